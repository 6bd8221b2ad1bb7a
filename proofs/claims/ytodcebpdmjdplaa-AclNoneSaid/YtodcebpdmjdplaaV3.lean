/- The executor, third part: the operations that leave the world alone. -/
import Derived.Test.YtodcebpdmjdplaaV2
namespace Go.Proofs.Ytodcebpdmjdplaa
open Go.RowKit
variable {P : Program}

def intBin (op : BinOp) (k : IntKind) (a b : Int) : Option Value :=
  match op with
  | .add => some (.int k (k.wrap (a + b)))
  | .sub => some (.int k (k.wrap (a - b)))
  | .mul => some (.int k (k.wrap (a * b)))
  | .eql => some (.bool (a == b))
  | .neq => some (.bool (a != b))
  | .lss => some (.bool (decide (a < b)))
  | .leq => some (.bool (decide (a ≤ b)))
  | .gtr => some (.bool (decide (a > b)))
  | .geq => some (.bool (decide (a ≥ b)))
  | _ => none

def kindB : IntKind → IntKind → Bool
  | .i8, .i8 | .i16, .i16 | .i32, .i32 | .i64, .i64 | .u8, .u8 | .u16, .u16 | .u32, .u32 | .u64, .u64 => true
  | _, _ => false
theorem kindB_eq {a b : IntKind} (h : kindB a b = true) : a = b := by cases a <;> cases b <;> first | rfl | (simp [kindB] at h)

/-- Is it nil, as a pointer, a slice, a map? none: neither here nor there. -/
def nilB (d : TypeDesc) (c : CV) : Option Bool :=
  match d, c with
  | .pointer _, .ptr _ _ => some false
  | .pointer _, .rig (.pointer none) => some true
  | .slice _, .slc _ _ _ _ => some false
  | .slice _, .rig (.slice none _ _) => some true
  | .map _ _, .mp _ => some false
  | .map _ _, .rig (.map none) => some true
  | _, _ => none

theorem nilB_cases {d : TypeDesc} {c : CV} {b : Bool} (h : nilB d c = some b) :
    (∃ e, d = .pointer e ∧ ((∃ i o, c = .ptr i o ∧ b = false) ∨ (c = .rig (.pointer none) ∧ b = true))) ∨
    (∃ e, d = .slice e ∧ ((∃ i o n m, c = .slc i o n m ∧ b = false) ∨ (∃ n m, c = .rig (.slice none n m) ∧ b = true))) ∨
    (∃ k e, d = .map k e ∧ ((∃ i, c = .mp i ∧ b = false) ∨ (c = .rig (.map none) ∧ b = true))) := by
  unfold nilB at h
  split at h <;> simp at h <;> subst h <;> simp

/-- '==' where one side is nil. -/
def eqNil (P : Program) (t : TypeId) (x y : CV) : Option Bool :=
  match P.underlying t with
  | some d =>
    match nilB d x, nilB d y with
    | some true, some b => some b
    | some false, some true => some false
    | _, _ => none
  | none => none

theorem eqNil_spec {t : TypeId} {x y : CV} {b : Bool} (h : eqNil P t x y = some b) :
    ∃ d bx bY, P.underlying t = some d ∧ nilB d x = some bx ∧ nilB d y = some bY ∧ ((bx = true ∧ b = bY) ∨ (bx = false ∧ bY = true ∧ b = false)) := by
  unfold eqNil at h
  cases hu : P.underlying t with
  | none => simp [hu] at h
  | some d =>
    cases hx : nilB d x with
    | none => simp [hu, hx] at h
    | some bx =>
      cases hy : nilB d y with
      | none => cases bx <;> simp [hu, hx, hy] at h
      | some bY =>
        refine ⟨d, bx, bY, rfl, hx, hy, ?_⟩
        cases bx <;> cases bY <;> simp [hu, hx, hy] at h <;> subst h <;> simp

theorem eqNil_run {t : TypeId} {x y : CV} {b : Bool} (h : eqNil P t x y = some b) (r : Nat → Nat) (w : World) : (Op.equal t (x.conc r) (y.conc r)).run P w = .ok b w := by
  obtain ⟨d, bx, bY, hu, hx, hy, hb⟩ := eqNil_spec h
  have key : ∀ u v : Value, (Op.equal t u v).run P w = ((Op.equalIn (9999 + 1) t u v).run P w) := fun _ _ => rfl
  rw [key]
  unfold Op.equalIn
  simp only [Sem.run_bind, run_underlying hu, Result.andThen_ok]
  rcases nilB_cases hx with ⟨e, rfl, kx⟩ | ⟨e, rfl, kx⟩ | ⟨k, e, rfl, kx⟩
  · rcases nilB_cases hy with ⟨e, he, ky⟩ | ⟨e, he, ky⟩ | ⟨k, e, he, ky⟩ <;> first | (simp at he; done) | skip
    rcases kx with ⟨i, o, rfl, rfl⟩ | ⟨rfl, rfl⟩ <;> rcases ky with ⟨i', o', rfl, rfl⟩ | ⟨rfl, rfl⟩ <;> simp at hb <;> subst hb <;> simp [CV.conc]
  · rcases nilB_cases hy with ⟨e, he, ky⟩ | ⟨e, he, ky⟩ | ⟨k, e, he, ky⟩ <;> first | (simp at he; done) | skip
    rcases kx with ⟨i, o, n, m, rfl, rfl⟩ | ⟨n, m, rfl, rfl⟩ <;> rcases ky with ⟨i', o', n', m', rfl, rfl⟩ | ⟨n', m', rfl, rfl⟩ <;> simp at hb <;> subst hb <;> simp [CV.conc]
  · rcases nilB_cases hy with ⟨e, he, ky⟩ | ⟨e, he, ky⟩ | ⟨k', e', he, ky⟩ <;> first | (simp at he; done) | skip
    rcases kx with ⟨i, rfl, rfl⟩ | ⟨rfl, rfl⟩ <;> rcases ky with ⟨i', rfl, rfl⟩ | ⟨rfl, rfl⟩ <;> simp at hb <;> subst hb <;> simp [CV.conc]

def binA (P : Program) (op : BinOp) (t : TypeId) (x y : AV) : Option Value :=
  match x, y with
  | .tv (.one (.rig (.int k a))), .tv (.one (.rig (.int k' b))) => cond (kindB k k') (intBin op k a b) none
  | .tv (.one (.rig (.bool a))), .tv (.one (.rig (.bool b))) =>
    match P.underlying t, op with
    | some .bool, .eql => some (.bool (a == b))
    | some .bool, .neq => some (.bool (!(a == b)))
    | _, _ => none
  | .tv (.one x), .tv (.one y) =>
    match op with
    | .eql => (eqNil P t x y).map fun b => .bool b
    | .neq => (eqNil P t x y).map fun b => .bool (!b)
    | _ => none
  | _, _ => none

theorem nilB_form {d : TypeDesc} {c : CV} {b : Bool} (h : nilB d c = some b) (r : Nat → Nat) : (∃ u, c.conc r = .pointer u) ∨ (∃ u n m, c.conc r = .slice u n m) ∨ (∃ q, c.conc r = .map q) := by
  rcases nilB_cases h with ⟨e, rfl, ⟨i, o, rfl, rfl⟩ | ⟨rfl, rfl⟩⟩ | ⟨e, rfl, ⟨i, o, n, m, rfl, rfl⟩ | ⟨n, m, rfl, rfl⟩⟩ | ⟨k, e, rfl, ⟨i, rfl, rfl⟩ | ⟨rfl, rfl⟩⟩ <;> simp [CV.conc]

theorem eqNil_bin {t : TypeId} {x y : CV} {b : Bool} (h : eqNil P t x y = some b) (r : Nat → Nat) (xo yo : Operand) (w : World) :
    (do eqGuard .eql t xo yo (x.conc r) (y.conc r); binOp .eql t (x.conc r) (y.conc r) : Sem Value).run P w = .ok (.bool b) w ∧
    (do eqGuard .neq t xo yo (x.conc r) (y.conc r); binOp .neq t (x.conc r) (y.conc r) : Sem Value).run P w = .ok (.bool (!b)) w := by
  have hr := eqNil_run h r w
  obtain ⟨d, bx, bY, hu, hx, hy, hb⟩ := eqNil_spec h
  rcases nilB_form hx r with ⟨u, h1⟩ | ⟨u, n, m, h1⟩ | ⟨q, h1⟩ <;> rw [h1] at hr ⊢ <;>
    rcases nilB_form hy r with ⟨u', h2⟩ | ⟨u', n', m', h2⟩ | ⟨q', h2⟩ <;> rw [h2] at hr ⊢ <;>
    simp [binOp, hr, go_sem]

theorem binA_run {op : BinOp} {t : TypeId} {x y : AV} {v : Value} (h : binA P op t x y = some v) (r : Nat → Nat) (xo yo : Operand) (w : World) :
    (do eqGuard op t xo yo (x.conc r) (y.conc r); binOp op t (x.conc r) (y.conc r) : Sem Value).run P w = .ok v w := by
  unfold binA at h
  split at h
  · rename_i k a k' b
    cases hk : kindB k k' with
    | false => simp [hk] at h
    | true =>
      have := kindB_eq hk
      subst this
      simp only [hk, cond_true] at h
      simp only [AV.conc, TV.conc, CV.conc, eqGuard_at_int]
      unfold intBin at h
      split at h <;> simp at h <;> subst h <;> simp [go_sem, Op.intArith] <;> rfl
  · rename_i a b
    split at h
    · rename_i hu _
      simp at h; subst h
      simp only [AV.conc, TV.conc, CV.conc, eqGuard_at_bool]
      simp [binOp, run_equal_bool w t a b (by assumption)]
    · rename_i hu _
      simp at h; subst h
      simp only [AV.conc, TV.conc, CV.conc, eqGuard_at_bool]
      simp [binOp, run_equal_bool w t a b (by assumption)]
    · simp at h
  · rename_i x y _ _
    split at h
    · cases he : eqNil P t x y with
      | none => simp [he] at h
      | some b =>
        simp [he] at h; subst h
        exact (eqNil_bin he r xo yo w).1
    · cases he : eqNil P t x y with
      | none => simp [he] at h
      | some b =>
        simp [he] at h; subst h
        exact (eqNil_bin he r xo yo w).2
    · simp at h
  · simp at h

end Go.Proofs.Ytodcebpdmjdplaa
