/- '==' of eight roles; Fork as a callee; a nil book. -/
import Derived.Test.YtodcebpdmjdplaaCH
namespace Go.Proofs.Ytodcebpdmjdplaa
open Go.RowKit

theorem eq_8 (x0 x1 x2 x3 x4 x5 x6 x7 y0 y1 y2 y3 y4 y5 y6 y7 : Int) (d : Nat) (w : World) :
    (Op.equalIn (d + 2) 43 (.agg #[.int .u8 x0, .int .u8 x1, .int .u8 x2, .int .u8 x3, .int .u8 x4, .int .u8 x5, .int .u8 x6, .int .u8 x7])
      (.agg #[.int .u8 y0, .int .u8 y1, .int .u8 y2, .int .u8 y3, .int .u8 y4, .int .u8 y5, .int .u8 y6, .int .u8 y7])).run Try.prog w
      = .ok (x0 == y0 && x1 == y1 && x2 == y2 && x3 == y3 && x4 == y4 && x5 == y5 && x6 == y6 && x7 == y7) w := by
  have u3 := Try.underlying29
  have a3 := Try.isAgg29
  have z3 := Try.sizeOf29
  rw [show d + 2 = (d + 1) + 1 from rfl, Op.equalIn]
  simp only [Sem.run_bind, run_underlying Try.underlying43, Result.andThen_ok]
  simp only [Std.Legacy.Range.forIn_eq_forIn_range', Std.Legacy.Range.size, Nat.sub_zero, Nat.add_sub_cancel, Nat.div_one, List.range'_succ, List.range'_zero, List.forIn_cons, List.forIn_nil]
  go_simp
  by_cases h0 : x0 = y0 <;> simp [h0]
  by_cases h1 : x1 = y1 <;> simp [h1]
  by_cases h2 : x2 = y2 <;> simp [h2]
  by_cases h3 : x3 = y3 <;> simp [h3]
  by_cases h4 : x4 = y4 <;> simp [h4]
  by_cases h5 : x5 = y5 <;> simp [h5]
  by_cases h6 : x6 = y6 <;> simp [h6]
  by_cases h7 : x7 = y7 <;> simp [h7]

def Vec.cv8 (v : Vec) : List CV := [.rig (.int .u8 v.x0), .rig (.int .u8 v.x1), .rig (.int .u8 v.x2), .rig (.int .u8 v.x3), .rig (.int .u8 v.x4), .rig (.int .u8 v.x5), .rig (.int .u8 v.x6), .rig (.int .u8 v.x7)]
def r8Of : List CV → Option Vec
  | [.rig (.int .u8 a), .rig (.int .u8 b), .rig (.int .u8 c), .rig (.int .u8 d), .rig (.int .u8 e), .rig (.int .u8 f), .rig (.int .u8 g), .rig (.int .u8 h)] => some ⟨a, b, c, d, e, f, g, h⟩
  | _ => none
theorem r8Of_eq {l : List CV} {v : Vec} (h : r8Of l = some v) : l = v.cv8 := by
  unfold r8Of at h; split at h <;> simp at h; subst h; rfl

def eq8 (t : TypeId) (x y : AV) : Option Bool :=
  match x, y with
  | .tv (.agg l), .tv (.agg m) => cond (Nat.beq t 43) (match r8Of l, r8Of m with | some a, some b => some (decide (a = b)) | _, _ => none) none
  | _, _ => none

theorem eq8_run {t : TypeId} {x y : AV} {b : Bool} (h : eq8 t x y = some b) (r : Nat → Nat) (w : World) :
    (Op.equalIn 10000 t (x.conc r) (y.conc r)).run Try.prog w = .ok b w ∧ Try.prog.eqGuardType Try.prog.depth t = false ∧ ∃ xs ys, x.conc r = .agg xs ∧ y.conc r = .agg ys := by
  unfold eq8 at h
  split at h
  · cases h1 : Nat.beq t 43 with
    | true =>
      simp only [h1, cond_true] at h
      obtain rfl := Nat.eq_of_beq_eq_true h1
      split at h
      · rename_i a b' ha hb
        simp at h; subst h
        rw [r8Of_eq ha, r8Of_eq hb]
        refine ⟨?_, by kernel_rfl, _, _, rfl, rfl⟩
        have := eq_8 a.x0 a.x1 a.x2 a.x3 a.x4 a.x5 a.x6 a.x7 b'.x0 b'.x1 b'.x2 b'.x3 b'.x4 b'.x5 b'.x6 b'.x7 9998 w
        refine this.trans ?_
        congr 1
        rw [Bool.eq_iff_iff]
        obtain ⟨_, _, _, _, _, _, _, _⟩ := a
        obtain ⟨_, _, _, _, _, _, _, _⟩ := b'
        simp [and_assoc]
      · simp at h
    | false => simp [h1] at h
  · simp at h

def eq8Q (ev : Operand → AV) (_ : AH) (op : Op) : Option (AV × List Nat × Option Prop) :=
  match op with
  | .binOp .eql t x y _ => match eq8 t (ev x) (ev y) with
    | some b => some (.b b, [], none)
    | none => none
  | .binOp .neq t x y _ => match eq8 t (ev x) (ev y) with
    | some b => some (.b (!b), [], none)
    | none => none
  | _ => none

theorem eq8Q_run {ev : Operand → AV} {H : AH} {o : Oper} {v : AV} {ft : List Nat} {pr : Option Prop} (h : eq8Q ev H o.op = some (v, ft, pr))
    {ρ : Operand → Value} {r : Nat → Nat} {w : World} (hev : ∀ x ∈ o.op.operands, ρ x = (ev x).conc r) : (execOp ρ o).run Try.prog w = .ok (.value (v.conc r)) w := by
  unfold execOp
  cases ho : o.op <;> rw [ho] at h hev <;> simp only [eq8Q] at h <;> first | (cases h; done) | skip
  rename_i bo t x y yt
  have hx := hev x (by simp [Op.operands])
  have hy := hev y (by simp [Op.operands])
  cases bo <;> simp only [eq8Q] at h <;> first | (cases h; done) | skip
  all_goals
    cases hb : eq8 t (ev x) (ev y) with
    | none => simp [hb] at h
    | some b =>
      simp [hb] at h
      obtain ⟨rfl, -⟩ := h
      obtain ⟨h1, h2, xs, ys, e1, e2⟩ := eq8_run hb r w
      simp only [hx, hy]
      rw [e1, e2] at h1 ⊢
      simp [run_eqGuard_agg (w := w) _ t x y xs ys h2, run_eql_struct, run_neq_struct, h1]
      rfl

/-- One callee more, what was known of it kept. -/
def CT.orQ {P : Program} (T : CT P) (f : FuncId) (q : List AV → AH → Option (AV × List Nat × Option Prop)) (hb : bodyB P f = true)
    (ok : ∀ args H v ft pr, q args H = some (v, ft, pr) → Owed pr → ∀ (r : Nat → Nat) (w : World), (∀ i ∈ ft, ∀ x, H[i]? = some x → w.heap[r i]? = some (x.1.conc r)) →
      Calls P f (args.map (AV.conc r)).toArray w fun e w' => e = .returned (v.conc r) ∧ Below w.heap.size w w') : CT P :=
  { T with
    q := fun g args H => cond (Nat.beq g f) (match q args H with | some x => some x | .none => T.q g args H) (T.q g args H)
    qok := fun g args H v ft pr h hp => by
      cases hg : Nat.beq g f with
      | false => rw [hg] at h; exact T.qok g args H v ft pr h hp
      | true =>
        rw [hg] at h
        simp only [cond_true] at h
        cases hq : q args H with
        | none => rw [hq] at h; exact T.qok g args H v ft pr h hp
        | some x =>
          rw [hq] at h
          cases h
          obtain rfl := Nat.eq_of_beq_eq_true hg
          exact ⟨hb, ok args H v ft pr hq hp⟩ }

def liveQ (args : List AV) (_ : AH) : Option (AV × List Nat × Option Prop) :=
  match args with
  | [] => some (.b true, [], none)
  | _ => none

def nilRoleQ (args : List AV) (_ : AH) : Option (AV × List Nat × Option Prop) :=
  match args with
  | [.tv (.one (.rig (.pointer none))), .tv (.one (.rig (.int .u8 _))), .tv (.agg l)] => match vecOf l with
    | some _ => some (.r (.int .u8 0), [], none)
    | none => none
  | _ => none

noncomputable def T9 : CT Try.prog :=
  ((T8.addOq eq8Q fun _ _ _ _ _ _ h _ _ _ _ hev _ => eq8Q_run h hev).addQ 14 liveQ (by kernel_rfl) fun _ _ _ _ _ h _ _ w _ => by
    unfold liveQ at h
    split at h
    · simp at h; obtain ⟨rfl, -⟩ := h; exact live_run w
    · simp at h).orQ 18 nilRoleQ (by kernel_rfl) fun _ _ _ _ _ h _ r w _ => by
    unfold nilRoleQ at h
    split at h
    · rename_i who l
      split at h
      · rename_i v hv
        simp at h; obtain ⟨rfl, -⟩ := h
        rw [vecOf_eq hv]
        exact fnP_calls (T := T8) (args := [.r (.pointer none), .r (.int .u8 who), v.av]) (D := []) (v := .int .u8 0) (ps := []) hmx (by kernel_rfl) trivial r w
      · simp at h
    · simp at h

def nilH (v : Vec) : AH := [(.cells [.rig (.pointer none)] 32, 0), (.cells v.cvs 27, 0), (.cells zeroVec.cv8 43, 2)]

theorem memb1N_run (v : Vec) (k : Nat) (hk : k < 8) {r : Nat → Nat} {W0 w : World} (hst : St r (nilH v) W0 w) :
    Calls Try.prog 31 (([.r (.int .i64 (k : Int)), .c (.ptr 0 0), .c (.ptr 1 0), .c (.ptr 2 0)].map (AV.conc r)).toArray) w fun x w' => x = .returned ((AV.tup []).conc r) ∧ St r (nilH v) W0 w' := by
  match k, hk with
  | 0, _ =>
    exact (fnA_keep hmx T9 (f := 31) (args := [.r (.int .i64 0), .c (.ptr 0 0), .c (.ptr 1 0), .c (.ptr 2 0)]) (H := nilH v) [] (.tup []) [(0 : Int) ≤ 0 ∧ (0 : Int) < 8] (nilH v) (by kernel_rfl) (by kernel_rfl) ⟨by omega, trivial⟩ (by kernel_rfl) (by kernel_rfl) (by kernel_rfl) (by kernel_rfl) hst)
  | 1, _ =>
    exact (fnA_keep hmx T9 (f := 31) (args := [.r (.int .i64 1), .c (.ptr 0 0), .c (.ptr 1 0), .c (.ptr 2 0)]) (H := nilH v) [] (.tup []) [(0 : Int) ≤ 1 ∧ (1 : Int) < 8] (nilH v) (by kernel_rfl) (by kernel_rfl) ⟨by omega, trivial⟩ (by kernel_rfl) (by kernel_rfl) (by kernel_rfl) (by kernel_rfl) hst)
  | 2, _ =>
    exact (fnA_keep hmx T9 (f := 31) (args := [.r (.int .i64 2), .c (.ptr 0 0), .c (.ptr 1 0), .c (.ptr 2 0)]) (H := nilH v) [] (.tup []) [(0 : Int) ≤ 2 ∧ (2 : Int) < 8] (nilH v) (by kernel_rfl) (by kernel_rfl) ⟨by omega, trivial⟩ (by kernel_rfl) (by kernel_rfl) (by kernel_rfl) (by kernel_rfl) hst)
  | 3, _ =>
    exact (fnA_keep hmx T9 (f := 31) (args := [.r (.int .i64 3), .c (.ptr 0 0), .c (.ptr 1 0), .c (.ptr 2 0)]) (H := nilH v) [] (.tup []) [(0 : Int) ≤ 3 ∧ (3 : Int) < 8] (nilH v) (by kernel_rfl) (by kernel_rfl) ⟨by omega, trivial⟩ (by kernel_rfl) (by kernel_rfl) (by kernel_rfl) (by kernel_rfl) hst)
  | 4, _ =>
    exact (fnA_keep hmx T9 (f := 31) (args := [.r (.int .i64 4), .c (.ptr 0 0), .c (.ptr 1 0), .c (.ptr 2 0)]) (H := nilH v) [] (.tup []) [(0 : Int) ≤ 4 ∧ (4 : Int) < 8] (nilH v) (by kernel_rfl) (by kernel_rfl) ⟨by omega, trivial⟩ (by kernel_rfl) (by kernel_rfl) (by kernel_rfl) (by kernel_rfl) hst)
  | 5, _ =>
    exact (fnA_keep hmx T9 (f := 31) (args := [.r (.int .i64 5), .c (.ptr 0 0), .c (.ptr 1 0), .c (.ptr 2 0)]) (H := nilH v) [] (.tup []) [(0 : Int) ≤ 5 ∧ (5 : Int) < 8] (nilH v) (by kernel_rfl) (by kernel_rfl) ⟨by omega, trivial⟩ (by kernel_rfl) (by kernel_rfl) (by kernel_rfl) (by kernel_rfl) hst)
  | 6, _ =>
    exact (fnA_keep hmx T9 (f := 31) (args := [.r (.int .i64 6), .c (.ptr 0 0), .c (.ptr 1 0), .c (.ptr 2 0)]) (H := nilH v) [] (.tup []) [(0 : Int) ≤ 6 ∧ (6 : Int) < 8] (nilH v) (by kernel_rfl) (by kernel_rfl) ⟨by omega, trivial⟩ (by kernel_rfl) (by kernel_rfl) (by kernel_rfl) (by kernel_rfl) hst)
  | 7, _ =>
    exact (fnA_keep hmx T9 (f := 31) (args := [.r (.int .i64 7), .c (.ptr 0 0), .c (.ptr 1 0), .c (.ptr 2 0)]) (H := nilH v) [] (.tup []) [(0 : Int) ≤ 7 ∧ (7 : Int) < 8] (nilH v) (by kernel_rfl) (by kernel_rfl) ⟨by omega, trivial⟩ (by kernel_rfl) (by kernel_rfl) (by kernel_rfl) (by kernel_rfl) hst)

end Go.Proofs.Ytodcebpdmjdplaa
