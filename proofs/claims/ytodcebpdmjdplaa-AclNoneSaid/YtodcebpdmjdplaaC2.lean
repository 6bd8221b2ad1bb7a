/- The table of callees: what is seen, the greatest of eight; '==' of dots, vectors, events. -/
import Derived.Test.YtodcebpdmjdplaaC1
import Derived.Test.YtodcebpdmjdplaaA2
import Derived.Test.YtodcebpdmjdplaaVG
namespace Go.Proofs.Ytodcebpdmjdplaa
open Go.RowKit

def Dot.cvs (d : Dot) : List CV := [.rig (.int .u8 d.a), .rig (.int .u32 d.s)]
def Vec.cvs (v : Vec) : List CV := [.rig (.int .u32 v.x0), .rig (.int .u32 v.x1), .rig (.int .u32 v.x2), .rig (.int .u32 v.x3), .rig (.int .u32 v.x4), .rig (.int .u32 v.x5), .rig (.int .u32 v.x6), .rig (.int .u32 v.x7)]

def dotOf : List CV → Option Dot
  | [.rig (.int .u8 a), .rig (.int .u32 s)] => some ⟨a, s⟩
  | _ => none
theorem dotOf_eq {l : List CV} {d : Dot} (h : dotOf l = some d) : l = d.cvs := by
  unfold dotOf at h; split at h <;> simp at h; subst h; rfl
def vecOf : List CV → Option Vec
  | [.rig (.int .u32 a), .rig (.int .u32 b), .rig (.int .u32 c), .rig (.int .u32 d), .rig (.int .u32 e), .rig (.int .u32 f), .rig (.int .u32 g), .rig (.int .u32 h)] => some ⟨a, b, c, d, e, f, g, h⟩
  | _ => none
theorem vecOf_eq {l : List CV} {v : Vec} (h : vecOf l = some v) : l = v.cvs := by
  unfold vecOf at h; split at h <;> simp at h; subst h; rfl
def evOf : List CV → Option Ev
  | [.rig (.int .u8 a), .rig (.int .u32 s), .rig (.int .u32 p0), .rig (.int .u32 p1), .rig (.int .u32 p2), .rig (.int .u32 p3), .rig (.int .u32 p4), .rig (.int .u32 p5), .rig (.int .u32 p6), .rig (.int .u32 p7),
      .rig (.int .u8 k), .rig (.int .u8 pa), .rig (.int .u32 ps), .rig (.bool r), .rig (.int .u8 c), .rig (.int .u8 wh), .rig (.int .u8 ro)] => some ⟨⟨a, s⟩, ⟨p0, p1, p2, p3, p4, p5, p6, p7⟩, k, ⟨pa, ps⟩, r, c, wh, ro⟩
  | _ => none
theorem evOf_eq {l : List CV} {e : Ev} (h : evOf l = some e) : l = e.cvs := by
  unfold evOf at h; split at h <;> simp at h; subst h; rfl

/-- '==' of what has parts. -/
def eqParts (t : TypeId) (x y : AV) : Option Bool :=
  match x, y with
  | .tv (.agg l), .tv (.agg m) =>
    cond (Nat.beq t 31) (match evOf l, evOf m with | some a, some b => some (decide (a = b)) | _, _ => none)
      (cond (Nat.beq t 27) (match vecOf l, vecOf m with | some a, some b => some (decide (a = b)) | _, _ => none)
        (cond (Nat.beq t 25) (match dotOf l, dotOf m with | some a, some b => some (decide (a = b)) | _, _ => none) none))
  | _, _ => none

theorem eqParts_run {t : TypeId} {x y : AV} {b : Bool} (h : eqParts t x y = some b) (r : Nat → Nat) (w : World) :
    (Op.equalIn 10000 t (x.conc r) (y.conc r)).run Try.prog w = .ok b w ∧ Try.prog.eqGuardType Try.prog.depth t = false ∧ ∃ xs ys, x.conc r = .agg xs ∧ y.conc r = .agg ys := by
  unfold eqParts at h
  split at h
  · rename_i l m
    cases h1 : Nat.beq t 31 with
    | true =>
      simp only [h1, cond_true] at h
      obtain rfl := Nat.eq_of_beq_eq_true h1
      split at h
      · rename_i a b' ha hb
        simp at h; subst h
        rw [evOf_eq ha, evOf_eq hb]
        refine ⟨?_, by kernel_rfl, _, _, rfl, rfl⟩
        have := eq_ev a.d.a a.d.s a.p.x0 a.p.x1 a.p.x2 a.p.x3 a.p.x4 a.p.x5 a.p.x6 a.p.x7 a.k a.par.a a.par.s a.ch a.who a.role b'.d.a b'.d.s b'.p.x0 b'.p.x1 b'.p.x2 b'.p.x3 b'.p.x4 b'.p.x5 b'.p.x6 b'.p.x7 b'.k b'.par.a b'.par.s b'.ch b'.who b'.role a.right b'.right w
        refine this.trans ?_
        congr 1
        rw [Bool.eq_iff_iff]
        obtain ⟨⟨_, _⟩, ⟨_, _, _, _, _, _, _, _⟩, _, ⟨_, _⟩, _, _, _, _⟩ := a
        obtain ⟨⟨_, _⟩, ⟨_, _, _, _, _, _, _, _⟩, _, ⟨_, _⟩, _, _, _, _⟩ := b'
        simp [and_assoc]
      · simp at h
    | false =>
      simp only [h1, cond_false] at h
      cases h2 : Nat.beq t 27 with
      | true =>
        simp only [h2, cond_true] at h
        obtain rfl := Nat.eq_of_beq_eq_true h2
        split at h
        · rename_i a b' ha hb
          simp at h; subst h
          rw [vecOf_eq ha, vecOf_eq hb]
          refine ⟨?_, by kernel_rfl, _, _, rfl, rfl⟩
          have := eq_vec a.x0 a.x1 a.x2 a.x3 a.x4 a.x5 a.x6 a.x7 b'.x0 b'.x1 b'.x2 b'.x3 b'.x4 b'.x5 b'.x6 b'.x7 9998 w
          refine this.trans ?_
          congr 1
          rw [Bool.eq_iff_iff]
          obtain ⟨_, _, _, _, _, _, _, _⟩ := a
          obtain ⟨_, _, _, _, _, _, _, _⟩ := b'
          simp [and_assoc]
        · simp at h
      | false =>
        simp only [h2, cond_false] at h
        cases h3 : Nat.beq t 25 with
        | true =>
          simp only [h3, cond_true] at h
          obtain rfl := Nat.eq_of_beq_eq_true h3
          split at h
          · rename_i a b' ha hb
            simp at h; subst h
            rw [dotOf_eq ha, dotOf_eq hb]
            refine ⟨?_, by kernel_rfl, _, _, rfl, rfl⟩
            have := eq_dot a.a a.s b'.a b'.s 9998 w
            refine this.trans ?_
            congr 1
            rw [Bool.eq_iff_iff]
            obtain ⟨_, _⟩ := a
            obtain ⟨_, _⟩ := b'
            simp
          · simp at h
        | false => simp [h3] at h
  · simp at h

def eqQ (ev : Operand → AV) (_ : AH) (op : Op) : Option (AV × List Nat × Option Prop) :=
  match op with
  | .binOp .eql t x y _ => match eqParts t (ev x) (ev y) with
    | some b => some (.b b, [], none)
    | none => none
  | .binOp .neq t x y _ => match eqParts t (ev x) (ev y) with
    | some b => some (.b (!b), [], none)
    | none => none
  | _ => none

theorem eqQ_run {ev : Operand → AV} {H : AH} {o : Oper} {v : AV} {ft : List Nat} {pr : Option Prop} (h : eqQ ev H o.op = some (v, ft, pr))
    {ρ : Operand → Value} {r : Nat → Nat} {w : World} (hev : ∀ x ∈ o.op.operands, ρ x = (ev x).conc r) : (execOp ρ o).run Try.prog w = .ok (.value (v.conc r)) w := by
  unfold execOp
  cases ho : o.op <;> rw [ho] at h hev <;> simp only [eqQ] at h <;> first | (cases h; done) | skip
  rename_i bo t x y yt
  have hx := hev x (by simp [Op.operands])
  have hy := hev y (by simp [Op.operands])
  cases bo <;> simp only [eqQ] at h <;> first | (cases h; done) | skip
  all_goals
    cases hb : eqParts t (ev x) (ev y) with
    | none => simp [hb] at h
    | some b =>
      simp [hb] at h
      obtain ⟨rfl, -⟩ := h
      obtain ⟨h1, h2, xs, ys, e1, e2⟩ := eqParts_run hb r w
      simp only [hx, hy]
      rw [e1, e2] at h1 ⊢
      simp [run_eqGuard_agg (w := w) _ t x y xs ys h2, run_eql_struct, run_neq_struct, h1]
      rfl

noncomputable def T0 : CT Try.prog := (CT.base Try.prog).addOq eqQ fun _ _ _ _ _ _ h _ _ _ _ hev _ => eqQ_run h hev

def hasQ (args : List AV) (_ : AH) : Option (AV × List Nat × Option Prop) :=
  match args with
  | [.tv (.agg l), .tv (.agg m)] => match vecOf l, dotOf m with
    | some v, some d => some (.b (hasB v d), [], some d.ok)
    | _, _ => none
  | _ => none

theorem hasQ_args {args : List AV} {H : AH} {v : AV} {ft : List Nat} {pr : Option Prop} (h : hasQ args H = some (v, ft, pr)) : ∃ x d, args = [x.av, d.av] ∧ v = .b (hasB x d) ∧ pr = some d.ok := by
  unfold hasQ at h
  split at h
  · split at h
    · rename_i v d hv hd
      simp at h
      rw [vecOf_eq hv, dotOf_eq hd]
      exact ⟨v, d, rfl, h.1.symm, h.2.2.symm⟩
    · simp at h
  · simp at h

def maxQ (args : List AV) (H : AH) : Option (AV × List Nat × Option Prop) :=
  match args with
  | [.tv (.one (.slc i o 8 8))] => match H[i]? with
    | some (.cells cs _, _) => match vecOf ((cs.drop o).take 8) with
      | some v => some (.r (.int .u32 (v.maxTo 7)), [i], none)
      | none => none
    | _ => none
  | _ => none

theorem maxQ_ok {args : List AV} {H : AH} {v : AV} {ft : List Nat} {pr : Option Prop} (h : maxQ args H = some (v, ft, pr)) (r : Nat → Nat) (w : World) (hat : ∀ i ∈ ft, ∀ x, H[i]? = some x → w.heap[r i]? = some (x.1.conc r)) :
    Calls Try.prog 38 (args.map (AV.conc r)).toArray w fun e w' => e = .returned (v.conc r) ∧ Below w.heap.size w w' := by
  unfold maxQ at h
  split at h
  · rename_i i o
    split at h
    · rename_i cs t f hH
      cases hv : vecOf ((cs.drop o).take 8) with
      | none => simp [hv] at h
      | some x =>
        simp [hv] at h
        obtain ⟨rfl, rfl, -⟩ := h
        have hb := hat i (by simp) _ hH
        have hx := vecOf_eq hv
        refine (max_any x (r i) o w fun k hk => ?_).mono ?_
        · have h1 : ((cs.drop o).take 8)[k]? = some (.rig (.int .u32 (x.get k))) := by rw [hx]; exact vec_cv x k hk
          rw [List.getElem?_take, if_pos hk, List.getElem?_drop] at h1
          simp [World.cell?, hb, AO.conc, h1, CV.conc]
        · rintro e w' ⟨rfl, rfl⟩
          exact ⟨rfl, Below.refl _ _⟩
    · simp at h
  · simp at h

noncomputable def T1 : CT Try.prog :=
  ((T0.addQ 39 hasQ (by kernel_rfl) fun _ _ _ _ _ h hp r w _ => by
    obtain ⟨x, d, rfl, rfl, rfl⟩ := hasQ_args h
    exact has_run x d hp.some r w).addQ 20 hasQ (by kernel_rfl) fun _ _ _ _ _ h hp r w _ => by
    obtain ⟨x, d, rfl, rfl, rfl⟩ := hasQ_args h
    exact rhas_run x d hp.some r w).addQ 38 maxQ (by kernel_rfl) fun _ _ _ _ _ h _ r w hat => maxQ_ok h r w hat

def noneB (d : Dot) : Bool := decide (d.a = 0) && decide (d.s = 0)

theorem none_run (d : Dot) (r : Nat → Nat) (w : World) :
    Calls Try.prog 35 ([d.av].map (AV.conc r)).toArray w fun e w' => e = .returned (.bool (noneB d)) ∧ Below w.heap.size w w' := by
  cases h1 : (d.a == 0) with
  | false =>
    refine fnP_leaf (T := T1) hmx (D := [Dec.s 1004 6 false]) (v := Value.bool false) (ps := [(d.a == 0) = false]) (by kernel_rfl) ⟨h1, trivial⟩ ?_ r w
    all_goals (
      first
      | (simp_all [noneB]; done)
      | (simp_all [noneB]; rw [Bool.eq_iff_iff]; simp))
  | true =>
    refine fnP_leaf (T := T1) hmx (D := [Dec.s 1004 6 true]) (v := Value.bool (d.s == 0)) (ps := [(d.a == 0) = true]) (by kernel_rfl) ⟨h1, trivial⟩ ?_ r w
    all_goals (
      first
      | (simp_all [noneB]; done)
      | (simp_all [noneB]; rw [Bool.eq_iff_iff]; simp))


def beforeB (a b : Ev) : Bool := hasB b.p a.d

theorem before_run (a b : Ev) (ha : a.d.ok) (r : Nat → Nat) (w : World) :
    Calls Try.prog 41 ([a.av, b.av].map (AV.conc r)).toArray w fun e w' => e = .returned (.bool (beforeB a b)) ∧ Below w.heap.size w w' := by
  refine fnP_leaf (T := T1) hmx (D := []) (v := Value.bool (hasB b.p a.d)) (ps := [a.d.ok]) (by kernel_rfl) ⟨?_, trivial⟩ ?_ r w
  all_goals (
    first
    | exact ha
    | rfl)


theorem rbefore_run (a b : Ev) (ha : a.d.ok) (r : Nat → Nat) (w : World) :
    Calls Try.prog 17 ([a.av, b.av].map (AV.conc r)).toArray w fun e w' => e = .returned (.bool (beforeB a b)) ∧ Below w.heap.size w w' := by
  refine fnP_leaf (T := T1) hmx (D := []) (v := Value.bool (hasB b.p a.d)) (ps := [a.d.ok]) (by kernel_rfl) ⟨?_, trivial⟩ ?_ r w
  all_goals (
    first
    | exact ha
    | rfl)


end Go.Proofs.Ytodcebpdmjdplaa
