/- Contracts of what is seen and what is ahead: by runs. The table of callees: what is seen, the greatest of eight; '==' of dots, vectors, events. What is right: the program's and the document's. -/
import Derived.Test.YtodcebpdmjdplaaJ8
import Derived.Test.YtodcebpdmjdplaaJ7
import Derived.Test.YtodcebpdmjdplaaJ9
namespace Go.Proofs.Ytodcebpdmjdplaa
open Go.RowKit

theorem hmx : Try.prog.follows .mixedOrders = true := by kernel_rfl

theorem wrap_i64_u8 {x : Int} (h0 : 0 ≤ x) (h1 : x < 256) : IntKind.i64.wrap x = x := by
  exact IntWalk.i64_in _ (by omega)

theorem vec_cv (v : Vec) (n : Nat) (h : n < 8) : [CV.rig (.int .u32 v.x0), CV.rig (.int .u32 v.x1), CV.rig (.int .u32 v.x2), CV.rig (.int .u32 v.x3), CV.rig (.int .u32 v.x4), CV.rig (.int .u32 v.x5), CV.rig (.int .u32 v.x6), CV.rig (.int .u32 v.x7)][n]? = some (.rig (.int .u32 (v.get n))) := by
  match n, h with
  | 0, _ => rfl
  | 1, _ => rfl
  | 2, _ => rfl
  | 3, _ => rfl
  | 4, _ => rfl
  | 5, _ => rfl
  | 6, _ => rfl
  | 7, _ => rfl

theorem has_run (v : Vec) (d : Dot) (hd : d.ok) (r : Gh) (w : World) :
    Calls Try.prog 39 ([v.av, d.av].map (AV.conc r)).toArray w fun e w' => e = .returned (.bool (hasB v d)) ∧ Below w.heap.size w w' := by
  have a0 := hd.a0
  have a1 := hd.a1
  have hw := wrap_i64_u8 a0 a1
  cases h1 : (decide (IntKind.i64.wrap d.a < 8)) with
  | false =>
    refine fnP_leaf (T := CT.none _) hmx (D := [Dec.s 1005 9 false]) (v := Value.bool false) (ps := [decide (IntKind.i64.wrap d.a < 8) = false]) (by kernel_rfl) ⟨h1, trivial⟩ ?_ r w
    all_goals (
      first
      | (simp [hw] at h1; simp_all [hasB]; done)
      | (simp [hw] at h1; simp [hasB]; omega)
      | (simp [hw] at h1; omega)
      | (simp [hw] at h1; have := vec_cv v d.a.toNat (by omega); simpa using this))
  | true =>
    cases h2 : (d.s != 0) with
    | false =>
      refine fnP_leaf (T := CT.none _) hmx (D := [Dec.s 1005 9 true, Dec.s 1010 14 false]) (v := Value.bool false) (ps := [decide (IntKind.i64.wrap d.a < 8) = true, (d.s != 0) = false]) (by kernel_rfl) ⟨h1, h2, trivial⟩ ?_ r w
      all_goals (
        first
        | (simp [hw] at h1; simp_all [hasB]; done)
        | (simp [hw] at h1; simp [hasB]; omega)
        | (simp [hw] at h1; omega)
        | (simp [hw] at h1; have := vec_cv v d.a.toNat (by omega); simpa using this))
    | true =>
      refine fnP_leaf (T := CT.none _) hmx (D := [Dec.s 1005 9 true, Dec.s 1010 14 true, Dec.l 1015 (TV.one (CV.rig (Value.int IntKind.u32 (v.get d.a.toNat))))]) (v := Value.bool (decide (d.s ≤ v.get d.a.toNat))) (ps := [decide (IntKind.i64.wrap d.a < 8) = true, (d.s != 0) = true, 0 ≤ d.a ∧ d.a < ↑8, [CV.rig (Value.int IntKind.u32 v.x0), CV.rig (Value.int IntKind.u32 v.x1), CV.rig (Value.int IntKind.u32 v.x2), CV.rig (Value.int IntKind.u32 v.x3), CV.rig (Value.int IntKind.u32 v.x4), CV.rig (Value.int IntKind.u32 v.x5), CV.rig (Value.int IntKind.u32 v.x6), CV.rig (Value.int IntKind.u32 v.x7)][0 + d.a.toNat * 1]? = some (CV.rig (Value.int IntKind.u32 (v.get d.a.toNat)))]) (by kernel_rfl) ⟨h1, h2, ?_, ?_, trivial⟩ ?_ r w
      all_goals (
        first
        | (simp [hw] at h1; simp_all [hasB]; done)
        | (simp [hw] at h1; simp; omega)
        | (simp [hw] at h1; omega)
        | (simp [hw] at h1; have := vec_cv v d.a.toNat (by omega); simpa using this))


theorem rhas_run (v : Vec) (d : Dot) (hd : d.ok) (r : Gh) (w : World) :
    Calls Try.prog 20 ([v.av, d.av].map (AV.conc r)).toArray w fun e w' => e = .returned (.bool (hasB v d)) ∧ Below w.heap.size w w' := by
  have a0 := hd.a0
  have a1 := hd.a1
  have s0 := hd.s0
  cases h1 : (decide (d.a < 8)) with
  | false =>
    refine fnP_leaf (T := CT.none _) hmx (D := [Dec.s 1004 8 false]) (v := Value.bool false) (ps := [decide (d.a < 8) = false]) (by kernel_rfl) ⟨h1, trivial⟩ ?_ r w
    all_goals (
      first
      | (simp_all [hasB]; done)
      | (simp at h1; simp_all [hasB]; omega)
      | (simp at h1; omega)
      | (simp at h1; have := vec_cv v d.a.toNat (by omega); simpa using this))
  | true =>
    cases h2 : (decide (d.s > 0)) with
    | false =>
      refine fnP_leaf (T := CT.none _) hmx (D := [Dec.s 1004 8 true, Dec.s 1009 13 false]) (v := Value.bool false) (ps := [decide (d.a < 8) = true, decide (d.s > 0) = false]) (by kernel_rfl) ⟨h1, h2, trivial⟩ ?_ r w
      all_goals (
        first
        | (simp_all [hasB]; done)
        | (simp at h1; simp_all [hasB]; omega)
        | (simp at h1; omega)
        | (simp at h1; have := vec_cv v d.a.toNat (by omega); simpa using this))
    | true =>
      refine fnP_leaf (T := CT.none _) hmx (D := [Dec.s 1004 8 true, Dec.s 1009 13 true, Dec.l 1014 (TV.one (CV.rig (Value.int IntKind.u32 (v.get d.a.toNat))))]) (v := Value.bool (decide (d.s ≤ v.get d.a.toNat))) (ps := [decide (d.a < 8) = true, decide (d.s > 0) = true, 0 ≤ d.a ∧ d.a < ↑8, [CV.rig (Value.int IntKind.u32 v.x0), CV.rig (Value.int IntKind.u32 v.x1), CV.rig (Value.int IntKind.u32 v.x2), CV.rig (Value.int IntKind.u32 v.x3), CV.rig (Value.int IntKind.u32 v.x4), CV.rig (Value.int IntKind.u32 v.x5), CV.rig (Value.int IntKind.u32 v.x6), CV.rig (Value.int IntKind.u32 v.x7)][0 + d.a.toNat * 1]? = some (CV.rig (Value.int IntKind.u32 (v.get d.a.toNat)))]) (by kernel_rfl) ⟨h1, h2, ?_, ?_, trivial⟩ ?_ r w
      all_goals (
        first
        | (simp_all [hasB]; done)
        | (simp at h1; simp_all [hasB]; omega)
        | (simp at h1; omega)
        | (simp at h1; have := vec_cv v d.a.toNat (by omega); simpa using this))


end Go.Proofs.Ytodcebpdmjdplaa

namespace Go.Proofs.Ytodcebpdmjdplaa
open Go.RowKit

/-- '==' of what has parts. -/
def eqParts (t : TypeId) (x y : AV) : Option Bool :=
  match x, y with
  | .tv (.agg l), .tv (.agg m) =>
    cond (Nat.beq t 31) (match evOf l, evOf m with | some a, some b => some (decide (a = b)) | _, _ => none)
      (cond (Nat.beq t 27) (match vecOf l, vecOf m with | some a, some b => some (decide (a = b)) | _, _ => none)
        (cond (Nat.beq t 25) (match dotOf l, dotOf m with | some a, some b => some (decide (a = b)) | _, _ => none) none))
  | _, _ => none

set_option maxRecDepth 8000 in
theorem eqParts_run {t : TypeId} {x y : AV} {b : Bool} (h : eqParts t x y = some b) (r : Gh) (w : World) :
    (Op.equalIn 10000 t (x.conc r) (y.conc r)).run Try.prog w = .ok b w ∧ Try.prog.eqGuardType Try.prog.depth t = false ∧ ∃ xs ys, x.conc r = .agg xs ∧ y.conc r = .agg ys := by
  unfold eqParts at h
  split at h
  · rename_i l m
    cases h1 : Nat.beq t 31 with
    | true =>
      simp only [h1, cond_true] at h
      obtain rfl := Nat.eq_of_beq_eq_true h1
      split at h
      · rename_i a b' ha hb
        simp at h; subst h
        rw [evOf_eq ha, evOf_eq hb]
        refine ⟨?_, by kernel_rfl, _, _, rfl, rfl⟩
        have := eq_ev a.d.a a.d.s a.p.x0 a.p.x1 a.p.x2 a.p.x3 a.p.x4 a.p.x5 a.p.x6 a.p.x7 a.k a.par.a a.par.s a.ch a.who a.role b'.d.a b'.d.s b'.p.x0 b'.p.x1 b'.p.x2 b'.p.x3 b'.p.x4 b'.p.x5 b'.p.x6 b'.p.x7 b'.k b'.par.a b'.par.s b'.ch b'.who b'.role a.right b'.right w
        refine this.trans ?_
        congr 1
        rw [Bool.eq_iff_iff]
        obtain ⟨⟨_, _⟩, ⟨_, _, _, _, _, _, _, _⟩, _, ⟨_, _⟩, _, _, _, _⟩ := a
        obtain ⟨⟨_, _⟩, ⟨_, _, _, _, _, _, _, _⟩, _, ⟨_, _⟩, _, _, _, _⟩ := b'
        simp [and_assoc]
      · simp at h
    | false =>
      simp only [h1, cond_false] at h
      cases h2 : Nat.beq t 27 with
      | true =>
        simp only [h2, cond_true] at h
        obtain rfl := Nat.eq_of_beq_eq_true h2
        split at h
        · rename_i a b' ha hb
          simp at h; subst h
          rw [vecOf_eq ha, vecOf_eq hb]
          refine ⟨?_, by kernel_rfl, _, _, rfl, rfl⟩
          have := eq_vec a.x0 a.x1 a.x2 a.x3 a.x4 a.x5 a.x6 a.x7 b'.x0 b'.x1 b'.x2 b'.x3 b'.x4 b'.x5 b'.x6 b'.x7 9998 w
          refine this.trans ?_
          congr 1
          rw [Bool.eq_iff_iff]
          obtain ⟨_, _, _, _, _, _, _, _⟩ := a
          obtain ⟨_, _, _, _, _, _, _, _⟩ := b'
          simp [and_assoc]
        · simp at h
      | false =>
        simp only [h2, cond_false] at h
        cases h3 : Nat.beq t 25 with
        | true =>
          simp only [h3, cond_true] at h
          obtain rfl := Nat.eq_of_beq_eq_true h3
          split at h
          · rename_i a b' ha hb
            simp at h; subst h
            rw [dotOf_eq ha, dotOf_eq hb]
            refine ⟨?_, by kernel_rfl, _, _, rfl, rfl⟩
            have := eq_dot a.a a.s b'.a b'.s 9998 w
            refine this.trans ?_
            congr 1
            rw [Bool.eq_iff_iff]
            obtain ⟨_, _⟩ := a
            obtain ⟨_, _⟩ := b'
            simp
          · simp at h
        | false => simp [h3] at h
  · simp at h

def eqQ (ev : Operand → AV) (_ : AH) (op : Op) : Option (AV × List Nat × Option Prop) :=
  match op with
  | .binOp .eql t x y _ => match eqParts t (ev x) (ev y) with
    | some b => some (.b b, [], none)
    | none => none
  | .binOp .neq t x y _ => match eqParts t (ev x) (ev y) with
    | some b => some (.b (!b), [], none)
    | none => none
  | _ => none

theorem eqQ_run {ev : Operand → AV} {H : AH} {o : Oper} {v : AV} {ft : List Nat} {pr : Option Prop} (h : eqQ ev H o.op = some (v, ft, pr))
    {ρ : Operand → Value} {r : Gh} {w : World} (hev : ∀ x ∈ o.op.operands, ρ x = (ev x).conc r) : (execOp ρ o).run Try.prog w = .ok (.value (v.conc r)) w := by
  unfold execOp
  cases ho : o.op <;> rw [ho] at h hev <;> simp only [eqQ] at h <;> first | (cases h; done) | skip
  rename_i bo t x y yt
  have hx := hev x (by simp [Op.operands])
  have hy := hev y (by simp [Op.operands])
  cases bo <;> simp only at h <;> first | (cases h; done) | skip
  all_goals
    cases hb : eqParts t (ev x) (ev y) with
    | none => simp [hb] at h
    | some b =>
      simp [hb] at h
      obtain ⟨rfl, -⟩ := h
      obtain ⟨h1, h2, xs, ys, e1, e2⟩ := eqParts_run hb r w
      simp only [hx, hy]
      rw [e1, e2] at h1 ⊢
      simp [run_eqGuard_agg (w := w) _ t x y xs ys h2, run_eql_struct, run_neq_struct, h1]
      rfl

noncomputable def T0 : CT Try.prog := (((CT.base Try.prog).addL KEv).addL KBool).addOq eqQ fun _ _ _ _ _ _ h _ _ _ _ hev _ => eqQ_run h hev

def hasQ (args : List AV) (_ : AH) : Option (AV × List Nat × Option Prop) :=
  match args with
  | [.tv (.agg l), .tv (.agg m)] => match vecOf l, dotOf m with
    | some v, some d => some (.b (hasB v d), [], some d.ok)
    | _, _ => none
  | _ => none

theorem hasQ_args {args : List AV} {H : AH} {v : AV} {ft : List Nat} {pr : Option Prop} (h : hasQ args H = some (v, ft, pr)) : ∃ x d, args = [x.av, d.av] ∧ v = .b (hasB x d) ∧ pr = some d.ok := by
  unfold hasQ at h
  split at h
  · split at h
    · rename_i v d hv hd
      simp at h
      rw [vecOf_eq hv, dotOf_eq hd]
      exact ⟨v, d, rfl, h.1.symm, h.2.2.symm⟩
    · simp at h
  · simp at h

def maxQ (args : List AV) (H : AH) : Option (AV × List Nat × Option Prop) :=
  match args with
  | [.tv (.one (.slc i o 8 8))] => match H[i]? with
    | some (.cells cs _, _) => match vecOf ((cs.drop o).take 8) with
      | some v => some (.r (.int .u32 (v.maxTo 7)), [i], none)
      | none => none
    | _ => none
  | _ => none

theorem maxQ_ok {args : List AV} {H : AH} {v : AV} {ft : List Nat} {pr : Option Prop} (h : maxQ args H = some (v, ft, pr)) (r : Gh) (w : World) (hat : At r H ft w) :
    Calls Try.prog 38 (args.map (AV.conc r)).toArray w fun e w' => e = .returned (v.conc r) ∧ Below w.heap.size w w' := by
  unfold maxQ at h
  split at h
  · rename_i i o
    split at h
    · rename_i cs t f hH
      cases hv : vecOf ((cs.drop o).take 8) with
      | none => simp [hv] at h
      | some x =>
        simp [hv] at h
        obtain ⟨rfl, rfl, -⟩ := h
        have hb := (hat.get (by simp) hH).1
        have hx := vecOf_eq hv
        refine (max_any x (r.b i) o w fun k hk => ?_).mono ?_
        · have h1 : ((cs.drop o).take 8)[k]? = some (.rig (.int .u32 (x.get k))) := by rw [hx]; exact vec_cv x k hk
          rw [List.getElem?_take, if_pos hk, List.getElem?_drop] at h1
          simp [World.cell?, hb, h1, CV.conc]
        · rintro e w' ⟨rfl, rfl⟩
          exact ⟨rfl, Below.refl _ _⟩
    · simp at h
  · simp at h

noncomputable def T1 : CT Try.prog :=
  ((T0.addQ 39 hasQ (by kernel_rfl) fun _ _ _ _ _ h hp r w _ => by
    obtain ⟨x, d, rfl, rfl, rfl⟩ := hasQ_args h
    exact has_run x d hp.some r w).addQ 20 hasQ (by kernel_rfl) fun _ _ _ _ _ h hp r w _ => by
    obtain ⟨x, d, rfl, rfl, rfl⟩ := hasQ_args h
    exact rhas_run x d hp.some r w).addQ 38 maxQ (by kernel_rfl) fun _ _ _ _ _ h _ r w hat => maxQ_ok h r w hat

def noneB (d : Dot) : Bool := decide (d.a = 0) && decide (d.s = 0)

theorem none_run (d : Dot) (r : Gh) (w : World) :
    Calls Try.prog 35 ([d.av].map (AV.conc r)).toArray w fun e w' => e = .returned (.bool (noneB d)) ∧ Below w.heap.size w w' := by
  cases h1 : (d.a == 0) with
  | false =>
    refine fnP_leaf (T := T1) hmx (D := [Dec.s 1004 6 false]) (v := Value.bool false) (ps := [(d.a == 0) = false]) (by kernel_rfl) ⟨h1, trivial⟩ ?_ r w
    all_goals (
      first
      | (simp_all [noneB]; done)
      | (simp_all [noneB]; rw [Bool.eq_iff_iff]; simp))
  | true =>
    refine fnP_leaf (T := T1) hmx (D := [Dec.s 1004 6 true]) (v := Value.bool (d.s == 0)) (ps := [(d.a == 0) = true]) (by kernel_rfl) ⟨h1, trivial⟩ ?_ r w
    all_goals (
      first
      | (simp_all [noneB]; done)
      | (simp_all [noneB]; rw [Bool.eq_iff_iff]; simp))


def beforeB (a b : Ev) : Bool := hasB b.p a.d

theorem before_run (a b : Ev) (ha : a.d.ok) (r : Gh) (w : World) :
    Calls Try.prog 41 ([a.av, b.av].map (AV.conc r)).toArray w fun e w' => e = .returned (.bool (beforeB a b)) ∧ Below w.heap.size w w' := by
  refine fnP_leaf (T := T1) hmx (D := []) (v := Value.bool (hasB b.p a.d)) (ps := [a.d.ok]) (by kernel_rfl) ⟨?_, trivial⟩ ?_ r w
  all_goals (
    first
    | exact ha
    | rfl)


theorem rbefore_run (a b : Ev) (ha : a.d.ok) (r : Gh) (w : World) :
    Calls Try.prog 17 ([a.av, b.av].map (AV.conc r)).toArray w fun e w' => e = .returned (.bool (beforeB a b)) ∧ Below w.heap.size w w' := by
  refine fnP_leaf (T := T1) hmx (D := []) (v := Value.bool (hasB b.p a.d)) (ps := [a.d.ok]) (by kernel_rfl) ⟨?_, trivial⟩ ?_ r w
  all_goals (
    first
    | exact ha
    | rfl)


end Go.Proofs.Ytodcebpdmjdplaa

namespace Go.Proofs.Ytodcebpdmjdplaa
open Go.RowKit

def kindRightB (e : Ev) : Bool :=
  if e.k = 1 then (noneB e.par && e.right || hasB e.p e.par) && decide (1 ≤ e.ch) && decide (e.ch ≤ 127) && decide (e.who = 0) && decide (e.role = 0)
  else if e.k = 2 then hasB e.p e.par && !e.right && decide (e.ch = 0) && decide (e.who = 0) && decide (e.role = 0)
  else if e.k = 3 then decide (e.who < 8) && decide (1 ≤ e.role) && decide (e.role ≤ 3) && noneB e.par && !e.right && decide (e.ch = 0)
  else if e.k = 4 then decide (e.who < 8) && decide (e.role = 0) && noneB e.par && !e.right && decide (e.ch = 0)
  else false

def rightB (e : Ev) : Bool :=
  decide (e.d.a < 8) && decide (e.d.s ≠ 0) && decide (e.d.s ≤ 1048576) && decide (e.p.get e.d.a.toNat = e.d.s - 1) && decide (e.p.maxTo 7 ≤ 1048576) && kindRightB e

theorem wrap_u32 {x : Int} (h0 : 0 ≤ x) (h1 : x < 4294967296) : IntKind.u32.wrap x = x := by
  simp [IntKind.wrap, IntKind.bits, IntKind.signed]; omega
theorem wrap_u8_less {x : Int} (h0 : 0 ≤ x) (h1 : x < 256) : IntKind.u8.wrap (x - 1) = if x = 0 then 255 else x - 1 := by
  simp [IntKind.wrap, IntKind.bits, IntKind.signed]; split <;> omega

theorem ev_iff (e : Ev) (d p k par r c w o) : (e = ⟨d, p, k, par, r, c, w, o⟩) ↔ e.d = d ∧ e.p = p ∧ e.k = k ∧ e.par = par ∧ e.right = r ∧ e.ch = c ∧ e.who = w ∧ e.role = o := by
  cases e; simp
theorem dot_iff (d : Dot) (a s) : (d = ⟨a, s⟩) ↔ d.a = a ∧ d.s = s := by
  cases d; simp

theorem ev_cv (e : Ev) (n : Nat) (h : n < 8) : e.cvs[2 + n]? = some (.rig (.int .u32 (e.p.get n))) := by
  match n, h with
  | 0, _ => rfl
  | 1, _ => rfl
  | 2, _ => rfl
  | 3, _ => rfl
  | 4, _ => rfl
  | 5, _ => rfl
  | 6, _ => rfl
  | 7, _ => rfl

def noneQ (args : List AV) (_ : AH) : Option (AV × List Nat × Option Prop) :=
  match args with
  | [.tv (.agg m)] => match dotOf m with
    | some d => some (.b (noneB d), [], none)
    | _ => none
  | _ => none

noncomputable def T2 : CT Try.prog :=
  T1.addQ 35 noneQ (by kernel_rfl) fun _ _ _ _ _ h _ r w _ => by
    unfold noneQ at h
    split at h
    · split at h
      · rename_i d hd
        simp at h
        obtain ⟨rfl, -⟩ := h
        rw [dotOf_eq hd]
        exact none_run d r w
      · simp at h
    · simp at h

theorem right_run (e : Ev) (he : e.ok) (r : Gh) (w : World) :
    Calls Try.prog 28 ([e.av].map (AV.conc r)).toArray w fun x w' => x = .returned (.bool (rightB e)) ∧ Below w.heap.size w w' := by
  obtain ⟨⟨a0, a1, s0, s1⟩, -, k0, k1, hpar, ch0, ch1, who0, who1, role0, role1⟩ := he
  have hw := wrap_i64_u8 a0 a1
  have hs : e.d.s ≠ 0 → IntKind.u32.wrap (e.d.s - 1) = e.d.s - 1 := fun h => wrap_u32 (by omega) (by omega)
  have hc := wrap_u8_less ch0 ch1
  have hr := wrap_u8_less role0 role1
  cases h1 : (decide (IntKind.i64.wrap e.d.a ≥ 8)) with
  | false =>
    cases h2 : (e.d.s == 0) with
    | false =>
      cases h3 : (decide (e.d.s > 1048576)) with
      | false =>
        cases h4 : (e.p.get e.d.a.toNat != IntKind.u32.wrap (e.d.s - 1)) with
        | false =>
          cases h5 : (decide (e.p.maxTo 7 > 1048576)) with
          | false =>
            cases h6 : (e.k == 1) with
            | false =>
              cases h7 : (e.k == 2) with
              | false =>
                cases h8 : (e.k == 3) with
                | false =>
                  cases h9 : (e.k == 4) with
                  | false =>
                    refine fnP_leaf (T := T1) hmx (D := [Dec.s 2005 11 false, Dec.s 2010 16 false, Dec.s 2015 21 false, Dec.l 2019 (TV.one (CV.rig (Value.int IntKind.u32 (e.p.get e.d.a.toNat)))), Dec.s 2026 32 false, Dec.c 37 false, Dec.c 46 false, Dec.c 83 false, Dec.c 98 false, Dec.c 120 false]) (v := Value.bool false) (ps := [decide (IntKind.i64.wrap e.d.a ≥ 8) = false, (e.d.s == 0) = false, decide (e.d.s > 1048576) = false, 0 ≤ e.d.a ∧ e.d.a < ↑8, [CV.rig (Value.int IntKind.u8 e.d.a), CV.rig (Value.int IntKind.u32 e.d.s), CV.rig (Value.int IntKind.u32 e.p.x0), CV.rig (Value.int IntKind.u32 e.p.x1), CV.rig (Value.int IntKind.u32 e.p.x2), CV.rig (Value.int IntKind.u32 e.p.x3), CV.rig (Value.int IntKind.u32 e.p.x4), CV.rig (Value.int IntKind.u32 e.p.x5), CV.rig (Value.int IntKind.u32 e.p.x6), CV.rig (Value.int IntKind.u32 e.p.x7), CV.rig (Value.int IntKind.u8 e.k), CV.rig (Value.int IntKind.u8 e.par.a), CV.rig (Value.int IntKind.u32 e.par.s), CV.rig (Value.bool e.right), CV.rig (Value.int IntKind.u8 e.ch), CV.rig (Value.int IntKind.u8 e.who), CV.rig (Value.int IntKind.u8 e.role)][2 + e.d.a.toNat * 1]? = some (CV.rig (Value.int IntKind.u32 (e.p.get e.d.a.toNat))), (e.p.get e.d.a.toNat != IntKind.u32.wrap (e.d.s - 1)) = false, decide (e.p.maxTo 7 > 1048576) = false, (e.k == 1) = false, (e.k == 2) = false, (e.k == 3) = false, (e.k == 4) = false]) (by kernel_rfl) ⟨h1, h2, h3, ?_, ?_, h4, h5, h6, h7, h8, h9, trivial⟩ ?_ r w
                    all_goals (
                      first
                      | exact hpar
                      | (have := ev_cv e e.d.a.toNat (by simp [hw] at h1; omega); simpa [Ev.cvs] using this)
                      | (simp [hw] at h1; omega)
                      | (congr 1; grind [rightB, kindRightB, noneB])
                      | (congr 1; simp only [ev_iff, dot_iff] at *; grind [rightB, kindRightB, noneB]))
                  | true =>
                    cases h10 : (decide   (e = { d := e.d, p := e.p, k := e.k, par := { a := 0, s := 0 }, right := false, ch := 0, who := e.who, role := 0 })) with
                    | false =>
                      refine fnP_leaf (T := T1) hmx (D := [Dec.s 2005 11 false, Dec.s 2010 16 false, Dec.s 2015 21 false, Dec.l 2019 (TV.one (CV.rig (Value.int IntKind.u32 (e.p.get e.d.a.toNat)))), Dec.s 2026 32 false, Dec.c 37 false, Dec.c 46 false, Dec.c 83 false, Dec.c 98 false, Dec.c 120 true, Dec.s 17004 128 false]) (v := Value.bool false) (ps := [decide (IntKind.i64.wrap e.d.a ≥ 8) = false, (e.d.s == 0) = false, decide (e.d.s > 1048576) = false, 0 ≤ e.d.a ∧ e.d.a < ↑8, [CV.rig (Value.int IntKind.u8 e.d.a), CV.rig (Value.int IntKind.u32 e.d.s), CV.rig (Value.int IntKind.u32 e.p.x0), CV.rig (Value.int IntKind.u32 e.p.x1), CV.rig (Value.int IntKind.u32 e.p.x2), CV.rig (Value.int IntKind.u32 e.p.x3), CV.rig (Value.int IntKind.u32 e.p.x4), CV.rig (Value.int IntKind.u32 e.p.x5), CV.rig (Value.int IntKind.u32 e.p.x6), CV.rig (Value.int IntKind.u32 e.p.x7), CV.rig (Value.int IntKind.u8 e.k), CV.rig (Value.int IntKind.u8 e.par.a), CV.rig (Value.int IntKind.u32 e.par.s), CV.rig (Value.bool e.right), CV.rig (Value.int IntKind.u8 e.ch), CV.rig (Value.int IntKind.u8 e.who), CV.rig (Value.int IntKind.u8 e.role)][2 + e.d.a.toNat * 1]? = some (CV.rig (Value.int IntKind.u32 (e.p.get e.d.a.toNat))), (e.p.get e.d.a.toNat != IntKind.u32.wrap (e.d.s - 1)) = false, decide (e.p.maxTo 7 > 1048576) = false, (e.k == 1) = false, (e.k == 2) = false, (e.k == 3) = false, (e.k == 4) = true, decide (e = { d := e.d, p := e.p, k := e.k, par := { a := 0, s := 0 }, right := false, ch := 0, who := e.who, role := 0 }) = false]) (by kernel_rfl) ⟨h1, h2, h3, ?_, ?_, h4, h5, h6, h7, h8, h9, h10, trivial⟩ ?_ r w
                      all_goals (
                        first
                        | exact hpar
                        | (have := ev_cv e e.d.a.toNat (by simp [hw] at h1; omega); simpa [Ev.cvs] using this)
                        | (simp [hw] at h1; omega)
                        | (congr 1; grind [rightB, kindRightB, noneB])
                        | (congr 1; simp only [ev_iff, dot_iff] at *; grind [rightB, kindRightB, noneB]))
                    | true =>
                      refine fnP_leaf (T := T1) hmx (D := [Dec.s 2005 11 false, Dec.s 2010 16 false, Dec.s 2015 21 false, Dec.l 2019 (TV.one (CV.rig (Value.int IntKind.u32 (e.p.get e.d.a.toNat)))), Dec.s 2026 32 false, Dec.c 37 false, Dec.c 46 false, Dec.c 83 false, Dec.c 98 false, Dec.c 120 true, Dec.s 17004 128 true]) (v := Value.bool (decide (e.who < 8))) (ps := [decide (IntKind.i64.wrap e.d.a ≥ 8) = false, (e.d.s == 0) = false, decide (e.d.s > 1048576) = false, 0 ≤ e.d.a ∧ e.d.a < ↑8, [CV.rig (Value.int IntKind.u8 e.d.a), CV.rig (Value.int IntKind.u32 e.d.s), CV.rig (Value.int IntKind.u32 e.p.x0), CV.rig (Value.int IntKind.u32 e.p.x1), CV.rig (Value.int IntKind.u32 e.p.x2), CV.rig (Value.int IntKind.u32 e.p.x3), CV.rig (Value.int IntKind.u32 e.p.x4), CV.rig (Value.int IntKind.u32 e.p.x5), CV.rig (Value.int IntKind.u32 e.p.x6), CV.rig (Value.int IntKind.u32 e.p.x7), CV.rig (Value.int IntKind.u8 e.k), CV.rig (Value.int IntKind.u8 e.par.a), CV.rig (Value.int IntKind.u32 e.par.s), CV.rig (Value.bool e.right), CV.rig (Value.int IntKind.u8 e.ch), CV.rig (Value.int IntKind.u8 e.who), CV.rig (Value.int IntKind.u8 e.role)][2 + e.d.a.toNat * 1]? = some (CV.rig (Value.int IntKind.u32 (e.p.get e.d.a.toNat))), (e.p.get e.d.a.toNat != IntKind.u32.wrap (e.d.s - 1)) = false, decide (e.p.maxTo 7 > 1048576) = false, (e.k == 1) = false, (e.k == 2) = false, (e.k == 3) = false, (e.k == 4) = true, decide (e = { d := e.d, p := e.p, k := e.k, par := { a := 0, s := 0 }, right := false, ch := 0, who := e.who, role := 0 }) = true]) (by kernel_rfl) ⟨h1, h2, h3, ?_, ?_, h4, h5, h6, h7, h8, h9, h10, trivial⟩ ?_ r w
                      all_goals (
                        first
                        | exact hpar
                        | (have := ev_cv e e.d.a.toNat (by simp [hw] at h1; omega); simpa [Ev.cvs] using this)
                        | (simp [hw] at h1; omega)
                        | (congr 1; grind [rightB, kindRightB, noneB])
                        | (congr 1; simp only [ev_iff, dot_iff] at *; grind [rightB, kindRightB, noneB]))
                | true =>
                  cases h9 : (decide   (e =     { d := e.d, p := e.p, k := e.k, par := { a := 0, s := 0 }, right := false, ch := 0, who := e.who, role := e.role })) with
                  | false =>
                    refine fnP_leaf (T := T1) hmx (D := [Dec.s 2005 11 false, Dec.s 2010 16 false, Dec.s 2015 21 false, Dec.l 2019 (TV.one (CV.rig (Value.int IntKind.u32 (e.p.get e.d.a.toNat)))), Dec.s 2026 32 false, Dec.c 37 false, Dec.c 46 false, Dec.c 83 false, Dec.c 98 true, Dec.s 14004 109 false]) (v := Value.bool false) (ps := [decide (IntKind.i64.wrap e.d.a ≥ 8) = false, (e.d.s == 0) = false, decide (e.d.s > 1048576) = false, 0 ≤ e.d.a ∧ e.d.a < ↑8, [CV.rig (Value.int IntKind.u8 e.d.a), CV.rig (Value.int IntKind.u32 e.d.s), CV.rig (Value.int IntKind.u32 e.p.x0), CV.rig (Value.int IntKind.u32 e.p.x1), CV.rig (Value.int IntKind.u32 e.p.x2), CV.rig (Value.int IntKind.u32 e.p.x3), CV.rig (Value.int IntKind.u32 e.p.x4), CV.rig (Value.int IntKind.u32 e.p.x5), CV.rig (Value.int IntKind.u32 e.p.x6), CV.rig (Value.int IntKind.u32 e.p.x7), CV.rig (Value.int IntKind.u8 e.k), CV.rig (Value.int IntKind.u8 e.par.a), CV.rig (Value.int IntKind.u32 e.par.s), CV.rig (Value.bool e.right), CV.rig (Value.int IntKind.u8 e.ch), CV.rig (Value.int IntKind.u8 e.who), CV.rig (Value.int IntKind.u8 e.role)][2 + e.d.a.toNat * 1]? = some (CV.rig (Value.int IntKind.u32 (e.p.get e.d.a.toNat))), (e.p.get e.d.a.toNat != IntKind.u32.wrap (e.d.s - 1)) = false, decide (e.p.maxTo 7 > 1048576) = false, (e.k == 1) = false, (e.k == 2) = false, (e.k == 3) = true, decide (e = { d := e.d, p := e.p, k := e.k, par := { a := 0, s := 0 }, right := false, ch := 0, who := e.who, role := e.role }) = false]) (by kernel_rfl) ⟨h1, h2, h3, ?_, ?_, h4, h5, h6, h7, h8, h9, trivial⟩ ?_ r w
                    all_goals (
                      first
                      | exact hpar
                      | (have := ev_cv e e.d.a.toNat (by simp [hw] at h1; omega); simpa [Ev.cvs] using this)
                      | (simp [hw] at h1; omega)
                      | (congr 1; grind [rightB, kindRightB, noneB])
                      | (congr 1; simp only [ev_iff, dot_iff] at *; grind [rightB, kindRightB, noneB]))
                  | true =>
                    cases h10 : (decide (e.who < 8)) with
                    | false =>
                      refine fnP_leaf (T := T1) hmx (D := [Dec.s 2005 11 false, Dec.s 2010 16 false, Dec.s 2015 21 false, Dec.l 2019 (TV.one (CV.rig (Value.int IntKind.u32 (e.p.get e.d.a.toNat)))), Dec.s 2026 32 false, Dec.c 37 false, Dec.c 46 false, Dec.c 83 false, Dec.c 98 true, Dec.s 14004 109 true, Dec.s 14009 114 false]) (v := Value.bool false) (ps := [decide (IntKind.i64.wrap e.d.a ≥ 8) = false, (e.d.s == 0) = false, decide (e.d.s > 1048576) = false, 0 ≤ e.d.a ∧ e.d.a < ↑8, [CV.rig (Value.int IntKind.u8 e.d.a), CV.rig (Value.int IntKind.u32 e.d.s), CV.rig (Value.int IntKind.u32 e.p.x0), CV.rig (Value.int IntKind.u32 e.p.x1), CV.rig (Value.int IntKind.u32 e.p.x2), CV.rig (Value.int IntKind.u32 e.p.x3), CV.rig (Value.int IntKind.u32 e.p.x4), CV.rig (Value.int IntKind.u32 e.p.x5), CV.rig (Value.int IntKind.u32 e.p.x6), CV.rig (Value.int IntKind.u32 e.p.x7), CV.rig (Value.int IntKind.u8 e.k), CV.rig (Value.int IntKind.u8 e.par.a), CV.rig (Value.int IntKind.u32 e.par.s), CV.rig (Value.bool e.right), CV.rig (Value.int IntKind.u8 e.ch), CV.rig (Value.int IntKind.u8 e.who), CV.rig (Value.int IntKind.u8 e.role)][2 + e.d.a.toNat * 1]? = some (CV.rig (Value.int IntKind.u32 (e.p.get e.d.a.toNat))), (e.p.get e.d.a.toNat != IntKind.u32.wrap (e.d.s - 1)) = false, decide (e.p.maxTo 7 > 1048576) = false, (e.k == 1) = false, (e.k == 2) = false, (e.k == 3) = true, decide (e = { d := e.d, p := e.p, k := e.k, par := { a := 0, s := 0 }, right := false, ch := 0, who := e.who, role := e.role }) = true, decide (e.who < 8) = false]) (by kernel_rfl) ⟨h1, h2, h3, ?_, ?_, h4, h5, h6, h7, h8, h9, h10, trivial⟩ ?_ r w
                      all_goals (
                        first
                        | exact hpar
                        | (have := ev_cv e e.d.a.toNat (by simp [hw] at h1; omega); simpa [Ev.cvs] using this)
                        | (simp [hw] at h1; omega)
                        | (congr 1; grind [rightB, kindRightB, noneB])
                        | (congr 1; simp only [ev_iff, dot_iff] at *; grind [rightB, kindRightB, noneB]))
                    | true =>
                      refine fnP_leaf (T := T1) hmx (D := [Dec.s 2005 11 false, Dec.s 2010 16 false, Dec.s 2015 21 false, Dec.l 2019 (TV.one (CV.rig (Value.int IntKind.u32 (e.p.get e.d.a.toNat)))), Dec.s 2026 32 false, Dec.c 37 false, Dec.c 46 false, Dec.c 83 false, Dec.c 98 true, Dec.s 14004 109 true, Dec.s 14009 114 true]) (v := Value.bool (decide (IntKind.u8.wrap (e.role - 1) ≤ 2))) (ps := [decide (IntKind.i64.wrap e.d.a ≥ 8) = false, (e.d.s == 0) = false, decide (e.d.s > 1048576) = false, 0 ≤ e.d.a ∧ e.d.a < ↑8, [CV.rig (Value.int IntKind.u8 e.d.a), CV.rig (Value.int IntKind.u32 e.d.s), CV.rig (Value.int IntKind.u32 e.p.x0), CV.rig (Value.int IntKind.u32 e.p.x1), CV.rig (Value.int IntKind.u32 e.p.x2), CV.rig (Value.int IntKind.u32 e.p.x3), CV.rig (Value.int IntKind.u32 e.p.x4), CV.rig (Value.int IntKind.u32 e.p.x5), CV.rig (Value.int IntKind.u32 e.p.x6), CV.rig (Value.int IntKind.u32 e.p.x7), CV.rig (Value.int IntKind.u8 e.k), CV.rig (Value.int IntKind.u8 e.par.a), CV.rig (Value.int IntKind.u32 e.par.s), CV.rig (Value.bool e.right), CV.rig (Value.int IntKind.u8 e.ch), CV.rig (Value.int IntKind.u8 e.who), CV.rig (Value.int IntKind.u8 e.role)][2 + e.d.a.toNat * 1]? = some (CV.rig (Value.int IntKind.u32 (e.p.get e.d.a.toNat))), (e.p.get e.d.a.toNat != IntKind.u32.wrap (e.d.s - 1)) = false, decide (e.p.maxTo 7 > 1048576) = false, (e.k == 1) = false, (e.k == 2) = false, (e.k == 3) = true, decide (e = { d := e.d, p := e.p, k := e.k, par := { a := 0, s := 0 }, right := false, ch := 0, who := e.who, role := e.role }) = true, decide (e.who < 8) = true]) (by kernel_rfl) ⟨h1, h2, h3, ?_, ?_, h4, h5, h6, h7, h8, h9, h10, trivial⟩ ?_ r w
                      all_goals (
                        first
                        | exact hpar
                        | (have := ev_cv e e.d.a.toNat (by simp [hw] at h1; omega); simpa [Ev.cvs] using this)
                        | (simp [hw] at h1; omega)
                        | (congr 1; grind [rightB, kindRightB, noneB])
                        | (congr 1; simp only [ev_iff, dot_iff] at *; grind [rightB, kindRightB, noneB]))
              | true =>
                cases h8 : (decide (e = { d := e.d, p := e.p, k := e.k, par := e.par, right := false, ch := 0, who := 0, role := 0 })) with
                | false =>
                  refine fnP_leaf (T := T1) hmx (D := [Dec.s 2005 11 false, Dec.s 2010 16 false, Dec.s 2015 21 false, Dec.l 2019 (TV.one (CV.rig (Value.int IntKind.u32 (e.p.get e.d.a.toNat)))), Dec.s 2026 32 false, Dec.c 37 false, Dec.c 46 false, Dec.c 83 true, Dec.s 11004 91 false]) (v := Value.bool false) (ps := [decide (IntKind.i64.wrap e.d.a ≥ 8) = false, (e.d.s == 0) = false, decide (e.d.s > 1048576) = false, 0 ≤ e.d.a ∧ e.d.a < ↑8, [CV.rig (Value.int IntKind.u8 e.d.a), CV.rig (Value.int IntKind.u32 e.d.s), CV.rig (Value.int IntKind.u32 e.p.x0), CV.rig (Value.int IntKind.u32 e.p.x1), CV.rig (Value.int IntKind.u32 e.p.x2), CV.rig (Value.int IntKind.u32 e.p.x3), CV.rig (Value.int IntKind.u32 e.p.x4), CV.rig (Value.int IntKind.u32 e.p.x5), CV.rig (Value.int IntKind.u32 e.p.x6), CV.rig (Value.int IntKind.u32 e.p.x7), CV.rig (Value.int IntKind.u8 e.k), CV.rig (Value.int IntKind.u8 e.par.a), CV.rig (Value.int IntKind.u32 e.par.s), CV.rig (Value.bool e.right), CV.rig (Value.int IntKind.u8 e.ch), CV.rig (Value.int IntKind.u8 e.who), CV.rig (Value.int IntKind.u8 e.role)][2 + e.d.a.toNat * 1]? = some (CV.rig (Value.int IntKind.u32 (e.p.get e.d.a.toNat))), (e.p.get e.d.a.toNat != IntKind.u32.wrap (e.d.s - 1)) = false, decide (e.p.maxTo 7 > 1048576) = false, (e.k == 1) = false, (e.k == 2) = true, decide (e = { d := e.d, p := e.p, k := e.k, par := e.par, right := false, ch := 0, who := 0, role := 0 }) = false]) (by kernel_rfl) ⟨h1, h2, h3, ?_, ?_, h4, h5, h6, h7, h8, trivial⟩ ?_ r w
                  all_goals (
                    first
                    | exact hpar
                    | (have := ev_cv e e.d.a.toNat (by simp [hw] at h1; omega); simpa [Ev.cvs] using this)
                    | (simp [hw] at h1; omega)
                    | (congr 1; grind [rightB, kindRightB, noneB])
                    | (congr 1; simp only [ev_iff] at *; grind [rightB, kindRightB, noneB]))
                | true =>
                  refine fnP_leaf (T := T1) hmx (D := [Dec.s 2005 11 false, Dec.s 2010 16 false, Dec.s 2015 21 false, Dec.l 2019 (TV.one (CV.rig (Value.int IntKind.u32 (e.p.get e.d.a.toNat)))), Dec.s 2026 32 false, Dec.c 37 false, Dec.c 46 false, Dec.c 83 true, Dec.s 11004 91 true]) (v := Value.bool (hasB e.p e.par)) (ps := [decide (IntKind.i64.wrap e.d.a ≥ 8) = false, (e.d.s == 0) = false, decide (e.d.s > 1048576) = false, 0 ≤ e.d.a ∧ e.d.a < ↑8, [CV.rig (Value.int IntKind.u8 e.d.a), CV.rig (Value.int IntKind.u32 e.d.s), CV.rig (Value.int IntKind.u32 e.p.x0), CV.rig (Value.int IntKind.u32 e.p.x1), CV.rig (Value.int IntKind.u32 e.p.x2), CV.rig (Value.int IntKind.u32 e.p.x3), CV.rig (Value.int IntKind.u32 e.p.x4), CV.rig (Value.int IntKind.u32 e.p.x5), CV.rig (Value.int IntKind.u32 e.p.x6), CV.rig (Value.int IntKind.u32 e.p.x7), CV.rig (Value.int IntKind.u8 e.k), CV.rig (Value.int IntKind.u8 e.par.a), CV.rig (Value.int IntKind.u32 e.par.s), CV.rig (Value.bool e.right), CV.rig (Value.int IntKind.u8 e.ch), CV.rig (Value.int IntKind.u8 e.who), CV.rig (Value.int IntKind.u8 e.role)][2 + e.d.a.toNat * 1]? = some (CV.rig (Value.int IntKind.u32 (e.p.get e.d.a.toNat))), (e.p.get e.d.a.toNat != IntKind.u32.wrap (e.d.s - 1)) = false, decide (e.p.maxTo 7 > 1048576) = false, (e.k == 1) = false, (e.k == 2) = true, decide (e = { d := e.d, p := e.p, k := e.k, par := e.par, right := false, ch := 0, who := 0, role := 0 }) = true, e.par.ok]) (by kernel_rfl) ⟨h1, h2, h3, ?_, ?_, h4, h5, h6, h7, h8, ?_, trivial⟩ ?_ r w
                  all_goals (
                    first
                    | exact hpar
                    | (have := ev_cv e e.d.a.toNat (by simp [hw] at h1; omega); simpa [Ev.cvs] using this)
                    | (simp [hw] at h1; omega)
                    | (congr 1; grind [rightB, kindRightB, noneB])
                    | (congr 1; simp only [ev_iff, dot_iff] at *; grind [rightB, kindRightB, noneB]))
            | true =>
              cases h7 : (decide (e = { d := e.d, p := e.p, k := e.k, par := e.par, right := e.right, ch := e.ch, who := 0, role := 0 })) with
              | false =>
                refine fnP_leaf (T := T1) hmx (D := [Dec.s 2005 11 false, Dec.s 2010 16 false, Dec.s 2015 21 false, Dec.l 2019 (TV.one (CV.rig (Value.int IntKind.u32 (e.p.get e.d.a.toNat)))), Dec.s 2026 32 false, Dec.c 37 false, Dec.c 46 true, Dec.s 8004 60 false]) (v := Value.bool false) (ps := [decide (IntKind.i64.wrap e.d.a ≥ 8) = false, (e.d.s == 0) = false, decide (e.d.s > 1048576) = false, 0 ≤ e.d.a ∧ e.d.a < ↑8, [CV.rig (Value.int IntKind.u8 e.d.a), CV.rig (Value.int IntKind.u32 e.d.s), CV.rig (Value.int IntKind.u32 e.p.x0), CV.rig (Value.int IntKind.u32 e.p.x1), CV.rig (Value.int IntKind.u32 e.p.x2), CV.rig (Value.int IntKind.u32 e.p.x3), CV.rig (Value.int IntKind.u32 e.p.x4), CV.rig (Value.int IntKind.u32 e.p.x5), CV.rig (Value.int IntKind.u32 e.p.x6), CV.rig (Value.int IntKind.u32 e.p.x7), CV.rig (Value.int IntKind.u8 e.k), CV.rig (Value.int IntKind.u8 e.par.a), CV.rig (Value.int IntKind.u32 e.par.s), CV.rig (Value.bool e.right), CV.rig (Value.int IntKind.u8 e.ch), CV.rig (Value.int IntKind.u8 e.who), CV.rig (Value.int IntKind.u8 e.role)][2 + e.d.a.toNat * 1]? = some (CV.rig (Value.int IntKind.u32 (e.p.get e.d.a.toNat))), (e.p.get e.d.a.toNat != IntKind.u32.wrap (e.d.s - 1)) = false, decide (e.p.maxTo 7 > 1048576) = false, (e.k == 1) = true, decide (e = { d := e.d, p := e.p, k := e.k, par := e.par, right := e.right, ch := e.ch, who := 0, role := 0 }) = false]) (by kernel_rfl) ⟨h1, h2, h3, ?_, ?_, h4, h5, h6, h7, trivial⟩ ?_ r w
                all_goals (
                  first
                  | exact hpar
                  | (have := ev_cv e e.d.a.toNat (by simp [hw] at h1; omega); simpa [Ev.cvs] using this)
                  | (simp [hw] at h1; omega)
                  | (congr 1; grind [rightB, kindRightB, noneB])
                  | (congr 1; simp only [ev_iff] at *; grind [rightB, kindRightB, noneB]))
              | true =>
                cases h8 : (decide (IntKind.u8.wrap (e.ch - 1) < 127)) with
                | false =>
                  refine fnP_leaf (T := T1) hmx (D := [Dec.s 2005 11 false, Dec.s 2010 16 false, Dec.s 2015 21 false, Dec.l 2019 (TV.one (CV.rig (Value.int IntKind.u32 (e.p.get e.d.a.toNat)))), Dec.s 2026 32 false, Dec.c 37 false, Dec.c 46 true, Dec.s 8004 60 true, Dec.s 8010 66 false]) (v := Value.bool false) (ps := [decide (IntKind.i64.wrap e.d.a ≥ 8) = false, (e.d.s == 0) = false, decide (e.d.s > 1048576) = false, 0 ≤ e.d.a ∧ e.d.a < ↑8, [CV.rig (Value.int IntKind.u8 e.d.a), CV.rig (Value.int IntKind.u32 e.d.s), CV.rig (Value.int IntKind.u32 e.p.x0), CV.rig (Value.int IntKind.u32 e.p.x1), CV.rig (Value.int IntKind.u32 e.p.x2), CV.rig (Value.int IntKind.u32 e.p.x3), CV.rig (Value.int IntKind.u32 e.p.x4), CV.rig (Value.int IntKind.u32 e.p.x5), CV.rig (Value.int IntKind.u32 e.p.x6), CV.rig (Value.int IntKind.u32 e.p.x7), CV.rig (Value.int IntKind.u8 e.k), CV.rig (Value.int IntKind.u8 e.par.a), CV.rig (Value.int IntKind.u32 e.par.s), CV.rig (Value.bool e.right), CV.rig (Value.int IntKind.u8 e.ch), CV.rig (Value.int IntKind.u8 e.who), CV.rig (Value.int IntKind.u8 e.role)][2 + e.d.a.toNat * 1]? = some (CV.rig (Value.int IntKind.u32 (e.p.get e.d.a.toNat))), (e.p.get e.d.a.toNat != IntKind.u32.wrap (e.d.s - 1)) = false, decide (e.p.maxTo 7 > 1048576) = false, (e.k == 1) = true, decide (e = { d := e.d, p := e.p, k := e.k, par := e.par, right := e.right, ch := e.ch, who := 0, role := 0 }) = true, decide (IntKind.u8.wrap (e.ch - 1) < 127) = false]) (by kernel_rfl) ⟨h1, h2, h3, ?_, ?_, h4, h5, h6, h7, h8, trivial⟩ ?_ r w
                  all_goals (
                    first
                    | exact hpar
                    | (have := ev_cv e e.d.a.toNat (by simp [hw] at h1; omega); simpa [Ev.cvs] using this)
                    | (simp [hw] at h1; omega)
                    | (congr 1; grind [rightB, kindRightB, noneB])
                    | (congr 1; simp only [ev_iff, dot_iff] at *; grind [rightB, kindRightB, noneB]))
                | true =>
                  cases h9 : (hasB e.p e.par) with
                  | false =>
                    cases h10 : (decide (e.par = { a := 0, s := 0 })) with
                    | false =>
                      refine fnP_leaf (T := T1) hmx (D := [Dec.s 2005 11 false, Dec.s 2010 16 false, Dec.s 2015 21 false, Dec.l 2019 (TV.one (CV.rig (Value.int IntKind.u32 (e.p.get e.d.a.toNat)))), Dec.s 2026 32 false, Dec.c 37 false, Dec.c 46 true, Dec.s 8004 60 true, Dec.s 8010 66 true, Dec.s 8016 72 false, Dec.s 8021 77 false]) (v := Value.bool false) (ps := [decide (IntKind.i64.wrap e.d.a ≥ 8) = false, (e.d.s == 0) = false, decide (e.d.s > 1048576) = false, 0 ≤ e.d.a ∧ e.d.a < ↑8, [CV.rig (Value.int IntKind.u8 e.d.a), CV.rig (Value.int IntKind.u32 e.d.s), CV.rig (Value.int IntKind.u32 e.p.x0), CV.rig (Value.int IntKind.u32 e.p.x1), CV.rig (Value.int IntKind.u32 e.p.x2), CV.rig (Value.int IntKind.u32 e.p.x3), CV.rig (Value.int IntKind.u32 e.p.x4), CV.rig (Value.int IntKind.u32 e.p.x5), CV.rig (Value.int IntKind.u32 e.p.x6), CV.rig (Value.int IntKind.u32 e.p.x7), CV.rig (Value.int IntKind.u8 e.k), CV.rig (Value.int IntKind.u8 e.par.a), CV.rig (Value.int IntKind.u32 e.par.s), CV.rig (Value.bool e.right), CV.rig (Value.int IntKind.u8 e.ch), CV.rig (Value.int IntKind.u8 e.who), CV.rig (Value.int IntKind.u8 e.role)][2 + e.d.a.toNat * 1]? = some (CV.rig (Value.int IntKind.u32 (e.p.get e.d.a.toNat))), (e.p.get e.d.a.toNat != IntKind.u32.wrap (e.d.s - 1)) = false, decide (e.p.maxTo 7 > 1048576) = false, (e.k == 1) = true, decide (e = { d := e.d, p := e.p, k := e.k, par := e.par, right := e.right, ch := e.ch, who := 0, role := 0 }) = true, decide (IntKind.u8.wrap (e.ch - 1) < 127) = true, e.par.ok, hasB e.p e.par = false, decide (e.par = { a := 0, s := 0 }) = false]) (by kernel_rfl) ⟨h1, h2, h3, ?_, ?_, h4, h5, h6, h7, h8, ?_, h9, h10, trivial⟩ ?_ r w
                      all_goals (
                        first
                        | exact hpar
                        | (have := ev_cv e e.d.a.toNat (by simp [hw] at h1; omega); simpa [Ev.cvs] using this)
                        | (simp [hw] at h1; omega)
                        | (congr 1; grind [rightB, kindRightB, noneB])
                        | (congr 1; simp only [ev_iff, dot_iff] at *; grind [rightB, kindRightB, noneB]))
                    | true =>
                      refine fnP_leaf (T := T1) hmx (D := [Dec.s 2005 11 false, Dec.s 2010 16 false, Dec.s 2015 21 false, Dec.l 2019 (TV.one (CV.rig (Value.int IntKind.u32 (e.p.get e.d.a.toNat)))), Dec.s 2026 32 false, Dec.c 37 false, Dec.c 46 true, Dec.s 8004 60 true, Dec.s 8010 66 true, Dec.s 8016 72 false, Dec.s 8021 77 true]) (v := Value.bool e.right) (ps := [decide (IntKind.i64.wrap e.d.a ≥ 8) = false, (e.d.s == 0) = false, decide (e.d.s > 1048576) = false, 0 ≤ e.d.a ∧ e.d.a < ↑8, [CV.rig (Value.int IntKind.u8 e.d.a), CV.rig (Value.int IntKind.u32 e.d.s), CV.rig (Value.int IntKind.u32 e.p.x0), CV.rig (Value.int IntKind.u32 e.p.x1), CV.rig (Value.int IntKind.u32 e.p.x2), CV.rig (Value.int IntKind.u32 e.p.x3), CV.rig (Value.int IntKind.u32 e.p.x4), CV.rig (Value.int IntKind.u32 e.p.x5), CV.rig (Value.int IntKind.u32 e.p.x6), CV.rig (Value.int IntKind.u32 e.p.x7), CV.rig (Value.int IntKind.u8 e.k), CV.rig (Value.int IntKind.u8 e.par.a), CV.rig (Value.int IntKind.u32 e.par.s), CV.rig (Value.bool e.right), CV.rig (Value.int IntKind.u8 e.ch), CV.rig (Value.int IntKind.u8 e.who), CV.rig (Value.int IntKind.u8 e.role)][2 + e.d.a.toNat * 1]? = some (CV.rig (Value.int IntKind.u32 (e.p.get e.d.a.toNat))), (e.p.get e.d.a.toNat != IntKind.u32.wrap (e.d.s - 1)) = false, decide (e.p.maxTo 7 > 1048576) = false, (e.k == 1) = true, decide (e = { d := e.d, p := e.p, k := e.k, par := e.par, right := e.right, ch := e.ch, who := 0, role := 0 }) = true, decide (IntKind.u8.wrap (e.ch - 1) < 127) = true, e.par.ok, hasB e.p e.par = false, decide (e.par = { a := 0, s := 0 }) = true]) (by kernel_rfl) ⟨h1, h2, h3, ?_, ?_, h4, h5, h6, h7, h8, ?_, h9, h10, trivial⟩ ?_ r w
                      all_goals (
                        first
                        | exact hpar
                        | (have := ev_cv e e.d.a.toNat (by simp [hw] at h1; omega); simpa [Ev.cvs] using this)
                        | (simp [hw] at h1; omega)
                        | (congr 1; grind [rightB, kindRightB, noneB])
                        | (congr 1; simp only [ev_iff, dot_iff] at *; grind [rightB, kindRightB, noneB]))
                  | true =>
                    refine fnP_leaf (T := T1) hmx (D := [Dec.s 2005 11 false, Dec.s 2010 16 false, Dec.s 2015 21 false, Dec.l 2019 (TV.one (CV.rig (Value.int IntKind.u32 (e.p.get e.d.a.toNat)))), Dec.s 2026 32 false, Dec.c 37 false, Dec.c 46 true, Dec.s 8004 60 true, Dec.s 8010 66 true, Dec.s 8016 72 true]) (v := Value.bool true) (ps := [decide (IntKind.i64.wrap e.d.a ≥ 8) = false, (e.d.s == 0) = false, decide (e.d.s > 1048576) = false, 0 ≤ e.d.a ∧ e.d.a < ↑8, [CV.rig (Value.int IntKind.u8 e.d.a), CV.rig (Value.int IntKind.u32 e.d.s), CV.rig (Value.int IntKind.u32 e.p.x0), CV.rig (Value.int IntKind.u32 e.p.x1), CV.rig (Value.int IntKind.u32 e.p.x2), CV.rig (Value.int IntKind.u32 e.p.x3), CV.rig (Value.int IntKind.u32 e.p.x4), CV.rig (Value.int IntKind.u32 e.p.x5), CV.rig (Value.int IntKind.u32 e.p.x6), CV.rig (Value.int IntKind.u32 e.p.x7), CV.rig (Value.int IntKind.u8 e.k), CV.rig (Value.int IntKind.u8 e.par.a), CV.rig (Value.int IntKind.u32 e.par.s), CV.rig (Value.bool e.right), CV.rig (Value.int IntKind.u8 e.ch), CV.rig (Value.int IntKind.u8 e.who), CV.rig (Value.int IntKind.u8 e.role)][2 + e.d.a.toNat * 1]? = some (CV.rig (Value.int IntKind.u32 (e.p.get e.d.a.toNat))), (e.p.get e.d.a.toNat != IntKind.u32.wrap (e.d.s - 1)) = false, decide (e.p.maxTo 7 > 1048576) = false, (e.k == 1) = true, decide (e = { d := e.d, p := e.p, k := e.k, par := e.par, right := e.right, ch := e.ch, who := 0, role := 0 }) = true, decide (IntKind.u8.wrap (e.ch - 1) < 127) = true, e.par.ok, hasB e.p e.par = true]) (by kernel_rfl) ⟨h1, h2, h3, ?_, ?_, h4, h5, h6, h7, h8, ?_, h9, trivial⟩ ?_ r w
                    all_goals (
                      first
                      | exact hpar
                      | (have := ev_cv e e.d.a.toNat (by simp [hw] at h1; omega); simpa [Ev.cvs] using this)
                      | (simp [hw] at h1; omega)
                      | (congr 1; grind [rightB, kindRightB, noneB])
                      | (congr 1; simp only [ev_iff, dot_iff] at *; grind [rightB, kindRightB, noneB]))
          | true =>
            refine fnP_leaf (T := T1) hmx (D := [Dec.s 2005 11 false, Dec.s 2010 16 false, Dec.s 2015 21 false, Dec.l 2019 (TV.one (CV.rig (Value.int IntKind.u32 (e.p.get e.d.a.toNat)))), Dec.s 2026 32 false, Dec.c 37 true]) (v := Value.bool false) (ps := [decide (IntKind.i64.wrap e.d.a ≥ 8) = false, (e.d.s == 0) = false, decide (e.d.s > 1048576) = false, 0 ≤ e.d.a ∧ e.d.a < ↑8, [CV.rig (Value.int IntKind.u8 e.d.a), CV.rig (Value.int IntKind.u32 e.d.s), CV.rig (Value.int IntKind.u32 e.p.x0), CV.rig (Value.int IntKind.u32 e.p.x1), CV.rig (Value.int IntKind.u32 e.p.x2), CV.rig (Value.int IntKind.u32 e.p.x3), CV.rig (Value.int IntKind.u32 e.p.x4), CV.rig (Value.int IntKind.u32 e.p.x5), CV.rig (Value.int IntKind.u32 e.p.x6), CV.rig (Value.int IntKind.u32 e.p.x7), CV.rig (Value.int IntKind.u8 e.k), CV.rig (Value.int IntKind.u8 e.par.a), CV.rig (Value.int IntKind.u32 e.par.s), CV.rig (Value.bool e.right), CV.rig (Value.int IntKind.u8 e.ch), CV.rig (Value.int IntKind.u8 e.who), CV.rig (Value.int IntKind.u8 e.role)][2 + e.d.a.toNat * 1]? = some (CV.rig (Value.int IntKind.u32 (e.p.get e.d.a.toNat))), (e.p.get e.d.a.toNat != IntKind.u32.wrap (e.d.s - 1)) = false, decide (e.p.maxTo 7 > 1048576) = true]) (by kernel_rfl) ⟨h1, h2, h3, ?_, ?_, h4, h5, trivial⟩ ?_ r w
            all_goals (
              first
              | exact hpar
              | (have := ev_cv e e.d.a.toNat (by simp [hw] at h1; omega); simpa [Ev.cvs] using this)
              | (simp [hw] at h1; omega)
              | (congr 1; grind [rightB, kindRightB, noneB])
              | (congr 1; simp only [ev_iff, dot_iff] at *; grind [rightB, kindRightB, noneB]))
        | true =>
          refine fnP_leaf (T := T1) hmx (D := [Dec.s 2005 11 false, Dec.s 2010 16 false, Dec.s 2015 21 false, Dec.l 2019 (TV.one (CV.rig (Value.int IntKind.u32 (e.p.get e.d.a.toNat)))), Dec.s 2026 32 true]) (v := Value.bool false) (ps := [decide (IntKind.i64.wrap e.d.a ≥ 8) = false, (e.d.s == 0) = false, decide (e.d.s > 1048576) = false, 0 ≤ e.d.a ∧ e.d.a < ↑8, [CV.rig (Value.int IntKind.u8 e.d.a), CV.rig (Value.int IntKind.u32 e.d.s), CV.rig (Value.int IntKind.u32 e.p.x0), CV.rig (Value.int IntKind.u32 e.p.x1), CV.rig (Value.int IntKind.u32 e.p.x2), CV.rig (Value.int IntKind.u32 e.p.x3), CV.rig (Value.int IntKind.u32 e.p.x4), CV.rig (Value.int IntKind.u32 e.p.x5), CV.rig (Value.int IntKind.u32 e.p.x6), CV.rig (Value.int IntKind.u32 e.p.x7), CV.rig (Value.int IntKind.u8 e.k), CV.rig (Value.int IntKind.u8 e.par.a), CV.rig (Value.int IntKind.u32 e.par.s), CV.rig (Value.bool e.right), CV.rig (Value.int IntKind.u8 e.ch), CV.rig (Value.int IntKind.u8 e.who), CV.rig (Value.int IntKind.u8 e.role)][2 + e.d.a.toNat * 1]? = some (CV.rig (Value.int IntKind.u32 (e.p.get e.d.a.toNat))), (e.p.get e.d.a.toNat != IntKind.u32.wrap (e.d.s - 1)) = true]) (by kernel_rfl) ⟨h1, h2, h3, ?_, ?_, h4, trivial⟩ ?_ r w
          all_goals (
            first
            | exact hpar
            | (have := ev_cv e e.d.a.toNat (by simp [hw] at h1; omega); simpa [Ev.cvs] using this)
            | (simp [hw] at h1; omega)
            | (congr 1; grind [rightB, kindRightB, noneB])
            | (congr 1; simp only [ev_iff, dot_iff] at *; grind [rightB, kindRightB, noneB]))
      | true =>
        refine fnP_leaf (T := T1) hmx (D := [Dec.s 2005 11 false, Dec.s 2010 16 false, Dec.s 2015 21 true]) (v := Value.bool false) (ps := [decide (IntKind.i64.wrap e.d.a ≥ 8) = false, (e.d.s == 0) = false, decide (e.d.s > 1048576) = true]) (by kernel_rfl) ⟨h1, h2, h3, trivial⟩ ?_ r w
        all_goals (
          first
          | exact hpar
          | (have := ev_cv e e.d.a.toNat (by simp [hw] at h1; omega); simpa [Ev.cvs] using this)
          | (simp [hw] at h1; omega)
          | (congr 1; grind [rightB, kindRightB, noneB])
          | (congr 1; simp only [ev_iff, dot_iff] at *; grind [rightB, kindRightB, noneB]))
    | true =>
      refine fnP_leaf (T := T1) hmx (D := [Dec.s 2005 11 false, Dec.s 2010 16 true]) (v := Value.bool false) (ps := [decide (IntKind.i64.wrap e.d.a ≥ 8) = false, (e.d.s == 0) = true]) (by kernel_rfl) ⟨h1, h2, trivial⟩ ?_ r w
      all_goals (
        first
        | exact hpar
        | (have := ev_cv e e.d.a.toNat (by simp [hw] at h1; omega); simpa [Ev.cvs] using this)
        | (simp [hw] at h1; omega)
        | (congr 1; grind [rightB, kindRightB, noneB])
        | (congr 1; simp only [ev_iff, dot_iff] at *; grind [rightB, kindRightB, noneB]))
  | true =>
    refine fnP_leaf (T := T1) hmx (D := [Dec.s 2005 11 true]) (v := Value.bool false) (ps := [decide (IntKind.i64.wrap e.d.a ≥ 8) = true]) (by kernel_rfl) ⟨h1, trivial⟩ ?_ r w
    all_goals (
      first
      | exact hpar
      | (have := ev_cv e e.d.a.toNat (by simp [hw] at h1; omega); simpa [Ev.cvs] using this)
      | (simp [hw] at h1; omega)
      | (congr 1; grind [rightB, kindRightB, noneB])
      | (congr 1; simp only [ev_iff, dot_iff] at *; grind [rightB, kindRightB, noneB]))


end Go.Proofs.Ytodcebpdmjdplaa
