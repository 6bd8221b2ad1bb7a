/- The executor, ninth part: a region's operations in the text's order. -/
import Derived.Test.YtodcebpdmjdplaaV8
namespace Go.Proofs.Ytodcebpdmjdplaa
open Go.RowKit
variable {P : Program} {T : CT P}

def Holds : List Prop → Prop
  | [] => True
  | p :: l => p ∧ Holds l

def addO : Option Prop → List Prop → List Prop
  | none, l => l
  | some p, l => p :: l

theorem Holds.addO {p : Option Prop} {l : List Prop} (h : Holds (addO p l)) : Owed p ∧ Holds l := by
  cases p with
  | none => exact ⟨fun q hq => by simp at hq, h⟩
  | some p => exact ⟨fun q hq => by cases hq; exact h.1, h.2⟩

def subS (key : Nat) (F : AF) (D : List Dec) : AF × List Dec × Option Prop :=
  match D with
  | .s k slot d :: D' => cond (Nat.beq k key) (match boolOf (F.getD slot .undef) with
    | some x => (F.set slot (.b d), D', some (x = d))
    | none => (F, D, none)) (F, D, none)
  | _ => (F, D, none)

theorem boolOf_eq {v : AV} {x : Bool} (h : boolOf v = some x) : v = .b x := by
  unfold boolOf at h; split at h <;> simp at h; subst h; rfl

theorem FrameOk.subst {r : Nat → Nat} {F : AF} {a : Act} (h : FrameOk r F a) {slot : Nat} {x d : Bool} (hx : boolOf (F.getD slot .undef) = some x) (e : x = d) : FrameOk r (F.set slot (.b d)) a := by
  subst e
  have hv := boolOf_eq hx
  unfold FrameOk at *
  rw [h]
  congr 2
  apply List.ext_getElem?
  intro i
  rw [List.getElem?_set]
  split
  · rename_i e
    subst e
    split
    · rename_i hl
      rw [List.getD_eq_getElem?_getD, List.getElem?_eq_getElem hl] at hv
      rw [List.getElem?_eq_getElem hl]
      simpa using hv
    · rename_i hl
      rw [List.getElem?_eq_none (by omega)]
  · rfl

theorem subS_ok {key : Nat} {F F' : AF} {D D' : List Dec} {p : Option Prop} (h : subS key F D = (F', D', p)) (hp : Owed p) {r : Nat → Nat} {a : Act} (hF : FrameOk r F a) : FrameOk r F' a := by
  unfold subS at h
  split at h
  · rename_i k slot d D1
    cases hk : Nat.beq k key with
    | false => simp [hk] at h; exact h.1 ▸ hF
    | true =>
      simp only [hk, cond_true] at h
      split at h
      · rename_i x hx
        simp only [Prod.mk.injEq] at h
        obtain ⟨rfl, _, rfl⟩ := h
        exact hF.subst hx hp.some
      · simp at h; exact h.1 ▸ hF
  · simp at h; exact h.1 ▸ hF

def sameB : Bool → Bool → Bool
  | true, true => true
  | false, false => true
  | _, _ => false
theorem sameB_eq (x y : Bool) : sameB x y = (x == y) := by cases x <;> cases y <;> rfl

/-- Is it carried out? -/
def wantA (ops : Array Oper) (F : AF) (o : Oper) : Option Bool :=
  match o.guard with
  | none => some true
  | some (j, want) => match (ops[j]?).bind (·.dst) with
    | some t => match F.getD t .undef with
      | .tv (.one (.rig (.bool x))) => some (sameB x want)
      | .tup [] => some false
      | _ => none
    | none => some false

theorem wantA_eq {ops : Array Oper} {F : AF} {o : Oper} {b : Bool} (h : wantA ops F o = some b) {r : Nat → Nat} {tmps : Array Value}
    (hF : ∀ t ∈ (match o.guard with | some (g, _) => ((ops[g]?).bind (·.dst)).toList | none => []), tmps.getD t Go.undef = (F.getD t .undef).conc r) :
    Region.wanted o (yielded ops tmps) = b := by
  unfold wantA at h
  unfold Region.wanted
  split at h
  · rename_i hg; simp at h; subst h; simp [hg]
  · rename_i j want hg
    simp only [hg] at hF ⊢
    unfold yielded
    cases hd : (ops[j]?).bind (·.dst) with
    | none => simp [hd] at h; subst h; simp
    | some t =>
      simp only [hd] at h hF
      have ht := hF t (by simp)
      simp only [Option.bind_some]
      split at h
      · rename_i x hx
        simp at h; subst h
        rw [hx] at ht
        rw [Array.getD_eq_getD_getElem?] at ht
        cases hq : tmps[t]? with
        | none => rw [hq] at ht; simp [Go.undef, AV.conc, TV.conc, CV.conc] at ht
        | some v =>
          rw [hq] at ht
          simp only [Option.getD_some, AV.conc, TV.conc, CV.conc] at ht
          subst ht
          simp [sameB_eq]
      · rename_i hx
        simp at h; subst h
        rw [hx] at ht
        rw [Array.getD_eq_getD_getElem?] at ht
        cases hq : tmps[t]? with
        | none => simp
        | some v =>
          rw [hq] at ht
          simp only [Option.getD_some, AV.conc] at ht
          subst ht
          simp
      · simp at h

def SR.heap (s : SR) (H : AH) : AH :=
  match s with
  | .qt _ _ _ => H
  | .ef _ H' _ _ => H'

/-- What is known of an operation: the frame and the memory at which it stands in the text, what it came to. -/
structure Rec where
  F : AF
  H : AH
  s : Option SR

def runOps (P : Program) (T : CT P) (ops : Array Oper) (rid : Nat) : Nat → List Oper → AF → AH → List Dec → Option (AF × AH × List Dec × List Prop × List Rec)
  | _, [], F, H, D => some (F, H, D, [], [])
  | i, o :: l, F, H, D =>
    match subS (rid * 1000 + i) F D with
    | (F, D, p) =>
      match wantA ops F o with
      | some true =>
        match bareA P T (rid * 1000 + i) o F H D with
        | some (s, D) =>
          match runOps P T ops rid (i + 1) l (putF F o.dst s.v) (s.heap H) D with
          | some (F', H', D', ps, rs) => some (F', H', D', addO p (addO s.ob ps), ⟨F, H, some s⟩ :: rs)
          | none => none
        | none => none
      | some false =>
        match runOps P T ops rid (i + 1) l (putF F o.dst .undef) H D with
        | some (F', H', D', ps, rs) => some (F', H', D', addO p ps, ⟨F, H, none⟩ :: rs)
        | none => none
      | none => none

theorem FrameOk.looks {r : Nat → Nat} {F : AF} {a : Act} (h : FrameOk r F a) (t : Nat) : a.tmps.getD t Go.undef = (F.getD t .undef).conc r := by
  rw [h]; exact getD_conc r F t

theorem put_defers (a : Act) (d : Option Tmp) (v : Value) : (a.put d v).defers = a.defers := by cases d <;> rfl

theorem SR.wp {ro : Option Nat} {n : Nat} {o : Oper} {F : AF} {H : AH} {s : SR} (hs : s.Sem P o F H) {a : Act} {W0 w : World} {r : Nat → Nat} {K : Act → World → Prop} {X : Exit → Act → World → Prop}
    (hF : FrameOk r F a) (hst : St r H W0 w)
    (hK : ∀ r' w' a', Agree H.length r r' → St r' (s.heap H) W0 w' → FrameOk r' (putF F o.dst s.v) a' → a'.defers = a.defers → K a' w') : o.wpIn (Fw ro) n P a w K X := by
  cases s with
  | qt v ft ob =>
    exact QSem.wp hs (fun x _ => hF.eval x) (hst.At ft) fun w' hb => hK r w' _ (Agree.refl _ _) (hst.grow hb) (hF.put _ _) (put_defers _ _ _)
  | ef v H' ids ob =>
    exact ESem.wp hs.1 (fun x _ => hF.eval x) hst fun r' w' hag hst' => hK r' w' _ hag hst' ((hF.agree hag hs.2.1).put _ _) (put_defers _ _ _)

/-- Memory never shrinks. -/
theorem Eff.len (H : AH) (e : Eff) : H.length ≤ (e.app H).length := by cases e <;> simp [Eff.app]
theorem moveH_len (H : AH) (upd : List (Nat × AO)) (new : List AO) : H.length ≤ (moveH H upd new).length := by simp [moveH, turnH_length]
theorem natA_len {F : AF} {H : AH} {op : Op} {s : SR} (h : natA P T F H op = some s) : H.length ≤ (s.heap H).length := by
  rcases natA_cases h with ⟨v, ft, pr, hq, rfl⟩ | ⟨v, e, he, hH, hF, rfl⟩ | ⟨c, f, args, v, ft, pr, ho, hca, ht, rfl⟩ | ⟨c, f, args, v, upd, new, pr, ho, hca, ht, hH, hF, hu, rfl⟩ | ⟨v, ft, pr, ht, rfl⟩ | ⟨v, upd, new, pr, ht, hH, hF, hu, rfl⟩
  · exact Nat.le_refl _
  · exact Eff.len _ _
  · exact Nat.le_refl _
  · exact moveH_len _ _ _
  · exact Nat.le_refl _
  · exact moveH_len _ _ _
theorem bareA_len {key : Nat} {o : Oper} {F : AF} {H : AH} {D D' : List Dec} {s : SR} (h : bareA P T key o F H D = some (s, D')) : H.length ≤ (s.heap H).length := by
  have nat : (natA P T F H o.op).map (fun s => (s, D)) = some (s, D') → H.length ≤ (s.heap H).length := fun h => by
    obtain ⟨s', hs, e⟩ := map_some h
    simp only [Prod.mk.injEq] at e
    obtain ⟨rfl, _⟩ := e
    exact natA_len hs
  unfold bareA at h
  split at h
  · rename_i k v ft D1
    cases hk : Nat.beq k key with
    | false => rw [hk] at h; exact nat h
    | true => cases hd : notDefer o.op <;> simp [hk, hd] at h; obtain ⟨rfl, _⟩ := h; exact Nat.le_refl _
  · rename_i k v ft D1
    cases hk : Nat.beq k key with
    | false => rw [hk] at h; exact nat h
    | true =>
      simp only [hk, cond_true] at h
      split at h
      · split at h
        · rename_i f args hf
          cases hb : bodyB P f <;> simp [hb] at h
          obtain ⟨rfl, _⟩ := h; exact Nat.le_refl _
        · simp at h
      · simp at h
  · rename_i k v upd new D1
    cases hk : Nat.beq k key with
    | false => rw [hk] at h; exact nat h
    | true =>
      simp only [hk, cond_true] at h
      split at h
      · split at h
        · rename_i f args hf
          cases hb : (bodyB P f && H.scB && F.scB H.length && updOk H upd) <;> simp [hb] at h
          obtain ⟨rfl, _⟩ := h; exact moveH_len _ _ _
        · simp at h
      · simp at h
  · rename_i k v upd new D1
    cases hk : Nat.beq k key with
    | false => rw [hk] at h; exact nat h
    | true =>
      cases hb : (notDefer o.op && H.scB && F.scB H.length && updOk H upd) <;> simp [hk, hb] at h
      obtain ⟨rfl, _⟩ := h; exact moveH_len _ _ _
  · rename_i k v D1
    cases hk : Nat.beq k key with
    | false => rw [hk] at h; exact nat h
    | true =>
      simp only [hk, cond_true] at h
      split at h
      · split at h
        · simp only [Option.some.injEq, Prod.mk.injEq] at h
          obtain ⟨rfl, _⟩ := h; exact Nat.le_refl _
        · simp at h
      · simp at h
  · exact nat h

theorem runOps_wp {ro : Option Nat} {n : Nat} {ops : Array Oper} {rid : Nat} {W0 : World} {Q : Exit → Act → World → Prop} : ∀ (l : List Oper) (i : Nat) (F : AF) (H : AH) (D : List Dec) (F' : AF) (H' : AH) (D' : List Dec) (ps : List Prop) (rs : List Rec),
    runOps P T ops rid i l F H D = some (F', H', D', ps, rs) → Holds ps → ∀ (r : Nat → Nat) (a : Act) (w : World), FrameOk r F a → St r H W0 w →
    (∀ r' w' a', Agree H.length r r' → St r' H' W0 w' → FrameOk r' F' a' → a'.defers = a.defers → Q .normal a' w') → wpListIn (Fw ro) n P ops Q l a w
  | [], i, F, H, D, F', H', D', ps, rs, h, _, r, a, w, hF, hst, hQ => by
    simp [runOps] at h
    obtain ⟨rfl, rfl, _⟩ := h
    exact hQ r w a (Agree.refl _ _) hst hF rfl
  | o :: l, i, F, H, D, F', H', D', ps, rs, h, hps, r, a, w, hF, hst, hQ => by
    unfold runOps at h
    cases hsub : subS (rid * 1000 + i) F D with
    | mk F1 q =>
      obtain ⟨D1, p⟩ := q
      simp only [hsub] at h
      cases hw : wantA ops F1 o with
      | none => simp [hw] at h
      | some b =>
        simp only [hw] at h
        unfold wpListIn
        cases b with
        | true =>
          simp only [] at h
          cases hb : bareA P T (rid * 1000 + i) o F1 H D1 with
          | none => simp [hb] at h
          | some x =>
            obtain ⟨s, D2⟩ := x
            simp only [hb] at h
            cases hr : runOps P T ops rid (i + 1) l (putF F1 o.dst s.v) (s.heap H) D2 with
            | none => simp [hr] at h
            | some y =>
              obtain ⟨F2, H2, D3, ps', rs'⟩ := y
              simp only [hr, Option.some.injEq, Prod.mk.injEq] at h
              obtain ⟨rfl, rfl, rfl, rfl, _⟩ := h
              obtain ⟨hp, hps⟩ := hps.addO
              obtain ⟨hso, hps⟩ := hps.addO
              have hF1 := subS_ok hsub hp hF
              rw [if_pos (wantA_eq hw fun t _ => hF1.looks t)]
              refine SR.wp (bareA_sem hb hso) hF1 hst fun r' w' a' hag hst' hF' hd => ?_
              refine runOps_wp l (i + 1) _ _ _ _ _ _ _ _ hr hps r' a' w' hF' hst' fun r2 w2 a2 hag2 hst2 hF2 hd2 => ?_
              exact hQ r2 w2 a2 (hag.trans hag2 (bareA_len hb)) hst2 hF2 (hd2.trans hd)
        | false =>
          simp only [] at h
          cases hr : runOps P T ops rid (i + 1) l (putF F1 o.dst .undef) H D1 with
          | none => simp [hr] at h
          | some y =>
            obtain ⟨F2, H2, D3, ps', rs'⟩ := y
            simp only [hr, Option.some.injEq, Prod.mk.injEq] at h
            obtain ⟨rfl, rfl, rfl, rfl, _⟩ := h
            obtain ⟨hp, hps⟩ := hps.addO
            have hF1 := subS_ok hsub hp hF
            rw [if_neg (by rw [wantA_eq hw fun t _ => hF1.looks t]; simp)]
            refine ⟨fun _ _ => trivial, ?_⟩
            refine runOps_wp l (i + 1) _ _ _ _ _ _ _ _ hr hps r _ w (hF1.put o.dst .undef) hst fun r2 w2 a2 hag2 hst2 hF2 hd2 => ?_
            exact hQ r2 w2 a2 hag2 hst2 hF2 (hd2.trans (put_defers _ _ _))

end Go.Proofs.Ytodcebpdmjdplaa
