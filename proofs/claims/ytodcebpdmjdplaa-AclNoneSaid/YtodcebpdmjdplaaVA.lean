/- The executor, tenth part: a region whose order is drawn: whatever order its edges allow comes to what the text's order comes to. -/
import Derived.Test.YtodcebpdmjdplaaV9
namespace Go.Proofs.Ytodcebpdmjdplaa
open Go.RowKit
variable {P : Program} {T : CT P}

/-! ### What the run in the text's order has found -/
def SR.ids : SR → List Nat
  | .qt _ _ _ => []
  | .ef _ _ ids _ => ids
def SR.foot : SR → List Nat
  | .qt _ ft _ => ft
  | .ef _ _ _ _ => []
def SR.isEff : SR → Bool
  | .qt _ _ _ => false
  | .ef _ _ _ _ => true

def Rec.v (r : Rec) : AV := match r.s with | some s => s.v | none => .undef
def Rec.isEff (r : Rec) : Bool := match r.s with | some s => s.isEff | none => false
def Rec.ids (r : Rec) : List Nat := match r.s with | some s => s.ids | none => []
def Rec.foot (r : Rec) : List Nat := match r.s with | some s => s.foot | none => []
def Rec.heap (r : Rec) : AH := match r.s with | some s => s.heap r.H | none => r.H

structure RecOk (P : Program) (ops : Array Oper) (o : Oper) (r : Rec) : Prop where
  want : wantA ops r.F o = some r.s.isSome
  sem : ∀ s, r.s = some s → s.Sem P o r.F r.H
  len : r.H.length ≤ r.heap.length
  keep : ∀ i, i < r.H.length → i ∉ r.ids → r.heap[i]? = r.H[i]?

/-- The frames and the memories hang together. -/
def Chain (P : Program) (ops : Array Oper) : List Oper → AF → AH → List Rec → Prop
  | [], _, _, [] => True
  | o :: l, F, H, r :: rs => (∀ (g : Nat → Nat) (t : Nat), (r.F.getD t .undef).conc g = (F.getD t .undef).conc g) ∧ r.F.length = F.length ∧ r.H = H ∧ RecOk P ops o r ∧ Chain P ops l (putF r.F o.dst r.v) r.heap rs
  | _, _, _, _ => False

theorem updAt_notin {upd : List (Nat × AO)} {i : Nat} (h : i ∉ upd.map (·.1)) : updAt upd i = none := by
  induction upd with
  | nil => rfl
  | cons u l ih =>
    simp only [List.map_cons, List.mem_cons, not_or] at h
    unfold updAt
    cases hb : Nat.beq u.1 i with
    | true => exact absurd (Nat.eq_of_beq_eq_true hb).symm h.1
    | false => exact ih h.2

theorem moveH_keep {H : AH} {upd : List (Nat × AO)} {new : List AO} {i : Nat} (hi : i < H.length) (hn : i ∉ upd.map (·.1)) : (moveH H upd new)[i]? = H[i]? := by
  unfold moveH
  rw [List.getElem?_append_left (by rw [turnH_length]; exact hi), turnH_get, Nat.zero_add, updAt_notin hn]
  cases H[i]? <;> rfl

theorem natA_keep {F : AF} {H : AH} {op : Op} {s : SR} (h : natA P T F H op = some s) (i : Nat) (hi : i < H.length) (hn : i ∉ s.ids) : (s.heap H)[i]? = H[i]? := by
  rcases natA_cases h with ⟨v, ft, pr, hq, rfl⟩ | ⟨v, e, he, hH, hF, rfl⟩ | ⟨c, f, args, v, ft, pr, ho, hca, ht, rfl⟩ | ⟨c, f, args, v, upd, new, pr, ho, hca, ht, hH, hF, hu, rfl⟩ | ⟨v, ft, pr, ht, rfl⟩ | ⟨v, upd, new, pr, ht, hH, hF, hu, rfl⟩
  · rfl
  · cases e with
    | new o => simp [SR.heap, Eff.app, List.getElem?_append_left hi]
    | set j x =>
      simp only [SR.ids, Eff.ids, List.mem_singleton] at hn
      simp only [SR.heap, Eff.app, List.getElem?_set]
      rw [if_neg (fun e => hn e.symm)]
  · rfl
  · exact moveH_keep hi hn
  · rfl
  · exact moveH_keep hi hn

theorem bareA_keep {key : Nat} {o : Oper} {F : AF} {H : AH} {D D' : List Dec} {s : SR} (h : bareA P T key o F H D = some (s, D')) (i : Nat) (hi : i < H.length) (hn : i ∉ s.ids) : (s.heap H)[i]? = H[i]? := by
  have nat : (natA P T F H o.op).map (fun s => (s, D)) = some (s, D') → (s.heap H)[i]? = H[i]? := fun h => by
    obtain ⟨s', hs, e⟩ := map_some h
    simp only [Prod.mk.injEq] at e
    obtain ⟨rfl, _⟩ := e
    exact natA_keep hs i hi hn
  unfold bareA at h
  split at h
  · rename_i k v ft D1
    cases hk : Nat.beq k key with
    | false => rw [hk] at h; exact nat h
    | true => cases hd : notDefer o.op <;> simp [hk, hd] at h; obtain ⟨rfl, _⟩ := h; rfl
  · rename_i k v ft D1
    cases hk : Nat.beq k key with
    | false => rw [hk] at h; exact nat h
    | true =>
      simp only [hk, cond_true] at h
      split at h
      · split at h
        · rename_i f args hf
          cases hb : bodyB P f <;> simp [hb] at h
          obtain ⟨rfl, _⟩ := h; rfl
        · simp at h
      · simp at h
  · rename_i k v upd new D1
    cases hk : Nat.beq k key with
    | false => rw [hk] at h; exact nat h
    | true =>
      simp only [hk, cond_true] at h
      split at h
      · split at h
        · rename_i f args hf
          cases hb : (bodyB P f && H.scB && F.scB H.length && updOk H upd) <;> simp [hb] at h
          obtain ⟨rfl, _⟩ := h; exact moveH_keep hi hn
        · simp at h
      · simp at h
  · rename_i k v upd new D1
    cases hk : Nat.beq k key with
    | false => rw [hk] at h; exact nat h
    | true =>
      cases hb : (notDefer o.op && H.scB && F.scB H.length && updOk H upd) <;> simp [hk, hb] at h
      obtain ⟨rfl, _⟩ := h; exact moveH_keep hi hn
  · rename_i k v D1
    cases hk : Nat.beq k key with
    | false => rw [hk] at h; exact nat h
    | true =>
      simp only [hk, cond_true] at h
      split at h
      · split at h
        · simp only [Option.some.injEq, Prod.mk.injEq] at h
          obtain ⟨rfl, _⟩ := h; rfl
        · simp at h
      · simp at h
  · exact nat h

theorem subS_conc {key : Nat} {F F' : AF} {D D' : List Dec} {p : Option Prop} (h : subS key F D = (F', D', p)) (hp : Owed p) : (∀ (g : Nat → Nat) (t : Nat), (F'.getD t .undef).conc g = (F.getD t .undef).conc g) ∧ F'.length = F.length := by
  unfold subS at h
  split at h
  · rename_i k slot d D1
    cases hk : Nat.beq k key with
    | false => simp [hk] at h; exact h.1 ▸ ⟨fun _ _ => rfl, rfl⟩
    | true =>
      simp only [hk, cond_true] at h
      split at h
      · rename_i x hx
        simp only [Prod.mk.injEq] at h
        obtain ⟨rfl, _, rfl⟩ := h
        have e := hp.some
        subst e
        refine ⟨fun g t => ?_, by simp⟩
        have hv := boolOf_eq hx
        by_cases ht : slot = t
        · subst ht
          rw [hv]
          rw [List.getD_eq_getElem?_getD, List.getElem?_set] 
          by_cases hl : slot < F.length
          · simp [hl]
          · rw [List.getD_eq_getElem?_getD, List.getElem?_eq_none (by omega)] at hv
            simp at hv
        · simp only [List.getD_eq_getElem?_getD, List.getElem?_set, if_neg ht]
      · simp at h; exact h.1 ▸ ⟨fun _ _ => rfl, rfl⟩
  · simp at h; exact h.1 ▸ ⟨fun _ _ => rfl, rfl⟩

theorem runOps_chain {ops : Array Oper} {rid : Nat} : ∀ (l : List Oper) (i : Nat) (F : AF) (H : AH) (D : List Dec) (F' : AF) (H' : AH) (D' : List Dec) (ps : List Prop) (rs : List Rec),
    runOps P T ops rid i l F H D = some (F', H', D', ps, rs) → Holds ps → Chain P ops l F H rs
  | [], i, F, H, D, F', H', D', ps, rs, h, _ => by
    simp [runOps] at h
    obtain ⟨_, _, _, _, rfl⟩ := h
    trivial
  | o :: l, i, F, H, D, F', H', D', ps, rs, h, hps => by
    unfold runOps at h
    cases hsub : subS (rid * 1000 + i) F D with
    | mk F1 q =>
      obtain ⟨D1, p⟩ := q
      simp only [hsub] at h
      cases hw : wantA ops F1 o with
      | none => simp [hw] at h
      | some b =>
        simp only [hw] at h
        cases b with
        | true =>
          simp only [] at h
          cases hb : bareA P T (rid * 1000 + i) o F1 H D1 with
          | none => simp [hb] at h
          | some x =>
            obtain ⟨s, D2⟩ := x
            simp only [hb] at h
            cases hr : runOps P T ops rid (i + 1) l (putF F1 o.dst s.v) (s.heap H) D2 with
            | none => simp [hr] at h
            | some y =>
              obtain ⟨F2, H2, D3, ps', rs'⟩ := y
              simp only [hr, Option.some.injEq, Prod.mk.injEq] at h
              obtain ⟨rfl, rfl, rfl, rfl, rfl⟩ := h
              obtain ⟨hp, hps⟩ := hps.addO
              obtain ⟨hso, hps⟩ := hps.addO
              have hc := subS_conc hsub hp
              exact ⟨hc.1, hc.2, rfl, ⟨hw, fun s' hs' => by cases hs'; exact bareA_sem hb hso, bareA_len hb, bareA_keep hb⟩, runOps_chain l (i + 1) _ _ _ _ _ _ _ _ hr hps⟩
        | false =>
          simp only [] at h
          cases hr : runOps P T ops rid (i + 1) l (putF F1 o.dst .undef) H D1 with
          | none => simp [hr] at h
          | some y =>
            obtain ⟨F2, H2, D3, ps', rs'⟩ := y
            simp only [hr, Option.some.injEq, Prod.mk.injEq] at h
            obtain ⟨rfl, rfl, rfl, rfl, rfl⟩ := h
            obtain ⟨hp, hps⟩ := hps.addO
            have hc := subS_conc hsub hp
            exact ⟨hc.1, hc.2, rfl, ⟨hw, fun s' hs' => (by cases hs'), Nat.le_refl _, fun _ _ _ => rfl⟩, runOps_chain l (i + 1) _ _ _ _ _ _ _ _ hr hps⟩

/-! ### Stages -/
/-- How many operations with an effect stand ahead. -/
def rank : List Rec → Nat → Nat
  | [], _ => 0
  | _, 0 => 0
  | r :: rs, i + 1 => (if r.isEff then 1 else 0) + rank rs i

/-- Memory behind the first so many effects. -/
def stage : AH → List Rec → Nat → AH
  | H, [], _ => H
  | H, r :: rs, k => if r.isEff then (match k with | 0 => H | k + 1 => stage r.heap rs k) else stage H rs k

theorem heap_quiet {r : Rec} (h : r.isEff = false) : r.heap = r.H := by
  unfold Rec.isEff at h; unfold Rec.heap
  cases hs : r.s with
  | none => rfl
  | some s => rw [hs] at h; cases s with
    | qt _ _ _ => rfl
    | ef _ _ _ _ => simp [SR.isEff] at h

theorem stage_zero (H : AH) (rs : List Rec) : stage H rs 0 = H := by
  induction rs with
  | nil => rfl
  | cons r rs ih =>
    unfold stage
    split
    · rfl
    · exact ih

theorem chain_H {ops : Array Oper} : ∀ (l : List Oper) (F : AF) (H : AH) (rs : List Rec), Chain P ops l F H rs → ∀ i r, rs[i]? = some r → r.H = stage H rs (rank rs i)
  | [], F, H, rs, h, i, r, hr => by cases rs with | nil => simp at hr | cons _ _ => exact h.elim
  | o :: l, F, H, [], h, i, r, hr => h.elim
  | o :: l, F, H, r0 :: rs, ⟨_, _, hH, hok, hch⟩, 0, r, hr => by
    simp at hr; subst hr
    rw [hH]
    simp only [rank]
    unfold stage
    split
    · rfl
    · exact (stage_zero H rs).symm
  | o :: l, F, H, r0 :: rs, ⟨_, _, hH, hok, hch⟩, i + 1, r, hr => by
    have ih := chain_H l _ _ rs hch i r (by simpa using hr)
    rw [ih]
    simp only [rank]
    conv => rhs; unfold stage
    by_cases he : r0.isEff
    · rw [if_pos he, if_pos he, Nat.add_comm]
    · rw [if_neg he, if_neg he, Nat.zero_add, heap_quiet (by simpa using he), hH]

/-- One effect further. -/
theorem stage_succ {ops : Array Oper} : ∀ (l : List Oper) (F : AF) (H : AH) (rs : List Rec), Chain P ops l F H rs → ∀ i r, rs[i]? = some r → r.isEff = true → stage H rs (rank rs i + 1) = r.heap
  | [], F, H, rs, h, i, r, hr, _ => by cases rs with | nil => simp at hr | cons _ _ => exact h.elim
  | o :: l, F, H, [], h, i, r, hr, _ => h.elim
  | o :: l, F, H, r0 :: rs, ⟨_, _, hH, hok, hch⟩, 0, r, hr, he => by
    simp at hr; subst hr
    simp only [rank]
    unfold stage
    rw [if_pos he]
    exact stage_zero _ _
  | o :: l, F, H, r0 :: rs, ⟨_, _, hH, hok, hch⟩, i + 1, r, hr, he => by
    have ih := stage_succ l _ _ rs hch i r (by simpa using hr) he
    simp only [rank]
    unfold stage
    by_cases h0 : r0.isEff
    · rw [if_pos h0, if_pos h0, show 1 + rank rs i + 1 = (rank rs i + 1) + 1 by omega]
      exact ih
    · rw [if_neg h0, if_neg h0, Nat.zero_add, ← hH, ← heap_quiet (by simpa using h0)]
      exact ih

end Go.Proofs.Ytodcebpdmjdplaa
