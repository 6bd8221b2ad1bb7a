/- The executor, eighteenth part: from one world to a later one, and back; rounds of a range over a function. -/
import Derived.Test.YtodcebpdmjdplaaVH
import Derived.RangeFuncNested
namespace Go.Proofs.Ytodcebpdmjdplaa
open Go.RowKit
variable {P : Program} {T : CT P}

/-- What was the call's own is, seen from a later world, old and written. -/
def reFlag (f : Nat) : Nat := match f with | 1 => 2 | f => f
def reb (H : AH) : AH := H.map fun x => (x.1, reFlag x.2)

theorem reb_get {H : AH} {i : Nat} {x : AO × Nat} (h : (reb H)[i]? = some x) : ∃ y, H[i]? = some y ∧ x = (y.1, reFlag y.2) := by
  unfold reb at h
  rw [List.getElem?_map] at h
  cases hy : H[i]? with
  | none => simp [hy] at h
  | some y => simp [hy] at h; exact ⟨y, rfl, h.symm⟩

theorem reFlag_ne (f : Nat) : reFlag f ≠ 1 := by
  match f with
  | 0 => decide
  | 1 => decide
  | f + 2 => simp [reFlag]
theorem reFlag_two {f : Nat} : reFlag f = 2 ↔ f = 1 ∨ f = 2 := by
  match f with
  | 0 => decide
  | 1 => decide
  | f + 2 => simp [reFlag]

theorem St.rebase {r : Nat → Nat} {H : AH} {W0 W : World} (h : St r H W0 W) : St r (reb H) W W := by
  have hl : (reb H).length = H.length := by simp [reb]
  refine ⟨fun i x hx => ?_, fun i j hi hj => h.inj i j (by omega) (by omega), fun i x hx h1 => ?_, rfl, rfl, rfl, Nat.le_refl _, fun _ _ _ => rfl⟩
  · obtain ⟨y, hy, rfl⟩ := reb_get hx
    exact h.at_ i y hy
  · obtain ⟨y, hy, rfl⟩ := reb_get hx
    exact absurd h1 (reFlag_ne _)

/-- Back: what became of these blocks in the later world. -/
theorem St.back {r r' : Nat → Nat} {H H' H2 : AH} {W0 W W' : World} (h : St r H W0 W) (h' : St r' H' W W') (hag : Agree H.length r r') (he : H'.take H.length = reb H2) (hf : H2.map (·.2) = H.map (·.2)) (hsc : H2.all (fun x => x.1.sc H.length) = true) (hbe : (H'.drop H.length).all (fun x => !Nat.beq x.2 2) = true) : St r H2 W0 W' := by
  have hl : H2.length = H.length := by have := congrArg List.length hf; simpa using this
  have hflag : ∀ (i : Nat) (x : AO × Nat), H2[i]? = some x → ∃ y, H[i]? = some y ∧ x.2 = y.2 := fun i x hx => by
    have := congrArg (·[i]?) hf
    simp only [List.getElem?_map, hx, Option.map_some] at this
    cases hy : H[i]? with
    | none => simp [hy] at this
    | some y => simp [hy] at this; exact ⟨y, rfl, this⟩
  have hin : ∀ (i : Nat) (x : AO × Nat), H2[i]? = some x → H'[i]? = some (x.1, reFlag x.2) := fun i x hx => by
    have hi := (List.getElem?_eq_some_iff.1 hx).1
    have h1 : (H'.take H.length)[i]? = some (x.1, reFlag x.2) := by rw [he]; simp [reb, hx]
    rwa [List.getElem?_take, if_pos (by omega)] at h1
  have hH' : H.length ≤ H'.length := by
    have := congrArg List.length he
    simp [reb, hl] at this; omega
  refine ⟨fun i x hx => ?_, fun i j hi hj => h.inj i j (by omega) (by omega), fun i x hx h1 => ?_, h'.os.trans h.os, h'.tape.trans h.tape, h'.output.trans h.output, Nat.le_trans h.size h'.size, fun b hb hn => ?_⟩
  · have hi := (List.getElem?_eq_some_iff.1 hx).1
    have := h'.at_ i _ (hin i x hx)
    rw [hag i (by omega)] at this
    rw [this]
    exact congrArg some (AO.conc_agree hag (List.all_eq_true.1 hsc x (List.mem_of_getElem? hx)))
  · obtain ⟨y, hy, e⟩ := hflag i x hx
    exact h.own i y hy (by rw [← e]; exact h1)
  · have hold : ∀ (i : Nat) (x : AO × Nat), H2[i]? = some x → x.2 = 1 ∨ x.2 = 2 → r i ≠ b := fun i x hx hx12 e => by
      rcases hx12 with h1 | h2
      · obtain ⟨y, hy, e'⟩ := hflag i x hx
        have := h.own i y hy (by rw [← e']; exact h1)
        omega
      · exact hn i x hx h2 e
    have e1 : W'.heap[b]? = W.heap[b]? := by
      refine h'.frame b (by have := h.size; omega) fun i x hx hx2 e => ?_
      by_cases hi : i < H.length
      · obtain ⟨x2, hx2'⟩ : ∃ z, H2[i]? = some z := ⟨H2[i]'(by omega), List.getElem?_eq_getElem _⟩
        have := hin i x2 hx2'
        rw [hx] at this; cases this
        rw [hag i hi] at e
        exact hold i x2 hx2' (reFlag_two.1 hx2) e
      · have h1 : (H'.drop H.length)[i - H.length]? = some x := by rw [List.getElem?_drop, show H.length + (i - H.length) = i by omega]; exact hx
        have := List.all_eq_true.1 hbe x (List.mem_of_getElem? h1)
        rw [hx2] at this; simp at this
    rw [e1]
    refine h.frame b hb fun i x hx h2 => ?_
    obtain ⟨x2, hx2⟩ : ∃ z, H2[i]? = some z := ⟨H2[i]'(by have := (List.getElem?_eq_some_iff.1 hx).1; omega), List.getElem?_eq_getElem _⟩
    obtain ⟨y, hy, e⟩ := hflag i x2 hx2
    rw [hx] at hy; cases hy
    exact hn i x2 hx2 (by rw [e]; exact h2)


theorem St.keepsOthers {r r' : Nat → Nat} {H H' : AH} {W W' : World} (h : St r H W W) (h' : St r' H' W W') (hag : Agree H.length r r') (hc : H.all (fun x => match x.1 with | .cells _ _ => true | .raw _ => !Nat.beq x.2 2) = true)
    (hf : (H'.take H.length).map (·.2) = H.map (·.2)) (hbe : (H'.drop H.length).all (fun x => !Nat.beq x.2 2) = true) : KeepsOthers W W' := by
  refine ⟨h'.size, fun k o hk ho => ?_⟩
  refine (h'.frame k (Array.getElem?_eq_some_iff.1 hk).1 fun i x hx h2 e => ?_).trans hk
  by_cases hi : i < H.length
  · obtain ⟨y, hy⟩ : ∃ y, H[i]? = some y := ⟨H[i], List.getElem?_eq_getElem hi⟩
    have e2 : x.2 = y.2 := by
      have := congrArg (·[i]?) hf
      simp only [List.getElem?_map, List.getElem?_take, if_pos hi, hx, hy, Option.map_some] at this
      exact Option.some.inj this
    have h1 := h.at_ i y hy
    rw [hag i hi] at e
    rw [e, hk] at h1
    have := List.all_eq_true.1 hc y (List.mem_of_getElem? hy)
    rw [← e2, h2] at this
    cases hy1 : y.1 with
    | cells cs t =>
      rw [hy1] at h1
      simp only [AO.conc, Option.some.injEq] at h1
      rw [h1] at ho; simp [Obj.isCells] at ho
    | raw o' => rw [hy1] at this; simp at this
  · have h1 : (H'.drop H.length)[i - H.length]? = some x := by rw [List.getElem?_drop, show H.length + (i - H.length) = i by omega]; exact hx
    have := List.all_eq_true.1 hbe x (List.mem_of_getElem? h1)
    rw [h2] at this; simp at this

/-- Nothing below n is turned, where what may be turned lies at or beyond n. -/
theorem St.belowN {r r' : Nat → Nat} {H H' : AH} {W W' : World} {n : Nat} (h' : St r' H' W W') (hag : Agree H.length r r') (hn : n ≤ W.heap.size) (hr : ∀ (i : Nat) (x : AO × Nat), H[i]? = some x → x.2 = 2 → n ≤ r i)
    (hf : (H'.take H.length).map (·.2) = H.map (·.2)) (hbe : (H'.drop H.length).all (fun x => !Nat.beq x.2 2) = true) : Below n W W' := by
  refine ⟨h'.os, h'.tape, h'.output, h'.size, fun k hk => h'.frame k (by omega) fun i x hx h2 e => ?_⟩
  by_cases hi : i < H.length
  · obtain ⟨y, hy⟩ : ∃ y, H[i]? = some y := ⟨H[i], List.getElem?_eq_getElem hi⟩
    have e2 : x.2 = y.2 := by
      have := congrArg (·[i]?) hf
      simp only [List.getElem?_map, List.getElem?_take, if_pos hi, hx, hy, Option.map_some] at this
      exact Option.some.inj this
    have := hr i y hy (by rw [← e2]; exact h2)
    rw [hag i hi] at e
    omega
  · have h1 : (H'.drop H.length)[i - H.length]? = some x := by rw [List.getElem?_drop, show H.length + (i - H.length) = i by omega]; exact hx
    have := List.all_eq_true.1 hbe x (List.mem_of_getElem? h1)
    rw [h2] at this; simp at this

/-- It abides what is turned beyond. -/
theorem St.ownFrom {r : Nat → Nat} {H : AH} {W0 W W' : World} {B : Nat} {row : Option Nat} (h : St r H W0 W) (hr : ∀ i, i < H.length → r i < B) (hB : W0.heap.size ≤ B) (hg : W.grownBy W' row) (hrow : ∀ k, row = some k → B ≤ k) : St r H W0 W' :=
  ⟨fun i x hx => by
    have hi := (List.getElem?_eq_some_iff.1 hx).1
    exact (hg.block _ (h.lt hi) (fun e => by have := hrow _ e.symm; have := hr i hi; omega)).trans (h.at_ i x hx), h.inj, h.own, hg.os.trans h.os, hg.tape.trans h.tape, hg.output.trans h.output, Nat.le_trans h.size hg.size,
    fun b hb hn => (hg.block b (by have := h.size; omega) (fun e => by have := hrow _ e.symm; omega)).trans (h.frame b hb hn)⟩

/-- The frame of a round, its element in its slot. -/
theorem FrameOk.round {r : Nat → Nat} {F : AF} {a : Act} (h : FrameOk r F a) (p : Tmp) (x : AV) {v : Value} (hx : x.conc r = v) :
    FrameOk r (F.set p x) { tmps := ((#[p].zip #[v]).foldl (fun t (p, v) => t.setIfInBounds p v) a.tmps), defers := [] } := by
  subst hx
  unfold FrameOk at *
  simp [h, List.map_set]


theorem St.as {r : Nat → Nat} {H H2 : AH} {W0 W : World} (h : St r H W0 W) (e : H = H2) : St r H2 W0 W := e ▸ h
theorem FrameOk.as {r : Nat → Nat} {F F2 : AF} {a : Act} (h : FrameOk r F a) (e : F = F2) : FrameOk r F2 a := e ▸ h

/-- On: the later world's new blocks are the call's own, too. -/
theorem St.fwd {r r' : Nat → Nat} {H H' : AH} {W0 W W' : World} (H2 : AH) (h : St r H W0 W) (h' : St r' H' W W') (hag : Agree H.length r r') (he : H' = reb (H2.take H.length) ++ H2.drop H.length) (hf : (H2.take H.length).map (·.2) = H.map (·.2)) (hbe : (H2.drop H.length).all (fun x => Nat.beq x.2 1) = true) : St r' H2 W0 W' := by
  have hl : (H2.take H.length).length = H.length := by have := congrArg List.length hf; simpa using this
  have hle : H.length ≤ H2.length := by simp at hl; omega
  have hl' : H'.length = H2.length := by rw [he]; simp [reb]; omega
  have hlow : ∀ (i : Nat) (x : AO × Nat), i < H.length → H2[i]? = some x → H'[i]? = some (x.1, reFlag x.2) ∧ ∃ y, H[i]? = some y ∧ x.2 = y.2 := fun i x hi hx => by
    have ht : (H2.take H.length)[i]? = some x := by rw [List.getElem?_take, if_pos hi]; exact hx
    refine ⟨?_, ?_⟩
    · rw [he, List.getElem?_append_left (by simp [reb]; omega)]
      unfold reb; rw [List.getElem?_map, ht]; rfl
    · have := congrArg (·[i]?) hf
      simp only [List.getElem?_map, ht, Option.map_some] at this
      cases hy : H[i]? with
      | none => simp [hy] at this
      | some y => simp [hy] at this; exact ⟨y, rfl, this⟩
  have hhigh : ∀ (i : Nat) (x : AO × Nat), ¬ i < H.length → H2[i]? = some x → H'[i]? = some x ∧ x.2 = 1 := fun i x hi hx => by
    have hd : (H2.drop H.length)[i - H.length]? = some x := by rw [List.getElem?_drop, show H.length + (i - H.length) = i by omega]; exact hx
    refine ⟨?_, ?_⟩
    · rw [he, List.getElem?_append_right (by simp [reb]; omega)]
      simp only [reb, List.length_map, hl]
      exact hd
    · have := List.all_eq_true.1 hbe x (List.mem_of_getElem? hd)
      simpa using this
  refine ⟨fun i x hx => ?_, fun i j hi hj => h'.inj i j (by omega) (by omega), fun i x hx h1 => ?_, h'.os.trans h.os, h'.tape.trans h.tape, h'.output.trans h.output, Nat.le_trans h.size h'.size, fun b hb hn => ?_⟩
  · by_cases hi : i < H.length
    · exact h'.at_ i (x.1, reFlag x.2) (hlow i x hi hx).1
    · exact h'.at_ i x (hhigh i x hi hx).1
  · by_cases hi : i < H.length
    · obtain ⟨y, hy, e⟩ := (hlow i x hi hx).2
      rw [hag i hi]
      exact h.own i y hy (by rw [← e]; exact h1)
    · have := h'.own i x (hhigh i x hi hx).1 h1
      have := h.size; omega
  · have e1 : W'.heap[b]? = W.heap[b]? := by
      refine h'.frame b (by have := h.size; omega) fun i x hx hx2 e => ?_
      have hi2 : i < H2.length := by have := (List.getElem?_eq_some_iff.1 hx).1; omega
      obtain ⟨x2, hx2'⟩ : ∃ z, H2[i]? = some z := ⟨H2[i], List.getElem?_eq_getElem _⟩
      by_cases hi : i < H.length
      · obtain ⟨h1, y, hy, e'⟩ := hlow i x2 hi hx2'
        rw [hx] at h1; cases h1
        rcases reFlag_two.1 hx2 with h1 | h2
        · have := h.own i y hy (by rw [← e']; exact h1)
          rw [hag i hi] at e; omega
        · exact hn i x2 hx2' h2 e
      · have h1 := hhigh i x2 hi hx2'
        rw [hx] at h1
        have := h1.1; cases this
        rw [h1.2] at hx2; cases hx2
    rw [e1]
    refine h.frame b hb fun i x hx h2 => ?_
    have hi := (List.getElem?_eq_some_iff.1 hx).1
    obtain ⟨x2, hx2⟩ : ∃ z, H2[i]? = some z := ⟨H2[i]'(by omega), List.getElem?_eq_getElem _⟩
    obtain ⟨-, y, hy, e⟩ := hlow i x2 hi hx2
    rw [hx] at hy; cases hy
    rw [← hag i hi]
    exact hn i x2 hx2 (by rw [e]; exact h2)

/-- Own blocks forgotten. -/
theorem St.forget {r r' : Nat → Nat} {H2 : AH} {W0 W : World} (H : AH) (h : St r' H2 W0 W) (hag : Agree H.length r r') (he : H2.take H.length = H) (hsc : H.all (fun x => x.1.sc H.length) = true) (hbe : (H2.drop H.length).all (fun x => !Nat.beq x.2 2) = true) : St r H W0 W := by
  have hle : H.length ≤ H2.length := by have := congrArg List.length he; simp at this; omega
  have hin : ∀ (i : Nat) (x : AO × Nat), H[i]? = some x → i < H.length ∧ H2[i]? = some x := fun i x hx => by
    have hi := (List.getElem?_eq_some_iff.1 hx).1
    refine ⟨hi, ?_⟩
    rw [← he, List.getElem?_take, if_pos hi] at hx
    exact hx
  refine ⟨fun i x hx => ?_, fun i j hi hj e => h.inj i j (by omega) (by omega) (by rw [hag i hi, hag j hj]; exact e), fun i x hx h1 => ?_, h.os, h.tape, h.output, h.size, fun b hb hn => h.frame b hb fun i x hx h2 => ?_⟩
  · obtain ⟨hi, hx2⟩ := hin i x hx
    have := h.at_ i x hx2
    rw [hag i hi] at this
    rw [this]
    exact congrArg some (AO.conc_agree hag (List.all_eq_true.1 hsc x (List.mem_of_getElem? hx)))
  · obtain ⟨hi, hx2⟩ := hin i x hx
    rw [← hag i hi]
    exact h.own i x hx2 h1
  · by_cases hi : i < H.length
    · rw [hag i hi]
      refine hn i x ?_ h2
      rw [← he, List.getElem?_take, if_pos hi]
      exact hx
    · have hd : (H2.drop H.length)[i - H.length]? = some x := by rw [List.getElem?_drop, show H.length + (i - H.length) = i by omega]; exact hx
      have := List.all_eq_true.1 hbe x (List.mem_of_getElem? hd)
      rw [h2] at this; simp at this

def AO.isC : AO → Bool
  | .cells _ _ => true
  | .raw _ => false

/-- It abides what is turned beyond, and is no cells. -/
theorem St.ownC {r : Nat → Nat} {H : AH} {W0 W W' : World} {B : Nat} {row : Option Nat} (h : St r H W0 W) (hr : ∀ (i : Nat) (x : AO × Nat), H[i]? = some x → x.1.isC = true ∨ r i < B) (hB : W0.heap.size ≤ B) (hg : W.grownBy W' row) (hrow : ∀ k, row = some k → B ≤ k ∧ ∃ o : Obj, W.heap[k]? = some o ∧ o.isCells = false) : St r H W0 W' :=
  ⟨fun i x hx => by
    have hi := (List.getElem?_eq_some_iff.1 hx).1
    refine (hg.block _ (h.lt hi) (fun e => ?_)).trans (h.at_ i x hx)
    obtain ⟨h1, o, h2, h3⟩ := hrow _ e.symm
    rcases hr i x hx with hc | hl
    · have h4 := h.at_ i x hx
      rw [h2] at h4
      cases hx1 : x.1 with
      | cells cs t => rw [hx1] at h4; simp only [AO.conc, Option.some.injEq] at h4; rw [h4] at h3; simp [Obj.isCells] at h3
      | raw o' => rw [hx1] at hc; simp [AO.isC] at hc
    · omega, h.inj, h.own, hg.os.trans h.os, hg.tape.trans h.tape, hg.output.trans h.output, Nat.le_trans h.size hg.size,
    fun b hb hn => (hg.block b (by have := h.size; omega) (fun e => by have := (hrow _ e.symm).1; omega)).trans (h.frame b hb hn)⟩

/-- A block more that is known. -/
theorem St.more {r : Nat → Nat} {H : AH} {W0 W : World} (h : St r H W0 W) (hsc : H.scB = true) {D : Nat} (o : AO) (ho : W.heap[D]? = some (o.conc (bump r H.length D))) (hne : ∀ i, i < H.length → r i ≠ D) (hD : W0.heap.size ≤ D) : St (bump r H.length D) (H ++ [(o, 1)]) W0 W := by
  have hag := bump_agree r H.length D
  refine ⟨fun i x hx => ?_, fun i j hi hj e => ?_, fun i x hx h1 => ?_, h.os, h.tape, h.output, h.size, fun b hb hn => h.frame b hb fun i x hx h2 => ?_⟩
  · rw [getElem?_snoc] at hx
    split at hx
    · rename_i e; subst e; cases hx
      simp only [bump, if_true] 
      exact ho
    · have hi := (List.getElem?_eq_some_iff.1 hx).1
      rw [hag i hi, h.at_ i x hx]
      exact congrArg some (AO.conc_agree hag (List.all_eq_true.1 hsc x (List.mem_of_getElem? hx))).symm
  · simp only [List.length_append, List.length_singleton] at hi hj
    by_cases ei : i = H.length <;> by_cases ej : j = H.length
    · omega
    · exfalso
      rw [hag j (by omega)] at e
      simp only [bump, ei, if_true] at e
      exact hne j (by omega) e.symm
    · exfalso
      rw [hag i (by omega)] at e
      simp only [bump, ej, if_true] at e
      exact hne i (by omega) e
    · exact h.inj i j (by omega) (by omega) (by rw [hag i (by omega), hag j (by omega)] at e; exact e)
  · rw [getElem?_snoc] at hx
    split at hx
    · rename_i e; subst e
      simp only [bump, if_true]; exact hD
    · rw [hag i (List.getElem?_eq_some_iff.1 hx).1]; exact h.own i x hx h1
  · have hi := (List.getElem?_eq_some_iff.1 hx).1
    rw [← hag i hi]
    exact hn i x (by rw [List.getElem?_append_left hi]; exact hx) h2

/-- A function's end behind a range over a function. -/
theorem marksPost {n : Nat} {fn : Func} {F : AF} {H : AH} {v : AV} {r : Nat → Nat} {a : Act} {W0 W : World} {R : Ending → World → Prop} (iD : Nat) (hx : H[iD]? = some (.raw (.deferred (some [])), 1)) (hv : retA P fn F (H.set iD (.raw (.deferred none), 1)) = some v)
    (hF : FrameOk r F a) (hst : St r H W0 W) (hd : a.defers = [{ target := .collected (r iD), args := #[] }]) (hR : ∀ W', St r (H.set iD (.raw (.deferred none), 1)) W0 W' → R (.returned (v.conc r)) W') :
    bodyPostM (Fw none) n P fn R .ret a W ∧ bodyPostM (Fw none) n P fn R .normal a W := by
  have hk : W.heap[r iD]? = some (.deferred (some [])) := hst.at_ iD _ hx
  have hst' : St r (H.set iD (.raw (.deferred none), 1)) W0 (W.putObj (r iD) (.deferred none)) := by
    have hlt := (Array.getElem?_eq_some_iff.1 hk).1
    refine St.turn hst hx (.raw (.deferred none)) (World.putObj_heap_same hlt) (fun b hb => World.putObj_heap_other hb) rfl rfl rfl (by simp) (.inl rfl)
  have key : LeavesInM (Fw none) n P fn a.tmps R a.defers .returning W := by
    rw [hd]
    exact ⟨by simp, .inl ⟨_, _, rfl, run_takeDeferred hk, ⟨_, retA_run hv hF hst', hR _ hst'⟩⟩⟩
  exact ⟨key, key⟩

/-! ### Code by a run, what it comes to unwritten -/
abbrev KX := Option (RX × AF × AH × List Dec × List Prop)
def KX.x : KX → Option RX | some y => some y.1 | none => none
def KX.F : KX → AF | some y => y.2.1 | none => []
def KX.H : KX → AH | some y => y.2.2.1 | none => []
def KX.ps : KX → List Prop | some y => y.2.2.2.2 | none => [False]
def runC (P : Program) (T : CT P) (k : List KI) (F : AF) (H : AH) (D : List Dec) : KX := runK P T 100000 k F H D

theorem code_wp (hmx : P.follows .mixedOrders = true) {ro : Option Nat} {n : Nat} {Q : Exit → Act → World → Prop} {W0 : World} (T : CT P) (D : List Dec) (qs : List Prop) (x : RX) {c : Code} {F : AF} {H : AH}
    (hx : (runC P T [.code c] F H D).x = some x) (hq : (runC P T [.code c] F H D).ps = qs) (hqs : Holds qs) {r : Nat → Nat} {a : Act} {w : World} (hF : FrameOk r F a) (hst : St r H W0 w)
    (hQ : ∀ r' w' a', Agree H.length r r' → St r' (runC P T [.code c] F H D).H W0 w' → FrameOk r' (runC P T [.code c] F H D).F a' → a'.defers = a.defers → x.fin ro n P Q a' w') : c.wpIn (Fw ro) n P Q a w := by
  have e : runK P T 100000 [.code c] F H D = some (x, (runC P T [.code c] F H D).F, (runC P T [.code c] F H D).H, ((runK P T 100000 [.code c] F H D).map (·.2.2.2.1)).getD [], qs) := by
    rw [← hq]
    unfold runC at hx ⊢
    cases h : runK P T 100000 [.code c] F H D with
    | none => rw [h] at hx; cases hx
    | some y => rw [h] at hx; cases hx; rfl
  exact runK_wp hmx _ _ _ _ _ _ _ _ _ _ e hqs r a w hF hst hQ


abbrev FX := Option (AV × AH × List Prop)
def FX.v : FX → Option AV | some y => some y.1 | none => none
def FX.H : FX → AH | some y => y.2.1 | none => []
def FX.ps : FX → List Prop | some y => y.2.2 | none => [False]
def runF (P : Program) (T : CT P) (f : FuncId) (args : List AV) (H : AH) (D : List Dec) : FX := fnA P T f args H D

theorem AV.conc_eq {n : Nat} {r r' : Nat → Nat} (h : Agree n r r') {v : AV} (hv : v.sc n = true) : v.conc r' = v.conc r := AV.conc_agree h hv

/-- A function that turns blocks that are known, and hands back what speaks of these alone. -/
theorem fnA_keep (hmx : P.follows .mixedOrders = true) (T : CT P) {f : FuncId} {args : List AV} {H : AH} (D : List Dec) (v : AV) (ps : List Prop) (Hk : AH) (hv : (runF P T f args H D).v = some v) (hq : (runF P T f args H D).ps = ps) (hps : Holds ps)
    (hk : (runF P T f args H D).H.take Hk.length = Hk) (hl : Nat.beq Hk.length H.length = true) (hbe : ((runF P T f args H D).H.drop Hk.length).all (fun x => !Nat.beq x.2 2) = true) (hsc : (v.sc H.length && Hk.all (fun x => x.1.sc Hk.length)) = true) {r : Nat → Nat} {W0 w : World} (hst : St r H W0 w) :
    Calls P f (args.map (AV.conc r)).toArray w fun e w' => e = .returned (v.conc r) ∧ St r Hk W0 w' := by
  have e : fnA P T f args H D = some (v, (runF P T f args H D).H, ps) := by
    rw [← hq]
    unfold runF at hv ⊢
    cases h : fnA P T f args H D with
    | none => rw [h] at hv; cases hv
    | some y => rw [h] at hv; cases hv; rfl
  refine (fnA_calls hmx e hps hst).mono ?_
  rintro x w' ⟨r', hag, rfl, hst'⟩
  have hll : Hk.length = H.length := Nat.eq_of_beq_eq_true hl
  simp only [Bool.and_eq_true] at hsc
  exact ⟨by rw [AV.conc_eq hag hsc.1], St.forget Hk hst' (by rw [hll]; exact hag) hk hsc.2 hbe⟩

end Go.Proofs.Ytodcebpdmjdplaa
