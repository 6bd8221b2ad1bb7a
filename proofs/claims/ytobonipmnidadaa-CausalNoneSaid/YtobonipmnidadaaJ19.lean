/- What lies behind the library's sort: the row turned, all else as it was. A drawn region whose last operations stand in one order: those ahead of them in any order, then they. -/
import Derived.Test.YtobonipmnidadaaJ16
import Derived.Shelf.SlSortCmp.InsertionK
namespace Go.Proofs.Ytobonipmnidadaa
open Go.RowKit Go.Sort
variable {P : Program}

theorem flat_at {α : Type} {enc : α → List Value} {k : Nat} (hk : ∀ x, (enc x).length = k) : ∀ (l : List α) (i j : Nat) (x : α), l[i]? = some x → j < k → (l.flatMap enc)[i * k + j]? = (enc x)[j]?
  | [], i, j, x, h, _ => by simp at h
  | a :: l, 0, j, x, h, hj => by
    simp at h
    subst h
    simp only [List.flatMap_cons, Nat.zero_mul, Nat.zero_add]
    rw [List.getElem?_append_left (by rw [hk]; exact hj)]
  | a :: l, i + 1, j, x, h, hj => by
    have ih := flat_at hk l i j x (by simpa using h) hj
    simp only [List.flatMap_cons]
    rw [List.getElem?_append_right (by rw [hk, Nat.succ_mul]; omega), hk, show (i + 1) * k + j - k = i * k + j by rw [Nat.succ_mul]; omega]
    exact ih
theorem flat_length {α : Type} {enc : α → List Value} {k : Nat} (hk : ∀ x, (enc x).length = k) (l : List α) : (l.flatMap enc).length = l.length * k := by
  induction l with
  | nil => simp
  | cons a l ih => simp [ih, hk, Nat.succ_mul, Nat.add_comm]

theorem flatK_list {α : Type} [Inhabited α] {enc : α → List Value} {k : Nat} (hk : ∀ x, (enc x).length = k) (hpos : 0 < k) (d : Array α) : (flatK enc k d).toList = d.toList.flatMap enc := by
  apply List.ext_getElem?
  intro t
  have hl := flat_length hk d.toList
  by_cases ht : t < d.size * k
  · have hi : t / k < d.size := Nat.div_lt_of_lt_mul (by rwa [Nat.mul_comm])
    have hj := Nat.mod_lt t hpos
    have hx : d.toList[t / k]? = some d[t / k] := by simp [hi]
    have e := flat_at hk d.toList (t / k) (t % k) _ hx hj
    rw [Nat.div_add_mod' t k] at e
    rw [e]
    have hj' : t % k < (enc d[t / k]).length := by rw [hk]; exact hj
    simp only [flatK, Array.toList_map, Array.toList_range, List.getElem?_map, List.getElem?_range ht, Option.map_some]
    rw [getElem!_pos d (t / k) hi, getElem!_pos _ (t % k) hj', List.getElem?_eq_getElem hj']
  · rw [List.getElem?_eq_none (by simp; omega), List.getElem?_eq_none (by rw [hl]; simp; omega)]

theorem sort_at {α : Type} [Inhabited α] {enc : α → List Value} {k : Nat} (hk : ∀ x, (enc x).length = k) (hpos : 0 < k) {w : World} {blk m : Nat} {d : Array α} {os : Array Obj} {cur : Array Value} {e : TypeId} {fz : Nat × Nat} (h : w.heap[blk]? = some (.cells cur e fz)) (hsz : d.size * k ≤ cur.size) :
    ∃ cur', (sortWorldK enc k w blk 0 m d os).heap[blk]? = some (.cells cur' e fz) ∧ cur'.size = cur.size ∧ cur'.toList.take (d.size * k) = d.toList.flatMap enc := by
  refine ⟨putCells id 0 (flatK enc k d) cur, ?_, by simp [putCells], ?_⟩
  · have hlt := (Array.getElem?_eq_some_iff.1 h).1
    unfold sortWorldK
    rw [heap_grow_old _ _ (by simp [putRowK, putRow, mapBlock]; exact hlt)]
    simp only [putRowK, putRow, mapBlock, heap_ahead]
    rw [Array.getElem?_modify]
    simp [h, onCells]
  · rw [← flatK_list hk hpos]
    apply List.ext_getElem?
    intro t
    rw [List.getElem?_take]
    by_cases ht : t < d.size * k
    · have h1 : t < cur.size := by omega
      rw [if_pos ht]
      simp only [putCells, Array.getElem?_toList, Array.getElem?_mapIdx, Array.getElem?_eq_getElem h1, Option.map_some, Nat.zero_le, size_flatK, Nat.zero_add, ht, and_self, if_true, Nat.sub_zero, id_eq]
      rw [getElem!_pos _ t (by simpa using ht), Array.getElem?_eq_getElem (by simpa using ht)]
    · rw [if_neg ht, List.getElem?_eq_none (by simp; omega)]

theorem sort_other {α : Type} [Inhabited α] {enc : α → List Value} {k : Nat} {w : World} {blk off m : Nat} {d : Array α} {os : Array Obj} {b : Nat} (hb : b < w.heap.size) (hne : b ≠ blk) : (sortWorldK enc k w blk off m d os).heap[b]? = w.heap[b]? := by
  unfold sortWorldK
  rw [heap_grow_old _ _ (by simp [putRowK, putRow, mapBlock]; exact hb)]
  simp only [putRowK, putRow, mapBlock, heap_ahead]
  rw [Array.getElem?_modify]
  simp [Ne.symm hne]

theorem sort_below {α : Type} [Inhabited α] {enc : α → List Value} {k : Nat} {w : World} {blk off m n : Nat} {d : Array α} {os : Array Obj} (hn : n ≤ blk) (hw : n ≤ w.heap.size) : Below n w (sortWorldK enc k w blk off m d os) :=
  ⟨rfl, rfl, rfl, by simp [sortWorldK, grow, putRowK, putRow, mapBlock], fun b hb => sort_other (by omega) (by omega)⟩

end Go.Proofs.Ytobonipmnidadaa

namespace Go.Proofs.Ytobonipmnidadaa
open Go.RowKit
variable {P : Program} {F : Fence} {n : Nat} {Q : Exit → Act → World → Prop}

/-- Must the one have been listed ahead of the other? -/
def needsB (ops : Array Oper) : Nat → Nat → Nat → Bool
  | 0, _, _ => false
  | f + 1, i, j => match ops[i]? with
    | some o => o.after.toList.any fun e => Region.binds .any e && (Nat.beq e.on j || needsB ops f e.on j)
    | none => false

/-- What is listed has all it needs listed. -/
def Closed (ops : Array Oper) (l : Array Bool) : Prop := ∀ (i : Nat) (o : Oper), ops[i]? = some o → l.getD i false = true → ∀ e ∈ o.after, Region.binds .any e = true → l.getD e.on false = true

theorem needs_listed {ops : Array Oper} {l : Array Bool} (hc : Closed ops l) : ∀ (f i j : Nat), (∀ o, ops[i]? = some o → ∀ e ∈ o.after, Region.binds .any e = true → l.getD e.on false = true) → needsB ops f i j = true → l.getD j false = true
  | 0, i, j, _, h => by cases h
  | f + 1, i, j, hi, h => by
    unfold needsB at h
    cases ho : ops[i]? with
    | none => simp [ho] at h
    | some o =>
      simp only [ho, List.any_eq_true, Bool.and_eq_true, Bool.or_eq_true] at h
      obtain ⟨e, he, hb, h⟩ := h
      have hl := hi o ho e (Array.mem_toList_iff.1 he) hb
      rcases h with h | h
      · rw [← Nat.eq_of_beq_eq_true h]; exact hl
      · exact needs_listed hc f e.on j (fun o' ho' => hc e.on o' ho' hl) h

/-- The last ones stand behind all the others, in the order of the text; no edge goes forward; no guard of the first ones looks at the last ones. -/
def tailB (ops : Array Oper) (m : Nat) : Bool :=
  ((List.range ops.size).all fun i => match ops[i]? with
    | some o => (o.after.toList.all fun e => !Region.binds .any e || Nat.blt e.on i) && (match o.guard with | some g => !Nat.blt i m || Nat.blt g.1 m | none => true) && (Nat.blt i m || (List.range i).all fun j => needsB ops ops.size i j)
    | none => true) && Nat.ble m ops.size

structure TailOk (ops : Array Oper) (m : Nat) : Prop where
  back : ∀ (i : Nat) (o : Oper), ops[i]? = some o → ∀ e ∈ o.after, Region.binds .any e = true → e.on < i
  guard : ∀ (i : Nat) (o : Oper), ops[i]? = some o → i < m → ∀ g, o.guard = some g → g.1 < m
  needs : ∀ i, i < ops.size → m ≤ i → ∀ j, j < i → needsB ops ops.size i j = true
  le : m ≤ ops.size

theorem tailB_ok {ops : Array Oper} {m : Nat} (h : tailB ops m = true) : TailOk ops m := by
  unfold tailB at h
  simp only [Bool.and_eq_true, Nat.ble_eq] at h
  obtain ⟨h, hle⟩ := h
  have key : ∀ (i : Nat) (o : Oper), ops[i]? = some o → (o.after.toList.all fun e => !Region.binds .any e || Nat.blt e.on i) = true ∧ (match o.guard with | some g => !Nat.blt i m || Nat.blt g.1 m | none => true) = true ∧ (Nat.blt i m || (List.range i).all fun j => needsB ops ops.size i j) = true := fun i o ho => by
    have := all_range h i (Array.getElem?_eq_some_iff.1 ho).1
    simp only [ho, Bool.and_eq_true] at this
    exact ⟨this.1.1, this.1.2, this.2⟩
  refine ⟨fun i o ho e he hb => ?_, fun i o ho hi g hg => ?_, fun i hi hm j hj => ?_, hle⟩
  · have := List.all_eq_true.1 (key i o ho).1 e (Array.mem_toList_iff.2 he)
    simpa [hb] using this
  · have := (key i o ho).2.1
    rw [hg] at this
    simp only [Bool.or_eq_true, Bool.not_eq_true', Nat.blt_eq] at this
    rcases this with h1 | h1
    · have h2 : Nat.blt i m = true := by simpa using hi
      rw [h1] at h2; cases h2
    · exact h1
  · have := (key i ops[i] (Array.getElem?_eq_getElem hi)).2.2
    simp only [Bool.or_eq_true, Nat.blt_eq, List.all_eq_true, List.mem_range] at this
    rcases this with h1 | h1
    · omega
    · exact h1 j hj

theorem getD_set {l : Array Bool} {i j : Nat} (hi : i < l.size) : (l.setIfInBounds i true).getD j false = (decide (i = j) || l.getD j false) := by
  simp only [Array.getD_eq_getD_getElem?]
  rw [Array.getElem?_setIfInBounds]
  by_cases e : i = j
  · subst e; simp [hi]
  · simp [e]

theorem closed_set {ops : Array Oper} {l : Array Bool} (hs : l.size = ops.size) (hc : Closed ops l) {i : Nat} (hi : i ∈ Region.ready .any ops l) : Closed ops (l.setIfInBounds i true) := by
  obtain ⟨o, ho, -, h2⟩ := mem_ready'.1 hi
  have hlt : i < l.size := by rw [hs]; exact (Array.getElem?_eq_some_iff.1 ho).1
  intro j o' ho' hj e he hb
  rw [getD_set hlt] at hj ⊢
  simp only [Bool.or_eq_true, decide_eq_true_eq] at hj ⊢
  rcases hj with rfl | hj
  · rw [ho] at ho'; cases ho'
    exact .inr (h2 e he hb)
  · exact .inr (hc j o' ho' hj e he hb)

/-- From some place on: one behind the other. -/
theorem tail_seq {ops : Array Oper} {m : Nat} (h : TailOk ops m) : ∀ (d k : Nat) (l : Array Bool) (a : Act) (w : World), k + d = ops.size → m ≤ k → l.size = ops.size → Closed ops l → (∀ j, j < ops.size → l.getD j false = decide (j < k)) →
    wpOpsIn F n P ops Q (List.range' k d) a w → wpAnyIn F n P .any ops Q d l a w
  | 0, k, l, a, w, hk, hm, hs, hc, hl, hw => by
    refine ⟨List.eq_nil_iff_forall_not_mem.2 fun i hi => ?_, by simpa [wpOpsIn] using hw⟩
    obtain ⟨o, ho, h1, -⟩ := mem_ready'.1 hi
    have hlt := (Array.getElem?_eq_some_iff.1 ho).1
    have := hl i hlt
    simp only [Array.getD_eq_getD_getElem?, Array.getElem?_eq_getElem (show i < l.size by omega), Option.getD_some] at this h1
    rw [h1] at this
    have : ¬ i < k := by simpa using this.symm
    omega
  | d + 1, k, l, a, w, hk, hm, hs, hc, hl, hw => by
    rw [List.range'_succ, wpOpsIn_cons] at hw
    have hkr : k ∈ Region.ready .any ops l := by
      have hlt : k < ops.size := by omega
      refine mem_ready'.2 ⟨ops[k], Array.getElem?_eq_getElem hlt, ?_, fun e he hb => ?_⟩
      · have := hl k hlt
        simp only [Array.getD_eq_getD_getElem?, Array.getElem?_eq_getElem (show k < l.size by omega), Option.getD_some] at this ⊢
        simpa using this
      · have hlt' := h.back k _ (Array.getElem?_eq_getElem hlt) e he hb
        rw [hl e.on (by omega)]; simpa using hlt'
    refine ⟨fun hn => (by rw [hn] at hkr; cases hkr), fun i hi => ?_⟩
    have hik : i = k := by
      obtain ⟨o, ho, h1, h2⟩ := mem_ready'.1 hi
      have hlt := (Array.getElem?_eq_some_iff.1 ho).1
      have hge : ¬ i < k := fun hlt' => by
        have := hl i hlt
        simp only [Array.getD_eq_getD_getElem?, Array.getElem?_eq_getElem (show i < l.size by omega), Option.getD_some] at this h1
        rw [h1] at this
        simp [hlt'] at this
      rcases Nat.lt_or_ge k i with hgt | hle
      · have hn := h.needs i hlt (by omega) k hgt
        have := needs_listed hc _ _ _ (fun o' ho' => by rw [ho] at ho'; cases ho'; exact h2) hn
        rw [hl k (by omega)] at this
        simp at this
      · omega
    subst hik
    refine wpOpIn_mono (fun a' w' h' => tail_seq h d (i + 1) _ a' w' (by omega) (by omega) (by simpa using hs) (closed_set hs hc hi) (fun j hj => ?_) h') hw
    rw [getD_set (by omega), hl j hj, Bool.eq_iff_iff]
    simp only [Bool.or_eq_true, decide_eq_true_eq]
    omega

/-- What the first ones end with. -/
def tailQ (F : Fence) (n : Nat) (P : Program) (ops : Array Oper) (m : Nat) (Q : Exit → Act → World → Prop) : Exit → Act → World → Prop
  | .normal => wpOpsIn F n P ops Q (List.range' m (ops.size - m))
  | e => Q e

theorem wpIn_to {o : Oper} {K : Act → World → Prop} {Q Q' : Exit → Act → World → Prop} {a : Act} {w : World} (he : ∀ e, e ≠ .normal → Q e = Q' e) (hw : o.wpIn F n P a w K Q) : o.wpIn F n P a w K Q' := by
  refine ⟨hw.1, ?_⟩
  have h := hw.2
  have hp : ∀ c, Q (.panic c) = Q' (.panic c) := fun c => he _ (by simp)
  have ho : LetsOut Q → LetsOut Q' := fun ⟨a, w, h⟩ => ⟨a, w, by rw [← he _ (by simp)]; exact h⟩
  generalize (o.semAt F.round a.eval).run P w = r at h ⊢
  cases r with
  | ok x w' =>
    cases x <;> simp only [Oper.uponIn] at h ⊢ <;> first | exact h | exact ⟨h.1, h.2.mono fun e w'' q => by cases e <;> first | exact q | (show Q' (.panic _) a _; rw [← hp]; exact q) | exact ho q⟩
  | halt x w' =>
    cases x <;> simp only [Oper.uponIn] at h ⊢ <;> first | exact h.elim | (rw [← hp]; exact h)

theorem wpOpIn_head {ops : Array Oper} {m : Nat} (h : TailOk ops m) {i : Nat} (hi : i < m) {K : Act → World → Prop} {a : Act} {w : World} (hw : wpOpIn F n P (ops.extract 0 m) (tailQ F n P ops m Q) i K a w) : wpOpIn F n P ops Q i K a w := by
  have hle := h.le
  have hg : (ops.extract 0 m)[i]? = ops[i]? := by rw [Array.getElem?_extract]; simp; omega
  have hy : ∀ j, j < m → yielded (ops.extract 0 m) a.tmps j = yielded ops a.tmps j := fun j hj => by
    unfold yielded
    have : (ops.extract 0 m)[j]? = ops[j]? := by rw [Array.getElem?_extract]; simp; omega
    rw [this]
  unfold wpOpIn at hw ⊢
  rw [hg] at hw
  cases ho : ops[i]? with
  | none => rw [ho] at hw; exact hw
  | some o =>
    rw [ho] at hw
    have hwd : Region.wanted o (yielded (ops.extract 0 m) a.tmps) = Region.wanted o (yielded ops a.tmps) := by
      unfold Region.wanted
      cases hgd : o.guard with
      | none => rfl
      | some g => simp [hy g.1 (h.guard i o ho hi g hgd)]
    simp only at hw ⊢
    rw [hwd] at hw
    split
    · rename_i hx
      rw [if_pos hx] at hw
      exact wpIn_to (fun e he => by cases e <;> first | exact absurd rfl he | rfl) hw
    · rename_i hx
      rw [if_neg hx] at hw
      exact hw

theorem head_ready {ops : Array Oper} {m : Nat} {l lh : Array Bool} (hle : m ≤ ops.size) (hl : ∀ j, j < m → lh.getD j false = l.getD j false) (hs : lh.size = m) (hsl : l.size = ops.size) (hb : ∀ (i : Nat) (o : Oper), ops[i]? = some o → ∀ e ∈ o.after, Region.binds .any e = true → e.on < i) {i : Nat} (hi : i < m) :
    i ∈ Region.ready .any ops l ↔ i ∈ Region.ready .any (ops.extract 0 m) lh := by
  have hg : (ops.extract 0 m)[i]? = ops[i]? := by rw [Array.getElem?_extract]; simp; omega
  have ht : lh.getD i true = l.getD i true := by
    have := hl i hi
    simp only [Array.getD_eq_getD_getElem?, Array.getElem?_eq_getElem (show i < lh.size by omega), Array.getElem?_eq_getElem (show i < l.size by omega), Option.getD_some] at this ⊢
    exact this
  rw [mem_ready', mem_ready', hg]
  constructor
  · rintro ⟨o, ho, h1, h2⟩
    exact ⟨o, ho, by rw [ht]; exact h1, fun e he hbd => by rw [hl e.on (by have := hb i o ho e he hbd; omega)]; exact h2 e he hbd⟩
  · rintro ⟨o, ho, h1, h2⟩
    exact ⟨o, ho, by rw [← ht]; exact h1, fun e he hbd => by rw [← hl e.on (by have := hb i o ho e he hbd; omega)]; exact h2 e he hbd⟩

/-- Where none of the first ones is ready, all are listed. -/
theorem head_all {ops : Array Oper} {m : Nat} {l : Array Bool} (hle : m ≤ ops.size) (hsl : l.size = ops.size) (hb : ∀ (i : Nat) (o : Oper), ops[i]? = some o → ∀ e ∈ o.after, Region.binds .any e = true → e.on < i) (hn : ∀ i, i < m → i ∉ Region.ready .any ops l) : ∀ i, i < m → l.getD i false = true := by
  intro i
  induction i using Nat.strongRecOn with
  | _ i ih =>
    intro hi
    cases hd : l.getD i false with
    | true => rfl
    | false =>
      exfalso
      have hlt : i < ops.size := by omega
      refine hn i hi (mem_ready'.2 ⟨ops[i], Array.getElem?_eq_getElem hlt, ?_, fun e he hbd => ?_⟩)
      · simp only [Array.getD_eq_getD_getElem?, Array.getElem?_eq_getElem (show i < l.size by omega), Option.getD_some] at hd ⊢
        exact hd
      · have := hb i _ (Array.getElem?_eq_getElem hlt) e he hbd
        exact ih e.on this (by omega)

theorem any_tail {ops : Array Oper} {m : Nat} (h : TailOk ops m) : ∀ (fuel : Nat) (l lh : Array Bool) (a : Act) (w : World), l.size = ops.size → lh.size = m → (∀ j, j < m → lh.getD j false = l.getD j false) → (∀ j, m ≤ j → j < ops.size → l.getD j false = false) → Closed ops l →
    wpAnyIn F n P .any (ops.extract 0 m) (tailQ F n P ops m Q) fuel lh a w → wpAnyIn F n P .any ops Q (fuel + (ops.size - m)) l a w := by
  have hle := h.le
  have hext : (ops.extract 0 m).size = m := by simp; omega
  -- all of the first ones are listed
  have fin : ∀ (d : Nat) (l lh : Array Bool) (a : Act) (w : World), l.size = ops.size → lh.size = m → (∀ j, j < m → lh.getD j false = l.getD j false) → (∀ j, m ≤ j → j < ops.size → l.getD j false = false) → Closed ops l →
      Region.ready .any (ops.extract 0 m) lh = [] → wpOpsIn F n P ops Q (List.range' m (ops.size - m)) a w → wpAnyIn F n P .any ops Q (d + (ops.size - m)) l a w := fun d l lh a w hs hsh hl ht hc hn hw => by
    have hall := head_all hle hs h.back fun i hi hr => by
      have := (head_ready hle hl hsh hs h.back hi).1 hr
      rw [hn] at this; cases this
    have hex : ∀ j, j < ops.size → l.getD j false = decide (j < m) := fun j hj => by
      by_cases hjm : j < m
      · rw [hall j hjm]; simp [hjm]
      · rw [ht j (by omega) hj]; simp [hjm]
    have base := tail_seq (F := F) (n := n) (P := P) (Q := Q) h (ops.size - m) m l a w (by omega) (Nat.le_refl _) hs hc hex hw
    -- more fuel does no harm
    have more : ∀ (k d : Nat) (l : Array Bool) (a : Act) (w : World), wpAnyIn F n P .any ops Q k l a w → wpAnyIn F n P .any ops Q (d + k) l a w := by
      intro k
      induction k with
      | zero =>
        intro d l a w hw
        cases d with
        | zero => exact hw
        | succ d => exact ⟨fun _ => hw.2, fun i hi => by rw [hw.1] at hi; cases hi⟩
      | succ k ih =>
        intro d l a w hw
        exact ⟨hw.1, fun i hi => wpOpIn_mono (fun a' w' h' => ih d _ a' w' h') (hw.2 i hi)⟩
    exact more _ d l a w base
  intro fuel
  induction fuel with
  | zero => exact fun l lh a w hs hsh hl ht hc hw => fin 0 l lh a w hs hsh hl ht hc hw.1 hw.2
  | succ fuel ih =>
    intro l lh a w hs hsh hl ht hc hw
    by_cases hn : Region.ready .any (ops.extract 0 m) lh = []
    · exact fin (fuel + 1) l lh a w hs hsh hl ht hc hn (hw.1 hn)
    · rw [show fuel + 1 + (ops.size - m) = (fuel + (ops.size - m)) + 1 by omega]
      obtain ⟨i0, hi0⟩ := List.exists_mem_of_ne_nil _ hn
      have hi0m : i0 < m := by
        obtain ⟨o, ho, -⟩ := mem_ready'.1 hi0
        have := (Array.getElem?_eq_some_iff.1 ho).1
        omega
      refine ⟨fun hx => ?_, fun i hi => ?_⟩
      · have := (head_ready hle hl hsh hs h.back hi0m).2 hi0
        rw [hx] at this; cases this
      · have him : i < m := by
          rcases Nat.lt_or_ge i m with hlt | hge
          · exact hlt
          · exfalso
            obtain ⟨o, ho, -, h2⟩ := mem_ready'.1 hi
            have hlt := (Array.getElem?_eq_some_iff.1 ho).1
            have := needs_listed hc _ _ _ (fun o' ho' => by rw [ho] at ho'; cases ho'; exact h2) (h.needs i hlt hge i0 (by omega))
            obtain ⟨o0, ho0, h3, -⟩ := mem_ready'.1 hi0
            rw [← hl i0 hi0m] at this
            simp only [Array.getD_eq_getD_getElem?, Array.getElem?_eq_getElem (show i0 < lh.size by omega), Option.getD_some] at this h3
            rw [this] at h3; cases h3
        have hih := (head_ready hle hl hsh hs h.back him).1 hi
        refine wpOpIn_head h him (wpOpIn_mono (fun a' w' h' => ?_) (hw.2 i hih))
        refine ih (l.setIfInBounds i true) (lh.setIfInBounds i true) a' w' (by simpa using hs) (by simpa using hsh) (fun j hj => ?_) (fun j hj hj2 => ?_) (closed_set hs hc hi) h'
        · rw [getD_set (by omega), getD_set (by omega), hl j hj]
        · rw [getD_set (by omega), ht j hj hj2]; simp; omega

/-- A drawn region, its first operations by a run, its last ones as they stand. -/
theorem regionT_wp {T : CT P} (hmx : P.follows .mixedOrders = true) {id rid m : Nat} {ops : Array Oper} (ht : tailB ops m = true) {F F1 : AF} {H H1 : AH} {D D1 : List Dec} {ps1 : List Prop} {rs : List Rec} (hr : runOps P T (ops.extract 0 m) rid 0 (ops.extract 0 m).toList F H D = some (F1, H1, D1, ps1, rs)) (hmb : mixB (ops.extract 0 m) rs F H = true) (hps : Holds ps1)
    {ro : Option Nat} {n : Nat} {Q : Exit → Act → World → Prop} {W0 : Base} {w : World} {r : Gh} {a : Act} (hF : FrameOk r F a) (hst : St r H W0 w)
    (hQ : ∀ r' w' a', Agree H.length r r' → St r' H1 W0 w' → FrameOk r' F1 a' → a'.defers = a.defers → wpListIn (Fw ro) n P ops Q (ops.toList.drop m) a' w') : (Code.region id ops true).wpIn (Fw ro) n P Q a w := by
  have hT := tailB_ok ht
  have hext : (ops.extract 0 m).size = m := by simp; have := hT.le; omega
  refine wpIn_region_any hmx ?_
  have hz : ∀ (k j : Nat), (Array.replicate k false).getD j false = false := fun k j => by
    simp only [Array.getD_eq_getD_getElem?, Array.getElem?_replicate]; split <;> rfl
  have := any_tail (F := Fw ro) (n := n) (P := P) (Q := Q) hT m (Array.replicate ops.size false) (Array.replicate m false) a { w with drawn := w.drawn + 1 } (by simp) (by simp) (fun j _ => by rw [hz, hz]) (fun j _ _ => hz _ j) (fun i o _ hi => by rw [hz] at hi; cases hi) ?_
  · have hle := hT.le
    rw [show m + (ops.size - m) = ops.size by omega] at this
    exact this
  · have h2 := regionA_any (ro := ro) (n := n) (Q := tailQ (Fw ro) n P ops m Q) hr hmb hps hF hst fun r' w' a' h1 h2 h3 h4 => ?_
    · rw [hext] at h2; exact h2
    · show wpOpsIn (Fw ro) n P ops Q (List.range' m (ops.size - m)) a' w'
      have e := wpOpsIn_eq_wpListIn (F := Fw ro) (n := n) (P := P) (ops := ops) (Q := Q) (ops.toList.drop m) m (fun j => by simp [List.getElem?_drop])
      rw [List.length_drop, Array.length_toList] at e
      rw [e]
      exact hQ r' w' a' h1 h2 h3 h4

/-- The same, its run as data. -/
def runT (P : Program) (T : CT P) (ops : Array Oper) (m rid : Nat) (F : AF) (H : AH) (D : List Dec) : AF × AH × List Dec × List Prop × List Rec := (runOps P T (ops.extract 0 m) rid 0 (ops.extract 0 m).toList F H D).getD ([], [], [], [], [])
theorem regionT_run {T : CT P} (hmx : P.follows .mixedOrders = true) {id : Nat} (rid m : Nat) (D : List Dec) (qs : List Prop) {ops : Array Oper} (ht : tailB ops m = true) {F : AF} {H : AH} (hs : (runOps P T (ops.extract 0 m) rid 0 (ops.extract 0 m).toList F H D).isSome = true) (hmb : mixB (ops.extract 0 m) (runT P T ops m rid F H D).2.2.2.2 F H = true) (hq : (runT P T ops m rid F H D).2.2.2.1 = qs) (hqs : Holds qs)
    {ro : Option Nat} {n : Nat} {Q : Exit → Act → World → Prop} {W0 : Base} {w : World} {r : Gh} {a : Act} (hF : FrameOk r F a) (hst : St r H W0 w)
    (hQ : ∀ r' w' a', Agree H.length r r' → St r' (runT P T ops m rid F H D).2.1 W0 w' → FrameOk r' (runT P T ops m rid F H D).1 a' → a'.defers = a.defers → wpListIn (Fw ro) n P ops Q (ops.toList.drop m) a' w') : (Code.region id ops true).wpIn (Fw ro) n P Q a w := by
  obtain ⟨x, hx⟩ := Option.isSome_iff_exists.1 hs
  have e : runT P T ops m rid F H D = x := by unfold runT; rw [hx]; rfl
  rw [e] at hmb hq hQ
  obtain ⟨F1, H1, D1, ps1, rs⟩ := x
  exact regionT_wp hmx ht hx hmb (by rw [show ps1 = qs from hq]; exact hqs) hF hst hQ

end Go.Proofs.Ytobonipmnidadaa
