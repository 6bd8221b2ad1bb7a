/- A symbolic executor for Go's operations, first part: abstract values, abstract memory, and the state that ties them to a world. -/
import Derived.WalkKit
import Derived.Deep.MidRow
import Derived.Deep.WholeRow
import Derived.OrdersIn
import Derived.TacticsIn
namespace Go.Proofs.Ytodcebpdmjdplaa
open Go.RowKit

/-- One cell's value: as it is; or an address, a slice, a map, a closure over a block that the run knows by a number of its own. -/
inductive CV where
  | rig (v : Value)
  | ptr (id off : Nat)
  | slc (id off len cap : Nat)
  | mp (id : Nat)
  | clo (f : FuncId) (caps : List (Nat × Nat))

def CV.conc (r : Nat → Nat) : CV → Value
  | .rig v => v
  | .ptr i o => .pointer (some ⟨r i, o, none⟩)
  | .slc i o n c => .slice (some ⟨r i, o, none⟩) n c
  | .mp i => .map (some (r i))
  | .clo f caps => .func (.func f) #[] (caps.map fun p => Value.pointer (some ⟨r p.1, p.2, none⟩)).toArray

/-- May it be stored into one cell? -/
def CV.fits : CV → Bool
  | .rig (.agg _) => false
  | .rig (.tuple _) => false
  | _ => true

def CV.sc (n : Nat) : CV → Bool
  | .rig _ => true
  | .ptr i _ => Nat.blt i n
  | .slc i _ _ _ => Nat.blt i n
  | .mp i => Nat.blt i n
  | .clo _ caps => caps.all fun p => Nat.blt p.1 n

inductive TV where
  | one (c : CV)
  | agg (l : List CV)

def TV.conc (r : Nat → Nat) : TV → Value
  | .one c => c.conc r
  | .agg l => .agg (l.map (CV.conc r)).toArray

def TV.cells : TV → List CV
  | .one c => [c]
  | .agg l => l

def TV.fits (t : TV) : Bool := t.cells.all CV.fits
def TV.sc (n : Nat) (t : TV) : Bool := t.cells.all (CV.sc n)

inductive AV where
  | tv (t : TV)
  | tup (l : List TV)

def AV.conc (r : Nat → Nat) : AV → Value
  | .tv t => t.conc r
  | .tup l => .tuple (l.map (TV.conc r)).toArray

def AV.sc (n : Nat) : AV → Bool
  | .tv t => t.sc n
  | .tup l => l.all (TV.sc n)

abbrev AV.undef : AV := .tup []
abbrev AV.c (c : CV) : AV := .tv (.one c)
abbrev AV.r (v : Value) : AV := .tv (.one (.rig v))
abbrev AV.b (x : Bool) : AV := .tv (.one (.rig (.bool x)))

/-- A block. -/
inductive AO where
  | cells (cs : List CV) (t : TypeId)
  | raw (o : Obj)

def AO.conc (r : Nat → Nat) : AO → Obj
  | .cells cs t => .cells (cs.map (CV.conc r)).toArray t (0, 0)
  | .raw o => o

def AO.sc (n : Nat) : AO → Bool
  | .cells cs _ => cs.all (CV.sc n)
  | .raw _ => true

/-- Blocks with a flag: 0: old, only read · 1: the call's own · 2: old, and written. -/
abbrev AH := List (AO × Nat)

structure St (r : Nat → Nat) (H : AH) (W0 w : World) : Prop where
  at_ : ∀ i x, H[i]? = some x → w.heap[r i]? = some (x.1.conc r)
  inj : ∀ i j, i < H.length → j < H.length → r i = r j → i = j
  own : ∀ i x, H[i]? = some x → x.2 = 1 → W0.heap.size ≤ r i
  os : w.os = W0.os
  tape : w.tape = W0.tape
  output : w.output = W0.output
  size : W0.heap.size ≤ w.heap.size
  frame : ∀ b, b < W0.heap.size → (∀ i x, H[i]? = some x → x.2 = 2 → r i ≠ b) → w.heap[b]? = W0.heap[b]?

/-- Two numberings agree on the first so many blocks. -/
def Agree (n : Nat) (r r' : Nat → Nat) : Prop := ∀ i, i < n → r' i = r i

theorem Agree.refl (n : Nat) (r : Nat → Nat) : Agree n r r := fun _ _ => rfl
theorem Agree.trans {n m : Nat} {r r' r'' : Nat → Nat} (h : Agree n r r') (h' : Agree m r' r'') (hm : n ≤ m) : Agree n r r'' :=
  fun i hi => (h' i (by omega)).trans (h i hi)

theorem CV.conc_agree {n : Nat} {r r' : Nat → Nat} (h : Agree n r r') {c : CV} (hc : c.sc n = true) : c.conc r' = c.conc r := by
  cases c with
  | rig v => rfl
  | ptr i o => simp only [CV.sc, Nat.blt_eq] at hc; simp [CV.conc, h i hc]
  | slc i o n c => simp only [CV.sc, Nat.blt_eq] at hc; simp [CV.conc, h i hc]
  | mp i => simp only [CV.sc, Nat.blt_eq] at hc; simp [CV.conc, h i hc]
  | clo f caps =>
    simp only [CV.sc, List.all_eq_true, Nat.blt_eq] at hc
    simp only [CV.conc]
    congr 2
    exact List.map_congr_left fun p hp => by rw [h p.1 (hc p hp)]

theorem CV.map_agree {n : Nat} {r r' : Nat → Nat} (h : Agree n r r') {l : List CV} (hl : l.all (CV.sc n) = true) : l.map (CV.conc r') = l.map (CV.conc r) :=
  List.map_congr_left fun c hc => CV.conc_agree h (List.all_eq_true.1 hl c hc)

theorem TV.conc_agree {n : Nat} {r r' : Nat → Nat} (h : Agree n r r') {t : TV} (ht : t.sc n = true) : t.conc r' = t.conc r := by
  cases t with
  | one c => exact CV.conc_agree h (by simpa [TV.sc, TV.cells] using ht)
  | agg l => simp only [TV.conc]; rw [CV.map_agree h (by simpa [TV.sc, TV.cells] using ht)]

theorem AV.conc_agree {n : Nat} {r r' : Nat → Nat} (h : Agree n r r') {v : AV} (hv : v.sc n = true) : v.conc r' = v.conc r := by
  cases v with
  | tv t => exact TV.conc_agree h hv
  | tup l =>
    simp only [AV.conc]
    rw [List.map_congr_left fun t ht => TV.conc_agree h (List.all_eq_true.1 hv t ht)]

theorem AO.conc_agree {n : Nat} {r r' : Nat → Nat} (h : Agree n r r') {o : AO} (ho : o.sc n = true) : o.conc r' = o.conc r := by
  cases o with
  | cells cs t => simp only [AO.conc]; rw [CV.map_agree h ho]
  | raw o => rfl

/-! ### A new block, a block written -/
def AH.scB (H : AH) : Bool := H.all fun x => x.1.sc H.length
/-- The numbering behind a new block. -/
def bump (r : Nat → Nat) (n b : Nat) : Nat → Nat := fun i => if i = n then b else r i
theorem bump_agree (r : Nat → Nat) (n b : Nat) : Agree n r (bump r n b) := fun i hi => by simp [bump]; omega

theorem getElem?_snoc {α : Type} (l : List α) (x : α) (i : Nat) : (l ++ [x])[i]? = if i = l.length then some x else l[i]? := by
  rw [List.getElem?_append]
  split
  · rw [if_neg (by omega)]
  · by_cases h : i = l.length
    · subst h; simp
    · rw [if_neg h, List.getElem?_eq_none (l := l) (by omega), List.getElem?_eq_none (by simp; omega)]

theorem St.lt {r : Nat → Nat} {H : AH} {W0 w : World} (h : St r H W0 w) {i : Nat} (hi : i < H.length) : r i < w.heap.size := by
  have := h.at_ i _ (List.getElem?_eq_getElem hi)
  exact (Array.getElem?_eq_some_iff.1 this).1

/-- A new block at the heap's end. -/
theorem St.alloc {r : Nat → Nat} {H : AH} {W0 w : World} (h : St r H W0 w) (hsc : H.scB = true) (o : AO) (o' : Obj) (ho : o.conc (bump r H.length w.heap.size) = o') :
    St (bump r H.length w.heap.size) (H ++ [(o, 1)]) W0 (w.alloc o') := by
  have hag := bump_agree r H.length w.heap.size
  refine ⟨fun i x hx => ?_, fun i j hi hj e => ?_, fun i x hx hf => ?_, h.os, h.tape, h.output, ?_, fun b hb hn => ?_⟩
  · rw [getElem?_snoc] at hx
    split at hx
    · rename_i hi
      subst hi
      cases hx
      simp only [bump, if_true]
      rw [heap_alloc_last]
      exact congrArg some ho.symm
    · have hi : i < H.length := (List.getElem?_eq_some_iff.1 hx).1
      rw [hag i hi, Below.heap_alloc _ _ _ (h.lt hi), h.at_ i x hx]
      refine congrArg some (AO.conc_agree hag ?_).symm
      exact List.all_eq_true.1 hsc x (List.mem_of_getElem? hx)
  · simp only [List.length_append, List.length_singleton] at hi hj
    by_cases ei : i = H.length <;> by_cases ej : j = H.length
    · omega
    · exfalso
      have hj' : j < H.length := by omega
      have := h.lt hj'
      rw [hag j hj'] at e
      simp only [bump, ei, if_true] at e
      omega
    · exfalso
      have hi' : i < H.length := by omega
      have := h.lt hi'
      rw [hag i hi'] at e
      simp only [bump, ej, if_true] at e
      omega
    · exact h.inj i j (by omega) (by omega) (by rw [hag i (by omega), hag j (by omega)] at e; exact e)
  · rw [getElem?_snoc] at hx
    split at hx
    · rename_i hi
      subst hi
      simp only [bump, if_true]
      exact h.size
    · rw [hag i (List.getElem?_eq_some_iff.1 hx).1]
      exact h.own i x hx hf
  · have := h.size
    show W0.heap.size ≤ (w.heap.push o').size
    simp; omega
  · rw [Below.heap_alloc _ _ _ (by have := h.size; omega)]
    refine h.frame b hb fun i x hx hf => ?_
    have hi := (List.getElem?_eq_some_iff.1 hx).1
    rw [← hag i hi]
    exact hn i x (by rw [List.getElem?_append_left hi]; exact hx) hf

/-- A block of ours turned. -/
theorem St.turn {r : Nat → Nat} {H : AH} {W0 w w' : World} (h : St r H W0 w) {i : Nat} {x : AO × Nat} (hx : H[i]? = some x) (o : AO)
    (h1 : w'.heap[r i]? = some (o.conc r)) (h2 : ∀ b, b ≠ r i → w'.heap[b]? = w.heap[b]?) (h3 : w'.os = w.os) (h4 : w'.tape = w.tape) (h5 : w'.output = w.output) (h6 : w'.heap.size = w.heap.size)
    (hfl : x.2 = 1 ∨ x.2 = 2) : St r (H.set i (o, x.2)) W0 w' := by
  have hi := (List.getElem?_eq_some_iff.1 hx).1
  have hget : ∀ j y, (H.set i (o, x.2))[j]? = some y → (j = i ∧ y = (o, x.2)) ∨ (j ≠ i ∧ H[j]? = some y) := fun j y hy => by
    rw [List.getElem?_set] at hy
    split at hy
    · rename_i e
      subst e
      simp at hy
      exact .inl ⟨rfl, hy.symm⟩
    · rename_i e
      exact .inr ⟨fun e' => e e'.symm, hy⟩
  refine ⟨fun j y hy => ?_, fun j k hj hk e => ?_, fun j y hy hfy => ?_, h3.trans h.os, h4.trans h.tape, h5.trans h.output, by have := h.size; omega, fun b hb hn => ?_⟩
  · rcases hget j y hy with ⟨rfl, rfl⟩ | ⟨hne, hy'⟩
    · exact h1
    · rw [h2 _ (fun e => hne (h.inj j i (List.getElem?_eq_some_iff.1 hy').1 hi e))]
      exact h.at_ j y hy'
  · simp only [List.length_set] at hj hk
    exact h.inj j k hj hk e
  · rcases hget j y hy with ⟨rfl, rfl⟩ | ⟨hne, hy'⟩
    · exact h.own j x hx hfy
    · exact h.own j y hy' hfy
  · have hne : b ≠ r i := fun e => by
      rcases hfl with h1' | h2'
      · have := h.own i x hx h1'; omega
      · exact hn i (o, x.2) (by rw [List.getElem?_set]; simp [hi]) h2' e.symm
    rw [h2 b hne]
    refine h.frame b hb fun j y hy hfy => ?_
    by_cases e : j = i
    · subst e
      rw [hx] at hy; cases hy
      exact hn j (o, x.2) (by rw [List.getElem?_set]; simp [hi]) hfy
    · exact hn j y (by rw [List.getElem?_set, if_neg (fun e' => e e'.symm)]; exact hy) hfy

/-- Whatever has been laid beside is no matter. -/
theorem St.grow {r : Nat → Nat} {H : AH} {W0 w w' : World} (h : St r H W0 w) (hb : Below w.heap.size w w') : St r H W0 w' :=
  ⟨fun i x hx => (hb.block _ (h.lt (List.getElem?_eq_some_iff.1 hx).1)).trans (h.at_ i x hx), h.inj, h.own, hb.os.trans h.os, hb.tape.trans h.tape, hb.output.trans h.output, Nat.le_trans h.size hb.size,
    fun b hbl hn => (hb.block b (by have := h.size; omega)).trans (h.frame b hbl hn)⟩

theorem St.drew {r : Nat → Nat} {H : AH} {W0 w : World} (h : St r H W0 w) : St r H W0 w.drew := h.grow (Below.drew (Below.refl _ _))

end Go.Proofs.Ytodcebpdmjdplaa
