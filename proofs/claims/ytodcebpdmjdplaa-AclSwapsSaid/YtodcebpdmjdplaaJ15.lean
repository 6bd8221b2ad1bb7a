/- The document's book: Counts, Len. The document's book: Role, its plain side. The document's book: Role, its second loop. The document's book: Role. -/
import Derived.Test.YtodcebpdmjdplaaJ14
import Derived.Test.YtodcebpdmjdplaaJ9
namespace Go.Proofs.Ytodcebpdmjdplaa
open Go.RowKit

noncomputable def T9 : CT Try.prog := T8.addB

/-- The document's book, taken apart. -/
def rbO (L : Bk) (g : Nat) : AH := [(.cells [.sl 2, .sl 3] 74, g), (.abs 2 (.evs (L.map (·.1))), g), (.abs 3 (.bools (L.map (·.2))), g), (.hand, g)]

def nthL (L : Bk) (i : Nat) : Ev × Bool := L.getD i (zeroEv, false)
theorem nth_ev (L : Bk) (i : Nat) : (L.map (·.1)).getD i Elt.zero = (nthL L i).1 := by
  simp only [nthL, List.getD_eq_getElem?_getD, List.getElem?_map]
  cases L[i]? <;> rfl
theorem nth_b (L : Bk) (i : Nat) : (L.map (·.2)).getD i Elt.zero = (nthL L i).2 := by
  simp only [nthL, List.getD_eq_getElem?_getD, List.getElem?_map]
  cases L[i]? <;> rfl

theorem findL_at (d : Dot) : ∀ (L : Bk) (i : Nat), i < L.length → (∀ j, j < i → (nthL L j).1.d ≠ d) → (nthL L i).1.d = d → findL L d = some (nthL L i)
  | [], i, h, _, _ => by simp at h
  | p :: L, 0, _, _, h => by simp [nthL] at h; simp [findL, nthL, h]
  | p :: L, i + 1, h, hn, he => by
    have h0 := hn 0 (by omega)
    simp [nthL] at h0
    have hd : decide (d = p.1.d) = false := by simp; exact fun e => h0 e.symm
    have ih := findL_at d L i (by simpa using h) (fun j hj => by have := hn (j + 1) (by omega); simpa [nthL] using this) (by simpa [nthL] using he)
    simp only [findL, List.find?_cons, hd] at ih ⊢
    rw [ih]; simp [nthL]
theorem findL_no (d : Dot) : ∀ (L : Bk), (∀ j, j < L.length → (nthL L j).1.d ≠ d) → findL L d = none
  | [], _ => rfl
  | p :: L, hn => by
    have h0 := hn 0 (by simp)
    simp [nthL] at h0
    have hd : decide (d = p.1.d) = false := by simp; exact fun e => h0 e.symm
    have ih := findL_no d L fun j hj => by have := hn (j + 1) (by simpa using hj); simpa [nthL] using this
    simp only [findL, List.find?_cons, hd] at ih ⊢
    exact ih

noncomputable def cnF (d : Dot) (i : Int) : AF := ((startF (fnOf Try.prog 32) [.c (.ptr 0 0), d.av]).set 3 (.c (.ptr 4 0))).set 5 (.r (.int .i64 i))

theorem rcounts_ctr (L : Bk) (hL : L.length ≤ 1000) (d : Dot) : CtrQ Try.prog 32 [.c (.ptr 0 0), d.av] [(.abs 0 (.rbook L), 0)] (.b (gotL L d).2) := by
  refine ctrQ_open (k := 0) (h := 0) (g := 0) (x := .rbook L) (Hx := rbkH L) rfl rfl (by kernel_rfl) (by kernel_rfl) (by kernel_rfl) fun r W0 w hst0 => ?_
  have hst : St r (rbO L 0) W0 w := hst0.as (by kernel_rfl)
  refine (callsFw (ro := none) (n := 0)).1 (callsInStart (fn := fnOf Try.prog 32) (c := bodyOf Try.prog 32) (by kernel_rfl) (by kernel_rfl) fun a0 hF0 hd0 => ?_)
  refine code_wp hmx T8 [] [] (.loop (fnLoop Try.prog 32 0).1 (fnLoop Try.prog 32 0).2) (by kernel_rfl) (by kernel_rfl) trivial hF0 hst fun r2 w2 a2 hag2 hst2 hF2 hd2 => ?_
  refine loop_wp (σ := Nat) (n0 := 1) (g0 := r) (B := W0) (ds := []) [0, 3, 5] (fun i => cnF d i) (fun _ => rbO L 0 ++ [(.cells d.cvs 25, 1)]) (fun i => i ≤ L.length ∧ ∀ j, j < i → (nthL L j).1.d ≠ d) (fun i => L.length - i) 0
    (next_inv ⟨Nat.zero_le _, fun j hj => by omega⟩ (Agree.refl _ _) hag2 (by kernel_rfl) hF2 hst2 (by rw [hd2, hd0]) (by kernel_rfl) (by kernel_rfl) (by kernel_rfl)) fun i g G a w1 hi hag hF hst hd => ?_
  obtain ⟨hi, hno⟩ := hi
  cases h1 : (bif !false then decide ((↑i : Int) < (↑(List.map (fun (x : Ev × Bool) => x.fst) L).length : Int)) else false) with
  | false =>
    refine code_wp hmx (ro := none) T8 [Dec.c (16 : Nat) false] [(bif !false then decide ((↑i : Int) < (↑(List.map (fun (x : Ev × Bool) => x.fst) L).length : Int)) else false) = false] (.exit 0) (by kernel_rfl) (by kernel_rfl) ⟨h1, trivial⟩ hF hst fun g1 w1 a1 hag1 hst1 hF1 hd1 => ?_
    have hge : L.length ≤ i := by simpa using h1
    refine exit_out (k' := restAt 0 (fnLoop Try.prog 32 0).2) (by kernel_rfl) ?_
    refine list_wp hmx T8 [] [] .ret (by kernel_rfl) (by kernel_rfl) trivial hF1 hst1 fun g2 w2 a2 hag2 hst2 hF2 hd2 => ?_
    refine ret_fin ?_
    refine (bodyPost_of (v := .b false) (by kernel_rfl) hF2 hst2 (by rw [hd2, hd1, hd]) ⟨g2, (hag.tr hag1 (by kernel_rfl)).tr hag2 (by kernel_rfl), ?_, _, hst2⟩).1
    rw [show (gotL L d).2 = false by rw [gotL, findL_no d L fun j hj => hno j (by omega)]; rfl]
  | true =>
    cases h2 : (decide (((List.map (fun (x : Ev × Bool) => x.fst) L).getD (↑i : Int).toNat Elt.zero).d = d)) with
    | false =>
      refine code_wp hmx (ro := none) T8 [Dec.c (16 : Nat) true, Dec.c (28 : Nat) false] [(bif !false then decide ((↑i : Int) < (↑(List.map (fun (x : Ev × Bool) => x.fst) L).length : Int)) else false) = true, (0 : Int) ≤ (↑i : Int) ∧ (↑i : Int) < (↑(List.map (fun (x : Ev × Bool) => x.fst) L).length : Int), (↑i : Int).toNat < (List.map (fun (x : Ev × Bool) => x.fst) L).length, decide (((List.map (fun (x : Ev × Bool) => x.fst) L).getD (↑i : Int).toNat Elt.zero).d = d) = false] .norm (by kernel_rfl) (by kernel_rfl) (by refine ⟨h1, ?_, ?_, h2, trivial⟩ <;> (first | omega | (simp at h1 ⊢; omega))) hF hst fun g1 w1 a1 hag1 hst1 hF1 hd1 => ?_
      simp only [nth_ev, Int.toNat_natCast] at h1 h2
      have hlt : i < L.length := by simpa using h1
      have e : IntKind.i64.wrap ((i : Int) + 1) = ((i + 1 : Nat) : Int) := IntWalk.i64_in _ (by omega)
      refine ⟨i + 1, next_inv ⟨by omega, fun j hj => ?_⟩ hag hag1 (by kernel_rfl) hF1 hst1 (by rw [hd1, hd]) (by kernel_rfl) (by show selF _ _ = selF _ (cnF d ((i + 1 : Nat) : Int)); rw [← e]; kernel_rfl) (by kernel_rfl), by omega⟩
      rcases Nat.lt_or_ge j i with h | h
      · exact hno j h
      · have : j = i := by omega
        subst this; simpa using h2
    | true =>
      refine code_wp hmx (ro := none) T8 [Dec.c (16 : Nat) true, Dec.c (28 : Nat) true] [(bif !false then decide ((↑i : Int) < (↑(List.map (fun (x : Ev × Bool) => x.fst) L).length : Int)) else false) = true, (0 : Int) ≤ (↑i : Int) ∧ (↑i : Int) < (↑(List.map (fun (x : Ev × Bool) => x.fst) L).length : Int), (↑i : Int).toNat < (List.map (fun (x : Ev × Bool) => x.fst) L).length, decide (((List.map (fun (x : Ev × Bool) => x.fst) L).getD (↑i : Int).toNat Elt.zero).d = d) = true, (0 : Int) ≤ (↑i : Int) ∧ (↑i : Int) < (↑(List.map (fun (x : Ev × Bool) => x.snd) L).length : Int), (↑i : Int).toNat < (List.map (fun (x : Ev × Bool) => x.snd) L).length] .ret (by kernel_rfl) (by kernel_rfl) (by refine ⟨h1, ?_, ?_, h2, ?_, ?_, trivial⟩ <;> (first | omega | (simp at h1 ⊢; omega))) hF hst fun g1 w1 a1 hag1 hst1 hF1 hd1 => ?_
      simp only [nth_ev, Int.toNat_natCast] at h1 h2
      have hlt : i < L.length := by simpa using h1
      refine ret_out ?_
      refine (bodyPost_of (v := .b ((L.map (·.2)).getD i Elt.zero)) (by kernel_rfl) hF1 hst1 (by rw [hd1, hd]) ⟨g1, hag.tr hag1 (by kernel_rfl), ?_, _, hst1⟩).1
      rw [nth_b, show gotL L d = nthL L i by rw [gotL, findL_at d L i hlt hno (by simpa using h2)]; rfl]

end Go.Proofs.Ytodcebpdmjdplaa

namespace Go.Proofs.Ytodcebpdmjdplaa
open Go.RowKit

/-- What holds of events that are right: a revoke has no role. -/
def Rt (e : Ev) : Prop := e.k = 4 → e.role = 0

theorem about_take (L : Bk) (who : Int) (v : Vec) (i : Nat) (h : i < L.length) : aboutL (L.take (i + 1)) who v = aboutL (L.take i) who v ++ if relB who v (nthL L i) then [(nthL L i).1] else [] := by
  unfold aboutL
  have : L.take (i + 1) = L.take i ++ [nthL L i] := by
    rw [List.take_succ_eq_append_getElem h]
    simp [nthL, List.getD_eq_getElem?_getD, List.getElem?_eq_getElem h]
  rw [this, List.filter_append, List.map_append]
  congr 1
  by_cases hr : relB who v (nthL L i) <;> simp [hr]
theorem about_take_len (L : Bk) (who : Int) (v : Vec) (i : Nat) : (aboutL (L.take i) who v).length ≤ i := by
  unfold aboutL
  rw [List.length_map]
  exact Nat.le_trans (List.length_filter_le _ _) (by simp; omega)

def nthE (A : List Ev) (i : Nat) : Ev := A.getD i zeroEv
theorem take_e (A : List Ev) (i : Nat) (h : i < A.length) : A.take (i + 1) = A.take i ++ [nthE A i] := by
  rw [List.take_succ_eq_append_getElem h]
  simp [nthE, List.getD_eq_getElem?_getD, List.getElem?_eq_getElem h]
theorem nthE_mem {A : List Ev} {i : Nat} (h : i < A.length) : nthE A i ∈ A := by
  simp [nthE, List.getD_eq_getElem?_getD, List.getElem?_eq_getElem h]
/-- None of the first so many saw it. -/
def lastTo (e : Ev) (A : List Ev) (k : Nat) : Bool := !((A.take k).any fun x => beforeB e x)
theorem lastTo_succ (e : Ev) (A : List Ev) (k : Nat) (h : k < A.length) : lastTo e A (k + 1) = (lastTo e A k && !beforeB e (nthE A k)) := by
  simp [lastTo, take_e A k h]
theorem lastTo_all (e : Ev) (A : List Ev) (k : Nat) (h : A.length ≤ k) : lastTo e A k = lastB e A := by
  simp [lastTo, lastB, List.take_of_length_le h]

theorem foldl_min_le (l : List Ev) (z : Int) : l.foldl (fun a e => min a e.role) z ≤ z := by
  induction l generalizing z with
  | nil => exact Int.le_refl _
  | cons x l ih => exact Int.le_trans (ih _) (Int.min_le_left _ _)
theorem foldl_min_mem {l : List Ev} {x : Ev} (h : x ∈ l) (z : Int) : l.foldl (fun a e => min a e.role) z ≤ x.role := by
  induction l generalizing z with
  | nil => cases h
  | cons y l ih =>
    rcases List.mem_cons.1 h with e | e
    · subst e; exact Int.le_trans (foldl_min_le l _) (Int.min_le_right _ _)
    · exact ih e _
theorem foldl_min_ge {l : List Ev} (h : ∀ x ∈ l, 0 ≤ x.role) (z : Int) (hz : 0 ≤ z) : 0 ≤ l.foldl (fun a e => min a e.role) z := by
  induction l generalizing z with
  | nil => exact hz
  | cons y l ih =>
    have := h y (by simp)
    exact ih (fun x hx => h x (by simp [hx])) _ (Int.le_min.2 ⟨hz, this⟩)
/-- A revoke that is last: the least is none. -/
theorem least_revoke {A : List Ev} {x : Ev} (hx : x ∈ A) (hl : lastB x A = true) (hr : x.role = 0) (h0 : ∀ y ∈ A, 0 ≤ y.role) : leastOf A A = 0 := by
  have h1 := foldl_min_mem (l := A.filter fun e => lastB e A) (List.mem_filter.2 ⟨hx, by simpa using hl⟩) 3
  have h2 := foldl_min_ge (l := A.filter fun e => lastB e A) (fun y hy => h0 y (List.mem_filter.1 hy).1) 3 (by omega)
  unfold leastOf
  rw [hr] at h1
  exact Int.le_antisymm h1 h2
theorem about_mem {L : Bk} {who : Int} {v : Vec} {x : Ev} (h : x ∈ aboutL L who v) : ∃ p ∈ L, p.1 = x := by
  obtain ⟨p, hp, rfl⟩ := List.mem_map.1 h
  exact ⟨p, (List.mem_filter.1 hp).1, rfl⟩
theorem nthL_mem {L : Bk} {i : Nat} (h : i < L.length) : nthL L i ∈ L := by
  simp [nthL, List.getD_eq_getElem?_getD, List.getElem?_eq_getElem h]

end Go.Proofs.Ytodcebpdmjdplaa

namespace Go.Proofs.Ytodcebpdmjdplaa
open Go.RowKit

def rbk0 (L : Bk) : AH := [(.cells [.sl 1, .sl 2] 74, 0), (.abs 1 (.evs (L.map (·.1))), 0), (.abs 2 (.bools (L.map (·.2))), 0)]
def rlH (L : Bk) (v : Vec) (A : List Ev) : AH := rbk0 L ++ [(.cells v.cvs 27, 1), (.abs 4 (.evs A), 1)]
noncomputable def rlF0 (who : Int) (v : Vec) (i : Int) : AF := (((startF (fnOf Try.prog 37) [.c (.ptr 0 0), .r (.int .u8 who), v.av]).set 5 (.c (.ptr 3 0))).set 7 (.c (.sl 4))).set 8 (.r (.int .i64 i))
noncomputable def rlF1 (who : Int) (v : Vec) (least : Int) (sm : Bool) (i : Int) : AF := ((((startF (fnOf Try.prog 37) [.c (.ptr 0 0), .r (.int .u8 who), v.av]).set 7 (.c (.sl 4))).set 9 (.r (.int .u8 least))).set 10 (.b sm)).set 11 (.r (.int .i64 i))
noncomputable def rlF2 (who : Int) (v : Vec) (least : Int) (sm : Bool) (i : Int) (last : Bool) (k : Int) : AF := ((rlF1 who v least sm i).set 12 (.b last)).set 13 (.r (.int .i64 k))

/-- What a role's reading ends with. -/
def roR (B : Base) (x : Int) : Ending → World → Prop := fun e w' => e = .returned (.int .u8 x) ∧ ∃ g H, St g H B w'

/-- The inner loop: whether an event is last. -/
theorem role_in {L : Bk} {A : List Ev} (hA : A.length ≤ 1000) (hok : ∀ e ∈ A, e.ok) {who least : Int} {v : Vec} {sm : Bool} {i : Nat} (hi : i < A.length) {G0 : Nat → Value} {g0 : Gh} {B : Base} {a0 : Act} {w0 : World} {Q : Exit → Act → World → Prop}
    (hF0 : FrameOk g0 (maskF [1, 7, 9, 10, 11, 12, 13] (rlF2 who v least sm i true (0 : Nat)) G0) a0) (hst0 : St g0 (rlH L v A) B w0)
    (hQ : ∀ g G a w, Agree 5 g0 g → FrameOk g (maskF [1, 7, 9, 10, 11, 12, 13] (rlF2 who v least sm i (lastB (nthE A i) A) A.length) G) a → St g (rlH L v A) B w → a.defers = a0.defers → kont none 0 Try.prog (restAt 4 (loopAt (fnLoop Try.prog 37 1).1 0).2) Q .normal a w) :
    (Code.loop (loopAt (fnLoop Try.prog 37 1).1 0).1).wpIn (Fw none) 0 Try.prog (kont none 0 Try.prog (loopAt (fnLoop Try.prog 37 1).1 0).2 Q) a0 w0 := by
  refine loop_wp (σ := Nat) (n0 := 5) (g0 := g0) (B := B) (ds := a0.defers) [1, 7, 9, 10, 11, 12, 13] (fun k => rlF2 who v least sm i (lastTo (nthE A i) A k) k) (fun _ => rlH L v A) (fun k => k ≤ A.length) (fun k => A.length - k) 0
    ⟨Nat.zero_le _, g0, G0, Agree.refl _ _, hF0, hst0, rfl⟩ fun k g G a w hk hag hF hst hd => ?_
  cases h1 : (decide ((↑k : Int) < (↑A.length : Int))) with
  | false =>
    refine code_wp hmx (ro := none) T9 [Dec.c (79 : Nat) false] [decide ((↑k : Int) < (↑A.length : Int)) = false] (.exit 4) (by kernel_rfl) (by kernel_rfl) ⟨h1, trivial⟩ hF hst fun g1 w1 a1 hag1 hst1 hF1 hd1 => ?_
    have hge : A.length ≤ k := by simpa using h1
    have hke : k = A.length := by omega
    refine exit_out (k' := restAt 4 (loopAt (fnLoop Try.prog 37 1).1 0).2) (by kernel_rfl) ?_
    obtain ⟨-, g2, G2, hag2, hF2, hst2, hd2⟩ := next_inv (σ := Unit) (n0 := 5) (live := [1, 7, 9, 10, 11, 12, 13]) (F := fun _ => rlF2 who v least sm i (lastB (nthE A i) A) A.length) (H := fun _ => rlH L v A) (inv := fun _ => True) (s' := ()) trivial hag hag1 (by kernel_rfl) hF1 hst1 (hd1.trans hd) (by kernel_rfl) (by (try dsimp only); rw [← lastTo_all (nthE A i) A k hge, ← hke]; kernel_rfl) (by kernel_rfl)
    exact hQ g2 G2 _ _ hag2 hF2 hst2 hd2
  | true =>
    cases h2 : (beforeB (A.getD (↑i : Int).toNat Elt.zero) (A.getD (↑k : Int).toNat Elt.zero)) with
    | false =>
      refine code_wp hmx (ro := none) T9 [Dec.c (79 : Nat) true, Dec.c (90 : Nat) false] [decide ((↑k : Int) < (↑A.length : Int)) = true, (0 : Int) ≤ (↑i : Int) ∧ (↑i : Int) < (↑A.length : Int), (↑i : Int).toNat < A.length, (0 : Int) ≤ (↑k : Int) ∧ (↑k : Int) < (↑A.length : Int), (↑k : Int).toNat < A.length, (A.getD (↑i : Int).toNat Elt.zero).d.ok, beforeB (A.getD (↑i : Int).toNat Elt.zero) (A.getD (↑k : Int).toNat Elt.zero) = false] .norm (by kernel_rfl) (by kernel_rfl) (by refine ⟨h1, ?_, ?_, ?_, ?_, ?_, h2, trivial⟩ <;> (first | omega | (exact (hok _ (nthE_mem hi)).d) | (simp at h1 ⊢; omega))) hF hst fun g1 w1 a1 hag1 hst1 hF1 hd1 => ?_
      have hlt : k < A.length := by simpa using h1
      have hb : beforeB (nthE A i) (nthE A k) = _ := h2
      have e : IntKind.i64.wrap ((k : Int) + 1) = ((k + 1 : Nat) : Int) := IntWalk.i64_in _ (by omega)
      have hx := lastTo_succ (nthE A i) A k hlt
      rw [hb] at hx
      simp only [Bool.not_false, Bool.and_true] at hx
      refine ⟨k + 1, ?_, by omega⟩
      exact next_inv (show k + 1 ≤ A.length by omega) hag hag1 (by kernel_rfl) hF1 hst1 (by rw [hd1, hd]) (by kernel_rfl) (by (try dsimp only); rw [hx, ← e]; kernel_rfl) (by kernel_rfl)
    | true =>
      refine code_wp hmx (ro := none) T9 [Dec.c (79 : Nat) true, Dec.c (90 : Nat) true] [decide ((↑k : Int) < (↑A.length : Int)) = true, (0 : Int) ≤ (↑i : Int) ∧ (↑i : Int) < (↑A.length : Int), (↑i : Int).toNat < A.length, (0 : Int) ≤ (↑k : Int) ∧ (↑k : Int) < (↑A.length : Int), (↑k : Int).toNat < A.length, (A.getD (↑i : Int).toNat Elt.zero).d.ok, beforeB (A.getD (↑i : Int).toNat Elt.zero) (A.getD (↑k : Int).toNat Elt.zero) = true] .norm (by kernel_rfl) (by kernel_rfl) (by refine ⟨h1, ?_, ?_, ?_, ?_, ?_, h2, trivial⟩ <;> (first | omega | (exact (hok _ (nthE_mem hi)).d) | (simp at h1 ⊢; omega))) hF hst fun g1 w1 a1 hag1 hst1 hF1 hd1 => ?_
      have hlt : k < A.length := by simpa using h1
      have hb : beforeB (nthE A i) (nthE A k) = _ := h2
      have e : IntKind.i64.wrap ((k : Int) + 1) = ((k + 1 : Nat) : Int) := IntWalk.i64_in _ (by omega)
      have hx := lastTo_succ (nthE A i) A k hlt
      rw [hb] at hx
      simp only [Bool.not_true, Bool.and_false] at hx
      refine ⟨k + 1, ?_, by omega⟩
      exact next_inv (show k + 1 ≤ A.length by omega) hag hag1 (by kernel_rfl) hF1 hst1 (by rw [hd1, hd]) (by kernel_rfl) (by (try dsimp only); rw [hx, ← e]; kernel_rfl) (by kernel_rfl)

/-- What follows the inner loop. -/
theorem role_after {L : Bk} {A : List Ev} {who least : Int} {v : Vec} {sm last : Bool} {i k : Nat} (hA : A.length ≤ 1000) (hi : i < A.length) {G : Nat → Value} {g : Gh} {B : Base} {a : Act} {w : World} {I : Act → World → Prop} {K : List KI}
    (hF : FrameOk g (maskF [1, 7, 9, 10, 11, 12, 13] (rlF2 who v least sm i last k) G) a) (hst : St g (rlH L v A) B w) (hd : a.defers = [])
    (hN : ∀ least' sm' a' w', (last = false ∧ least' = least ∧ sm' = sm ∨ last = true ∧ (nthE A i).k ≠ 4 ∧ least' = min least (nthE A i).role ∧ sm' = true) → LInv 5 g B [] [1, 7, 9, 10, 11] (fun _ : Unit => rlF1 who v least' sm' (i + 1 : Nat)) (fun _ => rlH L v A) (fun _ => True) () a' w' → I a' w')
    {x : Int} (hR : last = true → (nthE A i).k = 4 → x = 0) :
    kont none 0 Try.prog (restAt 4 (loopAt (fnLoop Try.prog 37 1).1 0).2) (Exit.then I (kont none 0 Try.prog K (bodyPost Try.prog (fnOf Try.prog 37) (roR B x)))) .normal a w := by
  have e : IntKind.i64.wrap ((i : Int) + 1) = ((i + 1 : Nat) : Int) := IntWalk.i64_in _ (by omega)
  cases h1 : (!last) with
  | false =>
    cases h2 : ((A.getD (↑i : Int).toNat Elt.zero).k == (4 : Int)) with
    | false =>
      cases h3 : (decide ((A.getD (↑i : Int).toNat Elt.zero).role < least)) with
      | false =>
        refine list_wp hmx (ro := none) T9 [Dec.c (92 : Nat) false, Dec.c (98 : Nat) false, Dec.c (105 : Nat) false] [(!last) = false, (0 : Int) ≤ (↑i : Int) ∧ (↑i : Int) < (↑A.length : Int), (↑i : Int).toNat < A.length, ((A.getD (↑i : Int).toNat Elt.zero).k == (4 : Int)) = false, (0 : Int) ≤ (↑i : Int) ∧ (↑i : Int) < (↑A.length : Int), (↑i : Int).toNat < A.length, decide ((A.getD (↑i : Int).toNat Elt.zero).role < least) = false] .norm (by kernel_rfl) (by kernel_rfl) (by refine ⟨h1, ?_, ?_, h2, ?_, ?_, h3, trivial⟩ <;> (omega)) hF hst fun g1 w1 a1 hag1 hst1 hF1 hd1 => ?_
        first
        | (have h2' : (nthE A i).k ≠ 4 := by simpa using (show ((nthE A i).k == 4) = false from h2)
           have h3' : decide ((nthE A i).role < least) = _ := h3
           first
           | (have h3'' : (nthE A i).role < least := by simpa using h3'
              refine hN (nthE A i).role true _ _ (.inr ⟨by simpa using h1, h2', by omega, rfl⟩) ?_
              exact next_inv trivial (Agree.refl _ _) hag1 (by kernel_rfl) hF1 hst1 (hd1.trans hd) (by kernel_rfl) (by (try dsimp only); rw [← e]; kernel_rfl) (by kernel_rfl))
           | (have h3'' : ¬ (nthE A i).role < least := by simpa using h3'
              refine hN least true _ _ (.inr ⟨by simpa using h1, h2', by omega, rfl⟩) ?_
              exact next_inv trivial (Agree.refl _ _) hag1 (by kernel_rfl) hF1 hst1 (hd1.trans hd) (by kernel_rfl) (by (try dsimp only); rw [← e]; kernel_rfl) (by kernel_rfl)))
        | (refine hN least sm _ _ (.inl ⟨by simpa using h1, rfl, rfl⟩) ?_
           exact next_inv trivial (Agree.refl _ _) hag1 (by kernel_rfl) hF1 hst1 (hd1.trans hd) (by kernel_rfl) (by (try dsimp only); rw [← e]; kernel_rfl) (by kernel_rfl))
      | true =>
        refine list_wp hmx (ro := none) T9 [Dec.c (92 : Nat) false, Dec.c (98 : Nat) false, Dec.c (105 : Nat) true] [(!last) = false, (0 : Int) ≤ (↑i : Int) ∧ (↑i : Int) < (↑A.length : Int), (↑i : Int).toNat < A.length, ((A.getD (↑i : Int).toNat Elt.zero).k == (4 : Int)) = false, (0 : Int) ≤ (↑i : Int) ∧ (↑i : Int) < (↑A.length : Int), (↑i : Int).toNat < A.length, decide ((A.getD (↑i : Int).toNat Elt.zero).role < least) = true, (0 : Int) ≤ (↑i : Int) ∧ (↑i : Int) < (↑A.length : Int), (↑i : Int).toNat < A.length] .norm (by kernel_rfl) (by kernel_rfl) (by refine ⟨h1, ?_, ?_, h2, ?_, ?_, h3, ?_, ?_, trivial⟩ <;> (omega)) hF hst fun g1 w1 a1 hag1 hst1 hF1 hd1 => ?_
        first
        | (have h2' : (nthE A i).k ≠ 4 := by simpa using (show ((nthE A i).k == 4) = false from h2)
           have h3' : decide ((nthE A i).role < least) = _ := h3
           first
           | (have h3'' : (nthE A i).role < least := by simpa using h3'
              refine hN (nthE A i).role true _ _ (.inr ⟨by simpa using h1, h2', by omega, rfl⟩) ?_
              exact next_inv trivial (Agree.refl _ _) hag1 (by kernel_rfl) hF1 hst1 (hd1.trans hd) (by kernel_rfl) (by (try dsimp only); rw [← e]; kernel_rfl) (by kernel_rfl))
           | (have h3'' : ¬ (nthE A i).role < least := by simpa using h3'
              refine hN least true _ _ (.inr ⟨by simpa using h1, h2', by omega, rfl⟩) ?_
              exact next_inv trivial (Agree.refl _ _) hag1 (by kernel_rfl) hF1 hst1 (hd1.trans hd) (by kernel_rfl) (by (try dsimp only); rw [← e]; kernel_rfl) (by kernel_rfl)))
        | (refine hN least sm _ _ (.inl ⟨by simpa using h1, rfl, rfl⟩) ?_
           exact next_inv trivial (Agree.refl _ _) hag1 (by kernel_rfl) hF1 hst1 (hd1.trans hd) (by kernel_rfl) (by (try dsimp only); rw [← e]; kernel_rfl) (by kernel_rfl))
    | true =>
      refine list_wp hmx (ro := none) T9 [Dec.c (92 : Nat) false, Dec.c (98 : Nat) true] [(!last) = false, (0 : Int) ≤ (↑i : Int) ∧ (↑i : Int) < (↑A.length : Int), (↑i : Int).toNat < A.length, ((A.getD (↑i : Int).toNat Elt.zero).k == (4 : Int)) = true] .ret (by kernel_rfl) (by kernel_rfl) (by refine ⟨h1, ?_, ?_, h2, trivial⟩ <;> (omega)) hF hst fun g1 w1 a1 hag1 hst1 hF1 hd1 => ?_
      have h0 := hR (by simpa using h1) (by simpa using (show ((nthE A i).k == 4) = true from h2))
      subst h0
      refine ret_out ?_
      exact (bodyPost_of (v := .r (.int .u8 0)) (by kernel_rfl) hF1 hst1 (hd1.trans hd) ⟨rfl, _, _, hst1⟩).1
  | true =>
    refine list_wp hmx (ro := none) T9 [Dec.c (92 : Nat) true] [(!last) = true] .norm (by kernel_rfl) (by kernel_rfl) ⟨h1, trivial⟩ hF hst fun g1 w1 a1 hag1 hst1 hF1 hd1 => ?_
    first
    | (have h2' : (nthE A i).k ≠ 4 := by simpa using (show ((nthE A i).k == 4) = false from h2)
       have h3' : decide ((nthE A i).role < least) = _ := h3
       first
       | (have h3'' : (nthE A i).role < least := by simpa using h3'
          refine hN (nthE A i).role true _ _ (.inr ⟨by simpa using h1, h2', by omega, rfl⟩) ?_
          exact next_inv trivial (Agree.refl _ _) hag1 (by kernel_rfl) hF1 hst1 (hd1.trans hd) (by kernel_rfl) (by (try dsimp only); rw [← e]; kernel_rfl) (by kernel_rfl))
       | (have h3'' : ¬ (nthE A i).role < least := by simpa using h3'
          refine hN least true _ _ (.inr ⟨by simpa using h1, h2', by omega, rfl⟩) ?_
          exact next_inv trivial (Agree.refl _ _) hag1 (by kernel_rfl) hF1 hst1 (hd1.trans hd) (by kernel_rfl) (by (try dsimp only); rw [← e]; kernel_rfl) (by kernel_rfl)))
    | (refine hN least sm _ _ (.inl ⟨by simpa using h1, rfl, rfl⟩) ?_
       exact next_inv trivial (Agree.refl _ _) hag1 (by kernel_rfl) hF1 hst1 (hd1.trans hd) (by kernel_rfl) (by (try dsimp only); rw [← e]; kernel_rfl) (by kernel_rfl))

/-- What follows the outer loop. -/
theorem role_end {L : Bk} {A : List Ev} {who least : Int} {v : Vec} {sm : Bool} {i : Nat} {G : Nat → Value} {g : Gh} {B : Base} {a : Act} {w : World}
    (hF : FrameOk g (maskF [1, 7, 9, 10, 11] (rlF1 who v least sm i) G) a) (hst : St g (rlH L v A) B w) (hd : a.defers = []) :
    kont none 0 Try.prog (restAt 2 (fnLoop Try.prog 37 1).2) (bodyPost Try.prog (fnOf Try.prog 37) (roR B (if who == 0 || sm then least else 0))) .normal a w := by
  cases h1 : (!sm) with
  | false =>
    refine list_wp hmx (ro := none) T9 [Dec.s (26003 : Nat) (113 : Nat) false] [(!sm) = false] .ret (by kernel_rfl) (by kernel_rfl) ⟨h1, trivial⟩ hF hst fun g1 w1 a1 hag1 hst1 hF1 hd1 => ?_
    refine ret_fin ?_
    first
    | (have e : (if who == 0 || sm then least else 0) = least := by
         first
         | (rw [show sm = true by simpa using h1]; simp; done)
         | (rw [show who = 0 by simpa using h2]; simp; done)
       rw [e]
       exact (bodyPost_of (v := .r (.int .u8 least)) (by kernel_rfl) hF1 hst1 (hd1.trans hd) ⟨rfl, _, _, hst1⟩).1)
    | (have e : (if who == 0 || sm then least else 0) = 0 := by
         have e1 : sm = false := by simpa using h1
         have e2 : who ≠ 0 := by simpa using h2
         simp [e1, e2]
       rw [e]
       exact (bodyPost_of (v := .r (.int .u8 0)) (by kernel_rfl) hF1 hst1 (hd1.trans hd) ⟨rfl, _, _, hst1⟩).1)
  | true =>
    cases h2 : (who != (0 : Int)) with
    | false =>
      refine list_wp hmx (ro := none) T9 [Dec.s (26003 : Nat) (113 : Nat) true, Dec.c (116 : Nat) false] [(!sm) = true, (who != (0 : Int)) = false] .ret (by kernel_rfl) (by kernel_rfl) ⟨h1, h2, trivial⟩ hF hst fun g1 w1 a1 hag1 hst1 hF1 hd1 => ?_
      refine ret_fin ?_
      first
      | (have e : (if who == 0 || sm then least else 0) = least := by
           first
           | (rw [show sm = true by simpa using h1]; simp; done)
           | (rw [show who = 0 by simpa using h2]; simp; done)
         rw [e]
         exact (bodyPost_of (v := .r (.int .u8 least)) (by kernel_rfl) hF1 hst1 (hd1.trans hd) ⟨rfl, _, _, hst1⟩).1)
      | (have e : (if who == 0 || sm then least else 0) = 0 := by
           have e1 : sm = false := by simpa using h1
           have e2 : who ≠ 0 := by simpa using h2
           simp [e1, e2]
         rw [e]
         exact (bodyPost_of (v := .r (.int .u8 0)) (by kernel_rfl) hF1 hst1 (hd1.trans hd) ⟨rfl, _, _, hst1⟩).1)
    | true =>
      refine list_wp hmx (ro := none) T9 [Dec.s (26003 : Nat) (113 : Nat) true, Dec.c (116 : Nat) true] [(!sm) = true, (who != (0 : Int)) = true] .ret (by kernel_rfl) (by kernel_rfl) ⟨h1, h2, trivial⟩ hF hst fun g1 w1 a1 hag1 hst1 hF1 hd1 => ?_
      refine ret_fin ?_
      first
      | (have e : (if who == 0 || sm then least else 0) = least := by
           first
           | (rw [show sm = true by simpa using h1]; simp; done)
           | (rw [show who = 0 by simpa using h2]; simp; done)
         rw [e]
         exact (bodyPost_of (v := .r (.int .u8 least)) (by kernel_rfl) hF1 hst1 (hd1.trans hd) ⟨rfl, _, _, hst1⟩).1)
      | (have e : (if who == 0 || sm then least else 0) = 0 := by
           have e1 : sm = false := by simpa using h1
           have e2 : who ≠ 0 := by simpa using h2
           simp [e1, e2]
         rw [e]
         exact (bodyPost_of (v := .r (.int .u8 0)) (by kernel_rfl) hF1 hst1 (hd1.trans hd) ⟨rfl, _, _, hst1⟩).1)

end Go.Proofs.Ytodcebpdmjdplaa

namespace Go.Proofs.Ytodcebpdmjdplaa
open Go.RowKit

/-- The second loop and what follows. -/
theorem role_tail {L : Bk} {A : List Ev} (hA : A.length ≤ 1000) (hok : ∀ e ∈ A, e.ok) (hrt : ∀ e ∈ A, Rt e) {who : Int} {v : Vec} {G0 : Nat → Value} {g0 : Gh} {B : Base} {a0 : Act} {w0 : World}
    (hF0 : FrameOk g0 (maskF [1, 7] (rlF1 who v 3 false 0) G0) a0) (hst0 : St g0 (rlH L v A) B w0) (hd0 : a0.defers = []) :
    kont none 0 Try.prog (restAt 0 (fnLoop Try.prog 37 0).2) (bodyPost Try.prog (fnOf Try.prog 37) (roR B (if someOf who A A then leastOf A A else 0))) .normal a0 w0 := by
  refine list_wp hmx T9 [] [] (.loop (fnLoop Try.prog 37 1).1 (fnLoop Try.prog 37 1).2) (by kernel_rfl) (by kernel_rfl) trivial hF0 hst0 fun g2 w2 a2 hag2 hst2 hF2 hd2 => ?_
  refine loop_wp (σ := Nat) (n0 := 5) (g0 := g2) (B := B) (ds := []) [1, 7, 9, 10, 11] (fun i => rlF1 who v (leastOf A (A.take i)) ((A.take i).any fun e => lastB e A) i) (fun _ => rlH L v A) (fun i => i ≤ A.length) (fun i => A.length - i) 0
    (next_inv (Nat.zero_le _) (Agree.refl _ _) (Agree.refl 5 _) (by kernel_rfl) hF2 hst2 (hd2.trans hd0) (by kernel_rfl) (by kernel_rfl) (by kernel_rfl)) fun i g G a w hi hag hF hst hd => ?_
  cases h1 : (decide ((↑i : Int) < (↑A.length : Int))) with
  | false =>
    refine code_wp hmx (ro := none) T9 [Dec.c (73 : Nat) false] [decide ((↑i : Int) < (↑A.length : Int)) = false] (.exit 2) (by kernel_rfl) (by kernel_rfl) ⟨h1, trivial⟩ hF hst fun g1 w1 a1 hag1 hst1 hF1 hd1 => ?_
    have hge : A.length ≤ i := by simpa using h1
    refine exit_out (k' := restAt 2 (fnLoop Try.prog 37 1).2) (by kernel_rfl) ?_
    obtain ⟨-, g5, G5, hag5, hF5, hst5, hd5⟩ := next_inv (σ := Unit) (n0 := 5) (live := [1, 7, 9, 10, 11]) (F := fun _ => rlF1 who v (leastOf A (A.take i)) ((A.take i).any fun e => lastB e A) i) (H := fun _ => rlH L v A) (inv := fun _ => True) (s' := ()) trivial hag hag1 (by kernel_rfl) hF1 hst1 (hd1.trans hd) (by kernel_rfl) (by kernel_rfl) (by kernel_rfl)
    have := role_end hF5 hst5 hd5
    rw [List.take_of_length_le hge] at this
    exact this
  | true =>
    refine code_wp hmx (ro := none) T9 [Dec.c (73 : Nat) true] [decide ((↑i : Int) < (↑A.length : Int)) = true] (.loop (loopAt (fnLoop Try.prog 37 1).1 0).1 (loopAt (fnLoop Try.prog 37 1).1 0).2) (by kernel_rfl) (by kernel_rfl) ⟨h1, trivial⟩ hF hst fun g1 w1 a1 hag1 hst1 hF1 hd1 => ?_
    have hlt : i < A.length := by simpa using h1
    have hx1 := leastOf_snoc A (A.take i) (nthE A i)
    have hx2 : (A.take (i + 1)).any (fun e => lastB e A) = ((A.take i).any (fun e => lastB e A) || lastB (nthE A i) A) := by rw [take_e A i hlt]; simp
    rw [← take_e A i hlt] at hx1
    obtain ⟨-, g5, G5, hag5, hF5, hst5, hd5⟩ := next_inv (σ := Unit) (n0 := 5) (live := [1, 7, 9, 10, 11, 12, 13]) (F := fun _ => rlF2 who v (leastOf A (A.take i)) ((A.take i).any fun e => lastB e A) i true (0 : Nat)) (H := fun _ => rlH L v A) (inv := fun _ => True) (s' := ()) trivial hag hag1 (by kernel_rfl) hF1 hst1 (hd1.trans hd) (by kernel_rfl) (by kernel_rfl) (by kernel_rfl)
    refine role_in hA hok hlt hF5 hst5 fun g6 G6 a6 w6 hag6 hF6 hst6 hd6 => ?_
    refine role_after hA hlt hF6 hst6 (hd6.trans hd5) (fun least' sm' a7 w7 hc h7 => ?_) fun hl hk => ?_
    · refine ⟨i + 1, ?_, by omega⟩
      obtain ⟨-, g7, G7, hag7, hF7, hst7, hd7⟩ := h7
      have e1 : leastOf A (A.take (i + 1)) = least' := by
        rw [hx1]
        rcases hc with ⟨h, h2, -⟩ | ⟨h, -, h2, -⟩
        · rw [h, h2]; rfl
        · rw [h, h2]; rfl
      have e2 : (A.take (i + 1)).any (fun e => lastB e A) = sm' := by
        rw [hx2]
        rcases hc with ⟨h, -, h2⟩ | ⟨h, -, -, h2⟩
        · rw [h, h2]; simp
        · rw [h, h2]; simp
      exact ⟨show i + 1 ≤ A.length by omega, g7, G7, (hag5.tr hag6 (by kernel_rfl)).tr hag7 (by kernel_rfl), by (try dsimp only); rw [e1, e2]; exact hF7, hst7, hd7⟩
    · have hr := hrt _ (nthE_mem hlt) hk
      rw [least_revoke (nthE_mem hlt) hl hr fun y hy => (hok y hy).role0]
      simp

theorem rrole_few (L : Bk) (hL : L.length ≤ 1000) (hok : ∀ p ∈ L, p.1.ok) (hrt : ∀ p ∈ L, Rt p.1) (who : Int) (h0 : 0 ≤ who) (v : Vec) : CtrQ Try.prog 37 [.c (.ptr 0 0), .r (.int .u8 who), v.av] (rbk0 L) (.r (.int .u8 (roleM L who v))) := by
  intro r w hst
  generalize hW : rd r w = W0 at hst
  suffices hh : Calls Try.prog 37 (([.c (.ptr 0 0), .r (.int .u8 who), v.av].map (AV.conc r)).toArray) w (roR W0 (roleM L who v)) from hh.mono fun e w' ⟨h1, g, H, h2⟩ => ⟨h1, by rw [← hW] at h2; exact h2.belowR⟩
  cases h1 : decide (who > 7) with
  | true =>
    have hrun : fnA Try.prog T9 37 [.c (.ptr 0 0), .r (.int .u8 who), v.av] (rbk0 L) [.c 19 true] = some (.r (.int .u8 0), rbk0 L ++ [(.cells v.cvs 27, 1)], [decide (who > 7) = true]) := by kernel_rfl
    refine (fnA_calls hmx hrun ⟨h1, trivial⟩ hst).mono ?_
    rintro e w' ⟨g, -, rfl, h2⟩
    refine ⟨?_, g, _, h2⟩
    have : 8 ≤ who := by simp at h1; omega
    simp [roleM, this, AV.conc, TV.conc, CV.conc]
  | false =>
    have hw8 : ¬ 8 ≤ who := by simp at h1; omega
    refine (callsFw (ro := none) (n := 0)).1 (callsInStart (fn := fnOf Try.prog 37) (c := bodyOf Try.prog 37) (by kernel_rfl) (by kernel_rfl) fun a0 hF0 hd0 => ?_)
    refine code_wp hmx T9 [.c 19 false] [decide (who > 7) = false] (.loop (fnLoop Try.prog 37 0).1 (fnLoop Try.prog 37 0).2) (by kernel_rfl) (by kernel_rfl) ⟨h1, trivial⟩ hF0 hst fun r2 w2 a2 hag2 hst2 hF2 hd2 => ?_
    obtain ⟨r3, hag3, hs3, hst3⟩ := hst2.nilL KEv (by kernel_rfl)
    have hF3 := hF2.nilL hag3 (by kernel_rfl) hs3 7 (by kernel_rfl)
    refine loop_wp (σ := Nat) (n0 := 3) (g0 := r) (B := W0) (ds := []) [0, 1, 5, 7, 8] (fun i => rlF0 who v i) (fun i => rlH L v (aboutL (L.take i) who v)) (fun i => i ≤ L.length) (fun i => L.length - i) 0
      (next_inv (Nat.zero_le _) hag2 hag3 (by kernel_rfl) hF3 hst3 (by rw [hd2, hd0]) (by kernel_rfl) (by kernel_rfl) (by kernel_rfl)) fun i g G a w1 hi hag hF hst hd => ?_
    have hal := about_take_len L who v i
    cases h1 : (decide ((↑i : Int) < (↑(List.map (fun (x : Ev × Bool) => x.fst) L).length : Int))) with
    | false =>
      refine code_wp hmx (ro := none) T9 [Dec.c (26 : Nat) false] [decide ((↑i : Int) < (↑(List.map (fun (x : Ev × Bool) => x.fst) L).length : Int)) = false] (.exit 0) (by kernel_rfl) (by kernel_rfl) ⟨h1, trivial⟩ hF hst fun g1 w1 a1 hag1 hst1 hF1 hd1 => ?_
      have hge : L.length ≤ i := by simpa using h1
      refine exit_out (k' := restAt 0 (fnLoop Try.prog 37 0).2) (by kernel_rfl) ?_
      obtain ⟨-, g5, G5, hag5, hF5, hst5, hd5⟩ := next_inv (σ := Unit) (n0 := 5) (live := [1, 7]) (F := fun _ => rlF1 who v 3 false 0) (H := fun _ => rlH L v (aboutL (L.take i) who v)) (inv := fun _ => True) (s' := ()) trivial (Agree.refl _ _) hag1 (by kernel_rfl) hF1 hst1 (hd1.trans hd) (by kernel_rfl) (by kernel_rfl) (by kernel_rfl)
      rw [List.take_of_length_le hge] at hst5 hal
      have := role_tail (A := aboutL L who v) (by omega) (fun e he => by obtain ⟨p, hp, rfl⟩ := about_mem he; exact hok p hp) (fun e he => by obtain ⟨p, hp, rfl⟩ := about_mem he; exact hrt p hp) hF5 hst5 hd5
      rw [roleM, if_neg hw8]
      exact this
    | true =>
      cases h2 : ((List.map (fun (x : Ev × Bool) => x.snd) L).getD (↑i : Int).toNat Elt.zero) with
      | false =>
        refine code_wp hmx (ro := none) T9 [Dec.c (26 : Nat) true, Dec.s (7008 : Nat) (36 : Nat) false] [decide ((↑i : Int) < (↑(List.map (fun (x : Ev × Bool) => x.fst) L).length : Int)) = true, (0 : Int) ≤ (↑i : Int) ∧ (↑i : Int) < (↑(List.map (fun (x : Ev × Bool) => x.snd) L).length : Int), (↑i : Int).toNat < (List.map (fun (x : Ev × Bool) => x.snd) L).length, (List.map (fun (x : Ev × Bool) => x.snd) L).getD (↑i : Int).toNat Elt.zero = false] .norm (by kernel_rfl) (by kernel_rfl) (by refine ⟨h1, ?_, ?_, h2, trivial⟩ <;> (first | (rw [nth_ev]; exact (hok _ (nthL_mem (by simp at h1 ⊢; omega))).d) | (simp at h1 ⊢; omega) | (refine ⟨?_, ?_⟩ <;> (simp [maxLen] at h1 ⊢; omega)))) hF hst fun g1 w1 a1 hag1 hst1 hF1 hd1 => ?_
        simp only [nth_b, Int.toNat_natCast] at *
        have hlt : i < L.length := by simpa using h1
        have e : IntKind.i64.wrap ((i : Int) + 1) = ((i + 1 : Nat) : Int) := IntWalk.i64_in _ (by omega)
        have hx := about_take L who v i hlt
        first
        | (have hr : relB who v (nthL L i) = false := by simp [relB, *]
           rw [hr] at hx
           simp only [Bool.false_eq_true, if_false, List.append_nil] at hx
           refine ⟨i + 1, ?_, by omega⟩
           exact next_inv (show i + 1 ≤ L.length by omega) hag hag1 (by kernel_rfl) hF1 hst1 (by rw [hd1, hd]) (by kernel_rfl) (by (try dsimp only); rw [← e]; kernel_rfl) (by (try dsimp only); rw [hx]; kernel_rfl))
        | (have hr : relB who v (nthL L i) = true := by simp [relB, *]
           rw [hr] at hx
           simp only [if_true] at hx
           refine ⟨i + 1, ?_, by omega⟩
           exact next_view [0, 1, 2, 3, 4] [0, 1, 2, 3, 6] (show i + 1 ≤ L.length by omega) hag hag1 (by kernel_rfl) hF1 hst1 (by rw [hd1, hd]) (by kernel_rfl) (by (try dsimp only); rw [← e]; kernel_rfl) (by kernel_rfl) (by kernel_rfl) (by (try dsimp only); rw [hx, ← nth_ev]; kernel_rfl))
      | true =>
        cases h3 : (((List.map (fun (x : Ev × Bool) => x.fst) L).getD (↑i : Int).toNat Elt.zero).who == who) with
        | false =>
          refine code_wp hmx (ro := none) T9 [Dec.c (26 : Nat) true, Dec.s (7008 : Nat) (36 : Nat) true, Dec.s (7020 : Nat) (48 : Nat) false] [decide ((↑i : Int) < (↑(List.map (fun (x : Ev × Bool) => x.fst) L).length : Int)) = true, (0 : Int) ≤ (↑i : Int) ∧ (↑i : Int) < (↑(List.map (fun (x : Ev × Bool) => x.snd) L).length : Int), (↑i : Int).toNat < (List.map (fun (x : Ev × Bool) => x.snd) L).length, (List.map (fun (x : Ev × Bool) => x.snd) L).getD (↑i : Int).toNat Elt.zero = true, (0 : Int) ≤ (↑i : Int) ∧ (↑i : Int) < (↑(List.map (fun (x : Ev × Bool) => x.fst) L).length : Int), (↑i : Int).toNat < (List.map (fun (x : Ev × Bool) => x.fst) L).length, (((List.map (fun (x : Ev × Bool) => x.fst) L).getD (↑i : Int).toNat Elt.zero).who == who) = false] .norm (by kernel_rfl) (by kernel_rfl) (by refine ⟨h1, ?_, ?_, h2, ?_, ?_, h3, trivial⟩ <;> (first | (rw [nth_ev]; exact (hok _ (nthL_mem (by simp at h1 ⊢; omega))).d) | (simp at h1 ⊢; omega) | (refine ⟨?_, ?_⟩ <;> (simp [maxLen] at h1 ⊢; omega)))) hF hst fun g1 w1 a1 hag1 hst1 hF1 hd1 => ?_
          simp only [nth_ev, nth_b, Int.toNat_natCast] at *
          have hlt : i < L.length := by simpa using h1
          have e : IntKind.i64.wrap ((i : Int) + 1) = ((i + 1 : Nat) : Int) := IntWalk.i64_in _ (by omega)
          have hx := about_take L who v i hlt
          first
          | (have hr : relB who v (nthL L i) = false := by simp [relB, *]
             rw [hr] at hx
             simp only [Bool.false_eq_true, if_false, List.append_nil] at hx
             refine ⟨i + 1, ?_, by omega⟩
             exact next_inv (show i + 1 ≤ L.length by omega) hag hag1 (by kernel_rfl) hF1 hst1 (by rw [hd1, hd]) (by kernel_rfl) (by (try dsimp only); rw [← e]; kernel_rfl) (by (try dsimp only); rw [hx]; kernel_rfl))
          | (have hr : relB who v (nthL L i) = true := by simp [relB, *]
             rw [hr] at hx
             simp only [if_true] at hx
             refine ⟨i + 1, ?_, by omega⟩
             exact next_view [0, 1, 2, 3, 4] [0, 1, 2, 3, 6] (show i + 1 ≤ L.length by omega) hag hag1 (by kernel_rfl) hF1 hst1 (by rw [hd1, hd]) (by kernel_rfl) (by (try dsimp only); rw [← e]; kernel_rfl) (by kernel_rfl) (by kernel_rfl) (by (try dsimp only); rw [hx, ← nth_ev]; kernel_rfl))
        | true =>
          cases h4 : (hasB v ((List.map (fun (x : Ev × Bool) => x.fst) L).getD (↑i : Int).toNat Elt.zero).d) with
          | false =>
            refine code_wp hmx (ro := none) T9 [Dec.c (26 : Nat) true, Dec.s (7008 : Nat) (36 : Nat) true, Dec.s (7020 : Nat) (48 : Nat) true, Dec.c (59 : Nat) false] [decide ((↑i : Int) < (↑(List.map (fun (x : Ev × Bool) => x.fst) L).length : Int)) = true, (0 : Int) ≤ (↑i : Int) ∧ (↑i : Int) < (↑(List.map (fun (x : Ev × Bool) => x.snd) L).length : Int), (↑i : Int).toNat < (List.map (fun (x : Ev × Bool) => x.snd) L).length, (List.map (fun (x : Ev × Bool) => x.snd) L).getD (↑i : Int).toNat Elt.zero = true, (0 : Int) ≤ (↑i : Int) ∧ (↑i : Int) < (↑(List.map (fun (x : Ev × Bool) => x.fst) L).length : Int), (↑i : Int).toNat < (List.map (fun (x : Ev × Bool) => x.fst) L).length, (((List.map (fun (x : Ev × Bool) => x.fst) L).getD (↑i : Int).toNat Elt.zero).who == who) = true, (0 : Int) ≤ (↑i : Int) ∧ (↑i : Int) < (↑(List.map (fun (x : Ev × Bool) => x.fst) L).length : Int), (↑i : Int).toNat < (List.map (fun (x : Ev × Bool) => x.fst) L).length, ((List.map (fun (x : Ev × Bool) => x.fst) L).getD (↑i : Int).toNat Elt.zero).d.ok, hasB v ((List.map (fun (x : Ev × Bool) => x.fst) L).getD (↑i : Int).toNat Elt.zero).d = false] .norm (by kernel_rfl) (by kernel_rfl) (by refine ⟨h1, ?_, ?_, h2, ?_, ?_, h3, ?_, ?_, ?_, h4, trivial⟩ <;> (first | (rw [nth_ev]; exact (hok _ (nthL_mem (by simp at h1 ⊢; omega))).d) | (simp at h1 ⊢; omega) | (refine ⟨?_, ?_⟩ <;> (simp [maxLen] at h1 ⊢; omega)))) hF hst fun g1 w1 a1 hag1 hst1 hF1 hd1 => ?_
            simp only [nth_ev, nth_b, Int.toNat_natCast] at *
            have hlt : i < L.length := by simpa using h1
            have e : IntKind.i64.wrap ((i : Int) + 1) = ((i + 1 : Nat) : Int) := IntWalk.i64_in _ (by omega)
            have hx := about_take L who v i hlt
            first
            | (have hr : relB who v (nthL L i) = false := by simp [relB, *]
               rw [hr] at hx
               simp only [Bool.false_eq_true, if_false, List.append_nil] at hx
               refine ⟨i + 1, ?_, by omega⟩
               exact next_inv (show i + 1 ≤ L.length by omega) hag hag1 (by kernel_rfl) hF1 hst1 (by rw [hd1, hd]) (by kernel_rfl) (by (try dsimp only); rw [← e]; kernel_rfl) (by (try dsimp only); rw [hx]; kernel_rfl))
            | (have hr : relB who v (nthL L i) = true := by simp [relB, *]
               rw [hr] at hx
               simp only [if_true] at hx
               refine ⟨i + 1, ?_, by omega⟩
               exact next_view [0, 1, 2, 3, 4] [0, 1, 2, 3, 6] (show i + 1 ≤ L.length by omega) hag hag1 (by kernel_rfl) hF1 hst1 (by rw [hd1, hd]) (by kernel_rfl) (by (try dsimp only); rw [← e]; kernel_rfl) (by kernel_rfl) (by kernel_rfl) (by (try dsimp only); rw [hx, ← nth_ev]; kernel_rfl))
          | true =>
            refine code_wp hmx (ro := none) T9 [Dec.c (26 : Nat) true, Dec.s (7008 : Nat) (36 : Nat) true, Dec.s (7020 : Nat) (48 : Nat) true, Dec.c (59 : Nat) true] [decide ((↑i : Int) < (↑(List.map (fun (x : Ev × Bool) => x.fst) L).length : Int)) = true, (0 : Int) ≤ (↑i : Int) ∧ (↑i : Int) < (↑(List.map (fun (x : Ev × Bool) => x.snd) L).length : Int), (↑i : Int).toNat < (List.map (fun (x : Ev × Bool) => x.snd) L).length, (List.map (fun (x : Ev × Bool) => x.snd) L).getD (↑i : Int).toNat Elt.zero = true, (0 : Int) ≤ (↑i : Int) ∧ (↑i : Int) < (↑(List.map (fun (x : Ev × Bool) => x.fst) L).length : Int), (↑i : Int).toNat < (List.map (fun (x : Ev × Bool) => x.fst) L).length, (((List.map (fun (x : Ev × Bool) => x.fst) L).getD (↑i : Int).toNat Elt.zero).who == who) = true, (0 : Int) ≤ (↑i : Int) ∧ (↑i : Int) < (↑(List.map (fun (x : Ev × Bool) => x.fst) L).length : Int), (↑i : Int).toNat < (List.map (fun (x : Ev × Bool) => x.fst) L).length, ((List.map (fun (x : Ev × Bool) => x.fst) L).getD (↑i : Int).toNat Elt.zero).d.ok, hasB v ((List.map (fun (x : Ev × Bool) => x.fst) L).getD (↑i : Int).toNat Elt.zero).d = true, (0 : Int) ≤ (↑i : Int) ∧ (↑i : Int) < (↑(List.map (fun (x : Ev × Bool) => x.fst) L).length : Int), (↑i : Int).toNat < (List.map (fun (x : Ev × Bool) => x.fst) L).length, roomOk ((aboutL (List.take i L) who v).length + [(List.map (fun (x : Ev × Bool) => x.fst) L).getD (↑i : Int).toNat Elt.zero].length) (56 : Nat)] .norm (by kernel_rfl) (by kernel_rfl) (by refine ⟨h1, ?_, ?_, h2, ?_, ?_, h3, ?_, ?_, ?_, h4, ?_, ?_, ?_, trivial⟩ <;> (first | (rw [nth_ev]; exact (hok _ (nthL_mem (by simp at h1 ⊢; omega))).d) | (simp at h1 ⊢; omega) | (refine ⟨?_, ?_⟩ <;> (simp [maxLen] at h1 ⊢; omega)))) hF hst fun g1 w1 a1 hag1 hst1 hF1 hd1 => ?_
            simp only [nth_ev, nth_b, Int.toNat_natCast] at *
            have hlt : i < L.length := by simpa using h1
            have e : IntKind.i64.wrap ((i : Int) + 1) = ((i + 1 : Nat) : Int) := IntWalk.i64_in _ (by omega)
            have hx := about_take L who v i hlt
            first
            | (have hr : relB who v (nthL L i) = false := by simp [relB, *]
               rw [hr] at hx
               simp only [Bool.false_eq_true, if_false, List.append_nil] at hx
               refine ⟨i + 1, ?_, by omega⟩
               exact next_inv (show i + 1 ≤ L.length by omega) hag hag1 (by kernel_rfl) hF1 hst1 (by rw [hd1, hd]) (by kernel_rfl) (by (try dsimp only); rw [← e]; kernel_rfl) (by (try dsimp only); rw [hx]; kernel_rfl))
            | (have hr : relB who v (nthL L i) = true := by simp [relB, *]
               rw [hr] at hx
               simp only [if_true] at hx
               refine ⟨i + 1, ?_, by omega⟩
               exact next_view [0, 1, 2, 3, 4] [0, 1, 2, 3, 6] (show i + 1 ≤ L.length by omega) hag hag1 (by kernel_rfl) hF1 hst1 (by rw [hd1, hd]) (by kernel_rfl) (by (try dsimp only); rw [← e]; kernel_rfl) (by kernel_rfl) (by kernel_rfl) (by (try dsimp only); rw [hx, ← nth_ev]; kernel_rfl))

end Go.Proofs.Ytodcebpdmjdplaa
