/- Swaps: walked; where two cells are made in any order, by both orders. -/
import Derived.Test.YtodcebpdmjdplaaJ27
import Derived.Test.YtodcebpdmjdplaaJ29
namespace Go.Proofs.Ytodcebpdmjdplaa
open Go.RowKit

def sg45 (i : Nat) : Nat := if i = 4 then 5 else if i = 5 then 4 else i
theorem sg45_inv (i : Nat) : sg45 (sg45 i) = i := by
  unfold sg45
  by_cases h4 : i = 4
  · subst h4; rfl
  · by_cases h5 : i = 5
    · subst h5; rfl
    · simp [h4, h5]
theorem sg45_lt {n : Nat} (h : 5 < n) (i : Nat) : sg45 i < n ↔ i < n := by
  unfold sg45
  by_cases h4 : i = 4
  · subst h4; simp; omega
  · by_cases h5 : i = 5
    · subst h5; simp; omega
    · simp [h4, h5]
noncomputable def swK : List KI := (headsC (bodyOf Try.prog 10)).map KI.code
noncomputable def swP (l : List Ev) (x y : Ev) (v : Vec) := runC Try.prog TH (swK.take 3) (startF (fnOf Try.prog 10) [.c (.sl 0), .tv (.agg (x.cvs ++ y.cvs)), v.av]) [(.abs 0 (.aevs l), 0)] []
noncomputable def opsZ : Array Oper := opsAt Try.prog 10 4
noncomputable def opsZ1 : Array Oper := addEdge opsZ 5 4 .data
noncomputable def opsZ2 : Array Oper := addEdge opsZ 4 5 .data
noncomputable def opsZ3 : Array Oper := permA sg45 opsZ2
noncomputable def runZ (ops : Array Oper) (l : List Ev) (x y : Ev) (v : Vec) : AF × AH × List Dec × List Prop × List Rec := (runOps Try.prog TH ops 4 0 ops.toList (swP l x y v).F (swP l x y v).H []).getD ([], [], [], [], [])
noncomputable def swF (l : List Ev) (x y : Ev) (v : Vec) : AF := (runZ opsZ1 l x y v).1
noncomputable def swH (l : List Ev) (x y : Ev) (v : Vec) : AH := (runZ opsZ1 l x y v).2.1
def swL (l : List Ev) (x y : Ev) (v : Vec) (B : Base) (g0 : Gh) (ds : List Deferred) (a : Act) (w : World) : Prop := LInv 0 g0 B ds [5, 7, 10, 11] (fun _ : Unit => swF l x y v) (fun _ => swH l x y v) (fun _ => True) () a w

theorem sw_rest {l : List Ev} {x y : Ev} (hL : BkOk (plL l) 500) (hx : x.ok) (hy : y.ok) (v : Vec) {G : Nat → Value} {g : Gh} {B : Base} {a : Act} {w : World}
    (hF : FrameOk g (maskF [5, 7, 10, 11] (swF l x y v) G) a) (hst : St g (swH l x y v) B w) (hd : a.defers = []) : kont none 0 Try.prog (swK.drop 4) (bodyPost Try.prog (fnOf Try.prog 10) (boR B)) .normal a w := by
  have hlen : (plL l).length ≤ 500 := hL.len
  have hLx := hL.add hx
  have hLy := hL.add hy
  have hLxy := hLx.add hy
  have hLyx := hLy.add hx
  cases h1 : (beforeB x y) with
  | false =>
    cases h2 : (beforeB y x) with
    | false =>
      cases h3 : (decide (x.d = y.d)) with
      | false =>
        cases h4 : (decide ((↑(List.length (plL l)) : Int) > (500 : Int))) with
        | false =>
          cases h5 : (decide   (Vec.mk (roleM (addM (addM (plL l) x).snd y).snd (0 : Int) v) (roleM (addM (addM (plL l) x).snd y).snd (1 : Int) v)       (roleM (addM (addM (plL l) x).snd y).snd (2 : Int) v) (roleM (addM (addM (plL l) x).snd y).snd (3 : Int) v)       (roleM (addM (addM (plL l) x).snd y).snd (4 : Int) v) (roleM (addM (addM (plL l) x).snd y).snd (5 : Int) v)       (roleM (addM (addM (plL l) x).snd y).snd (6 : Int) v) (roleM (addM (addM (plL l) x).snd y).snd (7 : Int) v) =     Vec.mk (roleM (addM (addM (plL l) y).snd x).snd (0 : Int) v) (roleM (addM (addM (plL l) y).snd x).snd (1 : Int) v)       (roleM (addM (addM (plL l) y).snd x).snd (2 : Int) v) (roleM (addM (addM (plL l) y).snd x).snd (3 : Int) v)       (roleM (addM (addM (plL l) y).snd x).snd (4 : Int) v) (roleM (addM (addM (plL l) y).snd x).snd (5 : Int) v)       (roleM (addM (addM (plL l) y).snd x).snd (6 : Int) v) (roleM (addM (addM (plL l) y).snd x).snd (7 : Int) v))) with
          | false =>
            refine list_wp hmx (ro := none) TH [Dec.s (5004 : Nat) (32 : Nat) false, Dec.s (5009 : Nat) (37 : Nat) false, Dec.s (5016 : Nat) (44 : Nat) false, Dec.c (48 : Nat) false, Dec.s (12008 : Nat) (70 : Nat) false] [x.d.ok, beforeB x y = false, y.d.ok, beforeB y x = false, decide (x.d = y.d) = false, True, decide ((↑(List.length (plL l)) : Int) > (500 : Int)) = false, True, (∀ (p : Ev × Bool), p ∈ plL l → p.fst.ok) ∧ x.ok, (∀ (p : Ev × Bool), p ∈ (addM (plL l) x).snd → p.fst.ok) ∧ y.ok, (∀ (p : Ev × Bool), p ∈ plL l → p.fst.ok) ∧ y.ok, (∀ (p : Ev × Bool), p ∈ (addM (plL l) y).snd → p.fst.ok) ∧ x.ok, ∀ (p : Ev × Bool), p ∈ (addM (addM (plL l) x).snd y).snd → p.fst.ok, ∀ (p : Ev × Bool), p ∈ (addM (addM (plL l) y).snd x).snd → p.fst.ok, decide (Vec.mk (roleM (addM (addM (plL l) x).snd y).snd (0 : Int) v) (roleM (addM (addM (plL l) x).snd y).snd (1 : Int) v) (roleM (addM (addM (plL l) x).snd y).snd (2 : Int) v) (roleM (addM (addM (plL l) x).snd y).snd (3 : Int) v) (roleM (addM (addM (plL l) x).snd y).snd (4 : Int) v) (roleM (addM (addM (plL l) x).snd y).snd (5 : Int) v) (roleM (addM (addM (plL l) x).snd y).snd (6 : Int) v) (roleM (addM (addM (plL l) x).snd y).snd (7 : Int) v) = Vec.mk (roleM (addM (addM (plL l) y).snd x).snd (0 : Int) v) (roleM (addM (addM (plL l) y).snd x).snd (1 : Int) v) (roleM (addM (addM (plL l) y).snd x).snd (2 : Int) v) (roleM (addM (addM (plL l) y).snd x).snd (3 : Int) v) (roleM (addM (addM (plL l) y).snd x).snd (4 : Int) v) (roleM (addM (addM (plL l) y).snd x).snd (5 : Int) v) (roleM (addM (addM (plL l) y).snd x).snd (6 : Int) v) (roleM (addM (addM (plL l) y).snd x).snd (7 : Int) v)) = false] .ret (by kernel_rfl) (by kernel_rfl) (by refine ⟨?_, h1, ?_, h2, h3, ?_, h4, ?_, ?_, ?_, ?_, ?_, ?_, ?_, h5, trivial⟩ <;> (first | exact hx.d | exact hy.d | exact ⟨hL.ok, hx⟩ | exact ⟨hL.ok, hy⟩ | exact ⟨hLx.ok, hy⟩ | exact ⟨hLy.ok, hx⟩ | exact hLxy.ok | exact hLyx.ok | exact hL.ok | trivial)) hF hst fun g1 w1 a1 hag1 hst1 hF1 hd1 => ?_
            refine ret_fin ?_
            first
            | (exfalso
               have hd : x.d ≠ y.d := of_decide_eq_false h3
               exact (of_decide_eq_false h5) (swap_memb (v := v) hd hlen h1 h2))
            | (exfalso
               have hd : x.d ≠ y.d := of_decide_eq_false h3
               rw [swap_got hd hlen h1 h2] at h6
               simp at h6; done)
            | (have h6' := h6
               have hdd : x.d ≠ y.d := of_decide_eq_false h3
               have e3 := swap_got (fun e => hdd e.symm) hlen h2 h1
               refine (bodyPost_of (v := .b ((gotL (addM (addM (plL l) x).2 y).2 y.d).2 == (gotL (addM (addM (plL l) y).2 x).2 y.d).2)) (by kernel_rfl) hF1 hst1 (hd1.trans hd) ⟨?_, g1, _, hst1⟩).1
               show Ending.returned (.bool ((gotL (addM (addM (plL l) x).2 y).2 y.d).2 == (gotL (addM (addM (plL l) y).2 x).2 y.d).2)) = .returned (.bool true)
               rw [e3]; simp; done)
            | (exact (bodyPost_of (v := .b true) (by kernel_rfl) hF1 hst1 (hd1.trans hd) ⟨rfl, g1, _, hst1⟩).1)
          | true =>
            cases h6 : ((gotL (addM (addM (plL l) x).snd y).snd x.d).snd == (gotL (addM (addM (plL l) y).snd x).snd x.d).snd) with
            | false =>
              refine list_wp hmx (ro := none) TH [Dec.s (5004 : Nat) (32 : Nat) false, Dec.s (5009 : Nat) (37 : Nat) false, Dec.s (5016 : Nat) (44 : Nat) false, Dec.c (48 : Nat) false, Dec.s (12008 : Nat) (70 : Nat) true, Dec.s (12019 : Nat) (81 : Nat) false] [x.d.ok, beforeB x y = false, y.d.ok, beforeB y x = false, decide (x.d = y.d) = false, True, decide ((↑(List.length (plL l)) : Int) > (500 : Int)) = false, True, (∀ (p : Ev × Bool), p ∈ plL l → p.fst.ok) ∧ x.ok, (∀ (p : Ev × Bool), p ∈ (addM (plL l) x).snd → p.fst.ok) ∧ y.ok, (∀ (p : Ev × Bool), p ∈ plL l → p.fst.ok) ∧ y.ok, (∀ (p : Ev × Bool), p ∈ (addM (plL l) y).snd → p.fst.ok) ∧ x.ok, ∀ (p : Ev × Bool), p ∈ (addM (addM (plL l) x).snd y).snd → p.fst.ok, ∀ (p : Ev × Bool), p ∈ (addM (addM (plL l) y).snd x).snd → p.fst.ok, decide (Vec.mk (roleM (addM (addM (plL l) x).snd y).snd (0 : Int) v) (roleM (addM (addM (plL l) x).snd y).snd (1 : Int) v) (roleM (addM (addM (plL l) x).snd y).snd (2 : Int) v) (roleM (addM (addM (plL l) x).snd y).snd (3 : Int) v) (roleM (addM (addM (plL l) x).snd y).snd (4 : Int) v) (roleM (addM (addM (plL l) x).snd y).snd (5 : Int) v) (roleM (addM (addM (plL l) x).snd y).snd (6 : Int) v) (roleM (addM (addM (plL l) x).snd y).snd (7 : Int) v) = Vec.mk (roleM (addM (addM (plL l) y).snd x).snd (0 : Int) v) (roleM (addM (addM (plL l) y).snd x).snd (1 : Int) v) (roleM (addM (addM (plL l) y).snd x).snd (2 : Int) v) (roleM (addM (addM (plL l) y).snd x).snd (3 : Int) v) (roleM (addM (addM (plL l) y).snd x).snd (4 : Int) v) (roleM (addM (addM (plL l) y).snd x).snd (5 : Int) v) (roleM (addM (addM (plL l) y).snd x).snd (6 : Int) v) (roleM (addM (addM (plL l) y).snd x).snd (7 : Int) v)) = true, True, True, ((gotL (addM (addM (plL l) x).snd y).snd x.d).snd == (gotL (addM (addM (plL l) y).snd x).snd x.d).snd) = false] .ret (by kernel_rfl) (by kernel_rfl) (by refine ⟨?_, h1, ?_, h2, h3, ?_, h4, ?_, ?_, ?_, ?_, ?_, ?_, ?_, h5, ?_, ?_, h6, trivial⟩ <;> (first | exact hx.d | exact hy.d | exact ⟨hL.ok, hx⟩ | exact ⟨hL.ok, hy⟩ | exact ⟨hLx.ok, hy⟩ | exact ⟨hLy.ok, hx⟩ | exact hLxy.ok | exact hLyx.ok | exact hL.ok | trivial)) hF hst fun g1 w1 a1 hag1 hst1 hF1 hd1 => ?_
              refine ret_fin ?_
              first
              | (exfalso
                 have hd : x.d ≠ y.d := of_decide_eq_false h3
                 exact (of_decide_eq_false h5) (swap_memb (v := v) hd hlen h1 h2))
              | (exfalso
                 have hd : x.d ≠ y.d := of_decide_eq_false h3
                 rw [swap_got hd hlen h1 h2] at h6
                 simp at h6; done)
              | (have h6' := h6
                 have hdd : x.d ≠ y.d := of_decide_eq_false h3
                 have e3 := swap_got (fun e => hdd e.symm) hlen h2 h1
                 refine (bodyPost_of (v := .b ((gotL (addM (addM (plL l) x).2 y).2 y.d).2 == (gotL (addM (addM (plL l) y).2 x).2 y.d).2)) (by kernel_rfl) hF1 hst1 (hd1.trans hd) ⟨?_, g1, _, hst1⟩).1
                 show Ending.returned (.bool ((gotL (addM (addM (plL l) x).2 y).2 y.d).2 == (gotL (addM (addM (plL l) y).2 x).2 y.d).2)) = .returned (.bool true)
                 rw [e3]; simp; done)
              | (exact (bodyPost_of (v := .b true) (by kernel_rfl) hF1 hst1 (hd1.trans hd) ⟨rfl, g1, _, hst1⟩).1)
            | true =>
              refine list_wp hmx (ro := none) TH [Dec.s (5004 : Nat) (32 : Nat) false, Dec.s (5009 : Nat) (37 : Nat) false, Dec.s (5016 : Nat) (44 : Nat) false, Dec.c (48 : Nat) false, Dec.s (12008 : Nat) (70 : Nat) true, Dec.s (12019 : Nat) (81 : Nat) true] [x.d.ok, beforeB x y = false, y.d.ok, beforeB y x = false, decide (x.d = y.d) = false, True, decide ((↑(List.length (plL l)) : Int) > (500 : Int)) = false, True, (∀ (p : Ev × Bool), p ∈ plL l → p.fst.ok) ∧ x.ok, (∀ (p : Ev × Bool), p ∈ (addM (plL l) x).snd → p.fst.ok) ∧ y.ok, (∀ (p : Ev × Bool), p ∈ plL l → p.fst.ok) ∧ y.ok, (∀ (p : Ev × Bool), p ∈ (addM (plL l) y).snd → p.fst.ok) ∧ x.ok, ∀ (p : Ev × Bool), p ∈ (addM (addM (plL l) x).snd y).snd → p.fst.ok, ∀ (p : Ev × Bool), p ∈ (addM (addM (plL l) y).snd x).snd → p.fst.ok, decide (Vec.mk (roleM (addM (addM (plL l) x).snd y).snd (0 : Int) v) (roleM (addM (addM (plL l) x).snd y).snd (1 : Int) v) (roleM (addM (addM (plL l) x).snd y).snd (2 : Int) v) (roleM (addM (addM (plL l) x).snd y).snd (3 : Int) v) (roleM (addM (addM (plL l) x).snd y).snd (4 : Int) v) (roleM (addM (addM (plL l) x).snd y).snd (5 : Int) v) (roleM (addM (addM (plL l) x).snd y).snd (6 : Int) v) (roleM (addM (addM (plL l) x).snd y).snd (7 : Int) v) = Vec.mk (roleM (addM (addM (plL l) y).snd x).snd (0 : Int) v) (roleM (addM (addM (plL l) y).snd x).snd (1 : Int) v) (roleM (addM (addM (plL l) y).snd x).snd (2 : Int) v) (roleM (addM (addM (plL l) y).snd x).snd (3 : Int) v) (roleM (addM (addM (plL l) y).snd x).snd (4 : Int) v) (roleM (addM (addM (plL l) y).snd x).snd (5 : Int) v) (roleM (addM (addM (plL l) y).snd x).snd (6 : Int) v) (roleM (addM (addM (plL l) y).snd x).snd (7 : Int) v)) = true, True, True, ((gotL (addM (addM (plL l) x).snd y).snd x.d).snd == (gotL (addM (addM (plL l) y).snd x).snd x.d).snd) = true, True, True] .ret (by kernel_rfl) (by kernel_rfl) (by refine ⟨?_, h1, ?_, h2, h3, ?_, h4, ?_, ?_, ?_, ?_, ?_, ?_, ?_, h5, ?_, ?_, h6, ?_, ?_, trivial⟩ <;> (first | exact hx.d | exact hy.d | exact ⟨hL.ok, hx⟩ | exact ⟨hL.ok, hy⟩ | exact ⟨hLx.ok, hy⟩ | exact ⟨hLy.ok, hx⟩ | exact hLxy.ok | exact hLyx.ok | exact hL.ok | trivial)) hF hst fun g1 w1 a1 hag1 hst1 hF1 hd1 => ?_
              refine ret_fin ?_
              first
              | (exfalso
                 have hd : x.d ≠ y.d := of_decide_eq_false h3
                 exact (of_decide_eq_false h5) (swap_memb (v := v) hd hlen h1 h2))
              | (exfalso
                 have hd : x.d ≠ y.d := of_decide_eq_false h3
                 rw [swap_got hd hlen h1 h2] at h6
                 simp at h6; done)
              | (have h6' := h6
                 have hdd : x.d ≠ y.d := of_decide_eq_false h3
                 have e3 := swap_got (fun e => hdd e.symm) hlen h2 h1
                 refine (bodyPost_of (v := .b ((gotL (addM (addM (plL l) x).2 y).2 y.d).2 == (gotL (addM (addM (plL l) y).2 x).2 y.d).2)) (by kernel_rfl) hF1 hst1 (hd1.trans hd) ⟨?_, g1, _, hst1⟩).1
                 show Ending.returned (.bool ((gotL (addM (addM (plL l) x).2 y).2 y.d).2 == (gotL (addM (addM (plL l) y).2 x).2 y.d).2)) = .returned (.bool true)
                 rw [e3]; simp; done)
              | (exact (bodyPost_of (v := .b true) (by kernel_rfl) hF1 hst1 (hd1.trans hd) ⟨rfl, g1, _, hst1⟩).1)
        | true =>
          refine list_wp hmx (ro := none) TH [Dec.s (5004 : Nat) (32 : Nat) false, Dec.s (5009 : Nat) (37 : Nat) false, Dec.s (5016 : Nat) (44 : Nat) false, Dec.c (48 : Nat) true] [x.d.ok, beforeB x y = false, y.d.ok, beforeB y x = false, decide (x.d = y.d) = false, True, decide ((↑(List.length (plL l)) : Int) > (500 : Int)) = true] .ret (by kernel_rfl) (by kernel_rfl) (by refine ⟨?_, h1, ?_, h2, h3, ?_, h4, trivial⟩ <;> (first | exact hx.d | exact hy.d | exact ⟨hL.ok, hx⟩ | exact ⟨hL.ok, hy⟩ | exact ⟨hLx.ok, hy⟩ | exact ⟨hLy.ok, hx⟩ | exact hLxy.ok | exact hLyx.ok | exact hL.ok | trivial)) hF hst fun g1 w1 a1 hag1 hst1 hF1 hd1 => ?_
          refine ret_fin ?_
          first
          | (exfalso
             have hd : x.d ≠ y.d := of_decide_eq_false h3
             exact (of_decide_eq_false h5) (swap_memb (v := v) hd hlen h1 h2))
          | (exfalso
             have hd : x.d ≠ y.d := of_decide_eq_false h3
             rw [swap_got hd hlen h1 h2] at h6
             simp at h6; done)
          | (have h6' := h6
             have hdd : x.d ≠ y.d := of_decide_eq_false h3
             have e3 := swap_got (fun e => hdd e.symm) hlen h2 h1
             refine (bodyPost_of (v := .b ((gotL (addM (addM (plL l) x).2 y).2 y.d).2 == (gotL (addM (addM (plL l) y).2 x).2 y.d).2)) (by kernel_rfl) hF1 hst1 (hd1.trans hd) ⟨?_, g1, _, hst1⟩).1
             show Ending.returned (.bool ((gotL (addM (addM (plL l) x).2 y).2 y.d).2 == (gotL (addM (addM (plL l) y).2 x).2 y.d).2)) = .returned (.bool true)
             rw [e3]; simp; done)
          | (exact (bodyPost_of (v := .b true) (by kernel_rfl) hF1 hst1 (hd1.trans hd) ⟨rfl, g1, _, hst1⟩).1)
      | true =>
        refine list_wp hmx (ro := none) TH [Dec.s (5004 : Nat) (32 : Nat) false, Dec.s (5009 : Nat) (37 : Nat) false, Dec.s (5016 : Nat) (44 : Nat) true] [x.d.ok, beforeB x y = false, y.d.ok, beforeB y x = false, decide (x.d = y.d) = true] .ret (by kernel_rfl) (by kernel_rfl) (by refine ⟨?_, h1, ?_, h2, h3, trivial⟩ <;> (first | exact hx.d | exact hy.d | exact ⟨hL.ok, hx⟩ | exact ⟨hL.ok, hy⟩ | exact ⟨hLx.ok, hy⟩ | exact ⟨hLy.ok, hx⟩ | exact hLxy.ok | exact hLyx.ok | exact hL.ok | trivial)) hF hst fun g1 w1 a1 hag1 hst1 hF1 hd1 => ?_
        refine ret_fin ?_
        first
        | (exfalso
           have hd : x.d ≠ y.d := of_decide_eq_false h3
           exact (of_decide_eq_false h5) (swap_memb (v := v) hd hlen h1 h2))
        | (exfalso
           have hd : x.d ≠ y.d := of_decide_eq_false h3
           rw [swap_got hd hlen h1 h2] at h6
           simp at h6; done)
        | (have h6' := h6
           have hdd : x.d ≠ y.d := of_decide_eq_false h3
           have e3 := swap_got (fun e => hdd e.symm) hlen h2 h1
           refine (bodyPost_of (v := .b ((gotL (addM (addM (plL l) x).2 y).2 y.d).2 == (gotL (addM (addM (plL l) y).2 x).2 y.d).2)) (by kernel_rfl) hF1 hst1 (hd1.trans hd) ⟨?_, g1, _, hst1⟩).1
           show Ending.returned (.bool ((gotL (addM (addM (plL l) x).2 y).2 y.d).2 == (gotL (addM (addM (plL l) y).2 x).2 y.d).2)) = .returned (.bool true)
           rw [e3]; simp; done)
        | (exact (bodyPost_of (v := .b true) (by kernel_rfl) hF1 hst1 (hd1.trans hd) ⟨rfl, g1, _, hst1⟩).1)
    | true =>
      refine list_wp hmx (ro := none) TH [Dec.s (5004 : Nat) (32 : Nat) false, Dec.s (5009 : Nat) (37 : Nat) true] [x.d.ok, beforeB x y = false, y.d.ok, beforeB y x = true] .ret (by kernel_rfl) (by kernel_rfl) (by refine ⟨?_, h1, ?_, h2, trivial⟩ <;> (first | exact hx.d | exact hy.d | exact ⟨hL.ok, hx⟩ | exact ⟨hL.ok, hy⟩ | exact ⟨hLx.ok, hy⟩ | exact ⟨hLy.ok, hx⟩ | exact hLxy.ok | exact hLyx.ok | exact hL.ok | trivial)) hF hst fun g1 w1 a1 hag1 hst1 hF1 hd1 => ?_
      refine ret_fin ?_
      first
      | (exfalso
         have hd : x.d ≠ y.d := of_decide_eq_false h3
         exact (of_decide_eq_false h5) (swap_memb (v := v) hd hlen h1 h2))
      | (exfalso
         have hd : x.d ≠ y.d := of_decide_eq_false h3
         rw [swap_got hd hlen h1 h2] at h6
         simp at h6; done)
      | (have h6' := h6
         have hdd : x.d ≠ y.d := of_decide_eq_false h3
         have e3 := swap_got (fun e => hdd e.symm) hlen h2 h1
         refine (bodyPost_of (v := .b ((gotL (addM (addM (plL l) x).2 y).2 y.d).2 == (gotL (addM (addM (plL l) y).2 x).2 y.d).2)) (by kernel_rfl) hF1 hst1 (hd1.trans hd) ⟨?_, g1, _, hst1⟩).1
         show Ending.returned (.bool ((gotL (addM (addM (plL l) x).2 y).2 y.d).2 == (gotL (addM (addM (plL l) y).2 x).2 y.d).2)) = .returned (.bool true)
         rw [e3]; simp; done)
      | (exact (bodyPost_of (v := .b true) (by kernel_rfl) hF1 hst1 (hd1.trans hd) ⟨rfl, g1, _, hst1⟩).1)
  | true =>
    refine list_wp hmx (ro := none) TH [Dec.s (5004 : Nat) (32 : Nat) true] [x.d.ok, beforeB x y = true] .ret (by kernel_rfl) (by kernel_rfl) (by refine ⟨?_, h1, trivial⟩ <;> (first | exact hx.d | exact hy.d | exact ⟨hL.ok, hx⟩ | exact ⟨hL.ok, hy⟩ | exact ⟨hLx.ok, hy⟩ | exact ⟨hLy.ok, hx⟩ | exact hLxy.ok | exact hLyx.ok | exact hL.ok | trivial)) hF hst fun g1 w1 a1 hag1 hst1 hF1 hd1 => ?_
    refine ret_fin ?_
    first
    | (exfalso
       have hd : x.d ≠ y.d := of_decide_eq_false h3
       exact (of_decide_eq_false h5) (swap_memb (v := v) hd hlen h1 h2))
    | (exfalso
       have hd : x.d ≠ y.d := of_decide_eq_false h3
       rw [swap_got hd hlen h1 h2] at h6
       simp at h6; done)
    | (have h6' := h6
       have hdd : x.d ≠ y.d := of_decide_eq_false h3
       have e3 := swap_got (fun e => hdd e.symm) hlen h2 h1
       refine (bodyPost_of (v := .b ((gotL (addM (addM (plL l) x).2 y).2 y.d).2 == (gotL (addM (addM (plL l) y).2 x).2 y.d).2)) (by kernel_rfl) hF1 hst1 (hd1.trans hd) ⟨?_, g1, _, hst1⟩).1
       show Ending.returned (.bool ((gotL (addM (addM (plL l) x).2 y).2 y.d).2 == (gotL (addM (addM (plL l) y).2 x).2 y.d).2)) = .returned (.bool true)
       rw [e3]; simp; done)
    | (exact (bodyPost_of (v := .b true) (by kernel_rfl) hF1 hst1 (hd1.trans hd) ⟨rfl, g1, _, hst1⟩).1)

theorem sw_any1 {l : List Ev} {x y : Ev} (hL : BkOk (plL l) 500) (hx : x.ok) (hy : y.ok) (v : Vec) {g : Gh} {B : Base} {a : Act} {w : World} (hF : FrameOk g (swP l x y v).F a) (hst : St g (swP l x y v).H B w) (hd : a.defers = []) :
    wpAnyIn (Fw none) 0 Try.prog .any opsZ1 (kont none 0 Try.prog (swK.drop 4) (bodyPost Try.prog (fnOf Try.prog 10) (boR B))) opsZ1.size (Array.replicate opsZ1.size false) a { w with drawn := w.drawn + 1 } := by
  have hr : runOps Try.prog TH opsZ1 4 0 opsZ1.toList (swP l x y v).F (swP l x y v).H [] = some (swF l x y v, swH l x y v, (runZ opsZ1 l x y v).2.2.1, [(0 : Int) ≤ 0 ∧ (0 : Int) < ((2 : Nat) : Int), (0 : Int) ≤ 1 ∧ (1 : Int) < ((2 : Nat) : Int)], (runZ opsZ1 l x y v).2.2.2.2) := by kernel_rfl
  refine regionA_any (T := TH) (rid := 4) hr (by kernel_rfl) ⟨by decide, by decide, trivial⟩ hF hst fun g1 w1 a1 hag1 hst1 hF1 hd1 => ?_
  obtain ⟨-, g5, G5, hag5, hF5, hst5, hd5⟩ := next_inv (σ := Unit) (n0 := 0) (live := [5, 7, 10, 11]) (F := fun _ => swF l x y v) (H := fun _ => swH l x y v) (inv := fun _ => True) (s' := ()) trivial (Agree.refl 0 g) (hag1.mono (Nat.zero_le _)) (by kernel_rfl) hF1 hst1 (hd1.trans hd) (by kernel_rfl) (by kernel_rfl) (by kernel_rfl)
  exact sw_rest hL hx hy v hF5 hst5 hd5

theorem sw_any3 {l : List Ev} {x y : Ev} (hL : BkOk (plL l) 500) (hx : x.ok) (hy : y.ok) (v : Vec) {g : Gh} {B : Base} {a : Act} {w : World} (hF : FrameOk g (swP l x y v).F a) (hst : St g (swP l x y v).H B w) (hd : a.defers = []) :
    wpAnyIn (Fw none) 0 Try.prog .any opsZ3 (kont none 0 Try.prog (swK.drop 4) (bodyPost Try.prog (fnOf Try.prog 10) (boR B))) opsZ3.size (Array.replicate opsZ3.size false) a { w with drawn := w.drawn + 1 } := by
  have hr : runOps Try.prog TH opsZ3 4 0 opsZ3.toList (swP l x y v).F (swP l x y v).H [] = some ((runZ opsZ3 l x y v).1, (runZ opsZ3 l x y v).2.1, (runZ opsZ3 l x y v).2.2.1, [(0 : Int) ≤ 0 ∧ (0 : Int) < ((2 : Nat) : Int), (0 : Int) ≤ 1 ∧ (1 : Int) < ((2 : Nat) : Int)], (runZ opsZ3 l x y v).2.2.2.2) := by kernel_rfl
  refine regionA_any (T := TH) (rid := 4) hr (by kernel_rfl) ⟨by decide, by decide, trivial⟩ hF hst fun g1 w1 a1 hag1 hst1 hF1 hd1 => ?_
  obtain ⟨-, g5, G5, hag5, hF5, hst5, hd5⟩ := next_view (σ := Unit) (n0 := 0) (live := [5, 7, 10, 11]) (F := fun _ => swF l x y v) (H := fun _ => swH l x y v) (inv := fun _ => True) (s' := ()) [0, 1, 2, 3, 4, 6, 5] [0, 1, 2, 3, 4, 5, 6] trivial (Agree.refl 0 g) (hag1.mono (Nat.zero_le _)) (by kernel_rfl) hF1 hst1 (hd1.trans hd) (by kernel_rfl) (by kernel_rfl) (by kernel_rfl) (by kernel_rfl) (by kernel_rfl)
  exact sw_rest hL hx hy v hF5 hst5 hd5

theorem swaps_ctr {l : List Ev} (hl : ∀ e ∈ l, e.ok) {x y : Ev} (hx : x.ok) (hy : y.ok) (v : Vec) : CtrQ Try.prog 10 [.c (.sl 0), .tv (.agg (x.cvs ++ y.cvs)), v.av] [(.abs 0 (.aevs l), 0)] (.b true) := by
  intro r w hst0
  have hL : BkOk (plL l) 500 := (plL_ok hl).mono (by decide)
  suffices hh : Calls Try.prog 10 (([.c (.sl 0), .tv (.agg (x.cvs ++ y.cvs)), v.av].map (AV.conc r)).toArray) w (boR (rd r w)) from hh.mono fun e w' ⟨h1, g, H, h2⟩ => ⟨h1, h2.belowR⟩
  refine (callsFw (ro := none) (n := 0)).1 (callsInStart (fn := fnOf Try.prog 10) (c := bodyOf Try.prog 10) (by kernel_rfl) (by kernel_rfl) fun a0 hF hd => ?_)
  refine kont_heads (bodyOf Try.prog 10) [] _ _ ?_
  rw [List.append_nil, show (headsC (bodyOf Try.prog 10)).map KI.code = swK.take 3 ++ swK.drop 3 from (List.take_append_drop 3 swK).symm, kont_app]
  refine list_wp hmx TH [] [∀ e ∈ l, e.ok] .norm (by kernel_rfl) (by kernel_rfl) ⟨hl, trivial⟩ hF hst0 fun g1 w1 a1 hag1 hst1 hF1 hd1 => ?_
  have hk : swK.drop 3 = .code (.region 4 opsZ true) :: swK.drop 4 := by kernel_rfl
  show kont none 0 Try.prog (swK.drop 3) _ .normal a1 w1
  rw [hk]
  show (Code.region 4 opsZ true).wpIn (Fw none) 0 Try.prog _ a1 w1
  have h5 : 5 < opsZ.size := Nat.lt_of_lt_of_le (by decide) (Nat.le_of_eq (show 8 = opsZ.size by kernel_rfl))
  have h2s : opsZ2.size = opsZ.size := by simp [opsZ2, addEdge]
  exact regionA2_wp (ops1 := opsZ1) (ops2 := opsZ2) (ops3 := opsZ3) hmx (x := 4) (y := 5) (by decide) (addEdge_same _ 5 4 .data) (addEdge_same _ 4 5 .data) (fun l i => addEdge_sub _ 5 4 .data l i) (fun l i => addEdge_sub _ 4 5 .data l i)
    (fun l i => addEdge_of _ 5 4 .data l i) (fun l i => addEdge_of _ 4 5 .data l i) (plainOps_of (by kernel_rfl) _) sg45_inv (sg45_lt h5)
    (permA_ok sg45_inv (fun i => sg45_lt (by rw [h2s]; exact h5) i)) ((permA_size _ _).trans h2s) (sw_any1 hL hx hy v hF1 hst1 (hd1.trans hd)) (sw_any3 hL hx hy v hF1 hst1 (hd1.trans hd))

end Go.Proofs.Ytodcebpdmjdplaa
