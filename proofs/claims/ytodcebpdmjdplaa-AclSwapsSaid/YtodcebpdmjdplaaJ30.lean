/- How pairs of events come in. -/
import Derived.Test.YtodcebpdmjdplaaJ28
namespace Go.Proofs.Ytodcebpdmjdplaa
open Go.ChangeShapes Go.WideShapes Go.ChangeAt Go.RowKit

section
variable {H : Type} {enc : TypeId × Value → H} {w : World} {base : Nat} {spare : Nat → Bool} {held : Bool}

theorem cellsT : Try.prog.cellsOf 55 = 34 := by kernel_rfl

theorem open_two {fuel : Nat} {cs : List Value} {x : DataW H × List MemPlace} (h : DataW.trod enc Try.prog w base spare held fuel 55 cs = some x) : ∃ a b : Ev, cs = a.cells.toList ++ b.cells.toList ∧ a.ok ∧ b.ok := by
  cases fuel with
  | zero => simp [DataW.trod] at h
  | succ fuel =>
    unfold DataW.trod at h
    simp only [Try.underlying55, cellsT, cellsE] at h
    split at h
    · rename_i hl
      rw [show List.range 2 = [0, 1] from rfl] at h
      obtain ⟨xs, hm, hx⟩ := Option.map_eq_some_iff.1 h
      obtain ⟨y0, r0, h0, hm0, rfl⟩ := mapM_cons_some hm
      obtain ⟨y1, r1, h1, hm1, rfl⟩ := mapM_cons_some hm0
      obtain ⟨a, ea, -, wa⟩ := open_ev h0
      obtain ⟨b, eb, -, wb⟩ := open_ev h1
      refine ⟨a, b, ?_, wa, wb⟩
      rw [← ea, ← eb]
      simp only [Nat.zero_mul, List.drop_zero, Nat.one_mul]
      rw [List.take_of_length_le (l := List.drop 17 cs) (by simp; omega), List.take_append_drop]
    · cases h

theorem in_two {r : Reach} {b0 : Nat} {v : Value} {d : DataW H} {ps : List MemPlace} (hval : Value.okWide Try.prog w r b0 55 v) (h : DataW.Trod enc Try.prog w base spare held 55 v d ps) : ∃ a b : Ev, v = .agg (a.cells.toList ++ b.cells.toList).toArray ∧ a.ok ∧ b.ok := by
  unfold Value.okWide at hval
  simp only [Try.underlying55] at hval
  obtain ⟨cs, rfl, -, -⟩ := hval
  obtain ⟨fuel, hf⟩ := h
  obtain ⟨a, b, hc, wa, wb⟩ := open_two hf
  refine ⟨a, b, ?_, wa, wb⟩
  simp only [Value.cells] at hc
  rw [← hc]

end

end Go.Proofs.Ytodcebpdmjdplaa
