/- How bytes and pairs of events come in. -/
import Derived.Test.YtodcebpdmjdplaaJ19
namespace Go.Proofs.Ytodcebpdmjdplaa
open Go.ChangeShapes Go.WideShapes Go.ChangeAt Go.RowKit
set_option maxRecDepth 8000

section
variable {H : Type} {enc : TypeId × Value → H} {w : World}

theorem in_byte {r : Reach} {b0 : Nat} {v : Value} {d : DataW H} {ps : List MemPlace} {base : Nat} {spare : Nat → Bool} {held : Bool} (hval : Value.okWide Try.prog w r b0 5 v) (h : DataW.Trod enc Try.prog w base spare held 5 v d ps) : ∃ n : Int, v = .int .u8 n ∧ 0 ≤ n ∧ n < 256 := by
  obtain ⟨n, rfl⟩ := okWide_int Try.underlying5 hval
  obtain ⟨fuel, hf⟩ := h
  obtain ⟨m, e0, -, w0⟩ := DataW.trod_int Try.underlying5 hf
  have e1 : [Value.int .u8 n] = [Value.int .u8 m] := e0
  simp only [List.cons.injEq, Value.int.injEq, and_true, true_and] at e1
  subst e1
  exact ⟨n, rfl, (wf_u8 w0).1, (wf_u8 w0).2⟩

end

theorem st_zero (W : World) : St (ghOf W ⟨none, 0, 0⟩ ⟨none, 0, 0⟩) [] (rd (ghOf W ⟨none, 0, 0⟩ ⟨none, 0, 0⟩) W) W :=
  ⟨⟨fun i x hx => by simp at hx, fun b i h => (by cases h), fun b hb => ⟨rfl, hb.1⟩, fun b hb => hb.2⟩, fun b i x h => (by cases h), fun b i h => (by cases h), fun b hb => hb, fun b hb => .inl hb, rfl, rfl, rfl, Nat.le_refl _, fun _ _ _ => rfl⟩

end Go.Proofs.Ytodcebpdmjdplaa
