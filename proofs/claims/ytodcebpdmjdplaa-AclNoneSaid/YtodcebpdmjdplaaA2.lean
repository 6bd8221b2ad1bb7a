import Derived.Test.YtodcebpdmjdplaaA1
import Derived.LoopTactic
import Derived.BigRegion
import Derived.Deep.RegionHeld3
namespace Go.Proofs.Ytodcebpdmjdplaa
open Go.RowKit

/-- The greatest of the first so many. -/
def Vec.maxTo (v : Vec) : Nat → Int
  | 0 => v.x0
  | k + 1 => max (v.maxTo k) (v.get (k + 1))

set_option maxHeartbeats 400000 in
theorem max_any (v : Vec) (b off : Nat) (w : World) (hc : ∀ i, i < 8 → w.cell? ⟨b, off + i, none⟩ = some (.int .u32 (v.get i))) :
    Calls Try.prog 38 #[.slice (some ⟨b, off, none⟩) 8 8] w fun e w' => e = .returned (.int .u32 (v.maxTo 7)) ∧ w = w' := by
  have h0 : w.cell? ⟨b, off, none⟩ = some (.int .u32 v.x0) := hc 0 (by omega)
  go_enter Try.func38, Try.ntmps38
  go_wp2
  go_loop [3, 4] (fun m i => ∃ k : Nat, k < 8 ∧ i = .int .i64 (k + 1 : Nat) ∧ m = .int .u32 (v.maxTo k)) (fun _ i => 8 - (intOf i).toNat)
  case atStart => exact ⟨0, by omega, rfl, rfl⟩
  case round =>
    obtain ⟨k, hk, rfl, rfl⟩ := hrel
    by_cases hlt : k < 7
    · have h1 := hc (k + 1) (by omega)
      go_wp2
      go_round
      case rel => exact ⟨k + 1, by omega, by go_num, by simp only [Vec.maxTo]; congr 1; split <;> omega⟩
      case measure => simp [intOf]; omega
    · obtain rfl : k = 7 := by omega
      go_wp2
      go_ret
      exact ⟨rfl, rfl⟩

end Go.Proofs.Ytodcebpdmjdplaa
