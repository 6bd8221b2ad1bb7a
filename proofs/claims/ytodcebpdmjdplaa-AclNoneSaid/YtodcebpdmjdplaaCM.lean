/- AclNone: the walk. -/
import Derived.Test.YtodcebpdmjdplaaCL
namespace Go.Proofs.Ytodcebpdmjdplaa
open Go.RowKit

theorem none_walk (e : Ev) (who : Int) (v : Vec) (r : Nat → Nat) (w : World) :
    Calls Try.prog 12 (([e.av, .r (.int .u8 who), v.av].map (AV.conc r)).toArray) w fun x w' => x = .returned (.bool true) ∧ Below w.heap.size w w' := by
  refine fnP_leaf (T := TA) hmx (D := []) (v := Value.bool (bif bif bif bif bif (1 : Int) == (1 : Int) then !false else false then (0 : Int) == (0 : Int) else false then decide (zeroVec = Vec.mk (0 : Int) (0 : Int) (0 : Int) (0 : Int) (0 : Int) (0 : Int) (0 : Int) (0 : Int)) else false then (0 : Int) == (0 : Int) else false then true else false)) (ps := []) (by kernel_rfl) trivial ?_ r w
  all_goals (
    rfl)


end Go.Proofs.Ytodcebpdmjdplaa
