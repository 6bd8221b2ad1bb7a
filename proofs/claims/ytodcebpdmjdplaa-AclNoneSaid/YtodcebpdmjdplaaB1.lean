/- maps.Clone: the shelf's proof laid at this program. -/
import Derived.Test.YtodcebpdmjdplaaA1
import Derived.Shelf.SlMaps.Clone
import Derived.Ground.SlmcProg
import Derived.Shelf.Lay
namespace Go.Proofs
open Go.Shelf

shelf_lay_g SlLaysW.n5 Slmc 5 at Try 36 as Try.lClone

end Go.Proofs
namespace Go.Proofs.Ytodcebpdmjdplaa
open Go.RowKit

theorem clone_any (m : Nat) (es : Array MapEntry) (clock : Nat) (w : World) (hm : w.heap[m]? = some (.map es clock)) :
    Calls Try.prog 36 #[.map (some m)] w fun e w' => e = .returned (.map (some w.heap.size)) ∧ w' = w.alloc (.map es clock) :=
  AnyW.maps_Clone Try.lClone m es clock w hm

end Go.Proofs.Ytodcebpdmjdplaa
