/-
  No cell of these rows narrows 'for every input' (looked for: loops, veiled, ifaces, maps, wideKeys, modest, calm, conditions, laid).
  DERIVED. THE GIVEN ROWS OF THIS SEAT. 9 by the template 'for every input the law returns true; each argument reads behind the call as it read before'; 0 by the template 'total and deterministic' (their statements: YtobonipmnidadaaTotals.lean).
  GIVEN WITH THE SEED: the statements are not yours to turn. If you find one false, say at which input.
  Laid BY PROGRAM, IN A SANDBOX (cutbox-rows.mjs): the forced cells as the released guide's own fill.sh prints them over the translation ef47316b67951182… (all of the seat's roots in one cut). By AI agents, Wed Nov 11 2026. No macro, syntax, notation, axiom, sorry.
-/
import Derived.Test.YtobonipmnidadaaChecked
import GoSem.Claim
import GoSem.ClaimJoined
import GoSem.ClaimMapViews
import Derived.JoinedTies
import Derived.KernelRfl
namespace Go.Proofs.Ytobonipmnidadaa
/- THE CELL 'sum', in the pinned program and in every row, IS THE sha256 OF THE DUMP (.gsa) THAT YtobonipmnidadaaProg.lean LOADS. Nothing in Lean hashes anything: it is a label: what it is worth is what the hold of that sum in a sandbox is worth. -/
noncomputable def Try.pinned : Pinned := { name := "ytobonipmnidadaa", sum := "ef47316b67951182ae05168b083416dc2f3ae88b6e83f084441aa1cc29b558ca", checked := Try.checked }
namespace Rows
def none {H : Type} : Left H := { results := [], args := [] }

/-- 'escritoirelaw07.CausalVectors': WHATEVER THE INPUT: true; the input reads as it did. -/
def causalVectorsSpec : ChangeSpec := { name := "causalVectors", fn := fun _ => fun
  | [d1, d2, d3] => { results := [.lit (.bool true)], args := [d1, d2, d3] }
  | _ => none }
def causalVectorsRow : OpenClaim := { program := "ytobonipmnidadaa", sum := "ef47316b67951182ae05168b083416dc2f3ae88b6e83f084441aa1cc29b558ca", func := "escritoire/escritoirelaw07.CausalVectors", spec := "causalVectors", unfollowed := true, recurses := true, plainKeys := false, apart := false }
def CausalVectorsSaid : Prop := causalVectorsRow.holds Try.pinned (OpenSpec.ofChange causalVectorsSpec)

/-- ITS FALSE NEIGHBOUR: 'it returns false'. Refute it at one input. -/
def causalVectorsWrong : ChangeSpec := { name := "causalVectors", fn := fun _ => fun
  | [d1, d2, d3] => { results := [.lit (.bool false)], args := [d1, d2, d3] }
  | _ => none }
def CausalVectorsWrongFalsely : Prop := causalVectorsRow.holds Try.pinned (OpenSpec.ofChange causalVectorsWrong)

/-- 'escritoirelaw07.CausalJoins': WHATEVER THE INPUT: true; the input reads as it did. -/
def causalJoinsSpec : ChangeSpec := { name := "causalJoins", fn := fun _ => fun
  | [d1, d2] => { results := [.lit (.bool true)], args := [d1, d2] }
  | _ => none }
def causalJoinsRow : OpenClaim := { program := "ytobonipmnidadaa", sum := "ef47316b67951182ae05168b083416dc2f3ae88b6e83f084441aa1cc29b558ca", func := "escritoire/escritoirelaw07.CausalJoins", spec := "causalJoins", unfollowed := true, recurses := true, plainKeys := false, apart := false }
def CausalJoinsSaid : Prop := causalJoinsRow.holds Try.pinned (OpenSpec.ofChange causalJoinsSpec)

/-- ITS FALSE NEIGHBOUR: 'it returns false'. Refute it at one input. -/
def causalJoinsWrong : ChangeSpec := { name := "causalJoins", fn := fun _ => fun
  | [d1, d2] => { results := [.lit (.bool false)], args := [d1, d2] }
  | _ => none }
def CausalJoinsWrongFalsely : Prop := causalJoinsRow.holds Try.pinned (OpenSpec.ofChange causalJoinsWrong)

/-- 'escritoirelaw07.CausalRight': WHATEVER THE INPUT: true; the input reads as it did. -/
def causalRightSpec : ChangeSpec := { name := "causalRight", fn := fun _ => fun
  | [d1, d2, d3] => { results := [.lit (.bool true)], args := [d1, d2, d3] }
  | _ => none }
def causalRightRow : OpenClaim := { program := "ytobonipmnidadaa", sum := "ef47316b67951182ae05168b083416dc2f3ae88b6e83f084441aa1cc29b558ca", func := "escritoire/escritoirelaw07.CausalRight", spec := "causalRight", unfollowed := true, recurses := true, plainKeys := false, apart := false }
def CausalRightSaid : Prop := causalRightRow.holds Try.pinned (OpenSpec.ofChange causalRightSpec)

/-- ITS FALSE NEIGHBOUR: 'it returns false'. Refute it at one input. -/
def causalRightWrong : ChangeSpec := { name := "causalRight", fn := fun _ => fun
  | [d1, d2, d3] => { results := [.lit (.bool false)], args := [d1, d2, d3] }
  | _ => none }
def CausalRightWrongFalsely : Prop := causalRightRow.holds Try.pinned (OpenSpec.ofChange causalRightWrong)

/-- 'escritoirelaw07.CausalPlays': WHATEVER THE INPUT: true; the input reads as it did. -/
def causalPlaysSpec : ChangeSpec := { name := "causalPlays", fn := fun _ => fun
  | [d] => { results := [.lit (.bool true)], args := [d] }
  | _ => none }
def causalPlaysRow : OpenClaim := { program := "ytobonipmnidadaa", sum := "ef47316b67951182ae05168b083416dc2f3ae88b6e83f084441aa1cc29b558ca", func := "escritoire/escritoirelaw07.CausalPlays", spec := "causalPlays", unfollowed := true, recurses := true, plainKeys := false, apart := false }
def CausalPlaysSaid : Prop := causalPlaysRow.holds Try.pinned (OpenSpec.ofChange causalPlaysSpec)

/-- ITS FALSE NEIGHBOUR: 'it returns false'. Refute it at one input. -/
def causalPlaysWrong : ChangeSpec := { name := "causalPlays", fn := fun _ => fun
  | [d] => { results := [.lit (.bool false)], args := [d] }
  | _ => none }
def CausalPlaysWrongFalsely : Prop := causalPlaysRow.holds Try.pinned (OpenSpec.ofChange causalPlaysWrong)

/-- 'escritoirelaw07.CausalOrder': WHATEVER THE INPUT: true; the input reads as it did. -/
def causalOrderSpec : ChangeSpec := { name := "causalOrder", fn := fun _ => fun
  | [d] => { results := [.lit (.bool true)], args := [d] }
  | _ => none }
def causalOrderRow : OpenClaim := { program := "ytobonipmnidadaa", sum := "ef47316b67951182ae05168b083416dc2f3ae88b6e83f084441aa1cc29b558ca", func := "escritoire/escritoirelaw07.CausalOrder", spec := "causalOrder", unfollowed := true, recurses := true, plainKeys := false, apart := false }
def CausalOrderSaid : Prop := causalOrderRow.holds Try.pinned (OpenSpec.ofChange causalOrderSpec)

/-- ITS FALSE NEIGHBOUR: 'it returns false'. Refute it at one input. -/
def causalOrderWrong : ChangeSpec := { name := "causalOrder", fn := fun _ => fun
  | [d] => { results := [.lit (.bool false)], args := [d] }
  | _ => none }
def CausalOrderWrongFalsely : Prop := causalOrderRow.holds Try.pinned (OpenSpec.ofChange causalOrderWrong)

/-- 'escritoirelaw07.CausalAny': WHATEVER THE INPUT: true; the input reads as it did. -/
def causalAnySpec : ChangeSpec := { name := "causalAny", fn := fun _ => fun
  | [d] => { results := [.lit (.bool true)], args := [d] }
  | _ => none }
def causalAnyRow : OpenClaim := { program := "ytobonipmnidadaa", sum := "ef47316b67951182ae05168b083416dc2f3ae88b6e83f084441aa1cc29b558ca", func := "escritoire/escritoirelaw07.CausalAny", spec := "causalAny", unfollowed := true, recurses := true, plainKeys := false, apart := false }
def CausalAnySaid : Prop := causalAnyRow.holds Try.pinned (OpenSpec.ofChange causalAnySpec)

/-- ITS FALSE NEIGHBOUR: 'it returns false'. Refute it at one input. -/
def causalAnyWrong : ChangeSpec := { name := "causalAny", fn := fun _ => fun
  | [d] => { results := [.lit (.bool false)], args := [d] }
  | _ => none }
def CausalAnyWrongFalsely : Prop := causalAnyRow.holds Try.pinned (OpenSpec.ofChange causalAnyWrong)

/-- 'escritoirelaw07.CausalAgain': WHATEVER THE INPUT: true; the input reads as it did. -/
def causalAgainSpec : ChangeSpec := { name := "causalAgain", fn := fun _ => fun
  | [d] => { results := [.lit (.bool true)], args := [d] }
  | _ => none }
def causalAgainRow : OpenClaim := { program := "ytobonipmnidadaa", sum := "ef47316b67951182ae05168b083416dc2f3ae88b6e83f084441aa1cc29b558ca", func := "escritoire/escritoirelaw07.CausalAgain", spec := "causalAgain", unfollowed := true, recurses := true, plainKeys := false, apart := false }
def CausalAgainSaid : Prop := causalAgainRow.holds Try.pinned (OpenSpec.ofChange causalAgainSpec)

/-- ITS FALSE NEIGHBOUR: 'it returns false'. Refute it at one input. -/
def causalAgainWrong : ChangeSpec := { name := "causalAgain", fn := fun _ => fun
  | [d] => { results := [.lit (.bool false)], args := [d] }
  | _ => none }
def CausalAgainWrongFalsely : Prop := causalAgainRow.holds Try.pinned (OpenSpec.ofChange causalAgainWrong)

/-- 'escritoirelaw07.CausalForks': WHATEVER THE INPUT: true; the input reads as it did. -/
def causalForksSpec : ChangeSpec := { name := "causalForks", fn := fun _ => fun
  | [d1, d2] => { results := [.lit (.bool true)], args := [d1, d2] }
  | _ => none }
def causalForksRow : OpenClaim := { program := "ytobonipmnidadaa", sum := "ef47316b67951182ae05168b083416dc2f3ae88b6e83f084441aa1cc29b558ca", func := "escritoire/escritoirelaw07.CausalForks", spec := "causalForks", inPlace := ["maps.clone"], unfollowed := true, recurses := true, plainKeys := false, apart := false }
def CausalForksSaid : Prop := causalForksRow.holds Try.pinned (OpenSpec.ofChange causalForksSpec)

/-- ITS FALSE NEIGHBOUR: 'it returns false'. Refute it at one input. -/
def causalForksWrong : ChangeSpec := { name := "causalForks", fn := fun _ => fun
  | [d1, d2] => { results := [.lit (.bool false)], args := [d1, d2] }
  | _ => none }
def CausalForksWrongFalsely : Prop := causalForksRow.holds Try.pinned (OpenSpec.ofChange causalForksWrong)

/-- 'escritoirelaw07.CausalNone': WHATEVER THE INPUT: true; the input reads as it did. -/
def causalNoneSpec : ChangeSpec := { name := "causalNone", fn := fun _ => fun
  | [d] => { results := [.lit (.bool true)], args := [d] }
  | _ => none }
def causalNoneRow : OpenClaim := { program := "ytobonipmnidadaa", sum := "ef47316b67951182ae05168b083416dc2f3ae88b6e83f084441aa1cc29b558ca", func := "escritoire/escritoirelaw07.CausalNone", spec := "causalNone", inPlace := ["maps.clone"], unfollowed := true, recurses := true, plainKeys := false, apart := false }
def CausalNoneSaid : Prop := causalNoneRow.holds Try.pinned (OpenSpec.ofChange causalNoneSpec)

/-- ITS FALSE NEIGHBOUR: 'it returns false'. Refute it at one input. -/
def causalNoneWrong : ChangeSpec := { name := "causalNone", fn := fun _ => fun
  | [d] => { results := [.lit (.bool false)], args := [d] }
  | _ => none }
def CausalNoneWrongFalsely : Prop := causalNoneRow.holds Try.pinned (OpenSpec.ofChange causalNoneWrong)

/- THE SECOND FORM. 'bulk': how many values and letters a reading holds, each counted each time it is reached (what is shared counts as often as it is met; a slice's spare places count too). A statement '..UptoSaid' is the law's where the arguments, and the package variables that the reading takes, are together of bulk at most 1048576: NARROWER than '..Said'. Prove '..Said' where nothing that the law and all that it calls make is longer than what came in: it says more and counts as full. Else prove '..UptoSaid'. A law counts once. -/
mutual
def uptoBulk {H : Type} : DataW H → Nat
  | .lit (.string bytes) => bytes.length + 1
  | .lit _ => 1
  | .nil => 1
  | .ptr d => uptoBulk d + 1
  | .slice elems spare => uptoBulkAll elems + uptoBulkAll spare + 1
  | .agg parts => uptoBulkAll parts + 1
  | .iface _ d => uptoBulk d + 1
  | .map entries => uptoBulkEntries entries + 1
  | .held _ => 1
def uptoBulkAll {H : Type} : List (DataW H) → Nat
  | [] => 0
  | d :: r => uptoBulk d + uptoBulkAll r
def uptoBulkEntries {H : Type} : List (Lit × DataW H) → Nat
  | [] => 0
  | x :: r => uptoBulkEntry x + uptoBulkEntries r
def uptoBulkEntry {H : Type} : Lit × DataW H → Nat
  | (.string bytes, d) => bytes.length + uptoBulk d + 1
  | (_, d) => uptoBulk d + 1
 end
def uptoSmall : (H : Type) → List (DataW H) → Bool := fun _ ds => decide (uptoBulkAll ds ≤ 1048576)
def OpenSpec.upto (s : _root_.Go.ChangeSpec) : _root_.Go.OpenSpec := { _root_.Go.OpenSpec.ofChange s with cond := some uptoSmall }

/-- 'escritoirelaw07.CausalVectors', WHERE WHAT IT READS IS OF BULK AT MOST 1048576: true; the input reads as it did. -/
def causalVectorsUptoRow : OpenClaim := { program := "ytobonipmnidadaa", sum := "ef47316b67951182ae05168b083416dc2f3ae88b6e83f084441aa1cc29b558ca", func := "escritoire/escritoirelaw07.CausalVectors", spec := "causalVectors", unfollowed := true, recurses := true, plainKeys := false, apart := false, narrowed := true }
def CausalVectorsUptoSaid : Prop := causalVectorsUptoRow.holds Try.pinned (OpenSpec.upto causalVectorsSpec)

/-- 'escritoirelaw07.CausalJoins', WHERE WHAT IT READS IS OF BULK AT MOST 1048576: true; the input reads as it did. -/
def causalJoinsUptoRow : OpenClaim := { program := "ytobonipmnidadaa", sum := "ef47316b67951182ae05168b083416dc2f3ae88b6e83f084441aa1cc29b558ca", func := "escritoire/escritoirelaw07.CausalJoins", spec := "causalJoins", unfollowed := true, recurses := true, plainKeys := false, apart := false, narrowed := true }
def CausalJoinsUptoSaid : Prop := causalJoinsUptoRow.holds Try.pinned (OpenSpec.upto causalJoinsSpec)

/-- 'escritoirelaw07.CausalRight', WHERE WHAT IT READS IS OF BULK AT MOST 1048576: true; the input reads as it did. -/
def causalRightUptoRow : OpenClaim := { program := "ytobonipmnidadaa", sum := "ef47316b67951182ae05168b083416dc2f3ae88b6e83f084441aa1cc29b558ca", func := "escritoire/escritoirelaw07.CausalRight", spec := "causalRight", unfollowed := true, recurses := true, plainKeys := false, apart := false, narrowed := true }
def CausalRightUptoSaid : Prop := causalRightUptoRow.holds Try.pinned (OpenSpec.upto causalRightSpec)

/-- 'escritoirelaw07.CausalPlays', WHERE WHAT IT READS IS OF BULK AT MOST 1048576: true; the input reads as it did. -/
def causalPlaysUptoRow : OpenClaim := { program := "ytobonipmnidadaa", sum := "ef47316b67951182ae05168b083416dc2f3ae88b6e83f084441aa1cc29b558ca", func := "escritoire/escritoirelaw07.CausalPlays", spec := "causalPlays", unfollowed := true, recurses := true, plainKeys := false, apart := false, narrowed := true }
def CausalPlaysUptoSaid : Prop := causalPlaysUptoRow.holds Try.pinned (OpenSpec.upto causalPlaysSpec)

/-- 'escritoirelaw07.CausalOrder', WHERE WHAT IT READS IS OF BULK AT MOST 1048576: true; the input reads as it did. -/
def causalOrderUptoRow : OpenClaim := { program := "ytobonipmnidadaa", sum := "ef47316b67951182ae05168b083416dc2f3ae88b6e83f084441aa1cc29b558ca", func := "escritoire/escritoirelaw07.CausalOrder", spec := "causalOrder", unfollowed := true, recurses := true, plainKeys := false, apart := false, narrowed := true }
def CausalOrderUptoSaid : Prop := causalOrderUptoRow.holds Try.pinned (OpenSpec.upto causalOrderSpec)

/-- 'escritoirelaw07.CausalAny', WHERE WHAT IT READS IS OF BULK AT MOST 1048576: true; the input reads as it did. -/
def causalAnyUptoRow : OpenClaim := { program := "ytobonipmnidadaa", sum := "ef47316b67951182ae05168b083416dc2f3ae88b6e83f084441aa1cc29b558ca", func := "escritoire/escritoirelaw07.CausalAny", spec := "causalAny", unfollowed := true, recurses := true, plainKeys := false, apart := false, narrowed := true }
def CausalAnyUptoSaid : Prop := causalAnyUptoRow.holds Try.pinned (OpenSpec.upto causalAnySpec)

/-- 'escritoirelaw07.CausalAgain', WHERE WHAT IT READS IS OF BULK AT MOST 1048576: true; the input reads as it did. -/
def causalAgainUptoRow : OpenClaim := { program := "ytobonipmnidadaa", sum := "ef47316b67951182ae05168b083416dc2f3ae88b6e83f084441aa1cc29b558ca", func := "escritoire/escritoirelaw07.CausalAgain", spec := "causalAgain", unfollowed := true, recurses := true, plainKeys := false, apart := false, narrowed := true }
def CausalAgainUptoSaid : Prop := causalAgainUptoRow.holds Try.pinned (OpenSpec.upto causalAgainSpec)

/-- 'escritoirelaw07.CausalForks', WHERE WHAT IT READS IS OF BULK AT MOST 1048576: true; the input reads as it did. -/
def causalForksUptoRow : OpenClaim := { program := "ytobonipmnidadaa", sum := "ef47316b67951182ae05168b083416dc2f3ae88b6e83f084441aa1cc29b558ca", func := "escritoire/escritoirelaw07.CausalForks", spec := "causalForks", inPlace := ["maps.clone"], unfollowed := true, recurses := true, plainKeys := false, apart := false, narrowed := true }
def CausalForksUptoSaid : Prop := causalForksUptoRow.holds Try.pinned (OpenSpec.upto causalForksSpec)

/-- 'escritoirelaw07.CausalNone', WHERE WHAT IT READS IS OF BULK AT MOST 1048576: true; the input reads as it did. -/
def causalNoneUptoRow : OpenClaim := { program := "ytobonipmnidadaa", sum := "ef47316b67951182ae05168b083416dc2f3ae88b6e83f084441aa1cc29b558ca", func := "escritoire/escritoirelaw07.CausalNone", spec := "causalNone", inPlace := ["maps.clone"], unfollowed := true, recurses := true, plainKeys := false, apart := false, narrowed := true }
def CausalNoneUptoSaid : Prop := causalNoneUptoRow.holds Try.pinned (OpenSpec.upto causalNoneSpec)

end Rows
end Go.Proofs.Ytobonipmnidadaa
