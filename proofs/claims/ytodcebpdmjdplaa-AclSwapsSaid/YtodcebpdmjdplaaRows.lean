/-
  No cell of these rows narrows 'for every input' (looked for: loops, veiled, ifaces, maps, wideKeys, modest, calm, conditions, laid).
  DERIVED. THE GIVEN ROWS OF THIS SEAT. 10 by the template 'for every input the law returns true; each argument reads behind the call as it read before'; 0 by the template 'total and deterministic' (their statements: YtodcebpdmjdplaaTotals.lean).
  GIVEN WITH THE SEED: the statements are not yours to turn. If you find one false, say at which input.
  Laid BY PROGRAM, IN A SANDBOX (cutbox-rows.mjs): the forced cells as the released guide's own fill.sh prints them over the translation be592fb1a97693be… (all of the seat's roots in one cut). By AI agents, Wed Nov 11 2026. No macro, syntax, notation, axiom, sorry.
-/
import Derived.Test.YtodcebpdmjdplaaChecked
import GoSem.Claim
import GoSem.ClaimJoined
import GoSem.ClaimMapViews
import Derived.JoinedTies
import Derived.KernelRfl
namespace Go.Proofs.Ytodcebpdmjdplaa
/- THE CELL 'sum', in the pinned program and in every row, IS THE sha256 OF THE DUMP (.gsa) THAT YtodcebpdmjdplaaProg.lean LOADS. Nothing in Lean hashes anything: it is a label: what it is worth is what the hold of that sum in a sandbox is worth. -/
noncomputable def Try.pinned : Pinned := { name := "ytodcebpdmjdplaa", sum := "be592fb1a97693bef28ff5516bec6c934b46135f1f1ddd3785682447bceff685", checked := Try.checked }
namespace Rows
def none {H : Type} : Left H := { results := [], args := [] }

/-- 'escritoirelaw09.AclTaken': WHATEVER THE INPUT: true; the input reads as it did. -/
def aclTakenSpec : ChangeSpec := { name := "aclTaken", fn := fun _ => fun
  | [d1, d2] => { results := [.lit (.bool true)], args := [d1, d2] }
  | _ => none }
def aclTakenRow : OpenClaim := { program := "ytodcebpdmjdplaa", sum := "be592fb1a97693bef28ff5516bec6c934b46135f1f1ddd3785682447bceff685", func := "escritoire/escritoirelaw09.AclTaken", spec := "aclTaken", unfollowed := true, recurses := true, plainKeys := false, apart := false }
def AclTakenSaid : Prop := aclTakenRow.holds Try.pinned (OpenSpec.ofChange aclTakenSpec)

/-- ITS FALSE NEIGHBOUR: 'it returns false'. Refute it at one input. -/
def aclTakenWrong : ChangeSpec := { name := "aclTaken", fn := fun _ => fun
  | [d1, d2] => { results := [.lit (.bool false)], args := [d1, d2] }
  | _ => none }
def AclTakenWrongFalsely : Prop := aclTakenRow.holds Try.pinned (OpenSpec.ofChange aclTakenWrong)

/-- 'escritoirelaw09.AclMembers': WHATEVER THE INPUT: true; the input reads as it did. -/
def aclMembersSpec : ChangeSpec := { name := "aclMembers", fn := fun _ => fun
  | [d1, d2] => { results := [.lit (.bool true)], args := [d1, d2] }
  | _ => none }
def aclMembersRow : OpenClaim := { program := "ytodcebpdmjdplaa", sum := "be592fb1a97693bef28ff5516bec6c934b46135f1f1ddd3785682447bceff685", func := "escritoire/escritoirelaw09.AclMembers", spec := "aclMembers", unfollowed := true, recurses := true, plainKeys := false, apart := false }
def AclMembersSaid : Prop := aclMembersRow.holds Try.pinned (OpenSpec.ofChange aclMembersSpec)

/-- ITS FALSE NEIGHBOUR: 'it returns false'. Refute it at one input. -/
def aclMembersWrong : ChangeSpec := { name := "aclMembers", fn := fun _ => fun
  | [d1, d2] => { results := [.lit (.bool false)], args := [d1, d2] }
  | _ => none }
def AclMembersWrongFalsely : Prop := aclMembersRow.holds Try.pinned (OpenSpec.ofChange aclMembersWrong)

/-- 'escritoirelaw09.AclLater': WHATEVER THE INPUT: true; the input reads as it did. -/
def aclLaterSpec : ChangeSpec := { name := "aclLater", fn := fun _ => fun
  | [d1, d2, d3] => { results := [.lit (.bool true)], args := [d1, d2, d3] }
  | _ => none }
def aclLaterRow : OpenClaim := { program := "ytodcebpdmjdplaa", sum := "be592fb1a97693bef28ff5516bec6c934b46135f1f1ddd3785682447bceff685", func := "escritoire/escritoirelaw09.AclLater", spec := "aclLater", unfollowed := true, recurses := true, plainKeys := false, apart := false }
def AclLaterSaid : Prop := aclLaterRow.holds Try.pinned (OpenSpec.ofChange aclLaterSpec)

/-- ITS FALSE NEIGHBOUR: 'it returns false'. Refute it at one input. -/
def aclLaterWrong : ChangeSpec := { name := "aclLater", fn := fun _ => fun
  | [d1, d2, d3] => { results := [.lit (.bool false)], args := [d1, d2, d3] }
  | _ => none }
def AclLaterWrongFalsely : Prop := aclLaterRow.holds Try.pinned (OpenSpec.ofChange aclLaterWrong)

/-- 'escritoirelaw09.AclBoth': WHATEVER THE INPUT: true; the input reads as it did. -/
def aclBothSpec : ChangeSpec := { name := "aclBoth", fn := fun _ => fun
  | [d1, d2] => { results := [.lit (.bool true)], args := [d1, d2] }
  | _ => none }
def aclBothRow : OpenClaim := { program := "ytodcebpdmjdplaa", sum := "be592fb1a97693bef28ff5516bec6c934b46135f1f1ddd3785682447bceff685", func := "escritoire/escritoirelaw09.AclBoth", spec := "aclBoth", unfollowed := true, recurses := true, plainKeys := false, apart := false }
def AclBothSaid : Prop := aclBothRow.holds Try.pinned (OpenSpec.ofChange aclBothSpec)

/-- ITS FALSE NEIGHBOUR: 'it returns false'. Refute it at one input. -/
def aclBothWrong : ChangeSpec := { name := "aclBoth", fn := fun _ => fun
  | [d1, d2] => { results := [.lit (.bool false)], args := [d1, d2] }
  | _ => none }
def AclBothWrongFalsely : Prop := aclBothRow.holds Try.pinned (OpenSpec.ofChange aclBothWrong)

/-- 'escritoirelaw09.AclNoAdmin': WHATEVER THE INPUT: true; the input reads as it did. -/
def aclNoAdminSpec : ChangeSpec := { name := "aclNoAdmin", fn := fun _ => fun
  | [d1, d2, d3] => { results := [.lit (.bool true)], args := [d1, d2, d3] }
  | _ => none }
def aclNoAdminRow : OpenClaim := { program := "ytodcebpdmjdplaa", sum := "be592fb1a97693bef28ff5516bec6c934b46135f1f1ddd3785682447bceff685", func := "escritoire/escritoirelaw09.AclNoAdmin", spec := "aclNoAdmin", unfollowed := true, recurses := true, plainKeys := false, apart := false }
def AclNoAdminSaid : Prop := aclNoAdminRow.holds Try.pinned (OpenSpec.ofChange aclNoAdminSpec)

/-- ITS FALSE NEIGHBOUR: 'it returns false'. Refute it at one input. -/
def aclNoAdminWrong : ChangeSpec := { name := "aclNoAdmin", fn := fun _ => fun
  | [d1, d2, d3] => { results := [.lit (.bool false)], args := [d1, d2, d3] }
  | _ => none }
def AclNoAdminWrongFalsely : Prop := aclNoAdminRow.holds Try.pinned (OpenSpec.ofChange aclNoAdminWrong)

/-- 'escritoirelaw09.AclPlays': WHATEVER THE INPUT: true; the input reads as it did. -/
def aclPlaysSpec : ChangeSpec := { name := "aclPlays", fn := fun _ => fun
  | [d1, d2] => { results := [.lit (.bool true)], args := [d1, d2] }
  | _ => none }
def aclPlaysRow : OpenClaim := { program := "ytodcebpdmjdplaa", sum := "be592fb1a97693bef28ff5516bec6c934b46135f1f1ddd3785682447bceff685", func := "escritoire/escritoirelaw09.AclPlays", spec := "aclPlays", unfollowed := true, recurses := true, plainKeys := false, apart := false }
def AclPlaysSaid : Prop := aclPlaysRow.holds Try.pinned (OpenSpec.ofChange aclPlaysSpec)

/-- ITS FALSE NEIGHBOUR: 'it returns false'. Refute it at one input. -/
def aclPlaysWrong : ChangeSpec := { name := "aclPlays", fn := fun _ => fun
  | [d1, d2] => { results := [.lit (.bool false)], args := [d1, d2] }
  | _ => none }
def AclPlaysWrongFalsely : Prop := aclPlaysRow.holds Try.pinned (OpenSpec.ofChange aclPlaysWrong)

/-- 'escritoirelaw09.AclFirst': WHATEVER THE INPUT: true; the input reads as it did. -/
def aclFirstSpec : ChangeSpec := { name := "aclFirst", fn := fun _ => fun
  | [d1, d2] => { results := [.lit (.bool true)], args := [d1, d2] }
  | _ => none }
def aclFirstRow : OpenClaim := { program := "ytodcebpdmjdplaa", sum := "be592fb1a97693bef28ff5516bec6c934b46135f1f1ddd3785682447bceff685", func := "escritoire/escritoirelaw09.AclFirst", spec := "aclFirst", unfollowed := true, recurses := true, plainKeys := false, apart := false }
def AclFirstSaid : Prop := aclFirstRow.holds Try.pinned (OpenSpec.ofChange aclFirstSpec)

/-- ITS FALSE NEIGHBOUR: 'it returns false'. Refute it at one input. -/
def aclFirstWrong : ChangeSpec := { name := "aclFirst", fn := fun _ => fun
  | [d1, d2] => { results := [.lit (.bool false)], args := [d1, d2] }
  | _ => none }
def AclFirstWrongFalsely : Prop := aclFirstRow.holds Try.pinned (OpenSpec.ofChange aclFirstWrong)

/-- 'escritoirelaw09.AclSwaps': WHATEVER THE INPUT: true; the input reads as it did. -/
def aclSwapsSpec : ChangeSpec := { name := "aclSwaps", fn := fun _ => fun
  | [d1, d2, d3] => { results := [.lit (.bool true)], args := [d1, d2, d3] }
  | _ => none }
def aclSwapsRow : OpenClaim := { program := "ytodcebpdmjdplaa", sum := "be592fb1a97693bef28ff5516bec6c934b46135f1f1ddd3785682447bceff685", func := "escritoire/escritoirelaw09.AclSwaps", spec := "aclSwaps", inPlace := ["maps.clone"], unfollowed := true, recurses := true, plainKeys := false, apart := false }
def AclSwapsSaid : Prop := aclSwapsRow.holds Try.pinned (OpenSpec.ofChange aclSwapsSpec)

/-- ITS FALSE NEIGHBOUR: 'it returns false'. Refute it at one input. -/
def aclSwapsWrong : ChangeSpec := { name := "aclSwaps", fn := fun _ => fun
  | [d1, d2, d3] => { results := [.lit (.bool false)], args := [d1, d2, d3] }
  | _ => none }
def AclSwapsWrongFalsely : Prop := aclSwapsRow.holds Try.pinned (OpenSpec.ofChange aclSwapsWrong)

/-- 'escritoirelaw09.AclForks': WHATEVER THE INPUT: true; the input reads as it did. -/
def aclForksSpec : ChangeSpec := { name := "aclForks", fn := fun _ => fun
  | [d1, d2, d3] => { results := [.lit (.bool true)], args := [d1, d2, d3] }
  | _ => none }
def aclForksRow : OpenClaim := { program := "ytodcebpdmjdplaa", sum := "be592fb1a97693bef28ff5516bec6c934b46135f1f1ddd3785682447bceff685", func := "escritoire/escritoirelaw09.AclForks", spec := "aclForks", inPlace := ["maps.clone"], unfollowed := true, recurses := true, plainKeys := false, apart := false }
def AclForksSaid : Prop := aclForksRow.holds Try.pinned (OpenSpec.ofChange aclForksSpec)

/-- ITS FALSE NEIGHBOUR: 'it returns false'. Refute it at one input. -/
def aclForksWrong : ChangeSpec := { name := "aclForks", fn := fun _ => fun
  | [d1, d2, d3] => { results := [.lit (.bool false)], args := [d1, d2, d3] }
  | _ => none }
def AclForksWrongFalsely : Prop := aclForksRow.holds Try.pinned (OpenSpec.ofChange aclForksWrong)

/-- 'escritoirelaw09.AclNone': WHATEVER THE INPUT: true; the input reads as it did. -/
def aclNoneSpec : ChangeSpec := { name := "aclNone", fn := fun _ => fun
  | [d1, d2, d3] => { results := [.lit (.bool true)], args := [d1, d2, d3] }
  | _ => none }
def aclNoneRow : OpenClaim := { program := "ytodcebpdmjdplaa", sum := "be592fb1a97693bef28ff5516bec6c934b46135f1f1ddd3785682447bceff685", func := "escritoire/escritoirelaw09.AclNone", spec := "aclNone", inPlace := ["maps.clone"], unfollowed := true, recurses := true, plainKeys := false, apart := false }
def AclNoneSaid : Prop := aclNoneRow.holds Try.pinned (OpenSpec.ofChange aclNoneSpec)

/-- ITS FALSE NEIGHBOUR: 'it returns false'. Refute it at one input. -/
def aclNoneWrong : ChangeSpec := { name := "aclNone", fn := fun _ => fun
  | [d1, d2, d3] => { results := [.lit (.bool false)], args := [d1, d2, d3] }
  | _ => none }
def AclNoneWrongFalsely : Prop := aclNoneRow.holds Try.pinned (OpenSpec.ofChange aclNoneWrong)

/- THE SECOND FORM. 'bulk': how many values and letters a reading holds, each counted each time it is reached (what is shared counts as often as it is met; a slice's spare places count too). A statement '..UptoSaid' is the law's where the arguments, and the package variables that the reading takes, are together of bulk at most 1048576: NARROWER than '..Said'. Prove '..Said' where nothing that the law and all that it calls make is longer than what came in: it says more and counts as full. Else prove '..UptoSaid'. A law counts once. -/
mutual
def uptoBulk {H : Type} : DataW H → Nat
  | .lit (.string bytes) => bytes.length + 1
  | .lit _ => 1
  | .nil => 1
  | .ptr d => uptoBulk d + 1
  | .slice elems spare => uptoBulkAll elems + uptoBulkAll spare + 1
  | .agg parts => uptoBulkAll parts + 1
  | .iface _ d => uptoBulk d + 1
  | .map entries => uptoBulkEntries entries + 1
  | .held _ => 1
def uptoBulkAll {H : Type} : List (DataW H) → Nat
  | [] => 0
  | d :: r => uptoBulk d + uptoBulkAll r
def uptoBulkEntries {H : Type} : List (Lit × DataW H) → Nat
  | [] => 0
  | x :: r => uptoBulkEntry x + uptoBulkEntries r
def uptoBulkEntry {H : Type} : Lit × DataW H → Nat
  | (.string bytes, d) => bytes.length + uptoBulk d + 1
  | (_, d) => uptoBulk d + 1
 end
def uptoSmall : (H : Type) → List (DataW H) → Bool := fun _ ds => decide (uptoBulkAll ds ≤ 1048576)
def OpenSpec.upto (s : _root_.Go.ChangeSpec) : _root_.Go.OpenSpec := { _root_.Go.OpenSpec.ofChange s with cond := some uptoSmall }

/-- 'escritoirelaw09.AclTaken', WHERE WHAT IT READS IS OF BULK AT MOST 1048576: true; the input reads as it did. -/
def aclTakenUptoRow : OpenClaim := { program := "ytodcebpdmjdplaa", sum := "be592fb1a97693bef28ff5516bec6c934b46135f1f1ddd3785682447bceff685", func := "escritoire/escritoirelaw09.AclTaken", spec := "aclTaken", unfollowed := true, recurses := true, plainKeys := false, apart := false, narrowed := true }
def AclTakenUptoSaid : Prop := aclTakenUptoRow.holds Try.pinned (OpenSpec.upto aclTakenSpec)

/-- 'escritoirelaw09.AclMembers', WHERE WHAT IT READS IS OF BULK AT MOST 1048576: true; the input reads as it did. -/
def aclMembersUptoRow : OpenClaim := { program := "ytodcebpdmjdplaa", sum := "be592fb1a97693bef28ff5516bec6c934b46135f1f1ddd3785682447bceff685", func := "escritoire/escritoirelaw09.AclMembers", spec := "aclMembers", unfollowed := true, recurses := true, plainKeys := false, apart := false, narrowed := true }
def AclMembersUptoSaid : Prop := aclMembersUptoRow.holds Try.pinned (OpenSpec.upto aclMembersSpec)

/-- 'escritoirelaw09.AclLater', WHERE WHAT IT READS IS OF BULK AT MOST 1048576: true; the input reads as it did. -/
def aclLaterUptoRow : OpenClaim := { program := "ytodcebpdmjdplaa", sum := "be592fb1a97693bef28ff5516bec6c934b46135f1f1ddd3785682447bceff685", func := "escritoire/escritoirelaw09.AclLater", spec := "aclLater", unfollowed := true, recurses := true, plainKeys := false, apart := false, narrowed := true }
def AclLaterUptoSaid : Prop := aclLaterUptoRow.holds Try.pinned (OpenSpec.upto aclLaterSpec)

/-- 'escritoirelaw09.AclBoth', WHERE WHAT IT READS IS OF BULK AT MOST 1048576: true; the input reads as it did. -/
def aclBothUptoRow : OpenClaim := { program := "ytodcebpdmjdplaa", sum := "be592fb1a97693bef28ff5516bec6c934b46135f1f1ddd3785682447bceff685", func := "escritoire/escritoirelaw09.AclBoth", spec := "aclBoth", unfollowed := true, recurses := true, plainKeys := false, apart := false, narrowed := true }
def AclBothUptoSaid : Prop := aclBothUptoRow.holds Try.pinned (OpenSpec.upto aclBothSpec)

/-- 'escritoirelaw09.AclNoAdmin', WHERE WHAT IT READS IS OF BULK AT MOST 1048576: true; the input reads as it did. -/
def aclNoAdminUptoRow : OpenClaim := { program := "ytodcebpdmjdplaa", sum := "be592fb1a97693bef28ff5516bec6c934b46135f1f1ddd3785682447bceff685", func := "escritoire/escritoirelaw09.AclNoAdmin", spec := "aclNoAdmin", unfollowed := true, recurses := true, plainKeys := false, apart := false, narrowed := true }
def AclNoAdminUptoSaid : Prop := aclNoAdminUptoRow.holds Try.pinned (OpenSpec.upto aclNoAdminSpec)

/-- 'escritoirelaw09.AclPlays', WHERE WHAT IT READS IS OF BULK AT MOST 1048576: true; the input reads as it did. -/
def aclPlaysUptoRow : OpenClaim := { program := "ytodcebpdmjdplaa", sum := "be592fb1a97693bef28ff5516bec6c934b46135f1f1ddd3785682447bceff685", func := "escritoire/escritoirelaw09.AclPlays", spec := "aclPlays", unfollowed := true, recurses := true, plainKeys := false, apart := false, narrowed := true }
def AclPlaysUptoSaid : Prop := aclPlaysUptoRow.holds Try.pinned (OpenSpec.upto aclPlaysSpec)

/-- 'escritoirelaw09.AclFirst', WHERE WHAT IT READS IS OF BULK AT MOST 1048576: true; the input reads as it did. -/
def aclFirstUptoRow : OpenClaim := { program := "ytodcebpdmjdplaa", sum := "be592fb1a97693bef28ff5516bec6c934b46135f1f1ddd3785682447bceff685", func := "escritoire/escritoirelaw09.AclFirst", spec := "aclFirst", unfollowed := true, recurses := true, plainKeys := false, apart := false, narrowed := true }
def AclFirstUptoSaid : Prop := aclFirstUptoRow.holds Try.pinned (OpenSpec.upto aclFirstSpec)

/-- 'escritoirelaw09.AclSwaps', WHERE WHAT IT READS IS OF BULK AT MOST 1048576: true; the input reads as it did. -/
def aclSwapsUptoRow : OpenClaim := { program := "ytodcebpdmjdplaa", sum := "be592fb1a97693bef28ff5516bec6c934b46135f1f1ddd3785682447bceff685", func := "escritoire/escritoirelaw09.AclSwaps", spec := "aclSwaps", inPlace := ["maps.clone"], unfollowed := true, recurses := true, plainKeys := false, apart := false, narrowed := true }
def AclSwapsUptoSaid : Prop := aclSwapsUptoRow.holds Try.pinned (OpenSpec.upto aclSwapsSpec)

/-- 'escritoirelaw09.AclForks', WHERE WHAT IT READS IS OF BULK AT MOST 1048576: true; the input reads as it did. -/
def aclForksUptoRow : OpenClaim := { program := "ytodcebpdmjdplaa", sum := "be592fb1a97693bef28ff5516bec6c934b46135f1f1ddd3785682447bceff685", func := "escritoire/escritoirelaw09.AclForks", spec := "aclForks", inPlace := ["maps.clone"], unfollowed := true, recurses := true, plainKeys := false, apart := false, narrowed := true }
def AclForksUptoSaid : Prop := aclForksUptoRow.holds Try.pinned (OpenSpec.upto aclForksSpec)

/-- 'escritoirelaw09.AclNone', WHERE WHAT IT READS IS OF BULK AT MOST 1048576: true; the input reads as it did. -/
def aclNoneUptoRow : OpenClaim := { program := "ytodcebpdmjdplaa", sum := "be592fb1a97693bef28ff5516bec6c934b46135f1f1ddd3785682447bceff685", func := "escritoire/escritoirelaw09.AclNone", spec := "aclNone", inPlace := ["maps.clone"], unfollowed := true, recurses := true, plainKeys := false, apart := false, narrowed := true }
def AclNoneUptoSaid : Prop := aclNoneUptoRow.holds Try.pinned (OpenSpec.upto aclNoneSpec)

end Rows
end Go.Proofs.Ytodcebpdmjdplaa
