/- A nil buffer: walked. -/
import Derived.Test.YtobonipmnidadaaJ27
namespace Go.Proofs.Ytobonipmnidadaa
open Go.RowKit
set_option maxRecDepth 8000

theorem put_nil (e : Ev) (r : Gh) (w : World) : Calls Try.prog 28 ([.r (.pointer none), e.av].map (AV.conc r)).toArray w fun x w' => x = .returned ((AV.tup [.one (.rig (.slice none 0 0)), .one (.rig (.int .i64 1))]).conc r) ∧ Below w.heap.size w w' := by
  refine fnPv_leaf (T := TO) hmx (D := []) (v := AV.tup [TV.one (CV.rig (Value.slice none (0 : Nat) (0 : Nat))), TV.one (CV.rig (Value.int IntKind.i64 (1 : Int)))]) (u := .tup [.one (.rig (.slice none 0 0)), .one (.rig (.int .i64 1))]) (ps := []) (by kernel_rfl) trivial ?_ r w
  all_goals (
    rfl)


theorem seen_nil (r : Gh) (w : World) : Calls Try.prog 29 ([.r (.pointer none)].map (AV.conc r)).toArray w fun x w' => x = .returned (vec0.av.conc r) ∧ Below w.heap.size w w' := by
  refine fnPv_leaf (T := TO) hmx (D := []) (v := AV.tv (TV.agg [CV.rig (Value.int IntKind.u32 (0 : Int)), CV.rig (Value.int IntKind.u32 (0 : Int)), CV.rig (Value.int IntKind.u32 (0 : Int)), CV.rig (Value.int IntKind.u32 (0 : Int)), CV.rig (Value.int IntKind.u32 (0 : Int)), CV.rig (Value.int IntKind.u32 (0 : Int)), CV.rig (Value.int IntKind.u32 (0 : Int)), CV.rig (Value.int IntKind.u32 (0 : Int))])) (u := vec0.av) (ps := []) (by kernel_rfl) trivial ?_ r w
  all_goals (
    rfl)


theorem waiting_nil (r : Gh) (w : World) : Calls Try.prog 30 ([.r (.pointer none)].map (AV.conc r)).toArray w fun x w' => x = .returned ((AV.r (.slice none 0 0)).conc r) ∧ Below w.heap.size w w' := by
  refine fnPv_leaf (T := TO) hmx (D := []) (v := AV.tv (TV.one (CV.rig (Value.slice none (0 : Nat) (0 : Nat))))) (u := .r (.slice none 0 0)) (ps := []) (by kernel_rfl) trivial ?_ r w
  all_goals (
    rfl)


theorem fork_nil (r : Gh) (w : World) : Calls Try.prog 32 ([.r (.pointer none)].map (AV.conc r)).toArray w fun x w' => x = .returned ((AV.r (.pointer none)).conc r) ∧ Below w.heap.size w w' := by
  refine fnPv_leaf (T := TO) hmx (D := []) (v := AV.tv (TV.one (CV.rig (Value.pointer none)))) (u := .r (.pointer none)) (ps := []) (by kernel_rfl) trivial ?_ r w
  all_goals (
    rfl)


def nilQ (u : AV) (args : List AV) (_ : AH) : Option (AV × List Nat × Option Prop) :=
  match args with
  | [.tv (.one (.rig (.pointer none)))] => some (u, [], none)
  | _ => none
theorem nilQ_args {u : AV} {args : List AV} {H : AH} {v : AV} {ft : List Nat} {pr : Option Prop} (h : nilQ u args H = some (v, ft, pr)) : args = [.r (.pointer none)] ∧ v = u := by
  unfold nilQ at h
  split at h
  · simp at h; exact ⟨rfl, h.1.symm⟩
  · cases h
def putNilQ (args : List AV) (_ : AH) : Option (AV × List Nat × Option Prop) :=
  match args with
  | [.tv (.one (.rig (.pointer none))), .tv (.agg l)] => match evOf l with
    | some _ => some (.tup [.one (.rig (.slice none 0 0)), .one (.rig (.int .i64 1))], [], none)
    | none => none
  | _ => none
theorem putNilQ_args {args : List AV} {H : AH} {v : AV} {ft : List Nat} {pr : Option Prop} (h : putNilQ args H = some (v, ft, pr)) : ∃ e : Ev, args = [.r (.pointer none), e.av] ∧ v = .tup [.one (.rig (.slice none 0 0)), .one (.rig (.int .i64 1))] := by
  unfold putNilQ at h
  split at h
  · split at h
    · rename_i e he
      simp at h
      rw [evOf_eq he]
      exact ⟨e, rfl, h.1.symm⟩
    · cases h
  · cases h

noncomputable def TQn : CT Try.prog :=
  (((TQ.orQ 28 putNilQ (by kernel_rfl) fun _ _ _ _ _ h _ r w _ => by
    obtain ⟨e, rfl, rfl⟩ := putNilQ_args h
    exact put_nil e r w).orQ 29 (nilQ vec0.av) (by kernel_rfl) fun _ _ _ _ _ h _ r w _ => by
    obtain ⟨rfl, rfl⟩ := nilQ_args h
    exact seen_nil r w).orQ 30 (nilQ (.r (.slice none 0 0))) (by kernel_rfl) fun _ _ _ _ _ h _ r w _ => by
    obtain ⟨rfl, rfl⟩ := nilQ_args h
    exact waiting_nil r w).orQ 32 (nilQ (.r (.pointer none))) (by kernel_rfl) fun _ _ _ _ _ h _ r w _ => by
    obtain ⟨rfl, rfl⟩ := nilQ_args h
    exact fork_nil r w

theorem none_law (e : Ev) : CtrQ Try.prog 11 [e.av] [] (.b true) := by
  refine ctrQ_true hmx TQn [] (AV.tv (TV.one (CV.rig (Value.bool (bif bif bif bif (↑(0 : Nat) : Int) == (0 : Int) then (1 : Int) == (1 : Int) else false then decide (vec0 = Vec.mk (0 : Int) (0 : Int) (0 : Int) (0 : Int) (0 : Int) (0 : Int) (0 : Int) (0 : Int)) else false then (↑(0 : Nat) : Int) == (0 : Int) else false then true else false))))) [] (by kernel_rfl) (by kernel_rfl) trivial (by kernel_rfl) ?_
  all_goals (
    first
    | trivial
    | rfl)


end Go.Proofs.Ytobonipmnidadaa
