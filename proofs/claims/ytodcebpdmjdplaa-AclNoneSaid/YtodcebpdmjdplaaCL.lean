/- A nil book's functions as callees; AclNone's walk follows. -/
import Derived.Test.YtodcebpdmjdplaaCK
namespace Go.Proofs.Ytodcebpdmjdplaa
open Go.RowKit

theorem members_nil (v : Vec) (r : Nat → Nat) (w : World) : Calls Try.prog 19 (([.r (.pointer none), v.av].map (AV.conc r)).toArray) w fun x w' => x = .returned ((AV.tv (.agg zeroVec.cv8)).conc r) ∧ Below w.heap.size w w' :=
  (fnA_keep hmx T9n (f := 19) (args := [.r (.pointer none), v.av]) (H := []) [.u 20] (.tv (.agg zeroVec.cv8))
    [(0 : Int) ≤ 0 ∧ (0 : Int) < 8, (0 : Int) ≤ 1 ∧ (1 : Int) < 8, (0 : Int) ≤ 2 ∧ (2 : Int) < 8, (0 : Int) ≤ 3 ∧ (3 : Int) < 8, (0 : Int) ≤ 4 ∧ (4 : Int) < 8, (0 : Int) ≤ 5 ∧ (5 : Int) < 8, (0 : Int) ≤ 6 ∧ (6 : Int) < 8, (0 : Int) ≤ 7 ∧ (7 : Int) < 8]
    [] (by kernel_rfl) (by kernel_rfl) ⟨by decide, by decide, by decide, by decide, by decide, by decide, by decide, by decide, trivial⟩ (by kernel_rfl) (by kernel_rfl) (by kernel_rfl) (by kernel_rfl) (St.empty r w)).mono fun x w' hx => ⟨hx.1, hx.2.below (by kernel_rfl)⟩

def addNilQ (args : List AV) (_ : AH) : Option (AV × List Nat × Option Prop) :=
  match args with
  | [.tv (.one (.rig (.pointer none))), .tv (.agg l)] => match evOf l with
    | some _ => some (.r (.int .i64 1), [], none)
    | none => none
  | _ => none

theorem addNilQ_ok {args : List AV} {H : AH} {v : AV} {ft : List Nat} {pr : Option Prop} (h : addNilQ args H = some (v, ft, pr)) (r : Nat → Nat) (w : World) :
    Calls Try.prog 15 (args.map (AV.conc r)).toArray w fun e w' => e = .returned (v.conc r) ∧ Below w.heap.size w w' := by
  unfold addNilQ at h
  split at h
  · rename_i l
    split at h
    · rename_i x hx
      simp at h; obtain ⟨rfl, -⟩ := h
      rw [evOf_eq hx]
      exact fnP_calls (T := T9) (args := [.r (.pointer none), x.av]) (D := []) (v := .int .i64 1) (ps := []) hmx (by kernel_rfl) trivial r w
    · simp at h
  · simp at h

def countsNilQ (args : List AV) (_ : AH) : Option (AV × List Nat × Option Prop) :=
  match args with
  | [.tv (.one (.rig (.pointer none))), .tv (.agg l)] => match dotOf l with
    | some _ => some (.b false, [], none)
    | none => none
  | _ => none

theorem countsNilQ_ok {args : List AV} {H : AH} {v : AV} {ft : List Nat} {pr : Option Prop} (h : countsNilQ args H = some (v, ft, pr)) (r : Nat → Nat) (w : World) :
    Calls Try.prog 16 (args.map (AV.conc r)).toArray w fun e w' => e = .returned (v.conc r) ∧ Below w.heap.size w w' := by
  unfold countsNilQ at h
  split at h
  · rename_i l
    split at h
    · rename_i x hx
      simp at h; obtain ⟨rfl, -⟩ := h
      rw [dotOf_eq hx]
      exact fnP_calls (T := T9) (args := [.r (.pointer none), x.av]) (D := []) (v := .bool false) (ps := []) hmx (by kernel_rfl) trivial r w
    · simp at h
  · simp at h

def membersNilQ (args : List AV) (_ : AH) : Option (AV × List Nat × Option Prop) :=
  match args with
  | [.tv (.one (.rig (.pointer none))), .tv (.agg l)] => match vecOf l with
    | some _ => some (.tv (.agg zeroVec.cv8), [], none)
    | none => none
  | _ => none

theorem membersNilQ_ok {args : List AV} {H : AH} {v : AV} {ft : List Nat} {pr : Option Prop} (h : membersNilQ args H = some (v, ft, pr)) (r : Nat → Nat) (w : World) :
    Calls Try.prog 19 (args.map (AV.conc r)).toArray w fun e w' => e = .returned (v.conc r) ∧ Below w.heap.size w w' := by
  unfold membersNilQ at h
  split at h
  · rename_i l
    split at h
    · rename_i x hx
      simp at h; obtain ⟨rfl, -⟩ := h
      rw [vecOf_eq hx]
      exact members_nil x r w
    · simp at h
  · simp at h

def lenNilQ (args : List AV) (_ : AH) : Option (AV × List Nat × Option Prop) :=
  match args with
  | [.tv (.one (.rig (.pointer none)))] => some (.r (.int .i64 0), [], none)
  | _ => none

theorem lenNilQ_ok {args : List AV} {H : AH} {v : AV} {ft : List Nat} {pr : Option Prop} (h : lenNilQ args H = some (v, ft, pr)) (r : Nat → Nat) (w : World) :
    Calls Try.prog 23 (args.map (AV.conc r)).toArray w fun e w' => e = .returned (v.conc r) ∧ Below w.heap.size w w' := by
  unfold lenNilQ at h
  split at h
  · simp at h; obtain ⟨rfl, -⟩ := h
    exact fnP_calls (T := T9) (args := [.r (.pointer none)]) (D := []) (v := .int .i64 0) (ps := []) hmx (by kernel_rfl) trivial r w
  · simp at h

def forkNilQ (args : List AV) (_ : AH) : Option (AV × List Nat × Option Prop) :=
  match args with
  | [.tv (.one (.rig (.pointer none)))] => some (.r (.pointer none), [], none)
  | _ => none

theorem forkNilQ_ok {args : List AV} {H : AH} {v : AV} {ft : List Nat} {pr : Option Prop} (h : forkNilQ args H = some (v, ft, pr)) (r : Nat → Nat) (w : World) :
    Calls Try.prog 25 (args.map (AV.conc r)).toArray w fun e w' => e = .returned (v.conc r) ∧ Below w.heap.size w w' := by
  unfold forkNilQ at h
  split at h
  · simp at h; obtain ⟨rfl, -⟩ := h
    exact fnP_calls (T := T9) (args := [.r (.pointer none)]) (D := []) (v := .pointer none) (ps := []) hmx (by kernel_rfl) trivial r w
  · simp at h

noncomputable def TA : CT Try.prog :=
  (((((T9).orQ 15 addNilQ (by kernel_rfl) fun _ _ _ _ _ h _ r w _ => addNilQ_ok h r w).orQ 16 countsNilQ (by kernel_rfl) fun _ _ _ _ _ h _ r w _ => countsNilQ_ok h r w).orQ 19 membersNilQ (by kernel_rfl) fun _ _ _ _ _ h _ r w _ => membersNilQ_ok h r w).orQ 23 lenNilQ (by kernel_rfl) fun _ _ _ _ _ h _ r w _ => lenNilQ_ok h r w).orQ 25 forkNilQ (by kernel_rfl) fun _ _ _ _ _ h _ r w _ => forkNilQ_ok h r w

end Go.Proofs.Ytodcebpdmjdplaa
