/- The role of a member. -/
import Derived.Test.YtodcebpdmjdplaaC8
namespace Go.Proofs.Ytodcebpdmjdplaa
open Go.RowKit

/-- Numbers for three blocks more. -/
def ext3 (r r1 : Nat → Nat) (n : Nat) : Nat → Nat := fun j => if j < n then r j else r1 (j - n)
theorem ext3_old {r r1 : Nat → Nat} {n j : Nat} (h : j < n) : ext3 r r1 n j = r j := if_pos h
theorem ext3_new {r r1 : Nat → Nat} {n j : Nat} : ext3 r r1 n (n + j) = r1 j := by
  unfold ext3; rw [if_neg (by omega), Nat.add_sub_cancel_left]

def aboutE (args : List AV) (H : AH) : Option (AV × List (Nat × AO) × List AO × Option Prop) :=
  match args with
  | [.tv (.one (.ptr i 0)), .tv (.one (.rig (.int .u8 who))), .tv (.agg l)] => match vecOf l with
    | some v => cond (Nat.blt i H.length) (some (.c (.clo 40 [(H.length, 0), (H.length + 1, 0), (H.length + 2, 0)]), [], [.cells [.ptr i 0] 32, .cells [.rig (.int .u8 who)] 5, .cells v.cvs 27], none)) none
    | none => none
  | _ => none

theorem aboutE_ok {args : List AV} {H : AH} {v : AV} {upd : List (Nat × AO)} {new : List AO} {pr : Option Prop} (h : aboutE args H = some (v, upd, new, pr)) (r : Nat → Nat) (W0 w : World) (hst : St r H W0 w) :
    Calls Try.prog 29 (args.map (AV.conc r)).toArray w fun e w' => ∃ r', Agree H.length r r' ∧ e = .returned (v.conc r') ∧ Moves r r' H.length upd new w w' := by
  unfold aboutE at h
  split at h
  · rename_i i who l
    cases hv : vecOf l with
    | none => simp [hv] at h
    | some x =>
      cases hi : Nat.blt i H.length with
      | false => simp [hv, hi] at h
      | true =>
        simp only [hv, hi, cond_true, Option.some.injEq, Prod.mk.injEq] at h
        obtain ⟨rfl, rfl, rfl, -⟩ := h
        have hi' : i < H.length := by simpa using hi
        rw [vecOf_eq hv]
        have hrun : fnA Try.prog T0 29 [.r (.pointer (some ⟨r i, 0, none⟩)), .r (.int .u8 who), x.av] [] [] = some (.c (.clo 40 [(0, 0), (1, 0), (2, 0)]), [(.cells [.rig (.pointer (some ⟨r i, 0, none⟩))] 32, 1), (.cells [.rig (.int .u8 who)] 5, 1), (.cells x.cvs 27, 1)], []) := by kernel_rfl
        refine (fnA_calls hmx hrun trivial (St.empty id w)).mono ?_
        rintro e w' ⟨r1, -, rfl, hst1⟩
        have hb := hst1.below (by kernel_rfl)
        refine ⟨ext3 r r1 H.length, fun j hj => ext3_old hj, ?_, ⟨fun j o hj => by simp at hj, fun j o hj => ?_, fun j hj => ?_, fun j k hj hk e => ?_, hst1.os, hst1.tape, hst1.output, hst1.size, fun b hb' _ => hb.block b hb'⟩⟩
        · have h0 := @ext3_new r r1 H.length 0
          have h1 := @ext3_new r r1 H.length 1
          have h2 := @ext3_new r r1 H.length 2
          simp [AV.conc, TV.conc, CV.conc, h1, h2]
          simpa using h0.symm
        · rw [ext3_new]
          match j, hj with
          | 0, hj =>
            cases hj
            rw [hst1.at_ 0 _ rfl]
            simp [AO.conc, CV.conc, ext3_old hi']
          | 1, hj => cases hj; exact hst1.at_ 1 _ rfl
          | 2, hj => cases hj; exact hst1.at_ 2 _ rfl
          | j + 3, hj => simp at hj
        · rw [ext3_new]
          match j, hj with
          | 0, _ => exact hst1.own 0 _ rfl rfl
          | 1, _ => exact hst1.own 1 _ rfl rfl
          | 2, _ => exact hst1.own 2 _ rfl rfl
          | j + 3, hj => simp at hj; omega
        · rw [ext3_new, ext3_new] at e
          exact hst1.inj j k (by simpa using hj) (by simpa using hk) e
  · simp at h

noncomputable def T4 : CT Try.prog := T3.addE 29 aboutE (by kernel_rfl) fun _ _ _ _ _ _ h _ r W0 w hst => aboutE_ok h r W0 w hst

end Go.Proofs.Ytodcebpdmjdplaa
