/- What either saw; what was seen by; what is ready. -/
import Derived.Test.YtobonipmnidadaaJ12
import Derived.Test.YtobonipmnidadaaJ10
namespace Go.Proofs.Ytobonipmnidadaa
open Go.RowKit

def joinV (a b : Vec) : Vec := ⟨max a.x0 b.x0, max a.x1 b.x1, max a.x2 b.x2, max a.x3 b.x3, max a.x4 b.x4, max a.x5 b.x5, max a.x6 b.x6, max a.x7 b.x7⟩
def withinB (a b : Vec) : Bool := decide (joinV a b = b)

noncomputable def TJ : CT Try.prog := T2.addI

theorem join_run (a b : Vec) (r : Gh) (w : World) :
    Calls Try.prog 17 ([a.av, b.av].map (AV.conc r)).toArray w fun e w' => e = .returned (joinV a b).v ∧ Below w.heap.size w w' := by
  refine fnPv_leaf (T := TJ) hmx (D := [Dec.u (20 : Nat)]) (v := AV.tv (TV.agg [CV.rig (Value.int IntKind.u32 (max a.x0 b.x0)), CV.rig (Value.int IntKind.u32 (max a.x1 b.x1)), CV.rig (Value.int IntKind.u32 (max a.x2 b.x2)), CV.rig (Value.int IntKind.u32 (max a.x3 b.x3)), CV.rig (Value.int IntKind.u32 (max a.x4 b.x4)), CV.rig (Value.int IntKind.u32 (max a.x5 b.x5)), CV.rig (Value.int IntKind.u32 (max a.x6 b.x6)), CV.rig (Value.int IntKind.u32 (max a.x7 b.x7))])) (u := (joinV a b).av) (ps := [(0 : Int) ≤ (0 : Int) ∧ (0 : Int) < (↑(8 : Nat) : Int), (0 : Int) ≤ (0 : Int) ∧ (0 : Int) < (↑(8 : Nat) : Int), (0 : Int) ≤ (0 : Int) ∧ (0 : Int) < (↑(8 : Nat) : Int), (0 : Int) ≤ IntKind.i64.wrap ((0 : Int) + (1 : Int)) ∧ IntKind.i64.wrap ((0 : Int) + (1 : Int)) < (↑(8 : Nat) : Int), (0 : Int) ≤ IntKind.i64.wrap ((0 : Int) + (1 : Int)) ∧ IntKind.i64.wrap ((0 : Int) + (1 : Int)) < (↑(8 : Nat) : Int), (0 : Int) ≤ IntKind.i64.wrap ((0 : Int) + (1 : Int)) ∧ IntKind.i64.wrap ((0 : Int) + (1 : Int)) < (↑(8 : Nat) : Int), (0 : Int) ≤ IntKind.i64.wrap (IntKind.i64.wrap ((0 : Int) + (1 : Int)) + (1 : Int)) ∧ IntKind.i64.wrap (IntKind.i64.wrap ((0 : Int) + (1 : Int)) + (1 : Int)) < (↑(8 : Nat) : Int), (0 : Int) ≤ IntKind.i64.wrap (IntKind.i64.wrap ((0 : Int) + (1 : Int)) + (1 : Int)) ∧ IntKind.i64.wrap (IntKind.i64.wrap ((0 : Int) + (1 : Int)) + (1 : Int)) < (↑(8 : Nat) : Int), (0 : Int) ≤ IntKind.i64.wrap (IntKind.i64.wrap ((0 : Int) + (1 : Int)) + (1 : Int)) ∧ IntKind.i64.wrap (IntKind.i64.wrap ((0 : Int) + (1 : Int)) + (1 : Int)) < (↑(8 : Nat) : Int), (0 : Int) ≤ IntKind.i64.wrap (IntKind.i64.wrap (IntKind.i64.wrap ((0 : Int) + (1 : Int)) + (1 : Int)) + (1 : Int)) ∧ IntKind.i64.wrap (IntKind.i64.wrap (IntKind.i64.wrap ((0 : Int) + (1 : Int)) + (1 : Int)) + (1 : Int)) < (↑(8 : Nat) : Int), (0 : Int) ≤ IntKind.i64.wrap (IntKind.i64.wrap (IntKind.i64.wrap ((0 : Int) + (1 : Int)) + (1 : Int)) + (1 : Int)) ∧ IntKind.i64.wrap (IntKind.i64.wrap (IntKind.i64.wrap ((0 : Int) + (1 : Int)) + (1 : Int)) + (1 : Int)) < (↑(8 : Nat) : Int), (0 : Int) ≤ IntKind.i64.wrap (IntKind.i64.wrap (IntKind.i64.wrap ((0 : Int) + (1 : Int)) + (1 : Int)) + (1 : Int)) ∧ IntKind.i64.wrap (IntKind.i64.wrap (IntKind.i64.wrap ((0 : Int) + (1 : Int)) + (1 : Int)) + (1 : Int)) < (↑(8 : Nat) : Int), (0 : Int) ≤ IntKind.i64.wrap (IntKind.i64.wrap (IntKind.i64.wrap (IntKind.i64.wrap ((0 : Int) + (1 : Int)) + (1 : Int)) + (1 : Int)) + (1 : Int)) ∧ IntKind.i64.wrap (IntKind.i64.wrap (IntKind.i64.wrap (IntKind.i64.wrap ((0 : Int) + (1 : Int)) + (1 : Int)) + (1 : Int)) + (1 : Int)) < (↑(8 : Nat) : Int), (0 : Int) ≤ IntKind.i64.wrap (IntKind.i64.wrap (IntKind.i64.wrap (IntKind.i64.wrap ((0 : Int) + (1 : Int)) + (1 : Int)) + (1 : Int)) + (1 : Int)) ∧ IntKind.i64.wrap (IntKind.i64.wrap (IntKind.i64.wrap (IntKind.i64.wrap ((0 : Int) + (1 : Int)) + (1 : Int)) + (1 : Int)) + (1 : Int)) < (↑(8 : Nat) : Int), (0 : Int) ≤ IntKind.i64.wrap (IntKind.i64.wrap (IntKind.i64.wrap (IntKind.i64.wrap ((0 : Int) + (1 : Int)) + (1 : Int)) + (1 : Int)) + (1 : Int)) ∧ IntKind.i64.wrap (IntKind.i64.wrap (IntKind.i64.wrap (IntKind.i64.wrap ((0 : Int) + (1 : Int)) + (1 : Int)) + (1 : Int)) + (1 : Int)) < (↑(8 : Nat) : Int), (0 : Int) ≤ IntKind.i64.wrap (IntKind.i64.wrap (IntKind.i64.wrap (IntKind.i64.wrap (IntKind.i64.wrap ((0 : Int) + (1 : Int)) + (1 : Int)) + (1 : Int)) + (1 : Int)) + (1 : Int)) ∧ IntKind.i64.wrap (IntKind.i64.wrap (IntKind.i64.wrap (IntKind.i64.wrap (IntKind.i64.wrap ((0 : Int) + (1 : Int)) + (1 : Int)) + (1 : Int)) + (1 : Int)) + (1 : Int)) < (↑(8 : Nat) : Int), (0 : Int) ≤ IntKind.i64.wrap (IntKind.i64.wrap (IntKind.i64.wrap (IntKind.i64.wrap (IntKind.i64.wrap ((0 : Int) + (1 : Int)) + (1 : Int)) + (1 : Int)) + (1 : Int)) + (1 : Int)) ∧ IntKind.i64.wrap (IntKind.i64.wrap (IntKind.i64.wrap (IntKind.i64.wrap (IntKind.i64.wrap ((0 : Int) + (1 : Int)) + (1 : Int)) + (1 : Int)) + (1 : Int)) + (1 : Int)) < (↑(8 : Nat) : Int), (0 : Int) ≤ IntKind.i64.wrap (IntKind.i64.wrap (IntKind.i64.wrap (IntKind.i64.wrap (IntKind.i64.wrap ((0 : Int) + (1 : Int)) + (1 : Int)) + (1 : Int)) + (1 : Int)) + (1 : Int)) ∧ IntKind.i64.wrap (IntKind.i64.wrap (IntKind.i64.wrap (IntKind.i64.wrap (IntKind.i64.wrap ((0 : Int) + (1 : Int)) + (1 : Int)) + (1 : Int)) + (1 : Int)) + (1 : Int)) < (↑(8 : Nat) : Int), (0 : Int) ≤ IntKind.i64.wrap (IntKind.i64.wrap (IntKind.i64.wrap (IntKind.i64.wrap (IntKind.i64.wrap (IntKind.i64.wrap ((0 : Int) + (1 : Int)) + (1 : Int)) + (1 : Int)) + (1 : Int)) + (1 : Int)) + (1 : Int)) ∧ IntKind.i64.wrap (IntKind.i64.wrap (IntKind.i64.wrap (IntKind.i64.wrap (IntKind.i64.wrap (IntKind.i64.wrap ((0 : Int) + (1 : Int)) + (1 : Int)) + (1 : Int)) + (1 : Int)) + (1 : Int)) + (1 : Int)) < (↑(8 : Nat) : Int), (0 : Int) ≤ IntKind.i64.wrap (IntKind.i64.wrap (IntKind.i64.wrap (IntKind.i64.wrap (IntKind.i64.wrap (IntKind.i64.wrap ((0 : Int) + (1 : Int)) + (1 : Int)) + (1 : Int)) + (1 : Int)) + (1 : Int)) + (1 : Int)) ∧ IntKind.i64.wrap (IntKind.i64.wrap (IntKind.i64.wrap (IntKind.i64.wrap (IntKind.i64.wrap (IntKind.i64.wrap ((0 : Int) + (1 : Int)) + (1 : Int)) + (1 : Int)) + (1 : Int)) + (1 : Int)) + (1 : Int)) < (↑(8 : Nat) : Int), (0 : Int) ≤ IntKind.i64.wrap (IntKind.i64.wrap (IntKind.i64.wrap (IntKind.i64.wrap (IntKind.i64.wrap (IntKind.i64.wrap ((0 : Int) + (1 : Int)) + (1 : Int)) + (1 : Int)) + (1 : Int)) + (1 : Int)) + (1 : Int)) ∧ IntKind.i64.wrap (IntKind.i64.wrap (IntKind.i64.wrap (IntKind.i64.wrap (IntKind.i64.wrap (IntKind.i64.wrap ((0 : Int) + (1 : Int)) + (1 : Int)) + (1 : Int)) + (1 : Int)) + (1 : Int)) + (1 : Int)) < (↑(8 : Nat) : Int), (0 : Int) ≤ IntKind.i64.wrap (IntKind.i64.wrap (IntKind.i64.wrap (IntKind.i64.wrap (IntKind.i64.wrap (IntKind.i64.wrap (IntKind.i64.wrap ((0 : Int) + (1 : Int)) + (1 : Int)) + (1 : Int)) + (1 : Int)) + (1 : Int)) + (1 : Int)) + (1 : Int)) ∧ IntKind.i64.wrap (IntKind.i64.wrap (IntKind.i64.wrap (IntKind.i64.wrap (IntKind.i64.wrap (IntKind.i64.wrap (IntKind.i64.wrap ((0 : Int) + (1 : Int)) + (1 : Int)) + (1 : Int)) + (1 : Int)) + (1 : Int)) + (1 : Int)) + (1 : Int)) < (↑(8 : Nat) : Int), (0 : Int) ≤ IntKind.i64.wrap (IntKind.i64.wrap (IntKind.i64.wrap (IntKind.i64.wrap (IntKind.i64.wrap (IntKind.i64.wrap (IntKind.i64.wrap ((0 : Int) + (1 : Int)) + (1 : Int)) + (1 : Int)) + (1 : Int)) + (1 : Int)) + (1 : Int)) + (1 : Int)) ∧ IntKind.i64.wrap (IntKind.i64.wrap (IntKind.i64.wrap (IntKind.i64.wrap (IntKind.i64.wrap (IntKind.i64.wrap (IntKind.i64.wrap ((0 : Int) + (1 : Int)) + (1 : Int)) + (1 : Int)) + (1 : Int)) + (1 : Int)) + (1 : Int)) + (1 : Int)) < (↑(8 : Nat) : Int), (0 : Int) ≤ IntKind.i64.wrap (IntKind.i64.wrap (IntKind.i64.wrap (IntKind.i64.wrap (IntKind.i64.wrap (IntKind.i64.wrap (IntKind.i64.wrap ((0 : Int) + (1 : Int)) + (1 : Int)) + (1 : Int)) + (1 : Int)) + (1 : Int)) + (1 : Int)) + (1 : Int)) ∧ IntKind.i64.wrap (IntKind.i64.wrap (IntKind.i64.wrap (IntKind.i64.wrap (IntKind.i64.wrap (IntKind.i64.wrap (IntKind.i64.wrap ((0 : Int) + (1 : Int)) + (1 : Int)) + (1 : Int)) + (1 : Int)) + (1 : Int)) + (1 : Int)) + (1 : Int)) < (↑(8 : Nat) : Int)]) (by kernel_rfl) ⟨?_, ?_, ?_, ?_, ?_, ?_, ?_, ?_, ?_, ?_, ?_, ?_, ?_, ?_, ?_, ?_, ?_, ?_, ?_, ?_, ?_, ?_, ?_, ?_, trivial⟩ ?_ r w
  all_goals (
    first
    | (exact ⟨by decide, by decide⟩)
    | rfl)


def vec2Q (f : Vec → Vec → AV) (args : List AV) (_ : AH) : Option (AV × List Nat × Option Prop) :=
  match args with
  | [.tv (.agg l), .tv (.agg m)] => match vecOf l, vecOf m with
    | some a, some b => some (f a b, [], none)
    | _, _ => none
  | _ => none
theorem vec2Q_args {f : Vec → Vec → AV} {args : List AV} {H : AH} {v : AV} {ft : List Nat} {pr : Option Prop} (h : vec2Q f args H = some (v, ft, pr)) : ∃ x y, args = [x.av, y.av] ∧ v = f x y := by
  unfold vec2Q at h
  split at h
  · split at h
    · rename_i a b ha hb
      simp at h
      rw [vecOf_eq ha, vecOf_eq hb]
      exact ⟨a, b, rfl, h.1.symm⟩
    · simp at h
  · simp at h

noncomputable def TJ1 : CT Try.prog := TJ.addQ 17 (vec2Q fun a b => (joinV a b).av) (by kernel_rfl) fun _ _ _ _ _ h _ r w _ => by
  obtain ⟨a, b, rfl, rfl⟩ := vec2Q_args h
  exact join_run a b r w

theorem within_run (a b : Vec) (r : Gh) (w : World) :
    Calls Try.prog 15 ([a.av, b.av].map (AV.conc r)).toArray w fun e w' => e = .returned (.bool (withinB a b)) ∧ Below w.heap.size w w' := by
  refine fnP_leaf (T := TJ1) hmx (D := []) (v := Value.bool (decide (joinV a b = b))) (ps := []) (by kernel_rfl) trivial ?_ r w
  all_goals (
    first
    | rfl)


theorem within_iff (a b : Vec) : withinB a b = true ↔ a.x0 ≤ b.x0 ∧ a.x1 ≤ b.x1 ∧ a.x2 ≤ b.x2 ∧ a.x3 ≤ b.x3 ∧ a.x4 ≤ b.x4 ∧ a.x5 ≤ b.x5 ∧ a.x6 ≤ b.x6 ∧ a.x7 ≤ b.x7 := by
  obtain ⟨_, _, _, _, _, _, _, _⟩ := a
  obtain ⟨_, _, _, _, _, _, _, _⟩ := b
  simp only [withinB, joinV, decide_eq_true_eq, Vec.mk.injEq]
  omega

theorem rwithin_run (a b : Vec) (r : Gh) (w : World) :
    Calls Try.prog 16 ([a.av, b.av].map (AV.conc r)).toArray w fun e w' => e = .returned (.bool (withinB a b)) ∧ Below w.heap.size w w' := by
  cases h1 : (decide (a.x0 > b.x0)) with
  | false =>
    cases h2 : (decide (a.x1 > b.x1)) with
    | false =>
      cases h3 : (decide (a.x2 > b.x2)) with
      | false =>
        cases h4 : (decide (a.x3 > b.x3)) with
        | false =>
          cases h5 : (decide (a.x4 > b.x4)) with
          | false =>
            cases h6 : (decide (a.x5 > b.x5)) with
            | false =>
              cases h7 : (decide (a.x6 > b.x6)) with
              | false =>
                cases h8 : (decide (a.x7 > b.x7)) with
                | false =>
                  refine fnP_leaf (T := TJ1) hmx (D := [Dec.u (20 : Nat), Dec.c (16 : Nat) false, Dec.c (16 : Nat) false, Dec.c (16 : Nat) false, Dec.c (16 : Nat) false, Dec.c (16 : Nat) false, Dec.c (16 : Nat) false, Dec.c (16 : Nat) false, Dec.c (16 : Nat) false]) (v := Value.bool true) (ps := [(0 : Int) ≤ (0 : Int) ∧ (0 : Int) < (↑(8 : Nat) : Int), (0 : Int) ≤ (0 : Int) ∧ (0 : Int) < (↑(8 : Nat) : Int), decide (a.x0 > b.x0) = false, (0 : Int) ≤ IntKind.i64.wrap ((0 : Int) + (1 : Int)) ∧ IntKind.i64.wrap ((0 : Int) + (1 : Int)) < (↑(8 : Nat) : Int), (0 : Int) ≤ IntKind.i64.wrap ((0 : Int) + (1 : Int)) ∧ IntKind.i64.wrap ((0 : Int) + (1 : Int)) < (↑(8 : Nat) : Int), decide (a.x1 > b.x1) = false, (0 : Int) ≤ IntKind.i64.wrap (IntKind.i64.wrap ((0 : Int) + (1 : Int)) + (1 : Int)) ∧ IntKind.i64.wrap (IntKind.i64.wrap ((0 : Int) + (1 : Int)) + (1 : Int)) < (↑(8 : Nat) : Int), (0 : Int) ≤ IntKind.i64.wrap (IntKind.i64.wrap ((0 : Int) + (1 : Int)) + (1 : Int)) ∧ IntKind.i64.wrap (IntKind.i64.wrap ((0 : Int) + (1 : Int)) + (1 : Int)) < (↑(8 : Nat) : Int), decide (a.x2 > b.x2) = false, (0 : Int) ≤ IntKind.i64.wrap (IntKind.i64.wrap (IntKind.i64.wrap ((0 : Int) + (1 : Int)) + (1 : Int)) + (1 : Int)) ∧ IntKind.i64.wrap (IntKind.i64.wrap (IntKind.i64.wrap ((0 : Int) + (1 : Int)) + (1 : Int)) + (1 : Int)) < (↑(8 : Nat) : Int), (0 : Int) ≤ IntKind.i64.wrap (IntKind.i64.wrap (IntKind.i64.wrap ((0 : Int) + (1 : Int)) + (1 : Int)) + (1 : Int)) ∧ IntKind.i64.wrap (IntKind.i64.wrap (IntKind.i64.wrap ((0 : Int) + (1 : Int)) + (1 : Int)) + (1 : Int)) < (↑(8 : Nat) : Int), decide (a.x3 > b.x3) = false, (0 : Int) ≤ IntKind.i64.wrap (IntKind.i64.wrap (IntKind.i64.wrap (IntKind.i64.wrap ((0 : Int) + (1 : Int)) + (1 : Int)) + (1 : Int)) + (1 : Int)) ∧ IntKind.i64.wrap (IntKind.i64.wrap (IntKind.i64.wrap (IntKind.i64.wrap ((0 : Int) + (1 : Int)) + (1 : Int)) + (1 : Int)) + (1 : Int)) < (↑(8 : Nat) : Int), (0 : Int) ≤ IntKind.i64.wrap (IntKind.i64.wrap (IntKind.i64.wrap (IntKind.i64.wrap ((0 : Int) + (1 : Int)) + (1 : Int)) + (1 : Int)) + (1 : Int)) ∧ IntKind.i64.wrap (IntKind.i64.wrap (IntKind.i64.wrap (IntKind.i64.wrap ((0 : Int) + (1 : Int)) + (1 : Int)) + (1 : Int)) + (1 : Int)) < (↑(8 : Nat) : Int), decide (a.x4 > b.x4) = false, (0 : Int) ≤ IntKind.i64.wrap (IntKind.i64.wrap (IntKind.i64.wrap (IntKind.i64.wrap (IntKind.i64.wrap ((0 : Int) + (1 : Int)) + (1 : Int)) + (1 : Int)) + (1 : Int)) + (1 : Int)) ∧ IntKind.i64.wrap (IntKind.i64.wrap (IntKind.i64.wrap (IntKind.i64.wrap (IntKind.i64.wrap ((0 : Int) + (1 : Int)) + (1 : Int)) + (1 : Int)) + (1 : Int)) + (1 : Int)) < (↑(8 : Nat) : Int), (0 : Int) ≤ IntKind.i64.wrap (IntKind.i64.wrap (IntKind.i64.wrap (IntKind.i64.wrap (IntKind.i64.wrap ((0 : Int) + (1 : Int)) + (1 : Int)) + (1 : Int)) + (1 : Int)) + (1 : Int)) ∧ IntKind.i64.wrap (IntKind.i64.wrap (IntKind.i64.wrap (IntKind.i64.wrap (IntKind.i64.wrap ((0 : Int) + (1 : Int)) + (1 : Int)) + (1 : Int)) + (1 : Int)) + (1 : Int)) < (↑(8 : Nat) : Int), decide (a.x5 > b.x5) = false, (0 : Int) ≤ IntKind.i64.wrap (IntKind.i64.wrap (IntKind.i64.wrap (IntKind.i64.wrap (IntKind.i64.wrap (IntKind.i64.wrap ((0 : Int) + (1 : Int)) + (1 : Int)) + (1 : Int)) + (1 : Int)) + (1 : Int)) + (1 : Int)) ∧ IntKind.i64.wrap (IntKind.i64.wrap (IntKind.i64.wrap (IntKind.i64.wrap (IntKind.i64.wrap (IntKind.i64.wrap ((0 : Int) + (1 : Int)) + (1 : Int)) + (1 : Int)) + (1 : Int)) + (1 : Int)) + (1 : Int)) < (↑(8 : Nat) : Int), (0 : Int) ≤ IntKind.i64.wrap (IntKind.i64.wrap (IntKind.i64.wrap (IntKind.i64.wrap (IntKind.i64.wrap (IntKind.i64.wrap ((0 : Int) + (1 : Int)) + (1 : Int)) + (1 : Int)) + (1 : Int)) + (1 : Int)) + (1 : Int)) ∧ IntKind.i64.wrap (IntKind.i64.wrap (IntKind.i64.wrap (IntKind.i64.wrap (IntKind.i64.wrap (IntKind.i64.wrap ((0 : Int) + (1 : Int)) + (1 : Int)) + (1 : Int)) + (1 : Int)) + (1 : Int)) + (1 : Int)) < (↑(8 : Nat) : Int), decide (a.x6 > b.x6) = false, (0 : Int) ≤ IntKind.i64.wrap (IntKind.i64.wrap (IntKind.i64.wrap (IntKind.i64.wrap (IntKind.i64.wrap (IntKind.i64.wrap (IntKind.i64.wrap ((0 : Int) + (1 : Int)) + (1 : Int)) + (1 : Int)) + (1 : Int)) + (1 : Int)) + (1 : Int)) + (1 : Int)) ∧ IntKind.i64.wrap (IntKind.i64.wrap (IntKind.i64.wrap (IntKind.i64.wrap (IntKind.i64.wrap (IntKind.i64.wrap (IntKind.i64.wrap ((0 : Int) + (1 : Int)) + (1 : Int)) + (1 : Int)) + (1 : Int)) + (1 : Int)) + (1 : Int)) + (1 : Int)) < (↑(8 : Nat) : Int), (0 : Int) ≤ IntKind.i64.wrap (IntKind.i64.wrap (IntKind.i64.wrap (IntKind.i64.wrap (IntKind.i64.wrap (IntKind.i64.wrap (IntKind.i64.wrap ((0 : Int) + (1 : Int)) + (1 : Int)) + (1 : Int)) + (1 : Int)) + (1 : Int)) + (1 : Int)) + (1 : Int)) ∧ IntKind.i64.wrap (IntKind.i64.wrap (IntKind.i64.wrap (IntKind.i64.wrap (IntKind.i64.wrap (IntKind.i64.wrap (IntKind.i64.wrap ((0 : Int) + (1 : Int)) + (1 : Int)) + (1 : Int)) + (1 : Int)) + (1 : Int)) + (1 : Int)) + (1 : Int)) < (↑(8 : Nat) : Int), decide (a.x7 > b.x7) = false]) (by kernel_rfl) ⟨?_, ?_, h1, ?_, ?_, h2, ?_, ?_, h3, ?_, ?_, h4, ?_, ?_, h5, ?_, ?_, h6, ?_, ?_, h7, ?_, ?_, h8, trivial⟩ ?_ r w
                  all_goals (
                    first
                    | exact ⟨by decide, by decide⟩
                    | (refine congrArg Value.bool ?_; have hi := within_iff a b; (first | (replace h1 := of_decide_eq_false h1) | (replace h1 := of_decide_eq_true h1) | skip); (first | (replace h2 := of_decide_eq_false h2) | (replace h2 := of_decide_eq_true h2) | skip); (first | (replace h3 := of_decide_eq_false h3) | (replace h3 := of_decide_eq_true h3) | skip); (first | (replace h4 := of_decide_eq_false h4) | (replace h4 := of_decide_eq_true h4) | skip); (first | (replace h5 := of_decide_eq_false h5) | (replace h5 := of_decide_eq_true h5) | skip); (first | (replace h6 := of_decide_eq_false h6) | (replace h6 := of_decide_eq_true h6) | skip); (first | (replace h7 := of_decide_eq_false h7) | (replace h7 := of_decide_eq_true h7) | skip); (first | (replace h8 := of_decide_eq_false h8) | (replace h8 := of_decide_eq_true h8) | skip); first | (symm; rw [hi]; omega) | (symm; rw [Bool.eq_false_iff]; intro hx; rw [hi] at hx; omega)))
                | true =>
                  refine fnP_leaf (T := TJ1) hmx (D := [Dec.u (20 : Nat), Dec.c (16 : Nat) false, Dec.c (16 : Nat) false, Dec.c (16 : Nat) false, Dec.c (16 : Nat) false, Dec.c (16 : Nat) false, Dec.c (16 : Nat) false, Dec.c (16 : Nat) false, Dec.c (16 : Nat) true]) (v := Value.bool false) (ps := [(0 : Int) ≤ (0 : Int) ∧ (0 : Int) < (↑(8 : Nat) : Int), (0 : Int) ≤ (0 : Int) ∧ (0 : Int) < (↑(8 : Nat) : Int), decide (a.x0 > b.x0) = false, (0 : Int) ≤ IntKind.i64.wrap ((0 : Int) + (1 : Int)) ∧ IntKind.i64.wrap ((0 : Int) + (1 : Int)) < (↑(8 : Nat) : Int), (0 : Int) ≤ IntKind.i64.wrap ((0 : Int) + (1 : Int)) ∧ IntKind.i64.wrap ((0 : Int) + (1 : Int)) < (↑(8 : Nat) : Int), decide (a.x1 > b.x1) = false, (0 : Int) ≤ IntKind.i64.wrap (IntKind.i64.wrap ((0 : Int) + (1 : Int)) + (1 : Int)) ∧ IntKind.i64.wrap (IntKind.i64.wrap ((0 : Int) + (1 : Int)) + (1 : Int)) < (↑(8 : Nat) : Int), (0 : Int) ≤ IntKind.i64.wrap (IntKind.i64.wrap ((0 : Int) + (1 : Int)) + (1 : Int)) ∧ IntKind.i64.wrap (IntKind.i64.wrap ((0 : Int) + (1 : Int)) + (1 : Int)) < (↑(8 : Nat) : Int), decide (a.x2 > b.x2) = false, (0 : Int) ≤ IntKind.i64.wrap (IntKind.i64.wrap (IntKind.i64.wrap ((0 : Int) + (1 : Int)) + (1 : Int)) + (1 : Int)) ∧ IntKind.i64.wrap (IntKind.i64.wrap (IntKind.i64.wrap ((0 : Int) + (1 : Int)) + (1 : Int)) + (1 : Int)) < (↑(8 : Nat) : Int), (0 : Int) ≤ IntKind.i64.wrap (IntKind.i64.wrap (IntKind.i64.wrap ((0 : Int) + (1 : Int)) + (1 : Int)) + (1 : Int)) ∧ IntKind.i64.wrap (IntKind.i64.wrap (IntKind.i64.wrap ((0 : Int) + (1 : Int)) + (1 : Int)) + (1 : Int)) < (↑(8 : Nat) : Int), decide (a.x3 > b.x3) = false, (0 : Int) ≤ IntKind.i64.wrap (IntKind.i64.wrap (IntKind.i64.wrap (IntKind.i64.wrap ((0 : Int) + (1 : Int)) + (1 : Int)) + (1 : Int)) + (1 : Int)) ∧ IntKind.i64.wrap (IntKind.i64.wrap (IntKind.i64.wrap (IntKind.i64.wrap ((0 : Int) + (1 : Int)) + (1 : Int)) + (1 : Int)) + (1 : Int)) < (↑(8 : Nat) : Int), (0 : Int) ≤ IntKind.i64.wrap (IntKind.i64.wrap (IntKind.i64.wrap (IntKind.i64.wrap ((0 : Int) + (1 : Int)) + (1 : Int)) + (1 : Int)) + (1 : Int)) ∧ IntKind.i64.wrap (IntKind.i64.wrap (IntKind.i64.wrap (IntKind.i64.wrap ((0 : Int) + (1 : Int)) + (1 : Int)) + (1 : Int)) + (1 : Int)) < (↑(8 : Nat) : Int), decide (a.x4 > b.x4) = false, (0 : Int) ≤ IntKind.i64.wrap (IntKind.i64.wrap (IntKind.i64.wrap (IntKind.i64.wrap (IntKind.i64.wrap ((0 : Int) + (1 : Int)) + (1 : Int)) + (1 : Int)) + (1 : Int)) + (1 : Int)) ∧ IntKind.i64.wrap (IntKind.i64.wrap (IntKind.i64.wrap (IntKind.i64.wrap (IntKind.i64.wrap ((0 : Int) + (1 : Int)) + (1 : Int)) + (1 : Int)) + (1 : Int)) + (1 : Int)) < (↑(8 : Nat) : Int), (0 : Int) ≤ IntKind.i64.wrap (IntKind.i64.wrap (IntKind.i64.wrap (IntKind.i64.wrap (IntKind.i64.wrap ((0 : Int) + (1 : Int)) + (1 : Int)) + (1 : Int)) + (1 : Int)) + (1 : Int)) ∧ IntKind.i64.wrap (IntKind.i64.wrap (IntKind.i64.wrap (IntKind.i64.wrap (IntKind.i64.wrap ((0 : Int) + (1 : Int)) + (1 : Int)) + (1 : Int)) + (1 : Int)) + (1 : Int)) < (↑(8 : Nat) : Int), decide (a.x5 > b.x5) = false, (0 : Int) ≤ IntKind.i64.wrap (IntKind.i64.wrap (IntKind.i64.wrap (IntKind.i64.wrap (IntKind.i64.wrap (IntKind.i64.wrap ((0 : Int) + (1 : Int)) + (1 : Int)) + (1 : Int)) + (1 : Int)) + (1 : Int)) + (1 : Int)) ∧ IntKind.i64.wrap (IntKind.i64.wrap (IntKind.i64.wrap (IntKind.i64.wrap (IntKind.i64.wrap (IntKind.i64.wrap ((0 : Int) + (1 : Int)) + (1 : Int)) + (1 : Int)) + (1 : Int)) + (1 : Int)) + (1 : Int)) < (↑(8 : Nat) : Int), (0 : Int) ≤ IntKind.i64.wrap (IntKind.i64.wrap (IntKind.i64.wrap (IntKind.i64.wrap (IntKind.i64.wrap (IntKind.i64.wrap ((0 : Int) + (1 : Int)) + (1 : Int)) + (1 : Int)) + (1 : Int)) + (1 : Int)) + (1 : Int)) ∧ IntKind.i64.wrap (IntKind.i64.wrap (IntKind.i64.wrap (IntKind.i64.wrap (IntKind.i64.wrap (IntKind.i64.wrap ((0 : Int) + (1 : Int)) + (1 : Int)) + (1 : Int)) + (1 : Int)) + (1 : Int)) + (1 : Int)) < (↑(8 : Nat) : Int), decide (a.x6 > b.x6) = false, (0 : Int) ≤ IntKind.i64.wrap (IntKind.i64.wrap (IntKind.i64.wrap (IntKind.i64.wrap (IntKind.i64.wrap (IntKind.i64.wrap (IntKind.i64.wrap ((0 : Int) + (1 : Int)) + (1 : Int)) + (1 : Int)) + (1 : Int)) + (1 : Int)) + (1 : Int)) + (1 : Int)) ∧ IntKind.i64.wrap (IntKind.i64.wrap (IntKind.i64.wrap (IntKind.i64.wrap (IntKind.i64.wrap (IntKind.i64.wrap (IntKind.i64.wrap ((0 : Int) + (1 : Int)) + (1 : Int)) + (1 : Int)) + (1 : Int)) + (1 : Int)) + (1 : Int)) + (1 : Int)) < (↑(8 : Nat) : Int), (0 : Int) ≤ IntKind.i64.wrap (IntKind.i64.wrap (IntKind.i64.wrap (IntKind.i64.wrap (IntKind.i64.wrap (IntKind.i64.wrap (IntKind.i64.wrap ((0 : Int) + (1 : Int)) + (1 : Int)) + (1 : Int)) + (1 : Int)) + (1 : Int)) + (1 : Int)) + (1 : Int)) ∧ IntKind.i64.wrap (IntKind.i64.wrap (IntKind.i64.wrap (IntKind.i64.wrap (IntKind.i64.wrap (IntKind.i64.wrap (IntKind.i64.wrap ((0 : Int) + (1 : Int)) + (1 : Int)) + (1 : Int)) + (1 : Int)) + (1 : Int)) + (1 : Int)) + (1 : Int)) < (↑(8 : Nat) : Int), decide (a.x7 > b.x7) = true]) (by kernel_rfl) ⟨?_, ?_, h1, ?_, ?_, h2, ?_, ?_, h3, ?_, ?_, h4, ?_, ?_, h5, ?_, ?_, h6, ?_, ?_, h7, ?_, ?_, h8, trivial⟩ ?_ r w
                  all_goals (
                    first
                    | exact ⟨by decide, by decide⟩
                    | (refine congrArg Value.bool ?_; have hi := within_iff a b; (first | (replace h1 := of_decide_eq_false h1) | (replace h1 := of_decide_eq_true h1) | skip); (first | (replace h2 := of_decide_eq_false h2) | (replace h2 := of_decide_eq_true h2) | skip); (first | (replace h3 := of_decide_eq_false h3) | (replace h3 := of_decide_eq_true h3) | skip); (first | (replace h4 := of_decide_eq_false h4) | (replace h4 := of_decide_eq_true h4) | skip); (first | (replace h5 := of_decide_eq_false h5) | (replace h5 := of_decide_eq_true h5) | skip); (first | (replace h6 := of_decide_eq_false h6) | (replace h6 := of_decide_eq_true h6) | skip); (first | (replace h7 := of_decide_eq_false h7) | (replace h7 := of_decide_eq_true h7) | skip); (first | (replace h8 := of_decide_eq_false h8) | (replace h8 := of_decide_eq_true h8) | skip); first | (symm; rw [hi]; omega) | (symm; rw [Bool.eq_false_iff]; intro hx; rw [hi] at hx; omega)))
              | true =>
                refine fnP_leaf (T := TJ1) hmx (D := [Dec.u (20 : Nat), Dec.c (16 : Nat) false, Dec.c (16 : Nat) false, Dec.c (16 : Nat) false, Dec.c (16 : Nat) false, Dec.c (16 : Nat) false, Dec.c (16 : Nat) false, Dec.c (16 : Nat) true]) (v := Value.bool false) (ps := [(0 : Int) ≤ (0 : Int) ∧ (0 : Int) < (↑(8 : Nat) : Int), (0 : Int) ≤ (0 : Int) ∧ (0 : Int) < (↑(8 : Nat) : Int), decide (a.x0 > b.x0) = false, (0 : Int) ≤ IntKind.i64.wrap ((0 : Int) + (1 : Int)) ∧ IntKind.i64.wrap ((0 : Int) + (1 : Int)) < (↑(8 : Nat) : Int), (0 : Int) ≤ IntKind.i64.wrap ((0 : Int) + (1 : Int)) ∧ IntKind.i64.wrap ((0 : Int) + (1 : Int)) < (↑(8 : Nat) : Int), decide (a.x1 > b.x1) = false, (0 : Int) ≤ IntKind.i64.wrap (IntKind.i64.wrap ((0 : Int) + (1 : Int)) + (1 : Int)) ∧ IntKind.i64.wrap (IntKind.i64.wrap ((0 : Int) + (1 : Int)) + (1 : Int)) < (↑(8 : Nat) : Int), (0 : Int) ≤ IntKind.i64.wrap (IntKind.i64.wrap ((0 : Int) + (1 : Int)) + (1 : Int)) ∧ IntKind.i64.wrap (IntKind.i64.wrap ((0 : Int) + (1 : Int)) + (1 : Int)) < (↑(8 : Nat) : Int), decide (a.x2 > b.x2) = false, (0 : Int) ≤ IntKind.i64.wrap (IntKind.i64.wrap (IntKind.i64.wrap ((0 : Int) + (1 : Int)) + (1 : Int)) + (1 : Int)) ∧ IntKind.i64.wrap (IntKind.i64.wrap (IntKind.i64.wrap ((0 : Int) + (1 : Int)) + (1 : Int)) + (1 : Int)) < (↑(8 : Nat) : Int), (0 : Int) ≤ IntKind.i64.wrap (IntKind.i64.wrap (IntKind.i64.wrap ((0 : Int) + (1 : Int)) + (1 : Int)) + (1 : Int)) ∧ IntKind.i64.wrap (IntKind.i64.wrap (IntKind.i64.wrap ((0 : Int) + (1 : Int)) + (1 : Int)) + (1 : Int)) < (↑(8 : Nat) : Int), decide (a.x3 > b.x3) = false, (0 : Int) ≤ IntKind.i64.wrap (IntKind.i64.wrap (IntKind.i64.wrap (IntKind.i64.wrap ((0 : Int) + (1 : Int)) + (1 : Int)) + (1 : Int)) + (1 : Int)) ∧ IntKind.i64.wrap (IntKind.i64.wrap (IntKind.i64.wrap (IntKind.i64.wrap ((0 : Int) + (1 : Int)) + (1 : Int)) + (1 : Int)) + (1 : Int)) < (↑(8 : Nat) : Int), (0 : Int) ≤ IntKind.i64.wrap (IntKind.i64.wrap (IntKind.i64.wrap (IntKind.i64.wrap ((0 : Int) + (1 : Int)) + (1 : Int)) + (1 : Int)) + (1 : Int)) ∧ IntKind.i64.wrap (IntKind.i64.wrap (IntKind.i64.wrap (IntKind.i64.wrap ((0 : Int) + (1 : Int)) + (1 : Int)) + (1 : Int)) + (1 : Int)) < (↑(8 : Nat) : Int), decide (a.x4 > b.x4) = false, (0 : Int) ≤ IntKind.i64.wrap (IntKind.i64.wrap (IntKind.i64.wrap (IntKind.i64.wrap (IntKind.i64.wrap ((0 : Int) + (1 : Int)) + (1 : Int)) + (1 : Int)) + (1 : Int)) + (1 : Int)) ∧ IntKind.i64.wrap (IntKind.i64.wrap (IntKind.i64.wrap (IntKind.i64.wrap (IntKind.i64.wrap ((0 : Int) + (1 : Int)) + (1 : Int)) + (1 : Int)) + (1 : Int)) + (1 : Int)) < (↑(8 : Nat) : Int), (0 : Int) ≤ IntKind.i64.wrap (IntKind.i64.wrap (IntKind.i64.wrap (IntKind.i64.wrap (IntKind.i64.wrap ((0 : Int) + (1 : Int)) + (1 : Int)) + (1 : Int)) + (1 : Int)) + (1 : Int)) ∧ IntKind.i64.wrap (IntKind.i64.wrap (IntKind.i64.wrap (IntKind.i64.wrap (IntKind.i64.wrap ((0 : Int) + (1 : Int)) + (1 : Int)) + (1 : Int)) + (1 : Int)) + (1 : Int)) < (↑(8 : Nat) : Int), decide (a.x5 > b.x5) = false, (0 : Int) ≤ IntKind.i64.wrap (IntKind.i64.wrap (IntKind.i64.wrap (IntKind.i64.wrap (IntKind.i64.wrap (IntKind.i64.wrap ((0 : Int) + (1 : Int)) + (1 : Int)) + (1 : Int)) + (1 : Int)) + (1 : Int)) + (1 : Int)) ∧ IntKind.i64.wrap (IntKind.i64.wrap (IntKind.i64.wrap (IntKind.i64.wrap (IntKind.i64.wrap (IntKind.i64.wrap ((0 : Int) + (1 : Int)) + (1 : Int)) + (1 : Int)) + (1 : Int)) + (1 : Int)) + (1 : Int)) < (↑(8 : Nat) : Int), (0 : Int) ≤ IntKind.i64.wrap (IntKind.i64.wrap (IntKind.i64.wrap (IntKind.i64.wrap (IntKind.i64.wrap (IntKind.i64.wrap ((0 : Int) + (1 : Int)) + (1 : Int)) + (1 : Int)) + (1 : Int)) + (1 : Int)) + (1 : Int)) ∧ IntKind.i64.wrap (IntKind.i64.wrap (IntKind.i64.wrap (IntKind.i64.wrap (IntKind.i64.wrap (IntKind.i64.wrap ((0 : Int) + (1 : Int)) + (1 : Int)) + (1 : Int)) + (1 : Int)) + (1 : Int)) + (1 : Int)) < (↑(8 : Nat) : Int), decide (a.x6 > b.x6) = true]) (by kernel_rfl) ⟨?_, ?_, h1, ?_, ?_, h2, ?_, ?_, h3, ?_, ?_, h4, ?_, ?_, h5, ?_, ?_, h6, ?_, ?_, h7, trivial⟩ ?_ r w
                all_goals (
                  first
                  | exact ⟨by decide, by decide⟩
                  | (refine congrArg Value.bool ?_; have hi := within_iff a b; (first | (replace h1 := of_decide_eq_false h1) | (replace h1 := of_decide_eq_true h1) | skip); (first | (replace h2 := of_decide_eq_false h2) | (replace h2 := of_decide_eq_true h2) | skip); (first | (replace h3 := of_decide_eq_false h3) | (replace h3 := of_decide_eq_true h3) | skip); (first | (replace h4 := of_decide_eq_false h4) | (replace h4 := of_decide_eq_true h4) | skip); (first | (replace h5 := of_decide_eq_false h5) | (replace h5 := of_decide_eq_true h5) | skip); (first | (replace h6 := of_decide_eq_false h6) | (replace h6 := of_decide_eq_true h6) | skip); (first | (replace h7 := of_decide_eq_false h7) | (replace h7 := of_decide_eq_true h7) | skip); (first | (replace h8 := of_decide_eq_false h8) | (replace h8 := of_decide_eq_true h8) | skip); first | (symm; rw [hi]; omega) | (symm; rw [Bool.eq_false_iff]; intro hx; rw [hi] at hx; omega)))
            | true =>
              refine fnP_leaf (T := TJ1) hmx (D := [Dec.u (20 : Nat), Dec.c (16 : Nat) false, Dec.c (16 : Nat) false, Dec.c (16 : Nat) false, Dec.c (16 : Nat) false, Dec.c (16 : Nat) false, Dec.c (16 : Nat) true]) (v := Value.bool false) (ps := [(0 : Int) ≤ (0 : Int) ∧ (0 : Int) < (↑(8 : Nat) : Int), (0 : Int) ≤ (0 : Int) ∧ (0 : Int) < (↑(8 : Nat) : Int), decide (a.x0 > b.x0) = false, (0 : Int) ≤ IntKind.i64.wrap ((0 : Int) + (1 : Int)) ∧ IntKind.i64.wrap ((0 : Int) + (1 : Int)) < (↑(8 : Nat) : Int), (0 : Int) ≤ IntKind.i64.wrap ((0 : Int) + (1 : Int)) ∧ IntKind.i64.wrap ((0 : Int) + (1 : Int)) < (↑(8 : Nat) : Int), decide (a.x1 > b.x1) = false, (0 : Int) ≤ IntKind.i64.wrap (IntKind.i64.wrap ((0 : Int) + (1 : Int)) + (1 : Int)) ∧ IntKind.i64.wrap (IntKind.i64.wrap ((0 : Int) + (1 : Int)) + (1 : Int)) < (↑(8 : Nat) : Int), (0 : Int) ≤ IntKind.i64.wrap (IntKind.i64.wrap ((0 : Int) + (1 : Int)) + (1 : Int)) ∧ IntKind.i64.wrap (IntKind.i64.wrap ((0 : Int) + (1 : Int)) + (1 : Int)) < (↑(8 : Nat) : Int), decide (a.x2 > b.x2) = false, (0 : Int) ≤ IntKind.i64.wrap (IntKind.i64.wrap (IntKind.i64.wrap ((0 : Int) + (1 : Int)) + (1 : Int)) + (1 : Int)) ∧ IntKind.i64.wrap (IntKind.i64.wrap (IntKind.i64.wrap ((0 : Int) + (1 : Int)) + (1 : Int)) + (1 : Int)) < (↑(8 : Nat) : Int), (0 : Int) ≤ IntKind.i64.wrap (IntKind.i64.wrap (IntKind.i64.wrap ((0 : Int) + (1 : Int)) + (1 : Int)) + (1 : Int)) ∧ IntKind.i64.wrap (IntKind.i64.wrap (IntKind.i64.wrap ((0 : Int) + (1 : Int)) + (1 : Int)) + (1 : Int)) < (↑(8 : Nat) : Int), decide (a.x3 > b.x3) = false, (0 : Int) ≤ IntKind.i64.wrap (IntKind.i64.wrap (IntKind.i64.wrap (IntKind.i64.wrap ((0 : Int) + (1 : Int)) + (1 : Int)) + (1 : Int)) + (1 : Int)) ∧ IntKind.i64.wrap (IntKind.i64.wrap (IntKind.i64.wrap (IntKind.i64.wrap ((0 : Int) + (1 : Int)) + (1 : Int)) + (1 : Int)) + (1 : Int)) < (↑(8 : Nat) : Int), (0 : Int) ≤ IntKind.i64.wrap (IntKind.i64.wrap (IntKind.i64.wrap (IntKind.i64.wrap ((0 : Int) + (1 : Int)) + (1 : Int)) + (1 : Int)) + (1 : Int)) ∧ IntKind.i64.wrap (IntKind.i64.wrap (IntKind.i64.wrap (IntKind.i64.wrap ((0 : Int) + (1 : Int)) + (1 : Int)) + (1 : Int)) + (1 : Int)) < (↑(8 : Nat) : Int), decide (a.x4 > b.x4) = false, (0 : Int) ≤ IntKind.i64.wrap (IntKind.i64.wrap (IntKind.i64.wrap (IntKind.i64.wrap (IntKind.i64.wrap ((0 : Int) + (1 : Int)) + (1 : Int)) + (1 : Int)) + (1 : Int)) + (1 : Int)) ∧ IntKind.i64.wrap (IntKind.i64.wrap (IntKind.i64.wrap (IntKind.i64.wrap (IntKind.i64.wrap ((0 : Int) + (1 : Int)) + (1 : Int)) + (1 : Int)) + (1 : Int)) + (1 : Int)) < (↑(8 : Nat) : Int), (0 : Int) ≤ IntKind.i64.wrap (IntKind.i64.wrap (IntKind.i64.wrap (IntKind.i64.wrap (IntKind.i64.wrap ((0 : Int) + (1 : Int)) + (1 : Int)) + (1 : Int)) + (1 : Int)) + (1 : Int)) ∧ IntKind.i64.wrap (IntKind.i64.wrap (IntKind.i64.wrap (IntKind.i64.wrap (IntKind.i64.wrap ((0 : Int) + (1 : Int)) + (1 : Int)) + (1 : Int)) + (1 : Int)) + (1 : Int)) < (↑(8 : Nat) : Int), decide (a.x5 > b.x5) = true]) (by kernel_rfl) ⟨?_, ?_, h1, ?_, ?_, h2, ?_, ?_, h3, ?_, ?_, h4, ?_, ?_, h5, ?_, ?_, h6, trivial⟩ ?_ r w
              all_goals (
                first
                | exact ⟨by decide, by decide⟩
                | (refine congrArg Value.bool ?_; have hi := within_iff a b; (first | (replace h1 := of_decide_eq_false h1) | (replace h1 := of_decide_eq_true h1) | skip); (first | (replace h2 := of_decide_eq_false h2) | (replace h2 := of_decide_eq_true h2) | skip); (first | (replace h3 := of_decide_eq_false h3) | (replace h3 := of_decide_eq_true h3) | skip); (first | (replace h4 := of_decide_eq_false h4) | (replace h4 := of_decide_eq_true h4) | skip); (first | (replace h5 := of_decide_eq_false h5) | (replace h5 := of_decide_eq_true h5) | skip); (first | (replace h6 := of_decide_eq_false h6) | (replace h6 := of_decide_eq_true h6) | skip); (first | (replace h7 := of_decide_eq_false h7) | (replace h7 := of_decide_eq_true h7) | skip); (first | (replace h8 := of_decide_eq_false h8) | (replace h8 := of_decide_eq_true h8) | skip); first | (symm; rw [hi]; omega) | (symm; rw [Bool.eq_false_iff]; intro hx; rw [hi] at hx; omega)))
          | true =>
            refine fnP_leaf (T := TJ1) hmx (D := [Dec.u (20 : Nat), Dec.c (16 : Nat) false, Dec.c (16 : Nat) false, Dec.c (16 : Nat) false, Dec.c (16 : Nat) false, Dec.c (16 : Nat) true]) (v := Value.bool false) (ps := [(0 : Int) ≤ (0 : Int) ∧ (0 : Int) < (↑(8 : Nat) : Int), (0 : Int) ≤ (0 : Int) ∧ (0 : Int) < (↑(8 : Nat) : Int), decide (a.x0 > b.x0) = false, (0 : Int) ≤ IntKind.i64.wrap ((0 : Int) + (1 : Int)) ∧ IntKind.i64.wrap ((0 : Int) + (1 : Int)) < (↑(8 : Nat) : Int), (0 : Int) ≤ IntKind.i64.wrap ((0 : Int) + (1 : Int)) ∧ IntKind.i64.wrap ((0 : Int) + (1 : Int)) < (↑(8 : Nat) : Int), decide (a.x1 > b.x1) = false, (0 : Int) ≤ IntKind.i64.wrap (IntKind.i64.wrap ((0 : Int) + (1 : Int)) + (1 : Int)) ∧ IntKind.i64.wrap (IntKind.i64.wrap ((0 : Int) + (1 : Int)) + (1 : Int)) < (↑(8 : Nat) : Int), (0 : Int) ≤ IntKind.i64.wrap (IntKind.i64.wrap ((0 : Int) + (1 : Int)) + (1 : Int)) ∧ IntKind.i64.wrap (IntKind.i64.wrap ((0 : Int) + (1 : Int)) + (1 : Int)) < (↑(8 : Nat) : Int), decide (a.x2 > b.x2) = false, (0 : Int) ≤ IntKind.i64.wrap (IntKind.i64.wrap (IntKind.i64.wrap ((0 : Int) + (1 : Int)) + (1 : Int)) + (1 : Int)) ∧ IntKind.i64.wrap (IntKind.i64.wrap (IntKind.i64.wrap ((0 : Int) + (1 : Int)) + (1 : Int)) + (1 : Int)) < (↑(8 : Nat) : Int), (0 : Int) ≤ IntKind.i64.wrap (IntKind.i64.wrap (IntKind.i64.wrap ((0 : Int) + (1 : Int)) + (1 : Int)) + (1 : Int)) ∧ IntKind.i64.wrap (IntKind.i64.wrap (IntKind.i64.wrap ((0 : Int) + (1 : Int)) + (1 : Int)) + (1 : Int)) < (↑(8 : Nat) : Int), decide (a.x3 > b.x3) = false, (0 : Int) ≤ IntKind.i64.wrap (IntKind.i64.wrap (IntKind.i64.wrap (IntKind.i64.wrap ((0 : Int) + (1 : Int)) + (1 : Int)) + (1 : Int)) + (1 : Int)) ∧ IntKind.i64.wrap (IntKind.i64.wrap (IntKind.i64.wrap (IntKind.i64.wrap ((0 : Int) + (1 : Int)) + (1 : Int)) + (1 : Int)) + (1 : Int)) < (↑(8 : Nat) : Int), (0 : Int) ≤ IntKind.i64.wrap (IntKind.i64.wrap (IntKind.i64.wrap (IntKind.i64.wrap ((0 : Int) + (1 : Int)) + (1 : Int)) + (1 : Int)) + (1 : Int)) ∧ IntKind.i64.wrap (IntKind.i64.wrap (IntKind.i64.wrap (IntKind.i64.wrap ((0 : Int) + (1 : Int)) + (1 : Int)) + (1 : Int)) + (1 : Int)) < (↑(8 : Nat) : Int), decide (a.x4 > b.x4) = true]) (by kernel_rfl) ⟨?_, ?_, h1, ?_, ?_, h2, ?_, ?_, h3, ?_, ?_, h4, ?_, ?_, h5, trivial⟩ ?_ r w
            all_goals (
              first
              | exact ⟨by decide, by decide⟩
              | (refine congrArg Value.bool ?_; have hi := within_iff a b; (first | (replace h1 := of_decide_eq_false h1) | (replace h1 := of_decide_eq_true h1) | skip); (first | (replace h2 := of_decide_eq_false h2) | (replace h2 := of_decide_eq_true h2) | skip); (first | (replace h3 := of_decide_eq_false h3) | (replace h3 := of_decide_eq_true h3) | skip); (first | (replace h4 := of_decide_eq_false h4) | (replace h4 := of_decide_eq_true h4) | skip); (first | (replace h5 := of_decide_eq_false h5) | (replace h5 := of_decide_eq_true h5) | skip); (first | (replace h6 := of_decide_eq_false h6) | (replace h6 := of_decide_eq_true h6) | skip); (first | (replace h7 := of_decide_eq_false h7) | (replace h7 := of_decide_eq_true h7) | skip); (first | (replace h8 := of_decide_eq_false h8) | (replace h8 := of_decide_eq_true h8) | skip); first | (symm; rw [hi]; omega) | (symm; rw [Bool.eq_false_iff]; intro hx; rw [hi] at hx; omega)))
        | true =>
          refine fnP_leaf (T := TJ1) hmx (D := [Dec.u (20 : Nat), Dec.c (16 : Nat) false, Dec.c (16 : Nat) false, Dec.c (16 : Nat) false, Dec.c (16 : Nat) true]) (v := Value.bool false) (ps := [(0 : Int) ≤ (0 : Int) ∧ (0 : Int) < (↑(8 : Nat) : Int), (0 : Int) ≤ (0 : Int) ∧ (0 : Int) < (↑(8 : Nat) : Int), decide (a.x0 > b.x0) = false, (0 : Int) ≤ IntKind.i64.wrap ((0 : Int) + (1 : Int)) ∧ IntKind.i64.wrap ((0 : Int) + (1 : Int)) < (↑(8 : Nat) : Int), (0 : Int) ≤ IntKind.i64.wrap ((0 : Int) + (1 : Int)) ∧ IntKind.i64.wrap ((0 : Int) + (1 : Int)) < (↑(8 : Nat) : Int), decide (a.x1 > b.x1) = false, (0 : Int) ≤ IntKind.i64.wrap (IntKind.i64.wrap ((0 : Int) + (1 : Int)) + (1 : Int)) ∧ IntKind.i64.wrap (IntKind.i64.wrap ((0 : Int) + (1 : Int)) + (1 : Int)) < (↑(8 : Nat) : Int), (0 : Int) ≤ IntKind.i64.wrap (IntKind.i64.wrap ((0 : Int) + (1 : Int)) + (1 : Int)) ∧ IntKind.i64.wrap (IntKind.i64.wrap ((0 : Int) + (1 : Int)) + (1 : Int)) < (↑(8 : Nat) : Int), decide (a.x2 > b.x2) = false, (0 : Int) ≤ IntKind.i64.wrap (IntKind.i64.wrap (IntKind.i64.wrap ((0 : Int) + (1 : Int)) + (1 : Int)) + (1 : Int)) ∧ IntKind.i64.wrap (IntKind.i64.wrap (IntKind.i64.wrap ((0 : Int) + (1 : Int)) + (1 : Int)) + (1 : Int)) < (↑(8 : Nat) : Int), (0 : Int) ≤ IntKind.i64.wrap (IntKind.i64.wrap (IntKind.i64.wrap ((0 : Int) + (1 : Int)) + (1 : Int)) + (1 : Int)) ∧ IntKind.i64.wrap (IntKind.i64.wrap (IntKind.i64.wrap ((0 : Int) + (1 : Int)) + (1 : Int)) + (1 : Int)) < (↑(8 : Nat) : Int), decide (a.x3 > b.x3) = true]) (by kernel_rfl) ⟨?_, ?_, h1, ?_, ?_, h2, ?_, ?_, h3, ?_, ?_, h4, trivial⟩ ?_ r w
          all_goals (
            first
            | exact ⟨by decide, by decide⟩
            | (refine congrArg Value.bool ?_; have hi := within_iff a b; (first | (replace h1 := of_decide_eq_false h1) | (replace h1 := of_decide_eq_true h1) | skip); (first | (replace h2 := of_decide_eq_false h2) | (replace h2 := of_decide_eq_true h2) | skip); (first | (replace h3 := of_decide_eq_false h3) | (replace h3 := of_decide_eq_true h3) | skip); (first | (replace h4 := of_decide_eq_false h4) | (replace h4 := of_decide_eq_true h4) | skip); (first | (replace h5 := of_decide_eq_false h5) | (replace h5 := of_decide_eq_true h5) | skip); (first | (replace h6 := of_decide_eq_false h6) | (replace h6 := of_decide_eq_true h6) | skip); (first | (replace h7 := of_decide_eq_false h7) | (replace h7 := of_decide_eq_true h7) | skip); (first | (replace h8 := of_decide_eq_false h8) | (replace h8 := of_decide_eq_true h8) | skip); first | (symm; rw [hi]; omega) | (symm; rw [Bool.eq_false_iff]; intro hx; rw [hi] at hx; omega)))
      | true =>
        refine fnP_leaf (T := TJ1) hmx (D := [Dec.u (20 : Nat), Dec.c (16 : Nat) false, Dec.c (16 : Nat) false, Dec.c (16 : Nat) true]) (v := Value.bool false) (ps := [(0 : Int) ≤ (0 : Int) ∧ (0 : Int) < (↑(8 : Nat) : Int), (0 : Int) ≤ (0 : Int) ∧ (0 : Int) < (↑(8 : Nat) : Int), decide (a.x0 > b.x0) = false, (0 : Int) ≤ IntKind.i64.wrap ((0 : Int) + (1 : Int)) ∧ IntKind.i64.wrap ((0 : Int) + (1 : Int)) < (↑(8 : Nat) : Int), (0 : Int) ≤ IntKind.i64.wrap ((0 : Int) + (1 : Int)) ∧ IntKind.i64.wrap ((0 : Int) + (1 : Int)) < (↑(8 : Nat) : Int), decide (a.x1 > b.x1) = false, (0 : Int) ≤ IntKind.i64.wrap (IntKind.i64.wrap ((0 : Int) + (1 : Int)) + (1 : Int)) ∧ IntKind.i64.wrap (IntKind.i64.wrap ((0 : Int) + (1 : Int)) + (1 : Int)) < (↑(8 : Nat) : Int), (0 : Int) ≤ IntKind.i64.wrap (IntKind.i64.wrap ((0 : Int) + (1 : Int)) + (1 : Int)) ∧ IntKind.i64.wrap (IntKind.i64.wrap ((0 : Int) + (1 : Int)) + (1 : Int)) < (↑(8 : Nat) : Int), decide (a.x2 > b.x2) = true]) (by kernel_rfl) ⟨?_, ?_, h1, ?_, ?_, h2, ?_, ?_, h3, trivial⟩ ?_ r w
        all_goals (
          first
          | exact ⟨by decide, by decide⟩
          | (refine congrArg Value.bool ?_; have hi := within_iff a b; (first | (replace h1 := of_decide_eq_false h1) | (replace h1 := of_decide_eq_true h1) | skip); (first | (replace h2 := of_decide_eq_false h2) | (replace h2 := of_decide_eq_true h2) | skip); (first | (replace h3 := of_decide_eq_false h3) | (replace h3 := of_decide_eq_true h3) | skip); (first | (replace h4 := of_decide_eq_false h4) | (replace h4 := of_decide_eq_true h4) | skip); (first | (replace h5 := of_decide_eq_false h5) | (replace h5 := of_decide_eq_true h5) | skip); (first | (replace h6 := of_decide_eq_false h6) | (replace h6 := of_decide_eq_true h6) | skip); (first | (replace h7 := of_decide_eq_false h7) | (replace h7 := of_decide_eq_true h7) | skip); (first | (replace h8 := of_decide_eq_false h8) | (replace h8 := of_decide_eq_true h8) | skip); first | (symm; rw [hi]; omega) | (symm; rw [Bool.eq_false_iff]; intro hx; rw [hi] at hx; omega)))
    | true =>
      refine fnP_leaf (T := TJ1) hmx (D := [Dec.u (20 : Nat), Dec.c (16 : Nat) false, Dec.c (16 : Nat) true]) (v := Value.bool false) (ps := [(0 : Int) ≤ (0 : Int) ∧ (0 : Int) < (↑(8 : Nat) : Int), (0 : Int) ≤ (0 : Int) ∧ (0 : Int) < (↑(8 : Nat) : Int), decide (a.x0 > b.x0) = false, (0 : Int) ≤ IntKind.i64.wrap ((0 : Int) + (1 : Int)) ∧ IntKind.i64.wrap ((0 : Int) + (1 : Int)) < (↑(8 : Nat) : Int), (0 : Int) ≤ IntKind.i64.wrap ((0 : Int) + (1 : Int)) ∧ IntKind.i64.wrap ((0 : Int) + (1 : Int)) < (↑(8 : Nat) : Int), decide (a.x1 > b.x1) = true]) (by kernel_rfl) ⟨?_, ?_, h1, ?_, ?_, h2, trivial⟩ ?_ r w
      all_goals (
        first
        | exact ⟨by decide, by decide⟩
        | (refine congrArg Value.bool ?_; have hi := within_iff a b; (first | (replace h1 := of_decide_eq_false h1) | (replace h1 := of_decide_eq_true h1) | skip); (first | (replace h2 := of_decide_eq_false h2) | (replace h2 := of_decide_eq_true h2) | skip); (first | (replace h3 := of_decide_eq_false h3) | (replace h3 := of_decide_eq_true h3) | skip); (first | (replace h4 := of_decide_eq_false h4) | (replace h4 := of_decide_eq_true h4) | skip); (first | (replace h5 := of_decide_eq_false h5) | (replace h5 := of_decide_eq_true h5) | skip); (first | (replace h6 := of_decide_eq_false h6) | (replace h6 := of_decide_eq_true h6) | skip); (first | (replace h7 := of_decide_eq_false h7) | (replace h7 := of_decide_eq_true h7) | skip); (first | (replace h8 := of_decide_eq_false h8) | (replace h8 := of_decide_eq_true h8) | skip); first | (symm; rw [hi]; omega) | (symm; rw [Bool.eq_false_iff]; intro hx; rw [hi] at hx; omega)))
  | true =>
    refine fnP_leaf (T := TJ1) hmx (D := [Dec.u (20 : Nat), Dec.c (16 : Nat) true]) (v := Value.bool false) (ps := [(0 : Int) ≤ (0 : Int) ∧ (0 : Int) < (↑(8 : Nat) : Int), (0 : Int) ≤ (0 : Int) ∧ (0 : Int) < (↑(8 : Nat) : Int), decide (a.x0 > b.x0) = true]) (by kernel_rfl) ⟨?_, ?_, h1, trivial⟩ ?_ r w
    all_goals (
      first
      | exact ⟨by decide, by decide⟩
      | (refine congrArg Value.bool ?_; have hi := within_iff a b; (first | (replace h1 := of_decide_eq_false h1) | (replace h1 := of_decide_eq_true h1) | skip); (first | (replace h2 := of_decide_eq_false h2) | (replace h2 := of_decide_eq_true h2) | skip); (first | (replace h3 := of_decide_eq_false h3) | (replace h3 := of_decide_eq_true h3) | skip); (first | (replace h4 := of_decide_eq_false h4) | (replace h4 := of_decide_eq_true h4) | skip); (first | (replace h5 := of_decide_eq_false h5) | (replace h5 := of_decide_eq_true h5) | skip); (first | (replace h6 := of_decide_eq_false h6) | (replace h6 := of_decide_eq_true h6) | skip); (first | (replace h7 := of_decide_eq_false h7) | (replace h7 := of_decide_eq_true h7) | skip); (first | (replace h8 := of_decide_eq_false h8) | (replace h8 := of_decide_eq_true h8) | skip); first | (symm; rw [hi]; omega) | (symm; rw [Bool.eq_false_iff]; intro hx; rw [hi] at hx; omega)))


noncomputable def TJ2 : CT Try.prog := (TJ1.addQ 15 (vec2Q fun a b => .b (withinB a b)) (by kernel_rfl) fun _ _ _ _ _ h _ r w _ => by
  obtain ⟨a, b, rfl, rfl⟩ := vec2Q_args h
  exact within_run a b r w).addQ 16 (vec2Q fun a b => .b (withinB a b)) (by kernel_rfl) fun _ _ _ _ _ h _ r w _ => by
  obtain ⟨a, b, rfl, rfl⟩ := vec2Q_args h
  exact rwithin_run a b r w

def evQ (f : Ev → AV) (args : List AV) (_ : AH) : Option (AV × List Nat × Option Prop) :=
  match args with
  | [.tv (.agg l)] => match evOf l with
    | some e => some (f e, [], some e.ok)
    | none => none
  | _ => none
theorem evQ_args {f : Ev → AV} {args : List AV} {H : AH} {v : AV} {ft : List Nat} {pr : Option Prop} (h : evQ f args H = some (v, ft, pr)) : ∃ e, args = [e.av] ∧ v = f e ∧ pr = some e.ok := by
  unfold evQ at h
  split at h
  · split at h
    · rename_i e he
      simp at h
      rw [evOf_eq he]
      exact ⟨e, rfl, h.1.symm, h.2.2.symm⟩
    · simp at h
  · simp at h

noncomputable def TJ3 : CT Try.prog :=
  (TJ2.addQ 19 (evQ fun e => .b (rightB e)) (by kernel_rfl) fun _ _ _ _ _ h hp r w _ => by
    obtain ⟨e, rfl, rfl, rfl⟩ := evQ_args h
    exact right_run e hp.some r w).addQ 20 (evQ fun e => .b (rightB e)) (by kernel_rfl) fun _ _ _ _ _ h hp r w _ => by
    obtain ⟨e, rfl, rfl, rfl⟩ := evQ_args h
    exact rright_run e hp.some r w

def readyB (v : Vec) (e : Ev) : Bool := rightB e && decide (v.get e.d.a.toNat = e.d.s - 1) && withinB e.p v

theorem right_bounds {e : Ev} (h : rightB e = true) : e.d.a < 8 ∧ e.d.s ≠ 0 ∧ e.d.s ≤ 1048576 ∧ e.p.get e.d.a.toNat = e.d.s - 1 := by
  simp only [rightB, Bool.and_eq_true, decide_eq_true_eq] at h
  exact ⟨h.1.1.1.1.1, h.1.1.1.1.2, h.1.1.1.2, h.1.1.2⟩

theorem ready_run (v : Vec) (e : Ev) (he : e.ok) (r : Gh) (w : World) :
    Calls Try.prog 21 ([v.av, e.av].map (AV.conc r)).toArray w fun x w' => x = .returned (.bool (readyB v e)) ∧ Below w.heap.size w w' := by
  have a0 := he.d.a0
  cases h1 : (rightB e) with
  | false =>
    refine fnP_leaf (T := TJ3) hmx (D := [Dec.s (1003 : Nat) (7 : Nat) false]) (v := Value.bool false) (ps := [e.ok, rightB e = false]) (by kernel_rfl) ⟨?_, h1, trivial⟩ ?_ r w
    all_goals (
      first
      | exact he
      | (refine congrArg Value.bool ?_; simp [readyB, h1]; done)
      | (have hb := right_bounds h1
         have := vec_cv v e.d.a.toNat (by omega); simpa using this)
      | (have hb := right_bounds h1
         exact ⟨by omega, by omega⟩)
      | (have hb := right_bounds h1
         have hs0 := he.d.s0
         have hs1 := he.d.s1
         rw [wrap_u32 (by omega) (by omega)] at h2
         have h3 : decide (v.get e.d.a.toNat = e.d.s - 1) = _ := h2
         refine congrArg Value.bool ?_
         simp [readyB, h1, h3]))
  | true =>
    cases h2 : (v.get e.d.a.toNat == IntKind.u32.wrap (e.d.s - (1 : Int))) with
    | false =>
      refine fnP_leaf (T := TJ3) hmx (D := [Dec.s (1003 : Nat) (7 : Nat) true, Dec.l (1007 : Nat) (TV.one (CV.rig (Value.int IntKind.u32 (v.get e.d.a.toNat)))), Dec.s (1015 : Nat) (19 : Nat) false]) (v := Value.bool false) (ps := [e.ok, rightB e = true, (0 : Int) ≤ e.d.a ∧ e.d.a < (↑(8 : Nat) : Int), [CV.rig (Value.int IntKind.u32 v.x0), CV.rig (Value.int IntKind.u32 v.x1), CV.rig (Value.int IntKind.u32 v.x2), CV.rig (Value.int IntKind.u32 v.x3), CV.rig (Value.int IntKind.u32 v.x4), CV.rig (Value.int IntKind.u32 v.x5), CV.rig (Value.int IntKind.u32 v.x6), CV.rig (Value.int IntKind.u32 v.x7)][(0 : Nat) + e.d.a.toNat * (1 : Nat)]? = some (CV.rig (Value.int IntKind.u32 (v.get e.d.a.toNat))), (v.get e.d.a.toNat == IntKind.u32.wrap (e.d.s - (1 : Int))) = false]) (by kernel_rfl) ⟨?_, h1, ?_, ?_, h2, trivial⟩ ?_ r w
      all_goals (
        first
        | exact he
        | (refine congrArg Value.bool ?_; simp [readyB, h1]; done)
        | (have hb := right_bounds h1
           have := vec_cv v e.d.a.toNat (by omega); simpa using this)
        | (have hb := right_bounds h1
           exact ⟨by omega, by omega⟩)
        | (have hb := right_bounds h1
           have hs0 := he.d.s0
           have hs1 := he.d.s1
           rw [wrap_u32 (by omega) (by omega)] at h2
           have h3 : decide (v.get e.d.a.toNat = e.d.s - 1) = _ := h2
           refine congrArg Value.bool ?_
           simp [readyB, h1, h3]))
    | true =>
      refine fnP_leaf (T := TJ3) hmx (D := [Dec.s (1003 : Nat) (7 : Nat) true, Dec.l (1007 : Nat) (TV.one (CV.rig (Value.int IntKind.u32 (v.get e.d.a.toNat)))), Dec.s (1015 : Nat) (19 : Nat) true]) (v := Value.bool (withinB e.p v)) (ps := [e.ok, rightB e = true, (0 : Int) ≤ e.d.a ∧ e.d.a < (↑(8 : Nat) : Int), [CV.rig (Value.int IntKind.u32 v.x0), CV.rig (Value.int IntKind.u32 v.x1), CV.rig (Value.int IntKind.u32 v.x2), CV.rig (Value.int IntKind.u32 v.x3), CV.rig (Value.int IntKind.u32 v.x4), CV.rig (Value.int IntKind.u32 v.x5), CV.rig (Value.int IntKind.u32 v.x6), CV.rig (Value.int IntKind.u32 v.x7)][(0 : Nat) + e.d.a.toNat * (1 : Nat)]? = some (CV.rig (Value.int IntKind.u32 (v.get e.d.a.toNat))), (v.get e.d.a.toNat == IntKind.u32.wrap (e.d.s - (1 : Int))) = true]) (by kernel_rfl) ⟨?_, h1, ?_, ?_, h2, trivial⟩ ?_ r w
      all_goals (
        first
        | exact he
        | (refine congrArg Value.bool ?_; simp [readyB, h1]; done)
        | (have hb := right_bounds h1
           have := vec_cv v e.d.a.toNat (by omega); simpa using this)
        | (have hb := right_bounds h1
           exact ⟨by omega, by omega⟩)
        | (have hb := right_bounds h1
           have hs0 := he.d.s0
           have hs1 := he.d.s1
           rw [wrap_u32 (by omega) (by omega)] at h2
           have h3 : decide (v.get e.d.a.toNat = e.d.s - 1) = _ := h2
           refine congrArg Value.bool ?_
           simp [readyB, h1, h3]))


theorem rready_run (v : Vec) (hv : v.ok) (e : Ev) (he : e.ok) (r : Gh) (w : World) :
    Calls Try.prog 22 ([v.av, e.av].map (AV.conc r)).toArray w fun x w' => x = .returned (.bool (readyB v e)) ∧ Below w.heap.size w w' := by
  have a0 := he.d.a0
  cases h1 : (rightB e) with
  | false =>
    refine fnP_leaf (T := TJ3) hmx (D := [Dec.s (1003 : Nat) (7 : Nat) false]) (v := Value.bool false) (ps := [e.ok, rightB e = false]) (by kernel_rfl) ⟨?_, h1, trivial⟩ ?_ r w
    all_goals (
      first
      | exact he
      | (refine congrArg Value.bool ?_; simp [readyB, h1]; done)
      | (have hb := right_bounds h1
         have := vec_cv v e.d.a.toNat (by omega); simpa using this)
      | (have hb := right_bounds h1
         exact ⟨by omega, by omega⟩)
      | (have hb := right_bounds h1
         have hs0 := he.d.s0
         have hs1 := he.d.s1
         have g0 := hv.ge e.d.a.toNat
         have g1 := hv.lt e.d.a.toNat
         have h3 : decide (v.get e.d.a.toNat = e.d.s - 1) = _ := Eq.trans (by rw [Bool.eq_iff_iff]; simp only [IntKind.wrap, IntKind.bits, IntKind.signed, beq_iff_eq, decide_eq_true_eq]; simp; omega) h2
         refine congrArg Value.bool ?_
         simp [readyB, h1, h3]))
  | true =>
    cases h2 : (e.d.s == IntKind.u32.wrap (v.get e.d.a.toNat + (1 : Int))) with
    | false =>
      refine fnP_leaf (T := TJ3) hmx (D := [Dec.s (1003 : Nat) (7 : Nat) true, Dec.l (1010 : Nat) (TV.one (CV.rig (Value.int IntKind.u32 (v.get e.d.a.toNat)))), Dec.s (1015 : Nat) (19 : Nat) false]) (v := Value.bool false) (ps := [e.ok, rightB e = true, (0 : Int) ≤ e.d.a ∧ e.d.a < (↑(8 : Nat) : Int), [CV.rig (Value.int IntKind.u32 v.x0), CV.rig (Value.int IntKind.u32 v.x1), CV.rig (Value.int IntKind.u32 v.x2), CV.rig (Value.int IntKind.u32 v.x3), CV.rig (Value.int IntKind.u32 v.x4), CV.rig (Value.int IntKind.u32 v.x5), CV.rig (Value.int IntKind.u32 v.x6), CV.rig (Value.int IntKind.u32 v.x7)][(0 : Nat) + e.d.a.toNat * (1 : Nat)]? = some (CV.rig (Value.int IntKind.u32 (v.get e.d.a.toNat))), (e.d.s == IntKind.u32.wrap (v.get e.d.a.toNat + (1 : Int))) = false]) (by kernel_rfl) ⟨?_, h1, ?_, ?_, h2, trivial⟩ ?_ r w
      all_goals (
        first
        | exact he
        | (refine congrArg Value.bool ?_; simp [readyB, h1]; done)
        | (have hb := right_bounds h1
           have := vec_cv v e.d.a.toNat (by omega); simpa using this)
        | (have hb := right_bounds h1
           exact ⟨by omega, by omega⟩)
        | (have hb := right_bounds h1
           have hs0 := he.d.s0
           have hs1 := he.d.s1
           have g0 := hv.ge e.d.a.toNat
           have g1 := hv.lt e.d.a.toNat
           have h3 : decide (v.get e.d.a.toNat = e.d.s - 1) = _ := Eq.trans (by rw [Bool.eq_iff_iff]; simp only [IntKind.wrap, IntKind.bits, IntKind.signed, beq_iff_eq, decide_eq_true_eq]; simp; omega) h2
           refine congrArg Value.bool ?_
           simp [readyB, h1, h3]))
    | true =>
      refine fnP_leaf (T := TJ3) hmx (D := [Dec.s (1003 : Nat) (7 : Nat) true, Dec.l (1010 : Nat) (TV.one (CV.rig (Value.int IntKind.u32 (v.get e.d.a.toNat)))), Dec.s (1015 : Nat) (19 : Nat) true]) (v := Value.bool (withinB e.p v)) (ps := [e.ok, rightB e = true, (0 : Int) ≤ e.d.a ∧ e.d.a < (↑(8 : Nat) : Int), [CV.rig (Value.int IntKind.u32 v.x0), CV.rig (Value.int IntKind.u32 v.x1), CV.rig (Value.int IntKind.u32 v.x2), CV.rig (Value.int IntKind.u32 v.x3), CV.rig (Value.int IntKind.u32 v.x4), CV.rig (Value.int IntKind.u32 v.x5), CV.rig (Value.int IntKind.u32 v.x6), CV.rig (Value.int IntKind.u32 v.x7)][(0 : Nat) + e.d.a.toNat * (1 : Nat)]? = some (CV.rig (Value.int IntKind.u32 (v.get e.d.a.toNat))), (e.d.s == IntKind.u32.wrap (v.get e.d.a.toNat + (1 : Int))) = true]) (by kernel_rfl) ⟨?_, h1, ?_, ?_, h2, trivial⟩ ?_ r w
      all_goals (
        first
        | exact he
        | (refine congrArg Value.bool ?_; simp [readyB, h1]; done)
        | (have hb := right_bounds h1
           have := vec_cv v e.d.a.toNat (by omega); simpa using this)
        | (have hb := right_bounds h1
           exact ⟨by omega, by omega⟩)
        | (have hb := right_bounds h1
           have hs0 := he.d.s0
           have hs1 := he.d.s1
           have g0 := hv.ge e.d.a.toNat
           have g1 := hv.lt e.d.a.toNat
           have h3 : decide (v.get e.d.a.toNat = e.d.s - 1) = _ := Eq.trans (by rw [Bool.eq_iff_iff]; simp only [IntKind.wrap, IntKind.bits, IntKind.signed, beq_iff_eq, decide_eq_true_eq]; simp; omega) h2
           refine congrArg Value.bool ?_
           simp [readyB, h1, h3]))


end Go.Proofs.Ytobonipmnidadaa
