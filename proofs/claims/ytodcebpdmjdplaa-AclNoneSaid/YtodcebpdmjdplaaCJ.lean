/- AclFirst: the walk. -/
import Derived.Test.YtodcebpdmjdplaaCI
namespace Go.Proofs.Ytodcebpdmjdplaa
open Go.RowKit

theorem roleM_nil (who : Int) (v : Vec) : roleM [] who v = if who = 0 then 3 else 0 := by
  unfold roleM
  by_cases h : who = 0
  · subst h; simp [aboutL, someOf, leastOf]
  · simp [aboutL, someOf, leastOf, h]

theorem addM_nil (e : Ev) : addM [] e = if rightB e = true ∧ (e.k = 3 ∨ e.k = 4) then (0, [(e, decide (e.d.a = 0))]) else (3, []) := by
  unfold addM
  have hf : findL [] e.d = none := rfl
  simp only [hf, roleM_nil]
  cases hr : rightB e with
  | false => simp
  | true =>
    by_cases h3 : e.k = 3
    · by_cases h0 : e.d.a = 0 <;> simp [h3, h0]
    · by_cases h4 : e.k = 4
      · by_cases h0 : e.d.a = 0 <;> simp [h4, h0]
      · simp [h3, h4]

theorem nil_ok : ∀ p ∈ ([] : Bk), p.1.ok := fun p hp => by cases hp
theorem addM_nil_ok {e : Ev} (he : e.ok) : ∀ p ∈ (addM [] e).2, p.1.ok := fun p hp => by
  rw [addM_nil] at hp
  split at hp
  · simp at hp; rw [hp]; exact he
  · cases hp

theorem first_roles (v : Vec) : Vec.mk (roleM [] 0 v) (roleM [] 1 v) (roleM [] 2 v) (roleM [] 3 v) (roleM [] 4 v) (roleM [] 5 v) (roleM [] 6 v) (roleM [] 7 v) = Vec.mk 3 0 0 0 0 0 0 0 := by
  simp [roleM_nil]

theorem got_one (e : Ev) (b : Bool) : gotL [(e, b)] e.d = (e, b) := by simp [gotL, findL]
theorem got_nil (d : Dot) : gotL [] d = (zeroEv, false) := rfl

theorem first_walk (v : Vec) (hv : v.ok) (e : Ev) (he : e.ok) (r : Nat → Nat) (w : World) :
    Calls Try.prog 9 (([v.av, e.av].map (AV.conc r)).toArray) w fun x w' => x = .returned (.bool true) ∧ Below w.heap.size w w' := by
  cases h1 : (!decide     (Vec.mk (roleM (bkOf (mapO [])) (0 : Int) v) (roleM (bkOf (mapO [])) (1 : Int) v)         (roleM (bkOf (mapO [])) (2 : Int) v) (roleM (bkOf (mapO [])) (3 : Int) v) (roleM (bkOf (mapO [])) (4 : Int) v)         (roleM (bkOf (mapO [])) (5 : Int) v) (roleM (bkOf (mapO [])) (6 : Int) v) (roleM (bkOf (mapO [])) (7 : Int) v) =       Vec.mk (3 : Int) (0 : Int) (0 : Int) (0 : Int) (0 : Int) (0 : Int) (0 : Int) (0 : Int))) with
  | false =>
    cases h2 : (e.k != (3 : Int)) with
    | false =>
      cases h3 : (((addM (bkOf (mapO [])) e).fst == (0 : Int)) == rightB e) with
      | false =>
        refine fnP_leaf (T := T9) hmx (D := [Dec.c (12 : Nat) false, Dec.s (4004 : Nat) (16 : Nat) false, Dec.s (7009 : Nat) (44 : Nat) false]) (v := Value.bool false) (ps := [IsBk (mapO []) ∧ ∀ (p : Ev × Bool), p ∈ bkOf (mapO []) → p.fst.ok, (!decide (Vec.mk (roleM (bkOf (mapO [])) (0 : Int) v) (roleM (bkOf (mapO [])) (1 : Int) v) (roleM (bkOf (mapO [])) (2 : Int) v) (roleM (bkOf (mapO [])) (3 : Int) v) (roleM (bkOf (mapO [])) (4 : Int) v) (roleM (bkOf (mapO [])) (5 : Int) v) (roleM (bkOf (mapO [])) (6 : Int) v) (roleM (bkOf (mapO [])) (7 : Int) v) = Vec.mk (3 : Int) (0 : Int) (0 : Int) (0 : Int) (0 : Int) (0 : Int) (0 : Int) (0 : Int))) = false, (e.k != (3 : Int)) = false, IsBk (mapO []) ∧ (∀ (p : Ev × Bool), p ∈ bkOf (mapO []) → p.fst.ok) ∧ e.ok, e.ok, (((addM (bkOf (mapO [])) e).fst == (0 : Int)) == rightB e) = false]) (by kernel_rfl) ⟨?_, h1, h2, ?_, ?_, h3, trivial⟩ ?_ r w
        all_goals (
          first
          | exact isBk_mapO _
          | exact he
          | exact ⟨isBk_mapO _, by rw [bkOf_mapO]; exact nil_ok⟩
          | exact ⟨isBk_mapO _, by rw [bkOf_mapO]; exact nil_ok, he⟩
          | (simp only [bkOf_mapO, first_roles] at *; simp at h1; done)
          | (congr 1; simp only [bkOf_mapO, addM_nil] at *; grind [got_one, got_nil]))
      | true =>
        cases h4 : (decide (↑(List.length (bkOf (mapO (addM (bkOf (mapO [])) e).snd))) ≤ (1 : Int))) with
        | false =>
          refine fnP_leaf (T := T9) hmx (D := [Dec.c (12 : Nat) false, Dec.s (4004 : Nat) (16 : Nat) false, Dec.s (7009 : Nat) (44 : Nat) true, Dec.s (7014 : Nat) (49 : Nat) false]) (v := Value.bool false) (ps := [IsBk (mapO []) ∧ ∀ (p : Ev × Bool), p ∈ bkOf (mapO []) → p.fst.ok, (!decide (Vec.mk (roleM (bkOf (mapO [])) (0 : Int) v) (roleM (bkOf (mapO [])) (1 : Int) v) (roleM (bkOf (mapO [])) (2 : Int) v) (roleM (bkOf (mapO [])) (3 : Int) v) (roleM (bkOf (mapO [])) (4 : Int) v) (roleM (bkOf (mapO [])) (5 : Int) v) (roleM (bkOf (mapO [])) (6 : Int) v) (roleM (bkOf (mapO [])) (7 : Int) v) = Vec.mk (3 : Int) (0 : Int) (0 : Int) (0 : Int) (0 : Int) (0 : Int) (0 : Int) (0 : Int))) = false, (e.k != (3 : Int)) = false, IsBk (mapO []) ∧ (∀ (p : Ev × Bool), p ∈ bkOf (mapO []) → p.fst.ok) ∧ e.ok, e.ok, (((addM (bkOf (mapO [])) e).fst == (0 : Int)) == rightB e) = true, IsBk (mapO (addM (bkOf (mapO [])) e).snd), decide (↑(List.length (bkOf (mapO (addM (bkOf (mapO [])) e).snd))) ≤ (1 : Int)) = false]) (by kernel_rfl) ⟨?_, h1, h2, ?_, ?_, h3, ?_, h4, trivial⟩ ?_ r w
          all_goals (
            first
            | exact isBk_mapO _
            | exact he
            | exact ⟨isBk_mapO _, by rw [bkOf_mapO]; exact nil_ok⟩
            | exact ⟨isBk_mapO _, by rw [bkOf_mapO]; exact nil_ok, he⟩
            | (simp only [bkOf_mapO, first_roles] at *; simp at h1; done)
            | (congr 1; simp only [bkOf_mapO, addM_nil] at *; grind [got_one, got_nil]))
        | true =>
          cases h5 : ((addM (bkOf (mapO [])) e).fst == (0 : Int)) with
          | false =>
            refine fnP_leaf (T := T9) hmx (D := [Dec.c (12 : Nat) false, Dec.s (4004 : Nat) (16 : Nat) false, Dec.s (7009 : Nat) (44 : Nat) true, Dec.s (7014 : Nat) (49 : Nat) true, Dec.s (7021 : Nat) (56 : Nat) false]) (v := Value.bool ((gotL (bkOf (mapO (addM (bkOf (mapO [])) e).snd)) e.d).snd == false)) (ps := [IsBk (mapO []) ∧ ∀ (p : Ev × Bool), p ∈ bkOf (mapO []) → p.fst.ok, (!decide (Vec.mk (roleM (bkOf (mapO [])) (0 : Int) v) (roleM (bkOf (mapO [])) (1 : Int) v) (roleM (bkOf (mapO [])) (2 : Int) v) (roleM (bkOf (mapO [])) (3 : Int) v) (roleM (bkOf (mapO [])) (4 : Int) v) (roleM (bkOf (mapO [])) (5 : Int) v) (roleM (bkOf (mapO [])) (6 : Int) v) (roleM (bkOf (mapO [])) (7 : Int) v) = Vec.mk (3 : Int) (0 : Int) (0 : Int) (0 : Int) (0 : Int) (0 : Int) (0 : Int) (0 : Int))) = false, (e.k != (3 : Int)) = false, IsBk (mapO []) ∧ (∀ (p : Ev × Bool), p ∈ bkOf (mapO []) → p.fst.ok) ∧ e.ok, e.ok, (((addM (bkOf (mapO [])) e).fst == (0 : Int)) == rightB e) = true, IsBk (mapO (addM (bkOf (mapO [])) e).snd), decide (↑(List.length (bkOf (mapO (addM (bkOf (mapO [])) e).snd))) ≤ (1 : Int)) = true, IsBk (mapO (addM (bkOf (mapO [])) e).snd), ((addM (bkOf (mapO [])) e).fst == (0 : Int)) = false]) (by kernel_rfl) ⟨?_, h1, h2, ?_, ?_, h3, ?_, h4, ?_, h5, trivial⟩ ?_ r w
            all_goals (
              first
              | exact isBk_mapO _
              | exact he
              | exact ⟨isBk_mapO _, by rw [bkOf_mapO]; exact nil_ok⟩
              | exact ⟨isBk_mapO _, by rw [bkOf_mapO]; exact nil_ok, he⟩
              | (simp only [bkOf_mapO, first_roles] at *; simp at h1; done)
              | (congr 1; simp only [bkOf_mapO, addM_nil] at *; grind [got_one, got_nil]))
          | true =>
            refine fnP_leaf (T := T9) hmx (D := [Dec.c (12 : Nat) false, Dec.s (4004 : Nat) (16 : Nat) false, Dec.s (7009 : Nat) (44 : Nat) true, Dec.s (7014 : Nat) (49 : Nat) true, Dec.s (7021 : Nat) (56 : Nat) true]) (v := Value.bool ((gotL (bkOf (mapO (addM (bkOf (mapO [])) e).snd)) e.d).snd == (e.d.a == (0 : Int)))) (ps := [IsBk (mapO []) ∧ ∀ (p : Ev × Bool), p ∈ bkOf (mapO []) → p.fst.ok, (!decide (Vec.mk (roleM (bkOf (mapO [])) (0 : Int) v) (roleM (bkOf (mapO [])) (1 : Int) v) (roleM (bkOf (mapO [])) (2 : Int) v) (roleM (bkOf (mapO [])) (3 : Int) v) (roleM (bkOf (mapO [])) (4 : Int) v) (roleM (bkOf (mapO [])) (5 : Int) v) (roleM (bkOf (mapO [])) (6 : Int) v) (roleM (bkOf (mapO [])) (7 : Int) v) = Vec.mk (3 : Int) (0 : Int) (0 : Int) (0 : Int) (0 : Int) (0 : Int) (0 : Int) (0 : Int))) = false, (e.k != (3 : Int)) = false, IsBk (mapO []) ∧ (∀ (p : Ev × Bool), p ∈ bkOf (mapO []) → p.fst.ok) ∧ e.ok, e.ok, (((addM (bkOf (mapO [])) e).fst == (0 : Int)) == rightB e) = true, IsBk (mapO (addM (bkOf (mapO [])) e).snd), decide (↑(List.length (bkOf (mapO (addM (bkOf (mapO [])) e).snd))) ≤ (1 : Int)) = true, IsBk (mapO (addM (bkOf (mapO [])) e).snd), ((addM (bkOf (mapO [])) e).fst == (0 : Int)) = true]) (by kernel_rfl) ⟨?_, h1, h2, ?_, ?_, h3, ?_, h4, ?_, h5, trivial⟩ ?_ r w
            all_goals (
              first
              | exact isBk_mapO _
              | exact he
              | exact ⟨isBk_mapO _, by rw [bkOf_mapO]; exact nil_ok⟩
              | exact ⟨isBk_mapO _, by rw [bkOf_mapO]; exact nil_ok, he⟩
              | (simp only [bkOf_mapO, first_roles] at *; simp at h1; done)
              | (congr 1; simp only [bkOf_mapO, addM_nil] at *; grind [got_one, got_nil]))
    | true =>
      cases h3 : (e.k != (4 : Int)) with
      | false =>
        cases h4 : (((addM (bkOf (mapO [])) e).fst == (0 : Int)) == rightB e) with
        | false =>
          refine fnP_leaf (T := T9) hmx (D := [Dec.c (12 : Nat) false, Dec.s (4004 : Nat) (16 : Nat) true, Dec.c (20 : Nat) false, Dec.s (7009 : Nat) (44 : Nat) false]) (v := Value.bool false) (ps := [IsBk (mapO []) ∧ ∀ (p : Ev × Bool), p ∈ bkOf (mapO []) → p.fst.ok, (!decide (Vec.mk (roleM (bkOf (mapO [])) (0 : Int) v) (roleM (bkOf (mapO [])) (1 : Int) v) (roleM (bkOf (mapO [])) (2 : Int) v) (roleM (bkOf (mapO [])) (3 : Int) v) (roleM (bkOf (mapO [])) (4 : Int) v) (roleM (bkOf (mapO [])) (5 : Int) v) (roleM (bkOf (mapO [])) (6 : Int) v) (roleM (bkOf (mapO [])) (7 : Int) v) = Vec.mk (3 : Int) (0 : Int) (0 : Int) (0 : Int) (0 : Int) (0 : Int) (0 : Int) (0 : Int))) = false, (e.k != (3 : Int)) = true, (e.k != (4 : Int)) = false, IsBk (mapO []) ∧ (∀ (p : Ev × Bool), p ∈ bkOf (mapO []) → p.fst.ok) ∧ e.ok, e.ok, (((addM (bkOf (mapO [])) e).fst == (0 : Int)) == rightB e) = false]) (by kernel_rfl) ⟨?_, h1, h2, h3, ?_, ?_, h4, trivial⟩ ?_ r w
          all_goals (
            first
            | exact isBk_mapO _
            | exact he
            | exact ⟨isBk_mapO _, by rw [bkOf_mapO]; exact nil_ok⟩
            | exact ⟨isBk_mapO _, by rw [bkOf_mapO]; exact nil_ok, he⟩
            | (simp only [bkOf_mapO, first_roles] at *; simp at h1; done)
            | (congr 1; simp only [bkOf_mapO, addM_nil] at *; grind [got_one, got_nil]))
        | true =>
          cases h5 : (decide (↑(List.length (bkOf (mapO (addM (bkOf (mapO [])) e).snd))) ≤ (1 : Int))) with
          | false =>
            refine fnP_leaf (T := T9) hmx (D := [Dec.c (12 : Nat) false, Dec.s (4004 : Nat) (16 : Nat) true, Dec.c (20 : Nat) false, Dec.s (7009 : Nat) (44 : Nat) true, Dec.s (7014 : Nat) (49 : Nat) false]) (v := Value.bool false) (ps := [IsBk (mapO []) ∧ ∀ (p : Ev × Bool), p ∈ bkOf (mapO []) → p.fst.ok, (!decide (Vec.mk (roleM (bkOf (mapO [])) (0 : Int) v) (roleM (bkOf (mapO [])) (1 : Int) v) (roleM (bkOf (mapO [])) (2 : Int) v) (roleM (bkOf (mapO [])) (3 : Int) v) (roleM (bkOf (mapO [])) (4 : Int) v) (roleM (bkOf (mapO [])) (5 : Int) v) (roleM (bkOf (mapO [])) (6 : Int) v) (roleM (bkOf (mapO [])) (7 : Int) v) = Vec.mk (3 : Int) (0 : Int) (0 : Int) (0 : Int) (0 : Int) (0 : Int) (0 : Int) (0 : Int))) = false, (e.k != (3 : Int)) = true, (e.k != (4 : Int)) = false, IsBk (mapO []) ∧ (∀ (p : Ev × Bool), p ∈ bkOf (mapO []) → p.fst.ok) ∧ e.ok, e.ok, (((addM (bkOf (mapO [])) e).fst == (0 : Int)) == rightB e) = true, IsBk (mapO (addM (bkOf (mapO [])) e).snd), decide (↑(List.length (bkOf (mapO (addM (bkOf (mapO [])) e).snd))) ≤ (1 : Int)) = false]) (by kernel_rfl) ⟨?_, h1, h2, h3, ?_, ?_, h4, ?_, h5, trivial⟩ ?_ r w
            all_goals (
              first
              | exact isBk_mapO _
              | exact he
              | exact ⟨isBk_mapO _, by rw [bkOf_mapO]; exact nil_ok⟩
              | exact ⟨isBk_mapO _, by rw [bkOf_mapO]; exact nil_ok, he⟩
              | (simp only [bkOf_mapO, first_roles] at *; simp at h1; done)
              | (congr 1; simp only [bkOf_mapO, addM_nil] at *; grind [got_one, got_nil]))
          | true =>
            cases h6 : ((addM (bkOf (mapO [])) e).fst == (0 : Int)) with
            | false =>
              refine fnP_leaf (T := T9) hmx (D := [Dec.c (12 : Nat) false, Dec.s (4004 : Nat) (16 : Nat) true, Dec.c (20 : Nat) false, Dec.s (7009 : Nat) (44 : Nat) true, Dec.s (7014 : Nat) (49 : Nat) true, Dec.s (7021 : Nat) (56 : Nat) false]) (v := Value.bool ((gotL (bkOf (mapO (addM (bkOf (mapO [])) e).snd)) e.d).snd == false)) (ps := [IsBk (mapO []) ∧ ∀ (p : Ev × Bool), p ∈ bkOf (mapO []) → p.fst.ok, (!decide (Vec.mk (roleM (bkOf (mapO [])) (0 : Int) v) (roleM (bkOf (mapO [])) (1 : Int) v) (roleM (bkOf (mapO [])) (2 : Int) v) (roleM (bkOf (mapO [])) (3 : Int) v) (roleM (bkOf (mapO [])) (4 : Int) v) (roleM (bkOf (mapO [])) (5 : Int) v) (roleM (bkOf (mapO [])) (6 : Int) v) (roleM (bkOf (mapO [])) (7 : Int) v) = Vec.mk (3 : Int) (0 : Int) (0 : Int) (0 : Int) (0 : Int) (0 : Int) (0 : Int) (0 : Int))) = false, (e.k != (3 : Int)) = true, (e.k != (4 : Int)) = false, IsBk (mapO []) ∧ (∀ (p : Ev × Bool), p ∈ bkOf (mapO []) → p.fst.ok) ∧ e.ok, e.ok, (((addM (bkOf (mapO [])) e).fst == (0 : Int)) == rightB e) = true, IsBk (mapO (addM (bkOf (mapO [])) e).snd), decide (↑(List.length (bkOf (mapO (addM (bkOf (mapO [])) e).snd))) ≤ (1 : Int)) = true, IsBk (mapO (addM (bkOf (mapO [])) e).snd), ((addM (bkOf (mapO [])) e).fst == (0 : Int)) = false]) (by kernel_rfl) ⟨?_, h1, h2, h3, ?_, ?_, h4, ?_, h5, ?_, h6, trivial⟩ ?_ r w
              all_goals (
                first
                | exact isBk_mapO _
                | exact he
                | exact ⟨isBk_mapO _, by rw [bkOf_mapO]; exact nil_ok⟩
                | exact ⟨isBk_mapO _, by rw [bkOf_mapO]; exact nil_ok, he⟩
                | (simp only [bkOf_mapO, first_roles] at *; simp at h1; done)
                | (congr 1; simp only [bkOf_mapO, addM_nil] at *; grind [got_one, got_nil]))
            | true =>
              refine fnP_leaf (T := T9) hmx (D := [Dec.c (12 : Nat) false, Dec.s (4004 : Nat) (16 : Nat) true, Dec.c (20 : Nat) false, Dec.s (7009 : Nat) (44 : Nat) true, Dec.s (7014 : Nat) (49 : Nat) true, Dec.s (7021 : Nat) (56 : Nat) true]) (v := Value.bool ((gotL (bkOf (mapO (addM (bkOf (mapO [])) e).snd)) e.d).snd == (e.d.a == (0 : Int)))) (ps := [IsBk (mapO []) ∧ ∀ (p : Ev × Bool), p ∈ bkOf (mapO []) → p.fst.ok, (!decide (Vec.mk (roleM (bkOf (mapO [])) (0 : Int) v) (roleM (bkOf (mapO [])) (1 : Int) v) (roleM (bkOf (mapO [])) (2 : Int) v) (roleM (bkOf (mapO [])) (3 : Int) v) (roleM (bkOf (mapO [])) (4 : Int) v) (roleM (bkOf (mapO [])) (5 : Int) v) (roleM (bkOf (mapO [])) (6 : Int) v) (roleM (bkOf (mapO [])) (7 : Int) v) = Vec.mk (3 : Int) (0 : Int) (0 : Int) (0 : Int) (0 : Int) (0 : Int) (0 : Int) (0 : Int))) = false, (e.k != (3 : Int)) = true, (e.k != (4 : Int)) = false, IsBk (mapO []) ∧ (∀ (p : Ev × Bool), p ∈ bkOf (mapO []) → p.fst.ok) ∧ e.ok, e.ok, (((addM (bkOf (mapO [])) e).fst == (0 : Int)) == rightB e) = true, IsBk (mapO (addM (bkOf (mapO [])) e).snd), decide (↑(List.length (bkOf (mapO (addM (bkOf (mapO [])) e).snd))) ≤ (1 : Int)) = true, IsBk (mapO (addM (bkOf (mapO [])) e).snd), ((addM (bkOf (mapO [])) e).fst == (0 : Int)) = true]) (by kernel_rfl) ⟨?_, h1, h2, h3, ?_, ?_, h4, ?_, h5, ?_, h6, trivial⟩ ?_ r w
              all_goals (
                first
                | exact isBk_mapO _
                | exact he
                | exact ⟨isBk_mapO _, by rw [bkOf_mapO]; exact nil_ok⟩
                | exact ⟨isBk_mapO _, by rw [bkOf_mapO]; exact nil_ok, he⟩
                | (simp only [bkOf_mapO, first_roles] at *; simp at h1; done)
                | (congr 1; simp only [bkOf_mapO, addM_nil] at *; grind [got_one, got_nil]))
      | true =>
        cases h4 : ((addM (bkOf (mapO [])) e).fst == (3 : Int)) with
        | false =>
          refine fnP_leaf (T := T9) hmx (D := [Dec.c (12 : Nat) false, Dec.s (4004 : Nat) (16 : Nat) true, Dec.c (20 : Nat) true, Dec.s (5008 : Nat) (28 : Nat) false]) (v := Value.bool false) (ps := [IsBk (mapO []) ∧ ∀ (p : Ev × Bool), p ∈ bkOf (mapO []) → p.fst.ok, (!decide (Vec.mk (roleM (bkOf (mapO [])) (0 : Int) v) (roleM (bkOf (mapO [])) (1 : Int) v) (roleM (bkOf (mapO [])) (2 : Int) v) (roleM (bkOf (mapO [])) (3 : Int) v) (roleM (bkOf (mapO [])) (4 : Int) v) (roleM (bkOf (mapO [])) (5 : Int) v) (roleM (bkOf (mapO [])) (6 : Int) v) (roleM (bkOf (mapO [])) (7 : Int) v) = Vec.mk (3 : Int) (0 : Int) (0 : Int) (0 : Int) (0 : Int) (0 : Int) (0 : Int) (0 : Int))) = false, (e.k != (3 : Int)) = true, (e.k != (4 : Int)) = true, IsBk (mapO []) ∧ (∀ (p : Ev × Bool), p ∈ bkOf (mapO []) → p.fst.ok) ∧ e.ok, ((addM (bkOf (mapO [])) e).fst == (3 : Int)) = false]) (by kernel_rfl) ⟨?_, h1, h2, h3, ?_, h4, trivial⟩ ?_ r w
          all_goals (
            first
            | exact isBk_mapO _
            | exact he
            | exact ⟨isBk_mapO _, by rw [bkOf_mapO]; exact nil_ok⟩
            | exact ⟨isBk_mapO _, by rw [bkOf_mapO]; exact nil_ok, he⟩
            | (simp only [bkOf_mapO, first_roles] at *; simp at h1; done)
            | (congr 1; simp only [bkOf_mapO, addM_nil] at *; grind [got_one, got_nil]))
        | true =>
          refine fnP_leaf (T := T9) hmx (D := [Dec.c (12 : Nat) false, Dec.s (4004 : Nat) (16 : Nat) true, Dec.c (20 : Nat) true, Dec.s (5008 : Nat) (28 : Nat) true]) (v := Value.bool (↑(List.length (bkOf (mapO (addM (bkOf (mapO [])) e).snd))) == (0 : Int))) (ps := [IsBk (mapO []) ∧ ∀ (p : Ev × Bool), p ∈ bkOf (mapO []) → p.fst.ok, (!decide (Vec.mk (roleM (bkOf (mapO [])) (0 : Int) v) (roleM (bkOf (mapO [])) (1 : Int) v) (roleM (bkOf (mapO [])) (2 : Int) v) (roleM (bkOf (mapO [])) (3 : Int) v) (roleM (bkOf (mapO [])) (4 : Int) v) (roleM (bkOf (mapO [])) (5 : Int) v) (roleM (bkOf (mapO [])) (6 : Int) v) (roleM (bkOf (mapO [])) (7 : Int) v) = Vec.mk (3 : Int) (0 : Int) (0 : Int) (0 : Int) (0 : Int) (0 : Int) (0 : Int) (0 : Int))) = false, (e.k != (3 : Int)) = true, (e.k != (4 : Int)) = true, IsBk (mapO []) ∧ (∀ (p : Ev × Bool), p ∈ bkOf (mapO []) → p.fst.ok) ∧ e.ok, ((addM (bkOf (mapO [])) e).fst == (3 : Int)) = true, IsBk (mapO (addM (bkOf (mapO [])) e).snd)]) (by kernel_rfl) ⟨?_, h1, h2, h3, ?_, h4, ?_, trivial⟩ ?_ r w
          all_goals (
            first
            | exact isBk_mapO _
            | exact he
            | exact ⟨isBk_mapO _, by rw [bkOf_mapO]; exact nil_ok⟩
            | exact ⟨isBk_mapO _, by rw [bkOf_mapO]; exact nil_ok, he⟩
            | (simp only [bkOf_mapO, first_roles] at *; simp at h1; done)
            | (congr 1; simp only [bkOf_mapO, addM_nil] at *; grind [got_one, got_nil]))
  | true =>
    refine fnP_leaf (T := T9) hmx (D := [Dec.c (12 : Nat) true]) (v := Value.bool false) (ps := [IsBk (mapO []) ∧ ∀ (p : Ev × Bool), p ∈ bkOf (mapO []) → p.fst.ok, (!decide (Vec.mk (roleM (bkOf (mapO [])) (0 : Int) v) (roleM (bkOf (mapO [])) (1 : Int) v) (roleM (bkOf (mapO [])) (2 : Int) v) (roleM (bkOf (mapO [])) (3 : Int) v) (roleM (bkOf (mapO [])) (4 : Int) v) (roleM (bkOf (mapO [])) (5 : Int) v) (roleM (bkOf (mapO [])) (6 : Int) v) (roleM (bkOf (mapO [])) (7 : Int) v) = Vec.mk (3 : Int) (0 : Int) (0 : Int) (0 : Int) (0 : Int) (0 : Int) (0 : Int) (0 : Int))) = true]) (by kernel_rfl) ⟨?_, h1, trivial⟩ ?_ r w
    all_goals (
      first
      | exact isBk_mapO _
      | exact he
      | exact ⟨isBk_mapO _, by rw [bkOf_mapO]; exact nil_ok⟩
      | exact ⟨isBk_mapO _, by rw [bkOf_mapO]; exact nil_ok, he⟩
      | (simp only [bkOf_mapO, first_roles] at *; simp at h1; done)
      | (congr 1; simp only [bkOf_mapO, addM_nil] at *; grind [got_one, got_nil]))


end Go.Proofs.Ytodcebpdmjdplaa
