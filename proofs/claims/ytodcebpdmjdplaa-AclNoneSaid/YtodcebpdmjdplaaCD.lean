/- The book's functions: each by a run. -/
import Derived.Test.YtodcebpdmjdplaaCC
namespace Go.Proofs.Ytodcebpdmjdplaa
open Go.RowKit

/-- A book, its map to be written, too. -/
def bkH (L : Bk) : AH := [(.cells [.mp 1] 65, 0), (.raw (mapO L), 2)]

theorem add_run {L : Bk} (hL : ∀ p ∈ L, p.1.ok) {e : Ev} (he : e.ok) {r : Nat → Nat} {W0 w : World} (hst : St r (bkH L) W0 w) :
    Calls Try.prog 15 (([.c (.ptr 0 0), e.av].map (AV.conc r)).toArray) w fun x w' => ∃ c L', (c, L') = addM L e ∧ x = .returned (.int .i64 c) ∧ St r (bkH L') W0 w' := by
  cases h1 : (!rightB e) with
  | false =>
    cases h2 : (e.k != (3 : Int)) with
    | false =>
      cases h3 : ((findL (bkOf (mapO L)) e.d).isSome) with
      | false =>
        cases h4 : (decide (↑(List.length (bkOf (mapO L))) ≥ (512 : Int))) with
        | false =>
          refine (fnA_keep hmx T6 [Dec.s (3004 : Nat) (12 : Nat) false, Dec.s (3008 : Nat) (16 : Nat) false, Dec.c (32 : Nat) false, Dec.c (38 : Nat) false] (AV.tv (TV.one (CV.rig (Value.int IntKind.i64 (0 : Int))))) [e.ok, (!rightB e) = false, (e.k != (3 : Int)) = false, IsBk (mapO L), (findL (bkOf (mapO L)) e.d).isSome = false, IsBk (mapO L), decide (↑(List.length (bkOf (mapO L))) ≥ (512 : Int)) = false, IsBk (mapO L) ∧ ∀ (p : Ev × Bool), p ∈ bkOf (mapO L) → p.fst.ok, IsBk (mapO L) ∧ findL (bkOf (mapO L)) e.d = none ∧ e.d = (e, roleM (bkOf (mapO L)) e.d.a e.p == (3 : Int)).fst.d] [(AO.cells [CV.mp (1 : Nat)] (65 : Nat), (0 : Nat)), (AO.raw (mapO (bkOf (mapO L) ++ [(e, roleM (bkOf (mapO L)) e.d.a e.p == (3 : Int))])), (2 : Nat))] (by kernel_rfl) (by kernel_rfl) ⟨?_, h1, h2, ?_, h3, ?_, h4, ?_, ?_, trivial⟩ (by kernel_rfl) (by kernel_rfl) (by kernel_rfl) (by kernel_rfl) hst).mono fun x w' hx => ⟨_, _, ?_, hx.1, hx.2⟩
          all_goals (
            first
            | exact he
            | exact isBk_mapO L
            | exact ⟨isBk_mapO L, by rw [bkOf_mapO]; exact hL⟩
            | exact ⟨isBk_mapO L, by simpa using h3, rfl⟩
            | exact ⟨isBk_mapO L, by simpa using h4, rfl⟩
            | (grind [addM])
            | (simp only [bkOf_mapO] at *; grind [addM]))
        | true =>
          refine (fnA_keep hmx T6 [Dec.s (3004 : Nat) (12 : Nat) false, Dec.s (3008 : Nat) (16 : Nat) false, Dec.c (32 : Nat) false, Dec.c (38 : Nat) true] (AV.tv (TV.one (CV.rig (Value.int IntKind.i64 (10 : Int))))) [e.ok, (!rightB e) = false, (e.k != (3 : Int)) = false, IsBk (mapO L), (findL (bkOf (mapO L)) e.d).isSome = false, IsBk (mapO L), decide (↑(List.length (bkOf (mapO L))) ≥ (512 : Int)) = true] [(AO.cells [CV.mp (1 : Nat)] (65 : Nat), (0 : Nat)), (AO.raw (mapO L), (2 : Nat))] (by kernel_rfl) (by kernel_rfl) ⟨?_, h1, h2, ?_, h3, ?_, h4, trivial⟩ (by kernel_rfl) (by kernel_rfl) (by kernel_rfl) (by kernel_rfl) hst).mono fun x w' hx => ⟨_, _, ?_, hx.1, hx.2⟩
          all_goals (
            first
            | exact he
            | exact isBk_mapO L
            | exact ⟨isBk_mapO L, by rw [bkOf_mapO]; exact hL⟩
            | exact ⟨isBk_mapO L, by simpa using h3, rfl⟩
            | exact ⟨isBk_mapO L, by simpa using h4, rfl⟩
            | (grind [addM])
            | (simp only [bkOf_mapO] at *; grind [addM]))
      | true =>
        refine (fnA_keep hmx T6 [Dec.s (3004 : Nat) (12 : Nat) false, Dec.s (3008 : Nat) (16 : Nat) false, Dec.c (32 : Nat) true] (AV.tv (TV.one (CV.rig (Value.int IntKind.i64 (5 : Int))))) [e.ok, (!rightB e) = false, (e.k != (3 : Int)) = false, IsBk (mapO L), (findL (bkOf (mapO L)) e.d).isSome = true] [(AO.cells [CV.mp (1 : Nat)] (65 : Nat), (0 : Nat)), (AO.raw (mapO L), (2 : Nat))] (by kernel_rfl) (by kernel_rfl) ⟨?_, h1, h2, ?_, h3, trivial⟩ (by kernel_rfl) (by kernel_rfl) (by kernel_rfl) (by kernel_rfl) hst).mono fun x w' hx => ⟨_, _, ?_, hx.1, hx.2⟩
        all_goals (
          first
          | exact he
          | exact isBk_mapO L
          | exact ⟨isBk_mapO L, by rw [bkOf_mapO]; exact hL⟩
          | exact ⟨isBk_mapO L, by simpa using h3, rfl⟩
          | exact ⟨isBk_mapO L, by simpa using h4, rfl⟩
          | (grind [addM])
          | (simp only [bkOf_mapO] at *; grind [addM]))
    | true =>
      cases h3 : (e.k != (4 : Int)) with
      | false =>
        cases h4 : ((findL (bkOf (mapO L)) e.d).isSome) with
        | false =>
          cases h5 : (decide (↑(List.length (bkOf (mapO L))) ≥ (512 : Int))) with
          | false =>
            refine (fnA_keep hmx T6 [Dec.s (3004 : Nat) (12 : Nat) false, Dec.s (3008 : Nat) (16 : Nat) true, Dec.c (21 : Nat) false, Dec.c (32 : Nat) false, Dec.c (38 : Nat) false] (AV.tv (TV.one (CV.rig (Value.int IntKind.i64 (0 : Int))))) [e.ok, (!rightB e) = false, (e.k != (3 : Int)) = true, (e.k != (4 : Int)) = false, IsBk (mapO L), (findL (bkOf (mapO L)) e.d).isSome = false, IsBk (mapO L), decide (↑(List.length (bkOf (mapO L))) ≥ (512 : Int)) = false, IsBk (mapO L) ∧ ∀ (p : Ev × Bool), p ∈ bkOf (mapO L) → p.fst.ok, IsBk (mapO L) ∧ findL (bkOf (mapO L)) e.d = none ∧ e.d = (e, roleM (bkOf (mapO L)) e.d.a e.p == (3 : Int)).fst.d] [(AO.cells [CV.mp (1 : Nat)] (65 : Nat), (0 : Nat)), (AO.raw (mapO (bkOf (mapO L) ++ [(e, roleM (bkOf (mapO L)) e.d.a e.p == (3 : Int))])), (2 : Nat))] (by kernel_rfl) (by kernel_rfl) ⟨?_, h1, h2, h3, ?_, h4, ?_, h5, ?_, ?_, trivial⟩ (by kernel_rfl) (by kernel_rfl) (by kernel_rfl) (by kernel_rfl) hst).mono fun x w' hx => ⟨_, _, ?_, hx.1, hx.2⟩
            all_goals (
              first
              | exact he
              | exact isBk_mapO L
              | exact ⟨isBk_mapO L, by rw [bkOf_mapO]; exact hL⟩
              | exact ⟨isBk_mapO L, by simpa using h3, rfl⟩
              | exact ⟨isBk_mapO L, by simpa using h4, rfl⟩
              | (grind [addM])
              | (simp only [bkOf_mapO] at *; grind [addM]))
          | true =>
            refine (fnA_keep hmx T6 [Dec.s (3004 : Nat) (12 : Nat) false, Dec.s (3008 : Nat) (16 : Nat) true, Dec.c (21 : Nat) false, Dec.c (32 : Nat) false, Dec.c (38 : Nat) true] (AV.tv (TV.one (CV.rig (Value.int IntKind.i64 (10 : Int))))) [e.ok, (!rightB e) = false, (e.k != (3 : Int)) = true, (e.k != (4 : Int)) = false, IsBk (mapO L), (findL (bkOf (mapO L)) e.d).isSome = false, IsBk (mapO L), decide (↑(List.length (bkOf (mapO L))) ≥ (512 : Int)) = true] [(AO.cells [CV.mp (1 : Nat)] (65 : Nat), (0 : Nat)), (AO.raw (mapO L), (2 : Nat))] (by kernel_rfl) (by kernel_rfl) ⟨?_, h1, h2, h3, ?_, h4, ?_, h5, trivial⟩ (by kernel_rfl) (by kernel_rfl) (by kernel_rfl) (by kernel_rfl) hst).mono fun x w' hx => ⟨_, _, ?_, hx.1, hx.2⟩
            all_goals (
              first
              | exact he
              | exact isBk_mapO L
              | exact ⟨isBk_mapO L, by rw [bkOf_mapO]; exact hL⟩
              | exact ⟨isBk_mapO L, by simpa using h3, rfl⟩
              | exact ⟨isBk_mapO L, by simpa using h4, rfl⟩
              | (grind [addM])
              | (simp only [bkOf_mapO] at *; grind [addM]))
        | true =>
          refine (fnA_keep hmx T6 [Dec.s (3004 : Nat) (12 : Nat) false, Dec.s (3008 : Nat) (16 : Nat) true, Dec.c (21 : Nat) false, Dec.c (32 : Nat) true] (AV.tv (TV.one (CV.rig (Value.int IntKind.i64 (5 : Int))))) [e.ok, (!rightB e) = false, (e.k != (3 : Int)) = true, (e.k != (4 : Int)) = false, IsBk (mapO L), (findL (bkOf (mapO L)) e.d).isSome = true] [(AO.cells [CV.mp (1 : Nat)] (65 : Nat), (0 : Nat)), (AO.raw (mapO L), (2 : Nat))] (by kernel_rfl) (by kernel_rfl) ⟨?_, h1, h2, h3, ?_, h4, trivial⟩ (by kernel_rfl) (by kernel_rfl) (by kernel_rfl) (by kernel_rfl) hst).mono fun x w' hx => ⟨_, _, ?_, hx.1, hx.2⟩
          all_goals (
            first
            | exact he
            | exact isBk_mapO L
            | exact ⟨isBk_mapO L, by rw [bkOf_mapO]; exact hL⟩
            | exact ⟨isBk_mapO L, by simpa using h3, rfl⟩
            | exact ⟨isBk_mapO L, by simpa using h4, rfl⟩
            | (grind [addM])
            | (simp only [bkOf_mapO] at *; grind [addM]))
      | true =>
        refine (fnA_keep hmx T6 [Dec.s (3004 : Nat) (12 : Nat) false, Dec.s (3008 : Nat) (16 : Nat) true, Dec.c (21 : Nat) true] (AV.tv (TV.one (CV.rig (Value.int IntKind.i64 (3 : Int))))) [e.ok, (!rightB e) = false, (e.k != (3 : Int)) = true, (e.k != (4 : Int)) = true] [(AO.cells [CV.mp (1 : Nat)] (65 : Nat), (0 : Nat)), (AO.raw (mapO L), (2 : Nat))] (by kernel_rfl) (by kernel_rfl) ⟨?_, h1, h2, h3, trivial⟩ (by kernel_rfl) (by kernel_rfl) (by kernel_rfl) (by kernel_rfl) hst).mono fun x w' hx => ⟨_, _, ?_, hx.1, hx.2⟩
        all_goals (
          first
          | exact he
          | exact isBk_mapO L
          | exact ⟨isBk_mapO L, by rw [bkOf_mapO]; exact hL⟩
          | exact ⟨isBk_mapO L, by simpa using h3, rfl⟩
          | exact ⟨isBk_mapO L, by simpa using h4, rfl⟩
          | (grind [addM])
          | (simp only [bkOf_mapO] at *; grind [addM]))
  | true =>
    refine (fnA_keep hmx T6 [Dec.s (3004 : Nat) (12 : Nat) true] (AV.tv (TV.one (CV.rig (Value.int IntKind.i64 (3 : Int))))) [e.ok, (!rightB e) = true] [(AO.cells [CV.mp (1 : Nat)] (65 : Nat), (0 : Nat)), (AO.raw (mapO L), (2 : Nat))] (by kernel_rfl) (by kernel_rfl) ⟨?_, h1, trivial⟩ (by kernel_rfl) (by kernel_rfl) (by kernel_rfl) (by kernel_rfl) hst).mono fun x w' hx => ⟨_, _, ?_, hx.1, hx.2⟩
    all_goals (
      first
      | exact he
      | exact isBk_mapO L
      | exact ⟨isBk_mapO L, by rw [bkOf_mapO]; exact hL⟩
      | exact ⟨isBk_mapO L, by simpa using h3, rfl⟩
      | exact ⟨isBk_mapO L, by simpa using h4, rfl⟩
      | (grind [addM])
      | (simp only [bkOf_mapO] at *; grind [addM]))


def ndH (L : Bk) : AH := [(.cells [.mp 1] 65, 0), (.raw (mapO L), 0)]

theorem counts_run {L : Bk} {d : Dot} {r : Nat → Nat} {w : World} (hst : St r (ndH L) w w) :
    Calls Try.prog 16 (([.c (.ptr 0 0), d.av].map (AV.conc r)).toArray) w fun x w' => x = .returned (.bool (gotL L d).2) ∧ Below w.heap.size w w' := by
  refine (fnA_keep hmx T6 [] (AV.tv (TV.one (CV.rig (Value.bool (bif !false then (gotL (bkOf (mapO L)) d).snd else false))))) [IsBk (mapO L)] [(AO.cells [CV.mp (1 : Nat)] (65 : Nat), (0 : Nat)), (AO.raw (mapO L), (0 : Nat))] (by kernel_rfl) (by kernel_rfl) ⟨?_, trivial⟩ (by kernel_rfl) (by kernel_rfl) (by kernel_rfl) (by kernel_rfl) hst).mono fun x w' hx => ⟨hx.1.trans ?_, hx.2.below (by kernel_rfl)⟩
  all_goals (
    first
    | exact isBk_mapO L
    | (simp only [bkOf_mapO]; rfl))


theorem len_run {L : Bk} {r : Nat → Nat} {w : World} (hst : St r (ndH L) w w) :
    Calls Try.prog 23 (([.c (.ptr 0 0)].map (AV.conc r)).toArray) w fun x w' => x = .returned (.int .i64 L.length) ∧ Below w.heap.size w w' := by
  refine (fnA_keep hmx T6 [] (AV.tv (TV.one (CV.rig (Value.int IntKind.i64 ↑(List.length (bkOf (mapO L))))))) [IsBk (mapO L)] [(AO.cells [CV.mp (1 : Nat)] (65 : Nat), (0 : Nat)), (AO.raw (mapO L), (0 : Nat))] (by kernel_rfl) (by kernel_rfl) ⟨?_, trivial⟩ (by kernel_rfl) (by kernel_rfl) (by kernel_rfl) (by kernel_rfl) hst).mono fun x w' hx => ⟨hx.1.trans ?_, hx.2.below (by kernel_rfl)⟩
  all_goals (
    first
    | exact isBk_mapO L
    | (simp only [bkOf_mapO]; rfl))


/-- The body of Members' loop. -/
def rolH (L : Bk) (v : Vec) (cs : List CV) : AH := [(.cells [.mp 1] 65, 0), (.raw (mapO L), 0), (.cells [.ptr 0 0] 32, 0), (.cells v.cvs 27, 0), (.cells cs 43, 2)]

theorem memb1_run {L : Bk} (hL : ∀ p ∈ L, p.1.ok) (v : Vec) (a0 a1 a2 a3 a4 a5 a6 a7 : Value) (k : Nat) (hk : k < 8) {r : Nat → Nat} {W0 w : World} (hst : St r (rolH L v [.rig a0, .rig a1, .rig a2, .rig a3, .rig a4, .rig a5, .rig a6, .rig a7]) W0 w) :
    Calls Try.prog 31 (([.r (.int .i64 (k : Int)), .c (.ptr 2 0), .c (.ptr 3 0), .c (.ptr 4 0)].map (AV.conc r)).toArray) w fun x w' => x = .returned ((AV.tup []).conc r) ∧
      St r (rolH L v ([.rig a0, .rig a1, .rig a2, .rig a3, .rig a4, .rig a5, .rig a6, .rig a7].set k (.rig (.int .u8 (roleM (bkOf (mapO L)) (IntKind.u8.wrap k) v))))) W0 w' := by
  match k, hk with
  | 0, _ =>
    exact (fnA_keep hmx T6 (f := 31) (args := [.r (.int .i64 0), .c (.ptr 2 0), .c (.ptr 3 0), .c (.ptr 4 0)]) (H := rolH L v [.rig a0, .rig a1, .rig a2, .rig a3, .rig a4, .rig a5, .rig a6, .rig a7]) [] (.tup []) [IsBk (mapO L) ∧ ∀ p ∈ bkOf (mapO L), p.1.ok, (0 : Int) ≤ 0 ∧ (0 : Int) < 8]
      (rolH L v ([.rig a0, .rig a1, .rig a2, .rig a3, .rig a4, .rig a5, .rig a6, .rig a7].set 0 (.rig (.int .u8 (roleM (bkOf (mapO L)) (IntKind.u8.wrap 0) v))))) (by kernel_rfl) (by kernel_rfl) ⟨⟨isBk_mapO L, by rw [bkOf_mapO]; exact hL⟩, by omega, trivial⟩ (by kernel_rfl) (by kernel_rfl) (by kernel_rfl) (by kernel_rfl) hst)
  | 1, _ =>
    exact (fnA_keep hmx T6 (f := 31) (args := [.r (.int .i64 1), .c (.ptr 2 0), .c (.ptr 3 0), .c (.ptr 4 0)]) (H := rolH L v [.rig a0, .rig a1, .rig a2, .rig a3, .rig a4, .rig a5, .rig a6, .rig a7]) [] (.tup []) [IsBk (mapO L) ∧ ∀ p ∈ bkOf (mapO L), p.1.ok, (0 : Int) ≤ 1 ∧ (1 : Int) < 8]
      (rolH L v ([.rig a0, .rig a1, .rig a2, .rig a3, .rig a4, .rig a5, .rig a6, .rig a7].set 1 (.rig (.int .u8 (roleM (bkOf (mapO L)) (IntKind.u8.wrap 1) v))))) (by kernel_rfl) (by kernel_rfl) ⟨⟨isBk_mapO L, by rw [bkOf_mapO]; exact hL⟩, by omega, trivial⟩ (by kernel_rfl) (by kernel_rfl) (by kernel_rfl) (by kernel_rfl) hst)
  | 2, _ =>
    exact (fnA_keep hmx T6 (f := 31) (args := [.r (.int .i64 2), .c (.ptr 2 0), .c (.ptr 3 0), .c (.ptr 4 0)]) (H := rolH L v [.rig a0, .rig a1, .rig a2, .rig a3, .rig a4, .rig a5, .rig a6, .rig a7]) [] (.tup []) [IsBk (mapO L) ∧ ∀ p ∈ bkOf (mapO L), p.1.ok, (0 : Int) ≤ 2 ∧ (2 : Int) < 8]
      (rolH L v ([.rig a0, .rig a1, .rig a2, .rig a3, .rig a4, .rig a5, .rig a6, .rig a7].set 2 (.rig (.int .u8 (roleM (bkOf (mapO L)) (IntKind.u8.wrap 2) v))))) (by kernel_rfl) (by kernel_rfl) ⟨⟨isBk_mapO L, by rw [bkOf_mapO]; exact hL⟩, by omega, trivial⟩ (by kernel_rfl) (by kernel_rfl) (by kernel_rfl) (by kernel_rfl) hst)
  | 3, _ =>
    exact (fnA_keep hmx T6 (f := 31) (args := [.r (.int .i64 3), .c (.ptr 2 0), .c (.ptr 3 0), .c (.ptr 4 0)]) (H := rolH L v [.rig a0, .rig a1, .rig a2, .rig a3, .rig a4, .rig a5, .rig a6, .rig a7]) [] (.tup []) [IsBk (mapO L) ∧ ∀ p ∈ bkOf (mapO L), p.1.ok, (0 : Int) ≤ 3 ∧ (3 : Int) < 8]
      (rolH L v ([.rig a0, .rig a1, .rig a2, .rig a3, .rig a4, .rig a5, .rig a6, .rig a7].set 3 (.rig (.int .u8 (roleM (bkOf (mapO L)) (IntKind.u8.wrap 3) v))))) (by kernel_rfl) (by kernel_rfl) ⟨⟨isBk_mapO L, by rw [bkOf_mapO]; exact hL⟩, by omega, trivial⟩ (by kernel_rfl) (by kernel_rfl) (by kernel_rfl) (by kernel_rfl) hst)
  | 4, _ =>
    exact (fnA_keep hmx T6 (f := 31) (args := [.r (.int .i64 4), .c (.ptr 2 0), .c (.ptr 3 0), .c (.ptr 4 0)]) (H := rolH L v [.rig a0, .rig a1, .rig a2, .rig a3, .rig a4, .rig a5, .rig a6, .rig a7]) [] (.tup []) [IsBk (mapO L) ∧ ∀ p ∈ bkOf (mapO L), p.1.ok, (0 : Int) ≤ 4 ∧ (4 : Int) < 8]
      (rolH L v ([.rig a0, .rig a1, .rig a2, .rig a3, .rig a4, .rig a5, .rig a6, .rig a7].set 4 (.rig (.int .u8 (roleM (bkOf (mapO L)) (IntKind.u8.wrap 4) v))))) (by kernel_rfl) (by kernel_rfl) ⟨⟨isBk_mapO L, by rw [bkOf_mapO]; exact hL⟩, by omega, trivial⟩ (by kernel_rfl) (by kernel_rfl) (by kernel_rfl) (by kernel_rfl) hst)
  | 5, _ =>
    exact (fnA_keep hmx T6 (f := 31) (args := [.r (.int .i64 5), .c (.ptr 2 0), .c (.ptr 3 0), .c (.ptr 4 0)]) (H := rolH L v [.rig a0, .rig a1, .rig a2, .rig a3, .rig a4, .rig a5, .rig a6, .rig a7]) [] (.tup []) [IsBk (mapO L) ∧ ∀ p ∈ bkOf (mapO L), p.1.ok, (0 : Int) ≤ 5 ∧ (5 : Int) < 8]
      (rolH L v ([.rig a0, .rig a1, .rig a2, .rig a3, .rig a4, .rig a5, .rig a6, .rig a7].set 5 (.rig (.int .u8 (roleM (bkOf (mapO L)) (IntKind.u8.wrap 5) v))))) (by kernel_rfl) (by kernel_rfl) ⟨⟨isBk_mapO L, by rw [bkOf_mapO]; exact hL⟩, by omega, trivial⟩ (by kernel_rfl) (by kernel_rfl) (by kernel_rfl) (by kernel_rfl) hst)
  | 6, _ =>
    exact (fnA_keep hmx T6 (f := 31) (args := [.r (.int .i64 6), .c (.ptr 2 0), .c (.ptr 3 0), .c (.ptr 4 0)]) (H := rolH L v [.rig a0, .rig a1, .rig a2, .rig a3, .rig a4, .rig a5, .rig a6, .rig a7]) [] (.tup []) [IsBk (mapO L) ∧ ∀ p ∈ bkOf (mapO L), p.1.ok, (0 : Int) ≤ 6 ∧ (6 : Int) < 8]
      (rolH L v ([.rig a0, .rig a1, .rig a2, .rig a3, .rig a4, .rig a5, .rig a6, .rig a7].set 6 (.rig (.int .u8 (roleM (bkOf (mapO L)) (IntKind.u8.wrap 6) v))))) (by kernel_rfl) (by kernel_rfl) ⟨⟨isBk_mapO L, by rw [bkOf_mapO]; exact hL⟩, by omega, trivial⟩ (by kernel_rfl) (by kernel_rfl) (by kernel_rfl) (by kernel_rfl) hst)
  | 7, _ =>
    exact (fnA_keep hmx T6 (f := 31) (args := [.r (.int .i64 7), .c (.ptr 2 0), .c (.ptr 3 0), .c (.ptr 4 0)]) (H := rolH L v [.rig a0, .rig a1, .rig a2, .rig a3, .rig a4, .rig a5, .rig a6, .rig a7]) [] (.tup []) [IsBk (mapO L) ∧ ∀ p ∈ bkOf (mapO L), p.1.ok, (0 : Int) ≤ 7 ∧ (7 : Int) < 8]
      (rolH L v ([.rig a0, .rig a1, .rig a2, .rig a3, .rig a4, .rig a5, .rig a6, .rig a7].set 7 (.rig (.int .u8 (roleM (bkOf (mapO L)) (IntKind.u8.wrap 7) v))))) (by kernel_rfl) (by kernel_rfl) ⟨⟨isBk_mapO L, by rw [bkOf_mapO]; exact hL⟩, by omega, trivial⟩ (by kernel_rfl) (by kernel_rfl) (by kernel_rfl) (by kernel_rfl) hst)

end Go.Proofs.Ytodcebpdmjdplaa
