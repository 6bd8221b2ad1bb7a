/- The book's functions: each by a run. Members: its loop's body as a callee. Members: by a run, its loop round by round. maps.Clone: the shelf's proof laid at this program. The book's functions as callees: Members, New, Fork. live. -/
import Derived.Test.YtodcebpdmjdplaaJ13
import Derived.Test.YtodcebpdmjdplaaJ8
import Derived.Shelf.SlMaps.Clone
import Derived.Ground.SlmcProg
import Derived.Shelf.Lay
import Derived.Test.YtodcebpdmjdplaaJ9
namespace Go.Proofs.Ytodcebpdmjdplaa
open Go.RowKit

/-- A book taken apart, to be written, to be read. -/
def bkO (L : Bk) : AH := [(.cells [.mp 1] 65, 2), (.raw (mapO L), 2), (.hand, 2)]
def ndO (L : Bk) : AH := [(.cells [.mp 1] 65, 0), (.raw (mapO L), 0), (.hand, 0)]

theorem add_run {L : Bk} (hL : ∀ p ∈ L, p.1.ok) {e : Ev} (he : e.ok) {r : Gh} {W0 : Base} {w : World} (hst : St r (bkO L) W0 w) :
    Calls Try.prog 15 (([.c (.ptr 0 0), e.av].map (AV.conc r)).toArray) w fun x w' => ∃ c L', (c, L') = addM L e ∧ x = .returned (.int .i64 c) ∧ ∃ r', Agree 3 r r' ∧ St r' (bkO L') W0 w' := by
  cases h1 : (!rightB e) with
  | false =>
    cases h2 : (e.k != (3 : Int)) with
    | false =>
      cases h3 : ((findL (bkOf (mapO L)) e.d).isSome) with
      | false =>
        cases h4 : (decide (↑(List.length (bkOf (mapO L))) ≥ (512 : Int))) with
        | false =>
          refine (fnA_keep hmx T6 [Dec.s (3004 : Nat) (12 : Nat) false, Dec.s (3008 : Nat) (16 : Nat) false, Dec.c (32 : Nat) false, Dec.c (38 : Nat) false] (AV.tv (TV.one (CV.rig (Value.int IntKind.i64 (0 : Int))))) [e.ok, (!rightB e) = false, (e.k != (3 : Int)) = false, IsBk (mapO L), (findL (bkOf (mapO L)) e.d).isSome = false, IsBk (mapO L), decide (↑(List.length (bkOf (mapO L))) ≥ (512 : Int)) = false, IsBk (mapO L) ∧ ∀ (p : Ev × Bool), p ∈ bkOf (mapO L) → p.fst.ok, IsBk (mapO L) ∧ findL (bkOf (mapO L)) e.d = none ∧ e.d = (e, roleM (bkOf (mapO L)) e.d.a e.p == (3 : Int)).fst.d] [(AO.cells [CV.mp (1 : Nat)] (65 : Nat), (2 : Nat)), (AO.raw (mapO (bkOf (mapO L) ++ [(e, roleM (bkOf (mapO L)) e.d.a e.p == (3 : Int))])), (2 : Nat)), (AO.hand, (2 : Nat))] (by kernel_rfl) (by kernel_rfl) ⟨?_, h1, h2, ?_, h3, ?_, h4, ?_, ?_, trivial⟩ (by kernel_rfl) (by kernel_rfl) (by kernel_rfl) hst).mono fun x w' hx => ⟨_, _, ?_, hx.1, hx.2⟩
          all_goals (
            first
            | exact he
            | exact isBk_mapO L
            | exact ⟨isBk_mapO L, by rw [bkOf_mapO]; exact hL⟩
            | exact ⟨isBk_mapO L, by simpa using h3, rfl⟩
            | exact ⟨isBk_mapO L, by simpa using h4, rfl⟩
            | (grind [addM])
            | (simp only [bkOf_mapO] at *; grind [addM]))
        | true =>
          refine (fnA_keep hmx T6 [Dec.s (3004 : Nat) (12 : Nat) false, Dec.s (3008 : Nat) (16 : Nat) false, Dec.c (32 : Nat) false, Dec.c (38 : Nat) true] (AV.tv (TV.one (CV.rig (Value.int IntKind.i64 (10 : Int))))) [e.ok, (!rightB e) = false, (e.k != (3 : Int)) = false, IsBk (mapO L), (findL (bkOf (mapO L)) e.d).isSome = false, IsBk (mapO L), decide (↑(List.length (bkOf (mapO L))) ≥ (512 : Int)) = true] [(AO.cells [CV.mp (1 : Nat)] (65 : Nat), (2 : Nat)), (AO.raw (mapO L), (2 : Nat)), (AO.hand, (2 : Nat))] (by kernel_rfl) (by kernel_rfl) ⟨?_, h1, h2, ?_, h3, ?_, h4, trivial⟩ (by kernel_rfl) (by kernel_rfl) (by kernel_rfl) hst).mono fun x w' hx => ⟨_, _, ?_, hx.1, hx.2⟩
          all_goals (
            first
            | exact he
            | exact isBk_mapO L
            | exact ⟨isBk_mapO L, by rw [bkOf_mapO]; exact hL⟩
            | exact ⟨isBk_mapO L, by simpa using h3, rfl⟩
            | exact ⟨isBk_mapO L, by simpa using h4, rfl⟩
            | (grind [addM])
            | (simp only [bkOf_mapO] at *; grind [addM]))
      | true =>
        refine (fnA_keep hmx T6 [Dec.s (3004 : Nat) (12 : Nat) false, Dec.s (3008 : Nat) (16 : Nat) false, Dec.c (32 : Nat) true] (AV.tv (TV.one (CV.rig (Value.int IntKind.i64 (5 : Int))))) [e.ok, (!rightB e) = false, (e.k != (3 : Int)) = false, IsBk (mapO L), (findL (bkOf (mapO L)) e.d).isSome = true] [(AO.cells [CV.mp (1 : Nat)] (65 : Nat), (2 : Nat)), (AO.raw (mapO L), (2 : Nat)), (AO.hand, (2 : Nat))] (by kernel_rfl) (by kernel_rfl) ⟨?_, h1, h2, ?_, h3, trivial⟩ (by kernel_rfl) (by kernel_rfl) (by kernel_rfl) hst).mono fun x w' hx => ⟨_, _, ?_, hx.1, hx.2⟩
        all_goals (
          first
          | exact he
          | exact isBk_mapO L
          | exact ⟨isBk_mapO L, by rw [bkOf_mapO]; exact hL⟩
          | exact ⟨isBk_mapO L, by simpa using h3, rfl⟩
          | exact ⟨isBk_mapO L, by simpa using h4, rfl⟩
          | (grind [addM])
          | (simp only [bkOf_mapO] at *; grind [addM]))
    | true =>
      cases h3 : (e.k != (4 : Int)) with
      | false =>
        cases h4 : ((findL (bkOf (mapO L)) e.d).isSome) with
        | false =>
          cases h5 : (decide (↑(List.length (bkOf (mapO L))) ≥ (512 : Int))) with
          | false =>
            refine (fnA_keep hmx T6 [Dec.s (3004 : Nat) (12 : Nat) false, Dec.s (3008 : Nat) (16 : Nat) true, Dec.c (21 : Nat) false, Dec.c (32 : Nat) false, Dec.c (38 : Nat) false] (AV.tv (TV.one (CV.rig (Value.int IntKind.i64 (0 : Int))))) [e.ok, (!rightB e) = false, (e.k != (3 : Int)) = true, (e.k != (4 : Int)) = false, IsBk (mapO L), (findL (bkOf (mapO L)) e.d).isSome = false, IsBk (mapO L), decide (↑(List.length (bkOf (mapO L))) ≥ (512 : Int)) = false, IsBk (mapO L) ∧ ∀ (p : Ev × Bool), p ∈ bkOf (mapO L) → p.fst.ok, IsBk (mapO L) ∧ findL (bkOf (mapO L)) e.d = none ∧ e.d = (e, roleM (bkOf (mapO L)) e.d.a e.p == (3 : Int)).fst.d] [(AO.cells [CV.mp (1 : Nat)] (65 : Nat), (2 : Nat)), (AO.raw (mapO (bkOf (mapO L) ++ [(e, roleM (bkOf (mapO L)) e.d.a e.p == (3 : Int))])), (2 : Nat)), (AO.hand, (2 : Nat))] (by kernel_rfl) (by kernel_rfl) ⟨?_, h1, h2, h3, ?_, h4, ?_, h5, ?_, ?_, trivial⟩ (by kernel_rfl) (by kernel_rfl) (by kernel_rfl) hst).mono fun x w' hx => ⟨_, _, ?_, hx.1, hx.2⟩
            all_goals (
              first
              | exact he
              | exact isBk_mapO L
              | exact ⟨isBk_mapO L, by rw [bkOf_mapO]; exact hL⟩
              | exact ⟨isBk_mapO L, by simpa using h3, rfl⟩
              | exact ⟨isBk_mapO L, by simpa using h4, rfl⟩
              | (grind [addM])
              | (simp only [bkOf_mapO] at *; grind [addM]))
          | true =>
            refine (fnA_keep hmx T6 [Dec.s (3004 : Nat) (12 : Nat) false, Dec.s (3008 : Nat) (16 : Nat) true, Dec.c (21 : Nat) false, Dec.c (32 : Nat) false, Dec.c (38 : Nat) true] (AV.tv (TV.one (CV.rig (Value.int IntKind.i64 (10 : Int))))) [e.ok, (!rightB e) = false, (e.k != (3 : Int)) = true, (e.k != (4 : Int)) = false, IsBk (mapO L), (findL (bkOf (mapO L)) e.d).isSome = false, IsBk (mapO L), decide (↑(List.length (bkOf (mapO L))) ≥ (512 : Int)) = true] [(AO.cells [CV.mp (1 : Nat)] (65 : Nat), (2 : Nat)), (AO.raw (mapO L), (2 : Nat)), (AO.hand, (2 : Nat))] (by kernel_rfl) (by kernel_rfl) ⟨?_, h1, h2, h3, ?_, h4, ?_, h5, trivial⟩ (by kernel_rfl) (by kernel_rfl) (by kernel_rfl) hst).mono fun x w' hx => ⟨_, _, ?_, hx.1, hx.2⟩
            all_goals (
              first
              | exact he
              | exact isBk_mapO L
              | exact ⟨isBk_mapO L, by rw [bkOf_mapO]; exact hL⟩
              | exact ⟨isBk_mapO L, by simpa using h3, rfl⟩
              | exact ⟨isBk_mapO L, by simpa using h4, rfl⟩
              | (grind [addM])
              | (simp only [bkOf_mapO] at *; grind [addM]))
        | true =>
          refine (fnA_keep hmx T6 [Dec.s (3004 : Nat) (12 : Nat) false, Dec.s (3008 : Nat) (16 : Nat) true, Dec.c (21 : Nat) false, Dec.c (32 : Nat) true] (AV.tv (TV.one (CV.rig (Value.int IntKind.i64 (5 : Int))))) [e.ok, (!rightB e) = false, (e.k != (3 : Int)) = true, (e.k != (4 : Int)) = false, IsBk (mapO L), (findL (bkOf (mapO L)) e.d).isSome = true] [(AO.cells [CV.mp (1 : Nat)] (65 : Nat), (2 : Nat)), (AO.raw (mapO L), (2 : Nat)), (AO.hand, (2 : Nat))] (by kernel_rfl) (by kernel_rfl) ⟨?_, h1, h2, h3, ?_, h4, trivial⟩ (by kernel_rfl) (by kernel_rfl) (by kernel_rfl) hst).mono fun x w' hx => ⟨_, _, ?_, hx.1, hx.2⟩
          all_goals (
            first
            | exact he
            | exact isBk_mapO L
            | exact ⟨isBk_mapO L, by rw [bkOf_mapO]; exact hL⟩
            | exact ⟨isBk_mapO L, by simpa using h3, rfl⟩
            | exact ⟨isBk_mapO L, by simpa using h4, rfl⟩
            | (grind [addM])
            | (simp only [bkOf_mapO] at *; grind [addM]))
      | true =>
        refine (fnA_keep hmx T6 [Dec.s (3004 : Nat) (12 : Nat) false, Dec.s (3008 : Nat) (16 : Nat) true, Dec.c (21 : Nat) true] (AV.tv (TV.one (CV.rig (Value.int IntKind.i64 (3 : Int))))) [e.ok, (!rightB e) = false, (e.k != (3 : Int)) = true, (e.k != (4 : Int)) = true] [(AO.cells [CV.mp (1 : Nat)] (65 : Nat), (2 : Nat)), (AO.raw (mapO L), (2 : Nat)), (AO.hand, (2 : Nat))] (by kernel_rfl) (by kernel_rfl) ⟨?_, h1, h2, h3, trivial⟩ (by kernel_rfl) (by kernel_rfl) (by kernel_rfl) hst).mono fun x w' hx => ⟨_, _, ?_, hx.1, hx.2⟩
        all_goals (
          first
          | exact he
          | exact isBk_mapO L
          | exact ⟨isBk_mapO L, by rw [bkOf_mapO]; exact hL⟩
          | exact ⟨isBk_mapO L, by simpa using h3, rfl⟩
          | exact ⟨isBk_mapO L, by simpa using h4, rfl⟩
          | (grind [addM])
          | (simp only [bkOf_mapO] at *; grind [addM]))
  | true =>
    refine (fnA_keep hmx T6 [Dec.s (3004 : Nat) (12 : Nat) true] (AV.tv (TV.one (CV.rig (Value.int IntKind.i64 (3 : Int))))) [e.ok, (!rightB e) = true] [(AO.cells [CV.mp (1 : Nat)] (65 : Nat), (2 : Nat)), (AO.raw (mapO L), (2 : Nat)), (AO.hand, (2 : Nat))] (by kernel_rfl) (by kernel_rfl) ⟨?_, h1, trivial⟩ (by kernel_rfl) (by kernel_rfl) (by kernel_rfl) hst).mono fun x w' hx => ⟨_, _, ?_, hx.1, hx.2⟩
    all_goals (
      first
      | exact he
      | exact isBk_mapO L
      | exact ⟨isBk_mapO L, by rw [bkOf_mapO]; exact hL⟩
      | exact ⟨isBk_mapO L, by simpa using h3, rfl⟩
      | exact ⟨isBk_mapO L, by simpa using h4, rfl⟩
      | (grind [addM])
      | (simp only [bkOf_mapO] at *; grind [addM]))


theorem add_ctr {L : Bk} (hL : ∀ p ∈ L, p.1.ok) {e : Ev} (he : e.ok) : Ctr Try.prog 15 [.c (.ptr 0 0), e.av] [(.abs 0 (.book L), 2)] (.r (.int .i64 (addM L e).1)) [(.abs 0 (.book (addM L e).2), 2)] := by
  refine ctr_openC (k := 0) (h := 0) (g := 2) (x := .book L) (x' := .book (addM L e).2) (Hx := bkH L) (Hx' := bkH (addM L e).2) (H2 := bkO (addM L e).2) (v' := .r (.int .i64 (addM L e).1)) rfl (by decide) rfl rfl (by kernel_rfl) (fun r W0 w hst => ?_)
    [0, 1] [0, 1] (by kernel_rfl) (by kernel_rfl) [0] [0] (by kernel_rfl) (by kernel_rfl) rfl rfl
  refine (add_run hL he (hst.as (by kernel_rfl))).mono ?_
  rintro x w' ⟨c, L', hc, rfl, r', hag, hst'⟩
  rw [← hc]
  exact ⟨r', hag, rfl, hst'⟩

theorem counts_ctr' {L : Bk} {d : Dot} : CtrQ Try.prog 16 [.c (.ptr 0 0), d.av] [(.abs 0 (.book L), 0)] (.b (gotL (bkOf (mapO L)) d).2) := by
  refine ctrQ_meth hmx T6 0 (x := .book L) (Hx := bkH L) rfl rfl (by kernel_rfl) (by kernel_rfl) [] (.b (gotL (bkOf (mapO L)) d).2) [IsBk (mapO L)] (by kernel_rfl) (by kernel_rfl) ⟨?_, trivial⟩ (by kernel_rfl)
  all_goals (
    first
    | exact isBk_mapO L)


theorem counts_ctr {L : Bk} {d : Dot} : CtrQ Try.prog 16 [.c (.ptr 0 0), d.av] [(.abs 0 (.book L), 0)] (.b (gotL L d).2) := by
  have := @counts_ctr' L d
  rwa [bkOf_mapO] at this

theorem len_ctr {L : Bk} : CtrQ Try.prog 23 [.c (.ptr 0 0)] [(.abs 0 (.book L), 0)] (.r (.int .i64 L.length)) := by
  have : CtrQ Try.prog 23 [.c (.ptr 0 0)] [(.abs 0 (.book L), 0)] (.r (.int .i64 (bkOf (mapO L)).length)) :=
    ctrQ_meth hmx T6 0 (x := .book L) (Hx := bkH L) rfl rfl (by kernel_rfl) (by kernel_rfl) [] _ [IsBk (mapO L)] (by kernel_rfl) (by kernel_rfl) ⟨isBk_mapO L, trivial⟩ (by kernel_rfl)
  rwa [bkOf_mapO] at this

/-! ### As callees -/
def MAdd : MethE Try.prog := {
  f := 15
  τ := Bk × Ev
  parse := fun y a => match y, a with
    | .book L, [.tv (.agg l)] => match evOf l with | some e => some (L, e) | none => none
    | _, _ => none
  x := fun t => .book t.1
  rest := fun t => [t.2.av]
  v := fun t => .r (.int .i64 (addM t.1 t.2).1)
  x' := fun t => .book (addM t.1 t.2).2
  new := fun _ => []
  owed := fun t => (∀ p ∈ t.1, p.1.ok) ∧ t.2.ok
  parse_eq := fun {y a t} h => by
    split at h
    · split at h
      · rename_i hv; cases h; rw [evOf_eq hv]; exact ⟨rfl, rfl⟩
      · cases h
    · cases h
  body := by kernel_rfl
  C := fun t h => add_ctr h.1 h.2 }

def MCounts : MethQ Try.prog := {
  f := 16
  τ := Bk × Dot
  parse := fun y a => match y, a with
    | .book L, [.tv (.agg l)] => match dotOf l with | some d => some (L, d) | none => none
    | _, _ => none
  x := fun t => .book t.1
  rest := fun t => [t.2.av]
  v := fun t => .b (gotL t.1 t.2).2
  owed := fun _ => True
  parse_eq := fun {y a t} h => by
    split at h
    · split at h
      · rename_i hv; cases h; rw [dotOf_eq hv]; exact ⟨rfl, rfl⟩
      · cases h
    · cases h
  body := by kernel_rfl
  C := fun _ _ => counts_ctr }

def MLen : MethQ Try.prog := {
  f := 23
  τ := Bk
  parse := fun y a => match y, a with
    | .book L, [] => some L
    | _, _ => none
  x := fun t => .book t
  rest := fun _ => []
  v := fun t => .r (.int .i64 t.length)
  owed := fun _ => True
  parse_eq := fun {y a t} h => by
    split at h
    · cases h; exact ⟨rfl, rfl⟩
    · cases h
  body := by kernel_rfl
  C := fun _ _ => len_ctr }

noncomputable def T7a : CT Try.prog := ((T6.addME MAdd).addMQ MCounts).addMQ MLen

end Go.Proofs.Ytodcebpdmjdplaa

namespace Go.Proofs.Ytodcebpdmjdplaa
open Go.RowKit

/-- A box that holds a pointer; a vector's block; eight cells that are values. -/
def boxAt (H : AH) (i : Nat) : Option Nat :=
  match H[i]? with
  | some (.cells [.ptr b 0] t, _) => cond (Nat.beq t 32) (some b) none
  | _ => none
theorem boxAt_eq {H : AH} {i b : Nat} (h : boxAt H i = some b) : ∃ f, H[i]? = some (.cells [.ptr b 0] 32, f) := by
  unfold boxAt at h
  split at h
  · rename_i b' t f hi
    cases ht : Nat.beq t 32 with
    | false => rw [ht] at h; cases h
    | true => obtain rfl := Nat.eq_of_beq_eq_true ht; simp at h; subst h; exact ⟨_, hi⟩
  · simp at h
def vecAt (H : AH) (i : Nat) : Option Vec :=
  match H[i]? with
  | some (.cells cs t, _) => cond (Nat.beq t 27) (vecOf cs) none
  | _ => none
theorem vecAt_eq {H : AH} {i : Nat} {v : Vec} (h : vecAt H i = some v) : ∃ f, H[i]? = some (.cells v.cvs 27, f) := by
  unfold vecAt at h
  split at h
  · rename_i cs t f hi
    cases ht : Nat.beq t 27 with
    | false => rw [ht] at h; cases h
    | true => obtain rfl := Nat.eq_of_beq_eq_true ht; simp at h; rw [← vecOf_eq h]; exact ⟨_, hi⟩
  · simp at h
structure E8 where
  a0 : Value
  a1 : Value
  a2 : Value
  a3 : Value
  a4 : Value
  a5 : Value
  a6 : Value
  a7 : Value
def E8.cvs (a : E8) : List CV := [.rig a.a0, .rig a.a1, .rig a.a2, .rig a.a3, .rig a.a4, .rig a.a5, .rig a.a6, .rig a.a7]
def e8At (H : AH) (i : Nat) : Option E8 :=
  match H[i]? with
  | some (.cells [.rig a0, .rig a1, .rig a2, .rig a3, .rig a4, .rig a5, .rig a6, .rig a7] t, _) => cond (Nat.beq t 43) (some ⟨a0, a1, a2, a3, a4, a5, a6, a7⟩) none
  | _ => none
theorem e8At_eq {H : AH} {i : Nat} {a : E8} (h : e8At H i = some a) : ∃ f, H[i]? = some (.cells a.cvs 43, f) := by
  unfold e8At at h
  split at h
  · rename_i t f hi
    cases ht : Nat.beq t 43 with
    | false => rw [ht] at h; cases h
    | true => obtain rfl := Nat.eq_of_beq_eq_true ht; simp at h; subst h; exact ⟨_, hi⟩
  · simp at h


def rolH (L : Bk) (v : Vec) (cs : List CV) : AH := [(.abs 0 (.book L), 0), (.cells [.ptr 0 0] 32, 0), (.cells v.cvs 27, 0), (.cells cs 43, 2)]

theorem memb1_ctr {L : Bk} (hL : ∀ p ∈ L, p.1.ok) (v : Vec) (a : E8) (k : Nat) (hk : k < 8) :
    Ctr Try.prog 31 [.r (.int .i64 (k : Int)), .c (.ptr 1 0), .c (.ptr 2 0), .c (.ptr 3 0)] (rolH L v a.cvs) (.tup []) (rolH L v (a.cvs.set k (.rig (.int .u8 (roleM L (IntKind.u8.wrap k) v))))) := by
  match k, hk with
  | 0, _ => exact ctr_run hmx T7a (Hs := rolH L v a.cvs) [] (.tup []) (.tup []) [∀ p ∈ L, p.1.ok, (0 : Int) ≤ 0 ∧ (0 : Int) < 8] (by kernel_rfl) (by kernel_rfl) ⟨hL, by omega, trivial⟩ [0, 1, 2, 3] [0, 1, 2, 3] (by kernel_rfl) (by kernel_rfl) (by kernel_rfl) (by kernel_rfl)
  | 1, _ => exact ctr_run hmx T7a (Hs := rolH L v a.cvs) [] (.tup []) (.tup []) [∀ p ∈ L, p.1.ok, (0 : Int) ≤ 1 ∧ (1 : Int) < 8] (by kernel_rfl) (by kernel_rfl) ⟨hL, by omega, trivial⟩ [0, 1, 2, 3] [0, 1, 2, 3] (by kernel_rfl) (by kernel_rfl) (by kernel_rfl) (by kernel_rfl)
  | 2, _ => exact ctr_run hmx T7a (Hs := rolH L v a.cvs) [] (.tup []) (.tup []) [∀ p ∈ L, p.1.ok, (0 : Int) ≤ 2 ∧ (2 : Int) < 8] (by kernel_rfl) (by kernel_rfl) ⟨hL, by omega, trivial⟩ [0, 1, 2, 3] [0, 1, 2, 3] (by kernel_rfl) (by kernel_rfl) (by kernel_rfl) (by kernel_rfl)
  | 3, _ => exact ctr_run hmx T7a (Hs := rolH L v a.cvs) [] (.tup []) (.tup []) [∀ p ∈ L, p.1.ok, (0 : Int) ≤ 3 ∧ (3 : Int) < 8] (by kernel_rfl) (by kernel_rfl) ⟨hL, by omega, trivial⟩ [0, 1, 2, 3] [0, 1, 2, 3] (by kernel_rfl) (by kernel_rfl) (by kernel_rfl) (by kernel_rfl)
  | 4, _ => exact ctr_run hmx T7a (Hs := rolH L v a.cvs) [] (.tup []) (.tup []) [∀ p ∈ L, p.1.ok, (0 : Int) ≤ 4 ∧ (4 : Int) < 8] (by kernel_rfl) (by kernel_rfl) ⟨hL, by omega, trivial⟩ [0, 1, 2, 3] [0, 1, 2, 3] (by kernel_rfl) (by kernel_rfl) (by kernel_rfl) (by kernel_rfl)
  | 5, _ => exact ctr_run hmx T7a (Hs := rolH L v a.cvs) [] (.tup []) (.tup []) [∀ p ∈ L, p.1.ok, (0 : Int) ≤ 5 ∧ (5 : Int) < 8] (by kernel_rfl) (by kernel_rfl) ⟨hL, by omega, trivial⟩ [0, 1, 2, 3] [0, 1, 2, 3] (by kernel_rfl) (by kernel_rfl) (by kernel_rfl) (by kernel_rfl)
  | 6, _ => exact ctr_run hmx T7a (Hs := rolH L v a.cvs) [] (.tup []) (.tup []) [∀ p ∈ L, p.1.ok, (0 : Int) ≤ 6 ∧ (6 : Int) < 8] (by kernel_rfl) (by kernel_rfl) ⟨hL, by omega, trivial⟩ [0, 1, 2, 3] [0, 1, 2, 3] (by kernel_rfl) (by kernel_rfl) (by kernel_rfl) (by kernel_rfl)
  | 7, _ => exact ctr_run hmx T7a (Hs := rolH L v a.cvs) [] (.tup []) (.tup []) [∀ p ∈ L, p.1.ok, (0 : Int) ≤ 7 ∧ (7 : Int) < 8] (by kernel_rfl) (by kernel_rfl) ⟨hL, by omega, trivial⟩ [0, 1, 2, 3] [0, 1, 2, 3] (by kernel_rfl) (by kernel_rfl) (by kernel_rfl) (by kernel_rfl)

noncomputable def memb1E (args : List AV) (H : AH) : Option (AV × List (Nat × AO) × List AO × Option Prop) :=
  match args with
  | [.tv (.one (.rig (.int .i64 n))), .tv (.one (.ptr i 0)), .tv (.one (.ptr j 0)), .tv (.one (.ptr k 0))] =>
    match boxAt H i, vecAt H j, e8At H k with
    | some b, some v, some a => match H[b]? with
      | some (.abs h (.book L), _) => cond (fewB H [b, i, j, k] [h, i, j, k] (rolH L v a.cvs)) (some (.tup [], [(k, .cells (a.cvs.set n.toNat (.rig (.int .u8 (roleM L (IntKind.u8.wrap n) v)))) 43)], [], some ((∀ p ∈ L, p.1.ok) ∧ 0 ≤ n ∧ n < 8))) none
      | _ => none
    | _, _, _ => none
  | _ => none

theorem ren_rigs (f fs : Nat → Nat) (l : List CV) (hl : ∀ c ∈ l, ∃ v, c = .rig v) : l.map (CV.ren f fs) = l := by
  induction l with
  | nil => rfl
  | cons c l ih =>
    obtain ⟨v, rfl⟩ := hl c (by simp)
    simp only [List.map_cons, CV.ren]
    rw [ih fun c hc => hl c (by simp [hc])]
theorem e8_rigs (a : E8) (n : Nat) (u : Value) : ∀ c ∈ a.cvs.set n (.rig u), ∃ v, c = .rig v := fun c hc => by
  rcases List.mem_or_eq_of_mem_set hc with h | h
  · simp only [E8.cvs, List.mem_cons, List.not_mem_nil, or_false] at h
    rcases h with rfl | rfl | rfl | rfl | rfl | rfl | rfl | rfl <;> exact ⟨_, rfl⟩
  · exact ⟨_, h⟩

theorem memb1E_ok {args : List AV} {H : AH} {v : AV} {upd : List (Nat × AO)} {new : List AO} {pr : Option Prop} (h : memb1E args H = some (v, upd, new, pr)) (hp : Owed pr) (r : Gh) (W0 : Base) (w : World) (hst : St r H W0 w) (hsc : H.scB = true) :
    Calls Try.prog 31 (args.map (AV.conc r)).toArray w fun e w' => ∃ r', Agree H.length r r' ∧ e = .returned (v.conc r') ∧ St r' (moveH H upd new) W0 w' := by
  unfold memb1E at h
  split at h
  · rename_i n i j k
    split at h
    · rename_i b vv a hb hv ha
      split at h
      · rename_i hh L g hH
        cases hf : fewB H [b, i, j, k] [hh, i, j, k] (rolH L vv a.cvs) with
        | false => simp [hf] at h
        | true =>
          simp only [hf, cond_true, Option.some.injEq, Prod.mk.injEq] at h
          obtain ⟨rfl, rfl, rfl, rfl⟩ := h
          obtain ⟨hL, hn0, hn8⟩ := hp.some
          obtain ⟨f1, h1⟩ := boxAt_eq hb
          obtain ⟨f2, h2⟩ := vecAt_eq hv
          obtain ⟨f3, h3⟩ := e8At_eq ha
          obtain ⟨q, rfl⟩ : ∃ q : Nat, n = (q : Int) := ⟨n.toNat, by omega⟩
          have hlen : ∀ (u : Value) (q : Nat), q < 8 → AH.scB (rolH L vv (a.cvs.set q (.rig u))) = true := fun u q hq => by
            match q, hq with
            | 0, _ => rfl
            | 1, _ => rfl
            | 2, _ => rfl
            | 3, _ => rfl
            | 4, _ => rfl
            | 5, _ => rfl
            | 6, _ => rfl
            | 7, _ => rfl
          have hr := (memb1_ctr hL vv a q (by omega)).lift hst hsc [b, i, j, k] [hh, i, j, k] hf (by simp [selH, renH, rolH, hH, h1, h2, h3, AO.ren, CV.ren, pick, E8.cvs, Vec.cvs]) (by rw [hlen _ q (by omega)]; rfl) ⟨fun _ => rfl, ⟨fun _ => rfl, ⟨fun _ => rfl, ⟨fun e => (by cases e), trivial⟩⟩⟩⟩
          have e2 : outU [b, i, j, k] [hh, i, j, k] H.length [b, i, j, k] (rolH L vv a.cvs) (rolH L vv (a.cvs.set q (.rig (.int .u8 (roleM L (IntKind.u8.wrap q) vv))))) = [(k, .cells (a.cvs.set q (.rig (.int .u8 (roleM L (IntKind.u8.wrap q) vv)))) 43)] := by
            have : outU [b, i, j, k] [hh, i, j, k] H.length [b, i, j, k] (rolH L vv a.cvs) (rolH L vv (a.cvs.set q (.rig (.int .u8 (roleM L (IntKind.u8.wrap q) vv))))) = [(k, .cells ((a.cvs.set q (.rig (.int .u8 (roleM L (IntKind.u8.wrap q) vv)))).map (CV.ren (outF [b, i, j, k] H.length) (outF [hh, i, j, k] H.length))) 43)] := rfl
            rw [this, ren_rigs _ _ _ (e8_rigs a q _)]
          rw [e2] at hr
          exact hr
      · simp at h
    · simp at h
  · simp at h

noncomputable def T7 : CT Try.prog := T7a.addE 31 memb1E (by kernel_rfl) fun _ _ _ _ _ _ h hp r W0 w hst _ hsc => memb1E_ok h hp r W0 w hst hsc

end Go.Proofs.Ytodcebpdmjdplaa

namespace Go.Proofs.Ytodcebpdmjdplaa
open Go.RowKit

/-- The roles of all. -/
def membCvs (L : Bk) (v : Vec) : List CV := [.rig (.int .u8 (roleM L 0 v)), .rig (.int .u8 (roleM L 1 v)), .rig (.int .u8 (roleM L 2 v)), .rig (.int .u8 (roleM L 3 v)), .rig (.int .u8 (roleM L 4 v)), .rig (.int .u8 (roleM L 5 v)), .rig (.int .u8 (roleM L 6 v)), .rig (.int .u8 (roleM L 7 v))]

theorem members_ctr' {L : Bk} (hL : ∀ p ∈ L, p.1.ok) {v : Vec} : CtrQ Try.prog 19 [.c (.ptr 0 0), v.av] [(.abs 0 (.book L), 0)] (.tv (.agg (membCvs L v))) := by
  refine ctrQ_run hmx T7 [Dec.u (20 : Nat)] (AV.tv (TV.agg [CV.rig (Value.int IntKind.u8 (roleM L (IntKind.u8.wrap (0 : Int)) v)), CV.rig (Value.int IntKind.u8 (roleM L (IntKind.u8.wrap (IntKind.i64.wrap ((0 : Int) + (1 : Int)))) v)), CV.rig (Value.int IntKind.u8 (roleM L (IntKind.u8.wrap (IntKind.i64.wrap (IntKind.i64.wrap ((0 : Int) + (1 : Int)) + (1 : Int)))) v)), CV.rig (Value.int IntKind.u8 (roleM L (IntKind.u8.wrap (IntKind.i64.wrap (IntKind.i64.wrap (IntKind.i64.wrap ((0 : Int) + (1 : Int)) + (1 : Int)) + (1 : Int)))) v)), CV.rig (Value.int IntKind.u8 (roleM L (IntKind.u8.wrap (IntKind.i64.wrap (IntKind.i64.wrap (IntKind.i64.wrap (IntKind.i64.wrap ((0 : Int) + (1 : Int)) + (1 : Int)) + (1 : Int)) + (1 : Int)))) v)), CV.rig (Value.int IntKind.u8 (roleM L (IntKind.u8.wrap (IntKind.i64.wrap (IntKind.i64.wrap (IntKind.i64.wrap (IntKind.i64.wrap (IntKind.i64.wrap ((0 : Int) + (1 : Int)) + (1 : Int)) + (1 : Int)) + (1 : Int)) + (1 : Int)))) v)), CV.rig (Value.int IntKind.u8 (roleM L (IntKind.u8.wrap (IntKind.i64.wrap (IntKind.i64.wrap (IntKind.i64.wrap (IntKind.i64.wrap (IntKind.i64.wrap (IntKind.i64.wrap ((0 : Int) + (1 : Int)) + (1 : Int)) + (1 : Int)) + (1 : Int)) + (1 : Int)) + (1 : Int)))) v)), CV.rig (Value.int IntKind.u8 (roleM L (IntKind.u8.wrap (IntKind.i64.wrap (IntKind.i64.wrap (IntKind.i64.wrap (IntKind.i64.wrap (IntKind.i64.wrap (IntKind.i64.wrap (IntKind.i64.wrap ((0 : Int) + (1 : Int)) + (1 : Int)) + (1 : Int)) + (1 : Int)) + (1 : Int)) + (1 : Int)) + (1 : Int)))) v))])) [(∀ (p : Ev × Bool), p ∈ L → p.fst.ok) ∧ (0 : Int) ≤ (0 : Int) ∧ (0 : Int) < (8 : Int), (∀ (p : Ev × Bool), p ∈ L → p.fst.ok) ∧ (0 : Int) ≤ IntKind.i64.wrap ((0 : Int) + (1 : Int)) ∧ IntKind.i64.wrap ((0 : Int) + (1 : Int)) < (8 : Int), (∀ (p : Ev × Bool), p ∈ L → p.fst.ok) ∧ (0 : Int) ≤ IntKind.i64.wrap (IntKind.i64.wrap ((0 : Int) + (1 : Int)) + (1 : Int)) ∧ IntKind.i64.wrap (IntKind.i64.wrap ((0 : Int) + (1 : Int)) + (1 : Int)) < (8 : Int), (∀ (p : Ev × Bool), p ∈ L → p.fst.ok) ∧ (0 : Int) ≤ IntKind.i64.wrap (IntKind.i64.wrap (IntKind.i64.wrap ((0 : Int) + (1 : Int)) + (1 : Int)) + (1 : Int)) ∧ IntKind.i64.wrap (IntKind.i64.wrap (IntKind.i64.wrap ((0 : Int) + (1 : Int)) + (1 : Int)) + (1 : Int)) < (8 : Int), (∀ (p : Ev × Bool), p ∈ L → p.fst.ok) ∧ (0 : Int) ≤ IntKind.i64.wrap (IntKind.i64.wrap (IntKind.i64.wrap (IntKind.i64.wrap ((0 : Int) + (1 : Int)) + (1 : Int)) + (1 : Int)) + (1 : Int)) ∧ IntKind.i64.wrap (IntKind.i64.wrap (IntKind.i64.wrap (IntKind.i64.wrap ((0 : Int) + (1 : Int)) + (1 : Int)) + (1 : Int)) + (1 : Int)) < (8 : Int), (∀ (p : Ev × Bool), p ∈ L → p.fst.ok) ∧ (0 : Int) ≤ IntKind.i64.wrap (IntKind.i64.wrap (IntKind.i64.wrap (IntKind.i64.wrap (IntKind.i64.wrap ((0 : Int) + (1 : Int)) + (1 : Int)) + (1 : Int)) + (1 : Int)) + (1 : Int)) ∧ IntKind.i64.wrap (IntKind.i64.wrap (IntKind.i64.wrap (IntKind.i64.wrap (IntKind.i64.wrap ((0 : Int) + (1 : Int)) + (1 : Int)) + (1 : Int)) + (1 : Int)) + (1 : Int)) < (8 : Int), (∀ (p : Ev × Bool), p ∈ L → p.fst.ok) ∧ (0 : Int) ≤ IntKind.i64.wrap (IntKind.i64.wrap (IntKind.i64.wrap (IntKind.i64.wrap (IntKind.i64.wrap (IntKind.i64.wrap ((0 : Int) + (1 : Int)) + (1 : Int)) + (1 : Int)) + (1 : Int)) + (1 : Int)) + (1 : Int)) ∧ IntKind.i64.wrap (IntKind.i64.wrap (IntKind.i64.wrap (IntKind.i64.wrap (IntKind.i64.wrap (IntKind.i64.wrap ((0 : Int) + (1 : Int)) + (1 : Int)) + (1 : Int)) + (1 : Int)) + (1 : Int)) + (1 : Int)) < (8 : Int), (∀ (p : Ev × Bool), p ∈ L → p.fst.ok) ∧ (0 : Int) ≤ IntKind.i64.wrap (IntKind.i64.wrap (IntKind.i64.wrap (IntKind.i64.wrap (IntKind.i64.wrap (IntKind.i64.wrap (IntKind.i64.wrap ((0 : Int) + (1 : Int)) + (1 : Int)) + (1 : Int)) + (1 : Int)) + (1 : Int)) + (1 : Int)) + (1 : Int)) ∧ IntKind.i64.wrap (IntKind.i64.wrap (IntKind.i64.wrap (IntKind.i64.wrap (IntKind.i64.wrap (IntKind.i64.wrap (IntKind.i64.wrap ((0 : Int) + (1 : Int)) + (1 : Int)) + (1 : Int)) + (1 : Int)) + (1 : Int)) + (1 : Int)) + (1 : Int)) < (8 : Int)] (by kernel_rfl) (by kernel_rfl) ⟨?_, ?_, ?_, ?_, ?_, ?_, ?_, ?_, trivial⟩ (by kernel_rfl)
  all_goals (
    first
    | exact ⟨hL, by decide, by decide⟩)


end Go.Proofs.Ytodcebpdmjdplaa

namespace Go.Proofs
open Go.Shelf

def Try.lClone_ren : Go.Shelf.Ren := ⟨fun | 5 => 36 | 7 => 42 | n => n, fun | 23 => 63 | 25 => 25 | 3 => 61 | 4 => 4 | 20 => 20 | n => n, fun | n => n⟩
theorem Try.lClone : Go.Proofs.SlLaysW.n5 Try.prog Try.lClone_ren := {
  mixed := by kernel_rfl
  f5 := ⟨Try.f36.name, by decide, Try.func36.trans (congrArg some (by kernel_rfl))⟩
  f7 := Try.func42.trans (congrArg some (by kernel_rfl))
  t4 := Try.underlying4
  a4 := Try.isAgg4
  z4 := Try.sizeOf4
  v4 := Try.zeroValue4
  t20 := Try.underlying20
  a20 := Try.isAgg20
  z20 := Try.sizeOf20
  v20 := Try.zeroValue20
  t23 := Try.underlying63
  a23 := Try.isAgg63
  z23 := Try.sizeOf63
  v23 := Try.zeroValue63 }
end Go.Proofs
namespace Go.Proofs.Ytodcebpdmjdplaa
open Go.RowKit

theorem clone_any (m : Nat) (es : Array MapEntry) (clock : Nat) (w : World) (hm : w.heap[m]? = some (.map es clock)) :
    Calls Try.prog 36 #[.map (some m)] w fun e w' => e = .returned (.map (some w.heap.size)) ∧ w' = w.alloc (.map es clock) :=
  AnyW.maps_Clone Try.lClone m es clock w hm

end Go.Proofs.Ytodcebpdmjdplaa

namespace Go.Proofs.Ytodcebpdmjdplaa
open Go.RowKit

def MMembers : MethQ Try.prog := {
  f := 19
  τ := Bk × Vec
  parse := fun y a => match y, a with
    | .book L, [.tv (.agg l)] => match vecOf l with | some v => some (L, v) | none => none
    | _, _ => none
  x := fun t => .book t.1
  rest := fun t => [t.2.av]
  v := fun t => .tv (.agg (membCvs t.1 t.2))
  owed := fun t => ∀ p ∈ t.1, p.1.ok
  parse_eq := fun {y a t} h => by
    split at h
    · split at h
      · rename_i hv; cases h; rw [vecOf_eq hv]; exact ⟨rfl, rfl⟩
      · cases h
    · cases h
  body := by kernel_rfl
  C := fun _ h => members_ctr' h }

theorem new_ctr : Ctr Try.prog 21 [] [] (.c (.ptr 0 0)) [(.abs 0 (.book []), 1)] :=
  (ctr_raw hmx T7 [] (show fnA Try.prog T7 21 [] [] [] = some (.c (.ptr 1 0), [(.raw (mapO []), 1), (.cells [.mp 0] 65, 1)], []) by kernel_rfl) trivial).closed 1 (.book []) rfl (by kernel_rfl) [1, 0] [1, 0] (by kernel_rfl) (by kernel_rfl) [1] [1] (by kernel_rfl) (by kernel_rfl) rfl rfl

def MNew : MakeE Try.prog := {
  f := 21
  τ := Unit
  parse := fun a => match a with | [] => some () | _ => none
  args := fun _ => []
  v := fun _ => .c (.ptr 0 0)
  new := fun _ => [(.abs 0 (.book []), 1)]
  owed := fun _ => True
  parse_eq := fun {a t} h => by
    split at h
    · rfl
    · cases h
  body := by kernel_rfl
  C := fun _ _ => new_ctr }

def cloneE (args : List AV) (H : AH) : Option (AV × List (Nat × AO) × List AO × Option Prop) :=
  match args with
  | [.tv (.one (.mp i))] => match H[i]? with
    | some (.raw o, _) => some (.c (.mp H.length), [], [.raw o], some (IsBk o))
    | _ => none
  | _ => none

theorem cloneE_ok {args : List AV} {H : AH} {v : AV} {upd : List (Nat × AO)} {new : List AO} {pr : Option Prop} (h : cloneE args H = some (v, upd, new, pr)) (hp : Owed pr) (r : Gh) (W0 : Base) (w : World) (hst : St r H W0 w) (hsc : H.scB = true) :
    Calls Try.prog 36 (args.map (AV.conc r)).toArray w fun e w' => ∃ r', Agree H.length r r' ∧ e = .returned (v.conc r') ∧ St r' (moveH H upd new) W0 w' := by
  unfold cloneE at h
  split at h
  · rename_i i
    split at h
    · rename_i o f hi
      simp only [Option.some.injEq, Prod.mk.injEq] at h
      obtain ⟨rfl, rfl, rfl, rfl⟩ := h
      obtain ⟨es, clock, rfl⟩ : ∃ es clock, o = .map es clock := ⟨_, _, hp.some⟩
      refine (clone_any (r.b i) es clock w (hst.at_ i _ hi).1).mono ?_
      rintro e w' ⟨rfl, rfl⟩
      refine ⟨_, bump_agree r H.length w.heap.size, ?_, (hst.alloc hsc (.raw (.map es clock)) rfl (.map es clock) rfl).as ?_⟩
      · simp [AV.conc, TV.conc, CV.conc, bump]
      · simp [moveH, turnH_nil]
    · simp at h
  · simp at h

noncomputable def T8a : CT Try.prog := ((T7.addMQ MMembers).addMk MNew).addE 36 cloneE (by kernel_rfl) fun _ _ _ _ _ _ h hp r W0 w hst _ hsc => cloneE_ok h hp r W0 w hst hsc

theorem fork_ctr (L : Bk) : CtrN Try.prog 25 [.c (.ptr 0 0)] [(.abs 0 (.book L), 0)] (.c (.ptr 0 0)) [(.abs 0 (.book L), 1)] :=
  ctrN_meth hmx T8a [] 0 (x := .book L) (Hx := bkH L) rfl rfl (by kernel_rfl) (by kernel_rfl)
    (show fnA Try.prog T8a 25 [.c (.ptr 0 0)] (openH [(.abs 0 (.book L), 0)] 0 (bkH L)) [] = some (.c (.ptr 4 0), ndO L ++ [(.raw (mapO L), 1), (.cells [.mp 3] 65, 1)], [IsBk (mapO L)]) by kernel_rfl) ⟨isBk_mapO L, trivial⟩
    4 (.book L) rfl (by kernel_rfl) [4, 3] [4, 3] (by kernel_rfl) (by kernel_rfl) [4] [4] _ (by kernel_rfl) (by kernel_rfl) rfl rfl (by kernel_rfl)

def MFork : MethN Try.prog := {
  f := 25
  τ := Bk
  parse := fun y a => match y, a with
    | .book L, [] => some L
    | _, _ => none
  x := fun t => .book t
  rest := fun _ => []
  v := fun _ => .c (.ptr 0 0)
  new := fun t => [(.abs 0 (.book t), 1)]
  owed := fun _ => True
  parse_eq := fun {y a t} h => by
    split at h
    · cases h; exact ⟨rfl, rfl⟩
    · cases h
  body := by kernel_rfl
  C := fun t _ => fork_ctr t }

noncomputable def T8 : CT Try.prog := T8a.addMN MFork

end Go.Proofs.Ytodcebpdmjdplaa

namespace Go.Proofs.Ytodcebpdmjdplaa
open Go.RowKit

def zeroVec : Vec := ⟨0, 0, 0, 0, 0, 0, 0, 0⟩
def E0 : Ev := ⟨⟨0, 1⟩, ⟨0, 0, 0, 0, 0, 0, 0, 0⟩, 3, ⟨0, 0⟩, false, 0, 3, 2⟩

theorem vec_ok {v : Vec} (h : ∀ i, i < 8 → 0 ≤ v.get i ∧ v.get i < 4294967296) : v.ok := by
  constructor <;> intro i
  · by_cases hi : i < 8
    · exact (h i hi).1
    · unfold Vec.get; split <;> first | omega | exact Int.le_refl _
  · by_cases hi : i < 8
    · exact (h i hi).2
    · unfold Vec.get; split <;> first | omega | decide

theorem zeroVec_ok : zeroVec.ok := vec_ok (by decide)
theorem E0_ok : E0.ok := ⟨⟨by decide, by decide, by decide, by decide⟩, zeroVec_ok, by decide, by decide, ⟨by decide, by decide, by decide, by decide⟩, by decide, by decide, by decide, by decide, by decide, by decide⟩
theorem nil_ok : ∀ p ∈ ([] : Bk), p.1.ok := fun p hp => by cases hp
theorem live_add : addM [] E0 = (0, [(E0, true)]) := by decide
theorem L0_ok : ∀ p ∈ (addM [] E0).2, p.1.ok := fun p hp => by
  rw [live_add] at hp
  simp only [List.mem_singleton] at hp
  rw [hp]; exact E0_ok

theorem live_run (r : Gh) (w : World) : Calls Try.prog 14 ((([] : List AV).map (AV.conc r)).toArray) w fun x w' => x = .returned (.bool true) ∧ Below w.heap.size w w' := by
  refine fnP_leaf (T := T8) hmx (D := []) (v := Value.bool (bif bif bif bif (addM [] (Ev.mk (Dot.mk (0 : Int) (1 : Int)) (Vec.mk (0 : Int) (0 : Int) (0 : Int) (0 : Int) (0 : Int) (0 : Int) (0 : Int) (0 : Int)) (3 : Int) (Dot.mk (0 : Int) (0 : Int)) false (0 : Int) (3 : Int) (2 : Int))).fst == (0 : Int) then roleM [(Ev.mk (Dot.mk (0 : Int) (1 : Int)) (Vec.mk (0 : Int) (0 : Int) (0 : Int) (0 : Int) (0 : Int) (0 : Int) (0 : Int) (0 : Int)) (3 : Int) (Dot.mk (0 : Int) (0 : Int)) false (0 : Int) (3 : Int) (2 : Int), roleM [] (Ev.mk (Dot.mk (0 : Int) (1 : Int)) (Vec.mk (0 : Int) (0 : Int) (0 : Int) (0 : Int) (0 : Int) (0 : Int) (0 : Int) (0 : Int)) (3 : Int) (Dot.mk (0 : Int) (0 : Int)) false (0 : Int) (3 : Int) (2 : Int)).d.a (Ev.mk (Dot.mk (0 : Int) (1 : Int)) (Vec.mk (0 : Int) (0 : Int) (0 : Int) (0 : Int) (0 : Int) (0 : Int) (0 : Int) (0 : Int)) (3 : Int) (Dot.mk (0 : Int) (0 : Int)) false (0 : Int) (3 : Int) (2 : Int)).p == (3 : Int))] ((0 : Int), Vec.mk (0 : Int) (0 : Int) (0 : Int) (0 : Int) (0 : Int) (0 : Int) (0 : Int) (0 : Int)).fst ((0 : Int), Vec.mk (0 : Int) (0 : Int) (0 : Int) (0 : Int) (0 : Int) (0 : Int) (0 : Int) (0 : Int)).snd == (3 : Int) else false then roleM [(Ev.mk (Dot.mk (0 : Int) (1 : Int)) (Vec.mk (0 : Int) (0 : Int) (0 : Int) (0 : Int) (0 : Int) (0 : Int) (0 : Int) (0 : Int)) (3 : Int) (Dot.mk (0 : Int) (0 : Int)) false (0 : Int) (3 : Int) (2 : Int), roleM [] (Ev.mk (Dot.mk (0 : Int) (1 : Int)) (Vec.mk (0 : Int) (0 : Int) (0 : Int) (0 : Int) (0 : Int) (0 : Int) (0 : Int) (0 : Int)) (3 : Int) (Dot.mk (0 : Int) (0 : Int)) false (0 : Int) (3 : Int) (2 : Int)).d.a (Ev.mk (Dot.mk (0 : Int) (1 : Int)) (Vec.mk (0 : Int) (0 : Int) (0 : Int) (0 : Int) (0 : Int) (0 : Int) (0 : Int) (0 : Int)) (3 : Int) (Dot.mk (0 : Int) (0 : Int)) false (0 : Int) (3 : Int) (2 : Int)).p == (3 : Int))] ((3 : Int), Vec.mk (0 : Int) (0 : Int) (0 : Int) (0 : Int) (0 : Int) (0 : Int) (0 : Int) (0 : Int)).fst ((3 : Int), Vec.mk (0 : Int) (0 : Int) (0 : Int) (0 : Int) (0 : Int) (0 : Int) (0 : Int) (0 : Int)).snd == (0 : Int) else false then roleM [(Ev.mk (Dot.mk (0 : Int) (1 : Int)) (Vec.mk (0 : Int) (0 : Int) (0 : Int) (0 : Int) (0 : Int) (0 : Int) (0 : Int) (0 : Int)) (3 : Int) (Dot.mk (0 : Int) (0 : Int)) false (0 : Int) (3 : Int) (2 : Int), roleM [] (Ev.mk (Dot.mk (0 : Int) (1 : Int)) (Vec.mk (0 : Int) (0 : Int) (0 : Int) (0 : Int) (0 : Int) (0 : Int) (0 : Int) (0 : Int)) (3 : Int) (Dot.mk (0 : Int) (0 : Int)) false (0 : Int) (3 : Int) (2 : Int)).d.a (Ev.mk (Dot.mk (0 : Int) (1 : Int)) (Vec.mk (0 : Int) (0 : Int) (0 : Int) (0 : Int) (0 : Int) (0 : Int) (0 : Int) (0 : Int)) (3 : Int) (Dot.mk (0 : Int) (0 : Int)) false (0 : Int) (3 : Int) (2 : Int)).p == (3 : Int))] ((3 : Int), Vec.mk (1 : Int) (0 : Int) (0 : Int) (0 : Int) (0 : Int) (0 : Int) (0 : Int) (0 : Int)).fst ((3 : Int), Vec.mk (1 : Int) (0 : Int) (0 : Int) (0 : Int) (0 : Int) (0 : Int) (0 : Int) (0 : Int)).snd == (2 : Int) else false then (gotL [(Ev.mk (Dot.mk (0 : Int) (1 : Int)) (Vec.mk (0 : Int) (0 : Int) (0 : Int) (0 : Int) (0 : Int) (0 : Int) (0 : Int) (0 : Int)) (3 : Int) (Dot.mk (0 : Int) (0 : Int)) false (0 : Int) (3 : Int) (2 : Int), roleM [] (Ev.mk (Dot.mk (0 : Int) (1 : Int)) (Vec.mk (0 : Int) (0 : Int) (0 : Int) (0 : Int) (0 : Int) (0 : Int) (0 : Int) (0 : Int)) (3 : Int) (Dot.mk (0 : Int) (0 : Int)) false (0 : Int) (3 : Int) (2 : Int)).d.a (Ev.mk (Dot.mk (0 : Int) (1 : Int)) (Vec.mk (0 : Int) (0 : Int) (0 : Int) (0 : Int) (0 : Int) (0 : Int) (0 : Int) (0 : Int)) (3 : Int) (Dot.mk (0 : Int) (0 : Int)) false (0 : Int) (3 : Int) (2 : Int)).p == (3 : Int))] (Dot.mk (0 : Int) (1 : Int))).snd else false)) (ps := [True, (∀ (p : Ev × Bool), p ∈ [] → p.fst.ok) ∧ (Ev.mk (Dot.mk (0 : Int) (1 : Int)) (Vec.mk (0 : Int) (0 : Int) (0 : Int) (0 : Int) (0 : Int) (0 : Int) (0 : Int) (0 : Int)) (3 : Int) (Dot.mk (0 : Int) (0 : Int)) false (0 : Int) (3 : Int) (2 : Int)).ok, ∀ (p : Ev × Bool), p ∈ [(Ev.mk (Dot.mk (0 : Int) (1 : Int)) (Vec.mk (0 : Int) (0 : Int) (0 : Int) (0 : Int) (0 : Int) (0 : Int) (0 : Int) (0 : Int)) (3 : Int) (Dot.mk (0 : Int) (0 : Int)) false (0 : Int) (3 : Int) (2 : Int), roleM [] (Ev.mk (Dot.mk (0 : Int) (1 : Int)) (Vec.mk (0 : Int) (0 : Int) (0 : Int) (0 : Int) (0 : Int) (0 : Int) (0 : Int) (0 : Int)) (3 : Int) (Dot.mk (0 : Int) (0 : Int)) false (0 : Int) (3 : Int) (2 : Int)).d.a (Ev.mk (Dot.mk (0 : Int) (1 : Int)) (Vec.mk (0 : Int) (0 : Int) (0 : Int) (0 : Int) (0 : Int) (0 : Int) (0 : Int) (0 : Int)) (3 : Int) (Dot.mk (0 : Int) (0 : Int)) false (0 : Int) (3 : Int) (2 : Int)).p == (3 : Int))] → p.fst.ok, ∀ (p : Ev × Bool), p ∈ [(Ev.mk (Dot.mk (0 : Int) (1 : Int)) (Vec.mk (0 : Int) (0 : Int) (0 : Int) (0 : Int) (0 : Int) (0 : Int) (0 : Int) (0 : Int)) (3 : Int) (Dot.mk (0 : Int) (0 : Int)) false (0 : Int) (3 : Int) (2 : Int), roleM [] (Ev.mk (Dot.mk (0 : Int) (1 : Int)) (Vec.mk (0 : Int) (0 : Int) (0 : Int) (0 : Int) (0 : Int) (0 : Int) (0 : Int) (0 : Int)) (3 : Int) (Dot.mk (0 : Int) (0 : Int)) false (0 : Int) (3 : Int) (2 : Int)).d.a (Ev.mk (Dot.mk (0 : Int) (1 : Int)) (Vec.mk (0 : Int) (0 : Int) (0 : Int) (0 : Int) (0 : Int) (0 : Int) (0 : Int) (0 : Int)) (3 : Int) (Dot.mk (0 : Int) (0 : Int)) false (0 : Int) (3 : Int) (2 : Int)).p == (3 : Int))] → p.fst.ok, ∀ (p : Ev × Bool), p ∈ [(Ev.mk (Dot.mk (0 : Int) (1 : Int)) (Vec.mk (0 : Int) (0 : Int) (0 : Int) (0 : Int) (0 : Int) (0 : Int) (0 : Int) (0 : Int)) (3 : Int) (Dot.mk (0 : Int) (0 : Int)) false (0 : Int) (3 : Int) (2 : Int), roleM [] (Ev.mk (Dot.mk (0 : Int) (1 : Int)) (Vec.mk (0 : Int) (0 : Int) (0 : Int) (0 : Int) (0 : Int) (0 : Int) (0 : Int) (0 : Int)) (3 : Int) (Dot.mk (0 : Int) (0 : Int)) false (0 : Int) (3 : Int) (2 : Int)).d.a (Ev.mk (Dot.mk (0 : Int) (1 : Int)) (Vec.mk (0 : Int) (0 : Int) (0 : Int) (0 : Int) (0 : Int) (0 : Int) (0 : Int) (0 : Int)) (3 : Int) (Dot.mk (0 : Int) (0 : Int)) false (0 : Int) (3 : Int) (2 : Int)).p == (3 : Int))] → p.fst.ok, True]) (by kernel_rfl) ⟨?_, ?_, ?_, ?_, ?_, ?_, trivial⟩ ?_ r w
  all_goals (
    first
    | exact ⟨nil_ok, E0_ok⟩
    | exact L0_ok
    | trivial
    | (exfalso; revert h1; decide)
    | (exfalso; revert h2; decide)
    | (exfalso; revert h3; decide)
    | (exfalso; revert h4; decide)
    | decide
    | (refine congrArg Value.bool ?_; decide))


end Go.Proofs.Ytodcebpdmjdplaa
