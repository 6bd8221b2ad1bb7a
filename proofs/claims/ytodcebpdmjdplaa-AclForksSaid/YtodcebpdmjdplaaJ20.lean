/- Forks: walked. -/
import Derived.Test.YtodcebpdmjdplaaJ18
namespace Go.Proofs.Ytodcebpdmjdplaa
open Go.RowKit

def fkH (l m : List Ev) (v : Vec) (L L' : Bk) : AH := [(.abs 0 (.aevs l), 0), (.abs 1 (.aevs m), 0), (.cells v.cvs 27, 1), (.abs 3 (.book L), 1), (.abs 4 (.rbook L), 1), (.abs 5 (.book L'), 1)]
noncomputable def fkF (v : Vec) (i : Int) : AF := (((((startF (fnOf Try.prog 11) [.c (.sl 0), .c (.sl 1), v.av]).set 5 (.c (.ptr 2 0))).set 7 (.c (.ptr 3 0))).set 8 (.c (.ptr 4 0))).set 10 (.c (.ptr 5 0))).set 11 (.r (.int .i64 i))

theorem forks_ctr {l m : List Ev} (hl : ∀ e ∈ l, e.ok) (hm : ∀ e ∈ m, e.ok) (v : Vec) : CtrQ Try.prog 11 [.c (.sl 0), .c (.sl 1), v.av] [(.abs 0 (.aevs l), 0), (.abs 1 (.aevs m), 0)] (.b true) := by
  intro r w hst0
  have hL := plL_ok hl
  suffices hh : Calls Try.prog 11 (([.c (.sl 0), .c (.sl 1), v.av].map (AV.conc r)).toArray) w fun e w' => e = .returned (.bool true) ∧ ∃ g H, St g H (rd r w) w' from hh.mono fun e w' ⟨h1, g, H, h2⟩ => ⟨h1, h2.belowR⟩
  refine (callsFw (ro := none) (n := 0)).1 (callsInStart (fn := fnOf Try.prog 11) (c := bodyOf Try.prog 11) (by kernel_rfl) (by kernel_rfl) fun a0 hF0 hd0 => ?_)
  refine code_wp hmx TH [] [∀ e ∈ l, e.ok, True] (.loop (fnLoop Try.prog 11 0).1 (fnLoop Try.prog 11 0).2) (by kernel_rfl) (by kernel_rfl) ⟨hl, trivial, trivial⟩ hF0 hst0 fun r2 w2 a2 hag2 hst2 hF2 hd2 => ?_
  refine loop_wp (σ := Nat) (n0 := 0) (g0 := r) (B := rd r w) (ds := []) [0, 1, 5, 7, 8, 10, 11] (fun i => fkF v i) (fun i => fkH l m v (plL l) (addsL (plL l) (m.take i))) (fun i => i ≤ m.length ∧ i ≤ 20) (fun i => m.length - i) 0
    (next_inv ⟨Nat.zero_le _, Nat.zero_le _⟩ (Agree.refl _ _) hag2 (by kernel_rfl) hF2 hst2 (hd2.trans hd0) (by kernel_rfl) (by kernel_rfl) (by kernel_rfl)) fun i g G a w1 hi hag hF hst hd => ?_
  obtain ⟨hi, hi20⟩ := hi
  have hok := addsL_take_ok hL hm i
  cases h1 : (decide ((↑i : Int) < (↑m.length : Int))) with
  | false =>
    refine code_wp hmx (ro := none) TH [Dec.s (6005 : Nat) (30 : Nat) false] [decide ((↑i : Int) < (↑m.length : Int)) = false] (.exit 0) (by kernel_rfl) (by kernel_rfl) ⟨h1, trivial⟩ hF hst fun g1 w1 a1 hag1 hst1 hF1 hd1 => ?_
    refine exit_out (k' := restAt 0 (fnLoop Try.prog 11 0).2) (by kernel_rfl) ?_
    obtain ⟨-, g5, G5, hag5, hF5, hst5, hd5⟩ := next_inv (σ := Unit) (n0 := 0) (live := [0, 1, 5, 7, 8, 10, 11]) (F := fun _ => fkF v i) (H := fun _ => fkH l m v (plL l) (addsL (plL l) (m.take i))) (inv := fun _ => True) (s' := ()) trivial hag hag1 (by kernel_rfl) hF1 hst1 (hd1.trans hd) (by kernel_rfl) (by kernel_rfl) (by kernel_rfl)
    refine list_wp hmx TH [] [plL l = plL l ∧ BkOk (plL l) 1000] .ret (by kernel_rfl) (by kernel_rfl) ⟨⟨rfl, hL.mono (by decide)⟩, trivial⟩ hF5 hst5 fun g6 w6 a6 hag6 hst6 hF6 hd6 => ?_
    exact ret_fin (bodyPost_of (v := .b true) (by kernel_rfl) hF6 hst6 (hd6.trans hd5) ⟨rfl, g6, _, hst6⟩).1
  | true =>
    cases h2 : (decide ((↑i : Int) < (20 : Int))) with
    | false =>
      refine code_wp hmx (ro := none) TH [Dec.s (6005 : Nat) (30 : Nat) true, Dec.c (33 : Nat) false] [decide ((↑i : Int) < (↑m.length : Int)) = true, decide ((↑i : Int) < (20 : Int)) = false] (.exit 0) (by kernel_rfl) (by kernel_rfl) ⟨h1, h2, trivial⟩ hF hst fun g1 w1 a1 hag1 hst1 hF1 hd1 => ?_
      refine exit_out (k' := restAt 0 (fnLoop Try.prog 11 0).2) (by kernel_rfl) ?_
      obtain ⟨-, g5, G5, hag5, hF5, hst5, hd5⟩ := next_inv (σ := Unit) (n0 := 0) (live := [0, 1, 5, 7, 8, 10, 11]) (F := fun _ => fkF v i) (H := fun _ => fkH l m v (plL l) (addsL (plL l) (m.take i))) (inv := fun _ => True) (s' := ()) trivial hag hag1 (by kernel_rfl) hF1 hst1 (hd1.trans hd) (by kernel_rfl) (by kernel_rfl) (by kernel_rfl)
      refine list_wp hmx TH [] [plL l = plL l ∧ BkOk (plL l) 1000] .ret (by kernel_rfl) (by kernel_rfl) ⟨⟨rfl, hL.mono (by decide)⟩, trivial⟩ hF5 hst5 fun g6 w6 a6 hag6 hst6 hF6 hd6 => ?_
      exact ret_fin (bodyPost_of (v := .b true) (by kernel_rfl) hF6 hst6 (hd6.trans hd5) ⟨rfl, g6, _, hst6⟩).1
    | true =>
      refine code_wp hmx (ro := none) TH [Dec.s (6005 : Nat) (30 : Nat) true, Dec.c (33 : Nat) true] [decide ((↑i : Int) < (↑m.length : Int)) = true, decide ((↑i : Int) < (20 : Int)) = true, (0 : Int) ≤ (↑i : Int) ∧ (↑i : Int) < (↑m.length : Int), (↑i : Int).toNat < m.length, (∀ (p : Ev × Bool), p ∈ addsL (plL l) (List.take i m) → p.fst.ok) ∧ Ev.ok (m.getD (↑i : Int).toNat Elt.zero)] .norm (by kernel_rfl) (by kernel_rfl) (by refine ⟨h1, h2, ?_, ?_, ?_, trivial⟩ <;> (first | omega | exact ⟨hok.ok, hm _ (nthE_mem (by simpa using h1))⟩ | (simp at h1 ⊢; omega))) hF hst fun g1 w1 a1 hag1 hst1 hF1 hd1 => ?_
      have hlt : i < m.length := by simpa using h1
      have h20 : i < 20 := by simp at h2; omega
      have e1 : IntKind.i64.wrap ((i : Int) + 1) = ((i + 1 : Nat) : Int) := IntWalk.i64_in _ (by omega)
      have e2 := addsL_take (plL l) m i hlt
      refine ⟨i + 1, ?_, by omega⟩
      exact next_inv (show i + 1 ≤ m.length ∧ i + 1 ≤ 20 from ⟨by omega, by omega⟩) hag hag1 (by kernel_rfl) hF1 hst1 (hd1.trans hd) (by kernel_rfl) (by (try dsimp only); rw [← e1]; kernel_rfl) (by (try dsimp only); rw [e2]; kernel_rfl)

end Go.Proofs.Ytodcebpdmjdplaa
