/- live. -/
import Derived.Test.YtodcebpdmjdplaaCG
namespace Go.Proofs.Ytodcebpdmjdplaa
open Go.RowKit

def zeroVec : Vec := ⟨0, 0, 0, 0, 0, 0, 0, 0⟩
def oneVec : Vec := ⟨1, 0, 0, 0, 0, 0, 0, 0⟩
def E0 : Ev := ⟨⟨0, 1⟩, zeroVec, 3, ⟨0, 0⟩, false, 0, 3, 2⟩
def L0 : Bk := [(E0, true)]

theorem vec_ok {v : Vec} (h : ∀ i, i < 8 → 0 ≤ v.get i ∧ v.get i < 4294967296) : v.ok := by
  constructor <;> intro i
  · by_cases hi : i < 8
    · exact (h i hi).1
    · unfold Vec.get; split <;> first | omega | exact Int.le_refl _
  · by_cases hi : i < 8
    · exact (h i hi).2
    · unfold Vec.get; split <;> first | omega | decide

theorem zeroVec_ok : zeroVec.ok := vec_ok (by decide)
theorem E0_ok : E0.ok := ⟨⟨by decide, by decide, by decide, by decide⟩, zeroVec_ok, by decide, by decide, ⟨by decide, by decide, by decide, by decide⟩, by decide, by decide, by decide, by decide, by decide, by decide⟩
theorem L0_ok : ∀ p ∈ L0, p.1.ok := fun p hp => by
  simp only [L0, List.mem_singleton] at hp
  rw [hp]; exact E0_ok

theorem live_add : addM [] E0 = (0, L0) := by decide
theorem live_r1 : roleM L0 0 zeroVec = 3 := by decide
theorem live_r2 : roleM L0 3 zeroVec = 0 := by decide
theorem live_r3 : roleM L0 3 oneVec = 2 := by decide
theorem live_c : (gotL L0 ⟨0, 1⟩).2 = true := by decide

def lvH (L : Bk) : AH := [(.raw (mapO L), 1), (.cells [.mp 0] 65, 1)]
def lvF (n : Int) : AF := [.b false, .c (.ptr 1 0), .r (.int .i64 n), .c (.ptr 1 0), .c (.ptr 1 0), .tv (.agg [.rig (.int .u8 0), .rig (.int .u32 1)]), E0.av, .r (.int .i64 n), .undef, .undef, .undef, .undef, .undef, .undef, .undef, .undef, .undef,
  .undef, .undef, .undef, .undef, .undef, .undef, .undef, .undef, .undef, .undef, .undef, .undef, .undef, .undef, .undef, .undef]

theorem live_run (w : World) : Calls Try.prog 14 #[] w fun x w' => x = .returned (.bool true) ∧ Below w.heap.size w w' := by
  refine (callsFw (ro := none) (n := 2)).1 (callsInStart (args := []) (r := id) (fn := fnOf Try.prog 14)
    (c := (.seq (.region 0 (opsAt Try.prog 14 0) false) (.seq (.region 1 (opsAt Try.prog 14 1) false) (.seq (.region 2 (opsAt Try.prog 14 2) false) (.seq (.region 3 (opsAt Try.prog 14 3) false) .ret))))) (by kernel_rfl) (by kernel_rfl) fun a0 hF0 hd0 => ?_)
  refine wpIn_seq (reg_wp (pre_wp T8 0 1 [] [] (by kernel_rfl) (by kernel_rfl) trivial hF0 (St.empty id w) fun r1 w1 a1 hag1 hst1 hF1 hd1 => wpListIn_end (by kernel_rfl) ?_))
  refine wpIn_seq (reg_wp (pre_wp T8 1 2 [] [] (by kernel_rfl) (by kernel_rfl) trivial hF1 hst1 fun r2 w2 a2 hag2 hst2 hF2 hd2 => wpListIn_end (by kernel_rfl) ?_))
  refine wpIn_seq (reg_wp (pre_wp T8 2 5 [] [IsBk (mapO []) ∧ (∀ p ∈ bkOf (mapO []), p.1.ok) ∧ E0.ok] (by kernel_rfl) (by kernel_rfl) ⟨⟨isBk_mapO [], (by rw [bkOf_mapO]; intro p hp; cases hp), E0_ok⟩, trivial⟩ hF2 hst2 fun r3 w3 a3 hag3 hst3 hF3 hd3 => wpListIn_end (by kernel_rfl) ?_))
  have hst : St r3 (lvH (addM (bkOf (mapO [])) E0).2) w w3 := hst3.as (by kernel_rfl)
  have hF : FrameOk r3 (lvF (addM (bkOf (mapO [])) E0).1) a3 := hF3.as (by kernel_rfl)
  rw [bkOf_mapO, live_add] at hst hF
  have hd : a3.defers = [] := by rw [hd3, hd2, hd1, hd0]
  clear hF0 hF1 hF2 hF3 hst1 hst2 hst3
  have hk : IsBk (mapO L0) ∧ ∀ p ∈ bkOf (mapO L0), p.1.ok := ⟨isBk_mapO L0, by rw [bkOf_mapO]; exact L0_ok⟩
  refine wpIn_seq (reg_wp (pre_wp T8 3 26 [.s 3009 16 true, .s 3015 22 true, .s 3021 28 true]
    [IsBk (mapO L0) ∧ ∀ p ∈ bkOf (mapO L0), p.1.ok, (roleM (bkOf (mapO L0)) 0 zeroVec == 3) = true, IsBk (mapO L0) ∧ ∀ p ∈ bkOf (mapO L0), p.1.ok, (roleM (bkOf (mapO L0)) 3 zeroVec == 0) = true, IsBk (mapO L0) ∧ ∀ p ∈ bkOf (mapO L0), p.1.ok, (roleM (bkOf (mapO L0)) 3 oneVec == 2) = true, IsBk (mapO L0)]
    (by kernel_rfl) (by kernel_rfl) ⟨hk, (by rw [bkOf_mapO, live_r1]; rfl), hk, (by rw [bkOf_mapO, live_r2]; rfl), hk, (by rw [bkOf_mapO, live_r3]; rfl), hk.1, trivial⟩ hF hst fun r4 w4 a4 hag4 hst4 hF4 hd4 => wpListIn_end (by kernel_rfl) (wpIn_ret ?_)))
  refine (bodyPost_of (v := .b (gotL (bkOf (mapO L0)) ⟨0, 1⟩).2) (by kernel_rfl) hF4 hst4 (by rw [hd4, hd]) ⟨?_, hst4.below (by kernel_rfl)⟩).1
  rw [bkOf_mapO, live_c]; rfl

end Go.Proofs.Ytodcebpdmjdplaa
