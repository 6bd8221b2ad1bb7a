import Derived.Test.YtodcebpdmjdplaaA0
namespace Go.Proofs.Ytodcebpdmjdplaa
open Go.RowKit

theorem has_out (v : Vec) (d : Dot) (w : World) (h : ¬ d.a < 8) (h3 : d.a < 256) :
    Calls Try.prog 39 #[v.v, d.v] w fun e w' => e = .returned (.bool false) ∧ Below w.heap.size w w' := by
  have hd : decide (d.a < 8) = false := by simp; omega
  go_enter Try.func39, Try.ntmps39
  go_wp2
  go_quiet (fail)
  go_wp2
  go_ret
  exact ⟨rfl, (by repeat (first | exact Below.refl _ _ | (apply below_drewN) | (refine Below.drew ?_) | (refine Below.setCell ?_ (by simp <;> omega) _) | (refine Below.alloc ?_ (by simp <;> omega) _)))⟩

theorem has_zero (v : Vec) (d : Dot) (w : World) (h : d.a < 8) (h2 : 0 ≤ d.a) (hs : d.s = 0) :
    Calls Try.prog 39 #[v.v, d.v] w fun e w' => e = .returned (.bool false) ∧ Below w.heap.size w w' := by
  have hd : decide (d.a < 8) = true := by simp; omega
  have hd : (d.s != 0) = false := by simp; omega
  have hv := vec_list v
  clear hs
  go_enter Try.func39, Try.ntmps39
  go_wp2
  go_quiet (fail)
  go_wp2
  go_ret
  exact ⟨rfl, (by repeat (first | exact Below.refl _ _ | (apply below_drewN) | (refine Below.drew ?_) | (refine Below.setCell ?_ (by simp <;> omega) _) | (refine Below.alloc ?_ (by simp <;> omega) _)))⟩

theorem has_in (v : Vec) (d : Dot) (w : World) (h : d.a < 8) (h2 : 0 ≤ d.a) (hs : d.s ≠ 0)  :
    Calls Try.prog 39 #[v.v, d.v] w fun e w' => e = .returned (.bool (decide (d.s ≤ v.get d.a.toNat))) ∧ Below w.heap.size w w' := by
  have hd : decide (d.a < 8) = true := by simp; omega
  have hd : (d.s != 0) = true := by simp; omega
  have hv := vec_list v
  go_enter Try.func39, Try.ntmps39
  go_wp2
  go_quiet (fail)
  go_wp2
  go_ret
  exact ⟨rfl, (by repeat (first | exact Below.refl _ _ | (apply below_drewN) | (refine Below.drew ?_) | (refine Below.setCell ?_ (by simp <;> omega) _) | (refine Below.alloc ?_ (by simp <;> omega) _)))⟩

theorem has_any (v : Vec) (d : Dot) (hd : d.ok) (w : World) :
    Calls Try.prog 39 #[v.v, d.v] w fun e w' => e = .returned (.bool (hasB v d)) ∧ Below w.heap.size w w' := by
  have h2 := hd.a0
  have h3 := hd.a1
  by_cases h : d.a < 8
  · by_cases hs : d.s = 0
    · simpa [hasB, hs] using has_zero v d w h h2 hs
    · simpa [hasB, hs, h] using has_in v d w h h2 hs
  · simpa [hasB, h] using has_out v d w h h3

theorem rhas_out (v : Vec) (d : Dot) (w : World) (h : ¬ d.a < 8) (h3 : d.a < 256) :
    Calls Try.prog 20 #[v.v, d.v] w fun e w' => e = .returned (.bool false) ∧ Below w.heap.size w w' := by
  have hd : decide (d.a < 8) = false := by simp; omega
  go_enter Try.func20, Try.ntmps20
  go_wp2
  go_quiet (fail)
  go_wp2
  go_ret
  exact ⟨rfl, (by repeat (first | exact Below.refl _ _ | (apply below_drewN) | (refine Below.drew ?_) | (refine Below.setCell ?_ (by simp <;> omega) _) | (refine Below.alloc ?_ (by simp <;> omega) _)))⟩

theorem rhas_zero (v : Vec) (d : Dot) (w : World) (h : d.a < 8) (hs : ¬ 0 < d.s) :
    Calls Try.prog 20 #[v.v, d.v] w fun e w' => e = .returned (.bool false) ∧ Below w.heap.size w w' := by
  have hd : decide (d.a < 8) = true := by simp; omega
  have hd : decide (0 < d.s) = false := by simp; omega
  have hv := vec_list v
  go_enter Try.func20, Try.ntmps20
  go_wp2
  go_quiet (fail)
  go_wp2
  go_ret
  exact ⟨rfl, (by repeat (first | exact Below.refl _ _ | (apply below_drewN) | (refine Below.drew ?_) | (refine Below.setCell ?_ (by simp <;> omega) _) | (refine Below.alloc ?_ (by simp <;> omega) _)))⟩

theorem rhas_in (v : Vec) (d : Dot) (w : World) (h : d.a < 8) (h2 : 0 ≤ d.a) (hs : 0 < d.s)  :
    Calls Try.prog 20 #[v.v, d.v] w fun e w' => e = .returned (.bool (decide (d.s ≤ v.get d.a.toNat))) ∧ Below w.heap.size w w' := by
  have hd : decide (d.a < 8) = true := by simp; omega
  have hd : decide (0 < d.s) = true := by simp; omega
  have hv := vec_list v
  go_enter Try.func20, Try.ntmps20
  go_wp2
  go_quiet (fail)
  go_wp2
  go_ret
  exact ⟨rfl, (by repeat (first | exact Below.refl _ _ | (apply below_drewN) | (refine Below.drew ?_) | (refine Below.setCell ?_ (by simp <;> omega) _) | (refine Below.alloc ?_ (by simp <;> omega) _)))⟩

theorem rhas_any (v : Vec) (d : Dot) (hd : d.ok) (w : World) :
    Calls Try.prog 20 #[v.v, d.v] w fun e w' => e = .returned (.bool (hasB v d)) ∧ Below w.heap.size w w' := by
  have h2 := hd.a0
  have h3 := hd.s0
  by_cases h : d.a < 8
  · by_cases hs : d.s = 0
    · simpa [hasB, hs] using rhas_zero v d w h (by omega)
    · simpa [hasB, hs, h] using rhas_in v d w h h2 (by omega)
  · simpa [hasB, h] using rhas_out v d w h hd.a1

theorem before_any (a b : Ev) (h : a.ok) (w : World) :
    Calls Try.prog 41 #[a.v, b.v] w fun e w' => e = .returned (.bool (hasB b.p a.d)) ∧ Below w.heap.size w w' := by
  go_enter Try.func41, Try.ntmps41
  go_wp2_with (go_at_call 39; refine (has_any b.p a.d h.d _).mono ?_; rintro e w' ⟨rfl, hb⟩)
  go_ret
  exact ⟨rfl, Below.to hb (by repeat (first | exact Below.refl _ _ | (apply below_drewN) | (refine Below.drew ?_) | (refine Below.setCell ?_ (by simp <;> omega) _) | (refine Below.alloc ?_ (by simp <;> omega) _))) (by simp <;> omega)⟩

theorem rbefore_any (a b : Ev) (h : a.ok) (w : World) :
    Calls Try.prog 17 #[a.v, b.v] w fun e w' => e = .returned (.bool (hasB b.p a.d)) ∧ Below w.heap.size w w' := by
  go_enter Try.func17, Try.ntmps17
  go_wp2_with (go_at_call 20; refine (rhas_any b.p a.d h.d _).mono ?_; rintro e w' ⟨rfl, hb⟩)
  go_ret
  exact ⟨rfl, Below.to hb (by repeat (first | exact Below.refl _ _ | (apply below_drewN) | (refine Below.drew ?_) | (refine Below.setCell ?_ (by simp <;> omega) _) | (refine Below.alloc ?_ (by simp <;> omega) _))) (by simp <;> omega)⟩

end Go.Proofs.Ytodcebpdmjdplaa
