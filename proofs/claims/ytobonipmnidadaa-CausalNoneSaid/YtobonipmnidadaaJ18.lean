/- The order of dots: the program's comparison, to the world. -/
import Derived.Test.YtobonipmnidadaaJ8
import Derived.Test.YtobonipmnidadaaJ17
import Derived.StillTailTactics
import Derived.Sort.Grow
namespace Go.Proofs.Ytobonipmnidadaa
open Go.RowKit
set_option maxRecDepth 8000

def cmpZ (a b : Int) : Int := if a < b then -1 else if b < a then 1 else 0
def cmpD (x y : Dot) : Int := if cmpZ x.a y.a ≠ 0 then cmpZ x.a y.a else cmpZ x.s y.s

theorem nan8 (a : Int) (w : World) : Calls Try.prog 57 #[.int .u8 a] w fun e w' => e = .returned (.bool false) ∧ w' = w := by
  go_enter Try.func57, Try.ntmps57
  go_wp2
  go_ret
  exact ⟨by simp, rfl⟩
theorem nan32 (a : Int) (w : World) : Calls Try.prog 58 #[.int .u32 a] w fun e w' => e = .returned (.bool false) ∧ w' = w := by
  go_enter Try.func58, Try.ntmps58
  go_wp2
  go_ret
  exact ⟨by simp, rfl⟩

theorem cmp8 (a b : Int) (w : World) : Calls Try.prog 51 #[.int .u8 a, .int .u8 b] w fun e w' => e = .returned (.int .i64 (cmpZ a b)) ∧ w' = w := by
  have hn := nan8
  unfold cmpZ
  go_enter Try.func51, Try.ntmps51
  by_cases h1 : a < b
  · go_wp2_with (go_at_call 57; refine (hn _ _).mono ?_; rintro e w' ⟨rfl, rfl⟩)
    go_ret
    exact ⟨by simp, rfl⟩
  · by_cases h2 : b < a
    · go_wp2_with (go_at_call 57; refine (hn _ _).mono ?_; rintro e w' ⟨rfl, rfl⟩)
      go_ret
      exact ⟨by simp, rfl⟩
    · go_wp2_with (go_at_call 57; refine (hn _ _).mono ?_; rintro e w' ⟨rfl, rfl⟩)
      go_ret
      exact ⟨by simp, rfl⟩

theorem cmp32 (a b : Int) (w : World) : Calls Try.prog 52 #[.int .u32 a, .int .u32 b] w fun e w' => e = .returned (.int .i64 (cmpZ a b)) ∧ w' = w := by
  have hn := nan32
  unfold cmpZ
  go_enter Try.func52, Try.ntmps52
  by_cases h1 : a < b
  · go_wp2_with (go_at_call 58; refine (hn _ _).mono ?_; rintro e w' ⟨rfl, rfl⟩)
    go_ret
    exact ⟨by simp, rfl⟩
  · by_cases h2 : b < a
    · go_wp2_with (go_at_call 58; refine (hn _ _).mono ?_; rintro e w' ⟨rfl, rfl⟩)
      go_ret
      exact ⟨by simp, rfl⟩
    · go_wp2_with (go_at_call 58; refine (hn _ _).mono ?_; rintro e w' ⟨rfl, rfl⟩)
      go_ret
      exact ⟨by simp, rfl⟩

theorem cmpOr (a b : Int) (p : Nat) (w : World) (h0 : w.cell? ⟨p, 0, none⟩ = some (.int .i64 a)) (h1 : w.cell? ⟨p, 1, none⟩ = some (.int .i64 b)) :
    Calls Try.prog 50 #[.slice (some ⟨p, 0, none⟩) 2 2] w fun e w' => e = .returned (.int .i64 (if a ≠ 0 then a else b)) ∧ w' = w := by
  go_enter Try.func50, Try.ntmps50
  by_cases ha : a = 0
  · by_cases hb : b = 0
    · go_wp2
      refine wp_loop_rounds 3 ?_
      rw [rounds_succ]
      go_wp2
      rw [rounds_succ]
      go_wp2
      rw [rounds_succ]
      go_wp2
      go_ret
      exact ⟨by simp, rfl⟩
    · go_wp2
      refine wp_loop_rounds 3 ?_
      rw [rounds_succ]
      go_wp2
      rw [rounds_succ]
      go_wp2
      go_ret
      exact ⟨by simp, rfl⟩
  · go_wp2
    refine wp_loop_rounds 3 ?_
    rw [rounds_succ]
    go_wp2
    go_ret
    exact ⟨by simp, rfl⟩

theorem cell_two (W : World) (c0 c1 : Array Value) (t : TypeId) : (∀ k, ((W.alloc (.cells c0 t)).alloc (.cells c1 t)).drew.cell? ⟨W.heap.size, k, none⟩ = c0[k]?) ∧ (∀ k, ((W.alloc (.cells c0 t)).alloc (.cells c1 t)).drew.cell? ⟨W.heap.size + 1, k, none⟩ = c1[k]?) ∧
    Go.Sort.grow (W.drewN 1) #[.cells c0 t, .cells c1 t] = ((W.alloc (.cells c0 t)).alloc (.cells c1 t)).drew := by
  have h0 : ((W.alloc (.cells c0 t)).alloc (.cells c1 t)).drew.heap[W.heap.size]? = some (.cells c0 t) := by
    show ((W.heap.push (Obj.cells c0 t)).push (Obj.cells c1 t))[W.heap.size]? = _
    rw [Array.getElem?_push_lt (by simp)]
    simp
  have h1 : ((W.alloc (.cells c0 t)).alloc (.cells c1 t)).drew.heap[W.heap.size + 1]? = some (.cells c1 t) := by
    show ((W.heap.push (Obj.cells c0 t)).push (Obj.cells c1 t))[W.heap.size + 1]? = _
    have : W.heap.size + 1 = (W.heap.push (Obj.cells c0 t)).size := by simp
    rw [this, Array.getElem?_push_size]
  refine ⟨fun k => ?_, fun k => ?_, ?_⟩
  · unfold World.cell?
    rw [h0]; rfl
  · unfold World.cell?
    rw [h1]; rfl
  · show ({ W with heap := W.heap ++ #[Obj.cells c0 t, Obj.cells c1 t], drawn := W.drawn + 1 } : World) = { W with heap := (W.heap.push (Obj.cells c0 t)).push (Obj.cells c1 t), drawn := W.drawn + 1 }
    congr 1

theorem cell_new2 (W : World) (a b : Value) (t : TypeId) : (W.alloc (.cells #[a, b] t)).cell? ⟨W.heap.size, 0, none⟩ = some a ∧ (W.alloc (.cells #[a, b] t)).cell? ⟨W.heap.size, 1, none⟩ = some b := by
  have h0 : (W.alloc (.cells #[a, b] t)).heap[W.heap.size]? = some (.cells #[a, b] t) := by
    show (W.heap.push _)[W.heap.size]? = _
    rw [Array.getElem?_push_size]
  constructor <;> (unfold World.cell?; rw [h0]; rfl)

theorem cmpD_run (x y : Dot) (W : World) : Calls Try.prog 49 #[x.v, y.v] W fun e w' => e = .returned (.int .i64 (cmpD x y)) ∧ ∃ q os', w' = Go.Sort.grow (W.drewN q) os' := by
  have c8 := cmp8 x.a y.a
  have c32 := cmp32 x.s y.s
  have cor := cmpOr (cmpZ x.a y.a) (cmpZ x.s y.s)
  unfold cmpD
  generalize cmpZ x.a y.a = u at c8 cor ⊢
  generalize cmpZ x.s y.s = v at c32 cor ⊢
  generalize (if u ≠ 0 then u else v) = c at cor ⊢
  go_enter Try.func49, Try.ntmps49
  go_wp2
  obtain ⟨V, hV⟩ : ∃ V, (W.alloc (.cells #[.int .u8 x.a, .int .u32 x.s] 26)).alloc (.cells #[.int .u8 y.a, .int .u32 y.s] 26) = V := ⟨_, rfl⟩
  rw [hV]
  obtain ⟨k0, k1, k2⟩ := cell_two W #[.int .u8 x.a, .int .u32 x.s] #[.int .u8 y.a, .int .u32 y.s] 26
  rw [hV] at k0 k1 k2
  have e0 := k0 0
  have e1 := k0 1
  have e2 := k1 0
  have e3 := k1 1
  simp only [List.getElem?_toArray, List.getElem?_cons_zero, List.getElem?_cons_succ] at e0 e1 e2 e3
  clear k0 k1
  refine wp_region_still_tail 10 (by kernel_rfl) (by kernel_rfl) ?_
  simp only [List.take_succ_cons, List.take_zero, List.drop_succ_cons, List.drop_zero]
  rw [show V.drew = ({ heap := V.heap, tape := V.tape, drawn := V.drawn + 1, os := V.os, output := V.output } : World) from rfl] at e0 e1 e2 e3 k2
  generalize ({ heap := V.heap, tape := V.tape, drawn := V.drawn + 1, os := V.os, output := V.output } : World) = U at e0 e1 e2 e3 k2 ⊢
  repeat still_step
  still_call (c8 _)
  repeat still_step
  still_call (c32 _)
  refine wpStill_nil ?_
  clear e0 e1 e2 e3 c8 c32 hV
  go_wp2_with (go_at_call 50; refine (cor _ _ (cell_new2 _ _ _ _).1 (cell_new2 _ _ _ _).2).mono ?_; rintro e w' ⟨rfl, rfl⟩)
  go_ret
  exact ⟨rfl, 1, _, by rw [← k2, Go.Sort.alloc_eq_grow, Go.Sort.grow_grow]⟩

end Go.Proofs.Ytobonipmnidadaa
