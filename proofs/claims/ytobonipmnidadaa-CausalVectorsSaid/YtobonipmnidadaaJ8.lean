/-    -/
import Derived.Test.YtobonipmnidadaaRows
import Derived.Test.YtobonipmnidadaaJ1
import Derived.WalkSpells
import Derived.WalkLawsBesides
import Derived.Deep.QuietTactic
import Derived.BigQuiet
import Derived.Deep.WholeRow
import Derived.LoopTactic
import Derived.BigRegion
import Derived.Deep.RegionHeld3
namespace Go.Proofs.Ytobonipmnidadaa
open Go.RowKit

theorem eq_vec (x0 x1 x2 x3 x4 x5 x6 x7 y0 y1 y2 y3 y4 y5 y6 y7 : Int) (d : Nat) (w : World) :
    (Op.equalIn (d + 2) 24 (.agg #[.int .u32 x0, .int .u32 x1, .int .u32 x2, .int .u32 x3, .int .u32 x4, .int .u32 x5, .int .u32 x6, .int .u32 x7])
      (.agg #[.int .u32 y0, .int .u32 y1, .int .u32 y2, .int .u32 y3, .int .u32 y4, .int .u32 y5, .int .u32 y6, .int .u32 y7])).run Try.prog w
      = .ok (x0 == y0 && x1 == y1 && x2 == y2 && x3 == y3 && x4 == y4 && x5 == y5 && x6 == y6 && x7 == y7) w := by
  have u3 := Try.underlying22
  have a3 := Try.isAgg22
  have z3 := Try.sizeOf22
  rw [show d + 2 = (d + 1) + 1 from rfl, Op.equalIn]
  simp only [Sem.run_bind, run_underlying Try.underlying24, Result.andThen_ok]
  simp only [Std.Legacy.Range.forIn_eq_forIn_range', Std.Legacy.Range.size, Nat.sub_zero, Nat.add_sub_cancel, Nat.div_one, List.range'_succ, List.range'_zero, List.forIn_cons, List.forIn_nil]
  go_simp
  by_cases h0 : x0 = y0 <;> simp [h0]
  by_cases h1 : x1 = y1 <;> simp [h1]
  by_cases h2 : x2 = y2 <;> simp [h2]
  by_cases h3 : x3 = y3 <;> simp [h3]
  by_cases h4 : x4 = y4 <;> simp [h4]
  by_cases h5 : x5 = y5 <;> simp [h5]
  by_cases h6 : x6 = y6 <;> simp [h6]
  by_cases h7 : x7 = y7 <;> simp [h7]

theorem eq_dot (a s a' s' : Int) (d : Nat) (w : World) :
    (Op.equalIn (d + 2) 26 (.agg #[.int .u8 a, .int .u32 s]) (.agg #[.int .u8 a', .int .u32 s'])).run Try.prog w = .ok (a == a' && s == s') w := by
  have hS : Try.prog.underlying 26 = some (.struct (Try.prog.fieldsOf 26)) := by kernel_rfl
  rw [show d + 2 = (d + 1) + 1 from rfl, run_equalIn_agg w (d + 1) 26 _ _ hS (by kernel_rfl)]
  simp only [Program.fieldsOf, Try.underlying26]
  go_simp
  by_cases h1 : a = a' <;> by_cases h2 : s = s' <;> simp [h1, h2]

theorem eq_ev (a s p0 p1 p2 p3 p4 p5 p6 p7 k pa ps c wh ro a' s' p0' p1' p2' p3' p4' p5' p6' p7' k' pa' ps' c' wh' ro' : Int) (r r' : Bool) (w : World) :
    (Op.equalIn 10000 37 (.agg #[.int .u8 a, .int .u32 s, .int .u32 p0, .int .u32 p1, .int .u32 p2, .int .u32 p3, .int .u32 p4, .int .u32 p5, .int .u32 p6, .int .u32 p7, .int .u8 k, .int .u8 pa, .int .u32 ps, .bool r, .int .u8 c, .int .u8 wh, .int .u8 ro])
      (.agg #[.int .u8 a', .int .u32 s', .int .u32 p0', .int .u32 p1', .int .u32 p2', .int .u32 p3', .int .u32 p4', .int .u32 p5', .int .u32 p6', .int .u32 p7', .int .u8 k', .int .u8 pa', .int .u32 ps', .bool r', .int .u8 c', .int .u8 wh', .int .u8 ro'])).run Try.prog w
      = .ok (a == a' && s == s' && p0 == p0' && p1 == p1' && p2 == p2' && p3 == p3' && p4 == p4' && p5 == p5' && p6 == p6' && p7 == p7' && k == k' && pa == pa' && ps == ps' && r == r' && c == c' && wh == wh' && ro == ro') w := by
  have hS : Try.prog.underlying 37 = some (.struct (Try.prog.fieldsOf 37)) := by kernel_rfl
  have hv := eq_vec
  have hd := eq_dot
  rw [show 10000 = 9999 + 1 from rfl, run_equalIn_agg w 9999 37 _ _ hS (by kernel_rfl)]
  simp only [Program.fieldsOf, Try.underlying37]
  go_simp
  by_cases h0 : a = a' <;> simp [h0]
  by_cases h1 : s = s' <;> simp [h1]
  by_cases h2 : p0 = p0' <;> simp [h2]
  by_cases h3 : p1 = p1' <;> simp [h3]
  by_cases h4 : p2 = p2' <;> simp [h4]
  by_cases h5 : p3 = p3' <;> simp [h5]
  by_cases h6 : p4 = p4' <;> simp [h6]
  by_cases h7 : p5 = p5' <;> simp [h7]
  by_cases h8 : p6 = p6' <;> simp [h8]
  by_cases h9 : p7 = p7' <;> simp [h9]
  by_cases h10 : k = k' <;> simp [h10]
  by_cases h11 : pa = pa' <;> simp [h11]
  by_cases h12 : ps = ps' <;> simp [h12]
  by_cases h13 : r = r' <;> simp [h13]
  by_cases h14 : c = c' <;> simp [h14]
  by_cases h15 : wh = wh' <;> simp [h15]
  by_cases h16 : ro = ro' <;> simp [h16]

/-- A whole value into the variable that was made last: as it is met in a walk. -/
theorem wpList_store_new {ops : Array Oper} {rest : List Oper} {o : Oper} {a : Act} {Q : Exit → Act → World → Prop} {w : World} {t : TypeId} {c c' : Array Value} {b : Nat} {x y : Operand}
    (hg : o.guard = none) (ho : o.op = .store t x y) (hd : o.dst = none) (hx : a.eval x = .pointer (some ⟨b, 0, none⟩)) (hy : a.eval y = .agg c')
    (hb : b = w.heap.size) (hi : (Try.prog.info? t).map (·.size) = some c'.size) (hs : c.size = c'.size) (h1 : c'.toList.all (·.oneCell') = true)
    (h : wpList Try.prog ops Q rest a (w.alloc (.cells c' t))) : wpList Try.prog ops Q (o :: rest) a (w.alloc (.cells c t)) := by
  subst hb
  refine wpList_plain hg fun K hK => ?_
  have hrun := run_storeAt_new w t c c' hi hs (by rw [← Array.all_toList]; exact h1)
  simp only [Oper.wp, execOp, ho, hx, hy, Sem.run_bind, hrun, Result.andThen_ok, Sem.run_pure, Oper.upon, Act.put, hd]
  exact hK _ _ h

end Go.Proofs.Ytobonipmnidadaa

namespace Go.Proofs.Ytobonipmnidadaa
open Go.RowKit

theorem has_out (v : Vec) (d : Dot) (w : World) (h : ¬ d.a < 8) (h3 : d.a < 256) :
    Calls Try.prog 13 #[v.v, d.v] w fun e w' => e = .returned (.bool false) ∧ Below w.heap.size w w' := by
  have hd : decide (d.a < 8) = false := by simp; omega
  go_enter Try.func13, Try.ntmps13
  go_wp2
  go_quiet (fail)
  go_wp2
  go_ret
  exact ⟨rfl, (by repeat (first | exact Below.refl _ _ | (apply below_drewN) | (refine Below.drew ?_) | (refine Below.setCell ?_ (by simp <;> omega) _) | (refine Below.alloc ?_ (by simp <;> omega) _)))⟩

theorem has_zero (v : Vec) (d : Dot) (w : World) (h : d.a < 8) (h2 : 0 ≤ d.a) (hs : d.s = 0) :
    Calls Try.prog 13 #[v.v, d.v] w fun e w' => e = .returned (.bool false) ∧ Below w.heap.size w w' := by
  have hd : decide (d.a < 8) = true := by simp; omega
  have hd : (d.s != 0) = false := by simp; omega
  have hv := vec_list v
  clear hs
  go_enter Try.func13, Try.ntmps13
  go_wp2
  go_quiet (fail)
  go_wp2
  go_ret
  exact ⟨rfl, (by repeat (first | exact Below.refl _ _ | (apply below_drewN) | (refine Below.drew ?_) | (refine Below.setCell ?_ (by simp <;> omega) _) | (refine Below.alloc ?_ (by simp <;> omega) _)))⟩

theorem has_in (v : Vec) (d : Dot) (w : World) (h : d.a < 8) (h2 : 0 ≤ d.a) (hs : d.s ≠ 0)  :
    Calls Try.prog 13 #[v.v, d.v] w fun e w' => e = .returned (.bool (decide (d.s ≤ v.get d.a.toNat))) ∧ Below w.heap.size w w' := by
  have hd : decide (d.a < 8) = true := by simp; omega
  have hd : (d.s != 0) = true := by simp; omega
  have hv := vec_list v
  go_enter Try.func13, Try.ntmps13
  go_wp2
  go_quiet (fail)
  go_wp2
  go_ret
  exact ⟨rfl, (by repeat (first | exact Below.refl _ _ | (apply below_drewN) | (refine Below.drew ?_) | (refine Below.setCell ?_ (by simp <;> omega) _) | (refine Below.alloc ?_ (by simp <;> omega) _)))⟩

theorem has_any (v : Vec) (d : Dot) (hd : d.ok) (w : World) :
    Calls Try.prog 13 #[v.v, d.v] w fun e w' => e = .returned (.bool (hasB v d)) ∧ Below w.heap.size w w' := by
  have h2 := hd.a0
  have h3 := hd.a1
  by_cases h : d.a < 8
  · by_cases hs : d.s = 0
    · simpa [hasB, hs] using has_zero v d w h h2 hs
    · simpa [hasB, hs, h] using has_in v d w h h2 hs
  · simpa [hasB, h] using has_out v d w h h3

theorem rhas_out (v : Vec) (d : Dot) (w : World) (h : ¬ d.a < 8) (h3 : d.a < 256) :
    Calls Try.prog 14 #[v.v, d.v] w fun e w' => e = .returned (.bool false) ∧ Below w.heap.size w w' := by
  have hd : decide (d.a < 8) = false := by simp; omega
  go_enter Try.func14, Try.ntmps14
  go_wp2
  go_quiet (fail)
  go_wp2
  go_ret
  exact ⟨rfl, (by repeat (first | exact Below.refl _ _ | (apply below_drewN) | (refine Below.drew ?_) | (refine Below.setCell ?_ (by simp <;> omega) _) | (refine Below.alloc ?_ (by simp <;> omega) _)))⟩

theorem rhas_zero (v : Vec) (d : Dot) (w : World) (h : d.a < 8) (hs : ¬ 0 < d.s) :
    Calls Try.prog 14 #[v.v, d.v] w fun e w' => e = .returned (.bool false) ∧ Below w.heap.size w w' := by
  have hd : decide (d.a < 8) = true := by simp; omega
  have hd : decide (0 < d.s) = false := by simp; omega
  have hv := vec_list v
  go_enter Try.func14, Try.ntmps14
  go_wp2
  go_quiet (fail)
  go_wp2
  go_ret
  exact ⟨rfl, (by repeat (first | exact Below.refl _ _ | (apply below_drewN) | (refine Below.drew ?_) | (refine Below.setCell ?_ (by simp <;> omega) _) | (refine Below.alloc ?_ (by simp <;> omega) _)))⟩

theorem rhas_in (v : Vec) (d : Dot) (w : World) (h : d.a < 8) (h2 : 0 ≤ d.a) (hs : 0 < d.s)  :
    Calls Try.prog 14 #[v.v, d.v] w fun e w' => e = .returned (.bool (decide (d.s ≤ v.get d.a.toNat))) ∧ Below w.heap.size w w' := by
  have hd : decide (d.a < 8) = true := by simp; omega
  have hd : decide (0 < d.s) = true := by simp; omega
  have hv := vec_list v
  go_enter Try.func14, Try.ntmps14
  go_wp2
  go_quiet (fail)
  go_wp2
  go_ret
  exact ⟨rfl, (by repeat (first | exact Below.refl _ _ | (apply below_drewN) | (refine Below.drew ?_) | (refine Below.setCell ?_ (by simp <;> omega) _) | (refine Below.alloc ?_ (by simp <;> omega) _)))⟩

theorem rhas_any (v : Vec) (d : Dot) (hd : d.ok) (w : World) :
    Calls Try.prog 14 #[v.v, d.v] w fun e w' => e = .returned (.bool (hasB v d)) ∧ Below w.heap.size w w' := by
  have h2 := hd.a0
  have h3 := hd.s0
  by_cases h : d.a < 8
  · by_cases hs : d.s = 0
    · simpa [hasB, hs] using rhas_zero v d w h (by omega)
    · simpa [hasB, hs, h] using rhas_in v d w h h2 (by omega)
  · simpa [hasB, h] using rhas_out v d w h hd.a1

theorem before_any (a b : Ev) (h : a.ok) (w : World) :
    Calls Try.prog 23 #[a.v, b.v] w fun e w' => e = .returned (.bool (hasB b.p a.d)) ∧ Below w.heap.size w w' := by
  go_enter Try.func23, Try.ntmps23
  go_wp2_with (go_at_call 13; refine (has_any b.p a.d h.d _).mono ?_; rintro e w' ⟨rfl, hb⟩)
  go_ret
  exact ⟨rfl, Below.to hb (by repeat (first | exact Below.refl _ _ | (apply below_drewN) | (refine Below.drew ?_) | (refine Below.setCell ?_ (by simp <;> omega) _) | (refine Below.alloc ?_ (by simp <;> omega) _))) (by simp <;> omega)⟩

theorem rbefore_any (a b : Ev) (h : a.ok) (w : World) :
    Calls Try.prog 24 #[a.v, b.v] w fun e w' => e = .returned (.bool (hasB b.p a.d)) ∧ Below w.heap.size w w' := by
  go_enter Try.func24, Try.ntmps24
  go_wp2_with (go_at_call 14; refine (rhas_any b.p a.d h.d _).mono ?_; rintro e w' ⟨rfl, hb⟩)
  go_ret
  exact ⟨rfl, Below.to hb (by repeat (first | exact Below.refl _ _ | (apply below_drewN) | (refine Below.drew ?_) | (refine Below.setCell ?_ (by simp <;> omega) _) | (refine Below.alloc ?_ (by simp <;> omega) _))) (by simp <;> omega)⟩

end Go.Proofs.Ytobonipmnidadaa

namespace Go.Proofs.Ytobonipmnidadaa
open Go.RowKit

/-- The greatest of the first so many. -/
def Vec.maxTo (v : Vec) : Nat → Int
  | 0 => v.x0
  | k + 1 => max (v.maxTo k) (v.get (k + 1))

set_option maxHeartbeats 400000 in
theorem max_any (v : Vec) (b off : Nat) (w : World) (hc : ∀ i, i < 8 → w.cell? ⟨b, off + i, none⟩ = some (.int .u32 (v.get i))) :
    Calls Try.prog 33 #[.slice (some ⟨b, off, none⟩) 8 8] w fun e w' => e = .returned (.int .u32 (v.maxTo 7)) ∧ w = w' := by
  have h0 : w.cell? ⟨b, off, none⟩ = some (.int .u32 v.x0) := hc 0 (by omega)
  go_enter Try.func33, Try.ntmps33
  go_wp2
  go_loop [3, 4] (fun m i => ∃ k : Nat, k < 8 ∧ i = .int .i64 (k + 1 : Nat) ∧ m = .int .u32 (v.maxTo k)) (fun _ i => 8 - (intOf i).toNat)
  case atStart => exact ⟨0, by omega, rfl, rfl⟩
  case round =>
    obtain ⟨k, hk, rfl, rfl⟩ := hrel
    by_cases hlt : k < 7
    · have h1 := hc (k + 1) (by omega)
      go_wp2
      go_round
      case rel => exact ⟨k + 1, by omega, by go_num, by simp only [Vec.maxTo]; congr 1; split <;> omega⟩
      case measure => simp [intOf]; omega
    · obtain rfl : k = 7 := by omega
      go_wp2
      go_ret
      exact ⟨rfl, rfl⟩

end Go.Proofs.Ytobonipmnidadaa
