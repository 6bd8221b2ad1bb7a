import Derived.Test.YtodcebpdmjdplaaRows
import Derived.Test.YtodcebpdmjdplaaModel
import Derived.WalkSpells
import Derived.WalkLawsBesides
import Derived.Deep.QuietTactic
import Derived.BigQuiet
import Derived.Deep.WholeRow
namespace Go.Proofs.Ytodcebpdmjdplaa
open Go.RowKit

theorem eq_vec (x0 x1 x2 x3 x4 x5 x6 x7 y0 y1 y2 y3 y4 y5 y6 y7 : Int) (d : Nat) (w : World) :
    (Op.equalIn (d + 2) 27 (.agg #[.int .u32 x0, .int .u32 x1, .int .u32 x2, .int .u32 x3, .int .u32 x4, .int .u32 x5, .int .u32 x6, .int .u32 x7])
      (.agg #[.int .u32 y0, .int .u32 y1, .int .u32 y2, .int .u32 y3, .int .u32 y4, .int .u32 y5, .int .u32 y6, .int .u32 y7])).run Try.prog w
      = .ok (x0 == y0 && x1 == y1 && x2 == y2 && x3 == y3 && x4 == y4 && x5 == y5 && x6 == y6 && x7 == y7) w := by
  have u3 := Try.underlying23
  have a3 := Try.isAgg23
  have z3 := Try.sizeOf23
  rw [show d + 2 = (d + 1) + 1 from rfl, Op.equalIn]
  simp only [Sem.run_bind, run_underlying Try.underlying27, Result.andThen_ok]
  simp only [Std.Legacy.Range.forIn_eq_forIn_range', Std.Legacy.Range.size, Nat.sub_zero, Nat.add_sub_cancel, Nat.div_one, List.range'_succ, List.range'_zero, List.forIn_cons, List.forIn_nil]
  go_simp
  by_cases h0 : x0 = y0 <;> simp [h0]
  by_cases h1 : x1 = y1 <;> simp [h1]
  by_cases h2 : x2 = y2 <;> simp [h2]
  by_cases h3 : x3 = y3 <;> simp [h3]
  by_cases h4 : x4 = y4 <;> simp [h4]
  by_cases h5 : x5 = y5 <;> simp [h5]
  by_cases h6 : x6 = y6 <;> simp [h6]
  by_cases h7 : x7 = y7 <;> simp [h7]

theorem eq_dot (a s a' s' : Int) (d : Nat) (w : World) :
    (Op.equalIn (d + 2) 25 (.agg #[.int .u8 a, .int .u32 s]) (.agg #[.int .u8 a', .int .u32 s'])).run Try.prog w = .ok (a == a' && s == s') w := by
  have hS : Try.prog.underlying 25 = some (.struct (Try.prog.fieldsOf 25)) := by kernel_rfl
  rw [show d + 2 = (d + 1) + 1 from rfl, run_equalIn_agg w (d + 1) 25 _ _ hS (by kernel_rfl)]
  simp only [Program.fieldsOf, Try.underlying25]
  go_simp
  by_cases h1 : a = a' <;> by_cases h2 : s = s' <;> simp [h1, h2]

theorem eq_ev (a s p0 p1 p2 p3 p4 p5 p6 p7 k pa ps c wh ro a' s' p0' p1' p2' p3' p4' p5' p6' p7' k' pa' ps' c' wh' ro' : Int) (r r' : Bool) (w : World) :
    (Op.equalIn 10000 31 (.agg #[.int .u8 a, .int .u32 s, .int .u32 p0, .int .u32 p1, .int .u32 p2, .int .u32 p3, .int .u32 p4, .int .u32 p5, .int .u32 p6, .int .u32 p7, .int .u8 k, .int .u8 pa, .int .u32 ps, .bool r, .int .u8 c, .int .u8 wh, .int .u8 ro])
      (.agg #[.int .u8 a', .int .u32 s', .int .u32 p0', .int .u32 p1', .int .u32 p2', .int .u32 p3', .int .u32 p4', .int .u32 p5', .int .u32 p6', .int .u32 p7', .int .u8 k', .int .u8 pa', .int .u32 ps', .bool r', .int .u8 c', .int .u8 wh', .int .u8 ro'])).run Try.prog w
      = .ok (a == a' && s == s' && p0 == p0' && p1 == p1' && p2 == p2' && p3 == p3' && p4 == p4' && p5 == p5' && p6 == p6' && p7 == p7' && k == k' && pa == pa' && ps == ps' && r == r' && c == c' && wh == wh' && ro == ro') w := by
  have hS : Try.prog.underlying 31 = some (.struct (Try.prog.fieldsOf 31)) := by kernel_rfl
  have hv := eq_vec
  have hd := eq_dot
  rw [show 10000 = 9999 + 1 from rfl, run_equalIn_agg w 9999 31 _ _ hS (by kernel_rfl)]
  simp only [Program.fieldsOf, Try.underlying31]
  go_simp
  by_cases h0 : a = a' <;> simp [h0]
  by_cases h1 : s = s' <;> simp [h1]
  by_cases h2 : p0 = p0' <;> simp [h2]
  by_cases h3 : p1 = p1' <;> simp [h3]
  by_cases h4 : p2 = p2' <;> simp [h4]
  by_cases h5 : p3 = p3' <;> simp [h5]
  by_cases h6 : p4 = p4' <;> simp [h6]
  by_cases h7 : p5 = p5' <;> simp [h7]
  by_cases h8 : p6 = p6' <;> simp [h8]
  by_cases h9 : p7 = p7' <;> simp [h9]
  by_cases h10 : k = k' <;> simp [h10]
  by_cases h11 : pa = pa' <;> simp [h11]
  by_cases h12 : ps = ps' <;> simp [h12]
  by_cases h13 : r = r' <;> simp [h13]
  by_cases h14 : c = c' <;> simp [h14]
  by_cases h15 : wh = wh' <;> simp [h15]
  by_cases h16 : ro = ro' <;> simp [h16]

/-- A whole value into the variable that was made last: as it is met in a walk. -/
theorem wpList_store_new {ops : Array Oper} {rest : List Oper} {o : Oper} {a : Act} {Q : Exit → Act → World → Prop} {w : World} {t : TypeId} {c c' : Array Value} {b : Nat} {x y : Operand}
    (hg : o.guard = none) (ho : o.op = .store t x y) (hd : o.dst = none) (hx : a.eval x = .pointer (some ⟨b, 0, none⟩)) (hy : a.eval y = .agg c')
    (hb : b = w.heap.size) (hi : (Try.prog.info? t).map (·.size) = some c'.size) (hs : c.size = c'.size) (h1 : c'.toList.all (·.oneCell') = true)
    (h : wpList Try.prog ops Q rest a (w.alloc (.cells c' t))) : wpList Try.prog ops Q (o :: rest) a (w.alloc (.cells c t)) := by
  subst hb
  refine wpList_plain hg fun K hK => ?_
  have hrun := run_storeAt_new w t c c' hi hs (by rw [← Array.all_toList]; exact h1)
  simp only [Oper.wp, execOp, ho, hx, hy, Sem.run_bind, hrun, Result.andThen_ok, Sem.run_pure, Oper.upon, Act.put, hd]
  exact hK _ _ h

end Go.Proofs.Ytodcebpdmjdplaa
