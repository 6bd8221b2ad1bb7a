/- Taken: walked. -/
import Derived.Test.YtodcebpdmjdplaaJ18
namespace Go.Proofs.Ytodcebpdmjdplaa
open Go.RowKit

def tkH (l : List Ev) (e : Ev) (L : Bk) : AH := [(.abs 0 (.aevs l), 0), (.cells e.cvs 31, 1), (.abs 2 (.book L), 1)]
noncomputable def tkF (e : Ev) (i : Int) : AF := ((((startF (fnOf Try.prog 3) [.c (.sl 0), e.av]).set 3 (.c (.ptr 1 0))).set 5 (.c (.ptr 2 0))).set 8 (.r (.int .i64 i)))
def tkR (B : Base) : Ending → World → Prop := fun e w' => e = .returned (.bool true) ∧ ∃ g H, St g H B w'

/-- A vector, one more at an author. -/
def Vec.up (v : Vec) (a : Int) : Vec := ⟨if a = 0 then IntKind.u32.wrap (v.x0 + 1) else v.x0, if a = 1 then IntKind.u32.wrap (v.x1 + 1) else v.x1, if a = 2 then IntKind.u32.wrap (v.x2 + 1) else v.x2, if a = 3 then IntKind.u32.wrap (v.x3 + 1) else v.x3,
  if a = 4 then IntKind.u32.wrap (v.x4 + 1) else v.x4, if a = 5 then IntKind.u32.wrap (v.x5 + 1) else v.x5, if a = 6 then IntKind.u32.wrap (v.x6 + 1) else v.x6, if a = 7 then IntKind.u32.wrap (v.x7 + 1) else v.x7⟩

theorem tk_end0 (l : List Ev) (L : Bk) (s p0 p1 p2 p3 p4 p5 p6 p7 kd : Int) (par : Dot) (rt : Bool) (ch who ro : Int) (i : Nat) (G : Nat → Value) {g : Gh} {B : Base} {a : Act} {w : World} (hok : ∀ p ∈ L, p.1.ok) (h : roleM L who ⟨IntKind.u32.wrap (p0 + 1), p1, p2, p3, p4, p5, p6, p7⟩ = 0)
    (hF : FrameOk g (maskF [0, 3, 5, 8] (tkF (⟨⟨0, s⟩, ⟨p0, p1, p2, p3, p4, p5, p6, p7⟩, kd, par, rt, ch, who, ro⟩ : Ev) i) G) a) (hst : St g (tkH l (⟨⟨0, s⟩, ⟨p0, p1, p2, p3, p4, p5, p6, p7⟩, kd, par, rt, ch, who, ro⟩ : Ev) L) B w) (hd : a.defers = []) :
    kont none 0 Try.prog (restAt 0 (fnLoop Try.prog 3 0).2) (bodyPost Try.prog (fnOf Try.prog 3) (tkR B)) .normal a w := by
  refine list_wp hmx (ro := none) TH [] [(0 : Int) ≤ (Dot.mk (0 : Int) s).a ∧ (Dot.mk (0 : Int) s).a < (↑(8 : Nat) : Int), (0 : Int) ≤ (Dot.mk (0 : Int) s).a ∧ (Dot.mk (0 : Int) s).a < (↑(8 : Nat) : Int), ∀ (p : Ev × Bool), p ∈ L → p.fst.ok] .ret (by kernel_rfl) (by kernel_rfl) (by refine ⟨?_, ?_, ?_, trivial⟩ <;> (first | exact hok | (dsimp only; exact ⟨by decide, by decide⟩) | (dsimp only; decide) | (dsimp only; omega))) hF hst fun g1 w1 a1 hag1 hst1 hF1 hd1 => ?_
  exact ret_fin (bodyPost_of (v := .b (roleM L who ⟨IntKind.u32.wrap (p0 + 1), p1, p2, p3, p4, p5, p6, p7⟩ == 0)) (by kernel_rfl) hF1 hst1 (hd1.trans hd) ⟨by rw [h]; rfl, _, _, hst1⟩).1

theorem tk_end1 (l : List Ev) (L : Bk) (s p0 p1 p2 p3 p4 p5 p6 p7 kd : Int) (par : Dot) (rt : Bool) (ch who ro : Int) (i : Nat) (G : Nat → Value) {g : Gh} {B : Base} {a : Act} {w : World} (hok : ∀ p ∈ L, p.1.ok) (h : roleM L who ⟨p0, IntKind.u32.wrap (p1 + 1), p2, p3, p4, p5, p6, p7⟩ = 0)
    (hF : FrameOk g (maskF [0, 3, 5, 8] (tkF (⟨⟨1, s⟩, ⟨p0, p1, p2, p3, p4, p5, p6, p7⟩, kd, par, rt, ch, who, ro⟩ : Ev) i) G) a) (hst : St g (tkH l (⟨⟨1, s⟩, ⟨p0, p1, p2, p3, p4, p5, p6, p7⟩, kd, par, rt, ch, who, ro⟩ : Ev) L) B w) (hd : a.defers = []) :
    kont none 0 Try.prog (restAt 0 (fnLoop Try.prog 3 0).2) (bodyPost Try.prog (fnOf Try.prog 3) (tkR B)) .normal a w := by
  refine list_wp hmx (ro := none) TH [] [(0 : Int) ≤ (Dot.mk (1 : Int) s).a ∧ (Dot.mk (1 : Int) s).a < (↑(8 : Nat) : Int), (0 : Int) ≤ (Dot.mk (1 : Int) s).a ∧ (Dot.mk (1 : Int) s).a < (↑(8 : Nat) : Int), ∀ (p : Ev × Bool), p ∈ L → p.fst.ok] .ret (by kernel_rfl) (by kernel_rfl) (by refine ⟨?_, ?_, ?_, trivial⟩ <;> (first | exact hok | (dsimp only; exact ⟨by decide, by decide⟩) | (dsimp only; decide) | (dsimp only; omega))) hF hst fun g1 w1 a1 hag1 hst1 hF1 hd1 => ?_
  exact ret_fin (bodyPost_of (v := .b (roleM L who ⟨p0, IntKind.u32.wrap (p1 + 1), p2, p3, p4, p5, p6, p7⟩ == 0)) (by kernel_rfl) hF1 hst1 (hd1.trans hd) ⟨by rw [h]; rfl, _, _, hst1⟩).1

theorem tk_end2 (l : List Ev) (L : Bk) (s p0 p1 p2 p3 p4 p5 p6 p7 kd : Int) (par : Dot) (rt : Bool) (ch who ro : Int) (i : Nat) (G : Nat → Value) {g : Gh} {B : Base} {a : Act} {w : World} (hok : ∀ p ∈ L, p.1.ok) (h : roleM L who ⟨p0, p1, IntKind.u32.wrap (p2 + 1), p3, p4, p5, p6, p7⟩ = 0)
    (hF : FrameOk g (maskF [0, 3, 5, 8] (tkF (⟨⟨2, s⟩, ⟨p0, p1, p2, p3, p4, p5, p6, p7⟩, kd, par, rt, ch, who, ro⟩ : Ev) i) G) a) (hst : St g (tkH l (⟨⟨2, s⟩, ⟨p0, p1, p2, p3, p4, p5, p6, p7⟩, kd, par, rt, ch, who, ro⟩ : Ev) L) B w) (hd : a.defers = []) :
    kont none 0 Try.prog (restAt 0 (fnLoop Try.prog 3 0).2) (bodyPost Try.prog (fnOf Try.prog 3) (tkR B)) .normal a w := by
  refine list_wp hmx (ro := none) TH [] [(0 : Int) ≤ (Dot.mk (2 : Int) s).a ∧ (Dot.mk (2 : Int) s).a < (↑(8 : Nat) : Int), (0 : Int) ≤ (Dot.mk (2 : Int) s).a ∧ (Dot.mk (2 : Int) s).a < (↑(8 : Nat) : Int), ∀ (p : Ev × Bool), p ∈ L → p.fst.ok] .ret (by kernel_rfl) (by kernel_rfl) (by refine ⟨?_, ?_, ?_, trivial⟩ <;> (first | exact hok | (dsimp only; exact ⟨by decide, by decide⟩) | (dsimp only; decide) | (dsimp only; omega))) hF hst fun g1 w1 a1 hag1 hst1 hF1 hd1 => ?_
  exact ret_fin (bodyPost_of (v := .b (roleM L who ⟨p0, p1, IntKind.u32.wrap (p2 + 1), p3, p4, p5, p6, p7⟩ == 0)) (by kernel_rfl) hF1 hst1 (hd1.trans hd) ⟨by rw [h]; rfl, _, _, hst1⟩).1

theorem tk_end3 (l : List Ev) (L : Bk) (s p0 p1 p2 p3 p4 p5 p6 p7 kd : Int) (par : Dot) (rt : Bool) (ch who ro : Int) (i : Nat) (G : Nat → Value) {g : Gh} {B : Base} {a : Act} {w : World} (hok : ∀ p ∈ L, p.1.ok) (h : roleM L who ⟨p0, p1, p2, IntKind.u32.wrap (p3 + 1), p4, p5, p6, p7⟩ = 0)
    (hF : FrameOk g (maskF [0, 3, 5, 8] (tkF (⟨⟨3, s⟩, ⟨p0, p1, p2, p3, p4, p5, p6, p7⟩, kd, par, rt, ch, who, ro⟩ : Ev) i) G) a) (hst : St g (tkH l (⟨⟨3, s⟩, ⟨p0, p1, p2, p3, p4, p5, p6, p7⟩, kd, par, rt, ch, who, ro⟩ : Ev) L) B w) (hd : a.defers = []) :
    kont none 0 Try.prog (restAt 0 (fnLoop Try.prog 3 0).2) (bodyPost Try.prog (fnOf Try.prog 3) (tkR B)) .normal a w := by
  refine list_wp hmx (ro := none) TH [] [(0 : Int) ≤ (Dot.mk (3 : Int) s).a ∧ (Dot.mk (3 : Int) s).a < (↑(8 : Nat) : Int), (0 : Int) ≤ (Dot.mk (3 : Int) s).a ∧ (Dot.mk (3 : Int) s).a < (↑(8 : Nat) : Int), ∀ (p : Ev × Bool), p ∈ L → p.fst.ok] .ret (by kernel_rfl) (by kernel_rfl) (by refine ⟨?_, ?_, ?_, trivial⟩ <;> (first | exact hok | (dsimp only; exact ⟨by decide, by decide⟩) | (dsimp only; decide) | (dsimp only; omega))) hF hst fun g1 w1 a1 hag1 hst1 hF1 hd1 => ?_
  exact ret_fin (bodyPost_of (v := .b (roleM L who ⟨p0, p1, p2, IntKind.u32.wrap (p3 + 1), p4, p5, p6, p7⟩ == 0)) (by kernel_rfl) hF1 hst1 (hd1.trans hd) ⟨by rw [h]; rfl, _, _, hst1⟩).1

theorem tk_end4 (l : List Ev) (L : Bk) (s p0 p1 p2 p3 p4 p5 p6 p7 kd : Int) (par : Dot) (rt : Bool) (ch who ro : Int) (i : Nat) (G : Nat → Value) {g : Gh} {B : Base} {a : Act} {w : World} (hok : ∀ p ∈ L, p.1.ok) (h : roleM L who ⟨p0, p1, p2, p3, IntKind.u32.wrap (p4 + 1), p5, p6, p7⟩ = 0)
    (hF : FrameOk g (maskF [0, 3, 5, 8] (tkF (⟨⟨4, s⟩, ⟨p0, p1, p2, p3, p4, p5, p6, p7⟩, kd, par, rt, ch, who, ro⟩ : Ev) i) G) a) (hst : St g (tkH l (⟨⟨4, s⟩, ⟨p0, p1, p2, p3, p4, p5, p6, p7⟩, kd, par, rt, ch, who, ro⟩ : Ev) L) B w) (hd : a.defers = []) :
    kont none 0 Try.prog (restAt 0 (fnLoop Try.prog 3 0).2) (bodyPost Try.prog (fnOf Try.prog 3) (tkR B)) .normal a w := by
  refine list_wp hmx (ro := none) TH [] [(0 : Int) ≤ (Dot.mk (4 : Int) s).a ∧ (Dot.mk (4 : Int) s).a < (↑(8 : Nat) : Int), (0 : Int) ≤ (Dot.mk (4 : Int) s).a ∧ (Dot.mk (4 : Int) s).a < (↑(8 : Nat) : Int), ∀ (p : Ev × Bool), p ∈ L → p.fst.ok] .ret (by kernel_rfl) (by kernel_rfl) (by refine ⟨?_, ?_, ?_, trivial⟩ <;> (first | exact hok | (dsimp only; exact ⟨by decide, by decide⟩) | (dsimp only; decide) | (dsimp only; omega))) hF hst fun g1 w1 a1 hag1 hst1 hF1 hd1 => ?_
  exact ret_fin (bodyPost_of (v := .b (roleM L who ⟨p0, p1, p2, p3, IntKind.u32.wrap (p4 + 1), p5, p6, p7⟩ == 0)) (by kernel_rfl) hF1 hst1 (hd1.trans hd) ⟨by rw [h]; rfl, _, _, hst1⟩).1

theorem tk_end5 (l : List Ev) (L : Bk) (s p0 p1 p2 p3 p4 p5 p6 p7 kd : Int) (par : Dot) (rt : Bool) (ch who ro : Int) (i : Nat) (G : Nat → Value) {g : Gh} {B : Base} {a : Act} {w : World} (hok : ∀ p ∈ L, p.1.ok) (h : roleM L who ⟨p0, p1, p2, p3, p4, IntKind.u32.wrap (p5 + 1), p6, p7⟩ = 0)
    (hF : FrameOk g (maskF [0, 3, 5, 8] (tkF (⟨⟨5, s⟩, ⟨p0, p1, p2, p3, p4, p5, p6, p7⟩, kd, par, rt, ch, who, ro⟩ : Ev) i) G) a) (hst : St g (tkH l (⟨⟨5, s⟩, ⟨p0, p1, p2, p3, p4, p5, p6, p7⟩, kd, par, rt, ch, who, ro⟩ : Ev) L) B w) (hd : a.defers = []) :
    kont none 0 Try.prog (restAt 0 (fnLoop Try.prog 3 0).2) (bodyPost Try.prog (fnOf Try.prog 3) (tkR B)) .normal a w := by
  refine list_wp hmx (ro := none) TH [] [(0 : Int) ≤ (Dot.mk (5 : Int) s).a ∧ (Dot.mk (5 : Int) s).a < (↑(8 : Nat) : Int), (0 : Int) ≤ (Dot.mk (5 : Int) s).a ∧ (Dot.mk (5 : Int) s).a < (↑(8 : Nat) : Int), ∀ (p : Ev × Bool), p ∈ L → p.fst.ok] .ret (by kernel_rfl) (by kernel_rfl) (by refine ⟨?_, ?_, ?_, trivial⟩ <;> (first | exact hok | (dsimp only; exact ⟨by decide, by decide⟩) | (dsimp only; decide) | (dsimp only; omega))) hF hst fun g1 w1 a1 hag1 hst1 hF1 hd1 => ?_
  exact ret_fin (bodyPost_of (v := .b (roleM L who ⟨p0, p1, p2, p3, p4, IntKind.u32.wrap (p5 + 1), p6, p7⟩ == 0)) (by kernel_rfl) hF1 hst1 (hd1.trans hd) ⟨by rw [h]; rfl, _, _, hst1⟩).1

theorem tk_end6 (l : List Ev) (L : Bk) (s p0 p1 p2 p3 p4 p5 p6 p7 kd : Int) (par : Dot) (rt : Bool) (ch who ro : Int) (i : Nat) (G : Nat → Value) {g : Gh} {B : Base} {a : Act} {w : World} (hok : ∀ p ∈ L, p.1.ok) (h : roleM L who ⟨p0, p1, p2, p3, p4, p5, IntKind.u32.wrap (p6 + 1), p7⟩ = 0)
    (hF : FrameOk g (maskF [0, 3, 5, 8] (tkF (⟨⟨6, s⟩, ⟨p0, p1, p2, p3, p4, p5, p6, p7⟩, kd, par, rt, ch, who, ro⟩ : Ev) i) G) a) (hst : St g (tkH l (⟨⟨6, s⟩, ⟨p0, p1, p2, p3, p4, p5, p6, p7⟩, kd, par, rt, ch, who, ro⟩ : Ev) L) B w) (hd : a.defers = []) :
    kont none 0 Try.prog (restAt 0 (fnLoop Try.prog 3 0).2) (bodyPost Try.prog (fnOf Try.prog 3) (tkR B)) .normal a w := by
  refine list_wp hmx (ro := none) TH [] [(0 : Int) ≤ (Dot.mk (6 : Int) s).a ∧ (Dot.mk (6 : Int) s).a < (↑(8 : Nat) : Int), (0 : Int) ≤ (Dot.mk (6 : Int) s).a ∧ (Dot.mk (6 : Int) s).a < (↑(8 : Nat) : Int), ∀ (p : Ev × Bool), p ∈ L → p.fst.ok] .ret (by kernel_rfl) (by kernel_rfl) (by refine ⟨?_, ?_, ?_, trivial⟩ <;> (first | exact hok | (dsimp only; exact ⟨by decide, by decide⟩) | (dsimp only; decide) | (dsimp only; omega))) hF hst fun g1 w1 a1 hag1 hst1 hF1 hd1 => ?_
  exact ret_fin (bodyPost_of (v := .b (roleM L who ⟨p0, p1, p2, p3, p4, p5, IntKind.u32.wrap (p6 + 1), p7⟩ == 0)) (by kernel_rfl) hF1 hst1 (hd1.trans hd) ⟨by rw [h]; rfl, _, _, hst1⟩).1

theorem tk_end7 (l : List Ev) (L : Bk) (s p0 p1 p2 p3 p4 p5 p6 p7 kd : Int) (par : Dot) (rt : Bool) (ch who ro : Int) (i : Nat) (G : Nat → Value) {g : Gh} {B : Base} {a : Act} {w : World} (hok : ∀ p ∈ L, p.1.ok) (h : roleM L who ⟨p0, p1, p2, p3, p4, p5, p6, IntKind.u32.wrap (p7 + 1)⟩ = 0)
    (hF : FrameOk g (maskF [0, 3, 5, 8] (tkF (⟨⟨7, s⟩, ⟨p0, p1, p2, p3, p4, p5, p6, p7⟩, kd, par, rt, ch, who, ro⟩ : Ev) i) G) a) (hst : St g (tkH l (⟨⟨7, s⟩, ⟨p0, p1, p2, p3, p4, p5, p6, p7⟩, kd, par, rt, ch, who, ro⟩ : Ev) L) B w) (hd : a.defers = []) :
    kont none 0 Try.prog (restAt 0 (fnLoop Try.prog 3 0).2) (bodyPost Try.prog (fnOf Try.prog 3) (tkR B)) .normal a w := by
  refine list_wp hmx (ro := none) TH [] [(0 : Int) ≤ (Dot.mk (7 : Int) s).a ∧ (Dot.mk (7 : Int) s).a < (↑(8 : Nat) : Int), (0 : Int) ≤ (Dot.mk (7 : Int) s).a ∧ (Dot.mk (7 : Int) s).a < (↑(8 : Nat) : Int), ∀ (p : Ev × Bool), p ∈ L → p.fst.ok] .ret (by kernel_rfl) (by kernel_rfl) (by refine ⟨?_, ?_, ?_, trivial⟩ <;> (first | exact hok | (dsimp only; exact ⟨by decide, by decide⟩) | (dsimp only; decide) | (dsimp only; omega))) hF hst fun g1 w1 a1 hag1 hst1 hF1 hd1 => ?_
  exact ret_fin (bodyPost_of (v := .b (roleM L who ⟨p0, p1, p2, p3, p4, p5, p6, IntKind.u32.wrap (p7 + 1)⟩ == 0)) (by kernel_rfl) hF1 hst1 (hd1.trans hd) ⟨by rw [h]; rfl, _, _, hst1⟩).1

theorem tk_end {l : List Ev} {L : Bk} {e : Ev} {i : Nat} {G : Nat → Value} {g : Gh} {B : Base} {a : Act} {w : World} (hok : ∀ p ∈ L, p.1.ok) (ha : 0 ≤ e.d.a) (ha8 : e.d.a < 8) (h : roleM L e.who (e.p.up e.d.a) = 0)
    (hF : FrameOk g (maskF [0, 3, 5, 8] (tkF e i) G) a) (hst : St g (tkH l e L) B w) (hd : a.defers = []) :
    kont none 0 Try.prog (restAt 0 (fnLoop Try.prog 3 0).2) (bodyPost Try.prog (fnOf Try.prog 3) (tkR B)) .normal a w := by
  obtain ⟨⟨da, s⟩, ⟨p0, p1, p2, p3, p4, p5, p6, p7⟩, kd, par, rt, ch, who, ro⟩ := e
  simp only at ha ha8
  have : da = 0 ∨ da = 1 ∨ da = 2 ∨ da = 3 ∨ da = 4 ∨ da = 5 ∨ da = 6 ∨ da = 7 := by omega
  rcases this with rfl | rfl | rfl | rfl | rfl | rfl | rfl | rfl
  · exact tk_end0 l L s p0 p1 p2 p3 p4 p5 p6 p7 kd par rt ch who ro i G hok h hF hst hd
  · exact tk_end1 l L s p0 p1 p2 p3 p4 p5 p6 p7 kd par rt ch who ro i G hok h hF hst hd
  · exact tk_end2 l L s p0 p1 p2 p3 p4 p5 p6 p7 kd par rt ch who ro i G hok h hF hst hd
  · exact tk_end3 l L s p0 p1 p2 p3 p4 p5 p6 p7 kd par rt ch who ro i G hok h hF hst hd
  · exact tk_end4 l L s p0 p1 p2 p3 p4 p5 p6 p7 kd par rt ch who ro i G hok h hF hst hd
  · exact tk_end5 l L s p0 p1 p2 p3 p4 p5 p6 p7 kd par rt ch who ro i G hok h hF hst hd
  · exact tk_end6 l L s p0 p1 p2 p3 p4 p5 p6 p7 kd par rt ch who ro i G hok h hF hst hd
  · exact tk_end7 l L s p0 p1 p2 p3 p4 p5 p6 p7 kd par rt ch who ro i G hok h hF hst hd

theorem get_up (v : Vec) {a : Int} (h0 : 0 ≤ a) (h8 : a < 8) : (v.up a).get a.toNat = IntKind.u32.wrap (v.get a.toNat + 1) := by
  have : a = 0 ∨ a = 1 ∨ a = 2 ∨ a = 3 ∨ a = 4 ∨ a = 5 ∨ a = 6 ∨ a = 7 := by omega
  rcases this with rfl | rfl | rfl | rfl | rfl | rfl | rfl | rfl <;> rfl
theorem up_has {e : Ev} (he : e.ok) (hr : rightB e = true) : 0 ≤ e.d.a ∧ e.d.a < 8 ∧ hasB (e.p.up e.d.a) e.d = true ∧ beforeB e e = false := by
  have h0 := he.d.a0
  have h1 := he.d.s0
  unfold rightB at hr
  simp only [Bool.and_eq_true, decide_eq_true_eq] at hr
  obtain ⟨⟨⟨⟨⟨ha, hs0⟩, hs1⟩, hp⟩, -⟩, -⟩ := hr
  have hw : IntKind.u32.wrap (e.d.s - 1 + 1) = e.d.s := by rw [show e.d.s - 1 + 1 = e.d.s by omega]; exact wrap_u32 (by omega) (by omega)
  refine ⟨h0, ha, ?_, ?_⟩
  · unfold hasB
    rw [get_up _ h0 ha, hp, hw]
    simp [ha, hs0]
  · unfold beforeB hasB
    rw [hp]
    have : ¬ e.d.s ≤ e.d.s - 1 := by omega
    simp [this]

/-- The loop. -/
theorem tk_loop {l : List Ev} {L0 : Bk} (hL : L0 = plL l) (hl : ∀ e ∈ l, e.ok) {e : Ev} (he : e.ok) (h0 : (addM L0 e).1 = 0) (hc : (gotL (addM L0 e).2 e.d).2 = true) (hk : e.k = 4) {G0 : Nat → Value} {g0 : Gh} {B : Base} {a0 : Act} {w0 : World}
    (hF0 : FrameOk g0 (maskF [0, 3, 5, 8] (tkF e (0 : Nat)) G0) a0) (hst0 : St g0 (tkH l e (addM L0 e).2) B w0) (hd0 : a0.defers = []) :
    (Code.loop (fnLoop Try.prog 3 0).1).wpIn (Fw none) 0 Try.prog (kont none 0 Try.prog (fnLoop Try.prog 3 0).2 (bodyPost Try.prog (fnOf Try.prog 3) (tkR B))) a0 w0 := by
  have hok0 : BkOk L0 40 := hL ▸ plL_ok hl
  refine loop_wp (σ := Nat) (n0 := 0) (g0 := g0) (B := B) (ds := []) [0, 3, 5, 8] (fun i => tkF e i) (fun _ => tkH l e (addM L0 e).2) (fun i => (i ≤ l.length ∧ i ≤ 40) ∧ ∀ j, j < i → beforeB e (nthE l j) = false) (fun i => l.length - i) 0
    ⟨⟨⟨Nat.zero_le _, Nat.zero_le _⟩, fun j hj => by omega⟩, g0, G0, Agree.refl _ _, hF0, hst0, hd0⟩ fun i g G a w1 hi hag hF hst hd => ?_
  obtain ⟨⟨hi, hi40⟩, hno⟩ := hi
  cases h1 : (decide ((↑i : Int) < (↑l.length : Int))) with
  | false =>
    refine code_wp hmx (ro := none) TH [Dec.s (7005 : Nat) (42 : Nat) false] [decide ((↑i : Int) < (↑l.length : Int)) = false] (.exit 0) (by kernel_rfl) (by kernel_rfl) ⟨h1, trivial⟩ hF hst fun g1 w1 a1 hag1 hst1 hF1 hd1 => ?_
    have hge : l.length ≤ i ∨ 40 ≤ i := by
      first
      | exact .inl (by simpa using h1)
      | exact .inr (by simp at h2; omega)
    refine exit_out (k' := restAt 0 (fnLoop Try.prog 3 0).2) (by kernel_rfl) ?_
    obtain ⟨-, g5, G5, hag5, hF5, hst5, hd5⟩ := next_inv (σ := Unit) (n0 := 0) (live := [0, 3, 5, 8]) (F := fun _ => tkF e i) (H := fun _ => tkH l e (addM L0 e).2) (inv := fun _ => True) (s' := ()) trivial hag hag1 (by kernel_rfl) hF1 hst1 (hd1.trans hd) (by kernel_rfl) (by kernel_rfl) (by kernel_rfl)
    obtain ⟨u1, u2, u3, u4⟩ := up_has he (acc_right (addM_fst L0 e h0))
    refine tk_end (hok0.add he).ok u1 u2 (taken he hok0.ok h0 hc hk (fun p hp => ?_) u4 u3) hF5 hst5 hd5
    rw [hL] at hp
    obtain ⟨j, hj, hje⟩ := List.mem_iff_getElem.1 (pl_mem hp)
    have hj' : j < i := by simp at hj; omega
    have := hno j hj'
    rw [← hje, List.getElem_take]
    rw [show nthE l j = l[j]'(by simp at hj; omega) by simp [nthE, List.getD_eq_getElem?_getD, List.getElem?_eq_getElem (show j < l.length by simp at hj; omega)]] at this
    exact this
  | true =>
    cases h2 : (decide ((↑i : Int) < (40 : Int))) with
    | false =>
      refine code_wp hmx (ro := none) TH [Dec.s (7005 : Nat) (42 : Nat) true, Dec.c (45 : Nat) false] [decide ((↑i : Int) < (↑l.length : Int)) = true, decide ((↑i : Int) < (40 : Int)) = false] (.exit 0) (by kernel_rfl) (by kernel_rfl) ⟨h1, h2, trivial⟩ hF hst fun g1 w1 a1 hag1 hst1 hF1 hd1 => ?_
      have hge : l.length ≤ i ∨ 40 ≤ i := by
        first
        | exact .inl (by simpa using h1)
        | exact .inr (by simp at h2; omega)
      refine exit_out (k' := restAt 0 (fnLoop Try.prog 3 0).2) (by kernel_rfl) ?_
      obtain ⟨-, g5, G5, hag5, hF5, hst5, hd5⟩ := next_inv (σ := Unit) (n0 := 0) (live := [0, 3, 5, 8]) (F := fun _ => tkF e i) (H := fun _ => tkH l e (addM L0 e).2) (inv := fun _ => True) (s' := ()) trivial hag hag1 (by kernel_rfl) hF1 hst1 (hd1.trans hd) (by kernel_rfl) (by kernel_rfl) (by kernel_rfl)
      obtain ⟨u1, u2, u3, u4⟩ := up_has he (acc_right (addM_fst L0 e h0))
      refine tk_end (hok0.add he).ok u1 u2 (taken he hok0.ok h0 hc hk (fun p hp => ?_) u4 u3) hF5 hst5 hd5
      rw [hL] at hp
      obtain ⟨j, hj, hje⟩ := List.mem_iff_getElem.1 (pl_mem hp)
      have hj' : j < i := by simp at hj; omega
      have := hno j hj'
      rw [← hje, List.getElem_take]
      rw [show nthE l j = l[j]'(by simp at hj; omega) by simp [nthE, List.getD_eq_getElem?_getD, List.getElem?_eq_getElem (show j < l.length by simp at hj; omega)]] at this
      exact this
    | true =>
      cases h3 : (beforeB e (l.getD (↑i : Int).toNat Elt.zero)) with
      | false =>
        refine code_wp hmx (ro := none) TH [Dec.s (7005 : Nat) (42 : Nat) true, Dec.c (45 : Nat) true, Dec.c (53 : Nat) false] [decide ((↑i : Int) < (↑l.length : Int)) = true, decide ((↑i : Int) < (40 : Int)) = true, (0 : Int) ≤ (↑i : Int) ∧ (↑i : Int) < (↑l.length : Int), (↑i : Int).toNat < l.length, e.d.ok, beforeB e (l.getD (↑i : Int).toNat Elt.zero) = false] .norm (by kernel_rfl) (by kernel_rfl) (by refine ⟨h1, h2, ?_, ?_, ?_, h3, trivial⟩ <;> (first | exact he.d | omega | (simp at h1 ⊢; omega))) hF hst fun g1 w1 a1 hag1 hst1 hF1 hd1 => ?_
        have hlt : i < l.length := by simpa using h1
        have h40 : i < 40 := by simp at h2; omega
        have e1 : IntKind.i64.wrap ((i : Int) + 1) = ((i + 1 : Nat) : Int) := IntWalk.i64_in _ (by omega)
        refine ⟨i + 1, ?_, by omega⟩
        refine next_inv ⟨⟨by omega, by omega⟩, fun j hj => ?_⟩ hag hag1 (by kernel_rfl) hF1 hst1 (hd1.trans hd) (by kernel_rfl) (by (try dsimp only); rw [← e1]; kernel_rfl) (by kernel_rfl)
        rcases Nat.lt_or_ge j i with h | h
        · exact hno j h
        · have : j = i := by omega
          subst this; exact h3
      | true =>
        refine code_wp hmx (ro := none) TH [Dec.s (7005 : Nat) (42 : Nat) true, Dec.c (45 : Nat) true, Dec.c (53 : Nat) true] [decide ((↑i : Int) < (↑l.length : Int)) = true, decide ((↑i : Int) < (40 : Int)) = true, (0 : Int) ≤ (↑i : Int) ∧ (↑i : Int) < (↑l.length : Int), (↑i : Int).toNat < l.length, e.d.ok, beforeB e (l.getD (↑i : Int).toNat Elt.zero) = true] .ret (by kernel_rfl) (by kernel_rfl) (by refine ⟨h1, h2, ?_, ?_, ?_, h3, trivial⟩ <;> (first | exact he.d | omega | (simp at h1 ⊢; omega))) hF hst fun g1 w1 a1 hag1 hst1 hF1 hd1 => ?_
        exact ret_out (bodyPost_of (v := .b true) (by kernel_rfl) hF1 hst1 (hd1.trans hd) ⟨rfl, _, _, hst1⟩).1

theorem taken_ctr {l : List Ev} (hl : ∀ e ∈ l, e.ok) {e : Ev} (he : e.ok) : CtrQ Try.prog 3 [.c (.sl 0), e.av] [(.abs 0 (.aevs l), 0)] (.b true) := by
  intro r w hst0
  have hL := plL_ok hl
  suffices hh : Calls Try.prog 3 (([.c (.sl 0), e.av].map (AV.conc r)).toArray) w (tkR (rd r w)) from hh.mono fun e w' ⟨h1, g, H, h2⟩ => ⟨h1, h2.belowR⟩
  refine (callsFw (ro := none) (n := 0)).1 (callsInStart (fn := fnOf Try.prog 3) (c := bodyOf Try.prog 3) (by kernel_rfl) (by kernel_rfl) fun a0 hF hd => ?_)
  cases h1 : (e.k != (4 : Int)) with
  | false =>
    cases h2 : ((addM (plL l) e).fst != (0 : Int)) with
    | false =>
      cases h3 : (!(gotL (addM (plL l) e).snd e.d).snd) with
      | false =>
        refine code_wp hmx (ro := none) TH [Dec.s (4004 : Nat) (25 : Nat) false, Dec.s (4010 : Nat) (31 : Nat) false, Dec.c (37 : Nat) false] [∀ (e : Ev), e ∈ l → e.ok, (e.k != (4 : Int)) = false, (∀ (p : Ev × Bool), p ∈ plL l → p.fst.ok) ∧ e.ok, ((addM (plL l) e).fst != (0 : Int)) = false, True, (!(gotL (addM (plL l) e).snd e.d).snd) = false] (.loop (fnLoop Try.prog 3 0).1 (fnLoop Try.prog 3 0).2) (by kernel_rfl) (by kernel_rfl) (by refine ⟨?_, h1, ?_, h2, ?_, h3, trivial⟩ <;> (first | exact hl | exact ⟨hL.ok, he⟩ | trivial)) hF hst0 fun g1 w1 a1 hag1 hst1 hF1 hd1 => ?_
        obtain ⟨-, g5, G5, hag5, hF5, hst5, hd5⟩ := next_inv (σ := Unit) (n0 := 0) (live := [0, 3, 5, 8]) (F := fun _ => tkF e (0 : Nat)) (H := fun _ => tkH l e (addM (plL l) e).2) (inv := fun _ => True) (s' := ()) trivial (Agree.refl 0 r) (hag1.mono (Nat.zero_le _)) (by kernel_rfl) hF1 hst1 (hd1.trans hd) (by kernel_rfl) (by kernel_rfl) (by kernel_rfl)
        exact tk_loop rfl hl he (by simpa using h2) (by simpa using h3) (by simpa using h1) hF5 hst5 hd5
      | true =>
        refine code_wp hmx (ro := none) TH [Dec.s (4004 : Nat) (25 : Nat) false, Dec.s (4010 : Nat) (31 : Nat) false, Dec.c (37 : Nat) true] [∀ (e : Ev), e ∈ l → e.ok, (e.k != (4 : Int)) = false, (∀ (p : Ev × Bool), p ∈ plL l → p.fst.ok) ∧ e.ok, ((addM (plL l) e).fst != (0 : Int)) = false, True, (!(gotL (addM (plL l) e).snd e.d).snd) = true] .ret (by kernel_rfl) (by kernel_rfl) (by refine ⟨?_, h1, ?_, h2, ?_, h3, trivial⟩ <;> (first | exact hl | exact ⟨hL.ok, he⟩ | trivial)) hF hst0 fun g1 w1 a1 hag1 hst1 hF1 hd1 => ?_
        exact ret_fin (bodyPost_of (v := .b true) (by kernel_rfl) hF1 hst1 (hd1.trans hd) ⟨rfl, _, _, hst1⟩).1
    | true =>
      refine code_wp hmx (ro := none) TH [Dec.s (4004 : Nat) (25 : Nat) false, Dec.s (4010 : Nat) (31 : Nat) true] [∀ (e : Ev), e ∈ l → e.ok, (e.k != (4 : Int)) = false, (∀ (p : Ev × Bool), p ∈ plL l → p.fst.ok) ∧ e.ok, ((addM (plL l) e).fst != (0 : Int)) = true] .ret (by kernel_rfl) (by kernel_rfl) (by refine ⟨?_, h1, ?_, h2, trivial⟩ <;> (first | exact hl | exact ⟨hL.ok, he⟩ | trivial)) hF hst0 fun g1 w1 a1 hag1 hst1 hF1 hd1 => ?_
      exact ret_fin (bodyPost_of (v := .b true) (by kernel_rfl) hF1 hst1 (hd1.trans hd) ⟨rfl, _, _, hst1⟩).1
  | true =>
    refine code_wp hmx (ro := none) TH [Dec.s (4004 : Nat) (25 : Nat) true] [∀ (e : Ev), e ∈ l → e.ok, (e.k != (4 : Int)) = true] .ret (by kernel_rfl) (by kernel_rfl) (by refine ⟨?_, h1, trivial⟩ <;> (first | exact hl | exact ⟨hL.ok, he⟩ | trivial)) hF hst0 fun g1 w1 a1 hag1 hst1 hF1 hd1 => ?_
    exact ret_fin (bodyPost_of (v := .b true) (by kernel_rfl) hF1 hst1 (hd1.trans hd) ⟨rfl, _, _, hst1⟩).1

end Go.Proofs.Ytodcebpdmjdplaa
