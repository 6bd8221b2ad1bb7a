/- What either saw, by the document: walked, its loop round by round. CausalVectors: walked. -/
import Derived.Test.YtobonipmnidadaaJ28
namespace Go.Proofs.Ytobonipmnidadaa
open Go.RowKit
set_option maxRecDepth 8000

noncomputable def rjF (a b : Vec) (k : Nat) : AF := ((((startF (fnOf Try.prog 18) [a.av, b.av]).set 2 (.c (.ptr 0 0))).set 3 (.c (.ptr 1 0))).set 4 (.c (.ptr 2 0))).set 5 (.r (.int .i64 (k : Int)))
def rjH (c b : Vec) : AH := [(.cells c.cvs 24, 1), (.cells b.cvs 24, 1), (.cells vec0.cvs 24, 1)]
def jto (a b : Vec) (k : Nat) : Vec := ⟨cond (Nat.blt 0 k) (max a.x0 b.x0) a.x0, cond (Nat.blt 1 k) (max a.x1 b.x1) a.x1, cond (Nat.blt 2 k) (max a.x2 b.x2) a.x2, cond (Nat.blt 3 k) (max a.x3 b.x3) a.x3, cond (Nat.blt 4 k) (max a.x4 b.x4) a.x4, cond (Nat.blt 5 k) (max a.x5 b.x5) a.x5, cond (Nat.blt 6 k) (max a.x6 b.x6) a.x6, cond (Nat.blt 7 k) (max a.x7 b.x7) a.x7⟩
def rjR (B : Base) (c : Vec) : Ending → World → Prop := fun e w' => e = .returned c.v ∧ ∃ g H, St g H B w'
def rjI (a b : Vec) (g0 : Gh) (B : Base) (s : Nat × Vec) (act : Act) (w : World) : Prop := LInv 0 g0 B [] [2, 3, 4, 5] (fun s : Nat × Vec => rjF a b s.1) (fun s => rjH s.2 b) (fun s => s.1 ≤ 8 ∧ s.2 = jto a b s.1) s act w

theorem rj_0 {a b c : Vec} (hc : c = jto a b 0) {g0 g : Gh} {G : Nat → Value} {B : Base} {act : Act} {w : World} {Q : Exit → Act → World → Prop} (hag : Agree 0 g0 g) (hF : FrameOk g (maskF [2, 3, 4, 5] (rjF a b 0) G) act) (hst : St g (rjH c b) B w) (hd : act.defers = []) :
    (fnLoop Try.prog 18 0).1.wpIn (Fw none) 0 Try.prog (Exit.then (fun a' w' => ∃ s', rjI a b g0 B s' a' w' ∧ 8 - s'.1 < 8 - 0) Q) act w := by
  cases h1 : decide (b.x0 > c.x0) with
  | false =>
    refine code_wp hmx (ro := none) TQ [Dec.c (16 : Nat) false] [((0 : Int) ≤ ((0 : Nat) : Int) ∧ ((0 : Nat) : Int) < ((8 : Nat) : Int)), ((0 : Int) ≤ ((0 : Nat) : Int) ∧ ((0 : Nat) : Int) < ((8 : Nat) : Int)), decide (b.x0 > c.x0) = false] .norm (by kernel_rfl) (by kernel_rfl) ⟨⟨by decide, by decide⟩, ⟨by decide, by decide⟩, h1, trivial⟩ hF hst fun g1 w1 a1 hag1 hst1 hF1 hd1 => ⟨(1, c), ?_, (show 8 - 1 < 8 - 0 by decide)⟩
    refine next_inv (s' := ((1, c) : Nat × Vec)) ⟨(show 1 ≤ 8 by decide), ?_⟩ hag hag1 (by kernel_rfl) hF1 hst1 (hd1.trans hd) (by kernel_rfl) (by kernel_rfl) (by kernel_rfl)
    have h2 := of_decide_eq_false h1
    subst hc
    simp [jto, Nat.blt, Nat.ble] at h2 ⊢
    try omega
  | true =>
    refine code_wp hmx (ro := none) TQ [Dec.c (16 : Nat) true] [((0 : Int) ≤ ((0 : Nat) : Int) ∧ ((0 : Nat) : Int) < ((8 : Nat) : Int)), ((0 : Int) ≤ ((0 : Nat) : Int) ∧ ((0 : Nat) : Int) < ((8 : Nat) : Int)), decide (b.x0 > c.x0) = true, ((0 : Int) ≤ ((0 : Nat) : Int) ∧ ((0 : Nat) : Int) < ((8 : Nat) : Int)), ((0 : Int) ≤ ((0 : Nat) : Int) ∧ ((0 : Nat) : Int) < ((8 : Nat) : Int))] .norm (by kernel_rfl) (by kernel_rfl) ⟨⟨by decide, by decide⟩, ⟨by decide, by decide⟩, h1, ⟨by decide, by decide⟩, ⟨by decide, by decide⟩, trivial⟩ hF hst fun g1 w1 a1 hag1 hst1 hF1 hd1 => ⟨(1, { c with x0 := b.x0 }), ?_, (show 8 - 1 < 8 - 0 by decide)⟩
    refine next_inv (s' := ((1, { c with x0 := b.x0 }) : Nat × Vec)) ⟨(show 1 ≤ 8 by decide), ?_⟩ hag hag1 (by kernel_rfl) hF1 hst1 (hd1.trans hd) (by kernel_rfl) (by kernel_rfl) (by kernel_rfl)
    have h2 := of_decide_eq_true h1
    subst hc
    simp [jto, Nat.blt, Nat.ble] at h2 ⊢
    try omega

theorem rj_1 {a b c : Vec} (hc : c = jto a b 1) {g0 g : Gh} {G : Nat → Value} {B : Base} {act : Act} {w : World} {Q : Exit → Act → World → Prop} (hag : Agree 0 g0 g) (hF : FrameOk g (maskF [2, 3, 4, 5] (rjF a b 1) G) act) (hst : St g (rjH c b) B w) (hd : act.defers = []) :
    (fnLoop Try.prog 18 0).1.wpIn (Fw none) 0 Try.prog (Exit.then (fun a' w' => ∃ s', rjI a b g0 B s' a' w' ∧ 8 - s'.1 < 8 - 1) Q) act w := by
  cases h1 : decide (b.x1 > c.x1) with
  | false =>
    refine code_wp hmx (ro := none) TQ [Dec.c (16 : Nat) false] [((0 : Int) ≤ ((1 : Nat) : Int) ∧ ((1 : Nat) : Int) < ((8 : Nat) : Int)), ((0 : Int) ≤ ((1 : Nat) : Int) ∧ ((1 : Nat) : Int) < ((8 : Nat) : Int)), decide (b.x1 > c.x1) = false] .norm (by kernel_rfl) (by kernel_rfl) ⟨⟨by decide, by decide⟩, ⟨by decide, by decide⟩, h1, trivial⟩ hF hst fun g1 w1 a1 hag1 hst1 hF1 hd1 => ⟨(2, c), ?_, (show 8 - 2 < 8 - 1 by decide)⟩
    refine next_inv (s' := ((2, c) : Nat × Vec)) ⟨(show 2 ≤ 8 by decide), ?_⟩ hag hag1 (by kernel_rfl) hF1 hst1 (hd1.trans hd) (by kernel_rfl) (by kernel_rfl) (by kernel_rfl)
    have h2 := of_decide_eq_false h1
    subst hc
    simp [jto, Nat.blt, Nat.ble] at h2 ⊢
    try omega
  | true =>
    refine code_wp hmx (ro := none) TQ [Dec.c (16 : Nat) true] [((0 : Int) ≤ ((1 : Nat) : Int) ∧ ((1 : Nat) : Int) < ((8 : Nat) : Int)), ((0 : Int) ≤ ((1 : Nat) : Int) ∧ ((1 : Nat) : Int) < ((8 : Nat) : Int)), decide (b.x1 > c.x1) = true, ((0 : Int) ≤ ((1 : Nat) : Int) ∧ ((1 : Nat) : Int) < ((8 : Nat) : Int)), ((0 : Int) ≤ ((1 : Nat) : Int) ∧ ((1 : Nat) : Int) < ((8 : Nat) : Int))] .norm (by kernel_rfl) (by kernel_rfl) ⟨⟨by decide, by decide⟩, ⟨by decide, by decide⟩, h1, ⟨by decide, by decide⟩, ⟨by decide, by decide⟩, trivial⟩ hF hst fun g1 w1 a1 hag1 hst1 hF1 hd1 => ⟨(2, { c with x1 := b.x1 }), ?_, (show 8 - 2 < 8 - 1 by decide)⟩
    refine next_inv (s' := ((2, { c with x1 := b.x1 }) : Nat × Vec)) ⟨(show 2 ≤ 8 by decide), ?_⟩ hag hag1 (by kernel_rfl) hF1 hst1 (hd1.trans hd) (by kernel_rfl) (by kernel_rfl) (by kernel_rfl)
    have h2 := of_decide_eq_true h1
    subst hc
    simp [jto, Nat.blt, Nat.ble] at h2 ⊢
    try omega

theorem rj_2 {a b c : Vec} (hc : c = jto a b 2) {g0 g : Gh} {G : Nat → Value} {B : Base} {act : Act} {w : World} {Q : Exit → Act → World → Prop} (hag : Agree 0 g0 g) (hF : FrameOk g (maskF [2, 3, 4, 5] (rjF a b 2) G) act) (hst : St g (rjH c b) B w) (hd : act.defers = []) :
    (fnLoop Try.prog 18 0).1.wpIn (Fw none) 0 Try.prog (Exit.then (fun a' w' => ∃ s', rjI a b g0 B s' a' w' ∧ 8 - s'.1 < 8 - 2) Q) act w := by
  cases h1 : decide (b.x2 > c.x2) with
  | false =>
    refine code_wp hmx (ro := none) TQ [Dec.c (16 : Nat) false] [((0 : Int) ≤ ((2 : Nat) : Int) ∧ ((2 : Nat) : Int) < ((8 : Nat) : Int)), ((0 : Int) ≤ ((2 : Nat) : Int) ∧ ((2 : Nat) : Int) < ((8 : Nat) : Int)), decide (b.x2 > c.x2) = false] .norm (by kernel_rfl) (by kernel_rfl) ⟨⟨by decide, by decide⟩, ⟨by decide, by decide⟩, h1, trivial⟩ hF hst fun g1 w1 a1 hag1 hst1 hF1 hd1 => ⟨(3, c), ?_, (show 8 - 3 < 8 - 2 by decide)⟩
    refine next_inv (s' := ((3, c) : Nat × Vec)) ⟨(show 3 ≤ 8 by decide), ?_⟩ hag hag1 (by kernel_rfl) hF1 hst1 (hd1.trans hd) (by kernel_rfl) (by kernel_rfl) (by kernel_rfl)
    have h2 := of_decide_eq_false h1
    subst hc
    simp [jto, Nat.blt, Nat.ble] at h2 ⊢
    try omega
  | true =>
    refine code_wp hmx (ro := none) TQ [Dec.c (16 : Nat) true] [((0 : Int) ≤ ((2 : Nat) : Int) ∧ ((2 : Nat) : Int) < ((8 : Nat) : Int)), ((0 : Int) ≤ ((2 : Nat) : Int) ∧ ((2 : Nat) : Int) < ((8 : Nat) : Int)), decide (b.x2 > c.x2) = true, ((0 : Int) ≤ ((2 : Nat) : Int) ∧ ((2 : Nat) : Int) < ((8 : Nat) : Int)), ((0 : Int) ≤ ((2 : Nat) : Int) ∧ ((2 : Nat) : Int) < ((8 : Nat) : Int))] .norm (by kernel_rfl) (by kernel_rfl) ⟨⟨by decide, by decide⟩, ⟨by decide, by decide⟩, h1, ⟨by decide, by decide⟩, ⟨by decide, by decide⟩, trivial⟩ hF hst fun g1 w1 a1 hag1 hst1 hF1 hd1 => ⟨(3, { c with x2 := b.x2 }), ?_, (show 8 - 3 < 8 - 2 by decide)⟩
    refine next_inv (s' := ((3, { c with x2 := b.x2 }) : Nat × Vec)) ⟨(show 3 ≤ 8 by decide), ?_⟩ hag hag1 (by kernel_rfl) hF1 hst1 (hd1.trans hd) (by kernel_rfl) (by kernel_rfl) (by kernel_rfl)
    have h2 := of_decide_eq_true h1
    subst hc
    simp [jto, Nat.blt, Nat.ble] at h2 ⊢
    try omega

theorem rj_3 {a b c : Vec} (hc : c = jto a b 3) {g0 g : Gh} {G : Nat → Value} {B : Base} {act : Act} {w : World} {Q : Exit → Act → World → Prop} (hag : Agree 0 g0 g) (hF : FrameOk g (maskF [2, 3, 4, 5] (rjF a b 3) G) act) (hst : St g (rjH c b) B w) (hd : act.defers = []) :
    (fnLoop Try.prog 18 0).1.wpIn (Fw none) 0 Try.prog (Exit.then (fun a' w' => ∃ s', rjI a b g0 B s' a' w' ∧ 8 - s'.1 < 8 - 3) Q) act w := by
  cases h1 : decide (b.x3 > c.x3) with
  | false =>
    refine code_wp hmx (ro := none) TQ [Dec.c (16 : Nat) false] [((0 : Int) ≤ ((3 : Nat) : Int) ∧ ((3 : Nat) : Int) < ((8 : Nat) : Int)), ((0 : Int) ≤ ((3 : Nat) : Int) ∧ ((3 : Nat) : Int) < ((8 : Nat) : Int)), decide (b.x3 > c.x3) = false] .norm (by kernel_rfl) (by kernel_rfl) ⟨⟨by decide, by decide⟩, ⟨by decide, by decide⟩, h1, trivial⟩ hF hst fun g1 w1 a1 hag1 hst1 hF1 hd1 => ⟨(4, c), ?_, (show 8 - 4 < 8 - 3 by decide)⟩
    refine next_inv (s' := ((4, c) : Nat × Vec)) ⟨(show 4 ≤ 8 by decide), ?_⟩ hag hag1 (by kernel_rfl) hF1 hst1 (hd1.trans hd) (by kernel_rfl) (by kernel_rfl) (by kernel_rfl)
    have h2 := of_decide_eq_false h1
    subst hc
    simp [jto, Nat.blt, Nat.ble] at h2 ⊢
    try omega
  | true =>
    refine code_wp hmx (ro := none) TQ [Dec.c (16 : Nat) true] [((0 : Int) ≤ ((3 : Nat) : Int) ∧ ((3 : Nat) : Int) < ((8 : Nat) : Int)), ((0 : Int) ≤ ((3 : Nat) : Int) ∧ ((3 : Nat) : Int) < ((8 : Nat) : Int)), decide (b.x3 > c.x3) = true, ((0 : Int) ≤ ((3 : Nat) : Int) ∧ ((3 : Nat) : Int) < ((8 : Nat) : Int)), ((0 : Int) ≤ ((3 : Nat) : Int) ∧ ((3 : Nat) : Int) < ((8 : Nat) : Int))] .norm (by kernel_rfl) (by kernel_rfl) ⟨⟨by decide, by decide⟩, ⟨by decide, by decide⟩, h1, ⟨by decide, by decide⟩, ⟨by decide, by decide⟩, trivial⟩ hF hst fun g1 w1 a1 hag1 hst1 hF1 hd1 => ⟨(4, { c with x3 := b.x3 }), ?_, (show 8 - 4 < 8 - 3 by decide)⟩
    refine next_inv (s' := ((4, { c with x3 := b.x3 }) : Nat × Vec)) ⟨(show 4 ≤ 8 by decide), ?_⟩ hag hag1 (by kernel_rfl) hF1 hst1 (hd1.trans hd) (by kernel_rfl) (by kernel_rfl) (by kernel_rfl)
    have h2 := of_decide_eq_true h1
    subst hc
    simp [jto, Nat.blt, Nat.ble] at h2 ⊢
    try omega

theorem rj_4 {a b c : Vec} (hc : c = jto a b 4) {g0 g : Gh} {G : Nat → Value} {B : Base} {act : Act} {w : World} {Q : Exit → Act → World → Prop} (hag : Agree 0 g0 g) (hF : FrameOk g (maskF [2, 3, 4, 5] (rjF a b 4) G) act) (hst : St g (rjH c b) B w) (hd : act.defers = []) :
    (fnLoop Try.prog 18 0).1.wpIn (Fw none) 0 Try.prog (Exit.then (fun a' w' => ∃ s', rjI a b g0 B s' a' w' ∧ 8 - s'.1 < 8 - 4) Q) act w := by
  cases h1 : decide (b.x4 > c.x4) with
  | false =>
    refine code_wp hmx (ro := none) TQ [Dec.c (16 : Nat) false] [((0 : Int) ≤ ((4 : Nat) : Int) ∧ ((4 : Nat) : Int) < ((8 : Nat) : Int)), ((0 : Int) ≤ ((4 : Nat) : Int) ∧ ((4 : Nat) : Int) < ((8 : Nat) : Int)), decide (b.x4 > c.x4) = false] .norm (by kernel_rfl) (by kernel_rfl) ⟨⟨by decide, by decide⟩, ⟨by decide, by decide⟩, h1, trivial⟩ hF hst fun g1 w1 a1 hag1 hst1 hF1 hd1 => ⟨(5, c), ?_, (show 8 - 5 < 8 - 4 by decide)⟩
    refine next_inv (s' := ((5, c) : Nat × Vec)) ⟨(show 5 ≤ 8 by decide), ?_⟩ hag hag1 (by kernel_rfl) hF1 hst1 (hd1.trans hd) (by kernel_rfl) (by kernel_rfl) (by kernel_rfl)
    have h2 := of_decide_eq_false h1
    subst hc
    simp [jto, Nat.blt, Nat.ble] at h2 ⊢
    try omega
  | true =>
    refine code_wp hmx (ro := none) TQ [Dec.c (16 : Nat) true] [((0 : Int) ≤ ((4 : Nat) : Int) ∧ ((4 : Nat) : Int) < ((8 : Nat) : Int)), ((0 : Int) ≤ ((4 : Nat) : Int) ∧ ((4 : Nat) : Int) < ((8 : Nat) : Int)), decide (b.x4 > c.x4) = true, ((0 : Int) ≤ ((4 : Nat) : Int) ∧ ((4 : Nat) : Int) < ((8 : Nat) : Int)), ((0 : Int) ≤ ((4 : Nat) : Int) ∧ ((4 : Nat) : Int) < ((8 : Nat) : Int))] .norm (by kernel_rfl) (by kernel_rfl) ⟨⟨by decide, by decide⟩, ⟨by decide, by decide⟩, h1, ⟨by decide, by decide⟩, ⟨by decide, by decide⟩, trivial⟩ hF hst fun g1 w1 a1 hag1 hst1 hF1 hd1 => ⟨(5, { c with x4 := b.x4 }), ?_, (show 8 - 5 < 8 - 4 by decide)⟩
    refine next_inv (s' := ((5, { c with x4 := b.x4 }) : Nat × Vec)) ⟨(show 5 ≤ 8 by decide), ?_⟩ hag hag1 (by kernel_rfl) hF1 hst1 (hd1.trans hd) (by kernel_rfl) (by kernel_rfl) (by kernel_rfl)
    have h2 := of_decide_eq_true h1
    subst hc
    simp [jto, Nat.blt, Nat.ble] at h2 ⊢
    try omega

theorem rj_5 {a b c : Vec} (hc : c = jto a b 5) {g0 g : Gh} {G : Nat → Value} {B : Base} {act : Act} {w : World} {Q : Exit → Act → World → Prop} (hag : Agree 0 g0 g) (hF : FrameOk g (maskF [2, 3, 4, 5] (rjF a b 5) G) act) (hst : St g (rjH c b) B w) (hd : act.defers = []) :
    (fnLoop Try.prog 18 0).1.wpIn (Fw none) 0 Try.prog (Exit.then (fun a' w' => ∃ s', rjI a b g0 B s' a' w' ∧ 8 - s'.1 < 8 - 5) Q) act w := by
  cases h1 : decide (b.x5 > c.x5) with
  | false =>
    refine code_wp hmx (ro := none) TQ [Dec.c (16 : Nat) false] [((0 : Int) ≤ ((5 : Nat) : Int) ∧ ((5 : Nat) : Int) < ((8 : Nat) : Int)), ((0 : Int) ≤ ((5 : Nat) : Int) ∧ ((5 : Nat) : Int) < ((8 : Nat) : Int)), decide (b.x5 > c.x5) = false] .norm (by kernel_rfl) (by kernel_rfl) ⟨⟨by decide, by decide⟩, ⟨by decide, by decide⟩, h1, trivial⟩ hF hst fun g1 w1 a1 hag1 hst1 hF1 hd1 => ⟨(6, c), ?_, (show 8 - 6 < 8 - 5 by decide)⟩
    refine next_inv (s' := ((6, c) : Nat × Vec)) ⟨(show 6 ≤ 8 by decide), ?_⟩ hag hag1 (by kernel_rfl) hF1 hst1 (hd1.trans hd) (by kernel_rfl) (by kernel_rfl) (by kernel_rfl)
    have h2 := of_decide_eq_false h1
    subst hc
    simp [jto, Nat.blt, Nat.ble] at h2 ⊢
    try omega
  | true =>
    refine code_wp hmx (ro := none) TQ [Dec.c (16 : Nat) true] [((0 : Int) ≤ ((5 : Nat) : Int) ∧ ((5 : Nat) : Int) < ((8 : Nat) : Int)), ((0 : Int) ≤ ((5 : Nat) : Int) ∧ ((5 : Nat) : Int) < ((8 : Nat) : Int)), decide (b.x5 > c.x5) = true, ((0 : Int) ≤ ((5 : Nat) : Int) ∧ ((5 : Nat) : Int) < ((8 : Nat) : Int)), ((0 : Int) ≤ ((5 : Nat) : Int) ∧ ((5 : Nat) : Int) < ((8 : Nat) : Int))] .norm (by kernel_rfl) (by kernel_rfl) ⟨⟨by decide, by decide⟩, ⟨by decide, by decide⟩, h1, ⟨by decide, by decide⟩, ⟨by decide, by decide⟩, trivial⟩ hF hst fun g1 w1 a1 hag1 hst1 hF1 hd1 => ⟨(6, { c with x5 := b.x5 }), ?_, (show 8 - 6 < 8 - 5 by decide)⟩
    refine next_inv (s' := ((6, { c with x5 := b.x5 }) : Nat × Vec)) ⟨(show 6 ≤ 8 by decide), ?_⟩ hag hag1 (by kernel_rfl) hF1 hst1 (hd1.trans hd) (by kernel_rfl) (by kernel_rfl) (by kernel_rfl)
    have h2 := of_decide_eq_true h1
    subst hc
    simp [jto, Nat.blt, Nat.ble] at h2 ⊢
    try omega

theorem rj_6 {a b c : Vec} (hc : c = jto a b 6) {g0 g : Gh} {G : Nat → Value} {B : Base} {act : Act} {w : World} {Q : Exit → Act → World → Prop} (hag : Agree 0 g0 g) (hF : FrameOk g (maskF [2, 3, 4, 5] (rjF a b 6) G) act) (hst : St g (rjH c b) B w) (hd : act.defers = []) :
    (fnLoop Try.prog 18 0).1.wpIn (Fw none) 0 Try.prog (Exit.then (fun a' w' => ∃ s', rjI a b g0 B s' a' w' ∧ 8 - s'.1 < 8 - 6) Q) act w := by
  cases h1 : decide (b.x6 > c.x6) with
  | false =>
    refine code_wp hmx (ro := none) TQ [Dec.c (16 : Nat) false] [((0 : Int) ≤ ((6 : Nat) : Int) ∧ ((6 : Nat) : Int) < ((8 : Nat) : Int)), ((0 : Int) ≤ ((6 : Nat) : Int) ∧ ((6 : Nat) : Int) < ((8 : Nat) : Int)), decide (b.x6 > c.x6) = false] .norm (by kernel_rfl) (by kernel_rfl) ⟨⟨by decide, by decide⟩, ⟨by decide, by decide⟩, h1, trivial⟩ hF hst fun g1 w1 a1 hag1 hst1 hF1 hd1 => ⟨(7, c), ?_, (show 8 - 7 < 8 - 6 by decide)⟩
    refine next_inv (s' := ((7, c) : Nat × Vec)) ⟨(show 7 ≤ 8 by decide), ?_⟩ hag hag1 (by kernel_rfl) hF1 hst1 (hd1.trans hd) (by kernel_rfl) (by kernel_rfl) (by kernel_rfl)
    have h2 := of_decide_eq_false h1
    subst hc
    simp [jto, Nat.blt, Nat.ble] at h2 ⊢
    try omega
  | true =>
    refine code_wp hmx (ro := none) TQ [Dec.c (16 : Nat) true] [((0 : Int) ≤ ((6 : Nat) : Int) ∧ ((6 : Nat) : Int) < ((8 : Nat) : Int)), ((0 : Int) ≤ ((6 : Nat) : Int) ∧ ((6 : Nat) : Int) < ((8 : Nat) : Int)), decide (b.x6 > c.x6) = true, ((0 : Int) ≤ ((6 : Nat) : Int) ∧ ((6 : Nat) : Int) < ((8 : Nat) : Int)), ((0 : Int) ≤ ((6 : Nat) : Int) ∧ ((6 : Nat) : Int) < ((8 : Nat) : Int))] .norm (by kernel_rfl) (by kernel_rfl) ⟨⟨by decide, by decide⟩, ⟨by decide, by decide⟩, h1, ⟨by decide, by decide⟩, ⟨by decide, by decide⟩, trivial⟩ hF hst fun g1 w1 a1 hag1 hst1 hF1 hd1 => ⟨(7, { c with x6 := b.x6 }), ?_, (show 8 - 7 < 8 - 6 by decide)⟩
    refine next_inv (s' := ((7, { c with x6 := b.x6 }) : Nat × Vec)) ⟨(show 7 ≤ 8 by decide), ?_⟩ hag hag1 (by kernel_rfl) hF1 hst1 (hd1.trans hd) (by kernel_rfl) (by kernel_rfl) (by kernel_rfl)
    have h2 := of_decide_eq_true h1
    subst hc
    simp [jto, Nat.blt, Nat.ble] at h2 ⊢
    try omega

theorem rj_7 {a b c : Vec} (hc : c = jto a b 7) {g0 g : Gh} {G : Nat → Value} {B : Base} {act : Act} {w : World} {Q : Exit → Act → World → Prop} (hag : Agree 0 g0 g) (hF : FrameOk g (maskF [2, 3, 4, 5] (rjF a b 7) G) act) (hst : St g (rjH c b) B w) (hd : act.defers = []) :
    (fnLoop Try.prog 18 0).1.wpIn (Fw none) 0 Try.prog (Exit.then (fun a' w' => ∃ s', rjI a b g0 B s' a' w' ∧ 8 - s'.1 < 8 - 7) Q) act w := by
  cases h1 : decide (b.x7 > c.x7) with
  | false =>
    refine code_wp hmx (ro := none) TQ [Dec.c (16 : Nat) false] [((0 : Int) ≤ ((7 : Nat) : Int) ∧ ((7 : Nat) : Int) < ((8 : Nat) : Int)), ((0 : Int) ≤ ((7 : Nat) : Int) ∧ ((7 : Nat) : Int) < ((8 : Nat) : Int)), decide (b.x7 > c.x7) = false] .norm (by kernel_rfl) (by kernel_rfl) ⟨⟨by decide, by decide⟩, ⟨by decide, by decide⟩, h1, trivial⟩ hF hst fun g1 w1 a1 hag1 hst1 hF1 hd1 => ⟨(8, c), ?_, (show 8 - 8 < 8 - 7 by decide)⟩
    refine next_inv (s' := ((8, c) : Nat × Vec)) ⟨(show 8 ≤ 8 by decide), ?_⟩ hag hag1 (by kernel_rfl) hF1 hst1 (hd1.trans hd) (by kernel_rfl) (by kernel_rfl) (by kernel_rfl)
    have h2 := of_decide_eq_false h1
    subst hc
    simp [jto, Nat.blt, Nat.ble] at h2 ⊢
    try omega
  | true =>
    refine code_wp hmx (ro := none) TQ [Dec.c (16 : Nat) true] [((0 : Int) ≤ ((7 : Nat) : Int) ∧ ((7 : Nat) : Int) < ((8 : Nat) : Int)), ((0 : Int) ≤ ((7 : Nat) : Int) ∧ ((7 : Nat) : Int) < ((8 : Nat) : Int)), decide (b.x7 > c.x7) = true, ((0 : Int) ≤ ((7 : Nat) : Int) ∧ ((7 : Nat) : Int) < ((8 : Nat) : Int)), ((0 : Int) ≤ ((7 : Nat) : Int) ∧ ((7 : Nat) : Int) < ((8 : Nat) : Int))] .norm (by kernel_rfl) (by kernel_rfl) ⟨⟨by decide, by decide⟩, ⟨by decide, by decide⟩, h1, ⟨by decide, by decide⟩, ⟨by decide, by decide⟩, trivial⟩ hF hst fun g1 w1 a1 hag1 hst1 hF1 hd1 => ⟨(8, { c with x7 := b.x7 }), ?_, (show 8 - 8 < 8 - 7 by decide)⟩
    refine next_inv (s' := ((8, { c with x7 := b.x7 }) : Nat × Vec)) ⟨(show 8 ≤ 8 by decide), ?_⟩ hag hag1 (by kernel_rfl) hF1 hst1 (hd1.trans hd) (by kernel_rfl) (by kernel_rfl) (by kernel_rfl)
    have h2 := of_decide_eq_true h1
    subst hc
    simp [jto, Nat.blt, Nat.ble] at h2 ⊢
    try omega

theorem jto_all (a b : Vec) : jto a b 8 = joinV a b := rfl
theorem jto_none (a b : Vec) : jto a b 0 = a := rfl

theorem rj_end {a b : Vec} {G : Nat → Value} {g : Gh} {B : Base} {act : Act} {w : World} (hF : FrameOk g (maskF [2, 3, 4, 5] (rjF a b 8) G) act) (hst : St g (rjH (joinV a b) b) B w) (hd : act.defers = []) :
    kont none 0 Try.prog (restAt 0 (fnLoop Try.prog 18 0).2) (bodyPost Try.prog (fnOf Try.prog 18) (rjR B (joinV a b))) .normal act w := by
  refine list_wp hmx (ro := none) TQ [] [] .ret (by kernel_rfl) (by kernel_rfl) trivial hF hst fun g1 w1 a1 hag1 hst1 hF1 hd1 => ret_fin ?_
  exact (bodyPost_of (v := (joinV a b).av) (by kernel_rfl) hF1 hst1 (hd1.trans hd) ⟨rfl, _, _, hst1⟩).1

theorem rj_8 {a b c : Vec} (hc : c = jto a b 8) {g0 g : Gh} {G : Nat → Value} {B : Base} {act : Act} {w : World} (hag : Agree 0 g0 g) (hF : FrameOk g (maskF [2, 3, 4, 5] (rjF a b 8) G) act) (hst : St g (rjH c b) B w) (hd : act.defers = []) {I : Act → World → Prop} :
    (fnLoop Try.prog 18 0).1.wpIn (Fw none) 0 Try.prog (Exit.then I (kont none 0 Try.prog (fnLoop Try.prog 18 0).2 (bodyPost Try.prog (fnOf Try.prog 18) (rjR B (joinV a b))))) act w := by
  rw [jto_all] at hc
  subst hc
  refine code_wp hmx (ro := none) TQ [] [] (.exit 0) (by kernel_rfl) (by kernel_rfl) trivial hF hst fun g1 w1 a1 hag1 hst1 hF1 hd1 => ?_
  refine exit_out (k' := restAt 0 (fnLoop Try.prog 18 0).2) (by kernel_rfl) ?_
  obtain ⟨-, g2, G2, hag2, hF2, hst2, hd2⟩ := next_inv (σ := Unit) (n0 := 0) (live := [2, 3, 4, 5]) (F := fun _ => rjF a b 8) (H := fun _ => rjH (joinV a b) b) (inv := fun _ => True) (s' := ()) trivial hag hag1 (by kernel_rfl) hF1 hst1 (hd1.trans hd) (by kernel_rfl) (by kernel_rfl) (by kernel_rfl)
  exact rj_end hF2 hst2 hd2

theorem rj_loop {a b : Vec} {g0 : Gh} {G0 : Nat → Value} {B : Base} {act : Act} {w : World} (hF : FrameOk g0 (maskF [2, 3, 4, 5] (rjF a b 0) G0) act) (hst : St g0 (rjH a b) B w) (hd : act.defers = []) :
    (Code.loop (fnLoop Try.prog 18 0).1).wpIn (Fw none) 0 Try.prog (kont none 0 Try.prog (fnLoop Try.prog 18 0).2 (bodyPost Try.prog (fnOf Try.prog 18) (rjR B (joinV a b)))) act w := by
  refine loop_wp (σ := Nat × Vec) (n0 := 0) (g0 := g0) (B := B) (ds := []) [2, 3, 4, 5] (fun s => rjF a b s.1) (fun s => rjH s.2 b) (fun s => s.1 ≤ 8 ∧ s.2 = jto a b s.1) (fun s => 8 - s.1) (0, a)
    ⟨⟨Nat.zero_le 8, rfl⟩, g0, G0, Agree.refl _ _, hF, hst, hd⟩ fun s g G act' w' hs hag hF' hst' hd' => ?_
  obtain ⟨k, c⟩ := s
  obtain ⟨hk, hc⟩ := hs
  match k, hk with
  | 0, _ => exact rj_0 hc hag hF' hst' hd'
  | 1, _ => exact rj_1 hc hag hF' hst' hd'
  | 2, _ => exact rj_2 hc hag hF' hst' hd'
  | 3, _ => exact rj_3 hc hag hF' hst' hd'
  | 4, _ => exact rj_4 hc hag hF' hst' hd'
  | 5, _ => exact rj_5 hc hag hF' hst' hd'
  | 6, _ => exact rj_6 hc hag hF' hst' hd'
  | 7, _ => exact rj_7 hc hag hF' hst' hd'
  | 8, _ => exact rj_8 hc hag hF' hst' hd'
  | k + 9, hk => exact absurd hk (by simp)

theorem rjoin_run (a b : Vec) (r : Gh) (w : World) : Calls Try.prog 18 ([a.av, b.av].map (AV.conc r)).toArray w fun e w' => e = .returned (joinV a b).v ∧ Below w.heap.size w w' := by
  rw [← args_wipe]
  suffices hh : Calls Try.prog 18 (([a.av, b.av].map (AV.conc r.wipe)).toArray) w (rjR (rd r.wipe w) (joinV a b)) from hh.mono fun e w' ⟨h1, g, H, h2⟩ => ⟨h1, h2.belowR⟩
  refine (callsFw (ro := none) (n := 0)).1 (callsInStart (fn := fnOf Try.prog 18) (c := bodyOf Try.prog 18) (by kernel_rfl) (by kernel_rfl) fun a0 hF hd => ?_)
  refine code_wp hmx (ro := none) TQ [] [] (.loop (fnLoop Try.prog 18 0).1 (fnLoop Try.prog 18 0).2) (by kernel_rfl) (by kernel_rfl) trivial hF (St.empty r w) fun g1 w1 a1 hag1 hst1 hF1 hd1 => ?_
  obtain ⟨-, g2, G2, hag2, hF2, hst2, hd2⟩ := next_inv (σ := Unit) (n0 := 0) (live := [2, 3, 4, 5]) (F := fun _ => rjF a b 0) (H := fun _ => rjH a b) (inv := fun _ => True) (s' := ()) trivial (Agree.refl 0 r.wipe) hag1 (by kernel_rfl) hF1 hst1 (hd1.trans hd) (by kernel_rfl) (by kernel_rfl) (by kernel_rfl)
  exact rj_loop hF2 hst2 hd2

noncomputable def TR : CT Try.prog := TQ.addQ 18 (vec2Q fun a b => (joinV a b).av) (by kernel_rfl) fun _ _ _ _ _ h _ r w _ => by
  obtain ⟨a, b, rfl, rfl⟩ := vec2Q_args h
  exact rjoin_run a b r w

end Go.Proofs.Ytobonipmnidadaa

namespace Go.Proofs.Ytobonipmnidadaa
open Go.RowKit
set_option maxRecDepth 8000

theorem vectors_law {a b : Vec} {d : Dot} (hd : d.ok) : CtrQ Try.prog 3 [a.av, b.av, d.av] [] (.b true) := by
  cases h1 : (hasB a d == hasB a d) with
  | false =>
    refine ctrQ_true hmx TR [Dec.s (1011 : Nat) (17 : Nat) false] (AV.tv (TV.one (CV.rig (Value.bool false)))) [d.ok, d.ok, (hasB a d == hasB a d) = false] (by kernel_rfl) (by kernel_rfl) ⟨?_, ?_, h1, trivial⟩ (by kernel_rfl) ?_
    all_goals (
      first
      | exact hd
      | trivial
      | rfl
      | (exfalso; simp at h1; done)
      | (exfalso; simp at h2; done)
      | (simp; done))
  | true =>
    cases h2 : (withinB a b == withinB a b) with
    | false =>
      refine ctrQ_true hmx TR [Dec.s (1011 : Nat) (17 : Nat) true, Dec.s (1020 : Nat) (26 : Nat) false] (AV.tv (TV.one (CV.rig (Value.bool false)))) [d.ok, d.ok, (hasB a d == hasB a d) = true, (withinB a b == withinB a b) = false] (by kernel_rfl) (by kernel_rfl) ⟨?_, ?_, h1, h2, trivial⟩ (by kernel_rfl) ?_
      all_goals (
        first
        | exact hd
        | trivial
        | rfl
        | (exfalso; simp at h1; done)
        | (exfalso; simp at h2; done)
        | (simp; done))
    | true =>
      refine ctrQ_true hmx TR [Dec.s (1011 : Nat) (17 : Nat) true, Dec.s (1020 : Nat) (26 : Nat) true] (AV.tv (TV.one (CV.rig (Value.bool (decide (joinV a b = joinV a b)))))) [d.ok, d.ok, (hasB a d == hasB a d) = true, (withinB a b == withinB a b) = true] (by kernel_rfl) (by kernel_rfl) ⟨?_, ?_, h1, h2, trivial⟩ (by kernel_rfl) ?_
      all_goals (
        first
        | exact hd
        | trivial
        | rfl
        | (exfalso; simp at h1; done)
        | (exfalso; simp at h2; done)
        | (simp; done))


end Go.Proofs.Ytobonipmnidadaa
