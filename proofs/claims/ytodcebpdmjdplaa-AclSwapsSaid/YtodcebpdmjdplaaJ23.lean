/- Both: walked; what follows the two authors, for each pair by itself. -/
import Derived.Test.YtodcebpdmjdplaaJ18
namespace Go.Proofs.Ytodcebpdmjdplaa
open Go.RowKit

def headsC : Code → List Code
  | .seq a b => a :: headsC b
  | c => [c]
noncomputable def boK : List KI := (headsC (bodyOf Try.prog 6)).map KI.code
def E1 (a : Int) : Ev := ⟨⟨0, 1⟩, ⟨0, 0, 0, 0, 0, 0, 0, 0⟩, 3, ⟨0, 0⟩, false, 0, a, 3⟩
def E2 (c : Int) : Ev := ⟨⟨0, 2⟩, ⟨1, 0, 0, 0, 0, 0, 0, 0⟩, 3, ⟨0, 0⟩, false, 0, c, 3⟩
def E3 (a c : Int) : Ev := ⟨⟨a, 1⟩, ⟨2, 0, 0, 0, 0, 0, 0, 0⟩, 4, ⟨0, 0⟩, false, 0, c, 0⟩
def L1 (a : Int) : Bk := (addM [] (E1 a)).2
def L2 (a c : Int) : Bk := (addM (L1 a) (E2 c)).2
def L3 (a c : Int) : Bk := (addM (L2 a c) (E3 a c)).2
def L4 (a c : Int) : Bk := (addM (L3 a c) (E3 c a)).2
def boOb (a c : Int) : List Prop := [True, (∀ p ∈ ([] : Bk), p.1.ok) ∧ (E1 a).ok, (∀ p ∈ L1 a, p.1.ok) ∧ (E2 c).ok, (∀ p ∈ L2 a c, p.1.ok) ∧ (E3 a c).ok, (∀ p ∈ L3 a c, p.1.ok) ∧ (E3 c a).ok, ∀ p ∈ L4 a c, p.1.ok, 0 ≤ a ∧ a < ((8 : Nat) : Int), 0 ≤ c ∧ c < ((8 : Nat) : Int), ∀ p ∈ L4 a c, p.1.ok, 0 ≤ a ∧ a < ((8 : Nat) : Int), 0 ≤ c ∧ c < ((8 : Nat) : Int), 0 ≤ a ∧ a < ((8 : Nat) : Int), 0 ≤ c ∧ c < ((8 : Nat) : Int), (0 : Int) ≤ 0 ∧ (0 : Int) < ((8 : Nat) : Int)]

theorem ev_ok8 {a s n k w ro : Int} (ha : 0 ≤ a ∧ a < 256) (hs : 0 ≤ s ∧ s < 4294967296) (hn : 0 ≤ n ∧ n < 4294967296) (hk : 0 ≤ k ∧ k < 256) (hw : 0 ≤ w ∧ w < 256) (hr : 0 ≤ ro ∧ ro < 256) :
    (⟨⟨a, s⟩, ⟨n, 0, 0, 0, 0, 0, 0, 0⟩, k, ⟨0, 0⟩, false, 0, w, ro⟩ : Ev).ok := by
  have z : (0 : Int) ≤ 0 ∧ (0 : Int) < 4294967296 := by decide
  have y : (0 : Int) ≤ 0 ∧ (0 : Int) < 256 := by decide
  refine ⟨⟨ha.1, ha.2, hs.1, hs.2⟩, vec_ok fun i hi => ?_, hk.1, hk.2, ⟨y.1, y.2, z.1, z.2⟩, y.1, y.2, hw.1, hw.2, hr.1, hr.2⟩
  match i, hi with
  | 0, _ => exact hn
  | 1, _ => exact z
  | 2, _ => exact z
  | 3, _ => exact z
  | 4, _ => exact z
  | 5, _ => exact z
  | 6, _ => exact z
  | 7, _ => exact z

theorem boOb_ok {a c : Int} (ha : 1 ≤ a) (ha7 : a ≤ 7) (hc : 1 ≤ c) (hc7 : c ≤ 7) : Holds (boOb a c) := by
  have e1 : (E1 a).ok := ev_ok8 (a := 0) (s := 1) (n := 0) (k := 3) (w := a) (ro := 3) (by decide) (by decide) (by decide) (by decide) ⟨by omega, by omega⟩ (by decide)
  have e2 : (E2 c).ok := ev_ok8 (a := 0) (s := 2) (n := 1) (k := 3) (w := c) (ro := 3) (by decide) (by decide) (by decide) (by decide) ⟨by omega, by omega⟩ (by decide)
  have e3 : ∀ x y : Int, 1 ≤ x → x ≤ 7 → 1 ≤ y → y ≤ 7 → (E3 x y).ok := fun x y h1 h2 h3 h4 => ev_ok8 (a := x) (s := 1) (n := 2) (k := 4) (w := y) (ro := 0) ⟨by omega, by omega⟩ (by decide) (by decide) (by decide) ⟨by omega, by omega⟩ (by decide)
  have ia : 0 ≤ a ∧ a < ((8 : Nat) : Int) := ⟨by omega, by omega⟩
  have ic : 0 ≤ c ∧ c < ((8 : Nat) : Int) := ⟨by omega, by omega⟩
  have b0 := BkOk.nil
  have b1 := b0.add e1
  have b2 := b1.add e2
  have b3 := b2.add (e3 a c ha ha7 hc hc7)
  have b4 := b3.add (e3 c a hc hc7 ha ha7)
  exact ⟨trivial, ⟨b0.ok, e1⟩, ⟨b1.ok, e2⟩, ⟨b2.ok, e3 a c ha ha7 hc hc7⟩, ⟨b3.ok, e3 c a hc hc7 ha ha7⟩, b4.ok, ia, ic, b4.ok, ia, ic, ia, ic, by decide, trivial⟩

noncomputable def boF (x y : Int) (a c : Int) : AF := ((startF (fnOf Try.prog 6) [.r (.int .u8 x), .r (.int .u8 y)]).set 5 (.r (.int .u8 a))).set 6 (.r (.int .u8 c))
def boR (B : Base) : Ending → World → Prop := fun e w' => e = .returned (.bool true) ∧ ∃ g H, St g H B w'

end Go.Proofs.Ytodcebpdmjdplaa
