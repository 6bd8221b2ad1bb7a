/- The plain model of dots, vectors and events: numbers alone, and how Go holds them. -/
import Derived.WalkKit
namespace Go.Proofs.Ytodcebpdmjdplaa
open Go.RowKit

theorem Below.to {B : Nat} {a w w' : World} (hb : Below w.heap.size w w') (h : Below B a w) (hB : B ≤ w.heap.size) : Below B a w' := h.trans (hb.mono hB)

theorem Below.cells {W w1 : World} (hb : Below W.heap.size W w1) :
    (∀ b o, b < W.heap.size → w1.cell? ⟨b, o, none⟩ = W.cell? ⟨b, o, none⟩) ∧ (∀ b o, b < W.heap.size → w1.frozen? ⟨b, o, none⟩ = W.frozen? ⟨b, o, none⟩) :=
  ⟨fun b o h => hb.cell (p := ⟨b, o, none⟩) h, fun b o h => hb.frozen (p := ⟨b, o, none⟩) h⟩

structure Dot where
  a : Int
  s : Int
  deriving DecidableEq

structure Vec where
  x0 : Int
  x1 : Int
  x2 : Int
  x3 : Int
  x4 : Int
  x5 : Int
  x6 : Int
  x7 : Int
  deriving DecidableEq

def Vec.get (v : Vec) : Nat → Int
  | 0 => v.x0
  | 1 => v.x1
  | 2 => v.x2
  | 3 => v.x3
  | 4 => v.x4
  | 5 => v.x5
  | 6 => v.x6
  | 7 => v.x7
  | _ => 0

structure Ev where
  d : Dot
  p : Vec
  k : Int
  par : Dot
  right : Bool
  ch : Int
  who : Int
  role : Int
  deriving DecidableEq

@[reducible] def Dot.cells (d : Dot) : Array Value := #[.int .u8 d.a, .int .u32 d.s]
@[reducible] def Dot.v (d : Dot) : Value := .agg #[.int .u8 d.a, .int .u32 d.s]
@[reducible] def Vec.cells (v : Vec) : Array Value := #[.int .u32 v.x0, .int .u32 v.x1, .int .u32 v.x2, .int .u32 v.x3, .int .u32 v.x4, .int .u32 v.x5, .int .u32 v.x6, .int .u32 v.x7]
@[reducible] def Vec.v (v : Vec) : Value := .agg #[.int .u32 v.x0, .int .u32 v.x1, .int .u32 v.x2, .int .u32 v.x3, .int .u32 v.x4, .int .u32 v.x5, .int .u32 v.x6, .int .u32 v.x7]
@[reducible] def Ev.cells (e : Ev) : Array Value := #[.int .u8 e.d.a, .int .u32 e.d.s, .int .u32 e.p.x0, .int .u32 e.p.x1, .int .u32 e.p.x2, .int .u32 e.p.x3, .int .u32 e.p.x4, .int .u32 e.p.x5, .int .u32 e.p.x6, .int .u32 e.p.x7,
  .int .u8 e.k, .int .u8 e.par.a, .int .u32 e.par.s, .bool e.right, .int .u8 e.ch, .int .u8 e.who, .int .u8 e.role]
@[reducible] def Ev.v (e : Ev) : Value := .agg #[.int .u8 e.d.a, .int .u32 e.d.s, .int .u32 e.p.x0, .int .u32 e.p.x1, .int .u32 e.p.x2, .int .u32 e.p.x3, .int .u32 e.p.x4, .int .u32 e.p.x5, .int .u32 e.p.x6, .int .u32 e.p.x7,
  .int .u8 e.k, .int .u8 e.par.a, .int .u32 e.par.s, .bool e.right, .int .u8 e.ch, .int .u8 e.who, .int .u8 e.role]

structure Dot.ok (d : Dot) : Prop where
  a0 : 0 ≤ d.a
  a1 : d.a < 256
  s0 : 0 ≤ d.s
  s1 : d.s < 4294967296

structure Vec.ok (v : Vec) : Prop where
  ge : ∀ i, 0 ≤ v.get i
  lt : ∀ i, v.get i < 4294967296

structure Ev.ok (e : Ev) : Prop where
  d : e.d.ok
  p : e.p.ok
  k0 : 0 ≤ e.k
  k1 : e.k < 256
  par : e.par.ok
  ch0 : 0 ≤ e.ch
  ch1 : e.ch < 256
  who0 : 0 ≤ e.who
  who1 : e.who < 256
  role0 : 0 ≤ e.role
  role1 : e.role < 256

/-- Was a dot seen? -/
def hasB (v : Vec) (d : Dot) : Bool := decide (d.a < 8) && decide (d.s ≠ 0) && decide (d.s ≤ v.get d.a.toNat)

theorem vec_at (v : Vec) (n : Nat) (h : n < 8) : (#[.int .u32 v.x0, .int .u32 v.x1, .int .u32 v.x2, .int .u32 v.x3, .int .u32 v.x4, .int .u32 v.x5, .int .u32 v.x6, .int .u32 v.x7] : Array Value)[n]? = some (.int .u32 (v.get n)) := by
  match n, h with
  | 0, _ => rfl
  | 1, _ => rfl
  | 2, _ => rfl
  | 3, _ => rfl
  | 4, _ => rfl
  | 5, _ => rfl
  | 6, _ => rfl
  | 7, _ => rfl

theorem vec_list (v : Vec) (n : Nat) (h : n < [Value.int .u32 v.x0, .int .u32 v.x1, .int .u32 v.x2, .int .u32 v.x3, .int .u32 v.x4, .int .u32 v.x5, .int .u32 v.x6, .int .u32 v.x7].length) :
    [Value.int .u32 v.x0, .int .u32 v.x1, .int .u32 v.x2, .int .u32 v.x3, .int .u32 v.x4, .int .u32 v.x5, .int .u32 v.x6, .int .u32 v.x7][n] = .int .u32 (v.get n) := by
  match n, h with
  | 0, _ => rfl
  | 1, _ => rfl
  | 2, _ => rfl
  | 3, _ => rfl
  | 4, _ => rfl
  | 5, _ => rfl
  | 6, _ => rfl
  | 7, _ => rfl

end Go.Proofs.Ytodcebpdmjdplaa
