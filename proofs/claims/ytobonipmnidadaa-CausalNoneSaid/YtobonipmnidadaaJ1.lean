/- The plain model of dots, vectors and events: numbers alone, and how Go holds them. What the objects of the program hold, as plain data. A symbolic executor for Go's operations, first part: abstract values, abstract memory. How the program's objects lie in memory. The executor, second part: the state that ties what is known of memory to a world. -/
import Derived.WalkKit
import Derived.Deep.MidRow
import Derived.Deep.WholeRow
import Derived.OrdersIn
import Derived.TacticsIn
import Derived.Laws.OwnMore
namespace Go.Proofs.Ytobonipmnidadaa
open Go.RowKit

theorem Below.to {B : Nat} {a w w' : World} (hb : Below w.heap.size w w') (h : Below B a w) (hB : B ≤ w.heap.size) : Below B a w' := h.trans (hb.mono hB)

theorem Below.cells {W w1 : World} (hb : Below W.heap.size W w1) :
    (∀ b o, b < W.heap.size → w1.cell? ⟨b, o, none⟩ = W.cell? ⟨b, o, none⟩) ∧ (∀ b o, b < W.heap.size → w1.frozen? ⟨b, o, none⟩ = W.frozen? ⟨b, o, none⟩) :=
  ⟨fun b o h => hb.cell (p := ⟨b, o, none⟩) h, fun b o h => hb.frozen (p := ⟨b, o, none⟩) h⟩

structure Dot where
  a : Int
  s : Int
  deriving DecidableEq

structure Vec where
  x0 : Int
  x1 : Int
  x2 : Int
  x3 : Int
  x4 : Int
  x5 : Int
  x6 : Int
  x7 : Int
  deriving DecidableEq

def Vec.get (v : Vec) : Nat → Int
  | 0 => v.x0
  | 1 => v.x1
  | 2 => v.x2
  | 3 => v.x3
  | 4 => v.x4
  | 5 => v.x5
  | 6 => v.x6
  | 7 => v.x7
  | _ => 0

structure Ev where
  d : Dot
  p : Vec
  k : Int
  par : Dot
  right : Bool
  ch : Int
  who : Int
  role : Int
  deriving DecidableEq

@[reducible] def Dot.cells (d : Dot) : Array Value := #[.int .u8 d.a, .int .u32 d.s]
@[reducible] def Dot.v (d : Dot) : Value := .agg #[.int .u8 d.a, .int .u32 d.s]
@[reducible] def Vec.cells (v : Vec) : Array Value := #[.int .u32 v.x0, .int .u32 v.x1, .int .u32 v.x2, .int .u32 v.x3, .int .u32 v.x4, .int .u32 v.x5, .int .u32 v.x6, .int .u32 v.x7]
@[reducible] def Vec.v (v : Vec) : Value := .agg #[.int .u32 v.x0, .int .u32 v.x1, .int .u32 v.x2, .int .u32 v.x3, .int .u32 v.x4, .int .u32 v.x5, .int .u32 v.x6, .int .u32 v.x7]
@[reducible] def Ev.cells (e : Ev) : Array Value := #[.int .u8 e.d.a, .int .u32 e.d.s, .int .u32 e.p.x0, .int .u32 e.p.x1, .int .u32 e.p.x2, .int .u32 e.p.x3, .int .u32 e.p.x4, .int .u32 e.p.x5, .int .u32 e.p.x6, .int .u32 e.p.x7,
  .int .u8 e.k, .int .u8 e.par.a, .int .u32 e.par.s, .bool e.right, .int .u8 e.ch, .int .u8 e.who, .int .u8 e.role]
@[reducible] def Ev.v (e : Ev) : Value := .agg #[.int .u8 e.d.a, .int .u32 e.d.s, .int .u32 e.p.x0, .int .u32 e.p.x1, .int .u32 e.p.x2, .int .u32 e.p.x3, .int .u32 e.p.x4, .int .u32 e.p.x5, .int .u32 e.p.x6, .int .u32 e.p.x7,
  .int .u8 e.k, .int .u8 e.par.a, .int .u32 e.par.s, .bool e.right, .int .u8 e.ch, .int .u8 e.who, .int .u8 e.role]

structure Dot.ok (d : Dot) : Prop where
  a0 : 0 ≤ d.a
  a1 : d.a < 256
  s0 : 0 ≤ d.s
  s1 : d.s < 4294967296

structure Vec.ok (v : Vec) : Prop where
  ge : ∀ i, 0 ≤ v.get i
  lt : ∀ i, v.get i < 4294967296

structure Ev.ok (e : Ev) : Prop where
  d : e.d.ok
  p : e.p.ok
  k0 : 0 ≤ e.k
  k1 : e.k < 256
  par : e.par.ok
  ch0 : 0 ≤ e.ch
  ch1 : e.ch < 256
  who0 : 0 ≤ e.who
  who1 : e.who < 256
  role0 : 0 ≤ e.role
  role1 : e.role < 256

/-- Was a dot seen? -/
def hasB (v : Vec) (d : Dot) : Bool := decide (d.a < 8) && decide (d.s ≠ 0) && decide (d.s ≤ v.get d.a.toNat)

theorem vec_at (v : Vec) (n : Nat) (h : n < 8) : (#[.int .u32 v.x0, .int .u32 v.x1, .int .u32 v.x2, .int .u32 v.x3, .int .u32 v.x4, .int .u32 v.x5, .int .u32 v.x6, .int .u32 v.x7] : Array Value)[n]? = some (.int .u32 (v.get n)) := by
  match n, h with
  | 0, _ => rfl
  | 1, _ => rfl
  | 2, _ => rfl
  | 3, _ => rfl
  | 4, _ => rfl
  | 5, _ => rfl
  | 6, _ => rfl
  | 7, _ => rfl

theorem vec_list (v : Vec) (n : Nat) (h : n < [Value.int .u32 v.x0, .int .u32 v.x1, .int .u32 v.x2, .int .u32 v.x3, .int .u32 v.x4, .int .u32 v.x5, .int .u32 v.x6, .int .u32 v.x7].length) :
    [Value.int .u32 v.x0, .int .u32 v.x1, .int .u32 v.x2, .int .u32 v.x3, .int .u32 v.x4, .int .u32 v.x5, .int .u32 v.x6, .int .u32 v.x7][n] = .int .u32 (v.get n) := by
  match n, h with
  | 0, _ => rfl
  | 1, _ => rfl
  | 2, _ => rfl
  | 3, _ => rfl
  | 4, _ => rfl
  | 5, _ => rfl
  | 6, _ => rfl
  | 7, _ => rfl

end Go.Proofs.Ytobonipmnidadaa

namespace Go.Proofs.Ytobonipmnidadaa

/-- What waits, each with the number it was laid with. -/
abbrev Wt := List (Ev × Nat)

/-- What an object holds. -/
inductive X where
  | evs (l : List Ev)
  | bools (l : List Bool)
  | bytes (l : List Int)
  | dots (l : List Dot)
  | aevs (l : List Ev)
  | buf (v : Vec) (m : Int) (E : Wt) (n : Nat)
  | rbuf (v : Vec) (m : Int) (l : List Ev)

end Go.Proofs.Ytobonipmnidadaa

namespace Go.Proofs.Ytobonipmnidadaa
open Go.RowKit

/-- A slice's value. -/
structure SV where
  a : Option Addr
  n : Nat
  c : Nat

def SV.v (s : SV) : Value := .slice s.a s.n s.c
/-- The address of a cell behind a slice's first one. -/
def SV.cellAt (s : SV) (k : Nat) : Addr := match s.a with | some a => ⟨a.block, a.off + k, none⟩ | none => ⟨0, k, none⟩

theorem SV.cellAt_add (s : SV) (k n : Nat) : (s.cellAt k).add n = s.cellAt (k + n) := by
  unfold SV.cellAt Addr.add
  cases s.a <;> simp [Nat.add_assoc] <;> (intro h; subst h; simp)

/-- Numbers and owners: an object's block, a slice's value, who owns a block, what never turns. -/
structure Gh where
  b : Nat → Nat
  s : Nat → SV
  o : Nat → Option Nat
  im : Nat → Prop

/-- No object at all. -/
def Gh.none : Gh := ⟨id, fun _ => ⟨.none, 0, 0⟩, fun _ => .none, fun _ => False⟩

/-- One cell's value: as it is; or an address, a slice, a map, a closure over a block that the run knows by a number of its own; a slice known by its handle, the address of a cell of one. -/
inductive CV where
  | rig (v : Value)
  | ptr (id off : Nat)
  | slc (id off len cap : Nat)
  | mp (id : Nat)
  | clo (f : FuncId) (caps : List (Nat × Nat))
  | sl (h : Nat)
  | el (h i sz off : Nat)

def CV.conc (g : Gh) : CV → Value
  | .rig v => v
  | .ptr i o => .pointer (some ⟨g.b i, o, none⟩)
  | .slc i o n c => .slice (some ⟨g.b i, o, none⟩) n c
  | .mp i => .map (some (g.b i))
  | .clo f caps => .func (.func f) #[] (caps.map fun p => Value.pointer (some ⟨g.b p.1, p.2, none⟩)).toArray
  | .sl h => (g.s h).v
  | .el h i sz off => .pointer (some ((g.s h).cellAt (i * sz + off)))

/-- May it be stored into one cell? -/
def CV.fits : CV → Bool
  | .rig (.agg _) => false
  | .rig (.tuple _) => false
  | _ => true

def CV.sc (n : Nat) : CV → Bool
  | .rig _ => true
  | .ptr i _ => Nat.blt i n
  | .slc i _ _ _ => Nat.blt i n
  | .mp i => Nat.blt i n
  | .clo _ caps => caps.all fun p => Nat.blt p.1 n
  | .sl h => Nat.blt h n
  | .el h _ _ _ => Nat.blt h n

inductive TV where
  | one (c : CV)
  | agg (l : List CV)

def TV.conc (r : Gh) : TV → Value
  | .one c => c.conc r
  | .agg l => .agg (l.map (CV.conc r)).toArray

def TV.cells : TV → List CV
  | .one c => [c]
  | .agg l => l

def TV.fits (t : TV) : Bool := t.cells.all CV.fits
def TV.sc (n : Nat) (t : TV) : Bool := t.cells.all (CV.sc n)

inductive AV where
  | tv (t : TV)
  | tup (l : List TV)

def AV.conc (r : Gh) : AV → Value
  | .tv t => t.conc r
  | .tup l => .tuple (l.map (TV.conc r)).toArray

def AV.sc (n : Nat) : AV → Bool
  | .tv t => t.sc n
  | .tup l => l.all (TV.sc n)

abbrev AV.undef : AV := .tup []
abbrev AV.c (c : CV) : AV := .tv (.one c)
abbrev AV.r (v : Value) : AV := .tv (.one (.rig v))
abbrev AV.b (x : Bool) : AV := .tv (.one (.rig (.bool x)))

/-- A block; an object, known by what it holds, a handle to it (for a slice); nothing but a handle. -/
inductive AO where
  | cells (cs : List CV) (t : TypeId)
  | raw (o : Obj)
  | abs (h : Nat) (x : X)
  | hand

def AO.sc (n : Nat) : AO → Bool
  | .cells cs _ => cs.all (CV.sc n)
  | .raw _ => true
  | .abs h _ => Nat.blt h n
  | .hand => true

/-- Objects with a flag: 0: only read · else: may be written. -/
abbrev AH := List (AO × Nat)

/-- Two numberings agree on the first so many. -/
structure Agree (n : Nat) (r r' : Gh) : Prop where
  b : ∀ i, i < n → r'.b i = r.b i
  s : ∀ i, i < n → r'.s i = r.s i

theorem Agree.refl (n : Nat) (r : Gh) : Agree n r r := ⟨fun _ _ => rfl, fun _ _ => rfl⟩
theorem Agree.trans {n m : Nat} {r r' r'' : Gh} (h : Agree n r r') (h' : Agree m r' r'') (hm : n ≤ m) : Agree n r r'' :=
  ⟨fun i hi => (h'.b i (by omega)).trans (h.b i hi), fun i hi => (h'.s i (by omega)).trans (h.s i hi)⟩
theorem Agree.mono {n m : Nat} {r r' : Gh} (h : Agree n r r') (hm : m ≤ n) : Agree m r r' := ⟨fun i hi => h.b i (by omega), fun i hi => h.s i (by omega)⟩
theorem Agree.at {n : Nat} {r r' : Gh} (h : Agree n r r') (i : Nat) (hi : Nat.blt i n = true) : r'.b i = r.b i := h.b i (by simpa using hi)

theorem CV.conc_agree {n : Nat} {r r' : Gh} (h : Agree n r r') {c : CV} (hc : c.sc n = true) : c.conc r' = c.conc r := by
  cases c with
  | rig v => rfl
  | ptr i o => simp only [CV.sc, Nat.blt_eq] at hc; simp [CV.conc, h.b i hc]
  | slc i o n c => simp only [CV.sc, Nat.blt_eq] at hc; simp [CV.conc, h.b i hc]
  | mp i => simp only [CV.sc, Nat.blt_eq] at hc; simp [CV.conc, h.b i hc]
  | clo f caps =>
    simp only [CV.sc, List.all_eq_true, Nat.blt_eq] at hc
    simp only [CV.conc]
    congr 2
    exact List.map_congr_left fun p hp => by rw [h.b p.1 (hc p hp)]
  | sl i => simp only [CV.sc, Nat.blt_eq] at hc; simp [CV.conc, h.s i hc]
  | el i k z o => simp only [CV.sc, Nat.blt_eq] at hc; simp [CV.conc, h.s i hc]

theorem CV.map_agree {n : Nat} {r r' : Gh} (h : Agree n r r') {l : List CV} (hl : l.all (CV.sc n) = true) : l.map (CV.conc r') = l.map (CV.conc r) :=
  List.map_congr_left fun c hc => CV.conc_agree h (List.all_eq_true.1 hl c hc)

theorem TV.conc_agree {n : Nat} {r r' : Gh} (h : Agree n r r') {t : TV} (ht : t.sc n = true) : t.conc r' = t.conc r := by
  cases t with
  | one c => exact CV.conc_agree h (by simpa [TV.sc, TV.cells] using ht)
  | agg l => simp only [TV.conc]; rw [CV.map_agree h (by simpa [TV.sc, TV.cells] using ht)]

theorem AV.conc_agree {n : Nat} {r r' : Gh} (h : Agree n r r') {v : AV} (hv : v.sc n = true) : v.conc r' = v.conc r := by
  cases v with
  | tv t => exact TV.conc_agree h hv
  | tup l =>
    simp only [AV.conc]
    rw [List.map_congr_left fun t ht => TV.conc_agree h (List.all_eq_true.1 hv t ht)]

theorem CV.sc_mono {n m : Nat} (h : n ≤ m) {c : CV} (hc : c.sc n = true) : c.sc m = true := by
  cases c <;> simp_all [CV.sc] <;> first | omega | (intro a b hab; have := hc a b hab; omega)
theorem TV.sc_mono {n m : Nat} (h : n ≤ m) {t : TV} (ht : t.sc n = true) : t.sc m = true := by
  simp only [TV.sc, List.all_eq_true] at *
  exact fun c hcm => CV.sc_mono h (ht c hcm)
theorem AV.sc_mono {n m : Nat} (h : n ≤ m) {v : AV} (hv : v.sc n = true) : v.sc m = true := by
  cases v with
  | tv t => exact TV.sc_mono h hv
  | tup l => simp only [AV.sc, List.all_eq_true] at *; exact fun t htm => TV.sc_mono h (hv t htm)
theorem AV.sc_undef (n : Nat) : AV.undef.sc n = true := rfl

/-! ### Lists that slices hold -/
/-- Data of a fixed number of cells. -/
class Elt (α : Type) where
  sz : Nat
  cells : α → List Value
  zero : α
  of : List CV → Option α
  len : ∀ a, (cells a).length = sz
  one : ∀ a, ∀ v ∈ cells a, v.oneCell' = true
  of_eq : ∀ {l a}, of l = some a → l = (cells a).map .rig
  pos : 0 < sz

/-- A slice's value holds a list; whose the block is. -/
def LstRep {α : Type} [Elt α] (e : TypeId) (l : List α) (w : World) (s : SV) (own : Nat → Prop) : Prop :=
  w.ownsRow 0 e (Elt.sz α) s.v l.length (l.flatMap Elt.cells) ∧ ∀ k, s.v.ownBlock = some k → own k

theorem LstRep.local {α : Type} [Elt α] {e : TypeId} {l : List α} {w w' : World} {s : SV} {own own' : Nat → Prop} (h : LstRep e l w s own) (ho : ∀ b, own b → own' b) (hl : ∀ b, own b → w'.heap[b]? = w.heap[b]?) : LstRep e l w' s own' := by
  refine ⟨⟨h.1.1, ?_⟩, fun k hk => ho k (h.2 k hk)⟩
  rcases h.1.2 with h1 | ⟨g, cap, cur, h1, h2, h3, h4⟩
  · exact .inl h1
  · refine .inr ⟨g, cap, cur, h1, h2, ?_, h4⟩
    rw [hl g (h.2 g (by rw [h1]; rfl))]
    exact h3

/-- A list that came in: only read; its cells lie where nothing turns. -/
def ARep {α : Type} [Elt α] (l : List α) (w : World) (s : SV) (im : Nat → Prop) : Prop :=
  s.n = l.length ∧ ∀ i, i < l.length → ∃ g off, s.a = some ⟨g, off, none⟩ ∧ im g ∧ ∀ j, j < Elt.sz α → w.cell? ⟨g, off + (i * Elt.sz α + j), none⟩ = (Elt.cells (l.getD i Elt.zero))[j]?

theorem ARep.local {α : Type} [Elt α] {l : List α} {w w' : World} {s : SV} {im im' : Nat → Prop} (h : ARep l w s im) (hi : ∀ b, im b → im' b) (hl : ∀ b, im b → w'.heap[b]? = w.heap[b]?) : ARep l w' s im' := by
  refine ⟨h.1, fun i hil => ?_⟩
  obtain ⟨g, off, h1, h2, h3⟩ := h.2 i hil
  refine ⟨g, off, h1, hi g h2, fun j hj => ?_⟩
  rw [← h3 j hj]
  simp only [World.cell?, hl g h2]

end Go.Proofs.Ytobonipmnidadaa

namespace Go.Proofs.Ytobonipmnidadaa
open Go.RowKit

/-! ### Dots, vectors, events as cells -/
def Dot.cvs (d : Dot) : List CV := [.rig (.int .u8 d.a), .rig (.int .u32 d.s)]
def Vec.cvs (v : Vec) : List CV := [.rig (.int .u32 v.x0), .rig (.int .u32 v.x1), .rig (.int .u32 v.x2), .rig (.int .u32 v.x3), .rig (.int .u32 v.x4), .rig (.int .u32 v.x5), .rig (.int .u32 v.x6), .rig (.int .u32 v.x7)]
def Ev.cvs (e : Ev) : List CV := [.rig (.int .u8 e.d.a), .rig (.int .u32 e.d.s), .rig (.int .u32 e.p.x0), .rig (.int .u32 e.p.x1), .rig (.int .u32 e.p.x2), .rig (.int .u32 e.p.x3), .rig (.int .u32 e.p.x4), .rig (.int .u32 e.p.x5), .rig (.int .u32 e.p.x6), .rig (.int .u32 e.p.x7),
  .rig (.int .u8 e.k), .rig (.int .u8 e.par.a), .rig (.int .u32 e.par.s), .rig (.bool e.right), .rig (.int .u8 e.ch), .rig (.int .u8 e.who), .rig (.int .u8 e.role)]
def Dot.av (d : Dot) : AV := .tv (.agg [.rig (.int .u8 d.a), .rig (.int .u32 d.s)])
def Vec.av (v : Vec) : AV := .tv (.agg [.rig (.int .u32 v.x0), .rig (.int .u32 v.x1), .rig (.int .u32 v.x2), .rig (.int .u32 v.x3), .rig (.int .u32 v.x4), .rig (.int .u32 v.x5), .rig (.int .u32 v.x6), .rig (.int .u32 v.x7)])
def Ev.av (e : Ev) : AV := .tv (.agg e.cvs)

def dotOf : List CV → Option Dot
  | [.rig (.int .u8 a), .rig (.int .u32 s)] => some ⟨a, s⟩
  | _ => none
theorem dotOf_eq {l : List CV} {d : Dot} (h : dotOf l = some d) : l = d.cvs := by
  unfold dotOf at h; split at h <;> simp at h; subst h; rfl
def vecOf : List CV → Option Vec
  | [.rig (.int .u32 a), .rig (.int .u32 b), .rig (.int .u32 c), .rig (.int .u32 d), .rig (.int .u32 e), .rig (.int .u32 f), .rig (.int .u32 g), .rig (.int .u32 h)] => some ⟨a, b, c, d, e, f, g, h⟩
  | _ => none
theorem vecOf_eq {l : List CV} {v : Vec} (h : vecOf l = some v) : l = v.cvs := by
  unfold vecOf at h; split at h <;> simp at h; subst h; rfl
def evOf : List CV → Option Ev
  | [.rig (.int .u8 a), .rig (.int .u32 s), .rig (.int .u32 p0), .rig (.int .u32 p1), .rig (.int .u32 p2), .rig (.int .u32 p3), .rig (.int .u32 p4), .rig (.int .u32 p5), .rig (.int .u32 p6), .rig (.int .u32 p7),
      .rig (.int .u8 k), .rig (.int .u8 pa), .rig (.int .u32 ps), .rig (.bool r), .rig (.int .u8 c), .rig (.int .u8 wh), .rig (.int .u8 ro)] => some ⟨⟨a, s⟩, ⟨p0, p1, p2, p3, p4, p5, p6, p7⟩, k, ⟨pa, ps⟩, r, c, wh, ro⟩
  | _ => none
theorem evOf_eq {l : List CV} {e : Ev} (h : evOf l = some e) : l = e.cvs := by
  unfold evOf at h; split at h <;> simp at h; subst h; rfl
def zeroEv : Ev := ⟨⟨0, 0⟩, ⟨0, 0, 0, 0, 0, 0, 0, 0⟩, 0, ⟨0, 0⟩, false, 0, 0, 0⟩

/-! ### What slices hold -/
instance : Elt Ev := ⟨17, fun e => e.cells.toList, zeroEv, evOf, fun _ => rfl, fun e v hv => by
  simp only [List.mem_cons, List.not_mem_nil, or_false] at hv
  rcases hv with rfl | rfl | rfl | rfl | rfl | rfl | rfl | rfl | rfl | rfl | rfl | rfl | rfl | rfl | rfl | rfl | rfl <;> rfl, fun h => evOf_eq h, by omega⟩
instance : Elt Dot := ⟨2, fun d => d.cells.toList, ⟨0, 0⟩, dotOf, fun _ => rfl, fun e v hv => by
  simp only [List.mem_cons, List.not_mem_nil, or_false] at hv
  rcases hv with rfl | rfl <;> rfl, fun h => dotOf_eq h, by omega⟩
def boolsOf : List CV → Option Bool
  | [.rig (.bool b)] => some b
  | _ => none
instance : Elt Bool := ⟨1, fun b => [.bool b], false, boolsOf, fun _ => rfl, fun e v hv => by
  simp only [List.mem_cons, List.not_mem_nil, or_false] at hv
  subst hv; rfl, fun {l a} h => by unfold boolsOf at h; split at h <;> simp at h; subst h; rfl, by omega⟩
def byteOf : List CV → Option Int
  | [.rig (.int .u8 n)] => some n
  | _ => none
instance : Elt Int := ⟨1, fun n => [.int .u8 n], 0, byteOf, fun _ => rfl, fun e v hv => by
  simp only [List.mem_cons, List.not_mem_nil, or_false] at hv
  subst hv; rfl, fun {l a} h => by unfold byteOf at h; split at h <;> simp at h; subst h; rfl, by omega⟩

/-! ### The map of what waits -/
def entM (p : Ev × Nat) : MapEntry := { key := p.1.d.v, val := p.1.v, born := p.2 }
def esOf (E : Wt) : Array MapEntry := (E.map entM).toArray
def mapO (E : Wt) (n : Nat) : Obj := .map (esOf E) n

/-! ### Objects -/
def prim : X → World → SV → (Nat → Prop) → (Nat → Prop) → Prop
  | .evs l, w, s, own, _ => LstRep 37 l w s own
  | .bools l, w, s, own, _ => LstRep 4 l w s own
  | .bytes l, w, s, own, _ => LstRep 5 l w s own
  | .dots l, w, s, own, _ => LstRep 26 l w s own
  | .aevs l, w, s, _, im => ARep l w s im
  | _, _, _, _, _ => False

def bufH (v : Vec) (m : Int) (E : Wt) (n : Nat) : AH := [(.cells (v.cvs ++ [.rig (.int .i64 m), .mp 1]) 62, 2), (.raw (mapO E n), 2)]
def rbufH (v : Vec) (m : Int) (l : List Ev) : AH := [(.cells (v.cvs ++ [.rig (.int .i64 m), .sl 1]) 71, 2), (.abs 1 (.evs l), 2)]

def shape : X → Option AH
  | .buf v m E n => some (bufH v m E n)
  | .rbuf v m l => some (rbufH v m l)
  | _ => none

theorem prim.local {x : X} {w w' : World} {s : SV} {own own' im im' : Nat → Prop} (h : prim x w s own im) (ho : ∀ b, own b → own' b) (hi : ∀ b, im b → im' b) (hl : ∀ b, own b ∨ im b → w'.heap[b]? = w.heap[b]?) : prim x w' s own' im' := by
  cases x <;> first | exact h.elim | exact LstRep.local h ho fun b hb => hl b (.inl hb) | exact ARep.local h hi fun b hb => hl b (.inr hb)

end Go.Proofs.Ytobonipmnidadaa

namespace Go.Proofs.Ytobonipmnidadaa
open Go.RowKit

/-- An object lies there: as its kind says, or by its parts, each with blocks of its own. -/
inductive Rp : X → World → Nat → SV → (Nat → Prop) → (Nat → Prop) → Prop
  | prim {x : X} {w : World} {root : Nat} {s : SV} {own im : Nat → Prop} (h : prim x w s own im) : Rp x w root s own im
  | comp {x : X} {w : World} {root : Nat} {s : SV} {own im : Nat → Prop} (H : AH) (g : Gh) (hs : shape x = some H) (hr : g.b 0 = root)
      (ho : ∀ b i, g.o b = some i → own b ∧ i < H.length ∧ b < w.heap.size) (hi : ∀ b, g.im b → im b ∧ g.o b = none ∧ b < w.heap.size)
      (hc : ∀ i cs t f, H[i]? = some (.cells cs t, f) → w.heap[g.b i]? = some (.cells (cs.map (CV.conc g)).toArray t (0, 0)) ∧ ∀ b, g.o b = some i ↔ b = g.b i)
      (hw : ∀ i o f, H[i]? = some (.raw o, f) → w.heap[g.b i]? = some o ∧ ∀ b, g.o b = some i ↔ b = g.b i)
      (ha : ∀ i h y f, H[i]? = some (.abs h y, f) → Rp y w (g.b i) (g.s h) (fun b => g.o b = some i) g.im)
      (hh : ∀ i f, H[i]? = some (.hand, f) → ∀ b, g.o b ≠ some i) : Rp x w root s own im

theorem size_of_same {w w' : World} {b : Nat} (h : w'.heap[b]? = w.heap[b]?) (hb : b < w.heap.size) : b < w'.heap.size := by
  rw [Array.getElem?_eq_getElem hb] at h
  exact (Array.getElem?_eq_some_iff.1 h).1

theorem Rp.local {x : X} {w w' : World} {root : Nat} {s : SV} {own own' im im' : Nat → Prop} (h : Rp x w root s own im) (ho : ∀ b, own b → own' b) (hi : ∀ b, im b → im' b) (hl : ∀ b, own b ∨ im b → w'.heap[b]? = w.heap[b]?) : Rp x w' root s own' im' := by
  induction h generalizing own' im' with
  | prim h => exact .prim (h.local ho hi hl)
  | comp H g hs hr hoo hii hc hw ha hh ih =>
    refine .comp H g hs hr (fun b i hb => ?_) (fun b hb => ?_) (fun i cs t f hx => ?_) (fun i o f hx => ?_) (fun i h y f hx => ?_) hh
    · obtain ⟨h1, h2, h3⟩ := hoo b i hb
      exact ⟨ho b h1, h2, size_of_same (hl b (.inl h1)) h3⟩
    · obtain ⟨h1, h2, h3⟩ := hii b hb
      exact ⟨hi b h1, h2, size_of_same (hl b (.inr h1)) h3⟩
    · obtain ⟨h1, h2⟩ := hc i cs t f hx
      exact ⟨(hl _ (.inl (hoo _ i ((h2 _).2 rfl)).1)).trans h1, h2⟩
    · obtain ⟨h1, h2⟩ := hw i o f hx
      exact ⟨(hl _ (.inl (hoo _ i ((h2 _).2 rfl)).1)).trans h1, h2⟩
    · refine ih i h y f hx (fun _ hb => hb) (fun _ hb => hb) fun b hb => ?_
      rcases hb with hb | hb
      · exact hl b (.inl (hoo b i hb).1)
      · exact hl b (.inr (hii b hb).1)

def AO.blk : AO → Bool
  | .cells _ _ => true
  | .raw _ => true
  | _ => false

def AO.conc (r : Gh) : AO → Obj
  | .cells cs t => .cells (cs.map (CV.conc r)).toArray t (0, 0)
  | .raw o => o
  | _ => default

def AO.holds (r : Gh) (w : World) (i : Nat) : AO → Prop
  | .cells cs t => w.heap[r.b i]? = some (.cells (cs.map (CV.conc r)).toArray t (0, 0)) ∧ ∀ b, r.o b = some i ↔ b = r.b i
  | .raw o => w.heap[r.b i]? = some o ∧ ∀ b, r.o b = some i ↔ b = r.b i
  | .abs h x => Rp x w (r.b i) (r.s h) (fun b => r.o b = some i) r.im
  | .hand => ∀ b, r.o b ≠ some i

theorem AO.holds_blk {r : Gh} {w : World} {i : Nat} {o : AO} (hb : o.blk = true) : o.holds r w i ↔ w.heap[r.b i]? = some (o.conc r) ∧ ∀ b, r.o b = some i ↔ b = r.b i := by
  cases o <;> first | rfl | simp [AO.blk] at hb

theorem AO.conc_agree {n : Nat} {r r' : Gh} (h : Agree n r r') {o : AO} (ho : o.sc n = true) : o.conc r' = o.conc r := by
  cases o with
  | cells cs t => simp only [AO.conc]; rw [CV.map_agree h ho]
  | raw o => rfl
  | abs h x => rfl
  | hand => rfl

theorem AO.holds.move {n : Nat} {r r' : Gh} {w w' : World} {i : Nat} {o : AO} (h : o.holds r w i) (hag : Agree n r r') (hi : i < n) (hsc : o.sc n = true) (ho : ∀ b, r'.o b = some i ↔ r.o b = some i) (him : ∀ b, r.im b → r'.im b)
    (hfr : ∀ b, r.o b = some i ∨ r.im b → w'.heap[b]? = w.heap[b]?) : o.holds r' w' i := by
  have hb : r'.b i = r.b i := hag.b i hi
  have blk : o.blk = true → o.holds r' w' i := fun hblk => by
    rw [AO.holds_blk hblk] at h ⊢
    rw [AO.conc_agree hag hsc, hb, hfr _ (.inl ((h.2 _).2 rfl))]
    exact ⟨h.1, fun b => (ho b).trans (h.2 b)⟩
  cases o with
  | cells cs t => exact blk rfl
  | raw o => exact blk rfl
  | abs k x =>
    simp only [AO.holds] at h ⊢
    rw [hb, hag.s k (by simpa [AO.sc] using hsc)]
    exact h.local (fun b hb => (ho b).2 hb) him hfr
  | hand => exact fun b hb' => h b ((ho b).1 hb')

/-- A block of cells lies there. -/
def isCB (w : World) (b : Nat) : Prop := ∃ c t f, w.heap[b]? = some (.cells c t f)
theorem isCB.same {w w' : World} {b : Nat} (h : isCB w b) (e : w'.heap[b]? = w.heap[b]?) : isCB w' b := by
  obtain ⟨c, t, f, h1⟩ := h; exact ⟨c, t, f, e.trans h1⟩

structure ObjsOk (r : Gh) (H : AH) (w : World) : Prop where
  at_ : ∀ (i : Nat) (x : AO × Nat), H[i]? = some x → x.1.holds r w i
  ow : ∀ b i, r.o b = some i → i < H.length ∧ b < w.heap.size
  imm : ∀ b, r.im b → r.o b = none ∧ b < w.heap.size
  imc : ∀ b, r.im b → isCB w b

/-- Where a run began: the world, the blocks of it that may turn, whose the others are, those that never turn. -/
structure Base where
  w : World
  Z : Nat → Prop
  R : Nat → Nat → Prop
  im : Nat → Prop

structure St (r : Gh) (H : AH) (W0 : Base) (w : World) : Prop where
  hold : ObjsOk r H w
  wr : ∀ (b i : Nat) (x : AO × Nat), r.o b = some i → H[i]? = some x → x.2 ≠ 0 → W0.w.heap.size ≤ b ∨ W0.Z b
  ob : ∀ (b i : Nat), r.o b = some i → W0.w.heap.size ≤ b ∨ W0.Z b ∨ W0.R b i
  im0 : ∀ b, W0.im b → r.im b
  im1 : ∀ b, r.im b → W0.im b ∨ W0.w.heap.size ≤ b
  os : w.os = W0.w.os
  tape : w.tape = W0.w.tape
  output : w.output = W0.w.output
  size : W0.w.heap.size ≤ w.heap.size
  frame : ∀ b, b < W0.w.heap.size → ¬ W0.Z b → w.heap[b]? = W0.w.heap[b]?

def AH.scB (H : AH) : Bool := H.all fun x => x.1.sc H.length

theorem St.at_ {r : Gh} {H : AH} {W0 : Base} {w : World} (h : St r H W0 w) : ∀ (i : Nat) (x : AO × Nat), H[i]? = some x → x.1.holds r w i := h.hold.at_
theorem St.blk {r : Gh} {H : AH} {W0 : Base} {w : World} (h : St r H W0 w) {i : Nat} {x : AO × Nat} (hx : H[i]? = some x) (hb : x.1.blk = true) : w.heap[r.b i]? = some (x.1.conc r) := ((AO.holds_blk hb).1 (h.at_ i x hx)).1
theorem St.ownB {r : Gh} {H : AH} {W0 : Base} {w : World} (h : St r H W0 w) {i : Nat} {x : AO × Nat} (hx : H[i]? = some x) (hb : x.1.blk = true) : ∀ b, r.o b = some i ↔ b = r.b i := ((AO.holds_blk hb).1 (h.at_ i x hx)).2
theorem St.lt {r : Gh} {H : AH} {W0 : Base} {w : World} (h : St r H W0 w) {i : Nat} {x : AO × Nat} (hx : H[i]? = some x) (hb : x.1.blk = true) : r.b i < w.heap.size := (Array.getElem?_eq_some_iff.1 (h.blk hx hb)).1
theorem St.none_ge {r : Gh} {H : AH} {W0 : Base} {w : World} (h : St r H W0 w) {b : Nat} (hb : w.heap.size ≤ b) : r.o b = none := by
  cases ho : r.o b with
  | none => rfl
  | some i => have := (h.hold.ow b i ho).2; omega

/-- The whole of what may become of a state. -/
theorem St.change {r r' : Gh} {H H' : AH} {W0 : Base} {w w' : World} (h : St r H W0 w) (hag : Agree H.length r r') (hsc : H.scB = true) (upd : Nat → Prop)
    (hsame : ∀ (i : Nat) (x : AO × Nat), H'[i]? = some x → ¬ upd i → H[i]? = some x) (hnew : ∀ (i : Nat) (x : AO × Nat), H'[i]? = some x → upd i → x.1.holds r' w' i)
    (ho : ∀ b i, ¬ upd i → (r'.o b = some i ↔ r.o b = some i)) (hwr : ∀ (b i : Nat) (x : AO × Nat), r'.o b = some i → upd i → H'[i]? = some x → x.2 ≠ 0 → W0.w.heap.size ≤ b ∨ W0.Z b)
    (hob : ∀ b i, r'.o b = some i → upd i → W0.w.heap.size ≤ b ∨ W0.Z b ∨ W0.R b i)
    (hin : ∀ b i, r'.o b = some i → i < H'.length ∧ b < w'.heap.size) (him : ∀ b, r.im b → r'.im b) (him1 : ∀ b, r'.im b → r.im b ∨ W0.w.heap.size ≤ b) (him2 : ∀ b, r'.im b → r'.o b = none ∧ b < w'.heap.size) (him3 : ∀ b, r'.im b → r.im b ∨ isCB w' b)
    (hfr : ∀ b, (∃ i, r.o b = some i ∧ ¬ upd i) ∨ r.im b → w'.heap[b]? = w.heap[b]?) (hf0 : ∀ b, b < W0.w.heap.size → ¬ W0.Z b → w'.heap[b]? = w.heap[b]?)
    (hos : w'.os = w.os) (ht : w'.tape = w.tape) (hout : w'.output = w.output) (hsz : w.heap.size ≤ w'.heap.size) : St r' H' W0 w' := by
  refine ⟨⟨fun i x hx => ?_, hin, him2, fun b hb => (him3 b hb).elim (fun h1 => (h.hold.imc b h1).same (hfr b (.inr h1))) fun h1 => h1⟩, fun b i x hb hx hf => ?_, fun b i hb => ?_, fun b hb => him b (h.im0 b hb), fun b hb => ?_, hos.trans h.os, ht.trans h.tape, hout.trans h.output, Nat.le_trans h.size hsz, fun b hb hz => (hf0 b hb hz).trans (h.frame b hb hz)⟩
  · by_cases hu : upd i
    · exact hnew i x hx hu
    · have hx' := hsame i x hx hu
      have hi := (List.getElem?_eq_some_iff.1 hx').1
      refine (h.at_ i x hx').move hag hi (List.all_eq_true.1 hsc x (List.mem_of_getElem? hx')) (fun b => ho b i hu) him fun b hb => hfr b ?_
      rcases hb with hb | hb
      · exact .inl ⟨i, hb, hu⟩
      · exact .inr hb
  · by_cases hu : upd i
    · exact hwr b i x hb hu hx hf
    · exact h.wr b i x ((ho b i hu).1 hb) (hsame i x hx hu) hf
  · by_cases hu : upd i
    · exact hob b i hb hu
    · exact h.ob b i ((ho b i hu).1 hb)
  · rcases him1 b hb with h1 | h1
    · exact h.im1 b h1
    · exact .inr h1

/-! ### A new block, a block written -/
/-- The numbering behind a new block. -/
def bump (r : Gh) (n b : Nat) : Gh := ⟨fun i => if i = n then b else r.b i, r.s, fun x => if x = b then some n else r.o x, r.im⟩
theorem bump_agree (r : Gh) (n b : Nat) : Agree n r (bump r n b) := ⟨fun i hi => by simp [bump]; omega, fun _ _ => rfl⟩

theorem getElem?_snoc {α : Type} (l : List α) (x : α) (i : Nat) : (l ++ [x])[i]? = if i = l.length then some x else l[i]? := by
  rw [List.getElem?_append]
  split
  · rw [if_neg (by omega)]
  · by_cases h : i = l.length
    · subst h; simp
    · rw [if_neg h, List.getElem?_eq_none (l := l) (by omega), List.getElem?_eq_none (by simp; omega)]

/-- A new block at the heap's end. -/
theorem St.alloc {r : Gh} {H : AH} {W0 : Base} {w : World} (h : St r H W0 w) (hsc : H.scB = true) (o : AO) (hbl : o.blk = true) (o' : Obj) (ho : o.conc (bump r H.length w.heap.size) = o') :
    St (bump r H.length w.heap.size) (H ++ [(o, 1)]) W0 (w.alloc o') := by
  have hag := bump_agree r H.length w.heap.size
  have hnone := h.none_ge (Nat.le_refl w.heap.size)
  have hsz := h.size
  refine h.change hag hsc (fun i => i = H.length) (fun i x hx hu => ?_) (fun i x hx hu => ?_) (fun b i hu => ?_) (fun b i x hb hu hx hf => ?_) (fun b i hb hu => ?_) (fun b i hb => ?_) (fun b hb => hb) (fun b hb => .inl hb) (fun b hb => ?_) (fun b hb => .inl hb) (fun b hb => ?_) (fun b hb hz => ?_) rfl rfl rfl (by simp)
  · rw [getElem?_snoc, if_neg hu] at hx; exact hx
  · subst hu
    rw [getElem?_snoc, if_pos rfl] at hx
    cases hx
    rw [AO.holds_blk hbl, ho]
    simp only [bump, if_true]
    refine ⟨heap_alloc_last _ _, fun b => ?_⟩
    by_cases e : b = w.heap.size
    · simp [e]
    · simp only [e, if_false, iff_false]
      intro hb
      have := (h.hold.ow b _ hb).1; omega
  · simp only [bump]
    by_cases e : b = w.heap.size
    · rw [if_pos e, e, hnone]; simp; omega
    · rw [if_neg e]
  · subst hu
    simp only [bump] at hb
    by_cases e : b = w.heap.size
    · left; omega
    · rw [if_neg e] at hb
      have := (h.hold.ow b _ hb).1; omega
  · subst hu
    simp only [bump] at hb
    by_cases e : b = w.heap.size
    · left; omega
    · rw [if_neg e] at hb
      have := (h.hold.ow b _ hb).1; omega
  · simp only [bump] at hb
    by_cases e : b = w.heap.size
    · rw [if_pos e] at hb; cases hb; simp [e]
    · rw [if_neg e] at hb
      have := h.hold.ow b i hb
      simp; omega
  · have := h.hold.imm b hb
    simp only [bump]
    rw [if_neg (by omega)]
    exact ⟨this.1, by simp; omega⟩
  · refine Below.heap_alloc _ _ _ ?_
    rcases hb with ⟨i, hb, _⟩ | hb
    · exact (h.hold.ow b i hb).2
    · exact (h.hold.imm b hb).2
  · exact Below.heap_alloc _ _ _ (by omega)

theorem getElem?_setL {α : Type} {l : List α} {i j : Nat} {x y : α} (h : (l.set i x)[j]? = some y) : (j = i ∧ y = x) ∨ (j ≠ i ∧ l[j]? = some y) := by
  rw [List.getElem?_set] at h
  by_cases e : i = j
  · subst e
    rw [if_pos rfl] at h
    split at h
    · cases h; exact .inl ⟨rfl, rfl⟩
    · cases h
  · rw [if_neg e] at h
    exact .inr ⟨fun x => e x.symm, h⟩

/-- A block of ours turned. -/
theorem St.turn {r : Gh} {H : AH} {W0 : Base} {w w' : World} (h : St r H W0 w) (hsc : H.scB = true) {i : Nat} {x : AO × Nat} (hx : H[i]? = some x) (hxb : x.1.blk = true) (o : AO) (hob : o.blk = true)
    (h1 : w'.heap[r.b i]? = some (o.conc r)) (h2 : ∀ b, b ≠ r.b i → w'.heap[b]? = w.heap[b]?) (h3 : w'.os = w.os) (h4 : w'.tape = w.tape) (h5 : w'.output = w.output) (h6 : w'.heap.size = w.heap.size)
    (hfl : x.2 ≠ 0) : St r (H.set i (o, x.2)) W0 w' := by
  have hown := h.ownB hx hxb
  have hz := h.wr _ i x ((hown _).2 rfl) hx hfl
  refine h.change (Agree.refl _ _) hsc (fun j => j = i) (fun j y hy hu => ?_) (fun j y hy hu => ?_) (fun b j hu => Iff.rfl) (fun b j y hb hu hy hf => ?_) (fun b j hb _ => h.ob b j hb) (fun b j hb => ?_) (fun b hb => hb) (fun b hb => .inl hb) (fun b hb => ?_) (fun b hb => .inl hb) (fun b hb => ?_) (fun b hb hzb => ?_) h3 h4 h5 (by omega)
  · rcases getElem?_setL hy with ⟨e, _⟩ | ⟨_, e⟩
    · exact absurd e hu
    · exact e
  · subst hu
    rcases getElem?_setL hy with ⟨_, rfl⟩ | ⟨e, _⟩
    · rw [AO.holds_blk hob]
      exact ⟨h1, hown⟩
    · exact absurd rfl e
  · subst hu
    rw [(hown b).1 hb]; exact hz
  · have := h.hold.ow b j hb
    simp; omega
  · have := h.hold.imm b hb
    exact ⟨this.1, by omega⟩
  · refine h2 b fun e => ?_
    rcases hb with ⟨j, hb, hu⟩ | hb
    · rw [e, (hown _).2 rfl] at hb; cases hb; exact hu rfl
    · have := (h.hold.imm b hb).1; rw [e, (hown _).2 rfl] at this; cases this
  · refine h2 b fun e => ?_
    rcases hz with hz | hz
    · omega
    · rw [e] at hzb; exact hzb hz

/-- Whatever turns beyond what is known is no matter. -/
theorem St.abide {r : Gh} {H : AH} {W0 : Base} {w w' : World} (h : St r H W0 w) (hb : ∀ b, b < w.heap.size → (∃ i, r.o b = some i) ∨ r.im b ∨ (b < W0.w.heap.size ∧ ¬ W0.Z b) → w'.heap[b]? = w.heap[b]?)
    (hos : w'.os = w.os) (ht : w'.tape = w.tape) (hout : w'.output = w.output) (hsz : w.heap.size ≤ w'.heap.size) : St r H W0 w' := by
  have hfr : ∀ b, (∃ i, r.o b = some i) ∨ r.im b → w'.heap[b]? = w.heap[b]? := fun b hc => by
    rcases hc with ⟨i, hc⟩ | hc
    · exact hb b (h.hold.ow b i hc).2 (.inl ⟨i, hc⟩)
    · exact hb b (h.hold.imm b hc).2 (.inr (.inl hc))
  refine ⟨⟨fun i x hx => ?_, fun b i hbi => ?_, fun b hbi => ?_, fun b hbi => (h.hold.imc b hbi).same (hfr b (.inr hbi))⟩, h.wr, h.ob, h.im0, h.im1, hos.trans h.os, ht.trans h.tape, hout.trans h.output, Nat.le_trans h.size hsz, fun b hbl hz => (hb b (by have := h.size; omega) (.inr (.inr ⟨hbl, hz⟩))).trans (h.frame b hbl hz)⟩
  · have hx' := h.at_ i x hx
    have hfr' : ∀ b, r.o b = some i ∨ r.im b → w'.heap[b]? = w.heap[b]? := fun b hc => hfr b (hc.imp (fun e => ⟨i, e⟩) fun e => e)
    by_cases hbk : x.1.blk = true
    · rw [AO.holds_blk hbk] at hx' ⊢
      exact ⟨(hfr' _ (.inl ((hx'.2 _).2 rfl))).trans hx'.1, hx'.2⟩
    · cases hx1 : x.1 with
      | cells _ _ => rw [hx1] at hbk; exact absurd rfl hbk
      | raw _ => rw [hx1] at hbk; exact absurd rfl hbk
      | abs k y => rw [hx1] at hx'; exact Rp.local hx' (fun _ e => e) (fun _ e => e) hfr'
      | hand => rw [hx1] at hx'; exact hx'
  · have := h.hold.ow b i hbi; exact ⟨this.1, by omega⟩
  · have := h.hold.imm b hbi; exact ⟨this.1, by omega⟩

theorem St.grow {r : Gh} {H : AH} {W0 : Base} {w w' : World} (h : St r H W0 w) (hb : Below w.heap.size w w') : St r H W0 w' :=
  h.abide (fun b hbl _ => hb.block b hbl) hb.os hb.tape hb.output hb.size

theorem St.drew {r : Gh} {H : AH} {W0 : Base} {w : World} (h : St r H W0 w) : St r H W0 w.drew := h.grow (Below.drew (Below.refl _ _))

/-- Nothing that was there may turn. -/
def rd (r : Gh) (w : World) : Base := ⟨w, fun _ => False, fun b i => r.o b = some i, r.im⟩

theorem St.below {r : Gh} {H : AH} {W0 : Base} {w : World} (h : St r H W0 w) (hz : ∀ b, ¬ W0.Z b) : Below W0.w.heap.size W0.w w :=
  ⟨h.os, h.tape, h.output, h.size, fun b hb => h.frame b hb (hz b)⟩

theorem St.belowR {r g : Gh} {H : AH} {w w' : World} (h : St r H (rd g w) w') : Below w.heap.size w w' := h.below fun _ e => e

/-- The same numbers, nobody an owner. -/
def Gh.wipe (r : Gh) : Gh := ⟨r.b, r.s, fun _ => Option.none, fun _ => False⟩
theorem CV.conc_wipe (r : Gh) (c : CV) : c.conc r.wipe = c.conc r := by cases c <;> rfl
theorem TV.conc_wipe (r : Gh) (t : TV) : t.conc r.wipe = t.conc r := by
  cases t with
  | one c => exact CV.conc_wipe r c
  | agg l => simp only [TV.conc]; rw [List.map_congr_left fun c _ => CV.conc_wipe r c]
theorem AV.conc_wipe (r : Gh) (v : AV) : v.conc r.wipe = v.conc r := by
  cases v with
  | tv t => exact TV.conc_wipe r t
  | tup l => simp only [AV.conc]; rw [List.map_congr_left fun c _ => TV.conc_wipe r c]

/-- No object is known. -/
theorem St.empty (r : Gh) (w : World) : St r.wipe [] (rd r.wipe w) w := by
  refine ⟨⟨fun i x hx => ?_, fun b i hb => ?_, fun b hb => ?_, fun b hb => False.elim hb⟩, fun b i x hb => ?_, fun b i hb => .inr (.inr hb), fun b hb => hb, fun b hb => ?_, rfl, rfl, rfl, Nat.le_refl _, fun _ _ _ => rfl⟩
  · simp at hx
  · cases hb
  · exact False.elim hb
  · cases hb
  · exact False.elim hb

theorem CV.conc_bs (b : Nat → Nat) (s : Nat → SV) (o o' : Nat → Option Nat) (im im' : Nat → Prop) (c : CV) : c.conc ⟨b, s, o, im⟩ = c.conc ⟨b, s, o', im'⟩ := by cases c <;> rfl
theorem TV.conc_bs (b : Nat → Nat) (s : Nat → SV) (o o' : Nat → Option Nat) (im im' : Nat → Prop) (t : TV) : t.conc ⟨b, s, o, im⟩ = t.conc ⟨b, s, o', im'⟩ := by
  cases t with
  | one c => exact CV.conc_bs b s o o' im im' c
  | agg l => simp only [TV.conc]; rw [List.map_congr_left fun c _ => CV.conc_bs b s o o' im im' c]
theorem AV.conc_bs (b : Nat → Nat) (s : Nat → SV) (o o' : Nat → Option Nat) (im im' : Nat → Prop) (v : AV) : v.conc ⟨b, s, o, im⟩ = v.conc ⟨b, s, o', im'⟩ := by
  cases v with
  | tv t => exact TV.conc_bs b s o o' im im' t
  | tup l => simp only [AV.conc]; rw [List.map_congr_left fun c _ => TV.conc_bs b s o o' im im' c]

/-- The same numbers, other owners. -/
def Gh.withO (r : Gh) (o : Nat → Option Nat) (im : Nat → Prop) : Gh := ⟨r.b, r.s, o, im⟩
theorem AV.conc_withO (r : Gh) (o : Nat → Option Nat) (im : Nat → Prop) (v : AV) : v.conc (r.withO o im) = v.conc r := AV.conc_bs _ _ _ _ _ _ v
theorem CV.conc_withO (r : Gh) (o : Nat → Option Nat) (im : Nat → Prop) (v : CV) : v.conc (r.withO o im) = v.conc r := CV.conc_bs _ _ _ _ _ _ v
theorem Agree.withO (n : Nat) (r : Gh) (o : Nat → Option Nat) (im : Nat → Prop) : Agree n r (r.withO o im) := ⟨fun _ _ => rfl, fun _ _ => rfl⟩

theorem AO.conc_withO (r : Gh) (o : Nat → Option Nat) (im : Nat → Prop) (a : AO) : a.conc (r.withO o im) = a.conc r := by
  cases a <;> simp only [AO.conc]
  rw [List.map_congr_left fun c _ => CV.conc_withO r o im c]

end Go.Proofs.Ytobonipmnidadaa
