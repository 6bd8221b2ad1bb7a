/- How vectors, dots and events come in, and are read again. How lists of events come in; the row's end whatever came in. -/
import Derived.Test.YtodcebpdmjdplaaJ10
import Derived.WalkKit
import Derived.ProofKit
import Derived.OpenShut
import Derived.Test.YtodcebpdmjdplaaJ18
import Derived.Carry
import Derived.Deep.Slices
namespace Go.Proofs.Ytodcebpdmjdplaa
open Go.ChangeShapes Go.WideShapes Go.ChangeAt Go.RowKit
set_option maxRecDepth 8000

theorem mapM_cons_some {α β : Type} {f : α → Option β} {a : α} {l : List α} {r : List β} (h : (a :: l).mapM f = some r) : ∃ b r', f a = some b ∧ l.mapM f = some r' ∧ r = b :: r' := by
  rw [List.mapM_cons] at h
  cases hb : f a with
  | none => simp [hb] at h
  | some b =>
    cases hr : l.mapM f with
    | none => simp [hb, hr] at h
    | some r' => simp [hb, hr] at h; exact ⟨b, r', rfl, rfl, h.symm⟩
theorem mapM_nil_some {α β : Type} {f : α → Option β} {r : List β} (h : ([] : List α).mapM f = some r) : r = [] := by
  simpa using h

section
variable {H : Type} {enc : TypeId × Value → H} {w : World} {base : Nat} {spare : Nat → Bool} {held : Bool}

theorem wf_u8 {n : Int} (h : (Lit.int .u8 n).wf = true) : 0 ≤ n ∧ n < 256 := by
  have e : (Lit.int .u8 n).wf = (decide ((0 : Int) ≤ n) && decide (n ≤ 255)) := rfl
  rw [e] at h; simp at h; omega
theorem wf_u32 {n : Int} (h : (Lit.int .u32 n).wf = true) : 0 ≤ n ∧ n < 4294967296 := by
  have e : (Lit.int .u32 n).wf = (decide ((0 : Int) ≤ n) && decide (n ≤ 4294967295)) := rfl
  rw [e] at h; simp at h; omega
theorem u8_wf {n : Int} (h : 0 ≤ n) (h' : n < 256) : (Lit.int .u8 n).wf = true := by
  have e : (Lit.int .u8 n).wf = (decide ((0 : Int) ≤ n) && decide (n ≤ 255)) := rfl
  rw [e]; simp; omega
theorem u32_wf {n : Int} (h : 0 ≤ n) (h' : n < 4294967296) : (Lit.int .u32 n).wf = true := by
  have e : (Lit.int .u32 n).wf = (decide ((0 : Int) ≤ n) && decide (n ≤ 4294967295)) := rfl
  rw [e]; simp; omega

def dotD (d : Dot) : DataW H := .agg [.lit (.int .u8 d.a), .lit (.int .u32 d.s)]
def vecD (v : Vec) : DataW H := .agg [.lit (.int .u32 v.x0), .lit (.int .u32 v.x1), .lit (.int .u32 v.x2), .lit (.int .u32 v.x3), .lit (.int .u32 v.x4), .lit (.int .u32 v.x5), .lit (.int .u32 v.x6), .lit (.int .u32 v.x7)]
def evD (e : Ev) : DataW H := .agg [dotD e.d, vecD e.p, .lit (.int .u8 e.k), dotD e.par, .lit (.bool e.right), .lit (.int .u8 e.ch), .lit (.int .u8 e.who), .lit (.int .u8 e.role)]

theorem cellsV : Try.prog.cellsOf 27 = 8 := by kernel_rfl
theorem cellsD : Try.prog.cellsOf 25 = 2 := by kernel_rfl
theorem cellsE : Try.prog.cellsOf 31 = 17 := by kernel_rfl
theorem cells23 : Try.prog.cellsOf 23 = 1 := by kernel_rfl
theorem cells5 : Try.prog.cellsOf 5 = 1 := by kernel_rfl
theorem cells4 : Try.prog.cellsOf 4 = 1 := by kernel_rfl
theorem cells28 : Try.prog.cellsOf 28 = 1 := by kernel_rfl
theorem cells29 : Try.prog.cellsOf 29 = 1 := by kernel_rfl

theorem open_vec {fuel : Nat} {cs : List Value} {x : DataW H × List MemPlace} (h : DataW.trod enc Try.prog w base spare held fuel 27 cs = some x) : ∃ v : Vec, cs = v.cells.toList ∧ x = (vecD v, []) ∧ v.ok := by
  cases fuel with
  | zero => simp [DataW.trod] at h
  | succ fuel =>
    unfold DataW.trod at h
    simp only [Try.underlying27, cellsV, cells23] at h
    split at h
    · rename_i hl
      match cs, hl with
      | [c0, c1, c2, c3, c4, c5, c6, c7], _ =>
        rw [show List.range 8 = [0, 1, 2, 3, 4, 5, 6, 7] from rfl] at h
        cases hm : List.mapM (fun i => DataW.trod enc Try.prog w base spare held fuel 23 (List.take 1 (List.drop (i * 1) [c0, c1, c2, c3, c4, c5, c6, c7]))) [0, 1, 2, 3, 4, 5, 6, 7] with
        | none => rw [hm] at h; cases h
        | some xs =>
          rw [hm] at h
          obtain ⟨y0, r0, h0, hm0, rfl⟩ := mapM_cons_some hm
          obtain ⟨y1, r1, h1, hm1, rfl⟩ := mapM_cons_some hm0
          obtain ⟨y2, r2, h2, hm2, rfl⟩ := mapM_cons_some hm1
          obtain ⟨y3, r3, h3, hm3, rfl⟩ := mapM_cons_some hm2
          obtain ⟨y4, r4, h4, hm4, rfl⟩ := mapM_cons_some hm3
          obtain ⟨y5, r5, h5, hm5, rfl⟩ := mapM_cons_some hm4
          obtain ⟨y6, r6, h6, hm6, rfl⟩ := mapM_cons_some hm5
          obtain ⟨y7, r7, h7, hm7, rfl⟩ := mapM_cons_some hm6
          obtain rfl := mapM_nil_some hm7
          obtain ⟨n0, e0, rfl, w0⟩ := DataW.trod_int Try.underlying23 h0
          obtain ⟨n1, e1, rfl, w1⟩ := DataW.trod_int Try.underlying23 h1
          obtain ⟨n2, e2, rfl, w2⟩ := DataW.trod_int Try.underlying23 h2
          obtain ⟨n3, e3, rfl, w3⟩ := DataW.trod_int Try.underlying23 h3
          obtain ⟨n4, e4, rfl, w4⟩ := DataW.trod_int Try.underlying23 h4
          obtain ⟨n5, e5, rfl, w5⟩ := DataW.trod_int Try.underlying23 h5
          obtain ⟨n6, e6, rfl, w6⟩ := DataW.trod_int Try.underlying23 h6
          obtain ⟨n7, e7, rfl, w7⟩ := DataW.trod_int Try.underlying23 h7
          simp only [List.drop, List.take, List.cons.injEq, and_true] at e0 e1 e2 e3 e4 e5 e6 e7
          subst e0 e1 e2 e3 e4 e5 e6 e7
          simp only [Option.map_some, Option.some.injEq, List.map_cons, List.map_nil, List.flatMap_cons, List.flatMap_nil, List.append_nil] at h
          subst h
          refine ⟨⟨n0, n1, n2, n3, n4, n5, n6, n7⟩, rfl, rfl, ?_⟩
          constructor <;> intro i
          · match i with
            | 0 => exact (wf_u32 w0).1
            | 1 => exact (wf_u32 w1).1
            | 2 => exact (wf_u32 w2).1
            | 3 => exact (wf_u32 w3).1
            | 4 => exact (wf_u32 w4).1
            | 5 => exact (wf_u32 w5).1
            | 6 => exact (wf_u32 w6).1
            | 7 => exact (wf_u32 w7).1
            | i + 8 => exact Int.le_refl 0
          · match i with
            | 0 => exact (wf_u32 w0).2
            | 1 => exact (wf_u32 w1).2
            | 2 => exact (wf_u32 w2).2
            | 3 => exact (wf_u32 w3).2
            | 4 => exact (wf_u32 w4).2
            | 5 => exact (wf_u32 w5).2
            | 6 => exact (wf_u32 w6).2
            | 7 => exact (wf_u32 w7).2
            | i + 8 => exact (by decide : (0 : Int) < 4294967296)
    · cases h

theorem open_dot {fuel : Nat} {cs : List Value} {x : DataW H × List MemPlace} (h : DataW.trod enc Try.prog w base spare held fuel 25 cs = some x) : ∃ d : Dot, cs = d.cells.toList ∧ x = (dotD d, []) ∧ d.ok := by
  cases fuel with
  | zero => simp [DataW.trod] at h
  | succ fuel =>
    unfold DataW.trod at h
    simp only [Try.underlying25, cellsD] at h
    split at h
    · rename_i hl
      match cs, hl with
      | [c0, c1], _ =>
        obtain ⟨xs, hm, hx⟩ := Option.map_eq_some_iff.1 h
        obtain ⟨y0, r0, h0, hm0, rfl⟩ := mapM_cons_some hm
        obtain ⟨y1, r1, h1, hm1, rfl⟩ := mapM_cons_some hm0
        obtain rfl := mapM_nil_some hm1
        simp only [cells5, cells23] at h0 h1
        obtain ⟨n0, e0, rfl, w0⟩ := DataW.trod_int Try.underlying5 h0
        obtain ⟨n1, e1, rfl, w1⟩ := DataW.trod_int Try.underlying23 h1
        simp only [List.drop, List.take, List.cons.injEq, and_true] at e0 e1
        subst e0 e1
        simp only [List.map_cons, List.map_nil, List.flatMap_cons, List.flatMap_nil, List.append_nil] at hx
        subst hx
        exact ⟨⟨n0, n1⟩, rfl, rfl, (wf_u8 w0).1, (wf_u8 w0).2, (wf_u32 w1).1, (wf_u32 w1).2⟩
    · cases h

theorem open_ev {fuel : Nat} {cs : List Value} {x : DataW H × List MemPlace} (h : DataW.trod enc Try.prog w base spare held fuel 31 cs = some x) : ∃ e : Ev, cs = e.cells.toList ∧ x = (evD e, []) ∧ e.ok := by
  cases fuel with
  | zero => simp [DataW.trod] at h
  | succ fuel =>
    unfold DataW.trod at h
    simp only [Try.underlying31, cellsE] at h
    split at h
    · rename_i hl
      match cs, hl with
      | [c0, c1, c2, c3, c4, c5, c6, c7, c8, c9, c10, c11, c12, c13, c14, c15, c16], _ =>
        obtain ⟨xs, hm, hx⟩ := Option.map_eq_some_iff.1 h
        obtain ⟨y0, r0, h0, hm0, rfl⟩ := mapM_cons_some hm
        obtain ⟨y1, r1, h1, hm1, rfl⟩ := mapM_cons_some hm0
        obtain ⟨y2, r2, h2, hm2, rfl⟩ := mapM_cons_some hm1
        obtain ⟨y3, r3, h3, hm3, rfl⟩ := mapM_cons_some hm2
        obtain ⟨y4, r4, h4, hm4, rfl⟩ := mapM_cons_some hm3
        obtain ⟨y5, r5, h5, hm5, rfl⟩ := mapM_cons_some hm4
        obtain ⟨y6, r6, h6, hm6, rfl⟩ := mapM_cons_some hm5
        obtain ⟨y7, r7, h7, hm7, rfl⟩ := mapM_cons_some hm6
        obtain rfl := mapM_nil_some hm7
        simp only [cells5, cells4, cells28, cells29, cellsD, cellsV] at h0 h1 h2 h3 h4 h5 h6 h7
        obtain ⟨d, e0, rfl, w0⟩ := open_dot h0
        obtain ⟨v, e1, rfl, w1⟩ := open_vec h1
        obtain ⟨n2, e2, rfl, w2⟩ := DataW.trod_int Try.underlying28 h2
        obtain ⟨p, e3, rfl, w3⟩ := open_dot h3
        obtain ⟨b4, e4, rfl⟩ := DataW.trod_bool Try.underlying4 h4
        obtain ⟨n5, e5, rfl, w5⟩ := DataW.trod_int Try.underlying5 h5
        obtain ⟨n6, e6, rfl, w6⟩ := DataW.trod_int Try.underlying5 h6
        obtain ⟨n7, e7, rfl, w7⟩ := DataW.trod_int Try.underlying29 h7
        simp only [List.drop, List.take, List.cons.injEq, and_true] at e0 e1 e2 e3 e4 e5 e6 e7
        obtain ⟨rfl, rfl⟩ := e0
        obtain ⟨rfl, rfl, rfl, rfl, rfl, rfl, rfl, rfl⟩ := e1
        obtain ⟨rfl, rfl⟩ := e3
        subst e2 e4 e5 e6 e7
        simp only [List.map_cons, List.map_nil, List.flatMap_cons, List.flatMap_nil, List.append_nil] at hx
        subst hx
        exact ⟨⟨d, v, n2, p, b4, n5, n6, n7⟩, rfl, rfl, ⟨w0, w1, (wf_u8 w2).1, (wf_u8 w2).2, w3, (wf_u8 w5).1, (wf_u8 w5).2, (wf_u8 w6).1, (wf_u8 w6).2, (wf_u8 w7).1, (wf_u8 w7).2⟩⟩
    · cases h

theorem mapM_mk {α β : Type} {f : α → Option β} {a : α} {l : List α} {b : β} {r : List β} (h : f a = some b) (h' : l.mapM f = some r) : (a :: l).mapM f = some (b :: r) := by
  rw [List.mapM_cons, h, h']; rfl

theorem shut_i {t : TypeId} {k : IntKind} {n : Int} {fuel : Nat} (ht : Try.prog.underlying t = some (.int k)) (hw : (Lit.int k n).wf = true) : DataW.trod enc Try.prog w base spare held (fuel + 1) t [.int k n] = some (.lit (.int k n), []) := by
  simp [DataW.trod, ht, hw]
theorem shut_b {t : TypeId} {b : Bool} {fuel : Nat} (ht : Try.prog.underlying t = some .bool) : DataW.trod enc Try.prog w base spare held (fuel + 1) t [.bool b] = some (.lit (.bool b), []) := by
  simp [DataW.trod, ht]

theorem shut_vec {v : Vec} (hv : v.ok) (fuel : Nat) : DataW.trod enc Try.prog w base spare held (fuel + 2) 27 v.cells.toList = some (vecD v, []) := by
  unfold DataW.trod
  simp only [Try.underlying27, cellsV, cells23]
  have u := Try.underlying23
  have h0 := shut_i (enc := enc) (w := w) (base := base) (spare := spare) (held := held) (fuel := fuel) u (u32_wf (hv.ge 0) (hv.lt 0))
  have h1 := shut_i (enc := enc) (w := w) (base := base) (spare := spare) (held := held) (fuel := fuel) u (u32_wf (hv.ge 1) (hv.lt 1))
  have h2 := shut_i (enc := enc) (w := w) (base := base) (spare := spare) (held := held) (fuel := fuel) u (u32_wf (hv.ge 2) (hv.lt 2))
  have h3 := shut_i (enc := enc) (w := w) (base := base) (spare := spare) (held := held) (fuel := fuel) u (u32_wf (hv.ge 3) (hv.lt 3))
  have h4 := shut_i (enc := enc) (w := w) (base := base) (spare := spare) (held := held) (fuel := fuel) u (u32_wf (hv.ge 4) (hv.lt 4))
  have h5 := shut_i (enc := enc) (w := w) (base := base) (spare := spare) (held := held) (fuel := fuel) u (u32_wf (hv.ge 5) (hv.lt 5))
  have h6 := shut_i (enc := enc) (w := w) (base := base) (spare := spare) (held := held) (fuel := fuel) u (u32_wf (hv.ge 6) (hv.lt 6))
  have h7 := shut_i (enc := enc) (w := w) (base := base) (spare := spare) (held := held) (fuel := fuel) u (u32_wf (hv.ge 7) (hv.lt 7))
  simp only [Vec.get] at h0 h1 h2 h3 h4 h5 h6 h7
  rw [show List.range 8 = [0, 1, 2, 3, 4, 5, 6, 7] from rfl]
  simp [h0, h1, h2, h3, h4, h5, h6, h7, vecD]

theorem shut_dot {d : Dot} (hd : d.ok) (fuel : Nat) : DataW.trod enc Try.prog w base spare held (fuel + 2) 25 d.cells.toList = some (dotD d, []) := by
  unfold DataW.trod
  simp only [Try.underlying25, cellsD]
  simp only [List.mapM_cons, List.mapM_nil, cells5, cells23]
  have h0 : DataW.trod enc Try.prog w base spare held (fuel + 1) 5 [.int .u8 d.a] = _ := shut_i Try.underlying5 (u8_wf hd.a0 hd.a1)
  have h1 : DataW.trod enc Try.prog w base spare held (fuel + 1) 23 [.int .u32 d.s] = _ := shut_i Try.underlying23 (u32_wf hd.s0 hd.s1)
  simp [h0, h1, dotD]

theorem shut_ev {e : Ev} (he : e.ok) (fuel : Nat) : DataW.trod enc Try.prog w base spare held (fuel + 3) 31 e.cells.toList = some (evD e, []) := by
  unfold DataW.trod
  simp only [Try.underlying31, cellsE]
  simp only [List.mapM_cons, List.mapM_nil, cells5, cells4, cells28, cells29, cellsD, cellsV]
  have h0 : DataW.trod enc Try.prog w base spare held (fuel + 2) 25 [.int .u8 e.d.a, .int .u32 e.d.s] = _ := shut_dot he.d fuel
  have h1 : DataW.trod enc Try.prog w base spare held (fuel + 2) 27 [.int .u32 e.p.x0, .int .u32 e.p.x1, .int .u32 e.p.x2, .int .u32 e.p.x3, .int .u32 e.p.x4, .int .u32 e.p.x5, .int .u32 e.p.x6, .int .u32 e.p.x7] = _ := shut_vec he.p fuel
  have h2 : DataW.trod enc Try.prog w base spare held (fuel + 2) 28 [.int .u8 e.k] = _ := shut_i Try.underlying28 (u8_wf he.k0 he.k1)
  have h3 : DataW.trod enc Try.prog w base spare held (fuel + 2) 25 [.int .u8 e.par.a, .int .u32 e.par.s] = _ := shut_dot he.par fuel
  have h4 : DataW.trod enc Try.prog w base spare held (fuel + 2) 4 [.bool e.right] = _ := shut_b Try.underlying4
  have h5 : DataW.trod enc Try.prog w base spare held (fuel + 2) 5 [.int .u8 e.ch] = _ := shut_i Try.underlying5 (u8_wf he.ch0 he.ch1)
  have h6 : DataW.trod enc Try.prog w base spare held (fuel + 2) 5 [.int .u8 e.who] = _ := shut_i Try.underlying5 (u8_wf he.who0 he.who1)
  have h7 : DataW.trod enc Try.prog w base spare held (fuel + 2) 29 [.int .u8 e.role] = _ := shut_i Try.underlying29 (u8_wf he.role0 he.role1)
  simp [h0, h1, h2, h3, h4, h5, h6, h7, evD]

/-- A vector that came in. -/
theorem in_vec {r : Reach} {b0 : Nat} {v : Value} {d : DataW H} {ps : List MemPlace} (hval : Value.okWide Try.prog w r b0 27 v) (h : DataW.Trod enc Try.prog w base spare held 27 v d ps) : ∃ x : Vec, v = x.v ∧ d = vecD x ∧ ps = [] ∧ x.ok := by
  unfold Value.okWide at hval
  simp only [Try.underlying27] at hval
  obtain ⟨cs, rfl, -, -⟩ := hval
  obtain ⟨fuel, hf⟩ := h
  obtain ⟨x, hc, hx, hok⟩ := open_vec hf
  simp only [Prod.mk.injEq] at hx
  refine ⟨x, ?_, hx.1, hx.2, hok⟩
  simp only [Value.cells] at hc
  show Value.agg cs = Value.agg x.cells
  rw [Array.toList_inj.1 hc]

theorem in_ev {r : Reach} {b0 : Nat} {v : Value} {d : DataW H} {ps : List MemPlace} (hval : Value.okWide Try.prog w r b0 31 v) (h : DataW.Trod enc Try.prog w base spare held 31 v d ps) : ∃ x : Ev, v = x.v ∧ d = evD x ∧ ps = [] ∧ x.ok := by
  unfold Value.okWide at hval
  simp only [Try.underlying31] at hval
  obtain ⟨cs, rfl, -, -⟩ := hval
  obtain ⟨fuel, hf⟩ := h
  obtain ⟨x, hc, hx, hok⟩ := open_ev hf
  simp only [Prod.mk.injEq] at hx
  refine ⟨x, ?_, hx.1, hx.2, hok⟩
  simp only [Value.cells] at hc
  show Value.agg cs = Value.agg x.cells
  rw [Array.toList_inj.1 hc]

theorem out_vec {x : Vec} (h : x.ok) : DataW.Trod enc Try.prog w base spare held 27 x.v (vecD x) [] := ⟨2, shut_vec h 0⟩
theorem out_ev {x : Ev} (h : x.ok) : DataW.Trod enc Try.prog w base spare held 31 x.v (evD x) [] := ⟨3, shut_ev h 0⟩

/-- The row's end, where nothing that lay has turned. -/
theorem post_of_below {P : Program} {f : Func} {s : ChangeSpec} {apart fresh handsOn again : Bool} {W W' : World} {args : Array Value} {v : Value} {ds gs : List (DataW H)} {before pa pv : List MemPlace}
    (hW : DataW.Whole enc P f.params.toList s.vars apart W args.toList ds gs before)
    (hres : ∀ (b : Nat) (sp : Nat → Bool) (hd : Bool), DataW.TrodAll enc P W' b sp hd f.resultTypes.toList (v.resultList f.resultTypes.size) (s.fn H (ds ++ gs)).results [])
    (hargs : ∀ sp : Nat → Bool, (∀ p ∈ before, sp p.block = true) → DataW.TrodAll enc P W' 0 sp true f.params.toList args.toList (s.fn H (ds ++ gs)).args pa)
    (hvars : ∀ sp : Nat → Bool, (∀ p ∈ before, sp p.block = true) → DataW.TrodVars enc P W' sp s.vars (s.fn H (ds ++ gs)).vars pv)
    (hps : before = pa ++ pv) (hb : Below W.heap.size W W')
    (hok : ∀ (j : Nat) (t : TypeId) (r : Value), f.resultTypes[j]? = some t → (v.resultList f.resultTypes.size)[j]? = some r → Value.okWide P W' .any 0 t r) :
    s.post enc P f apart fresh handsOn again W args v W' := by
  have hlt : ∀ p ∈ before, p.block < W.heap.size := fun p hp => hW.lt p hp
  have hold : ∀ p ∈ before, (fun b => decide (b < W.heap.size)) p.block = true := fun p hp => by simpa using hW.lt p hp
  refine ⟨ds, gs, before, [], pa, pv, hW, hres _ _ _, hargs _ hold, hvars _ hold, World.keptBut_mono (fun p hp => ⟨hp, ?_⟩) (hb.frame (· ∈ before)), fun _ => ?_⟩
  · rw [hps, List.mem_append] at hp
    exact Or.inr hp
  · obtain ⟨_, _, _, _, _, hz, hn⟩ := hW
    refine ⟨hok, _, _, ([] ++ pa) ++ pv, ⟨[] ++ pa, pv, trodAll_append (hargs _ (fun _ _ => rfl)) (hres _ _ _), hvars _ (fun _ _ => rfl), rfl, ?_, ?_⟩, ?_⟩
    · intro b off hp
      have hp' : MemPlace.cell b off ∈ before := by rw [hps]; simpa using hp
      rw [hb.frozen (hlt _ hp')]
      exact hz b off hp'
    · intro ha
      have := hn ha
      rw [hps] at this
      simpa using this
    · intro p hp _
      rw [hps]
      simpa using hp

end
end Go.Proofs.Ytodcebpdmjdplaa

namespace Go.Proofs.Ytodcebpdmjdplaa
open Go.ChangeShapes Go.WideShapes Go.ChangeAt Go.RowKit

section
variable {H : Type} {enc : TypeId × Value → H}

theorem trodAll_same {P : Program} {W W' : World} {sp : Nat → Bool} (hl : laidOutB P = true) (hb : Below W.heap.size W W') : ∀ {ts : List TypeId} {vs : List Value} {ds : List (DataW H)} {ps : List MemPlace},
    (ts.all fun t => P.readableRec t && Nat.blt t P.types.size) = true → DataW.TrodAll enc P W 0 (fun _ => true) true ts vs ds ps → (∀ x ∈ ps, x.block < W.heap.size) → (∀ x ∈ ps, sp x.block = true) → DataW.TrodAll enc P W' 0 sp true ts vs ds ps
  | [], [], [], _, _, h, _, _ => h
  | t :: ts, v :: vs, d :: ds, ps, ht, h, hlt, hs => by
    obtain ⟨p, q, h1, h2, rfl⟩ := h
    simp only [List.all_cons, Bool.and_eq_true, Nat.blt_eq] at ht
    exact ⟨p, q, WideElems.Trod_stays hl ht.1.1 ht.1.2 h1 (fun x hx => hb.same (hlt x (List.mem_append_left _ hx))) (fun x hx => hs x (List.mem_append_left _ hx)),
      trodAll_same hl hb ht.2 h2 (fun x hx => hlt x (List.mem_append_right _ hx)) (fun x hx => hs x (List.mem_append_right _ hx)), rfl⟩
  | [], [], _ :: _, _, _, h, _, _ => h.elim
  | [], _ :: _, _, _, _, h, _, _ => h.elim
  | _ :: _, [], _, _, _, h, _, _ => h.elim
  | _ :: _, _ :: _, [], _, _, h, _, _ => h.elim

/-- What lies at first and never turns. -/
def imOf (W : World) (b : Nat) : Prop := b < W.heap.size ∧ isCB W b

theorem cell_at {w : World} {a : Addr} {v : Value} (h : w.cell? a = some v) : a.spot = none ∧ isCB w a.block ∧ a.block < w.heap.size := by
  unfold World.cell? at h
  split at h
  · rename_i c t f hh
    split at h
    · cases h
    · rename_i hs
      refine ⟨by simpa using hs, ⟨c, t, f, hh⟩, (Array.getElem?_eq_some_iff.1 hh).1⟩
  · cases h

theorem cells_at {w : World} {base n : Nat} {a : Addr} {cs : List Value} (h : w.cells? base a n = some cs) : cs.length = n ∧ ∀ j, j < n → w.cell? (a.add j) = cs[j]? := by
  unfold World.cells? at h
  split at h
  · have hlen : ∀ (l : List Nat) (r : List Value), l.mapM (fun i => w.cell? (a.add i)) = some r → r.length = l.length ∧ ∀ j (hj : j < l.length), w.cell? (a.add l[j]) = r[j]? := by
      intro l
      induction l with
      | nil => intro r hr; have := mapM_nil_some hr; subst this; exact ⟨rfl, fun j hj => by simp at hj⟩
      | cons x l ih =>
        intro r hr
        obtain ⟨b, r', h1, h2, rfl⟩ := mapM_cons_some hr
        obtain ⟨e1, e2⟩ := ih r' h2
        refine ⟨by simp [e1], fun j hj => ?_⟩
        cases j with
        | zero => simpa using h1
        | succ j => simpa using e2 j (by simpa using hj)
    obtain ⟨h1, h2⟩ := hlen _ _ h
    refine ⟨by simpa using h1, fun j hj => ?_⟩
    have := h2 j (by simpa using hj)
    simpa using this
  · cases h

/-- A list of events that came in. -/
theorem in_evs {w : World} {r : Reach} {b0 : Nat} {v : Value} {d : DataW H} {ps : List MemPlace} (hval : Value.okWide Try.prog w r b0 22 v) (h : DataW.Trod enc Try.prog w 0 (fun _ => true) true 22 v d ps) :
    ∃ (l : List Ev) (s : SV), v = s.v ∧ ARep l w s (imOf w) ∧ ∀ e ∈ l, e.ok := by
  obtain ⟨a0, len0, cap0, rfl⟩ := okWide_slice Try.underlying22 hval
  obtain ⟨fuel, hf⟩ := h
  have hc : (Value.slice a0 len0 cap0).cells.toList = [Value.slice a0 len0 cap0] := rfl
  rw [hc] at hf
  rcases Go.Deep.open_slice Try.underlying22 hf with ⟨h1, -⟩ | ⟨a, len, cap, m, n, D, Pl, h1, -, hle, -, hm, -, hx⟩
  · simp only [List.cons.injEq, Value.slice.injEq, and_true] at h1
    obtain ⟨rfl, rfl, rfl⟩ := h1
    exact ⟨[], ⟨none, 0, 0⟩, rfl, ⟨rfl, fun i hi => by simp at hi⟩, fun e he => by cases he⟩
  · simp only [List.cons.injEq, Value.slice.injEq, and_true] at h1
    obtain ⟨rfl, rfl, rfl⟩ := h1
    simp only [if_true] at hm
    subst hm
    have hsp0 : 0 < len0 → a.spot = none := fun hpos => by
      obtain ⟨cs', h2, h3⟩ := hx 0 (by omega)
      rw [cellsE, Nat.zero_mul, show a.add 0 = a from rfl] at h2
      obtain ⟨e, rfl, -, hok⟩ := open_ev h3
      obtain ⟨-, h5⟩ := cells_at h2
      have h0 := h5 0 (by decide)
      obtain ⟨c0, hc0⟩ : ∃ c, e.cells.toList[0]? = some c := ⟨_, rfl⟩
      rw [hc0] at h0
      exact (cell_at h0).1
    have key : ∀ i, i < len0 → ∃ e : Ev, e.ok ∧ a.spot = none ∧ imOf w a.block ∧ ∀ j, j < 17 → w.cell? ⟨a.block, a.off + (i * 17 + j), none⟩ = e.cells.toList[j]? := fun i hi => by
      obtain ⟨cs', h2, h3⟩ := hx i (by omega)
      rw [cellsE] at h2
      obtain ⟨e, rfl, -, hok⟩ := open_ev h3
      obtain ⟨-, h5⟩ := cells_at h2
      have h0 := h5 0 (by decide)
      obtain ⟨c0, hc0⟩ : ∃ c, e.cells.toList[0]? = some c := ⟨_, rfl⟩
      rw [hc0] at h0
      obtain ⟨q1, q2, q3⟩ := cell_at h0
      have hsp := hsp0 (by omega)
      have hadd : ∀ k, a.add k = ⟨a.block, a.off + k, none⟩ := fun k => by
        obtain ⟨ab, ao, asp⟩ := a
        simp only at hsp
        subst hsp
        exact add_plain _ _ _
      refine ⟨e, hok, hsp, ?_, fun j hj => ?_⟩
      · rw [hadd] at q2 q3
        exact ⟨q3, q2⟩
      · have := h5 j hj
        rw [hadd] at this
        rw [← this]
        rw [show (⟨a.block, a.off + i * 17, none⟩ : Addr).add j = ⟨a.block, a.off + i * 17 + j, none⟩ from add_plain _ _ _, Nat.add_assoc]
    classical
    refine ⟨(List.range len0).map fun i => if h : i < len0 then (key i h).choose else zeroEv, ⟨some a, len0, m⟩, rfl, ⟨by simp, fun i hi => ?_⟩, fun e he => ?_⟩
    · have hi : i < len0 := by simpa using hi
      obtain ⟨h2, h3, h4, h5⟩ := (key i hi).choose_spec
      refine ⟨a.block, a.off, ?_, h4, fun j hj => ?_⟩
      · obtain ⟨ab, ao, asp⟩ := a
        simp only at h3
        subst h3; rfl
      · rw [show (List.map (fun i => if h : i < len0 then (key i h).choose else zeroEv) (List.range len0)).getD i Elt.zero = (key i hi).choose by simp [List.getD_eq_getElem?_getD, hi]]
        exact h5 j hj
    · obtain ⟨i, hi, rfl⟩ := List.mem_map.1 he
      have hi : i < len0 := by simpa using hi
      rw [dif_pos hi]
      exact (key i hi).choose_spec.1

end

/-- The state at first. -/
def ghOf (W : World) (s0 s1 : SV) : Gh := ⟨id, fun i => if i = 0 then s0 else s1, fun _ => none, imOf W⟩
theorem st_of {W : World} {l0 l1 : List Ev} {s0 s1 : SV} (h0 : ARep l0 W s0 (imOf W)) (h1 : ARep l1 W s1 (imOf W)) : St (ghOf W s0 s1) [(.abs 0 (.aevs l0), 0), (.abs 1 (.aevs l1), 0)] (rd (ghOf W s0 s1) W) W := by
  refine ⟨⟨fun i x hx => ?_, fun b i h => (by cases h), fun b hb => ⟨rfl, hb.1⟩, fun b hb => hb.2⟩, fun b i x h => (by cases h), fun b i h => (by cases h), fun b hb => hb, fun b hb => .inl hb, rfl, rfl, rfl, Nat.le_refl _, fun _ _ _ => rfl⟩
  match i, hx with
  | 0, hx => cases hx; exact .prim h0
  | 1, hx => cases hx; exact .prim h1
theorem st_one {W : World} {l0 : List Ev} {s0 : SV} (h0 : ARep l0 W s0 (imOf W)) : St (ghOf W s0 s0) [(.abs 0 (.aevs l0), 0)] (rd (ghOf W s0 s0) W) W := by
  refine ⟨⟨fun i x hx => ?_, fun b i h => (by cases h), fun b hb => ⟨rfl, hb.1⟩, fun b hb => hb.2⟩, fun b i x h => (by cases h), fun b i h => (by cases h), fun b hb => hb, fun b hb => .inl hb, rfl, rfl, rfl, Nat.le_refl _, fun _ _ _ => rfl⟩
  match i, hx with
  | 0, hx => cases hx; exact .prim h0

end Go.Proofs.Ytodcebpdmjdplaa
