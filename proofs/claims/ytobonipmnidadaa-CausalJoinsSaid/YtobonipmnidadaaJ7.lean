/- The executor, twenty-first part: contracts of functions, at few objects, and among many. The executor, twenty-second part: lists that slices hold: length, place, load, append, store, make. -/
import Derived.Test.YtobonipmnidadaaJ6
import Derived.Laws.OwnMore
namespace Go.Proofs.Ytobonipmnidadaa
open Go.RowKit
variable {P : Program} {T : CT P}

/-- A contract: with these objects it hands back that, and leaves those. -/
def Ctr (P : Program) (f : FuncId) (args : List AV) (Hs : AH) (v : AV) (Hs' : AH) : Prop :=
  ∀ (r : Gh) (W0 : Base) (w : World), St r Hs W0 w → Calls P f (args.map (AV.conc r)).toArray w fun e w' => ∃ r', Agree Hs.length r r' ∧ e = .returned (v.conc r') ∧ St r' Hs' W0 w'

/-- One that only reads. -/
def CtrQ (P : Program) (f : FuncId) (args : List AV) (Hs : AH) (v : AV) : Prop :=
  ∀ (r : Gh) (w : World), St r Hs (rd r w) w → Calls P f (args.map (AV.conc r)).toArray w fun e w' => e = .returned (v.conc r) ∧ Below w.heap.size w w'

/-- All that is to be computed of where the few stand among the many. -/
def fewB (H : AH) (l ls : List Nat) (Hs : AH) : Bool :=
  nodupB l && Nat.beq l.length Hs.length && Nat.beq ls.length Hs.length && l.all (fun j => Nat.blt j H.length) && ls.all (fun j => Nat.blt j H.length) && Hs.scB && flagsL H l Hs

theorem Ctr.lift {f : FuncId} {args : List AV} {Hs Hs' : AH} {v : AV} (C : Ctr P f args Hs v Hs') {r : Gh} {H : AH} {W0 : Base} {w : World} (hst : St r H W0 w) (hscH : H.scB = true) (l ls : List Nat) (hb : fewB H l ls Hs = true) (hs : selH H l = renH l ls Hs)
    (hsc : (Hs'.scB && args.all (AV.sc Hs.length) && v.sc Hs'.length) = true) (hk : keepsB Hs Hs') :
    Calls P f ((args.map (AV.ren (pick l) (pick ls))).map (AV.conc r)).toArray w fun e w' => ∃ r', Agree H.length r r' ∧ e = .returned ((v.ren (outF l H.length) (outF ls H.length)).conc r') ∧
      St r' (moveH H (outU l ls H.length l Hs Hs') (outN l ls H.length Hs')) W0 w' := by
  simp only [fewB, Bool.and_eq_true] at hb hsc
  obtain ⟨⟨⟨⟨⟨⟨h1, h2⟩, h3⟩, h4⟩, h5⟩, h6⟩, h7⟩ := hb
  obtain ⟨⟨h8, h9⟩, h10⟩ := hsc
  have hids := hasIds_of hs h7
  have := C _ _ _ (hst.sub l ls Hs h1 h2 h6 hids)
  rw [args_ren (subG_ok r l ls Hs.length) h9]
  refine this.mono ?_
  rintro e w' ⟨r1, hag, rfl, hst1⟩
  obtain ⟨r', hag', hren, hst'⟩ := hst.join hscH l ls h1 h2 h3 h4 h5 h6 hids h8 hk hag hst1
  exact ⟨r', hag', by rw [AV.ren_conc hren h10], hst'⟩

theorem keeps_refl : ∀ Hs : AH, keepsB Hs Hs
  | [] => trivial
  | _ :: l => ⟨fun _ => rfl, keeps_refl l⟩

def allRd (Hs : AH) : Bool := Hs.all fun x => Nat.beq x.2 0
theorem allRd_map {Hs : AH} (h : allRd Hs = true) : (Hs.map fun x => (x.1, 0)) = Hs := by
  conv => rhs; rw [← List.map_id Hs]
  refine List.map_congr_left fun x hx => ?_
  have := List.all_eq_true.1 h x hx
  have := Nat.eq_of_beq_eq_true this
  obtain ⟨a, g⟩ := x
  simp only at this; subst this; rfl

theorem CtrQ.lift {f : FuncId} {args : List AV} {Hs : AH} {v : AV} (C : CtrQ P f args Hs v) {r : Gh} {H : AH} {w : World} {ft : List Nat} (hat : At r H ft w) (l ls : List Nat) (hb : fewB H l ls Hs = true) (hs : selH H l = renH l ls Hs) (hrd : allRd Hs = true) (hft : ∀ i ∈ l, i ∈ ft)
    (hsc : (args.all (AV.sc Hs.length) && v.sc Hs.length) = true) :
    Calls P f ((args.map (AV.ren (pick l) (pick ls))).map (AV.conc r)).toArray w fun e w' => e = .returned ((v.ren (pick l) (pick ls)).conc r) ∧ Below w.heap.size w w' := by
  obtain ⟨H', W0, hst, he⟩ := hat
  simp only [fewB, Bool.and_eq_true] at hb hsc
  obtain ⟨⟨⟨⟨⟨⟨h1, h2⟩, h3⟩, h4⟩, h5⟩, h6⟩, h7⟩ := hb
  have hids : hasIds H' l ls Hs := fun i x hx => by
    obtain ⟨g, hg, hw⟩ := hasIds_of hs h7 i x hx
    have hi : i < l.length := by have := (List.getElem?_eq_some_iff.1 hx).1; have := Nat.eq_of_beq_eq_true h2; omega
    exact ⟨g, (he _ (hft _ (List.mem_of_getElem? (at_pick hi)))).trans hg, hw⟩
  have h8 := (hst.sub l ls Hs h1 h2 h6 hids).toRd
  rw [allRd_map hrd] at h8
  have := C _ _ h8
  rw [args_ren (subG_ok r l ls Hs.length) hsc.1]
  refine this.mono ?_
  rintro e w' ⟨rfl, hbl⟩
  exact ⟨by rw [AV.ren_conc (subG_ok r l ls Hs.length) hsc.2], hbl⟩

/-! ### Contracts by runs -/
/-- The first so many have the numbers that they had. -/
def idB : Nat → Nat → List Nat → Bool
  | _, 0, _ => true
  | _, _ + 1, [] => false
  | i, n + 1, j :: l => Nat.beq j i && idB (i + 1) n l
theorem idB_at : ∀ (n k : Nat) (l : List Nat), idB k n l = true → ∀ i, i < n → l[i]? = some (k + i)
  | 0, _, _, _, i, hi => by omega
  | n + 1, k, [], h, i, hi => by simp [idB] at h
  | n + 1, k, j :: l, h, i, hi => by
    simp only [idB, Bool.and_eq_true] at h
    cases i with
    | zero => simp [Nat.eq_of_beq_eq_true h.1]
    | succ i =>
      simp only [List.getElem?_cons_succ]
      rw [idB_at n (k + 1) l h.2 i (by omega)]
      congr 1; omega

def viewOk (n : Nat) (H : AH) (l ls : List Nat) (Hs : AH) : Bool :=
  nodupB l && Nat.beq l.length Hs.length && Hs.scB && flagsL H l Hs && viewB 0 l Hs && idB 0 n l && idB 0 n ls

/-- What is left of what is known. -/
theorem St.view {r : Gh} {H : AH} {W0 : Base} {w : World} (hst : St r H W0 w) (n : Nat) (l ls : List Nat) (Hs : AH) (hb : viewOk n H l ls Hs = true) (hs : selH H l = renH l ls Hs) : ∃ r', Agree n r r' ∧ RenOk Hs.length (pick l) (pick ls) r r' ∧ St r' Hs W0 w := by
  simp only [viewOk, Bool.and_eq_true] at hb
  obtain ⟨⟨⟨⟨⟨⟨h1, h2⟩, h3⟩, h4⟩, h5⟩, h6⟩, h7⟩ := hb
  refine ⟨subG r l ls, ⟨fun i hi => ?_, fun i hi => ?_⟩, subG_ok r l ls _, hst.subW l ls Hs h1 h2 h3 (hasIds_of hs h4) h5⟩
  · show r.b (pick l i) = r.b i
    rw [pick_at (idB_at n 0 l h6 i hi), Nat.zero_add]
  · show r.s (pick ls i) = r.s i
    rw [pick_at (idB_at n 0 ls h7 i hi), Nat.zero_add]

/-- A function by a run, what is known of memory at its end turned to what is told. -/
theorem ctr_run (hmx : P.follows .mixedOrders = true) (T : CT P) {f : FuncId} {args : List AV} {Hs Hs' : AH} (D : List Dec) (v v' : AV) (ps : List Prop) (hv : (runF P T f args Hs D).v = some v') (hq : (runF P T f args Hs D).ps = ps) (hps : Holds ps)
    (l ls : List Nat) (hb : viewOk Hs.length (runF P T f args Hs D).H l ls Hs' = true) (hs : selH (runF P T f args Hs D).H l = renH l ls Hs') (hvv : v' = v.ren (pick l) (pick ls)) (hvs : v.sc Hs'.length = true) : Ctr P f args Hs v Hs' := by
  intro r W0 w hst
  have e : fnA P T f args Hs D = some (v', (runF P T f args Hs D).H, ps) := by
    rw [← hq]
    unfold runF at hv ⊢
    cases h : fnA P T f args Hs D with
    | none => rw [h] at hv; cases hv
    | some y => rw [h] at hv; cases hv; rfl
  refine (fnA_calls hmx e hps hst).mono ?_
  rintro x w' ⟨r1, hag, rfl, hst1⟩
  obtain ⟨r2, hag2, hren, hst2⟩ := hst1.view Hs.length l ls Hs' hb hs
  exact ⟨r2, hag.trans hag2 (Nat.le_refl _), by rw [hvv, AV.ren_conc hren hvs], hst2⟩

/-- A method: the object is taken apart, and put together. -/
theorem ctr_openC {f : FuncId} {args : List AV} {Hs Hs' : AH} {k h g : Nat} {x x' : X} {Hx Hx' H2 : AH} {v v' : AV} (hk : Hs[k]? = some (.abs h x, g)) (hg : g ≠ 0) (hx : shape x = some Hx) (hx' : shape x' = some Hx')
    (hsc : (Hs.scB && Hx.scB && Nat.blt 0 Hx.length && Hx'.scB && Nat.blt 0 Hx'.length && args.all (AV.sc Hs.length) && Nat.ble Hs.length H2.length) = true)
    (C : Ctr P f args (openH Hs k Hx) v' H2) (lc lcs : List Nat) (hc : (H2.scB && nodupB lc && Nat.beq lc.length Hx'.length && flagsL H2 lc Hx' && flagsB H2 lc) = true) (hcs : selH H2 lc = renH lc lcs Hx')
    (l ls : List Nat) (hb : viewOk Hs.length (closeH lc h x' 0 H2) l ls Hs' = true) (hs : selH (closeH lc h x' 0 H2) l = renH l ls Hs') (hvv : v' = v.ren (pick l) (pick ls)) (hvs : v.sc Hs'.length = true) : Ctr P f args Hs v Hs' := by
  intro r W0 w hst
  simp only [Bool.and_eq_true] at hsc hc
  obtain ⟨⟨⟨⟨⟨⟨s1, s2⟩, s3⟩, s4⟩, s5⟩, s6⟩, s7⟩ := hsc
  obtain ⟨⟨⟨⟨c1, c2⟩, c3⟩, c4⟩, c5⟩ := hc
  obtain ⟨r0, hag0, hst0⟩ := hst.open s1 hk hx s2 s3 hg
  have hargs : (args.map (AV.conc r)).toArray = (args.map (AV.conc r0)).toArray := by
    congr 1
    exact List.map_congr_left fun a ha => (AV.conc_agree hag0 (List.all_eq_true.1 s6 a ha)).symm
  rw [hargs]
  refine (C r0 W0 w hst0).mono ?_
  rintro y w' ⟨r1, hag1, rfl, hst1⟩
  have hne : Hx ≠ [] := fun e => by rw [e] at s3; simp at s3
  have hlen : Hs.length ≤ (openH Hs k Hx).length := by rw [openH_len hk hne]; omega
  obtain ⟨r2, hag2, hsame, hst2⟩ := hst1.close c1 lc lcs h x' Hx' hx' s4 c2 c3 s5 (hasIds_of hcs c4) c5
  obtain ⟨r3, hag3, hren, hst3⟩ := hst2.view Hs.length l ls Hs' hb hs
  have hl2 : Hs.length ≤ H2.length := by simpa using s7
  exact ⟨r3, (hag0.trans hag1 hlen).trans ((hag2.mono hl2).trans hag3 (Nat.le_refl _)) (Nat.le_refl _), by rw [hvv, ← AV.ren_conc hren hvs, hsame], hst3⟩

/-- The same, by a run. -/
theorem ctr_meth (hmx : P.follows .mixedOrders = true) (T : CT P) (D : List Dec) {f : FuncId} {args : List AV} {Hs Hs' : AH} (k : Nat) {h g : Nat} {x x' : X} {Hx Hx' : AH} (hk : Hs[k]? = some (.abs h x, g)) (hg : g ≠ 0) (hx : shape x = some Hx) (hx' : shape x' = some Hx')
    (hsc : (Hs.scB && Hx.scB && Nat.blt 0 Hx.length && Hx'.scB && Nat.blt 0 Hx'.length && args.all (AV.sc Hs.length) && Nat.ble Hs.length (List.length (runF P T f args (openH Hs k Hx) D).H)) = true)
    (v v' : AV) (ps : List Prop) (hv : (runF P T f args (openH Hs k Hx) D).v = some v') (hq : (runF P T f args (openH Hs k Hx) D).ps = ps) (hps : Holds ps)
    (lc lcs : List Nat) (hc : ((runF P T f args (openH Hs k Hx) D).H.scB && nodupB lc && Nat.beq lc.length Hx'.length && flagsL (runF P T f args (openH Hs k Hx) D).H lc Hx' && flagsB (runF P T f args (openH Hs k Hx) D).H lc) = true)
    (hcs : selH (runF P T f args (openH Hs k Hx) D).H lc = renH lc lcs Hx')
    (l ls : List Nat) (hb : viewOk Hs.length (closeH lc h x' 0 (runF P T f args (openH Hs k Hx) D).H) l ls Hs' = true) (hs : selH (closeH lc h x' 0 (runF P T f args (openH Hs k Hx) D).H) l = renH l ls Hs')
    (hvv : v' = v.ren (pick l) (pick ls)) (hvs : v.sc Hs'.length = true) : Ctr P f args Hs v Hs' := by
  refine ctr_openC hk hg hx hx' hsc (fun r W0 w hst => ?_) lc lcs hc hcs l ls hb hs hvv hvs
  have e : fnA P T f args (openH Hs k Hx) D = some (v', (runF P T f args (openH Hs k Hx) D).H, ps) := by
    rw [← hq]
    unfold runF at hv ⊢
    cases h : fnA P T f args (openH Hs k Hx) D with
    | none => rw [h] at hv; cases hv
    | some y => rw [h] at hv; cases hv; rfl
  exact fnA_calls hmx e hps hst

/-- A method that only reads. -/
theorem ctrQ_meth (hmx : P.follows .mixedOrders = true) (T : CT P) {f : FuncId} {args : List AV} {Hs : AH} (k : Nat) {h g : Nat} {x : X} {Hx : AH} (hk : Hs[k]? = some (.abs h x, g)) (hx : shape x = some Hx)
    (hsc : (Hs.scB && Hx.scB && Nat.blt 0 Hx.length && args.all (AV.sc Hs.length)) = true) (hrd : allRd (openH Hs k Hx) = true)
    (D : List Dec) (v : AV) (ps : List Prop) (hv : (runF P T f args (openH Hs k Hx) D).v = some v) (hq : (runF P T f args (openH Hs k Hx) D).ps = ps) (hps : Holds ps) (hvs : v.sc Hs.length = true) : CtrQ P f args Hs v := by
  intro r w hst
  simp only [Bool.and_eq_true] at hsc
  obtain ⟨⟨⟨s1, s2⟩, s3⟩, s6⟩ := hsc
  obtain ⟨r0, hag0, hst0⟩ := hst.openR s1 hk hx s2 s3
  have e : fnA P T f args (openH Hs k Hx) D = some (v, (runF P T f args (openH Hs k Hx) D).H, ps) := by
    rw [← hq]
    unfold runF at hv ⊢
    cases h : fnA P T f args (openH Hs k Hx) D with
    | none => rw [h] at hv; cases hv
    | some y => rw [h] at hv; cases hv; rfl
  have hargs : (args.map (AV.conc r)).toArray = (args.map (AV.conc r0)).toArray := by
    congr 1
    exact List.map_congr_left fun a ha => (AV.conc_agree hag0 (List.all_eq_true.1 s6 a ha)).symm
  rw [hargs]
  refine (fnA_calls hmx e hps hst0).mono ?_
  rintro y w' ⟨r1, hag1, rfl, hst1⟩
  have hne : Hx ≠ [] := fun e => by rw [e] at s3; simp at s3
  have hlen : Hs.length ≤ (openH Hs k Hx).length := by rw [openH_len hk hne]; omega
  refine ⟨by rw [AV.conc_agree (hag0.trans hag1 hlen) hvs], hst1.below fun b ⟨i, x, h1, h2, h3⟩ => ?_⟩
  have := List.all_eq_true.1 hrd x (List.mem_of_getElem? h2)
  exact h3 (Nat.eq_of_beq_eq_true this)

/-- A function that only reads. -/
theorem ctrQ_run (hmx : P.follows .mixedOrders = true) (T : CT P) {f : FuncId} {args : List AV} {Hs : AH} (D : List Dec) (v : AV) (ps : List Prop) (hv : (runF P T f args Hs D).v = some v) (hq : (runF P T f args Hs D).ps = ps) (hps : Holds ps) (hvs : v.sc Hs.length = true) : CtrQ P f args Hs v := by
  intro r w hst
  have e : fnA P T f args Hs D = some (v, (runF P T f args Hs D).H, ps) := by
    rw [← hq]
    unfold runF at hv ⊢
    cases h : fnA P T f args Hs D with
    | none => rw [h] at hv; cases hv
    | some y => rw [h] at hv; cases hv; rfl
  refine (fnA_calls hmx e hps hst).mono ?_
  rintro y w' ⟨r1, hag1, rfl, hst1⟩
  exact ⟨by rw [AV.conc_agree hag1 hvs], hst1.belowR⟩

end Go.Proofs.Ytobonipmnidadaa

namespace Go.Proofs.Ytobonipmnidadaa
open Go.RowKit
variable {P : Program}

/-- A kind of lists. -/
structure LK (P : Program) where
  α : Type
  inst : Elt α
  toX : List α → X
  ex : X → Option (List α)
  ex_mk : ∀ {x l}, ex x = some l → x = toX l
  e : TypeId
  by_ : Nat
  z : Value
  rep : ∀ {l w root s own im}, Rp (toX l) w root s own im ↔ LstRep e l w s own
  info : (P.info? e).map (fun i => (i.size, i.bytes)) = some (Elt.sz α, by_)
  zero : (P.info? e).bind (·.zero) = some z
  zc : z.cells = (Elt.cells (Elt.zero : α)).toArray

/-- The object behind a handle. -/
def findSl : AH → Nat → Nat → Option (Nat × X)
  | [], _, _ => none
  | (.abs h' x, _) :: H, h, k => cond (Nat.beq h' h) (some (k, x)) (findSl H h (k + 1))
  | _ :: H, h, k => findSl H h (k + 1)

theorem findSl_eq {H : AH} {h k i : Nat} {x : X} (hf : findSl H h k = some (i, x)) : k ≤ i ∧ ∃ g, H[i - k]? = some (.abs h x, g) := by
  induction H generalizing k with
  | nil => cases hf
  | cons y H ih =>
    obtain ⟨a, g⟩ := y
    have rest : findSl H h (k + 1) = some (i, x) → k ≤ i ∧ ∃ g', ((a, g) :: H)[i - k]? = some (.abs h x, g') := fun hr => by
      obtain ⟨h1, g', h2⟩ := ih hr
      refine ⟨by omega, g', ?_⟩
      rw [show i - k = (i - (k + 1)) + 1 by omega]
      simpa using h2
    cases a with
    | abs h' x' =>
      simp only [findSl] at hf
      cases hb : Nat.beq h' h with
      | true =>
        rw [hb] at hf; cases hf
        rw [Nat.eq_of_beq_eq_true hb]
        exact ⟨Nat.le_refl _, g, by simp⟩
      | false => rw [hb] at hf; exact rest hf
    | cells _ _ => exact rest hf
    | raw _ => exact rest hf
    | hand => exact rest hf

/-- The list behind a slice. -/
def lstAt (K : LK P) (H : AH) (v : AV) : Option (Nat × Nat × List K.α) :=
  match v with
  | .tv (.one (.sl h)) => match findSl H h 0 with
    | some (i, x) => match K.ex x with
      | some l => some (i, h, l)
      | none => none
    | none => none
  | _ => none

theorem lstAt_eq {K : LK P} {H : AH} {v : AV} {i h : Nat} {l : List K.α} (hl : lstAt K H v = some (i, h, l)) : v = .c (.sl h) ∧ ∃ g, H[i]? = some (.abs h (K.toX l), g) := by
  unfold lstAt at hl
  split at hl
  · rename_i h'
    cases hf : findSl H h' 0 with
    | none => simp [hf] at hl
    | some y =>
      obtain ⟨j, x⟩ := y
      simp only [hf] at hl
      cases hx : K.ex x with
      | none => simp [hx] at hl
      | some l' =>
        simp [hx] at hl
        obtain ⟨rfl, rfl, rfl⟩ := hl
        obtain ⟨_, g, hg⟩ := findSl_eq hf
        rw [K.ex_mk hx] at hg
        exact ⟨rfl, g, by simpa using hg⟩
  · cases hl

theorem LstRep.n {α : Type} [Elt α] {e : TypeId} {l : List α} {w : World} {s : SV} {own : Nat → Prop} (h : LstRep e l w s own) : s.n = l.length := by
  rcases h.1.2 with ⟨h1, h2⟩ | ⟨g, cap, cur, h1, _⟩
  · simp only [SV.v, Value.slice.injEq] at h1; rw [h1.2.1]; exact h2.symm
  · simp only [SV.v, Value.slice.injEq] at h1; exact h1.2.1

theorem flatMap_at {α : Type} [Elt α] (l : List α) (i j : Nat) (hi : i < l.length) (hj : j < Elt.sz α) : (l.flatMap Elt.cells)[i * Elt.sz α + j]? = (Elt.cells (l.getD i Elt.zero))[j]? := by
  induction l generalizing i with
  | nil => simp at hi
  | cons a l ih =>
    simp only [List.flatMap_cons]
    cases i with
    | zero =>
      rw [List.getElem?_append_left (by rw [Elt.len]; omega)]
      simp
    | succ i =>
      rw [List.getElem?_append_right (by rw [Elt.len, Nat.succ_mul]; omega), Elt.len]
      rw [show (i + 1) * Elt.sz α + j - Elt.sz α = i * Elt.sz α + j by rw [Nat.succ_mul]; omega]
      simpa using ih i (by simpa using hi)

theorem LstRep.cell {α : Type} [Elt α] {e : TypeId} {l : List α} {w : World} {s : SV} {own : Nat → Prop} (h : LstRep e l w s own) {i j : Nat} (hi : i < l.length) (hj : j < Elt.sz α) :
    w.cell? (s.cellAt (i * Elt.sz α + j)) = (Elt.cells (l.getD i Elt.zero))[j]? ∧ ∃ g, s.a = some ⟨g, 0, none⟩ := by
  have hr := h.1
  rcases h.1.2 with ⟨h1, h2⟩ | ⟨g, cap, cur, h1, _⟩
  · omega
  · obtain ⟨a, n, c⟩ := s
    simp only [SV.v, Value.slice.injEq] at h1
    obtain ⟨rfl, rfl, rfl⟩ := h1
    have hlt : i * Elt.sz α + j < l.length * Elt.sz α := by
      have : (i + 1) * Elt.sz α ≤ l.length * Elt.sz α := Nat.mul_le_mul_right _ hi
      rw [Nat.succ_mul] at this; omega
    have := World.ownsRow.cellAt (h := hr) (i * Elt.sz α + j) hlt
    simp only [SV.cellAt, Nat.zero_add]
    rw [this, flatMap_at l i j hi hj]
    exact ⟨rfl, g, rfl⟩

/-! ### What is only read -/
def sliceOf (P : Program) (K : LK P) (t : TypeId) : Bool := match P.underlying t with | some (.slice e) => Nat.beq e K.e | _ => false
theorem sliceOf_eq {K : LK P} {t : TypeId} (h : sliceOf P K t = true) : P.underlying t = some (.slice K.e) := by
  unfold sliceOf at h
  split at h
  · rename_i e hu; rw [hu, Nat.eq_of_beq_eq_true h]
  · cases h

/-- The list behind an address of a cell of a slice. -/
def elAt (K : LK P) (H : AH) (v : AV) : Option (Nat × Nat × List K.α × Nat × Nat) :=
  match v with
  | .tv (.one (.el h i sz off)) => match lstAt K H (.c (.sl h)) with
    | some (o, _, l) => cond (Nat.beq sz (@Elt.sz K.α K.inst)) (some (o, h, l, i, off)) none
    | none => none
  | _ => none
theorem elAt_eq {K : LK P} {H : AH} {v : AV} {o h i off : Nat} {l : List K.α} (hl : elAt K H v = some (o, h, l, i, off)) : v = .c (.el h i (@Elt.sz K.α K.inst) off) ∧ ∃ g, H[o]? = some (.abs h (K.toX l), g) := by
  unfold elAt at hl
  split at hl
  · rename_i h' i' sz' off'
    cases hf : lstAt K H (.c (.sl h')) with
    | none => simp [hf] at hl
    | some y =>
      obtain ⟨o', h'', l'⟩ := y
      simp only [hf] at hl
      cases hb : Nat.beq sz' (@Elt.sz K.α K.inst) with
      | false => simp [hb] at hl
      | true =>
        simp [hb] at hl
        obtain ⟨rfl, rfl, rfl, rfl, rfl⟩ := hl
        obtain ⟨e1, g, hg⟩ := lstAt_eq hf
        cases e1
        rw [Nat.eq_of_beq_eq_true hb]
        exact ⟨rfl, g, hg⟩
  · cases hl

def eltCvs (K : LK P) (l : List K.α) (i : Nat) : List CV := ((@Elt.cells K.α K.inst) (l.getD i (@Elt.zero K.α K.inst))).map .rig

def loadE (P : Program) (K : LK P) (t : TypeId) (l : List K.α) (i off : Nat) : Option TV :=
  match aggB P t, sizeA P t with
  | some true, some n => cond (Nat.ble (off + n) (@Elt.sz K.α K.inst)) (some (.agg (((eltCvs K l i).drop off).take n))) none
  | some false, _ => cond (Nat.blt off (@Elt.sz K.α K.inst)) (match (eltCvs K l i)[off]? with | some c => some (.one c) | none => none) none
  | _, _ => none

def lstQ (K : LK P) (ev : Operand → AV) (H : AH) (op : Op) : Option (AV × List Nat × Option Prop) :=
  match op with
  | .call c => match c.callee, c.args.toList, c.argTypes.toList with
    | .builtin .len, [x], [t] => cond (sliceOf P K t) (match lstAt K H (ev x) with
      | some (i, _, l) => some (.r (.int .i64 l.length), [i], none)
      | none => none) none
    | _, _, _ => none
  | .indexAddr t x ix => cond (sliceOf P K t) (match lstAt K H (ev x), ev ix with
    | some (i, h, l), .tv (.one (.rig (.int _ n))) => some (.c (.el h n.toNat (@Elt.sz K.α K.inst) 0), [i], some (0 ≤ n ∧ n < (l.length : Int)))
    | _, _ => none) none
  | .load t x => match elAt K H (ev x) with
    | some (o, _, l, i, off) => match loadE P K t l i off with
      | some v => some (.tv v, [o], some (i < l.length))
      | none => none
    | none => none
  | _ => none

theorem lstQ_run {K : LK P} {ev : Operand → AV} {H : AH} {o : Oper} {v : AV} {ft : List Nat} {pr : Option Prop} (h : lstQ K ev H o.op = some (v, ft, pr)) (hp : Owed pr)
    {ρ : Operand → Value} {r : Gh} {w : World} (hev : ∀ x ∈ o.op.operands, ρ x = (ev x).conc r) (hat : At r H ft w) :
    (execOp ρ o).run P w = .ok (.value (v.conc r)) w := by
  letI := K.inst
  have hinfo := K.info
  unfold execOp
  cases ho : o.op <;> rw [ho] at h hev <;> simp only [lstQ] at h <;> first | (cases h; done) | skip
  case call c =>
    split at h
    · rename_i x t h1 h2 h3
      cases hs : sliceOf P K t with
      | false => simp [hs] at h
      | true =>
        simp only [hs, cond_true] at h
        split at h
        · rename_i i hh l hl
          simp only [Option.some.injEq, Prod.mk.injEq] at h
          obtain ⟨rfl, rfl, -⟩ := h
          obtain ⟨e1, g, hg⟩ := lstAt_eq hl
          have hrep := K.rep.1 (hat.get (by simp) hg)
          have hn := hrep.n
          have hargs : c.args = #[x] := by cases hc : c.args; simp_all
          have hat' : c.argTypes = #[t] := by cases hc : c.argTypes; simp_all
          have hx : ρ x = (ev x).conc r := hev x (by simp [Op.operands, Call.operands, h1, hargs])
          simp [resolve, invoke, builtin, h1, hargs, hat', hx, e1, AV.conc, TV.conc, CV.conc, SV.v, Builtin.len_, run_underlying (sliceOf_eq hs), goInt, hn]
        · simp at h
    · simp at h
  case indexAddr t x ix =>
    cases hs : sliceOf P K t with
    | false => simp [hs] at h
    | true =>
      simp only [hs, cond_true] at h
      split at h
      · rename_i i hh l k n hl hi
        simp only [Option.some.injEq, Prod.mk.injEq] at h
        obtain ⟨rfl, rfl, rfl⟩ := h
        obtain ⟨e1, g, hg⟩ := lstAt_eq hl
        obtain ⟨h0, h1⟩ := hp.some
        have hrep := K.rep.1 (hat.get (by simp) hg)
        have hn := hrep.n
        obtain ⟨_, b, hb⟩ := hrep.cell (i := n.toNat) (j := 0) (by omega) Elt.pos
        have hx : ρ x = (ev x).conc r := hev x (by simp [Op.operands])
        have hix : ρ ix = (ev ix).conc r := hev ix (by simp [Op.operands])
        have hsz : (sizeOf K.e).run P w = .ok (Elt.sz K.α) w := by
          refine run_sizeOf_of ?_ w
          cases hq : P.info? K.e with
          | none => simp [hq] at hinfo
          | some i => simp [hq] at hinfo; simp [sizeA, hq, hinfo.1]
        have hlt : n < ((r.s hh).n : Int) := by rw [hn]; exact h1
        simp [hx, hix, e1, hi, AV.conc, TV.conc, CV.conc, SV.v, Instr.indexAt, run_underlying (sliceOf_eq hs), asIntOf, h0, hlt, hsz, hb, SV.cellAt, addr_add]
      · simp at h
  case load t x =>
    split at h
    · rename_i oi hh l i off hl
      split at h
      · rename_i u hu
        simp only [Option.some.injEq, Prod.mk.injEq] at h
        obtain ⟨rfl, rfl, rfl⟩ := h
        obtain ⟨e1, g, hg⟩ := elAt_eq hl
        have hi := hp.some
        have hrep := K.rep.1 (hat.get (by simp) hg)
        have hx : ρ x = (ev x).conc r := hev x (by simp [Op.operands])
        obtain ⟨_, b, hb⟩ := hrep.cell (j := 0) hi Elt.pos
        have hcell : ∀ j, j < Elt.sz K.α → w.cell? ⟨b, i * Elt.sz K.α + j, none⟩ = (Elt.cells (l.getD i Elt.zero))[j]? := fun j hj => by
          have := (hrep.cell hi hj).1
          simpa [SV.cellAt, hb] using this
        have hlen := Elt.len (l.getD i Elt.zero)
        have hload : (loadVar t ⟨b, i * Elt.sz K.α + off, none⟩).run P w = .ok (u.conc r) w := by
          unfold loadE at hu
          split at hu
          · rename_i n hg1 hs1
            cases hle : Nat.ble (off + n) (Elt.sz K.α) with
            | false => simp [hle] at hu
            | true =>
              simp only [hle, cond_true, Option.some.injEq] at hu
              subst hu
              have hle' : off + n ≤ Elt.sz K.α := by simpa using hle
              refine load_cells_run (l := ((eltCvs K l i).drop off |>.take n).map (CV.conc r)) hg1 hs1 (by simp only [eltCvs, List.length_map, List.length_take, List.length_drop, hlen]; omega) fun j hj => ?_
              rw [show i * Elt.sz K.α + off + j = i * Elt.sz K.α + (off + j) by omega, hcell (off + j) (by omega)]
              simp [eltCvs, hj, Function.comp_def, CV.conc]
          · rename_i hg1
            cases hle : Nat.blt off (Elt.sz K.α) with
            | false => simp [hle] at hu
            | true =>
              have hle' : off < Elt.sz K.α := by simpa using hle
              simp only [hle, cond_true] at hu
              split at hu
              · rename_i c hc
                simp only [Option.some.injEq] at hu
                subst hu
                refine load_one_run hg1 ?_
                rw [hcell off hle']
                simp only [eltCvs, List.getElem?_map] at hc
                cases hq : (Elt.cells (l.getD i Elt.zero))[off]? with
                | none => simp only [hq] at hc; cases hc
                | some v => simp only [hq, Option.map_some, Option.some.injEq] at hc; subst hc; rfl
              · cases hu
          · cases hu
        simp [hx, e1, AV.conc, TV.conc, CV.conc, SV.cellAt, hb, Instr.loadAt, Instr.sureAddr, hload]
      · simp at h
    · simp at h

/-! ### Append -/
/-- A list out of cells. -/
def ofCells (K : LK P) : Nat → List CV → Option (List K.α)
  | 0, _ => some []
  | n + 1, cs => match (@Elt.of K.α K.inst) (cs.take (@Elt.sz K.α K.inst)), ofCells K n (cs.drop (@Elt.sz K.α K.inst)) with
    | some a, some l => some (a :: l)
    | _, _ => none

theorem ofCells_eq {K : LK P} : ∀ (n : Nat) (cs : List CV) (l : List K.α), ofCells K n cs = some l → l.length = n ∧ cs.take (n * @Elt.sz K.α K.inst) = (l.flatMap (@Elt.cells K.α K.inst)).map .rig
  | 0, cs, l, h => by simp [ofCells] at h; subst h; simp
  | n + 1, cs, l, h => by
    letI := K.inst
    unfold ofCells at h
    split at h
    · rename_i a l' h1 h2
      simp at h; subst h
      obtain ⟨h3, h4⟩ := ofCells_eq n _ _ h2
      refine ⟨by simp [h3], ?_⟩
      have h5 := Elt.of_eq h1
      have h6 : cs.take (Elt.sz K.α) ++ (cs.drop (Elt.sz K.α)).take (n * Elt.sz K.α) = cs.take ((n + 1) * Elt.sz K.α) := by
        rw [Nat.succ_mul, Nat.add_comm, List.take_add]
      rw [← h6, h4, h5]
      simp
    · cases h

/-- What is appended. -/
def newsAt (K : LK P) (H : AH) (v : AV) : Option (List K.α) :=
  match v with
  | .tv (.one (.slc j 0 n _)) => match H[j]? with
    | some (.cells cs _, _) => ofCells K n cs
    | _ => none
  | .tv (.one (.rig (.slice none 0 0))) => some []
  | v => match lstAt K H v with
    | some (_, _, l) => some l
    | none => none

theorem newsAt_run {K : LK P} {H : AH} {v : AV} {l : List K.α} (h : newsAt K H v = some l) {r : Gh} {W0 : Base} {w : World} (hst : St r H W0 w) :
    (v.conc r = .slice none 0 0 ∧ l = []) ∨ ∃ a c, v.conc r = .slice (some a) l.length c ∧ ∀ j u, (l.flatMap (@Elt.cells K.α K.inst))[j]? = some u → w.cell? (a.add j) = some u := by
  letI := K.inst
  unfold newsAt at h
  split at h
  · rename_i j n c
    split at h
    · rename_i cs t f hH
      obtain ⟨h1, h2⟩ := ofCells_eq n cs l h
      refine .inr ⟨⟨r.b j, 0, none⟩, c, by rw [h1]; rfl, fun k u hu => ?_⟩
      have hb := (hst.at_ j _ hH).1
      have hadd : (⟨r.b j, 0, none⟩ : Addr).add k = ⟨r.b j, k, none⟩ := by rw [addr_add, Nat.zero_add]
      rw [hadd]
      have hk := (List.getElem?_eq_some_iff.1 hu).1
      have h3 := congrArg (·[k]?) h2
      simp only [List.getElem?_map, hu, Option.map_some] at h3
      rw [List.getElem?_take] at h3
      split at h3
      · simp [World.cell?, hb, h3, CV.conc]
      · cases h3
    · cases h
  · cases h; exact .inl ⟨rfl, rfl⟩
  · split at h
    · rename_i i hh l' hl
      cases h
      obtain ⟨rfl, g, hg⟩ := lstAt_eq hl
      have hrep := K.rep.1 (hst.at_ i _ hg)
      rcases hrep.1.2 with ⟨h1, h2⟩ | ⟨b, cap, cur, h1, _, h3, _, _, _, h4⟩
      · exact .inl ⟨h1, List.eq_nil_of_length_eq_zero h2⟩
      · refine .inr ⟨⟨b, 0, none⟩, cap, h1, fun k u hu => ?_⟩
        rw [addr_add, Nat.zero_add]
        have hk := (List.getElem?_eq_some_iff.1 hu).1
        have hr := hrep.1
        rw [h1] at hr
        rw [World.ownsRow.cellAt (h := hr) k (by rw [← hrep.1.1]; exact hk)]
        exact hu
    · cases h

theorem ownsRow_mono {w : World} {b b' : Nat} {e : TypeId} {size n : Nat} {v : Value} {xs : List Value} (h : w.ownsRow b e size v n xs) (hb : b' ≤ b) : w.ownsRow b' e size v n xs := by
  refine ⟨h.1, ?_⟩
  rcases h.2 with h1 | ⟨g, cap, cur, h1, h2, h3⟩
  · exact .inl h1
  · exact .inr ⟨g, cap, cur, h1, by omega, h3⟩

/-- An append: in place, or in a block of its own. -/
theorem append_run {w : World} {t ty e : TypeId} {i : TypeInfo} {z : Value} {size bytes : Nat} (ht : P.underlying t = some (.slice e)) (hi : P.info? e = some i) (hz : i.zero = some z)
    (hsize : i.size = size) (hby : i.bytes = bytes) (hzs : z.cells.size = size) (hsz : 0 < size) {v : Value} {n : Nat} {xs : List Value} (hown : w.ownsRow 0 e size v n xs)
    {a : Addr} {m c : Nat} {news : List Value} (hl : news.length = m * size) (hnews : ∀ j u, news[j]? = some u → w.cell? (a.add j) = some u) (h1 : ∀ u ∈ news, u.oneCell' = true)
    (h63 : n + m ≤ maxLen) (hbytes : (n + m) * bytes ≤ 140737488355328) :
    ∃ v' w', (Builtin.append_ #[t, t] ty #[v, .slice (some a) m c]).run P w = .ok v' w' ∧ w'.ownsRow 0 e size v' (n + m) (xs ++ news) ∧ w.grownBy w' v.ownBlock ∧ ∀ b, v'.ownBlock = some b → v.ownBlock = some b ∨ (w.heap.size ≤ b ∧ b < w'.heap.size) := by
  rcases hown.2 with ⟨rfl, rfl⟩ | ⟨g, cap, cur, rfl, hbg, hg, hnc, hcm, hcs, htake⟩
  · have hx : xs = [] := List.eq_nil_of_length_eq_zero (by simpa using hown.1)
    subst hx
    obtain ⟨v', w', hr, ho, hgr, _⟩ := run_append_own (P := P) w w.heap.size t ty e i z size bytes ht hi hz hsize hby hzs hsz (.slice none 0 0) 0 [] (World.ownsRow_nil w _ e size) a m c news hl hnews h1 h63 hbytes (Nat.le_refl _)
    exact ⟨v', w', hr, ownsRow_mono ho (Nat.zero_le _), hgr, fun b hb => .inr (ho.lt b hb)⟩
  · by_cases hroom : n + m ≤ cap
    · obtain ⟨w', hr, ho, hgr⟩ := run_append_fits (P := P) w 0 t ty e i size ht hi hsize g n cap xs hown a m c news hl hnews h1 hroom
      exact ⟨_, w', hr, ho, hgr, fun b hb => .inl hb⟩
    · subst hsize; subst hby
      have hsmall : n + m ≤ 9223372036854775807 := by simp only [maxLen] at h63; omega
      have holds : ∀ j u, xs[j]? = some u → w.cell? ((⟨g, 0, none⟩ : Addr).add j) = some u := hown.cells (g := g) rfl
      have hr := run_append_grow (P := P) w t ty e i z ht hi hz ⟨g, 0, none⟩ n cap xs hown.1 holds a m c news hl hnews (by omega) (by omega) (growslice_fits (by omega) hbytes)
      have hge := grownCap_ge w (n + m) cap e
      have hcm' : grownCap w (n + m) cap e ≤ maxLen := grownCap_le_maxLen w (n + m) cap e h63
      have hlen : (xs ++ news).length = (n + m) * i.size := by rw [List.length_append, hown.1, hl, Nat.add_mul]
      refine ⟨_, _, hr, ⟨hlen, .inr ⟨w.heap.size, _, _, rfl, Nat.zero_le _, heap_alloc_new w.drew _, hge, hcm', ?_, ?_⟩⟩, ⟨rfl, rfl, rfl, by simp, fun k hk _ => heap_alloc_old w.drew _ hk⟩, fun b hb => .inr ?_⟩
      · simp only [Array.size_append, List.size_toArray, size_zeroCells, hzs, hown.1, hl, ← Nat.add_mul]
        congr 1
        omega
      · simp only [Array.toList_append, List.append_assoc]
        rw [← List.append_assoc, ← hlen]
        exact List.take_left
      · simp only [Value.ownBlock, Option.some.injEq] at hb
        subst hb
        simp

/-- A slice's value, as one. -/
def svOf (v : Value) : SV := match v with | .slice a n c => ⟨a, n, c⟩ | _ => ⟨none, 0, 0⟩
theorem svOf_own {w : World} {e : TypeId} {size : Nat} {v : Value} {n : Nat} {xs : List Value} (h : w.ownsRow 0 e size v n xs) : (svOf v).v = v := by
  rcases h.2 with ⟨rfl, _⟩ | ⟨g, cap, cur, rfl, _⟩ <;> rfl

/-- A new handle. -/
def hnd (r : Gh) (n : Nat) (s : SV) (b : Option Nat) (size i : Nat) : Gh := ⟨r.b, fun j => if j = n then s else r.s j, fun x => if b = some x ∧ size ≤ x then some i else r.o x, r.im⟩
theorem hnd_agree (r : Gh) (n : Nat) (s : SV) (b : Option Nat) (size i : Nat) : Agree n r (hnd r n s b size i) := ⟨fun _ _ => rfl, fun j hj => by simp [hnd]; omega⟩

def roomOk (n by_ : Nat) : Prop := n ≤ maxLen ∧ n * by_ ≤ 140737488355328

def lstE (K : LK P) (ev : Operand → AV) (H : AH) (op : Op) : Option (AV × List (Nat × AO) × List AO × Option Prop) :=
  match op with
  | .call c => match c.callee, c.args.toList, c.argTypes.toList with
    | .builtin .append, [x, y], [t, t'] => cond (sliceOf P K t && Nat.beq t t') (match newsAt K H (ev y) with
      | some l2 => match ev x with
        | .tv (.one (.rig (.slice none 0 0))) => some (.c (.sl H.length), [], [.abs H.length (K.toX l2)], some (roomOk l2.length K.by_))
        | vx => match lstAt K H vx with
          | some (i, _, l) => some (.c (.sl H.length), [(i, .abs H.length (K.toX (l ++ l2)))], [.hand], some (roomOk (l.length + l2.length) K.by_))
          | none => none
      | none => none) none
    | _, _, _ => none
  | _ => none

theorem LK.info' (K : LK P) : ∃ i, P.info? K.e = some i ∧ i.size = @Elt.sz K.α K.inst ∧ i.bytes = K.by_ ∧ i.zero = some K.z := by
  have h1 := K.info
  have h2 := K.zero
  cases hq : P.info? K.e with
  | none => simp [hq] at h1
  | some i => simp [hq] at h1 h2; exact ⟨i, rfl, h1.1, h1.2, h2⟩

theorem LK.zsize (K : LK P) : K.z.cells.size = @Elt.sz K.α K.inst := by
  rw [K.zc]; simpa using @Elt.len K.α K.inst _

theorem flat_one {K : LK P} (l : List K.α) : ∀ u ∈ l.flatMap (@Elt.cells K.α K.inst), u.oneCell' = true := fun u hu => by
  obtain ⟨a, _, ha⟩ := List.mem_flatMap.1 hu
  exact @Elt.one K.α K.inst a u ha

theorem flat_len {K : LK P} (l : List K.α) : (l.flatMap (@Elt.cells K.α K.inst)).length = l.length * @Elt.sz K.α K.inst := by
  induction l with
  | nil => simp
  | cons a l ih => simp [ih, @Elt.len K.α K.inst, Nat.succ_mul, Nat.add_comm]

/-- The append itself: whatever is appended. -/
theorem append_any {K : LK P} {H : AH} {vx vy : Value} {r : Gh} {W0 : Base} {w : World} (hst : St r H W0 w) {ay : AV} {l2 : List K.α} (hy : newsAt K H ay = some l2) (hvy : vy = ay.conc r) {t ty : TypeId} (ht : P.underlying t = some (.slice K.e))
    {l : List K.α} (hown : w.ownsRow 0 K.e (@Elt.sz K.α K.inst) vx l.length (l.flatMap (@Elt.cells K.α K.inst))) (hroom : roomOk (l.length + l2.length) K.by_) :
    ∃ v' w', (Builtin.append_ #[t, t] ty #[vx, vy]).run P w = .ok v' w' ∧ w'.ownsRow 0 K.e (@Elt.sz K.α K.inst) v' (l ++ l2).length ((l ++ l2).flatMap (@Elt.cells K.α K.inst)) ∧ w.grownBy w' vx.ownBlock ∧
      ∀ b, v'.ownBlock = some b → vx.ownBlock = some b ∨ (w.heap.size ≤ b ∧ b < w'.heap.size) := by
  letI := K.inst
  obtain ⟨i, hi, hsz, hby, hz⟩ := K.info'
  subst hvy
  rcases newsAt_run hy hst with ⟨e1, rfl⟩ | ⟨a, c, e1, hnews⟩
  · rw [e1]
    have := run_append_owned_none (P := P) w 0 t ty K.e i (Elt.sz K.α) ht hi vx l.length _ hown
    exact ⟨vx, w, this, by simpa using hown, ⟨rfl, rfl, rfl, Nat.le_refl _, fun _ _ _ => rfl⟩, fun b hb => .inl hb⟩
  · rw [e1]
    obtain ⟨v', w', h1, h2, h3, h4⟩ := append_run (ty := ty) (c := c) ht hi hz hsz hby K.zsize Elt.pos hown (flat_len l2) hnews (flat_one l2) hroom.1 hroom.2
    exact ⟨v', w', h1, by simpa using h2, h3, h4⟩

theorem lstE_run {K : LK P} {ev : Operand → AV} {H : AH} {o : Oper} {v : AV} {upd : List (Nat × AO)} {new : List AO} {pr : Option Prop} (h : lstE K ev H o.op = some (v, upd, new, pr)) (hp : Owed pr)
    {ρ : Operand → Value} {r : Gh} {W0 : Base} {w : World} (hev : ∀ x ∈ o.op.operands, ρ x = (ev x).conc r) (hst : St r H W0 w) (hu : updOk H upd = true) (hsc : H.scB = true) :
    ∃ r' w', Agree H.length r r' ∧ St r' (moveH H upd new) W0 w' ∧ ((execOp ρ o).run P w = .ok (.value (v.conc r')) w' ∨ ((execOp ρ o).run P w = .ok .skip w' ∧ v = .undef)) := by
  letI := K.inst
  unfold execOp
  cases ho : o.op <;> rw [ho] at h hev <;> simp only [lstE] at h <;> first | (cases h; done) | skip
  rename_i c
  split at h
  · rename_i x y t t' h1 h2 h3
    cases hs : (sliceOf P K t && Nat.beq t t') with
    | false => simp [hs] at h
    | true =>
      simp only [hs, cond_true] at h
      simp only [Bool.and_eq_true] at hs
      obtain ⟨hs, htt⟩ := hs
      obtain rfl := Nat.eq_of_beq_eq_true htt
      have hut := sliceOf_eq hs
      have hargs : c.args = #[x, y] := by cases hc : c.args; simp_all
      have hat' : c.argTypes = #[t, t] := by cases hc : c.argTypes; simp_all
      have hx : ρ x = (ev x).conc r := hev x (by simp [Op.operands, Call.operands, h1, hargs])
      have hy : ρ y = (ev y).conc r := hev y (by simp [Op.operands, Call.operands, h1, hargs])
      split at h
      · rename_i l2 hl2
        -- what is common
        have main : ∀ (l : List K.α) (i : Nat), w.ownsRow 0 K.e (Elt.sz K.α) (ρ x) l.length (l.flatMap Elt.cells) → roomOk (l.length + l2.length) K.by_ → (∀ b, (ρ x).ownBlock = some b → r.o b = some i) → (i = H.length ∨ ∃ y, H[i]? = some y ∧ y.2 ≠ 0) →
            ∀ (H' : AH), (∀ (j : Nat) (x : AO × Nat), H'[j]? = some x → j ≠ i → j ≠ H.length → H[j]? = some x) → (∀ (x : AO × Nat), H'[i]? = some x → x.1 = .abs H.length (K.toX (l ++ l2))) → (∀ (x : AO × Nat), i ≠ H.length → H'[H.length]? = some x → x.1 = .hand) → i < H'.length → H.length < H'.length →
            ∃ r' w', Agree H.length r r' ∧ St r' H' W0 w' ∧ (Builtin.append_ #[t, t] o.type #[ρ x, ρ y]).run P w = .ok ((AV.c (.sl H.length)).conc r') w' := by
          intro l i hown hroom hob hi H' hsame hnew hhand hil hHl
          obtain ⟨v', w', e1, e2, e3, e4⟩ := append_any (ty := o.type) hst hl2 hy hut hown hroom
          refine ⟨hnd r H.length (svOf v') v'.ownBlock w.heap.size i, w', hnd_agree _ _ _ _ _ _, ?_, ?_⟩
          · have hsz0 := hst.size
            have hszw := e3.size
            have hblk : ∀ b, (∃ j, r.o b = some j ∧ j ≠ i) ∨ r.im b ∨ (b < W0.w.heap.size ∧ ¬ W0.Z b) → b < w.heap.size → w'.heap[b]? = w.heap[b]? := fun b hb hbl => e3.block b hbl fun e => by
              have h5 := hob b e.symm
              rcases hb with ⟨j, h6, h7⟩ | h6 | ⟨h6, h7⟩
              · rw [h5] at h6; cases h6; exact h7 rfl
              · have := (hst.hold.imm b h6).1; rw [h5] at this; cases this
              · rcases hi with h8 | ⟨y, h8, h9⟩
                · have := (hst.hold.ow b i h5).1; omega
                · rcases hst.wr b i y h5 h8 h9 with h | h
                  · omega
                  · exact h7 h
            refine hst.change (hnd_agree _ _ _ _ _ _) hsc (fun j => j = i ∨ j = H.length) (fun j x hx hj => hsame j x hx (fun e => hj (.inl e)) (fun e => hj (.inr e))) (fun j x hx hj => ?_) (fun b j hj => ?_) (fun b j y hb hj hy hf => ?_) (fun b j hb hj => ?_) (fun b j hb => ?_) (fun b hb => hb) (fun b hb => .inl hb) (fun b hb => ?_) (fun b hb => .inl hb) (fun b hb => ?_) (fun b hb hz => hblk b (.inr (.inr ⟨hb, hz⟩)) (by omega)) e3.os e3.tape e3.output e3.size
            · by_cases hji : j = i
              · subst hji
                rw [hnew x hx]
                simp only [AO.holds, hnd, if_true]
                refine K.rep.2 ⟨?_, fun b hb => ?_⟩
                · rw [svOf_own e2]; exact e2
                · rw [svOf_own e2] at hb
                  show (if v'.ownBlock = some b ∧ w.heap.size ≤ b then some j else r.o b) = some j
                  rcases e4 b hb with h5 | h5
                  · by_cases h6 : w.heap.size ≤ b
                    · rw [if_pos ⟨hb, h6⟩]
                    · rw [if_neg (fun h => h6 h.2)]; exact hob b h5
                  · rw [if_pos ⟨hb, h5.1⟩]
              · have hjH : j = H.length := by rcases hj with h | h; exact absurd h hji; exact h
                subst hjH
                rw [hhand x (fun e => hji e.symm) hx]
                intro b hb
                simp only [hnd] at hb
                split at hb
                · cases hb; exact hji rfl
                · have := (hst.hold.ow b _ hb).1; omega
            · simp only [hnd]
              split
              · rename_i hc
                have := hst.none_ge hc.2
                rw [this]
                simp only [Option.some.injEq, reduceCtorEq, iff_false]
                intro e; exact hj (.inl e.symm)
              · exact Iff.rfl
            · simp only [hnd] at hb
              split at hb
              · rename_i hc; left; omega
              · rcases hi with h8 | ⟨z, h8, h9⟩
                · have := (hst.hold.ow b j hb).1
                  rcases hj with h | h <;> omega
                · have hji : j = i := by
                    rcases hj with h | h
                    · exact h
                    · have := (hst.hold.ow b j hb).1; omega
                  subst hji
                  exact hst.wr b j z hb h8 h9
            · simp only [hnd] at hb
              split at hb
              · rename_i hc; left; omega
              · exact hst.ob b j hb
            · simp only [hnd] at hb
              split at hb
              · rename_i hc
                cases hb
                refine ⟨hil, ?_⟩
                rcases e4 b hc.1 with h5 | h5
                · have := (hst.hold.ow b _ (hob b h5)).2; omega
                · exact h5.2
              · have := hst.hold.ow b j hb
                exact ⟨by omega, by omega⟩
            · have := hst.hold.imm b hb
              simp only [hnd]
              rw [if_neg (by omega)]
              exact ⟨this.1, by omega⟩
            · refine hblk b ?_ ?_
              · rcases hb with ⟨j, h5, h6⟩ | h5
                · exact .inl ⟨j, h5, fun e => h6 (.inl e)⟩
                · exact .inr (.inl h5)
              · rcases hb with ⟨j, h5, _⟩ | h5
                · exact (hst.hold.ow b j h5).2
                · exact (hst.hold.imm b h5).2
          · rw [e1]
            simp only [AV.conc, TV.conc, CV.conc, hnd, if_true]
            rw [svOf_own e2]
        split at h
        · rename_i hxe
          simp only [Option.some.injEq, Prod.mk.injEq] at h
          obtain ⟨rfl, rfl, rfl, rfl⟩ := h
          have ex : ρ x = .slice none 0 0 := hx.trans (congrArg (AV.conc r) hxe)
          have hget : ∀ j, (moveH H [] [.abs H.length (K.toX l2)])[j]? = if j = H.length then some (.abs H.length (K.toX l2), 1) else H[j]? := fun j => by
            have : moveH H [] [.abs H.length (K.toX l2)] = H ++ [(.abs H.length (K.toX l2), 1)] := by
              unfold moveH
              congr 1
              have : ∀ (k : Nat) (H : AH), turnH [] k H = H := fun k H => by
                induction H generalizing k with
                | nil => rfl
                | cons x l ih => simp [turnH, updAt, ih]
              exact this 0 H
            rw [this, getElem?_snoc]
          have hmlen : (moveH H [] [.abs H.length (K.toX l2)]).length = H.length + 1 := by simp [moveH, turnH_length]
          obtain ⟨r', w', g1, g2, g3⟩ := main [] H.length (by rw [ex]; exact World.ownsRow_nil w 0 K.e _) (by simpa using hp.some) (fun b hb => by rw [ex] at hb; cases hb) (.inl rfl) _
            (fun j x hx h5 _ => by rw [hget, if_neg h5] at hx; exact hx) (fun x hx => by rw [hget, if_pos rfl] at hx; cases hx; rfl) (fun x hx => absurd rfl hx) (by rw [hmlen]; omega) (by rw [hmlen]; omega)
          refine ⟨r', w', g1, g2, .inl ?_⟩
          simp [resolve, invoke, builtin, h1, hargs, hat', g3]
        · split at h
          · rename_i i hh l hl
            simp only [Option.some.injEq, Prod.mk.injEq] at h
            obtain ⟨rfl, rfl, rfl, rfl⟩ := h
            obtain ⟨e1, g, hg⟩ := lstAt_eq hl
            have hil := (List.getElem?_eq_some_iff.1 hg).1
            have hrep := K.rep.1 (hst.at_ i _ hg)
            have ex : ρ x = (r.s hh).v := by rw [hx, e1]; rfl
            have hg0 : g ≠ 0 := by
              have := List.all_eq_true.1 hu (i, .abs H.length (K.toX (l ++ l2))) List.mem_cons_self
              simp only [hg] at this
              intro e; rw [e] at this; simp at this
            have hget : ∀ j, (moveH H [(i, .abs H.length (K.toX (l ++ l2)))] [.hand])[j]? = if j = H.length then some (.hand, 1) else (H[j]?).map fun x => if i = j then (.abs H.length (K.toX (l ++ l2)), x.2) else x := fun j => by
              unfold moveH
              rw [List.getElem?_append, turnH_length]
              split
              · rename_i hj
                rw [if_neg (by omega), turnH_get, Nat.zero_add]
                cases H[j]? with
                | none => rfl
                | some x =>
                  simp only [Option.map_some, updAt]
                  by_cases e : i = j
                  · subst e; simp
                  · have : Nat.beq i j = false := by
                      cases hb : Nat.beq i j with
                      | false => rfl
                      | true => exact absurd (Nat.eq_of_beq_eq_true hb) e
                    simp [this, e]
              · rename_i hj
                by_cases e : j = H.length
                · subst e; simp
                · rw [if_neg e]
                  have : H[j]? = none := List.getElem?_eq_none (by omega)
                  rw [this]
                  simp; omega
            have hmlen : (moveH H [(i, .abs H.length (K.toX (l ++ l2)))] [.hand]).length = H.length + 1 := by simp [moveH, turnH_length]
            obtain ⟨r', w', g1, g2, g3⟩ := main l i (by rw [ex]; exact hrep.1) hp.some (fun b hb => by rw [ex] at hb; exact hrep.2 b hb) (.inr ⟨_, hg, hg0⟩) _
              (fun j x hx h5 h6 => by
                rw [hget, if_neg h6] at hx
                cases hj : H[j]? with
                | none => simp [hj] at hx
                | some y =>
                  have hne : ¬ i = j := fun e => h5 e.symm
                  simp only [hj, Option.map_some, if_neg hne] at hx; exact hx)
              (fun x hx => by
                rw [hget, if_neg (by omega), hg] at hx
                simp only [Option.map_some, if_true, Option.some.injEq] at hx
                rw [← hx]) (fun x _ hx => by rw [hget, if_pos rfl] at hx; cases hx; rfl) (by rw [hmlen]; omega) (by rw [hmlen]; omega)
            refine ⟨r', w', g1, g2, .inl ?_⟩
            simp [resolve, invoke, builtin, h1, hargs, hat', g3]
          · simp at h
      · simp at h
  · simp at h

/-- One kind of lists more. -/
def CT.addL {P : Program} (T : CT P) (K : LK P) : CT P :=
  (T.addOq (lstQ K) fun _ _ _ _ _ _ h hp _ _ _ hev hat => lstQ_run h hp hev hat).addOe (lstE K) fun _ _ _ _ _ _ _ h hp _ _ _ _ hev hst hu hsc => lstE_run h hp hev hst hu hsc

end Go.Proofs.Ytobonipmnidadaa
