/- The kinds of lists of this program. The executor, twenty-third part: methods as callees. The executor, twenty-fourth part: functions that make objects. The executor, twenty-fifth part: loops by what holds at their heads. The executor, twenty-sixth part: more operations: slices built of parts. The executor, twenty-seventh part: lists that came in. -/
import Derived.Test.YtobonipmnidadaaJ7
import Derived.Test.YtobonipmnidadaaJ8
namespace Go.Proofs.Ytobonipmnidadaa
open Go.RowKit

theorem rep_evs {l : List Ev} {w : World} {root : Nat} {s : SV} {own im : Nat → Prop} : Rp (.evs l) w root s own im ↔ LstRep 37 l w s own :=
  ⟨fun h => by cases h with | prim h => exact h | comp H g hs => simp [shape] at hs, fun h => .prim h⟩
theorem rep_bools {l : List Bool} {w : World} {root : Nat} {s : SV} {own im : Nat → Prop} : Rp (.bools l) w root s own im ↔ LstRep 4 l w s own :=
  ⟨fun h => by cases h with | prim h => exact h | comp H g hs => simp [shape] at hs, fun h => .prim h⟩

def KEv : LK Try.prog := {
  α := Ev
  inst := inferInstance
  toX := .evs
  ex := fun x => match x with | .evs l => some l | _ => none
  ex_mk := fun {x l} h => by cases x <;> simp at h; subst h; rfl
  e := 37
  by_ := 56
  z := zeroEv.v
  rep := rep_evs
  info := by kernel_rfl
  zero := by kernel_rfl
  zc := by rfl }

def KBool : LK Try.prog := {
  α := Bool
  inst := inferInstance
  toX := .bools
  ex := fun x => match x with | .bools l => some l | _ => none
  ex_mk := fun {x l} h => by cases x <;> simp at h; subst h; rfl
  e := 4
  by_ := 1
  z := .bool false
  rep := rep_bools
  info := by kernel_rfl
  zero := by kernel_rfl
  zc := by rfl }

end Go.Proofs.Ytobonipmnidadaa

namespace Go.Proofs.Ytobonipmnidadaa
open Go.RowKit
variable {P : Program}

def CV.rigB : CV → Bool
  | .rig _ => true
  | _ => false
def AV.rigB : AV → Bool
  | .tv t => t.cells.all CV.rigB
  | .tup l => l.all fun t => t.cells.all CV.rigB
theorem CV.ren_rig {f fs : Nat → Nat} {c : CV} (h : c.rigB = true) : c.ren f fs = c := by cases c <;> simp_all [CV.rigB, CV.ren]
theorem TV.ren_rig {f fs : Nat → Nat} {t : TV} (h : t.cells.all CV.rigB = true) : t.ren f fs = t := by
  cases t with
  | one c => simp only [TV.cells, List.all_cons, List.all_nil, Bool.and_true] at h; simp [TV.ren, CV.ren_rig h]
  | agg l =>
    simp only [TV.ren]
    congr 1
    conv => rhs; rw [← List.map_id l]
    exact List.map_congr_left fun c hc => CV.ren_rig (List.all_eq_true.1 h c hc)
theorem AV.ren_rig {f fs : Nat → Nat} {v : AV} (h : v.rigB = true) : v.ren f fs = v := by
  cases v with
  | tv t => simp only [AV.ren]; rw [TV.ren_rig h]
  | tup l =>
    simp only [AV.ren]
    congr 1
    conv => rhs; rw [← List.map_id l]
    exact List.map_congr_left fun c hc => TV.ren_rig (List.all_eq_true.1 h c hc)
theorem AV.sc_rig {n : Nat} {v : AV} (h : v.rigB = true) : v.sc n = true := by
  have hc : ∀ c : CV, c.rigB = true → c.sc n = true := fun c h => by cases c <;> simp_all [CV.rigB, CV.sc]
  have ht : ∀ t : TV, t.cells.all CV.rigB = true → t.sc n = true := fun t h => List.all_eq_true.2 fun c hm => hc c (List.all_eq_true.1 h c hm)
  cases v with
  | tv t => exact ht t h
  | tup l => exact List.all_eq_true.2 fun t hm => ht t (List.all_eq_true.1 h t hm)

/-- A method of an object, values besides; what it turns the object to, what it makes. -/
structure MethE (P : Program) where
  f : FuncId
  τ : Type
  parse : X → List AV → Option τ
  x : τ → X
  rest : τ → List AV
  v : τ → AV
  x' : τ → X
  new : τ → AH
  owed : τ → Prop
  parse_eq : ∀ {y a t}, parse y a = some t → y = x t ∧ a = rest t
  body : bodyB P f = true
  C : ∀ t, owed t → Ctr P f (.c (.ptr 0 0) :: rest t) [(.abs 0 (x t), 2)] (v t) ((.abs 0 (x' t), 2) :: new t)

def methE (M : MethE P) (args : List AV) (H : AH) : Option (AV × List (Nat × AO) × List AO × Option Prop) :=
  match args with
  | .tv (.one (.ptr i 0)) :: a => match H[i]? with
    | some (.abs h y, _) => match M.parse y a with
      | some t => cond (fewB H [i] [h] [(.abs 0 (M.x t), 2)] && AH.scB ((.abs 0 (M.x' t), 2) :: M.new t) && a.all AV.rigB && (M.v t).sc (M.new t).length.succ)
          (some ((M.v t).ren (outF [i] H.length) (outF [h] H.length), [(i, .abs h (M.x' t))], (M.new t).map fun x => x.1.ren (outF [i] H.length) (outF [h] H.length), some (M.owed t))) none
      | none => none
    | _ => none
  | _ => none

theorem methE_ok {M : MethE P} {args : List AV} {H : AH} {v : AV} {upd : List (Nat × AO)} {new : List AO} {pr : Option Prop} (he : methE M args H = some (v, upd, new, pr)) (hp : Owed pr) (r : Gh) (W0 : Base) (w : World) (hst : St r H W0 w) (hsc : H.scB = true) :
    Calls P M.f (args.map (AV.conc r)).toArray w fun e w' => ∃ r', Agree H.length r r' ∧ e = .returned (v.conc r') ∧ St r' (moveH H upd new) W0 w' := by
  unfold methE at he
  split at he
  · rename_i i a
    split at he
    · rename_i h y g hH
      cases ht : M.parse y a with
      | none => simp [ht] at he
      | some t =>
        simp only [ht] at he
        cases hc : (fewB H [i] [h] [(.abs 0 (M.x t), 2)] && AH.scB ((.abs 0 (M.x' t), 2) :: M.new t) && a.all AV.rigB && (M.v t).sc (M.new t).length.succ) with
        | false => simp [hc] at he
        | true =>
          simp only [hc, cond_true, Option.some.injEq, Prod.mk.injEq] at he
          obtain ⟨rfl, rfl, rfl, rfl⟩ := he
          simp only [Bool.and_eq_true] at hc
          obtain ⟨⟨⟨hf, hs'⟩, ha⟩, hv⟩ := hc
          obtain ⟨rfl, rfl⟩ := M.parse_eq ht
          have hC := M.C t hp.some
          have hl := hC.lift hst hsc [i] [h] hf (by simp [selH, renH, hH, AO.ren, pick]) (by
            simp only [Bool.and_eq_true, List.all_cons]
            exact ⟨⟨hs', rfl, List.all_eq_true.2 fun c hm => AV.sc_rig (List.all_eq_true.1 ha c hm)⟩, hv⟩) ⟨fun h => (by cases h), trivial⟩
          have hargs : ((AV.c (.ptr 0 0) :: M.rest t).map (AV.ren (pick [i]) (pick [h]))) = AV.tv (.one (.ptr i 0)) :: M.rest t := by
            simp only [List.map_cons]
            congr 1
            conv => rhs; rw [← List.map_id (M.rest t)]
            exact List.map_congr_left fun c hm => AV.ren_rig (List.all_eq_true.1 ha c hm)
          rw [hargs] at hl
          exact hl
    · simp at he
  · simp at he

def CT.addME (T : CT P) (M : MethE P) : CT P := T.addE M.f (methE M) M.body fun _ _ _ _ _ _ he hp r W0 w hst _ hsc => methE_ok he hp r W0 w hst hsc

/-- A method that only reads. -/
structure MethQ (P : Program) where
  f : FuncId
  τ : Type
  parse : X → List AV → Option τ
  x : τ → X
  rest : τ → List AV
  v : τ → AV
  owed : τ → Prop
  parse_eq : ∀ {y a t}, parse y a = some t → y = x t ∧ a = rest t
  body : bodyB P f = true
  C : ∀ t, owed t → CtrQ P f (.c (.ptr 0 0) :: rest t) [(.abs 0 (x t), 0)] (v t)

def methQ (M : MethQ P) (args : List AV) (H : AH) : Option (AV × List Nat × Option Prop) :=
  match args with
  | .tv (.one (.ptr i 0)) :: a => match H[i]? with
    | some (.abs h y, _) => match M.parse y a with
      | some t => cond (fewB H [i] [h] [(.abs 0 (M.x t), 0)] && a.all AV.rigB && (M.v t).rigB) (some (M.v t, [i], some (M.owed t))) none
      | none => none
    | _ => none
  | _ => none

theorem methQ_ok {M : MethQ P} {args : List AV} {H : AH} {v : AV} {ft : List Nat} {pr : Option Prop} (he : methQ M args H = some (v, ft, pr)) (hp : Owed pr) (r : Gh) (w : World) (hat : At r H ft w) :
    Calls P M.f (args.map (AV.conc r)).toArray w fun e w' => e = .returned (v.conc r) ∧ Below w.heap.size w w' := by
  unfold methQ at he
  split at he
  · rename_i i a
    split at he
    · rename_i h y g hH
      cases ht : M.parse y a with
      | none => simp [ht] at he
      | some t =>
        simp only [ht] at he
        cases hc : (fewB H [i] [h] [(.abs 0 (M.x t), 0)] && a.all AV.rigB && (M.v t).rigB) with
        | false => simp [hc] at he
        | true =>
          simp only [hc, cond_true, Option.some.injEq, Prod.mk.injEq] at he
          obtain ⟨rfl, rfl, rfl⟩ := he
          simp only [Bool.and_eq_true] at hc
          obtain ⟨⟨hf, ha⟩, hv⟩ := hc
          obtain ⟨rfl, rfl⟩ := M.parse_eq ht
          have hC := M.C t hp.some
          have hl := hC.lift hat [i] [h] hf (by simp [selH, renH, hH, AO.ren, pick]) rfl (fun _ h => h) (by
            simp only [Bool.and_eq_true, List.all_cons]
            exact ⟨⟨rfl, List.all_eq_true.2 fun c hm => AV.sc_rig (List.all_eq_true.1 ha c hm)⟩, AV.sc_rig hv⟩)
          have hargs : ((AV.c (.ptr 0 0) :: M.rest t).map (AV.ren (pick [i]) (pick [h]))) = AV.tv (.one (.ptr i 0)) :: M.rest t := by
            simp only [List.map_cons]
            congr 1
            conv => rhs; rw [← List.map_id (M.rest t)]
            exact List.map_congr_left fun c hm => AV.ren_rig (List.all_eq_true.1 ha c hm)
          rw [hargs, AV.ren_rig hv] at hl
          exact hl
    · simp at he
  · simp at he

/-- One callee more, what was known of it kept. -/
def CT.orQ (T : CT P) (f : FuncId) (q : List AV → AH → Option (AV × List Nat × Option Prop)) (hb : bodyB P f = true)
    (ok : ∀ args H v ft pr, q args H = some (v, ft, pr) → Owed pr → ∀ (r : Gh) (w : World), At r H ft w → Calls P f (args.map (AV.conc r)).toArray w fun e w' => e = .returned (v.conc r) ∧ Below w.heap.size w w') : CT P :=
  { T with
    q := fun g args H => cond (Nat.beq g f) (match q args H with | some x => some x | .none => T.q g args H) (T.q g args H)
    qok := fun g args H v ft pr h hp => by
      cases hg : Nat.beq g f with
      | false => rw [hg] at h; exact T.qok g args H v ft pr h hp
      | true =>
        rw [hg] at h
        simp only [cond_true] at h
        cases hq : q args H with
        | none => rw [hq] at h; exact T.qok g args H v ft pr h hp
        | some x =>
          rw [hq] at h
          cases h
          obtain rfl := Nat.eq_of_beq_eq_true hg
          exact ⟨hb, ok args H v ft pr hq hp⟩ }

def CT.addMQ (T : CT P) (M : MethQ P) : CT P := T.orQ M.f (methQ M) M.body fun _ _ _ _ _ he hp r w hat => methQ_ok he hp r w hat

/-- A function that makes an object (or hands back values alone), of values. -/
structure MakeE (P : Program) where
  f : FuncId
  τ : Type
  parse : List AV → Option τ
  args : τ → List AV
  v : τ → AV
  new : τ → AH
  owed : τ → Prop
  parse_eq : ∀ {a t}, parse a = some t → a = args t
  body : bodyB P f = true
  C : ∀ t, owed t → Ctr P f (args t) [] (v t) (new t)

def makeE (M : MakeE P) (a : List AV) (H : AH) : Option (AV × List (Nat × AO) × List AO × Option Prop) :=
  match M.parse a with
  | some t => cond (AH.scB (M.new t) && a.all AV.rigB && (M.v t).sc (M.new t).length)
      (some ((M.v t).ren (outF [] H.length) (outF [] H.length), [], (M.new t).map fun x => x.1.ren (outF [] H.length) (outF [] H.length), some (M.owed t))) none
  | none => none

theorem makeE_ok {M : MakeE P} {a : List AV} {H : AH} {v : AV} {upd : List (Nat × AO)} {new : List AO} {pr : Option Prop} (he : makeE M a H = some (v, upd, new, pr)) (hp : Owed pr) (r : Gh) (W0 : Base) (w : World) (hst : St r H W0 w) (hsc : H.scB = true) :
    Calls P M.f (a.map (AV.conc r)).toArray w fun e w' => ∃ r', Agree H.length r r' ∧ e = .returned (v.conc r') ∧ St r' (moveH H upd new) W0 w' := by
  unfold makeE at he
  cases ht : M.parse a with
  | none => simp [ht] at he
  | some t =>
    simp only [ht] at he
    cases hc : (AH.scB (M.new t) && a.all AV.rigB && (M.v t).sc (M.new t).length) with
    | false => simp [hc] at he
    | true =>
      simp only [hc, cond_true, Option.some.injEq, Prod.mk.injEq] at he
      obtain ⟨rfl, rfl, rfl, rfl⟩ := he
      simp only [Bool.and_eq_true] at hc
      obtain ⟨⟨hs', ha⟩, hv⟩ := hc
      obtain rfl := M.parse_eq ht
      have hl := (M.C t hp.some).lift hst hsc [] [] rfl rfl (by
        simp only [Bool.and_eq_true]
        exact ⟨⟨hs', List.all_eq_true.2 fun c hm => AV.sc_rig (List.all_eq_true.1 ha c hm)⟩, hv⟩) trivial
      have hargs : (M.args t).map (AV.ren (pick []) (pick [])) = M.args t := by
        conv => rhs; rw [← List.map_id (M.args t)]
        exact List.map_congr_left fun c hm => AV.ren_rig (List.all_eq_true.1 ha c hm)
      rw [hargs] at hl
      exact hl

def CT.addMk (T : CT P) (M : MakeE P) : CT P := T.addE M.f (makeE M) M.body fun _ _ _ _ _ _ he hp r W0 w hst _ hsc => makeE_ok he hp r W0 w hst hsc

end Go.Proofs.Ytobonipmnidadaa

namespace Go.Proofs.Ytobonipmnidadaa
open Go.RowKit
variable {P : Program} {T : CT P}

/-- What a contract leaves, put together. -/
theorem Ctr.closed {f : FuncId} {args : List AV} {Hs Hs' H2 : AH} {v v' : AV} (C : Ctr P f args Hs v' H2) (h : Nat) (x' : X) {Hx' : AH} (hx' : shape x' = some Hx') (hsc : (Hx'.scB && Nat.blt 0 Hx'.length && Nat.ble Hs.length H2.length) = true)
    (lc lcs : List Nat) (hc : (H2.scB && nodupB lc && Nat.beq lc.length Hx'.length && flagsL H2 lc Hx' && flagsB H2 lc) = true) (hcs : selH H2 lc = renH lc lcs Hx')
    (l ls : List Nat) (hb : viewOk Hs.length (closeH lc h x' 0 H2) l ls Hs' = true) (hs : selH (closeH lc h x' 0 H2) l = renH l ls Hs') (hvv : v' = v.ren (pick l) (pick ls)) (hvs : v.sc Hs'.length = true) : Ctr P f args Hs v Hs' := by
  intro r W0 w hst
  simp only [Bool.and_eq_true] at hsc hc
  obtain ⟨⟨s4, s5⟩, s7⟩ := hsc
  obtain ⟨⟨⟨⟨c1, c2⟩, c3⟩, c4⟩, c5⟩ := hc
  refine (C r W0 w hst).mono ?_
  rintro y w' ⟨r1, hag1, rfl, hst1⟩
  obtain ⟨r2, hag2, hsame, hst2⟩ := hst1.close c1 lc lcs h x' Hx' hx' s4 c2 c3 s5 (hasIds_of hcs c4) c5
  obtain ⟨r3, hag3, hren, hst3⟩ := hst2.view Hs.length l ls Hs' hb hs
  have hl2 : Hs.length ≤ H2.length := by simpa using s7
  exact ⟨r3, hag1.trans ((hag2.mono hl2).trans hag3 (Nat.le_refl _)) (Nat.le_refl _), by rw [hvv, ← AV.ren_conc hren hvs, hsame], hst3⟩

/-- By a run. -/
theorem ctr_raw (hmx : P.follows .mixedOrders = true) (T : CT P) (D : List Dec) {f : FuncId} {args : List AV} {Hs H2 : AH} {v : AV} {ps : List Prop} (h : fnA P T f args Hs D = some (v, H2, ps)) (hps : Holds ps) : Ctr P f args Hs v H2 := fun _ _ _ hst => fnA_calls hmx h hps hst

/-- Any object, seen from here on: what never turns is as it was. -/
theorem St.openR' {r : Gh} {H : AH} {W0 : Base} {w : World} (hst : St r H W0 w) (hscH : H.scB = true) {k h g : Nat} {x : X} {Hx : AH} (hk : H[k]? = some (.abs h x, g)) (hx : shape x = some Hx) (hsc : Hx.scB = true) (h0 : Nat.blt 0 Hx.length = true) :
    ∃ r', Agree H.length r r' ∧ (∀ b, r'.im b ↔ r.im b) ∧ St r' (openH H k Hx) (base r' (openH H k Hx) w) w := by
  have h1 : St r H ⟨w, fun _ => True, fun _ _ => True, r.im⟩ w :=
    ⟨hst.hold, fun _ _ _ _ _ _ => .inr trivial, fun _ _ _ => .inr (.inl trivial), fun _ hb => hb, fun _ hb => .inl hb, rfl, rfl, rfl, Nat.le_refl _, fun _ _ _ => rfl⟩
  obtain ⟨r', hag, h2⟩ := h1.openG hscH hk hx hsc h0 (.inr fun _ _ => trivial)
  refine ⟨r', hag, fun b => ⟨fun hb => ?_, fun hb => h2.im0 b hb⟩, h2.rebase⟩
  rcases h2.im1 b hb with h | h
  · exact h
  · have := (h2.hold.imm b hb).2
    have h : w.heap.size ≤ b := h
    omega

/-- The new ones alone, of a function that only reads what was there. -/
def CtrN (P : Program) (f : FuncId) (args : List AV) (Hs : AH) (v : AV) (new : AH) : Prop :=
  ∀ (r : Gh) (w : World), St r Hs (rd r w) w → Calls P f (args.map (AV.conc r)).toArray w fun e w' => ∃ r', e = .returned (v.conc r') ∧ St r' new (rd r w) w'

/-- Numbers behind. -/
def shF (n k : Nat) : Nat := n + k
theorem turnH_nil (k : Nat) (H : AH) : turnH [] k H = H := by
  induction H generalizing k with
  | nil => rfl
  | cons x l ih => simp [turnH, updAt, ih]

/-- New objects beside. -/
theorem St.beside {r r0 r1 : Gh} {H : AH} {W0 : Base} {w w' : World} (hst : St r H W0 w) (hscH : H.scB = true) {new : AH} (him : r0.im = r.im) (h1 : St r1 new (rd r0 w) w') (hsc : (new.scB && new.all (fun x => !Nat.beq x.2 0)) = true) :
    ∃ r', Agree H.length r r' ∧ RenOk new.length (shF H.length) (shF H.length) r' r1 ∧ St r' (moveH H [] (new.map fun x => x.1.ren (shF H.length) (shF H.length))) W0 w' := by
  simp only [Bool.and_eq_true] at hsc
  have hfl : ∀ (i : Nat) (x : AO × Nat), new[i]? = some x → x.2 ≠ 0 := fun i x hx => by
    have := List.all_eq_true.1 hsc.2 x (List.mem_of_getElem? hx)
    intro e; rw [e] at this; simp at this
  have h2 : St r1 new (base (subG r [] []) [] w) w' := by
    have hfresh : ∀ b i, r1.o b = some i → w.heap.size ≤ b := fun b i hbi => by
      obtain ⟨x, hx⟩ : ∃ x, new[i]? = some x := ⟨new[i]'(h1.hold.ow b i hbi).1, List.getElem?_eq_getElem _⟩
      exact (h1.wr b i x hbi hx (hfl i x hx)).elim (fun h => h) fun h => h.elim
    refine ⟨h1.hold, fun b i x hbi _ _ => .inl (hfresh b i hbi), fun b i hbi => .inl (hfresh b i hbi), fun b hb => h1.im0 b ?_, fun b hb => (h1.im1 b hb).imp (fun h => ?_) fun h => h, h1.os, h1.tape, h1.output, h1.size, fun b hb _ => h1.frame b hb fun h => h⟩
    · show r0.im b; rw [him]; exact hb
    · show r.im b; rw [← him]; exact h
  obtain ⟨r', hag, hren, h3⟩ := hst.join (Hs := []) hscH [] [] rfl rfl rfl rfl rfl rfl (fun i x hx => by simp at hx) hsc.1 trivial ⟨fun i hi => by simp at hi, fun i hi => by simp at hi⟩ h2
  have hf : outF [] H.length = shF H.length := funext fun k => rfl
  rw [hf] at hren
  refine ⟨r', hag, hren, h3.as ?_⟩
  simp only [moveH, outU, outN, List.length_nil, List.drop_zero, hf, turnH_nil]

theorem CtrN.lift {f : FuncId} {args : List AV} {Hs : AH} {v : AV} {new : AH} (C : CtrN P f args Hs v new) {r : Gh} {H : AH} {W0 : Base} {w : World} (hst : St r H W0 w) (hscH : H.scB = true) (l ls : List Nat) (hb : fewB H l ls Hs = true) (hs : selH H l = renH l ls Hs) (hrd : allRd Hs = true)
    (hsc : (new.scB && new.all (fun x => !Nat.beq x.2 0) && args.all (AV.sc Hs.length) && v.sc new.length) = true) :
    Calls P f ((args.map (AV.ren (pick l) (pick ls))).map (AV.conc r)).toArray w fun e w' => ∃ r', Agree H.length r r' ∧ e = .returned ((v.ren (shF H.length) (shF H.length)).conc r') ∧
      St r' (moveH H [] (new.map fun x => x.1.ren (shF H.length) (shF H.length))) W0 w' := by
  simp only [fewB, Bool.and_eq_true] at hb hsc
  obtain ⟨⟨⟨⟨⟨⟨h1, h2⟩, h3⟩, h4⟩, h5⟩, h6⟩, h7⟩ := hb
  obtain ⟨⟨⟨b1, b2⟩, b3⟩, b4⟩ := hsc
  have hids := hasIds_of hs h7
  have h8 := (hst.sub l ls Hs h1 h2 h6 hids).toRd
  rw [allRd_map hrd] at h8
  rw [args_ren (subG_ok r l ls Hs.length) b3]
  refine (C _ _ h8).mono ?_
  rintro e w' ⟨r1, rfl, hst1⟩
  obtain ⟨r', hag, hren, h3⟩ := hst.beside hscH (r0 := subG r l ls) rfl hst1 (by rw [b1, b2]; rfl)
  exact ⟨r', hag, by rw [AV.ren_conc hren b4], h3⟩

theorem CtrN.ctr {f : FuncId} {args : List AV} {Hs : AH} {v : AV} {new : AH} (C : CtrN P f args Hs v new) (hrd : allRd Hs = true) (hb : (Hs.scB && new.scB && new.all (fun x => !Nat.beq x.2 0) && v.sc new.length) = true) :
    Ctr P f args Hs (v.ren (shF Hs.length) (shF Hs.length)) (moveH Hs [] (new.map fun x => x.1.ren (shF Hs.length) (shF Hs.length))) := by
  intro r W0 w hst
  simp only [Bool.and_eq_true] at hb
  obtain ⟨⟨⟨b1, b2⟩, b3⟩, b4⟩ := hb
  have h0 := hst.toRd
  rw [allRd_map hrd] at h0
  refine (C r w h0).mono ?_
  rintro e w' ⟨r1, rfl, h1⟩
  obtain ⟨r', hag, hren, h3⟩ := hst.beside b1 (r0 := r) rfl h1 (by rw [b2, b3]; rfl)
  exact ⟨r', hag, by rw [AV.ren_conc hren b4], h3⟩

/-- A method that reads an object and makes others. -/
theorem ctrN_meth (hmx : P.follows .mixedOrders = true) (T : CT P) (D : List Dec) {f : FuncId} {args : List AV} {Hs : AH} (k : Nat) {h g : Nat} {x : X} {Hx : AH} (hk : Hs[k]? = some (.abs h x, g)) (hx : shape x = some Hx)
    (hsc : (Hs.scB && Hx.scB && Nat.blt 0 Hx.length && args.all (AV.sc Hs.length)) = true) (hrd : allRd (openH Hs k Hx) = true) {v' : AV} {H2 : AH} {ps : List Prop} (hrun : fnA P T f args (openH Hs k Hx) D = some (v', H2, ps)) (hps : Holds ps)
    (h' : Nat) (x' : X) {Hx' : AH} (hx' : shape x' = some Hx') (hsc' : (Hx'.scB && Nat.blt 0 Hx'.length) = true)
    (lc lcs : List Nat) (hc : (H2.scB && nodupB lc && Nat.beq lc.length Hx'.length && flagsL H2 lc Hx' && flagsB H2 lc) = true) (hcs : selH H2 lc = renH lc lcs Hx')
    (l ls : List Nat) (new : AH) (hb : viewOk 0 (closeH lc h' x' 0 H2) l ls new = true) (hs : selH (closeH lc h' x' 0 H2) l = renH l ls new) {v : AV} (hvv : v' = v.ren (pick l) (pick ls)) (hvs : v.sc new.length = true) (hnf : new.all (fun x => !Nat.beq x.2 0) = true) : CtrN P f args Hs v new := by
  intro r w hst
  simp only [Bool.and_eq_true] at hsc hc hsc'
  obtain ⟨⟨⟨s1, s2⟩, s3⟩, s6⟩ := hsc
  obtain ⟨⟨⟨⟨c1, c2⟩, c3⟩, c4⟩, c5⟩ := hc
  obtain ⟨r0, hag0, him, hst0⟩ := hst.openR' s1 hk hx s2 s3
  have hargs : (args.map (AV.conc r)).toArray = (args.map (AV.conc r0)).toArray := by
    congr 1
    exact List.map_congr_left fun a ha => (AV.conc_agree hag0 (List.all_eq_true.1 s6 a ha)).symm
  rw [hargs]
  refine (fnA_calls hmx hrun hps hst0).mono ?_
  rintro y w' ⟨r1, hag1, rfl, hst1⟩
  obtain ⟨r2, hag2, hsame, hst2⟩ := hst1.close c1 lc lcs h' x' Hx' hx' hsc'.1 c2 c3 hsc'.2 (hasIds_of hcs c4) c5
  obtain ⟨r3, hag3, hren, hst3⟩ := hst2.view 0 l ls new hb hs
  refine ⟨r3, by rw [hvv, ← AV.ren_conc hren hvs, hsame], ?_⟩
  have hz : ∀ b, ¬ (base r0 (openH Hs k Hx) w).Z b := fun b ⟨i, x, h1, h2, h3⟩ => by
    have := List.all_eq_true.1 hrd x (List.mem_of_getElem? h2)
    exact h3 (Nat.eq_of_beq_eq_true this)
  refine ⟨hst3.hold, fun b i x hb hx hf => (hst3.wr b i x hb hx hf).elim .inl fun h => (hz b h).elim, fun b i hb => ?_, fun b hb => hst3.im0 b ((him b).2 hb), fun b hb => (hst3.im1 b hb).imp (fun h => (him b).1 h) fun h => h, hst3.os, hst3.tape, hst3.output, hst3.size, fun b hb _ => hst3.frame b hb (hz b)⟩
  obtain ⟨y, hy⟩ : ∃ y, new[i]? = some y := ⟨new[i]'(hst3.hold.ow b i hb).1, List.getElem?_eq_getElem _⟩
  have hf : y.2 ≠ 0 := by
    have := List.all_eq_true.1 hnf y (List.mem_of_getElem? hy)
    intro e; rw [e] at this; simp at this
  exact (hst3.wr b i y hb hy hf).elim .inl fun h => (hz b h).elim

/-- A method that reads its object and makes others, as a callee. -/
structure MethN (P : Program) where
  f : FuncId
  τ : Type
  parse : X → List AV → Option τ
  x : τ → X
  rest : τ → List AV
  v : τ → AV
  new : τ → AH
  owed : τ → Prop
  parse_eq : ∀ {y a t}, parse y a = some t → y = x t ∧ a = rest t
  body : bodyB P f = true
  C : ∀ t, owed t → CtrN P f (.c (.ptr 0 0) :: rest t) [(.abs 0 (x t), 0)] (v t) (new t)

def methN (M : MethN P) (args : List AV) (H : AH) : Option (AV × List (Nat × AO) × List AO × Option Prop) :=
  match args with
  | .tv (.one (.ptr i 0)) :: a => match H[i]? with
    | some (.abs h y, _) => match M.parse y a with
      | some t => cond (fewB H [i] [h] [(.abs 0 (M.x t), 0)] && (M.new t).scB && (M.new t).all (fun x => !Nat.beq x.2 0) && a.all AV.rigB && (M.v t).sc (M.new t).length)
          (some ((M.v t).ren (shF H.length) (shF H.length), [], (M.new t).map fun x => x.1.ren (shF H.length) (shF H.length), some (M.owed t))) none
      | none => none
    | _ => none
  | _ => none

theorem methN_ok {M : MethN P} {args : List AV} {H : AH} {v : AV} {upd : List (Nat × AO)} {new : List AO} {pr : Option Prop} (he : methN M args H = some (v, upd, new, pr)) (hp : Owed pr) (r : Gh) (W0 : Base) (w : World) (hst : St r H W0 w) (hsc : H.scB = true) :
    Calls P M.f (args.map (AV.conc r)).toArray w fun e w' => ∃ r', Agree H.length r r' ∧ e = .returned (v.conc r') ∧ St r' (moveH H upd new) W0 w' := by
  unfold methN at he
  split at he
  · rename_i i a
    split at he
    · rename_i h y g hH
      cases ht : M.parse y a with
      | none => simp [ht] at he
      | some t =>
        simp only [ht] at he
        cases hc : (fewB H [i] [h] [(.abs 0 (M.x t), 0)] && (M.new t).scB && (M.new t).all (fun x => !Nat.beq x.2 0) && a.all AV.rigB && (M.v t).sc (M.new t).length) with
        | false => simp [hc] at he
        | true =>
          simp only [hc, cond_true, Option.some.injEq, Prod.mk.injEq] at he
          obtain ⟨rfl, rfl, rfl, rfl⟩ := he
          simp only [Bool.and_eq_true] at hc
          obtain ⟨⟨⟨⟨hf, hs1⟩, hs2⟩, ha⟩, hv⟩ := hc
          obtain ⟨rfl, rfl⟩ := M.parse_eq ht
          have hC := M.C t hp.some
          have hl := hC.lift hst hsc [i] [h] hf (by simp [selH, renH, hH, AO.ren, pick]) rfl (by
            simp only [Bool.and_eq_true, List.all_cons]
            exact ⟨⟨⟨hs1, hs2⟩, rfl, List.all_eq_true.2 fun c hm => AV.sc_rig (List.all_eq_true.1 ha c hm)⟩, hv⟩)
          have hargs : ((AV.c (.ptr 0 0) :: M.rest t).map (AV.ren (pick [i]) (pick [h]))) = AV.tv (.one (.ptr i 0)) :: M.rest t := by
            simp only [List.map_cons]
            congr 1
            conv => rhs; rw [← List.map_id (M.rest t)]
            exact List.map_congr_left fun c hm => AV.ren_rig (List.all_eq_true.1 ha c hm)
          rw [hargs] at hl
          exact hl
    · simp at he
  · simp at he

def CT.addMN (T : CT P) (M : MethN P) : CT P := T.addE M.f (methN M) M.body fun _ _ _ _ _ _ he hp r W0 w hst _ hsc => methN_ok he hp r W0 w hst hsc

end Go.Proofs.Ytobonipmnidadaa

namespace Go.Proofs.Ytobonipmnidadaa
open Go.RowKit
variable {P : Program} {T : CT P}

def memN : List Nat → Nat → Bool
  | [], _ => false
  | a :: l, i => cond (Nat.beq a i) true (memN l i)
theorem memN_iff {l : List Nat} {i : Nat} : memN l i = true ↔ i ∈ l := by
  induction l with
  | nil => simp [memN]
  | cons a l ih =>
    unfold memN
    cases h : Nat.beq a i with
    | true => simp [Nat.eq_of_beq_eq_true h]
    | false =>
      have : a ≠ i := fun e => by subst e; simp at h
      simp only [cond_false, ih, List.mem_cons]
      exact ⟨.inr, fun h => h.elim (fun e => absurd e.symm this) fun h => h⟩

/-- A frame of which only some slots are known. -/
def maskGo (live : List Nat) (G : Nat → Value) : Nat → AF → AF
  | _, [] => []
  | i, v :: F => cond (memN live i) v (.r (G i)) :: maskGo live G (i + 1) F
def maskF (live : List Nat) (F : AF) (G : Nat → Value) : AF := maskGo live G 0 F

theorem maskGo_get (live : List Nat) (G : Nat → Value) : ∀ (F : AF) (k i : Nat), (maskGo live G k F)[i]? = F[i]?.map fun v => cond (memN live (k + i)) v (.r (G (k + i)))
  | [], k, i => by simp [maskGo]
  | v :: F, k, 0 => by simp [maskGo]
  | v :: F, k, i + 1 => by
    simp only [maskGo, List.getElem?_cons_succ, maskGo_get live G F (k + 1) i]
    rw [show k + 1 + i = k + (i + 1) by omega]
theorem maskGo_len (live : List Nat) (G : Nat → Value) : ∀ (F : AF) (k : Nat), (maskGo live G k F).length = F.length
  | [], _ => rfl
  | v :: F, k => by simp [maskGo, maskGo_len live G F (k + 1)]

/-- The slots that are known. -/
def selF (live : List Nat) (F : AF) : List AV := live.map fun i => F.getD i .undef

theorem FrameOk.mask {g : Gh} {F F' : AF} {a : Act} (h : FrameOk g F' a) (live : List Nat) (hl : Nat.beq F'.length F.length = true) (hs : selF live F' = selF live F) : FrameOk g (maskF live F (fun i => a.tmps.getD i Go.undef)) a := by
  have hl := Nat.eq_of_beq_eq_true hl
  have hsz := h.size
  have hlk := h.looks
  unfold FrameOk
  apply Array.ext_getElem?
  intro i
  simp only [List.getElem?_toArray, List.getElem?_map]
  unfold maskF
  rw [maskGo_get, Nat.zero_add]
  by_cases hi : i < F.length
  · rw [List.getElem?_eq_getElem hi, Array.getElem?_eq_getElem (by omega)]
    simp only [Option.map_some, Option.some.injEq]
    have e1 : a.tmps.getD i Go.undef = a.tmps[i]'(by omega) := by simp [Array.getD_eq_getD_getElem?, Array.getElem?_eq_getElem (show i < a.tmps.size by omega)]
    cases hm : memN live i with
    | true =>
      simp only [cond_true]
      have h1 : F'.getD i .undef = F.getD i .undef := by
        have hmem := memN_iff.1 hm
        obtain ⟨k, hk⟩ := List.mem_iff_getElem?.1 hmem
        have := congrArg (·[k]?) hs
        simp only [selF, List.getElem?_map, hk, Option.map_some, Option.some.injEq] at this
        exact this
      have h2 := hlk i
      rw [h1, e1] at h2
      rw [h2]
      simp [List.getD_eq_getElem?_getD, hi]
    | false =>
      simp only [cond_false]
      rw [← e1]; rfl
  · rw [List.getElem?_eq_none (by omega), Array.getElem?_eq_none (by omega)]; rfl

/-- What holds at a loop's head. -/
def LInv {σ : Type} (n0 : Nat) (g0 : Gh) (B : Base) (ds : List Deferred) (live : List Nat) (F : σ → AF) (H : σ → AH) (inv : σ → Prop) (s : σ) (a : Act) (w : World) : Prop :=
  inv s ∧ ∃ g G, Agree n0 g0 g ∧ FrameOk g (maskF live (F s) G) a ∧ St g (H s) B w ∧ a.defers = ds

theorem least {p : Nat → Prop} (h : ∃ n, p n) : ∃ n, p n ∧ ∀ m, p m → n ≤ m := by
  obtain ⟨n, hn⟩ := h
  induction n using Nat.strongRecOn with
  | _ n ih =>
    by_cases hx : ∃ m, m < n ∧ p m
    · obtain ⟨m, h1, h2⟩ := hx
      exact ih m h1 h2
    · refine ⟨n, hn, fun m hm => ?_⟩
      rcases Nat.lt_or_ge m n with h | h
      · exact absurd ⟨m, h, hm⟩ hx
      · exact h

theorem loop_wp {σ : Type} {ro : Option Nat} {n n0 : Nat} {g0 : Gh} {B : Base} {ds : List Deferred} {Q : Exit → Act → World → Prop} {body : Code} (live : List Nat) (F : σ → AF) (H : σ → AH) (inv : σ → Prop) (μ : σ → Nat) (s0 : σ) {a : Act} {w : World}
    (h0 : LInv n0 g0 B ds live F H inv s0 a w)
    (round : ∀ s g G a w, inv s → Agree n0 g0 g → FrameOk g (maskF live (F s) G) a → St g (H s) B w → a.defers = ds → body.wpIn (Fw ro) n P (Exit.then (fun a' w' => ∃ s', LInv n0 g0 B ds live F H inv s' a' w' ∧ μ s' < μ s) Q) a w) :
    (Code.loop body).wpIn (Fw ro) n P Q a w := by
  classical
  let ms : Act → World → Nat → Prop := fun a w m => ∃ s, LInv n0 g0 B ds live F H inv s a w ∧ μ s = m
  let M : Act → World → Nat := fun a w => if h : ∃ m, ms a w m then (least h).choose else 0
  have hM : ∀ a w s, LInv n0 g0 B ds live F H inv s a w → ms a w (M a w) ∧ M a w ≤ μ s := fun a w s h => by
    have hex : ∃ m, ms a w m := ⟨μ s, s, h, rfl⟩
    have e : M a w = (least hex).choose := dif_pos hex
    obtain ⟨h1, h2⟩ := (least hex).choose_spec
    rw [e]
    exact ⟨h1, h2 _ ⟨s, h, rfl⟩⟩
  refine wpIn_loop (fun a w => ∃ s, LInv n0 g0 B ds live F H inv s a w) M ⟨s0, h0⟩ fun a w ⟨s1, h1⟩ => ?_
  obtain ⟨⟨s, ⟨hs1, g, G, h2, h3, h4, h5⟩, hs⟩, -⟩ := hM a w s1 h1
  refine Code.wpIn_mono (fun e a' w' q => ?_) (round s g G a w hs1 h2 h3 h4 h5)
  cases e with
  | normal =>
    obtain ⟨s', h6, h7⟩ := q
    have := (hM a' w' s' h6).2
    exact ⟨⟨s', h6⟩, by omega⟩
  | _ => exact q

/-- The next round's head. -/
theorem next_inv {σ : Type} {n0 : Nat} {g0 g g' : Gh} {B : Base} {ds : List Deferred} {live : List Nat} {F : σ → AF} {H : σ → AH} {inv : σ → Prop} {s' : σ} {a' : Act} {w' : World} {F' : AF} {H' : AH} {m : Nat}
    (hi : inv s') (h1 : Agree n0 g0 g) (h2 : Agree m g g') (hm : Nat.ble n0 m = true) (hF : FrameOk g' F' a') (hst : St g' H' B w') (hd : a'.defers = ds) (hl : Nat.beq F'.length (F s').length = true) (hs : selF live F' = selF live (F s')) (hH : H'.take (H s').length = H s') :
    LInv n0 g0 B ds live F H inv s' a' w' :=
  ⟨hi, _, _, (h1.trans h2 (Nat.le_of_ble_eq_true hm)).trans (Agree.withO n0 g' _ _) (Nat.le_refl _), (hF.withO0 _ _).mask live hl hs, hst.take _ hH, hd⟩

theorem FrameOk.maskR {g r' : Gh} {F F' : AF} {a : Act} {f fs : Nat → Nat} {n : Nat} (h : FrameOk g F' a) (hr : RenOk n f fs g r') (live : List Nat) (hl : Nat.beq F'.length F.length = true) (hs : selF live F' = (selF live F).map (AV.ren f fs)) (hsc : (selF live F).all (AV.sc n) = true) : FrameOk r' (maskF live F (fun i => a.tmps.getD i Go.undef)) a := by
  have hl := Nat.eq_of_beq_eq_true hl
  have hsz := h.size
  have hlk := h.looks
  unfold FrameOk
  apply Array.ext_getElem?
  intro i
  simp only [List.getElem?_toArray, List.getElem?_map]
  unfold maskF
  rw [maskGo_get, Nat.zero_add]
  by_cases hi : i < F.length
  · rw [List.getElem?_eq_getElem hi, Array.getElem?_eq_getElem (by omega)]
    simp only [Option.map_some, Option.some.injEq]
    have e1 : a.tmps.getD i Go.undef = a.tmps[i]'(by omega) := by simp [Array.getD_eq_getD_getElem?, Array.getElem?_eq_getElem (show i < a.tmps.size by omega)]
    cases hm : memN live i with
    | true =>
      simp only [cond_true]
      have hmem := memN_iff.1 hm
      obtain ⟨k, hk⟩ := List.mem_iff_getElem?.1 hmem
      have h1 : F'.getD i .undef = (F.getD i .undef).ren f fs := by
        have := congrArg (·[k]?) hs
        simp only [selF, List.getElem?_map, hk, Option.map_some, Option.some.injEq] at this
        exact this
      have h3 : (F.getD i .undef).sc n = true := List.all_eq_true.1 hsc _ (List.mem_map.2 ⟨i, hmem, rfl⟩)
      have h2 := hlk i
      rw [h1, e1, AV.ren_conc hr h3] at h2
      rw [h2]
      simp [List.getD_eq_getElem?_getD, hi]
    | false =>
      simp only [cond_false]
      rw [← e1]; rfl
  · rw [List.getElem?_eq_none (by omega), Array.getElem?_eq_none (by omega)]; rfl

/-- The next round's head, objects and handles by other numbers. -/
theorem next_view {σ : Type} {n0 : Nat} {g0 g g' : Gh} {B : Base} {ds : List Deferred} {live : List Nat} {F : σ → AF} {H : σ → AH} {inv : σ → Prop} {s' : σ} {a' : Act} {w' : World} {F' : AF} {H' : AH} {m : Nat} (l ls : List Nat)
    (hi : inv s') (h1 : Agree n0 g0 g) (h2 : Agree m g g') (hm : Nat.ble n0 m = true) (hF : FrameOk g' F' a') (hst : St g' H' B w') (hd : a'.defers = ds) (hl : Nat.beq F'.length (F s').length = true) (hs : selF live F' = (selF live (F s')).map (AV.ren (pick l) (pick ls)))
    (hsc : (selF live (F s')).all (AV.sc (H s').length) = true) (hv : viewOk n0 H' l ls (H s') = true) (hH : selH H' l = renH l ls (H s')) : LInv n0 g0 B ds live F H inv s' a' w' := by
  obtain ⟨r', hag, hren, hst'⟩ := hst.view n0 l ls (H s') hv hH
  exact ⟨hi, _, _, (h1.trans h2 (Nat.le_of_ble_eq_true hm)).trans hag (Nat.le_refl _), hF.maskR hren live hl hs hsc, hst', hd⟩

/-- A nil slice is an empty list. -/
theorem St.nilL (K : LK P) {r : Gh} {H : AH} {W0 : Base} {w : World} (hst : St r H W0 w) (hsc : H.scB = true) : ∃ r', Agree H.length r r' ∧ r'.s H.length = ⟨none, 0, 0⟩ ∧ St r' (H ++ [(.abs H.length (K.toX []), 1)]) W0 w := by
  refine ⟨hnd r H.length ⟨none, 0, 0⟩ none 0 0, hnd_agree _ _ _ _ _ _, by simp [hnd], ?_⟩
  have ho : ∀ b, (hnd r H.length ⟨none, 0, 0⟩ none 0 0).o b = r.o b := fun b => by simp [hnd]
  refine hst.change (hnd_agree _ _ _ _ _ _) hsc (fun i => i = H.length) (fun i x hx hu => ?_) (fun i x hx hu => ?_) (fun b i hu => by rw [ho]) (fun b i x hb hu hx hf => ?_) (fun b i hb hu => ?_) (fun b i hb => ?_) (fun b hb => hb) (fun b hb => .inl hb) (fun b hb => ?_) (fun b hb => .inl hb) (fun b _ => rfl) (fun b _ _ => rfl) rfl rfl rfl (Nat.le_refl _)
  · rw [getElem?_snoc, if_neg hu] at hx; exact hx
  · subst hu
    rw [getElem?_snoc, if_pos rfl] at hx
    cases hx
    simp only [AO.holds, hnd, if_true]
    exact K.rep.2 ⟨World.ownsRow_nil w 0 K.e _, fun k hk => by cases hk⟩
  · rw [ho] at hb; have := (hst.hold.ow b i hb).1; omega
  · rw [ho] at hb; have := (hst.hold.ow b i hb).1; omega
  · rw [ho] at hb; have := hst.hold.ow b i hb; simp; omega
  · have := hst.hold.imm b hb; rw [ho]; exact this

theorem FrameOk.nilL {r r' : Gh} {F : AF} {a : Act} {n : Nat} (hF : FrameOk r F a) (hag : Agree n r r') (hsc : F.scB n = true) (hs : r'.s n = ⟨none, 0, 0⟩) (k : Nat) (hk : F.getD k .undef = .r (.slice none 0 0)) : FrameOk r' (F.set k (.c (.sl n))) a := by
  have h1 := hF.agree hag hsc
  unfold FrameOk at h1 ⊢
  rw [h1]
  congr 1
  apply List.ext_getElem?
  intro i
  simp only [List.getElem?_map, List.getElem?_set]
  by_cases e : k = i
  · subst e
    rw [if_pos rfl]
    by_cases hl : k < F.length
    · rw [List.getD_eq_getElem?_getD, List.getElem?_eq_getElem hl] at hk
      simp only [Option.getD_some] at hk
      rw [List.getElem?_eq_getElem hl, hk, if_pos hl]
      simp [AV.conc, TV.conc, CV.conc, hs, SV.v]
    · rw [if_neg hl, List.getElem?_eq_none (by omega)]
  · rw [if_neg e]

def headC : List KI → Code
  | .code c :: _ => c
  | _ => .skip

/-- A run of code, to whatever halt. -/
theorem list_wp (hmx : P.follows .mixedOrders = true) {ro : Option Nat} {n : Nat} {Q : Exit → Act → World → Prop} {W0 : Base} (T : CT P) (D : List Dec) (qs : List Prop) (x : RX) {k : List KI} {F : AF} {H : AH}
    (hx : (runC P T k F H D).x = some x) (hq : (runC P T k F H D).ps = qs) (hqs : Holds qs) {r : Gh} {a : Act} {w : World} (hF : FrameOk r F a) (hst : St r H W0 w)
    (hQ : ∀ r' w' a', Agree H.length r r' → St r' (runC P T k F H D).H W0 w' → FrameOk r' (runC P T k F H D).F a' → a'.defers = a.defers → x.fin ro n P Q a' w') : kont ro n P k Q .normal a w := by
  have e : runK P T 100000 k F H D = some (x, (runC P T k F H D).F, (runC P T k F H D).H, ((runK P T 100000 k F H D).map (·.2.2.2.1)).getD [], qs) := by
    rw [← hq]
    unfold runC at hx ⊢
    cases h : runK P T 100000 k F H D with
    | none => rw [h] at hx; cases hx
    | some y => rw [h] at hx; cases hx; rfl
  exact runK_wp hmx _ _ _ _ _ _ _ _ _ _ e hqs r a w hF hst hQ

/-- The loops of a code, each with what follows it. -/
def loopsK : Code → List KI → List (Code × List KI)
  | .seq a b, k => loopsK a (.code b :: k) ++ loopsK b k
  | .cond _ a b, k => loopsK a k ++ loopsK b k
  | .block id a, k => loopsK a (.blk id :: k)
  | .loop a, k => [(a, k)]
  | _, _ => []
def loopAt (c : Code) (i : Nat) : Code × List KI := (loopsK c []).getD i (.skip, [])
/-- A function's loop; a loop's loop. -/
def fnLoop (P : Program) (f : FuncId) (i : Nat) : Code × List KI := loopAt (bodyOf P f) i

/-- Out of a loop. -/
theorem kont_out {ro : Option Nat} {n : Nat} {Q : Exit → Act → World → Prop} {a : Act} {w : World} {id : Nat} {k k' : List KI} (hk : outTo id k = some k') (h : kont ro n P k' Q .normal a w) : kont ro n P k Q (.exit id) a w :=
  kont_exit k (fun k2 h2 => by rw [hk] at h2; cases h2; exact h) fun h2 => by rw [hk] at h2; cases h2

theorem Agree.tr {n m : Nat} {r r' r'' : Gh} (h : Agree n r r') (h' : Agree m r' r'') (hm : Nat.ble n m = true) : Agree n r r'' := h.trans h' (Nat.le_of_ble_eq_true hm)
theorem exit_out {ro : Option Nat} {n : Nat} {I : Act → World → Prop} {Q : Exit → Act → World → Prop} {a : Act} {w : World} {id : Nat} {k k' : List KI} (hk : outTo id k = some k') (h : kont ro n P k' Q .normal a w) : RX.fin ro n P (Exit.then I (kont ro n P k Q)) a w (.exit id) := kont_out hk h
theorem ret_out {ro : Option Nat} {n : Nat} {I : Act → World → Prop} {Q : Exit → Act → World → Prop} {a : Act} {w : World} {k : List KI} (h : Q .ret a w) : RX.fin ro n P (Exit.then I (kont ro n P k Q)) a w .ret := kont_ret k h
theorem ret_fin {ro : Option Nat} {n : Nat} {Q : Exit → Act → World → Prop} {a : Act} {w : World} (h : Q .ret a w) : RX.fin ro n P Q a w .ret := h
/-- What follows a loop. -/
def restAt (id : Nat) (k : List KI) : List KI := match outTo id k with | some k' => k' | none => []

/-- A method that only reads, by what it does to its object taken apart. -/
theorem ctrQ_open {f : FuncId} {args : List AV} {Hs : AH} {k h g : Nat} {x : X} {Hx : AH} {v : AV} (hk : Hs[k]? = some (.abs h x, g)) (hx : shape x = some Hx)
    (hsc : (Hs.scB && Hx.scB && Nat.blt 0 Hx.length && args.all (AV.sc Hs.length)) = true) (hrd : allRd (openH Hs k Hx) = true) (hvs : v.sc Hs.length = true)
    (C : ∀ (r : Gh) (W0 : Base) (w : World), St r (openH Hs k Hx) W0 w → Calls P f (args.map (AV.conc r)).toArray w fun e w' => ∃ r', Agree Hs.length r r' ∧ e = .returned (v.conc r') ∧ ∃ H', St r' H' W0 w') : CtrQ P f args Hs v := by
  intro r w hst
  simp only [Bool.and_eq_true] at hsc
  obtain ⟨⟨⟨s1, s2⟩, s3⟩, s6⟩ := hsc
  obtain ⟨r0, hag0, hst0⟩ := hst.openR s1 hk hx s2 s3
  have hargs : (args.map (AV.conc r)).toArray = (args.map (AV.conc r0)).toArray := by
    congr 1
    exact List.map_congr_left fun a ha => (AV.conc_agree hag0 (List.all_eq_true.1 s6 a ha)).symm
  rw [hargs]
  refine (C _ _ _ hst0).mono ?_
  rintro y w' ⟨r1, hag1, rfl, H', hst1⟩
  refine ⟨by rw [AV.conc_agree (hag0.trans hag1 (Nat.le_refl _)) hvs], hst1.below fun b ⟨i, x, h1, h2, h3⟩ => ?_⟩
  have := List.all_eq_true.1 hrd x (List.mem_of_getElem? h2)
  exact h3 (Nat.eq_of_beq_eq_true this)

end Go.Proofs.Ytobonipmnidadaa

namespace Go.Proofs.Ytobonipmnidadaa
open Go.RowKit
variable {P : Program}

def zeros (z : Value) (n : Nat) : List CV := (List.range n).map fun i => .rig (z.cells[i % z.cells.size]!)

def bsE (P : Program) (ev : Operand → AV) (H : AH) (op : Op) : Option (AV × List (Nat × AO) × List AO × Option Prop) :=
  match op with
  | .buildSlice t len ps => match P.underlying t, partsA ev ps.toList with
    | some (.slice e), some m => match P.info? e with
      | some it => match it.zero with
        | some z => match fillA (fun i => some (i * it.size, it.size)) (zeros z (len * it.size)) m with
          | some cs => cond (Nat.ble (len * it.size) 16777216 && Nat.blt 0 (len * it.size) && AO.sc H.length (.cells cs e)) (some (.c (.slc H.length 0 len len), [], [.cells cs e], none)) none
          | none => none
        | none => none
      | none => none
    | _, _ => none
  | _ => none

theorem bsE_run {ev : Operand → AV} {H : AH} {o : Oper} {v : AV} {upd : List (Nat × AO)} {new : List AO} {pr : Option Prop} (h : bsE P ev H o.op = some (v, upd, new, pr))
    {ρ : Operand → Value} {r : Gh} {W0 : Base} {w : World} (hev : ∀ x ∈ o.op.operands, ρ x = (ev x).conc r) (hst : St r H W0 w) (hsc : H.scB = true) :
    ∃ r' w', Agree H.length r r' ∧ St r' (moveH H upd new) W0 w' ∧ ((execOp ρ o).run P w = .ok (.value (v.conc r')) w' ∨ ((execOp ρ o).run P w = .ok .skip w' ∧ v = .undef)) := by
  unfold execOp
  cases ho : o.op <;> rw [ho] at h hev <;> simp only [bsE] at h <;> first | (cases h; done) | skip
  rename_i t len ps
  split at h
  · rename_i e m hu hm
    cases hi : P.info? e with
    | none => simp [hi] at h
    | some it =>
      cases hz : it.zero with
      | none => simp [hi, hz] at h
      | some z =>
        simp only [hi, hz] at h
        cases hf : fillA (fun i => some (i * it.size, it.size)) (zeros z (len * it.size)) m with
        | none => simp [hf] at h
        | some cs =>
          simp only [hf] at h
          cases hc : (Nat.ble (len * it.size) 16777216 && Nat.blt 0 (len * it.size) && AO.sc H.length (.cells cs e)) with
          | false => simp [hc] at h
          | true =>
            simp only [hc, cond_true, Option.some.injEq, Prod.mk.injEq] at h
            obtain ⟨rfl, rfl, rfl, rfl⟩ := h
            simp only [Bool.and_eq_true, Nat.ble_eq, Nat.blt_eq] at hc
            obtain ⟨⟨h1, h2⟩, h3⟩ := hc
            have hps := partsA_conc (ρ := ρ) (r := r) _ _ hm fun p hp => hev p.2 (by simp only [Op.operands]; simp; exact ⟨p.1, by simpa using hp⟩)
            have hfill := fillA_conc r m _ _ hf
            have hz0 : ((zeros z (len * it.size)).map (CV.conc r)).toArray = (Array.range (len * it.size)).map (z.cells[· % z.cells.size]!) := by
              apply Array.ext'
              simp [zeros, CV.conc, Function.comp_def]
            rw [hz0] at hfill
            have hrun : (Instr.buildSlice t len (ps.map fun (i, x) => (i, ρ x))).run P w = .ok (.slice (some ⟨w.heap.size, 0, none⟩) len len) (w.alloc (.cells (cs.map (CV.conc r)).toArray e)) := by
              have hl : (ps.map fun (i, x) => (i, ρ x)).toList = m.map fun p => (p.1, p.2.conc r) := by rw [← hps]; simp
              have hne : ¬ len * it.size = 0 := by omega
              have hgt : ¬ 16777216 < len * it.size := by omega
              have hsz : (sizeOf e).run P w = .ok it.size w := by simp [sizeOf, typeInfo, hi]
              have hzv : (zeroValue e).run P w = .ok z w := by simp [zeroValue, typeInfo, hi, hz]
              simp only [Instr.buildSlice, Sem.run_bind, run_underlying hu, Result.andThen_ok, hsz, hl]
              rw [if_neg hgt, if_neg hne]
              simp only [Sem.run_bind, hzv, Result.andThen_ok, Sem.run_pure, hfill]
              simp [newRow, newObj, Sem.run]
            refine ⟨_, _, bump_agree r H.length w.heap.size, (St.alloc hst hsc (.cells cs e) rfl (.cells (cs.map (CV.conc r)).toArray e) ?_).as ?_, .inl ?_⟩
            · simp only [AO.conc]
              rw [CV.map_agree (bump_agree r H.length w.heap.size) h3]
            · simp [moveH, turnH_nil]
            · simp only [Sem.run_bind, hrun, Result.andThen_ok, Sem.run_pure]
              simp [AV.conc, TV.conc, CV.conc, bump]
  · simp at h

def CT.addB (T : CT P) : CT P := T.addOe (bsE P) fun _ _ _ _ _ _ _ h _ _ _ _ _ hev hst _ hsc => bsE_run h hev hst hsc

end Go.Proofs.Ytobonipmnidadaa

namespace Go.Proofs.Ytobonipmnidadaa
open Go.RowKit
variable {P : Program}

/-- A kind of lists that are only read. -/
structure AK (P : Program) where
  α : Type
  inst : Elt α
  toX : List α → X
  ex : X → Option (List α)
  ex_mk : ∀ {x l}, ex x = some l → x = toX l
  e : TypeId
  rep : ∀ {l w root s own im}, Rp (toX l) w root s own im ↔ ARep l w s im
  info : (P.info? e).map (fun i => i.size) = some (Elt.sz α)

def aLst (K : AK P) (H : AH) (v : AV) : Option (Nat × Nat × List K.α) :=
  match v with
  | .tv (.one (.sl h)) => match findSl H h 0 with
    | some (i, x) => match K.ex x with
      | some l => some (i, h, l)
      | none => none
    | none => none
  | _ => none

theorem aLst_eq {K : AK P} {H : AH} {v : AV} {i h : Nat} {l : List K.α} (hl : aLst K H v = some (i, h, l)) : v = .c (.sl h) ∧ ∃ g, H[i]? = some (.abs h (K.toX l), g) := by
  unfold aLst at hl
  split at hl
  · rename_i h'
    cases hf : findSl H h' 0 with
    | none => simp [hf] at hl
    | some y =>
      obtain ⟨j, x⟩ := y
      simp only [hf] at hl
      cases hx : K.ex x with
      | none => simp [hx] at hl
      | some l' =>
        simp [hx] at hl
        obtain ⟨rfl, rfl, rfl⟩ := hl
        obtain ⟨_, g, hg⟩ := findSl_eq hf
        rw [K.ex_mk hx] at hg
        exact ⟨rfl, g, by simpa using hg⟩
  · cases hl

def aSlice (P : Program) (K : AK P) (t : TypeId) : Bool := match P.underlying t with | some (.slice e) => Nat.beq e K.e | _ => false
theorem aSlice_eq {K : AK P} {t : TypeId} (h : aSlice P K t = true) : P.underlying t = some (.slice K.e) := by
  unfold aSlice at h
  split at h
  · rename_i e hu; rw [hu, Nat.eq_of_beq_eq_true h]
  · cases h

def aElt (K : AK P) (H : AH) (v : AV) : Option (Nat × Nat × List K.α × Nat × Nat) :=
  match v with
  | .tv (.one (.el h i sz off)) => match aLst K H (.c (.sl h)) with
    | some (o, _, l) => cond (Nat.beq sz (@Elt.sz K.α K.inst)) (some (o, h, l, i, off)) none
    | none => none
  | _ => none
theorem aElt_eq {K : AK P} {H : AH} {v : AV} {o h i off : Nat} {l : List K.α} (hl : aElt K H v = some (o, h, l, i, off)) : v = .c (.el h i (@Elt.sz K.α K.inst) off) ∧ ∃ g, H[o]? = some (.abs h (K.toX l), g) := by
  unfold aElt at hl
  split at hl
  · rename_i h' i' sz' off'
    cases hf : aLst K H (.c (.sl h')) with
    | none => simp [hf] at hl
    | some y =>
      obtain ⟨o', h'', l'⟩ := y
      simp only [hf] at hl
      cases hb : Nat.beq sz' (@Elt.sz K.α K.inst) with
      | false => simp [hb] at hl
      | true =>
        simp [hb] at hl
        obtain ⟨rfl, rfl, rfl, rfl, rfl⟩ := hl
        obtain ⟨e1, g, hg⟩ := aLst_eq hf
        cases e1
        rw [Nat.eq_of_beq_eq_true hb]
        exact ⟨rfl, g, hg⟩
  · cases hl

def aCvs (K : AK P) (l : List K.α) (i : Nat) : List CV := ((@Elt.cells K.α K.inst) (l.getD i (@Elt.zero K.α K.inst))).map .rig

def aLoad (P : Program) (K : AK P) (t : TypeId) (l : List K.α) (i off : Nat) : Option TV :=
  match aggB P t, sizeA P t with
  | some true, some n => cond (Nat.ble (off + n) (@Elt.sz K.α K.inst)) (some (.agg (((aCvs K l i).drop off).take n))) none
  | some false, _ => cond (Nat.blt off (@Elt.sz K.α K.inst)) (match (aCvs K l i)[off]? with | some c => some (.one c) | none => none) none
  | _, _ => none

def aQ (K : AK P) (ev : Operand → AV) (H : AH) (op : Op) : Option (AV × List Nat × Option Prop) :=
  match op with
  | .call c => match c.callee, c.args.toList, c.argTypes.toList with
    | .builtin .len, [x], [t] => cond (aSlice P K t) (match aLst K H (ev x) with
      | some (i, _, l) => some (.r (.int .i64 l.length), [i], none)
      | none => none) none
    | _, _, _ => none
  | .indexAddr t x ix => cond (aSlice P K t) (match aLst K H (ev x), ev ix with
    | some (i, h, l), .tv (.one (.rig (.int _ n))) => some (.c (.el h n.toNat (@Elt.sz K.α K.inst) 0), [i], some (0 ≤ n ∧ n < (l.length : Int)))
    | _, _ => none) none
  | .load t x => match aElt K H (ev x) with
    | some (o, _, l, i, off) => match aLoad P K t l i off with
      | some v => some (.tv v, [o], some (i < l.length))
      | none => none
    | none => none
  | _ => none

theorem aQ_run {K : AK P} {ev : Operand → AV} {H : AH} {o : Oper} {v : AV} {ft : List Nat} {pr : Option Prop} (h : aQ K ev H o.op = some (v, ft, pr)) (hp : Owed pr)
    {ρ : Operand → Value} {r : Gh} {w : World} (hev : ∀ x ∈ o.op.operands, ρ x = (ev x).conc r) (hat : At r H ft w) :
    (execOp ρ o).run P w = .ok (.value (v.conc r)) w := by
  letI := K.inst
  have hinfo := K.info
  unfold execOp
  cases ho : o.op <;> rw [ho] at h hev <;> simp only [aQ] at h <;> first | (cases h; done) | skip
  case call c =>
    split at h
    · rename_i x t h1 h2 h3
      cases hs : aSlice P K t with
      | false => simp [hs] at h
      | true =>
        simp only [hs, cond_true] at h
        split at h
        · rename_i i hh l hl
          simp only [Option.some.injEq, Prod.mk.injEq] at h
          obtain ⟨rfl, rfl, -⟩ := h
          obtain ⟨e1, g, hg⟩ := aLst_eq hl
          have hrep := K.rep.1 (hat.get (by simp) hg)
          have hn := hrep.1
          have hargs : c.args = #[x] := by cases hc : c.args; simp_all
          have hat' : c.argTypes = #[t] := by cases hc : c.argTypes; simp_all
          have hx : ρ x = (ev x).conc r := hev x (by simp [Op.operands, Call.operands, h1, hargs])
          simp [resolve, invoke, builtin, h1, hargs, hat', hx, e1, AV.conc, TV.conc, CV.conc, SV.v, Builtin.len_, run_underlying (aSlice_eq hs), goInt, hn]
        · simp at h
    · simp at h
  case indexAddr t x ix =>
    cases hs : aSlice P K t with
    | false => simp [hs] at h
    | true =>
      simp only [hs, cond_true] at h
      split at h
      · rename_i i hh l k n hl hi
        simp only [Option.some.injEq, Prod.mk.injEq] at h
        obtain ⟨rfl, rfl, rfl⟩ := h
        obtain ⟨e1, g, hg⟩ := aLst_eq hl
        obtain ⟨h0, h1⟩ := hp.some
        have hrep := K.rep.1 (hat.get (by simp) hg)
        have hn := hrep.1
        obtain ⟨b, bo, hb, -, -⟩ := hrep.2 n.toNat (by omega)
        have hx : ρ x = (ev x).conc r := hev x (by simp [Op.operands])
        have hix : ρ ix = (ev ix).conc r := hev ix (by simp [Op.operands])
        have hsz : (sizeOf K.e).run P w = .ok (Elt.sz K.α) w := by
          refine run_sizeOf_of ?_ w
          cases hq : P.info? K.e with
          | none => simp [hq] at hinfo
          | some i => simp [hq] at hinfo; simp [sizeA, hq, hinfo]
        have hlt : n < ((r.s hh).n : Int) := by rw [hn]; exact h1
        simp [hx, hix, e1, hi, AV.conc, TV.conc, CV.conc, SV.v, Instr.indexAt, run_underlying (aSlice_eq hs), asIntOf, h0, hlt, hsz, hb, SV.cellAt, addr_add]
      · simp at h
  case load t x =>
    split at h
    · rename_i oi hh l i off hl
      split at h
      · rename_i u hu
        simp only [Option.some.injEq, Prod.mk.injEq] at h
        obtain ⟨rfl, rfl, rfl⟩ := h
        obtain ⟨e1, g, hg⟩ := aElt_eq hl
        have hi := hp.some
        have hrep := K.rep.1 (hat.get (by simp) hg)
        have hx : ρ x = (ev x).conc r := hev x (by simp [Op.operands])
        obtain ⟨b, bo, hb, -, hcell⟩ := hrep.2 i hi
        have hlen := Elt.len (l.getD i Elt.zero)
        have hload : (loadVar t ⟨b, bo + (i * Elt.sz K.α + off), none⟩).run P w = .ok (u.conc r) w := by
          unfold aLoad at hu
          split at hu
          · rename_i n hg1 hs1
            cases hle : Nat.ble (off + n) (Elt.sz K.α) with
            | false => simp [hle] at hu
            | true =>
              simp only [hle, cond_true, Option.some.injEq] at hu
              subst hu
              have hle' : off + n ≤ Elt.sz K.α := by simpa using hle
              refine load_cells_run (l := ((aCvs K l i).drop off |>.take n).map (CV.conc r)) hg1 hs1 (by simp only [aCvs, List.length_map, List.length_take, List.length_drop, hlen]; omega) fun j hj => ?_
              rw [show bo + (i * Elt.sz K.α + off) + j = bo + (i * Elt.sz K.α + (off + j)) by omega, hcell (off + j) (by omega)]
              simp [aCvs, hj, Function.comp_def, CV.conc]
          · rename_i hg1
            cases hle : Nat.blt off (Elt.sz K.α) with
            | false => simp [hle] at hu
            | true =>
              have hle' : off < Elt.sz K.α := by simpa using hle
              simp only [hle, cond_true] at hu
              split at hu
              · rename_i c hc
                simp only [Option.some.injEq] at hu
                subst hu
                refine load_one_run hg1 ?_
                rw [hcell off hle']
                simp only [aCvs, List.getElem?_map] at hc
                cases hq : (Elt.cells (l.getD i Elt.zero))[off]? with
                | none => simp only [hq] at hc; cases hc
                | some v => simp only [hq, Option.map_some, Option.some.injEq] at hc; subst hc; rfl
              · cases hu
          · cases hu
        simp [hx, e1, AV.conc, TV.conc, CV.conc, SV.cellAt, hb, Instr.loadAt, Instr.sureAddr, hload]
      · simp at h
    · simp at h

def CT.addA (T : CT P) (K : AK P) : CT P := T.addOq (aQ K) fun _ _ _ _ _ _ h hp _ _ _ hev hat => aQ_run h hp hev hat

end Go.Proofs.Ytobonipmnidadaa
