/- The executor, eighth part: one operation by its rule, in the text's order. -/
import Derived.Test.YtodcebpdmjdplaaV7
namespace Go.Proofs.Ytodcebpdmjdplaa
open Go.RowKit
variable {P : Program} {T : CT P}

/-- A fence that lets all by; in a round of a range over a function, or not. -/
def Fw (ro : Option Nat) : Fence := { Fence.wide with round := ro }
@[simp] theorem Fw_fn (ro : Option Nat) (f : FuncId) : (Fw ro).fn f = True := rfl
@[simp] theorem Fw_depth (ro : Option Nat) : (Fw ro).depth = none := rfl
@[simp] theorem Fw_round (ro : Option Nat) : (Fw ro).round = ro := rfl
theorem callsFw {ro : Option Nat} {n : Nat} {f : FuncId} {args : Array Value} {w : World} {R : Ending → World → Prop} : CallsIn (Fw ro) n P f args w R ↔ Calls P f args w R :=
  callsIn_wide (n := n)

def notDefer : Op → Bool
  | .defer _ => false
  | _ => true

def At (r : Nat → Nat) (H : AH) (foot : List Nat) (w : World) : Prop := ∀ i ∈ foot, ∀ x, H[i]? = some x → w.heap[r i]? = some (x.1.conc r)

/-- The operation hands back v and leaves the world alone, but for memory that a callee makes. -/
def QSem (P : Program) (o : Oper) (F : AF) (H : AH) (v : AV) (foot : List Nat) : Prop :=
  ∀ (r : Nat → Nat) (w : World) (ρ : Operand → Value), (∀ x ∈ o.op.operands, ρ x = (F.ev x).conc r) → At r H foot w →
    (execOp ρ o).run P w = .ok (.value (v.conc r)) w ∨
    ∃ f args, (execOp ρ o).run P w = .ok (.enter f args) w ∧ Calls P f args w fun e w' => e = .returned (v.conc r) ∧ Below w.heap.size w w'

/-- The operation hands back v and leaves memory as H'. -/
def ESem (P : Program) (o : Oper) (F : AF) (H : AH) (v : AV) (H' : AH) : Prop :=
  ∀ (r : Nat → Nat) (W0 w : World) (ρ : Operand → Value), (∀ x ∈ o.op.operands, ρ x = (F.ev x).conc r) → St r H W0 w →
    (∃ r' w', Agree H.length r r' ∧ St r' H' W0 w' ∧ ((execOp ρ o).run P w = .ok (.value (v.conc r')) w' ∨ ((execOp ρ o).run P w = .ok .skip w' ∧ v = .undef))) ∨
    ∃ f args, (execOp ρ o).run P w = .ok (.enter f args) w ∧ Calls P f args w fun e w' => ∃ r', Agree H.length r r' ∧ e = .returned (v.conc r') ∧ St r' H' W0 w'

inductive SR where
  | qt (v : AV) (foot : List Nat) (ob : Option Prop)
  | ef (v : AV) (H' : AH) (ids : List Nat) (ob : Option Prop)

def SR.v : SR → AV
  | .qt v _ _ => v
  | .ef v _ _ _ => v
def SR.ob : SR → Option Prop
  | .qt _ _ o => o
  | .ef _ _ _ o => o

/-- What a callee is known for. -/
def callT (T : CT P) (F : AF) (H : AH) (op : Op) : Option SR :=
  match op with
  | .call c => match callA F.ev c with
    | some (f, args) => match T.q f args H with
      | some (v, ft, pr) => some (.qt v ft pr)
      | none => match T.e f args H with
        | some (v, upd, new, pr) => cond (H.scB && F.scB H.length && updOk H upd) (some (.ef v (moveH H upd new) (upd.map (·.1)) pr)) none
        | none => none
    | none => none
  | _ => none

def opT (T : CT P) (F : AF) (H : AH) (op : Op) : Option SR :=
  match T.oq F.ev H op with
  | some (v, ft, pr) => some (.qt v ft pr)
  | none => match T.oe F.ev H op with
    | some (v, upd, new, pr) => cond (H.scB && F.scB H.length && updOk H upd) (some (.ef v (moveH H upd new) (upd.map (·.1)) pr)) none
    | none => none

/-- An operation without a token. -/
def natA (P : Program) (T : CT P) (F : AF) (H : AH) (op : Op) : Option SR :=
  match qOp P F.ev H op with
  | some (v, ft, pr) => some (.qt v ft pr)
  | none => match eOp P F.ev H op with
    | some (v, e) => cond (H.scB && F.scB H.length) (some (.ef v (e.app H) e.ids none)) none
    | none => match callT T F H op with
      | some s => some s
      | none => opT T F H op

/-- These cells lie there. -/
def LiesIn (cs : List CV) (o : Nat) (l : List CV) : Prop := ∀ j, j < l.length → cs[o + j]? = l[j]?
def LiesRaw (c : Array Value) (o : Nat) (l : List CV) : Prop := ∀ j, j < l.length → ∃ v, l[j]? = some (.rig v) ∧ c[o + j]? = some v

/-- A load whose place is no numeral: what it comes to is said. -/
def loadL (P : Program) (H : AH) (t : TypeId) (i o : Nat) (v : TV) : Option Prop :=
  match H[i]?, aggB P t, sizeA P t, v with
  | some (.cells cs _, _), some true, some n, .agg l => cond (Nat.beq l.length n) (some (LiesIn cs o l)) none
  | some (.cells cs _, _), some false, _, .one c => some (cs[o]? = some c)
  | some (.raw (.cells c _ _), _), some true, some n, .agg l => cond (Nat.beq l.length n) (some (LiesRaw c o l)) none
  | some (.raw (.cells c _ _), _), some false, _, .one (.rig v) => some (c[o]? = some v)
  | _, _, _, _ => none

theorem load_cells_run {t : TypeId} {n : Nat} (hg : aggB P t = some true) (hs : sizeA P t = some n) {w : World} {b o : Nat} {l : List Value} (hl : l.length = n) (h : ∀ j, j < n → w.cell? ⟨b, o + j, none⟩ = l[j]?) :
    (loadVar t ⟨b, o, none⟩).run P w = .ok (.agg l.toArray) w := by
  simp only [loadVar, Sem.run_bind, run_isAgg_of hg, Result.andThen_ok, if_true, run_sizeOf_of hs]
  have := run_loadCells_list (P := P) w ⟨b, o, none⟩ l (fun j u hu => by
    have hadd : (⟨b, o, none⟩ : Addr).add j = ⟨b, o + j, none⟩ := addr_add b o j
    rw [hadd, h j (by have := (List.getElem?_eq_some_iff.1 hu).1; omega)]
    exact hu)
  rw [hl] at this
  rw [this]
  rfl

theorem load_one_run {t : TypeId} (hg : aggB P t = some false) {w : World} {b o : Nat} {v : Value} (h : w.cell? ⟨b, o, none⟩ = some v) : (loadVar t ⟨b, o, none⟩).run P w = .ok v w := by
  simp only [loadVar, Sem.run_bind, run_isAgg_of hg, Result.andThen_ok, Bool.false_eq_true, if_false]
  simp [load, Sem.run, h]

theorem loadL_run {H : AH} {t : TypeId} {i o : Nat} {v : TV} {p : Prop} (h : loadL P H t i o v = some p) (hp : p) {r : Nat → Nat} {w : World} (hat : ∀ x, H[i]? = some x → w.heap[r i]? = some (x.1.conc r)) :
    (loadVar t ⟨r i, o, none⟩).run P w = .ok (v.conc r) w := by
  unfold loadL at h
  split at h
  · rename_i cs ty f n l hH hg hs
    have hb := hat _ hH
    simp only [AO.conc] at hb
    cases hn : Nat.beq l.length n with
    | false => simp [hn] at h
    | true =>
      simp only [hn, cond_true, Option.some.injEq] at h
      subst h
      have hn' := Nat.eq_of_beq_eq_true hn
      refine load_cells_run hg hs (l := l.map (CV.conc r)) (by simpa using hn') fun j hj => ?_
      have := hp j (by omega)
      simp only [World.cell?, hb, Option.isSome_none, Bool.false_eq_true, if_false, List.getElem?_toArray, List.getElem?_map, this]
  · rename_i cs ty f c hH hg
    have hb := hat _ hH
    simp only [AO.conc] at hb
    simp only [Option.some.injEq] at h
    subst h
    refine load_one_run hg ?_
    simp [World.cell?, hb, hp, TV.conc, CV.conc]
  · rename_i c ty fr f n l hH hg hs
    have hb := hat _ hH
    simp only [AO.conc] at hb
    cases hn : Nat.beq l.length n with
    | false => simp [hn] at h
    | true =>
      simp only [hn, cond_true, Option.some.injEq] at h
      subst h
      have hn' := Nat.eq_of_beq_eq_true hn
      refine load_cells_run hg hs (l := l.map (CV.conc r)) (by simpa using hn') fun j hj => ?_
      obtain ⟨u, h1, h2⟩ := hp j (by omega)
      simp [World.cell?, hb, h1, h2, CV.conc]
  · rename_i c ty fr f u hH hg
    have hb := hat _ hH
    simp only [AO.conc] at hb
    simp only [Option.some.injEq] at h
    subst h
    refine load_one_run hg ?_
    simp [World.cell?, hb, hp, TV.conc, CV.conc]
  · simp at h

def placeOf (F : AF) : Op → Option (TypeId × Nat × Nat)
  | .load t x => match F.ev x with
    | .tv (.one (.ptr i o)) => some (t, i, o)
    | _ => none
  | _ => none

theorem placeOf_run {F : AF} {o : Oper} {t : TypeId} {i off : Nat} (h : placeOf F o.op = some (t, i, off)) {ρ : Operand → Value} {r : Nat → Nat} {w : World} {v : Value} (hev : ∀ x ∈ o.op.operands, ρ x = (F.ev x).conc r)
    (hl : (loadVar t ⟨r i, off, none⟩).run P w = .ok v w) : (execOp ρ o).run P w = .ok (.value v) w := by
  unfold execOp
  cases ho : o.op <;> rw [ho] at h hev <;> simp only [placeOf] at h <;> first | (cases h; done) | skip
  rename_i t' x
  split at h
  · rename_i i' o' hx
    simp only [Option.some.injEq, Prod.mk.injEq] at h
    obtain ⟨rfl, rfl, rfl⟩ := h
    have e : ρ x = .pointer (some ⟨r i', o', none⟩) := by rw [hev x (by simp [Op.operands]), hx]; rfl
    simp [e, Instr.loadAt, Instr.sureAddr, hl]
  · cases h

/-- An operation, by its token if there is one. -/
def bareA (P : Program) (T : CT P) (key : Nat) (o : Oper) (F : AF) (H : AH) (D : List Dec) : Option (SR × List Dec) :=
  match D with
  | .q k v ft :: D' => cond (Nat.beq k key)
      (cond (notDefer o.op) (some (.qt v ft (some (∀ (r : Nat → Nat) (w : World) (ρ : Operand → Value), (∀ x ∈ o.op.operands, ρ x = (F.ev x).conc r) → At r H ft w → (execOp ρ o).run P w = .ok (.value (v.conc r)) w)), D')) none)
      ((natA P T F H o.op).map fun s => (s, D))
  | .k k v ft :: D' => cond (Nat.beq k key)
      (match o.op with
       | .call c => match callA F.ev c with
         | some (f, args) => cond (bodyB P f) (some (.qt v ft (some (∀ (r : Nat → Nat) (w : World), At r H ft w → Calls P f (args.map (AV.conc r)).toArray w fun e w' => e = .returned (v.conc r) ∧ Below w.heap.size w w')), D')) none
         | none => none
       | _ => none)
      ((natA P T F H o.op).map fun s => (s, D))
  | .x k v upd new :: D' => cond (Nat.beq k key)
      (match o.op with
       | .call c => match callA F.ev c with
         | some (f, args) => cond (bodyB P f && H.scB && F.scB H.length && updOk H upd)
            (some (.ef v (moveH H upd new) (upd.map (·.1)) (some (∀ (r : Nat → Nat) (W0 w : World), St r H W0 w →
              Calls P f (args.map (AV.conc r)).toArray w fun e w' => ∃ r', Agree H.length r r' ∧ e = .returned (v.conc r') ∧ Moves r r' H.length upd new w w')), D')) none
         | none => none
       | _ => none)
      ((natA P T F H o.op).map fun s => (s, D))
  | .e k v upd new :: D' => cond (Nat.beq k key)
      (cond (notDefer o.op && H.scB && F.scB H.length && updOk H upd)
        (some (.ef v (moveH H upd new) (upd.map (·.1)) (some (∀ (r : Nat → Nat) (W0 w : World) (ρ : Operand → Value), (∀ x ∈ o.op.operands, ρ x = (F.ev x).conc r) → St r H W0 w →
          ∃ r' w', Agree H.length r r' ∧ Moves r r' H.length upd new w w' ∧ ((execOp ρ o).run P w = .ok (.value (v.conc r')) w' ∨ ((execOp ρ o).run P w = .ok .skip w' ∧ v = .undef)))), D')) none)
      ((natA P T F H o.op).map fun s => (s, D))
  | .l k v :: D' => cond (Nat.beq k key)
      (match placeOf F o.op with
       | some (t, i, off) => match loadL P H t i off v with
         | some p => some (.qt (.tv v) [i] (some p), D')
         | none => none
       | none => none)
      ((natA P T F H o.op).map fun s => (s, D))
  | _ => (natA P T F H o.op).map fun s => (s, D)

def SR.Sem (P : Program) (o : Oper) (F : AF) (H : AH) : SR → Prop
  | .qt v ft _ => QSem P o F H v ft
  | .ef v H' _ _ => ESem P o F H v H' ∧ F.scB H.length = true ∧ H.scB = true

theorem natA_cases {F : AF} {H : AH} {op : Op} {s : SR} (h : natA P T F H op = some s) :
    (∃ v ft pr, qOp P F.ev H op = some (v, ft, pr) ∧ s = .qt v ft pr) ∨
    (∃ v e, eOp P F.ev H op = some (v, e) ∧ H.scB = true ∧ F.scB H.length = true ∧ s = .ef v (e.app H) e.ids none) ∨
    (∃ c f args v ft pr, op = .call c ∧ callA F.ev c = some (f, args) ∧ T.q f args H = some (v, ft, pr) ∧ s = .qt v ft pr) ∨
    (∃ c f args v upd new pr, op = .call c ∧ callA F.ev c = some (f, args) ∧ T.e f args H = some (v, upd, new, pr) ∧ H.scB = true ∧ F.scB H.length = true ∧ updOk H upd = true ∧ s = .ef v (moveH H upd new) (upd.map (·.1)) pr) ∨
    (∃ v ft pr, T.oq F.ev H op = some (v, ft, pr) ∧ s = .qt v ft pr) ∨
    (∃ v upd new pr, T.oe F.ev H op = some (v, upd, new, pr) ∧ H.scB = true ∧ F.scB H.length = true ∧ updOk H upd = true ∧ s = .ef v (moveH H upd new) (upd.map (·.1)) pr) := by
  unfold natA at h
  cases hq : qOp P F.ev H op with
  | some x =>
    obtain ⟨v, ft, pr⟩ := x
    simp [hq] at h
    exact .inl ⟨v, ft, pr, rfl, h.symm⟩
  | none =>
    cases he : eOp P F.ev H op with
    | some x =>
      obtain ⟨v, e⟩ := x
      cases hc : (H.scB && F.scB H.length) with
      | false => simp [hq, he, hc] at h
      | true =>
        simp [hq, he, hc] at h
        simp only [Bool.and_eq_true] at hc
        exact .inr (.inl ⟨v, e, rfl, hc.1, hc.2, h.symm⟩)
    | none =>
      simp only [hq, he] at h
      cases hcl : callT T F H op with
      | none =>
        simp only [hcl] at h
        unfold opT at h
        cases hoq : T.oq F.ev H op with
        | some x =>
          obtain ⟨v, ft, pr⟩ := x
          simp [hoq] at h
          exact .inr (.inr (.inr (.inr (.inl ⟨v, ft, pr, rfl, h.symm⟩))))
        | none =>
          cases hoe : T.oe F.ev H op with
          | none => simp [hoq, hoe] at h
          | some x =>
            obtain ⟨v, upd, new, pr⟩ := x
            cases hc : (H.scB && F.scB H.length && updOk H upd) with
            | false => simp [hoq, hoe, hc] at h
            | true =>
              simp [hoq, hoe, hc] at h
              simp only [Bool.and_eq_true] at hc
              exact .inr (.inr (.inr (.inr (.inr ⟨v, upd, new, pr, rfl, hc.1.1, hc.1.2, hc.2, h.symm⟩))))
      | some s' =>
        simp only [hcl, Option.some.injEq] at h
        subst h
        unfold callT at hcl
        split at hcl
        · rename_i c
          cases hca : callA F.ev c with
          | none => simp [hca] at hcl
          | some x =>
            obtain ⟨f, args⟩ := x
            simp only [hca] at hcl
            cases htq : T.q f args H with
            | some x =>
              obtain ⟨v, ft, pr⟩ := x
              simp [htq] at hcl
              exact .inr (.inr (.inl ⟨c, f, args, v, ft, pr, rfl, hca, htq, hcl.symm⟩))
            | none =>
              cases hte : T.e f args H with
              | none => simp [htq, hte] at hcl
              | some x =>
                obtain ⟨v, upd, new, pr⟩ := x
                cases hc : (H.scB && F.scB H.length && updOk H upd) with
                | false => simp [htq, hte, hc] at hcl
                | true =>
                  simp [htq, hte, hc] at hcl
                  simp only [Bool.and_eq_true] at hc
                  exact .inr (.inr (.inr (.inl ⟨c, f, args, v, upd, new, pr, rfl, hca, hte, hc.1.1, hc.1.2, hc.2, hcl.symm⟩)))
        · simp at hcl

theorem natA_sem {F : AF} {H : AH} {o : Oper} {s : SR} (h : natA P T F H o.op = some s) (hob : Owed s.ob) : s.Sem P o F H := by
  rcases natA_cases h with ⟨v, ft, pr, hq, rfl⟩ | ⟨v, e, he, hH, hF, rfl⟩ | ⟨c, f, args, v, ft, pr, ho, hca, ht, rfl⟩ | ⟨c, f, args, v, upd, new, pr, ho, hca, ht, hH, hF, hu, rfl⟩ | ⟨v, ft, pr, ht, rfl⟩ | ⟨v, upd, new, pr, ht, hH, hF, hu, rfl⟩
  · exact fun r w ρ hev hat => .inl (qOp_run hq hob hev hat)
  · exact ⟨fun r W0 w ρ hev hst => .inl (eOp_run he hH hev hst), hF, hH⟩
  · obtain ⟨hb, hc⟩ := T.qok f args H v ft pr ht hob
    exact fun r w ρ hev hat => .inr ⟨f, _, callA_run hca hb ho hev, hc r w hat⟩
  · obtain ⟨hb, hc⟩ := T.eok f args H v upd new pr ht hob
    refine ⟨fun r W0 w ρ hev hst => .inr ⟨f, _, callA_run hca hb ho hev, (hc r W0 w hst).mono ?_⟩, hF, hH⟩
    rintro e w' ⟨r', hag, he, hm⟩
    exact ⟨r', hag, he, hst.moves hm hag hH hu⟩
  · exact fun r w ρ hev hat => .inl (T.oqok F.ev H o v ft pr ht hob ρ r w hev hat)
  · refine ⟨fun r W0 w ρ hev hst => ?_, hF, hH⟩
    obtain ⟨r', w', hag, hm, hrun⟩ := T.oeok F.ev H o v upd new pr ht hob ρ r W0 w hev hst
    exact .inl ⟨r', w', hag, hst.moves hm hag hH hu, hrun⟩

theorem map_some {α β : Type} {x : Option α} {f : α → β} {b : β} (h : x.map f = some b) : ∃ a, x = some a ∧ f a = b := by
  cases x with
  | none => simp at h
  | some a => exact ⟨a, rfl, by simpa using h⟩

theorem bareA_sem {key : Nat} {F : AF} {H : AH} {o : Oper} {D D' : List Dec} {s : SR} (h : bareA P T key o F H D = some (s, D')) (hob : Owed s.ob) : s.Sem P o F H := by
  have nat : (natA P T F H o.op).map (fun s => (s, D)) = some (s, D') → s.Sem P o F H := fun h => by
    obtain ⟨s', hs, e⟩ := map_some h
    simp only [Prod.mk.injEq] at e
    obtain ⟨rfl, _⟩ := e
    exact natA_sem hs hob
  unfold bareA at h
  split at h
  · rename_i k v ft D1
    cases hk : Nat.beq k key with
    | false => rw [hk] at h; exact nat h
    | true =>
      cases hd : notDefer o.op with
      | false => simp [hk, hd] at h
      | true =>
        simp only [hk, hd, cond_true, Option.some.injEq, Prod.mk.injEq] at h
        obtain ⟨rfl, _⟩ := h
        exact fun r w ρ hev hat => .inl (hob.some r w ρ hev hat)
  · rename_i k v ft D1
    cases hk : Nat.beq k key with
    | false => rw [hk] at h; exact nat h
    | true =>
      simp only [hk, cond_true] at h
      split at h
      · rename_i c hc
        split at h
        · rename_i f args hf
          cases hb : bodyB P f with
          | false => simp [hb] at h
          | true =>
            simp only [hb, cond_true, Option.some.injEq, Prod.mk.injEq] at h
            obtain ⟨rfl, _⟩ := h
            exact fun r w ρ hev hat => .inr ⟨f, _, callA_run hf hb hc hev, hob.some r w hat⟩
        · simp at h
      · simp at h
  · rename_i k v upd new D1
    cases hk : Nat.beq k key with
    | false => rw [hk] at h; exact nat h
    | true =>
      simp only [hk, cond_true] at h
      split at h
      · rename_i c hc
        split at h
        · rename_i f args hf
          cases hb : (bodyB P f && H.scB && F.scB H.length && updOk H upd) with
          | false => simp [hb] at h
          | true =>
            simp only [hb, cond_true, Option.some.injEq, Prod.mk.injEq] at h
            obtain ⟨rfl, _⟩ := h
            simp only [Bool.and_eq_true] at hb
            obtain ⟨⟨⟨hb, hs⟩, hF⟩, hu⟩ := hb
            refine ⟨fun r W0 w ρ hev hst => .inr ⟨f, _, callA_run hf hb hc hev, (hob.some r W0 w hst).mono ?_⟩, hF, hs⟩
            rintro e w' ⟨r', hag, he, hm⟩
            exact ⟨r', hag, he, hst.moves hm hag hs hu⟩
        · simp at h
      · simp at h
  · rename_i k v upd new D1
    cases hk : Nat.beq k key with
    | false => rw [hk] at h; exact nat h
    | true =>
      cases hb : (notDefer o.op && H.scB && F.scB H.length && updOk H upd) with
      | false => simp [hk, hb] at h
      | true =>
        simp only [hk, hb, cond_true, Option.some.injEq, Prod.mk.injEq] at h
        obtain ⟨rfl, _⟩ := h
        simp only [Bool.and_eq_true] at hb
        obtain ⟨⟨⟨hd, hs⟩, hF⟩, hu⟩ := hb
        refine ⟨fun r W0 w ρ hev hst => ?_, hF, hs⟩
        obtain ⟨r', w', hag, hm, hrun⟩ := hob.some r W0 w ρ hev hst
        exact .inl ⟨r', w', hag, hst.moves hm hag hs hu, hrun⟩
  · rename_i k v D1
    cases hk : Nat.beq k key with
    | false => rw [hk] at h; exact nat h
    | true =>
      simp only [hk, cond_true] at h
      split at h
      · rename_i t i off hpl
        split at h
        · rename_i p hl
          simp only [Option.some.injEq, Prod.mk.injEq] at h
          obtain ⟨rfl, _⟩ := h
          exact fun r w ρ hev hat => .inl (placeOf_run hpl hev (loadL_run hl hob.some (fun x hx => hat i (by simp) x hx)))
        · simp at h
      · simp at h
  · exact nat h

/-! ### From what an operation does to its rule -/
theorem run_defer {ρ : Operand → Value} {o : Oper} {c : Call} (ho : o.op = .defer c) {w : World} : (∀ v w', (execOp ρ o).run P w ≠ .ok (.value v) w') ∧ (∀ w', (execOp ρ o).run P w ≠ .ok .skip w') ∧ (∀ f args w', (execOp ρ o).run P w ≠ .ok (.enter f args) w') := by
  unfold execOp
  simp only [ho, Sem.run_bind]
  cases (resolve ρ c o.type).run P w <;> simp [Result.andThen]

theorem semAt_eq {ro : Option Nat} {ρ : Operand → Value} {o : Oper} (h : ∀ c, o.op ≠ .defer c) : Oper.semAt ro ρ o = execOp ρ o := by
  cases ro with
  | none => rfl
  | some l => exact Oper.semAt_some l ρ o h

theorem wpIn_of_value {ro : Option Nat} {n : Nat} {o : Oper} {a : Act} {w w' : World} {K : Act → World → Prop} {X : Exit → Act → World → Prop} {v : Value}
    (hrun : (execOp a.eval o).run P w = .ok (.value v) w') (hK : K (a.put o.dst v) w') : o.wpIn (Fw ro) n P a w K X := by
  refine ⟨fun _ _ => trivial, ?_⟩
  rw [Fw_round, semAt_eq fun c hc => (run_defer hc).1 _ _ hrun, hrun]
  exact hK

theorem wpIn_of_skip {ro : Option Nat} {n : Nat} {o : Oper} {a : Act} {w w' : World} {K : Act → World → Prop} {X : Exit → Act → World → Prop}
    (hrun : (execOp a.eval o).run P w = .ok .skip w') (hK : K (a.put o.dst Go.undef) w') : o.wpIn (Fw ro) n P a w K X := by
  refine ⟨fun _ _ => trivial, ?_⟩
  rw [Fw_round, semAt_eq fun c hc => (run_defer hc).2.1 _ hrun, hrun]
  exact hK

theorem wpIn_of_enter {ro : Option Nat} {n : Nat} {o : Oper} {a : Act} {w w' : World} {K : Act → World → Prop} {X : Exit → Act → World → Prop} {f : FuncId} {args : Array Value}
    (hrun : (execOp a.eval o).run P w = .ok (.enter f args) w') {R : Ending → World → Prop} (hc : Calls P f args w' R) (hR : ∀ e w'', R e w'' → ∃ v, e = .returned v ∧ K (a.put o.dst v) w'') : o.wpIn (Fw ro) n P a w K X := by
  refine ⟨fun _ _ => trivial, ?_⟩
  rw [Fw_round, semAt_eq fun c hc => (run_defer hc).2.2 _ _ _ hrun, hrun]
  refine ⟨fun h => by simp at h, callsFw.2 (hc.mono fun e w'' he => ?_)⟩
  obtain ⟨v, rfl, hk⟩ := hR e w'' he
  exact hk

theorem QSem.wp {ro : Option Nat} {n : Nat} {o : Oper} {F : AF} {H : AH} {v : AV} {ft : List Nat} (hq : QSem P o F H v ft) {a : Act} {w : World} {r : Nat → Nat} {K : Act → World → Prop} {X : Exit → Act → World → Prop}
    (hev : ∀ x ∈ o.op.operands, a.eval x = (F.ev x).conc r) (hat : At r H ft w) (hK : ∀ w', Below w.heap.size w w' → K (a.put o.dst (v.conc r)) w') : o.wpIn (Fw ro) n P a w K X := by
  rcases hq r w a.eval hev hat with hrun | ⟨f, args, hrun, hc⟩
  · exact wpIn_of_value hrun (hK w (Below.refl _ _))
  · exact wpIn_of_enter hrun hc fun e w' ⟨he, hb⟩ => ⟨_, he, hK w' hb⟩

theorem ESem.wp {ro : Option Nat} {n : Nat} {o : Oper} {F : AF} {H H' : AH} {v : AV} (he : ESem P o F H v H') {a : Act} {W0 w : World} {r : Nat → Nat} {K : Act → World → Prop} {X : Exit → Act → World → Prop}
    (hev : ∀ x ∈ o.op.operands, a.eval x = (F.ev x).conc r) (hst : St r H W0 w) (hK : ∀ r' w', Agree H.length r r' → St r' H' W0 w' → K (a.put o.dst (v.conc r')) w') : o.wpIn (Fw ro) n P a w K X := by
  rcases he r W0 w a.eval hev hst with ⟨r', w', hag, hst', hrun | ⟨hrun, rfl⟩⟩ | ⟨f, args, hrun, hc⟩
  · exact wpIn_of_value hrun (hK r' w' hag hst')
  · exact wpIn_of_skip hrun (hK r' w' hag hst')
  · exact wpIn_of_enter hrun hc fun e w' ⟨r', hag, he, hst'⟩ => ⟨_, he, hK r' w' hag hst'⟩

theorem St.At {r : Nat → Nat} {H : AH} {W0 w : World} (h : St r H W0 w) (ft : List Nat) : At r H ft w := fun i _ x hx => h.at_ i x hx

end Go.Proofs.Ytodcebpdmjdplaa
