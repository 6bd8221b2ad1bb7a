/- The executor, sixth part: operations that write or make memory, calls by their contracts, one operation of a list. -/
import Derived.Test.YtodcebpdmjdplaaV5
namespace Go.Proofs.Ytodcebpdmjdplaa
open Go.RowKit
variable {P : Program}

inductive Eff where
  | new (o : AO)
  | set (i : Nat) (x : AO × Nat)

def Eff.app (H : AH) : Eff → AH
  | .new o => H ++ [(o, 1)]
  | .set i x => H.set i x

def Eff.ids : Eff → List Nat
  | .new _ => []
  | .set i _ => [i]

def zeroA (P : Program) (t : TypeId) : Option (List CV) :=
  match P.info? t with
  | some i => match i.zero with
    | some z => some (z.cells.toList.map CV.rig)
    | none => none
  | none => none

def eOp (P : Program) (ev : Operand → AV) (H : AH) (op : Op) : Option (AV × Eff) :=
  match op with
  | .alloc t => match zeroA P t with
    | some cs => some (.c (.ptr H.length 0), .new (.cells cs t))
    | none => none
  | .box t x => match ev x with
    | .tv u => cond (u.fits && u.sc H.length) (some (.c (.ptr H.length 0), .new (.cells u.cells t))) none
    | _ => none
  | .store t a x => match ev a, ev x with
    | .tv (.one (.ptr i o)), .tv u => match storeA P H t i o u with
      | some y => some (.undef, .set i y)
      | none => none
    | _, _ => none
  | .makeMap _ none => some (.c (.mp H.length), .new (.raw (.map #[] 0)))
  | _ => none

theorem eOp_run {ev : Operand → AV} {H : AH} {o : Oper} {v : AV} {e : Eff} (h : eOp P ev H o.op = some (v, e)) (hsc : H.scB = true)
    {ρ : Operand → Value} {r : Nat → Nat} {W0 w : World} (hev : ∀ x ∈ o.op.operands, ρ x = (ev x).conc r) (hst : St r H W0 w) :
    ∃ r' w', Agree H.length r r' ∧ St r' (e.app H) W0 w' ∧ ((execOp ρ o).run P w = .ok (.value (v.conc r')) w' ∨ ((execOp ρ o).run P w = .ok .skip w' ∧ v = .undef)) := by
  unfold execOp
  cases ho : o.op <;> rw [ho] at h hev
  case alloc t =>
    simp only [eOp] at h
    unfold zeroA at h
    cases hi : P.info? t with
    | none => simp [hi] at h
    | some i =>
      cases hz : i.zero with
      | none => simp [hi, hz] at h
      | some z =>
        simp [hi, hz] at h
        obtain ⟨rfl, rfl⟩ := h
        refine ⟨_, _, bump_agree r H.length w.heap.size, St.alloc hst hsc (.cells (z.cells.toList.map CV.rig) t) (.cells z.cells t) ?_, .inl ?_⟩
        · simp [AO.conc, CV.conc, Function.comp_def]
        · simp [Instr.alloc, zeroValue, typeInfo, hi, hz, newVar, newRow, newObj, AV.conc, TV.conc, CV.conc, bump, Sem.run]
  case box t x =>
    simp only [eOp] at h
    have hx := hev x (by simp [Op.operands])
    cases hu : ev x with
    | tup l => simp [hu] at h
    | tv u =>
      cases hc : (u.fits && u.sc H.length) with
      | false => simp [hu, hc] at h
      | true =>
        simp [hu, hc] at h
        obtain ⟨rfl, rfl⟩ := h
        simp only [Bool.and_eq_true] at hc
        have hag := bump_agree r H.length w.heap.size
        refine ⟨_, _, hag, St.alloc hst hsc (.cells u.cells t) (.cells (u.conc r).cells t) ?_, .inl ?_⟩
        · rw [TV.cells_conc hc.1 r]
          simp only [AO.conc]
          rw [CV.map_agree hag hc.2]
        · simp [hx, hu, Instr.box, newVar, newRow, newObj, AV.conc, TV.conc, CV.conc, bump, Sem.run]
  case store t a x =>
    simp only [eOp] at h
    have ha := hev a (by simp [Op.operands])
    have hx := hev x (by simp [Op.operands])
    split at h
    · rename_i i o' u h1 h2
      cases hs : storeA P H t i o' u with
      | none => simp [hs] at h
      | some y =>
        simp [hs] at h
        obtain ⟨rfl, rfl⟩ := h
        obtain ⟨w', hrun, hst'⟩ := storeA_run hs hst
        refine ⟨r, w', Agree.refl _ _, hst', .inr ⟨?_, rfl⟩⟩
        have e1 : ρ a = .pointer (some ⟨r i, o', none⟩) := by rw [ha, h1]; rfl
        have e2 : ρ x = u.conc r := by rw [hx, h2]; rfl
        simp [e1, e2, Instr.storeAt, Instr.sureAddr, hrun]
    · simp at h
  case makeMap t q =>
    cases q <;> simp only [eOp] at h <;> simp at h
    obtain ⟨rfl, rfl⟩ := h
    refine ⟨_, _, bump_agree r H.length w.heap.size, St.alloc hst hsc (.raw (.map #[] 0)) (.map #[] 0) rfl, .inl ?_⟩
    simp [Instr.makeMap, newObj, AV.conc, TV.conc, CV.conc, bump, Sem.run]
  all_goals (simp [eOp] at h)

end Go.Proofs.Ytodcebpdmjdplaa
