/- The executor, second part: loads and stores of whole values, addresses, arithmetic: what they come to, and that they do. -/
import Derived.Test.YtodcebpdmjdplaaV1
import Derived.Laws.CopyRow
namespace Go.Proofs.Ytodcebpdmjdplaa
open Go.RowKit
variable {P : Program}

theorem run_storeCells_at (g : Nat) (t : TypeId) : ∀ (vs : List Value) (i : Nat) (cur : Array Value) (w : World), w.heap[g]? = some (.cells cur t (0, 0)) → i + vs.length ≤ cur.size → (∀ v ∈ vs, v.oneCell' = true) →
    (storeCells ⟨g, 0, none⟩ vs i).run P w = .ok () (w.setRow g (cur.toList.take i ++ vs ++ cur.toList.drop (i + vs.length)).toArray)
  | [], i, cur, w, hg, _, _ => by
    simp only [storeCells, List.append_nil, List.length_nil, Nat.add_zero, List.take_append_drop]
    show Result.ok () w = _
    rw [show cur.toList.toArray = cur from rfl, setRow_self w g cur t (0, 0) hg]
  | v :: rest, i, cur, w, hg, hl, h1 => by
    have hi : i < cur.size := by simp at hl; omega
    have hadd : (⟨g, 0, none⟩ : Addr).add i = ⟨g, i, none⟩ := by unfold Addr.add; split <;> simp_all
    have hcell : w.cell? ⟨g, i, none⟩ = some cur[i] := by simp [World.cell?, hg, hi]
    have hfro : w.frozen? ⟨g, i, none⟩ = false := by simp [World.frozen?, hg]
    have hst : (store ((⟨g, 0, none⟩ : Addr).add i) v).run P w = .ok () (w.setRow g (cur.setIfInBounds i v)) := by
      rw [hadd, run_store P w _ v _ (h1 v (by simp)), hcell]
      simp [hfro, setCell_eq_setRow w g i cur t (0, 0) v hg]
    have ih := run_storeCells_at g t rest (i + 1) (cur.setIfInBounds i v) (w.setRow g (cur.setIfInBounds i v)) (setRow_heap w g cur _ t (0, 0) hg) (by simp at hl ⊢; omega) (fun u hu => h1 u (by simp [hu]))
    simp only [storeCells, Sem.run_bind, hst, Result.andThen_ok, ih, setRow_setRow]
    congr 3
    have e1 : List.take (i + 1) (cur.setIfInBounds i v).toList = List.take i cur.toList ++ [v] := by
      rw [Array.toList_setIfInBounds, List.take_succ_eq_append_getElem (by simpa using hi), List.getElem_set_self]
      congr 1
      rw [List.take_set_of_le (Nat.le_refl i)]
    have e2 : List.drop (i + 1 + rest.length) (cur.setIfInBounds i v).toList = List.drop (i + (v :: rest).length) cur.toList := by
      rw [Array.toList_setIfInBounds, List.drop_set_of_lt (by omega)]
      congr 1
      simp; omega
    rw [e1, e2]
    simp

theorem storeCells_shift (g o : Nat) : ∀ (vs : List Value) (i : Nat), storeCells ⟨g, o, none⟩ vs i = storeCells ⟨g, 0, none⟩ vs (o + i)
  | [], _ => rfl
  | v :: rest, i => by
    have e : (⟨g, o, none⟩ : Addr).add i = (⟨g, 0, none⟩ : Addr).add (o + i) := by
      unfold Addr.add
      by_cases h : i = 0
      · subst h; by_cases ho : o = 0 <;> simp [ho]
      · rw [if_neg h, if_neg (by omega)]; simp
    simp only [storeCells, e, storeCells_shift g o rest (i + 1), Nat.add_assoc]

/-! ### Types, by the program's own table -/
def aggB (P : Program) (t : TypeId) : Option Bool := (P.underlying t).map fun | .struct _ => true | .array _ _ => true | _ => false
def sizeA (P : Program) (t : TypeId) : Option Nat := (P.info? t).map (·.size)

theorem run_isAgg_of {t : TypeId} {b : Bool} (h : aggB P t = some b) (w : World) : (isAgg t).run P w = .ok b w := by
  unfold aggB at h
  cases hu : P.underlying t with
  | none => simp [hu] at h
  | some d =>
    rw [hu] at h
    simp only [Option.map_some, Option.some.injEq] at h
    subst h
    simp only [isAgg, Sem.run_bind, run_underlying hu, Result.andThen_ok]
    cases d <;> rfl

theorem run_sizeOf_of {t : TypeId} {n : Nat} (h : sizeA P t = some n) (w : World) : (sizeOf t).run P w = .ok n w := by
  unfold sizeA at h
  cases hq : P.info? t with
  | none => simp [hq] at h
  | some i => simp [hq] at h; simp [sizeOf, typeInfo, hq, h]

/-! ### A load -/
def loadA (P : Program) (H : AH) (t : TypeId) (i o : Nat) : Option TV :=
  match H[i]? with
  | some (.cells cs _, _) =>
    match aggB P t with
    | some true => match sizeA P t with
      | some n => cond (Nat.ble (o + n) cs.length) (some (.agg ((cs.drop o).take n))) none
      | none => none
    | some false => match cs[o]? with
      | some c => some (.one c)
      | none => none
    | none => none
  | _ => none

theorem loadA_run {H : AH} {t : TypeId} {i o : Nat} {v : TV} (h : loadA P H t i o = some v) {r : Nat → Nat} {w : World} (hat : ∀ x, H[i]? = some x → w.heap[r i]? = some (x.1.conc r)) :
    (loadVar t ⟨r i, o, none⟩).run P w = .ok (v.conc r) w := by
  unfold loadA at h
  cases hH : H[i]? with
  | none => simp [hH] at h
  | some x =>
    obtain ⟨ob, fl⟩ := x
    have hb := hat _ hH
    cases ob with
    | raw ob => simp [hH] at h
    | cells cs ty =>
      simp only [AO.conc] at hb
      have hcell : ∀ k, w.cell? ⟨r i, k, none⟩ = (cs.map (CV.conc r))[k]? := fun k => by simp [World.cell?, hb]
      simp only [hH] at h
      cases hg : aggB P t with
      | none => simp [hg] at h
      | some b =>
        simp only [hg] at h
        cases b with
        | true =>
          simp only [] at h
          cases hs : sizeA P t with
          | none => simp [hs] at h
          | some n =>
            simp only [hs] at h
            by_cases hle : o + n ≤ cs.length
            · rw [show Nat.ble (o + n) cs.length = true by simpa using hle] at h
              simp only [cond_true, Option.some.injEq] at h
              subst h
              simp only [loadVar, Sem.run_bind, run_isAgg_of hg, Result.andThen_ok, if_true, run_sizeOf_of hs]
              have hlen : (((cs.drop o).take n).map (CV.conc r)).length = n := by simp; omega
              have := run_loadCells_list (P := P) w ⟨r i, o, none⟩ (((cs.drop o).take n).map (CV.conc r)) (fun j u hu => by
                have hadd : (⟨r i, o, none⟩ : Addr).add j = ⟨r i, o + j, none⟩ := by unfold Addr.add; split <;> simp_all
                rw [hadd, hcell]
                have hj : j < n := by have := (List.getElem?_eq_some_iff.1 hu).1; omega
                simp only [List.getElem?_map, List.getElem?_take, hj, if_true, List.getElem?_drop] at hu ⊢
                exact hu)
              rw [hlen] at this
              rw [this]
              rfl
            · rw [show Nat.ble (o + n) cs.length = false by rw [← Bool.not_eq_true, Nat.ble_eq]; exact hle] at h
              simp at h
        | false =>
          simp only [] at h
          cases hc : cs[o]? with
          | none => simp [hc] at h
          | some c =>
            simp only [hc, Option.some.injEq] at h
            subst h
            simp only [loadVar, Sem.run_bind, run_isAgg_of hg, Result.andThen_ok, Bool.false_eq_true, if_false]
            have : w.cell? ⟨r i, o, none⟩ = some (c.conc r) := by rw [hcell]; simp [hc]
            simp [load, Sem.run, this, TV.conc]

/-! ### A store -/
def storeA (P : Program) (H : AH) (t : TypeId) (i o : Nat) (v : TV) : Option (AO × Nat) :=
  match H[i]? with
  | some (.cells cs ty, f) =>
    match sizeA P t with
    | some n => cond (Nat.beq n v.cells.length && Nat.ble (o + v.cells.length) cs.length && v.fits && (Nat.beq f 1 || Nat.beq f 2))
        (some (.cells (cs.take o ++ v.cells ++ cs.drop (o + v.cells.length)) ty, f)) none
    | none => none
  | _ => none

theorem CV.oneCell_of {c : CV} (h : c.fits = true) (r : Nat → Nat) : (c.conc r).oneCell' = true := by
  cases c with
  | rig v => cases v <;> simp_all [CV.fits, CV.conc, Value.oneCell']
  | _ => simp [CV.conc, Value.oneCell']

theorem TV.cells_conc {t : TV} (h : t.fits = true) (r : Nat → Nat) : (t.conc r).cells = (t.cells.map (CV.conc r)).toArray := by
  cases t with
  | agg l => rfl
  | one c =>
    simp only [TV.fits, TV.cells, List.all_cons, List.all_nil, Bool.and_true] at h
    cases c with
    | rig v => cases v <;> simp_all [CV.fits, CV.conc, TV.conc, TV.cells, Value.cells]
    | _ => simp [CV.conc, TV.conc, TV.cells, Value.cells]

theorem storeA_run {H : AH} {t : TypeId} {i o : Nat} {v : TV} {x : AO × Nat} (h : storeA P H t i o v = some x) {r : Nat → Nat} {W0 w : World} (hst : St r H W0 w) :
    ∃ w', (storeVar t ⟨r i, o, none⟩ (v.conc r)).run P w = .ok () w' ∧ St r (H.set i x) W0 w' := by
  unfold storeA at h
  cases hH : H[i]? with
  | none => simp [hH] at h
  | some y =>
    obtain ⟨ob, f⟩ := y
    cases ob with
    | raw ob => simp [hH] at h
    | cells cs ty =>
      simp only [hH] at h
      cases hs : sizeA P t with
      | none => simp [hs] at h
      | some n =>
        simp only [hs] at h
        cases hc : (Nat.beq n v.cells.length && Nat.ble (o + v.cells.length) cs.length && v.fits && (Nat.beq f 1 || Nat.beq f 2)) with
        | false => simp [hc] at h
        | true =>
          simp only [hc, cond_true, Option.some.injEq] at h
          subst h
          simp only [Bool.and_eq_true, Bool.or_eq_true, Nat.ble_eq, Nat.beq_eq] at hc
          obtain ⟨⟨⟨h1, h2⟩, h3⟩, h4⟩ := hc
          have hb := hst.at_ i _ hH
          simp only [AO.conc] at hb
          have hcells := TV.cells_conc h3 r
          have hrun := run_storeCells_at (P := P) (r i) ty (v.cells.map (CV.conc r)) o _ w hb (by simp; omega) (fun u hu => by
            obtain ⟨c, hc, rfl⟩ := List.mem_map.1 hu
            exact CV.oneCell_of (List.all_eq_true.1 h3 c hc) r)
          have hfull : (storeVar t ⟨r i, o, none⟩ (v.conc r)).run P w = .ok () (w.setRow (r i) (((cs.map (CV.conc r)).toArray.toList.take o ++ v.cells.map (CV.conc r) ++ (cs.map (CV.conc r)).toArray.toList.drop (o + (v.cells.map (CV.conc r)).length)).toArray)) := by
            simp only [storeVar, Sem.run_bind, run_sizeOf_of hs, Result.andThen_ok, hcells, List.size_toArray, List.length_map]
            rw [if_neg (by omega), storeCells_shift, Nat.add_zero]
            simpa using hrun
          refine ⟨_, hfull, St.turn hst hH (.cells (cs.take o ++ v.cells ++ cs.drop (o + v.cells.length)) ty) ?_ (fun b hb' => setRow_other w _ _ _ hb') rfl rfl rfl (by simp) h4⟩
          rw [setRow_heap w _ _ _ ty (0, 0) hb]
          simp [AO.conc]

end Go.Proofs.Ytodcebpdmjdplaa
