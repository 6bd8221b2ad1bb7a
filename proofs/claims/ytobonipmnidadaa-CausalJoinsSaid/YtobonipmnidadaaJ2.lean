/- The executor, second part: loads and stores of whole values, addresses, arithmetic: what they come to, and that they do. The executor, third part: the operations that leave the world alone. The executor, fourth part: one operation that leaves the world alone: what it comes to, where it looks, what it owes. The executor, fifth part: what 'qOp' says is what the operation does. The executor, sixth part: operations that write or make memory, calls by their contracts, one operation of a list. The executor, seventh part: tokens of a path, and one operation of a region: what it asks, and that its rule follows. -/
import Derived.Test.YtobonipmnidadaaJ1
import Derived.Laws.CopyRow
namespace Go.Proofs.Ytobonipmnidadaa
open Go.RowKit
variable {P : Program}

theorem run_storeCells_at (g : Nat) (t : TypeId) : ∀ (vs : List Value) (i : Nat) (cur : Array Value) (w : World), w.heap[g]? = some (.cells cur t (0, 0)) → i + vs.length ≤ cur.size → (∀ v ∈ vs, v.oneCell' = true) →
    (storeCells ⟨g, 0, none⟩ vs i).run P w = .ok () (w.setRow g (cur.toList.take i ++ vs ++ cur.toList.drop (i + vs.length)).toArray)
  | [], i, cur, w, hg, _, _ => by
    simp only [storeCells, List.append_nil, List.length_nil, Nat.add_zero, List.take_append_drop]
    show Result.ok () w = _
    rw [show cur.toList.toArray = cur from rfl, setRow_self w g cur t (0, 0) hg]
  | v :: rest, i, cur, w, hg, hl, h1 => by
    have hi : i < cur.size := by simp at hl; omega
    have hadd : (⟨g, 0, none⟩ : Addr).add i = ⟨g, i, none⟩ := by unfold Addr.add; split <;> simp_all
    have hcell : w.cell? ⟨g, i, none⟩ = some cur[i] := by simp [World.cell?, hg, hi]
    have hfro : w.frozen? ⟨g, i, none⟩ = false := by simp [World.frozen?, hg]
    have hst : (store ((⟨g, 0, none⟩ : Addr).add i) v).run P w = .ok () (w.setRow g (cur.setIfInBounds i v)) := by
      rw [hadd, run_store P w _ v _ (h1 v (by simp)), hcell]
      simp [hfro, setCell_eq_setRow w g i cur t (0, 0) v hg]
    have ih := run_storeCells_at g t rest (i + 1) (cur.setIfInBounds i v) (w.setRow g (cur.setIfInBounds i v)) (setRow_heap w g cur _ t (0, 0) hg) (by simp at hl ⊢; omega) (fun u hu => h1 u (by simp [hu]))
    simp only [storeCells, Sem.run_bind, hst, Result.andThen_ok, ih, setRow_setRow]
    congr 3
    have e1 : List.take (i + 1) (cur.setIfInBounds i v).toList = List.take i cur.toList ++ [v] := by
      rw [Array.toList_setIfInBounds, List.take_succ_eq_append_getElem (by simpa using hi), List.getElem_set_self]
      congr 1
      rw [List.take_set_of_le (Nat.le_refl i)]
    have e2 : List.drop (i + 1 + rest.length) (cur.setIfInBounds i v).toList = List.drop (i + (v :: rest).length) cur.toList := by
      rw [Array.toList_setIfInBounds, List.drop_set_of_lt (by omega)]
      congr 1
      simp; omega
    rw [e1, e2]
    simp

theorem storeCells_shift (g o : Nat) : ∀ (vs : List Value) (i : Nat), storeCells ⟨g, o, none⟩ vs i = storeCells ⟨g, 0, none⟩ vs (o + i)
  | [], _ => rfl
  | v :: rest, i => by
    have e : (⟨g, o, none⟩ : Addr).add i = (⟨g, 0, none⟩ : Addr).add (o + i) := by
      unfold Addr.add
      by_cases h : i = 0
      · subst h; by_cases ho : o = 0 <;> simp [ho]
      · rw [if_neg h, if_neg (by omega)]; simp
    simp only [storeCells, e, storeCells_shift g o rest (i + 1), Nat.add_assoc]

/-! ### Types, by the program's own table -/
def aggB (P : Program) (t : TypeId) : Option Bool := (P.underlying t).map fun | .struct _ => true | .array _ _ => true | _ => false
def sizeA (P : Program) (t : TypeId) : Option Nat := (P.info? t).map (·.size)

theorem run_isAgg_of {t : TypeId} {b : Bool} (h : aggB P t = some b) (w : World) : (isAgg t).run P w = .ok b w := by
  unfold aggB at h
  cases hu : P.underlying t with
  | none => simp [hu] at h
  | some d =>
    rw [hu] at h
    simp only [Option.map_some, Option.some.injEq] at h
    subst h
    simp only [isAgg, Sem.run_bind, run_underlying hu, Result.andThen_ok]
    cases d <;> rfl

theorem run_sizeOf_of {t : TypeId} {n : Nat} (h : sizeA P t = some n) (w : World) : (sizeOf t).run P w = .ok n w := by
  unfold sizeA at h
  cases hq : P.info? t with
  | none => simp [hq] at h
  | some i => simp [hq] at h; simp [sizeOf, typeInfo, hq, h]

/-! ### A load -/
def loadA (P : Program) (H : AH) (t : TypeId) (i o : Nat) : Option TV :=
  match H[i]? with
  | some (.cells cs _, _) =>
    match aggB P t with
    | some true => match sizeA P t with
      | some n => cond (Nat.ble (o + n) cs.length) (some (.agg ((cs.drop o).take n))) none
      | none => none
    | some false => match cs[o]? with
      | some c => some (.one c)
      | none => none
    | none => none
  | _ => none

theorem loadA_run {H : AH} {t : TypeId} {i o : Nat} {v : TV} (h : loadA P H t i o = some v) {r : Gh} {w : World} (hat : ∀ x, H[i]? = some x → x.1.holds r w i) :
    (loadVar t ⟨r.b i, o, none⟩).run P w = .ok (v.conc r) w := by
  unfold loadA at h
  cases hH : H[i]? with
  | none => simp [hH] at h
  | some x =>
    obtain ⟨ob, fl⟩ := x
    have hb := hat _ hH
    cases ob with
    | raw ob => simp [hH] at h
    | abs k y => simp [hH] at h
    | hand => simp [hH] at h
    | cells cs ty =>
      have hb := hb.1
      have hcell : ∀ k, w.cell? ⟨r.b i, k, none⟩ = (cs.map (CV.conc r))[k]? := fun k => by simp [World.cell?, hb]
      simp only [hH] at h
      cases hg : aggB P t with
      | none => simp [hg] at h
      | some b =>
        simp only [hg] at h
        cases b with
        | true =>
          simp only [] at h
          cases hs : sizeA P t with
          | none => simp [hs] at h
          | some n =>
            simp only [hs] at h
            by_cases hle : o + n ≤ cs.length
            · rw [show Nat.ble (o + n) cs.length = true by simpa using hle] at h
              simp only [cond_true, Option.some.injEq] at h
              subst h
              simp only [loadVar, Sem.run_bind, run_isAgg_of hg, Result.andThen_ok, if_true, run_sizeOf_of hs]
              have hlen : (((cs.drop o).take n).map (CV.conc r)).length = n := by simp; omega
              have := run_loadCells_list (P := P) w ⟨r.b i, o, none⟩ (((cs.drop o).take n).map (CV.conc r)) (fun j u hu => by
                have hadd : (⟨r.b i, o, none⟩ : Addr).add j = ⟨r.b i, o + j, none⟩ := by unfold Addr.add; split <;> simp_all
                rw [hadd, hcell]
                have hj : j < n := by have := (List.getElem?_eq_some_iff.1 hu).1; omega
                simp only [List.getElem?_map, List.getElem?_take, hj, if_true, List.getElem?_drop] at hu ⊢
                exact hu)
              rw [hlen] at this
              rw [this]
              rfl
            · rw [show Nat.ble (o + n) cs.length = false by rw [← Bool.not_eq_true, Nat.ble_eq]; exact hle] at h
              simp at h
        | false =>
          simp only [] at h
          cases hc : cs[o]? with
          | none => simp [hc] at h
          | some c =>
            simp only [hc, Option.some.injEq] at h
            subst h
            simp only [loadVar, Sem.run_bind, run_isAgg_of hg, Result.andThen_ok, Bool.false_eq_true, if_false]
            have : w.cell? ⟨r.b i, o, none⟩ = some (c.conc r) := by rw [hcell]; simp [hc]
            simp [load, Sem.run, this, TV.conc]

/-! ### A store -/
def storeA (P : Program) (H : AH) (t : TypeId) (i o : Nat) (v : TV) : Option (AO × Nat) :=
  match H[i]? with
  | some (.cells cs ty, f) =>
    match sizeA P t with
    | some n => cond (Nat.beq n v.cells.length && Nat.ble (o + v.cells.length) cs.length && v.fits && !Nat.beq f 0)
        (some (.cells (cs.take o ++ v.cells ++ cs.drop (o + v.cells.length)) ty, f)) none
    | none => none
  | _ => none

theorem CV.oneCell_of {c : CV} (h : c.fits = true) (r : Gh) : (c.conc r).oneCell' = true := by
  cases c with
  | rig v => cases v <;> simp_all [CV.fits, CV.conc, Value.oneCell']
  | sl h => simp [CV.conc, SV.v, Value.oneCell']
  | _ => simp [CV.conc, Value.oneCell']

theorem TV.cells_conc {t : TV} (h : t.fits = true) (r : Gh) : (t.conc r).cells = (t.cells.map (CV.conc r)).toArray := by
  cases t with
  | agg l => rfl
  | one c =>
    simp only [TV.fits, TV.cells, List.all_cons, List.all_nil, Bool.and_true] at h
    cases c with
    | rig v => cases v <;> simp_all [CV.fits, CV.conc, TV.conc, TV.cells, Value.cells]
    | sl h => simp [CV.conc, SV.v, TV.conc, TV.cells, Value.cells]
    | _ => simp [CV.conc, TV.conc, TV.cells, Value.cells]

theorem storeA_run {H : AH} {t : TypeId} {i o : Nat} {v : TV} {x : AO × Nat} (h : storeA P H t i o v = some x) {r : Gh} {W0 : Base} {w : World} (hst : St r H W0 w) (hsc : H.scB = true) :
    ∃ w', (storeVar t ⟨r.b i, o, none⟩ (v.conc r)).run P w = .ok () w' ∧ St r (H.set i x) W0 w' := by
  unfold storeA at h
  cases hH : H[i]? with
  | none => simp [hH] at h
  | some y =>
    obtain ⟨ob, f⟩ := y
    cases ob with
    | raw ob => simp [hH] at h
    | abs k y => simp [hH] at h
    | hand => simp [hH] at h
    | cells cs ty =>
      simp only [hH] at h
      cases hs : sizeA P t with
      | none => simp [hs] at h
      | some n =>
        simp only [hs] at h
        cases hc : (Nat.beq n v.cells.length && Nat.ble (o + v.cells.length) cs.length && v.fits && !Nat.beq f 0) with
        | false => simp [hc] at h
        | true =>
          simp only [hc, cond_true, Option.some.injEq] at h
          subst h
          simp only [Bool.and_eq_true, Nat.ble_eq, Nat.beq_eq] at hc
          obtain ⟨⟨⟨h1, h2⟩, h3⟩, h4⟩ := hc
          have h4 : f ≠ 0 := fun e => by subst e; simp at h4
          have hb := (hst.at_ i _ hH).1
          have hcells := TV.cells_conc h3 r
          have hrun := run_storeCells_at (P := P) (r.b i) ty (v.cells.map (CV.conc r)) o _ w hb (by simp; omega) (fun u hu => by
            obtain ⟨c, hc, rfl⟩ := List.mem_map.1 hu
            exact CV.oneCell_of (List.all_eq_true.1 h3 c hc) r)
          have hfull : (storeVar t ⟨r.b i, o, none⟩ (v.conc r)).run P w = .ok () (w.setRow (r.b i) (((cs.map (CV.conc r)).toArray.toList.take o ++ v.cells.map (CV.conc r) ++ (cs.map (CV.conc r)).toArray.toList.drop (o + (v.cells.map (CV.conc r)).length)).toArray)) := by
            simp only [storeVar, Sem.run_bind, run_sizeOf_of hs, Result.andThen_ok, hcells, List.size_toArray, List.length_map]
            rw [if_neg (by omega), storeCells_shift, Nat.add_zero]
            simpa using hrun
          refine ⟨_, hfull, St.turn hst hsc hH rfl (.cells (cs.take o ++ v.cells ++ cs.drop (o + v.cells.length)) ty) rfl ?_ (fun b hb' => setRow_other w _ _ _ hb') rfl rfl rfl (by simp) h4⟩
          rw [setRow_heap w _ _ _ ty (0, 0) hb]
          simp [AO.conc]

end Go.Proofs.Ytobonipmnidadaa

namespace Go.Proofs.Ytobonipmnidadaa
open Go.RowKit
variable {P : Program}

def intBin (op : BinOp) (k : IntKind) (a b : Int) : Option Value :=
  match op with
  | .add => some (.int k (k.wrap (a + b)))
  | .sub => some (.int k (k.wrap (a - b)))
  | .mul => some (.int k (k.wrap (a * b)))
  | .rem => cond (decide (b = 0)) none (some (.int k (a.tmod b)))
  | .eql => some (.bool (a == b))
  | .neq => some (.bool (a != b))
  | .lss => some (.bool (decide (a < b)))
  | .leq => some (.bool (decide (a ≤ b)))
  | .gtr => some (.bool (decide (a > b)))
  | .geq => some (.bool (decide (a ≥ b)))
  | _ => none

def kindB : IntKind → IntKind → Bool
  | .i8, .i8 | .i16, .i16 | .i32, .i32 | .i64, .i64 | .u8, .u8 | .u16, .u16 | .u32, .u32 | .u64, .u64 => true
  | _, _ => false
theorem kindB_eq {a b : IntKind} (h : kindB a b = true) : a = b := by cases a <;> cases b <;> first | rfl | (simp [kindB] at h)

/-- Is it nil, as a pointer, a slice, a map? none: neither here nor there. -/
def nilB (d : TypeDesc) (c : CV) : Option Bool :=
  match d, c with
  | .pointer _, .ptr _ _ => some false
  | .pointer _, .rig (.pointer none) => some true
  | .slice _, .slc _ _ _ _ => some false
  | .slice _, .rig (.slice none _ _) => some true
  | .map _ _, .mp _ => some false
  | .map _ _, .rig (.map none) => some true
  | _, _ => none

theorem nilB_cases {d : TypeDesc} {c : CV} {b : Bool} (h : nilB d c = some b) :
    (∃ e, d = .pointer e ∧ ((∃ i o, c = .ptr i o ∧ b = false) ∨ (c = .rig (.pointer none) ∧ b = true))) ∨
    (∃ e, d = .slice e ∧ ((∃ i o n m, c = .slc i o n m ∧ b = false) ∨ (∃ n m, c = .rig (.slice none n m) ∧ b = true))) ∨
    (∃ k e, d = .map k e ∧ ((∃ i, c = .mp i ∧ b = false) ∨ (c = .rig (.map none) ∧ b = true))) := by
  unfold nilB at h
  split at h <;> simp at h <;> subst h <;> simp

/-- '==' where one side is nil. -/
def eqNil (P : Program) (t : TypeId) (x y : CV) : Option Bool :=
  match P.underlying t with
  | some d =>
    match nilB d x, nilB d y with
    | some true, some b => some b
    | some false, some true => some false
    | _, _ => none
  | none => none

theorem eqNil_spec {t : TypeId} {x y : CV} {b : Bool} (h : eqNil P t x y = some b) :
    ∃ d bx bY, P.underlying t = some d ∧ nilB d x = some bx ∧ nilB d y = some bY ∧ ((bx = true ∧ b = bY) ∨ (bx = false ∧ bY = true ∧ b = false)) := by
  unfold eqNil at h
  cases hu : P.underlying t with
  | none => simp [hu] at h
  | some d =>
    cases hx : nilB d x with
    | none => simp [hu, hx] at h
    | some bx =>
      cases hy : nilB d y with
      | none => cases bx <;> simp [hu, hx, hy] at h
      | some bY =>
        refine ⟨d, bx, bY, rfl, hx, hy, ?_⟩
        cases bx <;> cases bY <;> simp [hu, hx, hy] at h <;> subst h <;> simp

theorem eqNil_run {t : TypeId} {x y : CV} {b : Bool} (h : eqNil P t x y = some b) (r : Gh) (w : World) : (Op.equal t (x.conc r) (y.conc r)).run P w = .ok b w := by
  obtain ⟨d, bx, bY, hu, hx, hy, hb⟩ := eqNil_spec h
  have key : ∀ u v : Value, (Op.equal t u v).run P w = ((Op.equalIn (9999 + 1) t u v).run P w) := fun _ _ => rfl
  rw [key]
  unfold Op.equalIn
  simp only [Sem.run_bind, run_underlying hu, Result.andThen_ok]
  rcases nilB_cases hx with ⟨e, rfl, kx⟩ | ⟨e, rfl, kx⟩ | ⟨k, e, rfl, kx⟩
  · rcases nilB_cases hy with ⟨e, he, ky⟩ | ⟨e, he, ky⟩ | ⟨k, e, he, ky⟩ <;> first | (simp at he; done) | skip
    rcases kx with ⟨i, o, rfl, rfl⟩ | ⟨rfl, rfl⟩ <;> rcases ky with ⟨i', o', rfl, rfl⟩ | ⟨rfl, rfl⟩ <;> simp at hb <;> subst hb <;> simp [CV.conc]
  · rcases nilB_cases hy with ⟨e, he, ky⟩ | ⟨e, he, ky⟩ | ⟨k, e, he, ky⟩ <;> first | (simp at he; done) | skip
    rcases kx with ⟨i, o, n, m, rfl, rfl⟩ | ⟨n, m, rfl, rfl⟩ <;> rcases ky with ⟨i', o', n', m', rfl, rfl⟩ | ⟨n', m', rfl, rfl⟩ <;> simp at hb <;> subst hb <;> simp [CV.conc]
  · rcases nilB_cases hy with ⟨e, he, ky⟩ | ⟨e, he, ky⟩ | ⟨k', e', he, ky⟩ <;> first | (simp at he; done) | skip
    rcases kx with ⟨i, rfl, rfl⟩ | ⟨rfl, rfl⟩ <;> rcases ky with ⟨i', rfl, rfl⟩ | ⟨rfl, rfl⟩ <;> simp at hb <;> subst hb <;> simp [CV.conc]

def binA (P : Program) (op : BinOp) (t : TypeId) (x y : AV) : Option Value :=
  match x, y with
  | .tv (.one (.rig (.int k a))), .tv (.one (.rig (.int k' b))) => cond (kindB k k') (intBin op k a b) none
  | .tv (.one (.rig (.bool a))), .tv (.one (.rig (.bool b))) =>
    match P.underlying t, op with
    | some .bool, .eql => some (.bool (a == b))
    | some .bool, .neq => some (.bool (!(a == b)))
    | _, _ => none
  | .tv (.one x), .tv (.one y) =>
    match op with
    | .eql => (eqNil P t x y).map fun b => .bool b
    | .neq => (eqNil P t x y).map fun b => .bool (!b)
    | _ => none
  | _, _ => none

theorem nilB_form {d : TypeDesc} {c : CV} {b : Bool} (h : nilB d c = some b) (r : Gh) : (∃ u, c.conc r = .pointer u) ∨ (∃ u n m, c.conc r = .slice u n m) ∨ (∃ q, c.conc r = .map q) := by
  rcases nilB_cases h with ⟨e, rfl, ⟨i, o, rfl, rfl⟩ | ⟨rfl, rfl⟩⟩ | ⟨e, rfl, ⟨i, o, n, m, rfl, rfl⟩ | ⟨n, m, rfl, rfl⟩⟩ | ⟨k, e, rfl, ⟨i, rfl, rfl⟩ | ⟨rfl, rfl⟩⟩ <;> simp [CV.conc]

theorem eqNil_bin {t : TypeId} {x y : CV} {b : Bool} (h : eqNil P t x y = some b) (r : Gh) (xo yo : Operand) (w : World) :
    (do eqGuard .eql t xo yo (x.conc r) (y.conc r); binOp .eql t (x.conc r) (y.conc r) : Sem Value).run P w = .ok (.bool b) w ∧
    (do eqGuard .neq t xo yo (x.conc r) (y.conc r); binOp .neq t (x.conc r) (y.conc r) : Sem Value).run P w = .ok (.bool (!b)) w := by
  have hr := eqNil_run h r w
  obtain ⟨d, bx, bY, hu, hx, hy, hb⟩ := eqNil_spec h
  rcases nilB_form hx r with ⟨u, h1⟩ | ⟨u, n, m, h1⟩ | ⟨q, h1⟩ <;> rw [h1] at hr ⊢ <;>
    rcases nilB_form hy r with ⟨u', h2⟩ | ⟨u', n', m', h2⟩ | ⟨q', h2⟩ <;> rw [h2] at hr ⊢ <;>
    simp [binOp, hr, go_sem]

theorem binA_run {op : BinOp} {t : TypeId} {x y : AV} {v : Value} (h : binA P op t x y = some v) (r : Gh) (xo yo : Operand) (w : World) :
    (do eqGuard op t xo yo (x.conc r) (y.conc r); binOp op t (x.conc r) (y.conc r) : Sem Value).run P w = .ok v w := by
  unfold binA at h
  split at h
  · rename_i k a k' b
    cases hk : kindB k k' with
    | false => simp [hk] at h
    | true =>
      have := kindB_eq hk
      subst this
      simp only [hk, cond_true] at h
      simp only [AV.conc, TV.conc, CV.conc, eqGuard_at_int]
      unfold intBin at h
      split at h
      case h_4 =>
        cases hb : decide (b = 0) with
        | true => simp [hb] at h
        | false =>
          simp [hb] at h; subst h
          have hb' : ¬ b = 0 := by simpa using hb
          simp [binOp, Op.intDiv, hb']
      all_goals first | (simp at h; done) | (simp at h; subst h; simp [go_sem, Op.intArith]; done) | (simp at h; subst h; simp [go_sem, Op.intArith]; rfl)
  · rename_i a b
    split at h
    · rename_i hu _
      simp at h; subst h
      simp only [AV.conc, TV.conc, CV.conc, eqGuard_at_bool]
      simp [binOp, run_equal_bool w t a b (by assumption)]
    · rename_i hu _
      simp at h; subst h
      simp only [AV.conc, TV.conc, CV.conc, eqGuard_at_bool]
      simp [binOp, run_equal_bool w t a b (by assumption)]
    · simp at h
  · rename_i x y _ _
    split at h
    · cases he : eqNil P t x y with
      | none => simp [he] at h
      | some b =>
        simp [he] at h; subst h
        exact (eqNil_bin he r xo yo w).1
    · cases he : eqNil P t x y with
      | none => simp [he] at h
      | some b =>
        simp [he] at h; subst h
        exact (eqNil_bin he r xo yo w).2
    · simp at h
  · simp at h

end Go.Proofs.Ytobonipmnidadaa

namespace Go.Proofs.Ytobonipmnidadaa
open Go.RowKit
variable {P : Program}

abbrev QR := Option (AV × List Nat × Option Prop)

def partA (P : Program) (t : TypeId) (cs : List CV) (off : Nat) : Option TV :=
  match aggB P t with
  | some true => match sizeA P t with
    | some n => some (.agg ((cs.drop off).take n))
    | none => none
  | some false => match cs[off]? with
    | some c => some (.one c)
    | none => none
  | none => none

theorem partA_run {t : TypeId} {cs : List CV} {off : Nat} {v : TV} (h : partA P t cs off = some v) (r : Gh) (w : World) :
    (part t (cs.map (CV.conc r)).toArray off).run P w = .ok (v.conc r) w := by
  unfold partA at h
  cases hg : aggB P t with
  | none => simp [hg] at h
  | some b =>
    cases b with
    | true =>
      cases hs : sizeA P t with
      | none => simp [hg, hs] at h
      | some n =>
        simp [hg, hs] at h; subst h
        simp only [part, Sem.run_bind, run_isAgg_of hg, Result.andThen_ok, if_true, run_sizeOf_of hs, Sem.run_pure, TV.conc]
        simp [List.extract_eq_take_drop]
    | false =>
      cases hc : cs[off]? with
      | none => simp [hg, hc] at h
      | some c =>
        simp [hg, hc] at h; subst h
        simp only [part, Sem.run_bind, run_isAgg_of hg, Result.andThen_ok, Bool.false_eq_true, if_false]
        simp [hc, TV.conc]

def boolOf : AV → Option Bool
  | .tv (.one (.rig (.bool b))) => some b
  | _ => none
theorem boolOf_conc {v : AV} {b : Bool} (h : boolOf v = some b) (r : Gh) : v.conc r = .bool b := by
  unfold boolOf at h; split at h <;> simp at h; subst h; rfl

def pickA (c a b : AV) : QR :=
  match boolOf c with
  | some x =>
    match boolOf a, boolOf b with
    | some p, some q => some (.b (cond x p q), [], none)
    | _, _ => some (cond x a b, [], none)
  | none => none

def nilCheckA : AV → QR
  | .tv (.one (.ptr i o)) => some (.c (.ptr i o), [], none)
  | .tv (.one (.clo f c)) => some (.c (.clo f c), [], none)
  | .tv (.one (.el h i z o)) => some (.c (.el h i z o), [], none)
  | _ => none

def fieldAtA (P : Program) (s : TypeId) (x : AV) (f : Nat) : QR :=
  match x, P.underlying s with
  | .tv (.one (.ptr i o)), some (.struct fs) =>
    match fs[f]? with
    | some fd => match sizeA P fd.type with
      | some n => cond (Nat.beq n 0) none (some (.c (.ptr i (o + fd.offset)), [], none))
      | none => none
    | none => none
  | .tv (.one (.el h i z o)), some (.struct fs) =>
    match fs[f]? with
    | some fd => match sizeA P fd.type with
      | some n => cond (Nat.beq n 0) none (some (.c (.el h i z (o + fd.offset)), [], none))
      | none => none
    | none => none
  | _, _ => none

def fieldA (P : Program) (s : TypeId) (x : AV) (f : Nat) : QR :=
  match x, P.underlying s with
  | .tv (.agg l), some (.struct fs) =>
    match fs[f]? with
    | some fd => match partA P fd.type l fd.offset with
      | some v => some (.tv v, [], none)
      | none => none
    | none => none
  | _, _ => none

def indexAtA (P : Program) (t : TypeId) (x ix : AV) : QR :=
  match x, ix, P.underlying t with
  | .tv (.one (.ptr i o)), .tv (.one (.rig (.int _ n))), some (.array len e) =>
    match sizeA P e with
    | some s => some (.c (.ptr i (o + n.toNat * s)), [], some (0 ≤ n ∧ n < (len : Int)))
    | none => none
  | .tv (.one (.slc i o len _)), .tv (.one (.rig (.int _ n))), some (.slice e) =>
    match sizeA P e with
    | some s => some (.c (.ptr i (o + n.toNat * s)), [], some (0 ≤ n ∧ n < (len : Int)))
    | none => none
  | _, _, _ => none

def notA : AV → QR
  | .tv (.one (.rig (.bool b))) => some (.b (!b), [], none)
  | _ => none

def convA (P : Program) (s d : TypeId) (x : AV) : QR :=
  match x, P.underlying s, P.underlying d with
  | .tv (.one (.rig (.int _ n))), some _, some (.int k) => some (.r (.int k (k.wrap n)), [], none)
  | _, _, _ => none

def capsA : List AV → Option (List (Nat × Nat))
  | [] => some []
  | .tv (.one (.ptr i o)) :: l => match capsA l with
    | some r => some ((i, o) :: r)
    | none => none
  | _ => none

def extractA (x : AV) (k : Nat) : QR :=
  match x with
  | .tup l => match l[k]? with
    | some v => some (.tv v, [], none)
    | none => none
  | _ => none

def lenA (P : Program) (t : TypeId) (x : AV) : QR :=
  match x, P.underlying t with
  | .tv (.one (.slc _ _ n _)), some (.slice _) => some (.r (.int .i64 n), [], none)
  | .tv (.one (.rig (.slice none n _))), some (.slice _) => some (.r (.int .i64 n), [], none)
  | _, _ => none

def sliceWholeA (P : Program) (t : TypeId) (x : AV) : QR :=
  match x, P.underlying t with
  | .tv (.one (.ptr i o)), some (.array n e) => match sizeA P e with
    | some _ => some (.c (.slc i o n n), [], none)
    | none => none
  | _, _ => none

/-- One operation. -/
def qOp (P : Program) (ev : Operand → AV) (H : AH) (op : Op) : QR :=
  match op with
  | .move x => some (ev x, [], none)
  | .assign x => some (ev x, [], none)
  | .pick c a b => pickA (ev c) (ev a) (ev b)
  | .nilCheck x => nilCheckA (ev x)
  | .fieldAddr s x f => fieldAtA P s (ev x) f
  | .field s x f => fieldA P s (ev x) f
  | .indexAddr t x i => indexAtA P t (ev x) (ev i)
  | .load t x =>
    match ev x with
    | .tv (.one (.ptr i o)) => match loadA P H t i o with
      | some v => some (.tv v, [i], none)
      | none => none
    | _ => none
  | .binOp o t x y _ => match binA P o t (ev x) (ev y) with
    | some v => some (.r v, [], none)
    | none => none
  | .unOp .not _ x => notA (ev x)
  | .convert s d x => convA P s d (ev x)
  | .extract x k => extractA (ev x) k
  | .makeFunc (.func f) first caps => match first.size, capsA (caps.toList.map ev) with
    | 0, some l => some (.c (.clo f l), [], none)
    | _, _ => none
  | .slice t x none none none => sliceWholeA P t (ev x)
  | .call c => match c.callee, c.args.toList, c.argTypes.toList with
    | .builtin .len, [x], [t] => lenA P t (ev x)
    | _, _, _ => none
  | _ => none

end Go.Proofs.Ytobonipmnidadaa

namespace Go.Proofs.Ytobonipmnidadaa
open Go.RowKit
variable {P : Program}

theorem addr_add (b o n : Nat) : (⟨b, o, none⟩ : Addr).add n = ⟨b, o + n, none⟩ := by
  unfold Addr.add; split <;> simp_all

/-- These objects are as in H. -/
def At (r : Gh) (H : AH) (ft : List Nat) (w : World) : Prop := ∃ H' W0, St r H' W0 w ∧ ∀ i ∈ ft, H'[i]? = H[i]?
theorem At.get {r : Gh} {H : AH} {ft : List Nat} {w : World} (h : At r H ft w) {i : Nat} (hi : i ∈ ft) {x : AO × Nat} (hx : H[i]? = some x) : x.1.holds r w i := by
  obtain ⟨H', W0, hs, he⟩ := h
  exact hs.at_ i x ((he i hi).trans hx)

def Owed (p : Option Prop) : Prop := ∀ q, p = some q → q
theorem Owed.some {q : Prop} (h : Owed (some q)) : q := h q rfl

theorem pickA_run {c a b : AV} {v : AV} {ft : List Nat} {pr : Option Prop} (h : pickA c a b = some (v, ft, pr)) (r : Gh) (w : World) :
    (do pure (Next.value (if ← asBool (c.conc r) then a.conc r else b.conc r)) : Sem Next).run P w = .ok (.value (v.conc r)) w := by
  unfold pickA at h
  cases hc : boolOf c with
  | none => simp [hc] at h
  | some x =>
    rw [boolOf_conc hc]
    simp only [hc] at h
    cases ha : boolOf a with
    | none => simp [ha] at h; obtain ⟨rfl, -⟩ := h; cases x <;> simp [asBool]
    | some p =>
      cases hb : boolOf b with
      | none => simp [ha, hb] at h; obtain ⟨rfl, -⟩ := h; cases x <;> simp [asBool]
      | some q =>
        simp [ha, hb] at h; obtain ⟨rfl, -⟩ := h
        rw [boolOf_conc ha, boolOf_conc hb]
        cases x <;> simp [asBool, AV.conc, TV.conc, CV.conc]

theorem fieldAtA_run {s : TypeId} {x : AV} {f : Nat} {v : AV} {ft : List Nat} {pr : Option Prop} (h : fieldAtA P s x f = some (v, ft, pr)) (r : Gh) (w : World) :
    (Instr.fieldAt s (x.conc r) f).run P w = .ok (v.conc r) w := by
  unfold fieldAtA at h
  split at h
  · rename_i i o fs hu
    cases hf : fs[f]? with
    | none => simp [hf] at h
    | some fd =>
      simp only [hf] at h
      cases hs : sizeA P fd.type with
      | none => simp [hs] at h
      | some n =>
        simp only [hs] at h
        cases hz : Nat.beq n 0 with
        | true => simp [hz] at h
        | false =>
          simp [hz] at h
          obtain ⟨rfl, -⟩ := h
          have hn : n ≠ 0 := fun e => by subst e; simp at hz
          simp [Instr.fieldAt, run_underlying hu, hf, Instr.sureAddr, AV.conc, TV.conc, CV.conc, fieldPlace, run_sizeOf_of hs, hn, addr_add]
  · rename_i k i z o fs hu
    cases hf : fs[f]? with
    | none => simp [hf] at h
    | some fd =>
      simp only [hf] at h
      cases hs : sizeA P fd.type with
      | none => simp [hs] at h
      | some n =>
        simp only [hs] at h
        cases hz : Nat.beq n 0 with
        | true => simp [hz] at h
        | false =>
          simp [hz] at h
          obtain ⟨rfl, -⟩ := h
          have hn : n ≠ 0 := fun e => by subst e; simp at hz
          simp [Instr.fieldAt, run_underlying hu, hf, Instr.sureAddr, AV.conc, TV.conc, CV.conc, fieldPlace, run_sizeOf_of hs, hn, SV.cellAt_add, Nat.add_assoc]
  · simp at h

theorem fieldA_run {s : TypeId} {x : AV} {f : Nat} {v : AV} {ft : List Nat} {pr : Option Prop} (h : fieldA P s x f = some (v, ft, pr)) (r : Gh) (w : World) :
    (Instr.field s (x.conc r) f).run P w = .ok (v.conc r) w := by
  unfold fieldA at h
  split at h
  · rename_i l fs hu
    cases hf : fs[f]? with
    | none => simp [hf] at h
    | some fd =>
      simp only [hf] at h
      cases hp : partA P fd.type l fd.offset with
      | none => simp [hp] at h
      | some u =>
        simp [hp] at h
        obtain ⟨rfl, -⟩ := h
        simp [Instr.field, run_underlying hu, hf, asAgg, AV.conc, TV.conc]
        exact partA_run hp r w
  · simp at h

theorem indexAtA_run {t : TypeId} {x ix : AV} {v : AV} {ft : List Nat} {pr : Option Prop} (h : indexAtA P t x ix = some (v, ft, pr)) (hp : Owed pr) (r : Gh) (w : World) :
    (Instr.indexAt t (x.conc r) (ix.conc r)).run P w = .ok (v.conc r) w := by
  unfold indexAtA at h
  split at h
  · rename_i i o k n len e hu
    cases hs : sizeA P e with
    | none => simp [hs] at h
    | some s =>
      simp only [hs, Option.some.injEq, Prod.mk.injEq] at h
      obtain ⟨rfl, -, rfl⟩ := h
      have := hp.some
      simp [Instr.indexAt, run_underlying hu, asIntOf, Instr.sureAddr, AV.conc, TV.conc, CV.conc, this, run_sizeOf_of hs, addr_add]
  · rename_i i o len cap k n e hu
    cases hs : sizeA P e with
    | none => simp [hs] at h
    | some s =>
      simp only [hs, Option.some.injEq, Prod.mk.injEq] at h
      obtain ⟨rfl, -, rfl⟩ := h
      have := hp.some
      simp [Instr.indexAt, run_underlying hu, asIntOf, AV.conc, TV.conc, CV.conc, this, run_sizeOf_of hs, addr_add]
  · simp at h

theorem capsA_conc {l : List AV} {c : List (Nat × Nat)} (h : capsA l = some c) (r : Gh) : l.map (AV.conc r) = c.map fun p => Value.pointer (some ⟨r.b p.1, p.2, none⟩) := by
  induction l generalizing c with
  | nil => simp [capsA] at h; subst h; rfl
  | cons x l ih =>
    unfold capsA at h
    split at h
    · simp_all
    · rename_i i o l' e
      cases e
      cases hl : capsA l with
      | none => simp [hl] at h
      | some q => simp [hl] at h; subst h; simp [ih hl, AV.conc, TV.conc, CV.conc]
    · simp at h

theorem qOp_run {ev : Operand → AV} {H : AH} {o : Oper} {v : AV} {ft : List Nat} {pr : Option Prop} (h : qOp P ev H o.op = some (v, ft, pr)) (hp : Owed pr)
    {ρ : Operand → Value} {r : Gh} {w : World} (hev : ∀ x ∈ o.op.operands, ρ x = (ev x).conc r) (hat : At r H ft w) :
    (execOp ρ o).run P w = .ok (.value (v.conc r)) w := by
  unfold execOp
  cases ho : o.op <;> rw [ho] at h hev
  case move x =>
    simp only [qOp] at h
    simp at h; obtain ⟨rfl, -⟩ := h; simp [hev x (by simp [Op.operands])]
  case assign x =>
    simp only [qOp] at h
    simp at h; obtain ⟨rfl, -⟩ := h; simp [hev x (by simp [Op.operands])]
  case pick c a b =>
    simp only [qOp] at h
    simp only [hev c (by simp [Op.operands]), hev a (by simp [Op.operands]), hev b (by simp [Op.operands])]
    exact pickA_run h r w
  case load t x =>
    simp only [qOp] at h
    simp only [hev x (by simp [Op.operands])]
    split at h
    · rename_i i o' hx
      rw [hx]
      cases hl : loadA P H t i o' with
      | none => simp [hl] at h
      | some u =>
        simp [hl] at h
        obtain ⟨rfl, rfl, -⟩ := h
        have := loadA_run (P := P) (w := w) (r := r) hl (fun x hx => hat.get (by simp) hx)
        simp [Instr.loadAt, Instr.sureAddr, AV.conc, TV.conc, CV.conc, this]
    · simp at h
  case nilCheck x =>
    simp only [qOp] at h
    simp only [hev x (by simp [Op.operands])]
    unfold nilCheckA at h
    split at h
    · simp at h; obtain ⟨rfl, -⟩ := h; rename_i hx; simp [hx, AV.conc, TV.conc, CV.conc]
    · simp at h; obtain ⟨rfl, -⟩ := h; rename_i hx; simp [hx, AV.conc, TV.conc, CV.conc]
    · simp at h; obtain ⟨rfl, -⟩ := h; rename_i hx; simp [hx, AV.conc, TV.conc, CV.conc]
    · simp at h
  case binOp bo t x y yt =>
    simp only [qOp] at h
    simp only [hev x (by simp [Op.operands]), hev y (by simp [Op.operands])]
    cases hb : binA P bo t (ev x) (ev y) with
    | none => simp [hb] at h
    | some u =>
      simp [hb] at h
      obtain ⟨rfl, -⟩ := h
      have := binA_run hb r x y w
      simp only [Sem.run_bind] at this ⊢
      rw [this]
      rfl
  case unOp uo t x =>
    simp only [hev x (by simp [Op.operands])]
    cases uo <;> simp only [qOp] at h <;> first | (cases h; done) | skip
    unfold notA at h
    split at h
    · simp at h; obtain ⟨rfl, -⟩ := h; rename_i hx; simp [hx, AV.conc, TV.conc, CV.conc, Op.unary]
    · simp at h
  case convert s d x =>
    simp only [qOp] at h
    simp only [hev x (by simp [Op.operands])]
    unfold convA at h
    split at h
    · rename_i k n ds k' hx hs hd
      simp at h; obtain ⟨rfl, -⟩ := h
      simp [hx, AV.conc, TV.conc, CV.conc, convert, run_underlying hs, run_underlying hd, Conv.intToInt]
    · simp at h
  case makeFunc fn first caps =>
    cases fn <;> simp only [qOp] at h <;> first | (cases h; done) | skip
    rename_i f
    split at h
    · rename_i l h0 hc
      simp at h; obtain ⟨rfl, -⟩ := h
      have hfirst : first = #[] := Array.eq_empty_of_size_eq_zero h0
      have hmap : caps.map ρ = (l.map fun p => Value.pointer (some ⟨r.b p.1, p.2, none⟩)).toArray := by
        rw [← capsA_conc hc r]
        apply Array.ext'
        simp only [Array.toList_map, List.map_map]
        exact List.map_congr_left fun x hx => hev x (by simp [Op.operands]; exact Or.inr (by simpa using hx))
      subst hfirst
      simp [Instr.makeFunc, hmap, AV.conc, TV.conc, CV.conc]
    · simp at h
  case slice t x lo hi mx =>
    cases lo <;> cases hi <;> cases mx <;> simp only [qOp] at h <;> first | (cases h; done) | skip
    simp only [hev x (by simp [Op.operands])]
    unfold sliceWholeA at h
    split at h
    · rename_i i o' n e hx hu
      split at h
      · rename_i s hs
        simp at h; obtain ⟨rfl, -⟩ := h
        simp [Instr.sliceAt, run_underlying hu, hx, Instr.sureAddr, AV.conc, TV.conc, CV.conc, Instr.sliceBounds, run_sizeOf_of hs, addr_add]
      · simp at h
    · simp at h
  case fieldAddr s x f =>
    simp only [qOp] at h
    simp only [hev x (by simp [Op.operands]), Sem.run_bind, fieldAtA_run h r w]; rfl
  case field s x f =>
    simp only [qOp] at h
    simp only [hev x (by simp [Op.operands]), Sem.run_bind, fieldA_run h r w]; rfl
  case indexAddr t x i =>
    simp only [qOp] at h
    simp only [hev x (by simp [Op.operands]), hev i (by simp [Op.operands]), Sem.run_bind, indexAtA_run h hp r w]; rfl
  case extract x k =>
    simp only [qOp] at h
    simp only [hev x (by simp [Op.operands])]
    unfold extractA at h
    split at h
    · rename_i l hx
      split at h
      · rename_i u hu
        simp at h; obtain ⟨rfl, -⟩ := h
        simp [Instr.extract, hx, AV.conc, hu]
      · simp at h
    · simp at h
  case call c =>
    simp only [qOp] at h
    split at h
    · rename_i x t h1 h2 h3
      have hargs : c.args = #[x] := by cases hc : c.args; simp_all
      have hat' : c.argTypes = #[t] := by cases hc : c.argTypes; simp_all
      have hx : ρ x = (ev x).conc r := hev x (by simp [Op.operands, Call.operands, h1, hargs])
      unfold lenA at h
      split at h
      · rename_i i o' n cp e hx' hu
        simp at h; obtain ⟨rfl, -⟩ := h
        simp [resolve, invoke, builtin, h1, hargs, hat', hx, hx', AV.conc, TV.conc, CV.conc, Builtin.len_, run_underlying hu, goInt]
      · rename_i n cp e hx' hu
        simp at h; obtain ⟨rfl, -⟩ := h
        simp [resolve, invoke, builtin, h1, hargs, hat', hx, hx', AV.conc, TV.conc, CV.conc, Builtin.len_, run_underlying hu, goInt]
      · simp at h
    · simp at h
  all_goals (simp [qOp] at h)

end Go.Proofs.Ytobonipmnidadaa

namespace Go.Proofs.Ytobonipmnidadaa
open Go.RowKit
variable {P : Program}

inductive Eff where
  | new (o : AO)
  | set (i : Nat) (x : AO × Nat)

def Eff.app (H : AH) : Eff → AH
  | .new o => H ++ [(o, 1)]
  | .set i x => H.set i x

def Eff.ids : Eff → List Nat
  | .new _ => []
  | .set i _ => [i]

def zeroA (P : Program) (t : TypeId) : Option (List CV) :=
  match P.info? t with
  | some i => match i.zero with
    | some z => some (z.cells.toList.map CV.rig)
    | none => none
  | none => none

def eOp (P : Program) (ev : Operand → AV) (H : AH) (op : Op) : Option (AV × Eff) :=
  match op with
  | .alloc t => match zeroA P t with
    | some cs => some (.c (.ptr H.length 0), .new (.cells cs t))
    | none => none
  | .box t x => match ev x with
    | .tv u => cond (u.fits && u.sc H.length) (some (.c (.ptr H.length 0), .new (.cells u.cells t))) none
    | _ => none
  | .store t a x => match ev a, ev x with
    | .tv (.one (.ptr i o)), .tv u => match storeA P H t i o u with
      | some y => some (.undef, .set i y)
      | none => none
    | _, _ => none
  | .makeMap _ none => some (.c (.mp H.length), .new (.raw (.map #[] 0)))
  | _ => none

theorem eOp_run {ev : Operand → AV} {H : AH} {o : Oper} {v : AV} {e : Eff} (h : eOp P ev H o.op = some (v, e)) (hsc : H.scB = true)
    {ρ : Operand → Value} {r : Gh} {W0 : Base} {w : World} (hev : ∀ x ∈ o.op.operands, ρ x = (ev x).conc r) (hst : St r H W0 w) :
    ∃ r' w', Agree H.length r r' ∧ St r' (e.app H) W0 w' ∧ ((execOp ρ o).run P w = .ok (.value (v.conc r')) w' ∨ ((execOp ρ o).run P w = .ok .skip w' ∧ v = .undef)) := by
  unfold execOp
  cases ho : o.op <;> rw [ho] at h hev
  case alloc t =>
    simp only [eOp] at h
    unfold zeroA at h
    cases hi : P.info? t with
    | none => simp [hi] at h
    | some i =>
      cases hz : i.zero with
      | none => simp [hi, hz] at h
      | some z =>
        simp [hi, hz] at h
        obtain ⟨rfl, rfl⟩ := h
        refine ⟨_, _, bump_agree r H.length w.heap.size, St.alloc hst hsc (.cells (z.cells.toList.map CV.rig) t) rfl (.cells z.cells t) ?_, .inl ?_⟩
        · simp [AO.conc, CV.conc, Function.comp_def]
        · simp [Instr.alloc, zeroValue, typeInfo, hi, hz, newVar, newRow, newObj, AV.conc, TV.conc, CV.conc, bump, Sem.run]
  case box t x =>
    simp only [eOp] at h
    have hx := hev x (by simp [Op.operands])
    cases hu : ev x with
    | tup l => simp [hu] at h
    | tv u =>
      cases hc : (u.fits && u.sc H.length) with
      | false => simp [hu, hc] at h
      | true =>
        simp [hu, hc] at h
        obtain ⟨rfl, rfl⟩ := h
        simp only [Bool.and_eq_true] at hc
        have hag := bump_agree r H.length w.heap.size
        refine ⟨_, _, hag, St.alloc hst hsc (.cells u.cells t) rfl (.cells (u.conc r).cells t) ?_, .inl ?_⟩
        · rw [TV.cells_conc hc.1 r]
          simp only [AO.conc]
          rw [CV.map_agree hag hc.2]
        · simp [hx, hu, Instr.box, newVar, newRow, newObj, AV.conc, TV.conc, CV.conc, bump, Sem.run]
  case store t a x =>
    simp only [eOp] at h
    have ha := hev a (by simp [Op.operands])
    have hx := hev x (by simp [Op.operands])
    split at h
    · rename_i i o' u h1 h2
      cases hs : storeA P H t i o' u with
      | none => simp [hs] at h
      | some y =>
        simp [hs] at h
        obtain ⟨rfl, rfl⟩ := h
        obtain ⟨w', hrun, hst'⟩ := storeA_run hs hst hsc
        refine ⟨r, w', Agree.refl _ _, hst', .inr ⟨?_, rfl⟩⟩
        have e1 : ρ a = .pointer (some ⟨r.b i, o', none⟩) := by rw [ha, h1]; rfl
        have e2 : ρ x = u.conc r := by rw [hx, h2]; rfl
        simp [e1, e2, Instr.storeAt, Instr.sureAddr, hrun]
    · simp at h
  case makeMap t q =>
    cases q <;> simp only [eOp] at h <;> simp at h
    obtain ⟨rfl, rfl⟩ := h
    refine ⟨_, _, bump_agree r H.length w.heap.size, St.alloc hst hsc (.raw (.map #[] 0)) rfl (.map #[] 0) rfl, .inl ?_⟩
    simp [Instr.makeMap, newObj, AV.conc, TV.conc, CV.conc, bump, Sem.run]
  all_goals (simp [eOp] at h)

end Go.Proofs.Ytobonipmnidadaa

namespace Go.Proofs.Ytobonipmnidadaa
open Go.RowKit
variable {P : Program}

/-- What the prover says on the way. 's': a slot's Bool is this one (at an operation with a guard) · 'c': the same at a branch · 'q': what an operation that leaves the world alone comes to · 'k': what a call that only makes memory comes to · 'x': what a call comes to that turns blocks and makes some · 'e': the same of an operation · 'l': what a load comes to whose place is no numeral · 'u': the loop that comes is walked round by round, at most so many more. -/
inductive Dec where
  | s (key slot : Nat) (d : Bool)
  | c (slot : Nat) (d : Bool)
  | q (key : Nat) (v : AV) (foot : List Nat)
  | k (key : Nat) (v : AV) (foot : List Nat)
  | x (key : Nat) (v : AV) (upd : List (Nat × AO)) (new : List AO)
  | e (key : Nat) (v : AV) (upd : List (Nat × AO)) (new : List AO)
  | l (key : Nat) (v : TV)
  | u (m : Nat)

abbrev AF := List AV

def AF.ev (F : AF) : Operand → AV
  | .tmp t => F.getD t .undef
  | .const v => .r v
  | .global g => .r (.pointer (some ⟨g, 0, none⟩))
  | .func f => .r (.func (.func f) #[] #[])

/-- The frame holds these. -/
def FrameOk (r : Gh) (F : AF) (a : Act) : Prop := a.tmps = (F.map (AV.conc r)).toArray

theorem undef_conc (r : Gh) : AV.undef.conc r = undef := rfl

theorem getD_conc (r : Gh) (F : AF) (t : Nat) : (F.map (AV.conc r)).toArray.getD t undef = (F.getD t .undef).conc r := by
  rw [← undef_conc r]
  simp only [Array.getD_eq_getD_getElem?, List.getElem?_toArray, List.getElem?_map, List.getD_eq_getElem?_getD]
  cases F[t]? <;> rfl

theorem FrameOk.eval {r : Gh} {F : AF} {a : Act} (h : FrameOk r F a) (x : Operand) : a.eval x = (F.ev x).conc r := by
  cases x with
  | tmp t => simp only [Act.eval, AF.ev]; rw [h]; exact getD_conc r F t
  | const v => rfl
  | global g => rfl
  | func f => rfl

def putF (F : AF) (d : Option Tmp) (v : AV) : AF :=
  match d with
  | some d => F.set d v
  | none => F

theorem FrameOk.put {r : Gh} {F : AF} {a : Act} (h : FrameOk r F a) (d : Option Tmp) (v : AV) : FrameOk r (putF F d v) (a.put d (v.conc r)) := by
  unfold FrameOk at *
  cases d with
  | none => exact h
  | some d => simp only [Act.put, putF, h]; simp [List.map_set]

def AF.scB (n : Nat) (F : AF) : Bool := F.all (AV.sc n)
theorem FrameOk.agree {r r' : Gh} {F : AF} {a : Act} (h : FrameOk r F a) {n : Nat} (hag : Agree n r r') (hs : F.scB n = true) : FrameOk r' F a := by
  unfold FrameOk at *
  rw [h]
  congr 1
  exact List.map_congr_left fun v hv => (AV.conc_agree hag (List.all_eq_true.1 hs v hv)).symm

/-! ### Calls -/
/-- Who is called, with what. -/
def callA (ev : Operand → AV) (c : Call) : Option (FuncId × List AV) :=
  match c.callee with
  | .value fo => match ev fo with
    | .tv (.one (.rig (.func (.func f) a b))) => match a.size, b.size with
      | 0, 0 => some (f, c.args.toList.map ev)
      | _, _ => none
    | .tv (.one (.clo f caps)) => some (f, c.args.toList.map ev ++ caps.map fun p => .c (.ptr p.1 p.2))
    | _ => none
  | _ => none

/-- A function's body is there. -/
def bodyB (P : Program) (f : FuncId) : Bool :=
  match P.funcs[f]? with
  | some fn => fn.body.isSome && fn.name != "runtime.NumGoroutine"
  | none => false

theorem callFunc_run {f : FuncId} (h : bodyB P f = true) (args : Array Value) (w : World) : (callFunc f args).run P w = .ok (.enter f args) w := by
  unfold bodyB at h
  cases hf : P.funcs[f]? with
  | none => simp [hf] at h
  | some fn =>
    simp only [hf, Bool.and_eq_true, bne_iff_ne, ne_eq] at h
    simp only [callFunc, Sem.run_bind, run_program, Result.andThen_ok, hf]
    have h1 : (fn.name == "runtime.NumGoroutine") = false := by simpa using h.2
    have h2 : fn.body.isNone = false := by cases hb : fn.body <;> simp_all
    simp [h1, h2]

theorem callA_run {ev : Operand → AV} {c : Call} {f : FuncId} {args : List AV} (h : callA ev c = some (f, args)) (hb : bodyB P f = true) {o : Oper} (ho : o.op = .call c)
    {ρ : Operand → Value} {r : Gh} {w : World} (hev : ∀ x ∈ o.op.operands, ρ x = (ev x).conc r) :
    (execOp ρ o).run P w = .ok (.enter f (args.map (AV.conc r)).toArray) w := by
  unfold execOp
  rw [ho] at hev ⊢
  unfold callA at h
  split at h
  · rename_i fo hc
    have hfo : ρ fo = (ev fo).conc r := hev fo (by simp [Op.operands, Call.operands, hc])
    have hargs : c.args.map ρ = ((c.args.toList.map ev).map (AV.conc r)).toArray := by
      apply Array.ext'
      simp only [Array.toList_map, List.map_map]
      exact List.map_congr_left fun x hx => hev x (by simp [Op.operands, Call.operands, hc]; exact Or.inr (by simpa using hx))
    split at h
    · rename_i g a b hg
      split at h
      · rename_i ha hb'
        have ea : a = #[] := Array.eq_empty_of_size_eq_zero ha
        have eb : b = #[] := Array.eq_empty_of_size_eq_zero hb'
        simp only [Option.some.injEq, Prod.mk.injEq] at h
        obtain ⟨rfl, rfl⟩ := h
        have e1 : ρ fo = .func (.func g) #[] #[] := by rw [hfo, hg, ea, eb]; rfl
        simp [resolve, hc, e1, Deferred.ofValue, invoke, callFunc_run hb, hargs]
      · simp at h
    · rename_i g caps hg
      simp only [Option.some.injEq, Prod.mk.injEq] at h
      obtain ⟨rfl, rfl⟩ := h
      have e1 : ρ fo = .func (.func g) #[] (caps.map fun p => Value.pointer (some ⟨r.b p.1, p.2, none⟩)).toArray := by rw [hfo, hg]; rfl
      simp [resolve, hc, e1, Deferred.ofValue, invoke, callFunc_run hb, hargs, Function.comp_def, AV.conc, TV.conc, CV.conc]
    · simp at h
  · simp at h

def updAt : List (Nat × AO) → Nat → Option AO
  | [], _ => none
  | u :: l, i => cond (Nat.beq u.1 i) (some u.2) (updAt l i)

def turnH (upd : List (Nat × AO)) : Nat → AH → AH
  | _, [] => []
  | i, x :: l => (match updAt upd i with | some o => (o, x.2) | none => x) :: turnH upd (i + 1) l

/-- Memory behind it. -/
def moveH (H : AH) (upd : List (Nat × AO)) (new : List AO) : AH := turnH upd 0 H ++ new.map fun o => (o, 1)

theorem updAt_some {upd : List (Nat × AO)} {i : Nat} {o : AO} (h : updAt upd i = some o) : (i, o) ∈ upd := by
  induction upd with
  | nil => simp [updAt] at h
  | cons u l ih =>
    unfold updAt at h
    cases hb : Nat.beq u.1 i with
    | true =>
      simp [hb] at h
      have := Nat.eq_of_beq_eq_true hb
      subst this; subst h
      exact List.mem_cons_self
    | false => simp [hb] at h; exact List.mem_cons_of_mem _ (ih h)

theorem updAt_none {upd : List (Nat × AO)} {i : Nat} (h : updAt upd i = none) {j : Nat} {o : AO} (hm : (j, o) ∈ upd) : j ≠ i := by
  induction upd with
  | nil => cases hm
  | cons u l ih =>
    unfold updAt at h
    cases hb : Nat.beq u.1 i with
    | true => simp [hb] at h
    | false =>
      simp [hb] at h
      rcases List.mem_cons.1 hm with e | e
      · subst e; intro e; subst e; simp at hb
      · exact ih h e

theorem turnH_length (upd : List (Nat × AO)) : ∀ (k : Nat) (H : AH), (turnH upd k H).length = H.length
  | _, [] => rfl
  | k, x :: l => by simp [turnH, turnH_length upd (k + 1) l]

theorem turnH_get (upd : List (Nat × AO)) : ∀ (k : Nat) (H : AH) (i : Nat), (turnH upd k H)[i]? = H[i]?.map fun x => match updAt upd (k + i) with | some o => (o, x.2) | none => x
  | _, [], i => by simp [turnH]
  | k, x :: l, 0 => by simp [turnH]
  | k, x :: l, i + 1 => by
    simp only [turnH, List.getElem?_cons_succ, turnH_get upd (k + 1) l i]
    rw [show k + 1 + i = k + (i + 1) by omega]

def updOk (H : AH) (upd : List (Nat × AO)) : Bool := upd.all fun u => match H[u.1]? with | some x => !Nat.beq x.2 0 | none => false

/-- What is known of callees and of operations that the executor does not know by itself: those that only make memory of their own ('q': what they hand back, at which blocks they look, what they owe), those that turn blocks or hand new ones back ('e'); 'oq', 'oe': the same of operations. -/
structure CT (P : Program) where
  q : FuncId → List AV → AH → Option (AV × List Nat × Option Prop)
  e : FuncId → List AV → AH → Option (AV × List (Nat × AO) × List AO × Option Prop)
  oq : (Operand → AV) → AH → Op → Option (AV × List Nat × Option Prop)
  oe : (Operand → AV) → AH → Op → Option (AV × List (Nat × AO) × List AO × Option Prop)
  qok : ∀ f args H v ft pr, q f args H = some (v, ft, pr) → Owed pr → bodyB P f = true ∧ ∀ (r : Gh) (w : World), At r H ft w →
    Calls P f (args.map (AV.conc r)).toArray w fun e w' => e = .returned (v.conc r) ∧ Below w.heap.size w w'
  eok : ∀ f args H v upd new pr, e f args H = some (v, upd, new, pr) → Owed pr → bodyB P f = true ∧ ∀ (r : Gh) (W0 : Base) (w : World), St r H W0 w → updOk H upd = true → H.scB = true →
    Calls P f (args.map (AV.conc r)).toArray w fun e w' => ∃ r', Agree H.length r r' ∧ e = .returned (v.conc r') ∧ St r' (moveH H upd new) W0 w'
  oqok : ∀ ev H (o : Oper) v ft pr, oq ev H o.op = some (v, ft, pr) → Owed pr → ∀ (ρ : Operand → Value) (r : Gh) (w : World), (∀ x ∈ o.op.operands, ρ x = (ev x).conc r) →
    At r H ft w → (execOp ρ o).run P w = .ok (.value (v.conc r)) w
  oeok : ∀ ev H (o : Oper) v upd new pr, oe ev H o.op = some (v, upd, new, pr) → Owed pr → ∀ (ρ : Operand → Value) (r : Gh) (W0 : Base) (w : World), (∀ x ∈ o.op.operands, ρ x = (ev x).conc r) → St r H W0 w → updOk H upd = true → H.scB = true →
    ∃ r' w', Agree H.length r r' ∧ St r' (moveH H upd new) W0 w' ∧ ((execOp ρ o).run P w = .ok (.value (v.conc r')) w' ∨ ((execOp ρ o).run P w = .ok .skip w' ∧ v = .undef))

def CT.none (P : Program) : CT P := ⟨fun _ _ _ => .none, fun _ _ _ => .none, fun _ _ _ => .none, fun _ _ _ => .none, fun _ _ _ _ _ _ h => (by cases h), fun _ _ _ _ _ _ _ h => (by cases h), fun _ _ _ _ _ _ h => (by cases h), fun _ _ _ _ _ _ _ h => (by cases h)⟩

/-- One callee more. -/
def CT.addQ {P : Program} (T : CT P) (f : FuncId) (q : List AV → AH → Option (AV × List Nat × Option Prop)) (hb : bodyB P f = true)
    (ok : ∀ args H v ft pr, q args H = some (v, ft, pr) → Owed pr → ∀ (r : Gh) (w : World), At r H ft w →
      Calls P f (args.map (AV.conc r)).toArray w fun e w' => e = .returned (v.conc r) ∧ Below w.heap.size w w') : CT P :=
  { T with
    q := fun g args H => cond (Nat.beq g f) (q args H) (T.q g args H)
    qok := fun g args H v ft pr h hp => by
      cases hg : Nat.beq g f with
      | false => rw [hg] at h; exact T.qok g args H v ft pr h hp
      | true =>
        rw [hg] at h
        obtain rfl := Nat.eq_of_beq_eq_true hg
        exact ⟨hb, ok args H v ft pr h hp⟩ }

def CT.addE {P : Program} (T : CT P) (f : FuncId) (e : List AV → AH → Option (AV × List (Nat × AO) × List AO × Option Prop)) (hb : bodyB P f = true)
    (ok : ∀ args H v upd new pr, e args H = some (v, upd, new, pr) → Owed pr → ∀ (r : Gh) (W0 : Base) (w : World), St r H W0 w → updOk H upd = true → H.scB = true →
      Calls P f (args.map (AV.conc r)).toArray w fun e w' => ∃ r', Agree H.length r r' ∧ e = .returned (v.conc r') ∧ St r' (moveH H upd new) W0 w') : CT P :=
  { T with
    e := fun g args H => cond (Nat.beq g f) (e args H) (T.e g args H)
    eok := fun g args H v upd new pr h hp => by
      cases hg : Nat.beq g f with
      | false => rw [hg] at h; exact T.eok g args H v upd new pr h hp
      | true =>
        rw [hg] at h
        obtain rfl := Nat.eq_of_beq_eq_true hg
        exact ⟨hb, ok args H v upd new pr h hp⟩ }

/-- One kind of operation more. -/
def CT.addOq {P : Program} (T : CT P) (oq : (Operand → AV) → AH → Op → Option (AV × List Nat × Option Prop))
    (ok : ∀ ev H (o : Oper) v ft pr, oq ev H o.op = some (v, ft, pr) → Owed pr → ∀ (ρ : Operand → Value) (r : Gh) (w : World), (∀ x ∈ o.op.operands, ρ x = (ev x).conc r) →
      At r H ft w → (execOp ρ o).run P w = .ok (.value (v.conc r)) w) : CT P :=
  { T with
    oq := fun ev H op => match oq ev H op with | some x => some x | .none => T.oq ev H op
    oqok := fun ev H o v ft pr h hp => by
      cases hq : oq ev H o.op with
      | none => rw [hq] at h; exact T.oqok ev H o v ft pr h hp
      | some x => rw [hq] at h; cases h; exact ok ev H o v ft pr hq hp }

def CT.addOe {P : Program} (T : CT P) (oe : (Operand → AV) → AH → Op → Option (AV × List (Nat × AO) × List AO × Option Prop))
    (ok : ∀ ev H (o : Oper) v upd new pr, oe ev H o.op = some (v, upd, new, pr) → Owed pr → ∀ (ρ : Operand → Value) (r : Gh) (W0 : Base) (w : World), (∀ x ∈ o.op.operands, ρ x = (ev x).conc r) → St r H W0 w → updOk H upd = true → H.scB = true →
      ∃ r' w', Agree H.length r r' ∧ St r' (moveH H upd new) W0 w' ∧ ((execOp ρ o).run P w = .ok (.value (v.conc r')) w' ∨ ((execOp ρ o).run P w = .ok .skip w' ∧ v = .undef))) : CT P :=
  { T with
    oe := fun ev H op => match oe ev H op with | some x => some x | .none => T.oe ev H op
    oeok := fun ev H o v upd new pr h hp => by
      cases hq : oe ev H o.op with
      | none => rw [hq] at h; exact T.oeok ev H o v upd new pr h hp
      | some x => rw [hq] at h; cases h; exact ok ev H o v upd new pr hq hp }

end Go.Proofs.Ytobonipmnidadaa
