/- The map of what waits: looked up, written in, taken out of. The map of what waits by what it holds; the operations on it, for the run. -/
import Derived.Test.YtobonipmnidadaaJ13
import Derived.Laws.IdiomRangeMap
namespace Go.Proofs.Ytobonipmnidadaa
open Go.RowKit
set_option maxRecDepth 8000

theorem check_int (em : Bool) (n : Nat) (t : TypeId) (k : IntKind) (ht : Try.prog.underlying t = some (.int k)) (v : Value) (w : World) : (Instr.checkKey em (n + 1) t v).run Try.prog w = .ok () w := by
  rw [Instr.checkKey]
  simp only [Sem.run_bind, run_underlying ht, Result.andThen_ok]
  rfl

theorem check_dot (em : Bool) (d : Dot) (w : World) : (Instr.checkKey em 10000 26 d.v).run Try.prog w = .ok () w := by
  have hS : Try.prog.underlying 26 = some (.struct (Try.prog.fieldsOf 26)) := by kernel_rfl
  have c5 := check_int em 9998 5 .u8 (by kernel_rfl)
  have c23 := check_int em 9998 22 .u32 (by kernel_rfl)
  rw [show (10000 : Nat) = 9999 + 1 from rfl, Instr.checkKey]
  simp only [Sem.run_bind, run_underlying hS, Result.andThen_ok, Program.fieldsOf, Try.underlying26]
  generalize hn : (9999 : Nat) = n
  rw [show 9998 + 1 = n from hn] at c5 c23
  go_simp

theorem eq_dots (a b : Dot) (w : World) : (Op.equal 26 a.v b.v).run Try.prog w = .ok (decide (a = b)) w := by
  have := eq_dot a.a a.s b.a b.s 9998 w
  refine Eq.trans this ?_
  congr 1
  rw [Bool.eq_iff_iff]
  obtain ⟨_, _⟩ := a
  obtain ⟨_, _⟩ := b
  simp

def isD (d : Dot) (p : Ev × Nat) : Bool := decide (d = p.1.d)
def findW (E : Wt) (d : Dot) : Option (Ev × Nat) := E.find? (isD d)
/-- What is left. -/
def dropW (E : Wt) (d : Dot) : Wt := E.eraseIdx (E.findIdx (isD d))

theorem asking (d : Dot) (w : World) : ∀ (E : Wt) (i : Nat), (Instr.findAsking 26 d.v (E.map entM) i).run Try.prog w = .ok ((findW E d).map fun p => (i + E.findIdx (isD d), p.1.v)) w
  | [], i => by simp [Instr.findAsking, findW]
  | p :: E, i => by
    have hj := asking d w E (i + 1)
    have he := eq_dots d p.1.d w
    cases hd : decide (d = p.1.d) with
    | true =>
      rw [hd] at he
      have h1 : isD d p = true := hd
      simp only [List.map_cons, Instr.findAsking, entM, Sem.run_bind, he, Result.andThen_ok, if_true, Sem.run_pure, findW, List.find?_cons, h1, Option.map_some, List.findIdx_cons, cond_true, Nat.add_zero]
    | false =>
      rw [hd] at he
      have h1 : isD d p = false := hd
      simp only [List.map_cons, Instr.findAsking, Sem.run_bind]
      simp only [entM, he, Result.andThen_ok, Bool.false_eq_true, if_false, findW, List.find?_cons, h1, List.findIdx_cons, cond_false]
      rw [hj]
      simp only [findW, Nat.add_assoc, Nat.add_comm 1]

theorem find_dot (d : Dot) (E : Wt) (w : World) : (Instr.findKey 26 d.v (esOf E).toList).run Try.prog w = .ok ((findW E d).map fun p => (E.findIdx (isD d), p.1.v)) w := by
  have hS : Try.prog.underlying 26 = some (.struct (Try.prog.fieldsOf 26)) := by kernel_rfl
  cases E with
  | nil => simp [Instr.findKey, run_underlying hS, esOf, Instr.findNow, findW]
  | cons p E =>
    have hj := asking d w (p :: E) 0
    have : Instr.findNow (.struct (Try.prog.fieldsOf 26)) d.v (esOf (p :: E)).toList 0 = none := by
      simp [esOf, Instr.findNow, Instr.sameNow]
    simp only [Instr.findKey, Sem.run_bind, run_underlying hS, Result.andThen_ok, this]
    simp only [Nat.zero_add] at hj
    exact hj

def gotW (E : Wt) (d : Dot) : Ev := ((findW E d).getD (zeroEv, 0)).1

theorem lookup_run (E : Wt) (n : Nat) (d : Dot) (ok : Bool) {bm : Nat} {w : World} (hb : w.heap[bm]? = some (mapO E n)) :
    (Instr.lookup 60 (.map (some bm)) d.v ok).run Try.prog w = .ok (if ok then .tuple #[(gotW E d).v, .bool (findW E d).isSome] else (gotW E d).v) w := by
  have hM : Try.prog.underlying 60 = some (.map 26 37) := by kernel_rfl
  have hj := find_dot d E w
  have hz : (zeroValue 37).run Try.prog w = .ok zeroEv.v w := by
    have hi : (Try.prog.info? 37).bind (·.zero) = some zeroEv.v := by kernel_rfl
    cases hinfo : Try.prog.info? 37 with
    | none => simp [hinfo] at hi
    | some i => simp [hinfo] at hi; simp [zeroValue, typeInfo, hinfo, hi]
  unfold Instr.lookup
  simp only [Sem.run_bind, run_underlying hM, Result.andThen_ok]
  unfold mapO at hb
  simp only [getObj, Sem.run, hb, Result.andThen_ok, Sem.run_bind, Sem.run_pure, check_dot, hj]
  unfold gotW
  cases findW E d <;> simp [hz]

theorem esOf_push (E : Wt) (e : Ev) (n : Nat) : (esOf E).push (entM (e, n)) = esOf (E ++ [(e, n)]) := by
  simp [esOf]

theorem update_run (E : Wt) (n : Nat) (e : Ev) (hn : findW E e.d = none) {bm : Nat} {w : World} (hb : w.heap[bm]? = some (mapO E n)) :
    (Instr.mapUpdate 60 (.map (some bm)) e.d.v e.v).run Try.prog w = .ok () (Go.ChangeMaps.setBlock w bm (mapO (E ++ [(e, n)]) (n + 1))) := by
  have hM : Try.prog.underlying 60 = some (.map 26 37) := by kernel_rfl
  have hj := find_dot e.d E w
  rw [hn] at hj
  unfold Instr.mapUpdate
  simp only [Sem.run_bind, run_underlying hM, Result.andThen_ok]
  unfold mapO at hb
  simp only [getObj, Sem.run, hb, Result.andThen_ok, Sem.run_bind, check_dot, hj, Option.map_none]
  have := esOf_push E e n
  simp only [setObj, Sem.run, hb, Go.ChangeMaps.setBlock, mapO]
  rw [← this]
  simp [entM]

theorem map_erase {α β : Type} (f : α → β) : ∀ (l : List α) (i : Nat), (l.map f).eraseIdx i = (l.eraseIdx i).map f
  | [], _ => rfl
  | _ :: _, 0 => rfl
  | a :: l, i + 1 => by simp [map_erase f l i]
theorem esOf_erase (E : Wt) (i : Nat) : (esOf E).eraseIdxIfInBounds i = esOf (E.eraseIdx i) := by
  apply Array.ext'
  simp [esOf, map_erase]

theorem delete_run (t : TypeId) (E : Wt) (n : Nat) (d : Dot) (hn : (findW E d).isSome = true) {bm : Nat} {w : World} (hb : w.heap[bm]? = some (mapO E n)) :
    (Builtin.delete_ #[60, 26] t #[.map (some bm), d.v]).run Try.prog w = .ok (.tuple #[]) (Go.ChangeMaps.setBlock w bm (mapO (dropW E d) n)) := by
  have hM : Try.prog.underlying 60 = some (.map 26 37) := by kernel_rfl
  have hj := find_dot d E w
  obtain ⟨p, hp⟩ := Option.isSome_iff_exists.1 hn
  rw [hp] at hj
  unfold Builtin.delete_
  simp only [List.getElem?_toArray, List.getElem?_cons_zero, List.getElem?_cons_succ, Sem.run_bind, run_underlying hM, Result.andThen_ok]
  unfold mapO at hb
  simp only [getObj, Sem.run, hb, Result.andThen_ok, Sem.run_bind, Sem.run_pure, check_dot, hj, Option.map_some]
  simp only [setObj, Sem.run, hb, Go.ChangeMaps.setBlock, mapO, dropW, esOf_erase, Result.andThen_ok]

end Go.Proofs.Ytobonipmnidadaa

namespace Go.Proofs.Ytobonipmnidadaa
open Go.RowKit
set_option maxRecDepth 8000

theorem evv_inj {p q : Ev} (h : p.v = q.v) : p = q := by
  obtain ⟨⟨_, _⟩, ⟨_, _, _, _, _, _, _, _⟩, _, ⟨_, _⟩, _, _, _, _⟩ := p
  obtain ⟨⟨_, _⟩, ⟨_, _, _, _, _, _, _, _⟩, _, ⟨_, _⟩, _, _, _, _⟩ := q
  simp [Ev.v] at h
  simp [h]

theorem mapO_inj {E E' : Wt} {n n' : Nat} (h : mapO E n = mapO E' n') : E = E' ∧ n = n' := by
  simp only [mapO, Obj.map.injEq] at h
  have h1 : E.map entM = E'.map entM := by
    have := congrArg Array.toList h.1
    simpa [esOf] using this
  have hinj : ∀ a b, entM a = entM b → a = b := fun a b e => by
    obtain ⟨p, i⟩ := a
    obtain ⟨q, j⟩ := b
    simp only [entM, MapEntry.mk.injEq] at e
    rw [evv_inj e.2.1, e.2.2]
  exact ⟨(List.map_inj_right fun a b e => hinj a b e).1 h1, h.2⟩

open Classical in
/-- What a map holds. -/
noncomputable def wtOf (o : Obj) : Wt × Nat := if h : ∃ x : Wt × Nat, o = mapO x.1 x.2 then h.choose else ([], 0)
@[simp] theorem wtOf_mapO (E : Wt) (n : Nat) : wtOf (mapO E n) = (E, n) := by
  have h : ∃ x : Wt × Nat, mapO E n = mapO x.1 x.2 := ⟨(E, n), rfl⟩
  unfold wtOf
  rw [dif_pos h]
  have := mapO_inj h.choose_spec
  exact (Prod.ext this.1 this.2).symm

def IsWt (o : Obj) : Prop := o = mapO (wtOf o).1 (wtOf o).2
@[simp] theorem isWt_mapO (E : Wt) (n : Nat) : IsWt (mapO E n) := by simp [IsWt]

/-- The map behind a value. -/
def mapAt (H : AH) (x : AV) : Option (Nat × Obj) :=
  match x with
  | .tv (.one (.mp i)) => match H[i]? with
    | some (.raw o, _) => some (i, o)
    | _ => none
  | _ => none
theorem mapAt_eq {H : AH} {x : AV} {i : Nat} {o : Obj} (h : mapAt H x = some (i, o)) : x = .c (.mp i) ∧ ∃ f, H[i]? = some (.raw o, f) := by
  unfold mapAt at h
  split at h
  · split at h
    · rename_i hH; simp at h; obtain ⟨rfl, rfl⟩ := h; exact ⟨rfl, _, hH⟩
    · simp at h
  · simp at h

noncomputable def waitQ (ev : Operand → AV) (H : AH) (op : Op) : Option (AV × List Nat × Option Prop) :=
  match op with
  | .lookup t x k ok => cond (Nat.beq t 60) (match mapAt H (ev x), ev k with
    | some (i, o), .tv (.agg l) => match dotOf l with
      | some d => some (cond ok (.tup [.agg (gotW (wtOf o).1 d).cvs, .one (.rig (.bool (findW (wtOf o).1 d).isSome))]) (gotW (wtOf o).1 d).av, [i], some (IsWt o))
      | none => none
    | _, _ => none) none
  | .call c => match c.callee, c.args.toList, c.argTypes.toList with
    | .builtin .len, [x], [t] => cond (Nat.beq t 60) (match mapAt H (ev x) with
      | some (i, o) => some (.r (.int .i64 (wtOf o).1.length), [i], some (IsWt o))
      | none => none) none
    | _, _, _ => none
  | _ => none

theorem waitQ_run {ev : Operand → AV} {H : AH} {o : Oper} {v : AV} {ft : List Nat} {pr : Option Prop} (h : waitQ ev H o.op = some (v, ft, pr)) (hp : Owed pr)
    {ρ : Operand → Value} {r : Gh} {w : World} (hev : ∀ x ∈ o.op.operands, ρ x = (ev x).conc r) (hat : At r H ft w) :
    (execOp ρ o).run Try.prog w = .ok (.value (v.conc r)) w := by
  have hM : Try.prog.underlying 60 = some (.map 26 37) := by kernel_rfl
  unfold execOp
  cases ho : o.op <;> rw [ho] at h hev <;> simp only [waitQ] at h <;> first | (cases h; done) | skip
  case lookup t x k ok =>
    cases ht : Nat.beq t 60 with
    | false => simp [ht] at h
    | true =>
      obtain rfl := Nat.eq_of_beq_eq_true ht
      simp only [ht, cond_true] at h
      split at h
      · rename_i i ob l hm hk
        split at h
        · rename_i d hd
          simp only [Option.some.injEq, Prod.mk.injEq] at h
          obtain ⟨rfl, rfl, rfl⟩ := h
          obtain ⟨hx, f, hH⟩ := mapAt_eq hm
          have hb := (hat.get (by simp) hH).1
          have e1 : ρ x = .map (some (r.b i)) := by rw [hev x (by simp [Op.operands]), hx]; rfl
          have e2 : ρ k = d.v := by rw [hev k (by simp [Op.operands]), hk, dotOf_eq hd]; rfl
          have hob := hp.some
          unfold IsWt at hob
          have := lookup_run (wtOf ob).1 (wtOf ob).2 d ok (bm := r.b i) (w := w) (by rw [← hob]; exact hb)
          simp only [e1, e2, this, Sem.run_bind, Result.andThen_ok, Sem.run_pure]
          cases ok <;> rfl
        · simp at h
      · simp at h
  case call c =>
    split at h
    · rename_i x t h1 h2 h3
      cases ht : Nat.beq t 60 with
      | false => simp [ht] at h
      | true =>
        obtain rfl := Nat.eq_of_beq_eq_true ht
        simp only [ht, cond_true] at h
        split at h
        · rename_i i ob hm
          simp only [Option.some.injEq, Prod.mk.injEq] at h
          obtain ⟨rfl, rfl, rfl⟩ := h
          obtain ⟨hx, f, hH⟩ := mapAt_eq hm
          have hargs : c.args = #[x] := by cases hc : c.args; simp_all
          have hat' : c.argTypes = #[60] := by cases hc : c.argTypes; simp_all
          have hx' : ρ x = (ev x).conc r := hev x (by simp [Op.operands, Call.operands, h1, hargs])
          have hb := (hat.get (by simp) hH).1
          have hob := hp.some
          unfold IsWt at hob
          rw [hob, mapO] at hb
          simp [resolve, invoke, builtin, h1, hargs, hat', hx', hx, AV.conc, TV.conc, CV.conc, Builtin.len_, run_underlying hM, goInt, getObj, Sem.run, hb, esOf]
        · simp at h
    · simp at h

noncomputable def waitE (ev : Operand → AV) (H : AH) (op : Op) : Option (AV × List (Nat × AO) × List AO × Option Prop) :=
  match op with
  | .mapUpdate t m k x => cond (Nat.beq t 60) (match mapAt H (ev m), ev k, ev x with
    | some (i, o), .tv (.agg l), .tv (.agg l') => match dotOf l, evOf l' with
      | some d, some e => some (.undef, [(i, .raw (mapO ((wtOf o).1 ++ [(e, (wtOf o).2)]) ((wtOf o).2 + 1)))], [], some (IsWt o ∧ findW (wtOf o).1 d = none ∧ d = e.d))
      | _, _ => none
    | _, _, _ => none) none
  | .call c => match c.callee, c.args.toList, c.argTypes.toList with
    | .builtin .delete, [m, k], [t, t'] => cond (Nat.beq t 60 && Nat.beq t' 26) (match mapAt H (ev m), ev k with
      | some (i, o), .tv (.agg l) => match dotOf l with
        | some d => some (.tup [], [(i, .raw (mapO (dropW (wtOf o).1 d) (wtOf o).2))], [], some (IsWt o ∧ (findW (wtOf o).1 d).isSome = true))
        | none => none
      | _, _ => none) none
    | _, _, _ => none
  | _ => none

theorem st_set {r : Gh} {H : AH} {W0 : Base} {w : World} (hst : St r H W0 w) (hsc : H.scB = true) {i : Nat} {o0 : Obj} {f : Nat} (hx : H[i]? = some (.raw o0, f)) (hf : f ≠ 0) (o : Obj) : St r (H.set i (.raw o, f)) W0 (Go.ChangeMaps.setBlock w (r.b i) o) := by
  have hlt := hst.lt hx rfl
  refine St.turn hst hsc hx rfl (.raw o) rfl ?_ (fun b hb => ?_) rfl rfl rfl (by simp [Go.ChangeMaps.setBlock]) hf
  · simp [Go.ChangeMaps.setBlock, hlt, AO.conc]
  · have hne : ¬ r.b i = b := fun e => hb e.symm
    simp [Go.ChangeMaps.setBlock, hne]

theorem turn_one {H : AH} {i : Nat} {a : AO} {y : AO × Nat} (hy : H[i]? = some y) : moveH H [(i, a)] [] = H.set i (a, y.2) := by
  apply List.ext_getElem?
  intro j
  unfold moveH
  simp only [List.map_nil, List.append_nil, turnH_get, Nat.zero_add, updAt]
  rw [List.getElem?_set]
  by_cases e : i = j
  · subst e
    obtain ⟨h1, h2⟩ := List.getElem?_eq_some_iff.1 hy
    simp [h1, h2]
  · have : Nat.beq i j = false := by
      cases hb : Nat.beq i j with
      | false => rfl
      | true => exact absurd (Nat.eq_of_beq_eq_true hb) e
    simp only [this, cond_false, if_neg e]
    cases H[j]? <;> rfl

theorem flag_of {H : AH} {i : Nat} {a : AO} {o : Obj} {f : Nat} (hu : updOk H [(i, a)] = true) (hH : H[i]? = some (.raw o, f)) : f ≠ 0 := by
  have := List.all_eq_true.1 hu (i, a) List.mem_cons_self
  simp only [hH] at this
  intro e; rw [e] at this; simp at this

theorem waitE_run {ev : Operand → AV} {H : AH} {o : Oper} {v : AV} {upd : List (Nat × AO)} {new : List AO} {pr : Option Prop} (h : waitE ev H o.op = some (v, upd, new, pr)) (hp : Owed pr)
    {ρ : Operand → Value} {r : Gh} {W0 : Base} {w : World} (hev : ∀ x ∈ o.op.operands, ρ x = (ev x).conc r) (hst : St r H W0 w) (hu : updOk H upd = true) (hsc : H.scB = true) :
    ∃ r' w', Agree H.length r r' ∧ St r' (moveH H upd new) W0 w' ∧ ((execOp ρ o).run Try.prog w = .ok (.value (v.conc r')) w' ∨ ((execOp ρ o).run Try.prog w = .ok .skip w' ∧ v = .undef)) := by
  unfold execOp
  cases ho : o.op <;> rw [ho] at h hev <;> simp only [waitE] at h <;> first | (cases h; done) | skip
  case mapUpdate t m k x =>
    cases ht : Nat.beq t 60 with
    | false => simp [ht] at h
    | true =>
      obtain rfl := Nat.eq_of_beq_eq_true ht
      simp only [ht, cond_true] at h
      split at h
      · rename_i i ob l l' hm hk hx'
        split at h
        · rename_i d e hd he'
          simp only [Option.some.injEq, Prod.mk.injEq] at h
          obtain ⟨rfl, rfl, rfl, rfl⟩ := h
          obtain ⟨hx, f, hH⟩ := mapAt_eq hm
          obtain ⟨hob, hf, rfl⟩ := hp.some
          unfold IsWt at hob
          have hb := (hst.at_ i _ hH).1
          have e1 : ρ m = .map (some (r.b i)) := by rw [hev m (by simp [Op.operands]), hx]; rfl
          have e2 : ρ k = e.d.v := by rw [hev k (by simp [Op.operands]), hk, dotOf_eq hd]; rfl
          have e3 : ρ x = e.v := by rw [hev x (by simp [Op.operands]), hx', evOf_eq he']; rfl
          have := update_run (wtOf ob).1 (wtOf ob).2 e hf (bm := r.b i) (w := w) (by rw [← hob]; exact hb)
          refine ⟨r, _, Agree.refl _ _, by rw [turn_one hH]; exact st_set hst hsc hH (flag_of hu hH) _, .inr ⟨?_, rfl⟩⟩
          simp only [e1, e2, e3, Sem.run_bind, this, Result.andThen_ok, Sem.run_pure]
        · simp at h
      · simp at h
  case call c =>
    split at h
    · rename_i m k t t' h1 h2 h3
      cases ht : (Nat.beq t 60 && Nat.beq t' 26) with
      | false => simp [ht] at h
      | true =>
        simp only [ht, cond_true] at h
        simp only [Bool.and_eq_true, Nat.beq_eq] at ht
        obtain ⟨rfl, rfl⟩ := ht
        split at h
        · rename_i i ob l hm hk
          split at h
          · rename_i d hd
            simp only [Option.some.injEq, Prod.mk.injEq] at h
            obtain ⟨rfl, rfl, rfl, rfl⟩ := h
            obtain ⟨hx, f, hH⟩ := mapAt_eq hm
            obtain ⟨hob, hf⟩ := hp.some
            unfold IsWt at hob
            have hb := (hst.at_ i _ hH).1
            have hargs : c.args = #[m, k] := Array.ext' h2
            have hat' : c.argTypes = #[60, 26] := Array.ext' h3
            have hops : (Op.call c).operands = #[m, k] := by simp only [Op.operands, Call.operands, h1, hargs]; rfl
            have e1 : ρ m = .map (some (r.b i)) := by rw [hev m (hops ▸ Array.mem_of_getElem? (i := 0) rfl), hx]; rfl
            have e2 : ρ k = d.v := by rw [hev k (hops ▸ Array.mem_of_getElem? (i := 1) rfl), hk, dotOf_eq hd]; rfl
            have := delete_run o.type (wtOf ob).1 (wtOf ob).2 d hf (bm := r.b i) (w := w) (by rw [← hob]; exact hb)
            refine ⟨r, _, Agree.refl _ _, by rw [turn_one hH]; exact st_set hst hsc hH (flag_of hu hH) _, .inl ?_⟩
            simp [resolve, invoke, builtin, h1, hargs, hat', e1, e2, this, AV.conc]
          · simp at h
        · simp at h
    · simp at h

noncomputable def TK : CT Try.prog := (TJ3.addOq waitQ fun _ _ _ _ _ _ h hp _ _ _ hev hat => waitQ_run h hp hev hat).addOe waitE fun _ _ _ _ _ _ _ h hp _ _ _ _ hev hst hu hsc => waitE_run h hp hev hst hu hsc

end Go.Proofs.Ytobonipmnidadaa
