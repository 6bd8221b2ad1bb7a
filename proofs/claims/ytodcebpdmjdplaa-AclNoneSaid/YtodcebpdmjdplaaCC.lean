/- The book's map by what it holds; the operations on it, for the run. -/
import Derived.Test.YtodcebpdmjdplaaCB
namespace Go.Proofs.Ytodcebpdmjdplaa
open Go.RowKit

theorem entV_inj {p q : Ev × Bool} (h : entV p = entV q) : p = q := by
  obtain ⟨⟨⟨_, _⟩, ⟨_, _, _, _, _, _, _, _⟩, _, ⟨_, _⟩, _, _, _, _⟩, _⟩ := p
  obtain ⟨⟨⟨_, _⟩, ⟨_, _, _, _, _, _, _, _⟩, _, ⟨_, _⟩, _, _, _, _⟩, _⟩ := q
  simp [entV, entAv, entCvs, Ev.cvs, AV.conc, TV.conc, CV.conc] at h
  simp [h]

theorem mapO_inj {L L' : Bk} (h : mapO L = mapO L') : L = L' := by
  simp only [mapO, Obj.map.injEq] at h
  have h1 : L.zipIdx.map entM = L'.zipIdx.map entM := by
    have := congrArg Array.toList h.1
    simpa [esOf] using this
  have hinj : Function.Injective entM := fun a b e => by
    obtain ⟨p, i⟩ := a
    obtain ⟨q, j⟩ := b
    simp only [entM, MapEntry.mk.injEq] at e
    rw [entV_inj e.2.1, e.2.2]
  have h2 : L.zipIdx = L'.zipIdx := (List.map_inj_right fun a b e => hinj e).1 h1
  have h3 := congrArg (List.map (·.1)) h2
  simpa [List.zipIdx_map_fst] using h3

open Classical in
/-- What a map holds. -/
noncomputable def bkOf (o : Obj) : Bk := if h : ∃ L, o = mapO L then h.choose else []
@[simp] theorem bkOf_mapO (L : Bk) : bkOf (mapO L) = L := by
  have h : ∃ L', mapO L = mapO L' := ⟨L, rfl⟩
  unfold bkOf
  rw [dif_pos h]
  exact (mapO_inj h.choose_spec).symm

def IsBk (o : Obj) : Prop := o = mapO (bkOf o)
@[simp] theorem isBk_mapO (L : Bk) : IsBk (mapO L) := by simp [IsBk]

def entOf : List CV → Option (Ev × Bool)
  | [.rig (.int .u8 a), .rig (.int .u32 s), .rig (.int .u32 p0), .rig (.int .u32 p1), .rig (.int .u32 p2), .rig (.int .u32 p3), .rig (.int .u32 p4), .rig (.int .u32 p5), .rig (.int .u32 p6), .rig (.int .u32 p7),
      .rig (.int .u8 k), .rig (.int .u8 pa), .rig (.int .u32 ps), .rig (.bool r), .rig (.int .u8 c), .rig (.int .u8 wh), .rig (.int .u8 ro), .rig (.bool q)] => some (⟨⟨a, s⟩, ⟨p0, p1, p2, p3, p4, p5, p6, p7⟩, k, ⟨pa, ps⟩, r, c, wh, ro⟩, q)
  | _ => none
theorem entOf_eq {l : List CV} {e : Ev × Bool} (h : entOf l = some e) : l = entCvs e := by
  unfold entOf at h; split at h <;> simp at h; subst h; rfl

/-- The map behind a value. -/
def mapAt (H : AH) (x : AV) : Option (Nat × Obj) :=
  match x with
  | .tv (.one (.mp i)) => match H[i]? with
    | some (.raw o, _) => some (i, o)
    | _ => none
  | _ => none
theorem mapAt_eq {H : AH} {x : AV} {i : Nat} {o : Obj} (h : mapAt H x = some (i, o)) : x = .c (.mp i) ∧ ∃ f, H[i]? = some (.raw o, f) := by
  unfold mapAt at h
  split at h
  · split at h
    · rename_i hH; simp at h; obtain ⟨rfl, rfl⟩ := h; exact ⟨rfl, _, hH⟩
    · simp at h
  · simp at h

noncomputable def bookQ (ev : Operand → AV) (H : AH) (op : Op) : Option (AV × List Nat × Option Prop) :=
  match op with
  | .lookup t x k ok => cond (Nat.beq t 63) (match mapAt H (ev x), ev k with
    | some (i, o), .tv (.agg l) => match dotOf l with
      | some d => some (cond ok (.tup [.agg (entCvs (gotL (bkOf o) d)), .one (.rig (.bool (findL (bkOf o) d).isSome))]) (entAv (gotL (bkOf o) d)), [i], some (IsBk o))
      | none => none
    | _, _ => none) none
  | .call c => match c.callee, c.args.toList, c.argTypes.toList with
    | .builtin .len, [x], [t] => cond (Nat.beq t 63) (match mapAt H (ev x) with
      | some (i, o) => some (.r (.int .i64 (bkOf o).length), [i], some (IsBk o))
      | none => none) none
    | _, _, _ => none
  | _ => none

theorem bookQ_run {ev : Operand → AV} {H : AH} {o : Oper} {v : AV} {ft : List Nat} {pr : Option Prop} (h : bookQ ev H o.op = some (v, ft, pr)) (hp : Owed pr)
    {ρ : Operand → Value} {r : Nat → Nat} {w : World} (hev : ∀ x ∈ o.op.operands, ρ x = (ev x).conc r) (hat : ∀ i ∈ ft, ∀ x, H[i]? = some x → w.heap[r i]? = some (x.1.conc r)) :
    (execOp ρ o).run Try.prog w = .ok (.value (v.conc r)) w := by
  have hM : Try.prog.underlying 63 = some (.map 25 61) := by kernel_rfl
  unfold execOp
  cases ho : o.op <;> rw [ho] at h hev <;> simp only [bookQ] at h <;> first | (cases h; done) | skip
  case lookup t x k ok =>
    cases ht : Nat.beq t 63 with
    | false => simp [ht] at h
    | true =>
      obtain rfl := Nat.eq_of_beq_eq_true ht
      simp only [ht, cond_true] at h
      split at h
      · rename_i i ob l hm hk
        split at h
        · rename_i d hd
          simp only [Option.some.injEq, Prod.mk.injEq] at h
          obtain ⟨rfl, rfl, rfl⟩ := h
          obtain ⟨hx, f, hH⟩ := mapAt_eq hm
          have hb := hat i (by simp) _ hH
          have e1 : ρ x = .map (some (r i)) := by rw [hev x (by simp [Op.operands]), hx]; rfl
          have e2 : ρ k = d.v := by rw [hev k (by simp [Op.operands]), hk, dotOf_eq hd]; rfl
          have hob := hp.some
          unfold IsBk at hob
          have := lookup_run (bkOf ob) d ok (bm := r i) (w := w) (by rw [← hob]; exact hb)
          simp only [e1, e2, this, Sem.run_bind, Result.andThen_ok, Sem.run_pure]
          cases ok <;> rfl
        · simp at h
      · simp at h
  case call c =>
    split at h
    · rename_i x t h1 h2 h3
      cases ht : Nat.beq t 63 with
      | false => simp [ht] at h
      | true =>
        obtain rfl := Nat.eq_of_beq_eq_true ht
        simp only [ht, cond_true] at h
        split at h
        · rename_i i ob hm
          simp only [Option.some.injEq, Prod.mk.injEq] at h
          obtain ⟨rfl, rfl, rfl⟩ := h
          obtain ⟨hx, f, hH⟩ := mapAt_eq hm
          have hargs : c.args = #[x] := by cases hc : c.args; simp_all
          have hat' : c.argTypes = #[63] := by cases hc : c.argTypes; simp_all
          have hx' : ρ x = (ev x).conc r := hev x (by simp [Op.operands, Call.operands, h1, hargs])
          have hb := hat i (by simp) _ hH
          have hob := hp.some
          unfold IsBk at hob
          rw [AO.conc, hob, mapO] at hb
          simp [resolve, invoke, builtin, h1, hargs, hat', hx', hx, AV.conc, TV.conc, CV.conc, Builtin.len_, run_underlying hM, goInt, getObj, Sem.run, hb, esOf]
        · simp at h
    · simp at h

noncomputable def bookE (ev : Operand → AV) (H : AH) (op : Op) : Option (AV × List (Nat × AO) × List AO × Option Prop) :=
  match op with
  | .mapUpdate t m k x => cond (Nat.beq t 63) (match mapAt H (ev m), ev k, ev x with
    | some (i, o), .tv (.agg l), .tv (.agg l') => match dotOf l, entOf l' with
      | some d, some p => some (.undef, [(i, .raw (mapO (bkOf o ++ [p])))], [], some (IsBk o ∧ findL (bkOf o) d = none ∧ d = p.1.d))
      | _, _ => none
    | _, _, _ => none) none
  | _ => none

theorem moves_set {r : Nat → Nat} {H : AH} {W0 w : World} (hst : St r H W0 w) {i : Nat} {x : AO × Nat} (hx : H[i]? = some x) (o : Obj) : Moves r r H.length [(i, .raw o)] [] w (Go.ChangeMaps.setBlock w (r i) o) := by
  have hlt := hst.lt (List.getElem?_eq_some_iff.1 hx).1
  refine ⟨fun j a hj => ?_, fun j a hj => by simp at hj, fun j hj => by simp at hj, fun j k hj => by simp at hj, rfl, rfl, rfl, by simp [Go.ChangeMaps.setBlock], fun b hb hn => ?_⟩
  · simp only [List.mem_singleton, Prod.mk.injEq] at hj
    obtain ⟨rfl, rfl⟩ := hj
    simp [Go.ChangeMaps.setBlock, hlt, AO.conc]
  · have hne := hn i (.raw o) (by simp)
    simp [Go.ChangeMaps.setBlock, Array.getElem?_setIfInBounds, hne]

theorem bookE_run {ev : Operand → AV} {H : AH} {o : Oper} {v : AV} {upd : List (Nat × AO)} {new : List AO} {pr : Option Prop} (h : bookE ev H o.op = some (v, upd, new, pr)) (hp : Owed pr)
    {ρ : Operand → Value} {r : Nat → Nat} {W0 w : World} (hev : ∀ x ∈ o.op.operands, ρ x = (ev x).conc r) (hst : St r H W0 w) :
    ∃ r' w', Agree H.length r r' ∧ Moves r r' H.length upd new w w' ∧ ((execOp ρ o).run Try.prog w = .ok (.value (v.conc r')) w' ∨ ((execOp ρ o).run Try.prog w = .ok .skip w' ∧ v = .undef)) := by
  unfold execOp
  cases ho : o.op <;> rw [ho] at h hev <;> simp only [bookE] at h <;> first | (cases h; done) | skip
  rename_i t m k x
  cases ht : Nat.beq t 63 with
  | false => simp [ht] at h
  | true =>
    obtain rfl := Nat.eq_of_beq_eq_true ht
    simp only [ht, cond_true] at h
    split at h
    · rename_i i ob l l' hm hk hx'
      split at h
      · rename_i d p hd hp'
        simp only [Option.some.injEq, Prod.mk.injEq] at h
        obtain ⟨rfl, rfl, rfl, rfl⟩ := h
        obtain ⟨hx, f, hH⟩ := mapAt_eq hm
        obtain ⟨hob, hf, rfl⟩ := hp.some
        unfold IsBk at hob
        have hb := hst.at_ i _ hH
        have e1 : ρ m = .map (some (r i)) := by rw [hev m (by simp [Op.operands]), hx]; rfl
        have e2 : ρ k = p.1.d.v := by rw [hev k (by simp [Op.operands]), hk, dotOf_eq hd]; rfl
        have e3 : ρ x = entV p := by rw [hev x (by simp [Op.operands]), hx', entOf_eq hp']; rfl
        have := update_run (bkOf ob) p hf (bm := r i) (w := w) (by rw [← hob]; exact hb)
        refine ⟨r, _, Agree.refl _ _, moves_set hst hH _, .inr ⟨?_, rfl⟩⟩
        simp only [e1, e2, e3, Sem.run_bind, this, Result.andThen_ok, Sem.run_pure]
      · simp at h
    · simp at h

/-- A book: its block, its map. -/
def bookAt (H : AH) (x : AV) : Option (Nat × Nat × Obj) :=
  match x with
  | .tv (.one (.ptr i 0)) => match H[i]? with
    | some (.cells [.mp j] t, _) => cond (Nat.beq t 65) (match H[j]? with
      | some (.raw o, _) => some (i, j, o)
      | _ => none) none
    | _ => none
  | _ => none

theorem bookAt_eq {H : AH} {x : AV} {i j : Nat} {o : Obj} (h : bookAt H x = some (i, j, o)) : x = .c (.ptr i 0) ∧ (∃ f, H[i]? = some (.cells [.mp j] 65, f)) ∧ ∃ f, H[j]? = some (.raw o, f) := by
  unfold bookAt at h
  split at h
  · split at h
    · rename_i hi
      rename_i j' t f
      cases ht : Nat.beq t 65 with
      | false => simp [ht] at h
      | true =>
        obtain rfl := Nat.eq_of_beq_eq_true ht
        simp only [ht, cond_true] at h
        split at h
        · rename_i hj; simp at h; obtain ⟨rfl, rfl, rfl⟩ := h; exact ⟨rfl, ⟨_, hi⟩, _, hj⟩
        · simp at h
    · simp at h
  · simp at h

/-- Two blocks by numbers of their own. -/
def two (a b : Nat) : Nat → Nat := fun k => match k with | 0 => a | _ => b

theorem book_st {H : AH} {r : Nat → Nat} {w : World} {i j : Nat} {o : Obj} {fi fj : Nat} (hi : H[i]? = some (.cells [.mp j] 65, fi)) (hj : H[j]? = some (.raw o, fj)) (hob : IsBk o) (g : Nat) (hg : g = 0 ∨ g = 2)
    (ai : w.heap[r i]? = some (AO.conc r (.cells [.mp j] 65))) (aj : w.heap[r j]? = some (AO.conc r (.raw o))) : St (two (r i) (r j)) [(.cells [.mp 1] 65, 0), (.raw (mapO (bkOf o)), g)] w w := by
  unfold IsBk at hob
  refine St.read (fun k x hx => ?_) (by kernel_rfl) (by rcases hg with rfl | rfl <;> kernel_rfl)
  match k, hx with
  | 0, hx => cases hx; exact ai
  | 1, hx => cases hx; simp only [two, AO.conc]; rw [← hob]; exact aj
  | k + 2, hx => simp at hx

noncomputable def roleQ (args : List AV) (H : AH) : Option (AV × List Nat × Option Prop) :=
  match args with
  | [x, .tv (.one (.rig (.int .u8 who))), .tv (.agg l)] => match bookAt H x, vecOf l with
    | some (i, j, o), some v => some (.r (.int .u8 (roleM (bkOf o) who v)), [i, j], some (IsBk o ∧ ∀ p ∈ bkOf o, p.1.ok))
    | _, _ => none
  | _ => none

theorem roleQ_ok {args : List AV} {H : AH} {v : AV} {ft : List Nat} {pr : Option Prop} (h : roleQ args H = some (v, ft, pr)) (hp : Owed pr) (r : Nat → Nat) (w : World) (hat : ∀ i ∈ ft, ∀ x, H[i]? = some x → w.heap[r i]? = some (x.1.conc r)) :
    Calls Try.prog 18 (args.map (AV.conc r)).toArray w fun e w' => e = .returned (v.conc r) ∧ Below w.heap.size w w' := by
  unfold roleQ at h
  split at h
  · rename_i x who l
    split at h
    · rename_i i j o vv hb hv
      simp only [Option.some.injEq, Prod.mk.injEq] at h
      obtain ⟨rfl, rfl, rfl⟩ := h
      obtain ⟨rfl, ⟨fi, hi⟩, fj, hj⟩ := bookAt_eq hb
      obtain ⟨hob, hok⟩ := hp.some
      rw [vecOf_eq hv]
      have h1 := role_run hok who vv (book_st hi hj hob 0 (.inl rfl) (hat i (by simp) _ hi) (hat j (by simp) _ hj))
      have e : (([.c (.ptr 0 0), .r (.int .u8 who), vv.av].map (AV.conc (two (r i) (r j)))).toArray) = (([.c (.ptr i 0), .tv (.one (.rig (.int .u8 who))), .tv (.agg vv.cvs)].map (AV.conc r)).toArray) := rfl
      rw [e] at h1
      exact h1
    · simp at h
  · simp at h

noncomputable def T6 : CT Try.prog :=
  ((T5.addOq bookQ fun _ _ _ _ _ _ h hp _ _ _ hev hat => bookQ_run h hp hev hat).addOe bookE fun _ _ _ _ _ _ _ h hp _ _ _ _ hev hst => bookE_run h hp hev hst).addQ 18 roleQ (by kernel_rfl) fun _ _ _ _ _ h hp r w hat => roleQ_ok h hp r w hat

end Go.Proofs.Ytodcebpdmjdplaa
