/- The executor, seventeenth part: a part of a region, an operation by hand, a call of yield; code taken apart; memory that was there. -/
import Derived.Test.YtodcebpdmjdplaaVG
import Derived.RangeFuncFrom
import Derived.Maps.RangeRun
namespace Go.Proofs.Ytodcebpdmjdplaa
open Go.RowKit
variable {P : Program} {T : CT P}

theorem runOps_pre {ro : Option Nat} {n : Nat} {ops : Array Oper} {rid : Nat} {W0 : World} {Q : Exit → Act → World → Prop} {l2 : List Oper} : ∀ (l : List Oper) (i : Nat) (F : AF) (H : AH) (D : List Dec) (F' : AF) (H' : AH) (D' : List Dec) (ps : List Prop) (rs : List Rec),
    runOps P T ops rid i l F H D = some (F', H', D', ps, rs) → Holds ps → ∀ (r : Nat → Nat) (a : Act) (w : World), FrameOk r F a → St r H W0 w →
    (∀ r' w' a', Agree H.length r r' → St r' H' W0 w' → FrameOk r' F' a' → a'.defers = a.defers → wpListIn (Fw ro) n P ops Q l2 a' w') → wpListIn (Fw ro) n P ops Q (l ++ l2) a w
  | [], i, F, H, D, F', H', D', ps, rs, h, _, r, a, w, hF, hst, hQ => by
    simp [runOps] at h
    obtain ⟨rfl, rfl, _⟩ := h
    exact hQ r w a (Agree.refl _ _) hst hF rfl
  | o :: l, i, F, H, D, F', H', D', ps, rs, h, hps, r, a, w, hF, hst, hQ => by
    unfold runOps at h
    show wpListIn (Fw ro) n P ops Q (o :: (l ++ l2)) a w
    cases hsub : subS (rid * 1000 + i) F D with
    | mk F1 q =>
      obtain ⟨D1, p⟩ := q
      simp only [hsub] at h
      cases hw : wantA ops F1 o with
      | none => simp [hw] at h
      | some b =>
        simp only [hw] at h
        unfold wpListIn
        cases b with
        | true =>
          simp only [] at h
          cases hb : bareA P T (rid * 1000 + i) o F1 H D1 with
          | none => simp [hb] at h
          | some x =>
            obtain ⟨s, D2⟩ := x
            simp only [hb] at h
            cases hr : runOps P T ops rid (i + 1) l (putF F1 o.dst s.v) (s.heap H) D2 with
            | none => simp [hr] at h
            | some y =>
              obtain ⟨F2, H2, D3, ps', rs'⟩ := y
              simp only [hr, Option.some.injEq, Prod.mk.injEq] at h
              obtain ⟨rfl, rfl, rfl, rfl, _⟩ := h
              obtain ⟨hp, hps⟩ := hps.addO
              obtain ⟨hso, hps⟩ := hps.addO
              have hF1 := subS_ok hsub hp hF
              rw [if_pos (wantA_eq hw fun t _ => hF1.looks t)]
              refine SR.wp (bareA_sem hb hso) hF1 hst fun r' w' a' hag hst' hF' hd => ?_
              refine runOps_pre l (i + 1) _ _ _ _ _ _ _ _ hr hps r' a' w' hF' hst' fun r2 w2 a2 hag2 hst2 hF2 hd2 => ?_
              exact hQ r2 w2 a2 (hag.trans hag2 (bareA_len hb)) hst2 hF2 (hd2.trans hd)
        | false =>
          simp only [] at h
          cases hr : runOps P T ops rid (i + 1) l (putF F1 o.dst .undef) H D1 with
          | none => simp [hr] at h
          | some y =>
            obtain ⟨F2, H2, D3, ps', rs'⟩ := y
            simp only [hr, Option.some.injEq, Prod.mk.injEq] at h
            obtain ⟨rfl, rfl, rfl, rfl, _⟩ := h
            obtain ⟨hp, hps⟩ := hps.addO
            have hF1 := subS_ok hsub hp hF
            rw [if_neg (by rw [wantA_eq hw fun t _ => hF1.looks t]; simp)]
            refine ⟨fun _ _ => trivial, ?_⟩
            refine runOps_pre l (i + 1) _ _ _ _ _ _ _ _ hr hps r _ w (hF1.put o.dst .undef) hst fun r2 w2 a2 hag2 hst2 hF2 hd2 => ?_
            exact hQ r2 w2 a2 hag2 hst2 hF2 (hd2.trans (put_defers _ _ _))

/-! ### What a run has come to, without its being written out -/
abbrev PX := Option (AF × AH × List Prop)
def PX.F : PX → AF | some y => y.1 | none => []
def PX.H : PX → AH | some y => y.2.1 | none => []
def PX.ok : PX → Bool | some _ => true | none => false
def PX.ps : PX → List Prop | some y => y.2.2 | none => [False]

theorem PX.eq {x : PX} (h : x.ok = true) : x = some (x.F, x.H, x.ps) := by
  cases x with
  | none => cases h
  | some y => rfl

/-- The first so many operations, found by the run. -/
def runPre (P : Program) (T : CT P) (rid : Nat) (ops : Array Oper) (i m : Nat) (F : AF) (H : AH) (D : List Dec) : PX :=
  match runOps P T ops rid i ((ops.toList.drop i).take m) F H D with
  | some (F', H', _, ps, _) => some (F', H', ps)
  | none => none

theorem runPre_wp {ro : Option Nat} {n : Nat} {ops : Array Oper} {rid : Nat} {W0 : World} {Q : Exit → Act → World → Prop} {i m : Nat} {F F' : AF} {H H' : AH} {D : List Dec} {ps : List Prop} (h : runPre P T rid ops i m F H D = some (F', H', ps)) (hps : Holds ps)
    {r : Nat → Nat} {a : Act} {w : World} (hF : FrameOk r F a) (hst : St r H W0 w)
    (hQ : ∀ r' w' a', Agree H.length r r' → St r' H' W0 w' → FrameOk r' F' a' → a'.defers = a.defers → wpListIn (Fw ro) n P ops Q (ops.toList.drop (i + m)) a' w') : wpListIn (Fw ro) n P ops Q (ops.toList.drop i) a w := by
  unfold runPre at h
  cases hr : runOps P T ops rid i ((ops.toList.drop i).take m) F H D with
  | none => simp [hr] at h
  | some x =>
    obtain ⟨F1, H1, D1, ps1, rs⟩ := x
    simp only [hr, Option.some.injEq, Prod.mk.injEq] at h
    obtain ⟨rfl, rfl, rfl⟩ := h
    have := runOps_pre (ro := ro) (n := n) (Q := Q) (l2 := ops.toList.drop (i + m)) _ i F H D _ _ _ _ _ hr hps r a w hF hst hQ
    rwa [← List.drop_drop, List.take_append_drop] at this

/-- Where none are left. -/
theorem wpListIn_end {ro : Option Nat} {n : Nat} {ops : Array Oper} {Q : Exit → Act → World → Prop} {m : Nat} {a : Act} {w : World} (hm : Nat.ble ops.size m = true) (h : Q .normal a w) : wpListIn (Fw ro) n P ops Q (ops.toList.drop m) a w := by
  have : ops.toList.drop m = [] := List.drop_eq_nil_of_le (by rw [Nat.ble_eq] at hm; simpa using hm)
  rw [this]
  exact h

/-- The operation in a place. -/
theorem wpListIn_at {ro : Option Nat} {n : Nat} {ops : Array Oper} {Q : Exit → Act → World → Prop} {i : Nat} {o : Oper} {a : Act} {w : World} (ho : ops[i]? = some o) {F : AF} {r : Nat → Nat} (hF : FrameOk r F a) (hw : wantA ops F o = some true)
    (h : o.wpIn (Fw ro) n P a w (wpListIn (Fw ro) n P ops Q (ops.toList.drop (i + 1))) Q) : wpListIn (Fw ro) n P ops Q (ops.toList.drop i) a w := by
  have hi : i < ops.toList.length := by have := (Array.getElem?_eq_some_iff.1 ho).1; simpa using this
  rw [List.drop_eq_getElem_cons hi]
  have e : ops.toList[i] = o := by have := (Array.getElem?_eq_some_iff.1 ho).2; simpa using this
  rw [e]
  unfold wpListIn
  rw [if_pos (wantA_eq hw fun t _ => hF.looks t)]
  exact h

/-- By hand: what it comes to, and the world behind it. -/
theorem wpListIn_val {ro : Option Nat} {n : Nat} {ops : Array Oper} {Q : Exit → Act → World → Prop} {i : Nat} {o : Oper} {a : Act} {w w' : World} (ho : ops[i]? = some o) {F : AF} {r : Nat → Nat} (hF : FrameOk r F a) (hw : wantA ops F o = some true) (u : AV)
    (hrun : (execOp a.eval o).run P w = .ok (.value (u.conc r)) w') (h : ∀ a', FrameOk r (putF F o.dst u) a' → a'.defers = a.defers → wpListIn (Fw ro) n P ops Q (ops.toList.drop (i + 1)) a' w') : wpListIn (Fw ro) n P ops Q (ops.toList.drop i) a w :=
  wpListIn_at ho hF hw (wpIn_of_value hrun (h _ (hF.put _ _) (put_defers _ _ _)))

theorem run_yield_op {o : Oper} {c : Call} {fo x : Operand} (ho : o.op = .call c) (hc : c.callee = .value fo) (ha : c.args = #[x]) {ρ : Operand → Value} {l : Nat} (hf : ρ fo = .func (.yield l) #[] #[]) {w : World} {f : FuncId} {tmps : Array Value} {as body : Code}
    (hy : (Instr.yield l #[ρ x]).run P w = .ok (.round l f tmps as body) w) : (execOp ρ o).run P w = .ok (.round l f tmps as body) w := by
  simp [execOp, ho, resolve, hc, ha, hf, Deferred.ofValue, invoke, hy]

theorem wpIn_of_round {ro : Option Nat} {n : Nat} {o : Oper} {a : Act} {w w' : World} {K : Act → World → Prop} {X : Exit → Act → World → Prop} {l : Nat} {f : FuncId} {tmps : Array Value} {as body : Code} {R : Ending → World → Prop}
    (hd : ∀ c, o.op ≠ .defer c) (hrun : (execOp a.eval o).run P w = .ok (.round l f tmps as body) w') (hc : RoundIn (Fw ro) (n - 1) P l f tmps as body w' R) (hR : ∀ e w'', R e w'' → ∃ v, e = .returned v ∧ K (a.put o.dst v) w'') : o.wpIn (Fw ro) n P a w K X := by
  refine ⟨fun _ _ => trivial, ?_⟩
  rw [Fw_round, semAt_eq hd, hrun]
  refine ⟨fun h => by simp at h, hc.mono fun e w'' he => ?_⟩
  obtain ⟨v, rfl, hk⟩ := hR e w'' he
  exact hk

/-- A call of yield in its place. -/
theorem wpListIn_yield {ro : Option Nat} {n : Nat} {ops : Array Oper} {Q : Exit → Act → World → Prop} {i : Nat} {o : Oper} {a : Act} {w : World} (ho : ops[i]? = some o) {F : AF} {r : Nat → Nat} (hF : FrameOk r F a) (hw : wantA ops F o = some true)
    {c : Call} {fo x : Operand} (hop : o.op = .call c) (hc : c.callee = .value fo) (ha : c.args = #[x]) {l : Nat} (hf : F.ev fo = .r (.func (.yield l) #[] #[])) {v : Value} (hx : (F.ev x).conc r = v) {R : Ending → World → Prop}
    (hy : YieldAt (Fw ro) (n - 1) P l #[v] w R)
    (h : ∀ e w', R e w' → ∃ u : Value, e = .returned u ∧ ∀ a', FrameOk r (putF F o.dst (.r u)) a' → a'.defers = a.defers → wpListIn (Fw ro) n P ops Q (ops.toList.drop (i + 1)) a' w') : wpListIn (Fw ro) n P ops Q (ops.toList.drop i) a w := by
  obtain ⟨f, tmps, as, body, hrun, hR⟩ := hy
  refine wpListIn_at ho hF hw (wpIn_of_round (fun c' e => by rw [hop] at e; cases e) (run_yield_op hop hc ha (l := l) ?_ ?_) hR fun e w' he => ?_)
  · rw [hF.eval, hf]; rfl
  · rw [hF.eval, hx]; exact hrun
  · obtain ⟨u, rfl, hk⟩ := h e w' he
    exact ⟨u, rfl, hk _ (hF.put _ (.r u)) (put_defers _ _ _)⟩

/-! ### Code taken apart -/
def bodyOf (P : Program) (f : FuncId) : Code :=
  match P.funcs[f]? with
  | some fn => match fn.body with
    | some c => c
    | none => .skip
  | none => .skip

def opsIn : Code → Nat → Option (Array Oper)
  | .region i ops _, id => cond (Nat.beq i id) (some ops) none
  | .seq a b, id => match opsIn a id with | some x => some x | none => opsIn b id
  | .cond _ a b, id => match opsIn a id with | some x => some x | none => opsIn b id
  | .block _ a, id => opsIn a id
  | .loop a, id => opsIn a id
  | .rangeFunc _ _ a b, id => match opsIn a id with | some x => some x | none => opsIn b id
  | _, _ => none

def opsAt (P : Program) (f : FuncId) (id : Nat) : Array Oper :=
  match opsIn (bodyOf P f) id with
  | some x => x
  | none => #[]

/-- What a slot holds, as it is. -/
def garb (a : Act) (n m : Nat) : List AV := (List.range' n m).map fun i => .r (a.tmps.getD i Go.undef)

theorem FrameOk.garb {r : Nat → Nat} {a : Act} {F : AF} {n m : Nat} (hn : F.length = n) (hs : a.tmps.size = n + m) (h : ∀ i, i < n → a.tmps.getD i Go.undef = (F.getD i .undef).conc r) : FrameOk r (F ++ Go.Proofs.Ytodcebpdmjdplaa.garb a n m) a := by
  unfold FrameOk
  apply Array.ext_getElem?
  intro i
  simp only [List.getElem?_toArray, List.getElem?_map]
  by_cases hi : i < n
  · rw [List.getElem?_append_left (by omega)]
    have := h i hi
    rw [List.getD_eq_getElem?_getD, List.getElem?_eq_getElem (by omega)] at this
    rw [List.getElem?_eq_getElem (by omega)]
    simp only [Array.getD_eq_getD_getElem?, Option.getD_some] at this
    rw [Array.getElem?_eq_getElem (by omega)] at this ⊢
    simpa using this
  · rw [List.getElem?_append_right (by omega)]
    unfold Go.Proofs.Ytodcebpdmjdplaa.garb
    by_cases h2 : i < n + m
    · rw [List.getElem?_map, List.getElem?_range' (by omega)]
      simp only [Option.map_some, Nat.one_mul]
      rw [show n + (i - F.length) = i by omega]
      simp [Array.getD_eq_getD_getElem?, Array.getElem?_eq_getElem (show i < a.tmps.size by omega), AV.conc, TV.conc, CV.conc]
    · rw [List.getElem?_eq_none (by simp; omega), Array.getElem?_eq_none (by omega)]
      rfl

theorem FrameOk.size {r : Nat → Nat} {F : AF} {a : Act} (h : FrameOk r F a) : a.tmps.size = F.length := by rw [h]; simp

/-- Memory that is there already, to be read. -/
theorem St.old {r : Nat → Nat} {H : AH} {W : World} (h : ∀ (i : Nat) (x : AO × Nat), H[i]? = some x → W.heap[r i]? = some (x.1.conc r)) (hi : ∀ i j, i < H.length → j < H.length → r i = r j → i = j) (hf : ∀ (i : Nat) (x : AO × Nat), H[i]? = some x → x.2 ≠ 1) : St r H W W :=
  ⟨h, hi, fun i x hx h1 => absurd h1 (hf i x hx), rfl, rfl, rfl, Nat.le_refl _, fun _ _ _ => rfl⟩

/-- Are the blocks unlike by their types? -/
def apartO : AO → AO → Bool
  | .cells _ t, .cells _ t' => !Nat.beq t t'
  | .raw _, .raw _ => false
  | .cells _ _, .raw o => !o.isCells
  | .raw o, .cells _ _ => !o.isCells
def apartH : AH → Bool
  | [] => true
  | x :: l => l.all (fun y => apartO x.1 y.1) && apartH l

theorem apartO_ne {x y : AO} (h : apartO x y = true) (r : Nat → Nat) : x.conc r ≠ y.conc r := by
  cases x <;> cases y <;> simp only [apartO, Bool.not_eq_true'] at h
  · intro e
    simp only [AO.conc, Obj.cells.injEq] at e
    rw [e.2.1] at h; simp at h
  · intro e; simp only [AO.conc] at e; rw [← e] at h; simp [Obj.isCells] at h
  · intro e; simp only [AO.conc] at e; rw [e] at h; simp [Obj.isCells] at h
  · cases h

theorem apartH_get {H : AH} (h : apartH H = true) (i j : Nat) (x y : AO × Nat) (hij : i < j) (hx : H[i]? = some x) (hy : H[j]? = some y) : apartO x.1 y.1 = true := by
  induction H generalizing i j with
  | nil => simp at hx
  | cons z l ih =>
    simp only [apartH, Bool.and_eq_true] at h
    cases j with
    | zero => omega
    | succ j =>
      rw [List.getElem?_cons_succ] at hy
      cases i with
      | zero =>
        rw [List.getElem?_cons_zero] at hx
        cases hx
        exact List.all_eq_true.1 h.1 y (List.mem_of_getElem? hy)
      | succ i =>
        rw [List.getElem?_cons_succ] at hx
        exact ih h.2 i j (by omega) hx hy

theorem St.read {r : Nat → Nat} {H : AH} {W : World} (h : ∀ (i : Nat) (x : AO × Nat), H[i]? = some x → W.heap[r i]? = some (x.1.conc r)) (ha : apartH H = true) (hf : H.all (fun x => !Nat.beq x.2 1) = true) : St r H W W := by
  refine St.old h (fun i j hi hj e => ?_) fun i x hx => ?_
  · have h1 := h i _ (List.getElem?_eq_getElem hi)
    have h2 := h j _ (List.getElem?_eq_getElem hj)
    rw [e, h2] at h1
    rcases Nat.lt_trichotomy i j with hl | hl | hl
    · exact absurd (Option.some.inj h1).symm (apartO_ne (apartH_get ha i j _ _ hl (List.getElem?_eq_getElem hi) (List.getElem?_eq_getElem hj)) r)
    · exact hl
    · exact absurd (Option.some.inj h1) (apartO_ne (apartH_get ha j i _ _ hl (List.getElem?_eq_getElem hj) (List.getElem?_eq_getElem hi)) r)
  · have := List.all_eq_true.1 hf x (List.mem_of_getElem? hx)
    intro e; rw [e] at this; simp at this

theorem grown_of_below {w w' : World} (h : Below w.heap.size w w') : w.grownBy w' none := ⟨h.os, h.tape, h.output, h.size, fun k hk _ => h.block k hk⟩

theorem keepsWalks_of_below {w w' : World} (h : Below w.heap.size w w') : KeepsWalks w w' := ⟨h.size, fun k _ hk _ => (h.block k (Array.getElem?_eq_some_iff.1 hk).1).trans hk⟩
theorem keepsOthers_of_below {w w' : World} (h : Below w.heap.size w w') : KeepsOthers w w' := ⟨h.size, fun k _ hk _ => (h.block k (Array.getElem?_eq_some_iff.1 hk).1).trans hk⟩


theorem pre_wp {ro : Option Nat} {n : Nat} {ops : Array Oper} {W0 : World} {Q : Exit → Act → World → Prop} (T : CT P) (rid m : Nat) (D : List Dec) (qs : List Prop) {i : Nat} {F : AF} {H : AH} (hok : (runPre P T rid ops i m F H D).ok = true) (hq : (runPre P T rid ops i m F H D).ps = qs) (hqs : Holds qs)
    {r : Nat → Nat} {a : Act} {w : World} (hF : FrameOk r F a) (hst : St r H W0 w)
    (hQ : ∀ r' w' a', Agree H.length r r' → St r' (runPre P T rid ops i m F H D).H W0 w' → FrameOk r' (runPre P T rid ops i m F H D).F a' → a'.defers = a.defers → wpListIn (Fw ro) n P ops Q (ops.toList.drop (i + m)) a' w') : wpListIn (Fw ro) n P ops Q (ops.toList.drop i) a w :=
  runPre_wp (PX.eq hok) (by rw [hq]; exact hqs) hF hst hQ

/-- A whole region. -/
theorem reg_wp {ro : Option Nat} {n : Nat} {ops : Array Oper} {id : Nat} {Q : Exit → Act → World → Prop} {a : Act} {w : World} (h : wpListIn (Fw ro) n P ops Q (ops.toList.drop 0) a w) : (Code.region id ops false).wpIn (Fw ro) n P Q a w :=
  wpIn_region_list h

def fnOf (P : Program) (f : FuncId) : Func := match P.funcs[f]? with | some fn => fn | none => default

theorem callsInStart {f : FuncId} {fn : Func} {c : Code} {n : Nat} (hf : P.funcs[f]? = some fn) (hb : fn.body = some c) {args : List AV} {r : Nat → Nat} {w : World} {R : Ending → World → Prop}
    (h : ∀ a, FrameOk r (startF fn args) a → a.defers = [] → c.wpIn (Fw none) n P (bodyPost P fn R) a w) : CallsIn (Fw none) n P f (args.map (AV.conc r)).toArray w R :=
  callsIn_of_wp hf hb trivial (h _ (startF_ok fn args r) rfl)

/-- The same, where the body ranges over functions. -/
theorem callsInMarks {f : FuncId} {fn : Func} {c : Code} {n : Nat} (hf : P.funcs[f]? = some fn) (hb : fn.body = some c) {args : List AV} {r : Nat → Nat} {w : World} {R : Ending → World → Prop}
    (h : ∀ a, FrameOk r (startF fn args) a → a.defers = [] → c.wpIn (Fw none) n P (bodyPostM (Fw none) n P fn R) a w) : CallsIn (Fw none) n P f (args.map (AV.conc r)).toArray w R :=
  callsIn_of_wp_marks hf hb trivial (h _ (startF_ok fn args r) rfl)


theorem Agree.at {n : Nat} {r r' : Nat → Nat} (h : Agree n r r') (i : Nat) (hi : Nat.blt i n = true) : r' i = r i := h i (by simpa using hi)

/-! ### Operations by hand -/
def dstI (ops : Array Oper) (i : Nat) : Option Tmp := match ops[i]? with | some o => o.dst | none => none
def opI (ops : Array Oper) (i : Nat) : Option Op := match ops[i]? with | some o => some o.op | none => none
def wantI (ops : Array Oper) (F : AF) (i : Nat) : Option Bool := match ops[i]? with | some o => wantA ops F o | none => none

theorem val_wp {ro : Option Nat} {n : Nat} {ops : Array Oper} {Q : Exit → Act → World → Prop} {i : Nat} {a : Act} {w w' : World} {F : AF} {r : Nat → Nat} (op : Op) (u : AV) (hF : FrameOk r F a) (hop : opI ops i = some op) (hw : wantI ops F i = some true)
    (hrun : ∀ o : Oper, o.op = op → (execOp a.eval o).run P w = .ok (.value (u.conc r)) w') (h : ∀ a', FrameOk r (putF F (dstI ops i) u) a' → a'.defers = a.defers → wpListIn (Fw ro) n P ops Q (ops.toList.drop (i + 1)) a' w') : wpListIn (Fw ro) n P ops Q (ops.toList.drop i) a w := by
  unfold opI at hop; unfold wantI at hw
  cases ho : ops[i]? with
  | none => simp [ho] at hop
  | some o =>
    simp only [ho, Option.some.injEq] at hop hw
    refine wpListIn_val ho hF hw u (hrun o hop) fun a' hF' hd => h a' ?_ hd
    simpa [dstI, ho] using hF'

def tyI (ops : Array Oper) (i : Nat) : TypeId := match ops[i]? with | some o => o.type | none => 0

/-- The same, where the operation's type is to be known. -/
theorem val_wpT {ro : Option Nat} {n : Nat} {ops : Array Oper} {Q : Exit → Act → World → Prop} {i : Nat} {a : Act} {w w' : World} {F : AF} {r : Nat → Nat} (op : Op) (u : AV) (hF : FrameOk r F a) (hop : opI ops i = some op) (hw : wantI ops F i = some true)
    (hrun : ∀ o : Oper, o.op = op → o.type = tyI ops i → (execOp a.eval o).run P w = .ok (.value (u.conc r)) w') (h : ∀ a', FrameOk r (putF F (dstI ops i) u) a' → a'.defers = a.defers → wpListIn (Fw ro) n P ops Q (ops.toList.drop (i + 1)) a' w') : wpListIn (Fw ro) n P ops Q (ops.toList.drop i) a w := by
  unfold opI at hop; unfold wantI at hw
  cases ho : ops[i]? with
  | none => simp [ho] at hop
  | some o =>
    simp only [ho, Option.some.injEq] at hop hw
    refine wpListIn_val ho hF hw u (hrun o hop (by simp [tyI, ho])) fun a' hF' hd => h a' ?_ hd
    simpa [dstI, ho] using hF'

theorem yield_wp {ro : Option Nat} {n : Nat} {ops : Array Oper} {Q : Exit → Act → World → Prop} {i : Nat} {a : Act} {w : World} {F : AF} {r : Nat → Nat} (c : Call) (fo x : Operand) (hF : FrameOk r F a) (hop : opI ops i = some (.call c)) (hw : wantI ops F i = some true)
    (hc : c.callee = .value fo) (ha : c.args = #[x]) {l : Nat} (hf : F.ev fo = .r (.func (.yield l) #[] #[])) {v : Value} (hx : (F.ev x).conc r = v) {R : Ending → World → Prop}
    (hy : YieldAt (Fw ro) (n - 1) P l #[v] w R)
    (h : ∀ e w', R e w' → ∃ u : Value, e = .returned u ∧ ∀ a', FrameOk r (putF F (dstI ops i) (.r u)) a' → a'.defers = a.defers → wpListIn (Fw ro) n P ops Q (ops.toList.drop (i + 1)) a' w') : wpListIn (Fw ro) n P ops Q (ops.toList.drop i) a w := by
  unfold opI at hop; unfold wantI at hw
  cases ho : ops[i]? with
  | none => simp [ho] at hop
  | some o =>
    simp only [ho, Option.some.injEq] at hop hw
    refine wpListIn_yield ho hF hw hop hc ha hf hx hy fun e w' he => ?_
    obtain ⟨u, hu, hk⟩ := h e w' he
    exact ⟨u, hu, fun a' hF' hd => hk a' (by simpa [dstI, ho] using hF') hd⟩

theorem run_range_op {o : Oper} {t : TypeId} {x : Operand} (ho : o.op = .range t x) {k e : TypeId} (ht : P.underlying t = some (.map k e)) {ρ : Operand → Value} {bm : Nat} (hx : ρ x = .map (some bm)) {w : World} {es : Array MapEntry} {clock : Nat} (hb : w.heap[bm]? = some (.map es clock)) :
    (execOp ρ o).run P w = .ok (.value (.pointer (some ⟨w.heap.size, 0, none⟩))) (w.alloc (.mapIter (some bm) clock #[] clock)) := by
  simp [execOp, ho, hx, run_range_map w t k e bm es clock ht hb]

theorem run_next_op {o : Oper} {x : Operand} (ho : o.op = .next x false) {ρ : Operand → Value} {v : Value} (hx : ρ x = v) {w w' : World} {u : Value} (h : (Instr.next v false o.type).run P w = .ok u w') : (execOp ρ o).run P w = .ok (.value u) w' := by
  simp [execOp, ho, hx, h]

theorem run_entry_op {o : Oper} {x : Operand} (ho : o.op = .entry x) {ρ : Operand → Value} {v : Value} (hx : ρ x = v) {w w' : World} {u : Value} (h : (Instr.entry v).run P w = .ok u w') : (execOp ρ o).run P w = .ok (.value u) w' := by
  simp [execOp, ho, hx, h]

end Go.Proofs.Ytodcebpdmjdplaa
