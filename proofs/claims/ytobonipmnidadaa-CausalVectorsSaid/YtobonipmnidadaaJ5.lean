/- The executor, fifteenth part: a function's contract by one run of it. The executor, sixteenth part: operations laid beside by tables: build, min, max, a map's length. The executor, seventeenth part: a part of a region, an operation by hand, a call of yield; code taken apart; memory that was there. The executor, eighteenth part: from one world to a later one, and back; rounds of a range over a function. -/
import Derived.Test.YtobonipmnidadaaJ4
import Derived.Laws.Tables
import Derived.RangeFuncFrom
import Derived.Maps.RangeRun
import Derived.RangeFuncNested
namespace Go.Proofs.Ytobonipmnidadaa
open Go.RowKit
variable {P : Program} {T : CT P}

/-- The frame with which a function begins. -/
def startF (fn : Func) (args : List AV) : AF := args ++ List.replicate (fn.ntmps - args.length) .undef

theorem startF_ok (fn : Func) (args : List AV) (r : Gh) :
    FrameOk r (startF fn args) { tmps := (args.map (AV.conc r)).toArray ++ Array.replicate (fn.ntmps - (args.map (AV.conc r)).toArray.size) Go.undef, defers := [] } := by
  unfold FrameOk startF
  apply Array.ext'
  simp [undef_conc]

/-- A function without a loop: the whole of it. -/
def fnA (P : Program) (T : CT P) (f : FuncId) (args : List AV) (H : AH) (D : List Dec) : Option (AV × AH × List Prop) :=
  match P.funcs[f]? with
  | some fn => match fn.body with
    | some c => match runK P T 100000 [.code c] (startF fn args) H D with
      | some (.ret, F, H', _, ps) => match retA P fn F H' with
        | some v => some (v, H', ps)
        | none => none
      | some (.norm, F, H', _, ps) => match retA P fn F H' with
        | some v => some (v, H', ps)
        | none => none
      | _ => none
    | none => none
  | none => none

theorem callsStart {f : FuncId} {fn : Func} {c : Code} (hf : P.funcs[f]? = some fn) (hb : fn.body = some c) {args : List AV} {r : Gh} {w : World} {R : Ending → World → Prop}
    (h : kont none 0 P [.code c] (bodyPost P fn R) .normal { tmps := (args.map (AV.conc r)).toArray ++ Array.replicate (fn.ntmps - (args.map (AV.conc r)).toArray.size) Go.undef, defers := [] } w) :
    Calls P f (args.map (AV.conc r)).toArray w R :=
  (callsFw (ro := none) (n := 0)).1 (callsIn_of_wp hf hb trivial h)

theorem bodyPost_of {fn : Func} {F : AF} {H : AH} {v : AV} (hv : retA P fn F H = some v) {r : Gh} {a : Act} {W0 : Base} {w : World} (hF : FrameOk r F a) (hst : St r H W0 w) (hd : a.defers = []) {R : Ending → World → Prop}
    (hR : R (.returned (v.conc r)) w) : bodyPost P fn R .ret a w ∧ bodyPost P fn R .normal a w :=
  ⟨⟨hd, _, retA_run hv hF hst, hR⟩, ⟨hd, _, retA_run hv hF hst, hR⟩⟩

theorem fnA_calls (hmx : P.follows .mixedOrders = true) {f : FuncId} {args : List AV} {H H' : AH} {D : List Dec} {v : AV} {ps : List Prop} (h : fnA P T f args H D = some (v, H', ps)) (hps : Holds ps)
    {r : Gh} {W0 : Base} {w : World} (hst : St r H W0 w) :
    Calls P f (args.map (AV.conc r)).toArray w fun e w' => ∃ r', Agree H.length r r' ∧ e = .returned (v.conc r') ∧ St r' H' W0 w' := by
  unfold fnA at h
  cases hf : P.funcs[f]? with
  | none => simp [hf] at h
  | some fn =>
    simp only [hf] at h
    cases hb : fn.body with
    | none => simp [hb] at h
    | some c =>
      simp only [hb] at h
      refine callsStart hf hb ?_
      cases hr : runK P T 100000 [.code c] (startF fn args) H D with
      | none => simp [hr] at h
      | some x =>
        obtain ⟨x, F, H1, D1, qs⟩ := x
        simp only [hr] at h
        have fin : ∀ (u : AV), retA P fn F H1 = some u → (x = .ret ∨ x = .norm) → u = v → H1 = H' → qs = ps → kont none 0 P [.code c] (bodyPost P fn fun e w' => ∃ r', Agree H.length r r' ∧ e = .returned (v.conc r') ∧ St r' H' W0 w') .normal
            { tmps := (args.map (AV.conc r)).toArray ++ Array.replicate (fn.ntmps - (args.map (AV.conc r)).toArray.size) Go.undef, defers := [] } w := by
          rintro u hu hx rfl rfl rfl
          refine runK_wp hmx _ _ _ _ _ _ _ _ _ _ hr hps r _ w (startF_ok fn args r) hst fun r' w' a' hag hst' hF' hd => ?_
          have := bodyPost_of hu hF' hst' hd (R := fun e w' => ∃ r', Agree H.length r r' ∧ e = .returned (u.conc r') ∧ St r' H1 W0 w') ⟨r', hag, rfl, hst'⟩
          rcases hx with rfl | rfl
          · exact this.1
          · exact this.2
        cases x with
        | ret =>
          cases hu : retA P fn F H1 with
          | none => simp [hu] at h
          | some u =>
            simp [hu] at h
            exact fin u hu (.inl rfl) h.1 h.2.1 h.2.2
        | norm =>
          cases hu : retA P fn F H1 with
          | none => simp [hu] at h
          | some u =>
            simp [hu] at h
            exact fin u hu (.inr rfl) h.1 h.2.1 h.2.2
        | exit id => simp at h
        | loop b k => simp at h
        | range g p s b k => simp at h

theorem args_wipe (args : List AV) (r : Gh) : (args.map (AV.conc r.wipe)).toArray = (args.map (AV.conc r)).toArray := by
  rw [List.map_congr_left fun v _ => AV.conc_wipe r v]

/-- Values in, a value out: nothing of the caller's memory is looked at. -/
def fnP (P : Program) (T : CT P) (f : FuncId) (args : List AV) (D : List Dec) : Option (Value × List Prop) :=
  match fnA P T f args [] D with
  | some (.tv (.one (.rig v)), _, ps) => some (v, ps)
  | _ => none

theorem fnP_calls (hmx : P.follows .mixedOrders = true) {f : FuncId} {args : List AV} {D : List Dec} {v : Value} {ps : List Prop} (h : fnP P T f args D = some (v, ps)) (hps : Holds ps) (r : Gh) (w : World) :
    Calls P f (args.map (AV.conc r)).toArray w fun e w' => e = .returned v ∧ Below w.heap.size w w' := by
  unfold fnP at h
  split at h
  · rename_i v' H' ps' hA
    simp at h
    obtain ⟨rfl, rfl⟩ := h
    rw [← args_wipe]
    exact (fnA_calls hmx hA hps (St.empty r w)).mono fun _ _ ⟨_, _, he, hst⟩ => ⟨he, hst.belowR⟩
  · simp at h

theorem fnP_leaf (hmx : P.follows .mixedOrders = true) {f : FuncId} {args : List AV} {D : List Dec} {v u : Value} {ps : List Prop} (h : fnP P T f args D = some (v, ps)) (hps : Holds ps) (hu : v = u) (r : Gh) (w : World) :
    Calls P f (args.map (AV.conc r)).toArray w fun e w' => e = .returned u ∧ Below w.heap.size w w' := hu ▸ fnP_calls hmx h hps r w

/-- The same, where what comes out has parts. -/
def fnPv (P : Program) (T : CT P) (f : FuncId) (args : List AV) (D : List Dec) : Option (AV × List Prop) :=
  match fnA P T f args [] D with
  | some (v, _, ps) => cond (v.sc 0) (some (v, ps)) none
  | _ => none

theorem fnPv_leaf (hmx : P.follows .mixedOrders = true) {f : FuncId} {args : List AV} {D : List Dec} {v u : AV} {ps : List Prop} (h : fnPv P T f args D = some (v, ps)) (hps : Holds ps) (hu : v = u) (r : Gh) (w : World) :
    Calls P f (args.map (AV.conc r)).toArray w fun e w' => e = .returned (u.conc r) ∧ Below w.heap.size w w' := by
  subst hu
  unfold fnPv at h
  split at h
  · rename_i v' H' ps' hA
    cases hc : v'.sc 0 with
    | false => simp [hc] at h
    | true =>
      simp [hc] at h
      obtain ⟨rfl, rfl⟩ := h
      rw [← args_wipe]
      refine (fnA_calls hmx hA hps (St.empty r w)).mono fun _ _ ⟨r', hag, he, hst⟩ => ⟨?_, hst.belowR⟩
      rw [he, AV.conc_agree hag hc, AV.conc_wipe]
  · simp at h

end Go.Proofs.Ytobonipmnidadaa

namespace Go.Proofs.Ytobonipmnidadaa
open Go.RowKit
variable {P : Program}

theorem fold_sets (off : Nat) : ∀ (vs : List Value) (k : Nat) (A : Array Value), off + k + vs.length ≤ A.size →
    ((vs.zipIdx k).foldl (fun (cs : Array Value) p => cs.setIfInBounds (off + p.2) p.1) A).size = A.size ∧
    ∀ i, ((vs.zipIdx k).foldl (fun (cs : Array Value) p => cs.setIfInBounds (off + p.2) p.1) A)[i]? = if off + k ≤ i ∧ i < off + k + vs.length then vs[i - (off + k)]? else A[i]?
  | [], k, A, _ => ⟨rfl, fun i => by rw [if_neg (by simp)]; rfl⟩
  | v :: vs, k, A, h => by
    simp only [List.length_cons] at h
    obtain ⟨h1, h2⟩ := fold_sets off vs (k + 1) (A.setIfInBounds (off + k) v) (by simp; omega)
    simp only [List.zipIdx_cons, List.foldl_cons]
    refine ⟨by rw [h1]; simp, fun i => ?_⟩
    rw [h2 i]
    simp only [List.length_cons]
    by_cases e : i = off + k
    · subst e
      rw [if_neg (by omega), if_pos (by omega), Nat.sub_self]
      simp [show off + k < A.size by omega]
    · by_cases hr : off + (k + 1) ≤ i ∧ i < off + (k + 1) + vs.length
      · rw [if_pos hr, if_pos (by omega), show i - (off + k) = (i - (off + (k + 1))) + 1 by omega]
        simp
      · rw [if_neg hr, if_neg (by omega), Array.getElem?_setIfInBounds, if_neg (fun x => e x.symm)]

def fillA (place : Nat → Option (Nat × Nat)) : List CV → List (Nat × TV) → Option (List CV)
  | cs, [] => some cs
  | cs, p :: rest => match place p.1 with
    | some q => cond (Nat.beq p.2.cells.length q.2 && Nat.ble (q.1 + p.2.cells.length) cs.length && p.2.fits) (fillA place (cs.take q.1 ++ p.2.cells ++ cs.drop (q.1 + p.2.cells.length)) rest) none
    | none => none

theorem fillA_conc {place : Nat → Option (Nat × Nat)} (r : Gh) : ∀ (parts : List (Nat × TV)) (cs cs' : List CV), fillA place cs parts = some cs' →
    Instr.fill place (cs.map (CV.conc r)).toArray (parts.map fun p => (p.1, p.2.conc r)) = some (cs'.map (CV.conc r)).toArray
  | [], cs, cs', h => by simp [fillA] at h; subst h; rfl
  | p :: rest, cs, cs', h => by
    unfold fillA at h
    cases hp : place p.1 with
    | none => simp [hp] at h
    | some q =>
      simp only [hp] at h
      cases hc : (Nat.beq p.2.cells.length q.2 && Nat.ble (q.1 + p.2.cells.length) cs.length && p.2.fits) with
      | false => simp [hc] at h
      | true =>
        simp only [hc, cond_true] at h
        simp only [Bool.and_eq_true, Nat.beq_eq, Nat.ble_eq] at hc
        obtain ⟨⟨h1, h2⟩, h3⟩ := hc
        have ih := fillA_conc r rest _ _ h
        simp only [List.map_cons, Instr.fill, hp]
        have hcells := TV.cells_conc h3 r
        rw [hcells]
        have hsz : ((List.map (CV.conc r) p.2.cells).toArray.size ≠ q.2 || q.1 + (List.map (CV.conc r) p.2.cells).toArray.size > (cs.map (CV.conc r)).toArray.size) = false := by
          simp; omega
        simp only [hsz, Bool.false_eq_true, if_false]
        rw [← ih]
        congr 1
        obtain ⟨f1, f2⟩ := fold_sets q.1 (p.2.cells.map (CV.conc r)) 0 (cs.map (CV.conc r)).toArray (by simp; omega)
        have e : ∀ (A : Array Value) (l : List Value), (l.toArray.zipIdx).foldl (fun (cs : Array Value) (x : Value × Nat) => match x with | (c, j) => cs.setIfInBounds (q.1 + j) c) A = (l.zipIdx 0).foldl (fun (cs : Array Value) p => cs.setIfInBounds (q.1 + p.2) p.1) A := fun A l => by
          rw [← Array.foldl_toList]
          simp
        rw [e]
        apply Array.ext_getElem?
        intro i
        rw [f2 i]
        simp only [Nat.add_zero, List.length_map, List.getElem?_toArray, List.map_append, List.map_take, List.map_drop]
        by_cases hi : i < q.1
        · rw [if_neg (by omega), List.append_assoc, List.getElem?_append_left (by simp; omega), List.getElem?_take, if_pos hi]
        · by_cases hi2 : i < q.1 + p.2.cells.length
          · rw [if_pos (by omega), List.append_assoc, List.getElem?_append_right (by simp; omega), List.getElem?_append_left (by simp; omega)]
            congr 1
            simp; omega
          · rw [if_neg (by omega), List.getElem?_append_right (by simp; omega), List.getElem?_drop]
            congr 1
            simp; omega

def partsA (ev : Operand → AV) : List (Nat × Operand) → Option (List (Nat × TV))
  | [] => some []
  | p :: l => match ev p.2 with
    | .tv u => match partsA ev l with
      | some m => some ((p.1, u) :: m)
      | none => none
    | .tup _ => none

theorem partsA_conc {ev : Operand → AV} {ρ : Operand → Value} {r : Gh} : ∀ (l : List (Nat × Operand)) (m : List (Nat × TV)), partsA ev l = some m → (∀ p ∈ l, ρ p.2 = (ev p.2).conc r) →
    (l.map fun p => (p.1, ρ p.2)) = m.map fun p => (p.1, p.2.conc r)
  | [], m, h, _ => by simp [partsA] at h; subst h; rfl
  | p :: l, m, h, hev => by
    unfold partsA at h
    cases hp : ev p.2 with
    | tup _ => simp [hp] at h
    | tv u =>
      cases hm : partsA ev l with
      | none => simp [hp, hm] at h
      | some m' =>
        simp [hp, hm] at h
        subst h
        have h0 := hev p (by simp)
        simp only [List.map_cons, partsA_conc l m' hm fun q hq => hev q (by simp [hq])]
        rw [h0, hp]
        rfl

def buildA (P : Program) (t : TypeId) (parts : List (Nat × TV)) : Option (List CV) :=
  match P.info? t, P.underlying t with
  | some it, some (.struct fields) =>
    match it.zero, fields.toList.mapM (fun f => (P.info? f.type).map fun i => (f.offset, i.size)) with
    | some z, some places => fillA (places[·]?) (z.cells.toList.map .rig) parts
    | _, _ => none
  | some it, some (.array _ e) =>
    match it.zero, P.info? e with
    | some z, some ie => fillA (fun i => some (i * ie.size, ie.size)) (z.cells.toList.map .rig) parts
    | _, _ => none
  | _, _ => none

theorem buildA_run {t : TypeId} {parts : List (Nat × TV)} {cs : List CV} (h : buildA P t parts = some cs) (r : Gh) (w : World) (ps : Array (Nat × Value)) (hps : ps.toList = parts.map fun p => (p.1, p.2.conc r)) :
    (Instr.build t ps).run P w = .ok (.agg (cs.map (CV.conc r)).toArray) w := by
  refine run_build w t ps _ ?_
  unfold buildA at h
  unfold Program.built
  split at h
  · rename_i it fields hi hu
    split at h
    · rename_i z places hz hp
      simp only [hi, hu, hz, hp, hps]
      have := fillA_conc r parts _ _ h
      simpa [CV.conc, Function.comp_def] using this
    · simp at h
  · rename_i it n e hi hu
    split at h
    · rename_i z ie hz hp
      simp only [hi, hu, hz, hp, hps]
      have := fillA_conc r parts _ _ h
      simpa [CV.conc, Function.comp_def] using this
    · simp at h
  · simp at h

/-- The least, the greatest, of two. -/
def minmaxA (b : Builtin) (x y : AV) : Option AV :=
  match b, x, y with
  | .min, .tv (.one (.rig (.int k a))), .tv (.one (.rig (.int k' c))) => cond (kindB k k') (some (.r (.int k (min a c)))) none
  | .max, .tv (.one (.rig (.int k a))), .tv (.one (.rig (.int k' c))) => cond (kindB k k') (some (.r (.int k (max a c)))) none
  | _, _, _ => none

/-- Operations laid beside. -/
def baseQ (P : Program) (ev : Operand → AV) (H : AH) (op : Op) : Option (AV × List Nat × Option Prop) :=
  match op with
  | .build t ps => match partsA ev ps.toList with
    | some m => match buildA P t m with
      | some cs => some (.tv (.agg cs), [], none)
      | none => none
    | none => none
  | .call c => match c.callee, c.args.toList, c.argTypes.toList with
    | .builtin b, [x, y], _ => match minmaxA b (ev x) (ev y) with
      | some v => some (v, [], none)
      | none => none
    | .builtin .len, [x], [t] => match ev x, P.underlying t with
      | .tv (.one (.mp i)), some (.map _ _) => match H[i]? with
        | some (.raw (.map es _), _) => some (.r (.int .i64 es.size), [i], none)
        | _ => none
      | _, _ => none
    | _, _, _ => none
  | _ => none

theorem baseQ_run {ev : Operand → AV} {H : AH} {o : Oper} {v : AV} {ft : List Nat} {pr : Option Prop} (h : baseQ P ev H o.op = some (v, ft, pr)) 
    {ρ : Operand → Value} {r : Gh} {w : World} (hev : ∀ x ∈ o.op.operands, ρ x = (ev x).conc r) (hat : At r H ft w) :
    (execOp ρ o).run P w = .ok (.value (v.conc r)) w := by
  unfold execOp
  cases ho : o.op <;> rw [ho] at h hev <;> simp only [baseQ] at h <;> first | (cases h; done) | skip
  case build t ps =>
    cases hm : partsA ev ps.toList with
    | none => simp [hm] at h
    | some m =>
      cases hc : buildA P t m with
      | none => simp [hm, hc] at h
      | some cs =>
        simp [hm, hc] at h
        obtain ⟨rfl, -⟩ := h
        have hps := partsA_conc (ρ := ρ) (r := r) _ _ hm fun p hp => hev p.2 (by simp only [Op.operands]; simp; exact ⟨p.1, by simpa using hp⟩)
        have := buildA_run hc r w (ps.map fun (i, x) => (i, ρ x)) (by rw [← hps]; simp)
        simp only [Sem.run_bind, this]
        rfl
  case call c =>
    split at h
    · rename_i b x y h1 h2
      cases hv : minmaxA b (ev x) (ev y) with
      | none => simp [hv] at h
      | some u =>
        simp [hv] at h
        obtain ⟨rfl, -⟩ := h
        have hargs : c.args = #[x, y] := by cases hc : c.args; simp_all
        have hx : ρ x = (ev x).conc r := hev x (by simp [Op.operands, Call.operands, h1, hargs])
        have hy : ρ y = (ev y).conc r := hev y (by simp [Op.operands, Call.operands, h1, hargs])
        unfold minmaxA at hv
        split at hv
        · rename_i k a k' c' e1 e2
          cases hk : kindB k k' with
          | false => simp [hk] at hv
          | true =>
            have := kindB_eq hk; subst this
            simp [hk] at hv; subst hv
            simp [resolve, invoke, builtin, h1, hargs, hx, hy, e1, e2, AV.conc, TV.conc, CV.conc, Builtin.min_, Builtin.min2]
            omega
        · rename_i k a k' c' e1 e2
          cases hk : kindB k k' with
          | false => simp [hk] at hv
          | true =>
            have := kindB_eq hk; subst this
            simp [hk] at hv; subst hv
            simp [resolve, invoke, builtin, h1, hargs, hx, hy, e1, e2, AV.conc, TV.conc, CV.conc, Builtin.max_, Builtin.max2]
            omega
        · simp at hv
    · rename_i x t h1 h2 h3
      split at h
      · rename_i i k e hx hu
        split at h
        · rename_i es cl f hH
          simp at h
          obtain ⟨rfl, rfl, -⟩ := h
          have hargs : c.args = #[x] := by cases hc : c.args; simp_all
          have hat' : c.argTypes = #[t] := by cases hc : c.argTypes; simp_all
          have hx' : ρ x = (ev x).conc r := hev x (by simp [Op.operands, Call.operands, h1, hargs])
          have hb := (hat.get (by simp) hH).1
          simp [resolve, invoke, builtin, h1, hargs, hat', hx', hx, AV.conc, TV.conc, CV.conc, Builtin.len_, run_underlying hu, goInt, getObj, Sem.run, hb]
        · simp at h
      · simp at h
    · simp at h

/-- The empty table and these. -/
def CT.base (P : Program) : CT P := (CT.none P).addOq (baseQ P) fun _ _ _ _ _ _ h _ _ _ _ hev hat => baseQ_run h hev hat

end Go.Proofs.Ytobonipmnidadaa

namespace Go.Proofs.Ytobonipmnidadaa
open Go.RowKit
variable {P : Program} {T : CT P}

theorem runOps_pre {ro : Option Nat} {n : Nat} {ops : Array Oper} {rid : Nat} {W0 : Base} {Q : Exit → Act → World → Prop} {l2 : List Oper} : ∀ (l : List Oper) (i : Nat) (F : AF) (H : AH) (D : List Dec) (F' : AF) (H' : AH) (D' : List Dec) (ps : List Prop) (rs : List Rec),
    runOps P T ops rid i l F H D = some (F', H', D', ps, rs) → Holds ps → ∀ (r : Gh) (a : Act) (w : World), FrameOk r F a → St r H W0 w →
    (∀ r' w' a', Agree H.length r r' → St r' H' W0 w' → FrameOk r' F' a' → a'.defers = a.defers → wpListIn (Fw ro) n P ops Q l2 a' w') → wpListIn (Fw ro) n P ops Q (l ++ l2) a w
  | [], i, F, H, D, F', H', D', ps, rs, h, _, r, a, w, hF, hst, hQ => by
    simp [runOps] at h
    obtain ⟨rfl, rfl, _⟩ := h
    exact hQ r w a (Agree.refl _ _) hst hF rfl
  | o :: l, i, F, H, D, F', H', D', ps, rs, h, hps, r, a, w, hF, hst, hQ => by
    unfold runOps at h
    show wpListIn (Fw ro) n P ops Q (o :: (l ++ l2)) a w
    cases hsub : subS (rid * 1000 + i) F D with
    | mk F1 q =>
      obtain ⟨D1, p⟩ := q
      simp only [hsub] at h
      cases hw : wantA ops F1 o with
      | none => simp [hw] at h
      | some b =>
        simp only [hw] at h
        unfold wpListIn
        cases b with
        | true =>
          simp only [] at h
          cases hb : bareA P T (rid * 1000 + i) o F1 H D1 with
          | none => simp [hb] at h
          | some x =>
            obtain ⟨s, D2⟩ := x
            simp only [hb] at h
            cases hr : runOps P T ops rid (i + 1) l (putF F1 o.dst s.v) (s.heap H) D2 with
            | none => simp [hr] at h
            | some y =>
              obtain ⟨F2, H2, D3, ps', rs'⟩ := y
              simp only [hr, Option.some.injEq, Prod.mk.injEq] at h
              obtain ⟨rfl, rfl, rfl, rfl, _⟩ := h
              obtain ⟨hp, hps⟩ := hps.addO
              obtain ⟨hso, hps⟩ := hps.addO
              have hF1 := subS_ok hsub hp hF
              rw [if_pos (wantA_eq hw fun t _ => hF1.looks t)]
              refine SR.wp (bareA_sem hb hso) hF1 hst fun r' w' a' hag hst' hF' hd => ?_
              refine runOps_pre l (i + 1) _ _ _ _ _ _ _ _ hr hps r' a' w' hF' hst' fun r2 w2 a2 hag2 hst2 hF2 hd2 => ?_
              exact hQ r2 w2 a2 (hag.trans hag2 (bareA_len hb)) hst2 hF2 (hd2.trans hd)
        | false =>
          simp only [] at h
          cases hr : runOps P T ops rid (i + 1) l (putF F1 o.dst .undef) H D1 with
          | none => simp [hr] at h
          | some y =>
            obtain ⟨F2, H2, D3, ps', rs'⟩ := y
            simp only [hr, Option.some.injEq, Prod.mk.injEq] at h
            obtain ⟨rfl, rfl, rfl, rfl, _⟩ := h
            obtain ⟨hp, hps⟩ := hps.addO
            have hF1 := subS_ok hsub hp hF
            rw [if_neg (by rw [wantA_eq hw fun t _ => hF1.looks t]; simp)]
            refine ⟨fun _ _ => trivial, ?_⟩
            refine runOps_pre l (i + 1) _ _ _ _ _ _ _ _ hr hps r _ w (hF1.put o.dst .undef) hst fun r2 w2 a2 hag2 hst2 hF2 hd2 => ?_
            exact hQ r2 w2 a2 hag2 hst2 hF2 (hd2.trans (put_defers _ _ _))

/-! ### What a run has come to, without its being written out -/
abbrev PX := Option (AF × AH × List Prop)
def PX.F : PX → AF | some y => y.1 | none => []
def PX.H : PX → AH | some y => y.2.1 | none => []
def PX.ok : PX → Bool | some _ => true | none => false
def PX.ps : PX → List Prop | some y => y.2.2 | none => [False]

theorem PX.eq {x : PX} (h : x.ok = true) : x = some (x.F, x.H, x.ps) := by
  cases x with
  | none => cases h
  | some y => rfl

/-- The first so many operations, found by the run. -/
def runPre (P : Program) (T : CT P) (rid : Nat) (ops : Array Oper) (i m : Nat) (F : AF) (H : AH) (D : List Dec) : PX :=
  match runOps P T ops rid i ((ops.toList.drop i).take m) F H D with
  | some (F', H', _, ps, _) => some (F', H', ps)
  | none => none

theorem runPre_wp {ro : Option Nat} {n : Nat} {ops : Array Oper} {rid : Nat} {W0 : Base} {Q : Exit → Act → World → Prop} {i m : Nat} {F F' : AF} {H H' : AH} {D : List Dec} {ps : List Prop} (h : runPre P T rid ops i m F H D = some (F', H', ps)) (hps : Holds ps)
    {r : Gh} {a : Act} {w : World} (hF : FrameOk r F a) (hst : St r H W0 w)
    (hQ : ∀ r' w' a', Agree H.length r r' → St r' H' W0 w' → FrameOk r' F' a' → a'.defers = a.defers → wpListIn (Fw ro) n P ops Q (ops.toList.drop (i + m)) a' w') : wpListIn (Fw ro) n P ops Q (ops.toList.drop i) a w := by
  unfold runPre at h
  cases hr : runOps P T ops rid i ((ops.toList.drop i).take m) F H D with
  | none => simp [hr] at h
  | some x =>
    obtain ⟨F1, H1, D1, ps1, rs⟩ := x
    simp only [hr, Option.some.injEq, Prod.mk.injEq] at h
    obtain ⟨rfl, rfl, rfl⟩ := h
    have := runOps_pre (ro := ro) (n := n) (Q := Q) (l2 := ops.toList.drop (i + m)) _ i F H D _ _ _ _ _ hr hps r a w hF hst hQ
    rwa [← List.drop_drop, List.take_append_drop] at this

/-- Where none are left. -/
theorem wpListIn_end {ro : Option Nat} {n : Nat} {ops : Array Oper} {Q : Exit → Act → World → Prop} {m : Nat} {a : Act} {w : World} (hm : Nat.ble ops.size m = true) (h : Q .normal a w) : wpListIn (Fw ro) n P ops Q (ops.toList.drop m) a w := by
  have : ops.toList.drop m = [] := List.drop_eq_nil_of_le (by rw [Nat.ble_eq] at hm; simpa using hm)
  rw [this]
  exact h

/-- The operation in a place. -/
theorem wpListIn_at {ro : Option Nat} {n : Nat} {ops : Array Oper} {Q : Exit → Act → World → Prop} {i : Nat} {o : Oper} {a : Act} {w : World} (ho : ops[i]? = some o) {F : AF} {r : Gh} (hF : FrameOk r F a) (hw : wantA ops F o = some true)
    (h : o.wpIn (Fw ro) n P a w (wpListIn (Fw ro) n P ops Q (ops.toList.drop (i + 1))) Q) : wpListIn (Fw ro) n P ops Q (ops.toList.drop i) a w := by
  have hi : i < ops.toList.length := by have := (Array.getElem?_eq_some_iff.1 ho).1; simpa using this
  rw [List.drop_eq_getElem_cons hi]
  have e : ops.toList[i] = o := by have := (Array.getElem?_eq_some_iff.1 ho).2; simpa using this
  rw [e]
  unfold wpListIn
  rw [if_pos (wantA_eq hw fun t _ => hF.looks t)]
  exact h

/-- By hand: what it comes to, and the world behind it. -/
theorem wpListIn_val {ro : Option Nat} {n : Nat} {ops : Array Oper} {Q : Exit → Act → World → Prop} {i : Nat} {o : Oper} {a : Act} {w w' : World} (ho : ops[i]? = some o) {F : AF} {r : Gh} (hF : FrameOk r F a) (hw : wantA ops F o = some true) (u : AV)
    (hrun : (execOp a.eval o).run P w = .ok (.value (u.conc r)) w') (h : ∀ a', FrameOk r (putF F o.dst u) a' → a'.defers = a.defers → wpListIn (Fw ro) n P ops Q (ops.toList.drop (i + 1)) a' w') : wpListIn (Fw ro) n P ops Q (ops.toList.drop i) a w :=
  wpListIn_at ho hF hw (wpIn_of_value hrun (h _ (hF.put _ _) (put_defers _ _ _)))

theorem run_yield_op {o : Oper} {c : Call} {fo x : Operand} (ho : o.op = .call c) (hc : c.callee = .value fo) (ha : c.args = #[x]) {ρ : Operand → Value} {l : Nat} (hf : ρ fo = .func (.yield l) #[] #[]) {w : World} {f : FuncId} {tmps : Array Value} {as body : Code}
    (hy : (Instr.yield l #[ρ x]).run P w = .ok (.round l f tmps as body) w) : (execOp ρ o).run P w = .ok (.round l f tmps as body) w := by
  simp [execOp, ho, resolve, hc, ha, hf, Deferred.ofValue, invoke, hy]

theorem wpIn_of_round {ro : Option Nat} {n : Nat} {o : Oper} {a : Act} {w w' : World} {K : Act → World → Prop} {X : Exit → Act → World → Prop} {l : Nat} {f : FuncId} {tmps : Array Value} {as body : Code} {R : Ending → World → Prop}
    (hd : ∀ c, o.op ≠ .defer c) (hrun : (execOp a.eval o).run P w = .ok (.round l f tmps as body) w') (hc : RoundIn (Fw ro) (n - 1) P l f tmps as body w' R) (hR : ∀ e w'', R e w'' → ∃ v, e = .returned v ∧ K (a.put o.dst v) w'') : o.wpIn (Fw ro) n P a w K X := by
  refine ⟨fun _ _ => trivial, ?_⟩
  rw [Fw_round, semAt_eq hd, hrun]
  refine ⟨fun h => by simp at h, hc.mono fun e w'' he => ?_⟩
  obtain ⟨v, rfl, hk⟩ := hR e w'' he
  exact hk

/-- A call of yield in its place. -/
theorem wpListIn_yield {ro : Option Nat} {n : Nat} {ops : Array Oper} {Q : Exit → Act → World → Prop} {i : Nat} {o : Oper} {a : Act} {w : World} (ho : ops[i]? = some o) {F : AF} {r : Gh} (hF : FrameOk r F a) (hw : wantA ops F o = some true)
    {c : Call} {fo x : Operand} (hop : o.op = .call c) (hc : c.callee = .value fo) (ha : c.args = #[x]) {l : Nat} (hf : F.ev fo = .r (.func (.yield l) #[] #[])) {v : Value} (hx : (F.ev x).conc r = v) {R : Ending → World → Prop}
    (hy : YieldAt (Fw ro) (n - 1) P l #[v] w R)
    (h : ∀ e w', R e w' → ∃ u : Value, e = .returned u ∧ ∀ a', FrameOk r (putF F o.dst (.r u)) a' → a'.defers = a.defers → wpListIn (Fw ro) n P ops Q (ops.toList.drop (i + 1)) a' w') : wpListIn (Fw ro) n P ops Q (ops.toList.drop i) a w := by
  obtain ⟨f, tmps, as, body, hrun, hR⟩ := hy
  refine wpListIn_at ho hF hw (wpIn_of_round (fun c' e => by rw [hop] at e; cases e) (run_yield_op hop hc ha (l := l) ?_ ?_) hR fun e w' he => ?_)
  · rw [hF.eval, hf]; rfl
  · rw [hF.eval, hx]; exact hrun
  · obtain ⟨u, rfl, hk⟩ := h e w' he
    exact ⟨u, rfl, hk _ (hF.put _ (.r u)) (put_defers _ _ _)⟩

/-! ### Code taken apart -/
def bodyOf (P : Program) (f : FuncId) : Code :=
  match P.funcs[f]? with
  | some fn => match fn.body with
    | some c => c
    | none => .skip
  | none => .skip

def opsIn : Code → Nat → Option (Array Oper)
  | .region i ops _, id => cond (Nat.beq i id) (some ops) none
  | .seq a b, id => match opsIn a id with | some x => some x | none => opsIn b id
  | .cond _ a b, id => match opsIn a id with | some x => some x | none => opsIn b id
  | .block _ a, id => opsIn a id
  | .loop a, id => opsIn a id
  | .rangeFunc _ _ a b, id => match opsIn a id with | some x => some x | none => opsIn b id
  | _, _ => none

def opsAt (P : Program) (f : FuncId) (id : Nat) : Array Oper :=
  match opsIn (bodyOf P f) id with
  | some x => x
  | none => #[]

/-- What a slot holds, as it is. -/
def garb (a : Act) (n m : Nat) : List AV := (List.range' n m).map fun i => .r (a.tmps.getD i Go.undef)

theorem FrameOk.garb {r : Gh} {a : Act} {F : AF} {n m : Nat} (hn : F.length = n) (hs : a.tmps.size = n + m) (h : ∀ i, i < n → a.tmps.getD i Go.undef = (F.getD i .undef).conc r) : FrameOk r (F ++ Go.Proofs.Ytobonipmnidadaa.garb a n m) a := by
  unfold FrameOk
  apply Array.ext_getElem?
  intro i
  simp only [List.getElem?_toArray, List.getElem?_map]
  by_cases hi : i < n
  · rw [List.getElem?_append_left (by omega)]
    have := h i hi
    rw [List.getD_eq_getElem?_getD, List.getElem?_eq_getElem (by omega)] at this
    rw [List.getElem?_eq_getElem (by omega)]
    simp only [Array.getD_eq_getD_getElem?, Option.getD_some] at this
    rw [Array.getElem?_eq_getElem (by omega)] at this ⊢
    simpa using this
  · rw [List.getElem?_append_right (by omega)]
    unfold Go.Proofs.Ytobonipmnidadaa.garb
    by_cases h2 : i < n + m
    · rw [List.getElem?_map, List.getElem?_range' (by omega)]
      simp only [Option.map_some, Nat.one_mul]
      rw [show n + (i - F.length) = i by omega]
      simp [Array.getD_eq_getD_getElem?, Array.getElem?_eq_getElem (show i < a.tmps.size by omega), AV.conc, TV.conc, CV.conc]
    · rw [List.getElem?_eq_none (by simp; omega), Array.getElem?_eq_none (by omega)]
      rfl

theorem FrameOk.size {r : Gh} {F : AF} {a : Act} (h : FrameOk r F a) : a.tmps.size = F.length := by rw [h]; simp

/-- Are the blocks unlike by their types? -/
def apartO : AO → AO → Bool
  | .cells _ t, .cells _ t' => !Nat.beq t t'
  | .cells _ _, .raw o => !o.isCells
  | .raw o, .cells _ _ => !o.isCells
  | _, _ => false
def apartH : AH → Bool
  | [] => true
  | x :: l => l.all (fun y => apartO x.1 y.1) && apartH l

theorem apartO_blk {x y : AO} (h : apartO x y = true) : x.blk = true ∧ y.blk = true := by
  cases x <;> cases y <;> simp [apartO] at h <;> exact ⟨rfl, rfl⟩
theorem apartO_ne {x y : AO} (h : apartO x y = true) (r : Gh) : x.conc r ≠ y.conc r := by
  cases x <;> cases y <;> simp only [apartO, Bool.not_eq_true', Bool.false_eq_true] at h
  · intro e
    simp only [AO.conc, Obj.cells.injEq] at e
    rw [e.2.1] at h; simp at h
  · intro e; simp only [AO.conc] at e; rw [← e] at h; simp [Obj.isCells] at h
  · intro e; simp only [AO.conc] at e; rw [e] at h; simp [Obj.isCells] at h

theorem apartH_get {H : AH} (h : apartH H = true) (i j : Nat) (x y : AO × Nat) (hij : i < j) (hx : H[i]? = some x) (hy : H[j]? = some y) : apartO x.1 y.1 = true := by
  induction H generalizing i j with
  | nil => simp at hx
  | cons z l ih =>
    simp only [apartH, Bool.and_eq_true] at h
    cases j with
    | zero => omega
    | succ j =>
      rw [List.getElem?_cons_succ] at hy
      cases i with
      | zero =>
        rw [List.getElem?_cons_zero] at hx
        cases hx
        exact List.all_eq_true.1 h.1 y (List.mem_of_getElem? hy)
      | succ i =>
        rw [List.getElem?_cons_succ] at hx
        exact ih h.2 i j (by omega) hx hy

/-- The owner by a list of blocks. -/
def ownL (r : Nat → Nat) : Nat → Nat → Option Nat
  | 0, _ => none
  | n + 1, b => if b = r n then some n else ownL r n b
theorem ownL_some {r : Nat → Nat} {n b i : Nat} (h : ownL r n b = some i) : i < n ∧ b = r i := by
  induction n with
  | zero => cases h
  | succ n ih =>
    unfold ownL at h
    split at h
    · cases h; exact ⟨by omega, by assumption⟩
    · have := ih h; exact ⟨by omega, this.2⟩
theorem ownL_at {r : Nat → Nat} {n i : Nat} (hi : i < n) (hinj : ∀ i j, i < n → j < n → r i = r j → i = j) : ownL r n (r i) = some i := by
  induction n with
  | zero => omega
  | succ n ih =>
    unfold ownL
    split
    · rename_i e
      rw [hinj i n hi (by omega) e]
    · rename_i e
      have : i ≠ n := fun x => e (by rw [x])
      exact ih (by omega) fun i j hi hj => hinj i j (by omega) (by omega)

/-- Blocks that are there, by their numbers. -/
def Gh.rdo (r : Gh) (n : Nat) : Gh := r.withO (ownL r.b n) (fun _ => False)
theorem FrameOk.withO0 {r : Gh} {F : AF} {a : Act} (h : FrameOk r F a) (o : Nat → Option Nat) (im : Nat → Prop) : FrameOk (r.withO o im) F a := by
  unfold FrameOk at *
  rw [h, List.map_congr_left fun v _ => AV.conc_withO r o im v]
theorem FrameOk.wipe {r : Gh} {F : AF} {a : Act} (h : FrameOk r F a) : FrameOk r.wipe F a := h.withO0 _ _
theorem FrameOk.rdo {r : Gh} {F : AF} {a : Act} (h : FrameOk r F a) (n : Nat) : FrameOk (r.rdo n) F a := h.withO0 _ _

/-- Memory that is there already, to be read. -/
theorem St.read {r : Gh} {H : AH} {W : World} (h : ∀ (i : Nat) (x : AO × Nat), H[i]? = some x → W.heap[r.b i]? = some (x.1.conc r)) (ha : apartH H = true) (hbk : H.all (fun x => x.1.blk) = true) (hf : H.all (fun x => Nat.beq x.2 0) = true) : St (r.rdo H.length) H (rd (r.rdo H.length) W) W := by
  have hinj : ∀ i j, i < H.length → j < H.length → r.b i = r.b j → i = j := fun i j hi hj e => by
    have h1 := h i _ (List.getElem?_eq_getElem hi)
    have h2 := h j _ (List.getElem?_eq_getElem hj)
    rw [e, h2] at h1
    rcases Nat.lt_trichotomy i j with hl | hl | hl
    · exact absurd (Option.some.inj h1).symm (apartO_ne (apartH_get ha i j _ _ hl (List.getElem?_eq_getElem hi) (List.getElem?_eq_getElem hj)) _)
    · exact hl
    · exact absurd (Option.some.inj h1) (apartO_ne (apartH_get ha j i _ _ hl (List.getElem?_eq_getElem hj) (List.getElem?_eq_getElem hi)) _)
  refine ⟨⟨fun i x hx => ?_, fun b i hb => ?_, fun b hb => False.elim hb, fun b hb => False.elim hb⟩, fun b i x hb hx hf' => ?_, fun b i hb => .inr (.inr hb), fun b hb => hb, fun b hb => False.elim hb, rfl, rfl, rfl, Nat.le_refl _, fun _ _ _ => rfl⟩
  · have hi := (List.getElem?_eq_some_iff.1 hx).1
    rw [AO.holds_blk (List.all_eq_true.1 hbk x (List.mem_of_getElem? hx))]
    refine ⟨?_, fun b => ⟨fun hb => (ownL_some hb).2, fun hb => ?_⟩⟩
    · unfold Gh.rdo; rw [AO.conc_withO]; exact h i x hx
    · subst hb
      exact ownL_at hi hinj
  · obtain ⟨h1, rfl⟩ := ownL_some hb
    exact ⟨h1, (Array.getElem?_eq_some_iff.1 (h i _ (List.getElem?_eq_getElem h1))).1⟩
  · have := List.all_eq_true.1 hf x (List.mem_of_getElem? hx)
    exact absurd (by simpa using this) hf'

theorem grown_of_below {w w' : World} (h : Below w.heap.size w w') : w.grownBy w' none := ⟨h.os, h.tape, h.output, h.size, fun k hk _ => h.block k hk⟩

theorem keepsWalks_of_below {w w' : World} (h : Below w.heap.size w w') : KeepsWalks w w' := ⟨h.size, fun k _ hk _ => (h.block k (Array.getElem?_eq_some_iff.1 hk).1).trans hk⟩
theorem keepsOthers_of_below {w w' : World} (h : Below w.heap.size w w') : KeepsOthers w w' := ⟨h.size, fun k _ hk _ => (h.block k (Array.getElem?_eq_some_iff.1 hk).1).trans hk⟩


theorem pre_wp {ro : Option Nat} {n : Nat} {ops : Array Oper} {W0 : Base} {Q : Exit → Act → World → Prop} (T : CT P) (rid m : Nat) (D : List Dec) (qs : List Prop) {i : Nat} {F : AF} {H : AH} (hok : (runPre P T rid ops i m F H D).ok = true) (hq : (runPre P T rid ops i m F H D).ps = qs) (hqs : Holds qs)
    {r : Gh} {a : Act} {w : World} (hF : FrameOk r F a) (hst : St r H W0 w)
    (hQ : ∀ r' w' a', Agree H.length r r' → St r' (runPre P T rid ops i m F H D).H W0 w' → FrameOk r' (runPre P T rid ops i m F H D).F a' → a'.defers = a.defers → wpListIn (Fw ro) n P ops Q (ops.toList.drop (i + m)) a' w') : wpListIn (Fw ro) n P ops Q (ops.toList.drop i) a w :=
  runPre_wp (PX.eq hok) (by rw [hq]; exact hqs) hF hst hQ

/-- A whole region. -/
theorem reg_wp {ro : Option Nat} {n : Nat} {ops : Array Oper} {id : Nat} {Q : Exit → Act → World → Prop} {a : Act} {w : World} (h : wpListIn (Fw ro) n P ops Q (ops.toList.drop 0) a w) : (Code.region id ops false).wpIn (Fw ro) n P Q a w :=
  wpIn_region_list h

def fnOf (P : Program) (f : FuncId) : Func := match P.funcs[f]? with | some fn => fn | none => default

theorem callsInStart {f : FuncId} {fn : Func} {c : Code} {n : Nat} (hf : P.funcs[f]? = some fn) (hb : fn.body = some c) {args : List AV} {r : Gh} {w : World} {R : Ending → World → Prop}
    (h : ∀ a, FrameOk r (startF fn args) a → a.defers = [] → c.wpIn (Fw none) n P (bodyPost P fn R) a w) : CallsIn (Fw none) n P f (args.map (AV.conc r)).toArray w R :=
  callsIn_of_wp hf hb trivial (h _ (startF_ok fn args r) rfl)

/-- The same, where the body ranges over functions. -/
theorem callsInMarks {f : FuncId} {fn : Func} {c : Code} {n : Nat} (hf : P.funcs[f]? = some fn) (hb : fn.body = some c) {args : List AV} {r : Gh} {w : World} {R : Ending → World → Prop}
    (h : ∀ a, FrameOk r (startF fn args) a → a.defers = [] → c.wpIn (Fw none) n P (bodyPostM (Fw none) n P fn R) a w) : CallsIn (Fw none) n P f (args.map (AV.conc r)).toArray w R :=
  callsIn_of_wp_marks hf hb trivial (h _ (startF_ok fn args r) rfl)


/-! ### Operations by hand -/
def dstI (ops : Array Oper) (i : Nat) : Option Tmp := match ops[i]? with | some o => o.dst | none => none
def opI (ops : Array Oper) (i : Nat) : Option Op := match ops[i]? with | some o => some o.op | none => none
def wantI (ops : Array Oper) (F : AF) (i : Nat) : Option Bool := match ops[i]? with | some o => wantA ops F o | none => none

theorem val_wp {ro : Option Nat} {n : Nat} {ops : Array Oper} {Q : Exit → Act → World → Prop} {i : Nat} {a : Act} {w w' : World} {F : AF} {r : Gh} (op : Op) (u : AV) (hF : FrameOk r F a) (hop : opI ops i = some op) (hw : wantI ops F i = some true)
    (hrun : ∀ o : Oper, o.op = op → (execOp a.eval o).run P w = .ok (.value (u.conc r)) w') (h : ∀ a', FrameOk r (putF F (dstI ops i) u) a' → a'.defers = a.defers → wpListIn (Fw ro) n P ops Q (ops.toList.drop (i + 1)) a' w') : wpListIn (Fw ro) n P ops Q (ops.toList.drop i) a w := by
  unfold opI at hop; unfold wantI at hw
  cases ho : ops[i]? with
  | none => simp [ho] at hop
  | some o =>
    simp only [ho, Option.some.injEq] at hop hw
    refine wpListIn_val ho hF hw u (hrun o hop) fun a' hF' hd => h a' ?_ hd
    simpa [dstI, ho] using hF'

def tyI (ops : Array Oper) (i : Nat) : TypeId := match ops[i]? with | some o => o.type | none => 0

/-- The same, where the operation's type is to be known. -/
theorem val_wpT {ro : Option Nat} {n : Nat} {ops : Array Oper} {Q : Exit → Act → World → Prop} {i : Nat} {a : Act} {w w' : World} {F : AF} {r : Gh} (op : Op) (u : AV) (hF : FrameOk r F a) (hop : opI ops i = some op) (hw : wantI ops F i = some true)
    (hrun : ∀ o : Oper, o.op = op → o.type = tyI ops i → (execOp a.eval o).run P w = .ok (.value (u.conc r)) w') (h : ∀ a', FrameOk r (putF F (dstI ops i) u) a' → a'.defers = a.defers → wpListIn (Fw ro) n P ops Q (ops.toList.drop (i + 1)) a' w') : wpListIn (Fw ro) n P ops Q (ops.toList.drop i) a w := by
  unfold opI at hop; unfold wantI at hw
  cases ho : ops[i]? with
  | none => simp [ho] at hop
  | some o =>
    simp only [ho, Option.some.injEq] at hop hw
    refine wpListIn_val ho hF hw u (hrun o hop (by simp [tyI, ho])) fun a' hF' hd => h a' ?_ hd
    simpa [dstI, ho] using hF'

theorem yield_wp {ro : Option Nat} {n : Nat} {ops : Array Oper} {Q : Exit → Act → World → Prop} {i : Nat} {a : Act} {w : World} {F : AF} {r : Gh} (c : Call) (fo x : Operand) (hF : FrameOk r F a) (hop : opI ops i = some (.call c)) (hw : wantI ops F i = some true)
    (hc : c.callee = .value fo) (ha : c.args = #[x]) {l : Nat} (hf : F.ev fo = .r (.func (.yield l) #[] #[])) {v : Value} (hx : (F.ev x).conc r = v) {R : Ending → World → Prop}
    (hy : YieldAt (Fw ro) (n - 1) P l #[v] w R)
    (h : ∀ e w', R e w' → ∃ u : Value, e = .returned u ∧ ∀ a', FrameOk r (putF F (dstI ops i) (.r u)) a' → a'.defers = a.defers → wpListIn (Fw ro) n P ops Q (ops.toList.drop (i + 1)) a' w') : wpListIn (Fw ro) n P ops Q (ops.toList.drop i) a w := by
  unfold opI at hop; unfold wantI at hw
  cases ho : ops[i]? with
  | none => simp [ho] at hop
  | some o =>
    simp only [ho, Option.some.injEq] at hop hw
    refine wpListIn_yield ho hF hw hop hc ha hf hx hy fun e w' he => ?_
    obtain ⟨u, hu, hk⟩ := h e w' he
    exact ⟨u, hu, fun a' hF' hd => hk a' (by simpa [dstI, ho] using hF') hd⟩

theorem run_range_op {o : Oper} {t : TypeId} {x : Operand} (ho : o.op = .range t x) {k e : TypeId} (ht : P.underlying t = some (.map k e)) {ρ : Operand → Value} {bm : Nat} (hx : ρ x = .map (some bm)) {w : World} {es : Array MapEntry} {clock : Nat} (hb : w.heap[bm]? = some (.map es clock)) :
    (execOp ρ o).run P w = .ok (.value (.pointer (some ⟨w.heap.size, 0, none⟩))) (w.alloc (.mapIter (some bm) clock #[] clock)) := by
  simp [execOp, ho, hx, run_range_map w t k e bm es clock ht hb]

theorem run_next_op {o : Oper} {x : Operand} (ho : o.op = .next x false) {ρ : Operand → Value} {v : Value} (hx : ρ x = v) {w w' : World} {u : Value} (h : (Instr.next v false o.type).run P w = .ok u w') : (execOp ρ o).run P w = .ok (.value u) w' := by
  simp [execOp, ho, hx, h]

theorem run_entry_op {o : Oper} {x : Operand} (ho : o.op = .entry x) {ρ : Operand → Value} {v : Value} (hx : ρ x = v) {w w' : World} {u : Value} (h : (Instr.entry v).run P w = .ok u w') : (execOp ρ o).run P w = .ok (.value u) w' := by
  simp [execOp, ho, hx, h]

end Go.Proofs.Ytobonipmnidadaa

namespace Go.Proofs.Ytobonipmnidadaa
open Go.RowKit
variable {P : Program} {T : CT P}

theorem FrameOk.withO {r : Gh} {F : AF} {a : Act} (h : FrameOk r F a) (o : Nat → Option Nat) (im : Nat → Prop) : FrameOk (r.withO o im) F a := by
  unfold FrameOk at *
  rw [h, List.map_congr_left fun v _ => AV.conc_withO r o im v]
theorem FrameOk.ofO {r : Gh} {F : AF} {a : Act} {o : Nat → Option Nat} {im : Nat → Prop} (h : FrameOk (r.withO o im) F a) : FrameOk r F a := by
  unfold FrameOk at *
  rw [h, List.map_congr_left fun v _ => AV.conc_withO r o im v]
/-- A state, as where a run begins: what may be written may turn. -/
def base (r : Gh) (H : AH) (W : World) : Base := ⟨W, fun b => ∃ i x, r.o b = some i ∧ H[i]? = some x ∧ x.2 ≠ 0, fun b i => r.o b = some i, r.im⟩

theorem St.rebase {r : Gh} {H : AH} {W0 : Base} {W : World} (h : St r H W0 W) : St r H (base r H W) W :=
  ⟨h.hold, fun _ i x hb hx hf => .inr ⟨i, x, hb, hx, hf⟩, fun _ _ hb => .inr (.inr hb), fun _ hb => hb, fun _ hb => .inl hb, rfl, rfl, rfl, Nat.le_refl _, fun _ _ _ => rfl⟩

theorem St.base_z {r : Gh} {H : AH} {W0 : Base} {W : World} (h : St r H W0 W) {b : Nat} (hz : (base r H W).Z b) : W0.w.heap.size ≤ b ∨ W0.Z b := by
  obtain ⟨i, x, h1, h2, h3⟩ := hz
  exact h.wr b i x h1 h2 h3

/-- On: what a run from there comes to, from here. -/
theorem St.trans {r r' : Gh} {H H' : AH} {W0 : Base} {W W' : World} (h : St r H W0 W) (h' : St r' H' (base r H W) W') : St r' H' W0 W' := by
  refine ⟨h'.hold, fun b i x hb hx hf => ?_, fun b i hb => ?_, fun b hb => h'.im0 b (h.im0 b hb), fun b hb => ?_, h'.os.trans h.os, h'.tape.trans h.tape, h'.output.trans h.output, Nat.le_trans h.size h'.size, fun b hb hz => ?_⟩
  · rcases h'.wr b i x hb hx hf with h1 | h1
    · left; have := h.size; have h1 : W.heap.size ≤ b := h1; omega
    · exact h.base_z h1
  · rcases h'.ob b i hb with h1 | h1 | h1
    · left; have := h.size; have h1 : W.heap.size ≤ b := h1; omega
    · rcases h.base_z h1 with h1 | h1
      · exact .inl h1
      · exact .inr (.inl h1)
    · exact h.ob b i h1
  · rcases h'.im1 b hb with h1 | h1
    · exact h.im1 b h1
    · right; have := h.size; have h1 : W.heap.size ≤ b := h1; omega
  · refine (h'.frame b (by have := h.size; show b < W.heap.size; omega) fun hz' => ?_).trans (h.frame b hb hz)
    rcases h.base_z hz' with h1 | h1
    · omega
    · exact hz h1

/-- Read alone: the world as it is here. -/
theorem St.toRd {r : Gh} {H : AH} {W0 : Base} {W : World} (h : St r H W0 W) : St r (H.map fun x => (x.1, 0)) (rd r W) W := by
  refine ⟨⟨fun i x hx => ?_, fun b i hb => by have := h.hold.ow b i hb; simpa using this, h.hold.imm, h.hold.imc⟩, fun b i x hb hx hf => ?_, fun b i hb => .inr (.inr hb), fun b hb => hb, fun b hb => .inl hb, rfl, rfl, rfl, Nat.le_refl _, fun _ _ _ => rfl⟩
  · rw [List.getElem?_map] at hx
    cases hy : H[i]? with
    | none => simp [hy] at hx
    | some y => simp [hy] at hx; subst hx; exact h.at_ i y hy
  · rw [List.getElem?_map] at hx
    cases hy : H[i]? with
    | none => simp [hy] at hx
    | some y => simp [hy] at hx; subst hx; exact absurd rfl hf

/-- Objects behind the first so many forgotten. -/
def cutO (r : Gh) (n : Nat) : Nat → Option Nat := fun b => match r.o b with | some i => if i < n then some i else none | none => none
theorem cutO_some {r : Gh} {n b i : Nat} : cutO r n b = some i ↔ r.o b = some i ∧ i < n := by
  unfold cutO
  cases h : r.o b with
  | none => simp
  | some j =>
    by_cases hj : j < n
    · simp only [hj, if_true, Option.some.injEq]
      constructor
      · rintro rfl; exact ⟨rfl, hj⟩
      · exact fun h => h.1
    · simp only [hj, if_false, Option.some.injEq]
      constructor
      · intro h; cases h
      · rintro ⟨rfl, h⟩; exact absurd h hj

theorem AO.holds.sameO {r : Gh} {o' : Nat → Option Nat} {w : World} {i : Nat} {a : AO} (h : a.holds r w i) (ho : ∀ b, o' b = some i ↔ r.o b = some i) : a.holds (r.withO o' r.im) w i := by
  have blk : a.blk = true → a.holds (r.withO o' r.im) w i := fun hb => by
    rw [AO.holds_blk hb] at h ⊢
    refine ⟨?_, fun b => (ho b).trans (h.2 b)⟩
    rw [show (a.conc (r.withO o' r.im)) = a.conc r from ?_]
    · exact h.1
    · cases a <;> simp only [AO.conc]
      rw [List.map_congr_left fun c _ => CV.conc_withO r o' r.im c]
  cases a with
  | cells cs t => exact blk rfl
  | raw o => exact blk rfl
  | abs k x => exact Rp.local h (fun _ hb => (ho _).2 hb) (fun _ hb => hb) fun _ _ => rfl
  | hand => exact fun b hb => h b ((ho b).1 hb)

theorem St.take {r : Gh} {H2 : AH} {W0 : Base} {W : World} (H : AH) (h : St r H2 W0 W) (he : H2.take H.length = H) : St (r.withO (cutO r H.length) r.im) H W0 W := by
  have hin : ∀ (i : Nat) (x : AO × Nat), H[i]? = some x → i < H.length ∧ H2[i]? = some x := fun i x hx => by
    have hi := (List.getElem?_eq_some_iff.1 hx).1
    refine ⟨hi, ?_⟩
    rw [← he, List.getElem?_take, if_pos hi] at hx
    exact hx
  refine ⟨⟨fun i x hx => ?_, fun b i hb => ?_, fun b hb => ?_, h.hold.imc⟩, fun b i x hb hx hf => ?_, fun b i hb => h.ob b i (cutO_some.1 hb).1, h.im0, h.im1, h.os, h.tape, h.output, h.size, h.frame⟩
  · obtain ⟨hi, hx2⟩ := hin i x hx
    exact (h.at_ i x hx2).sameO fun b => by rw [cutO_some]; exact ⟨fun h => h.1, fun h => ⟨h, hi⟩⟩
  · obtain ⟨h1, h2⟩ := cutO_some.1 hb
    exact ⟨h2, (h.hold.ow b i h1).2⟩
  · have := h.hold.imm b hb
    refine ⟨?_, this.2⟩
    show cutO r H.length b = none
    unfold cutO; rw [this.1]
  · obtain ⟨h1, h2⟩ := cutO_some.1 hb
    exact h.wr b i x h1 (hin i x hx).2 hf

theorem St.as {r : Gh} {H H2 : AH} {W0 : Base} {W : World} (h : St r H W0 W) (e : H = H2) : St r H2 W0 W := e ▸ h
theorem FrameOk.as {r : Gh} {F F2 : AF} {a : Act} (h : FrameOk r F a) (e : F = F2) : FrameOk r F2 a := e ▸ h

/-- The frame of a round, its element in its slot. -/
theorem FrameOk.round {r : Gh} {F : AF} {a : Act} (h : FrameOk r F a) (p : Tmp) (x : AV) {v : Value} (hx : x.conc r = v) :
    FrameOk r (F.set p x) { tmps := ((#[p].zip #[v]).foldl (fun t (p, v) => t.setIfInBounds p v) a.tmps), defers := [] } := by
  subst hx
  unfold FrameOk at *
  simp [h, List.map_set]

/-! ### For the laws on ranges over functions -/
def AO.isC : AO → Bool
  | .cells _ _ => true
  | _ => false

/-- Where all that may be written is cells, what is none stays. -/
theorem St.keepsOthers {r r' : Gh} {H H' : AH} {W0 : Base} {W W' : World} (h : St r H W0 W) (h' : St r' H' (base r H W) W') (hc : H.all (fun x => x.1.isC || Nat.beq x.2 0) = true) : KeepsOthers W W' := by
  refine ⟨h'.size, fun k o hk ho => ?_⟩
  refine (h'.frame k (Array.getElem?_eq_some_iff.1 hk).1 fun ⟨i, x, h1, h2, h3⟩ => ?_).trans hk
  have := List.all_eq_true.1 hc x (List.mem_of_getElem? h2)
  have hx := h.at_ i x h2
  cases hx1 : x.1 with
  | cells cs t =>
    rw [hx1] at hx
    rw [(hx.2 k).1 h1, hx.1] at hk
    simp only [Option.some.injEq] at hk
    rw [← hk] at ho; simp [Obj.isCells] at ho
  | _ => rw [hx1] at this; simp [AO.isC] at this; exact h3 this

/-- Nothing below n is turned, where what may be written lies at or beyond n. -/
theorem St.belowN {r r' : Gh} {H H' : AH} {W W' : World} {n : Nat} (h' : St r' H' (base r H W) W') (hn : n ≤ W.heap.size) (hr : ∀ (b i : Nat) (x : AO × Nat), r.o b = some i → H[i]? = some x → x.2 ≠ 0 → n ≤ b) : Below n W W' :=
  ⟨h'.os, h'.tape, h'.output, h'.size, fun k hk => h'.frame k (by show k < W.heap.size; omega) fun ⟨i, x, h1, h2, h3⟩ => by have := hr k i x h1 h2 h3; omega⟩

/-- It abides what is turned beyond, and is no cells. -/
theorem St.ownC {r : Gh} {H : AH} {W0 : Base} {W W' : World} {B : Nat} {row : Option Nat} (h : St r H W0 W) (hr : ∀ (b i : Nat) (x : AO × Nat), r.o b = some i → H[i]? = some x → x.1.isC = true ∨ b < B) (hB : W0.w.heap.size ≤ B)
    (hg : W.grownBy W' row) (hrow : ∀ k, row = some k → B ≤ k ∧ ∃ o : Obj, W.heap[k]? = some o ∧ o.isCells = false) : St r H W0 W' := by
  refine h.abide (fun b hb hc => hg.block b hb fun e => ?_) hg.os hg.tape hg.output hg.size
  obtain ⟨h1, o, h2, h3⟩ := hrow b e.symm
  rcases hc with ⟨i, hc⟩ | hc | hc
  · obtain ⟨x, hx⟩ : ∃ x, H[i]? = some x := ⟨H[i]'(h.hold.ow b i hc).1, List.getElem?_eq_getElem _⟩
    rcases hr b i x hc hx with h4 | h4
    · have hxa := h.at_ i x hx
      cases hx1 : x.1 with
      | cells cs t =>
        rw [hx1] at hxa
        rw [(hxa.2 b).1 hc, hxa.1] at h2
        simp only [Option.some.injEq] at h2
        rw [← h2] at h3; simp [Obj.isCells] at h3
      | _ => rw [hx1] at h4; simp [AO.isC] at h4
    · omega
  · obtain ⟨c4, t4, f4, h4⟩ := h.hold.imc b hc
    rw [h2] at h4; cases h4; simp [Obj.isCells] at h3
  · omega

/-- All of it is cells. -/
def allC (H : AH) : Bool := H.all fun x => x.1.isC
theorem allC_at {H : AH} (h : allC H = true) {r : Gh} {B : Nat} (b i : Nat) (x : AO × Nat) (_ : r.o b = some i) (hx : H[i]? = some x) : x.1.isC = true ∨ b < B := .inl (List.all_eq_true.1 h x (List.mem_of_getElem? hx))

def allB (H : AH) : Bool := H.all fun x => x.1.blk

/-- What never turns is what never turned at the run's beginning. -/
theorem St.dropIm {r : Gh} {H : AH} {W0 : Base} {W : World} (h : St r H W0 W) (hb : allB H = true) : St (r.withO r.o W0.im) H W0 W := by
  refine ⟨⟨fun i x hx => ?_, h.hold.ow, fun b hbi => h.hold.imm b (h.im0 b hbi), fun b hbi => h.hold.imc b (h.im0 b hbi)⟩, h.wr, h.ob, fun _ hbi => hbi, fun _ hbi => .inl hbi, h.os, h.tape, h.output, h.size, h.frame⟩
  have hx' := h.at_ i x hx
  have hxb := List.all_eq_true.1 hb x (List.mem_of_getElem? hx)
  rw [AO.holds_blk hxb] at hx' ⊢
  rw [AO.conc_withO]
  exact hx'

/-- The same objects in a later world, by the numbers that they had. -/
theorem St.goBack {r r' : Gh} {H : AH} {W0 : Base} {W W' : World} (h : St r H W0 W) (h' : St r' H W0 W') (hag : Agree H.length r r') (hsc : H.scB = true) (hb : allB H = true) (him : ∀ b, r.im b → W0.im b) : St r H W0 W' := by
  refine ⟨⟨fun i x hx => ?_, fun b i hbi => ?_, fun b hbi => ?_, fun b hbi => h'.hold.imc b (h'.im0 b (him b hbi))⟩, h.wr, h.ob, h.im0, h.im1, h'.os, h'.tape, h'.output, h'.size, h'.frame⟩
  · have hi := (List.getElem?_eq_some_iff.1 hx).1
    have hxb := List.all_eq_true.1 hb x (List.mem_of_getElem? hx)
    have h1 := h'.at_ i x hx
    have h2 := h.at_ i x hx
    rw [AO.holds_blk hxb] at h1 h2 ⊢
    rw [hag.b i hi, AO.conc_agree hag (List.all_eq_true.1 hsc x (List.mem_of_getElem? hx))] at h1
    exact ⟨h1.1, h2.2⟩
  · have h1 := h.hold.ow b i hbi
    obtain ⟨x, hx⟩ : ∃ x, H[i]? = some x := ⟨H[i]'h1.1, List.getElem?_eq_getElem _⟩
    have hxb := List.all_eq_true.1 hb x (List.mem_of_getElem? hx)
    have h2 := (h.ownB hx hxb b).1 hbi
    have h3 := h'.lt hx hxb
    rw [hag.b i h1.1] at h3
    exact ⟨h1.1, by rw [h2]; exact h3⟩
  · exact ⟨(h.hold.imm b hbi).1, (h'.hold.imm b (h'.im0 b (him b hbi))).2⟩

/-- The same, what they hold turned. -/
theorem St.goBack' {r r' : Gh} {H H2 : AH} {W0 : Base} {W W' : World} (h : St r H W0 W) (h' : St r' H2 W0 W') (hag : Agree H.length r r') (hsc : H2.scB = true) (hb : allB H = true) (hb2 : allB H2 = true) (hl : Nat.beq H2.length H.length = true) (hfl : H2.map (·.2) = H.map (·.2)) (him : ∀ b, r.im b → W0.im b) : St r H2 W0 W' := by
  have hl := Nat.eq_of_beq_eq_true hl
  have hflag : ∀ (i : Nat) (x : AO × Nat), H2[i]? = some x → ∃ y, H[i]? = some y ∧ x.2 = y.2 := fun i x hx => by
    have := congrArg (·[i]?) hfl
    simp only [List.getElem?_map, hx, Option.map_some] at this
    cases hy : H[i]? with
    | none => simp [hy] at this
    | some y => simp [hy] at this; exact ⟨y, rfl, this⟩
  refine ⟨⟨fun i x hx => ?_, fun b i hbi => ?_, fun b hbi => ?_, fun b hbi => h'.hold.imc b (h'.im0 b (him b hbi))⟩, fun b i x hbi hx hf => ?_, h.ob, h.im0, h.im1, h'.os, h'.tape, h'.output, h'.size, h'.frame⟩
  · have hi := (List.getElem?_eq_some_iff.1 hx).1
    obtain ⟨y, hy, -⟩ := hflag i x hx
    have hxb := List.all_eq_true.1 hb2 x (List.mem_of_getElem? hx)
    have hyb := List.all_eq_true.1 hb y (List.mem_of_getElem? hy)
    have h1 := h'.at_ i x hx
    have h2 := h.at_ i y hy
    rw [AO.holds_blk hxb] at h1 ⊢
    rw [AO.holds_blk hyb] at h2
    rw [hag.b i (by omega), AO.conc_agree hag (by have := List.all_eq_true.1 hsc x (List.mem_of_getElem? hx); rw [hl] at this; exact this)] at h1
    exact ⟨h1.1, h2.2⟩
  · have h1 := h.hold.ow b i hbi
    obtain ⟨x, hx⟩ : ∃ x, H2[i]? = some x := ⟨H2[i]'(by omega), List.getElem?_eq_getElem _⟩
    obtain ⟨y, hy⟩ : ∃ y, H[i]? = some y := ⟨H[i]'h1.1, List.getElem?_eq_getElem _⟩
    have hxb := List.all_eq_true.1 hb2 x (List.mem_of_getElem? hx)
    have hyb := List.all_eq_true.1 hb y (List.mem_of_getElem? hy)
    have h2 := (h.ownB hy hyb b).1 hbi
    have h3 := h'.lt hx hxb
    rw [hag.b i h1.1] at h3
    exact ⟨by omega, by rw [h2]; exact h3⟩
  · exact ⟨(h.hold.imm b hbi).1, (h'.hold.imm b (h'.im0 b (him b hbi))).2⟩
  · obtain ⟨y, hy, e⟩ := hflag i x hx
    exact h.wr b i y hbi hy (by rw [← e]; exact hf)

def CV.scp (n : Nat) : CV → Bool
  | .sl _ => false
  | .el _ _ _ _ => false
  | c => c.sc n
def AV.scp (n : Nat) : AV → Bool
  | .tv t => t.cells.all (CV.scp n)
  | .tup l => l.all fun t => t.cells.all (CV.scp n)
theorem CV.conc_agreeB {n : Nat} {r r' : Gh} (h : ∀ i, i < n → r'.b i = r.b i) {c : CV} (hc : c.scp n = true) : c.conc r' = c.conc r := by
  cases c with
  | rig v => rfl
  | ptr i o => simp only [CV.scp, CV.sc, Nat.blt_eq] at hc; simp [CV.conc, h i hc]
  | slc i o n c => simp only [CV.scp, CV.sc, Nat.blt_eq] at hc; simp [CV.conc, h i hc]
  | mp i => simp only [CV.scp, CV.sc, Nat.blt_eq] at hc; simp [CV.conc, h i hc]
  | clo f caps =>
    simp only [CV.scp, CV.sc, List.all_eq_true, Nat.blt_eq] at hc
    simp only [CV.conc]
    congr 2
    exact List.map_congr_left fun p hp => by rw [h p.1 (hc p hp)]
  | sl i => cases hc
  | el i k z o => cases hc
theorem AV.conc_agreeB {n : Nat} {r r' : Gh} (h : ∀ i, i < n → r'.b i = r.b i) {v : AV} (hv : v.scp n = true) : v.conc r' = v.conc r := by
  have ht : ∀ t : TV, t.cells.all (CV.scp n) = true → t.conc r' = t.conc r := fun t ht => by
    cases t with
    | one c => exact CV.conc_agreeB h (by simpa [TV.cells] using ht)
    | agg l =>
      simp only [TV.conc]
      congr 2
      exact List.map_congr_left fun c hc => CV.conc_agreeB h (List.all_eq_true.1 ht c hc)
  cases v with
  | tv t => exact ht t hv
  | tup l =>
    simp only [AV.conc]
    rw [List.map_congr_left fun t hm => ht t (List.all_eq_true.1 hv t hm)]
theorem FrameOk.agreeB {r r' : Gh} {F : AF} {a : Act} (h : FrameOk r F a) {n : Nat} (hag : ∀ i, i < n → r'.b i = r.b i) (hs : F.all (AV.scp n) = true) : FrameOk r' F a := by
  unfold FrameOk at *
  rw [h]
  congr 1
  exact List.map_congr_left fun v hv => (AV.conc_agreeB hag (List.all_eq_true.1 hs v hv)).symm

/-- A block more that is known. -/
theorem St.more {r : Gh} {H : AH} {W0 : Base} {W : World} (h : St r H W0 W) (hsc : H.scB = true) {D : Nat} (o : AO) (hbk : o.blk = true) (ho : W.heap[D]? = some (o.conc (bump r H.length D))) (hne : r.o D = none) (hni : ¬ r.im D) (hD : W0.w.heap.size ≤ D) : St (bump r H.length D) (H ++ [(o, 1)]) W0 W := by
  have hlt := (Array.getElem?_eq_some_iff.1 ho).1
  refine h.change (bump_agree r H.length D) hsc (fun i => i = H.length) (fun i x hx hu => ?_) (fun i x hx hu => ?_) (fun b i hu => ?_) (fun b i x hb hu hx hf => ?_) (fun b i hb hu => ?_) (fun b i hb => ?_) (fun b hb => hb) (fun b hb => .inl hb) (fun b hb => ?_) (fun b hb => .inl hb) (fun b _ => rfl) (fun b _ _ => rfl) rfl rfl rfl (Nat.le_refl _)
  · rw [getElem?_snoc, if_neg hu] at hx; exact hx
  · subst hu
    rw [getElem?_snoc, if_pos rfl] at hx
    cases hx
    rw [AO.holds_blk hbk]
    simp only [bump, if_true]
    refine ⟨ho, fun b => ?_⟩
    by_cases e : b = D
    · simp [e]
    · simp only [e, if_false, iff_false]
      intro hb
      have := (h.hold.ow b _ hb).1; omega
  · simp only [bump]
    by_cases e : b = D
    · rw [if_pos e, e, hne]; simp; omega
    · rw [if_neg e]
  · subst hu
    simp only [bump] at hb
    by_cases e : b = D
    · left; omega
    · rw [if_neg e] at hb
      have := (h.hold.ow b _ hb).1; omega
  · subst hu
    simp only [bump] at hb
    by_cases e : b = D
    · left; omega
    · rw [if_neg e] at hb
      have := (h.hold.ow b _ hb).1; omega
  · simp only [bump] at hb
    by_cases e : b = D
    · rw [if_pos e] at hb; cases hb; simp; omega
    · rw [if_neg e] at hb
      have := h.hold.ow b i hb
      simp; omega
  · have := h.hold.imm b hb
    simp only [bump]
    rw [if_neg (fun e => hni (by rw [← e]; exact hb))]
    exact this

/-- A function's end behind a range over a function. -/
theorem marksPost {n : Nat} {fn : Func} {F : AF} {H : AH} {v : AV} {r : Gh} {a : Act} {W0 : Base} {W : World} {R : Ending → World → Prop} (iD : Nat) (hsc : H.scB = true) (hx : H[iD]? = some (.raw (.deferred (some [])), 1)) (hv : retA P fn F (H.set iD (.raw (.deferred none), 1)) = some v)
    (hF : FrameOk r F a) (hst : St r H W0 W) (hd : a.defers = [{ target := .collected (r.b iD), args := #[] }]) (hR : ∀ W', St r (H.set iD (.raw (.deferred none), 1)) W0 W' → R (.returned (v.conc r)) W') :
    bodyPostM (Fw none) n P fn R .ret a W ∧ bodyPostM (Fw none) n P fn R .normal a W := by
  have hk : W.heap[r.b iD]? = some (.deferred (some [])) := hst.blk hx rfl
  have hst' : St r (H.set iD (.raw (.deferred none), 1)) W0 (W.putObj (r.b iD) (.deferred none)) := by
    have hlt := (Array.getElem?_eq_some_iff.1 hk).1
    refine St.turn hst hsc hx rfl (.raw (.deferred none)) rfl (World.putObj_heap_same hlt) (fun b hb => World.putObj_heap_other hb) rfl rfl rfl (by simp) (by simp)
  have key : LeavesInM (Fw none) n P fn a.tmps R a.defers .returning W := by
    rw [hd]
    exact ⟨by simp, .inl ⟨_, _, rfl, run_takeDeferred hk, ⟨_, retA_run hv hF hst', hR _ hst'⟩⟩⟩
  exact ⟨key, key⟩

/-! ### Code by a run, what it comes to unwritten -/
abbrev KX := Option (RX × AF × AH × List Dec × List Prop)
def KX.x : KX → Option RX | some y => some y.1 | none => none
def KX.F : KX → AF | some y => y.2.1 | none => []
def KX.H : KX → AH | some y => y.2.2.1 | none => []
def KX.ps : KX → List Prop | some y => y.2.2.2.2 | none => [False]
def runC (P : Program) (T : CT P) (k : List KI) (F : AF) (H : AH) (D : List Dec) : KX := runK P T 100000 k F H D

theorem code_wp (hmx : P.follows .mixedOrders = true) {ro : Option Nat} {n : Nat} {Q : Exit → Act → World → Prop} {W0 : Base} (T : CT P) (D : List Dec) (qs : List Prop) (x : RX) {c : Code} {F : AF} {H : AH}
    (hx : (runC P T [.code c] F H D).x = some x) (hq : (runC P T [.code c] F H D).ps = qs) (hqs : Holds qs) {r : Gh} {a : Act} {w : World} (hF : FrameOk r F a) (hst : St r H W0 w)
    (hQ : ∀ r' w' a', Agree H.length r r' → St r' (runC P T [.code c] F H D).H W0 w' → FrameOk r' (runC P T [.code c] F H D).F a' → a'.defers = a.defers → x.fin ro n P Q a' w') : c.wpIn (Fw ro) n P Q a w := by
  have e : runK P T 100000 [.code c] F H D = some (x, (runC P T [.code c] F H D).F, (runC P T [.code c] F H D).H, ((runK P T 100000 [.code c] F H D).map (·.2.2.2.1)).getD [], qs) := by
    rw [← hq]
    unfold runC at hx ⊢
    cases h : runK P T 100000 [.code c] F H D with
    | none => rw [h] at hx; cases hx
    | some y => rw [h] at hx; cases hx; rfl
  exact runK_wp hmx _ _ _ _ _ _ _ _ _ _ e hqs r a w hF hst hQ


abbrev FX := Option (AV × AH × List Prop)
def FX.v : FX → Option AV | some y => some y.1 | none => none
def FX.H : FX → AH | some y => y.2.1 | none => []
def FX.ps : FX → List Prop | some y => y.2.2 | none => [False]
def runF (P : Program) (T : CT P) (f : FuncId) (args : List AV) (H : AH) (D : List Dec) : FX := fnA P T f args H D

theorem AV.conc_eq {n : Nat} {r r' : Gh} (h : Agree n r r') {v : AV} (hv : v.sc n = true) : v.conc r' = v.conc r := AV.conc_agree h hv

/-- A function that turns objects that are known, and hands back what speaks of these alone. -/
theorem fnA_keep (hmx : P.follows .mixedOrders = true) (T : CT P) {f : FuncId} {args : List AV} {H : AH} (D : List Dec) (v : AV) (ps : List Prop) (Hk : AH) (hv : (runF P T f args H D).v = some v) (hq : (runF P T f args H D).ps = ps) (hps : Holds ps)
    (hk : (runF P T f args H D).H.take Hk.length = Hk) (_hl : Nat.beq Hk.length H.length = true) (hsc : v.sc H.length = true) {r : Gh} {W0 : Base} {w : World} (hst : St r H W0 w) :
    Calls P f (args.map (AV.conc r)).toArray w fun e w' => e = .returned (v.conc r) ∧ ∃ r', Agree H.length r r' ∧ St r' Hk W0 w' := by
  have e : fnA P T f args H D = some (v, (runF P T f args H D).H, ps) := by
    rw [← hq]
    unfold runF at hv ⊢
    cases h : fnA P T f args H D with
    | none => rw [h] at hv; cases hv
    | some y => rw [h] at hv; cases hv; rfl
  refine (fnA_calls hmx e hps hst).mono ?_
  rintro x w' ⟨r', hag, rfl, hst'⟩
  exact ⟨by rw [AV.conc_eq hag hsc], _, hag.trans (Agree.withO H.length r' _ _) (Nat.le_refl _), St.take Hk hst' hk⟩

/-- A function by a run: what comes out, and what has become of memory. -/
theorem fnA_out (hmx : P.follows .mixedOrders = true) (T : CT P) {f : FuncId} {args : List AV} {H : AH} (D : List Dec) (v : AV) (ps : List Prop) (Hk : AH) (hv : (runF P T f args H D).v = some v) (hq : (runF P T f args H D).ps = ps) (hps : Holds ps)
    (hk : (runF P T f args H D).H.take Hk.length = Hk) {r : Gh} {W0 : Base} {w : World} (hst : St r H W0 w) :
    Calls P f (args.map (AV.conc r)).toArray w fun e w' => ∃ r', Agree H.length r r' ∧ e = .returned (v.conc r') ∧ St r' Hk W0 w' := by
  have e : fnA P T f args H D = some (v, (runF P T f args H D).H, ps) := by
    rw [← hq]
    unfold runF at hv ⊢
    cases h : fnA P T f args H D with
    | none => rw [h] at hv; cases hv
    | some y => rw [h] at hv; cases hv; rfl
  refine (fnA_calls hmx e hps hst).mono ?_
  rintro x w' ⟨r', hag, rfl, hst'⟩
  exact ⟨_, hag.trans (Agree.withO H.length r' _ _) (Nat.le_refl _), by rw [AV.conc_withO], St.take Hk hst' hk⟩

end Go.Proofs.Ytobonipmnidadaa
