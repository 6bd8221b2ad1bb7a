/- The executor, sixteenth part: operations laid beside by tables: build, min, max, a map's length. -/
import Derived.Test.YtodcebpdmjdplaaVF
import Derived.Laws.Tables
namespace Go.Proofs.Ytodcebpdmjdplaa
open Go.RowKit
variable {P : Program}

theorem fold_sets (off : Nat) : ∀ (vs : List Value) (k : Nat) (A : Array Value), off + k + vs.length ≤ A.size →
    ((vs.zipIdx k).foldl (fun (cs : Array Value) p => cs.setIfInBounds (off + p.2) p.1) A).size = A.size ∧
    ∀ i, ((vs.zipIdx k).foldl (fun (cs : Array Value) p => cs.setIfInBounds (off + p.2) p.1) A)[i]? = if off + k ≤ i ∧ i < off + k + vs.length then vs[i - (off + k)]? else A[i]?
  | [], k, A, _ => ⟨rfl, fun i => by rw [if_neg (by simp)]; rfl⟩
  | v :: vs, k, A, h => by
    simp only [List.length_cons] at h
    obtain ⟨h1, h2⟩ := fold_sets off vs (k + 1) (A.setIfInBounds (off + k) v) (by simp; omega)
    simp only [List.zipIdx_cons, List.foldl_cons]
    refine ⟨by rw [h1]; simp, fun i => ?_⟩
    rw [h2 i]
    simp only [List.length_cons]
    by_cases e : i = off + k
    · subst e
      rw [if_neg (by omega), if_pos (by omega), Nat.sub_self]
      simp [show off + k < A.size by omega]
    · by_cases hr : off + (k + 1) ≤ i ∧ i < off + (k + 1) + vs.length
      · rw [if_pos hr, if_pos (by omega), show i - (off + k) = (i - (off + (k + 1))) + 1 by omega]
        simp
      · rw [if_neg hr, if_neg (by omega), Array.getElem?_setIfInBounds, if_neg (fun x => e x.symm)]

def fillA (place : Nat → Option (Nat × Nat)) : List CV → List (Nat × TV) → Option (List CV)
  | cs, [] => some cs
  | cs, p :: rest => match place p.1 with
    | some q => cond (Nat.beq p.2.cells.length q.2 && Nat.ble (q.1 + p.2.cells.length) cs.length && p.2.fits) (fillA place (cs.take q.1 ++ p.2.cells ++ cs.drop (q.1 + p.2.cells.length)) rest) none
    | none => none

theorem fillA_conc {place : Nat → Option (Nat × Nat)} (r : Nat → Nat) : ∀ (parts : List (Nat × TV)) (cs cs' : List CV), fillA place cs parts = some cs' →
    Instr.fill place (cs.map (CV.conc r)).toArray (parts.map fun p => (p.1, p.2.conc r)) = some (cs'.map (CV.conc r)).toArray
  | [], cs, cs', h => by simp [fillA] at h; subst h; rfl
  | p :: rest, cs, cs', h => by
    unfold fillA at h
    cases hp : place p.1 with
    | none => simp [hp] at h
    | some q =>
      simp only [hp] at h
      cases hc : (Nat.beq p.2.cells.length q.2 && Nat.ble (q.1 + p.2.cells.length) cs.length && p.2.fits) with
      | false => simp [hc] at h
      | true =>
        simp only [hc, cond_true] at h
        simp only [Bool.and_eq_true, Nat.beq_eq, Nat.ble_eq] at hc
        obtain ⟨⟨h1, h2⟩, h3⟩ := hc
        have ih := fillA_conc r rest _ _ h
        simp only [List.map_cons, Instr.fill, hp]
        have hcells := TV.cells_conc h3 r
        rw [hcells]
        have hsz : ((List.map (CV.conc r) p.2.cells).toArray.size ≠ q.2 || q.1 + (List.map (CV.conc r) p.2.cells).toArray.size > (cs.map (CV.conc r)).toArray.size) = false := by
          simp; omega
        simp only [hsz, Bool.false_eq_true, if_false]
        rw [← ih]
        congr 1
        obtain ⟨f1, f2⟩ := fold_sets q.1 (p.2.cells.map (CV.conc r)) 0 (cs.map (CV.conc r)).toArray (by simp; omega)
        have e : ∀ (A : Array Value) (l : List Value), (l.toArray.zipIdx).foldl (fun (cs : Array Value) (x : Value × Nat) => match x with | (c, j) => cs.setIfInBounds (q.1 + j) c) A = (l.zipIdx 0).foldl (fun (cs : Array Value) p => cs.setIfInBounds (q.1 + p.2) p.1) A := fun A l => by
          rw [← Array.foldl_toList]
          simp
        rw [e]
        apply Array.ext_getElem?
        intro i
        rw [f2 i]
        simp only [Nat.add_zero, List.length_map, List.getElem?_toArray, List.map_append, List.map_take, List.map_drop, Nat.zero_add]
        by_cases hi : i < q.1
        · rw [if_neg (by omega), List.append_assoc, List.getElem?_append_left (by simp; omega), List.getElem?_take, if_pos hi]
        · by_cases hi2 : i < q.1 + p.2.cells.length
          · rw [if_pos (by omega), List.append_assoc, List.getElem?_append_right (by simp; omega), List.getElem?_append_left (by simp; omega)]
            congr 1
            simp; omega
          · rw [if_neg (by omega), List.getElem?_append_right (by simp; omega), List.getElem?_drop]
            congr 1
            simp; omega

def partsA (ev : Operand → AV) : List (Nat × Operand) → Option (List (Nat × TV))
  | [] => some []
  | p :: l => match ev p.2 with
    | .tv u => match partsA ev l with
      | some m => some ((p.1, u) :: m)
      | none => none
    | .tup _ => none

theorem partsA_conc {ev : Operand → AV} {ρ : Operand → Value} {r : Nat → Nat} : ∀ (l : List (Nat × Operand)) (m : List (Nat × TV)), partsA ev l = some m → (∀ p ∈ l, ρ p.2 = (ev p.2).conc r) →
    (l.map fun p => (p.1, ρ p.2)) = m.map fun p => (p.1, p.2.conc r)
  | [], m, h, _ => by simp [partsA] at h; subst h; rfl
  | p :: l, m, h, hev => by
    unfold partsA at h
    cases hp : ev p.2 with
    | tup _ => simp [hp] at h
    | tv u =>
      cases hm : partsA ev l with
      | none => simp [hp, hm] at h
      | some m' =>
        simp [hp, hm] at h
        subst h
        have h0 := hev p (by simp)
        simp only [List.map_cons, partsA_conc l m' hm fun q hq => hev q (by simp [hq])]
        rw [h0, hp]
        rfl

def buildA (P : Program) (t : TypeId) (parts : List (Nat × TV)) : Option (List CV) :=
  match P.info? t, P.underlying t with
  | some it, some (.struct fields) =>
    match it.zero, fields.toList.mapM (fun f => (P.info? f.type).map fun i => (f.offset, i.size)) with
    | some z, some places => fillA (places[·]?) (z.cells.toList.map .rig) parts
    | _, _ => none
  | some it, some (.array _ e) =>
    match it.zero, P.info? e with
    | some z, some ie => fillA (fun i => some (i * ie.size, ie.size)) (z.cells.toList.map .rig) parts
    | _, _ => none
  | _, _ => none

theorem buildA_run {t : TypeId} {parts : List (Nat × TV)} {cs : List CV} (h : buildA P t parts = some cs) (r : Nat → Nat) (w : World) (ps : Array (Nat × Value)) (hps : ps.toList = parts.map fun p => (p.1, p.2.conc r)) :
    (Instr.build t ps).run P w = .ok (.agg (cs.map (CV.conc r)).toArray) w := by
  refine run_build w t ps _ ?_
  unfold buildA at h
  unfold Program.built
  split at h
  · rename_i it fields hi hu
    split at h
    · rename_i z places hz hp
      simp only [hi, hu, hz, hp, hps]
      have := fillA_conc r parts _ _ h
      simpa [CV.conc, Function.comp_def] using this
    · simp at h
  · rename_i it n e hi hu
    split at h
    · rename_i z ie hz hp
      simp only [hi, hu, hz, hp, hps]
      have := fillA_conc r parts _ _ h
      simpa [CV.conc, Function.comp_def] using this
    · simp at h
  · simp at h

/-- The least, the greatest, of two. -/
def minmaxA (b : Builtin) (x y : AV) : Option AV :=
  match b, x, y with
  | .min, .tv (.one (.rig (.int k a))), .tv (.one (.rig (.int k' c))) => cond (kindB k k') (some (.r (.int k (min a c)))) none
  | .max, .tv (.one (.rig (.int k a))), .tv (.one (.rig (.int k' c))) => cond (kindB k k') (some (.r (.int k (max a c)))) none
  | _, _, _ => none

/-- Operations laid beside. -/
def baseQ (P : Program) (ev : Operand → AV) (H : AH) (op : Op) : Option (AV × List Nat × Option Prop) :=
  match op with
  | .build t ps => match partsA ev ps.toList with
    | some m => match buildA P t m with
      | some cs => some (.tv (.agg cs), [], none)
      | none => none
    | none => none
  | .call c => match c.callee, c.args.toList, c.argTypes.toList with
    | .builtin b, [x, y], _ => match minmaxA b (ev x) (ev y) with
      | some v => some (v, [], none)
      | none => none
    | .builtin .len, [x], [t] => match ev x, P.underlying t with
      | .tv (.one (.mp i)), some (.map _ _) => match H[i]? with
        | some (.raw (.map es _), _) => some (.r (.int .i64 es.size), [i], none)
        | _ => none
      | _, _ => none
    | _, _, _ => none
  | _ => none

theorem baseQ_run {ev : Operand → AV} {H : AH} {o : Oper} {v : AV} {ft : List Nat} {pr : Option Prop} (h : baseQ P ev H o.op = some (v, ft, pr)) 
    {ρ : Operand → Value} {r : Nat → Nat} {w : World} (hev : ∀ x ∈ o.op.operands, ρ x = (ev x).conc r) (hat : ∀ i ∈ ft, ∀ x, H[i]? = some x → w.heap[r i]? = some (x.1.conc r)) :
    (execOp ρ o).run P w = .ok (.value (v.conc r)) w := by
  unfold execOp
  cases ho : o.op <;> rw [ho] at h hev <;> simp only [baseQ] at h <;> first | (cases h; done) | skip
  case build t ps =>
    cases hm : partsA ev ps.toList with
    | none => simp [hm] at h
    | some m =>
      cases hc : buildA P t m with
      | none => simp [hm, hc] at h
      | some cs =>
        simp [hm, hc] at h
        obtain ⟨rfl, -⟩ := h
        have hps := partsA_conc (ρ := ρ) (r := r) _ _ hm fun p hp => hev p.2 (by simp only [Op.operands]; simp; exact ⟨p.1, by simpa using hp⟩)
        have := buildA_run hc r w (ps.map fun (i, x) => (i, ρ x)) (by rw [← hps]; simp)
        simp only [Sem.run_bind, this]
        rfl
  case call c =>
    split at h
    · rename_i b x y h1 h2
      cases hv : minmaxA b (ev x) (ev y) with
      | none => simp [hv] at h
      | some u =>
        simp [hv] at h
        obtain ⟨rfl, -⟩ := h
        have hargs : c.args = #[x, y] := by cases hc : c.args; simp_all
        have hx : ρ x = (ev x).conc r := hev x (by simp [Op.operands, Call.operands, h1, hargs])
        have hy : ρ y = (ev y).conc r := hev y (by simp [Op.operands, Call.operands, h1, hargs])
        unfold minmaxA at hv
        split at hv
        · rename_i k a k' c' e1 e2
          cases hk : kindB k k' with
          | false => simp [hk] at hv
          | true =>
            have := kindB_eq hk; subst this
            simp [hk] at hv; subst hv
            simp [resolve, invoke, builtin, h1, hargs, hx, hy, e1, e2, AV.conc, TV.conc, CV.conc, Builtin.min_, Builtin.min2]
            omega
        · rename_i k a k' c' e1 e2
          cases hk : kindB k k' with
          | false => simp [hk] at hv
          | true =>
            have := kindB_eq hk; subst this
            simp [hk] at hv; subst hv
            simp [resolve, invoke, builtin, h1, hargs, hx, hy, e1, e2, AV.conc, TV.conc, CV.conc, Builtin.max_, Builtin.max2]
            omega
        · simp at hv
    · rename_i x t h1 h2 h3
      split at h
      · rename_i i k e hx hu
        split at h
        · rename_i es cl f hH
          simp at h
          obtain ⟨rfl, rfl, -⟩ := h
          have hargs : c.args = #[x] := by cases hc : c.args; simp_all
          have hat' : c.argTypes = #[t] := by cases hc : c.argTypes; simp_all
          have hx' : ρ x = (ev x).conc r := hev x (by simp [Op.operands, Call.operands, h1, hargs])
          have hb := hat i (by simp) _ hH
          simp [resolve, invoke, builtin, h1, hargs, hat', hx', hx, AV.conc, TV.conc, CV.conc, Builtin.len_, run_underlying hu, goInt, getObj, Sem.run, hb, AO.conc]
        · simp at h
      · simp at h
    · simp at h

/-- The empty table and these. -/
def CT.base (P : Program) : CT P := (CT.none P).addOq (baseQ P) fun ev H o v ft pr h _ ρ r w hev hat => baseQ_run h hev hat

end Go.Proofs.Ytodcebpdmjdplaa
