/- The executor, seventh part: tokens of a path, and one operation of a region: what it asks, and that its rule follows. -/
import Derived.Test.YtodcebpdmjdplaaV6
namespace Go.Proofs.Ytodcebpdmjdplaa
open Go.RowKit
variable {P : Program}

/-- What the prover says on the way. 's': a slot's Bool is this one (at an operation with a guard) · 'c': the same at a branch · 'q': what an operation that leaves the world alone comes to · 'k': what a call that only makes memory comes to · 'x': what a call comes to that turns blocks and makes some · 'e': the same of an operation · 'l': what a load comes to whose place is no numeral · 'u': the loop that comes is walked round by round, at most so many more. -/
inductive Dec where
  | s (key slot : Nat) (d : Bool)
  | c (slot : Nat) (d : Bool)
  | q (key : Nat) (v : AV) (foot : List Nat)
  | k (key : Nat) (v : AV) (foot : List Nat)
  | x (key : Nat) (v : AV) (upd : List (Nat × AO)) (new : List AO)
  | e (key : Nat) (v : AV) (upd : List (Nat × AO)) (new : List AO)
  | l (key : Nat) (v : TV)
  | u (m : Nat)

abbrev AF := List AV

def AF.ev (F : AF) : Operand → AV
  | .tmp t => F.getD t .undef
  | .const v => .r v
  | .global g => .r (.pointer (some ⟨g, 0, none⟩))
  | .func f => .r (.func (.func f) #[] #[])

/-- The frame holds these. -/
def FrameOk (r : Nat → Nat) (F : AF) (a : Act) : Prop := a.tmps = (F.map (AV.conc r)).toArray

theorem undef_conc (r : Nat → Nat) : AV.undef.conc r = undef := rfl

theorem getD_conc (r : Nat → Nat) (F : AF) (t : Nat) : (F.map (AV.conc r)).toArray.getD t undef = (F.getD t .undef).conc r := by
  rw [← undef_conc r]
  simp only [Array.getD_eq_getD_getElem?, List.getElem?_toArray, List.getElem?_map, List.getD_eq_getElem?_getD]
  cases F[t]? <;> rfl

theorem FrameOk.eval {r : Nat → Nat} {F : AF} {a : Act} (h : FrameOk r F a) (x : Operand) : a.eval x = (F.ev x).conc r := by
  cases x with
  | tmp t => simp only [Act.eval, AF.ev]; rw [h]; exact getD_conc r F t
  | const v => rfl
  | global g => rfl
  | func f => rfl

def putF (F : AF) (d : Option Tmp) (v : AV) : AF :=
  match d with
  | some d => F.set d v
  | none => F

theorem FrameOk.put {r : Nat → Nat} {F : AF} {a : Act} (h : FrameOk r F a) (d : Option Tmp) (v : AV) : FrameOk r (putF F d v) (a.put d (v.conc r)) := by
  unfold FrameOk at *
  cases d with
  | none => exact h
  | some d => simp only [Act.put, putF, h]; simp [List.map_set]

def AF.scB (n : Nat) (F : AF) : Bool := F.all (AV.sc n)
theorem FrameOk.agree {r r' : Nat → Nat} {F : AF} {a : Act} (h : FrameOk r F a) {n : Nat} (hag : Agree n r r') (hs : F.scB n = true) : FrameOk r' F a := by
  unfold FrameOk at *
  rw [h]
  congr 1
  exact List.map_congr_left fun v hv => (AV.conc_agree hag (List.all_eq_true.1 hs v hv)).symm

/-! ### Calls -/
/-- Who is called, with what. -/
def callA (ev : Operand → AV) (c : Call) : Option (FuncId × List AV) :=
  match c.callee with
  | .value fo => match ev fo with
    | .tv (.one (.rig (.func (.func f) a b))) => match a.size, b.size with
      | 0, 0 => some (f, c.args.toList.map ev)
      | _, _ => none
    | .tv (.one (.clo f caps)) => some (f, c.args.toList.map ev ++ caps.map fun p => .c (.ptr p.1 p.2))
    | _ => none
  | _ => none

/-- A function's body is there. -/
def bodyB (P : Program) (f : FuncId) : Bool :=
  match P.funcs[f]? with
  | some fn => fn.body.isSome && fn.name != "runtime.NumGoroutine"
  | none => false

theorem callFunc_run {f : FuncId} (h : bodyB P f = true) (args : Array Value) (w : World) : (callFunc f args).run P w = .ok (.enter f args) w := by
  unfold bodyB at h
  cases hf : P.funcs[f]? with
  | none => simp [hf] at h
  | some fn =>
    simp only [hf, Bool.and_eq_true, bne_iff_ne, ne_eq] at h
    simp only [callFunc, Sem.run_bind, run_program, Result.andThen_ok, hf]
    have h1 : (fn.name == "runtime.NumGoroutine") = false := by simpa using h.2
    have h2 : fn.body.isNone = false := by cases hb : fn.body <;> simp_all
    simp [h1, h2]

/-- What becomes of memory at a call: blocks turned, blocks made. -/
structure Moves (r r' : Nat → Nat) (n : Nat) (upd : List (Nat × AO)) (new : List AO) (w w' : World) : Prop where
  upd_ : ∀ i o, (i, o) ∈ upd → w'.heap[r i]? = some (o.conc r')
  new_ : ∀ j o, new[j]? = some o → w'.heap[r' (n + j)]? = some (o.conc r')
  fresh : ∀ j, j < new.length → w.heap.size ≤ r' (n + j)
  apart : ∀ j k, j < new.length → k < new.length → r' (n + j) = r' (n + k) → j = k
  os : w'.os = w.os
  tape : w'.tape = w.tape
  output : w'.output = w.output
  size : w.heap.size ≤ w'.heap.size
  frame : ∀ b, b < w.heap.size → (∀ i o, (i, o) ∈ upd → r i ≠ b) → w'.heap[b]? = w.heap[b]?

theorem callA_run {ev : Operand → AV} {c : Call} {f : FuncId} {args : List AV} (h : callA ev c = some (f, args)) (hb : bodyB P f = true) {o : Oper} (ho : o.op = .call c)
    {ρ : Operand → Value} {r : Nat → Nat} {w : World} (hev : ∀ x ∈ o.op.operands, ρ x = (ev x).conc r) :
    (execOp ρ o).run P w = .ok (.enter f (args.map (AV.conc r)).toArray) w := by
  unfold execOp
  rw [ho] at hev ⊢
  unfold callA at h
  split at h
  · rename_i fo hc
    have hfo : ρ fo = (ev fo).conc r := hev fo (by simp [Op.operands, Call.operands, hc])
    have hargs : c.args.map ρ = ((c.args.toList.map ev).map (AV.conc r)).toArray := by
      apply Array.ext'
      simp only [Array.toList_map, List.map_map]
      exact List.map_congr_left fun x hx => hev x (by simp [Op.operands, Call.operands, hc]; exact Or.inr (by simpa using hx))
    split at h
    · rename_i g a b hg
      split at h
      · rename_i ha hb'
        have ea : a = #[] := Array.eq_empty_of_size_eq_zero ha
        have eb : b = #[] := Array.eq_empty_of_size_eq_zero hb'
        simp only [Option.some.injEq, Prod.mk.injEq] at h
        obtain ⟨rfl, rfl⟩ := h
        have e1 : ρ fo = .func (.func g) #[] #[] := by rw [hfo, hg, ea, eb]; rfl
        simp [resolve, hc, e1, Deferred.ofValue, invoke, callFunc_run hb, hargs]
      · simp at h
    · rename_i g caps hg
      simp only [Option.some.injEq, Prod.mk.injEq] at h
      obtain ⟨rfl, rfl⟩ := h
      have e1 : ρ fo = .func (.func g) #[] (caps.map fun p => Value.pointer (some ⟨r p.1, p.2, none⟩)).toArray := by rw [hfo, hg]; rfl
      simp [resolve, hc, e1, Deferred.ofValue, invoke, callFunc_run hb, hargs, Function.comp_def, AV.conc, TV.conc, CV.conc]
    · simp at h
  · simp at h

def updAt : List (Nat × AO) → Nat → Option AO
  | [], _ => none
  | u :: l, i => cond (Nat.beq u.1 i) (some u.2) (updAt l i)

def turnH (upd : List (Nat × AO)) : Nat → AH → AH
  | _, [] => []
  | i, x :: l => (match updAt upd i with | some o => (o, x.2) | none => x) :: turnH upd (i + 1) l

/-- Memory behind it. -/
def moveH (H : AH) (upd : List (Nat × AO)) (new : List AO) : AH := turnH upd 0 H ++ new.map fun o => (o, 1)

theorem updAt_some {upd : List (Nat × AO)} {i : Nat} {o : AO} (h : updAt upd i = some o) : (i, o) ∈ upd := by
  induction upd with
  | nil => simp [updAt] at h
  | cons u l ih =>
    unfold updAt at h
    cases hb : Nat.beq u.1 i with
    | true =>
      simp [hb] at h
      have := Nat.eq_of_beq_eq_true hb
      subst this; subst h
      exact List.mem_cons_self
    | false => simp [hb] at h; exact List.mem_cons_of_mem _ (ih h)

theorem updAt_none {upd : List (Nat × AO)} {i : Nat} (h : updAt upd i = none) {j : Nat} {o : AO} (hm : (j, o) ∈ upd) : j ≠ i := by
  induction upd with
  | nil => cases hm
  | cons u l ih =>
    unfold updAt at h
    cases hb : Nat.beq u.1 i with
    | true => simp [hb] at h
    | false =>
      simp [hb] at h
      rcases List.mem_cons.1 hm with e | e
      · subst e; intro e; subst e; simp at hb
      · exact ih h e

theorem turnH_length (upd : List (Nat × AO)) : ∀ (k : Nat) (H : AH), (turnH upd k H).length = H.length
  | _, [] => rfl
  | k, x :: l => by simp [turnH, turnH_length upd (k + 1) l]

theorem turnH_get (upd : List (Nat × AO)) : ∀ (k : Nat) (H : AH) (i : Nat), (turnH upd k H)[i]? = H[i]?.map fun x => match updAt upd (k + i) with | some o => (o, x.2) | none => x
  | _, [], i => by simp [turnH]
  | k, x :: l, 0 => by simp [turnH]
  | k, x :: l, i + 1 => by
    simp only [turnH, List.getElem?_cons_succ, turnH_get upd (k + 1) l i]
    rw [show k + 1 + i = k + (i + 1) by omega]

def updOk (H : AH) (upd : List (Nat × AO)) : Bool := upd.all fun u => match H[u.1]? with | some x => Nat.beq x.2 1 || Nat.beq x.2 2 | none => false

theorem St.moves {r r' : Nat → Nat} {H : AH} {W0 w w' : World} (h : St r H W0 w) {upd : List (Nat × AO)} {new : List AO} (hm : Moves r r' H.length upd new w w') (hag : Agree H.length r r')
    (hsc : H.scB = true) (hu : updOk H upd = true) : St r' (moveH H upd new) W0 w' := by
  have hflag : ∀ i o, (i, o) ∈ upd → ∃ x, H[i]? = some x ∧ (x.2 = 1 ∨ x.2 = 2) := fun i o hio => by
    have := List.all_eq_true.1 hu (i, o) hio
    simp only at this
    split at this
    · rename_i x hx
      simp only [Bool.or_eq_true, Nat.beq_eq] at this
      exact ⟨x, hx, this⟩
    · simp at this
  have hlen : (moveH H upd new).length = H.length + new.length := by simp [moveH, turnH_length]
  have hget : ∀ i x, (moveH H upd new)[i]? = some x → (∃ y, H[i]? = some y ∧ x = (match updAt upd i with | some o => (o, y.2) | none => y)) ∨ (∃ j o, i = H.length + j ∧ new[j]? = some o ∧ x = (o, 1)) := fun i x hx => by
    unfold moveH at hx
    rw [List.getElem?_append, turnH_length] at hx
    split at hx
    · rw [turnH_get, Nat.zero_add] at hx
      cases hy : H[i]? with
      | none => simp [hy] at hx
      | some y => simp [hy] at hx; exact .inl ⟨y, rfl, hx.symm⟩
    · rename_i hi
      rw [List.getElem?_map] at hx
      cases ho : new[i - H.length]? with
      | none => simp [ho] at hx
      | some o => simp [ho] at hx; exact .inr ⟨i - H.length, o, by omega, ho, hx.symm⟩
  have hfr : ∀ i y, H[i]? = some y → updAt upd i = none → w'.heap[r i]? = w.heap[r i]? := fun i y hy hn => by
    have hi := (List.getElem?_eq_some_iff.1 hy).1
    refine hm.frame _ (h.lt hi) fun j o hj e => ?_
    obtain ⟨x, hx, _⟩ := hflag j o hj
    exact updAt_none hn hj (h.inj j i (List.getElem?_eq_some_iff.1 hx).1 hi e)
  refine ⟨fun i x hx => ?_, fun i j hi hj e => ?_, fun i x hx hf => ?_, hm.os.trans h.os, hm.tape.trans h.tape, hm.output.trans h.output, Nat.le_trans h.size hm.size, fun b hb hn => ?_⟩
  · rcases hget i x hx with ⟨y, hy, rfl⟩ | ⟨j, o, rfl, ho, rfl⟩
    · have hi := (List.getElem?_eq_some_iff.1 hy).1
      rw [hag i hi]
      cases hu' : updAt upd i with
      | some o => exact hm.upd_ i o (updAt_some hu')
      | none =>
        rw [hfr i y hy hu', h.at_ i y hy]
        exact congrArg some (AO.conc_agree hag (List.all_eq_true.1 hsc y (List.mem_of_getElem? hy))).symm
    · exact hm.new_ j o ho
  · rw [hlen] at hi hj
    by_cases ei : i < H.length <;> by_cases ej : j < H.length
    · exact h.inj i j ei ej (by rw [hag i ei, hag j ej] at e; exact e)
    · exfalso
      have h1 := hm.fresh (j - H.length) (by omega)
      rw [show H.length + (j - H.length) = j by omega] at h1
      have h2 := h.lt ei
      rw [hag i ei] at e
      omega
    · exfalso
      have h1 := hm.fresh (i - H.length) (by omega)
      rw [show H.length + (i - H.length) = i by omega] at h1
      have h2 := h.lt ej
      rw [hag j ej] at e
      omega
    · have := hm.apart (i - H.length) (j - H.length) (by omega) (by omega) (by
        rw [show H.length + (i - H.length) = i by omega, show H.length + (j - H.length) = j by omega]; exact e)
      omega
  · rcases hget i x hx with ⟨y, hy, rfl⟩ | ⟨j, o, rfl, ho, rfl⟩
    · rw [hag i (List.getElem?_eq_some_iff.1 hy).1]
      refine h.own i y hy ?_
      cases hu' : updAt upd i <;> simpa [hu'] using hf
    · exact Nat.le_trans h.size (hm.fresh j (List.getElem?_eq_some_iff.1 ho).1)
  · rw [hm.frame b (by have := h.size; omega) fun i o hio e => ?_]
    · refine h.frame b hb fun i x hx hf e => ?_
      have hi := (List.getElem?_eq_some_iff.1 hx).1
      refine hn i (match updAt upd i with | some o => (o, x.2) | none => x) ?_ ?_ (by rw [hag i hi]; exact e)
      · unfold moveH
        rw [List.getElem?_append_left (by rw [turnH_length]; exact hi), turnH_get, hx, Nat.zero_add]
        rfl
      · cases updAt upd i <;> exact hf
    · obtain ⟨x, hx, hf⟩ := hflag i o hio
      have hi := (List.getElem?_eq_some_iff.1 hx).1
      rcases hf with h1 | h2
      · have := h.own i x hx h1; omega
      · refine hn i (match updAt upd i with | some o => (o, x.2) | none => x) ?_ ?_ (by rw [hag i hi]; exact e)
        · unfold moveH
          rw [List.getElem?_append_left (by rw [turnH_length]; exact hi), turnH_get, hx, Nat.zero_add]
          rfl
        · cases updAt upd i <;> exact h2

/-- What is known of callees and of operations that the executor does not know by itself: those that only make memory of their own ('q': what they hand back, at which blocks they look, what they owe), those that turn blocks or hand new ones back ('e'); 'oq', 'oe': the same of operations. -/
structure CT (P : Program) where
  q : FuncId → List AV → AH → Option (AV × List Nat × Option Prop)
  e : FuncId → List AV → AH → Option (AV × List (Nat × AO) × List AO × Option Prop)
  oq : (Operand → AV) → AH → Op → Option (AV × List Nat × Option Prop)
  oe : (Operand → AV) → AH → Op → Option (AV × List (Nat × AO) × List AO × Option Prop)
  qok : ∀ f args H v ft pr, q f args H = some (v, ft, pr) → Owed pr → bodyB P f = true ∧ ∀ (r : Nat → Nat) (w : World), (∀ i ∈ ft, ∀ x, H[i]? = some x → w.heap[r i]? = some (x.1.conc r)) →
    Calls P f (args.map (AV.conc r)).toArray w fun e w' => e = .returned (v.conc r) ∧ Below w.heap.size w w'
  eok : ∀ f args H v upd new pr, e f args H = some (v, upd, new, pr) → Owed pr → bodyB P f = true ∧ ∀ (r : Nat → Nat) (W0 w : World), St r H W0 w →
    Calls P f (args.map (AV.conc r)).toArray w fun e w' => ∃ r', Agree H.length r r' ∧ e = .returned (v.conc r') ∧ Moves r r' H.length upd new w w'
  oqok : ∀ ev H (o : Oper) v ft pr, oq ev H o.op = some (v, ft, pr) → Owed pr → ∀ (ρ : Operand → Value) (r : Nat → Nat) (w : World), (∀ x ∈ o.op.operands, ρ x = (ev x).conc r) →
    (∀ i ∈ ft, ∀ x, H[i]? = some x → w.heap[r i]? = some (x.1.conc r)) → (execOp ρ o).run P w = .ok (.value (v.conc r)) w
  oeok : ∀ ev H (o : Oper) v upd new pr, oe ev H o.op = some (v, upd, new, pr) → Owed pr → ∀ (ρ : Operand → Value) (r : Nat → Nat) (W0 w : World), (∀ x ∈ o.op.operands, ρ x = (ev x).conc r) → St r H W0 w →
    ∃ r' w', Agree H.length r r' ∧ Moves r r' H.length upd new w w' ∧ ((execOp ρ o).run P w = .ok (.value (v.conc r')) w' ∨ ((execOp ρ o).run P w = .ok .skip w' ∧ v = .undef))

def CT.none (P : Program) : CT P := ⟨fun _ _ _ => .none, fun _ _ _ => .none, fun _ _ _ => .none, fun _ _ _ => .none, fun _ _ _ _ _ _ h => (by cases h), fun _ _ _ _ _ _ _ h => (by cases h), fun _ _ _ _ _ _ h => (by cases h), fun _ _ _ _ _ _ _ h => (by cases h)⟩

/-- One callee more. -/
def CT.addQ {P : Program} (T : CT P) (f : FuncId) (q : List AV → AH → Option (AV × List Nat × Option Prop)) (hb : bodyB P f = true)
    (ok : ∀ args H v ft pr, q args H = some (v, ft, pr) → Owed pr → ∀ (r : Nat → Nat) (w : World), (∀ i ∈ ft, ∀ x, H[i]? = some x → w.heap[r i]? = some (x.1.conc r)) →
      Calls P f (args.map (AV.conc r)).toArray w fun e w' => e = .returned (v.conc r) ∧ Below w.heap.size w w') : CT P :=
  { T with
    q := fun g args H => cond (Nat.beq g f) (q args H) (T.q g args H)
    qok := fun g args H v ft pr h hp => by
      cases hg : Nat.beq g f with
      | false => rw [hg] at h; exact T.qok g args H v ft pr h hp
      | true =>
        rw [hg] at h
        obtain rfl := Nat.eq_of_beq_eq_true hg
        exact ⟨hb, ok args H v ft pr h hp⟩ }

def CT.addE {P : Program} (T : CT P) (f : FuncId) (e : List AV → AH → Option (AV × List (Nat × AO) × List AO × Option Prop)) (hb : bodyB P f = true)
    (ok : ∀ args H v upd new pr, e args H = some (v, upd, new, pr) → Owed pr → ∀ (r : Nat → Nat) (W0 w : World), St r H W0 w →
      Calls P f (args.map (AV.conc r)).toArray w fun e w' => ∃ r', Agree H.length r r' ∧ e = .returned (v.conc r') ∧ Moves r r' H.length upd new w w') : CT P :=
  { T with
    e := fun g args H => cond (Nat.beq g f) (e args H) (T.e g args H)
    eok := fun g args H v upd new pr h hp => by
      cases hg : Nat.beq g f with
      | false => rw [hg] at h; exact T.eok g args H v upd new pr h hp
      | true =>
        rw [hg] at h
        obtain rfl := Nat.eq_of_beq_eq_true hg
        exact ⟨hb, ok args H v upd new pr h hp⟩ }

/-- One kind of operation more. -/
def CT.addOq {P : Program} (T : CT P) (oq : (Operand → AV) → AH → Op → Option (AV × List Nat × Option Prop))
    (ok : ∀ ev H (o : Oper) v ft pr, oq ev H o.op = some (v, ft, pr) → Owed pr → ∀ (ρ : Operand → Value) (r : Nat → Nat) (w : World), (∀ x ∈ o.op.operands, ρ x = (ev x).conc r) →
      (∀ i ∈ ft, ∀ x, H[i]? = some x → w.heap[r i]? = some (x.1.conc r)) → (execOp ρ o).run P w = .ok (.value (v.conc r)) w) : CT P :=
  { T with
    oq := fun ev H op => match oq ev H op with | some x => some x | .none => T.oq ev H op
    oqok := fun ev H o v ft pr h hp => by
      cases hq : oq ev H o.op with
      | none => rw [hq] at h; exact T.oqok ev H o v ft pr h hp
      | some x => rw [hq] at h; cases h; exact ok ev H o v ft pr hq hp }

def CT.addOe {P : Program} (T : CT P) (oe : (Operand → AV) → AH → Op → Option (AV × List (Nat × AO) × List AO × Option Prop))
    (ok : ∀ ev H (o : Oper) v upd new pr, oe ev H o.op = some (v, upd, new, pr) → Owed pr → ∀ (ρ : Operand → Value) (r : Nat → Nat) (W0 w : World), (∀ x ∈ o.op.operands, ρ x = (ev x).conc r) → St r H W0 w →
      ∃ r' w', Agree H.length r r' ∧ Moves r r' H.length upd new w w' ∧ ((execOp ρ o).run P w = .ok (.value (v.conc r')) w' ∨ ((execOp ρ o).run P w = .ok .skip w' ∧ v = .undef))) : CT P :=
  { T with
    oe := fun ev H op => match oe ev H op with | some x => some x | .none => T.oe ev H op
    oeok := fun ev H o v upd new pr h hp => by
      cases hq : oe ev H o.op with
      | none => rw [hq] at h; exact T.oeok ev H o v upd new pr h hp
      | some x => rw [hq] at h; cases h; exact ok ev H o v upd new pr hq hp }

end Go.Proofs.Ytodcebpdmjdplaa
