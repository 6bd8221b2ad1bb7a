/- The executor, fifth part: what 'qOp' says is what the operation does. -/
import Derived.Test.YtodcebpdmjdplaaV4
namespace Go.Proofs.Ytodcebpdmjdplaa
open Go.RowKit
variable {P : Program}

theorem addr_add (b o n : Nat) : (⟨b, o, none⟩ : Addr).add n = ⟨b, o + n, none⟩ := by
  unfold Addr.add; split <;> simp_all

def Owed (p : Option Prop) : Prop := ∀ q, p = some q → q
theorem Owed.some {q : Prop} (h : Owed (some q)) : q := h q rfl

theorem pickA_run {c a b : AV} {v : AV} {ft : List Nat} {pr : Option Prop} (h : pickA c a b = some (v, ft, pr)) (r : Nat → Nat) (w : World) :
    (do pure (Next.value (if ← asBool (c.conc r) then a.conc r else b.conc r)) : Sem Next).run P w = .ok (.value (v.conc r)) w := by
  unfold pickA at h
  cases hc : boolOf c with
  | none => simp [hc] at h
  | some x =>
    rw [boolOf_conc hc]
    simp only [hc] at h
    cases ha : boolOf a with
    | none => simp [ha] at h; obtain ⟨rfl, -⟩ := h; cases x <;> simp [asBool]
    | some p =>
      cases hb : boolOf b with
      | none => simp [ha, hb] at h; obtain ⟨rfl, -⟩ := h; cases x <;> simp [asBool]
      | some q =>
        simp [ha, hb] at h; obtain ⟨rfl, -⟩ := h
        rw [boolOf_conc ha, boolOf_conc hb]
        cases x <;> simp [asBool, AV.conc, TV.conc, CV.conc]

theorem fieldAtA_run {s : TypeId} {x : AV} {f : Nat} {v : AV} {ft : List Nat} {pr : Option Prop} (h : fieldAtA P s x f = some (v, ft, pr)) (r : Nat → Nat) (w : World) :
    (Instr.fieldAt s (x.conc r) f).run P w = .ok (v.conc r) w := by
  unfold fieldAtA at h
  split at h
  · rename_i i o fs hu
    cases hf : fs[f]? with
    | none => simp [hf] at h
    | some fd =>
      simp only [hf] at h
      cases hs : sizeA P fd.type with
      | none => simp [hs] at h
      | some n =>
        simp only [hs] at h
        cases hz : Nat.beq n 0 with
        | true => simp [hz] at h
        | false =>
          simp [hz] at h
          obtain ⟨rfl, -⟩ := h
          have hn : n ≠ 0 := fun e => by subst e; simp at hz
          simp [Instr.fieldAt, run_underlying hu, hf, Instr.sureAddr, AV.conc, TV.conc, CV.conc, fieldPlace, run_sizeOf_of hs, hn, addr_add]
  · simp at h

theorem fieldA_run {s : TypeId} {x : AV} {f : Nat} {v : AV} {ft : List Nat} {pr : Option Prop} (h : fieldA P s x f = some (v, ft, pr)) (r : Nat → Nat) (w : World) :
    (Instr.field s (x.conc r) f).run P w = .ok (v.conc r) w := by
  unfold fieldA at h
  split at h
  · rename_i l fs hu
    cases hf : fs[f]? with
    | none => simp [hf] at h
    | some fd =>
      simp only [hf] at h
      cases hp : partA P fd.type l fd.offset with
      | none => simp [hp] at h
      | some u =>
        simp [hp] at h
        obtain ⟨rfl, -⟩ := h
        simp [Instr.field, run_underlying hu, hf, asAgg, AV.conc, TV.conc]
        exact partA_run hp r w
  · simp at h

theorem indexAtA_run {t : TypeId} {x ix : AV} {v : AV} {ft : List Nat} {pr : Option Prop} (h : indexAtA P t x ix = some (v, ft, pr)) (hp : Owed pr) (r : Nat → Nat) (w : World) :
    (Instr.indexAt t (x.conc r) (ix.conc r)).run P w = .ok (v.conc r) w := by
  unfold indexAtA at h
  split at h
  · rename_i i o k n len e hu
    cases hs : sizeA P e with
    | none => simp [hs] at h
    | some s =>
      simp only [hs, Option.some.injEq, Prod.mk.injEq] at h
      obtain ⟨rfl, -, rfl⟩ := h
      have := hp.some
      simp [Instr.indexAt, run_underlying hu, asIntOf, Instr.sureAddr, AV.conc, TV.conc, CV.conc, this, run_sizeOf_of hs, addr_add]
  · rename_i i o len cap k n e hu
    cases hs : sizeA P e with
    | none => simp [hs] at h
    | some s =>
      simp only [hs, Option.some.injEq, Prod.mk.injEq] at h
      obtain ⟨rfl, -, rfl⟩ := h
      have := hp.some
      simp [Instr.indexAt, run_underlying hu, asIntOf, AV.conc, TV.conc, CV.conc, this, run_sizeOf_of hs, addr_add]
  · simp at h

theorem capsA_conc {l : List AV} {c : List (Nat × Nat)} (h : capsA l = some c) (r : Nat → Nat) : l.map (AV.conc r) = c.map fun p => Value.pointer (some ⟨r p.1, p.2, none⟩) := by
  induction l generalizing c with
  | nil => simp [capsA] at h; subst h; rfl
  | cons x l ih =>
    unfold capsA at h
    split at h
    · simp_all
    · rename_i i o l' e
      cases e
      cases hl : capsA l with
      | none => simp [hl] at h
      | some q => simp [hl] at h; subst h; simp [ih hl, AV.conc, TV.conc, CV.conc]
    · simp at h

theorem qOp_run {ev : Operand → AV} {H : AH} {o : Oper} {v : AV} {ft : List Nat} {pr : Option Prop} (h : qOp P ev H o.op = some (v, ft, pr)) (hp : Owed pr)
    {ρ : Operand → Value} {r : Nat → Nat} {w : World} (hev : ∀ x ∈ o.op.operands, ρ x = (ev x).conc r) (hat : ∀ i ∈ ft, ∀ x, H[i]? = some x → w.heap[r i]? = some (x.1.conc r)) :
    (execOp ρ o).run P w = .ok (.value (v.conc r)) w := by
  unfold execOp
  cases ho : o.op <;> rw [ho] at h hev
  case move x =>
    simp only [qOp] at h
    simp at h; obtain ⟨rfl, -⟩ := h; simp [hev x (by simp [Op.operands])]
  case assign x =>
    simp only [qOp] at h
    simp at h; obtain ⟨rfl, -⟩ := h; simp [hev x (by simp [Op.operands])]
  case pick c a b =>
    simp only [qOp] at h
    simp only [hev c (by simp [Op.operands]), hev a (by simp [Op.operands]), hev b (by simp [Op.operands])]
    exact pickA_run h r w
  case load t x =>
    simp only [qOp] at h
    simp only [hev x (by simp [Op.operands])]
    split at h
    · rename_i i o' hx
      rw [hx]
      cases hl : loadA P H t i o' with
      | none => simp [hl] at h
      | some u =>
        simp [hl] at h
        obtain ⟨rfl, rfl, -⟩ := h
        have := loadA_run (P := P) (w := w) (r := r) hl (fun x hx => hat i (by simp) x hx)
        simp [Instr.loadAt, Instr.sureAddr, AV.conc, TV.conc, CV.conc, this]
    · simp at h
  case nilCheck x =>
    simp only [qOp] at h
    simp only [hev x (by simp [Op.operands])]
    unfold nilCheckA at h
    split at h
    · simp at h; obtain ⟨rfl, -⟩ := h; rename_i hx; simp [hx, AV.conc, TV.conc, CV.conc]
    · simp at h; obtain ⟨rfl, -⟩ := h; rename_i hx; simp [hx, AV.conc, TV.conc, CV.conc]
    · simp at h
  case binOp bo t x y yt =>
    simp only [qOp] at h
    simp only [hev x (by simp [Op.operands]), hev y (by simp [Op.operands])]
    cases hb : binA P bo t (ev x) (ev y) with
    | none => simp [hb] at h
    | some u =>
      simp [hb] at h
      obtain ⟨rfl, -⟩ := h
      have := binA_run hb r x y w
      simp only [Sem.run_bind] at this ⊢
      rw [this]
      rfl
  case unOp uo t x =>
    simp only [hev x (by simp [Op.operands])]
    cases uo <;> simp only [qOp] at h <;> first | (cases h; done) | skip
    unfold notA at h
    split at h
    · simp at h; obtain ⟨rfl, -⟩ := h; rename_i hx; simp [hx, AV.conc, TV.conc, CV.conc, Op.unary]
    · simp at h
  case convert s d x =>
    simp only [qOp] at h
    simp only [hev x (by simp [Op.operands])]
    unfold convA at h
    split at h
    · rename_i k n ds k' hx hs hd
      simp at h; obtain ⟨rfl, -⟩ := h
      simp [hx, AV.conc, TV.conc, CV.conc, convert, run_underlying hs, run_underlying hd, Conv.intToInt]
    · simp at h
  case makeFunc fn first caps =>
    cases fn <;> simp only [qOp] at h <;> first | (cases h; done) | skip
    rename_i f
    split at h
    · rename_i l h0 hc
      simp at h; obtain ⟨rfl, -⟩ := h
      have hfirst : first = #[] := Array.eq_empty_of_size_eq_zero h0
      have hmap : caps.map ρ = (l.map fun p => Value.pointer (some ⟨r p.1, p.2, none⟩)).toArray := by
        rw [← capsA_conc hc r]
        apply Array.ext'
        simp only [Array.toList_map, List.map_map]
        exact List.map_congr_left fun x hx => hev x (by simp [Op.operands]; exact Or.inr (by simpa using hx))
      subst hfirst
      simp [Instr.makeFunc, hmap, AV.conc, TV.conc, CV.conc]
    · simp at h
  case slice t x lo hi mx =>
    cases lo <;> cases hi <;> cases mx <;> simp only [qOp] at h <;> first | (cases h; done) | skip
    simp only [hev x (by simp [Op.operands])]
    unfold sliceWholeA at h
    split at h
    · rename_i i o' n e hx hu
      split at h
      · rename_i s hs
        simp at h; obtain ⟨rfl, -⟩ := h
        simp [Instr.sliceAt, run_underlying hu, hx, Instr.sureAddr, AV.conc, TV.conc, CV.conc, Instr.sliceBounds, run_sizeOf_of hs, addr_add]
      · simp at h
    · simp at h
  case fieldAddr s x f =>
    simp only [qOp] at h
    simp only [hev x (by simp [Op.operands]), Sem.run_bind, fieldAtA_run h r w]; rfl
  case field s x f =>
    simp only [qOp] at h
    simp only [hev x (by simp [Op.operands]), Sem.run_bind, fieldA_run h r w]; rfl
  case indexAddr t x i =>
    simp only [qOp] at h
    simp only [hev x (by simp [Op.operands]), hev i (by simp [Op.operands]), Sem.run_bind, indexAtA_run h hp r w]; rfl
  case extract x k =>
    simp only [qOp] at h
    simp only [hev x (by simp [Op.operands])]
    unfold extractA at h
    split at h
    · rename_i l hx
      split at h
      · rename_i u hu
        simp at h; obtain ⟨rfl, -⟩ := h
        simp [Instr.extract, hx, AV.conc, hu]
      · simp at h
    · simp at h
  case call c =>
    simp only [qOp] at h
    split at h
    · rename_i x t h1 h2 h3
      have hargs : c.args = #[x] := by cases hc : c.args; simp_all
      have hat' : c.argTypes = #[t] := by cases hc : c.argTypes; simp_all
      have hx : ρ x = (ev x).conc r := hev x (by simp [Op.operands, Call.operands, h1, hargs])
      unfold lenA at h
      split at h
      · rename_i i o' n cp e hx' hu
        simp at h; obtain ⟨rfl, -⟩ := h
        simp [resolve, invoke, builtin, h1, hargs, hat', hx, hx', AV.conc, TV.conc, CV.conc, Builtin.len_, run_underlying hu, goInt]
      · rename_i n cp e hx' hu
        simp at h; obtain ⟨rfl, -⟩ := h
        simp [resolve, invoke, builtin, h1, hargs, hat', hx, hx', AV.conc, TV.conc, CV.conc, Builtin.len_, run_underlying hu, goInt]
      · simp at h
    · simp at h
  all_goals (simp [qOp] at h)

end Go.Proofs.Ytodcebpdmjdplaa
