/- A list that a range over a function collects: between two rounds. -/
import Derived.Test.YtobonipmnidadaaJ10
import Derived.RangeFuncNested
namespace Go.Proofs.Ytobonipmnidadaa
open Go.RowKit
variable {P : Program}

/-- Between two rounds: the box holds the slice, the slice holds what has come. -/
structure AppI (K : LK P) (tS : TypeId) (w : World) (bs : Nat) (l : List K.α) (W : World) : Prop where
  row : ∃ v, W.heap[bs]? = some (.cells #[v] tS (0, 0)) ∧ W.ownsRow w.heap.size K.e (@Elt.sz K.α K.inst) v l.length (l.flatMap (@Elt.cells K.α K.inst))
  lt : w.heap.size ≤ bs
  bel : Below w.heap.size w W

theorem cells_stay {W W' : World} {B : Nat} {row : Option Nat} (hg : W.grownBy W' row) (hr : ∀ r, row = some r → B ≤ r ∧ ∃ o : Obj, W.heap[r]? = some o ∧ o.isCells = false) {b : Nat} {c t f} (h : W.heap[b]? = some (.cells c t f)) : W'.heap[b]? = W.heap[b]? :=
  hg.block b (Array.getElem?_eq_some_iff.1 h).1 fun e => by
    obtain ⟨-, o, ho, hc⟩ := hr b e.symm
    rw [h] at ho; cases ho; cases hc
theorem below_stay {w W W' : World} {B : Nat} {row : Option Nat} (h : Below w.heap.size w W) (hB : w.heap.size ≤ B) (hg : W.grownBy W' row) (hr : ∀ r, row = some r → B ≤ r ∧ ∃ o : Obj, W.heap[r]? = some o ∧ o.isCells = false) : Below w.heap.size w W' :=
  ⟨hg.os.trans h.os, hg.tape.trans h.tape, hg.output.trans h.output, Nat.le_trans h.size hg.size, fun k hk => (hg.block k (Nat.lt_of_lt_of_le hk h.size) fun e => by have := (hr k e.symm).1; omega).trans (h.block k hk)⟩
theorem row_stay {W W' : World} {n : Nat} {e : TypeId} {sz k : Nat} {v : Value} {xs : List Value} {B : Nat} {row : Option Nat} (h : W.ownsRow n e sz v k xs) (hg : W.grownBy W' row) (hr : ∀ r, row = some r → B ≤ r ∧ ∃ o : Obj, W.heap[r]? = some o ∧ o.isCells = false) : W'.ownsRow n e sz v k xs := by
  refine ⟨h.1, ?_⟩
  rcases h.2 with h2 | ⟨g, cap, cur, e1, e2, e3, rest⟩
  · exact .inl h2
  · exact .inr ⟨g, cap, cur, e1, e2, (cells_stay hg hr e3).trans e3, rest⟩

theorem AppI.own {K : LK P} {tS : TypeId} {w : World} {bs B : Nat} (hB : w.heap.size ≤ B) : OwnFrom B (fun (l : List K.α) W => AppI K tS w bs l W) := by
  rintro l W W' row ⟨⟨v, h1, h2⟩, h3, h4⟩ hg hr
  exact ⟨⟨v, (cells_stay hg hr h1).trans h1, row_stay h2 hg hr⟩, h3, below_stay h4 hB hg hr⟩

/-- Numbers and owners of the three. -/
def apG (bs bx : Nat) (v : Value) : Gh := ⟨fun i => match i with | 0 => bs | 1 => bs | _ => bx, fun _ => svOf v, fun b => if b = bs then some 0 else if b = bx then some 2 else if v.ownBlock = some b then some 1 else none, fun _ => False⟩
def apH (K : LK P) (tS : TypeId) (l : List K.α) (c : List CV) (tE : TypeId) : AH := [(.cells [.sl 1] tS, 1), (.abs 1 (K.toX l), 1), (.cells c tE, 1)]

theorem app_st {K : LK P} {tS tE : TypeId} {w W : World} {bs bx : Nat} {l : List K.α} {v : Value} {c : List CV} (hne : Nat.beq tS K.e = false) (hlt : w.heap.size ≤ bs) (hbel : Below w.heap.size w W)
    (h1 : W.heap[bs]? = some (.cells #[v] tS (0, 0))) (h2 : W.ownsRow w.heap.size K.e (@Elt.sz K.α K.inst) v l.length (l.flatMap (@Elt.cells K.α K.inst)))
    (h3 : W.heap[bx]? = some (.cells (c.map (CV.conc (apG bs bx v))).toArray tE (0, 0))) (h4 : w.heap.size ≤ bx) (h5 : bx ≠ bs) (h6 : v.ownBlock ≠ some bx) :
    St (apG bs bx v) (apH K tS l c tE) (rd Gh.none.wipe w) W ∧ ∀ b i, (apG bs bx v).o b = some i → ∃ c' t f, W.heap[b]? = some (.cells c' t f) ∧ (t = tS ∨ t = K.e ∨ t = tE) := by
  have hv : (svOf v).v = v := svOf_own (ownsRow_mono h2 (Nat.zero_le _))
  have hob : v.ownBlock ≠ some bs := fun e => by
    rcases h2.2 with ⟨rfl, _⟩ | ⟨g, cap, cur, rfl, _, e3, _⟩
    · simp [Value.ownBlock] at e
    · simp only [Value.ownBlock, Option.some.injEq] at e
      subst e
      rw [h1] at e3
      simp only [Option.some.injEq, Obj.cells.injEq] at e3
      rw [e3.2.1] at hne
      simp at hne
  have hcell : ∀ b, v.ownBlock = some b → w.heap.size ≤ b ∧ ∃ c' f, W.heap[b]? = some (.cells c' K.e f) := fun b e => by
    rcases h2.2 with ⟨rfl, _⟩ | ⟨g, cap, cur, rfl, e2, e3, _⟩
    · simp [Value.ownBlock] at e
    · simp only [Value.ownBlock, Option.some.injEq] at e
      subst e
      exact ⟨e2, _, _, e3⟩
  have ho : ∀ b i, (apG bs bx v).o b = some i → (b = bs ∧ i = 0) ∨ (b = bx ∧ i = 2) ∨ (v.ownBlock = some b ∧ i = 1) := fun b i h => by
    simp only [apG] at h
    split at h
    · rename_i e; cases h; exact .inl ⟨e, rfl⟩
    · split at h
      · rename_i e; cases h; exact .inr (.inl ⟨e, rfl⟩)
      · split at h
        · rename_i e; cases h; exact .inr (.inr ⟨e, rfl⟩)
        · cases h
  have hge : ∀ b i, (apG bs bx v).o b = some i → w.heap.size ≤ b := fun b i h => by
    rcases ho b i h with ⟨rfl, _⟩ | ⟨rfl, _⟩ | ⟨e, _⟩
    · exact hlt
    · exact h4
    · exact (hcell b e).1
  have hcb : ∀ b i, (apG bs bx v).o b = some i → ∃ c' t f, W.heap[b]? = some (.cells c' t f) ∧ (t = tS ∨ t = K.e ∨ t = tE) := fun b i h => by
    rcases ho b i h with ⟨rfl, _⟩ | ⟨rfl, _⟩ | ⟨e, _⟩
    · exact ⟨_, _, _, h1, .inl rfl⟩
    · exact ⟨_, _, _, h3, .inr (.inr rfl)⟩
    · obtain ⟨c', f, h5⟩ := (hcell b e).2
      exact ⟨_, _, _, h5, .inr (.inl rfl)⟩
  refine ⟨⟨⟨fun i x hx => ?_, fun b i h => ?_, fun b h => h.elim, fun b h => h.elim⟩, fun b i x h _ _ => .inl (hge b i h), fun b i h => .inl (hge b i h), fun b h => h, fun b h => h.elim, hbel.os, hbel.tape, hbel.output, hbel.size, fun b hb _ => hbel.block b hb⟩, hcb⟩
  · match i, hx with
    | 0, hx =>
      cases hx
      refine ⟨?_, fun b => ?_⟩
      · show W.heap[bs]? = _
        rw [h1]
        simp [CV.conc, apG, hv]
      · show (apG bs bx v).o b = some 0 ↔ b = bs
        constructor
        · intro h
          rcases ho b 0 h with ⟨e, _⟩ | ⟨_, e⟩ | ⟨_, e⟩
          · exact e
          · cases e
          · cases e
        · rintro rfl
          simp [apG]
    | 1, hx =>
      cases hx
      refine K.rep.2 ⟨?_, fun k hk => ?_⟩
      · show W.ownsRow 0 K.e _ (svOf v).v _ _
        rw [hv]; exact ownsRow_mono h2 (Nat.zero_le _)
      · have hk' : v.ownBlock = some k := by rw [← hv]; exact hk
        have n1 : k ≠ bs := fun e => hob (by rw [← e]; exact hk')
        have n2 : k ≠ bx := fun e => h6 (by rw [← e]; exact hk')
        simp only [apG, if_neg n1, if_neg n2, hk', if_true]
    | 2, hx =>
      cases hx
      refine ⟨h3, fun b => ?_⟩
      show (apG bs bx v).o b = some 2 ↔ b = bx
      constructor
      · intro h
        rcases ho b 2 h with ⟨_, e⟩ | ⟨e, _⟩ | ⟨_, e⟩
        · cases e
        · exact e
        · cases e
      · rintro rfl
        simp [apG, h5]
    | i + 3, hx => simp [apH] at hx
  · rcases ho b i h with ⟨rfl, rfl⟩ | ⟨rfl, rfl⟩ | ⟨e, rfl⟩
    · exact ⟨by simp [apH], (Array.getElem?_eq_some_iff.1 h1).1⟩
    · exact ⟨by simp [apH], (Array.getElem?_eq_some_iff.1 h3).1⟩
    · obtain ⟨_, _, h⟩ := (hcell b e).2
      exact ⟨by simp [apH], (Array.getElem?_eq_some_iff.1 h).1⟩

theorem st_app {K : LK P} {tS : TypeId} {w W : World} {bs h : Nat} {l : List K.α} {g g0 : Gh} {rest : AH} (hst : St g ((.cells [.sl h] tS, 1) :: (.abs h (K.toX l), 1) :: rest) (rd g0 w) W) (hb : g.b 0 = bs) : AppI K tS w bs l W := by
  have h0 := hst.at_ 0 _ rfl
  have h1 := K.rep.1 (hst.at_ 1 _ rfl)
  refine ⟨⟨(g.s h).v, ?_, ⟨h1.1.1, ?_⟩⟩, ?_, hst.belowR⟩
  · rw [← hb]
    have := h0.1
    simpa [CV.conc] using this
  · rcases h1.1.2 with e | ⟨b, cap, cur, e1, e2, rest⟩
    · exact .inl e
    · refine .inr ⟨b, cap, cur, e1, ?_, rest⟩
      have hob := h1.2 b (by rw [e1]; rfl)
      exact (hst.wr b 1 _ hob rfl (by simp)).elim (fun x => x) fun x => x.elim
  · rw [← hb]
    have hob := (h0.2 (g.b 0)).2 rfl
    exact (hst.wr _ 0 _ hob rfl (by simp)).elim (fun x => x) fun x => x.elim

/-- Rows of other kinds stay. -/
def KeepsTy (ts : List TypeId) (A B : World) : Prop := ∀ (k : Nat) (c : Array Value) (t : TypeId) (f : Nat × Nat), A.heap[k]? = some (Obj.cells c t f) → t ∉ ts → B.heap[k]? = A.heap[k]?

/-- Where all that may be written is cells, what is none stays. -/
theorem St.keepsCB {r r' : Gh} {H H' : AH} {W W' : World} {ts : List TypeId} (hcb : ∀ b i, r.o b = some i → ∃ c t f, W.heap[b]? = some (.cells c t f) ∧ t ∈ ts) (h' : St r' H' (base r H W) W') : KeepsOthers W W' ∧ KeepsTy ts W W' := by
  refine ⟨⟨h'.size, fun k o hk ho => ?_⟩, fun k c t f hk ht => ?_⟩
  · refine (h'.frame k (Array.getElem?_eq_some_iff.1 hk).1 fun ⟨i, x, h1, h2, h3⟩ => ?_).trans hk
    obtain ⟨c, t, f, hc, -⟩ := hcb k i h1
    rw [hc] at hk
    simp only [Option.some.injEq] at hk
    rw [← hk] at ho; simp [Obj.isCells] at ho
  · refine h'.frame k (Array.getElem?_eq_some_iff.1 hk).1 fun ⟨i, x, h1, h2, h3⟩ => ?_
    obtain ⟨c', t', f', hc, ht'⟩ := hcb k i h1
    rw [hc] at hk
    simp only [Option.some.injEq, Obj.cells.injEq] at hk
    rw [hk.2.1] at ht'
    exact ht ht'

theorem Agree.atS {n : Nat} {r r' : Gh} (h : Agree n r r') (i : Nat) (hi : Nat.blt i n = true) : r'.s i = r.s i := h.s i (by simpa using hi)
theorem FrameOk.reconc {r g : Gh} {F F' : AF} {a : Act} (h : FrameOk r F a) (e : F'.map (AV.conc g) = F.map (AV.conc r)) : FrameOk g F' a := by
  unfold FrameOk at *
  rw [h, e]

/-- Two blocks. -/
def twoG (b0 b1 : Nat) : Gh := ⟨fun i => match i with | 0 => b0 | _ => b1, fun _ => ⟨none, 0, 0⟩, fun b => if b = b0 then some 0 else if b = b1 then some 1 else none, fun _ => False⟩
theorem st_two {W : World} {b0 b1 : Nat} {o0 o1 : AO} {f0 f1 : Nat} (hne : b0 ≠ b1) (k0 : o0.blk = true) (k1 : o1.blk = true) (h0 : W.heap[b0]? = some (o0.conc (twoG b0 b1))) (h1 : W.heap[b1]? = some (o1.conc (twoG b0 b1))) :
    St (twoG b0 b1) [(o0, f0), (o1, f1)] (base (twoG b0 b1) [(o0, f0), (o1, f1)] W) W := by
  have ho : ∀ b i, (twoG b0 b1).o b = some i → (b = b0 ∧ i = 0) ∨ (b = b1 ∧ i = 1) := fun b i h => by
    simp only [twoG] at h
    split at h
    · rename_i e; cases h; exact .inl ⟨e, rfl⟩
    · split at h
      · rename_i e; cases h; exact .inr ⟨e, rfl⟩
      · cases h
  refine ⟨⟨fun i x hx => ?_, fun b i h => ?_, fun b h => h.elim, fun b h => h.elim⟩, fun b i x h hx hf => .inr ⟨i, x, h, hx, hf⟩, fun b i h => .inr (.inr h), fun b h => h, fun b h => h.elim, rfl, rfl, rfl, Nat.le_refl _, fun b _ _ => rfl⟩
  · match i, hx with
    | 0, hx =>
      cases hx
      refine (AO.holds_blk k0).2 ⟨h0, fun b => ⟨fun h => ?_, fun h => ?_⟩⟩
      · rcases ho b 0 h with ⟨e, _⟩ | ⟨_, e⟩
        · exact e
        · cases e
      · have : b = b0 := h
        simp [twoG, this]
    | 1, hx =>
      cases hx
      refine (AO.holds_blk k1).2 ⟨h1, fun b => ⟨fun h => ?_, fun h => ?_⟩⟩
      · rcases ho b 1 h with ⟨_, e⟩ | ⟨e, _⟩
        · cases e
        · exact e
      · have : b = b1 := h
        have hne' : ¬ b1 = b0 := fun e => hne e.symm
        simp [twoG, this, hne']
    | i + 2, hx => simp at hx
  · rcases ho b i h with ⟨rfl, rfl⟩ | ⟨rfl, rfl⟩
    · exact ⟨by simp, (Array.getElem?_eq_some_iff.1 h0).1⟩
    · exact ⟨by simp, (Array.getElem?_eq_some_iff.1 h1).1⟩
/-- Of two, where the first one is only read: the second one alone may have turned. -/
theorem St.grownTwo {W W' : World} {b0 b1 : Nat} {o0 o1 : AO} {f1 : Nat} {r : Gh} {H : AH} (h : St r H (base (twoG b0 b1) [(o0, 0), (o1, f1)] W) W') : W.grownBy W' (some b1) :=
  ⟨h.os, h.tape, h.output, h.size, fun k hk hne => h.frame k hk fun ⟨i, x, e1, e2, e3⟩ => by
    simp only [twoG] at e1
    split at e1
    · cases e1; cases e2; exact e3 rfl
    · split at e1
      · rename_i e; exact hne (by rw [e])
      · cases e1⟩

theorem stopsK_later {α : Type} {F : Fence} {n : Nat} {g : Nat} {lb : Array Value} {encs : α → Array Value} {Kp : World → World → Prop} {S Sp : List α → Prop} {N : Nat} {w w' : World} (h : SeqStopsK F n P g lb encs Kp S Sp N w) (hb : Below w.heap.size w w') : SeqStopsK F n P g lb encs Kp S Sp N w' :=
  fun l J Jx W hW => h l J Jx W (hb.trans (hW.mono hb.size))

/-- A call, by whatever is known of its callee. -/
def callI (ops : Array Oper) (F : AF) (i : Nat) : Option (FuncId × List AV) := match ops[i]? with | some o => (match o.op with | .call c => callA F.ev c | _ => none) | none => none
theorem call_wp {ro : Option Nat} {n : Nat} {ops : Array Oper} {Q : Exit → Act → World → Prop} {i : Nat} {a : Act} {w : World} {F : AF} {r : Gh} {f : FuncId} {args : List AV} (hF : FrameOk r F a) (hc : callI ops F i = some (f, args)) (hw : wantI ops F i = some true) (hb : bodyB P f = true)
    {R : Ending → World → Prop} (hy : Calls P f (args.map (AV.conc r)).toArray w R)
    (h : ∀ e w', R e w' → ∃ u : Value, e = .returned u ∧ ∀ a', FrameOk r (putF F (dstI ops i) (.r u)) a' → a'.defers = a.defers → wpListIn (Fw ro) n P ops Q (ops.toList.drop (i + 1)) a' w') : wpListIn (Fw ro) n P ops Q (ops.toList.drop i) a w := by
  unfold callI at hc; unfold wantI at hw
  cases ho : ops[i]? with
  | none => simp [ho] at hc
  | some o =>
    simp only [ho] at hc hw
    split at hc
    · rename_i c hop
      refine wpListIn_at ho hF hw (wpIn_of_enter (callA_run hc hb hop fun x _ => hF.eval x) hy fun e w' he => ?_)
      obtain ⟨u, rfl, hk⟩ := h e w' he
      exact ⟨u, rfl, hk _ (by have h1 : FrameOk r (putF F o.dst (.r u)) (a.put o.dst u) := hF.put o.dst (.r u); simpa [dstI, ho] using h1) (put_defers _ _ _)⟩
    · cases hc

end Go.Proofs.Ytobonipmnidadaa
