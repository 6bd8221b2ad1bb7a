/- The book's functions as callees. -/
import Derived.Test.YtodcebpdmjdplaaCD
namespace Go.Proofs.Ytodcebpdmjdplaa
open Go.RowKit

theorem bookIds {H : AH} {x : AV} {i j : Nat} {o : Obj} (h : bookAt H x = some (i, j, o)) (hob : IsBk o) (g : Nat) : hasIds H [i, j] [(.cells [.mp 1] 65, 0), (.raw (mapO (bkOf o)), g)] := fun k y hy => by
  obtain ⟨-, ⟨fi, hi⟩, fj, hj⟩ := bookAt_eq h
  unfold IsBk at hob
  match k, hy with
  | 0, hy => cases hy; exact ⟨fi, hi⟩
  | 1, hy => cases hy; refine ⟨fj, ?_⟩; rw [show pick [i, j] 1 = j from rfl, hj]; simp only [AO.ren]; rw [← hob]
  | k + 2, hy => simp at hy

noncomputable def addBE (args : List AV) (H : AH) : Option (AV × List (Nat × AO) × List AO × Option Prop) :=
  match args with
  | [x, .tv (.agg l)] => match bookAt H x, evOf l with
    | some (_, j, o), some e => some (.r (.int .i64 (addM (bkOf o) e).1), [(j, .raw (mapO (addM (bkOf o) e).2))], [], some (IsBk o ∧ (∀ p ∈ bkOf o, p.1.ok) ∧ e.ok))
    | _, _ => none
  | _ => none

theorem addBE_ok {args : List AV} {H : AH} {v : AV} {upd : List (Nat × AO)} {new : List AO} {pr : Option Prop} (h : addBE args H = some (v, upd, new, pr)) (hp : Owed pr) (r : Nat → Nat) (W0 w : World) (hst : St r H W0 w) :
    Calls Try.prog 15 (args.map (AV.conc r)).toArray w fun e w' => ∃ r', Agree H.length r r' ∧ e = .returned (v.conc r') ∧ Moves r r' H.length upd new w w' := by
  unfold addBE at h
  split at h
  · rename_i x l
    split at h
    · rename_i i j o e hb he
      simp only [Option.some.injEq, Prod.mk.injEq] at h
      obtain ⟨rfl, rfl, rfl, rfl⟩ := h
      obtain ⟨hob, hL, hok⟩ := hp.some
      have hx := (bookAt_eq hb).1
      subst hx
      rw [evOf_eq he]
      have hs := hst.sub [i, j] (bkH (bkOf o)) (bookIds hb hob 2) (by kernel_rfl) (by kernel_rfl)
      have h1 := add_run hL hok hs
      have e1 : (([.c (.ptr 0 0), e.av].map (AV.conc fun k => r (pick [i, j] k))).toArray) = (([AV.c (.ptr i 0), .tv (.agg e.cvs)].map (AV.conc r)).toArray) := rfl
      rw [e1] at h1
      refine h1.mono ?_
      rintro y w' ⟨c, L', hc, rfl, hst'⟩
      rw [← hc]
      refine ⟨r, Agree.refl _ _, rfl, Moves.sub [i, j] hst' _ (fun k a hka => ?_) fun k y hy h2 => ?_⟩
      · simp only [List.mem_singleton, Prod.mk.injEq] at hka
        obtain ⟨rfl, rfl⟩ := hka
        exact ⟨1, _, rfl, rfl, rfl⟩
      · match k, hy with
        | 0, hy => cases hy; cases h2
        | 1, hy => exact ⟨_, List.mem_singleton.2 rfl⟩
        | k + 2, hy => simp [bkH] at hy
    · simp at h
  · simp at h

noncomputable def countsQ (args : List AV) (H : AH) : Option (AV × List Nat × Option Prop) :=
  match args with
  | [x, .tv (.agg l)] => match bookAt H x, dotOf l with
    | some (i, j, o), some d => some (.b (gotL (bkOf o) d).2, [i, j], some (IsBk o))
    | _, _ => none
  | _ => none

theorem bookSt {H : AH} {x : AV} {i j : Nat} {o : Obj} (h : bookAt H x = some (i, j, o)) (hob : IsBk o) {r : Nat → Nat} {w : World} (hat : ∀ k ∈ [i, j], ∀ x, H[k]? = some x → w.heap[r k]? = some (x.1.conc r)) : St (fun k => r (pick [i, j] k)) (ndH (bkOf o)) w w :=
  St.subAt hat [i, j] (ndH (bkOf o)) (bookIds h hob 0) (fun k hk => by
    match k, hk with
    | 0, _ => simp [pick]
    | 1, _ => simp [pick]
    | k + 2, hk => simp [ndH] at hk; omega) (by kernel_rfl) (by kernel_rfl)

theorem countsQ_ok {args : List AV} {H : AH} {v : AV} {ft : List Nat} {pr : Option Prop} (h : countsQ args H = some (v, ft, pr)) (hp : Owed pr) (r : Nat → Nat) (w : World) (hat : ∀ i ∈ ft, ∀ x, H[i]? = some x → w.heap[r i]? = some (x.1.conc r)) :
    Calls Try.prog 16 (args.map (AV.conc r)).toArray w fun e w' => e = .returned (v.conc r) ∧ Below w.heap.size w w' := by
  unfold countsQ at h
  split at h
  · rename_i x l
    split at h
    · rename_i i j o d hb hd
      simp only [Option.some.injEq, Prod.mk.injEq] at h
      obtain ⟨rfl, rfl, rfl⟩ := h
      have hx := (bookAt_eq hb).1
      subst hx
      rw [dotOf_eq hd]
      have h1 := counts_run (d := d) (bookSt hb hp.some hat)
      have e1 : (([.c (.ptr 0 0), d.av].map (AV.conc fun k => r (pick [i, j] k))).toArray) = (([AV.c (.ptr i 0), .tv (.agg d.cvs)].map (AV.conc r)).toArray) := rfl
      rw [e1] at h1
      exact h1
    · simp at h
  · simp at h

noncomputable def lenBQ (args : List AV) (H : AH) : Option (AV × List Nat × Option Prop) :=
  match args with
  | [x] => match bookAt H x with
    | some (i, j, o) => some (.r (.int .i64 (bkOf o).length), [i, j], some (IsBk o))
    | _ => none
  | _ => none

theorem lenBQ_ok {args : List AV} {H : AH} {v : AV} {ft : List Nat} {pr : Option Prop} (h : lenBQ args H = some (v, ft, pr)) (hp : Owed pr) (r : Nat → Nat) (w : World) (hat : ∀ i ∈ ft, ∀ x, H[i]? = some x → w.heap[r i]? = some (x.1.conc r)) :
    Calls Try.prog 23 (args.map (AV.conc r)).toArray w fun e w' => e = .returned (v.conc r) ∧ Below w.heap.size w w' := by
  unfold lenBQ at h
  split at h
  · rename_i x
    split at h
    · rename_i i j o hb
      simp only [Option.some.injEq, Prod.mk.injEq] at h
      obtain ⟨rfl, rfl, rfl⟩ := h
      have hx := (bookAt_eq hb).1
      subst hx
      have h1 := len_run (bookSt hb hp.some hat)
      have e1 : (([.c (.ptr 0 0)].map (AV.conc fun k => r (pick [i, j] k))).toArray) = (([AV.c (.ptr i 0)].map (AV.conc r)).toArray) := rfl
      rw [e1] at h1
      exact h1
    · simp at h
  · simp at h

/-- A box that holds a pointer; a vector's block; eight cells that are values. -/
def boxAt (H : AH) (i : Nat) : Option Nat :=
  match H[i]? with
  | some (.cells [.ptr b 0] t, _) => cond (Nat.beq t 32) (some b) none
  | _ => none
theorem boxAt_eq {H : AH} {i b : Nat} (h : boxAt H i = some b) : ∃ f, H[i]? = some (.cells [.ptr b 0] 32, f) := by
  unfold boxAt at h
  split at h
  · rename_i b' t f hi
    cases ht : Nat.beq t 32 with
    | false => simp [ht] at h
    | true => obtain rfl := Nat.eq_of_beq_eq_true ht; simp [ht] at h; subst h; exact ⟨_, hi⟩
  · simp at h
def vecAt (H : AH) (i : Nat) : Option Vec :=
  match H[i]? with
  | some (.cells cs t, _) => cond (Nat.beq t 27) (vecOf cs) none
  | _ => none
theorem vecAt_eq {H : AH} {i : Nat} {v : Vec} (h : vecAt H i = some v) : ∃ f, H[i]? = some (.cells v.cvs 27, f) := by
  unfold vecAt at h
  split at h
  · rename_i cs t f hi
    cases ht : Nat.beq t 27 with
    | false => simp [ht] at h
    | true => obtain rfl := Nat.eq_of_beq_eq_true ht; simp [ht] at h; rw [← vecOf_eq h]; exact ⟨_, hi⟩
  · simp at h
structure E8 where
  a0 : Value
  a1 : Value
  a2 : Value
  a3 : Value
  a4 : Value
  a5 : Value
  a6 : Value
  a7 : Value
def E8.cvs (a : E8) : List CV := [.rig a.a0, .rig a.a1, .rig a.a2, .rig a.a3, .rig a.a4, .rig a.a5, .rig a.a6, .rig a.a7]
def e8At (H : AH) (i : Nat) : Option E8 :=
  match H[i]? with
  | some (.cells [.rig a0, .rig a1, .rig a2, .rig a3, .rig a4, .rig a5, .rig a6, .rig a7] t, _) => cond (Nat.beq t 43) (some ⟨a0, a1, a2, a3, a4, a5, a6, a7⟩) none
  | _ => none
theorem e8At_eq {H : AH} {i : Nat} {a : E8} (h : e8At H i = some a) : ∃ f, H[i]? = some (.cells a.cvs 43, f) := by
  unfold e8At at h
  split at h
  · rename_i t f hi
    cases ht : Nat.beq t 43 with
    | false => simp [ht] at h
    | true => obtain rfl := Nat.eq_of_beq_eq_true ht; simp [ht] at h; subst h; exact ⟨_, hi⟩
  · simp at h

noncomputable def memb1E (args : List AV) (H : AH) : Option (AV × List (Nat × AO) × List AO × Option Prop) :=
  match args with
  | [.tv (.one (.rig (.int .i64 n))), .tv (.one (.ptr i 0)), .tv (.one (.ptr j 0)), .tv (.one (.ptr k 0))] =>
    match boxAt H i, vecAt H j, e8At H k with
    | some b, some v, some a => match bookAt H (.c (.ptr b 0)) with
      | some (_, _, o) => some (.tup [], [(k, .cells (a.cvs.set n.toNat (.rig (.int .u8 (roleM (bkOf o) (IntKind.u8.wrap n) v)))) 43)], [], some ((IsBk o ∧ ∀ p ∈ bkOf o, p.1.ok) ∧ 0 ≤ n ∧ n < 8))
      | none => none
    | _, _, _ => none
  | _ => none

theorem ren_rigs (f : Nat → Nat) (l : List CV) (hl : ∀ c ∈ l, ∃ v, c = .rig v) : l = l.map (CV.ren f) := by
  induction l with
  | nil => rfl
  | cons c l ih =>
    obtain ⟨v, rfl⟩ := hl c (by simp)
    simp only [List.map_cons, CV.ren]
    rw [← ih fun c hc => hl c (by simp [hc])]

theorem memb1E_ok {args : List AV} {H : AH} {v : AV} {upd : List (Nat × AO)} {new : List AO} {pr : Option Prop} (h : memb1E args H = some (v, upd, new, pr)) (hp : Owed pr) (r : Nat → Nat) (W0 w : World) (hst : St r H W0 w) :
    Calls Try.prog 31 (args.map (AV.conc r)).toArray w fun e w' => ∃ r', Agree H.length r r' ∧ e = .returned (v.conc r') ∧ Moves r r' H.length upd new w w' := by
  unfold memb1E at h
  split at h
  · rename_i n i j k
    split at h
    · rename_i b vv a hb hv ha
      split at h
      · rename_i b' m o hbk
        simp only [Option.some.injEq, Prod.mk.injEq] at h
        obtain ⟨rfl, rfl, rfl, rfl⟩ := h
        obtain ⟨⟨hob, hL⟩, hn0, hn8⟩ := hp.some
        obtain ⟨hbb, ⟨fi, hi⟩, fj, hj⟩ := bookAt_eq hbk
        simp only [AV.tv.injEq, TV.one.injEq, CV.ptr.injEq, and_true] at hbb
        subst hbb
        obtain ⟨f1, h1⟩ := boxAt_eq hb
        obtain ⟨f2, h2⟩ := vecAt_eq hv
        obtain ⟨f3, h3⟩ := e8At_eq ha
        have hs := hst.sub [b, m, i, j, k] (rolH (bkOf o) vv a.cvs) (fun q y hy => by
          match q, hy with
          | 0, hy => cases hy; exact ⟨fi, hi⟩
          | 1, hy => cases hy; refine ⟨fj, ?_⟩; rw [show pick [b, m, i, j, k] 1 = m from rfl, hj]; simp only [AO.ren]; unfold IsBk at hob; rw [← hob]
          | 2, hy => cases hy; exact ⟨f1, h1⟩
          | 3, hy => cases hy; exact ⟨f2, h2⟩
          | 4, hy => cases hy; exact ⟨f3, h3⟩
          | q + 5, hy => simp [rolH] at hy) (by kernel_rfl) (by kernel_rfl)
        obtain ⟨q, rfl⟩ : ∃ q : Nat, n = (q : Int) := ⟨n.toNat, by omega⟩
        have hr := memb1_run hL vv a.a0 a.a1 a.a2 a.a3 a.a4 a.a5 a.a6 a.a7 q (by omega) hs
        have e1 : (([.r (.int .i64 (q : Int)), .c (.ptr 2 0), .c (.ptr 3 0), .c (.ptr 4 0)].map (AV.conc fun z => r (pick [b, m, i, j, k] z))).toArray) = (([AV.tv (.one (.rig (.int .i64 (q : Int)))), .tv (.one (.ptr i 0)), .tv (.one (.ptr j 0)), .tv (.one (.ptr k 0))].map (AV.conc r)).toArray) := rfl
        rw [e1] at hr
        refine hr.mono ?_
        rintro y w' ⟨rfl, hst'⟩
        rw [bkOf_mapO] at hst'
        refine ⟨r, Agree.refl _ _, rfl, Moves.sub [b, m, i, j, k] hst' _ (fun z x hzx => ?_) fun z y hy h2 => ?_⟩
        · simp only [List.mem_singleton, Prod.mk.injEq] at hzx
          obtain ⟨rfl, rfl⟩ := hzx
          refine ⟨4, _, rfl, rfl, ?_⟩
          simp only [AO.ren, Int.toNat_natCast, E8.cvs]
          congr 1
          exact ren_rigs _ _ fun c hc => by
            rcases List.mem_or_eq_of_mem_set hc with h | h
            · simp only [List.mem_cons, List.not_mem_nil, or_false] at h
              rcases h with rfl | rfl | rfl | rfl | rfl | rfl | rfl | rfl <;> exact ⟨_, rfl⟩
            · exact ⟨_, h⟩
        · match z, hy with
          | 0, hy => cases hy; cases h2
          | 1, hy => cases hy; cases h2
          | 2, hy => cases hy; cases h2
          | 3, hy => cases hy; cases h2
          | 4, hy => exact ⟨_, List.mem_singleton.2 rfl⟩
          | z + 5, hy => simp [rolH] at hy
      · simp at h
    · simp at h
  · simp at h

noncomputable def T7 : CT Try.prog :=
  (((T6.addE 15 addBE (by kernel_rfl) fun _ _ _ _ _ _ h hp r W0 w hst => addBE_ok h hp r W0 w hst).addQ 16 countsQ (by kernel_rfl) fun _ _ _ _ _ h hp r w hat => countsQ_ok h hp r w hat).addQ
    23 lenBQ (by kernel_rfl) fun _ _ _ _ _ h hp r w hat => lenBQ_ok h hp r w hat).addE 31 memb1E (by kernel_rfl) fun _ _ _ _ _ _ h hp r W0 w hst => memb1E_ok h hp r W0 w hst

end Go.Proofs.Ytodcebpdmjdplaa
