/- The keys, collected. -/
import Derived.Test.YtobonipmnidadaaJ15
import Derived.Test.YtobonipmnidadaaJ16
namespace Go.Proofs.Ytobonipmnidadaa
open Go.RowKit
set_option maxRecDepth 8000

theorem rep_dots {l : List Dot} {w : World} {root : Nat} {s : SV} {own im : Nat → Prop} : Rp (.dots l) w root s own im ↔ LstRep 26 l w s own :=
  ⟨fun h => by cases h with | prim h => exact h | comp H g hs => simp [shape] at hs, fun h => .prim h⟩
def KDot : LK Try.prog := {
  α := Dot
  inst := inferInstance
  toX := .dots
  ex := fun x => match x with | .dots l => some l | _ => none
  ex_mk := fun {x l} h => by cases x <;> simp at h; subst h; rfl
  e := 26
  by_ := 8
  z := .agg #[.int .u8 0, .int .u32 0]
  rep := rep_dots
  info := by kernel_rfl
  zero := by kernel_rfl
  zc := by rfl }
noncomputable def TL : CT Try.prog := (TK.addL KDot).addB

def dqNil : AV := .r (.slice none 0 0)
/-- The frame where the loop stands; in a round. -/
def dqF0 (clo : Value) (bs : Nat) : AF := [dqNil, .r clo, .r (.pointer (some ⟨bs, 0, none⟩)), .undef, dqNil, .undef, .r clo, .undef, .undef, .undef, .undef, .undef, .undef]
def dqF1 (clo : Value) (x : Dot) : AF := [dqNil, .r clo, .c (.ptr 0 0), .undef, dqNil, .c (.ptr 2 0), .r clo, x.av, .undef, .undef, .undef, .undef, .undef]

def dqAx (w : World) (clo : Value) (bs : Nat) (x : Dot) (a : Act) (W : World) : Prop :=
  ∃ v bx, W.heap[bs]? = some (.cells #[v] 74 (0, 0)) ∧ v.ownBlock ≠ some bx ∧ bx ≠ bs ∧ w.heap.size ≤ bx ∧ W.heap[bx]? = some (.cells x.cells 26 (0, 0)) ∧ FrameOk (apG bs bx v) (dqF1 clo x) a ∧ a.defers = []

theorem dqAx_own {w : World} {clo : Value} {bs B : Nat} (x : Dot) (a : Act) : OwnFrom B (fun (_ : Unit) W => dqAx w clo bs x a W) := by
  rintro u W W' row ⟨v, bx, h1, h2, h3, h4, h5, h6⟩ hg hr
  exact ⟨v, bx, (cells_stay hg hr h1).trans h1, h2, h3, h4, (cells_stay hg hr h5).trans h5, h6⟩

theorem dq_run {gf : Nat} {lb : Array Value} {Kp : World → World → Prop} {S Sp : List Dot → Prop} {N : Nat} {w : World} (hN : N ≤ 100000) (hseq : ∀ n, SeqStopsK (Fw none) n Try.prog gf lb (fun d : Dot => #[d.v]) Kp S Sp N w) (eg : ∀ args w, (callFunc gf args).run Try.prog w = .ok (.enter gf args) w)
    (hKt : ∀ {A B C : World}, Kp A B → Kp B C → Kp A C) (hKb : ∀ (W : World) (l : Nat) (o o' : Obj), w.heap.size ≤ l → W.heap[l]? = some o → o.isCells = false → o.isWalk = false → Kp W (W.putObj l o')) (hKp : ∀ A B, w.heap.size ≤ A.heap.size → Below w.heap.size A B → KeepsOthers A B → KeepsTy [74, 26] A B → Kp A B) :
    Calls Try.prog 59 #[.slice none 0 0, .func (.func gf) #[] lb] w fun e w' => ∃ xs v, S xs ∧ e = .returned v ∧ w'.ownsRow w.heap.size KDot.e 2 v xs.length (xs.flatMap Elt.cells) ∧ Below w.heap.size w w' := by
  let clo : Value := .func (.func gf) #[] lb
  refine (callsFw (ro := none) (n := 2)).1 (callsInMarks (args := [dqNil, .r clo]) (r := Gh.none.wipe) (fn := fnOf Try.prog 59)
    (c := (.seq (.region 0 (opsAt Try.prog 59 0) false) (.seq (.seq (.region 1 (opsAt Try.prog 59 1) false) (.block 0 (.rangeFunc (.tmp 6) #[7] (.region 2 (opsAt Try.prog 59 2) false) (.block 1 (.region 3 (opsAt Try.prog 59 3) false))))) (.seq (.region 4 (opsAt Try.prog 59 4) false) .ret)))) (by kernel_rfl) (by kernel_rfl) fun a0 hF0 hd0 => ?_)
  refine wpIn_seq (reg_wp (pre_wp TL 0 2 [] [] (by kernel_rfl) (by kernel_rfl) trivial hF0 (St.empty Gh.none w) fun r1 w1 a1 hag1 hst1 hF1 hd1 => wpListIn_end (by kernel_rfl) ?_))
  refine wpIn_seq (wpIn_seq (reg_wp (pre_wp TL 1 1 [] [] (by kernel_rfl) (by kernel_rfl) trivial hF1 hst1 fun r2 w2 a2 hag2 hst2 hF2 hd2 => wpListIn_end (by kernel_rfl) ?_)))
  have hst' : St r2 [(.cells [.rig (.slice none 0 0)] 74, 1)] (rd Gh.none.wipe w) w2 := hst2.as (by kernel_rfl)
  have hFr : FrameOk r2 [dqNil, .r clo, .c (.ptr 0 0), .undef, dqNil, .undef, .r clo, .undef, .undef, .undef, .undef, .undef, .undef] a2 := hF2.as (by kernel_rfl)
  have hd : a2.defers = [] := by rw [hd2, hd1, hd0]
  obtain ⟨bs, hbs⟩ : ∃ bs, r2.b 0 = bs := ⟨_, rfl⟩
  have hF : FrameOk Gh.none.wipe (dqF0 clo bs) a2 := hFr.reconc (by simp [dqF0, dqNil, AV.conc, TV.conc, CV.conc, hbs])
  have hb2 := hst'.belowR
  have hbox := hst'.at_ 0 _ rfl
  have hI0 : AppI KDot 74 w bs ([] : List Dot) w2 := by
    refine ⟨⟨.slice none 0 0, ?_, ⟨rfl, .inl ⟨rfl, rfl⟩⟩⟩, ?_, hb2⟩
    · rw [← hbs]; simpa [CV.conc] using hbox.1
    · rw [← hbs]
      exact (hst'.wr _ 0 _ ((hbox.2 _).2 rfl) rfl (by simp)).elim (fun h => h) fun h => h.elim
  have hsz := hb2.size
  clear hF0 hF1 hF2 hst1 hst2 hd0 hd1 hd2 hag1 hag2 hFr hst' hbox
  refine wpIn_block ?_
  refine wpIn_rangeFunc_ownH (F := Fw none) rfl (by omega) (gf := gf) (lb := lb) ?hg trivial eg
    (hseq _) hKt (fun W l o o' hl ho h1 h2 => hKb W l o o' (by omega) ho h1 h2) hb2 (fun _ => rfl)
    (fun pre W => AppI KDot 74 w bs pre W) (fun _ _ _ => False) (AppI.own (K := KDot) hsz) (fun _ _ _ _ _ h _ _ => h) hI0
    (fun x a' W => dqAx w clo bs x a' W) (fun x a' => dqAx_own x a') ?assign ?body ?done ?stop
  case hg => rw [hF.eval]; rfl
  case assign =>
    rintro l pre x W K hI hK
    refine reg_wp (ro := some l) (pre_wp TL 2 2 [] [] (by kernel_rfl) (by kernel_rfl) trivial (hF.round 7 x.av rfl) (St.empty Gh.none W) fun r3 w3 a3 hag3 hst3 hF3 hd3 => wpListIn_end (by kernel_rfl) ?_)
    have hst4 : St r3 [(.cells x.cvs 26, 1)] (rd Gh.none.wipe W) w3 := hst3.as (by kernel_rfl)
    have hbn := hst4.belowR
    have hx := hst4.at_ 0 _ rfl
    have hbx : W.heap.size ≤ r3.b 0 := (hst4.wr _ 0 _ ((hx.2 _).2 rfl) rfl (by simp)).elim (fun h => h) fun h => h.elim
    have hIW := hI
    obtain ⟨⟨v, h1, h2⟩, h3, h4⟩ := hI
    have hlt1 := (Array.getElem?_eq_some_iff.1 h1).1
    have hs4 := h4.size
    have hko : KeepsOthers W w3 := ⟨hbn.size, fun k o hk _ => (hbn.block k (Array.getElem?_eq_some_iff.1 hk).1).trans hk⟩
    refine hK a3 w3 (hko.from _) (hKp _ _ hs4 (hbn.mono hs4) hko (fun k c t f hk _ => hbn.block k (Array.getElem?_eq_some_iff.1 hk).1)) ?_ ⟨v, r3.b 0, (hbn.block _ hlt1).trans h1, fun e => ?_, by omega, by omega, ?_, ?_, hd3⟩
    · exact AppI.own (K := KDot) (B := W.heap.size) hs4 pre W w3 none hIW (grown_of_below hbn) (fun r e => by cases e)
    · rcases h2.2 with ⟨rfl, _⟩ | ⟨g, cap, cur, rfl, _, e3, _⟩
      · simp [Value.ownBlock] at e
      · simp only [Value.ownBlock, Option.some.injEq] at e
        have := (Array.getElem?_eq_some_iff.1 e3).1
        omega
    · exact hx.1
    · have h7 : FrameOk r3 [dqNil, .r clo, .r (.pointer (some ⟨bs, 0, none⟩)), .undef, dqNil, .c (.ptr 0 0), .r clo, x.av, .undef, .undef, .undef, .undef, .undef] a3 := hF3.as (by kernel_rfl)
      refine h7.reconc ?_
      simp [dqF1, dqNil, AV.conc, TV.conc, CV.conc, apG, Dot.av]
  case body =>
    rintro l pre x a' W hl hrec hI ⟨v, bx, g1, g2, g3, g4, g5, g6, g7⟩ hlen
    obtain ⟨⟨v', h1, h2⟩, h3, h4⟩ := hI
    rw [g1] at h1
    simp only [Option.some.injEq, Obj.cells.injEq, Array.mk.injEq, List.cons.injEq, and_true] at h1
    subst h1
    obtain ⟨hst, hcb⟩ := app_st (K := KDot) (w := w) (c := x.cvs) (by kernel_rfl) h3 h4 g1 h2 g5 g4 g3 g2
    refine code_wp hmx (ro := some l) TL [] [roomOk (pre.length + 1) 8] .norm (by kernel_rfl) (by kernel_rfl) ⟨⟨by simp only [maxLen]; omega, by omega⟩, trivial⟩ g6 hst.rebase fun r4 w4 a4 hag4 hst4 hF4 hd4 => ?_
    obtain ⟨hk, hkt⟩ := St.keepsCB (ts := [74, 26]) (fun b i h => by obtain ⟨c, t, f, e1, e2⟩ := hcb b i h; exact ⟨c, t, f, e1, by rcases e2 with rfl | rfl | rfl <;> simp [KDot]⟩) hst4
    have hst5 := hst.trans hst4
    have hb4 : Below w.heap.size W w4 := ⟨hst4.os, hst4.tape, hst4.output, hst4.size, fun k hk => (hst5.belowR.block k hk).trans (h4.block k hk).symm⟩
    refine ⟨hk.from _, hKp _ _ h4.size hb4 hk hkt, ?_⟩
    exact st_app (rest := []) (St.take [(.cells [.sl 4] 74, 1), (.abs 4 (KDot.toX (pre ++ [x])), 1)] hst5 (by kernel_rfl)) (hag4.at 0 (by kernel_rfl))
  case done =>
    rintro D xs W hD hS hI hk
    have hIW := hI
    obtain ⟨⟨v, h1, h2⟩, h3, h4⟩ := hI
    have hne : bs ≠ D := fun e => by rw [e, hk] at h1; cases h1
    have hst := st_two (W := W) (o0 := .cells [.rig v] 74) (o1 := .raw (.deferred (some []))) (f0 := 0) (f1 := 1) hne rfl rfl (by simpa [AO.conc, CV.conc] using h1) hk
    have hF' : FrameOk (twoG bs D) [dqNil, .r clo, .c (.ptr 0 0), .undef, dqNil, .undef, .r clo, .undef, .undef, .undef, .undef, .undef, .undef] { a2 with defers := { target := .collected D, args := #[] } :: a2.defers } := FrameOk.reconc (a := { a2 with defers := { target := .collected D, args := #[] } :: a2.defers }) (r := Gh.none.wipe) (F := dqF0 clo bs) hF (by simp [dqF0, dqNil, AV.conc, TV.conc, CV.conc, twoG])
    refine wpIn_seq (reg_wp (pre_wp TL 4 2 [] [] (by kernel_rfl) (by kernel_rfl) trivial hF' hst fun r5 w5 a5 hag5 hst5 hF5 hd5 => wpListIn_end (by kernel_rfl) (wpIn_ret ?_)))
    refine (marksPost 1 (by kernel_rfl) (by kernel_rfl) (v := .r v) (by kernel_rfl) hF5 hst5 ?_ fun W' hst' => ?_).1
    · rw [hd5, hd, hag5.at 1 (by kernel_rfl)]
      rfl
    · have hW' := AppI.own (K := KDot) (B := w.heap.size) (Nat.le_refl _) xs W W' (some D) hIW hst'.grownTwo (fun r e => by cases e; exact ⟨by omega, _, hk, rfl⟩)
      obtain ⟨⟨v', h1', h2'⟩, -, h4'⟩ := hW'
      have hv : v' = v := by
        have := hst'.grownTwo.block bs (Array.getElem?_eq_some_iff.1 h1).1 (fun e => hne (by cases e; rfl))
        rw [h1, h1'] at this
        simpa using this
      subst hv
      exact ⟨xs, v', hS, rfl, h2', h4'⟩
  case stop => exact fun D c pre W _ _ h _ => h.elim

theorem dqc_run {gf : Nat} {lb : Array Value} {Kp : World → World → Prop} {S Sp : List Dot → Prop} {N : Nat} {w : World} (hN : N ≤ 100000) (hseq : ∀ n, SeqStopsK (Fw none) n Try.prog gf lb (fun d : Dot => #[d.v]) Kp S Sp N w) (eg : ∀ args w, (callFunc gf args).run Try.prog w = .ok (.enter gf args) w)
    (hKt : ∀ {A B C : World}, Kp A B → Kp B C → Kp A C) (hKb : ∀ (W : World) (l : Nat) (o o' : Obj), w.heap.size ≤ l → W.heap[l]? = some o → o.isCells = false → o.isWalk = false → Kp W (W.putObj l o')) (hKp : ∀ A B, w.heap.size ≤ A.heap.size → Below w.heap.size A B → KeepsOthers A B → KeepsTy [74, 26] A B → Kp A B) :
    Calls Try.prog 54 #[.func (.func gf) #[] lb] w fun e w' => ∃ xs v, S xs ∧ e = .returned v ∧ w'.ownsRow w.heap.size KDot.e 2 v xs.length (xs.flatMap Elt.cells) ∧ Below w.heap.size w w' := by
  refine (callsFw (ro := none) (n := 0)).1 (callsInStart (args := [.r (.func (.func gf) #[] lb)]) (r := Gh.none.wipe) (fn := fnOf Try.prog 54)
    (c := (.seq (.region 0 (opsAt Try.prog 54 0) false) (.seq (.region 1 (opsAt Try.prog 54 1) false) .ret))) (by kernel_rfl) (by kernel_rfl) fun a0 hF0 hd0 => ?_)
  refine wpIn_seq (reg_wp (pre_wp TL 0 1 [] [] (by kernel_rfl) (by kernel_rfl) trivial hF0 (St.empty Gh.none w) fun r1 w1 a1 hag1 hst1 hF1 hd1 => wpListIn_end (by kernel_rfl) ?_))
  refine wpIn_seq (reg_wp (pre_wp TL 1 1 [] [] (by kernel_rfl) (by kernel_rfl) trivial hF1 hst1 fun r2 w2 a2 hag2 hst2 hF2 hd2 => ?_))
  have hb2 := hst2.belowR
  have hs2 := hb2.size
  refine call_wp (f := 59) (args := [dqNil, .r (.func (.func gf) #[] lb)]) hF2 (by kernel_rfl) (by kernel_rfl) (by kernel_rfl) (dq_run (w := w2) hN (fun n => stopsK_later (hseq n) hb2) eg hKt (fun W l o o' hl => hKb W l o o' (by omega)) (fun A B h1 h2 h3 h4 => hKp A B (by omega) (h2.mono hs2) h3 h4)) fun e w3 ⟨xs, v, hS, he, hrow, hb3⟩ => ⟨v, he, fun a3 hF3 hd3 => ?_⟩
  refine pre_wp TL 1 1 (i := 2) [] [] (by kernel_rfl) (by kernel_rfl) trivial hF3.wipe (St.empty r2 w3) fun r4 w4 a4 hag4 hst4 hF4 hd4 => wpListIn_end (by kernel_rfl) (wpIn_ret ?_)
  have hb4 := hst4.belowR
  refine (bodyPost_of (v := .r v) (by kernel_rfl) hF4 hst4 (by rw [hd4, hd3, hd2, hd1, hd0]) ⟨xs, v, hS, rfl, ?_, hb2.trans ((hb3.mono hs2).trans (hb4.mono (by have := hb3.size; omega)))⟩).1
  exact row_stay (B := 0) (ownsRow_mono hrow hs2) (grown_of_below hb4) (fun r e => by cases e)

end Go.Proofs.Ytobonipmnidadaa
