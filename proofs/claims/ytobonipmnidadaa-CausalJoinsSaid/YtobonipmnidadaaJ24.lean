/- The next one that is ready. The next one that is ready, as a callee. -/
import Derived.Test.YtobonipmnidadaaJ23
namespace Go.Proofs.Ytobonipmnidadaa
open Go.RowKit
set_option maxRecDepth 8000

def takeB (v : Vec) (m : Int) (e : Ev) : Bool := decide (m < 512) && readyB v e
def nextW (v : Vec) (m : Int) (E : Wt) : Option Ev := (ordE E).find? (takeB v m)

theorem find_pre {α : Type} {c : α → Bool} {L A : List α} {x : α} (h : A ++ [x] <+: L) (hA : ∀ y ∈ A, c y = false) (hx : c x = true) : L.find? c = some x := by
  obtain ⟨t, rfl⟩ := h
  rw [List.append_assoc, List.find?_append, List.find?_eq_none.2 (fun y hy => by rw [hA y hy]; simp)]
  simp [hx]

/-- What next ends with. -/
def nxR (r : Gh) (W0 : Base) (v : Vec) (m : Int) (E : Wt) (n : Nat) (x : Ending) (w : World) : Prop :=
  match nextW v m E with
  | none => x = .returned (.tuple #[zeroEv.v, .bool false]) ∧ ∃ g, Agree 2 r g ∧ St g (nxB v m E n) W0 w
  | some e => x = .returned (.tuple #[e.v, .bool true]) ∧ ∃ g, Agree 2 r g ∧ St g (nxB (bumpV v e.d.a.toNat) (IntKind.i64.wrap (m + 1)) (dropW E e.d) n) W0 w

theorem ino_of {g : Gh} {v : Vec} {m : Int} {E : Wt} {n : Nat} {x : Ev} {ok : Bool} {W0 : Base} {W : World} (h : St g (nxH v m E n x ok) W0 W) : Ino (g.b 5) (g.b 0) (g.b 1) v m E n W :=
  ⟨(h.at_ 5 _ rfl).1, (h.at_ 0 _ rfl).1, (h.at_ 1 _ rfl).1⟩

theorem St.laterB {r : Gh} {H : AH} {W0 : Base} {W W' : World} (h : St r H W0 W) (hb : Below W.heap.size W W') : St r H W0 W' :=
  h.abide (fun b hl _ => hb.block b hl) hb.os hb.tape hb.output hb.size

/-- What is no cells, and lies beyond, stays. -/
theorem St.keepsFromB {r r' : Gh} {H H' : AH} {W0 : Base} {W W' : World} {B : Nat} (h : St r H W0 W) (h' : St r' H' (base r H W) W') (hr : ∀ (b i : Nat) (x : AO × Nat), r.o b = some i → H[i]? = some x → x.1.isC = true ∨ b < B) : KeepsFrom B W W' := by
  refine ⟨h'.size, fun k o hB hk ho => ?_⟩
  refine (h'.frame k (Array.getElem?_eq_some_iff.1 hk).1 fun ⟨i, x, h1, h2, h3⟩ => ?_).trans hk
  rcases hr k i x h1 h2 with hc | hc
  · have hx := h.at_ i x h2
    cases hx1 : x.1 with
    | cells cs t =>
      rw [hx1] at hx
      rw [(hx.2 k).1 h1, hx.1] at hk
      simp only [Option.some.injEq] at hk
      rw [← hk] at ho; simp [Obj.isCells] at ho
    | _ => rw [hx1] at hc; simp [AO.isC] at hc
  · omega

theorem next_run {v : Vec} {m : Int} {E : Wt} {n : Nat} (hE : BornOk E n) (hlen : E.length ≤ 100000) (hv : v.ok) (hok : ∀ p ∈ E, p.1.ok) {r : Gh} {W0 : Base} {w : World} (hst : St r (nxB v m E n) W0 w) :
    Calls Try.prog 39 (([.c (.ptr 0 0)].map (AV.conc r)).toArray) w (nxR r W0 v m E n) := by
  refine (callsFw (ro := none) (n := 2)).1 (callsInMarks (fn := fnOf Try.prog 39) (c := bodyOf Try.prog 39) (by kernel_rfl) (by kernel_rfl) fun a0 hF0 hd0 => ?_)
  refine code_wp hmx TN [] [] (.range (.tmp 6) #[7] (.region 2 (opsAt Try.prog 39 2) false) nxBody nxK) (by kernel_rfl) (by kernel_rfl) trivial hF0 hst fun r2 w2 a2 hag2 hst2 hF2 hd2 => ?_
  have hs0 : St (r2.withO r2.o W0.im) (nxH v m E n zeroEv false) W0 w2 := St.dropIm (hst2.as (H2 := nxH v m E n zeroEv false) (by kernel_rfl)) (by kernel_rfl)
  have hF : FrameOk (r2.withO r2.o W0.im) nxF a2 := (hF2.as (by kernel_rfl)).withO0 _ _
  have hag : Agree 2 r (r2.withO r2.o W0.im) := hag2.trans (Agree.withO _ _ _ _) (Nat.le_refl _)
  have him : ∀ b, (r2.withO r2.o W0.im).im b → W0.im b := fun b hb => hb
  have hd : a2.defers = [] := by rw [hd2, hd0]
  clear hF0 hF2 hst2 hd0 hd2 hag2
  generalize r2.withO r2.o W0.im = r2 at *
  have hne : ∀ b, w2.heap.size ≤ b → r2.o b = none := fun b hb => hs0.none_ge hb
  have hsz := hs0.size
  have hmp : r2.b 1 < w2.heap.size := lt_of_at (hs0.at_ 1 _ rfl).1
  have hown : ∀ {g : Gh} {x : Ev} {ok : Bool} {v' : Vec} {m' : Int} {E' : Wt} {W : World} (_ : g.b 1 = r2.b 1) (hs : St g (nxH v' m' E' n x ok) W0 W) (b i : Nat) (y : AO × Nat), g.o b = some i → (nxH v' m' E' n x ok)[i]? = some y → y.1.isC = true ∨ b < w2.heap.size := fun hg hs b i y hb hy => by
    match i, hy with
    | 0, hy => cases hy; exact .inl rfl
    | 1, hy =>
      cases hy
      right
      rw [((hs.at_ 1 _ rfl).2 b).1 hb, hg]; exact hmp
    | 2, hy => cases hy; exact .inl rfl
    | 3, hy => cases hy; exact .inl rfl
    | 4, hy => cases hy; exact .inl rfl
    | 5, hy => cases hy; exact .inl rfl
    | i + 6, hy => simp [nxH, nxB] at hy
  have hI0 := ino_of hs0
  refine wpIn_rangeFunc_ownH (F := Fw none) rfl (by omega) (gf := 46) (lb := #[.pointer (some ⟨r2.b 5, 0, none⟩)]) ?hg trivial (fun _ _ => callFunc_run (by kernel_rfl) _ _)
    (inord_seq hE hlen hI0) (fun ha hb => ioKp_trans ha hb) (fun W l o o' hl ho h1 h2 => ?hKb) (Below.refl _ _) (fun _ => rfl)
    (fun pre W => St r2 (nxH v m E n zeroEv false) W0 W ∧ ∀ x ∈ pre, takeB v m x.1 = false)
    (fun c pre W => c = .ret ∧ ∃ A x, pre = A ++ [x] ∧ (∀ y ∈ A, takeB v m y.1 = false) ∧ takeB v m x.1 = true ∧ St r2 (nxH (bumpV v x.1.d.a.toNat) (IntKind.i64.wrap (m + 1)) (dropW E x.1.d) n x.1 true) W0 W)
    ?hI ?hIx ?h0
    (fun x a' W => ∃ D, FrameOk (bump r2 6 D) ((nxF.set 7 x.1.av).set 4 (.c (.ptr 6 0))) a' ∧ a'.defers = [] ∧ W.heap[D]? = some (.cells x.1.cells 37 (0, 0)) ∧ r2.o D = none ∧ ¬ r2.im D ∧ W0.w.heap.size ≤ D) ?hAx ?assign ?body ?done ?stop
  case hg => rw [hF.eval]; rfl
  case hKb =>
    have hb := belowK_b (n₀ := w2.heap.size) (w := w2) (Nat.le_refl _) W l o o' hl ho h1 h2
    refine ⟨fun h => h.later hb hI0.lt.1 hI0.lt.2.1 hI0.lt.2.2, KeepsWalks.putObj _ ho h2, fun k c f hk => ?_⟩
    have hne' : k ≠ l := fun e => by rw [e, ho] at hk; cases hk; simp [Obj.isCells] at h1
    exact World.putObj_heap_other hne'
  case hI => exact fun s A B row hs hg hr => ⟨St.ownC hs.1 (hown rfl hs.1) hsz hg hr, hs.2⟩
  case hIx =>
    rintro c s A B row ⟨h1, X, x, h2, h3, h4, h5⟩ hg hr
    exact ⟨h1, X, x, h2, h3, h4, St.ownC h5 (hown rfl h5) hsz hg hr⟩
  case h0 => exact ⟨hs0, fun x hx => by simp at hx⟩
  case hAx =>
    rintro x a' u A B row ⟨D, g1, gd, g2, g3⟩ hg hr
    exact ⟨D, g1, gd, (grownBy_keeps_cells hg (fun k e => (hr k e).2) g2 rfl).trans g2, g3⟩
  case assign =>
    rintro l pre x W K ⟨hs, hall⟩ hK
    refine reg_wp (ro := some l) (pre_wp TN 2 2 [] [] (by kernel_rfl) (by kernel_rfl) trivial (hF.round 7 x.1.av rfl) hs.toRd fun r3 w3 a3 hag3 hst3 hF3 hd3 => wpListIn_end (by kernel_rfl) ?_)
    have hb3 := hst3.belowR
    have hst4 : St r3 ((nxH v m E n zeroEv false).map (fun x => (x.1, 0)) ++ [(.cells x.1.cvs 37, 1)]) (rd r2 W) w3 := hst3.as (by kernel_rfl)
    have h6 := hst4.at_ 6 _ rfl
    have ho6 : r3.o (r3.b 6) = some 6 := (h6.2 _).2 rfl
    have hD : W.heap.size ≤ r3.b 6 := (hst4.wr _ 6 _ ho6 rfl (fun h => by cases h)).elim (fun h => h) fun h => h.elim
    refine hK a3 w3 (KeepsOthers.from ⟨hb3.size, fun k o hk _ => (hb3.block k (lt_of_at hk)).trans hk⟩ _) (ioKp_below hb3) ⟨hs.laterB hb3, hall⟩ ⟨r3.b 6, ?_, hd3, h6.1, ?_, fun hi => ?_, ?_⟩
    · refine FrameOk.agreeB (n := 7) (hF3.as (F2 := (nxF.set 7 x.1.av).set 4 (.c (.ptr 6 0))) (by kernel_rfl)) (fun i hi => ?_) (by kernel_rfl)
      simp only [bump]
      by_cases e : i = 6
      · subst e; simp
      · rw [if_neg e, hag3.b i (by simp [nxH, nxB]; omega)]
    · cases ho : r2.o (r3.b 6) with
      | none => rfl
      | some i => have := (hs.hold.ow _ i ho).2; omega
    · have := (hs.hold.imm _ hi).2; omega
    · have := hs.size; omega
  case body =>
    rintro l pre x a' W hl hrec ⟨hs, hall⟩ ⟨D, g1, gd, g2, g3, g4, g5⟩ hlen'
    have hm := St.more hs (by kernel_rfl) (D := D) (.cells x.1.cvs 37) rfl g2 g3 g4 g5
    have hxm := x.2
    obtain ⟨p, hp, hpx⟩ := List.mem_map.1 hxm
    have hxok : x.1.ok := by rw [← hpx]; exact hok p hp
    cases ht : takeB v m x.1 with
    | false =>
      refine nx_leave (ro := some l) ht hv hxok g1 hm.toRd fun r4 w4 a4 hag4 hst4 hd4 => ?_
      have hb4 := hst4.belowR
      refine ⟨KeepsOthers.from ⟨hb4.size, fun k o hk _ => (hb4.block k (lt_of_at hk)).trans hk⟩ _, ioKp_below hb4, hs.laterB hb4, fun y hy => ?_⟩
      rcases List.mem_append.1 hy with h1 | h1
      · exact hall y h1
      · rw [List.mem_singleton] at h1; subst h1; exact ht
    | true =>
      have ht2 := ht
      simp only [takeB, Bool.and_eq_true] at ht2
      have hf : (findW E x.1.d).isSome = true := by
        rw [← hpx]
        unfold findW
        rw [List.find?_isSome]
        exact ⟨p, hp, by simp [isD]⟩
      refine nx_take (ro := some l) ht2.1 hv hxok ht2.2 hf g1 hm.rebase fun r4 w4 a4 hag4 hst4 hd4 => ?_
      refine ⟨St.keepsFromB hm hst4 (fun b i y hb hy => ?_), rfl, pre, x, rfl, hall, ht, ?_⟩
      · have hi := (hm.hold.ow b i hb).1
        by_cases hi6 : i < 6
        · have hy' : (nxH v m E n zeroEv false)[i]? = some y := by rw [List.getElem?_append_left (by exact hi6)] at hy; exact hy
          match i, hy' with
          | 0, hy => cases hy; exact .inl rfl
          | 1, hy =>
            cases hy
            right
            have := ((hm.at_ 1 _ rfl).2 b).1 hb
            rw [this]; simpa [bump, nxH, nxB] using hmp
          | 2, hy => cases hy; exact .inl rfl
          | 3, hy => cases hy; exact .inl rfl
          | 4, hy => cases hy; exact .inl rfl
          | 5, hy => cases hy; exact .inl rfl
          | i + 6, hy => omega
        · obtain rfl : i = 6 := by simp [nxH, nxB] at hi; omega
          cases hy; exact .inl rfl
      · exact St.goBack' hs (St.take (nxH (bumpV v x.1.d.a.toNat) (IntKind.i64.wrap (m + 1)) (dropW E x.1.d) n x.1 true) (hm.trans hst4) (by kernel_rfl)) (((bump_agree r2 6 D).trans hag4 (by omega)).trans (Agree.withO 6 r4 _ _) (Nat.le_refl _)) (by kernel_rfl) (by kernel_rfl) (by kernel_rfl) (by kernel_rfl) (by kernel_rfl) him
  case done =>
    rintro D xs W hD hS ⟨hs, hall⟩ hk
    have hnone : nextW v m E = none := by
      unfold nextW
      have hS' : xs.map (·.1) = ordE E := hS
      rw [← hS', List.find?_eq_none]
      intro y hy
      obtain ⟨z, hz, rfl⟩ := List.mem_map.1 hy
      rw [hall z hz]; simp
    have hm := St.more hs (by kernel_rfl) (D := D) (.raw (.deferred (some []))) rfl hk (hne D hD) (fun hi => by obtain ⟨c, t, f, hc⟩ := hs.hold.imc D hi; rw [hk] at hc; cases hc) (by omega)
    have hF' : FrameOk (bump r2 6 D) nxF { a2 with defers := { target := .collected D, args := #[] } :: a2.defers } := FrameOk.agree (n := 6) hF (bump_agree r2 6 D) (by kernel_rfl)
    refine code_wp hmx (ro := none) TN [] [] .ret (by kernel_rfl) (by kernel_rfl) trivial hF' hm fun r5 w5 a5 hag5 hst5 hF5 hd5 => ?_
    refine (marksPost 6 (by kernel_rfl) (by kernel_rfl) (v := .tup [.agg zeroEv.cvs, .one (.rig (.bool false))]) (by kernel_rfl) hF5 hst5 ?_ fun W' hst' => ?_).1
    · rw [hd5, hd, hag5.at 6 (by kernel_rfl)]
      simp [bump]
    · unfold nxR
      rw [hnone]
      refine ⟨rfl, _, ?_, St.take (nxB v m E n) hst' (by kernel_rfl)⟩
      exact ((hag.trans (bump_agree r2 6 D) (by decide)).trans hag5 (by simp [nxH, nxB])).trans (Agree.withO 2 r5 _ _) (Nat.le_refl _)
  case stop =>
    rintro D c pre W hD hSp ⟨rfl, A, x, rfl, hall, ht, hs⟩ hk
    have hsome : nextW v m E = some x.1 := by
      have hp : (A.map (·.1)) ++ [x.1] <+: ordE E := by simpa using hSp
      refine find_pre hp (fun y hy => ?_) ht
      obtain ⟨z, hz, rfl⟩ := List.mem_map.1 hy
      exact hall z hz
    have hm := St.more hs (by kernel_rfl) (D := D) (.raw (.deferred (some []))) rfl hk (hne D hD) (fun hi => by obtain ⟨c, t, f, hc⟩ := hs.hold.imc D hi; rw [hk] at hc; cases hc) (by omega)
    have hF' : FrameOk (bump r2 6 D) nxF { a2 with defers := { target := .collected D, args := #[] } :: a2.defers } := FrameOk.agree (n := 6) hF (bump_agree r2 6 D) (by kernel_rfl)
    refine wpIn_ret ?_
    refine (marksPost 6 (by kernel_rfl) (by kernel_rfl) (v := .tup [.agg x.1.cvs, .one (.rig (.bool true))]) (by kernel_rfl) hF' hm ?_ fun W' hst' => ?_).1
    · rw [hd]
      simp [bump]
    · unfold nxR
      rw [hsome]
      refine ⟨rfl, _, ?_, St.take (nxB (bumpV v x.1.d.a.toNat) (IntKind.i64.wrap (m + 1)) (dropW E x.1.d) n) hst' (by kernel_rfl)⟩
      exact (hag.trans (bump_agree r2 6 D) (by decide)).trans (Agree.withO 2 _ _ _) (Nat.le_refl _)

end Go.Proofs.Ytobonipmnidadaa

namespace Go.Proofs.Ytobonipmnidadaa
open Go.RowKit
set_option maxRecDepth 8000

/-- A buffer behind next; what next hands back. -/
def stepV (v : Vec) (m : Int) (E : Wt) : Vec := match nextW v m E with | none => v | some e => bumpV v e.d.a.toNat
def stepM (v : Vec) (m : Int) (E : Wt) : Int := match nextW v m E with | none => m | some _ => IntKind.i64.wrap (m + 1)
def stepE (v : Vec) (m : Int) (E : Wt) : Wt := match nextW v m E with | none => E | some e => dropW E e.d
def stepO (v : Vec) (m : Int) (E : Wt) : Ev := (nextW v m E).getD zeroEv
def stepB (v : Vec) (m : Int) (E : Wt) : Bool := (nextW v m E).isSome
def nxV (v : Vec) (m : Int) (E : Wt) : AV := .tup [.agg (stepO v m E).cvs, .one (.rig (.bool (stepB v m E)))]

structure WtOk (v : Vec) (E : Wt) (n : Nat) : Prop where
  born : BornOk E n
  len : E.length ≤ 100000
  v : v.ok
  ev : ∀ p ∈ E, p.1.ok

theorem next_ctr {v : Vec} {m : Int} {E : Wt} {n : Nat} (h : WtOk v E n) : Ctr Try.prog 39 [.c (.ptr 0 0)] (nxB v m E n) (nxV v m E) (nxB (stepV v m E) (stepM v m E) (stepE v m E) n) := by
  intro r W0 w hst
  refine (next_run h.born h.len h.v h.ev hst).mono fun x w' hx => ?_
  unfold nxR at hx
  unfold nxV stepV stepM stepE stepO stepB
  cases hn : nextW v m E with
  | none =>
    rw [hn] at hx
    obtain ⟨rfl, g, h1, h2⟩ := hx
    exact ⟨g, h1, rfl, h2⟩
  | some e =>
    rw [hn] at hx
    obtain ⟨rfl, g, h1, h2⟩ := hx
    exact ⟨g, h1, rfl, h2⟩

noncomputable def nextE (args : List AV) (H : AH) : Option (AV × List (Nat × AO) × List AO × Option Prop) :=
  match args with
  | [.tv (.one (.ptr i 0))] => match H[i]? with
    | some (.cells cs t, _) => match bufOf cs with
      | some (v, m, j) => match H[j]? with
        | some (.raw o, _) => cond (Nat.beq t 62 && fewB H [i, j] [i, j] (nxB v m (wtOf o).1 (wtOf o).2))
            (some (nxV v m (wtOf o).1, [(i, .cells ((stepV v m (wtOf o).1).cvs ++ [.rig (.int .i64 (stepM v m (wtOf o).1)), .mp j]) 62), (j, .raw (mapO (stepE v m (wtOf o).1) (wtOf o).2))], [], some (IsWt o ∧ WtOk v (wtOf o).1 (wtOf o).2))) none
        | _ => none
      | none => none
    | _ => none
  | _ => none
theorem nextE_ok {args : List AV} {H : AH} {v : AV} {upd : List (Nat × AO)} {new : List AO} {pr : Option Prop} (h : nextE args H = some (v, upd, new, pr)) (hp : Owed pr) (r : Gh) (W0 : Base) (w : World) (hst : St r H W0 w) (hsc : H.scB = true) :
    Calls Try.prog 39 (args.map (AV.conc r)).toArray w fun e w' => ∃ r', Agree H.length r r' ∧ e = .returned (v.conc r') ∧ St r' (moveH H upd new) W0 w' := by
  unfold nextE at h
  split at h
  · rename_i i
    split at h
    · rename_i cs t g hH
      split at h
      · rename_i x m j hb
        split at h
        · rename_i o g' hJ
          cases hf : (Nat.beq t 62 && fewB H [i, j] [i, j] (nxB x m (wtOf o).1 (wtOf o).2)) with
          | false => simp [hf] at h
          | true =>
            simp only [hf, cond_true, Option.some.injEq, Prod.mk.injEq] at h
            obtain ⟨rfl, rfl, rfl, rfl⟩ := h
            simp only [Bool.and_eq_true, Nat.beq_eq] at hf
            obtain ⟨rfl, hf⟩ := hf
            obtain ⟨hwt, hok⟩ := hp.some
            unfold IsWt at hwt
            have hcs := bufOf_eq hb
            subst hcs
            exact (next_ctr (m := m) hok).lift hst hsc [i, j] [i, j] hf (by simp [selH, renH, nxB, hH, hJ, AO.ren, CV.ren, pick, Vec.cvs, ← hwt]) (by kernel_rfl) ⟨fun h => (by cases h), fun h => (by cases h), trivial⟩
        · simp at h
      · simp at h
    · simp at h
  · simp at h

noncomputable def TO : CT Try.prog := TN.addE 39 nextE (by kernel_rfl) fun _ _ _ _ _ _ h hp r W0 w hst _ hsc => nextE_ok h hp r W0 w hst hsc

end Go.Proofs.Ytobonipmnidadaa
