/- Role. The map of the book: looked up, and written in. The book's map by what it holds; the operations on it, for the run. -/
import Derived.Test.YtodcebpdmjdplaaJ12
namespace Go.Proofs.Ytodcebpdmjdplaa
open Go.RowKit

def leastOf (l pre : List Ev) : Int := (pre.filter fun e => lastB e l).foldl (fun a e => min a e.role) 3
def someOf (who : Int) (l pre : List Ev) : Bool := who == 0 || pre.any fun e => lastB e l
def roleM (L : Bk) (who : Int) (v : Vec) : Int := if 8 ≤ who then 0 else if someOf who (aboutL L who v) (aboutL L who v) then leastOf (aboutL L who v) (aboutL L who v) else 0

theorem leastOf_snoc (l pre : List Ev) (x : Ev) : leastOf l (pre ++ [x]) = if lastB x l then min (leastOf l pre) x.role else leastOf l pre := by
  unfold leastOf
  rw [List.filter_append, List.foldl_append]
  cases hb : lastB x l <;> simp [hb]
theorem someOf_snoc (who : Int) (l pre : List Ev) (x : Ev) : someOf who l (pre ++ [x]) = (someOf who l pre || lastB x l) := by
  simp [someOf, Bool.or_assoc]

theorem min_swap (a : Int) (x y : Ev) : min (min a x.role) y.role = min (min a y.role) x.role := by omega
theorem leastOf_perm {l pre pre' : List Ev} (h : pre.Perm pre') : leastOf l pre = leastOf l pre' := by
  unfold leastOf
  exact (h.filter _).foldl_eq' (fun x _ y _ z => min_swap z x y) 3
theorem someOf_perm {who : Int} {l pre pre' : List Ev} (h : pre.Perm pre') : someOf who l pre = someOf who l pre' := by
  unfold someOf
  congr 1
  rw [Bool.eq_iff_iff]
  simp only [List.any_eq_true]
  exact ⟨fun ⟨x, hx, e⟩ => ⟨x, h.mem_iff.1 hx, e⟩, fun ⟨x, hx, e⟩ => ⟨x, h.mem_iff.2 hx, e⟩⟩

def roH (L : Bk) (who : Int) (v : Vec) (least : Int) (some : Bool) : AH :=
  [(.cells [.mp 1] 65, 0), (.raw (mapO L), 0), (.cells v.cvs 27, 1), (.cells [.ptr 0 0] 32, 1), (.cells [.rig (.int .u8 who)] 5, 1), (.cells v.cvs 27, 1),
    (.cells [.clo 40 [(3, 0), (4, 0), (5, 0)]] 67, 1), (.cells [.rig (.int .u8 least)] 29, 1), (.cells [.rig (.bool some)] 4, 1)]

/-- The iterator's blocks, as the run knows them. -/
theorem abt_of {r : Gh} {H : AH} {W : World} {L : Bk} {who : Int} {v : Vec} (h : At r H [0, 1, 3, 4, 5] W)
    (h0 : (H[0]?).map (·.1) = some (.cells [.mp 1] 65)) (h1 : (H[1]?).map (·.1) = some (.raw (mapO L))) (h3 : (H[3]?).map (·.1) = some (.cells [.ptr 0 0] 32)) (h4 : (H[4]?).map (·.1) = some (.cells [.rig (.int .u8 who)] 5)) (h5 : (H[5]?).map (·.1) = some (.cells v.cvs 27)) :
    Abt (r.b 0) (r.b 1) (r.b 3) (r.b 4) (r.b 5) who v L W := by
  have key : ∀ i o, i ∈ [0, 1, 3, 4, 5] → (H[i]?).map (·.1) = some o → o.blk = true → W.heap[r.b i]? = some (o.conc r) := fun i o hi ho hb => by
    cases hx : H[i]? with
    | none => simp [hx] at ho
    | some x =>
      simp [hx] at ho
      have := h.get hi hx
      rw [ho, AO.holds_blk hb] at this
      exact this.1
  exact ⟨key 0 _ (by simp) h0 rfl, key 1 _ (by simp) h1 rfl, key 3 _ (by simp) h3 rfl, key 4 _ (by simp) h4 rfl, key 5 _ (by simp) h5 rfl⟩

def roLast (H : AH) (x : Ev) (res : Bool) : Prop := ∀ (r : Gh) (w : World), At r H [0, 1, 3, 4, 5] w → Calls Try.prog 30 (([x.av, .c (.clo 40 [(3, 0), (4, 0), (5, 0)])].map (AV.conc r)).toArray) w fun e w' => e = .returned ((AV.b res).conc r) ∧ Below w.heap.size w w'

theorem roLast_ok {L : Bk} (hL : ∀ p ∈ L, p.1.ok) {x : Ev} (hx : x.d.ok) {who : Int} {v : Vec} {H : AH}
    (h0 : (H[0]?).map (·.1) = some (.cells [.mp 1] 65)) (h1 : (H[1]?).map (·.1) = some (.raw (mapO L))) (h3 : (H[3]?).map (·.1) = some (.cells [.ptr 0 0] 32)) (h4 : (H[4]?).map (·.1) = some (.cells [.rig (.int .u8 who)] 5)) (h5 : (H[5]?).map (·.1) = some (.cells v.cvs 27)) :
    roLast H x (lastB x (aboutL L who v)) := fun _ _ hat => last_run hL hx (abt_of hat h0 h1 h3 h4 h5)

def roF (who : Int) (v : Vec) : AF :=
  [.c (.ptr 0 0), .r (.int .u8 who), v.av, .undef, .undef, .c (.ptr 2 0), .r (.int .u8 0), .c (.ptr 6 0), .c (.ptr 7 0), .c (.ptr 8 0), .undef, .c (.ptr 0 0), .b false, .b false, .r (.int .u8 who), .b (decide (who ≥ 8)), .b false, .c (.ptr 0 0), .r (.int .u8 who), v.av,
    .c (.clo 40 [(3, 0), (4, 0), (5, 0)]), .r (.int .u8 who), .b (who == 0), .c (.clo 40 [(3, 0), (4, 0), (5, 0)]), .undef, .undef, .undef, .undef, .undef, .undef, .undef, .undef, .undef, .undef, .undef, .undef]

noncomputable def roK : List KI := [.blk 0, .code (.seq (.seq (.region 10 (opsAt Try.prog 18 10) false) (.cond (.tmp 34) (.seq (.region 11 (opsAt Try.prog 18 11) false) .ret) .skip)) (.seq (.region 12 (opsAt Try.prog 18 12) false) .ret))]

theorem role_run {L : Bk} (hL : ∀ p ∈ L, p.1.ok) (who : Int) (v : Vec) {r : Gh} {w : World} (hst : St r [(.cells [.mp 1] 65, 0), (.raw (mapO L), 0)] (rd r w) w) :
    Calls Try.prog 18 (([.c (.ptr 0 0), .r (.int .u8 who), v.av].map (AV.conc r)).toArray) w fun x w' => x = .returned (.int .u8 (roleM L who v)) ∧ Below w.heap.size w w' := by
  cases hwho : decide (who ≥ 8) with
  | true =>
    have hrun : fnA Try.prog T4 18 [.c (.ptr 0 0), .r (.int .u8 who), v.av] [(.cells [.mp 1] 65, 0), (.raw (mapO L), 0)] [.c 16 true] = some (.r (.int .u8 0), [(.cells [.mp 1] 65, 0), (.raw (mapO L), 0), (.cells v.cvs 27, 1)], [decide (who ≥ 8) = true]) := by kernel_rfl
    refine (fnA_calls hmx hrun ⟨hwho, trivial⟩ hst).mono ?_
    rintro e w' ⟨r1, -, rfl, hst1⟩
    refine ⟨?_, hst1.belowR⟩
    have : 8 ≤ who := by simpa using hwho
    simp [roleM, this, AV.conc, TV.conc, CV.conc]
  | false =>
    have hlt8 : ¬ 8 ≤ who := by simpa using hwho
    refine (callsFw (ro := none) (n := 2)).1 (callsInMarks (fn := fnOf Try.prog 18) (c := bodyOf Try.prog 18) (by kernel_rfl) (by kernel_rfl) fun a0 hF0 hd0 => ?_)
    refine code_wp hmx T4 [.c 16 false] [decide (who ≥ 8) = false] (.range (.tmp 23) #[24] (.region 6 (opsAt Try.prog 18 6) false) (.block 1 (.seq (.seq (.region 7 (opsAt Try.prog 18 7) false) (.cond (.tmp 28) (.exit 1) .skip)) (.seq (.region 8 (opsAt Try.prog 18 8) false) (.region 9 (opsAt Try.prog 18 9) false)))) roK) (by kernel_rfl) (by kernel_rfl) ⟨hwho, trivial⟩ hF0 hst fun r2 w2 a2 hag2 hst2 hF2 hd2 => ?_
    have hs0 : St (r2.withO r2.o r.im) (roH L who v 3 (who == 0)) (rd r w) w2 := St.dropIm (hst2.as (H2 := roH L who v 3 (who == 0)) (by kernel_rfl)) (by kernel_rfl)
    have hF : FrameOk (r2.withO r2.o r.im) (roF who v) a2 := (hF2.as (by kernel_rfl)).withO0 _ _
    have him : ∀ b, (r2.withO r2.o r.im).im b → (rd r w).im b := fun b hb => hb
    have hd : a2.defers = [] := by rw [hd2, hd0]
    clear hF0 hF2 hst2 hd0 hd2 hag2
    generalize r2.withO r2.o r.im = r2 at *
    have hne : ∀ b, w2.heap.size ≤ b → r2.o b = none := fun b hb => hs0.none_ge hb
    have hsz := hs0.size
    have hown9 : ∀ {g : Gh} {l : Int} {sm : Bool} {W : World} (_ : Agree 9 r2 g) (hs : St g (roH L who v l sm) (rd r w) W) (b i : Nat) (x : AO × Nat), g.o b = some i → (roH L who v l sm)[i]? = some x → x.1.isC = true ∨ b < w2.heap.size := fun hag hs b i x hb hx => by
      match i, hx with
      | 0, hx => cases hx; exact .inl rfl
      | 1, hx =>
        cases hx
        right
        have h1 := (hs.at_ 1 _ rfl).2 b |>.1 hb
        have h2 := hs0.lt (i := 1) (x := (.raw (mapO L), 0)) rfl rfl
        rw [h1, hag.b 1 (by omega)]; exact h2
      | 2, hx => cases hx; exact .inl rfl
      | 3, hx => cases hx; exact .inl rfl
      | 4, hx => cases hx; exact .inl rfl
      | 5, hx => cases hx; exact .inl rfl
      | 6, hx => cases hx; exact .inl rfl
      | 7, hx => cases hx; exact .inl rfl
      | 8, hx => cases hx; exact .inl rfl
      | i + 9, hx => simp [roH] at hx
    have hA : Abt (r2.b 0) (r2.b 1) (r2.b 3) (r2.b 4) (r2.b 5) who v L w2 := abt_of (hs0.At _) (by kernel_rfl) (by kernel_rfl) (by kernel_rfl) (by kernel_rfl) (by kernel_rfl)
    generalize hl0 : aboutL L who v = l0 at *
    refine wpIn_rangeFunc_ownH (F := Fw none) rfl (by omega) (gf := 40) (lb := #[.pointer (some ⟨r2.b 3, 0, none⟩), .pointer (some ⟨r2.b 4, 0, none⟩), .pointer (some ⟨r2.b 5, 0, none⟩)]) ?hg trivial (fun _ _ => callFunc_run (by kernel_rfl) _ _)
      (about1_seq hL hA) (fun ha hb => ⟨fun h => hb.1 (ha.1 h), ha.2.trans hb.2⟩) (fun W l o o' hl ho h1 h2 => ⟨fun hA' => hA'.later (belowK_b (Nat.le_refl _) W l o o' hl ho h1 h2) (lt_of_at hA.book) (lt_of_at hA.map_) (lt_of_at hA.c0) (lt_of_at hA.c1) (lt_of_at hA.c2), KeepsWalks.putObj _ ho h2⟩) (Below.refl _ _) (fun _ => rfl)
      (fun pre W => St r2 (roH L who v (leastOf l0 (pre.map (·.1))) (someOf who l0 (pre.map (·.1)))) (rd r w) W)
      (fun c pre W => False)
      ?hI ?hIx ?h0
      (fun x a' W => ∃ D, FrameOk (bump r2 9 D) (((roF who v).set 24 x.1.av).set 10 (.c (.ptr 9 0))) a' ∧ a'.defers = [] ∧ W.heap[D]? = some (.cells x.1.cells 31 (0, 0)) ∧ r2.o D = none ∧ ¬ r2.im D ∧ w.heap.size ≤ D) ?hAx ?assign ?body ?done ?stop
    case hg => rw [hF.eval]; rfl
    case hI => exact fun s A B row hs hg hr => St.ownC hs (hown9 (Agree.refl _ _) hs) hsz hg hr
    case hIx => exact fun c s A B row hs hg hr => hs
    case h0 => simpa [leastOf, someOf] using hs0
    case hAx =>
      rintro x a' u A B row ⟨D, g1, gd, g2, g3⟩ hg hr
      exact ⟨D, g1, gd, (grownBy_keeps_cells hg (fun k e => (hr k e).2) g2 rfl).trans g2, g3⟩
    case assign =>
      rintro l pre x W K hs hK
      refine reg_wp (ro := some l) (pre_wp T4 6 2 [] [] (by kernel_rfl) (by kernel_rfl) trivial (hF.round 24 x.1.av rfl) (St.rebase hs) fun r3 w3 a3 hag3 hst3 hF3 hd3 => wpListIn_end (by kernel_rfl) ?_)
      have hk := St.keepsOthers hs hst3 (by kernel_rfl)
      have hst4 : St r3 ((roH L who v (leastOf l0 (pre.map (·.1))) (someOf who l0 (pre.map (·.1)))) ++ [(.cells x.1.cvs 31, 1)]) (rd r w) w3 := (hs.trans hst3).as (by kernel_rfl)
      have hag : Agree 9 r2 r3 := hag3
      have hs' : St r2 (roH L who v (leastOf l0 (pre.map (·.1))) (someOf who l0 (pre.map (·.1)))) (rd r w) w3 := St.goBack hs (St.take (roH L who v (leastOf l0 (pre.map (·.1))) (someOf who l0 (pre.map (·.1)))) hst4 (by kernel_rfl)) (hag.trans (Agree.withO 9 r3 _ _) (Nat.le_refl _)) (by kernel_rfl) (by kernel_rfl) him
      have h9 := hst4.at_ 9 _ rfl
      have ho9 : r3.o (r3.b 9) = some 9 := (h9.2 _).2 rfl
      refine hK a3 w3 (hk.from _) ⟨fun _ => abt_of (hs'.At _) (by kernel_rfl) (by kernel_rfl) (by kernel_rfl) (by kernel_rfl) (by kernel_rfl), hk.walks⟩ hs' ⟨r3.b 9, ?_, hd3, h9.1, ?_, ?_, ?_⟩
      · refine FrameOk.agreeB (n := 10) (hF3.as (F2 := ((roF who v).set 24 x.1.av).set 10 (.c (.ptr 9 0))) (by kernel_rfl)) (fun i hi => ?_) (by kernel_rfl)
        simp only [bump]
        by_cases e : i = 9
        · subst e; simp
        · rw [if_neg e, hag.b i (by omega)]
      · cases ho : r2.o (r3.b 9) with
        | none => rfl
        | some i =>
          exfalso
          have hi := (hs.hold.ow _ i ho).1
          have hi : i < 9 := hi
          obtain ⟨y, hy⟩ : ∃ y, ((roH L who v (leastOf l0 (pre.map (·.1))) (someOf who l0 (pre.map (·.1)))))[i]? = some y := ⟨_, List.getElem?_eq_getElem hi⟩
          have hyb : y.1.blk = true := List.all_eq_true.1 (show allB (roH L who v (leastOf l0 (pre.map (·.1))) (someOf who l0 (pre.map (·.1)))) = true by kernel_rfl) y (List.mem_of_getElem? hy)
          have e1 := (hs.ownB hy hyb _).1 ho
          rw [← hag.b i hi] at e1
          have hy4 : ((roH L who v (leastOf l0 (pre.map (·.1))) (someOf who l0 (pre.map (·.1)))) ++ [(.cells x.1.cvs 31, 1)])[i]? = some y := by rw [List.getElem?_append_left (by exact hi)]; exact hy
          have e2 := (hst4.ownB hy4 hyb (r3.b 9)).2 e1
          rw [ho9] at e2; cases e2; omega
      · intro hi
        have := (hst4.hold.imm _ (hst4.im0 _ (him _ hi))).1
        rw [ho9] at this; cases this
      · exact (hst4.wr _ 9 _ ho9 rfl (fun h => by cases h)).elim (fun h => h) fun h => h.elim
    case body =>
      rintro l pre x a' W hl hrec hs ⟨D, g1, gd, g2, g3, g4, g5⟩ hlen
      have hm := St.more hs (by kernel_rfl) (D := D) (.cells x.1.cvs 31) rfl g2 g3 g4 g5
      have hmap : (pre ++ [x]).map (·.1) = pre.map (·.1) ++ [x.1] := by simp
      cases hlast : lastB x.1 l0 with
      | false =>
        refine code_wp hmx (ro := some l) T4 [.k 7002 (.b false) [0, 1, 3, 4, 5]] [roLast ((roH L who v (leastOf l0 (pre.map (·.1))) (someOf who l0 (pre.map (·.1)))) ++ [(.cells x.1.cvs 31, 1)]) x.1 false] .norm (by kernel_rfl) (by kernel_rfl) ⟨by rw [← hlast, ← hl0]; exact roLast_ok hL x.2.d (by kernel_rfl) (by kernel_rfl) (by kernel_rfl) (by kernel_rfl) (by kernel_rfl), trivial⟩ g1 hm.rebase fun r4 w4 a4 hag4 hst4 hF4 hd4 => ?_
        have hk := St.keepsOthers hm hst4 (by kernel_rfl)
        have hs' : St r2 (roH L who v (leastOf l0 (pre.map (·.1))) (someOf who l0 (pre.map (·.1)))) (rd r w) w4 := St.goBack hs (St.take (roH L who v (leastOf l0 (pre.map (·.1))) (someOf who l0 (pre.map (·.1)))) (hm.trans hst4) (by kernel_rfl)) (((bump_agree r2 9 D).trans hag4 (by simp [roH])).trans (Agree.withO 9 r4 _ _) (Nat.le_refl _)) (by kernel_rfl) (by kernel_rfl) him
        refine ⟨hk.from _, ⟨fun _ => abt_of (hs'.At _) (by kernel_rfl) (by kernel_rfl) (by kernel_rfl) (by kernel_rfl) (by kernel_rfl), hk.walks⟩, ?_⟩
        show St r2 (roH L who v (leastOf l0 ((pre ++ [x]).map (·.1))) (someOf who l0 ((pre ++ [x]).map (·.1)))) (rd r w) w4
        rw [hmap, leastOf_snoc, someOf_snoc, hlast]
        simpa using hs'
      | true =>
        refine code_wp hmx (ro := some l) T4 [.k 7002 (.b true) [0, 1, 3, 4, 5]] [roLast ((roH L who v (leastOf l0 (pre.map (·.1))) (someOf who l0 (pre.map (·.1)))) ++ [(.cells x.1.cvs 31, 1)]) x.1 true] .norm (by kernel_rfl) (by kernel_rfl) ⟨by rw [← hlast, ← hl0]; exact roLast_ok hL x.2.d (by kernel_rfl) (by kernel_rfl) (by kernel_rfl) (by kernel_rfl) (by kernel_rfl), trivial⟩ g1 hm.rebase fun r4 w4 a4 hag4 hst4 hF4 hd4 => ?_
        have hk := St.keepsOthers hm hst4 (by kernel_rfl)
        have hs' : St r2 (roH L who v (min (leastOf l0 (pre.map (·.1))) x.1.role) true) (rd r w) w4 := St.goBack' hs (St.take (roH L who v (min (leastOf l0 (pre.map (·.1))) x.1.role) true) (hm.trans hst4) (by kernel_rfl)) (((bump_agree r2 9 D).trans hag4 (by simp [roH])).trans (Agree.withO 9 r4 _ _) (Nat.le_refl _)) (by kernel_rfl) (by kernel_rfl) (by kernel_rfl) (by kernel_rfl) (by kernel_rfl) him
        refine ⟨hk.from _, ⟨fun _ => abt_of (hs'.At _) (by kernel_rfl) (by kernel_rfl) (by kernel_rfl) (by kernel_rfl) (by kernel_rfl), hk.walks⟩, ?_⟩
        show St r2 (roH L who v (leastOf l0 ((pre ++ [x]).map (·.1))) (someOf who l0 ((pre ++ [x]).map (·.1)))) (rd r w) w4
        rw [hmap, leastOf_snoc, someOf_snoc, hlast]
        simpa using hs'
    case done =>
      rintro D xs W hD hS hs hk
      rw [leastOf_perm (l := l0) (hl0 ▸ hS), someOf_perm (who := who) (l := l0) (hl0 ▸ hS)] at hs
      have hr : roleM L who v = if someOf who l0 l0 then leastOf l0 l0 else 0 := by simp only [roleM, hl0, hlt8, if_false]
      generalize leastOf l0 l0 = least at hs hr
      generalize someOf who l0 l0 = sm at hs hr
      have hm := St.more hs (by kernel_rfl) (D := D) (.raw (.deferred (some []))) rfl hk (hne D hD) (fun hi => by obtain ⟨c, t, f, hc⟩ := hs.hold.imc D hi; rw [hk] at hc; cases hc) (by have := hsz; show w.heap.size ≤ D; have : w.heap.size ≤ w2.heap.size := hsz; omega)
      have hF' : FrameOk (bump r2 9 D) (roF who v) { a2 with defers := { target := .collected D, args := #[] } :: a2.defers } := FrameOk.agree (n := 9) hF (bump_agree r2 9 D) (by kernel_rfl)
      cases sm with
      | false =>
        refine code_wp hmx (ro := none) T4 [] [] .ret (by kernel_rfl) (by kernel_rfl) trivial hF' hm fun r5 w5 a5 hag5 hst5 hF5 hd5 => ?_
        refine (marksPost 9 (by kernel_rfl) (by kernel_rfl) (v := .r (.int .u8 0)) (by kernel_rfl) hF5 hst5 ?_ fun W' hst' => ⟨?_, hst'.belowR⟩).1
        · rw [hd5, hd, hag5.at 9 (by kernel_rfl)]
          simp [bump]
        · rw [hr]; rfl
      | true =>
        refine code_wp hmx (ro := none) T4 [] [] .ret (by kernel_rfl) (by kernel_rfl) trivial hF' hm fun r5 w5 a5 hag5 hst5 hF5 hd5 => ?_
        refine (marksPost 9 (by kernel_rfl) (by kernel_rfl) (v := .r (.int .u8 least)) (by kernel_rfl) hF5 hst5 ?_ fun W' hst' => ⟨?_, hst'.belowR⟩).1
        · rw [hd5, hd, hag5.at 9 (by kernel_rfl)]
          simp [bump]
        · rw [hr]; rfl
    case stop => exact fun D c pre W _ _ h _ => h.elim

end Go.Proofs.Ytodcebpdmjdplaa

namespace Go.Proofs.Ytodcebpdmjdplaa
open Go.RowKit

theorem check_int (em : Bool) (n : Nat) (t : TypeId) (k : IntKind) (ht : Try.prog.underlying t = some (.int k)) (v : Value) (w : World) : (Instr.checkKey em (n + 1) t v).run Try.prog w = .ok () w := by
  rw [Instr.checkKey]
  simp only [Sem.run_bind, run_underlying ht, Result.andThen_ok]
  rfl

theorem check_dot (em : Bool) (d : Dot) (w : World) : (Instr.checkKey em 10000 25 d.v).run Try.prog w = .ok () w := by
  have hS : Try.prog.underlying 25 = some (.struct (Try.prog.fieldsOf 25)) := by kernel_rfl
  have c5 := check_int em 9998 5 .u8 (by kernel_rfl)
  have c23 := check_int em 9998 23 .u32 (by kernel_rfl)
  rw [show (10000 : Nat) = 9999 + 1 from rfl, Instr.checkKey]
  simp only [Sem.run_bind, run_underlying hS, Result.andThen_ok, Program.fieldsOf, Try.underlying25]
  generalize hn : (9999 : Nat) = n
  rw [show 9998 + 1 = n from hn] at c5 c23
  go_simp

theorem eq_dots (a b : Dot) (w : World) : (Op.equal 25 a.v b.v).run Try.prog w = .ok (decide (a = b)) w := by
  have := eq_dot a.a a.s b.a b.s 9998 w
  refine Eq.trans this ?_
  congr 1
  rw [Bool.eq_iff_iff]
  obtain ⟨_, _⟩ := a
  obtain ⟨_, _⟩ := b
  simp

def findL (L : Bk) (d : Dot) : Option (Ev × Bool) := L.find? fun p => decide (d = p.1.d)

theorem asking (d : Dot) (w : World) : ∀ (L : Bk) (k i : Nat), ∃ j, (Instr.findAsking 25 d.v ((L.zipIdx k).map entM) i).run Try.prog w = .ok ((findL L d).map fun p => (j, entV p)) w
  | [], k, i => ⟨0, by simp [Instr.findAsking, findL]⟩
  | p :: L, k, i => by
    obtain ⟨j, hj⟩ := asking d w L (k + 1) (i + 1)
    have he := eq_dots d p.1.d w
    cases hd : decide (d = p.1.d) with
    | true =>
      rw [hd] at he
      refine ⟨i, ?_⟩
      simp only [List.zipIdx_cons, List.map_cons, Instr.findAsking, entM, Sem.run_bind, he, Result.andThen_ok, if_true, Sem.run_pure, findL, List.find?_cons, hd, Option.map_some]
    | false =>
      rw [hd] at he
      refine ⟨j, ?_⟩
      simp only [List.zipIdx_cons, List.map_cons, Instr.findAsking, Sem.run_bind]
      simp only [entM, he, Result.andThen_ok, Bool.false_eq_true, if_false, findL, List.find?_cons, hd]
      exact hj

theorem find_dot (d : Dot) (L : Bk) (w : World) : ∃ j, (Instr.findKey 25 d.v (esOf L).toList).run Try.prog w = .ok ((findL L d).map fun p => (j, entV p)) w := by
  have hS : Try.prog.underlying 25 = some (.struct (Try.prog.fieldsOf 25)) := by kernel_rfl
  cases L with
  | nil => exact ⟨0, by simp [Instr.findKey, run_underlying hS, esOf, Instr.findNow, findL]⟩
  | cons p L =>
    obtain ⟨j, hj⟩ := asking d w (p :: L) 0 0
    refine ⟨j, ?_⟩
    have : Instr.findNow (.struct (Try.prog.fieldsOf 25)) d.v (esOf (p :: L)).toList 0 = none := by
      simp [esOf, List.zipIdx_cons, Instr.findNow, Instr.sameNow]
    simp only [Instr.findKey, Sem.run_bind, run_underlying hS, Result.andThen_ok, this]
    exact hj

def gotL (L : Bk) (d : Dot) : Ev × Bool := (findL L d).getD (zeroEv, false)

theorem lookup_run (L : Bk) (d : Dot) (ok : Bool) {bm : Nat} {w : World} (hb : w.heap[bm]? = some (mapO L)) :
    (Instr.lookup 63 (.map (some bm)) d.v ok).run Try.prog w = .ok (if ok then .tuple #[entV (gotL L d), .bool (findL L d).isSome] else entV (gotL L d)) w := by
  have hM : Try.prog.underlying 63 = some (.map 25 61) := by kernel_rfl
  obtain ⟨j, hj⟩ := find_dot d L w
  have hz : (zeroValue 61).run Try.prog w = .ok (entV (zeroEv, false)) w := by
    have hi : (Try.prog.info? 61).bind (·.zero) = some (entV (zeroEv, false)) := by kernel_rfl
    cases hinfo : Try.prog.info? 61 with
    | none => simp [hinfo] at hi
    | some i => simp [hinfo] at hi; simp [zeroValue, typeInfo, hinfo, hi]
  unfold Instr.lookup
  simp only [Sem.run_bind, run_underlying hM, Result.andThen_ok]
  unfold mapO at hb
  simp only [getObj, Sem.run, hb, Result.andThen_ok, Sem.run_bind, Sem.run_pure, check_dot, hj]
  unfold gotL
  cases findL L d <;> simp [hz]

theorem esOf_push (L : Bk) (p : Ev × Bool) : (esOf L).push (entM (p, L.length)) = esOf (L ++ [p]) := by
  simp [esOf, List.zipIdx_append]

theorem update_run (L : Bk) (p : Ev × Bool) (hn : findL L p.1.d = none) {bm : Nat} {w : World} (hb : w.heap[bm]? = some (mapO L)) :
    (Instr.mapUpdate 63 (.map (some bm)) p.1.d.v (entV p)).run Try.prog w = .ok () (Go.ChangeMaps.setBlock w bm (mapO (L ++ [p]))) := by
  have hM : Try.prog.underlying 63 = some (.map 25 61) := by kernel_rfl
  obtain ⟨j, hj⟩ := find_dot p.1.d L w
  rw [hn] at hj
  unfold Instr.mapUpdate
  simp only [Sem.run_bind, run_underlying hM, Result.andThen_ok]
  have hb' := hb
  unfold mapO at hb
  simp only [getObj, Sem.run, hb, Result.andThen_ok, Sem.run_bind, check_dot, hj, Option.map_none]
  have := esOf_push L p
  simp only [setObj, Sem.run, hb, Go.ChangeMaps.setBlock, mapO]
  rw [← this]
  simp [entM]


def rightQ (args : List AV) (_ : AH) : Option (AV × List Nat × Option Prop) :=
  match args with
  | [.tv (.agg l)] => match evOf l with
    | some e => some (.b (rightB e), [], some e.ok)
    | none => none
  | _ => none

theorem rightQ_args {args : List AV} {H : AH} {v : AV} {ft : List Nat} {pr : Option Prop} (h : rightQ args H = some (v, ft, pr)) : ∃ e, args = [e.av] ∧ v = .b (rightB e) ∧ pr = some e.ok := by
  unfold rightQ at h
  split at h
  · split at h
    · rename_i e he
      simp at h
      rw [evOf_eq he]
      exact ⟨e, rfl, h.1.symm, h.2.2.symm⟩
    · simp at h
  · simp at h

noncomputable def T5 : CT Try.prog :=
  (T4.addQ 28 rightQ (by kernel_rfl) fun _ _ _ _ _ h hp r w _ => by
    obtain ⟨e, rfl, rfl, rfl⟩ := rightQ_args h
    exact right_run e hp.some r w).addQ 24 rightQ (by kernel_rfl) fun _ _ _ _ _ h hp r w _ => by
    obtain ⟨e, rfl, rfl, rfl⟩ := rightQ_args h
    exact rright_run e hp.some r w

def addM (L : Bk) (e : Ev) : Int × Bk :=
  if !rightB e || (decide (e.k ≠ 3) && decide (e.k ≠ 4)) then (3, L)
  else if (findL L e.d).isSome then (5, L)
  else if 512 ≤ L.length then (10, L)
  else (0, L ++ [(e, roleM L e.d.a e.p == 3)])

end Go.Proofs.Ytodcebpdmjdplaa

namespace Go.Proofs.Ytodcebpdmjdplaa
open Go.RowKit

theorem entV_inj {p q : Ev × Bool} (h : entV p = entV q) : p = q := by
  obtain ⟨⟨⟨_, _⟩, ⟨_, _, _, _, _, _, _, _⟩, _, ⟨_, _⟩, _, _, _, _⟩, _⟩ := p
  obtain ⟨⟨⟨_, _⟩, ⟨_, _, _, _, _, _, _, _⟩, _, ⟨_, _⟩, _, _, _, _⟩, _⟩ := q
  simp [entV, entAv, entCvs, Ev.cvs, AV.conc, TV.conc, CV.conc] at h
  simp [h]

theorem mapO_inj {L L' : Bk} (h : mapO L = mapO L') : L = L' := by
  simp only [mapO, Obj.map.injEq] at h
  have h1 : L.zipIdx.map entM = L'.zipIdx.map entM := by
    have := congrArg Array.toList h.1
    simpa [esOf] using this
  have hinj : Function.Injective entM := fun a b e => by
    obtain ⟨p, i⟩ := a
    obtain ⟨q, j⟩ := b
    simp only [entM, MapEntry.mk.injEq] at e
    rw [entV_inj e.2.1, e.2.2]
  have h2 : L.zipIdx = L'.zipIdx := (List.map_inj_right fun a b e => hinj e).1 h1
  have h3 := congrArg (List.map (·.1)) h2
  simpa [List.zipIdx_map_fst] using h3

open Classical in
/-- What a map holds. -/
noncomputable def bkOf (o : Obj) : Bk := if h : ∃ L, o = mapO L then h.choose else []
@[simp] theorem bkOf_mapO (L : Bk) : bkOf (mapO L) = L := by
  have h : ∃ L', mapO L = mapO L' := ⟨L, rfl⟩
  unfold bkOf
  rw [dif_pos h]
  exact (mapO_inj h.choose_spec).symm

def IsBk (o : Obj) : Prop := o = mapO (bkOf o)
@[simp] theorem isBk_mapO (L : Bk) : IsBk (mapO L) := by simp [IsBk]

def entOf : List CV → Option (Ev × Bool)
  | [.rig (.int .u8 a), .rig (.int .u32 s), .rig (.int .u32 p0), .rig (.int .u32 p1), .rig (.int .u32 p2), .rig (.int .u32 p3), .rig (.int .u32 p4), .rig (.int .u32 p5), .rig (.int .u32 p6), .rig (.int .u32 p7),
      .rig (.int .u8 k), .rig (.int .u8 pa), .rig (.int .u32 ps), .rig (.bool r), .rig (.int .u8 c), .rig (.int .u8 wh), .rig (.int .u8 ro), .rig (.bool q)] => some (⟨⟨a, s⟩, ⟨p0, p1, p2, p3, p4, p5, p6, p7⟩, k, ⟨pa, ps⟩, r, c, wh, ro⟩, q)
  | _ => none
theorem entOf_eq {l : List CV} {e : Ev × Bool} (h : entOf l = some e) : l = entCvs e := by
  unfold entOf at h; split at h <;> simp at h; subst h; rfl

/-- The map behind a value. -/
def mapAt (H : AH) (x : AV) : Option (Nat × Obj) :=
  match x with
  | .tv (.one (.mp i)) => match H[i]? with
    | some (.raw o, _) => some (i, o)
    | _ => none
  | _ => none
theorem mapAt_eq {H : AH} {x : AV} {i : Nat} {o : Obj} (h : mapAt H x = some (i, o)) : x = .c (.mp i) ∧ ∃ f, H[i]? = some (.raw o, f) := by
  unfold mapAt at h
  split at h
  · split at h
    · rename_i hH; simp at h; obtain ⟨rfl, rfl⟩ := h; exact ⟨rfl, _, hH⟩
    · simp at h
  · simp at h

noncomputable def bookQ (ev : Operand → AV) (H : AH) (op : Op) : Option (AV × List Nat × Option Prop) :=
  match op with
  | .lookup t x k ok => cond (Nat.beq t 63) (match mapAt H (ev x), ev k with
    | some (i, o), .tv (.agg l) => match dotOf l with
      | some d => some (cond ok (.tup [.agg (entCvs (gotL (bkOf o) d)), .one (.rig (.bool (findL (bkOf o) d).isSome))]) (entAv (gotL (bkOf o) d)), [i], some (IsBk o))
      | none => none
    | _, _ => none) none
  | .call c => match c.callee, c.args.toList, c.argTypes.toList with
    | .builtin .len, [x], [t] => cond (Nat.beq t 63) (match mapAt H (ev x) with
      | some (i, o) => some (.r (.int .i64 (bkOf o).length), [i], some (IsBk o))
      | none => none) none
    | _, _, _ => none
  | _ => none

theorem bookQ_run {ev : Operand → AV} {H : AH} {o : Oper} {v : AV} {ft : List Nat} {pr : Option Prop} (h : bookQ ev H o.op = some (v, ft, pr)) (hp : Owed pr)
    {ρ : Operand → Value} {r : Gh} {w : World} (hev : ∀ x ∈ o.op.operands, ρ x = (ev x).conc r) (hat : At r H ft w) :
    (execOp ρ o).run Try.prog w = .ok (.value (v.conc r)) w := by
  have hM : Try.prog.underlying 63 = some (.map 25 61) := by kernel_rfl
  unfold execOp
  cases ho : o.op <;> rw [ho] at h hev <;> simp only [bookQ] at h <;> first | (cases h; done) | skip
  case lookup t x k ok =>
    cases ht : Nat.beq t 63 with
    | false => simp [ht] at h
    | true =>
      obtain rfl := Nat.eq_of_beq_eq_true ht
      simp only [ht, cond_true] at h
      split at h
      · rename_i i ob l hm hk
        split at h
        · rename_i d hd
          simp only [Option.some.injEq, Prod.mk.injEq] at h
          obtain ⟨rfl, rfl, rfl⟩ := h
          obtain ⟨hx, f, hH⟩ := mapAt_eq hm
          have hb := (hat.get (by simp) hH).1
          have e1 : ρ x = .map (some (r.b i)) := by rw [hev x (by simp [Op.operands]), hx]; rfl
          have e2 : ρ k = d.v := by rw [hev k (by simp [Op.operands]), hk, dotOf_eq hd]; rfl
          have hob := hp.some
          unfold IsBk at hob
          have := lookup_run (bkOf ob) d ok (bm := r.b i) (w := w) (by rw [← hob]; exact hb)
          simp only [e1, e2, this, Sem.run_bind, Result.andThen_ok, Sem.run_pure]
          cases ok <;> rfl
        · simp at h
      · simp at h
  case call c =>
    split at h
    · rename_i x t h1 h2 h3
      cases ht : Nat.beq t 63 with
      | false => simp [ht] at h
      | true =>
        obtain rfl := Nat.eq_of_beq_eq_true ht
        simp only [ht, cond_true] at h
        split at h
        · rename_i i ob hm
          simp only [Option.some.injEq, Prod.mk.injEq] at h
          obtain ⟨rfl, rfl, rfl⟩ := h
          obtain ⟨hx, f, hH⟩ := mapAt_eq hm
          have hargs : c.args = #[x] := by cases hc : c.args; simp_all
          have hat' : c.argTypes = #[63] := by cases hc : c.argTypes; simp_all
          have hx' : ρ x = (ev x).conc r := hev x (by simp [Op.operands, Call.operands, h1, hargs])
          have hb := (hat.get (by simp) hH).1
          have hob := hp.some
          unfold IsBk at hob
          rw [hob, mapO] at hb
          simp [resolve, invoke, builtin, h1, hargs, hat', hx', hx, AV.conc, TV.conc, CV.conc, Builtin.len_, run_underlying hM, goInt, getObj, Sem.run, hb, esOf]
        · simp at h
    · simp at h

noncomputable def bookE (ev : Operand → AV) (H : AH) (op : Op) : Option (AV × List (Nat × AO) × List AO × Option Prop) :=
  match op with
  | .mapUpdate t m k x => cond (Nat.beq t 63) (match mapAt H (ev m), ev k, ev x with
    | some (i, o), .tv (.agg l), .tv (.agg l') => match dotOf l, entOf l' with
      | some d, some p => some (.undef, [(i, .raw (mapO (bkOf o ++ [p])))], [], some (IsBk o ∧ findL (bkOf o) d = none ∧ d = p.1.d))
      | _, _ => none
    | _, _, _ => none) none
  | _ => none

theorem st_set {r : Gh} {H : AH} {W0 : Base} {w : World} (hst : St r H W0 w) (hsc : H.scB = true) {i : Nat} {o0 : Obj} {f : Nat} (hx : H[i]? = some (.raw o0, f)) (hf : f ≠ 0) (o : Obj) : St r (H.set i (.raw o, f)) W0 (Go.ChangeMaps.setBlock w (r.b i) o) := by
  have hlt := hst.lt hx rfl
  refine St.turn hst hsc hx rfl (.raw o) rfl ?_ (fun b hb => ?_) rfl rfl rfl (by simp [Go.ChangeMaps.setBlock]) hf
  · simp [Go.ChangeMaps.setBlock, hlt, AO.conc]
  · have hne : ¬ r.b i = b := fun e => hb e.symm
    simp [Go.ChangeMaps.setBlock, hne]

theorem turn_one {H : AH} {i : Nat} {a : AO} {y : AO × Nat} (hy : H[i]? = some y) : moveH H [(i, a)] [] = H.set i (a, y.2) := by
  apply List.ext_getElem?
  intro j
  unfold moveH
  simp only [List.map_nil, List.append_nil, turnH_get, Nat.zero_add, updAt]
  rw [List.getElem?_set]
  by_cases e : i = j
  · subst e
    obtain ⟨h1, h2⟩ := List.getElem?_eq_some_iff.1 hy
    simp [h1, h2]
  · have : Nat.beq i j = false := by
      cases hb : Nat.beq i j with
      | false => rfl
      | true => exact absurd (Nat.eq_of_beq_eq_true hb) e
    simp only [this, cond_false, if_neg e]
    cases H[j]? <;> rfl

theorem bookE_run {ev : Operand → AV} {H : AH} {o : Oper} {v : AV} {upd : List (Nat × AO)} {new : List AO} {pr : Option Prop} (h : bookE ev H o.op = some (v, upd, new, pr)) (hp : Owed pr)
    {ρ : Operand → Value} {r : Gh} {W0 : Base} {w : World} (hev : ∀ x ∈ o.op.operands, ρ x = (ev x).conc r) (hst : St r H W0 w) (hu : updOk H upd = true) (hsc : H.scB = true) :
    ∃ r' w', Agree H.length r r' ∧ St r' (moveH H upd new) W0 w' ∧ ((execOp ρ o).run Try.prog w = .ok (.value (v.conc r')) w' ∨ ((execOp ρ o).run Try.prog w = .ok .skip w' ∧ v = .undef)) := by
  unfold execOp
  cases ho : o.op <;> rw [ho] at h hev <;> simp only [bookE] at h <;> first | (cases h; done) | skip
  rename_i t m k x
  cases ht : Nat.beq t 63 with
  | false => simp [ht] at h
  | true =>
    obtain rfl := Nat.eq_of_beq_eq_true ht
    simp only [ht, cond_true] at h
    split at h
    · rename_i i ob l l' hm hk hx'
      split at h
      · rename_i d p hd hp'
        simp only [Option.some.injEq, Prod.mk.injEq] at h
        obtain ⟨rfl, rfl, rfl, rfl⟩ := h
        obtain ⟨hx, f, hH⟩ := mapAt_eq hm
        obtain ⟨hob, hf, rfl⟩ := hp.some
        unfold IsBk at hob
        have hb := (hst.at_ i _ hH).1
        have hf0 : f ≠ 0 := by
          have := List.all_eq_true.1 hu (i, .raw (mapO (bkOf ob ++ [p]))) List.mem_cons_self
          simp only [hH] at this
          intro e; rw [e] at this; simp at this
        have e1 : ρ m = .map (some (r.b i)) := by rw [hev m (by simp [Op.operands]), hx]; rfl
        have e2 : ρ k = p.1.d.v := by rw [hev k (by simp [Op.operands]), hk, dotOf_eq hd]; rfl
        have e3 : ρ x = entV p := by rw [hev x (by simp [Op.operands]), hx', entOf_eq hp']; rfl
        have := update_run (bkOf ob) p hf (bm := r.b i) (w := w) (by rw [← hob]; exact hb)
        refine ⟨r, _, Agree.refl _ _, by rw [turn_one hH]; exact st_set hst hsc hH hf0 _, .inr ⟨?_, rfl⟩⟩
        simp only [e1, e2, e3, Sem.run_bind, this, Result.andThen_ok, Sem.run_pure]
      · simp at h
    · simp at h

/-! ### Role, as a method -/
theorem book_open {L : Bk} {r : Gh} {w : World} (hst : St r [(.abs 0 (.book L), 0)] (rd r w) w) : ∃ r', r'.b 0 = r.b 0 ∧ St r' [(.cells [.mp 1] 65, 0), (.raw (mapO L), 0)] (rd r' w) w := by
  obtain ⟨r1, hag, h1⟩ := hst.openR (k := 0) (h := 0) (g := 0) (x := .book L) (Hx := bkH L) (by kernel_rfl) rfl rfl (by kernel_rfl) (by kernel_rfl)
  have h2 := h1.sub [0, 1] [0, 1] [(.cells [.mp 1] 65, 0), (.raw (mapO L), 0)] (by kernel_rfl) (by kernel_rfl) (by kernel_rfl) (hasIds_of (by kernel_rfl) (by kernel_rfl))
  exact ⟨subG r1 [0, 1] [0, 1], hag.b 0 (by simp), h2.toRd⟩

theorem role_ctr {L : Bk} (hL : ∀ p ∈ L, p.1.ok) (who : Int) (v : Vec) : CtrQ Try.prog 18 [.c (.ptr 0 0), .r (.int .u8 who), v.av] [(.abs 0 (.book L), 0)] (.r (.int .u8 (roleM L who v))) := by
  intro r w hst
  obtain ⟨r', e, h1⟩ := book_open hst
  have h2 := role_run hL who v h1
  have ea : (([.c (.ptr 0 0), .r (.int .u8 who), v.av].map (AV.conc r')).toArray) = (([.c (.ptr 0 0), .r (.int .u8 who), v.av].map (AV.conc r)).toArray) := by
    simp [AV.conc, TV.conc, CV.conc, e, Vec.av]
  rw [ea] at h2
  exact h2

def MRole : MethQ Try.prog := {
  f := 18
  τ := Bk × Int × Vec
  parse := fun y a => match y, a with
    | .book L, [.tv (.one (.rig (.int .u8 who))), .tv (.agg l)] => match vecOf l with | some v => some (L, who, v) | none => none
    | _, _ => none
  x := fun t => .book t.1
  rest := fun t => [.r (.int .u8 t.2.1), t.2.2.av]
  v := fun t => .r (.int .u8 (roleM t.1 t.2.1 t.2.2))
  owed := fun t => ∀ p ∈ t.1, p.1.ok
  parse_eq := fun {y a t} h => by
    split at h
    · split at h
      · rename_i hv; cases h; rw [vecOf_eq hv]; exact ⟨rfl, rfl⟩
      · cases h
    · cases h
  body := by kernel_rfl
  C := fun t h => role_ctr h t.2.1 t.2.2 }

/-- In a book that is taken apart. -/
noncomputable def roleQ (args : List AV) (H : AH) : Option (AV × List Nat × Option Prop) :=
  match args with
  | [.tv (.one (.ptr i 0)), .tv (.one (.rig (.int .u8 who))), .tv (.agg l)] => match bookAt H (.c (.ptr i 0)), vecOf l with
    | some (_, j, o), some v => cond (fewB H [i, j] [i, j] (abHs o)) (some (.r (.int .u8 (roleM (bkOf o) who v)), [i, j], some (IsBk o ∧ ∀ p ∈ bkOf o, p.1.ok))) none
    | _, _ => none
  | _ => none

theorem role_ctrB {o : Obj} (ho : IsBk o) (hL : ∀ p ∈ bkOf o, p.1.ok) (who : Int) (v : Vec) : CtrQ Try.prog 18 [.c (.ptr 0 0), .r (.int .u8 who), v.av] (abHs o) (.r (.int .u8 (roleM (bkOf o) who v))) := by
  intro r w hst
  unfold IsBk at ho
  refine role_run hL who v (hst.as ?_)
  rw [abHs, ← ho]

theorem roleQ_ok {args : List AV} {H : AH} {v : AV} {ft : List Nat} {pr : Option Prop} (h : roleQ args H = some (v, ft, pr)) (hp : Owed pr) (r : Gh) (w : World) (hat : At r H ft w) :
    Calls Try.prog 18 (args.map (AV.conc r)).toArray w fun e w' => e = .returned (v.conc r) ∧ Below w.heap.size w w' := by
  unfold roleQ at h
  split at h
  · rename_i i who l
    split at h
    · rename_i j o vv hb hv
      cases hf : fewB H [i, j] [i, j] (abHs o) with
      | false => simp [hf] at h
      | true =>
        simp only [hf, cond_true, Option.some.injEq, Prod.mk.injEq] at h
        obtain ⟨rfl, rfl, rfl⟩ := h
        obtain ⟨e, ⟨f1, h1⟩, f2, h2⟩ := bookAt_eq hb
        cases e
        rw [vecOf_eq hv]
        obtain ⟨hob, hok⟩ := hp.some
        exact (role_ctrB hob hok who vv).lift hat [i, j] [i, j] hf (by simp [selH, renH, abHs, h1, h2, AO.ren, CV.ren, pick]) rfl (fun _ h => h) (by kernel_rfl)
    · simp at h
  · simp at h

noncomputable def T6 : CT Try.prog :=
  (((T5.addOq bookQ fun _ _ _ _ _ _ h hp _ _ _ hev hat => bookQ_run h hp hev hat).addOe bookE fun _ _ _ _ _ _ _ h hp _ _ _ _ hev hst hu hsc => bookE_run h hp hev hst hu hsc).addQ 18 roleQ (by kernel_rfl) fun _ _ _ _ _ h hp r w hat => roleQ_ok h hp r w hat).addMQ MRole

end Go.Proofs.Ytodcebpdmjdplaa
