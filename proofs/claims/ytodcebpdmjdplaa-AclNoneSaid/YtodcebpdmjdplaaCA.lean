/- Role. -/
import Derived.Test.YtodcebpdmjdplaaC9
namespace Go.Proofs.Ytodcebpdmjdplaa
open Go.RowKit

def leastOf (l pre : List Ev) : Int := (pre.filter fun e => lastB e l).foldl (fun a e => min a e.role) 3
def someOf (who : Int) (l pre : List Ev) : Bool := who == 0 || pre.any fun e => lastB e l
def roleM (L : Bk) (who : Int) (v : Vec) : Int := if 8 ≤ who then 0 else if someOf who (aboutL L who v) (aboutL L who v) then leastOf (aboutL L who v) (aboutL L who v) else 0

theorem leastOf_snoc (l pre : List Ev) (x : Ev) : leastOf l (pre ++ [x]) = if lastB x l then min (leastOf l pre) x.role else leastOf l pre := by
  unfold leastOf
  rw [List.filter_append, List.foldl_append]
  cases hb : lastB x l <;> simp [hb]
theorem someOf_snoc (who : Int) (l pre : List Ev) (x : Ev) : someOf who l (pre ++ [x]) = (someOf who l pre || lastB x l) := by
  simp [someOf, Bool.or_assoc]

theorem min_swap (a : Int) (x y : Ev) : min (min a x.role) y.role = min (min a y.role) x.role := by omega
theorem leastOf_perm {l pre pre' : List Ev} (h : pre.Perm pre') : leastOf l pre = leastOf l pre' := by
  unfold leastOf
  exact (h.filter _).foldl_eq' (fun x _ y _ z => min_swap z x y) 3
theorem someOf_perm {who : Int} {l pre pre' : List Ev} (h : pre.Perm pre') : someOf who l pre = someOf who l pre' := by
  unfold someOf
  congr 1
  rw [Bool.eq_iff_iff]
  simp only [List.any_eq_true]
  exact ⟨fun ⟨x, hx, e⟩ => ⟨x, h.mem_iff.1 hx, e⟩, fun ⟨x, hx, e⟩ => ⟨x, h.mem_iff.2 hx, e⟩⟩

def roH (L : Bk) (who : Int) (v : Vec) (least : Int) (some : Bool) : AH :=
  [(.cells [.mp 1] 65, 0), (.raw (mapO L), 0), (.cells v.cvs 27, 1), (.cells [.ptr 0 0] 32, 1), (.cells [.rig (.int .u8 who)] 5, 1), (.cells v.cvs 27, 1),
    (.cells [.clo 40 [(3, 0), (4, 0), (5, 0)]] 67, 1), (.cells [.rig (.int .u8 least)] 29, 1), (.cells [.rig (.bool some)] 4, 1)]

/-- The iterator's blocks, as the run knows them. -/
theorem abt_of {r : Nat → Nat} {H : AH} {W : World} {L : Bk} {who : Int} {v : Vec} (h : ∀ i ∈ [0, 1, 3, 4, 5], ∀ x, H[i]? = some x → W.heap[r i]? = some (x.1.conc r))
    (h0 : (H[0]?).map (·.1) = some (.cells [.mp 1] 65)) (h1 : (H[1]?).map (·.1) = some (.raw (mapO L))) (h3 : (H[3]?).map (·.1) = some (.cells [.ptr 0 0] 32)) (h4 : (H[4]?).map (·.1) = some (.cells [.rig (.int .u8 who)] 5)) (h5 : (H[5]?).map (·.1) = some (.cells v.cvs 27)) :
    Abt (r 0) (r 1) (r 3) (r 4) (r 5) who v L W := by
  have key : ∀ i o, i ∈ [0, 1, 3, 4, 5] → (H[i]?).map (·.1) = some o → W.heap[r i]? = some (o.conc r) := fun i o hi ho => by
    cases hx : H[i]? with
    | none => simp [hx] at ho
    | some x => simp [hx] at ho; rw [h i hi x hx, ho]
  exact ⟨key 0 _ (by simp) h0, key 1 _ (by simp) h1, key 3 _ (by simp) h3, key 4 _ (by simp) h4, key 5 _ (by simp) h5⟩

def roLast (H : AH) (x : Ev) (res : Bool) : Prop := ∀ (r : Nat → Nat) (w : World), At r H [0, 1, 3, 4, 5] w → Calls Try.prog 30 (([x.av, .c (.clo 40 [(3, 0), (4, 0), (5, 0)])].map (AV.conc r)).toArray) w fun e w' => e = .returned ((AV.b res).conc r) ∧ Below w.heap.size w w'

theorem roLast_ok {L : Bk} (hL : ∀ p ∈ L, p.1.ok) {x : Ev} (hx : x.d.ok) {who : Int} {v : Vec} {H : AH}
    (h0 : (H[0]?).map (·.1) = some (.cells [.mp 1] 65)) (h1 : (H[1]?).map (·.1) = some (.raw (mapO L))) (h3 : (H[3]?).map (·.1) = some (.cells [.ptr 0 0] 32)) (h4 : (H[4]?).map (·.1) = some (.cells [.rig (.int .u8 who)] 5)) (h5 : (H[5]?).map (·.1) = some (.cells v.cvs 27)) :
    roLast H x (lastB x (aboutL L who v)) := fun _ _ hat => last_run hL hx (abt_of hat h0 h1 h3 h4 h5)

def roF (who : Int) (v : Vec) : AF :=
  [.c (.ptr 0 0), .r (.int .u8 who), v.av, .undef, .undef, .c (.ptr 2 0), .r (.int .u8 0), .c (.ptr 6 0), .c (.ptr 7 0), .c (.ptr 8 0), .undef, .c (.ptr 0 0), .b false, .b false, .r (.int .u8 who), .b (decide (who ≥ 8)), .b false, .c (.ptr 0 0), .r (.int .u8 who), v.av,
    .c (.clo 40 [(3, 0), (4, 0), (5, 0)]), .r (.int .u8 who), .b (who == 0), .c (.clo 40 [(3, 0), (4, 0), (5, 0)]), .undef, .undef, .undef, .undef, .undef, .undef, .undef, .undef, .undef, .undef, .undef, .undef]

noncomputable def roK : List KI := [.blk 0, .code (.seq (.seq (.region 10 (opsAt Try.prog 18 10) false) (.cond (.tmp 34) (.seq (.region 11 (opsAt Try.prog 18 11) false) .ret) .skip)) (.seq (.region 12 (opsAt Try.prog 18 12) false) .ret))]

theorem role_run {L : Bk} (hL : ∀ p ∈ L, p.1.ok) (who : Int) (v : Vec) {r : Nat → Nat} {w : World} (hst : St r [(.cells [.mp 1] 65, 0), (.raw (mapO L), 0)] w w) :
    Calls Try.prog 18 (([.c (.ptr 0 0), .r (.int .u8 who), v.av].map (AV.conc r)).toArray) w fun x w' => x = .returned (.int .u8 (roleM L who v)) ∧ Below w.heap.size w w' := by
  cases hwho : decide (who ≥ 8) with
  | true =>
    have hrun : fnA Try.prog T4 18 [.c (.ptr 0 0), .r (.int .u8 who), v.av] [(.cells [.mp 1] 65, 0), (.raw (mapO L), 0)] [.c 16 true] = some (.r (.int .u8 0), [(.cells [.mp 1] 65, 0), (.raw (mapO L), 0), (.cells v.cvs 27, 1)], [decide (who ≥ 8) = true]) := by kernel_rfl
    refine (fnA_calls hmx hrun ⟨hwho, trivial⟩ hst).mono ?_
    rintro e w' ⟨r1, -, rfl, hst1⟩
    refine ⟨?_, hst1.below (by kernel_rfl)⟩
    have : 8 ≤ who := by simpa using hwho
    simp [roleM, this, AV.conc, TV.conc, CV.conc]
  | false =>
    have hlt8 : ¬ 8 ≤ who := by simpa using hwho
    refine (callsFw (ro := none) (n := 2)).1 (callsInMarks (fn := fnOf Try.prog 18) (c := bodyOf Try.prog 18) (by kernel_rfl) (by kernel_rfl) fun a0 hF0 hd0 => ?_)
    refine code_wp hmx T4 [.c 16 false] [decide (who ≥ 8) = false] (.range (.tmp 23) #[24] (.region 6 (opsAt Try.prog 18 6) false) (.block 1 (.seq (.seq (.region 7 (opsAt Try.prog 18 7) false) (.cond (.tmp 28) (.exit 1) .skip)) (.seq (.region 8 (opsAt Try.prog 18 8) false) (.region 9 (opsAt Try.prog 18 9) false)))) roK) (by kernel_rfl) (by kernel_rfl) ⟨hwho, trivial⟩ hF0 hst fun r2 w2 a2 hag2 hst2 hF2 hd2 => ?_
    have hs0 : St r2 (roH L who v 3 (who == 0)) w w2 := hst2.as (by kernel_rfl)
    have hF : FrameOk r2 (roF who v) a2 := hF2.as (by kernel_rfl)
    have hd : a2.defers = [] := by rw [hd2, hd0]
    clear hF0 hF2 hst2 hd0 hd2 hag2
    have hlt : ∀ i, i < 9 → r2 i < w2.heap.size := fun i hi => hs0.lt hi
    have hsz := hs0.size
    have hA : Abt (r2 0) (r2 1) (r2 3) (r2 4) (r2 5) who v L w2 := abt_of (fun i _ x hx => hs0.at_ i x hx) (by kernel_rfl) (by kernel_rfl) (by kernel_rfl) (by kernel_rfl) (by kernel_rfl)
    generalize hl0 : aboutL L who v = l0 at *
    refine wpIn_rangeFunc_ownH (F := Fw none) rfl (by omega) (gf := 40) (lb := #[.pointer (some ⟨r2 3, 0, none⟩), .pointer (some ⟨r2 4, 0, none⟩), .pointer (some ⟨r2 5, 0, none⟩)]) ?hg trivial (fun _ _ => callFunc_run (by kernel_rfl) _ _)
      (about1_seq hL hA) (fun ha hb => ⟨fun h => hb.1 (ha.1 h), ha.2.trans hb.2⟩) (fun W l o o' hl ho h1 h2 => ⟨fun hA' => hA'.later (belowK_b (Nat.le_refl _) W l o o' hl ho h1 h2) (lt_of_at hA.book) (lt_of_at hA.map_) (lt_of_at hA.c0) (lt_of_at hA.c1) (lt_of_at hA.c2), KeepsWalks.putObj _ ho h2⟩) (Below.refl _ _) (fun _ => rfl)
      (fun pre W => St r2 (roH L who v (leastOf l0 (pre.map (·.1))) (someOf who l0 (pre.map (·.1)))) w W)
      (fun c pre W => False)
      ?hI ?hIx ?h0
      (fun x a' W => ∃ D, FrameOk (bump r2 9 D) (((roF who v).set 24 x.1.av).set 10 (.c (.ptr 9 0))) a' ∧ a'.defers = [] ∧ W.heap[D]? = some (.cells x.1.cells 31 (0, 0)) ∧ (∀ i, i < 9 → r2 i ≠ D) ∧ w.heap.size ≤ D) ?hAx ?assign ?body ?done ?stop
    case hg => rw [hF.eval]; rfl
    case hI => exact fun s A B row hs hg hr => St.ownC hs (fun i x hx => .inr (hlt i (List.getElem?_eq_some_iff.1 hx).1)) hsz hg hr
    case hIx => exact fun c s A B row hs hg hr => hs
    case h0 => simpa [leastOf, someOf] using hs0
    case hAx =>
      rintro x a' u A B row ⟨D, g1, gd, g2, g3, g4⟩ hg hr
      exact ⟨D, g1, gd, (grownBy_keeps_cells hg (fun k e => (hr k e).2) g2 rfl).trans g2, g3, g4⟩
    case assign =>
      rintro l pre x W K hs hK
      refine reg_wp (ro := some l) (pre_wp T4 6 2 [] [] (by kernel_rfl) (by kernel_rfl) trivial (hF.round 24 x.1.av rfl) (St.rebase hs) fun r3 w3 a3 hag3 hst3 hF3 hd3 => wpListIn_end (by kernel_rfl) ?_)
      have hk := St.keepsOthers (St.rebase hs) hst3 hag3 (by kernel_rfl) (by kernel_rfl) (by kernel_rfl)
      have hst4 := St.fwd (roH L who v (leastOf l0 (pre.map (·.1))) (someOf who l0 (pre.map (·.1))) ++ [(.cells x.1.cvs 31, 1)]) hs hst3 hag3 (by kernel_rfl) (by kernel_rfl) (by kernel_rfl)
      have hag : Agree 9 r2 r3 := hag3
      have hs' := St.back (H2 := roH L who v (leastOf l0 (pre.map (·.1))) (someOf who l0 (pre.map (·.1)))) hs hst3 hag3 (by kernel_rfl) (by kernel_rfl) (by kernel_rfl) (by kernel_rfl)
      refine hK a3 w3 (hk.from _) ⟨fun _ => abt_of (fun i _ x hx => hs'.at_ i x hx) (by kernel_rfl) (by kernel_rfl) (by kernel_rfl) (by kernel_rfl) (by kernel_rfl), hk.walks⟩ hs' ⟨r3 9, ?_, hd3, hst4.at_ 9 _ rfl, fun i hi e => ?_, hst4.own 9 _ rfl rfl⟩
      · refine FrameOk.agree (n := 10) (hF3.as (F2 := ((roF who v).set 24 x.1.av).set 10 (.c (.ptr 9 0))) (by kernel_rfl)) (fun i hi => ?_) (by kernel_rfl)
        unfold bump
        by_cases e : i = 9
        · subst e; simp
        · rw [if_neg e, hag i (by omega)]
      · have := hst4.inj i 9 (show i < 10 by omega) (show 9 < 10 by omega) (by rw [hag i hi]; exact e)
        omega
    case body =>
      rintro l pre x a' W hl hrec hs ⟨D, g1, gd, g2, g3, g4⟩ hlen
      have hm := St.more hs (by kernel_rfl) (D := D) (.cells x.1.cvs 31) g2 g3 g4
      have hmap : (pre ++ [x]).map (·.1) = pre.map (·.1) ++ [x.1] := by simp
      cases hlast : lastB x.1 l0 with
      | false =>
        refine code_wp hmx (ro := some l) T4 [.k 7002 (.b false) [0, 1, 3, 4, 5]] [roLast (reb (roH L who v (leastOf l0 (pre.map (·.1))) (someOf who l0 (pre.map (·.1))) ++ [(.cells x.1.cvs 31, 1)])) x.1 false] .norm (by kernel_rfl) (by kernel_rfl) ⟨by rw [← hlast, ← hl0]; exact roLast_ok hL x.2.d (by kernel_rfl) (by kernel_rfl) (by kernel_rfl) (by kernel_rfl) (by kernel_rfl), trivial⟩ g1 hm.rebase fun r4 w4 a4 hag4 hst4 hF4 hd4 => ?_
        have hk := St.keepsOthers hm.rebase hst4 hag4 (by kernel_rfl) (by kernel_rfl) (by kernel_rfl)
        have hs' := St.forget (r := r2) (roH L who v (leastOf l0 (pre.map (·.1))) (someOf who l0 (pre.map (·.1)))) (St.back (H2 := roH L who v (leastOf l0 (pre.map (·.1))) (someOf who l0 (pre.map (·.1))) ++ [(.cells x.1.cvs 31, 1)]) hm hst4 hag4 (by kernel_rfl) (by kernel_rfl) (by kernel_rfl) (by kernel_rfl)) (bump_agree r2 9 D) (by kernel_rfl) (by kernel_rfl) (by kernel_rfl)
        refine ⟨hk.from _, ⟨fun _ => abt_of (fun i _ x hx => hs'.at_ i x hx) (by kernel_rfl) (by kernel_rfl) (by kernel_rfl) (by kernel_rfl) (by kernel_rfl), hk.walks⟩, ?_⟩
        show St r2 (roH L who v (leastOf l0 ((pre ++ [x]).map (·.1))) (someOf who l0 ((pre ++ [x]).map (·.1)))) w w4
        rw [hmap, leastOf_snoc, someOf_snoc, hlast]
        simpa using hs'
      | true =>
        refine code_wp hmx (ro := some l) T4 [.k 7002 (.b true) [0, 1, 3, 4, 5]] [roLast (reb (roH L who v (leastOf l0 (pre.map (·.1))) (someOf who l0 (pre.map (·.1))) ++ [(.cells x.1.cvs 31, 1)])) x.1 true] .norm (by kernel_rfl) (by kernel_rfl) ⟨by rw [← hlast, ← hl0]; exact roLast_ok hL x.2.d (by kernel_rfl) (by kernel_rfl) (by kernel_rfl) (by kernel_rfl) (by kernel_rfl), trivial⟩ g1 hm.rebase fun r4 w4 a4 hag4 hst4 hF4 hd4 => ?_
        have hk := St.keepsOthers hm.rebase hst4 hag4 (by kernel_rfl) (by kernel_rfl) (by kernel_rfl)
        have hs' := St.forget (r := r2) (roH L who v (min (leastOf l0 (pre.map (·.1))) x.1.role) true) (St.back (H2 := roH L who v (min (leastOf l0 (pre.map (·.1))) x.1.role) true ++ [(.cells x.1.cvs 31, 1)]) hm hst4 hag4 (by kernel_rfl) (by kernel_rfl) (by kernel_rfl) (by kernel_rfl)) (bump_agree r2 9 D) (by kernel_rfl) (by kernel_rfl) (by kernel_rfl)
        refine ⟨hk.from _, ⟨fun _ => abt_of (fun i _ x hx => hs'.at_ i x hx) (by kernel_rfl) (by kernel_rfl) (by kernel_rfl) (by kernel_rfl) (by kernel_rfl), hk.walks⟩, ?_⟩
        show St r2 (roH L who v (leastOf l0 ((pre ++ [x]).map (·.1))) (someOf who l0 ((pre ++ [x]).map (·.1)))) w w4
        rw [hmap, leastOf_snoc, someOf_snoc, hlast]
        simpa using hs'
    case done =>
      rintro D xs W hD hS hs hk
      rw [leastOf_perm (l := l0) (hl0 ▸ hS), someOf_perm (who := who) (l := l0) (hl0 ▸ hS)] at hs
      have hr : roleM L who v = if someOf who l0 l0 then leastOf l0 l0 else 0 := by simp only [roleM, hl0, hlt8, if_false]
      generalize leastOf l0 l0 = least at hs hr
      generalize someOf who l0 l0 = sm at hs hr
      have hm := St.more hs (by kernel_rfl) (D := D) (.raw (.deferred (some []))) hk (fun i hi e => by have := hlt i hi; omega) (by omega)
      have hF' : FrameOk (bump r2 9 D) (roF who v) { a2 with defers := { target := .collected D, args := #[] } :: a2.defers } := FrameOk.agree (n := 9) hF (bump_agree r2 9 D) (by kernel_rfl)
      cases sm with
      | false =>
        refine code_wp hmx (ro := none) T4 [] [] .ret (by kernel_rfl) (by kernel_rfl) trivial hF' hm fun r5 w5 a5 hag5 hst5 hF5 hd5 => ?_
        refine (marksPost 9 (by kernel_rfl) (v := .r (.int .u8 0)) (by kernel_rfl) hF5 hst5 ?_ fun W' hst' => ⟨?_, hst'.below (by kernel_rfl)⟩).1
        · rw [hd5, hd, hag5.at 9 (by kernel_rfl)]
          simp [bump, roH]
        · rw [hr]; rfl
      | true =>
        refine code_wp hmx (ro := none) T4 [] [] .ret (by kernel_rfl) (by kernel_rfl) trivial hF' hm fun r5 w5 a5 hag5 hst5 hF5 hd5 => ?_
        refine (marksPost 9 (by kernel_rfl) (v := .r (.int .u8 least)) (by kernel_rfl) hF5 hst5 ?_ fun W' hst' => ⟨?_, hst'.below (by kernel_rfl)⟩).1
        · rw [hd5, hd, hag5.at 9 (by kernel_rfl)]
          simp [bump, roH]
        · rw [hr]; rfl
    case stop => exact fun D c pre W _ _ h _ => h.elim

end Go.Proofs.Ytodcebpdmjdplaa
