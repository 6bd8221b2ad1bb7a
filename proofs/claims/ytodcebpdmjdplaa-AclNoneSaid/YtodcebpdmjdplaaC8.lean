/- Does none of those that count see an event? -/
import Derived.Test.YtodcebpdmjdplaaC7
import Derived.Test.YtodcebpdmjdplaaVJ
namespace Go.Proofs.Ytodcebpdmjdplaa
open Go.RowKit

def beforeQ (args : List AV) (_ : AH) : Option (AV × List Nat × Option Prop) :=
  match args with
  | [.tv (.agg l), .tv (.agg m)] => match evOf l, evOf m with
    | some a, some b => some (.b (beforeB a b), [], some a.d.ok)
    | _, _ => none
  | _ => none

theorem beforeQ_args {args : List AV} {H : AH} {v : AV} {ft : List Nat} {pr : Option Prop} (h : beforeQ args H = some (v, ft, pr)) : ∃ x y, args = [x.av, y.av] ∧ v = .b (beforeB x y) ∧ pr = some x.d.ok := by
  unfold beforeQ at h
  split at h
  · split at h
    · rename_i v d hv hd
      simp at h
      rw [evOf_eq hv, evOf_eq hd]
      exact ⟨v, d, rfl, h.1.symm, h.2.2.symm⟩
    · simp at h
  · simp at h

noncomputable def T3 : CT Try.prog :=
  (T2.addQ 41 beforeQ (by kernel_rfl) fun _ _ _ _ _ h hp r w _ => by
    obtain ⟨x, d, rfl, rfl, rfl⟩ := beforeQ_args h
    exact before_run x d hp.some r w).addQ 17 beforeQ (by kernel_rfl) fun _ _ _ _ _ h hp r w _ => by
    obtain ⟨x, d, rfl, rfl, rfl⟩ := beforeQ_args h
    exact rbefore_run x d hp.some r w

def lastB (e : Ev) (l : List Ev) : Bool := !(l.any fun x => beforeB e x)

def cloV (x0 x1 x2 : Nat) : Value := .func (.func 40) #[] #[.pointer (some ⟨x0, 0, none⟩), .pointer (some ⟨x1, 0, none⟩), .pointer (some ⟨x2, 0, none⟩)]

def laH (e : Ev) (res : Bool) : AH := [(.cells e.cvs 31, 1), (.cells [.rig (.bool res)] 4, 1)]
def laF (e : Ev) (x0 x1 x2 : Nat) : AF := [e.av, .r (cloV x0 x1 x2), .c (.ptr 0 0), .undef, .c (.ptr 1 0), .undef, .r (cloV x0 x1 x2), .undef, .undef, .undef, .undef]

set_option maxRecDepth 4000 in
theorem last_run {L : Bk} (hL : ∀ p ∈ L, p.1.ok) {e : Ev} (he : e.d.ok) {who : Int} {v : Vec} {b M x0 x1 x2 : Nat} {w : World} (h : Abt b M x0 x1 x2 who v L w) :
    Calls Try.prog 30 #[e.v, cloV x0 x1 x2] w fun x w' => x = .returned (.bool (lastB e (aboutL L who v))) ∧ Below w.heap.size w w' := by
  refine (callsFw (ro := none) (n := 2)).1 (callsInMarks (args := [e.av, .r (cloV x0 x1 x2)]) (r := id) (fn := fnOf Try.prog 30)
    (c := (.seq (.region 0 (opsAt Try.prog 30 0) false) (.seq (.seq (.region 1 (opsAt Try.prog 30 1) false) (.block 0 (.rangeFunc (.tmp 6) #[7] (.region 2 (opsAt Try.prog 30 2) false) (.block 1 (.seq (.region 3 (opsAt Try.prog 30 3) false) (.cond (.tmp 10) (.seq (.region 4 (opsAt Try.prog 30 4) false) .ret) .skip)))))) (.seq (.region 5 (opsAt Try.prog 30 5) false) .ret)))) (by kernel_rfl) (by kernel_rfl) fun a0 hF0 hd0 => ?_)
  refine wpIn_seq (reg_wp (pre_wp T3 0 2 [] [] (by kernel_rfl) (by kernel_rfl) trivial hF0 (St.empty id w) fun r1 w1 a1 hag1 hst1 hF1 hd1 => wpListIn_end (by kernel_rfl) ?_))
  refine wpIn_seq (wpIn_seq (reg_wp (pre_wp T3 1 1 [] [] (by kernel_rfl) (by kernel_rfl) trivial hF1 hst1 fun r2 w2 a2 hag2 hst2 hF2 hd2 => wpListIn_end (by kernel_rfl) ?_)))
  have hst : St r2 (laH e false) w w2 := hst2.as (by kernel_rfl)
  have hF : FrameOk r2 (laF e x0 x1 x2) a2 := hF2.as (by kernel_rfl)
  have hd : a2.defers = [] := by rw [hd2, hd1, hd0]
  clear hF0 hF1 hF2 hst1 hst2 hd0 hd1 hd2 hag1 hag2
  have hb2 := hst.below (by kernel_rfl)
  have hlt : ∀ i, i < 2 → r2 i < w2.heap.size := fun i hi => hst.lt hi
  refine wpIn_block ?_
  refine wpIn_rangeFunc_ownH (F := Fw none) rfl (by omega) (gf := 40) (lb := #[.pointer (some ⟨x0, 0, none⟩), .pointer (some ⟨x1, 0, none⟩), .pointer (some ⟨x2, 0, none⟩)]) ?_ trivial (fun _ _ => callFunc_run (by kernel_rfl) _ _)
    (about1_seq hL h) (fun ha hb => ⟨fun h => hb.1 (ha.1 h), ha.2.trans hb.2⟩) (fun W l o o' hl ho h1 h2 => ⟨fun hA => hA.later (belowK_b hb2.size W l o o' hl ho h1 h2) (lt_of_at h.book) (lt_of_at h.map_) (lt_of_at h.c0) (lt_of_at h.c1) (lt_of_at h.c2), KeepsWalks.putObj _ ho h2⟩) hb2 (fun _ => rfl)
    (fun pre W => St r2 (laH e false) w W ∧ ∀ x ∈ pre, beforeB e x.1 = false)
    (fun c pre W => c = .ret ∧ (∃ x ∈ pre, beforeB e x.1 = true) ∧ St r2 (laH e false) w W)
    ?hI ?hIx ?h0
    (fun x a' W => ∃ r3, Agree 2 r2 r3 ∧ FrameOk r3 (((laF e x0 x1 x2).set 7 x.1.av).set 5 (.c (.ptr 2 0))) a' ∧ a'.defers = [] ∧ St r3 (laH e false ++ [(.cells x.1.cvs 31, 1)]) w W) ?hAx ?assign ?body ?done ?stop
  case hI => exact fun s A B row hs hg hr => ⟨hs.1.ownC (fun i x hx => .inr (hlt i (List.getElem?_eq_some_iff.1 hx).1)) hb2.size hg hr, hs.2⟩
  case hIx => exact fun c s A B row hs hg hr => ⟨hs.1, hs.2.1, hs.2.2.ownC (fun i x hx => .inr (hlt i (List.getElem?_eq_some_iff.1 hx).1)) hb2.size hg hr⟩
  case h0 => exact ⟨hst, fun x hx => by simp at hx⟩
  case hAx =>
    rintro x a' u A B row ⟨r3, g1, g2, g3, g4⟩ hg hr
    exact ⟨r3, g1, g2, g3, g4.ownC (fun i y hy => .inl (by
      match i, hy with
      | 0, hy => cases hy; rfl
      | 1, hy => cases hy; rfl
      | 2, hy => cases hy; rfl
      | i + 3, hy => simp [laH] at hy)) hb2.size hg hr⟩
  case assign =>
    rintro l pre x W K ⟨hs, hall⟩ hK
    refine reg_wp (ro := some l) (pre_wp T3 2 2 [] [] (by kernel_rfl) (by kernel_rfl) trivial (hF.round 7 x.1.av rfl) hs.rebase fun r3 w3 a3 hag3 hst3 hF3 hd3 => wpListIn_end (by kernel_rfl) ?_)
    have hk := St.keepsOthers hs.rebase hst3 hag3 (by kernel_rfl) (by kernel_rfl) (by kernel_rfl)
    have hbn : Below w.heap.size W w3 := St.belowN hst3 hag3 hs.size (fun i y hy _ => by
      obtain ⟨z, hz, -⟩ := reb_get hy
      refine hs.own i z hz ?_
      match i, hz with
      | 0, hz => cases hz; rfl
      | 1, hz => cases hz; rfl
      | i + 2, hz => simp [laH] at hz) (by kernel_rfl) (by kernel_rfl)
    refine hK a3 w3 (hk.from _) ⟨fun hA => hA.later hbn (lt_of_at h.book) (lt_of_at h.map_) (lt_of_at h.c0) (lt_of_at h.c1) (lt_of_at h.c2), hk.walks⟩ ⟨St.back (H2 := laH e false) hs hst3 hag3 (by kernel_rfl) (by kernel_rfl) (by kernel_rfl) (by kernel_rfl), hall⟩ ⟨r3, hag3, hF3.as (by kernel_rfl), hd3, St.fwd (laH e false ++ [(.cells x.1.cvs 31, 1)]) hs hst3 hag3 (by kernel_rfl) (by kernel_rfl) (by kernel_rfl)⟩
  case body =>
    rintro l pre x a' W hl hrec ⟨hs, hall⟩ ⟨r3, g1, g2, g3, g4⟩ hlen
    have hown : ∀ (i : Nat) (y : AO × Nat), (reb (laH e false ++ [(.cells x.1.cvs 31, 1)]))[i]? = some y → y.2 = 2 → w.heap.size ≤ r3 i := fun i y hy _ => by
      obtain ⟨z, hz, -⟩ := reb_get hy
      refine g4.own i z hz ?_
      match i, hz with
      | 0, hz => cases hz; rfl
      | 1, hz => cases hz; rfl
      | 2, hz => cases hz; rfl
      | i + 3, hz => simp [laH] at hz
    cases hbf : beforeB e x.1 with
    | false =>
      refine code_wp hmx (ro := some l) T3 [.c 10 false] [e.d.ok, beforeB e x.1 = false] .norm (by kernel_rfl) (by kernel_rfl) ⟨he, hbf, trivial⟩ g2 g4.rebase fun r4 w4 a4 hag4 hst4 hF4 hd4 => ?_
      have hk := St.keepsOthers g4.rebase hst4 hag4 (by kernel_rfl) (by kernel_rfl) (by kernel_rfl)
      have hbn : Below w.heap.size W w4 := St.belowN hst4 hag4 hs.size hown (by kernel_rfl) (by kernel_rfl)
      refine ⟨hk.from _, ⟨fun hA => hA.later hbn (lt_of_at h.book) (lt_of_at h.map_) (lt_of_at h.c0) (lt_of_at h.c1) (lt_of_at h.c2), hk.walks⟩, St.forget (laH e false) (St.back (H2 := laH e false ++ [(.cells x.1.cvs 31, 1)]) g4 hst4 hag4 (by kernel_rfl) (by kernel_rfl) (by kernel_rfl) (by kernel_rfl)) g1 (by kernel_rfl) (by kernel_rfl) (by kernel_rfl), fun y hy => ?_⟩
      rcases List.mem_append.1 hy with h1 | h1
      · exact hall y h1
      · rw [List.mem_singleton] at h1; subst h1; exact hbf
    | true =>
      refine code_wp hmx (ro := some l) T3 [.c 10 true] [e.d.ok, beforeB e x.1 = true] .ret (by kernel_rfl) (by kernel_rfl) ⟨he, hbf, trivial⟩ g2 g4.rebase fun r4 w4 a4 hag4 hst4 hF4 hd4 => ?_
      have hk := St.keepsOthers g4.rebase hst4 hag4 (by kernel_rfl) (by kernel_rfl) (by kernel_rfl)
      exact ⟨hk.from _, rfl, ⟨x, by simp, hbf⟩, St.forget (laH e false) (St.back (H2 := laH e false ++ [(.cells x.1.cvs 31, 1)]) g4 hst4 hag4 (by kernel_rfl) (by kernel_rfl) (by kernel_rfl) (by kernel_rfl)) g1 (by kernel_rfl) (by kernel_rfl) (by kernel_rfl)⟩
  case done =>
    rintro D xs W hD hS ⟨hs, hall⟩ hk
    have hm := hs.more (by kernel_rfl) (D := D) (.raw (.deferred (some []))) hk (fun i hi e => by have := hlt i hi; omega) (by have := hb2.size; omega)
    have hF' : FrameOk (bump r2 2 D) (laF e x0 x1 x2) { a2 with defers := { target := .collected D, args := #[] } :: a2.defers } := FrameOk.agree (n := 2) hF (bump_agree r2 2 D) (by kernel_rfl)
    refine wpIn_seq (reg_wp (pre_wp T3 5 1 [] [] (by kernel_rfl) (by kernel_rfl) trivial hF' hm fun r5 w5 a5 hag5 hst5 hF5 hd5 => wpListIn_end (by kernel_rfl) (wpIn_ret ?_)))
    refine (marksPost 2 (by kernel_rfl) (v := .b true) (by kernel_rfl) hF5 hst5 ?_ fun W' hst' => ⟨?_, hst'.below (by kernel_rfl)⟩).1
    · rw [hd5, hd, hag5.at 2 (by kernel_rfl)]
      simp [bump, laH]
    · have : lastB e (aboutL L who v) = true := by
        simp only [lastB, Bool.not_eq_true', List.any_eq_false, Bool.not_eq_true]
        intro x hx
        obtain ⟨y, hy, rfl⟩ := List.mem_map.1 (hS.mem_iff.2 hx)
        exact hall y hy
      rw [this]; rfl
  case stop =>
    rintro D c pre W hD hSp ⟨rfl, ⟨x, hx, hbx⟩, hs⟩ hk
    have hm := hs.more (by kernel_rfl) (D := D) (.raw (.deferred (some []))) hk (fun i hi e => by have := hlt i hi; omega) (by have := hb2.size; omega)
    have hF' : FrameOk (bump r2 2 D) (laF e x0 x1 x2) { a2 with defers := { target := .collected D, args := #[] } :: a2.defers } := FrameOk.agree (n := 2) hF (bump_agree r2 2 D) (by kernel_rfl)
    refine wpIn_ret ?_
    refine (marksPost 2 (by kernel_rfl) (v := .b false) (by kernel_rfl) hF' hm ?_ fun W' hst' => ⟨?_, hst'.below (by kernel_rfl)⟩).1
    · rw [hd]
      simp [bump, laH]
    · have : lastB e (aboutL L who v) = false := by
        simp only [lastB, Bool.not_eq_false', List.any_eq_true]
        exact ⟨x.1, hSp x hx, hbx⟩
      rw [this]; rfl
  case _ => rw [hF.eval]; rfl

end Go.Proofs.Ytodcebpdmjdplaa
