/- The iterator's own code. -/
import Derived.Test.YtodcebpdmjdplaaC5
namespace Go.Proofs.Ytodcebpdmjdplaa
open Go.RowKit Go.ChangeMaps

/-- An event within its bounds. -/
abbrev EvK := { e : Ev // e.ok }

def abKp (b M x0 x1 x2 : Nat) (who : Int) (v : Vec) (L : Bk) (A B : World) : Prop := (Abt b M x0 x1 x2 who v L A → Abt b M x0 x1 x2 who v L B) ∧ KeepsWalks A B

def abF (l x0 x1 x2 : Nat) : AF := [.r (.func (.yield l) #[] #[]), .r (.pointer (some ⟨x0, 0, none⟩)), .r (.pointer (some ⟨x1, 0, none⟩)), .r (.pointer (some ⟨x2, 0, none⟩))]

def abInv (L : Bk) (who : Int) (v : Vec) (l b M x0 x1 x2 it : Nat) (J : List EvK → World → Prop) (B : Nat) (a : Act) (W : World) : Prop :=
  ∃ seen pre, a.defers = [] ∧ a.tmps.size = 38 ∧ (∀ i, i < 4 → a.tmps.getD i Go.undef = ((abF l x0 x1 x2).getD i .undef).conc id) ∧
    a.tmps.getD 11 Go.undef = .pointer (some ⟨it, 0, none⟩) ∧ Abt b M x0 x1 x2 who v L W ∧ W.heap[it]? = some (.mapIter (some M) L.length seen L.length) ∧ J pre W ∧ (pre.map (·.1)).Perm (cameL L seen who v) ∧ B ≤ it

def abMu (L : Bk) (it : Nat) (_ : Act) (W : World) : Nat := match W.heap[it]? with | some (.mapIter _ _ seen _) => (leftOf (esOf L) seen).size | _ => 0

def abH (b : Nat) (who : Int) (v : Vec) : AH := [(.cells [.rig (.pointer (some ⟨b, 0, none⟩))] 32, 0), (.cells [.rig (.int .u8 who)] 5, 0), (.cells v.cvs 27, 0)]

theorem abSt {b M x0 x1 x2 : Nat} {who : Int} {v : Vec} {L : Bk} {W : World} (hA : Abt b M x0 x1 x2 who v L W) {r : Nat → Nat} (e0 : r 0 = x0) (e1 : r 1 = x1) (e2 : r 2 = x2) : St r (abH b who v) W W :=
  St.read (fun i x hx => by
    match i, hx with
    | 0, hx => cases hx; rw [e0]; exact hA.c0
    | 1, hx => cases hx; rw [e1]; exact hA.c1
    | 2, hx => cases hx; rw [e2]; exact hA.c2
    | i + 3, hx => simp [abH] at hx) (by kernel_rfl) (by kernel_rfl)

theorem abSlots {l x0 x1 x2 : Nat} {r : Nat → Nat} {F : AF} {a a' : Act} (hF : FrameOk r F a') (hl : F.length = 38) (h0 : F.getD 0 .undef = .r (.func (.yield l) #[] #[])) (h1 : F.getD 1 .undef = .c (.ptr 0 0)) (h2 : F.getD 2 .undef = .c (.ptr 1 0)) (h3 : F.getD 3 .undef = .c (.ptr 2 0))
    (h11 : F.getD 11 .undef = .r (a.tmps.getD 11 Go.undef)) (e0 : r 0 = x0) (e1 : r 1 = x1) (e2 : r 2 = x2) :
    a'.tmps.size = 38 ∧ (∀ i, i < 4 → a'.tmps.getD i Go.undef = ((abF l x0 x1 x2).getD i .undef).conc id) ∧ a'.tmps.getD 11 Go.undef = a.tmps.getD 11 Go.undef := by
  refine ⟨hF.size.trans hl, fun i hi => ?_, ?_⟩
  · rw [hF.looks i]
    match i, hi with
    | 0, _ => rw [h0]; rfl
    | 1, _ => rw [h1]; simp [AV.conc, TV.conc, CV.conc, e0, abF]
    | 2, _ => rw [h2]; simp [AV.conc, TV.conc, CV.conc, e1, abF]
    | 3, _ => rw [h3]; simp [AV.conc, TV.conc, CV.conc, e2, abF]
  · rw [hF.looks 11, h11]; rfl

theorem abSlots' {l x0 x1 x2 it : Nat} {r : Nat → Nat} {F : AF} {a' : Act} (hF : FrameOk r F a') (hl : F.length = 38) (h0 : F.getD 0 .undef = .r (.func (.yield l) #[] #[])) (h1 : F.getD 1 .undef = .c (.ptr 0 0)) (h2 : F.getD 2 .undef = .c (.ptr 1 0)) (h3 : F.getD 3 .undef = .c (.ptr 2 0))
    (h11 : F.getD 11 .undef = .r (.pointer (some ⟨it, 0, none⟩))) (e0 : r 0 = x0) (e1 : r 1 = x1) (e2 : r 2 = x2) :
    a'.tmps.size = 38 ∧ (∀ i, i < 4 → a'.tmps.getD i Go.undef = ((abF l x0 x1 x2).getD i .undef).conc id) ∧ a'.tmps.getD 11 Go.undef = .pointer (some ⟨it, 0, none⟩) := by
  refine ⟨hF.size.trans hl, fun i hi => ?_, ?_⟩
  · rw [hF.looks i]
    match i, hi with
    | 0, _ => rw [h0]; rfl
    | 1, _ => rw [h1]; simp [AV.conc, TV.conc, CV.conc, e0, abF]
    | 2, _ => rw [h2]; simp [AV.conc, TV.conc, CV.conc, e1, abF]
    | 3, _ => rw [h3]; simp [AV.conc, TV.conc, CV.conc, e2, abF]
  · rw [hF.looks 11, h11]; rfl

/-- One round, behind the step: the entry is read, looked at, and handed to the body where it is to be. -/
theorem about1_round {L : Bk} {who : Int} {v : Vec} {b M x0 x1 x2 n l it : Nat} {J0 J1 Jx1 : World → Prop} {W2 : World} {Q : Exit → Act → World → Prop} {a : Act}
    (hA : Abt b M x0 x1 x2 who v L W2) (p : Ev × Bool) (hp : p.1.ok)
    (hs : a.tmps.size = 38) (hk : ∀ i, i < 4 → a.tmps.getD i Go.undef = ((abF l x0 x1 x2).getD i .undef).conc id) (h11 : a.tmps.getD 11 Go.undef = .pointer (some ⟨it, 0, none⟩)) (hd : a.defers = [])
    (hent : (Instr.entry (.pointer (some ⟨it, 0, none⟩))).run Try.prog W2 = .ok (.tuple #[p.1.d.v, entV p]) W2) (hJ : J0 W2) (hJa : ∀ W W', J0 W → Below W.heap.size W W' → J0 W') (hJa1 : ∀ W W', J1 W → Below W.heap.size W W' → J1 W') (hJxa : ∀ W W', Jx1 W → Below W.heap.size W W' → Jx1 W')
    (hY : relB who v p = true → ∀ W1, J0 W1 → YieldAt (Fw none) (n - 1) Try.prog l #[p.1.v] W1 fun e W' => (e = .returned (.bool true) ∧ J1 W' ∧ abKp b M x0 x1 x2 who v L W1 W') ∨ (e = .returned (.bool false) ∧ Jx1 W'))
    (hgo : ∀ a' W', a'.defers = [] → a'.tmps.size = 38 → (∀ i, i < 4 → a'.tmps.getD i Go.undef = ((abF l x0 x1 x2).getD i .undef).conc id) → a'.tmps.getD 11 Go.undef = .pointer (some ⟨it, 0, none⟩) →
      (∃ W3, Below W2.heap.size W2 W3 ∧ ((relB who v p = false ∧ W' = W3 ∧ J0 W') ∨ (relB who v p = true ∧ J1 W' ∧ abKp b M x0 x1 x2 who v L W3 W'))) → Q .normal a' W')
    (hstop : ∀ a' W', a'.defers = [] → relB who v p = true → Jx1 W' → Q .ret a' W') :
    (Code.seq (.region 2 (opsAt Try.prog 40 2) false) (.seq (.region 3 (opsAt Try.prog 40 3) false) (.cond (.tmp 37) .ret .skip))).wpIn (Fw none) n Try.prog Q a W2 := by
  let r0 : Nat → Nat := fun i => match i with | 0 => x0 | 1 => x1 | _ => x2
  let F0 : AF := [.r (.func (.yield l) #[] #[]), .c (.ptr 0 0), .c (.ptr 1 0), .c (.ptr 2 0)] ++ garb a 4 34
  have hF0 : FrameOk r0 F0 a := FrameOk.garb rfl hs fun i hi => by
    rw [hk i hi]
    match i, hi with
    | 0, _ => rfl
    | 1, _ => rfl
    | 2, _ => rfl
    | 3, _ => rfl
  have hst0 := abSt hA (r := r0) rfl rfl rfl
  refine wpIn_seq (reg_wp ?_)
  refine val_wp (i := 0) (w' := W2) (.entry (.tmp 11)) (.tup [.agg p.1.d.cvs, .agg (entCvs p)]) hF0 (by kernel_rfl) (by kernel_rfl) (fun o ho => run_entry_op ho (v := .pointer (some ⟨it, 0, none⟩)) ?_ ?_) fun a1 hF1 hd1 => ?_
  · exact h11
  · exact hent
  refine pre_wp T2 2 6 (i := 1) [] [] (by kernel_rfl) (by kernel_rfl) trivial hF1 hst0 fun r2 w2 a2 hag2 hst2 hF2 hd2 => ?_
  refine wpListIn_end (by kernel_rfl) ?_
  refine wpIn_seq (reg_wp ?_)
  obtain ⟨e, c⟩ := p
  have g0 : r2 0 = x0 := hag2.at 0 (by kernel_rfl)
  have g1 : r2 1 = x1 := hag2.at 1 (by kernel_rfl)
  have g2 : r2 2 = x2 := hag2.at 2 (by kernel_rfl)
  cases c with
  | false =>
    refine pre_wp T2 3 21 (i := 0) [] [] (by kernel_rfl) (by kernel_rfl) trivial hF2 hst2 fun r3 w3 a3 hag3 hst3 hF3 hd3 => ?_
    refine wpListIn_end (by kernel_rfl) ?_
    obtain ⟨s1, s2, s3⟩ := abSlots (l := l) (a := a) hF3 (by kernel_rfl) (by kernel_rfl) (by kernel_rfl) (by kernel_rfl) (by kernel_rfl) (by kernel_rfl) ((hag3.at 0 (by kernel_rfl)).trans g0) ((hag3.at 1 (by kernel_rfl)).trans g1) ((hag3.at 2 (by kernel_rfl)).trans g2)
    have hb := hst3.below (by kernel_rfl)
    refine wpIn_cond_false (by rw [hF3.eval]; exact congrArg (AV.conc r3) (show _ = AV.b false by kernel_rfl)) (wpIn_skip ?_)
    exact hgo a3 w3 (by rw [hd3, hd2, hd1, hd]) s1 s2 (s3.trans h11) ⟨w3, hb, .inl ⟨rfl, rfl, hJa _ _ hJ hb⟩⟩
  | true =>
    cases hwho : (e.who == who) with
    | false =>
      refine pre_wp T2 3 21 (i := 0) [.s 3010 26 false] [(e.who == who) = false] (by kernel_rfl) (by kernel_rfl) ⟨hwho, trivial⟩ hF2 hst2 fun r3 w3 a3 hag3 hst3 hF3 hd3 => ?_
      refine wpListIn_end (by kernel_rfl) ?_
      obtain ⟨s1, s2, s3⟩ := abSlots (l := l) (a := a) hF3 (by kernel_rfl) (by kernel_rfl) (by kernel_rfl) (by kernel_rfl) (by kernel_rfl) (by kernel_rfl) ((hag3.at 0 (by kernel_rfl)).trans g0) ((hag3.at 1 (by kernel_rfl)).trans g1) ((hag3.at 2 (by kernel_rfl)).trans g2)
      have hb := hst3.below (by kernel_rfl)
      refine wpIn_cond_false (by rw [hF3.eval]; exact congrArg (AV.conc r3) (show _ = AV.b false by kernel_rfl)) (wpIn_skip ?_)
      exact hgo a3 w3 (by rw [hd3, hd2, hd1, hd]) s1 s2 (s3.trans h11) ⟨w3, hb, .inl ⟨by simp [relB, hwho], rfl, hJa _ _ hJ hb⟩⟩
    | true =>
      cases hhas : hasB v e.d with
      | false =>
        refine pre_wp T2 3 21 (i := 0) [.s 3010 26 true, .s 3015 31 false] [(e.who == who) = true, e.d.ok, hasB v e.d = false] (by kernel_rfl) (by kernel_rfl) ⟨hwho, hp.d, hhas, trivial⟩ hF2 hst2 fun r3 w3 a3 hag3 hst3 hF3 hd3 => ?_
        refine wpListIn_end (by kernel_rfl) ?_
        obtain ⟨s1, s2, s3⟩ := abSlots (l := l) (a := a) hF3 (by kernel_rfl) (by kernel_rfl) (by kernel_rfl) (by kernel_rfl) (by kernel_rfl) (by kernel_rfl) ((hag3.at 0 (by kernel_rfl)).trans g0) ((hag3.at 1 (by kernel_rfl)).trans g1) ((hag3.at 2 (by kernel_rfl)).trans g2)
        have hb := hst3.below (by kernel_rfl)
        refine wpIn_cond_false (by rw [hF3.eval]; exact congrArg (AV.conc r3) (show _ = AV.b false by kernel_rfl)) (wpIn_skip ?_)
        exact hgo a3 w3 (by rw [hd3, hd2, hd1, hd]) s1 s2 (s3.trans h11) ⟨w3, hb, .inl ⟨by simp [relB, hhas], rfl, hJa _ _ hJ hb⟩⟩
      | true =>
        have hrel : relB who v (e, true) = true := by simp [relB, hwho, hhas]
        refine pre_wp T2 3 18 (i := 0) [.s 3010 26 true, .s 3015 31 true] [(e.who == who) = true, e.d.ok, hasB v e.d = true] (by kernel_rfl) (by kernel_rfl) ⟨hwho, hp.d, hhas, trivial⟩ hF2 hst2 fun r3 w3 a3 hag3 hst3 hF3 hd3 => ?_
        have hb := hst3.below (by kernel_rfl)
        obtain ⟨s1, s2, s3⟩ := abSlots (l := l) (a := a) hF3 (by kernel_rfl) (by kernel_rfl) (by kernel_rfl) (by kernel_rfl) (by kernel_rfl) (by kernel_rfl) ((hag3.at 0 (by kernel_rfl)).trans g0) ((hag3.at 1 (by kernel_rfl)).trans g1) ((hag3.at 2 (by kernel_rfl)).trans g2)
        have f0 := (hag3.at 0 (by kernel_rfl)).trans g0
        have f1 := (hag3.at 1 (by kernel_rfl)).trans g1
        have f2 := (hag3.at 2 (by kernel_rfl)).trans g2
        refine yield_wp (i := 18) { callee := .value (.tmp 32), args := #[.tmp 34], argTypes := #[31] } (.tmp 32) (.tmp 34) hF3 (by kernel_rfl) (by kernel_rfl) rfl rfl (l := l) (by kernel_rfl) (v := e.v) (show _ = e.av.conc r3 from congrArg (AV.conc r3) (by kernel_rfl)) (hY hrel w3 (hJa _ _ hJ hb)) fun x w4 hx => ?_
        rcases hx with ⟨rfl, hj, hkp⟩ | ⟨rfl, hj⟩
        · refine ⟨_, rfl, fun a4 hF4 hd4 => ?_⟩
          refine pre_wp T2 3 2 (i := 19) [] [] (by kernel_rfl) (by kernel_rfl) trivial hF4 (abSt (hkp.1 (hA.later hb (lt_of_at hA.book) (lt_of_at hA.map_) (lt_of_at hA.c0) (lt_of_at hA.c1) (lt_of_at hA.c2))) f0 f1 f2) fun r5 w5 a5 hag5 hst5 hF5 hd5 => ?_
          refine wpListIn_end (by kernel_rfl) ?_
          have hb5 := hst5.below (by kernel_rfl)
          obtain ⟨t1, t2, t3⟩ := abSlots (l := l) (a := a) hF5 (by kernel_rfl) (by kernel_rfl) (by kernel_rfl) (by kernel_rfl) (by kernel_rfl) (by kernel_rfl) ((hag5.at 0 (by kernel_rfl)).trans f0) ((hag5.at 1 (by kernel_rfl)).trans f1) ((hag5.at 2 (by kernel_rfl)).trans f2)
          refine wpIn_cond_false (by rw [hF5.eval]; exact congrArg (AV.conc r5) (show _ = AV.b false by kernel_rfl)) (wpIn_skip ?_)
          exact hgo a5 w5 (by rw [hd5, hd4, hd3, hd2, hd1, hd]) t1 t2 (t3.trans h11) ⟨w3, hb, .inr ⟨hrel, hJa1 _ _ hj hb5, fun h3 => (hkp.1 h3).later hb5 (lt_of_at (hkp.1 h3).book) (lt_of_at (hkp.1 h3).map_) (lt_of_at (hkp.1 h3).c0) (lt_of_at (hkp.1 h3).c1) (lt_of_at (hkp.1 h3).c2), hkp.2.trans (keepsWalks_of_below hb5)⟩⟩
        · refine ⟨_, rfl, fun a4 hF4 hd4 => ?_⟩
          refine pre_wp T2 3 2 (i := 19) [] [] (by kernel_rfl) (by kernel_rfl) trivial hF4 (St.empty r3 w4) fun r5 w5 a5 hag5 hst5 hF5 hd5 => ?_
          refine wpListIn_end (by kernel_rfl) ?_
          have hb5 := hst5.below (by kernel_rfl)
          refine wpIn_cond_true (by rw [hF5.eval]; exact congrArg (AV.conc r5) (show _ = AV.b true by kernel_rfl)) (wpIn_ret ?_)
          exact hstop a5 w5 (by rw [hd5, hd4, hd3, hd2, hd1, hd]) hrel (hJxa _ _ hj hb5)

end Go.Proofs.Ytodcebpdmjdplaa
