/- Joins and Right: walked. -/
import Derived.Test.YtobonipmnidadaaJ26
namespace Go.Proofs.Ytobonipmnidadaa
open Go.RowKit
set_option maxRecDepth 8000

def liveQ (args : List AV) (_ : AH) : Option (AV × List Nat × Option Prop) :=
  match args with
  | [] => some (.b true, [], none)
  | _ => none
theorem liveQ_ok {args : List AV} {H : AH} {v : AV} {ft : List Nat} {pr : Option Prop} (h : liveQ args H = some (v, ft, pr)) (r : Gh) (w : World) :
    Calls Try.prog 12 (args.map (AV.conc r)).toArray w fun e w' => e = .returned (v.conc r) ∧ Below w.heap.size w w' := by
  unfold liveQ at h
  split at h
  · simp only [Option.some.injEq, Prod.mk.injEq] at h
    obtain ⟨rfl, -, -⟩ := h
    exact live_run r w
  · cases h

def beforeQ (args : List AV) (_ : AH) : Option (AV × List Nat × Option Prop) :=
  match args with
  | [.tv (.agg l), .tv (.agg m)] => match evOf l, evOf m with
    | some a, some b => some (.b (beforeB a b), [], some a.d.ok)
    | _, _ => none
  | _ => none
theorem beforeQ_args {args : List AV} {H : AH} {v : AV} {ft : List Nat} {pr : Option Prop} (h : beforeQ args H = some (v, ft, pr)) : ∃ x y, args = [x.av, y.av] ∧ v = .b (beforeB x y) ∧ pr = some x.d.ok := by
  unfold beforeQ at h
  split at h
  · split at h
    · rename_i v d hv hd
      simp at h
      rw [evOf_eq hv, evOf_eq hd]
      exact ⟨v, d, rfl, h.1.symm, h.2.2.symm⟩
    · simp at h
  · simp at h

noncomputable def TQ : CT Try.prog :=
  ((TP.addQ 12 liveQ (by kernel_rfl) fun _ _ _ _ _ h _ r w _ => liveQ_ok h r w).addQ 23 beforeQ (by kernel_rfl) fun _ _ _ _ _ h hp r w _ => by
    obtain ⟨x, d, rfl, rfl, rfl⟩ := beforeQ_args h
    exact before_run x d hp.some r w).addQ 24 beforeQ (by kernel_rfl) fun _ _ _ _ _ h hp r w _ => by
    obtain ⟨x, d, rfl, rfl, rfl⟩ := beforeQ_args h
    exact rbefore_run x d hp.some r w

theorem ctrQ_true {P : Program} (hmx : P.follows .mixedOrders = true) (T : CT P) {f : FuncId} {args : List AV} {Hs : AH} (D : List Dec) (v : AV) (ps : List Prop) (hv : (runF P T f args Hs D).v = some v) (hq : (runF P T f args Hs D).ps = ps) (hps : Holds ps)
    (hvs : v.sc Hs.length = true) (h : v = .b true) : CtrQ P f args Hs (.b true) := by
  have := ctrQ_run hmx T D v ps hv hq hps hvs
  rwa [h] at this

theorem right_law {e : Ev} (he : e.ok) {x : Ev} {v : Vec} (hv : v.ok) : CtrQ Try.prog 5 [e.av, x.av, v.av] [] (.b true) := by
  cases h1 : (rightB e == rightB e) with
  | false =>
    refine ctrQ_true hmx TQ [Dec.s (1009 : Nat) (15 : Nat) false] (AV.tv (TV.one (CV.rig (Value.bool false)))) [e.ok, e.ok, (rightB e == rightB e) = false] (by kernel_rfl) (by kernel_rfl) ⟨?_, ?_, h1, trivial⟩ (by kernel_rfl) ?_
    all_goals (
      first
      | exact he
      | exact he.d
      | exact ⟨hv, he⟩
      | trivial
      | rfl
      | (exfalso; simp at h1; done)
      | (exfalso; simp at h2; done)
      | (simp; done))
  | true =>
    cases h2 : (readyB v e == readyB v e) with
    | false =>
      refine ctrQ_true hmx TQ [Dec.s (1009 : Nat) (15 : Nat) true, Dec.s (1018 : Nat) (24 : Nat) false] (AV.tv (TV.one (CV.rig (Value.bool false)))) [e.ok, e.ok, (rightB e == rightB e) = true, v.ok ∧ e.ok, v.ok ∧ e.ok, (readyB v e == readyB v e) = false] (by kernel_rfl) (by kernel_rfl) ⟨?_, ?_, h1, ?_, ?_, h2, trivial⟩ (by kernel_rfl) ?_
      all_goals (
        first
        | exact he
        | exact he.d
        | exact ⟨hv, he⟩
        | trivial
        | rfl
        | (exfalso; simp at h1; done)
        | (exfalso; simp at h2; done)
        | (simp; done))
    | true =>
      refine ctrQ_true hmx TQ [Dec.s (1009 : Nat) (15 : Nat) true, Dec.s (1018 : Nat) (24 : Nat) true] (AV.tv (TV.one (CV.rig (Value.bool (beforeB e x == beforeB e x))))) [e.ok, e.ok, (rightB e == rightB e) = true, v.ok ∧ e.ok, v.ok ∧ e.ok, (readyB v e == readyB v e) = true, e.d.ok, e.d.ok] (by kernel_rfl) (by kernel_rfl) ⟨?_, ?_, h1, ?_, ?_, h2, ?_, ?_, trivial⟩ (by kernel_rfl) ?_
      all_goals (
        first
        | exact he
        | exact he.d
        | exact ⟨hv, he⟩
        | trivial
        | rfl
        | (exfalso; simp at h1; done)
        | (exfalso; simp at h2; done)
        | (simp; done))


theorem join_comm (a b : Vec) : joinV a b = joinV b a := by
  simp only [joinV, Vec.mk.injEq]; omega
theorem within_l (a b : Vec) : withinB a (joinV a b) = true := by
  rw [within_iff]; simp only [joinV]; omega
theorem within_r (a b : Vec) : withinB b (joinV a b) = true := by
  rw [join_comm]; exact within_l b a
theorem join_least (a b c : Vec) (h : withinB a c = true) : withinB (joinV a b) c = withinB b c := by
  rw [within_iff] at h
  rw [Bool.eq_iff_iff, within_iff, within_iff]
  simp only [joinV]
  omega
theorem join_get (a b : Vec) (i : Nat) (hi : i < 8) : (joinV a b).get i = max (a.get i) (b.get i) := by
  match i, hi with
  | 0, _ => rfl
  | 1, _ => rfl
  | 2, _ => rfl
  | 3, _ => rfl
  | 4, _ => rfl
  | 5, _ => rfl
  | 6, _ => rfl
  | 7, _ => rfl
theorem join_has (a b : Vec) (d : Dot) (hd : d.ok) : hasB (joinV a b) d = (hasB a d || hasB b d) := by
  have h0 := hd.a0
  have h1 := hd.s0
  rw [Bool.eq_iff_iff]
  simp only [hasB, Bool.or_eq_true, Bool.and_eq_true, decide_eq_true_eq]
  by_cases h8 : d.a < 8
  · rw [join_get _ _ _ (by omega)]; omega
  · constructor
    · rintro ⟨⟨h, _⟩, _⟩; omega
    · rintro (⟨⟨h, _⟩, _⟩ | ⟨⟨h, _⟩, _⟩) <;> omega

theorem joins_law {a b c : Vec} {d : Dot} (hd : d.ok) : CtrQ Try.prog 4 [.tv (.agg (a.cvs ++ b.cvs ++ c.cvs)), d.av] [] (.b true) := by
  cases h1 : (withinB a c) with
  | false =>
    cases h2 : (withinB a (joinV a b)) with
    | false =>
      refine ctrQ_true hmx TQ [Dec.s (2006 : Nat) (16 : Nat) false, Dec.s (4008 : Nat) (35 : Nat) false] (AV.tv (TV.one (CV.rig (Value.bool false)))) [(0 : Int) ≤ (0 : Int) ∧ (0 : Int) < (↑(3 : Nat) : Int), (0 : Int) ≤ (1 : Int) ∧ (1 : Int) < (↑(3 : Nat) : Int), (0 : Int) ≤ (0 : Int) ∧ (0 : Int) < (↑(3 : Nat) : Int), (0 : Int) ≤ (2 : Int) ∧ (2 : Int) < (↑(3 : Nat) : Int), withinB a c = false, (0 : Int) ≤ (0 : Int) ∧ (0 : Int) < (↑(3 : Nat) : Int), withinB a (joinV a b) = false] (by kernel_rfl) (by kernel_rfl) ⟨?_, ?_, ?_, ?_, h1, ?_, h2, trivial⟩ (by kernel_rfl) ?_
      all_goals (
        first
        | exact hd
        | exact ⟨by decide, by decide⟩
        | (exfalso; rw [within_l] at h2; cases h2; done)
        | (exfalso; rw [within_l] at h3; cases h3; done)
        | (exfalso; rw [within_r] at h3; cases h3; done)
        | (exfalso; rw [within_r] at h4; cases h4; done)
        | (exfalso; exact (of_decide_eq_false h4) (join_comm a b))
        | (exfalso; exact (of_decide_eq_false h5) (join_comm a b))
        | (exfalso; rw [join_least a b c h1] at h2; simp at h2; done)
        | (rw [join_has a b d hd, h5]; simp; done)
        | (rw [join_has a b d hd, h6]; simp; done))
    | true =>
      cases h3 : (withinB b (joinV a b)) with
      | false =>
        refine ctrQ_true hmx TQ [Dec.s (2006 : Nat) (16 : Nat) false, Dec.s (4008 : Nat) (35 : Nat) true, Dec.s (4014 : Nat) (41 : Nat) false] (AV.tv (TV.one (CV.rig (Value.bool false)))) [(0 : Int) ≤ (0 : Int) ∧ (0 : Int) < (↑(3 : Nat) : Int), (0 : Int) ≤ (1 : Int) ∧ (1 : Int) < (↑(3 : Nat) : Int), (0 : Int) ≤ (0 : Int) ∧ (0 : Int) < (↑(3 : Nat) : Int), (0 : Int) ≤ (2 : Int) ∧ (2 : Int) < (↑(3 : Nat) : Int), withinB a c = false, (0 : Int) ≤ (0 : Int) ∧ (0 : Int) < (↑(3 : Nat) : Int), withinB a (joinV a b) = true, (0 : Int) ≤ (1 : Int) ∧ (1 : Int) < (↑(3 : Nat) : Int), withinB b (joinV a b) = false] (by kernel_rfl) (by kernel_rfl) ⟨?_, ?_, ?_, ?_, h1, ?_, h2, ?_, h3, trivial⟩ (by kernel_rfl) ?_
        all_goals (
          first
          | exact hd
          | exact ⟨by decide, by decide⟩
          | (exfalso; rw [within_l] at h2; cases h2; done)
          | (exfalso; rw [within_l] at h3; cases h3; done)
          | (exfalso; rw [within_r] at h3; cases h3; done)
          | (exfalso; rw [within_r] at h4; cases h4; done)
          | (exfalso; exact (of_decide_eq_false h4) (join_comm a b))
          | (exfalso; exact (of_decide_eq_false h5) (join_comm a b))
          | (exfalso; rw [join_least a b c h1] at h2; simp at h2; done)
          | (rw [join_has a b d hd, h5]; simp; done)
          | (rw [join_has a b d hd, h6]; simp; done))
      | true =>
        cases h4 : (decide (joinV a b = joinV b a)) with
        | false =>
          refine ctrQ_true hmx TQ [Dec.s (2006 : Nat) (16 : Nat) false, Dec.s (4008 : Nat) (35 : Nat) true, Dec.s (4014 : Nat) (41 : Nat) true, Dec.s (4023 : Nat) (50 : Nat) false] (AV.tv (TV.one (CV.rig (Value.bool false)))) [(0 : Int) ≤ (0 : Int) ∧ (0 : Int) < (↑(3 : Nat) : Int), (0 : Int) ≤ (1 : Int) ∧ (1 : Int) < (↑(3 : Nat) : Int), (0 : Int) ≤ (0 : Int) ∧ (0 : Int) < (↑(3 : Nat) : Int), (0 : Int) ≤ (2 : Int) ∧ (2 : Int) < (↑(3 : Nat) : Int), withinB a c = false, (0 : Int) ≤ (0 : Int) ∧ (0 : Int) < (↑(3 : Nat) : Int), withinB a (joinV a b) = true, (0 : Int) ≤ (1 : Int) ∧ (1 : Int) < (↑(3 : Nat) : Int), withinB b (joinV a b) = true, (0 : Int) ≤ (1 : Int) ∧ (1 : Int) < (↑(3 : Nat) : Int), (0 : Int) ≤ (0 : Int) ∧ (0 : Int) < (↑(3 : Nat) : Int), decide (joinV a b = joinV b a) = false] (by kernel_rfl) (by kernel_rfl) ⟨?_, ?_, ?_, ?_, h1, ?_, h2, ?_, h3, ?_, ?_, h4, trivial⟩ (by kernel_rfl) ?_
          all_goals (
            first
            | exact hd
            | exact ⟨by decide, by decide⟩
            | (exfalso; rw [within_l] at h2; cases h2; done)
            | (exfalso; rw [within_l] at h3; cases h3; done)
            | (exfalso; rw [within_r] at h3; cases h3; done)
            | (exfalso; rw [within_r] at h4; cases h4; done)
            | (exfalso; exact (of_decide_eq_false h4) (join_comm a b))
            | (exfalso; exact (of_decide_eq_false h5) (join_comm a b))
            | (exfalso; rw [join_least a b c h1] at h2; simp at h2; done)
            | (rw [join_has a b d hd, h5]; simp; done)
            | (rw [join_has a b d hd, h6]; simp; done))
        | true =>
          cases h5 : (hasB a d) with
          | false =>
            refine ctrQ_true hmx TQ [Dec.s (2006 : Nat) (16 : Nat) false, Dec.s (4008 : Nat) (35 : Nat) true, Dec.s (4014 : Nat) (41 : Nat) true, Dec.s (4023 : Nat) (50 : Nat) true, Dec.s (4031 : Nat) (58 : Nat) false] (AV.tv (TV.one (CV.rig (Value.bool (hasB (joinV a b) d == hasB b d))))) [(0 : Int) ≤ (0 : Int) ∧ (0 : Int) < (↑(3 : Nat) : Int), (0 : Int) ≤ (1 : Int) ∧ (1 : Int) < (↑(3 : Nat) : Int), (0 : Int) ≤ (0 : Int) ∧ (0 : Int) < (↑(3 : Nat) : Int), (0 : Int) ≤ (2 : Int) ∧ (2 : Int) < (↑(3 : Nat) : Int), withinB a c = false, (0 : Int) ≤ (0 : Int) ∧ (0 : Int) < (↑(3 : Nat) : Int), withinB a (joinV a b) = true, (0 : Int) ≤ (1 : Int) ∧ (1 : Int) < (↑(3 : Nat) : Int), withinB b (joinV a b) = true, (0 : Int) ≤ (1 : Int) ∧ (1 : Int) < (↑(3 : Nat) : Int), (0 : Int) ≤ (0 : Int) ∧ (0 : Int) < (↑(3 : Nat) : Int), decide (joinV a b = joinV b a) = true, d.ok, (0 : Int) ≤ (0 : Int) ∧ (0 : Int) < (↑(3 : Nat) : Int), d.ok, hasB a d = false, (0 : Int) ≤ (1 : Int) ∧ (1 : Int) < (↑(3 : Nat) : Int), d.ok] (by kernel_rfl) (by kernel_rfl) ⟨?_, ?_, ?_, ?_, h1, ?_, h2, ?_, h3, ?_, ?_, h4, ?_, ?_, ?_, h5, ?_, ?_, trivial⟩ (by kernel_rfl) ?_
            all_goals (
              first
              | exact hd
              | exact ⟨by decide, by decide⟩
              | (exfalso; rw [within_l] at h2; cases h2; done)
              | (exfalso; rw [within_l] at h3; cases h3; done)
              | (exfalso; rw [within_r] at h3; cases h3; done)
              | (exfalso; rw [within_r] at h4; cases h4; done)
              | (exfalso; exact (of_decide_eq_false h4) (join_comm a b))
              | (exfalso; exact (of_decide_eq_false h5) (join_comm a b))
              | (exfalso; rw [join_least a b c h1] at h2; simp at h2; done)
              | (rw [join_has a b d hd, h5]; simp; done)
              | (rw [join_has a b d hd, h6]; simp; done))
          | true =>
            refine ctrQ_true hmx TQ [Dec.s (2006 : Nat) (16 : Nat) false, Dec.s (4008 : Nat) (35 : Nat) true, Dec.s (4014 : Nat) (41 : Nat) true, Dec.s (4023 : Nat) (50 : Nat) true, Dec.s (4031 : Nat) (58 : Nat) true] (AV.tv (TV.one (CV.rig (Value.bool (hasB (joinV a b) d == true))))) [(0 : Int) ≤ (0 : Int) ∧ (0 : Int) < (↑(3 : Nat) : Int), (0 : Int) ≤ (1 : Int) ∧ (1 : Int) < (↑(3 : Nat) : Int), (0 : Int) ≤ (0 : Int) ∧ (0 : Int) < (↑(3 : Nat) : Int), (0 : Int) ≤ (2 : Int) ∧ (2 : Int) < (↑(3 : Nat) : Int), withinB a c = false, (0 : Int) ≤ (0 : Int) ∧ (0 : Int) < (↑(3 : Nat) : Int), withinB a (joinV a b) = true, (0 : Int) ≤ (1 : Int) ∧ (1 : Int) < (↑(3 : Nat) : Int), withinB b (joinV a b) = true, (0 : Int) ≤ (1 : Int) ∧ (1 : Int) < (↑(3 : Nat) : Int), (0 : Int) ≤ (0 : Int) ∧ (0 : Int) < (↑(3 : Nat) : Int), decide (joinV a b = joinV b a) = true, d.ok, (0 : Int) ≤ (0 : Int) ∧ (0 : Int) < (↑(3 : Nat) : Int), d.ok, hasB a d = true] (by kernel_rfl) (by kernel_rfl) ⟨?_, ?_, ?_, ?_, h1, ?_, h2, ?_, h3, ?_, ?_, h4, ?_, ?_, ?_, h5, trivial⟩ (by kernel_rfl) ?_
            all_goals (
              first
              | exact hd
              | exact ⟨by decide, by decide⟩
              | (exfalso; rw [within_l] at h2; cases h2; done)
              | (exfalso; rw [within_l] at h3; cases h3; done)
              | (exfalso; rw [within_r] at h3; cases h3; done)
              | (exfalso; rw [within_r] at h4; cases h4; done)
              | (exfalso; exact (of_decide_eq_false h4) (join_comm a b))
              | (exfalso; exact (of_decide_eq_false h5) (join_comm a b))
              | (exfalso; rw [join_least a b c h1] at h2; simp at h2; done)
              | (rw [join_has a b d hd, h5]; simp; done)
              | (rw [join_has a b d hd, h6]; simp; done))
  | true =>
    cases h2 : (!withinB b c == withinB (joinV a b) c) with
    | false =>
      cases h3 : (withinB a (joinV a b)) with
      | false =>
        refine ctrQ_true hmx TQ [Dec.s (2006 : Nat) (16 : Nat) true, Dec.c (27 : Nat) false, Dec.s (4008 : Nat) (35 : Nat) false] (AV.tv (TV.one (CV.rig (Value.bool false)))) [(0 : Int) ≤ (0 : Int) ∧ (0 : Int) < (↑(3 : Nat) : Int), (0 : Int) ≤ (1 : Int) ∧ (1 : Int) < (↑(3 : Nat) : Int), (0 : Int) ≤ (0 : Int) ∧ (0 : Int) < (↑(3 : Nat) : Int), (0 : Int) ≤ (2 : Int) ∧ (2 : Int) < (↑(3 : Nat) : Int), withinB a c = true, (0 : Int) ≤ (1 : Int) ∧ (1 : Int) < (↑(3 : Nat) : Int), (0 : Int) ≤ (2 : Int) ∧ (2 : Int) < (↑(3 : Nat) : Int), (0 : Int) ≤ (2 : Int) ∧ (2 : Int) < (↑(3 : Nat) : Int), (!withinB b c == withinB (joinV a b) c) = false, (0 : Int) ≤ (0 : Int) ∧ (0 : Int) < (↑(3 : Nat) : Int), withinB a (joinV a b) = false] (by kernel_rfl) (by kernel_rfl) ⟨?_, ?_, ?_, ?_, h1, ?_, ?_, ?_, h2, ?_, h3, trivial⟩ (by kernel_rfl) ?_
        all_goals (
          first
          | exact hd
          | exact ⟨by decide, by decide⟩
          | (exfalso; rw [within_l] at h2; cases h2; done)
          | (exfalso; rw [within_l] at h3; cases h3; done)
          | (exfalso; rw [within_r] at h3; cases h3; done)
          | (exfalso; rw [within_r] at h4; cases h4; done)
          | (exfalso; exact (of_decide_eq_false h4) (join_comm a b))
          | (exfalso; exact (of_decide_eq_false h5) (join_comm a b))
          | (exfalso; rw [join_least a b c h1] at h2; simp at h2; done)
          | (rw [join_has a b d hd, h5]; simp; done)
          | (rw [join_has a b d hd, h6]; simp; done))
      | true =>
        cases h4 : (withinB b (joinV a b)) with
        | false =>
          refine ctrQ_true hmx TQ [Dec.s (2006 : Nat) (16 : Nat) true, Dec.c (27 : Nat) false, Dec.s (4008 : Nat) (35 : Nat) true, Dec.s (4014 : Nat) (41 : Nat) false] (AV.tv (TV.one (CV.rig (Value.bool false)))) [(0 : Int) ≤ (0 : Int) ∧ (0 : Int) < (↑(3 : Nat) : Int), (0 : Int) ≤ (1 : Int) ∧ (1 : Int) < (↑(3 : Nat) : Int), (0 : Int) ≤ (0 : Int) ∧ (0 : Int) < (↑(3 : Nat) : Int), (0 : Int) ≤ (2 : Int) ∧ (2 : Int) < (↑(3 : Nat) : Int), withinB a c = true, (0 : Int) ≤ (1 : Int) ∧ (1 : Int) < (↑(3 : Nat) : Int), (0 : Int) ≤ (2 : Int) ∧ (2 : Int) < (↑(3 : Nat) : Int), (0 : Int) ≤ (2 : Int) ∧ (2 : Int) < (↑(3 : Nat) : Int), (!withinB b c == withinB (joinV a b) c) = false, (0 : Int) ≤ (0 : Int) ∧ (0 : Int) < (↑(3 : Nat) : Int), withinB a (joinV a b) = true, (0 : Int) ≤ (1 : Int) ∧ (1 : Int) < (↑(3 : Nat) : Int), withinB b (joinV a b) = false] (by kernel_rfl) (by kernel_rfl) ⟨?_, ?_, ?_, ?_, h1, ?_, ?_, ?_, h2, ?_, h3, ?_, h4, trivial⟩ (by kernel_rfl) ?_
          all_goals (
            first
            | exact hd
            | exact ⟨by decide, by decide⟩
            | (exfalso; rw [within_l] at h2; cases h2; done)
            | (exfalso; rw [within_l] at h3; cases h3; done)
            | (exfalso; rw [within_r] at h3; cases h3; done)
            | (exfalso; rw [within_r] at h4; cases h4; done)
            | (exfalso; exact (of_decide_eq_false h4) (join_comm a b))
            | (exfalso; exact (of_decide_eq_false h5) (join_comm a b))
            | (exfalso; rw [join_least a b c h1] at h2; simp at h2; done)
            | (rw [join_has a b d hd, h5]; simp; done)
            | (rw [join_has a b d hd, h6]; simp; done))
        | true =>
          cases h5 : (decide (joinV a b = joinV b a)) with
          | false =>
            refine ctrQ_true hmx TQ [Dec.s (2006 : Nat) (16 : Nat) true, Dec.c (27 : Nat) false, Dec.s (4008 : Nat) (35 : Nat) true, Dec.s (4014 : Nat) (41 : Nat) true, Dec.s (4023 : Nat) (50 : Nat) false] (AV.tv (TV.one (CV.rig (Value.bool false)))) [(0 : Int) ≤ (0 : Int) ∧ (0 : Int) < (↑(3 : Nat) : Int), (0 : Int) ≤ (1 : Int) ∧ (1 : Int) < (↑(3 : Nat) : Int), (0 : Int) ≤ (0 : Int) ∧ (0 : Int) < (↑(3 : Nat) : Int), (0 : Int) ≤ (2 : Int) ∧ (2 : Int) < (↑(3 : Nat) : Int), withinB a c = true, (0 : Int) ≤ (1 : Int) ∧ (1 : Int) < (↑(3 : Nat) : Int), (0 : Int) ≤ (2 : Int) ∧ (2 : Int) < (↑(3 : Nat) : Int), (0 : Int) ≤ (2 : Int) ∧ (2 : Int) < (↑(3 : Nat) : Int), (!withinB b c == withinB (joinV a b) c) = false, (0 : Int) ≤ (0 : Int) ∧ (0 : Int) < (↑(3 : Nat) : Int), withinB a (joinV a b) = true, (0 : Int) ≤ (1 : Int) ∧ (1 : Int) < (↑(3 : Nat) : Int), withinB b (joinV a b) = true, (0 : Int) ≤ (1 : Int) ∧ (1 : Int) < (↑(3 : Nat) : Int), (0 : Int) ≤ (0 : Int) ∧ (0 : Int) < (↑(3 : Nat) : Int), decide (joinV a b = joinV b a) = false] (by kernel_rfl) (by kernel_rfl) ⟨?_, ?_, ?_, ?_, h1, ?_, ?_, ?_, h2, ?_, h3, ?_, h4, ?_, ?_, h5, trivial⟩ (by kernel_rfl) ?_
            all_goals (
              first
              | exact hd
              | exact ⟨by decide, by decide⟩
              | (exfalso; rw [within_l] at h2; cases h2; done)
              | (exfalso; rw [within_l] at h3; cases h3; done)
              | (exfalso; rw [within_r] at h3; cases h3; done)
              | (exfalso; rw [within_r] at h4; cases h4; done)
              | (exfalso; exact (of_decide_eq_false h4) (join_comm a b))
              | (exfalso; exact (of_decide_eq_false h5) (join_comm a b))
              | (exfalso; rw [join_least a b c h1] at h2; simp at h2; done)
              | (rw [join_has a b d hd, h5]; simp; done)
              | (rw [join_has a b d hd, h6]; simp; done))
          | true =>
            cases h6 : (hasB a d) with
            | false =>
              refine ctrQ_true hmx TQ [Dec.s (2006 : Nat) (16 : Nat) true, Dec.c (27 : Nat) false, Dec.s (4008 : Nat) (35 : Nat) true, Dec.s (4014 : Nat) (41 : Nat) true, Dec.s (4023 : Nat) (50 : Nat) true, Dec.s (4031 : Nat) (58 : Nat) false] (AV.tv (TV.one (CV.rig (Value.bool (hasB (joinV a b) d == hasB b d))))) [(0 : Int) ≤ (0 : Int) ∧ (0 : Int) < (↑(3 : Nat) : Int), (0 : Int) ≤ (1 : Int) ∧ (1 : Int) < (↑(3 : Nat) : Int), (0 : Int) ≤ (0 : Int) ∧ (0 : Int) < (↑(3 : Nat) : Int), (0 : Int) ≤ (2 : Int) ∧ (2 : Int) < (↑(3 : Nat) : Int), withinB a c = true, (0 : Int) ≤ (1 : Int) ∧ (1 : Int) < (↑(3 : Nat) : Int), (0 : Int) ≤ (2 : Int) ∧ (2 : Int) < (↑(3 : Nat) : Int), (0 : Int) ≤ (2 : Int) ∧ (2 : Int) < (↑(3 : Nat) : Int), (!withinB b c == withinB (joinV a b) c) = false, (0 : Int) ≤ (0 : Int) ∧ (0 : Int) < (↑(3 : Nat) : Int), withinB a (joinV a b) = true, (0 : Int) ≤ (1 : Int) ∧ (1 : Int) < (↑(3 : Nat) : Int), withinB b (joinV a b) = true, (0 : Int) ≤ (1 : Int) ∧ (1 : Int) < (↑(3 : Nat) : Int), (0 : Int) ≤ (0 : Int) ∧ (0 : Int) < (↑(3 : Nat) : Int), decide (joinV a b = joinV b a) = true, d.ok, (0 : Int) ≤ (0 : Int) ∧ (0 : Int) < (↑(3 : Nat) : Int), d.ok, hasB a d = false, (0 : Int) ≤ (1 : Int) ∧ (1 : Int) < (↑(3 : Nat) : Int), d.ok] (by kernel_rfl) (by kernel_rfl) ⟨?_, ?_, ?_, ?_, h1, ?_, ?_, ?_, h2, ?_, h3, ?_, h4, ?_, ?_, h5, ?_, ?_, ?_, h6, ?_, ?_, trivial⟩ (by kernel_rfl) ?_
              all_goals (
                first
                | exact hd
                | exact ⟨by decide, by decide⟩
                | (exfalso; rw [within_l] at h2; cases h2; done)
                | (exfalso; rw [within_l] at h3; cases h3; done)
                | (exfalso; rw [within_r] at h3; cases h3; done)
                | (exfalso; rw [within_r] at h4; cases h4; done)
                | (exfalso; exact (of_decide_eq_false h4) (join_comm a b))
                | (exfalso; exact (of_decide_eq_false h5) (join_comm a b))
                | (exfalso; rw [join_least a b c h1] at h2; simp at h2; done)
                | (rw [join_has a b d hd, h5]; simp; done)
                | (rw [join_has a b d hd, h6]; simp; done))
            | true =>
              refine ctrQ_true hmx TQ [Dec.s (2006 : Nat) (16 : Nat) true, Dec.c (27 : Nat) false, Dec.s (4008 : Nat) (35 : Nat) true, Dec.s (4014 : Nat) (41 : Nat) true, Dec.s (4023 : Nat) (50 : Nat) true, Dec.s (4031 : Nat) (58 : Nat) true] (AV.tv (TV.one (CV.rig (Value.bool (hasB (joinV a b) d == true))))) [(0 : Int) ≤ (0 : Int) ∧ (0 : Int) < (↑(3 : Nat) : Int), (0 : Int) ≤ (1 : Int) ∧ (1 : Int) < (↑(3 : Nat) : Int), (0 : Int) ≤ (0 : Int) ∧ (0 : Int) < (↑(3 : Nat) : Int), (0 : Int) ≤ (2 : Int) ∧ (2 : Int) < (↑(3 : Nat) : Int), withinB a c = true, (0 : Int) ≤ (1 : Int) ∧ (1 : Int) < (↑(3 : Nat) : Int), (0 : Int) ≤ (2 : Int) ∧ (2 : Int) < (↑(3 : Nat) : Int), (0 : Int) ≤ (2 : Int) ∧ (2 : Int) < (↑(3 : Nat) : Int), (!withinB b c == withinB (joinV a b) c) = false, (0 : Int) ≤ (0 : Int) ∧ (0 : Int) < (↑(3 : Nat) : Int), withinB a (joinV a b) = true, (0 : Int) ≤ (1 : Int) ∧ (1 : Int) < (↑(3 : Nat) : Int), withinB b (joinV a b) = true, (0 : Int) ≤ (1 : Int) ∧ (1 : Int) < (↑(3 : Nat) : Int), (0 : Int) ≤ (0 : Int) ∧ (0 : Int) < (↑(3 : Nat) : Int), decide (joinV a b = joinV b a) = true, d.ok, (0 : Int) ≤ (0 : Int) ∧ (0 : Int) < (↑(3 : Nat) : Int), d.ok, hasB a d = true] (by kernel_rfl) (by kernel_rfl) ⟨?_, ?_, ?_, ?_, h1, ?_, ?_, ?_, h2, ?_, h3, ?_, h4, ?_, ?_, h5, ?_, ?_, ?_, h6, trivial⟩ (by kernel_rfl) ?_
              all_goals (
                first
                | exact hd
                | exact ⟨by decide, by decide⟩
                | (exfalso; rw [within_l] at h2; cases h2; done)
                | (exfalso; rw [within_l] at h3; cases h3; done)
                | (exfalso; rw [within_r] at h3; cases h3; done)
                | (exfalso; rw [within_r] at h4; cases h4; done)
                | (exfalso; exact (of_decide_eq_false h4) (join_comm a b))
                | (exfalso; exact (of_decide_eq_false h5) (join_comm a b))
                | (exfalso; rw [join_least a b c h1] at h2; simp at h2; done)
                | (rw [join_has a b d hd, h5]; simp; done)
                | (rw [join_has a b d hd, h6]; simp; done))
    | true =>
      refine ctrQ_true hmx TQ [Dec.s (2006 : Nat) (16 : Nat) true, Dec.c (27 : Nat) true] (AV.tv (TV.one (CV.rig (Value.bool false)))) [(0 : Int) ≤ (0 : Int) ∧ (0 : Int) < (↑(3 : Nat) : Int), (0 : Int) ≤ (1 : Int) ∧ (1 : Int) < (↑(3 : Nat) : Int), (0 : Int) ≤ (0 : Int) ∧ (0 : Int) < (↑(3 : Nat) : Int), (0 : Int) ≤ (2 : Int) ∧ (2 : Int) < (↑(3 : Nat) : Int), withinB a c = true, (0 : Int) ≤ (1 : Int) ∧ (1 : Int) < (↑(3 : Nat) : Int), (0 : Int) ≤ (2 : Int) ∧ (2 : Int) < (↑(3 : Nat) : Int), (0 : Int) ≤ (2 : Int) ∧ (2 : Int) < (↑(3 : Nat) : Int), (!withinB b c == withinB (joinV a b) c) = true] (by kernel_rfl) (by kernel_rfl) ⟨?_, ?_, ?_, ?_, h1, ?_, ?_, ?_, h2, trivial⟩ (by kernel_rfl) ?_
      all_goals (
        first
        | exact hd
        | exact ⟨by decide, by decide⟩
        | (exfalso; rw [within_l] at h2; cases h2; done)
        | (exfalso; rw [within_l] at h3; cases h3; done)
        | (exfalso; rw [within_r] at h3; cases h3; done)
        | (exfalso; rw [within_r] at h4; cases h4; done)
        | (exfalso; exact (of_decide_eq_false h4) (join_comm a b))
        | (exfalso; exact (of_decide_eq_false h5) (join_comm a b))
        | (exfalso; rw [join_least a b c h1] at h2; simp at h2; done)
        | (rw [join_has a b d hd, h5]; simp; done)
        | (rw [join_has a b d hd, h6]; simp; done))


end Go.Proofs.Ytobonipmnidadaa
