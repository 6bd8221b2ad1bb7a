/- Laws of the book, by its model alone. The laws without loops: walked. -/
import Derived.Test.YtodcebpdmjdplaaJ17
namespace Go.Proofs.Ytodcebpdmjdplaa
open Go.RowKit

def ent (L : Bk) (e : Ev) : Ev × Bool := (e, roleM L e.d.a e.p == 3)
def acc (L : Bk) (e : Ev) : Bool := rightB e && !(decide (e.k ≠ 3) && decide (e.k ≠ 4)) && (findL L e.d).isNone && decide (L.length < 512)
theorem addM_snd (L : Bk) (e : Ev) : (addM L e).2 = if acc L e then L ++ [ent L e] else L := by
  unfold addM acc ent
  cases rightB e <;> cases (decide (e.k ≠ 3) && decide (e.k ≠ 4)) <;> cases findL L e.d <;> simp
  by_cases h : 512 ≤ L.length
  · rw [if_pos h, if_neg (by omega)]
  · rw [if_neg h, if_pos (by omega)]
theorem addM_fst (L : Bk) (e : Ev) (h : (addM L e).1 = 0) : acc L e = true := by
  unfold addM at h
  unfold acc
  generalize (decide (e.k ≠ 3) && decide (e.k ≠ 4)) = kb at *
  by_cases hl : 512 ≤ L.length
  · cases hr : rightB e <;> cases kb <;> cases hf : findL L e.d <;> simp [hr, hf, hl] at h
  · cases hr : rightB e <;> cases kb <;> cases hf : findL L e.d <;> simp [hr, hf, hl] at h ⊢
    omega
theorem acc_find {L : Bk} {e : Ev} (h : acc L e = true) : findL L e.d = none := by
  unfold acc at h
  simp only [Bool.and_eq_true] at h
  exact Option.isNone_iff_eq_none.1 h.1.2
theorem acc_right {L : Bk} {e : Ev} (h : acc L e = true) : rightB e = true := by
  unfold acc at h
  simp only [Bool.and_eq_true] at h
  exact h.1.1.1

theorem find_snoc (L : Bk) (p : Ev × Bool) (d : Dot) : findL (L ++ [p]) d = (findL L d).or (if d = p.1.d then some p else none) := by
  unfold findL
  rw [List.find?_append]
  congr 1
  simp only [List.find?_cons, List.find?_nil]
  by_cases h : d = p.1.d <;> simp [h]
theorem got_snoc {L : Bk} {p : Ev × Bool} (h : findL L p.1.d = none) : gotL (L ++ [p]) p.1.d = p := by
  unfold gotL
  rw [find_snoc, h]; simp

theorem got_ent {L : Bk} {e : Ev} (ha : acc L e = true) : gotL (L ++ [ent L e]) e.d = ent L e := got_snoc (p := ent L e) (acc_find ha)

theorem about_snoc (L : Bk) (p : Ev × Bool) (who : Int) (v : Vec) : aboutL (L ++ [p]) who v = aboutL L who v ++ if relB who v p then [p.1] else [] := by
  unfold aboutL
  rw [List.filter_append, List.map_append]
  congr 1
  by_cases h : relB who v p <;> simp [h]
theorem role_out {L : Bk} {p : Ev × Bool} {who : Int} {v : Vec} (h : relB who v p = false) : roleM (L ++ [p]) who v = roleM L who v := by
  unfold roleM
  rw [about_snoc, h]; simp

theorem last_perm {l l' : List Ev} (h : l.Perm l') (e : Ev) : lastB e l = lastB e l' := by
  unfold lastB
  congr 1
  rw [Bool.eq_iff_iff, List.any_eq_true, List.any_eq_true]
  exact ⟨fun ⟨x, h1, h2⟩ => ⟨x, h.mem_iff.1 h1, h2⟩, fun ⟨x, h1, h2⟩ => ⟨x, h.mem_iff.2 h1, h2⟩⟩
theorem least_perm {l l' : List Ev} (h : l.Perm l') : leastOf l l = leastOf l' l' := by
  rw [leastOf_perm h]
  unfold leastOf
  rw [show (fun e => lastB e l) = fun e => lastB e l' from funext fun e => last_perm h e]
theorem some_perm {l l' : List Ev} (h : l.Perm l') (who : Int) : someOf who l l = someOf who l' l' := by
  unfold someOf
  congr 1
  rw [show (fun e => lastB e l) = fun e => lastB e l' from funext fun e => last_perm h e, Bool.eq_iff_iff, List.any_eq_true, List.any_eq_true]
  exact ⟨fun ⟨x, h1, h2⟩ => ⟨x, h.mem_iff.1 h1, h2⟩, fun ⟨x, h1, h2⟩ => ⟨x, h.mem_iff.2 h1, h2⟩⟩
theorem role_perm {L L' : Bk} {who : Int} {v : Vec} (h : (aboutL L who v).Perm (aboutL L' who v)) : roleM L who v = roleM L' who v := by
  unfold roleM
  rw [least_perm h, some_perm h]

/-- The roles of all. -/
def memV (L : Bk) (v : Vec) : Vec := ⟨roleM L 0 v, roleM L 1 v, roleM L 2 v, roleM L 3 v, roleM L 4 v, roleM L 5 v, roleM L 6 v, roleM L 7 v⟩
theorem memV_eq {L L' : Bk} {v : Vec} (h : ∀ who, roleM L who v = roleM L' who v) : memV L v = memV L' v := by
  unfold memV
  simp only [h]

/-! ### Later, no admin -/
theorem later {L : Bk} {e : Ev} {v : Vec} (h : hasB v e.d = false) : memV (addM L e).2 v = memV L v := by
  rw [addM_snd]
  split
  · exact memV_eq fun who => role_out (by simp [relB, ent, h])
  · rfl
theorem noadmin_got {L : Bk} {e : Ev} (h : (addM L e).1 = 0) (hr : (roleM L e.d.a e.p == 3) = false) : (gotL (addM L e).2 e.d).2 = false := by
  have ha := addM_fst L e h
  rw [addM_snd, if_pos ha, got_ent ha]
  exact hr
theorem noadmin_memb {L : Bk} {e : Ev} {v : Vec} (h : (addM L e).1 = 0) (hr : (roleM L e.d.a e.p == 3) = false) : memV (addM L e).2 v = memV L v := by
  have ha := addM_fst L e h
  rw [addM_snd, if_pos ha]
  exact memV_eq fun who => role_out (by simp [relB, ent, hr])

/-! ### Swaps -/
theorem acc_snoc {L : Bk} {x y : Ev} {c : Bool} (hd : x.d ≠ y.d) (hl : L.length ≤ 500) : acc (L ++ [(x, c)]) y = acc L y := by
  unfold acc
  rw [find_snoc, if_neg (fun e => hd e.symm)]
  have : decide ((L ++ [(x, c)]).length < 512) = decide (L.length < 512) := by simp; omega
  rw [this]; simp
theorem ent_snoc {L : Bk} {x y : Ev} {c : Bool} (hb : beforeB x y = false) : ent (L ++ [(x, c)]) y = ent L y := by
  unfold ent
  rw [role_out (by
    have : hasB y.p x.d = false := hb
    simp [relB, this])]
theorem two_snd {L : Bk} {x y : Ev} (hd : x.d ≠ y.d) (hl : L.length ≤ 500) (hb : beforeB x y = false) :
    (addM (addM L x).2 y).2 = L ++ (if acc L x then [ent L x] else []) ++ (if acc L y then [ent L y] else []) := by
  rw [addM_snd L x]
  cases hx : acc L x with
  | true =>
    simp only [if_true]
    rw [addM_snd, show acc (L ++ [ent L x]) y = acc L y from acc_snoc hd hl, show ent (L ++ [ent L x]) y = ent L y from ent_snoc hb]
    split <;> simp
  | false =>
    simp only [Bool.false_eq_true, if_false, List.append_nil]
    rw [addM_snd]
    split <;> simp
theorem about_two (L : Bk) (a b : List (Ev × Bool)) (who : Int) (v : Vec) : (aboutL (L ++ a ++ b) who v).Perm (aboutL (L ++ b ++ a) who v) := by
  unfold aboutL
  refine (List.Perm.filter _ ?_).map _
  rw [List.append_assoc, List.append_assoc]
  exact List.Perm.append_left _ List.perm_append_comm
theorem swap_memb {L : Bk} {x y : Ev} {v : Vec} (hd : x.d ≠ y.d) (hl : L.length ≤ 500) (hb : beforeB x y = false) (hb' : beforeB y x = false) :
    memV (addM (addM L x).2 y).2 v = memV (addM (addM L y).2 x).2 v := by
  refine memV_eq fun who => role_perm ?_
  rw [two_snd hd hl hb, two_snd (fun e => hd e.symm) hl hb']
  exact about_two _ _ _ _ _
theorem swap_got {L : Bk} {x y : Ev} (hd : x.d ≠ y.d) (hl : L.length ≤ 500) (hb : beforeB x y = false) (hb' : beforeB y x = false) :
    gotL (addM (addM L x).2 y).2 x.d = gotL (addM (addM L y).2 x).2 x.d := by
  rw [two_snd hd hl hb, two_snd (fun e => hd e.symm) hl hb']
  cases hx : acc L x <;> cases hy : acc L y <;> simp only [Bool.false_eq_true, if_true, if_false, List.append_nil]
  unfold gotL
  rw [find_snoc, find_snoc, find_snoc, find_snoc, acc_find hx]
  rw [if_pos (show x.d = (ent L x).1.d from rfl), if_neg (show ¬ x.d = (ent L y).1.d from hd)]
  rfl

/-! ### Taken -/
theorem adds_mem {p : Ev × Bool} : ∀ {l : List Ev} {L : Bk}, p ∈ addsL L l → p ∈ L ∨ p.1 ∈ l
  | [], _, h => .inl h
  | e :: l, L, h => by
    rcases adds_mem (l := l) (L := (addM L e).2) h with h | h
    · rw [addM_snd] at h
      split at h
      · rcases List.mem_append.1 h with h | h
        · exact .inl h
        · simp at h; subst h; exact .inr (by simp [ent])
      · exact .inl h
    · exact .inr (List.mem_cons_of_mem _ h)
theorem pl_mem {p : Ev × Bool} {l : List Ev} (h : p ∈ plL l) : p.1 ∈ l.take 40 := (adds_mem h).elim (fun h => by cases h) fun h => h

theorem taken {L : Bk} {e : Ev} {v : Vec} (he : e.ok) (hok : ∀ p ∈ L, p.1.ok) (h : (addM L e).1 = 0) (hc : (gotL (addM L e).2 e.d).2 = true) (hk : e.k = 4) (hb : ∀ p ∈ L, beforeB e p.1 = false) (hs : beforeB e e = false) (hv : hasB v e.d = true) : roleM (addM L e).2 e.who v = 0 := by
  have ha := addM_fst L e h
  have hc' : (ent L e).2 = true := by
    rw [addM_snd, if_pos ha, got_ent ha] at hc
    exact hc
  rw [addM_snd, if_pos ha]
  have hrel : relB e.who v (ent L e) = true := by
    have h2 : (roleM L e.d.a e.p == 3) = true := hc'
    simp only [relB, ent, h2, hv]; simp
  have hmem : e ∈ aboutL (L ++ [ent L e]) e.who v := by
    rw [about_snoc, hrel]; simp [ent]
  have hlast : lastB e (aboutL (L ++ [ent L e]) e.who v) = true := by
    unfold lastB
    simp only [Bool.not_eq_true', List.any_eq_false]
    intro x hx
    rw [about_snoc, hrel] at hx
    rcases List.mem_append.1 hx with hx | hx
    · obtain ⟨p, hp, rfl⟩ := about_mem hx
      simp [hb p hp]
    · simp [ent] at hx; subst hx; simp [hs]
  have hz := least_revoke hmem hlast (rt_right (acc_right ha) hk) fun y hy => by
    obtain ⟨p, hp, rfl⟩ := about_mem hy
    rcases List.mem_append.1 hp with hp | hp
    · exact (hok p hp).role0
    · simp [ent] at hp; subst hp; exact he.role0
  unfold roleM
  rw [hz]; simp

/-- A role is not above the highest. -/
theorem role_le (L : Bk) (who : Int) (v : Vec) : roleM L who v ≤ 3 := by
  unfold roleM
  split
  · decide
  · split
    · exact foldl_min_le _ _
    · decide

end Go.Proofs.Ytodcebpdmjdplaa

namespace Go.Proofs.Ytodcebpdmjdplaa
open Go.RowKit

theorem ctrQ_true {P : Program} (hmx : P.follows .mixedOrders = true) (T : CT P) {f : FuncId} {args : List AV} {Hs : AH} (D : List Dec) (v : AV) (ps : List Prop) (hv : (runF P T f args Hs D).v = some v) (hq : (runF P T f args Hs D).ps = ps) (hps : Holds ps)
    (hvs : v.sc Hs.length = true) (h : v = .b true) : CtrQ P f args Hs (.b true) := by
  have := ctrQ_run hmx T D v ps hv hq hps hvs
  rwa [h] at this

theorem plays_ctr {l : List Ev} (hl : ∀ e ∈ l, e.ok) (v : Vec) : CtrQ Try.prog 8 [.c (.sl 0), v.av] [(.abs 0 (.aevs l), 0)] (.b true) := by
  refine ctrQ_true hmx TH [] (AV.tv (TV.one (CV.rig (Value.bool (bif true then true else false))))) [∀ (e : Ev), e ∈ l → e.ok, plL l = plL l ∧ BkOk (plL l) (1000 : Nat)] (by kernel_rfl) (by kernel_rfl) ⟨?_, ?_, trivial⟩ (by kernel_rfl) ?_
  all_goals (
    first
    | exact hl
    | exact ⟨rfl, (plL_ok hl).mono (by decide)⟩
    | rfl)


theorem noadmin_ctr {l : List Ev} (hl : ∀ e ∈ l, e.ok) {e : Ev} (he : e.ok) (v : Vec) : CtrQ Try.prog 7 [.c (.sl 0), e.av, v.av] [(.abs 0 (.aevs l), 0)] (.b true) := by
  have hL := plL_ok hl
  have hL' := hL.add he
  cases h1 : ((addM (plL l) e).fst != (0 : Int)) with
  | false =>
    cases h2 : (roleM (plL l) (e.d.a, e.p).fst (e.d.a, e.p).snd == (3 : Int)) with
    | false =>
      cases h3 : (!(gotL (addM (plL l) e).snd e.d).snd) with
      | false =>
        refine ctrQ_true hmx TH [Dec.s (6005 : Nat) (38 : Nat) false, Dec.c (41 : Nat) false, Dec.s (8006 : Nat) (47 : Nat) false] (AV.tv (TV.one (CV.rig (Value.bool false)))) [∀ (e : Ev), e ∈ l → e.ok, ∀ (p : Ev × Bool), p ∈ plL l → p.fst.ok, ∀ (p : Ev × Bool), p ∈ plL l → p.fst.ok, (∀ (p : Ev × Bool), p ∈ plL l → p.fst.ok) ∧ e.ok, ((addM (plL l) e).fst != (0 : Int)) = false, (roleM (plL l) (e.d.a, e.p).fst (e.d.a, e.p).snd == (3 : Int)) = false, True, (!(gotL (addM (plL l) e).snd e.d).snd) = false] (by kernel_rfl) (by kernel_rfl) ⟨?_, ?_, ?_, ?_, h1, h2, ?_, h3, trivial⟩ (by kernel_rfl) ?_
        all_goals (
          first
          | exact hl
          | exact hL.ok
          | exact hL'.ok
          | exact ⟨hL.ok, he⟩
          | trivial
          | rfl
          | (exact congrArg AV.b (decide_eq_true (noadmin_memb (v := v) (by simpa using h1) h2)))
          | (rw [noadmin_got (by simpa using h1) h2] at h3; cases h3))
      | true =>
        refine ctrQ_true hmx TH [Dec.s (6005 : Nat) (38 : Nat) false, Dec.c (41 : Nat) false, Dec.s (8006 : Nat) (47 : Nat) true] (AV.tv (TV.one (CV.rig (Value.bool (decide (Vec.mk (roleM (addM (plL l) e).snd (0 : Int) v) (roleM (addM (plL l) e).snd (1 : Int) v) (roleM (addM (plL l) e).snd (2 : Int) v) (roleM (addM (plL l) e).snd (3 : Int) v) (roleM (addM (plL l) e).snd (4 : Int) v) (roleM (addM (plL l) e).snd (5 : Int) v) (roleM (addM (plL l) e).snd (6 : Int) v) (roleM (addM (plL l) e).snd (7 : Int) v) = Vec.mk (roleM (plL l) (0 : Int) v) (roleM (plL l) (1 : Int) v) (roleM (plL l) (2 : Int) v) (roleM (plL l) (3 : Int) v) (roleM (plL l) (4 : Int) v) (roleM (plL l) (5 : Int) v) (roleM (plL l) (6 : Int) v) (roleM (plL l) (7 : Int) v))))))) [∀ (e : Ev), e ∈ l → e.ok, ∀ (p : Ev × Bool), p ∈ plL l → p.fst.ok, ∀ (p : Ev × Bool), p ∈ plL l → p.fst.ok, (∀ (p : Ev × Bool), p ∈ plL l → p.fst.ok) ∧ e.ok, ((addM (plL l) e).fst != (0 : Int)) = false, (roleM (plL l) (e.d.a, e.p).fst (e.d.a, e.p).snd == (3 : Int)) = false, True, (!(gotL (addM (plL l) e).snd e.d).snd) = true, ∀ (p : Ev × Bool), p ∈ (addM (plL l) e).snd → p.fst.ok] (by kernel_rfl) (by kernel_rfl) ⟨?_, ?_, ?_, ?_, h1, h2, ?_, h3, ?_, trivial⟩ (by kernel_rfl) ?_
        all_goals (
          first
          | exact hl
          | exact hL.ok
          | exact hL'.ok
          | exact ⟨hL.ok, he⟩
          | trivial
          | rfl
          | (exact congrArg AV.b (decide_eq_true (noadmin_memb (v := v) (by simpa using h1) h2)))
          | (rw [noadmin_got (by simpa using h1) h2] at h3; cases h3))
    | true =>
      refine ctrQ_true hmx TH [Dec.s (6005 : Nat) (38 : Nat) false, Dec.c (41 : Nat) true] (AV.tv (TV.one (CV.rig (Value.bool true)))) [∀ (e : Ev), e ∈ l → e.ok, ∀ (p : Ev × Bool), p ∈ plL l → p.fst.ok, ∀ (p : Ev × Bool), p ∈ plL l → p.fst.ok, (∀ (p : Ev × Bool), p ∈ plL l → p.fst.ok) ∧ e.ok, ((addM (plL l) e).fst != (0 : Int)) = false, (roleM (plL l) (e.d.a, e.p).fst (e.d.a, e.p).snd == (3 : Int)) = true] (by kernel_rfl) (by kernel_rfl) ⟨?_, ?_, ?_, ?_, h1, h2, trivial⟩ (by kernel_rfl) ?_
      all_goals (
        first
        | exact hl
        | exact hL.ok
        | exact hL'.ok
        | exact ⟨hL.ok, he⟩
        | trivial
        | rfl
        | (exact congrArg AV.b (decide_eq_true (noadmin_memb (v := v) (by simpa using h1) h2)))
        | (rw [noadmin_got (by simpa using h1) h2] at h3; cases h3))
  | true =>
    refine ctrQ_true hmx TH [Dec.s (6005 : Nat) (38 : Nat) true] (AV.tv (TV.one (CV.rig (Value.bool true)))) [∀ (e : Ev), e ∈ l → e.ok, ∀ (p : Ev × Bool), p ∈ plL l → p.fst.ok, ∀ (p : Ev × Bool), p ∈ plL l → p.fst.ok, (∀ (p : Ev × Bool), p ∈ plL l → p.fst.ok) ∧ e.ok, ((addM (plL l) e).fst != (0 : Int)) = true] (by kernel_rfl) (by kernel_rfl) ⟨?_, ?_, ?_, ?_, h1, trivial⟩ (by kernel_rfl) ?_
    all_goals (
      first
      | exact hl
      | exact hL.ok
      | exact hL'.ok
      | exact ⟨hL.ok, he⟩
      | trivial
      | rfl
      | (exact congrArg AV.b (decide_eq_true (noadmin_memb (v := v) (by simpa using h1) h2)))
      | (rw [noadmin_got (by simpa using h1) h2] at h3; cases h3))


theorem later_ctr {l : List Ev} (hl : ∀ e ∈ l, e.ok) {e : Ev} (he : e.ok) (v : Vec) : CtrQ Try.prog 5 [.c (.sl 0), v.av, e.av] [(.abs 0 (.aevs l), 0)] (.b true) := by
  have hL := plL_ok hl
  have hL' := hL.add he
  cases h1 : (hasB v e.d) with
  | false =>
    refine ctrQ_true hmx TH [Dec.s (6005 : Nat) (33 : Nat) false] (AV.tv (TV.one (CV.rig (Value.bool (decide (Vec.mk (roleM (addM (plL l) e).snd (0 : Int) v) (roleM (addM (plL l) e).snd (1 : Int) v) (roleM (addM (plL l) e).snd (2 : Int) v) (roleM (addM (plL l) e).snd (3 : Int) v) (roleM (addM (plL l) e).snd (4 : Int) v) (roleM (addM (plL l) e).snd (5 : Int) v) (roleM (addM (plL l) e).snd (6 : Int) v) (roleM (addM (plL l) e).snd (7 : Int) v) = Vec.mk (roleM (plL l) (0 : Int) v) (roleM (plL l) (1 : Int) v) (roleM (plL l) (2 : Int) v) (roleM (plL l) (3 : Int) v) (roleM (plL l) (4 : Int) v) (roleM (plL l) (5 : Int) v) (roleM (plL l) (6 : Int) v) (roleM (plL l) (7 : Int) v))))))) [∀ (e : Ev), e ∈ l → e.ok, ∀ (p : Ev × Bool), p ∈ plL l → p.fst.ok, (∀ (p : Ev × Bool), p ∈ plL l → p.fst.ok) ∧ e.ok, e.d.ok, hasB v e.d = false, ∀ (p : Ev × Bool), p ∈ (addM (plL l) e).snd → p.fst.ok] (by kernel_rfl) (by kernel_rfl) ⟨?_, ?_, ?_, ?_, h1, ?_, trivial⟩ (by kernel_rfl) ?_
    all_goals (
      first
      | exact hl
      | exact hL.ok
      | exact hL'.ok
      | exact ⟨hL.ok, he⟩
      | exact he.d
      | rfl
      | (exact congrArg AV.b (decide_eq_true (later (v := v) h1))))
  | true =>
    refine ctrQ_true hmx TH [Dec.s (6005 : Nat) (33 : Nat) true] (AV.tv (TV.one (CV.rig (Value.bool true)))) [∀ (e : Ev), e ∈ l → e.ok, ∀ (p : Ev × Bool), p ∈ plL l → p.fst.ok, (∀ (p : Ev × Bool), p ∈ plL l → p.fst.ok) ∧ e.ok, e.d.ok, hasB v e.d = true] (by kernel_rfl) (by kernel_rfl) ⟨?_, ?_, ?_, ?_, h1, trivial⟩ (by kernel_rfl) ?_
    all_goals (
      first
      | exact hl
      | exact hL.ok
      | exact hL'.ok
      | exact ⟨hL.ok, he⟩
      | exact he.d
      | rfl
      | (exact congrArg AV.b (decide_eq_true (later (v := v) h1))))


end Go.Proofs.Ytodcebpdmjdplaa
