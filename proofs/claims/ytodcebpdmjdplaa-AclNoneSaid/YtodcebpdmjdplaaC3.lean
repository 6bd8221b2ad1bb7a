/- What is right: the program's and the document's. -/
import Derived.Test.YtodcebpdmjdplaaC2
namespace Go.Proofs.Ytodcebpdmjdplaa
open Go.RowKit

def kindRightB (e : Ev) : Bool :=
  if e.k = 1 then (noneB e.par && e.right || hasB e.p e.par) && decide (1 ≤ e.ch) && decide (e.ch ≤ 127) && decide (e.who = 0) && decide (e.role = 0)
  else if e.k = 2 then hasB e.p e.par && !e.right && decide (e.ch = 0) && decide (e.who = 0) && decide (e.role = 0)
  else if e.k = 3 then decide (e.who < 8) && decide (1 ≤ e.role) && decide (e.role ≤ 3) && noneB e.par && !e.right && decide (e.ch = 0)
  else if e.k = 4 then decide (e.who < 8) && decide (e.role = 0) && noneB e.par && !e.right && decide (e.ch = 0)
  else false

def rightB (e : Ev) : Bool :=
  decide (e.d.a < 8) && decide (e.d.s ≠ 0) && decide (e.d.s ≤ 1048576) && decide (e.p.get e.d.a.toNat = e.d.s - 1) && decide (e.p.maxTo 7 ≤ 1048576) && kindRightB e

theorem wrap_u32 {x : Int} (h0 : 0 ≤ x) (h1 : x < 4294967296) : IntKind.u32.wrap x = x := by
  simp [IntKind.wrap, IntKind.bits, IntKind.signed]; omega
theorem wrap_u8_less {x : Int} (h0 : 0 ≤ x) (h1 : x < 256) : IntKind.u8.wrap (x - 1) = if x = 0 then 255 else x - 1 := by
  simp [IntKind.wrap, IntKind.bits, IntKind.signed]; split <;> omega

theorem ev_iff (e : Ev) (d p k par r c w o) : (e = ⟨d, p, k, par, r, c, w, o⟩) ↔ e.d = d ∧ e.p = p ∧ e.k = k ∧ e.par = par ∧ e.right = r ∧ e.ch = c ∧ e.who = w ∧ e.role = o := by
  cases e; simp
theorem dot_iff (d : Dot) (a s) : (d = ⟨a, s⟩) ↔ d.a = a ∧ d.s = s := by
  cases d; simp

theorem ev_cv (e : Ev) (n : Nat) (h : n < 8) : e.cvs[2 + n]? = some (.rig (.int .u32 (e.p.get n))) := by
  match n, h with
  | 0, _ => rfl
  | 1, _ => rfl
  | 2, _ => rfl
  | 3, _ => rfl
  | 4, _ => rfl
  | 5, _ => rfl
  | 6, _ => rfl
  | 7, _ => rfl

def noneQ (args : List AV) (_ : AH) : Option (AV × List Nat × Option Prop) :=
  match args with
  | [.tv (.agg m)] => match dotOf m with
    | some d => some (.b (noneB d), [], none)
    | _ => none
  | _ => none

noncomputable def T2 : CT Try.prog :=
  T1.addQ 35 noneQ (by kernel_rfl) fun _ _ _ _ _ h _ r w _ => by
    unfold noneQ at h
    split at h
    · split at h
      · rename_i d hd
        simp at h
        obtain ⟨rfl, -⟩ := h
        rw [dotOf_eq hd]
        exact none_run d r w
      · simp at h
    · simp at h

theorem right_run (e : Ev) (he : e.ok) (r : Nat → Nat) (w : World) :
    Calls Try.prog 28 ([e.av].map (AV.conc r)).toArray w fun x w' => x = .returned (.bool (rightB e)) ∧ Below w.heap.size w w' := by
  obtain ⟨⟨a0, a1, s0, s1⟩, -, k0, k1, hpar, ch0, ch1, who0, who1, role0, role1⟩ := he
  have hw := wrap_i64_u8 a0 a1
  have hs : e.d.s ≠ 0 → IntKind.u32.wrap (e.d.s - 1) = e.d.s - 1 := fun h => wrap_u32 (by omega) (by omega)
  have hc := wrap_u8_less ch0 ch1
  have hr := wrap_u8_less role0 role1
  cases h1 : (decide (IntKind.i64.wrap e.d.a ≥ 8)) with
  | false =>
    cases h2 : (e.d.s == 0) with
    | false =>
      cases h3 : (decide (e.d.s > 1048576)) with
      | false =>
        cases h4 : (e.p.get e.d.a.toNat != IntKind.u32.wrap (e.d.s - 1)) with
        | false =>
          cases h5 : (decide (e.p.maxTo 7 > 1048576)) with
          | false =>
            cases h6 : (e.k == 1) with
            | false =>
              cases h7 : (e.k == 2) with
              | false =>
                cases h8 : (e.k == 3) with
                | false =>
                  cases h9 : (e.k == 4) with
                  | false =>
                    refine fnP_leaf (T := T1) hmx (D := [Dec.s 2005 11 false, Dec.s 2010 16 false, Dec.s 2015 21 false, Dec.l 2019 (TV.one (CV.rig (Value.int IntKind.u32 (e.p.get e.d.a.toNat)))), Dec.s 2026 32 false, Dec.c 37 false, Dec.c 46 false, Dec.c 83 false, Dec.c 98 false, Dec.c 120 false]) (v := Value.bool false) (ps := [decide (IntKind.i64.wrap e.d.a ≥ 8) = false, (e.d.s == 0) = false, decide (e.d.s > 1048576) = false, 0 ≤ e.d.a ∧ e.d.a < ↑8, [CV.rig (Value.int IntKind.u8 e.d.a), CV.rig (Value.int IntKind.u32 e.d.s), CV.rig (Value.int IntKind.u32 e.p.x0), CV.rig (Value.int IntKind.u32 e.p.x1), CV.rig (Value.int IntKind.u32 e.p.x2), CV.rig (Value.int IntKind.u32 e.p.x3), CV.rig (Value.int IntKind.u32 e.p.x4), CV.rig (Value.int IntKind.u32 e.p.x5), CV.rig (Value.int IntKind.u32 e.p.x6), CV.rig (Value.int IntKind.u32 e.p.x7), CV.rig (Value.int IntKind.u8 e.k), CV.rig (Value.int IntKind.u8 e.par.a), CV.rig (Value.int IntKind.u32 e.par.s), CV.rig (Value.bool e.right), CV.rig (Value.int IntKind.u8 e.ch), CV.rig (Value.int IntKind.u8 e.who), CV.rig (Value.int IntKind.u8 e.role)][2 + e.d.a.toNat * 1]? = some (CV.rig (Value.int IntKind.u32 (e.p.get e.d.a.toNat))), (e.p.get e.d.a.toNat != IntKind.u32.wrap (e.d.s - 1)) = false, decide (e.p.maxTo 7 > 1048576) = false, (e.k == 1) = false, (e.k == 2) = false, (e.k == 3) = false, (e.k == 4) = false]) (by kernel_rfl) ⟨h1, h2, h3, ?_, ?_, h4, h5, h6, h7, h8, h9, trivial⟩ ?_ r w
                    all_goals (
                      first
                      | exact hpar
                      | (have := ev_cv e e.d.a.toNat (by simp [hw] at h1; omega); simpa [Ev.cvs] using this)
                      | (simp [hw] at h1; omega)
                      | (congr 1; grind [rightB, kindRightB, noneB])
                      | (congr 1; simp only [ev_iff, dot_iff] at *; grind [rightB, kindRightB, noneB]))
                  | true =>
                    cases h10 : (decide   (e = { d := e.d, p := e.p, k := e.k, par := { a := 0, s := 0 }, right := false, ch := 0, who := e.who, role := 0 })) with
                    | false =>
                      refine fnP_leaf (T := T1) hmx (D := [Dec.s 2005 11 false, Dec.s 2010 16 false, Dec.s 2015 21 false, Dec.l 2019 (TV.one (CV.rig (Value.int IntKind.u32 (e.p.get e.d.a.toNat)))), Dec.s 2026 32 false, Dec.c 37 false, Dec.c 46 false, Dec.c 83 false, Dec.c 98 false, Dec.c 120 true, Dec.s 17004 128 false]) (v := Value.bool false) (ps := [decide (IntKind.i64.wrap e.d.a ≥ 8) = false, (e.d.s == 0) = false, decide (e.d.s > 1048576) = false, 0 ≤ e.d.a ∧ e.d.a < ↑8, [CV.rig (Value.int IntKind.u8 e.d.a), CV.rig (Value.int IntKind.u32 e.d.s), CV.rig (Value.int IntKind.u32 e.p.x0), CV.rig (Value.int IntKind.u32 e.p.x1), CV.rig (Value.int IntKind.u32 e.p.x2), CV.rig (Value.int IntKind.u32 e.p.x3), CV.rig (Value.int IntKind.u32 e.p.x4), CV.rig (Value.int IntKind.u32 e.p.x5), CV.rig (Value.int IntKind.u32 e.p.x6), CV.rig (Value.int IntKind.u32 e.p.x7), CV.rig (Value.int IntKind.u8 e.k), CV.rig (Value.int IntKind.u8 e.par.a), CV.rig (Value.int IntKind.u32 e.par.s), CV.rig (Value.bool e.right), CV.rig (Value.int IntKind.u8 e.ch), CV.rig (Value.int IntKind.u8 e.who), CV.rig (Value.int IntKind.u8 e.role)][2 + e.d.a.toNat * 1]? = some (CV.rig (Value.int IntKind.u32 (e.p.get e.d.a.toNat))), (e.p.get e.d.a.toNat != IntKind.u32.wrap (e.d.s - 1)) = false, decide (e.p.maxTo 7 > 1048576) = false, (e.k == 1) = false, (e.k == 2) = false, (e.k == 3) = false, (e.k == 4) = true, decide (e = { d := e.d, p := e.p, k := e.k, par := { a := 0, s := 0 }, right := false, ch := 0, who := e.who, role := 0 }) = false]) (by kernel_rfl) ⟨h1, h2, h3, ?_, ?_, h4, h5, h6, h7, h8, h9, h10, trivial⟩ ?_ r w
                      all_goals (
                        first
                        | exact hpar
                        | (have := ev_cv e e.d.a.toNat (by simp [hw] at h1; omega); simpa [Ev.cvs] using this)
                        | (simp [hw] at h1; omega)
                        | (congr 1; grind [rightB, kindRightB, noneB])
                        | (congr 1; simp only [ev_iff, dot_iff] at *; grind [rightB, kindRightB, noneB]))
                    | true =>
                      refine fnP_leaf (T := T1) hmx (D := [Dec.s 2005 11 false, Dec.s 2010 16 false, Dec.s 2015 21 false, Dec.l 2019 (TV.one (CV.rig (Value.int IntKind.u32 (e.p.get e.d.a.toNat)))), Dec.s 2026 32 false, Dec.c 37 false, Dec.c 46 false, Dec.c 83 false, Dec.c 98 false, Dec.c 120 true, Dec.s 17004 128 true]) (v := Value.bool (decide (e.who < 8))) (ps := [decide (IntKind.i64.wrap e.d.a ≥ 8) = false, (e.d.s == 0) = false, decide (e.d.s > 1048576) = false, 0 ≤ e.d.a ∧ e.d.a < ↑8, [CV.rig (Value.int IntKind.u8 e.d.a), CV.rig (Value.int IntKind.u32 e.d.s), CV.rig (Value.int IntKind.u32 e.p.x0), CV.rig (Value.int IntKind.u32 e.p.x1), CV.rig (Value.int IntKind.u32 e.p.x2), CV.rig (Value.int IntKind.u32 e.p.x3), CV.rig (Value.int IntKind.u32 e.p.x4), CV.rig (Value.int IntKind.u32 e.p.x5), CV.rig (Value.int IntKind.u32 e.p.x6), CV.rig (Value.int IntKind.u32 e.p.x7), CV.rig (Value.int IntKind.u8 e.k), CV.rig (Value.int IntKind.u8 e.par.a), CV.rig (Value.int IntKind.u32 e.par.s), CV.rig (Value.bool e.right), CV.rig (Value.int IntKind.u8 e.ch), CV.rig (Value.int IntKind.u8 e.who), CV.rig (Value.int IntKind.u8 e.role)][2 + e.d.a.toNat * 1]? = some (CV.rig (Value.int IntKind.u32 (e.p.get e.d.a.toNat))), (e.p.get e.d.a.toNat != IntKind.u32.wrap (e.d.s - 1)) = false, decide (e.p.maxTo 7 > 1048576) = false, (e.k == 1) = false, (e.k == 2) = false, (e.k == 3) = false, (e.k == 4) = true, decide (e = { d := e.d, p := e.p, k := e.k, par := { a := 0, s := 0 }, right := false, ch := 0, who := e.who, role := 0 }) = true]) (by kernel_rfl) ⟨h1, h2, h3, ?_, ?_, h4, h5, h6, h7, h8, h9, h10, trivial⟩ ?_ r w
                      all_goals (
                        first
                        | exact hpar
                        | (have := ev_cv e e.d.a.toNat (by simp [hw] at h1; omega); simpa [Ev.cvs] using this)
                        | (simp [hw] at h1; omega)
                        | (congr 1; grind [rightB, kindRightB, noneB])
                        | (congr 1; simp only [ev_iff, dot_iff] at *; grind [rightB, kindRightB, noneB]))
                | true =>
                  cases h9 : (decide   (e =     { d := e.d, p := e.p, k := e.k, par := { a := 0, s := 0 }, right := false, ch := 0, who := e.who, role := e.role })) with
                  | false =>
                    refine fnP_leaf (T := T1) hmx (D := [Dec.s 2005 11 false, Dec.s 2010 16 false, Dec.s 2015 21 false, Dec.l 2019 (TV.one (CV.rig (Value.int IntKind.u32 (e.p.get e.d.a.toNat)))), Dec.s 2026 32 false, Dec.c 37 false, Dec.c 46 false, Dec.c 83 false, Dec.c 98 true, Dec.s 14004 109 false]) (v := Value.bool false) (ps := [decide (IntKind.i64.wrap e.d.a ≥ 8) = false, (e.d.s == 0) = false, decide (e.d.s > 1048576) = false, 0 ≤ e.d.a ∧ e.d.a < ↑8, [CV.rig (Value.int IntKind.u8 e.d.a), CV.rig (Value.int IntKind.u32 e.d.s), CV.rig (Value.int IntKind.u32 e.p.x0), CV.rig (Value.int IntKind.u32 e.p.x1), CV.rig (Value.int IntKind.u32 e.p.x2), CV.rig (Value.int IntKind.u32 e.p.x3), CV.rig (Value.int IntKind.u32 e.p.x4), CV.rig (Value.int IntKind.u32 e.p.x5), CV.rig (Value.int IntKind.u32 e.p.x6), CV.rig (Value.int IntKind.u32 e.p.x7), CV.rig (Value.int IntKind.u8 e.k), CV.rig (Value.int IntKind.u8 e.par.a), CV.rig (Value.int IntKind.u32 e.par.s), CV.rig (Value.bool e.right), CV.rig (Value.int IntKind.u8 e.ch), CV.rig (Value.int IntKind.u8 e.who), CV.rig (Value.int IntKind.u8 e.role)][2 + e.d.a.toNat * 1]? = some (CV.rig (Value.int IntKind.u32 (e.p.get e.d.a.toNat))), (e.p.get e.d.a.toNat != IntKind.u32.wrap (e.d.s - 1)) = false, decide (e.p.maxTo 7 > 1048576) = false, (e.k == 1) = false, (e.k == 2) = false, (e.k == 3) = true, decide (e = { d := e.d, p := e.p, k := e.k, par := { a := 0, s := 0 }, right := false, ch := 0, who := e.who, role := e.role }) = false]) (by kernel_rfl) ⟨h1, h2, h3, ?_, ?_, h4, h5, h6, h7, h8, h9, trivial⟩ ?_ r w
                    all_goals (
                      first
                      | exact hpar
                      | (have := ev_cv e e.d.a.toNat (by simp [hw] at h1; omega); simpa [Ev.cvs] using this)
                      | (simp [hw] at h1; omega)
                      | (congr 1; grind [rightB, kindRightB, noneB])
                      | (congr 1; simp only [ev_iff, dot_iff] at *; grind [rightB, kindRightB, noneB]))
                  | true =>
                    cases h10 : (decide (e.who < 8)) with
                    | false =>
                      refine fnP_leaf (T := T1) hmx (D := [Dec.s 2005 11 false, Dec.s 2010 16 false, Dec.s 2015 21 false, Dec.l 2019 (TV.one (CV.rig (Value.int IntKind.u32 (e.p.get e.d.a.toNat)))), Dec.s 2026 32 false, Dec.c 37 false, Dec.c 46 false, Dec.c 83 false, Dec.c 98 true, Dec.s 14004 109 true, Dec.s 14009 114 false]) (v := Value.bool false) (ps := [decide (IntKind.i64.wrap e.d.a ≥ 8) = false, (e.d.s == 0) = false, decide (e.d.s > 1048576) = false, 0 ≤ e.d.a ∧ e.d.a < ↑8, [CV.rig (Value.int IntKind.u8 e.d.a), CV.rig (Value.int IntKind.u32 e.d.s), CV.rig (Value.int IntKind.u32 e.p.x0), CV.rig (Value.int IntKind.u32 e.p.x1), CV.rig (Value.int IntKind.u32 e.p.x2), CV.rig (Value.int IntKind.u32 e.p.x3), CV.rig (Value.int IntKind.u32 e.p.x4), CV.rig (Value.int IntKind.u32 e.p.x5), CV.rig (Value.int IntKind.u32 e.p.x6), CV.rig (Value.int IntKind.u32 e.p.x7), CV.rig (Value.int IntKind.u8 e.k), CV.rig (Value.int IntKind.u8 e.par.a), CV.rig (Value.int IntKind.u32 e.par.s), CV.rig (Value.bool e.right), CV.rig (Value.int IntKind.u8 e.ch), CV.rig (Value.int IntKind.u8 e.who), CV.rig (Value.int IntKind.u8 e.role)][2 + e.d.a.toNat * 1]? = some (CV.rig (Value.int IntKind.u32 (e.p.get e.d.a.toNat))), (e.p.get e.d.a.toNat != IntKind.u32.wrap (e.d.s - 1)) = false, decide (e.p.maxTo 7 > 1048576) = false, (e.k == 1) = false, (e.k == 2) = false, (e.k == 3) = true, decide (e = { d := e.d, p := e.p, k := e.k, par := { a := 0, s := 0 }, right := false, ch := 0, who := e.who, role := e.role }) = true, decide (e.who < 8) = false]) (by kernel_rfl) ⟨h1, h2, h3, ?_, ?_, h4, h5, h6, h7, h8, h9, h10, trivial⟩ ?_ r w
                      all_goals (
                        first
                        | exact hpar
                        | (have := ev_cv e e.d.a.toNat (by simp [hw] at h1; omega); simpa [Ev.cvs] using this)
                        | (simp [hw] at h1; omega)
                        | (congr 1; grind [rightB, kindRightB, noneB])
                        | (congr 1; simp only [ev_iff, dot_iff] at *; grind [rightB, kindRightB, noneB]))
                    | true =>
                      refine fnP_leaf (T := T1) hmx (D := [Dec.s 2005 11 false, Dec.s 2010 16 false, Dec.s 2015 21 false, Dec.l 2019 (TV.one (CV.rig (Value.int IntKind.u32 (e.p.get e.d.a.toNat)))), Dec.s 2026 32 false, Dec.c 37 false, Dec.c 46 false, Dec.c 83 false, Dec.c 98 true, Dec.s 14004 109 true, Dec.s 14009 114 true]) (v := Value.bool (decide (IntKind.u8.wrap (e.role - 1) ≤ 2))) (ps := [decide (IntKind.i64.wrap e.d.a ≥ 8) = false, (e.d.s == 0) = false, decide (e.d.s > 1048576) = false, 0 ≤ e.d.a ∧ e.d.a < ↑8, [CV.rig (Value.int IntKind.u8 e.d.a), CV.rig (Value.int IntKind.u32 e.d.s), CV.rig (Value.int IntKind.u32 e.p.x0), CV.rig (Value.int IntKind.u32 e.p.x1), CV.rig (Value.int IntKind.u32 e.p.x2), CV.rig (Value.int IntKind.u32 e.p.x3), CV.rig (Value.int IntKind.u32 e.p.x4), CV.rig (Value.int IntKind.u32 e.p.x5), CV.rig (Value.int IntKind.u32 e.p.x6), CV.rig (Value.int IntKind.u32 e.p.x7), CV.rig (Value.int IntKind.u8 e.k), CV.rig (Value.int IntKind.u8 e.par.a), CV.rig (Value.int IntKind.u32 e.par.s), CV.rig (Value.bool e.right), CV.rig (Value.int IntKind.u8 e.ch), CV.rig (Value.int IntKind.u8 e.who), CV.rig (Value.int IntKind.u8 e.role)][2 + e.d.a.toNat * 1]? = some (CV.rig (Value.int IntKind.u32 (e.p.get e.d.a.toNat))), (e.p.get e.d.a.toNat != IntKind.u32.wrap (e.d.s - 1)) = false, decide (e.p.maxTo 7 > 1048576) = false, (e.k == 1) = false, (e.k == 2) = false, (e.k == 3) = true, decide (e = { d := e.d, p := e.p, k := e.k, par := { a := 0, s := 0 }, right := false, ch := 0, who := e.who, role := e.role }) = true, decide (e.who < 8) = true]) (by kernel_rfl) ⟨h1, h2, h3, ?_, ?_, h4, h5, h6, h7, h8, h9, h10, trivial⟩ ?_ r w
                      all_goals (
                        first
                        | exact hpar
                        | (have := ev_cv e e.d.a.toNat (by simp [hw] at h1; omega); simpa [Ev.cvs] using this)
                        | (simp [hw] at h1; omega)
                        | (congr 1; grind [rightB, kindRightB, noneB])
                        | (congr 1; simp only [ev_iff, dot_iff] at *; grind [rightB, kindRightB, noneB]))
              | true =>
                cases h8 : (decide (e = { d := e.d, p := e.p, k := e.k, par := e.par, right := false, ch := 0, who := 0, role := 0 })) with
                | false =>
                  refine fnP_leaf (T := T1) hmx (D := [Dec.s 2005 11 false, Dec.s 2010 16 false, Dec.s 2015 21 false, Dec.l 2019 (TV.one (CV.rig (Value.int IntKind.u32 (e.p.get e.d.a.toNat)))), Dec.s 2026 32 false, Dec.c 37 false, Dec.c 46 false, Dec.c 83 true, Dec.s 11004 91 false]) (v := Value.bool false) (ps := [decide (IntKind.i64.wrap e.d.a ≥ 8) = false, (e.d.s == 0) = false, decide (e.d.s > 1048576) = false, 0 ≤ e.d.a ∧ e.d.a < ↑8, [CV.rig (Value.int IntKind.u8 e.d.a), CV.rig (Value.int IntKind.u32 e.d.s), CV.rig (Value.int IntKind.u32 e.p.x0), CV.rig (Value.int IntKind.u32 e.p.x1), CV.rig (Value.int IntKind.u32 e.p.x2), CV.rig (Value.int IntKind.u32 e.p.x3), CV.rig (Value.int IntKind.u32 e.p.x4), CV.rig (Value.int IntKind.u32 e.p.x5), CV.rig (Value.int IntKind.u32 e.p.x6), CV.rig (Value.int IntKind.u32 e.p.x7), CV.rig (Value.int IntKind.u8 e.k), CV.rig (Value.int IntKind.u8 e.par.a), CV.rig (Value.int IntKind.u32 e.par.s), CV.rig (Value.bool e.right), CV.rig (Value.int IntKind.u8 e.ch), CV.rig (Value.int IntKind.u8 e.who), CV.rig (Value.int IntKind.u8 e.role)][2 + e.d.a.toNat * 1]? = some (CV.rig (Value.int IntKind.u32 (e.p.get e.d.a.toNat))), (e.p.get e.d.a.toNat != IntKind.u32.wrap (e.d.s - 1)) = false, decide (e.p.maxTo 7 > 1048576) = false, (e.k == 1) = false, (e.k == 2) = true, decide (e = { d := e.d, p := e.p, k := e.k, par := e.par, right := false, ch := 0, who := 0, role := 0 }) = false]) (by kernel_rfl) ⟨h1, h2, h3, ?_, ?_, h4, h5, h6, h7, h8, trivial⟩ ?_ r w
                  all_goals (
                    first
                    | exact hpar
                    | (have := ev_cv e e.d.a.toNat (by simp [hw] at h1; omega); simpa [Ev.cvs] using this)
                    | (simp [hw] at h1; omega)
                    | (congr 1; grind [rightB, kindRightB, noneB])
                    | (congr 1; simp only [ev_iff, dot_iff] at *; grind [rightB, kindRightB, noneB]))
                | true =>
                  refine fnP_leaf (T := T1) hmx (D := [Dec.s 2005 11 false, Dec.s 2010 16 false, Dec.s 2015 21 false, Dec.l 2019 (TV.one (CV.rig (Value.int IntKind.u32 (e.p.get e.d.a.toNat)))), Dec.s 2026 32 false, Dec.c 37 false, Dec.c 46 false, Dec.c 83 true, Dec.s 11004 91 true]) (v := Value.bool (hasB e.p e.par)) (ps := [decide (IntKind.i64.wrap e.d.a ≥ 8) = false, (e.d.s == 0) = false, decide (e.d.s > 1048576) = false, 0 ≤ e.d.a ∧ e.d.a < ↑8, [CV.rig (Value.int IntKind.u8 e.d.a), CV.rig (Value.int IntKind.u32 e.d.s), CV.rig (Value.int IntKind.u32 e.p.x0), CV.rig (Value.int IntKind.u32 e.p.x1), CV.rig (Value.int IntKind.u32 e.p.x2), CV.rig (Value.int IntKind.u32 e.p.x3), CV.rig (Value.int IntKind.u32 e.p.x4), CV.rig (Value.int IntKind.u32 e.p.x5), CV.rig (Value.int IntKind.u32 e.p.x6), CV.rig (Value.int IntKind.u32 e.p.x7), CV.rig (Value.int IntKind.u8 e.k), CV.rig (Value.int IntKind.u8 e.par.a), CV.rig (Value.int IntKind.u32 e.par.s), CV.rig (Value.bool e.right), CV.rig (Value.int IntKind.u8 e.ch), CV.rig (Value.int IntKind.u8 e.who), CV.rig (Value.int IntKind.u8 e.role)][2 + e.d.a.toNat * 1]? = some (CV.rig (Value.int IntKind.u32 (e.p.get e.d.a.toNat))), (e.p.get e.d.a.toNat != IntKind.u32.wrap (e.d.s - 1)) = false, decide (e.p.maxTo 7 > 1048576) = false, (e.k == 1) = false, (e.k == 2) = true, decide (e = { d := e.d, p := e.p, k := e.k, par := e.par, right := false, ch := 0, who := 0, role := 0 }) = true, e.par.ok]) (by kernel_rfl) ⟨h1, h2, h3, ?_, ?_, h4, h5, h6, h7, h8, ?_, trivial⟩ ?_ r w
                  all_goals (
                    first
                    | exact hpar
                    | (have := ev_cv e e.d.a.toNat (by simp [hw] at h1; omega); simpa [Ev.cvs] using this)
                    | (simp [hw] at h1; omega)
                    | (congr 1; grind [rightB, kindRightB, noneB])
                    | (congr 1; simp only [ev_iff, dot_iff] at *; grind [rightB, kindRightB, noneB]))
            | true =>
              cases h7 : (decide (e = { d := e.d, p := e.p, k := e.k, par := e.par, right := e.right, ch := e.ch, who := 0, role := 0 })) with
              | false =>
                refine fnP_leaf (T := T1) hmx (D := [Dec.s 2005 11 false, Dec.s 2010 16 false, Dec.s 2015 21 false, Dec.l 2019 (TV.one (CV.rig (Value.int IntKind.u32 (e.p.get e.d.a.toNat)))), Dec.s 2026 32 false, Dec.c 37 false, Dec.c 46 true, Dec.s 8004 60 false]) (v := Value.bool false) (ps := [decide (IntKind.i64.wrap e.d.a ≥ 8) = false, (e.d.s == 0) = false, decide (e.d.s > 1048576) = false, 0 ≤ e.d.a ∧ e.d.a < ↑8, [CV.rig (Value.int IntKind.u8 e.d.a), CV.rig (Value.int IntKind.u32 e.d.s), CV.rig (Value.int IntKind.u32 e.p.x0), CV.rig (Value.int IntKind.u32 e.p.x1), CV.rig (Value.int IntKind.u32 e.p.x2), CV.rig (Value.int IntKind.u32 e.p.x3), CV.rig (Value.int IntKind.u32 e.p.x4), CV.rig (Value.int IntKind.u32 e.p.x5), CV.rig (Value.int IntKind.u32 e.p.x6), CV.rig (Value.int IntKind.u32 e.p.x7), CV.rig (Value.int IntKind.u8 e.k), CV.rig (Value.int IntKind.u8 e.par.a), CV.rig (Value.int IntKind.u32 e.par.s), CV.rig (Value.bool e.right), CV.rig (Value.int IntKind.u8 e.ch), CV.rig (Value.int IntKind.u8 e.who), CV.rig (Value.int IntKind.u8 e.role)][2 + e.d.a.toNat * 1]? = some (CV.rig (Value.int IntKind.u32 (e.p.get e.d.a.toNat))), (e.p.get e.d.a.toNat != IntKind.u32.wrap (e.d.s - 1)) = false, decide (e.p.maxTo 7 > 1048576) = false, (e.k == 1) = true, decide (e = { d := e.d, p := e.p, k := e.k, par := e.par, right := e.right, ch := e.ch, who := 0, role := 0 }) = false]) (by kernel_rfl) ⟨h1, h2, h3, ?_, ?_, h4, h5, h6, h7, trivial⟩ ?_ r w
                all_goals (
                  first
                  | exact hpar
                  | (have := ev_cv e e.d.a.toNat (by simp [hw] at h1; omega); simpa [Ev.cvs] using this)
                  | (simp [hw] at h1; omega)
                  | (congr 1; grind [rightB, kindRightB, noneB])
                  | (congr 1; simp only [ev_iff, dot_iff] at *; grind [rightB, kindRightB, noneB]))
              | true =>
                cases h8 : (decide (IntKind.u8.wrap (e.ch - 1) < 127)) with
                | false =>
                  refine fnP_leaf (T := T1) hmx (D := [Dec.s 2005 11 false, Dec.s 2010 16 false, Dec.s 2015 21 false, Dec.l 2019 (TV.one (CV.rig (Value.int IntKind.u32 (e.p.get e.d.a.toNat)))), Dec.s 2026 32 false, Dec.c 37 false, Dec.c 46 true, Dec.s 8004 60 true, Dec.s 8010 66 false]) (v := Value.bool false) (ps := [decide (IntKind.i64.wrap e.d.a ≥ 8) = false, (e.d.s == 0) = false, decide (e.d.s > 1048576) = false, 0 ≤ e.d.a ∧ e.d.a < ↑8, [CV.rig (Value.int IntKind.u8 e.d.a), CV.rig (Value.int IntKind.u32 e.d.s), CV.rig (Value.int IntKind.u32 e.p.x0), CV.rig (Value.int IntKind.u32 e.p.x1), CV.rig (Value.int IntKind.u32 e.p.x2), CV.rig (Value.int IntKind.u32 e.p.x3), CV.rig (Value.int IntKind.u32 e.p.x4), CV.rig (Value.int IntKind.u32 e.p.x5), CV.rig (Value.int IntKind.u32 e.p.x6), CV.rig (Value.int IntKind.u32 e.p.x7), CV.rig (Value.int IntKind.u8 e.k), CV.rig (Value.int IntKind.u8 e.par.a), CV.rig (Value.int IntKind.u32 e.par.s), CV.rig (Value.bool e.right), CV.rig (Value.int IntKind.u8 e.ch), CV.rig (Value.int IntKind.u8 e.who), CV.rig (Value.int IntKind.u8 e.role)][2 + e.d.a.toNat * 1]? = some (CV.rig (Value.int IntKind.u32 (e.p.get e.d.a.toNat))), (e.p.get e.d.a.toNat != IntKind.u32.wrap (e.d.s - 1)) = false, decide (e.p.maxTo 7 > 1048576) = false, (e.k == 1) = true, decide (e = { d := e.d, p := e.p, k := e.k, par := e.par, right := e.right, ch := e.ch, who := 0, role := 0 }) = true, decide (IntKind.u8.wrap (e.ch - 1) < 127) = false]) (by kernel_rfl) ⟨h1, h2, h3, ?_, ?_, h4, h5, h6, h7, h8, trivial⟩ ?_ r w
                  all_goals (
                    first
                    | exact hpar
                    | (have := ev_cv e e.d.a.toNat (by simp [hw] at h1; omega); simpa [Ev.cvs] using this)
                    | (simp [hw] at h1; omega)
                    | (congr 1; grind [rightB, kindRightB, noneB])
                    | (congr 1; simp only [ev_iff, dot_iff] at *; grind [rightB, kindRightB, noneB]))
                | true =>
                  cases h9 : (hasB e.p e.par) with
                  | false =>
                    cases h10 : (decide (e.par = { a := 0, s := 0 })) with
                    | false =>
                      refine fnP_leaf (T := T1) hmx (D := [Dec.s 2005 11 false, Dec.s 2010 16 false, Dec.s 2015 21 false, Dec.l 2019 (TV.one (CV.rig (Value.int IntKind.u32 (e.p.get e.d.a.toNat)))), Dec.s 2026 32 false, Dec.c 37 false, Dec.c 46 true, Dec.s 8004 60 true, Dec.s 8010 66 true, Dec.s 8016 72 false, Dec.s 8021 77 false]) (v := Value.bool false) (ps := [decide (IntKind.i64.wrap e.d.a ≥ 8) = false, (e.d.s == 0) = false, decide (e.d.s > 1048576) = false, 0 ≤ e.d.a ∧ e.d.a < ↑8, [CV.rig (Value.int IntKind.u8 e.d.a), CV.rig (Value.int IntKind.u32 e.d.s), CV.rig (Value.int IntKind.u32 e.p.x0), CV.rig (Value.int IntKind.u32 e.p.x1), CV.rig (Value.int IntKind.u32 e.p.x2), CV.rig (Value.int IntKind.u32 e.p.x3), CV.rig (Value.int IntKind.u32 e.p.x4), CV.rig (Value.int IntKind.u32 e.p.x5), CV.rig (Value.int IntKind.u32 e.p.x6), CV.rig (Value.int IntKind.u32 e.p.x7), CV.rig (Value.int IntKind.u8 e.k), CV.rig (Value.int IntKind.u8 e.par.a), CV.rig (Value.int IntKind.u32 e.par.s), CV.rig (Value.bool e.right), CV.rig (Value.int IntKind.u8 e.ch), CV.rig (Value.int IntKind.u8 e.who), CV.rig (Value.int IntKind.u8 e.role)][2 + e.d.a.toNat * 1]? = some (CV.rig (Value.int IntKind.u32 (e.p.get e.d.a.toNat))), (e.p.get e.d.a.toNat != IntKind.u32.wrap (e.d.s - 1)) = false, decide (e.p.maxTo 7 > 1048576) = false, (e.k == 1) = true, decide (e = { d := e.d, p := e.p, k := e.k, par := e.par, right := e.right, ch := e.ch, who := 0, role := 0 }) = true, decide (IntKind.u8.wrap (e.ch - 1) < 127) = true, e.par.ok, hasB e.p e.par = false, decide (e.par = { a := 0, s := 0 }) = false]) (by kernel_rfl) ⟨h1, h2, h3, ?_, ?_, h4, h5, h6, h7, h8, ?_, h9, h10, trivial⟩ ?_ r w
                      all_goals (
                        first
                        | exact hpar
                        | (have := ev_cv e e.d.a.toNat (by simp [hw] at h1; omega); simpa [Ev.cvs] using this)
                        | (simp [hw] at h1; omega)
                        | (congr 1; grind [rightB, kindRightB, noneB])
                        | (congr 1; simp only [ev_iff, dot_iff] at *; grind [rightB, kindRightB, noneB]))
                    | true =>
                      refine fnP_leaf (T := T1) hmx (D := [Dec.s 2005 11 false, Dec.s 2010 16 false, Dec.s 2015 21 false, Dec.l 2019 (TV.one (CV.rig (Value.int IntKind.u32 (e.p.get e.d.a.toNat)))), Dec.s 2026 32 false, Dec.c 37 false, Dec.c 46 true, Dec.s 8004 60 true, Dec.s 8010 66 true, Dec.s 8016 72 false, Dec.s 8021 77 true]) (v := Value.bool e.right) (ps := [decide (IntKind.i64.wrap e.d.a ≥ 8) = false, (e.d.s == 0) = false, decide (e.d.s > 1048576) = false, 0 ≤ e.d.a ∧ e.d.a < ↑8, [CV.rig (Value.int IntKind.u8 e.d.a), CV.rig (Value.int IntKind.u32 e.d.s), CV.rig (Value.int IntKind.u32 e.p.x0), CV.rig (Value.int IntKind.u32 e.p.x1), CV.rig (Value.int IntKind.u32 e.p.x2), CV.rig (Value.int IntKind.u32 e.p.x3), CV.rig (Value.int IntKind.u32 e.p.x4), CV.rig (Value.int IntKind.u32 e.p.x5), CV.rig (Value.int IntKind.u32 e.p.x6), CV.rig (Value.int IntKind.u32 e.p.x7), CV.rig (Value.int IntKind.u8 e.k), CV.rig (Value.int IntKind.u8 e.par.a), CV.rig (Value.int IntKind.u32 e.par.s), CV.rig (Value.bool e.right), CV.rig (Value.int IntKind.u8 e.ch), CV.rig (Value.int IntKind.u8 e.who), CV.rig (Value.int IntKind.u8 e.role)][2 + e.d.a.toNat * 1]? = some (CV.rig (Value.int IntKind.u32 (e.p.get e.d.a.toNat))), (e.p.get e.d.a.toNat != IntKind.u32.wrap (e.d.s - 1)) = false, decide (e.p.maxTo 7 > 1048576) = false, (e.k == 1) = true, decide (e = { d := e.d, p := e.p, k := e.k, par := e.par, right := e.right, ch := e.ch, who := 0, role := 0 }) = true, decide (IntKind.u8.wrap (e.ch - 1) < 127) = true, e.par.ok, hasB e.p e.par = false, decide (e.par = { a := 0, s := 0 }) = true]) (by kernel_rfl) ⟨h1, h2, h3, ?_, ?_, h4, h5, h6, h7, h8, ?_, h9, h10, trivial⟩ ?_ r w
                      all_goals (
                        first
                        | exact hpar
                        | (have := ev_cv e e.d.a.toNat (by simp [hw] at h1; omega); simpa [Ev.cvs] using this)
                        | (simp [hw] at h1; omega)
                        | (congr 1; grind [rightB, kindRightB, noneB])
                        | (congr 1; simp only [ev_iff, dot_iff] at *; grind [rightB, kindRightB, noneB]))
                  | true =>
                    refine fnP_leaf (T := T1) hmx (D := [Dec.s 2005 11 false, Dec.s 2010 16 false, Dec.s 2015 21 false, Dec.l 2019 (TV.one (CV.rig (Value.int IntKind.u32 (e.p.get e.d.a.toNat)))), Dec.s 2026 32 false, Dec.c 37 false, Dec.c 46 true, Dec.s 8004 60 true, Dec.s 8010 66 true, Dec.s 8016 72 true]) (v := Value.bool true) (ps := [decide (IntKind.i64.wrap e.d.a ≥ 8) = false, (e.d.s == 0) = false, decide (e.d.s > 1048576) = false, 0 ≤ e.d.a ∧ e.d.a < ↑8, [CV.rig (Value.int IntKind.u8 e.d.a), CV.rig (Value.int IntKind.u32 e.d.s), CV.rig (Value.int IntKind.u32 e.p.x0), CV.rig (Value.int IntKind.u32 e.p.x1), CV.rig (Value.int IntKind.u32 e.p.x2), CV.rig (Value.int IntKind.u32 e.p.x3), CV.rig (Value.int IntKind.u32 e.p.x4), CV.rig (Value.int IntKind.u32 e.p.x5), CV.rig (Value.int IntKind.u32 e.p.x6), CV.rig (Value.int IntKind.u32 e.p.x7), CV.rig (Value.int IntKind.u8 e.k), CV.rig (Value.int IntKind.u8 e.par.a), CV.rig (Value.int IntKind.u32 e.par.s), CV.rig (Value.bool e.right), CV.rig (Value.int IntKind.u8 e.ch), CV.rig (Value.int IntKind.u8 e.who), CV.rig (Value.int IntKind.u8 e.role)][2 + e.d.a.toNat * 1]? = some (CV.rig (Value.int IntKind.u32 (e.p.get e.d.a.toNat))), (e.p.get e.d.a.toNat != IntKind.u32.wrap (e.d.s - 1)) = false, decide (e.p.maxTo 7 > 1048576) = false, (e.k == 1) = true, decide (e = { d := e.d, p := e.p, k := e.k, par := e.par, right := e.right, ch := e.ch, who := 0, role := 0 }) = true, decide (IntKind.u8.wrap (e.ch - 1) < 127) = true, e.par.ok, hasB e.p e.par = true]) (by kernel_rfl) ⟨h1, h2, h3, ?_, ?_, h4, h5, h6, h7, h8, ?_, h9, trivial⟩ ?_ r w
                    all_goals (
                      first
                      | exact hpar
                      | (have := ev_cv e e.d.a.toNat (by simp [hw] at h1; omega); simpa [Ev.cvs] using this)
                      | (simp [hw] at h1; omega)
                      | (congr 1; grind [rightB, kindRightB, noneB])
                      | (congr 1; simp only [ev_iff, dot_iff] at *; grind [rightB, kindRightB, noneB]))
          | true =>
            refine fnP_leaf (T := T1) hmx (D := [Dec.s 2005 11 false, Dec.s 2010 16 false, Dec.s 2015 21 false, Dec.l 2019 (TV.one (CV.rig (Value.int IntKind.u32 (e.p.get e.d.a.toNat)))), Dec.s 2026 32 false, Dec.c 37 true]) (v := Value.bool false) (ps := [decide (IntKind.i64.wrap e.d.a ≥ 8) = false, (e.d.s == 0) = false, decide (e.d.s > 1048576) = false, 0 ≤ e.d.a ∧ e.d.a < ↑8, [CV.rig (Value.int IntKind.u8 e.d.a), CV.rig (Value.int IntKind.u32 e.d.s), CV.rig (Value.int IntKind.u32 e.p.x0), CV.rig (Value.int IntKind.u32 e.p.x1), CV.rig (Value.int IntKind.u32 e.p.x2), CV.rig (Value.int IntKind.u32 e.p.x3), CV.rig (Value.int IntKind.u32 e.p.x4), CV.rig (Value.int IntKind.u32 e.p.x5), CV.rig (Value.int IntKind.u32 e.p.x6), CV.rig (Value.int IntKind.u32 e.p.x7), CV.rig (Value.int IntKind.u8 e.k), CV.rig (Value.int IntKind.u8 e.par.a), CV.rig (Value.int IntKind.u32 e.par.s), CV.rig (Value.bool e.right), CV.rig (Value.int IntKind.u8 e.ch), CV.rig (Value.int IntKind.u8 e.who), CV.rig (Value.int IntKind.u8 e.role)][2 + e.d.a.toNat * 1]? = some (CV.rig (Value.int IntKind.u32 (e.p.get e.d.a.toNat))), (e.p.get e.d.a.toNat != IntKind.u32.wrap (e.d.s - 1)) = false, decide (e.p.maxTo 7 > 1048576) = true]) (by kernel_rfl) ⟨h1, h2, h3, ?_, ?_, h4, h5, trivial⟩ ?_ r w
            all_goals (
              first
              | exact hpar
              | (have := ev_cv e e.d.a.toNat (by simp [hw] at h1; omega); simpa [Ev.cvs] using this)
              | (simp [hw] at h1; omega)
              | (congr 1; grind [rightB, kindRightB, noneB])
              | (congr 1; simp only [ev_iff, dot_iff] at *; grind [rightB, kindRightB, noneB]))
        | true =>
          refine fnP_leaf (T := T1) hmx (D := [Dec.s 2005 11 false, Dec.s 2010 16 false, Dec.s 2015 21 false, Dec.l 2019 (TV.one (CV.rig (Value.int IntKind.u32 (e.p.get e.d.a.toNat)))), Dec.s 2026 32 true]) (v := Value.bool false) (ps := [decide (IntKind.i64.wrap e.d.a ≥ 8) = false, (e.d.s == 0) = false, decide (e.d.s > 1048576) = false, 0 ≤ e.d.a ∧ e.d.a < ↑8, [CV.rig (Value.int IntKind.u8 e.d.a), CV.rig (Value.int IntKind.u32 e.d.s), CV.rig (Value.int IntKind.u32 e.p.x0), CV.rig (Value.int IntKind.u32 e.p.x1), CV.rig (Value.int IntKind.u32 e.p.x2), CV.rig (Value.int IntKind.u32 e.p.x3), CV.rig (Value.int IntKind.u32 e.p.x4), CV.rig (Value.int IntKind.u32 e.p.x5), CV.rig (Value.int IntKind.u32 e.p.x6), CV.rig (Value.int IntKind.u32 e.p.x7), CV.rig (Value.int IntKind.u8 e.k), CV.rig (Value.int IntKind.u8 e.par.a), CV.rig (Value.int IntKind.u32 e.par.s), CV.rig (Value.bool e.right), CV.rig (Value.int IntKind.u8 e.ch), CV.rig (Value.int IntKind.u8 e.who), CV.rig (Value.int IntKind.u8 e.role)][2 + e.d.a.toNat * 1]? = some (CV.rig (Value.int IntKind.u32 (e.p.get e.d.a.toNat))), (e.p.get e.d.a.toNat != IntKind.u32.wrap (e.d.s - 1)) = true]) (by kernel_rfl) ⟨h1, h2, h3, ?_, ?_, h4, trivial⟩ ?_ r w
          all_goals (
            first
            | exact hpar
            | (have := ev_cv e e.d.a.toNat (by simp [hw] at h1; omega); simpa [Ev.cvs] using this)
            | (simp [hw] at h1; omega)
            | (congr 1; grind [rightB, kindRightB, noneB])
            | (congr 1; simp only [ev_iff, dot_iff] at *; grind [rightB, kindRightB, noneB]))
      | true =>
        refine fnP_leaf (T := T1) hmx (D := [Dec.s 2005 11 false, Dec.s 2010 16 false, Dec.s 2015 21 true]) (v := Value.bool false) (ps := [decide (IntKind.i64.wrap e.d.a ≥ 8) = false, (e.d.s == 0) = false, decide (e.d.s > 1048576) = true]) (by kernel_rfl) ⟨h1, h2, h3, trivial⟩ ?_ r w
        all_goals (
          first
          | exact hpar
          | (have := ev_cv e e.d.a.toNat (by simp [hw] at h1; omega); simpa [Ev.cvs] using this)
          | (simp [hw] at h1; omega)
          | (congr 1; grind [rightB, kindRightB, noneB])
          | (congr 1; simp only [ev_iff, dot_iff] at *; grind [rightB, kindRightB, noneB]))
    | true =>
      refine fnP_leaf (T := T1) hmx (D := [Dec.s 2005 11 false, Dec.s 2010 16 true]) (v := Value.bool false) (ps := [decide (IntKind.i64.wrap e.d.a ≥ 8) = false, (e.d.s == 0) = true]) (by kernel_rfl) ⟨h1, h2, trivial⟩ ?_ r w
      all_goals (
        first
        | exact hpar
        | (have := ev_cv e e.d.a.toNat (by simp [hw] at h1; omega); simpa [Ev.cvs] using this)
        | (simp [hw] at h1; omega)
        | (congr 1; grind [rightB, kindRightB, noneB])
        | (congr 1; simp only [ev_iff, dot_iff] at *; grind [rightB, kindRightB, noneB]))
  | true =>
    refine fnP_leaf (T := T1) hmx (D := [Dec.s 2005 11 true]) (v := Value.bool false) (ps := [decide (IntKind.i64.wrap e.d.a ≥ 8) = true]) (by kernel_rfl) ⟨h1, trivial⟩ ?_ r w
    all_goals (
      first
      | exact hpar
      | (have := ev_cv e e.d.a.toNat (by simp [hw] at h1; omega); simpa [Ev.cvs] using this)
      | (simp [hw] at h1; omega)
      | (congr 1; grind [rightB, kindRightB, noneB])
      | (congr 1; simp only [ev_iff, dot_iff] at *; grind [rightB, kindRightB, noneB]))


end Go.Proofs.Ytodcebpdmjdplaa
