/- Plays: what a book holds after some events. Plays: walked. Whether the roles of all are the same. Both books tell the same. What is live, as a callee. -/
import Derived.Test.YtodcebpdmjdplaaJ16
import Derived.Test.YtodcebpdmjdplaaJ9
namespace Go.Proofs.Ytodcebpdmjdplaa
open Go.RowKit

theorem rep_aevs {l : List Ev} {w : World} {root : Nat} {s : SV} {own im : Nat → Prop} : Rp (.aevs l) w root s own im ↔ ARep l w s im :=
  ⟨fun h => by cases h with | prim h => exact h | comp H g hs => simp [shape] at hs, fun h => .prim h⟩

def AEv : AK Try.prog := {
  α := Ev
  inst := inferInstance
  toX := .aevs
  ex := fun x => match x with | .aevs l => some l | _ => none
  ex_mk := fun {x l} h => by cases x <;> simp at h; subst h; rfl
  e := 31
  rep := rep_aevs
  info := by kernel_rfl }

noncomputable def TD : CT Try.prog := TC.addA AEv

/-- A book's entries are right. -/
structure BkOk (L : Bk) (n : Nat) : Prop where
  len : L.length ≤ n
  ok : ∀ p ∈ L, p.1.ok
  rt : ∀ p ∈ L, Rt p.1

theorem BkOk.nil : BkOk [] 0 := ⟨Nat.le_refl _, fun _ h => (by cases h), fun _ h => (by cases h)⟩
theorem BkOk.mono {L : Bk} {n m : Nat} (h : BkOk L n) (hm : n ≤ m) : BkOk L m := ⟨Nat.le_trans h.len hm, h.ok, h.rt⟩

theorem rt_right {e : Ev} (h : rightB e = true) : Rt e := fun hk => by
  unfold rightB at h
  simp only [Bool.and_eq_true] at h
  have h := h.2
  unfold kindRightB at h
  simp [hk] at h
  omega

theorem addM_cases (L : Bk) (e : Ev) : (addM L e).2 = L ∨ (rightB e = true ∧ (addM L e).2 = L ++ [(e, roleM L e.d.a e.p == 3)]) := by
  unfold addM
  split
  · exact .inl rfl
  · rename_i h
    split
    · exact .inl rfl
    · split
      · exact .inl rfl
      · refine .inr ⟨?_, rfl⟩
        cases hr : rightB e with
        | true => rfl
        | false => simp [hr] at h

theorem BkOk.add {L : Bk} {n : Nat} (h : BkOk L n) {e : Ev} (he : e.ok) : BkOk (addM L e).2 (n + 1) := by
  rcases addM_cases L e with h1 | ⟨hr, h1⟩
  · rw [h1]; exact h.mono (Nat.le_succ _)
  · rw [h1]
    refine ⟨by simp; exact h.len, fun p hp => ?_, fun p hp => ?_⟩
    · rcases List.mem_append.1 hp with hp | hp
      · exact h.ok p hp
      · simp at hp; subst hp; exact he
    · rcases List.mem_append.1 hp with hp | hp
      · exact h.rt p hp
      · simp at hp; subst hp; exact rt_right hr

/-- A book, after so many more events. -/
def addsL (L : Bk) (l : List Ev) : Bk := l.foldl (fun L e => (addM L e).2) L
def plL (l : List Ev) : Bk := addsL [] (l.take 40)

theorem addsL_ok {L : Bk} {n : Nat} (h : BkOk L n) : ∀ {l : List Ev}, (∀ e ∈ l, e.ok) → BkOk (addsL L l) (n + l.length)
  | [], _ => h
  | e :: l, hl => by
    have := addsL_ok (h.add (hl e (by simp))) (l := l) fun x hx => hl x (by simp [hx])
    rw [List.length_cons, show n + (l.length + 1) = n + 1 + l.length by omega]
    exact this
theorem addsL_take (L : Bk) (l : List Ev) (i : Nat) (h : i < l.length) : addsL L (l.take (i + 1)) = (addM (addsL L (l.take i)) (nthE l i)).2 := by
  rw [take_e l i h, addsL, List.foldl_append]; rfl
theorem addsL_take_ok {L : Bk} {n : Nat} (h : BkOk L n) {l : List Ev} (hl : ∀ e ∈ l, e.ok) (i : Nat) : BkOk (addsL L (l.take i)) (n + i) :=
  (addsL_ok h fun e he => hl e (List.mem_of_mem_take he)).mono (by simp; omega)
theorem plL_ok {l : List Ev} (hl : ∀ e ∈ l, e.ok) : BkOk (plL l) 40 := by
  have := addsL_take_ok BkOk.nil hl 40
  rwa [Nat.zero_add] at this

end Go.Proofs.Ytodcebpdmjdplaa

namespace Go.Proofs.Ytodcebpdmjdplaa
open Go.RowKit

def plH (l : List Ev) (L : Bk) : AH := [(.abs 0 (.aevs l), 0), (.abs 1 (.book L), 1), (.abs 2 (.rbook L), 1)]
noncomputable def plF (i : Int) : AF := (((startF (fnOf Try.prog 13) [.c (.sl 0)]).set 5 (.c (.ptr 1 0))).set 6 (.c (.ptr 2 0))).set 7 (.r (.int .i64 i))
def plV : AV := .tup [.one (.ptr 0 0), .one (.ptr 1 0), .one (.rig (.bool true))]
def plW : AV := .tup [.one (.ptr 1 0), .one (.ptr 2 0), .one (.rig (.bool true))]

theorem playN {l : List Ev} (hl : ∀ e ∈ l, e.ok) : CtrN Try.prog 13 [.c (.sl 0)] [(.abs 0 (.aevs l), 0)] plV [(.abs 0 (.book (plL l)), 1), (.abs 1 (.rbook (plL l)), 1)] := by
  intro r w hst0
  suffices hh : Calls Try.prog 13 (([.c (.sl 0)].map (AV.conc r)).toArray) w fun e w' => ∃ g, e = .returned (plW.conc g) ∧ St g (plH l (plL l)) (rd r w) w' from hh.mono fun e w' ⟨g, h1, h2⟩ => by
    obtain ⟨r3, -, hren, h3⟩ := h2.view 0 [1, 2] [1, 2] [(.abs 0 (.book (plL l)), 1), (.abs 1 (.rbook (plL l)), 1)] (by kernel_rfl) (by kernel_rfl)
    refine ⟨r3, ?_, h3⟩
    rw [h1, ← AV.ren_conc hren (v := plV) (by kernel_rfl)]
    rfl
  refine (callsFw (ro := none) (n := 0)).1 (callsInStart (fn := fnOf Try.prog 13) (c := bodyOf Try.prog 13) (by kernel_rfl) (by kernel_rfl) fun a0 hF0 hd0 => ?_)
  refine code_wp hmx TD [] [True, True] (.loop (fnLoop Try.prog 13 0).1 (fnLoop Try.prog 13 0).2) (by kernel_rfl) (by kernel_rfl) ⟨trivial, trivial, trivial⟩ hF0 hst0 fun r2 w2 a2 hag2 hst2 hF2 hd2 => ?_
  refine loop_wp (σ := Nat) (n0 := 0) (g0 := r) (B := rd r w) (ds := []) [0, 5, 6, 7] (fun i => plF i) (fun i => plH l (addsL [] (l.take i))) (fun i => i ≤ l.length ∧ i ≤ 40) (fun i => l.length - i) 0
    (next_inv ⟨Nat.zero_le _, Nat.zero_le _⟩ (Agree.refl _ _) hag2 (by kernel_rfl) hF2 hst2 (hd2.trans hd0) (by kernel_rfl) (by kernel_rfl) (by kernel_rfl)) fun i g G a w1 hi hag hF hst hd => ?_
  obtain ⟨hi, hi40⟩ := hi
  have hok := addsL_take_ok BkOk.nil hl i
  have hfin : l.length ≤ i ∨ 40 ≤ i → l.take i = l.take 40 := fun h => by
    rcases h with h | h
    · rw [List.take_of_length_le h, List.take_of_length_le (by omega)]
    · rw [show i = 40 by omega]
  cases h1 : (decide ((↑i : Int) < (↑l.length : Int))) with
  | false =>
    refine code_wp hmx (ro := none) TD [Dec.s (3005 : Nat) (14 : Nat) false] [decide ((↑i : Int) < (↑l.length : Int)) = false] (.exit 0) (by kernel_rfl) (by kernel_rfl) ⟨h1, trivial⟩ hF hst fun g1 w1 a1 hag1 hst1 hF1 hd1 => ?_
    have hq : l.take i = l.take 40 := hfin (by
      first
      | exact .inl (by simpa using h1)
      | exact .inr (by simp at h2; omega))
    rw [hq] at hst1
    refine exit_out (k' := restAt 0 (fnLoop Try.prog 13 0).2) (by kernel_rfl) ?_
    obtain ⟨-, g5, G5, hag5, hF5, hst5, hd5⟩ := next_inv (σ := Unit) (n0 := 0) (live := [0, 5, 6, 7]) (F := fun _ => plF i) (H := fun _ => plH l (plL l)) (inv := fun _ => True) (s' := ()) trivial hag hag1 (by kernel_rfl) hF1 hst1 (hd1.trans hd) (by kernel_rfl) (by kernel_rfl) (by kernel_rfl)
    refine list_wp hmx TD [] [] .ret (by kernel_rfl) (by kernel_rfl) trivial hF5 hst5 fun g6 w6 a6 hag6 hst6 hF6 hd6 => ?_
    exact ret_fin (bodyPost_of (v := plW) (by kernel_rfl) hF6 hst6 (hd6.trans hd5) ⟨g6, rfl, hst6.as (by kernel_rfl)⟩).1
  | true =>
    cases h2 : (decide ((↑i : Int) < (40 : Int))) with
    | false =>
      refine code_wp hmx (ro := none) TD [Dec.s (3005 : Nat) (14 : Nat) true, Dec.c (17 : Nat) false] [decide ((↑i : Int) < (↑l.length : Int)) = true, decide ((↑i : Int) < (40 : Int)) = false] (.exit 0) (by kernel_rfl) (by kernel_rfl) ⟨h1, h2, trivial⟩ hF hst fun g1 w1 a1 hag1 hst1 hF1 hd1 => ?_
      have hq : l.take i = l.take 40 := hfin (by
        first
        | exact .inl (by simpa using h1)
        | exact .inr (by simp at h2; omega))
      rw [hq] at hst1
      refine exit_out (k' := restAt 0 (fnLoop Try.prog 13 0).2) (by kernel_rfl) ?_
      obtain ⟨-, g5, G5, hag5, hF5, hst5, hd5⟩ := next_inv (σ := Unit) (n0 := 0) (live := [0, 5, 6, 7]) (F := fun _ => plF i) (H := fun _ => plH l (plL l)) (inv := fun _ => True) (s' := ()) trivial hag hag1 (by kernel_rfl) hF1 hst1 (hd1.trans hd) (by kernel_rfl) (by kernel_rfl) (by kernel_rfl)
      refine list_wp hmx TD [] [] .ret (by kernel_rfl) (by kernel_rfl) trivial hF5 hst5 fun g6 w6 a6 hag6 hst6 hF6 hd6 => ?_
      exact ret_fin (bodyPost_of (v := plW) (by kernel_rfl) hF6 hst6 (hd6.trans hd5) ⟨g6, rfl, hst6.as (by kernel_rfl)⟩).1
    | true =>
      cases h3 : ((addM (addsL [] (List.take i l)) (l.getD (↑i : Int).toNat Elt.zero)).fst !=   (addM (addsL [] (List.take i l)) (l.getD (↑i : Int).toNat Elt.zero)).fst) with
      | false =>
        refine code_wp hmx (ro := none) TD [Dec.s (3005 : Nat) (14 : Nat) true, Dec.c (17 : Nat) true, Dec.c (32 : Nat) false] [decide ((↑i : Int) < (↑l.length : Int)) = true, decide ((↑i : Int) < (40 : Int)) = true, (0 : Int) ≤ (↑i : Int) ∧ (↑i : Int) < (↑l.length : Int), (↑i : Int).toNat < l.length, (∀ (p : Ev × Bool), p ∈ addsL [] (List.take i l) → p.fst.ok) ∧ Ev.ok (l.getD (↑i : Int).toNat Elt.zero), (0 : Int) ≤ (↑i : Int) ∧ (↑i : Int) < (↑l.length : Int), (↑i : Int).toNat < l.length, (List.length (addsL [] (List.take i l)) ≤ (1000 : Nat) ∧ (∀ (p : Ev × Bool), p ∈ addsL [] (List.take i l) → p.fst.ok) ∧ ∀ (p : Ev × Bool), p ∈ addsL [] (List.take i l) → Rt p.fst) ∧ Ev.ok (l.getD (↑i : Int).toNat Elt.zero), ((addM (addsL [] (List.take i l)) (l.getD (↑i : Int).toNat Elt.zero)).fst != (addM (addsL [] (List.take i l)) (l.getD (↑i : Int).toNat Elt.zero)).fst) = false] .norm (by kernel_rfl) (by kernel_rfl) (by refine ⟨h1, h2, ?_, ?_, ?_, ?_, ?_, ?_, h3, trivial⟩ <;> (first | omega | exact ⟨hok.ok, hl _ (nthE_mem (by simpa using h1))⟩ | exact ⟨⟨Nat.le_trans hok.len (by omega), hok.ok, hok.rt⟩, hl _ (nthE_mem (by simpa using h1))⟩ | (simp at h1 ⊢; omega))) hF hst fun g1 w1 a1 hag1 hst1 hF1 hd1 => ?_
        have hlt : i < l.length := by simpa using h1
        have h40 : i < 40 := by simp at h2; omega
        have e1 : IntKind.i64.wrap ((i : Int) + 1) = ((i + 1 : Nat) : Int) := IntWalk.i64_in _ (by omega)
        have e2 := addsL_take [] l i hlt
        refine ⟨i + 1, ?_, by omega⟩
        exact next_inv (show i + 1 ≤ l.length ∧ i + 1 ≤ 40 from ⟨by omega, by omega⟩) hag hag1 (by kernel_rfl) hF1 hst1 (hd1.trans hd) (by kernel_rfl) (by (try dsimp only); rw [← e1]; kernel_rfl) (by (try dsimp only); rw [e2]; kernel_rfl)
      | true =>
        refine code_wp hmx (ro := none) TD [Dec.s (3005 : Nat) (14 : Nat) true, Dec.c (17 : Nat) true, Dec.c (32 : Nat) true] [decide ((↑i : Int) < (↑l.length : Int)) = true, decide ((↑i : Int) < (40 : Int)) = true, (0 : Int) ≤ (↑i : Int) ∧ (↑i : Int) < (↑l.length : Int), (↑i : Int).toNat < l.length, (∀ (p : Ev × Bool), p ∈ addsL [] (List.take i l) → p.fst.ok) ∧ Ev.ok (l.getD (↑i : Int).toNat Elt.zero), (0 : Int) ≤ (↑i : Int) ∧ (↑i : Int) < (↑l.length : Int), (↑i : Int).toNat < l.length, (List.length (addsL [] (List.take i l)) ≤ (1000 : Nat) ∧ (∀ (p : Ev × Bool), p ∈ addsL [] (List.take i l) → p.fst.ok) ∧ ∀ (p : Ev × Bool), p ∈ addsL [] (List.take i l) → Rt p.fst) ∧ Ev.ok (l.getD (↑i : Int).toNat Elt.zero), ((addM (addsL [] (List.take i l)) (l.getD (↑i : Int).toNat Elt.zero)).fst != (addM (addsL [] (List.take i l)) (l.getD (↑i : Int).toNat Elt.zero)).fst) = true] .ret (by kernel_rfl) (by kernel_rfl) (by refine ⟨h1, h2, ?_, ?_, ?_, ?_, ?_, ?_, h3, trivial⟩ <;> (first | omega | exact ⟨hok.ok, hl _ (nthE_mem (by simpa using h1))⟩ | exact ⟨⟨Nat.le_trans hok.len (by omega), hok.ok, hok.rt⟩, hl _ (nthE_mem (by simpa using h1))⟩ | (simp at h1 ⊢; omega))) hF hst fun g1 w1 a1 hag1 hst1 hF1 hd1 => ?_
        exact absurd h3 (by simp)

/-- As a callee. -/
def playE (args : List AV) (H : AH) : Option (AV × List (Nat × AO) × List AO × Option Prop) :=
  match args with
  | [.tv (.one (.sl h))] => match findSl H h 0 with
    | some (i, .aevs l) => cond (fewB H [i] [h] [(.abs 0 (.aevs l), 0)])
      (some (.tup [.one (.ptr H.length 0), .one (.ptr (H.length + 1) 0), .one (.rig (.bool true))], [], [.abs H.length (.book (plL l)), .abs (H.length + 1) (.rbook (plL l))], some (∀ e ∈ l, e.ok))) none
    | _ => none
  | _ => none

theorem playE_ok {args : List AV} {H : AH} {v : AV} {upd : List (Nat × AO)} {new : List AO} {pr : Option Prop} (he : playE args H = some (v, upd, new, pr)) (hp : Owed pr) (r : Gh) (W0 : Base) (w : World) (hst : St r H W0 w) (hsc : H.scB = true) :
    Calls Try.prog 13 (args.map (AV.conc r)).toArray w fun e w' => ∃ r', Agree H.length r r' ∧ e = .returned (v.conc r') ∧ St r' (moveH H upd new) W0 w' := by
  unfold playE at he
  split at he
  · rename_i h
    split at he
    · rename_i i l hf
      cases hc : fewB H [i] [h] [(.abs 0 (.aevs l), 0)] with
      | false => simp [hc] at he
      | true =>
        simp only [hc, cond_true, Option.some.injEq, Prod.mk.injEq] at he
        obtain ⟨rfl, rfl, rfl, rfl⟩ := he
        obtain ⟨_, g, hg⟩ := findSl_eq hf
        rw [Nat.sub_zero] at hg
        exact (playN hp.some).lift hst hsc [i] [h] hc (by simp [selH, renH, hg, AO.ren, pick]) (by kernel_rfl) (by kernel_rfl)
    · cases he
  · cases he

noncomputable def TE : CT Try.prog := TD.addE 13 playE (by kernel_rfl) fun _ _ _ _ _ _ he hp r W0 w hst _ hsc => playE_ok he hp r W0 w hst hsc

end Go.Proofs.Ytodcebpdmjdplaa

namespace Go.Proofs.Ytodcebpdmjdplaa
open Go.RowKit

theorem eq_8 (x0 x1 x2 x3 x4 x5 x6 x7 y0 y1 y2 y3 y4 y5 y6 y7 : Int) (d : Nat) (w : World) :
    (Op.equalIn (d + 2) 43 (.agg #[.int .u8 x0, .int .u8 x1, .int .u8 x2, .int .u8 x3, .int .u8 x4, .int .u8 x5, .int .u8 x6, .int .u8 x7])
      (.agg #[.int .u8 y0, .int .u8 y1, .int .u8 y2, .int .u8 y3, .int .u8 y4, .int .u8 y5, .int .u8 y6, .int .u8 y7])).run Try.prog w
      = .ok (x0 == y0 && x1 == y1 && x2 == y2 && x3 == y3 && x4 == y4 && x5 == y5 && x6 == y6 && x7 == y7) w := by
  have u3 := Try.underlying29
  have a3 := Try.isAgg29
  have z3 := Try.sizeOf29
  rw [show d + 2 = (d + 1) + 1 from rfl, Op.equalIn]
  simp only [Sem.run_bind, run_underlying Try.underlying43, Result.andThen_ok]
  simp only [Std.Legacy.Range.forIn_eq_forIn_range', Std.Legacy.Range.size, Nat.sub_zero, Nat.add_sub_cancel, Nat.div_one, List.range'_succ, List.range'_zero, List.forIn_cons, List.forIn_nil]
  go_simp
  by_cases h0 : x0 = y0 <;> simp [h0]
  by_cases h1 : x1 = y1 <;> simp [h1]
  by_cases h2 : x2 = y2 <;> simp [h2]
  by_cases h3 : x3 = y3 <;> simp [h3]
  by_cases h4 : x4 = y4 <;> simp [h4]
  by_cases h5 : x5 = y5 <;> simp [h5]
  by_cases h6 : x6 = y6 <;> simp [h6]
  by_cases h7 : x7 = y7 <;> simp [h7]

def Vec.cv8 (v : Vec) : List CV := [.rig (.int .u8 v.x0), .rig (.int .u8 v.x1), .rig (.int .u8 v.x2), .rig (.int .u8 v.x3), .rig (.int .u8 v.x4), .rig (.int .u8 v.x5), .rig (.int .u8 v.x6), .rig (.int .u8 v.x7)]
def r8Of : List CV → Option Vec
  | [.rig (.int .u8 a), .rig (.int .u8 b), .rig (.int .u8 c), .rig (.int .u8 d), .rig (.int .u8 e), .rig (.int .u8 f), .rig (.int .u8 g), .rig (.int .u8 h)] => some ⟨a, b, c, d, e, f, g, h⟩
  | _ => none
theorem r8Of_eq {l : List CV} {v : Vec} (h : r8Of l = some v) : l = v.cv8 := by
  unfold r8Of at h; split at h <;> simp at h; subst h; rfl

def eq8 (t : TypeId) (x y : AV) : Option Bool :=
  match x, y with
  | .tv (.agg l), .tv (.agg m) => cond (Nat.beq t 43) (match r8Of l, r8Of m with | some a, some b => some (decide (a = b)) | _, _ => none) none
  | _, _ => none

theorem eq8_run {t : TypeId} {x y : AV} {b : Bool} (h : eq8 t x y = some b) (r : Gh) (w : World) :
    (Op.equalIn 10000 t (x.conc r) (y.conc r)).run Try.prog w = .ok b w ∧ Try.prog.eqGuardType Try.prog.depth t = false ∧ ∃ xs ys, x.conc r = .agg xs ∧ y.conc r = .agg ys := by
  unfold eq8 at h
  split at h
  · cases h1 : Nat.beq t 43 with
    | true =>
      simp only [h1, cond_true] at h
      obtain rfl := Nat.eq_of_beq_eq_true h1
      split at h
      · rename_i a b' ha hb
        simp at h; subst h
        rw [r8Of_eq ha, r8Of_eq hb]
        refine ⟨?_, by kernel_rfl, _, _, rfl, rfl⟩
        have := eq_8 a.x0 a.x1 a.x2 a.x3 a.x4 a.x5 a.x6 a.x7 b'.x0 b'.x1 b'.x2 b'.x3 b'.x4 b'.x5 b'.x6 b'.x7 9998 w
        refine this.trans ?_
        congr 1
        rw [Bool.eq_iff_iff]
        obtain ⟨_, _, _, _, _, _, _, _⟩ := a
        obtain ⟨_, _, _, _, _, _, _, _⟩ := b'
        simp [and_assoc]
      · simp at h
    | false => simp [h1] at h
  · simp at h

def eq8Q (ev : Operand → AV) (_ : AH) (op : Op) : Option (AV × List Nat × Option Prop) :=
  match op with
  | .binOp .eql t x y _ => match eq8 t (ev x) (ev y) with
    | some b => some (.b b, [], none)
    | none => none
  | .binOp .neq t x y _ => match eq8 t (ev x) (ev y) with
    | some b => some (.b (!b), [], none)
    | none => none
  | _ => none

theorem eq8Q_run {ev : Operand → AV} {H : AH} {o : Oper} {v : AV} {ft : List Nat} {pr : Option Prop} (h : eq8Q ev H o.op = some (v, ft, pr))
    {ρ : Operand → Value} {r : Gh} {w : World} (hev : ∀ x ∈ o.op.operands, ρ x = (ev x).conc r) : (execOp ρ o).run Try.prog w = .ok (.value (v.conc r)) w := by
  unfold execOp
  cases ho : o.op <;> rw [ho] at h hev <;> simp only [eq8Q] at h <;> first | (cases h; done) | skip
  rename_i bo t x y yt
  have hx := hev x (by simp [Op.operands])
  have hy := hev y (by simp [Op.operands])
  cases bo <;> simp only at h <;> first | (cases h; done) | skip
  all_goals
    cases hb : eq8 t (ev x) (ev y) with
    | none => simp [hb] at h
    | some b =>
      simp [hb] at h
      obtain ⟨rfl, -⟩ := h
      obtain ⟨h1, h2, xs, ys, e1, e2⟩ := eq8_run hb r w
      simp only [hx, hy]
      rw [e1, e2] at h1 ⊢
      simp [run_eqGuard_agg (w := w) _ t x y xs ys h2, run_eql_struct, run_neq_struct, h1]
      rfl

noncomputable def TF : CT Try.prog := TE.addOq eq8Q fun _ _ _ _ _ _ h _ _ _ _ hev _ => eq8Q_run h hev

end Go.Proofs.Ytodcebpdmjdplaa

namespace Go.Proofs.Ytodcebpdmjdplaa
open Go.RowKit

def smH (l : List Ev) (L : Bk) (v : Vec) : AH := [(.abs 0 (.aevs l), 0), (.abs 1 (.book L), 0), (.abs 2 (.rbook L), 0), (.cells v.cvs 27, 1)]
noncomputable def smF (v : Vec) (i : Int) : AF := ((startF (fnOf Try.prog 22) [.c (.ptr 1 0), .c (.ptr 2 0), .c (.sl 0), v.av]).set 7 (.c (.ptr 3 0))).set 9 (.r (.int .i64 i))

theorem role_8 (L : Bk) (v : Vec) : roleM L 8 v = 0 := by simp [roleM]

theorem same_end {L : Bk} (hL : BkOk L 1000) {l : List Ev} {v : Vec} {i : Nat} {G : Nat → Value} {g : Gh} {B : Base} {a : Act} {w : World}
    (hF : FrameOk g (maskF [0, 1, 2, 7, 9] (smF v i) G) a) (hst : St g (smH l L v) B w) (hd : a.defers = []) :
    kont none 0 Try.prog (restAt 0 (fnLoop Try.prog 22 0).2) (bodyPost Try.prog (fnOf Try.prog 22) fun e w' => e = .returned (.bool true) ∧ ∃ g H, St g H B w') .normal a w := by
  cases h1 : ((↑(List.length L) : Int) == (↑(List.length L) : Int)) with
  | false =>
    refine list_wp hmx (ro := none) TF [Dec.s (6006 : Nat) (40 : Nat) false] [True, True, ((↑(List.length L) : Int) == (↑(List.length L) : Int)) = false] .ret (by kernel_rfl) (by kernel_rfl) (by refine ⟨?_, ?_, h1, trivial⟩ <;> (first | trivial | exact hL.ok | exact ⟨hL.len, hL.ok, hL.rt⟩)) hF hst fun g1 w1 a1 hag1 hst1 hF1 hd1 => ?_
    first
    | (simp at h1; done)
    | (simp at h2; done)
    | exact ret_fin (bodyPost_of (v := .b (roleM L 8 v == 0)) (by kernel_rfl) hF1 hst1 (hd1.trans hd) ⟨by rw [role_8]; rfl, _, _, hst1⟩).1
  | true =>
    cases h2 : (decide   (Vec.mk (roleM L (0 : Int) v) (roleM L (1 : Int) v) (roleM L (2 : Int) v) (roleM L (3 : Int) v) (roleM L (4 : Int) v)       (roleM L (5 : Int) v) (roleM L (6 : Int) v) (roleM L (7 : Int) v) =     Vec.mk (roleM L (0 : Int) v) (roleM L (1 : Int) v) (roleM L (2 : Int) v) (roleM L (3 : Int) v) (roleM L (4 : Int) v)       (roleM L (5 : Int) v) (roleM L (6 : Int) v) (roleM L (7 : Int) v))) with
    | false =>
      refine list_wp hmx (ro := none) TF [Dec.s (6006 : Nat) (40 : Nat) true, Dec.s (6015 : Nat) (49 : Nat) false] [True, True, ((↑(List.length L) : Int) == (↑(List.length L) : Int)) = true, ∀ (p : Ev × Bool), p ∈ L → p.fst.ok, List.length L ≤ (1000 : Nat) ∧ (∀ (p : Ev × Bool), p ∈ L → p.fst.ok) ∧ ∀ (p : Ev × Bool), p ∈ L → Rt p.fst, decide (Vec.mk (roleM L (0 : Int) v) (roleM L (1 : Int) v) (roleM L (2 : Int) v) (roleM L (3 : Int) v) (roleM L (4 : Int) v) (roleM L (5 : Int) v) (roleM L (6 : Int) v) (roleM L (7 : Int) v) = Vec.mk (roleM L (0 : Int) v) (roleM L (1 : Int) v) (roleM L (2 : Int) v) (roleM L (3 : Int) v) (roleM L (4 : Int) v) (roleM L (5 : Int) v) (roleM L (6 : Int) v) (roleM L (7 : Int) v)) = false] .ret (by kernel_rfl) (by kernel_rfl) (by refine ⟨?_, ?_, h1, ?_, ?_, h2, trivial⟩ <;> (first | trivial | exact hL.ok | exact ⟨hL.len, hL.ok, hL.rt⟩)) hF hst fun g1 w1 a1 hag1 hst1 hF1 hd1 => ?_
      first
      | (simp at h1; done)
      | (simp at h2; done)
      | exact ret_fin (bodyPost_of (v := .b (roleM L 8 v == 0)) (by kernel_rfl) hF1 hst1 (hd1.trans hd) ⟨by rw [role_8]; rfl, _, _, hst1⟩).1
    | true =>
      refine list_wp hmx (ro := none) TF [Dec.s (6006 : Nat) (40 : Nat) true, Dec.s (6015 : Nat) (49 : Nat) true] [True, True, ((↑(List.length L) : Int) == (↑(List.length L) : Int)) = true, ∀ (p : Ev × Bool), p ∈ L → p.fst.ok, List.length L ≤ (1000 : Nat) ∧ (∀ (p : Ev × Bool), p ∈ L → p.fst.ok) ∧ ∀ (p : Ev × Bool), p ∈ L → Rt p.fst, decide (Vec.mk (roleM L (0 : Int) v) (roleM L (1 : Int) v) (roleM L (2 : Int) v) (roleM L (3 : Int) v) (roleM L (4 : Int) v) (roleM L (5 : Int) v) (roleM L (6 : Int) v) (roleM L (7 : Int) v) = Vec.mk (roleM L (0 : Int) v) (roleM L (1 : Int) v) (roleM L (2 : Int) v) (roleM L (3 : Int) v) (roleM L (4 : Int) v) (roleM L (5 : Int) v) (roleM L (6 : Int) v) (roleM L (7 : Int) v)) = true, ∀ (p : Ev × Bool), p ∈ L → p.fst.ok] .ret (by kernel_rfl) (by kernel_rfl) (by refine ⟨?_, ?_, h1, ?_, ?_, h2, ?_, trivial⟩ <;> (first | trivial | exact hL.ok | exact ⟨hL.len, hL.ok, hL.rt⟩)) hF hst fun g1 w1 a1 hag1 hst1 hF1 hd1 => ?_
      first
      | (simp at h1; done)
      | (simp at h2; done)
      | exact ret_fin (bodyPost_of (v := .b (roleM L 8 v == 0)) (by kernel_rfl) hF1 hst1 (hd1.trans hd) ⟨by rw [role_8]; rfl, _, _, hst1⟩).1

theorem same_ctr {L : Bk} (hL : BkOk L 1000) (l : List Ev) (v : Vec) : CtrQ Try.prog 22 [.c (.ptr 1 0), .c (.ptr 2 0), .c (.sl 0), v.av] [(.abs 0 (.aevs l), 0), (.abs 1 (.book L), 0), (.abs 2 (.rbook L), 0)] (.b true) := by
  intro r w hst0
  suffices hh : Calls Try.prog 22 (([.c (.ptr 1 0), .c (.ptr 2 0), .c (.sl 0), v.av].map (AV.conc r)).toArray) w fun e w' => e = .returned (.bool true) ∧ ∃ g H, St g H (rd r w) w' from hh.mono fun e w' ⟨h1, g, H, h2⟩ => ⟨h1, h2.belowR⟩
  refine (callsFw (ro := none) (n := 0)).1 (callsInStart (fn := fnOf Try.prog 22) (c := bodyOf Try.prog 22) (by kernel_rfl) (by kernel_rfl) fun a0 hF0 hd0 => ?_)
  refine code_wp hmx TF [] [] (.loop (fnLoop Try.prog 22 0).1 (fnLoop Try.prog 22 0).2) (by kernel_rfl) (by kernel_rfl) trivial hF0 hst0 fun r2 w2 a2 hag2 hst2 hF2 hd2 => ?_
  refine loop_wp (σ := Nat) (n0 := 0) (g0 := r) (B := rd r w) (ds := []) [0, 1, 2, 7, 9] (fun i => smF v i) (fun i => smH l L v) (fun i => i ≤ l.length ∧ i ≤ 40) (fun i => l.length - i) 0
    (next_inv ⟨Nat.zero_le _, Nat.zero_le _⟩ (Agree.refl _ _) hag2 (by kernel_rfl) hF2 hst2 (hd2.trans hd0) (by kernel_rfl) (by kernel_rfl) (by kernel_rfl)) fun i g G a w1 hi hag hF hst hd => ?_
  obtain ⟨hi, hi40⟩ := hi
  cases h1 : (decide ((↑i : Int) < (↑l.length : Int))) with
  | false =>
    refine code_wp hmx (ro := none) TF [Dec.s (2005 : Nat) (14 : Nat) false] [decide ((↑i : Int) < (↑l.length : Int)) = false] (.exit 0) (by kernel_rfl) (by kernel_rfl) ⟨h1, trivial⟩ hF hst fun g1 w1 a1 hag1 hst1 hF1 hd1 => ?_
    refine exit_out (k' := restAt 0 (fnLoop Try.prog 22 0).2) (by kernel_rfl) ?_
    obtain ⟨-, g5, G5, hag5, hF5, hst5, hd5⟩ := next_inv (σ := Unit) (n0 := 0) (live := [0, 1, 2, 7, 9]) (F := fun _ => smF v i) (H := fun _ => smH l L v) (inv := fun _ => True) (s' := ()) trivial hag hag1 (by kernel_rfl) hF1 hst1 (hd1.trans hd) (by kernel_rfl) (by kernel_rfl) (by kernel_rfl)
    exact same_end hL hF5 hst5 hd5
  | true =>
    cases h2 : (decide ((↑i : Int) < (40 : Int))) with
    | false =>
      refine code_wp hmx (ro := none) TF [Dec.s (2005 : Nat) (14 : Nat) true, Dec.c (17 : Nat) false] [decide ((↑i : Int) < (↑l.length : Int)) = true, decide ((↑i : Int) < (40 : Int)) = false] (.exit 0) (by kernel_rfl) (by kernel_rfl) ⟨h1, h2, trivial⟩ hF hst fun g1 w1 a1 hag1 hst1 hF1 hd1 => ?_
      refine exit_out (k' := restAt 0 (fnLoop Try.prog 22 0).2) (by kernel_rfl) ?_
      obtain ⟨-, g5, G5, hag5, hF5, hst5, hd5⟩ := next_inv (σ := Unit) (n0 := 0) (live := [0, 1, 2, 7, 9]) (F := fun _ => smF v i) (H := fun _ => smH l L v) (inv := fun _ => True) (s' := ()) trivial hag hag1 (by kernel_rfl) hF1 hst1 (hd1.trans hd) (by kernel_rfl) (by kernel_rfl) (by kernel_rfl)
      exact same_end hL hF5 hst5 hd5
    | true =>
      cases h3 : (!(gotL L (l.getD (↑i : Int).toNat Elt.zero).d).snd == (gotL L (l.getD (↑i : Int).toNat Elt.zero).d).snd) with
      | false =>
        refine code_wp hmx (ro := none) TF [Dec.s (2005 : Nat) (14 : Nat) true, Dec.c (17 : Nat) true, Dec.c (34 : Nat) false] [decide ((↑i : Int) < (↑l.length : Int)) = true, decide ((↑i : Int) < (40 : Int)) = true, (0 : Int) ≤ (↑i : Int) ∧ (↑i : Int) < (↑l.length : Int), (↑i : Int).toNat < l.length, True, (0 : Int) ≤ (↑i : Int) ∧ (↑i : Int) < (↑l.length : Int), (↑i : Int).toNat < l.length, List.length L ≤ (1000 : Nat), (!(gotL L (l.getD (↑i : Int).toNat Elt.zero).d).snd == (gotL L (l.getD (↑i : Int).toNat Elt.zero).d).snd) = false] .norm (by kernel_rfl) (by kernel_rfl) (by refine ⟨h1, h2, ?_, ?_, ?_, ?_, ?_, ?_, h3, trivial⟩ <;> (first | trivial | exact hL.len | omega | (simp at h1 ⊢; omega))) hF hst fun g1 w1 a1 hag1 hst1 hF1 hd1 => ?_
        have hlt : i < l.length := by simpa using h1
        have h40 : i < 40 := by simp at h2; omega
        have e1 : IntKind.i64.wrap ((i : Int) + 1) = ((i + 1 : Nat) : Int) := IntWalk.i64_in _ (by omega)
        refine ⟨i + 1, ?_, by omega⟩
        exact next_inv (show i + 1 ≤ l.length ∧ i + 1 ≤ 40 from ⟨by omega, by omega⟩) hag hag1 (by kernel_rfl) hF1 hst1 (hd1.trans hd) (by kernel_rfl) (by (try dsimp only); rw [← e1]; kernel_rfl) (by kernel_rfl)
      | true =>
        refine code_wp hmx (ro := none) TF [Dec.s (2005 : Nat) (14 : Nat) true, Dec.c (17 : Nat) true, Dec.c (34 : Nat) true] [decide ((↑i : Int) < (↑l.length : Int)) = true, decide ((↑i : Int) < (40 : Int)) = true, (0 : Int) ≤ (↑i : Int) ∧ (↑i : Int) < (↑l.length : Int), (↑i : Int).toNat < l.length, True, (0 : Int) ≤ (↑i : Int) ∧ (↑i : Int) < (↑l.length : Int), (↑i : Int).toNat < l.length, List.length L ≤ (1000 : Nat), (!(gotL L (l.getD (↑i : Int).toNat Elt.zero).d).snd == (gotL L (l.getD (↑i : Int).toNat Elt.zero).d).snd) = true] .ret (by kernel_rfl) (by kernel_rfl) (by refine ⟨h1, h2, ?_, ?_, ?_, ?_, ?_, ?_, h3, trivial⟩ <;> (first | trivial | exact hL.len | omega | (simp at h1 ⊢; omega))) hF hst fun g1 w1 a1 hag1 hst1 hF1 hd1 => ?_
        exact absurd h3 (by simp)

/-- As a callee. -/
def sameQ (args : List AV) (H : AH) : Option (AV × List Nat × Option Prop) :=
  match args with
  | [.tv (.one (.ptr i 0)), .tv (.one (.ptr j 0)), .tv (.one (.sl h)), .tv (.agg u)] => match vecOf u, H[i]?, H[j]?, findSl H h 0 with
    | some _, some (.abs h1 (.book L), _), some (.abs h2 (.rbook L'), _), some (k, .aevs l) => cond (fewB H [k, i, j] [h, h1, h2] [(.abs 0 (.aevs l), 0), (.abs 1 (.book L), 0), (.abs 2 (.rbook L'), 0)])
      (some (.b true, [k, i, j], some (L' = L ∧ BkOk L 1000))) none
    | _, _, _, _ => none
  | _ => none

theorem sameQ_ok {args : List AV} {H : AH} {v : AV} {ft : List Nat} {pr : Option Prop} (he : sameQ args H = some (v, ft, pr)) (hp : Owed pr) (r : Gh) (w : World) (hat : At r H ft w) :
    Calls Try.prog 22 (args.map (AV.conc r)).toArray w fun e w' => e = .returned (v.conc r) ∧ Below w.heap.size w w' := by
  unfold sameQ at he
  split at he
  · rename_i i j h u
    split at he
    · rename_i vv h1 L g1 h2 L' g2 k l hv hi hj hk
      cases hc : fewB H [k, i, j] [h, h1, h2] [(.abs 0 (.aevs l), 0), (.abs 1 (.book L), 0), (.abs 2 (.rbook L'), 0)] with
      | false => simp [hc] at he
      | true =>
        simp only [hc, cond_true, Option.some.injEq, Prod.mk.injEq] at he
        obtain ⟨rfl, rfl, rfl⟩ := he
        obtain ⟨rfl, hL⟩ := hp.some
        obtain ⟨_, g, hg⟩ := findSl_eq hk
        rw [Nat.sub_zero] at hg
        have hl := (same_ctr hL l vv).lift hat [k, i, j] [h, h1, h2] hc (by simp [selH, renH, hi, hj, hg, AO.ren, pick]) (by kernel_rfl) (fun _ h => h) (by kernel_rfl)
        rw [vecOf_eq hv]
        exact hl
    · cases he
  · cases he

noncomputable def TG : CT Try.prog := TF.orQ 22 sameQ (by kernel_rfl) fun _ _ _ _ _ he hp r w hat => sameQ_ok he hp r w hat

end Go.Proofs.Ytodcebpdmjdplaa

namespace Go.Proofs.Ytodcebpdmjdplaa
open Go.RowKit

def liveQ (args : List AV) (_ : AH) : Option (AV × List Nat × Option Prop) := match args with | [] => some (.b true, [], none) | _ => none
theorem liveQ_ok {args : List AV} {H : AH} {v : AV} {ft : List Nat} {pr : Option Prop} (he : liveQ args H = some (v, ft, pr)) (r : Gh) (w : World) :
    Calls Try.prog 14 (args.map (AV.conc r)).toArray w fun e w' => e = .returned (v.conc r) ∧ Below w.heap.size w w' := by
  unfold liveQ at he
  split at he
  · cases he; exact live_run r w
  · cases he

noncomputable def TH : CT Try.prog := TG.orQ 14 liveQ (by kernel_rfl) fun _ _ _ _ _ he _ r w _ => liveQ_ok he r w

end Go.Proofs.Ytodcebpdmjdplaa
