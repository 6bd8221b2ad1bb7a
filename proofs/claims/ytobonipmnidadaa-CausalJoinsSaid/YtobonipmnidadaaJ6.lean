/- The executor, nineteenth part: a contract at few objects is one at many; objects taken apart and put together. The executor, twentieth part: an object taken apart, and put together; contracts of methods. -/
import Derived.Test.YtobonipmnidadaaJ5
namespace Go.Proofs.Ytobonipmnidadaa
open Go.RowKit
variable {P : Program} {T : CT P}

def CV.ren (f fs : Nat → Nat) : CV → CV
  | .rig v => .rig v
  | .ptr i o => .ptr (f i) o
  | .slc i o n c => .slc (f i) o n c
  | .mp i => .mp (f i)
  | .clo g caps => .clo g (caps.map fun p => (f p.1, p.2))
  | .sl h => .sl (fs h)
  | .el h i z o => .el (fs h) i z o
def TV.ren (f fs : Nat → Nat) : TV → TV
  | .one c => .one (c.ren f fs)
  | .agg l => .agg (l.map (CV.ren f fs))
def AV.ren (f fs : Nat → Nat) : AV → AV
  | .tv t => .tv (t.ren f fs)
  | .tup l => .tup (l.map (TV.ren f fs))
def AO.ren (f fs : Nat → Nat) : AO → AO
  | .cells cs t => .cells (cs.map (CV.ren f fs)) t
  | .raw o => .raw o
  | .abs h x => .abs (fs h) x
  | .hand => .hand

/-- Numbers that stand for others. -/
structure RenOk (n : Nat) (f fs : Nat → Nat) (r r1 : Gh) : Prop where
  b : ∀ j, j < n → r.b (f j) = r1.b j
  s : ∀ j, j < n → r.s (fs j) = r1.s j

theorem CV.ren_conc {n : Nat} {f fs : Nat → Nat} {r r1 : Gh} (h : RenOk n f fs r r1) {c : CV} (hc : c.sc n = true) : (c.ren f fs).conc r = c.conc r1 := by
  cases c with
  | rig v => rfl
  | ptr i o => simp only [CV.sc, Nat.blt_eq] at hc; simp [CV.ren, CV.conc, h.b i hc]
  | slc i o n c => simp only [CV.sc, Nat.blt_eq] at hc; simp [CV.ren, CV.conc, h.b i hc]
  | mp i => simp only [CV.sc, Nat.blt_eq] at hc; simp [CV.ren, CV.conc, h.b i hc]
  | clo g caps =>
    simp only [CV.sc, List.all_eq_true, Nat.blt_eq] at hc
    simp only [CV.ren, CV.conc, List.map_map]
    congr 2
    exact List.map_congr_left fun p hp => by simp [h.b p.1 (hc p hp)]
  | sl i => simp only [CV.sc, Nat.blt_eq] at hc; simp [CV.ren, CV.conc, h.s i hc]
  | el i k z o => simp only [CV.sc, Nat.blt_eq] at hc; simp [CV.ren, CV.conc, h.s i hc]
theorem CV.ren_concs {n : Nat} {f fs : Nat → Nat} {r r1 : Gh} (h : RenOk n f fs r r1) {l : List CV} (hl : l.all (CV.sc n) = true) : (l.map (CV.ren f fs)).map (CV.conc r) = l.map (CV.conc r1) := by
  rw [List.map_map]
  exact List.map_congr_left fun c hc => CV.ren_conc h (List.all_eq_true.1 hl c hc)
theorem TV.ren_conc {n : Nat} {f fs : Nat → Nat} {r r1 : Gh} (h : RenOk n f fs r r1) {t : TV} (ht : t.sc n = true) : (t.ren f fs).conc r = t.conc r1 := by
  cases t with
  | one c => exact CV.ren_conc h (by simpa [TV.sc, TV.cells] using ht)
  | agg l => simp only [TV.ren, TV.conc]; rw [CV.ren_concs h (by simpa [TV.sc, TV.cells] using ht)]
theorem AV.ren_conc {n : Nat} {f fs : Nat → Nat} {r r1 : Gh} (h : RenOk n f fs r r1) {v : AV} (hv : v.sc n = true) : (v.ren f fs).conc r = v.conc r1 := by
  cases v with
  | tv t => exact TV.ren_conc h hv
  | tup l =>
    simp only [AV.ren, AV.conc, List.map_map]
    congr 2
    exact List.map_congr_left fun t ht => TV.ren_conc h (List.all_eq_true.1 hv t ht)
theorem args_ren {n : Nat} {f fs : Nat → Nat} {r r1 : Gh} (h : RenOk n f fs r r1) {l : List AV} (hl : l.all (AV.sc n) = true) : ((l.map (AV.ren f fs)).map (AV.conc r)).toArray = (l.map (AV.conc r1)).toArray := by
  rw [List.map_map]
  congr 1
  exact List.map_congr_left fun c hc => AV.ren_conc h (List.all_eq_true.1 hl c hc)

theorem CV.ren_congr {n : Nat} {f f' fs fs' : Nat → Nat} (h : ∀ j, j < n → f j = f' j) (h' : ∀ j, j < n → fs j = fs' j) {c : CV} (hc : c.sc n = true) : c.ren f fs = c.ren f' fs' := by
  cases c with
  | rig v => rfl
  | ptr i o => simp only [CV.sc, Nat.blt_eq] at hc; simp [CV.ren, h i hc]
  | slc i o n c => simp only [CV.sc, Nat.blt_eq] at hc; simp [CV.ren, h i hc]
  | mp i => simp only [CV.sc, Nat.blt_eq] at hc; simp [CV.ren, h i hc]
  | clo g caps =>
    simp only [CV.sc, List.all_eq_true, Nat.blt_eq] at hc
    simp only [CV.ren]
    congr 1
    exact List.map_congr_left fun p hp => by simp [h p.1 (hc p hp)]
  | sl i => simp only [CV.sc, Nat.blt_eq] at hc; simp [CV.ren, h' i hc]
  | el i k z o => simp only [CV.sc, Nat.blt_eq] at hc; simp [CV.ren, h' i hc]
theorem AO.ren_congr {n : Nat} {f f' fs fs' : Nat → Nat} (h : ∀ j, j < n → f j = f' j) (h' : ∀ j, j < n → fs j = fs' j) {o : AO} (ho : o.sc n = true) : o.ren f fs = o.ren f' fs' := by
  cases o with
  | cells cs t =>
    simp only [AO.ren]
    congr 1
    exact List.map_congr_left fun c hc => CV.ren_congr h h' (List.all_eq_true.1 ho c hc)
  | raw o => rfl
  | abs i x => simp only [AO.sc, Nat.blt_eq] at ho; simp [AO.ren, h' i ho]
  | hand => rfl

theorem AO.ren_holds {n : Nat} {f fs : Nat → Nat} {r r1 : Gh} (h : RenOk n f fs r r1) {o : AO} (ho : o.sc n = true) {k : Nat} (hk : k < n) {w : World} (hown : ∀ b, r.o b = some (f k) ↔ r1.o b = some k) (him : ∀ b, r1.im b → r.im b) (hh : o.holds r1 w k) : (o.ren f fs).holds r w (f k) := by
  cases o with
  | cells cs t =>
    refine ⟨?_, fun b => (hown b).trans ?_⟩
    · rw [h.b k hk, CV.ren_concs h ho]; exact hh.1
    · rw [h.b k hk]; exact hh.2 b
  | raw o =>
    refine ⟨?_, fun b => (hown b).trans ?_⟩
    · rw [h.b k hk]; exact hh.1
    · rw [h.b k hk]; exact hh.2 b
  | abs i x =>
    simp only [AO.ren, AO.holds]
    rw [h.b k hk, h.s i (by simpa [AO.sc] using ho)]
    exact Rp.local hh (fun _ hb => (hown _).2 hb) him fun _ _ => rfl
  | hand => exact fun b hb => hh b ((hown b).1 hb)

theorem AO.holds_ren {n : Nat} {f fs : Nat → Nat} {r r1 : Gh} (h : RenOk n f fs r r1) {o : AO} (ho : o.sc n = true) {k : Nat} (hk : k < n) {w : World} (hown : ∀ b, r.o b = some (f k) ↔ r1.o b = some k) (him : ∀ b, r.im b → r1.im b) (hh : (o.ren f fs).holds r w (f k)) : o.holds r1 w k := by
  cases o with
  | cells cs t =>
    refine ⟨?_, fun b => (hown b).symm.trans ?_⟩
    · have := hh.1; rw [h.b k hk, CV.ren_concs h ho] at this; exact this
    · rw [← h.b k hk]; exact hh.2 b
  | raw o =>
    refine ⟨?_, fun b => (hown b).symm.trans ?_⟩
    · have := hh.1; rw [h.b k hk] at this; exact this
    · rw [← h.b k hk]; exact hh.2 b
  | abs i x =>
    simp only [AO.ren, AO.holds] at hh
    rw [h.b k hk, h.s i (by simpa [AO.sc] using ho)] at hh
    exact Rp.local hh (fun _ hb => (hown _).1 hb) him fun _ _ => rfl
  | hand => exact fun b hb => hh b ((hown b).2 hb)

/-! ### Few of many -/
/-- The numbers of a list. -/
def pick (l : List Nat) (k : Nat) : Nat := l.getD k 0
/-- The place of a number. -/
def idx : List Nat → Nat → Option Nat
  | [], _ => none
  | a :: l, j => cond (Nat.beq a j) (some 0) ((idx l j).map (· + 1))
def nodupB : List Nat → Bool
  | [] => true
  | a :: l => l.all (fun b => !Nat.beq a b) && nodupB l

theorem idx_some {l : List Nat} {j k : Nat} (h : idx l j = some k) : l[k]? = some j := by
  induction l generalizing k with
  | nil => cases h
  | cons a l ih =>
    unfold idx at h
    cases hb : Nat.beq a j with
    | true => rw [hb] at h; cases h; simp [Nat.eq_of_beq_eq_true hb]
    | false =>
      rw [hb] at h
      simp only [cond_false] at h
      cases hi : idx l j with
      | none => simp [hi] at h
      | some k' => simp [hi] at h; subst h; simpa using ih hi
theorem idx_of {l : List Nat} (hn : nodupB l = true) {j k : Nat} (h : l[k]? = some j) : idx l j = some k := by
  induction l generalizing k with
  | nil => simp at h
  | cons a l ih =>
    simp only [nodupB, Bool.and_eq_true] at hn
    unfold idx
    cases k with
    | zero => simp at h; subst h; simp
    | succ k =>
      simp only [List.getElem?_cons_succ] at h
      have : Nat.beq a j = false := by simpa using List.all_eq_true.1 hn.1 j (List.mem_of_getElem? h)
      rw [this, ih hn.2 h]; rfl
theorem pick_at {l : List Nat} {k j : Nat} (h : l[k]? = some j) : pick l k = j := by simp [pick, List.getD_eq_getElem?_getD, h]
theorem at_pick {l : List Nat} {k : Nat} (h : k < l.length) : l[k]? = some (pick l k) := by simp [pick, List.getD_eq_getElem?_getD, h]
theorem idx_none {l : List Nat} {j : Nat} (h : idx l j = none) : j ∉ l := fun hm => by
  induction l with
  | nil => cases hm
  | cons a l ih =>
    unfold idx at h
    cases hb : Nat.beq a j with
    | true => rw [hb] at h; cases h
    | false =>
      rw [hb] at h
      simp only [cond_false, Option.map_eq_none_iff] at h
      rcases List.mem_cons.1 hm with e | e
      · subst e; simp at hb
      · exact ih h e

def subG (r : Gh) (l ls : List Nat) : Gh := ⟨fun i => r.b (pick l i), fun i => r.s (pick ls i), fun b => match r.o b with | some j => idx l j | none => none, r.im⟩
theorem subG_ok (r : Gh) (l ls : List Nat) (n : Nat) : RenOk n (pick l) (pick ls) r (subG r l ls) := ⟨fun _ _ => rfl, fun _ _ => rfl⟩
theorem subG_own {r : Gh} {l ls : List Nat} (hn : nodupB l = true) {b k : Nat} : (subG r l ls).o b = some k ↔ k < l.length ∧ r.o b = some (pick l k) := by
  unfold subG
  simp only
  cases ho : r.o b with
  | none => simp
  | some j =>
    simp only [Option.some.injEq]
    constructor
    · intro h
      have := idx_some h
      exact ⟨(List.getElem?_eq_some_iff.1 this).1, (pick_at this).symm⟩
    · rintro ⟨h, rfl⟩
      exact idx_of hn (at_pick h)

/-- These are there, by other numbers; what is to be written may be. -/
def hasIds (H : AH) (l ls : List Nat) (Hs : AH) : Prop := ∀ (i : Nat) (x : AO × Nat), Hs[i]? = some x → ∃ g, H[pick l i]? = some (x.1.ren (pick l) (pick ls), g) ∧ (x.2 ≠ 0 → g ≠ 0)

theorem St.subHold {r : Gh} {H : AH} {W0 : Base} {w : World} (hst : St r H W0 w) {l ls : List Nat} {Hs : AH} (hn : nodupB l = true) (hlen : Nat.beq l.length Hs.length = true) (hsc : Hs.scB = true) (hs : hasIds H l ls Hs) : ObjsOk (subG r l ls) Hs w := by
  have hlen := Nat.eq_of_beq_eq_true hlen
  refine ⟨fun i x hx => ?_, fun b i hb => ?_, fun b hb => ?_, hst.hold.imc⟩
  · have hi := (List.getElem?_eq_some_iff.1 hx).1
    obtain ⟨g, hg, -⟩ := hs i x hx
    exact AO.holds_ren (subG_ok r l ls Hs.length) (List.all_eq_true.1 hsc x (List.mem_of_getElem? hx)) hi (fun b => by rw [subG_own hn]; exact ⟨fun h => ⟨by omega, h⟩, fun h => h.2⟩) (fun _ h => h) (hst.at_ _ _ hg)
  · obtain ⟨h1, h2⟩ := (subG_own hn).1 hb
    exact ⟨by omega, (hst.hold.ow b _ h2).2⟩
  · have := hst.hold.imm b hb
    refine ⟨?_, this.2⟩
    show (match r.o b with | some j => idx l j | none => none) = none
    rw [this.1]

theorem St.sub {r : Gh} {H : AH} {W0 : Base} {w : World} (hst : St r H W0 w) (l ls : List Nat) (Hs : AH) (hn : nodupB l = true) (hlen : Nat.beq l.length Hs.length = true) (hsc : Hs.scB = true) (hs : hasIds H l ls Hs) : St (subG r l ls) Hs (base (subG r l ls) Hs w) w :=
  ⟨hst.subHold hn hlen hsc hs, fun _ i x hb hx hf => .inr ⟨i, x, hb, hx, hf⟩, fun _ _ hb => .inr (.inr hb), fun _ hb => hb, fun _ hb => .inl hb, rfl, rfl, rfl, Nat.le_refl _, fun _ _ _ => rfl⟩

/-- What may be written, or has the number that it had. -/
def viewB : Nat → List Nat → AH → Bool
  | i, j :: l, x :: Hs => (!Nat.beq x.2 0 || Nat.beq j i) && viewB (i + 1) l Hs
  | _, _, _ => true
theorem viewB_at : ∀ (l : List Nat) (Hs : AH) (k i : Nat) (x : AO × Nat) (j : Nat), viewB k l Hs = true → Hs[i]? = some x → l[i]? = some j → x.2 ≠ 0 ∨ j = k + i
  | [], _, _, _, _, _, _, _, hl => by simp at hl
  | _ :: _, [], _, _, _, _, _, hx, _ => by simp at hx
  | a :: l, z :: Hs, k, 0, x, j, h, hx, hl => by
    simp only [viewB, Bool.and_eq_true, Bool.or_eq_true] at h
    simp at hx hl
    subst hx; subst hl
    rcases h.1 with h | h
    · left; intro e; rw [e] at h; simp at h
    · right; exact Nat.eq_of_beq_eq_true h
  | a :: l, z :: Hs, k, i + 1, x, j, h, hx, hl => by
    simp only [viewB, Bool.and_eq_true] at h
    have := viewB_at l Hs (k + 1) i x j h.2 (by simpa using hx) (by simpa using hl)
    rcases this with h | h
    · exact .inl h
    · right; omega

/-- The same, from where the run began. -/
theorem St.subW {r : Gh} {H : AH} {W0 : Base} {w : World} (hst : St r H W0 w) (l ls : List Nat) (Hs : AH) (hn : nodupB l = true) (hlen : Nat.beq l.length Hs.length = true) (hsc : Hs.scB = true) (hs : hasIds H l ls Hs) (hf : viewB 0 l Hs = true) : St (subG r l ls) Hs W0 w := by
  have hlen' := Nat.eq_of_beq_eq_true hlen
  have key : ∀ b i x, (subG r l ls).o b = some i → Hs[i]? = some x → x.2 ≠ 0 → W0.w.heap.size ≤ b ∨ W0.Z b := fun b i x hb hx hf => by
    obtain ⟨h1, h2⟩ := (subG_own hn).1 hb
    obtain ⟨g, hg, hw⟩ := hs i x hx
    exact hst.wr b _ _ h2 hg (hw hf)
  refine ⟨hst.subHold hn hlen hsc hs, key, fun b i hb => ?_, hst.im0, hst.im1, hst.os, hst.tape, hst.output, hst.size, hst.frame⟩
  obtain ⟨h1, h2⟩ := (subG_own hn).1 hb
  obtain ⟨x, hx⟩ : ∃ x, Hs[i]? = some x := ⟨Hs[i]'(by omega), List.getElem?_eq_getElem _⟩
  rcases viewB_at l Hs 0 i x _ hf hx (at_pick h1) with h | h
  · exact (key b i x hb hx h).elim .inl fun h => .inr (.inl h)
  · rw [Nat.zero_add] at h
    rw [h] at h2; exact hst.ob b i h2

/-! ### Back among the many -/
/-- Where an object of the few stands among the many: those that were, the new ones behind. -/
def outF (l : List Nat) (n k : Nat) : Nat := cond (Nat.blt k l.length) (pick l k) (n + (k - l.length))
/-- What has become of those that might be written, and the new ones. -/
def outU (l ls : List Nat) (n : Nat) : List Nat → AH → AH → List (Nat × AO)
  | j :: js, x :: Hs, y :: Hs' => cond (Nat.beq x.2 0) (outU l ls n js Hs Hs') ((j, y.1.ren (outF l n) (outF ls n)) :: outU l ls n js Hs Hs')
  | _, _, _ => []
def outN (l ls : List Nat) (n : Nat) (Hs' : AH) : List AO := (Hs'.drop l.length).map fun x => x.1.ren (outF l n) (outF ls n)
/-- What is only read is as it was. -/
def keepsB : AH → AH → Prop
  | [], _ => True
  | _ :: _, [] => False
  | x :: Hs, y :: Hs' => (x.2 = 0 → y.1 = x.1) ∧ keepsB Hs Hs'

theorem keepsB_at {Hs Hs' : AH} (h : keepsB Hs Hs') {k : Nat} {x : AO × Nat} (hx : Hs[k]? = some x) : ∃ y, Hs'[k]? = some y ∧ (x.2 = 0 → y.1 = x.1) := by
  induction Hs generalizing Hs' k with
  | nil => simp at hx
  | cons z Hs ih =>
    cases Hs' with
    | nil => exact h.elim
    | cons y Hs' =>
      cases k with
      | zero => simp at hx; subst hx; exact ⟨y, rfl, h.1⟩
      | succ k => simpa using ih h.2 (by simpa using hx)

theorem outU_at {l ls : List Nat} {n : Nat} {js : List Nat} {Hs Hs' : AH} (hn : nodupB js = true) {i : Nat} {o : AO} (h : updAt (outU l ls n js Hs Hs') i = some o) : ∃ (k : Nat) (x y : AO × Nat), js[k]? = some i ∧ Hs[k]? = some x ∧ Hs'[k]? = some y ∧ x.2 ≠ 0 ∧ o = y.1.ren (outF l n) (outF ls n) := by
  induction js generalizing Hs Hs' with
  | nil => simp [outU, updAt] at h
  | cons j js ih =>
    simp only [nodupB, Bool.and_eq_true] at hn
    cases Hs with
    | nil => simp [outU, updAt] at h
    | cons x Hs =>
      cases Hs' with
      | nil => simp [outU, updAt] at h
      | cons y Hs' =>
        unfold outU at h
        cases hb : Nat.beq x.2 0 with
        | true =>
          rw [hb] at h
          obtain ⟨k, x', y', h1, h2, h3, h4⟩ := ih hn.2 h
          exact ⟨k + 1, x', y', by simpa using h1, by simpa using h2, by simpa using h3, h4⟩
        | false =>
          rw [hb] at h
          simp only [cond_false, updAt] at h
          cases hj : Nat.beq j i with
          | true =>
            rw [hj] at h
            cases h
            exact ⟨0, x, y, by simp [Nat.eq_of_beq_eq_true hj], rfl, rfl, by intro e; rw [e] at hb; simp at hb, rfl⟩
          | false =>
            rw [hj] at h
            obtain ⟨k, x', y', h1, h2, h3, h4⟩ := ih hn.2 h
            exact ⟨k + 1, x', y', by simpa using h1, by simpa using h2, by simpa using h3, h4⟩

theorem outU_none {l ls : List Nat} {n : Nat} {js : List Nat} {Hs Hs' : AH} (hk : keepsB Hs Hs') (hl : js.length = Hs.length) {i : Nat} (h : updAt (outU l ls n js Hs Hs') i = none) : ∀ (k : Nat), js[k]? = some i → ∃ x : AO × Nat, Hs[k]? = some x ∧ x.2 = 0 := by
  induction js generalizing Hs Hs' with
  | nil => intro k hk'; simp at hk'
  | cons j js ih =>
    cases Hs with
    | nil => simp at hl
    | cons x Hs =>
      cases Hs' with
      | nil => exact hk.elim
      | cons y Hs' =>
        intro k hk'
        unfold outU at h
        cases hb : Nat.beq x.2 0 with
        | true =>
          rw [hb] at h
          cases k with
          | zero => exact ⟨x, rfl, Nat.eq_of_beq_eq_true hb⟩
          | succ k => simpa using ih hk.2 (by simpa using hl) h k (by simpa using hk')
        | false =>
          rw [hb] at h
          simp only [cond_false, updAt] at h
          cases hj : Nat.beq j i with
          | true => rw [hj] at h; cases h
          | false =>
            rw [hj] at h
            cases k with
            | zero => simp at hk'; subst hk'; simp at hj
            | succ k => simpa using ih hk.2 (by simpa using hl) h k (by simpa using hk')

theorem outF_lt {l : List Nat} {n k : Nat} (h : k < l.length) : outF l n k = pick l k := by
  have : Nat.blt k l.length = true := by rw [Nat.blt_eq]; exact h
  simp [outF, this]
theorem outF_ge {l : List Nat} {n k : Nat} (h : ¬ k < l.length) : outF l n k = n + (k - l.length) := by
  have : Nat.blt k l.length = false := by rw [← Bool.not_eq_true, Nat.blt_eq]; exact h
  simp [outF, this]

set_option maxHeartbeats 1000000 in
theorem St.join {r r1 : Gh} {H Hs Hs' : AH} {W0 : Base} {w w' : World} (hst : St r H W0 w) (hscH : H.scB = true) (l ls : List Nat) (hn : nodupB l = true) (hlen : Nat.beq l.length Hs.length = true) (hlens : Nat.beq ls.length Hs.length = true)
    (hlt : l.all (fun j => Nat.blt j H.length) = true) (hlts : ls.all (fun j => Nat.blt j H.length) = true) (hsc0 : Hs.scB = true) (hs : hasIds H l ls Hs) (hsc : Hs'.scB = true) (hk : keepsB Hs Hs')
    (hag : Agree Hs.length (subG r l ls) r1) (h1 : St r1 Hs' (base (subG r l ls) Hs w) w') :
    ∃ r', Agree H.length r r' ∧ RenOk Hs'.length (outF l H.length) (outF ls H.length) r' r1 ∧ St r' (moveH H (outU l ls H.length l Hs Hs') (outN l ls H.length Hs')) W0 w' := by
  have hlen := Nat.eq_of_beq_eq_true hlen
  have hlens := Nat.eq_of_beq_eq_true hlens
  have hltp : ∀ k, k < l.length → pick l k < H.length := fun k hk => by
    have := List.all_eq_true.1 hlt _ (List.mem_of_getElem? (at_pick hk)); simpa using this
  have hltps : ∀ k, k < ls.length → pick ls k < H.length := fun k hk => by
    have := List.all_eq_true.1 hlts _ (List.mem_of_getElem? (at_pick hk)); simpa using this
  generalize hN : H.length = n at *
  have hinj : ∀ i k, outF l n i = outF l n k → i = k := fun i k e => by
    by_cases h2 : i < l.length <;> by_cases h3 : k < l.length
    · rw [outF_lt h2, outF_lt h3] at e
      have h4 := idx_of hn (at_pick h2)
      have h5 := idx_of hn (at_pick h3)
      rw [e, h5] at h4; exact (Option.some.inj h4).symm
    · rw [outF_lt h2, outF_ge h3] at e; have := hltp i h2; omega
    · rw [outF_ge h2, outF_lt h3] at e; have := hltp k h3; omega
    · rw [outF_ge h2, outF_ge h3] at e; omega
  let r' : Gh := ⟨fun j => if j < n then r.b j else r1.b (l.length + (j - n)), fun j => if j < n then r.s j else r1.s (l.length + (j - n)),
    fun b => match r1.o b with | some k => some (outF l n k) | none => (match r.o b with | some j => (match idx l j with | some _ => none | none => some j) | none => none), r1.im⟩
  have hren : RenOk Hs'.length (outF l n) (outF ls n) r' r1 := ⟨fun j hj => by
      show (if outF l n j < n then r.b (outF l n j) else r1.b (l.length + (outF l n j - n))) = r1.b j
      by_cases h2 : j < l.length
      · rw [outF_lt h2, if_pos (hltp j h2)]
        exact (hag.b j (by omega)).symm
      · rw [outF_ge h2, if_neg (by omega)]
        congr 1; omega, fun j hj => by
      show (if outF ls n j < n then r.s (outF ls n j) else r1.s (l.length + (outF ls n j - n))) = r1.s j
      by_cases h2 : j < ls.length
      · rw [outF_lt h2, if_pos (hltps j h2)]
        exact (hag.s j (by omega)).symm
      · rw [outF_ge h2, if_neg (by omega)]
        congr 1; omega⟩
  have hagO : Agree n r r' := ⟨fun i hi => if_pos hi, fun i hi => if_pos hi⟩
  -- who owns what
  have hold : ∀ b k, r1.o b = some k → w.heap.size ≤ b ∨ (∃ j, j < l.length ∧ r.o b = some (pick l j) ∧ ((∃ x, Hs[j]? = some x ∧ x.2 ≠ 0) ∨ j = k)) := fun b k hb => by
    rcases h1.ob b k hb with h2 | ⟨i, x, h2, h3, h4⟩ | h2
    · exact .inl h2
    · obtain ⟨h5, h6⟩ := (subG_own hn).1 h2
      exact .inr ⟨i, h5, h6, .inl ⟨x, h3, h4⟩⟩
    · obtain ⟨h5, h6⟩ := (subG_own hn).1 h2
      exact .inr ⟨k, h5, h6, .inr rfl⟩
  have hro : ∀ b i, r'.o b = some i ↔ (∃ k, r1.o b = some k ∧ i = outF l n k) ∨ (r1.o b = none ∧ r.o b = some i ∧ i ∉ l) := fun b i => by
    show (match r1.o b with | some k => some (outF l n k) | none => (match r.o b with | some j => (match idx l j with | some _ => none | none => some j) | none => none)) = some i ↔ _
    cases hb : r1.o b with
    | some k =>
      simp only [Option.some.injEq]
      constructor
      · intro e; exact .inl ⟨k, rfl, e.symm⟩
      · rintro (⟨k', h2, h3⟩ | ⟨h2, _⟩)
        · cases h2; exact h3.symm
        · cases h2
    | none =>
      simp only [reduceCtorEq, false_and, exists_false, false_or, true_and]
      cases ho : r.o b with
      | none => simp
      | some j =>
        simp only [Option.some.injEq]
        cases hi : idx l j with
        | some k =>
          simp only [reduceCtorEq, false_iff, not_and, Decidable.not_not]
          rintro rfl; exact List.mem_of_getElem? (idx_some hi)
        | none =>
          simp only [Option.some.injEq]
          constructor
          · rintro rfl; exact ⟨rfl, idx_none hi⟩
          · exact fun h => h.1
  have hmem : ∀ i, i ∈ l → ∃ k, k < l.length ∧ pick l k = i := fun i hi => by
    obtain ⟨k, hk⟩ := List.mem_iff_getElem?.1 hi
    exact ⟨k, (List.getElem?_eq_some_iff.1 hk).1, pick_at hk⟩
  have hownk : ∀ b k, r'.o b = some (outF l n k) ↔ r1.o b = some k := fun b k => by
    rw [hro]
    constructor
    · rintro (⟨k', h2, h3⟩ | ⟨_, h3, h4⟩)
      · rw [hinj _ _ h3]; exact h2
      · exfalso
        by_cases h5 : k < l.length
        · rw [outF_lt h5] at h4; exact h4 (List.mem_of_getElem? (at_pick h5))
        · rw [outF_ge h5] at h3
          have := (hst.hold.ow b _ h3).1; omega
    · exact fun h => .inl ⟨k, h, rfl⟩
  have hle : Hs.length ≤ Hs'.length := by
    rcases Nat.lt_or_ge Hs'.length Hs.length with h | h
    · obtain ⟨y, hy, -⟩ := keepsB_at hk (List.getElem?_eq_getElem h)
      have := (List.getElem?_eq_some_iff.1 hy).1; omega
    · exact h
  have hmlen : (moveH H (outU l ls n l Hs Hs') (outN l ls n Hs')).length = n + (Hs'.length - l.length) := by simp [moveH, turnH_length, outN, hN]
  have hget : ∀ i x, (moveH H (outU l ls n l Hs Hs') (outN l ls n Hs'))[i]? = some x → (i < n ∧ ∃ y, H[i]? = some y ∧ x = (match updAt (outU l ls n l Hs Hs') i with | some o => (o, y.2) | none => y)) ∨ (∃ k y, ¬ k < l.length ∧ Hs'[k]? = some y ∧ i = outF l n k ∧ x = (y.1.ren (outF l n) (outF ls n), 1)) := fun i x hx => by
    unfold moveH at hx
    rw [List.getElem?_append, turnH_length, hN] at hx
    split at hx
    · rw [turnH_get, Nat.zero_add] at hx
      cases hy : H[i]? with
      | none => simp [hy] at hx
      | some y => simp [hy] at hx; exact .inl ⟨by assumption, y, rfl, hx.symm⟩
    · rename_i hi
      right
      rw [List.getElem?_map, outN, List.getElem?_map, List.getElem?_drop] at hx
      cases hy : Hs'[l.length + (i - n)]? with
      | none => simp [hy] at hx
      | some y =>
        simp [hy] at hx
        exact ⟨l.length + (i - n), y, by omega, hy, by rw [outF_ge (by omega)]; omega, hx.symm⟩
  have fresh : ∀ b k x g, r1.o b = some k → (k < l.length → H[pick l k]? = some (x, g) ∧ g ≠ 0) → W0.w.heap.size ≤ b ∨ W0.Z b := fun b k x g hb hg => by
    rcases hold b k hb with h2 | ⟨j, h2, h3, ⟨y, h4, h5⟩ | rfl⟩
    · left; have := hst.size; omega
    · obtain ⟨g', h6, h7⟩ := hs j y h4
      exact hst.wr b _ _ h3 h6 (h7 h5)
    · obtain ⟨h6, h7⟩ := hg h2
      exact hst.wr b _ _ h3 h6 h7
  refine ⟨r', by exact hagO, hren, ?_⟩
  refine hst.change (by rw [hN]; exact hagO) hscH (fun i => i ∈ l ∨ n ≤ i) (fun i x hx hu => ?_) (fun i x hx hu => ?_) (fun b i hu => ?_) (fun b i x hb hu hx hf => ?_) (fun b i hb hu => ?_) (fun b i hb => ?_) (fun b hb => ?_) (fun b hb => ?_) (fun b hb => ?_) (fun b hb => .inr (h1.hold.imc b hb)) (fun b hb => ?_) (fun b hb hz => ?_) h1.os h1.tape h1.output h1.size
  · -- same
    rcases hget i x hx with ⟨_, y, hy, rfl⟩ | ⟨k, y, h2, h3, rfl, rfl⟩
    · cases hup : updAt (outU l ls n l Hs Hs') i with
      | none => exact hy
      | some o =>
        obtain ⟨k, _, _, h4, _⟩ := outU_at hn hup
        exact absurd (.inl (List.mem_of_getElem? h4)) hu
    · rw [outF_ge h2] at hu; exact absurd (.inr (by omega)) hu
  · -- new
    rcases hget i x hx with ⟨hi, y, hy, rfl⟩ | ⟨k, y, h2, h3, rfl, rfl⟩
    · have hil : i ∈ l := by rcases hu with h | h; exact h; omega
      obtain ⟨k, hkl, rfl⟩ := hmem i hil
      have hkk := at_pick hkl
      obtain ⟨x0, hx0⟩ : ∃ x, Hs[k]? = some x := ⟨Hs[k]'(by omega), List.getElem?_eq_getElem _⟩
      obtain ⟨y', hy', hsame⟩ := keepsB_at hk hx0
      have hpl : pick l k = outF l n k := (outF_lt hkl).symm
      have hholds : (y'.1.ren (outF l n) (outF ls n)).holds r' w' (pick l k) := by
        rw [hpl]
        exact AO.ren_holds hren (List.all_eq_true.1 hsc y' (List.mem_of_getElem? hy')) (List.getElem?_eq_some_iff.1 hy').1 (fun b => hownk b k) (fun _ hb => hb) (h1.at_ k y' hy')
      cases hup : updAt (outU l ls n l Hs Hs') (pick l k) with
      | some o =>
        obtain ⟨k2, x2, y2, h4, h5, h6, h7, rfl⟩ := outU_at hn hup
        have : k2 = k := by
          have e1 := idx_of hn h4; have e2 := idx_of hn hkk; rw [e1] at e2; exact Option.some.inj e2
        subst this
        rw [hy'] at h6; cases h6
        exact hholds
      | none =>
        obtain ⟨x2, h4, h5⟩ := outU_none hk hlen hup k hkk
        rw [hx0] at h4; cases h4
        obtain ⟨g, hg, -⟩ := hs k x0 hx0
        rw [hy] at hg; cases hg
        rw [hsame h5] at hholds
        -- the old name is the new one
        have : x0.1.ren (outF l n) (outF ls n) = x0.1.ren (pick l) (pick ls) :=
          AO.ren_congr (fun j hj => outF_lt (by omega)) (fun j hj => outF_lt (by omega)) (List.all_eq_true.1 hsc0 x0 (List.mem_of_getElem? hx0))
        rw [this] at hholds
        exact hholds
    · exact AO.ren_holds hren (List.all_eq_true.1 hsc y (List.mem_of_getElem? h3)) (List.getElem?_eq_some_iff.1 h3).1 (fun b => hownk b k) (fun _ hb => hb) (h1.at_ k y h3)
  · -- owners of the others
    have hu1 : i ∉ l := fun h => hu (.inl h)
    have hu2 : i < n := by rcases Nat.lt_or_ge i n with h | h; exact h; exact absurd (.inr h) hu
    rw [hro]
    constructor
    · rintro (⟨k, h2, rfl⟩ | ⟨_, h3, _⟩)
      · exfalso
        by_cases h5 : k < l.length
        · rw [outF_lt h5] at hu1; exact hu1 (List.mem_of_getElem? (at_pick h5))
        · rw [outF_ge h5] at hu2; omega
      · exact h3
    · intro hb
      right
      refine ⟨?_, hb, hu1⟩
      cases h2 : r1.o b with
      | none => rfl
      | some k =>
        exfalso
        rcases hold b k h2 with h3 | ⟨j, h3, h4, _⟩
        · have := (hst.hold.ow b i hb).2; omega
        · rw [hb] at h4; cases h4; exact hu1 (List.mem_of_getElem? (at_pick h3))
  · -- who may be written
    rw [hro] at hb
    rcases hb with ⟨k, hb, rfl⟩ | ⟨_, h3, h4⟩
    · rcases hget _ x hx with ⟨hi, y, hy, rfl⟩ | ⟨k2, y, h2, h3, h4, rfl⟩
      · have hkl : k < l.length := by
          rcases Nat.lt_or_ge k l.length with h | h
          · exact h
          · rw [outF_ge (by omega)] at hi; omega
        refine fresh b k y.1 y.2 hb fun _ => ⟨by rw [outF_lt hkl] at hy; exact hy, ?_⟩
        cases hup : updAt (outU l ls n l Hs Hs') (outF l n k) with
        | some o => rw [hup] at hf; exact hf
        | none => rw [hup] at hf; exact hf
      · have := hinj _ _ h4; subst this
        exact fresh b k y.1 1 hb fun h => absurd h h2
    · rcases hu with h | h
      · exact absurd h h4
      · have := (hst.hold.ow b i h3).1; omega
  · rw [hro] at hb
    rcases hb with ⟨k, hb, rfl⟩ | ⟨_, h3, h4⟩
    · rcases hold b k hb with h2 | ⟨j, h2, h3, ⟨y, h4, h5⟩ | rfl⟩
      · left; have := hst.size; omega
      · obtain ⟨g', h6, h7⟩ := hs j y h4
        rcases hst.wr b _ _ h3 h6 (h7 h5) with h | h
        · exact .inl h
        · exact .inr (.inl h)
      · rw [outF_lt h2]; exact hst.ob b _ h3
    · rcases hu with h | h
      · exact absurd h h4
      · have := (hst.hold.ow b i h3).1; omega
  · rw [hro] at hb
    rw [hmlen]
    rcases hb with ⟨k, hb, rfl⟩ | ⟨_, h3, h4⟩
    · have h2 := h1.hold.ow b k hb
      refine ⟨?_, h2.2⟩
      by_cases h5 : k < l.length
      · rw [outF_lt h5]; have := hltp k h5; omega
      · rw [outF_ge h5]; omega
    · have := hst.hold.ow b i h3
      have h6 := h1.size
      have h6 : w.heap.size ≤ w'.heap.size := h6
      exact ⟨by omega, by omega⟩
  · exact h1.im0 b hb
  · rcases h1.im1 b hb with h | h
    · exact .inl h
    · right; have := hst.size; have h : w.heap.size ≤ b := h; omega
  · have h2 := h1.hold.imm b hb
    refine ⟨?_, h2.2⟩
    cases h3 : r'.o b with
    | none => rfl
    | some i =>
      exfalso
      rcases (hro b i).1 h3 with ⟨k, h4, _⟩ | ⟨_, h4, _⟩
      · rw [h2.1] at h4; cases h4
      · rcases h1.im1 b hb with h | h
        · have := (hst.hold.imm b h).1; rw [h4] at this; cases this
        · have := (hst.hold.ow b i h4).2; have h : w.heap.size ≤ b := h; omega
  · refine h1.frame b ?_ fun ⟨j, x, h3, h4, h5⟩ => ?_
    · rcases hb with ⟨i, h2, _⟩ | h2
      · exact (hst.hold.ow b i h2).2
      · exact (hst.hold.imm b h2).2
    · obtain ⟨h6, h7⟩ := (subG_own hn).1 h3
      rcases hb with ⟨i, h2, hu⟩ | h2
      · rw [h7] at h2; cases h2; exact hu (.inl (List.mem_of_getElem? (at_pick h6)))
      · have := (hst.hold.imm b h2).1; rw [h7] at this; cases this
  · refine h1.frame b (by have := hst.size; show b < w.heap.size; omega) fun ⟨j, x, h3, h4, h5⟩ => ?_
    obtain ⟨h6, h7⟩ := (subG_own hn).1 h3
    obtain ⟨g, h8, h9⟩ := hs j x h4
    rcases hst.wr b _ _ h7 h8 (h9 h5) with h | h
    · omega
    · exact hz h

end Go.Proofs.Ytobonipmnidadaa

namespace Go.Proofs.Ytobonipmnidadaa
open Go.RowKit
variable {P : Program} {T : CT P}

/-! ### Apart -/
def opF (n k j : Nat) : Nat := match j with | 0 => k | j + 1 => n + j
def opS (n j : Nat) : Nat := n + j
def opX (n k g : Nat) (x : AO × Nat) : AO × Nat := (x.1.ren (opF n k) (opS n), g)
def openH (H : AH) (k : Nat) (Hx : AH) : AH :=
  match H[k]?, Hx with
  | some y, x :: l => H.set k (opX H.length k y.2 x) ++ l.map (opX H.length k y.2) ++ [(.hand, y.2)]
  | _, _ => H

theorem openH_get {H : AH} {k h g : Nat} {x : X} {Hx : AH} (hk : H[k]? = some (.abs h x, g)) (h0 : Hx ≠ []) {i : Nat} {y : AO × Nat} (hy : (openH H k Hx)[i]? = some y) :
    (i ≠ k ∧ H[i]? = some y) ∨ (∃ j z, Hx[j]? = some z ∧ i = opF H.length k j ∧ y = opX H.length k g z) ∨ (i = H.length + (Hx.length - 1) ∧ y = (.hand, g)) := by
  cases Hx with
  | nil => exact absurd rfl h0
  | cons z l =>
    simp only [openH, hk, List.append_assoc] at hy
    have hkl := (List.getElem?_eq_some_iff.1 hk).1
    rw [List.getElem?_append] at hy
    split at hy
    · rename_i hi
      rcases getElem?_setL hy with ⟨rfl, rfl⟩ | ⟨h1, h2⟩
      · exact .inr (.inl ⟨0, z, rfl, rfl, rfl⟩)
      · exact .inl ⟨h1, h2⟩
    · rename_i hi
      simp only [List.length_set] at hi hy
      rw [List.getElem?_append] at hy
      split at hy
      · rename_i hi2
        rw [List.getElem?_map] at hy
        simp only [List.length_map] at hi2
        cases hz : l[i - H.length]? with
        | none => simp [hz] at hy
        | some u =>
          simp [hz] at hy
          refine .inr (.inl ⟨i - H.length + 1, u, by simpa using hz, ?_, hy.symm⟩)
          simp only [opF]; omega
      · rename_i hi2
        simp only [List.length_map] at hi2 hy
        have : i - H.length - l.length = 0 := by
          have := (List.getElem?_eq_some_iff.1 hy).1; simp at this; omega
        rw [this] at hy
        simp at hy
        exact .inr (.inr ⟨by simp only [List.length_cons]; omega, hy.symm⟩)

theorem openH_len {H : AH} {k h g : Nat} {x : X} {Hx : AH} (hk : H[k]? = some (.abs h x, g)) (h0 : Hx ≠ []) : (openH H k Hx).length = H.length + Hx.length := by
  cases Hx with
  | nil => exact absurd rfl h0
  | cons z l => simp [openH, hk] <;> omega

theorem St.openG {r : Gh} {H : AH} {W0 : Base} {w : World} (hst : St r H W0 w) (hscH : H.scB = true) {k h g : Nat} {x : X} {Hx : AH} (hk : H[k]? = some (.abs h x, g)) (hx : shape x = some Hx) (hsc : Hx.scB = true) (h0 : Nat.blt 0 Hx.length = true) (hg : g ≠ 0 ∨ ∀ b i, W0.R b i) :
    ∃ r', Agree H.length r r' ∧ St r' (openH H k Hx) W0 w := by
  have hlp : 0 < Hx.length := by simpa using h0
  have hne : Hx ≠ [] := fun e => by rw [e] at hlp; simp at hlp
  have hkl := (List.getElem?_eq_some_iff.1 hk).1
  have hr := hst.at_ k _ hk
  obtain ⟨g0, e0, ho, hi, hall⟩ : ∃ g0 : Gh, g0.b 0 = r.b k ∧ (∀ b i, g0.o b = some i → r.o b = some k ∧ i < Hx.length ∧ b < w.heap.size) ∧ (∀ b, g0.im b → r.im b) ∧ ∀ (i : Nat) (z : AO × Nat), Hx[i]? = some z → z.1.holds g0 w i := by
    cases hr with
    | prim hp => cases x <;> first | exact hp.elim | (simp [shape] at hx)
    | comp H' g0 hs hr ho hi hc hw ha hh =>
      rw [hx] at hs; cases hs
      refine ⟨g0, hr, ho, fun b hb => (hi b hb).1, fun i z hz => ?_⟩
      obtain ⟨a, f⟩ := z
      cases a with
      | cells cs t => exact hc i cs t f hz
      | raw o => exact hw i o f hz
      | abs j y => exact ha i j y f hz
      | hand => exact hh i f hz
  generalize hN : H.length = n at *
  let r' : Gh := ⟨fun j => if j < n then r.b j else g0.b (j - n + 1), fun j => if j < n then r.s j else g0.s (j - n),
    fun b => match r.o b with | some i => if i = k then (match g0.o b with | some j => some (opF n k j) | none => none) else some i | none => none, r.im⟩
  have hinj : ∀ i j, opF n k i = opF n k j → i = j := fun i j e => by
    cases i <;> cases j <;> simp only [opF] at e <;> omega
  have hag : Agree n r r' := ⟨fun i hi => if_pos hi, fun i hi => if_pos hi⟩
  have hren : RenOk Hx.length (opF n k) (opS n) r' g0 := ⟨fun j hj => by
      cases j with
      | zero => show (if k < n then r.b k else _) = _; rw [if_pos hkl, e0]
      | succ j => show (if n + j < n then _ else g0.b (n + j - n + 1)) = _; rw [if_neg (by omega)]; congr 1; omega, fun j hj => by
      show (if n + j < n then _ else g0.s (n + j - n)) = _; rw [if_neg (by omega)]; congr 1; omega⟩
  have hro : ∀ b i, r'.o b = some i ↔ (∃ j, r.o b = some k ∧ g0.o b = some j ∧ i = opF n k j) ∨ (r.o b = some i ∧ i ≠ k) := fun b i => by
    show (match r.o b with | some i => if i = k then (match g0.o b with | some j => some (opF n k j) | none => none) else some i | none => none) = some i ↔ _
    cases hb : r.o b with
    | none => simp
    | some q =>
      simp only [Option.some.injEq]
      by_cases hq : q = k
      · subst hq
        simp only [if_true, true_and]
        cases hg : g0.o b with
        | none => simp; intro e; exact e.symm
        | some j =>
          simp only [Option.some.injEq]
          constructor
          · intro e; exact .inl ⟨j, rfl, e.symm⟩
          · rintro (⟨j', h1, h2⟩ | ⟨h1, h2⟩)
            · rw [h2, h1]
            · exact absurd h1.symm h2
      · simp only [if_neg hq, Option.some.injEq]
        constructor
        · intro e; exact .inr ⟨e, by rw [← e]; exact hq⟩
        · rintro (⟨j', h1, _⟩ | ⟨h1, _⟩)
          · exact absurd h1 hq
          · exact h1
  have hown : ∀ b j, r'.o b = some (opF n k j) ↔ g0.o b = some j := fun b j => by
    rw [hro]
    constructor
    · rintro (⟨j', h1, h2, h3⟩ | ⟨h1, h2⟩)
      · rw [hinj _ _ h3]; exact h2
      · exfalso
        cases j with
        | zero => exact h2 rfl
        | succ j => simp only [opF] at h1; have := (hst.hold.ow b _ h1).1; omega
    · intro h1; exact .inl ⟨j, (ho b j h1).1, h1, rfl⟩
  refine ⟨r', hag, ?_⟩
  refine hst.change (by rw [hN]; exact hag) hscH (fun i => i = k ∨ n ≤ i) (fun i y hy hu => ?_) (fun i y hy hu => ?_) (fun b i hu => ?_) (fun b i y hb hu hy hf => ?_) (fun b i hb hu => ?_) (fun b i hb => ?_) (fun b hb => hb) (fun b hb => .inl hb) (fun b hb => ?_) (fun b hb => .inl hb) (fun b _ => rfl) (fun b _ _ => rfl) rfl rfl rfl (Nat.le_refl _)
  · rcases openH_get hk hne hy with ⟨_, h2⟩ | ⟨j, z, _, h3, _⟩ | ⟨h3, _⟩
    · exact h2
    · exfalso
      rw [hN] at h3
      cases j with
      | zero => exact hu (.inl h3)
      | succ j => simp only [opF] at h3; exact hu (.inr (by omega))
    · exfalso; rw [hN] at h3; exact hu (.inr (by omega))
  · rcases openH_get hk hne hy with ⟨h1, h2⟩ | ⟨j, z, h2, h3, rfl⟩ | ⟨h3, rfl⟩
    · rcases hu with h | h
      · exact absurd h h1
      · have := (List.getElem?_eq_some_iff.1 h2).1; omega
    · rw [hN] at h3 ⊢
      subst h3
      exact AO.ren_holds hren (List.all_eq_true.1 hsc z (List.mem_of_getElem? h2)) (List.getElem?_eq_some_iff.1 h2).1 (fun b => hown b j) hi (hall j z h2)
    · rw [hN] at h3
      intro b hb
      subst h3
      rcases (hro b _).1 hb with ⟨j, _, h5, h6⟩ | ⟨h5, _⟩
      · have := (ho b j h5).2.1
        cases j with
        | zero => simp only [opF] at h6; omega
        | succ j => simp only [opF] at h6; omega
      · have := (hst.hold.ow b _ h5).1; omega
  · have h1 : i ≠ k := fun e => hu (.inl e)
    have h2 : i < n := by rcases Nat.lt_or_ge i n with h | h; exact h; exact absurd (.inr h) hu
    rw [hro]
    constructor
    · rintro (⟨j, _, _, h5⟩ | ⟨h5, _⟩)
      · exfalso
        cases j with
        | zero => exact h1 h5
        | succ j => simp only [opF] at h5; omega
      · exact h5
    · exact fun h => .inr ⟨h, h1⟩
  · -- what may be written
    have hgf : g ≠ 0 := by
      rcases openH_get hk hne hy with ⟨h1, h2⟩ | ⟨j, z, h2, h3, rfl⟩ | ⟨h3, rfl⟩
      · rcases hu with h | h
        · exact absurd h h1
        · have := (List.getElem?_eq_some_iff.1 h2).1; omega
      · exact hf
      · exact hf
    rcases (hro b i).1 hb with ⟨j, h4, _, _⟩ | ⟨h4, h5⟩
    · exact hst.wr b k _ h4 hk hgf
    · rcases hu with h | h
      · exact absurd h h5
      · have := (hst.hold.ow b i h4).1; omega
  · rcases (hro b i).1 hb with ⟨j, h4, h5, h6⟩ | ⟨h4, h5⟩
    · rcases hg with hg | hg
      · rcases hst.wr b k _ h4 hk hg with h | h
        · exact .inl h
        · exact .inr (.inl h)
      · exact .inr (.inr (hg b i))
    · exact hst.ob b i h4
  · rw [openH_len hk hne, hN]
    rcases (hro b i).1 hb with ⟨j, h4, h5, h6⟩ | ⟨h4, h5⟩
    · have h7 := ho b j h5
      refine ⟨?_, h7.2.2⟩
      cases j with
      | zero => simp only [opF] at h6; omega
      | succ j => simp only [opF] at h6; omega
    · have := hst.hold.ow b i h4; exact ⟨by omega, this.2⟩
  · have := hst.hold.imm b hb
    refine ⟨?_, this.2⟩
    show (match r.o b with | some i => if i = k then (match g0.o b with | some j => some (opF n k j) | none => none) else some i | none => none) = none
    rw [this.1]

/-- An object that may be written. -/
theorem St.open {r : Gh} {H : AH} {W0 : Base} {w : World} (hst : St r H W0 w) (hscH : H.scB = true) {k h g : Nat} {x : X} {Hx : AH} (hk : H[k]? = some (.abs h x, g)) (hx : shape x = some Hx) (hsc : Hx.scB = true) (h0 : Nat.blt 0 Hx.length = true) (hg : g ≠ 0) :
    ∃ r', Agree H.length r r' ∧ St r' (openH H k Hx) W0 w := hst.openG hscH hk hx hsc h0 (.inl hg)

/-- Any object, seen from here on. -/
theorem St.openR {r : Gh} {H : AH} {W0 : Base} {w : World} (hst : St r H W0 w) (hscH : H.scB = true) {k h g : Nat} {x : X} {Hx : AH} (hk : H[k]? = some (.abs h x, g)) (hx : shape x = some Hx) (hsc : Hx.scB = true) (h0 : Nat.blt 0 Hx.length = true) :
    ∃ r', Agree H.length r r' ∧ St r' (openH H k Hx) (base r' (openH H k Hx) w) w := by
  have h1 : St r H ⟨w, fun _ => True, fun _ _ => True, r.im⟩ w :=
    ⟨hst.hold, fun _ _ _ _ _ _ => .inr trivial, fun _ _ _ => .inr (.inl trivial), fun _ hb => hb, fun _ hb => .inl hb, rfl, rfl, rfl, Nat.le_refl _, fun _ _ _ => rfl⟩
  obtain ⟨r', hag, h2⟩ := h1.openG hscH hk hx hsc h0 (.inr fun _ _ => trivial)
  exact ⟨r', hag, h2.rebase⟩

/-! ### Together -/
def closeAt (l : List Nat) (h : Nat) (x : X) (i : Nat) (y : AO × Nat) : AO × Nat :=
  match idx l i with
  | some 0 => (.abs h x, y.2)
  | some _ => (.hand, y.2)
  | none => y
def closeH (l : List Nat) (h : Nat) (x : X) : Nat → AH → AH
  | _, [] => []
  | i, y :: H => closeAt l h x i y :: closeH l h x (i + 1) H

theorem closeH_get (l : List Nat) (h : Nat) (x : X) : ∀ (H : AH) (k i : Nat), (closeH l h x k H)[i]? = H[i]?.map (closeAt l h x (k + i))
  | [], k, i => by simp [closeH]
  | y :: H, k, 0 => by simp [closeH]
  | y :: H, k, i + 1 => by
    simp only [closeH, List.getElem?_cons_succ, closeH_get l h x H (k + 1) i]
    rw [show k + 1 + i = k + (i + 1) by omega]
theorem closeH_len (l : List Nat) (h : Nat) (x : X) : ∀ (H : AH) (k : Nat), (closeH l h x k H).length = H.length
  | [], _ => rfl
  | y :: H, k => by simp [closeH, closeH_len l h x H (k + 1)]

/-- All of these may be written. -/
def flagsB (H : AH) (l : List Nat) : Bool := l.all fun i => match H[i]? with | some y => !Nat.beq y.2 0 | none => false

theorem St.close {r : Gh} {H : AH} {W0 : Base} {w : World} (hst : St r H W0 w) (hscH : H.scB = true) (l ls : List Nat) (h : Nat) (x : X) (Hx : AH) (hx : shape x = some Hx) (hsc : Hx.scB = true) (hn : nodupB l = true) (hlen : Nat.beq l.length Hx.length = true) (h0 : Nat.blt 0 Hx.length = true) (hs : hasIds H l ls Hx) (hf : flagsB H l = true) :
    ∃ r', Agree H.length r r' ∧ (∀ v : AV, v.conc r' = v.conc r) ∧ St r' (closeH l h x 0 H) W0 w := by
  have hlen' := Nat.eq_of_beq_eq_true hlen
  have hlp : 0 < l.length := by have : 0 < Hx.length := by simpa using h0
                                omega
  have hsub := hst.subHold hn hlen hsc hs
  let o' : Nat → Option Nat := fun b => match r.o b with | some i => (match idx l i with | some _ => some (pick l 0) | none => some i) | none => none
  have h0i : idx l (pick l 0) = some 0 := idx_of hn (at_pick hlp)
  have hro : ∀ b i, o' b = some i ↔ (∃ j k, r.o b = some j ∧ idx l j = some k ∧ i = pick l 0) ∨ (r.o b = some i ∧ idx l i = none) := fun b i => by
    show (match r.o b with | some i => (match idx l i with | some _ => some (pick l 0) | none => some i) | none => none) = some i ↔ _
    cases hb : r.o b with
    | none => simp
    | some j =>
      simp only [Option.some.injEq]
      cases hj : idx l j with
      | some k =>
        simp only [Option.some.injEq]
        constructor
        · intro e; exact .inl ⟨j, k, rfl, hj, e.symm⟩
        · rintro (⟨_, _, h1, _, h3⟩ | ⟨h1, h2⟩)
          · exact h3.symm
          · subst h1; rw [hj] at h2; cases h2
      | none =>
        simp only [Option.some.injEq]
        constructor
        · intro e; subst e; exact .inr ⟨rfl, hj⟩
        · rintro (⟨_, _, h1, h2, _⟩ | ⟨h1, _⟩)
          · subst h1; rw [hj] at h2; cases h2
          · exact h1
  have hflag : ∀ b j k, r.o b = some j → idx l j = some k → W0.w.heap.size ≤ b ∨ W0.Z b := fun b j k hb hj => by
    have := List.all_eq_true.1 hf j (List.mem_of_getElem? (idx_some hj))
    cases hy : H[j]? with
    | none => simp [hy] at this
    | some y =>
      simp only [hy] at this
      exact hst.wr b j y hb hy (by intro e; rw [e] at this; simp at this)
  refine ⟨r.withO o' r.im, Agree.withO _ _ _ _, fun v => AV.conc_withO r _ _ v, ?_⟩
  refine hst.change (Agree.withO _ _ _ _) hscH (fun i => idx l i ≠ none) (fun i y hy hu => ?_) (fun i y hy hu => ?_) (fun b i hu => ?_) (fun b i y hb hu hy hff => ?_) (fun b i hb hu => ?_) (fun b i hb => ?_) (fun b hb => hb) (fun b hb => .inl hb) (fun b hb => ?_) (fun b hb => .inl hb) (fun b _ => rfl) (fun b _ _ => rfl) rfl rfl rfl (Nat.le_refl _)
  · rw [closeH_get, Nat.zero_add] at hy
    cases hz : H[i]? with
    | none => simp [hz] at hy
    | some z =>
      simp only [hz, Option.map_some, Option.some.injEq] at hy
      simp only [ne_eq, Decidable.not_not] at hu
      rw [← hy]; unfold closeAt; rw [hu]
  · rw [closeH_get, Nat.zero_add] at hy
    cases hz : H[i]? with
    | none => simp [hz] at hy
    | some z =>
      simp only [hz, Option.map_some, Option.some.injEq] at hy
      subst hy
      cases hi : idx l i with
      | none => exact absurd hi hu
      | some k =>
        cases k with
        | zero =>
          have hil := pick_at (idx_some hi)
          simp only [closeAt, hi, AO.holds]
          refine .comp Hx (subG r l ls) hx ?_ (fun b j hb => ?_) (fun b hb => ⟨hb, (hsub.imm b hb).1, (hst.hold.imm b hb).2⟩) (fun j cs t f hj => hsub.at_ j _ hj) (fun j o f hj => hsub.at_ j _ hj) (fun j q y f hj => hsub.at_ j _ hj) (fun j f hj => hsub.at_ j _ hj)
          · show r.b (pick l 0) = r.b i
            rw [hil]
          · obtain ⟨h1, h2⟩ := (subG_own hn).1 hb
            refine ⟨(hro b i).2 (.inl ⟨_, j, h2, idx_of hn (at_pick h1), hil.symm⟩), by omega, (hst.hold.ow b _ h2).2⟩
        | succ k =>
          simp only [closeAt, hi, AO.holds]
          intro b hb
          rcases (hro b i).1 hb with ⟨j, k', h1, h2, h3⟩ | ⟨_, h2⟩
          · rw [h3, h0i] at hi; cases hi
          · rw [hi] at h2; cases h2
  · simp only [ne_eq, Decidable.not_not] at hu
    refine (hro b i).trans ⟨?_, fun h => .inr ⟨h, hu⟩⟩
    rintro (⟨j, k, h1, h2, h3⟩ | ⟨h1, _⟩)
    · rw [h3, h0i] at hu; cases hu
    · exact h1
  · rcases (hro b i).1 hb with ⟨j, k, h1, h2, h3⟩ | ⟨h1, h2⟩
    · exact hflag b j k h1 h2
    · exact absurd h2 hu
  · rcases (hro b i).1 hb with ⟨j, k, h1, h2, h3⟩ | ⟨h1, h2⟩
    · rcases hflag b j k h1 h2 with h | h
      · exact .inl h
      · exact .inr (.inl h)
    · exact absurd h2 hu
  · rw [closeH_len]
    rcases (hro b i).1 hb with ⟨j, k, h1, h2, h3⟩ | ⟨h1, h2⟩
    · have h4 := hst.hold.ow b j h1
      refine ⟨?_, h4.2⟩
      rw [h3]
      have := List.all_eq_true.1 hf (pick l 0) (List.mem_of_getElem? (at_pick hlp))
      cases hy : H[pick l 0]? with
      | none => simp [hy] at this
      | some y => exact (List.getElem?_eq_some_iff.1 hy).1
    · exact hst.hold.ow b i h1
  · have := hst.hold.imm b hb
    refine ⟨?_, this.2⟩
    show (match r.o b with | some i => (match idx l i with | some _ => some (pick l 0) | none => some i) | none => none) = none
    rw [this.1]

/-! ### What is asked, by a computation -/
def selH (H : AH) (l : List Nat) : List (Option AO) := l.map fun i => (H[i]?).map (·.1)
def renH (l ls : List Nat) (Hs : AH) : List (Option AO) := Hs.map fun x => some (x.1.ren (pick l) (pick ls))
def flagsL (H : AH) : List Nat → AH → Bool
  | i :: l, x :: Hs => (Nat.beq x.2 0 || (match H[i]? with | some y => !Nat.beq y.2 0 | none => false)) && flagsL H l Hs
  | _, _ => true

theorem hasIds_of {H : AH} {l ls : List Nat} {Hs : AH} (h : selH H l = renH l ls Hs) (hf : flagsL H l Hs = true) : hasIds H l ls Hs := fun i x hx => by
  have h1 := congrArg (·[i]?) h
  simp only [selH, renH, List.getElem?_map, hx, Option.map_some] at h1
  cases hl : l[i]? with
  | none => simp [hl] at h1
  | some j =>
    simp only [hl, Option.map_some, Option.some.injEq] at h1
    rw [pick_at hl]
    cases hy : H[j]? with
    | none => simp [hy] at h1
    | some y =>
      simp only [hy, Option.map_some, Option.some.injEq] at h1
      refine ⟨y.2, by rw [← h1], fun hx0 => ?_⟩
      have key : ∀ (l : List Nat) (Hs : AH) (i : Nat), flagsL H l Hs = true → l[i]? = some j → Hs[i]? = some x → y.2 ≠ 0 := by
        intro l
        induction l with
        | nil => intro Hs i _ hl; simp at hl
        | cons a l ih =>
          intro Hs i hf hl hx
          cases Hs with
          | nil => simp at hx
          | cons z Hs =>
            simp only [flagsL, Bool.and_eq_true] at hf
            cases i with
            | zero =>
              simp at hl hx
              subst hl; subst hx
              have := hf.1
              rw [hy] at this
              simp only [Bool.or_eq_true] at this
              rcases this with h | h
              · exact absurd (Nat.eq_of_beq_eq_true h) hx0
              · intro e; rw [e] at h; simp at h
            | succ i => exact ih Hs i hf.2 (by simpa using hl) (by simpa using hx)
      exact key l Hs i hf hl hx

end Go.Proofs.Ytobonipmnidadaa
