/- The keys, sorted. -/
import Derived.Test.YtobonipmnidadaaJ18
import Derived.Test.YtobonipmnidadaaJ19
import Derived.Test.YtobonipmnidadaaJ20
namespace Go.Proofs.Ytobonipmnidadaa
open Go.RowKit Go.Sort
set_option maxRecDepth 8000

instance : Inhabited Dot := ⟨⟨0, 0⟩⟩
def encD (d : Dot) : List Value := [.int .u8 d.a, .int .u32 d.s]
def ltD (x y : Dot) : Bool := decide (x.a < y.a) || decide (x.a = y.a) && decide (x.s < y.s)

theorem ltOf_cmpD : ltOf cmpD = ltD := by
  funext x y
  rw [Bool.eq_iff_iff]
  simp only [ltOf, ltD, decide_eq_true_eq, Bool.or_eq_true, Bool.and_eq_true]
  have key : ∀ a b : Int, (cmpZ a b = -1 ∧ a < b) ∨ (cmpZ a b = 1 ∧ b < a) ∨ (cmpZ a b = 0 ∧ a = b) := fun a b => by
    unfold cmpZ
    rcases Int.lt_trichotomy a b with h | h | h
    · exact .inl ⟨by simp [h], h⟩
    · exact .inr (.inr ⟨by simp [h], h⟩)
    · exact .inr (.inl ⟨by simp [h, show ¬ a < b by omega], h⟩)
  unfold cmpD
  rcases key x.a y.a with ⟨e, h⟩ | ⟨e, h⟩ | ⟨e, h⟩
  · rw [e]; simp [h]
  · rw [e]; simp; omega
  · rw [e]; simp only [ne_eq, not_true_eq_false, if_false]
    rcases key x.s y.s with ⟨e', h'⟩ | ⟨e', h'⟩ | ⟨e', h'⟩ <;> rw [e'] <;> simp <;> omega
theorem ltD_swo : SWO ltD := by
  constructor
  · intro x; simp [ltD]
  · intro x y z h1 h2
    simp only [ltD, Bool.or_eq_true, Bool.and_eq_true, decide_eq_true_eq] at *
    omega
  · intro x y z h1 h2
    simp only [ltD, Bool.or_eq_false_iff, Bool.and_eq_false_iff, decide_eq_false_iff_not] at *
    omega
theorem ltD_total (x y : Dot) (h1 : ltD x y = false) (h2 : ltD y x = false) : x = y := by
  obtain ⟨a, s⟩ := x
  obtain ⟨b, t⟩ := y
  simp only [ltD, Bool.or_eq_false_iff, Bool.and_eq_false_iff, decide_eq_false_iff_not] at *
  simp only [Dot.mk.injEq]
  omega

/-- The dots, in order. -/
def sortD (l : List Dot) : List Dot := l.mergeSort fun x y => !ltD y x
theorem sortD_perm (l : List Dot) : (sortD l).Perm l := List.mergeSort_perm _ _
theorem sortD_sorted (l : List Dot) : (sortD l).Pairwise fun x y => ltD y x = false := by
  have h := List.pairwise_mergeSort (le := fun x y => !ltD y x) (fun a b c h1 h2 => by
    simp only [Bool.not_eq_true'] at *
    exact ltD_swo.ntrans c b a h2 h1) (fun a b => by
    simp only [Bool.or_eq_true, Bool.not_eq_true']
    cases h : ltD b a with
    | false => exact .inl rfl
    | true =>
      right
      cases h2 : ltD a b with
      | false => rfl
      | true => have := ltD_swo.trans a b a h2 h; rw [ltD_swo.irrefl] at this; cases this) l
  exact h.imp fun h => by simpa using h
theorem sorted_one {l l' : List Dot} (hp : l.Perm l') (h : l.Pairwise fun x y => ltD y x = false) (h' : l'.Pairwise fun x y => ltD y x = false) : l = l' :=
  List.Perm.eq_of_pairwise (le := fun x y => ltD y x = false) (fun a b _ _ h1 h2 => ltD_total a b h2 h1) h h' hp
theorem sortD_of_perm {l l' : List Dot} (h : l.Perm l') : sortD l = sortD l' := sorted_one (((sortD_perm l).trans h).trans (sortD_perm l').symm) (sortD_sorted l) (sortD_sorted l')

theorem holds_row {w : World} {blk n cap : Nat} {cur : Array Value} {l : List Dot} (h : w.heap[blk]? = some (.cells cur 26 (0, 0))) (hn : l.length = n) (hc : n ≤ cap) (_hs : cur.size = cap * 2) (ht : cur.toList.take (n * 2) = l.flatMap encD) : HoldsK encD 2 w blk 0 l.toArray := by
  intro j hj
  have hl := flatK_list (enc := encD) (k := 2) (fun _ => rfl) (by decide) l.toArray
  have hj' : j < n * 2 := by simpa [hn] using hj
  have hc2 : n * 2 ≤ cap * 2 := Nat.mul_le_mul_right 2 hc
  refine ⟨?_, ?_⟩
  · unfold World.cell?
    simp only [h, Nat.zero_add, Option.isSome_none, Bool.false_eq_true, if_false]
    have e1 : cur[j]? = (cur.toList.take (n * 2))[j]? := by rw [List.getElem?_take, if_pos hj']; simp
    rw [e1, ht, show l.flatMap encD = (flatK encD 2 l.toArray).toList by rw [hl]]
    rw [getElem!_pos _ j hj]
    simp [Array.getElem?_eq_getElem hj]
  · unfold World.frozen?
    simp [h]

theorem sort_call (l : List Dot) (hl : l.length ≤ 100000) {w : World} {base : Nat} {v : Value} (hrow : w.ownsRow base 26 2 v l.length (l.flatMap encD)) (hb : base ≤ w.heap.size) :
    Calls Try.prog 55 #[v, .func (.func 49) #[] #[]] w fun e w' => e = .returned (.tuple #[]) ∧ w'.ownsRow base 26 2 v (sortD l).length ((sortD l).flatMap encD) ∧ Below base w w' := by
  rcases hrow.2 with ⟨rfl, h0⟩ | ⟨g, cap, cur, rfl, hg, hh, hcap, hmax, hsz, htake⟩
  · have : l = [] := List.eq_nil_of_length_eq_zero h0
    subst this
    refine (AnyF.slices_SortFunc_none { Try.lSort with } none 0 (.func (.func 49) #[] #[]) w).mono ?_
    rintro e w' ⟨rfl, rfl⟩
    exact ⟨rfl, by simpa [sortD] using hrow, Below.refl _ _⟩
  · have hlt := (Array.getElem?_eq_some_iff.1 hh).1
    have hd : l.toArray.size = l.length := by simp
    have hcon := AnyQ.slices_SortFunc_total Try.lSort 2 Try.isAgg26 Try.sizeOf26 encD (fun _ => rfl) (fun x u hu => by simp [encD] at hu; rcases hu with rfl | rfl <;> rfl) cmpD (by rw [ltOf_cmpD]; exact ltD_swo) 49 #[] g 0 cap l.toArray w
      (fun _ _ => callFunc_run (by kernel_rfl) _ _) (fun _ _ _ _ x y => cmpD_run x y _) (holds_row hh rfl hcap hsz htake) hlt (by rw [hd]; omega) (fun x y h1 h2 => ltD_total x y (by rw [← ltOf_cmpD]; exact h1) (by rw [← ltOf_cmpD]; exact h2))
    rw [hd] at hcon
    refine hcon.mono ?_
    rintro e w' ⟨rfl, n, os, hw'⟩
    have hs : (l.toArray.toList.mergeSort fun x y => !(ltOf cmpD) y x) = sortD l := by rw [ltOf_cmpD]; rfl
    rw [hs] at hw'
    subst hw'
    have hlen : (sortD l).length = l.length := (sortD_perm l).length_eq
    obtain ⟨cur', h1, h2, h3⟩ := sort_at (enc := encD) (k := 2) (fun _ => rfl) (by decide) (m := n) (d := (sortD l).toArray) (os := os) hh (by simp [hlen]; rw [hsz]; exact Nat.mul_le_mul_right 2 hcap)
    refine ⟨rfl, ⟨?_, .inr ⟨g, cap, cur', ?_, hg, h1, by omega, hmax, by rw [h2]; exact hsz, by simpa using h3⟩⟩, sort_below hg hb⟩
    · rw [flat_length (enc := encD) (k := 2) (fun _ => rfl)]
    · rw [hlen]

theorem elt_encD : (Elt.cells : Dot → List Value) = encD := rfl

/-- What a map's keys come to, sorted. -/
theorem sorted_run {E : Wt} {n : Nat} (hE : BornOk E n) (hlen : E.length ≤ 100000) {M x0 : Nat} {w : World} (h : Kys M x0 E n w) :
    Calls Try.prog 47 #[.func (.func 56) #[] #[.pointer (some ⟨x0, 0, none⟩)], .func (.func 49) #[] #[]] w fun e w' => ∃ v, e = .returned v ∧ w'.ownsRow w.heap.size 26 2 v (sortD (E.map (·.1.d))).length ((sortD (E.map (·.1.d))).flatMap encD) ∧ Below w.heap.size w w' := by
  let clo : Value := .func (.func 56) #[] #[.pointer (some ⟨x0, 0, none⟩)]
  refine (callsFw (ro := none) (n := 0)).1 (callsInStart (args := [.r clo, .r (.func (.func 49) #[] #[])]) (r := Gh.none.wipe) (fn := fnOf Try.prog 47)
    (c := (.seq (.region 0 (opsAt Try.prog 47 0) false) (.seq (.region 1 (opsAt Try.prog 47 1) false) (.seq (.region 2 (opsAt Try.prog 47 2) false) (.seq (.region 3 (opsAt Try.prog 47 3) false) .ret))))) (by kernel_rfl) (by kernel_rfl) fun a0 hF0 hd0 => ?_)
  refine wpIn_seq (reg_wp (pre_wp TL 0 1 [] [] (by kernel_rfl) (by kernel_rfl) trivial hF0 (St.empty Gh.none w) fun r1 w1 a1 hag1 hst1 hF1 hd1 => wpListIn_end (by kernel_rfl) ?_))
  refine wpIn_seq (reg_wp (pre_wp TL 1 1 [] [] (by kernel_rfl) (by kernel_rfl) trivial hF1 hst1 fun r2 w2 a2 hag2 hst2 hF2 hd2 => ?_))
  have hb2 := hst2.belowR
  have hs2 := hb2.size
  have h2 := h.later hb2 (lt_of_at h.map_) (lt_of_at h.c0)
  have hM := lt_of_at h.map_
  have hx0 := lt_of_at h.c0
  refine call_wp (f := 54) (args := [.r clo]) hF2 (by kernel_rfl) (by kernel_rfl) (by kernel_rfl)
    (dqc_run (Kp := kyKp M x0 E n) (w := w2) hlen (fun m => keys1_seq hE h2) (fun _ _ => callFunc_run (by kernel_rfl) _ _) (fun ha hb => ⟨fun h => hb.1 (ha.1 h), ha.2.trans hb.2⟩)
      (fun W l o o' hl ho h1 h3 => ⟨fun hA => hA.later (belowK_b (Nat.le_refl _) W l o o' hl ho h1 h3) (by omega) (by omega), KeepsWalks.putObj _ ho h3⟩)
      (fun A B h1 h3 h4 _ => ⟨fun hA => hA.later h3 (by omega) (by omega), h4.walks⟩)) fun e w3 ⟨xs, v, hS, he, hrow, hb3⟩ => ⟨v, he, fun a3 hF3 hd3 => ?_⟩
  have hs3 := hb3.size
  have hxs : xs.length = E.length := by rw [hS.length_eq]; simp
  refine pre_wp TL 1 1 (i := 2) [] [] (by kernel_rfl) (by kernel_rfl) trivial hF3.wipe (St.empty r2 w3) fun r4 w4 a4 hag4 hst4 hF4 hd4 => wpListIn_end (by kernel_rfl) ?_
  refine wpIn_seq (reg_wp (pre_wp TL 2 2 [] [] (by kernel_rfl) (by kernel_rfl) trivial hF4 hst4 fun r5 w5 a5 hag5 hst5 hF5 hd5 => ?_))
  have hb5 := hst5.belowR
  have hs5 := hb5.size
  have hrow5 : w5.ownsRow w.heap.size 26 2 v xs.length (xs.flatMap encD) := row_stay (B := 0) (ownsRow_mono hrow hs2) (grown_of_below hb5) (fun r e => by cases e)
  refine call_wp (f := 55) (args := [.r v, .r (.func (.func 49) #[] #[])]) hF5 (by kernel_rfl) (by kernel_rfl) (by kernel_rfl) (sort_call xs (by omega) hrow5 (by omega)) fun e w6 ⟨he, hrow6, hb6⟩ => ⟨_, he, fun a6 hF6 hd6 => ?_⟩
  have hs6 := hb6.size
  refine wpListIn_end (by kernel_rfl) ?_
  refine wpIn_seq (reg_wp (pre_wp TL 3 2 [] [] (by kernel_rfl) (by kernel_rfl) trivial hF6.wipe (St.empty r5 w6) fun r7 w7 a7 hag7 hst7 hF7 hd7 => wpListIn_end (by kernel_rfl) (wpIn_ret ?_)))
  have hb7 := hst7.belowR
  rw [sortD_of_perm hS] at hrow6
  have hbA : Below w.heap.size w w3 := hb2.trans (hb3.mono hs2)
  have hbB : Below w.heap.size w3 w5 := hb5.mono (by omega)
  have hbC : Below w.heap.size w6 w7 := hb7.mono (by omega)
  refine (bodyPost_of (v := .r v) (by kernel_rfl) hF7 hst7 (by rw [hd7, hd6, hd5, hd4, hd3, hd2, hd1, hd0]) ⟨v, rfl, ?_, hbA.trans (hbB.trans (hb6.trans hbC))⟩).1
  exact row_stay (B := 0) hrow6 (grown_of_below hb7) (fun r e => by cases e)

end Go.Proofs.Ytobonipmnidadaa
