/- The executor, twelfth part: the proof for a drawn order, and regions of both kinds. -/
import Derived.Test.YtodcebpdmjdplaaVB
namespace Go.Proofs.Ytodcebpdmjdplaa
open Go.RowKit
variable {P : Program} {T : CT P}

theorem stage_keep {ops : Array Oper} {l : List Oper} {F : AF} {H : AH} {rs : List Rec} (hc : Chain P ops l F H rs) {x : Nat} (m : Nat) : ∀ (d : Nat), m + d ≤ rank rs rs.length → x < (stage H rs m).length →
    (∀ e, e < rs.length → (recAt rs e).isEff = true → m ≤ rank rs e → rank rs e < m + d → x ∉ (recAt rs e).ids) → (stage H rs (m + d))[x]? = (stage H rs m)[x]? ∧ (stage H rs m).length ≤ (stage H rs (m + d)).length
  | 0, _, _, _ => ⟨rfl, Nat.le_refl _⟩
  | d + 1, hle, hx, hno => by
    obtain ⟨ih1, ih2⟩ := stage_keep hc m d (by omega) hx fun e he h1 h2 h3 => hno e he h1 h2 (by omega)
    obtain ⟨e, he, h1, h2⟩ := rank_exists rs (Nat.le_refl rs.length) (m := m + d) (by omega)
    have hlen := chain_len l F H rs hc
    obtain ⟨o, ho⟩ : ∃ o, l[e]? = some o := ⟨l[e]'(by omega), List.getElem?_eq_getElem _⟩
    have hok := chain_ok l F H rs hc e o ho
    have hre : rs[e]? = some (recAt rs e) := by simp [recAt, List.getD_eq_getElem?_getD, he]
    have hs := stage_succ l F H rs hc e _ hre h1
    have hH := chain_H l F H rs hc e _ hre
    rw [h2] at hs hH
    have hxe : x < (recAt rs e).H.length := by rw [hH]; omega
    constructor
    · rw [show m + (d + 1) = m + d + 1 from rfl, hs, hok.keep x hxe (hno e he h1 (by omega) (by omega)), hH, ih1]
    · rw [show m + (d + 1) = m + d + 1 from rfl, hs]
      have := hok.len
      rw [hH] at this
      omega

theorem stage_len {ops : Array Oper} {l : List Oper} {F : AF} {H : AH} {rs : List Rec} (hc : Chain P ops l F H rs) {m m' : Nat} (h : m ≤ m') (hle : m' ≤ rank rs rs.length) : (stage H rs m).length ≤ (stage H rs m').length := by
  induction m' with
  | zero => have : m = 0 := by omega
            subst this; exact Nat.le_refl _
  | succ m' ih =>
    by_cases e : m = m' + 1
    · subst e; exact Nat.le_refl _
    · have h1 := ih (by omega) (by omega)
      obtain ⟨e, he, h2, h3⟩ := rank_exists rs (Nat.le_refl rs.length) (m := m') (by omega)
      have hlen := chain_len l F H rs hc
      obtain ⟨o, ho⟩ : ∃ o, l[e]? = some o := ⟨l[e]'(by omega), List.getElem?_eq_getElem _⟩
      have hok := (chain_ok l F H rs hc e o ho).len
      have hre : rs[e]? = some (recAt rs e) := by simp [recAt, List.getD_eq_getElem?_getD, he]
      have hs := stage_succ l F H rs hc e _ hre h2
      have hH := chain_H l F H rs hc e _ hre
      rw [h3] at hs hH
      rw [hs]; rw [hH] at hok
      omega

/-- What holds in the middle of a drawn order. -/
structure Mid (P : Program) (ops : Array Oper) (rs : List Rec) (F0 : AF) (H0 : AH) (W0 : World) (ds : List Deferred) (listed : Array Bool) (a : Act) (w : World) (r : Nat → Nat) (k : Nat) : Prop where
  size : listed.size = ops.size
  le : k ≤ rank rs rs.length
  eff : ∀ e, e < ops.size → (recAt rs e).isEff = true → (listed.getD e false = true ↔ rank rs e < k)
  st : St r (stage H0 rs k) W0 w
  closed : ∀ i j, i < ops.size → listed.getD i false = true → afterB ops i j = true → listed.getD j false = true
  tsize : a.tmps.size = F0.length
  tmps : ∀ t, a.tmps.getD t Go.undef = (cur ops rs F0 (fun i => listed.getD i false) t).conc r
  sc : ∀ t, (cur ops rs F0 (fun i => listed.getD i false) t).sc (stage H0 rs k).length = true
  defers : a.defers = ds

theorem getD_setB {listed : Array Bool} {i j : Nat} (hi : i < listed.size) : (listed.setIfInBounds i true).getD j false = if j = i then true else listed.getD j false := by
  simp only [Array.getD_eq_getD_getElem?, Array.getElem?_setIfInBounds]
  by_cases h : j = i
  · subst h; simp [hi]
  · rw [if_neg (fun e => h e.symm), if_neg h]

theorem dstOf_some {ops : Array Oper} {t j : Nat} (h : dstOf ops t = some j) : j < ops.size ∧ dstAt ops j = some t := by
  unfold dstOf at h
  have h1 := List.mem_of_find?_eq_some h
  have h2 := List.find?_some h
  refine ⟨List.mem_range.1 h1, ?_⟩
  unfold isDst at h2
  cases hd : dstAt ops j with
  | none => simp [hd] at h2
  | some d => simp [hd] at h2; rw [h2]

theorem AV.sc_undef (n : Nat) : AV.undef.sc n = true := rfl

theorem AV.sc_mono {n m : Nat} (h : n ≤ m) {v : AV} (hv : v.sc n = true) : v.sc m = true := by
  have hc : ∀ c : CV, c.sc n = true → c.sc m = true := fun c hc => by
    cases c <;> simp_all [CV.sc] <;> first | omega | (intro a b hab; have := hc a b hab; omega)
  have ht : ∀ t : TV, t.sc n = true → t.sc m = true := fun t ht => by
    simp only [TV.sc, List.all_eq_true] at *
    exact fun c hcm => hc c (ht c hcm)
  cases v with
  | tv t => exact ht t hv
  | tup l => simp only [AV.sc, List.all_eq_true] at *; exact fun t htm => ht t (hv t htm)

/-- An operation comes up whose time it is. -/
theorem Mid.step {ops : Array Oper} {rs : List Rec} {F0 : AF} {H0 : AH} {W0 : World} {ds : List Deferred} (hc : Chain P ops ops.toList F0 H0 rs) (hm : MixOk ops rs F0 H0) {listed : Array Bool} {a : Act} {w : World} {r : Nat → Nat} {k : Nat}
    (h : Mid P ops rs F0 H0 W0 ds listed a w r k) {i : Nat} {o : Oper} (ho : ops[i]? = some o) (hu : listed.getD i false = false) (hall : ∀ j, afterB ops i j = true → listed.getD j false = true)
    {ro : Option Nat} {n : Nat} {X : Exit → Act → World → Prop} {K : Act → World → Prop}
    (hK : ∀ r' w' a' k', Agree H0.length r r' → Mid P ops rs F0 H0 W0 ds (listed.setIfInBounds i true) a' w' r' k' → K a' w') : wpOpIn (Fw ro) n P ops X i K a w := by
  have hi : i < ops.size := (Array.getElem?_eq_some_iff.1 ho).1
  have hlen : rs.length = ops.size := by rw [chain_len _ _ _ _ hc]; simp
  have hlo : ops.toList[i]? = some o := by simpa using ho
  have hok := chain_ok _ _ _ _ hc i o hlo
  have hri : rs[i]? = some (recAt rs i) := by simp [recAt, List.getD_eq_getElem?_getD, hlen, hi]
  have hH := chain_H _ _ _ _ hc i _ hri
  have hdl : ∀ o ∈ ops.toList, ∀ t, o.dst = some t → t < F0.length := fun o' ho' t ht => by
    obtain ⟨j, hj⟩ := List.mem_iff_getElem?.1 ho'
    have hj' : ops[j]? = some o' := by simpa using hj
    exact (hm.dst j t (Array.getElem?_eq_some_iff.1 hj').1 (by simp [dstAt, hj', ht])).1
  -- what it looks at is as in the text's order
  have hlook : ∀ t ∈ o.looksAt ops, a.tmps.getD t Go.undef = ((recAt rs i).F.getD t .undef).conc r := fun t ht => by
    rw [h.tmps t]
    have hfr := chain_frame r _ _ _ _ hc hdl i (by simpa using hi) t
    unfold cur
    cases hd : dstOf ops t with
    | none =>
      rw [hfr.2 fun j o' hj ho' hdt => ?_]
      have hj' : ops[j]? = some o' := by simpa using ho'
      have := (hm.dst j t (Array.getElem?_eq_some_iff.1 hj').1 (by simp [dstAt, hj', hdt])).2
      rw [hd] at this; cases this
    | some j =>
      obtain ⟨hj, hjd⟩ := dstOf_some hd
      obtain ⟨oj, hoj⟩ : ∃ oj, ops[j]? = some oj := ⟨ops[j], Array.getElem?_eq_getElem hj⟩
      have hojd : oj.dst = some t := by simpa [dstAt, hoj] using hjd
      simp only []
      rcases hm.looks i o t j ho ht hd with ⟨hlt, haf⟩ | ⟨hlt, haf⟩
      · rw [if_pos (hall j haf)]
        refine (hfr.1 j oj hlt (by simpa using hoj) hojd fun k' o' h1 h2 h3 h4 => ?_).symm
        have hk' : ops[k']? = some o' := by simpa using h3
        have := (hm.dst k' t (Array.getElem?_eq_some_iff.1 hk').1 (by simp [dstAt, hk', h4])).2
        rw [hd] at this
        simp at this; omega
      · have hnl : listed.getD j false = false := by
          cases hl : listed.getD j false with
          | false => rfl
          | true => rw [h.closed j i hj hl haf] at hu; cases hu
        simp only [hnl, Bool.false_eq_true, if_false]
        rw [hfr.2 fun j' o' hj' ho' hdt => ?_]
        have hk' : ops[j']? = some o' := by simpa using ho'
        have := (hm.dst j' t (Array.getElem?_eq_some_iff.1 hk').1 (by simp [dstAt, hk', hdt])).2
        rw [hd] at this
        simp at this; omega
  have hev : ∀ x ∈ o.op.operands, a.eval x = ((recAt rs i).F.ev x).conc r := fun x hx => by
    cases x with
    | tmp t => exact hlook t (List.mem_append_left _ (List.mem_filterMap.2 ⟨.tmp t, by simpa using hx, rfl⟩))
    | const v => rfl
    | global g => rfl
    | func f => rfl
  have hwant := wantA_eq hok.want (r := r) (tmps := a.tmps) fun t ht => hlook t (List.mem_append_right _ ht)
  -- the next state
  have next : ∀ (r' : Nat → Nat) (w' : World) (k' : Nat), Agree (stage H0 rs k).length r r' → k ≤ k' → k' ≤ rank rs rs.length → St r' (stage H0 rs k') W0 w' → ((recAt rs i).v.sc (stage H0 rs k').length = true) →
      (∀ e, e < ops.size → (recAt rs e).isEff = true → ((listed.setIfInBounds i true).getD e false = true ↔ rank rs e < k')) →
      Mid P ops rs F0 H0 W0 ds (listed.setIfInBounds i true) (a.put o.dst ((recAt rs i).v.conc r')) w' r' k' := fun r' w' k' hag hkk hk' hst' hvs heff => by
    have his : i < listed.size := by rw [h.size]; exact hi
    have hcur : ∀ t, cur ops rs F0 (fun j => (listed.setIfInBounds i true).getD j false) t = if o.dst = some t then (recAt rs i).v else cur ops rs F0 (fun j => listed.getD j false) t := fun t => by
      unfold cur
      by_cases hdt : o.dst = some t
      · rw [if_pos hdt, (hm.dst i t hi (by simp [dstAt, ho, hdt])).2]
        simp [getD_setB his]
      · rw [if_neg hdt]
        cases hd : dstOf ops t with
        | none => rfl
        | some j =>
          have hne : j ≠ i := fun e => by
            subst e
            obtain ⟨_, hjd⟩ := dstOf_some hd
            simp [dstAt, ho] at hjd
            exact hdt hjd
          simp only [getD_setB his, if_neg hne]
    refine ⟨by simp [h.size], hk', heff, hst', fun j q hj hl haf => ?_, ?_, fun t => ?_, fun t => ?_, by rw [put_defers]; exact h.defers⟩
    · rw [getD_setB his] at hl ⊢
      by_cases e : j = i
      · subst e
        have := hall q haf
        split
        · rfl
        · exact this
      · rw [if_neg e] at hl
        have := h.closed j q hj hl haf
        split
        · rfl
        · exact this
    · cases hd : o.dst <;> simp [Act.put, h.tsize]
    · rw [hcur t]
      by_cases hdt : o.dst = some t
      · rw [if_pos hdt]
        have htl := (hm.dst i t hi (by simp [dstAt, ho, hdt])).1
        simp [hdt, Act.put, Array.getD_eq_getD_getElem?, h.tsize, htl]
      · rw [if_neg hdt]
        have : (a.put o.dst ((recAt rs i).v.conc r')).tmps.getD t Go.undef = a.tmps.getD t Go.undef := by
          cases hd : o.dst with
          | none => rfl
          | some d =>
            simp only [Act.put, Array.getD_eq_getD_getElem?, Array.getElem?_setIfInBounds]
            rw [if_neg (fun e => hdt (by rw [hd, e]))]
        rw [this, h.tmps t]
        exact (AV.conc_agree hag (h.sc t)).symm
    · rw [hcur t]
      split
      · exact hvs
      · exact AV.sc_mono (stage_len hc hkk hk') (h.sc t)
  have heffs : (recAt rs i).isEff = false → ∀ e, e < ops.size → (recAt rs e).isEff = true → ((listed.setIfInBounds i true).getD e false = true ↔ rank rs e < k) := fun hq e he h1 => by
    rw [getD_setB (by rw [h.size]; exact hi)]
    have hne : e ≠ i := fun x => by subst x; rw [hq] at h1; cases h1
    rw [if_neg hne]
    exact h.eff e he h1
  have h0le : H0.length ≤ (stage H0 rs k).length := by
    have := stage_len hc (Nat.zero_le k) h.le
    rwa [stage_zero] at this
  unfold wpOpIn
  simp only [ho]
  -- the edges, by the stages
  have before : ∀ e, e < i → (recAt rs e).isEff = true → loose ops i e = false → rank rs e < k := fun e he h1 hl => by
    have he' : e < ops.size := by omega
    refine (h.eff e he' h1).1 (hall e ?_)
    unfold loose at hl
    simp only [Bool.and_eq_false_iff, Bool.not_eq_false'] at hl
    rcases hl with hl | hl
    · exact hl
    · have := hm.back e i he' hl; omega
  have behind : ∀ e, i < e → e < ops.size → (recAt rs e).isEff = true → loose ops i e = false → k ≤ rank rs e := fun e he he' h1 hl => by
    rcases Nat.lt_or_ge (rank rs e) k with hlt | hge
    · exfalso
      have hle := (h.eff e he' h1).2 hlt
      unfold loose at hl
      simp only [Bool.and_eq_false_iff, Bool.not_eq_false'] at hl
      rcases hl with hl | hl
      · have := hm.back i e hi hl; omega
      · rw [h.closed e i he' hle hl] at hu; cases hu
    · exact hge
  by_cases hq : (recAt rs i).isEff = true
  · -- an effect
    obtain ⟨s, hs⟩ : ∃ s, (recAt rs i).s = some s := by
      unfold Rec.isEff at hq
      cases hs : (recAt rs i).s with
      | none => simp [hs] at hq
      | some s => exact ⟨s, rfl⟩
    rw [hs] at hwant
    rw [if_pos (by rw [hwant]; rfl)]
    have hk : rank rs i = k := by
      rcases Nat.lt_trichotomy (rank rs i) k with hlt | heq | hgt
      · rw [(h.eff i hi hq).2 hlt] at hu; cases hu
      · exact heq
      · exfalso
        obtain ⟨e, he, h1, h2⟩ := rank_exists rs (i := i) (by omega) (m := rank rs i - 1) (by omega)
        have haf := hm.effs i e hi (by omega) hq h1 (by omega)
        have := (h.eff e (by omega) h1).1 (hall e haf)
        omega
    have hsem := hok.sem s hs
    cases s with
    | qt v ft ob => unfold Rec.isEff at hq; simp [hs, SR.isEff] at hq
    | ef v H' ids ob =>
      have hv : (recAt rs i).v = v := by simp [Rec.v, hs, SR.v]
      have hheap : (recAt rs i).heap = H' := by simp [Rec.heap, hs, SR.heap]
      have hsucc := stage_succ _ _ _ _ hc i _ hri hq
      rw [hk, hheap] at hsucc
      rw [hk] at hH
      have hlt : k < rank rs rs.length := by rw [← hk]; exact rank_lt rs (by omega) (Nat.le_refl _) hq
      refine ESem.wp hsem.1 hev (by rw [hH]; exact h.st) fun r' w' hag hst' => ?_
      rw [hH] at hag
      have := next r' w' (k + 1) hag (by omega) hlt (by rw [hsucc]; exact hst') (by rw [hsucc, ← hheap]; exact hm.effv i hi hq) fun e he h1 => by
        rw [getD_setB (by rw [h.size]; exact hi)]
        by_cases hei : e = i
        · subst hei; simp [hk]
        · rw [if_neg hei, h.eff e he h1]
          constructor
          · intro hh; omega
          · intro hh
            rcases Nat.lt_or_ge (rank rs e) k with h' | h'
            · exact h'
            · exfalso
              have : rank rs e = k := by omega
              rcases Nat.lt_trichotomy e i with hl | hl | hl
              · have := rank_lt rs hl (by omega) h1; omega
              · exact hei hl
              · have := rank_lt rs hl (by omega) hq; omega
      rw [hv] at this
      exact hK r' w' _ (k + 1) (fun j hj => hag j (by omega)) this
  · -- none
    have hqf : (recAt rs i).isEff = false := by simpa using hq
    have hag0 : Agree (stage H0 rs k).length r r := Agree.refl _ _
    cases hs : (recAt rs i).s with
    | none =>
      rw [hs] at hwant
      rw [if_neg (by rw [hwant]; simp)]
      refine ⟨fun _ _ => trivial, ?_⟩
      have hv : (recAt rs i).v = .undef := by simp [Rec.v, hs]
      have := next r w k hag0 (Nat.le_refl _) h.le h.st (by rw [hv]; rfl) (heffs hqf)
      rw [hv, undef_conc] at this
      exact hK r w _ k (Agree.refl _ _) this
    | some s =>
      rw [hs] at hwant
      rw [if_pos (by rw [hwant]; rfl)]
      have hsem := hok.sem s hs
      cases s with
      | ef v H' ids ob => unfold Rec.isEff at hqf; simp [hs, SR.isEff] at hqf
      | qt v ft ob =>
        have hv : (recAt rs i).v = v := by simp [Rec.v, hs, SR.v]
        have hft : (recAt rs i).foot = ft := by simp [Rec.foot, hs, SR.foot]
        have main : At r (recAt rs i).H ft w ∧ (recAt rs i).v.sc (stage H0 rs k).length = true := by
          rcases hm.feet i hi hqf with ⟨hl, hvs⟩ | ⟨h1, h2, h3⟩
          · have hk : rank rs i = k := by
              rcases Nat.lt_trichotomy (rank rs i) k with hlt | heq | hgt
              · exfalso
                obtain ⟨e, he, h1, h2⟩ := rank_exists rs (Nat.le_refl rs.length) (m := rank rs i) (by have := h.le; omega)
                have hei : i < e := by
                  rcases Nat.lt_trichotomy e i with hl' | hl' | hl'
                  · have := rank_lt rs hl' (by omega) h1; omega
                  · subst hl'; rw [hqf] at h1; cases h1
                  · exact hl'
                have := behind e hei (by omega) h1 (hl e (by omega) h1)
                omega
              · exact heq
              · exfalso
                obtain ⟨e, he, h1, h2⟩ := rank_exists rs (i := i) (by omega) (m := k) hgt
                have := before e he h1 (hl e (by omega) h1)
                omega
            rw [hk] at hH
            refine ⟨?_, by rw [← hH]; exact hvs⟩
            rw [hH]
            exact h.st.At ft
          · refine ⟨fun x hx y hy => ?_, AV.sc_mono h0le h3⟩
            have hxl := h1 x (by rw [hft]; exact hx)
            refine h.st.at_ x y ?_
            rw [hH] at hy
            rw [← hy]
            -- between the two stages nobody writes x
            have hno : ∀ e, e < rs.length → (recAt rs e).isEff = true → ((rank rs i ≤ rank rs e ∧ rank rs e < k) ∨ (k ≤ rank rs e ∧ rank rs e < rank rs i)) → x ∉ (recAt rs e).ids := fun e he hef hbt => by
              refine h2 e (by omega) hef ?_ x (by rw [hft]; exact hx)
              cases hlo : loose ops i e with
              | true => rfl
              | false =>
                exfalso
                rcases Nat.lt_trichotomy e i with hl' | hl' | hl'
                · have h5 := before e hl' hef hlo
                  have h6 := rank_lt rs hl' (by omega) hef
                  omega
                · subst hl'; rw [hqf] at hef; cases hef
                · have h5 := behind e hl' (by omega) hef hlo
                  have h6 := rank_mono rs (i := i) (j := e) (by omega) (by omega)
                  omega
            have hri' : rank rs i ≤ rank rs rs.length := rank_mono rs (by omega) (Nat.le_refl _)
            rcases Nat.le_total (rank rs i) k with hle | hle
            · obtain ⟨d, rfl⟩ := Nat.exists_eq_add_of_le hle
              exact (stage_keep hc (rank rs i) d h.le (by have := stage_len hc (Nat.zero_le (rank rs i)) hri'; rw [stage_zero] at this; omega) fun e he hef hh1 hh2 => hno e he hef (.inl ⟨hh1, hh2⟩)).1
            · obtain ⟨d, hd⟩ := Nat.exists_eq_add_of_le hle
              rw [hd]
              exact (stage_keep hc k d (by omega) (by omega) fun e he hef hh1 hh2 => hno e he hef (.inr ⟨hh1, by omega⟩)).1.symm
        refine QSem.wp hsem hev main.1 fun w' hb => ?_
        have := next r w' k hag0 (Nat.le_refl _) h.le (h.st.grow hb) main.2 (heffs hqf)
        rw [hv] at this
        exact hK r w' _ k (Agree.refl _ _) this

end Go.Proofs.Ytodcebpdmjdplaa
