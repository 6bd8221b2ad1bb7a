/- The executor, twelfth part: the proof for a drawn order, and regions of both kinds. The executor, thirteenth part: a region, its order drawn or not. The executor, fourteenth part: code, up to its end or the next loop; a function. -/
import Derived.Test.YtobonipmnidadaaJ3
import Derived.RangeFuncLeaves
import Derived.LoopNIn
namespace Go.Proofs.Ytobonipmnidadaa
open Go.RowKit
variable {P : Program} {T : CT P}

theorem stage_keep {ops : Array Oper} {l : List Oper} {F : AF} {H : AH} {rs : List Rec} (hc : Chain P ops l F H rs) {x : Nat} (m : Nat) : ∀ (d : Nat), m + d ≤ rank rs rs.length → x < (stage H rs m).length →
    (∀ e, e < rs.length → (recAt rs e).isEff = true → m ≤ rank rs e → rank rs e < m + d → x ∉ (recAt rs e).ids) → (stage H rs (m + d))[x]? = (stage H rs m)[x]? ∧ (stage H rs m).length ≤ (stage H rs (m + d)).length
  | 0, _, _, _ => ⟨rfl, Nat.le_refl _⟩
  | d + 1, hle, hx, hno => by
    obtain ⟨ih1, ih2⟩ := stage_keep hc m d (by omega) hx fun e he h1 h2 h3 => hno e he h1 h2 (by omega)
    obtain ⟨e, he, h1, h2⟩ := rank_exists rs (Nat.le_refl rs.length) (m := m + d) (by omega)
    have hlen := chain_len l F H rs hc
    obtain ⟨o, ho⟩ : ∃ o, l[e]? = some o := ⟨l[e]'(by omega), List.getElem?_eq_getElem _⟩
    have hok := chain_ok l F H rs hc e o ho
    have hre : rs[e]? = some (recAt rs e) := by simp [recAt, List.getD_eq_getElem?_getD, he]
    have hs := stage_succ l F H rs hc e _ hre h1
    have hH := chain_H l F H rs hc e _ hre
    rw [h2] at hs hH
    have hxe : x < (recAt rs e).H.length := by rw [hH]; omega
    constructor
    · rw [show m + (d + 1) = m + d + 1 from rfl, hs, hok.keep x hxe (hno e he h1 (by omega) (by omega)), hH, ih1]
    · rw [show m + (d + 1) = m + d + 1 from rfl, hs]
      have := hok.len
      rw [hH] at this
      omega

theorem stage_len {ops : Array Oper} {l : List Oper} {F : AF} {H : AH} {rs : List Rec} (hc : Chain P ops l F H rs) {m m' : Nat} (h : m ≤ m') (hle : m' ≤ rank rs rs.length) : (stage H rs m).length ≤ (stage H rs m').length := by
  induction m' with
  | zero => have : m = 0 := by omega
            subst this; exact Nat.le_refl _
  | succ m' ih =>
    by_cases e : m = m' + 1
    · subst e; exact Nat.le_refl _
    · have h1 := ih (by omega) (by omega)
      obtain ⟨e, he, h2, h3⟩ := rank_exists rs (Nat.le_refl rs.length) (m := m') (by omega)
      have hlen := chain_len l F H rs hc
      obtain ⟨o, ho⟩ : ∃ o, l[e]? = some o := ⟨l[e]'(by omega), List.getElem?_eq_getElem _⟩
      have hok := (chain_ok l F H rs hc e o ho).len
      have hre : rs[e]? = some (recAt rs e) := by simp [recAt, List.getD_eq_getElem?_getD, he]
      have hs := stage_succ l F H rs hc e _ hre h2
      have hH := chain_H l F H rs hc e _ hre
      rw [h3] at hs hH
      rw [hs]; rw [hH] at hok
      omega

/-- What holds in the middle of a drawn order. -/
structure Mid (P : Program) (ops : Array Oper) (rs : List Rec) (F0 : AF) (H0 : AH) (W0 : Base) (ds : List Deferred) (listed : Array Bool) (a : Act) (w : World) (r : Gh) (k : Nat) : Prop where
  size : listed.size = ops.size
  le : k ≤ rank rs rs.length
  eff : ∀ e, e < ops.size → (recAt rs e).isEff = true → (listed.getD e false = true ↔ rank rs e < k)
  st : St r (stage H0 rs k) W0 w
  closed : ∀ i j, i < ops.size → listed.getD i false = true → afterB ops i j = true → listed.getD j false = true
  tsize : a.tmps.size = F0.length
  tmps : ∀ t, a.tmps.getD t Go.undef = (cur ops rs F0 (fun i => listed.getD i false) t).conc r
  sc : ∀ t, (cur ops rs F0 (fun i => listed.getD i false) t).sc (stage H0 rs k).length = true
  defers : a.defers = ds

theorem getD_setB {listed : Array Bool} {i j : Nat} (hi : i < listed.size) : (listed.setIfInBounds i true).getD j false = if j = i then true else listed.getD j false := by
  simp only [Array.getD_eq_getD_getElem?, Array.getElem?_setIfInBounds]
  by_cases h : j = i
  · subst h; simp [hi]
  · rw [if_neg (fun e => h e.symm), if_neg h]

theorem dstOf_some {ops : Array Oper} {t j : Nat} (h : dstOf ops t = some j) : j < ops.size ∧ dstAt ops j = some t := by
  unfold dstOf at h
  have h1 := List.mem_of_find?_eq_some h
  have h2 := List.find?_some h
  refine ⟨List.mem_range.1 h1, ?_⟩
  unfold isDst at h2
  cases hd : dstAt ops j with
  | none => simp [hd] at h2
  | some d => simp [hd] at h2; rw [h2]

/-- An operation comes up whose time it is. -/
theorem Mid.step {ops : Array Oper} {rs : List Rec} {F0 : AF} {H0 : AH} {W0 : Base} {ds : List Deferred} (hc : Chain P ops ops.toList F0 H0 rs) (hm : MixOk ops rs F0 H0) {listed : Array Bool} {a : Act} {w : World} {r : Gh} {k : Nat}
    (h : Mid P ops rs F0 H0 W0 ds listed a w r k) {i : Nat} {o : Oper} (ho : ops[i]? = some o) (hu : listed.getD i false = false) (hall : ∀ j, afterB ops i j = true → listed.getD j false = true)
    {ro : Option Nat} {n : Nat} {X : Exit → Act → World → Prop} {K : Act → World → Prop}
    (hK : ∀ r' w' a' k', Agree H0.length r r' → Mid P ops rs F0 H0 W0 ds (listed.setIfInBounds i true) a' w' r' k' → K a' w') : wpOpIn (Fw ro) n P ops X i K a w := by
  have hi : i < ops.size := (Array.getElem?_eq_some_iff.1 ho).1
  have hlen : rs.length = ops.size := by rw [chain_len _ _ _ _ hc]; simp
  have hlo : ops.toList[i]? = some o := by simpa using ho
  have hok := chain_ok _ _ _ _ hc i o hlo
  have hri : rs[i]? = some (recAt rs i) := by simp [recAt, List.getD_eq_getElem?_getD, hlen, hi]
  have hH := chain_H _ _ _ _ hc i _ hri
  have hdl : ∀ o ∈ ops.toList, ∀ t, o.dst = some t → t < F0.length := fun o' ho' t ht => by
    obtain ⟨j, hj⟩ := List.mem_iff_getElem?.1 ho'
    have hj' : ops[j]? = some o' := by simpa using hj
    exact (hm.dst j t (Array.getElem?_eq_some_iff.1 hj').1 (by simp [dstAt, hj', ht])).1
  -- what it looks at is as in the text's order
  have hlook : ∀ t ∈ o.looksAt ops, a.tmps.getD t Go.undef = ((recAt rs i).F.getD t .undef).conc r := fun t ht => by
    rw [h.tmps t]
    have hfr := chain_frame r _ _ _ _ hc hdl i (by simpa using hi) t
    unfold cur
    cases hd : dstOf ops t with
    | none =>
      rw [hfr.2 fun j o' hj ho' hdt => ?_]
      have hj' : ops[j]? = some o' := by simpa using ho'
      have := (hm.dst j t (Array.getElem?_eq_some_iff.1 hj').1 (by simp [dstAt, hj', hdt])).2
      rw [hd] at this; cases this
    | some j =>
      obtain ⟨hj, hjd⟩ := dstOf_some hd
      obtain ⟨oj, hoj⟩ : ∃ oj, ops[j]? = some oj := ⟨ops[j], Array.getElem?_eq_getElem hj⟩
      have hojd : oj.dst = some t := by simpa [dstAt, hoj] using hjd
      simp only []
      rcases hm.looks i o t j ho ht hd with ⟨hlt, haf⟩ | ⟨hlt, haf⟩
      · rw [if_pos (hall j haf)]
        refine (hfr.1 j oj hlt (by simpa using hoj) hojd fun k' o' h1 h2 h3 h4 => ?_).symm
        have hk' : ops[k']? = some o' := by simpa using h3
        have := (hm.dst k' t (Array.getElem?_eq_some_iff.1 hk').1 (by simp [dstAt, hk', h4])).2
        rw [hd] at this
        simp at this; omega
      · have hnl : listed.getD j false = false := by
          cases hl : listed.getD j false with
          | false => rfl
          | true => rw [h.closed j i hj hl haf] at hu; cases hu
        simp only [hnl, Bool.false_eq_true, if_false]
        rw [hfr.2 fun j' o' hj' ho' hdt => ?_]
        have hk' : ops[j']? = some o' := by simpa using ho'
        have := (hm.dst j' t (Array.getElem?_eq_some_iff.1 hk').1 (by simp [dstAt, hk', hdt])).2
        rw [hd] at this
        simp at this; omega
  have hev : ∀ x ∈ o.op.operands, a.eval x = ((recAt rs i).F.ev x).conc r := fun x hx => by
    cases x with
    | tmp t => exact hlook t (List.mem_append_left _ (List.mem_filterMap.2 ⟨.tmp t, by simpa using hx, rfl⟩))
    | const v => rfl
    | global g => rfl
    | func f => rfl
  have hwant := wantA_eq hok.want (r := r) (tmps := a.tmps) fun t ht => hlook t (List.mem_append_right _ ht)
  -- the next state
  have next : ∀ (r' : Gh) (w' : World) (k' : Nat), Agree (stage H0 rs k).length r r' → k ≤ k' → k' ≤ rank rs rs.length → St r' (stage H0 rs k') W0 w' → ((recAt rs i).v.sc (stage H0 rs k').length = true) →
      (∀ e, e < ops.size → (recAt rs e).isEff = true → ((listed.setIfInBounds i true).getD e false = true ↔ rank rs e < k')) →
      Mid P ops rs F0 H0 W0 ds (listed.setIfInBounds i true) (a.put o.dst ((recAt rs i).v.conc r')) w' r' k' := fun r' w' k' hag hkk hk' hst' hvs heff => by
    have his : i < listed.size := by rw [h.size]; exact hi
    have hcur : ∀ t, cur ops rs F0 (fun j => (listed.setIfInBounds i true).getD j false) t = if o.dst = some t then (recAt rs i).v else cur ops rs F0 (fun j => listed.getD j false) t := fun t => by
      unfold cur
      by_cases hdt : o.dst = some t
      · rw [if_pos hdt, (hm.dst i t hi (by simp [dstAt, ho, hdt])).2]
        simp [getD_setB his]
      · rw [if_neg hdt]
        cases hd : dstOf ops t with
        | none => rfl
        | some j =>
          have hne : j ≠ i := fun e => by
            subst e
            obtain ⟨_, hjd⟩ := dstOf_some hd
            simp [dstAt, ho] at hjd
            exact hdt hjd
          simp only [getD_setB his, if_neg hne]
    refine ⟨by simp [h.size], hk', heff, hst', fun j q hj hl haf => ?_, ?_, fun t => ?_, fun t => ?_, by rw [put_defers]; exact h.defers⟩
    · rw [getD_setB his] at hl ⊢
      by_cases e : j = i
      · subst e
        have := hall q haf
        split
        · rfl
        · exact this
      · rw [if_neg e] at hl
        have := h.closed j q hj hl haf
        split
        · rfl
        · exact this
    · cases hd : o.dst <;> simp [Act.put, h.tsize]
    · rw [hcur t]
      by_cases hdt : o.dst = some t
      · rw [if_pos hdt]
        have htl := (hm.dst i t hi (by simp [dstAt, ho, hdt])).1
        simp [hdt, Act.put, Array.getD_eq_getD_getElem?, h.tsize, htl]
      · rw [if_neg hdt]
        have : (a.put o.dst ((recAt rs i).v.conc r')).tmps.getD t Go.undef = a.tmps.getD t Go.undef := by
          cases hd : o.dst with
          | none => rfl
          | some d =>
            simp only [Act.put, Array.getD_eq_getD_getElem?, Array.getElem?_setIfInBounds]
            rw [if_neg (fun e => hdt (by rw [hd, e]))]
        rw [this, h.tmps t]
        exact (AV.conc_agree hag (h.sc t)).symm
    · rw [hcur t]
      split
      · exact hvs
      · exact AV.sc_mono (stage_len hc hkk hk') (h.sc t)
  have heffs : (recAt rs i).isEff = false → ∀ e, e < ops.size → (recAt rs e).isEff = true → ((listed.setIfInBounds i true).getD e false = true ↔ rank rs e < k) := fun hq e he h1 => by
    rw [getD_setB (by rw [h.size]; exact hi)]
    have hne : e ≠ i := fun x => by subst x; rw [hq] at h1; cases h1
    rw [if_neg hne]
    exact h.eff e he h1
  have h0le : H0.length ≤ (stage H0 rs k).length := by
    have := stage_len hc (Nat.zero_le k) h.le
    rwa [stage_zero] at this
  unfold wpOpIn
  simp only [ho]
  -- the edges, by the stages
  have before : ∀ e, e < i → (recAt rs e).isEff = true → loose ops i e = false → rank rs e < k := fun e he h1 hl => by
    have he' : e < ops.size := by omega
    refine (h.eff e he' h1).1 (hall e ?_)
    unfold loose at hl
    simp only [Bool.and_eq_false_iff, Bool.not_eq_false'] at hl
    rcases hl with hl | hl
    · exact hl
    · have := hm.back e i he' hl; omega
  have behind : ∀ e, i < e → e < ops.size → (recAt rs e).isEff = true → loose ops i e = false → k ≤ rank rs e := fun e he he' h1 hl => by
    rcases Nat.lt_or_ge (rank rs e) k with hlt | hge
    · exfalso
      have hle := (h.eff e he' h1).2 hlt
      unfold loose at hl
      simp only [Bool.and_eq_false_iff, Bool.not_eq_false'] at hl
      rcases hl with hl | hl
      · have := hm.back i e hi hl; omega
      · rw [h.closed e i he' hle hl] at hu; cases hu
    · exact hge
  by_cases hq : (recAt rs i).isEff = true
  · -- an effect
    obtain ⟨s, hs⟩ : ∃ s, (recAt rs i).s = some s := by
      unfold Rec.isEff at hq
      cases hs : (recAt rs i).s with
      | none => simp [hs] at hq
      | some s => exact ⟨s, rfl⟩
    rw [hs] at hwant
    rw [if_pos (by rw [hwant]; rfl)]
    have hk : rank rs i = k := by
      rcases Nat.lt_trichotomy (rank rs i) k with hlt | heq | hgt
      · rw [(h.eff i hi hq).2 hlt] at hu; cases hu
      · exact heq
      · exfalso
        obtain ⟨e, he, h1, h2⟩ := rank_exists rs (i := i) (by omega) (m := rank rs i - 1) (by omega)
        have haf := hm.effs i e hi (by omega) hq h1 (by omega)
        have := (h.eff e (by omega) h1).1 (hall e haf)
        omega
    have hsem := hok.sem s hs
    cases s with
    | qt v ft ob => unfold Rec.isEff at hq; simp [hs, SR.isEff] at hq
    | ef v H' ids ob =>
      have hv : (recAt rs i).v = v := by simp [Rec.v, hs, SR.v]
      have hheap : (recAt rs i).heap = H' := by simp [Rec.heap, hs, SR.heap]
      have hsucc := stage_succ _ _ _ _ hc i _ hri hq
      rw [hk, hheap] at hsucc
      rw [hk] at hH
      have hlt : k < rank rs rs.length := by rw [← hk]; exact rank_lt rs (by omega) (Nat.le_refl _) hq
      refine ESem.wp hsem.1 hev (by rw [hH]; exact h.st) fun r' w' hag hst' => ?_
      rw [hH] at hag
      have := next r' w' (k + 1) hag (by omega) hlt (by rw [hsucc]; exact hst') (by rw [hsucc, ← hheap]; exact hm.effv i hi hq) fun e he h1 => by
        rw [getD_setB (by rw [h.size]; exact hi)]
        by_cases hei : e = i
        · subst hei; simp [hk]
        · rw [if_neg hei, h.eff e he h1]
          constructor
          · intro hh; omega
          · intro hh
            rcases Nat.lt_or_ge (rank rs e) k with h' | h'
            · exact h'
            · exfalso
              have : rank rs e = k := by omega
              rcases Nat.lt_trichotomy e i with hl | hl | hl
              · have := rank_lt rs hl (by omega) h1; omega
              · exact hei hl
              · have := rank_lt rs hl (by omega) hq; omega
      rw [hv] at this
      exact hK r' w' _ (k + 1) (hag.mono (by omega)) this
  · -- none
    have hqf : (recAt rs i).isEff = false := by simpa using hq
    have hag0 : Agree (stage H0 rs k).length r r := Agree.refl _ _
    cases hs : (recAt rs i).s with
    | none =>
      rw [hs] at hwant
      rw [if_neg (by rw [hwant]; simp)]
      refine ⟨fun _ _ => trivial, ?_⟩
      have hv : (recAt rs i).v = .undef := by simp [Rec.v, hs]
      have := next r w k hag0 (Nat.le_refl _) h.le h.st (by rw [hv]; rfl) (heffs hqf)
      rw [hv, undef_conc] at this
      exact hK r w _ k (Agree.refl _ _) this
    | some s =>
      rw [hs] at hwant
      rw [if_pos (by rw [hwant]; rfl)]
      have hsem := hok.sem s hs
      cases s with
      | ef v H' ids ob => unfold Rec.isEff at hqf; simp [hs, SR.isEff] at hqf
      | qt v ft ob =>
        have hv : (recAt rs i).v = v := by simp [Rec.v, hs, SR.v]
        have hft : (recAt rs i).foot = ft := by simp [Rec.foot, hs, SR.foot]
        have main : At r (recAt rs i).H ft w ∧ (recAt rs i).v.sc (stage H0 rs k).length = true := by
          rcases hm.feet i hi hqf with ⟨hl, hvs⟩ | ⟨h1, h2, h3⟩
          · have hk : rank rs i = k := by
              rcases Nat.lt_trichotomy (rank rs i) k with hlt | heq | hgt
              · exfalso
                obtain ⟨e, he, h1, h2⟩ := rank_exists rs (Nat.le_refl rs.length) (m := rank rs i) (by have := h.le; omega)
                have hei : i < e := by
                  rcases Nat.lt_trichotomy e i with hl' | hl' | hl'
                  · have := rank_lt rs hl' (by omega) h1; omega
                  · subst hl'; rw [hqf] at h1; cases h1
                  · exact hl'
                have := behind e hei (by omega) h1 (hl e (by omega) h1)
                omega
              · exact heq
              · exfalso
                obtain ⟨e, he, h1, h2⟩ := rank_exists rs (i := i) (by omega) (m := k) hgt
                have := before e he h1 (hl e (by omega) h1)
                omega
            rw [hk] at hH
            refine ⟨?_, by rw [← hH]; exact hvs⟩
            rw [hH]
            exact h.st.At ft
          · refine ⟨⟨_, _, h.st, fun x hx => ?_⟩, AV.sc_mono h0le h3⟩
            have hxl := h1 x (by rw [hft]; exact hx)
            rw [hH]
            -- between the two stages nobody writes x
            have hno : ∀ e, e < rs.length → (recAt rs e).isEff = true → ((rank rs i ≤ rank rs e ∧ rank rs e < k) ∨ (k ≤ rank rs e ∧ rank rs e < rank rs i)) → x ∉ (recAt rs e).ids := fun e he hef hbt => by
              refine h2 e (by omega) hef ?_ x (by rw [hft]; exact hx)
              cases hlo : loose ops i e with
              | true => rfl
              | false =>
                exfalso
                rcases Nat.lt_trichotomy e i with hl' | hl' | hl'
                · have h5 := before e hl' hef hlo
                  have h6 := rank_lt rs hl' (by omega) hef
                  omega
                · subst hl'; rw [hqf] at hef; cases hef
                · have h5 := behind e hl' (by omega) hef hlo
                  have h6 := rank_mono rs (i := i) (j := e) (by omega) (by omega)
                  omega
            have hri' : rank rs i ≤ rank rs rs.length := rank_mono rs (by omega) (Nat.le_refl _)
            rcases Nat.le_total (rank rs i) k with hle | hle
            · obtain ⟨d, rfl⟩ := Nat.exists_eq_add_of_le hle
              exact (stage_keep hc (rank rs i) d h.le (by have := stage_len hc (Nat.zero_le (rank rs i)) hri'; rw [stage_zero] at this; omega) fun e he hef hh1 hh2 => hno e he hef (.inl ⟨hh1, hh2⟩)).1
            · obtain ⟨d, hd⟩ := Nat.exists_eq_add_of_le hle
              rw [hd]
              exact (stage_keep hc k d (by omega) (by omega) fun e he hef hh1 hh2 => hno e he hef (.inr ⟨hh1, by omega⟩)).1.symm
        refine QSem.wp hsem hev main.1 fun w' hb => ?_
        have := next r w' k hag0 (Nat.le_refl _) h.le (h.st.grow hb) main.2 (heffs hqf)
        rw [hv] at this
        exact hK r w' _ k (Agree.refl _ _) this

end Go.Proofs.Ytobonipmnidadaa

namespace Go.Proofs.Ytobonipmnidadaa
open Go.RowKit
variable {P : Program} {T : CT P}

theorem runOps_stage {ops : Array Oper} {rid : Nat} : ∀ (l : List Oper) (i : Nat) (F : AF) (H : AH) (D : List Dec) (F' : AF) (H' : AH) (D' : List Dec) (ps : List Prop) (rs : List Rec),
    runOps P T ops rid i l F H D = some (F', H', D', ps, rs) → H' = stage H rs (rank rs rs.length)
  | [], i, F, H, D, F', H', D', ps, rs, h => by
    simp [runOps] at h
    obtain ⟨_, rfl, _, _, rfl⟩ := h
    rfl
  | o :: l, i, F, H, D, F', H', D', ps, rs, h => by
    unfold runOps at h
    cases hsub : subS (rid * 1000 + i) F D with
    | mk F1 q =>
      obtain ⟨D1, p⟩ := q
      simp only [hsub] at h
      cases hw : wantA ops F1 o with
      | none => simp [hw] at h
      | some b =>
        simp only [hw] at h
        cases b with
        | true =>
          simp only [] at h
          cases hb : bareA P T (rid * 1000 + i) o F1 H D1 with
          | none => simp [hb] at h
          | some x =>
            obtain ⟨s, D2⟩ := x
            simp only [hb] at h
            cases hr : runOps P T ops rid (i + 1) l (putF F1 o.dst s.v) (s.heap H) D2 with
            | none => simp [hr] at h
            | some y =>
              obtain ⟨F2, H2, D3, ps', rs'⟩ := y
              simp only [hr, Option.some.injEq, Prod.mk.injEq] at h
              obtain ⟨rfl, rfl, rfl, rfl, rfl⟩ := h
              rw [runOps_stage l _ _ _ _ _ _ _ _ _ hr]
              simp only [List.length_cons, rank]
              conv => rhs; unfold stage
              cases s with
              | qt v ft ob => simp [Rec.isEff, SR.isEff, SR.heap]
              | ef v H' ids ob => simp [Rec.isEff, SR.isEff, SR.heap, Rec.heap, Nat.add_comm 1]
        | false =>
          simp only [] at h
          cases hr : runOps P T ops rid (i + 1) l (putF F1 o.dst .undef) H D1 with
          | none => simp [hr] at h
          | some y =>
            obtain ⟨F2, H2, D3, ps', rs'⟩ := y
            simp only [hr, Option.some.injEq, Prod.mk.injEq] at h
            obtain ⟨rfl, rfl, rfl, rfl, rfl⟩ := h
            rw [runOps_stage l _ _ _ _ _ _ _ _ _ hr]
            simp only [List.length_cons, rank]
            conv => rhs; unfold stage
            simp [Rec.isEff]

theorem putF_length (F : AF) (d : Option Tmp) (v : AV) : (putF F d v).length = F.length := by cases d <;> simp [putF]

/-- The frame at the end. -/
theorem runOps_frame {ops : Array Oper} {rid : Nat} (g : Gh) (t : Nat) : ∀ (l : List Oper) (i : Nat) (F : AF) (H : AH) (D : List Dec) (F' : AF) (H' : AH) (D' : List Dec) (ps : List Prop) (rs : List Rec),
    runOps P T ops rid i l F H D = some (F', H', D', ps, rs) → Holds ps → (∀ o ∈ l, ∀ t, o.dst = some t → t < F.length) →
    F'.length = F.length ∧
    (∀ (j : Nat) (o : Oper), l[j]? = some o → o.dst = some t → (∀ (k : Nat) (o' : Oper), j < k → l[k]? = some o' → o'.dst ≠ some t) → (F'.getD t .undef).conc g = (recAt rs j).v.conc g) ∧
    ((∀ (j : Nat) (o : Oper), l[j]? = some o → o.dst ≠ some t) → (F'.getD t .undef).conc g = (F.getD t .undef).conc g)
  | [], i, F, H, D, F', H', D', ps, rs, h, _, _ => by
    simp [runOps] at h
    obtain ⟨rfl, _⟩ := h
    exact ⟨rfl, fun j o ho => by simp at ho, fun _ => rfl⟩
  | o :: l, i, F, H, D, F', H', D', ps, rs, h, hps, hd => by
    unfold runOps at h
    cases hsub : subS (rid * 1000 + i) F D with
    | mk F1 q =>
      obtain ⟨D1, p⟩ := q
      simp only [hsub] at h
      have main : ∀ (v : AV) (r0 : Rec) (rs' : List Rec) (F2 : AF), Owed p → r0.v = v → rs = r0 :: rs' → F' = F2 →
          (F2.length = (putF F1 o.dst v).length ∧
            (∀ (j : Nat) (o' : Oper), l[j]? = some o' → o'.dst = some t → (∀ (k : Nat) (o'' : Oper), j < k → l[k]? = some o'' → o''.dst ≠ some t) → (F2.getD t .undef).conc g = (recAt rs' j).v.conc g) ∧
            ((∀ (j : Nat) (o' : Oper), l[j]? = some o' → o'.dst ≠ some t) → (F2.getD t .undef).conc g = ((putF F1 o.dst v).getD t .undef).conc g)) →
          F'.length = F.length ∧
          (∀ (j : Nat) (o' : Oper), (o :: l)[j]? = some o' → o'.dst = some t → (∀ (k : Nat) (o'' : Oper), j < k → (o :: l)[k]? = some o'' → o''.dst ≠ some t) → (F'.getD t .undef).conc g = (recAt rs j).v.conc g) ∧
          ((∀ (j : Nat) (o' : Oper), (o :: l)[j]? = some o' → o'.dst ≠ some t) → (F'.getD t .undef).conc g = (F.getD t .undef).conc g) := by
        rintro v r0 rs' F2 hp rfl rfl rfl ⟨h1, h2, h3⟩
        have hc := subS_conc hsub hp
        refine ⟨by rw [h1, putF_length, hc.2], fun j o' ho' ht hno => ?_, fun hno => ?_⟩
        · cases j with
          | zero =>
            simp at ho'; subst ho'
            rw [h3 fun j o'' ho'' => hno (j + 1) o'' (by omega) (by simpa using ho'')]
            have htl : t < F1.length := by rw [hc.2]; exact hd o (by simp) t ht
            simp [putF, ht, recAt, List.getD_eq_getElem?_getD, htl]
          | succ j =>
            rw [h2 j o' (by simpa using ho') ht fun k o'' hk ho'' => hno (k + 1) o'' (by omega) (by simpa using ho'')]
            simp [recAt]
        · rw [h3 fun j o'' ho'' => hno (j + 1) o'' (by simpa using ho'')]
          have h0 := hno 0 o (by simp)
          have : (putF F1 o.dst r0.v).getD t .undef = F1.getD t .undef := by
            unfold putF
            cases hd' : o.dst with
            | none => rfl
            | some d =>
              rw [hd'] at h0
              simp only [List.getD_eq_getElem?_getD, List.getElem?_set]
              rw [if_neg (fun e => h0 (by rw [e]))]
          rw [this]
          exact hc.1 g t
      have hdl : ∀ (v : AV), Owed p → ∀ o' ∈ l, ∀ t, o'.dst = some t → t < (putF F1 o.dst v).length := fun v hp o' ho' t ht => by
        rw [putF_length, (subS_conc hsub hp).2]; exact hd o' (List.mem_cons_of_mem _ ho') t ht
      cases hw : wantA ops F1 o with
      | none => simp [hw] at h
      | some b =>
        simp only [hw] at h
        cases b with
        | true =>
          simp only [] at h
          cases hb : bareA P T (rid * 1000 + i) o F1 H D1 with
          | none => simp [hb] at h
          | some x =>
            obtain ⟨s, D2⟩ := x
            simp only [hb] at h
            cases hr : runOps P T ops rid (i + 1) l (putF F1 o.dst s.v) (s.heap H) D2 with
            | none => simp [hr] at h
            | some y =>
              obtain ⟨F2, H2, D3, ps', rs'⟩ := y
              simp only [hr, Option.some.injEq, Prod.mk.injEq] at h
              obtain ⟨e1, e2, e3, rfl, e5⟩ := h
              obtain ⟨hp, hps⟩ := hps.addO
              obtain ⟨hso, hps⟩ := hps.addO
              exact main s.v ⟨F1, H, some s⟩ rs' F2 hp rfl e5.symm e1.symm (runOps_frame g t l _ _ _ _ _ _ _ _ _ hr hps (hdl _ hp))
        | false =>
          simp only [] at h
          cases hr : runOps P T ops rid (i + 1) l (putF F1 o.dst .undef) H D1 with
          | none => simp [hr] at h
          | some y =>
            obtain ⟨F2, H2, D3, ps', rs'⟩ := y
            simp only [hr, Option.some.injEq, Prod.mk.injEq] at h
            obtain ⟨e1, e2, e3, rfl, e5⟩ := h
            obtain ⟨hp, hps⟩ := hps.addO
            exact main .undef ⟨F1, H, none⟩ rs' F2 hp rfl e5.symm e1.symm (runOps_frame g t l _ _ _ _ _ _ _ _ _ hr hps (hdl _ hp))

theorem countP_less (p q : Nat → Bool) (i : Nat) (h : ∀ j, j ≠ i → q j = p j) (hp : p i = true) (hq : q i = false) : ∀ n, i < n → (List.range n).countP q + 1 = (List.range n).countP p
  | 0, hi => by omega
  | n + 1, hi => by
    rw [List.range_succ, List.countP_append, List.countP_append]
    by_cases e : i = n
    · subst e
      have : (List.range i).countP q = (List.range i).countP p := List.countP_congr fun j hj => by
        have : j < i := List.mem_range.1 hj
        rw [h j (by omega)]
      simp [this, hp, hq]
    · have ih := countP_less p q i h hp hq n (by omega)
      have hn := h n (fun x => e x.symm)
      simp only [List.countP_singleton, hn]
      omega

/-- **Whatever order the edges allow.** -/
theorem mix_any {ops : Array Oper} {rs : List Rec} {F0 : AF} {H0 : AH} {W0 : Base} {ds : List Deferred} (hc : Chain P ops ops.toList F0 H0 rs) (hm : MixOk ops rs F0 H0) {ro : Option Nat} {n : Nat} {Q : Exit → Act → World → Prop} {r0 : Gh}
    (hQ : ∀ listed a w r k, Agree H0.length r0 r → Mid P ops rs F0 H0 W0 ds listed a w r k → (∀ i, i < ops.size → listed.getD i false = true) → Q .normal a w) :
    ∀ (fuel : Nat) (listed : Array Bool) (a : Act) (w : World) (r : Gh) (k : Nat), Agree H0.length r0 r → Mid P ops rs F0 H0 W0 ds listed a w r k →
      (List.range ops.size).countP (fun i => !listed.getD i false) = fuel → wpAnyIn (Fw ro) n P .any ops Q fuel listed a w := by
  intro fuel
  induction fuel with
  | zero =>
    intro listed a w r k hag h hcnt
    have hall : ∀ i, i < ops.size → listed.getD i false = true := fun i hi => by
      have := List.countP_eq_zero.1 hcnt i (List.mem_range.2 hi)
      simpa using this
    refine ⟨?_, hQ listed a w r k hag h hall⟩
    rw [List.eq_nil_iff_forall_not_mem]
    intro j hj
    obtain ⟨h1, o, ho, _⟩ := mem_ready.1 hj
    have hjl : j < ops.size := (Array.getElem?_eq_some_iff.1 ho).1
    have := hall j hjl
    have hjs : j < listed.size := by rw [h.size]; exact hjl
    simp [Array.getD_eq_getD_getElem?, hjs] at h1 this
    rw [h1] at this; cases this
  | succ fuel ih =>
    intro listed a w r k hag h hcnt
    have hready : ∀ i, i ∈ Region.ready .any ops listed ↔ (i < ops.size ∧ listed.getD i false = false ∧ ∀ j, afterB ops i j = true → listed.getD j false = true) := fun i => by
      rw [mem_ready]
      constructor
      · rintro ⟨h1, o, ho, h2⟩
        have hi : i < ops.size := (Array.getElem?_eq_some_iff.1 ho).1
        have his : i < listed.size := by rw [h.size]; exact hi
        refine ⟨hi, by simpa [Array.getD_eq_getD_getElem?, his] using h1, fun j hj => ?_⟩
        unfold afterB at hj
        simp only [ho] at hj
        obtain ⟨e, he, hee⟩ := Array.any_eq_true'.1 hj
        simp only [Bool.and_eq_true, Nat.beq_eq] at hee
        rw [← hee.2]
        exact h2 e he hee.1
      · rintro ⟨hi, h1, h2⟩
        have his : i < listed.size := by rw [h.size]; exact hi
        refine ⟨by simpa [Array.getD_eq_getD_getElem?, his] using h1, ops[i], Array.getElem?_eq_getElem hi, fun e he hb => h2 e.on ?_⟩
        unfold afterB
        rw [Array.getElem?_eq_getElem hi]
        exact Array.any_eq_true'.2 ⟨e, he, by simp [hb]⟩
    refine ⟨fun hnil => ?_, fun i hi => ?_⟩
    · -- nothing is ready: all have come
      have hall : ∀ i, i < ops.size → listed.getD i false = true := by
        intro i
        induction i using Nat.strongRecOn with
        | _ i IH =>
          intro hi
          cases hl : listed.getD i false with
          | true => rfl
          | false =>
            exfalso
            have : i ∈ Region.ready .any ops listed := (hready i).2 ⟨hi, hl, fun j hj => IH j (hm.back i j hi hj) (by have := hm.back i j hi hj; omega)⟩
            rw [hnil] at this; cases this
      exact hQ listed a w r k hag h hall
    · obtain ⟨hil, hu, hall⟩ := (hready i).1 hi
      refine Mid.step hc hm h (Array.getElem?_eq_getElem hil) hu hall fun r' w' a' k' hag' hmid => ?_
      refine ih _ a' w' r' k' (hag.trans hag' (Nat.le_refl _)) hmid ?_
      have his : i < listed.size := by rw [h.size]; exact hil
      have := countP_less (fun j => !listed.getD j false) (fun j => !(listed.setIfInBounds i true).getD j false) i (fun j hj => by simp only [getD_setB his, if_neg hj]) (by simp [hu]) (by simp [getD_setB his]) ops.size hil
      omega

/-- A region. -/
def regionA (P : Program) (T : CT P) (rid : Nat) (ops : Array Oper) (draw : Bool) (F : AF) (H : AH) (D : List Dec) : Option (AF × AH × List Dec × List Prop) :=
  match runOps P T ops rid 0 ops.toList F H D with
  | some (F', H', D', ps, rs) =>
    match draw with
    | false => some (F', H', D', ps)
    | true => cond (mixB ops rs F H) (some (F', H', D', ps)) none
  | none => none

theorem regionA_wp {rid : Nat} {ops : Array Oper} {draw : Bool} {F F' : AF} {H H' : AH} {D D' : List Dec} {ps : List Prop} (hmx : P.follows .mixedOrders = true) (h : regionA P T rid ops draw F H D = some (F', H', D', ps)) (hps : Holds ps)
    {ro : Option Nat} {n : Nat} {Q : Exit → Act → World → Prop} {W0 : Base} {w : World} {r : Gh} {a : Act} (hF : FrameOk r F a) (hst : St r H W0 w)
    (hQ : ∀ r' w' a', Agree H.length r r' → St r' H' W0 w' → FrameOk r' F' a' → a'.defers = a.defers → Q .normal a' w') : (Code.region rid ops draw).wpIn (Fw ro) n P Q a w := by
  unfold regionA at h
  cases hr : runOps P T ops rid 0 ops.toList F H D with
  | none => simp [hr] at h
  | some x =>
    obtain ⟨F1, H1, D1, ps1, rs⟩ := x
    simp only [hr] at h
    cases draw with
    | false =>
      simp only [Option.some.injEq, Prod.mk.injEq] at h
      obtain ⟨rfl, rfl, rfl, rfl⟩ := h
      exact wpIn_region_list (runOps_wp ops.toList 0 F H D _ _ _ _ rs hr hps r a w hF hst hQ)
    | true =>
      simp only [] at h
      cases hmb : mixB ops rs F H with
      | false => simp [hmb] at h
      | true =>
        simp only [hmb, cond_true, Option.some.injEq, Prod.mk.injEq] at h
        obtain ⟨rfl, rfl, rfl, rfl⟩ := h
        have hm := mixB_ok hmb
        have hc := runOps_chain _ _ _ _ _ _ _ _ _ _ hr hps
        have hlen : rs.length = ops.size := by rw [chain_len _ _ _ _ hc]; simp
        refine wpIn_region_any hmx ?_
        have hst' : St r H W0 { w with drawn := w.drawn + 1 } := hst.drew
        refine mix_any (r0 := r) (ds := a.defers) hc hm ?_ ops.size _ a _ r 0 (Agree.refl _ _) ⟨by simp, Nat.zero_le _, fun e he h1 => by simp [Array.getD_eq_getD_getElem?, he], by rw [stage_zero]; exact hst',
          fun i j hi hl => by simp [Array.getD_eq_getD_getElem?, hi] at hl, by rw [hF]; simp, fun t => ?_, fun t => ?_, rfl⟩ ?_
        · intro listed a' w' r' k hag hmid hall
          have hk : k = rank rs rs.length := by
            rcases Nat.lt_or_ge k (rank rs rs.length) with hlt | hge
            · exfalso
              obtain ⟨e, he, h1, h2⟩ := rank_exists rs (Nat.le_refl rs.length) (m := k) hlt
              have := (hmid.eff e (by omega) h1).1 (hall e (by omega))
              omega
            · have := hmid.le; omega
          have hH := runOps_stage _ _ _ _ _ _ _ _ _ _ hr
          have hdl : ∀ o ∈ ops.toList, ∀ t, o.dst = some t → t < F.length := fun o' ho' t ht => by
            obtain ⟨j, hj⟩ := List.mem_iff_getElem?.1 ho'
            have hj' : ops[j]? = some o' := by simpa using hj
            exact (hm.dst j t (Array.getElem?_eq_some_iff.1 hj').1 (by simp [dstAt, hj', ht])).1
          have hfr := fun t => runOps_frame r' t _ _ _ _ _ _ _ _ _ _ hr hps hdl
          refine hQ r' w' a' hag (by rw [hH, ← hk]; exact hmid.st) ?_ hmid.defers
          unfold FrameOk
          have hl := (hfr 0).1
          apply Array.ext
          · rw [hmid.tsize]; simp [hl]
          · intro t h1 h2
            have ht := hmid.tmps t
            have h2' : t < F1.length := by simpa using h2
            have e1 : a'.tmps.getD t Go.undef = a'.tmps[t] := by simp [Array.getD_eq_getD_getElem?, h1]
            have e2 : ((F1.map (AV.conc r')).toArray)[t] = (F1.getD t .undef).conc r' := by simp [List.getD_eq_getElem?_getD, h2']
            rw [← e1, e2, ht]
            unfold cur
            cases hd : dstOf ops t with
            | none =>
              refine ((hfr t).2.2 fun j o' ho' hdt => ?_).symm
              have hj' : ops[j]? = some o' := by simpa using ho'
              have := (hm.dst j t (Array.getElem?_eq_some_iff.1 hj').1 (by simp [dstAt, hj', hdt])).2
              rw [hd] at this; cases this
            | some j =>
              obtain ⟨hj, hjd⟩ := dstOf_some hd
              obtain ⟨oj, hoj⟩ : ∃ oj, ops[j]? = some oj := ⟨ops[j], Array.getElem?_eq_getElem hj⟩
              have hojd : oj.dst = some t := by simpa [dstAt, hoj] using hjd
              simp only [hall j hj, if_true]
              refine ((hfr t).2.1 j oj (by simpa using hoj) hojd fun k' o' h3 h4 h5 => ?_).symm
              have hk' : ops[k']? = some o' := by simpa using h4
              have := (hm.dst k' t (Array.getElem?_eq_some_iff.1 hk').1 (by simp [dstAt, hk', h5])).2
              rw [hd] at this
              simp at this; omega
        · have : cur ops rs F (fun i => (Array.replicate ops.size false).getD i false) t = F.getD t .undef := by
            unfold cur
            cases hd : dstOf ops t with
            | none => rfl
            | some j =>
              have := (dstOf_some hd).1
              simp [Array.getD_eq_getD_getElem?, this]
          rw [this]
          exact hF.looks t
        · have : cur ops rs F (fun i => (Array.replicate ops.size false).getD i false) t = F.getD t .undef := by
            unfold cur
            cases hd : dstOf ops t with
            | none => rfl
            | some j =>
              have := (dstOf_some hd).1
              simp [Array.getD_eq_getD_getElem?, this]
          rw [this, stage_zero]
          rw [List.getD_eq_getElem?_getD]
          cases ht : F[t]? with
          | none => rfl
          | some v => exact List.all_eq_true.1 hm.f0 v (List.mem_of_getElem? ht)
        · rw [List.countP_eq_length.2]
          · simp
          · intro i hi
            have := List.mem_range.1 hi
            simp [Array.getD_eq_getD_getElem?, this]

end Go.Proofs.Ytobonipmnidadaa

namespace Go.Proofs.Ytobonipmnidadaa
open Go.RowKit
variable {P : Program} {T : CT P}

inductive KI where
  | code (c : Code)
  | blk (id : Nat)
  | again (m : Nat) (b : Code)

def kont (ro : Option Nat) (n : Nat) (P : Program) : List KI → (Exit → Act → World → Prop) → Exit → Act → World → Prop
  | [], Q => Q
  | .code c :: k, Q => Exit.then (fun a w => c.wpIn (Fw ro) n P (kont ro n P k Q) a w) (kont ro n P k Q)
  | .blk id :: k, Q => Exit.inBlock id (kont ro n P k Q)
  | .again m b :: k, Q => Exit.then (Code.roundsIn (Fw ro) n P b (kont ro n P k Q) m) (kont ro n P k Q)

theorem kont_ret {ro : Option Nat} {n : Nat} {Q : Exit → Act → World → Prop} {a : Act} {w : World} : ∀ (k : List KI), Q .ret a w → kont ro n P k Q .ret a w
  | [], h => h
  | .code _ :: k, h => kont_ret k h
  | .blk _ :: k, h => kont_ret k h
  | .again _ _ :: k, h => kont_ret k h

/-- Out to a block; none: it is none of these. -/
def outTo (id : Nat) : List KI → Option (List KI)
  | [] => none
  | .code _ :: k => outTo id k
  | .again _ _ :: k => outTo id k
  | .blk j :: k => cond (Nat.beq id j) (some k) (outTo id k)

theorem kont_exit {ro : Option Nat} {n : Nat} {Q : Exit → Act → World → Prop} {a : Act} {w : World} {id : Nat} : ∀ (k : List KI),
    (∀ k', outTo id k = some k' → kont ro n P k' Q .normal a w) → (outTo id k = none → Q (.exit id) a w) → kont ro n P k Q (.exit id) a w
  | [], _, h => h rfl
  | .code _ :: k, h1, h2 => kont_exit k h1 h2
  | .again _ _ :: k, h1, h2 => kont_exit k h1 h2
  | .blk j :: k, h1, h2 => by
    show (if id = j then kont ro n P k Q .normal a w else kont ro n P k Q (.exit id) a w)
    by_cases e : id = j
    · subst e
      rw [if_pos rfl]
      exact h1 k (by simp [outTo])
    · rw [if_neg e]
      have hb : Nat.beq id j = false := by
        cases h : Nat.beq id j with
        | false => rfl
        | true => exact absurd (Nat.eq_of_beq_eq_true h) e
      exact kont_exit k (fun k' hk' => h1 k' (by simp [outTo, hb, hk'])) (fun hk => h2 (by simp [outTo, hb, hk]))

/-- Where a run comes to a halt. -/
inductive RX where
  | norm
  | ret
  | exit (id : Nat)
  | loop (body : Code) (k : List KI)
  | range (g : Operand) (ps : Array Tmp) (assign body : Code) (k : List KI)

def RX.fin (ro : Option Nat) (n : Nat) (P : Program) (Q : Exit → Act → World → Prop) (a : Act) (w : World) : RX → Prop
  | .norm => Q .normal a w
  | .ret => Q .ret a w
  | .exit id => Q (.exit id) a w
  | .loop body k => (Code.loop body).wpIn (Fw ro) n P (kont ro n P k Q) a w
  | .range g ps as body k => (Code.rangeFunc g ps as body).wpIn (Fw ro) n P (kont ro n P k Q) a w

def condA (F : AF) (c : Operand) (D : List Dec) : Option (Bool × AF × List Dec × Option Prop) :=
  match D with
  | .c slot d :: D' => match c with
    | .tmp t => cond (Nat.beq slot t) (match boolOf (F.getD t .undef) with
      | some x => some (d, F.set t (.b d), D', some (x = d))
      | none => none) (match boolOf (F.getD t .undef) with | some x => some (x, F, D, none) | none => none)
    | c => match boolOf (F.ev c) with | some x => some (x, F, D, none) | none => none
  | D => match boolOf (F.ev c) with | some x => some (x, F, D, none) | none => none

theorem condA_ok {F F' : AF} {c : Operand} {D D' : List Dec} {b : Bool} {p : Option Prop} (h : condA F c D = some (b, F', D', p)) (hp : Owed p) {r : Gh} {a : Act} (hF : FrameOk r F a) :
    a.eval c = .bool b ∧ FrameOk r F' a := by
  have nat : (match boolOf (F.ev c) with | some x => some (x, F, D, (none : Option Prop)) | none => none) = some (b, F', D', p) → a.eval c = .bool b ∧ FrameOk r F' a := fun h => by
    cases hb : boolOf (F.ev c) with
    | none => simp [hb] at h
    | some x =>
      simp [hb] at h
      obtain ⟨rfl, rfl, _⟩ := h
      exact ⟨by rw [hF.eval, boolOf_conc hb], hF⟩
  unfold condA at h
  split at h
  · rename_i slot d D1
    split at h
    · rename_i t
      cases hk : Nat.beq slot t with
      | false => rw [hk] at h; exact nat h
      | true =>
        simp only [hk, cond_true] at h
        cases hb : boolOf (F.getD t .undef) with
        | none => simp only [hb] at h; cases h
        | some x =>
          simp only [hb, Option.some.injEq, Prod.mk.injEq] at h
          obtain ⟨rfl, rfl, rfl, rfl⟩ := h
          have e := hp.some
          refine ⟨?_, hF.subst hb e⟩
          rw [hF.eval]
          simp only [AF.ev]
          rw [boolOf_conc hb, e]
    · exact nat h
  · exact nat h

def selB : Bool → Code → Code → Code
  | true, x, _ => x
  | false, _, y => y

def runK (P : Program) (T : CT P) : Nat → List KI → AF → AH → List Dec → Option (RX × AF × AH × List Dec × List Prop)
  | 0, _, _, _, _ => none
  | _ + 1, [], F, H, D => some (.norm, F, H, D, [])
  | fuel + 1, .blk _ :: k, F, H, D => runK P T fuel k F H D
  | _ + 1, .again 0 _ :: _, _, _, _ => none
  | fuel + 1, .again (m + 1) b :: k, F, H, D => runK P T fuel (.code b :: .again m b :: k) F H D
  | fuel + 1, .code c :: k, F, H, D =>
    match c with
    | .skip => runK P T fuel k F H D
    | .label _ => runK P T fuel k F H D
    | .region id ops d =>
      match regionA P T id ops d F H D with
      | some (F, H, D, ps) => match runK P T fuel k F H D with
        | some (x, F, H, D, qs) => some (x, F, H, D, ps ++ qs)
        | none => none
      | none => none
    | .seq a b => runK P T fuel (.code a :: .code b :: k) F H D
    | .cond c x y =>
      match condA F c D with
      | some (b, F, D, p) => match runK P T fuel (.code (selB b x y) :: k) F H D with
        | some (x, F, H, D, qs) => some (x, F, H, D, addO p qs)
        | none => none
      | none => none
    | .block id b => runK P T fuel (.code b :: .blk id :: k) F H D
    | .loop b => match D with
      | .u m :: D => runK P T fuel (.code b :: .again m b :: k) F H D
      | D => some (.loop b k, F, H, D, [])
    | .rangeFunc g ps as b => some (.range g ps as b k, F, H, D, [])
    | .exit id => match outTo id k with
      | some k => runK P T fuel k F H D
      | none => some (.exit id, F, H, D, [])
    | .ret => some (.ret, F, H, D, [])
    | _ => none

theorem Holds.append {l m : List Prop} (h : Holds (l ++ m)) : Holds l ∧ Holds m := by
  induction l with
  | nil => exact ⟨trivial, h⟩
  | cons p l ih => exact ⟨⟨h.1, (ih h.2).1⟩, (ih h.2).2⟩

theorem runOps_len {ops : Array Oper} {rid : Nat} : ∀ (l : List Oper) (i : Nat) (F : AF) (H : AH) (D : List Dec) (F' : AF) (H' : AH) (D' : List Dec) (ps : List Prop) (rs : List Rec),
    runOps P T ops rid i l F H D = some (F', H', D', ps, rs) → H.length ≤ H'.length
  | [], i, F, H, D, F', H', D', ps, rs, h => by
    simp [runOps] at h
    obtain ⟨_, rfl, _⟩ := h
    exact Nat.le_refl _
  | o :: l, i, F, H, D, F', H', D', ps, rs, h => by
    unfold runOps at h
    cases hsub : subS (rid * 1000 + i) F D with
    | mk F1 q =>
      obtain ⟨D1, p⟩ := q
      simp only [hsub] at h
      cases hw : wantA ops F1 o with
      | none => simp [hw] at h
      | some b =>
        simp only [hw] at h
        cases b with
        | true =>
          simp only [] at h
          cases hb : bareA P T (rid * 1000 + i) o F1 H D1 with
          | none => simp [hb] at h
          | some x =>
            obtain ⟨s, D2⟩ := x
            simp only [hb] at h
            cases hr : runOps P T ops rid (i + 1) l (putF F1 o.dst s.v) (s.heap H) D2 with
            | none => simp [hr] at h
            | some y =>
              obtain ⟨F2, H2, D3, ps', rs'⟩ := y
              simp only [hr, Option.some.injEq, Prod.mk.injEq] at h
              obtain ⟨rfl, rfl, rfl, rfl, rfl⟩ := h
              exact Nat.le_trans (bareA_len hb) (runOps_len l _ _ _ _ _ _ _ _ _ hr)
        | false =>
          simp only [] at h
          cases hr : runOps P T ops rid (i + 1) l (putF F1 o.dst .undef) H D1 with
          | none => simp [hr] at h
          | some y =>
            obtain ⟨F2, H2, D3, ps', rs'⟩ := y
            simp only [hr, Option.some.injEq, Prod.mk.injEq] at h
            obtain ⟨rfl, rfl, rfl, rfl, rfl⟩ := h
            exact runOps_len l _ _ _ _ _ _ _ _ _ hr

theorem regionA_len {rid : Nat} {ops : Array Oper} {draw : Bool} {F F' : AF} {H H' : AH} {D D' : List Dec} {ps : List Prop} (h : regionA P T rid ops draw F H D = some (F', H', D', ps)) : H.length ≤ H'.length := by
  unfold regionA at h
  cases hr : runOps P T ops rid 0 ops.toList F H D with
  | none => simp [hr] at h
  | some x =>
    obtain ⟨F1, H1, D1, ps1, rs⟩ := x
    have := runOps_len _ _ _ _ _ _ _ _ _ _ hr
    simp only [hr] at h
    cases draw with
    | false => simp at h; obtain ⟨_, rfl, _⟩ := h; exact this
    | true => cases hmb : mixB ops rs F H <;> simp [hmb] at h; obtain ⟨_, rfl, _⟩ := h; exact this

theorem runK_wp (hmx : P.follows .mixedOrders = true) {ro : Option Nat} {n : Nat} {Q : Exit → Act → World → Prop} {W0 : Base} : ∀ (fuel : Nat) (k : List KI) (F : AF) (H : AH) (D : List Dec) (x : RX) (F' : AF) (H' : AH) (D' : List Dec) (ps : List Prop),
    runK P T fuel k F H D = some (x, F', H', D', ps) → Holds ps → ∀ (r : Gh) (a : Act) (w : World), FrameOk r F a → St r H W0 w →
    (∀ r' w' a', Agree H.length r r' → St r' H' W0 w' → FrameOk r' F' a' → a'.defers = a.defers → x.fin ro n P Q a' w') → kont ro n P k Q .normal a w
  | 0, k, F, H, D, x, F', H', D', ps, h, _, r, a, w, _, _, _ => by simp [runK] at h
  | fuel + 1, [], F, H, D, x, F', H', D', ps, h, hps, r, a, w, hF, hst, hQ => by
    simp [runK] at h
    obtain ⟨rfl, rfl, rfl, _⟩ := h
    exact hQ r w a (Agree.refl _ _) hst hF rfl
  | fuel + 1, .blk id :: k, F, H, D, x, F', H', D', ps, h, hps, r, a, w, hF, hst, hQ => runK_wp hmx fuel k F H D x F' H' D' ps h hps r a w hF hst hQ
  | fuel + 1, .again 0 b :: k, F, H, D, x, F', H', D', ps, h, hps, r, a, w, hF, hst, hQ => by simp [runK] at h
  | fuel + 1, .again (m + 1) b :: k, F, H, D, x, F', H', D', ps, h, hps, r, a, w, hF, hst, hQ => runK_wp hmx fuel (.code b :: .again m b :: k) F H D x F' H' D' ps (by simpa [runK] using h) hps r a w hF hst hQ
  | fuel + 1, .code c :: k, F, H, D, x, F', H', D', ps, h, hps, r, a, w, hF, hst, hQ => by
    show c.wpIn (Fw ro) n P (kont ro n P k Q) a w
    cases c with
    | skip => exact wpIn_skip (runK_wp hmx fuel k F H D x F' H' D' ps h hps r a w hF hst hQ)
    | label l => exact wpIn_label (runK_wp hmx fuel k F H D x F' H' D' ps h hps r a w hF hst hQ)
    | region id ops d =>
      simp only [runK] at h
      cases hr : regionA P T id ops d F H D with
      | none => simp [hr] at h
      | some y =>
        obtain ⟨F1, H1, D1, ps1⟩ := y
        simp only [hr] at h
        cases hk : runK P T fuel k F1 H1 D1 with
        | none => simp [hk] at h
        | some z =>
          obtain ⟨x2, F2, H2, D2, qs⟩ := z
          simp only [hk, Option.some.injEq, Prod.mk.injEq] at h
          obtain ⟨rfl, rfl, rfl, rfl, rfl⟩ := h
          obtain ⟨h1, h2⟩ := hps.append
          refine regionA_wp hmx hr h1 hF hst fun r' w' a' hag hst' hF' hd => ?_
          exact runK_wp hmx fuel k F1 H1 D1 _ _ _ _ _ hk h2 r' a' w' hF' hst' fun r2 w2 a2 hag2 hst2 hF2 hd2 => hQ r2 w2 a2 (hag.trans hag2 (regionA_len hr)) hst2 hF2 (hd2.trans hd)
    | seq p q => exact wpIn_seq (runK_wp hmx fuel (.code p :: .code q :: k) F H D x F' H' D' ps h hps r a w hF hst hQ)
    | cond c p q =>
      simp only [runK] at h
      cases hc : condA F c D with
      | none => simp [hc] at h
      | some y =>
        obtain ⟨b, F1, D1, p1⟩ := y
        simp only [hc] at h
        cases hk : runK P T fuel (.code (selB b p q) :: k) F1 H D1 with
        | none => simp [hk] at h
        | some z =>
          obtain ⟨x2, F2, H2, D2, qs⟩ := z
          simp only [hk, Option.some.injEq, Prod.mk.injEq] at h
          obtain ⟨rfl, rfl, rfl, rfl, rfl⟩ := h
          obtain ⟨h1, h2⟩ := hps.addO
          obtain ⟨he, hF1⟩ := condA_ok hc h1 hF
          refine wpIn_cond he ?_
          have := runK_wp hmx fuel _ F1 H D1 _ _ _ _ _ hk h2 r a w hF1 hst hQ
          cases b <;> exact this
    | block id b => exact wpIn_block (runK_wp hmx fuel (.code b :: .blk id :: k) F H D x F' H' D' ps h hps r a w hF hst hQ)
    | loop b =>
      have stop : some (RX.loop b k, F, H, D, ([] : List Prop)) = some (x, F', H', D', ps) → (Code.loop b).wpIn (Fw ro) n P (kont ro n P k Q) a w := fun h => by
        simp at h
        obtain ⟨rfl, rfl, rfl, _⟩ := h
        exact hQ r w a (Agree.refl _ _) hst hF rfl
      simp only [runK] at h
      split at h
      · rename_i m D1
        exact wpIn_loop_rounds (m + 1) (runK_wp hmx fuel (.code b :: .again m b :: k) F H D1 x F' H' D' ps h hps r a w hF hst hQ)
      · exact stop h
    | rangeFunc g ps' as b =>
      simp [runK] at h
      obtain ⟨rfl, rfl, rfl, _⟩ := h
      exact hQ r w a (Agree.refl _ _) hst hF rfl
    | exit id =>
      simp only [runK] at h
      refine wpIn_exit (kont_exit k (fun k' hk' => ?_) fun hk => ?_)
      · rw [hk'] at h
        exact runK_wp hmx fuel k' F H D x F' H' D' ps h hps r a w hF hst hQ
      · rw [hk] at h
        simp at h
        obtain ⟨rfl, rfl, rfl, _⟩ := h
        exact hQ r w a (Agree.refl _ _) hst hF rfl
    | ret =>
      simp [runK] at h
      obtain ⟨rfl, rfl, rfl, _⟩ := h
      exact wpIn_ret (kont_ret k (hQ r w a (Agree.refl _ _) hst hF rfl))
    | scope b => unfold runK at h; cases h
    | goto l => unfold runK at h; cases h
    | refuse s => unfold runK at h; cases h

/-! ### A function -/
def resA (P : Program) (F : AF) (H : AH) : ResultVar → Option TV
  | .tmp t => match F.getD t .undef with
    | .tv v => some v
    | .tup _ => none
  | .cell a t => match F.getD a .undef with
    | .tv (.one (.ptr i o)) => loadA P H t i o
    | _ => none

def resAll (P : Program) (F : AF) (H : AH) : List ResultVar → Option (List TV)
  | [] => some []
  | x :: l => match resA P F H x, resAll P F H l with
    | some v, some vs => some (v :: vs)
    | _, _ => none

/-- What a function hands back. -/
def retA (P : Program) (fn : Func) (F : AF) (H : AH) : Option AV :=
  match resAll P F H fn.results.toList with
  | some [v] => some (.tv v)
  | some vs => some (.tup vs)
  | none => none

def resSem (tmps : Array Value) : ResultVar → Sem Value
  | .tmp t => pure (tmps.getD t Go.undef)
  | .cell p t => do loadVar t (← asAddr (tmps.getD p Go.undef))

theorem resA_run {F : AF} {H : AH} {x : ResultVar} {v : TV} (h : resA P F H x = some v) {r : Gh} {a : Act} {W0 : Base} {w : World} (hF : FrameOk r F a) (hst : St r H W0 w) :
    (resSem a.tmps x).run P w = .ok (v.conc r) w := by
  cases x with
  | tmp t =>
    simp only [resA] at h
    split at h
    · rename_i u hu
      simp at h; subst h
      simp only [resSem, Sem.run_pure]
      rw [hF.looks t, hu]; rfl
    · simp at h
  | cell p t =>
    simp only [resA] at h
    split at h
    · rename_i i o hu
      have e : a.tmps.getD p Go.undef = .pointer (some ⟨r.b i, o, none⟩) := by rw [hF.looks p, hu]; rfl
      simp only [resSem, e, asAddr, Sem.run_bind, Sem.run_pure, Result.andThen_ok]
      exact loadA_run h fun x hx => hst.at_ i x hx
    · simp at h

theorem retA_run {fn : Func} {F : AF} {H : AH} {v : AV} (h : retA P fn F H = some v) {r : Gh} {a : Act} {W0 : Base} {w : World} (hF : FrameOk r F a) (hst : St r H W0 w) :
    (results fn a.tmps).run P w = .ok (v.conc r) w := by
  unfold retA at h
  have key : ∀ (l : List ResultVar) (vs : List TV), resAll P F H l = some vs →
      (l.mapM (resSem a.tmps)).run P w = .ok (vs.map (TV.conc r)) w := by
    intro l
    induction l with
    | nil => intro vs hv; simp [resAll] at hv; subst hv; rfl
    | cons x l ih =>
      intro vs hv
      simp only [resAll] at hv
      cases hx : resA P F H x with
      | none => simp [hx] at hv
      | some u =>
        cases hl : resAll P F H l with
        | none => simp [hx, hl] at hv
        | some us =>
          simp [hx, hl] at hv; subst hv
          have h1 := resA_run hx hF hst
          have h2 := ih us hl
          rw [List.mapM_cons]
          simp only [Sem.run_bind]
          rw [h1]
          simp only [Result.andThen_ok]
          rw [h2]
          rfl
  cases hr : resAll P F H fn.results.toList with
  | none => simp [hr] at h
  | some vs =>
    have hk := key _ _ hr
    have hm : (fn.results.mapM (resSem a.tmps)).run P w = .ok (vs.map (TV.conc r)).toArray w := by
      rw [Array.mapM_eq_mapM_toList]
      simp only [Sem.run_map, hk]
      rfl
    have hres : results fn a.tmps = (do let vs ← fn.results.mapM (resSem a.tmps); pure (if h : vs.size = 1 then vs[0] else .tuple vs)) := by
      unfold results resSem; rfl
    rw [hres]
    simp only [Sem.run_bind, hm, Result.andThen_ok]
    rw [hr] at h
    match vs, h with
    | [], h => simp at h; subst h; rfl
    | [u], h => simp at h; subst h; rfl
    | u :: u' :: us, h => simp at h; subst h; simp [AV.conc]

end Go.Proofs.Ytobonipmnidadaa
