/- The executor, thirteenth part: a region, its order drawn or not. -/
import Derived.Test.YtodcebpdmjdplaaVC
namespace Go.Proofs.Ytodcebpdmjdplaa
open Go.RowKit
variable {P : Program} {T : CT P}

theorem runOps_stage {ops : Array Oper} {rid : Nat} : ∀ (l : List Oper) (i : Nat) (F : AF) (H : AH) (D : List Dec) (F' : AF) (H' : AH) (D' : List Dec) (ps : List Prop) (rs : List Rec),
    runOps P T ops rid i l F H D = some (F', H', D', ps, rs) → H' = stage H rs (rank rs rs.length)
  | [], i, F, H, D, F', H', D', ps, rs, h => by
    simp [runOps] at h
    obtain ⟨_, rfl, _, _, rfl⟩ := h
    rfl
  | o :: l, i, F, H, D, F', H', D', ps, rs, h => by
    unfold runOps at h
    cases hsub : subS (rid * 1000 + i) F D with
    | mk F1 q =>
      obtain ⟨D1, p⟩ := q
      simp only [hsub] at h
      cases hw : wantA ops F1 o with
      | none => simp [hw] at h
      | some b =>
        simp only [hw] at h
        cases b with
        | true =>
          simp only [] at h
          cases hb : bareA P T (rid * 1000 + i) o F1 H D1 with
          | none => simp [hb] at h
          | some x =>
            obtain ⟨s, D2⟩ := x
            simp only [hb] at h
            cases hr : runOps P T ops rid (i + 1) l (putF F1 o.dst s.v) (s.heap H) D2 with
            | none => simp [hr] at h
            | some y =>
              obtain ⟨F2, H2, D3, ps', rs'⟩ := y
              simp only [hr, Option.some.injEq, Prod.mk.injEq] at h
              obtain ⟨rfl, rfl, rfl, rfl, rfl⟩ := h
              rw [runOps_stage l _ _ _ _ _ _ _ _ _ hr]
              simp only [List.length_cons, rank]
              conv => rhs; unfold stage
              cases s with
              | qt v ft ob => simp [Rec.isEff, SR.isEff, SR.heap]
              | ef v H' ids ob => simp [Rec.isEff, SR.isEff, SR.heap, Rec.heap, Nat.add_comm 1]
        | false =>
          simp only [] at h
          cases hr : runOps P T ops rid (i + 1) l (putF F1 o.dst .undef) H D1 with
          | none => simp [hr] at h
          | some y =>
            obtain ⟨F2, H2, D3, ps', rs'⟩ := y
            simp only [hr, Option.some.injEq, Prod.mk.injEq] at h
            obtain ⟨rfl, rfl, rfl, rfl, rfl⟩ := h
            rw [runOps_stage l _ _ _ _ _ _ _ _ _ hr]
            simp only [List.length_cons, rank]
            conv => rhs; unfold stage
            simp [Rec.isEff]

theorem putF_length (F : AF) (d : Option Tmp) (v : AV) : (putF F d v).length = F.length := by cases d <;> simp [putF]

/-- The frame at the end. -/
theorem runOps_frame {ops : Array Oper} {rid : Nat} (g : Nat → Nat) (t : Nat) : ∀ (l : List Oper) (i : Nat) (F : AF) (H : AH) (D : List Dec) (F' : AF) (H' : AH) (D' : List Dec) (ps : List Prop) (rs : List Rec),
    runOps P T ops rid i l F H D = some (F', H', D', ps, rs) → Holds ps → (∀ o ∈ l, ∀ t, o.dst = some t → t < F.length) →
    F'.length = F.length ∧
    (∀ (j : Nat) (o : Oper), l[j]? = some o → o.dst = some t → (∀ (k : Nat) (o' : Oper), j < k → l[k]? = some o' → o'.dst ≠ some t) → (F'.getD t .undef).conc g = (recAt rs j).v.conc g) ∧
    ((∀ (j : Nat) (o : Oper), l[j]? = some o → o.dst ≠ some t) → (F'.getD t .undef).conc g = (F.getD t .undef).conc g)
  | [], i, F, H, D, F', H', D', ps, rs, h, _, _ => by
    simp [runOps] at h
    obtain ⟨rfl, _⟩ := h
    exact ⟨rfl, fun j o ho => by simp at ho, fun _ => rfl⟩
  | o :: l, i, F, H, D, F', H', D', ps, rs, h, hps, hd => by
    unfold runOps at h
    cases hsub : subS (rid * 1000 + i) F D with
    | mk F1 q =>
      obtain ⟨D1, p⟩ := q
      simp only [hsub] at h
      have main : ∀ (v : AV) (r0 : Rec) (rs' : List Rec) (F2 : AF), Owed p → r0.v = v → rs = r0 :: rs' → F' = F2 →
          (F2.length = (putF F1 o.dst v).length ∧
            (∀ (j : Nat) (o' : Oper), l[j]? = some o' → o'.dst = some t → (∀ (k : Nat) (o'' : Oper), j < k → l[k]? = some o'' → o''.dst ≠ some t) → (F2.getD t .undef).conc g = (recAt rs' j).v.conc g) ∧
            ((∀ (j : Nat) (o' : Oper), l[j]? = some o' → o'.dst ≠ some t) → (F2.getD t .undef).conc g = ((putF F1 o.dst v).getD t .undef).conc g)) →
          F'.length = F.length ∧
          (∀ (j : Nat) (o' : Oper), (o :: l)[j]? = some o' → o'.dst = some t → (∀ (k : Nat) (o'' : Oper), j < k → (o :: l)[k]? = some o'' → o''.dst ≠ some t) → (F'.getD t .undef).conc g = (recAt rs j).v.conc g) ∧
          ((∀ (j : Nat) (o' : Oper), (o :: l)[j]? = some o' → o'.dst ≠ some t) → (F'.getD t .undef).conc g = (F.getD t .undef).conc g) := by
        rintro v r0 rs' F2 hp rfl rfl rfl ⟨h1, h2, h3⟩
        have hc := subS_conc hsub hp
        refine ⟨by rw [h1, putF_length, hc.2], fun j o' ho' ht hno => ?_, fun hno => ?_⟩
        · cases j with
          | zero =>
            simp at ho'; subst ho'
            rw [h3 fun j o'' ho'' => hno (j + 1) o'' (by omega) (by simpa using ho'')]
            have htl : t < F1.length := by rw [hc.2]; exact hd o (by simp) t ht
            simp [putF, ht, recAt, List.getD_eq_getElem?_getD, htl]
          | succ j =>
            rw [h2 j o' (by simpa using ho') ht fun k o'' hk ho'' => hno (k + 1) o'' (by omega) (by simpa using ho'')]
            simp [recAt]
        · rw [h3 fun j o'' ho'' => hno (j + 1) o'' (by simpa using ho'')]
          have h0 := hno 0 o (by simp)
          have : (putF F1 o.dst r0.v).getD t .undef = F1.getD t .undef := by
            unfold putF
            cases hd' : o.dst with
            | none => rfl
            | some d =>
              rw [hd'] at h0
              simp only [List.getD_eq_getElem?_getD, List.getElem?_set]
              rw [if_neg (fun e => h0 (by rw [e]))]
          rw [this]
          exact hc.1 g t
      have hdl : ∀ (v : AV), Owed p → ∀ o' ∈ l, ∀ t, o'.dst = some t → t < (putF F1 o.dst v).length := fun v hp o' ho' t ht => by
        rw [putF_length, (subS_conc hsub hp).2]; exact hd o' (List.mem_cons_of_mem _ ho') t ht
      cases hw : wantA ops F1 o with
      | none => simp [hw] at h
      | some b =>
        simp only [hw] at h
        cases b with
        | true =>
          simp only [] at h
          cases hb : bareA P T (rid * 1000 + i) o F1 H D1 with
          | none => simp [hb] at h
          | some x =>
            obtain ⟨s, D2⟩ := x
            simp only [hb] at h
            cases hr : runOps P T ops rid (i + 1) l (putF F1 o.dst s.v) (s.heap H) D2 with
            | none => simp [hr] at h
            | some y =>
              obtain ⟨F2, H2, D3, ps', rs'⟩ := y
              simp only [hr, Option.some.injEq, Prod.mk.injEq] at h
              obtain ⟨e1, e2, e3, rfl, e5⟩ := h
              obtain ⟨hp, hps⟩ := hps.addO
              obtain ⟨hso, hps⟩ := hps.addO
              exact main s.v ⟨F1, H, some s⟩ rs' F2 hp rfl e5.symm e1.symm (runOps_frame g t l _ _ _ _ _ _ _ _ _ hr hps (hdl _ hp))
        | false =>
          simp only [] at h
          cases hr : runOps P T ops rid (i + 1) l (putF F1 o.dst .undef) H D1 with
          | none => simp [hr] at h
          | some y =>
            obtain ⟨F2, H2, D3, ps', rs'⟩ := y
            simp only [hr, Option.some.injEq, Prod.mk.injEq] at h
            obtain ⟨e1, e2, e3, rfl, e5⟩ := h
            obtain ⟨hp, hps⟩ := hps.addO
            exact main .undef ⟨F1, H, none⟩ rs' F2 hp rfl e5.symm e1.symm (runOps_frame g t l _ _ _ _ _ _ _ _ _ hr hps (hdl _ hp))

theorem countP_less (p q : Nat → Bool) (i : Nat) (h : ∀ j, j ≠ i → q j = p j) (hp : p i = true) (hq : q i = false) : ∀ n, i < n → (List.range n).countP q + 1 = (List.range n).countP p
  | 0, hi => by omega
  | n + 1, hi => by
    rw [List.range_succ, List.countP_append, List.countP_append]
    by_cases e : i = n
    · subst e
      have : (List.range i).countP q = (List.range i).countP p := List.countP_congr fun j hj => by
        have : j < i := List.mem_range.1 hj
        rw [h j (by omega)]
      simp [this, hp, hq]
    · have ih := countP_less p q i h hp hq n (by omega)
      have hn := h n (fun x => e x.symm)
      simp only [List.countP_singleton, hn]
      omega

/-- **Whatever order the edges allow.** -/
theorem mix_any {ops : Array Oper} {rs : List Rec} {F0 : AF} {H0 : AH} {W0 : World} {ds : List Deferred} (hc : Chain P ops ops.toList F0 H0 rs) (hm : MixOk ops rs F0 H0) {ro : Option Nat} {n : Nat} {Q : Exit → Act → World → Prop} {r0 : Nat → Nat}
    (hQ : ∀ listed a w r k, Agree H0.length r0 r → Mid P ops rs F0 H0 W0 ds listed a w r k → (∀ i, i < ops.size → listed.getD i false = true) → Q .normal a w) :
    ∀ (fuel : Nat) (listed : Array Bool) (a : Act) (w : World) (r : Nat → Nat) (k : Nat), Agree H0.length r0 r → Mid P ops rs F0 H0 W0 ds listed a w r k →
      (List.range ops.size).countP (fun i => !listed.getD i false) = fuel → wpAnyIn (Fw ro) n P .any ops Q fuel listed a w := by
  intro fuel
  induction fuel with
  | zero =>
    intro listed a w r k hag h hcnt
    have hall : ∀ i, i < ops.size → listed.getD i false = true := fun i hi => by
      have := List.countP_eq_zero.1 hcnt i (List.mem_range.2 hi)
      simpa using this
    refine ⟨?_, hQ listed a w r k hag h hall⟩
    rw [List.eq_nil_iff_forall_not_mem]
    intro j hj
    obtain ⟨h1, o, ho, _⟩ := mem_ready.1 hj
    have hjl : j < ops.size := (Array.getElem?_eq_some_iff.1 ho).1
    have := hall j hjl
    have hjs : j < listed.size := by rw [h.size]; exact hjl
    simp [Array.getD_eq_getD_getElem?, hjs] at h1 this
    rw [h1] at this; cases this
  | succ fuel ih =>
    intro listed a w r k hag h hcnt
    have hready : ∀ i, i ∈ Region.ready .any ops listed ↔ (i < ops.size ∧ listed.getD i false = false ∧ ∀ j, afterB ops i j = true → listed.getD j false = true) := fun i => by
      rw [mem_ready]
      constructor
      · rintro ⟨h1, o, ho, h2⟩
        have hi : i < ops.size := (Array.getElem?_eq_some_iff.1 ho).1
        have his : i < listed.size := by rw [h.size]; exact hi
        refine ⟨hi, by simpa [Array.getD_eq_getD_getElem?, his] using h1, fun j hj => ?_⟩
        unfold afterB at hj
        simp only [ho] at hj
        obtain ⟨e, he, hee⟩ := Array.any_eq_true'.1 hj
        simp only [Bool.and_eq_true, Nat.beq_eq] at hee
        rw [← hee.2]
        exact h2 e he hee.1
      · rintro ⟨hi, h1, h2⟩
        have his : i < listed.size := by rw [h.size]; exact hi
        refine ⟨by simpa [Array.getD_eq_getD_getElem?, his] using h1, ops[i], Array.getElem?_eq_getElem hi, fun e he hb => h2 e.on ?_⟩
        unfold afterB
        rw [Array.getElem?_eq_getElem hi]
        exact Array.any_eq_true'.2 ⟨e, he, by simp [hb]⟩
    refine ⟨fun hnil => ?_, fun i hi => ?_⟩
    · -- nothing is ready: all have come
      have hall : ∀ i, i < ops.size → listed.getD i false = true := by
        intro i
        induction i using Nat.strongRecOn with
        | _ i IH =>
          intro hi
          cases hl : listed.getD i false with
          | true => rfl
          | false =>
            exfalso
            have : i ∈ Region.ready .any ops listed := (hready i).2 ⟨hi, hl, fun j hj => IH j (hm.back i j hi hj) (by have := hm.back i j hi hj; omega)⟩
            rw [hnil] at this; cases this
      exact hQ listed a w r k hag h hall
    · obtain ⟨hil, hu, hall⟩ := (hready i).1 hi
      refine Mid.step hc hm h (Array.getElem?_eq_getElem hil) hu hall fun r' w' a' k' hag' hmid => ?_
      refine ih _ a' w' r' k' (hag.trans hag' (Nat.le_refl _)) hmid ?_
      have his : i < listed.size := by rw [h.size]; exact hil
      have := countP_less (fun j => !listed.getD j false) (fun j => !(listed.setIfInBounds i true).getD j false) i (fun j hj => by simp only [getD_setB his, if_neg hj]) (by simp [hu]) (by simp [getD_setB his]) ops.size hil
      omega

/-- A region. -/
def regionA (P : Program) (T : CT P) (rid : Nat) (ops : Array Oper) (draw : Bool) (F : AF) (H : AH) (D : List Dec) : Option (AF × AH × List Dec × List Prop) :=
  match runOps P T ops rid 0 ops.toList F H D with
  | some (F', H', D', ps, rs) =>
    match draw with
    | false => some (F', H', D', ps)
    | true => cond (mixB ops rs F H) (some (F', H', D', ps)) none
  | none => none

theorem regionA_wp {rid : Nat} {ops : Array Oper} {draw : Bool} {F F' : AF} {H H' : AH} {D D' : List Dec} {ps : List Prop} (hmx : P.follows .mixedOrders = true) (h : regionA P T rid ops draw F H D = some (F', H', D', ps)) (hps : Holds ps)
    {ro : Option Nat} {n : Nat} {Q : Exit → Act → World → Prop} {W0 w : World} {r : Nat → Nat} {a : Act} (hF : FrameOk r F a) (hst : St r H W0 w)
    (hQ : ∀ r' w' a', Agree H.length r r' → St r' H' W0 w' → FrameOk r' F' a' → a'.defers = a.defers → Q .normal a' w') : (Code.region rid ops draw).wpIn (Fw ro) n P Q a w := by
  unfold regionA at h
  cases hr : runOps P T ops rid 0 ops.toList F H D with
  | none => simp [hr] at h
  | some x =>
    obtain ⟨F1, H1, D1, ps1, rs⟩ := x
    simp only [hr] at h
    cases draw with
    | false =>
      simp only [Option.some.injEq, Prod.mk.injEq] at h
      obtain ⟨rfl, rfl, rfl, rfl⟩ := h
      exact wpIn_region_list (runOps_wp ops.toList 0 F H D _ _ _ _ rs hr hps r a w hF hst hQ)
    | true =>
      simp only [] at h
      cases hmb : mixB ops rs F H with
      | false => simp [hmb] at h
      | true =>
        simp only [hmb, cond_true, Option.some.injEq, Prod.mk.injEq] at h
        obtain ⟨rfl, rfl, rfl, rfl⟩ := h
        have hm := mixB_ok hmb
        have hc := runOps_chain _ _ _ _ _ _ _ _ _ _ hr hps
        have hlen : rs.length = ops.size := by rw [chain_len _ _ _ _ hc]; simp
        refine wpIn_region_any hmx ?_
        have hst' : St r H W0 { w with drawn := w.drawn + 1 } := hst.drew
        refine mix_any (r0 := r) (ds := a.defers) hc hm ?_ ops.size _ a _ r 0 (Agree.refl _ _) ⟨by simp, Nat.zero_le _, fun e he h1 => by simp [Array.getD_eq_getD_getElem?, he], by rw [stage_zero]; exact hst',
          fun i j hi hl => by simp [Array.getD_eq_getD_getElem?, hi] at hl, by rw [hF]; simp, fun t => ?_, fun t => ?_, rfl⟩ ?_
        · intro listed a' w' r' k hag hmid hall
          have hk : k = rank rs rs.length := by
            rcases Nat.lt_or_ge k (rank rs rs.length) with hlt | hge
            · exfalso
              obtain ⟨e, he, h1, h2⟩ := rank_exists rs (Nat.le_refl rs.length) (m := k) hlt
              have := (hmid.eff e (by omega) h1).1 (hall e (by omega))
              omega
            · have := hmid.le; omega
          have hH := runOps_stage _ _ _ _ _ _ _ _ _ _ hr
          have hdl : ∀ o ∈ ops.toList, ∀ t, o.dst = some t → t < F.length := fun o' ho' t ht => by
            obtain ⟨j, hj⟩ := List.mem_iff_getElem?.1 ho'
            have hj' : ops[j]? = some o' := by simpa using hj
            exact (hm.dst j t (Array.getElem?_eq_some_iff.1 hj').1 (by simp [dstAt, hj', ht])).1
          have hfr := fun t => runOps_frame r' t _ _ _ _ _ _ _ _ _ _ hr hps hdl
          refine hQ r' w' a' hag (by rw [hH, ← hk]; exact hmid.st) ?_ hmid.defers
          unfold FrameOk
          have hl := (hfr 0).1
          apply Array.ext
          · rw [hmid.tsize]; simp [hl]
          · intro t h1 h2
            have ht := hmid.tmps t
            have h2' : t < F1.length := by simpa using h2
            have e1 : a'.tmps.getD t Go.undef = a'.tmps[t] := by simp [Array.getD_eq_getD_getElem?, h1]
            have e2 : ((F1.map (AV.conc r')).toArray)[t] = (F1.getD t .undef).conc r' := by simp [List.getD_eq_getElem?_getD, h2']
            rw [← e1, e2, ht]
            unfold cur
            cases hd : dstOf ops t with
            | none =>
              refine ((hfr t).2.2 fun j o' ho' hdt => ?_).symm
              have hj' : ops[j]? = some o' := by simpa using ho'
              have := (hm.dst j t (Array.getElem?_eq_some_iff.1 hj').1 (by simp [dstAt, hj', hdt])).2
              rw [hd] at this; cases this
            | some j =>
              obtain ⟨hj, hjd⟩ := dstOf_some hd
              obtain ⟨oj, hoj⟩ : ∃ oj, ops[j]? = some oj := ⟨ops[j], Array.getElem?_eq_getElem hj⟩
              have hojd : oj.dst = some t := by simpa [dstAt, hoj] using hjd
              simp only [hall j hj, if_true]
              refine ((hfr t).2.1 j oj (by simpa using hoj) hojd fun k' o' h3 h4 h5 => ?_).symm
              have hk' : ops[k']? = some o' := by simpa using h4
              have := (hm.dst k' t (Array.getElem?_eq_some_iff.1 hk').1 (by simp [dstAt, hk', h5])).2
              rw [hd] at this
              simp at this; omega
        · have : cur ops rs F (fun i => (Array.replicate ops.size false).getD i false) t = F.getD t .undef := by
            unfold cur
            cases hd : dstOf ops t with
            | none => rfl
            | some j =>
              have := (dstOf_some hd).1
              simp [Array.getD_eq_getD_getElem?, this]
          rw [this]
          exact hF.looks t
        · have : cur ops rs F (fun i => (Array.replicate ops.size false).getD i false) t = F.getD t .undef := by
            unfold cur
            cases hd : dstOf ops t with
            | none => rfl
            | some j =>
              have := (dstOf_some hd).1
              simp [Array.getD_eq_getD_getElem?, this]
          rw [this, stage_zero]
          rw [List.getD_eq_getElem?_getD]
          cases ht : F[t]? with
          | none => rfl
          | some v => exact List.all_eq_true.1 hm.f0 v (List.mem_of_getElem? ht)
        · rw [List.countP_eq_length.2]
          · simp
          · intro i hi
            have := List.mem_range.1 hi
            simp [Array.getD_eq_getD_getElem?, this]

end Go.Proofs.Ytodcebpdmjdplaa
