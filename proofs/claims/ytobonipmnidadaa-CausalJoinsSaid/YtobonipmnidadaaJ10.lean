/- The executor, twenty-eighth part: two operations of a drawn region that are not ordered: the one first, or the other. The executor, twenty-ninth part: a drawn region by other numbers. The executor, thirtieth part: a drawn region, up to its last operation. The executor, thirty-first part: an edge more. The executor, thirty-second part: operations that make no call. The executor, thirty-third part: an element of an array that is no variable. -/
import Derived.Test.YtobonipmnidadaaJ9
namespace Go.Proofs.Ytobonipmnidadaa
open Go.RowKit
variable {P : Program} {F : Fence} {n : Nat} {Q : Exit → Act → World → Prop}

/-- The same operations, but for the edges. -/
def sameOps (ops ops' : Array Oper) : Prop := ops'.size = ops.size ∧ ∀ (i : Nat) (o : Oper), ops[i]? = some o → ∃ e : Array Edge, ops'[i]? = some ({ o with after := e } : Oper)

theorem mem_ready' {ops : Array Oper} {l : Array Bool} {i : Nat} : i ∈ Region.ready .any ops l ↔ ∃ o, ops[i]? = some o ∧ l.getD i true = false ∧ ∀ e ∈ o.after, Region.binds .any e = true → l.getD e.on false = true := by
  unfold Region.ready
  rw [List.mem_filter, List.mem_range]
  constructor
  · rintro ⟨h1, h2⟩
    simp only [Bool.and_eq_true, Bool.not_eq_true'] at h2
    have ho : ops[i]? = some ops[i] := Array.getElem?_eq_getElem h1
    rw [ho] at h2
    simp only [Option.map_some, Option.getD_some, Array.all_eq_true'] at h2
    refine ⟨_, ho, h2.1, fun e he hb => ?_⟩
    have := h2.2 e he
    rw [hb] at this; simpa using this
  · rintro ⟨o, ho, h1, h2⟩
    refine ⟨(Array.getElem?_eq_some_iff.1 ho).1, ?_⟩
    simp only [Bool.and_eq_true, Bool.not_eq_true']
    refine ⟨h1, ?_⟩
    rw [ho]
    simp only [Option.map_some, Option.getD_some, Array.all_eq_true']
    intro e he
    cases hb : Region.binds .any e with
    | false => rfl
    | true => simpa using h2 e he hb

theorem same_none {ops ops' : Array Oper} (h : sameOps ops ops') {i : Nat} (hi : ops[i]? = none) : ops'[i]? = none := by
  rw [Array.getElem?_eq_none_iff] at hi ⊢
  rw [h.1]; exact hi

theorem wpOpIn_same {ops ops' : Array Oper} (h : sameOps ops ops') {i : Nat} {K : Act → World → Prop} {a : Act} {w : World} (hw : wpOpIn F n P ops' Q i K a w) : wpOpIn F n P ops Q i K a w := by
  have hy : yielded ops' a.tmps = yielded ops a.tmps := by
    funext j
    unfold yielded
    cases ho : ops[j]? with
    | none => rw [same_none h ho]
    | some o =>
      obtain ⟨e, he⟩ := h.2 j o ho
      rw [he]
      rfl
  unfold wpOpIn at hw ⊢
  cases ho : ops[i]? with
  | none => rw [same_none h ho] at hw; exact hw
  | some o =>
    obtain ⟨e, he⟩ := h.2 i o ho
    rw [he, hy] at hw
    exact hw

/-- No call. -/
def plainR : Result Next → Prop
  | .ok (.enter _ _) _ => False
  | .ok (.row _ _) _ => False
  | .ok (.round _ _ _ _ _) _ => False
  | _ => True

theorem wpOpIn_and {ops : Array Oper} {i : Nat} {K K' : Act → World → Prop} {a : Act} {w : World} (hp : ∀ o, ops[i]? = some o → plainR ((o.semAt F.round a.eval).run P w))
    (h : wpOpIn F n P ops Q i K a w) (h' : wpOpIn F n P ops Q i K' a w) : wpOpIn F n P ops Q i (fun a w => K a w ∧ K' a w) a w := by
  unfold wpOpIn at *
  cases ho : ops[i]? with
  | none => rw [ho] at h h'; exact ⟨h, h'⟩
  | some o =>
    rw [ho] at h h'
    have hp := hp o ho
    simp only at h h' ⊢
    split
    · rename_i hw
      rw [if_pos hw] at h h'
      unfold Oper.wpIn at *
      refine ⟨h.1, ?_⟩
      have h := h.2
      have h' := h'.2
      generalize (o.semAt F.round a.eval).run P w = r at *
      cases r with
      | ok x w' => cases x <;> simp only [Oper.uponIn, plainR] at h h' hp ⊢ <;> exact ⟨h, h'⟩
      | halt x w' => cases x <;> simp only [Oper.uponIn] at h h' ⊢ <;> first | exact h | exact h.elim
    · rename_i hw
      rw [if_neg hw] at h h'
      exact ⟨h.1, h.2, h'.2⟩

theorem set_true {l : Array Bool} {i x : Nat} (h : l.getD x false = true) : (l.setIfInBounds i true).getD x false = true := by
  simp only [Array.getD_eq_getD_getElem?] at h ⊢
  rw [Array.getElem?_setIfInBounds]
  by_cases e : i = x
  · subst e
    by_cases hs : i < l.size
    · simp [hs]
    · rw [Array.getElem?_eq_none (by omega)] at h; cases h
  · rw [if_neg e]; exact h

theorem any_one {ops ops1 : Array Oper} {x y : Nat} (h : sameOps ops ops1) (hsub : ∀ l i, i ∈ Region.ready .any ops1 l → i ∈ Region.ready .any ops l) (hx : ∀ l i, i ∈ Region.ready .any ops l → (i ≠ y ∨ l.getD x false = true) → i ∈ Region.ready .any ops1 l) :
    ∀ (fuel : Nat) (l : Array Bool) (a : Act) (w : World), l.getD x false = true → wpAnyIn F n P .any ops1 Q fuel l a w → wpAnyIn F n P .any ops Q fuel l a w := by
  intro fuel
  induction fuel with
  | zero =>
    intro l a w hl hw
    refine ⟨List.eq_nil_iff_forall_not_mem.2 fun i hi => ?_, hw.2⟩
    have := hx l i hi (.inr hl)
    rw [hw.1] at this; cases this
  | succ fuel ih =>
    intro l a w hl hw
    refine ⟨fun hn => hw.1 (List.eq_nil_iff_forall_not_mem.2 fun i hi => ?_), fun i hi => ?_⟩
    · have := hsub l i hi
      rw [hn] at this; cases this
    · exact wpOpIn_mono (fun a' w' h' => ih _ a' w' (set_true hl) h') (wpOpIn_same h (hw.2 i (hx l i hi (.inr hl))))

theorem set_other {l : Array Bool} {i x : Nat} (e : i ≠ x) (h : l.getD x false = false) : (l.setIfInBounds i true).getD x false = false := by
  simp only [Array.getD_eq_getD_getElem?] at h ⊢
  rw [Array.getElem?_setIfInBounds, if_neg e]; exact h
theorem set_self {l : Array Bool} {i : Nat} {ops : Array Oper} (h : i ∈ Region.ready .any ops l) : (l.setIfInBounds i true).getD i false = true := by
  obtain ⟨o, -, h1, -⟩ := mem_ready'.1 h
  simp only [Array.getD_eq_getD_getElem?] at h1 ⊢
  by_cases hs : i < l.size
  · simp [hs]
  · rw [Array.getElem?_eq_none (by omega)] at h1; cases h1

/-- The one first, or the other. -/
theorem any_two {ops ops1 ops2 : Array Oper} {x y : Nat} (hxy : x ≠ y) (h1 : sameOps ops ops1) (h2 : sameOps ops ops2) (s1 : ∀ l i, i ∈ Region.ready .any ops1 l → i ∈ Region.ready .any ops l) (s2 : ∀ l i, i ∈ Region.ready .any ops2 l → i ∈ Region.ready .any ops l)
    (e1 : ∀ l i, i ∈ Region.ready .any ops l → (i ≠ y ∨ l.getD x false = true) → i ∈ Region.ready .any ops1 l) (e2 : ∀ l i, i ∈ Region.ready .any ops l → (i ≠ x ∨ l.getD y false = true) → i ∈ Region.ready .any ops2 l)
    (hp : ∀ (i : Nat) (o : Oper), ops[i]? = some o → ∀ (a : Act) (w : World), plainR ((o.semAt F.round a.eval).run P w)) :
    ∀ (fuel : Nat) (l : Array Bool) (a : Act) (w : World), l.getD x false = false → l.getD y false = false → wpAnyIn F n P .any ops1 Q fuel l a w → wpAnyIn F n P .any ops2 Q fuel l a w → wpAnyIn F n P .any ops Q fuel l a w := by
  intro fuel
  induction fuel with
  | zero =>
    intro l a w hl hl' hw hw'
    refine ⟨List.eq_nil_iff_forall_not_mem.2 fun i hi => ?_, hw.2⟩
    by_cases e : i = y
    · have := e2 l i hi (.inl (by omega))
      rw [hw'.1] at this; cases this
    · have := e1 l i hi (.inl e)
      rw [hw.1] at this; cases this
  | succ fuel ih =>
    intro l a w hl hl' hw hw'
    refine ⟨fun hn => hw.1 (List.eq_nil_iff_forall_not_mem.2 fun i hi => ?_), fun i hi => ?_⟩
    · have := s1 l i hi
      rw [hn] at this; cases this
    · by_cases ex : i = x
      · subst ex
        exact wpOpIn_mono (fun a' w' h' => any_one h1 s1 e1 fuel _ a' w' (set_self hi) h') (wpOpIn_same h1 (hw.2 i (e1 l i hi (.inl hxy))))
      · by_cases ey : i = y
        · subst ey
          exact wpOpIn_mono (fun a' w' h' => any_one h2 s2 e2 fuel _ a' w' (set_self hi) h') (wpOpIn_same h2 (hw'.2 i (e2 l i hi (.inl ex))))
        · exact wpOpIn_mono (fun a' w' h' => ih _ a' w' (set_other ex hl) (set_other ey hl') h'.1 h'.2)
            (wpOpIn_and (fun o ho => hp i o ho a w) (wpOpIn_same h1 (hw.2 i (e1 l i hi (.inl ey)))) (wpOpIn_same h2 (hw'.2 i (e2 l i hi (.inl ex)))))

end Go.Proofs.Ytobonipmnidadaa

namespace Go.Proofs.Ytobonipmnidadaa
open Go.RowKit
variable {P : Program} {F : Fence} {n : Nat} {Q : Exit → Act → World → Prop}

/-- An operation, its edges and its guard by other numbers. -/
def trOp (sg : Nat → Nat) (o : Oper) : Oper := { o with after := o.after.map (fun e => { e with on := sg e.on }), guard := o.guard.map fun g => (sg g.1, g.2) }
def permOps (sg : Nat → Nat) (ops ops' : Array Oper) : Prop := ∀ i : Nat, ops'[sg i]? = (ops[i]?).map (trOp sg)

theorem wpOpIn_perm {sg : Nat → Nat} {ops ops' : Array Oper} (h : permOps sg ops ops') {i : Nat} {K : Act → World → Prop} {a : Act} {w : World} (hw : wpOpIn F n P ops' Q (sg i) K a w) : wpOpIn F n P ops Q i K a w := by
  have hy : ∀ j, yielded ops' a.tmps (sg j) = yielded ops a.tmps j := fun j => by
    unfold yielded
    rw [h j]
    cases ops[j]? <;> rfl
  unfold wpOpIn at hw ⊢
  rw [h i] at hw
  cases ho : ops[i]? with
  | none => rw [ho] at hw; exact hw
  | some o =>
    rw [ho] at hw
    have hwd : Region.wanted (trOp sg o) (yielded ops' a.tmps) = Region.wanted o (yielded ops a.tmps) := by
      unfold Region.wanted trOp
      cases o.guard with
      | none => rfl
      | some g => simp [hy]
    simp only [Option.map_some] at hw
    rw [hwd] at hw
    exact hw

theorem ready_perm {sg : Nat → Nat} {ops ops' : Array Oper} (h : permOps sg ops ops') {l l' : Array Bool} (hl : ∀ i : Nat, l'[sg i]? = l[i]?) {i : Nat} : i ∈ Region.ready .any ops l ↔ sg i ∈ Region.ready .any ops' l' := by
  have hg : ∀ (j : Nat) (d : Bool), l'.getD (sg j) d = l.getD j d := fun j d => by simp only [Array.getD_eq_getD_getElem?, hl]
  rw [mem_ready', mem_ready']
  constructor
  · rintro ⟨o, ho, h1, h2⟩
    refine ⟨trOp sg o, by rw [h i, ho]; rfl, by rw [hg]; exact h1, fun e he hb => ?_⟩
    obtain ⟨e0, he0, rfl⟩ := Array.mem_map.1 he
    rw [hg]
    exact h2 e0 he0 hb
  · rintro ⟨o', ho', h1, h2⟩
    rw [h i] at ho'
    obtain ⟨o, ho, rfl⟩ := Option.map_eq_some_iff.1 ho'
    refine ⟨o, ho, by rw [hg] at h1; exact h1, fun e he hb => ?_⟩
    have := h2 { e with on := sg e.on } (Array.mem_map.2 ⟨e, he, rfl⟩) hb
    rw [hg] at this
    exact this

theorem any_perm {sg : Nat → Nat} (hs : ∀ i, sg (sg i) = i) {ops ops' : Array Oper} (h : permOps sg ops ops') :
    ∀ (fuel : Nat) (l l' : Array Bool) (a : Act) (w : World), (∀ i : Nat, l'[sg i]? = l[i]?) → wpAnyIn F n P .any ops' Q fuel l' a w → wpAnyIn F n P .any ops Q fuel l a w := by
  have nil : ∀ l l' : Array Bool, (∀ i : Nat, l'[sg i]? = l[i]?) → (Region.ready .any ops l = [] ↔ Region.ready .any ops' l' = []) := fun l l' hl => by
    rw [List.eq_nil_iff_forall_not_mem, List.eq_nil_iff_forall_not_mem]
    exact ⟨fun hn k hk => hn (sg k) ((ready_perm h hl).2 (by rw [hs]; exact hk)), fun hn k hk => hn (sg k) ((ready_perm h hl).1 hk)⟩
  intro fuel
  induction fuel with
  | zero => exact fun l l' a w hl hw => ⟨(nil l l' hl).2 hw.1, hw.2⟩
  | succ fuel ih =>
    intro l l' a w hl hw
    refine ⟨fun hn => hw.1 ((nil l l' hl).1 hn), fun i hi => ?_⟩
    refine wpOpIn_mono (fun a' w' h' => ih _ _ a' w' (fun j => ?_) h') (wpOpIn_perm h (hw.2 (sg i) ((ready_perm h hl).1 hi)))
    rw [Array.getElem?_setIfInBounds, Array.getElem?_setIfInBounds]
    have hb : sg i < l'.size ↔ i < l.size := by
      have := hl i
      constructor
      · intro hx
        rw [Array.getElem?_eq_getElem hx] at this
        exact (Array.getElem?_eq_some_iff.1 this.symm).1
      · intro hx
        rw [Array.getElem?_eq_getElem hx] at this
        exact (Array.getElem?_eq_some_iff.1 this).1
    by_cases e : i = j
    · subst e
      simp only [if_true, hb]
    · rw [if_neg e, if_neg (fun x => e (by rw [← hs i, x, hs])), hl]

end Go.Proofs.Ytobonipmnidadaa

namespace Go.Proofs.Ytobonipmnidadaa
open Go.RowKit
variable {P : Program} {T : CT P}

theorem regionA_any {rid : Nat} {ops : Array Oper} {F F1 : AF} {H H1 : AH} {D D1 : List Dec} {ps1 : List Prop} {rs : List Rec} (hr : runOps P T ops rid 0 ops.toList F H D = some (F1, H1, D1, ps1, rs)) (hmb : mixB ops rs F H = true) (hps : Holds ps1)
    {ro : Option Nat} {n : Nat} {Q : Exit → Act → World → Prop} {W0 : Base} {w : World} {r : Gh} {a : Act} (hF : FrameOk r F a) (hst : St r H W0 w)
    (hQ : ∀ r' w' a', Agree H.length r r' → St r' H1 W0 w' → FrameOk r' F1 a' → a'.defers = a.defers → Q .normal a' w') : wpAnyIn (Fw ro) n P .any ops Q ops.size (Array.replicate ops.size false) a { w with drawn := w.drawn + 1 } := by
  have hm := mixB_ok hmb
  have hc := runOps_chain _ _ _ _ _ _ _ _ _ _ hr hps
  have hlen : rs.length = ops.size := by rw [chain_len _ _ _ _ hc]; simp
  have hst' : St r H W0 { w with drawn := w.drawn + 1 } := hst.drew
  refine mix_any (r0 := r) (ds := a.defers) hc hm ?_ ops.size _ a _ r 0 (Agree.refl _ _) ⟨by simp, Nat.zero_le _, fun e he h1 => by simp [Array.getD_eq_getD_getElem?, he], by rw [stage_zero]; exact hst',
    fun i j hi hl => by simp [Array.getD_eq_getD_getElem?, hi] at hl, by rw [hF]; simp, fun t => ?_, fun t => ?_, rfl⟩ ?_
  · intro listed a' w' r' k hag hmid hall
    have hk : k = rank rs rs.length := by
      rcases Nat.lt_or_ge k (rank rs rs.length) with hlt | hge
      · exfalso
        obtain ⟨e, he, h1, h2⟩ := rank_exists rs (Nat.le_refl rs.length) (m := k) hlt
        have := (hmid.eff e (by omega) h1).1 (hall e (by omega))
        omega
      · have := hmid.le; omega
    have hH := runOps_stage _ _ _ _ _ _ _ _ _ _ hr
    have hdl : ∀ o ∈ ops.toList, ∀ t, o.dst = some t → t < F.length := fun o' ho' t ht => by
      obtain ⟨j, hj⟩ := List.mem_iff_getElem?.1 ho'
      have hj' : ops[j]? = some o' := by simpa using hj
      exact (hm.dst j t (Array.getElem?_eq_some_iff.1 hj').1 (by simp [dstAt, hj', ht])).1
    have hfr := fun t => runOps_frame r' t _ _ _ _ _ _ _ _ _ _ hr hps hdl
    refine hQ r' w' a' hag (by rw [hH, ← hk]; exact hmid.st) ?_ hmid.defers
    unfold FrameOk
    have hl := (hfr 0).1
    apply Array.ext
    · rw [hmid.tsize]; simp [hl]
    · intro t h1 h2
      have ht := hmid.tmps t
      have h2' : t < F1.length := by simpa using h2
      have e1 : a'.tmps.getD t Go.undef = a'.tmps[t] := by simp [Array.getD_eq_getD_getElem?, h1]
      have e2 : ((F1.map (AV.conc r')).toArray)[t] = (F1.getD t .undef).conc r' := by simp [List.getD_eq_getElem?_getD, h2']
      rw [← e1, e2, ht]
      unfold cur
      cases hd : dstOf ops t with
      | none =>
        refine ((hfr t).2.2 fun j o' ho' hdt => ?_).symm
        have hj' : ops[j]? = some o' := by simpa using ho'
        have := (hm.dst j t (Array.getElem?_eq_some_iff.1 hj').1 (by simp [dstAt, hj', hdt])).2
        rw [hd] at this; cases this
      | some j =>
        obtain ⟨hj, hjd⟩ := dstOf_some hd
        obtain ⟨oj, hoj⟩ : ∃ oj, ops[j]? = some oj := ⟨ops[j], Array.getElem?_eq_getElem hj⟩
        have hojd : oj.dst = some t := by simpa [dstAt, hoj] using hjd
        simp only [hall j hj, if_true]
        refine ((hfr t).2.1 j oj (by simpa using hoj) hojd fun k' o' h3 h4 h5 => ?_).symm
        have hk' : ops[k']? = some o' := by simpa using h4
        have := (hm.dst k' t (Array.getElem?_eq_some_iff.1 hk').1 (by simp [dstAt, hk', h5])).2
        rw [hd] at this
        simp at this; omega
  · have : cur ops rs F (fun i => (Array.replicate ops.size false).getD i false) t = F.getD t .undef := by
      unfold cur
      cases hd : dstOf ops t with
      | none => rfl
      | some j =>
        have := (dstOf_some hd).1
        simp [Array.getD_eq_getD_getElem?, this]
    rw [this]
    exact hF.looks t
  · have : cur ops rs F (fun i => (Array.replicate ops.size false).getD i false) t = F.getD t .undef := by
      unfold cur
      cases hd : dstOf ops t with
      | none => rfl
      | some j =>
        have := (dstOf_some hd).1
        simp [Array.getD_eq_getD_getElem?, this]
    rw [this, stage_zero]
    rw [List.getD_eq_getElem?_getD]
    cases ht : F[t]? with
    | none => rfl
    | some v => exact List.all_eq_true.1 hm.f0 v (List.mem_of_getElem? ht)
  · rw [List.countP_eq_length.2]
    · simp
    · intro i hi
      have := List.mem_range.1 hi
      simp [Array.getD_eq_getD_getElem?, this]

/-- A drawn region with two operations that are not ordered: by both orders. -/
theorem regionA2_wp (hmx : P.follows .mixedOrders = true) {id : Nat} {ro : Option Nat} {n : Nat} {Q : Exit → Act → World → Prop} {a : Act} {w : World} {ops ops1 ops2 ops3 : Array Oper} {x y : Nat} (hxy : x ≠ y) (h1 : sameOps ops ops1) (h2 : sameOps ops ops2)
    (s1 : ∀ l i, i ∈ Region.ready .any ops1 l → i ∈ Region.ready .any ops l) (s2 : ∀ l i, i ∈ Region.ready .any ops2 l → i ∈ Region.ready .any ops l)
    (e1 : ∀ l i, i ∈ Region.ready .any ops l → (i ≠ y ∨ l.getD x false = true) → i ∈ Region.ready .any ops1 l) (e2 : ∀ l i, i ∈ Region.ready .any ops l → (i ≠ x ∨ l.getD y false = true) → i ∈ Region.ready .any ops2 l)
    (hp : ∀ (i : Nat) (o : Oper), ops[i]? = some o → ∀ (a : Act) (w : World), plainR ((o.semAt (Fw ro).round a.eval).run P w))
    {sg : Nat → Nat} (hs : ∀ i, sg (sg i) = i) (hsz : ∀ i, sg i < ops.size ↔ i < ops.size) (h3 : permOps sg ops2 ops3) (h3s : ops3.size = ops.size)
    (w1 : wpAnyIn (Fw ro) n P .any ops1 Q ops1.size (Array.replicate ops1.size false) a { w with drawn := w.drawn + 1 })
    (w3 : wpAnyIn (Fw ro) n P .any ops3 Q ops3.size (Array.replicate ops3.size false) a { w with drawn := w.drawn + 1 }) : (Code.region id ops true).wpIn (Fw ro) n P Q a w := by
  have z : ∀ k : Nat, (Array.replicate ops.size false).getD k false = false := fun k => by
    simp only [Array.getD_eq_getD_getElem?, Array.getElem?_replicate]; split <;> rfl
  rw [h1.1] at w1
  rw [h3s] at w3
  refine wpIn_region_any hmx (any_two hxy h1 h2 s1 s2 e1 e2 hp _ _ _ _ (z x) (z y) w1 (any_perm hs h3 _ _ _ _ _ (fun i => ?_) w3))
  rw [Array.getElem?_replicate, Array.getElem?_replicate]
  simp only [hsz]

end Go.Proofs.Ytobonipmnidadaa

namespace Go.Proofs.Ytobonipmnidadaa
open Go.RowKit

/-- One edge more: the one behind the other. -/
def addEdge (ops : Array Oper) (i j : Nat) (g : Ground) : Array Oper := ops.modify i fun o => { o with after := o.after.push ⟨j, g⟩ }

theorem addEdge_get (ops : Array Oper) (i j : Nat) (g : Ground) (k : Nat) : (addEdge ops i j g)[k]? = if i = k then (ops[k]?).map (fun o => { o with after := o.after.push ⟨j, g⟩ }) else ops[k]? := by
  unfold addEdge
  rw [Array.getElem?_modify]

theorem addEdge_same (ops : Array Oper) (i j : Nat) (g : Ground) : sameOps ops (addEdge ops i j g) := by
  refine ⟨by simp [addEdge], fun k o ho => ?_⟩
  rw [addEdge_get, ho]
  by_cases e : i = k
  · rw [if_pos e]; exact ⟨_, rfl⟩
  · rw [if_neg e]; exact ⟨o.after, rfl⟩

theorem addEdge_sub (ops : Array Oper) (i j : Nat) (g : Ground) (l : Array Bool) (k : Nat) (h : k ∈ Region.ready .any (addEdge ops i j g) l) : k ∈ Region.ready .any ops l := by
  obtain ⟨o, ho, h1, h2⟩ := mem_ready'.1 h
  rw [addEdge_get] at ho
  by_cases e : i = k
  · rw [if_pos e] at ho
    obtain ⟨o', ho', rfl⟩ := Option.map_eq_some_iff.1 ho
    exact mem_ready'.2 ⟨o', ho', h1, fun e' he hb => h2 e' (Array.mem_push_of_mem _ he) hb⟩
  · rw [if_neg e] at ho
    exact mem_ready'.2 ⟨o, ho, h1, h2⟩

theorem addEdge_of (ops : Array Oper) (i j : Nat) (g : Ground) (l : Array Bool) (k : Nat) (h : k ∈ Region.ready .any ops l) (hk : k ≠ i ∨ l.getD j false = true) : k ∈ Region.ready .any (addEdge ops i j g) l := by
  obtain ⟨o, ho, h1, h2⟩ := mem_ready'.1 h
  rw [mem_ready', addEdge_get]
  by_cases e : i = k
  · rw [if_pos e, ho]
    refine ⟨_, rfl, h1, fun e' he hb => ?_⟩
    rcases Array.mem_push.1 he with he | he
    · exact h2 e' he hb
    · subst he
      exact hk.elim (fun x => absurd e.symm x) fun x => x
  · rw [if_neg e]
    exact ⟨o, ho, h1, h2⟩

/-- The operations in other places. -/
def permA (sg : Nat → Nat) (ops : Array Oper) : Array Oper := ((List.range ops.size).map fun k => trOp sg (ops.getD (sg k) default)).toArray
theorem permA_size (sg : Nat → Nat) (ops : Array Oper) : (permA sg ops).size = ops.size := by simp [permA]
theorem permA_ok {sg : Nat → Nat} (hs : ∀ i, sg (sg i) = i) {ops : Array Oper} (hsz : ∀ i, sg i < ops.size ↔ i < ops.size) : permOps sg ops (permA sg ops) := fun i => by
  unfold permA
  simp only [List.getElem?_toArray, List.getElem?_map]
  by_cases h : i < ops.size
  · rw [List.getElem?_range ((hsz i).2 h), Array.getElem?_eq_getElem h]
    simp [hs, Array.getD_eq_getD_getElem?, h]
  · rw [List.getElem?_eq_none (by simpa using fun x => h ((hsz i).1 x)), Array.getElem?_eq_none (by omega)]; rfl

end Go.Proofs.Ytobonipmnidadaa

namespace Go.Proofs.Ytobonipmnidadaa
open Go.RowKit
variable {P : Program}

theorem plain_v {s : Sem Value} {w : World} : plainR (Sem.run P (do pure (Next.value (← s)) : Sem Next) w) := by
  rw [Sem.run_bind]
  cases Sem.run P s w with
  | ok x w' => simp [Result.andThen_ok, plainR]
  | halt x w' => simp [Result.andThen, plainR]
theorem plain_u {s : Sem Unit} {w : World} : plainR (Sem.run P (do s; pure Next.skip : Sem Next) w) := by
  rw [Sem.run_bind]
  cases Sem.run P s w with
  | ok x w' => simp [Result.andThen_ok, plainR]
  | halt x w' => simp [Result.andThen, plainR]
def plainOp : Op → Bool
  | .alloc _ => true
  | .load _ _ => true
  | .store _ _ _ => true
  | .indexAddr _ _ _ => true
  | _ => false
theorem plain_of {o : Oper} (h : plainOp o.op = true) (ro : Option Nat) (ρ : Operand → Value) (w : World) : plainR ((o.semAt ro ρ).run P w) := by
  have hs : o.semAt ro ρ = execOp ρ o := Oper.semAt_eq ro ρ o fun c hc => by rw [hc] at h; cases h
  rw [hs]
  unfold execOp
  cases ho : o.op <;> rw [ho] at h <;> first | (cases h; done) | (exact plain_v) | (exact plain_u)
def plainOps (ops : Array Oper) : Bool := ops.toList.all fun o => plainOp o.op
theorem plainOps_of {ops : Array Oper} (h : plainOps ops = true) (ro : Option Nat) (i : Nat) (o : Oper) (ho : ops[i]? = some o) (a : Act) (w : World) : plainR ((o.semAt ro a.eval).run P w) :=
  plain_of (List.all_eq_true.1 h o (by
    have h2 : ops.toList[i]? = some o := by simpa using ho
    exact List.mem_of_getElem? h2)) _ _ _

end Go.Proofs.Ytobonipmnidadaa

namespace Go.Proofs.Ytobonipmnidadaa
open Go.RowKit
variable {P : Program}

def idxQ (P : Program) (ev : Operand → AV) (_ : AH) (op : Op) : Option (AV × List Nat × Option Prop) :=
  match op with
  | .index t x i => match ev x, ev i, P.underlying t with
    | .tv (.agg l), .tv (.one (.rig (.int _ n))), some (.array len e) => match sizeA P e with
      | some s => match partA P e l (n.toNat * s) with
        | some v => some (.tv v, [], some (0 ≤ n ∧ n < (len : Int)))
        | none => none
      | none => none
    | _, _, _ => none
  | _ => none

theorem idxQ_run {ev : Operand → AV} {H : AH} {o : Oper} {v : AV} {ft : List Nat} {pr : Option Prop} (h : idxQ P ev H o.op = some (v, ft, pr)) (hp : Owed pr)
    {ρ : Operand → Value} {r : Gh} {w : World} (hev : ∀ x ∈ o.op.operands, ρ x = (ev x).conc r) :
    (execOp ρ o).run P w = .ok (.value (v.conc r)) w := by
  unfold execOp
  cases ho : o.op <;> rw [ho] at h hev <;> simp only [idxQ] at h <;> first | (cases h; done) | skip
  rename_i t x i
  split at h
  · rename_i l k n len e hx hi hu
    cases hs : sizeA P e with
    | none => simp [hs] at h
    | some s =>
      simp only [hs] at h
      cases hp' : partA P e l (n.toNat * s) with
      | none => simp [hp'] at h
      | some u =>
        simp only [hp', Option.some.injEq, Prod.mk.injEq] at h
        obtain ⟨rfl, -, rfl⟩ := h
        have hb := hp.some
        have e1 : ρ x = .agg (l.map (CV.conc r)).toArray := by rw [hev x (by simp [Op.operands]), hx]; rfl
        have e2 : ρ i = .int k n := by rw [hev i (by simp [Op.operands]), hi]; rfl
        simp [e1, e2, Instr.index, run_underlying hu, asIntOf, hb, run_sizeOf_of hs, partA_run hp' r w, AV.conc]
  · simp at h

def CT.addI (T : CT P) : CT P := T.addOq (idxQ P) fun _ _ _ _ _ _ h hp _ _ _ hev _ => idxQ_run h hp hev

end Go.Proofs.Ytobonipmnidadaa
