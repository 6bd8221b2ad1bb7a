/- The executor, eleventh part: the theorem on a drawn order. -/
import Derived.Test.YtodcebpdmjdplaaVA
namespace Go.Proofs.Ytodcebpdmjdplaa
open Go.RowKit
variable {P : Program} {T : CT P}

def dstAt (ops : Array Oper) (j : Nat) : Option Tmp := (ops[j]?).bind (·.dst)
def afterB (ops : Array Oper) (i j : Nat) : Bool := match ops[i]? with | some o => o.after.any fun e => Region.binds .any e && Nat.beq e.on j | none => false
def isDst (ops : Array Oper) (t : Tmp) (j : Nat) : Bool := match dstAt ops j with | some d => Nat.beq d t | none => false
def dstOf (ops : Array Oper) (t : Tmp) : Option Nat := (List.range ops.size).find? (isDst ops t)
def recAt (rs : List Rec) (j : Nat) : Rec := rs.getD j ⟨[], [], none⟩

/-- What a slot holds when these have come. -/
def cur (ops : Array Oper) (rs : List Rec) (F0 : AF) (L : Nat → Bool) (t : Tmp) : AV :=
  match dstOf ops t with
  | some j => if L j then (recAt rs j).v else F0.getD t .undef
  | none => F0.getD t .undef

/-- No order among the two by an edge of either. -/
def loose (ops : Array Oper) (i e : Nat) : Bool := !afterB ops i e && !afterB ops e i

structure MixOk (ops : Array Oper) (rs : List Rec) (F0 : AF) (H0 : AH) : Prop where
  back : ∀ i j, i < ops.size → afterB ops i j = true → j < i
  dst : ∀ j t, j < ops.size → dstAt ops j = some t → t < F0.length ∧ dstOf ops t = some j
  looks : ∀ i o t j, ops[i]? = some o → t ∈ o.looksAt ops → dstOf ops t = some j → (j < i ∧ afterB ops i j = true) ∨ (i < j ∧ afterB ops j i = true)
  effs : ∀ i e, i < ops.size → e < ops.size → (recAt rs i).isEff = true → (recAt rs e).isEff = true → rank rs e + 1 = rank rs i → afterB ops i e = true
  feet : ∀ i, i < ops.size → (recAt rs i).isEff = false →
    ((∀ e, e < ops.size → (recAt rs e).isEff = true → loose ops i e = false) ∧ (recAt rs i).v.sc (recAt rs i).H.length = true) ∨
    ((∀ x ∈ (recAt rs i).foot, x < H0.length) ∧ (∀ e, e < ops.size → (recAt rs e).isEff = true → loose ops i e = true → ∀ x ∈ (recAt rs i).foot, x ∉ (recAt rs e).ids) ∧ (recAt rs i).v.sc H0.length = true)
  effv : ∀ i, i < ops.size → (recAt rs i).isEff = true → (recAt rs i).v.sc (recAt rs i).heap.length = true
  f0 : F0.scB H0.length = true

def mixB (ops : Array Oper) (rs : List Rec) (F0 : AF) (H0 : AH) : Bool :=
  let n := List.range ops.size
  (n.all fun i => match ops[i]? with | some o => o.after.all fun e => !Region.binds .any e || Nat.blt e.on i | none => true) &&
  (n.all fun j => match dstAt ops j with | some t => Nat.blt t F0.length && (match dstOf ops t with | some k => Nat.beq k j | none => false) | none => true) &&
  (n.all fun i => match ops[i]? with
    | some o => (o.looksAt ops).all fun t => match dstOf ops t with
      | some j => (Nat.blt j i && afterB ops i j) || (Nat.blt i j && afterB ops j i)
      | none => true
    | none => true) &&
  (n.all fun i => !(recAt rs i).isEff || n.all fun e => !(recAt rs e).isEff || !Nat.beq (rank rs e + 1) (rank rs i) || afterB ops i e) &&
  (n.all fun i => (recAt rs i).isEff ||
    ((n.all fun e => !(recAt rs e).isEff || !loose ops i e) && (recAt rs i).v.sc (recAt rs i).H.length) ||
    ((recAt rs i).foot.all (fun x => Nat.blt x H0.length) && (n.all fun e => !(recAt rs e).isEff || !loose ops i e || (recAt rs i).foot.all fun x => (recAt rs e).ids.all fun y => !Nat.beq y x) && (recAt rs i).v.sc H0.length)) &&
  (n.all fun i => !(recAt rs i).isEff || (recAt rs i).v.sc (recAt rs i).heap.length) &&
  F0.scB H0.length

theorem all_range {n : Nat} {p : Nat → Bool} (h : (List.range n).all p = true) (i : Nat) (hi : i < n) : p i = true := List.all_eq_true.1 h i (List.mem_range.2 hi)

theorem mixB_ok {ops : Array Oper} {rs : List Rec} {F0 : AF} {H0 : AH} (h : mixB ops rs F0 H0 = true) : MixOk ops rs F0 H0 := by
  unfold mixB at h
  simp only [Bool.and_eq_true] at h
  obtain ⟨⟨⟨⟨⟨⟨h1, h2⟩, h3⟩, h4⟩, h5⟩, h6⟩, h7⟩ := h
  refine ⟨fun i j hi ha => ?_, fun j t hj ht => ?_, fun i o t j ho ht hd => ?_, fun i e hi he h1' h2' hr => ?_, fun i hi hq => ?_, fun i hi he => ?_, h7⟩
  · have := all_range h1 i hi
    unfold afterB at ha
    cases ho : ops[i]? with
    | none => simp [ho] at ha
    | some o =>
      simp only [ho] at ha this
      obtain ⟨e, hm, he⟩ := Array.any_eq_true'.1 ha
      have := (Array.all_eq_true'.1 this) e hm
      simp only [Bool.and_eq_true, Nat.beq_eq] at he
      obtain ⟨he1, rfl⟩ := he
      simpa [he1] using this
  · have := all_range h2 j hj
    simp only [ht, Bool.and_eq_true, Nat.blt_eq] at this
    refine ⟨this.1, ?_⟩
    have h' := this.2
    cases hd : dstOf ops t with
    | none => simp [hd] at h'
    | some k => simp [hd] at h'; rw [h']
  · have hi := (Array.getElem?_eq_some_iff.1 ho).1
    have := all_range h3 i hi
    simp only [ho] at this
    have := List.all_eq_true.1 this t ht
    simp only [hd, Bool.or_eq_true, Bool.and_eq_true, Nat.blt_eq] at this
    exact this
  · have := all_range h4 i hi
    simp only [h1', Bool.not_true, Bool.false_or] at this
    have := all_range this e he
    simp only [h2', Bool.not_true, Bool.false_or, hr, Nat.beq_refl] at this
    exact this
  · have := all_range h5 i hi
    simp only [hq, Bool.false_or, Bool.or_eq_true, Bool.and_eq_true] at this
    rcases this with ⟨ha, hb⟩ | ⟨⟨ha, hb⟩, hc⟩
    · refine .inl ⟨fun e he h' => ?_, hb⟩
      have := all_range ha e he
      simpa [h'] using this
    · refine .inr ⟨fun x hx => ?_, fun e he h' hl x hx hm => ?_, hc⟩
      · have := List.all_eq_true.1 ha x hx
        simpa using this
      · have := all_range hb e he
        simp only [h', hl, Bool.not_true, Bool.false_or] at this
        have := List.all_eq_true.1 (List.all_eq_true.1 this x hx) x hm
        simp at this
  · have := all_range h6 i hi
    simpa [he] using this

/-! ### Ranks -/
theorem rank_succ : ∀ (rs : List Rec) (i : Nat), i < rs.length → rank rs (i + 1) = rank rs i + if (recAt rs i).isEff then 1 else 0
  | [], i, h => by simp at h
  | r :: rs, 0, _ => by simp [rank, recAt]; cases rs <;> rfl
  | r :: rs, i + 1, h => by
    have ih := rank_succ rs i (by simpa using h)
    simp only [rank] at ih ⊢
    rw [ih]
    simp only [recAt, List.getD_cons_succ, Nat.add_assoc]
    rfl

theorem rank_mono (rs : List Rec) {i j : Nat} (h : i ≤ j) (hj : j ≤ rs.length) : rank rs i ≤ rank rs j := by
  induction j with
  | zero => have : i = 0 := by omega
            subst this; exact Nat.le_refl _
  | succ j ih =>
    by_cases e : i = j + 1
    · subst e; exact Nat.le_refl _
    · have := ih (by omega) (by omega)
      rw [rank_succ rs j (by omega)]
      omega

theorem rank_lt (rs : List Rec) {i j : Nat} (h : i < j) (hj : j ≤ rs.length) (he : (recAt rs i).isEff = true) : rank rs i < rank rs j := by
  have h1 := rank_succ rs i (by omega)
  rw [if_pos he] at h1
  have := rank_mono rs (i := i + 1) (j := j) h hj
  omega

theorem rank_exists (rs : List Rec) {i : Nat} (hi : i ≤ rs.length) {m : Nat} (hm : m < rank rs i) : ∃ e, e < i ∧ (recAt rs e).isEff = true ∧ rank rs e = m := by
  induction i with
  | zero => simp [show rank rs 0 = 0 by cases rs <;> rfl] at hm
  | succ i ih =>
    rw [rank_succ rs i (by omega)] at hm
    by_cases h : m < rank rs i
    · obtain ⟨e, h1, h2, h3⟩ := ih (by omega) h
      exact ⟨e, by omega, h2, h3⟩
    · by_cases he : (recAt rs i).isEff = true
      · rw [if_pos he] at hm
        exact ⟨i, by omega, he, by omega⟩
      · rw [if_neg he] at hm; omega

/-! ### What the run in the text's order says of each -/
theorem chain_len {ops : Array Oper} : ∀ (l : List Oper) (F : AF) (H : AH) (rs : List Rec), Chain P ops l F H rs → rs.length = l.length
  | [], F, H, [], _ => rfl
  | [], F, H, _ :: _, h => h.elim
  | _ :: _, F, H, [], h => h.elim
  | o :: l, F, H, r :: rs, h => by simp [chain_len l _ _ rs h.2.2.2.2]

theorem chain_ok {ops : Array Oper} : ∀ (l : List Oper) (F : AF) (H : AH) (rs : List Rec), Chain P ops l F H rs → ∀ i o, l[i]? = some o → RecOk P ops o (recAt rs i)
  | [], F, H, rs, _, i, o, ho => by simp at ho
  | _ :: _, F, H, [], h, i, o, ho => h.elim
  | o' :: l, F, H, r :: rs, h, 0, o, ho => by simp at ho; subst ho; exact h.2.2.2.1
  | o' :: l, F, H, r :: rs, h, i + 1, o, ho => by simpa [recAt] using chain_ok l _ _ rs h.2.2.2.2 i o (by simpa using ho)

/-- The frame at an operation: each slot by who wrote it last. -/
theorem chain_frame {ops : Array Oper} (g : Nat → Nat) : ∀ (l : List Oper) (F : AF) (H : AH) (rs : List Rec), Chain P ops l F H rs → (∀ o ∈ l, ∀ t, o.dst = some t → t < F.length) → ∀ i, i < l.length → ∀ t,
    (∀ j o, j < i → l[j]? = some o → o.dst = some t → (∀ k o', j < k → k < i → l[k]? = some o' → o'.dst ≠ some t) → ((recAt rs i).F.getD t .undef).conc g = (recAt rs j).v.conc g) ∧
    ((∀ j o, j < i → l[j]? = some o → o.dst ≠ some t) → ((recAt rs i).F.getD t .undef).conc g = (F.getD t .undef).conc g)
  | [], F, H, rs, _, _, i, hi, t => by simp at hi
  | _ :: _, F, H, [], h, _, i, hi, t => h.elim
  | o' :: l, F, H, r :: rs, h, hd, 0, hi, t => ⟨fun j o hj => by omega, fun _ => h.1 g t⟩
  | o' :: l, F, H, r :: rs, h, hd, i + 1, hi, t => by
    have hlen : (putF r.F o'.dst r.v).length = F.length := by
      unfold putF; cases o'.dst <;> simp [h.2.1]
    have ih := chain_frame g l _ _ rs h.2.2.2.2 (fun o ho t ht => by rw [hlen]; exact hd o (List.mem_cons_of_mem _ ho) t ht) i (by simpa using hi) t
    have hr : recAt (r :: rs) (i + 1) = recAt rs i := by simp [recAt]
    rw [hr]
    constructor
    · intro j o hj ho ht hno
      cases j with
      | zero =>
        simp at ho; subst ho
        rw [ih.2 fun j o hj ho' => hno (j + 1) o (by omega) (by omega) (by simpa using ho')]
        have htl : t < r.F.length := by rw [h.2.1]; exact hd o' (by simp) t ht
        simp [putF, ht, recAt, List.getD_eq_getElem?_getD, htl]
      | succ j =>
        have := ih.1 j o (by omega) (by simpa using ho) ht fun k o' hk hk' ho' => hno (k + 1) o' (by omega) (by omega) (by simpa using ho')
        rw [this]
        simp [recAt]
    · intro hno
      rw [ih.2 fun j o hj ho' => hno (j + 1) o (by omega) (by simpa using ho')]
      have h0 := hno 0 o' (by omega) (by simp)
      have : (putF r.F o'.dst r.v).getD t .undef = r.F.getD t .undef := by
        unfold putF
        cases hd' : o'.dst with
        | none => rfl
        | some d =>
          rw [hd'] at h0
          simp only [List.getD_eq_getElem?_getD, List.getElem?_set]
          rw [if_neg (fun e => h0 (by rw [e]))]
      rw [this]
      exact h.1 g t

end Go.Proofs.Ytodcebpdmjdplaa
