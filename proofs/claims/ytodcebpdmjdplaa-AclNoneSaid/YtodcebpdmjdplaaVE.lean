/- The executor, fourteenth part: code, up to its end or the next loop; a function. -/
import Derived.Test.YtodcebpdmjdplaaVD
import Derived.RangeFuncLeaves
import Derived.LoopNIn
namespace Go.Proofs.Ytodcebpdmjdplaa
open Go.RowKit
variable {P : Program} {T : CT P}

inductive KI where
  | code (c : Code)
  | blk (id : Nat)
  | again (m : Nat) (b : Code)

def kont (ro : Option Nat) (n : Nat) (P : Program) : List KI → (Exit → Act → World → Prop) → Exit → Act → World → Prop
  | [], Q => Q
  | .code c :: k, Q => Exit.then (fun a w => c.wpIn (Fw ro) n P (kont ro n P k Q) a w) (kont ro n P k Q)
  | .blk id :: k, Q => Exit.inBlock id (kont ro n P k Q)
  | .again m b :: k, Q => Exit.then (Code.roundsIn (Fw ro) n P b (kont ro n P k Q) m) (kont ro n P k Q)

theorem kont_ret {ro : Option Nat} {n : Nat} {Q : Exit → Act → World → Prop} {a : Act} {w : World} : ∀ (k : List KI), Q .ret a w → kont ro n P k Q .ret a w
  | [], h => h
  | .code _ :: k, h => kont_ret k h
  | .blk _ :: k, h => kont_ret k h
  | .again _ _ :: k, h => kont_ret k h

/-- Out to a block; none: it is none of these. -/
def outTo (id : Nat) : List KI → Option (List KI)
  | [] => none
  | .code _ :: k => outTo id k
  | .again _ _ :: k => outTo id k
  | .blk j :: k => cond (Nat.beq id j) (some k) (outTo id k)

theorem kont_exit {ro : Option Nat} {n : Nat} {Q : Exit → Act → World → Prop} {a : Act} {w : World} {id : Nat} : ∀ (k : List KI),
    (∀ k', outTo id k = some k' → kont ro n P k' Q .normal a w) → (outTo id k = none → Q (.exit id) a w) → kont ro n P k Q (.exit id) a w
  | [], _, h => h rfl
  | .code _ :: k, h1, h2 => kont_exit k h1 h2
  | .again _ _ :: k, h1, h2 => kont_exit k h1 h2
  | .blk j :: k, h1, h2 => by
    show (if id = j then kont ro n P k Q .normal a w else kont ro n P k Q (.exit id) a w)
    by_cases e : id = j
    · subst e
      rw [if_pos rfl]
      exact h1 k (by simp [outTo])
    · rw [if_neg e]
      have hb : Nat.beq id j = false := by
        cases h : Nat.beq id j with
        | false => rfl
        | true => exact absurd (Nat.eq_of_beq_eq_true h) e
      exact kont_exit k (fun k' hk' => h1 k' (by simp [outTo, hb, hk'])) (fun hk => h2 (by simp [outTo, hb, hk]))

/-- Where a run comes to a halt. -/
inductive RX where
  | norm
  | ret
  | exit (id : Nat)
  | loop (body : Code) (k : List KI)
  | range (g : Operand) (ps : Array Tmp) (assign body : Code) (k : List KI)

def RX.fin (ro : Option Nat) (n : Nat) (P : Program) (Q : Exit → Act → World → Prop) (a : Act) (w : World) : RX → Prop
  | .norm => Q .normal a w
  | .ret => Q .ret a w
  | .exit id => Q (.exit id) a w
  | .loop body k => (Code.loop body).wpIn (Fw ro) n P (kont ro n P k Q) a w
  | .range g ps as body k => (Code.rangeFunc g ps as body).wpIn (Fw ro) n P (kont ro n P k Q) a w

def condA (F : AF) (c : Operand) (D : List Dec) : Option (Bool × AF × List Dec × Option Prop) :=
  match D with
  | .c slot d :: D' => match c with
    | .tmp t => cond (Nat.beq slot t) (match boolOf (F.getD t .undef) with
      | some x => some (d, F.set t (.b d), D', some (x = d))
      | none => none) (match boolOf (F.getD t .undef) with | some x => some (x, F, D, none) | none => none)
    | c => match boolOf (F.ev c) with | some x => some (x, F, D, none) | none => none
  | D => match boolOf (F.ev c) with | some x => some (x, F, D, none) | none => none

theorem condA_ok {F F' : AF} {c : Operand} {D D' : List Dec} {b : Bool} {p : Option Prop} (h : condA F c D = some (b, F', D', p)) (hp : Owed p) {r : Nat → Nat} {a : Act} (hF : FrameOk r F a) :
    a.eval c = .bool b ∧ FrameOk r F' a := by
  have nat : (match boolOf (F.ev c) with | some x => some (x, F, D, (none : Option Prop)) | none => none) = some (b, F', D', p) → a.eval c = .bool b ∧ FrameOk r F' a := fun h => by
    cases hb : boolOf (F.ev c) with
    | none => simp [hb] at h
    | some x =>
      simp [hb] at h
      obtain ⟨rfl, rfl, _⟩ := h
      exact ⟨by rw [hF.eval, boolOf_conc hb], hF⟩
  unfold condA at h
  split at h
  · rename_i slot d D1
    split at h
    · rename_i t
      cases hk : Nat.beq slot t with
      | false => rw [hk] at h; exact nat h
      | true =>
        simp only [hk, cond_true] at h
        cases hb : boolOf (F.getD t .undef) with
        | none => simp only [hb] at h; cases h
        | some x =>
          simp only [hb, Option.some.injEq, Prod.mk.injEq] at h
          obtain ⟨rfl, rfl, rfl, rfl⟩ := h
          have e := hp.some
          refine ⟨?_, hF.subst hb e⟩
          rw [hF.eval]
          simp only [AF.ev]
          rw [boolOf_conc hb, e]
    · exact nat h
  · exact nat h

def selB : Bool → Code → Code → Code
  | true, x, _ => x
  | false, _, y => y

def runK (P : Program) (T : CT P) : Nat → List KI → AF → AH → List Dec → Option (RX × AF × AH × List Dec × List Prop)
  | 0, _, _, _, _ => none
  | _ + 1, [], F, H, D => some (.norm, F, H, D, [])
  | fuel + 1, .blk _ :: k, F, H, D => runK P T fuel k F H D
  | _ + 1, .again 0 _ :: _, _, _, _ => none
  | fuel + 1, .again (m + 1) b :: k, F, H, D => runK P T fuel (.code b :: .again m b :: k) F H D
  | fuel + 1, .code c :: k, F, H, D =>
    match c with
    | .skip => runK P T fuel k F H D
    | .label _ => runK P T fuel k F H D
    | .region id ops d =>
      match regionA P T id ops d F H D with
      | some (F, H, D, ps) => match runK P T fuel k F H D with
        | some (x, F, H, D, qs) => some (x, F, H, D, ps ++ qs)
        | none => none
      | none => none
    | .seq a b => runK P T fuel (.code a :: .code b :: k) F H D
    | .cond c x y =>
      match condA F c D with
      | some (b, F, D, p) => match runK P T fuel (.code (selB b x y) :: k) F H D with
        | some (x, F, H, D, qs) => some (x, F, H, D, addO p qs)
        | none => none
      | none => none
    | .block id b => runK P T fuel (.code b :: .blk id :: k) F H D
    | .loop b => match D with
      | .u m :: D => runK P T fuel (.code b :: .again m b :: k) F H D
      | D => some (.loop b k, F, H, D, [])
    | .rangeFunc g ps as b => some (.range g ps as b k, F, H, D, [])
    | .exit id => match outTo id k with
      | some k => runK P T fuel k F H D
      | none => some (.exit id, F, H, D, [])
    | .ret => some (.ret, F, H, D, [])
    | _ => none

theorem Holds.append {l m : List Prop} (h : Holds (l ++ m)) : Holds l ∧ Holds m := by
  induction l with
  | nil => exact ⟨trivial, h⟩
  | cons p l ih => exact ⟨⟨h.1, (ih h.2).1⟩, (ih h.2).2⟩

theorem runOps_len {ops : Array Oper} {rid : Nat} : ∀ (l : List Oper) (i : Nat) (F : AF) (H : AH) (D : List Dec) (F' : AF) (H' : AH) (D' : List Dec) (ps : List Prop) (rs : List Rec),
    runOps P T ops rid i l F H D = some (F', H', D', ps, rs) → H.length ≤ H'.length
  | [], i, F, H, D, F', H', D', ps, rs, h => by
    simp [runOps] at h
    obtain ⟨_, rfl, _⟩ := h
    exact Nat.le_refl _
  | o :: l, i, F, H, D, F', H', D', ps, rs, h => by
    unfold runOps at h
    cases hsub : subS (rid * 1000 + i) F D with
    | mk F1 q =>
      obtain ⟨D1, p⟩ := q
      simp only [hsub] at h
      cases hw : wantA ops F1 o with
      | none => simp [hw] at h
      | some b =>
        simp only [hw] at h
        cases b with
        | true =>
          simp only [] at h
          cases hb : bareA P T (rid * 1000 + i) o F1 H D1 with
          | none => simp [hb] at h
          | some x =>
            obtain ⟨s, D2⟩ := x
            simp only [hb] at h
            cases hr : runOps P T ops rid (i + 1) l (putF F1 o.dst s.v) (s.heap H) D2 with
            | none => simp [hr] at h
            | some y =>
              obtain ⟨F2, H2, D3, ps', rs'⟩ := y
              simp only [hr, Option.some.injEq, Prod.mk.injEq] at h
              obtain ⟨rfl, rfl, rfl, rfl, rfl⟩ := h
              exact Nat.le_trans (bareA_len hb) (runOps_len l _ _ _ _ _ _ _ _ _ hr)
        | false =>
          simp only [] at h
          cases hr : runOps P T ops rid (i + 1) l (putF F1 o.dst .undef) H D1 with
          | none => simp [hr] at h
          | some y =>
            obtain ⟨F2, H2, D3, ps', rs'⟩ := y
            simp only [hr, Option.some.injEq, Prod.mk.injEq] at h
            obtain ⟨rfl, rfl, rfl, rfl, rfl⟩ := h
            exact runOps_len l _ _ _ _ _ _ _ _ _ hr

theorem regionA_len {rid : Nat} {ops : Array Oper} {draw : Bool} {F F' : AF} {H H' : AH} {D D' : List Dec} {ps : List Prop} (h : regionA P T rid ops draw F H D = some (F', H', D', ps)) : H.length ≤ H'.length := by
  unfold regionA at h
  cases hr : runOps P T ops rid 0 ops.toList F H D with
  | none => simp [hr] at h
  | some x =>
    obtain ⟨F1, H1, D1, ps1, rs⟩ := x
    have := runOps_len _ _ _ _ _ _ _ _ _ _ hr
    simp only [hr] at h
    cases draw with
    | false => simp at h; obtain ⟨_, rfl, _⟩ := h; exact this
    | true => cases hmb : mixB ops rs F H <;> simp [hmb] at h; obtain ⟨_, rfl, _⟩ := h; exact this

theorem runK_wp (hmx : P.follows .mixedOrders = true) {ro : Option Nat} {n : Nat} {Q : Exit → Act → World → Prop} {W0 : World} : ∀ (fuel : Nat) (k : List KI) (F : AF) (H : AH) (D : List Dec) (x : RX) (F' : AF) (H' : AH) (D' : List Dec) (ps : List Prop),
    runK P T fuel k F H D = some (x, F', H', D', ps) → Holds ps → ∀ (r : Nat → Nat) (a : Act) (w : World), FrameOk r F a → St r H W0 w →
    (∀ r' w' a', Agree H.length r r' → St r' H' W0 w' → FrameOk r' F' a' → a'.defers = a.defers → x.fin ro n P Q a' w') → kont ro n P k Q .normal a w
  | 0, k, F, H, D, x, F', H', D', ps, h, _, r, a, w, _, _, _ => by simp [runK] at h
  | fuel + 1, [], F, H, D, x, F', H', D', ps, h, hps, r, a, w, hF, hst, hQ => by
    simp [runK] at h
    obtain ⟨rfl, rfl, rfl, _⟩ := h
    exact hQ r w a (Agree.refl _ _) hst hF rfl
  | fuel + 1, .blk id :: k, F, H, D, x, F', H', D', ps, h, hps, r, a, w, hF, hst, hQ => runK_wp hmx fuel k F H D x F' H' D' ps h hps r a w hF hst hQ
  | fuel + 1, .again 0 b :: k, F, H, D, x, F', H', D', ps, h, hps, r, a, w, hF, hst, hQ => by simp [runK] at h
  | fuel + 1, .again (m + 1) b :: k, F, H, D, x, F', H', D', ps, h, hps, r, a, w, hF, hst, hQ => runK_wp hmx fuel (.code b :: .again m b :: k) F H D x F' H' D' ps (by simpa [runK] using h) hps r a w hF hst hQ
  | fuel + 1, .code c :: k, F, H, D, x, F', H', D', ps, h, hps, r, a, w, hF, hst, hQ => by
    show c.wpIn (Fw ro) n P (kont ro n P k Q) a w
    cases c with
    | skip => exact wpIn_skip (runK_wp hmx fuel k F H D x F' H' D' ps h hps r a w hF hst hQ)
    | label l => exact wpIn_label (runK_wp hmx fuel k F H D x F' H' D' ps h hps r a w hF hst hQ)
    | region id ops d =>
      simp only [runK] at h
      cases hr : regionA P T id ops d F H D with
      | none => simp [hr] at h
      | some y =>
        obtain ⟨F1, H1, D1, ps1⟩ := y
        simp only [hr] at h
        cases hk : runK P T fuel k F1 H1 D1 with
        | none => simp [hk] at h
        | some z =>
          obtain ⟨x2, F2, H2, D2, qs⟩ := z
          simp only [hk, Option.some.injEq, Prod.mk.injEq] at h
          obtain ⟨rfl, rfl, rfl, rfl, rfl⟩ := h
          obtain ⟨h1, h2⟩ := hps.append
          refine regionA_wp hmx hr h1 hF hst fun r' w' a' hag hst' hF' hd => ?_
          exact runK_wp hmx fuel k F1 H1 D1 _ _ _ _ _ hk h2 r' a' w' hF' hst' fun r2 w2 a2 hag2 hst2 hF2 hd2 => hQ r2 w2 a2 (hag.trans hag2 (regionA_len hr)) hst2 hF2 (hd2.trans hd)
    | seq p q => exact wpIn_seq (runK_wp hmx fuel (.code p :: .code q :: k) F H D x F' H' D' ps h hps r a w hF hst hQ)
    | cond c p q =>
      simp only [runK] at h
      cases hc : condA F c D with
      | none => simp [hc] at h
      | some y =>
        obtain ⟨b, F1, D1, p1⟩ := y
        simp only [hc] at h
        cases hk : runK P T fuel (.code (selB b p q) :: k) F1 H D1 with
        | none => simp [hk] at h
        | some z =>
          obtain ⟨x2, F2, H2, D2, qs⟩ := z
          simp only [hk, Option.some.injEq, Prod.mk.injEq] at h
          obtain ⟨rfl, rfl, rfl, rfl, rfl⟩ := h
          obtain ⟨h1, h2⟩ := hps.addO
          obtain ⟨he, hF1⟩ := condA_ok hc h1 hF
          refine wpIn_cond he ?_
          have := runK_wp hmx fuel _ F1 H D1 _ _ _ _ _ hk h2 r a w hF1 hst hQ
          cases b <;> exact this
    | block id b => exact wpIn_block (runK_wp hmx fuel (.code b :: .blk id :: k) F H D x F' H' D' ps h hps r a w hF hst hQ)
    | loop b =>
      have stop : some (RX.loop b k, F, H, D, ([] : List Prop)) = some (x, F', H', D', ps) → (Code.loop b).wpIn (Fw ro) n P (kont ro n P k Q) a w := fun h => by
        simp at h
        obtain ⟨rfl, rfl, rfl, _⟩ := h
        exact hQ r w a (Agree.refl _ _) hst hF rfl
      simp only [runK] at h
      split at h
      · rename_i m D1
        exact wpIn_loop_rounds (m + 1) (runK_wp hmx fuel (.code b :: .again m b :: k) F H D1 x F' H' D' ps h hps r a w hF hst hQ)
      · exact stop h
    | rangeFunc g ps' as b =>
      simp [runK] at h
      obtain ⟨rfl, rfl, rfl, _⟩ := h
      exact hQ r w a (Agree.refl _ _) hst hF rfl
    | exit id =>
      simp only [runK] at h
      refine wpIn_exit (kont_exit k (fun k' hk' => ?_) fun hk => ?_)
      · rw [hk'] at h
        exact runK_wp hmx fuel k' F H D x F' H' D' ps h hps r a w hF hst hQ
      · rw [hk] at h
        simp at h
        obtain ⟨rfl, rfl, rfl, _⟩ := h
        exact hQ r w a (Agree.refl _ _) hst hF rfl
    | ret =>
      simp [runK] at h
      obtain ⟨rfl, rfl, rfl, _⟩ := h
      exact wpIn_ret (kont_ret k (hQ r w a (Agree.refl _ _) hst hF rfl))
    | scope b => unfold runK at h; cases h
    | goto l => unfold runK at h; cases h
    | refuse s => unfold runK at h; cases h

/-! ### A function -/
def resA (P : Program) (F : AF) (H : AH) : ResultVar → Option TV
  | .tmp t => match F.getD t .undef with
    | .tv v => some v
    | .tup _ => none
  | .cell a t => match F.getD a .undef with
    | .tv (.one (.ptr i o)) => loadA P H t i o
    | _ => none

def resAll (P : Program) (F : AF) (H : AH) : List ResultVar → Option (List TV)
  | [] => some []
  | x :: l => match resA P F H x, resAll P F H l with
    | some v, some vs => some (v :: vs)
    | _, _ => none

/-- What a function hands back. -/
def retA (P : Program) (fn : Func) (F : AF) (H : AH) : Option AV :=
  match resAll P F H fn.results.toList with
  | some [v] => some (.tv v)
  | some vs => some (.tup vs)
  | none => none

def resSem (tmps : Array Value) : ResultVar → Sem Value
  | .tmp t => pure (tmps.getD t Go.undef)
  | .cell p t => do loadVar t (← asAddr (tmps.getD p Go.undef))

theorem resA_run {F : AF} {H : AH} {x : ResultVar} {v : TV} (h : resA P F H x = some v) {r : Nat → Nat} {a : Act} {W0 w : World} (hF : FrameOk r F a) (hst : St r H W0 w) :
    (resSem a.tmps x).run P w = .ok (v.conc r) w := by
  cases x with
  | tmp t =>
    simp only [resA] at h
    split at h
    · rename_i u hu
      simp at h; subst h
      simp only [resSem, Sem.run_pure]
      rw [hF.looks t, hu]; rfl
    · simp at h
  | cell p t =>
    simp only [resA] at h
    split at h
    · rename_i i o hu
      have e : a.tmps.getD p Go.undef = .pointer (some ⟨r i, o, none⟩) := by rw [hF.looks p, hu]; rfl
      simp only [resSem, e, asAddr, Sem.run_bind, Sem.run_pure, Result.andThen_ok]
      exact loadA_run h fun x hx => hst.at_ i x hx
    · simp at h

theorem retA_run {fn : Func} {F : AF} {H : AH} {v : AV} (h : retA P fn F H = some v) {r : Nat → Nat} {a : Act} {W0 w : World} (hF : FrameOk r F a) (hst : St r H W0 w) :
    (results fn a.tmps).run P w = .ok (v.conc r) w := by
  unfold retA at h
  have key : ∀ (l : List ResultVar) (vs : List TV), resAll P F H l = some vs →
      (l.mapM (resSem a.tmps)).run P w = .ok (vs.map (TV.conc r)) w := by
    intro l
    induction l with
    | nil => intro vs hv; simp [resAll] at hv; subst hv; rfl
    | cons x l ih =>
      intro vs hv
      simp only [resAll] at hv
      cases hx : resA P F H x with
      | none => simp [hx] at hv
      | some u =>
        cases hl : resAll P F H l with
        | none => simp [hx, hl] at hv
        | some us =>
          simp [hx, hl] at hv; subst hv
          have h1 := resA_run hx hF hst
          have h2 := ih us hl
          rw [List.mapM_cons]
          simp only [Sem.run_bind]
          rw [h1]
          simp only [Result.andThen_ok]
          rw [h2]
          rfl
  cases hr : resAll P F H fn.results.toList with
  | none => simp [hr] at h
  | some vs =>
    have hk := key _ _ hr
    have hm : (fn.results.mapM (resSem a.tmps)).run P w = .ok (vs.map (TV.conc r)).toArray w := by
      rw [Array.mapM_eq_mapM_toList]
      simp only [Sem.run_map, hk]
      rfl
    have hres : results fn a.tmps = (do let vs ← fn.results.mapM (resSem a.tmps); pure (if h : vs.size = 1 then vs[0] else .tuple vs)) := by
      unfold results resSem; rfl
    rw [hres]
    simp only [Sem.run_bind, hm, Result.andThen_ok]
    rw [hr] at h
    match vs, h with
    | [], h => simp at h; subst h; rfl
    | [u], h => simp at h; subst h; rfl
    | u :: u' :: us, h => simp at h; subst h; simp [AV.conc]

end Go.Proofs.Ytodcebpdmjdplaa
