/- What waits, in order: the iterator's own code, and its contract. What waits, in order: the iterator's contract. -/
import Derived.Test.YtobonipmnidadaaJ21
import Derived.Test.YtobonipmnidadaaJ19
import Derived.Test.YtobonipmnidadaaJ9
namespace Go.Proofs.Ytobonipmnidadaa
open Go.RowKit
set_option maxRecDepth 8000

/-! ### maps.Keys -/
theorem keys_ctr (o : Obj) : Ctr Try.prog 48 [.c (.mp 0)] [(.raw o, 0)] (.c (.clo 56 [(1, 0)])) [(.raw o, 0), (.cells [.mp 0] 60, 1)] :=
  ctr_run hmx TL [] _ (.c (.clo 56 [(1, 0)])) [] (by kernel_rfl) (by kernel_rfl) trivial [0, 1] [0, 1] (by kernel_rfl) (by kernel_rfl) (by kernel_rfl) (by kernel_rfl)

def keysE (args : List AV) (H : AH) : Option (AV × List (Nat × AO) × List AO × Option Prop) :=
  match args with
  | [.tv (.one (.mp i))] => match H[i]? with
    | some (.raw o, _) => cond (fewB H [i] [i] [(.raw o, 0)]) (some (.c (.clo 56 [(H.length, 0)]), [], [.cells [.mp i] 60], none)) none
    | _ => none
  | _ => none
theorem keysE_ok {args : List AV} {H : AH} {v : AV} {upd : List (Nat × AO)} {new : List AO} {pr : Option Prop} (h : keysE args H = some (v, upd, new, pr)) (r : Gh) (W0 : Base) (w : World) (hst : St r H W0 w) (hsc : H.scB = true) :
    Calls Try.prog 48 (args.map (AV.conc r)).toArray w fun e w' => ∃ r', Agree H.length r r' ∧ e = .returned (v.conc r') ∧ St r' (moveH H upd new) W0 w' := by
  unfold keysE at h
  split at h
  · rename_i i
    split at h
    · rename_i o g hH
      cases hf : fewB H [i] [i] [(.raw o, 0)] with
      | false => simp [hf] at h
      | true =>
        simp only [hf, cond_true, Option.some.injEq, Prod.mk.injEq] at h
        obtain ⟨rfl, rfl, rfl, -⟩ := h
        exact (keys_ctr o).lift hst hsc [i] [i] hf (by simp [selH, renH, hH, AO.ren]) (by kernel_rfl) ⟨fun _ => rfl, trivial⟩
    · simp at h
  · simp at h
noncomputable def TM : CT Try.prog := TL.addE 48 keysE (by kernel_rfl) fun _ _ _ _ _ _ h _ r W0 w hst _ hsc => keysE_ok h r W0 w hst hsc

/-! ### The order -/
def dotsE (E : Wt) : List Dot := E.map (·.1.d)
def ordE (E : Wt) : List Ev := (sortD (dotsE E)).map (gotW E)
theorem got_mem {E : Wt} {d : Dot} (h : d ∈ dotsE E) : gotW E d ∈ E.map (·.1) ∧ (gotW E d).d = d := by
  obtain ⟨p, hp, rfl⟩ := List.mem_map.1 h
  unfold gotW findW
  cases hf : E.find? (isD p.1.d) with
  | none =>
    have := List.find?_eq_none.1 hf p hp
    simp [isD] at this
  | some q =>
    refine ⟨List.mem_map.2 ⟨q, List.mem_of_find?_eq_some hf, rfl⟩, ?_⟩
    have := List.find?_some hf
    simp only [isD, decide_eq_true_eq] at this
    simp [← this]
theorem ord_mem {E : Wt} {e : Ev} (h : e ∈ ordE E) : e ∈ E.map (·.1) := by
  obtain ⟨d, hd, rfl⟩ := List.mem_map.1 h
  exact (got_mem ((sortD_perm _).mem_iff.1 hd)).1
theorem ord_len (E : Wt) : (ordE E).length = E.length := by simp [ordE, dotsE, (sortD_perm _).length_eq]
/-- One of those that wait. -/
abbrev EvW (E : Wt) := { e : Ev // e ∈ E.map (·.1) }

/-! ### The iterator -/
structure Ino (x0 b M : Nat) (v : Vec) (m : Int) (E : Wt) (n : Nat) (W : World) : Prop where
  c0 : W.heap[x0]? = some (.cells #[.pointer (some ⟨b, 0, none⟩)] 43 (0, 0))
  buf : W.heap[b]? = some (.cells (v.cells ++ #[.int .i64 m, .map (some M)]) 62 (0, 0))
  map_ : W.heap[M]? = some (mapO E n)
theorem Ino.later {x0 b M : Nat} {v : Vec} {m : Int} {E : Wt} {n : Nat} {W W' : World} {k : Nat} (h : Ino x0 b M v m E n W) (hb : Below k W W') (h0 : x0 < k) (h1 : b < k) (h2 : M < k) : Ino x0 b M v m E n W' :=
  ⟨(hb.block _ h0).trans h.c0, (hb.block _ h1).trans h.buf, (hb.block _ h2).trans h.map_⟩
theorem Ino.lt {x0 b M : Nat} {v : Vec} {m : Int} {E : Wt} {n : Nat} {W : World} (h : Ino x0 b M v m E n W) : x0 < W.heap.size ∧ b < W.heap.size ∧ M < W.heap.size := ⟨lt_of_at h.c0, lt_of_at h.buf, lt_of_at h.map_⟩

def ioKp (x0 b M : Nat) (v : Vec) (m : Int) (E : Wt) (n : Nat) (A B : World) : Prop := (Ino x0 b M v m E n A → Ino x0 b M v m E n B) ∧ KeepsWalks A B ∧ ∀ (k : Nat) (c : Array Value) (f : Nat × Nat), A.heap[k]? = some (.cells c 26 f) → B.heap[k]? = A.heap[k]?
theorem ioKp_below {x0 b M : Nat} {v : Vec} {m : Int} {E : Wt} {n : Nat} {A B : World} (hb : Below A.heap.size A B) : ioKp x0 b M v m E n A B :=
  ⟨fun h => h.later hb h.lt.1 h.lt.2.1 h.lt.2.2, keepsWalks_of_below hb, fun k _ _ h => hb.block k (lt_of_at h)⟩
theorem ioKp_trans {x0 b M : Nat} {v : Vec} {m : Int} {E : Wt} {n : Nat} {A B C : World} (h : ioKp x0 b M v m E n A B) (h' : ioKp x0 b M v m E n B C) : ioKp x0 b M v m E n A C :=
  ⟨fun x => h'.1 (h.1 x), h.2.1.trans h'.2.1, fun k c f hk => (h'.2.2 k c f ((h.2.2 k c f hk).trans hk)).trans (h.2.2 k c f hk)⟩

/-- The row stands behind a round. -/
theorem row_kp {x0 b M : Nat} {v : Vec} {m : Int} {E : Wt} {n : Nat} {A B : World} (h : ioKp x0 b M v m E n A B) {base k : Nat} {sv : Value} {xs : List Value} (hr : A.ownsRow base 26 2 sv k xs) : B.ownsRow base 26 2 sv k xs := by
  refine ⟨hr.1, ?_⟩
  rcases hr.2 with h2 | ⟨g, cap, cur, e1, e2, e3, rest⟩
  · exact .inl h2
  · exact .inr ⟨g, cap, cur, e1, e2, (h.2.2 g cur _ e3).trans e3, rest⟩

/-- Numbers and owners of the four. -/
def ioG (x0 b M : Nat) (sv : Value) : Gh := ⟨fun i => match i with | 0 => x0 | 1 => b | 2 => M | _ => b, fun _ => svOf sv, fun k => if k = x0 then some 0 else if k = b then some 1 else if k = M then some 2 else if sv.ownBlock = some k then some 3 else none, fun _ => False⟩
def ioH (v : Vec) (m : Int) (E : Wt) (n : Nat) (S : List Dot) : AH := [(.cells [.ptr 1 0] 43, 0), (.cells (v.cvs ++ [.rig (.int .i64 m), .mp 2]) 62, 0), (.raw (mapO E n), 0), (.abs 3 (.dots S), 0)]

theorem io_st {x0 b M : Nat} {v : Vec} {m : Int} {E : Wt} {n : Nat} {W : World} (h : Ino x0 b M v m E n W) {S : List Dot} {sv : Value} {base : Nat} (hr : W.ownsRow base 26 2 sv S.length (S.flatMap encD)) :
    St (ioG x0 b M sv) (ioH v m E n S) (rd (ioG x0 b M sv) W) W := by
  have hv : (svOf sv).v = sv := svOf_own (ownsRow_mono hr (Nat.zero_le _))
  have n1 : x0 ≠ b := fun e => by have h1 := h.c0; rw [e, h.buf] at h1; simp at h1
  have n2 : x0 ≠ M := fun e => by have h1 := h.c0; rw [e, h.map_] at h1; simp [mapO] at h1
  have n3 : b ≠ M := fun e => by have h1 := h.buf; rw [e, h.map_] at h1; simp [mapO] at h1
  have hrow : ∀ k, sv.ownBlock = some k → k ≠ x0 ∧ k ≠ b ∧ k ≠ M ∧ k < W.heap.size := fun k e => by
    rcases hr.2 with ⟨rfl, _⟩ | ⟨g, cap, cur, rfl, _, e3, _⟩
    · simp [Value.ownBlock] at e
    · simp only [Value.ownBlock, Option.some.injEq] at e
      subst e
      refine ⟨fun e => ?_, fun e => ?_, fun e => ?_, lt_of_at e3⟩
      · rw [e, h.c0] at e3; simp at e3
      · rw [e, h.buf] at e3; simp at e3
      · rw [e, h.map_] at e3; simp [mapO] at e3
  have ho : ∀ k i, (ioG x0 b M sv).o k = some i → (k = x0 ∧ i = 0) ∨ (k = b ∧ i = 1) ∨ (k = M ∧ i = 2) ∨ (sv.ownBlock = some k ∧ i = 3) := fun k i hk => by
    simp only [ioG] at hk
    split at hk
    · rename_i e; cases hk; exact .inl ⟨e, rfl⟩
    · split at hk
      · rename_i e; cases hk; exact .inr (.inl ⟨e, rfl⟩)
      · split at hk
        · rename_i e; cases hk; exact .inr (.inr (.inl ⟨e, rfl⟩))
        · split at hk
          · rename_i e; cases hk; exact .inr (.inr (.inr ⟨e, rfl⟩))
          · cases hk
  refine ⟨⟨fun i x hx => ?_, fun k i hk => ?_, fun k hk => hk.elim, fun k hk => hk.elim⟩, fun k i x hk hx hf => ?_, fun k i hk => .inr (.inr hk), fun k hk => hk, fun k hk => hk.elim, rfl, rfl, rfl, Nat.le_refl _, fun _ _ _ => rfl⟩
  · match i, hx with
    | 0, hx =>
      cases hx
      refine ⟨h.c0, fun k => ⟨fun hk => ?_, fun hk => ?_⟩⟩
      · rcases ho k 0 hk with ⟨e, _⟩ | ⟨_, e⟩ | ⟨_, e⟩ | ⟨_, e⟩
        · exact e
        · cases e
        · cases e
        · cases e
      · have : k = x0 := hk
        simp [ioG, this]
    | 1, hx =>
      cases hx
      refine ⟨h.buf, fun k => ⟨fun hk => ?_, fun hk => ?_⟩⟩
      · rcases ho k 1 hk with ⟨_, e⟩ | ⟨e, _⟩ | ⟨_, e⟩ | ⟨_, e⟩
        · cases e
        · exact e
        · cases e
        · cases e
      · have : k = b := hk
        simp [ioG, this, Ne.symm n1]
    | 2, hx =>
      cases hx
      refine ⟨h.map_, fun k => ⟨fun hk => ?_, fun hk => ?_⟩⟩
      · rcases ho k 2 hk with ⟨_, e⟩ | ⟨_, e⟩ | ⟨e, _⟩ | ⟨_, e⟩
        · cases e
        · cases e
        · exact e
        · cases e
      · have : k = M := hk
        simp [ioG, this, Ne.symm n2, Ne.symm n3]
    | 3, hx =>
      cases hx
      refine rep_dots.2 ⟨?_, fun k hk => ?_⟩
      · show W.ownsRow 0 26 2 (svOf sv).v _ _
        rw [hv]; exact ownsRow_mono hr (Nat.zero_le _)
      · have hk' : sv.ownBlock = some k := by rw [← hv]; exact hk
        obtain ⟨q1, q2, q3, _⟩ := hrow k hk'
        simp only [ioG, if_neg q1, if_neg q2, if_neg q3, hk', if_true]
    | i + 4, hx => simp [ioH] at hx
  · rcases ho k i hk with ⟨rfl, rfl⟩ | ⟨rfl, rfl⟩ | ⟨rfl, rfl⟩ | ⟨e, rfl⟩
    · exact ⟨by simp [ioH], h.lt.1⟩
    · exact ⟨by simp [ioH], h.lt.2.1⟩
    · exact ⟨by simp [ioH], h.lt.2.2⟩
    · exact ⟨by simp [ioH], (hrow k e).2.2.2⟩
  · have := (List.getElem?_eq_some_iff.1 hx).1
    match i, hx with
    | 0, hx => cases hx; exact absurd rfl hf
    | 1, hx => cases hx; exact absurd rfl hf
    | 2, hx => cases hx; exact absurd rfl hf
    | 3, hx => cases hx; exact absurd rfl hf
    | i + 4, hx => simp [ioH] at hx

theorem FrameOk.setSame {r : Gh} {F : AF} {a : Act} (h : FrameOk r F a) (i : Nat) (x : AV) (hx : x.conc r = a.tmps.getD i Go.undef) : FrameOk r (F.set i x) a := by
  unfold FrameOk at *
  apply Array.ext_getElem?
  intro j
  simp only [List.getElem?_toArray, List.getElem?_map, List.getElem?_set]
  have hj : a.tmps[j]? = (F[j]?).map (AV.conc r) := by rw [h]; simp
  by_cases e : i = j
  · subst e
    rw [if_pos rfl]
    by_cases hl : i < F.length
    · rw [if_pos hl, Option.map_some, hx]
      have hs : i < a.tmps.size := by rw [h]; simpa using hl
      simp [Array.getD_eq_getD_getElem?, Array.getElem?_eq_getElem hs]
    · rw [if_neg hl, hj, List.getElem?_eq_none (by omega)]
  · rw [if_neg e]; exact hj

theorem FrameOk.garbAll (r : Gh) (a : Act) {n : Nat} (hn : a.tmps.size = n) : FrameOk r (Go.Proofs.Ytobonipmnidadaa.garb a 0 n) a := by
  have := FrameOk.garb (r := r) (F := []) (n := 0) (m := n) rfl (by omega) (fun i hi => by omega) (a := a)
  simpa using this

end Go.Proofs.Ytobonipmnidadaa

namespace Go.Proofs.Ytobonipmnidadaa
open Go.RowKit
set_option maxRecDepth 8000

/-- Which slots hold what, between two rounds. -/
structure IoS (l x0 : Nat) (sv : Value) (len k : Nat) (a : Act) : Prop where
  d : a.defers = []
  sz : a.tmps.size = 28
  s0 : a.tmps.getD 0 Go.undef = .func (.yield l) #[] #[]
  s1 : a.tmps.getD 1 Go.undef = .pointer (some ⟨x0, 0, none⟩)
  s12 : a.tmps.getD 12 Go.undef = sv
  s13 : a.tmps.getD 13 Go.undef = .int .i64 len
  s14 : a.tmps.getD 14 Go.undef = .int .i64 k

def ioInv (l x0 b M : Nat) (v : Vec) (m : Int) (E : Wt) (n : Nat) (sv : Value) (base : Nat) (J : List (EvW E) → World → Prop) (a : Act) (W : World) : Prop :=
  ∃ k pre, IoS l x0 sv (sortD (dotsE E)).length k a ∧ Ino x0 b M v m E n W ∧ W.ownsRow base 26 2 sv (sortD (dotsE E)).length ((sortD (dotsE E)).flatMap encD) ∧ J pre W ∧ pre.map (·.1) = (ordE E).take k ∧ k ≤ (sortD (dotsE E)).length

def ioF (l : Nat) (a : Act) (len k : Nat) : AF := (((((garb a 0 28).set 0 (.r (.func (.yield l) #[] #[]))).set 1 (.c (.ptr 0 0))).set 12 (.c (.sl 3))).set 13 (.r (.int .i64 len))).set 14 (.r (.int .i64 k))
theorem ioF_ok {l x0 b M : Nat} {sv : Value} {len k : Nat} {a : Act} (h : IoS l x0 sv len k a) (hv : (svOf sv).v = sv) : FrameOk (ioG x0 b M sv) (ioF l a len k) a := by
  refine FrameOk.setSame (FrameOk.setSame (FrameOk.setSame (FrameOk.setSame (FrameOk.setSame (FrameOk.garbAll _ a h.sz) 0 _ ?_) 1 _ ?_) 12 _ ?_) 13 _ ?_) 14 _ ?_
  · rw [h.s0]; rfl
  · rw [h.s1]; rfl
  · rw [h.s12]; exact hv
  · rw [h.s13]; rfl
  · rw [h.s14]; rfl

theorem own_sv {W : World} {base : Nat} {sv : Value} {n : Nat} {xs : List Value} (h : W.ownsRow base 26 2 sv n xs) : (svOf sv).v = sv := svOf_own (ownsRow_mono h (Nat.zero_le _))

/-- One round, where one is left. -/
theorem inord_round {v : Vec} {m : Int} {E : Wt} {n x0 b M q l base : Nat} {sv : Value} {k : Nat} {J0 J1 Jx1 : World → Prop} {W : World} {Q : Exit → Act → World → Prop} {a : Act}
    (hk : k < (sortD (dotsE E)).length) (hk9 : E.length ≤ 100000) (hS : IoS l x0 sv (sortD (dotsE E)).length k a) (hI : Ino x0 b M v m E n W) (hr : W.ownsRow base 26 2 sv (sortD (dotsE E)).length ((sortD (dotsE E)).flatMap encD)) (hJ : J0 W)
    (hJa : ∀ W W', J0 W → Below W.heap.size W W' → J0 W') (hJa1 : ∀ W W', J1 W → Below W.heap.size W W' → J1 W') (hJxa : ∀ W W', Jx1 W → Below W.heap.size W W' → Jx1 W')
    (hY : ∀ W1, J0 W1 → YieldAt (Fw none) (q - 1) Try.prog l #[(gotW E ((sortD (dotsE E)).getD k Elt.zero)).v] W1 fun e W' => (e = .returned (.bool true) ∧ J1 W' ∧ ioKp x0 b M v m E n W1 W') ∨ (e = .returned (.bool false) ∧ Jx1 W'))
    (hgo : ∀ a' W', IoS l x0 sv (sortD (dotsE E)).length (k + 1) a' → Ino x0 b M v m E n W' → W'.ownsRow base 26 2 sv (sortD (dotsE E)).length ((sortD (dotsE E)).flatMap encD) → J1 W' → Q .normal a' W')
    (hstop : ∀ a' W', a'.defers = [] → Jx1 W' → Q .ret a' W') :
    (Code.seq (.block 1 (.seq (.region 3 (opsAt Try.prog 46 3) false) (.seq (.region 4 (opsAt Try.prog 46 4) true) (.cond (.tmp 26) .ret .skip)))) (.region 5 (opsAt Try.prog 46 5) false)).wpIn (Fw none) q Try.prog Q a W := by
  generalize hSd : sortD (dotsE E) = S at *
  have hlen : S.length ≤ 100000 := by rw [← hSd, (sortD_perm _).length_eq]; simpa [dotsE] using hk9
  have hsv := own_sv hr
  have hF0 := ioF_ok (b := b) (M := M) hS hsv
  have hst0 := io_st hI hr
  refine wpIn_seq (wpIn_block (wpIn_seq (reg_wp ?_)))
  refine pre_wp TM 3 4 (i := 0) [] [(0 : Int) ≤ k ∧ (k : Int) < S.length, (k : Int).toNat < S.length] (by kernel_rfl) (by kernel_rfl) ⟨⟨by omega, by omega⟩, by omega, trivial⟩ hF0 hst0 fun r1 w1 a1 hag1 hst1 hF1 hd1 => wpListIn_end (by kernel_rfl) ?_
  have hb1 := hst1.belowR
  refine wpIn_seq ?_
  refine regionT_run hmx (T := TM) 4 7 [] [IsWt (mapO E n)] (by kernel_rfl) (by kernel_rfl) (by kernel_rfl) (by kernel_rfl) ⟨isWt_mapO E n, trivial⟩ hF1 hst1 fun r2 w2 a2 hag2 hst2 hF2 hd2 => ?_
  have hb2 := hst2.belowR
  have hx : (gotW (wtOf (mapO E n)).1 (S.getD k Elt.zero)).v = (gotW E (S.getD k Elt.zero)).v := by rw [wtOf_mapO]
  refine yield_wp (i := 7) { callee := .value (.tmp 18), args := #[.tmp 24], argTypes := #[37] } (.tmp 18) (.tmp 24) hF2 (by kernel_rfl) (by kernel_rfl) rfl rfl (l := l) (by kernel_rfl) (v := (gotW E (S.getD k Elt.zero)).v) ((show _ = (gotW (wtOf (mapO E n)).1 (S.getD k Elt.zero)).av.conc r2 from congrArg (AV.conc r2) (by kernel_rfl)).trans hx) (hY w2 (hJa _ _ hJ hb2)) fun x w4 hx => ?_
  have g0 : r2.b 0 = x0 := (hag2.at 0 (by kernel_rfl)).trans (hag1.at 0 (by kernel_rfl))
  have g3 : (r2.s 3).v = sv := by rw [hag2.atS 3 (by kernel_rfl), hag1.atS 3 (by kernel_rfl)]; exact hsv
  rcases hx with ⟨rfl, hj, hkp⟩ | ⟨rfl, hj⟩
  · refine ⟨_, rfl, fun a4 hF4 hd4 => ?_⟩
    have hI2 := hI.later hb2 hI.lt.1 hI.lt.2.1 hI.lt.2.2
    have hr2 : w2.ownsRow base 26 2 sv S.length (S.flatMap encD) := row_stay (B := 0) hr (grown_of_below hb2) (fun r e => by cases e)
    have hI4 := hkp.1 hI2
    have hr4 := row_kp hkp hr2
    have k0 : a4.tmps.getD 0 Go.undef = .func (.yield l) #[] #[] := (hF4.looks 0).trans (congrArg (AV.conc r2) (show _ = AV.r (.func (.yield l) #[] #[]) by kernel_rfl))
    have k1 : a4.tmps.getD 1 Go.undef = .pointer (some ⟨x0, 0, none⟩) := ((hF4.looks 1).trans (congrArg (AV.conc r2) (show _ = AV.c (.ptr 0 0) by kernel_rfl))).trans (by simp [AV.conc, TV.conc, CV.conc, g0])
    have k12 : a4.tmps.getD 12 Go.undef = sv := ((hF4.looks 12).trans (congrArg (AV.conc r2) (show _ = AV.c (.sl 3) by kernel_rfl))).trans (by simp [AV.conc, TV.conc, CV.conc, g3])
    have k13 : a4.tmps.getD 13 Go.undef = .int .i64 S.length := (hF4.looks 13).trans (congrArg (AV.conc r2) (show _ = AV.r (.int .i64 S.length) by kernel_rfl))
    have k14 : a4.tmps.getD 14 Go.undef = .int .i64 k := (hF4.looks 14).trans (congrArg (AV.conc r2) (show _ = AV.r (.int .i64 k) by kernel_rfl))
    have k25 : a4.tmps.getD 25 Go.undef = .bool true := (hF4.looks 25).trans (congrArg (AV.conc r2) (show _ = AV.b true by kernel_rfl))
    have ksz : a4.tmps.size = 28 := hF4.size.trans (by kernel_rfl)
    have hF5 : FrameOk Gh.none.wipe (((garb a4 0 28).set 25 (.b true)).set 14 (.r (.int .i64 k))) a4 := FrameOk.setSame (FrameOk.setSame (FrameOk.garbAll _ a4 ksz) 25 _ (by rw [k25]; rfl)) 14 _ (by rw [k14]; rfl)
    refine pre_wp TM 4 1 (i := 8) [] [] (by kernel_rfl) (by kernel_rfl) trivial hF5 (St.empty Gh.none w4) fun r6 w6 a6 hag6 hst6 hF6 hd6 => wpListIn_end (by kernel_rfl) ?_
    refine wpIn_cond_false (by rw [hF6.eval]; exact congrArg (AV.conc r6) (show _ = AV.b false by kernel_rfl)) (wpIn_skip ?_)
    refine reg_wp (pre_wp TM 5 2 (i := 0) [] [] (by kernel_rfl) (by kernel_rfl) trivial hF6 hst6 fun r7 w7 a7 hag7 hst7 hF7 hd7 => wpListIn_end (by kernel_rfl) ?_)
    have hb7 := hst7.belowR
    have hw : IntKind.i64.wrap ((k : Int) + 1) = ((k + 1 : Nat) : Int) := IntWalk.i64_in _ (by omega)
    refine hgo a7 w7 ⟨by rw [hd7, hd6, hd4, hd2, hd1, hS.d], hF7.size.trans (by kernel_rfl), ?_, ?_, ?_, ?_, ?_⟩ (hI4.later hb7 hI4.lt.1 hI4.lt.2.1 hI4.lt.2.2) (row_stay (B := 0) hr4 (grown_of_below hb7) (fun r e => by cases e)) (hJa1 _ _ hj hb7)
    · exact ((hF7.looks 0).trans (congrArg (AV.conc r7) (show _ = AV.r (a4.tmps.getD 0 Go.undef) by kernel_rfl))).trans k0
    · exact ((hF7.looks 1).trans (congrArg (AV.conc r7) (show _ = AV.r (a4.tmps.getD 1 Go.undef) by kernel_rfl))).trans k1
    · exact ((hF7.looks 12).trans (congrArg (AV.conc r7) (show _ = AV.r (a4.tmps.getD 12 Go.undef) by kernel_rfl))).trans k12
    · exact ((hF7.looks 13).trans (congrArg (AV.conc r7) (show _ = AV.r (a4.tmps.getD 13 Go.undef) by kernel_rfl))).trans k13
    · exact ((hF7.looks 14).trans (congrArg (AV.conc r7) (show _ = AV.r (.int .i64 (IntKind.i64.wrap ((k : Int) + 1))) by kernel_rfl))).trans (by rw [hw]; rfl)
  · refine ⟨_, rfl, fun a4 hF4 hd4 => ?_⟩
    refine pre_wp TM 4 1 (i := 8) [] [] (by kernel_rfl) (by kernel_rfl) trivial hF4.wipe (St.empty r2 w4) fun r6 w6 a6 hag6 hst6 hF6 hd6 => wpListIn_end (by kernel_rfl) ?_
    have hb6 := hst6.belowR
    refine wpIn_cond_true (by rw [hF6.eval]; exact congrArg (AV.conc r6) (show _ = AV.b true by kernel_rfl)) (wpIn_ret ?_)
    exact hstop a6 w6 (by rw [hd6, hd4, hd2, hd1, hS.d]) (hJxa _ _ hj hb6)

theorem take_next {E : Wt} {k : Nat} (hk : k < (sortD (dotsE E)).length) : (ordE E).take (k + 1) = (ordE E).take k ++ [gotW E ((sortD (dotsE E)).getD k Elt.zero)] := by
  have h2 : k < (ordE E).length := by simpa [ordE] using hk
  rw [List.take_add_one, List.getElem?_eq_getElem h2]
  have : (ordE E)[k] = gotW E ((sortD (dotsE E)).getD k Elt.zero) := by
    simp [ordE, List.getD_eq_getElem?_getD, List.getElem?_eq_getElem hk]
  rw [this]; rfl

theorem getD_memD {S : List Dot} {k : Nat} (h : k < S.length) : S.getD k Elt.zero ∈ S := by
  rw [List.getD_eq_getElem?_getD, List.getElem?_eq_getElem h]
  exact List.getElem_mem h

theorem inord_seq {v : Vec} {m : Int} {E : Wt} {n : Nat} (hE : BornOk E n) (hlen : E.length ≤ 100000) {x0 b M q : Nat} {w0 : World} (h : Ino x0 b M v m E n w0) :
    SeqStopsK (Fw none) q Try.prog 46 #[.pointer (some ⟨x0, 0, none⟩)] (fun e : EvW E => #[e.1.v]) (ioKp x0 b M v m E n) (fun xs => xs.map (·.1) = ordE E) (fun pre => pre.map (·.1) <+: ordE E) E.length w0 := by
  intro l J Jx W hW hJ hJx hY h0
  have hA := h.later hW h.lt.1 h.lt.2.1 h.lt.2.2
  have hJa : ∀ xs A B, J xs A → Below A.heap.size A B → J xs B := fun xs A B hs hb => hJ xs A B none hs (grown_of_below hb) (fun r e => by cases e)
  have hJxa : ∀ xs A B, Jx xs A → Below A.heap.size A B → Jx xs B := fun xs A B hs hb => hJx xs A B none hs (grown_of_below hb) (fun r e => by cases e)
  have hSl : (sortD (dotsE E)).length = E.length := by rw [(sortD_perm _).length_eq]; simp [dotsE]
  let r0 : Gh := ioG x0 b M (.slice none 0 0)
  refine callsInStart (args := [.r (.func (.yield l) #[] #[]), .c (.ptr 0 0)]) (r := r0) (fn := fnOf Try.prog 46)
    (c := (.seq (.region 0 (opsAt Try.prog 46 0) false) (.seq (.region 1 (opsAt Try.prog 46 1) false) (.block 0 (.loop (.seq (.region 2 (opsAt Try.prog 46 2) false) (.seq (.cond (.tmp 15) .skip (.exit 0)) (.seq (.block 1 (.seq (.region 3 (opsAt Try.prog 46 3) false) (.seq (.region 4 (opsAt Try.prog 46 4) true) (.cond (.tmp 26) .ret .skip)))) (.region 5 (opsAt Try.prog 46 5) false))))))))) (by kernel_rfl) (by kernel_rfl) fun a0 hF0 hd0 => ?_
  let H0 : AH := [(.cells [.ptr 1 0] 43, 0), (.cells (v.cvs ++ [.rig (.int .i64 m), .mp 2]) 62, 0), (.raw (mapO E n), 0)]
  have hst0 : St (r0.rdo 3) H0 (rd (r0.rdo 3) W) W := St.read (r := r0) (H := H0) (fun i x hx => by
      match i, hx with
      | 0, hx => cases hx; exact hA.c0
      | 1, hx => cases hx; exact hA.buf
      | 2, hx => cases hx; exact hA.map_
      | i + 3, hx => simp [H0] at hx) (by kernel_rfl) (by kernel_rfl) (by kernel_rfl)
  refine wpIn_seq (reg_wp ?_)
  refine pre_wp TM 0 5 (i := 0) [] [] (by kernel_rfl) (by kernel_rfl) trivial (hF0.rdo 3) hst0 fun r1 w1 a1 hag1 hst1 hF1 hd1 => ?_
  have hb1 := hst1.belowR
  have hs1 := hb1.size
  have hst1' : St r1 (H0 ++ [(.cells [.mp 2] 60, 1)]) (rd (r0.rdo 3) W) w1 := hst1.as (by kernel_rfl)
  have hm1 : r1.b 2 = M := hag1.at 2 (by kernel_rfl)
  have hK1 : Kys M (r1.b 3) E n w1 := by
    refine ⟨?_, ?_⟩
    · have := (hst1'.at_ 2 _ rfl).1
      rw [hm1] at this; exact this
    · have := (hst1'.at_ 3 _ rfl).1
      simpa [CV.conc, hm1] using this
  refine call_wp (f := 47) (args := [.c (.clo 56 [(3, 0)]), .r (.func (.func 49) #[] #[])]) hF1 (by kernel_rfl) (by kernel_rfl) (by kernel_rfl) (sorted_run hE hlen hK1) fun e w2 ⟨sv, he, hr2, hb2⟩ => ⟨sv, he, fun a2 hF2 hd2 => ?_⟩
  have hs2 := hb2.size
  have q0 : a2.tmps.getD 0 Go.undef = .func (.yield l) #[] #[] := (hF2.looks 0).trans (congrArg (AV.conc r1) (show _ = AV.r (.func (.yield l) #[] #[]) by kernel_rfl))
  have q1 : a2.tmps.getD 1 Go.undef = .pointer (some ⟨x0, 0, none⟩) := ((hF2.looks 1).trans (congrArg (AV.conc r1) (show _ = AV.c (.ptr 0 0) by kernel_rfl))).trans (by have : r1.b 0 = x0 := hag1.at 0 (by kernel_rfl); simp [AV.conc, TV.conc, CV.conc, this])
  have q11 : a2.tmps.getD 11 Go.undef = sv := (hF2.looks 11).trans (congrArg (AV.conc r1) (show _ = AV.r sv by kernel_rfl))
  have hF2' : FrameOk Gh.none.wipe ((garb a2 0 28).set 11 (.r sv)) a2 := FrameOk.setSame (FrameOk.garbAll _ a2 (hF2.size.trans (by kernel_rfl))) 11 _ (by rw [q11]; rfl)
  refine pre_wp TM 0 1 (i := 6) [] [] (by kernel_rfl) (by kernel_rfl) trivial hF2' (St.empty Gh.none w2) fun r3 w3 a3 hag3 hst3 hF3 hd3 => wpListIn_end (by kernel_rfl) ?_
  have hb3 := hst3.belowR
  have hs3 := hb3.size
  have hr3 : w3.ownsRow w1.heap.size 26 2 sv (sortD (dotsE E)).length ((sortD (dotsE E)).flatMap encD) := row_stay (B := 0) hr2 (grown_of_below hb3) (fun r e => by cases e)
  have hbA : Below W.heap.size W w3 := hb1.trans ((hb2.mono hs1).trans (hb3.mono (by omega)))
  have hA3 := hA.later hbA hA.lt.1 hA.lt.2.1 hA.lt.2.2
  have hsv := own_sv hr3
  have k0 : a3.tmps.getD 0 Go.undef = .func (.yield l) #[] #[] := ((hF3.looks 0).trans (congrArg (AV.conc r3) (show _ = AV.r (a2.tmps.getD 0 Go.undef) by kernel_rfl))).trans q0
  have k1 : a3.tmps.getD 1 Go.undef = .pointer (some ⟨x0, 0, none⟩) := ((hF3.looks 1).trans (congrArg (AV.conc r3) (show _ = AV.r (a2.tmps.getD 1 Go.undef) by kernel_rfl))).trans q1
  have k3 : a3.tmps.getD 3 Go.undef = sv := (hF3.looks 3).trans (congrArg (AV.conc r3) (show _ = AV.r sv by kernel_rfl))
  have ksz : a3.tmps.size = 28 := hF3.size.trans (by kernel_rfl)
  have hF4 : FrameOk (ioG x0 b M sv) ((((garb a3 0 28).set 0 (.r (.func (.yield l) #[] #[]))).set 1 (.c (.ptr 0 0))).set 3 (.c (.sl 3))) a3 := FrameOk.setSame (FrameOk.setSame (FrameOk.setSame (FrameOk.garbAll _ a3 ksz) 0 _ (by rw [k0]; rfl)) 1 _ (by rw [k1]; rfl)) 3 _ (by rw [k3]; exact hsv)
  have hst4 := io_st hA3 hr3
  refine wpIn_seq (reg_wp (pre_wp TM 1 3 [] [] (by kernel_rfl) (by kernel_rfl) trivial hF4 hst4 fun r5 w5 a5 hag5 hst5 hF5 hd5 => wpListIn_end (by kernel_rfl) ?_))
  have hb5 := hst5.belowR
  have hs5 := hb5.size
  have hbB : Below W.heap.size W w5 := hbA.trans (hb5.mono (by omega))
  have hA5 := hA.later hbB hA.lt.1 hA.lt.2.1 hA.lt.2.2
  have hr5 : w5.ownsRow w1.heap.size 26 2 sv (sortD (dotsE E)).length ((sortD (dotsE E)).flatMap encD) := row_stay (B := 0) hr3 (grown_of_below hb5) (fun r e => by cases e)
  refine wpIn_block (wpIn_loop (ioInv l x0 b M v m E n sv w1.heap.size J) (fun a _ => (sortD (dotsE E)).length - (intOf (a.tmps.getD 14 Go.undef)).toNat) ?_ ?_)
  · refine ⟨0, [], ⟨by rw [hd5, hd3, hd2, hd1, hd0], hF5.size.trans (by kernel_rfl), ?_, ?_, ?_, ?_, ?_⟩, hA5, hr5, hJa _ _ _ h0 (hbB), by simp, Nat.zero_le _⟩
    · exact (hF5.looks 0).trans (congrArg (AV.conc r5) (show _ = AV.r (.func (.yield l) #[] #[]) by kernel_rfl))
    · exact ((hF5.looks 1).trans (congrArg (AV.conc r5) (show _ = AV.c (.ptr 0 0) by kernel_rfl))).trans (by have := hag5.at 0 (by kernel_rfl); simp [AV.conc, TV.conc, CV.conc, this, ioG])
    · exact ((hF5.looks 12).trans (congrArg (AV.conc r5) (show _ = AV.c (.sl 3) by kernel_rfl))).trans (by have := hag5.atS 3 (by kernel_rfl); simp [AV.conc, TV.conc, CV.conc, this, ioG, hsv])
    · exact (hF5.looks 13).trans (congrArg (AV.conc r5) (show _ = AV.r (.int .i64 (sortD (dotsE E)).length) by kernel_rfl))
    · exact (hF5.looks 14).trans (congrArg (AV.conc r5) (show _ = AV.r (.int .i64 0) by kernel_rfl))
  · rintro a W1 ⟨k, pre, hS, hI, hr, hj, hpre, hk⟩
    have hF : FrameOk Gh.none.wipe (((garb a 0 28).set 13 (.r (.int .i64 (sortD (dotsE E)).length))).set 14 (.r (.int .i64 k))) a := FrameOk.setSame (FrameOk.setSame (FrameOk.garbAll _ a hS.sz) 13 _ (by rw [hS.s13]; rfl)) 14 _ (by rw [hS.s14]; rfl)
    refine wpIn_seq (reg_wp ?_)
    refine pre_wp TM 2 1 (i := 0) [] [] (by kernel_rfl) (by kernel_rfl) trivial hF (St.empty Gh.none W1) fun r6 w6 a6 hag6 hst6 hF6 hd6 => wpListIn_end (by kernel_rfl) ?_
    have hb6 := hst6.belowR
    have hd6' : a6.defers = [] := hd6.trans hS.d
    rcases Nat.lt_or_ge k (sortD (dotsE E)).length with hlt | hge
    · have hS6 : IoS l x0 sv (sortD (dotsE E)).length k a6 := by
        refine ⟨hd6', hF6.size.trans (by kernel_rfl), ?_, ?_, ?_, ?_, ?_⟩
        · exact ((hF6.looks 0).trans (congrArg (AV.conc r6) (show _ = AV.r (a.tmps.getD 0 Go.undef) by kernel_rfl))).trans hS.s0
        · exact ((hF6.looks 1).trans (congrArg (AV.conc r6) (show _ = AV.r (a.tmps.getD 1 Go.undef) by kernel_rfl))).trans hS.s1
        · exact ((hF6.looks 12).trans (congrArg (AV.conc r6) (show _ = AV.r (a.tmps.getD 12 Go.undef) by kernel_rfl))).trans hS.s12
        · exact (hF6.looks 13).trans (congrArg (AV.conc r6) (show _ = AV.r (.int .i64 (sortD (dotsE E)).length) by kernel_rfl))
        · exact (hF6.looks 14).trans (congrArg (AV.conc r6) (show _ = AV.r (.int .i64 k) by kernel_rfl))
      refine wpIn_seq (wpIn_cond_true (by rw [hF6.eval]; exact (congrArg (AV.conc r6) (show _ = AV.b (decide ((k : Int) < ((sortD (dotsE E)).length : Int))) by kernel_rfl)).trans (by rw [decide_eq_true (by omega)]; rfl)) (wpIn_skip ?_))
      have hmem := got_mem ((sortD_perm (dotsE E)).mem_iff.1 (getD_memD hlt))
      have hIp := hI.later hb6 hI.lt.1 hI.lt.2.1 hI.lt.2.2
      have hrp : w6.ownsRow w1.heap.size 26 2 sv (sortD (dotsE E)).length ((sortD (dotsE E)).flatMap encD) := row_stay (B := 0) hr (grown_of_below hb6) (fun r e => by cases e)
      refine inord_round (base := w1.heap.size) (J0 := J pre) (J1 := J (pre ++ [⟨_, hmem.1⟩])) (Jx1 := fun W => ∃ xs : List (EvW E), List.map (fun x : EvW E => x.1) xs <+: ordE E ∧ Jx xs W) hlt hlen hS6 hIp hrp (hJa _ _ _ hj hb6) (hJa _) (hJa _) (fun A B hx hb => by obtain ⟨xs, h1, h2⟩ := hx; exact ⟨xs, h1, hJxa _ _ _ h2 hb⟩) (fun W2 hj2 => ?_) (fun a' W' hS' hI' hr' hj' => ?_) (fun a' W' hda ⟨xs, h1, h2⟩ => ?_)
      · obtain ⟨fn, tmps, asg, body, h1, h2⟩ := hY pre ⟨_, hmem.1⟩ W2 hj2 (by have := congrArg List.length hpre; simp at this; omega)
        refine ⟨fn, tmps, asg, body, h1, h2.mono fun e W' q => q.imp (fun q => q) fun q => ⟨q.1, _, ?_, q.2⟩⟩
        rw [List.map_append, hpre]
        show (ordE E).take k ++ [gotW E ((sortD (dotsE E)).getD k Elt.zero)] <+: ordE E
        rw [← take_next hlt]
        exact List.take_prefix _ _
      · refine ⟨⟨k + 1, _, hS', hI', hr', hj', ?_, hlt⟩, ?_⟩
        · rw [List.map_append, hpre, take_next hlt]; rfl
        · show (sortD (dotsE E)).length - (intOf (a'.tmps.getD 14 Go.undef)).toNat < (sortD (dotsE E)).length - (intOf (a.tmps.getD 14 Go.undef)).toNat
          rw [hS'.s14, hS.s14]
          simp only [intOf, Int.toNat_natCast]
          omega
      · refine ⟨hda, .tuple #[], ?_, ⟨_, rfl⟩, .inr ⟨xs, h1, h2⟩⟩
        exact retA_run (fn := fnOf Try.prog 46) (F := [] ++ garb a' 0 a'.tmps.size) (H := []) (r := Gh.none.wipe) (v := .tup []) (by kernel_rfl) (FrameOk.garb rfl (by omega) fun i hi => by omega) (St.empty Gh.none W')
    · refine wpIn_seq (wpIn_cond_false (by rw [hF6.eval]; exact (congrArg (AV.conc r6) (show _ = AV.b (decide ((k : Int) < ((sortD (dotsE E)).length : Int))) by kernel_rfl)).trans (by rw [decide_eq_false (by omega)]; rfl)) (wpIn_exit ?_))
      refine ⟨hd6', .tuple #[], ?_, ⟨_, rfl⟩, .inl ⟨pre, ?_, hJa _ _ _ hj hb6⟩⟩
      · exact retA_run (fn := fnOf Try.prog 46) (v := .tup []) (by kernel_rfl) hF6 hst6
      · show pre.map (·.1) = ordE E
        rw [hpre, List.take_of_length_le (by simp [ordE]; omega)]

end Go.Proofs.Ytobonipmnidadaa
