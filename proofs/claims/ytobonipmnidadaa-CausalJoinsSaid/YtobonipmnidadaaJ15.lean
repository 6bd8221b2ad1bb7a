/- The keys of what waits, as they come: the iterator's own code, and its contract. -/
import Derived.Test.YtobonipmnidadaaJ14
import Derived.Test.YtobonipmnidadaaJ5
import Derived.Maps.RangeRun
import Derived.RangeFuncNested
namespace Go.Proofs.Ytobonipmnidadaa
open Go.RowKit Go.ChangeMaps
set_option maxRecDepth 8000

/-- The map's numbers: below its clock, no two alike. -/
structure BornOk (E : Wt) (n : Nat) : Prop where
  lt : ∀ p ∈ E, p.2 < n
  nd : (E.map (·.2)).Nodup

theorem es_born {E : Wt} {n : Nat} (h : BornOk E n) : ∀ x ∈ (esOf E).toList, x.born < n := fun x hx => by
  simp only [esOf, List.mem_map] at hx
  obtain ⟨p, hp, rfl⟩ := hx
  exact h.lt p hp
theorem es_nodup {E : Wt} {n : Nat} (h : BornOk E n) : ((esOf E).toList.map (·.born)).Nodup := by
  have : (esOf E).toList.map (·.born) = E.map (·.2) := by
    show (E.map entM).map (·.born) = _
    rw [List.map_map]; rfl
  rw [this]; exact h.nd

/-- What has come, when these have been seen. -/
def cameW (E : Wt) (seen : Array Nat) : List Dot := (E.filter fun z => seen.contains z.2).map (·.1.d)
theorem came_none (E : Wt) : cameW E #[] = [] := by simp [cameW]
theorem filter_push {α : Type} (seen : Array Nat) (p : α) (i : Nat) : ∀ (Z : List (α × Nat)), (Z.map (·.2)).Nodup → (p, i) ∈ Z → seen.contains i = false →
    (Z.filter fun z => (seen.push i).contains z.2).Perm ((Z.filter fun z => seen.contains z.2) ++ [(p, i)])
  | [], _, h, _ => by simp at h
  | z :: Z, hn, h, hs => by
    simp only [List.map_cons, List.nodup_cons] at hn
    have hsame : ∀ (Y : List (α × Nat)), (∀ y ∈ Y, y.2 ≠ i) → (Y.filter fun z => (seen.push i).contains z.2) = Y.filter fun z => seen.contains z.2 := fun Y hY => by
      refine List.filter_congr fun y hy => ?_
      rw [Bool.eq_iff_iff]; simp [hY y hy]
    rcases List.mem_cons.1 h with e | h'
    · subst e
      have hY : ∀ y ∈ Z, y.2 ≠ i := fun y hy e => hn.1 (List.mem_map.2 ⟨y, hy, e⟩)
      rw [List.filter_cons, List.filter_cons, hsame Z hY]
      have h1 : (seen.push i).contains i = true := by simp
      simp only [h1, hs, if_true, Bool.false_eq_true, if_false]
      exact (List.perm_append_singleton _ _).symm
    · have ih := filter_push seen p i Z hn.2 h' hs
      have hz : z.2 ≠ i := fun e => hn.1 (List.mem_map.2 ⟨(p, i), h', e.symm⟩)
      have h1 : ((seen.push i).contains z.2) = seen.contains z.2 := by rw [Bool.eq_iff_iff]; simp [hz]
      rw [List.filter_cons, List.filter_cons, h1]
      split
      · exact ih.cons z
      · exact ih
theorem came_push {E : Wt} {n : Nat} (h : BornOk E n) (seen : Array Nat) (p : Ev × Nat) (hp : p ∈ E) (hs : seen.contains p.2 = false) : (cameW E (seen.push p.2)).Perm (cameW E seen ++ [p.1.d]) := by
  have := (filter_push seen p.1 p.2 E h.nd hp hs).map (·.1.d)
  rw [List.map_append] at this
  exact this
theorem came_all (E : Wt) (seen : Array Nat) (h : (leftOf (esOf E) seen).size = 0) : cameW E seen = E.map (·.1.d) := by
  have h1 := all_seen (esOf E) seen h
  unfold cameW
  rw [List.filter_eq_self.2 fun z hz => ?_]
  exact h1 (entM z) (by simp only [esOf, List.mem_map]; exact ⟨z, hz, rfl⟩)
theorem came_len (E : Wt) (seen : Array Nat) : (cameW E seen).length ≤ E.length := by
  unfold cameW
  rw [List.length_map]
  exact List.length_filter_le _ _

/-- The box of the map, the map. -/
structure Kys (M x0 : Nat) (E : Wt) (n : Nat) (W : World) : Prop where
  map_ : W.heap[M]? = some (mapO E n)
  c0 : W.heap[x0]? = some (.cells #[.map (some M)] 60 (0, 0))
theorem Kys.later {M x0 : Nat} {E : Wt} {n : Nat} {W W' : World} {m : Nat} (h : Kys M x0 E n W) (hb : Below m W W') (h1 : M < m) (h2 : x0 < m) : Kys M x0 E n W' :=
  ⟨(hb.block _ h1).trans h.map_, (hb.block _ h2).trans h.c0⟩
theorem lt_of_at {W : World} {i : Nat} {o : Obj} (h : W.heap[i]? = some o) : i < W.heap.size := (Array.getElem?_eq_some_iff.1 h).1

def kyKp (M x0 : Nat) (E : Wt) (n : Nat) (A B : World) : Prop := (Kys M x0 E n A → Kys M x0 E n B) ∧ KeepsWalks A B

def kyF (l x0 : Nat) : AF := [.r (.func (.yield l) #[] #[]), .r (.pointer (some ⟨x0, 0, none⟩))]

def kyInv (E : Wt) (m : Nat) (l M x0 it : Nat) (J : List Dot → World → Prop) (B : Nat) (a : Act) (W : World) : Prop :=
  ∃ seen pre, a.defers = [] ∧ a.tmps.size = 14 ∧ (∀ i, i < 2 → a.tmps.getD i Go.undef = ((kyF l x0).getD i .undef).conc Gh.none) ∧
    a.tmps.getD 5 Go.undef = .pointer (some ⟨it, 0, none⟩) ∧ Kys M x0 E m W ∧ W.heap[it]? = some (.mapIter (some M) m seen m) ∧ J pre W ∧ pre.Perm (cameW E seen) ∧ B ≤ it

def kyMu (E : Wt) (it : Nat) (_ : Act) (W : World) : Nat := match W.heap[it]? with | some (.mapIter _ _ seen _) => (leftOf (esOf E) seen).size | _ => 0

def kyH (M : Nat) : AH := [(.cells [.rig (.map (some M))] 60, 0)]
theorem kySt {M x0 : Nat} {E : Wt} {n : Nat} {W : World} (hA : Kys M x0 E n W) {r : Gh} (e0 : r.b 0 = x0) : St (r.rdo 1) (kyH M) (rd (r.rdo 1) W) W :=
  St.read (H := kyH M) (fun i x hx => by
    match i, hx with
    | 0, hx => cases hx; rw [e0]; exact hA.c0
    | i + 1, hx => simp [kyH] at hx) (by kernel_rfl) (by kernel_rfl) (by kernel_rfl)

theorem kySlots {l x0 it : Nat} {r : Gh} {F : AF} {a' : Act} (hF : FrameOk r F a') (hl : F.length = 14) (h0 : F.getD 0 .undef = .r (.func (.yield l) #[] #[])) (h1 : F.getD 1 .undef = .c (.ptr 0 0))
    {v : AV} (h5 : F.getD 5 .undef = v) (hv : v.conc r = .pointer (some ⟨it, 0, none⟩)) (e0 : r.b 0 = x0) :
    a'.tmps.size = 14 ∧ (∀ i, i < 2 → a'.tmps.getD i Go.undef = ((kyF l x0).getD i .undef).conc Gh.none) ∧ a'.tmps.getD 5 Go.undef = .pointer (some ⟨it, 0, none⟩) := by
  refine ⟨hF.size.trans hl, fun i hi => ?_, ?_⟩
  · rw [hF.looks i]
    match i, hi with
    | 0, _ => rw [h0]; rfl
    | 1, _ => rw [h1]; simp [AV.conc, TV.conc, CV.conc, e0, kyF]
  · rw [hF.looks 5, h5, hv]

/-- One round, behind the step. -/
theorem keys1_round {E : Wt} {m M x0 n l it : Nat} {J0 J1 Jx1 : World → Prop} {W2 : World} {Q : Exit → Act → World → Prop} {a : Act}
    (hA : Kys M x0 E m W2) (p : Ev × Nat)
    (hs : a.tmps.size = 14) (hk : ∀ i, i < 2 → a.tmps.getD i Go.undef = ((kyF l x0).getD i .undef).conc Gh.none) (h5 : a.tmps.getD 5 Go.undef = .pointer (some ⟨it, 0, none⟩)) (hd : a.defers = [])
    (hent : (Instr.entry (.pointer (some ⟨it, 0, none⟩))).run Try.prog W2 = .ok (.tuple #[p.1.d.v, p.1.v]) W2) (hJ : J0 W2) (hJa : ∀ W W', J0 W → Below W.heap.size W W' → J0 W') (hJa1 : ∀ W W', J1 W → Below W.heap.size W W' → J1 W') (hJxa : ∀ W W', Jx1 W → Below W.heap.size W W' → Jx1 W')
    (hY : ∀ W1, J0 W1 → YieldAt (Fw none) (n - 1) Try.prog l #[p.1.d.v] W1 fun e W' => (e = .returned (.bool true) ∧ J1 W' ∧ kyKp M x0 E m W1 W') ∨ (e = .returned (.bool false) ∧ Jx1 W'))
    (hgo : ∀ a' W', a'.defers = [] → a'.tmps.size = 14 → (∀ i, i < 2 → a'.tmps.getD i Go.undef = ((kyF l x0).getD i .undef).conc Gh.none) → a'.tmps.getD 5 Go.undef = .pointer (some ⟨it, 0, none⟩) →
      (∃ W3, Below W2.heap.size W2 W3 ∧ J1 W' ∧ kyKp M x0 E m W3 W') → Q .normal a' W')
    (hstop : ∀ a' W', a'.defers = [] → Jx1 W' → Q .ret a' W') :
    (Code.seq (.region 2 (opsAt Try.prog 56 2) false) (.seq (.region 3 (opsAt Try.prog 56 3) false) (.cond (.tmp 13) .ret .skip))).wpIn (Fw none) n Try.prog Q a W2 := by
  let r0 : Gh := ⟨fun i => match i with | 0 => x0 | _ => M, fun _ => ⟨none, 0, 0⟩, fun _ => none, fun _ => False⟩
  let F0 : AF := [.r (.func (.yield l) #[] #[]), .c (.ptr 0 0)] ++ garb a 2 12
  have hF0 : FrameOk r0 F0 a := FrameOk.garb rfl hs fun i hi => by
    rw [hk i hi]
    match i, hi with
    | 0, _ => rfl
    | 1, _ => rfl
  have hst0 := kySt hA (r := r0) rfl
  refine wpIn_seq (reg_wp ?_)
  refine val_wp (i := 0) (w' := W2) (.entry (.tmp 5)) (.tup [.agg p.1.d.cvs, .agg p.1.cvs]) hF0 (by kernel_rfl) (by kernel_rfl) (fun o ho => run_entry_op ho (v := .pointer (some ⟨it, 0, none⟩)) ?_ ?_) fun a1 hF1 hd1 => ?_
  · exact h5
  · exact hent
  refine pre_wp TK 2 3 (i := 1) [] [] (by kernel_rfl) (by kernel_rfl) trivial (hF1.rdo 1) hst0 fun r2 w2 a2 hag2 hst2 hF2 hd2 => ?_
  refine wpListIn_end (by kernel_rfl) ?_
  refine wpIn_seq (reg_wp ?_)
  have g0 : r2.b 0 = x0 := hag2.at 0 (by kernel_rfl)
  refine pre_wp TK 3 2 (i := 0) [] [] (by kernel_rfl) (by kernel_rfl) trivial hF2 hst2 fun r3 w3 a3 hag3 hst3 hF3 hd3 => ?_
  have hb := hst3.belowR
  have f0 := (hag3.at 0 (by kernel_rfl)).trans g0
  refine yield_wp (i := 2) { callee := .value (.tmp 10), args := #[.tmp 11], argTypes := #[26] } (.tmp 10) (.tmp 11) hF3 (by kernel_rfl) (by kernel_rfl) rfl rfl (l := l) (by kernel_rfl) (v := p.1.d.v) (show _ = p.1.d.av.conc r3 from congrArg (AV.conc r3) (by kernel_rfl)) (hY w3 (hJa _ _ hJ hb)) fun x w4 hx => ?_
  rcases hx with ⟨rfl, hj, hkp⟩ | ⟨rfl, hj⟩
  · refine ⟨_, rfl, fun a4 hF4 hd4 => ?_⟩
    refine pre_wp TK 3 1 (i := 3) [] [] (by kernel_rfl) (by kernel_rfl) trivial (hF4.rdo 1) (kySt (hkp.1 (hA.later hb (lt_of_at hA.map_) (lt_of_at hA.c0))) f0) fun r5 w5 a5 hag5 hst5 hF5 hd5 => ?_
    refine wpListIn_end (by kernel_rfl) ?_
    have hb5 := hst5.belowR
    obtain ⟨t1, t2, t3⟩ := kySlots (l := l) (x0 := x0) (it := it) hF5 (by kernel_rfl) (by kernel_rfl) (by kernel_rfl) (v := .r (a.tmps.getD 5 Go.undef)) (by kernel_rfl) (by rw [h5]; rfl) ((hag5.at 0 (by kernel_rfl)).trans f0)
    refine wpIn_cond_false (by rw [hF5.eval]; exact congrArg (AV.conc r5) (show _ = AV.b false by kernel_rfl)) (wpIn_skip ?_)
    exact hgo a5 w5 (by rw [hd5, hd4, hd3, hd2, hd1, hd]) t1 t2 t3 ⟨w3, hb, hJa1 _ _ hj hb5, fun h3 => (hkp.1 h3).later hb5 (lt_of_at (hkp.1 h3).map_) (lt_of_at (hkp.1 h3).c0), hkp.2.trans (keepsWalks_of_below hb5)⟩
  · refine ⟨_, rfl, fun a4 hF4 hd4 => ?_⟩
    refine pre_wp TK 3 1 (i := 3) [] [] (by kernel_rfl) (by kernel_rfl) trivial hF4.wipe (St.empty r3 w4) fun r5 w5 a5 hag5 hst5 hF5 hd5 => ?_
    refine wpListIn_end (by kernel_rfl) ?_
    have hb5 := hst5.belowR
    refine wpIn_cond_true (by rw [hF5.eval]; exact congrArg (AV.conc r5) (show _ = AV.b true by kernel_rfl)) (wpIn_ret ?_)
    exact hstop a5 w5 (by rw [hd5, hd4, hd3, hd2, hd1, hd]) (hJxa _ _ hj hb5)

theorem drewn {w w1 : World} (h1 : w1 = w ∨ w1 = w.drew) : w1.heap = w.heap ∧ w1.os = w.os ∧ w1.tape = w.tape ∧ w1.output = w.output := by
  rcases h1 with rfl | rfl <;> exact ⟨rfl, rfl, rfl, rfl⟩

theorem grown_setBlock {w w1 : World} {it : Nat} {o : Obj} (h1 : w1 = w ∨ w1 = w.drew) : w.grownBy (setBlock w1 it o) (some it) := by
  obtain ⟨e1, e2, e3, e4⟩ := drewn h1
  exact ⟨e2, e3, e4, by simp [setBlock, e1], fun k _ hk => by
    have : it ≠ k := fun e => hk (by rw [e])
    simp [setBlock, this, e1]⟩

theorem below_setBlock {w w1 : World} {it : Nat} {o : Obj} (h1 : w1 = w ∨ w1 = w.drew) (n : Nat) (hn : n ≤ it) : Below n w (setBlock w1 it o) := by
  obtain ⟨e1, e2, e3, e4⟩ := drewn h1
  exact ⟨e2, e3, e4, by simp [setBlock, e1], fun k hk => by
    have : it ≠ k := by omega
    simp [setBlock, this, e1]⟩

theorem at_setBlock {w w1 : World} {it : Nat} {o o' : Obj} (h1 : w1 = w ∨ w1 = w.drew) (h : w.heap[it]? = some o') : (setBlock w1 it o).heap[it]? = some o := by
  have hlt := (Array.getElem?_eq_some_iff.1 h).1
  obtain ⟨e1, e2, e3, e4⟩ := drewn h1
  simp [setBlock, e1, hlt]

theorem keys1_seq {E : Wt} {m : Nat} (hE : BornOk E m) {M x0 n : Nat} {w0 : World} (h : Kys M x0 E m w0) :
    SeqStopsK (Fw none) n Try.prog 56 #[.pointer (some ⟨x0, 0, none⟩)] (fun d : Dot => #[d.v]) (kyKp M x0 E m) (fun xs => xs.Perm (E.map (·.1.d))) (fun _ => True) E.length w0 := by
  intro l J Jx W hW hJ hJx hY h0
  have hM := lt_of_at h.map_; have hx0 := lt_of_at h.c0
  have hA := h.later hW hM hx0
  have hJa : ∀ xs A B, J xs A → Below A.heap.size A B → J xs B := fun xs A B hs hb => hJ xs A B none hs (grown_of_below hb) (fun r e => by cases e)
  have hJxa : ∀ xs A B, Jx xs A → Below A.heap.size A B → Jx xs B := fun xs A B hs hb => hJx xs A B none hs (grown_of_below hb) (fun r e => by cases e)
  let r0 : Gh := ⟨fun i => match i with | 0 => x0 | _ => M, fun _ => ⟨none, 0, 0⟩, fun _ => none, fun _ => False⟩
  refine callsInStart (args := [.r (.func (.yield l) #[] #[]), .c (.ptr 0 0)]) (r := r0) (fn := fnOf Try.prog 56)
    (c := (.seq (.region 0 (opsAt Try.prog 56 0) false) (.block 0 (.loop (.seq (.region 1 (opsAt Try.prog 56 1) false) (.seq (.cond (.tmp 7) .skip (.exit 0)) (.block 1 (.seq (.region 2 (opsAt Try.prog 56 2) false) (.seq (.region 3 (opsAt Try.prog 56 3) false) (.cond (.tmp 13) .ret .skip)))))))))) (by kernel_rfl) (by kernel_rfl) fun a0 hF0 hd0 => ?_
  have hst0 : St (r0.rdo 2) [(.cells [.mp 1] 60, 0), (.raw (mapO E m), 0)] (rd (r0.rdo 2) W) W := St.read (r := r0) (H := [(.cells [.mp 1] 60, 0), (.raw (mapO E m), 0)]) (fun i x hx => by
      match i, hx with
      | 0, hx => cases hx; exact hA.c0
      | 1, hx => cases hx; exact hA.map_
      | i + 2, hx => simp at hx) (by kernel_rfl) (by kernel_rfl) (by kernel_rfl)
  refine wpIn_seq (reg_wp ?_)
  refine pre_wp TK 0 1 (i := 0) [] [] (by kernel_rfl) (by kernel_rfl) trivial (hF0.rdo 2) hst0 fun r1 w1 a1 hag1 hst1 hF1 hd1 => ?_
  have hm1 : r1.b 1 = M := hag1.at 1 (by kernel_rfl)
  have hb1 := hst1.belowR
  have hmap1 : w1.heap[M]? = some (mapO E m) := (hb1.block M (by have := hW.size; omega)).trans hA.map_
  refine val_wp (i := 1) (w' := w1.alloc (.mapIter (some M) m #[] m)) (.range 60 (.tmp 4)) (.r (.pointer (some ⟨w1.heap.size, 0, none⟩))) hF1 (by kernel_rfl) (by kernel_rfl) (fun o ho => run_range_op ho (k := 26) (e := 37) (by kernel_rfl) (bm := M) ?_ hmap1) fun a2 hF2 hd2 => ?_
  · rw [hF1.eval]
    have : (runPre Try.prog TK 0 (opsAt Try.prog 56 0) 0 1 (startF (fnOf Try.prog 56) [.r (.func (.yield l) #[] #[]), .c (.ptr 0 0)]) [(.cells [.mp 1] 60, 0), (.raw (mapO E m), 0)] []).F.ev (.tmp 4) = .c (.mp 1) := by kernel_rfl
    rw [this]
    simp [AV.conc, TV.conc, CV.conc, hm1]
  refine wpListIn_end (by kernel_rfl) ?_
  generalize hit : w1.heap.size = it at *
  have hitW : W.heap.size ≤ it := by rw [← hit]; exact hb1.size
  -- the loop
  refine wpIn_block (wpIn_loop (kyInv E m l M x0 it J W.heap.size) (kyMu E it) ?_ ?_)
  · -- at its start
    have hb2 : Below W.heap.size W (w1.alloc (.mapIter (some M) m #[] m)) := hb1.trans (((Below.refl _ w1).alloc (Nat.le_refl _) _).mono hb1.size)
    obtain ⟨s1, s2, s3⟩ := kySlots (l := l) (x0 := x0) (it := it) hF2 (by kernel_rfl) (by kernel_rfl) (by kernel_rfl) (v := .r (.pointer (some ⟨it, 0, none⟩))) (by kernel_rfl) rfl (hag1.at 0 (by kernel_rfl))
    exact ⟨#[], [], by rw [hd2, hd1, hd0], s1, s2, s3, hA.later hb2 (lt_of_at hA.map_) (lt_of_at hA.c0), by rw [← hit]; exact heap_alloc_new _ _, hJa _ _ _ h0 hb2, by rw [came_none], hitW⟩
  · rintro a W1 ⟨seen, pre, hd, hs, hk, h5, hA1, hiter, hj, hperm, hB⟩
    refine wpIn_seq (reg_wp ?_)
    let F0 : AF := kyF l x0 ++ garb a 2 12
    have hF0 : FrameOk Gh.none F0 a := FrameOk.garb rfl hs hk
    rcases run_next_at (P := Try.prog) W1 (tyI (opsAt Try.prog 56 1) 0) it M m m seen (esOf E) m hiter hA1.map_ (es_born hE) (Nat.le_refl _) with ⟨hz, hrun⟩ | ⟨e, he, w2, hw2, hrun⟩
    · -- none is left
      refine val_wpT (i := 0) (w' := W1) (.next (.tmp 5) false) (.tup [.one (.rig (.bool false))]) hF0 (by kernel_rfl) (by kernel_rfl) (fun o ho ht => run_next_op ho (v := .pointer (some ⟨it, 0, none⟩)) h5 (by rw [ht]; exact hrun)) fun a1' hF1' hd1' => ?_
      refine pre_wp TK 1 1 (i := 1) [] [] (by kernel_rfl) (by kernel_rfl) trivial hF1'.wipe (St.empty Gh.none W1) fun r2 w2' a2' hag2' hst2' hF2' hd2' => ?_
      refine wpListIn_end (by kernel_rfl) ?_
      refine wpIn_seq (wpIn_cond_false (by rw [hF2'.eval]; exact congrArg (AV.conc r2) (show _ = AV.b false by kernel_rfl)) (wpIn_exit ?_))
      have hb2 := hst2'.belowR
      refine ⟨by rw [hd2', hd1', hd], .tuple #[], ?_, ⟨_, rfl⟩, .inl ⟨pre, by rw [← came_all E seen hz]; exact hperm, hJa _ _ _ hj hb2⟩⟩
      exact retA_run (fn := fnOf Try.prog 56) (v := .tup []) (by kernel_rfl) hF2' hst2'
    · -- one comes
      obtain ⟨hem, hes⟩ := mem_left he
      obtain ⟨p, hpE, rfl⟩ : ∃ z ∈ E, entM z = e := by simpa [esOf] using hem
      have hcame := came_push hE seen p hpE hes
      have hlen := came_len E (seen.push p.2)
      obtain ⟨W2, hW2⟩ : ∃ W2, W2 = setBlock w2 it (.mapIter (some M) m (seen.push p.2) m) := ⟨_, rfl⟩
      have hiter2 : W2.heap[it]? = some (.mapIter (some M) m (seen.push p.2) m) := by rw [hW2]; exact at_setBlock hw2 hiter
      have hbl : Below W.heap.size W1 W2 := by rw [hW2]; exact below_setBlock hw2 _ hB
      have hj2 : J pre W2 := by rw [hW2]; exact hJ pre W1 _ (some it) hj (grown_setBlock hw2) (fun r e => by cases e; exact ⟨hB, _, hiter, rfl⟩)
      have hA2 := hA1.later hbl (by have := hW.size; omega) (by have := hW.size; omega)
      refine val_wpT (i := 0) (w' := W2) (.next (.tmp 5) false) (.tup [.one (.rig (.bool true)), .agg p.1.d.cvs, .agg p.1.cvs]) hF0 (by kernel_rfl) (by kernel_rfl) (fun o ho ht => run_next_op ho (v := .pointer (some ⟨it, 0, none⟩)) h5 (by rw [ht, hW2]; exact hrun)) fun a1' hF1' hd1' => ?_
      refine pre_wp TK 1 1 (i := 1) [] [] (by kernel_rfl) (by kernel_rfl) trivial hF1'.wipe (St.empty Gh.none W2) fun r2 W3 a2' hag2' hst2' hF2' hd2' => ?_
      refine wpListIn_end (by kernel_rfl) ?_
      refine wpIn_seq (wpIn_cond_true (by rw [hF2'.eval]; exact congrArg (AV.conc r2) (show _ = AV.b true by kernel_rfl)) (wpIn_skip ?_))
      have hb23 := hst2'.belowR
      refine wpIn_block ?_
      have hA3 := hA2.later hb23 (lt_of_at hA2.map_) (lt_of_at hA2.c0)
      have hiter3 : W3.heap[it]? = some (.mapIter (some M) m (seen.push p.2) m) := (hb23.block it (lt_of_at hiter2)).trans hiter2
      have hs23 := hb23.size
      refine keys1_round (it := it) (l := l) (M := M) (E := E) (m := m) (x0 := x0) (J0 := J pre) (J1 := J (pre ++ [p.1.d])) (Jx1 := Jx (pre ++ [p.1.d])) hA3 p ?_ ?_ ?_ (by rw [hd2', hd1', hd]) (run_entry_at W3 it M m seen (esOf E) m (entM p) hiter3 hA3.map_ hem (es_nodup hE)) (hJa _ _ _ hj2 hb23) (hJa _) (hJa _) (hJxa _) ?_ ?_ ?_
      · exact hF2'.size.trans (by kernel_rfl)
      · intro j hj
        rw [hF2'.looks j]
        match j, hj with
        | 0, _ => exact congrArg (AV.conc r2) (show _ = AV.r (.func (.yield l) #[] #[]) by kernel_rfl)
        | 1, _ => exact congrArg (AV.conc r2) (show _ = AV.r (.pointer (some ⟨x0, 0, none⟩)) by kernel_rfl)
      · rw [hF2'.looks 5]
        refine Eq.trans (congrArg (AV.conc r2) (show _ = AV.r (a.tmps.getD 5 Go.undef) by kernel_rfl)) ?_
        exact h5
      · intro W1' hj'
        refine hY pre p.1.d W1' hj' ?_
        have e1 := hcame.length_eq
        have e2 := hperm.length_eq
        simp at e1
        omega
      · rintro a' W' hda hsa hka h5a ⟨W4, hb4, hj4, hkp⟩
        have hiter4 : W4.heap[it]? = some (.mapIter (some M) m (seen.push p.2) m) := (hb4.block it (by have := lt_of_at hiter2; omega)).trans hiter3
        have hA4 := hA3.later hb4 (lt_of_at hA3.map_) (lt_of_at hA3.c0)
        have h1 := hkp.2.same it _ hiter4 rfl
        refine ⟨⟨seen.push p.2, pre ++ [p.1.d], hda, hsa, hka, h5a, hkp.1 hA4, h1, hj4, (hperm.append_right [p.1.d]).trans hcame.symm, hB⟩, ?_⟩
        have := left_shrinks (esOf E) seen (entM p) he
        simp only [kyMu, h1, hiter]
        exact this
      · intro a' W' hda hjx
        refine ⟨hda, .tuple #[], ?_, ⟨_, rfl⟩, .inr ⟨_, trivial, hjx⟩⟩
        exact retA_run (fn := fnOf Try.prog 56) (F := [] ++ garb a' 0 a'.tmps.size) (H := []) (r := Gh.none.wipe) (v := .tup []) (by kernel_rfl) (FrameOk.garb rfl (by omega) fun i hi => by omega) (St.empty Gh.none W')

end Go.Proofs.Ytobonipmnidadaa
