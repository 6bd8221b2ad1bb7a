/- The iterator's contract. -/
import Derived.Test.YtodcebpdmjdplaaC6
namespace Go.Proofs.Ytodcebpdmjdplaa
open Go.RowKit Go.ChangeMaps

theorem drewn {w w1 : World} (h1 : w1 = w ∨ w1 = w.drew) : w1.heap = w.heap ∧ w1.os = w.os ∧ w1.tape = w.tape ∧ w1.output = w.output := by
  rcases h1 with rfl | rfl <;> exact ⟨rfl, rfl, rfl, rfl⟩

theorem grown_setBlock {w w1 : World} {it : Nat} {o : Obj} (h1 : w1 = w ∨ w1 = w.drew) : w.grownBy (setBlock w1 it o) (some it) := by
  obtain ⟨e1, e2, e3, e4⟩ := drewn h1
  exact ⟨e2, e3, e4, by simp [setBlock, e1], fun k _ hk => by
    have : it ≠ k := fun e => hk (by rw [e])
    simp [setBlock, Array.getElem?_setIfInBounds, this, e1]⟩

theorem below_setBlock {w w1 : World} {it : Nat} {o : Obj} (h1 : w1 = w ∨ w1 = w.drew) (n : Nat) (hn : n ≤ it) : Below n w (setBlock w1 it o) := by
  obtain ⟨e1, e2, e3, e4⟩ := drewn h1
  exact ⟨e2, e3, e4, by simp [setBlock, e1], fun k hk => by
    have : it ≠ k := by omega
    simp [setBlock, Array.getElem?_setIfInBounds, this, e1]⟩

theorem at_setBlock {w w1 : World} {it : Nat} {o o' : Obj} (h1 : w1 = w ∨ w1 = w.drew) (h : w.heap[it]? = some o') : (setBlock w1 it o).heap[it]? = some o := by
  have hlt := (Array.getElem?_eq_some_iff.1 h).1
  obtain ⟨e1, e2, e3, e4⟩ := drewn h1
  simp [setBlock, e1, hlt]

theorem about1_seq {L : Bk} (hL : ∀ p ∈ L, p.1.ok) {who : Int} {v : Vec} {b M x0 x1 x2 n : Nat} {w0 : World} (h : Abt b M x0 x1 x2 who v L w0) :
    SeqStopsK (Fw none) n Try.prog 40 #[.pointer (some ⟨x0, 0, none⟩), .pointer (some ⟨x1, 0, none⟩), .pointer (some ⟨x2, 0, none⟩)] (fun e : EvK => #[e.1.v]) (abKp b M x0 x1 x2 who v L) (fun xs => (xs.map (·.1)).Perm (aboutL L who v)) (fun pre => ∀ e ∈ pre, e.1 ∈ aboutL L who v) L.length w0 := by
  intro l J Jx W hW hJ hJx hY h0
  have hb := lt_of_at h.book; have hM := lt_of_at h.map_; have hx0 := lt_of_at h.c0; have hx1 := lt_of_at h.c1; have hx2 := lt_of_at h.c2
  have hA := h.later hW hb hM hx0 hx1 hx2
  have hJa : ∀ xs A B, J xs A → Below A.heap.size A B → J xs B := fun xs A B hs hb => hJ xs A B none hs (grown_of_below hb) (fun r e => by cases e)
  have hJxa : ∀ xs A B, Jx xs A → Below A.heap.size A B → Jx xs B := fun xs A B hs hb => hJx xs A B none hs (grown_of_below hb) (fun r e => by cases e)
  let r0 : Nat → Nat := fun i => match i with | 0 => x0 | 1 => x1 | 2 => x2 | 3 => b | _ => M
  refine callsInStart (args := [.r (.func (.yield l) #[] #[]), .c (.ptr 0 0), .c (.ptr 1 0), .c (.ptr 2 0)]) (r := r0) (fn := fnOf Try.prog 40)
    (c := (.seq (.region 0 (opsAt Try.prog 40 0) false) (.block 0 (.loop (.seq (.region 1 (opsAt Try.prog 40 1) false) (.seq (.cond (.tmp 13) .skip (.exit 0)) (.block 1 (.seq (.region 2 (opsAt Try.prog 40 2) false) (.seq (.region 3 (opsAt Try.prog 40 3) false) (.cond (.tmp 37) .ret .skip)))))))))) (by kernel_rfl) (by kernel_rfl) fun a0 hF0 hd0 => ?_
  have hst0 : St r0 [(.cells [.ptr 3 0] 32, 0), (.cells [.rig (.int .u8 who)] 5, 0), (.cells v.cvs 27, 0), (.cells [.mp 4] 65, 0), (.raw (mapO L), 0)] W W := St.read (fun i x hx => by
      match i, hx with
      | 0, hx => cases hx; exact hA.c0
      | 1, hx => cases hx; exact hA.c1
      | 2, hx => cases hx; exact hA.c2
      | 3, hx => cases hx; exact hA.book
      | 4, hx => cases hx; exact hA.map_
      | i + 5, hx => simp at hx) (by kernel_rfl) (by kernel_rfl)
  refine wpIn_seq (reg_wp ?_)
  refine pre_wp T2 0 4 (i := 0) [] [] (by kernel_rfl) (by kernel_rfl) trivial hF0 hst0 fun r1 w1 a1 hag1 hst1 hF1 hd1 => ?_
  have hm1 : r1 4 = M := hag1.at 4 (by kernel_rfl)
  have hb1 := hst1.below (by kernel_rfl)
  have hmap1 : w1.heap[M]? = some (mapO L) := (hb1.block M (by have := hW.size; omega)).trans hA.map_
  refine val_wp (i := 4) (w' := w1.alloc (.mapIter (some M) L.length #[] L.length)) (.range 63 (.tmp 10)) (.r (.pointer (some ⟨w1.heap.size, 0, none⟩))) hF1 (by kernel_rfl) (by kernel_rfl) (fun o ho => run_range_op ho (k := 25) (e := 61) (by kernel_rfl) (bm := M) ?_ hmap1) fun a2 hF2 hd2 => ?_
  · rw [hF1.eval]
    have : (runPre Try.prog T2 0 (opsAt Try.prog 40 0) 0 4 (startF (fnOf Try.prog 40) [.r (.func (.yield l) #[] #[]), .c (.ptr 0 0), .c (.ptr 1 0), .c (.ptr 2 0)]) [(.cells [.ptr 3 0] 32, 0), (.cells [.rig (.int .u8 who)] 5, 0), (.cells v.cvs 27, 0), (.cells [.mp 4] 65, 0), (.raw (mapO L), 0)] []).F.ev (.tmp 10) = .c (.mp 4) := by kernel_rfl
    rw [this]
    simp [AV.conc, TV.conc, CV.conc, hm1]
  refine wpListIn_end (by kernel_rfl) ?_
  generalize hit : w1.heap.size = it at *
  have hitW : W.heap.size ≤ it := by rw [← hit]; exact hb1.size
  -- the loop
  refine wpIn_block (wpIn_loop (abInv L who v l b M x0 x1 x2 it J W.heap.size) (abMu L it) ?_ ?_)
  · -- at its start
    have hb2 : Below W.heap.size W (w1.alloc (.mapIter (some M) L.length #[] L.length)) := hb1.trans (((Below.refl _ w1).alloc (Nat.le_refl _) _).mono hb1.size)
    obtain ⟨s1, s2, s3⟩ := abSlots' hF2 (by kernel_rfl) (by kernel_rfl) (by kernel_rfl) (by kernel_rfl) (by kernel_rfl) (by kernel_rfl) (hag1.at 0 (by kernel_rfl)) (hag1.at 1 (by kernel_rfl)) (hag1.at 2 (by kernel_rfl))
    exact ⟨#[], [], by rw [hd2, hd1, hd0], s1, s2, s3, hA.later hb2 (lt_of_at hA.book) (lt_of_at hA.map_) (lt_of_at hA.c0) (lt_of_at hA.c1) (lt_of_at hA.c2), by rw [← hit]; exact heap_alloc_new _ _, hJa _ _ _ h0 hb2, by rw [came_none]; exact List.Perm.nil, hitW⟩
  · rintro a W1 ⟨seen, pre, hd, hs, hk, h11, hA1, hiter, hj, hperm, hB⟩
    refine wpIn_seq (reg_wp ?_)
    let F0 : AF := abF l x0 x1 x2 ++ garb a 4 34
    have hF0 : FrameOk id F0 a := FrameOk.garb rfl hs hk
    have hstamp : ∀ x ∈ (esOf L).toList, x.born < L.length := es_born L
    rcases run_next_at (P := Try.prog) W1 (tyI (opsAt Try.prog 40 1) 0) it M L.length L.length seen (esOf L) L.length hiter hA1.map_ hstamp (Nat.le_refl _) with ⟨hz, hrun⟩ | ⟨e, he, w2, hw2, hrun⟩
    · -- none is left
      refine val_wpT (i := 0) (w' := W1) (.next (.tmp 11) false) (.tup [.one (.rig (.bool false))]) hF0 (by kernel_rfl) (by kernel_rfl) (fun o ho ht => run_next_op ho (v := .pointer (some ⟨it, 0, none⟩)) h11 (by rw [ht]; exact hrun)) fun a1' hF1' hd1' => ?_
      refine pre_wp T2 1 1 (i := 1) [] [] (by kernel_rfl) (by kernel_rfl) trivial hF1' (St.empty id W1) fun r2 w2' a2' hag2' hst2' hF2' hd2' => ?_
      refine wpListIn_end (by kernel_rfl) ?_
      refine wpIn_seq (wpIn_cond_false (by rw [hF2'.eval]; exact congrArg (AV.conc r2) (show _ = AV.b false by kernel_rfl)) (wpIn_exit ?_))
      have hb2 := hst2'.below (by kernel_rfl)
      refine ⟨by rw [hd2', hd1', hd], .tuple #[], ?_, ⟨_, rfl⟩, .inl ⟨pre, by rw [← came_all L seen who v hz]; exact hperm, hJa _ _ _ hj hb2⟩⟩
      exact retA_run (fn := fnOf Try.prog 40) (v := .tup []) (by kernel_rfl) hF2' hst2'
    · -- one comes
      obtain ⟨hem, hes⟩ := mem_left he
      obtain ⟨⟨p, i⟩, hpi, rfl⟩ : ∃ z ∈ L.zipIdx, entM z = e := by simpa [esOf] using hem
      have hpL : p ∈ L := by have := List.mem_zipIdx' hpi; exact this.2 ▸ List.getElem_mem _
      have hcame := came_push L seen who v p i hpi hes
      have hlen := came_len L (seen.push i) who v
      obtain ⟨W2, hW2⟩ : ∃ W2, W2 = setBlock w2 it (.mapIter (some M) L.length (seen.push i) L.length) := ⟨_, rfl⟩
      have hiter2 : W2.heap[it]? = some (.mapIter (some M) L.length (seen.push i) L.length) := by rw [hW2]; exact at_setBlock hw2 hiter
      have hbl : Below W.heap.size W1 W2 := by rw [hW2]; exact below_setBlock hw2 _ hB
      have hsz12 : W1.heap.size = W2.heap.size := by rw [hW2]; simp [setBlock, (drewn hw2).1]
      have hj2 : J pre W2 := by rw [hW2]; exact hJ pre W1 _ (some it) hj (grown_setBlock hw2) (fun r e => by cases e; exact ⟨hB, _, hiter, rfl⟩)
      have hA2 := hA1.later hbl (lt_of_at hA.book) (lt_of_at hA.map_) (lt_of_at hA.c0) (lt_of_at hA.c1) (lt_of_at hA.c2)
      refine val_wpT (i := 0) (w' := W2) (.next (.tmp 11) false) (.tup [.one (.rig (.bool true)), .agg p.1.d.cvs, .agg (entCvs p)]) hF0 (by kernel_rfl) (by kernel_rfl) (fun o ho ht => run_next_op ho (v := .pointer (some ⟨it, 0, none⟩)) h11 (by rw [ht, hW2]; exact hrun)) fun a1' hF1' hd1' => ?_
      refine pre_wp T2 1 1 (i := 1) [] [] (by kernel_rfl) (by kernel_rfl) trivial hF1' (St.empty id W2) fun r2 W3 a2' hag2' hst2' hF2' hd2' => ?_
      refine wpListIn_end (by kernel_rfl) ?_
      refine wpIn_seq (wpIn_cond_true (by rw [hF2'.eval]; exact congrArg (AV.conc r2) (show _ = AV.b true by kernel_rfl)) (wpIn_skip ?_))
      have hb23 := hst2'.below (by kernel_rfl)
      refine wpIn_block ?_
      have hA3 := hA2.later hb23 (lt_of_at hA2.book) (lt_of_at hA2.map_) (lt_of_at hA2.c0) (lt_of_at hA2.c1) (lt_of_at hA2.c2)
      have hit2 : it < W2.heap.size := lt_of_at hiter2
      have hiter3 : W3.heap[it]? = some (.mapIter (some M) L.length (seen.push i) L.length) := (hb23.block it hit2).trans hiter2
      have hs23 := hb23.size
      refine about1_round (it := it) (l := l) (b := b) (M := M) (L := L) (who := who) (v := v) (x0 := x0) (x1 := x1) (x2 := x2) (J0 := J pre) (J1 := J (pre ++ [⟨p.1, hL p hpL⟩])) (Jx1 := Jx (pre ++ [⟨p.1, hL p hpL⟩])) hA3 p (hL p hpL) ?_ ?_ ?_ (by rw [hd2', hd1', hd]) (run_entry_at W3 it M L.length seen (esOf L) L.length (entM (p, i)) hiter3 hA3.map_ hem (es_nodup L)) (hJa _ _ _ hj2 hb23) (hJa _) (hJa _) (hJxa _) ?_ ?_ ?_
      · exact hF2'.size.trans (by kernel_rfl)
      · intro j hj
        rw [hF2'.looks j]
        match j, hj with
        | 0, _ => exact congrArg (AV.conc r2) (show _ = AV.r (.func (.yield l) #[] #[]) by kernel_rfl)
        | 1, _ => exact congrArg (AV.conc r2) (show _ = AV.r (.pointer (some ⟨x0, 0, none⟩)) by kernel_rfl)
        | 2, _ => exact congrArg (AV.conc r2) (show _ = AV.r (.pointer (some ⟨x1, 0, none⟩)) by kernel_rfl)
        | 3, _ => exact congrArg (AV.conc r2) (show _ = AV.r (.pointer (some ⟨x2, 0, none⟩)) by kernel_rfl)
      · rw [hF2'.looks 11]
        refine Eq.trans (congrArg (AV.conc r2) (show _ = AV.r (a.tmps.getD 11 Go.undef) by kernel_rfl)) ?_
        exact h11
      · intro hrel W1' hj'
        refine hY pre ⟨p.1, hL p hpL⟩ W1' hj' ?_
        have e1 := hcame.length_eq
        have e2 := hperm.length_eq
        simp [hrel] at e1
        simp at e2
        omega
      · rintro a' W' hda hsa hka h11a ⟨W4, hb4, hcase⟩
        have hs4 := hb4.size
        have hiter4 : W4.heap[it]? = some (.mapIter (some M) L.length (seen.push i) L.length) := (hb4.block it (by omega)).trans hiter3
        have hA4 := hA3.later hb4 (lt_of_at hA3.book) (lt_of_at hA3.map_) (lt_of_at hA3.c0) (lt_of_at hA3.c1) (lt_of_at hA3.c2)
        have hfin : ∀ xs, W'.heap[it]? = some (.mapIter (some M) L.length (seen.push i) L.length) → Abt b M x0 x1 x2 who v L W' → J xs W' → (xs.map (·.1)).Perm (cameL L (seen.push i) who v) → abInv L who v l b M x0 x1 x2 it J W.heap.size a' W' ∧ abMu L it a' W' < abMu L it a W1 := fun xs h1 h2 h3 h4 =>
          ⟨⟨seen.push i, xs, hda, hsa, hka, h11a, h2, h1, h3, h4, hB⟩, by
            have := left_shrinks (esOf L) seen (entM (p, i)) he
            simp only [abMu, h1, hiter]
            exact this⟩
        rcases hcase with ⟨hrel, rfl, hj4⟩ | ⟨hrel, hj4, hkp⟩
        · refine hfin pre hiter4 hA4 hj4 (hperm.trans ?_)
          have := hcame.symm
          simpa [hrel] using this
        · refine hfin _ (hkp.2.same it _ hiter4 rfl) (hkp.1 hA4) hj4 ?_
          have := hcame.symm
          simp only [hrel, if_true] at this
          rw [List.map_append]
          exact (hperm.append_right [p.1]).trans this
      · intro a' W' hda hrel hjx
        refine ⟨hda, .tuple #[], ?_, ⟨_, rfl⟩, .inr ⟨_, ?_, hjx⟩⟩
        · exact retA_run (fn := fnOf Try.prog 40) (F := [] ++ garb a' 0 a'.tmps.size) (H := []) (r := id) (v := .tup []) (by kernel_rfl) (FrameOk.garb rfl (by omega) fun i hi => by omega) (St.empty id W')
        · intro e he'
          rcases List.mem_append.1 he' with h1 | h1
          · exact came_sub L seen who v e.1 (hperm.mem_iff.1 (List.mem_map.2 ⟨e, h1, rfl⟩))
          · rw [List.mem_singleton] at h1
            subst h1
            exact List.mem_map.2 ⟨p, List.mem_filter.2 ⟨hpL, hrel⟩, rfl⟩

end Go.Proofs.Ytodcebpdmjdplaa
