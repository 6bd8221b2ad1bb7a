/- The book: what its map holds; the iterator over those that count, are about a member, and were seen. The iterator's own code. The iterator's contract. Does none of those that count see an event? The iterator about a member, as a callee makes it. -/
import Derived.Test.YtodcebpdmjdplaaJ11
import Derived.Test.YtodcebpdmjdplaaJ5
import Derived.Laws.IdiomRangeMap
import Derived.Test.YtodcebpdmjdplaaJ6
import Derived.Test.YtodcebpdmjdplaaJ9
namespace Go.Proofs.Ytodcebpdmjdplaa
open Go.RowKit

def relB (who : Int) (v : Vec) (p : Ev × Bool) : Bool := p.2 && p.1.who == who && hasB v p.1.d
def aboutL (L : Bk) (who : Int) (v : Vec) : List Ev := (L.filter (relB who v)).map (·.1)

theorem entV_conc (p : Ev × Bool) (r : Gh) : (entAv p).conc r = entV p := rfl
theorem dotV_conc (d : Dot) (r : Gh) : d.av.conc r = d.v := rfl
theorem evV_conc (e : Ev) (r : Gh) : e.av.conc r = e.v := rfl

theorem es_born (L : Bk) : ∀ x ∈ (esOf L).toList, x.born < L.length := fun x hx => by
  simp only [esOf, List.mem_map] at hx
  obtain ⟨⟨p, i⟩, hp, rfl⟩ := hx
  have := List.mem_zipIdx hp
  simp [entM]; omega

theorem es_nodup (L : Bk) : ((esOf L).toList.map (·.born)).Nodup := by
  have : (esOf L).toList.map (·.born) = L.zipIdx.map (·.2) := by
    show (L.zipIdx.map entM).map (·.born) = _
    rw [List.map_map]; rfl
  rw [this, List.zipIdx_map_snd]
  exact List.nodup_range'

/-- What has come, when these have been seen. -/
def cameL (L : Bk) (seen : Array Nat) (who : Int) (v : Vec) : List Ev := (L.zipIdx.filter fun z => seen.contains z.2 && relB who v z.1).map (·.1.1)

theorem came_none (L : Bk) (who : Int) (v : Vec) : cameL L #[] who v = [] := by simp [cameL]

theorem filter_push {α : Type} (c : α → Bool) (seen : Array Nat) (p : α) (i : Nat) : ∀ (Z : List (α × Nat)), (Z.map (·.2)).Nodup → (p, i) ∈ Z → seen.contains i = false →
    (Z.filter fun z => (seen.push i).contains z.2 && c z.1).Perm ((Z.filter fun z => seen.contains z.2 && c z.1) ++ if c p then [(p, i)] else [])
  | [], _, h, _ => by simp at h
  | z :: Z, hn, h, hs => by
    simp only [List.map_cons, List.nodup_cons] at hn
    have hsame : ∀ (Y : List (α × Nat)), (∀ y ∈ Y, y.2 ≠ i) → (Y.filter fun z => (seen.push i).contains z.2 && c z.1) = Y.filter fun z => seen.contains z.2 && c z.1 := fun Y hY => by
      refine List.filter_congr fun y hy => ?_
      have : ((seen.push i).contains y.2) = seen.contains y.2 := by
        rw [Bool.eq_iff_iff]; simp [hY y hy]
      rw [this]
    rcases List.mem_cons.1 h with e | h'
    · subst e
      have hY : ∀ y ∈ Z, y.2 ≠ i := fun y hy e => hn.1 (List.mem_map.2 ⟨y, hy, e⟩)
      rw [List.filter_cons, List.filter_cons, hsame Z hY]
      have h1 : (seen.push i).contains i = true := by simp
      simp only [h1, hs, Bool.true_and, Bool.false_and]
      by_cases hc : c p
      · simp only [hc, if_true, Bool.false_eq_true, if_false]
        exact (List.perm_append_singleton _ _).symm
      · simp [hc]
    · have ih := filter_push c seen p i Z hn.2 h' hs
      have hz : z.2 ≠ i := fun e => hn.1 (List.mem_map.2 ⟨(p, i), h', e.symm⟩)
      have h1 : ((seen.push i).contains z.2) = seen.contains z.2 := by rw [Bool.eq_iff_iff]; simp [hz]
      rw [List.filter_cons, List.filter_cons, h1]
      split
      · exact ih.cons z
      · exact ih

theorem came_push (L : Bk) (seen : Array Nat) (who : Int) (v : Vec) (p : Ev × Bool) (i : Nat) (h : (p, i) ∈ L.zipIdx) (hs : seen.contains i = false) :
    (cameL L (seen.push i) who v).Perm (cameL L seen who v ++ if relB who v p then [p.1] else []) := by
  have hn : (L.zipIdx.map (·.2)).Nodup := by
    rw [List.zipIdx_map_snd]; exact List.nodup_range'
  have := (filter_push (relB who v) seen p i L.zipIdx hn h hs).map (·.1.1)
  refine this.trans ?_
  rw [List.map_append]
  refine List.Perm.append_left _ ?_
  split <;> simp

theorem came_all (L : Bk) (seen : Array Nat) (who : Int) (v : Vec) (h : (leftOf (esOf L) seen).size = 0) : cameL L seen who v = aboutL L who v := by
  have h1 := all_seen (esOf L) seen h
  unfold cameL aboutL
  have : (L.zipIdx.filter fun z => seen.contains z.2 && relB who v z.1) = L.zipIdx.filter fun z => relB who v z.1 := by
    refine List.filter_congr fun z hz => ?_
    have := h1 (entM z) (by simp only [esOf, List.mem_map]; exact ⟨z, hz, rfl⟩)
    simp only [entM] at this
    rw [this, Bool.true_and]
  rw [this]
  have e : (L.filter (relB who v)) = (L.zipIdx.filter fun z => relB who v z.1).map (·.1) := by
    conv => lhs; rw [← List.zipIdx_map_fst 0 L, List.filter_map]
    rfl
  rw [e, List.map_map]
  rfl

theorem came_sub (L : Bk) (seen : Array Nat) (who : Int) (v : Vec) : ∀ e ∈ cameL L seen who v, e ∈ aboutL L who v := fun e he => by
  simp only [cameL, List.mem_map, List.mem_filter, Bool.and_eq_true] at he
  obtain ⟨⟨p, i⟩, ⟨h1, h2, h3⟩, rfl⟩ := he
  simp only [aboutL, List.mem_map, List.mem_filter]
  refine ⟨p, ⟨?_, h3⟩, rfl⟩
  have := List.mem_zipIdx' h1
  exact this.2 ▸ List.getElem_mem _

theorem came_len (L : Bk) (seen : Array Nat) (who : Int) (v : Vec) : (cameL L seen who v).length ≤ L.length := by
  unfold cameL
  rw [List.length_map]
  exact Nat.le_trans (List.length_filter_le _ _) (by simp)

/-- The boxes of 'about', the book, its map. -/
structure Abt (b M x0 x1 x2 : Nat) (who : Int) (v : Vec) (L : Bk) (W : World) : Prop where
  book : W.heap[b]? = some (.cells #[.map (some M)] 65 (0, 0))
  map_ : W.heap[M]? = some (mapO L)
  c0 : W.heap[x0]? = some (.cells #[.pointer (some ⟨b, 0, none⟩)] 32 (0, 0))
  c1 : W.heap[x1]? = some (.cells #[.int .u8 who] 5 (0, 0))
  c2 : W.heap[x2]? = some (.cells v.cells 27 (0, 0))

theorem Abt.later {b M x0 x1 x2 : Nat} {who : Int} {v : Vec} {L : Bk} {W W' : World} {n : Nat} (h : Abt b M x0 x1 x2 who v L W) (hb : Below n W W') (h1 : b < n) (h2 : M < n) (h3 : x0 < n) (h4 : x1 < n) (h5 : x2 < n) : Abt b M x0 x1 x2 who v L W' :=
  ⟨(hb.block _ h1).trans h.book, (hb.block _ h2).trans h.map_, (hb.block _ h3).trans h.c0, (hb.block _ h4).trans h.c1, (hb.block _ h5).trans h.c2⟩

theorem lt_of_at {W : World} {i : Nat} {o : Obj} (h : W.heap[i]? = some o) : i < W.heap.size := (Array.getElem?_eq_some_iff.1 h).1


end Go.Proofs.Ytodcebpdmjdplaa

namespace Go.Proofs.Ytodcebpdmjdplaa
open Go.RowKit Go.ChangeMaps

/-- An event within its bounds. -/
abbrev EvK := { e : Ev // e.ok }

def abKp (b M x0 x1 x2 : Nat) (who : Int) (v : Vec) (L : Bk) (A B : World) : Prop := (Abt b M x0 x1 x2 who v L A → Abt b M x0 x1 x2 who v L B) ∧ KeepsWalks A B

def abF (l x0 x1 x2 : Nat) : AF := [.r (.func (.yield l) #[] #[]), .r (.pointer (some ⟨x0, 0, none⟩)), .r (.pointer (some ⟨x1, 0, none⟩)), .r (.pointer (some ⟨x2, 0, none⟩))]

def abInv (L : Bk) (who : Int) (v : Vec) (l b M x0 x1 x2 it : Nat) (J : List EvK → World → Prop) (B : Nat) (a : Act) (W : World) : Prop :=
  ∃ seen pre, a.defers = [] ∧ a.tmps.size = 38 ∧ (∀ i, i < 4 → a.tmps.getD i Go.undef = ((abF l x0 x1 x2).getD i .undef).conc Gh.none) ∧
    a.tmps.getD 11 Go.undef = .pointer (some ⟨it, 0, none⟩) ∧ Abt b M x0 x1 x2 who v L W ∧ W.heap[it]? = some (.mapIter (some M) L.length seen L.length) ∧ J pre W ∧ (pre.map (·.1)).Perm (cameL L seen who v) ∧ B ≤ it

def abMu (L : Bk) (it : Nat) (_ : Act) (W : World) : Nat := match W.heap[it]? with | some (.mapIter _ _ seen _) => (leftOf (esOf L) seen).size | _ => 0

def abH (b : Nat) (who : Int) (v : Vec) : AH := [(.cells [.rig (.pointer (some ⟨b, 0, none⟩))] 32, 0), (.cells [.rig (.int .u8 who)] 5, 0), (.cells v.cvs 27, 0)]

theorem abSt {b M x0 x1 x2 : Nat} {who : Int} {v : Vec} {L : Bk} {W : World} (hA : Abt b M x0 x1 x2 who v L W) {r : Gh} (e0 : r.b 0 = x0) (e1 : r.b 1 = x1) (e2 : r.b 2 = x2) : St (r.rdo 3) (abH b who v) (rd (r.rdo 3) W) W :=
  St.read (H := abH b who v) (fun i x hx => by
    match i, hx with
    | 0, hx => cases hx; rw [e0]; exact hA.c0
    | 1, hx => cases hx; rw [e1]; exact hA.c1
    | 2, hx => cases hx; rw [e2]; exact hA.c2
    | i + 3, hx => simp [abH] at hx) (by kernel_rfl) (by kernel_rfl) (by kernel_rfl)

theorem abSlots {l x0 x1 x2 : Nat} {r : Gh} {F : AF} {a a' : Act} (hF : FrameOk r F a') (hl : F.length = 38) (h0 : F.getD 0 .undef = .r (.func (.yield l) #[] #[])) (h1 : F.getD 1 .undef = .c (.ptr 0 0)) (h2 : F.getD 2 .undef = .c (.ptr 1 0)) (h3 : F.getD 3 .undef = .c (.ptr 2 0))
    (h11 : F.getD 11 .undef = .r (a.tmps.getD 11 Go.undef)) (e0 : r.b 0 = x0) (e1 : r.b 1 = x1) (e2 : r.b 2 = x2) :
    a'.tmps.size = 38 ∧ (∀ i, i < 4 → a'.tmps.getD i Go.undef = ((abF l x0 x1 x2).getD i .undef).conc Gh.none) ∧ a'.tmps.getD 11 Go.undef = a.tmps.getD 11 Go.undef := by
  refine ⟨hF.size.trans hl, fun i hi => ?_, ?_⟩
  · rw [hF.looks i]
    match i, hi with
    | 0, _ => rw [h0]; rfl
    | 1, _ => rw [h1]; simp [AV.conc, TV.conc, CV.conc, e0, abF]
    | 2, _ => rw [h2]; simp [AV.conc, TV.conc, CV.conc, e1, abF]
    | 3, _ => rw [h3]; simp [AV.conc, TV.conc, CV.conc, e2, abF]
  · rw [hF.looks 11, h11]; rfl

theorem abSlots' {l x0 x1 x2 it : Nat} {r : Gh} {F : AF} {a' : Act} (hF : FrameOk r F a') (hl : F.length = 38) (h0 : F.getD 0 .undef = .r (.func (.yield l) #[] #[])) (h1 : F.getD 1 .undef = .c (.ptr 0 0)) (h2 : F.getD 2 .undef = .c (.ptr 1 0)) (h3 : F.getD 3 .undef = .c (.ptr 2 0))
    (h11 : F.getD 11 .undef = .r (.pointer (some ⟨it, 0, none⟩))) (e0 : r.b 0 = x0) (e1 : r.b 1 = x1) (e2 : r.b 2 = x2) :
    a'.tmps.size = 38 ∧ (∀ i, i < 4 → a'.tmps.getD i Go.undef = ((abF l x0 x1 x2).getD i .undef).conc Gh.none) ∧ a'.tmps.getD 11 Go.undef = .pointer (some ⟨it, 0, none⟩) := by
  refine ⟨hF.size.trans hl, fun i hi => ?_, ?_⟩
  · rw [hF.looks i]
    match i, hi with
    | 0, _ => rw [h0]; rfl
    | 1, _ => rw [h1]; simp [AV.conc, TV.conc, CV.conc, e0, abF]
    | 2, _ => rw [h2]; simp [AV.conc, TV.conc, CV.conc, e1, abF]
    | 3, _ => rw [h3]; simp [AV.conc, TV.conc, CV.conc, e2, abF]
  · rw [hF.looks 11, h11]; rfl

/-- One round, behind the step: the entry is read, looked at, and handed to the body where it is to be. -/
theorem about1_round {L : Bk} {who : Int} {v : Vec} {b M x0 x1 x2 n l it : Nat} {J0 J1 Jx1 : World → Prop} {W2 : World} {Q : Exit → Act → World → Prop} {a : Act}
    (hA : Abt b M x0 x1 x2 who v L W2) (p : Ev × Bool) (hp : p.1.ok)
    (hs : a.tmps.size = 38) (hk : ∀ i, i < 4 → a.tmps.getD i Go.undef = ((abF l x0 x1 x2).getD i .undef).conc Gh.none) (h11 : a.tmps.getD 11 Go.undef = .pointer (some ⟨it, 0, none⟩)) (hd : a.defers = [])
    (hent : (Instr.entry (.pointer (some ⟨it, 0, none⟩))).run Try.prog W2 = .ok (.tuple #[p.1.d.v, entV p]) W2) (hJ : J0 W2) (hJa : ∀ W W', J0 W → Below W.heap.size W W' → J0 W') (hJa1 : ∀ W W', J1 W → Below W.heap.size W W' → J1 W') (hJxa : ∀ W W', Jx1 W → Below W.heap.size W W' → Jx1 W')
    (hY : relB who v p = true → ∀ W1, J0 W1 → YieldAt (Fw none) (n - 1) Try.prog l #[p.1.v] W1 fun e W' => (e = .returned (.bool true) ∧ J1 W' ∧ abKp b M x0 x1 x2 who v L W1 W') ∨ (e = .returned (.bool false) ∧ Jx1 W'))
    (hgo : ∀ a' W', a'.defers = [] → a'.tmps.size = 38 → (∀ i, i < 4 → a'.tmps.getD i Go.undef = ((abF l x0 x1 x2).getD i .undef).conc Gh.none) → a'.tmps.getD 11 Go.undef = .pointer (some ⟨it, 0, none⟩) →
      (∃ W3, Below W2.heap.size W2 W3 ∧ ((relB who v p = false ∧ W' = W3 ∧ J0 W') ∨ (relB who v p = true ∧ J1 W' ∧ abKp b M x0 x1 x2 who v L W3 W'))) → Q .normal a' W')
    (hstop : ∀ a' W', a'.defers = [] → relB who v p = true → Jx1 W' → Q .ret a' W') :
    (Code.seq (.region 2 (opsAt Try.prog 40 2) false) (.seq (.region 3 (opsAt Try.prog 40 3) false) (.cond (.tmp 37) .ret .skip))).wpIn (Fw none) n Try.prog Q a W2 := by
  let r0 : Gh := ⟨fun i => match i with | 0 => x0 | 1 => x1 | _ => x2, fun _ => ⟨none, 0, 0⟩, fun _ => none, fun _ => False⟩
  let F0 : AF := [.r (.func (.yield l) #[] #[]), .c (.ptr 0 0), .c (.ptr 1 0), .c (.ptr 2 0)] ++ garb a 4 34
  have hF0 : FrameOk r0 F0 a := FrameOk.garb rfl hs fun i hi => by
    rw [hk i hi]
    match i, hi with
    | 0, _ => rfl
    | 1, _ => rfl
    | 2, _ => rfl
    | 3, _ => rfl
  have hst0 := abSt hA (r := r0) rfl rfl rfl
  refine wpIn_seq (reg_wp ?_)
  refine val_wp (i := 0) (w' := W2) (.entry (.tmp 11)) (.tup [.agg p.1.d.cvs, .agg (entCvs p)]) hF0 (by kernel_rfl) (by kernel_rfl) (fun o ho => run_entry_op ho (v := .pointer (some ⟨it, 0, none⟩)) ?_ ?_) fun a1 hF1 hd1 => ?_
  · exact h11
  · exact hent
  refine pre_wp T2 2 6 (i := 1) [] [] (by kernel_rfl) (by kernel_rfl) trivial (hF1.rdo 3) hst0 fun r2 w2 a2 hag2 hst2 hF2 hd2 => ?_
  refine wpListIn_end (by kernel_rfl) ?_
  refine wpIn_seq (reg_wp ?_)
  obtain ⟨e, c⟩ := p
  have g0 : r2.b 0 = x0 := hag2.at 0 (by kernel_rfl)
  have g1 : r2.b 1 = x1 := hag2.at 1 (by kernel_rfl)
  have g2 : r2.b 2 = x2 := hag2.at 2 (by kernel_rfl)
  cases c with
  | false =>
    refine pre_wp T2 3 21 (i := 0) [] [] (by kernel_rfl) (by kernel_rfl) trivial hF2 hst2 fun r3 w3 a3 hag3 hst3 hF3 hd3 => ?_
    refine wpListIn_end (by kernel_rfl) ?_
    obtain ⟨s1, s2, s3⟩ := abSlots (l := l) (a := a) hF3 (by kernel_rfl) (by kernel_rfl) (by kernel_rfl) (by kernel_rfl) (by kernel_rfl) (by kernel_rfl) ((hag3.at 0 (by kernel_rfl)).trans g0) ((hag3.at 1 (by kernel_rfl)).trans g1) ((hag3.at 2 (by kernel_rfl)).trans g2)
    have hb := hst3.belowR
    refine wpIn_cond_false (by rw [hF3.eval]; exact congrArg (AV.conc r3) (show _ = AV.b false by kernel_rfl)) (wpIn_skip ?_)
    exact hgo a3 w3 (by rw [hd3, hd2, hd1, hd]) s1 s2 (s3.trans h11) ⟨w3, hb, .inl ⟨rfl, rfl, hJa _ _ hJ hb⟩⟩
  | true =>
    cases hwho : (e.who == who) with
    | false =>
      refine pre_wp T2 3 21 (i := 0) [.s 3010 26 false] [(e.who == who) = false] (by kernel_rfl) (by kernel_rfl) ⟨hwho, trivial⟩ hF2 hst2 fun r3 w3 a3 hag3 hst3 hF3 hd3 => ?_
      refine wpListIn_end (by kernel_rfl) ?_
      obtain ⟨s1, s2, s3⟩ := abSlots (l := l) (a := a) hF3 (by kernel_rfl) (by kernel_rfl) (by kernel_rfl) (by kernel_rfl) (by kernel_rfl) (by kernel_rfl) ((hag3.at 0 (by kernel_rfl)).trans g0) ((hag3.at 1 (by kernel_rfl)).trans g1) ((hag3.at 2 (by kernel_rfl)).trans g2)
      have hb := hst3.belowR
      refine wpIn_cond_false (by rw [hF3.eval]; exact congrArg (AV.conc r3) (show _ = AV.b false by kernel_rfl)) (wpIn_skip ?_)
      exact hgo a3 w3 (by rw [hd3, hd2, hd1, hd]) s1 s2 (s3.trans h11) ⟨w3, hb, .inl ⟨by simp [relB, hwho], rfl, hJa _ _ hJ hb⟩⟩
    | true =>
      cases hhas : hasB v e.d with
      | false =>
        refine pre_wp T2 3 21 (i := 0) [.s 3010 26 true, .s 3015 31 false] [(e.who == who) = true, e.d.ok, hasB v e.d = false] (by kernel_rfl) (by kernel_rfl) ⟨hwho, hp.d, hhas, trivial⟩ hF2 hst2 fun r3 w3 a3 hag3 hst3 hF3 hd3 => ?_
        refine wpListIn_end (by kernel_rfl) ?_
        obtain ⟨s1, s2, s3⟩ := abSlots (l := l) (a := a) hF3 (by kernel_rfl) (by kernel_rfl) (by kernel_rfl) (by kernel_rfl) (by kernel_rfl) (by kernel_rfl) ((hag3.at 0 (by kernel_rfl)).trans g0) ((hag3.at 1 (by kernel_rfl)).trans g1) ((hag3.at 2 (by kernel_rfl)).trans g2)
        have hb := hst3.belowR
        refine wpIn_cond_false (by rw [hF3.eval]; exact congrArg (AV.conc r3) (show _ = AV.b false by kernel_rfl)) (wpIn_skip ?_)
        exact hgo a3 w3 (by rw [hd3, hd2, hd1, hd]) s1 s2 (s3.trans h11) ⟨w3, hb, .inl ⟨by simp [relB, hhas], rfl, hJa _ _ hJ hb⟩⟩
      | true =>
        have hrel : relB who v (e, true) = true := by simp [relB, hwho, hhas]
        refine pre_wp T2 3 18 (i := 0) [.s 3010 26 true, .s 3015 31 true] [(e.who == who) = true, e.d.ok, hasB v e.d = true] (by kernel_rfl) (by kernel_rfl) ⟨hwho, hp.d, hhas, trivial⟩ hF2 hst2 fun r3 w3 a3 hag3 hst3 hF3 hd3 => ?_
        have hb := hst3.belowR
        obtain ⟨s1, s2, s3⟩ := abSlots (l := l) (a := a) hF3 (by kernel_rfl) (by kernel_rfl) (by kernel_rfl) (by kernel_rfl) (by kernel_rfl) (by kernel_rfl) ((hag3.at 0 (by kernel_rfl)).trans g0) ((hag3.at 1 (by kernel_rfl)).trans g1) ((hag3.at 2 (by kernel_rfl)).trans g2)
        have f0 := (hag3.at 0 (by kernel_rfl)).trans g0
        have f1 := (hag3.at 1 (by kernel_rfl)).trans g1
        have f2 := (hag3.at 2 (by kernel_rfl)).trans g2
        refine yield_wp (i := 18) { callee := .value (.tmp 32), args := #[.tmp 34], argTypes := #[31] } (.tmp 32) (.tmp 34) hF3 (by kernel_rfl) (by kernel_rfl) rfl rfl (l := l) (by kernel_rfl) (v := e.v) (show _ = e.av.conc r3 from congrArg (AV.conc r3) (by kernel_rfl)) (hY hrel w3 (hJa _ _ hJ hb)) fun x w4 hx => ?_
        rcases hx with ⟨rfl, hj, hkp⟩ | ⟨rfl, hj⟩
        · refine ⟨_, rfl, fun a4 hF4 hd4 => ?_⟩
          refine pre_wp T2 3 2 (i := 19) [] [] (by kernel_rfl) (by kernel_rfl) trivial (hF4.rdo 3) (abSt (hkp.1 (hA.later hb (lt_of_at hA.book) (lt_of_at hA.map_) (lt_of_at hA.c0) (lt_of_at hA.c1) (lt_of_at hA.c2))) f0 f1 f2) fun r5 w5 a5 hag5 hst5 hF5 hd5 => ?_
          refine wpListIn_end (by kernel_rfl) ?_
          have hb5 := hst5.belowR
          obtain ⟨t1, t2, t3⟩ := abSlots (l := l) (a := a) hF5 (by kernel_rfl) (by kernel_rfl) (by kernel_rfl) (by kernel_rfl) (by kernel_rfl) (by kernel_rfl) ((hag5.at 0 (by kernel_rfl)).trans f0) ((hag5.at 1 (by kernel_rfl)).trans f1) ((hag5.at 2 (by kernel_rfl)).trans f2)
          refine wpIn_cond_false (by rw [hF5.eval]; exact congrArg (AV.conc r5) (show _ = AV.b false by kernel_rfl)) (wpIn_skip ?_)
          exact hgo a5 w5 (by rw [hd5, hd4, hd3, hd2, hd1, hd]) t1 t2 (t3.trans h11) ⟨w3, hb, .inr ⟨hrel, hJa1 _ _ hj hb5, fun h3 => (hkp.1 h3).later hb5 (lt_of_at (hkp.1 h3).book) (lt_of_at (hkp.1 h3).map_) (lt_of_at (hkp.1 h3).c0) (lt_of_at (hkp.1 h3).c1) (lt_of_at (hkp.1 h3).c2), hkp.2.trans (keepsWalks_of_below hb5)⟩⟩
        · refine ⟨_, rfl, fun a4 hF4 hd4 => ?_⟩
          refine pre_wp T2 3 2 (i := 19) [] [] (by kernel_rfl) (by kernel_rfl) trivial hF4.wipe (St.empty r3 w4) fun r5 w5 a5 hag5 hst5 hF5 hd5 => ?_
          refine wpListIn_end (by kernel_rfl) ?_
          have hb5 := hst5.belowR
          refine wpIn_cond_true (by rw [hF5.eval]; exact congrArg (AV.conc r5) (show _ = AV.b true by kernel_rfl)) (wpIn_ret ?_)
          exact hstop a5 w5 (by rw [hd5, hd4, hd3, hd2, hd1, hd]) hrel (hJxa _ _ hj hb5)

end Go.Proofs.Ytodcebpdmjdplaa

namespace Go.Proofs.Ytodcebpdmjdplaa
open Go.RowKit Go.ChangeMaps

theorem drewn {w w1 : World} (h1 : w1 = w ∨ w1 = w.drew) : w1.heap = w.heap ∧ w1.os = w.os ∧ w1.tape = w.tape ∧ w1.output = w.output := by
  rcases h1 with rfl | rfl <;> exact ⟨rfl, rfl, rfl, rfl⟩

theorem grown_setBlock {w w1 : World} {it : Nat} {o : Obj} (h1 : w1 = w ∨ w1 = w.drew) : w.grownBy (setBlock w1 it o) (some it) := by
  obtain ⟨e1, e2, e3, e4⟩ := drewn h1
  exact ⟨e2, e3, e4, by simp [setBlock, e1], fun k _ hk => by
    have : it ≠ k := fun e => hk (by rw [e])
    simp [setBlock, this, e1]⟩

theorem below_setBlock {w w1 : World} {it : Nat} {o : Obj} (h1 : w1 = w ∨ w1 = w.drew) (n : Nat) (hn : n ≤ it) : Below n w (setBlock w1 it o) := by
  obtain ⟨e1, e2, e3, e4⟩ := drewn h1
  exact ⟨e2, e3, e4, by simp [setBlock, e1], fun k hk => by
    have : it ≠ k := by omega
    simp [setBlock, this, e1]⟩

theorem at_setBlock {w w1 : World} {it : Nat} {o o' : Obj} (h1 : w1 = w ∨ w1 = w.drew) (h : w.heap[it]? = some o') : (setBlock w1 it o).heap[it]? = some o := by
  have hlt := (Array.getElem?_eq_some_iff.1 h).1
  obtain ⟨e1, e2, e3, e4⟩ := drewn h1
  simp [setBlock, e1, hlt]

theorem about1_seq {L : Bk} (hL : ∀ p ∈ L, p.1.ok) {who : Int} {v : Vec} {b M x0 x1 x2 n : Nat} {w0 : World} (h : Abt b M x0 x1 x2 who v L w0) :
    SeqStopsK (Fw none) n Try.prog 40 #[.pointer (some ⟨x0, 0, none⟩), .pointer (some ⟨x1, 0, none⟩), .pointer (some ⟨x2, 0, none⟩)] (fun e : EvK => #[e.1.v]) (abKp b M x0 x1 x2 who v L) (fun xs => (xs.map (·.1)).Perm (aboutL L who v)) (fun pre => ∀ e ∈ pre, e.1 ∈ aboutL L who v) L.length w0 := by
  intro l J Jx W hW hJ hJx hY h0
  have hb := lt_of_at h.book; have hM := lt_of_at h.map_; have hx0 := lt_of_at h.c0; have hx1 := lt_of_at h.c1; have hx2 := lt_of_at h.c2
  have hA := h.later hW hb hM hx0 hx1 hx2
  have hJa : ∀ xs A B, J xs A → Below A.heap.size A B → J xs B := fun xs A B hs hb => hJ xs A B none hs (grown_of_below hb) (fun r e => by cases e)
  have hJxa : ∀ xs A B, Jx xs A → Below A.heap.size A B → Jx xs B := fun xs A B hs hb => hJx xs A B none hs (grown_of_below hb) (fun r e => by cases e)
  let r0 : Gh := ⟨fun i => match i with | 0 => x0 | 1 => x1 | 2 => x2 | 3 => b | _ => M, fun _ => ⟨none, 0, 0⟩, fun _ => none, fun _ => False⟩
  refine callsInStart (args := [.r (.func (.yield l) #[] #[]), .c (.ptr 0 0), .c (.ptr 1 0), .c (.ptr 2 0)]) (r := r0) (fn := fnOf Try.prog 40)
    (c := (.seq (.region 0 (opsAt Try.prog 40 0) false) (.block 0 (.loop (.seq (.region 1 (opsAt Try.prog 40 1) false) (.seq (.cond (.tmp 13) .skip (.exit 0)) (.block 1 (.seq (.region 2 (opsAt Try.prog 40 2) false) (.seq (.region 3 (opsAt Try.prog 40 3) false) (.cond (.tmp 37) .ret .skip)))))))))) (by kernel_rfl) (by kernel_rfl) fun a0 hF0 hd0 => ?_
  have hst0 : St (r0.rdo 5) [(.cells [.ptr 3 0] 32, 0), (.cells [.rig (.int .u8 who)] 5, 0), (.cells v.cvs 27, 0), (.cells [.mp 4] 65, 0), (.raw (mapO L), 0)] (rd (r0.rdo 5) W) W := St.read (r := r0) (H := [(.cells [.ptr 3 0] 32, 0), (.cells [.rig (.int .u8 who)] 5, 0), (.cells v.cvs 27, 0), (.cells [.mp 4] 65, 0), (.raw (mapO L), 0)]) (fun i x hx => by
      match i, hx with
      | 0, hx => cases hx; exact hA.c0
      | 1, hx => cases hx; exact hA.c1
      | 2, hx => cases hx; exact hA.c2
      | 3, hx => cases hx; exact hA.book
      | 4, hx => cases hx; exact hA.map_
      | i + 5, hx => simp at hx) (by kernel_rfl) (by kernel_rfl) (by kernel_rfl)
  refine wpIn_seq (reg_wp ?_)
  refine pre_wp T2 0 4 (i := 0) [] [] (by kernel_rfl) (by kernel_rfl) trivial (hF0.rdo 5) hst0 fun r1 w1 a1 hag1 hst1 hF1 hd1 => ?_
  have hm1 : r1.b 4 = M := hag1.at 4 (by kernel_rfl)
  have hb1 := hst1.belowR
  have hmap1 : w1.heap[M]? = some (mapO L) := (hb1.block M (by have := hW.size; omega)).trans hA.map_
  refine val_wp (i := 4) (w' := w1.alloc (.mapIter (some M) L.length #[] L.length)) (.range 63 (.tmp 10)) (.r (.pointer (some ⟨w1.heap.size, 0, none⟩))) hF1 (by kernel_rfl) (by kernel_rfl) (fun o ho => run_range_op ho (k := 25) (e := 61) (by kernel_rfl) (bm := M) ?_ hmap1) fun a2 hF2 hd2 => ?_
  · rw [hF1.eval]
    have : (runPre Try.prog T2 0 (opsAt Try.prog 40 0) 0 4 (startF (fnOf Try.prog 40) [.r (.func (.yield l) #[] #[]), .c (.ptr 0 0), .c (.ptr 1 0), .c (.ptr 2 0)]) [(.cells [.ptr 3 0] 32, 0), (.cells [.rig (.int .u8 who)] 5, 0), (.cells v.cvs 27, 0), (.cells [.mp 4] 65, 0), (.raw (mapO L), 0)] []).F.ev (.tmp 10) = .c (.mp 4) := by kernel_rfl
    rw [this]
    simp [AV.conc, TV.conc, CV.conc, hm1]
  refine wpListIn_end (by kernel_rfl) ?_
  generalize hit : w1.heap.size = it at *
  have hitW : W.heap.size ≤ it := by rw [← hit]; exact hb1.size
  -- the loop
  refine wpIn_block (wpIn_loop (abInv L who v l b M x0 x1 x2 it J W.heap.size) (abMu L it) ?_ ?_)
  · -- at its start
    have hb2 : Below W.heap.size W (w1.alloc (.mapIter (some M) L.length #[] L.length)) := hb1.trans (((Below.refl _ w1).alloc (Nat.le_refl _) _).mono hb1.size)
    obtain ⟨s1, s2, s3⟩ := abSlots' hF2 (by kernel_rfl) (by kernel_rfl) (by kernel_rfl) (by kernel_rfl) (by kernel_rfl) (by kernel_rfl) (hag1.at 0 (by kernel_rfl)) (hag1.at 1 (by kernel_rfl)) (hag1.at 2 (by kernel_rfl))
    exact ⟨#[], [], by rw [hd2, hd1, hd0], s1, s2, s3, hA.later hb2 (lt_of_at hA.book) (lt_of_at hA.map_) (lt_of_at hA.c0) (lt_of_at hA.c1) (lt_of_at hA.c2), by rw [← hit]; exact heap_alloc_new _ _, hJa _ _ _ h0 hb2, by rw [came_none]; exact List.Perm.nil, hitW⟩
  · rintro a W1 ⟨seen, pre, hd, hs, hk, h11, hA1, hiter, hj, hperm, hB⟩
    refine wpIn_seq (reg_wp ?_)
    let F0 : AF := abF l x0 x1 x2 ++ garb a 4 34
    have hF0 : FrameOk Gh.none F0 a := FrameOk.garb rfl hs hk
    have hstamp : ∀ x ∈ (esOf L).toList, x.born < L.length := es_born L
    rcases run_next_at (P := Try.prog) W1 (tyI (opsAt Try.prog 40 1) 0) it M L.length L.length seen (esOf L) L.length hiter hA1.map_ hstamp (Nat.le_refl _) with ⟨hz, hrun⟩ | ⟨e, he, w2, hw2, hrun⟩
    · -- none is left
      refine val_wpT (i := 0) (w' := W1) (.next (.tmp 11) false) (.tup [.one (.rig (.bool false))]) hF0 (by kernel_rfl) (by kernel_rfl) (fun o ho ht => run_next_op ho (v := .pointer (some ⟨it, 0, none⟩)) h11 (by rw [ht]; exact hrun)) fun a1' hF1' hd1' => ?_
      refine pre_wp T2 1 1 (i := 1) [] [] (by kernel_rfl) (by kernel_rfl) trivial hF1'.wipe (St.empty Gh.none W1) fun r2 w2' a2' hag2' hst2' hF2' hd2' => ?_
      refine wpListIn_end (by kernel_rfl) ?_
      refine wpIn_seq (wpIn_cond_false (by rw [hF2'.eval]; exact congrArg (AV.conc r2) (show _ = AV.b false by kernel_rfl)) (wpIn_exit ?_))
      have hb2 := hst2'.belowR
      refine ⟨by rw [hd2', hd1', hd], .tuple #[], ?_, ⟨_, rfl⟩, .inl ⟨pre, by rw [← came_all L seen who v hz]; exact hperm, hJa _ _ _ hj hb2⟩⟩
      exact retA_run (fn := fnOf Try.prog 40) (v := .tup []) (by kernel_rfl) hF2' hst2'
    · -- one comes
      obtain ⟨hem, hes⟩ := mem_left he
      obtain ⟨⟨p, i⟩, hpi, rfl⟩ : ∃ z ∈ L.zipIdx, entM z = e := by simpa [esOf] using hem
      have hpL : p ∈ L := by have := List.mem_zipIdx' hpi; exact this.2 ▸ List.getElem_mem _
      have hcame := came_push L seen who v p i hpi hes
      have hlen := came_len L (seen.push i) who v
      obtain ⟨W2, hW2⟩ : ∃ W2, W2 = setBlock w2 it (.mapIter (some M) L.length (seen.push i) L.length) := ⟨_, rfl⟩
      have hiter2 : W2.heap[it]? = some (.mapIter (some M) L.length (seen.push i) L.length) := by rw [hW2]; exact at_setBlock hw2 hiter
      have hbl : Below W.heap.size W1 W2 := by rw [hW2]; exact below_setBlock hw2 _ hB
      have hsz12 : W1.heap.size = W2.heap.size := by rw [hW2]; simp [setBlock, (drewn hw2).1]
      have hj2 : J pre W2 := by rw [hW2]; exact hJ pre W1 _ (some it) hj (grown_setBlock hw2) (fun r e => by cases e; exact ⟨hB, _, hiter, rfl⟩)
      have hA2 := hA1.later hbl (lt_of_at hA.book) (lt_of_at hA.map_) (lt_of_at hA.c0) (lt_of_at hA.c1) (lt_of_at hA.c2)
      refine val_wpT (i := 0) (w' := W2) (.next (.tmp 11) false) (.tup [.one (.rig (.bool true)), .agg p.1.d.cvs, .agg (entCvs p)]) hF0 (by kernel_rfl) (by kernel_rfl) (fun o ho ht => run_next_op ho (v := .pointer (some ⟨it, 0, none⟩)) h11 (by rw [ht, hW2]; exact hrun)) fun a1' hF1' hd1' => ?_
      refine pre_wp T2 1 1 (i := 1) [] [] (by kernel_rfl) (by kernel_rfl) trivial hF1'.wipe (St.empty Gh.none W2) fun r2 W3 a2' hag2' hst2' hF2' hd2' => ?_
      refine wpListIn_end (by kernel_rfl) ?_
      refine wpIn_seq (wpIn_cond_true (by rw [hF2'.eval]; exact congrArg (AV.conc r2) (show _ = AV.b true by kernel_rfl)) (wpIn_skip ?_))
      have hb23 := hst2'.belowR
      refine wpIn_block ?_
      have hA3 := hA2.later hb23 (lt_of_at hA2.book) (lt_of_at hA2.map_) (lt_of_at hA2.c0) (lt_of_at hA2.c1) (lt_of_at hA2.c2)
      have hit2 : it < W2.heap.size := lt_of_at hiter2
      have hiter3 : W3.heap[it]? = some (.mapIter (some M) L.length (seen.push i) L.length) := (hb23.block it hit2).trans hiter2
      have hs23 := hb23.size
      refine about1_round (it := it) (l := l) (b := b) (M := M) (L := L) (who := who) (v := v) (x0 := x0) (x1 := x1) (x2 := x2) (J0 := J pre) (J1 := J (pre ++ [⟨p.1, hL p hpL⟩])) (Jx1 := Jx (pre ++ [⟨p.1, hL p hpL⟩])) hA3 p (hL p hpL) ?_ ?_ ?_ (by rw [hd2', hd1', hd]) (run_entry_at W3 it M L.length seen (esOf L) L.length (entM (p, i)) hiter3 hA3.map_ hem (es_nodup L)) (hJa _ _ _ hj2 hb23) (hJa _) (hJa _) (hJxa _) ?_ ?_ ?_
      · exact hF2'.size.trans (by kernel_rfl)
      · intro j hj
        rw [hF2'.looks j]
        match j, hj with
        | 0, _ => exact congrArg (AV.conc r2) (show _ = AV.r (.func (.yield l) #[] #[]) by kernel_rfl)
        | 1, _ => exact congrArg (AV.conc r2) (show _ = AV.r (.pointer (some ⟨x0, 0, none⟩)) by kernel_rfl)
        | 2, _ => exact congrArg (AV.conc r2) (show _ = AV.r (.pointer (some ⟨x1, 0, none⟩)) by kernel_rfl)
        | 3, _ => exact congrArg (AV.conc r2) (show _ = AV.r (.pointer (some ⟨x2, 0, none⟩)) by kernel_rfl)
      · rw [hF2'.looks 11]
        refine Eq.trans (congrArg (AV.conc r2) (show _ = AV.r (a.tmps.getD 11 Go.undef) by kernel_rfl)) ?_
        exact h11
      · intro hrel W1' hj'
        refine hY pre ⟨p.1, hL p hpL⟩ W1' hj' ?_
        have e1 := hcame.length_eq
        have e2 := hperm.length_eq
        simp [hrel] at e1
        simp at e2
        omega
      · rintro a' W' hda hsa hka h11a ⟨W4, hb4, hcase⟩
        have hs4 := hb4.size
        have hiter4 : W4.heap[it]? = some (.mapIter (some M) L.length (seen.push i) L.length) := (hb4.block it (by omega)).trans hiter3
        have hA4 := hA3.later hb4 (lt_of_at hA3.book) (lt_of_at hA3.map_) (lt_of_at hA3.c0) (lt_of_at hA3.c1) (lt_of_at hA3.c2)
        have hfin : ∀ xs, W'.heap[it]? = some (.mapIter (some M) L.length (seen.push i) L.length) → Abt b M x0 x1 x2 who v L W' → J xs W' → (xs.map (·.1)).Perm (cameL L (seen.push i) who v) → abInv L who v l b M x0 x1 x2 it J W.heap.size a' W' ∧ abMu L it a' W' < abMu L it a W1 := fun xs h1 h2 h3 h4 =>
          ⟨⟨seen.push i, xs, hda, hsa, hka, h11a, h2, h1, h3, h4, hB⟩, by
            have := left_shrinks (esOf L) seen (entM (p, i)) he
            simp only [abMu, h1, hiter]
            exact this⟩
        rcases hcase with ⟨hrel, rfl, hj4⟩ | ⟨hrel, hj4, hkp⟩
        · refine hfin pre hiter4 hA4 hj4 (hperm.trans ?_)
          have := hcame.symm
          simpa [hrel] using this
        · refine hfin _ (hkp.2.same it _ hiter4 rfl) (hkp.1 hA4) hj4 ?_
          have := hcame.symm
          simp only [hrel, if_true] at this
          rw [List.map_append]
          exact (hperm.append_right [p.1]).trans this
      · intro a' W' hda hrel hjx
        refine ⟨hda, .tuple #[], ?_, ⟨_, rfl⟩, .inr ⟨_, ?_, hjx⟩⟩
        · exact retA_run (fn := fnOf Try.prog 40) (F := [] ++ garb a' 0 a'.tmps.size) (H := []) (r := Gh.none.wipe) (v := .tup []) (by kernel_rfl) (FrameOk.garb rfl (by omega) fun i hi => by omega) (St.empty Gh.none W')
        · intro e he'
          rcases List.mem_append.1 he' with h1 | h1
          · exact came_sub L seen who v e.1 (hperm.mem_iff.1 (List.mem_map.2 ⟨e, h1, rfl⟩))
          · rw [List.mem_singleton] at h1
            subst h1
            exact List.mem_map.2 ⟨p, List.mem_filter.2 ⟨hpL, hrel⟩, rfl⟩

end Go.Proofs.Ytodcebpdmjdplaa

namespace Go.Proofs.Ytodcebpdmjdplaa
open Go.RowKit

def beforeQ (args : List AV) (_ : AH) : Option (AV × List Nat × Option Prop) :=
  match args with
  | [.tv (.agg l), .tv (.agg m)] => match evOf l, evOf m with
    | some a, some b => some (.b (beforeB a b), [], some a.d.ok)
    | _, _ => none
  | _ => none

theorem beforeQ_args {args : List AV} {H : AH} {v : AV} {ft : List Nat} {pr : Option Prop} (h : beforeQ args H = some (v, ft, pr)) : ∃ x y, args = [x.av, y.av] ∧ v = .b (beforeB x y) ∧ pr = some x.d.ok := by
  unfold beforeQ at h
  split at h
  · split at h
    · rename_i v d hv hd
      simp at h
      rw [evOf_eq hv, evOf_eq hd]
      exact ⟨v, d, rfl, h.1.symm, h.2.2.symm⟩
    · simp at h
  · simp at h

noncomputable def T3 : CT Try.prog :=
  (T2.addQ 41 beforeQ (by kernel_rfl) fun _ _ _ _ _ h hp r w _ => by
    obtain ⟨x, d, rfl, rfl, rfl⟩ := beforeQ_args h
    exact before_run x d hp.some r w).addQ 17 beforeQ (by kernel_rfl) fun _ _ _ _ _ h hp r w _ => by
    obtain ⟨x, d, rfl, rfl, rfl⟩ := beforeQ_args h
    exact rbefore_run x d hp.some r w

def lastB (e : Ev) (l : List Ev) : Bool := !(l.any fun x => beforeB e x)

def cloV (x0 x1 x2 : Nat) : Value := .func (.func 40) #[] #[.pointer (some ⟨x0, 0, none⟩), .pointer (some ⟨x1, 0, none⟩), .pointer (some ⟨x2, 0, none⟩)]

def laH (e : Ev) (res : Bool) : AH := [(.cells e.cvs 31, 1), (.cells [.rig (.bool res)] 4, 1)]
def laF (e : Ev) (x0 x1 x2 : Nat) : AF := [e.av, .r (cloV x0 x1 x2), .c (.ptr 0 0), .undef, .c (.ptr 1 0), .undef, .r (cloV x0 x1 x2), .undef, .undef, .undef, .undef]

set_option maxRecDepth 4000 in
theorem last_run {L : Bk} (hL : ∀ p ∈ L, p.1.ok) {e : Ev} (he : e.d.ok) {who : Int} {v : Vec} {b M x0 x1 x2 : Nat} {w : World} (h : Abt b M x0 x1 x2 who v L w) :
    Calls Try.prog 30 #[e.v, cloV x0 x1 x2] w fun x w' => x = .returned (.bool (lastB e (aboutL L who v))) ∧ Below w.heap.size w w' := by
  refine (callsFw (ro := none) (n := 2)).1 (callsInMarks (args := [e.av, .r (cloV x0 x1 x2)]) (r := Gh.none.wipe) (fn := fnOf Try.prog 30)
    (c := (.seq (.region 0 (opsAt Try.prog 30 0) false) (.seq (.seq (.region 1 (opsAt Try.prog 30 1) false) (.block 0 (.rangeFunc (.tmp 6) #[7] (.region 2 (opsAt Try.prog 30 2) false) (.block 1 (.seq (.region 3 (opsAt Try.prog 30 3) false) (.cond (.tmp 10) (.seq (.region 4 (opsAt Try.prog 30 4) false) .ret) .skip)))))) (.seq (.region 5 (opsAt Try.prog 30 5) false) .ret)))) (by kernel_rfl) (by kernel_rfl) fun a0 hF0 hd0 => ?_)
  refine wpIn_seq (reg_wp (pre_wp T3 0 2 [] [] (by kernel_rfl) (by kernel_rfl) trivial hF0 (St.empty Gh.none w) fun r1 w1 a1 hag1 hst1 hF1 hd1 => wpListIn_end (by kernel_rfl) ?_))
  refine wpIn_seq (wpIn_seq (reg_wp (pre_wp T3 1 1 [] [] (by kernel_rfl) (by kernel_rfl) trivial hF1 hst1 fun r2 w2 a2 hag2 hst2 hF2 hd2 => wpListIn_end (by kernel_rfl) ?_)))
  have hst' : St r2 (laH e false) (rd Gh.none.wipe w) w2 := hst2.as (by kernel_rfl)
  have hst := hst'.dropIm (by kernel_rfl)
  have hF : FrameOk (r2.withO r2.o (fun _ => False)) (laF e x0 x1 x2) a2 := (hF2.as (by kernel_rfl)).withO0 _ _
  have hst : St (r2.withO r2.o (fun _ => False)) (laH e false) (rd Gh.none.wipe w) w2 := hst
  have him : ∀ b, (r2.withO r2.o (fun _ => False)).im b → (rd Gh.none.wipe w).im b := fun b hb => hb
  clear hst'
  generalize r2.withO r2.o (fun _ => False) = r2 at *
  have hd : a2.defers = [] := by rw [hd2, hd1, hd0]
  clear hF0 hF1 hF2 hst1 hst2 hd0 hd1 hd2 hag1 hag2
  have hb2 := hst.belowR
  have hne : ∀ b, w2.heap.size ≤ b → r2.o b = none := fun b hb => hst.none_ge hb
  refine wpIn_block ?_
  refine wpIn_rangeFunc_ownH (F := Fw none) rfl (by omega) (gf := 40) (lb := #[.pointer (some ⟨x0, 0, none⟩), .pointer (some ⟨x1, 0, none⟩), .pointer (some ⟨x2, 0, none⟩)]) ?_ trivial (fun _ _ => callFunc_run (by kernel_rfl) _ _)
    (about1_seq hL h) (fun ha hb => ⟨fun h => hb.1 (ha.1 h), ha.2.trans hb.2⟩) (fun W l o o' hl ho h1 h2 => ⟨fun hA => hA.later (belowK_b hb2.size W l o o' hl ho h1 h2) (lt_of_at h.book) (lt_of_at h.map_) (lt_of_at h.c0) (lt_of_at h.c1) (lt_of_at h.c2), KeepsWalks.putObj _ ho h2⟩) hb2 (fun _ => rfl)
    (fun pre W => St r2 (laH e false) (rd Gh.none.wipe w) W ∧ ∀ x ∈ pre, beforeB e x.1 = false)
    (fun c pre W => c = .ret ∧ (∃ x ∈ pre, beforeB e x.1 = true) ∧ St r2 (laH e false) (rd Gh.none.wipe w) W)
    ?hI ?hIx ?h0
    (fun x a' W => ∃ r3, Agree 2 r2 r3 ∧ FrameOk r3 (((laF e x0 x1 x2).set 7 x.1.av).set 5 (.c (.ptr 2 0))) a' ∧ a'.defers = [] ∧ St r3 (laH e false ++ [(.cells x.1.cvs 31, 1)]) (rd Gh.none.wipe w) W) ?hAx ?assign ?body ?done ?stop
  case hI => exact fun s A B row hs hg hr => ⟨hs.1.ownC (allC_at (by kernel_rfl)) hb2.size hg hr, hs.2⟩
  case hIx => exact fun c s A B row hs hg hr => ⟨hs.1, hs.2.1, hs.2.2.ownC (allC_at (by kernel_rfl)) hb2.size hg hr⟩
  case h0 => exact ⟨hst, fun x hx => by simp at hx⟩
  case hAx =>
    rintro x a' u A B row ⟨r3, g1, g2, g3, g4⟩ hg hr
    exact ⟨r3, g1, g2, g3, g4.ownC (allC_at (by kernel_rfl)) hb2.size hg hr⟩
  case assign =>
    rintro l pre x W K ⟨hs, hall⟩ hK
    refine reg_wp (ro := some l) (pre_wp T3 2 2 [] [] (by kernel_rfl) (by kernel_rfl) trivial (hF.round 7 x.1.av rfl) hs.rebase fun r3 w3 a3 hag3 hst3 hF3 hd3 => wpListIn_end (by kernel_rfl) ?_)
    have hk := St.keepsOthers hs hst3 (by kernel_rfl)
    have hbn : Below w.heap.size W w3 := St.belowN hst3 hs.size fun b i y h1 h2 h3 => (hs.wr b i y h1 h2 h3).elim (fun h => h) fun h => h.elim
    have hst4 : St r3 (laH e false ++ [(.cells x.1.cvs 31, 1)]) (rd Gh.none.wipe w) w3 := (hs.trans hst3).as (by kernel_rfl)
    refine hK a3 w3 (hk.from _) ⟨fun hA => hA.later hbn (lt_of_at h.book) (lt_of_at h.map_) (lt_of_at h.c0) (lt_of_at h.c1) (lt_of_at h.c2), hk.walks⟩ ⟨?_, hall⟩ ⟨r3, hag3, hF3.as (by kernel_rfl), hd3, hst4⟩
    exact St.goBack hs (St.take (laH e false) hst4 (by kernel_rfl)) (hag3.trans (Agree.withO 2 r3 _ _) (Nat.le_refl _)) (by kernel_rfl) (by kernel_rfl) him
  case body =>
    rintro l pre x a' W hl hrec ⟨hs, hall⟩ ⟨r3, g1, g2, g3, g4⟩ hlen
    have hown : ∀ (b i : Nat) (y : AO × Nat), r3.o b = some i → (laH e false ++ [(.cells x.1.cvs 31, 1)])[i]? = some y → y.2 ≠ 0 → w.heap.size ≤ b := fun b i y h1 h2 h3 => (g4.wr b i y h1 h2 h3).elim (fun h => h) fun h => h.elim
    cases hbf : beforeB e x.1 with
    | false =>
      refine code_wp hmx (ro := some l) T3 [.c 10 false] [e.d.ok, beforeB e x.1 = false] .norm (by kernel_rfl) (by kernel_rfl) ⟨he, hbf, trivial⟩ g2 g4.rebase fun r4 w4 a4 hag4 hst4 hF4 hd4 => ?_
      have hk := St.keepsOthers g4 hst4 (by kernel_rfl)
      have hbn : Below w.heap.size W w4 := St.belowN hst4 hs.size hown
      refine ⟨hk.from _, ⟨fun hA => hA.later hbn (lt_of_at h.book) (lt_of_at h.map_) (lt_of_at h.c0) (lt_of_at h.c1) (lt_of_at h.c2), hk.walks⟩, ?_, fun y hy => ?_⟩
      · exact St.goBack hs (St.take (laH e false) (g4.trans hst4) (by kernel_rfl)) ((g1.trans hag4 (by simp [laH])).trans (Agree.withO 2 r4 _ _) (Nat.le_refl _)) (by kernel_rfl) (by kernel_rfl) him
      rcases List.mem_append.1 hy with h1 | h1
      · exact hall y h1
      · rw [List.mem_singleton] at h1; subst h1; exact hbf
    | true =>
      refine code_wp hmx (ro := some l) T3 [.c 10 true] [e.d.ok, beforeB e x.1 = true] .ret (by kernel_rfl) (by kernel_rfl) ⟨he, hbf, trivial⟩ g2 g4.rebase fun r4 w4 a4 hag4 hst4 hF4 hd4 => ?_
      have hk := St.keepsOthers g4 hst4 (by kernel_rfl)
      exact ⟨hk.from _, rfl, ⟨x, by simp, hbf⟩, St.goBack hs (St.take (laH e false) (g4.trans hst4) (by kernel_rfl)) ((g1.trans hag4 (by simp [laH])).trans (Agree.withO 2 r4 _ _) (Nat.le_refl _)) (by kernel_rfl) (by kernel_rfl) him⟩
  case done =>
    rintro D xs W hD hS ⟨hs, hall⟩ hk
    have hm := hs.more (by kernel_rfl) (D := D) (.raw (.deferred (some []))) rfl hk (hne D hD) (fun hi => by obtain ⟨c, t, f, hc⟩ := hs.hold.imc D hi; rw [hk] at hc; cases hc) (by have := hb2.size; show w.heap.size ≤ D; omega)
    have hF' : FrameOk (bump r2 2 D) (laF e x0 x1 x2) { a2 with defers := { target := .collected D, args := #[] } :: a2.defers } := FrameOk.agree (n := 2) hF (bump_agree r2 2 D) (by kernel_rfl)
    refine wpIn_seq (reg_wp (pre_wp T3 5 1 [] [] (by kernel_rfl) (by kernel_rfl) trivial hF' hm fun r5 w5 a5 hag5 hst5 hF5 hd5 => wpListIn_end (by kernel_rfl) (wpIn_ret ?_)))
    refine (marksPost 2 (by kernel_rfl) (by kernel_rfl) (v := .b true) (by kernel_rfl) hF5 hst5 ?_ fun W' hst' => ⟨?_, hst'.belowR⟩).1
    · rw [hd5, hd, hag5.at 2 (by kernel_rfl)]
      simp [bump]
    · have : lastB e (aboutL L who v) = true := by
        simp only [lastB, Bool.not_eq_true', List.any_eq_false, Bool.not_eq_true]
        intro x hx
        obtain ⟨y, hy, rfl⟩ := List.mem_map.1 (hS.mem_iff.2 hx)
        exact hall y hy
      rw [this]; rfl
  case stop =>
    rintro D c pre W hD hSp ⟨rfl, ⟨x, hx, hbx⟩, hs⟩ hk
    have hm := hs.more (by kernel_rfl) (D := D) (.raw (.deferred (some []))) rfl hk (hne D hD) (fun hi => by obtain ⟨c, t, f, hc⟩ := hs.hold.imc D hi; rw [hk] at hc; cases hc) (by have := hb2.size; show w.heap.size ≤ D; omega)
    have hF' : FrameOk (bump r2 2 D) (laF e x0 x1 x2) { a2 with defers := { target := .collected D, args := #[] } :: a2.defers } := FrameOk.agree (n := 2) hF (bump_agree r2 2 D) (by kernel_rfl)
    refine wpIn_ret ?_
    refine (marksPost 2 (by kernel_rfl) (by kernel_rfl) (v := .b false) (by kernel_rfl) hF' hm ?_ fun W' hst' => ⟨?_, hst'.belowR⟩).1
    · rw [hd]
      simp [bump]
    · have : lastB e (aboutL L who v) = false := by
        simp only [lastB, Bool.not_eq_false', List.any_eq_true]
        exact ⟨x.1, hSp x hx, hbx⟩
      rw [this]; rfl
  case _ => rw [hF.eval]; rfl

end Go.Proofs.Ytodcebpdmjdplaa

namespace Go.Proofs.Ytodcebpdmjdplaa
open Go.RowKit

/-- A book: its block, its map. -/
def bookAt (H : AH) (x : AV) : Option (Nat × Nat × Obj) :=
  match x with
  | .tv (.one (.ptr i 0)) => match H[i]? with
    | some (.cells [.mp j] t, _) => cond (Nat.beq t 65) (match H[j]? with
      | some (.raw o, _) => some (i, j, o)
      | _ => none) none
    | _ => none
  | _ => none

theorem bookAt_eq {H : AH} {x : AV} {i j : Nat} {o : Obj} (h : bookAt H x = some (i, j, o)) : x = .c (.ptr i 0) ∧ (∃ f, H[i]? = some (.cells [.mp j] 65, f)) ∧ ∃ f, H[j]? = some (.raw o, f) := by
  unfold bookAt at h
  split at h
  · split at h
    · rename_i hi
      rename_i j' t f
      cases ht : Nat.beq t 65 with
      | false => simp [ht] at h
      | true =>
        obtain rfl := Nat.eq_of_beq_eq_true ht
        simp only [ht, cond_true] at h
        split at h
        · rename_i hj; simp at h; obtain ⟨rfl, rfl, rfl⟩ := h; exact ⟨rfl, ⟨_, hi⟩, _, hj⟩
        · simp at h
    · simp at h
  · simp at h

def abHs (o : Obj) : AH := [(.cells [.mp 1] 65, 0), (.raw o, 0)]
theorem about_ctr (o : Obj) (who : Int) (v : Vec) : Ctr Try.prog 29 [.c (.ptr 0 0), .r (.int .u8 who), v.av] (abHs o) (.c (.clo 40 [(2, 0), (3, 0), (4, 0)]))
    (abHs o ++ [(.cells [.ptr 0 0] 32, 1), (.cells [.rig (.int .u8 who)] 5, 1), (.cells v.cvs 27, 1)]) :=
  ctr_run hmx T0 [] _ (.c (.clo 40 [(2, 0), (3, 0), (4, 0)])) [] (by kernel_rfl) (by kernel_rfl) trivial [0, 1, 2, 3, 4] [0, 1, 2, 3, 4] (by kernel_rfl) (by kernel_rfl) (by kernel_rfl) (by kernel_rfl)

def aboutE (args : List AV) (H : AH) : Option (AV × List (Nat × AO) × List AO × Option Prop) :=
  match args with
  | [.tv (.one (.ptr i 0)), .tv (.one (.rig (.int .u8 who))), .tv (.agg l)] => match bookAt H (.c (.ptr i 0)), vecOf l with
    | some (_, j, o), some v => cond (fewB H [i, j] [i, j] (abHs o)) (some (.c (.clo 40 [(H.length, 0), (H.length + 1, 0), (H.length + 2, 0)]), [], [.cells [.ptr i 0] 32, .cells [.rig (.int .u8 who)] 5, .cells v.cvs 27], none)) none
    | _, _ => none
  | _ => none

theorem aboutE_ok {args : List AV} {H : AH} {v : AV} {upd : List (Nat × AO)} {new : List AO} {pr : Option Prop} (h : aboutE args H = some (v, upd, new, pr)) (r : Gh) (W0 : Base) (w : World) (hst : St r H W0 w) (hsc : H.scB = true) :
    Calls Try.prog 29 (args.map (AV.conc r)).toArray w fun e w' => ∃ r', Agree H.length r r' ∧ e = .returned (v.conc r') ∧ St r' (moveH H upd new) W0 w' := by
  unfold aboutE at h
  split at h
  · rename_i i who l
    split at h
    · rename_i j o x hb hv
      rename_i i'
      cases hf : fewB H [i, j] [i, j] (abHs o) with
      | false => simp [hf] at h
      | true =>
        simp only [hf, cond_true, Option.some.injEq, Prod.mk.injEq] at h
        obtain ⟨rfl, rfl, rfl, -⟩ := h
        obtain ⟨e, ⟨f1, h1⟩, f2, h2⟩ := bookAt_eq hb
        cases e
        rw [vecOf_eq hv]
        exact (about_ctr o who x).lift hst hsc [i, j] [i, j] hf (by simp [selH, renH, abHs, h1, h2, AO.ren, CV.ren, pick]) (by kernel_rfl) ⟨fun _ => rfl, fun _ => rfl, trivial⟩
    · simp at h
  · simp at h

noncomputable def T4 : CT Try.prog := T3.addE 29 aboutE (by kernel_rfl) fun _ _ _ _ _ _ h _ r W0 w hst _ hsc => aboutE_ok h r W0 w hst hsc

end Go.Proofs.Ytodcebpdmjdplaa
