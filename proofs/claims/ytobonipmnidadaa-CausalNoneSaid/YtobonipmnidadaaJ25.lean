/- Put: its loop: what it hands back. Put. -/
import Derived.Test.YtobonipmnidadaaJ24
namespace Go.Proofs.Ytobonipmnidadaa
open Go.RowKit
set_option maxRecDepth 8000

/-! ### What next does to a buffer -/
theorem u32_in (x : Int) : 0 ≤ IntKind.u32.wrap x ∧ IntKind.u32.wrap x < 4294967296 := by
  simp [IntKind.wrap, IntKind.bits, IntKind.signed]; omega
theorem vec_ok8 {v : Vec} (h0 : 0 ≤ v.x0 ∧ v.x0 < 4294967296) (h1 : 0 ≤ v.x1 ∧ v.x1 < 4294967296) (h2 : 0 ≤ v.x2 ∧ v.x2 < 4294967296) (h3 : 0 ≤ v.x3 ∧ v.x3 < 4294967296) (h4 : 0 ≤ v.x4 ∧ v.x4 < 4294967296) (h5 : 0 ≤ v.x5 ∧ v.x5 < 4294967296) (h6 : 0 ≤ v.x6 ∧ v.x6 < 4294967296) (h7 : 0 ≤ v.x7 ∧ v.x7 < 4294967296) : v.ok := by
  constructor <;> intro i
  · match i with
    | 0 => exact h0.1
    | 1 => exact h1.1
    | 2 => exact h2.1
    | 3 => exact h3.1
    | 4 => exact h4.1
    | 5 => exact h5.1
    | 6 => exact h6.1
    | 7 => exact h7.1
    | i + 8 => exact Int.le_refl 0
  · match i with
    | 0 => exact h0.2
    | 1 => exact h1.2
    | 2 => exact h2.2
    | 3 => exact h3.2
    | 4 => exact h4.2
    | 5 => exact h5.2
    | 6 => exact h6.2
    | 7 => exact h7.2
    | i + 8 => exact (by decide : (0 : Int) < 4294967296)
theorem vecBnd {v : Vec} (h : v.ok) (i : Nat) : 0 ≤ v.get i ∧ v.get i < 4294967296 := ⟨h.ge i, h.lt i⟩
theorem bumpV_ok {v : Vec} (h : v.ok) (k : Nat) : (bumpV v k).ok := by
  have h0 : 0 ≤ v.x0 ∧ v.x0 < 4294967296 := vecBnd h 0
  have h1 : 0 ≤ v.x1 ∧ v.x1 < 4294967296 := vecBnd h 1
  have h2 : 0 ≤ v.x2 ∧ v.x2 < 4294967296 := vecBnd h 2
  have h3 : 0 ≤ v.x3 ∧ v.x3 < 4294967296 := vecBnd h 3
  have h4 : 0 ≤ v.x4 ∧ v.x4 < 4294967296 := vecBnd h 4
  have h5 : 0 ≤ v.x5 ∧ v.x5 < 4294967296 := vecBnd h 5
  have h6 : 0 ≤ v.x6 ∧ v.x6 < 4294967296 := vecBnd h 6
  have h7 : 0 ≤ v.x7 ∧ v.x7 < 4294967296 := vecBnd h 7
  match k with
  | 0 => exact vec_ok8 (u32_in _) h1 h2 h3 h4 h5 h6 h7
  | 1 => exact vec_ok8 h0 (u32_in _) h2 h3 h4 h5 h6 h7
  | 2 => exact vec_ok8 h0 h1 (u32_in _) h3 h4 h5 h6 h7
  | 3 => exact vec_ok8 h0 h1 h2 (u32_in _) h4 h5 h6 h7
  | 4 => exact vec_ok8 h0 h1 h2 h3 (u32_in _) h5 h6 h7
  | 5 => exact vec_ok8 h0 h1 h2 h3 h4 (u32_in _) h6 h7
  | 6 => exact vec_ok8 h0 h1 h2 h3 h4 h5 (u32_in _) h7
  | k + 7 => exact vec_ok8 h0 h1 h2 h3 h4 h5 h6 (u32_in _)

theorem drop_sub (E : Wt) (d : Dot) : (dropW E d).Sublist E := List.eraseIdx_sublist _ _
theorem born_sub {E E' : Wt} {n : Nat} (h : BornOk E n) (hs : E'.Sublist E) : BornOk E' n := ⟨fun p hp => h.lt p (hs.subset hp), h.nd.sublist (hs.map _)⟩
theorem drop_len {E : Wt} {e : Ev} (h : e ∈ E.map (·.1)) : (dropW E e.d).length + 1 = E.length := by
  unfold dropW
  have hlt : E.findIdx (isD e.d) < E.length := by
    rw [List.findIdx_lt_length]
    obtain ⟨p, hp, rfl⟩ := List.mem_map.1 h
    exact ⟨p, hp, by simp [isD]⟩
  rw [List.length_eraseIdx_of_lt hlt]
  omega
theorem next_mem {v : Vec} {m : Int} {E : Wt} {e : Ev} (h : nextW v m E = some e) : e ∈ E.map (·.1) := ord_mem (List.mem_of_find?_eq_some h)
theorem stepOk {v : Vec} {m : Int} {E : Wt} {n : Nat} (h : WtOk v E n) : WtOk (stepV v m E) (stepE v m E) n := by
  unfold stepV stepE
  cases hn : nextW v m E with
  | none => exact h
  | some e => exact ⟨born_sub h.born (drop_sub _ _), Nat.le_trans (drop_sub E e.d).length_le h.len, bumpV_ok h.v _, fun p hp => h.ev p ((drop_sub E e.d).subset hp)⟩

/-- What is answered, one behind the other; what is left. -/
def ansF : Nat → Vec → Int → Wt → List Ev × Vec × Int × Wt
  | 0, v, m, E => ([], v, m, E)
  | k + 1, v, m, E => match nextW v m E with
    | none => ([], v, m, E)
    | some e => (e :: (ansF k (bumpV v e.d.a.toNat) (IntKind.i64.wrap (m + 1)) (dropW E e.d)).1, (ansF k (bumpV v e.d.a.toNat) (IntKind.i64.wrap (m + 1)) (dropW E e.d)).2)
theorem ansF_none {v : Vec} {m : Int} {E : Wt} (h : nextW v m E = none) (k : Nat) : ansF k v m E = ([], v, m, E) := by
  cases k with
  | zero => rfl
  | succ k => simp only [ansF, h]
theorem ansF_some {v : Vec} {m : Int} {E : Wt} {e : Ev} (h : nextW v m E = some e) (k : Nat) : ansF (k + 1) v m E = (e :: (ansF k (stepV v m E) (stepM v m E) (stepE v m E)).1, (ansF k (stepV v m E) (stepM v m E) (stepE v m E)).2) := by
  simp only [ansF, h, stepV, stepM, stepE]

/-! ### The loop -/
structure PuS where
  v : Vec
  m : Int
  E : Wt
  n : Nat
  out : List Ev
  k : Nat
noncomputable def puF (e : Ev) (s : PuS) : AF := (((startF (fnOf Try.prog 28) [.c (.ptr 0 0), e.av]).set 8 (.c (.sl 4))).set 9 (.c (.ptr 3 0))).set 10 (.b (stepB s.v s.m s.E))
def puH (s : PuS) : AH := nxB (stepV s.v s.m s.E) (stepM s.v s.m s.E) (stepE s.v s.m s.E) s.n ++ [(.hand, 2), (.cells (stepO s.v s.m s.E).cvs 37, 1), (.abs 4 (.evs s.out), 1)]
structure PuI (T : List Ev × Vec × Int × Wt) (n0 : Nat) (s : PuS) : Prop where
  ok : WtOk s.v s.E s.n
  len : s.E.length ≤ s.k
  room : s.out.length + s.k ≤ 2000
  a1 : s.out ++ (ansF s.k s.v s.m s.E).1 = T.1
  a2 : (ansF s.k s.v s.m s.E).2 = T.2
  nn : s.n = n0

/-- What Put ends with. -/
def puR (r : Gh) (W0 : Base) (c : Int) (out : List Ev) (v : Vec) (m : Int) (E : Wt) (n : Nat) : Ending → World → Prop := fun x w' => ∃ g, Agree 3 r g ∧ x = .returned ((AV.tup [.one (.sl 3), .one (.rig (.int .i64 c))]).conc g) ∧ St g (nxB v m E n ++ [(.hand, 2), (.abs 3 (.evs out), 1)]) W0 w'

theorem puI_next {T : List Ev × Vec × Int × Wt} {n0 : Nat} {s : PuS} (h : PuI T n0 s) (hb : stepB s.v s.m s.E = true) : 1 ≤ s.k ∧ PuI T n0 ⟨stepV s.v s.m s.E, stepM s.v s.m s.E, (wtOf (mapO (stepE s.v s.m s.E) s.n)).1, (wtOf (mapO (stepE s.v s.m s.E) s.n)).2, s.out ++ [stepO s.v s.m s.E], s.k - 1⟩ := by
  obtain ⟨e, he⟩ := Option.isSome_iff_exists.1 hb
  have hl := drop_len (next_mem he)
  have hO : stepO s.v s.m s.E = e := by simp [stepO, he]
  have hE : stepE s.v s.m s.E = dropW s.E e.d := by simp [stepE, he]
  have hk1 : 1 ≤ s.k := by have := h.len; omega
  have hk : s.k = (s.k - 1) + 1 := by omega
  have e1 := h.a1
  have e2 := h.a2
  rw [hk, ansF_some he] at e1 e2
  refine ⟨hk1, ⟨?_, ?_, ?_, ?_, ?_, ?_⟩⟩
  · rw [wtOf_mapO]; exact stepOk h.ok
  · rw [wtOf_mapO, hE]; have := h.len; show (dropW s.E e.d).length ≤ s.k - 1; omega
  · have := h.room; simp; omega
  · rw [wtOf_mapO, hO]; simpa using e1
  · rw [wtOf_mapO]; exact e2
  · rw [wtOf_mapO]; exact h.nn

theorem puI_end {T : List Ev × Vec × Int × Wt} {n0 : Nat} {s : PuS} (h : PuI T n0 s) (hb : stepB s.v s.m s.E = false) : s.out = T.1 ∧ stepV s.v s.m s.E = T.2.1 ∧ stepM s.v s.m s.E = T.2.2.1 ∧ stepE s.v s.m s.E = T.2.2.2 ∧ s.n = n0 := by
  have hn : nextW s.v s.m s.E = none := by simpa [stepB] using hb
  have e1 := h.a1
  have e2 := h.a2
  rw [ansF_none hn] at e1 e2
  have e2' : (s.v, s.m, s.E) = T.2 := e2
  refine ⟨by simpa using e1, ?_, ?_, ?_, h.nn⟩
  · simp [stepV, hn, ← e2']
  · simp [stepM, hn, ← e2']
  · simp [stepE, hn, ← e2']

/-- What follows the loop. -/
theorem put_end {e : Ev} {s : PuS} {T : List Ev × Vec × Int × Wt} {n0 : Nat} {r : Gh} (hs : s.out = T.1 ∧ stepV s.v s.m s.E = T.2.1 ∧ stepM s.v s.m s.E = T.2.2.1 ∧ stepE s.v s.m s.E = T.2.2.2 ∧ s.n = n0) {G : Nat → Value} {g : Gh} {B : Base} {a : Act} {w : World}
    (hF : FrameOk g (maskF [0, 8, 9, 10] (puF e s) G) a) (hag : Agree 3 r g) (hst : St g (puH s) B w) (hd : a.defers = []) : kont none 0 Try.prog (restAt 1 (fnLoop Try.prog 28 0).2) (bodyPost Try.prog (fnOf Try.prog 28) (puR r B 0 T.1 T.2.1 T.2.2.1 T.2.2.2 n0)) .normal a w := by
  obtain ⟨q1, q2, q3, q4, q5⟩ := hs
  refine list_wp hmx (ro := none) TO [] [] .ret (by kernel_rfl) (by kernel_rfl) trivial hF hst fun g1 w1 a1 hag1 hst1 hF1 hd1 => ?_
  refine ret_fin ?_
  obtain ⟨r3, hag3, hren, hst3⟩ := hst1.view 3 [0, 1, 2, 4] [0, 1, 2, 4] (nxB (stepV s.v s.m s.E) (stepM s.v s.m s.E) (stepE s.v s.m s.E) s.n ++ [(.hand, 2), (.abs 3 (.evs s.out), 1)]) (by kernel_rfl) (by kernel_rfl)
  refine (bodyPost_of (v := .tup [.one (.sl 4), .one (.rig (.int .i64 0))]) (by kernel_rfl) hF1 hst1 (hd1.trans hd) ⟨r3, (hag.tr hag1 (by kernel_rfl)).tr hag3 (by kernel_rfl), ?_, ?_⟩).1
  · exact congrArg Ending.returned ((AV.ren_conc hren (v := .tup [.one (.sl 3), .one (.rig (.int .i64 0))]) (by kernel_rfl)).symm ▸ rfl)
  · rw [← q1, ← q2, ← q3, ← q4, ← q5]; exact hst3

theorem put_loop {e : Ev} {T : List Ev × Vec × Int × Wt} {n0 : Nat} {r : Gh} {s0 : PuS} (hi : PuI T n0 s0) {G0 : Nat → Value} {g0 : Gh} {B : Base} {a0 : Act} {w0 : World}
    (hF0 : FrameOk g0 (maskF [0, 8, 9, 10] (puF e s0) G0) a0) (hag0 : Agree 3 r g0) (hst0 : St g0 (puH s0) B w0) (hd0 : a0.defers = []) :
    (Code.loop (fnLoop Try.prog 28 0).1).wpIn (Fw none) 0 Try.prog (kont none 0 Try.prog (fnLoop Try.prog 28 0).2 (bodyPost Try.prog (fnOf Try.prog 28) (puR r B 0 T.1 T.2.1 T.2.2.1 T.2.2.2 n0))) a0 w0 := by
  refine loop_wp (σ := PuS) (n0 := 3) (g0 := g0) (B := B) (ds := []) [0, 8, 9, 10] (puF e) puH (PuI T n0) (fun s => s.k) s0
    ⟨hi, g0, G0, Agree.refl _ _, hF0, hst0, hd0⟩ fun s g G a w hk hag hF hst hd => ?_
  cases h1 : (stepB s.v s.m s.E) with
  | false =>
    refine code_wp hmx (ro := none) TO [Dec.c (80 : Nat) false] [stepB s.v s.m s.E = false] (.exit 1) (by kernel_rfl) (by kernel_rfl) ⟨h1, trivial⟩ hF hst fun g1 w1 a1 hag1 hst1 hF1 hd1 => ?_
    refine exit_out (k' := restAt 1 (fnLoop Try.prog 28 0).2) (by kernel_rfl) ?_
    obtain ⟨-, g2, G2, hag2, hF2, hst2, hd2⟩ := next_inv (σ := Unit) (n0 := 3) (live := [0, 8, 9, 10]) (F := fun _ => puF e s) (H := fun _ => puH s) (inv := fun _ => True) (s' := ()) trivial hag hag1 (by kernel_rfl) hF1 hst1 (hd1.trans hd) (by kernel_rfl) (by kernel_rfl) (by kernel_rfl)
    exact put_end (puI_end hk h1) hF2 (hag0.tr hag2 (by kernel_rfl)) hst2 hd2
  | true =>
    refine code_wp hmx (ro := none) TO [Dec.c (80 : Nat) true] [stepB s.v s.m s.E = true, roomOk (s.out.length + [stepO s.v s.m s.E].length) (56 : Nat), IsWt (mapO (stepE s.v s.m s.E) s.n) ∧ WtOk (stepV s.v s.m s.E) (wtOf (mapO (stepE s.v s.m s.E) s.n)).fst (wtOf (mapO (stepE s.v s.m s.E) s.n)).snd] .norm (by kernel_rfl) (by kernel_rfl) (by refine ⟨h1, ?_, ?_, trivial⟩ <;> (first | (exact ⟨isWt_mapO _ _, (puI_next hk h1).2.ok⟩) | (have := (puI_next hk h1).1; have := hk.room; simp only [roomOk, maxLen, List.length_cons, List.length_nil]; omega))) hF hst fun g1 w1 a1 hag1 hst1 hF1 hd1 => ?_
    obtain ⟨k1, hnx⟩ := puI_next hk h1
    refine ⟨⟨stepV s.v s.m s.E, stepM s.v s.m s.E, (wtOf (mapO (stepE s.v s.m s.E) s.n)).1, (wtOf (mapO (stepE s.v s.m s.E) s.n)).2, s.out ++ [stepO s.v s.m s.E], s.k - 1⟩, ?_, (show s.k - 1 < s.k by omega)⟩
    exact next_view (σ := PuS) (s' := ⟨stepV s.v s.m s.E, stepM s.v s.m s.E, (wtOf (mapO (stepE s.v s.m s.E) s.n)).1, (wtOf (mapO (stepE s.v s.m s.E) s.n)).2, s.out ++ [stepO s.v s.m s.E], s.k - 1⟩) [0, 1, 2, 7, 4] [0, 1, 2, 3, 6] hnx hag hag1 (by kernel_rfl) hF1 hst1 (hd1.trans hd) (by kernel_rfl) (by kernel_rfl) (by kernel_rfl) (by kernel_rfl) (by kernel_rfl)

end Go.Proofs.Ytobonipmnidadaa

namespace Go.Proofs.Ytobonipmnidadaa
open Go.RowKit
set_option maxRecDepth 8000

def poH (v : Vec) (m : Int) (E : Wt) (n : Nat) : AH := nxB v m E n ++ [(.hand, 2)]

def putC (v : Vec) (m : Int) (E : Wt) (e : Ev) : Int :=
  if rightB e = false then 3 else if hasB v e.d = true then 5 else if (findW E e.d).isSome = true then (if gotW E e.d = e then 5 else 11) else if 512 ≤ m then 10 else if 16 ≤ E.length ∧ readyB v e = false then 10 else 0
def putT (v : Vec) (m : Int) (E : Wt) (n : Nat) (e : Ev) : List Ev × Vec × Int × Wt := if putC v m E e = 0 then ansF (E.length + 1) v m (E ++ [(e, n)]) else ([], v, m, E)
def putN (v : Vec) (m : Int) (E : Wt) (n : Nat) (e : Ev) : Nat := if putC v m E e = 0 then n + 1 else n
def poR (r : Gh) (W0 : Base) (v : Vec) (m : Int) (E : Wt) (n : Nat) (e : Ev) : Ending → World → Prop := puR r W0 (putC v m E e) (putT v m E n e).1 (putT v m E n e).2.1 (putT v m E n e).2.2.1 (putT v m E n e).2.2.2 (putN v m E n e)

theorem po_fail {v : Vec} {m : Int} {E : Wt} {n : Nat} {e : Ev} {c : Int} (hc : putC v m E e = c) (h0 : c ≠ 0) {r g : Gh} {H : AH} {W0 : Base} {w : World} (hag : Agree 3 r g) (hst : St g H W0 w) (hH : H.take (poH v m E n).length = poH v m E n) :
    poR r W0 v m E n e (.returned ((AV.tup [.one (.rig (.slice none 0 0)), .one (.rig (.int .i64 c))]).conc g)) w := by
  obtain ⟨g3, hg3, hs3, hst3⟩ := (St.take (poH v m E n) hst hH).nilL KEv (by kernel_rfl)
  unfold poR putT putN
  rw [hc, if_neg h0, if_neg h0]
  have hs3' : g3.s 3 = ⟨none, 0, 0⟩ := hs3
  refine ⟨g3, hag.trans ((Agree.withO 3 g _ _).trans hg3 (Nat.le_refl _)) (Nat.le_refl _), ?_, hst3⟩
  simp [AV.conc, TV.conc, CV.conc, hs3', SV.v]

theorem wt_add {v : Vec} {E : Wt} {n : Nat} (h : WtOk v E n) (hl : E.length ≤ 1000) {e : Ev} (he : e.ok) : WtOk v (E ++ [(e, n)]) (n + 1) := by
  refine ⟨⟨fun p hp => ?_, ?_⟩, by simp; omega, h.v, fun p hp => ?_⟩
  · rcases List.mem_append.1 hp with h1 | h1
    · have := h.born.lt p h1; omega
    · rw [List.mem_singleton] at h1; subst h1; exact Nat.lt_succ_self n
  · rw [List.map_append]
    refine List.nodup_append.2 ⟨h.born.nd, by simp, fun a ha b hb => ?_⟩
    obtain ⟨p, hp, rfl⟩ := List.mem_map.1 ha
    have := h.born.lt p hp
    simp at hb
    omega
  · rcases List.mem_append.1 hp with h1 | h1
    · exact h.ev p h1
    · rw [List.mem_singleton] at h1; subst h1; exact he

theorem putC_zero {v : Vec} {m : Int} {E : Wt} {n : Nat} {e : Ev} (h1 : (!rightB e) = false) (h2 : hasB v e.d = false) (h3 : (findW (wtOf (mapO E n)).1 e.d).isSome = false) (h5 : decide (m ≥ (512 : Int)) = false) (h6 : 16 ≤ E.length → readyB v e = true) : putC v m E e = 0 := by
  rw [wtOf_mapO] at h3
  have h1' : rightB e = true := by simpa using h1
  have h5' : ¬ 512 ≤ m := by simpa using h5
  unfold putC
  rw [if_neg (by simp [h1']), if_neg (by simp [h2]), if_neg (by simp [h3]), if_neg h5', if_neg]
  rintro ⟨a, b⟩
  rw [h6 a] at b; cases b
theorem putC_3 {v : Vec} {m : Int} {E : Wt} {e : Ev} (h1 : (!rightB e) = true) : putC v m E e = 3 := by
  have h1' : rightB e = false := by simpa using h1
  simp [putC, h1']
theorem putC_5 {v : Vec} {m : Int} {E : Wt} {e : Ev} (h1 : (!rightB e) = false) (h2 : hasB v e.d = true) : putC v m E e = 5 := by
  have h1' : rightB e = true := by simpa using h1
  simp [putC, h1', h2]
theorem putC_5b {v : Vec} {m : Int} {E : Wt} {n : Nat} {e : Ev} (h1 : (!rightB e) = false) (h2 : hasB v e.d = false) (h3 : (findW (wtOf (mapO E n)).1 e.d).isSome = true) (h4 : decide (gotW (wtOf (mapO E n)).1 e.d = e) = true) : putC v m E e = 5 := by
  rw [wtOf_mapO] at h3 h4
  have h1' : rightB e = true := by simpa using h1
  have h4' : gotW E e.d = e := of_decide_eq_true h4
  simp [putC, h1', h2, h3, h4']
theorem putC_11 {v : Vec} {m : Int} {E : Wt} {n : Nat} {e : Ev} (h1 : (!rightB e) = false) (h2 : hasB v e.d = false) (h3 : (findW (wtOf (mapO E n)).1 e.d).isSome = true) (h4 : decide (gotW (wtOf (mapO E n)).1 e.d = e) = false) : putC v m E e = 11 := by
  rw [wtOf_mapO] at h3 h4
  have h1' : rightB e = true := by simpa using h1
  have h4' : gotW E e.d ≠ e := of_decide_eq_false h4
  simp [putC, h1', h2, h3, h4']
theorem putC_10 {v : Vec} {m : Int} {E : Wt} {n : Nat} {e : Ev} (h1 : (!rightB e) = false) (h2 : hasB v e.d = false) (h3 : (findW (wtOf (mapO E n)).1 e.d).isSome = false) (h5 : 512 ≤ m ∨ (16 ≤ E.length ∧ readyB v e = false)) : putC v m E e = 10 := by
  rw [wtOf_mapO] at h3
  have h1' : rightB e = true := by simpa using h1
  unfold putC
  rw [if_neg (by simp [h1']), if_neg (by simp [h2]), if_neg (by simp [h3])]
  split
  · rfl
  · rename_i h
    rw [if_pos (h5.resolve_left h)]
noncomputable def poX (E : Wt) (n : Nat) (e : Ev) : Wt × Nat := wtOf (mapO ((wtOf (mapO E n)).1 ++ [(e, (wtOf (mapO E n)).2)]) ((wtOf (mapO E n)).2 + 1))
theorem poX_eq (E : Wt) (n : Nat) (e : Ev) : poX E n e = (E ++ [(e, n)], n + 1) := by simp [poX]
noncomputable def poS (v : Vec) (m : Int) (E : Wt) (n : Nat) (e : Ev) : PuS := ⟨v, m, (poX E n e).1, (poX E n e).2, [], E.length + 1⟩
theorem po_loop {v : Vec} {m : Int} {E : Wt} {n : Nat} (hok : WtOk v E n) (hl : E.length ≤ 1000) {e : Ev} (he : e.ok) (hc : putC v m E e = 0) {r g : Gh} {W0 : Base} {w : World} {a : Act} {F : AF} {H : AH} (hag : Agree 3 r g) (hF : FrameOk g F a) (hst : St g H W0 w) (hd : a.defers = [])
    (k1 : H.scB = true) (k2 : F.scB H.length = true) (k3 : F.getD 8 .undef = .r (.slice none 0 0)) (k4 : Nat.beq (F.set 8 (.c (.sl H.length))).length (puF e (poS v m E n e)).length = true) (k5 : selF [0, 8, 9, 10] (F.set 8 (.c (.sl H.length))) = (selF [0, 8, 9, 10] (puF e (poS v m E n e))).map (AV.ren (pick [0, 1, 2, 5, 6]) (pick [0, 1, 2, 3, 6])))
    (k6 : viewOk 3 (H ++ [(.abs H.length (KEv.toX []), 1)]) [0, 1, 2, 5, 6] [0, 1, 2, 3, 6] (puH (poS v m E n e)) = true) (k7 : selH (H ++ [(.abs H.length (KEv.toX []), 1)]) [0, 1, 2, 5, 6] = renH [0, 1, 2, 5, 6] [0, 1, 2, 3, 6] (puH (poS v m E n e))) (k8 : Nat.ble 3 H.length = true) :
    RX.fin none 0 Try.prog (bodyPost Try.prog (fnOf Try.prog 28) (poR r W0 v m E n e)) a w (.loop (fnLoop Try.prog 28 0).1 (fnLoop Try.prog 28 0).2) := by
  obtain ⟨g3, hg3, hs3, hst3⟩ := hst.nilL KEv k1
  have hF3 := hF.nilL hg3 k2 hs3 8 k3
  have hi : PuI (ansF (E.length + 1) v m (E ++ [(e, n)])) (n + 1) (poS v m E n e) := by
    have hx := poX_eq E n e
    refine ⟨?_, ?_, ?_, ?_, ?_, ?_⟩
    · show WtOk v (poX E n e).1 (poX E n e).2
      rw [hx]; exact wt_add hok hl he
    · show (poX E n e).1.length ≤ E.length + 1
      rw [hx]; simp
    · show 0 + (E.length + 1) ≤ 2000
      omega
    · show [] ++ (ansF (E.length + 1) v m (poX E n e).1).1 = _
      rw [hx]; rfl
    · show (ansF (E.length + 1) v m (poX E n e).1).2 = _
      rw [hx]
    · show (poX E n e).2 = n + 1
      rw [hx]
  obtain ⟨-, g5, G5, hag5, hF5, hst5, hd5⟩ := next_view (σ := PuS) (n0 := 3) (live := [0, 8, 9, 10]) (F := puF e) (H := puH) (inv := fun _ => True) (s' := poS v m E n e) [0, 1, 2, 5, 6] [0, 1, 2, 3, 6] trivial hag hg3 k8 hF3 hst3 hd k4 k5 (by kernel_rfl) k6 k7
  have := put_loop hi hF5 hag5 hst5 hd5
  unfold poR putT putN
  rw [hc, if_pos rfl, if_pos rfl]
  exact this

theorem put_run {v : Vec} {m : Int} {E : Wt} {n : Nat} (hok : WtOk v E n) (hl : E.length ≤ 1000) {e : Ev} (he : e.ok) {r : Gh} {W0 : Base} {w : World} {a : Act} (hF : FrameOk r (startF (fnOf Try.prog 28) [.c (.ptr 0 0), e.av]) a) (hst : St r (poH v m E n) W0 w) (hd : a.defers = []) : (bodyOf Try.prog 28).wpIn (Fw none) 0 Try.prog (bodyPost Try.prog (fnOf Try.prog 28) (poR r W0 v m E n e)) a w := by
  cases h1 : (!rightB e) with
  | false =>
    cases h2 : (hasB v e.d) with
    | false =>
      cases h3 : ((findW (wtOf (mapO E n)).fst e.d).isSome) with
      | false =>
        cases h4 : ((findW (wtOf (mapO E n)).fst e.d).isSome) with
        | false =>
          cases h5 : (decide (m ≥ (512 : Int))) with
          | false =>
            cases h6 : (decide ((↑(List.length (wtOf (mapO E n)).fst) : Int) ≥ (16 : Int))) with
            | false =>
              refine code_wp hmx (ro := none) TO [Dec.c (23 : Nat) false, Dec.s (6008 : Nat) (35 : Nat) false, Dec.s (6010 : Nat) (37 : Nat) false, Dec.c (43 : Nat) false, Dec.s (10006 : Nat) (51 : Nat) false, Dec.s (10013 : Nat) (58 : Nat) false] [IsWt (mapO E n), e.ok, (!rightB e) = false, e.d.ok, hasB v e.d = false, (findW (wtOf (mapO E n)).fst e.d).isSome = false, (findW (wtOf (mapO E n)).fst e.d).isSome = false, decide (m ≥ (512 : Int)) = false, IsWt (mapO E n), decide ((↑(List.length (wtOf (mapO E n)).fst) : Int) ≥ (16 : Int)) = false, IsWt (mapO E n) ∧ findW (wtOf (mapO E n)).fst e.d = none ∧ e.d = e.d, IsWt (mapO ((wtOf (mapO E n)).fst ++ [(e, (wtOf (mapO E n)).snd)]) ((wtOf (mapO E n)).snd + (1 : Nat))) ∧ WtOk v (wtOf (mapO ((wtOf (mapO E n)).fst ++ [(e, (wtOf (mapO E n)).snd)]) ((wtOf (mapO E n)).snd + (1 : Nat)))).fst (wtOf (mapO ((wtOf (mapO E n)).fst ++ [(e, (wtOf (mapO E n)).snd)]) ((wtOf (mapO E n)).snd + (1 : Nat)))).snd] (.loop (fnLoop Try.prog 28 0).1 (fnLoop Try.prog 28 0).2) (by kernel_rfl) (by kernel_rfl) (by refine ⟨?_, ?_, h1, ?_, h2, h3, h4, h5, ?_, h6, ?_, ?_, trivial⟩ <;> (first | (exact isWt_mapO _ _) | exact he | exact he.d | exact ⟨hok.v, he⟩ | (refine ⟨isWt_mapO _ _, ?_, rfl⟩; simpa using h3) | (refine ⟨isWt_mapO _ _, ?_, rfl⟩; simpa using h5) | (refine ⟨isWt_mapO _ _, ?_⟩; simp only [wtOf_mapO]; exact wt_add hok hl he))) hF hst fun g1 w1 a1 hag1 hst1 hF1 hd1 => ?_
              first
              | (rw [h4] at h3; cases h3; done)
              | (rw [h5] at h3; cases h3; done)
              | (have hc := putC_zero (n := n) h1 h2 h3 h5 (fun _ => by simpa using h7)
                 exact po_loop hok hl he hc (hag1.mono (Nat.le_refl 3)) hF1 hst1 (hd1.trans hd) (by kernel_rfl) (by kernel_rfl) (by kernel_rfl) (by kernel_rfl) (by kernel_rfl) (by kernel_rfl) (by kernel_rfl) (by kernel_rfl))
              | (have hc := putC_zero (n := n) h1 h2 h3 h5 (fun hx => by rw [wtOf_mapO] at h6; simp at h6; omega)
                 exact po_loop hok hl he hc (hag1.mono (Nat.le_refl 3)) hF1 hst1 (hd1.trans hd) (by kernel_rfl) (by kernel_rfl) (by kernel_rfl) (by kernel_rfl) (by kernel_rfl) (by kernel_rfl) (by kernel_rfl) (by kernel_rfl))
            | true =>
              cases h7 : (!readyB v e) with
              | false =>
                refine code_wp hmx (ro := none) TO [Dec.c (23 : Nat) false, Dec.s (6008 : Nat) (35 : Nat) false, Dec.s (6010 : Nat) (37 : Nat) false, Dec.c (43 : Nat) false, Dec.s (10006 : Nat) (51 : Nat) false, Dec.s (10013 : Nat) (58 : Nat) true, Dec.c (45 : Nat) false] [IsWt (mapO E n), e.ok, (!rightB e) = false, e.d.ok, hasB v e.d = false, (findW (wtOf (mapO E n)).fst e.d).isSome = false, (findW (wtOf (mapO E n)).fst e.d).isSome = false, decide (m ≥ (512 : Int)) = false, IsWt (mapO E n), decide ((↑(List.length (wtOf (mapO E n)).fst) : Int) ≥ (16 : Int)) = true, v.ok ∧ e.ok, (!readyB v e) = false, IsWt (mapO E n) ∧ findW (wtOf (mapO E n)).fst e.d = none ∧ e.d = e.d, IsWt (mapO ((wtOf (mapO E n)).fst ++ [(e, (wtOf (mapO E n)).snd)]) ((wtOf (mapO E n)).snd + (1 : Nat))) ∧ WtOk v (wtOf (mapO ((wtOf (mapO E n)).fst ++ [(e, (wtOf (mapO E n)).snd)]) ((wtOf (mapO E n)).snd + (1 : Nat)))).fst (wtOf (mapO ((wtOf (mapO E n)).fst ++ [(e, (wtOf (mapO E n)).snd)]) ((wtOf (mapO E n)).snd + (1 : Nat)))).snd] (.loop (fnLoop Try.prog 28 0).1 (fnLoop Try.prog 28 0).2) (by kernel_rfl) (by kernel_rfl) (by refine ⟨?_, ?_, h1, ?_, h2, h3, h4, h5, ?_, h6, ?_, h7, ?_, ?_, trivial⟩ <;> (first | (exact isWt_mapO _ _) | exact he | exact he.d | exact ⟨hok.v, he⟩ | (refine ⟨isWt_mapO _ _, ?_, rfl⟩; simpa using h3) | (refine ⟨isWt_mapO _ _, ?_, rfl⟩; simpa using h5) | (refine ⟨isWt_mapO _ _, ?_⟩; simp only [wtOf_mapO]; exact wt_add hok hl he))) hF hst fun g1 w1 a1 hag1 hst1 hF1 hd1 => ?_
                first
                | (rw [h4] at h3; cases h3; done)
                | (rw [h5] at h3; cases h3; done)
                | (have hc := putC_zero (n := n) h1 h2 h3 h5 (fun _ => by simpa using h7)
                   exact po_loop hok hl he hc (hag1.mono (Nat.le_refl 3)) hF1 hst1 (hd1.trans hd) (by kernel_rfl) (by kernel_rfl) (by kernel_rfl) (by kernel_rfl) (by kernel_rfl) (by kernel_rfl) (by kernel_rfl) (by kernel_rfl))
                | (have hc := putC_zero (n := n) h1 h2 h3 h5 (fun hx => by rw [wtOf_mapO] at h6; simp at h6; omega)
                   exact po_loop hok hl he hc (hag1.mono (Nat.le_refl 3)) hF1 hst1 (hd1.trans hd) (by kernel_rfl) (by kernel_rfl) (by kernel_rfl) (by kernel_rfl) (by kernel_rfl) (by kernel_rfl) (by kernel_rfl) (by kernel_rfl))
              | true =>
                refine code_wp hmx (ro := none) TO [Dec.c (23 : Nat) false, Dec.s (6008 : Nat) (35 : Nat) false, Dec.s (6010 : Nat) (37 : Nat) false, Dec.c (43 : Nat) false, Dec.s (10006 : Nat) (51 : Nat) false, Dec.s (10013 : Nat) (58 : Nat) true, Dec.c (45 : Nat) true] [IsWt (mapO E n), e.ok, (!rightB e) = false, e.d.ok, hasB v e.d = false, (findW (wtOf (mapO E n)).fst e.d).isSome = false, (findW (wtOf (mapO E n)).fst e.d).isSome = false, decide (m ≥ (512 : Int)) = false, IsWt (mapO E n), decide ((↑(List.length (wtOf (mapO E n)).fst) : Int) ≥ (16 : Int)) = true, v.ok ∧ e.ok, (!readyB v e) = true] .ret (by kernel_rfl) (by kernel_rfl) (by refine ⟨?_, ?_, h1, ?_, h2, h3, h4, h5, ?_, h6, ?_, h7, trivial⟩ <;> (first | (exact isWt_mapO _ _) | exact he | exact he.d | exact ⟨hok.v, he⟩ | (refine ⟨isWt_mapO _ _, ?_, rfl⟩; simpa using h3) | (refine ⟨isWt_mapO _ _, ?_, rfl⟩; simpa using h5) | (refine ⟨isWt_mapO _ _, ?_⟩; simp only [wtOf_mapO]; exact wt_add hok hl he))) hF hst fun g1 w1 a1 hag1 hst1 hF1 hd1 => ?_
                refine ret_fin ?_
                first
                | (rw [h4] at h3; cases h3; done)
                | (rw [h5] at h3; cases h3; done)
                | (have hc := putC_3 (v := v) (m := m) (E := E) h1
                   exact (bodyPost_of (v := .tup [.one (.rig (.slice none 0 0)), .one (.rig (.int .i64 3))]) (by kernel_rfl) hF1 hst1 (hd1.trans hd) (po_fail hc (by decide) (hag1.mono (Nat.le_refl 3)) hst1 (by kernel_rfl))).1)
                | (have hc := putC_5 (m := m) (E := E) h1 h2
                   exact (bodyPost_of (v := .tup [.one (.rig (.slice none 0 0)), .one (.rig (.int .i64 5))]) (by kernel_rfl) hF1 hst1 (hd1.trans hd) (po_fail hc (by decide) (hag1.mono (Nat.le_refl 3)) hst1 (by kernel_rfl))).1)
                | (have hc := putC_5b (m := m) (n := n) h1 h2 h3 h4
                   exact (bodyPost_of (v := .tup [.one (.rig (.slice none 0 0)), .one (.rig (.int .i64 5))]) (by kernel_rfl) hF1 hst1 (hd1.trans hd) (po_fail hc (by decide) (hag1.mono (Nat.le_refl 3)) hst1 (by kernel_rfl))).1)
                | (have hc := putC_11 (m := m) (n := n) h1 h2 h3 h4
                   exact (bodyPost_of (v := .tup [.one (.rig (.slice none 0 0)), .one (.rig (.int .i64 11))]) (by kernel_rfl) hF1 hst1 (hd1.trans hd) (po_fail hc (by decide) (hag1.mono (Nat.le_refl 3)) hst1 (by kernel_rfl))).1)
                | (have hc := putC_10 (n := n) h1 h2 h3 (.inl (by simpa using h5))
                   exact (bodyPost_of (v := .tup [.one (.rig (.slice none 0 0)), .one (.rig (.int .i64 10))]) (by kernel_rfl) hF1 hst1 (hd1.trans hd) (po_fail hc (by decide) (hag1.mono (Nat.le_refl 3)) hst1 (by kernel_rfl))).1)
                | (have hc := putC_10 (n := n) h1 h2 h3 (.inr ⟨by have h9 := of_decide_eq_true h6; rw [wtOf_mapO] at h9; simp only [ge_iff_le] at h9; omega, by simpa using h7⟩)
                   exact (bodyPost_of (v := .tup [.one (.rig (.slice none 0 0)), .one (.rig (.int .i64 10))]) (by kernel_rfl) hF1 hst1 (hd1.trans hd) (po_fail hc (by decide) (hag1.mono (Nat.le_refl 3)) hst1 (by kernel_rfl))).1)
                | (have h9 := of_decide_eq_true h6
                   rw [wtOf_mapO] at h9
                   simp only [ge_iff_le] at h9
                   have hc := putC_10 (v := v) (m := m) (n := n) h1 h2 h3 (.inr ⟨by omega, by simpa using h7⟩)
                   exact (bodyPost_of (v := .tup [.one (.rig (.slice none 0 0)), .one (.rig (.int .i64 10))]) (by kernel_rfl) hF1 hst1 (hd1.trans hd) (po_fail hc (by decide) (hag1.mono (Nat.le_refl 3)) hst1 (by kernel_rfl))).1)
          | true =>
            refine code_wp hmx (ro := none) TO [Dec.c (23 : Nat) false, Dec.s (6008 : Nat) (35 : Nat) false, Dec.s (6010 : Nat) (37 : Nat) false, Dec.c (43 : Nat) false, Dec.s (10006 : Nat) (51 : Nat) true] [IsWt (mapO E n), e.ok, (!rightB e) = false, e.d.ok, hasB v e.d = false, (findW (wtOf (mapO E n)).fst e.d).isSome = false, (findW (wtOf (mapO E n)).fst e.d).isSome = false, decide (m ≥ (512 : Int)) = true] .ret (by kernel_rfl) (by kernel_rfl) (by refine ⟨?_, ?_, h1, ?_, h2, h3, h4, h5, trivial⟩ <;> (first | (exact isWt_mapO _ _) | exact he | exact he.d | exact ⟨hok.v, he⟩ | (refine ⟨isWt_mapO _ _, ?_, rfl⟩; simpa using h3) | (refine ⟨isWt_mapO _ _, ?_, rfl⟩; simpa using h5) | (refine ⟨isWt_mapO _ _, ?_⟩; simp only [wtOf_mapO]; exact wt_add hok hl he))) hF hst fun g1 w1 a1 hag1 hst1 hF1 hd1 => ?_
            refine ret_fin ?_
            first
            | (rw [h4] at h3; cases h3; done)
            | (rw [h5] at h3; cases h3; done)
            | (have hc := putC_3 (v := v) (m := m) (E := E) h1
               exact (bodyPost_of (v := .tup [.one (.rig (.slice none 0 0)), .one (.rig (.int .i64 3))]) (by kernel_rfl) hF1 hst1 (hd1.trans hd) (po_fail hc (by decide) (hag1.mono (Nat.le_refl 3)) hst1 (by kernel_rfl))).1)
            | (have hc := putC_5 (m := m) (E := E) h1 h2
               exact (bodyPost_of (v := .tup [.one (.rig (.slice none 0 0)), .one (.rig (.int .i64 5))]) (by kernel_rfl) hF1 hst1 (hd1.trans hd) (po_fail hc (by decide) (hag1.mono (Nat.le_refl 3)) hst1 (by kernel_rfl))).1)
            | (have hc := putC_5b (m := m) (n := n) h1 h2 h3 h4
               exact (bodyPost_of (v := .tup [.one (.rig (.slice none 0 0)), .one (.rig (.int .i64 5))]) (by kernel_rfl) hF1 hst1 (hd1.trans hd) (po_fail hc (by decide) (hag1.mono (Nat.le_refl 3)) hst1 (by kernel_rfl))).1)
            | (have hc := putC_11 (m := m) (n := n) h1 h2 h3 h4
               exact (bodyPost_of (v := .tup [.one (.rig (.slice none 0 0)), .one (.rig (.int .i64 11))]) (by kernel_rfl) hF1 hst1 (hd1.trans hd) (po_fail hc (by decide) (hag1.mono (Nat.le_refl 3)) hst1 (by kernel_rfl))).1)
            | (have hc := putC_10 (n := n) h1 h2 h3 (.inl (by simpa using h5))
               exact (bodyPost_of (v := .tup [.one (.rig (.slice none 0 0)), .one (.rig (.int .i64 10))]) (by kernel_rfl) hF1 hst1 (hd1.trans hd) (po_fail hc (by decide) (hag1.mono (Nat.le_refl 3)) hst1 (by kernel_rfl))).1)
            | (have hc := putC_10 (n := n) h1 h2 h3 (.inr ⟨by have h9 := of_decide_eq_true h6; rw [wtOf_mapO] at h9; simp only [ge_iff_le] at h9; omega, by simpa using h7⟩)
               exact (bodyPost_of (v := .tup [.one (.rig (.slice none 0 0)), .one (.rig (.int .i64 10))]) (by kernel_rfl) hF1 hst1 (hd1.trans hd) (po_fail hc (by decide) (hag1.mono (Nat.le_refl 3)) hst1 (by kernel_rfl))).1)
            | (have h9 := of_decide_eq_true h6
               rw [wtOf_mapO] at h9
               simp only [ge_iff_le] at h9
               have hc := putC_10 (v := v) (m := m) (n := n) h1 h2 h3 (.inr ⟨by omega, by simpa using h7⟩)
               exact (bodyPost_of (v := .tup [.one (.rig (.slice none 0 0)), .one (.rig (.int .i64 10))]) (by kernel_rfl) hF1 hst1 (hd1.trans hd) (po_fail hc (by decide) (hag1.mono (Nat.le_refl 3)) hst1 (by kernel_rfl))).1)
        | true =>
          refine code_wp hmx (ro := none) TO [Dec.c (23 : Nat) false, Dec.s (6008 : Nat) (35 : Nat) false, Dec.s (6010 : Nat) (37 : Nat) false, Dec.c (43 : Nat) true] [IsWt (mapO E n), e.ok, (!rightB e) = false, e.d.ok, hasB v e.d = false, (findW (wtOf (mapO E n)).fst e.d).isSome = false, (findW (wtOf (mapO E n)).fst e.d).isSome = true] .ret (by kernel_rfl) (by kernel_rfl) (by refine ⟨?_, ?_, h1, ?_, h2, h3, h4, trivial⟩ <;> (first | (exact isWt_mapO _ _) | exact he | exact he.d | exact ⟨hok.v, he⟩ | (refine ⟨isWt_mapO _ _, ?_, rfl⟩; simpa using h3) | (refine ⟨isWt_mapO _ _, ?_, rfl⟩; simpa using h5) | (refine ⟨isWt_mapO _ _, ?_⟩; simp only [wtOf_mapO]; exact wt_add hok hl he))) hF hst fun g1 w1 a1 hag1 hst1 hF1 hd1 => ?_
          refine ret_fin ?_
          first
          | (rw [h4] at h3; cases h3; done)
          | (rw [h5] at h3; cases h3; done)
          | (have hc := putC_3 (v := v) (m := m) (E := E) h1
             exact (bodyPost_of (v := .tup [.one (.rig (.slice none 0 0)), .one (.rig (.int .i64 3))]) (by kernel_rfl) hF1 hst1 (hd1.trans hd) (po_fail hc (by decide) (hag1.mono (Nat.le_refl 3)) hst1 (by kernel_rfl))).1)
          | (have hc := putC_5 (m := m) (E := E) h1 h2
             exact (bodyPost_of (v := .tup [.one (.rig (.slice none 0 0)), .one (.rig (.int .i64 5))]) (by kernel_rfl) hF1 hst1 (hd1.trans hd) (po_fail hc (by decide) (hag1.mono (Nat.le_refl 3)) hst1 (by kernel_rfl))).1)
          | (have hc := putC_5b (m := m) (n := n) h1 h2 h3 h4
             exact (bodyPost_of (v := .tup [.one (.rig (.slice none 0 0)), .one (.rig (.int .i64 5))]) (by kernel_rfl) hF1 hst1 (hd1.trans hd) (po_fail hc (by decide) (hag1.mono (Nat.le_refl 3)) hst1 (by kernel_rfl))).1)
          | (have hc := putC_11 (m := m) (n := n) h1 h2 h3 h4
             exact (bodyPost_of (v := .tup [.one (.rig (.slice none 0 0)), .one (.rig (.int .i64 11))]) (by kernel_rfl) hF1 hst1 (hd1.trans hd) (po_fail hc (by decide) (hag1.mono (Nat.le_refl 3)) hst1 (by kernel_rfl))).1)
          | (have hc := putC_10 (n := n) h1 h2 h3 (.inl (by simpa using h5))
             exact (bodyPost_of (v := .tup [.one (.rig (.slice none 0 0)), .one (.rig (.int .i64 10))]) (by kernel_rfl) hF1 hst1 (hd1.trans hd) (po_fail hc (by decide) (hag1.mono (Nat.le_refl 3)) hst1 (by kernel_rfl))).1)
          | (have hc := putC_10 (n := n) h1 h2 h3 (.inr ⟨by have h9 := of_decide_eq_true h6; rw [wtOf_mapO] at h9; simp only [ge_iff_le] at h9; omega, by simpa using h7⟩)
             exact (bodyPost_of (v := .tup [.one (.rig (.slice none 0 0)), .one (.rig (.int .i64 10))]) (by kernel_rfl) hF1 hst1 (hd1.trans hd) (po_fail hc (by decide) (hag1.mono (Nat.le_refl 3)) hst1 (by kernel_rfl))).1)
          | (have h9 := of_decide_eq_true h6
             rw [wtOf_mapO] at h9
             simp only [ge_iff_le] at h9
             have hc := putC_10 (v := v) (m := m) (n := n) h1 h2 h3 (.inr ⟨by omega, by simpa using h7⟩)
             exact (bodyPost_of (v := .tup [.one (.rig (.slice none 0 0)), .one (.rig (.int .i64 10))]) (by kernel_rfl) hF1 hst1 (hd1.trans hd) (po_fail hc (by decide) (hag1.mono (Nat.le_refl 3)) hst1 (by kernel_rfl))).1)
      | true =>
        cases h4 : (decide (gotW (wtOf (mapO E n)).fst e.d = e)) with
        | false =>
          cases h5 : ((findW (wtOf (mapO E n)).fst e.d).isSome) with
          | false =>
            cases h6 : (decide (m ≥ (512 : Int))) with
            | false =>
              cases h7 : (decide ((↑(List.length (wtOf (mapO E n)).fst) : Int) ≥ (16 : Int))) with
              | false =>
                refine code_wp hmx (ro := none) TO [Dec.c (23 : Nat) false, Dec.s (6008 : Nat) (35 : Nat) false, Dec.s (6010 : Nat) (37 : Nat) true, Dec.c (27 : Nat) false, Dec.c (43 : Nat) false, Dec.s (10006 : Nat) (51 : Nat) false, Dec.s (10013 : Nat) (58 : Nat) false] [IsWt (mapO E n), e.ok, (!rightB e) = false, e.d.ok, hasB v e.d = false, (findW (wtOf (mapO E n)).fst e.d).isSome = true, decide (gotW (wtOf (mapO E n)).fst e.d = e) = false, (findW (wtOf (mapO E n)).fst e.d).isSome = false, decide (m ≥ (512 : Int)) = false, IsWt (mapO E n), decide ((↑(List.length (wtOf (mapO E n)).fst) : Int) ≥ (16 : Int)) = false, IsWt (mapO E n) ∧ findW (wtOf (mapO E n)).fst e.d = none ∧ e.d = e.d, IsWt (mapO ((wtOf (mapO E n)).fst ++ [(e, (wtOf (mapO E n)).snd)]) ((wtOf (mapO E n)).snd + (1 : Nat))) ∧ WtOk v (wtOf (mapO ((wtOf (mapO E n)).fst ++ [(e, (wtOf (mapO E n)).snd)]) ((wtOf (mapO E n)).snd + (1 : Nat)))).fst (wtOf (mapO ((wtOf (mapO E n)).fst ++ [(e, (wtOf (mapO E n)).snd)]) ((wtOf (mapO E n)).snd + (1 : Nat)))).snd] (.loop (fnLoop Try.prog 28 0).1 (fnLoop Try.prog 28 0).2) (by kernel_rfl) (by kernel_rfl) (by refine ⟨?_, ?_, h1, ?_, h2, h3, h4, h5, h6, ?_, h7, ?_, ?_, trivial⟩ <;> (first | (exact isWt_mapO _ _) | exact he | exact he.d | exact ⟨hok.v, he⟩ | (refine ⟨isWt_mapO _ _, ?_, rfl⟩; simpa using h3) | (refine ⟨isWt_mapO _ _, ?_, rfl⟩; simpa using h5) | (refine ⟨isWt_mapO _ _, ?_⟩; simp only [wtOf_mapO]; exact wt_add hok hl he))) hF hst fun g1 w1 a1 hag1 hst1 hF1 hd1 => ?_
                first
                | (rw [h4] at h3; cases h3; done)
                | (rw [h5] at h3; cases h3; done)
                | (have hc := putC_zero (n := n) h1 h2 h3 h5 (fun _ => by simpa using h7)
                   exact po_loop hok hl he hc (hag1.mono (Nat.le_refl 3)) hF1 hst1 (hd1.trans hd) (by kernel_rfl) (by kernel_rfl) (by kernel_rfl) (by kernel_rfl) (by kernel_rfl) (by kernel_rfl) (by kernel_rfl) (by kernel_rfl))
                | (have hc := putC_zero (n := n) h1 h2 h3 h5 (fun hx => by rw [wtOf_mapO] at h6; simp at h6; omega)
                   exact po_loop hok hl he hc (hag1.mono (Nat.le_refl 3)) hF1 hst1 (hd1.trans hd) (by kernel_rfl) (by kernel_rfl) (by kernel_rfl) (by kernel_rfl) (by kernel_rfl) (by kernel_rfl) (by kernel_rfl) (by kernel_rfl))
              | true =>
                cases h8 : (!readyB v e) with
                | false =>
                  refine code_wp hmx (ro := none) TO [Dec.c (23 : Nat) false, Dec.s (6008 : Nat) (35 : Nat) false, Dec.s (6010 : Nat) (37 : Nat) true, Dec.c (27 : Nat) false, Dec.c (43 : Nat) false, Dec.s (10006 : Nat) (51 : Nat) false, Dec.s (10013 : Nat) (58 : Nat) true, Dec.c (45 : Nat) false] [IsWt (mapO E n), e.ok, (!rightB e) = false, e.d.ok, hasB v e.d = false, (findW (wtOf (mapO E n)).fst e.d).isSome = true, decide (gotW (wtOf (mapO E n)).fst e.d = e) = false, (findW (wtOf (mapO E n)).fst e.d).isSome = false, decide (m ≥ (512 : Int)) = false, IsWt (mapO E n), decide ((↑(List.length (wtOf (mapO E n)).fst) : Int) ≥ (16 : Int)) = true, v.ok ∧ e.ok, (!readyB v e) = false, IsWt (mapO E n) ∧ findW (wtOf (mapO E n)).fst e.d = none ∧ e.d = e.d, IsWt (mapO ((wtOf (mapO E n)).fst ++ [(e, (wtOf (mapO E n)).snd)]) ((wtOf (mapO E n)).snd + (1 : Nat))) ∧ WtOk v (wtOf (mapO ((wtOf (mapO E n)).fst ++ [(e, (wtOf (mapO E n)).snd)]) ((wtOf (mapO E n)).snd + (1 : Nat)))).fst (wtOf (mapO ((wtOf (mapO E n)).fst ++ [(e, (wtOf (mapO E n)).snd)]) ((wtOf (mapO E n)).snd + (1 : Nat)))).snd] (.loop (fnLoop Try.prog 28 0).1 (fnLoop Try.prog 28 0).2) (by kernel_rfl) (by kernel_rfl) (by refine ⟨?_, ?_, h1, ?_, h2, h3, h4, h5, h6, ?_, h7, ?_, h8, ?_, ?_, trivial⟩ <;> (first | (exact isWt_mapO _ _) | exact he | exact he.d | exact ⟨hok.v, he⟩ | (refine ⟨isWt_mapO _ _, ?_, rfl⟩; simpa using h3) | (refine ⟨isWt_mapO _ _, ?_, rfl⟩; simpa using h5) | (refine ⟨isWt_mapO _ _, ?_⟩; simp only [wtOf_mapO]; exact wt_add hok hl he))) hF hst fun g1 w1 a1 hag1 hst1 hF1 hd1 => ?_
                  first
                  | (rw [h4] at h3; cases h3; done)
                  | (rw [h5] at h3; cases h3; done)
                  | (have hc := putC_zero (n := n) h1 h2 h3 h5 (fun _ => by simpa using h7)
                     exact po_loop hok hl he hc (hag1.mono (Nat.le_refl 3)) hF1 hst1 (hd1.trans hd) (by kernel_rfl) (by kernel_rfl) (by kernel_rfl) (by kernel_rfl) (by kernel_rfl) (by kernel_rfl) (by kernel_rfl) (by kernel_rfl))
                  | (have hc := putC_zero (n := n) h1 h2 h3 h5 (fun hx => by rw [wtOf_mapO] at h6; simp at h6; omega)
                     exact po_loop hok hl he hc (hag1.mono (Nat.le_refl 3)) hF1 hst1 (hd1.trans hd) (by kernel_rfl) (by kernel_rfl) (by kernel_rfl) (by kernel_rfl) (by kernel_rfl) (by kernel_rfl) (by kernel_rfl) (by kernel_rfl))
                | true =>
                  refine code_wp hmx (ro := none) TO [Dec.c (23 : Nat) false, Dec.s (6008 : Nat) (35 : Nat) false, Dec.s (6010 : Nat) (37 : Nat) true, Dec.c (27 : Nat) false, Dec.c (43 : Nat) false, Dec.s (10006 : Nat) (51 : Nat) false, Dec.s (10013 : Nat) (58 : Nat) true, Dec.c (45 : Nat) true] [IsWt (mapO E n), e.ok, (!rightB e) = false, e.d.ok, hasB v e.d = false, (findW (wtOf (mapO E n)).fst e.d).isSome = true, decide (gotW (wtOf (mapO E n)).fst e.d = e) = false, (findW (wtOf (mapO E n)).fst e.d).isSome = false, decide (m ≥ (512 : Int)) = false, IsWt (mapO E n), decide ((↑(List.length (wtOf (mapO E n)).fst) : Int) ≥ (16 : Int)) = true, v.ok ∧ e.ok, (!readyB v e) = true] .ret (by kernel_rfl) (by kernel_rfl) (by refine ⟨?_, ?_, h1, ?_, h2, h3, h4, h5, h6, ?_, h7, ?_, h8, trivial⟩ <;> (first | (exact isWt_mapO _ _) | exact he | exact he.d | exact ⟨hok.v, he⟩ | (refine ⟨isWt_mapO _ _, ?_, rfl⟩; simpa using h3) | (refine ⟨isWt_mapO _ _, ?_, rfl⟩; simpa using h5) | (refine ⟨isWt_mapO _ _, ?_⟩; simp only [wtOf_mapO]; exact wt_add hok hl he))) hF hst fun g1 w1 a1 hag1 hst1 hF1 hd1 => ?_
                  refine ret_fin ?_
                  first
                  | (rw [h4] at h3; cases h3; done)
                  | (rw [h5] at h3; cases h3; done)
                  | (have hc := putC_3 (v := v) (m := m) (E := E) h1
                     exact (bodyPost_of (v := .tup [.one (.rig (.slice none 0 0)), .one (.rig (.int .i64 3))]) (by kernel_rfl) hF1 hst1 (hd1.trans hd) (po_fail hc (by decide) (hag1.mono (Nat.le_refl 3)) hst1 (by kernel_rfl))).1)
                  | (have hc := putC_5 (m := m) (E := E) h1 h2
                     exact (bodyPost_of (v := .tup [.one (.rig (.slice none 0 0)), .one (.rig (.int .i64 5))]) (by kernel_rfl) hF1 hst1 (hd1.trans hd) (po_fail hc (by decide) (hag1.mono (Nat.le_refl 3)) hst1 (by kernel_rfl))).1)
                  | (have hc := putC_5b (m := m) (n := n) h1 h2 h3 h4
                     exact (bodyPost_of (v := .tup [.one (.rig (.slice none 0 0)), .one (.rig (.int .i64 5))]) (by kernel_rfl) hF1 hst1 (hd1.trans hd) (po_fail hc (by decide) (hag1.mono (Nat.le_refl 3)) hst1 (by kernel_rfl))).1)
                  | (have hc := putC_11 (m := m) (n := n) h1 h2 h3 h4
                     exact (bodyPost_of (v := .tup [.one (.rig (.slice none 0 0)), .one (.rig (.int .i64 11))]) (by kernel_rfl) hF1 hst1 (hd1.trans hd) (po_fail hc (by decide) (hag1.mono (Nat.le_refl 3)) hst1 (by kernel_rfl))).1)
                  | (have hc := putC_10 (n := n) h1 h2 h3 (.inl (by simpa using h5))
                     exact (bodyPost_of (v := .tup [.one (.rig (.slice none 0 0)), .one (.rig (.int .i64 10))]) (by kernel_rfl) hF1 hst1 (hd1.trans hd) (po_fail hc (by decide) (hag1.mono (Nat.le_refl 3)) hst1 (by kernel_rfl))).1)
                  | (have hc := putC_10 (n := n) h1 h2 h3 (.inr ⟨by have h9 := of_decide_eq_true h6; rw [wtOf_mapO] at h9; simp only [ge_iff_le] at h9; omega, by simpa using h7⟩)
                     exact (bodyPost_of (v := .tup [.one (.rig (.slice none 0 0)), .one (.rig (.int .i64 10))]) (by kernel_rfl) hF1 hst1 (hd1.trans hd) (po_fail hc (by decide) (hag1.mono (Nat.le_refl 3)) hst1 (by kernel_rfl))).1)
                  | (have h9 := of_decide_eq_true h6
                     rw [wtOf_mapO] at h9
                     simp only [ge_iff_le] at h9
                     have hc := putC_10 (v := v) (m := m) (n := n) h1 h2 h3 (.inr ⟨by omega, by simpa using h7⟩)
                     exact (bodyPost_of (v := .tup [.one (.rig (.slice none 0 0)), .one (.rig (.int .i64 10))]) (by kernel_rfl) hF1 hst1 (hd1.trans hd) (po_fail hc (by decide) (hag1.mono (Nat.le_refl 3)) hst1 (by kernel_rfl))).1)
            | true =>
              refine code_wp hmx (ro := none) TO [Dec.c (23 : Nat) false, Dec.s (6008 : Nat) (35 : Nat) false, Dec.s (6010 : Nat) (37 : Nat) true, Dec.c (27 : Nat) false, Dec.c (43 : Nat) false, Dec.s (10006 : Nat) (51 : Nat) true] [IsWt (mapO E n), e.ok, (!rightB e) = false, e.d.ok, hasB v e.d = false, (findW (wtOf (mapO E n)).fst e.d).isSome = true, decide (gotW (wtOf (mapO E n)).fst e.d = e) = false, (findW (wtOf (mapO E n)).fst e.d).isSome = false, decide (m ≥ (512 : Int)) = true] .ret (by kernel_rfl) (by kernel_rfl) (by refine ⟨?_, ?_, h1, ?_, h2, h3, h4, h5, h6, trivial⟩ <;> (first | (exact isWt_mapO _ _) | exact he | exact he.d | exact ⟨hok.v, he⟩ | (refine ⟨isWt_mapO _ _, ?_, rfl⟩; simpa using h3) | (refine ⟨isWt_mapO _ _, ?_, rfl⟩; simpa using h5) | (refine ⟨isWt_mapO _ _, ?_⟩; simp only [wtOf_mapO]; exact wt_add hok hl he))) hF hst fun g1 w1 a1 hag1 hst1 hF1 hd1 => ?_
              refine ret_fin ?_
              first
              | (rw [h4] at h3; cases h3; done)
              | (rw [h5] at h3; cases h3; done)
              | (have hc := putC_3 (v := v) (m := m) (E := E) h1
                 exact (bodyPost_of (v := .tup [.one (.rig (.slice none 0 0)), .one (.rig (.int .i64 3))]) (by kernel_rfl) hF1 hst1 (hd1.trans hd) (po_fail hc (by decide) (hag1.mono (Nat.le_refl 3)) hst1 (by kernel_rfl))).1)
              | (have hc := putC_5 (m := m) (E := E) h1 h2
                 exact (bodyPost_of (v := .tup [.one (.rig (.slice none 0 0)), .one (.rig (.int .i64 5))]) (by kernel_rfl) hF1 hst1 (hd1.trans hd) (po_fail hc (by decide) (hag1.mono (Nat.le_refl 3)) hst1 (by kernel_rfl))).1)
              | (have hc := putC_5b (m := m) (n := n) h1 h2 h3 h4
                 exact (bodyPost_of (v := .tup [.one (.rig (.slice none 0 0)), .one (.rig (.int .i64 5))]) (by kernel_rfl) hF1 hst1 (hd1.trans hd) (po_fail hc (by decide) (hag1.mono (Nat.le_refl 3)) hst1 (by kernel_rfl))).1)
              | (have hc := putC_11 (m := m) (n := n) h1 h2 h3 h4
                 exact (bodyPost_of (v := .tup [.one (.rig (.slice none 0 0)), .one (.rig (.int .i64 11))]) (by kernel_rfl) hF1 hst1 (hd1.trans hd) (po_fail hc (by decide) (hag1.mono (Nat.le_refl 3)) hst1 (by kernel_rfl))).1)
              | (have hc := putC_10 (n := n) h1 h2 h3 (.inl (by simpa using h5))
                 exact (bodyPost_of (v := .tup [.one (.rig (.slice none 0 0)), .one (.rig (.int .i64 10))]) (by kernel_rfl) hF1 hst1 (hd1.trans hd) (po_fail hc (by decide) (hag1.mono (Nat.le_refl 3)) hst1 (by kernel_rfl))).1)
              | (have hc := putC_10 (n := n) h1 h2 h3 (.inr ⟨by have h9 := of_decide_eq_true h6; rw [wtOf_mapO] at h9; simp only [ge_iff_le] at h9; omega, by simpa using h7⟩)
                 exact (bodyPost_of (v := .tup [.one (.rig (.slice none 0 0)), .one (.rig (.int .i64 10))]) (by kernel_rfl) hF1 hst1 (hd1.trans hd) (po_fail hc (by decide) (hag1.mono (Nat.le_refl 3)) hst1 (by kernel_rfl))).1)
              | (have h9 := of_decide_eq_true h6
                 rw [wtOf_mapO] at h9
                 simp only [ge_iff_le] at h9
                 have hc := putC_10 (v := v) (m := m) (n := n) h1 h2 h3 (.inr ⟨by omega, by simpa using h7⟩)
                 exact (bodyPost_of (v := .tup [.one (.rig (.slice none 0 0)), .one (.rig (.int .i64 10))]) (by kernel_rfl) hF1 hst1 (hd1.trans hd) (po_fail hc (by decide) (hag1.mono (Nat.le_refl 3)) hst1 (by kernel_rfl))).1)
          | true =>
            refine code_wp hmx (ro := none) TO [Dec.c (23 : Nat) false, Dec.s (6008 : Nat) (35 : Nat) false, Dec.s (6010 : Nat) (37 : Nat) true, Dec.c (27 : Nat) false, Dec.c (43 : Nat) true] [IsWt (mapO E n), e.ok, (!rightB e) = false, e.d.ok, hasB v e.d = false, (findW (wtOf (mapO E n)).fst e.d).isSome = true, decide (gotW (wtOf (mapO E n)).fst e.d = e) = false, (findW (wtOf (mapO E n)).fst e.d).isSome = true] .ret (by kernel_rfl) (by kernel_rfl) (by refine ⟨?_, ?_, h1, ?_, h2, h3, h4, h5, trivial⟩ <;> (first | (exact isWt_mapO _ _) | exact he | exact he.d | exact ⟨hok.v, he⟩ | (refine ⟨isWt_mapO _ _, ?_, rfl⟩; simpa using h3) | (refine ⟨isWt_mapO _ _, ?_, rfl⟩; simpa using h5) | (refine ⟨isWt_mapO _ _, ?_⟩; simp only [wtOf_mapO]; exact wt_add hok hl he))) hF hst fun g1 w1 a1 hag1 hst1 hF1 hd1 => ?_
            refine ret_fin ?_
            first
            | (rw [h4] at h3; cases h3; done)
            | (rw [h5] at h3; cases h3; done)
            | (have hc := putC_3 (v := v) (m := m) (E := E) h1
               exact (bodyPost_of (v := .tup [.one (.rig (.slice none 0 0)), .one (.rig (.int .i64 3))]) (by kernel_rfl) hF1 hst1 (hd1.trans hd) (po_fail hc (by decide) (hag1.mono (Nat.le_refl 3)) hst1 (by kernel_rfl))).1)
            | (have hc := putC_5 (m := m) (E := E) h1 h2
               exact (bodyPost_of (v := .tup [.one (.rig (.slice none 0 0)), .one (.rig (.int .i64 5))]) (by kernel_rfl) hF1 hst1 (hd1.trans hd) (po_fail hc (by decide) (hag1.mono (Nat.le_refl 3)) hst1 (by kernel_rfl))).1)
            | (have hc := putC_5b (m := m) (n := n) h1 h2 h3 h4
               exact (bodyPost_of (v := .tup [.one (.rig (.slice none 0 0)), .one (.rig (.int .i64 5))]) (by kernel_rfl) hF1 hst1 (hd1.trans hd) (po_fail hc (by decide) (hag1.mono (Nat.le_refl 3)) hst1 (by kernel_rfl))).1)
            | (have hc := putC_11 (m := m) (n := n) h1 h2 h3 h4
               exact (bodyPost_of (v := .tup [.one (.rig (.slice none 0 0)), .one (.rig (.int .i64 11))]) (by kernel_rfl) hF1 hst1 (hd1.trans hd) (po_fail hc (by decide) (hag1.mono (Nat.le_refl 3)) hst1 (by kernel_rfl))).1)
            | (have hc := putC_10 (n := n) h1 h2 h3 (.inl (by simpa using h5))
               exact (bodyPost_of (v := .tup [.one (.rig (.slice none 0 0)), .one (.rig (.int .i64 10))]) (by kernel_rfl) hF1 hst1 (hd1.trans hd) (po_fail hc (by decide) (hag1.mono (Nat.le_refl 3)) hst1 (by kernel_rfl))).1)
            | (have hc := putC_10 (n := n) h1 h2 h3 (.inr ⟨by have h9 := of_decide_eq_true h6; rw [wtOf_mapO] at h9; simp only [ge_iff_le] at h9; omega, by simpa using h7⟩)
               exact (bodyPost_of (v := .tup [.one (.rig (.slice none 0 0)), .one (.rig (.int .i64 10))]) (by kernel_rfl) hF1 hst1 (hd1.trans hd) (po_fail hc (by decide) (hag1.mono (Nat.le_refl 3)) hst1 (by kernel_rfl))).1)
            | (have h9 := of_decide_eq_true h6
               rw [wtOf_mapO] at h9
               simp only [ge_iff_le] at h9
               have hc := putC_10 (v := v) (m := m) (n := n) h1 h2 h3 (.inr ⟨by omega, by simpa using h7⟩)
               exact (bodyPost_of (v := .tup [.one (.rig (.slice none 0 0)), .one (.rig (.int .i64 10))]) (by kernel_rfl) hF1 hst1 (hd1.trans hd) (po_fail hc (by decide) (hag1.mono (Nat.le_refl 3)) hst1 (by kernel_rfl))).1)
        | true =>
          refine code_wp hmx (ro := none) TO [Dec.c (23 : Nat) false, Dec.s (6008 : Nat) (35 : Nat) false, Dec.s (6010 : Nat) (37 : Nat) true, Dec.c (27 : Nat) true] [IsWt (mapO E n), e.ok, (!rightB e) = false, e.d.ok, hasB v e.d = false, (findW (wtOf (mapO E n)).fst e.d).isSome = true, decide (gotW (wtOf (mapO E n)).fst e.d = e) = true] .ret (by kernel_rfl) (by kernel_rfl) (by refine ⟨?_, ?_, h1, ?_, h2, h3, h4, trivial⟩ <;> (first | (exact isWt_mapO _ _) | exact he | exact he.d | exact ⟨hok.v, he⟩ | (refine ⟨isWt_mapO _ _, ?_, rfl⟩; simpa using h3) | (refine ⟨isWt_mapO _ _, ?_, rfl⟩; simpa using h5) | (refine ⟨isWt_mapO _ _, ?_⟩; simp only [wtOf_mapO]; exact wt_add hok hl he))) hF hst fun g1 w1 a1 hag1 hst1 hF1 hd1 => ?_
          refine ret_fin ?_
          first
          | (rw [h4] at h3; cases h3; done)
          | (rw [h5] at h3; cases h3; done)
          | (have hc := putC_3 (v := v) (m := m) (E := E) h1
             exact (bodyPost_of (v := .tup [.one (.rig (.slice none 0 0)), .one (.rig (.int .i64 3))]) (by kernel_rfl) hF1 hst1 (hd1.trans hd) (po_fail hc (by decide) (hag1.mono (Nat.le_refl 3)) hst1 (by kernel_rfl))).1)
          | (have hc := putC_5 (m := m) (E := E) h1 h2
             exact (bodyPost_of (v := .tup [.one (.rig (.slice none 0 0)), .one (.rig (.int .i64 5))]) (by kernel_rfl) hF1 hst1 (hd1.trans hd) (po_fail hc (by decide) (hag1.mono (Nat.le_refl 3)) hst1 (by kernel_rfl))).1)
          | (have hc := putC_5b (m := m) (n := n) h1 h2 h3 h4
             exact (bodyPost_of (v := .tup [.one (.rig (.slice none 0 0)), .one (.rig (.int .i64 5))]) (by kernel_rfl) hF1 hst1 (hd1.trans hd) (po_fail hc (by decide) (hag1.mono (Nat.le_refl 3)) hst1 (by kernel_rfl))).1)
          | (have hc := putC_11 (m := m) (n := n) h1 h2 h3 h4
             exact (bodyPost_of (v := .tup [.one (.rig (.slice none 0 0)), .one (.rig (.int .i64 11))]) (by kernel_rfl) hF1 hst1 (hd1.trans hd) (po_fail hc (by decide) (hag1.mono (Nat.le_refl 3)) hst1 (by kernel_rfl))).1)
          | (have hc := putC_10 (n := n) h1 h2 h3 (.inl (by simpa using h5))
             exact (bodyPost_of (v := .tup [.one (.rig (.slice none 0 0)), .one (.rig (.int .i64 10))]) (by kernel_rfl) hF1 hst1 (hd1.trans hd) (po_fail hc (by decide) (hag1.mono (Nat.le_refl 3)) hst1 (by kernel_rfl))).1)
          | (have hc := putC_10 (n := n) h1 h2 h3 (.inr ⟨by have h9 := of_decide_eq_true h6; rw [wtOf_mapO] at h9; simp only [ge_iff_le] at h9; omega, by simpa using h7⟩)
             exact (bodyPost_of (v := .tup [.one (.rig (.slice none 0 0)), .one (.rig (.int .i64 10))]) (by kernel_rfl) hF1 hst1 (hd1.trans hd) (po_fail hc (by decide) (hag1.mono (Nat.le_refl 3)) hst1 (by kernel_rfl))).1)
          | (have h9 := of_decide_eq_true h6
             rw [wtOf_mapO] at h9
             simp only [ge_iff_le] at h9
             have hc := putC_10 (v := v) (m := m) (n := n) h1 h2 h3 (.inr ⟨by omega, by simpa using h7⟩)
             exact (bodyPost_of (v := .tup [.one (.rig (.slice none 0 0)), .one (.rig (.int .i64 10))]) (by kernel_rfl) hF1 hst1 (hd1.trans hd) (po_fail hc (by decide) (hag1.mono (Nat.le_refl 3)) hst1 (by kernel_rfl))).1)
    | true =>
      refine code_wp hmx (ro := none) TO [Dec.c (23 : Nat) false, Dec.s (6008 : Nat) (35 : Nat) true] [IsWt (mapO E n), e.ok, (!rightB e) = false, e.d.ok, hasB v e.d = true] .ret (by kernel_rfl) (by kernel_rfl) (by refine ⟨?_, ?_, h1, ?_, h2, trivial⟩ <;> (first | (exact isWt_mapO _ _) | exact he | exact he.d | exact ⟨hok.v, he⟩ | (refine ⟨isWt_mapO _ _, ?_, rfl⟩; simpa using h3) | (refine ⟨isWt_mapO _ _, ?_, rfl⟩; simpa using h5) | (refine ⟨isWt_mapO _ _, ?_⟩; simp only [wtOf_mapO]; exact wt_add hok hl he))) hF hst fun g1 w1 a1 hag1 hst1 hF1 hd1 => ?_
      refine ret_fin ?_
      first
      | (rw [h4] at h3; cases h3; done)
      | (rw [h5] at h3; cases h3; done)
      | (have hc := putC_3 (v := v) (m := m) (E := E) h1
         exact (bodyPost_of (v := .tup [.one (.rig (.slice none 0 0)), .one (.rig (.int .i64 3))]) (by kernel_rfl) hF1 hst1 (hd1.trans hd) (po_fail hc (by decide) (hag1.mono (Nat.le_refl 3)) hst1 (by kernel_rfl))).1)
      | (have hc := putC_5 (m := m) (E := E) h1 h2
         exact (bodyPost_of (v := .tup [.one (.rig (.slice none 0 0)), .one (.rig (.int .i64 5))]) (by kernel_rfl) hF1 hst1 (hd1.trans hd) (po_fail hc (by decide) (hag1.mono (Nat.le_refl 3)) hst1 (by kernel_rfl))).1)
      | (have hc := putC_5b (m := m) (n := n) h1 h2 h3 h4
         exact (bodyPost_of (v := .tup [.one (.rig (.slice none 0 0)), .one (.rig (.int .i64 5))]) (by kernel_rfl) hF1 hst1 (hd1.trans hd) (po_fail hc (by decide) (hag1.mono (Nat.le_refl 3)) hst1 (by kernel_rfl))).1)
      | (have hc := putC_11 (m := m) (n := n) h1 h2 h3 h4
         exact (bodyPost_of (v := .tup [.one (.rig (.slice none 0 0)), .one (.rig (.int .i64 11))]) (by kernel_rfl) hF1 hst1 (hd1.trans hd) (po_fail hc (by decide) (hag1.mono (Nat.le_refl 3)) hst1 (by kernel_rfl))).1)
      | (have hc := putC_10 (n := n) h1 h2 h3 (.inl (by simpa using h5))
         exact (bodyPost_of (v := .tup [.one (.rig (.slice none 0 0)), .one (.rig (.int .i64 10))]) (by kernel_rfl) hF1 hst1 (hd1.trans hd) (po_fail hc (by decide) (hag1.mono (Nat.le_refl 3)) hst1 (by kernel_rfl))).1)
      | (have hc := putC_10 (n := n) h1 h2 h3 (.inr ⟨by have h9 := of_decide_eq_true h6; rw [wtOf_mapO] at h9; simp only [ge_iff_le] at h9; omega, by simpa using h7⟩)
         exact (bodyPost_of (v := .tup [.one (.rig (.slice none 0 0)), .one (.rig (.int .i64 10))]) (by kernel_rfl) hF1 hst1 (hd1.trans hd) (po_fail hc (by decide) (hag1.mono (Nat.le_refl 3)) hst1 (by kernel_rfl))).1)
      | (have h9 := of_decide_eq_true h6
         rw [wtOf_mapO] at h9
         simp only [ge_iff_le] at h9
         have hc := putC_10 (v := v) (m := m) (n := n) h1 h2 h3 (.inr ⟨by omega, by simpa using h7⟩)
         exact (bodyPost_of (v := .tup [.one (.rig (.slice none 0 0)), .one (.rig (.int .i64 10))]) (by kernel_rfl) hF1 hst1 (hd1.trans hd) (po_fail hc (by decide) (hag1.mono (Nat.le_refl 3)) hst1 (by kernel_rfl))).1)
  | true =>
    refine code_wp hmx (ro := none) TO [Dec.c (23 : Nat) true] [IsWt (mapO E n), e.ok, (!rightB e) = true] .ret (by kernel_rfl) (by kernel_rfl) (by refine ⟨?_, ?_, h1, trivial⟩ <;> (first | (exact isWt_mapO _ _) | exact he | exact he.d | exact ⟨hok.v, he⟩ | (refine ⟨isWt_mapO _ _, ?_, rfl⟩; simpa using h3) | (refine ⟨isWt_mapO _ _, ?_, rfl⟩; simpa using h5) | (refine ⟨isWt_mapO _ _, ?_⟩; simp only [wtOf_mapO]; exact wt_add hok hl he))) hF hst fun g1 w1 a1 hag1 hst1 hF1 hd1 => ?_
    refine ret_fin ?_
    first
    | (rw [h4] at h3; cases h3; done)
    | (rw [h5] at h3; cases h3; done)
    | (have hc := putC_3 (v := v) (m := m) (E := E) h1
       exact (bodyPost_of (v := .tup [.one (.rig (.slice none 0 0)), .one (.rig (.int .i64 3))]) (by kernel_rfl) hF1 hst1 (hd1.trans hd) (po_fail hc (by decide) (hag1.mono (Nat.le_refl 3)) hst1 (by kernel_rfl))).1)
    | (have hc := putC_5 (m := m) (E := E) h1 h2
       exact (bodyPost_of (v := .tup [.one (.rig (.slice none 0 0)), .one (.rig (.int .i64 5))]) (by kernel_rfl) hF1 hst1 (hd1.trans hd) (po_fail hc (by decide) (hag1.mono (Nat.le_refl 3)) hst1 (by kernel_rfl))).1)
    | (have hc := putC_5b (m := m) (n := n) h1 h2 h3 h4
       exact (bodyPost_of (v := .tup [.one (.rig (.slice none 0 0)), .one (.rig (.int .i64 5))]) (by kernel_rfl) hF1 hst1 (hd1.trans hd) (po_fail hc (by decide) (hag1.mono (Nat.le_refl 3)) hst1 (by kernel_rfl))).1)
    | (have hc := putC_11 (m := m) (n := n) h1 h2 h3 h4
       exact (bodyPost_of (v := .tup [.one (.rig (.slice none 0 0)), .one (.rig (.int .i64 11))]) (by kernel_rfl) hF1 hst1 (hd1.trans hd) (po_fail hc (by decide) (hag1.mono (Nat.le_refl 3)) hst1 (by kernel_rfl))).1)
    | (have hc := putC_10 (n := n) h1 h2 h3 (.inl (by simpa using h5))
       exact (bodyPost_of (v := .tup [.one (.rig (.slice none 0 0)), .one (.rig (.int .i64 10))]) (by kernel_rfl) hF1 hst1 (hd1.trans hd) (po_fail hc (by decide) (hag1.mono (Nat.le_refl 3)) hst1 (by kernel_rfl))).1)
    | (have hc := putC_10 (n := n) h1 h2 h3 (.inr ⟨by have h9 := of_decide_eq_true h6; rw [wtOf_mapO] at h9; simp only [ge_iff_le] at h9; omega, by simpa using h7⟩)
       exact (bodyPost_of (v := .tup [.one (.rig (.slice none 0 0)), .one (.rig (.int .i64 10))]) (by kernel_rfl) hF1 hst1 (hd1.trans hd) (po_fail hc (by decide) (hag1.mono (Nat.le_refl 3)) hst1 (by kernel_rfl))).1)
    | (have h9 := of_decide_eq_true h6
       rw [wtOf_mapO] at h9
       simp only [ge_iff_le] at h9
       have hc := putC_10 (v := v) (m := m) (n := n) h1 h2 h3 (.inr ⟨by omega, by simpa using h7⟩)
       exact (bodyPost_of (v := .tup [.one (.rig (.slice none 0 0)), .one (.rig (.int .i64 10))]) (by kernel_rfl) hF1 hst1 (hd1.trans hd) (po_fail hc (by decide) (hag1.mono (Nat.le_refl 3)) hst1 (by kernel_rfl))).1)

end Go.Proofs.Ytobonipmnidadaa
