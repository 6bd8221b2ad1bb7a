/- What waits, in order, as a callee makes it; which events are ready, as callees. The next one that is ready: what its walk holds. The next one that is ready: a round, author by author. -/
import Derived.Test.YtobonipmnidadaaJ22
namespace Go.Proofs.Ytobonipmnidadaa
open Go.RowKit
set_option maxRecDepth 8000

def readyQ (args : List AV) (_ : AH) : Option (AV × List Nat × Option Prop) :=
  match args with
  | [.tv (.agg l), .tv (.agg k)] => match vecOf l, evOf k with
    | some v, some e => some (.b (readyB v e), [], some (v.ok ∧ e.ok))
    | _, _ => none
  | _ => none
theorem readyQ_args {args : List AV} {H : AH} {v : AV} {ft : List Nat} {pr : Option Prop} (h : readyQ args H = some (v, ft, pr)) : ∃ x e, args = [x.av, e.av] ∧ v = .b (readyB x e) ∧ pr = some (x.ok ∧ e.ok) := by
  unfold readyQ at h
  split at h
  · split at h
    · rename_i x e hv he
      simp at h
      rw [vecOf_eq hv, evOf_eq he]
      exact ⟨x, e, rfl, h.1.symm, h.2.2.symm⟩
    · simp at h
  · simp at h

/-- A buffer's cells: what they hold. -/
def bufOf : List CV → Option (Vec × Int × Nat)
  | [.rig (.int .u32 a), .rig (.int .u32 b), .rig (.int .u32 c), .rig (.int .u32 d), .rig (.int .u32 e), .rig (.int .u32 f), .rig (.int .u32 g), .rig (.int .u32 h), .rig (.int .i64 m), .mp j] => some (⟨a, b, c, d, e, f, g, h⟩, m, j)
  | _ => none
theorem bufOf_eq {l : List CV} {v : Vec} {m : Int} {j : Nat} (h : bufOf l = some (v, m, j)) : l = v.cvs ++ [.rig (.int .i64 m), .mp j] := by
  unfold bufOf at h; split at h <;> simp at h
  obtain ⟨rfl, rfl, rfl⟩ := h; rfl

def inoHs (v : Vec) (m : Int) (o : Obj) : AH := [(.cells (v.cvs ++ [.rig (.int .i64 m), .mp 1]) 62, 0), (.raw o, 0)]
theorem ino_ctr (v : Vec) (m : Int) (o : Obj) : Ctr Try.prog 41 [.c (.ptr 0 0)] (inoHs v m o) (.c (.clo 46 [(2, 0)])) (inoHs v m o ++ [(.cells [.ptr 0 0] 43, 1)]) :=
  ctr_run hmx TM [] _ (.c (.clo 46 [(2, 0)])) [] (by kernel_rfl) (by kernel_rfl) trivial [0, 1, 2] [0, 1, 2] (by kernel_rfl) (by kernel_rfl) (by kernel_rfl) (by kernel_rfl)

def inoE (args : List AV) (H : AH) : Option (AV × List (Nat × AO) × List AO × Option Prop) :=
  match args with
  | [.tv (.one (.ptr i 0))] => match H[i]? with
    | some (.cells cs t, _) => match bufOf cs with
      | some (v, m, j) => match H[j]? with
        | some (.raw o, _) => cond (Nat.beq t 62 && fewB H [i, j] [i, j] (inoHs v m o)) (some (.c (.clo 46 [(H.length, 0)]), [], [.cells [.ptr i 0] 43], none)) none
        | _ => none
      | none => none
    | _ => none
  | _ => none
theorem inoE_ok {args : List AV} {H : AH} {v : AV} {upd : List (Nat × AO)} {new : List AO} {pr : Option Prop} (h : inoE args H = some (v, upd, new, pr)) (r : Gh) (W0 : Base) (w : World) (hst : St r H W0 w) (hsc : H.scB = true) :
    Calls Try.prog 41 (args.map (AV.conc r)).toArray w fun e w' => ∃ r', Agree H.length r r' ∧ e = .returned (v.conc r') ∧ St r' (moveH H upd new) W0 w' := by
  unfold inoE at h
  split at h
  · rename_i i
    split at h
    · rename_i cs t g hH
      split at h
      · rename_i x m j hb
        split at h
        · rename_i o g' hJ
          cases hf : (Nat.beq t 62 && fewB H [i, j] [i, j] (inoHs x m o)) with
          | false => simp [hf] at h
          | true =>
            simp only [hf, cond_true, Option.some.injEq, Prod.mk.injEq] at h
            obtain ⟨rfl, rfl, rfl, -⟩ := h
            simp only [Bool.and_eq_true, Nat.beq_eq] at hf
            obtain ⟨rfl, hf⟩ := hf
            have hcs := bufOf_eq hb
            subst hcs
            exact (ino_ctr x m o).lift hst hsc [i, j] [i, j] hf (by simp [selH, renH, inoHs, hH, hJ, AO.ren, CV.ren, pick, Vec.cvs]) (by kernel_rfl) ⟨fun _ => rfl, fun _ => rfl, trivial⟩
        · simp at h
      · simp at h
    · simp at h
  · simp at h

noncomputable def TN : CT Try.prog := ((TM.addE 41 inoE (by kernel_rfl) fun _ _ _ _ _ _ h _ r W0 w hst _ hsc => inoE_ok h r W0 w hst hsc).addQ 21 readyQ (by kernel_rfl) fun _ _ _ _ _ h hp r w _ => by
    obtain ⟨x, e, rfl, rfl, rfl⟩ := readyQ_args h
    exact ready_run x e hp.some.2 r w).addQ 22 readyQ (by kernel_rfl) fun _ _ _ _ _ h hp r w _ => by
    obtain ⟨x, e, rfl, rfl, rfl⟩ := readyQ_args h
    exact rready_run x hp.some.1 e hp.some.2 r w

end Go.Proofs.Ytobonipmnidadaa

namespace Go.Proofs.Ytobonipmnidadaa
open Go.RowKit
set_option maxRecDepth 8000

def nxB (v : Vec) (m : Int) (E : Wt) (n : Nat) : AH := [(.cells (v.cvs ++ [.rig (.int .i64 m), .mp 1]) 62, 2), (.raw (mapO E n), 2)]
def nxH (v : Vec) (m : Int) (E : Wt) (n : Nat) (x : Ev) (ok : Bool) : AH := nxB v m E n ++ [(.cells [.ptr 0 0] 43, 1), (.cells x.cvs 37, 1), (.cells [.rig (.bool ok)] 4, 1), (.cells [.ptr 0 0] 43, 1)]
noncomputable def nxF : AF := (((((startF (fnOf Try.prog 39) [.c (.ptr 0 0)]).set 1 (.c (.ptr 2 0))).set 2 (.c (.ptr 3 0))).set 3 (.c (.ptr 4 0))).set 5 (.c (.ptr 0 0))).set 6 (.c (.clo 46 [(5, 0)]))
def bumpV (v : Vec) : Nat → Vec
  | 0 => { v with x0 := IntKind.u32.wrap (v.x0 + 1) }
  | 1 => { v with x1 := IntKind.u32.wrap (v.x1 + 1) }
  | 2 => { v with x2 := IntKind.u32.wrap (v.x2 + 1) }
  | 3 => { v with x3 := IntKind.u32.wrap (v.x3 + 1) }
  | 4 => { v with x4 := IntKind.u32.wrap (v.x4 + 1) }
  | 5 => { v with x5 := IntKind.u32.wrap (v.x5 + 1) }
  | 6 => { v with x6 := IntKind.u32.wrap (v.x6 + 1) }
  | _ => { v with x7 := IntKind.u32.wrap (v.x7 + 1) }
noncomputable def nxBody : Code := .block 1 (.seq (.region 3 (opsAt Try.prog 39 3) true) (.cond (.tmp 20) (.seq (.region 4 (opsAt Try.prog 39 4) true) (.seq (.region 5 (opsAt Try.prog 39 5) true) (.seq (.region 6 (opsAt Try.prog 39 6) false) (.seq (.region 7 (opsAt Try.prog 39 7) false) .ret)))) .skip))
noncomputable def nxK : List KI := [.blk 0, .code (.seq (.region 8 (opsAt Try.prog 39 8) false) .ret)]

end Go.Proofs.Ytobonipmnidadaa

namespace Go.Proofs.Ytobonipmnidadaa
open Go.RowKit
set_option maxRecDepth 8000

theorem nx_take0 {v : Vec} {m : Int} {E : Wt} {n : Nat} {s : Int} {p : Vec} {k : Int} {par : Dot} {ri : Bool} {ch wh rl : Int} (hm : decide (m < 512) = true) (hv : v.ok) (he : (Ev.mk ⟨0, s⟩ p k par ri ch wh rl).ok) (hr : readyB v (Ev.mk ⟨0, s⟩ p k par ri ch wh rl) = true) (hf : (findW E ⟨0, s⟩).isSome = true)
    {ro : Option Nat} {q : Nat} {Q : Exit → Act → World → Prop} {r : Gh} {a : Act} {W0 : Base} {W : World} (hF : FrameOk r ((nxF.set 7 (Ev.mk ⟨0, s⟩ p k par ri ch wh rl).av).set 4 (.c (.ptr 6 0))) a) (hst : St r (nxH v m E n zeroEv false ++ [(.cells (Ev.mk ⟨0, s⟩ p k par ri ch wh rl).cvs 37, 1)]) W0 W)
    (hQ : ∀ r' w' a', Agree 7 r r' → St r' (nxH (bumpV v 0) (IntKind.i64.wrap (m + 1)) (dropW E ⟨0, s⟩) n (Ev.mk ⟨0, s⟩ p k par ri ch wh rl) true ++ [(.cells (Ev.mk ⟨0, s⟩ p k par ri ch wh rl).cvs 37, 1)]) W0 w' → a'.defers = a.defers → Q .ret a' w') : nxBody.wpIn (Fw ro) q Try.prog Q a W := by
  refine code_wp hmx (ro := ro) TN [Dec.s (3006 : Nat) (13 : Nat) true, Dec.c (20 : Nat) true] [decide (m < (512 : Int)) = true, v.ok ∧ (Ev.mk ⟨0, s⟩ p k par ri ch wh rl).ok, readyB v (Ev.mk ⟨0, s⟩ p k par ri ch wh rl) = true, IsWt (mapO E n) ∧ (findW (wtOf (mapO E n)).1 ⟨0, s⟩).isSome = true, (0 : Int) ≤ (0 : Int) ∧ (0 : Int) < ((8 : Nat) : Int), (0 : Int) ≤ (0 : Int) ∧ (0 : Int) < ((8 : Nat) : Int)] .ret (by kernel_rfl) (by kernel_rfl)
    ⟨hm, ⟨hv, he⟩, hr, ⟨isWt_mapO E n, by rw [wtOf_mapO]; exact hf⟩, by decide, by decide, trivial⟩ hF hst fun g w1 a1 hag hst1 hF1 hd1 => hQ g w1 a1 hag ?_ hd1
  have h2 : St g (nxH (bumpV v 0) (IntKind.i64.wrap (m + 1)) (dropW (wtOf (mapO E n)).1 ⟨0, s⟩) (wtOf (mapO E n)).2 (Ev.mk ⟨0, s⟩ p k par ri ch wh rl) true ++ [(.cells (Ev.mk ⟨0, s⟩ p k par ri ch wh rl).cvs 37, 1)]) W0 w1 := hst1.as (by kernel_rfl)
  rw [wtOf_mapO] at h2
  exact h2

theorem nx_take1 {v : Vec} {m : Int} {E : Wt} {n : Nat} {s : Int} {p : Vec} {k : Int} {par : Dot} {ri : Bool} {ch wh rl : Int} (hm : decide (m < 512) = true) (hv : v.ok) (he : (Ev.mk ⟨1, s⟩ p k par ri ch wh rl).ok) (hr : readyB v (Ev.mk ⟨1, s⟩ p k par ri ch wh rl) = true) (hf : (findW E ⟨1, s⟩).isSome = true)
    {ro : Option Nat} {q : Nat} {Q : Exit → Act → World → Prop} {r : Gh} {a : Act} {W0 : Base} {W : World} (hF : FrameOk r ((nxF.set 7 (Ev.mk ⟨1, s⟩ p k par ri ch wh rl).av).set 4 (.c (.ptr 6 0))) a) (hst : St r (nxH v m E n zeroEv false ++ [(.cells (Ev.mk ⟨1, s⟩ p k par ri ch wh rl).cvs 37, 1)]) W0 W)
    (hQ : ∀ r' w' a', Agree 7 r r' → St r' (nxH (bumpV v 1) (IntKind.i64.wrap (m + 1)) (dropW E ⟨1, s⟩) n (Ev.mk ⟨1, s⟩ p k par ri ch wh rl) true ++ [(.cells (Ev.mk ⟨1, s⟩ p k par ri ch wh rl).cvs 37, 1)]) W0 w' → a'.defers = a.defers → Q .ret a' w') : nxBody.wpIn (Fw ro) q Try.prog Q a W := by
  refine code_wp hmx (ro := ro) TN [Dec.s (3006 : Nat) (13 : Nat) true, Dec.c (20 : Nat) true] [decide (m < (512 : Int)) = true, v.ok ∧ (Ev.mk ⟨1, s⟩ p k par ri ch wh rl).ok, readyB v (Ev.mk ⟨1, s⟩ p k par ri ch wh rl) = true, IsWt (mapO E n) ∧ (findW (wtOf (mapO E n)).1 ⟨1, s⟩).isSome = true, (0 : Int) ≤ (1 : Int) ∧ (1 : Int) < ((8 : Nat) : Int), (0 : Int) ≤ (1 : Int) ∧ (1 : Int) < ((8 : Nat) : Int)] .ret (by kernel_rfl) (by kernel_rfl)
    ⟨hm, ⟨hv, he⟩, hr, ⟨isWt_mapO E n, by rw [wtOf_mapO]; exact hf⟩, by decide, by decide, trivial⟩ hF hst fun g w1 a1 hag hst1 hF1 hd1 => hQ g w1 a1 hag ?_ hd1
  have h2 : St g (nxH (bumpV v 1) (IntKind.i64.wrap (m + 1)) (dropW (wtOf (mapO E n)).1 ⟨1, s⟩) (wtOf (mapO E n)).2 (Ev.mk ⟨1, s⟩ p k par ri ch wh rl) true ++ [(.cells (Ev.mk ⟨1, s⟩ p k par ri ch wh rl).cvs 37, 1)]) W0 w1 := hst1.as (by kernel_rfl)
  rw [wtOf_mapO] at h2
  exact h2

theorem nx_take2 {v : Vec} {m : Int} {E : Wt} {n : Nat} {s : Int} {p : Vec} {k : Int} {par : Dot} {ri : Bool} {ch wh rl : Int} (hm : decide (m < 512) = true) (hv : v.ok) (he : (Ev.mk ⟨2, s⟩ p k par ri ch wh rl).ok) (hr : readyB v (Ev.mk ⟨2, s⟩ p k par ri ch wh rl) = true) (hf : (findW E ⟨2, s⟩).isSome = true)
    {ro : Option Nat} {q : Nat} {Q : Exit → Act → World → Prop} {r : Gh} {a : Act} {W0 : Base} {W : World} (hF : FrameOk r ((nxF.set 7 (Ev.mk ⟨2, s⟩ p k par ri ch wh rl).av).set 4 (.c (.ptr 6 0))) a) (hst : St r (nxH v m E n zeroEv false ++ [(.cells (Ev.mk ⟨2, s⟩ p k par ri ch wh rl).cvs 37, 1)]) W0 W)
    (hQ : ∀ r' w' a', Agree 7 r r' → St r' (nxH (bumpV v 2) (IntKind.i64.wrap (m + 1)) (dropW E ⟨2, s⟩) n (Ev.mk ⟨2, s⟩ p k par ri ch wh rl) true ++ [(.cells (Ev.mk ⟨2, s⟩ p k par ri ch wh rl).cvs 37, 1)]) W0 w' → a'.defers = a.defers → Q .ret a' w') : nxBody.wpIn (Fw ro) q Try.prog Q a W := by
  refine code_wp hmx (ro := ro) TN [Dec.s (3006 : Nat) (13 : Nat) true, Dec.c (20 : Nat) true] [decide (m < (512 : Int)) = true, v.ok ∧ (Ev.mk ⟨2, s⟩ p k par ri ch wh rl).ok, readyB v (Ev.mk ⟨2, s⟩ p k par ri ch wh rl) = true, IsWt (mapO E n) ∧ (findW (wtOf (mapO E n)).1 ⟨2, s⟩).isSome = true, (0 : Int) ≤ (2 : Int) ∧ (2 : Int) < ((8 : Nat) : Int), (0 : Int) ≤ (2 : Int) ∧ (2 : Int) < ((8 : Nat) : Int)] .ret (by kernel_rfl) (by kernel_rfl)
    ⟨hm, ⟨hv, he⟩, hr, ⟨isWt_mapO E n, by rw [wtOf_mapO]; exact hf⟩, by decide, by decide, trivial⟩ hF hst fun g w1 a1 hag hst1 hF1 hd1 => hQ g w1 a1 hag ?_ hd1
  have h2 : St g (nxH (bumpV v 2) (IntKind.i64.wrap (m + 1)) (dropW (wtOf (mapO E n)).1 ⟨2, s⟩) (wtOf (mapO E n)).2 (Ev.mk ⟨2, s⟩ p k par ri ch wh rl) true ++ [(.cells (Ev.mk ⟨2, s⟩ p k par ri ch wh rl).cvs 37, 1)]) W0 w1 := hst1.as (by kernel_rfl)
  rw [wtOf_mapO] at h2
  exact h2

theorem nx_take3 {v : Vec} {m : Int} {E : Wt} {n : Nat} {s : Int} {p : Vec} {k : Int} {par : Dot} {ri : Bool} {ch wh rl : Int} (hm : decide (m < 512) = true) (hv : v.ok) (he : (Ev.mk ⟨3, s⟩ p k par ri ch wh rl).ok) (hr : readyB v (Ev.mk ⟨3, s⟩ p k par ri ch wh rl) = true) (hf : (findW E ⟨3, s⟩).isSome = true)
    {ro : Option Nat} {q : Nat} {Q : Exit → Act → World → Prop} {r : Gh} {a : Act} {W0 : Base} {W : World} (hF : FrameOk r ((nxF.set 7 (Ev.mk ⟨3, s⟩ p k par ri ch wh rl).av).set 4 (.c (.ptr 6 0))) a) (hst : St r (nxH v m E n zeroEv false ++ [(.cells (Ev.mk ⟨3, s⟩ p k par ri ch wh rl).cvs 37, 1)]) W0 W)
    (hQ : ∀ r' w' a', Agree 7 r r' → St r' (nxH (bumpV v 3) (IntKind.i64.wrap (m + 1)) (dropW E ⟨3, s⟩) n (Ev.mk ⟨3, s⟩ p k par ri ch wh rl) true ++ [(.cells (Ev.mk ⟨3, s⟩ p k par ri ch wh rl).cvs 37, 1)]) W0 w' → a'.defers = a.defers → Q .ret a' w') : nxBody.wpIn (Fw ro) q Try.prog Q a W := by
  refine code_wp hmx (ro := ro) TN [Dec.s (3006 : Nat) (13 : Nat) true, Dec.c (20 : Nat) true] [decide (m < (512 : Int)) = true, v.ok ∧ (Ev.mk ⟨3, s⟩ p k par ri ch wh rl).ok, readyB v (Ev.mk ⟨3, s⟩ p k par ri ch wh rl) = true, IsWt (mapO E n) ∧ (findW (wtOf (mapO E n)).1 ⟨3, s⟩).isSome = true, (0 : Int) ≤ (3 : Int) ∧ (3 : Int) < ((8 : Nat) : Int), (0 : Int) ≤ (3 : Int) ∧ (3 : Int) < ((8 : Nat) : Int)] .ret (by kernel_rfl) (by kernel_rfl)
    ⟨hm, ⟨hv, he⟩, hr, ⟨isWt_mapO E n, by rw [wtOf_mapO]; exact hf⟩, by decide, by decide, trivial⟩ hF hst fun g w1 a1 hag hst1 hF1 hd1 => hQ g w1 a1 hag ?_ hd1
  have h2 : St g (nxH (bumpV v 3) (IntKind.i64.wrap (m + 1)) (dropW (wtOf (mapO E n)).1 ⟨3, s⟩) (wtOf (mapO E n)).2 (Ev.mk ⟨3, s⟩ p k par ri ch wh rl) true ++ [(.cells (Ev.mk ⟨3, s⟩ p k par ri ch wh rl).cvs 37, 1)]) W0 w1 := hst1.as (by kernel_rfl)
  rw [wtOf_mapO] at h2
  exact h2

theorem nx_take4 {v : Vec} {m : Int} {E : Wt} {n : Nat} {s : Int} {p : Vec} {k : Int} {par : Dot} {ri : Bool} {ch wh rl : Int} (hm : decide (m < 512) = true) (hv : v.ok) (he : (Ev.mk ⟨4, s⟩ p k par ri ch wh rl).ok) (hr : readyB v (Ev.mk ⟨4, s⟩ p k par ri ch wh rl) = true) (hf : (findW E ⟨4, s⟩).isSome = true)
    {ro : Option Nat} {q : Nat} {Q : Exit → Act → World → Prop} {r : Gh} {a : Act} {W0 : Base} {W : World} (hF : FrameOk r ((nxF.set 7 (Ev.mk ⟨4, s⟩ p k par ri ch wh rl).av).set 4 (.c (.ptr 6 0))) a) (hst : St r (nxH v m E n zeroEv false ++ [(.cells (Ev.mk ⟨4, s⟩ p k par ri ch wh rl).cvs 37, 1)]) W0 W)
    (hQ : ∀ r' w' a', Agree 7 r r' → St r' (nxH (bumpV v 4) (IntKind.i64.wrap (m + 1)) (dropW E ⟨4, s⟩) n (Ev.mk ⟨4, s⟩ p k par ri ch wh rl) true ++ [(.cells (Ev.mk ⟨4, s⟩ p k par ri ch wh rl).cvs 37, 1)]) W0 w' → a'.defers = a.defers → Q .ret a' w') : nxBody.wpIn (Fw ro) q Try.prog Q a W := by
  refine code_wp hmx (ro := ro) TN [Dec.s (3006 : Nat) (13 : Nat) true, Dec.c (20 : Nat) true] [decide (m < (512 : Int)) = true, v.ok ∧ (Ev.mk ⟨4, s⟩ p k par ri ch wh rl).ok, readyB v (Ev.mk ⟨4, s⟩ p k par ri ch wh rl) = true, IsWt (mapO E n) ∧ (findW (wtOf (mapO E n)).1 ⟨4, s⟩).isSome = true, (0 : Int) ≤ (4 : Int) ∧ (4 : Int) < ((8 : Nat) : Int), (0 : Int) ≤ (4 : Int) ∧ (4 : Int) < ((8 : Nat) : Int)] .ret (by kernel_rfl) (by kernel_rfl)
    ⟨hm, ⟨hv, he⟩, hr, ⟨isWt_mapO E n, by rw [wtOf_mapO]; exact hf⟩, by decide, by decide, trivial⟩ hF hst fun g w1 a1 hag hst1 hF1 hd1 => hQ g w1 a1 hag ?_ hd1
  have h2 : St g (nxH (bumpV v 4) (IntKind.i64.wrap (m + 1)) (dropW (wtOf (mapO E n)).1 ⟨4, s⟩) (wtOf (mapO E n)).2 (Ev.mk ⟨4, s⟩ p k par ri ch wh rl) true ++ [(.cells (Ev.mk ⟨4, s⟩ p k par ri ch wh rl).cvs 37, 1)]) W0 w1 := hst1.as (by kernel_rfl)
  rw [wtOf_mapO] at h2
  exact h2

theorem nx_take5 {v : Vec} {m : Int} {E : Wt} {n : Nat} {s : Int} {p : Vec} {k : Int} {par : Dot} {ri : Bool} {ch wh rl : Int} (hm : decide (m < 512) = true) (hv : v.ok) (he : (Ev.mk ⟨5, s⟩ p k par ri ch wh rl).ok) (hr : readyB v (Ev.mk ⟨5, s⟩ p k par ri ch wh rl) = true) (hf : (findW E ⟨5, s⟩).isSome = true)
    {ro : Option Nat} {q : Nat} {Q : Exit → Act → World → Prop} {r : Gh} {a : Act} {W0 : Base} {W : World} (hF : FrameOk r ((nxF.set 7 (Ev.mk ⟨5, s⟩ p k par ri ch wh rl).av).set 4 (.c (.ptr 6 0))) a) (hst : St r (nxH v m E n zeroEv false ++ [(.cells (Ev.mk ⟨5, s⟩ p k par ri ch wh rl).cvs 37, 1)]) W0 W)
    (hQ : ∀ r' w' a', Agree 7 r r' → St r' (nxH (bumpV v 5) (IntKind.i64.wrap (m + 1)) (dropW E ⟨5, s⟩) n (Ev.mk ⟨5, s⟩ p k par ri ch wh rl) true ++ [(.cells (Ev.mk ⟨5, s⟩ p k par ri ch wh rl).cvs 37, 1)]) W0 w' → a'.defers = a.defers → Q .ret a' w') : nxBody.wpIn (Fw ro) q Try.prog Q a W := by
  refine code_wp hmx (ro := ro) TN [Dec.s (3006 : Nat) (13 : Nat) true, Dec.c (20 : Nat) true] [decide (m < (512 : Int)) = true, v.ok ∧ (Ev.mk ⟨5, s⟩ p k par ri ch wh rl).ok, readyB v (Ev.mk ⟨5, s⟩ p k par ri ch wh rl) = true, IsWt (mapO E n) ∧ (findW (wtOf (mapO E n)).1 ⟨5, s⟩).isSome = true, (0 : Int) ≤ (5 : Int) ∧ (5 : Int) < ((8 : Nat) : Int), (0 : Int) ≤ (5 : Int) ∧ (5 : Int) < ((8 : Nat) : Int)] .ret (by kernel_rfl) (by kernel_rfl)
    ⟨hm, ⟨hv, he⟩, hr, ⟨isWt_mapO E n, by rw [wtOf_mapO]; exact hf⟩, by decide, by decide, trivial⟩ hF hst fun g w1 a1 hag hst1 hF1 hd1 => hQ g w1 a1 hag ?_ hd1
  have h2 : St g (nxH (bumpV v 5) (IntKind.i64.wrap (m + 1)) (dropW (wtOf (mapO E n)).1 ⟨5, s⟩) (wtOf (mapO E n)).2 (Ev.mk ⟨5, s⟩ p k par ri ch wh rl) true ++ [(.cells (Ev.mk ⟨5, s⟩ p k par ri ch wh rl).cvs 37, 1)]) W0 w1 := hst1.as (by kernel_rfl)
  rw [wtOf_mapO] at h2
  exact h2

theorem nx_take6 {v : Vec} {m : Int} {E : Wt} {n : Nat} {s : Int} {p : Vec} {k : Int} {par : Dot} {ri : Bool} {ch wh rl : Int} (hm : decide (m < 512) = true) (hv : v.ok) (he : (Ev.mk ⟨6, s⟩ p k par ri ch wh rl).ok) (hr : readyB v (Ev.mk ⟨6, s⟩ p k par ri ch wh rl) = true) (hf : (findW E ⟨6, s⟩).isSome = true)
    {ro : Option Nat} {q : Nat} {Q : Exit → Act → World → Prop} {r : Gh} {a : Act} {W0 : Base} {W : World} (hF : FrameOk r ((nxF.set 7 (Ev.mk ⟨6, s⟩ p k par ri ch wh rl).av).set 4 (.c (.ptr 6 0))) a) (hst : St r (nxH v m E n zeroEv false ++ [(.cells (Ev.mk ⟨6, s⟩ p k par ri ch wh rl).cvs 37, 1)]) W0 W)
    (hQ : ∀ r' w' a', Agree 7 r r' → St r' (nxH (bumpV v 6) (IntKind.i64.wrap (m + 1)) (dropW E ⟨6, s⟩) n (Ev.mk ⟨6, s⟩ p k par ri ch wh rl) true ++ [(.cells (Ev.mk ⟨6, s⟩ p k par ri ch wh rl).cvs 37, 1)]) W0 w' → a'.defers = a.defers → Q .ret a' w') : nxBody.wpIn (Fw ro) q Try.prog Q a W := by
  refine code_wp hmx (ro := ro) TN [Dec.s (3006 : Nat) (13 : Nat) true, Dec.c (20 : Nat) true] [decide (m < (512 : Int)) = true, v.ok ∧ (Ev.mk ⟨6, s⟩ p k par ri ch wh rl).ok, readyB v (Ev.mk ⟨6, s⟩ p k par ri ch wh rl) = true, IsWt (mapO E n) ∧ (findW (wtOf (mapO E n)).1 ⟨6, s⟩).isSome = true, (0 : Int) ≤ (6 : Int) ∧ (6 : Int) < ((8 : Nat) : Int), (0 : Int) ≤ (6 : Int) ∧ (6 : Int) < ((8 : Nat) : Int)] .ret (by kernel_rfl) (by kernel_rfl)
    ⟨hm, ⟨hv, he⟩, hr, ⟨isWt_mapO E n, by rw [wtOf_mapO]; exact hf⟩, by decide, by decide, trivial⟩ hF hst fun g w1 a1 hag hst1 hF1 hd1 => hQ g w1 a1 hag ?_ hd1
  have h2 : St g (nxH (bumpV v 6) (IntKind.i64.wrap (m + 1)) (dropW (wtOf (mapO E n)).1 ⟨6, s⟩) (wtOf (mapO E n)).2 (Ev.mk ⟨6, s⟩ p k par ri ch wh rl) true ++ [(.cells (Ev.mk ⟨6, s⟩ p k par ri ch wh rl).cvs 37, 1)]) W0 w1 := hst1.as (by kernel_rfl)
  rw [wtOf_mapO] at h2
  exact h2

theorem nx_take7 {v : Vec} {m : Int} {E : Wt} {n : Nat} {s : Int} {p : Vec} {k : Int} {par : Dot} {ri : Bool} {ch wh rl : Int} (hm : decide (m < 512) = true) (hv : v.ok) (he : (Ev.mk ⟨7, s⟩ p k par ri ch wh rl).ok) (hr : readyB v (Ev.mk ⟨7, s⟩ p k par ri ch wh rl) = true) (hf : (findW E ⟨7, s⟩).isSome = true)
    {ro : Option Nat} {q : Nat} {Q : Exit → Act → World → Prop} {r : Gh} {a : Act} {W0 : Base} {W : World} (hF : FrameOk r ((nxF.set 7 (Ev.mk ⟨7, s⟩ p k par ri ch wh rl).av).set 4 (.c (.ptr 6 0))) a) (hst : St r (nxH v m E n zeroEv false ++ [(.cells (Ev.mk ⟨7, s⟩ p k par ri ch wh rl).cvs 37, 1)]) W0 W)
    (hQ : ∀ r' w' a', Agree 7 r r' → St r' (nxH (bumpV v 7) (IntKind.i64.wrap (m + 1)) (dropW E ⟨7, s⟩) n (Ev.mk ⟨7, s⟩ p k par ri ch wh rl) true ++ [(.cells (Ev.mk ⟨7, s⟩ p k par ri ch wh rl).cvs 37, 1)]) W0 w' → a'.defers = a.defers → Q .ret a' w') : nxBody.wpIn (Fw ro) q Try.prog Q a W := by
  refine code_wp hmx (ro := ro) TN [Dec.s (3006 : Nat) (13 : Nat) true, Dec.c (20 : Nat) true] [decide (m < (512 : Int)) = true, v.ok ∧ (Ev.mk ⟨7, s⟩ p k par ri ch wh rl).ok, readyB v (Ev.mk ⟨7, s⟩ p k par ri ch wh rl) = true, IsWt (mapO E n) ∧ (findW (wtOf (mapO E n)).1 ⟨7, s⟩).isSome = true, (0 : Int) ≤ (7 : Int) ∧ (7 : Int) < ((8 : Nat) : Int), (0 : Int) ≤ (7 : Int) ∧ (7 : Int) < ((8 : Nat) : Int)] .ret (by kernel_rfl) (by kernel_rfl)
    ⟨hm, ⟨hv, he⟩, hr, ⟨isWt_mapO E n, by rw [wtOf_mapO]; exact hf⟩, by decide, by decide, trivial⟩ hF hst fun g w1 a1 hag hst1 hF1 hd1 => hQ g w1 a1 hag ?_ hd1
  have h2 : St g (nxH (bumpV v 7) (IntKind.i64.wrap (m + 1)) (dropW (wtOf (mapO E n)).1 ⟨7, s⟩) (wtOf (mapO E n)).2 (Ev.mk ⟨7, s⟩ p k par ri ch wh rl) true ++ [(.cells (Ev.mk ⟨7, s⟩ p k par ri ch wh rl).cvs 37, 1)]) W0 w1 := hst1.as (by kernel_rfl)
  rw [wtOf_mapO] at h2
  exact h2

/-- A round that takes the event. -/
theorem nx_take {v : Vec} {m : Int} {E : Wt} {n : Nat} {e : Ev} (hm : decide (m < 512) = true) (hv : v.ok) (he : e.ok) (hr : readyB v e = true) (hf : (findW E e.d).isSome = true)
    {ro : Option Nat} {q : Nat} {Q : Exit → Act → World → Prop} {r : Gh} {a : Act} {W0 : Base} {W : World} (hF : FrameOk r ((nxF.set 7 e.av).set 4 (.c (.ptr 6 0))) a) (hst : St r (nxH v m E n zeroEv false ++ [(.cells e.cvs 37, 1)]) W0 W)
    (hQ : ∀ r' w' a', Agree 7 r r' → St r' (nxH (bumpV v e.d.a.toNat) (IntKind.i64.wrap (m + 1)) (dropW E e.d) n e true ++ [(.cells e.cvs 37, 1)]) W0 w' → a'.defers = a.defers → Q .ret a' w') : nxBody.wpIn (Fw ro) q Try.prog Q a W := by
  have h8 : e.d.a < 8 := by
    simp only [readyB, Bool.and_eq_true] at hr
    exact (right_bounds hr.1.1).1
  have h0 := he.d.a0
  obtain ⟨⟨a', s⟩, p, k, par, ri, ch, wh, rl⟩ := e
  simp only at h8 h0
  have h9 : a' = 0 ∨ a' = 1 ∨ a' = 2 ∨ a' = 3 ∨ a' = 4 ∨ a' = 5 ∨ a' = 6 ∨ a' = 7 := by omega
  rcases h9 with rfl | rfl | rfl | rfl | rfl | rfl | rfl | rfl
  · exact nx_take0 hm hv he hr hf hF hst hQ
  · exact nx_take1 hm hv he hr hf hF hst hQ
  · exact nx_take2 hm hv he hr hf hF hst hQ
  · exact nx_take3 hm hv he hr hf hF hst hQ
  · exact nx_take4 hm hv he hr hf hF hst hQ
  · exact nx_take5 hm hv he hr hf hF hst hQ
  · exact nx_take6 hm hv he hr hf hF hst hQ
  · exact nx_take7 hm hv he hr hf hF hst hQ

/-- A round that leaves it. -/
theorem nx_leave {v : Vec} {m : Int} {E : Wt} {n : Nat} {e : Ev} (h : (decide (m < 512) && readyB v e) = false) (hv : v.ok) (he : e.ok)
    {ro : Option Nat} {q : Nat} {Q : Exit → Act → World → Prop} {r : Gh} {a : Act} {W0 : Base} {W : World} (hF : FrameOk r ((nxF.set 7 e.av).set 4 (.c (.ptr 6 0))) a) (hst : St r (List.map (fun (x : AO × Nat) => (x.1, 0)) (nxH v m E n zeroEv false ++ [(AO.cells e.cvs 37, 1)])) W0 W)
    (hQ : ∀ r' w' a', Agree 7 r r' → St r' (List.map (fun (x : AO × Nat) => (x.1, 0)) (nxH v m E n zeroEv false ++ [(AO.cells e.cvs 37, 1)])) W0 w' → a'.defers = a.defers → Q .normal a' w') : nxBody.wpIn (Fw ro) q Try.prog Q a W := by
  cases h1 : decide (m < 512) with
  | false =>
    exact code_wp hmx (ro := ro) TN [Dec.s (3006 : Nat) (13 : Nat) false] [decide (m < (512 : Int)) = false] .norm (by kernel_rfl) (by kernel_rfl) ⟨h1, trivial⟩ hF hst fun g w1 a1 hag hst1 hF1 hd1 => hQ g w1 a1 hag (hst1.as (by kernel_rfl)) hd1
  | true =>
    have h2 : readyB v e = false := by rw [h1] at h; simpa using h
    exact code_wp hmx (ro := ro) TN [Dec.s (3006 : Nat) (13 : Nat) true, Dec.c (20 : Nat) false] [decide (m < (512 : Int)) = true, v.ok ∧ e.ok, readyB v e = false] .norm (by kernel_rfl) (by kernel_rfl) ⟨h1, ⟨hv, he⟩, h2, trivial⟩ hF hst fun g w1 a1 hag hst1 hF1 hd1 => hQ g w1 a1 hag (hst1.as (by kernel_rfl)) hd1

end Go.Proofs.Ytobonipmnidadaa
