/- Put, New, Seen, as callees. New and Seen, as callees. What must be whatever is asked. -/
import Derived.Test.YtobonipmnidadaaJ25
import Derived.Test.YtobonipmnidadaaJ9
namespace Go.Proofs.Ytobonipmnidadaa
open Go.RowKit
set_option maxRecDepth 8000

structure PutIn where
  v : Vec
  m : Int
  E : Wt
  n : Nat
  e : Ev
def PutIn.c (t : PutIn) : Int := putC t.v t.m t.E t.e
def PutIn.out (t : PutIn) : List Ev := (putT t.v t.m t.E t.n t.e).1
def PutIn.x' (t : PutIn) : X := .buf (putT t.v t.m t.E t.n t.e).2.1 (putT t.v t.m t.E t.n t.e).2.2.1 (putT t.v t.m t.E t.n t.e).2.2.2 (putN t.v t.m t.E t.n t.e)
structure PutIn.ok (t : PutIn) : Prop where
  wt : WtOk t.v t.E t.n
  len : t.E.length ≤ 1000
  e : t.e.ok

theorem put_ctr (t : PutIn) (h : t.ok) : Ctr Try.prog 28 [.c (.ptr 0 0), t.e.av] [(.abs 0 (.buf t.v t.m t.E t.n), 2)] (.tup [.one (.sl 1), .one (.rig (.int .i64 t.c))]) [(.abs 0 t.x', 2), (.abs 1 (.evs t.out), 1)] := by
  refine ctr_openC (k := 0) (h := 0) (g := 2) (x := .buf t.v t.m t.E t.n) (x' := t.x') (Hx := bufH t.v t.m t.E t.n) (v' := .tup [.one (.sl 3), .one (.rig (.int .i64 t.c))])
    (Hx' := bufH (putT t.v t.m t.E t.n t.e).2.1 (putT t.v t.m t.E t.n t.e).2.2.1 (putT t.v t.m t.E t.n t.e).2.2.2 (putN t.v t.m t.E t.n t.e)) (H2 := nxB (putT t.v t.m t.E t.n t.e).2.1 (putT t.v t.m t.E t.n t.e).2.2.1 (putT t.v t.m t.E t.n t.e).2.2.2 (putN t.v t.m t.E t.n t.e) ++ [(.hand, 2), (.abs 3 (.evs t.out), 1)])
    rfl (by decide) rfl rfl (by kernel_rfl) (fun r W0 w hst => ?_) [0, 1] [0, 1] (by kernel_rfl) (by kernel_rfl) [0, 3] [0, 3] (by kernel_rfl) (by kernel_rfl) (by kernel_rfl) (by kernel_rfl)
  have hst' : St r (poH t.v t.m t.E t.n) W0 w := hst.as (by kernel_rfl)
  have hh : Calls Try.prog 28 (([.c (.ptr 0 0), t.e.av].map (AV.conc r)).toArray) w (poR r W0 t.v t.m t.E t.n t.e) :=
    (callsFw (ro := none) (n := 0)).1 (callsInStart (fn := fnOf Try.prog 28) (c := bodyOf Try.prog 28) (by kernel_rfl) (by kernel_rfl) fun a0 hF hd => put_run h.wt h.len h.e hF hst' hd)
  exact hh.mono fun x w' hx => hx

def MPut : MethE Try.prog := {
  f := 28
  τ := PutIn
  parse := fun y a => match y, a with
    | .buf v m E n, [.tv (.agg l)] => match evOf l with | some e => some ⟨v, m, E, n, e⟩ | none => none
    | _, _ => none
  x := fun t => .buf t.v t.m t.E t.n
  rest := fun t => [t.e.av]
  v := fun t => .tup [.one (.sl 1), .one (.rig (.int .i64 t.c))]
  x' := PutIn.x'
  new := fun t => [(.abs 1 (.evs t.out), 1)]
  owed := PutIn.ok
  parse_eq := fun {y a t} h => by
    split at h
    · split at h
      · rename_i he; cases h; rw [evOf_eq he]; exact ⟨rfl, rfl⟩
      · cases h
    · cases h
  body := by kernel_rfl
  C := put_ctr }

end Go.Proofs.Ytobonipmnidadaa

namespace Go.Proofs.Ytobonipmnidadaa
open Go.RowKit
set_option maxRecDepth 8000

def vec0 : Vec := ⟨0, 0, 0, 0, 0, 0, 0, 0⟩
theorem new_ctr : Ctr Try.prog 27 [] [] (.c (.ptr 0 0)) [(.abs 0 (.buf vec0 0 [] 0), 1)] :=
  (ctr_raw hmx TO [] (show fnA Try.prog TO 27 [] [] [] = some (.c (.ptr 1 0), [(.raw (mapO [] 0), 1), (.cells (vec0.cvs ++ [.rig (.int .i64 0), .mp 0]) 62, 1)], []) by kernel_rfl) trivial).closed 1 (.buf vec0 0 [] 0) rfl (by kernel_rfl) [1, 0] [1, 0] (by kernel_rfl) (by kernel_rfl) [1] [1] (by kernel_rfl) (by kernel_rfl) rfl rfl

def MNew : MakeE Try.prog := {
  f := 27
  τ := Unit
  parse := fun a => match a with | [] => some () | _ => none
  args := fun _ => []
  v := fun _ => .c (.ptr 0 0)
  new := fun _ => [(.abs 0 (.buf vec0 0 [] 0), 1)]
  owed := fun _ => True
  parse_eq := fun {a t} h => by
    split at h
    · rfl
    · cases h
  body := by kernel_rfl
  C := fun _ _ => new_ctr }

theorem seen_ctr {v : Vec} {m : Int} {E : Wt} {n : Nat} : CtrQ Try.prog 29 [.c (.ptr 0 0)] [(.abs 0 (.buf v m E n), 0)] v.av :=
  ctrQ_meth hmx TO 0 (x := .buf v m E n) (Hx := bufH v m E n) rfl rfl (by kernel_rfl) (by kernel_rfl) [] _ [] (by kernel_rfl) (by kernel_rfl) trivial (by kernel_rfl)

def MSeen : MethQ Try.prog := {
  f := 29
  τ := Vec × Int × Wt × Nat
  parse := fun y a => match y, a with
    | .buf v m E n, [] => some (v, m, E, n)
    | _, _ => none
  x := fun t => .buf t.1 t.2.1 t.2.2.1 t.2.2.2
  rest := fun _ => []
  v := fun t => t.1.av
  owed := fun _ => True
  parse_eq := fun {y a t} h => by
    split at h
    · cases h; exact ⟨rfl, rfl⟩
    · cases h
  body := by kernel_rfl
  C := fun _ _ => seen_ctr }

noncomputable def TP : CT Try.prog := ((TO.addME MPut).addMk MNew).addMQ MSeen

end Go.Proofs.Ytobonipmnidadaa

namespace Go.Proofs.Ytobonipmnidadaa
open Go.RowKit
set_option maxRecDepth 8000

abbrev evE : Ev := ⟨⟨1, 2⟩, ⟨0, 1, 0, 0, 0, 0, 0, 0⟩, 4, ⟨0, 0⟩, false, 0, 0, 0⟩
abbrev evF : Ev := ⟨⟨1, 1⟩, ⟨0, 0, 0, 0, 0, 0, 0, 0⟩, 4, ⟨0, 0⟩, false, 0, 0, 0⟩
theorem vec_ok0 : vec0.ok := vec_ok8 (by decide) (by decide) (by decide) (by decide) (by decide) (by decide) (by decide) (by decide)
theorem dot_ok {a s : Int} (h : 0 ≤ a ∧ a < 256 ∧ 0 ≤ s ∧ s < 4294967296) : (Dot.mk a s).ok := ⟨h.1, h.2.1, h.2.2.1, h.2.2.2⟩
theorem evE_ok : evE.ok := ⟨dot_ok (by decide), vec_ok8 (by decide) (by decide) (by decide) (by decide) (by decide) (by decide) (by decide) (by decide), by decide, by decide, dot_ok (by decide), by decide, by decide, by decide, by decide, by decide, by decide⟩
theorem evF_ok : evF.ok := ⟨dot_ok (by decide), vec_ok0, by decide, by decide, dot_ok (by decide), by decide, by decide, by decide, by decide, by decide, by decide⟩
theorem wt_nil {v : Vec} (h : v.ok) (n : Nat) : WtOk v [] n := ⟨⟨fun p hp => (by cases hp), List.nodup_nil⟩, by decide, h, fun p hp => (by cases hp)⟩
theorem put_okE : (PutIn.mk vec0 0 [] 0 evE).ok := ⟨wt_nil vec_ok0 0, by decide, evE_ok⟩
theorem put_okF : (PutIn.mk (putT vec0 0 [] 0 evE).2.1 (putT vec0 0 [] 0 evE).2.2.1 [(evE, 0)] 1 evF).ok := by
  have hv : (putT vec0 0 [] 0 evE).2.1 = vec0 := by kernel_rfl
  refine ⟨?_, by decide, evF_ok⟩
  show WtOk (putT vec0 0 [] 0 evE).2.1 ([] ++ [(evE, 0)]) (0 + 1)
  rw [hv]
  exact wt_add (wt_nil vec_ok0 0) (by decide) evE_ok

theorem live_sort : sortD (dotsE [(evE, 0), (evF, 1)]) = [evF.d, evE.d] := sorted_one ((sortD_perm _).trans (List.Perm.swap _ _ _)) (sortD_sorted _) (by decide)
theorem live_next : nextW vec0 0 [(evE, 0), (evF, 1)] = some evF := by
  unfold nextW ordE
  rw [live_sort]
  decide +kernel
theorem live_put : putT (putT vec0 0 [] 0 evE).2.1 (putT vec0 0 [] 0 evE).2.2.1 [(evE, 0)] 1 evF = ([evF, evE], ⟨0, 2, 0, 0, 0, 0, 0, 0⟩, 2, []) := by
  rw [show (putT vec0 0 [] 0 evE).2.1 = vec0 by decide +kernel, show (putT vec0 0 [] 0 evE).2.2.1 = 0 by decide +kernel]
  unfold putT
  rw [if_pos (by decide +kernel)]
  show ansF (1 + 1) vec0 0 [(evE, 0), (evF, 1)] = _
  rw [ansF_some live_next]
  have h1 : stepV vec0 0 [(evE, 0), (evF, 1)] = ⟨0, 1, 0, 0, 0, 0, 0, 0⟩ := by unfold stepV; rw [live_next]; decide +kernel
  have h2 : stepM vec0 0 [(evE, 0), (evF, 1)] = 1 := by unfold stepM; rw [live_next]; decide +kernel
  have h3 : stepE vec0 0 [(evE, 0), (evF, 1)] = [(evE, 0)] := by unfold stepE; rw [live_next]; decide +kernel
  rw [h1, h2, h3]
  decide +kernel

theorem live_run (r : Gh) (w : World) : Calls Try.prog 12 ((([] : List AV).map (AV.conc r)).toArray) w fun x w' => x = .returned (.bool true) ∧ Below w.heap.size w w' := by
  cases h1 : (bif     bif         bif             (PutIn.mk vec0 (0 : Int) [] (0 : Nat)                   (Ev.mk (Dot.mk (1 : Int) (2 : Int))                     (Vec.mk (0 : Int) (1 : Int) (0 : Int) (0 : Int) (0 : Int) (0 : Int) (0 : Int) (0 : Int)) (4 : Int)                     (Dot.mk (0 : Int) (0 : Int)) false (0 : Int) (0 : Int) (0 : Int))).c ==               (0 : Int) then           (↑(0 : Nat) : Int) == (0 : Int)         else false then       (PutIn.mk             (putT vec0 (0 : Int) [] (0 : Nat)                   (Ev.mk (Dot.mk (1 : Int) (2 : Int))                     (Vec.mk (0 : Int) (1 : Int) (0 : Int) (0 : Int) (0 : Int) (0 : Int) (0 : Int) (0 : Int)) (4 : Int)                     (Dot.mk (0 : Int) (0 : Int)) false (0 : Int) (0 : Int) (0 : Int))).snd.fst             (putT vec0 (0 : Int) [] (0 : Nat)                     (Ev.mk (Dot.mk (1 : Int) (2 : Int))                       (Vec.mk (0 : Int) (1 : Int) (0 : Int) (0 : Int) (0 : Int) (0 : Int) (0 : Int) (0 : Int)) (4 : Int)                       (Dot.mk (0 : Int) (0 : Int)) false (0 : Int) (0 : Int) (0 : Int))).snd.snd.fst             [(Ev.mk (Dot.mk (1 : Int) (2 : Int))                   (Vec.mk (0 : Int) (1 : Int) (0 : Int) (0 : Int) (0 : Int) (0 : Int) (0 : Int) (0 : Int)) (4 : Int)                   (Dot.mk (0 : Int) (0 : Int)) false (0 : Int) (0 : Int) (0 : Int),                 (0 : Nat))]             (1 : Nat)             (Ev.mk (Dot.mk (1 : Int) (1 : Int))               (Vec.mk (0 : Int) (0 : Int) (0 : Int) (0 : Int) (0 : Int) (0 : Int) (0 : Int) (0 : Int)) (4 : Int)               (Dot.mk (0 : Int) (0 : Int)) false (0 : Int) (0 : Int) (0 : Int))).c ==         (0 : Int)     else false then   (↑(PutIn.mk               (putT vec0 (0 : Int) [] (0 : Nat)                     (Ev.mk (Dot.mk (1 : Int) (2 : Int))                       (Vec.mk (0 : Int) (1 : Int) (0 : Int) (0 : Int) (0 : Int) (0 : Int) (0 : Int) (0 : Int)) (4 : Int)                       (Dot.mk (0 : Int) (0 : Int)) false (0 : Int) (0 : Int) (0 : Int))).snd.fst               (putT vec0 (0 : Int) [] (0 : Nat)                       (Ev.mk (Dot.mk (1 : Int) (2 : Int))                         (Vec.mk (0 : Int) (1 : Int) (0 : Int) (0 : Int) (0 : Int) (0 : Int) (0 : Int) (0 : Int))                         (4 : Int) (Dot.mk (0 : Int) (0 : Int)) false (0 : Int) (0 : Int) (0 : Int))).snd.snd.fst               [(Ev.mk (Dot.mk (1 : Int) (2 : Int))                     (Vec.mk (0 : Int) (1 : Int) (0 : Int) (0 : Int) (0 : Int) (0 : Int) (0 : Int) (0 : Int)) (4 : Int)                     (Dot.mk (0 : Int) (0 : Int)) false (0 : Int) (0 : Int) (0 : Int),                   (0 : Nat))]               (1 : Nat)               (Ev.mk (Dot.mk (1 : Int) (1 : Int))                 (Vec.mk (0 : Int) (0 : Int) (0 : Int) (0 : Int) (0 : Int) (0 : Int) (0 : Int) (0 : Int)) (4 : Int)                 (Dot.mk (0 : Int) (0 : Int)) false (0 : Int) (0 : Int) (0 : Int))).out.length :       Int) ==     (2 : Int) else false) with
  | false =>
    refine fnP_leaf (T := TP) hmx (D := [Dec.s (6017 : Nat) (42 : Nat) false]) (v := Value.bool false) (ps := [True, (PutIn.mk vec0 (0 : Int) [] (0 : Nat) (Ev.mk (Dot.mk (1 : Int) (2 : Int)) (Vec.mk (0 : Int) (1 : Int) (0 : Int) (0 : Int) (0 : Int) (0 : Int) (0 : Int) (0 : Int)) (4 : Int) (Dot.mk (0 : Int) (0 : Int)) false (0 : Int) (0 : Int) (0 : Int))).ok, (PutIn.mk (putT vec0 (0 : Int) [] (0 : Nat) (Ev.mk (Dot.mk (1 : Int) (2 : Int)) (Vec.mk (0 : Int) (1 : Int) (0 : Int) (0 : Int) (0 : Int) (0 : Int) (0 : Int) (0 : Int)) (4 : Int) (Dot.mk (0 : Int) (0 : Int)) false (0 : Int) (0 : Int) (0 : Int))).snd.fst (putT vec0 (0 : Int) [] (0 : Nat) (Ev.mk (Dot.mk (1 : Int) (2 : Int)) (Vec.mk (0 : Int) (1 : Int) (0 : Int) (0 : Int) (0 : Int) (0 : Int) (0 : Int) (0 : Int)) (4 : Int) (Dot.mk (0 : Int) (0 : Int)) false (0 : Int) (0 : Int) (0 : Int))).snd.snd.fst [(Ev.mk (Dot.mk (1 : Int) (2 : Int)) (Vec.mk (0 : Int) (1 : Int) (0 : Int) (0 : Int) (0 : Int) (0 : Int) (0 : Int) (0 : Int)) (4 : Int) (Dot.mk (0 : Int) (0 : Int)) false (0 : Int) (0 : Int) (0 : Int), (0 : Nat))] (1 : Nat) (Ev.mk (Dot.mk (1 : Int) (1 : Int)) (Vec.mk (0 : Int) (0 : Int) (0 : Int) (0 : Int) (0 : Int) (0 : Int) (0 : Int) (0 : Int)) (4 : Int) (Dot.mk (0 : Int) (0 : Int)) false (0 : Int) (0 : Int) (0 : Int))).ok, (bif bif bif (PutIn.mk vec0 (0 : Int) [] (0 : Nat) (Ev.mk (Dot.mk (1 : Int) (2 : Int)) (Vec.mk (0 : Int) (1 : Int) (0 : Int) (0 : Int) (0 : Int) (0 : Int) (0 : Int) (0 : Int)) (4 : Int) (Dot.mk (0 : Int) (0 : Int)) false (0 : Int) (0 : Int) (0 : Int))).c == (0 : Int) then (↑(0 : Nat) : Int) == (0 : Int) else false then (PutIn.mk (putT vec0 (0 : Int) [] (0 : Nat) (Ev.mk (Dot.mk (1 : Int) (2 : Int)) (Vec.mk (0 : Int) (1 : Int) (0 : Int) (0 : Int) (0 : Int) (0 : Int) (0 : Int) (0 : Int)) (4 : Int) (Dot.mk (0 : Int) (0 : Int)) false (0 : Int) (0 : Int) (0 : Int))).snd.fst (putT vec0 (0 : Int) [] (0 : Nat) (Ev.mk (Dot.mk (1 : Int) (2 : Int)) (Vec.mk (0 : Int) (1 : Int) (0 : Int) (0 : Int) (0 : Int) (0 : Int) (0 : Int) (0 : Int)) (4 : Int) (Dot.mk (0 : Int) (0 : Int)) false (0 : Int) (0 : Int) (0 : Int))).snd.snd.fst [(Ev.mk (Dot.mk (1 : Int) (2 : Int)) (Vec.mk (0 : Int) (1 : Int) (0 : Int) (0 : Int) (0 : Int) (0 : Int) (0 : Int) (0 : Int)) (4 : Int) (Dot.mk (0 : Int) (0 : Int)) false (0 : Int) (0 : Int) (0 : Int), (0 : Nat))] (1 : Nat) (Ev.mk (Dot.mk (1 : Int) (1 : Int)) (Vec.mk (0 : Int) (0 : Int) (0 : Int) (0 : Int) (0 : Int) (0 : Int) (0 : Int) (0 : Int)) (4 : Int) (Dot.mk (0 : Int) (0 : Int)) false (0 : Int) (0 : Int) (0 : Int))).c == (0 : Int) else false then (↑(PutIn.mk (putT vec0 (0 : Int) [] (0 : Nat) (Ev.mk (Dot.mk (1 : Int) (2 : Int)) (Vec.mk (0 : Int) (1 : Int) (0 : Int) (0 : Int) (0 : Int) (0 : Int) (0 : Int) (0 : Int)) (4 : Int) (Dot.mk (0 : Int) (0 : Int)) false (0 : Int) (0 : Int) (0 : Int))).snd.fst (putT vec0 (0 : Int) [] (0 : Nat) (Ev.mk (Dot.mk (1 : Int) (2 : Int)) (Vec.mk (0 : Int) (1 : Int) (0 : Int) (0 : Int) (0 : Int) (0 : Int) (0 : Int) (0 : Int)) (4 : Int) (Dot.mk (0 : Int) (0 : Int)) false (0 : Int) (0 : Int) (0 : Int))).snd.snd.fst [(Ev.mk (Dot.mk (1 : Int) (2 : Int)) (Vec.mk (0 : Int) (1 : Int) (0 : Int) (0 : Int) (0 : Int) (0 : Int) (0 : Int) (0 : Int)) (4 : Int) (Dot.mk (0 : Int) (0 : Int)) false (0 : Int) (0 : Int) (0 : Int), (0 : Nat))] (1 : Nat) (Ev.mk (Dot.mk (1 : Int) (1 : Int)) (Vec.mk (0 : Int) (0 : Int) (0 : Int) (0 : Int) (0 : Int) (0 : Int) (0 : Int) (0 : Int)) (4 : Int) (Dot.mk (0 : Int) (0 : Int)) false (0 : Int) (0 : Int) (0 : Int))).out.length : Int) == (2 : Int) else false) = false]) (by kernel_rfl) ⟨?_, ?_, ?_, h1, trivial⟩ ?_ r w
    all_goals (
      first
      | trivial
      | exact put_okE
      | exact put_okF
      | (exfalso; simp only [PutIn.out, PutIn.c, live_put] at h1; revert h1; decide +kernel)
      | (simp only [PutIn.out, live_put]; decide +kernel)
      | (exfalso; simp only [PutIn.out, live_put] at h2; revert h2; decide +kernel)
      | (refine congrArg Value.bool ?_; simp only [live_put]; decide +kernel))
  | true =>
    cases h2 : (decide   ((PutIn.mk             (putT vec0 (0 : Int) [] (0 : Nat)                   (Ev.mk (Dot.mk (1 : Int) (2 : Int))                     (Vec.mk (0 : Int) (1 : Int) (0 : Int) (0 : Int) (0 : Int) (0 : Int) (0 : Int) (0 : Int)) (4 : Int)                     (Dot.mk (0 : Int) (0 : Int)) false (0 : Int) (0 : Int) (0 : Int))).snd.fst             (putT vec0 (0 : Int) [] (0 : Nat)                     (Ev.mk (Dot.mk (1 : Int) (2 : Int))                       (Vec.mk (0 : Int) (1 : Int) (0 : Int) (0 : Int) (0 : Int) (0 : Int) (0 : Int) (0 : Int)) (4 : Int)                       (Dot.mk (0 : Int) (0 : Int)) false (0 : Int) (0 : Int) (0 : Int))).snd.snd.fst             [(Ev.mk (Dot.mk (1 : Int) (2 : Int))                   (Vec.mk (0 : Int) (1 : Int) (0 : Int) (0 : Int) (0 : Int) (0 : Int) (0 : Int) (0 : Int)) (4 : Int)                   (Dot.mk (0 : Int) (0 : Int)) false (0 : Int) (0 : Int) (0 : Int),                 (0 : Nat))]             (1 : Nat)             (Ev.mk (Dot.mk (1 : Int) (1 : Int))               (Vec.mk (0 : Int) (0 : Int) (0 : Int) (0 : Int) (0 : Int) (0 : Int) (0 : Int) (0 : Int)) (4 : Int)               (Dot.mk (0 : Int) (0 : Int)) false (0 : Int) (0 : Int) (0 : Int))).out.getD       (0 : Nat) Elt.zero =     Ev.mk (Dot.mk (1 : Int) (1 : Int))       (Vec.mk (0 : Int) (0 : Int) (0 : Int) (0 : Int) (0 : Int) (0 : Int) (0 : Int) (0 : Int)) (4 : Int)       (Dot.mk (0 : Int) (0 : Int)) false (0 : Int) (0 : Int) (0 : Int))) with
    | false =>
      refine fnP_leaf (T := TP) hmx (D := [Dec.s (6017 : Nat) (42 : Nat) true, Dec.s (6024 : Nat) (49 : Nat) false]) (v := Value.bool false) (ps := [True, (PutIn.mk vec0 (0 : Int) [] (0 : Nat) (Ev.mk (Dot.mk (1 : Int) (2 : Int)) (Vec.mk (0 : Int) (1 : Int) (0 : Int) (0 : Int) (0 : Int) (0 : Int) (0 : Int) (0 : Int)) (4 : Int) (Dot.mk (0 : Int) (0 : Int)) false (0 : Int) (0 : Int) (0 : Int))).ok, (PutIn.mk (putT vec0 (0 : Int) [] (0 : Nat) (Ev.mk (Dot.mk (1 : Int) (2 : Int)) (Vec.mk (0 : Int) (1 : Int) (0 : Int) (0 : Int) (0 : Int) (0 : Int) (0 : Int) (0 : Int)) (4 : Int) (Dot.mk (0 : Int) (0 : Int)) false (0 : Int) (0 : Int) (0 : Int))).snd.fst (putT vec0 (0 : Int) [] (0 : Nat) (Ev.mk (Dot.mk (1 : Int) (2 : Int)) (Vec.mk (0 : Int) (1 : Int) (0 : Int) (0 : Int) (0 : Int) (0 : Int) (0 : Int) (0 : Int)) (4 : Int) (Dot.mk (0 : Int) (0 : Int)) false (0 : Int) (0 : Int) (0 : Int))).snd.snd.fst [(Ev.mk (Dot.mk (1 : Int) (2 : Int)) (Vec.mk (0 : Int) (1 : Int) (0 : Int) (0 : Int) (0 : Int) (0 : Int) (0 : Int) (0 : Int)) (4 : Int) (Dot.mk (0 : Int) (0 : Int)) false (0 : Int) (0 : Int) (0 : Int), (0 : Nat))] (1 : Nat) (Ev.mk (Dot.mk (1 : Int) (1 : Int)) (Vec.mk (0 : Int) (0 : Int) (0 : Int) (0 : Int) (0 : Int) (0 : Int) (0 : Int) (0 : Int)) (4 : Int) (Dot.mk (0 : Int) (0 : Int)) false (0 : Int) (0 : Int) (0 : Int))).ok, (bif bif bif (PutIn.mk vec0 (0 : Int) [] (0 : Nat) (Ev.mk (Dot.mk (1 : Int) (2 : Int)) (Vec.mk (0 : Int) (1 : Int) (0 : Int) (0 : Int) (0 : Int) (0 : Int) (0 : Int) (0 : Int)) (4 : Int) (Dot.mk (0 : Int) (0 : Int)) false (0 : Int) (0 : Int) (0 : Int))).c == (0 : Int) then (↑(0 : Nat) : Int) == (0 : Int) else false then (PutIn.mk (putT vec0 (0 : Int) [] (0 : Nat) (Ev.mk (Dot.mk (1 : Int) (2 : Int)) (Vec.mk (0 : Int) (1 : Int) (0 : Int) (0 : Int) (0 : Int) (0 : Int) (0 : Int) (0 : Int)) (4 : Int) (Dot.mk (0 : Int) (0 : Int)) false (0 : Int) (0 : Int) (0 : Int))).snd.fst (putT vec0 (0 : Int) [] (0 : Nat) (Ev.mk (Dot.mk (1 : Int) (2 : Int)) (Vec.mk (0 : Int) (1 : Int) (0 : Int) (0 : Int) (0 : Int) (0 : Int) (0 : Int) (0 : Int)) (4 : Int) (Dot.mk (0 : Int) (0 : Int)) false (0 : Int) (0 : Int) (0 : Int))).snd.snd.fst [(Ev.mk (Dot.mk (1 : Int) (2 : Int)) (Vec.mk (0 : Int) (1 : Int) (0 : Int) (0 : Int) (0 : Int) (0 : Int) (0 : Int) (0 : Int)) (4 : Int) (Dot.mk (0 : Int) (0 : Int)) false (0 : Int) (0 : Int) (0 : Int), (0 : Nat))] (1 : Nat) (Ev.mk (Dot.mk (1 : Int) (1 : Int)) (Vec.mk (0 : Int) (0 : Int) (0 : Int) (0 : Int) (0 : Int) (0 : Int) (0 : Int) (0 : Int)) (4 : Int) (Dot.mk (0 : Int) (0 : Int)) false (0 : Int) (0 : Int) (0 : Int))).c == (0 : Int) else false then (↑(PutIn.mk (putT vec0 (0 : Int) [] (0 : Nat) (Ev.mk (Dot.mk (1 : Int) (2 : Int)) (Vec.mk (0 : Int) (1 : Int) (0 : Int) (0 : Int) (0 : Int) (0 : Int) (0 : Int) (0 : Int)) (4 : Int) (Dot.mk (0 : Int) (0 : Int)) false (0 : Int) (0 : Int) (0 : Int))).snd.fst (putT vec0 (0 : Int) [] (0 : Nat) (Ev.mk (Dot.mk (1 : Int) (2 : Int)) (Vec.mk (0 : Int) (1 : Int) (0 : Int) (0 : Int) (0 : Int) (0 : Int) (0 : Int) (0 : Int)) (4 : Int) (Dot.mk (0 : Int) (0 : Int)) false (0 : Int) (0 : Int) (0 : Int))).snd.snd.fst [(Ev.mk (Dot.mk (1 : Int) (2 : Int)) (Vec.mk (0 : Int) (1 : Int) (0 : Int) (0 : Int) (0 : Int) (0 : Int) (0 : Int) (0 : Int)) (4 : Int) (Dot.mk (0 : Int) (0 : Int)) false (0 : Int) (0 : Int) (0 : Int), (0 : Nat))] (1 : Nat) (Ev.mk (Dot.mk (1 : Int) (1 : Int)) (Vec.mk (0 : Int) (0 : Int) (0 : Int) (0 : Int) (0 : Int) (0 : Int) (0 : Int) (0 : Int)) (4 : Int) (Dot.mk (0 : Int) (0 : Int)) false (0 : Int) (0 : Int) (0 : Int))).out.length : Int) == (2 : Int) else false) = true, (0 : Int) ≤ (0 : Int) ∧ (0 : Int) < (↑(PutIn.mk (putT vec0 (0 : Int) [] (0 : Nat) (Ev.mk (Dot.mk (1 : Int) (2 : Int)) (Vec.mk (0 : Int) (1 : Int) (0 : Int) (0 : Int) (0 : Int) (0 : Int) (0 : Int) (0 : Int)) (4 : Int) (Dot.mk (0 : Int) (0 : Int)) false (0 : Int) (0 : Int) (0 : Int))).snd.fst (putT vec0 (0 : Int) [] (0 : Nat) (Ev.mk (Dot.mk (1 : Int) (2 : Int)) (Vec.mk (0 : Int) (1 : Int) (0 : Int) (0 : Int) (0 : Int) (0 : Int) (0 : Int) (0 : Int)) (4 : Int) (Dot.mk (0 : Int) (0 : Int)) false (0 : Int) (0 : Int) (0 : Int))).snd.snd.fst [(Ev.mk (Dot.mk (1 : Int) (2 : Int)) (Vec.mk (0 : Int) (1 : Int) (0 : Int) (0 : Int) (0 : Int) (0 : Int) (0 : Int) (0 : Int)) (4 : Int) (Dot.mk (0 : Int) (0 : Int)) false (0 : Int) (0 : Int) (0 : Int), (0 : Nat))] (1 : Nat) (Ev.mk (Dot.mk (1 : Int) (1 : Int)) (Vec.mk (0 : Int) (0 : Int) (0 : Int) (0 : Int) (0 : Int) (0 : Int) (0 : Int) (0 : Int)) (4 : Int) (Dot.mk (0 : Int) (0 : Int)) false (0 : Int) (0 : Int) (0 : Int))).out.length : Int), (0 : Nat) < (PutIn.mk (putT vec0 (0 : Int) [] (0 : Nat) (Ev.mk (Dot.mk (1 : Int) (2 : Int)) (Vec.mk (0 : Int) (1 : Int) (0 : Int) (0 : Int) (0 : Int) (0 : Int) (0 : Int) (0 : Int)) (4 : Int) (Dot.mk (0 : Int) (0 : Int)) false (0 : Int) (0 : Int) (0 : Int))).snd.fst (putT vec0 (0 : Int) [] (0 : Nat) (Ev.mk (Dot.mk (1 : Int) (2 : Int)) (Vec.mk (0 : Int) (1 : Int) (0 : Int) (0 : Int) (0 : Int) (0 : Int) (0 : Int) (0 : Int)) (4 : Int) (Dot.mk (0 : Int) (0 : Int)) false (0 : Int) (0 : Int) (0 : Int))).snd.snd.fst [(Ev.mk (Dot.mk (1 : Int) (2 : Int)) (Vec.mk (0 : Int) (1 : Int) (0 : Int) (0 : Int) (0 : Int) (0 : Int) (0 : Int) (0 : Int)) (4 : Int) (Dot.mk (0 : Int) (0 : Int)) false (0 : Int) (0 : Int) (0 : Int), (0 : Nat))] (1 : Nat) (Ev.mk (Dot.mk (1 : Int) (1 : Int)) (Vec.mk (0 : Int) (0 : Int) (0 : Int) (0 : Int) (0 : Int) (0 : Int) (0 : Int) (0 : Int)) (4 : Int) (Dot.mk (0 : Int) (0 : Int)) false (0 : Int) (0 : Int) (0 : Int))).out.length, decide ((PutIn.mk (putT vec0 (0 : Int) [] (0 : Nat) (Ev.mk (Dot.mk (1 : Int) (2 : Int)) (Vec.mk (0 : Int) (1 : Int) (0 : Int) (0 : Int) (0 : Int) (0 : Int) (0 : Int) (0 : Int)) (4 : Int) (Dot.mk (0 : Int) (0 : Int)) false (0 : Int) (0 : Int) (0 : Int))).snd.fst (putT vec0 (0 : Int) [] (0 : Nat) (Ev.mk (Dot.mk (1 : Int) (2 : Int)) (Vec.mk (0 : Int) (1 : Int) (0 : Int) (0 : Int) (0 : Int) (0 : Int) (0 : Int) (0 : Int)) (4 : Int) (Dot.mk (0 : Int) (0 : Int)) false (0 : Int) (0 : Int) (0 : Int))).snd.snd.fst [(Ev.mk (Dot.mk (1 : Int) (2 : Int)) (Vec.mk (0 : Int) (1 : Int) (0 : Int) (0 : Int) (0 : Int) (0 : Int) (0 : Int) (0 : Int)) (4 : Int) (Dot.mk (0 : Int) (0 : Int)) false (0 : Int) (0 : Int) (0 : Int), (0 : Nat))] (1 : Nat) (Ev.mk (Dot.mk (1 : Int) (1 : Int)) (Vec.mk (0 : Int) (0 : Int) (0 : Int) (0 : Int) (0 : Int) (0 : Int) (0 : Int) (0 : Int)) (4 : Int) (Dot.mk (0 : Int) (0 : Int)) false (0 : Int) (0 : Int) (0 : Int))).out.getD (0 : Nat) Elt.zero = Ev.mk (Dot.mk (1 : Int) (1 : Int)) (Vec.mk (0 : Int) (0 : Int) (0 : Int) (0 : Int) (0 : Int) (0 : Int) (0 : Int) (0 : Int)) (4 : Int) (Dot.mk (0 : Int) (0 : Int)) false (0 : Int) (0 : Int) (0 : Int)) = false]) (by kernel_rfl) ⟨?_, ?_, ?_, h1, ?_, ?_, h2, trivial⟩ ?_ r w
      all_goals (
        first
        | trivial
        | exact put_okE
        | exact put_okF
        | (exfalso; simp only [PutIn.out, PutIn.c, live_put] at h1; revert h1; decide +kernel)
        | (simp only [PutIn.out, live_put]; decide +kernel)
        | (exfalso; simp only [PutIn.out, live_put] at h2; revert h2; decide +kernel)
        | (refine congrArg Value.bool ?_; simp only [live_put]; decide +kernel))
    | true =>
      refine fnP_leaf (T := TP) hmx (D := [Dec.s (6017 : Nat) (42 : Nat) true, Dec.s (6024 : Nat) (49 : Nat) true]) (v := Value.bool ((putT (putT vec0 (0 : Int) [] (0 : Nat) (Ev.mk (Dot.mk (1 : Int) (2 : Int)) (Vec.mk (0 : Int) (1 : Int) (0 : Int) (0 : Int) (0 : Int) (0 : Int) (0 : Int) (0 : Int)) (4 : Int) (Dot.mk (0 : Int) (0 : Int)) false (0 : Int) (0 : Int) (0 : Int))).snd.fst (putT vec0 (0 : Int) [] (0 : Nat) (Ev.mk (Dot.mk (1 : Int) (2 : Int)) (Vec.mk (0 : Int) (1 : Int) (0 : Int) (0 : Int) (0 : Int) (0 : Int) (0 : Int) (0 : Int)) (4 : Int) (Dot.mk (0 : Int) (0 : Int)) false (0 : Int) (0 : Int) (0 : Int))).snd.snd.fst [(Ev.mk (Dot.mk (1 : Int) (2 : Int)) (Vec.mk (0 : Int) (1 : Int) (0 : Int) (0 : Int) (0 : Int) (0 : Int) (0 : Int) (0 : Int)) (4 : Int) (Dot.mk (0 : Int) (0 : Int)) false (0 : Int) (0 : Int) (0 : Int), (0 : Nat))] (1 : Nat) (Ev.mk (Dot.mk (1 : Int) (1 : Int)) (Vec.mk (0 : Int) (0 : Int) (0 : Int) (0 : Int) (0 : Int) (0 : Int) (0 : Int) (0 : Int)) (4 : Int) (Dot.mk (0 : Int) (0 : Int)) false (0 : Int) (0 : Int) (0 : Int))).snd.fst.x1 == (2 : Int))) (ps := [True, (PutIn.mk vec0 (0 : Int) [] (0 : Nat) (Ev.mk (Dot.mk (1 : Int) (2 : Int)) (Vec.mk (0 : Int) (1 : Int) (0 : Int) (0 : Int) (0 : Int) (0 : Int) (0 : Int) (0 : Int)) (4 : Int) (Dot.mk (0 : Int) (0 : Int)) false (0 : Int) (0 : Int) (0 : Int))).ok, (PutIn.mk (putT vec0 (0 : Int) [] (0 : Nat) (Ev.mk (Dot.mk (1 : Int) (2 : Int)) (Vec.mk (0 : Int) (1 : Int) (0 : Int) (0 : Int) (0 : Int) (0 : Int) (0 : Int) (0 : Int)) (4 : Int) (Dot.mk (0 : Int) (0 : Int)) false (0 : Int) (0 : Int) (0 : Int))).snd.fst (putT vec0 (0 : Int) [] (0 : Nat) (Ev.mk (Dot.mk (1 : Int) (2 : Int)) (Vec.mk (0 : Int) (1 : Int) (0 : Int) (0 : Int) (0 : Int) (0 : Int) (0 : Int) (0 : Int)) (4 : Int) (Dot.mk (0 : Int) (0 : Int)) false (0 : Int) (0 : Int) (0 : Int))).snd.snd.fst [(Ev.mk (Dot.mk (1 : Int) (2 : Int)) (Vec.mk (0 : Int) (1 : Int) (0 : Int) (0 : Int) (0 : Int) (0 : Int) (0 : Int) (0 : Int)) (4 : Int) (Dot.mk (0 : Int) (0 : Int)) false (0 : Int) (0 : Int) (0 : Int), (0 : Nat))] (1 : Nat) (Ev.mk (Dot.mk (1 : Int) (1 : Int)) (Vec.mk (0 : Int) (0 : Int) (0 : Int) (0 : Int) (0 : Int) (0 : Int) (0 : Int) (0 : Int)) (4 : Int) (Dot.mk (0 : Int) (0 : Int)) false (0 : Int) (0 : Int) (0 : Int))).ok, (bif bif bif (PutIn.mk vec0 (0 : Int) [] (0 : Nat) (Ev.mk (Dot.mk (1 : Int) (2 : Int)) (Vec.mk (0 : Int) (1 : Int) (0 : Int) (0 : Int) (0 : Int) (0 : Int) (0 : Int) (0 : Int)) (4 : Int) (Dot.mk (0 : Int) (0 : Int)) false (0 : Int) (0 : Int) (0 : Int))).c == (0 : Int) then (↑(0 : Nat) : Int) == (0 : Int) else false then (PutIn.mk (putT vec0 (0 : Int) [] (0 : Nat) (Ev.mk (Dot.mk (1 : Int) (2 : Int)) (Vec.mk (0 : Int) (1 : Int) (0 : Int) (0 : Int) (0 : Int) (0 : Int) (0 : Int) (0 : Int)) (4 : Int) (Dot.mk (0 : Int) (0 : Int)) false (0 : Int) (0 : Int) (0 : Int))).snd.fst (putT vec0 (0 : Int) [] (0 : Nat) (Ev.mk (Dot.mk (1 : Int) (2 : Int)) (Vec.mk (0 : Int) (1 : Int) (0 : Int) (0 : Int) (0 : Int) (0 : Int) (0 : Int) (0 : Int)) (4 : Int) (Dot.mk (0 : Int) (0 : Int)) false (0 : Int) (0 : Int) (0 : Int))).snd.snd.fst [(Ev.mk (Dot.mk (1 : Int) (2 : Int)) (Vec.mk (0 : Int) (1 : Int) (0 : Int) (0 : Int) (0 : Int) (0 : Int) (0 : Int) (0 : Int)) (4 : Int) (Dot.mk (0 : Int) (0 : Int)) false (0 : Int) (0 : Int) (0 : Int), (0 : Nat))] (1 : Nat) (Ev.mk (Dot.mk (1 : Int) (1 : Int)) (Vec.mk (0 : Int) (0 : Int) (0 : Int) (0 : Int) (0 : Int) (0 : Int) (0 : Int) (0 : Int)) (4 : Int) (Dot.mk (0 : Int) (0 : Int)) false (0 : Int) (0 : Int) (0 : Int))).c == (0 : Int) else false then (↑(PutIn.mk (putT vec0 (0 : Int) [] (0 : Nat) (Ev.mk (Dot.mk (1 : Int) (2 : Int)) (Vec.mk (0 : Int) (1 : Int) (0 : Int) (0 : Int) (0 : Int) (0 : Int) (0 : Int) (0 : Int)) (4 : Int) (Dot.mk (0 : Int) (0 : Int)) false (0 : Int) (0 : Int) (0 : Int))).snd.fst (putT vec0 (0 : Int) [] (0 : Nat) (Ev.mk (Dot.mk (1 : Int) (2 : Int)) (Vec.mk (0 : Int) (1 : Int) (0 : Int) (0 : Int) (0 : Int) (0 : Int) (0 : Int) (0 : Int)) (4 : Int) (Dot.mk (0 : Int) (0 : Int)) false (0 : Int) (0 : Int) (0 : Int))).snd.snd.fst [(Ev.mk (Dot.mk (1 : Int) (2 : Int)) (Vec.mk (0 : Int) (1 : Int) (0 : Int) (0 : Int) (0 : Int) (0 : Int) (0 : Int) (0 : Int)) (4 : Int) (Dot.mk (0 : Int) (0 : Int)) false (0 : Int) (0 : Int) (0 : Int), (0 : Nat))] (1 : Nat) (Ev.mk (Dot.mk (1 : Int) (1 : Int)) (Vec.mk (0 : Int) (0 : Int) (0 : Int) (0 : Int) (0 : Int) (0 : Int) (0 : Int) (0 : Int)) (4 : Int) (Dot.mk (0 : Int) (0 : Int)) false (0 : Int) (0 : Int) (0 : Int))).out.length : Int) == (2 : Int) else false) = true, (0 : Int) ≤ (0 : Int) ∧ (0 : Int) < (↑(PutIn.mk (putT vec0 (0 : Int) [] (0 : Nat) (Ev.mk (Dot.mk (1 : Int) (2 : Int)) (Vec.mk (0 : Int) (1 : Int) (0 : Int) (0 : Int) (0 : Int) (0 : Int) (0 : Int) (0 : Int)) (4 : Int) (Dot.mk (0 : Int) (0 : Int)) false (0 : Int) (0 : Int) (0 : Int))).snd.fst (putT vec0 (0 : Int) [] (0 : Nat) (Ev.mk (Dot.mk (1 : Int) (2 : Int)) (Vec.mk (0 : Int) (1 : Int) (0 : Int) (0 : Int) (0 : Int) (0 : Int) (0 : Int) (0 : Int)) (4 : Int) (Dot.mk (0 : Int) (0 : Int)) false (0 : Int) (0 : Int) (0 : Int))).snd.snd.fst [(Ev.mk (Dot.mk (1 : Int) (2 : Int)) (Vec.mk (0 : Int) (1 : Int) (0 : Int) (0 : Int) (0 : Int) (0 : Int) (0 : Int) (0 : Int)) (4 : Int) (Dot.mk (0 : Int) (0 : Int)) false (0 : Int) (0 : Int) (0 : Int), (0 : Nat))] (1 : Nat) (Ev.mk (Dot.mk (1 : Int) (1 : Int)) (Vec.mk (0 : Int) (0 : Int) (0 : Int) (0 : Int) (0 : Int) (0 : Int) (0 : Int) (0 : Int)) (4 : Int) (Dot.mk (0 : Int) (0 : Int)) false (0 : Int) (0 : Int) (0 : Int))).out.length : Int), (0 : Nat) < (PutIn.mk (putT vec0 (0 : Int) [] (0 : Nat) (Ev.mk (Dot.mk (1 : Int) (2 : Int)) (Vec.mk (0 : Int) (1 : Int) (0 : Int) (0 : Int) (0 : Int) (0 : Int) (0 : Int) (0 : Int)) (4 : Int) (Dot.mk (0 : Int) (0 : Int)) false (0 : Int) (0 : Int) (0 : Int))).snd.fst (putT vec0 (0 : Int) [] (0 : Nat) (Ev.mk (Dot.mk (1 : Int) (2 : Int)) (Vec.mk (0 : Int) (1 : Int) (0 : Int) (0 : Int) (0 : Int) (0 : Int) (0 : Int) (0 : Int)) (4 : Int) (Dot.mk (0 : Int) (0 : Int)) false (0 : Int) (0 : Int) (0 : Int))).snd.snd.fst [(Ev.mk (Dot.mk (1 : Int) (2 : Int)) (Vec.mk (0 : Int) (1 : Int) (0 : Int) (0 : Int) (0 : Int) (0 : Int) (0 : Int) (0 : Int)) (4 : Int) (Dot.mk (0 : Int) (0 : Int)) false (0 : Int) (0 : Int) (0 : Int), (0 : Nat))] (1 : Nat) (Ev.mk (Dot.mk (1 : Int) (1 : Int)) (Vec.mk (0 : Int) (0 : Int) (0 : Int) (0 : Int) (0 : Int) (0 : Int) (0 : Int) (0 : Int)) (4 : Int) (Dot.mk (0 : Int) (0 : Int)) false (0 : Int) (0 : Int) (0 : Int))).out.length, decide ((PutIn.mk (putT vec0 (0 : Int) [] (0 : Nat) (Ev.mk (Dot.mk (1 : Int) (2 : Int)) (Vec.mk (0 : Int) (1 : Int) (0 : Int) (0 : Int) (0 : Int) (0 : Int) (0 : Int) (0 : Int)) (4 : Int) (Dot.mk (0 : Int) (0 : Int)) false (0 : Int) (0 : Int) (0 : Int))).snd.fst (putT vec0 (0 : Int) [] (0 : Nat) (Ev.mk (Dot.mk (1 : Int) (2 : Int)) (Vec.mk (0 : Int) (1 : Int) (0 : Int) (0 : Int) (0 : Int) (0 : Int) (0 : Int) (0 : Int)) (4 : Int) (Dot.mk (0 : Int) (0 : Int)) false (0 : Int) (0 : Int) (0 : Int))).snd.snd.fst [(Ev.mk (Dot.mk (1 : Int) (2 : Int)) (Vec.mk (0 : Int) (1 : Int) (0 : Int) (0 : Int) (0 : Int) (0 : Int) (0 : Int) (0 : Int)) (4 : Int) (Dot.mk (0 : Int) (0 : Int)) false (0 : Int) (0 : Int) (0 : Int), (0 : Nat))] (1 : Nat) (Ev.mk (Dot.mk (1 : Int) (1 : Int)) (Vec.mk (0 : Int) (0 : Int) (0 : Int) (0 : Int) (0 : Int) (0 : Int) (0 : Int) (0 : Int)) (4 : Int) (Dot.mk (0 : Int) (0 : Int)) false (0 : Int) (0 : Int) (0 : Int))).out.getD (0 : Nat) Elt.zero = Ev.mk (Dot.mk (1 : Int) (1 : Int)) (Vec.mk (0 : Int) (0 : Int) (0 : Int) (0 : Int) (0 : Int) (0 : Int) (0 : Int) (0 : Int)) (4 : Int) (Dot.mk (0 : Int) (0 : Int)) false (0 : Int) (0 : Int) (0 : Int)) = true, True, (0 : Int) ≤ (1 : Int) ∧ (1 : Int) < (↑(8 : Nat) : Int)]) (by kernel_rfl) ⟨?_, ?_, ?_, h1, ?_, ?_, h2, ?_, ?_, trivial⟩ ?_ r w
      all_goals (
        first
        | trivial
        | exact put_okE
        | exact put_okF
        | (exfalso; simp only [PutIn.out, PutIn.c, live_put] at h1; revert h1; decide +kernel)
        | (simp only [PutIn.out, live_put]; decide +kernel)
        | (exfalso; simp only [PutIn.out, live_put] at h2; revert h2; decide +kernel)
        | (refine congrArg Value.bool ?_; simp only [live_put]; decide +kernel))


end Go.Proofs.Ytobonipmnidadaa
