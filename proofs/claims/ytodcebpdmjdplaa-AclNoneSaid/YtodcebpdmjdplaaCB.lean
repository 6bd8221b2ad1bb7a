/- The map of the book: looked up, and written in. -/
import Derived.Test.YtodcebpdmjdplaaCA
namespace Go.Proofs.Ytodcebpdmjdplaa
open Go.RowKit

theorem check_int (em : Bool) (n : Nat) (t : TypeId) (k : IntKind) (ht : Try.prog.underlying t = some (.int k)) (v : Value) (w : World) : (Instr.checkKey em (n + 1) t v).run Try.prog w = .ok () w := by
  rw [Instr.checkKey]
  simp only [Sem.run_bind, run_underlying ht, Result.andThen_ok]
  rfl

theorem check_dot (em : Bool) (d : Dot) (w : World) : (Instr.checkKey em 10000 25 d.v).run Try.prog w = .ok () w := by
  have hS : Try.prog.underlying 25 = some (.struct (Try.prog.fieldsOf 25)) := by kernel_rfl
  have c5 := check_int em 9998 5 .u8 (by kernel_rfl)
  have c23 := check_int em 9998 23 .u32 (by kernel_rfl)
  rw [show (10000 : Nat) = 9999 + 1 from rfl, Instr.checkKey]
  simp only [Sem.run_bind, run_underlying hS, Result.andThen_ok, Program.fieldsOf, Try.underlying25]
  generalize hn : (9999 : Nat) = n
  rw [show 9998 + 1 = n from hn] at c5 c23
  go_simp

theorem eq_dots (a b : Dot) (w : World) : (Op.equal 25 a.v b.v).run Try.prog w = .ok (decide (a = b)) w := by
  have := eq_dot a.a a.s b.a b.s 9998 w
  refine Eq.trans this ?_
  congr 1
  rw [Bool.eq_iff_iff]
  obtain ⟨_, _⟩ := a
  obtain ⟨_, _⟩ := b
  simp

def findL (L : Bk) (d : Dot) : Option (Ev × Bool) := L.find? fun p => decide (d = p.1.d)

theorem asking (d : Dot) (w : World) : ∀ (L : Bk) (k i : Nat), ∃ j, (Instr.findAsking 25 d.v ((L.zipIdx k).map entM) i).run Try.prog w = .ok ((findL L d).map fun p => (j, entV p)) w
  | [], k, i => ⟨0, by simp [Instr.findAsking, findL]⟩
  | p :: L, k, i => by
    obtain ⟨j, hj⟩ := asking d w L (k + 1) (i + 1)
    have he := eq_dots d p.1.d w
    cases hd : decide (d = p.1.d) with
    | true =>
      rw [hd] at he
      refine ⟨i, ?_⟩
      simp only [List.zipIdx_cons, List.map_cons, Instr.findAsking, entM, Sem.run_bind, he, Result.andThen_ok, if_true, Sem.run_pure, findL, List.find?_cons, hd, Option.map_some]
    | false =>
      rw [hd] at he
      refine ⟨j, ?_⟩
      simp only [List.zipIdx_cons, List.map_cons, Instr.findAsking, Sem.run_bind]
      simp only [entM, he, Result.andThen_ok, Bool.false_eq_true, if_false, findL, List.find?_cons, hd]
      exact hj

theorem find_dot (d : Dot) (L : Bk) (w : World) : ∃ j, (Instr.findKey 25 d.v (esOf L).toList).run Try.prog w = .ok ((findL L d).map fun p => (j, entV p)) w := by
  have hS : Try.prog.underlying 25 = some (.struct (Try.prog.fieldsOf 25)) := by kernel_rfl
  cases L with
  | nil => exact ⟨0, by simp [Instr.findKey, run_underlying hS, esOf, Instr.findNow, findL]⟩
  | cons p L =>
    obtain ⟨j, hj⟩ := asking d w (p :: L) 0 0
    refine ⟨j, ?_⟩
    have : Instr.findNow (.struct (Try.prog.fieldsOf 25)) d.v (esOf (p :: L)).toList 0 = none := by
      simp [esOf, List.zipIdx_cons, Instr.findNow, Instr.sameNow]
    simp only [Instr.findKey, Sem.run_bind, run_underlying hS, Result.andThen_ok, this]
    exact hj

def zeroEv : Ev := ⟨⟨0, 0⟩, ⟨0, 0, 0, 0, 0, 0, 0, 0⟩, 0, ⟨0, 0⟩, false, 0, 0, 0⟩
def gotL (L : Bk) (d : Dot) : Ev × Bool := (findL L d).getD (zeroEv, false)

theorem lookup_run (L : Bk) (d : Dot) (ok : Bool) {bm : Nat} {w : World} (hb : w.heap[bm]? = some (mapO L)) :
    (Instr.lookup 63 (.map (some bm)) d.v ok).run Try.prog w = .ok (if ok then .tuple #[entV (gotL L d), .bool (findL L d).isSome] else entV (gotL L d)) w := by
  have hM : Try.prog.underlying 63 = some (.map 25 61) := by kernel_rfl
  obtain ⟨j, hj⟩ := find_dot d L w
  have hz : (zeroValue 61).run Try.prog w = .ok (entV (zeroEv, false)) w := by
    have hi : (Try.prog.info? 61).bind (·.zero) = some (entV (zeroEv, false)) := by kernel_rfl
    cases hinfo : Try.prog.info? 61 with
    | none => simp [hinfo] at hi
    | some i => simp [hinfo] at hi; simp [zeroValue, typeInfo, hinfo, hi]
  unfold Instr.lookup
  simp only [Sem.run_bind, run_underlying hM, Result.andThen_ok]
  unfold mapO at hb
  simp only [getObj, Sem.run, hb, Result.andThen_ok, Sem.run_bind, Sem.run_pure, check_dot, hj]
  unfold gotL
  cases findL L d <;> simp [hz]

theorem esOf_push (L : Bk) (p : Ev × Bool) : (esOf L).push (entM (p, L.length)) = esOf (L ++ [p]) := by
  simp [esOf, List.zipIdx_append]

theorem update_run (L : Bk) (p : Ev × Bool) (hn : findL L p.1.d = none) {bm : Nat} {w : World} (hb : w.heap[bm]? = some (mapO L)) :
    (Instr.mapUpdate 63 (.map (some bm)) p.1.d.v (entV p)).run Try.prog w = .ok () (Go.ChangeMaps.setBlock w bm (mapO (L ++ [p]))) := by
  have hM : Try.prog.underlying 63 = some (.map 25 61) := by kernel_rfl
  obtain ⟨j, hj⟩ := find_dot p.1.d L w
  rw [hn] at hj
  unfold Instr.mapUpdate
  simp only [Sem.run_bind, run_underlying hM, Result.andThen_ok]
  have hb' := hb
  unfold mapO at hb
  simp only [getObj, Sem.run, hb, Result.andThen_ok, Sem.run_bind, Sem.run_pure, check_dot, hj, Option.map_none]
  have := esOf_push L p
  simp only [setObj, Sem.run, hb, Go.ChangeMaps.setBlock, mapO]
  rw [← this]
  simp [entM]


def rightQ (args : List AV) (_ : AH) : Option (AV × List Nat × Option Prop) :=
  match args with
  | [.tv (.agg l)] => match evOf l with
    | some e => some (.b (rightB e), [], some e.ok)
    | none => none
  | _ => none

theorem rightQ_args {args : List AV} {H : AH} {v : AV} {ft : List Nat} {pr : Option Prop} (h : rightQ args H = some (v, ft, pr)) : ∃ e, args = [e.av] ∧ v = .b (rightB e) ∧ pr = some e.ok := by
  unfold rightQ at h
  split at h
  · split at h
    · rename_i e he
      simp at h
      rw [evOf_eq he]
      exact ⟨e, rfl, h.1.symm, h.2.2.symm⟩
    · simp at h
  · simp at h

noncomputable def T5 : CT Try.prog :=
  (T4.addQ 28 rightQ (by kernel_rfl) fun _ _ _ _ _ h hp r w _ => by
    obtain ⟨e, rfl, rfl, rfl⟩ := rightQ_args h
    exact right_run e hp.some r w).addQ 24 rightQ (by kernel_rfl) fun _ _ _ _ _ h hp r w _ => by
    obtain ⟨e, rfl, rfl, rfl⟩ := rightQ_args h
    exact rright_run e hp.some r w

def addM (L : Bk) (e : Ev) : Int × Bk :=
  if !rightB e || (decide (e.k ≠ 3) && decide (e.k ≠ 4)) then (3, L)
  else if (findL L e.d).isSome then (5, L)
  else if 512 ≤ L.length then (10, L)
  else (0, L ++ [(e, roleM L e.d.a e.p == 3)])

end Go.Proofs.Ytodcebpdmjdplaa
