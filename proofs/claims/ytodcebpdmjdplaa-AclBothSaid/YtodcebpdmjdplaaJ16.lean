/- The document's book: Role as a callee; Len, Members. The document's book: Members, New. The document's book: Add. -/
import Derived.Test.YtodcebpdmjdplaaJ15
namespace Go.Proofs.Ytodcebpdmjdplaa
open Go.RowKit

/-- What is owed where a role is asked. -/
def RlOk (L : Bk) (who : Int) : Prop := L.length ≤ 1000 ∧ (∀ p ∈ L, p.1.ok) ∧ (∀ p ∈ L, Rt p.1) ∧ 0 ≤ who

theorem rrole_ctr {L : Bk} {who : Int} (h : RlOk L who) (v : Vec) : CtrQ Try.prog 37 [.c (.ptr 0 0), .r (.int .u8 who), v.av] [(.abs 0 (.rbook L), 0)] (.r (.int .u8 (roleM L who v))) := by
  intro r w hst
  obtain ⟨r0, hag0, hst0⟩ := hst.openR (k := 0) (h := 0) (g := 0) (x := .rbook L) (Hx := rbkH L) (by kernel_rfl) rfl rfl (by kernel_rfl) (by kernel_rfl)
  have hargs : ([.c (.ptr 0 0), .r (.int .u8 who), v.av].map (AV.conc r)).toArray = ([.c (.ptr 0 0), .r (.int .u8 who), v.av].map (AV.conc r0)).toArray := by
    congr 1
    exact List.map_congr_left fun a ha => (AV.conc_agree hag0 (List.all_eq_true.1 (show [.c (.ptr 0 0), .r (.int .u8 who), v.av].all (AV.sc 1) = true by kernel_rfl) a ha)).symm
  rw [hargs]
  exact (rrole_few L h.1 h.2.1 h.2.2.1 who h.2.2.2 v).lift (ft := [0, 1, 2]) ⟨_, _, hst0, fun _ _ => rfl⟩ [0, 1, 2] [0, 2, 3] (by kernel_rfl) (by kernel_rfl) (by kernel_rfl) (fun i hi => hi) (by kernel_rfl)

def MRRole : MethQ Try.prog := {
  f := 37
  τ := Bk × Int × Vec
  parse := fun y a => match y, a with
    | .rbook L, [.tv (.one (.rig (.int .u8 who))), .tv (.agg l)] => match vecOf l with | some v => some (L, who, v) | none => none
    | _, _ => none
  x := fun t => .rbook t.1
  rest := fun t => [.r (.int .u8 t.2.1), t.2.2.av]
  v := fun t => .r (.int .u8 (roleM t.1 t.2.1 t.2.2))
  owed := fun t => RlOk t.1 t.2.1
  parse_eq := fun {y a t} h => by
    split at h
    · split at h
      · rename_i hv; cases h; rw [vecOf_eq hv]; exact ⟨rfl, rfl⟩
      · cases h
    · cases h
  body := by kernel_rfl
  C := fun t h => rrole_ctr h _ }

def MRCounts : MethQ Try.prog := {
  f := 32
  τ := Bk × Dot
  parse := fun y a => match y, a with
    | .rbook L, [.tv (.agg l)] => match dotOf l with | some d => some (L, d) | none => none
    | _, _ => none
  x := fun t => .rbook t.1
  rest := fun t => [t.2.av]
  v := fun t => .b (gotL t.1 t.2).2
  owed := fun t => t.1.length ≤ 1000
  parse_eq := fun {y a t} h => by
    split at h
    · split at h
      · rename_i hv; cases h; rw [dotOf_eq hv]; exact ⟨rfl, rfl⟩
      · cases h
    · cases h
  body := by kernel_rfl
  C := fun _ h => rcounts_ctr _ h _ }

theorem rlen_ctr {L : Bk} : CtrQ Try.prog 33 [.c (.ptr 0 0)] [(.abs 0 (.rbook L), 0)] (.r (.int .i64 L.length)) := by
  have : CtrQ Try.prog 33 [.c (.ptr 0 0)] [(.abs 0 (.rbook L), 0)] (.r (.int .i64 ((L.map (·.1)).length : Nat))) :=
    ctrQ_meth hmx T8 0 (x := .rbook L) (Hx := rbkH L) rfl rfl (by kernel_rfl) (by kernel_rfl) [] _ [] (by kernel_rfl) (by kernel_rfl) trivial (by kernel_rfl)
  rwa [List.length_map] at this

def MRLen : MethQ Try.prog := {
  f := 33
  τ := Bk
  parse := fun y a => match y, a with
    | .rbook L, [] => some L
    | _, _ => none
  x := fun t => .rbook t
  rest := fun _ => []
  v := fun t => .r (.int .i64 t.length)
  owed := fun _ => True
  parse_eq := fun {y a t} h => by
    split at h
    · cases h; exact ⟨rfl, rfl⟩
    · cases h
  body := by kernel_rfl
  C := fun _ _ => rlen_ctr }

/-! ### Role of the book in its parts -/
theorem rrole_parts {A : List Ev} {B : List Bool} (hl : A.length = B.length) {who : Int} (h : RlOk (A.zip B) who) (v : Vec) :
    CtrQ Try.prog 37 [.c (.ptr 0 0), .r (.int .u8 who), v.av] [(.cells [.sl 1, .sl 2] 74, 0), (.abs 1 (.evs A), 0), (.abs 2 (.bools B), 0)] (.r (.int .u8 (roleM (A.zip B) who v))) := by
  have := rrole_few (A.zip B) h.1 h.2.1 h.2.2.1 who h.2.2.2 v
  unfold rbk0 at this
  rw [List.map_fst_zip (Nat.le_of_eq hl), List.map_snd_zip (Nat.le_of_eq hl.symm)] at this
  exact this

def rlQ (args : List AV) (H : AH) : Option (AV × List Nat × Option Prop) :=
  match args with
  | [.tv (.one (.ptr i 0)), .tv (.one (.rig (.int .u8 who))), .tv (.agg l)] => match vecOf l, H[i]? with
    | some v, some (.cells [.sl h1, .sl h2] t, _) => match findSl H h1 0, findSl H h2 0 with
      | some (j, .evs A), some (k, .bools B) => cond (Nat.beq t 74 && fewB H [i, j, k] [0, h1, h2] [(.cells [.sl 1, .sl 2] 74, 0), (.abs 1 (.evs A), 0), (.abs 2 (.bools B), 0)])
          (some (.r (.int .u8 (roleM (A.zip B) who v)), [i, j, k], some (A.length = B.length ∧ RlOk (A.zip B) who))) none
      | _, _ => none
    | _, _ => none
  | _ => none

theorem rlQ_ok {args : List AV} {H : AH} {v : AV} {ft : List Nat} {pr : Option Prop} (he : rlQ args H = some (v, ft, pr)) (hp : Owed pr) (r : Gh) (w : World) (hat : At r H ft w) :
    Calls Try.prog 37 (args.map (AV.conc r)).toArray w fun e w' => e = .returned (v.conc r) ∧ Below w.heap.size w w' := by
  unfold rlQ at he
  split at he
  · rename_i i who l
    split at he
    · rename_i v' h1 h2 t g hv hi
      split at he
      · rename_i j A k B hj hk
        cases hc : (Nat.beq t 74 && fewB H [i, j, k] [0, h1, h2] [(.cells [.sl 1, .sl 2] 74, 0), (.abs 1 (.evs A), 0), (.abs 2 (.bools B), 0)]) with
        | false => simp [hc] at he
        | true =>
          simp only [hc, cond_true, Option.some.injEq, Prod.mk.injEq] at he
          obtain ⟨rfl, rfl, rfl⟩ := he
          simp only [Bool.and_eq_true] at hc
          obtain rfl := Nat.eq_of_beq_eq_true hc.1
          obtain ⟨hl, hok⟩ := hp.some
          obtain ⟨_, g1, hg1⟩ := findSl_eq hj
          obtain ⟨_, g2, hg2⟩ := findSl_eq hk
          rw [Nat.sub_zero] at hg1 hg2
          have hl := (rrole_parts hl hok v').lift hat [i, j, k] [0, h1, h2] hc.2 (by simp [selH, renH, hi, hg1, hg2, AO.ren, CV.ren, pick]) (by kernel_rfl) (fun _ h => h) (by kernel_rfl)
          rw [vecOf_eq hv]
          exact hl
      · cases he
    · cases he
  · cases he

noncomputable def TA : CT Try.prog := ((((T9.orQ 37 rlQ (by kernel_rfl) fun _ _ _ _ _ he hp r w hat => rlQ_ok he hp r w hat).addMQ MRRole).addMQ MRCounts).addMQ MRLen)

end Go.Proofs.Ytodcebpdmjdplaa

namespace Go.Proofs.Ytodcebpdmjdplaa
open Go.RowKit

theorem u8_ge (x : Int) : 0 ≤ IntKind.u8.wrap x := by
  show 0 ≤ x % _
  exact Int.emod_nonneg _ (by decide)

/-- A block's cells by other names. -/
theorem St.recell {r : Gh} {H : AH} {W0 : Base} {w : World} (hst : St r H W0 w) {k t g : Nat} {cs : List CV} (cs' : List CV) (hk : H[k]? = some (.cells cs t, g)) (hc : cs'.map (CV.conc r) = cs.map (CV.conc r)) : St r (H.set k (.cells cs' t, g)) W0 w := by
  have hkl : k < H.length := (List.getElem?_eq_some_iff.1 hk).1
  have key : ∀ (i : Nat) (x : AO × Nat), (H.set k (.cells cs' t, g))[i]? = some x → ∃ y, H[i]? = some y ∧ x.2 = y.2 ∧ (y.1.holds r w i → x.1.holds r w i) := fun i x hx => by
    rw [List.getElem?_set] at hx
    by_cases e : k = i
    · subst e
      rw [if_pos rfl, if_pos hkl] at hx
      cases hx
      refine ⟨_, hk, rfl, fun h => ?_⟩
      simp only [AO.holds] at h ⊢
      rw [hc]; exact h
    · rw [if_neg e] at hx
      exact ⟨x, hx, rfl, fun h => h⟩
  refine ⟨⟨fun i x hx => ?_, fun b i h => ?_, hst.hold.imm, hst.hold.imc⟩, fun b i x hb hx h2 => ?_, hst.ob, hst.im0, hst.im1, hst.os, hst.tape, hst.output, hst.size, hst.frame⟩
  · obtain ⟨y, hy, -, h⟩ := key i x hx
    exact h (hst.hold.at_ i y hy)
  · rw [List.length_set]; exact hst.hold.ow b i h
  · obtain ⟨y, hy, e, -⟩ := key i x hx
    exact hst.wr b i y hb hy (by rw [← e]; exact h2)

theorem rmembers_ctr {L : Bk} (h : L.length ≤ 1000 ∧ (∀ p ∈ L, p.1.ok) ∧ (∀ p ∈ L, Rt p.1)) {v : Vec} : CtrQ Try.prog 34 [.c (.ptr 0 0), v.av] [(.abs 0 (.rbook L), 0)] (.tv (.agg (membCvs L v))) := by
  refine ctrQ_run hmx TA [Dec.u (20 : Nat)] (AV.tv (TV.agg [CV.rig (Value.int IntKind.u8 (roleM L (IntKind.u8.wrap (0 : Int), v).fst (IntKind.u8.wrap (0 : Int), v).snd)), CV.rig (Value.int IntKind.u8 (roleM L (IntKind.u8.wrap (IntKind.i64.wrap ((0 : Int) + (1 : Int))), v).fst (IntKind.u8.wrap (IntKind.i64.wrap ((0 : Int) + (1 : Int))), v).snd)), CV.rig (Value.int IntKind.u8 (roleM L (IntKind.u8.wrap (IntKind.i64.wrap (IntKind.i64.wrap ((0 : Int) + (1 : Int)) + (1 : Int))), v).fst (IntKind.u8.wrap (IntKind.i64.wrap (IntKind.i64.wrap ((0 : Int) + (1 : Int)) + (1 : Int))), v).snd)), CV.rig (Value.int IntKind.u8 (roleM L (IntKind.u8.wrap (IntKind.i64.wrap (IntKind.i64.wrap (IntKind.i64.wrap ((0 : Int) + (1 : Int)) + (1 : Int)) + (1 : Int))), v).fst (IntKind.u8.wrap (IntKind.i64.wrap (IntKind.i64.wrap (IntKind.i64.wrap ((0 : Int) + (1 : Int)) + (1 : Int)) + (1 : Int))), v).snd)), CV.rig (Value.int IntKind.u8 (roleM L (IntKind.u8.wrap (IntKind.i64.wrap (IntKind.i64.wrap (IntKind.i64.wrap (IntKind.i64.wrap ((0 : Int) + (1 : Int)) + (1 : Int)) + (1 : Int)) + (1 : Int))), v).fst (IntKind.u8.wrap (IntKind.i64.wrap (IntKind.i64.wrap (IntKind.i64.wrap (IntKind.i64.wrap ((0 : Int) + (1 : Int)) + (1 : Int)) + (1 : Int)) + (1 : Int))), v).snd)), CV.rig (Value.int IntKind.u8 (roleM L (IntKind.u8.wrap (IntKind.i64.wrap (IntKind.i64.wrap (IntKind.i64.wrap (IntKind.i64.wrap (IntKind.i64.wrap ((0 : Int) + (1 : Int)) + (1 : Int)) + (1 : Int)) + (1 : Int)) + (1 : Int))), v).fst (IntKind.u8.wrap (IntKind.i64.wrap (IntKind.i64.wrap (IntKind.i64.wrap (IntKind.i64.wrap (IntKind.i64.wrap ((0 : Int) + (1 : Int)) + (1 : Int)) + (1 : Int)) + (1 : Int)) + (1 : Int))), v).snd)), CV.rig (Value.int IntKind.u8 (roleM L (IntKind.u8.wrap (IntKind.i64.wrap (IntKind.i64.wrap (IntKind.i64.wrap (IntKind.i64.wrap (IntKind.i64.wrap (IntKind.i64.wrap ((0 : Int) + (1 : Int)) + (1 : Int)) + (1 : Int)) + (1 : Int)) + (1 : Int)) + (1 : Int))), v).fst (IntKind.u8.wrap (IntKind.i64.wrap (IntKind.i64.wrap (IntKind.i64.wrap (IntKind.i64.wrap (IntKind.i64.wrap (IntKind.i64.wrap ((0 : Int) + (1 : Int)) + (1 : Int)) + (1 : Int)) + (1 : Int)) + (1 : Int)) + (1 : Int))), v).snd)), CV.rig (Value.int IntKind.u8 (roleM L (IntKind.u8.wrap (IntKind.i64.wrap (IntKind.i64.wrap (IntKind.i64.wrap (IntKind.i64.wrap (IntKind.i64.wrap (IntKind.i64.wrap (IntKind.i64.wrap ((0 : Int) + (1 : Int)) + (1 : Int)) + (1 : Int)) + (1 : Int)) + (1 : Int)) + (1 : Int)) + (1 : Int))), v).fst (IntKind.u8.wrap (IntKind.i64.wrap (IntKind.i64.wrap (IntKind.i64.wrap (IntKind.i64.wrap (IntKind.i64.wrap (IntKind.i64.wrap (IntKind.i64.wrap ((0 : Int) + (1 : Int)) + (1 : Int)) + (1 : Int)) + (1 : Int)) + (1 : Int)) + (1 : Int)) + (1 : Int))), v).snd))])) [RlOk L (IntKind.u8.wrap (0 : Int), v).fst, (0 : Int) ≤ (0 : Int) ∧ (0 : Int) < (↑(8 : Nat) : Int), RlOk L (IntKind.u8.wrap (IntKind.i64.wrap ((0 : Int) + (1 : Int))), v).fst, (0 : Int) ≤ IntKind.i64.wrap ((0 : Int) + (1 : Int)) ∧ IntKind.i64.wrap ((0 : Int) + (1 : Int)) < (↑(8 : Nat) : Int), RlOk L (IntKind.u8.wrap (IntKind.i64.wrap (IntKind.i64.wrap ((0 : Int) + (1 : Int)) + (1 : Int))), v).fst, (0 : Int) ≤ IntKind.i64.wrap (IntKind.i64.wrap ((0 : Int) + (1 : Int)) + (1 : Int)) ∧ IntKind.i64.wrap (IntKind.i64.wrap ((0 : Int) + (1 : Int)) + (1 : Int)) < (↑(8 : Nat) : Int), RlOk L (IntKind.u8.wrap (IntKind.i64.wrap (IntKind.i64.wrap (IntKind.i64.wrap ((0 : Int) + (1 : Int)) + (1 : Int)) + (1 : Int))), v).fst, (0 : Int) ≤ IntKind.i64.wrap (IntKind.i64.wrap (IntKind.i64.wrap ((0 : Int) + (1 : Int)) + (1 : Int)) + (1 : Int)) ∧ IntKind.i64.wrap (IntKind.i64.wrap (IntKind.i64.wrap ((0 : Int) + (1 : Int)) + (1 : Int)) + (1 : Int)) < (↑(8 : Nat) : Int), RlOk L (IntKind.u8.wrap (IntKind.i64.wrap (IntKind.i64.wrap (IntKind.i64.wrap (IntKind.i64.wrap ((0 : Int) + (1 : Int)) + (1 : Int)) + (1 : Int)) + (1 : Int))), v).fst, (0 : Int) ≤ IntKind.i64.wrap (IntKind.i64.wrap (IntKind.i64.wrap (IntKind.i64.wrap ((0 : Int) + (1 : Int)) + (1 : Int)) + (1 : Int)) + (1 : Int)) ∧ IntKind.i64.wrap (IntKind.i64.wrap (IntKind.i64.wrap (IntKind.i64.wrap ((0 : Int) + (1 : Int)) + (1 : Int)) + (1 : Int)) + (1 : Int)) < (↑(8 : Nat) : Int), RlOk L (IntKind.u8.wrap (IntKind.i64.wrap (IntKind.i64.wrap (IntKind.i64.wrap (IntKind.i64.wrap (IntKind.i64.wrap ((0 : Int) + (1 : Int)) + (1 : Int)) + (1 : Int)) + (1 : Int)) + (1 : Int))), v).fst, (0 : Int) ≤ IntKind.i64.wrap (IntKind.i64.wrap (IntKind.i64.wrap (IntKind.i64.wrap (IntKind.i64.wrap ((0 : Int) + (1 : Int)) + (1 : Int)) + (1 : Int)) + (1 : Int)) + (1 : Int)) ∧ IntKind.i64.wrap (IntKind.i64.wrap (IntKind.i64.wrap (IntKind.i64.wrap (IntKind.i64.wrap ((0 : Int) + (1 : Int)) + (1 : Int)) + (1 : Int)) + (1 : Int)) + (1 : Int)) < (↑(8 : Nat) : Int), RlOk L (IntKind.u8.wrap (IntKind.i64.wrap (IntKind.i64.wrap (IntKind.i64.wrap (IntKind.i64.wrap (IntKind.i64.wrap (IntKind.i64.wrap ((0 : Int) + (1 : Int)) + (1 : Int)) + (1 : Int)) + (1 : Int)) + (1 : Int)) + (1 : Int))), v).fst, (0 : Int) ≤ IntKind.i64.wrap (IntKind.i64.wrap (IntKind.i64.wrap (IntKind.i64.wrap (IntKind.i64.wrap (IntKind.i64.wrap ((0 : Int) + (1 : Int)) + (1 : Int)) + (1 : Int)) + (1 : Int)) + (1 : Int)) + (1 : Int)) ∧ IntKind.i64.wrap (IntKind.i64.wrap (IntKind.i64.wrap (IntKind.i64.wrap (IntKind.i64.wrap (IntKind.i64.wrap ((0 : Int) + (1 : Int)) + (1 : Int)) + (1 : Int)) + (1 : Int)) + (1 : Int)) + (1 : Int)) < (↑(8 : Nat) : Int), RlOk L (IntKind.u8.wrap (IntKind.i64.wrap (IntKind.i64.wrap (IntKind.i64.wrap (IntKind.i64.wrap (IntKind.i64.wrap (IntKind.i64.wrap (IntKind.i64.wrap ((0 : Int) + (1 : Int)) + (1 : Int)) + (1 : Int)) + (1 : Int)) + (1 : Int)) + (1 : Int)) + (1 : Int))), v).fst, (0 : Int) ≤ IntKind.i64.wrap (IntKind.i64.wrap (IntKind.i64.wrap (IntKind.i64.wrap (IntKind.i64.wrap (IntKind.i64.wrap (IntKind.i64.wrap ((0 : Int) + (1 : Int)) + (1 : Int)) + (1 : Int)) + (1 : Int)) + (1 : Int)) + (1 : Int)) + (1 : Int)) ∧ IntKind.i64.wrap (IntKind.i64.wrap (IntKind.i64.wrap (IntKind.i64.wrap (IntKind.i64.wrap (IntKind.i64.wrap (IntKind.i64.wrap ((0 : Int) + (1 : Int)) + (1 : Int)) + (1 : Int)) + (1 : Int)) + (1 : Int)) + (1 : Int)) + (1 : Int)) < (↑(8 : Nat) : Int)] (by kernel_rfl) (by kernel_rfl) ⟨?_, ?_, ?_, ?_, ?_, ?_, ?_, ?_, ?_, ?_, ?_, ?_, ?_, ?_, ?_, ?_, trivial⟩ (by kernel_rfl)
  all_goals (
    first
    | exact ⟨h.1, h.2.1, h.2.2, u8_ge _⟩
    | exact ⟨by decide, by decide⟩
    | (show (_ : Nat) < _; decide))


def MRMembers : MethQ Try.prog := {
  f := 34
  τ := Bk × Vec
  parse := fun y a => match y, a with
    | .rbook L, [.tv (.agg l)] => match vecOf l with | some v => some (L, v) | none => none
    | _, _ => none
  x := fun t => .rbook t.1
  rest := fun t => [t.2.av]
  v := fun t => .tv (.agg (membCvs t.1 t.2))
  owed := fun t => t.1.length ≤ 1000 ∧ (∀ p ∈ t.1, p.1.ok) ∧ (∀ p ∈ t.1, Rt p.1)
  parse_eq := fun {y a t} h => by
    split at h
    · split at h
      · rename_i hv; cases h; rw [vecOf_eq hv]; exact ⟨rfl, rfl⟩
      · cases h
    · cases h
  body := by kernel_rfl
  C := fun _ h => rmembers_ctr h }

theorem rnew_few : Ctr Try.prog 26 [] [] (.c (.ptr 0 0)) [(.cells [.sl 1, .sl 2] 74, 1), (.abs 1 (.evs []), 1), (.abs 2 (.bools []), 1)] := by
  intro r W0 w hst
  refine (fnA_calls hmx (show fnA Try.prog TA 26 [] [] [] = some (.c (.ptr 0 0), [(.cells [.rig (.slice none 0 0), .rig (.slice none 0 0)] 74, 1)], []) by kernel_rfl) trivial hst).mono ?_
  rintro e w' ⟨r1, -, rfl, hst1⟩
  obtain ⟨r2, hag2, hs2, hst2⟩ := hst1.nilL KEv (by kernel_rfl)
  obtain ⟨r3, hag3, hs3, hst3⟩ := hst2.nilL KBool (by kernel_rfl)
  have e1 : r3.s 1 = ⟨none, 0, 0⟩ := by rw [hag3.s 1 (by simp)]; exact hs2
  have e2 : r3.s 2 = ⟨none, 0, 0⟩ := hs3
  refine ⟨r3, ⟨fun i hi => absurd hi (Nat.not_lt_zero _), fun i hi => absurd hi (Nat.not_lt_zero _)⟩, ?_, (hst3.recell (k := 0) [.sl 1, .sl 2] rfl (by simp [CV.conc, e1, e2, SV.v])).as (by kernel_rfl)⟩
  have : r3.b 0 = r1.b 0 := by rw [hag3.b 0 (by simp), hag2.b 0 (by simp)]
  simp [AV.conc, TV.conc, CV.conc, this]

theorem rnew_ctr : Ctr Try.prog 26 [] [] (.c (.ptr 0 0)) [(.abs 0 (.rbook []), 1)] :=
  rnew_few.closed 0 (.rbook []) rfl (by kernel_rfl) [0, 1, 2] [0, 1, 2] (by kernel_rfl) (by kernel_rfl) [0] [0] (by kernel_rfl) (by kernel_rfl) rfl rfl

def MRNew : MakeE Try.prog := {
  f := 26
  τ := Unit
  parse := fun a => match a with | [] => some () | _ => none
  args := fun _ => []
  v := fun _ => .c (.ptr 0 0)
  new := fun _ => [(.abs 0 (.rbook []), 1)]
  owed := fun _ => True
  parse_eq := fun {a t} h => by
    split at h
    · rfl
    · cases h
  body := by kernel_rfl
  C := fun _ _ => rnew_ctr }

end Go.Proofs.Ytodcebpdmjdplaa

namespace Go.Proofs.Ytodcebpdmjdplaa
open Go.RowKit

noncomputable def TB : CT Try.prog := (TA.addMQ MRMembers).addMk MRNew

/-- What is left, put together and told. -/
theorem St.closeTo {r r1 : Gh} {H2 : AH} {W0 : Base} {w : World} (hst : St r1 H2 W0 w) {n : Nat} (hag : Agree n r r1) (h : Nat) (x' : X) {Hx' : AH} (hx' : shape x' = some Hx') (lc lcs : List Nat) (l ls : List Nat) (Hs' : AH)
    (hsc : (Hx'.scB && Nat.blt 0 Hx'.length && Nat.ble n H2.length && H2.scB && nodupB lc && Nat.beq lc.length Hx'.length && flagsL H2 lc Hx' && flagsB H2 lc && viewOk n (closeH lc h x' 0 H2) l ls Hs') = true)
    (hcs : selH H2 lc = renH lc lcs Hx') (hs : selH (closeH lc h x' 0 H2) l = renH l ls Hs') : ∃ r3, Agree n r r3 ∧ St r3 Hs' W0 w := by
  simp only [Bool.and_eq_true] at hsc
  obtain ⟨⟨⟨⟨⟨⟨⟨⟨s4, s5⟩, s7⟩, c1⟩, c2⟩, c3⟩, c4⟩, c5⟩, hb⟩ := hsc
  obtain ⟨r2, hag2, -, hst2⟩ := hst.close c1 lc lcs h x' Hx' hx' s4 c2 c3 s5 (hasIds_of hcs c4) c5
  obtain ⟨r3, hag3, -, hst3⟩ := hst2.view n l ls Hs' hb hs
  exact ⟨r3, hag.trans ((hag2.mono (by simpa using s7)).trans hag3 (Nat.le_refl _)) (Nat.le_refl _), hst3⟩

def adR (r : Gh) (B : Base) (x : Int × Bk) : Ending → World → Prop := fun e w' => e = .returned (.int .i64 x.1) ∧ ∃ r3, Agree 1 r r3 ∧ St r3 [(.abs 0 (.rbook x.2), 2)] B w'
noncomputable def adF (e : Ev) (i : Int) : AF := ((startF (fnOf Try.prog 27) [.c (.ptr 0 0), e.av]).set 3 (.c (.ptr 4 0))).set 5 (.r (.int .i64 i))
def adH (L : Bk) (e : Ev) : AH := rbO L 2 ++ [(.cells e.cvs 31, 1)]

theorem zip_parts (L : Bk) : (L.map (·.1)).zip (L.map (·.2)) = L := by
  induction L with
  | nil => rfl
  | cons x L ih => simp [ih]

/-- What is left as it was. -/
theorem ad_same {L : Bk} {e : Ev} {r r1 : Gh} {B : Base} {w : World} (hag : Agree 1 r r1) (hst : St r1 (adH L e) B w) : ∃ r3, Agree 1 r r3 ∧ St r3 [(.abs 0 (.rbook L), 2)] B w :=
  hst.closeTo hag 0 (.rbook L) (Hx' := rbkH L) rfl [0, 1, 2] [0, 2, 3] [0] [0] _ (by kernel_rfl) (by kernel_rfl) (by kernel_rfl)

/-- After the loop. -/
theorem radd_end {L : Bk} (hL : L.length ≤ 1000) (hok : ∀ p ∈ L, p.1.ok) (hrt : ∀ p ∈ L, Rt p.1) {e : Ev} (he : e.ok) (hr : rightB e = true) (hk : (decide (e.k ≠ 3) && decide (e.k ≠ 4)) = false) (hf : findL L e.d = none) {i : Nat} {G : Nat → Value} {r g : Gh} {B : Base} {a : Act} {w : World}
    (hF : FrameOk g (maskF [0, 3, 5] (adF e i) G) a) (hag : Agree 1 r g) (hst : St g (adH L e) B w) (hd : a.defers = []) : kont none 0 Try.prog (restAt 1 (fnLoop Try.prog 27 0).2) (bodyPost Try.prog (fnOf Try.prog 27) (adR r B (addM L e))) .normal a w := by
  cases h1 : (decide ((↑(List.map (fun (x : Ev × Bool) => x.fst) L).length : Int) ≥ (512 : Int))) with
  | false =>
    refine list_wp hmx (ro := none) TB [Dec.c (49 : Nat) false] [decide ((↑(List.map (fun (x : Ev × Bool) => x.fst) L).length : Int) ≥ (512 : Int)) = false, (List.map (fun (x : Ev × Bool) => x.fst) L).length = (List.map (fun (x : Ev × Bool) => x.snd) L).length ∧ RlOk ((List.map (fun (x : Ev × Bool) => x.fst) L).zip (List.map (fun (x : Ev × Bool) => x.snd) L)) e.d.a, roomOk ((List.map (fun (x : Ev × Bool) => x.fst) L).length + [e].length) (56 : Nat), roomOk ((List.map (fun (x : Ev × Bool) => x.snd) L).length + [roleM ((List.map (fun (x : Ev × Bool) => x.fst) L).zip (List.map (fun (x : Ev × Bool) => x.snd) L)) e.d.a e.p == (3 : Int)].length) (1 : Nat)] .ret (by kernel_rfl) (by kernel_rfl) (by refine ⟨h1, ?_, ?_, ?_, trivial⟩ <;> (first | (rw [zip_parts]; exact ⟨by simp, hL, hok, hrt, he.d.a0⟩) | (simp [roomOk, maxLen] at *; omega))) hF hst fun g1 w1 a1 hag1 hst1 hF1 hd1 => ?_
    simp only [List.length_map, ge_iff_le, decide_eq_false_iff_not] at h1
    refine ret_fin ?_
    first
    | (have ea : addM L e = (10, L) := by
         have : 512 ≤ L.length := by omega
         simp only [addM, hr, hk, hf, Bool.not_true, Bool.or_self, Bool.false_eq_true, if_false, Option.isSome_none, if_pos this]
       rw [ea]
       exact (bodyPost_of (v := .r (.int .i64 10)) (by kernel_rfl) hF1 hst1 (hd1.trans hd) ⟨rfl, ad_same (e := e) (hag.tr hag1 (by kernel_rfl)) (hst1.as (by kernel_rfl))⟩).1)
    | (have ea : addM L e = (0, L ++ [(e, roleM ((L.map (·.1)).zip (L.map (·.2))) e.d.a e.p == 3)]) := by
         have : ¬ 512 ≤ L.length := by omega
         rw [zip_parts]
         simp only [addM, hr, hk, hf, Bool.not_true, Bool.or_self, Bool.false_eq_true, if_false, Option.isSome_none, if_neg this]
       rw [ea]
       refine (bodyPost_of (v := .r (.int .i64 0)) (by kernel_rfl) hF1 hst1 (hd1.trans hd) ⟨rfl, ?_⟩).1
       refine hst1.closeTo (hag.tr hag1 (by kernel_rfl)) 0 (.rbook (L ++ [(e, roleM ((L.map (·.1)).zip (L.map (·.2))) e.d.a e.p == 3)])) (Hx' := rbkH (L ++ [(e, roleM ((L.map (·.1)).zip (L.map (·.2))) e.d.a e.p == 3)])) rfl [0, 1, 2] [0, 6, 8] [0] [0] _ (by kernel_rfl) ?_ (by kernel_rfl)
       unfold rbkH
       rw [List.map_append, List.map_append]
       kernel_rfl)
  | true =>
    refine list_wp hmx (ro := none) TB [Dec.c (49 : Nat) true] [decide ((↑(List.map (fun (x : Ev × Bool) => x.fst) L).length : Int) ≥ (512 : Int)) = true] .ret (by kernel_rfl) (by kernel_rfl) ⟨h1, trivial⟩ hF hst fun g1 w1 a1 hag1 hst1 hF1 hd1 => ?_
    simp only [List.length_map, ge_iff_le, decide_eq_true_eq] at h1
    refine ret_fin ?_
    first
    | (have ea : addM L e = (10, L) := by
         have : 512 ≤ L.length := by omega
         simp only [addM, hr, hk, hf, Bool.not_true, Bool.or_self, Bool.false_eq_true, if_false, Option.isSome_none, if_pos this]
       rw [ea]
       exact (bodyPost_of (v := .r (.int .i64 10)) (by kernel_rfl) hF1 hst1 (hd1.trans hd) ⟨rfl, ad_same (e := e) (hag.tr hag1 (by kernel_rfl)) (hst1.as (by kernel_rfl))⟩).1)
    | (have ea : addM L e = (0, L ++ [(e, roleM ((L.map (·.1)).zip (L.map (·.2))) e.d.a e.p == 3)]) := by
         have : ¬ 512 ≤ L.length := by omega
         rw [zip_parts]
         simp only [addM, hr, hk, hf, Bool.not_true, Bool.or_self, Bool.false_eq_true, if_false, Option.isSome_none, if_neg this]
       rw [ea]
       refine (bodyPost_of (v := .r (.int .i64 0)) (by kernel_rfl) hF1 hst1 (hd1.trans hd) ⟨rfl, ?_⟩).1
       refine hst1.closeTo (hag.tr hag1 (by kernel_rfl)) 0 (.rbook (L ++ [(e, roleM ((L.map (·.1)).zip (L.map (·.2))) e.d.a e.p == 3)])) (Hx' := rbkH (L ++ [(e, roleM ((L.map (·.1)).zip (L.map (·.2))) e.d.a e.p == 3)])) rfl [0, 1, 2] [0, 6, 8] [0] [0] _ (by kernel_rfl) ?_ (by kernel_rfl)
       unfold rbkH
       rw [List.map_append, List.map_append]
       kernel_rfl)

/-- The loop. -/
theorem radd_loop {L : Bk} (hL : L.length ≤ 1000) (hok : ∀ p ∈ L, p.1.ok) (hrt : ∀ p ∈ L, Rt p.1) {e : Ev} (he : e.ok) (hr : rightB e = true) (hk : (decide (e.k ≠ 3) && decide (e.k ≠ 4)) = false) {G0 : Nat → Value} {r g0 : Gh} {B : Base} {a0 : Act} {w0 : World}
    (hF0 : FrameOk g0 (maskF [0, 3, 5] (adF e (0 : Nat)) G0) a0) (hag0 : Agree 1 r g0) (hst0 : St g0 (adH L e) B w0) (hd0 : a0.defers = []) :
    (Code.loop (fnLoop Try.prog 27 0).1).wpIn (Fw none) 0 Try.prog (kont none 0 Try.prog (fnLoop Try.prog 27 0).2 (bodyPost Try.prog (fnOf Try.prog 27) (adR r B (addM L e)))) a0 w0 := by
  refine loop_wp (σ := Nat) (n0 := 1) (g0 := r) (B := B) (ds := []) [0, 3, 5] (fun i => adF e i) (fun _ => adH L e) (fun i => i ≤ L.length ∧ ∀ j, j < i → (nthL L j).1.d ≠ e.d) (fun i => L.length - i) 0
    ⟨⟨Nat.zero_le _, fun j hj => by omega⟩, g0, G0, hag0, hF0, hst0, hd0⟩ fun i g G a w hi hag hF hst hd => ?_
  obtain ⟨hi, hno⟩ := hi
  cases h1 : (decide ((↑i : Int) < (↑(List.map (fun (x : Ev × Bool) => x.fst) L).length : Int))) with
  | false =>
    refine code_wp hmx (ro := none) TB [Dec.c (30 : Nat) false] [decide ((↑i : Int) < (↑(List.map (fun (x : Ev × Bool) => x.fst) L).length : Int)) = false] (.exit 1) (by kernel_rfl) (by kernel_rfl) ⟨h1, trivial⟩ hF hst fun g1 w1 a1 hag1 hst1 hF1 hd1 => ?_
    have hge : L.length ≤ i := by simpa using h1
    refine exit_out (k' := restAt 1 (fnLoop Try.prog 27 0).2) (by kernel_rfl) ?_
    obtain ⟨-, g5, G5, hag5, hF5, hst5, hd5⟩ := next_inv (σ := Unit) (n0 := 1) (live := [0, 3, 5]) (F := fun _ => adF e i) (H := fun _ => adH L e) (inv := fun _ => True) (s' := ()) trivial hag hag1 (by kernel_rfl) hF1 hst1 (hd1.trans hd) (by kernel_rfl) (by kernel_rfl) (by kernel_rfl)
    exact radd_end hL hok hrt he hr hk (findL_no _ _ fun j hj => hno j (by omega)) hF5 hag5 hst5 hd5
  | true =>
    cases h2 : (decide (((List.map (fun (x : Ev × Bool) => x.fst) L).getD (↑i : Int).toNat Elt.zero).d = e.d)) with
    | false =>
      refine code_wp hmx (ro := none) TB [Dec.c (30 : Nat) true, Dec.c (43 : Nat) false] [decide ((↑i : Int) < (↑(List.map (fun (x : Ev × Bool) => x.fst) L).length : Int)) = true, (0 : Int) ≤ (↑i : Int) ∧ (↑i : Int) < (↑(List.map (fun (x : Ev × Bool) => x.fst) L).length : Int), (↑i : Int).toNat < (List.map (fun (x : Ev × Bool) => x.fst) L).length, decide (((List.map (fun (x : Ev × Bool) => x.fst) L).getD (↑i : Int).toNat Elt.zero).d = e.d) = false] .norm (by kernel_rfl) (by kernel_rfl) (by refine ⟨h1, ?_, ?_, h2, trivial⟩ <;> (first | omega | (simp at h1 ⊢; omega))) hF hst fun g1 w1 a1 hag1 hst1 hF1 hd1 => ?_
      simp only [nth_ev, Int.toNat_natCast] at h1 h2
      have hlt : i < L.length := by simpa using h1
      have e1 : IntKind.i64.wrap ((i : Int) + 1) = ((i + 1 : Nat) : Int) := IntWalk.i64_in _ (by omega)
      refine ⟨i + 1, next_inv ⟨by omega, fun j hj => ?_⟩ hag hag1 (by kernel_rfl) hF1 hst1 (by rw [hd1, hd]) (by kernel_rfl) (by (try dsimp only); rw [← e1]; kernel_rfl) (by kernel_rfl), by omega⟩
      rcases Nat.lt_or_ge j i with h | h
      · exact hno j h
      · have : j = i := by omega
        subst this; simpa using h2
    | true =>
      refine code_wp hmx (ro := none) TB [Dec.c (30 : Nat) true, Dec.c (43 : Nat) true] [decide ((↑i : Int) < (↑(List.map (fun (x : Ev × Bool) => x.fst) L).length : Int)) = true, (0 : Int) ≤ (↑i : Int) ∧ (↑i : Int) < (↑(List.map (fun (x : Ev × Bool) => x.fst) L).length : Int), (↑i : Int).toNat < (List.map (fun (x : Ev × Bool) => x.fst) L).length, decide (((List.map (fun (x : Ev × Bool) => x.fst) L).getD (↑i : Int).toNat Elt.zero).d = e.d) = true] .ret (by kernel_rfl) (by kernel_rfl) (by refine ⟨h1, ?_, ?_, h2, trivial⟩ <;> (first | omega | (simp at h1 ⊢; omega))) hF hst fun g1 w1 a1 hag1 hst1 hF1 hd1 => ?_
      simp only [nth_ev, Int.toNat_natCast] at h1 h2
      have hlt : i < L.length := by simpa using h1
      have ea : addM L e = (5, L) := by
        have : findL L e.d = some (nthL L i) := findL_at e.d L i hlt hno (by simpa using h2)
        simp only [addM, hr, hk, this, Bool.not_true, Bool.or_self, Bool.false_eq_true, if_false, Option.isSome_some, if_true]
      refine ret_out ?_
      rw [ea]
      exact (bodyPost_of (v := .r (.int .i64 5)) (by kernel_rfl) hF1 hst1 (hd1.trans hd) ⟨rfl, ad_same (e := e) (hag.tr hag1 (by kernel_rfl)) (hst1.as (by kernel_rfl))⟩).1

theorem radd_ctr {L : Bk} (hL : L.length ≤ 1000) (hok : ∀ p ∈ L, p.1.ok) (hrt : ∀ p ∈ L, Rt p.1) {e : Ev} (he : e.ok) : Ctr Try.prog 27 [.c (.ptr 0 0), e.av] [(.abs 0 (.rbook L), 2)] (.r (.int .i64 (addM L e).1)) [(.abs 0 (.rbook (addM L e).2), 2)] := by
  intro r W0 w hst
  obtain ⟨r0, hag0, hst0⟩ := hst.open (k := 0) (h := 0) (g := 2) (x := .rbook L) (Hx := rbkH L) (by kernel_rfl) rfl rfl (by kernel_rfl) (by kernel_rfl) (by decide)
  have hargs : ([.c (.ptr 0 0), e.av].map (AV.conc r)).toArray = ([.c (.ptr 0 0), e.av].map (AV.conc r0)).toArray := by
    congr 1
    exact List.map_congr_left fun a ha => (AV.conc_agree hag0 (List.all_eq_true.1 (show [.c (.ptr 0 0), e.av].all (AV.sc 1) = true by kernel_rfl) a ha)).symm
  rw [hargs]
  suffices hh : Calls Try.prog 27 (([.c (.ptr 0 0), e.av].map (AV.conc r0)).toArray) w (adR r W0 (addM L e)) from hh.mono fun x w' ⟨h1, r3, h2, h3⟩ => ⟨r3, h2, h1, h3⟩
  have hst : St r0 (rbO L 2) W0 w := hst0.as (by kernel_rfl)
  refine (callsFw (ro := none) (n := 0)).1 (callsInStart (fn := fnOf Try.prog 27) (c := bodyOf Try.prog 27) (by kernel_rfl) (by kernel_rfl) fun a0 hF hd => ?_)
  cases h1 : (!rightB e) with
  | false =>
    cases h2 : (e.k != (3 : Int)) with
    | false =>
      refine code_wp hmx (ro := none) TB [Dec.s (3004 : Nat) (14 : Nat) false, Dec.s (3008 : Nat) (18 : Nat) false] [e.ok, (!rightB e) = false, (e.k != (3 : Int)) = false] (.loop (fnLoop Try.prog 27 0).1 (fnLoop Try.prog 27 0).2) (by kernel_rfl) (by kernel_rfl) (by refine ⟨?_, h1, h2, trivial⟩ <;> (exact he)) hF hst fun g1 w1 a1 hag1 hst1 hF1 hd1 => ?_
      have hr : rightB e = true := by simpa using h1
      have hk : (decide (e.k ≠ 3) && decide (e.k ≠ 4)) = false := by
        first
        | (have : e.k = 3 := by simpa using h2
           simp [this]; done)
        | (have : e.k = 4 := by simpa using h3
           simp [this]; done)
      obtain ⟨-, g5, G5, hag5, hF5, hst5, hd5⟩ := next_inv (σ := Unit) (n0 := 1) (live := [0, 3, 5]) (F := fun _ => adF e (0 : Nat)) (H := fun _ => adH L e) (inv := fun _ => True) (s' := ()) trivial hag0 hag1 (by kernel_rfl) hF1 hst1 (hd1.trans hd) (by kernel_rfl) (by kernel_rfl) (by kernel_rfl)
      exact radd_loop hL hok hrt he hr hk hF5 hag5 hst5 hd5
    | true =>
      cases h3 : (e.k != (4 : Int)) with
      | false =>
        refine code_wp hmx (ro := none) TB [Dec.s (3004 : Nat) (14 : Nat) false, Dec.s (3008 : Nat) (18 : Nat) true, Dec.c (10 : Nat) false] [e.ok, (!rightB e) = false, (e.k != (3 : Int)) = true, (e.k != (4 : Int)) = false] (.loop (fnLoop Try.prog 27 0).1 (fnLoop Try.prog 27 0).2) (by kernel_rfl) (by kernel_rfl) (by refine ⟨?_, h1, h2, h3, trivial⟩ <;> (exact he)) hF hst fun g1 w1 a1 hag1 hst1 hF1 hd1 => ?_
        have hr : rightB e = true := by simpa using h1
        have hk : (decide (e.k ≠ 3) && decide (e.k ≠ 4)) = false := by
          first
          | (have : e.k = 3 := by simpa using h2
             simp [this]; done)
          | (have : e.k = 4 := by simpa using h3
             simp [this]; done)
        obtain ⟨-, g5, G5, hag5, hF5, hst5, hd5⟩ := next_inv (σ := Unit) (n0 := 1) (live := [0, 3, 5]) (F := fun _ => adF e (0 : Nat)) (H := fun _ => adH L e) (inv := fun _ => True) (s' := ()) trivial hag0 hag1 (by kernel_rfl) hF1 hst1 (hd1.trans hd) (by kernel_rfl) (by kernel_rfl) (by kernel_rfl)
        exact radd_loop hL hok hrt he hr hk hF5 hag5 hst5 hd5
      | true =>
        refine code_wp hmx (ro := none) TB [Dec.s (3004 : Nat) (14 : Nat) false, Dec.s (3008 : Nat) (18 : Nat) true, Dec.c (10 : Nat) true] [e.ok, (!rightB e) = false, (e.k != (3 : Int)) = true, (e.k != (4 : Int)) = true] .ret (by kernel_rfl) (by kernel_rfl) (by refine ⟨?_, h1, h2, h3, trivial⟩ <;> (exact he)) hF hst fun g1 w1 a1 hag1 hst1 hF1 hd1 => ?_
        have ea : addM L e = (3, L) := by
          first
          | (have hr : rightB e = false := by simpa using h1
             simp [addM, hr]; done)
          | (have h2' : e.k ≠ 3 := by simpa using h2
             have h3' : e.k ≠ 4 := by simpa using h3
             simp [addM, h2', h3']; done)
        refine ret_fin ?_
        rw [ea]
        exact (bodyPost_of (v := .r (.int .i64 3)) (by kernel_rfl) hF1 hst1 (hd1.trans hd) ⟨rfl, ad_same (e := e) (hag0.tr hag1 (by kernel_rfl)) (hst1.as (by kernel_rfl))⟩).1
  | true =>
    refine code_wp hmx (ro := none) TB [Dec.s (3004 : Nat) (14 : Nat) true] [e.ok, (!rightB e) = true] .ret (by kernel_rfl) (by kernel_rfl) (by refine ⟨?_, h1, trivial⟩ <;> (exact he)) hF hst fun g1 w1 a1 hag1 hst1 hF1 hd1 => ?_
    have ea : addM L e = (3, L) := by
      first
      | (have hr : rightB e = false := by simpa using h1
         simp [addM, hr]; done)
      | (have h2' : e.k ≠ 3 := by simpa using h2
         have h3' : e.k ≠ 4 := by simpa using h3
         simp [addM, h2', h3']; done)
    refine ret_fin ?_
    rw [ea]
    exact (bodyPost_of (v := .r (.int .i64 3)) (by kernel_rfl) hF1 hst1 (hd1.trans hd) ⟨rfl, ad_same (e := e) (hag0.tr hag1 (by kernel_rfl)) (hst1.as (by kernel_rfl))⟩).1

def MRAdd : MethE Try.prog := {
  f := 27
  τ := Bk × Ev
  parse := fun y a => match y, a with
    | .rbook L, [.tv (.agg l)] => match evOf l with | some e => some (L, e) | none => none
    | _, _ => none
  x := fun t => .rbook t.1
  rest := fun t => [t.2.av]
  v := fun t => .r (.int .i64 (addM t.1 t.2).1)
  x' := fun t => .rbook (addM t.1 t.2).2
  new := fun _ => []
  owed := fun t => (t.1.length ≤ 1000 ∧ (∀ p ∈ t.1, p.1.ok) ∧ ∀ p ∈ t.1, Rt p.1) ∧ t.2.ok
  parse_eq := fun {y a t} h => by
    split at h
    · split at h
      · rename_i hv; cases h; rw [evOf_eq hv]; exact ⟨rfl, rfl⟩
      · cases h
    · cases h
  body := by kernel_rfl
  C := fun t h => radd_ctr h.1.1 h.1.2.1 h.1.2.2 h.2 }

noncomputable def TC : CT Try.prog := TB.addME MRAdd

end Go.Proofs.Ytodcebpdmjdplaa
