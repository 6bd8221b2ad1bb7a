/- The book's functions as callees: Members, New, Fork; a nil book. -/
import Derived.Test.YtodcebpdmjdplaaCF
import Derived.Test.YtodcebpdmjdplaaB1
namespace Go.Proofs.Ytodcebpdmjdplaa
open Go.RowKit

noncomputable def membersQ (args : List AV) (H : AH) : Option (AV × List Nat × Option Prop) :=
  match args with
  | [x, .tv (.agg l)] => match bookAt H x, vecOf l with
    | some (i, j, o), some v => some (.tv (.agg (membCvs (bkOf o) v)), [i, j], some (IsBk o ∧ ∀ p ∈ bkOf o, p.1.ok))
    | _, _ => none
  | _ => none

theorem membersQ_ok {args : List AV} {H : AH} {v : AV} {ft : List Nat} {pr : Option Prop} (h : membersQ args H = some (v, ft, pr)) (hp : Owed pr) (r : Nat → Nat) (w : World) (hat : ∀ i ∈ ft, ∀ x, H[i]? = some x → w.heap[r i]? = some (x.1.conc r)) :
    Calls Try.prog 19 (args.map (AV.conc r)).toArray w fun e w' => e = .returned (v.conc r) ∧ Below w.heap.size w w' := by
  unfold membersQ at h
  split at h
  · rename_i x l
    split at h
    · rename_i i j o vv hb hv
      simp only [Option.some.injEq, Prod.mk.injEq] at h
      obtain ⟨rfl, rfl, rfl⟩ := h
      obtain ⟨hob, hL⟩ := hp.some
      have hx := (bookAt_eq hb).1
      subst hx
      rw [vecOf_eq hv]
      have h1 := members_run hL (v := vv) (bookSt hb hob hat)
      have e1 : (([.c (.ptr 0 0), vv.av].map (AV.conc fun k => r (pick [i, j] k))).toArray) = (([AV.c (.ptr i 0), .tv (.agg vv.cvs)].map (AV.conc r)).toArray) := rfl
      rw [e1] at h1
      exact h1
    · simp at h
  · simp at h

def newBE (args : List AV) (H : AH) : Option (AV × List (Nat × AO) × List AO × Option Prop) :=
  match args with
  | [] => some (.c (.ptr (H.length + 1) 0), [], [.raw (mapO []), .cells [.mp (H.length + 0)] 65], none)
  | _ => none

theorem newBE_ok {args : List AV} {H : AH} {v : AV} {upd : List (Nat × AO)} {new : List AO} {pr : Option Prop} (h : newBE args H = some (v, upd, new, pr)) (r : Nat → Nat) (W0 w : World) (_ : St r H W0 w) :
    Calls Try.prog 21 (args.map (AV.conc r)).toArray w fun e w' => ∃ r', Agree H.length r r' ∧ e = .returned (v.conc r') ∧ Moves r r' H.length upd new w w' := by
  unfold newBE at h
  split at h
  · simp only [Option.some.injEq, Prod.mk.injEq] at h
    obtain ⟨rfl, rfl, rfl, -⟩ := h
    have hrun : fnA Try.prog T7 21 [] [] [] = some (.c (.ptr 1 0), [(.raw (mapO []), 1), (.cells [.mp 0] 65, 1)], []) := by kernel_rfl
    refine (fnA_calls hmx hrun trivial (St.empty id w)).mono ?_
    rintro e w' ⟨r1, -, rfl, hst1⟩
    refine ⟨_, extN_agree r r1 H.length, ?_, Moves.made H.length hst1 (by kernel_rfl) _ rfl⟩
    simp [AV.conc, TV.conc, CV.conc, extN_new]
  · simp at h

def cloneE (args : List AV) (H : AH) : Option (AV × List (Nat × AO) × List AO × Option Prop) :=
  match args with
  | [.tv (.one (.mp i))] => match H[i]? with
    | some (.raw o, _) => some (.c (.mp (H.length + 0)), [], [.raw o], some (IsBk o))
    | _ => none
  | _ => none

theorem cloneE_ok {args : List AV} {H : AH} {v : AV} {upd : List (Nat × AO)} {new : List AO} {pr : Option Prop} (h : cloneE args H = some (v, upd, new, pr)) (hp : Owed pr) (r : Nat → Nat) (W0 w : World) (hst : St r H W0 w) :
    Calls Try.prog 36 (args.map (AV.conc r)).toArray w fun e w' => ∃ r', Agree H.length r r' ∧ e = .returned (v.conc r') ∧ Moves r r' H.length upd new w w' := by
  unfold cloneE at h
  split at h
  · rename_i i
    split at h
    · rename_i o f hi
      simp only [Option.some.injEq, Prod.mk.injEq] at h
      obtain ⟨rfl, rfl, rfl, rfl⟩ := h
      obtain ⟨es, clock, rfl⟩ : ∃ es clock, o = .map es clock := ⟨_, _, hp.some⟩
      refine (clone_any (r i) es clock w (hst.at_ i _ hi)).mono ?_
      rintro e w' ⟨rfl, rfl⟩
      have hs : St (fun _ => w.heap.size) [(.raw (.map es clock), 1)] w (w.alloc (.map es clock)) := ⟨fun k x hx => by
          match k, hx with
          | 0, hx => cases hx; exact heap_alloc_last _ _
          | k + 1, hx => simp at hx, fun a b ha hb _ => by simp at ha hb; omega, fun _ _ _ _ => Nat.le_refl _, rfl, rfl, rfl, by simp, fun b hb _ => Below.heap_alloc _ _ _ hb⟩
      refine ⟨_, extN_agree r (fun _ => w.heap.size) H.length, ?_, Moves.made H.length hs (by kernel_rfl) _ rfl⟩
      simp only [AV.conc, TV.conc, CV.conc]
      rw [extN_new]
    · simp at h
  · simp at h

noncomputable def T8 : CT Try.prog :=
  ((T7.addQ 19 membersQ (by kernel_rfl) fun _ _ _ _ _ h hp r w hat => membersQ_ok h hp r w hat).addE 21 newBE (by kernel_rfl) fun _ _ _ _ _ _ h _ r W0 w hst => newBE_ok h r W0 w hst).addE
    36 cloneE (by kernel_rfl) fun _ _ _ _ _ _ h hp r W0 w hst => cloneE_ok h hp r W0 w hst

/-- The book forked: a map with the same, a book over it. -/
def forkBE (args : List AV) (H : AH) : Option (AV × List (Nat × AO) × List AO × Option Prop) :=
  match args with
  | [x] => match bookAt H x with
    | some (_, _, o) => some (.c (.ptr (H.length + 1) 0), [], [.raw o, .cells [.mp (H.length + 0)] 65], some (IsBk o))
    | none => none
  | _ => none

end Go.Proofs.Ytodcebpdmjdplaa
