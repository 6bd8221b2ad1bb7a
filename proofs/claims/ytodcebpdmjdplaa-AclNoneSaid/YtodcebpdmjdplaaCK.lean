/- A nil book. -/
import Derived.Test.YtodcebpdmjdplaaCJ
namespace Go.Proofs.Ytodcebpdmjdplaa
open Go.RowKit

def nilBoxAt (H : AH) (i : Nat) : Bool :=
  match H[i]? with
  | some (.cells [.rig (.pointer none)] t, _) => Nat.beq t 32
  | _ => false
theorem nilBoxAt_eq {H : AH} {i : Nat} (h : nilBoxAt H i = true) : ∃ f, H[i]? = some (.cells [.rig (.pointer none)] 32, f) := by
  unfold nilBoxAt at h
  split at h
  · rename_i t f hi
    obtain rfl := Nat.eq_of_beq_eq_true h
    exact ⟨_, hi⟩
  · cases h
def zero8At (H : AH) (i : Nat) : Bool :=
  match H[i]? with
  | some (.cells [.rig (.int .u8 0), .rig (.int .u8 0), .rig (.int .u8 0), .rig (.int .u8 0), .rig (.int .u8 0), .rig (.int .u8 0), .rig (.int .u8 0), .rig (.int .u8 0)] t, _) => Nat.beq t 43
  | _ => false
theorem zero8At_eq {H : AH} {i : Nat} (h : zero8At H i = true) : ∃ f, H[i]? = some (.cells zeroVec.cv8 43, f) := by
  unfold zero8At at h
  split at h
  · rename_i t f hi
    obtain rfl := Nat.eq_of_beq_eq_true h
    exact ⟨_, hi⟩
  · cases h

def memb1NE (args : List AV) (H : AH) : Option (AV × List (Nat × AO) × List AO × Option Prop) :=
  match args with
  | [.tv (.one (.rig (.int .i64 n))), .tv (.one (.ptr i 0)), .tv (.one (.ptr j 0)), .tv (.one (.ptr k 0))] =>
    match vecAt H j with
    | some _ => cond (nilBoxAt H i && zero8At H k) (some (.tup [], [(k, .cells zeroVec.cv8 43)], [], some (0 ≤ n ∧ n < 8))) none
    | none => none
  | _ => none

theorem memb1NE_ok {args : List AV} {H : AH} {v : AV} {upd : List (Nat × AO)} {new : List AO} {pr : Option Prop} (h : memb1NE args H = some (v, upd, new, pr)) (hp : Owed pr) (r : Nat → Nat) (W0 w : World) (hst : St r H W0 w) :
    Calls Try.prog 31 (args.map (AV.conc r)).toArray w fun e w' => ∃ r', Agree H.length r r' ∧ e = .returned (v.conc r') ∧ Moves r r' H.length upd new w w' := by
  unfold memb1NE at h
  split at h
  · rename_i n i j k
    split at h
    · rename_i vv hv
      cases hc : (nilBoxAt H i && zero8At H k) with
      | false => simp [hc] at h
      | true =>
        simp only [hc, cond_true, Option.some.injEq, Prod.mk.injEq] at h
        obtain ⟨rfl, rfl, rfl, rfl⟩ := h
        simp only [Bool.and_eq_true] at hc
        obtain ⟨hn0, hn8⟩ := hp.some
        obtain ⟨f1, h1⟩ := nilBoxAt_eq hc.1
        obtain ⟨f2, h2⟩ := vecAt_eq hv
        obtain ⟨f3, h3⟩ := zero8At_eq hc.2
        have hs := hst.sub [i, j, k] (nilH vv) (fun q y hy => by
          match q, hy with
          | 0, hy => cases hy; exact ⟨f1, h1⟩
          | 1, hy => cases hy; exact ⟨f2, h2⟩
          | 2, hy => cases hy; exact ⟨f3, h3⟩
          | q + 3, hy => simp [nilH] at hy) (by kernel_rfl) (by kernel_rfl)
        obtain ⟨q, rfl⟩ : ∃ q : Nat, n = (q : Int) := ⟨n.toNat, by omega⟩
        have hr := memb1N_run vv q (by omega) hs
        have e1 : (([.r (.int .i64 (q : Int)), .c (.ptr 0 0), .c (.ptr 1 0), .c (.ptr 2 0)].map (AV.conc fun z => r (pick [i, j, k] z))).toArray) = (([AV.tv (.one (.rig (.int .i64 (q : Int)))), .tv (.one (.ptr i 0)), .tv (.one (.ptr j 0)), .tv (.one (.ptr k 0))].map (AV.conc r)).toArray) := rfl
        rw [e1] at hr
        refine hr.mono ?_
        rintro y w' ⟨rfl, hst'⟩
        refine ⟨r, Agree.refl _ _, rfl, Moves.sub [i, j, k] hst' _ (fun z x hzx => ?_) fun z y hy h2 => ?_⟩
        · simp only [List.mem_singleton, Prod.mk.injEq] at hzx
          obtain ⟨rfl, rfl⟩ := hzx
          exact ⟨2, _, rfl, rfl, rfl⟩
        · match z, hy with
          | 0, hy => cases hy; cases h2
          | 1, hy => cases hy; cases h2
          | 2, hy => exact ⟨_, List.mem_singleton.2 rfl⟩
          | z + 3, hy => simp [nilH] at hy
    · simp at h
  · simp at h

noncomputable def T9n : CT Try.prog := T9.addE 31 memb1NE (by kernel_rfl) fun _ _ _ _ _ _ h hp r W0 w hst => memb1NE_ok h hp r W0 w hst

end Go.Proofs.Ytodcebpdmjdplaa
