/- Contracts of what is seen and what is ahead: by runs. -/
import Derived.Test.YtodcebpdmjdplaaA0
import Derived.Test.YtodcebpdmjdplaaVF
namespace Go.Proofs.Ytodcebpdmjdplaa
open Go.RowKit

def Dot.av (d : Dot) : AV := .tv (.agg [.rig (.int .u8 d.a), .rig (.int .u32 d.s)])
def Vec.av (v : Vec) : AV := .tv (.agg [.rig (.int .u32 v.x0), .rig (.int .u32 v.x1), .rig (.int .u32 v.x2), .rig (.int .u32 v.x3), .rig (.int .u32 v.x4), .rig (.int .u32 v.x5), .rig (.int .u32 v.x6), .rig (.int .u32 v.x7)])
def Ev.cvs (e : Ev) : List CV := [.rig (.int .u8 e.d.a), .rig (.int .u32 e.d.s), .rig (.int .u32 e.p.x0), .rig (.int .u32 e.p.x1), .rig (.int .u32 e.p.x2), .rig (.int .u32 e.p.x3), .rig (.int .u32 e.p.x4), .rig (.int .u32 e.p.x5), .rig (.int .u32 e.p.x6), .rig (.int .u32 e.p.x7),
  .rig (.int .u8 e.k), .rig (.int .u8 e.par.a), .rig (.int .u32 e.par.s), .rig (.bool e.right), .rig (.int .u8 e.ch), .rig (.int .u8 e.who), .rig (.int .u8 e.role)]
def Ev.av (e : Ev) : AV := .tv (.agg e.cvs)

theorem hmx : Try.prog.follows .mixedOrders = true := by kernel_rfl

theorem wrap_i64_u8 {x : Int} (h0 : 0 ≤ x) (h1 : x < 256) : IntKind.i64.wrap x = x := by
  exact IntWalk.i64_in _ (by omega)

theorem vec_cv (v : Vec) (n : Nat) (h : n < 8) : [CV.rig (.int .u32 v.x0), CV.rig (.int .u32 v.x1), CV.rig (.int .u32 v.x2), CV.rig (.int .u32 v.x3), CV.rig (.int .u32 v.x4), CV.rig (.int .u32 v.x5), CV.rig (.int .u32 v.x6), CV.rig (.int .u32 v.x7)][n]? = some (.rig (.int .u32 (v.get n))) := by
  match n, h with
  | 0, _ => rfl
  | 1, _ => rfl
  | 2, _ => rfl
  | 3, _ => rfl
  | 4, _ => rfl
  | 5, _ => rfl
  | 6, _ => rfl
  | 7, _ => rfl

theorem has_run (v : Vec) (d : Dot) (hd : d.ok) (r : Nat → Nat) (w : World) :
    Calls Try.prog 39 ([v.av, d.av].map (AV.conc r)).toArray w fun e w' => e = .returned (.bool (hasB v d)) ∧ Below w.heap.size w w' := by
  have a0 := hd.a0
  have a1 := hd.a1
  have hw := wrap_i64_u8 a0 a1
  cases h1 : (decide (IntKind.i64.wrap d.a < 8)) with
  | false =>
    refine fnP_leaf (T := CT.none _) hmx (D := [Dec.s 1005 9 false]) (v := Value.bool false) (ps := [decide (IntKind.i64.wrap d.a < 8) = false]) (by kernel_rfl) ⟨h1, trivial⟩ ?_ r w
    all_goals (
      first
      | (simp [hw] at h1; simp_all [hasB]; done)
      | (simp [hw] at h1; simp [hasB]; omega)
      | (simp [hw] at h1; omega)
      | (simp [hw] at h1; have := vec_cv v d.a.toNat (by omega); simpa using this))
  | true =>
    cases h2 : (d.s != 0) with
    | false =>
      refine fnP_leaf (T := CT.none _) hmx (D := [Dec.s 1005 9 true, Dec.s 1010 14 false]) (v := Value.bool false) (ps := [decide (IntKind.i64.wrap d.a < 8) = true, (d.s != 0) = false]) (by kernel_rfl) ⟨h1, h2, trivial⟩ ?_ r w
      all_goals (
        first
        | (simp [hw] at h1; simp_all [hasB]; done)
        | (simp [hw] at h1; simp [hasB]; omega)
        | (simp [hw] at h1; omega)
        | (simp [hw] at h1; have := vec_cv v d.a.toNat (by omega); simpa using this))
    | true =>
      refine fnP_leaf (T := CT.none _) hmx (D := [Dec.s 1005 9 true, Dec.s 1010 14 true, Dec.l 1015 (TV.one (CV.rig (Value.int IntKind.u32 (v.get d.a.toNat))))]) (v := Value.bool (decide (d.s ≤ v.get d.a.toNat))) (ps := [decide (IntKind.i64.wrap d.a < 8) = true, (d.s != 0) = true, 0 ≤ d.a ∧ d.a < ↑8, [CV.rig (Value.int IntKind.u32 v.x0), CV.rig (Value.int IntKind.u32 v.x1), CV.rig (Value.int IntKind.u32 v.x2), CV.rig (Value.int IntKind.u32 v.x3), CV.rig (Value.int IntKind.u32 v.x4), CV.rig (Value.int IntKind.u32 v.x5), CV.rig (Value.int IntKind.u32 v.x6), CV.rig (Value.int IntKind.u32 v.x7)][0 + d.a.toNat * 1]? = some (CV.rig (Value.int IntKind.u32 (v.get d.a.toNat)))]) (by kernel_rfl) ⟨h1, h2, ?_, ?_, trivial⟩ ?_ r w
      all_goals (
        first
        | (simp [hw] at h1; simp_all [hasB]; done)
        | (simp [hw] at h1; simp [hasB]; omega)
        | (simp [hw] at h1; omega)
        | (simp [hw] at h1; have := vec_cv v d.a.toNat (by omega); simpa using this))


theorem rhas_run (v : Vec) (d : Dot) (hd : d.ok) (r : Nat → Nat) (w : World) :
    Calls Try.prog 20 ([v.av, d.av].map (AV.conc r)).toArray w fun e w' => e = .returned (.bool (hasB v d)) ∧ Below w.heap.size w w' := by
  have a0 := hd.a0
  have a1 := hd.a1
  have s0 := hd.s0
  cases h1 : (decide (d.a < 8)) with
  | false =>
    refine fnP_leaf (T := CT.none _) hmx (D := [Dec.s 1004 8 false]) (v := Value.bool false) (ps := [decide (d.a < 8) = false]) (by kernel_rfl) ⟨h1, trivial⟩ ?_ r w
    all_goals (
      first
      | (simp_all [hasB]; done)
      | (simp at h1; simp_all [hasB]; omega)
      | (simp at h1; omega)
      | (simp at h1; have := vec_cv v d.a.toNat (by omega); simpa using this))
  | true =>
    cases h2 : (decide (d.s > 0)) with
    | false =>
      refine fnP_leaf (T := CT.none _) hmx (D := [Dec.s 1004 8 true, Dec.s 1009 13 false]) (v := Value.bool false) (ps := [decide (d.a < 8) = true, decide (d.s > 0) = false]) (by kernel_rfl) ⟨h1, h2, trivial⟩ ?_ r w
      all_goals (
        first
        | (simp_all [hasB]; done)
        | (simp at h1; simp_all [hasB]; omega)
        | (simp at h1; omega)
        | (simp at h1; have := vec_cv v d.a.toNat (by omega); simpa using this))
    | true =>
      refine fnP_leaf (T := CT.none _) hmx (D := [Dec.s 1004 8 true, Dec.s 1009 13 true, Dec.l 1014 (TV.one (CV.rig (Value.int IntKind.u32 (v.get d.a.toNat))))]) (v := Value.bool (decide (d.s ≤ v.get d.a.toNat))) (ps := [decide (d.a < 8) = true, decide (d.s > 0) = true, 0 ≤ d.a ∧ d.a < ↑8, [CV.rig (Value.int IntKind.u32 v.x0), CV.rig (Value.int IntKind.u32 v.x1), CV.rig (Value.int IntKind.u32 v.x2), CV.rig (Value.int IntKind.u32 v.x3), CV.rig (Value.int IntKind.u32 v.x4), CV.rig (Value.int IntKind.u32 v.x5), CV.rig (Value.int IntKind.u32 v.x6), CV.rig (Value.int IntKind.u32 v.x7)][0 + d.a.toNat * 1]? = some (CV.rig (Value.int IntKind.u32 (v.get d.a.toNat)))]) (by kernel_rfl) ⟨h1, h2, ?_, ?_, trivial⟩ ?_ r w
      all_goals (
        first
        | (simp_all [hasB]; done)
        | (simp at h1; simp_all [hasB]; omega)
        | (simp at h1; omega)
        | (simp at h1; have := vec_cv v d.a.toNat (by omega); simpa using this))


end Go.Proofs.Ytodcebpdmjdplaa
