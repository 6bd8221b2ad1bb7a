/- Both: the two authors. -/
import Derived.Test.YtodcebpdmjdplaaJ24
import Derived.Test.YtodcebpdmjdplaaJ25
import Derived.Test.YtodcebpdmjdplaaJ26
namespace Go.Proofs.Ytodcebpdmjdplaa
open Go.RowKit

theorem kont_codes {ro : Option Nat} {n : Nat} {P : Program} {Q : Exit → Act → World → Prop} {e : Exit} {a : Act} {w : World} (he : e ≠ .normal) : ∀ (l : List Code) (k : List KI), kont ro n P (l.map KI.code ++ k) Q e a w → kont ro n P k Q e a w
  | [], _, h => h
  | c :: l, k, h => by
    refine kont_codes he l k ?_
    cases e with
    | normal => exact absurd rfl he
    | _ => exact h
theorem kont_heads {ro : Option Nat} {n : Nat} {P : Program} {Q : Exit → Act → World → Prop} : ∀ (c : Code) (k : List KI) (a : Act) (w : World), kont ro n P ((headsC c).map KI.code ++ k) Q .normal a w → kont ro n P (.code c :: k) Q .normal a w
  | .seq p q, k, a, w, h => wpIn_seq (Code.wpIn_mono (fun e a' w' h' => by
      cases e with
      | normal => exact kont_heads q k a' w' h'
      | _ => exact kont_codes (by simp) (headsC q) k h') h)
  | .skip, _, _, _, h => h
  | .label _, _, _, _, h => h
  | .region _ _ _, _, _, _, h => h
  | .cond _ _ _, _, _, _, h => h
  | .block _ _, _, _, _, h => h
  | .loop _, _, _, _, h => h
  | .exit _, _, _, _, h => h
  | .ret, _, _, _, h => h
  | .rangeFunc _ _ _ _, _, _, _, h => h
  | .scope _, _, _, _, h => h
  | .goto _, _, _, _, h => h
  | .refuse _, _, _, _, h => h
theorem kont_app {ro : Option Nat} {n : Nat} {P : Program} {Q : Exit → Act → World → Prop} : ∀ (l l' : List KI), kont ro n P (l ++ l') Q = kont ro n P l (kont ro n P l' Q)
  | [], _ => rfl
  | .code c :: l, l' => by simp only [List.cons_append, kont, kont_app l l']
  | .blk _ :: l, l' => by simp only [List.cons_append, kont, kont_app l l']
  | .again _ _ :: l, l' => by simp only [List.cons_append, kont, kont_app l l']

theorem bo_any {x y u v : Int} (hu : 1 ≤ u) (hu7 : u ≤ 7) (hv : 1 ≤ v) (hv7 : v ≤ 7) {G : Nat → Value} {g : Gh} {B : Base} {a : Act} {w : World} (hF : FrameOk g (maskF [5, 6] (boF x y u v) G) a) (hst : St g [] B w) (hd : a.defers = []) :
    kont none 0 Try.prog (boK.drop 2) (bodyPost Try.prog (fnOf Try.prog 6) (boR B)) .normal a w := by
  have h1 : u = 1 ∨ u = 2 ∨ u = 3 ∨ u = 4 ∨ u = 5 ∨ u = 6 ∨ u = 7 := by omega
  have h2 : v = 1 ∨ v = 2 ∨ v = 3 ∨ v = 4 ∨ v = 5 ∨ v = 6 ∨ v = 7 := by omega
  rcases h1 with rfl | rfl | rfl | rfl | rfl | rfl | rfl
  · rcases h2 with rfl | rfl | rfl | rfl | rfl | rfl | rfl
    · exact bo_11 hF hst hd
    · exact bo_12 hF hst hd
    · exact bo_13 hF hst hd
    · exact bo_14 hF hst hd
    · exact bo_15 hF hst hd
    · exact bo_16 hF hst hd
    · exact bo_17 hF hst hd
  · rcases h2 with rfl | rfl | rfl | rfl | rfl | rfl | rfl
    · exact bo_21 hF hst hd
    · exact bo_22 hF hst hd
    · exact bo_23 hF hst hd
    · exact bo_24 hF hst hd
    · exact bo_25 hF hst hd
    · exact bo_26 hF hst hd
    · exact bo_27 hF hst hd
  · rcases h2 with rfl | rfl | rfl | rfl | rfl | rfl | rfl
    · exact bo_31 hF hst hd
    · exact bo_32 hF hst hd
    · exact bo_33 hF hst hd
    · exact bo_34 hF hst hd
    · exact bo_35 hF hst hd
    · exact bo_36 hF hst hd
    · exact bo_37 hF hst hd
  · rcases h2 with rfl | rfl | rfl | rfl | rfl | rfl | rfl
    · exact bo_41 hF hst hd
    · exact bo_42 hF hst hd
    · exact bo_43 hF hst hd
    · exact bo_44 hF hst hd
    · exact bo_45 hF hst hd
    · exact bo_46 hF hst hd
    · exact bo_47 hF hst hd
  · rcases h2 with rfl | rfl | rfl | rfl | rfl | rfl | rfl
    · exact bo_51 hF hst hd
    · exact bo_52 hF hst hd
    · exact bo_53 hF hst hd
    · exact bo_54 hF hst hd
    · exact bo_55 hF hst hd
    · exact bo_56 hF hst hd
    · exact bo_57 hF hst hd
  · rcases h2 with rfl | rfl | rfl | rfl | rfl | rfl | rfl
    · exact bo_61 hF hst hd
    · exact bo_62 hF hst hd
    · exact bo_63 hF hst hd
    · exact bo_64 hF hst hd
    · exact bo_65 hF hst hd
    · exact bo_66 hF hst hd
    · exact bo_67 hF hst hd
  · rcases h2 with rfl | rfl | rfl | rfl | rfl | rfl | rfl
    · exact bo_71 hF hst hd
    · exact bo_72 hF hst hd
    · exact bo_73 hF hst hd
    · exact bo_74 hF hst hd
    · exact bo_75 hF hst hd
    · exact bo_76 hF hst hd
    · exact bo_77 hF hst hd

theorem both_ctr {x y : Int} (hx : 0 ≤ x) (hy : 0 ≤ y) : CtrQ Try.prog 6 [.r (.int .u8 x), .r (.int .u8 y)] [] (.b true) := by
  intro r w hst0
  suffices hh : Calls Try.prog 6 (([.r (.int .u8 x), .r (.int .u8 y)].map (AV.conc r)).toArray) w (boR (rd r w)) from hh.mono fun e w' ⟨h1, g, H, h2⟩ => ⟨h1, h2.belowR⟩
  refine (callsFw (ro := none) (n := 0)).1 (callsInStart (fn := fnOf Try.prog 6) (c := bodyOf Try.prog 6) (by kernel_rfl) (by kernel_rfl) fun a0 hF hd => ?_)
  refine kont_heads (bodyOf Try.prog 6) [] _ _ ?_
  rw [List.append_nil, show (headsC (bodyOf Try.prog 6)).map KI.code = boK.take 2 ++ boK.drop 2 from (List.take_append_drop 2 boK).symm, kont_app]
  refine list_wp hmx TH [] [] .norm (by kernel_rfl) (by kernel_rfl) trivial hF hst0 fun g1 w1 a1 hag1 hst1 hF1 hd1 => ?_
  have w8 : ∀ z : Int, 0 ≤ z → 1 ≤ IntKind.u8.wrap (z.tmod 7 + 1) ∧ IntKind.u8.wrap (z.tmod 7 + 1) ≤ 7 := fun z hz => by
    have h1 : z.tmod 7 = z % 7 := Int.tmod_eq_emod_of_nonneg hz
    have h2 : IntKind.u8.wrap (z.tmod 7 + 1) = z % 7 + 1 := by
      rw [h1]
      simp [IntKind.wrap, IntKind.bits, IntKind.signed]; omega
    rw [h2]; omega
  obtain ⟨-, g5, G5, hag5, hF5, hst5, hd5⟩ := next_inv (σ := Unit) (n0 := 0) (live := [5, 6]) (F := fun _ => boF x y (IntKind.u8.wrap (x.tmod 7 + 1)) (IntKind.u8.wrap (y.tmod 7 + 1))) (H := fun _ => []) (inv := fun _ => True) (s' := ()) trivial (Agree.refl 0 r) (hag1.mono (Nat.zero_le _)) (by kernel_rfl) hF1 hst1 (hd1.trans hd) (by kernel_rfl) (by kernel_rfl) (by kernel_rfl)
  exact bo_any (w8 x hx).1 (w8 x hx).2 (w8 y hy).1 (w8 y hy).2 hF5 hst5 hd5

end Go.Proofs.Ytodcebpdmjdplaa
