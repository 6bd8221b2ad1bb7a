/- The executor, nineteenth part: a contract at few blocks is one at many. -/
import Derived.Test.YtodcebpdmjdplaaVI
namespace Go.Proofs.Ytodcebpdmjdplaa
open Go.RowKit
variable {P : Program} {T : CT P}

def CV.ren (f : Nat → Nat) : CV → CV
  | .rig v => .rig v
  | .ptr i o => .ptr (f i) o
  | .slc i o n c => .slc (f i) o n c
  | .mp i => .mp (f i)
  | .clo g caps => .clo g (caps.map fun p => (f p.1, p.2))
def AO.ren (f : Nat → Nat) : AO → AO
  | .cells cs t => .cells (cs.map (CV.ren f)) t
  | .raw o => .raw o

theorem CV.ren_conc (f r : Nat → Nat) (c : CV) : (c.ren f).conc r = c.conc fun i => r (f i) := by
  cases c <;> simp [CV.ren, CV.conc, Function.comp_def]
theorem AO.ren_conc (f r : Nat → Nat) (o : AO) : (o.ren f).conc r = o.conc fun i => r (f i) := by
  cases o with
  | cells cs t => simp [AO.ren, AO.conc, CV.ren_conc, Function.comp_def]
  | raw o => rfl

/-- The numbers of a list. -/
def pick (l : List Nat) (k : Nat) : Nat := l.getD k 0
def hasIds (H : AH) (l : List Nat) (Hs : AH) : Prop := ∀ (i : Nat) (x : AO × Nat), Hs[i]? = some x → ∃ g, H[pick l i]? = some (x.1.ren (pick l), g)

theorem St.sub {r : Nat → Nat} {H : AH} {W0 w : World} (hst : St r H W0 w) (l : List Nat) (Hs : AH) (hs : hasIds H l Hs) (hinj : apartH Hs = true) (hf : Hs.all (fun x => !Nat.beq x.2 1) = true) : St (fun i => r (pick l i)) Hs w w :=
  St.read (fun i x hx => by
    obtain ⟨g, hg⟩ := hs i x hx
    rw [hst.at_ _ _ hg, AO.ren_conc]) hinj hf

theorem St.subAt {r : Nat → Nat} {H : AH} {w : World} {ft : List Nat} (hat : ∀ i ∈ ft, ∀ x, H[i]? = some x → w.heap[r i]? = some (x.1.conc r)) (l : List Nat) (Hs : AH) (hs : hasIds H l Hs) (hft : ∀ i, i < Hs.length → pick l i ∈ ft) (hinj : apartH Hs = true) (hf : Hs.all (fun x => !Nat.beq x.2 1) = true) : St (fun i => r (pick l i)) Hs w w :=
  St.read (fun i x hx => by
    obtain ⟨g, hg⟩ := hs i x hx
    rw [hat _ (hft i (List.getElem?_eq_some_iff.1 hx).1) _ hg, AO.ren_conc]) hinj hf

theorem Moves.sub {r : Nat → Nat} {Hk : AH} {w w' : World} {n : Nat} (l : List Nat) (h : St (fun i => r (pick l i)) Hk w w') (upd : List (Nat × AO)) (hu : ∀ i o, (i, o) ∈ upd → ∃ k x, Hk[k]? = some x ∧ pick l k = i ∧ o = x.1.ren (pick l)) (hk : ∀ k x, Hk[k]? = some x → x.2 = 2 → ∃ o, (pick l k, o) ∈ upd) : Moves r r n upd [] w w' := by
  refine ⟨fun i o hio => ?_, fun j o hj => by simp at hj, fun j hj => by simp at hj, fun j k hj => by simp at hj, h.os, h.tape, h.output, h.size, fun b hb hn => h.frame b hb fun k x hx h2 => ?_⟩
  · obtain ⟨k, x, hx, rfl, rfl⟩ := hu i o hio
    rw [AO.ren_conc]
    exact h.at_ k x hx
  · obtain ⟨o, ho⟩ := hk k x hx h2
    exact hn _ o ho

/-- Numbers for new blocks. -/
def extN (r r1 : Nat → Nat) (n : Nat) : Nat → Nat := fun j => if j < n then r j else r1 (j - n)
theorem extN_old {r r1 : Nat → Nat} {n j : Nat} (h : j < n) : extN r r1 n j = r j := if_pos h
theorem extN_new {r r1 : Nat → Nat} {n j : Nat} : extN r r1 n (n + j) = r1 j := by
  unfold extN; rw [if_neg (by omega), Nat.add_sub_cancel_left]
theorem extN_agree (r r1 : Nat → Nat) (n : Nat) : Agree n r (extN r r1 n) := fun _ hj => extN_old hj

/-- What a call at no known block has made. -/
theorem Moves.made {r r1 : Nat → Nat} {Hn : AH} {w w' : World} (n : Nat) (h : St r1 Hn w w') (hf : Hn.all (fun x => Nat.beq x.2 1) = true) (new : List AO) (hnew : new = Hn.map fun x => x.1.ren (fun j => n + j)) : Moves r (extN r r1 n) n [] new w w' := by
  subst hnew
  have hflag : ∀ (j : Nat) (x : AO × Nat), Hn[j]? = some x → x.2 = 1 := fun j x hx => by
    have := List.all_eq_true.1 hf x (List.mem_of_getElem? hx); simpa using this
  refine ⟨fun i o hio => by simp at hio, fun j o hj => ?_, fun j hj => ?_, fun j k hj hk e => ?_, h.os, h.tape, h.output, h.size, fun b hb _ => h.frame b hb fun i x hx h2 => by rw [hflag i x hx] at h2; cases h2⟩
  · rw [List.getElem?_map] at hj
    cases hx : Hn[j]? with
    | none => simp [hx] at hj
    | some x =>
      simp [hx] at hj
      subst hj
      rw [extN_new, h.at_ j x hx, AO.ren_conc]
      have : (fun i => extN r r1 n (n + i)) = r1 := funext fun i => extN_new
      rw [this]
  · rw [extN_new]
    simp only [List.length_map] at hj
    exact h.own j _ (List.getElem?_eq_getElem hj) (hflag j _ (List.getElem?_eq_getElem hj))
  · rw [extN_new, extN_new] at e
    simp only [List.length_map] at hj hk
    exact h.inj j k hj hk e

end Go.Proofs.Ytodcebpdmjdplaa
