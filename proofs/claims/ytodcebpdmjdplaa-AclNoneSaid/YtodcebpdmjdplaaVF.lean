/- The executor, fifteenth part: a function's contract by one run of it. -/
import Derived.Test.YtodcebpdmjdplaaVE
namespace Go.Proofs.Ytodcebpdmjdplaa
open Go.RowKit
variable {P : Program} {T : CT P}

/-- The frame with which a function begins. -/
def startF (fn : Func) (args : List AV) : AF := args ++ List.replicate (fn.ntmps - args.length) .undef

theorem startF_ok (fn : Func) (args : List AV) (r : Nat → Nat) :
    FrameOk r (startF fn args) { tmps := (args.map (AV.conc r)).toArray ++ Array.replicate (fn.ntmps - (args.map (AV.conc r)).toArray.size) Go.undef, defers := [] } := by
  unfold FrameOk startF
  apply Array.ext'
  simp [undef_conc]

/-- A function without a loop: the whole of it. -/
def fnA (P : Program) (T : CT P) (f : FuncId) (args : List AV) (H : AH) (D : List Dec) : Option (AV × AH × List Prop) :=
  match P.funcs[f]? with
  | some fn => match fn.body with
    | some c => match runK P T 100000 [.code c] (startF fn args) H D with
      | some (.ret, F, H', _, ps) => match retA P fn F H' with
        | some v => some (v, H', ps)
        | none => none
      | some (.norm, F, H', _, ps) => match retA P fn F H' with
        | some v => some (v, H', ps)
        | none => none
      | _ => none
    | none => none
  | none => none

theorem callsStart {f : FuncId} {fn : Func} {c : Code} (hf : P.funcs[f]? = some fn) (hb : fn.body = some c) {args : List AV} {r : Nat → Nat} {w : World} {R : Ending → World → Prop}
    (h : kont none 0 P [.code c] (bodyPost P fn R) .normal { tmps := (args.map (AV.conc r)).toArray ++ Array.replicate (fn.ntmps - (args.map (AV.conc r)).toArray.size) Go.undef, defers := [] } w) :
    Calls P f (args.map (AV.conc r)).toArray w R :=
  (callsFw (ro := none) (n := 0)).1 (callsIn_of_wp hf hb trivial h)

theorem bodyPost_of {fn : Func} {F : AF} {H : AH} {v : AV} (hv : retA P fn F H = some v) {r : Nat → Nat} {a : Act} {W0 w : World} (hF : FrameOk r F a) (hst : St r H W0 w) (hd : a.defers = []) {R : Ending → World → Prop}
    (hR : R (.returned (v.conc r)) w) : bodyPost P fn R .ret a w ∧ bodyPost P fn R .normal a w :=
  ⟨⟨hd, _, retA_run hv hF hst, hR⟩, ⟨hd, _, retA_run hv hF hst, hR⟩⟩

theorem fnA_calls (hmx : P.follows .mixedOrders = true) {f : FuncId} {args : List AV} {H H' : AH} {D : List Dec} {v : AV} {ps : List Prop} (h : fnA P T f args H D = some (v, H', ps)) (hps : Holds ps)
    {r : Nat → Nat} {W0 w : World} (hst : St r H W0 w) :
    Calls P f (args.map (AV.conc r)).toArray w fun e w' => ∃ r', Agree H.length r r' ∧ e = .returned (v.conc r') ∧ St r' H' W0 w' := by
  unfold fnA at h
  cases hf : P.funcs[f]? with
  | none => simp [hf] at h
  | some fn =>
    simp only [hf] at h
    cases hb : fn.body with
    | none => simp [hb] at h
    | some c =>
      simp only [hb] at h
      refine callsStart hf hb ?_
      cases hr : runK P T 100000 [.code c] (startF fn args) H D with
      | none => simp [hr] at h
      | some x =>
        obtain ⟨x, F, H1, D1, qs⟩ := x
        simp only [hr] at h
        have fin : ∀ (u : AV), retA P fn F H1 = some u → (x = .ret ∨ x = .norm) → u = v → H1 = H' → qs = ps → kont none 0 P [.code c] (bodyPost P fn fun e w' => ∃ r', Agree H.length r r' ∧ e = .returned (v.conc r') ∧ St r' H' W0 w') .normal
            { tmps := (args.map (AV.conc r)).toArray ++ Array.replicate (fn.ntmps - (args.map (AV.conc r)).toArray.size) Go.undef, defers := [] } w := by
          rintro u hu hx rfl rfl rfl
          refine runK_wp hmx _ _ _ _ _ _ _ _ _ _ hr hps r _ w (startF_ok fn args r) hst fun r' w' a' hag hst' hF' hd => ?_
          have := bodyPost_of hu hF' hst' hd (R := fun e w' => ∃ r', Agree H.length r r' ∧ e = .returned (u.conc r') ∧ St r' H1 W0 w') ⟨r', hag, rfl, hst'⟩
          rcases hx with rfl | rfl
          · exact this.1
          · exact this.2
        cases x with
        | ret =>
          cases hu : retA P fn F H1 with
          | none => simp [hu] at h
          | some u =>
            simp [hu] at h
            exact fin u hu (.inl rfl) h.1 h.2.1 h.2.2
        | norm =>
          cases hu : retA P fn F H1 with
          | none => simp [hu] at h
          | some u =>
            simp [hu] at h
            exact fin u hu (.inr rfl) h.1 h.2.1 h.2.2
        | exit id => simp at h
        | loop b k => simp at h
        | range g p s b k => simp at h

/-- No block of the caller's is known, none is turned. -/
theorem St.empty (r : Nat → Nat) (w : World) : St r [] w w :=
  ⟨fun i x hx => by simp at hx, fun i j hi => by simp at hi, fun i x hx => by simp at hx, rfl, rfl, rfl, Nat.le_refl _, fun _ _ _ => rfl⟩

theorem St.below {r : Nat → Nat} {H : AH} {W0 w : World} (h : St r H W0 w) (hf : (H.all fun x => !Nat.beq x.2 2) = true) : Below W0.heap.size W0 w :=
  ⟨h.os, h.tape, h.output, h.size, fun b hb => h.frame b hb fun i x hx h2 => by
    have := List.all_eq_true.1 hf x (List.mem_of_getElem? hx)
    rw [h2] at this
    simp at this⟩

/-- Values in, a value out: nothing of the caller's memory is looked at. -/
theorem fnA_plain (hmx : P.follows .mixedOrders = true) {f : FuncId} {args : List AV} {H' : AH} {D : List Dec} {v : Value} {ps : List Prop} (h : fnA P T f args [] D = some (.r v, H', ps)) (hps : Holds ps)
    (hf : (H'.all fun x => !Nat.beq x.2 2) = true) (r : Nat → Nat) (w : World) :
    Calls P f (args.map (AV.conc r)).toArray w fun e w' => e = .returned v ∧ Below w.heap.size w w' :=
  (fnA_calls hmx h hps (St.empty r w)).mono fun _ _ ⟨_, _, he, hst⟩ => ⟨he, hst.below hf⟩

/-- The same, and what memory of its own the call has made is forgotten. -/
def fnP (P : Program) (T : CT P) (f : FuncId) (args : List AV) (D : List Dec) : Option (Value × List Prop) :=
  match fnA P T f args [] D with
  | some (.tv (.one (.rig v)), H', ps) => cond (H'.all fun x => !Nat.beq x.2 2) (some (v, ps)) none
  | _ => none

theorem fnP_calls (hmx : P.follows .mixedOrders = true) {f : FuncId} {args : List AV} {D : List Dec} {v : Value} {ps : List Prop} (h : fnP P T f args D = some (v, ps)) (hps : Holds ps) (r : Nat → Nat) (w : World) :
    Calls P f (args.map (AV.conc r)).toArray w fun e w' => e = .returned v ∧ Below w.heap.size w w' := by
  unfold fnP at h
  split at h
  · rename_i v' H' ps' hA
    cases hc : (H'.all fun x => !Nat.beq x.2 2) with
    | false => simp [hc] at h
    | true =>
      simp [hc] at h
      obtain ⟨rfl, rfl⟩ := h
      exact fnA_plain hmx hA hps hc r w
  · simp at h

theorem fnP_leaf (hmx : P.follows .mixedOrders = true) {f : FuncId} {args : List AV} {D : List Dec} {v u : Value} {ps : List Prop} (h : fnP P T f args D = some (v, ps)) (hps : Holds ps) (hu : v = u) (r : Nat → Nat) (w : World) :
    Calls P f (args.map (AV.conc r)).toArray w fun e w' => e = .returned u ∧ Below w.heap.size w w' := hu ▸ fnP_calls hmx h hps r w

end Go.Proofs.Ytodcebpdmjdplaa
