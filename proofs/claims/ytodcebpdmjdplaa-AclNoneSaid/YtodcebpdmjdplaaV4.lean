/- The executor, fourth part: one operation that leaves the world alone: what it comes to, where it looks, what it owes. -/
import Derived.Test.YtodcebpdmjdplaaV3
namespace Go.Proofs.Ytodcebpdmjdplaa
open Go.RowKit
variable {P : Program}

abbrev QR := Option (AV × List Nat × Option Prop)

def partA (P : Program) (t : TypeId) (cs : List CV) (off : Nat) : Option TV :=
  match aggB P t with
  | some true => match sizeA P t with
    | some n => some (.agg ((cs.drop off).take n))
    | none => none
  | some false => match cs[off]? with
    | some c => some (.one c)
    | none => none
  | none => none

theorem partA_run {t : TypeId} {cs : List CV} {off : Nat} {v : TV} (h : partA P t cs off = some v) (r : Nat → Nat) (w : World) :
    (part t (cs.map (CV.conc r)).toArray off).run P w = .ok (v.conc r) w := by
  unfold partA at h
  cases hg : aggB P t with
  | none => simp [hg] at h
  | some b =>
    cases b with
    | true =>
      cases hs : sizeA P t with
      | none => simp [hg, hs] at h
      | some n =>
        simp [hg, hs] at h; subst h
        simp only [part, Sem.run_bind, run_isAgg_of hg, Result.andThen_ok, if_true, run_sizeOf_of hs, Sem.run_pure, TV.conc]
        simp [List.extract_eq_take_drop]
    | false =>
      cases hc : cs[off]? with
      | none => simp [hg, hc] at h
      | some c =>
        simp [hg, hc] at h; subst h
        simp only [part, Sem.run_bind, run_isAgg_of hg, Result.andThen_ok, Bool.false_eq_true, if_false]
        simp [hc, TV.conc]

def boolOf : AV → Option Bool
  | .tv (.one (.rig (.bool b))) => some b
  | _ => none
theorem boolOf_conc {v : AV} {b : Bool} (h : boolOf v = some b) (r : Nat → Nat) : v.conc r = .bool b := by
  unfold boolOf at h; split at h <;> simp at h; subst h; rfl

def pickA (c a b : AV) : QR :=
  match boolOf c with
  | some x =>
    match boolOf a, boolOf b with
    | some p, some q => some (.b (cond x p q), [], none)
    | _, _ => some (cond x a b, [], none)
  | none => none

def nilCheckA : AV → QR
  | .tv (.one (.ptr i o)) => some (.c (.ptr i o), [], none)
  | .tv (.one (.clo f c)) => some (.c (.clo f c), [], none)
  | _ => none

def fieldAtA (P : Program) (s : TypeId) (x : AV) (f : Nat) : QR :=
  match x, P.underlying s with
  | .tv (.one (.ptr i o)), some (.struct fs) =>
    match fs[f]? with
    | some fd => match sizeA P fd.type with
      | some n => cond (Nat.beq n 0) none (some (.c (.ptr i (o + fd.offset)), [], none))
      | none => none
    | none => none
  | _, _ => none

def fieldA (P : Program) (s : TypeId) (x : AV) (f : Nat) : QR :=
  match x, P.underlying s with
  | .tv (.agg l), some (.struct fs) =>
    match fs[f]? with
    | some fd => match partA P fd.type l fd.offset with
      | some v => some (.tv v, [], none)
      | none => none
    | none => none
  | _, _ => none

def indexAtA (P : Program) (t : TypeId) (x ix : AV) : QR :=
  match x, ix, P.underlying t with
  | .tv (.one (.ptr i o)), .tv (.one (.rig (.int _ n))), some (.array len e) =>
    match sizeA P e with
    | some s => some (.c (.ptr i (o + n.toNat * s)), [], some (0 ≤ n ∧ n < (len : Int)))
    | none => none
  | .tv (.one (.slc i o len _)), .tv (.one (.rig (.int _ n))), some (.slice e) =>
    match sizeA P e with
    | some s => some (.c (.ptr i (o + n.toNat * s)), [], some (0 ≤ n ∧ n < (len : Int)))
    | none => none
  | _, _, _ => none

def notA : AV → QR
  | .tv (.one (.rig (.bool b))) => some (.b (!b), [], none)
  | _ => none

def convA (P : Program) (s d : TypeId) (x : AV) : QR :=
  match x, P.underlying s, P.underlying d with
  | .tv (.one (.rig (.int _ n))), some _, some (.int k) => some (.r (.int k (k.wrap n)), [], none)
  | _, _, _ => none

def capsA : List AV → Option (List (Nat × Nat))
  | [] => some []
  | .tv (.one (.ptr i o)) :: l => match capsA l with
    | some r => some ((i, o) :: r)
    | none => none
  | _ => none

def extractA (x : AV) (k : Nat) : QR :=
  match x with
  | .tup l => match l[k]? with
    | some v => some (.tv v, [], none)
    | none => none
  | _ => none

def lenA (P : Program) (t : TypeId) (x : AV) : QR :=
  match x, P.underlying t with
  | .tv (.one (.slc _ _ n _)), some (.slice _) => some (.r (.int .i64 n), [], none)
  | .tv (.one (.rig (.slice none n _))), some (.slice _) => some (.r (.int .i64 n), [], none)
  | _, _ => none

def sliceWholeA (P : Program) (t : TypeId) (x : AV) : QR :=
  match x, P.underlying t with
  | .tv (.one (.ptr i o)), some (.array n e) => match sizeA P e with
    | some _ => some (.c (.slc i o n n), [], none)
    | none => none
  | _, _ => none

/-- One operation. -/
def qOp (P : Program) (ev : Operand → AV) (H : AH) (op : Op) : QR :=
  match op with
  | .move x => some (ev x, [], none)
  | .assign x => some (ev x, [], none)
  | .pick c a b => pickA (ev c) (ev a) (ev b)
  | .nilCheck x => nilCheckA (ev x)
  | .fieldAddr s x f => fieldAtA P s (ev x) f
  | .field s x f => fieldA P s (ev x) f
  | .indexAddr t x i => indexAtA P t (ev x) (ev i)
  | .load t x =>
    match ev x with
    | .tv (.one (.ptr i o)) => match loadA P H t i o with
      | some v => some (.tv v, [i], none)
      | none => none
    | _ => none
  | .binOp o t x y _ => match binA P o t (ev x) (ev y) with
    | some v => some (.r v, [], none)
    | none => none
  | .unOp .not _ x => notA (ev x)
  | .convert s d x => convA P s d (ev x)
  | .extract x k => extractA (ev x) k
  | .makeFunc (.func f) first caps => match first.size, capsA (caps.toList.map ev) with
    | 0, some l => some (.c (.clo f l), [], none)
    | _, _ => none
  | .slice t x none none none => sliceWholeA P t (ev x)
  | .call c => match c.callee, c.args.toList, c.argTypes.toList with
    | .builtin .len, [x], [t] => lenA P t (ev x)
    | _, _, _ => none
  | _ => none

end Go.Proofs.Ytodcebpdmjdplaa
