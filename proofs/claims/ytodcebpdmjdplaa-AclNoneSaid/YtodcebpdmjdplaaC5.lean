/- The book: what its map holds; the iterator over those that count, are about a member, and were seen. -/
import Derived.Test.YtodcebpdmjdplaaC4
import Derived.Test.YtodcebpdmjdplaaVH
import Derived.Laws.IdiomRangeMap
namespace Go.Proofs.Ytodcebpdmjdplaa
open Go.RowKit

abbrev Bk := List (Ev × Bool)

def entCvs (p : Ev × Bool) : List CV := p.1.cvs ++ [.rig (.bool p.2)]
def entAv (p : Ev × Bool) : AV := .tv (.agg (entCvs p))
def entV (p : Ev × Bool) : Value := (entAv p).conc fun _ => 0
def entM (p : (Ev × Bool) × Nat) : MapEntry := { key := p.1.1.d.v, val := entV p.1, born := p.2 }
def esOf (L : Bk) : Array MapEntry := (L.zipIdx.map entM).toArray
def mapO (L : Bk) : Obj := .map (esOf L) L.length

def relB (who : Int) (v : Vec) (p : Ev × Bool) : Bool := p.2 && p.1.who == who && hasB v p.1.d
def aboutL (L : Bk) (who : Int) (v : Vec) : List Ev := (L.filter (relB who v)).map (·.1)

theorem entV_conc (p : Ev × Bool) (r : Nat → Nat) : (entAv p).conc r = entV p := rfl
theorem dotV_conc (d : Dot) (r : Nat → Nat) : d.av.conc r = d.v := rfl
theorem evV_conc (e : Ev) (r : Nat → Nat) : e.av.conc r = e.v := rfl

theorem es_born (L : Bk) : ∀ x ∈ (esOf L).toList, x.born < L.length := fun x hx => by
  simp only [esOf, List.mem_map] at hx
  obtain ⟨⟨p, i⟩, hp, rfl⟩ := hx
  have := List.mem_zipIdx hp
  simp [entM]; omega

theorem es_nodup (L : Bk) : ((esOf L).toList.map (·.born)).Nodup := by
  have : (esOf L).toList.map (·.born) = L.zipIdx.map (·.2) := by
    show (L.zipIdx.map entM).map (·.born) = _
    rw [List.map_map]; rfl
  rw [this, List.zipIdx_map_snd]
  exact List.nodup_range'

/-- What has come, when these have been seen. -/
def cameL (L : Bk) (seen : Array Nat) (who : Int) (v : Vec) : List Ev := (L.zipIdx.filter fun z => seen.contains z.2 && relB who v z.1).map (·.1.1)

theorem came_none (L : Bk) (who : Int) (v : Vec) : cameL L #[] who v = [] := by simp [cameL]

theorem filter_push {α : Type} (c : α → Bool) (seen : Array Nat) (p : α) (i : Nat) : ∀ (Z : List (α × Nat)), (Z.map (·.2)).Nodup → (p, i) ∈ Z → seen.contains i = false →
    (Z.filter fun z => (seen.push i).contains z.2 && c z.1).Perm ((Z.filter fun z => seen.contains z.2 && c z.1) ++ if c p then [(p, i)] else [])
  | [], _, h, _ => by simp at h
  | z :: Z, hn, h, hs => by
    simp only [List.map_cons, List.nodup_cons] at hn
    have hsame : ∀ (Y : List (α × Nat)), (∀ y ∈ Y, y.2 ≠ i) → (Y.filter fun z => (seen.push i).contains z.2 && c z.1) = Y.filter fun z => seen.contains z.2 && c z.1 := fun Y hY => by
      refine List.filter_congr fun y hy => ?_
      have : ((seen.push i).contains y.2) = seen.contains y.2 := by
        rw [Bool.eq_iff_iff]; simp [hY y hy]
      rw [this]
    rcases List.mem_cons.1 h with e | h'
    · subst e
      have hY : ∀ y ∈ Z, y.2 ≠ i := fun y hy e => hn.1 (List.mem_map.2 ⟨y, hy, e⟩)
      rw [List.filter_cons, List.filter_cons, hsame Z hY]
      have h1 : (seen.push i).contains i = true := by simp
      simp only [h1, hs, Bool.true_and, Bool.false_and]
      by_cases hc : c p
      · simp only [hc, if_true, Bool.false_eq_true, if_false]
        exact (List.perm_append_singleton _ _).symm
      · simp [hc]
    · have ih := filter_push c seen p i Z hn.2 h' hs
      have hz : z.2 ≠ i := fun e => hn.1 (List.mem_map.2 ⟨(p, i), h', e.symm⟩)
      have h1 : ((seen.push i).contains z.2) = seen.contains z.2 := by rw [Bool.eq_iff_iff]; simp [hz]
      rw [List.filter_cons, List.filter_cons, h1]
      split
      · exact ih.cons z
      · exact ih

theorem came_push (L : Bk) (seen : Array Nat) (who : Int) (v : Vec) (p : Ev × Bool) (i : Nat) (h : (p, i) ∈ L.zipIdx) (hs : seen.contains i = false) :
    (cameL L (seen.push i) who v).Perm (cameL L seen who v ++ if relB who v p then [p.1] else []) := by
  have hn : (L.zipIdx.map (·.2)).Nodup := by
    rw [List.zipIdx_map_snd]; exact List.nodup_range'
  have := (filter_push (relB who v) seen p i L.zipIdx hn h hs).map (·.1.1)
  refine this.trans ?_
  rw [List.map_append]
  refine List.Perm.append_left _ ?_
  split <;> simp

theorem came_all (L : Bk) (seen : Array Nat) (who : Int) (v : Vec) (h : (leftOf (esOf L) seen).size = 0) : cameL L seen who v = aboutL L who v := by
  have h1 := all_seen (esOf L) seen h
  unfold cameL aboutL
  have : (L.zipIdx.filter fun z => seen.contains z.2 && relB who v z.1) = L.zipIdx.filter fun z => relB who v z.1 := by
    refine List.filter_congr fun z hz => ?_
    have := h1 (entM z) (by simp only [esOf, List.mem_map]; exact ⟨z, hz, rfl⟩)
    simp only [entM] at this
    rw [this, Bool.true_and]
  rw [this]
  have e : (L.filter (relB who v)) = (L.zipIdx.filter fun z => relB who v z.1).map (·.1) := by
    conv => lhs; rw [← List.zipIdx_map_fst 0 L, List.filter_map]
    rfl
  rw [e, List.map_map]
  rfl

theorem came_sub (L : Bk) (seen : Array Nat) (who : Int) (v : Vec) : ∀ e ∈ cameL L seen who v, e ∈ aboutL L who v := fun e he => by
  simp only [cameL, List.mem_map, List.mem_filter, Bool.and_eq_true] at he
  obtain ⟨⟨p, i⟩, ⟨h1, h2, h3⟩, rfl⟩ := he
  simp only [aboutL, List.mem_map, List.mem_filter]
  refine ⟨p, ⟨?_, h3⟩, rfl⟩
  have := List.mem_zipIdx' h1
  exact this.2 ▸ List.getElem_mem _

theorem came_len (L : Bk) (seen : Array Nat) (who : Int) (v : Vec) : (cameL L seen who v).length ≤ L.length := by
  unfold cameL
  rw [List.length_map]
  exact Nat.le_trans (List.length_filter_le _ _) (by simp)

/-- The boxes of 'about', the book, its map. -/
structure Abt (b M x0 x1 x2 : Nat) (who : Int) (v : Vec) (L : Bk) (W : World) : Prop where
  book : W.heap[b]? = some (.cells #[.map (some M)] 65 (0, 0))
  map_ : W.heap[M]? = some (mapO L)
  c0 : W.heap[x0]? = some (.cells #[.pointer (some ⟨b, 0, none⟩)] 32 (0, 0))
  c1 : W.heap[x1]? = some (.cells #[.int .u8 who] 5 (0, 0))
  c2 : W.heap[x2]? = some (.cells v.cells 27 (0, 0))

theorem Abt.later {b M x0 x1 x2 : Nat} {who : Int} {v : Vec} {L : Bk} {W W' : World} {n : Nat} (h : Abt b M x0 x1 x2 who v L W) (hb : Below n W W') (h1 : b < n) (h2 : M < n) (h3 : x0 < n) (h4 : x1 < n) (h5 : x2 < n) : Abt b M x0 x1 x2 who v L W' :=
  ⟨(hb.block _ h1).trans h.book, (hb.block _ h2).trans h.map_, (hb.block _ h3).trans h.c0, (hb.block _ h4).trans h.c1, (hb.block _ h5).trans h.c2⟩

theorem lt_of_at {W : World} {i : Nat} {o : Obj} (h : W.heap[i]? = some o) : i < W.heap.size := (Array.getElem?_eq_some_iff.1 h).1


end Go.Proofs.Ytodcebpdmjdplaa
