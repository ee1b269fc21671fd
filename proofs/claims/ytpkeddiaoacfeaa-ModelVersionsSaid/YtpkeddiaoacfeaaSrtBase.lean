/- A row of whole numbers that is sorted: words. Conditions: none. -/
import Derived.Test.YtpkeddiaoacfeaaBin
import Derived.Sort.AssemblyPlain
import Derived.BigRegion
import Derived.RegionTactic
import Derived.Outline
namespace Go.Proofs.Ytpkeddiaoacfeaa
open Go.RowKit Go.Sort
set_option linter.unusedVariables false
set_option linter.unusedSimpArgs false

/-- The first cells are d, the rest is as it was. -/
def layI (k : IntKind) (C0 : Array Value) (d : Array Int) : Array Value := C0.mapIdx fun i v => if i < d.size then .int k d[i]! else v
/-- Block b is a row of d, of C0 besides; of the old blocks it alone may have turned. -/
structure RowI (k : IntKind) (T : TypeId) (C0 : Array Value) (w0 : World) (b : Nat) (d : Array Int) (w : World) : Prop where
  box : BoxT w T b (layI k C0 d)
  fits : d.size ≤ C0.size
  only : Only (· = b) w0 w
section
variable {k : IntKind} {T : TypeId} {C0 : Array Value} {w0 w w' : World} {b i j : Nat} {d d' : Array Int}
theorem layI_at (h : d.size ≤ C0.size) (hi : i < d.size) : (layI k C0 d)[i]? = some (.int k d[i]!) := by
  unfold layI
  rw [Array.getElem?_mapIdx, Array.getElem?_eq_getElem (by omega)]
  simp [hi]
theorem layI_set (h : d.size ≤ C0.size) (hi : i < d.size) (x : Int) : (layI k C0 d).setIfInBounds i (.int k x) = layI k C0 (d.setIfInBounds i x) := by
  apply Array.ext_getElem?
  intro t
  unfold layI
  rw [Array.getElem?_setIfInBounds, Array.getElem?_mapIdx, Array.getElem?_mapIdx]
  by_cases ht : t < C0.size
  · by_cases hit : i = t
    · subst hit
      simp [ht, hi]
    · simp only [hit, if_false, Array.size_setIfInBounds]
      rw [Array.getElem?_eq_getElem ht]
      by_cases htd : t < d.size
      · simp [htd, hit]
      · simp [htd]
  · rw [Array.getElem?_eq_none (by omega)]
    split
    · subst_vars; simp; omega
    · rfl
theorem RowI.cell (h : RowI k T C0 w0 b d w) (hi : i < d.size) : w.cell? ⟨b, i, none⟩ = some (.int k d[i]!) := by
  rw [h.box.box.cell, layI_at h.fits hi]
theorem RowI.free (h : RowI k T C0 w0 b d w) : ∀ i, w.frozen? ⟨b, i, none⟩ = false := h.box.box.free
theorem RowI.lt (h : RowI k T C0 w0 b d w) : b < w.heap.size := h.box.lt
theorem RowI.start (hb : BoxT w T b (layI k C0 d)) (hf : d.size ≤ C0.size) : RowI k T C0 w b d w := ⟨hb, hf, Only.refl _ _⟩
theorem RowI.later (h : RowI k T C0 w0 b d w) (hb : Below w.heap.size w w') : RowI k T C0 w0 b d w' := ⟨h.box.below hb h.lt, h.fits, h.only.trans (Only.of_below hb)⟩
theorem RowI.drewN (h : RowI k T C0 w0 b d w) (n : Nat) : RowI k T C0 w0 b d (w.drewN n) := ⟨h.box, h.fits, h.only.drewN n⟩
theorem RowI.drew (h : RowI k T C0 w0 b d w) : RowI k T C0 w0 b d w.drew := ⟨h.box, h.fits, h.only.drew⟩
theorem RowI.drewD (h : RowI k T C0 w0 b d w) (hd : Drew w w') : RowI k T C0 w0 b d w' := by obtain ⟨n, rfl⟩ := hd; exact h.drewN n
theorem RowI.besides {S : Nat → Prop} (h : RowI k T C0 w0 b d w) (ho : Only S w w') (hb : ¬ S b) (hn : ∀ i, S i → w0.heap.size ≤ i) : RowI k T C0 w0 b d w' :=
  ⟨h.box.only ho hb, h.fits, ⟨ho.os.trans h.only.os, ho.tape.trans h.only.tape, ho.output.trans h.only.output, Nat.le_trans h.only.size ho.size, fun i hi hne => (ho.block i (Nat.lt_of_lt_of_le hi h.only.size) (fun hs => by have := hn i hs; omega)).trans (h.only.block i hi hne)⟩⟩
theorem RowI.set (h : RowI k T C0 w0 b d w) (hi : i < d.size) (x : Int) : RowI k T C0 w0 b (d.setIfInBounds i x) (w.setCell ⟨b, i, none⟩ (.int k x)) :=
  ⟨by have := h.box.set (i := i) (.int k x); rwa [layI_set h.fits hi] at this, by simpa using h.fits, h.only.setCell (.inl rfl) _⟩
theorem RowI.second (h : RowI k T C0 w0 b d w) (hi : i < d.size) (hj : j < d.size) (x : Int) : ∃ z, (w.setCell ⟨b, i, none⟩ (.int k x)).cell? ⟨b, j, none⟩ = some (.int k z) :=
  ⟨_, (h.set hi x).cell (by simpa using hj)⟩
theorem RowI.swap (h : RowI k T C0 w0 b d w) (hi : i < d.size) (hj : j < d.size) : RowI k T C0 w0 b (swp d i j) ((w.setCell ⟨b, i, none⟩ (.int k d[j]!)).setCell ⟨b, j, none⟩ (.int k d[i]!)) :=
  (h.set hi d[j]!).set (by simpa using hj) d[i]!
theorem RowI.swap2 (h : RowI k T C0 w0 b d w) (hi : i < d.size) (hj : j < d.size) : RowI k T C0 w0 b (swp d i j) ((w.setCell ⟨b, j, none⟩ (.int k d[i]!)).setCell ⟨b, i, none⟩ (.int k d[j]!)) := by
  have h1 := (h.set hj d[i]!).set (i := i) (by simpa using hi) d[j]!
  have e : (d.setIfInBounds j d[i]!).setIfInBounds i d[j]! = swp d i j := by
    unfold swp
    apply Array.ext_getElem?
    intro t
    simp only [Array.getElem?_setIfInBounds, Array.size_setIfInBounds]
    by_cases h1 : i = t
    · by_cases h2 : j = t
      · subst h1; subst h2; simp
      · subst h1; simp [h2]
    · by_cases h2 : j = t
      · subst h2; simp [h1]
      · simp [h1, h2]
  rwa [e] at h1
end
/-- An owned row, as a row that is sorted. -/
theorem rowI_of_owns {k : IntKind} {w : World} {base e n cap g : Nat} {xs : List Int} (h : w.ownsRow base e 1 (.slice (some ⟨g, 0, none⟩) n cap) n (xs.map (Value.int k))) :
    ∃ C0 : Array Value, C0.size = cap ∧ xs.length = n ∧ n ≤ cap ∧ cap ≤ maxLen ∧ base ≤ g ∧ RowI k e C0 w g xs.toArray w := by
  have hl : xs.length = n := by have := h.1; simpa using this
  rcases h.2 with ⟨h0, _⟩ | ⟨g', cap', cur, he, hb, hh, hn, hc, hs, ht⟩
  · cases h0
  · injection he with he e2 e3
    injection he with he
    injection he with he
    subst he e3
    have hs' : cur.size = cap := by simpa using hs
    refine ⟨cur, hs', hl, hn, hc, hb, RowI.start ?_ (by simp; omega)⟩
    have e1 : layI k cur xs.toArray = cur := by
      apply Array.ext_getElem?
      intro t
      unfold layI
      rw [Array.getElem?_mapIdx]
      by_cases ht' : t < cur.size
      · rw [Array.getElem?_eq_getElem ht']
        by_cases htn : t < xs.length
        · have h1 := congrArg (fun l => l[t]?) ht
          simp only [Nat.mul_one] at h1
          rw [List.getElem?_take_of_lt (by omega), Array.getElem?_toList, Array.getElem?_eq_getElem ht', List.getElem?_map, List.getElem?_eq_getElem htn] at h1
          simp only [Option.map_some, Option.some.injEq] at h1
          simp [htn, h1]
        · simp [htn]
      · rw [Array.getElem?_eq_none (by omega)]; rfl
    show w.heap[g]? = _
    rw [e1]; exact hh
theorem owns_of_rowI {k : IntKind} {w0 w : World} {base e n cap g : Nat} {C0 : Array Value} {d : Array Int} (h : RowI k e C0 w0 g d w) (hb : base ≤ g) (hd : d.size = n) (hn : n ≤ cap) (hc : cap ≤ maxLen) (hs : C0.size = cap) :
    w.ownsRow base e 1 (.slice (some ⟨g, 0, none⟩) n cap) n (d.toList.map (Value.int k)) := by
  refine ⟨by simp [hd], .inr ⟨g, cap, layI k C0 d, rfl, hb, h.box, hn, hc, by simp [layI, hs], ?_⟩⟩
  apply List.ext_getElem?
  intro t
  by_cases ht : t < n
  · rw [List.getElem?_take_of_lt (by omega), Array.getElem?_toList, layI_at h.fits (by omega), List.getElem?_map, Array.getElem?_toList, Array.getElem?_eq_getElem (by omega)]
    simp [getElem!_pos d t (by omega)]
  · rw [List.getElem?_eq_none (by simp; omega), List.getElem?_eq_none (by simp; omega)]
end Go.Proofs.Ytpkeddiaoacfeaa
