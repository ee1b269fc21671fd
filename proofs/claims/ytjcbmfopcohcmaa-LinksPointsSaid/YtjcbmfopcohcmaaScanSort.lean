/- What a sort makes of a scan's row. Conditions: none. -/
import Derived.Test.YtjcbmfopcohcmaaScanRow
namespace Go.Proofs.Ytjcbmfopcohcmaa
open Go.RowKit Go.ChangeShapes Go.Maps Go.Sort
set_option maxRecDepth 100000
set_option linter.unusedVariables false
set_option linter.unusedSimpArgs false

theorem ec_get {M : List EntC} {t : Nat} (h : t < M.length * 5) : (ecCells M)[t]? = some ((encE M.toArray[t / 5]!)[t % 5]!) := by
  have h1 : t / 5 < M.length := by omega
  have h2 : t % 5 < 5 := by omega
  have h3 := ecCells_at (List.getElem?_eq_getElem h1) (t % 5) h2
  rw [show t / 5 * 5 + t % 5 = t by omega] at h3
  rw [h3]
  have e1 : M.toArray[t / 5]! = M[t / 5] := by simp [h1]
  rw [e1]
  have h4 : t % 5 < (encE M[t / 5]).length := h2
  rw [List.getElem?_eq_getElem h4, getElem!_pos (encE M[t / 5]) (t % 5) h4]
theorem flat_get {d : Array EntC} {t : Nat} (h : t < d.size * 5) : (ecCells d.toList)[t]? = some ((flatK encE 5 d)[t]!) := by
  rw [ec_get (by simpa using h), get_flatK _ _ _ _ h]
theorem scan_holds {w : World} {base n g cap : Nat} {M : List EntC} (h : w.ownsRow base 36 5 (.slice (some ⟨g, 0, none⟩) n cap) M.length (ecCells M)) : HoldsK encE 5 w g 0 M.toArray := by
  rcases h.2 with ⟨h0, _⟩ | ⟨g', cap', cur, he, hb, hh, hn, hc, hs, ht⟩
  · cases h0
  · injection he with he _ _
    injection he with he
    injection he with he
    subst he
    intro j hj
    rw [size_flatK] at hj
    have hbox : Box w g cur := ⟨_, hh⟩
    refine ⟨?_, hbox.free _⟩
    rw [Nat.zero_add, hbox.cell]
    have h1 := flat_get hj
    rw [← ht] at h1
    rw [List.getElem?_take_of_lt (by simpa using hj), Array.getElem?_toList] at h1
    exact h1
theorem scan_owned {w : World} {base n g cap : Nat} {M : List EntC} (h : w.ownsRow base 36 5 (.slice (some ⟨g, 0, none⟩) n cap) M.length (ecCells M)) (d : Array EntC) (hd : d.size = M.length) (m : Nat) (os : Array Obj) :
    (sortWorldK encE 5 w g 0 m d os).ownsRow base 36 5 (.slice (some ⟨g, 0, none⟩) n cap) d.toList.length (ecCells d.toList) := by
  rcases h.2 with ⟨h0, _⟩ | ⟨g', cap', cur, he, hb, hh, hn, hc, hs, ht⟩
  · cases h0
  · have hen := he
    injection he with he e2 e3
    injection he with he
    injection he with he
    subst he
    refine ⟨ecCells_len _, .inr ⟨g, cap', putCells id 0 (flatK encE 5 d) cur, ?_, hb, ?_, ?_, hc, ?_, ?_⟩⟩
    · rw [hen]; simp [hd]
    · show ((w.heap.modify g _) ++ os)[g]? = _
      have hlt := (Array.getElem?_eq_some_iff.1 hh).1
      rw [Array.getElem?_append_left (by simpa using hlt), Array.getElem?_modify, if_pos rfl, hh]
      rfl
    · simpa [hd] using hn
    · simp [putCells, hs]
    · apply List.ext_getElem?
      intro t
      by_cases hlt : t < d.size * 5
      · rw [List.getElem?_take_of_lt (by simpa using hlt), Array.getElem?_toList, flat_get hlt]
        have hcur : t < cur.size := by rw [hs]; rw [hd] at hlt; exact Nat.lt_of_lt_of_le hlt (Nat.mul_le_mul_right 5 hn)
        simp [putCells, hcur, hlt]
      · rw [List.getElem?_eq_none (by simp; omega), List.getElem?_eq_none (by rw [ecCells_len]; simpa using hlt)]
theorem scan_sorted {base : Nat} {F : EntC → Ent} {w : World} {g n cap : Nat} {M : List EntC} (h : ScanRow base F w (.slice (some ⟨g, 0, none⟩) n cap) M) (d : Array EntC) (hp : d.toList.Perm M) (m : Nat) (os : Array Obj) :
    ScanRow base F (sortWorldK encE 5 w g 0 m d os) (.slice (some ⟨g, 0, none⟩) n cap) d.toList where
  row := scan_owned h.row d (by simpa using hp.length_eq) m os
  ents c hc := (h.ents c (hp.mem_iff.1 hc)).move fun b hb hlt => by
    have ho := sort_only encE 5 w g 0 m d os
    exact ⟨ho.block b hlt (fun e => hb.2.2 (by show some g = some b; rw [e])), hb.1, Nat.lt_of_lt_of_le hlt ho.size, hb.2.2⟩
theorem perm_in {M : List EntC} {d : Array EntC} (h : PermIn 0 M.toArray.size M.toArray d) : d.toList.Perm M := by
  obtain ⟨h1, _, h3⟩ := h
  rw [Array.extract_eq_self_of_le (by omega), Array.extract_eq_self_of_le (Nat.le_refl _)] at h3
  simpa using h3
theorem sorted_in {f : Int} {d : Array EntC} (h : SortedIn (ltOf (scanC f)) 0 d.size d) : d.toList.Pairwise (fun x y => ltOf (scanC f) y x = false) := by
  rw [List.pairwise_iff_getElem]
  intro i j hi hj hij
  have := h i j (Nat.zero_le _) hij (by simpa using hj)
  simp only [Array.length_toList] at hi hj
  rw [getElem!_pos d i hi, getElem!_pos d j hj] at this
  simpa using this
end Go.Proofs.Ytjcbmfopcohcmaa
