/- A row of records, two of which are exchanged; a row that takes one record more. Conditions: the row is one. -/
import Derived.Test.YtpkeddiaoacfeaaRecElt
namespace Go.Proofs.Ytpkeddiaoacfeaa
open Go.RowKit Go.ChangeShapes Go.Maps
set_option maxRecDepth 100000
set_option linter.unusedVariables false
set_option linter.unusedSimpArgs false

/-- Three cells, from j * 3 on. -/
def put3 (cur : Array Value) (j : Nat) (m : RecC) : Array Value := ((cur.setIfInBounds (j * 3) (.int .u64 m.id)).setIfInBounds (j * 3 + 1) (.int .u64 m.ver)).setIfInBounds (j * 3 + 2) (.slice m.s m.l m.c)
theorem put3_size (cur : Array Value) (j : Nat) (m : RecC) : (put3 cur j m).size = cur.size := by simp [put3]
theorem put3_get (c : Array Value) (j : Nat) (m : RecC) (t : Nat) : (put3 c j m)[t]? = if t / 3 = j then (if t < c.size then (encRC m)[t % 3]? else none) else c[t]? := by
  unfold put3
  by_cases hj : t / 3 = j
  · rw [if_pos hj]
    obtain ⟨r, hr, rfl⟩ : ∃ r, r < 3 ∧ t = j * 3 + r := ⟨t % 3, by omega, by omega⟩
    rw [show (j * 3 + r) % 3 = r by omega]
    by_cases hsz : j * 3 + r < c.size
    · rw [if_pos hsz]
      rcases (by omega : r = 0 ∨ r = 1 ∨ r = 2) with rfl | rfl | rfl
      all_goals simp [Array.getElem?_setIfInBounds, encRC, hsz]
      all_goals try omega
    · rw [if_neg hsz, Array.getElem?_eq_none (by simpa using hsz)]
  · rw [if_neg hj]
    rw [Array.getElem?_setIfInBounds, if_neg (by omega), Array.getElem?_setIfInBounds, if_neg (by omega), Array.getElem?_setIfInBounds, if_neg (by omega)]
theorem box_some3 {w : World} {g : Nat} {cur : Array Value} (hb : Box w g cur) (j : Nat) (hj : j < cur.size) : ∃ u, w.cell? ⟨g, j, none⟩ = some u := ⟨_, (hb.cell j).trans (Array.getElem?_eq_getElem hj)⟩
theorem BoxT.put3 {w : World} {T g : Nat} {cur : Array Value} (h : BoxT w T g cur) (j : Nat) (m : RecC) : BoxT (((w.setCell ⟨g, j * 3, none⟩ (.int .u64 m.id)).setCell ⟨g, j * 3 + 1, none⟩ (.int .u64 m.ver)).setCell ⟨g, j * 3 + 2, none⟩ (.slice m.s m.l m.c)) T g (put3 cur j m) :=
  ((h.set _).set _).set _
theorem Only.put3 {S : Nat → Prop} {w0 w : World} (h : Only S w0 w) {g : Nat} (hg : S g) (j : Nat) (m : RecC) : Only S w0 (((w.setCell ⟨g, j * 3, none⟩ (.int .u64 m.id)).setCell ⟨g, j * 3 + 1, none⟩ (.int .u64 m.ver)).setCell ⟨g, j * 3 + 2, none⟩ (.slice m.s m.l m.c)) :=
  ((h.setCell (.inl hg) _).setCell (.inl hg) _).setCell (.inl hg) _
theorem list_set2' {α : Type} {l : List α} {a k : Nat} {x y : α} (j : Nat) : ((l.set a y).set k x)[j]? = if k = j ∧ j < l.length then some x else if a = j ∧ j < l.length then some y else l[j]? := by
  rw [List.getElem?_set, List.getElem?_set]
  simp only [List.length_set]
  by_cases h1 : k = j <;> by_cases h2 : a = j <;> by_cases h3 : j < l.length <;> simp [h1, h2, h3] <;> omega
theorem swap_perm' {α : Type} {l : List α} {a k : Nat} {x y : α} (ha : l[a]? = some x) (hk : l[k]? = some y) : ((l.set a y).set k x).Perm l := by
  obtain ⟨a1, a2⟩ := List.getElem?_eq_some_iff.1 ha
  obtain ⟨k1, k2⟩ := List.getElem?_eq_some_iff.1 hk
  have h := Array.swap_perm (xs := l.toArray) (i := a) (j := k) (by simpa using a1) (by simpa using k1)
  have h2 := Array.toList_swap l.toArray a k (by simpa using a1) (by simpa using k1)
  rw [Array.perm_iff_toList_perm, h2] at h
  simpa [a2, k2] using h
/-- The cells of a record of a row, named. -/
theorem rec_named {c : Col} {π : List Int} {w : World} {g n cap j : Nat} {L : List Rec} {r : Rec} (h : recE.Row c π w (.slice (some ⟨g, 0, none⟩) n cap) L) (hj : L[j]? = some r) : ∃ m : RecC, (∀ (t : Nat) u, (encRC m)[t]? = some u → w.cell? ⟨g, j * 3 + t, none⟩ = some u) ∧ recRd w (Quiet c w) (encRC m) r ∧ m.id = r.id ∧ m.ver = r.ver := by
  obtain ⟨cs, h1, s, l, cp, rfl, hok, hi⟩ := h.cells hj
  exact ⟨⟨r.id, r.ver, s, l, cp⟩, h1, ⟨s, l, cp, rfl, hok, hi⟩, rfl, rfl⟩
theorem rec_swap {c : Col} {π : List Int} {w w' : World} {g n cap : Nat} {L : List Rec} {a k : Nat} {ea ek : Rec} {ma mk : RecC} {cur : Array Value} (h : recE.Row c π w (.slice (some ⟨g, 0, none⟩) n cap) L) (hf : Fresh c w) (hπ : π ≠ [])
    (ha : L[a]? = some ea) (hk : L[k]? = some ek) (hea : recRd w (Quiet c w) (encRC ma) ea) (hek : recRd w (Quiet c w) (encRC mk) ek) (hb : BoxT w 30 g cur) (hsz : L.length * 3 ≤ cur.size)
    (hb' : BoxT w' 30 g (put3 (put3 cur a mk) k ma)) (ho : Only (· = g) w w') : Stp (· = π) c w c w' ∧ recE.Row c π w' (.slice (some ⟨g, 0, none⟩) n cap) ((L.set a ek).set k ea) := by
  refine h.edit hf hπ (by simp) hb hb' (by rw [put3_size, put3_size]) ho fun j x hj => ?_
  have hjl := (List.getElem?_eq_some_iff.1 hj).1
  simp only [List.length_set] at hjl
  rw [list_set2'] at hj
  by_cases h1 : k = j
  · rw [if_pos ⟨h1, hjl⟩] at hj
    injection hj with hj
    subst hj h1
    refine ⟨encRC ma, fun t u hu => ?_, hea⟩
    have ht : t < 3 := (List.getElem?_eq_some_iff.1 hu).1
    show (put3 (put3 cur a mk) k ma)[k * 3 + t]? = some u
    rw [put3_get, if_pos (by omega), put3_size, if_pos (by omega), show (k * 3 + t) % 3 = t by omega]; exact hu
  · rw [if_neg (fun h => h1 h.1)] at hj
    by_cases h2 : a = j
    · rw [if_pos ⟨h2, hjl⟩] at hj
      injection hj with hj
      subst hj h2
      refine ⟨encRC mk, fun t u hu => ?_, hek⟩
      have ht : t < 3 := (List.getElem?_eq_some_iff.1 hu).1
      show (put3 (put3 cur a mk) k ma)[a * 3 + t]? = some u
      rw [put3_get, if_neg (by omega), put3_get, if_pos (by omega), if_pos (by omega), show (a * 3 + t) % 3 = t by omega]; exact hu
    · rw [if_neg (fun h => h2 h.1)] at hj
      obtain ⟨cs, q1, q2⟩ := h.cells hj
      refine ⟨cs, fun t u hu => ?_, q2⟩
      have ht : t < 3 := by have := recE.len q2; have h9 := (List.getElem?_eq_some_iff.1 hu).1; rw [this] at h9; exact h9
      show (put3 (put3 cur a mk) k ma)[j * 3 + t]? = some u
      rw [put3_get, if_neg (by omega), put3_get, if_neg (by omega), ← hb.box.cell]
      exact q1 t u hu
end Go.Proofs.Ytpkeddiaoacfeaa
