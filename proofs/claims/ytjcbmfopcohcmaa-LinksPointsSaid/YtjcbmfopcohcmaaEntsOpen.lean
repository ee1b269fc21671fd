/- A law's slice of entries, opened: what it reads as. Conditions: none. -/
import Derived.Test.YtjcbmfopcohcmaaShelfJoin
import Derived.Test.YtjcbmfopcohcmaaStructs
namespace Go.Proofs.Ytjcbmfopcohcmaa
open Go.RowKit Go.ChangeShapes
set_option linter.unusedVariables false

theorem ents_at {w : World} {v : Value} {y : (Sh.sl (.st shEntC) 56).T} (h : Sh.Rep w (· < w.heap.size) (.sl (.st shEntC) 56) [v] y) : ∃ A n cap l, v = .slice A n cap ∧ n ≤ cap ∧ n * 56 ≤ 140737488351232 ∧ EntsAt w (· < w.heap.size) A n cap l := by
  classical
  obtain ⟨A, n, cap, h1, h2, h3, h4, h5, h6, h7⟩ := structs_of (s := .st shEntC) (by decide) h
  simp only [List.cons.injEq, and_true] at h1
  by_cases hn : 0 < n
  · obtain ⟨b, off, hA, hd, hc⟩ := h7 hn
    have key : ∀ j, j < n → ∃ e : Ent, ∃ c : EntC, (∀ t u, (encE c)[t]? = some u → w.cell? ⟨b, off + j * 5 + t, none⟩ = some u) ∧ EntNew w (· < w.heap.size) c e := by
      intro j hj
      obtain ⟨cl, z, hz, hl, hcell, hr⟩ := hc j hj
      obtain ⟨e, s, l, c, hcl, hok, hi⟩ := ent_cells (y := z) hr
      refine ⟨e, ⟨e.value, e.rc.id, e.rc.ver, s, l, c, e.gone⟩, fun t u hu => ?_, rfl, rfl, rfl, rfl, hok, hi⟩
      have ht : t < 5 := (List.getElem?_eq_some_iff.1 hu).1
      have h9 := hcell t ht
      rw [hcl] at h9
      rw [show off + j * 5 + t = off + (j * (Sh.st shEntC).size + t) by show _ = off + (j * 5 + t); omega, h9]
      exact hu
    refine ⟨A, n, cap, (List.range n).map fun j => if q : ∃ e : Ent, ∃ c : EntC, (∀ t u, (encE c)[t]? = some u → w.cell? ⟨b, off + j * 5 + t, none⟩ = some u) ∧ EntNew w (· < w.heap.size) c e then q.choose else noEnt, h1, h3, h5, by simp, by omega, fun _ => ⟨b, off, hA, hd, fun j e he => ?_⟩⟩
    rw [List.getElem?_map] at he
    obtain ⟨j', hj', hee⟩ := Option.map_eq_some_iff.1 he
    have hjl := (List.getElem?_eq_some_iff.1 hj').1
    rw [List.length_range] at hjl
    have : j' = j := by
      have := (List.getElem?_eq_some_iff.1 hj').2
      rw [List.getElem_range] at this
      exact this.symm
    subst this
    rw [dif_pos (key j' hjl)] at hee
    rw [← hee]
    exact (key j' hjl).choose_spec
  · obtain rfl : n = 0 := by omega
    exact ⟨A, 0, cap, [], h1, h3, h5, rfl, by omega, fun h => absurd h hn⟩
end Go.Proofs.Ytjcbmfopcohcmaa
