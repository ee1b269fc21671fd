/- A slice of structs that is handed in, read element by element. Conditions: an element has cells. -/
import Derived.Test.YtdpamikobmefeaaGreatCol
set_option linter.unusedVariables false
namespace Go.Proofs.YtdpamikobmefeaaGreat
open Go.RowKit Go.ChangeShapes

theorem structs_of {w : World} {D : Nat → Prop} {s : Sh} {bytes : Nat} {cs : List Value} {y : List s.T} (hs : 0 < s.size) (h : Sh.Rep w D (.sl s bytes) cs y) :
    ∃ A n cap, cs = [.slice A n cap] ∧ y.length = n ∧ n ≤ cap ∧ cap ≤ 9223372036854775807 ∧ n * bytes ≤ 140737488351232 ∧ (A = none → cap = 0) ∧
      (0 < n → ∃ b off, A = some ⟨b, off, none⟩ ∧ D b ∧ ∀ j, j < n → ∃ (cl : List Value) (x : s.T), y[j]? = some x ∧ cl.length = s.size ∧ (∀ t, t < s.size → w.cell? ⟨b, off + (j * s.size + t), none⟩ = cl[t]?) ∧ Sh.Rep w D s cl x) := by
  obtain ⟨A, n, cap, rfl, h1, h2, h3, h4, h5, h6⟩ := h
  have hl : y.length = n := h1
  refine ⟨A, n, cap, rfl, hl, h2, by unfold maxLen at h3; omega, h4, h5, fun hn => ?_⟩
  rcases A with _ | ad
  · have := h5 rfl; omega
  · obtain ⟨hd0, c0, hc0, hcc0, _⟩ := h6 ad rfl 0 (y[0]'(by omega)) (List.getElem?_eq_getElem (l := y) (by omega))
    have hsp : ad.spot = none := by
      have h0 := hcc0 0 hs
      rw [List.getElem?_eq_getElem (by omega)] at h0
      have := World.cell?_spot h0
      simpa [Addr.add] using this
    have e1 : ∀ j, ad.add j = ⟨ad.block, ad.off + j, none⟩ := by
      intro j
      unfold Addr.add; split
      · rename_i h; subst h; cases ad; simp_all
      · rfl
    refine ⟨ad.block, ad.off, by cases ad; simp_all, hd0, fun j hj => ?_⟩
    obtain ⟨_, c, hc, hcc, hr⟩ := h6 ad rfl j (y[j]'(by omega)) (List.getElem?_eq_getElem (l := y) (by omega))
    exact ⟨c, y[j]'(by omega), List.getElem?_eq_getElem (by omega), hc, fun t ht => by rw [← e1]; exact hcc t ht, hr⟩
end Go.Proofs.YtdpamikobmefeaaGreat
