/- Rows of one's own: their shape, their cells. Conditions: none. -/
import Derived.Test.YtdpamikobmefeaaGreatCol
namespace Go.Proofs.YtdpamikobmefeaaGreat
open Go.RowKit Go.ChangeShapes
set_option linter.unusedVariables false

theorem owns_shape {w : World} {base e size n : Nat} {v : Value} {xs : List Value} (h : w.ownsRow base e size v n xs) : ∃ A cap, v = .slice A n cap ∧ n ≤ cap ∧ cap ≤ 9223372036854775807 ∧ (A = none → n = 0 ∧ cap = 0) ∧
    ∀ ad, A = some ad → ∃ g cur, ad = ⟨g, 0, none⟩ ∧ BoxT w e g cur ∧ cur.size = cap * size ∧ cur.toList.take (n * size) = xs := by
  rcases h.2 with ⟨rfl, rfl⟩ | ⟨g, cap, cur, rfl, hg, hh, hn, hc, hs, ht⟩
  · exact ⟨none, 0, rfl, by omega, by omega, (fun _ => ⟨rfl, rfl⟩), (fun ad ha => by cases ha)⟩
  · refine ⟨_, cap, rfl, hn, by unfold maxLen at hc; omega, (fun h => by cases h), fun ad ha => ?_⟩
    injection ha with ha
    exact ⟨g, cur, ha.symm, hh, hs, ht⟩

theorem owns_cell {w : World} {base e n : Nat} {v : Value} {xs : List Value} (h : w.ownsRow base e 1 v n xs) {i : Nat} {x : Value} (hx : xs[i]? = some x) : ∃ g cap, v = .slice (some ⟨g, 0, none⟩) n cap ∧ w.cell? ⟨g, i, none⟩ = some x ∧ v.ownBlock = some g := by
  have hl : xs.length = n := by have := h.1; simpa using this
  have hi := (List.getElem?_eq_some_iff.1 hx).1
  rcases h.2 with ⟨rfl, h0⟩ | ⟨g, cap, cur, rfl, hg, hh, hn, hc, hs, ht⟩
  · omega
  · refine ⟨g, cap, rfl, ?_, rfl⟩
    have hbox : Box w g cur := ⟨e, hh⟩
    rw [hbox.cell i]
    rw [← ht, List.getElem?_take_of_lt (by omega), Array.getElem?_toList] at hx
    exact hx

theorem ownsRow_only {S : Nat → Prop} {w w' : World} {base e size n : Nat} {v : Value} {xs : List Value} (h : w.ownsRow base e size v n xs) (ho : Only S w w') (hn : ∀ g, v.ownBlock = some g → ¬ S g) : w'.ownsRow base e size v n xs := by
  refine ⟨h.1, ?_⟩
  rcases h.2 with h2 | ⟨g, cap, cur, rfl, hg, hh, h3⟩
  · exact .inl h2
  · exact .inr ⟨g, cap, cur, rfl, hg, by rw [ho.block g (Array.getElem?_eq_some_iff.1 hh).1 (hn g rfl)]; exact hh, h3⟩
end Go.Proofs.YtdpamikobmefeaaGreat
