/- The document's shelf: Cut. Conditions: it is one. -/
import Derived.Test.YtjcbmfopcohcmaaRefScan
import Derived.Test.YtjcbmfopcohcmaaRefJoin
namespace Go.Proofs.Ytjcbmfopcohcmaa
open Go.RowKit Go.ChangeShapes Go.Maps
set_option maxRecDepth 100000
set_option linter.unusedVariables false
set_option linter.unusedSimpArgs false

/-- Colours that keep data data, and all else apart. -/
def dataCol (c : Col) : Col := fun k => if c k = [] then [] else [9]
theorem data_still {c : Col} {w : World} {b : Nat} : Still (dataCol c) w b ↔ Still c w b := by
  unfold Still dataCol
  by_cases h : c b = []
  · rw [if_pos h]; simp [h]
  · rw [if_neg h]; simp [h]
theorem data_fresh {c : Col} {w : World} (h : Fresh c w) : Fresh (dataCol c) w := fun k hk => if_pos (h k hk)
theorem data_below {c c' : Col} {w w' : World} (h : Stp (· = [8]) (dataCol c) w c' w') : Below w.heap.size w w' :=
  h.below (Nat.le_refl _) fun k _ hk => by unfold dataCol at hk; split at hk <;> cases hk
/-- The row made beside is the object's own from now on. -/
theorem data_own {c c' : Col} {π : List Int} {w w' : World} {v : Value} {L : List Ent} (hf : Fresh c w) (h : Stp (· = [8]) (dataCol c) w c' w') (hr : EntRow c' [8] w' v L) : ∃ c'', Stp (· = π) c w c'' w' ∧ EntRow c'' π w' v L := by
  have hne : ∀ k, k < w.heap.size → c' k ≠ [8] := fun k hk => by
    rw [h.col k hk]; unfold dataCol; split <;> simp
  refine ⟨fun k => if k < w.heap.size then c k else if c' k = [8] then π else [], ⟨Only.of_below (data_below h), fun k hk => if_pos hk, fun k hk => ?_⟩, hr.recolor (fun k hk => ?_) fun k hk => ?_⟩
  · have := h.only.size
    show (if _ then _ else _) = _
    rw [if_neg (by omega), h.fresh k hk]; simp
  · show (if _ then _ else _) = _
    by_cases hlt : k < w.heap.size
    · rw [if_pos hlt]
      rw [h.col k hlt] at hk
      unfold dataCol at hk
      by_cases h0 : c k = []
      · exact h0
      · rw [if_neg h0] at hk; cases hk
    · rw [if_neg hlt, hk]; simp
  · show (if _ then _ else _) = _
    by_cases hlt : k < w.heap.size
    · exact absurd hk (hne k hlt)
    · rw [if_neg hlt, if_pos hk]

end Go.Proofs.Ytjcbmfopcohcmaa
