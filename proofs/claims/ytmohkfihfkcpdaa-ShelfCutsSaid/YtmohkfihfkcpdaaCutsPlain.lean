/- The plain law of ShelfCuts: what is cut, and what is left, is all. Conditions: the entries are a shelf's. -/
import Derived.Test.YtmohkfihfkcpdaaScanL
import Derived.Test.YtmohkfihfkcpdaaJoinNew
namespace Go.Proofs.Ytmohkfihfkcpdaa
open Go.RowKit Go.ChangeShapes Go.Maps
set_option linter.unusedVariables false

theorem cuts_none (f t : Int) (L : List Ent) : scanL f t (L.filter (fun e => !hasE f t e)) = [] := by
  refine List.eq_nil_of_length_eq_zero ?_
  rw [scanL_len, List.filter_filter, List.length_eq_zero_iff, List.filter_eq_nil_iff]
  intro e _
  simp
theorem filter_both {α : Type} (p : α → Bool) : ∀ L : List α, (L.filter (fun e => !p e) ++ L.filter p).Perm L
  | [] => List.Perm.refl _
  | x :: r => by
    have ih := filter_both p r
    cases h : p x
    · rw [List.filter_cons_of_pos (by simp [h]), List.filter_cons_of_neg (by simp [h]), List.cons_append]
      exact ih.cons x
    · rw [List.filter_cons_of_neg (by simp [h]), List.filter_cons_of_pos (by simp [h])]
      exact List.perm_middle.trans (ih.cons x)
theorem cuts_perm (f t : Int) (L : List Ent) : (L.filter (fun e => !hasE f t e) ++ scanL f t L).Perm L := ((scanL_perm f t L).append_left _).trans (filter_both _ L)
theorem cuts_len (f t : Int) (L : List Ent) : (L.filter (fun e => !hasE f t e)).length + (scanL f t L).length = L.length := by
  have := (cuts_perm f t L).length_eq
  rwa [List.length_append] at this
theorem cuts_join {f t : Int} {L : List Ent} (h : ShelfOk L) (hL : L.length ≤ 10000) : joinF (L.filter (fun e => !hasE f t e)) (scanL f t L) = (L.filter (fun e => !hasE f t e) ++ scanL f t L, (scanL f t L).length) := by
  refine joinF_new (by rw [cuts_len]; exact hL) (fun e he => ?_) (h.scan f t).1
  obtain ⟨h1, h2⟩ := scanL_mem.1 he
  refine List.find?_eq_none.2 fun y hy hk => ?_
  obtain ⟨h3, h4⟩ := List.mem_filter.1 hy
  obtain ⟨k1, k2⟩ := ekB_iff.1 hk
  rw [h.one y h3 e h1 k1 k2, h2] at h4
  cases h4
/-- What the law holds against each other. -/
theorem cuts_law {f t : Int} {L : List Ent} (h : ShelfOk L) (hL : L.length ≤ 10000) : ∃ all cut L2 L3 : List Ent, scanL f f L = all ∧ scanL f t L = cut ∧ L.filter (fun e => !hasE f t e) = L2 ∧ scanL f t L2 = [] ∧ joinF L2 cut = (L3, cut.length) ∧ scanL f f L3 = all ∧ L2.length + cut.length = all.length ∧ all.length ≤ 10000 :=
  ⟨_, _, _, _, rfl, rfl, rfl, cuts_none f t L, cuts_join h hL, scanL_congr h (cuts_perm f t L).symm, by rw [cuts_len, (scanL_all h).length_eq], by rw [(scanL_all h).length_eq]; exact hL⟩
end Go.Proofs.Ytmohkfihfkcpdaa
