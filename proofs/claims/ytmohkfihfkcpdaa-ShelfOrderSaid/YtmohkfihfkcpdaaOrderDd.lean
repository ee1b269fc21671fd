/- The law's list without doubles. Conditions: none. -/
import Derived.Test.YtmohkfihfkcpdaaOrderPlain
namespace Go.Proofs.Ytmohkfihfkcpdaa
set_option linter.unusedVariables false
/-- As the law holds them against each other. -/
def sameQ (e x : Ent) : Bool := x.value == e.value && (x.rc.id == e.rc.id && (x.rc.ver == e.rc.ver && x.gone == e.gone))
def ddStep (acc : List Ent) (e : Ent) : List Ent := if acc.any (sameQ e) = true then acc else acc ++ [e]
def ddL (l : List Ent) : List Ent := l.foldl ddStep []
theorem ddL_snoc (l : List Ent) (e : Ent) : ddL (l ++ [e]) = ddStep (ddL l) e := by unfold ddL; rw [List.foldl_append]; rfl
theorem ddStep_apart {acc : List Ent} {e : Ent} (h : acc.Pairwise Apart) : (ddStep acc e).Pairwise Apart := by
  unfold ddStep
  split
  · exact h
  · rename_i hn
    rw [List.pairwise_append]
    refine ⟨h, by simp, fun a ha b hb => ?_⟩
    simp only [List.mem_singleton] at hb
    rw [hb]
    rintro ⟨h1, h2, h3, h4⟩
    exact hn (List.any_eq_true.2 ⟨a, ha, by unfold sameQ; simp [h1, h2, h3, h4]⟩)
theorem dd_apart (l : List Ent) : (ddL l).Pairwise Apart := by
  have key : ∀ (l acc : List Ent), acc.Pairwise Apart → (l.foldl ddStep acc).Pairwise Apart := by
    intro l
    induction l with
    | nil => intro acc h; exact h
    | cons e r ih => intro acc h; exact ih _ (ddStep_apart h)
  exact key l [] List.Pairwise.nil
theorem dd_len (l : List Ent) : (ddL l).length ≤ l.length := by
  have key : ∀ (l acc : List Ent), (l.foldl ddStep acc).length ≤ acc.length + l.length := by
    intro l
    induction l with
    | nil => intro acc; simp
    | cons e r ih =>
      intro acc
      rw [List.foldl_cons]
      have := ih (ddStep acc e)
      have h2 : (ddStep acc e).length ≤ acc.length + 1 := by unfold ddStep; split <;> simp
      simp only [List.length_cons]; omega
  have := key l []
  simpa [ddL] using this
theorem any_take {l : List Ent} {p : Ent → Bool} {k : Nat} {x : Ent} (h : l[k]? = some x) : (l.take (k + 1)).any p = ((l.take k).any p || p x) := by
  rw [List.take_add_one, h, Option.toList_some, List.any_append]; simp
end Go.Proofs.Ytmohkfihfkcpdaa
