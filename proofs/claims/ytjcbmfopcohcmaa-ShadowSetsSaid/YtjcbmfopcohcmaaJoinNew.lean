/- Join of entries of new keys: all of them are put. Conditions: none. -/
import Derived.Test.YtjcbmfopcohcmaaShelfJoin
namespace Go.Proofs.Ytjcbmfopcohcmaa
set_option linter.unusedVariables false

theorem joinF_new {R l : List Ent} (hlen : R.length + l.length ≤ 10000) (hk : ∀ e ∈ l, findE R e.value e.rc.id = none) (hd : l.Pairwise (fun a b => ¬ (a.value = b.value ∧ a.rc.id = b.rc.id))) : joinF R l = (R ++ l, l.length) := by
  have key : ∀ (l R : List Ent) (n : Nat), R.length + l.length ≤ 10000 → (∀ e ∈ l, findE R e.value e.rc.id = none) → l.Pairwise (fun a b => ¬ (a.value = b.value ∧ a.rc.id = b.rc.id)) →
      l.foldl (fun a e => ((putF a.1 e).1, a.2 + (if (putF a.1 e).2.1 then 1 else 0))) (R, n) = (R ++ l, n + l.length) := by
    intro l
    induction l with
    | nil => intro R n _ _ _; simp
    | cons e r ih =>
      intro R n h1 h2 h3
      obtain ⟨p1, p2⟩ := List.pairwise_cons.1 h3
      simp only [List.length_cons] at h1
      have hp : putF R e = (R ++ [e], true, 0) := by
        unfold putF
        rw [h2 e (by simp)]
        simp only
        rw [if_neg (by omega)]
      rw [List.foldl_cons]
      simp only [hp, if_true]
      rw [ih (R ++ [e]) (n + 1) (by rw [List.length_append, List.length_singleton]; omega) (fun x hx => ?_) p2]
      · rw [List.append_assoc, List.length_cons]
        show (R ++ ([e] ++ r), n + 1 + r.length) = (R ++ (e :: r), n + (r.length + 1))
        rw [show n + 1 + r.length = n + (r.length + 1) by omega]; rfl
      · have h4 := h2 x (by simp [hx])
        unfold findE at h4 ⊢
        rw [List.find?_append, h4, Option.none_or, List.find?_cons_of_neg]
        · rfl
        · intro h5
          exact p1 x hx (ekB_iff.1 h5)
  have := key l R 0 hlen hk hd
  rw [Nat.zero_add] at this
  exact this
end Go.Proofs.Ytjcbmfopcohcmaa
