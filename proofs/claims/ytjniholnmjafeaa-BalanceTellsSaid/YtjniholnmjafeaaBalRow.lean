/- Rows of loads that a call has made: their cells; what append makes of them. Conditions: none. -/
import Derived.Test.YtjniholnmjafeaaLoads
import Derived.Test.YtjniholnmjafeaaApp
namespace Go.Proofs.Ytjniholnmjafeaa
open Go.RowKit Go.ChangeShapes
set_option linter.unusedVariables false

/-- The cells of loads. -/
def ldCells : List Ld → List Value
  | [] => []
  | x :: r => .int .u32 x.pt :: .int .i64 x.en :: ldCells r
theorem ldCells_len : ∀ l : List Ld, (ldCells l).length = l.length * 2
  | [] => rfl
  | x :: r => by simp only [ldCells, List.length_cons, ldCells_len r]; omega
theorem ldCells_app : ∀ l r : List Ld, ldCells (l ++ r) = ldCells l ++ ldCells r
  | [], r => rfl
  | x :: l, r => by simp only [List.cons_append, ldCells, ldCells_app l r]
theorem ldCells_at : ∀ {l : List Ld} {j : Nat} {x : Ld}, l[j]? = some x → (ldCells l)[j * 2]? = some (.int .u32 x.pt) ∧ (ldCells l)[j * 2 + 1]? = some (.int .i64 x.en)
  | [], j, x, h => by simp at h
  | y :: r, 0, x, h => by
    simp only [List.getElem?_cons_zero, Option.some.injEq] at h
    subst h; exact ⟨rfl, rfl⟩
  | y :: r, j + 1, x, h => by
    rw [List.getElem?_cons_succ] at h
    have := ldCells_at h
    rw [show (j + 1) * 2 = j * 2 + 1 + 1 by omega, show j * 2 + 1 + 1 + 1 = (j * 2 + 1) + 1 + 1 by omega]
    simp only [ldCells, List.getElem?_cons_succ]
    exact this
theorem ldCells_inv : ∀ {l : List Ld} {t : Nat} {u : Value}, (ldCells l)[t]? = some u → ∃ (j : Nat) (x : Ld), l[j]? = some x ∧ ((t = j * 2 ∧ u = .int .u32 x.pt) ∨ (t = j * 2 + 1 ∧ u = .int .i64 x.en))
  | [], t, u, h => by simp [ldCells] at h
  | y :: r, 0, u, h => by
    simp only [ldCells, List.getElem?_cons_zero, Option.some.injEq] at h
    exact ⟨0, y, rfl, .inl ⟨rfl, h.symm⟩⟩
  | y :: r, 1, u, h => by
    simp only [ldCells, List.getElem?_cons_succ, List.getElem?_cons_zero, Option.some.injEq] at h
    exact ⟨0, y, rfl, .inr ⟨rfl, h.symm⟩⟩
  | y :: r, t + 2, u, h => by
    simp only [ldCells, List.getElem?_cons_succ] at h
    obtain ⟨j, x, hx, hh⟩ := ldCells_inv h
    exact ⟨j + 1, x, by rw [List.getElem?_cons_succ]; exact hx, hh.imp (fun h => ⟨by omega, h.2⟩) (fun h => ⟨by omega, h.2⟩)⟩
theorem ldCells_one (l : List Ld) : ∀ u ∈ ldCells l, u.oneCell' = true := by
  intro u hu
  obtain ⟨t, ht⟩ := List.getElem?_of_mem hu
  obtain ⟨j, x, _, h | h⟩ := ldCells_inv ht
  · rw [h.2]; rfl
  · rw [h.2]; rfl
theorem addPlain (g o t : Nat) : (⟨g, o, none⟩ : Addr).add t = ⟨g, o + t, none⟩ := by unfold Addr.add; split <;> simp_all
theorem Lds.news {w : World} {A : Option Addr} {n cap : Nat} {l : List Ld} (h : Lds w A n cap l) : ∀ ad, A = some ad → ∀ t u, (ldCells l)[t]? = some u → w.cell? (ad.add t) = some u := by
  intro ad had t u hu
  obtain ⟨j, x, hx, hh⟩ := ldCells_inv hu
  have hj : j < n := by have := (List.getElem?_eq_some_iff.1 hx).1; have := h.1; omega
  obtain ⟨b, off, hA, hb, hc⟩ := h.2.2.2.2.2.2 (by omega)
  rw [had] at hA; injection hA with hA; subst hA
  obtain ⟨c0, c1⟩ := hc j x hx
  rw [addPlain]
  rcases hh with ⟨rfl, rfl⟩ | ⟨rfl, rfl⟩
  · exact c0
  · exact c1
theorem Lds.none {w : World} {A : Option Addr} {n cap : Nat} {l : List Ld} (h : Lds w A n cap l) : A = none → n = 0 ∧ cap = 0 := fun hA => by
  have := h.2.2.2.2.1 hA
  have := h.2.1
  omega
/-- A row of loads of one's own reads so. -/
theorem lds_owns {w : World} {base e n : Nat} {v : Value} {l : List Ld} (h : w.ownsRow base e 2 v n (ldCells l)) (hok : ∀ x ∈ l, x.ok) (hn : n * 16 ≤ 140737488351232) : ∃ B cap, v = .slice B n cap ∧ Lds w B n cap l := by
  have hl : l.length = n := by have := h.1; rw [ldCells_len] at this; omega
  obtain ⟨B, cap, rfl, h1, h2, h3, h4⟩ := owns_shape h
  refine ⟨B, cap, rfl, hl, h1, h2, hn, fun hB => (h3 hB).2, hok, fun hp => ?_⟩
  rcases B with _ | ad
  · have := h3 rfl; omega
  · obtain ⟨g, cur, rfl, hb, hs, ht⟩ := h4 ad rfl
    refine ⟨g, 0, rfl, hb.lt, fun j x hx => ?_⟩
    obtain ⟨q0, q1⟩ := ldCells_at hx
    have hj : j < n := by have := (List.getElem?_eq_some_iff.1 hx).1; omega
    have c : ∀ t u, (ldCells l)[t]? = some u → w.cell? ⟨g, 0 + t, none⟩ = some u := by
      intro t u hu
      have htl : t < n * 2 := by have := (List.getElem?_eq_some_iff.1 hu).1; rw [ldCells_len] at this; omega
      rw [← ht, List.getElem?_take_of_lt htl, Array.getElem?_toList] at hu
      rw [Nat.zero_add, hb.box.cell t]; exact hu
    exact ⟨c _ _ q0, c _ _ q1⟩

theorem mayGo_app : ∀ (l pre r : List Ld), mayGo pre (l ++ r) = (mayGo pre l && mayGo (pre ++ l) r)
  | [], pre, r => by simp [mayGo]
  | x :: l, pre, r => by simp only [List.cons_append, mayGo, mayGo_app l, Bool.and_assoc, List.append_assoc, List.cons_append, List.nil_append]
theorem mayF_app (l r : List Ld) : mayF (l ++ r) = (mayF l && mayGo l r) := by unfold mayF; rw [mayGo_app]; rfl
theorem heavy_bad {l : List Ld} (h : mayF l = false) : heavyF l = (⟨0, 0⟩, false) := by unfold heavyF firstF; simp [h]
theorem light_bad {l : List Ld} (h : mayF l = false) : lightF l = (⟨0, 0⟩, false) := by unfold lightF firstF; simp [h]
end Go.Proofs.Ytjniholnmjafeaa
