/- A slice of slices of whole numbers that is handed in, read as plain lists. Conditions: none. -/
import Derived.Test.YtjniholnmjafeaaCol
set_option linter.unusedVariables false
namespace Go.Proofs.Ytjniholnmjafeaa
open Go.RowKit Go.ChangeShapes

/-- A slice of slices of whole numbers: its lists, all its cells in D. -/
def Rows (w : World) (D : Nat → Prop) (k : IntKind) (bytes : Nat) (A : Option Addr) (n cap : Nat) (ls : List (List Int)) : Prop :=
  ls.length = n ∧ n ≤ cap ∧ cap ≤ 9223372036854775807 ∧ n * 24 ≤ 140737488351232 ∧ (A = none → cap = 0) ∧
    (0 < n → ∃ b off, A = some ⟨b, off, none⟩ ∧ D b ∧ ∀ j, j < n → ∃ A' n' c', w.cell? ⟨b, off + j, none⟩ = some (.slice A' n' c') ∧ Ints w D k bytes A' n' c' (ls.getD j []))

theorem Rows.stays {w w' : World} {D D' : Nat → Prop} {k : IntKind} {bytes : Nat} {A : Option Addr} {n cap : Nat} {ls : List (List Int)} (hw : ∀ b, D b → w'.heap[b]? = w.heap[b]?) (hD : ∀ b, D b → D' b)
    (h : Rows w D k bytes A n cap ls) : Rows w' D' k bytes A n cap ls := by
  obtain ⟨h1, h2, h3, h4, h5, h6⟩ := h
  refine ⟨h1, h2, h3, h4, h5, fun hn => ?_⟩
  obtain ⟨b, off, rfl, hd, hc⟩ := h6 hn
  refine ⟨b, off, rfl, hD b hd, fun j hj => ?_⟩
  obtain ⟨A', n', c', h7, h8⟩ := hc j hj
  exact ⟨A', n', c', by rw [← h7]; exact World.cell?_of_block (hw b hd), h8.stays hw hD⟩
theorem Rows.below {w w' : World} {D : Nat → Prop} {k : IntKind} {bytes : Nat} {A : Option Addr} {n cap : Nat} {ls : List (List Int)} {B : Nat} (h : Rows w D k bytes A n cap ls) (hb : Below B w w') (hD : ∀ b, D b → b < B) : Rows w' D k bytes A n cap ls :=
  h.stays (fun b hb' => hb.block b (hD b hb')) (fun b hb' => hb')

theorem rows_of {w : World} {D : Nat → Prop} {k : IntKind} {bytes : Nat} {cs : List Value} {y : List (List Int)} (h : Sh.Rep w D (.sl (.sl (.int k) bytes) 24) cs y) :
    ∃ A n cap, cs = [.slice A n cap] ∧ Rows w D k bytes A n cap y := by
  obtain ⟨A, n, cap, rfl, h1, h2, h3, h4, h5, h6⟩ := h
  have hl : y.length = n := h1
  have hcell : ∀ ad, A = some ad → ∀ i (x : List Int), y[i]? = some x → D ad.block ∧ ∃ A' n' c', w.cell? (ad.add i) = some (.slice A' n' c') ∧ Ints w D k bytes A' n' c' x := by
    intro ad ha i x hx
    obtain ⟨hd, c, hc, hcc, hr⟩ := h6 ad ha i x hx
    obtain ⟨A', n', c', rfl, hi⟩ := ints_of hr
    have := hcc 0 Nat.one_pos
    simp only [Sh.size, Nat.mul_one, Nat.add_zero] at this
    exact ⟨hd, A', n', c', this, hi⟩
  refine ⟨A, n, cap, rfl, hl, h2, by unfold maxLen at h3; omega, h4, h5, fun hn => ?_⟩
  rcases A with _ | ad
  · have := h5 rfl; omega
  · obtain ⟨hd0, A0, n0, c0, h0, _⟩ := hcell ad rfl 0 (y[0]'(by omega)) (List.getElem?_eq_getElem (by omega))
    have hs : ad.spot = none := by
      have := World.cell?_spot h0
      simpa [Addr.add] using this
    refine ⟨ad.block, ad.off, by cases ad; simp_all, hd0, fun j hj => ?_⟩
    obtain ⟨_, A', n', c', hj', hi⟩ := hcell ad rfl j (y[j]'(by omega)) (List.getElem?_eq_getElem (by omega))
    have e1 : ad.add j = ⟨ad.block, ad.off + j, none⟩ := by
      unfold Addr.add; split
      · rename_i h; subst h; cases ad; simp_all
      · rfl
    rw [e1] at hj'
    exact ⟨A', n', c', hj', by rw [List.getD_eq_getElem?_getD, List.getElem?_eq_getElem (by omega)]; exact hi⟩

theorem rows_open {w : World} {D : Nat → Prop} {k : IntKind} {b : Nat} {v : Value} {y : (Sh.sl (.sl (.int k) b) 24).T} (h : Sh.Val w D (.sl (.sl (.int k) b) 24) v y) : ∃ (ls : List (List Int)) (A : Option Addr) (n cap : Nat), v = .slice A n cap ∧ Rows w D k b A n cap ls := by
  obtain ⟨A, n, cap, h1, hi⟩ := rows_of h
  simp only [List.cons.injEq, and_true] at h1
  exact ⟨y, A, n, cap, h1, hi⟩
end Go.Proofs.Ytjniholnmjafeaa
