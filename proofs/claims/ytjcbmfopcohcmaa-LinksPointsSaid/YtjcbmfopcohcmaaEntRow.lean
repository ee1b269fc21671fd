/- A row of entries of one's own, by colours; the document's shelf: a block that holds one. Conditions: none. -/
import Derived.Test.YtjcbmfopcohcmaaScanL
namespace Go.Proofs.Ytjcbmfopcohcmaa
open Go.RowKit Go.ChangeShapes Go.Maps
set_option maxRecDepth 100000
set_option linter.unusedVariables false
set_option linter.unusedSimpArgs false

/-- Where entries that nobody turns lie. -/
abbrev Still (c : Col) (w : World) (b : Nat) : Prop := c b = [] ∧ b < w.heap.size
/-- A row of entries: its block has a colour, the entries' values are data. -/
def EntRow (c : Col) (π : List Int) (w : World) (v : Value) (L : List Ent) : Prop :=
  ∃ M : List EntC, w.ownsRow 0 36 5 v M.length (ecCells M) ∧ (∀ g, v.ownBlock = some g → c g = π) ∧ M.length = L.length ∧ ∀ (j : Nat) m e, M[j]? = some m → L[j]? = some e → EntNew w (Still c w) m e
theorem EntRow.step {C : List Int → Prop} {c c' : Col} {π : List Int} {w w' : World} {v : Value} {L : List Ent} (h : EntRow c π w v L) (hs : Stp C c w c' w') (hπ : ¬ C π) (hC : ¬ C []) : EntRow c' π w' v L := by
  obtain ⟨M, ho, hg, hl, hd⟩ := h
  exact ⟨M, ownsRow_only ho hs.only (fun g hg' => by show ¬ C (c g); rw [hg g hg']; exact hπ), fun g hg' => (hs.col g (owns_lt ho hg')).trans (hg g hg'), hl,
    fun j m e hm he => (hd j m e hm he).move fun b hb hlt => ⟨hs.only.block b hlt (by show ¬ C (c b); rw [hb.1]; exact hC), (hs.col b hlt).trans hb.1, Nat.lt_of_lt_of_le hlt hs.only.size⟩⟩
theorem EntRow.later {c : Col} {π : List Int} {w w' : World} {v : Value} {L : List Ent} (h : EntRow c π w v L) (hf : Fresh c w) (hb : Below w.heap.size w w') : EntRow c π w' v L :=
  h.step (C := fun _ => False) (Stp.of_below _ hf hb) id id
theorem EntRow.nil (c : Col) (π : List Int) (w : World) : EntRow c π w (.slice none 0 0) [] := ⟨[], ⟨rfl, .inl ⟨rfl, rfl⟩⟩, (fun g hg => by cases hg), rfl, fun j m e hm => by simp at hm⟩
theorem EntRow.shape {c : Col} {π : List Int} {w : World} {v : Value} {L : List Ent} (h : EntRow c π w v L) : ∃ A cap, v = .slice A L.length cap ∧ L.length ≤ cap ∧ cap ≤ 9223372036854775807 ∧ (A = none → L.length = 0 ∧ cap = 0) ∧ ∀ ad, A = some ad → ∃ g, ad = ⟨g, 0, none⟩ ∧ c g = π ∧ g < w.heap.size := by
  obtain ⟨M, ho, hg, hl, _⟩ := h
  rw [hl] at ho
  obtain ⟨A, cap, rfl, h1, h2, h3, h4⟩ := owns_shape ho
  refine ⟨A, cap, rfl, h1, h2, h3, fun ad ha => ?_⟩
  obtain ⟨g, cur, rfl, hb, _⟩ := h4 ad ha
  subst ha
  exact ⟨g, rfl, hg g rfl, hb.lt⟩
/-- The cells of an entry of a row. -/
theorem EntRow.cells {c : Col} {π : List Int} {w : World} {g n cap : Nat} {L : List Ent} (h : EntRow c π w (.slice (some ⟨g, 0, none⟩) n cap) L) {j : Nat} {e : Ent} (he : L[j]? = some e) : ∃ m : EntC, (∀ t u, (encE m)[t]? = some u → w.cell? ⟨g, j * 5 + t, none⟩ = some u) ∧ EntNew w (Still c w) m e := by
  obtain ⟨M, ho, hg, hl, hd⟩ := h
  obtain ⟨m, hm⟩ : ∃ m, M[j]? = some m := ⟨_, List.getElem?_eq_getElem (by rw [hl]; exact (List.getElem?_eq_some_iff.1 he).1)⟩
  refine ⟨m, fun t u hu => ?_, hd j m e hm he⟩
  have ht : t < 5 := (List.getElem?_eq_some_iff.1 hu).1
  have hk := (List.getElem?_eq_some_iff.1 hm).1
  obtain ⟨A, cap', hv, h1, h2, h3, h4⟩ := owns_shape ho
  injection hv with hA hn hcap
  obtain ⟨g', cur, hgg, hb, hs, htk⟩ := h4 ⟨g, 0, none⟩ hA.symm
  injection hgg with hgg
  subst hgg
  have h9 := ecCells_at hm t ht
  rw [hu, ← htk, List.getElem?_take_of_lt (by omega), Array.getElem?_toList] at h9
  rw [hb.box.cell]
  exact h9
/-- A row read as any slice of entries is, if its block is data. -/
theorem EntRow.at {c : Col} {w : World} {A : Option Addr} {n cap : Nat} {L : List Ent} (h : EntRow c [] w (.slice A n cap) L) : EntsAt w (Still c w) A n cap L := by
  obtain ⟨A', cap', hv, h1, h2, h3, h4⟩ := h.shape
  injection hv with hA hn hc
  subst hA hn hc
  refine ⟨rfl, by omega, fun hn => ?_⟩
  cases A with
  | none => have := (h3 rfl).1; omega
  | some ad =>
    obtain ⟨g, rfl, hg, hlt⟩ := h4 ad rfl
    refine ⟨g, 0, rfl, ⟨hg, hlt⟩, fun j e he => ?_⟩
    obtain ⟨m, hc, hm⟩ := h.cells he
    exact ⟨m, fun t u hu => by rw [Nat.zero_add]; exact hc t u hu, hm⟩
/-- A row grown by what is appended. -/
theorem EntRow.app {c : Col} {π : List Int} {w w' : World} {v : Value} {L N : List Ent} {M : List EntC} {B : Option Addr} {cap k n : Nat} {xs : List Value} (hf : Fresh c w) (hπ : π ≠ []) (h : EntRow c π w v L) (hx : w.ownsRow 0 36 5 v n xs) (hn : M.length = k) (hN : M.length = N.length)
    (hd : ∀ (j : Nat) m e, M[j]? = some m → N[j]? = some e → EntNew w (Still c w) m e) (ha : Appd w 0 36 5 n k xs (ecCells M) v B cap w') :
    ∃ c', Stp (· = π) c w c' w' ∧ EntRow c' π w' (.slice B (n + k) cap) (L ++ N) := by
  obtain ⟨M0, ho, hg, hl, hd0⟩ := h
  have e1 : n = M0.length := by
    obtain ⟨A1, c1, h1, _⟩ := owns_shape ho
    obtain ⟨A2, c2, h2, _⟩ := owns_shape hx
    rw [h1] at h2; injection h2 with _ h2 _; exact h2.symm
  subst e1
  have e2 : xs = ecCells M0 := by
    rcases ho.2 with ⟨hv, h0⟩ | ⟨g1, cp1, cur1, hv, _, hh1, _, _, _, ht1⟩
    · have q1 := ho.1; have q2 := hx.1
      rw [h0] at q1 q2
      rw [List.eq_nil_of_length_eq_zero (l := ecCells M0) (by rw [q1, Nat.zero_mul]), List.eq_nil_of_length_eq_zero (l := xs) (by rw [q2, Nat.zero_mul])]
    · rcases hx.2 with ⟨hv2, h0⟩ | ⟨g2, cp2, cur2, hv2, _, hh2, _, _, _, ht2⟩
      · rw [hv] at hv2; cases hv2
      · rw [hv] at hv2
        injection hv2 with a1 a2 a3
        injection a1 with a1
        injection a1 with a1
        subst a1
        rw [hh1] at hh2
        injection hh2 with hh2
        injection hh2 with hh2
        subst hh2
        rw [← ht1, ← ht2]
  subst e2
  obtain ⟨hown, hgrow, hat⟩ := ha
  have hπ' : ¬ ([] : List Int) = π := fun h => hπ h.symm
  have hO : Only (fun b => c b = π) w w' := ⟨hgrow.os, hgrow.tape, hgrow.output, hgrow.size, fun b hb hn => hgrow.block b hb (fun he => hn (hg b he.symm))⟩
  obtain ⟨c', S, hc'⟩ : ∃ c', Stp (· = π) c w c' w' ∧ ∀ g, (Value.slice B (M0.length + k) cap).ownBlock = some g → c' g = π := by
    rcases hat with hat | hat
    · exact ⟨c, ⟨hO, fun _ _ => rfl, fun b hb => hf b (Nat.le_trans hO.size hb)⟩, fun g h => hg g (by rw [← hat]; exact h)⟩
    · exact ⟨upd c w.heap.size π, (⟨hO, fun _ _ => rfl, fun b hb => hf b (Nat.le_trans hO.size hb)⟩ : Stp (· = π) c w c w').paint (Nat.le_refl _) (owns_lt hown hat) π, fun g h => by rw [hat] at h; injection h with h; subst h; exact upd_same _ _ _⟩
  have mv : ∀ {m e}, EntNew w (Still c w) m e → EntNew w' (Still c' w') m e := fun h => h.move fun b hb hlt => ⟨S.only.block b hlt (by show ¬ c b = π; rw [hb.1]; exact hπ'), (S.col b hlt).trans hb.1, Nat.lt_of_lt_of_le hlt S.only.size⟩
  refine ⟨c', S, M0 ++ M, ?_, hc', by rw [List.length_append, List.length_append, hl, hN], fun j m e hm he => ?_⟩
  · rw [List.length_append, hn, ecCells, List.flatMap_append]; exact hown
  · by_cases hi : j < M0.length
    · rw [List.getElem?_append_left hi] at hm
      rw [List.getElem?_append_left (by omega)] at he
      exact mv (hd0 j m e hm he)
    · rw [List.getElem?_append_right (by omega)] at hm
      rw [List.getElem?_append_right (by omega), ← hl] at he
      exact mv (hd _ m e hm he)

/-- The document's shelf. -/
def RefR (c : Col) (π : List Int) (w : World) (b : Nat) (L : List Ent) : Prop := ∃ v, Box w b #[v] ∧ c b = π ∧ EntRow c π w v L
theorem RefR.step {C : List Int → Prop} {c c' : Col} {w w' : World} {π : List Int} {b : Nat} {L : List Ent} (h : RefR c π w b L) (hs : Stp C c w c' w') (hπ : ¬ C π) (hC : ¬ C []) : RefR c' π w' b L := by
  obtain ⟨v, hb, h1, h2⟩ := h
  exact ⟨v, hb.only hs.only (by show ¬ C (c b); rw [h1]; exact hπ), (hs.col b hb.lt).trans h1, h2.step hs hπ hC⟩
theorem RefR.later {c : Col} {w w' : World} {π : List Int} {b : Nat} {L : List Ent} (h : RefR c π w b L) (hf : Fresh c w) (hb : Below w.heap.size w w') : RefR c π w' b L :=
  h.step (C := fun _ => False) (Stp.of_below _ hf hb) id id
end Go.Proofs.Ytjcbmfopcohcmaa
