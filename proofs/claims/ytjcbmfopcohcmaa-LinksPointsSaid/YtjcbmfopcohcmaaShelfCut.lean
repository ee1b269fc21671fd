/- The shelf's Cut: a scan, then a delete of each. Conditions: the shelf is one. -/
import Derived.Test.YtjcbmfopcohcmaaShelfScan
namespace Go.Proofs.Ytjcbmfopcohcmaa
open Go.RowKit Go.ChangeShapes Go.Maps
open Go.ChangeMaps (setBlock heap_setBlock_other)
set_option maxRecDepth 100000
set_option linter.unusedVariables false
set_option linter.unusedSimpArgs false

theorem heldIf_drop {P : Program} {t k e : TypeId} {b n : Nat} {D : DataW Value} {w : World} {p : Value → Bool} (h : w.ownsMap P k (heldIf p) b n D) (K : Keyed P k) (ht : P.underlying t = some (.map k e)) {key : Value} {kl : Lit} (hkey : keyOf P k key = some kl) (ty : TypeId) :
    ∃ dr : World → World, ∀ (w' : World), Below w.heap.size w w' → (Builtin.delete_ #[t, k] ty #[.map (some b), key]).run P w' = .ok (.tuple #[]) (dr w') ∧ (dr w').ownsMap P k (heldIf p) b n (D.del kl) ∧ Only (· = b) w' (dr w') := by
  classical
  have key : ∀ (w' : World), ∃ u, Below w.heap.size w w' → (Builtin.delete_ #[t, k] ty #[.map (some b), key]).run P w' = .ok (.tuple #[]) u ∧ u.ownsMap P k (heldIf p) b n (D.del kl) ∧ Only (· = b) w' u := by
    intro w'
    by_cases hc : Below w.heap.size w w'
    · obtain ⟨u, h1, h2, es, cl, es', cl', hb, rfl⟩ := (ownsMap_only h (Only.of_below (S := fun _ => False) hc) (fun h => h)).drop K ht hkey ty
      exact ⟨_, fun _ => ⟨h1, h2, ⟨rfl, rfl, rfl, by simp [setBlock], fun i _ hi => heap_setBlock_other hb _ hi⟩⟩⟩
    · exact ⟨w', fun h1 => absurd h1 hc⟩
  exact ⟨fun w' => Classical.choose (key w'), fun w' => Classical.choose_spec (key w')⟩
theorem scan_cell {base : Nat} {F : EntC → Ent} {w : World} {g n cap : Nat} {M : List EntC} (h : ScanRow base F w (.slice (some ⟨g, 0, none⟩) n cap) M) {k : Nat} {c : EntC} (hc : M[k]? = some c) : ∀ t, t < 5 → w.cell? ⟨g, k * 5 + t, none⟩ = (encE c)[t]? := by
  intro t ht
  rcases h.row.2 with ⟨h0, _⟩ | ⟨g', cap', cur, he, hb, hh, hn, hc', hs, htk⟩
  · cases h0
  · injection he with he _ _
    injection he with he
    injection he with he
    subst he
    have hk := (List.getElem?_eq_some_iff.1 hc).1
    have hbox : Box w g cur := ⟨_, hh⟩
    rw [hbox.cell, ← ecCells_at hc t ht, ← htk, List.getElem?_take_of_lt (by omega), Array.getElem?_toList]
/-- What stays, of M's entries the first k being struck. -/
def cutL (L : List Ent) (M : List EntC) : List Ent := L.filter fun e => !M.any fun c => ekB c.x c.id e
theorem cutL_snoc (L : List Ent) (M : List EntC) (c : EntC) : (cutL L M).filter (fun e => !ekB c.x c.id e) = cutL L (M ++ [c]) := by
  unfold cutL
  rw [List.filter_filter]
  refine List.filter_congr fun e _ => ?_
  simp [Bool.and_comm]
theorem cutL_all {base : Nat} {L : List Ent} {w : World} {v : Value} {M : List EntC} {f t : Int} (h : ScanRow base (eOf L) w v M) (hp : (M.map (eOf L)).Perm (L.filter (hasE f t))) : cutL L M = L.filter (fun e => !hasE f t e) := by
  unfold cutL
  refine List.filter_congr fun e he => ?_
  congr 1
  cases hh : hasE f t e with
  | true =>
    have h1 : e ∈ M.map (eOf L) := hp.mem_iff.2 (List.mem_filter.2 ⟨he, hh⟩)
    obtain ⟨c, hc, rfl⟩ := List.mem_map.1 h1
    have h2 := h.ents c hc
    exact List.any_eq_true.2 ⟨c, hc, ekB_iff.2 ⟨h2.1.symm, h2.2.1.symm⟩⟩
  | false =>
    rw [Bool.eq_false_iff]
    intro h1
    obtain ⟨c, hc, hk⟩ := List.any_eq_true.1 h1
    have h2 := h.ents c hc
    have h3 := (List.mem_filter.1 (hp.mem_iff.1 (List.mem_map_of_mem hc))).2
    have h4 := (ekB_iff.1 hk).1
    unfold hasE at h3 hh
    rw [← h2.1, ← h4, hh] at h3
    cases h3

end Go.Proofs.Ytjcbmfopcohcmaa
