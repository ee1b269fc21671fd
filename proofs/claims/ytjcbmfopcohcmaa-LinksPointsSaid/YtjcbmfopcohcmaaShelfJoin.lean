/- The shelf's Join: a put of each. Conditions: the shelf is one and has at most 10000 entries, the entries read so. -/
import Derived.Test.YtjcbmfopcohcmaaShelfScan
namespace Go.Proofs.Ytjcbmfopcohcmaa
open Go.RowKit Go.ChangeShapes Go.Maps
set_option maxRecDepth 100000
set_option linter.unusedVariables false
set_option linter.unusedSimpArgs false

theorem putF_len {L : List Ent} {e : Ent} (h : L.length ≤ 10000) : (putF L e).1.length ≤ 10000 := by
  unfold putF
  split
  · split
    · simpa [setE] using h
    · exact h
  · split
    · exact h
    · simp; omega
/-- What Join makes of the entries, and how many it put. -/
def joinF (L : List Ent) (l : List Ent) : List Ent × Nat := l.foldl (fun a e => ((putF a.1 e).1, a.2 + (if (putF a.1 e).2.1 then 1 else 0))) (L, 0)
theorem joinF_snoc (L l : List Ent) (e : Ent) : joinF L (l ++ [e]) = ((putF (joinF L l).1 e).1, (joinF L l).2 + (if (putF (joinF L l).1 e).2.1 then 1 else 0)) := by
  unfold joinF; rw [List.foldl_append]; rfl
theorem joinF_len {L : List Ent} (h : L.length ≤ 10000) (l : List Ent) : (joinF L l).1.length ≤ 10000 ∧ (joinF L l).2 ≤ l.length := by
  unfold joinF
  have key : ∀ (l : List Ent) (a : List Ent × Nat), a.1.length ≤ 10000 → (l.foldl (fun a e => ((putF a.1 e).1, a.2 + (if (putF a.1 e).2.1 then 1 else 0))) a).1.length ≤ 10000 ∧ (l.foldl (fun a e => ((putF a.1 e).1, a.2 + (if (putF a.1 e).2.1 then 1 else 0))) a).2 ≤ a.2 + l.length := by
    intro l
    induction l with
    | nil => intro a ha; exact ⟨ha, Nat.le_refl _⟩
    | cons e r ih =>
      intro a ha
      rw [List.foldl_cons]
      obtain ⟨h1, h2⟩ := ih ((putF a.1 e).1, a.2 + (if (putF a.1 e).2.1 then 1 else 0)) (putF_len ha)
      refine ⟨h1, Nat.le_trans h2 ?_⟩
      simp only [List.length_cons]
      split <;> omega
  have := key l (L, 0) h
  simpa using this
/-- A slice of entries that is read: cells and values in D. -/
def EntsAt (w : World) (D : Nat → Prop) (A : Option Addr) (n cap : Nat) (l : List Ent) : Prop :=
  l.length = n ∧ n ≤ 9223372036854775807 ∧ (0 < n → ∃ b off, A = some ⟨b, off, none⟩ ∧ D b ∧ ∀ j e, l[j]? = some e → ∃ c : EntC, (∀ t u, (encE c)[t]? = some u → w.cell? ⟨b, off + j * 5 + t, none⟩ = some u) ∧ EntNew w D c e)

set_option maxHeartbeats 1000000 in
theorem shelf_join {c : Col} {π : List Int} {w : World} {b : Nat} {L : List Ent} {A : Option Addr} {n cap : Nat} {l : List Ent} (h : ShelfR c π w b L) (hf : Fresh c w) (hπ : π ≠ []) (hL : L.length ≤ 10000) (hl : EntsAt w (fun b => c b = [] ∧ b < w.heap.size) A n cap l) :
    Calls Try.prog 43 #[.pointer (some ⟨b, 0, none⟩), .slice A n cap] w fun e w' => e = .returned (.int .i64 (joinF L l).2) ∧ ShelfTo π b (joinF L l).1 c w w' := by
  obtain ⟨hn, hnm, hcells⟩ := hl
  have HC := Lib.hid hcells; have HN := Lib.hid hn
  have HS := Lib.hid h; have HF := Lib.hid hf
  clear hcells h hf hn
  go_enter Try.func43, Try.ntmps43
  go_wp2
  go_loopw [5, 12] (fun s5 s12 wr => ∃ (k : Nat) (c' : Col), k ≤ n ∧ s12 = .int .i64 k ∧ s5 = .int .i64 (joinF L (l.take k)).2 ∧ Stp (· = π) c w c' wr ∧ ShelfR c' π wr b (joinF L (l.take k)).1 ∧ Boxes w wr) (fun _ i _ => n - (intOf i).toNat)
  case atStart => exact ⟨0, c, Nat.zero_le _, rfl, rfl, Stp.refl _ HF.out, HS.out, fun _ _ h => h⟩
  case round =>
    obtain ⟨k, c', hk, rfl, rfl, hst, hsh, hbx⟩ := hrel
    have HST := Lib.hid hst; have HSH := Lib.hid hsh; have HBX := Lib.hid hbx
    obtain ⟨hj1, hj2⟩ := joinF_len hL (l.take k)
    have hj3 : (l.take k).length ≤ k := by simp; omega
    clear hst hsh hbx
    by_cases hlt : k < n
    · obtain ⟨e, he⟩ : ∃ e, l[k]? = some e := ⟨_, List.getElem?_eq_getElem (by rw [HN.out]; exact hlt)⟩
      have HT := Lib.hid (show l.take (k + 1) = l.take k ++ [e] by rw [List.take_add_one, he]; rfl)
      obtain ⟨bb, off, rfl, hb, hc⟩ := HC.out (by omega)
      obtain ⟨cc, hcell, hent⟩ := hc k e he
      have hcs : ∀ t u, (encE cc)[t]? = some u → wr.cell? ⟨bb, off + k * 5 + t, none⟩ = some u := fun t u hu => by
        rw [World.cell?_of_block (w := w) (a := ⟨bb, off + k * 5 + t, none⟩) (HST.out.only.block bb hb.2 (by show ¬ c bb = π; rw [hb.1]; exact fun h => hπ h.symm))]; exact hcell t u hu
      have d0 := hcs 0 _ rfl; have d1 := hcs 1 _ rfl; have d2 := hcs 2 _ rfl; have d3 := hcs 3 _ rfl; have d4 := hcs 4 _ rfl
      simp only [Nat.add_zero] at d0
      have hev : EVal c' wr ⟨e.value, ⟨e.rc.id, e.rc.ver, e.rc.vals⟩, e.gone⟩ (.agg #[.int .u32 cc.x, .int .u64 cc.id, .int .u64 cc.ver, .slice cc.s cc.l cc.c, .bool cc.g]) := by
        obtain ⟨e1, e2, e3, e4, e5, e6⟩ := hent
        refine ⟨cc.s, cc.l, cc.c, by rw [e1, e2, e3, e4], e5, e6.move fun b hb hlt => ⟨HST.out.only.block b hlt (by show ¬ c b = π; rw [hb.1]; exact fun h => hπ h.symm), (HST.out.col b hlt).trans hb.1, Nat.lt_of_lt_of_le hlt HST.out.only.size⟩⟩
      have HEV := Lib.hid hev
      obtain ⟨e1, e2, e3, e4, _, _⟩ := hent
      obtain ⟨x1, x2, x3, x4, x5, x6, g⟩ := cc
      dsimp only at *
      subst e1 e2 e3 e4
      clear hc hcell hcs hev
      obtain ⟨bo, hbo⟩ : ∃ bo, (putF (joinF L (l.take k)).1 e).2.1 = bo := ⟨_, rfl⟩
      have zz := HST.out.only.size
      cases bo
      · go_wp2_with (go_at_call 39; go_loud ((refine (shelf_put (HSH.out.later HST.out.fresh (below_a1 wr _)) (fun q hq => HST.out.fresh q (by rw [size_alloc] at hq; omega)) hπ (HEV.out.step (C := fun _ => False) (Stp.of_below _ HST.out.fresh (below_a1 wr _)) id) (by omega)).mono ?_); rintro e3 w3 ⟨rfl, c3, st3, sh3, bx3⟩; rw [show (putF (joinF L (l.take k)).1 ⟨e.value, ⟨e.rc.id, e.rc.ver, e.rc.vals⟩, e.gone⟩).2.1 = false from hbo]; have ST3 := Lib.hid st3; have SH3 := Lib.hid sh3; have BX3 := Lib.hid bx3; clear st3 sh3 bx3))
        have hsn : joinF L (l.take (k + 1)) = ((putF (joinF L (l.take k)).1 e).1, (joinF L (l.take k)).2 + 0) := by rw [HT.out, joinF_snoc, hbo]; rfl
        refine ⟨⟨k + 1, c3, by omega, by simp, by rw [hsn]; simp, HST.out.trans ((Stp.of_below _ HST.out.fresh (below_a1 wr _)).trans ST3.out), by rw [hsn]; exact SH3.out, HBX.out.trans ((Boxes.below (below_a1 wr _)).trans BX3.out)⟩, ?_⟩
        simp [intOf]; omega
      · go_wp2_with (go_at_call 39; go_loud ((refine (shelf_put (HSH.out.later HST.out.fresh (below_a1 wr _)) (fun q hq => HST.out.fresh q (by rw [size_alloc] at hq; omega)) hπ (HEV.out.step (C := fun _ => False) (Stp.of_below _ HST.out.fresh (below_a1 wr _)) id) (by omega)).mono ?_); rintro e3 w3 ⟨rfl, c3, st3, sh3, bx3⟩; rw [show (putF (joinF L (l.take k)).1 ⟨e.value, ⟨e.rc.id, e.rc.ver, e.rc.vals⟩, e.gone⟩).2.1 = true from hbo]; have ST3 := Lib.hid st3; have SH3 := Lib.hid sh3; have BX3 := Lib.hid bx3; clear st3 sh3 bx3))
        have hsn : joinF L (l.take (k + 1)) = ((putF (joinF L (l.take k)).1 e).1, (joinF L (l.take k)).2 + 1) := by rw [HT.out, joinF_snoc, hbo]; rfl
        refine ⟨⟨k + 1, c3, by omega, by simp, by rw [hsn]; simp, HST.out.trans ((Stp.of_below _ HST.out.fresh (below_a1 wr _)).trans ST3.out), by rw [hsn]; exact SH3.out, HBX.out.trans ((Boxes.below (below_a1 wr _)).trans BX3.out)⟩, ?_⟩
        simp [intOf]; omega
    · obtain rfl : k = n := by omega
      have hT : l.take k = l := List.take_of_length_le (by rw [HN.out]; exact Nat.le_refl _)
      have h1 := HSH.out
      rw [hT] at h1
      go_wp2
      go_ret
      exact ⟨by first | rfl | (rw [hT]; rfl) | rw [hT] | (rw [← hT]; rfl), c', HST.out, h1, HBX.out⟩
end Go.Proofs.Ytjcbmfopcohcmaa
