/- The document's shelf: Join, Live, Get. Conditions: it is one, the entries are data. -/
import Derived.Test.YtjcbmfopcohcmaaRefPut
import Derived.Test.YtjcbmfopcohcmaaOrderPlain
namespace Go.Proofs.Ytjcbmfopcohcmaa
open Go.RowKit Go.ChangeShapes Go.Maps
set_option maxRecDepth 100000
set_option linter.unusedVariables false
set_option linter.unusedSimpArgs false

theorem putF_ok {L : List Ent} {e : Ent} (h : ShelfOk L) (he : e.ok) : ShelfOk (putF L e).1 := by
  unfold putF
  cases hf : findE L e.value e.rc.id with
  | some o =>
    simp only
    split
    · refine ⟨keys_setE h.1, fun x hx => ?_⟩
      unfold setE at hx
      obtain ⟨y, hy, rfl⟩ := List.mem_map.1 hx
      split
      · exact he
      · exact h.2 y hy
    · exact h
  | none =>
    simp only
    split
    · exact h
    · have hno : ∀ y ∈ L, ¬ (y.value = e.value ∧ y.rc.id = e.rc.id) := fun y hy hs => List.find?_eq_none.1 hf y hy (ekB_iff.2 hs)
      refine ⟨?_, fun x hx => ?_⟩
      · rw [List.pairwise_append]
        exact ⟨h.1, by simp, fun a h5 b hb => by simp only [List.mem_singleton] at hb; rw [hb]; exact hno a h5⟩
      · rcases List.mem_append.1 hx with hx | hx
        · exact h.2 x hx
        · simp only [List.mem_singleton] at hx; rw [hx]; exact he
theorem joinF_ok {L : List Ent} (h : ShelfOk L) : ∀ l : List Ent, (∀ e ∈ l, e.ok) → ShelfOk (joinF L l).1 := by
  intro l hl
  have key : ∀ (l : List Ent) (a : List Ent × Nat), ShelfOk a.1 → (∀ e ∈ l, e.ok) → ShelfOk (l.foldl (fun a e => ((putF a.1 e).1, a.2 + (if (putF a.1 e).2.1 then 1 else 0))) a).1 := by
    intro l
    induction l with
    | nil => intro a h _; exact h
    | cons e r ih =>
      intro a h hl
      rw [List.foldl_cons]
      exact ih _ (putF_ok h (hl e (by simp))) (fun x hx => hl x (by simp [hx]))
  exact key l (L, 0) h hl
theorem EntsAt.oks {w : World} {D : Nat → Prop} {A : Option Addr} {n cap : Nat} {l : List Ent} (h : EntsAt w D A n cap l) : ∀ e ∈ l, e.ok := by
  intro e he
  obtain ⟨j, hj⟩ := List.getElem?_of_mem he
  have hlt := (List.getElem?_eq_some_iff.1 hj).1
  obtain ⟨_, _, _, _, hc⟩ := h.2.2 (by rw [← h.1]; omega)
  obtain ⟨c, _, hn⟩ := hc j e hj
  exact hn.2.2.2.2.1

set_option maxHeartbeats 1000000 in
theorem ref_join {c : Col} {π : List Int} {w : World} {b : Nat} {L : List Ent} {A : Option Addr} {n cap : Nat} {l : List Ent} (h : RefR c π w b L) (hf : Fresh c w) (hπ : π ≠ []) (hL : L.length ≤ 10000) (hk : ShelfOk L) (hl : EntsAt w (Still c w) A n cap l) :
    Calls Try.prog 14 #[.pointer (some ⟨b, 0, none⟩), .slice A n cap] w fun e w' => e = .returned (.int .i64 (joinF L l).2) ∧ RefTo π b (joinF L l).1 c w w' := by
  have HO := Lib.hid hl.oks
  obtain ⟨hn, hnm, hcells⟩ := hl
  have HC := Lib.hid hcells; have HN := Lib.hid hn
  have HS := Lib.hid h; have HF := Lib.hid hf; have HK := Lib.hid hk
  clear hcells h hf hn hk
  go_enter Try.func14, Try.ntmps14
  go_wp2
  go_loopw [5, 6] (fun s5 s6 wr => ∃ (k : Nat) (c' : Col), k ≤ n ∧ s6 = .int .i64 k ∧ s5 = .int .i64 (joinF L (l.take k)).2 ∧ Stp (· = π) c w c' wr ∧ RefR c' π wr b (joinF L (l.take k)).1) (fun _ i _ => n - (intOf i).toNat)
  case atStart => exact ⟨0, c, Nat.zero_le _, rfl, rfl, Stp.refl _ HF.out, HS.out⟩
  case round =>
    obtain ⟨k, c', hk, rfl, rfl, hst, hsh⟩ := hrel
    have HST := Lib.hid hst; have HSH := Lib.hid hsh
    obtain ⟨hj1, hj2⟩ := joinF_len hL (l.take k)
    have hj3 : (l.take k).length ≤ k := by simp; omega
    clear hst hsh
    by_cases hlt : k < n
    · obtain ⟨e, he⟩ : ∃ e, l[k]? = some e := ⟨_, List.getElem?_eq_getElem (by rw [HN.out]; exact hlt)⟩
      have HT := Lib.hid (show l.take (k + 1) = l.take k ++ [e] by rw [List.take_add_one, he]; rfl)
      obtain ⟨bb, off, rfl, hb, hc⟩ := HC.out (by omega)
      obtain ⟨cc, hcell, hent⟩ := hc k e he
      have hcs : ∀ t u, (encE cc)[t]? = some u → wr.cell? ⟨bb, off + k * 5 + t, none⟩ = some u := fun t u hu => by
        rw [World.cell?_of_block (w := w) (a := ⟨bb, off + k * 5 + t, none⟩) (HST.out.only.block bb hb.2 (by show ¬ c bb = π; rw [hb.1]; exact fun h => hπ h.symm))]; exact hcell t u hu
      have d0 := hcs 0 _ rfl; have d1 := hcs 1 _ rfl; have d2 := hcs 2 _ rfl; have d3 := hcs 3 _ rfl; have d4 := hcs 4 _ rfl
      simp only [Nat.add_zero] at d0
      obtain ⟨e1, e2, e3, e4, e5, e6⟩ := hent
      have HI := Lib.hid (show Ints wr (Still c' wr) .u32 4 cc.s cc.l cc.c e.rc.vals from e6.move fun b hb hlt => ⟨HST.out.only.block b hlt (by show ¬ c b = π; rw [hb.1]; exact fun h => hπ h.symm), (HST.out.col b hlt).trans hb.1, Nat.lt_of_lt_of_le hlt HST.out.only.size⟩)
      have HOK := Lib.hid e5
      have HKK := Lib.hid (joinF_ok HK.out (l.take k) (fun x hx => HO.out x (List.mem_of_mem_take hx)))
      obtain ⟨x1, x2, x3, x4, x5, x6, g⟩ := cc
      dsimp only at *
      subst e1 e2 e3 e4
      clear hc hcell hcs e5 e6
      obtain ⟨bo, hbo⟩ : ∃ bo, (putF (joinF L (l.take k)).1 e).2.1 = bo := ⟨_, rfl⟩
      have HBO := Lib.hid hbo
      clear hbo
      cases bo
      · go_wp2_with (go_at_call 12; go_loud ((refine (ref_put HSH.out HST.out.fresh hπ hj1 HKK.out HOK.out HI.out).mono ?_); rintro e3 w3 ⟨rfl, c3, st3, sh3⟩; rw [HBO.out]; have ST3 := Lib.hid st3; have SH3 := Lib.hid sh3; clear st3 sh3))
        have hsn : joinF L (l.take (k + 1)) = ((putF (joinF L (l.take k)).1 e).1, (joinF L (l.take k)).2 + 0) := by rw [HT.out, joinF_snoc, HBO.out]; rfl
        refine ⟨⟨k + 1, c3, by omega, by simp, by rw [hsn]; simp, HST.out.trans ST3.out, by rw [hsn]; exact SH3.out⟩, ?_⟩
        simp [intOf]; omega
      · go_wp2_with (go_at_call 12; go_loud ((refine (ref_put HSH.out HST.out.fresh hπ hj1 HKK.out HOK.out HI.out).mono ?_); rintro e3 w3 ⟨rfl, c3, st3, sh3⟩; rw [HBO.out]; have ST3 := Lib.hid st3; have SH3 := Lib.hid sh3; clear st3 sh3))
        have hsn : joinF L (l.take (k + 1)) = ((putF (joinF L (l.take k)).1 e).1, (joinF L (l.take k)).2 + 1) := by rw [HT.out, joinF_snoc, HBO.out]; rfl
        refine ⟨⟨k + 1, c3, by omega, by simp, by rw [hsn]; simp, HST.out.trans ST3.out, by rw [hsn]; exact SH3.out⟩, ?_⟩
        simp [intOf]; omega
    · obtain rfl : k = n := by omega
      have hT : l.take k = l := List.take_of_length_le (by rw [HN.out]; exact Nat.le_refl _)
      have h1 := HSH.out
      rw [hT] at h1
      go_wp2
      go_ret
      exact ⟨by first | rfl | (rw [hT]; rfl) | rw [hT] | (rw [← hT]; rfl), c', HST.out, h1⟩

end Go.Proofs.Ytjcbmfopcohcmaa
