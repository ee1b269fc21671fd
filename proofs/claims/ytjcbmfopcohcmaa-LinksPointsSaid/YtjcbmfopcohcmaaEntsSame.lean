/- The helper's Entries: whether two rows of entries are the same. Conditions: the rows read so. -/
import Derived.Test.YtjcbmfopcohcmaaEntsOpen
import Derived.Test.YtjcbmfopcohcmaaShelfNow
namespace Go.Proofs.Ytjcbmfopcohcmaa
open Go.RowKit Go.ChangeShapes
set_option maxRecDepth 100000
set_option linter.unusedVariables false
set_option linter.unusedSimpArgs false

/-- A row of entries is read wherever it lies: a scan's own row is one. -/
theorem scan_ents {base : Nat} {L : List Ent} {w : World} {g n cap : Nat} {M : List EntC} (h : ScanRow base (eOf L) w (.slice (some ⟨g, 0, none⟩) n cap) M) (hn : n = M.length) (hc : n ≤ 9223372036854775807) : EntsAt w (· < w.heap.size) (some ⟨g, 0, none⟩) n cap (M.map (eOf L)) := by
  refine ⟨by rw [List.length_map, hn], hc, fun _ => ⟨g, 0, rfl, (ownBlock_lt h.row rfl).2, fun j e he => ?_⟩⟩
  rw [List.getElem?_map] at he
  obtain ⟨c, hc, rfl⟩ := Option.map_eq_some_iff.1 he
  refine ⟨c, fun t u hu => ?_, (h.ents c (List.mem_of_getElem? hc)).move fun b hb hlt => ⟨rfl, hlt⟩⟩
  have ht : t < 5 := (List.getElem?_eq_some_iff.1 hu).1
  rcases h.row.2 with ⟨h0, _⟩ | ⟨g', cap', cur, he', hb, hh, hn', hc', hs, htk⟩
  · cases h0
  · injection he' with he' _ _
    injection he' with he'
    injection he' with he'
    subst he'
    have hk := (List.getElem?_eq_some_iff.1 hc).1
    have hbox : Box w g cur := ⟨_, hh⟩
    have h9 := ecCells_at hc t ht
    rw [hu, ← htk, List.getElem?_take_of_lt (by omega), Array.getElem?_toList] at h9
    rw [Nat.zero_add, hbox.cell]
    exact h9
theorem eqE_rec {x : Int} {g : Bool} {r1 r2 : Rec} : eqE ⟨x, r1, g⟩ ⟨x, r2, g⟩ = eqR r1 r2 := by unfold eqE eqR; simp
theorem hent_all {D D' : Nat → Prop} {c1 c2 : EntC} {e1 e2 : Ent} (w : World) (h1 : EntNew w D c1 e1) (h2 : EntNew w D' c2 e2) (d1 : ∀ b, D b → b < w.heap.size) (d2 : ∀ b, D' b → b < w.heap.size) :
    Calls Try.prog 45 #[mkEnt c1, mkEnt c2] w fun e w' => e = .returned (.bool (eqE e1 e2)) ∧ Below w.heap.size w w' := by
  obtain ⟨x1, i1, v1, s1, l1, k1, g1⟩ := c1
  obtain ⟨x2, i2, v2, s2, l2, k2, g2⟩ := c2
  obtain ⟨y1, ⟨j1, u1, vals1⟩, b1⟩ := e1
  obtain ⟨y2, ⟨j2, u2, vals2⟩, b2⟩ := e2
  obtain ⟨a1, a2, a3, a4, a5, a6⟩ := h1
  obtain ⟨p1, p2, p3, p4, p5, p6⟩ := h2
  dsimp only at *
  subst a1 a2 a3 a4 p1 p2 p3 p4
  unfold mkEnt
  dsimp only
  by_cases hx : x1 = x2
  · by_cases hg : g1 = g2
    · have h := hent_any w hx hg (r1 := ⟨i1, v1, vals1⟩) (r2 := ⟨i2, v2, vals2⟩) ⟨s1, l1, k1, rfl, a5.2, a6⟩ ⟨s2, l2, k2, rfl, p5.2, p6⟩ d1 d2
      subst hx hg
      rw [eqE_rec]
      exact h
    · have he : eqE ⟨x1, ⟨i1, v1, vals1⟩, g1⟩ ⟨x2, ⟨i2, v2, vals2⟩, g2⟩ = false := by unfold eqE; simp [hg]
      rw [he]
      subst hx
      have hgg : (g1 == g2) = false := by rw [beq_eq_false_iff_ne]; exact hg
      clear a6 p6 d1 d2
      go_enter Try.func45, Try.ntmps45
      go_wp2
      go_ret
      exact ⟨by first | rfl | simp, (by repeat (first | exact Below.refl _ _ | assumption | apply Below.drew | apply belowN | (refine Below.alloc ?_ (by first | exact Nat.le_refl _ | (simp; done) | (simp; omega)) _) | (refine Below.setCell ?_ (by first | exact Nat.le_refl _ | (simp; done) | (simp; omega)) _)))⟩
  · have he : eqE ⟨x1, ⟨i1, v1, vals1⟩, g1⟩ ⟨x2, ⟨i2, v2, vals2⟩, g2⟩ = false := by unfold eqE; simp [hx]
    rw [he]
    have hxx : (x1 == x2) = false := by rw [beq_eq_false_iff_ne]; exact hx
    clear a6 p6 d1 d2
    go_enter Try.func45, Try.ntmps45
    go_wp2
    go_ret
    exact ⟨by first | rfl | simp, (by repeat (first | exact Below.refl _ _ | assumption | apply Below.drew | apply belowN | (refine Below.alloc ?_ (by first | exact Nat.le_refl _ | (simp; done) | (simp; omega)) _) | (refine Below.setCell ?_ (by first | exact Nat.le_refl _ | (simp; done) | (simp; omega)) _)))⟩
theorem take_snocE {l : List Ent} {k : Nat} {e : Ent} (h : l[k]? = some e) : l.take (k + 1) = l.take k ++ [e] := by rw [List.take_add_one, h]; rfl
set_option maxHeartbeats 1000000 in
theorem same_ents {A A' : Option Addr} {n cap n' cap' : Nat} {l l' : List Ent} (w : World) (h : EntsAt w (· < w.heap.size) A n cap l) (h' : EntsAt w (· < w.heap.size) A' n' cap' l') :
    Calls Try.prog 44 #[.slice A n cap, .slice A' n' cap', .func (.func 45) #[] #[]] w fun e w' => e = .returned (.bool (decide (l = l'))) ∧ Below w.heap.size w w' := by
  obtain ⟨hn, hnm, hc⟩ := h
  obtain ⟨hn', hnm', hc'⟩ := h'
  have HN := Lib.hid hn; have HN' := Lib.hid hn'; have HC := Lib.hid hc; have HC' := Lib.hid hc'
  clear hn hn' hc hc'
  by_cases hnn : n = n'
  · subst hnn
    go_enter Try.func44, Try.ntmps44
    go_wp2
    go_loopw [7] (fun i wr => ∃ k : Nat, k ≤ n ∧ i = .int .i64 k ∧ l.take k = l'.take k ∧ Below w.heap.size w wr) (fun i _ => n - (intOf i).toNat)
    case atStart => exact ⟨0, Nat.zero_le _, rfl, rfl, Below.refl _ _⟩
    case round =>
      obtain ⟨k, hk, rfl, ht, hB⟩ := hrel
      have HT := Lib.hid ht; have HB := Lib.hid hB
      clear ht hB
      by_cases hlt : k < n
      · obtain ⟨e, he⟩ : ∃ e, l[k]? = some e := ⟨_, List.getElem?_eq_getElem (by rw [HN.out]; exact hlt)⟩
        obtain ⟨e', he'⟩ : ∃ e, l'[k]? = some e := ⟨_, List.getElem?_eq_getElem (by rw [HN'.out]; exact hlt)⟩
        obtain ⟨b, off, rfl, hd, hc⟩ := HC.out (by omega)
        obtain ⟨b', off', rfl, hd', hc'⟩ := HC'.out (by omega)
        obtain ⟨c, hcell, hent⟩ := hc k e he
        obtain ⟨c', hcell', hent'⟩ := hc' k e' he'
        have q := fun t u hu => (HB.out.cell (p := ⟨b, off + k * 5 + t, none⟩) hd).trans (hcell t u hu)
        have q' := fun t u hu => (HB.out.cell (p := ⟨b', off' + k * 5 + t, none⟩) hd').trans (hcell' t u hu)
        have d0 := q 0 _ rfl; have d1 := q 1 _ rfl; have d2 := q 2 _ rfl; have d3 := q 3 _ rfl; have d4 := q 4 _ rfl
        have f0 := q' 0 _ rfl; have f1 := q' 1 _ rfl; have f2 := q' 2 _ rfl; have f3 := q' 3 _ rfl; have f4 := q' 4 _ rfl
        simp only [Nat.add_zero] at d0 f0
        have zb : b < wr.heap.size := Nat.lt_of_lt_of_le hd HB.out.size
        have zb' : b' < wr.heap.size := Nat.lt_of_lt_of_le hd' HB.out.size
        have HS0 := Lib.hid (take_snocE he); have HS1 := Lib.hid (take_snocE he'); have HE := Lib.hid he; have HE' := Lib.hid he'
        have HQ := Lib.hid (fun (w' : World) (hs : Same wr w') => hent_all w' (hent.move (D' := (· < w.heap.size)) fun b hb hlt => ⟨(below_from HB.out hs.1 HB.out.size).block b hb, hb⟩) (hent'.move (D' := (· < w.heap.size)) fun b hb hlt => ⟨(below_from HB.out hs.1 HB.out.size).block b hb, hb⟩) (fun b hb => Nat.lt_of_lt_of_le hb (below_from HB.out hs.1 HB.out.size).size) (fun b hb => Nat.lt_of_lt_of_le hb (below_from HB.out hs.1 HB.out.size).size))
        clear hc hc' hcell hcell' hent hent' q q' he he'
        go_upto_region 6 with fail
        go_region_held3 (fun w' => Same wr w') (with_reducible (first | assumption | exact Same.drew _))
          ((go_at_call 45; (refine (HQ.out _ (show Same wr _ by (with_reducible (first | assumption | exact Same.drew _)))).mono ?_); rintro e2 w2 ⟨rfl, hb2⟩; have S1 := Same.step (show Same wr _ by (with_reducible (first | assumption | exact Same.drew _))) hb2; clear hb2))
        all_goals
          cases hq : eqE e e'
          · have hne : decide (l = l') = false := decide_eq_false fun h => by
              have h1 := HE.out
              rw [h] at h1
              rw [HE'.out] at h1
              injection h1 with h1
              rw [h1, eqE_self] at hq
              cases hq
            have HNE := Lib.hid hne
            clear hne
            go_wp2
            go_ret
            exact ⟨by rw [HNE.out]; first | rfl | simp, below_from HB.out (show Same wr _ by assumption).1 HB.out.size⟩
          · have hee : e = e' := eqE_iff.1 hq
            have HT2 := Lib.hid (show l.take (k + 1) = l'.take (k + 1) by rw [HS0.out, HS1.out, HT.out, hee])
            clear hee
            go_wp2
            refine ⟨⟨k + 1, by omega, by simp, HT2.out, below_from HB.out (show Same wr _ by assumption).1 HB.out.size⟩, ?_⟩
            simp [intOf]; omega
      · obtain rfl : k = n := by omega
        have hll : l = l' := by
          have := HT.out
          rwa [List.take_of_length_le (by rw [HN.out]; exact Nat.le_refl _), List.take_of_length_le (by rw [HN'.out]; exact Nat.le_refl _)] at this
        have HD := Lib.hid (decide_eq_true hll)
        clear hll
        go_wp2
        go_ret
        exact ⟨by rw [HD.out]; first | rfl | simp, HB.out⟩
  · have he : decide (l = l') = false := decide_eq_false fun h => hnn (by rw [← HN.out, ← HN'.out, h])
    rw [he]
    go_enter Try.func44, Try.ntmps44
    go_wp2
    go_ret
    exact ⟨by first | rfl | simp, Below.refl _ _⟩
theorem entries_any {A A' : Option Addr} {n cap n' cap' : Nat} {l l' : List Ent} (w : World) (h : EntsAt w (· < w.heap.size) A n cap l) (h' : EntsAt w (· < w.heap.size) A' n' cap' l') :
    Calls Try.prog 15 #[.slice A n cap, .slice A' n' cap'] w fun e w' => e = .returned (.bool (decide (l = l'))) ∧ Below w.heap.size w w' := by
  have HC := Lib.hid (same_ents w h h')
  clear h h'
  go_enter Try.func15, Try.ntmps15
  go_wp2_with (go_at_call 44; go_loud ((with_reducible refine HC.out.mono ?_); rintro e w1 ⟨rfl, hb⟩))
  go_ret
  exact ⟨rfl, hb⟩
end Go.Proofs.Ytjcbmfopcohcmaa
