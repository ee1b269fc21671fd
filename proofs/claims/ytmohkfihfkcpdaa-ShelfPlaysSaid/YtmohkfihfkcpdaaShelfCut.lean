/- The shelf's Cut: a scan, then a delete of each. Conditions: the shelf is one. -/
import Derived.Test.YtmohkfihfkcpdaaShelfScan
namespace Go.Proofs.Ytmohkfihfkcpdaa
open Go.RowKit Go.ChangeShapes Go.Maps
open Go.ChangeMaps (setBlock heap_setBlock_other)
set_option maxRecDepth 100000
set_option linter.unusedVariables false
set_option linter.unusedSimpArgs false

theorem heldIf_drop {P : Program} {t k e : TypeId} {b n : Nat} {D : DataW Value} {w : World} {p : Value → Bool} (h : w.ownsMap P k (heldIf p) b n D) (K : Keyed P k) (ht : P.underlying t = some (.map k e)) {key : Value} {kl : Lit} (hkey : keyOf P k key = some kl) (ty : TypeId) :
    ∃ dr : World → World, ∀ (w' : World), Below w.heap.size w w' → (Builtin.delete_ #[t, k] ty #[.map (some b), key]).run P w' = .ok (.tuple #[]) (dr w') ∧ (dr w').ownsMap P k (heldIf p) b n (D.del kl) ∧ Only (· = b) w' (dr w') := by
  classical
  have key : ∀ (w' : World), ∃ u, Below w.heap.size w w' → (Builtin.delete_ #[t, k] ty #[.map (some b), key]).run P w' = .ok (.tuple #[]) u ∧ u.ownsMap P k (heldIf p) b n (D.del kl) ∧ Only (· = b) w' u := by
    intro w'
    by_cases hc : Below w.heap.size w w'
    · obtain ⟨u, h1, h2, es, cl, es', cl', hb, rfl⟩ := (ownsMap_only h (Only.of_below (S := fun _ => False) hc) (fun h => h)).drop K ht hkey ty
      exact ⟨_, fun _ => ⟨h1, h2, ⟨rfl, rfl, rfl, by simp [setBlock], fun i _ hi => heap_setBlock_other hb _ hi⟩⟩⟩
    · exact ⟨w', fun h1 => absurd h1 hc⟩
  exact ⟨fun w' => Classical.choose (key w'), fun w' => Classical.choose_spec (key w')⟩
theorem scan_cell {base : Nat} {F : EntC → Ent} {w : World} {g n cap : Nat} {M : List EntC} (h : ScanRow base F w (.slice (some ⟨g, 0, none⟩) n cap) M) {k : Nat} {c : EntC} (hc : M[k]? = some c) : ∀ t, t < 5 → w.cell? ⟨g, k * 5 + t, none⟩ = (encE c)[t]? := by
  intro t ht
  rcases h.row.2 with ⟨h0, _⟩ | ⟨g', cap', cur, he, hb, hh, hn, hc', hs, htk⟩
  · cases h0
  · injection he with he _ _
    injection he with he
    injection he with he
    subst he
    have hk := (List.getElem?_eq_some_iff.1 hc).1
    have hbox : Box w g cur := ⟨_, hh⟩
    rw [hbox.cell, ← ecCells_at hc t ht, ← htk, List.getElem?_take_of_lt (by omega), Array.getElem?_toList]
/-- What stays, of M's entries the first k being struck. -/
def cutL (L : List Ent) (M : List EntC) : List Ent := L.filter fun e => !M.any fun c => ekB c.x c.id e
theorem cutL_snoc (L : List Ent) (M : List EntC) (c : EntC) : (cutL L M).filter (fun e => !ekB c.x c.id e) = cutL L (M ++ [c]) := by
  unfold cutL
  rw [List.filter_filter]
  refine List.filter_congr fun e _ => ?_
  simp [Bool.and_comm]
theorem cutL_all {base : Nat} {L : List Ent} {w : World} {v : Value} {M : List EntC} {f t : Int} (h : ScanRow base (eOf L) w v M) (hp : (M.map (eOf L)).Perm (L.filter (hasE f t))) : cutL L M = L.filter (fun e => !hasE f t e) := by
  unfold cutL
  refine List.filter_congr fun e he => ?_
  congr 1
  cases hh : hasE f t e with
  | true =>
    have h1 : e ∈ M.map (eOf L) := hp.mem_iff.2 (List.mem_filter.2 ⟨he, hh⟩)
    obtain ⟨c, hc, rfl⟩ := List.mem_map.1 h1
    have h2 := h.ents c hc
    exact List.any_eq_true.2 ⟨c, hc, ekB_iff.2 ⟨h2.1.symm, h2.2.1.symm⟩⟩
  | false =>
    rw [Bool.eq_false_iff]
    intro h1
    obtain ⟨c, hc, hk⟩ := List.any_eq_true.1 h1
    have h2 := h.ents c hc
    have h3 := (List.mem_filter.1 (hp.mem_iff.1 (List.mem_map_of_mem hc))).2
    have h4 := (ekB_iff.1 hk).1
    unfold hasE at h3 hh
    rw [← h2.1, ← h4, hh] at h3
    cases h3

set_option maxHeartbeats 1000000 in
theorem shelf_cut {c : Col} {π : List Int} {w : World} {b : Nat} {L : List Ent} (h : ShelfR c π w b L) (hf : Fresh c w) (hπ : π ≠ []) (hL : L.length < 1000000) (f t : Int) :
    Calls Try.prog 34 #[.pointer (some ⟨b, 0, none⟩), .agg #[.int .u32 f, .int .u32 t]] w fun e w' => ∃ v M, e = .returned v ∧ ScanRow (w.heap.size + 1 + 2) (eOf L) w' v M ∧ (M.map (eOf L)).Perm (L.filter (hasE f t)) ∧ M.Pairwise (fun x y => ltOf (scanC f) y x = false) ∧ Stp (· = π) c w c w' ∧ ShelfR c π w' b (L.filter (fun e => !hasE f t e)) ∧ Boxes w w' := by
  have HF := Lib.hid hf; have HS := Lib.hid h
  obtain ⟨mb, D, hb, hcb, hcm, hm, hd⟩ := id h
  have nb : b ≠ mb := by
    rintro rfl
    obtain ⟨es, cl, h1, _⟩ := hm
    have h2 := hb
    unfold BoxT at h2
    rw [h2] at h1
    cases h1
  have HB := Lib.hid hb; have HM := Lib.hid hm; have HD := Lib.hid hd
  clear hb hm hd
  have hs1 := Lib.hid (h.later hf (below_a1 w (.cells #[.int .u32 f, .int .u32 t] 54)))
  clear h hf
  go_enter Try.func34, Try.ntmps34
  go_wp2_with (go_at_call 29; go_loud ((with_reducible refine (shelf_scan hs1.out hL f t).mono ?_); rintro e w1 ⟨v, M, rfl, hrow, hperm, hsort, hb1⟩; rw [size_alloc] at hrow; obtain ⟨A, cap, rfl, q1, q2, q3, q4⟩ := owns_shape hrow.row; have HROW := Lib.hid hrow; have HPERM := Lib.hid hperm; have HSORT := Lib.hid hsort; have HB1 := Lib.hid (below_from (below_a1 w _) hb1 (by rw [size_alloc]; omega)); clear hrow hperm hsort hb1))
  have HZ := Lib.hid (show mb < w.heap.size from HM.out.lt)
  go_loopw [13] (fun s13 wr => ∃ (k : Nat) (D' : DataW Value), k ≤ M.length ∧ s13 = .int .i64 k ∧ wr.ownsMap Try.prog 90 (heldIf isEnt) mb L.length D' ∧ MapOf kE (EVal c w) D' (cutL L (M.take k)) ∧ ScanRow (w.heap.size + 1 + 2) (eOf L) wr (.slice A M.length cap) M ∧ Only (· = mb) w1 wr) (fun i _ => M.length - (intOf i).toNat)
  case atStart => exact ⟨0, D, Nat.zero_le _, rfl, ownsMap_only HM.out (Only.of_below (S := fun _ => False) HB1.out) (fun h => h), by rw [List.take_zero, show cutL L [] = L from List.filter_eq_self.2 (fun _ _ => rfl)]; exact HD.out, HROW.out, Only.refl _ _⟩
  case round =>
    obtain ⟨k, D', hk, rfl, hm', hd', hrow', ho'⟩ := hrel
    have HM' := Lib.hid hm'; have HD' := Lib.hid hd'; have HR' := Lib.hid hrow'; have HO' := Lib.hid ho'
    have HBr := Lib.hid ((HB.out.only (Only.of_below (S := fun _ => False) HB1.out) id).only ho' (fun h => nb h))
    clear hm' hd' hrow' ho'
    by_cases hlt : k < M.length
    · obtain ⟨cc, hcc⟩ : ∃ cc, M[k]? = some cc := ⟨_, List.getElem?_eq_getElem hlt⟩
      obtain ⟨g, hA⟩ : ∃ g, A = some ⟨g, 0, none⟩ := by
        cases A with
        | none => have := (q3 rfl).1; omega
        | some ad => obtain ⟨g, cur, rfl, _⟩ := q4 ad rfl; exact ⟨g, rfl⟩
      subst hA
      have hcell := scan_cell HR'.out hcc
      have d0 := hcell 0 (by omega); have d1 := hcell 1 (by omega); have d2 := hcell 2 (by omega); have d3 := hcell 3 (by omega); have d4 := hcell 4 (by omega)
      have hent := HR'.out.ents cc (List.mem_of_getElem? hcc)
      have hkey := keyOf_key (x := cc.x) (id := cc.id) (by rw [hent.1]; exact hent.2.2.2.2.1.1) (by rw [hent.2.1]; exact hent.2.2.2.2.1.2.1)
      obtain ⟨dr, hdr⟩ := heldIf_drop HM'.out key_keyed Try.underlying114 hkey 0
      have HT := Lib.hid (show M.take (k + 1) = M.take k ++ [cc] by rw [List.take_add_one, hcc]; rfl)
      have hkk : ∀ e ∈ cutL L (M.take k), (!ekB cc.x cc.id e) = true ↔ kE e ≠ KL cc.x cc.id := by
        intro e he
        obtain ⟨_, v, hv, _⟩ := HD.out.has e (List.mem_filter.1 he).1
        have h1 := hv.ok
        constructor
        · intro h2 h3
          obtain ⟨e1, e2⟩ := KL_inj h1.1 h1.2.1 (by rw [hent.1]; exact hent.2.2.2.2.1.1) (by rw [hent.2.1]; exact hent.2.2.2.2.1.2.1) h3
          have := ekB_iff.2 ⟨e1, e2⟩
          rw [this] at h2; cases h2
        · intro h2
          rw [Bool.not_eq_true', Bool.eq_false_iff]
          intro h3
          obtain ⟨e1, e2⟩ := ekB_iff.1 h3
          exact h2 (by unfold kE; rw [e1, e2])
      have HDN := Lib.hid (HD'.out.del (ownsMap_tidy HM'.out key_keyed) hkk)
      rw [cutL_snoc, ← HT.out] at HDN
      have HDR := Lib.hid hdr
      clear hdr hkey hent hkk hcell HT
      simp only [encE, List.getElem?_cons_zero, List.getElem?_cons_succ, Nat.add_zero] at d0 d1 d2 d3 d4
      have zg : g < wr.heap.size := (ownBlock_lt HR'.out.row rfl).2
      have gm : w.heap.size + 1 + 2 ≤ g := (ownBlock_lt HR'.out.row rfl).1
      have zb := HBr.out.box.lt
      have cb := HBr.out.box.cell
      go_upto_region 5 with fail
      refine wp_abs (fun wy => Box wy wr.heap.size #[.int .u32 cc.x, .int .u64 cc.id, .int .u64 cc.ver, .slice cc.s cc.l cc.c, .bool cc.g] ∧ Box wy b #[.map (some mb)] ∧ Below wr.heap.size wr wy) ⟨(by repeat (first | apply Box.drew | apply Box.drewN | exact Box.newAt _ _ _ _ (by first | rfl | (simp only [size_alloc]; done) | (simp only [size_alloc]; omega)) | assumption | refine Box.alloc ?_ _)), HBr.out.box.alloc _, (by repeat (first | exact Below.refl _ _ | assumption | apply Below.drew | apply belowN | (refine Below.alloc ?_ (by first | exact Nat.le_refl _ | (simp; done) | (simp; omega)) _) | (refine Below.setCell ?_ (by first | exact Nat.le_refl _ | (simp; done) | (simp; omega)) _)))⟩ ?_
      generalize hb7 : wr.heap.size = b7
      rintro wy ⟨Y7, YB, hBy⟩
      have cy7 := Y7.cell; have cyb := YB.cell; have zy7 := Y7.lt; have zyb := YB.lt
      have HB7 := Lib.hid hb7
      have HBY := Lib.hid (show Below wr.heap.size wr wy by rw [hb7]; exact hBy)
      have n7 : b7 ≠ mb := by have := HM'.out.lt; omega
      have HU1 : ∀ w' : World, Below wy.heap.size wy w' → (Builtin.delete_ #[114, 90] 0 #[.map (some mb), .agg #[.int .u32 cc.x, .int .u64 cc.id]]).run Try.prog w' = .ok (.tuple #[]) (dr w') := fun w' hb' => (HDR.out w' (below_from HBY.out hb' HBY.out.size)).1
      have HU2 := Lib.hid (fun (w' : World) (hs : Same wy w') => (HDR.out w' (below_from HBY.out hs.1 HBY.out.size)).2)
      have HU3 := Lib.hid (fun (w' : World) (hs : Same wy w') => ButMap.of ((Only.of_below (S := (· = mb)) hs.1).trans (HU2.out w' hs).2))
      clear hBy Y7 YB hb7 d0 d1 d2 d3 d4 cb
      go_region_held3 (fun w' => ButMap mb wy w') (first | with_reducible exact ButMap.same (by first | assumption | exact Same.drew _) | with_reducible exact HU3.out _ (by assumption))
        ((go_at_call 77; (with_reducible refine (key_any cc.x cc.id cc.ver cc.s cc.l cc.c cc.g _).mono ?_); rintro e2 w2 ⟨rfl, hb2⟩; have S1 := Same.step (show Same wy _ by (with_reducible (first | assumption | exact Same.drew _))) hb2; clear hb2))
      all_goals
        go_wp2
        have F := fun (w3 : World) (S : Same wy w3) => (⟨⟨(HU2.out w3 S).1, ((HR'.out.below (below_from HBY.out S.1 HBY.out.size)).only (HU2.out w3 S).2 (fun q hq => by have := HZ.out; show ¬ q = mb; omega))⟩, HO'.out.trans ((Only.of_below (S := (· = mb)) (below_from HBY.out S.1 HBY.out.size)).trans (HU2.out w3 S).2)⟩ : (_ ∧ _) ∧ Only (· = mb) w1 (dr w3))
        refine ⟨⟨k + 1, D'.del (KL cc.x cc.id), by omega, by simp, (F _ (by assumption)).1.1, HDN.out, (F _ (by assumption)).1.2, (F _ (by assumption)).2⟩, ?_⟩
        simp [intOf]; omega
    · obtain rfl : k = M.length := by omega
      have hT : M.take M.length = M := List.take_length
      rw [hT] at HD'
      have hca := cutL_all HR'.out HPERM.out
      rw [hca] at HD'
      have st := put_stp hcm HF.out HB1.out HM.out.lt HO'.out
      have htt := ownsMap_tight HM'.out
      rw [HD'.out.size] at htt
      have HTT := Lib.hid htt; have ST := Lib.hid st
      clear htt st hca hT
      go_wp2
      go_ret
      exact ⟨_, M, rfl, HR'.out, HPERM.out, HSORT.out, ST.out, ⟨mb, D', put_box HB.out HM.out HB1.out HO'.out, hcb, hcm, HTT.out, HD'.out.imp fun e _ v hv => hv.step ST.out hπ.symm⟩, put_boxes HM.out HB1.out HO'.out⟩
end Go.Proofs.Ytmohkfihfkcpdaa
