/- The document's shelf: Cut. Conditions: it is one. -/
import Derived.Test.YtmohkfihfkcpdaaRefScan
import Derived.Test.YtmohkfihfkcpdaaRefJoin
namespace Go.Proofs.Ytmohkfihfkcpdaa
open Go.RowKit Go.ChangeShapes Go.Maps
set_option maxRecDepth 100000
set_option linter.unusedVariables false
set_option linter.unusedSimpArgs false

/-- Colours that keep data data, and all else apart. -/
def dataCol (c : Col) : Col := fun k => if c k = [] then [] else [9]
theorem data_still {c : Col} {w : World} {b : Nat} : Still (dataCol c) w b ↔ Still c w b := by
  unfold Still dataCol
  by_cases h : c b = []
  · rw [if_pos h]; simp [h]
  · rw [if_neg h]; simp [h]
theorem data_fresh {c : Col} {w : World} (h : Fresh c w) : Fresh (dataCol c) w := fun k hk => if_pos (h k hk)
theorem data_below {c c' : Col} {w w' : World} (h : Stp (· = [8]) (dataCol c) w c' w') : Below w.heap.size w w' :=
  h.below (Nat.le_refl _) fun k _ hk => by unfold dataCol at hk; split at hk <;> cases hk
/-- The row made beside is the object's own from now on. -/
theorem data_own {c c' : Col} {π : List Int} {w w' : World} {v : Value} {L : List Ent} (hf : Fresh c w) (h : Stp (· = [8]) (dataCol c) w c' w') (hr : EntRow c' [8] w' v L) : ∃ c'', Stp (· = π) c w c'' w' ∧ EntRow c'' π w' v L := by
  have hne : ∀ k, k < w.heap.size → c' k ≠ [8] := fun k hk => by
    rw [h.col k hk]; unfold dataCol; split <;> simp
  refine ⟨fun k => if k < w.heap.size then c k else if c' k = [8] then π else [], ⟨Only.of_below (data_below h), fun k hk => if_pos hk, fun k hk => ?_⟩, hr.recolor (fun k hk => ?_) fun k hk => ?_⟩
  · have := h.only.size
    show (if _ then _ else _) = _
    rw [if_neg (by omega), h.fresh k hk]; simp
  · show (if _ then _ else _) = _
    by_cases hlt : k < w.heap.size
    · rw [if_pos hlt]
      rw [h.col k hlt] at hk
      unfold dataCol at hk
      by_cases h0 : c k = []
      · exact h0
      · rw [if_neg h0] at hk; cases hk
    · rw [if_neg hlt, hk]; simp
  · show (if _ then _ else _) = _
    by_cases hlt : k < w.heap.size
    · exact absurd hk (hne k hlt)
    · rw [if_neg hlt, if_pos hk]

set_option maxHeartbeats 2000000 in
theorem ref_cut {c : Col} {π : List Int} {w : World} {b : Nat} {L : List Ent} (f t : Int) (h : RefR c π w b L) (hf : Fresh c w) (hπ : π ≠ []) (hL : L.length ≤ 10000) (hk : ShelfOk L) (huf : U32 f) :
    Calls Try.prog 49 #[.pointer (some ⟨b, 0, none⟩), .agg #[.int .u32 f, .int .u32 t]] w fun e w' => ∃ A cap, e = .returned (.slice A (scanL f t L).length cap) ∧ ∃ c', Stp (· = π) c w c' w' ∧ RefR c' π w' b (L.filter (fun e => !hasE f t e)) ∧ EntsAt w' (Still c' w') A (scanL f t L).length cap (scanL f t L) := by
  have H1 := Lib.hid (h.later hf (below_a1 w (.cells #[.int .u32 f, .int .u32 t] 54)))
  have X3 := Lib.hid (Box.new w #[.int .u32 f, .int .u32 t] 54)
  have HB3 := Lib.hid (below_a1 w (.cells #[.int .u32 f, .int .u32 t] 54))
  have F1 := Lib.hid (show Fresh c (w.alloc (.cells #[.int .u32 f, .int .u32 t] 54)) from fun k hk => hf k (by rw [size_alloc] at hk; omega))
  have hbw : b < w.heap.size := by obtain ⟨_, q, _⟩ := h; exact q.lt
  have HREF := Lib.hid h; have HF := Lib.hid hf; have HK := Lib.hid hk; have HUF := Lib.hid huf
  have hcb : c b = π := by obtain ⟨_, _, q, _⟩ := h; exact q
  have HCB := Lib.hid hcb
  obtain ⟨out, hout⟩ : ∃ out, scanL f t L = out := ⟨_, rfl⟩
  have HOUT := Lib.hid hout
  rw [hout]
  clear h hf hk huf hcb hout
  go_enter Try.func49, Try.ntmps49
  go_wp2_with (go_at_call 58; go_loud ((with_reducible refine (ref_scan f t H1.out F1.out hL HK.out HUF.out).mono ?_); rintro e1 w1 ⟨A1, cap1, rfl, hA1, hE1, hb1⟩; rw [HOUT.out] at hA1 hE1 ⊢; have HE1 := Lib.hid hE1; have HB1 := Lib.hid (below_from HB3.out hb1 HB3.out.size); have X1 := Lib.hid (X3.out.below hb1 X3.out.lt); have HA1 := Lib.hid hA1; clear hb1 hE1 hA1))
  have FW := Lib.hid (show Fresh c w1 from fun k hk => HF.out k (Nat.le_trans HB1.out.size hk))
  obtain ⟨v, hb, _, hrow⟩ := HREF.out.later HF.out HB1.out
  obtain ⟨AL, capL, rfl, r1, r2, r3, r4⟩ := hrow.shape
  have HROW := Lib.hid hrow; have HBX := Lib.hid hb
  have zw := Lib.hid HB1.out.size
  clear hb hrow r3 r4
  go_loopw [6, 7] (fun s6 s7 wr => ∃ (i : Nat) (c1 : Col), i ≤ L.length ∧ s7 = .int .i64 i ∧ Stp (· = [8]) (dataCol c) w1 c1 wr ∧ EntRow c1 [8] wr s6 ((L.take i).filter (fun e => !hasE f t e))) (fun _ k _ => L.length - (intOf k).toNat)
  case atStart => exact ⟨0, dataCol c, by omega, rfl, Stp.refl _ (data_fresh FW.out), EntRow.nil _ _ _⟩
  case round =>
    obtain ⟨i, c1, hi, rfl, hst, hrr⟩ := hrel
    have hB := data_below hst
    have HST := Lib.hid hst; have HRR := Lib.hid hrr; have HB := Lib.hid hB
    have YB := HBX.out.below hB HBX.out.lt; have YX := X1.out.below hB X1.out.lt
    have cb := YB.cell; have zb := YB.lt; have cx := YX.cell; have zx := YX.lt
    have HYB := Lib.hid YB
    have HYR := Lib.hid (HROW.out.later FW.out hB)
    obtain ⟨AR, capR, rfl, p1, p2, p3, p4⟩ := hrr.shape
    have hfl := List.length_filter_le (fun e => !hasE f t e) (L.take i)
    have hti : (L.take i).length ≤ i := by simp; omega
    clear hst hrr hB YB YX p3 p4
    by_cases hlt : i < L.length
    · obtain ⟨e, he⟩ : ∃ e, L[i]? = some e := ⟨_, List.getElem?_eq_getElem hlt⟩
      obtain ⟨g, rfl, _, zg1⟩ := HROW.out.addr (by omega)
      obtain ⟨m, hm, hme⟩ := HROW.out.cells he
      have zg : g < wr.heap.size := Nat.lt_of_lt_of_le zg1 HB.out.size
      have hq := fun t u hu => (HB.out.cell (p := ⟨g, i * 5 + t, none⟩) zg1).trans (hm t u hu)
      have d0 := hq 0 _ rfl; have d1 := hq 1 _ rfl; have d2 := hq 2 _ rfl; have d3 := hq 3 _ rfl; have d4 := hq 4 _ rfl
      simp only [Nat.add_zero] at d0
      have HFS := Lib.hid (filter_snoc (fun e => !hasE f t e) he)
      have heok := HK.out.2 e (List.mem_of_getElem? he)
      have HME := Lib.hid hme
      have hmx : m.x = e.value := hme.1
      have HMX := Lib.hid hmx
      have HU := Lib.hid heok.1
      clear hm hq hme he heok hmx
      have S0 := Same.refl wr
      cases hh : hasE f t e with
      | true =>
        have HH := Lib.hid (show hasF f t m.x = true by rw [HMX.out]; exact hh)
        have HFS2 := Lib.hid (show (L.take (i + 1)).filter (fun e => !hasE f t e) = (L.take i).filter (fun e => !hasE f t e) by rw [HFS.out]; simp [hh])
        have HHAS := Lib.hid (fun w' => rhas_any f t m.x w' HUF.out (by rw [HMX.out]; exact HU.out))
        clear hh
        go_upto_region 6 with fail
        go_region_held3 (fun w' => Same wr w') (with_reducible (first | assumption | exact Same.drew _))
          ((go_at_call 88; (with_reducible refine (HHAS.out _).mono ?_); rintro e8 w8 ⟨rfl, hb8⟩; rw [HH.out]; have S1 := Same.step (show Same wr _ by (with_reducible (first | assumption | exact Same.drew _))) hb8; clear hb8))
        all_goals
          go_wp2
          go_roundw
          case rel => exact ⟨i + 1, c1, by omega, by go_num, HST.out.trans (Stp.of_below _ HST.out.fresh (show Same wr _ by (first | assumption | exact Same.drew' (by assumption))).1), by rw [HFS2.out]; exact HRR.out.later HST.out.fresh (show Same wr _ by (first | assumption | exact Same.drew' (by assumption))).1⟩
          case measure => simp [intOf]; omega
      | false =>
        have HH := Lib.hid (show hasF f t m.x = false by rw [HMX.out]; exact hh)
        have HFS2 := Lib.hid (show (L.take (i + 1)).filter (fun e => !hasE f t e) = (L.take i).filter (fun e => !hasE f t e) ++ [e] by rw [HFS.out]; simp [hh])
        have HHAS := Lib.hid (fun w' => rhas_any f t m.x w' HUF.out (by rw [HMX.out]; exact HU.out))
        clear hh
        go_upto_region 6 with fail
        go_region_held3 (fun w' => Same wr w') (with_reducible (first | assumption | exact Same.drew _))
          ((go_at_call 88; (with_reducible refine (HHAS.out _).mono ?_); rintro e8 w8 ⟨rfl, hb8⟩; rw [HH.out]; have S1 := Same.step (show Same wr _ by (with_reducible (first | assumption | exact Same.drew _))) hb8; clear hb8))
        all_goals
          go_upto_region 7 with fail
          refine wp_abs (fun wx => Same wr wx) (show Same wr _ by (first | assumption | exact Same.drew' (by assumption))) ?_
          intro wz SZ
          have e0 := (SZ.1.cell (p := ⟨g, i * 5, none⟩) zg).trans d0; have e1 := (SZ.1.cell (p := ⟨g, i * 5 + 1, none⟩) zg).trans d1; have e2 := (SZ.1.cell (p := ⟨g, i * 5 + 2, none⟩) zg).trans d2; have e3 := (SZ.1.cell (p := ⟨g, i * 5 + 3, none⟩) zg).trans d3; have e4 := (SZ.1.cell (p := ⟨g, i * 5 + 4, none⟩) zg).trans d4
          have YB := HYB.out.below SZ.1 zb
          have cb := YB.cell
          have SC := Lib.hid (HST.out.trans (Stp.of_below _ HST.out.fresh SZ.1))
          have RR := Lib.hid (HRR.out.later HST.out.fresh SZ.1)
          have AL := Lib.hid (below_a1 wz (.cells #[.int .u32 m.x, .int .u64 m.id, .int .u64 m.ver, .slice m.s m.l m.c, .bool m.g] 49))
          have EN := Lib.hid ((((HME.out.imp fun b hb => data_still.2 hb).step SC.out (by simp)).step (C := (· = [8])) (Stp.of_below _ SC.out.fresh AL.out) (by simp)))
          clear d0 d1 d2 d3 d4 SZ YB
          go_wp2_with (at_builtin; go_loud (refine wpList_append_ent rfl _ _ rfl _ rfl (RR.out.later SC.out.fresh AL.out) (SC.out.trans (Stp.of_below _ SC.out.fresh AL.out)).fresh (by simp) (some ⟨wz.heap.size, 0, none⟩) 1 1 rfl (ents_one (e := e) (m := m) (Box.new _ _ _) (SC.out.fresh _ (Nat.le_refl _)) EN.out) (fun h => by cases h) (by omega) ?_; intro B2 cap2 w2 c2 st2 er2))
          go_roundw
          case rel => exact ⟨i + 1, c2, by omega, by go_num, (SC.out.trans (Stp.of_below _ SC.out.fresh AL.out)).trans st2, by rw [HFS2.out]; exact er2⟩
          case measure => simp [intOf]; omega
    · obtain rfl : i = L.length := by omega
      have hT : L.take L.length = L := List.take_length
      rw [hT] at HRR
      obtain ⟨c2, t1, t2⟩ := data_own (π := π) FW.out HST.out HRR.out
      have T1 := Lib.hid t1; have T2 := Lib.hid t2
      have HT := Lib.hid hT
      have fb := HYB.out.free
      clear t1 t2 hT
      go_wp2
      go_ret
      obtain ⟨k1, k2⟩ := ref_turn hπ (Nat.lt_of_lt_of_le hbw zw.out) HCB.out T1.out HYB.out T2.out
      have hs0 : Stp (· = π) c w c w1 := Stp.of_below _ HF.out HB1.out
      have he : EntsAt w1 (Still c w1) A1 out.length cap1 out := HE1.out.imp fun b hb => ⟨HF.out b (by have := hb.1; rw [size_alloc] at this; omega), hb.2⟩
      have nπ : ¬ ([] : List Int) = π := fun e => hπ e.symm
      refine ⟨A1, cap1, rfl, c2, hs0.trans ?_, ?_, he.step (C := (· = π)) ?_ nπ⟩
      · have := k1; first | exact this | (rw [HT.out] at this ⊢; exact this) | (rw [HT.out]; exact this)
      · have := k2; first | exact this | (rw [HT.out] at this ⊢; exact this) | (rw [HT.out]; exact this)
      · have := k1; first | exact this | (rw [HT.out] at this ⊢; exact this) | (rw [HT.out]; exact this)
end Go.Proofs.Ytmohkfihfkcpdaa
