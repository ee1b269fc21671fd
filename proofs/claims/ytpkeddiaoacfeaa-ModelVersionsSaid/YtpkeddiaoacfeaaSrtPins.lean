/- slices.Sort at whole numbers: partialInsertionSort. Conditions: the row is one's own. -/
import Derived.Test.YtpkeddiaoacfeaaSrtPart
namespace Go.Proofs.Ytpkeddiaoacfeaa
open Go.RowKit Go.Sort
set_option maxRecDepth 100000
set_option linter.unusedVariables false
set_option linter.unusedSimpArgs false

theorem scs_go {b i : Nat} {d : Array Int} (h : i < b) (hl : ¬ d[i]! < d[i - 1]!) : scanSorted ltInt d b i = scanSorted ltInt d b (i + 1) := by
  conv => lhs; unfold scanSorted
  rw [if_pos (by simp only [ltInt, h, decide_true, Bool.true_and, Bool.not_eq_true', decide_eq_false_iff_not]; exact hl)]
theorem scs_stop {b i : Nat} {d : Array Int} (h : b ≤ i ∨ d[i]! < d[i - 1]!) : scanSorted ltInt d b i = i := by
  unfold scanSorted
  rw [if_neg]
  rcases h with h | h
  · simp; omega
  · simp [ltInt, h]
theorem shd_go {j : Nat} {d : Array Int} (hl : d[j + 1]! < d[j]!) : shiftDown ltInt (j + 1) d = shiftDown ltInt j (swp d (j + 1) j) := by
  conv => lhs; unfold shiftDown
  rw [if_neg (by simp [ltInt, hl])]
theorem shd_stop {j : Nat} {d : Array Int} (hl : ¬ d[j + 1]! < d[j]!) : shiftDown ltInt (j + 1) d = d := by
  unfold shiftDown
  rw [if_pos (by simp only [ltInt, Bool.not_eq_true', decide_eq_false_iff_not]; exact hl)]
theorem shu_go {b j : Nat} {d : Array Int} (h : j < b) (hl : d[j]! < d[j - 1]!) : shiftUp ltInt b j d = shiftUp ltInt b (j + 1) (swp d j (j - 1)) := by
  conv => lhs; unfold shiftUp
  rw [if_pos h, if_neg (by simp [ltInt, hl])]
theorem shu_stop {b j : Nat} {d : Array Int} (h : b ≤ j ∨ ¬ d[j]! < d[j - 1]!) : shiftUp ltInt b j d = d := by
  unfold shiftUp
  by_cases hb : j < b
  · rw [if_pos hb, if_pos (by simp only [ltInt, Bool.not_eq_true', decide_eq_false_iff_not]; exact h.resolve_left (by omega))]
  · rw [if_neg hb]
theorem size_shd : ∀ (j : Nat) (d : Array Int), (shiftDown ltInt j d).size = d.size
  | 0, d => rfl
  | j + 1, d => by
    by_cases h : d[j + 1]! < d[j]!
    · rw [shd_go h, size_shd j, size_swp']
    · rw [shd_stop h]
theorem size_shu (b : Nat) : ∀ (m j : Nat) (d : Array Int), b - j ≤ m → (shiftUp ltInt b j d).size = d.size
  | 0, j, d, h => by rw [shu_stop (.inl (by omega))]
  | m + 1, j, d, h => by
    by_cases hb : b ≤ j
    · rw [shu_stop (.inl hb)]
    · by_cases hl : d[j]! < d[j - 1]!
      · rw [shu_go (by omega) hl, size_shu b m _ _ (by omega), size_swp']
      · rw [shu_stop (.inr hl)]
/-- A step of it. -/
theorem pins_step (a b s i i2 : Nat) (d d2 d3 : Array Int) (h : scanSorted ltInt d b i = i2) (h1 : i2 ≠ b) (h2 : 50 ≤ b - a) (h3 : d2 = if i2 - a ≥ 2 then shiftDown ltInt (i2 - 1) (swp d i2 (i2 - 1)) else swp d i2 (i2 - 1)) (h4 : d3 = if b - i2 ≥ 2 then shiftUp ltInt b (i2 + 1) d2 else d2) :
    partialIns ltInt a b (s + 1) i d = partialIns ltInt a b s i2 d3 := by
  conv => lhs; unfold partialIns
  simp only [h, h1, if_false]
  rw [if_neg (by omega), ← h3, ← h4]
theorem pins_yes (a b s i : Nat) (d : Array Int) (h : scanSorted ltInt d b i = b) : partialIns ltInt a b (s + 1) i d = (d, true) := by
  unfold partialIns
  simp only [h, if_true]
theorem pins_no (a b s i i2 : Nat) (d : Array Int) (h : scanSorted ltInt d b i = i2) (h1 : i2 ≠ b) (h2 : b - a < 50) : partialIns ltInt a b (s + 1) i d = (d, false) := by
  unfold partialIns
  simp only [h, h1, if_false, h2, if_true]

set_option maxHeartbeats 16000000 in
theorem srt_pins_u64 {T : TypeId} {C0 : Array Value} {w0 w : World} {b cap x y n : Nat} {d : Array Int} (h : RowI .u64 T C0 w0 b d w) (hn : d.size = n) (hxy : x < y) (hy : y ≤ n) (hsz : n < 4611686018427387904) :
    Calls Try.prog 136 #[.slice (some ⟨b, 0, none⟩) n cap, .int .i64 x, .int .i64 y] w fun e w' => e = .returned (.bool (partialInsertionSort ltInt d x y).2) ∧ RowI .u64 T C0 w0 b (partialInsertionSort ltInt d x y).1 w' := by
  have HH := Lib.hid h; have HN := Lib.hid hn
  obtain ⟨R, hR⟩ : ∃ R, partialInsertionSort ltInt d x y = R := ⟨_, rfl⟩
  have HRR := Lib.hid (show partialIns ltInt x y 5 (x + 1) d = R from hR)
  rw [hR]
  obtain ⟨R1, R2⟩ := R
  dsimp only
  clear h hn hR
  go_enter Try.func136, Try.ntmps136
  go_wp2
  go_loopw [7, 8] (fun s7 s8 wr => ∃ (i s : Nat) (dk : Array Int), s7 = .int .i64 i ∧ s8 = .int .i64 s ∧ s ≤ 5 ∧ x < i ∧ i ≤ y ∧ dk.size = n ∧ RowI .u64 T C0 w0 b dk wr ∧ partialIns ltInt x y (5 - s) i dk = (R1, R2)) (fun _ s _ => 5 - (intOf s).toNat)
  case atStart => exact ⟨x + 1, 0, d, by go_num, rfl, by omega, by omega, by omega, HN.out, HH.out, HRR.out⟩
  case round =>
    obtain ⟨i, s, dk, rfl, rfl, hs5, hxi, hiy, hk, hR, hE⟩ := hrel
    have HR := Lib.hid hR; have HK := Lib.hid hk; have HE := Lib.hid hE
    clear hR hk hE
    by_cases hs : s < 5
    · have hsd : decide ((s : Int) < 5) = true := by simp only [decide_eq_true_eq]; omega
      obtain ⟨r, hr⟩ : ∃ r, 5 - s = r + 1 := ⟨4 - s, by omega⟩
      have HE := Lib.hid (show partialIns ltInt x y (r + 1) i dk = (R1, R2) by rw [← hr]; exact HE.out)
      go_upto_block 2 with fail
      go_cut [7] from 17 to 34 (fun s7 wx => ∃ i2 : Nat, s7 = .int .i64 i2 ∧ i ≤ i2 ∧ i2 ≤ y ∧ scanSorted ltInt dk y i = i2 ∧ RowI .u64 T C0 w0 b dk wx)
      case first =>
        go_wp2_with fail
        go_loopw [7] (fun s7 wq => ∃ i2 : Nat, s7 = .int .i64 i2 ∧ i ≤ i2 ∧ i2 ≤ y ∧ scanSorted ltInt dk y i = scanSorted ltInt dk y i2 ∧ RowI .u64 T C0 w0 b dk wq) (fun i _ => y - (intOf i).toNat)
        case atStart => exact ⟨i, rfl, Nat.le_refl _, hiy, rfl, HR.out⟩
        case round =>
          obtain ⟨i2, rfl, h1, h2, h3, h4⟩ := hrel
          have HS := Lib.hid h3; have HR2 := Lib.hid h4
          clear h3 h4
          by_cases hlt : i2 < y
          · obtain ⟨t, rfl⟩ : ∃ t, i2 = t + 1 := ⟨i2 - 1, by omega⟩
            have g1 : decide (t + 1 < y) = true := decide_eq_true hlt
            have g2 : decide ((t : Int) + 1 < (y : Int)) = true := decide_eq_true (by omega)
            have c1 := HR2.out.cell (i := t + 1) (by have := HK.out; omega)
            have c2 := HR2.out.cell (i := t) (by have := HK.out; omega)
            have hin : (t : Int) + 1 < (n : Int) := by omega
            have htn : (t : Int) < (n : Int) := by omega
            have q3 : ((t : Int) + 1).toNat = t + 1 := by omega
            have q4 : IntKind.i64.wrap ((t : Int) + 1) = (t : Int) + 1 := by rw [show ((t : Int) + 1) = ((t + 1 : Nat) : Int) by omega]; exact wrap_nat64 (by omega)
            have q5 := wrap_nat64 (k := t) (by omega)
            obtain ⟨v1, hv⟩ : ∃ v1, dk[t + 1]! = v1 := ⟨_, rfl⟩
            obtain ⟨v2, hv2⟩ : ∃ v2, dk[t]! = v2 := ⟨_, rfl⟩
            rw [hv] at c1; rw [hv2] at c2
            have HV := Lib.hid hv; have HV2 := Lib.hid hv2
            clear hv hv2
            by_cases hvv : v1 < v2
            · have HLT := Lib.hid (show decide (v1 < v2) = true from decide_eq_true hvv)
              have HST := Lib.hid (show scanSorted ltInt dk y i = t + 1 by rw [HS.out, scs_stop (.inr (by rw [HV.out, Nat.add_sub_cancel, HV2.out]; exact hvv))])
              clear hvv
              go_wp2_with fail
              go_quiet ((go_at_call 137; exact Calls.quiet_of_same (lessq_u64 _ _ _)))
              rw [HLT.out]
              go_wp2_with fail
              go_meet
              exact ⟨t + 1, by go_num, h1, h2, HST.out, HR2.out.drewN _⟩
            · have HLT := Lib.hid (show decide (v1 < v2) = false from decide_eq_false hvv)
              have HST := Lib.hid (show scanSorted ltInt dk y i = scanSorted ltInt dk y (t + 1 + 1) by rw [HS.out, scs_go hlt (by rw [HV.out, Nat.add_sub_cancel, HV2.out]; exact hvv)])
              clear hvv
              go_wp2_with fail
              go_quiet ((go_at_call 137; exact Calls.quiet_of_same (lessq_u64 _ _ _)))
              rw [HLT.out]
              go_wp2_with fail
              go_roundw
              case rel => exact ⟨t + 1 + 1, by go_num, by omega, by omega, HST.out, HR2.out.drewN _⟩
              case measure => simp [intOf]; omega
          · have g1 : decide (i2 < y) = false := decide_eq_false hlt
            have g2 : decide ((i2 : Int) < (y : Int)) = false := decide_eq_false (by omega)
            have HST := Lib.hid (show scanSorted ltInt dk y i = i2 by rw [HS.out, scs_stop (.inl (by omega))])
            go_wp2_with fail
            go_quiet (fail)
            go_wp2_with fail
            go_meet
            exact ⟨i2, rfl, h1, h2, HST.out, HR2.out.drewN _⟩
      case rest =>
        obtain ⟨i2, rfl, h1, h2, h3, h4⟩ := hcut
        have HS := Lib.hid h3; have HR2 := Lib.hid h4
        clear h3 h4
        by_cases hiy2 : i2 = y
        · have HF := Lib.hid (show dk = R1 ∧ true = R2 by
            have := HE.out
            rw [pins_yes _ _ _ _ _ (by rw [HS.out, hiy2])] at this
            simpa using this)
          subst hiy2
          go_wp2_with fail
          go_ret
          rw [← HF.out.1, ← HF.out.2]
          exact ⟨rfl, HR2.out⟩
        · have hne : ((i2 : Int) == (y : Int)) = false := by rw [beq_eq_false_iff_ne]; omega
          have hne2 : (i2 == y) = false := by rw [beq_eq_false_iff_ne]; exact hiy2
          by_cases h50 : y - x < 50
          · have HF := Lib.hid (show dk = R1 ∧ false = R2 by
              have := HE.out
              rw [pins_no _ _ _ _ _ _ HS.out hiy2 h50] at this
              simpa using this)
            go_wp2_with fail
            go_ret
            rw [← HF.out.1, ← HF.out.2]
            exact ⟨rfl, HR2.out⟩
          · obtain ⟨t, ht⟩ : ∃ t, t + 1 = i2 := ⟨i2 - 1, by omega⟩
            have E1 : (i2 : Int) - 1 = (t : Int) := by omega
            have g50 : decide ((y : Int) - (x : Int) < 50) = false := by simp only [decide_eq_false_iff_not]; omega
            have HT := Lib.hid ht
            have hxt : x ≤ t := by omega
            have k1 := HR2.out.cell (i := i2) (by have := HK.out; omega)
            have k2 := HR2.out.cell (i := t) (by have := HK.out; omega)
            have fz := HR2.out.free
            have zb := HR2.out.lt
            have HSW := Lib.hid (HR2.out.swap (i := i2) (j := t) (by have := HK.out; omega) (by have := HK.out; omega))
            have hin : i2 < n := by omega
            have htn : t < n := by omega
            have q5 := wrap_nat64 (k := t) (by omega)
            obtain ⟨d1, hd1⟩ : ∃ d1, d1 = swp dk i2 t := ⟨_, rfl⟩
            obtain ⟨d2, hd2⟩ : ∃ d2, d2 = if i2 - x ≥ 2 then shiftDown ltInt t d1 else d1 := ⟨_, rfl⟩
            obtain ⟨d3, hd3⟩ : ∃ d3, d3 = if y - i2 ≥ 2 then shiftUp ltInt y (i2 + 1) d2 else d2 := ⟨_, rfl⟩
            have HE3 := Lib.hid (show partialIns ltInt x y r i2 d3 = (R1, R2) by
              rw [← HE.out]
              exact (pins_step x y r i i2 dk d2 d3 HS.out hiy2 (by omega) (by rw [hd2, hd1, show i2 - 1 = t by omega]) hd3).symm)
            have HD1 := Lib.hid (show d1.size = n by rw [hd1, size_swp']; exact HK.out)
            have HD2 := Lib.hid (show d2.size = n by
              rw [hd2]
              split
              · rw [size_shd]; exact HD1.out
              · exact HD1.out)
            have HD3 := Lib.hid (show d3.size = n by
              rw [hd3]
              split
              · rw [size_shu _ _ _ _ (Nat.le_refl _)]; exact HD2.out
              · exact HD2.out)
            rw [← hd1] at HSW
            have HDD2 := Lib.hid hd2; have HDD3 := Lib.hid hd3
            clear hd1 hd2 hd3 ht
            generalize hu : dk[i2]! = u2 at *
            generalize hv : dk[t]! = v2 at *
            clear hu hv
            go_upto_region 11 with fail
            go_region
            have HS1 := Lib.hid HSW.out.drew
            generalize (((_ : World).setCell ⟨b, i2, none⟩ (.int .u64 v2)).setCell ⟨b, t, none⟩ (.int .u64 u2)).drew = w1 at HS1 ⊢
            clear k1 k2 fz zb HSW HS HR2 HK HE HR
            go_upto_if 61 with fail
            go_cut [9] from 62 to 94 (fun s9 wx => RowI .u64 T C0 w0 b d2 wx)
            case first =>
              by_cases hc : x + 2 ≤ i2
              · have HD := Lib.hid (show d2 = shiftDown ltInt t d1 by rw [HDD2.out, if_pos (by omega)])
                have e3 : (2 : Int) ≤ (i2 : Int) - (x : Int) := by omega
                go_wp2_with fail
                go_loopw [9] (fun s9 wq => ∃ (j : Nat) (dj : Array Int), s9 = .int .i64 j ∧ j ≤ t ∧ dj.size = n ∧ RowI .u64 T C0 w0 b dj wq ∧ shiftDown ltInt j dj = d2) (fun j _ => (intOf j).toNat)
                case atStart => exact ⟨t, d1, by first | rfl | go_num, Nat.le_refl _, HD1.out, HS1.out, HD.out.symm⟩
                case round =>
                  obtain ⟨j, dj, rfl, hjt, hsz2, hRj, hEj⟩ := hrel
                  have HRj := Lib.hid hRj; have HEj := Lib.hid hEj; have HKj := Lib.hid hsz2
                  clear hRj hEj hsz2
                  cases j with
                  | zero =>
                    have HF := Lib.hid (show dj = d2 by rw [← HEj.out]; rfl)
                    go_wp2_with fail
                    go_meet
                    rw [← HF.out]; exact HRj.out
                  | succ q =>
                    have k1 := HRj.out.cell (i := q + 1) (by have := HKj.out; omega)
                    have k2 := HRj.out.cell (i := q) (by have := HKj.out; omega)
                    have hqn : (q : Int) + 1 < (n : Int) := by omega
                    have hqn2 : (q : Int) < (n : Int) := by omega
                    have p3 : ((q : Int) + 1).toNat = q + 1 := by omega
                    have p4 : IntKind.i64.wrap ((q : Int) + 1) = (q : Int) + 1 := by rw [show ((q : Int) + 1) = ((q + 1 : Nat) : Int) by omega]; exact wrap_nat64 (by omega)
                    have p5 := wrap_nat64 (k := q) (by omega)
                    have HSWF := Lib.hid (fun (wy : World) (Ry : RowI .u64 T C0 w0 b dj wy) => (⟨Ry.cell (i := q + 1) (by have := HKj.out; omega), Ry.cell (i := q) (by have := HKj.out; omega), Ry.swap (i := q + 1) (j := q) (by have := HKj.out; omega) (by have := HKj.out; omega)⟩ : _ ∧ _ ∧ _))
                    have HGO := Lib.hid (fun (h : dj[q + 1]! < dj[q]!) => (shd_go h).symm.trans HEj.out)
                    have HNO := Lib.hid (fun (h : ¬ dj[q + 1]! < dj[q]!) => (shd_stop h).symm.trans HEj.out)
                    generalize hu : dj[q + 1]! = u3 at *
                    generalize hv : dj[q]! = v3 at *
                    clear hu hv
                    by_cases huv : u3 < v3
                    · have HLT := Lib.hid (show decide (u3 < v3) = true from decide_eq_true huv)
                      have HF := Lib.hid (HGO.out huv)
                      clear huv HGO HNO
                      go_wp2_with fail
                      go_quiet ((go_at_call 137; exact Calls.quiet_of_same (lessq_u64 _ _ _)))
                      rw [HLT.out]
                      go_upto_region 17 with fail
                      refine wp_abs (fun wy => RowI .u64 T C0 w0 b dj wy) (HRj.out.drewN _) ?_
                      intro wy Ry
                      obtain ⟨m1, m2, m3⟩ := HSWF.out wy Ry
                      have HS3 := Lib.hid m3
                      have fy := Ry.free
                      have zy := Ry.lt
                      clear k1 k2 m3 Ry
                      go_region
                      have HS4 := Lib.hid HS3.out.drew
                      clear m1 m2 fy zy
                      go_wp2_with fail
                      go_roundw
                      case rel => exact ⟨q, _, by go_num, by omega, by rw [size_swp']; exact HKj.out, HS4.out, HF.out⟩
                      case measure => simp [intOf]
                    · have HLT := Lib.hid (show decide (u3 < v3) = false from decide_eq_false huv)
                      have HF := Lib.hid (HNO.out huv)
                      clear huv HGO HNO
                      go_wp2_with fail
                      go_quiet ((go_at_call 137; exact Calls.quiet_of_same (lessq_u64 _ _ _)))
                      rw [HLT.out]
                      go_wp2_with fail
                      go_meet
                      rw [← HF.out]; exact HRj.out.drewN _
              · have HD := Lib.hid (show d2 = d1 by rw [HDD2.out, if_neg (by omega)])
                have e3 : ¬ (2 : Int) ≤ (i2 : Int) - (x : Int) := by omega
                go_wp2_with fail
                go_meet
                rw [HD.out]; exact HS1.out
            case rest =>
              have HC2 := Lib.hid hcut
              clear hcut HS1 HD1
              have HRE := Lib.hid (show partialIns ltInt x y (5 - (s + 1)) i2 d3 = (R1, R2) by rw [show 5 - (s + 1) = r by omega]; exact HE3.out)
              have hii2 : x < i2 ∧ i2 ≤ y := by omega
              (
                by_cases hc : i2 + 2 ≤ y
                · have HD := Lib.hid (show d3 = shiftUp ltInt y (i2 + 1) d2 by rw [HDD3.out, if_pos (by omega)])
                  have e3 : (2 : Int) ≤ (y : Int) - (i2 : Int) := by omega
                  go_wp2_with fail
                  go_loopw [10] (fun s10 wq => ∃ (j : Nat) (dj : Array Int), s10 = .int .i64 j ∧ i2 + 1 ≤ j ∧ j ≤ y ∧ dj.size = n ∧ RowI .u64 T C0 w0 b dj wq ∧ shiftUp ltInt y j dj = d3) (fun j _ => y - (intOf j).toNat)
                  case atStart => exact ⟨i2 + 1, d2, by first | rfl | go_num, by omega, by omega, HD2.out, HC2.out, HD.out.symm⟩
                  case round =>
                    obtain ⟨j, dj, rfl, hjt, hjb, hsz2, hRj, hEj⟩ := hrel
                    have HRj := Lib.hid hRj; have HEj := Lib.hid hEj; have HKj := Lib.hid hsz2
                    clear hRj hEj hsz2
                    by_cases hjl : j < y
                    · obtain ⟨q, rfl⟩ : ∃ q, j = q + 1 := ⟨j - 1, by omega⟩
                      have k1 := HRj.out.cell (i := q + 1) (by have := HKj.out; omega)
                      have k2 := HRj.out.cell (i := q) (by have := HKj.out; omega)
                      have hjz : (q : Int) + 1 < (y : Int) := by omega
                      have hqn : (q : Int) + 1 < (n : Int) := by omega
                      have hqn2 : (q : Int) < (n : Int) := by omega
                      have p3 : ((q : Int) + 1).toNat = q + 1 := by omega
                      have p4 : IntKind.i64.wrap ((q : Int) + 1) = (q : Int) + 1 := by rw [show ((q : Int) + 1) = ((q + 1 : Nat) : Int) by omega]; exact wrap_nat64 (by omega)
                      have p5 := wrap_nat64 (k := q) (by omega)
                      have HSWF := Lib.hid (fun (wy : World) (Ry : RowI .u64 T C0 w0 b dj wy) => (⟨Ry.cell (i := q + 1) (by have := HKj.out; omega), Ry.cell (i := q) (by have := HKj.out; omega), Ry.swap (i := q + 1) (j := q) (by have := HKj.out; omega) (by have := HKj.out; omega)⟩ : _ ∧ _ ∧ _))
                      have HGO := Lib.hid (fun (h : dj[q + 1]! < dj[q]!) => (shu_go (b := y) hjl (by rw [Nat.add_sub_cancel]; exact h)).symm.trans HEj.out)
                      have HNO := Lib.hid (fun (h : ¬ dj[q + 1]! < dj[q]!) => (shu_stop (b := y) (.inr (by rw [Nat.add_sub_cancel]; exact h))).symm.trans HEj.out)
                      generalize hu : dj[q + 1]! = u3 at *
                      generalize hv : dj[q]! = v3 at *
                      clear hu hv
                      by_cases huv : u3 < v3
                      · have HLT := Lib.hid (show decide (u3 < v3) = true from decide_eq_true huv)
                        have HF := Lib.hid (HGO.out huv)
                        clear huv HGO HNO
                        go_wp2_with fail
                        go_quiet ((go_at_call 137; exact Calls.quiet_of_same (lessq_u64 _ _ _)))
                        rw [HLT.out]
                        go_upto_region 23 with fail
                        refine wp_abs (fun wy => RowI .u64 T C0 w0 b dj wy) (HRj.out.drewN _) ?_
                        intro wy Ry
                        obtain ⟨m1, m2, m3⟩ := HSWF.out wy Ry
                        have HS3 := Lib.hid m3
                        have fy := Ry.free
                        have zy := Ry.lt
                        clear k1 k2 m3 Ry
                        go_region
                        have HS4 := Lib.hid HS3.out.drew
                        clear m1 m2 fy zy
                        go_wp2_with fail
                        go_roundw
                        case rel => exact ⟨q + 1 + 1, _, by go_num, by omega, by omega, by rw [size_swp']; exact HKj.out, HS4.out, HF.out⟩
                        case measure => simp [intOf]; omega
                      · have HLT := Lib.hid (show decide (u3 < v3) = false from decide_eq_false huv)
                        have HF := Lib.hid (HNO.out huv)
                        clear huv HGO HNO
                        go_wp2_with fail
                        go_quiet ((go_at_call 137; exact Calls.quiet_of_same (lessq_u64 _ _ _)))
                        rw [HLT.out]
                        go_wp2_with fail
                        go_roundw
                        case rel => exact ⟨i2, s + 1, d3, rfl, by go_num, by omega, hii2.1, hii2.2, HD3.out, by rw [← HF.out]; exact HRj.out.drewN _, HRE.out⟩
                        case measure => simp [intOf]; omega
                    · have HF := Lib.hid (show dj = d3 by rw [← HEj.out, shu_stop (.inl (by omega))])
                      have hjz : ¬ (j : Int) < (y : Int) := by omega
                      go_wp2_with fail
                      go_roundw
                      case rel => exact ⟨i2, s + 1, d3, rfl, by go_num, by omega, hii2.1, hii2.2, HD3.out, by rw [← HF.out]; exact HRj.out, HRE.out⟩
                      case measure => simp [intOf]; omega
                · have HD := Lib.hid (show d3 = d2 by rw [HDD3.out, if_neg (by omega)])
                  have e3 : ¬ (2 : Int) ≤ (y : Int) - (i2 : Int) := by omega
                  go_wp2_with fail
                  go_roundw
                  case rel => exact ⟨i2, s + 1, d3, rfl, by go_num, by omega, hii2.1, hii2.2, HD3.out, by rw [HD.out]; exact HC2.out, HRE.out⟩
                  case measure => simp [intOf]; omega
              )
    · obtain rfl : s = 5 := by omega
      have HF := Lib.hid (show dk = R1 ∧ false = R2 by
        have := HE.out
        simpa [partialIns] using this)
      go_wp2
      go_ret
      rw [← HF.out.1, ← HF.out.2]
      exact ⟨rfl, HR.out⟩
end Go.Proofs.Ytpkeddiaoacfeaa
