/- slices.Sort at whole numbers. Conditions: the row is one's own. -/
import Derived.Test.YtpkeddiaoacfeaaSrtPlain
import Derived.LoopN
namespace Go.Proofs.Ytpkeddiaoacfeaa
open Go.RowKit Go.Sort
set_option maxRecDepth 100000
set_option linter.unusedVariables false
set_option linter.unusedSimpArgs false

/-- The row, its places from x to y sorted. -/
def Srtd (k : IntKind) (T : TypeId) (C0 : Array Value) (w0 : World) (b : Nat) (d : Array Int) (x y : Nat) (e : Ending) (w : World) : Prop :=
  e = .returned (.tuple #[]) ∧ ∃ d', PermIn x y d d' ∧ SortedIn ltInt x y d' ∧ RowI k T C0 w0 b d' w
theorem pins_of {x y : Nat} {d : Array Int} (hxy : x < y) (hy : y ≤ d.size) (hb : Go.Sort.Below ltInt x y d) : PermIn x y d (partialInsertionSort ltInt d x y).1 ∧ ((partialInsertionSort ltInt d x y).2 = true → SortedIn ltInt x y (partialInsertionSort ltInt d x y).1) :=
  partialInsertionSort_holds swo_ltInt d x y hxy hy hb

set_option maxHeartbeats 16000000 in
theorem srt_pdq_u64 {T : TypeId} {C0 : Array Value} {b cap n : Nat} (hsz : n < 4611686018427387904) : ∀ (g : Nat) {w0 w : World} {d : Array Int} {x y lim : Nat}, RowI .u64 T C0 w0 b d w → d.size = n → x ≤ y → y ≤ n → y - x ≤ g → lim ≤ 64 → Go.Sort.Below ltInt x y d →
    Calls Try.prog 117 #[.slice (some ⟨b, 0, none⟩) n cap, .int .i64 x, .int .i64 y, .int .i64 lim] w (Srtd .u64 T C0 w0 b d x y)
  := by
  intro g
  induction g using Nat.strongRecOn with
  | _ g ih =>
    intro w0 w d x y lim h hn hxy hy hg hlim hbel
    have IH := Lib.hid ih
    have HH := Lib.hid h; have HN := Lib.hid hn
    have HP := Lib.hid (PS.start hbel hxy (by omega))
    clear h hn hbel ih
    go_enter Try.func117, Try.ntmps117
    go_wp2_with fail
    go_loopw [1, 2, 3, 8, 9] (fun s1 s2 s3 s8 s9 wr => ∃ (a c l : Nat) (wb wp : Bool) (dk : Array Int), s1 = .int .i64 a ∧ s2 = .int .i64 c ∧ s3 = .int .i64 l ∧ s8 = .bool wb ∧ s9 = .bool wp ∧ l ≤ 64 ∧ PS x y d a c dk ∧ RowI .u64 T C0 w0 b dk wr) (fun a c _ _ _ _ => (intOf c).toNat - (intOf a).toNat)
    case atStart => exact ⟨x, y, lim, true, true, d, rfl, rfl, rfl, rfl, rfl, hlim, HP.out, HH.out⟩
    case round =>
      obtain ⟨a, c, l, wb, wp, dk, rfl, rfl, rfl, rfl, rfl, hl, hP, hR⟩ := hrel
      have HP := Lib.hid hP; have HR := Lib.hid hR
      have HK := Lib.hid (show dk.size = n by rw [hP.sz]; exact HN.out)
      have hac := hP.ab; have hcy := hP.yb; have hxa := hP.xa
      clear hP hR
      by_cases h12 : c ≤ a + 12
      · have HI := Lib.hid (insertionSort_holds swo_ltInt dk a c hac (by have := HK.out; omega))
        have HD := Lib.hid (HP.out.done HI.out.1 HI.out.2)
        have e12 : (c : Int) - (a : Int) ≤ 12 := by omega
        have hcn := Lib.hid (srt_ins_u64 (cap := cap) HR.out hac (by have := HK.out; omega) (by have := HK.out; omega))
        have HC := hcn.out
        rw [HK.out] at HC
        have HC := Lib.hid HC
        go_wp2_with (go_at_call 131; go_loud ((with_reducible refine HC.out.mono ?_); rintro e2 w2 ⟨rfl, hR2⟩; have HR2 := Lib.hid hR2; clear hR2))
        (try simp only [Exit.inBlock, Exit.then]); refine bodyPost_ret (results_none rfl _ _ _) rfl ?_
        exact ⟨rfl, _, HD.out.1, HD.out.2, HR2.out⟩
      · have e12 : ¬ (c : Int) - (a : Int) ≤ 12 := by omega
        by_cases hl0 : l = 0
        · subst hl0
          have HI := Lib.hid (heapSort_holds swo_ltInt dk a c hac (by have := HK.out; omega))
          have HD := Lib.hid (HP.out.done HI.out.1 HI.out.2)
          go_wp2_with (go_at_call 132; go_loud ((with_reducible refine (srt_heap_u64 HR.out HK.out (by omega) (by omega) hsz).mono ?_); rintro e2 w2 ⟨rfl, hR2⟩; have HR2 := Lib.hid hR2; clear hR2))
          (try simp only [Exit.inBlock, Exit.then]); refine bodyPost_ret (results_none rfl _ _ _) rfl ?_
          exact ⟨rfl, _, HD.out.1, HD.out.2, HR2.out⟩
        · have hl1 : ((l : Int) == 0) = false := by rw [beq_eq_false_iff_ne]; omega
          have hl2 : (l == 0) = false := by rw [beq_eq_false_iff_ne]; exact hl0
          go_upto_if 35 with fail
          go_cut [3] from 36 to 41 (fun s3 wx => ∃ (l1 : Nat) (d1 : Array Int), s3 = .int .i64 l1 ∧ l1 ≤ 64 ∧ PermIn a c dk d1 ∧ RowI .u64 T C0 w0 b d1 wx)
          case first =>
            cases wb with
            | true =>
              go_wp2_with fail
              go_meet
              exact ⟨l, dk, rfl, hl, permIn_refl _ _ _, HR.out⟩
            | false =>
              go_wp2_with (go_at_call 133; go_loud ((with_reducible refine (srt_brk_u64 HR.out HK.out (by omega) (by omega) hsz).mono ?_); rintro e2 w2 ⟨rfl, d1, hp1, hr1⟩; have HP1 := Lib.hid hp1; have HR1 := Lib.hid hr1; clear hp1 hr1))
              go_meet
              exact ⟨l - 1, d1, by congr 1; omega, by omega, HP1.out, HR1.out⟩
          case rest =>
            obtain ⟨l1, d1, rfl, hl1', hp1, hr1⟩ := hcut
            have HP1 := Lib.hid (HP.out.go hp1); have HR1 := Lib.hid hr1
            have HK1 := Lib.hid (show d1.size = n by rw [hp1.1]; exact HK.out)
            clear hp1 hr1 HR HK HP hl1 hl2 hl0
            go_upto_if 50 with (go_at_call 134; go_loud ((with_reducible refine (srt_piv_u64 HR1.out HK1.out (by omega) (by omega) hsz).mono ?_); rintro e2 w2 ⟨pv, hh, rfl, hpv1, hpv2, hh1, hh2, hr2⟩; have HR2 := Lib.hid hr2; clear hr2))
            go_cut [11, 12] from 51 to 60 (fun s11 s12 wx => ∃ (pv' : Nat) (h' : Int) (d2 : Array Int), s11 = .int .i64 pv' ∧ s12 = .int .i64 h' ∧ a ≤ pv' ∧ pv' < c ∧ PermIn a c d1 d2 ∧ RowI .u64 T C0 w0 b d2 wx)
            case first =>
              by_cases h2 : hh = 2
              · subst h2
                go_wp2_with (go_at_call 135; go_loud ((with_reducible refine (srt_rev_u64 HR2.out HK1.out (by omega) (by omega) hsz).mono ?_); rintro e3 w3 ⟨rfl, d2, hp2, hr3⟩; have HP2 := Lib.hid hp2; have HR3 := Lib.hid hr3; clear hp2 hr3))
                go_meet
                exact ⟨c - 1 - (pv - a), 1, d2, by congr 1; omega, rfl, by omega, by omega, HP2.out, HR3.out⟩
              · have h2' : (hh == 2) = false := by rw [beq_eq_false_iff_ne]; exact h2
                go_wp2_with fail
                go_meet
                exact ⟨pv, hh, d1, rfl, rfl, hpv1, hpv2, permIn_refl _ _ _, HR2.out⟩
            case rest =>
              obtain ⟨pv', h', d2, rfl, rfl, hq1, hq2, hp2, hr2⟩ := hcut
              have HP2 := Lib.hid (HP1.out.go hp2); have HR3 := Lib.hid hr2
              have HK2 := Lib.hid (show d2.size = n by rw [hp2.1]; exact HK1.out)
              clear hp2 hr2 HR1 HK1 HP1 HR2 hpv1 hpv2 hh1 hh2
              go_upto_region 15 with fail
              go_cut [68] from 61 to 67 (fun s68 wx => ∃ q : Bool, s68 = .bool q ∧ RowI .u64 T C0 w0 b d2 wx)
              case first =>
                cases wb <;> cases wp <;> by_cases h1 : h' = 1
                all_goals
                  (try have h1' : (h' == 1) = true := by simp [h1])
                  (try have h1' : (h' == 1) = false := by rw [beq_eq_false_iff_ne]; exact h1)
                  (try subst h1)
                  go_wp2_with fail
                  go_meet
                  exact ⟨_, rfl, HR3.out⟩
              case rest =>
                obtain ⟨q, rfl, hr3⟩ := hcut
                have HR4 := Lib.hid hr3
                clear hr3
                go_upto_if 68 with fail
                go_cut [68] from 69 to 72 (fun s68 wx => ∃ d3, PermIn a c d2 d3 ∧ RowI .u64 T C0 w0 b d3 wx)
                case first =>
                  cases q with
                  | true =>
                    have HPI := Lib.hid (pins_of (d := d2) (x := a) (y := c) (by omega) (by have := HK2.out; omega) HP2.out.bel)
                    have HPN := Lib.hid (srt_pins_u64 (cap := cap) HR4.out HK2.out (show a < c by omega) (by omega) hsz)
                    generalize partialInsertionSort ltInt d2 a c = R at HPI HPN
                    obtain ⟨R1, R2⟩ := R
                    dsimp only at HPI HPN
                    cases R2 with
                    | true =>
                      have HD := Lib.hid (HP2.out.done HPI.out.1 (HPI.out.2 rfl))
                      go_wp2_with (go_at_call 136; go_loud ((with_reducible refine HPN.out.mono ?_); rintro e5 w5 ⟨rfl, hr5⟩; have HR5 := Lib.hid hr5; clear hr5))
                      (try simp only [Exit.inBlock, Exit.then]); refine bodyPost_ret (results_none rfl _ _ _) rfl ?_
                      exact ⟨rfl, _, HD.out.1, HD.out.2, HR5.out⟩
                    | false =>
                      go_wp2_with (go_at_call 136; go_loud ((with_reducible refine HPN.out.mono ?_); rintro e5 w5 ⟨rfl, hr5⟩; have HR5 := Lib.hid hr5; clear hr5))
                      go_meet
                      exact ⟨R1, HPI.out.1, HR5.out⟩
                  | false =>
                    go_wp2_with fail
                    go_meet
                    exact ⟨d2, permIn_refl _ _ _, HR4.out⟩
                case rest =>
                  obtain ⟨d3, hp3, hr3⟩ := hcut
                  have HP3 := Lib.hid (HP2.out.go hp3); have HR5 := Lib.hid hr3
                  have HK3 := Lib.hid (show d3.size = n by rw [hp3.1]; exact HK2.out)
                  clear hp3 hr3 HR3 HR4 HK2 HP2
                  go_upto_region 17 with fail
                  go_cut [87] from 73 to 86 (fun s87 wx => ∃ q : Bool, s87 = .bool q ∧ (q = true → 0 < a ∧ ¬ LtP d3[pv']! d3[a - 1]!) ∧ RowI .u64 T C0 w0 b d3 wx)
                  case first =>
                    by_cases ha0 : a = 0
                    · subst ha0
                      go_wp2_with fail
                      go_quiet (fail)
                      go_wp2_with fail
                      go_meet
                      exact ⟨false, rfl, (fun h => by cases h), HR5.out.drewN _⟩
                    · obtain ⟨t, rfl⟩ : ∃ t, a = t + 1 := ⟨a - 1, by omega⟩
                      have k1 := HR5.out.cell (i := t) (by have := HK3.out; omega)
                      have k2 := HR5.out.cell (i := pv') (by have := HK3.out; omega)
                      have g1 : decide (0 < (t : Int) + 1) = true := by simp only [decide_eq_true_eq]; omega
                      have htn : (t : Int) < (n : Int) := by omega
                      have hpn : (pv' : Int) < (n : Int) := by omega
                      have q5 := wrap_nat64 (k := t) (by omega)
                      obtain ⟨v1, hv1⟩ : ∃ v1, d3[t]! = v1 := ⟨_, rfl⟩
                      obtain ⟨v2, hv2⟩ : ∃ v2, d3[pv']! = v2 := ⟨_, rfl⟩
                      rw [hv1] at k1; rw [hv2] at k2
                      have HV1 := Lib.hid hv1; have HV2 := Lib.hid hv2
                      clear hv1 hv2
                      by_cases hvv : v1 < v2
                      · have HLT := Lib.hid (show decide (v1 < v2) = true from decide_eq_true hvv)
                        clear hvv
                        go_wp2_with fail
                        go_quiet ((go_at_call 137; exact Calls.quiet_of_same (lessq_u64 _ _ _)))
                        rw [HLT.out]
                        go_wp2_with fail
                        go_meet
                        exact ⟨false, rfl, (fun h => by cases h), HR5.out.drewN _⟩
                      · have HLT := Lib.hid (show decide (v1 < v2) = false from decide_eq_false hvv)
                        have HNL := Lib.hid (show ¬ LtP d3[pv']! d3[t + 1 - 1]! by rw [Nat.add_sub_cancel, HV1.out, HV2.out]; exact hvv)
                        clear hvv
                        go_wp2_with fail
                        go_quiet ((go_at_call 137; exact Calls.quiet_of_same (lessq_u64 _ _ _)))
                        rw [HLT.out]
                        go_wp2_with fail
                        go_meet
                        exact ⟨true, rfl, fun _ => ⟨Nat.succ_pos _, HNL.out⟩, HR5.out.drewN _⟩
                  case rest =>
                    obtain ⟨q, rfl, hq, hr6⟩ := hcut
                    have HR6 := Lib.hid hr6; have HQ := Lib.hid hq
                    clear hr6 hq HR5
                    cases q with
                    | true =>
                      have HQT := Lib.hid (HQ.out rfl)
                      go_wp2_with (go_at_call 138; go_loud ((with_reducible refine (srt_peq_u64 (v := pv') HR6.out HK3.out (by omega) (by omega) hq1 hq2 hsz).mono ?_); rintro e7 w7 ⟨m, d4, rfl, hm1, hm2, hp4, hl4, hr4, hR7⟩; have HR7 := Lib.hid hR7; have HPE := Lib.hid (HP3.out.eq HQT.out.1 hm1 hm2 HQT.out.2 hp4 hl4 hr4); clear hR7 hp4 hl4 hr4))
                      go_roundw
                      case rel => exact ⟨m, c, l1, wb, wp, d4, rfl, rfl, rfl, rfl, rfl, hl1', HPE.out, HR7.out⟩
                      case measure => simp [intOf]; omega
                    | false =>
                      go_upto_region 24 with (go_at_call 139; go_loud ((with_reducible refine (srt_part_u64 (v := pv') HR6.out HK3.out (by omega) (by omega) hq1 hq2 hsz).mono ?_); rintro e7 w7 ⟨m, gg, d4, rfl, hm1, hm2, hp4, hl4, hr4, hR7⟩; have HR7 := Lib.hid hR7; have HL4 := Lib.hid hl4; have HR4 := Lib.hid hr4; have HP4 := Lib.hid hp4; clear hR7 hp4 hl4 hr4))
                      have HK4 := Lib.hid (show d4.size = n by rw [HP4.out.1]; exact HK3.out)
                      by_cases hlr : m - a < c - m
                      · have hlrz : (m : Int) - (a : Int) < (c : Int) - (m : Int) := by omega
                        have HB := Lib.hid (ps_bel_left HP3.out hm2 HP4.out)
                        go_wp2_with (go_at_call 117; go_loud ((with_reducible refine (IH.out (m - a) (by omega) HR7.out HK4.out hm1 (by omega) (Nat.le_refl _) hl1' HB.out).mono ?_); rintro e8 w8 ⟨rfl, d5, hp5, hs5, hr8⟩; have HR8 := Lib.hid hr8; have HPL := Lib.hid (HP3.out.left hm1 hm2 HP4.out HL4.out HR4.out hp5 hs5); clear hp5 hs5 hr8))
                        go_roundw
                        case rel => exact ⟨m + 1, c, l1, _, gg, d5, by go_num, rfl, rfl, rfl, rfl, hl1', HPL.out, HR8.out⟩
                        case measure => simp [intOf]; omega
                      · have hlrz : ¬ (m : Int) - (a : Int) < (c : Int) - (m : Int) := by omega
                        have HB := Lib.hid (ps_bel_right (d4 := d4) (m := m) (b := c) HR4.out)
                        have hcall := Lib.hid (IH.out (c - (m + 1)) (by omega) HR7.out HK4.out (show m + 1 ≤ c by omega) (by omega) (Nat.le_refl _) hl1' HB.out)
                        have hcall2 := hcall.out
                        rw [show ((m + 1 : Nat) : Int) = (m : Int) + 1 from Int.natCast_add m 1] at hcall2
                        have HCALL := Lib.hid hcall2
                        clear hcall2
                        go_wp2_with (go_at_call 117; go_loud ((with_reducible refine HCALL.out.mono ?_); rintro e8 w8 ⟨rfl, d5, hp5, hs5, hr8⟩; have HR8 := Lib.hid hr8; have HPL := Lib.hid (HP3.out.right hm1 hm2 HP4.out HL4.out HR4.out hp5 hs5); clear hp5 hs5 hr8))
                        go_roundw
                        case rel => exact ⟨a, m, l1, _, gg, d5, rfl, rfl, rfl, rfl, rfl, hl1', HPL.out, HR8.out⟩
                        case measure => simp [intOf]; omega
set_option maxHeartbeats 1000000 in
theorem srt_sort_u64 {T : TypeId} {C0 : Array Value} {w0 w : World} {b cap n : Nat} {d : Array Int} (h : RowI .u64 T C0 w0 b d w) (hn : d.size = n) (hsz : n < 4611686018427387904) :
    Calls Try.prog 85 #[.slice (some ⟨b, 0, none⟩) n cap] w (Srtd .u64 T C0 w0 b d 0 n) := by
  have HH := Lib.hid h; have HN := Lib.hid hn
  have wn := wrap_nat_u64 (k := n) (by omega)
  have HP := Lib.hid (fun (lim : Nat) (hl : lim ≤ 64) => srt_pdq_u64 (cap := cap) hsz n HH.out HN.out (Nat.zero_le _) (Nat.le_refl _) (Nat.sub_le _ _) hl (.inl rfl))
  clear h hn
  go_enter Try.func85, Try.ntmps85
  go_wp2_with (first
    | (go_at_call 118; go_loud ((with_reducible refine (bits_len n hsz _).mono ?_); rintro e2 w2 ⟨m, hm, rfl, rfl⟩))
    | (go_at_call 117; go_loud (refine (HP.out m hm).mono ?_; rintro e3 w3 ⟨rfl, hx⟩; have HX := Lib.hid hx; clear hx)))
  go_end0
  exact ⟨rfl, HX.out⟩
theorem ins_nil_u64 (w : World) : Calls Try.prog 131 #[.slice none 0 0, .int .i64 0, .int .i64 0] w fun e w' => e = .returned (.tuple #[]) ∧ w = w' := by
  go_enter Try.func131, Try.ntmps131
  go_wp2
  refine wp_loop_rounds 1 ?_
  rw [rounds_succ]
  go_wp2
  go_end0
  exact ⟨rfl, rfl⟩
theorem pdq_nil_u64 (lim : Int) (w : World) : Calls Try.prog 117 #[.slice none 0 0, .int .i64 0, .int .i64 0, .int .i64 lim] w fun e w' => e = .returned (.tuple #[]) ∧ w = w' := by
  go_enter Try.func117, Try.ntmps117
  go_wp2
  refine wp_loop_rounds 1 ?_
  rw [rounds_succ]
  go_wp2_with (go_at_call 131; refine (ins_nil_u64 _).mono ?_; rintro e w' ⟨rfl, rfl⟩)
  (try simp only [Exit.inBlock, Exit.then]); refine bodyPost_ret (results_none rfl _ _ _) rfl ?_
  exact ⟨rfl, rfl⟩
/-- slices.Sort of no element. -/
theorem srt_none_u64 (w : World) : Calls Try.prog 85 #[.slice none 0 0] w fun e w' => e = .returned (.tuple #[]) ∧ w = w' := by
  have hb := bits_len 0 (by omega)
  simp only [Int.natCast_zero] at hb
  have HB := Lib.hid hb
  clear hb
  go_enter Try.func85, Try.ntmps85
  go_wp2_with (first
    | (go_at_call 118; go_loud (refine (HB.out _).mono ?_; rintro e2 w2 ⟨m, hm, rfl, rfl⟩))
    | (go_at_call 117; refine (pdq_nil_u64 _ _).mono ?_; rintro e w' ⟨rfl, rfl⟩))
  go_end0
  exact ⟨rfl, rfl⟩
end Go.Proofs.Ytpkeddiaoacfeaa
