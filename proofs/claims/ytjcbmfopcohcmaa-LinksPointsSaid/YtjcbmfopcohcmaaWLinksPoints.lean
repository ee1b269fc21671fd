/- The walk of the law LinksPoints: it returns true. Conditions: none. -/
import Derived.Test.YtjcbmfopcohcmaaSt12
import Derived.Test.YtjcbmfopcohcmaaPlain
namespace Go.Proofs.Ytjcbmfopcohcmaa
open Go.RowKit Go.ChangeShapes
set_option maxRecDepth 100000
set_option linter.unusedVariables false
set_option linter.unusedSimpArgs false

theorem inq_u32 {D : Nat → Prop} {A : Option Addr} {n c : Nat} {xs : List Int} (v : Int) (w : World) (hx : Ints w D .u32 4 A n c xs) :
    Calls Try.prog 36 #[.slice A n c, .int .u32 v] w fun e w' => e = .returned (.bool (decide (v ∈ xs))) ∧ w' = w := (in_u32 v w hx).mono fun _ _ h => ⟨h.1, h.2.symm⟩
theorem inq_yes {D : Nat → Prop} {A : Option Addr} {n c : Nat} {xs : List Int} (v : Int) (w : World) (hx : Ints w D .u32 4 A n c xs) (hv : decide (v ∈ xs) = true) :
    Calls Try.prog 36 #[.slice A n c, .int .u32 v] w fun e w' => e = .returned (.bool true) ∧ w' = w := (inq_u32 v w hx).mono fun _ _ h => ⟨by rw [h.1, hv], h.2⟩
set_option maxHeartbeats 4000000 in
theorem wLinksPoints0 (W : World) (A : Option Addr) (m cap : Nat) (l : List Int) (at_ n s : Int) (h : Ints W (· < W.heap.size) .u32 4 A m cap l) (h0 : 0 ≤ s) (h1 : s < 18446744073709551616) :
    Calls Try.prog 8 #[.slice A m cap, .int .i64 at_, .int .i64 n, .int .u64 s] W fun e W' => e = .returned (.bool true) ∧ Below W.heap.size W W' := by
  have HI := Lib.hid h
  clear h
  go_enter Try.func8, Try.ntmps8
  go_upto_region 3 with (first
    | (go_at_call 25; go_loud ((with_reducible refine (made12 HI.out).mono ?_); rintro e w1 ⟨r, q, rfl, hT⟩; have HT := Lib.hid hT; clear hT))
    | (go_at_call 26; go_loud ((with_reducible refine (dice_new s _).mono ?_); rintro e w2 ⟨rfl, hb2, hx2⟩; have HB2 := Lib.hid hb2; have HX2 := Lib.hid hx2; clear hb2 hx2)))
  have HL3 := Lib.hid (show L13 W r q w1.heap.size (ptsOf (l.take 60)) s w2 from L13.start HT.out HX2.out HB2.out (Nat.le_refl _))
  clear HB2 HX2 HT
  generalize w1.heap.size = db at *
  generalize ptsOf (l.take 60) = P at *
  obtain ⟨AP, cP, hbP, hiP⟩ := HL3.out.pts
  obtain ⟨t, ht⟩ : ∃ t, t = P.length := ⟨_, rfl⟩
  rw [← ht] at hbP hiP
  have HTN := Lib.hid ht
  have HPK := Lib.hid HL3.out.ok
  have HBP := Lib.hid hbP
  have HIP := Lib.hid hiP
  have ht64 : t ≤ 64 := by have := HPK.out.2; omega
  clear hbP hiP ht
  by_cases ht0 : t = 0
  · subst ht0
    have g0 : ((0 : Int) == 0) = true := rfl
    go_wp2_with (first
      | (go_at_call 27; (with_reducible refine (awake12 _).mono ?_); rintro e w4 ⟨rfl, hb4⟩; have HL4 := Lib.hid (HL3.out.later hb4); have c4 := (HBP.out.below hb4 HBP.out.lt).cell; have z4 := (HBP.out.below hb4 HBP.out.lt).lt; have HB4 := Lib.hid hb4; clear hb4)
      | (go_at_call 27; go_loud ((with_reducible refine (awake12 _).mono ?_); rintro e w5 ⟨rfl, hb5⟩; have HL5 := Lib.hid (HL4.out.later hb5); clear hb5)))
    go_ret
    exact ⟨rfl, HL5.out.below⟩
  · have g0 : ((t : Int) == 0) = false := by simp; omega
    go_upto_region 5 with (first
      | (go_at_call 27; (with_reducible refine (awake12 _).mono ?_); rintro e w4 ⟨rfl, hb4⟩; have HL4 := Lib.hid (HL3.out.later hb4); have c4 := (HBP.out.below hb4 HBP.out.lt).cell; have z4 := (HBP.out.below hb4 HBP.out.lt).lt; have HB4 := Lib.hid hb4; clear hb4))
    have HIP4 := Lib.hid (Ints.move (w' := w4) (D' := fun b => b ≠ db ∧ q ≠ db ∧ b < w4.heap.size) HIP.out fun b hb hlt => ⟨HB4.out.block b hlt, hb.1, hb.2.1, Nat.lt_of_lt_of_le hlt HB4.out.size⟩)
    obtain ⟨ob, oo, rfl, hob, hcc⟩ := HIP4.out.2.2.2.2.2.2 (by omega)
    have ua := u64_wrap at_
    have un := u64_wrap n
    obtain ⟨a, ha⟩ : ∃ a, IntKind.u64.wrap at_ = a := ⟨_, rfl⟩
    obtain ⟨b, hb⟩ : ∃ b, IntKind.u64.wrap n = b := ⟨_, rfl⟩
    rw [ha] at ua; rw [hb] at un
    have hm0 := Int.emod_nonneg a (show (t : Int) ≠ 0 by omega)
    have hm1 := Int.emod_lt_of_pos a (show (0 : Int) < (t : Int) by omega)
    obtain ⟨j, hj⟩ : ∃ j : Nat, a % (t : Int) = (j : Int) := ⟨(a % (t : Int)).toNat, by omega⟩
    rw [hj] at hm0 hm1
    have hjt : j < t := by omega
    have hcj := hcc j hjt
    obtain ⟨p, hp⟩ : ∃ p, P.getD j 0 = p := ⟨_, rfl⟩
    rw [hp] at hcj
    have HPM := Lib.hid (show p ∈ P by
      rw [← hp, List.getD_eq_getElem?_getD, List.getElem?_eq_getElem (by have := HTN.out; omega)]
      exact List.getElem_mem _)
    have HPU := Lib.hid (HPK.out.1.u32 p HPM.out)
    have htt : ¬ (t : Int) = 0 := by omega
    have wt : IntKind.u64.wrap (t : Int) = (t : Int) := by rw [u64_wrap_eq]; exact Int.emod_eq_of_lt (by omega) (by omega)
    have wj : IntKind.i64.wrap (j : Int) = (j : Int) := wrap_nat64 (by omega)
    obtain ⟨c, hc⟩ : ∃ c : Int, b % 10 = c := ⟨_, rfl⟩
    have hc0 : 0 ≤ c ∧ c < 10 := by omega
    have wc : IntKind.i64.wrap c = c := by simp [IntKind.wrap, IntKind.bits, IntKind.signed]; omega
    clear hcc hp hob
    go_quiet (fail)
    clear ua hm0 hm1 htt
    have HPT := Lib.hid (show 0 < P.length by have := HTN.out; omega)
    go_upto_region 7 with fail
    refine wp_abs (fun w => L13 W r q db P s w) (HL4.out.later (belowN (Below.refl _ _) _)) ?_
    intro w5 hL5
    have HL5 := Lib.hid hL5
    clear hL5
    obtain ⟨nx, hnx⟩ : ∃ nx, ptF P ((p + 1) % 4294967296) = nx := ⟨_, rfl⟩
    have HNX := Lib.hid hnx
    clear hnx c4 z4 HB4 HIP4 HIP HBP
    go_upto_region 9 with (first
      | (go_at_call 35; go_loud ((with_reducible refine (l13_next HL5.out HPT.out).mono ?_); rintro e w6 ⟨rfl, hb6⟩; rw [HNX.out]; have HL6 := Lib.hid (HL5.out.later hb6); clear hb6))
      | (go_at_call 28; go_loud ((with_reducible refine (l13_of HL6.out h0 h1 HPU.out).mono ?_); rintro e w7 ⟨A7, c7, x, s7, rfl, ha7, hi7, hl7, ho7⟩; have HA7 := Lib.hid ha7; have HI7 := Lib.hid hi7; have HL7 := Lib.hid hl7; clear ha7 hi7 hl7 ho7)))
    have HR := Lib.hid (show Rises p (linkQ P p nx s (cntF c)) x by
      have h := HA7.out
      unfold LinksAns at h
      rw [if_pos HPM.out, HNX.out] at h
      exact h.1)
    have HLE := Lib.hid (show (x.length : Int) ≤ min c 6 by
      have h2 := HR.out.len
      have h3 := linkQ_len P p nx s (cntF c)
      have h4 : (cntF c : Int) = min c 6 := by unfold cntF; omega
      omega)
    have hx6 : x.length ≤ 6 := by have := HLE.out; omega
    obtain ⟨AQ, cQ, hbQ, hiQ⟩ := HL7.out.pts
    have cq := hbQ.cell; have zq := hbQ.lt
    have HIQ := Lib.hid hiQ
    obtain ⟨tt, htt⟩ : ∃ tt, tt = P.length := ⟨_, rfl⟩
    rw [← htt] at cq
    have HIQ := Lib.hid (show Ints w7 (fun b => b ≠ db ∧ q ≠ db ∧ b < w7.heap.size) .u32 4 AQ tt cQ P by rw [htt]; exact HIQ.out)
    clear hbQ hiQ htt ha hb hc
    go_wp2
    go_loopw [16] (fun s16 wr => ∃ i : Nat, i ≤ x.length ∧ s16 = .int .i64 i ∧ Drew w7 wr) (fun i _ => x.length - (intOf i).toNat)
    case atStart => exact ⟨0, Nat.zero_le _, rfl, Drew.refl _⟩
    case round =>
      obtain ⟨i, hi, rfl, hD⟩ := hrel
      have HD := Lib.hid hD
      have cq : ∀ i, wr.cell? ⟨q, i, none⟩ = #[Value.slice AQ tt cQ][i]? := fun i => (hD.cell _).trans (cq i)
      have zq : q < wr.heap.size := by obtain ⟨nd, rfl⟩ := HD.out; exact zq
      have HIR := Lib.hid (show Ints wr (fun b => b ≠ db ∧ q ≠ db ∧ b < w7.heap.size) .u32 4 AQ tt cQ P by obtain ⟨nd, rfl⟩ := HD.out; exact HIQ.out)
      clear hD
      by_cases hlt : i < x.length
      · obtain ⟨xb, xo, rfl, _, hxc⟩ := HI7.out.2.2.2.2.2.2 (by omega)
        have hci : wr.cell? ⟨xb, xo + i, none⟩ = some (.int .u32 (x.getD i 0)) := (HD.out.cell _).trans (hxc i hlt)
        obtain ⟨y, hy⟩ : ∃ y, x.getD i 0 = y := ⟨_, rfl⟩
        have hyx : x[i] = y := by rw [← hy, List.getD_eq_getElem?_getD, List.getElem?_eq_getElem hlt]; rfl
        have hym : y ∈ x := by rw [← hyx]; exact List.getElem_mem hlt
        obtain ⟨ym, yp, yn⟩ := linkQ_mem HPT.out ((HR.out.mem y).1 hym)
        have HYM := Lib.hid (show decide (y ∈ P) = true from decide_eq_true ym)
        have g1 : (y == p) = false := by rw [beq_eq_false_iff_ne]; exact yp
        have g2 : (y == nx) = false := by rw [beq_eq_false_iff_ne]; exact yn
        rw [hy] at hci
        by_cases hi0 : i = 0
        · subst hi0
          simp only [Nat.add_zero] at hci
          clear hy hyx hym ym yp yn hxc
          go_wp2
          go_quiet ((go_at_call 36; exact Calls.quiet_of_same (inq_yes y _ HIR.out HYM.out)))
          go_wp2
          go_roundw
          case rel => exact ⟨0 + 1, by omega, by go_num, HD.out.drewN _⟩
          case measure => simp [intOf]; omega
        · obtain ⟨v, rfl⟩ : ∃ v, i = v + 1 := ⟨i - 1, by omega⟩
          have hcv : wr.cell? ⟨xb, xo + v, none⟩ = some (.int .u32 (x.getD v 0)) := (HD.out.cell _).trans (hxc v (by omega))
          obtain ⟨z, hz⟩ : ∃ z, x.getD v 0 = z := ⟨_, rfl⟩
          have hzx : x[v]'(by omega) = z := by rw [← hz, List.getD_eq_getElem?_getD, List.getElem?_eq_getElem (by omega)]; rfl
          rw [hz] at hcv
          have hzy : wayF p z < wayF p y := by
            have := List.pairwise_iff_getElem.1 HR.out.up v (v + 1) (by omega) hlt (by omega)
            rwa [hzx, hyx] at this
          have g3 : decide ((y - p) % 4294967296 ≤ (z - p) % 4294967296) = false := by
            simp only [decide_eq_false_iff_not]
            exact Int.not_le.2 hzy
          have g4 : decide (0 < (v : Int) + 1) = true := by simp only [decide_eq_true_eq]; omega
          have w5 := wrap_nat64 (k := v) (by omega)
          have w4 : IntKind.i64.wrap ((v : Int) + 1) = (v : Int) + 1 := by rw [show ((v : Int) + 1) = ((v + 1 : Nat) : Int) by omega]; exact wrap_nat64 (by omega)
          have w3 : ((v : Int) + 1).toNat = v + 1 := by omega
          have w6 : (v : Int) + 1 < (x.length : Int) := by omega
          have w7 : (v : Int) < (x.length : Int) := by omega
          clear hy hyx hym ym yp yn hxc hi0 hz hzx hzy
          go_wp2
          go_quiet ((go_at_call 36; exact Calls.quiet_of_same (inq_yes y _ HIR.out HYM.out)))
          go_wp2
          go_roundw
          case rel => exact ⟨v + 1 + 1, by omega, by go_num, HD.out.drewN _⟩
          case measure => simp [intOf]; omega
      · obtain rfl : i = x.length := by omega
        have hle := HLE.out
        go_wp2
        go_ret
        exact ⟨by first | rfl | simp, (HL7.out.later HD.out.below).below⟩

theorem wLinksPoints (W : World) (vs : List Value) (h : Sh.Args W (· < W.heap.size) [((.sl (.int .u32) 4), 32), ((.int .i64), 3), ((.int .i64), 3), ((.int .u64), 31)] vs) :
    Calls Try.prog 8 vs.toArray W fun e W' => e = .returned (.bool true) ∧ Below W.heap.size W W' := by
  obtain ⟨_, _, rfl, ⟨a, ha⟩, _, _, rfl, ⟨b, hb⟩, _, _, rfl, ⟨c, hc⟩, _, _, rfl, ⟨d, hd⟩, rfl⟩ := h
  obtain ⟨l, A, m, cap, rfl, hi⟩ := ints_open ha
  obtain ⟨p, rfl, wp⟩ := int_open hb
  obtain ⟨n, rfl, wn⟩ := int_open hc
  obtain ⟨s, rfl, ws⟩ := int_open hd
  have b := bounds_u64 ws
  exact wLinksPoints0 W A m cap l p n s hi (by omega) (by omega)
end Go.Proofs.Ytjcbmfopcohcmaa
