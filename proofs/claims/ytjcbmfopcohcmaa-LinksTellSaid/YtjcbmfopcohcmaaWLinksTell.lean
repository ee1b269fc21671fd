/- The walk of the law LinksTell: it returns true. Conditions: none. -/
import Derived.Test.YtjcbmfopcohcmaaSt12
import Derived.Test.YtjcbmfopcohcmaaPlain
namespace Go.Proofs.Ytjcbmfopcohcmaa
open Go.RowKit Go.ChangeShapes
set_option maxRecDepth 100000
set_option linter.unusedVariables false
set_option linter.unusedSimpArgs false

set_option maxHeartbeats 4000000 in
theorem wLinksTell0 (W : World) (A : Option Addr) (m cap : Nat) (l : List Int) (p n s : Int) (h : Ints W (· < W.heap.size) .u32 4 A m cap l) (hp : U32 p) (h0 : 0 ≤ s) (h1 : s < 18446744073709551616) :
    Calls Try.prog 7 #[.slice A m cap, .int .u32 p, .int .i64 n, .int .u64 s] W fun e W' => e = .returned (.bool true) ∧ Below W.heap.size W W' := by
  have HI := Lib.hid h
  have HP := Lib.hid hp
  clear h hp
  go_enter Try.func7, Try.ntmps7
  go_upto_region 3 with (first
    | (go_at_call 25; go_loud ((with_reducible refine (made12 HI.out).mono ?_); rintro e w1 ⟨r, q, rfl, hT⟩; have HT := Lib.hid hT; clear hT))
    | (go_at_call 26; go_loud ((with_reducible refine (dice_new s _).mono ?_); rintro e w2 ⟨rfl, hb2, hx2⟩; have HB2 := Lib.hid hb2; have HX2 := Lib.hid hx2; clear hb2 hx2)))
  have hL : L12 W r q w1.heap.size w2.heap.size (ptsOf (l.take 60)) s s (w2.alloc (.cells #[.int .u64 s] 71)) :=
    L12.start HT.out (HX2.out.alloc _) (Box.new w2 _ _) (HB2.out.alloc HB2.out.size _) (Nat.le_refl _) HB2.out.size (Nat.ne_of_lt HX2.out.lt)
  refine wp_abs (fun w => L12 W r q w1.heap.size w2.heap.size (ptsOf (l.take 60)) s s w) hL ?_
  intro w3 hL3
  have HL3 := Lib.hid hL3
  clear HB2 HX2 HT hL3 hL
  generalize w1.heap.size = db at *
  generalize w2.heap.size = eb at *
  generalize ptsOf (l.take 60) = P at *
  by_cases hn : 100 < n
  all_goals
    go_upto_region 8 with (first
      | (go_at_call 27; go_loud ((with_reducible refine (awake12 _).mono ?_); rintro e w4 ⟨rfl, hb4⟩; have HL4 := Lib.hid (HL3.out.later hb4); clear hb4))
      | (go_at_call 28; go_loud ((with_reducible refine (l12_of HL4.out h0 h1 HP.out).mono ?_); rintro e w5 ⟨A5, c5, x5, s5, rfl, ha5, hi5, hl5⟩; have HA5 := Lib.hid ha5; have HI5 := Lib.hid hi5; have HL5 := Lib.hid hl5; clear ha5 hi5 hl5))
      | (go_at_call 29; go_loud ((with_reducible refine (l12_ref HL5.out h0 h1 HP.out).mono ?_); rintro e w6 ⟨A6, c6, x6, s6, rfl, ha6, hi6, hl6, ho6⟩; have HA6 := Lib.hid ha6; have HI6 := Lib.hid hi6; have HL6 := Lib.hid hl6; have HO6 := Lib.hid ho6; clear ha6 hi6 hl6 ho6)))
    obtain ⟨rfl, rfl⟩ := HA5.out.one HA6.out
    have hbs := HA5.out.bound h0 h1
    have HI5 := Lib.hid (Ints.move (w' := w6) (D' := fun b => b < w6.heap.size) HI5.out fun b hb hlt => ⟨HO6.out.block b hlt (fun e => by have h9 := HL4.out.edice.lt; have := hb.1; omega), Nat.lt_of_lt_of_le hlt HO6.out.size⟩)
    have hse := stepF_bound (stepF s5)
    have HTT := Lib.hid (show decide (x5 = x5) = true from decide_eq_true rfl)
    go_wp2_with (first
      | (go_at_call 30; go_loud ((with_reducible refine (plain_u32 _ HI5.out HI6.out).mono ?_); rintro e w7 ⟨rfl, hd7⟩; rw [HTT.out]; have HL7 := Lib.hid (HL6.out.later hd7.below); clear hd7))
      | (go_at_call 31; go_loud ((with_reducible refine (leap_any db s5 _ HL7.out.dice hbs.1 hbs.2).mono ?_); rintro e w8 ⟨rfl, ho8, hx8⟩; have HL8 := Lib.hid (HL7.out.turnD ho8 hx8); clear ho8 hx8))
      | (go_at_call 32; go_loud ((with_reducible refine (rleap_any eb s5 _ HL8.out.edice hbs.1 hbs.2).mono ?_); rintro e w9 ⟨rfl, ho9, hx9⟩; have HL9 := Lib.hid (HL8.out.turnE ho9 hx9); clear ho9 hx9))
      | (go_at_call 33; go_loud ((with_reducible refine (step_any db _ _ HL9.out.dice hse.1 hse.2).mono ?_); rintro e w10 ⟨rfl, ho10, hx10⟩; have HL10 := Lib.hid (HL9.out.turnD ho10 hx10); clear ho10 hx10))
      | (go_at_call 34; go_loud ((with_reducible refine (rdstep_any eb _ _ HL10.out.edice hse.1 hse.2).mono ?_); rintro e w11 ⟨rfl, ho11, hx11⟩; have HL11 := Lib.hid (HL10.out.turnE ho11 hx11); clear ho11 hx11)))
    go_ret
    exact ⟨by first | rfl | simp, HL11.out.below⟩

theorem wLinksTell (W : World) (vs : List Value) (h : Sh.Args W (· < W.heap.size) [((.sl (.int .u32) 4), 32), ((.int .u32), 22), ((.int .i64), 3), ((.int .u64), 31)] vs) :
    Calls Try.prog 7 vs.toArray W fun e W' => e = .returned (.bool true) ∧ Below W.heap.size W W' := by
  obtain ⟨_, _, rfl, ⟨a, ha⟩, _, _, rfl, ⟨b, hb⟩, _, _, rfl, ⟨c, hc⟩, _, _, rfl, ⟨d, hd⟩, rfl⟩ := h
  obtain ⟨l, A, m, cap, rfl, hi⟩ := ints_open ha
  obtain ⟨p, rfl, wp⟩ := int_open hb
  obtain ⟨n, rfl, wn⟩ := int_open hc
  obtain ⟨s, rfl, ws⟩ := int_open hd
  have b := bounds_u64 ws
  exact wLinksTell0 W A m cap l p n s hi (u32_of wp) (by omega) (by omega)
end Go.Proofs.Ytjcbmfopcohcmaa
