/- The walk of the law ShelfCuts: it returns true. Conditions: none. -/
import Derived.Test.YtmohkfihfkcpdaaSt
import Derived.Test.YtmohkfihfkcpdaaCutsPlain
namespace Go.Proofs.Ytmohkfihfkcpdaa
open Go.RowKit Go.ChangeShapes Go.Maps
set_option maxRecDepth 100000
set_option linter.unusedVariables false
set_option linter.unusedSimpArgs false

theorem few_len {l : List Ent} (h : fewF l = true) : l.length ≤ 30 := by
  unfold fewF at h
  simp only [Bool.and_eq_true, decide_eq_true_eq] at h
  exact h.2

set_option maxHeartbeats 2000000 in
theorem wShelfCuts0 (W : World) (A : Option Addr) (n cap : Nat) (l : List Ent) (f t : Int) (hl : EntsAt W (· < W.heap.size) A n cap l) (hn : n ≤ 140737488351232) :
    Calls Try.prog 10 #[.slice A n cap, .agg #[.int .u32 f, .int .u32 t]] W fun e W' => e = .returned (.bool true) ∧ Below W.heap.size W W' := by
  have S0 := Lib.hid (St.start (W := W) (rows := [⟨A, n, cap, l⟩]) (fun r hr => by simp only [List.mem_singleton] at hr; subst hr; exact hl))
  clear hl
  have X0 := Lib.hid (Box.new W #[.int .u32 f, .int .u32 t] 54)
  cases hfew : fewF l with
  | false =>
    have HF := Lib.hid hfew
    clear hfew
    go_enter Try.func10, Try.ntmps10
    go_wp2_with (first
      | (go_at_call 24; ((with_reducible refine (st_few (S0.out.later (below_a1 W (.cells #[.int .u32 f, .int .u32 t] 54))) ⟨A, n, cap, l⟩ (by simp) hn HF.out).mono ?_); rintro e w' ⟨rfl, rfl⟩))
      | (go_at_call 25; (with_reducible refine (awake09 _).mono ?_); rintro e w' ⟨rfl, hg⟩))
    go_ret
    exact ⟨rfl, (below_a1 W _).trans (hg.mono (by rw [size_alloc]; omega))⟩
  | true =>
    have HF := Lib.hid hfew
    obtain ⟨⟨L1, k1⟩, hj⟩ : ∃ p, joinF [] l = p := ⟨_, rfl⟩
    have EJ := Lib.hid hj
    clear hfew hj
    go_enter Try.func10, Try.ntmps10
    go_upto_region 7 with (first
      | (go_at_call 24; ((with_reducible refine (st_few (S0.out.later (below_a1 W (.cells #[.int .u32 f, .int .u32 t] 54))) ⟨A, n, cap, l⟩ (by simp) hn HF.out).mono ?_); rintro e w' ⟨rfl, rfl⟩))
      | (go_at_call 26; go_loud ((with_reducible refine (st_new [1] (S0.out.later (below_a1 W (.cells #[.int .u32 f, .int .u32 t] 54))) (by simp) (by simp)).mono ?_); rintro e w1 ⟨b, rfl, hs, hb⟩; have SA := Lib.hid hs; have XA := Lib.hid (X0.out.below hb X0.out.lt); clear hs hb))
      | (go_at_call 25; go_loud ((with_reducible refine (awake09 _).mono ?_); rintro e w2 ⟨rfl, hg⟩; have SB := Lib.hid (SA.out.later hg); have XB := Lib.hid (XA.out.below hg XA.out.lt); clear hg))
      | (go_at_call 27; go_loud ((refine (st_join (obs' := [⟨[1], b, L1, false⟩]) (n := k1) SB.out ⟨[1], b, [], false⟩ (by simp) rfl ⟨A, n, cap, l⟩ (by simp) (by rw [EJ.out]; exact setOb_one _ _ _ _ _) (by rw [EJ.out])).mono ?_); rintro e w3 ⟨rfl, hs, hb⟩; have SC := Lib.hid hs; have XC := Lib.hid (hb _ _ XB.out); clear hs hb)))
    obtain ⟨all, cut, L2, L3, q1, q2, q3, q4, q5, q6, q7, q8⟩ := cuts_law (f := f) (t := t) (SC.out.ok (o := ⟨[1], b, L1, false⟩) (by simp)) (SC.out.len (o := ⟨[1], b, L1, false⟩) (by simp))
    have Q1 := Lib.hid q1; have Q2 := Lib.hid q2; have Q3 := Lib.hid q3; have Q4 := Lib.hid q4; have Q5 := Lib.hid q5; have Q6 := Lib.hid q6
    clear q1 q2 q3 q4 q5 q6
    refine wp_abs (fun w => Box w W.heap.size #[.int .u32 f, .int .u32 t] ∧ St W [⟨[1], b, L1, false⟩] [⟨A, n, cap, l⟩] w) ⟨XC.out, SC.out⟩ ?_
    clear XA XB XC SA SB SC X0 S0
    generalize hbx : W.heap.size = bx
    rintro wz ⟨XA, SA⟩
    have ca := XA.cell; have za := XA.lt
    have XA := Lib.hid XA; have SA := Lib.hid SA
    go_upto_region 8 with fail
    have SA := Lib.hid (SA.out.later (below_a1 wz (.cells #[.int .u32 f, .int .u32 f] 54)))
    have X6 := Lib.hid (Box.new wz #[.int .u32 f, .int .u32 f] 54)
    have XA := Lib.hid (XA.out.alloc (.cells #[.int .u32 f, .int .u32 f] 54))
    clear ca za
    generalize wz.alloc (.cells #[.int .u32 f, .int .u32 f] 54) = wy at *
    generalize wz.heap.size = b6 at *
    have ca := XA.out.cell; have c6 := X6.out.cell; have za := XA.out.lt; have z6 := X6.out.lt
    go_wp2_with (first
      | (go_at_call 29; ((with_reducible refine (st_scan f f SA.out ⟨[1], b, L1, false⟩ (by simp) rfl Q1.out).mono ?_); rintro e w1 ⟨A1, cap1, rfl, hs, hb⟩; have SB := Lib.hid hs; have XA := Lib.hid (XA.out.below hb XA.out.lt); have X6 := Lib.hid (X6.out.below hb X6.out.lt); have ca := XA.out.cell; have c6 := X6.out.cell; have za := XA.out.lt; have z6 := X6.out.lt; clear hs hb))
      | (go_at_call 29; ((with_reducible refine (st_scan f t SB.out ⟨[1], b, L1, false⟩ (by simp) rfl Q2.out).mono ?_); rintro e w1 ⟨A2, cap2, rfl, hs, hb⟩; have SC := Lib.hid hs; have XA := Lib.hid (XA.out.below hb XA.out.lt); have X6 := Lib.hid (X6.out.below hb X6.out.lt); have ca := XA.out.cell; have c6 := X6.out.cell; have za := XA.out.lt; have z6 := X6.out.lt; clear hs hb))
      | (go_at_call 34; ((with_reducible refine (st_cut (obs' := [⟨[1], b, L2, false⟩]) f t SC.out ⟨[1], b, L1, false⟩ (by simp) rfl Q2.out (by rw [Q3.out]; exact setOb_one _ _ _ _ _)).mono ?_); rintro e w1 ⟨A3, cap3, rfl, hs, hb⟩; have SD := Lib.hid hs; have XA := Lib.hid (hb _ _ XA.out); have X6 := Lib.hid (hb _ _ X6.out); have ca := XA.out.cell; have c6 := X6.out.cell; have za := XA.out.lt; have z6 := X6.out.lt; clear hs hb))
      | (go_at_call 28; ((with_reducible refine (st_same (bo := true) SD.out ⟨A3, cut.length, cap3, cut⟩ ⟨A2, cut.length, cap2, cut⟩ (by simp) (by simp) (by simp)).mono ?_); rintro e w1 ⟨rfl, hb⟩; have SE := Lib.hid (SD.out.later hb); have XA := Lib.hid (XA.out.below hb XA.out.lt); have X6 := Lib.hid (X6.out.below hb X6.out.lt); have ca := XA.out.cell; have c6 := X6.out.cell; have za := XA.out.lt; have z6 := X6.out.lt; clear hb))
      | (go_at_call 29; ((with_reducible refine (st_scan f t SE.out ⟨[1], b, L2, false⟩ (by simp) rfl Q4.out).mono ?_); rintro e w1 ⟨A4, cap4, rfl, hs, hb⟩; have SF := Lib.hid hs; have XA := Lib.hid (XA.out.below hb XA.out.lt); have X6 := Lib.hid (X6.out.below hb X6.out.lt); have ca := XA.out.cell; have c6 := X6.out.cell; have za := XA.out.lt; have z6 := X6.out.lt; clear hs hb))
      | (go_at_call 30; ((with_reducible refine (st_len (n := L2.length) SF.out ⟨[1], b, L2, false⟩ (by simp) rfl rfl).mono ?_); rintro e w1 ⟨rfl, rfl⟩))
      | (go_at_call 27; ((with_reducible refine (st_join (obs' := [⟨[1], b, L3, false⟩]) (n := cut.length) SF.out ⟨[1], b, L2, false⟩ (by simp) rfl ⟨A3, cut.length, cap3, cut⟩ (by simp) (by rw [Q5.out]; exact setOb_one _ _ _ _ _) (by rw [Q5.out])).mono ?_); rintro e w1 ⟨rfl, hs, hb⟩; have SG := Lib.hid hs; have XA := Lib.hid (hb _ _ XA.out); have X6 := Lib.hid (hb _ _ X6.out); have ca := XA.out.cell; have c6 := X6.out.cell; have za := XA.out.lt; have z6 := X6.out.lt; clear hs hb))
      | (go_at_call 29; ((with_reducible refine (st_scan f f SG.out ⟨[1], b, L3, false⟩ (by simp) rfl Q6.out).mono ?_); rintro e w1 ⟨A5, cap5, rfl, hs, hb⟩; have SH := Lib.hid hs; have XA := Lib.hid (XA.out.below hb XA.out.lt); have X6 := Lib.hid (X6.out.below hb X6.out.lt); have ca := XA.out.cell; have c6 := X6.out.cell; have za := XA.out.lt; have z6 := X6.out.lt; clear hs hb))
      | (go_at_call 28; ((with_reducible refine (st_same (bo := true) SH.out ⟨A5, all.length, cap5, all⟩ ⟨A1, all.length, cap1, all⟩ (by simp) (by simp) (by simp)).mono ?_); rintro e w1 ⟨rfl, hb⟩; have SI := Lib.hid (SH.out.later hb); clear hb)))
    go_ret
    exact ⟨by first | rfl | simp, SI.out.end⟩

theorem wShelfCuts (W : World) (vs : List Value) (h : Sh.Args W (· < W.heap.size) [((.sl (.st (.pair (.int .u32) (.pair (.st (.pair (.int .u64) (.pair (.int .u64) (.pair (.sl (.int .u32) 4) .unit)))) (.pair .bool .unit)))) 56), 46), ((.st (.pair (.int .u32) (.pair (.int .u32) .unit))), 54)] vs) :
    Calls Try.prog 10 vs.toArray W fun e W' => e = .returned (.bool true) ∧ Below W.heap.size W W' := by
  obtain ⟨_, _, rfl, ⟨a, ha⟩, _, _, rfl, ⟨b, hb⟩, rfl⟩ := h
  obtain ⟨A, n, cap, l, rfl, h1, h2, h3⟩ := ents_at ha
  obtain ⟨cs, rfl, hb⟩ := hb
  obtain ⟨c1, c2, rfl, ⟨rfl, w1⟩, c3, c4, rfl, ⟨rfl, w2⟩, h5⟩ := hb
  cases h5
  exact wShelfCuts0 W A n cap l _ _ h3 (by omega)
end Go.Proofs.Ytmohkfihfkcpdaa
