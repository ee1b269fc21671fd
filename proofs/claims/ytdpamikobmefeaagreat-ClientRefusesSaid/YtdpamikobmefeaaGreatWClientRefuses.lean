/- The law ClientRefuses: its walk. Conditions: none. -/
import Derived.Test.YtdpamikobmefeaaGreatCliRef
namespace Go.Proofs.YtdpamikobmefeaaGreat
open Go.RowKit Go.ChangeShapes Go.Maps
set_option maxRecDepth 100000
set_option linter.unusedVariables false
set_option linter.unusedSimpArgs false

theorem twelve (x : Int) : ∃ u : Int, (u = 0 ∨ u = 1 ∨ u = 2 ∨ u = 3 ∨ u = 4 ∨ u = 5 ∨ u = 6 ∨ u = 7 ∨ u = 8 ∨ u = 9 ∨ u = 10 ∨ u = 11) ∧ (IntKind.u64.wrap x).tmod 12 = u := by
  have h0 : IntKind.u64.wrap x = x % 18446744073709551616 := by simp [IntKind.wrap, IntKind.signed, IntKind.bits]
  rw [h0, Int.tmod_eq_emod_of_nonneg (by omega)]
  exact ⟨_, by omega, rfl⟩
/-- Two ranges that are any. -/
def anyC : Array Value := #[.int .i64 1, .int .u32 0, .int .u32 0, .int .i64 1, .int .u32 0, .int .u32 0]
theorem any_two {w : World} {D : Nat → Prop} {rb n : Nat} (hb : Box w rb anyC) (hd : D rb) (h1 : 1 ≤ n) (hn : n ≤ 2) : RngsAt w D (some ⟨rb, 0, none⟩) n 2 (([⟨1, 0, 0⟩, ⟨1, 0, 0⟩] : List Rng).take n) := by
  have hu : U32 0 := ⟨by decide, by decide⟩
  have d : ∀ i v, anyC[i]? = some v → w.cell? ⟨rb, 0 + i, none⟩ = some v := fun i v h => by rw [Nat.zero_add]; exact (hb.cell i).trans h
  refine rngsAt ⟨by simp; omega, hn, by omega, (fun h => by cases h), fun _ => ⟨rb, 0, rfl, hd, fun j y hj => ?_⟩⟩ (by omega)
  have hj2 : j < 2 := by
    have := (List.getElem?_eq_some_iff.1 hj).1
    simp at this; omega
  have hy : y = ⟨1, 0, 0⟩ := by
    have := List.mem_of_mem_take (List.mem_of_getElem? hj)
    simp at this
    exact this
  subst hy
  refine ⟨[.int .i64 1, .int .u32 0, .int .u32 0], fun t u hu => ?_, rfl, hu, hu⟩
  have ht := (List.getElem?_eq_some_iff.1 hu).1
  have hk : rngE.k = 3 := rfl
  rw [hk, show 0 + j * 3 + t = 0 + (j * 3 + t) by omega]
  refine d _ _ ?_
  rw [← hu]
  have hj3 : j = 0 ∨ j = 1 := by omega
  have ht3 : t = 0 ∨ t = 1 ∨ t = 2 := by simp at ht; omega
  rcases hj3 with rfl | rfl <;> rcases ht3 with rfl | rfl | rfl <;> rfl
set_option maxHeartbeats 8000000 in
theorem wClientRefuses0 (W : World) (x : Int) :
    Calls Tryz.prog 3 #[.int .i64 x] W fun e W' => e = .returned (.bool true) ∧ Below W.heap.size W W' := by
  have S0 := Lib.hid (Sta.start W)
  have HU1 := Lib.hid (show U32 1 from ⟨by decide, by decide⟩)
  obtain ⟨u, hmod, hu⟩ := twelve x
  go_enter Tryz.func3, Tryz.ntmps3
  go_upto_region 2 with (go_at_call 7; go_loud (refine (cli_new [1] [2] 2 (by omega) (by omega) S0.out (by simp) (by simp) (by simp) (by simp)).mono ?_; rintro e1 w1 ⟨cb, hm, rfl, hs⟩; have S1 := Lib.hid hs; clear hs S0))
  go_upto_region 4 with (go_at_call 8; go_loud (refine (awake22 _).mono ?_; rintro e2 w2 ⟨rfl, hb⟩; have S2 := Lib.hid (S1.out.later hb); clear hb S1))
  go_upto_region 6 with fail
  refine wp_abs (fun wx => Sta W [tHeld [2] hm [], tBlk [1] cb (cli0 2 hm), tBox w2.heap.size anyC] wx) (S2.out.addBox anyC 29) ?_
  generalize w2.heap.size = rb
  intro wx hsx
  have S3 := Lib.hid hsx
  have HX := Lib.hid (hsx.blk (i := 1) (π := [1]) (b := cb) (C := cli0 2 hm) rfl)
  have HB := Lib.hid (hsx.box (i := 2) (b := rb) (C := anyC) rfl)
  have zr := HB.out.lt
  clear hsx S2
  go_upto_region 9 with fail
  clear hu
  rcases hmod with rfl | rfl | rfl | rfl | rfl | rfl | rfl | rfl | rfl | rfl | rfl | rfl
  · have HT := Lib.hid (S3.out.later (below_a1 wx (.cells #[.int .u32 1, .int .u32 2] 27)))
    go_upto_region 41 with (go_at_call 9; go_loud (refine (put_may _ (by omega) (may_m1 cb _)).mono ?_; rintro e6 w6 ⟨rfl, rfl⟩))
    clear S3 HX HB zr
    go_upto_region 43 with (go_at_call 9; go_loud (refine (put_may _ (by omega) (may_nil 0 _)).mono ?_; rintro e7 w7 ⟨rfl, rfl⟩))
    go_upto_region 44 with (go_at_call 14; go_loud (refine (outcome_nil 1 _).mono ?_; rintro e8 w8 ⟨rfl, hb8⟩; have T2 := Lib.hid (HT.out.later hb8); clear hb8))
    refine wp_abs (fun wx => Sta W [tHeld [2] hm [], tBlk [1] cb (cli0 2 hm), tBox rb anyC] wx) (T2.out.later (below_a1 _ _)) ?_
    intro wy hsy
    have T3 := Lib.hid hsy
    have HX := Lib.hid (hsy.blk (i := 1) (π := [1]) (b := cb) (C := cli0 2 hm) rfl)
    clear hsy T2 HT
    go_wp2_with (go_at_call 15; go_loud (refine (ops_len (k := 0) (OA := none) (on := 0) (oc := 0) (by omega) HX.out rfl).mono ?_; rintro e9 w9 ⟨rfl, rfl⟩))
    (go_at_call 16; go_loud (refine (hear_nil _).mono ?_; rintro e11 w11 ⟨rfl, hb11⟩; have T4 := Lib.hid (T3.out.later hb11); clear hb11))
    go_wp2_with (first
      | (go_at_call 15; go_loud (refine (ops_nil _).mono ?_; rintro e10 w10 ⟨rfl, rfl⟩))
      | (go_at_call 17; go_loud (refine (places_nil _ _).mono ?_; rintro e12 w12 ⟨rfl, rfl⟩))
      | (go_at_call 18; go_loud (refine (fork_nil _).mono ?_; rintro e13 w13 ⟨rfl, rfl⟩)))
    go_ret
    exact ⟨rfl, T4.out.end⟩
  · have HT := Lib.hid (S3.out.later (below_a1 wx (.cells #[.int .u32 1, .int .u32 2] 27)))
    go_upto_region 41 with (go_at_call 9; go_loud (refine (put_may _ (by omega) (may_16 cb _)).mono ?_; rintro e6 w6 ⟨rfl, rfl⟩))
    clear S3 HX HB zr
    go_upto_region 43 with (go_at_call 9; go_loud (refine (put_may _ (by omega) (may_nil 0 _)).mono ?_; rintro e7 w7 ⟨rfl, rfl⟩))
    go_upto_region 44 with (go_at_call 14; go_loud (refine (outcome_nil 1 _).mono ?_; rintro e8 w8 ⟨rfl, hb8⟩; have T2 := Lib.hid (HT.out.later hb8); clear hb8))
    refine wp_abs (fun wx => Sta W [tHeld [2] hm [], tBlk [1] cb (cli0 2 hm), tBox rb anyC] wx) (T2.out.later (below_a1 _ _)) ?_
    intro wy hsy
    have T3 := Lib.hid hsy
    have HX := Lib.hid (hsy.blk (i := 1) (π := [1]) (b := cb) (C := cli0 2 hm) rfl)
    clear hsy T2 HT
    go_wp2_with (go_at_call 15; go_loud (refine (ops_len (k := 0) (OA := none) (on := 0) (oc := 0) (by omega) HX.out rfl).mono ?_; rintro e9 w9 ⟨rfl, rfl⟩))
    (go_at_call 16; go_loud (refine (hear_nil _).mono ?_; rintro e11 w11 ⟨rfl, hb11⟩; have T4 := Lib.hid (T3.out.later hb11); clear hb11))
    go_wp2_with (first
      | (go_at_call 15; go_loud (refine (ops_nil _).mono ?_; rintro e10 w10 ⟨rfl, rfl⟩))
      | (go_at_call 17; go_loud (refine (places_nil _ _).mono ?_; rintro e12 w12 ⟨rfl, rfl⟩))
      | (go_at_call 18; go_loud (refine (fork_nil _).mono ?_; rintro e13 w13 ⟨rfl, rfl⟩)))
    go_ret
    exact ⟨rfl, T4.out.end⟩
  · have HT := Lib.hid (S3.out.later (below_a1 wx (.cells #[.int .u32 1] 27)))
    go_upto_region 41 with (go_at_call 9; go_loud (refine (put_len (k := 0) (OA := none) (on := 0) (oc := 0) (attrs := 2) (by omega) ((S3.out.later (below_a1 wx (.cells #[.int .u32 1] 27))).blk (i := 1) (π := [1]) (b := cb) (C := cli0 2 hm) rfl) rfl rfl (by omega) (by omega) HU1.out).mono ?_; rintro e6 w6 ⟨rfl, rfl⟩))
    clear S3 HX HB zr
    go_upto_region 43 with (go_at_call 9; go_loud (refine (put_may _ (by omega) (may_nil 0 _)).mono ?_; rintro e7 w7 ⟨rfl, rfl⟩))
    go_upto_region 44 with (go_at_call 14; go_loud (refine (outcome_nil 1 _).mono ?_; rintro e8 w8 ⟨rfl, hb8⟩; have T2 := Lib.hid (HT.out.later hb8); clear hb8))
    refine wp_abs (fun wx => Sta W [tHeld [2] hm [], tBlk [1] cb (cli0 2 hm), tBox rb anyC] wx) (T2.out.later (below_a1 _ _)) ?_
    intro wy hsy
    have T3 := Lib.hid hsy
    have HX := Lib.hid (hsy.blk (i := 1) (π := [1]) (b := cb) (C := cli0 2 hm) rfl)
    clear hsy T2 HT
    go_wp2_with (go_at_call 15; go_loud (refine (ops_len (k := 0) (OA := none) (on := 0) (oc := 0) (by omega) HX.out rfl).mono ?_; rintro e9 w9 ⟨rfl, rfl⟩))
    (go_at_call 16; go_loud (refine (hear_nil _).mono ?_; rintro e11 w11 ⟨rfl, hb11⟩; have T4 := Lib.hid (T3.out.later hb11); clear hb11))
    go_wp2_with (first
      | (go_at_call 15; go_loud (refine (ops_nil _).mono ?_; rintro e10 w10 ⟨rfl, rfl⟩))
      | (go_at_call 17; go_loud (refine (places_nil _ _).mono ?_; rintro e12 w12 ⟨rfl, rfl⟩))
      | (go_at_call 18; go_loud (refine (fork_nil _).mono ?_; rintro e13 w13 ⟨rfl, rfl⟩)))
    go_ret
    exact ⟨rfl, T4.out.end⟩
  · go_upto_region 41 with (go_at_call 10; go_loud (refine (del_none (k := 0) (OA := none) (on := 0) (oc := 0) (H := []) 1 0 (by omega) S3.out rfl rfl rfl rfl (by omega) HU1.out rfl).mono ?_; rintro e6 w6 ⟨rfl, hb6⟩; have HT := Lib.hid (S3.out.later hb6); clear hb6))
    clear S3 HX HB zr
    go_upto_region 43 with (go_at_call 9; go_loud (refine (put_may _ (by omega) (may_nil 0 _)).mono ?_; rintro e7 w7 ⟨rfl, rfl⟩))
    go_upto_region 44 with (go_at_call 14; go_loud (refine (outcome_nil 1 _).mono ?_; rintro e8 w8 ⟨rfl, hb8⟩; have T2 := Lib.hid (HT.out.later hb8); clear hb8))
    refine wp_abs (fun wx => Sta W [tHeld [2] hm [], tBlk [1] cb (cli0 2 hm), tBox rb anyC] wx) (T2.out.later (below_a1 _ _)) ?_
    intro wy hsy
    have T3 := Lib.hid hsy
    have HX := Lib.hid (hsy.blk (i := 1) (π := [1]) (b := cb) (C := cli0 2 hm) rfl)
    clear hsy T2 HT
    go_wp2_with (go_at_call 15; go_loud (refine (ops_len (k := 0) (OA := none) (on := 0) (oc := 0) (by omega) HX.out rfl).mono ?_; rintro e9 w9 ⟨rfl, rfl⟩))
    (go_at_call 16; go_loud (refine (hear_nil _).mono ?_; rintro e11 w11 ⟨rfl, hb11⟩; have T4 := Lib.hid (T3.out.later hb11); clear hb11))
    go_wp2_with (first
      | (go_at_call 15; go_loud (refine (ops_nil _).mono ?_; rintro e10 w10 ⟨rfl, rfl⟩))
      | (go_at_call 17; go_loud (refine (places_nil _ _).mono ?_; rintro e12 w12 ⟨rfl, rfl⟩))
      | (go_at_call 18; go_loud (refine (fork_nil _).mono ?_; rintro e13 w13 ⟨rfl, rfl⟩)))
    go_ret
    exact ⟨rfl, T4.out.end⟩
  · go_upto_region 41 with (go_at_call 11; go_loud (refine (qry_box (D := (· < wx.heap.size)) (k := 0) (by omega) HX.out rfl rfl (by omega) (any_two HB.out zr (by omega) (by omega) : RngsAt wx (· < wx.heap.size) (some ⟨rb, 0, none⟩) 1 2 (([⟨1, 0, 0⟩, ⟨1, 0, 0⟩] : List Rng).take 1)) (fun b hb => hb) (by unfold rightB; simp)).mono ?_; rintro e6 w6 ⟨rfl, hb6⟩; have HT := Lib.hid (S3.out.later hb6); clear hb6))
    clear S3 HX HB zr
    go_upto_region 43 with (go_at_call 9; go_loud (refine (put_may _ (by omega) (may_nil 0 _)).mono ?_; rintro e7 w7 ⟨rfl, rfl⟩))
    go_upto_region 44 with (go_at_call 14; go_loud (refine (outcome_nil 1 _).mono ?_; rintro e8 w8 ⟨rfl, hb8⟩; have T2 := Lib.hid (HT.out.later hb8); clear hb8))
    refine wp_abs (fun wx => Sta W [tHeld [2] hm [], tBlk [1] cb (cli0 2 hm), tBox rb anyC] wx) (T2.out.later (below_a1 _ _)) ?_
    intro wy hsy
    have T3 := Lib.hid hsy
    have HX := Lib.hid (hsy.blk (i := 1) (π := [1]) (b := cb) (C := cli0 2 hm) rfl)
    clear hsy T2 HT
    go_wp2_with (go_at_call 15; go_loud (refine (ops_len (k := 0) (OA := none) (on := 0) (oc := 0) (by omega) HX.out rfl).mono ?_; rintro e9 w9 ⟨rfl, rfl⟩))
    (go_at_call 16; go_loud (refine (hear_nil _).mono ?_; rintro e11 w11 ⟨rfl, hb11⟩; have T4 := Lib.hid (T3.out.later hb11); clear hb11))
    go_wp2_with (first
      | (go_at_call 15; go_loud (refine (ops_nil _).mono ?_; rintro e10 w10 ⟨rfl, rfl⟩))
      | (go_at_call 17; go_loud (refine (places_nil _ _).mono ?_; rintro e12 w12 ⟨rfl, rfl⟩))
      | (go_at_call 18; go_loud (refine (fork_nil _).mono ?_; rintro e13 w13 ⟨rfl, rfl⟩)))
    go_ret
    exact ⟨rfl, T4.out.end⟩
  · go_upto_region 41 with (go_at_call 11; go_loud (refine (qry_hub (D := (· < wx.heap.size)) (k := 0) (by omega) HX.out rfl rfl (by omega) (any_two HB.out zr (by omega) (by omega) : RngsAt wx (· < wx.heap.size) (some ⟨rb, 0, none⟩) 2 2 (([⟨1, 0, 0⟩, ⟨1, 0, 0⟩] : List Rng).take 2)) (fun b hb => hb) (by unfold rightB kindF; simp) (by omega) (by omega)).mono ?_; rintro e6 w6 ⟨rfl, hb6⟩; have HT := Lib.hid (S3.out.later hb6); clear hb6))
    clear S3 HX HB zr
    go_upto_region 43 with (go_at_call 9; go_loud (refine (put_may _ (by omega) (may_nil 0 _)).mono ?_; rintro e7 w7 ⟨rfl, rfl⟩))
    go_upto_region 44 with (go_at_call 14; go_loud (refine (outcome_nil 1 _).mono ?_; rintro e8 w8 ⟨rfl, hb8⟩; have T2 := Lib.hid (HT.out.later hb8); clear hb8))
    refine wp_abs (fun wx => Sta W [tHeld [2] hm [], tBlk [1] cb (cli0 2 hm), tBox rb anyC] wx) (T2.out.later (below_a1 _ _)) ?_
    intro wy hsy
    have T3 := Lib.hid hsy
    have HX := Lib.hid (hsy.blk (i := 1) (π := [1]) (b := cb) (C := cli0 2 hm) rfl)
    clear hsy T2 HT
    go_wp2_with (go_at_call 15; go_loud (refine (ops_len (k := 0) (OA := none) (on := 0) (oc := 0) (by omega) HX.out rfl).mono ?_; rintro e9 w9 ⟨rfl, rfl⟩))
    (go_at_call 16; go_loud (refine (hear_nil _).mono ?_; rintro e11 w11 ⟨rfl, hb11⟩; have T4 := Lib.hid (T3.out.later hb11); clear hb11))
    go_wp2_with (first
      | (go_at_call 15; go_loud (refine (ops_nil _).mono ?_; rintro e10 w10 ⟨rfl, rfl⟩))
      | (go_at_call 17; go_loud (refine (places_nil _ _).mono ?_; rintro e12 w12 ⟨rfl, rfl⟩))
      | (go_at_call 18; go_loud (refine (fork_nil _).mono ?_; rintro e13 w13 ⟨rfl, rfl⟩)))
    go_ret
    exact ⟨rfl, T4.out.end⟩
  · go_upto_region 41 with (go_at_call 11; go_loud (refine (qry_page (D := (· < wx.heap.size)) (k := 0) (by omega) HX.out rfl rfl (by omega) (any_two HB.out zr (by omega) (by omega) : RngsAt wx (· < wx.heap.size) (some ⟨rb, 0, none⟩) 2 2 (([⟨1, 0, 0⟩, ⟨1, 0, 0⟩] : List Rng).take 2)) (fun b hb => hb) (by unfold rightB kindF; simp) (by omega) (by omega) (by omega)).mono ?_; rintro e6 w6 ⟨rfl, hb6⟩; have HT := Lib.hid (S3.out.later hb6); clear hb6))
    clear S3 HX HB zr
    go_upto_region 43 with (go_at_call 9; go_loud (refine (put_may _ (by omega) (may_nil 0 _)).mono ?_; rintro e7 w7 ⟨rfl, rfl⟩))
    go_upto_region 44 with (go_at_call 14; go_loud (refine (outcome_nil 1 _).mono ?_; rintro e8 w8 ⟨rfl, hb8⟩; have T2 := Lib.hid (HT.out.later hb8); clear hb8))
    refine wp_abs (fun wx => Sta W [tHeld [2] hm [], tBlk [1] cb (cli0 2 hm), tBox rb anyC] wx) (T2.out.later (below_a1 _ _)) ?_
    intro wy hsy
    have T3 := Lib.hid hsy
    have HX := Lib.hid (hsy.blk (i := 1) (π := [1]) (b := cb) (C := cli0 2 hm) rfl)
    clear hsy T2 HT
    go_wp2_with (go_at_call 15; go_loud (refine (ops_len (k := 0) (OA := none) (on := 0) (oc := 0) (by omega) HX.out rfl).mono ?_; rintro e9 w9 ⟨rfl, rfl⟩))
    (go_at_call 16; go_loud (refine (hear_nil _).mono ?_; rintro e11 w11 ⟨rfl, hb11⟩; have T4 := Lib.hid (T3.out.later hb11); clear hb11))
    go_wp2_with (first
      | (go_at_call 15; go_loud (refine (ops_nil _).mono ?_; rintro e10 w10 ⟨rfl, rfl⟩))
      | (go_at_call 17; go_loud (refine (places_nil _ _).mono ?_; rintro e12 w12 ⟨rfl, rfl⟩))
      | (go_at_call 18; go_loud (refine (fork_nil _).mono ?_; rintro e13 w13 ⟨rfl, rfl⟩)))
    go_ret
    exact ⟨rfl, T4.out.end⟩
  · go_upto_region 41 with (go_at_call 11; go_loud (refine (qry_page (D := (· < wx.heap.size)) (k := 0) (by omega) HX.out rfl rfl (by omega) (any_two HB.out zr (by omega) (by omega) : RngsAt wx (· < wx.heap.size) (some ⟨rb, 0, none⟩) 2 2 (([⟨1, 0, 0⟩, ⟨1, 0, 0⟩] : List Rng).take 2)) (fun b hb => hb) (by unfold rightB kindF; simp) (by omega) (by omega) (by omega)).mono ?_; rintro e6 w6 ⟨rfl, hb6⟩; have HT := Lib.hid (S3.out.later hb6); clear hb6))
    clear S3 HX HB zr
    go_upto_region 43 with (go_at_call 9; go_loud (refine (put_may _ (by omega) (may_nil 0 _)).mono ?_; rintro e7 w7 ⟨rfl, rfl⟩))
    go_upto_region 44 with (go_at_call 14; go_loud (refine (outcome_nil 1 _).mono ?_; rintro e8 w8 ⟨rfl, hb8⟩; have T2 := Lib.hid (HT.out.later hb8); clear hb8))
    refine wp_abs (fun wx => Sta W [tHeld [2] hm [], tBlk [1] cb (cli0 2 hm), tBox rb anyC] wx) (T2.out.later (below_a1 _ _)) ?_
    intro wy hsy
    have T3 := Lib.hid hsy
    have HX := Lib.hid (hsy.blk (i := 1) (π := [1]) (b := cb) (C := cli0 2 hm) rfl)
    clear hsy T2 HT
    go_wp2_with (go_at_call 15; go_loud (refine (ops_len (k := 0) (OA := none) (on := 0) (oc := 0) (by omega) HX.out rfl).mono ?_; rintro e9 w9 ⟨rfl, rfl⟩))
    (go_at_call 16; go_loud (refine (hear_nil _).mono ?_; rintro e11 w11 ⟨rfl, hb11⟩; have T4 := Lib.hid (T3.out.later hb11); clear hb11))
    go_wp2_with (first
      | (go_at_call 15; go_loud (refine (ops_nil _).mono ?_; rintro e10 w10 ⟨rfl, rfl⟩))
      | (go_at_call 17; go_loud (refine (places_nil _ _).mono ?_; rintro e12 w12 ⟨rfl, rfl⟩))
      | (go_at_call 18; go_loud (refine (fork_nil _).mono ?_; rintro e13 w13 ⟨rfl, rfl⟩)))
    go_ret
    exact ⟨rfl, T4.out.end⟩
  · go_upto_region 41 with (go_at_call 11; go_loud (refine (qry_mark (k := 0) (q := 0) (OA := none) (on := 0) (oc := 0) (attrs := 2) (πo := [3]) (πg := [4]) (bl := [⟨1, 0, 0⟩, ⟨1, 0, 0⟩]) 1 (by omega) (S3.out.later (below_a1 wx (.cells #[.int .u8 1] 5))) rfl rfl rfl (by omega) (fun c h => any_two (n := 2) (h.box (i := 2) (b := rb) (C := anyC) rfl).1 (h.box (i := 2) (b := rb) (C := anyC) rfl).2 (by omega) (by omega)) (by unfold rightB kindF; simp) (by omega) (by omega) (by omega) (by omega) (by omega) (by simp) (by simp) (by simp) (by simp [tHeld, tBlk, tBox])).mono ?_; rintro e6 w6 ⟨rfl, hs6⟩; have HT := Lib.hid hs6; clear hs6))
    clear S3 HX HB zr
    go_upto_region 43 with (go_at_call 9; go_loud (refine (put_may _ (by omega) (may_nil 0 _)).mono ?_; rintro e7 w7 ⟨rfl, rfl⟩))
    go_upto_region 44 with (go_at_call 14; go_loud (refine (outcome_nil 1 _).mono ?_; rintro e8 w8 ⟨rfl, hb8⟩; have T2 := Lib.hid (HT.out.later hb8); clear hb8))
    refine wp_abs (fun wx => Sta W [tHeld [2] hm [], tBlk [1] cb (cli0 2 hm), tBox rb anyC] wx) (T2.out.later (below_a1 _ _)) ?_
    intro wy hsy
    have T3 := Lib.hid hsy
    have HX := Lib.hid (hsy.blk (i := 1) (π := [1]) (b := cb) (C := cli0 2 hm) rfl)
    clear hsy T2 HT
    go_wp2_with (go_at_call 15; go_loud (refine (ops_len (k := 0) (OA := none) (on := 0) (oc := 0) (by omega) HX.out rfl).mono ?_; rintro e9 w9 ⟨rfl, rfl⟩))
    (go_at_call 16; go_loud (refine (hear_nil _).mono ?_; rintro e11 w11 ⟨rfl, hb11⟩; have T4 := Lib.hid (T3.out.later hb11); clear hb11))
    go_wp2_with (first
      | (go_at_call 15; go_loud (refine (ops_nil _).mono ?_; rintro e10 w10 ⟨rfl, rfl⟩))
      | (go_at_call 17; go_loud (refine (places_nil _ _).mono ?_; rintro e12 w12 ⟨rfl, rfl⟩))
      | (go_at_call 18; go_loud (refine (fork_nil _).mono ?_; rintro e13 w13 ⟨rfl, rfl⟩)))
    go_ret
    exact ⟨rfl, T4.out.end⟩
  · have HT := Lib.hid S3.out
    go_upto_region 41 with (go_at_call 12; go_loud (refine (retry_none (k := 0) (OA := none) (on := 0) (oc := 0) (by omega) HX.out rfl (.inr (by omega))).mono ?_; rintro e6 w6 ⟨rfl, rfl⟩))
    clear S3 HX HB zr
    go_upto_region 43 with (go_at_call 9; go_loud (refine (put_may _ (by omega) (may_nil 0 _)).mono ?_; rintro e7 w7 ⟨rfl, rfl⟩))
    go_upto_region 44 with (go_at_call 14; go_loud (refine (outcome_nil 1 _).mono ?_; rintro e8 w8 ⟨rfl, hb8⟩; have T2 := Lib.hid (HT.out.later hb8); clear hb8))
    refine wp_abs (fun wx => Sta W [tHeld [2] hm [], tBlk [1] cb (cli0 2 hm), tBox rb anyC] wx) (T2.out.later (below_a1 _ _)) ?_
    intro wy hsy
    have T3 := Lib.hid hsy
    have HX := Lib.hid (hsy.blk (i := 1) (π := [1]) (b := cb) (C := cli0 2 hm) rfl)
    clear hsy T2 HT
    go_wp2_with (go_at_call 15; go_loud (refine (ops_len (k := 0) (OA := none) (on := 0) (oc := 0) (by omega) HX.out rfl).mono ?_; rintro e9 w9 ⟨rfl, rfl⟩))
    (go_at_call 16; go_loud (refine (hear_nil _).mono ?_; rintro e11 w11 ⟨rfl, hb11⟩; have T4 := Lib.hid (T3.out.later hb11); clear hb11))
    go_wp2_with (first
      | (go_at_call 15; go_loud (refine (ops_nil _).mono ?_; rintro e10 w10 ⟨rfl, rfl⟩))
      | (go_at_call 17; go_loud (refine (places_nil _ _).mono ?_; rintro e12 w12 ⟨rfl, rfl⟩))
      | (go_at_call 18; go_loud (refine (fork_nil _).mono ?_; rintro e13 w13 ⟨rfl, rfl⟩)))
    go_ret
    exact ⟨rfl, T4.out.end⟩
  · have HT := Lib.hid S3.out
    go_upto_region 41 with (go_at_call 13; go_loud (refine (give_none (k := 0) (OA := none) (on := 0) (oc := 0) (by omega) HX.out rfl (.inl (by omega))).mono ?_; rintro e6 w6 ⟨rfl, rfl⟩))
    clear S3 HX HB zr
    go_upto_region 43 with (go_at_call 9; go_loud (refine (put_may _ (by omega) (may_nil 0 _)).mono ?_; rintro e7 w7 ⟨rfl, rfl⟩))
    go_upto_region 44 with (go_at_call 14; go_loud (refine (outcome_nil 1 _).mono ?_; rintro e8 w8 ⟨rfl, hb8⟩; have T2 := Lib.hid (HT.out.later hb8); clear hb8))
    refine wp_abs (fun wx => Sta W [tHeld [2] hm [], tBlk [1] cb (cli0 2 hm), tBox rb anyC] wx) (T2.out.later (below_a1 _ _)) ?_
    intro wy hsy
    have T3 := Lib.hid hsy
    have HX := Lib.hid (hsy.blk (i := 1) (π := [1]) (b := cb) (C := cli0 2 hm) rfl)
    clear hsy T2 HT
    go_wp2_with (go_at_call 15; go_loud (refine (ops_len (k := 0) (OA := none) (on := 0) (oc := 0) (by omega) HX.out rfl).mono ?_; rintro e9 w9 ⟨rfl, rfl⟩))
    (go_at_call 16; go_loud (refine (hear_nil _).mono ?_; rintro e11 w11 ⟨rfl, hb11⟩; have T4 := Lib.hid (T3.out.later hb11); clear hb11))
    go_wp2_with (first
      | (go_at_call 15; go_loud (refine (ops_nil _).mono ?_; rintro e10 w10 ⟨rfl, rfl⟩))
      | (go_at_call 17; go_loud (refine (places_nil _ _).mono ?_; rintro e12 w12 ⟨rfl, rfl⟩))
      | (go_at_call 18; go_loud (refine (fork_nil _).mono ?_; rintro e13 w13 ⟨rfl, rfl⟩)))
    go_ret
    exact ⟨rfl, T4.out.end⟩
  · go_upto_region 41 with (go_at_call 14; go_loud (refine (outcome_m1 cb 1 _).mono ?_; rintro e6 w6 ⟨rfl, hb6⟩; have HT := Lib.hid (S3.out.later hb6); clear hb6))
    clear S3 HX HB zr
    go_upto_region 43 with (go_at_call 9; go_loud (refine (put_may _ (by omega) (may_nil 0 _)).mono ?_; rintro e7 w7 ⟨rfl, rfl⟩))
    go_upto_region 44 with (go_at_call 14; go_loud (refine (outcome_nil 1 _).mono ?_; rintro e8 w8 ⟨rfl, hb8⟩; have T2 := Lib.hid (HT.out.later hb8); clear hb8))
    refine wp_abs (fun wx => Sta W [tHeld [2] hm [], tBlk [1] cb (cli0 2 hm), tBox rb anyC] wx) (T2.out.later (below_a1 _ _)) ?_
    intro wy hsy
    have T3 := Lib.hid hsy
    have HX := Lib.hid (hsy.blk (i := 1) (π := [1]) (b := cb) (C := cli0 2 hm) rfl)
    clear hsy T2 HT
    go_wp2_with (go_at_call 15; go_loud (refine (ops_len (k := 0) (OA := none) (on := 0) (oc := 0) (by omega) HX.out rfl).mono ?_; rintro e9 w9 ⟨rfl, rfl⟩))
    (go_at_call 16; go_loud (refine (hear_nil _).mono ?_; rintro e11 w11 ⟨rfl, hb11⟩; have T4 := Lib.hid (T3.out.later hb11); clear hb11))
    go_wp2_with (first
      | (go_at_call 15; go_loud (refine (ops_nil _).mono ?_; rintro e10 w10 ⟨rfl, rfl⟩))
      | (go_at_call 17; go_loud (refine (places_nil _ _).mono ?_; rintro e12 w12 ⟨rfl, rfl⟩))
      | (go_at_call 18; go_loud (refine (fork_nil _).mono ?_; rintro e13 w13 ⟨rfl, rfl⟩)))
    go_ret
    exact ⟨rfl, T4.out.end⟩
theorem wClientRefuses (W : World) (vs : List Value) (h : Sh.Args W (· < W.heap.size) [((.int .i64), 3)] vs) :
    Calls Tryz.prog 3 vs.toArray W fun e W' => e = .returned (.bool true) ∧ Below W.heap.size W W' := by
  obtain ⟨_, _, rfl, ⟨a, ha⟩, rfl⟩ := h
  obtain ⟨a1, rfl, wa⟩ := int_open ha
  exact wClientRefuses0 W a1
end Go.Proofs.YtdpamikobmefeaaGreat
