/- The walk of the law ShadowSets: it returns true. Conditions: none. -/
import Derived.Test.YtjcbmfopcohcmaaShadAll
namespace Go.Proofs.Ytjcbmfopcohcmaa
open Go.RowKit Go.ChangeShapes Go.Maps
set_option maxRecDepth 100000
set_option linter.unusedVariables false
set_option linter.unusedSimpArgs false

theorem sh_rnew {W w : World} {sb : Nat} {S : List OwnK} {obs : List Ob} {rows : List Rw} (π : List Int) (h : SH W sb S obs rows w) (h0 : π ≠ []) (h7 : π ≠ [7]) (hπ : ∀ o ∈ obs, o.π ≠ π) : SH W sb S (obs ++ [⟨π, w.heap.size, [], true⟩]) rows (w.alloc (.cells #[.slice none 0 0] 29)) := by
  obtain ⟨c, h⟩ := h
  have hb := below_a1 w (.cells #[.slice none 0 0] 29)
  have st0 : Stp (fun _ => False) c w c (w.alloc (.cells #[.slice none 0 0] 29)) := Stp.of_below _ h.st.stp.fresh hb
  have st := st0.paint (b := w.heap.size) (Nat.le_refl _) (by rw [size_alloc]; omega) π
  refine ⟨upd c w.heap.size π, ⟨h.st.stp.trans (st.mono fun _ h => h.elim), fun o ho => ?_, ?_, fun r hr => (h.st.reads r hr).step st id⟩, h.shad.step st id, h.len, fun o ho => ?_⟩
  · rcases List.mem_append.1 ho with ho | ho
    · exact ⟨(h.st.own o ho).1, (h.st.own o ho).2.1, (h.st.own o ho).2.2.step st id id⟩
    · simp only [List.mem_singleton] at ho
      subst ho
      exact ⟨h0, by simp, ⟨.slice none 0 0, Box.new _ _ _, upd_same _ _ _, EntRow.nil _ _ _⟩, ShelfOk.nil⟩
  · rw [List.pairwise_append]
    exact ⟨h.st.apart, by simp, fun a ha b hb => by simp only [List.mem_singleton] at hb; subst hb; exact hπ a ha⟩
  · rcases List.mem_append.1 ho with ho | ho
    · exact h.apart o ho
    · simp only [List.mem_singleton] at ho
      subst ho
      exact h7
theorem setO_one (x : Int) (b b' : Nat) : setO [⟨x, b⟩] x b' = [⟨x, b'⟩] := by simp [setO, ownB]
theorem findO_one (x : Int) (b : Nat) : findO [⟨x, b⟩] x = some ⟨x, b⟩ := by simp [findO, ownB]
theorem setOb_trd {π π2 π3 : List Int} (h : π2 ≠ π) (h3 : π3 ≠ π) (b b2 b3 : Nat) (L L' L2 L3 : List Ent) (r r2 r3 : Bool) : setOb [⟨π2, b2, L2, r2⟩, ⟨π3, b3, L3, r3⟩, ⟨π, b, L, r⟩] π L' = [⟨π2, b2, L2, r2⟩, ⟨π3, b3, L3, r3⟩, ⟨π, b, L', r⟩] := by simp [setOb, h, h3]
theorem scanL_nil (f t : Int) : scanL f t [] = [] := by unfold scanL; simp

set_option maxHeartbeats 2000000 in
theorem wShadowSets0 (W : World) (p : Int) (hp : U32 p) (A : Option Addr) (n cap : Nat) (l : List Ent) (B : Option Addr) (m bcap : Nat) (r : List Ent) (hl : EntsAt W (· < W.heap.size) A n cap l) (hr : EntsAt W (· < W.heap.size) B m bcap r) :
    Calls Try.prog 4 #[.int .u32 p, .slice A n cap, .slice B m bcap] W fun e W' => e = .returned (.bool true) ∧ Below W.heap.size W W' := by
  by_cases hg : 20 < n ∨ 20 < m
  · by_cases h1 : 20 < n
    · have hd : ((20 : Int) < (n : Int)) := by omega
      go_enter Try.func4, Try.ntmps4
      go_wp2_with (go_at_call 9; go_loud ((with_reducible refine (awake10 _).mono ?_); rintro e w2 ⟨rfl, hb⟩))
      go_ret
      exact ⟨rfl, hb⟩
    · have h2 : 20 < m := hg.resolve_left h1
      have hd : ((20 : Int) < (m : Int)) := by omega
      have hd1 : ¬ ((20 : Int) < (n : Int)) := by omega
      go_enter Try.func4, Try.ntmps4
      go_wp2_with (go_at_call 9; go_loud ((with_reducible refine (awake10 _).mono ?_); rintro e w2 ⟨rfl, hb⟩))
      go_ret
      exact ⟨rfl, hb⟩
  · have hd1 : ¬ ((20 : Int) < (n : Int)) := by omega
    have hd2 : ¬ ((20 : Int) < (m : Int)) := by omega
    have S0 := Lib.hid (St.start (W := W) (rows := [⟨A, n, cap, l, none⟩, ⟨B, m, bcap, r, none⟩, ⟨none, 0, 0, [], none⟩]) (fun r hr' => by
      simp only [List.mem_cons, List.not_mem_nil, or_false] at hr'
      rcases hr' with rfl | rfl | rfl
      · exact ⟨rfl, hl⟩
      · exact ⟨rfl, hr⟩
      · exact ⟨rfl, EntsAt.none _ _⟩))
    have HP := Lib.hid hp
    obtain ⟨L1, e1⟩ : ∃ L, (joinF [] l).1 = L := ⟨_, rfl⟩
    obtain ⟨L2, e2⟩ : ∃ L, (joinF [] r).1 = L := ⟨_, rfl⟩
    obtain ⟨k2, e3⟩ : ∃ k, (joinF [] r).2 = k := ⟨_, rfl⟩
    obtain ⟨l0, e4⟩ : ∃ l0, scanL 4294967295 4294967295 L2 = l0 := ⟨_, rfl⟩
    obtain ⟨ne, e5⟩ : ∃ ne, decide (0 < L2.length) = ne := ⟨_, rfl⟩
    obtain ⟨k, e6⟩ : ∃ k, L2.length = k := ⟨_, rfl⟩
    have f1 : decide (0 < (k : Int)) = ne := by rw [← e5, e6]; simp
    have f2 : decide (0 < k) = ne := by rw [← e5, e6]
    have E1 := Lib.hid e1; have E2 := Lib.hid e2; have E3 := Lib.hid e3; have E4 := Lib.hid e4; have E5 := Lib.hid e5; have E6 := Lib.hid e6
    clear hl hr hp hg e1 e2 e3 e4 e5 e6
    go_enter Try.func4, Try.ntmps4
    go_upto_region 8 with (first
      | (go_at_call 10; go_loud ((with_reducible refine (sh_new S0.out (by simp)).mono ?_); rintro e w1 ⟨sb, rfl, hs, hb⟩; have SA := Lib.hid hs; clear hs hb))
      | (go_at_call 13; ((refine (sh_set [1] SA.out (by simp) (by simp) (by simp) HP.out (by simp) ⟨A, n, cap, l, none⟩ (by simp) rfl).mono ?_); rintro e w2 ⟨rfl, b1, hs⟩; rw [E1.out] at hs; have SB := Lib.hid (show SH W sb [⟨p, b1⟩] [⟨[1], b1, L1, false⟩] _ w2 from hs); clear hs SA))
      | (go_at_call 13; go_loud ((refine (sh_set [2] SB.out (by simp) (by simp) (by simp) HP.out (by simp) ⟨B, m, bcap, r, none⟩ (by simp) rfl).mono ?_); rintro e w3 ⟨rfl, b2, hs⟩; rw [E2.out, setO_one] at hs; have SC := Lib.hid (show SH W sb [⟨p, b2⟩] [⟨[1], b1, L1, false⟩, ⟨[2], b2, L2, false⟩] _ w3 from hs); have SD := Lib.hid (show SH W sb [⟨p, b2⟩] [⟨[1], b1, L1, false⟩, ⟨[2], b2, L2, false⟩, ⟨[11], w3.heap.size, [], true⟩] _ (w3.alloc (.cells #[.slice none 0 0] 29)) from sh_rnew [11] SC.out (by simp) (by simp) (by simp)); clear hs SB))
      | (go_at_call 14; go_loud ((refine (sh_rjoin (obs' := [⟨[1], b1, L1, false⟩, ⟨[2], b2, L2, false⟩, ⟨[11], w3.heap.size, L2, true⟩]) (n := k2) SD.out ⟨[11], w3.heap.size, [], true⟩ (by simp) rfl ⟨B, m, bcap, r, none⟩ (by simp) rfl (by rw [E2.out]; exact setOb_trd (by simp) (by simp) _ _ _ _ _ _ _ _ _ _) E3.out).mono ?_); rintro e w4 ⟨rfl, hs⟩; have SE := Lib.hid hs; clear hs SD SC)))
    generalize w3.heap.size = bx at *
    refine wp_abs (fun w => SH W sb [⟨p, b2⟩] [⟨[1], b1, L1, false⟩, ⟨[2], b2, L2, false⟩, ⟨[11], bx, L2, true⟩] [⟨A, n, cap, l, none⟩, ⟨B, m, bcap, r, none⟩, ⟨none, 0, 0, [], none⟩] w) SE.out ?_
    clear SE S0
    rintro wy hsy
    have SA := Lib.hid hsy
    have SA' := Lib.hid (hsy.later (Same.drew wy).1)
    obtain ⟨AZ, capZ, hbz⟩ := hsy.stt.refLen ⟨[11], bx, L2, true⟩ (by simp) rfl
    dsimp only at hbz
    rw [E6.out] at hbz
    have cz := hbz.cell; have zz := hbz.lt
    have S0 := Same.of (Below.refl wy.heap.size wy)
    clear hsy hbz
    cases ne
    case false =>
      go_region_held3 (fun w' => Same wy w') (with_reducible (first | assumption | exact Same.drew _)) (first
        | (go_simp; go_at_call 9; refine (awake10 _).mono ?_; rintro e9 w9 ⟨rfl, hb9⟩; have S1 := Same.step (show Same wy _ by (with_reducible (first | assumption | exact Same.drew _))) hb9; have SB := Lib.hid (SA'.out.later hb9); clear hb9)
        | (go_simp; go_at_call 16; refine (sh_of_old SB.out ⟨[2], b2, L2, false⟩ (by simp) rfl HP.out (findO_one _ _) E4.out).mono ?_; rintro e9 w9 ⟨A1, cap1, rfl, hs9, hb9⟩; have S1 := Same.step (show Same wy _ by (with_reducible (first | assumption | exact Same.drew _))) hb9; have SC := Lib.hid hs9; clear hs9 hb9)
        | (go_simp; go_at_call 17; refine (sh_all SC.out ⟨[11], bx, L2, true⟩ (by simp) rfl E4.out).mono ?_; rintro e9 w9 ⟨A2, cap2, rfl, hs9, hb9⟩; have S1 := Same.step (show Same wy _ by (with_reducible (first | assumption | exact Same.drew _))) hb9; have SD := Lib.hid hs9; clear hs9 hb9)
        | (go_simp; go_at_call 15; refine (st_same (bo := true) SD.out.stt ⟨A1, l0.length, cap1, l0, none⟩ ⟨A2, l0.length, cap2, l0, none⟩ (by simp) (by simp) rfl rfl (by simp)).mono ?_; rintro e9 w9 ⟨rfl, hb9⟩; have S1 := Same.step (show Same wy _ by (with_reducible (first | assumption | exact Same.drew _))) hb9; have SE := Lib.hid (SD.out.later hb9); clear hb9)
        | (go_simp; go_at_call 19; refine (sh_owners1 (ne := false) SE.out ⟨[2], b2, L2, false⟩ (by simp) rfl rfl HP.out E5.out).mono ?_; rintro e9 w9 ⟨A3, n3, cap3, rfl, hi9, hn9, hs9, hb9⟩; obtain rfl : n3 = 0 := hn9; have S1 := Same.step (show Same wy _ by (with_reducible (first | assumption | exact Same.drew _))) hb9; have SF := Lib.hid hs9; clear hi9 hb9 hs9))
      all_goals
        go_wp2_with (first
          | (go_at_call 13; go_loud ((refine (sh_set [3] SF.out (by simp) (by simp) (by simp) HP.out (by simp) ⟨none, 0, 0, [], none⟩ (by simp) rfl).mono ?_); rintro e w10 ⟨rfl, b3, hs⟩; rw [setO_one] at hs; have SG := Lib.hid (show SH W sb [⟨p, b3⟩] [⟨[1], b1, L1, false⟩, ⟨[2], b2, L2, false⟩, ⟨[11], bx, L2, true⟩, ⟨[3], b3, [], false⟩] _ w10 from hs); clear hs))
          | (go_at_call 19; go_loud ((refine (sh_owners1 (ne := false) SG.out ⟨[3], b3, [], false⟩ (by simp) rfl rfl HP.out rfl).mono ?_); rintro e w11 ⟨A4, n4, cap4, rfl, hi, hn, hs, hb⟩; obtain rfl : n4 = 0 := hn; have SI := Lib.hid hs; clear hs hb hi))
          | (go_at_call 16; go_loud ((refine (sh_of_old SI.out ⟨[3], b3, [], false⟩ (by simp) rfl HP.out (findO_one _ _) (scanL_nil _ _)).mono ?_); rintro e w12 ⟨A5, cap5, rfl, hs, hb⟩; have SJ := Lib.hid hs; simp only [List.length_nil]; clear hs hb))
          | (go_at_call 18; go_loud ((refine (sh_drop_old (n := 0) SJ.out ⟨[3], b3, [], false⟩ (by simp) rfl HP.out (findO_one _ _) rfl).mono ?_); rintro e w13 ⟨rfl, hs⟩; have SK := Lib.hid hs; clear hs)))
        go_ret
        exact ⟨by first | rfl | simp, SK.out.stt.end⟩
    case true =>
      go_region_held3 (fun w' => Same wy w') (with_reducible (first | assumption | exact Same.drew _)) (first
        | (go_simp; go_at_call 9; refine (awake10 _).mono ?_; rintro e9 w9 ⟨rfl, hb9⟩; have S1 := Same.step (show Same wy _ by (with_reducible (first | assumption | exact Same.drew _))) hb9; have SB := Lib.hid (SA'.out.later hb9); clear hb9)
        | (go_simp; go_at_call 16; refine (sh_of_old SB.out ⟨[2], b2, L2, false⟩ (by simp) rfl HP.out (findO_one _ _) E4.out).mono ?_; rintro e9 w9 ⟨A1, cap1, rfl, hs9, hb9⟩; have S1 := Same.step (show Same wy _ by (with_reducible (first | assumption | exact Same.drew _))) hb9; have SC := Lib.hid hs9; clear hs9 hb9)
        | (go_simp; go_at_call 17; refine (sh_all SC.out ⟨[11], bx, L2, true⟩ (by simp) rfl E4.out).mono ?_; rintro e9 w9 ⟨A2, cap2, rfl, hs9, hb9⟩; have S1 := Same.step (show Same wy _ by (with_reducible (first | assumption | exact Same.drew _))) hb9; have SD := Lib.hid hs9; clear hs9 hb9)
        | (go_simp; go_at_call 15; refine (st_same (bo := true) SD.out.stt ⟨A1, l0.length, cap1, l0, none⟩ ⟨A2, l0.length, cap2, l0, none⟩ (by simp) (by simp) rfl rfl (by simp)).mono ?_; rintro e9 w9 ⟨rfl, hb9⟩; have S1 := Same.step (show Same wy _ by (with_reducible (first | assumption | exact Same.drew _))) hb9; have SE := Lib.hid (SD.out.later hb9); clear hb9)
        | (go_simp; go_at_call 19; refine (sh_owners1 (ne := true) SE.out ⟨[2], b2, L2, false⟩ (by simp) rfl rfl HP.out E5.out).mono ?_; rintro e9 w9 ⟨A3, n3, cap3, rfl, hi9, hn9, hs9, hb9⟩; obtain rfl : n3 = 1 := hn9; have S1 := Same.step (show Same wy _ by (with_reducible (first | assumption | exact Same.drew _))) hb9; have SF := Lib.hid hs9; clear hi9 hb9 hs9))
      all_goals
        go_wp2_with (first
          | (go_at_call 13; go_loud ((refine (sh_set [3] SF.out (by simp) (by simp) (by simp) HP.out (by simp) ⟨none, 0, 0, [], none⟩ (by simp) rfl).mono ?_); rintro e w10 ⟨rfl, b3, hs⟩; rw [setO_one] at hs; have SG := Lib.hid (show SH W sb [⟨p, b3⟩] [⟨[1], b1, L1, false⟩, ⟨[2], b2, L2, false⟩, ⟨[11], bx, L2, true⟩, ⟨[3], b3, [], false⟩] _ w10 from hs); clear hs))
          | (go_at_call 19; go_loud ((refine (sh_owners1 (ne := false) SG.out ⟨[3], b3, [], false⟩ (by simp) rfl rfl HP.out rfl).mono ?_); rintro e w11 ⟨A4, n4, cap4, rfl, hi, hn, hs, hb⟩; obtain rfl : n4 = 0 := hn; have SI := Lib.hid hs; clear hs hb hi))
          | (go_at_call 16; go_loud ((refine (sh_of_old SI.out ⟨[3], b3, [], false⟩ (by simp) rfl HP.out (findO_one _ _) (scanL_nil _ _)).mono ?_); rintro e w12 ⟨A5, cap5, rfl, hs, hb⟩; have SJ := Lib.hid hs; simp only [List.length_nil]; clear hs hb))
          | (go_at_call 18; go_loud ((refine (sh_drop_old (n := 0) SJ.out ⟨[3], b3, [], false⟩ (by simp) rfl HP.out (findO_one _ _) rfl).mono ?_); rintro e w13 ⟨rfl, hs⟩; have SK := Lib.hid hs; clear hs)))
        go_ret
        exact ⟨by first | rfl | simp, SK.out.stt.end⟩
theorem wShadowSets (W : World) (vs : List Value) (h : Sh.Args W (· < W.heap.size) [((.int .u32), 22), ((.sl (.st (.pair (.int .u32) (.pair (.st (.pair (.int .u64) (.pair (.int .u64) (.pair (.sl (.int .u32) 4) .unit)))) (.pair .bool .unit)))) 56), 23), ((.sl (.st (.pair (.int .u32) (.pair (.st (.pair (.int .u64) (.pair (.int .u64) (.pair (.sl (.int .u32) 4) .unit)))) (.pair .bool .unit)))) 56), 23)] vs) :
    Calls Try.prog 4 vs.toArray W fun e W' => e = .returned (.bool true) ∧ Below W.heap.size W W' := by
  obtain ⟨_, _, rfl, ⟨b, hb⟩, _, _, rfl, ⟨a, ha⟩, _, _, rfl, ⟨d, hd⟩, rfl⟩ := h
  obtain ⟨n1, rfl, w1⟩ := int_open hb
  obtain ⟨A, n, cap, l, rfl, h1, h2, h3⟩ := ents_at ha
  obtain ⟨B, m, bcap, r, rfl, g1, g2, g3⟩ := ents_at hd
  exact wShadowSets0 W n1 (u32_of w1) A n cap l B m bcap r h3 g3
end Go.Proofs.Ytjcbmfopcohcmaa
