/- The walk of the law ShadowApart: it returns true. Conditions: none. -/
import Derived.Test.YtjcbmfopcohcmaaShadAll
namespace Go.Proofs.Ytjcbmfopcohcmaa
open Go.RowKit Go.ChangeShapes Go.Maps
set_option maxRecDepth 100000
set_option linter.unusedVariables false
set_option linter.unusedSimpArgs false

theorem sh_rnew {W w : World} {sb : Nat} {S : List OwnK} {obs : List Ob} {rows : List Rw} (π : List Int) (h : SH W sb S obs rows w) (h0 : π ≠ []) (h7 : π ≠ [7]) (hπ : ∀ o ∈ obs, o.π ≠ π) : SH W sb S (obs ++ [⟨π, w.heap.size, [], true⟩]) rows (w.alloc (.cells #[.slice none 0 0] 29)) := by
  obtain ⟨c, h⟩ := h
  have hb := below_a1 w (.cells #[.slice none 0 0] 29)
  have st0 : Stp (fun _ => False) c w c (w.alloc (.cells #[.slice none 0 0] 29)) := Stp.of_below _ h.st.stp.fresh hb
  have st := st0.paint (b := w.heap.size) (Nat.le_refl _) (by rw [size_alloc]; omega) π
  refine ⟨upd c w.heap.size π, ⟨h.st.stp.trans (st.mono fun _ h => h.elim), fun o ho => ?_, ?_, fun r hr => (h.st.reads r hr).step st id⟩, h.shad.step st id, h.len, fun o ho => ?_⟩
  · rcases List.mem_append.1 ho with ho | ho
    · exact ⟨(h.st.own o ho).1, (h.st.own o ho).2.1, (h.st.own o ho).2.2.step st id id⟩
    · simp only [List.mem_singleton] at ho
      subst ho
      exact ⟨h0, by simp, ⟨.slice none 0 0, Box.new _ _ _, upd_same _ _ _, EntRow.nil _ _ _⟩, ShelfOk.nil⟩
  · rw [List.pairwise_append]
    exact ⟨h.st.apart, by simp, fun a ha b hb => by simp only [List.mem_singleton] at hb; subst hb; exact hπ a ha⟩
  · rcases List.mem_append.1 ho with ho | ho
    · exact h.apart o ho
    · simp only [List.mem_singleton] at ho
      subst ho
      exact h7
theorem findO_one (x : Int) (b : Nat) : findO [⟨x, b⟩] x = some ⟨x, b⟩ := by simp [findO, ownB]
theorem findO_not {x y : Int} (h : (x == y) = false) (b : Nat) : findO [⟨y, b⟩] x = none := by
  have : ¬ y = x := fun e => by rw [e] at h; simp at h
  simp [findO, ownB, this]
theorem findO_fst (x y : Int) (b b' : Nat) : findO [⟨x, b⟩, ⟨y, b'⟩] x = some ⟨x, b⟩ := by simp [findO, ownB]
theorem findO_snd {x y : Int} (h : (x == y) = false) (b b' : Nat) : findO [⟨x, b⟩, ⟨y, b'⟩] y = some ⟨y, b'⟩ := by
  have : ¬ x = y := fun e => by rw [e] at h; simp at h
  simp [findO, ownB, this]
theorem setO_add {x y : Int} (h : (x == y) = false) (b b' : Nat) : setO [⟨x, b⟩] y b' = [⟨x, b⟩, ⟨y, b'⟩] := by
  simp [setO, ownB, h]
theorem dropO_two {x y : Int} (h : (x == y) = false) (b b' : Nat) : dropO [⟨x, b⟩, ⟨y, b'⟩] x = [⟨y, b'⟩] := by
  have : ¬ y = x := fun e => by rw [e] at h; simp at h
  simp [dropO, ownB, this]
theorem dropO_one {x y : Int} (h : (x == y) = false) (b' : Nat) : dropO [⟨y, b'⟩] x = [⟨y, b'⟩] := by
  have : ¬ y = x := fun e => by rw [e] at h; simp at h
  simp [dropO, ownB, this]
theorem scanL_nil (f t : Int) : scanL f t [] = [] := by unfold scanL; simp

set_option maxHeartbeats 4000000 in
theorem wShadowApart0 (W : World) (p q : Int) (hp : U32 p) (hq : U32 q) (A : Option Addr) (n cap : Nat) (l : List Ent) (B : Option Addr) (m bcap : Nat) (r : List Ent) (hl : EntsAt W (· < W.heap.size) A n cap l) (hr : EntsAt W (· < W.heap.size) B m bcap r) :
    Calls Try.prog 3 #[.int .u32 p, .int .u32 q, .slice A n cap, .slice B m bcap] W fun e W' => e = .returned (.bool true) ∧ Below W.heap.size W W' := by
  by_cases hpq : (p == q) = true
  · go_enter Try.func3, Try.ntmps3
    go_wp2_with (go_at_call 9; go_loud ((with_reducible refine (awake10 _).mono ?_); rintro e w2 ⟨rfl, hb⟩))
    go_ret
    exact ⟨rfl, hb⟩
  rw [Bool.not_eq_true] at hpq
  by_cases hg : 20 < n ∨ 20 < m
  · by_cases h1 : 20 < n
    · have hd : ((20 : Int) < (n : Int)) := by omega
      go_enter Try.func3, Try.ntmps3
      go_wp2_with (go_at_call 9; go_loud ((with_reducible refine (awake10 _).mono ?_); rintro e w2 ⟨rfl, hb⟩))
      go_ret
      exact ⟨rfl, hb⟩
    · have h2 : 20 < m := hg.resolve_left h1
      have hd : ((20 : Int) < (m : Int)) := by omega
      have hd1 : ¬ ((20 : Int) < (n : Int)) := by omega
      go_enter Try.func3, Try.ntmps3
      go_wp2_with (go_at_call 9; go_loud ((with_reducible refine (awake10 _).mono ?_); rintro e w2 ⟨rfl, hb⟩))
      go_ret
      exact ⟨rfl, hb⟩
  · have hd1 : ¬ ((20 : Int) < (n : Int)) := by omega
    have hd2 : ¬ ((20 : Int) < (m : Int)) := by omega
    have hn20 : n ≤ 20 := by omega
    have S0 := Lib.hid (St.start (W := W) (rows := [⟨A, n, cap, l, none⟩, ⟨B, m, bcap, r, none⟩, ⟨none, 0, 0, [], none⟩]) (fun r hr' => by
      simp only [List.mem_cons, List.not_mem_nil, or_false] at hr'
      rcases hr' with rfl | rfl | rfl
      · exact ⟨rfl, hl⟩
      · exact ⟨rfl, hr⟩
      · exact ⟨rfl, EntsAt.none _ _⟩))
    have HP := Lib.hid hp; have HQ := Lib.hid hq; have HPQ := Lib.hid hpq
    have HL := Lib.hid hl
    obtain ⟨M, e2⟩ : ∃ L, (joinF [] r).1 = L := ⟨_, rfl⟩
    obtain ⟨k2, e3⟩ : ∃ k, (joinF [] r).2 = k := ⟨_, rfl⟩
    obtain ⟨m0, e4⟩ : ∃ l0, scanL 4294967295 4294967295 M = l0 := ⟨_, rfl⟩
    have E2 := Lib.hid e2; have E3 := Lib.hid e3; have E4 := Lib.hid e4
    have HN := Lib.hid hl.1
    clear hl hr hp hq hg e2 e3 e4
    go_enter Try.func3, Try.ntmps3
    go_upto_region 5 with (first
      | (go_at_call 10; go_loud ((with_reducible refine (sh_new S0.out (by simp)).mono ?_); rintro e w1 ⟨sb, rfl, hs, hb⟩; have SA := Lib.hid hs; clear hs hb)))
    have SB := Lib.hid (sh_rnew [11] SA.out (by simp) (by simp) (by simp))
    have SC := Lib.hid (sh_rnew [12] SB.out (by simp) (by simp) (by simp))
    rw [size_alloc] at SC
    refine wp_abs (fun w => SH W sb [] [⟨[11], w1.heap.size, [], true⟩, ⟨[12], w1.heap.size + 1, [], true⟩] [⟨A, n, cap, l, none⟩, ⟨B, m, bcap, r, none⟩, ⟨none, 0, 0, [], none⟩] w) SC.out ?_
    clear SA SB SC S0
    generalize w1.heap.size + 1 = by'
    generalize w1.heap.size = bx
    rintro wy hsy
    have SA := Lib.hid hsy
    clear hsy
    go_wp2
    go_loopw [12] (fun s wr => ∃ k : Nat, k ≤ n ∧ s = .int .i64 k ∧ (k = 0 ∧ SH W sb [] [⟨[11], bx, [], true⟩, ⟨[12], by', [], true⟩] [⟨A, n, cap, l, none⟩, ⟨B, m, bcap, r, none⟩, ⟨none, 0, 0, [], none⟩] wr ∨
      0 < k ∧ ∃ ba, SH W sb [⟨p, ba⟩] [⟨[11], bx, (joinF [] (l.take k)).1, true⟩, ⟨[12], by', [], true⟩, ⟨[1], ba, (joinF [] (l.take k)).1, false⟩] [⟨A, n, cap, l, none⟩, ⟨B, m, bcap, r, none⟩, ⟨none, 0, 0, [], none⟩] wr)) (fun i _ => n - (intOf i).toNat)
    case atStart => exact ⟨0, by omega, rfl, .inl ⟨rfl, SA.out⟩⟩
    case round =>
      obtain ⟨k, hk, rfl, hst⟩ := hrel
      by_cases hlt : k < n
      · obtain ⟨e, he⟩ : ∃ e, l[k]? = some e := ⟨_, List.getElem?_eq_getElem (by rw [HN.out]; exact hlt)⟩
        have HT := Lib.hid (show (joinF [] (l.take (k + 1))).1 = (putF (joinF [] (l.take k)).1 e).1 by rw [show l.take (k + 1) = l.take k ++ [e] by rw [List.take_add_one, he]; rfl, joinF_snoc])
        obtain ⟨bb, off, rfl, hb, hc⟩ := HL.out.2.2 (by omega)
        obtain ⟨cc, hcell, hent⟩ := hc k e he
        have HE := Lib.hid (show OldE W cc e from hent)
        have HC := Lib.hid (fun (w' : World) (hB : Below W.heap.size W w') t u (hu : (encE cc)[t]? = some u) => ((hB.cell (p := ⟨bb, off + k * 5 + t, none⟩) hb).trans (hcell t u hu)))
        clear hc hcell hent he
        rcases hst with ⟨rfl, hs⟩ | ⟨hk0, ba, hs⟩
        · have hB := hs.stt.end
          have d0 := HC.out wr hB 0 _ rfl; have d1 := HC.out wr hB 1 _ rfl; have d2 := HC.out wr hB 2 _ rfl; have d3 := HC.out wr hB 3 _ rfl; have d4 := HC.out wr hB 4 _ rfl
          simp only [Nat.add_zero] at d0
          have SR := Lib.hid hs
          clear hs hB
          go_wp2_with (first
            | (go_at_call 11; go_loud ((refine (sh_put_new (m := cc) (e := e) (x := p) [1] SR.out (by simp) (by simp) (by simp) HP.out rfl (by simp) HE.out).mono ?_); rintro e2 w2 ⟨rfl, ba, hs⟩; have SB := Lib.hid (show SH W sb [⟨p, ba⟩] [⟨[11], bx, [], true⟩, ⟨[12], by', [], true⟩, ⟨[1], ba, [e], false⟩] _ w2 from hs); have hB := hs.stt.end; have d0 := HC.out w2 hB 0 _ rfl; have d1 := HC.out w2 hB 1 _ rfl; have d2 := HC.out w2 hB 2 _ rfl; have d3 := HC.out w2 hB 3 _ rfl; have d4 := HC.out w2 hB 4 _ rfl; simp only [Nat.add_zero] at d0; clear hs hB))
            | (go_at_call 12; go_loud ((refine (sh_rput (m := cc) (e := e) (obs' := [⟨[11], bx, [e], true⟩, ⟨[12], by', [], true⟩, ⟨[1], ba, [e], false⟩]) SB.out ⟨[11], bx, [], true⟩ (by simp) rfl HE.out (by simp [setOb]; rfl) rfl rfl).mono ?_); rintro e3 w3 ⟨rfl, hs⟩; have SC := Lib.hid hs; clear hs)))
          go_roundw
          case rel => exact ⟨1, by omega, by go_num, .inr ⟨by omega, ba, by rw [HT.out]; exact SC.out⟩⟩
          case measure => simp [intOf]; omega
        · have hB := hs.stt.end
          have d0 := HC.out wr hB 0 _ rfl; have d1 := HC.out wr hB 1 _ rfl; have d2 := HC.out wr hB 2 _ rfl; have d3 := HC.out wr hB 3 _ rfl; have d4 := HC.out wr hB 4 _ rfl
          simp only [Nat.add_zero] at d0
          have SR := Lib.hid hs
          obtain ⟨L, hL⟩ : ∃ L, (joinF [] (l.take k)).1 = L := ⟨_, rfl⟩
          obtain ⟨L', hL'⟩ : ∃ L', (putF L e).1 = L' := ⟨_, rfl⟩
          rw [hL] at SR HT
          have H2 := Lib.hid hL'
          clear hs hB hL hL'
          go_wp2_with (first
            | (go_at_call 11; go_loud ((refine (sh_put_old (m := cc) (e := e) (x := p) (obs' := [⟨[11], bx, L, true⟩, ⟨[12], by', [], true⟩, ⟨[1], ba, L', false⟩]) SR.out ⟨[1], ba, L, false⟩ (by simp) rfl HP.out (findO_one _ _) HE.out (by rw [H2.out]; simp [setOb]) rfl rfl).mono ?_); rintro e2 w2 ⟨rfl, hs⟩; have SB := Lib.hid hs; have hB := hs.stt.end; have d0 := HC.out w2 hB 0 _ rfl; have d1 := HC.out w2 hB 1 _ rfl; have d2 := HC.out w2 hB 2 _ rfl; have d3 := HC.out w2 hB 3 _ rfl; have d4 := HC.out w2 hB 4 _ rfl; simp only [Nat.add_zero] at d0; clear hs hB))
            | (go_at_call 12; go_loud ((refine (sh_rput (m := cc) (e := e) (obs' := [⟨[11], bx, L', true⟩, ⟨[12], by', [], true⟩, ⟨[1], ba, L', false⟩]) SB.out ⟨[11], bx, L, true⟩ (by simp) rfl HE.out (by rw [H2.out]; simp [setOb]) rfl rfl).mono ?_); rintro e3 w3 ⟨rfl, hs⟩; have SC := Lib.hid hs; clear hs)))
          go_roundw
          case rel => exact ⟨k + 1, by omega, by go_num, .inr ⟨by omega, ba, by rw [HT.out, H2.out]; exact SC.out⟩⟩
          case measure => simp [intOf]; omega
      · obtain rfl : k = n := by omega
        have hTT : l.take k = l := List.take_of_length_le (by rw [HN.out]; exact Nat.le_refl _)
        rcases hst with ⟨rfl, hs⟩ | ⟨hk0, ba, hs⟩
        · have SR := Lib.hid hs
          clear hs HL hTT HN
          go_wp2_with (first
            | (go_at_call 13; go_loud ((refine (sh_set [2] SR.out (by simp) (by simp) (by simp) HQ.out (by simp) ⟨B, m, bcap, r, none⟩ (by simp) rfl).mono ?_); rintro e w2 ⟨rfl, b2, hs⟩; rw [E2.out] at hs; have SA := Lib.hid (show SH W sb [⟨q, b2⟩] [⟨[11], bx, [], true⟩, ⟨[12], by', [], true⟩, ⟨[2], b2, M, false⟩] _ w2 from hs); clear hs))
            | (go_at_call 14; go_loud ((refine (sh_rjoin (obs' := [⟨[11], bx, [], true⟩, ⟨[12], by', M, true⟩, ⟨[2], b2, M, false⟩]) (n := k2) SA.out ⟨[12], by', [], true⟩ (by simp) rfl ⟨B, m, bcap, r, none⟩ (by simp) rfl (by rw [E2.out]; simp [setOb]) E3.out).mono ?_); rintro e w4 ⟨rfl, hs⟩; have SB := Lib.hid hs; clear hs))
            | (go_at_call 9; go_loud ((with_reducible refine (awake10 _).mono ?_); rintro e9 w9 ⟨rfl, hb9⟩; have SC := Lib.hid (SB.out.later hb9); clear hb9))
            | (go_at_call 16; ((refine (sh_of_old SH7.out ⟨[2], b2, M, false⟩ (by simp) rfl HQ.out (findO_one _ _) E4.out).mono ?_); rintro e9 w9 ⟨A8, cap8, rfl, hs9, hb9⟩; have SI8 := Lib.hid hs9; clear hs9 hb9 SH7))
            | (go_at_call 16; ((refine (sh_of_new SH6.out HP.out (findO_not HPQ.out _)).mono ?_); rintro e9 w9 ⟨rfl, hs9, hb9⟩; have SH7 := Lib.hid hs9; clear hs9 hb9 SH6))
            | (go_at_call 16; ((refine (sh_of_old SF.out ⟨[2], b2, M, false⟩ (by simp) rfl HQ.out (findO_one _ _) E4.out).mono ?_); rintro e9 w9 ⟨A3, cap3, rfl, hs9, hb9⟩; have SG := Lib.hid hs9; clear hs9 hb9 SF))
            | (go_at_call 16; ((refine (sh_of_new SC.out HP.out (findO_not HPQ.out _)).mono ?_); rintro e9 w9 ⟨rfl, hs9, hb9⟩; have SD := Lib.hid hs9; clear hs9 hb9 SC))
            | (go_at_call 17; ((refine (sh_all SI8.out ⟨[12], by', M, true⟩ (by simp) rfl E4.out).mono ?_); rintro e9 w9 ⟨A9, cap9, rfl, hs9, hb9⟩; have SJ := Lib.hid hs9; clear hs9 hb9 SI8))
            | (go_at_call 17; ((refine (sh_all SG.out ⟨[12], by', M, true⟩ (by simp) rfl E4.out).mono ?_); rintro e9 w9 ⟨A4, cap4, rfl, hs9, hb9⟩; have SH5 := Lib.hid hs9; clear hs9 hb9 SG))
            | (go_at_call 17; ((refine (sh_all SD.out ⟨[11], bx, [], true⟩ (by simp) rfl (scanL_nil _ _)).mono ?_); rintro e9 w9 ⟨A2, cap2, rfl, hs9, hb9⟩; have SE := Lib.hid hs9; clear hs9 hb9 SD))
            | (go_at_call 15; ((refine (st_same (bo := true) SJ.out.stt ⟨A8, m0.length, cap8, m0, none⟩ ⟨A9, m0.length, cap9, m0, none⟩ (by simp) (by simp) rfl rfl (by simp)).mono ?_); rintro e9 w9 ⟨rfl, hb9⟩; have SK := Lib.hid (SJ.out.later hb9); clear hb9 SJ))
            | (go_at_call 15; ((refine (st_same (bo := true) SH5.out.stt ⟨A3, m0.length, cap3, m0, none⟩ ⟨A4, m0.length, cap4, m0, none⟩ (by simp) (by simp) rfl rfl (by simp)).mono ?_); rintro e9 w9 ⟨rfl, hb9⟩; have SL := Lib.hid (SH5.out.later hb9); clear hb9 SH5))
            | (go_at_call 15; ((refine (st_same (bo := true) SE.out.stt ⟨none, 0, 0, [], none⟩ ⟨A2, 0, cap2, [], none⟩ (by simp) (by simp) rfl rfl (by simp)).mono ?_); rintro e9 w9 ⟨rfl, hb9⟩; have SF := Lib.hid (SE.out.later hb9); clear hb9 SE))
            | (go_at_call 18; go_loud ((refine (sh_drop_new SL.out HP.out (findO_not HPQ.out _)).mono ?_); rintro e w13 ⟨rfl, hs⟩; rw [dropO_one HPQ.out] at hs; have SH6 := Lib.hid hs; obtain ⟨AZ, capZ, hbz⟩ := hs.stt.refLen ⟨[11], bx, [], true⟩ (by simp) rfl; simp only [List.length_nil] at hbz; have cz := hbz.cell; have zz := hbz.lt; clear hs hbz SL)))
          go_ret
          exact ⟨by first | rfl | simp, SK.out.stt.end⟩
        · have SR := Lib.hid hs
          obtain ⟨L, hL⟩ : ∃ L, (joinF [] l).1 = L := ⟨_, rfl⟩
          rw [hTT, hL] at SR
          obtain ⟨l0, e5⟩ : ∃ l0, scanL 4294967295 4294967295 L = l0 := ⟨_, rfl⟩
          obtain ⟨kl, e6⟩ : ∃ k, L.length = k := ⟨_, rfl⟩
          have E5 := Lib.hid e5; have E6 := Lib.hid e6
          clear hs HL hTT hL HN e5 e6
          go_wp2_with (first
            | (go_at_call 13; go_loud ((refine (sh_set [2] SR.out (by simp) (by simp) (by simp) HQ.out (by simp) ⟨B, m, bcap, r, none⟩ (by simp) rfl).mono ?_); rintro e w2 ⟨rfl, b2, hs⟩; rw [E2.out, setO_add HPQ.out] at hs; have SA := Lib.hid (show SH W sb [⟨p, ba⟩, ⟨q, b2⟩] [⟨[11], bx, L, true⟩, ⟨[12], by', [], true⟩, ⟨[1], ba, L, false⟩, ⟨[2], b2, M, false⟩] _ w2 from hs); clear hs))
            | (go_at_call 14; go_loud ((refine (sh_rjoin (obs' := [⟨[11], bx, L, true⟩, ⟨[12], by', M, true⟩, ⟨[1], ba, L, false⟩, ⟨[2], b2, M, false⟩]) (n := k2) SA.out ⟨[12], by', [], true⟩ (by simp) rfl ⟨B, m, bcap, r, none⟩ (by simp) rfl (by rw [E2.out]; simp [setOb]) E3.out).mono ?_); rintro e w4 ⟨rfl, hs⟩; have SB := Lib.hid hs; clear hs))
            | (go_at_call 9; go_loud ((with_reducible refine (awake10 _).mono ?_); rintro e9 w9 ⟨rfl, hb9⟩; have SC := Lib.hid (SB.out.later hb9); clear hb9))
            | (go_at_call 16; ((refine (sh_of_old SH7.out ⟨[2], b2, M, false⟩ (by simp) rfl HQ.out (findO_one _ _) E4.out).mono ?_); rintro e9 w9 ⟨A8, cap8, rfl, hs9, hb9⟩; have SI8 := Lib.hid hs9; clear hs9 hb9 SH7))
            | (go_at_call 16; ((refine (sh_of_new SH6.out HP.out (findO_not HPQ.out _)).mono ?_); rintro e9 w9 ⟨rfl, hs9, hb9⟩; have SH7 := Lib.hid hs9; clear hs9 hb9 SH6))
            | (go_at_call 16; ((refine (sh_of_old SF.out ⟨[2], b2, M, false⟩ (by simp) rfl HQ.out (findO_snd HPQ.out _ _) E4.out).mono ?_); rintro e9 w9 ⟨A3, cap3, rfl, hs9, hb9⟩; have SG := Lib.hid hs9; clear hs9 hb9 SF))
            | (go_at_call 16; ((refine (sh_of_old SC.out ⟨[1], ba, L, false⟩ (by simp) rfl HP.out (findO_fst _ _ _ _) E5.out).mono ?_); rintro e9 w9 ⟨A1, cap1, rfl, hs9, hb9⟩; have SD := Lib.hid hs9; clear hs9 hb9 SC))
            | (go_at_call 17; ((refine (sh_all SI8.out ⟨[12], by', M, true⟩ (by simp) rfl E4.out).mono ?_); rintro e9 w9 ⟨A9, cap9, rfl, hs9, hb9⟩; have SJ := Lib.hid hs9; clear hs9 hb9 SI8))
            | (go_at_call 17; ((refine (sh_all SG.out ⟨[12], by', M, true⟩ (by simp) rfl E4.out).mono ?_); rintro e9 w9 ⟨A4, cap4, rfl, hs9, hb9⟩; have SH5 := Lib.hid hs9; clear hs9 hb9 SG))
            | (go_at_call 17; ((refine (sh_all SD.out ⟨[11], bx, L, true⟩ (by simp) rfl E5.out).mono ?_); rintro e9 w9 ⟨A2, cap2, rfl, hs9, hb9⟩; have SE := Lib.hid hs9; clear hs9 hb9 SD))
            | (go_at_call 15; ((refine (st_same (bo := true) SJ.out.stt ⟨A8, m0.length, cap8, m0, none⟩ ⟨A9, m0.length, cap9, m0, none⟩ (by simp) (by simp) rfl rfl (by simp)).mono ?_); rintro e9 w9 ⟨rfl, hb9⟩; have SK := Lib.hid (SJ.out.later hb9); clear hb9 SJ))
            | (go_at_call 15; ((refine (st_same (bo := true) SH5.out.stt ⟨A3, m0.length, cap3, m0, none⟩ ⟨A4, m0.length, cap4, m0, none⟩ (by simp) (by simp) rfl rfl (by simp)).mono ?_); rintro e9 w9 ⟨rfl, hb9⟩; have SL := Lib.hid (SH5.out.later hb9); clear hb9 SH5))
            | (go_at_call 15; ((refine (st_same (bo := true) SE.out.stt ⟨A1, l0.length, cap1, l0, none⟩ ⟨A2, l0.length, cap2, l0, none⟩ (by simp) (by simp) rfl rfl (by simp)).mono ?_); rintro e9 w9 ⟨rfl, hb9⟩; have SF := Lib.hid (SE.out.later hb9); clear hb9 SE))
            | (go_at_call 18; go_loud ((refine (sh_drop_old (n := kl) SL.out ⟨[1], ba, L, false⟩ (by simp) rfl HP.out (findO_fst _ _ _ _) E6.out).mono ?_); rintro e w13 ⟨rfl, hs⟩; rw [dropO_two HPQ.out] at hs; have SH6 := Lib.hid hs; obtain ⟨AZ, capZ, hbz⟩ := hs.stt.refLen ⟨[11], bx, L, true⟩ (by simp) rfl; dsimp only at hbz; rw [E6.out] at hbz; have cz := hbz.cell; have zz := hbz.lt; clear hs hbz SL)))
          go_ret
          exact ⟨by first | rfl | simp, SK.out.stt.end⟩

theorem wShadowApart (W : World) (vs : List Value) (h : Sh.Args W (· < W.heap.size) [((.int .u32), 22), ((.int .u32), 22), ((.sl (.st (.pair (.int .u32) (.pair (.st (.pair (.int .u64) (.pair (.int .u64) (.pair (.sl (.int .u32) 4) .unit)))) (.pair .bool .unit)))) 56), 23), ((.sl (.st (.pair (.int .u32) (.pair (.st (.pair (.int .u64) (.pair (.int .u64) (.pair (.sl (.int .u32) 4) .unit)))) (.pair .bool .unit)))) 56), 23)] vs) :
    Calls Try.prog 3 vs.toArray W fun e W' => e = .returned (.bool true) ∧ Below W.heap.size W W' := by
  obtain ⟨_, _, rfl, ⟨b, hb⟩, _, _, rfl, ⟨b', hb'⟩, _, _, rfl, ⟨a, ha⟩, _, _, rfl, ⟨d, hd⟩, rfl⟩ := h
  obtain ⟨n1, rfl, w1⟩ := int_open hb
  obtain ⟨n2, rfl, w2⟩ := int_open hb'
  obtain ⟨A, n, cap, l, rfl, h1, h2, h3⟩ := ents_at ha
  obtain ⟨B, m, bcap, r, rfl, g1, g2, g3⟩ := ents_at hd
  exact wShadowApart0 W n1 n2 (u32_of w1) (u32_of w2) A n cap l B m bcap r h3 g3
end Go.Proofs.Ytjcbmfopcohcmaa
