/- The walk of the law PoolOrder: it returns true. Conditions: none. -/
import Derived.Test.YtjniholnmjafeaaPoolMore
import Derived.Test.YtjniholnmjafeaaMsgRows
import Derived.Test.YtjniholnmjafeaaRec
namespace Go.Proofs.Ytjniholnmjafeaa
open Go.RowKit Go.ChangeShapes
set_option maxRecDepth 100000
set_option linter.unusedVariables false

/-- Where the pool lies, in a world that has come of W. -/
def InPool (W : World) (b : Nat) (l : List (List Int)) (w : World) : Prop := ∃ c, Stp (· = [1]) (fun _ => []) W c w ∧ PoolR c [1] w b l
theorem InPool.below {W : World} {b : Nat} {l : List (List Int)} {w : World} (h : InPool W b l w) : Below W.heap.size W w := by
  obtain ⟨c, s, _⟩ := h
  exact s.below (Nat.le_refl _) (fun k hk h => by cases h)
theorem InPool.to {W : World} {b : Nat} {l' : List (List Int)} {w w' : World} {c : Col} (s : Stp (· = [1]) (fun _ => []) W c w) (h : PoolTo [1] b l' c w w') : InPool W b l' w' := by
  obtain ⟨c', s', p⟩ := h
  exact ⟨c', s.trans s', p⟩
theorem InPool.later {W : World} {b : Nat} {l : List (List Int)} {w w' : World} (h : InPool W b l w) (hb : Below w.heap.size w w') : InPool W b l w' := by
  obtain ⟨c, s, p⟩ := h
  exact ⟨c, s.trans (Stp.of_below _ s.fresh hb), p.later s.fresh hb⟩

/-- What is left where i of n have been looked at, k having gone first. -/
def leftF (l : List (List Int)) (n k i : Nat) : List (List Int) := ((l.take n).eraseIdx k).drop (if i ≤ k then i else i - 1)
theorem leftF_zero (l : List (List Int)) (n k : Nat) : leftF l n k 0 = (l.take n).eraseIdx k := by simp [leftF]
theorem leftF_eq (l : List (List Int)) (n k : Nat) : leftF l n k (k + 1) = leftF l n k k := by unfold leftF; rw [if_neg (by omega), if_pos (Nat.le_refl _)]; rfl
theorem leftF_step (l : List (List Int)) (n k i : Nat) (h : i ≠ k) : (leftF l n k i).eraseIdx 0 = leftF l n k (i + 1) := by
  unfold leftF
  rw [List.eraseIdx_zero, List.tail_drop]
  congr 1
  split <;> split <;> omega
theorem leftF_head (l : List (List Int)) (n k i : Nat) (h : i ≠ k) (hi : i < n) (hn : n ≤ l.length) : (leftF l n k i)[0]? = some (l.getD i []) := by
  unfold leftF
  rw [List.getElem?_drop, Nat.add_zero]
  have hg : ∀ j, j < n → (l.take n)[j]? = some (l.getD j []) := fun j hj => by
    rw [List.getElem?_take_of_lt hj, List.getD_eq_getElem?_getD, List.getElem?_eq_getElem (by omega)]; rfl
  split
  · rw [List.getElem?_eraseIdx_of_lt (by omega)]; exact hg i hi
  · rw [List.getElem?_eraseIdx_of_ge (by omega), show i - 1 + 1 = i by omega]; exact hg i hi
theorem leftF_len (l : List (List Int)) (n k : Nat) (hk : k < n) (hn : n ≤ l.length) : (leftF l n k n).length = 0 ∧ (leftF l n k 0).length = n - 1 := by
  unfold leftF
  have : ((l.take n).eraseIdx k).length = n - 1 := by rw [List.length_eraseIdx_of_lt (by simp; omega)]; simp; omega
  rw [List.length_drop, List.length_drop, this]
  constructor
  · rw [if_neg (by omega)]; omega
  · simp
attribute [irreducible] leftF

set_option maxHeartbeats 2000000 in
theorem wPoolOrder0 (W : World) (A : Option Addr) (n cap : Nat) (ls : List (List Int)) (a : Int) (hi : Rows W (· < W.heap.size) .u8 1 A n cap ls) (ha : -9223372036854775808 ≤ a ∧ a ≤ 9223372036854775807) :
    Calls Try.prog 9 #[.slice A n cap, .int .i64 a] W fun e W' => e = .returned (.bool true) ∧ Below W.heap.size W W' := by
  have hf0 : Fresh (fun _ => []) W := fun k hk => rfl
  have hl := hi.1
  have h4 := hi.2.2.2.1
  have hn : n ≤ 140737488351232 := by omega
  have HI := Lib.hid hi; clear hi h4
  have H0 := Lib.hid hf0; clear hf0
  have HL := Lib.hid hl; clear hl
  obtain ⟨ha1, ha2⟩ := ha
  go_enter Try.func9, Try.ntmps9
  go_wp2_with (first
    | (go_at_call 36; (with_reducible refine (pool_new [1] _ H0.out).mono ?_); rintro e w1 ⟨rfl, p1⟩; have P1 := Lib.hid (show InPool W W.heap.size [] w1 from p1); clear p1)
    | (go_at_call 35; (with_reducible refine (awake08 _).mono ?_); rintro e w2 ⟨rfl, hb2⟩; have P2 := Lib.hid (P1.out.later hb2); clear hb2))
  go_loopw [6, 7] (fun m i wr => ∃ k : Nat, m = .int .i64 (k : Int) ∧ i = .int .i64 (k : Int) ∧ k ≤ n ∧ k ≤ 30 ∧ InPool W W.heap.size (ls.take k) wr) (fun m i _ => 30 - (intOf i).toNat)
  case atStart => exact ⟨0, rfl, rfl, by omega, by omega, P2.out⟩
  case round =>
    obtain ⟨k, rfl, rfl, hkn, hk30, hp⟩ := hrel
    have P := Lib.hid hp
    by_cases hlt : k < n ∧ k < 30
    · obtain ⟨hlt, hlt30⟩ := hlt
      obtain ⟨b0, off, rfl, hb0, hcc⟩ := HI.out.2.2.2.2.2 (by omega)
      obtain ⟨A', n', c', cc, hik⟩ := hcc k hlt
      have cw := (hp.below.cell (p := ⟨b0, off + k, none⟩) hb0).trans cc
      have hn' : n' ≤ 140737488351232 := by have := hik.2.2.2.1; omega
      have HK := Lib.hid hik; clear hik hcc hb0 cc
      by_cases h50 : 50 < n'
      · go_wp2_with fail
        go_ret
        exact ⟨rfl, P.out.below⟩
      · obtain ⟨c1, s1, p1⟩ := hp
        have HS1 := Lib.hid s1; have HP1 := Lib.hid p1; clear p1
        have D1 := Lib.hid (show DInts c1 wr .u8 1 (.slice A' n' c') (ls.getD k []) from ⟨_, _, _, rfl, HK.out.move fun b hb hlt => ⟨s1.only.block b hb (fun h => by cases h), s1.col b hb, Nat.lt_of_lt_of_le hb s1.only.size⟩⟩)
        have hle : (ls.take k).length < 5000 := by simp; omega
        have hap : ls.take k ++ [ls.getD k []] = ls.take (k + 1) := by
          rw [List.take_succ_eq_append_getElem (by have := HL.out; omega), List.getD_eq_getElem?_getD, List.getElem?_eq_getElem (by have := HL.out; omega)]; rfl
        clear s1
        go_wp2_with (go_at_call 37; (with_reducible refine (pool_push HP1.out D1.out HS1.out.fresh hle (by decide)).mono ?_); rintro e w2 ⟨rfl, p2⟩; rw [hap] at p2; have P2' := Lib.hid (InPool.to HS1.out p2); clear p2)
        go_roundw
        case rel => exact ⟨k + 1, by go_num, by go_num, by omega, by omega, P2'.out⟩
        case measure => simp [intOf]; omega
    · have hke : k = min n 30 := by omega
      have hkl : k ≤ ls.length := by rw [HL.out]; exact hkn
      clear hke
      by_cases h0 : k = 0
      · subst h0
        obtain ⟨c1, s1, p1⟩ := hp
        have hn0 : n = 0 := by omega
        subst hn0
        have PN := Lib.hid (pool_take_none 0 p1 (by omega) (by simp))
        clear s1 p1
        go_wp2_with (go_at_call 40; (with_reducible refine PN.out.mono ?_); rintro e w2 ⟨rfl, rfl⟩)
        go_ret
        exact ⟨rfl, P.out.below⟩
      · have hk0 : ((k : Int) == 0) = false := by rw [beq_eq_false_iff_ne]; omega
        have hmod := uint_mod a k (by omega) (by omega)
        obtain ⟨j, hj⟩ : ∃ j : Nat, a % 18446744073709551616 % (k : Int) = (j : Int) := ⟨(a % 18446744073709551616 % (k : Int)).toNat, by have := Int.emod_nonneg (a % 18446744073709551616) (show (k : Int) ≠ 0 by omega); omega⟩
        have hjk : j < k := by have := Int.emod_lt_of_pos (a % 18446744073709551616) (show (0 : Int) < k by omega); omega
        rw [hj] at hmod
        have hlt : ¬ (k < n ∧ k < 30) := hlt
        have hdec : (decide ((k : Int) < n) && decide ((k : Int) < 30)) = false := by simp; omega
        have hlen : ((ls.take k).eraseIdx j).length = k - 1 := by rw [List.length_eraseIdx_of_lt (by rw [List.length_take]; omega), List.length_take]; omega
        have hx : (ls.take k)[j]? = some (ls.getD j []) := by
          rw [List.getElem?_take_of_lt hjk, List.getD_eq_getElem?_getD, List.getElem?_eq_getElem (by omega)]; rfl
        obtain ⟨b0, off, rfl, hb0, hcc⟩ := HI.out.2.2.2.2.2 (by omega)
        obtain ⟨A', n', c', cc, hij⟩ := hcc j (by omega)
        have HK := Lib.hid hij
        have hne : ((k : Int) - 1 != (k : Int) - 1) = false := by simp
        have HC := Lib.hid hcc
        have HX := Lib.hid hx
        have hjI : (-9223372036854775808 : Int) ≤ (j : Int) ∧ (j : Int) ≤ 9223372036854775807 := by omega
        have hLE := Lib.hid hlen
        obtain ⟨c1, s1, p1⟩ := hp
        have HS1 := Lib.hid s1; have HP1 := Lib.hid p1
        clear hij hcc hx hlen s1 p1
        have l0 := leftF_zero ls k j
        rw [← l0] at hLE
        have hL0 := Lib.hid l0; clear l0
        rcases Nat.lt_or_ge k n with hq | hq
        all_goals
          go_wp2_with (first
            | (go_at_call 40; go_loud ((with_reducible refine (pool_take_at _ j (ls.getD j []) rfl HP1.out HX.out (by omega) HS1.out.fresh (by decide)).mono ?_); rintro e w2 ⟨v2, c2, rfl, s2, p2, d2⟩; obtain ⟨A2, n2, q2, rfl, d2⟩ := d2; have S2 := Lib.hid (HS1.out.trans s2); have D2 := Lib.hid d2; have b2 := S2.out.below (Nat.le_refl _) (fun k hk h => by cases h); have K2 := Lib.hid (HK.out.below b2 (fun b h => h)); have cc2 := (b2.cell (p := ⟨b0, off + j, none⟩) hb0).trans cc; rw [← hL0.out] at p2; have P2 := Lib.hid p2; have I2 := Lib.hid (show InPool W W.heap.size _ w2 from ⟨_, S2.out, P2.out⟩); clear s2 p2 d2 b2))
            | (go_at_call 39; go_loud ((with_reducible refine (bytes_any _ D2.out K2.out).mono ?_); rintro e w7 ⟨rfl, rfl⟩))
            | (go_at_call 41; go_loud ((with_reducible refine (pool_len P2.out).mono ?_); rintro e w8 ⟨rfl, rfl⟩; rw [hLE.out, Int.ofNat_sub (by omega)])))
          go_loopw [13] (fun i wr => ∃ m : Nat, i = .int .i64 (m : Int) ∧ m ≤ k ∧ InPool W W.heap.size (leftF ls k j m) wr) (fun i _ => k - (intOf i).toNat)
          case atStart => exact ⟨0, rfl, by omega, I2.out⟩
          case round =>
            obtain ⟨m, rfl, hmk, hp⟩ := hrel
            have P := Lib.hid hp
            by_cases hlt : m < k
            · by_cases hmj : m = j
              · have hmj' : ((m : Int) == (j : Int)) = true := by rw [beq_iff_eq]; omega
                have hQ := Lib.hid (show InPool W W.heap.size (leftF ls k j (m + 1)) wr by subst hmj; rw [leftF_eq]; exact hp)
                clear hp
                go_wp2_with fail
                go_roundw
                case rel => exact ⟨m + 1, by go_num, by omega, hQ.out⟩
                case measure => simp [intOf]; omega
              · have hmj' : ((m : Int) == (j : Int)) = false := by rw [beq_eq_false_iff_ne]; omega
                obtain ⟨Am, nm, cm, ccm, him⟩ := HC.out m (by omega)
                have HM := Lib.hid him
                obtain ⟨c3, s3, p3⟩ := hp
                have HS3 := Lib.hid s3; have HP3 := Lib.hid p3
                clear s3 p3 him
                go_wp2_with (first
                  | (go_at_call 40; go_loud ((with_reducible refine (pool_take_at 0 0 (ls.getD m []) rfl HP3.out (leftF_head ls k j m hmj hlt hkl) (by omega) HS3.out.fresh (by decide)).mono ?_); rintro e w4 ⟨v4, c4, rfl, s4, p4, d4⟩; obtain ⟨A4, n4, q4, rfl, d4⟩ := d4; have S4 := Lib.hid (HS3.out.trans s4); have D4 := Lib.hid d4; have b4 := S4.out.below (Nat.le_refl _) (fun k hk h => by cases h); have K4 := Lib.hid (HM.out.below b4 (fun b h => h)); have cc4 := (b4.cell (p := ⟨b0, off + m, none⟩) hb0).trans ccm; rw [leftF_step ls k j m hmj] at p4; have I4 := Lib.hid (show InPool W W.heap.size _ w4 from ⟨_, S4.out, p4⟩); clear s4 p4 d4 b4))
                  | (go_at_call 39; go_loud ((with_reducible refine (bytes_any _ D4.out K4.out).mono ?_); rintro e w7 ⟨rfl, rfl⟩)))
                go_roundw
                case rel => exact ⟨m + 1, by go_num, by omega, I4.out⟩
                case measure => simp [intOf]; omega
            · have hmk : m = k := by omega
              subst hmk
              obtain ⟨c3, s3, p3⟩ := hp
              have HP3 := Lib.hid p3
              have l3 := (leftF_len ls m j hjk hkl).1
              clear s3 p3
              go_wp2_with (go_at_call 41; go_loud ((with_reducible refine (pool_len HP3.out).mono ?_); rintro e w8 ⟨rfl, rfl⟩; rw [l3]))
              go_ret
              exact ⟨rfl, P.out.below⟩
theorem wPoolOrder (W : World) (vs : List Value) (h : Sh.Args W (· < W.heap.size) [((.sl (.sl (.int .u8) 1) 24), 60), ((.int .i64), 3)] vs) :
    Calls Try.prog 9 vs.toArray W fun e W' => e = .returned (.bool true) ∧ Below W.heap.size W W' := by
  obtain ⟨_, _, rfl, ⟨l, hl⟩, _, _, rfl, ⟨a, ha⟩, rfl⟩ := h
  obtain ⟨ls, A, n, cap, rfl, hi⟩ := rows_open hl
  obtain ⟨a1, rfl, ha1⟩ := int_open ha
  exact wPoolOrder0 W A n cap ls a1 hi (bounds_i64 ha1)
end Go.Proofs.Ytjniholnmjafeaa
