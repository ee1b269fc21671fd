/- The helpers' Same and Plain at slices of whole numbers: whether two lists are the same. Conditions: the slices read so. -/
import Derived.Test.YtdpamikobmefeaaGreatEqual
namespace Go.Proofs.YtdpamikobmefeaaGreat
open Go.RowKit Go.ChangeShapes
set_option maxRecDepth 100000
set_option linter.unusedVariables false

theorem plain1_u32 (x y : Int) (w : World) : Calls Tryz.prog 111 #[.int .u32 x, .int .u32 y] w fun e w' => e = .returned (.bool (x == y)) ∧ w' = w := by
  go_enter Tryz.func111, Tryz.ntmps111
  go_wp2
  go_ret
  exact ⟨rfl, rfl⟩
theorem same_u32 {D D' : Nat → Prop} {A B : Option Addr} {n c m c' : Nat} {xs ys : List Int} (w : World) (hx : Ints w D .u32 4 A n c xs) (hy : Ints w D' .u32 4 B m c' ys) :
    Calls Tryz.prog 110 #[.slice A n c, .slice B m c', .func (.func 111) #[] #[]] w fun e w' => e = .returned (.bool (decide (xs = ys))) ∧ Drew w w' := by
  obtain ⟨lx, x2, x3, x4, x5, x6, x7⟩ := hx
  obtain ⟨ly, y2, y3, y4, y5, y6, y7⟩ := hy
  have HX := Lib.hid x7; clear x7
  have HY := Lib.hid y7; clear y7
  have LX := Lib.hid lx; clear lx
  have LY := Lib.hid ly; clear ly
  clear x5 y5 x6 y6
  have bn : n ≤ 140737488351232 := by omega
  have bm : m ≤ 140737488351232 := by omega
  clear x3 y3 x4 y4 x2 y2
  by_cases hnm : n = m
  · subst hnm
    go_enter Tryz.func110, Tryz.ntmps110
    go_wp2
    go_loopw [7] (fun i wr => ∃ k : Nat, k ≤ n ∧ i = .int .i64 k ∧ xs.take k = ys.take k ∧ Drew w wr) (fun i _ => n - (intOf i).toNat)
    case atStart => exact ⟨0, by omega, rfl, rfl, Drew.refl _⟩
    case round =>
      obtain ⟨k, hk, rfl, ht, hd⟩ := hrel
      have HT := Lib.hid ht; clear ht
      have HD := Lib.hid hd; clear hd
      by_cases hlt : k < n
      · obtain ⟨b, off, rfl, _, hcx⟩ := HX.out (by omega)
        obtain ⟨b', off', rfl, _, hcy⟩ := HY.out (by omega)
        have cx := (HD.out.cell ⟨b, off + k, none⟩).trans (hcx k hlt)
        have cy := (HD.out.cell ⟨b', off' + k, none⟩).trans (hcy k hlt)
        clear hcx hcy
        by_cases he : xs.getD k 0 = ys.getD k 0
        · have hs := take_succ_eq (by rw [LX.out]; exact hlt) (by rw [LY.out]; exact hlt) HT.out he
          have HS := Lib.hid hs; clear hs
          generalize xs.getD k 0 = u at cx he
          subst he
          go_wp2
          go_quiet ((go_at_call 111; exact Calls.quiet_of_same (plain1_u32 _ _ _)))
          go_wp2
          go_roundw
          case rel => exact ⟨k + 1, by omega, by go_num, HS.out, HD.out.drewN _⟩
          case measure => simp [intOf]; omega
        · have hf : Hid (decide (xs = ys) = false) := by show decide (xs = ys) = false; simp; exact ne_of_getD he
          generalize xs.getD k 0 = u at cx he
          generalize ys.getD k 0 = v at cy he
          have hne : (u == v) = false := by rw [beq_eq_false_iff_ne]; exact he
          go_wp2
          go_quiet ((go_at_call 111; exact Calls.quiet_of_same (plain1_u32 _ _ _)))
          go_wp2
          go_ret
          exact ⟨(by first | (rw [hf.out]; done) | (rw [hf.out]; rfl)), HD.out.drewN _⟩
      · have hf : Hid (decide (xs = ys) = true) := by
          show decide (xs = ys) = true
          have := HT.out
          rw [List.take_of_length_le (by rw [LX.out]; omega), List.take_of_length_le (by rw [LY.out]; omega)] at this
          simpa using this
        go_wp2
        go_ret
        exact ⟨(by first | (rw [hf.out]; done) | (rw [hf.out]; rfl)), HD.out⟩
  · have hf : Hid (decide (xs = ys) = false) := by
      show decide (xs = ys) = false
      simp; intro h; subst h; exact hnm (LX.out.symm.trans LY.out)
    have hne : ((n : Int) != (m : Int)) = true := by rw [bne_iff_ne]; omega
    go_enter Tryz.func110, Tryz.ntmps110
    go_wp2
    go_ret
    exact ⟨(by first | (rw [hf.out]; done) | (rw [hf.out]; rfl)), Drew.refl _⟩
theorem plain_u32 {D D' : Nat → Prop} {A B : Option Addr} {n c m c' : Nat} {xs ys : List Int} (w : World) (hx : Ints w D .u32 4 A n c xs) (hy : Ints w D' .u32 4 B m c' ys) :
    Calls Tryz.prog 89 #[.slice A n c, .slice B m c'] w fun e w' => e = .returned (.bool (decide (xs = ys))) ∧ Drew w w' := by
  have HX := Lib.hid hx; clear hx
  have HY := Lib.hid hy; clear hy
  go_enter Tryz.func89, Tryz.ntmps89
  go_wp2_with (go_at_call 110; (with_reducible refine (same_u32 _ HX.out HY.out).mono ?_); rintro e w' ⟨rfl, hd⟩)
  go_ret
  exact ⟨rfl, hd⟩
end Go.Proofs.YtdpamikobmefeaaGreat
