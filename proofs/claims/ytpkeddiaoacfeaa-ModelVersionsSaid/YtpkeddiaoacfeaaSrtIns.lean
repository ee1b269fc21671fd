/- slices.Sort at whole numbers: less, insertionSort. Conditions: the row is one's own. -/
import Derived.Test.YtpkeddiaoacfeaaSrtBase
import Derived.Deep.QuietTactic
import Derived.BigQuiet
namespace Go.Proofs.Ytpkeddiaoacfeaa
open Go.RowKit Go.Sort
set_option maxRecDepth 100000
set_option linter.unusedVariables false
set_option linter.unusedSimpArgs false

theorem insInner_go (a j : Nat) (d : Array Int) (h : a < j + 1) (hl : d[j + 1]! < d[j]!) : insInner ltInt a (j + 1) d = insInner ltInt a j (swp d (j + 1) j) := by
  conv => lhs; unfold insInner
  rw [if_pos]
  simp [ltInt, hl]; omega
theorem insInner_stop (a j : Nat) (d : Array Int) (h : j ≤ a ∨ ¬ d[j]! < d[j - 1]!) : insInner ltInt a j d = d := by
  cases j with
  | zero => rfl
  | succ j =>
    unfold insInner
    rw [if_neg]
    rcases h with h | h
    · simp; omega
    · simp only [Nat.add_sub_cancel] at h; simp [ltInt, h]
theorem insOuter_go (a b i : Nat) (d : Array Int) (h : i < b) : insOuter ltInt a b i d = insOuter ltInt a b (i + 1) (insInner ltInt a i d) := by
  conv => lhs; unfold insOuter
  rw [if_pos h]
theorem insOuter_stop (a b i : Nat) (d : Array Int) (h : b ≤ i) : insOuter ltInt a b i d = d := by
  unfold insOuter
  rw [if_neg (by omega)]
theorem size_swp' (d : Array Int) (i j : Nat) : (swp d i j).size = d.size := by simp [swp]

theorem cnan_u64 (x : Int) (w : World) : Calls Try.prog 148 #[.int .u64 x] w fun e w' => e = .returned (.bool false) ∧ w = w' := by
  go_enter Try.func148, Try.ntmps148
  go_wp2
  go_ret
  exact ⟨by simp, rfl⟩
theorem less_u64 (x y : Int) (w : World) : Calls Try.prog 137 #[.int .u64 x, .int .u64 y] w fun e w' => e = .returned (.bool (decide (x < y))) ∧ w = w' := by
  go_enter Try.func137, Try.ntmps137
  go_wp2_with (go_at_call 148; (with_reducible refine (cnan_u64 _ _).mono ?_); rintro e w' ⟨rfl, rfl⟩)
  go_ret
  exact ⟨rfl, rfl⟩
theorem lessq_u64 (x y : Int) (w : World) : Calls Try.prog 137 #[.int .u64 x, .int .u64 y] w fun e w' => e = .returned (.bool (decide (x < y))) ∧ w' = w := (less_u64 x y w).mono fun _ _ h => ⟨h.1, h.2.symm⟩
set_option maxHeartbeats 4000000 in
theorem srt_ins_u64 {T : TypeId} {C0 : Array Value} {w0 w : World} {b cap x y : Nat} {d : Array Int} (h : RowI .u64 T C0 w0 b d w) (hxy : x ≤ y) (hy : y ≤ d.size) (hsz : d.size < 4611686018427387904) :
    Calls Try.prog 131 #[.slice (some ⟨b, 0, none⟩) d.size cap, .int .i64 x, .int .i64 y] w fun e w' => e = .returned (.tuple #[]) ∧ RowI .u64 T C0 w0 b (insertionSort ltInt d x y) w' := by
  obtain ⟨n, hn⟩ : ∃ n, n = d.size := ⟨_, rfl⟩
  rw [← hn] at hy hsz ⊢
  have HH := Lib.hid h; have HN := Lib.hid hn
  clear h hn
  go_enter Try.func131, Try.ntmps131
  go_wp2
  go_loopw [6] (fun s wr => ∃ (i : Nat) (dk : Array Int), s = .int .i64 i ∧ x < i ∧ i ≤ y + 1 ∧ dk.size = n ∧ RowI .u64 T C0 w0 b dk wr ∧ insOuter ltInt x y i dk = insertionSort ltInt d x y) (fun i _ => y + 1 - (intOf i).toNat)
  case atStart => exact ⟨x + 1, d, by go_num, by omega, by omega, HN.out.symm, HH.out, rfl⟩
  case round =>
    obtain ⟨i, dk, rfl, hxi, hiy, hk, hR, hE⟩ := hrel
    have HR := Lib.hid hR; have HE := Lib.hid hE; have HK := Lib.hid hk
    clear hR hE hk
    by_cases hlt : i < y
    · go_wp2
      go_loopw [7] (fun s wq => ∃ (j : Nat) (dj : Array Int), s = .int .i64 j ∧ x ≤ j ∧ j ≤ i ∧ dj.size = n ∧ RowI .u64 T C0 w0 b dj wq ∧ insInner ltInt x j dj = insInner ltInt x i dk) (fun j _ => (intOf j).toNat)
      case atStart => exact ⟨i, dk, rfl, by omega, Nat.le_refl _, HK.out, HR.out, rfl⟩
      case round =>
        obtain ⟨j, dj, rfl, hxj, hji, hj, hRj, hEj⟩ := hrel
        have HRj := Lib.hid hRj; have HEj := Lib.hid hEj; have HJ := Lib.hid hj
        clear hRj hEj hj
        by_cases hjx : x < j
        · obtain ⟨q, rfl⟩ : ∃ q, j = q + 1 := ⟨j - 1, by omega⟩
          have g1 : decide (x < q + 1) = true := by simp; omega
          have g2 : decide ((x : Int) < (q : Int) + 1) = true := by simp; omega
          have c1 := HRj.out.cell (i := q + 1) (by have := HJ.out; omega)
          have c2 := HRj.out.cell (i := q) (by have := HJ.out; omega)
          have w1 : IntKind.i64.wrap ((q : Int) + 1) = (q : Int) + 1 := by rw [show ((q : Int) + 1) = ((q + 1 : Nat) : Int) by omega]; exact wrap_nat64 (by omega)
          have w2 : ((q : Int) + 1).toNat = q + 1 := by omega
          have w3 : (0 : Int) ≤ (q : Int) + 1 := by omega
          have w4 : (q : Int) + 1 < (n : Int) := by omega
          have w5 := wrap_nat64 (k := q) (by omega)
          have w6 : (q : Int) < (n : Int) := by omega
          generalize hu : dj[q + 1]! = u at *
          generalize hv : dj[q]! = v at *
          by_cases huv : u < v
          · have HLT := Lib.hid (show decide (u < v) = true from decide_eq_true huv)
            go_wp2
            go_quiet ((go_at_call 137; exact Calls.quiet_of_same (lessq_u64 _ _ _)))
            rw [HLT.out]
            go_wp2
            refine wp_abs (fun wx => RowI .u64 T C0 w0 b dj wx) (HRj.out.drewN _) ?_
            intro wx Rx
            have HX := Lib.hid Rx
            have c1 : wx.cell? ⟨b, q + 1, none⟩ = some (.int .u64 u) := by rw [← hu]; exact Rx.cell (by have := HJ.out; omega)
            have c2 : wx.cell? ⟨b, q, none⟩ = some (.int .u64 v) := by rw [← hv]; exact Rx.cell (by have := HJ.out; omega)
            have fz := Rx.free
            have zb := Rx.lt
            clear Rx
            go_region
            have R2 := Lib.hid (HX.out.swap (i := q + 1) (j := q) (by have := HJ.out; omega) (by have := HJ.out; omega)).drew
            rw [hu, hv] at R2
            have HE2 := Lib.hid (show insInner ltInt x q (swp dj (q + 1) q) = insInner ltInt x i dk by rw [← HEj.out, insInner_go _ _ _ (by omega) (by rw [hu, hv]; exact huv)])
            clear c1 c2 fz zb hu hv huv
            go_wp2
            go_roundw
            case rel => exact ⟨q, swp dj (q + 1) q, by go_num, by omega, by omega, by rw [size_swp']; exact HJ.out, R2.out, HE2.out⟩
            case measure => simp [intOf]
          · have HLT := Lib.hid (show decide (u < v) = false from decide_eq_false huv)
            have HO := Lib.hid (show insOuter ltInt x y (i + 1) dj = insertionSort ltInt d x y by
              rw [← HE.out, insOuter_go _ _ _ _ hlt, ← HEj.out, insInner_stop _ _ _ (.inr (by rw [hu, Nat.add_sub_cancel, hv]; exact huv))])
            go_wp2
            go_quiet ((go_at_call 137; exact Calls.quiet_of_same (lessq_u64 _ _ _)))
            rw [HLT.out]
            clear hu hv huv
            go_wp2
            go_roundw
            case rel => exact ⟨i + 1, dj, by go_num, by omega, by omega, HJ.out, HRj.out.drewN _, HO.out⟩
            case measure => simp [intOf]; omega
        · have g1 : decide (x < j) = false := by simp; omega
          have HO := Lib.hid (show insOuter ltInt x y (i + 1) dj = insertionSort ltInt d x y by
            rw [← HE.out, insOuter_go _ _ _ _ hlt, ← HEj.out, insInner_stop _ _ _ (.inl (by omega))])
          clear hjx
          go_wp2
          go_quiet (fail)
          go_wp2
          go_roundw
          case rel => exact ⟨i + 1, dj, by go_num, by omega, by omega, HJ.out, HRj.out.drewN _, HO.out⟩
          case measure => simp [intOf]; omega
    · go_wp2
      have HO := Lib.hid (show dk = insertionSort ltInt d x y by rw [← HE.out, insOuter_stop _ _ _ _ (by omega)])
      go_end0
      rw [← HO.out]
      exact ⟨rfl, HR.out⟩
end Go.Proofs.Ytpkeddiaoacfeaa
