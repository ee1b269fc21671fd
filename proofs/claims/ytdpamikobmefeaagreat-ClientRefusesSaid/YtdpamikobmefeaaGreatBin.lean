/- slices.BinarySearch at uint32. Conditions: the row is sorted. -/
import Derived.Test.YtdpamikobmefeaaGreatEqual
namespace Go.Proofs.YtdpamikobmefeaaGreat
open Go.RowKit
set_option maxRecDepth 100000
set_option linter.unusedVariables false
set_option linter.unusedSimpArgs false

theorem cnan_u32 (x : Int) (w : World) : Calls Tryz.prog 91 #[.int .u32 x] w fun e w' => e = .returned (.bool false) ∧ w = w' := by
  go_enter Tryz.func91, Tryz.ntmps91
  go_wp2
  go_ret
  exact ⟨by simp, rfl⟩
theorem snan_u32 (x : Int) (w : World) : Calls Tryz.prog 57 #[.int .u32 x] w fun e w' => e = .returned (.bool false) ∧ w = w' := by
  go_enter Tryz.func57, Tryz.ntmps57
  go_wp2
  go_ret
  exact ⟨by simp, rfl⟩
theorem less_u32 (x y : Int) (w : World) : Calls Tryz.prog 56 #[.int .u32 x, .int .u32 y] w fun e w' => e = .returned (.bool (decide (x < y))) ∧ w = w' := by
  go_enter Tryz.func56, Tryz.ntmps56
  go_wp2_with (go_at_call 91; (with_reducible refine (cnan_u32 _ _).mono ?_); rintro e w' ⟨rfl, rfl⟩)
  go_ret
  exact ⟨rfl, rfl⟩
/-- Where a value stands, or would stand, in a sorted row. -/
def posF (xs : List Int) (v : Int) : Nat := xs.countP fun x => decide (x < v)
theorem pos_of {xs : List Int} {v : Int} {i : Nat} (hi : i ≤ xs.length) (h1 : ∀ t, t < i → xs.getD t 0 < v) (h2 : ∀ t, i ≤ t → t < xs.length → v ≤ xs.getD t 0) : posF xs v = i := by
  induction xs generalizing i with
  | nil => simp at hi; subst hi; rfl
  | cons x r ih =>
    unfold posF at *
    rw [List.countP_cons]
    cases i with
    | zero =>
      have h0 := h2 0 (Nat.le_refl _) (by simp)
      simp only [List.getD_cons_zero] at h0
      rw [ih (i := 0) (Nat.zero_le _) (fun t ht => absurd ht (Nat.not_lt_zero _)) (fun t _ ht => by have := h2 (t + 1) (Nat.zero_le _) (by simp; omega); simpa using this)]
      simp; omega
    | succ i =>
      have h0 := h1 0 (Nat.succ_pos _)
      simp only [List.getD_cons_zero] at h0
      rw [ih (i := i) (by simpa using hi) (fun t ht => by have := h1 (t + 1) (by omega); simpa using this) (fun t ht ht' => by have := h2 (t + 1) (by omega) (by simp; omega); simpa using this)]
      simp [h0]
theorem sorted_getD {xs : List Int} (h : xs.Pairwise (· ≤ ·)) : ∀ a b, a ≤ b → b < xs.length → xs.getD a 0 ≤ xs.getD b 0 := by
  intro a b hab hb
  rw [List.getD_eq_getElem?_getD, List.getD_eq_getElem?_getD, List.getElem?_eq_getElem hb, List.getElem?_eq_getElem (Nat.lt_of_le_of_lt hab hb)]
  rcases Nat.lt_or_ge a b with h1 | h1
  · exact List.pairwise_iff_getElem.1 h a b (by omega) hb h1
  · obtain rfl : a = b := by omega
    exact Int.le_refl _
theorem has_at {xs : List Int} {v : Int} {i : Nat} (h : xs.Pairwise (· ≤ ·)) (hi : i < xs.length) (h1 : ∀ t, t < i → xs.getD t 0 < v) (h2 : v ≤ xs.getD i 0) : xs.contains v = (xs.getD i 0 == v) := by
  have hm : xs.getD i 0 ∈ xs := by
    rw [List.getD_eq_getElem?_getD, List.getElem?_eq_getElem hi]
    exact List.getElem_mem hi
  generalize hy : xs.getD i 0 = y at *
  cases hc : xs.contains v with
  | false =>
    symm
    rw [beq_eq_false_iff_ne]
    rintro rfl
    rw [List.contains_iff_mem.2 hm] at hc; cases hc
  | true =>
    obtain ⟨j, hj, hje⟩ := List.mem_iff_getElem.1 (List.contains_iff_mem.1 hc)
    have hg : xs.getD j 0 = v := by rw [List.getD_eq_getElem?_getD, List.getElem?_eq_getElem hj]; exact hje
    have h3 : i ≤ j := Nat.le_of_not_lt fun h => by have := h1 j h; omega
    have h4 := sorted_getD h i j h3 hj
    rw [hg, hy] at h4
    symm
    rw [beq_iff_eq]
    omega
theorem has_not {xs : List Int} {v : Int} (h1 : ∀ t, t < xs.length → xs.getD t 0 < v) : xs.contains v = false := by
  rw [Bool.eq_false_iff]
  intro hc
  obtain ⟨j, hj, hje⟩ := List.mem_iff_getElem.1 (List.contains_iff_mem.1 hc)
  have hg : xs.getD j 0 = v := by rw [List.getD_eq_getElem?_getD, List.getElem?_eq_getElem hj]; exact hje
  have := h1 j hj
  omega
theorem low_step {xs : List Int} {v y : Int} {h : Nat} (hs : xs.Pairwise (· ≤ ·)) (hh : h < xs.length) (hy : xs.getD h 0 = y) (hv : y < v) : ∀ t, t < h + 1 → xs.getD t 0 < v := by
  intro t ht
  have := sorted_getD hs t h (by omega) hh
  omega
theorem high_step {xs : List Int} {v y : Int} {h n : Nat} (hs : xs.Pairwise (· ≤ ·)) (hn : xs.length = n) (hy : xs.getD h 0 = y) (hv : ¬ y < v) : ∀ t, h ≤ t → t < n → v ≤ xs.getD t 0 := by
  intro t ht htn
  have := sorted_getD hs h t ht (by omega)
  omega
theorem wrap_nat64 {k : Nat} (h : k < 9223372036854775808) : IntKind.i64.wrap (k : Int) = k := by
  simp [IntKind.wrap, IntKind.bits, IntKind.signed]; omega

set_option maxHeartbeats 1000000 in
theorem bin_u32 {D : Nat → Prop} {A : Option Addr} {n c : Nat} {xs : List Int} (v : Int) (w : World) (hx : Ints w D .u32 4 A n c xs) (hs : xs.Pairwise (· ≤ ·)) :
    Calls Tryz.prog 26 #[.slice A n c, .int .u32 v] w fun e w' => e = .returned (.tuple #[.int .i64 (posF xs v : Nat), .bool (xs.contains v)]) ∧ Drew w w' := by
  have HL := Lib.hid hx.1
  have hb : n * 4 ≤ 140737488351232 := hx.2.2.2.1
  have HX := Lib.hid hx.2.2.2.2.2.2
  have HS := Lib.hid hs
  clear hx hs
  go_enter Tryz.func26, Tryz.ntmps26
  go_wp2
  go_loopw [7, 8] (fun s7 s8 wr => ∃ i j : Nat, s7 = .int .i64 i ∧ s8 = .int .i64 j ∧ i ≤ j ∧ j ≤ n ∧ Drew w wr ∧ (∀ t, t < i → xs.getD t 0 < v) ∧ (∀ t, j ≤ t → t < n → v ≤ xs.getD t 0)) (fun i j _ => (intOf j).toNat - (intOf i).toNat)
  case atStart => exact ⟨0, n, rfl, rfl, Nat.zero_le _, Nat.le_refl _, Drew.refl _, fun t ht => absurd ht (Nat.not_lt_zero _), fun t h1 h2 => by omega⟩
  case round =>
    obtain ⟨i, j, rfl, rfl, hij, hjn, hd, h1, h2⟩ := hrel
    have HD := Lib.hid hd; have H1 := Lib.hid h1; have H2 := Lib.hid h2
    clear hd h1 h2
    by_cases hlt : i < j
    · obtain ⟨b, off, rfl, _, hc⟩ := HX.out (by omega)
      have hcm : wr.cell? ⟨b, off + (i + j) / 2, none⟩ = some (.int .u32 (xs.getD ((i + j) / 2) 0)) := by rw [HD.out.cell]; exact hc _ (by omega)
      clear hc
      obtain ⟨y, hy⟩ : ∃ y, xs.getD ((i + j) / 2) 0 = y := ⟨_, rfl⟩
      rw [hy] at hcm
      have HY := Lib.hid hy
      clear hy
      have q1 : IntKind.i64.wrap ((i : Int) + (j : Int)) = ((i + j : Nat) : Int) := by rw [show ((i : Int) + (j : Int)) = ((i + j : Nat) : Int) by omega]; exact wrap_nat64 (by omega)
      by_cases hyv : y < v
      · go_wp2_with (go_at_call 56; go_loud ((with_reducible refine (less_u32 _ _ _).mono ?_); rintro e w' ⟨rfl, rfl⟩))
        go_roundw
        case rel => exact ⟨(i + j) / 2 + 1, j, by go_num, rfl, by omega, hjn, HD.out, low_step HS.out (by rw [HL.out]; omega) HY.out hyv, H2.out⟩
        case measure => simp [intOf]; omega
      · go_wp2_with (go_at_call 56; go_loud ((with_reducible refine (less_u32 _ _ _).mono ?_); rintro e w' ⟨rfl, rfl⟩))
        go_roundw
        case rel => exact ⟨i, (i + j) / 2, rfl, by go_num, by omega, by omega, HD.out, H1.out, high_step HS.out HL.out HY.out (by omega)⟩
        case measure => simp [intOf]; omega
    · obtain rfl : i = j := by omega
      by_cases hin : i < n
      · obtain ⟨b, off, rfl, _, hc⟩ := HX.out (by omega)
        have hcm : wr.cell? ⟨b, off + i, none⟩ = some (.int .u32 (xs.getD i 0)) := by rw [HD.out.cell]; exact hc _ hin
        clear hc
        have hpos := Lib.hid (pos_of (i := i) (by rw [HL.out]; exact hjn) H1.out (by rw [HL.out]; exact H2.out))
        have hat := Lib.hid (has_at (i := i) HS.out (by rw [HL.out]; exact hin) H1.out (H2.out i (Nat.le_refl _) hin))
        obtain ⟨y, hy⟩ : ∃ y, xs.getD i 0 = y := ⟨_, rfl⟩
        rw [hy] at hcm hat
        clear hy
        cases hyv : (y == v)
        · go_wp2_with (go_at_call 57; go_loud ((with_reducible refine (snan_u32 _ _).mono ?_); rintro e w' ⟨rfl, rfl⟩))
          exact bodyPost_ret (v := .tuple #[.int .i64 i, .bool false]) (by simp [results, Tryz.results26, go_sem]) rfl ⟨by rw [hpos.out, hat.out, hyv], HD.out⟩
        · go_wp2
          exact bodyPost_ret (v := .tuple #[.int .i64 i, .bool true]) (by simp [results, Tryz.results26, go_sem]) rfl ⟨by rw [hpos.out, hat.out, hyv], HD.out⟩
      · obtain rfl : i = n := by omega
        have hpos := Lib.hid (pos_of (i := i) (by rw [HL.out]; exact hjn) H1.out (by rw [HL.out]; exact H2.out))
        have hat := Lib.hid (has_not (v := v) (by rw [HL.out]; exact H1.out))
        go_wp2
        exact bodyPost_ret (v := .tuple #[.int .i64 i, .bool false]) (by simp [results, Tryz.results26, go_sem]) rfl ⟨by rw [hpos.out, hat.out], HD.out⟩
end Go.Proofs.YtdpamikobmefeaaGreat
