/- The helpers' In at loads: an element is found. What heavy and light loads are; loads that are alike. Conditions: the loads read so. -/
import Derived.Test.YtjniholnmjafeaaBalPlan
import Derived.Test.YtjniholnmjafeaaBalRow
namespace Go.Proofs.Ytjniholnmjafeaa
open Go.RowKit Go.ChangeShapes
set_option maxRecDepth 100000
set_option linter.unusedVariables false
set_option linter.unusedSimpArgs false

set_option maxHeartbeats 1000000 in
theorem bal_in {A : Option Addr} {n cap : Nat} {l : List Ld} (p e : Int) (w : World) (h : Lds w A n cap l) (hm : (⟨p, e⟩ : Ld) ∈ l) :
    Calls Try.prog 60 #[.slice A n cap, .agg #[.int .u32 p, .int .i64 e]] w fun e w' => e = .returned (.bool true) ∧ Below w.heap.size w w' := by
  have HH := Lib.hid h
  have HL := Lib.hid h.1
  have HM := Lib.hid hm
  have bn : n ≤ 140737488351232 := by have := h.2.2.2.1; omega
  clear h hm
  go_enter Try.func60, Try.ntmps60
  go_wp2
  go_loopw [5] (fun i wr => ∃ k : Nat, k ≤ n ∧ i = .int .i64 k ∧ (∀ j, j < k → l[j]? ≠ some ⟨p, e⟩) ∧ Box wr w.heap.size #[.int .u32 p, .int .i64 e] ∧ Below w.heap.size w wr) (fun i _ => n - (intOf i).toNat)
  case atStart => exact ⟨0, Nat.zero_le _, rfl, (fun j hj => by omega), Box.new _ _ _, below_a1 _ _⟩
  case round =>
    obtain ⟨k, hk, rfl, hne, hX, hB⟩ := hrel
    have HN := Lib.hid hne; have HX := Lib.hid hX; have HB := Lib.hid hB
    clear hne hX hB
    by_cases hlt : k < n
    · obtain ⟨⟨q, f⟩, b, off, hx, rfl, hb, c0, c1, hok⟩ := ld_cells HH.out hlt
      have d0 := (HB.out.cell (p := ⟨b, off + k * 2, none⟩) hb).trans c0
      have d1 := (HB.out.cell (p := ⟨b, off + k * 2 + 1, none⟩) hb).trans c1
      have c3 := HX.out.cell
      have e0 := c3 0
      have e1 := c3 1
      have z3 := HX.out.lt
      dsimp only at *
      have HXK := Lib.hid hx
      clear c0 c1 hok hx
      by_cases hpq : q = p
      · by_cases hef : f = e
        · subst hpq hef
          go_wp2
          go_quiet (fail)
          go_wp2
          go_ret
          exact ⟨rfl, belowN HB.out _⟩
        · have hn2 : (f == e) = false := by rw [beq_eq_false_iff_ne]; exact hef
          have HN2 := Lib.hid (show ∀ j, j < k + 1 → l[j]? ≠ some ⟨p, e⟩ from fun j hj h => by
            rcases Nat.lt_succ_iff_lt_or_eq.1 hj with hj | rfl
            · exact HN.out j hj h
            · rw [HXK.out] at h; injection h with h; injection h with _ h; exact hef h)
          subst hpq
          go_wp2
          go_quiet (fail)
          go_wp2
          go_roundw
          case rel => exact ⟨k + 1, by omega, by go_num, HN2.out, HX.out.drewN _, belowN HB.out _⟩
          case measure => simp [intOf]; omega
      · have hn2 : (q == p) = false := by rw [beq_eq_false_iff_ne]; exact hpq
        have HN2 := Lib.hid (show ∀ j, j < k + 1 → l[j]? ≠ some ⟨p, e⟩ from fun j hj h => by
          rcases Nat.lt_succ_iff_lt_or_eq.1 hj with hj | rfl
          · exact HN.out j hj h
          · rw [HXK.out] at h; injection h with h; injection h with h _; exact hpq h)
        go_wp2
        go_quiet (fail)
        go_wp2
        go_roundw
        case rel => exact ⟨k + 1, by omega, by go_num, HN2.out, HX.out.drewN _, belowN HB.out _⟩
        case measure => simp [intOf]; omega
    · exfalso
      obtain ⟨j, hj⟩ := List.getElem?_of_mem HM.out
      exact HN.out j (by have := (List.getElem?_eq_some_iff.1 hj).1; rw [HL.out] at this; omega) hj

theorem heavy_cases (l : List Ld) : heavyF l = (⟨0, 0⟩, false) ∨ ∃ x : Ld, heavyF l = (x, true) ∧ x ∈ l ∧ 2 * meanF l < x.en * 256 ∧ 0 ≤ x.en ∧ x.en ≤ 2147483647 := by
  unfold heavyF
  rcases first_cases moreF l with h | ⟨h, h0, h1, h2⟩
  · rw [h]; left; simp
  · rw [h]
    by_cases hc : (bestF moreF l).en * 256 ≤ 2 * meanF l
    · left; simp [hc]
    · right
      exact ⟨bestF moreF l, by simp only [Bool.true_eq_false, false_or]; rw [if_neg hc], h2, by omega, h0, h1⟩
theorem light_cases (l : List Ld) : lightF l = (⟨0, 0⟩, false) ∨ ∃ x : Ld, lightF l = (x, true) ∧ x ∈ l ∧ x.en * 512 < meanF l ∧ 0 ≤ x.en ∧ x.en ≤ 2147483647 := by
  unfold lightF
  rcases first_cases lessF l with h | ⟨h, h0, h1, h2⟩
  · rw [h]; left; simp
  · rw [h]
    by_cases hc : meanF l ≤ (bestF lessF l).en * 512
    · left; simp [hc]
    · right
      exact ⟨bestF lessF l, by simp only [Bool.true_eq_false, false_or]; rw [if_neg hc], h2, by omega, h0, h1⟩

/-- Loads that are alike. -/
def alike (n : Int) (k : Nat) : List Ld := (List.range k).map fun (i : Nat) => ⟨(i : Int), n⟩
theorem alike_succ (n : Int) (k : Nat) : alike n (k + 1) = alike n k ++ [⟨(k : Int), n⟩] := by unfold alike; rw [List.range_succ, List.map_append]; rfl
theorem alike_len (n : Int) (k : Nat) : (alike n k).length = k := by simp [alike]
theorem alike_mem {n : Int} {k : Nat} {x : Ld} (h : x ∈ alike n k) : x.en = n ∧ 0 ≤ x.pt ∧ x.pt < k := by
  obtain ⟨i, hi, rfl⟩ := List.mem_map.1 h
  have := List.mem_range.1 hi
  exact ⟨rfl, by dsimp only; omega, by dsimp only; omega⟩
theorem alike_may (n : Int) (h0 : 0 ≤ n) (h1 : n ≤ 2147483647) : ∀ k, mayF (alike n k) = true
  | 0 => rfl
  | k + 1 => by
    rw [alike_succ, mayF_app, alike_may n h0 h1 k]
    have : ((alike n k).any fun y => y.pt == (k : Int)) = false := by
      rw [List.any_eq_false]
      intro x hx
      have := alike_mem hx
      simp; omega
    simp [mayGo, okAt, this]; omega
theorem alike_sum (n : Int) (h0 : 0 ≤ n) (h1 : n ≤ 2147483647) : ∀ k, sumF (alike n k) = n * k
  | 0 => by simp [alike, sumF]
  | k + 1 => by
    have ih := alike_sum n h0 h1 k
    rw [alike_succ]
    unfold sumF at *
    rw [List.map_append, List.sum_append, ih]
    have hc : clampF n = n := by unfold clampF; omega
    simp [hc, Int.mul_add]
theorem alike_mean (n : Int) (h0 : 0 ≤ n) (h1 : n ≤ 2147483647) (k : Nat) (hk : 0 < k) : meanF (alike n k) = n * 256 := by
  unfold meanF
  rw [if_neg (by intro h; have := alike_len n k; rw [h] at this; simp at this; omega), alike_sum n h0 h1, alike_len, Int.mul_right_comm]
  exact Int.mul_ediv_cancel _ (by omega)
theorem alike_none (n : Int) (h0 : 0 ≤ n) (h1 : n ≤ 2147483647) (k : Nat) : heavyF (alike n k) = (⟨0, 0⟩, false) ∧ lightF (alike n k) = (⟨0, 0⟩, false) := by
  rcases Nat.eq_zero_or_pos k with rfl | hk
  · exact ⟨rfl, rfl⟩
  · have hm := alike_mean n h0 h1 k hk
    constructor
    · rcases heavy_cases (alike n k) with h | ⟨x, _, hx, h2, _⟩
      · exact h
      · have := (alike_mem hx).1; omega
    · rcases light_cases (alike n k) with h | ⟨x, _, hx, h2, _⟩
      · exact h
      · have := (alike_mem hx).1; omega
theorem alike_plan (n : Int) (h0 : 0 ≤ n) (h1 : n ≤ 2147483647) (k : Nat) (vs : List Int) : planF (alike n k) vs = (0, 0, 20) :=
  plan_even (alike_may n h0 h1 k) (.inl (by rw [(alike_none n h0 h1 k).1]))
end Go.Proofs.Ytjniholnmjafeaa
