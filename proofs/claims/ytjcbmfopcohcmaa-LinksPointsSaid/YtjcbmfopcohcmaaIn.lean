/- The helper's In at uint32. Conditions: none. -/
import Derived.Test.YtjcbmfopcohcmaaEqual
namespace Go.Proofs.Ytjcbmfopcohcmaa
open Go.RowKit
set_option maxRecDepth 100000
set_option linter.unusedVariables false
set_option linter.unusedSimpArgs false

theorem in_u32 {D : Nat → Prop} {A : Option Addr} {n c : Nat} {xs : List Int} (v : Int) (w : World) (hx : Ints w D .u32 4 A n c xs) :
    Calls Try.prog 36 #[.slice A n c, .int .u32 v] w fun e w' => e = .returned (.bool (decide (v ∈ xs))) ∧ w = w' := by
  have HL := Lib.hid hx.1
  have hb : n * 4 ≤ 140737488351232 := hx.2.2.2.1
  have HX := Lib.hid hx.2.2.2.2.2.2
  clear hx
  go_enter Try.func36, Try.ntmps36
  go_wp2
  go_loopw [5] (fun s wr => ∃ k : Nat, k ≤ n ∧ s = .int .i64 k ∧ (¬ v ∈ xs.take k) ∧ wr = w) (fun i _ => n - (intOf i).toNat)
  case atStart => exact ⟨0, Nat.zero_le _, rfl, by simp, rfl⟩
  case round =>
    obtain ⟨k, hk, rfl, hv, rfl⟩ := hrel
    have HV := Lib.hid hv
    clear hv
    by_cases hlt : k < n
    · obtain ⟨b, off, rfl, _, hc⟩ := HX.out (by omega)
      have hck := hc k hlt
      clear hc
      obtain ⟨y, hy⟩ : ∃ y, xs.getD k 0 = y := ⟨_, rfl⟩
      rw [hy] at hck
      have HT := Lib.hid (show xs.take (k + 1) = xs.take k ++ [y] by
        rw [List.take_add_one, List.getElem?_eq_getElem (by rw [HL.out]; exact hlt)]
        rw [List.getD_eq_getElem?_getD, List.getElem?_eq_getElem (by rw [HL.out]; exact hlt)] at hy
        have hy : xs[k]'(by rw [HL.out]; exact hlt) = y := hy
        rw [Option.toList_some, hy])
      clear hy
      cases hyv : (y == v) with
      | true =>
        have hyy : y = v := by simpa using hyv
        subst hyy
        have HM := Lib.hid (show decide (y ∈ xs) = true from decide_eq_true (List.mem_of_mem_take (i := k + 1) (by rw [HT.out]; simp)))
        clear hyv
        go_wp2
        go_ret
        exact ⟨by rw [HM.out]; rfl, rfl⟩
      | false =>
        have HM := Lib.hid (show ¬ v ∈ xs.take (k + 1) by
          rw [HT.out, List.mem_append]
          intro h
          rcases h with h | h
          · exact HV.out h
          · simp only [List.mem_singleton] at h
            subst h
            simp at hyv)
        go_wp2
        go_roundw
        case rel => exact ⟨k + 1, by omega, by go_num, HM.out, by first | rfl | trivial⟩
        case measure => simp [intOf]; omega
    · obtain rfl : k = n := by omega
      have HM := Lib.hid (show decide (v ∈ xs) = false from decide_eq_false (by have := HV.out; rwa [List.take_of_length_le (by rw [HL.out]; exact Nat.le_refl _)] at this))
      go_wp2
      go_ret
      exact ⟨by rw [HM.out]; rfl, rfl⟩
end Go.Proofs.Ytjcbmfopcohcmaa
