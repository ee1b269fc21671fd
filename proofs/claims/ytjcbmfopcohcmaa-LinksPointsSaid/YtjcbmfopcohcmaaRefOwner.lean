/- The document's ring: Owner. Conditions: the ring is one, and rising. -/
import Derived.Test.YtjcbmfopcohcmaaRingOwner
namespace Go.Proofs.Ytjcbmfopcohcmaa
open Go.RowKit
set_option maxRecDepth 100000
set_option linter.unusedVariables false
set_option linter.unusedSimpArgs false

set_option maxHeartbeats 1000000 in
theorem rref_owner1 {D : Nat → Prop} {A : Option Addr} {n cap rb : Nat} {l : List Int} (v : Int) (w : World) (hb : Box w rb #[.slice A n cap]) (hi : Ints w D .u32 4 A n cap l) (hs : l.Pairwise (· ≤ ·)) (hn0 : 0 < n) :
    Calls Try.prog 72 #[.pointer (some ⟨rb, 0, none⟩), .int .u32 v] w fun e w' => e = .returned (.tuple #[.int .u32 (ptF l v), .bool true]) ∧ Below w.heap.size w w' := by
  have hlen : l.length = n := hi.1
  have hbn : n * 4 ≤ 140737488351232 := hi.2.2.2.1
  obtain ⟨bb, off, rfl, _, hcell⟩ := hi.2.2.2.2.2.2 hn0
  have hc := hb.cell
  have HC := Lib.hid hcell; have HS := Lib.hid hs; have HL := Lib.hid hlen
  have hnz : ¬ ((n : Int) = 0) := by omega
  have hnz2 : ((n : Int) == 0) = false := by rw [beq_eq_false_iff_ne]; exact hnz
  have hn' : ¬ n = 0 := by omega
  clear hb hi hs hcell hlen
  go_enter Try.func72, Try.ntmps72
  go_wp2
  go_loopw [6] (fun s wr => ∃ k : Nat, k ≤ n ∧ s = .int .i64 k ∧ (∀ t, t < k → l.getD t 0 < v) ∧ wr = w) (fun i _ => n - (intOf i).toNat)
  case atStart => exact ⟨0, Nat.zero_le _, rfl, fun t ht => absurd ht (Nat.not_lt_zero _), rfl⟩
  case round =>
    obtain ⟨k, hk, rfl, hv, rfl⟩ := hrel
    have HV := Lib.hid hv
    clear hv
    by_cases hlt : k < n
    · have hck := HC.out k hlt
      obtain ⟨y, hy⟩ : ∃ y, l.getD k 0 = y := ⟨_, rfl⟩
      rw [hy] at hck
      have HY := Lib.hid hy
      clear hy
      by_cases hyv : v ≤ y
      · have HP := Lib.hid (show ptF l v = y by
          unfold ptF
          rw [pos_of (i := k) (by rw [HL.out]; exact hk) HV.out (fun t h1 h2 => by have := sorted_getD HS.out k t h1 h2; have := HY.out; omega), HL.out, Nat.mod_eq_of_lt hlt]
          exact HY.out)
        go_wp2
        exact bodyPost_ret (v := .tuple #[.int .u32 y, .bool true]) (by simp [results, Try.results72, go_sem]) rfl ⟨by rw [HP.out], Below.refl _ _⟩
      · have HM := Lib.hid (show ∀ t, t < k + 1 → l.getD t 0 < v from fun t ht => by
          rcases Nat.lt_or_ge t k with h | h
          · exact HV.out t h
          · obtain rfl : t = k := by omega
            have := HY.out; omega)
        go_wp2
        go_roundw
        case rel => exact ⟨k + 1, by omega, by go_num, HM.out, by first | rfl | trivial⟩
        case measure => simp [intOf]; omega
    · obtain rfl : k = n := by omega
      have hck := HC.out 0 hn0
      simp only [Nat.add_zero] at hck
      have HP := Lib.hid (show ptF l v = l.getD 0 0 by
        unfold ptF
        rw [pos_of (i := k) (by rw [HL.out]; exact hk) HV.out (fun t h1 h2 => by have := HL.out; omega), HL.out, Nat.mod_self])
      obtain ⟨y, hy⟩ : ∃ y, l.getD 0 0 = y := ⟨_, rfl⟩
      rw [hy] at hck HP
      clear hy
      have hnn : (0 : Int) < (k : Int) := by omega
      go_wp2
      exact bodyPost_ret (v := .tuple #[.int .u32 y, .bool true]) (by simp [results, Try.results72, go_sem]) rfl ⟨by rw [HP.out], Below.refl _ _⟩
end Go.Proofs.Ytjcbmfopcohcmaa
