/- The plain functions of package record over whole numbers: contracts of Own, Client, Right (a walk each). Conditions: the arguments are numbers of their kinds. -/
import Derived.Test.YtjcbmfopcohcmaaRows
import Derived.WalkKit
import Derived.ProofKit
import Derived.OpenShut
import Derived.ShutString
import Derived.Laws.Bits64b
import Derived.Deep.QuietTactic
import Derived.BigQuiet
namespace Go.Proofs.Ytjcbmfopcohcmaa
open Go.RowKit
set_option maxRecDepth 100000
set_option linter.unusedVariables false

theorem shl32_or (c n : Int) (h0 : 0 ≤ c) (h1 : c < 16) (h2 : 0 ≤ n) (h3 : n < 4294967296) : bits .or .u64 (c * 4294967296) n = c * 4294967296 + n := by
  obtain ⟨a, rfl⟩ := Int.eq_ofNat_of_zero_le h0
  obtain ⟨b, rfl⟩ := Int.eq_ofNat_of_zero_le h2
  have e := bits_or_u64_nat (a * 4294967296) b (by omega) (by omega)
  rw [show ((a * 4294967296 : Nat) : Int) = (a : Int) * 4294967296 from by simp] at e
  rw [e]
  have : a * 4294967296 ||| b = a * 4294967296 + b := by
    have h := Nat.two_pow_add_eq_or_of_lt (i := 32) (b := b) (by omega) a
    rw [show (2:Nat)^32 = 4294967296 from rfl] at h
    rw [Nat.mul_comm a]; exact h.symm
  rw [this]; simp

theorem u64_wrap_eq (x : Int) : IntKind.u64.wrap x = x % 18446744073709551616 := by simp [IntKind.wrap, IntKind.bits, IntKind.signed]
theorem uint_mod (a k : Int) (h0 : 0 < k) (h1 : k < 9223372036854775808) : wrap64 ((IntKind.u64.wrap a).tmod k) = a % 18446744073709551616 % k := by
  have e : IntKind.u64.wrap a = a % 18446744073709551616 := by simp [IntKind.wrap, IntKind.bits, IntKind.signed]
  have p0 : 0 ≤ a % 18446744073709551616 := by omega
  have l1 := Int.emod_lt_of_pos (a % 18446744073709551616) h0
  have l0 := Int.emod_nonneg (a % 18446744073709551616) (show k ≠ 0 by omega)
  rw [e, Int.tmod_eq_emod_of_nonneg p0]
  generalize a % 18446744073709551616 % k = z at *
  unfold wrap64
  omega
/-- The id of a client's number. -/
def ownF (c n : Int) : Int := if 0 ≤ c ∧ c < 16 then c * 4294967296 + n else 0
/-- The client of an id. -/
def clientF (id : Int) : Int := if id / 4294967296 < 16 then id / 4294967296 else -1

theorem own_any (c n : Int) (w : World) (h2 : 0 ≤ n) (h3 : n < 4294967296) (h4 : -9223372036854775808 ≤ c) (h5 : c < 9223372036854775808) :
    Calls Try.prog 54 #[.int .i64 c, .int .u32 n] w fun e w' => e = .returned (.int .u64 (ownF c n)) ∧ w = w' := by
  by_cases h : 0 ≤ c ∧ c < 16
  · have e := shl32_or c n h.1 h.2 h2 h3
    have E : ownF c n = c * 4294967296 + n := by unfold ownF; rw [if_pos h]
    obtain ⟨h0, h1⟩ := h
    go_enter Try.func54, Try.ntmps54
    go_wp2
    go_ret
    exact ⟨by first | rfl | (rw [E]; rfl) | rw [E], rfl⟩
  · have E : ownF c n = 0 := by unfold ownF; rw [if_neg h]
    by_cases h0 : c < 0
    · go_enter Try.func54, Try.ntmps54
      go_wp2
      go_ret
      exact ⟨by first | rfl | (rw [E]; rfl) | rw [E], rfl⟩
    · have h1 : 16 ≤ c := by omega
      clear h
      go_enter Try.func54, Try.ntmps54
      go_wp2
      go_ret
      exact ⟨by first | rfl | (rw [E]; rfl) | rw [E], rfl⟩


theorem ownF_bound (c n : Int) (h2 : 0 ≤ n) (h3 : n < 4294967296) : 0 ≤ ownF c n ∧ ownF c n < 18446744073709551616 := by
  unfold ownF; split <;> omega
theorem clientF_own (c n : Int) (h0 : 0 ≤ c) (h1 : c < 16) (h2 : 0 ≤ n) (h3 : n < 4294967296) : clientF (ownF c n) = c := by
  have e : ownF c n = c * 4294967296 + n := if_pos ⟨h0, h1⟩
  unfold clientF; rw [e, if_pos (by omega)]; omega
theorem ownF_inj (c n d m : Int) (h0 : 0 ≤ c ∧ c < 16) (h1 : 0 ≤ d ∧ d < 16) (h2 : 0 ≤ n ∧ n < 4294967296) (h3 : 0 ≤ m ∧ m < 4294967296) (h : ownF c n = ownF d m) : c = d ∧ n = m := by
  unfold ownF at h; rw [if_pos h0, if_pos h1] at h; omega
/-- A record may be: the test, its number of values handed over. -/
def rightF (a id ver : Int) (n : Nat) : Bool := decide (1 ≤ a) && decide (a ≤ 8) && decide ((n : Int) = a) && decide (id / 4294967296 < 16) && decide (1 ≤ ver)



end Go.Proofs.Ytjcbmfopcohcmaa
