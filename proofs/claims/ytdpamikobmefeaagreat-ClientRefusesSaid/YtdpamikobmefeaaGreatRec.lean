/- The plain functions of package record over whole numbers: contracts of Own, Client, Right (a walk each). Conditions: the arguments are numbers of their kinds. -/
import Derived.Test.YtdpamikobmefeaaGreatRows
import Derived.WalkKit
import Derived.ProofKit
import Derived.OpenShut
import Derived.ShutString
import Derived.Laws.Bits64b
import Derived.Deep.QuietTactic
import Derived.BigQuiet
namespace Go.Proofs.YtdpamikobmefeaaGreat
open Go.RowKit
set_option maxRecDepth 100000
set_option linter.unusedVariables false

theorem shl32_or (c n : Int) (h0 : 0 ≤ c) (h1 : c < 16) (h2 : 0 ≤ n) (h3 : n < 4294967296) : bits .or .u64 (c * 4294967296) n = c * 4294967296 + n := by
  obtain ⟨a, rfl⟩ := Int.eq_ofNat_of_zero_le h0
  obtain ⟨b, rfl⟩ := Int.eq_ofNat_of_zero_le h2
  have e := bits_or_u64_nat (a * 4294967296) b (by omega) (by omega)
  rw [show ((a * 4294967296 : Nat) : Int) = (a : Int) * 4294967296 from by simp] at e
  rw [e]
  have : a * 4294967296 ||| b = a * 4294967296 + b := by
    have h := Nat.two_pow_add_eq_or_of_lt (i := 32) (b := b) (by omega) a
    rw [show (2:Nat)^32 = 4294967296 from rfl] at h
    rw [Nat.mul_comm a]; exact h.symm
  rw [this]; simp

theorem u64_wrap_eq (x : Int) : IntKind.u64.wrap x = x % 18446744073709551616 := by simp [IntKind.wrap, IntKind.bits, IntKind.signed]
theorem uint_mod (a k : Int) (h0 : 0 < k) (h1 : k < 9223372036854775808) : wrap64 ((IntKind.u64.wrap a).tmod k) = a % 18446744073709551616 % k := by
  have e : IntKind.u64.wrap a = a % 18446744073709551616 := by simp [IntKind.wrap, IntKind.bits, IntKind.signed]
  have p0 : 0 ≤ a % 18446744073709551616 := by omega
  have l1 := Int.emod_lt_of_pos (a % 18446744073709551616) h0
  have l0 := Int.emod_nonneg (a % 18446744073709551616) (show k ≠ 0 by omega)
  rw [e, Int.tmod_eq_emod_of_nonneg p0]
  generalize a % 18446744073709551616 % k = z at *
  unfold wrap64
  omega
/-- The id of a client's number. -/
def ownF (c n : Int) : Int := if 0 ≤ c ∧ c < 16 then c * 4294967296 + n else 0
/-- The client of an id. -/
def clientF (id : Int) : Int := if id / 4294967296 < 16 then id / 4294967296 else -1

theorem own_any (c n : Int) (w : World) (h2 : 0 ≤ n) (h3 : n < 4294967296) (h4 : -9223372036854775808 ≤ c) (h5 : c < 9223372036854775808) :
    Calls Tryz.prog 23 #[.int .i64 c, .int .u32 n] w fun e w' => e = .returned (.int .u64 (ownF c n)) ∧ w = w' := by
  by_cases h : 0 ≤ c ∧ c < 16
  · have e := shl32_or c n h.1 h.2 h2 h3
    have E : ownF c n = c * 4294967296 + n := by unfold ownF; rw [if_pos h]
    obtain ⟨h0, h1⟩ := h
    go_enter Tryz.func23, Tryz.ntmps23
    go_wp2
    go_ret
    exact ⟨by first | rfl | (rw [E]; rfl) | rw [E], rfl⟩
  · have E : ownF c n = 0 := by unfold ownF; rw [if_neg h]
    by_cases h0 : c < 0
    · go_enter Tryz.func23, Tryz.ntmps23
      go_wp2
      go_ret
      exact ⟨by first | rfl | (rw [E]; rfl) | rw [E], rfl⟩
    · have h1 : 16 ≤ c := by omega
      clear h
      go_enter Tryz.func23, Tryz.ntmps23
      go_wp2
      go_ret
      exact ⟨by first | rfl | (rw [E]; rfl) | rw [E], rfl⟩

theorem client_any (id : Int) (w : World) (h0 : 0 ≤ id) (h1 : id < 18446744073709551616) :
    Calls Tryz.prog 116 #[.int .u64 id] w fun e w' => e = .returned (.int .i64 (clientF id)) ∧ w = w' := by
  by_cases h : id / 4294967296 < 16
  · have E : clientF id = id / 4294967296 := by unfold clientF; rw [if_pos h]
    go_enter Tryz.func116, Tryz.ntmps116
    go_wp2
    go_ret
    exact ⟨by first | rfl | (rw [E]; rfl) | rw [E], rfl⟩
  · have E : clientF id = -1 := by unfold clientF; rw [if_neg h]
    have h' : 16 ≤ id / 4294967296 := by omega
    go_enter Tryz.func116, Tryz.ntmps116
    go_wp2
    go_ret
    exact ⟨by first | rfl | (rw [E]; rfl) | rw [E], rfl⟩

theorem ownF_bound (c n : Int) (h2 : 0 ≤ n) (h3 : n < 4294967296) : 0 ≤ ownF c n ∧ ownF c n < 18446744073709551616 := by
  unfold ownF; split <;> omega
theorem clientF_own (c n : Int) (h0 : 0 ≤ c) (h1 : c < 16) (h2 : 0 ≤ n) (h3 : n < 4294967296) : clientF (ownF c n) = c := by
  have e : ownF c n = c * 4294967296 + n := if_pos ⟨h0, h1⟩
  unfold clientF; rw [e, if_pos (by omega)]; omega
theorem ownF_inj (c n d m : Int) (h0 : 0 ≤ c ∧ c < 16) (h1 : 0 ≤ d ∧ d < 16) (h2 : 0 ≤ n ∧ n < 4294967296) (h3 : 0 ≤ m ∧ m < 4294967296) (h : ownF c n = ownF d m) : c = d ∧ n = m := by
  unfold ownF at h; rw [if_pos h0, if_pos h1] at h; omega
/-- A record may be: the test, its number of values handed over. -/
def rightF (a id ver : Int) (n : Nat) : Bool := decide (1 ≤ a) && decide (a ≤ 8) && decide ((n : Int) = a) && decide (id / 4294967296 < 16) && decide (1 ≤ ver)

theorem right_any (a id ver : Int) (A : Option Addr) (l cap : Nat) (w : World) (h0 : 0 ≤ id) (h1 : id < 18446744073709551616) (h2 : 0 ≤ ver) (h3 : ver < 18446744073709551616) (h4 : -9223372036854775808 ≤ a) (h5 : a < 9223372036854775808) (hl : (l : Int) ≤ 9223372036854775807) :
    Calls Tryz.prog 105 #[.int .i64 a, .agg #[.int .u64 id, .int .u64 ver, .slice A l cap]] w fun e w' => e = .returned (.bool (rightF a id ver l)) ∧ w' = w.alloc (.cells #[.int .u64 id, .int .u64 ver, .slice A l cap] 52) := by
  by_cases c1 : 1 ≤ a
  · by_cases c2 : a ≤ 8
    · by_cases c3 : (l : Int) = a
      · by_cases c4 : id / 4294967296 < 16
        · have hc : clientF id = id / 4294967296 := by unfold clientF; rw [if_pos c4]
          have hc0 : 0 ≤ id / 4294967296 := by omega
          have E : rightF a id ver l = decide (1 ≤ ver) := by unfold rightF; simp [c1, c2, c3, c4]
          go_enter Tryz.func105, Tryz.ntmps105
          go_wp2_with (go_at_call 116; refine (client_any _ _ h0 h1).mono ?_; rintro e w' ⟨rfl, rfl⟩)
          go_ret
          exact ⟨by first | rfl | (rw [E]; rfl) | rw [E], rfl⟩
        · have hc : clientF id = -1 := by unfold clientF; rw [if_neg c4]
          have E : rightF a id ver l = false := by unfold rightF; simp [c4]
          go_enter Tryz.func105, Tryz.ntmps105
          go_wp2_with (go_at_call 116; refine (client_any _ _ h0 h1).mono ?_; rintro e w' ⟨rfl, rfl⟩)
          go_ret
          exact ⟨by first | rfl | (rw [E]; rfl) | rw [E], rfl⟩
      · have E : rightF a id ver l = false := by unfold rightF; simp [c3]
        go_enter Tryz.func105, Tryz.ntmps105
        go_wp2
        go_ret
        exact ⟨by first | rfl | (rw [E]; rfl) | rw [E], rfl⟩
    · have E : rightF a id ver l = false := by unfold rightF; simp [c2]
      go_enter Tryz.func105, Tryz.ntmps105
      go_wp2
      go_ret
      exact ⟨by first | rfl | (rw [E]; rfl) | rw [E], rfl⟩
  · have E : rightF a id ver l = false := by unfold rightF; simp [c1]
    go_enter Tryz.func105, Tryz.ntmps105
    go_wp2
    go_ret
    exact ⟨by first | rfl | (rw [E]; rfl) | rw [E], rfl⟩

theorem right_b (a id ver : Int) (A : Option Addr) (l cap : Nat) (w : World) (h0 : 0 ≤ id) (h1 : id < 18446744073709551616) (h2 : 0 ≤ ver) (h3 : ver < 18446744073709551616) (h4 : -9223372036854775808 ≤ a) (h5 : a < 9223372036854775808) (hl : (l : Int) ≤ 9223372036854775807) :
    Calls Tryz.prog 105 #[.int .i64 a, .agg #[.int .u64 id, .int .u64 ver, .slice A l cap]] w fun e w' => e = .returned (.bool (rightF a id ver l)) ∧ Below w.heap.size w w' :=
  (right_any a id ver A l cap w h0 h1 h2 h3 h4 h5 hl).mono fun e w' ⟨h, hw⟩ => ⟨h, by rw [hw]; exact (Below.refl _ _).alloc (Nat.le_refl _) _⟩

end Go.Proofs.YtdpamikobmefeaaGreat
