/- math/bits.Len, slices' nextPowerOfTwo and xorshift: the library's contracts, laid at this program. Conditions: none. -/
import Derived.Test.YtpkeddiaoacfeaaSrtRev
import Derived.Shelf.SlSortCmp.Xorshift
import Derived.Shelf.SlGeneric
import Derived.Ground.SlsfProg
namespace Go.Proofs.Ytpkeddiaoacfeaa
open Go.Shelf Go.RowKit Go.Lib Go.Sort
set_option maxRecDepth 100000
set_option linter.unusedVariables false
def srtPow_ren : Go.Shelf.Ren := ⟨fun | 15 => 118 | 28 => 140 | 29 => 141 | 47 => 144 | 48 => 145 | n => n, fun | 3 => 3 | 4 => 4 | 5 => 5 | 9 => 9 | 39 => 31 | 53 => 39 | 55 => 27 | 0 => 0 | 66 => 218 | 76 => 224 | n => n, fun | n => n⟩
theorem srtPow : Go.Proofs.SlLaysF0.n47 Try.prog srtPow_ren := {
  mixed := by kernel_rfl
  f15 := Try.func118.trans (congrArg some (by kernel_rfl))
  f28 := Try.func140.trans (congrArg some (by kernel_rfl))
  f29 := Try.func141.trans (congrArg some (by kernel_rfl))
  f47 := Try.func144.trans (congrArg some (by kernel_rfl))
  t3 := Try.underlying3
  a3 := Try.isAgg3
  z3 := Try.sizeOf3
  v3 := Try.zeroValue3
  t4 := Try.underlying4
  a4 := Try.isAgg4
  z4 := Try.sizeOf4
  v4 := Try.zeroValue4
  t5 := Try.underlying5
  a5 := Try.isAgg5
  z5 := Try.sizeOf5
  v5 := Try.zeroValue5
  t9 := Try.underlying9
  a9 := Try.isAgg9
  z9 := Try.sizeOf9
  v9 := Try.zeroValue9
  t39 := Try.underlying31
  a39 := Try.isAgg31
  z39 := Try.sizeOf31
  v39 := Try.zeroValue31
  t53 := Try.underlying39
  a53 := Try.isAgg39
  z53 := Try.sizeOf39
  v53 := Try.zeroValue39
  t55 := Try.underlying27
  a55 := Try.isAgg27
  z55 := Try.sizeOf27
  v55 := Try.zeroValue27 }
def srtXor_ren : Go.Shelf.Ren := ⟨fun | 15 => 118 | 28 => 140 | 29 => 141 | 47 => 144 | 48 => 145 | n => n, fun | 3 => 3 | 4 => 4 | 5 => 5 | 9 => 9 | 39 => 31 | 53 => 39 | 55 => 27 | 0 => 0 | 66 => 218 | 76 => 224 | n => n, fun | n => n⟩
theorem srtXor : Go.Proofs.SlLaysF0.n48 Try.prog srtXor_ren := {
  mixed := by kernel_rfl
  f48 := Try.func145.trans (congrArg some (by kernel_rfl))
  t0 := Try.underlying0
  a0 := Try.isAgg0
  z0 := Try.sizeOf0
  v0 := Try.zeroValue0
  t39 := Try.underlying31
  a39 := Try.isAgg31
  z39 := Try.sizeOf31
  v39 := Try.zeroValue31
  t55 := Try.underlying27
  a55 := Try.isAgg27
  z55 := Try.sizeOf27
  v55 := Try.zeroValue27
  t66 := Try.underlying218
  a66 := Try.isAgg218
  z66 := Try.sizeOf218
  v66 := Try.zeroValue218
  t76 := Try.underlying224
  a76 := Try.isAgg224
  z76 := Try.sizeOf224
  v76 := Try.zeroValue224 }
def srtLen_ren : Go.Shelf.Ren := ⟨fun | 15 => 118 | 28 => 140 | 29 => 141 | 47 => 144 | 48 => 145 | n => n, fun | 3 => 3 | 4 => 4 | 5 => 5 | 9 => 9 | 39 => 31 | 53 => 39 | 55 => 27 | 0 => 0 | 66 => 218 | 76 => 224 | n => n, fun | n => n⟩
theorem srtLen : Go.Proofs.SlLaysF0.n15 Try.prog srtLen_ren := {
  mixed := by kernel_rfl
  f15 := Try.func118.trans (congrArg some (by kernel_rfl))
  f28 := Try.func140.trans (congrArg some (by kernel_rfl))
  f29 := Try.func141.trans (congrArg some (by kernel_rfl))
  t3 := Try.underlying3
  a3 := Try.isAgg3
  z3 := Try.sizeOf3
  v3 := Try.zeroValue3
  t4 := Try.underlying4
  a4 := Try.isAgg4
  z4 := Try.sizeOf4
  v4 := Try.zeroValue4
  t5 := Try.underlying5
  a5 := Try.isAgg5
  z5 := Try.sizeOf5
  v5 := Try.zeroValue5
  t9 := Try.underlying9
  a9 := Try.isAgg9
  z9 := Try.sizeOf9
  v9 := Try.zeroValue9
  t39 := Try.underlying31
  a39 := Try.isAgg31
  z39 := Try.sizeOf31
  v39 := Try.zeroValue31
  t53 := Try.underlying39
  a53 := Try.isAgg39
  z53 := Try.sizeOf39
  v53 := Try.zeroValue39
  t55 := Try.underlying27
  a55 := Try.isAgg27
  z55 := Try.sizeOf27
  v55 := Try.zeroValue27 }
theorem xor_next (rb X : Nat) (hX : X < 18446744073709551616) (w : World) (h : Box w rb #[.int .u64 X]) :
    Calls Try.prog 145 #[.pointer (some ⟨rb, 0, none⟩)] w fun e w' => ∃ Y : Nat, Y < 18446744073709551616 ∧ e = .returned (.int .u64 (Y : Int)) ∧ Only (· = rb) w w' ∧ Box w' rb #[.int .u64 (Y : Int)] := by
  have hc : w.cell? ⟨rb, 0, none⟩ = some (.int .u64 X) := by rw [h.cell]; rfl
  refine (AnyF.xorshift_Next srtXor rb 0 X hX w hc (h.free 0)).mono ?_
  rintro e w' ⟨he, rfl⟩
  refine ⟨_, ?_, he, ((Only.refl (· = rb) w).setCell (p := ⟨rb, 0, none⟩) (.inl rfl) _).drewN 3, ?_⟩
  · exact xorNextN_lt X hX
  · have := h.set (i := 0) (.int .u64 (xorNextN X : Nat))
    simpa using this.drewN 3
theorem pow_next (n : Nat) (h0 : 0 < n) (hn : n < 4611686018427387904) (w : World) :
    Calls Try.prog 144 #[.int .i64 n] w fun e w' => ∃ m : Nat, n < m ∧ m ≤ 2 * n ∧ e = .returned (.int .u64 (m : Int)) ∧ w = w' := by
  refine (AnyF.nextPowerOfTwo srtPow n hn w).mono ?_
  rintro e w' ⟨he, rfl⟩
  refine ⟨1 <<< bitsLen n, ?_, ?_, he, rfl⟩
  · rw [Nat.one_shiftLeft, bitsLen, if_neg (by omega)]
    exact Nat.lt_log2_self
  · rw [Nat.one_shiftLeft, bitsLen, if_neg (by omega), Nat.pow_succ, Nat.mul_comm]
    exact Nat.mul_le_mul_left 2 (Nat.log2_self_le (by omega))
theorem bitLenAux_le : ∀ f x, bitLenAux f x ≤ f
  | 0, _ => Nat.le_refl _
  | f + 1, x => by
    unfold bitLenAux
    split
    · omega
    · have := bitLenAux_le f (x / 2); omega
theorem bitLen_le (x : Nat) : Lib.bitLen x ≤ 64 := bitLenAux_le 64 x
theorem bits_len (n : Nat) (hn : n < 4611686018427387904) (w : World) :
    Calls Try.prog 118 #[.int .u64 n] w fun e w' => ∃ m : Nat, m ≤ 64 ∧ e = .returned (.int .i64 (m : Int)) ∧ w = w' := by
  have h := Any.bits_Len (SlLaysF0.n15.bits srtLen) (n : Int) w (by omega) (by omega)
  refine h.mono ?_
  rintro e w' ⟨he, rfl⟩
  exact ⟨_, bitLen_le _, he, rfl⟩
theorem and_mask {Y m : Nat} (hY : Y < 18446744073709551616) (h0 : 0 < m) (hm : m < 9223372036854775808) : ∃ t : Nat, t < m ∧ bits .and .u64 (Y : Int) ((m : Int) - 1) = (t : Int) := by
  refine ⟨Y &&& (m - 1), ?_, ?_⟩
  · have := Nat.and_le_right (n := Y) (m := m - 1)
    omega
  · rw [show ((m : Int) - 1) = ((m - 1 : Nat) : Int) by omega, bits_and_u64_nat _ _ hY (by omega)]
end Go.Proofs.Ytpkeddiaoacfeaa
