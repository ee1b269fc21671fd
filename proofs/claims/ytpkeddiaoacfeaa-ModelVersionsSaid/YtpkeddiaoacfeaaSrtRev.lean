/- slices.Sort at whole numbers: reverseRange, breakPatterns. Conditions: the row is one's own. -/
import Derived.Test.YtpkeddiaoacfeaaSrtPiv
namespace Go.Proofs.Ytpkeddiaoacfeaa
open Go.RowKit Go.Sort
set_option maxRecDepth 100000
set_option linter.unusedVariables false
set_option linter.unusedSimpArgs false

/-- The row, its places from x to y permuted. -/
def Prm (k : IntKind) (T : TypeId) (C0 : Array Value) (w0 : World) (b : Nat) (d : Array Int) (x y : Nat) (w : World) : Prop := ∃ d', PermIn x y d d' ∧ RowI k T C0 w0 b d' w
theorem prm_swap {x y i j : Nat} {d dk : Array Int} (h : PermIn x y d dk) (hi : x ≤ i) (hi2 : i < y) (hj : x ≤ j) (hj2 : j < y) (hy : y ≤ d.size) : PermIn x y d (swp dk i j) :=
  permIn_trans _ _ _ _ _ h (swp_permIn dk x y i j hi hi2 hj hj2 (by rw [h.1]; exact hy))

set_option maxHeartbeats 1000000 in
theorem srt_rev_u64 {T : TypeId} {C0 : Array Value} {w0 w : World} {b cap x y n : Nat} {d : Array Int} (h : RowI .u64 T C0 w0 b d w) (hn : d.size = n) (hxy : x < y) (hy : y ≤ n) (hsz : n < 4611686018427387904) :
    Calls Try.prog 135 #[.slice (some ⟨b, 0, none⟩) n cap, .int .i64 x, .int .i64 y] w fun e w' => e = .returned (.tuple #[]) ∧ Prm .u64 T C0 w0 b d x y w' := by
  obtain ⟨z, rfl⟩ : ∃ z, y = z + 1 := ⟨y - 1, by omega⟩
  have HH := Lib.hid h; have HN := Lib.hid hn
  have w5 := wrap_nat64 (k := z) (by omega)
  clear h hn
  go_enter Try.func135, Try.ntmps135
  go_wp2
  go_loopw [6, 7] (fun s6 s7 wr => ∃ (i j : Nat) (dk : Array Int), s6 = .int .i64 i ∧ s7 = .int .i64 j ∧ x ≤ i ∧ j ≤ z ∧ i ≤ j + 1 ∧ dk.size = n ∧ PermIn x (z + 1) d dk ∧ RowI .u64 T C0 w0 b dk wr) (fun i j _ => (intOf j).toNat + 1 - (intOf i).toNat)
  case atStart => exact ⟨x, z, d, rfl, by go_num, Nat.le_refl _, Nat.le_refl _, by omega, HN.out, permIn_refl _ _ _, HH.out⟩
  case round =>
    obtain ⟨i, j, dk, rfl, rfl, hxi, hjz, hij, hk, hP, hR⟩ := hrel
    have HP := Lib.hid hP; have HR := Lib.hid hR; have HK := Lib.hid hk
    clear hP hR hk
    by_cases hlt : i < j
    · obtain ⟨q, rfl⟩ : ∃ q, j = q + 1 := ⟨j - 1, by omega⟩
      have c1 := HR.out.cell (i := i) (by have := HK.out; omega)
      have c2 := HR.out.cell (i := q + 1) (by have := HK.out; omega)
      have fz := HR.out.free
      have zb := HR.out.lt
      have q1 : (i : Int) < (n : Int) := by omega
      have q2 : (q : Int) + 1 < (n : Int) := by omega
      have q3 : ((q : Int) + 1).toNat = q + 1 := by omega
      have q4 : IntKind.i64.wrap ((q : Int) + 1) = (q : Int) + 1 := by rw [show ((q : Int) + 1) = ((q + 1 : Nat) : Int) by omega]; exact wrap_nat64 (by omega)
      have q5 := wrap_nat64 (k := q) (by omega)
      have S := HR.out.swap (i := i) (j := q + 1) (by have := HK.out; omega) (by have := HK.out; omega)
      generalize hu : dk[i]! = u at *
      generalize hv : dk[q + 1]! = v at *
      have HS := Lib.hid S
      clear S hu hv
      go_wp2
      go_region
      have HR2 := Lib.hid HS.out.drew
      have HP2 := Lib.hid (prm_swap HP.out (i := i) (j := q + 1) hxi (by omega) (by omega) (by omega) (by have := HN.out; omega))
      clear c1 c2 fz zb
      go_wp2
      go_roundw
      case rel => exact ⟨i + 1, q, swp dk i (q + 1), by go_num, by go_num, by omega, by omega, by omega, by rw [size_swp']; exact HK.out, HP2.out, HR2.out⟩
      case measure => simp [intOf]; omega
    · go_wp2
      go_end0
      exact ⟨rfl, dk, HP.out, HR.out⟩
end Go.Proofs.Ytpkeddiaoacfeaa
