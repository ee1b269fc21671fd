/- Dice: what a step, a roll, a far step give, and what stays (the program's and the references'). Conditions: the dice are a block of one number. -/
import Derived.Test.YtjcbmfopcohcmaaRec
import Derived.Test.YtjcbmfopcohcmaaBase
import Derived.Outline
import Derived.Lib.Hide
namespace Go.Proofs.Ytjcbmfopcohcmaa
open Go.RowKit Go.ChangeShapes
set_option maxRecDepth 100000
set_option linter.unusedVariables false

/-- A step's new state, and what it tells. -/
def stepF (s : Int) : Int := IntKind.u64.wrap (s + 11400714819323198485)
def mixF (x k c : Int) : Int := IntKind.u64.wrap (bits .xor .u64 x (x / k) * c)
def endF (x : Int) : Int := bits .xor .u64 x (x / 2147483648)
def outF (s : Int) : Int := endF (mixF (mixF (stepF s) 1073741824 13787848793156543929) 134217728 10723151780598845931)

theorem u64_wrap (x : Int) : 0 ≤ IntKind.u64.wrap x ∧ IntKind.u64.wrap x < 18446744073709551616 := by
  have := bounds_u64 (wf_wrap .u64 x); omega
theorem stepF_bound (s : Int) : 0 ≤ stepF s ∧ stepF s < 18446744073709551616 := u64_wrap _
theorem outF_bound (s : Int) : 0 ≤ outF s ∧ outF s < 18446744073709551616 := by
  have := bounds_u64 (wf_bits .xor .u64 (mixF (mixF (stepF s) 1073741824 13787848793156543929) 134217728 10723151780598845931) (mixF (mixF (stepF s) 1073741824 13787848793156543929) 134217728 10723151780598845931 / 2147483648))
  unfold outF endF; omega

theorem step_any (b : Nat) (s : Int) (w : World) (hx : Box w b #[.int .u64 s]) (h0 : 0 ≤ s) (h1 : s < 18446744073709551616) :
    Calls Try.prog 33 #[.pointer (some ⟨b, 0, none⟩)] w fun e w' => e = .returned (.int .u64 (outF s)) ∧ Only (· = b) w w' ∧ Box w' b #[.int .u64 (stepF s)] := by
  have hc : Box (w.setCell ⟨b, 0, none⟩ (.int .u64 (stepF s))) b #[.int .u64 (stepF s)] := hx.set _
  have ho : Only (· = b) w (w.setCell ⟨b, 0, none⟩ (.int .u64 (stepF s))) := (Only.refl (· = b) w).setCell (p := ⟨b, 0, none⟩) (.inl rfl) _
  have c := hx.cell
  have f := hx.free
  have z := hx.lt
  clear hx
  go_enter Try.func33, Try.ntmps33
  go_wp2
  go_ret
  exact ⟨rfl, ho, hc⟩
theorem rdstep_any (b : Nat) (s : Int) (w : World) (hx : Box w b #[.int .u64 s]) (h0 : 0 ≤ s) (h1 : s < 18446744073709551616) :
    Calls Try.prog 34 #[.pointer (some ⟨b, 0, none⟩)] w fun e w' => e = .returned (.int .u64 (outF s)) ∧ Only (· = b) w w' ∧ Box w' b #[.int .u64 (stepF s)] := by
  have hc : Box (w.setCell ⟨b, 0, none⟩ (.int .u64 (stepF s))) b #[.int .u64 (stepF s)] := hx.set _
  have ho : Only (· = b) w (w.setCell ⟨b, 0, none⟩ (.int .u64 (stepF s))) := (Only.refl (· = b) w).setCell (p := ⟨b, 0, none⟩) (.inl rfl) _
  have c := hx.cell
  have f := hx.free
  have z := hx.lt
  clear hx
  go_enter Try.func34, Try.ntmps34
  go_wp2
  go_quiet (fail)
  go_wp2
  go_ret
  exact ⟨rfl, ho.drewN _, hc.drewN _⟩
attribute [irreducible] outF stepF
theorem step_nil (w : World) : Calls Try.prog 33 #[.pointer none] w fun e w' => e = .returned (.int .u64 0) ∧ w = w' := by
  go_enter Try.func33, Try.ntmps33
  go_wp2
  go_ret
  exact ⟨rfl, rfl⟩
theorem roll_nil (n : Int) (w : World) : Calls Try.prog 75 #[.pointer none, .int .i64 n] w fun e w' => e = .returned (.int .i64 0) ∧ w = w' := by
  go_enter Try.func75, Try.ntmps75
  go_wp2
  go_ret
  exact ⟨rfl, rfl⟩
theorem roll_any (b : Nat) (s n : Int) (w : World) (hx : Box w b #[.int .u64 s]) (h0 : 0 ≤ s) (h1 : s < 18446744073709551616) (hn : 0 < n) (hn2 : n < 1000000) :
    Calls Try.prog 75 #[.pointer (some ⟨b, 0, none⟩), .int .i64 n] w fun e w' => e = .returned (.int .i64 (outF s % n)) ∧ Only (· = b) w w' ∧ Box w' b #[.int .u64 (stepF s)] := by
  obtain ⟨o0, o1⟩ := outF_bound s
  have m0 := Int.emod_nonneg (outF s) (show n ≠ 0 by omega)
  have m1 := Int.emod_lt_of_pos (outF s) hn
  go_enter Try.func75, Try.ntmps75
  go_wp2_with (go_at_call 33; refine (step_any b s _ hx h0 h1).mono ?_; rintro e w' ⟨rfl, ho, hc⟩)
  go_ret
  exact ⟨rfl, ho, hc⟩
theorem rroll_any (b : Nat) (s n : Int) (w : World) (hx : Box w b #[.int .u64 s]) (h0 : 0 ≤ s) (h1 : s < 18446744073709551616) (hn : 0 < n) (hn2 : n < 1000000) :
    Calls Try.prog 76 #[.pointer (some ⟨b, 0, none⟩), .int .i64 n] w fun e w' => e = .returned (.int .i64 (outF s % n)) ∧ Only (· = b) w w' ∧ Box w' b #[.int .u64 (stepF s)] := by
  obtain ⟨o0, o1⟩ := outF_bound s
  have m0 := Int.emod_nonneg (outF s) (show n ≠ 0 by omega)
  have m1 := Int.emod_lt_of_pos (outF s) hn
  go_enter Try.func76, Try.ntmps76
  go_wp2_with (go_at_call 34; refine (rdstep_any b s _ hx h0 h1).mono ?_; rintro e w' ⟨rfl, ho, hc⟩)
  go_ret
  exact ⟨rfl, ho, hc⟩
theorem dice_new (s : Int) (w : World) : Calls Try.prog 26 #[.int .u64 s] w fun e w' => e = .returned (.pointer (some ⟨w.heap.size, 0, none⟩)) ∧ Below w.heap.size w w' ∧ Box w' w.heap.size #[.int .u64 s] := by
  go_enter Try.func26, Try.ntmps26
  go_wp2
  go_ret
  exact ⟨rfl, (by repeat (first | exact Below.refl _ _ | assumption | apply Below.drew | apply belowN | (refine Below.alloc ?_ (by first | exact Nat.le_refl _ | (simp; done) | (simp; omega)) _) | (refine Below.setCell ?_ (by first | exact Nat.le_refl _ | (simp; done) | (simp; omega)) _))), Box.new _ _ _⟩
end Go.Proofs.Ytjcbmfopcohcmaa
