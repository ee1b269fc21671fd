/- How far a link leads: links.Far, and the document's. Conditions: the dice are a block of one number. -/
import Derived.Test.YtjcbmfopcohcmaaDice
import Derived.Test.YtjcbmfopcohcmaaData
import Derived.Test.YtjcbmfopcohcmaaCircle
import Derived.Outline
namespace Go.Proofs.Ytjcbmfopcohcmaa
open Go.RowKit Go.ChangeShapes
set_option maxRecDepth 100000
set_option linter.unusedVariables false

theorem pow_of (r : Int) (h0 : 0 ≤ r) (h1 : r < 32) : ∃ p : Int, 1 ≤ p ∧ p ≤ 2147483648 ∧ (2 : Int) ^ r.toNat = p := by
  obtain ⟨n, rfl⟩ := Int.eq_ofNat_of_zero_le h0
  have hn : n < 32 := by omega
  have e : (2 : Int) ^ n = ((2 ^ n : Nat) : Int) := by rw [Int.natCast_pow]; rfl
  have hpos : 0 < (2 : Nat) ^ n := Nat.pow_pos (by decide)
  have hle : (2 : Nat) ^ n ≤ 2147483648 := Nat.pow_le_pow_right (n := 2) (i := n) (j := 31) (by decide) (by omega)
  rw [Int.toNat_natCast, e]
  generalize (2 : Nat) ^ n = m at hpos hle
  exact ⟨(m : Int), by omega, by omega, rfl⟩
theorem wrap_of {x : Int} (h0 : 0 ≤ x) (h1 : x < 18446744073709551616) : IntKind.u64.wrap x = x := by
  rw [u64_wrap_eq]; exact Int.emod_eq_of_lt h0 h1

/-- How far a link leads. -/
def leapF (s : Int) : Int := (2 : Int) ^ (outF s % 32).toNat + outF (stepF s) % (2 : Int) ^ (outF s % 32).toNat
theorem leapF_bound (s : Int) : (2 : Int) ^ (outF s % 32).toNat ≤ leapF s ∧ leapF s < 2 * (2 : Int) ^ (outF s % 32).toNat := by
  obtain ⟨p, p0, p1, hp⟩ := pow_of (outF s % 32) (by omega) (by omega)
  unfold leapF; rw [hp]
  have := Int.emod_nonneg (outF (stepF s)) (show p ≠ 0 by omega)
  have := Int.emod_lt_of_pos (outF (stepF s)) (show 0 < p by omega)
  omega

theorem leap_any (b : Nat) (s : Int) (w : World) (hx : Box w b #[.int .u64 s]) (h0 : 0 ≤ s) (h1 : s < 18446744073709551616) :
    Calls Try.prog 31 #[.pointer (some ⟨b, 0, none⟩)] w fun e w' => e = .returned (.int .u32 (leapF s)) ∧ Only (· = b) w w' ∧ Box w' b #[.int .u64 (stepF (stepF s))] := by
  have s0 := stepF_bound s
  obtain ⟨q0, q1⟩ := outF_bound (stepF s)
  have r0 : 0 ≤ outF s % 32 ∧ outF s % 32 < 32 := by omega
  obtain ⟨p, p0, p1, hp⟩ := pow_of (outF s % 32) (by omega) (by omega)
  have HF : Hid (leapF s = p + outF (stepF s) % p) := by show leapF s = _; unfold leapF; rw [hp]
  generalize hr : outF s % 32 = r at r0 hp
  have Hr := Lib.hid hr; clear hr
  have m0 := Int.emod_nonneg (outF (stepF s)) (show p ≠ 0 by omega)
  have m1 := Int.emod_lt_of_pos (outF (stepF s)) (show 0 < p by omega)
  have e1 : IntKind.u64.wrap p = p := wrap_of (by omega) (by omega)
  have e2 : IntKind.u64.wrap (p + outF (stepF s) % p) = p + outF (stepF s) % p := wrap_of (by omega) (by omega)
  have e3 : (p + outF (stepF s) % p) % 4294967296 = p + outF (stepF s) % p := Int.emod_eq_of_lt (by omega) (by omega)
  have e4 : ¬ p = 0 := by omega
  rw [HF.out]
  go_enter Try.func31, Try.ntmps31
  go_wp2_with (first
   | (go_at_call 75; (with_reducible refine (roll_any b s 32 _ hx h0 h1 (by omega) (by omega)).mono ?_); rintro e w1 ⟨rfl, ho, hc⟩; rw [Hr.out])
   | (go_at_call 33; (with_reducible refine (step_any b (stepF s) _ (by assumption) s0.1 s0.2).mono ?_); rintro e w1 ⟨rfl, ho2, hc2⟩))
  go_ret
  exact ⟨rfl, ho.trans ho2, hc2⟩
theorem leap_nil (w : World) : Calls Try.prog 31 #[.pointer none] w fun e w' => e = .returned (.int .u32 1) ∧ w = w' := by
  go_enter Try.func31, Try.ntmps31
  go_wp2_with (first
   | (go_at_call 75; (with_reducible refine (roll_nil _ _).mono ?_); rintro e w1 ⟨rfl, rfl⟩)
   | (go_at_call 33; (with_reducible refine (step_nil _).mono ?_); rintro e w1 ⟨rfl, rfl⟩))
  go_ret
  exact ⟨rfl, rfl⟩
theorem rleap_any (b : Nat) (s : Int) (w : World) (hx : Box w b #[.int .u64 s]) (h0 : 0 ≤ s) (h1 : s < 18446744073709551616) :
    Calls Try.prog 32 #[.pointer (some ⟨b, 0, none⟩)] w fun e w' => e = .returned (.int .u32 (leapF s)) ∧ Only (· = b) w w' ∧ Box w' b #[.int .u64 (stepF (stepF s))] := by
  have s0 := stepF_bound s
  obtain ⟨q0, q1⟩ := outF_bound (stepF s)
  have r0 : 0 ≤ outF s % 32 ∧ outF s % 32 < 32 := by omega
  obtain ⟨p, p0, p1, hp⟩ := pow_of (outF s % 32) (by omega) (by omega)
  have HF : Hid (leapF s = p + outF (stepF s) % p) := by show leapF s = _; unfold leapF; rw [hp]
  generalize hr : outF s % 32 = r at r0 hp
  have Hr := Lib.hid hr; clear hr
  have m0 := Int.emod_nonneg (outF (stepF s)) (show p ≠ 0 by omega)
  have m1 := Int.emod_lt_of_pos (outF (stepF s)) (show 0 < p by omega)
  have e1 : IntKind.u64.wrap p = p := wrap_of (by omega) (by omega)
  have e5 : IntKind.u32.wrap p = p := by rw [u32w]; exact Int.emod_eq_of_lt (by omega) (by omega)
  have e3 : (p + outF (stepF s) % p) % 4294967296 = p + outF (stepF s) % p := Int.emod_eq_of_lt (by omega) (by omega)
  have e4 : ¬ p = 0 := by omega
  rw [HF.out]
  go_enter Try.func32, Try.ntmps32
  go_wp2_with (first
   | (go_at_call 76; (with_reducible refine (rroll_any b s 32 _ hx h0 h1 (by omega) (by omega)).mono ?_); rintro e w1 ⟨rfl, ho, hc⟩; rw [Hr.out])
   | (go_at_call 34; (with_reducible refine (rdstep_any b (stepF s) _ (by assumption) s0.1 s0.2).mono ?_); rintro e w1 ⟨rfl, ho2, hc2⟩))
  go_ret
  exact ⟨rfl, ho.trans ho2, hc2⟩
attribute [irreducible] leapF
theorem awake12 (w : World) : Calls Try.prog 27 #[] w fun e w' => e = .returned (.bool true) ∧ Below w.heap.size w w' := by
  have hf := leapF_bound 5
  obtain ⟨p, p0, p1, hp⟩ := pow_of (outF 5 % 32) (by omega) (by omega)
  rw [hp] at hf
  have hd : decide (0 < leapF 5) = true := by simp; omega
  have hf0 : 0 < leapF 5 := by omega
  clear hp
  go_enter Try.func27, Try.ntmps27
  go_wp2_with (first
   | (go_at_call 31; (with_reducible refine (leap_nil _).mono ?_); rintro e w1 ⟨rfl, rfl⟩)
   | (go_at_call 26; (with_reducible refine (dice_new 5 _).mono ?_); rintro e w1 ⟨rfl, hb, hx⟩)
   | (go_at_call 31; (with_reducible refine (leap_any _ 5 _ (by assumption) (by omega) (by omega)).mono ?_); rintro e w2 ⟨rfl, ho, hx2⟩))
  go_ret
  exact ⟨rfl, hb.trans (ho.below hb.size (by intro k hk; omega))⟩
end Go.Proofs.Ytjcbmfopcohcmaa
