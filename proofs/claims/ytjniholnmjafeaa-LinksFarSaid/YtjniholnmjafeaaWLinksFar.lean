/- The walk of the law LinksFar: it returns true. Conditions: none. -/
import Derived.Test.YtjniholnmjafeaaDice
import Derived.Test.YtjniholnmjafeaaData
import Derived.Outline
namespace Go.Proofs.Ytjniholnmjafeaa
open Go.RowKit Go.ChangeShapes
set_option maxRecDepth 100000
set_option linter.unusedVariables false

theorem pow_of (r : Int) (h0 : 0 ≤ r) (h1 : r < 32) : ∃ p : Int, 1 ≤ p ∧ p ≤ 2147483648 ∧ (2 : Int) ^ r.toNat = p := by
  obtain ⟨n, rfl⟩ := Int.eq_ofNat_of_zero_le h0
  have hn : n < 32 := by omega
  have e : (2 : Int) ^ n = ((2 ^ n : Nat) : Int) := by rw [Int.natCast_pow]; rfl
  have hpos : 0 < (2 : Nat) ^ n := Nat.pow_pos (by decide)
  have hle : (2 : Nat) ^ n ≤ 2147483648 := Nat.pow_le_pow_right (n := 2) (i := n) (j := 31) (by decide) (by omega)
  rw [Int.toNat_natCast, e]
  generalize (2 : Nat) ^ n = m at hpos hle
  exact ⟨(m : Int), by omega, by omega, rfl⟩
theorem wrap_of {x : Int} (h0 : 0 ≤ x) (h1 : x < 18446744073709551616) : IntKind.u64.wrap x = x := by
  rw [u64_wrap_eq]; exact Int.emod_eq_of_lt h0 h1

/-- How far a link leads. -/
def farF (s : Int) : Int := (2 : Int) ^ (outF s % 32).toNat + outF (stepF s) % (2 : Int) ^ (outF s % 32).toNat
theorem farF_bound (s : Int) : (2 : Int) ^ (outF s % 32).toNat ≤ farF s ∧ farF s < 2 * (2 : Int) ^ (outF s % 32).toNat := by
  obtain ⟨p, p0, p1, hp⟩ := pow_of (outF s % 32) (by omega) (by omega)
  unfold farF; rw [hp]
  have := Int.emod_nonneg (outF (stepF s)) (show p ≠ 0 by omega)
  have := Int.emod_lt_of_pos (outF (stepF s)) (show 0 < p by omega)
  omega

theorem far_any (b : Nat) (s : Int) (w : World) (hx : Box w b #[.int .u64 s]) (h0 : 0 ≤ s) (h1 : s < 18446744073709551616) :
    Calls Try.prog 25 #[.pointer (some ⟨b, 0, none⟩)] w fun e w' => e = .returned (.int .u32 (farF s)) ∧ Only (· = b) w w' ∧ Box w' b #[.int .u64 (stepF (stepF s))] := by
  have s0 := stepF_bound s
  obtain ⟨q0, q1⟩ := outF_bound (stepF s)
  have r0 : 0 ≤ outF s % 32 ∧ outF s % 32 < 32 := by omega
  obtain ⟨p, p0, p1, hp⟩ := pow_of (outF s % 32) (by omega) (by omega)
  have HF : Hid (farF s = p + outF (stepF s) % p) := by show farF s = _; unfold farF; rw [hp]
  generalize hr : outF s % 32 = r at r0 hp
  have Hr := Lib.hid hr; clear hr
  have m0 := Int.emod_nonneg (outF (stepF s)) (show p ≠ 0 by omega)
  have m1 := Int.emod_lt_of_pos (outF (stepF s)) (show 0 < p by omega)
  have e1 : IntKind.u64.wrap p = p := wrap_of (by omega) (by omega)
  have e2 : IntKind.u64.wrap (p + outF (stepF s) % p) = p + outF (stepF s) % p := wrap_of (by omega) (by omega)
  have e3 : (p + outF (stepF s) % p) % 4294967296 = p + outF (stepF s) % p := Int.emod_eq_of_lt (by omega) (by omega)
  have e4 : ¬ p = 0 := by omega
  rw [HF.out]
  go_enter Try.func25, Try.ntmps25
  go_wp2_with (first
   | (go_at_call 65; (with_reducible refine (roll_any b s 32 _ hx h0 h1 (by omega) (by omega)).mono ?_); rintro e w1 ⟨rfl, ho, hc⟩; rw [Hr.out])
   | (go_at_call 66; (with_reducible refine (step_any b (stepF s) _ (by assumption) s0.1 s0.2).mono ?_); rintro e w1 ⟨rfl, ho2, hc2⟩))
  go_ret
  exact ⟨rfl, ho.trans ho2, hc2⟩
theorem far_nil (w : World) : Calls Try.prog 25 #[.pointer none] w fun e w' => e = .returned (.int .u32 1) ∧ w = w' := by
  go_enter Try.func25, Try.ntmps25
  go_wp2_with (first
   | (go_at_call 65; (with_reducible refine (roll_nil _ _).mono ?_); rintro e w1 ⟨rfl, rfl⟩)
   | (go_at_call 66; (with_reducible refine (step_nil _).mono ?_); rintro e w1 ⟨rfl, rfl⟩))
  go_ret
  exact ⟨rfl, rfl⟩
attribute [irreducible] farF
theorem awake12 (w : World) : Calls Try.prog 22 #[] w fun e w' => e = .returned (.bool true) ∧ Below w.heap.size w w' := by
  have hf := farF_bound 5
  obtain ⟨p, p0, p1, hp⟩ := pow_of (outF 5 % 32) (by omega) (by omega)
  rw [hp] at hf
  have hd : decide (0 < farF 5) = true := by simp; omega
  have hf0 : 0 < farF 5 := by omega
  clear hp
  go_enter Try.func22, Try.ntmps22
  go_wp2_with (first
   | (go_at_call 25; (with_reducible refine (far_nil _).mono ?_); rintro e w1 ⟨rfl, rfl⟩)
   | (go_at_call 21; (with_reducible refine (dice_new 5 _).mono ?_); rintro e w1 ⟨rfl, hb, hx⟩)
   | (go_at_call 25; (with_reducible refine (far_any _ 5 _ (by assumption) (by omega) (by omega)).mono ?_); rintro e w2 ⟨rfl, ho, hx2⟩))
  go_ret
  exact ⟨rfl, hb.trans (ho.below hb.size (by intro k hk; omega))⟩
theorem wLinksFar0 (W : World) (s : Int) (h0 : 0 ≤ s) (h1 : s < 18446744073709551616) :
    Calls Try.prog 5 #[.int .u64 s] W fun e W' => e = .returned (.bool true) ∧ Below W.heap.size W W' := by
  go_enter Try.func5, Try.ntmps5
  go_wp2_with (first
   | (go_at_call 21; (with_reducible refine (dice_new s _).mono ?_); rintro e w1 ⟨rfl, hb, hx⟩)
   | (go_at_call 22; (with_reducible refine (awake12 _).mono ?_); rintro e w2 ⟨rfl, hb2⟩))
  have hbd : Box w2 W.heap.size #[.int .u64 s] := (hx.alloc _).below hb2 (by have := hx.lt; rw [size_alloc]; omega)
  have hbe : Box w2 w1.heap.size #[.int .u64 s] := (Box.new w1 _ _).below hb2 (by rw [size_alloc]; omega)
  have hB : Below W.heap.size W w2 := (hb.alloc hb.size _).trans (hb2.mono (by rw [size_alloc]; have := hb.size; omega))
  have hne : W.heap.size < w1.heap.size := hx.lt
  clear hx hb hb2
  generalize w1.heap.size = be at *
  obtain ⟨bd, hd⟩ : ∃ bd, bd = W.heap.size := ⟨_, rfl⟩
  rw [← hd] at hbd hne hB ⊢
  have HD := Lib.hid hd; clear hd
  go_loopw [5] (fun i wr => ∃ k : Nat, k ≤ 30 ∧ i = .int .i64 k ∧ ∃ t : Int, (0 ≤ t ∧ t < 18446744073709551616) ∧ Box wr bd #[.int .u64 t] ∧ Box wr be #[.int .u64 t] ∧ Below bd W wr) (fun i _ => 30 - (intOf i).toNat)
  case atStart => exact ⟨0, by omega, rfl, s, ⟨h0, h1⟩, hbd, hbe, hB⟩
  case round =>
    obtain ⟨k, hk, rfl, t, ⟨t0, t1⟩, xd, xe, HB⟩ := hrel
    have hf := farF_bound t
    have s0 := stepF_bound t
    have s1 := stepF_bound (stepF t)
    have r0 : 0 ≤ outF t % 32 ∧ outF t % 32 < 32 := by omega
    obtain ⟨p, p0, p1, hp⟩ := pow_of (outF t % 32) (by omega) (by omega)
    rw [hp] at hf
    generalize hr : outF t % 32 = r at r0 hp
    have Hr := Lib.hid hr; clear hr
    have e1 : IntKind.u64.wrap p = p := wrap_of (by omega) (by omega)
    have e2 : IntKind.u64.wrap (2 * p) = 2 * p := wrap_of (by omega) (by omega)
    obtain ⟨f0, f1⟩ := hf
    obtain ⟨r0, r1⟩ := r0
    have HH := Lib.hid HB; clear HB
    by_cases hlt : k < 30
    · go_wp2_with (first
        | (go_at_call 23; (with_reducible refine (rroll_any be t 32 _ xe t0 t1 (by omega) (by omega)).mono ?_); rintro e w3 ⟨rfl, ho3, xe3⟩; rw [Hr.out]; have xd3 := xd.only ho3 (by omega); have O3 := Lib.hid ho3)
        | (go_at_call 24; (with_reducible refine (rstep_any be (stepF t) _ xe3 s0.1 s0.2).mono ?_); rintro e w4 ⟨rfl, ho4, xe4⟩; have xd4 := xd3.only ho4 (by omega); have O4 := Lib.hid ho4)
        | (go_at_call 25; (with_reducible refine (far_any bd t _ xd4 t0 t1).mono ?_); rintro e w5 ⟨rfl, ho5, xd5⟩; have xe5 := xe4.only ho5 (by omega); have O5 := Lib.hid ho5))
      go_roundw
      case rel =>
        have b3 := HH.out.trans (O3.out.below (B := bd) (by have := xd.lt; omega) (by intro x hx; omega))
        have b4 := b3.trans (O4.out.below (B := bd) (by have := xd3.lt; omega) (by intro x hx; omega))
        have b5 := b4.trans (O5.out.below (B := bd) (by have := xd4.lt; omega) (by intro x hx; omega))
        exact ⟨k + 1, by omega, by go_num, stepF (stepF t), s1, xd5, xe5, b5⟩
      case measure => simp [intOf]; omega
    · go_wp2
      go_ret
      rw [HD.out] at HH
      exact ⟨rfl, HH.out⟩

theorem wLinksFar (W : World) (vs : List Value) (h : Sh.Args W (· < W.heap.size) [((.int .u64), 24)] vs) :
    Calls Try.prog 5 vs.toArray W fun e W' => e = .returned (.bool true) ∧ Below W.heap.size W W' := by
  obtain ⟨_, _, rfl, ⟨a, ha⟩, rfl⟩ := h
  obtain ⟨s, rfl, ws⟩ := int_open ha
  have b := bounds_u64 ws
  exact wLinksFar0 W s (by omega) (by omega)
end Go.Proofs.Ytjniholnmjafeaa
