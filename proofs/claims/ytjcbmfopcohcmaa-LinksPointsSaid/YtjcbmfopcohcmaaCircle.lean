/- circle.Far, Size, Has; cmp.Compare at whole numbers; cmp.Or of two. Conditions: the arguments are numbers of their kinds. -/
import Derived.Test.YtjcbmfopcohcmaaShelf
import Derived.LoopN
namespace Go.Proofs.Ytjcbmfopcohcmaa
open Go.RowKit
set_option maxRecDepth 100000
set_option linter.unusedVariables false
set_option linter.unusedSimpArgs false

def farF (a b : Int) : Int := (b - a) % 4294967296
def sizeF (a b : Int) : Int := if a = b then 4294967296 else farF a b
def hasF (a b v : Int) : Bool := decide (farF ((a + 1) % 4294967296) v < sizeF a b)
def cmpF (a b : Int) : Int := if a < b then -1 else if b < a then 1 else 0
def orF (a b : Int) : Int := if a ≠ 0 then a else b
theorem u32w (x : Int) : IntKind.u32.wrap x = x % 4294967296 := by simp [IntKind.wrap, IntKind.bits, IntKind.signed]

theorem far_any (a b : Int) (w : World) : Calls Try.prog 70 #[.int .u32 a, .int .u32 b] w fun e w' => e = .returned (.int .u32 (farF a b)) ∧ w = w' := by
  have h := u32w (b - a)
  go_enter Try.func70, Try.ntmps70
  go_wp2
  go_ret
  exact ⟨by first | rfl | (simp [farF, u32w]), rfl⟩
theorem far_bd (a b : Int) : 0 ≤ farF a b ∧ farF a b < 4294967296 := by unfold farF; omega
theorem size_any (a b : Int) (w : World) : Calls Try.prog 106 #[.agg #[.int .u32 a, .int .u32 b]] w fun e w' => e = .returned (.int .u64 (sizeF a b)) ∧ Below w.heap.size w w' := by
  by_cases hab : a = b
  · subst hab
    have hs : sizeF a a = 4294967296 := if_pos rfl
    rw [hs]
    go_enter Try.func106, Try.ntmps106
    go_wp2
    go_ret
    exact ⟨rfl, (by repeat (first | exact Below.refl _ _ | assumption | apply Below.drew | apply belowN | (refine Below.alloc ?_ (by first | exact Nat.le_refl _ | (simp; done) | (simp; omega)) _) | (refine Below.setCell ?_ (by first | exact Nat.le_refl _ | (simp; done) | (simp; omega)) _)))⟩
  · have hs : sizeF a b = farF a b := if_neg hab
    rw [hs]
    obtain ⟨f0, f1⟩ := far_bd a b
    have hne : (a == b) = false := by rw [beq_eq_false_iff_ne]; exact hab
    have hf := Lib.hid (far_any a b)
    generalize farF a b = f at *
    have hw : f % 18446744073709551616 = f := by omega
    clear hs
    go_enter Try.func106, Try.ntmps106
    go_wp2_with (go_at_call 70; (with_reducible refine (hf.out _).mono ?_); rintro e w' ⟨rfl, rfl⟩)
    go_ret
    exact ⟨by first | rfl | (simp [hw]), (by repeat (first | exact Below.refl _ _ | assumption | apply Below.drew | apply belowN | (refine Below.alloc ?_ (by first | exact Nat.le_refl _ | (simp; done) | (simp; omega)) _) | (refine Below.setCell ?_ (by first | exact Nat.le_refl _ | (simp; done) | (simp; omega)) _)))⟩
theorem size_bd (a b : Int) : 0 ≤ sizeF a b ∧ sizeF a b ≤ 4294967296 := by unfold sizeF farF; split <;> omega
set_option maxHeartbeats 1000000 in
theorem has_any (a b v : Int) (w : World) : Calls Try.prog 82 #[.agg #[.int .u32 a, .int .u32 b], .int .u32 v] w fun e w' => e = .returned (.bool (hasF a b v)) ∧ Below w.heap.size w w' := by
  have h1 := u32w (a + 1)
  have hf := Lib.hid (far_any ((a + 1) % 4294967296) v)
  have hs := Lib.hid (size_any a b)
  obtain ⟨f0, f1⟩ := far_bd ((a + 1) % 4294967296) v
  have hE : hasF a b v = decide (farF ((a + 1) % 4294967296) v < sizeF a b) := rfl
  generalize farF ((a + 1) % 4294967296) v = f at *
  generalize sizeF a b = z at *
  have hw : f % 18446744073709551616 = f := by omega
  have hw2 : IntKind.u64.wrap f = f := by simp [IntKind.wrap, IntKind.bits, IntKind.signed]; omega
  generalize (a + 1) % 4294967296 = a1 at *
  rw [hE]
  clear hE
  go_enter Try.func82, Try.ntmps82
  go_upto_region 1 with fail
  refine wp_abs (fun wx => Box wx w.heap.size #[.int .u32 a, .int .u32 b] ∧ Below w.heap.size w wx) ⟨(by repeat (first | apply Box.drew | apply Box.drewN | exact Box.newAt _ _ _ _ (by first | rfl | (simp only [size_alloc]; done) | (simp only [size_alloc]; omega)) | assumption | refine Box.alloc ?_ _)), (by repeat (first | exact Below.refl _ _ | assumption | apply Below.drew | apply belowN | (refine Below.alloc ?_ (by first | exact Nat.le_refl _ | (simp; done) | (simp; omega)) _) | (refine Below.setCell ?_ (by first | exact Nat.le_refl _ | (simp; done) | (simp; omega)) _)))⟩ ?_
  generalize hb3 : w.heap.size = b3
  rintro wx ⟨X, hB⟩
  have HW := Lib.hid hb3
  have c3 := X.cell; have z3 := X.lt
  have HB := Lib.hid hB
  clear X hB hb3
  go_region_held3 (fun w' => Same wx w') (with_reducible (first | assumption | exact Same.drew _))
    (first
    | (go_at_call 70; (with_reducible refine (hf.out _).mono ?_); rintro e w' ⟨rfl, rfl⟩)
    | (go_at_call 106; (with_reducible refine (hs.out _).mono ?_); rintro e w2 ⟨rfl, hb2⟩; have S1 := Same.step (show Same wx _ by (with_reducible (first | assumption | exact Same.drew _))) hb2; clear hb2))
  all_goals
    go_wp2
    go_ret
    exact ⟨rfl, by rw [HW.out]; exact below_from HB.out (show Same wx _ by (with_reducible (first | assumption | exact Same.drew _))).1 (by have h1 := HB.out.size; have h2 := HW.out; omega)⟩
theorem nan_u32 (a : Int) (w : World) : Calls Try.prog 104 #[.int .u32 a] w fun e w' => e = .returned (.bool false) ∧ w = w' := by
  have h : (a == a) = true := by simp
  go_enter Try.func104, Try.ntmps104
  go_wp2
  go_ret
  exact ⟨by first | rfl | simp, rfl⟩
theorem cmp_u32 (a b : Int) (w : World) : Calls Try.prog 69 #[.int .u32 a, .int .u32 b] w fun e w' => e = .returned (.int .i64 (cmpF a b)) ∧ w = w' := by
  by_cases h1 : a < b
  · have hs : cmpF a b = -1 := if_pos h1
    rw [hs]
    go_enter Try.func69, Try.ntmps69
    go_wp2_with (go_at_call 104; (with_reducible refine (nan_u32 _ _).mono ?_); rintro e w' ⟨rfl, rfl⟩)
    go_ret
    exact ⟨rfl, rfl⟩
  · by_cases h2 : b < a
    · have hs : cmpF a b = 1 := by unfold cmpF; rw [if_neg h1, if_pos h2]
      rw [hs]
      go_enter Try.func69, Try.ntmps69
      go_wp2_with (go_at_call 104; (with_reducible refine (nan_u32 _ _).mono ?_); rintro e w' ⟨rfl, rfl⟩)
      go_ret
      exact ⟨rfl, rfl⟩
    · have hs : cmpF a b = 0 := by unfold cmpF; rw [if_neg h1, if_neg h2]
      rw [hs]
      go_enter Try.func69, Try.ntmps69
      go_wp2_with (go_at_call 104; (with_reducible refine (nan_u32 _ _).mono ?_); rintro e w' ⟨rfl, rfl⟩)
      go_ret
      exact ⟨rfl, rfl⟩
theorem nan_u64 (a : Int) (w : World) : Calls Try.prog 108 #[.int .u64 a] w fun e w' => e = .returned (.bool false) ∧ w = w' := by
  have h : (a == a) = true := by simp
  go_enter Try.func108, Try.ntmps108
  go_wp2
  go_ret
  exact ⟨by first | rfl | simp, rfl⟩
theorem cmp_u64 (a b : Int) (w : World) : Calls Try.prog 86 #[.int .u64 a, .int .u64 b] w fun e w' => e = .returned (.int .i64 (cmpF a b)) ∧ w = w' := by
  by_cases h1 : a < b
  · have hs : cmpF a b = -1 := if_pos h1
    rw [hs]
    go_enter Try.func86, Try.ntmps86
    go_wp2_with (go_at_call 108; (with_reducible refine (nan_u64 _ _).mono ?_); rintro e w' ⟨rfl, rfl⟩)
    go_ret
    exact ⟨rfl, rfl⟩
  · by_cases h2 : b < a
    · have hs : cmpF a b = 1 := by unfold cmpF; rw [if_neg h1, if_pos h2]
      rw [hs]
      go_enter Try.func86, Try.ntmps86
      go_wp2_with (go_at_call 108; (with_reducible refine (nan_u64 _ _).mono ?_); rintro e w' ⟨rfl, rfl⟩)
      go_ret
      exact ⟨rfl, rfl⟩
    · have hs : cmpF a b = 0 := by unfold cmpF; rw [if_neg h1, if_neg h2]
      rw [hs]
      go_enter Try.func86, Try.ntmps86
      go_wp2_with (go_at_call 108; (with_reducible refine (nan_u64 _ _).mono ?_); rintro e w' ⟨rfl, rfl⟩)
      go_ret
      exact ⟨rfl, rfl⟩
theorem or_two (x y : Int) (b : Nat) (w : World) (h : Box w b #[.int .i64 x, .int .i64 y]) : Calls Try.prog 85 #[.slice (some ⟨b, 0, none⟩) 2 2] w fun e w' => e = .returned (.int .i64 (orF x y)) ∧ w = w' := by
  have cb := h.cell
  have zb := h.lt
  clear h
  by_cases hx : x = 0
  · subst hx
    have hs : orF 0 y = y := by unfold orF; simp
    rw [hs]
    by_cases hy : y = 0
    · subst hy
      go_enter Try.func85, Try.ntmps85
      go_wp2
      refine wp_loop_rounds 3 ?_
      rw [rounds_succ]
      go_wp2
      rw [rounds_succ]
      go_wp2
      rw [rounds_succ]
      go_wp2
      go_ret
      exact ⟨rfl, rfl⟩
    · have hne : (y == 0) = false := by rw [beq_eq_false_iff_ne]; exact hy
      go_enter Try.func85, Try.ntmps85
      go_wp2
      refine wp_loop_rounds 3 ?_
      rw [rounds_succ]
      go_wp2
      rw [rounds_succ]
      go_wp2
      go_ret
      exact ⟨rfl, rfl⟩
  · have hne : (x == 0) = false := by rw [beq_eq_false_iff_ne]; exact hx
    have hs : orF x y = x := if_pos hx
    rw [hs]
    go_enter Try.func85, Try.ntmps85
    go_wp2
    refine wp_loop_rounds 3 ?_
    rw [rounds_succ]
    go_wp2
    go_ret
    exact ⟨rfl, rfl⟩
end Go.Proofs.Ytjcbmfopcohcmaa
