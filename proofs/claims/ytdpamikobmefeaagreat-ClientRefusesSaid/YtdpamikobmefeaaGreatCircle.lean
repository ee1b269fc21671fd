/- circle.Far, Size, Has; cmp.Compare at whole numbers; cmp.Or of two. Conditions: the arguments are numbers of their kinds. -/
import Derived.Test.YtdpamikobmefeaaGreatWords
import Derived.LoopN
namespace Go.Proofs.YtdpamikobmefeaaGreat
open Go.RowKit
set_option maxRecDepth 100000
set_option linter.unusedVariables false
set_option linter.unusedSimpArgs false

def farF (a b : Int) : Int := (b - a) % 4294967296
def sizeF (a b : Int) : Int := if a = b then 4294967296 else farF a b
def hasF (a b v : Int) : Bool := decide (farF ((a + 1) % 4294967296) v < sizeF a b)
def cmpF (a b : Int) : Int := if a < b then -1 else if b < a then 1 else 0
def orF (a b : Int) : Int := if a ≠ 0 then a else b
theorem u32w (x : Int) : IntKind.u32.wrap x = x % 4294967296 := by simp [IntKind.wrap, IntKind.bits, IntKind.signed]

theorem far_any (a b : Int) (w : World) : Calls Tryz.prog 97 #[.int .u32 a, .int .u32 b] w fun e w' => e = .returned (.int .u32 (farF a b)) ∧ w = w' := by
  have h := u32w (b - a)
  go_enter Tryz.func97, Tryz.ntmps97
  go_wp2
  go_ret
  exact ⟨by first | rfl | (simp [farF, u32w]), rfl⟩
theorem far_bd (a b : Int) : 0 ≤ farF a b ∧ farF a b < 4294967296 := by unfold farF; omega
theorem size_any (a b : Int) (w : World) : Calls Tryz.prog 69 #[.agg #[.int .u32 a, .int .u32 b]] w fun e w' => e = .returned (.int .u64 (sizeF a b)) ∧ Below w.heap.size w w' := by
  by_cases hab : a = b
  · subst hab
    have hs : sizeF a a = 4294967296 := if_pos rfl
    rw [hs]
    go_enter Tryz.func69, Tryz.ntmps69
    go_wp2
    go_ret
    exact ⟨rfl, (by repeat (first | exact Below.refl _ _ | assumption | apply Below.drew | apply belowN | (refine Below.alloc ?_ (by first | exact Nat.le_refl _ | (simp; done) | (simp; omega)) _) | (refine Below.setCell ?_ (by first | exact Nat.le_refl _ | (simp; done) | (simp; omega)) _)))⟩
  · have hs : sizeF a b = farF a b := if_neg hab
    rw [hs]
    obtain ⟨f0, f1⟩ := far_bd a b
    have hne : (a == b) = false := by rw [beq_eq_false_iff_ne]; exact hab
    have hf := Lib.hid (far_any a b)
    generalize farF a b = f at *
    have hw : f % 18446744073709551616 = f := by omega
    clear hs
    go_enter Tryz.func69, Tryz.ntmps69
    go_wp2_with (go_at_call 97; (with_reducible refine (hf.out _).mono ?_); rintro e w' ⟨rfl, rfl⟩)
    go_ret
    exact ⟨by first | rfl | (simp [hw]), (by repeat (first | exact Below.refl _ _ | assumption | apply Below.drew | apply belowN | (refine Below.alloc ?_ (by first | exact Nat.le_refl _ | (simp; done) | (simp; omega)) _) | (refine Below.setCell ?_ (by first | exact Nat.le_refl _ | (simp; done) | (simp; omega)) _)))⟩
theorem size_bd (a b : Int) : 0 ≤ sizeF a b ∧ sizeF a b ≤ 4294967296 := by unfold sizeF farF; split <;> omega
set_option maxHeartbeats 1000000 in
theorem has_any (a b v : Int) (w : World) : Calls Tryz.prog 124 #[.agg #[.int .u32 a, .int .u32 b], .int .u32 v] w fun e w' => e = .returned (.bool (hasF a b v)) ∧ Below w.heap.size w w' := by
  have h1 := u32w (a + 1)
  have hf := Lib.hid (far_any ((a + 1) % 4294967296) v)
  have hs := Lib.hid (size_any a b)
  obtain ⟨f0, f1⟩ := far_bd ((a + 1) % 4294967296) v
  have hE : hasF a b v = decide (farF ((a + 1) % 4294967296) v < sizeF a b) := rfl
  generalize farF ((a + 1) % 4294967296) v = f at *
  generalize sizeF a b = z at *
  have hw : f % 18446744073709551616 = f := by omega
  have hw2 : IntKind.u64.wrap f = f := by simp [IntKind.wrap, IntKind.bits, IntKind.signed]; omega
  generalize (a + 1) % 4294967296 = a1 at *
  rw [hE]
  clear hE
  go_enter Tryz.func124, Tryz.ntmps124
  go_upto_region 1 with fail
  refine wp_abs (fun wx => Box wx w.heap.size #[.int .u32 a, .int .u32 b] ∧ Below w.heap.size w wx) ⟨(by repeat (first | apply Box.drew | apply Box.drewN | exact Box.newAt _ _ _ _ (by first | rfl | (simp only [size_alloc]; done) | (simp only [size_alloc]; omega)) | assumption | refine Box.alloc ?_ _)), (by repeat (first | exact Below.refl _ _ | assumption | apply Below.drew | apply belowN | (refine Below.alloc ?_ (by first | exact Nat.le_refl _ | (simp; done) | (simp; omega)) _) | (refine Below.setCell ?_ (by first | exact Nat.le_refl _ | (simp; done) | (simp; omega)) _)))⟩ ?_
  generalize hb3 : w.heap.size = b3
  rintro wx ⟨X, hB⟩
  have HW := Lib.hid hb3
  have c3 := X.cell; have z3 := X.lt
  have HB := Lib.hid hB
  clear X hB hb3
  go_region_held3 (fun w' => Same wx w') (with_reducible (first | assumption | exact Same.drew _))
    (first
    | (go_at_call 97; (with_reducible refine (hf.out _).mono ?_); rintro e w' ⟨rfl, rfl⟩)
    | (go_at_call 69; (with_reducible refine (hs.out _).mono ?_); rintro e w2 ⟨rfl, hb2⟩; have S1 := Same.step (show Same wx _ by (with_reducible (first | assumption | exact Same.drew _))) hb2; clear hb2))
  all_goals
    go_wp2
    go_ret
    exact ⟨rfl, by rw [HW.out]; exact below_from HB.out (show Same wx _ by (with_reducible (first | assumption | exact Same.drew _))).1 (by have h1 := HB.out.size; have h2 := HW.out; omega)⟩
end Go.Proofs.YtdpamikobmefeaaGreat
