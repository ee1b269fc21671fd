/- record.Newer and the references' Newer: which of two entries is newer. Conditions: the versions fit their kind. -/
import Derived.Test.YtjcbmfopcohcmaaRec
import Derived.Test.YtjcbmfopcohcmaaBase
import Derived.Outline
import Derived.Below
namespace Go.Proofs.Ytjcbmfopcohcmaa
open Go.RowKit Go.ChangeShapes
set_option maxRecDepth 100000
set_option linter.unusedVariables false


def newerF (v1 : Int) (g1 : Bool) (v2 : Int) (g2 : Bool) : Bool := decide (v2 < v1) || (decide (v1 = v2) && (g1 && !g2))

theorem newer_any (a1 i1 v1 : Int) (s1 : Option Addr) (l1 c1 : Nat) (g1 : Bool) (a2 i2 v2 : Int) (s2 : Option Addr) (l2 c2 : Nat) (g2 : Bool) (w : World) (h1 : 0 ≤ v1) (h2 : 0 ≤ v2) :
    Calls Try.prog 78 #[.agg #[.int .u32 a1, .int .u64 i1, .int .u64 v1, .slice s1 l1 c1, .bool g1], .agg #[.int .u32 a2, .int .u64 i2, .int .u64 v2, .slice s2 l2 c2, .bool g2]] w
      fun e w' => e = .returned (.bool (newerF v1 g1 v2 g2)) ∧ Below w.heap.size w w' := by
  by_cases hlt : v2 < v1
  · have E : newerF v1 g1 v2 g2 = true := by unfold newerF; simp [hlt]
    go_enter Try.func78, Try.ntmps78
    go_wp2
    go_quiet (fail)
    go_wp2
    go_ret
    exact ⟨by first | rfl | (rw [E]; rfl), (by repeat (first | exact Below.refl _ _ | assumption | apply Below.drew | apply belowN | (refine Below.alloc ?_ (by first | exact Nat.le_refl _ | (simp; done) | (simp; omega)) _) | (refine Below.setCell ?_ (by first | exact Nat.le_refl _ | (simp; done) | (simp; omega)) _)))⟩
  · by_cases heq : v1 = v2
    · subst heq
      have E : newerF v1 g1 v1 g2 = (g1 && !g2) := by unfold newerF; simp
      cases g1 <;> cases g2
      all_goals
        go_enter Try.func78, Try.ntmps78
        go_wp2
        go_quiet (fail)
        go_wp2
        go_ret
        exact ⟨by first | rfl | (rw [E]; rfl), (by repeat (first | exact Below.refl _ _ | assumption | apply Below.drew | apply belowN | (refine Below.alloc ?_ (by first | exact Nat.le_refl _ | (simp; done) | (simp; omega)) _) | (refine Below.setCell ?_ (by first | exact Nat.le_refl _ | (simp; done) | (simp; omega)) _)))⟩
    · have E : newerF v1 g1 v2 g2 = false := by unfold newerF; simp [hlt, heq]
      have hne : (v1 == v2) = false := by rw [beq_eq_false_iff_ne]; exact heq
      have hd : decide (v2 < v1) = false := by simpa using hlt
      go_enter Try.func78, Try.ntmps78
      go_wp2
      go_quiet (fail)
      go_wp2
      go_ret
      exact ⟨by first | rfl | (rw [E]; rfl), (by repeat (first | exact Below.refl _ _ | assumption | apply Below.drew | apply belowN | (refine Below.alloc ?_ (by first | exact Nat.le_refl _ | (simp; done) | (simp; omega)) _) | (refine Below.setCell ?_ (by first | exact Nat.le_refl _ | (simp; done) | (simp; omega)) _)))⟩
theorem rnewer_any (a1 i1 v1 : Int) (s1 : Option Addr) (l1 c1 : Nat) (g1 : Bool) (a2 i2 v2 : Int) (s2 : Option Addr) (l2 c2 : Nat) (g2 : Bool) (w : World) (h1 : 0 ≤ v1) (h2 : 0 ≤ v2) :
    Calls Try.prog 41 #[.agg #[.int .u32 a1, .int .u64 i1, .int .u64 v1, .slice s1 l1 c1, .bool g1], .agg #[.int .u32 a2, .int .u64 i2, .int .u64 v2, .slice s2 l2 c2, .bool g2]] w
      fun e w' => e = .returned (.bool (newerF v1 g1 v2 g2)) ∧ Below w.heap.size w w' := by
  by_cases hlt : v2 < v1
  · have E : newerF v1 g1 v2 g2 = true := by unfold newerF; simp [hlt]
    go_enter Try.func41, Try.ntmps41
    go_wp2
    skip
    go_wp2
    go_ret
    exact ⟨by first | rfl | (rw [E]; rfl), (by repeat (first | exact Below.refl _ _ | assumption | apply Below.drew | apply belowN | (refine Below.alloc ?_ (by first | exact Nat.le_refl _ | (simp; done) | (simp; omega)) _) | (refine Below.setCell ?_ (by first | exact Nat.le_refl _ | (simp; done) | (simp; omega)) _)))⟩
  · by_cases heq : v1 = v2
    · subst heq
      have E : newerF v1 g1 v1 g2 = (g1 && !g2) := by unfold newerF; simp
      cases g1 <;> cases g2
      all_goals
        go_enter Try.func41, Try.ntmps41
        go_wp2
        skip
        go_wp2
        go_ret
        exact ⟨by first | rfl | (rw [E]; rfl), (by repeat (first | exact Below.refl _ _ | assumption | apply Below.drew | apply belowN | (refine Below.alloc ?_ (by first | exact Nat.le_refl _ | (simp; done) | (simp; omega)) _) | (refine Below.setCell ?_ (by first | exact Nat.le_refl _ | (simp; done) | (simp; omega)) _)))⟩
    · have E : newerF v1 g1 v2 g2 = false := by unfold newerF; simp [hlt, heq]
      have hne : (v1 == v2) = false := by rw [beq_eq_false_iff_ne]; exact heq
      have hd : decide (v2 < v1) = false := by simpa using hlt
      go_enter Try.func41, Try.ntmps41
      go_wp2
      skip
      go_wp2
      go_ret
      exact ⟨by first | rfl | (rw [E]; rfl), (by repeat (first | exact Below.refl _ _ | assumption | apply Below.drew | apply belowN | (refine Below.alloc ?_ (by first | exact Nat.le_refl _ | (simp; done) | (simp; omega)) _) | (refine Below.setCell ?_ (by first | exact Nat.le_refl _ | (simp; done) | (simp; omega)) _)))⟩
/-- The law's tests: plain. -/
theorem newer_laws (v1 v2 v3 : Int) (g1 g2 g3 : Bool) :
    ((newerF v1 g1 v2 g2 && newerF v2 g2 v1 g1) = false) ∧ ((newerF v1 g1 v2 g2 || newerF v2 g2 v1 g1) = !(v1 == v2 && g1 == g2)) ∧
    ((!newerF v1 g1 v2 g2 || (!newerF v2 g2 v3 g3 || newerF v1 g1 v3 g3)) = true) ∧ newerF v1 g1 v1 g1 = false := by
  unfold newerF
  refine ⟨?_, ?_, ?_, ?_⟩
  · rw [Bool.eq_false_iff]
    simp only [ne_eq, Bool.and_eq_true, Bool.or_eq_true, decide_eq_true_eq, Bool.not_eq_true']
    rintro ⟨h1 | h1, h2 | h2⟩
    · omega
    · omega
    · omega
    · rw [h1.2.1] at h2; cases h2.2.2
  · rw [Bool.eq_iff_iff]
    cases g1 <;> cases g2 <;> simp <;> omega
  · cases g1 <;> cases g2 <;> cases g3 <;> simp <;> omega
  · cases g1 <;> simp
end Go.Proofs.Ytjcbmfopcohcmaa
