/- record.Newer and the references' Newer: which of two entries is newer. Conditions: the versions fit their kind. -/
import Derived.Test.YtdpamikobmefeaaGreatRec
import Derived.Test.YtdpamikobmefeaaGreatBase
import Derived.Outline
import Derived.Below
namespace Go.Proofs.YtdpamikobmefeaaGreat
open Go.RowKit Go.ChangeShapes
set_option maxRecDepth 100000
set_option linter.unusedVariables false


def newerF (v1 : Int) (g1 : Bool) (v2 : Int) (g2 : Bool) : Bool := decide (v2 < v1) || (decide (v1 = v2) && (g1 && !g2))

/-- The law's tests: plain. -/
theorem newer_laws (v1 v2 v3 : Int) (g1 g2 g3 : Bool) :
    ((newerF v1 g1 v2 g2 && newerF v2 g2 v1 g1) = false) ∧ ((newerF v1 g1 v2 g2 || newerF v2 g2 v1 g1) = !(v1 == v2 && g1 == g2)) ∧
    ((!newerF v1 g1 v2 g2 || (!newerF v2 g2 v3 g3 || newerF v1 g1 v3 g3)) = true) ∧ newerF v1 g1 v1 g1 = false := by
  unfold newerF
  refine ⟨?_, ?_, ?_, ?_⟩
  · rw [Bool.eq_false_iff]
    simp only [ne_eq, Bool.and_eq_true, Bool.or_eq_true, decide_eq_true_eq, Bool.not_eq_true']
    rintro ⟨h1 | h1, h2 | h2⟩
    · omega
    · omega
    · omega
    · rw [h1.2.1] at h2; cases h2.2.2
  · rw [Bool.eq_iff_iff]
    cases g1 <;> cases g2 <;> simp <;> omega
  · cases g1 <;> cases g2 <;> cases g3 <;> simp <;> omega
  · cases g1 <;> simp
end Go.Proofs.YtdpamikobmefeaaGreat
