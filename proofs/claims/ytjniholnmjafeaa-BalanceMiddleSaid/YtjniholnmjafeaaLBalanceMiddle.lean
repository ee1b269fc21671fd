/- The law petasoslaw17.BalanceMiddle returns true at every input, and its arguments read as before. Conditions: none. -/
import Derived.Test.YtjniholnmjafeaaWBalanceMiddle
import Derived.Test.YtjniholnmjafeaaLaw
import Derived.OpenShut
namespace Go.Proofs.Ytjniholnmjafeaa.rowBalanceMiddle
open Go.RowKit
set_option linter.unusedVariables false
theorem own : ownKnob Try.prog.godebug = none := by kernel_rfl
set_option maxRecDepth 100000 in
theorem lifted (os : Os) (started : os.Started) (H : Type) (enc : TypeId × Value → H) :
    ReturnsInHanded {} Try.checked os 13 .any (Rows.balanceMiddleSpec.pre6 enc Try.prog Try.f13 Rows.balanceMiddleRow.domain false) (Rows.balanceMiddleSpec.post enc Try.prog Try.f13 false true false false) :=
  law_lift (C := Try.checked) [((.sl (.int .u32) 4), 29), ((.int .i64), 3)] 4 own started (by kernel_rfl) Try.func13
    (ChangeSpec.witness6 (enc := enc) (C := Try.checked) false ⟨#[], #[.slice none 0 0, .int .i64 0], []⟩ 8 (by kernel_rfl) (by kernel_rfl) (by kernel_rfl) (by kernel_rfl))
    rfl (by kernel_rfl) (by kernel_rfl) (by kernel_rfl) (by kernel_rfl) (by kernel_rfl) Try.underlying4
    (fun ds hd => by match ds, hd with | [d1, d2], _ => rfl) wBalanceMiddle
theorem over : Rows.balanceMiddleRow.holds Try.pinned (OpenSpec.ofChange Rows.balanceMiddleSpec) :=
  OpenClaim.holds_of_wide 13 Try.f13 rfl rfl rfl rfl rfl rfl rfl ⟨rfl, rfl, rfl, rfl, rfl⟩ rfl rfl rfl rfl rfl (by kernel_rfl) Try.func13 (by kernel_rfl)
    (of_decide_eq_true (by kernel_rfl)) (by unfold Func.isWrapper; first | (rw [if_pos (by decide +kernel)]; kernel_rfl) | (rw [if_neg (by decide +kernel)]; exact ⟨rfl, rfl⟩))
    (fun os started H enc _ => lifted os started H enc)
theorem proved : Rows.BalanceMiddleSaid := over
#print axioms proved
end Go.Proofs.Ytjniholnmjafeaa.rowBalanceMiddle
