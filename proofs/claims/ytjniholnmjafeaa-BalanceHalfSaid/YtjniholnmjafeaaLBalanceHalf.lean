/- The law petasoslaw17.BalanceHalf returns true at every input, and its arguments read as before. Conditions: none. -/
import Derived.Test.YtjniholnmjafeaaWBalanceHalf
import Derived.Test.YtjniholnmjafeaaLaw
import Derived.OpenShut
namespace Go.Proofs.Ytjniholnmjafeaa.rowBalanceHalf
open Go.RowKit
set_option linter.unusedVariables false
theorem own : ownKnob Try.prog.godebug = none := by kernel_rfl
set_option maxRecDepth 100000 in
theorem lifted (os : Os) (started : os.Started) (H : Type) (enc : TypeId × Value → H) :
    ReturnsInHanded {} Try.checked os 12 .any (Rows.balanceHalfSpec.pre6 enc Try.prog Try.f12 Rows.balanceHalfRow.domain false) (Rows.balanceHalfSpec.post enc Try.prog Try.f12 false true false false) :=
  law_lift (C := Try.checked) [((.sl (.st (.pair (.int .u32) (.pair (.int .i64) .unit))) 16), 74), ((.int .i64), 3), ((.int .i64), 3)] 4 own started (by kernel_rfl) Try.func12
    (ChangeSpec.witness6 (enc := enc) (C := Try.checked) false ⟨#[], #[.slice none 0 0, .int .i64 0, .int .i64 0], []⟩ 8 (by kernel_rfl) (by kernel_rfl) (by kernel_rfl) (by kernel_rfl))
    rfl (by kernel_rfl) (by kernel_rfl) (by kernel_rfl) (by kernel_rfl) (by kernel_rfl) Try.underlying4
    (fun ds hd => by match ds, hd with | [d1, d2, d3], _ => rfl) wBalanceHalf
theorem over : Rows.balanceHalfRow.holds Try.pinned (OpenSpec.ofChange Rows.balanceHalfSpec) :=
  OpenClaim.holds_of_wide 12 Try.f12 rfl rfl rfl rfl rfl rfl rfl ⟨rfl, rfl, rfl, rfl, rfl⟩ rfl rfl rfl rfl rfl (by kernel_rfl) Try.func12 (by kernel_rfl)
    (of_decide_eq_true (by kernel_rfl)) (by unfold Func.isWrapper; first | (rw [if_pos (by decide +kernel)]; kernel_rfl) | (rw [if_neg (by decide +kernel)]; exact ⟨rfl, rfl⟩))
    (fun os started H enc _ => lifted os started H enc)
theorem proved : Rows.BalanceHalfSaid := over
#print axioms proved
end Go.Proofs.Ytjniholnmjafeaa.rowBalanceHalf
