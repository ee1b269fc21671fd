/- The law petasoslaw24.ModelVersions returns true at every input, and its arguments read as before. Conditions: none. -/
import Derived.Test.YtpkeddiaoacfeaaWModelVersions
import Derived.Test.YtpkeddiaoacfeaaLaw
import Derived.OpenShut
namespace Go.Proofs.Ytpkeddiaoacfeaa.rowModelVersions
open Go.RowKit
set_option linter.unusedVariables false
theorem own : ownKnob Try.prog.godebug = none := by kernel_rfl
set_option maxRecDepth 100000 in
theorem lifted (os : Os) (started : os.Started) (H : Type) (enc : TypeId × Value → H) :
    ReturnsInHanded {} Try.checked os 11 .any (Rows.modelVersionsSpec.pre6 enc Try.prog Try.f11 Rows.modelVersionsRow.domain false) (Rows.modelVersionsSpec.post enc Try.prog Try.f11 false true false false) :=
  law_lift (C := Try.checked) [((.int .u64), 27), ((.sl (.int .u64) 8), 38), ((.sl .bool 1), 72)] 4 own started (by kernel_rfl) Try.func11
    (ChangeSpec.witness6 (enc := enc) (C := Try.checked) false ⟨#[], #[.int .u64 0, .slice none 0 0, .slice none 0 0], []⟩ 8 (by kernel_rfl) (by kernel_rfl) (by kernel_rfl) (by kernel_rfl))
    rfl (by kernel_rfl) (by kernel_rfl) (by kernel_rfl) (by kernel_rfl) (by kernel_rfl) Try.underlying4
    (fun ds hd => by match ds, hd with | [d1, d2, d3], _ => rfl) wModelVersions
theorem over : Rows.modelVersionsRow.holds Try.pinned (OpenSpec.ofChange Rows.modelVersionsSpec) :=
  OpenClaim.holds_of_wide 11 Try.f11 rfl rfl rfl rfl rfl rfl rfl ⟨rfl, rfl, rfl, rfl, rfl⟩ rfl rfl rfl rfl rfl (by kernel_rfl) Try.func11 (by kernel_rfl)
    (of_decide_eq_true (by kernel_rfl)) (by unfold Func.isWrapper; first | (rw [if_pos (by decide +kernel)]; kernel_rfl) | (rw [if_neg (by decide +kernel)]; exact ⟨rfl, rfl⟩))
    (fun os started H enc _ => lifted os started H enc)
theorem proved : Rows.ModelVersionsSaid := over
#print axioms proved
end Go.Proofs.Ytpkeddiaoacfeaa.rowModelVersions
