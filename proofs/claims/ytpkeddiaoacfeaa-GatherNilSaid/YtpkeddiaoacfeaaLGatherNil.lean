/- The law petasoslaw18.GatherNil returns true at every input, and its arguments read as before. Conditions: none. -/
import Derived.Test.YtpkeddiaoacfeaaWGatherNil
import Derived.Test.YtpkeddiaoacfeaaLaw
import Derived.OpenShut
namespace Go.Proofs.Ytpkeddiaoacfeaa.rowGatherNil
open Go.RowKit
set_option linter.unusedVariables false
theorem own : ownKnob Try.prog.godebug = none := by kernel_rfl
set_option maxRecDepth 100000 in
theorem lifted (os : Os) (started : os.Started) (H : Type) (enc : TypeId × Value → H) :
    ReturnsInHanded {} Try.checked os 7 .any (Rows.gatherNilSpec.pre6 enc Try.prog Try.f7 Rows.gatherNilRow.domain false) (Rows.gatherNilSpec.post enc Try.prog Try.f7 false true false false) :=
  law_lift (C := Try.checked) [((.sl (.st (.pair (.int .u64) (.pair (.int .u64) (.pair (.sl (.int .u32) 4) .unit)))) 40), 23), ((.int .i64), 3)] 4 own started (by kernel_rfl) Try.func7
    (ChangeSpec.witness6 (enc := enc) (C := Try.checked) false ⟨#[], #[.slice none 0 0, .int .i64 0], []⟩ 8 (by kernel_rfl) (by kernel_rfl) (by kernel_rfl) (by kernel_rfl))
    rfl (by kernel_rfl) (by kernel_rfl) (by kernel_rfl) (by kernel_rfl) (by kernel_rfl) Try.underlying4
    (fun ds hd => by match ds, hd with | [d1, d2], _ => rfl) wGatherNil
theorem over : Rows.gatherNilRow.holds Try.pinned (OpenSpec.ofChange Rows.gatherNilSpec) :=
  OpenClaim.holds_of_wide 7 Try.f7 rfl rfl rfl rfl rfl rfl rfl ⟨rfl, rfl, rfl, rfl, rfl⟩ rfl rfl rfl rfl rfl (by kernel_rfl) Try.func7 (by kernel_rfl)
    (of_decide_eq_true (by kernel_rfl)) (by unfold Func.isWrapper; first | (rw [if_pos (by decide +kernel)]; kernel_rfl) | (rw [if_neg (by decide +kernel)]; exact ⟨rfl, rfl⟩))
    (fun os started H enc _ => lifted os started H enc)
theorem proved : Rows.GatherNilSaid := over
#print axioms proved
end Go.Proofs.Ytpkeddiaoacfeaa.rowGatherNil
