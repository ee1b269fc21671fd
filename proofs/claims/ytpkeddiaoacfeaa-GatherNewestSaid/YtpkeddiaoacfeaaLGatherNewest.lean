/- The law petasoslaw18.GatherNewest returns true at every input, and its arguments read as before. Conditions: none. -/
import Derived.Test.YtpkeddiaoacfeaaWGatherNewest
import Derived.Test.YtpkeddiaoacfeaaLaw
import Derived.OpenShut
namespace Go.Proofs.Ytpkeddiaoacfeaa.rowGatherNewest
open Go.RowKit
set_option linter.unusedVariables false
theorem own : ownKnob Try.prog.godebug = none := by kernel_rfl
set_option maxRecDepth 100000 in
theorem lifted (os : Os) (started : os.Started) (H : Type) (enc : TypeId × Value → H) :
    ReturnsInHanded {} Try.checked os 4 .any (Rows.gatherNewestSpec.pre6 enc Try.prog Try.f4 Rows.gatherNewestRow.domain false) (Rows.gatherNewestSpec.post enc Try.prog Try.f4 false true false false) :=
  law_lift (C := Try.checked) [((.int .u64), 27), ((.sl (.int .u64) 8), 38), ((.int .u32), 39)] 4 own started (by kernel_rfl) Try.func4
    (ChangeSpec.witness6 (enc := enc) (C := Try.checked) false ⟨#[], #[.int .u64 0, .slice none 0 0, .int .u32 0], []⟩ 8 (by kernel_rfl) (by kernel_rfl) (by kernel_rfl) (by kernel_rfl))
    rfl (by kernel_rfl) (by kernel_rfl) (by kernel_rfl) (by kernel_rfl) (by kernel_rfl) Try.underlying4
    (fun ds hd => by match ds, hd with | [d1, d2, d3], _ => rfl) wGatherNewest
theorem over : Rows.gatherNewestRow.holds Try.pinned (OpenSpec.ofChange Rows.gatherNewestSpec) :=
  OpenClaim.holds_of_wide 4 Try.f4 rfl rfl rfl rfl rfl rfl rfl ⟨rfl, rfl, rfl, rfl, rfl⟩ rfl rfl rfl rfl rfl (by kernel_rfl) Try.func4 (by kernel_rfl)
    (of_decide_eq_true (by kernel_rfl)) (by unfold Func.isWrapper; first | (rw [if_pos (by decide +kernel)]; kernel_rfl) | (rw [if_neg (by decide +kernel)]; exact ⟨rfl, rfl⟩))
    (fun os started H enc _ => lifted os started H enc)
theorem proved : Rows.GatherNewestSaid := over
#print axioms proved
end Go.Proofs.Ytpkeddiaoacfeaa.rowGatherNewest
