/- The law petasoslaw18.GatherOrder returns true at every input, and its arguments read as before. Conditions: none. -/
import Derived.Test.YtpkeddiaoacfeaaWGatherOrder
import Derived.Test.YtpkeddiaoacfeaaLaw
import Derived.OpenShut
namespace Go.Proofs.Ytpkeddiaoacfeaa.rowGatherOrder
open Go.RowKit
set_option linter.unusedVariables false
theorem own : ownKnob Try.prog.godebug = none := by kernel_rfl
set_option maxRecDepth 100000 in
theorem lifted (os : Os) (started : os.Started) (H : Type) (enc : TypeId × Value → H) :
    ReturnsInHanded {} Try.checked os 3 .any (Rows.gatherOrderSpec.pre6 enc Try.prog Try.f3 Rows.gatherOrderRow.domain false) (Rows.gatherOrderSpec.post enc Try.prog Try.f3 false true false false) :=
  law_lift (C := Try.checked) [((.sl (.st (.pair (.int .i64) (.pair (.int .u32) (.pair (.int .u32) .unit)))) 16), 22), ((.sl (.st (.pair (.int .u64) (.pair (.int .u64) (.pair (.sl (.int .u32) 4) .unit)))) 40), 23), ((.sl (.int .i64) 8), 24)] 4 own started (by kernel_rfl) Try.func3
    (ChangeSpec.witness6 (enc := enc) (C := Try.checked) false ⟨#[], #[.slice none 0 0, .slice none 0 0, .slice none 0 0], []⟩ 8 (by kernel_rfl) (by kernel_rfl) (by kernel_rfl) (by kernel_rfl))
    rfl (by kernel_rfl) (by kernel_rfl) (by kernel_rfl) (by kernel_rfl) (by kernel_rfl) Try.underlying4
    (fun ds hd => by match ds, hd with | [d1, d2, d3], _ => rfl) wGatherOrder
theorem over : Rows.gatherOrderRow.holds Try.pinned (OpenSpec.ofChange Rows.gatherOrderSpec) :=
  OpenClaim.holds_of_wide 3 Try.f3 rfl rfl rfl rfl rfl rfl rfl ⟨rfl, rfl, rfl, rfl, rfl⟩ rfl rfl rfl rfl rfl (by kernel_rfl) Try.func3 (by kernel_rfl)
    (of_decide_eq_true (by kernel_rfl)) (by unfold Func.isWrapper; first | (rw [if_pos (by decide +kernel)]; kernel_rfl) | (rw [if_neg (by decide +kernel)]; exact ⟨rfl, rfl⟩))
    (fun os started H enc _ => lifted os started H enc)
theorem proved : Rows.GatherOrderSaid := over
#print axioms proved
end Go.Proofs.Ytpkeddiaoacfeaa.rowGatherOrder
