/- The law petasoslaw24.ModelFinds returns true at every input, and its arguments read as before. Conditions: none. -/
import Derived.Test.YtgdlajbkppfejaaWModelFinds
import Derived.Test.YtgdlajbkppfejaaLaw
import Derived.OpenShut
namespace Go.Proofs.Ytgdlajbkppfejaa.rowModelFinds
open Go.RowKit
set_option linter.unusedVariables false
theorem own : ownKnob Try.prog.godebug = none := by kernel_rfl
set_option maxRecDepth 100000 in
theorem lifted (os : Os) (started : os.Started) (H : Type) (enc : TypeId × Value → H) :
    ReturnsInHanded {} Try.checked os 5 .any (Rows.modelFindsSpec.pre6 enc Try.prog Try.f5 Rows.modelFindsRow.domain false) (Rows.modelFindsSpec.post enc Try.prog Try.f5 false true false false) :=
  law_lift (C := Try.checked) [((.sl (.st (.pair (.int .u64) (.pair (.int .u64) (.pair (.sl (.int .u32) 4) .unit)))) 40), 29), ((.sl (.st (.pair (.int .i64) (.pair (.int .u32) (.pair (.int .u32) .unit)))) 16), 22)] 4 own started (by kernel_rfl) Try.func5
    (ChangeSpec.witness6 (enc := enc) (C := Try.checked) false ⟨#[], #[.slice none 0 0, .slice none 0 0], []⟩ 8 (by kernel_rfl) (by kernel_rfl) (by kernel_rfl) (by kernel_rfl))
    rfl (by kernel_rfl) (by kernel_rfl) (by kernel_rfl) (by kernel_rfl) (by kernel_rfl) Try.underlying4
    (fun ds hd => by match ds, hd with | [d1, d2], _ => rfl) wModelFinds
theorem over : Rows.modelFindsRow.holds Try.pinned (OpenSpec.ofChange Rows.modelFindsSpec) :=
  OpenClaim.holds_of_wide 5 Try.f5 rfl rfl rfl rfl rfl rfl rfl ⟨rfl, rfl, rfl, rfl, rfl⟩ rfl rfl rfl rfl rfl (by kernel_rfl) Try.func5 (by kernel_rfl)
    (of_decide_eq_true (by kernel_rfl)) (by unfold Func.isWrapper; first | (rw [if_pos (by decide +kernel)]; kernel_rfl) | (rw [if_neg (by decide +kernel)]; exact ⟨rfl, rfl⟩))
    (fun os started H enc _ => lifted os started H enc)
theorem proved : Rows.ModelFindsSaid := over
#print axioms proved
end Go.Proofs.Ytgdlajbkppfejaa.rowModelFinds
