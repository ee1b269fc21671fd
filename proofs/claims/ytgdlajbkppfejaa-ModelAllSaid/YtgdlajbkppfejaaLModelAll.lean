/- The law petasoslaw24.ModelAll returns true at every input, and its arguments read as before. Conditions: none. -/
import Derived.Test.YtgdlajbkppfejaaWModelAll
import Derived.Test.YtgdlajbkppfejaaLaw
import Derived.OpenShut
namespace Go.Proofs.Ytgdlajbkppfejaa.rowModelAll
open Go.RowKit
set_option linter.unusedVariables false
theorem own : ownKnob Try.prog.godebug = none := by kernel_rfl
set_option maxRecDepth 100000 in
theorem lifted (os : Os) (started : os.Started) (H : Type) (enc : TypeId × Value → H) :
    ReturnsInHanded {} Try.checked os 7 .any (Rows.modelAllSpec.pre6 enc Try.prog Try.f7 Rows.modelAllRow.domain false) (Rows.modelAllSpec.post enc Try.prog Try.f7 false true false false) :=
  law_lift (C := Try.checked) [((.sl (.st (.pair (.int .u64) (.pair (.int .u64) (.pair (.sl (.int .u32) 4) .unit)))) 40), 29), ((.int .u32), 47)] 4 own started (by kernel_rfl) Try.func7
    (ChangeSpec.witness6 (enc := enc) (C := Try.checked) false ⟨#[], #[.slice none 0 0, .int .u32 0], []⟩ 8 (by kernel_rfl) (by kernel_rfl) (by kernel_rfl) (by kernel_rfl))
    rfl (by kernel_rfl) (by kernel_rfl) (by kernel_rfl) (by kernel_rfl) (by kernel_rfl) Try.underlying4
    (fun ds hd => by match ds, hd with | [d1, d2], _ => rfl) wModelAll
theorem over : Rows.modelAllRow.holds Try.pinned (OpenSpec.ofChange Rows.modelAllSpec) :=
  OpenClaim.holds_of_wide 7 Try.f7 rfl rfl rfl rfl rfl rfl rfl ⟨rfl, rfl, rfl, rfl, rfl⟩ rfl rfl rfl rfl rfl (by kernel_rfl) Try.func7 (by kernel_rfl)
    (of_decide_eq_true (by kernel_rfl)) (by unfold Func.isWrapper; first | (rw [if_pos (by decide +kernel)]; kernel_rfl) | (rw [if_neg (by decide +kernel)]; exact ⟨rfl, rfl⟩))
    (fun os started H enc _ => lifted os started H enc)
theorem proved : Rows.ModelAllSaid := over
#print axioms proved
end Go.Proofs.Ytgdlajbkppfejaa.rowModelAll
