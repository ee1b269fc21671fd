/- The law petasoslaw10.ShadowSets returns true at every input, and its arguments read as before. Conditions: none. -/
import Derived.Test.YtjcbmfopcohcmaaWShadowSets
import Derived.Test.YtjcbmfopcohcmaaLaw
import Derived.OpenShut
namespace Go.Proofs.Ytjcbmfopcohcmaa.rowShadowSets
open Go.RowKit
set_option linter.unusedVariables false
theorem own : ownKnob Try.prog.godebug = none := by kernel_rfl
set_option maxRecDepth 100000 in
theorem lifted (os : Os) (started : os.Started) (H : Type) (enc : TypeId × Value → H) :
    ReturnsInHanded {} Try.checked os 4 .any (Rows.shadowSetsSpec.pre6 enc Try.prog Try.f4 Rows.shadowSetsRow.domain false) (Rows.shadowSetsSpec.post enc Try.prog Try.f4 false true false false) :=
  law_lift (C := Try.checked) [((.int .u32), 22), ((.sl (.st (.pair (.int .u32) (.pair (.st (.pair (.int .u64) (.pair (.int .u64) (.pair (.sl (.int .u32) 4) .unit)))) (.pair .bool .unit)))) 56), 23), ((.sl (.st (.pair (.int .u32) (.pair (.st (.pair (.int .u64) (.pair (.int .u64) (.pair (.sl (.int .u32) 4) .unit)))) (.pair .bool .unit)))) 56), 23)] 4 own started (by kernel_rfl) Try.func4
    (ChangeSpec.witness6 (enc := enc) (C := Try.checked) false ⟨#[], #[.int .u32 0, .slice none 0 0, .slice none 0 0], []⟩ 8 (by kernel_rfl) (by kernel_rfl) (by kernel_rfl) (by kernel_rfl))
    rfl (by kernel_rfl) (by kernel_rfl) (by kernel_rfl) (by kernel_rfl) (by kernel_rfl) Try.underlying4
    (fun ds hd => by match ds, hd with | [d1, d2, d3], _ => rfl) wShadowSets
theorem over : Rows.shadowSetsRow.holds Try.pinned (OpenSpec.ofChange Rows.shadowSetsSpec) :=
  OpenClaim.holds_of_wide 4 Try.f4 rfl rfl rfl rfl rfl rfl rfl ⟨rfl, rfl, rfl, rfl, rfl⟩ rfl rfl rfl rfl rfl (by kernel_rfl) Try.func4 (by kernel_rfl)
    (of_decide_eq_true (by kernel_rfl)) (by unfold Func.isWrapper; first | (rw [if_pos (by decide +kernel)]; kernel_rfl) | (rw [if_neg (by decide +kernel)]; exact ⟨rfl, rfl⟩))
    (fun os started H enc _ => lifted os started H enc)
theorem proved : Rows.ShadowSetsSaid := over
#print axioms proved
end Go.Proofs.Ytjcbmfopcohcmaa.rowShadowSets
