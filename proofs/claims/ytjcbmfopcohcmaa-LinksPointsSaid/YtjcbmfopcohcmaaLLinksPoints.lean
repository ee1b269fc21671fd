/- The law petasoslaw12.LinksPoints returns true at every input, and its arguments read as before. Conditions: none. -/
import Derived.Test.YtjcbmfopcohcmaaWLinksPoints
import Derived.Test.YtjcbmfopcohcmaaLaw
import Derived.OpenShut
namespace Go.Proofs.Ytjcbmfopcohcmaa.rowLinksPoints
open Go.RowKit
set_option linter.unusedVariables false
theorem own : ownKnob Try.prog.godebug = none := by kernel_rfl
set_option maxRecDepth 100000 in
theorem lifted (os : Os) (started : os.Started) (H : Type) (enc : TypeId × Value → H) :
    ReturnsInHanded {} Try.checked os 8 .any (Rows.linksPointsSpec.pre6 enc Try.prog Try.f8 Rows.linksPointsRow.domain false) (Rows.linksPointsSpec.post enc Try.prog Try.f8 false true false false) :=
  law_lift (C := Try.checked) [((.sl (.int .u32) 4), 32), ((.int .i64), 3), ((.int .i64), 3), ((.int .u64), 31)] 4 own started (by kernel_rfl) Try.func8
    (ChangeSpec.witness6 (enc := enc) (C := Try.checked) false ⟨#[], #[.slice none 0 0, .int .i64 0, .int .i64 0, .int .u64 0], []⟩ 8 (by kernel_rfl) (by kernel_rfl) (by kernel_rfl) (by kernel_rfl))
    rfl (by kernel_rfl) (by kernel_rfl) (by kernel_rfl) (by kernel_rfl) (by kernel_rfl) Try.underlying4
    (fun ds hd => by match ds, hd with | [d1, d2, d3, d4], _ => rfl) wLinksPoints
theorem over : Rows.linksPointsRow.holds Try.pinned (OpenSpec.ofChange Rows.linksPointsSpec) :=
  OpenClaim.holds_of_wide 8 Try.f8 rfl rfl rfl rfl rfl rfl rfl ⟨rfl, rfl, rfl, rfl, rfl⟩ rfl rfl rfl rfl rfl (by kernel_rfl) Try.func8 (by kernel_rfl)
    (of_decide_eq_true (by kernel_rfl)) (by unfold Func.isWrapper; first | (rw [if_pos (by decide +kernel)]; kernel_rfl) | (rw [if_neg (by decide +kernel)]; exact ⟨rfl, rfl⟩))
    (fun os started H enc _ => lifted os started H enc)
theorem proved : Rows.LinksPointsSaid := over
#print axioms proved
end Go.Proofs.Ytjcbmfopcohcmaa.rowLinksPoints
