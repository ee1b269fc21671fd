/- The law petasoslaw12.LinksTell returns true at every input, and its arguments read as before. Conditions: none. -/
import Derived.Test.YtjcbmfopcohcmaaWLinksTell
import Derived.Test.YtjcbmfopcohcmaaLaw
import Derived.OpenShut
namespace Go.Proofs.Ytjcbmfopcohcmaa.rowLinksTell
open Go.RowKit
set_option linter.unusedVariables false
theorem own : ownKnob Try.prog.godebug = none := by kernel_rfl
set_option maxRecDepth 100000 in
theorem lifted (os : Os) (started : os.Started) (H : Type) (enc : TypeId × Value → H) :
    ReturnsInHanded {} Try.checked os 7 .any (Rows.linksTellSpec.pre6 enc Try.prog Try.f7 Rows.linksTellRow.domain false) (Rows.linksTellSpec.post enc Try.prog Try.f7 false true false false) :=
  law_lift (C := Try.checked) [((.sl (.int .u32) 4), 32), ((.int .u32), 22), ((.int .i64), 3), ((.int .u64), 31)] 4 own started (by kernel_rfl) Try.func7
    (ChangeSpec.witness6 (enc := enc) (C := Try.checked) false ⟨#[], #[.slice none 0 0, .int .u32 0, .int .i64 0, .int .u64 0], []⟩ 8 (by kernel_rfl) (by kernel_rfl) (by kernel_rfl) (by kernel_rfl))
    rfl (by kernel_rfl) (by kernel_rfl) (by kernel_rfl) (by kernel_rfl) (by kernel_rfl) Try.underlying4
    (fun ds hd => by match ds, hd with | [d1, d2, d3, d4], _ => rfl) wLinksTell
theorem over : Rows.linksTellRow.holds Try.pinned (OpenSpec.ofChange Rows.linksTellSpec) :=
  OpenClaim.holds_of_wide 7 Try.f7 rfl rfl rfl rfl rfl rfl rfl ⟨rfl, rfl, rfl, rfl, rfl⟩ rfl rfl rfl rfl rfl (by kernel_rfl) Try.func7 (by kernel_rfl)
    (of_decide_eq_true (by kernel_rfl)) (by unfold Func.isWrapper; first | (rw [if_pos (by decide +kernel)]; kernel_rfl) | (rw [if_neg (by decide +kernel)]; exact ⟨rfl, rfl⟩))
    (fun os started H enc _ => lifted os started H enc)
theorem proved : Rows.LinksTellSaid := over
#print axioms proved
end Go.Proofs.Ytjcbmfopcohcmaa.rowLinksTell
