/- The law petasoslaw22.ClientEmpty returns true at every input, and its arguments read as before. Conditions: none. -/
import Derived.Test.YtdpamikobmefeaaWClientEmpty
import Derived.Test.YtdpamikobmefeaaLaw
import Derived.OpenShut
namespace Go.Proofs.Ytdpamikobmefeaa.rowClientEmpty
open Go.RowKit
set_option linter.unusedVariables false
theorem own : ownKnob Try.prog.godebug = none := by kernel_rfl
set_option maxRecDepth 100000 in
theorem lifted (os : Os) (started : os.Started) (H : Type) (enc : TypeId × Value → H) :
    ReturnsInHanded {} Try.checked os 9 .any (Rows.clientEmptySpec.pre6 enc Try.prog Try.f9 Rows.clientEmptyRow.domain false) (Rows.clientEmptySpec.post enc Try.prog Try.f9 false true false false) :=
  law_lift (C := Try.checked) [((.int .i64), 3), ((.int .i64), 3), ((.sl (.st (.pair (.int .i64) (.pair (.int .u32) (.pair (.int .u32) .unit)))) 16), 22)] 4 own started (by kernel_rfl) Try.func9
    (ChangeSpec.witness6 (enc := enc) (C := Try.checked) false ⟨#[], #[.int .i64 0, .int .i64 0, .slice none 0 0], []⟩ 8 (by kernel_rfl) (by kernel_rfl) (by kernel_rfl) (by kernel_rfl))
    rfl (by kernel_rfl) (by kernel_rfl) (by kernel_rfl) (by kernel_rfl) (by kernel_rfl) Try.underlying4
    (fun ds hd => by match ds, hd with | [d1, d2, d3], _ => rfl) wClientEmpty
theorem over : Rows.clientEmptyRow.holds Try.pinned (OpenSpec.ofChange Rows.clientEmptySpec) :=
  OpenClaim.holds_of_wide 9 Try.f9 rfl rfl rfl rfl rfl rfl rfl ⟨rfl, rfl, rfl, rfl, rfl⟩ rfl rfl rfl rfl rfl (by kernel_rfl) Try.func9 (by kernel_rfl)
    (of_decide_eq_true (by kernel_rfl)) (by unfold Func.isWrapper; first | (rw [if_pos (by decide +kernel)]; kernel_rfl) | (rw [if_neg (by decide +kernel)]; exact ⟨rfl, rfl⟩))
    (fun os started H enc _ => lifted os started H enc)
theorem proved : Rows.ClientEmptySaid := over
#print axioms proved
end Go.Proofs.Ytdpamikobmefeaa.rowClientEmpty
