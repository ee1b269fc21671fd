/- The law petasoslaw22.ClientGiven returns true at every input, and its arguments read as before. Conditions: none. -/
import Derived.Test.YtdpamikobmefeaaWClientGiven
import Derived.Test.YtdpamikobmefeaaLaw
import Derived.OpenShut
namespace Go.Proofs.Ytdpamikobmefeaa.rowClientGiven
open Go.RowKit
set_option linter.unusedVariables false
theorem own : ownKnob Try.prog.godebug = none := by kernel_rfl
set_option maxRecDepth 100000 in
theorem lifted (os : Os) (started : os.Started) (H : Type) (enc : TypeId × Value → H) :
    ReturnsInHanded {} Try.checked os 8 .any (Rows.clientGivenSpec.pre6 enc Try.prog Try.f8 Rows.clientGivenRow.domain false) (Rows.clientGivenSpec.post enc Try.prog Try.f8 false true false false) :=
  law_lift (C := Try.checked) [((.int .u32), 47), ((.int .u32), 47), ((.int .u32), 47)] 4 own started (by kernel_rfl) Try.func8
    (ChangeSpec.witness6 (enc := enc) (C := Try.checked) false ⟨#[], #[.int .u32 0, .int .u32 0, .int .u32 0], []⟩ 8 (by kernel_rfl) (by kernel_rfl) (by kernel_rfl) (by kernel_rfl))
    rfl (by kernel_rfl) (by kernel_rfl) (by kernel_rfl) (by kernel_rfl) (by kernel_rfl) Try.underlying4
    (fun ds hd => by match ds, hd with | [d1, d2, d3], _ => rfl) wClientGiven
theorem over : Rows.clientGivenRow.holds Try.pinned (OpenSpec.ofChange Rows.clientGivenSpec) :=
  OpenClaim.holds_of_wide 8 Try.f8 rfl rfl rfl rfl rfl rfl rfl ⟨rfl, rfl, rfl, rfl, rfl⟩ rfl rfl rfl rfl rfl (by kernel_rfl) Try.func8 (by kernel_rfl)
    (of_decide_eq_true (by kernel_rfl)) (by unfold Func.isWrapper; first | (rw [if_pos (by decide +kernel)]; kernel_rfl) | (rw [if_neg (by decide +kernel)]; exact ⟨rfl, rfl⟩))
    (fun os started H enc _ => lifted os started H enc)
theorem proved : Rows.ClientGivenSaid := over
#print axioms proved
end Go.Proofs.Ytdpamikobmefeaa.rowClientGiven
