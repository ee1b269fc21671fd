/- The law petasoslaw22.ClientRefuses returns true at every input, and its arguments read as before. Conditions: none. -/
import Derived.Test.YtdpamikobmefeaaGreatWClientRefuses
import Derived.Test.YtdpamikobmefeaaGreatLaw
import Derived.OpenShut
namespace Go.Proofs.YtdpamikobmefeaaGreat.rowClientRefuses
open Go.RowKit
set_option linter.unusedVariables false
theorem own : ownKnob Tryz.prog.godebug = none := by kernel_rfl
set_option maxRecDepth 100000 in
theorem lifted (os : Os) (started : os.Started) (H : Type) (enc : TypeId × Value → H) :
    ReturnsInHanded {} Tryz.checked os 3 .any (Rows.clientRefusesSpec.pre6 enc Tryz.prog Tryz.f3 Rows.clientRefusesRow.domain false) (Rows.clientRefusesSpec.post enc Tryz.prog Tryz.f3 false true false false) :=
  law_lift (C := Tryz.checked) [((.int .i64), 3)] 4 own started (by kernel_rfl) Tryz.func3
    (ChangeSpec.witness6 (enc := enc) (C := Tryz.checked) false ⟨#[], #[.int .i64 0], []⟩ 8 (by kernel_rfl) (by kernel_rfl) (by kernel_rfl) (by kernel_rfl))
    rfl (by kernel_rfl) (by kernel_rfl) (by kernel_rfl) (by kernel_rfl) (by kernel_rfl) Tryz.underlying4
    (fun ds hd => by match ds, hd with | [d], _ => rfl) wClientRefuses
theorem over : Rows.clientRefusesRow.holds Tryz.pinned (OpenSpec.ofChange Rows.clientRefusesSpec) :=
  OpenClaim.holds_of_wide 3 Tryz.f3 rfl rfl rfl rfl rfl rfl rfl ⟨rfl, rfl, rfl, rfl, rfl⟩ rfl rfl rfl rfl rfl (by kernel_rfl) Tryz.func3 (by kernel_rfl)
    (of_decide_eq_true (by kernel_rfl)) (by unfold Func.isWrapper; first | (rw [if_pos (by decide +kernel)]; kernel_rfl) | (rw [if_neg (by decide +kernel)]; exact ⟨rfl, rfl⟩))
    (fun os started H enc _ => lifted os started H enc)
theorem proved : Rows.ClientRefusesSaid := over
#print axioms proved
end Go.Proofs.YtdpamikobmefeaaGreat.rowClientRefuses
