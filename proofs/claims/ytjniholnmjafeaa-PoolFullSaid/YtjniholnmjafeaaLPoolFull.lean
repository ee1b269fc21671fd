/- The law petasoslaw08.PoolFull returns true at every input, and its arguments read as before. Conditions: none. -/
import Derived.Test.YtjniholnmjafeaaWPoolFull
import Derived.Test.YtjniholnmjafeaaLaw
import Derived.OpenShut
namespace Go.Proofs.Ytjniholnmjafeaa.rowPoolFull
open Go.RowKit
set_option linter.unusedVariables false
theorem own : ownKnob Try.prog.godebug = none := by kernel_rfl
set_option maxRecDepth 100000 in
theorem lifted (os : Os) (started : os.Started) (H : Type) (enc : TypeId × Value → H) :
    ReturnsInHanded {} Try.checked os 16 .any (Rows.poolFullSpec.pre6 enc Try.prog Try.f16 Rows.poolFullRow.domain false) (Rows.poolFullSpec.post enc Try.prog Try.f16 false true false false) :=
  law_lift (C := Try.checked) [((.sl (.int .u8) 1), 51)] 4 own started (by kernel_rfl) Try.func16
    (ChangeSpec.witness6 (enc := enc) (C := Try.checked) false ⟨#[], #[.slice none 0 0], []⟩ 8 (by kernel_rfl) (by kernel_rfl) (by kernel_rfl) (by kernel_rfl))
    rfl (by kernel_rfl) (by kernel_rfl) (by kernel_rfl) (by kernel_rfl) (by kernel_rfl) Try.underlying4
    (fun ds hd => by match ds, hd with | [d], _ => rfl) wPoolFull
theorem over : Rows.poolFullRow.holds Try.pinned (OpenSpec.ofChange Rows.poolFullSpec) :=
  OpenClaim.holds_of_wide 16 Try.f16 rfl rfl rfl rfl rfl rfl rfl ⟨rfl, rfl, rfl, rfl, rfl⟩ rfl rfl rfl rfl rfl (by kernel_rfl) Try.func16 (by kernel_rfl)
    (of_decide_eq_true (by kernel_rfl)) (by unfold Func.isWrapper; first | (rw [if_pos (by decide +kernel)]; kernel_rfl) | (rw [if_neg (by decide +kernel)]; exact ⟨rfl, rfl⟩))
    (fun os started H enc _ => lifted os started H enc)
theorem proved : Rows.PoolFullSaid := over
#print axioms proved
end Go.Proofs.Ytjniholnmjafeaa.rowPoolFull
