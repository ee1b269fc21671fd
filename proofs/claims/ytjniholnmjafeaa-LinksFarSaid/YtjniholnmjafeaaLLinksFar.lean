/- The law petasoslaw12.LinksFar returns true at every input, and its arguments read as before. Conditions: none. -/
import Derived.Test.YtjniholnmjafeaaWLinksFar
import Derived.Test.YtjniholnmjafeaaLaw
import Derived.OpenShut
namespace Go.Proofs.Ytjniholnmjafeaa.rowLinksFar
open Go.RowKit
set_option linter.unusedVariables false
theorem own : ownKnob Try.prog.godebug = none := by kernel_rfl
set_option maxRecDepth 100000 in
theorem lifted (os : Os) (started : os.Started) (H : Type) (enc : TypeId × Value → H) :
    ReturnsInHanded {} Try.checked os 5 .any (Rows.linksFarSpec.pre6 enc Try.prog Try.f5 Rows.linksFarRow.domain false) (Rows.linksFarSpec.post enc Try.prog Try.f5 false true false false) :=
  law_lift (C := Try.checked) [((.int .u64), 24)] 4 own started (by kernel_rfl) Try.func5
    (ChangeSpec.witness6 (enc := enc) (C := Try.checked) false ⟨#[], #[.int .u64 0], []⟩ 8 (by kernel_rfl) (by kernel_rfl) (by kernel_rfl) (by kernel_rfl))
    rfl (by kernel_rfl) (by kernel_rfl) (by kernel_rfl) (by kernel_rfl) (by kernel_rfl) Try.underlying4
    (fun ds hd => by match ds, hd with | [d], _ => rfl) wLinksFar
theorem over : Rows.linksFarRow.holds Try.pinned (OpenSpec.ofChange Rows.linksFarSpec) :=
  OpenClaim.holds_of_wide 5 Try.f5 rfl rfl rfl rfl rfl rfl rfl ⟨rfl, rfl, rfl, rfl, rfl⟩ rfl rfl rfl rfl rfl (by kernel_rfl) Try.func5 (by kernel_rfl)
    (of_decide_eq_true (by kernel_rfl)) (by unfold Func.isWrapper; first | (rw [if_pos (by decide +kernel)]; kernel_rfl) | (rw [if_neg (by decide +kernel)]; exact ⟨rfl, rfl⟩))
    (fun os started H enc _ => lifted os started H enc)
theorem proved : Rows.LinksFarSaid := over
#print axioms proved
end Go.Proofs.Ytjniholnmjafeaa.rowLinksFar
