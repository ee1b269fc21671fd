/- The law petasoslaw09.ShelfOlder returns true at every input, and its arguments read as before. Conditions: none. -/
import Derived.Test.YtjniholnmjafeaaWShelfOlder
import Derived.Test.YtjniholnmjafeaaLaw
import Derived.OpenShut
namespace Go.Proofs.Ytjniholnmjafeaa.rowShelfOlder
open Go.RowKit
set_option linter.unusedVariables false
theorem own : ownKnob Try.prog.godebug = none := by kernel_rfl
set_option maxRecDepth 100000 in
theorem lifted (os : Os) (started : os.Started) (H : Type) (enc : TypeId × Value → H) :
    ReturnsInHanded {} Try.checked os 10 .any (Rows.shelfOlderSpec.pre6 enc Try.prog Try.f10 Rows.shelfOlderRow.domain false) (Rows.shelfOlderSpec.post enc Try.prog Try.f10 false true false false) :=
  law_lift (C := Try.checked) [((.st (.pair (.int .u32) (.pair (.st (.pair (.int .u64) (.pair (.int .u64) (.pair (.sl (.int .u32) 4) .unit)))) (.pair .bool .unit)))), 33), ((.int .u64), 24)] 4 own started (by kernel_rfl) Try.func10
    (ChangeSpec.witness6 (enc := enc) (C := Try.checked) false ⟨#[], #[.agg #[.int .u32 0, .int .u64 0, .int .u64 0, .slice none 0 0, .bool false], .int .u64 0], []⟩ 8 (by kernel_rfl) (by kernel_rfl) (by kernel_rfl) (by kernel_rfl))
    rfl (by kernel_rfl) (by kernel_rfl) (by kernel_rfl) (by kernel_rfl) (by kernel_rfl) Try.underlying4
    (fun ds hd => by match ds, hd with | [d1, d2], _ => rfl) wShelfOlder
theorem over : Rows.shelfOlderRow.holds Try.pinned (OpenSpec.ofChange Rows.shelfOlderSpec) :=
  OpenClaim.holds_of_wide 10 Try.f10 rfl rfl rfl rfl rfl rfl rfl ⟨rfl, rfl, rfl, rfl, rfl⟩ rfl rfl rfl rfl rfl (by kernel_rfl) Try.func10 (by kernel_rfl)
    (of_decide_eq_true (by kernel_rfl)) (by unfold Func.isWrapper; first | (rw [if_pos (by decide +kernel)]; kernel_rfl) | (rw [if_neg (by decide +kernel)]; exact ⟨rfl, rfl⟩))
    (fun os started H enc _ => lifted os started H enc)
theorem proved : Rows.ShelfOlderSaid := over
#print axioms proved
end Go.Proofs.Ytjniholnmjafeaa.rowShelfOlder
