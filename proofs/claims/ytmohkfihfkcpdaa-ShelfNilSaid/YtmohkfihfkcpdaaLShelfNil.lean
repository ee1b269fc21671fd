/- The law petasoslaw09.ShelfNil returns true at every input, and its arguments read as before. Conditions: none. -/
import Derived.Test.YtmohkfihfkcpdaaWShelfNil
import Derived.Test.YtmohkfihfkcpdaaLaw
import Derived.OpenShut
namespace Go.Proofs.Ytmohkfihfkcpdaa.rowShelfNil
open Go.RowKit
set_option linter.unusedVariables false
theorem own : ownKnob Try.prog.godebug = none := by kernel_rfl
set_option maxRecDepth 100000 in
theorem lifted (os : Os) (started : os.Started) (H : Type) (enc : TypeId × Value → H) :
    ReturnsInHanded {} Try.checked os 16 .any (Rows.shelfNilSpec.pre6 enc Try.prog Try.f16 Rows.shelfNilRow.domain false) (Rows.shelfNilSpec.post enc Try.prog Try.f16 false true false false) :=
  law_lift (C := Try.checked) [((.st (.pair (.int .u32) (.pair (.st (.pair (.int .u64) (.pair (.int .u64) (.pair (.sl (.int .u32) 4) .unit)))) (.pair .bool .unit)))), 49), ((.st (.pair (.int .u32) (.pair (.int .u32) .unit))), 54)] 4 own started (by kernel_rfl) Try.func16
    (ChangeSpec.witness6 (enc := enc) (C := Try.checked) false ⟨#[], #[.agg #[.int .u32 0, .int .u64 0, .int .u64 0, .slice none 0 0, .bool false], .agg #[.int .u32 0, .int .u32 0]], []⟩ 8 (by kernel_rfl) (by kernel_rfl) (by kernel_rfl) (by kernel_rfl))
    rfl (by kernel_rfl) (by kernel_rfl) (by kernel_rfl) (by kernel_rfl) (by kernel_rfl) Try.underlying4
    (fun ds hd => by match ds, hd with | [d1, d2], _ => rfl) wShelfNil
theorem over : Rows.shelfNilRow.holds Try.pinned (OpenSpec.ofChange Rows.shelfNilSpec) :=
  OpenClaim.holds_of_wide 16 Try.f16 rfl rfl rfl rfl rfl rfl rfl ⟨rfl, rfl, rfl, rfl, rfl⟩ rfl rfl rfl rfl rfl (by kernel_rfl) Try.func16 (by kernel_rfl)
    (of_decide_eq_true (by kernel_rfl)) (by unfold Func.isWrapper; first | (rw [if_pos (by decide +kernel)]; kernel_rfl) | (rw [if_neg (by decide +kernel)]; exact ⟨rfl, rfl⟩))
    (fun os started H enc _ => lifted os started H enc)
theorem proved : Rows.ShelfNilSaid := over
#print axioms proved
end Go.Proofs.Ytmohkfihfkcpdaa.rowShelfNil
