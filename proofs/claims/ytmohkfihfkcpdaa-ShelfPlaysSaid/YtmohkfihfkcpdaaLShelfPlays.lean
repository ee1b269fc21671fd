/- The law petasoslaw09.ShelfPlays returns true at every input, and its arguments read as before. Conditions: none. -/
import Derived.Test.YtmohkfihfkcpdaaWShelfPlays
import Derived.Test.YtmohkfihfkcpdaaLaw
import Derived.OpenShut
namespace Go.Proofs.Ytmohkfihfkcpdaa.rowShelfPlays
open Go.RowKit
set_option linter.unusedVariables false
theorem own : ownKnob Try.prog.godebug = none := by kernel_rfl
set_option maxRecDepth 100000 in
theorem lifted (os : Os) (started : os.Started) (H : Type) (enc : TypeId × Value → H) :
    ReturnsInHanded {} Try.checked os 15 .any (Rows.shelfPlaysSpec.pre6 enc Try.prog Try.f15 Rows.shelfPlaysRow.domain false) (Rows.shelfPlaysSpec.post enc Try.prog Try.f15 false true false false) :=
  law_lift (C := Try.checked) [((.sl (.st (.pair (.int .i64) (.pair (.st (.pair (.int .u32) (.pair (.st (.pair (.int .u64) (.pair (.int .u64) (.pair (.sl (.int .u32) 4) .unit)))) (.pair .bool .unit)))) (.pair (.st (.pair (.int .u32) (.pair (.int .u32) .unit))) (.pair (.sl (.st (.pair (.int .u32) (.pair (.st (.pair (.int .u64) (.pair (.int .u64) (.pair (.sl (.int .u32) 4) .unit)))) (.pair .bool .unit)))) 56) .unit))))) 96), 88), ((.st (.pair (.int .u32) (.pair (.int .u32) .unit))), 54), ((.st (.pair (.int .u32) (.pair (.int .u64) .unit))), 90)] 4 own started (by kernel_rfl) Try.func15
    (ChangeSpec.witness6 (enc := enc) (C := Try.checked) false ⟨#[], #[.slice none 0 0, .agg #[.int .u32 0, .int .u32 0], .agg #[.int .u32 0, .int .u64 0]], []⟩ 8 (by kernel_rfl) (by kernel_rfl) (by kernel_rfl) (by kernel_rfl))
    rfl (by kernel_rfl) (by kernel_rfl) (by kernel_rfl) (by kernel_rfl) (by kernel_rfl) Try.underlying4
    (fun ds hd => by match ds, hd with | [d1, d2, d3], _ => rfl) wShelfPlays
theorem over : Rows.shelfPlaysRow.holds Try.pinned (OpenSpec.ofChange Rows.shelfPlaysSpec) :=
  OpenClaim.holds_of_wide 15 Try.f15 rfl rfl rfl rfl rfl rfl rfl ⟨rfl, rfl, rfl, rfl, rfl⟩ rfl rfl rfl rfl rfl (by kernel_rfl) Try.func15 (by kernel_rfl)
    (of_decide_eq_true (by kernel_rfl)) (by unfold Func.isWrapper; first | (rw [if_pos (by decide +kernel)]; kernel_rfl) | (rw [if_neg (by decide +kernel)]; exact ⟨rfl, rfl⟩))
    (fun os started H enc _ => lifted os started H enc)
theorem proved : Rows.ShelfPlaysSaid := over
#print axioms proved
end Go.Proofs.Ytmohkfihfkcpdaa.rowShelfPlays
