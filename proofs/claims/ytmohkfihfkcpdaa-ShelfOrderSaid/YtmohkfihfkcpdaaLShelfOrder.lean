/- The law petasoslaw09.ShelfOrder returns true at every input, and its arguments read as before. Conditions: none. -/
import Derived.Test.YtmohkfihfkcpdaaWShelfOrder
import Derived.Test.YtmohkfihfkcpdaaLaw
import Derived.OpenShut
namespace Go.Proofs.Ytmohkfihfkcpdaa.rowShelfOrder
open Go.RowKit
set_option linter.unusedVariables false
theorem own : ownKnob Try.prog.godebug = none := by kernel_rfl
set_option maxRecDepth 100000 in
theorem lifted (os : Os) (started : os.Started) (H : Type) (enc : TypeId × Value → H) :
    ReturnsInHanded {} Try.checked os 6 .any (Rows.shelfOrderSpec.pre6 enc Try.prog Try.f6 Rows.shelfOrderRow.domain false) (Rows.shelfOrderSpec.post enc Try.prog Try.f6 false true false false) :=
  law_lift (C := Try.checked) [((.sl (.st (.pair (.int .u32) (.pair (.st (.pair (.int .u64) (.pair (.int .u64) (.pair (.sl (.int .u32) 4) .unit)))) (.pair .bool .unit)))) 56), 46), ((.sl (.int .i64) 8), 24)] 4 own started (by kernel_rfl) Try.func6
    (ChangeSpec.witness6 (enc := enc) (C := Try.checked) false ⟨#[], #[.slice none 0 0, .slice none 0 0], []⟩ 8 (by kernel_rfl) (by kernel_rfl) (by kernel_rfl) (by kernel_rfl))
    rfl (by kernel_rfl) (by kernel_rfl) (by kernel_rfl) (by kernel_rfl) (by kernel_rfl) Try.underlying4
    (fun ds hd => by match ds, hd with | [d1, d2], _ => rfl) wShelfOrder
theorem over : Rows.shelfOrderRow.holds Try.pinned (OpenSpec.ofChange Rows.shelfOrderSpec) :=
  OpenClaim.holds_of_wide 6 Try.f6 rfl rfl rfl rfl rfl rfl rfl ⟨rfl, rfl, rfl, rfl, rfl⟩ rfl rfl rfl rfl rfl (by kernel_rfl) Try.func6 (by kernel_rfl)
    (of_decide_eq_true (by kernel_rfl)) (by unfold Func.isWrapper; first | (rw [if_pos (by decide +kernel)]; kernel_rfl) | (rw [if_neg (by decide +kernel)]; exact ⟨rfl, rfl⟩))
    (fun os started H enc _ => lifted os started H enc)
theorem proved : Rows.ShelfOrderSaid := over
#print axioms proved
end Go.Proofs.Ytmohkfihfkcpdaa.rowShelfOrder
