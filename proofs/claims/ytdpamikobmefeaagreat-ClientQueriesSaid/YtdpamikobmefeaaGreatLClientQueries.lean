/- The law petasoslaw22.ClientQueries returns true at every input, and its arguments read as before. Conditions: none. -/
import Derived.Test.YtdpamikobmefeaaGreatWClientQueries
import Derived.Test.YtdpamikobmefeaaGreatLaw
import Derived.OpenShut
namespace Go.Proofs.YtdpamikobmefeaaGreat.rowClientQueries
open Go.RowKit
set_option linter.unusedVariables false
theorem own : ownKnob Tryz.prog.godebug = none := by kernel_rfl
set_option maxRecDepth 100000 in
theorem lifted (os : Os) (started : os.Started) (H : Type) (enc : TypeId × Value → H) :
    ReturnsInHanded {} Tryz.checked os 6 .any (Rows.clientQueriesSpec.pre6 enc Tryz.prog Tryz.f6 Rows.clientQueriesRow.domain false) (Rows.clientQueriesSpec.post enc Tryz.prog Tryz.f6 false true false false) :=
  law_lift (C := Tryz.checked) [((.st (.pair (.int .i64) (.pair (.int .u32) (.pair (.int .u32) .unit)))), 29), ((.sl (.st (.pair (.int .u32) (.pair (.int .u32) .unit))) 8), 43), ((.int .i64), 3)] 4 own started (by kernel_rfl) Tryz.func6
    (ChangeSpec.witness6 (enc := enc) (C := Tryz.checked) false ⟨#[], #[.agg #[.int .i64 0, .int .u32 0, .int .u32 0], .slice none 0 0, .int .i64 0], []⟩ 8 (by kernel_rfl) (by kernel_rfl) (by kernel_rfl) (by kernel_rfl))
    rfl (by kernel_rfl) (by kernel_rfl) (by kernel_rfl) (by kernel_rfl) (by kernel_rfl) Tryz.underlying4
    (fun ds hd => by match ds, hd with | [d1, d2, d3], _ => rfl) wClientQueries
theorem over : Rows.clientQueriesRow.holds Tryz.pinned (OpenSpec.ofChange Rows.clientQueriesSpec) :=
  OpenClaim.holds_of_wide 6 Tryz.f6 rfl rfl rfl rfl rfl rfl rfl ⟨rfl, rfl, rfl, rfl, rfl⟩ rfl rfl rfl rfl rfl (by kernel_rfl) Tryz.func6 (by kernel_rfl)
    (of_decide_eq_true (by kernel_rfl)) (by unfold Func.isWrapper; first | (rw [if_pos (by decide +kernel)]; kernel_rfl) | (rw [if_neg (by decide +kernel)]; exact ⟨rfl, rfl⟩))
    (fun os started H enc _ => lifted os started H enc)
theorem proved : Rows.ClientQueriesSaid := over
#print axioms proved
end Go.Proofs.YtdpamikobmefeaaGreat.rowClientQueries
