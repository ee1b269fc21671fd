/- What a nil shelf's methods do. Conditions: none. -/
import Derived.Test.YtjcbmfopcohcmaaShelfNow
import Derived.Test.YtjcbmfopcohcmaaSortNone
namespace Go.Proofs.Ytjcbmfopcohcmaa
open Go.RowKit Go.ChangeShapes Go.Maps
set_option maxRecDepth 100000
set_option linter.unusedVariables false
set_option linter.unusedSimpArgs false

theorem none_put (x id ver : Int) (s : Option Addr) (l c : Nat) (g : Bool) (w : World) : Calls Try.prog 39 #[.pointer none, .agg #[.int .u32 x, .int .u64 id, .int .u64 ver, .slice s l c, .bool g]] w fun e w' => e = .returned (.tuple #[.bool false, .int .i64 2]) ∧ Below w.heap.size w w' := by
  go_enter Try.func39, Try.ntmps39
  go_wp2
  go_ret2
  exact ⟨rfl, (by repeat (first | exact Below.refl _ _ | assumption | apply Below.drew | apply belowN | (refine Below.alloc ?_ (by first | exact Nat.le_refl _ | (simp; done) | (simp; omega)) _) | (refine Below.setCell ?_ (by first | exact Nat.le_refl _ | (simp; done) | (simp; omega)) _)))⟩
theorem none_len (w : World) : Calls Try.prog 49 #[.pointer none] w fun e w' => e = .returned (.int .i64 0) ∧ Below w.heap.size w w' := by
  go_enter Try.func49, Try.ntmps49
  go_wp2
  go_ret
  exact ⟨rfl, Below.refl _ _⟩
theorem none_fork (w : World) : Calls Try.prog 51 #[.pointer none] w fun e w' => e = .returned (.pointer none) ∧ Below w.heap.size w w' := by
  go_enter Try.func51, Try.ntmps51
  go_wp2
  go_ret
  exact ⟨rfl, Below.refl _ _⟩
theorem none_scan (a b : Int) (w : World) : Calls Try.prog 46 #[.pointer none, .agg #[.int .u32 a, .int .u32 b]] w fun e w' => e = .returned (.slice none 0 0) ∧ Below w.heap.size w w' := by
  go_enter Try.func46, Try.ntmps46
  go_wp2_with (go_at_call 83; refine (sort_zero _ _ _ _).mono ?_; rintro e w' ⟨rfl, rfl⟩)
  go_ret
  exact ⟨rfl, (by repeat (first | exact Below.refl _ _ | assumption | apply Below.drew | apply belowN | (refine Below.alloc ?_ (by first | exact Nat.le_refl _ | (simp; done) | (simp; omega)) _) | (refine Below.setCell ?_ (by first | exact Nat.le_refl _ | (simp; done) | (simp; omega)) _)))⟩
set_option maxHeartbeats 1000000 in
theorem none_join1 (x id ver : Int) (s : Option Addr) (l c : Nat) (g : Bool) (b : Nat) (w : World) (h : Box w b #[.int .u32 x, .int .u64 id, .int .u64 ver, .slice s l c, .bool g]) :
    Calls Try.prog 43 #[.pointer none, .slice (some ⟨b, 0, none⟩) 1 1] w fun e w' => e = .returned (.int .i64 0) ∧ Below w.heap.size w w' := by
  have cb := h.cell
  have zb := h.lt
  clear h
  go_enter Try.func43, Try.ntmps43
  go_wp2
  refine wp_loop_rounds 2 ?_
  rw [rounds_succ]
  go_wp2_with (go_at_call 39; refine (none_put _ _ _ _ _ _ _ _).mono ?_; rintro e w' ⟨rfl, hb⟩)
  rw [rounds_succ]
  go_wp2
  go_ret
  exact ⟨rfl, (below_a1 w _).trans (hb.mono (by rw [size_alloc]; omega))⟩
end Go.Proofs.Ytjcbmfopcohcmaa
