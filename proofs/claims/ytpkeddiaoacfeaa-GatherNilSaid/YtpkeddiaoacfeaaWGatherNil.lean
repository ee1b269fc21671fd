/- The law GatherNil: its walk. -/
import Derived.Test.YtpkeddiaoacfeaaGatherOne
import Derived.Test.YtpkeddiaoacfeaaLaw
namespace Go.Proofs.Ytpkeddiaoacfeaa
open Go.RowKit Go.ChangeShapes
set_option maxRecDepth 100000
set_option linter.unusedVariables false
set_option linter.unusedSimpArgs false

set_option maxHeartbeats 1000000 in
theorem wGatherNil0 (W : World) (A : Option Addr) (m cap : Nat) (n : Int) :
    Calls Try.prog 7 #[.slice A m cap, .int .i64 n] W fun e W' => e = .returned (.bool true) ∧ Below W.heap.size W W' := by
  have hpn : ∀ w : World, (binOp .eql 32 (.pointer none) (.pointer none)).run Try.prog w = .ok (.bool true) w := fun w => by rfl
  go_enter Try.func7, Try.ntmps7
  go_wp2_with (first
    | (go_at_call 20; (with_reducible refine (gnil_page n _).mono ?_); rintro e w' ⟨rfl, rfl⟩)
    | (go_at_call 15; (with_reducible refine (awake18 _).mono ?_); rintro e w1 ⟨rfl, hb⟩; have HB := Lib.hid hb; clear hb)
    | (go_at_call 17; (with_reducible refine (gnil_add _ _ _ _).mono ?_); rintro e w' ⟨rfl, rfl⟩)
    | (go_at_call 19; (with_reducible refine (gnil_all _).mono ?_); rintro e w' ⟨rfl, rfl⟩)
    | (go_at_call 22; (with_reducible refine (gnil_fork _).mono ?_); rintro e w' ⟨rfl, rfl⟩))
  go_ret
  exact ⟨by first | rfl | simp, HB.out⟩

theorem wGatherNil (W : World) (vs : List Value) (h : Sh.Args W (· < W.heap.size) [((.sl (.st (.pair (.int .u64) (.pair (.int .u64) (.pair (.sl (.int .u32) 4) .unit)))) 40), 23), ((.int .i64), 3)] vs) :
    Calls Try.prog 7 vs.toArray W fun e W' => e = .returned (.bool true) ∧ Below W.heap.size W W' := by
  obtain ⟨v0, _, rfl, ⟨a, ha⟩, v1, _, rfl, ⟨b, hb⟩, rfl⟩ := h
  have ha2 : Sh.Rep W (· < W.heap.size) (.sl (.st shRecC) 40) [v0] a := ha
  obtain ⟨A, m, cap, h1, _⟩ := structs_of (s := .st shRecC) (by decide) ha2
  simp only [List.cons.injEq, and_true] at h1
  subst h1
  obtain ⟨n, rfl, _⟩ := int_open hb
  exact wGatherNil0 W A m cap n
end Go.Proofs.Ytpkeddiaoacfeaa
