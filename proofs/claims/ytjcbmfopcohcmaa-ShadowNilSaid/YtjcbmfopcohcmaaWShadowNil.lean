/- The walk of the law ShadowNil: it returns true. Conditions: none. -/
import Derived.Test.YtjcbmfopcohcmaaShadAll
namespace Go.Proofs.Ytjcbmfopcohcmaa
open Go.RowKit Go.ChangeShapes Go.Maps
set_option maxRecDepth 100000
set_option linter.unusedVariables false
set_option linter.unusedSimpArgs false

set_option maxHeartbeats 1000000 in
theorem wShadowNil0 (W : World) (p x id ver : Int) (s : Option Addr) (l c : Nat) (g : Bool) :
    Calls Try.prog 5 #[.int .u32 p, .agg #[.int .u32 x, .int .u64 id, .int .u64 ver, .slice s l c, .bool g]] W fun e W' => e = .returned (.bool true) ∧ Below W.heap.size W W' := by
  have hpn : ∀ w : World, (binOp .eql 25 (.pointer none) (.pointer none)).run Try.prog w = .ok (.bool true) w := fun w => by rfl
  go_enter Try.func5, Try.ntmps5
  go_upto_region 3 with (go_at_call 13; go_loud ((with_reducible refine (nsh_set _ _ _ _ _).mono ?_); rintro e w ⟨rfl, rfl⟩))
  refine wp_abs (fun w => Box w W.heap.size #[.int .u32 x, .int .u64 id, .int .u64 ver, .slice s l c, .bool g] ∧ Below W.heap.size W w) ⟨(by repeat (first | apply Box.drew | apply Box.drewN | exact Box.newAt _ _ _ _ (by first | rfl | (simp only [size_alloc]; done) | (simp only [size_alloc]; omega)) | assumption | refine Box.alloc ?_ _)), (by repeat (first | exact Below.refl _ _ | assumption | apply Below.drew | apply belowN | (refine Below.alloc ?_ (by first | exact Nat.le_refl _ | (simp; done) | (simp; omega)) _) | (refine Below.setCell ?_ (by first | exact Nat.le_refl _ | (simp; done) | (simp; omega)) _)))⟩ ?_
  generalize hb2 : W.heap.size = b2
  rintro w0 ⟨X2, hB⟩
  have HW := Lib.hid hb2
  have HB := Lib.hid hB
  have HX2 := Lib.hid X2
  clear hB X2 hb2
  go_wp2_with (first
    | (go_at_call 9; go_loud ((with_reducible refine (awake10 _).mono ?_); rintro e w2 ⟨rfl, hb⟩; have Y2 := HX2.out.below hb HX2.out.lt; have c2 := Y2.cell; have z2 := Y2.lt; have S1 := Lib.hid hb; clear hb Y2))
    | (go_at_call 11; go_loud ((with_reducible refine (nsh_put _ _ _ _ _ _ _ _ _).mono ?_); rintro e w3 ⟨rfl, hb⟩; have S2 := Lib.hid hb; clear hb))
    | (go_at_call 16; go_loud ((with_reducible refine (nsh_of _ _).mono ?_); rintro e w ⟨rfl, rfl⟩))
    | (go_at_call 18; go_loud ((with_reducible refine (nsh_drop _ _).mono ?_); rintro e w ⟨rfl, rfl⟩))
    | (go_at_call 19; go_loud ((with_reducible refine (nsh_owners _).mono ?_); rintro e w ⟨rfl, rfl⟩))
    | (go_at_call 20; go_loud ((with_reducible refine (nsh_fork _).mono ?_); rintro e w ⟨rfl, rfl⟩)))
  go_ret
  have h3 := HW.out
  have h2 := HB.out
  rw [← h3] at h2
  exact ⟨by first | rfl | simp, below_from (below_from h2 S1.out h2.size) S2.out (Nat.le_trans h2.size S1.out.size)⟩

theorem wShadowNil (W : World) (vs : List Value) (h : Sh.Args W (· < W.heap.size) [((.int .u32), 22), ((.st (.pair (.int .u32) (.pair (.st (.pair (.int .u64) (.pair (.int .u64) (.pair (.sl (.int .u32) 4) .unit)))) (.pair .bool .unit)))), 36)] vs) :
    Calls Try.prog 5 vs.toArray W fun e W' => e = .returned (.bool true) ∧ Below W.heap.size W W' := by
  obtain ⟨_, _, rfl, ⟨b, hb⟩, _, _, rfl, ⟨a, ha⟩, rfl⟩ := h
  obtain ⟨n1, rfl, w1⟩ := int_open hb
  obtain ⟨e, s, l, c, rfl, hok, hi⟩ := ent_open ha
  exact wShadowNil0 W n1 e.value e.rc.id e.rc.ver s l c e.gone
end Go.Proofs.Ytjcbmfopcohcmaa
