/- The walk of the law RecordNewer: it returns true. Conditions: none. -/
import Derived.Test.YtjniholnmjafeaaNewer
import Derived.Test.YtjniholnmjafeaaLaw
import Derived.Test.YtjniholnmjafeaaData
import Derived.Outline
import Derived.OpenShut
import Derived.Deep.RegionHeld3
import Derived.Lib.Hide
namespace Go.Proofs.Ytjniholnmjafeaa
open Go.RowKit Go.ChangeShapes
set_option maxRecDepth 100000
set_option linter.unusedVariables false
set_option maxHeartbeats 1000000 in
theorem wRecordNewer0 (W : World) (a1 i1 v1 : Int) (s1 : Option Addr) (l1 c1 : Nat) (g1 : Bool) (a2 i2 v2 : Int) (s2 : Option Addr) (l2 c2 : Nat) (g2 : Bool) (a3 i3 v3 : Int) (s3 : Option Addr) (l3 c3 : Nat) (g3 : Bool) (h1 : 0 ≤ v1) (h2 : 0 ≤ v2) (h3 : 0 ≤ v3) :
    Calls Try.prog 4 #[.agg #[.int .u32 a1, .int .u64 i1, .int .u64 v1, .slice s1 l1 c1, .bool g1], .agg #[.int .u32 a2, .int .u64 i2, .int .u64 v2, .slice s2 l2 c2, .bool g2], .agg #[.int .u32 a3, .int .u64 i3, .int .u64 v3, .slice s3 l3 c3, .bool g3]] W fun e W' => e = .returned (.bool true) ∧ Below W.heap.size W W' := by
  go_enter Try.func4, Try.ntmps4
  go_wp2
  refine wp_abs (fun w => Box w W.heap.size #[.int .u32 a1, .int .u64 i1, .int .u64 v1, .slice s1 l1 c1, .bool g1] ∧ Box w (W.heap.size + 1) #[.int .u32 a2, .int .u64 i2, .int .u64 v2, .slice s2 l2 c2, .bool g2] ∧
    Box w (W.heap.size + 1 + 1) #[.int .u32 a3, .int .u64 i3, .int .u64 v3, .slice s3 l3 c3, .bool g3] ∧ Below W.heap.size W w)
    ⟨((Box.new W _ _).alloc _).alloc _, by rw [← size_alloc W]; exact (Box.new _ _ _).alloc _, by rw [← size_alloc W, ← size_alloc (W.alloc _)]; exact Box.new _ _ _, (by repeat (first | exact Below.refl _ _ | assumption | apply Below.drew | apply belowN | (refine Below.alloc ?_ (by first | exact Nat.le_refl _ | (simp; done) | (simp; omega)) _) | (refine Below.setCell ?_ (by first | exact Nat.le_refl _ | (simp; done) | (simp; omega)) _)))⟩ ?_
  generalize W.heap.size + 1 = b1
  generalize b1 + 1 = b2
  obtain ⟨b0, hb0⟩ : ∃ b0, b0 = W.heap.size := ⟨_, rfl⟩
  rw [← hb0]
  rintro w ⟨x0, x1, x2, hB⟩
  have HB := Lib.hid hB; clear hB
  have H0 := Lib.hid hb0; clear hb0
  have z0 := x0.lt
  have z1 := x1.lt
  have z2 := x2.lt
  have c0 := x0.cell
  have c1' := x1.cell
  have c2' := x2.cell
  have X0 := Lib.hid x0
  have X1 := Lib.hid x1
  have X2 := Lib.hid x2
  clear x0 x1 x2
  go_region_held3 (fun w' => Same w w') (first | exact Same.drew _ | assumption)
    (first | (go_at_call 20; refine (newer_any _ _ _ _ _ _ _ _ _ _ _ _ _ _ _ (by omega) (by omega)).mono ?_; rintro e w1 ⟨rfl, hb⟩; have S1 := Same.step (by first | exact Same.drew _ | assumption) hb; clear hb))
  go_wp2_with (first
    | (go_at_call 20; refine (newer_any _ _ _ _ _ _ _ _ _ _ _ _ _ _ _ (by omega) (by omega)).mono ?_; rintro e w1 ⟨rfl, hb⟩; have S1 := Same.step (by first | exact Same.drew _ | assumption) hb; clear hb)
    | (go_at_call 18; refine (awake04 _).mono ?_; rintro e w1 ⟨rfl, hb⟩; have S1 := Same.step (by first | exact Same.drew _ | assumption) hb; clear hb))
  all_goals
    go_ret
    refine ⟨congrArg (fun b => Ending.returned (.bool b)) (?_ : _ = true), ?_⟩
  all_goals first
    | (have S := (‹Same w _› : Same w _).1
       have HB' := HB.out
       rw [← H0.out]
       exact below_from (by rw [H0.out] at HB' ⊢; exact HB') S (by rw [H0.out]; exact HB'.size))
    | (have L := newer_laws v1 v2 v3 g1 g2 g3
       clear c0 c1' c2' X0 X1 X2 HB H0 z0 z1 z2
       first | (simp_all; done) | (cases g1 <;> cases g2 <;> simp_all; done))

theorem wRecordNewer (W : World) (vs : List Value) (h : Sh.Args W (· < W.heap.size) [((.st (.pair (.int .u32) (.pair (.st (.pair (.int .u64) (.pair (.int .u64) (.pair (.sl (.int .u32) 4) .unit)))) (.pair .bool .unit)))), 33), ((.st (.pair (.int .u32) (.pair (.st (.pair (.int .u64) (.pair (.int .u64) (.pair (.sl (.int .u32) 4) .unit)))) (.pair .bool .unit)))), 33), ((.st (.pair (.int .u32) (.pair (.st (.pair (.int .u64) (.pair (.int .u64) (.pair (.sl (.int .u32) 4) .unit)))) (.pair .bool .unit)))), 33)] vs) :
    Calls Try.prog 4 vs.toArray W fun e W' => e = .returned (.bool true) ∧ Below W.heap.size W W' := by
  obtain ⟨_, _, rfl, ⟨a, ha⟩, _, _, rfl, ⟨b, hb⟩, _, _, rfl, ⟨c, hc⟩, rfl⟩ := h
  obtain ⟨e1, s1, l1, c1, rfl, h1, _⟩ := ent_open ha
  obtain ⟨e2, s2, l2, c2, rfl, h2, _⟩ := ent_open hb
  obtain ⟨e3, s3, l3, c3, rfl, h3, _⟩ := ent_open hc
  exact wRecordNewer0 W _ _ _ s1 l1 c1 _ _ _ _ s2 l2 c2 _ _ _ _ s3 l3 c3 _ h1.2.2.1.1 h2.2.2.1.1 h3.2.2.1.1
end Go.Proofs.Ytjniholnmjafeaa
