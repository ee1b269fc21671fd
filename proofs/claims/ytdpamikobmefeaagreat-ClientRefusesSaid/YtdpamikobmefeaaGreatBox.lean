/- Ranges of a box: box.Span, In; the document's In. Conditions: bounds are numbers of 32 bits. -/
import Derived.Test.YtdpamikobmefeaaGreatCircle
namespace Go.Proofs.YtdpamikobmefeaaGreat
open Go.RowKit
set_option maxRecDepth 100000
set_option linter.unusedVariables false
set_option linter.unusedSimpArgs false

/-- A range. -/
structure Rng where
  kind : Int
  lo : Int
  hi : Int
deriving DecidableEq
def Rng.ok (r : Rng) : Prop := U32 r.lo ∧ U32 r.hi
def inF (r : Rng) (v : Int) : Bool := r.kind == 1 || (r.kind == 2 && decide ((v - r.lo) % 4294967296 ≤ (r.hi - r.lo) % 4294967296))
def matchF (b : List Rng) (vs : List Int) : Bool := decide (b.length = vs.length) && (b.zip vs).all fun p => inF p.1 p.2
theorem hasF_round (v : Int) : hasF 4294967295 4294967295 v = true := by unfold hasF sizeF farF; simp; omega
theorem hasF_range (lo hi v : Int) (h1 : U32 lo) (h2 : U32 hi) : hasF ((lo - 1) % 4294967296) hi v = decide ((v - lo) % 4294967296 ≤ (hi - lo) % 4294967296) := by
  obtain ⟨a1, a2⟩ := h1
  obtain ⟨b1, b2⟩ := h2
  unfold hasF sizeF farF
  rw [decide_eq_decide]
  split <;> omega

theorem span_one (lo hi : Int) (w : World) : Calls Tryz.prog 33 #[.agg #[.int .i64 1, .int .u32 lo, .int .u32 hi]] w fun e w' => e = .returned (.tuple #[.agg #[.int .u32 4294967295, .int .u32 4294967295], .bool true]) ∧ Below w.heap.size w w' := by
  go_enter Tryz.func33, Tryz.ntmps33
  go_wp2
  refine bodyPost_ret (v := .tuple #[.agg #[.int .u32 4294967295, .int .u32 4294967295], .bool true]) (by simp [results, Tryz.results33, go_sem]) rfl ?_
  exact ⟨rfl, (by repeat (first | exact Below.refl _ _ | assumption | apply Below.drew | apply belowN | (refine Below.alloc ?_ (by first | exact Nat.le_refl _ | (simp; done) | (simp; omega)) _) | (refine Below.setCell ?_ (by first | exact Nat.le_refl _ | (simp; done) | (simp; omega)) _)))⟩
theorem span_two (lo hi : Int) (w : World) : Calls Tryz.prog 33 #[.agg #[.int .i64 2, .int .u32 lo, .int .u32 hi]] w fun e w' => e = .returned (.tuple #[.agg #[.int .u32 ((lo - 1) % 4294967296), .int .u32 hi], .bool true]) ∧ Below w.heap.size w w' := by
  have h1 := u32w (lo - 1)
  go_enter Tryz.func33, Tryz.ntmps33
  go_wp2
  refine bodyPost_ret (v := .tuple #[.agg #[.int .u32 ((lo - 1) % 4294967296), .int .u32 hi], .bool true]) (by simp [results, Tryz.results33, go_sem]) rfl ?_
  exact ⟨rfl, (by repeat (first | exact Below.refl _ _ | assumption | apply Below.drew | apply belowN | (refine Below.alloc ?_ (by first | exact Nat.le_refl _ | (simp; done) | (simp; omega)) _) | (refine Below.setCell ?_ (by first | exact Nat.le_refl _ | (simp; done) | (simp; omega)) _)))⟩
theorem span_none (k lo hi : Int) (w : World) (h1 : k ≠ 1) (h2 : k ≠ 2) : Calls Tryz.prog 33 #[.agg #[.int .i64 k, .int .u32 lo, .int .u32 hi]] w fun e w' => e = .returned (.tuple #[.agg #[.int .u32 0, .int .u32 0], .bool false]) ∧ Below w.heap.size w w' := by
  have e1 : (k == 1) = false := by rw [beq_eq_false_iff_ne]; exact h1
  have e2 : (k == 2) = false := by rw [beq_eq_false_iff_ne]; exact h2
  go_enter Tryz.func33, Tryz.ntmps33
  go_wp2
  refine bodyPost_ret (v := .tuple #[.agg #[.int .u32 0, .int .u32 0], .bool false]) (by simp [results, Tryz.results33, go_sem]) rfl ?_
  exact ⟨rfl, (by repeat (first | exact Below.refl _ _ | assumption | apply Below.drew | apply belowN | (refine Below.alloc ?_ (by first | exact Nat.le_refl _ | (simp; done) | (simp; omega)) _) | (refine Below.setCell ?_ (by first | exact Nat.le_refl _ | (simp; done) | (simp; omega)) _)))⟩
theorem below_thru {w w1 : World} {o : Obj} (h : Below (w.alloc o).heap.size (w.alloc o) w1) : Below w.heap.size w w1 := below_from (below_a1 w o) h (below_a1 w o).size
theorem below_thru2 {w w1 w2 : World} {o o' : Obj} (h : Below (w.alloc o).heap.size (w.alloc o) w1) (h' : Below (w1.alloc o').heap.size (w1.alloc o') w2) : Below w.heap.size w w2 :=
  below_from (below_thru h) (below_thru h') (below_thru h).size
/-- box.In. -/
theorem in_any (r : Rng) (v : Int) (w : World) (h : r.ok) : Calls Tryz.prog 118 #[.agg #[.int .i64 r.kind, .int .u32 r.lo, .int .u32 r.hi], .int .u32 v] w fun e w' => e = .returned (.bool (inF r v)) ∧ Below w.heap.size w w' := by
  obtain ⟨k, lo, hi⟩ := r
  obtain ⟨hl, hh⟩ := h
  dsimp only at *
  by_cases h1 : k = 1
  · subst h1
    have hE : inF ⟨1, lo, hi⟩ v = true := by simp [inF]
    rw [hE]
    have hH := Lib.hid (has_any 4294967295 4294967295 v)
    rw [hasF_round] at hH
    go_enter Tryz.func118, Tryz.ntmps118
    go_wp2_with (first
      | (go_at_call 33; go_loud ((with_reducible refine (span_one lo hi _).mono ?_); rintro e1 w1 ⟨rfl, hb⟩; have HB := Lib.hid hb; clear hb))
      | (go_at_call 124; go_loud ((with_reducible refine (hH.out _).mono ?_); rintro e2 w2 ⟨rfl, hb2⟩; have HB2 := Lib.hid hb2; clear hb2)))
    go_ret
    exact ⟨rfl, below_thru2 HB.out HB2.out⟩
  · by_cases h2 : k = 2
    · subst h2
      have hE : inF ⟨2, lo, hi⟩ v = decide ((v - lo) % 4294967296 ≤ (hi - lo) % 4294967296) := by simp [inF]
      rw [hE, ← hasF_range lo hi v hl hh]
      have hH := Lib.hid (has_any ((lo - 1) % 4294967296) hi v)
      generalize hasF ((lo - 1) % 4294967296) hi v = bb at *
      have hS := Lib.hid (span_two lo hi)
      generalize (lo - 1) % 4294967296 = a at *
      go_enter Tryz.func118, Tryz.ntmps118
      go_wp2_with (first
        | (go_at_call 33; go_loud ((with_reducible refine (hS.out _).mono ?_); rintro e1 w1 ⟨rfl, hb⟩; have HB := Lib.hid hb; clear hb))
        | (go_at_call 124; go_loud ((with_reducible refine (hH.out _).mono ?_); rintro e2 w2 ⟨rfl, hb2⟩; have HB2 := Lib.hid hb2; clear hb2)))
      go_ret
      exact ⟨rfl, below_thru2 HB.out HB2.out⟩
    · have e1 : (k == 1) = false := by rw [beq_eq_false_iff_ne]; exact h1
      have e2 : (k == 2) = false := by rw [beq_eq_false_iff_ne]; exact h2
      have hE : inF ⟨k, lo, hi⟩ v = false := by simp [inF, e1, e2]
      rw [hE]
      have hS := Lib.hid (fun w => span_none k lo hi w h1 h2)
      go_enter Tryz.func118, Tryz.ntmps118
      go_wp2_with (first
        | (go_at_call 33; go_loud ((with_reducible refine (hS.out _).mono ?_); rintro e1 w1 ⟨rfl, hb⟩; have HB := Lib.hid hb; clear hb)))
      go_ret
      exact ⟨rfl, below_from ((below_thru HB.out)) (below_a1 _ _) (below_thru HB.out).size⟩

end Go.Proofs.YtdpamikobmefeaaGreat
