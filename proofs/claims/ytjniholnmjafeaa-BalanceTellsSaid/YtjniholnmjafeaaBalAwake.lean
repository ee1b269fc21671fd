/- The law's own test that something is answered: two calls of the program at loads that are written out. Conditions: none. -/
import Derived.Test.YtjniholnmjafeaaBalPlan
namespace Go.Proofs.Ytjniholnmjafeaa
open Go.RowKit Go.ChangeShapes
set_option maxRecDepth 100000
set_option linter.unusedVariables false
set_option linter.unusedSimpArgs false

theorem lds_lit3 {w : World} {g : Nat} {a b c d e f : Int} (h : Box w g #[.int .u32 a, .int .i64 b, .int .u32 c, .int .i64 d, .int .u32 e, .int .i64 f]) (hok : ∀ x ∈ [(⟨a, b⟩ : Ld), ⟨c, d⟩, ⟨e, f⟩], x.ok) :
    Lds w (some ⟨g, 0, none⟩) 3 3 [⟨a, b⟩, ⟨c, d⟩, ⟨e, f⟩] := by
  refine ⟨rfl, Nat.le_refl _, by omega, by omega, (fun h => by cases h), hok, fun _ => ⟨g, 0, rfl, h.lt, fun j x hx => ?_⟩⟩
  have hc := h.cell
  match j, hx with
  | 0, hx => simp at hx; subst hx; exact ⟨hc 0, hc 1⟩
  | 1, hx => simp at hx; subst hx; exact ⟨hc 2, hc 3⟩
  | 2, hx => simp at hx; subst hx; exact ⟨hc 4, hc 5⟩
theorem evals_lit2 {w : World} {g : Nat} {C : Array Value} {a b : Int} (h : Box w g C) (ha : C[0]? = some (.int .u32 a)) (hb : C[5]? = some (.int .u32 b)) (ua : U32 a) (ub : U32 b) : EVals w (some ⟨g, 0, none⟩) 2 2 [a, b] := by
  refine ⟨rfl, Nat.le_refl _, by omega, by simp [ua, ub], fun _ => ⟨g, 0, rfl, h.lt, fun j v hv => ?_⟩⟩
  have hc := h.cell
  match j, hv with
  | 0, hv => simp at hv; subst hv; exact (hc 0).trans ha
  | 1, hv => simp at hv; subst hv; exact (hc 5).trans hb

set_option maxHeartbeats 1000000 in
theorem awake17 (w : World) : Calls Try.prog 50 #[] w fun e w' => e = .returned (.bool true) ∧ Below w.heap.size w w' := by
  have H1 : heavyF [⟨10, 100⟩, ⟨20, 0⟩, ⟨30, 1⟩] = (⟨10, 100⟩, true) := by decide
  have H2 : planF [⟨10, 100⟩, ⟨20, 0⟩, ⟨30, 1⟩] [1, 2] = (20, 2, 0) := by decide
  have hok : ∀ x ∈ [(⟨10, 100⟩ : Ld), ⟨20, 0⟩, ⟨30, 1⟩], x.ok := by intro x hx; simp at hx; rcases hx with rfl | rfl | rfl <;> exact ⟨⟨by decide, by decide⟩, ⟨by decide, by decide⟩⟩
  have C1 := Lib.hid (fun (A : Option Addr) (w : World) (h : Lds w A 3 3 [⟨10, 100⟩, ⟨20, 0⟩, ⟨30, 1⟩]) => by have := bal_heavy w h (by omega); simp only [H1] at this; exact this)
  have C2 := Lib.hid (fun (A B : Option Addr) (w : World) (h : Lds w A 3 3 [⟨10, 100⟩, ⟨20, 0⟩, ⟨30, 1⟩]) (h2 : EVals w B 2 2 [1, 2]) => by have := bal_plan w h (by omega) h2; simp only [H2] at this; exact this)
  have HO := Lib.hid hok
  clear H1 H2 hok
  go_enter Try.func50, Try.ntmps50
  go_wp2_with (first
    | (go_at_call 52; (with_reducible refine (C1.out _ _ (lds_lit3 (Box.new _ _ _) HO.out)).mono ?_); rintro e1 w1 ⟨rfl, hb1⟩; have XL := Lib.hid ((Box.new w #[.int .u32 10, .int .i64 100, .int .u32 20, .int .i64 0, .int .u32 30, .int .i64 1] 79).below hb1 (by rw [size_alloc]; omega)); have HB1 := Lib.hid ((below_a1 w _).trans (hb1.mono (by rw [size_alloc]; omega))); clear hb1)
    | (go_at_call 56; go_loud ((with_reducible refine (C2.out _ _ _ (lds_lit3 ((XL.out.alloc _).alloc _) HO.out) (evals_lit2 (Box.newAt _ _ _ _ (by rw [size_alloc])) rfl rfl (by unfold U32; decide) (by unfold U32; decide))).mono ?_); rintro e1 w2 ⟨rfl, hb2⟩; have X2 := ((Box.new w1 #[.int .u32 10, .int .i64 100] 79).alloc (.cells #[.int .u32 1, .int .u64 0, .int .u64 0, .slice none 0 0, .bool false, .int .u32 2, .int .u64 0, .int .u64 0, .slice none 0 0, .bool false] 33)).below hb2 (by simp only [size_alloc]; omega); have c2 := X2.cell; have z2 := X2.lt; have HB2 := Lib.hid (below_from ((HB1.out.alloc HB1.out.size (.cells #[.int .u32 10, .int .i64 100] 79)).alloc (by rw [size_alloc]; have := HB1.out.size; omega) (.cells #[.int .u32 1, .int .u64 0, .int .u64 0, .slice none 0 0, .bool false, .int .u32 2, .int .u64 0, .int .u64 0, .slice none 0 0, .bool false] 33)) hb2 (by simp only [size_alloc]; have := HB1.out.size; omega)); clear hb2 X2)))
  go_ret
  exact ⟨by first | rfl | simp, HB2.out.alloc HB2.out.size _⟩
end Go.Proofs.Ytjniholnmjafeaa
