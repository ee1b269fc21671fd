/- The walk of the law ShelfNil: it returns true. Conditions: none. -/
import Derived.Test.YtmohkfihfkcpdaaShelfNone
namespace Go.Proofs.Ytmohkfihfkcpdaa
open Go.RowKit Go.ChangeShapes Go.Maps
set_option maxRecDepth 100000
set_option linter.unusedVariables false
set_option linter.unusedSimpArgs false

theorem rec_none (w : World) : RecVal w (fun _ => False) (.agg #[.int .u64 0, .int .u64 0, .slice none 0 0]) ⟨0, 0, []⟩ := ⟨none, 0, 0, rfl, ⟨⟨by decide, by decide⟩, ⟨by decide, by decide⟩, by simp⟩, noInts _ _⟩
set_option maxHeartbeats 1000000 in
theorem wShelfNil0 (W : World) (x id ver : Int) (s : Option Addr) (l c : Nat) (g : Bool) (p q : Int) :
    Calls Try.prog 16 #[.agg #[.int .u32 x, .int .u64 id, .int .u64 ver, .slice s l c, .bool g], .agg #[.int .u32 p, .int .u32 q]] W fun e W' => e = .returned (.bool true) ∧ Below W.heap.size W W' := by
  have hpn : ∀ w : World, (binOp .eql 50 (.pointer none) (.pointer none)).run Try.prog w = .ok (.bool true) w := fun w => by rfl
  have er : eqR ⟨0, 0, []⟩ ⟨0, 0, []⟩ = true := rfl
  have ef : ∀ w : World, ∀ b, False → b < w.heap.size := fun _ _ h => h.elim
  go_enter Try.func16, Try.ntmps16
  go_upto_region 2 with fail
  refine wp_abs (fun w => Box w W.heap.size #[.int .u32 x, .int .u64 id, .int .u64 ver, .slice s l c, .bool g] ∧ Box w (W.heap.size + 1) #[.int .u32 p, .int .u32 q] ∧ Below W.heap.size W w) ⟨(by repeat (first | apply Box.drew | apply Box.drewN | exact Box.newAt _ _ _ _ (by first | rfl | (simp only [size_alloc]; done) | (simp only [size_alloc]; omega)) | assumption | refine Box.alloc ?_ _)), (by repeat (first | apply Box.drew | apply Box.drewN | exact Box.newAt _ _ _ _ (by first | rfl | (simp only [size_alloc]; done) | (simp only [size_alloc]; omega)) | assumption | refine Box.alloc ?_ _)), (by repeat (first | exact Below.refl _ _ | assumption | apply Below.drew | apply belowN | (refine Below.alloc ?_ (by first | exact Nat.le_refl _ | (simp; done) | (simp; omega)) _) | (refine Below.setCell ?_ (by first | exact Nat.le_refl _ | (simp; done) | (simp; omega)) _)))⟩ ?_
  generalize W.heap.size + 1 = b3
  generalize hb2 : W.heap.size = b2
  rintro w0 ⟨X2, X3, hB⟩
  have HW := Lib.hid hb2
  have HB := Lib.hid hB
  have HX2 := Lib.hid X2; have HX3 := Lib.hid X3
  have c2 := X2.cell; have c3 := X3.cell; have z2 := X2.lt; have z3 := X3.lt
  have S0 := Lib.hid (Same.of (Below.refl w0.heap.size w0))
  clear hB X2 X3 hb2
  go_upto_region 4 with (first
    | (go_at_call 52; ((with_reducible refine (none_put _ _ _ _ _ _ _ _).mono ?_); rintro e w1 ⟨rfl, hb⟩; have S1 := Same.step S0.out hb; clear hb))
    | (go_at_call 56; ((with_reducible refine (none_get _ _ _).mono ?_); rintro e w1 ⟨rfl, hb⟩; have S1 := Same.step (show Same w0 _ by assumption) hb; clear hb)))
  refine wp_abs (fun w => ∃ b8, b8 = w1.heap.size ∧ Box w b8 #[.int .u32 0, .int .u64 0, .int .u64 0, .slice none 0 0, .bool false] ∧ Same w0 w) ⟨_, rfl, Box.new _ _ _, Same.alloc (by assumption) _⟩ ?_
  rintro wv ⟨b8, hb8, X8, SV⟩
  generalize w1.heap.size = bq at *
  subst hb8
  have hv2 := Lib.hid (HX2.out.same SV); have hv3 := Lib.hid (HX3.out.same SV)
  clear c2 c3 z2 z3
  have c2 := hv2.out.cell; have c3 := hv3.out.cell; have z2 := hv2.out.lt; have z3 := hv3.out.lt
  have c8 := X8.cell; have z8 := X8.lt
  have S0' := Lib.hid (Same.of (Below.refl wv.heap.size wv))
  have HV := Lib.hid (show Below W.heap.size W wv by have h1 := HB.out; have h2 := h1.size; have h3 := HW.out; rw [h3]; exact below_from h1 SV.1 (by omega))
  clear X8 SV
  clear HB HX2 HX3 S0
  go_wp2_with (first
    | (go_at_call 25; ((with_reducible refine (awake09 _).mono ?_); rintro e w2 ⟨rfl, hb⟩; have S1 := Same.step S0'.out hb; clear hb))
    | (go_at_call 59; ((with_reducible refine (hent_any _ rfl rfl (rec_none _) (rec_none _) (ef _) (ef _)).mono ?_); rintro e w2 ⟨rfl, hb⟩; have S1 := Same.step (show Same wv _ by assumption) hb; clear hb))
    | (go_at_call 29; ((with_reducible refine (none_scan _ _ _).mono ?_); rintro e w2 ⟨rfl, hb⟩; have S1 := Same.step (show Same wv _ by assumption) hb; clear hb))
    | (go_at_call 34; ((with_reducible refine (none_cut _ _ _).mono ?_); rintro e w2 ⟨rfl, hb⟩; have S1 := Same.step (show Same wv _ by assumption) hb; clear hb))
    | (go_at_call 27; ((with_reducible refine (none_join1 _ _ _ _ _ _ _ _ _ (Box.new _ _ _)).mono ?_); rintro e w2 ⟨rfl, hb⟩; have S1 := Same.step (show Same wv _ from Same.alloc (by assumption) _) hb; clear hb))
    | (go_at_call 30; ((with_reducible refine (none_len _).mono ?_); rintro e w2 ⟨rfl, hb⟩; have S1 := Same.step (show Same wv _ by assumption) hb; clear hb))
    | (go_at_call 54; ((with_reducible refine (none_live _).mono ?_); rintro e w2 ⟨rfl, hb⟩; have S1 := Same.step (show Same wv _ by assumption) hb; clear hb))
    | (go_at_call 51; ((with_reducible refine (none_fork _).mono ?_); rintro e w2 ⟨rfl, hb⟩; have S1 := Same.step (show Same wv _ by assumption) hb; clear hb)))
  go_ret
  exact ⟨by first | rfl | simp, below_from HV.out (show Same wv _ by assumption).1 HV.out.size⟩

theorem wShelfNil (W : World) (vs : List Value) (h : Sh.Args W (· < W.heap.size) [((.st (.pair (.int .u32) (.pair (.st (.pair (.int .u64) (.pair (.int .u64) (.pair (.sl (.int .u32) 4) .unit)))) (.pair .bool .unit)))), 49), ((.st (.pair (.int .u32) (.pair (.int .u32) .unit))), 54)] vs) :
    Calls Try.prog 16 vs.toArray W fun e W' => e = .returned (.bool true) ∧ Below W.heap.size W W' := by
  obtain ⟨_, _, rfl, ⟨a, ha⟩, _, _, rfl, ⟨b, hb⟩, rfl⟩ := h
  obtain ⟨e, s, l, c, rfl, hok, hi⟩ := ent_open ha
  obtain ⟨cs, rfl, hb⟩ := hb
  obtain ⟨c1, c2, rfl, ⟨rfl, w1⟩, c3, c4, rfl, ⟨rfl, w2⟩, h5⟩ := hb
  cases h5
  exact wShelfNil0 W e.value e.rc.id e.rc.ver s l c e.gone _ _
end Go.Proofs.Ytmohkfihfkcpdaa
