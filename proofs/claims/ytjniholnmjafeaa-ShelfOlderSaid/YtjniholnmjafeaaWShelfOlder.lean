/- The walk of the law ShelfOlder: it returns true. Conditions: none. -/
import Derived.Test.YtjniholnmjafeaaShelfNow
namespace Go.Proofs.Ytjniholnmjafeaa
open Go.RowKit Go.ChangeShapes Go.Maps
set_option maxRecDepth 100000
set_option linter.unusedVariables false
set_option linter.unusedSimpArgs false

theorem below_end {W w w' : World} (h : Below W.heap.size W w) (hs : Same w w') : Below W.heap.size W w' := below_from h hs.1 h.size
theorem putF_none (e : Ent) : putF [] e = ([e], true, 0) := rfl
theorem putF_one {x id va vb : Int} {la lb : List Int} {ga gb bo : Bool} (h : newerF vb gb va ga = bo) : putF [⟨x, ⟨id, va, la⟩, ga⟩] ⟨x, ⟨id, vb, lb⟩, gb⟩ = (if bo then [⟨x, ⟨id, vb, lb⟩, gb⟩] else [⟨x, ⟨id, va, la⟩, ga⟩], bo, 0) := by
  have hf : findE [⟨x, ⟨id, va, la⟩, ga⟩] x id = some ⟨x, ⟨id, va, la⟩, ga⟩ := by simp [findE, ekB]
  unfold putF
  simp only [hf, h]
  cases bo
  · rfl
  · simp [setE, ekB]
theorem find_one {x id va : Int} {la : List Int} {ga : Bool} : findE [⟨x, ⟨id, va, la⟩, ga⟩] x id = some ⟨x, ⟨id, va, la⟩, ga⟩ := by simp [findE, ekB]

set_option maxHeartbeats 1000000 in
theorem wShelfOlder0 (W : World) (x id ver : Int) (s : Option Addr) (l c : Nat) (g : Bool) (vals : List Int) (n : Int) (hok : Ent.ok ⟨x, ⟨id, ver, vals⟩, g⟩) (hi : Ints W (· < W.heap.size) .u32 4 s l c vals) (n0 : 0 ≤ n) (n1 : n ≤ 18446744073709551615) :
    Calls Try.prog 10 #[.agg #[.int .u32 x, .int .u64 id, .int .u64 ver, .slice s l c, .bool g], .int .u64 n] W fun e W' => e = .returned (.bool true) ∧ Below W.heap.size W W' := by
  have HI := Lib.hid hi
  obtain ⟨hx, hid, hver, hvals⟩ := hok
  dsimp only at hx hid hver hvals
  have HX := Lib.hid hx; have HID := Lib.hid hid; have HV := Lib.hid hvals
  obtain ⟨b3, b4⟩ := hver
  have hl := hi.2.2.2.1
  clear hi hx hid hvals
  by_cases hlt : 20 < l
  · go_enter Try.func10, Try.ntmps10
    go_wp2_with (go_at_call 42; (with_reducible refine (awake09 _).mono ?_); rintro e w' ⟨rfl, hg⟩)
    go_ret
    exact ⟨rfl, (below_a1 W _).trans (hg.mono (by rw [size_alloc]; omega))⟩
  · go_enter Try.func10, Try.ntmps10
    go_upto_region 5 with fail
    have v0 : 10 ≤ 10 + ver % 1000 := by omega
    have v1 : 10 + ver % 1000 ≤ 1009 := by omega
    generalize 10 + ver % 1000 = v at *
    have OK1 := Lib.hid (show Ent.ok ⟨x, ⟨id, v, vals⟩, false⟩ from ⟨HX.out, HID.out, ⟨by show 0 ≤ v; omega, by show v ≤ _; omega⟩, HV.out⟩)
    have OK2 := Lib.hid (show Ent.ok ⟨x, ⟨id, v - n % 10, vals⟩, false⟩ from ⟨HX.out, HID.out, ⟨by show 0 ≤ v - n % 10; omega, by show v - n % 10 ≤ _; omega⟩, HV.out⟩)
    have OK3 := Lib.hid (show Ent.ok ⟨x, ⟨id, v, vals⟩, true⟩ from ⟨HX.out, HID.out, ⟨by show 0 ≤ v; omega, by show v ≤ _; omega⟩, HV.out⟩)
    have P2 := Lib.hid (show putF [⟨x, ⟨id, v, vals⟩, false⟩] ⟨x, ⟨id, v - n % 10, vals⟩, false⟩ = ([⟨x, ⟨id, v, vals⟩, false⟩], false, 0) from putF_one (show newerF (v - n % 10) false v false = false by unfold newerF; simp; omega))
    have P3 := Lib.hid (show putF [⟨x, ⟨id, v, vals⟩, false⟩] ⟨x, ⟨id, v, vals⟩, true⟩ = ([⟨x, ⟨id, v, vals⟩, true⟩], true, 0) from putF_one (show newerF v true v false = true by unfold newerF; simp))
    have P4 := Lib.hid (show putF [⟨x, ⟨id, v, vals⟩, true⟩] ⟨x, ⟨id, v, vals⟩, false⟩ = ([⟨x, ⟨id, v, vals⟩, true⟩], false, 0) from putF_one (show newerF v false v true = false by unfold newerF; simp))
    refine wp_abs (fun wx => Box wx W.heap.size #[.int .u32 x, .int .u64 id, .int .u64 v, .slice s l c, .bool false] ∧ Below W.heap.size W wx) ⟨(by repeat (first | apply Box.drew | apply Box.drewN | exact Box.newAt _ _ _ _ (by first | rfl | (simp only [size_alloc]; done) | (simp only [size_alloc]; omega)) | assumption | refine Box.alloc ?_ _)), (by repeat (first | exact Below.refl _ _ | assumption | apply Below.drew | apply belowN | (refine Below.alloc ?_ (by first | exact Nat.le_refl _ | (simp; done) | (simp; omega)) _) | (refine Below.setCell ?_ (by first | exact Nat.le_refl _ | (simp; done) | (simp; omega)) _)))⟩ ?_
    generalize hbx : W.heap.size = bx
    rintro wx ⟨X3, hBx⟩
    have HBX := Lib.hid hbx
    have HB := Lib.hid hBx
    have XA := Lib.hid X3
    have ca := X3.cell
    have za := X3.lt
    clear hbx hBx X3
    go_upto_region 7 with (first
      | (go_at_call 43; go_loud ((with_reducible refine (now_new W _ (by rw [HBX.out]; exact HB.out)).mono ?_); rintro e w1 ⟨rfl, hn, hb⟩; have NW := Lib.hid hn; have XA := Lib.hid (XA.out.below hb za); have ca := XA.out.cell; have za := XA.out.lt; clear hn hb))
      | (go_at_call 44; go_loud ((with_reducible refine (now_put vals NW.out HI.out OK1.out (putF_none _) (by simp)).mono ?_); rintro e w1 ⟨rfl, hn, hb⟩; have NW := Lib.hid hn; have XA := Lib.hid (hb _ _ XA.out); have ca := XA.out.cell; have za := XA.out.lt; clear hn hb)))
    refine wp_abs (fun w => Box w bx #[.int .u32 x, .int .u64 id, .int .u64 v, .slice s l c, .bool false] ∧ Now W (wx.heap.size + 1) [⟨x, ⟨id, v, vals⟩, false⟩] w) ⟨XA.out, NW.out⟩ ?_
    clear ca za XA NW
    generalize wx.heap.size + 1 = bs
    rintro wz ⟨XA, NW⟩
    have ca := XA.cell
    have za := XA.lt
    have XA := Lib.hid XA; have NW := Lib.hid NW
    go_cut [8, 9] (fun s8 s9 w' => ∃ b8 b9, s8 = .pointer (some ⟨b8, 0, none⟩) ∧ s9 = .pointer (some ⟨b9, 0, none⟩) ∧ Box w' b8 #[.int .u32 x, .int .u64 id, .int .u64 v, .slice s l c, .bool false] ∧ Box w' b9 #[.int .u32 x, .int .u64 id, .int .u64 v, .slice s l c, .bool false] ∧ b8 ≠ b9 ∧ wz.heap.size ≤ b8 ∧ wz.heap.size ≤ b9 ∧ Below wz.heap.size wz w')
    case first =>
      go_region
      all_goals
        go_wp2_with fail
        go_meet
        exact ⟨_, _, rfl, rfl, (by repeat (first | apply Box.drew | apply Box.drewN | exact Box.newAt _ _ _ _ (by first | rfl | (simp only [size_alloc]; done) | (simp only [size_alloc]; omega)) | assumption | refine Box.alloc ?_ _)), (by repeat (first | apply Box.drew | apply Box.drewN | exact Box.newAt _ _ _ _ (by first | rfl | (simp only [size_alloc]; done) | (simp only [size_alloc]; omega)) | assumption | refine Box.alloc ?_ _)), by omega, by omega, by omega, (by repeat (first | exact Below.refl _ _ | assumption | apply Below.drew | apply belowN | (refine Below.alloc ?_ (by first | exact Nat.le_refl _ | (simp; done) | (simp; omega)) _) | (refine Below.setCell ?_ (by first | exact Nat.le_refl _ | (simp; done) | (simp; omega)) _)))⟩
    case rest =>
      obtain ⟨b8, b9, rfl, rfl, X8, X9, hne, h8, h9, hB⟩ := hcut
      have XC := Lib.hid (XA.out.below hB za)
      have c8 := X8.cell; have c9 := X9.cell; have f8 := X8.free; have f9 := X9.free; have z8 := X8.lt; have z9 := X9.lt
      have H8 := Lib.hid X8; have H9 := Lib.hid X9; have HBZ := Lib.hid hB
      have cc := XC.out.cell
      have e8 : n % 10 < 10 := by omega
      have w10 : IntKind.u64.wrap (v - n % 10) = v - n % 10 := by show (v - n % 10) % 18446744073709551616 = _; omega
      clear X8 X9 hB ca
      go_upto_region 10 with fail
      refine wp_abs (fun w => Box w bx #[.int .u32 x, .int .u64 id, .int .u64 v, .slice s l c, .bool false] ∧ Box w b8 #[.int .u32 x, .int .u64 id, .int .u64 (v - n % 10), .slice s l c, .bool false] ∧ Box w b9 #[.int .u32 x, .int .u64 id, .int .u64 v, .slice s l c, .bool true] ∧ Now W bs [⟨x, ⟨id, v, vals⟩, false⟩] w)
        ⟨(XC.out.setOther (a := ⟨b8, 2, none⟩) (by show bx ≠ b8; omega) _).setOther (a := ⟨b9, 4, none⟩) (by show bx ≠ b9; omega) _, (H8.out.set (i := 2) _).setOther (a := ⟨b9, 4, none⟩) (by show b8 ≠ b9; omega) _, (H9.out.setOther (a := ⟨b8, 2, none⟩) (by show b9 ≠ b8; omega) _).set (i := 4) _,
          NW.out.below ((HBZ.out.setCell (p := ⟨b8, 2, none⟩) h8 _).setCell (p := ⟨b9, 4, none⟩) h9 _)⟩ ?_
      clear c8 c9 f8 f9 z8 z9 H8 H9 HBZ cc w10 e8 XC XA NW za h8 h9 hne
      clear HB
      rintro wy ⟨XA, XE, XN, NW⟩
      have ca := XA.cell; have za := XA.lt; have c8 := XE.cell; have z8 := XE.lt; have c9 := XN.cell; have z9 := XN.lt
      have XA := Lib.hid XA; have XE := Lib.hid XE; have XN := Lib.hid XN; have NW := Lib.hid NW
      go_upto_region 14 with (first
        | (go_at_call 44; ((with_reducible refine (now_put vals NW.out HI.out OK2.out P2.out (by simp)).mono ?_); rintro e w1 ⟨rfl, hn, hb⟩; have NW := Lib.hid hn; have XA := Lib.hid (hb _ _ XA.out); have XE := Lib.hid (hb _ _ XE.out); have XN := Lib.hid (hb _ _ XN.out); have ca := XA.out.cell; have za := XA.out.lt; have c8 := XE.out.cell; have z8 := XE.out.lt; have c9 := XN.out.cell; have z9 := XN.out.lt; clear hn hb))
        | (go_at_call 44; ((with_reducible refine (now_put vals NW.out HI.out OK3.out P3.out (by simp)).mono ?_); rintro e w1 ⟨rfl, hn, hb⟩; have NW := Lib.hid hn; have XA := Lib.hid (hb _ _ XA.out); have XE := Lib.hid (hb _ _ XE.out); have XN := Lib.hid (hb _ _ XN.out); have ca := XA.out.cell; have za := XA.out.lt; have c8 := XE.out.cell; have z8 := XE.out.lt; have c9 := XN.out.cell; have z9 := XN.out.lt; clear hn hb))
        | (go_at_call 44; ((with_reducible refine (now_put vals NW.out HI.out OK1.out P4.out (by simp)).mono ?_); rintro e w1 ⟨rfl, hn, hb⟩; have NW := Lib.hid hn; have XA := Lib.hid (hb _ _ XA.out); have XE := Lib.hid (hb _ _ XE.out); have XN := Lib.hid (hb _ _ XN.out); have ca := XA.out.cell; have za := XA.out.lt; have c8 := XE.out.cell; have z8 := XE.out.lt; have c9 := XN.out.cell; have z9 := XN.out.lt; clear hn hb))
        | (go_at_call 45; ((with_reducible refine (now_get _ NW.out HX.out HID.out find_one).mono ?_); rintro e w1 ⟨v2, rfl, ⟨A2, n2, cap2, rfl, hi2⟩, hb⟩; have NW := Lib.hid (NW.out.below hb); have XN := Lib.hid (XN.out.below hb z9); have HI2 := Lib.hid hi2; clear hi2 hb ca za c8 z8 c9 z9 XA XE)))
      refine wp_abs (fun w => ∃ b16, b16 = w1.heap.size ∧ Box w b9 #[.int .u32 x, .int .u64 id, .int .u64 v, .slice s l c, .bool true] ∧ Box w b16 #[.int .u32 x, .int .u64 id, .int .u64 v, .slice A2 n2 cap2, .bool true] ∧ Now W bs [⟨x, ⟨id, v, vals⟩, true⟩] w ∧ Ints w (fun b => b < w.heap.size) .u32 4 A2 n2 cap2 vals)
        ⟨_, rfl, XN.out.alloc _, Box.new _ _ _, NW.out.below (below_a1 _ _), HI2.out.move fun b hb hlt => ⟨(below_a1 w1 _).block b hlt, by rw [size_alloc]; omega⟩⟩ ?_
      rintro wv ⟨b16, hb16, XN, X16, NW, hi2⟩
      generalize w1.heap.size = bq at *
      subst hb16
      have c9 := XN.cell; have z9 := XN.lt; have c16 := X16.cell; have z16 := X16.lt
      have R1 := Lib.hid (show RecVal wv (fun b => b < wv.heap.size) (.agg #[.int .u64 id, .int .u64 v, .slice A2 n2 cap2]) ⟨id, v, vals⟩ from ⟨_, _, _, rfl, OK3.out.2, hi2⟩)
      have R2 := Lib.hid (show RecVal wv (fun b => b < wv.heap.size) (.agg #[.int .u64 id, .int .u64 v, .slice s l c]) ⟨id, v, vals⟩ from ⟨_, _, _, rfl, OK3.out.2, HI.out.move fun b hb hlt => ⟨NW.end.block b hlt, Nat.lt_of_lt_of_le hlt NW.end.size⟩⟩)
      have D1 := Lib.hid (show ∀ b, b < wv.heap.size → b < wv.heap.size from fun b h => h)
      have S0 := Lib.hid (Same.of (Below.refl wv.heap.size wv))
      have NV := Lib.hid NW
      have ER : eqR ⟨id, v, vals⟩ ⟨id, v, vals⟩ = true := eqR_self _
      clear hi2 XN X16
      clear NW
      go_wp2_with (first
        | (go_at_call 42; ((with_reducible refine (awake09 _).mono ?_); rintro e w2 ⟨rfl, hb⟩; have S1 := Same.step S0.out hb; clear hb))
        | (go_at_call 46; ((with_reducible refine (hent_any _ rfl rfl (R1.out.sm D1.out (by assumption)) (R2.out.sm D1.out (by assumption)) (Same.lt (by assumption) D1.out) (Same.lt (by assumption) D1.out)).mono ?_); rintro e w2 ⟨rfl, hb⟩; have S1 := Same.step (show Same wv _ by assumption) hb; clear hb))
        | (go_at_call 47; ((with_reducible refine (now_len (n := 1) (NV.out.below (show Same wv _ by assumption).1) rfl).mono ?_); rintro e w2 ⟨rfl, rfl⟩))
        | (go_at_call 48; ((with_reducible refine (now_live (n := 0) (NV.out.below (show Same wv _ by assumption).1) rfl (by simp)).mono ?_); rintro e w2 ⟨rfl, hb⟩; have S1 := Same.step (show Same wv _ by assumption) hb; clear hb)))
      go_ret
      exact ⟨by first | rfl | simp, below_end NV.out.end (by assumption)⟩

theorem wShelfOlder (W : World) (vs : List Value) (h : Sh.Args W (· < W.heap.size) [((.st (.pair (.int .u32) (.pair (.st (.pair (.int .u64) (.pair (.int .u64) (.pair (.sl (.int .u32) 4) .unit)))) (.pair .bool .unit)))), 33), ((.int .u64), 24)] vs) :
    Calls Try.prog 10 vs.toArray W fun e W' => e = .returned (.bool true) ∧ Below W.heap.size W W' := by
  obtain ⟨_, _, rfl, ⟨a, ha⟩, _, _, rfl, ⟨b, hb⟩, rfl⟩ := h
  obtain ⟨e, s, l, c, rfl, hok, hi⟩ := ent_open ha
  obtain ⟨n, rfl, w1⟩ := int_open hb
  exact wShelfOlder0 W e.value e.rc.id e.rc.ver s l c e.gone e.rc.vals n hok hi (u64_of w1).1 (u64_of w1).2
end Go.Proofs.Ytjniholnmjafeaa
