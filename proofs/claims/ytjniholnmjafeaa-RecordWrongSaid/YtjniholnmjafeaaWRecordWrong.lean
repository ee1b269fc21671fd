/- The walk of the law RecordWrong: it returns true. Conditions: none. -/
import Derived.Test.YtjniholnmjafeaaSame
import Derived.Test.YtjniholnmjafeaaRec
import Derived.Test.YtjniholnmjafeaaCopies
import Derived.RegionTactic
import Derived.BigRegion
import Derived.Deep.DeepCutAuto
import Derived.Deep.RegionHeld3
namespace Go.Proofs.Ytjniholnmjafeaa
open Go.RowKit Go.ChangeShapes
set_option maxRecDepth 100000
set_option linter.unusedVariables false

theorem Box.set' {w : World} {b i : Nat} {C C' : Array Value} {v : Value} (h : Box w b C) (e : C.setIfInBounds i v = C') : Box (w.setCell ⟨b, i, none⟩ v) b C' := by subst e; exact h.set v
theorem zeros_ints {w : World} {D : Nat → Prop} {g m : Nat} (h : Box w g (madeCells #[.int .u32 0] m)) (hm : m * 4 ≤ 140737488351232) (hD : D g) : Ints w D .u32 4 (some ⟨g, 0, none⟩) m m (List.replicate m 0) := by
  refine ⟨by simp, Nat.le_refl _, by omega, hm, (fun h => by cases h), fun x hx => by rw [List.eq_of_mem_replicate hx]; decide, fun hn => ⟨g, 0, rfl, hD, fun j hj => ?_⟩⟩
  have e : (madeCells #[.int .u32 0] m)[j]? = some (.int .u32 0) := by
    have h1 : (madeCells #[.int .u32 0] m).toList[j]? = some (.int .u32 0) := by
      rw [toList_madeCells_one, List.getElem?_replicate, if_pos hj]
    rwa [Array.getElem?_toList] at h1
  rw [Nat.zero_add, h.cell j, e, List.getD_eq_getElem?_getD, List.getElem?_replicate, if_pos hj]; rfl

theorem below_end {W w w' : World} (h : Below W.heap.size W w) (hs : Same w w') : Below W.heap.size W w' := below_from h hs.1 h.size
/-- The five records of the law, and the memory that they lie in. -/
structure Five (W : World) (d v : Int) (q g b5 b6 b7 b8 b9 : Nat) (w : World) : Prop where
  bl : Below W.heap.size W w
  xg : Box w g (madeCells #[.int .u32 0] (q + 1))
  x5 : Box w b5 #[.int .u64 d, .int .u64 v, .slice (some ⟨g, 0, none⟩) (q + 1) (q + 1)]
  x6 : ∃ h, Box w b6 #[.int .u64 d, .int .u64 v, .slice (some ⟨h, 0, none⟩) (q + 1 + 1) (q + 1 + 1)] ∧ Box w h (madeCells #[.int .u32 0] (q + 1 + 1))
  x7 : ∃ h, Box w b7 #[.int .u64 d, .int .u64 v, .slice (some ⟨h, 0, none⟩) q q]
  x8 : Box w b8 #[.int .u64 d, .int .u64 0, .slice (some ⟨g, 0, none⟩) (q + 1) (q + 1)]
  x9 : Box w b9 #[.int .u64 (d + 68719476736), .int .u64 v, .slice (some ⟨g, 0, none⟩) (q + 1) (q + 1)]

set_option maxHeartbeats 1000000 in
theorem wRecordWrong0 (W : World) (id ver : Int) (s : Option Addr) (l c : Nat) (a : Int) (b1 : 0 ≤ id) (b2 : id ≤ 18446744073709551615) (b3 : 0 ≤ ver) (b4 : ver ≤ 18446744073709551615) (hl : l ≤ 140737488351232) :
    Calls Try.prog 6 #[.agg #[.int .u64 id, .int .u64 ver, .slice s l c], .int .i64 a] W fun e W' => e = .returned (.bool true) ∧ Below W.heap.size W W' := by
  have ea := uint_mod a 8 (by omega) (by omega)
  obtain ⟨x, hx⟩ : ∃ x, x = a % 18446744073709551616 % 8 := ⟨_, rfl⟩
  have bx : 0 ≤ x ∧ x < 8 := by omega
  rw [← hx] at ea
  clear hx
  obtain ⟨bx0, bx1⟩ := bx
  by_cases hlt : 50 < l
  · go_enter Try.func6, Try.ntmps6
    go_wp2_with (go_at_call 18; (with_reducible refine (awake04 _).mono ?_); rintro e w' ⟨rfl, hg⟩)
    go_ret
    exact ⟨rfl, (below_a1 W _).trans (hg.mono (by rw [size_alloc]; omega))⟩
  · go_enter Try.func6, Try.ntmps6
    go_upto_region 4 with fail
    obtain ⟨q, hq⟩ : ∃ q : Nat, 1 + x = (q : Int) + 1 := ⟨x.toNat, by omega⟩
    have q1 : q ≤ 7 := by omega
    rw [hq]
    have hmk1 := run_mk (P := Try.prog) (t := 29) (e := 22) (k := .u32) (bytes := 4) Try.underlying29 (by kernel_rfl) (by omega) ((q : Int) + 1) (q + 1) (by omega) (by omega)
    have i0 : 0 ≤ id % 68719476736 := by omega
    have v0 : 0 ≤ 1 + ver / 2 := by omega
    have i1 : id % 68719476736 < 68719476736 := by omega
    have v1 : 1 ≤ 1 + ver / 2 := by omega
    have v2 : 1 + ver / 2 < 18446744073709551616 := by omega
    clear ea hq bx0 bx1
    go_cut [5] (fun s5 w => ∃ g b, s5 = .pointer (some ⟨b, 0, none⟩) ∧ Box w b #[.int .u64 (id % 68719476736), .int .u64 (1 + ver / 2), .slice (some ⟨g, 0, none⟩) (q + 1) (q + 1)] ∧ Box w g (madeCells #[.int .u32 0] (q + 1)) ∧ Below W.heap.size W w ∧ W.heap.size ≤ b ∧ W.heap.size ≤ g)
    case first =>
      go_region
      all_goals
        go_wp2_with fail
        go_meet
        exact ⟨_, _, rfl, (by repeat (first | apply Box.drew | apply Box.drewN | exact Box.newAt _ _ _ _ (by first | rfl | (simp only [size_alloc]; done) | (simp only [size_alloc]; omega)) | assumption | refine Box.alloc ?_ _)), (by repeat (first | apply Box.drew | apply Box.drewN | exact Box.newAt _ _ _ _ (by first | rfl | (simp only [size_alloc]; done) | (simp only [size_alloc]; omega)) | assumption | refine Box.alloc ?_ _)), (by repeat (first | exact Below.refl _ _ | assumption | apply Below.drew | apply belowN | (refine Below.alloc ?_ (by first | exact Nat.le_refl _ | (simp; done) | (simp; omega)) _) | (refine Below.setCell ?_ (by first | exact Nat.le_refl _ | (simp; done) | (simp; omega)) _))), by omega, by omega⟩
    case rest =>
      obtain ⟨g, b, rfl, xb, xg, hB, hb, hg⟩ := hcut
      generalize 1 + ver / 2 = v at *
      generalize id % 68719476736 = d at *
      have cb := xb.cell
      have zb := xb.lt
      have XB := Lib.hid xb; clear xb
      have XG := Lib.hid xg; clear xg
      have HB := Lib.hid hB; clear hB
      clear hmk1 b1 b2 b3 b4
      have hmk2 := run_mk (P := Try.prog) (t := 29) (e := 22) (k := .u32) (bytes := 4) Try.underlying29 (by kernel_rfl) (by omega) ((q : Int) + 1 + 1) (q + 1 + 1) (by omega) (by omega)
      have hmk3 := run_mk (P := Try.prog) (t := 29) (e := 22) (k := .u32) (bytes := 4) Try.underlying29 (by kernel_rfl) (by omega) ((q : Int)) q (by omega) (by omega)
      go_upto_region 5 with fail
      refine wp_copies (by kernel_rfl) 31 (.agg #[.int .u64 d, .int .u64 v, .slice (some ⟨g, 0, none⟩) (q + 1) (q + 1)]) #[.int .u64 0, .int .u64 0, .slice none 0 0] #[.int .u64 d, .int .u64 v, .slice (some ⟨g, 0, none⟩) (q + 1) (q + 1)] 4 (fun i => 30 + i) (fun i => 6 + i) rfl (ord_of (by kernel_rfl)) ?gle ?gd ?gll ?gaa ?gL ?gA ?gS ?gQ
      case gle => intro i hi; exact ⟨show 30 + i < 98 by omega, show 6 + i < 98 by omega⟩
      case gd => intro i j hi hj; show 30 + i ≠ 6 + j; omega
      case gll => intro i j hi hj h; show 30 + i ≠ 30 + j; omega
      case gaa => intro i j hi hj h; show 6 + i ≠ 6 + j; omega
      case gL =>
        have hfree := XB.out.free
        intro i o hi ho
        have hcase : i = 0 ∨ i = 1 ∨ i = 2 ∨ i = 3 := by omega
        rcases hcase with rfl | rfl | rfl | rfl
        all_goals
          obtain rfl := Option.some.inj ho
          refine ⟨rfl, fun a' w' K hfr hbl hK => ?_⟩
          have e5 := hfr 5 (fun i hi => ⟨by show 5 ≠ 30 + i; omega, by show 5 ≠ 6 + i; omega⟩)
          have cb' := ((XB.out.below hbl zb).cell)
          clear hfr hfree cb
          unfold StepTo
          go_simp
          exact hK
      case gA =>
        intro i o hi ho
        have hcase : i = 0 ∨ i = 1 ∨ i = 2 ∨ i = 3 := by omega
        rcases hcase with rfl | rfl | rfl | rfl
        all_goals
          obtain rfl := Option.some.inj ho
          refine ⟨rfl, fun a' w' K hK => ?_⟩
          unfold StepTo
          go_simp
          exact hK
      case gS =>
        intro i o hi ho
        have hcase : i = 0 ∨ i = 1 ∨ i = 2 ∨ i = 3 := by omega
        rcases hcase with rfl | rfl | rfl | rfl
        all_goals
          obtain rfl := Option.some.inj ho
          refine ⟨⟨by kernel_rfl, by kernel_rfl⟩, fun a' w' b' K h1 h2 h3 hK => ?_⟩
          have c3 := h3.box.cell
          have f3 := h3.box.free
          unfold StepTo
          go_simp
          refine hK _ ?_ ?_
          · exact ((h3.set (i := 0) _).set (i := 1) _).set (i := 2) _
          · exact (((Only.refl (· = b') _).setCell (p := ⟨b', 0, none⟩) (.inl rfl) _).setCell (p := ⟨b', 1, none⟩) (.inl rfl) _).setCell (p := ⟨b', 2, none⟩) (.inl rfl) _
      case gQ =>
        intro w' bs hbl hbs hne
        have y5 := XB.out.below hbl zb
        have yg := XG.out.below hbl XG.out.lt
        obtain ⟨l6, t6⟩ := hbs 0 (by omega)
        obtain ⟨l7, t7⟩ := hbs 1 (by omega)
        obtain ⟨l8, t8⟩ := hbs 2 (by omega)
        obtain ⟨l9, t9⟩ := hbs 3 (by omega)
        have n67 := hne 0 1 (by omega) (by omega) (by omega)
        have n68 := hne 0 2 (by omega) (by omega) (by omega)
        have n69 := hne 0 3 (by omega) (by omega) (by omega)
        have n78 := hne 1 2 (by omega) (by omega) (by omega)
        have n79 := hne 1 3 (by omega) (by omega) (by omega)
        have n89 := hne 2 3 (by omega) (by omega) (by omega)
        simp only [putCopies, Act.put, Nat.reduceAdd]
        clear hne hbs cb
        generalize bs 0 = b6 at *
        generalize bs 1 = b7 at *
        generalize bs 2 = b8 at *
        generalize bs 3 = b9 at *
        have x6 := t6.box; have x7 := t7.box; have x8 := t8.box; have x9 := t9.box
        have hlg := XG.out.lt
        have HB' := Lib.hid (below_from HB.out hbl HB.out.size)
        clear t6 t7 t8 t9
        have c5 := y5.cell; have c6 := x6.cell; have c7 := x7.cell; have c8 := x8.cell; have c9 := x9.cell
        have f5 := y5.free; have f6 := x6.free; have f7 := x7.free; have f8 := x8.free; have f9 := x9.free
        have z5 := y5.lt; have z6 := x6.lt; have z7 := x7.lt; have z8 := x8.lt; have z9 := x9.lt
        have Y5 := Lib.hid y5; have YG := Lib.hid yg; have X6 := Lib.hid x6; have X7 := Lib.hid x7; have X8 := Lib.hid x8; have X9 := Lib.hid x9; have zg := yg.lt
        clear y5 yg x6 x7 x8 x9 hbl
        go_upto_region 10 with fail
        refine wp_abs (Five W d v q g b b6 b7 b8 b9) (
          ⟨((((((HB'.out.setCell (p := ⟨b6, 2, none⟩) (by have := HB.out.size; show W.heap.size ≤ b6; omega) _).setCell (p := ⟨b7, 2, none⟩) (by have := HB.out.size; show W.heap.size ≤ b7; omega) _).setCell (p := ⟨b8, 1, none⟩) (by have := HB.out.size; show W.heap.size ≤ b8; omega) _).setCell (p := ⟨b9, 0, none⟩) (by have := HB.out.size; show W.heap.size ≤ b9; omega) _).alloc (by have := HB'.out.size; simp only [size_setCell]; omega) _).alloc (by have := HB'.out.size; simp only [size_alloc, size_setCell]; omega) _),
           (((((YG.out.setOther (a := ⟨b6, 2, none⟩) (by show g ≠ b6; omega) _).setOther (a := ⟨b7, 2, none⟩) (by show g ≠ b7; omega) _).setOther (a := ⟨b8, 1, none⟩) (by show g ≠ b8; omega) _).setOther (a := ⟨b9, 0, none⟩) (by show g ≠ b9; omega) _).alloc _).alloc _,
           (((((Y5.out.setOther (a := ⟨b6, 2, none⟩) (by show b ≠ b6; omega) _).setOther (a := ⟨b7, 2, none⟩) (by show b ≠ b7; omega) _).setOther (a := ⟨b8, 1, none⟩) (by show b ≠ b8; omega) _).setOther (a := ⟨b9, 0, none⟩) (by show b ≠ b9; omega) _).alloc _).alloc _,
           ⟨w'.heap.size, (((((X6.out.set' (i := 2) rfl).setOther (a := ⟨b7, 2, none⟩) (by show b6 ≠ b7; omega) _).setOther (a := ⟨b8, 1, none⟩) (by show b6 ≠ b8; omega) _).setOther (a := ⟨b9, 0, none⟩) (by show b6 ≠ b9; omega) _).alloc _).alloc _, (Box.newAt _ _ 22 _ (by simp only [size_setCell])).alloc _⟩,
           ⟨w'.heap.size + 1, ((((((X7.out.setOther (a := ⟨b6, 2, none⟩) (by show b7 ≠ b6; omega) _).set' (i := 2) rfl).setOther (a := ⟨b8, 1, none⟩) (by show b7 ≠ b8; omega) _).setOther (a := ⟨b9, 0, none⟩) (by show b7 ≠ b9; omega) _).alloc _).alloc _)⟩,
           (((((X8.out.setOther (a := ⟨b6, 2, none⟩) (by show b8 ≠ b6; omega) _).setOther (a := ⟨b7, 2, none⟩) (by show b8 ≠ b7; omega) _).set' (i := 1) rfl).setOther (a := ⟨b9, 0, none⟩) (by show b8 ≠ b9; omega) _).alloc _).alloc _,
           (((((X9.out.setOther (a := ⟨b6, 2, none⟩) (by show b9 ≠ b6; omega) _).setOther (a := ⟨b7, 2, none⟩) (by show b9 ≠ b7; omega) _).setOther (a := ⟨b8, 1, none⟩) (by show b9 ≠ b8; omega) _).set' (i := 0) rfl).alloc _).alloc _⟩) ?_
        clear Y5 YG X6 X7 X8 X9 c5 c6 c7 c8 c9 f5 f6 f7 f8 f9 z5 z6 z7 z8 z9 zg HB' hlg XB XG l6 l7 l8 l9 hmk2 hmk3 n67 n68 n69 n78 n79 n89 zb
        clear HB
        rintro w ⟨bl, xg, x5, ⟨h6, x6, xh⟩, ⟨h7, x7⟩, x8, x9⟩
        have c5 := x5.cell; have c6 := x6.cell; have c7 := x7.cell; have c8 := x8.cell; have c9 := x9.cell
        have z5 := x5.lt; have z6 := x6.lt; have z7 := x7.lt; have z8 := x8.lt; have z9 := x9.lt
        have BL := Lib.hid bl
        have S0 := Lib.hid (Same.of (Below.refl w.heap.size w))
        have DG := Lib.hid (show ∀ k, k = g → k < w.heap.size from fun k hk => by subst hk; exact xg.lt)
        have DH := Lib.hid (show ∀ k, k = h6 → k < w.heap.size from fun k hk => by subst hk; exact xh.lt)
        have RG := Lib.hid (show RecVal w (· = g) (.agg #[.int .u64 d, .int .u64 v, .slice (some ⟨g, 0, none⟩) (q + 1) (q + 1)]) ⟨d, v, List.replicate (q + 1) 0⟩ from
          ⟨_, _, _, rfl, ⟨⟨by omega, by show d ≤ _; omega⟩, ⟨by omega, by show v ≤ _; omega⟩, fun x hx => by rw [List.eq_of_mem_replicate hx]; exact ⟨by omega, by omega⟩⟩, zeros_ints xg (by omega) rfl⟩)
        have RM := Lib.hid (show RecVal w (· = h6) (.agg #[.int .u64 d, .int .u64 v, .slice (some ⟨h6, 0, none⟩) (q + 1 + 1) (q + 1 + 1)]) ⟨d, v, List.replicate (q + 1 + 1) 0⟩ from
          ⟨_, _, _, rfl, ⟨⟨by omega, by show d ≤ _; omega⟩, ⟨by omega, by show v ≤ _; omega⟩, fun x hx => by rw [List.eq_of_mem_replicate hx]; exact ⟨by omega, by omega⟩⟩, zeros_ints xh (by omega) rfl⟩)
        have EG : eqR ⟨d, v, List.replicate (q + 1) 0⟩ ⟨d, v, List.replicate (q + 1) 0⟩ = true := eqR_self _
        have EM : eqR ⟨d, v, List.replicate (q + 1) 0⟩ ⟨d, v, List.replicate (q + 1 + 1) 0⟩ = false := by
          rw [Bool.eq_false_iff]; intro h; rw [eqR_iff] at h; injection h with _ _ h
          have := congrArg List.length h; simp at this
        have E1 : rightF ((q : Int) + 1) d v (q + 1) = true := by unfold rightF; simp; omega
        have E2 : rightF ((q : Int) + 1) d v (q + 1 + 1) = false := by unfold rightF; simp; omega
        have E3 : rightF ((q : Int) + 1) d v q = false := by unfold rightF; simp; omega
        have E4 : rightF ((q : Int) + 1) d 0 (q + 1) = false := by unfold rightF; simp
        have E5 : rightF ((q : Int) + 1) (d + 68719476736) v (q + 1) = false := by unfold rightF; simp; omega
        have E6 : rightF 0 d v q = false := by unfold rightF; simp
        have E7 : rightF 9 d v (q + 1) = false := by unfold rightF; simp
        generalize hr1 : (⟨d, v, List.replicate (q + 1) 0⟩ : Rec) = r1 at *
        generalize hr2 : (⟨d, v, List.replicate (q + 1 + 1) 0⟩ : Rec) = r2 at *
        clear hr1 hr2 bl xg x5 x6 x7 x8 x9 xh hb hg
        go_wp2_with (first
          | (go_at_call 18; go_loud (refine (awake04 _).mono ?_; rintro e w1 ⟨rfl, hb⟩; have S1 := Same.step S0.out hb; clear hb))
          | (go_at_call 26; go_loud (refine (right_b _ _ _ _ _ _ _ (by omega) (by omega) (by omega) (by omega) (by omega) (by omega) (by omega)).mono ?_; rintro e w1 ⟨rfl, hb⟩; have S1 := Same.step (by first | assumption) hb; clear hb))
          | (go_at_call 27; ((with_reducible refine (rsame_any _ (RG.out.sm DG.out (by assumption)) (RG.out.sm DG.out (by assumption)) (Same.lt (by assumption) DG.out) (Same.lt (by assumption) DG.out)).mono ?_); rintro e w1 ⟨rfl, hb⟩; have S1 := Same.step (by first | assumption) hb; clear hb))
          | (go_at_call 27; ((with_reducible refine (rsame_any _ (RG.out.sm DG.out (by assumption)) (RM.out.sm DH.out (by assumption)) (Same.lt (by assumption) DG.out) (Same.lt (by assumption) DH.out)).mono ?_); rintro e w1 ⟨rfl, hb⟩; have S1 := Same.step (by first | assumption) hb; clear hb)))
        go_ret
        exact ⟨by first | rfl | simp, below_end BL.out (by assumption)⟩

theorem wRecordWrong (W : World) (vs : List Value) (h : Sh.Args W (· < W.heap.size) [((.st (.pair (.int .u64) (.pair (.int .u64) (.pair (.sl (.int .u32) 4) .unit)))), 31), ((.int .i64), 3)] vs) :
    Calls Try.prog 6 vs.toArray W fun e W' => e = .returned (.bool true) ∧ Below W.heap.size W W' := by
  obtain ⟨_, _, rfl, ⟨a, ha⟩, _, _, rfl, ⟨b, hb⟩, rfl⟩ := h
  obtain ⟨r, s, l, c, rfl, ⟨h1, h2, _⟩, hi⟩ := rec_open ha
  obtain ⟨n, rfl, w1⟩ := int_open hb
  have := hi.2.2.2.1
  exact wRecordWrong0 W r.id r.ver s l c n h1.1 h1.2 h2.1 h2.2 (by omega)
end Go.Proofs.Ytjniholnmjafeaa
