/- The walk of the law BalanceHalf: it returns true. Conditions: none. -/
import Derived.Test.YtjniholnmjafeaaBalAwake
import Derived.Test.YtjniholnmjafeaaBalIn
import Derived.Test.YtjniholnmjafeaaRec
namespace Go.Proofs.Ytjniholnmjafeaa
open Go.RowKit Go.ChangeShapes
set_option maxRecDepth 100000
set_option linter.unusedVariables false
set_option linter.unusedSimpArgs false

theorem hnews_box {w : World} {g : Nat} {C : Array Value} (h : Box w g C) : ∀ ad, some (⟨g, 0, none⟩ : Addr) = some ad → ∀ t u, C.toList[t]? = some u → w.cell? (ad.add t) = some u := by
  intro ad had t u hu
  injection had with had; subst had
  rw [addPlain, Nat.zero_add, h.cell t]
  rwa [Array.getElem?_toList] at hu
theorem hown_from {w w' W : World} {e s n : Nat} {v : Value} {xs : List Value} (h : w.ownsRow W.heap.size e s v n xs) (hB : Below W.heap.size W w) (hg : w.grownBy w' v.ownBlock) : Below W.heap.size W w' := by
  refine hB.grown hg hB.size (fun k hk => ?_)
  rcases h.2 with ⟨he, _⟩ | ⟨g, cap, cur, he, hg, _⟩
  · rw [he] at hk; cases hk
  · rw [he] at hk; have hk' : g = k := by simpa [Value.ownBlock] using hk
    omega
theorem evals_lit3 {w : World} {g : Nat} {C : Array Value} {a b c : Int} (h : Box w g C) (ha : C[0]? = some (.int .u32 a)) (hb : C[5]? = some (.int .u32 b)) (hc' : C[10]? = some (.int .u32 c)) (ua : U32 a) (ub : U32 b) (uc : U32 c) : EVals w (some ⟨g, 0, none⟩) 3 3 [a, b, c] := by
  refine ⟨rfl, Nat.le_refl _, by omega, by simp [ua, ub, uc], fun _ => ⟨g, 0, rfl, h.lt, fun j v hv => ?_⟩⟩
  have hc := h.cell
  match j, hv with
  | 0, hv => simp at hv; subst hv; exact (hc 0).trans ha
  | 1, hv => simp at hv; subst hv; exact (hc 5).trans hb
  | 2, hv => simp at hv; subst hv; exact (hc 10).trans hc'

/-- The second half of the law, wherever it begins. -/
def HalfDone (W w : World) : Prop := Below W.heap.size W w

set_option maxHeartbeats 4000000 in
theorem wBalanceHalf0 (W : World) {A : Option Addr} {n cap : Nat} {l : List Ld} (a b : Int) (h : Lds W A n cap l) :
    Calls Try.prog 12 #[.slice A n cap, .int .i64 a, .int .i64 b] W fun e W' => e = .returned (.bool true) ∧ Below W.heap.size W W' := by
  have HH := Lib.hid h
  have HL := Lib.hid h.1
  have H6 := Lib.hid h.2.2.2.2.2.1
  have bn : n ≤ 140737488351232 := by have := h.2.2.2.1; omega
  clear h
  by_cases hlt : 80 < n
  · go_enter Try.func12, Try.ntmps12
    go_wp2_with (go_at_call 50; (with_reducible refine (awake17 _).mono ?_); rintro e w' ⟨rfl, hg⟩)
    go_ret
    exact ⟨rfl, hg⟩
  · have hinfo : (Try.prog.info? 79).map (fun i => (i.zero, i.size, i.bytes)) = some (some (.agg #[.int .u32 0, .int .i64 0]), 2, 16) := by kernel_rfl
    obtain ⟨i0, hii, hz0, hz1, hz2⟩ := info_parts hinfo
    clear hinfo
    have ea := uint_mod a 2147483648 (by omega) (by omega)
    have eb := uint_mod b 50 (by omega) (by omega)
    obtain ⟨x, hx⟩ : ∃ x, x = a % 18446744073709551616 % 2147483648 := ⟨_, rfl⟩
    obtain ⟨y, hy⟩ : ∃ y : Nat, (y : Int) = b % 18446744073709551616 % 50 := ⟨(b % 18446744073709551616 % 50).toNat, by omega⟩
    have bx0 : 0 ≤ x := by omega
    have bx1 : x ≤ 2147483647 := by omega
    have by1 : y ≤ 49 := by omega
    rw [← hx] at ea
    rw [← hy] at eb
    clear hx hy
    obtain ⟨m0, m1⟩ := mean_bd (l := l) (by rw [HL.out]; omega)
    have AN := Lib.hid (alike_none x bx0 bx1)
    have AP := Lib.hid (alike_plan x bx0 bx1)
    obtain ⟨p, e, bh, hA, PA⟩ : ∃ (p e : Int) (bh : Bool), heavyF l = (⟨p, e⟩, bh) ∧ (bh = true → (⟨p, e⟩ : Ld) ∈ l ∧ 2 * meanF l < e * 256 ∧ 0 ≤ e ∧ e ≤ 2147483647) := by
      rcases heavy_cases l with hA | ⟨⟨p, e⟩, hA, h1⟩
      · exact ⟨0, 0, false, hA, (fun h => by cases h)⟩
      · exact ⟨p, e, true, hA, fun _ => h1⟩
    obtain ⟨q, f, bl, hB, PB⟩ : ∃ (p e : Int) (bh : Bool), lightF l = (⟨p, e⟩, bh) ∧ (bh = true → (⟨p, e⟩ : Ld) ∈ l ∧ e * 512 < meanF l ∧ 0 ≤ e ∧ e ≤ 2147483647) := by
      rcases light_cases l with hA | ⟨⟨p, e⟩, hA, h1⟩
      · exact ⟨0, 0, false, hA, (fun h => by cases h)⟩
      · exact ⟨p, e, true, hA, fun _ => h1⟩
    have CH := Lib.hid (fun (w : World) (h : Lds w A n cap l) => by have := bal_heavy w h (by omega); simp only [hA] at this; exact this)
    have CL := Lib.hid (fun (w : World) (h : Lds w A n cap l) => by have := bal_light w h (by omega); simp only [hB] at this; exact this)
    have CM := Lib.hid (fun (w : World) (h : Lds w A n cap l) => bal_rmean w h (by omega))
    clear hA hB
    generalize meanF l = mean at *
    have QA := Lib.hid PA
    have QB := Lib.hid PB
    clear PA PB
    go_enter Try.func12, Try.ntmps12
    go_upto_region 6 with (first
      | (go_at_call 52; go_loud ((with_reducible refine (CH.out _ HH.out).mono ?_); rintro e3 w3 ⟨rfl, hb3⟩; have K3 := Lib.hid hb3; clear hb3))
      | (go_at_call 54; go_loud ((with_reducible refine (CL.out _ (HH.out.below (K3.out.alloc K3.out.size _) (Nat.le_refl _))).mono ?_); rintro e4 w4 ⟨rfl, hb4⟩; have X7 := Lib.hid ((Box.new w3 #[.int .u32 p, .int .i64 e] 79).below hb4 (by rw [size_alloc]; omega)); have K4 := Lib.hid (below_from (K3.out.alloc K3.out.size (.cells #[.int .u32 p, .int .i64 e] 79)) hb4 (by rw [size_alloc]; have := K3.out.size; omega)); clear hb4))
      | (go_at_call 59; go_loud ((with_reducible refine (CM.out _ (HH.out.below (K4.out.alloc K4.out.size _) (Nat.le_refl _))).mono ?_); rintro e5 w5 ⟨rfl, hb5⟩; have Y7 := Lib.hid ((X7.out.alloc _).below hb5 (by rw [size_alloc]; have := X7.out.lt; omega)); have Y9 := Lib.hid ((Box.new w4 #[.int .u32 q, .int .i64 f] 79).below hb5 (by rw [size_alloc]; omega)); have K5 := Lib.hid (below_from (K4.out.alloc K4.out.size (.cells #[.int .u32 q, .int .i64 f] 79)) hb5 (by rw [size_alloc]; have := K4.out.size; omega)); clear hb5)))
    refine wp_abs (fun wx => Box wx w3.heap.size #[.int .u32 p, .int .i64 e] ∧ Box wx w4.heap.size #[.int .u32 q, .int .i64 f] ∧ Below W.heap.size W wx) ⟨Y7.out, Y9.out, K5.out⟩ ?_
    clear X7 Y7 Y9 K3 K4 K5
    generalize w3.heap.size = b7 at *
    generalize w4.heap.size = b9 at *
    rintro wx ⟨V7, V9, HBx⟩
    have c7 := V7.cell; have z7 := V7.lt
    have c9 := V9.cell; have z9 := V9.lt
    have KX := Lib.hid HBx
    have LX := Lib.hid (HH.out.below HBx (Nat.le_refl _))
    have S0 := Lib.hid (Same.of (Below.refl wx.heap.size wx))
    clear V7 V9 HBx CH CL CM
    cases bh
    all_goals
     cases bl
     all_goals
      try obtain ⟨hmA, hgA, hA0, hA1⟩ := QA.out rfl
      try obtain ⟨hmB, hgB, hB0, hB1⟩ := QB.out rfl
      try have MA := Lib.hid hmA
      try have MB := Lib.hid hmB
      try clear hmA
      try clear hmB
      clear QA QB
      go_wp2_with (first
        | (go_at_call 50; go_loud ((with_reducible refine (awake17 _).mono ?_); rintro e6 w6 ⟨rfl, hb6⟩; have S1 := Same.step S0.out hb6; clear hb6))
        | (go_at_call 60; ((with_reducible refine (bal_in p e _ (LX.out.below (by assumption : Same wx _).1 (Nat.le_refl _)) MA.out).mono ?_); rintro e6 w6 ⟨rfl, hb6⟩; have S1 := Same.step (by assumption) hb6; clear hb6))
        | (go_at_call 60; ((with_reducible refine (bal_in q f _ (LX.out.below (by assumption : Same wx _).1 (Nat.le_refl _)) MB.out).mono ?_); rintro e6 w6 ⟨rfl, hb6⟩; have S1 := Same.step (by assumption) hb6; clear hb6)))
      simp only [ea, eb]
      clear ea eb
      have hdn : decide ((80 : Int) < (n : Int)) = false := by simp; omega
      simp only [hdn]
      clear hdn
      go_loopw [12, 13] (fun s i wr => ∃ k : Nat, k ≤ y ∧ i = .int .i64 k ∧ wr.ownsRow W.heap.size 79 2 s k (ldCells (alike x k)) ∧ Below W.heap.size W wr) (fun _ i _ => y - (intOf i).toNat)
      case atStart => exact ⟨0, Nat.zero_le _, rfl, ⟨rfl, .inl ⟨rfl, rfl⟩⟩, below_from KX.out (by assumption : Same wx _).1 KX.out.size⟩
      case round =>
        obtain ⟨k, hk, rfl, hown, hB⟩ := hrel
        have HO := Lib.hid hown; have HB := Lib.hid hB
        obtain ⟨A1, cap1, rfl, hw1, hw2, hw3, hw4⟩ := owns_shape hown
        clear hown hB hw1 hw2 hw3 hw4
        have hbs := HB.out.size
        by_cases hky : k < y
        · have AS := Lib.hid (alike_succ x k)
          go_wp2_with (at_builtin; go_loud (refine wpList_append_any _ rfl _ _ 74 rfl W.heap.size 79 i0 (.agg #[.int .u32 0, .int .i64 0]) 2 16 Try.underlying74 hii hz0 hz1 hz2 rfl (by decide) _ k (ldCells (alike x k)) rfl (HO.out.alloc _) (some ⟨wr.heap.size, 0, none⟩) 1 1 [.int .u32 (k : Int), .int .i64 x] rfl rfl (fun h => by cases h) (hnews_box (Box.new _ _ _)) (by intro u hu; simp at hu; rcases hu with rfl | rfl <;> rfl) (by unfold maxLen; omega) (by omega) (by rw [size_alloc]; omega) ?_; intro B2 cap2 w2 a2))
          go_roundw
          case rel => exact ⟨k + 1, by omega, by go_num, by rw [AS.out, ldCells_app]; exact a2.1, hown_from (HO.out.alloc _) (HB.out.alloc hbs _) a2.2.1⟩
          case measure => simp [intOf]; omega
        · have hke : k = y := by omega
          subst hke
          obtain ⟨B', c', he, hL⟩ := lds_owns HO.out (by
            intro z hz
            obtain ⟨h1, h2, h3⟩ := alike_mem hz
            exact ⟨⟨h2, by omega⟩, ⟨by omega, by omega⟩⟩) (by omega)
          injection he with he1 _ he2
          subst he1 he2
          have LA := Lib.hid hL
          have CH := Lib.hid (fun (w : World) (h : Lds w A1 k cap1 (alike x k)) => by have := bal_heavy w h (by omega); simp only [(AN.out k).1] at this; exact this)
          have CL := Lib.hid (fun (w : World) (h : Lds w A1 k cap1 (alike x k)) => by have := bal_light w h (by omega); simp only [(AN.out k).2] at this; exact this)
          have CP := Lib.hid (fun (B : Option Addr) (w : World) (h : Lds w A1 k cap1 (alike x k)) (h2 : EVals w B 3 3 [1, 2, 3]) => by have := bal_plan w h (by omega) h2; simp only [AP.out] at this; exact this)
          clear hL
          go_wp2_with (first
            | (go_at_call 52; go_loud ((with_reducible refine (CH.out _ LA.out).mono ?_); rintro e3 w3 ⟨rfl, hb3⟩; have K3 := Lib.hid hb3; clear hb3))
            | (go_at_call 54; go_loud ((with_reducible refine (CL.out _ (LA.out.below (K3.out.alloc K3.out.size _) (Nat.le_refl _))).mono ?_); rintro e4 w4 ⟨rfl, hb4⟩; have K4 := Lib.hid (below_from (K3.out.alloc K3.out.size (.cells #[.int .u32 0, .int .i64 0] 79)) hb4 (by rw [size_alloc]; have := K3.out.size; omega)); clear hb4))
            | (go_at_call 56; go_loud ((with_reducible refine (CP.out _ _ (LA.out.below ((K4.out.alloc K4.out.size _).alloc (by rw [size_alloc]; have := K4.out.size; omega) _) (Nat.le_refl _)) (evals_lit3 (Box.newAt _ _ _ _ (by rw [size_alloc])) rfl rfl rfl (by unfold U32; decide) (by unfold U32; decide) (by unfold U32; decide))).mono ?_); rintro e5 w5 ⟨rfl, hb5⟩; have K5 := Lib.hid (below_from ((K4.out.alloc K4.out.size (.cells #[.int .u32 0, .int .i64 0] 79)).alloc (by rw [size_alloc]; have := K4.out.size; omega) (.cells #[.int .u32 1, .int .u64 0, .int .u64 0, .slice none 0 0, .bool false, .int .u32 2, .int .u64 0, .int .u64 0, .slice none 0 0, .bool false, .int .u32 3, .int .u64 0, .int .u64 0, .slice none 0 0, .bool false] 33)) hb5 (by simp only [size_alloc]; have := K4.out.size; omega)); clear hb5)))
          go_ret
          exact ⟨by first | rfl | simp, below_from HB.out (K5.out.alloc K5.out.size _) HB.out.size⟩

theorem wBalanceHalf (W : World) (vs : List Value) (h : Sh.Args W (· < W.heap.size) [((.sl (.st (.pair (.int .u32) (.pair (.int .i64) .unit))) 16), 74), ((.int .i64), 3), ((.int .i64), 3)] vs) :
    Calls Try.prog 12 vs.toArray W fun e W' => e = .returned (.bool true) ∧ Below W.heap.size W W' := by
  obtain ⟨_, _, rfl, ⟨a, ha⟩, _, _, rfl, ⟨b, hb⟩, _, _, rfl, ⟨c, hc⟩, rfl⟩ := h
  obtain ⟨l, A, n, cap, rfl, hi⟩ := lds_open ha
  obtain ⟨n1, rfl, w1⟩ := int_open hb
  obtain ⟨n2, rfl, w2⟩ := int_open hc
  exact wBalanceHalf0 W n1 n2 hi
end Go.Proofs.Ytjniholnmjafeaa
