/- The walk of the law BalanceRefuses: it returns true. Conditions: none. -/
import Derived.Test.YtjniholnmjafeaaBalAwake
import Derived.Test.YtjniholnmjafeaaBalRow
namespace Go.Proofs.Ytjniholnmjafeaa
open Go.RowKit Go.ChangeShapes
set_option maxRecDepth 100000
set_option linter.unusedVariables false
set_option linter.unusedSimpArgs false

theorem heavy_none {A : Option Addr} {n cap : Nat} {l : List Ld} (w : World) (h : Lds w A n cap l) (hn : n ≤ 1000) (hm : mayF l = false) :
    Calls Try.prog 52 #[.slice A n cap] w fun e w' => e = .returned (.tuple #[.agg #[.int .u32 0, .int .i64 0], .bool false]) ∧ Below w.heap.size w w' := by
  have := bal_heavy w h hn; simp only [heavy_bad hm] at this; exact this
theorem light_none {A : Option Addr} {n cap : Nat} {l : List Ld} (w : World) (h : Lds w A n cap l) (hn : n ≤ 1000) (hm : mayF l = false) :
    Calls Try.prog 54 #[.slice A n cap] w fun e w' => e = .returned (.tuple #[.agg #[.int .u32 0, .int .i64 0], .bool false]) ∧ Below w.heap.size w w' := by
  have := bal_light w h hn; simp only [light_bad hm] at this; exact this
theorem plan_none {A B : Option Addr} {n cap m c2 : Nat} {l : List Ld} {vs : List Int} (w : World) (h : Lds w A n cap l) (hn : n ≤ 1000) (hv : EVals w B m c2 vs) (hm : mayF l = false) :
    Calls Try.prog 56 #[.slice A n cap, .slice B m c2] w fun e w' => e = .returned (.tuple #[.agg #[.int .u32 0, .int .u32 0], .int .i64 1]) ∧ Below w.heap.size w w' := by
  have := bal_plan w h hn hv; simp only [plan_may hm] at this; exact this

theorem news_box {w : World} {g : Nat} {C : Array Value} (h : Box w g C) : ∀ ad, some (⟨g, 0, none⟩ : Addr) = some ad → ∀ t u, C.toList[t]? = some u → w.cell? (ad.add t) = some u := by
  intro ad had t u hu
  injection had with had; subst had
  rw [addPlain, Nat.zero_add, h.cell t]
  rwa [Array.getElem?_toList] at hu
theorem bad_row {W w w2 : World} {n m : Nat} {B B2 : Option Addr} {cap1 cap2 : Nat} {l r : List Ld} {news : List Value} {o : Obj} (hB : Below W.heap.size W w) (hn : ldCells r = news) (hl : l.length = n) (hr : r.length = m) (ho : w.ownsRow W.heap.size 79 2 (.slice B n cap1) n (ldCells l))
    (ha : Appd (w.alloc o) W.heap.size 79 2 n m (ldCells l) news (.slice B n cap1) B2 cap2 w2) (hok : ∀ x ∈ l ++ r, x.ok) (hs : n + m ≤ 1000) (hm : mayGo l r = false) :
    (∃ bad, Lds w2 B2 (n + m) cap2 bad ∧ mayF bad = false) ∧ Below W.heap.size W w2 := by
  subst hn
  obtain ⟨h1, h2, _⟩ := ha
  rw [← ldCells_app] at h1
  obtain ⟨B', c', he, hL⟩ := lds_owns h1 hok (by omega)
  injection he with he1 _ he2
  subst he1 he2
  refine ⟨⟨_, hL, by rw [mayF_app, hm, Bool.and_false]⟩, ?_⟩
  refine (hB.alloc hB.size o).grown h2 (by rw [size_alloc]; have := hB.size; omega) (fun k hk => ?_)
  rcases ho.2 with ⟨he, _⟩ | ⟨g, cap, cur, he, hg, _⟩
  · rw [he] at hk; cases hk
  · rw [he] at hk; have hk' : g = k := by simpa [Value.ownBlock] using hk
    omega

set_option maxHeartbeats 4000000 in
theorem wBalanceRefuses0 (W : World) {A : Option Addr} {n cap : Nat} {l : List Ld} (a p : Int) (h : Lds W A n cap l) (p0 : 0 ≤ p) (p1 : p ≤ 4294967295) :
    Calls Try.prog 14 #[.slice A n cap, .int .i64 a, .int .u32 p] W fun e W' => e = .returned (.bool true) ∧ Below W.heap.size W W' := by
  have HH := Lib.hid h
  have HL := Lib.hid h.1
  have H6 := Lib.hid h.2.2.2.2.2.1
  have bn : n ≤ 140737488351232 := by have := h.2.2.2.1; omega
  clear h
  by_cases hlt : 40 < n
  · go_enter Try.func14, Try.ntmps14
    go_wp2_with (go_at_call 50; (with_reducible refine (awake17 _).mono ?_); rintro e w' ⟨rfl, hg⟩)
    go_ret
    exact ⟨rfl, hg⟩
  · have hinfo : (Try.prog.info? 79).map (fun i => (i.zero, i.size, i.bytes)) = some (some (.agg #[.int .u32 0, .int .i64 0]), 2, 16) := by kernel_rfl
    obtain ⟨i0, hii, hz0, hz1, hz2⟩ := info_parts hinfo
    clear hinfo
    have et : (IntKind.u64.wrap a).tmod 3 = a % 18446744073709551616 % 3 := by
      have e : IntKind.u64.wrap a = a % 18446744073709551616 := by simp [IntKind.wrap, IntKind.bits, IntKind.signed]
      rw [e, Int.tmod_eq_emod_of_nonneg (by omega)]
    obtain ⟨x, hx⟩ : ∃ x, x = a % 18446744073709551616 % 3 := ⟨_, rfl⟩
    have bx : x = 0 ∨ x = 1 ∨ x = 2 := by omega
    rw [← hx] at et
    clear hx
    have hl2 := Lib.hid (show (ldCells l).length = n * 2 by rw [ldCells_len, HL.out])
    have q1 := Lib.hid (show 0 + n ≤ maxLen by unfold maxLen; omega)
    have q2 := Lib.hid (show (0 + n) * 16 ≤ 140737488355328 by omega)
    go_enter Try.func14, Try.ntmps14
    go_upto_region 4 with (at_builtin; go_loud (refine wpList_append_nil _ rfl _ _ 74 rfl W.heap.size 79 i0 (.agg #[.int .u32 0, .int .i64 0]) 2 16 Try.underlying74 hii hz0 hz1 hz2 rfl (by decide) rfl A n cap (ldCells l) rfl hl2.out HH.out.none HH.out.news (ldCells_one l) q1.out q2.out (Nat.le_refl _) ?_; intro B1 cap1 w1 a1))
    have ho1 := a1.1
    rw [Nat.zero_add, List.nil_append] at ho1
    have HO := Lib.hid ho1
    have HB1 := Lib.hid (grown_none a1.2.1)
    clear a1 ho1
    rcases bx with rfl | rfl | rfl
    rotate_left
    rotate_left
    · have e0 : ((2 : Int) == 0) = false := rfl
      have e1 : ((2 : Int) == 1) = false := rfl
      have hw1 := HB1.out.size
      go_upto_region 10 with (at_builtin; go_loud (refine wpList_append_any _ rfl _ _ 74 rfl W.heap.size 79 i0 (.agg #[.int .u32 0, .int .i64 0]) 2 16 Try.underlying74 hii hz0 hz1 hz2 rfl (by decide) _ n (ldCells l) rfl (HO.out.alloc _) (some ⟨w1.heap.size, 0, none⟩) 2 2 [.int .u32 p, .int .i64 0, .int .u32 p, .int .i64 0] rfl rfl (fun h => by cases h) (news_box (Box.new _ _ _)) (by intro u hu; simp at hu; rcases hu with rfl | rfl | rfl | rfl <;> rfl) (by unfold maxLen; omega) (by omega) (by rw [size_alloc]; omega) ?_; intro B2 cap2 w2 a2))
      have bad := Lib.hid (bad_row (m := 2) HB1.out (r := [⟨p, 0⟩, ⟨p, 0⟩]) rfl HL.out rfl HO.out a2 (by intro x hx; rcases List.mem_append.1 hx with hx | hx; exact H6.out x hx; simp at hx; subst hx; exact ⟨⟨p0, p1⟩, ⟨by dsimp only; omega, by dsimp only; omega⟩⟩) (by omega) (by simp [mayGo, okAt]))
      clear a2 HO HB1
      obtain ⟨⟨bd, hL, hM⟩, hW⟩ := bad.out
      have LB := Lib.hid hL; have MB := Lib.hid hM; have HW := Lib.hid hW
      clear hL hM hW bad
      go_wp2_with (first
        | (go_at_call 52; go_loud ((with_reducible refine (heavy_none _ LB.out (by omega) MB.out).mono ?_); rintro e3 w3 ⟨rfl, hb3⟩; have K3 := Lib.hid hb3; clear hb3))
        | (go_at_call 54; go_loud ((with_reducible refine (light_none _ (LB.out.below (K3.out.alloc K3.out.size _) (Nat.le_refl _)) (by omega) MB.out).mono ?_); rintro e4 w4 ⟨rfl, hb4⟩; have K4 := Lib.hid (below_from (K3.out.alloc K3.out.size (.cells #[.int .u32 0, .int .i64 0] 79)) hb4 (by rw [size_alloc]; have := K3.out.size; omega)); clear hb4))
        | (go_at_call 56; go_loud ((with_reducible refine (plan_none _ (LB.out.below ((K4.out.alloc K4.out.size _).alloc (by rw [size_alloc]; have := K4.out.size; omega) _) (Nat.le_refl _)) (by omega) (evals_lit2 (Box.newAt _ _ _ _ (by rw [size_alloc])) rfl rfl (by unfold U32; decide) (by unfold U32; decide)) MB.out).mono ?_); rintro e5 w5 ⟨rfl, hb5⟩; have K5 := Lib.hid (below_from ((K4.out.alloc K4.out.size (.cells #[.int .u32 0, .int .i64 0] 79)).alloc (by rw [size_alloc]; have := K4.out.size; omega) (.cells #[.int .u32 1, .int .u64 0, .int .u64 0, .slice none 0 0, .bool false, .int .u32 2, .int .u64 0, .int .u64 0, .slice none 0 0, .bool false] 33)) hb5 (by simp only [size_alloc]; have := K4.out.size; omega)); clear hb5))
        | (go_at_call 50; go_loud ((with_reducible refine (awake17 _).mono ?_); rintro e6 w6 ⟨rfl, hb6⟩; have X6 := (Box.new w5 #[.int .u32 0, .int .u32 0] 83).below hb6 (by rw [size_alloc]; omega); have c6 := X6.cell; have z6 := X6.lt; have K6 := Lib.hid (below_from (K5.out.alloc K5.out.size (.cells #[.int .u32 0, .int .u32 0] 83)) hb6 (by rw [size_alloc]; have := K5.out.size; omega)); clear hb6 X6)))
      go_ret
      exact ⟨by first | rfl | simp, below_from HW.out K6.out HW.out.size⟩
    · have e0 : ((0 : Int) == 0) = true := rfl
      have hw1 := HB1.out.size
      go_upto_region 10 with (at_builtin; go_loud (refine wpList_append_any _ rfl _ _ 74 rfl W.heap.size 79 i0 (.agg #[.int .u32 0, .int .i64 0]) 2 16 Try.underlying74 hii hz0 hz1 hz2 rfl (by decide) _ n (ldCells l) rfl (HO.out.alloc _) (some ⟨w1.heap.size, 0, none⟩) 1 1 [.int .u32 p, .int .i64 (-1)] rfl rfl (fun h => by cases h) (news_box (Box.new _ _ _)) (by intro u hu; simp at hu; rcases hu with rfl | rfl | rfl | rfl <;> rfl) (by unfold maxLen; omega) (by omega) (by rw [size_alloc]; omega) ?_; intro B2 cap2 w2 a2))
      have bad := Lib.hid (bad_row (m := 1) HB1.out (r := [⟨p, -1⟩]) rfl HL.out rfl HO.out a2 (by intro x hx; rcases List.mem_append.1 hx with hx | hx; exact H6.out x hx; simp at hx; subst hx; exact ⟨⟨p0, p1⟩, ⟨by dsimp only; omega, by dsimp only; omega⟩⟩) (by omega) (by simp [mayGo, okAt]))
      clear a2 HO HB1
      obtain ⟨⟨bd, hL, hM⟩, hW⟩ := bad.out
      have LB := Lib.hid hL; have MB := Lib.hid hM; have HW := Lib.hid hW
      clear hL hM hW bad
      go_wp2_with (first
        | (go_at_call 52; go_loud ((with_reducible refine (heavy_none _ LB.out (by omega) MB.out).mono ?_); rintro e3 w3 ⟨rfl, hb3⟩; have K3 := Lib.hid hb3; clear hb3))
        | (go_at_call 54; go_loud ((with_reducible refine (light_none _ (LB.out.below (K3.out.alloc K3.out.size _) (Nat.le_refl _)) (by omega) MB.out).mono ?_); rintro e4 w4 ⟨rfl, hb4⟩; have K4 := Lib.hid (below_from (K3.out.alloc K3.out.size (.cells #[.int .u32 0, .int .i64 0] 79)) hb4 (by rw [size_alloc]; have := K3.out.size; omega)); clear hb4))
        | (go_at_call 56; go_loud ((with_reducible refine (plan_none _ (LB.out.below ((K4.out.alloc K4.out.size _).alloc (by rw [size_alloc]; have := K4.out.size; omega) _) (Nat.le_refl _)) (by omega) (evals_lit2 (Box.newAt _ _ _ _ (by rw [size_alloc])) rfl rfl (by unfold U32; decide) (by unfold U32; decide)) MB.out).mono ?_); rintro e5 w5 ⟨rfl, hb5⟩; have K5 := Lib.hid (below_from ((K4.out.alloc K4.out.size (.cells #[.int .u32 0, .int .i64 0] 79)).alloc (by rw [size_alloc]; have := K4.out.size; omega) (.cells #[.int .u32 1, .int .u64 0, .int .u64 0, .slice none 0 0, .bool false, .int .u32 2, .int .u64 0, .int .u64 0, .slice none 0 0, .bool false] 33)) hb5 (by simp only [size_alloc]; have := K4.out.size; omega)); clear hb5))
        | (go_at_call 50; go_loud ((with_reducible refine (awake17 _).mono ?_); rintro e6 w6 ⟨rfl, hb6⟩; have X6 := (Box.new w5 #[.int .u32 0, .int .u32 0] 83).below hb6 (by rw [size_alloc]; omega); have c6 := X6.cell; have z6 := X6.lt; have K6 := Lib.hid (below_from (K5.out.alloc K5.out.size (.cells #[.int .u32 0, .int .u32 0] 83)) hb6 (by rw [size_alloc]; have := K5.out.size; omega)); clear hb6 X6)))
      go_ret
      exact ⟨by first | rfl | simp, below_from HW.out K6.out HW.out.size⟩
    · have e0 : ((1 : Int) == 0) = false := rfl
      have hw1 := HB1.out.size
      go_upto_region 10 with (at_builtin; go_loud (refine wpList_append_any _ rfl _ _ 74 rfl W.heap.size 79 i0 (.agg #[.int .u32 0, .int .i64 0]) 2 16 Try.underlying74 hii hz0 hz1 hz2 rfl (by decide) _ n (ldCells l) rfl (HO.out.alloc _) (some ⟨w1.heap.size, 0, none⟩) 1 1 [.int .u32 p, .int .i64 2147483648] rfl rfl (fun h => by cases h) (news_box (Box.new _ _ _)) (by intro u hu; simp at hu; rcases hu with rfl | rfl | rfl | rfl <;> rfl) (by unfold maxLen; omega) (by omega) (by rw [size_alloc]; omega) ?_; intro B2 cap2 w2 a2))
      have bad := Lib.hid (bad_row (m := 1) HB1.out (r := [⟨p, 2147483648⟩]) rfl HL.out rfl HO.out a2 (by intro x hx; rcases List.mem_append.1 hx with hx | hx; exact H6.out x hx; simp at hx; subst hx; exact ⟨⟨p0, p1⟩, ⟨by dsimp only; omega, by dsimp only; omega⟩⟩) (by omega) (by simp [mayGo, okAt]))
      clear a2 HO HB1
      obtain ⟨⟨bd, hL, hM⟩, hW⟩ := bad.out
      have LB := Lib.hid hL; have MB := Lib.hid hM; have HW := Lib.hid hW
      clear hL hM hW bad
      go_wp2_with (first
        | (go_at_call 52; go_loud ((with_reducible refine (heavy_none _ LB.out (by omega) MB.out).mono ?_); rintro e3 w3 ⟨rfl, hb3⟩; have K3 := Lib.hid hb3; clear hb3))
        | (go_at_call 54; go_loud ((with_reducible refine (light_none _ (LB.out.below (K3.out.alloc K3.out.size _) (Nat.le_refl _)) (by omega) MB.out).mono ?_); rintro e4 w4 ⟨rfl, hb4⟩; have K4 := Lib.hid (below_from (K3.out.alloc K3.out.size (.cells #[.int .u32 0, .int .i64 0] 79)) hb4 (by rw [size_alloc]; have := K3.out.size; omega)); clear hb4))
        | (go_at_call 56; go_loud ((with_reducible refine (plan_none _ (LB.out.below ((K4.out.alloc K4.out.size _).alloc (by rw [size_alloc]; have := K4.out.size; omega) _) (Nat.le_refl _)) (by omega) (evals_lit2 (Box.newAt _ _ _ _ (by rw [size_alloc])) rfl rfl (by unfold U32; decide) (by unfold U32; decide)) MB.out).mono ?_); rintro e5 w5 ⟨rfl, hb5⟩; have K5 := Lib.hid (below_from ((K4.out.alloc K4.out.size (.cells #[.int .u32 0, .int .i64 0] 79)).alloc (by rw [size_alloc]; have := K4.out.size; omega) (.cells #[.int .u32 1, .int .u64 0, .int .u64 0, .slice none 0 0, .bool false, .int .u32 2, .int .u64 0, .int .u64 0, .slice none 0 0, .bool false] 33)) hb5 (by simp only [size_alloc]; have := K4.out.size; omega)); clear hb5))
        | (go_at_call 50; go_loud ((with_reducible refine (awake17 _).mono ?_); rintro e6 w6 ⟨rfl, hb6⟩; have X6 := (Box.new w5 #[.int .u32 0, .int .u32 0] 83).below hb6 (by rw [size_alloc]; omega); have c6 := X6.cell; have z6 := X6.lt; have K6 := Lib.hid (below_from (K5.out.alloc K5.out.size (.cells #[.int .u32 0, .int .u32 0] 83)) hb6 (by rw [size_alloc]; have := K5.out.size; omega)); clear hb6 X6)))
      go_ret
      exact ⟨by first | rfl | simp, below_from HW.out K6.out HW.out.size⟩

theorem wBalanceRefuses (W : World) (vs : List Value) (h : Sh.Args W (· < W.heap.size) [((.sl (.st (.pair (.int .u32) (.pair (.int .i64) .unit))) 16), 74), ((.int .i64), 3), ((.int .u32), 22)] vs) :
    Calls Try.prog 14 vs.toArray W fun e W' => e = .returned (.bool true) ∧ Below W.heap.size W W' := by
  obtain ⟨_, _, rfl, ⟨a, ha⟩, _, _, rfl, ⟨b, hb⟩, _, _, rfl, ⟨c, hc⟩, rfl⟩ := h
  obtain ⟨l, A, n, cap, rfl, hi⟩ := lds_open ha
  obtain ⟨n1, rfl, w1⟩ := int_open hb
  obtain ⟨n2, rfl, w2⟩ := int_open hc
  have := bounds_u32 w2
  exact wBalanceRefuses0 W n1 n2 hi this.1 this.2
end Go.Proofs.Ytjniholnmjafeaa
