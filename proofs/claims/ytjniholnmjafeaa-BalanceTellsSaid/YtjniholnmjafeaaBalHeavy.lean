/- Heavy and Light, the program's and the references'. Conditions: the loads read so, no more than a thousand. -/
import Derived.Test.YtjniholnmjafeaaBalMost
namespace Go.Proofs.Ytjniholnmjafeaa
open Go.RowKit Go.ChangeShapes
set_option maxRecDepth 100000
set_option linter.unusedVariables false
set_option linter.unusedSimpArgs false

theorem u64_id {x : Int} (h0 : 0 ≤ x) (h1 : x < 18446744073709551616) : IntKind.u64.wrap x = x := by simp [IntKind.wrap, IntKind.bits, IntKind.signed]; omega
theorem best_mem (F : Ld → Ld → Bool) {l : List Ld} (h : l ≠ []) : bestF F l ∈ l := by
  cases l with
  | nil => exact absurd rfl h
  | cons z r =>
    have key : ∀ (r : List Ld) (b : Ld), r.foldl (fun best y => if F y best then y else best) b = b ∨ r.foldl (fun best y => if F y best then y else best) b ∈ r := by
      intro r
      induction r with
      | nil => intro b; exact .inl rfl
      | cons y r ih =>
        intro b
        simp only [List.foldl_cons]
        rcases ih (if F y b then y else b) with h | h
        · rw [h]
          split
          · exact .inr (by simp)
          · exact .inl rfl
        · exact .inr (by simp [h])
    rcases key r z with h | h
    · exact List.mem_cons.2 (.inl h)
    · exact List.mem_cons.2 (.inr h)
theorem may_mem : ∀ {l pre : List Ld} {x : Ld}, mayGo pre l = true → x ∈ l → 0 ≤ x.en ∧ x.en ≤ 2147483647
  | [], _, _, _, h => by simp at h
  | y :: r, pre, x, hm, h => by
    rw [mayGo_step, Bool.and_eq_true] at hm
    rcases List.mem_cons.1 h with rfl | h
    · have := hm.1
      unfold okAt at this
      simp only [Bool.and_eq_true, decide_eq_true_eq] at this
      exact this.1
    · exact may_mem hm.2 h
theorem first_cases (F : Ld → Ld → Bool) (l : List Ld) : firstF F l = (⟨0, 0⟩, false) ∨ (firstF F l = (bestF F l, true) ∧ 0 ≤ (bestF F l).en ∧ (bestF F l).en ≤ 2147483647 ∧ bestF F l ∈ l) := by
  unfold firstF
  by_cases h : l = [] ∨ mayF l = false
  · rw [if_pos h]; exact .inl rfl
  · rw [if_neg h]
    have h1 : l ≠ [] := fun e => h (.inl e)
    have h2 : mayF l = true := by cases hm : mayF l with | true => rfl | false => exact absurd (.inr hm) h
    have := may_mem h2 (best_mem F h1)
    exact .inr ⟨rfl, this.1, this.2, best_mem F h1⟩

set_option maxHeartbeats 1000000 in
theorem bal_heavy {A : Option Addr} {n cap : Nat} {l : List Ld} (w : World) (h : Lds w A n cap l) (hn : n ≤ 1000) :
    Calls Try.prog 52 #[.slice A n cap] w fun e w' => e = .returned (.tuple #[.agg #[.int .u32 (heavyF l).1.pt, .int .i64 (heavyF l).1.en], .bool (heavyF l).2]) ∧ Below w.heap.size w w' := by
  have HH := Lib.hid h
  have HL := Lib.hid h.1
  have h6 := Lib.hid h.2.2.2.2.2.1
  clear h
  rcases first_cases moreF l with hA | ⟨hA, e0, e1, hmem⟩
  · have C0 := fun (w : World) (h : Lds w A n cap l) => bal_first_more w h
    simp only [hA] at C0
    have C1 := Lib.hid C0
    clear C0
    have hf := Lib.hid (show heavyF l = (⟨0, 0⟩, false) by unfold heavyF; rw [hA]; simp)
    clear hA
    rw [hf.out]
    go_enter Try.func52, Try.ntmps52
    go_wp2_with (go_at_call 75; (with_reducible refine (C1.out _ (HH.out.same (below_a1 w _))).mono ?_); rintro e w1 ⟨rfl, hb⟩; have X2 := (Box.new w #[.int .u32 0, .int .i64 0] 79).below hb (by rw [size_alloc]; omega); have HB := Lib.hid ((below_a1 w _).trans (hb.mono (by rw [size_alloc]; omega))); have X2' := Lib.hid X2; clear hb X2)
    refine wp_abs (fun wx => Box wx w.heap.size #[.int .u32 0, .int .i64 0] ∧ Below w.heap.size w wx) ⟨X2'.out.alloc _, HB.out.alloc HB.out.size _⟩ ?_
    rintro wx ⟨Y2, HBx⟩
    have c2 := Y2.cell
    have f2 := Y2.free
    have HBX := Lib.hid HBx
    clear HBx HB X2' Y2
    go_quiet (fail)
    go_wp2
    exact bodyPost_ret (v := .tuple #[.agg #[.int .u32 0, .int .i64 0], .bool false]) (by simp [results, Try.results52, go_sem, c2, f2]) rfl ⟨rfl, ((belowN HBX.out _).setCell (by exact Nat.le_refl _) _).setCell (by exact Nat.le_refl _) _⟩
  · have C0 := fun (w : World) (h : Lds w A n cap l) => bal_first_more w h
    simp only [hA] at C0
    have C1 := Lib.hid C0
    clear C0
    have ⟨m0, m1⟩ := mean_bd (l := l) (by rw [HL.out]; exact hn)
    have hb0 := h6.out _ hmem
    generalize hx : bestF moreF l = x at *
    obtain ⟨p, e⟩ := x
    obtain ⟨⟨p0, p1⟩, _⟩ := hb0
    dsimp only at *
    have hf : heavyF l = if e * 256 ≤ 2 * meanF l then (⟨0, 0⟩, false) else (⟨p, e⟩, true) := by unfold heavyF; rw [hA]; simp
    have HF := Lib.hid hf
    clear hf hx hA
    clear hmem
    by_cases hc : e * 256 ≤ 2 * meanF l
    · go_enter Try.func52, Try.ntmps52
      go_wp2_with (go_at_call 75; (with_reducible refine (C1.out _ (HH.out.same (below_a1 w _))).mono ?_); rintro e1 w1 ⟨rfl, hb⟩; have X2 := Lib.hid ((Box.new w #[.int .u32 0, .int .i64 0] 79).below hb (by rw [size_alloc]; omega)); have HB := Lib.hid ((below_a1 w _).trans (hb.mono (by rw [size_alloc]; omega))); clear hb)
      have hw1 := HB.out.size
      refine wp_abs (fun wx => Box wx w.heap.size #[.int .u32 0, .int .i64 0] ∧ Box wx w1.heap.size #[.int .u32 p, .int .i64 e] ∧ Below w.heap.size w wx) ⟨X2.out.alloc _, Box.new _ _ _, HB.out.alloc HB.out.size _⟩ ?_
      generalize w1.heap.size = b4 at *
      rintro wx ⟨Y2, Y4, HBx⟩
      have HBX := Lib.hid HBx
      have LX := Lib.hid (HH.out.below HBx (Nat.le_refl _))
      have Z2 := Lib.hid Y2
      have c4 := Y4.cell
      have z4 := Y4.lt
      have Z4 := Lib.hid Y4
      clear HBx HB X2 Y2 Y4
      have v1 : IntKind.u64.wrap e = e := u64_id (by omega) (by omega)
      have v2 : IntKind.u64.wrap (e * 256) = e * 256 := u64_id (by omega) (by omega)
      have v3 : IntKind.u64.wrap (e * 512) = e * 512 := u64_id (by omega) (by omega)
      have v4 : IntKind.u64.wrap (2 * meanF l) = 2 * meanF l := u64_id (by omega) (by omega)
      have v5 : IntKind.u64.wrap (256 * e) = e * 256 := by rw [Int.mul_comm]; exact v2
      have v6 : IntKind.u64.wrap (512 * e) = e * 512 := by rw [Int.mul_comm]; exact v3
      go_region_held3 (fun w' => Same wx w') (first | exact Same.drew _ | assumption)
        ((go_at_call 77; (refine (bal_mean _ (LX.out.below (show Same wx _ by (first | exact Same.drew _ | assumption)).1 (Nat.le_refl _)) hn).mono ?_); rintro e2 w2 ⟨rfl, hb2⟩; have S1 := Same.step (by first | exact Same.drew _ | assumption) hb2; clear hb2))
      clear v1 v2 v3 v4 v5 v6
      have W2 := Lib.hid (Z2.out.same S1)
      have c2 := W2.out.cell
      have f2 := W2.out.free
      have BB := Lib.hid (below_from HBX.out S1.1 HBX.out.size)
      go_wp2
      exact bodyPost_ret (v := .tuple #[.agg #[.int .u32 0, .int .i64 0], .bool false]) (by simp [results, Try.results52, go_sem, c2, f2]) rfl ⟨by rw [HF.out, if_pos hc], (BB.out.setCell (by exact Nat.le_refl _) _).setCell (by exact Nat.le_refl _) _⟩
    · go_enter Try.func52, Try.ntmps52
      go_wp2_with (go_at_call 75; (with_reducible refine (C1.out _ (HH.out.same (below_a1 w _))).mono ?_); rintro e1 w1 ⟨rfl, hb⟩; have X2 := Lib.hid ((Box.new w #[.int .u32 0, .int .i64 0] 79).below hb (by rw [size_alloc]; omega)); have HB := Lib.hid ((below_a1 w _).trans (hb.mono (by rw [size_alloc]; omega))); clear hb)
      have hw1 := HB.out.size
      refine wp_abs (fun wx => Box wx w.heap.size #[.int .u32 0, .int .i64 0] ∧ Box wx w1.heap.size #[.int .u32 p, .int .i64 e] ∧ Below w.heap.size w wx) ⟨X2.out.alloc _, Box.new _ _ _, HB.out.alloc HB.out.size _⟩ ?_
      generalize w1.heap.size = b4 at *
      rintro wx ⟨Y2, Y4, HBx⟩
      have HBX := Lib.hid HBx
      have LX := Lib.hid (HH.out.below HBx (Nat.le_refl _))
      have Z2 := Lib.hid Y2
      have c4 := Y4.cell
      have z4 := Y4.lt
      have Z4 := Lib.hid Y4
      clear HBx HB X2 Y2 Y4
      have v1 : IntKind.u64.wrap e = e := u64_id (by omega) (by omega)
      have v2 : IntKind.u64.wrap (e * 256) = e * 256 := u64_id (by omega) (by omega)
      have v3 : IntKind.u64.wrap (e * 512) = e * 512 := u64_id (by omega) (by omega)
      have v4 : IntKind.u64.wrap (2 * meanF l) = 2 * meanF l := u64_id (by omega) (by omega)
      have v5 : IntKind.u64.wrap (256 * e) = e * 256 := by rw [Int.mul_comm]; exact v2
      have v6 : IntKind.u64.wrap (512 * e) = e * 512 := by rw [Int.mul_comm]; exact v3
      go_region_held3 (fun w' => Same wx w') (first | exact Same.drew _ | assumption)
        ((go_at_call 77; (refine (bal_mean _ (LX.out.below (show Same wx _ by (first | exact Same.drew _ | assumption)).1 (Nat.le_refl _)) hn).mono ?_); rintro e2 w2 ⟨rfl, hb2⟩; have S1 := Same.step (by first | exact Same.drew _ | assumption) hb2; clear hb2))
      clear v1 v2 v3 v4 v5 v6
      have W2 := Lib.hid (Z2.out.same S1)
      have c2 := W2.out.cell
      have f2 := W2.out.free
      have BB := Lib.hid (below_from HBX.out S1.1 HBX.out.size)
      go_wp2
      exact bodyPost_ret (v := .tuple #[.agg #[.int .u32 p, .int .i64 e], .bool true]) (by simp [results, Try.results52, go_sem, c2, f2]) rfl ⟨by rw [HF.out, if_neg (by omega)], (BB.out.setCell (by exact Nat.le_refl _) _).setCell (by exact Nat.le_refl _) _⟩
set_option maxHeartbeats 1000000 in
theorem bal_rheavy {A : Option Addr} {n cap : Nat} {l : List Ld} (w : World) (h : Lds w A n cap l) (hn : n ≤ 1000) :
    Calls Try.prog 53 #[.slice A n cap] w fun e w' => e = .returned (.tuple #[.agg #[.int .u32 (heavyF l).1.pt, .int .i64 (heavyF l).1.en], .bool (heavyF l).2]) ∧ Below w.heap.size w w' := by
  have HH := Lib.hid h
  have HL := Lib.hid h.1
  have h6 := Lib.hid h.2.2.2.2.2.1
  clear h
  rcases first_cases moreF l with hA | ⟨hA, e0, e1, hmem⟩
  · have C0 := fun (w : World) (h : Lds w A n cap l) => bal_most_more w h
    simp only [hA] at C0
    have C1 := Lib.hid C0
    clear C0
    have hf := Lib.hid (show heavyF l = (⟨0, 0⟩, false) by unfold heavyF; rw [hA]; simp)
    clear hA
    rw [hf.out]
    go_enter Try.func53, Try.ntmps53
    go_wp2_with (go_at_call 78; (with_reducible refine (C1.out _ (HH.out.same (below_a1 w _))).mono ?_); rintro e w1 ⟨rfl, hb⟩; have X2 := (Box.new w #[.int .u32 0, .int .i64 0] 79).below hb (by rw [size_alloc]; omega); have HB := Lib.hid ((below_a1 w _).trans (hb.mono (by rw [size_alloc]; omega))); have X2' := Lib.hid X2; clear hb X2)
    refine wp_abs (fun wx => Box wx w.heap.size #[.int .u32 0, .int .i64 0] ∧ Below w.heap.size w wx) ⟨X2'.out.alloc _, HB.out.alloc HB.out.size _⟩ ?_
    rintro wx ⟨Y2, HBx⟩
    have c2 := Y2.cell
    have f2 := Y2.free
    have HBX := Lib.hid HBx
    clear HBx HB X2' Y2
    go_quiet (fail)
    go_wp2
    exact bodyPost_ret (v := .tuple #[.agg #[.int .u32 0, .int .i64 0], .bool false]) (by simp [results, Try.results53, go_sem, c2, f2]) rfl ⟨rfl, ((belowN HBX.out _).setCell (by exact Nat.le_refl _) _).setCell (by exact Nat.le_refl _) _⟩
  · have C0 := fun (w : World) (h : Lds w A n cap l) => bal_most_more w h
    simp only [hA] at C0
    have C1 := Lib.hid C0
    clear C0
    have ⟨m0, m1⟩ := mean_bd (l := l) (by rw [HL.out]; exact hn)
    have hb0 := h6.out _ hmem
    generalize hx : bestF moreF l = x at *
    obtain ⟨p, e⟩ := x
    obtain ⟨⟨p0, p1⟩, _⟩ := hb0
    dsimp only at *
    have hf : heavyF l = if e * 256 ≤ 2 * meanF l then (⟨0, 0⟩, false) else (⟨p, e⟩, true) := by unfold heavyF; rw [hA]; simp
    have HF := Lib.hid hf
    clear hf hx hA
    clear hmem
    by_cases hc : e * 256 ≤ 2 * meanF l
    · go_enter Try.func53, Try.ntmps53
      go_wp2_with (go_at_call 78; (with_reducible refine (C1.out _ (HH.out.same (below_a1 w _))).mono ?_); rintro e1 w1 ⟨rfl, hb⟩; have X2 := Lib.hid ((Box.new w #[.int .u32 0, .int .i64 0] 79).below hb (by rw [size_alloc]; omega)); have HB := Lib.hid ((below_a1 w _).trans (hb.mono (by rw [size_alloc]; omega))); clear hb)
      have hw1 := HB.out.size
      refine wp_abs (fun wx => Box wx w.heap.size #[.int .u32 0, .int .i64 0] ∧ Box wx w1.heap.size #[.int .u32 p, .int .i64 e] ∧ Below w.heap.size w wx) ⟨X2.out.alloc _, Box.new _ _ _, HB.out.alloc HB.out.size _⟩ ?_
      generalize w1.heap.size = b4 at *
      rintro wx ⟨Y2, Y4, HBx⟩
      have HBX := Lib.hid HBx
      have LX := Lib.hid (HH.out.below HBx (Nat.le_refl _))
      have Z2 := Lib.hid Y2
      have c4 := Y4.cell
      have z4 := Y4.lt
      have Z4 := Lib.hid Y4
      clear HBx HB X2 Y2 Y4
      have v1 : IntKind.u64.wrap e = e := u64_id (by omega) (by omega)
      have v2 : IntKind.u64.wrap (e * 256) = e * 256 := u64_id (by omega) (by omega)
      have v3 : IntKind.u64.wrap (e * 512) = e * 512 := u64_id (by omega) (by omega)
      have v4 : IntKind.u64.wrap (2 * meanF l) = 2 * meanF l := u64_id (by omega) (by omega)
      have v5 : IntKind.u64.wrap (256 * e) = e * 256 := by rw [Int.mul_comm]; exact v2
      have v6 : IntKind.u64.wrap (512 * e) = e * 512 := by rw [Int.mul_comm]; exact v3
      go_region_held3 (fun w' => Same wx w') (first | exact Same.drew _ | assumption)
        ((go_at_call 59; (refine (bal_rmean _ (LX.out.below (show Same wx _ by (first | exact Same.drew _ | assumption)).1 (Nat.le_refl _)) hn).mono ?_); rintro e2 w2 ⟨rfl, hb2⟩; have S1 := Same.step (by first | exact Same.drew _ | assumption) hb2; clear hb2))
      clear v1 v2 v3 v4 v5 v6
      have W2 := Lib.hid (Z2.out.same S1)
      have c2 := W2.out.cell
      have f2 := W2.out.free
      have BB := Lib.hid (below_from HBX.out S1.1 HBX.out.size)
      go_wp2
      exact bodyPost_ret (v := .tuple #[.agg #[.int .u32 0, .int .i64 0], .bool false]) (by simp [results, Try.results53, go_sem, c2, f2]) rfl ⟨by rw [HF.out, if_pos hc], (BB.out.setCell (by exact Nat.le_refl _) _).setCell (by exact Nat.le_refl _) _⟩
    · go_enter Try.func53, Try.ntmps53
      go_wp2_with (go_at_call 78; (with_reducible refine (C1.out _ (HH.out.same (below_a1 w _))).mono ?_); rintro e1 w1 ⟨rfl, hb⟩; have X2 := Lib.hid ((Box.new w #[.int .u32 0, .int .i64 0] 79).below hb (by rw [size_alloc]; omega)); have HB := Lib.hid ((below_a1 w _).trans (hb.mono (by rw [size_alloc]; omega))); clear hb)
      have hw1 := HB.out.size
      refine wp_abs (fun wx => Box wx w.heap.size #[.int .u32 0, .int .i64 0] ∧ Box wx w1.heap.size #[.int .u32 p, .int .i64 e] ∧ Below w.heap.size w wx) ⟨X2.out.alloc _, Box.new _ _ _, HB.out.alloc HB.out.size _⟩ ?_
      generalize w1.heap.size = b4 at *
      rintro wx ⟨Y2, Y4, HBx⟩
      have HBX := Lib.hid HBx
      have LX := Lib.hid (HH.out.below HBx (Nat.le_refl _))
      have Z2 := Lib.hid Y2
      have c4 := Y4.cell
      have z4 := Y4.lt
      have Z4 := Lib.hid Y4
      clear HBx HB X2 Y2 Y4
      have v1 : IntKind.u64.wrap e = e := u64_id (by omega) (by omega)
      have v2 : IntKind.u64.wrap (e * 256) = e * 256 := u64_id (by omega) (by omega)
      have v3 : IntKind.u64.wrap (e * 512) = e * 512 := u64_id (by omega) (by omega)
      have v4 : IntKind.u64.wrap (2 * meanF l) = 2 * meanF l := u64_id (by omega) (by omega)
      have v5 : IntKind.u64.wrap (256 * e) = e * 256 := by rw [Int.mul_comm]; exact v2
      have v6 : IntKind.u64.wrap (512 * e) = e * 512 := by rw [Int.mul_comm]; exact v3
      go_region_held3 (fun w' => Same wx w') (first | exact Same.drew _ | assumption)
        ((go_at_call 59; (refine (bal_rmean _ (LX.out.below (show Same wx _ by (first | exact Same.drew _ | assumption)).1 (Nat.le_refl _)) hn).mono ?_); rintro e2 w2 ⟨rfl, hb2⟩; have S1 := Same.step (by first | exact Same.drew _ | assumption) hb2; clear hb2))
      clear v1 v2 v3 v4 v5 v6
      have W2 := Lib.hid (Z2.out.same S1)
      have c2 := W2.out.cell
      have f2 := W2.out.free
      have BB := Lib.hid (below_from HBX.out S1.1 HBX.out.size)
      go_wp2
      exact bodyPost_ret (v := .tuple #[.agg #[.int .u32 p, .int .i64 e], .bool true]) (by simp [results, Try.results53, go_sem, c2, f2]) rfl ⟨by rw [HF.out, if_neg (by omega)], (BB.out.setCell (by exact Nat.le_refl _) _).setCell (by exact Nat.le_refl _) _⟩
set_option maxHeartbeats 1000000 in
theorem bal_light {A : Option Addr} {n cap : Nat} {l : List Ld} (w : World) (h : Lds w A n cap l) (hn : n ≤ 1000) :
    Calls Try.prog 54 #[.slice A n cap] w fun e w' => e = .returned (.tuple #[.agg #[.int .u32 (lightF l).1.pt, .int .i64 (lightF l).1.en], .bool (lightF l).2]) ∧ Below w.heap.size w w' := by
  have HH := Lib.hid h
  have HL := Lib.hid h.1
  have h6 := Lib.hid h.2.2.2.2.2.1
  clear h
  rcases first_cases lessF l with hA | ⟨hA, e0, e1, hmem⟩
  · have C0 := fun (w : World) (h : Lds w A n cap l) => bal_first_less w h
    simp only [hA] at C0
    have C1 := Lib.hid C0
    clear C0
    have hf := Lib.hid (show lightF l = (⟨0, 0⟩, false) by unfold lightF; rw [hA]; simp)
    clear hA
    rw [hf.out]
    go_enter Try.func54, Try.ntmps54
    go_wp2_with (go_at_call 75; (with_reducible refine (C1.out _ (HH.out.same (below_a1 w _))).mono ?_); rintro e w1 ⟨rfl, hb⟩; have X2 := (Box.new w #[.int .u32 0, .int .i64 0] 79).below hb (by rw [size_alloc]; omega); have HB := Lib.hid ((below_a1 w _).trans (hb.mono (by rw [size_alloc]; omega))); have X2' := Lib.hid X2; clear hb X2)
    refine wp_abs (fun wx => Box wx w.heap.size #[.int .u32 0, .int .i64 0] ∧ Below w.heap.size w wx) ⟨X2'.out.alloc _, HB.out.alloc HB.out.size _⟩ ?_
    rintro wx ⟨Y2, HBx⟩
    have c2 := Y2.cell
    have f2 := Y2.free
    have HBX := Lib.hid HBx
    clear HBx HB X2' Y2
    go_quiet (fail)
    go_wp2
    exact bodyPost_ret (v := .tuple #[.agg #[.int .u32 0, .int .i64 0], .bool false]) (by simp [results, Try.results54, go_sem, c2, f2]) rfl ⟨rfl, ((belowN HBX.out _).setCell (by exact Nat.le_refl _) _).setCell (by exact Nat.le_refl _) _⟩
  · have C0 := fun (w : World) (h : Lds w A n cap l) => bal_first_less w h
    simp only [hA] at C0
    have C1 := Lib.hid C0
    clear C0
    have ⟨m0, m1⟩ := mean_bd (l := l) (by rw [HL.out]; exact hn)
    have hb0 := h6.out _ hmem
    generalize hx : bestF lessF l = x at *
    obtain ⟨p, e⟩ := x
    obtain ⟨⟨p0, p1⟩, _⟩ := hb0
    dsimp only at *
    have hf : lightF l = if meanF l ≤ e * 512 then (⟨0, 0⟩, false) else (⟨p, e⟩, true) := by unfold lightF; rw [hA]; simp
    have HF := Lib.hid hf
    clear hf hx hA
    clear hmem
    by_cases hc : meanF l ≤ e * 512
    · go_enter Try.func54, Try.ntmps54
      go_wp2_with (go_at_call 75; (with_reducible refine (C1.out _ (HH.out.same (below_a1 w _))).mono ?_); rintro e1 w1 ⟨rfl, hb⟩; have X2 := Lib.hid ((Box.new w #[.int .u32 0, .int .i64 0] 79).below hb (by rw [size_alloc]; omega)); have HB := Lib.hid ((below_a1 w _).trans (hb.mono (by rw [size_alloc]; omega))); clear hb)
      have hw1 := HB.out.size
      refine wp_abs (fun wx => Box wx w.heap.size #[.int .u32 0, .int .i64 0] ∧ Box wx w1.heap.size #[.int .u32 p, .int .i64 e] ∧ Below w.heap.size w wx) ⟨X2.out.alloc _, Box.new _ _ _, HB.out.alloc HB.out.size _⟩ ?_
      generalize w1.heap.size = b4 at *
      rintro wx ⟨Y2, Y4, HBx⟩
      have HBX := Lib.hid HBx
      have LX := Lib.hid (HH.out.below HBx (Nat.le_refl _))
      have Z2 := Lib.hid Y2
      have c4 := Y4.cell
      have z4 := Y4.lt
      have Z4 := Lib.hid Y4
      clear HBx HB X2 Y2 Y4
      have v1 : IntKind.u64.wrap e = e := u64_id (by omega) (by omega)
      have v2 : IntKind.u64.wrap (e * 256) = e * 256 := u64_id (by omega) (by omega)
      have v3 : IntKind.u64.wrap (e * 512) = e * 512 := u64_id (by omega) (by omega)
      have v4 : IntKind.u64.wrap (2 * meanF l) = 2 * meanF l := u64_id (by omega) (by omega)
      have v5 : IntKind.u64.wrap (256 * e) = e * 256 := by rw [Int.mul_comm]; exact v2
      have v6 : IntKind.u64.wrap (512 * e) = e * 512 := by rw [Int.mul_comm]; exact v3
      go_region_held3 (fun w' => Same wx w') (first | exact Same.drew _ | assumption)
        ((go_at_call 77; (refine (bal_mean _ (LX.out.below (show Same wx _ by (first | exact Same.drew _ | assumption)).1 (Nat.le_refl _)) hn).mono ?_); rintro e2 w2 ⟨rfl, hb2⟩; have S1 := Same.step (by first | exact Same.drew _ | assumption) hb2; clear hb2))
      clear v1 v2 v3 v4 v5 v6
      have W2 := Lib.hid (Z2.out.same S1)
      have c2 := W2.out.cell
      have f2 := W2.out.free
      have BB := Lib.hid (below_from HBX.out S1.1 HBX.out.size)
      go_wp2
      exact bodyPost_ret (v := .tuple #[.agg #[.int .u32 0, .int .i64 0], .bool false]) (by simp [results, Try.results54, go_sem, c2, f2]) rfl ⟨by rw [HF.out, if_pos hc], (BB.out.setCell (by exact Nat.le_refl _) _).setCell (by exact Nat.le_refl _) _⟩
    · go_enter Try.func54, Try.ntmps54
      go_wp2_with (go_at_call 75; (with_reducible refine (C1.out _ (HH.out.same (below_a1 w _))).mono ?_); rintro e1 w1 ⟨rfl, hb⟩; have X2 := Lib.hid ((Box.new w #[.int .u32 0, .int .i64 0] 79).below hb (by rw [size_alloc]; omega)); have HB := Lib.hid ((below_a1 w _).trans (hb.mono (by rw [size_alloc]; omega))); clear hb)
      have hw1 := HB.out.size
      refine wp_abs (fun wx => Box wx w.heap.size #[.int .u32 0, .int .i64 0] ∧ Box wx w1.heap.size #[.int .u32 p, .int .i64 e] ∧ Below w.heap.size w wx) ⟨X2.out.alloc _, Box.new _ _ _, HB.out.alloc HB.out.size _⟩ ?_
      generalize w1.heap.size = b4 at *
      rintro wx ⟨Y2, Y4, HBx⟩
      have HBX := Lib.hid HBx
      have LX := Lib.hid (HH.out.below HBx (Nat.le_refl _))
      have Z2 := Lib.hid Y2
      have c4 := Y4.cell
      have z4 := Y4.lt
      have Z4 := Lib.hid Y4
      clear HBx HB X2 Y2 Y4
      have v1 : IntKind.u64.wrap e = e := u64_id (by omega) (by omega)
      have v2 : IntKind.u64.wrap (e * 256) = e * 256 := u64_id (by omega) (by omega)
      have v3 : IntKind.u64.wrap (e * 512) = e * 512 := u64_id (by omega) (by omega)
      have v4 : IntKind.u64.wrap (2 * meanF l) = 2 * meanF l := u64_id (by omega) (by omega)
      have v5 : IntKind.u64.wrap (256 * e) = e * 256 := by rw [Int.mul_comm]; exact v2
      have v6 : IntKind.u64.wrap (512 * e) = e * 512 := by rw [Int.mul_comm]; exact v3
      go_region_held3 (fun w' => Same wx w') (first | exact Same.drew _ | assumption)
        ((go_at_call 77; (refine (bal_mean _ (LX.out.below (show Same wx _ by (first | exact Same.drew _ | assumption)).1 (Nat.le_refl _)) hn).mono ?_); rintro e2 w2 ⟨rfl, hb2⟩; have S1 := Same.step (by first | exact Same.drew _ | assumption) hb2; clear hb2))
      clear v1 v2 v3 v4 v5 v6
      have W2 := Lib.hid (Z2.out.same S1)
      have c2 := W2.out.cell
      have f2 := W2.out.free
      have BB := Lib.hid (below_from HBX.out S1.1 HBX.out.size)
      go_wp2
      exact bodyPost_ret (v := .tuple #[.agg #[.int .u32 p, .int .i64 e], .bool true]) (by simp [results, Try.results54, go_sem, c2, f2]) rfl ⟨by rw [HF.out, if_neg (by omega)], (BB.out.setCell (by exact Nat.le_refl _) _).setCell (by exact Nat.le_refl _) _⟩
set_option maxHeartbeats 1000000 in
theorem bal_rlight {A : Option Addr} {n cap : Nat} {l : List Ld} (w : World) (h : Lds w A n cap l) (hn : n ≤ 1000) :
    Calls Try.prog 55 #[.slice A n cap] w fun e w' => e = .returned (.tuple #[.agg #[.int .u32 (lightF l).1.pt, .int .i64 (lightF l).1.en], .bool (lightF l).2]) ∧ Below w.heap.size w w' := by
  have HH := Lib.hid h
  have HL := Lib.hid h.1
  have h6 := Lib.hid h.2.2.2.2.2.1
  clear h
  rcases first_cases lessF l with hA | ⟨hA, e0, e1, hmem⟩
  · have C0 := fun (w : World) (h : Lds w A n cap l) => bal_most_less w h
    simp only [hA] at C0
    have C1 := Lib.hid C0
    clear C0
    have hf := Lib.hid (show lightF l = (⟨0, 0⟩, false) by unfold lightF; rw [hA]; simp)
    clear hA
    rw [hf.out]
    go_enter Try.func55, Try.ntmps55
    go_wp2_with (go_at_call 78; (with_reducible refine (C1.out _ (HH.out.same (below_a1 w _))).mono ?_); rintro e w1 ⟨rfl, hb⟩; have X2 := (Box.new w #[.int .u32 0, .int .i64 0] 79).below hb (by rw [size_alloc]; omega); have HB := Lib.hid ((below_a1 w _).trans (hb.mono (by rw [size_alloc]; omega))); have X2' := Lib.hid X2; clear hb X2)
    refine wp_abs (fun wx => Box wx w.heap.size #[.int .u32 0, .int .i64 0] ∧ Below w.heap.size w wx) ⟨X2'.out.alloc _, HB.out.alloc HB.out.size _⟩ ?_
    rintro wx ⟨Y2, HBx⟩
    have c2 := Y2.cell
    have f2 := Y2.free
    have HBX := Lib.hid HBx
    clear HBx HB X2' Y2
    go_quiet (fail)
    go_wp2
    exact bodyPost_ret (v := .tuple #[.agg #[.int .u32 0, .int .i64 0], .bool false]) (by simp [results, Try.results55, go_sem, c2, f2]) rfl ⟨rfl, ((belowN HBX.out _).setCell (by exact Nat.le_refl _) _).setCell (by exact Nat.le_refl _) _⟩
  · have C0 := fun (w : World) (h : Lds w A n cap l) => bal_most_less w h
    simp only [hA] at C0
    have C1 := Lib.hid C0
    clear C0
    have ⟨m0, m1⟩ := mean_bd (l := l) (by rw [HL.out]; exact hn)
    have hb0 := h6.out _ hmem
    generalize hx : bestF lessF l = x at *
    obtain ⟨p, e⟩ := x
    obtain ⟨⟨p0, p1⟩, _⟩ := hb0
    dsimp only at *
    have hf : lightF l = if meanF l ≤ e * 512 then (⟨0, 0⟩, false) else (⟨p, e⟩, true) := by unfold lightF; rw [hA]; simp
    have HF := Lib.hid hf
    clear hf hx hA
    clear hmem
    by_cases hc : meanF l ≤ e * 512
    · go_enter Try.func55, Try.ntmps55
      go_wp2_with (go_at_call 78; (with_reducible refine (C1.out _ (HH.out.same (below_a1 w _))).mono ?_); rintro e1 w1 ⟨rfl, hb⟩; have X2 := Lib.hid ((Box.new w #[.int .u32 0, .int .i64 0] 79).below hb (by rw [size_alloc]; omega)); have HB := Lib.hid ((below_a1 w _).trans (hb.mono (by rw [size_alloc]; omega))); clear hb)
      have hw1 := HB.out.size
      refine wp_abs (fun wx => Box wx w.heap.size #[.int .u32 0, .int .i64 0] ∧ Box wx w1.heap.size #[.int .u32 p, .int .i64 e] ∧ Below w.heap.size w wx) ⟨X2.out.alloc _, Box.new _ _ _, HB.out.alloc HB.out.size _⟩ ?_
      generalize w1.heap.size = b4 at *
      rintro wx ⟨Y2, Y4, HBx⟩
      have HBX := Lib.hid HBx
      have LX := Lib.hid (HH.out.below HBx (Nat.le_refl _))
      have Z2 := Lib.hid Y2
      have c4 := Y4.cell
      have z4 := Y4.lt
      have Z4 := Lib.hid Y4
      clear HBx HB X2 Y2 Y4
      have v1 : IntKind.u64.wrap e = e := u64_id (by omega) (by omega)
      have v2 : IntKind.u64.wrap (e * 256) = e * 256 := u64_id (by omega) (by omega)
      have v3 : IntKind.u64.wrap (e * 512) = e * 512 := u64_id (by omega) (by omega)
      have v4 : IntKind.u64.wrap (2 * meanF l) = 2 * meanF l := u64_id (by omega) (by omega)
      have v5 : IntKind.u64.wrap (256 * e) = e * 256 := by rw [Int.mul_comm]; exact v2
      have v6 : IntKind.u64.wrap (512 * e) = e * 512 := by rw [Int.mul_comm]; exact v3
      go_region_held3 (fun w' => Same wx w') (first | exact Same.drew _ | assumption)
        ((go_at_call 59; (refine (bal_rmean _ (LX.out.below (show Same wx _ by (first | exact Same.drew _ | assumption)).1 (Nat.le_refl _)) hn).mono ?_); rintro e2 w2 ⟨rfl, hb2⟩; have S1 := Same.step (by first | exact Same.drew _ | assumption) hb2; clear hb2))
      clear v1 v2 v3 v4 v5 v6
      have W2 := Lib.hid (Z2.out.same S1)
      have c2 := W2.out.cell
      have f2 := W2.out.free
      have BB := Lib.hid (below_from HBX.out S1.1 HBX.out.size)
      go_wp2
      exact bodyPost_ret (v := .tuple #[.agg #[.int .u32 0, .int .i64 0], .bool false]) (by simp [results, Try.results55, go_sem, c2, f2]) rfl ⟨by rw [HF.out, if_pos hc], (BB.out.setCell (by exact Nat.le_refl _) _).setCell (by exact Nat.le_refl _) _⟩
    · go_enter Try.func55, Try.ntmps55
      go_wp2_with (go_at_call 78; (with_reducible refine (C1.out _ (HH.out.same (below_a1 w _))).mono ?_); rintro e1 w1 ⟨rfl, hb⟩; have X2 := Lib.hid ((Box.new w #[.int .u32 0, .int .i64 0] 79).below hb (by rw [size_alloc]; omega)); have HB := Lib.hid ((below_a1 w _).trans (hb.mono (by rw [size_alloc]; omega))); clear hb)
      have hw1 := HB.out.size
      refine wp_abs (fun wx => Box wx w.heap.size #[.int .u32 0, .int .i64 0] ∧ Box wx w1.heap.size #[.int .u32 p, .int .i64 e] ∧ Below w.heap.size w wx) ⟨X2.out.alloc _, Box.new _ _ _, HB.out.alloc HB.out.size _⟩ ?_
      generalize w1.heap.size = b4 at *
      rintro wx ⟨Y2, Y4, HBx⟩
      have HBX := Lib.hid HBx
      have LX := Lib.hid (HH.out.below HBx (Nat.le_refl _))
      have Z2 := Lib.hid Y2
      have c4 := Y4.cell
      have z4 := Y4.lt
      have Z4 := Lib.hid Y4
      clear HBx HB X2 Y2 Y4
      have v1 : IntKind.u64.wrap e = e := u64_id (by omega) (by omega)
      have v2 : IntKind.u64.wrap (e * 256) = e * 256 := u64_id (by omega) (by omega)
      have v3 : IntKind.u64.wrap (e * 512) = e * 512 := u64_id (by omega) (by omega)
      have v4 : IntKind.u64.wrap (2 * meanF l) = 2 * meanF l := u64_id (by omega) (by omega)
      have v5 : IntKind.u64.wrap (256 * e) = e * 256 := by rw [Int.mul_comm]; exact v2
      have v6 : IntKind.u64.wrap (512 * e) = e * 512 := by rw [Int.mul_comm]; exact v3
      go_region_held3 (fun w' => Same wx w') (first | exact Same.drew _ | assumption)
        ((go_at_call 59; (refine (bal_rmean _ (LX.out.below (show Same wx _ by (first | exact Same.drew _ | assumption)).1 (Nat.le_refl _)) hn).mono ?_); rintro e2 w2 ⟨rfl, hb2⟩; have S1 := Same.step (by first | exact Same.drew _ | assumption) hb2; clear hb2))
      clear v1 v2 v3 v4 v5 v6
      have W2 := Lib.hid (Z2.out.same S1)
      have c2 := W2.out.cell
      have f2 := W2.out.free
      have BB := Lib.hid (below_from HBX.out S1.1 HBX.out.size)
      go_wp2
      exact bodyPost_ret (v := .tuple #[.agg #[.int .u32 p, .int .i64 e], .bool true]) (by simp [results, Try.results55, go_sem, c2, f2]) rfl ⟨by rw [HF.out, if_neg (by omega)], (BB.out.setCell (by exact Nat.le_refl _) _).setCell (by exact Nat.le_refl _) _⟩
end Go.Proofs.Ytjniholnmjafeaa
