/- Plan, the program's and the references': who moves where. Conditions: the loads and the shelf's values read so, no more than a thousand loads. -/
import Derived.Test.YtjniholnmjafeaaBalHeavy
import Derived.RegionTactic
import Derived.BigRegion
import Derived.Deep.DeepCutAuto
namespace Go.Proofs.Ytjniholnmjafeaa
open Go.RowKit Go.ChangeShapes
set_option maxRecDepth 100000
set_option linter.unusedVariables false
set_option linter.unusedSimpArgs false

/-- A slice of entries of which the values are read. -/
def EVals (w : World) (A : Option Addr) (n cap : Nat) (vs : List Int) : Prop :=
  vs.length = n ∧ n ≤ cap ∧ cap ≤ 9223372036854775807 ∧ (∀ v ∈ vs, U32 v) ∧ (0 < n → ∃ b off, A = some ⟨b, off, none⟩ ∧ b < w.heap.size ∧ ∀ j v, vs[j]? = some v → w.cell? ⟨b, off + j * 5, none⟩ = some (.int .u32 v))
theorem EVals.below {w w' : World} {A : Option Addr} {n cap : Nat} {vs : List Int} {B : Nat} (h : EVals w A n cap vs) (hb : Below B w w') (hB : w.heap.size ≤ B) : EVals w' A n cap vs := by
  obtain ⟨h1, h2, h3, h6, h7⟩ := h
  refine ⟨h1, h2, h3, h6, fun hn => ?_⟩
  obtain ⟨b, off, rfl, hd, hc⟩ := h7 hn
  exact ⟨b, off, rfl, Nat.lt_of_lt_of_le hd hb.size, fun j x hx => (hb.cell (p := ⟨b, off + j * 5, none⟩) (Nat.lt_of_lt_of_le hd hB)).trans (hc j x hx)⟩

theorem plan_may {l : List Ld} {vs : List Int} (h : mayF l = false) : planF l vs = (0, 0, 1) := by unfold planF; rw [if_pos h]
theorem plan_even {l : List Ld} {vs : List Int} (h : mayF l = true) (h2 : (heavyF l).2 = false ∨ (lightF l).2 = false ∨ vs.length < 2) : planF l vs = (0, 0, 20) := by
  unfold planF; rw [if_neg (by rw [h]; simp), if_pos h2]
theorem plan_there {l : List Ld} {vs : List Int} {v : Int} (h : mayF l = true) (h2 : (heavyF l).2 = true) (h3 : (lightF l).2 = true) (h4 : ¬ vs.length < 2) (hv : vs[vs.length / 2]? = some v) :
    planF l vs = if v = (heavyF l).1.pt then (0, 0, 20) else ((lightF l).1.pt, v, 0) := by
  unfold planF; rw [if_neg (by rw [h]; simp), if_neg (by rw [h2, h3]; simp; omega), List.getD_eq_getElem?_getD, hv]; rfl

set_option maxHeartbeats 1000000 in
theorem bal_plan {A : Option Addr} {n cap : Nat} {l : List Ld} {B : Option Addr} {m c2 : Nat} {vs : List Int} (w : World) (h : Lds w A n cap l) (hn : n ≤ 1000) (hv : EVals w B m c2 vs) :
    Calls Try.prog 56 #[.slice A n cap, .slice B m c2] w fun e w' => e = .returned (.tuple #[.agg #[.int .u32 (planF l vs).1, .int .u32 (planF l vs).2.1], .int .i64 (planF l vs).2.2]) ∧ Below w.heap.size w w' := by
  have HH := Lib.hid h
  have HV := Lib.hid hv
  have HM := Lib.hid hv.1
  have bm : m ≤ 9223372036854775807 := by have := hv.2.1; have := hv.2.2.1; omega
  clear h hv
  cases hm : mayF l with
  | false =>
    have C0 := fun (w : World) (h : Lds w A n cap l) => bal_may w h
    simp only [hm] at C0
    have C1 := Lib.hid C0
    have hf := Lib.hid (plan_may (vs := vs) hm)
    clear C0 hm
    rw [hf.out]
    go_enter Try.func56, Try.ntmps56
    go_wp2_with (go_at_call 80; (with_reducible refine (C1.out _ (HH.out.same (below_a1 w _))).mono ?_); rintro e1 w1 ⟨rfl, hb⟩; have X4 := (Box.new w #[.int .u32 0, .int .u32 0] 83).below hb (by rw [size_alloc]; omega); have c4 := X4.cell; have f4 := X4.free; have z4 := X4.lt; have HB := Lib.hid ((below_a1 w _).trans (hb.mono (by rw [size_alloc]; omega))); clear hb X4)
    exact bodyPost_ret (v := .tuple #[.agg #[.int .u32 0, .int .u32 0], .int .i64 1]) (by simp [results, Try.results56, go_sem, c4, f4]) rfl ⟨rfl, (HB.out.setCell (by exact Nat.le_refl _) _).setCell (by exact Nat.le_refl _) _⟩
  | true =>
    have PE := Lib.hid (plan_even (vs := vs) hm)
    have PT := Lib.hid (fun v => plan_there (vs := vs) (v := v) hm)
    have C0 := fun (w : World) (h : Lds w A n cap l) => bal_may w h
    simp only [hm] at C0
    have C1 := Lib.hid C0
    clear C0 hm
    have C0 := fun (w : World) (h : Lds w A n cap l) => bal_heavy w h hn
    have D0 := fun (w : World) (h : Lds w A n cap l) => bal_light w h hn
    have C2 := Lib.hid C0
    have C3 := Lib.hid D0
    clear C0 D0
    generalize heavyF l = hh at *
    generalize lightF l = ll at *
    obtain ⟨⟨hp, he⟩, hb⟩ := hh
    obtain ⟨⟨lp, le⟩, lb⟩ := ll
    dsimp only at *
    go_enter Try.func56, Try.ntmps56
    go_upto_region 5 with (first
      | (go_at_call 80; (with_reducible refine (C1.out _ (HH.out.same (below_a1 w _))).mono ?_); rintro e1 w1 ⟨rfl, hb1⟩; have X4 := Lib.hid ((Box.new w #[.int .u32 0, .int .u32 0] 83).below hb1 (by rw [size_alloc]; omega)); have HB1 := Lib.hid ((below_a1 w _).trans (hb1.mono (by rw [size_alloc]; omega))); clear hb1)
      | (go_at_call 52; (with_reducible refine (C2.out _ (HH.out.below HB1.out (Nat.le_refl _))).mono ?_); rintro e1 w2 ⟨rfl, hb1⟩; have Y4 := Lib.hid (X4.out.below hb1 X4.out.lt); have HB2 := Lib.hid (below_from HB1.out hb1 HB1.out.size); clear hb1)
      | (go_at_call 54; (with_reducible refine (C3.out _ (HH.out.below (HB2.out.alloc HB2.out.size _) (Nat.le_refl _))).mono ?_); rintro e1 w3 ⟨rfl, hb1⟩; have Z4 := Lib.hid ((Y4.out.alloc _).below hb1 (by rw [size_alloc]; have := Y4.out.lt; omega)); have Z6 := Lib.hid ((Box.new w2 #[.int .u32 hp, .int .i64 he] 79).below hb1 (by rw [size_alloc]; omega)); have HB3 := Lib.hid (below_from (HB2.out.alloc HB2.out.size (.cells #[.int .u32 hp, .int .i64 he] 79)) hb1 (by rw [size_alloc]; have := HB2.out.size; omega)); clear hb1))
    refine wp_abs (fun wx => Box wx w.heap.size #[.int .u32 0, .int .u32 0] ∧ Box wx w2.heap.size #[.int .u32 hp, .int .i64 he] ∧ Box wx w3.heap.size #[.int .u32 lp, .int .i64 le] ∧ Below w.heap.size w wx) ⟨Z4.out.alloc _, Z6.out.alloc _, Box.new _ _ _, HB3.out.alloc HB3.out.size _⟩ ?_
    have g6 := HB2.out.size
    have g8 := HB3.out.size
    clear X4 Y4 Z4 Z6 HB1 HB2 HB3
    generalize w2.heap.size = b6 at *
    generalize w3.heap.size = b8 at *
    rintro wx ⟨V4, V6, V8, HBx⟩
    have c4 := V4.cell; have f4 := V4.free; have z4 := V4.lt
    have c6 := V6.cell; have c8 := V8.cell
    have HBX := Lib.hid HBx
    have VX := Lib.hid (HV.out.below HBx (Nat.le_refl _))
    clear V4 V6 V8 HBx C1 C2 C3
    by_cases hm2 : m < 2
    · have hf := Lib.hid (PE.out (.inr (.inr (by rw [HM.out]; exact hm2))))
      have hd2 : decide ((m : Int) < 2) = true := by simp; omega
      clear PE PT
      cases hb <;> cases lb
      all_goals
        go_wp2
        skip
        go_wp2
        exact bodyPost_ret (v := .tuple #[.agg #[.int .u32 0, .int .u32 0], .int .i64 20]) (by simp [results, Try.results56, go_sem, c4, f4]) rfl ⟨by rw [hf.out], by first | exact (HBX.out.setCell (by exact Nat.le_refl _) _).setCell (by exact Nat.le_refl _) _ | exact ((belowN HBX.out _).setCell (by exact Nat.le_refl _) _).setCell (by exact Nat.le_refl _) _⟩
    · obtain ⟨b, off, rfl, hbx, hcell⟩ := VX.out.2.2.2.2 (by omega)
      obtain ⟨v, hv⟩ : ∃ v, vs[m / 2]? = some v := ⟨_, List.getElem?_eq_getElem (by rw [HM.out]; omega)⟩
      have hc := hcell _ v hv
      obtain ⟨v0, v1⟩ := VX.out.2.2.2.1 v (List.mem_of_getElem? hv)
      rw [← HM.out] at hv
      have PV := Lib.hid (fun h1 h2 => PT.out v h1 h2 (by rw [HM.out]; exact hm2) hv)
      clear hcell hv PT
      have hdiv : m / 2 < m := by omega
      have hd2 : decide ((m : Int) < 2) = false := by simp; omega
      have hq : IntKind.i64.wrap ((m : Int).tdiv 2) = ((m / 2 : Nat) : Int) := by
        rw [Int.tdiv_eq_ediv_of_nonneg (by omega)]; simp [IntKind.wrap, IntKind.bits, IntKind.signed]; omega
      by_cases hbl : hb = true ∧ lb = true
      · obtain ⟨rfl, rfl⟩ := hbl
        by_cases hvp : v = hp
        · have hf := Lib.hid ((PV.out rfl rfl).trans (if_pos hvp))
          subst hvp
          go_wp2
          skip
          go_wp2
          exact bodyPost_ret (v := .tuple #[.agg #[.int .u32 0, .int .u32 0], .int .i64 20]) (by simp [results, Try.results56, go_sem, c4, f4]) rfl ⟨by rw [hf.out], by first | exact (HBX.out.setCell (by exact Nat.le_refl _) _).setCell (by exact Nat.le_refl _) _ | exact ((belowN HBX.out _).setCell (by exact Nat.le_refl _) _).setCell (by exact Nat.le_refl _) _⟩
        · have hf := Lib.hid ((PV.out rfl rfl).trans (if_neg hvp))
          have hvq : (v == hp) = false := by rw [beq_eq_false_iff_ne]; exact hvp
          clear PV PE
          go_wp2
          skip
          go_wp2
          skip
          all_goals
            go_wp2
            exact bodyPost_ret (v := .tuple #[.agg #[.int .u32 lp, .int .u32 v], .int .i64 0]) (by simp [results, Try.results56, go_sem, c4, f4]) rfl ⟨by rw [hf.out], by first | exact (HBX.out.setCell (by exact Nat.le_refl _) _).setCell (by exact Nat.le_refl _) _ | exact ((belowN HBX.out _).setCell (by exact Nat.le_refl _) _).setCell (by exact Nat.le_refl _) _ | exact ((belowN HBX.out _).drew.setCell (by exact Nat.le_refl _) _).setCell (by exact Nat.le_refl _) _⟩
      · have hf := Lib.hid (PE.out (by cases hb <;> cases lb <;> simp_all))
        clear PE PV
        cases hb <;> cases lb
        all_goals try (exfalso; exact hbl ⟨rfl, rfl⟩)
        all_goals
          clear hbl
          go_wp2
          skip
          go_wp2
          exact bodyPost_ret (v := .tuple #[.agg #[.int .u32 0, .int .u32 0], .int .i64 20]) (by simp [results, Try.results56, go_sem, c4, f4]) rfl ⟨by rw [hf.out], by first | exact (HBX.out.setCell (by exact Nat.le_refl _) _).setCell (by exact Nat.le_refl _) _ | exact ((belowN HBX.out _).setCell (by exact Nat.le_refl _) _).setCell (by exact Nat.le_refl _) _⟩
set_option maxHeartbeats 1000000 in
theorem bal_rplan {A : Option Addr} {n cap : Nat} {l : List Ld} {B : Option Addr} {m c2 : Nat} {vs : List Int} (w : World) (h : Lds w A n cap l) (hn : n ≤ 1000) (hv : EVals w B m c2 vs) :
    Calls Try.prog 57 #[.slice A n cap, .slice B m c2] w fun e w' => e = .returned (.tuple #[.agg #[.int .u32 (planF l vs).1, .int .u32 (planF l vs).2.1], .int .i64 (planF l vs).2.2]) ∧ Below w.heap.size w w' := by
  have HH := Lib.hid h
  have HV := Lib.hid hv
  have HM := Lib.hid hv.1
  have bm : m ≤ 9223372036854775807 := by have := hv.2.1; have := hv.2.2.1; omega
  clear h hv
  cases hm : mayF l with
  | false =>
    have C0 := fun (w : World) (h : Lds w A n cap l) => bal_rmay w h
    simp only [hm] at C0
    have C1 := Lib.hid C0
    have hf := Lib.hid (plan_may (vs := vs) hm)
    clear C0 hm
    rw [hf.out]
    go_enter Try.func57, Try.ntmps57
    go_wp2_with (go_at_call 81; (with_reducible refine (C1.out _ (HH.out.same (below_a1 w _))).mono ?_); rintro e1 w1 ⟨rfl, hb⟩; have X4 := (Box.new w #[.int .u32 0, .int .u32 0] 83).below hb (by rw [size_alloc]; omega); have c4 := X4.cell; have f4 := X4.free; have z4 := X4.lt; have HB := Lib.hid ((below_a1 w _).trans (hb.mono (by rw [size_alloc]; omega))); clear hb X4)
    exact bodyPost_ret (v := .tuple #[.agg #[.int .u32 0, .int .u32 0], .int .i64 1]) (by simp [results, Try.results57, go_sem, c4, f4]) rfl ⟨rfl, (HB.out.setCell (by exact Nat.le_refl _) _).setCell (by exact Nat.le_refl _) _⟩
  | true =>
    have PE := Lib.hid (plan_even (vs := vs) hm)
    have PT := Lib.hid (fun v => plan_there (vs := vs) (v := v) hm)
    have C0 := fun (w : World) (h : Lds w A n cap l) => bal_rmay w h
    simp only [hm] at C0
    have C1 := Lib.hid C0
    clear C0 hm
    have C0 := fun (w : World) (h : Lds w A n cap l) => bal_rheavy w h hn
    have D0 := fun (w : World) (h : Lds w A n cap l) => bal_rlight w h hn
    have C2 := Lib.hid C0
    have C3 := Lib.hid D0
    clear C0 D0
    generalize heavyF l = hh at *
    generalize lightF l = ll at *
    obtain ⟨⟨hp, he⟩, hb⟩ := hh
    obtain ⟨⟨lp, le⟩, lb⟩ := ll
    dsimp only at *
    go_enter Try.func57, Try.ntmps57
    go_upto_region 5 with (first
      | (go_at_call 81; (with_reducible refine (C1.out _ (HH.out.same (below_a1 w _))).mono ?_); rintro e1 w1 ⟨rfl, hb1⟩; have X4 := Lib.hid ((Box.new w #[.int .u32 0, .int .u32 0] 83).below hb1 (by rw [size_alloc]; omega)); have HB1 := Lib.hid ((below_a1 w _).trans (hb1.mono (by rw [size_alloc]; omega))); clear hb1)
      | (go_at_call 53; (with_reducible refine (C2.out _ (HH.out.below HB1.out (Nat.le_refl _))).mono ?_); rintro e1 w2 ⟨rfl, hb1⟩; have Y4 := Lib.hid (X4.out.below hb1 X4.out.lt); have HB2 := Lib.hid (below_from HB1.out hb1 HB1.out.size); clear hb1)
      | (go_at_call 55; (with_reducible refine (C3.out _ (HH.out.below (HB2.out.alloc HB2.out.size _) (Nat.le_refl _))).mono ?_); rintro e1 w3 ⟨rfl, hb1⟩; have Z4 := Lib.hid ((Y4.out.alloc _).below hb1 (by rw [size_alloc]; have := Y4.out.lt; omega)); have Z6 := Lib.hid ((Box.new w2 #[.int .u32 hp, .int .i64 he] 79).below hb1 (by rw [size_alloc]; omega)); have HB3 := Lib.hid (below_from (HB2.out.alloc HB2.out.size (.cells #[.int .u32 hp, .int .i64 he] 79)) hb1 (by rw [size_alloc]; have := HB2.out.size; omega)); clear hb1))
    refine wp_abs (fun wx => Box wx w.heap.size #[.int .u32 0, .int .u32 0] ∧ Box wx w2.heap.size #[.int .u32 hp, .int .i64 he] ∧ Box wx w3.heap.size #[.int .u32 lp, .int .i64 le] ∧ Below w.heap.size w wx) ⟨Z4.out.alloc _, Z6.out.alloc _, Box.new _ _ _, HB3.out.alloc HB3.out.size _⟩ ?_
    have g6 := HB2.out.size
    have g8 := HB3.out.size
    clear X4 Y4 Z4 Z6 HB1 HB2 HB3
    generalize w2.heap.size = b6 at *
    generalize w3.heap.size = b8 at *
    rintro wx ⟨V4, V6, V8, HBx⟩
    have c4 := V4.cell; have f4 := V4.free; have z4 := V4.lt
    have c6 := V6.cell; have c8 := V8.cell
    have HBX := Lib.hid HBx
    have VX := Lib.hid (HV.out.below HBx (Nat.le_refl _))
    clear V4 V6 V8 HBx C1 C2 C3
    by_cases hm2 : m < 2
    · have hf := Lib.hid (PE.out (.inr (.inr (by rw [HM.out]; exact hm2))))
      have hd2 : decide ((m : Int) < 2) = true := by simp; omega
      clear PE PT
      cases hb <;> cases lb
      all_goals
        go_wp2
        go_quiet (fail)
        go_wp2
        exact bodyPost_ret (v := .tuple #[.agg #[.int .u32 0, .int .u32 0], .int .i64 20]) (by simp [results, Try.results57, go_sem, c4, f4]) rfl ⟨by rw [hf.out], by first | exact (HBX.out.setCell (by exact Nat.le_refl _) _).setCell (by exact Nat.le_refl _) _ | exact ((belowN HBX.out _).setCell (by exact Nat.le_refl _) _).setCell (by exact Nat.le_refl _) _⟩
    · obtain ⟨b, off, rfl, hbx, hcell⟩ := VX.out.2.2.2.2 (by omega)
      obtain ⟨v, hv⟩ : ∃ v, vs[m / 2]? = some v := ⟨_, List.getElem?_eq_getElem (by rw [HM.out]; omega)⟩
      have hc := hcell _ v hv
      obtain ⟨v0, v1⟩ := VX.out.2.2.2.1 v (List.mem_of_getElem? hv)
      rw [← HM.out] at hv
      have PV := Lib.hid (fun h1 h2 => PT.out v h1 h2 (by rw [HM.out]; exact hm2) hv)
      clear hcell hv PT
      have hdiv : m / 2 < m := by omega
      have hd2 : decide ((m : Int) < 2) = false := by simp; omega
      have hq : IntKind.i64.wrap ((m : Int).tdiv 2) = ((m / 2 : Nat) : Int) := by
        rw [Int.tdiv_eq_ediv_of_nonneg (by omega)]; simp [IntKind.wrap, IntKind.bits, IntKind.signed]; omega
      by_cases hbl : hb = true ∧ lb = true
      · obtain ⟨rfl, rfl⟩ := hbl
        by_cases hvp : v = hp
        · have hf := Lib.hid ((PV.out rfl rfl).trans (if_pos hvp))
          subst hvp
          go_wp2
          go_quiet (fail)
          go_wp2
          exact bodyPost_ret (v := .tuple #[.agg #[.int .u32 0, .int .u32 0], .int .i64 20]) (by simp [results, Try.results57, go_sem, c4, f4]) rfl ⟨by rw [hf.out], by first | exact (HBX.out.setCell (by exact Nat.le_refl _) _).setCell (by exact Nat.le_refl _) _ | exact ((belowN HBX.out _).setCell (by exact Nat.le_refl _) _).setCell (by exact Nat.le_refl _) _⟩
        · have hf := Lib.hid ((PV.out rfl rfl).trans (if_neg hvp))
          have hvq : (v == hp) = false := by rw [beq_eq_false_iff_ne]; exact hvp
          clear PV PE
          go_wp2
          go_quiet (fail)
          go_wp2
          go_region
          all_goals
            go_wp2
            exact bodyPost_ret (v := .tuple #[.agg #[.int .u32 lp, .int .u32 v], .int .i64 0]) (by simp [results, Try.results57, go_sem, c4, f4]) rfl ⟨by rw [hf.out], by first | exact (HBX.out.setCell (by exact Nat.le_refl _) _).setCell (by exact Nat.le_refl _) _ | exact ((belowN HBX.out _).setCell (by exact Nat.le_refl _) _).setCell (by exact Nat.le_refl _) _ | exact ((belowN HBX.out _).drew.setCell (by exact Nat.le_refl _) _).setCell (by exact Nat.le_refl _) _⟩
      · have hf := Lib.hid (PE.out (by cases hb <;> cases lb <;> simp_all))
        clear PE PV
        cases hb <;> cases lb
        all_goals try (exfalso; exact hbl ⟨rfl, rfl⟩)
        all_goals
          clear hbl
          go_wp2
          go_quiet (fail)
          go_wp2
          exact bodyPost_ret (v := .tuple #[.agg #[.int .u32 0, .int .u32 0], .int .i64 20]) (by simp [results, Try.results57, go_sem, c4, f4]) rfl ⟨by rw [hf.out], by first | exact (HBX.out.setCell (by exact Nat.le_refl _) _).setCell (by exact Nat.le_refl _) _ | exact ((belowN HBX.out _).setCell (by exact Nat.le_refl _) _).setCell (by exact Nat.le_refl _) _⟩
end Go.Proofs.Ytjniholnmjafeaa
