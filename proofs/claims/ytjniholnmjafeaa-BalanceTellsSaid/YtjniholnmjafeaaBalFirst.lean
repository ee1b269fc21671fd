/- balance.first, Heavy's and Light's order: the load that stands ahead of all others. Conditions: the loads read so. -/
import Derived.Test.YtjniholnmjafeaaBalMay
import Derived.Test.YtjniholnmjafeaaBalMean
namespace Go.Proofs.Ytjniholnmjafeaa
open Go.RowKit Go.ChangeShapes
set_option maxRecDepth 100000
set_option linter.unusedVariables false
set_option linter.unusedSimpArgs false

def ldV (x : Ld) : Value := .agg #[.int .u32 x.pt, .int .i64 x.en]

theorem bal_more1 (a b c d : Int) (w : World) : Calls Try.prog 76 #[.agg #[.int .u32 a, .int .i64 b], .agg #[.int .u32 c, .int .i64 d]] w fun e w' => e = .returned (.bool (moreF ⟨a, b⟩ ⟨c, d⟩)) ∧ Below w.heap.size w w' := by
  rcases Int.lt_trichotomy b d with h | h | h
  · have hne : (b == d) = false := by rw [beq_eq_false_iff_ne]; omega
    have E := Lib.hid (show moreF ⟨a, b⟩ ⟨c, d⟩ = decide (b < d ∧ moreF ⟨0, 0⟩ ⟨0, 1⟩ = true) by unfold moreF; simp; omega)
    have h2 : ¬ d < b := by omega
    go_enter Try.func76, Try.ntmps76
    go_wp2
    go_ret
    exact ⟨by rw [E.out]; simp [h, moreF], (by repeat (first | exact Below.refl _ _ | assumption | apply Below.drew | apply belowN | (refine Below.alloc ?_ (by first | exact Nat.le_refl _ | (simp; done) | (simp; omega)) _) | (refine Below.setCell ?_ (by first | exact Nat.le_refl _ | (simp; done) | (simp; omega)) _)))⟩
  · subst h
    have E := Lib.hid (show moreF ⟨a, b⟩ ⟨c, b⟩ = decide (a < c) by unfold moreF; simp)
    go_enter Try.func76, Try.ntmps76
    go_wp2
    go_ret
    exact ⟨(by first | (rw [E.out]; done) | (rw [E.out]; rfl)), (by repeat (first | exact Below.refl _ _ | assumption | apply Below.drew | apply belowN | (refine Below.alloc ?_ (by first | exact Nat.le_refl _ | (simp; done) | (simp; omega)) _) | (refine Below.setCell ?_ (by first | exact Nat.le_refl _ | (simp; done) | (simp; omega)) _)))⟩
  · have hne : (b == d) = false := by rw [beq_eq_false_iff_ne]; omega
    have E := Lib.hid (show moreF ⟨a, b⟩ ⟨c, d⟩ = decide (d < b ∧ moreF ⟨0, 1⟩ ⟨0, 0⟩ = true) by unfold moreF; simp; omega)
    have h2 : ¬ b < d := by omega
    go_enter Try.func76, Try.ntmps76
    go_wp2
    go_ret
    exact ⟨by rw [E.out]; simp [h, moreF], (by repeat (first | exact Below.refl _ _ | assumption | apply Below.drew | apply belowN | (refine Below.alloc ?_ (by first | exact Nat.le_refl _ | (simp; done) | (simp; omega)) _) | (refine Below.setCell ?_ (by first | exact Nat.le_refl _ | (simp; done) | (simp; omega)) _)))⟩
theorem bal_less1 (a b c d : Int) (w : World) : Calls Try.prog 79 #[.agg #[.int .u32 a, .int .i64 b], .agg #[.int .u32 c, .int .i64 d]] w fun e w' => e = .returned (.bool (lessF ⟨a, b⟩ ⟨c, d⟩)) ∧ Below w.heap.size w w' := by
  rcases Int.lt_trichotomy b d with h | h | h
  · have hne : (b == d) = false := by rw [beq_eq_false_iff_ne]; omega
    have E := Lib.hid (show lessF ⟨a, b⟩ ⟨c, d⟩ = decide (b < d ∧ lessF ⟨0, 0⟩ ⟨0, 1⟩ = true) by unfold lessF; simp; omega)
    have h2 : ¬ d < b := by omega
    go_enter Try.func79, Try.ntmps79
    go_wp2
    go_ret
    exact ⟨by rw [E.out]; simp [h, lessF], (by repeat (first | exact Below.refl _ _ | assumption | apply Below.drew | apply belowN | (refine Below.alloc ?_ (by first | exact Nat.le_refl _ | (simp; done) | (simp; omega)) _) | (refine Below.setCell ?_ (by first | exact Nat.le_refl _ | (simp; done) | (simp; omega)) _)))⟩
  · subst h
    have E := Lib.hid (show lessF ⟨a, b⟩ ⟨c, b⟩ = decide (a < c) by unfold lessF; simp)
    go_enter Try.func79, Try.ntmps79
    go_wp2
    go_ret
    exact ⟨(by first | (rw [E.out]; done) | (rw [E.out]; rfl)), (by repeat (first | exact Below.refl _ _ | assumption | apply Below.drew | apply belowN | (refine Below.alloc ?_ (by first | exact Nat.le_refl _ | (simp; done) | (simp; omega)) _) | (refine Below.setCell ?_ (by first | exact Nat.le_refl _ | (simp; done) | (simp; omega)) _)))⟩
  · have hne : (b == d) = false := by rw [beq_eq_false_iff_ne]; omega
    have E := Lib.hid (show lessF ⟨a, b⟩ ⟨c, d⟩ = decide (d < b ∧ lessF ⟨0, 1⟩ ⟨0, 0⟩ = true) by unfold lessF; simp; omega)
    have h2 : ¬ b < d := by omega
    go_enter Try.func79, Try.ntmps79
    go_wp2
    go_ret
    exact ⟨by rw [E.out]; simp [h, lessF], (by repeat (first | exact Below.refl _ _ | assumption | apply Below.drew | apply belowN | (refine Below.alloc ?_ (by first | exact Nat.le_refl _ | (simp; done) | (simp; omega)) _) | (refine Below.setCell ?_ (by first | exact Nat.le_refl _ | (simp; done) | (simp; omega)) _)))⟩

theorem best_start (F : Ld → Ld → Bool) {l : List Ld} {x : Ld} (h : l[0]? = some x) : bestF F l = (l.drop 0).foldl (fun best y => if F y best then y else best) x := by
  cases l with
  | nil => simp at h
  | cons z r =>
    simp only [List.getElem?_cons_zero, Option.some.injEq] at h
    subst h
    simp [bestF]
theorem best_step (F : Ld → Ld → Bool) {l : List Ld} {k : Nat} {x best : Ld} (hx : l[k]? = some x) (h : bestF F l = (l.drop k).foldl (fun best y => if F y best then y else best) best) :
    bestF F l = (l.drop (k + 1)).foldl (fun best y => if F y best then y else best) (if F x best then x else best) := by
  rw [h, drop_cons hx]; rfl
theorem best_end (F : Ld → Ld → Bool) {l : List Ld} {k : Nat} {best : Ld} (hk : l.length ≤ k) (h : bestF F l = (l.drop k).foldl (fun best y => if F y best then y else best) best) : bestF F l = best := by
  rw [h, List.drop_of_length_le hk]; rfl

set_option maxHeartbeats 1000000 in
theorem bal_first_more {A : Option Addr} {n cap : Nat} {l : List Ld} (w : World) (h : Lds w A n cap l) :
    Calls Try.prog 75 #[.slice A n cap, .func (.func 76) #[] #[]] w fun e w' => e = .returned (.tuple #[.agg #[.int .u32 (firstF moreF l).1.pt, .int .i64 (firstF moreF l).1.en], .bool (firstF moreF l).2]) ∧ Below w.heap.size w w' := by
  have HH := Lib.hid h
  have HL := Lib.hid h.1
  have bn : n ≤ 140737488351232 := by have := h.2.2.2.1; omega
  clear h
  by_cases h0 : n = 0
  · subst h0
    have hf := Lib.hid (show firstF moreF l = (⟨0, 0⟩, false) by unfold firstF; rw [if_pos (.inl (List.eq_nil_of_length_eq_zero HL.out))])
    rw [hf.out]
    go_enter Try.func75, Try.ntmps75
    go_wp2
    exact bodyPost_ret (v := .tuple #[.agg #[.int .u32 0, .int .i64 0], .bool false]) (by simp [results, Try.results75, go_sem]) rfl ⟨rfl, (by repeat (first | exact Below.refl _ _ | assumption | apply Below.drew | apply belowN | (refine Below.alloc ?_ (by first | exact Nat.le_refl _ | (simp; done) | (simp; omega)) _) | (refine Below.setCell ?_ (by first | exact Nat.le_refl _ | (simp; done) | (simp; omega)) _)))⟩
  · have hne : ((n : Int) == 0) = false := by rw [beq_eq_false_iff_ne]; omega
    have hl0 : ¬ l = [] := by intro h; rw [h] at HL; exact h0 HL.out.symm
    cases hm : mayF l with
    | false =>
      have hf := Lib.hid (show firstF moreF l = (⟨0, 0⟩, false) by unfold firstF; rw [if_pos (.inr hm)])
      rw [hf.out]
      go_enter Try.func75, Try.ntmps75
      go_wp2_with (go_at_call 80; (with_reducible refine (bal_may _ (HH.out.same (below_a1 w _))).mono ?_); rintro e w1 ⟨rfl, hb⟩; have X4 := (Box.new w #[.int .u32 0, .int .i64 0] 79).below hb (by rw [size_alloc]; omega); have c4 := X4.cell; have f4 := X4.free; have z4 := X4.lt; have HB := Lib.hid ((below_a1 w _).trans (hb.mono (by rw [size_alloc]; omega))); clear hb X4)
      exact bodyPost_ret (v := .tuple #[.agg #[.int .u32 0, .int .i64 0], .bool false]) (by simp [results, Try.results75, go_sem, c4, f4]) rfl ⟨rfl, (HB.out.setCell (by exact Nat.le_refl _) _).setCell (by exact Nat.le_refl _) _⟩
    | true =>
      have hf := Lib.hid (show firstF moreF l = (bestF moreF l, true) by unfold firstF; rw [if_neg (by simp [hl0, hm])])
      rw [hf.out]
      go_enter Try.func75, Try.ntmps75
      go_wp2_with (go_at_call 80; (with_reducible refine (bal_may _ (HH.out.same (below_a1 w _))).mono ?_); rintro e w1 ⟨rfl, hb⟩; have X4 := Lib.hid ((Box.new w #[.int .u32 0, .int .i64 0] 79).below hb (by rw [size_alloc]; omega)); have z4 := X4.out.lt; have HB := Lib.hid ((below_a1 w _).trans (hb.mono (by rw [size_alloc]; omega))); obtain ⟨x, b, off, hx, rfl, hb0, c0, c1, hok⟩ := ld_cells (HH.out.below HB.out (Nat.le_refl _)) (show 0 < n by omega); rw [Nat.zero_mul, Nat.add_zero] at c0 c1; have HX := Lib.hid hx; have HK := Lib.hid hok; clear hb hx hok)
      generalize hbb : w1.heap.size = bb at *
      have HZ := Lib.hid hbb
      have hz := HB.out.size
      clear hbb
      go_loopw [23] (fun i wr => ∃ (k : Nat) (best : Ld), k ≤ n ∧ i = .int .i64 k ∧ bestF moreF l = (l.drop k).foldl (fun best y => if moreF y best then y else best) best ∧ best.ok ∧ Box wr bb #[.int .u32 best.pt, .int .i64 best.en] ∧ Box wr w.heap.size #[.int .u32 0, .int .i64 0] ∧ Below w.heap.size w wr) (fun i _ => n - (intOf i).toNat)
      case atStart => exact ⟨0, x, Nat.zero_le _, rfl, best_start moreF HX.out, HK.out, Box.newAt _ _ _ _ HZ.out.symm, X4.out.alloc _, HB.out.alloc HB.out.size _⟩
      case round =>
        obtain ⟨k, best, hk, rfl, hbest, hok, hX6, hX4, hB⟩ := hrel
        have HS := Lib.hid hbest; have HO := Lib.hid hok; have Y6 := Lib.hid hX6; have Y4 := Lib.hid hX4; have HBr := Lib.hid hB
        clear hbest hok hX6 hX4 hB c0 c1
        have hbb : w.heap.size ≤ bb := by rw [← HZ.out]; exact hz
        have hzr := HBr.out.size
        by_cases hlt : k < n
        · obtain ⟨y, b', off', hy, he', hb', q0, q1, hok'⟩ := ld_cells HH.out hlt
          injection he' with he'
          injection he' with he1 he2
          subst he1 he2
          have s0 := (HBr.out.cell (p := ⟨b, off + k * 2, none⟩) hb').trans q0
          have s1 := (HBr.out.cell (p := ⟨b, off + k * 2 + 1, none⟩) hb').trans q1
          have BS := Lib.hid (best_step moreF hy HS.out)
          have HO' := Lib.hid hok'
          have c6 := Y6.out.cell
          have z6 := Y6.out.lt
          clear q0 q1 hok' hy
          obtain ⟨p, e⟩ := y
          obtain ⟨bp, be⟩ := best
          dsimp only at *
          cases ht : moreF ⟨p, e⟩ ⟨bp, be⟩ with
          | true =>
            go_wp2_with (go_at_call 76; (with_reducible refine (bal_more1 p e bp be _).mono ?_); rintro e2 w2 ⟨rfl, hb2⟩; have W6 := (Y6.out.alloc (.cells #[.int .u32 p, .int .i64 e] 79)).below hb2 (by rw [size_alloc]; omega); have W8 := (Box.new wr #[.int .u32 p, .int .i64 e] 79).below hb2 (by rw [size_alloc]; omega); have W4 := (Y4.out.alloc (.cells #[.int .u32 p, .int .i64 e] 79)).below hb2 (by rw [size_alloc]; omega); have BB := (HBr.out.alloc hzr (.cells #[.int .u32 p, .int .i64 e] 79)).trans (hb2.mono (by rw [size_alloc]; omega)); have k6 := W6.cell; have f6 := W6.free; have k8 := W8.cell; have z8 := W8.lt; have z62 := W6.lt; have W6' := Lib.hid W6; have W4' := Lib.hid W4; have BB' := Lib.hid BB; clear hb2 W6 W8 W4 BB)
            go_roundw
            case rel => exact ⟨k + 1, ⟨p, e⟩, by omega, by go_num, (by have h := BS.out; rw [if_pos ht] at h; exact h), HO'.out, (W6'.out.setAs (i := 0) rfl).setAs (i := 1) rfl, (W4'.out.setOther (a := ⟨bb, 0, none⟩) (by show w.heap.size ≠ bb; omega) _).setOther (a := ⟨bb, 1, none⟩) (by show w.heap.size ≠ bb; omega) _, (BB'.out.setCell (p := ⟨bb, 0, none⟩) hbb _).setCell (p := ⟨bb, 1, none⟩) hbb _⟩
            case measure => simp [intOf]; omega
          | false =>
            go_wp2_with (go_at_call 76; (with_reducible refine (bal_more1 p e bp be _).mono ?_); rintro e2 w2 ⟨rfl, hb2⟩; have W6 := (Y6.out.alloc (.cells #[.int .u32 p, .int .i64 e] 79)).below hb2 (by rw [size_alloc]; omega); have W4 := (Y4.out.alloc (.cells #[.int .u32 p, .int .i64 e] 79)).below hb2 (by rw [size_alloc]; omega); have BB := (HBr.out.alloc hzr (.cells #[.int .u32 p, .int .i64 e] 79)).trans (hb2.mono (by rw [size_alloc]; omega)); have W6' := Lib.hid W6; have W4' := Lib.hid W4; have BB' := Lib.hid BB; clear hb2 W6 W4 BB)
            go_roundw
            case rel => exact ⟨k + 1, ⟨bp, be⟩, by omega, by go_num, (by have h := BS.out; rw [if_neg (by rw [ht]; simp)] at h; exact h), HO.out, W6'.out, W4'.out, BB'.out⟩
            case measure => simp [intOf]; omega
        · have hfe := Lib.hid (best_end moreF (by rw [HL.out]; omega) HS.out)
          have c6 := Y6.out.cell
          have z6 := Y6.out.lt
          have c4 := Y4.out.cell
          have f4 := Y4.out.free
          obtain ⟨bp, be⟩ := best
          dsimp only at *
          go_wp2
          exact bodyPost_ret (v := .tuple #[.agg #[.int .u32 bp, .int .i64 be], .bool true]) (by simp [results, Try.results75, go_sem, c4, f4]) rfl ⟨by rw [hfe.out], (HBr.out.setCell (by exact Nat.le_refl _) _).setCell (by exact Nat.le_refl _) _⟩
set_option maxHeartbeats 1000000 in
theorem bal_first_less {A : Option Addr} {n cap : Nat} {l : List Ld} (w : World) (h : Lds w A n cap l) :
    Calls Try.prog 75 #[.slice A n cap, .func (.func 79) #[] #[]] w fun e w' => e = .returned (.tuple #[.agg #[.int .u32 (firstF lessF l).1.pt, .int .i64 (firstF lessF l).1.en], .bool (firstF lessF l).2]) ∧ Below w.heap.size w w' := by
  have HH := Lib.hid h
  have HL := Lib.hid h.1
  have bn : n ≤ 140737488351232 := by have := h.2.2.2.1; omega
  clear h
  by_cases h0 : n = 0
  · subst h0
    have hf := Lib.hid (show firstF lessF l = (⟨0, 0⟩, false) by unfold firstF; rw [if_pos (.inl (List.eq_nil_of_length_eq_zero HL.out))])
    rw [hf.out]
    go_enter Try.func75, Try.ntmps75
    go_wp2
    exact bodyPost_ret (v := .tuple #[.agg #[.int .u32 0, .int .i64 0], .bool false]) (by simp [results, Try.results75, go_sem]) rfl ⟨rfl, (by repeat (first | exact Below.refl _ _ | assumption | apply Below.drew | apply belowN | (refine Below.alloc ?_ (by first | exact Nat.le_refl _ | (simp; done) | (simp; omega)) _) | (refine Below.setCell ?_ (by first | exact Nat.le_refl _ | (simp; done) | (simp; omega)) _)))⟩
  · have hne : ((n : Int) == 0) = false := by rw [beq_eq_false_iff_ne]; omega
    have hl0 : ¬ l = [] := by intro h; rw [h] at HL; exact h0 HL.out.symm
    cases hm : mayF l with
    | false =>
      have hf := Lib.hid (show firstF lessF l = (⟨0, 0⟩, false) by unfold firstF; rw [if_pos (.inr hm)])
      rw [hf.out]
      go_enter Try.func75, Try.ntmps75
      go_wp2_with (go_at_call 80; (with_reducible refine (bal_may _ (HH.out.same (below_a1 w _))).mono ?_); rintro e w1 ⟨rfl, hb⟩; have X4 := (Box.new w #[.int .u32 0, .int .i64 0] 79).below hb (by rw [size_alloc]; omega); have c4 := X4.cell; have f4 := X4.free; have z4 := X4.lt; have HB := Lib.hid ((below_a1 w _).trans (hb.mono (by rw [size_alloc]; omega))); clear hb X4)
      exact bodyPost_ret (v := .tuple #[.agg #[.int .u32 0, .int .i64 0], .bool false]) (by simp [results, Try.results75, go_sem, c4, f4]) rfl ⟨rfl, (HB.out.setCell (by exact Nat.le_refl _) _).setCell (by exact Nat.le_refl _) _⟩
    | true =>
      have hf := Lib.hid (show firstF lessF l = (bestF lessF l, true) by unfold firstF; rw [if_neg (by simp [hl0, hm])])
      rw [hf.out]
      go_enter Try.func75, Try.ntmps75
      go_wp2_with (go_at_call 80; (with_reducible refine (bal_may _ (HH.out.same (below_a1 w _))).mono ?_); rintro e w1 ⟨rfl, hb⟩; have X4 := Lib.hid ((Box.new w #[.int .u32 0, .int .i64 0] 79).below hb (by rw [size_alloc]; omega)); have z4 := X4.out.lt; have HB := Lib.hid ((below_a1 w _).trans (hb.mono (by rw [size_alloc]; omega))); obtain ⟨x, b, off, hx, rfl, hb0, c0, c1, hok⟩ := ld_cells (HH.out.below HB.out (Nat.le_refl _)) (show 0 < n by omega); rw [Nat.zero_mul, Nat.add_zero] at c0 c1; have HX := Lib.hid hx; have HK := Lib.hid hok; clear hb hx hok)
      generalize hbb : w1.heap.size = bb at *
      have HZ := Lib.hid hbb
      have hz := HB.out.size
      clear hbb
      go_loopw [23] (fun i wr => ∃ (k : Nat) (best : Ld), k ≤ n ∧ i = .int .i64 k ∧ bestF lessF l = (l.drop k).foldl (fun best y => if lessF y best then y else best) best ∧ best.ok ∧ Box wr bb #[.int .u32 best.pt, .int .i64 best.en] ∧ Box wr w.heap.size #[.int .u32 0, .int .i64 0] ∧ Below w.heap.size w wr) (fun i _ => n - (intOf i).toNat)
      case atStart => exact ⟨0, x, Nat.zero_le _, rfl, best_start lessF HX.out, HK.out, Box.newAt _ _ _ _ HZ.out.symm, X4.out.alloc _, HB.out.alloc HB.out.size _⟩
      case round =>
        obtain ⟨k, best, hk, rfl, hbest, hok, hX6, hX4, hB⟩ := hrel
        have HS := Lib.hid hbest; have HO := Lib.hid hok; have Y6 := Lib.hid hX6; have Y4 := Lib.hid hX4; have HBr := Lib.hid hB
        clear hbest hok hX6 hX4 hB c0 c1
        have hbb : w.heap.size ≤ bb := by rw [← HZ.out]; exact hz
        have hzr := HBr.out.size
        by_cases hlt : k < n
        · obtain ⟨y, b', off', hy, he', hb', q0, q1, hok'⟩ := ld_cells HH.out hlt
          injection he' with he'
          injection he' with he1 he2
          subst he1 he2
          have s0 := (HBr.out.cell (p := ⟨b, off + k * 2, none⟩) hb').trans q0
          have s1 := (HBr.out.cell (p := ⟨b, off + k * 2 + 1, none⟩) hb').trans q1
          have BS := Lib.hid (best_step lessF hy HS.out)
          have HO' := Lib.hid hok'
          have c6 := Y6.out.cell
          have z6 := Y6.out.lt
          clear q0 q1 hok' hy
          obtain ⟨p, e⟩ := y
          obtain ⟨bp, be⟩ := best
          dsimp only at *
          cases ht : lessF ⟨p, e⟩ ⟨bp, be⟩ with
          | true =>
            go_wp2_with (go_at_call 79; (with_reducible refine (bal_less1 p e bp be _).mono ?_); rintro e2 w2 ⟨rfl, hb2⟩; have W6 := (Y6.out.alloc (.cells #[.int .u32 p, .int .i64 e] 79)).below hb2 (by rw [size_alloc]; omega); have W8 := (Box.new wr #[.int .u32 p, .int .i64 e] 79).below hb2 (by rw [size_alloc]; omega); have W4 := (Y4.out.alloc (.cells #[.int .u32 p, .int .i64 e] 79)).below hb2 (by rw [size_alloc]; omega); have BB := (HBr.out.alloc hzr (.cells #[.int .u32 p, .int .i64 e] 79)).trans (hb2.mono (by rw [size_alloc]; omega)); have k6 := W6.cell; have f6 := W6.free; have k8 := W8.cell; have z8 := W8.lt; have z62 := W6.lt; have W6' := Lib.hid W6; have W4' := Lib.hid W4; have BB' := Lib.hid BB; clear hb2 W6 W8 W4 BB)
            go_roundw
            case rel => exact ⟨k + 1, ⟨p, e⟩, by omega, by go_num, (by have h := BS.out; rw [if_pos ht] at h; exact h), HO'.out, (W6'.out.setAs (i := 0) rfl).setAs (i := 1) rfl, (W4'.out.setOther (a := ⟨bb, 0, none⟩) (by show w.heap.size ≠ bb; omega) _).setOther (a := ⟨bb, 1, none⟩) (by show w.heap.size ≠ bb; omega) _, (BB'.out.setCell (p := ⟨bb, 0, none⟩) hbb _).setCell (p := ⟨bb, 1, none⟩) hbb _⟩
            case measure => simp [intOf]; omega
          | false =>
            go_wp2_with (go_at_call 79; (with_reducible refine (bal_less1 p e bp be _).mono ?_); rintro e2 w2 ⟨rfl, hb2⟩; have W6 := (Y6.out.alloc (.cells #[.int .u32 p, .int .i64 e] 79)).below hb2 (by rw [size_alloc]; omega); have W4 := (Y4.out.alloc (.cells #[.int .u32 p, .int .i64 e] 79)).below hb2 (by rw [size_alloc]; omega); have BB := (HBr.out.alloc hzr (.cells #[.int .u32 p, .int .i64 e] 79)).trans (hb2.mono (by rw [size_alloc]; omega)); have W6' := Lib.hid W6; have W4' := Lib.hid W4; have BB' := Lib.hid BB; clear hb2 W6 W4 BB)
            go_roundw
            case rel => exact ⟨k + 1, ⟨bp, be⟩, by omega, by go_num, (by have h := BS.out; rw [if_neg (by rw [ht]; simp)] at h; exact h), HO.out, W6'.out, W4'.out, BB'.out⟩
            case measure => simp [intOf]; omega
        · have hfe := Lib.hid (best_end lessF (by rw [HL.out]; omega) HS.out)
          have c6 := Y6.out.cell
          have z6 := Y6.out.lt
          have c4 := Y4.out.cell
          have f4 := Y4.out.free
          obtain ⟨bp, be⟩ := best
          dsimp only at *
          go_wp2
          exact bodyPost_ret (v := .tuple #[.agg #[.int .u32 bp, .int .i64 be], .bool true]) (by simp [results, Try.results75, go_sem, c4, f4]) rfl ⟨by rw [hfe.out], (HBr.out.setCell (by exact Nat.le_refl _) _).setCell (by exact Nat.le_refl _) _⟩
end Go.Proofs.Ytjniholnmjafeaa
