/- slices.Sort at whole numbers: the pivot. Conditions: the row is one's own. -/
import Derived.Test.YtpkeddiaoacfeaaSrtIns
namespace Go.Proofs.Ytpkeddiaoacfeaa
open Go.RowKit Go.Sort
set_option maxRecDepth 100000
set_option linter.unusedVariables false
set_option linter.unusedSimpArgs false

/-- A row, and a count beside it. -/
structure RowC (k : IntKind) (T : TypeId) (C0 : Array Value) (w0 : World) (b : Nat) (d : Array Int) (sb : Nat) (s : Int) (w : World) : Prop where
  row : RowI k T C0 w0 b d w
  cnt : Box w sb #[.int .i64 s]
  new : w0.heap.size ≤ sb
  ne : b ≠ sb
  lo : 0 ≤ s
  hi : s ≤ 1000
def Ord2 (k : IntKind) (T : TypeId) (C0 : Array Value) (w0 : World) (b : Nat) (d : Array Int) (sb : Nat) (s : Int) (x y : Nat) (e : Ending) (w : World) : Prop :=
  ∃ (x' y' : Nat) (s' : Int), e = .returned (.tuple #[.int .i64 x', .int .i64 y']) ∧ ((x' = x ∧ y' = y) ∨ (x' = y ∧ y' = x)) ∧ s' ≤ s + 1 ∧ RowC k T C0 w0 b d sb s' w
def Med (k : IntKind) (T : TypeId) (C0 : Array Value) (w0 : World) (b : Nat) (d : Array Int) (sb : Nat) (s : Int) (x y z : Nat) (e : Ending) (w : World) : Prop :=
  ∃ (x' : Nat) (s' : Int), e = .returned (.int .i64 x') ∧ (x' = x ∨ x' = y ∨ x' = z) ∧ s' ≤ s + 3 ∧ RowC k T C0 w0 b d sb s' w
def Piv (k : IntKind) (T : TypeId) (C0 : Array Value) (w0 : World) (b : Nat) (d : Array Int) (x y : Nat) (e : Ending) (w : World) : Prop :=
  ∃ (p : Nat) (h : Int), e = .returned (.tuple #[.int .i64 p, .int .i64 h]) ∧ x ≤ p ∧ p < y ∧ 0 ≤ h ∧ h ≤ 2 ∧ RowI k T C0 w0 b d w

theorem pick3 {x l p i j k : Nat} (h : p = i ∨ p = j ∨ p = k) (hi : x ≤ i ∧ i < x + l) (hj : x ≤ j ∧ j < x + l) (hk : x ≤ k ∧ k < x + l) : x ≤ p ∧ p < x + l := by omega
theorem near3 {x l p i : Nat} (h : p = i - 1 ∨ p = i ∨ p = i + 1) (hi : x < i) (hi2 : i + 1 < x + l) : x ≤ p ∧ p < x + l := by omega
set_option maxHeartbeats 1000000 in
theorem srt_ord_u64 {T : TypeId} {C0 : Array Value} {w0 w : World} {b cap x y sb n : Nat} {s : Int} {d : Array Int} (h : RowC .u64 T C0 w0 b d sb s w) (hn : d.size = n) (hx : x < n) (hy : y < n) (hsz : n < 4611686018427387904) (hs : s ≤ 900) :
    Calls Try.prog 149 #[.slice (some ⟨b, 0, none⟩) n cap, .int .i64 x, .int .i64 y, .pointer (some ⟨sb, 0, none⟩)] w (Ord2 .u64 T C0 w0 b d sb s x y) := by
  have HH := Lib.hid h
  have c1 := h.row.cell (i := x) (by omega)
  have c2 := h.row.cell (i := y) (by omega)
  have cs := h.cnt.cell; have zs := h.cnt.lt; have fs := h.cnt.free
  have hlo := h.lo; have hhi := h.hi
  have hxn : (x : Int) < (n : Int) := by omega
  have hyn : (y : Int) < (n : Int) := by omega
  clear h hn
  generalize hu : d[x]! = u at *
  generalize hv : d[y]! = v at *
  by_cases hvu : v < u
  · have HLT := Lib.hid (show decide (v < u) = true from decide_eq_true hvu)
    go_enter Try.func149, Try.ntmps149
    go_wp2
    go_quiet ((go_at_call 137; exact Calls.quiet_of_same (lessq_u64 _ _ _)))
    rw [HLT.out]
    go_wp2
    go_ret2
    refine ⟨y, x, s + 1, rfl, .inr ⟨rfl, rfl⟩, Int.le_refl _, ⟨HH.out.row.box.only (Only.refl (· = sb) w |>.drewN _ |>.setCell (p := ⟨sb, 0, none⟩) (.inl rfl) _) HH.out.ne, HH.out.row.fits, (HH.out.row.only.drewN _).setCell (p := ⟨sb, 0, none⟩) (.inr HH.out.new) _⟩, ?_, HH.out.new, HH.out.ne, by omega, by omega⟩
    simpa using (HH.out.cnt.drewN _).set (i := 0) (.int .i64 (s + 1))
  · have HLT := Lib.hid (show decide (v < u) = false from decide_eq_false hvu)
    go_enter Try.func149, Try.ntmps149
    go_wp2
    go_quiet ((go_at_call 137; exact Calls.quiet_of_same (lessq_u64 _ _ _)))
    rw [HLT.out]
    go_wp2
    go_ret2
    exact ⟨x, y, s, rfl, .inl ⟨rfl, rfl⟩, by omega, HH.out.row.drewN _, HH.out.cnt.drewN _, HH.out.new, HH.out.ne, hlo, hhi⟩
set_option maxHeartbeats 1000000 in
theorem srt_med_u64 {T : TypeId} {C0 : Array Value} {w0 w : World} {b cap x y z sb n : Nat} {s : Int} {d : Array Int} (h : RowC .u64 T C0 w0 b d sb s w) (hn : d.size = n) (hx : x < n) (hy : y < n) (hz : z < n) (hsz : n < 4611686018427387904) (hs : s ≤ 800) :
    Calls Try.prog 147 #[.slice (some ⟨b, 0, none⟩) n cap, .int .i64 x, .int .i64 y, .int .i64 z, .pointer (some ⟨sb, 0, none⟩)] w (Med .u64 T C0 w0 b d sb s x y z) := by
  have HH := Lib.hid h; have HN := Lib.hid hn
  clear h hn
  go_enter Try.func147, Try.ntmps147
  go_wp2_with fail
  refine (srt_ord_u64 HH.out HN.out hx hy hsz (by omega)).mono ?_
  rintro e1 w1 ⟨x1, y1, s1, rfl, h1, hs1, hR1⟩
  have H1 := Lib.hid hR1
  have hx1 : x1 < n := by omega
  have hy1 : y1 < n := by omega
  clear hR1
  go_wp2_with fail
  refine (srt_ord_u64 H1.out HN.out hy1 hz hsz (by omega)).mono ?_
  rintro e2 w2 ⟨x2, y2, s2, rfl, h2, hs2, hR2⟩
  have H2 := Lib.hid hR2
  have hx2 : x2 < n := by omega
  have hy2 : y2 < n := by omega
  clear hR2
  go_wp2_with fail
  refine (srt_ord_u64 H2.out HN.out hx1 hx2 hsz (by omega)).mono ?_
  rintro e3 w3 ⟨x3, y3, s3, rfl, h3, hs3, hR3⟩
  have H3 := Lib.hid hR3
  clear hR3
  have HF := Lib.hid (show y3 = x ∨ y3 = y ∨ y3 = z by omega)
  have HS := Lib.hid (show s3 ≤ s + 3 by omega)
  clear h1 h2 h3 hs1 hs2 hs3
  go_wp2
  go_ret
  exact ⟨y3, s3, rfl, HF.out, HS.out, H3.out⟩
set_option maxHeartbeats 1000000 in
theorem srt_adj_u64 {T : TypeId} {C0 : Array Value} {w0 w : World} {b cap x sb n : Nat} {s : Int} {d : Array Int} (h : RowC .u64 T C0 w0 b d sb s w) (hn : d.size = n) (hx0 : 0 < x) (hx : x + 1 < n) (hsz : n < 4611686018427387904) (hs : s ≤ 800) :
    Calls Try.prog 146 #[.slice (some ⟨b, 0, none⟩) n cap, .int .i64 x, .pointer (some ⟨sb, 0, none⟩)] w (Med .u64 T C0 w0 b d sb s (x - 1) x (x + 1)) := by
  obtain ⟨q, rfl⟩ : ∃ q, x = q + 1 := ⟨x - 1, by omega⟩
  have hm := srt_med_u64 (cap := cap) h hn (x := q) (y := q + 1) (z := q + 1 + 1) (by omega) (by omega) (by omega) hsz hs
  push_cast at hm
  have HM := Lib.hid hm
  clear hm
  have w5 := wrap_nat64 (k := q) (by omega)
  clear h hn
  go_enter Try.func146, Try.ntmps146
  go_wp2_with fail
  refine HM.out.mono ?_
  rintro e1 w1 ⟨x1, s1, rfl, h1, hs1, hR1⟩
  have H1 := Lib.hid hR1
  have HF := Lib.hid (show x1 = q + 1 - 1 ∨ x1 = q + 1 ∨ x1 = q + 1 + 1 by omega)
  have HS := Lib.hid hs1
  clear hR1 h1 hs1
  go_wp2
  go_ret
  exact ⟨x1, s1, rfl, HF.out, HS.out, H1.out⟩
set_option maxHeartbeats 4000000 in
theorem srt_piv_u64 {T : TypeId} {C0 : Array Value} {w0 w : World} {b cap x y n : Nat} {d : Array Int} (h : RowI .u64 T C0 w0 b d w) (hn : d.size = n) (hxy : x + 12 < y) (hy : y ≤ n) (hsz : n < 4611686018427387904) :
    Calls Try.prog 134 #[.slice (some ⟨b, 0, none⟩) n cap, .int .i64 x, .int .i64 y] w (Piv .u64 T C0 w0 b d x y) := by
  obtain ⟨l, rfl⟩ : ∃ l, y = x + l := ⟨y - x, by omega⟩
  have hb : Below w.heap.size w (w.alloc (.cells #[.int .i64 0] 3)) := below_a1 w _
  have HC := Lib.hid (show RowC .u64 T C0 w0 b d w.heap.size 0 (w.alloc (.cells #[.int .i64 0] 3)) from ⟨h.later hb, Box.new _ _ _, h.only.size, Nat.ne_of_lt h.lt, by omega, by omega⟩)
  have HN := Lib.hid hn
  have hl : 12 < l := by omega
  obtain ⟨i, hi⟩ : ∃ i, i = x + l / 4 := ⟨_, rfl⟩
  obtain ⟨j, hj⟩ : ∃ j, j = x + l / 4 * 2 := ⟨_, rfl⟩
  obtain ⟨k, hk⟩ : ∃ k, k = x + l / 4 * 3 := ⟨_, rfl⟩
  have e1 : ((x : Int) + (l : Int)) - (x : Int) = (l : Int) := by omega
  have ei : (x : Int) + (l : Int) / 4 * 1 = (i : Int) := by omega
  have ei2 : (x : Int) + (l : Int) / 4 = (i : Int) := by omega
  have ej : (x : Int) + (l : Int) / 4 * 2 = (j : Int) := by omega
  have ek : (x : Int) + (l : Int) / 4 * 3 = (k : Int) := by omega
  have HI := Lib.hid hi; have HJ := Lib.hid hj; have HK := Lib.hid hk
  clear h hn hb hi hj hk
  by_cases h50 : 50 ≤ l
  · go_enter Try.func134, Try.ntmps134
    go_wp2_with fail
    refine (srt_adj_u64 (cap := cap) HC.out HN.out (x := i) (by have := HI.out; have := HJ.out; have := HK.out; omega) (by have := HI.out; have := HJ.out; have := HK.out; omega) hsz (by omega)).mono ?_
    rintro e1 w1 ⟨x1, s1, rfl, h1, hs1, hR1⟩
    have H1 := Lib.hid hR1; have G1 := Lib.hid h1
    clear hR1 h1
    go_wp2_with fail
    refine (srt_adj_u64 (cap := cap) H1.out HN.out (x := j) (by have := HI.out; have := HJ.out; have := HK.out; omega) (by have := HI.out; have := HJ.out; have := HK.out; omega) hsz (by omega)).mono ?_
    rintro e2 w2 ⟨x2, s2, rfl, h2, hs2, hR2⟩
    have H2 := Lib.hid hR2; have G2 := Lib.hid h2
    clear hR2 h2
    go_wp2_with fail
    refine (srt_adj_u64 (cap := cap) H2.out HN.out (x := k) (by have := HI.out; have := HJ.out; have := HK.out; omega) (by have := HI.out; have := HJ.out; have := HK.out; omega) hsz (by omega)).mono ?_
    rintro e3 w3 ⟨x3, s3, rfl, h3, hs3, hR3⟩
    have H3 := Lib.hid hR3; have G3 := Lib.hid h3
    clear hR3 h3
    go_wp2_with fail
    have b1 := near3 G1.out (x := x) (l := l) (by have := HI.out; have := HJ.out; have := HK.out; omega) (by have := HI.out; have := HJ.out; have := HK.out; omega)
    have b2 := near3 G2.out (x := x) (l := l) (by have := HI.out; have := HJ.out; have := HK.out; omega) (by have := HI.out; have := HJ.out; have := HK.out; omega)
    have b3 := near3 G3.out (x := x) (l := l) (by have := HI.out; have := HJ.out; have := HK.out; omega) (by have := HI.out; have := HJ.out; have := HK.out; omega)
    refine (srt_med_u64 (cap := cap) H3.out HN.out (x := x1) (y := x2) (z := x3) (by omega) (by omega) (by omega) hsz (by omega)).mono ?_
    rintro e4 w4 ⟨x4, s4, rfl, h4, hs4, hR4⟩
    have H4 := Lib.hid hR4
    have HB := Lib.hid (pick3 h4 b1 b2 b3)
    have cs := hR4.cnt.cell; have zs := hR4.cnt.lt
    clear hR4 h4 b1 b2 b3 hs1 hs2 hs3 hs4 e1 ei ei2 ej ek
    by_cases q0 : s4 = 0
    · subst q0
      go_wp2
      go_ret2
      exact ⟨x4, 1, rfl, HB.out.1, HB.out.2, by omega, by omega, H4.out.row⟩
    · have q0' : (s4 == 0) = false := by rw [beq_eq_false_iff_ne]; exact q0
      by_cases q12 : s4 = 12
      · subst q12
        go_wp2
        go_ret2
        exact ⟨x4, 2, rfl, HB.out.1, HB.out.2, by omega, by omega, H4.out.row⟩
      · have q12' : (s4 == 12) = false := by rw [beq_eq_false_iff_ne]; exact q12
        go_wp2
        go_ret2
        exact ⟨x4, 0, rfl, HB.out.1, HB.out.2, by omega, by omega, H4.out.row⟩
  · go_enter Try.func134, Try.ntmps134
    go_wp2_with fail
    refine (srt_med_u64 (cap := cap) HC.out HN.out (x := i) (y := j) (z := k) (by have := HI.out; have := HJ.out; have := HK.out; omega) (by have := HI.out; have := HJ.out; have := HK.out; omega) (by have := HI.out; have := HJ.out; have := HK.out; omega) hsz (by omega)).mono ?_
    rintro e4 w4 ⟨x4, s4, rfl, h4, hs4, hR4⟩
    have H4 := Lib.hid hR4
    have HB := Lib.hid (pick3 h4 (x := x) (l := l) (by have := HI.out; have := HJ.out; have := HK.out; omega) (by have := HI.out; have := HJ.out; have := HK.out; omega) (by have := HI.out; have := HJ.out; have := HK.out; omega))
    have cs := hR4.cnt.cell; have zs := hR4.cnt.lt
    clear hR4 h4 hs4 e1 ei ei2 ej ek
    by_cases q0 : s4 = 0
    · subst q0
      go_wp2
      go_ret2
      exact ⟨x4, 1, rfl, HB.out.1, HB.out.2, by omega, by omega, H4.out.row⟩
    · have q0' : (s4 == 0) = false := by rw [beq_eq_false_iff_ne]; exact q0
      by_cases q12 : s4 = 12
      · subst q12
        go_wp2
        go_ret2
        exact ⟨x4, 2, rfl, HB.out.1, HB.out.2, by omega, by omega, H4.out.row⟩
      · have q12' : (s4 == 12) = false := by rw [beq_eq_false_iff_ne]; exact q12
        go_wp2
        go_ret2
        exact ⟨x4, 0, rfl, HB.out.1, HB.out.2, by omega, by omega, H4.out.row⟩
end Go.Proofs.Ytpkeddiaoacfeaa
