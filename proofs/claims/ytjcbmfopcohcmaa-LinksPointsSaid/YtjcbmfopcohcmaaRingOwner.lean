/- The ring's Owner and Next. Conditions: the ring is one. -/
import Derived.Test.YtjcbmfopcohcmaaRing
namespace Go.Proofs.Ytjcbmfopcohcmaa
open Go.RowKit
set_option maxRecDepth 100000
set_option linter.unusedVariables false
set_option linter.unusedSimpArgs false

/-- The first point from a value on. -/
def ptF (l : List Int) (v : Int) : Int := l.getD (posF l v % l.length) 0
set_option maxHeartbeats 1000000 in
theorem ring_owner0 {c : Col} {π : List Int} {w : World} {rb : Nat} (v : Int) (h : RingR c π w rb []) :
    Calls Try.prog 66 #[.pointer (some ⟨rb, 0, none⟩), .int .u32 v] w fun e w' => e = .returned (.tuple #[.int .u32 0, .bool false]) ∧ Below w.heap.size w w' := by
  obtain ⟨A, cap, hb, hi⟩ := h.ints
  have hc := hb.cell; have hz := hb.lt
  simp only [List.length_nil] at hc
  clear hb hi h
  go_enter Try.func66, Try.ntmps66
  go_wp2
  exact bodyPost_ret (v := .tuple #[.int .u32 0, .bool false]) (by simp [results, Try.results66, go_sem]) rfl ⟨rfl, (by repeat (first | exact Below.refl _ _ | assumption | apply Below.drew | apply belowN | (refine Below.alloc ?_ (by first | exact Nat.le_refl _ | (simp; done) | (simp; omega)) _) | (refine Below.setCell ?_ (by first | exact Nat.le_refl _ | (simp; done) | (simp; omega)) _)))⟩
set_option maxHeartbeats 1000000 in
theorem ring_owner1 {c : Col} {π : List Int} {w : World} {rb : Nat} {l : List Int} (v : Int) (h : RingR c π w rb l) (hl : l ≠ []) :
    Calls Try.prog 66 #[.pointer (some ⟨rb, 0, none⟩), .int .u32 v] w fun e w' => e = .returned (.tuple #[.int .u32 (ptF l v), .bool true]) ∧ Below w.heap.size w w' := by
  obtain ⟨A, cap, hb, hi⟩ := h.ints
  obtain ⟨_, _, _, _, _, _, hk, hlen⟩ := h
  have hn0 : l.length ≠ 0 := fun e => hl (List.eq_nil_of_length_eq_zero e)
  obtain ⟨q, hq⟩ : ∃ q, posF l v % l.length = q := ⟨_, rfl⟩
  have hql : q < l.length := by rw [← hq]; exact Nat.mod_lt _ (by omega)
  obtain ⟨bb, off, rfl, _, hcell⟩ := hi.2.2.2.2.2.2 (by omega)
  have hcq := hcell q hql
  have hown : ptF l v = l.getD q 0 := by unfold ptF; rw [hq]
  have hc := hb.cell; have hz := hb.lt
  have HI := Lib.hid hi; have HK := Lib.hid hk
  rw [hown]
  obtain ⟨y, hy⟩ : ∃ y, l.getD q 0 = y := ⟨_, rfl⟩
  rw [hy] at hcq ⊢
  have hpl := posF_le l v
  have HB := Lib.hid (bin_u32 v w HI.out HK.out.le)
  clear hb hi hk hcell hown hy hl
  obtain ⟨n, hn⟩ : ∃ n, l.length = n := ⟨_, rfl⟩
  obtain ⟨ps, hps⟩ : ∃ ps, posF l v = ps := ⟨_, rfl⟩
  rw [hn] at hc hql hlen hn0 hq HB hpl
  rw [hps] at hq HB hpl
  have hrem : ((ps : Int)).tmod (n : Int) = (q : Int) := by rw [← hq]; exact (Int.ofNat_tmod ps n).symm
  have hnz : ¬ ((n : Int) = 0) := by omega
  have hnz2 : ((n : Int) == 0) = false := by rw [beq_eq_false_iff_ne]; exact hnz
  have hnn : ¬ n = 0 := hn0
  have hb1 : (0 : Int) ≤ (q : Int) := by omega
  have hb2 : (q : Int) < (n : Int) := by omega
  have hwq : IntKind.i64.wrap (q : Int) = q := wrap_nat64 (by omega)
  clear hq HI hn hps
  go_enter Try.func66, Try.ntmps66
  go_upto_region 4 with (go_at_call 57; go_loud ((with_reducible refine HB.out.mono ?_); rintro e w' ⟨rfl, hd⟩; have hc2 : ∀ i, w'.cell? ⟨rb, i, none⟩ = #[Value.slice (some ⟨bb, off, none⟩) n cap][i]? := (fun i => (hd.cell _).trans (hc i)); have hcq2 : w'.cell? ⟨bb, off + q, none⟩ = some (.int .u32 y) := (hd.cell _).trans hcq; have HD := Lib.hid hd; clear hd))
  clear hc hcq
  go_quiet (fail)
  all_goals
    go_wp2
    exact bodyPost_ret (v := .tuple #[.int .u32 y, .bool true]) (by simp [results, Try.results66, go_sem]) rfl ⟨rfl, (HD.out.drewN _).below⟩
def stepP (p : Int) : Int := (p + 1) % 4294967296
theorem ring_next1 {c : Col} {π : List Int} {w : World} {rb : Nat} {l : List Int} (p : Int) (h : RingR c π w rb l) (hl : l ≠ []) :
    Calls Try.prog 65 #[.pointer (some ⟨rb, 0, none⟩), .int .u32 p] w fun e w' => e = .returned (.tuple #[.int .u32 (ptF l (stepP p)), .bool true]) ∧ Below w.heap.size w w' := by
  have HC := Lib.hid (ring_owner1 (stepP p) h hl)
  unfold stepP at HC ⊢
  clear h hl
  go_enter Try.func65, Try.ntmps65
  go_wp2_with (go_at_call 66; go_loud ((with_reducible refine HC.out.mono ?_); rintro e w' ⟨rfl, hb⟩))
  exact bodyPost_ret (v := .tuple #[.int .u32 (ptF l ((p + 1) % 4294967296)), .bool true]) (by simp [results, Try.results65, go_sem]) rfl ⟨rfl, hb⟩
end Go.Proofs.Ytjcbmfopcohcmaa
