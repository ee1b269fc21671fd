/- sample.Mean and the references' Mean; the references' May: of loads that read so. Conditions: no more than a thousand loads (Mean). -/
import Derived.Test.YtjniholnmjafeaaLoads
import Derived.WalkKit
import Derived.Lib.Hide
import Derived.Outline
import Derived.Deep.QuietTactic
import Derived.BigQuiet
namespace Go.Proofs.Ytjniholnmjafeaa
open Go.RowKit Go.ChangeShapes
set_option maxRecDepth 100000
set_option linter.unusedVariables false

theorem sum_take {l : List Ld} {k : Nat} {x : Ld} (hx : l[k]? = some x) : sumF (l.take (k + 1)) = sumF (l.take k) + clampF x.en := by
  rw [take_snocL hx]; simp [sumF]
theorem clamp_bd (n : Int) : 0 ≤ clampF n ∧ clampF n ≤ 2147483647 := by unfold clampF; omega
theorem sum_bd (l : List Ld) : 0 ≤ sumF l ∧ sumF l ≤ 2147483647 * l.length := by
  unfold sumF
  induction l with
  | nil => simp
  | cons x r ih =>
    have := clamp_bd x.en
    simp only [List.map_cons, List.sum_cons, List.length_cons]
    omega
theorem mean_bd {l : List Ld} (h : l.length ≤ 1000) : 0 ≤ meanF l ∧ meanF l ≤ 549755813632 := by
  unfold meanF
  split
  · omega
  · rename_i hl
    have := sum_bd l
    have h1 : 0 < l.length := List.length_pos_iff.2 hl
    refine ⟨Int.ediv_nonneg (by omega) (by omega), ?_⟩
    refine Int.le_of_lt_add_one (Int.ediv_lt_of_lt_mul (by omega) ?_)
    have h2 : (1 : Int) ≤ l.length := by omega
    generalize (l.length : Int) = m at *
    omega
theorem ld_cells {w : World} {A : Option Addr} {n cap : Nat} {l : List Ld} (h : Lds w A n cap l) {k : Nat} (hk : k < n) : ∃ (x : Ld) (b off : Nat), l[k]? = some x ∧ A = some ⟨b, off, none⟩ ∧ b < w.heap.size ∧ w.cell? ⟨b, off + k * 2, none⟩ = some (.int .u32 x.pt) ∧ w.cell? ⟨b, off + k * 2 + 1, none⟩ = some (.int .i64 x.en) ∧ x.ok := by
  obtain ⟨x, hx⟩ : ∃ x, l[k]? = some x := ⟨_, List.getElem?_eq_getElem (by rw [h.1]; exact hk)⟩
  obtain ⟨b, off, rfl, hb, hc⟩ := h.2.2.2.2.2.2 (by omega)
  obtain ⟨c0, c1⟩ := hc k x hx
  exact ⟨x, b, off, hx, rfl, hb, c0, c1, h.2.2.2.2.2.1 x (List.mem_of_getElem? hx)⟩

theorem u64_eq {a b : Int} (h : a = b) : Value.int .u64 a = .int .u64 b := by rw [h]

set_option maxHeartbeats 1000000 in
theorem bal_mean {A : Option Addr} {n cap : Nat} {l : List Ld} (w : World) (h : Lds w A n cap l) (hn : n ≤ 1000) :
    Calls Try.prog 77 #[.slice A n cap] w fun e w' => e = .returned (.int .u64 (meanF l)) ∧ Below w.heap.size w w' := by
  have HH := Lib.hid h
  have HL := Lib.hid h.1
  clear h
  by_cases h0 : n = 0
  · subst h0
    have hf := Lib.hid (show meanF l = 0 by unfold meanF; rw [if_pos (List.eq_nil_of_length_eq_zero HL.out)])
    go_enter Try.func77, Try.ntmps77
    go_wp2
    go_ret
    exact ⟨(by first | (rw [hf.out]; done) | (rw [hf.out]; rfl)), Below.refl _ _⟩
  · have hne : ((n : Int) == 0) = false := by rw [beq_eq_false_iff_ne]; omega
    go_enter Try.func77, Try.ntmps77
    go_wp2
    go_loopw [3, 11] (fun s i wr => ∃ k : Nat, k ≤ n ∧ i = .int .i64 k ∧ s = .int .u64 (sumF (l.take k)) ∧ Below w.heap.size w wr) (fun _ i _ => n - (intOf i).toNat)
    case atStart => exact ⟨0, Nat.zero_le _, rfl, rfl, Below.refl _ _⟩
    case round =>
      obtain ⟨k, hk, rfl, rfl, hB⟩ := hrel
      have HB := Lib.hid hB
      clear hB
      obtain ⟨s0, s1⟩ := sum_bd (l.take k)
      have hlk : (l.take k).length = k := by rw [List.length_take, HL.out]; omega
      rw [hlk] at s1
      clear hlk
      by_cases hlt : k < n
      · obtain ⟨x, b, off, hx, rfl, hb, c0, c1, hok⟩ := ld_cells HH.out hlt
        have d0 := (HB.out.cell (p := ⟨b, off + k * 2, none⟩) hb).trans c0
        have d1 := (HB.out.cell (p := ⟨b, off + k * 2 + 1, none⟩) hb).trans c1
        obtain ⟨⟨p0, p1⟩, ⟨e0, e1⟩⟩ := hok
        have hs := sum_take hx
        clear c0 c1 hx
        obtain ⟨p, e⟩ := x
        dsimp only at *
        have HS := Lib.hid hs
        clear hs
        go_wp2
        go_roundw
        case rel => exact ⟨k + 1, by omega, by go_num, u64_eq (by rw [HS.out]; unfold clampF; (repeat' split) <;> omega), by first | exact HB.out.alloc HB.out.size _ | exact HB.out⟩
        case measure => simp [intOf]; omega
      · have hf := Lib.hid (show meanF l = sumF (l.take k) * 256 / (n : Int) by
          unfold meanF
          rw [if_neg (by intro h; rw [h] at HL; exact h0 HL.out.symm), HL.out, List.take_of_length_le (by rw [HL.out]; omega)])
        go_wp2
        go_ret
        exact ⟨by first | (rw [hf.out]; done) | (rw [hf.out]; rfl) | (rw [hf.out, Int.mul_comm (sumF _)]; rfl), HB.out⟩
set_option maxHeartbeats 1000000 in
theorem bal_rmean {A : Option Addr} {n cap : Nat} {l : List Ld} (w : World) (h : Lds w A n cap l) (hn : n ≤ 1000) :
    Calls Try.prog 59 #[.slice A n cap] w fun e w' => e = .returned (.int .u64 (meanF l)) ∧ Below w.heap.size w w' := by
  have HH := Lib.hid h
  have HL := Lib.hid h.1
  clear h
  by_cases h0 : n = 0
  · subst h0
    have hf := Lib.hid (show meanF l = 0 by unfold meanF; rw [if_pos (List.eq_nil_of_length_eq_zero HL.out)])
    go_enter Try.func59, Try.ntmps59
    go_wp2
    go_ret
    exact ⟨(by first | (rw [hf.out]; done) | (rw [hf.out]; rfl)), Below.refl _ _⟩
  · have hne : ((n : Int) == 0) = false := by rw [beq_eq_false_iff_ne]; omega
    go_enter Try.func59, Try.ntmps59
    go_wp2
    go_loopw [3, 4] (fun s i wr => ∃ k : Nat, k ≤ n ∧ i = .int .i64 k ∧ s = .int .u64 (sumF (l.take k)) ∧ Below w.heap.size w wr) (fun _ i _ => n - (intOf i).toNat)
    case atStart => exact ⟨0, Nat.zero_le _, rfl, rfl, Below.refl _ _⟩
    case round =>
      obtain ⟨k, hk, rfl, rfl, hB⟩ := hrel
      have HB := Lib.hid hB
      clear hB
      obtain ⟨s0, s1⟩ := sum_bd (l.take k)
      have hlk : (l.take k).length = k := by rw [List.length_take, HL.out]; omega
      rw [hlk] at s1
      clear hlk
      by_cases hlt : k < n
      · obtain ⟨x, b, off, hx, rfl, hb, c0, c1, hok⟩ := ld_cells HH.out hlt
        have d0 := (HB.out.cell (p := ⟨b, off + k * 2, none⟩) hb).trans c0
        have d1 := (HB.out.cell (p := ⟨b, off + k * 2 + 1, none⟩) hb).trans c1
        obtain ⟨⟨p0, p1⟩, ⟨e0, e1⟩⟩ := hok
        have hs := sum_take hx
        clear c0 c1 hx
        obtain ⟨p, e⟩ := x
        dsimp only at *
        have HS := Lib.hid hs
        clear hs
        go_wp2
        go_roundw
        case rel => exact ⟨k + 1, by omega, by go_num, u64_eq (by rw [HS.out]; unfold clampF; (repeat' split) <;> omega), by first | exact HB.out.alloc HB.out.size _ | exact HB.out⟩
        case measure => simp [intOf]; omega
      · have hf := Lib.hid (show meanF l = sumF (l.take k) * 256 / (n : Int) by
          unfold meanF
          rw [if_neg (by intro h; rw [h] at HL; exact h0 HL.out.symm), HL.out, List.take_of_length_le (by rw [HL.out]; omega)])
        go_wp2
        go_ret
        exact ⟨by first | (rw [hf.out]; done) | (rw [hf.out]; rfl) | (rw [hf.out, Int.mul_comm (sumF _)]; rfl), HB.out⟩

theorem dup_at {l : List Ld} {k j : Nat} {x y : Ld} (hx : l[k]? = some x) (hy : l[j]? = some y) (hj : j < k) (he : y.pt = x.pt) (h : mayF l = mayGo (l.take k) (l.drop k)) : mayF l = false := by
  rw [may_at hx h]
  have : ((l.take k).any fun y => y.pt == x.pt) = true := List.any_eq_true.2 ⟨y, List.mem_of_getElem? (i := j) (by rw [List.getElem?_take_of_lt hj]; exact hy), by simp [he]⟩
  simp [okAt, this]
theorem any_step {l : List Ld} {j : Nat} {y : Ld} {p : Int} (hy : l[j]? = some y) (hne : ¬ y.pt = p) (h : ((l.take j).any fun y => y.pt == p) = false) : ((l.take (j + 1)).any fun y => y.pt == p) = false := by
  rw [take_snocL hy, List.any_append, h]; simp [hne]
set_option maxHeartbeats 1000000 in
theorem bal_rmay {A : Option Addr} {n cap : Nat} {l : List Ld} (w : World) (h : Lds w A n cap l) :
    Calls Try.prog 81 #[.slice A n cap] w fun e w' => e = .returned (.bool (mayF l)) ∧ Below w.heap.size w w' := by
  have HH := Lib.hid h
  have HL := Lib.hid h.1
  have bn : n ≤ 140737488351232 := by have := h.2.2.2.1; omega
  clear h
  go_enter Try.func81, Try.ntmps81
  go_wp2
  go_loopw [3] (fun i wr => ∃ k : Nat, k ≤ n ∧ i = .int .i64 k ∧ mayF l = mayGo (l.take k) (l.drop k) ∧ Below w.heap.size w wr) (fun i _ => n - (intOf i).toNat)
  case atStart => exact ⟨0, Nat.zero_le _, rfl, may_start l, Below.refl _ _⟩
  case round =>
    obtain ⟨k, hk, rfl, hm, hB⟩ := hrel
    have HM := Lib.hid hm; have HB := Lib.hid hB
    clear hm hB
    by_cases hlt : k < n
    · obtain ⟨x, b, off, hx, rfl, hb, c0, c1, hok⟩ := ld_cells HH.out hlt
      have d0 := (HB.out.cell (p := ⟨b, off + k * 2, none⟩) hb).trans c0
      have d1 := (HB.out.cell (p := ⟨b, off + k * 2 + 1, none⟩) hb).trans c1
      obtain ⟨⟨p0, p1⟩, ⟨e0, e1⟩⟩ := hok
      have HX := Lib.hid hx
      have MS := Lib.hid (may_at hx HM.out)
      have C0 := Lib.hid c0
      clear c0 c1 hx
      obtain ⟨p, e⟩ := x
      dsimp only at *
      by_cases t1 : e < 0
      · have hf := Lib.hid (show mayF l = false by rw [MS.out]; unfold okAt; simp only [show decide (0 ≤ e) = false from by simp; omega]; simp)
        go_wp2
        go_ret
        exact ⟨(by first | (rw [hf.out]; done) | (rw [hf.out]; rfl)), HB.out⟩
      · by_cases t2 : 2147483647 < e
        · have hf := Lib.hid (show mayF l = false by rw [MS.out]; unfold okAt; simp only [show decide (e ≤ 2147483647) = false from by simp; omega]; simp)
          go_wp2
          go_ret
          exact ⟨(by first | (rw [hf.out]; done) | (rw [hf.out]; rfl)), HB.out⟩
        · go_wp2
          obtain ⟨wo, hwo⟩ : ∃ wo : World, wo = wr := ⟨_, rfl⟩
          go_loopw [4] (fun i w2 => ∃ j : Nat, j ≤ k ∧ i = .int .i64 j ∧ ((l.take j).any fun y => y.pt == p) = false ∧ Below w.heap.size w w2) (fun i _ => k - (intOf i).toNat)
          case atStart => exact ⟨0, Nat.zero_le _, rfl, rfl, HB.out⟩
          case round =>
            obtain ⟨j, hj, rfl, hany, hB2⟩ := hrel
            have HB2 := Lib.hid hB2; have HA := Lib.hid hany
            clear hB2 hany d0 d1
            have d0 := (HB2.out.cell (p := ⟨b, off + k * 2, none⟩) hb).trans C0.out
            by_cases hjk : j < k
            · obtain ⟨y, b', off', hy, he', hb', q0, q1, hok'⟩ := ld_cells HH.out (show j < n by omega)
              injection he' with he'
              injection he' with he1 he2
              subst he1 he2
              have s0 := (HB2.out.cell (p := ⟨b, off + j * 2, none⟩) hb).trans q0
              have HY := Lib.hid hy
              clear q0 q1 hok' hy
              by_cases hpe : y.pt = p
              · have hf := Lib.hid (dup_at HX.out HY.out hjk hpe HM.out)
                rw [hpe] at s0
                clear hpe
                go_wp2
                go_quiet (fail)
                go_wp2
                go_ret
                exact ⟨(by first | (rw [hf.out]; done) | (rw [hf.out]; rfl)), belowN HB2.out _⟩
              · have hne : (y.pt == p) = false := by rw [beq_eq_false_iff_ne]; exact hpe
                have HA2 := Lib.hid (any_step HY.out hpe HA.out)
                go_wp2
                go_quiet (fail)
                go_wp2
                go_roundw
                case rel => exact ⟨j + 1, by omega, by go_num, HA2.out, belowN HB2.out _⟩
                case measure => simp [intOf]; omega
            · have hjk2 : j = k := by omega
              subst hjk2
              have MS2 := Lib.hid (show mayF l = mayGo (l.take (j + 1)) (l.drop (j + 1)) by rw [MS.out]; simp only [okAt, HA.out, show decide (0 ≤ e) = true from by simp; omega, show decide (e ≤ 2147483647) = true from by simp; omega]; simp)
              go_wp2
              go_roundw
              case rel => exact ⟨j + 1, by omega, by go_num, MS2.out, HB2.out⟩
              case measure => simp [intOf]; omega
    · have hf := Lib.hid (may_end (by rw [HL.out]; omega) HM.out)
      go_wp2
      go_ret
      exact ⟨(by first | (rw [hf.out]; done) | (rw [hf.out]; rfl)), HB.out⟩
end Go.Proofs.Ytjniholnmjafeaa
