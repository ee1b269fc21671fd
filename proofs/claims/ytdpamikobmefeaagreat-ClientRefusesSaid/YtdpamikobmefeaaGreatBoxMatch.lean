/- Rows of ranges; box.Match; the document's Match. Conditions: the rows read so. -/
import Derived.Test.YtdpamikobmefeaaGreatBox
import Derived.Test.YtdpamikobmefeaaGreatStructs
import Derived.LoopN
namespace Go.Proofs.YtdpamikobmefeaaGreat
open Go.RowKit Go.ChangeShapes
set_option maxRecDepth 100000
set_option linter.unusedVariables false
set_option linter.unusedSimpArgs false

def encR (r : Rng) : List Value := [.int .i64 r.kind, .int .u32 r.lo, .int .u32 r.hi]
/-- A slice of ranges. -/
def RngsAt (w : World) (D : Nat → Prop) (A : Option Addr) (n cap : Nat) (l : List Rng) : Prop :=
  l.length = n ∧ n ≤ cap ∧ cap ≤ 9223372036854775807 ∧ n * 16 ≤ 140737488351232 ∧ (A = none → cap = 0) ∧ (∀ r ∈ l, r.ok) ∧
    (0 < n → ∃ b off, A = some ⟨b, off, none⟩ ∧ D b ∧ ∀ j r, l[j]? = some r → ∀ t u, (encR r)[t]? = some u → w.cell? ⟨b, off + j * 3 + t, none⟩ = some u)
theorem RngsAt.move {w w' : World} {D D' : Nat → Prop} {A : Option Addr} {n cap : Nat} {l : List Rng} (h : RngsAt w D A n cap l) (hm : ∀ b, D b → b < w.heap.size → w'.heap[b]? = w.heap[b]? ∧ D' b) : RngsAt w' D' A n cap l := by
  obtain ⟨h1, h2, h3, h4, h5, h6, h7⟩ := h
  refine ⟨h1, h2, h3, h4, h5, h6, fun hn => ?_⟩
  obtain ⟨b, off, rfl, hd, hc⟩ := h7 hn
  have hlt : b < w.heap.size := by
    have h0 := hc 0 (l[0]'(by omega)) (List.getElem?_eq_getElem (by omega)) 0 _ rfl
    exact World.block_lt_of_cell? w _ h0
  obtain ⟨q1, q2⟩ := hm b hd hlt
  exact ⟨b, off, rfl, q2, fun j r hj t u hu => by rw [← hc j r hj t u hu]; exact World.cell?_of_block q1⟩
theorem matchF_len {b : List Rng} {vs : List Int} (h : b.length ≠ vs.length) : matchF b vs = false := by unfold matchF; simp [h]
theorem matchF_true {b : List Rng} {vs : List Int} (hl : b.length = vs.length) (h : ∀ (j : Nat) r v, b[j]? = some r → vs[j]? = some v → inF r v = true) : matchF b vs = true := by
  unfold matchF
  simp only [hl, decide_true, Bool.true_and, List.all_eq_true]
  intro p hp
  obtain ⟨j, hj⟩ := List.mem_iff_getElem?.1 hp
  rw [List.getElem?_zip_eq_some] at hj
  exact h j _ _ hj.1 hj.2
theorem matchF_false {b : List Rng} {vs : List Int} {j : Nat} {r : Rng} {v : Int} (h1 : b[j]? = some r) (h2 : vs[j]? = some v) (h : inF r v = false) : matchF b vs = false := by
  unfold matchF
  rw [Bool.and_eq_false_iff]
  right
  rw [List.all_eq_false]
  exact ⟨(r, v), List.mem_iff_getElem?.2 ⟨j, List.getElem?_zip_eq_some.2 ⟨h1, h2⟩⟩, by simp [h]⟩
theorem ints_at {w : World} {D : Nat → Prop} {k : IntKind} {bytes : Nat} {A : Option Addr} {n c : Nat} {xs : List Int} (h : Ints w D k bytes A n c xs) : xs.length = n ∧ n ≤ c ∧ c ≤ 9223372036854775807 ∧ ∀ j v, xs[j]? = some v → ∃ b off, A = some ⟨b, off, none⟩ ∧ D b ∧ w.cell? ⟨b, off + j, none⟩ = some (.int k v) := by
  obtain ⟨lx, x2, x3, x4, x5, x6, x7⟩ := h
  refine ⟨lx, x2, by omega, fun j v hv => ?_⟩
  have hj : j < n := by rw [← lx]; exact (List.getElem?_eq_some_iff.1 hv).1
  obtain ⟨b, off, h1, h2, h3⟩ := x7 (by omega)
  refine ⟨b, off, h1, h2, ?_⟩
  rw [h3 j hj, List.getD_eq_getElem?_getD, hv]
  rfl

set_option maxHeartbeats 2000000 in
theorem match_any {D D' : Nat → Prop} {A B : Option Addr} {n c m c' : Nat} {b : List Rng} {vs : List Int} (w : World) (hb : RngsAt w D A n c b) (hv : Ints w D' .u32 4 B m c' vs) (d1 : ∀ b, D b → b < w.heap.size) (d2 : ∀ b, D' b → b < w.heap.size) :
    Calls Tryz.prog 109 #[.slice A n c, .slice B m c'] w fun e w' => e = .returned (.bool (matchF b vs)) ∧ Below w.heap.size w w' := by
  obtain ⟨hn, hnc, hcm, _, _, hok, hcell⟩ := hb
  obtain ⟨hm, hmc, hcm', hcv⟩ := ints_at hv
  have HN := Lib.hid hn; have HM := Lib.hid hm; have HC := Lib.hid hcell; have HV := Lib.hid hcv; have HO := Lib.hid hok
  have D1 := Lib.hid d1; have D2 := Lib.hid d2
  clear hn hm hcell hcv hok d1 d2 hv
  by_cases hnm : n = m
  · subst hnm
    go_enter Tryz.func109, Tryz.ntmps109
    go_wp2
    go_loopw [14] (fun s wr => ∃ k : Nat, k ≤ n ∧ s = .int .i64 k ∧ Below w.heap.size w wr ∧ ∀ (j : Nat) r v, j < k → b[j]? = some r → vs[j]? = some v → inF r v = true) (fun s _ => n - (intOf s).toNat)
    case atStart => exact ⟨0, Nat.zero_le _, rfl, Below.refl _ _, fun j r v hj => by omega⟩
    case round =>
      obtain ⟨k, hk, rfl, hB, hall⟩ := hrel
      have HB := Lib.hid hB; have HA := Lib.hid hall
      clear hB hall
      by_cases hlt : k < n
      · obtain ⟨r, hr⟩ : ∃ r, b[k]? = some r := ⟨_, List.getElem?_eq_getElem (by rw [HN.out]; exact hlt)⟩
        obtain ⟨v, hv⟩ : ∃ v, vs[k]? = some v := ⟨_, List.getElem?_eq_getElem (by rw [HM.out]; exact hlt)⟩
        obtain ⟨bb, off, rfl, hb, hc⟩ := HC.out (by omega)
        obtain ⟨bv, ov, rfl, hbv, hcv⟩ := HV.out k v hv
        have hcs : ∀ t u, (encR r)[t]? = some u → wr.cell? ⟨bb, off + k * 3 + t, none⟩ = some u := fun t u hu => by
          rw [World.cell?_of_block (w := w) (a := ⟨bb, off + k * 3 + t, none⟩) (HB.out.block bb (D1.out bb hb))]; exact hc k r hr t u hu
        have d0 := hcs 0 _ rfl; have d1 := hcs 1 _ rfl; have d2 := hcs 2 _ rfl
        simp only [Nat.add_zero] at d0
        have cv : wr.cell? ⟨bv, ov + k, none⟩ = some (.int .u32 v) := (World.cell?_of_block (w := w) (a := ⟨bv, ov + k, none⟩) (HB.out.block bv (D2.out bv hbv))).trans hcv
        have HIN := Lib.hid (fun w => in_any r v w (HO.out r (List.mem_of_getElem? hr)))
        have HR := Lib.hid hr; have HVV := Lib.hid hv
        have lbv : bv < wr.heap.size := Nat.lt_of_lt_of_le (D2.out bv hbv) HB.out.size
        clear hc hcs hcv hb hbv hr hv
        obtain ⟨rk, rl, rh⟩ := r
        dsimp only at *
        obtain ⟨bo, hbo⟩ : ∃ bo, inF ⟨rk, rl, rh⟩ v = bo := ⟨_, rfl⟩
        rw [hbo] at HIN
        have HBO := Lib.hid hbo
        clear hbo
        go_upto_region 6 with fail
        have HCV := Lib.hid (fun (wx : World) (h : Below wr.heap.size wr wx) => (World.cell?_of_block (w := wr) (a := ⟨bv, ov + k, none⟩) (h.block bv lbv)).trans cv)
        refine wp_abs (fun wx => Box wx wr.heap.size #[.int .i64 rk, .int .u32 rl, .int .u32 rh] ∧ Below wr.heap.size wr wx) ⟨(by repeat (first | apply Box.drew | apply Box.drewN | exact Box.newAt _ _ _ _ (by first | rfl | (simp only [size_alloc]; done) | (simp only [size_alloc]; omega)) | assumption | refine Box.alloc ?_ _)), (by repeat (first | exact Below.refl _ _ | assumption | apply Below.drew | apply belowN | (refine Below.alloc ?_ (by first | exact Nat.le_refl _ | (simp; done) | (simp; omega)) _) | (refine Below.setCell ?_ (by first | exact Nat.le_refl _ | (simp; done) | (simp; omega)) _)))⟩ ?_
        generalize hb3 : wr.heap.size = b3
        rintro wx ⟨X, hB3⟩
        subst hb3
        have cv3 := HCV.out _ hB3
        have c3 := X.cell; have z3 := X.lt
        have HB3 := Lib.hid hB3
        have lb3 : bv < wx.heap.size := Nat.lt_of_lt_of_le lbv HB3.out.size
        clear X hB3 cv d0 d1 d2 HCV
        cases bo
        · have HF := Lib.hid (matchF_false HR.out HVV.out HBO.out)
          go_region_held3 (fun w' => Same wx w') (with_reducible (first | assumption | exact Same.drew _))
            ((go_at_call 118; (with_reducible refine (HIN.out _).mono ?_); rintro e w2 ⟨rfl, hb2⟩; have S1 := Same.step (show Same wx _ by (with_reducible (first | assumption | exact Same.drew _))) hb2; clear hb2))
          all_goals
            go_wp2
            go_ret
            exact ⟨(by first | (rw [HF.out]; done) | (rw [HF.out]; rfl)), below_from HB.out (below_from HB3.out (show Same wx _ by (with_reducible (first | assumption | exact Same.drew _))).1 HB3.out.size) HB.out.size⟩
        · go_region_held3 (fun w' => Same wx w') (with_reducible (first | assumption | exact Same.drew _))
            ((go_at_call 118; (with_reducible refine (HIN.out _).mono ?_); rintro e w2 ⟨rfl, hb2⟩; have S1 := Same.step (show Same wx _ by (with_reducible (first | assumption | exact Same.drew _))) hb2; clear hb2))
          all_goals
            go_wp2
            go_roundw
            case rel => exact ⟨k + 1, by omega, by go_num, below_from HB.out (below_from HB3.out (show Same wx _ by (with_reducible (first | assumption | exact Same.drew _))).1 HB3.out.size) HB.out.size, fun j r v hj h1 h2 => by
                by_cases hjk : j < k
                · exact HA.out j r v hjk h1 h2
                · obtain rfl : j = k := by omega
                  rw [HR.out] at h1; rw [HVV.out] at h2
                  injection h1 with h1; injection h2 with h2
                  rw [← h1, ← h2]; exact HBO.out⟩
            case measure => simp [intOf]; omega
      · have HF := Lib.hid (matchF_true (b := b) (vs := vs) (by rw [HN.out, HM.out]) fun j r v hj hv => HA.out j r v (by have := (List.getElem?_eq_some_iff.1 hj).1; rw [HN.out] at this; omega) hj hv)
        go_wp2
        go_ret
        exact ⟨(by first | (rw [HF.out]; done) | (rw [HF.out]; rfl)), HB.out⟩
  · have hne : ((n : Int) != (m : Int)) = true := by rw [bne_iff_ne]; omega
    have HF := Lib.hid (matchF_len (b := b) (vs := vs) (by rw [HN.out, HM.out]; exact hnm))
    rw [HF.out]
    go_enter Tryz.func109, Tryz.ntmps109
    go_wp2
    go_ret
    exact ⟨rfl, Below.refl _ _⟩
end Go.Proofs.YtdpamikobmefeaaGreat
