/- slices.Sort at whole numbers: siftDown, heapSort. Conditions: the row is one's own. -/
import Derived.Test.YtpkeddiaoacfeaaSrtBrk
namespace Go.Proofs.Ytpkeddiaoacfeaa
open Go.RowKit Go.Sort
set_option maxRecDepth 100000
set_option linter.unusedVariables false
set_option linter.unusedSimpArgs false

theorem sift_stop {hi f r : Nat} {d : Array Int} (h : hi ≤ 2 * r + 1) : siftDown ltInt hi f r d = d := by
  unfold siftDown; rw [dif_pos h]
theorem sift_two {hi f r : Nat} {d : Array Int} (h : 2 * r + 2 < hi) (hl : d[f + (2 * r + 1)]! < d[f + (2 * r + 2)]!) :
    siftDown ltInt hi f r d = if d[f + r]! < d[f + (2 * r + 2)]! then siftDown ltInt hi f (2 * r + 2) (swp d (f + r) (f + (2 * r + 2))) else d := by
  conv => lhs; unfold siftDown
  rw [dif_neg (by omega), if_pos (by simp [ltInt]; exact ⟨by omega, hl⟩)]
  by_cases h2 : d[f + r]! < d[f + (2 * r + 2)]!
  · rw [if_neg (by simp [ltInt, h2]), dif_pos h, if_pos h2]
  · rw [if_pos (by simp [ltInt]; omega), if_neg h2]
theorem sift_one {hi f r : Nat} {d : Array Int} (h0 : 2 * r + 1 < hi) (h : ¬ (2 * r + 2 < hi ∧ d[f + (2 * r + 1)]! < d[f + (2 * r + 2)]!)) :
    siftDown ltInt hi f r d = if d[f + r]! < d[f + (2 * r + 1)]! then siftDown ltInt hi f (2 * r + 1) (swp d (f + r) (f + (2 * r + 1))) else d := by
  conv => lhs; unfold siftDown
  rw [dif_neg (by omega), if_neg (by simp only [ltInt, Bool.and_eq_true, decide_eq_true_eq]; exact h)]
  by_cases h2 : d[f + r]! < d[f + (2 * r + 1)]!
  · rw [if_neg (by simp [ltInt, h2]), if_pos h2]
  · rw [if_pos (by simp [ltInt]; omega), if_neg h2]

theorem size_siftDown (hi F root : Nat) (d : Array Int) : (siftDown ltInt hi F root d).size = d.size := by
  have key : ∀ n root (d : Array Int), hi - root ≤ n → (siftDown ltInt hi F root d).size = d.size := by
    intro n
    induction n with
    | zero => intro root d h; rw [sift_stop (by omega)]
    | succ n ih =>
      intro root d h
      by_cases h0 : hi ≤ 2 * root + 1
      · rw [sift_stop h0]
      · by_cases h2 : 2 * root + 2 < hi ∧ d[F + (2 * root + 1)]! < d[F + (2 * root + 2)]!
        · rw [sift_two h2.1 h2.2]
          split
          · rw [ih _ _ (by omega), size_swp']
          · rfl
        · rw [sift_one (by omega) h2]
          split
          · rw [ih _ _ (by omega), size_swp']
          · rfl
  exact key _ root d (Nat.le_refl _)
set_option maxHeartbeats 4000000 in
theorem srt_sift_u64 {T : TypeId} {C0 : Array Value} {w0 w : World} {b cap lo hi f n : Nat} {d : Array Int} (h : RowI .u64 T C0 w0 b d w) (hn : d.size = n) (hlo : lo ≤ hi) (hf : f + hi ≤ n) (hsz : n < 4611686018427387904) :
    Calls Try.prog 143 #[.slice (some ⟨b, 0, none⟩) n cap, .int .i64 lo, .int .i64 hi, .int .i64 f] w fun e w' => e = .returned (.tuple #[]) ∧ RowI .u64 T C0 w0 b (siftDown ltInt hi f lo d) w' := by
  have HH := Lib.hid h; have HN := Lib.hid hn
  clear h hn
  go_enter Try.func143, Try.ntmps143
  go_wp2
  go_loopw [8] (fun s wr => ∃ (r : Nat) (dk : Array Int), s = .int .i64 r ∧ r ≤ hi ∧ dk.size = n ∧ RowI .u64 T C0 w0 b dk wr ∧ siftDown ltInt hi f r dk = siftDown ltInt hi f lo d) (fun r _ => hi - (intOf r).toNat)
  case atStart => exact ⟨lo, d, rfl, hlo, HN.out, HH.out, rfl⟩
  case round =>
    obtain ⟨r, dk, rfl, hr, hk, hR, hE⟩ := hrel
    have HR := Lib.hid hR; have HE := Lib.hid hE; have HK := Lib.hid hk
    clear hR hE hk
    obtain ⟨c1, hc1⟩ : ∃ c1, c1 = 2 * r + 1 := ⟨_, rfl⟩
    obtain ⟨c2, hc2⟩ : ∃ c2, c2 = 2 * r + 2 := ⟨_, rfl⟩
    have E1 : 2 * (r : Int) + 1 = (c1 : Int) := by omega
    have E2 : (c1 : Int) + 1 = (c2 : Int) := by omega
    have HC1 := Lib.hid hc1; have HC2 := Lib.hid hc2
    by_cases hA : hi ≤ c1
    · have HO := Lib.hid (show dk = siftDown ltInt hi f lo d by rw [← HE.out, sift_stop (by omega)])
      clear hc1 hc2
      go_wp2
      go_end0
      rw [← HO.out]
      exact ⟨rfl, HR.out⟩
    · obtain ⟨a, ha⟩ : ∃ a, a = f + r := ⟨_, rfl⟩
      obtain ⟨e1, he1⟩ : ∃ e1, e1 = f + c1 := ⟨_, rfl⟩
      obtain ⟨e2, he2⟩ : ∃ e2, e2 = f + c2 := ⟨_, rfl⟩
      have A1 : (f : Int) + (r : Int) = (a : Int) := by omega
      have F1 : (f : Int) + (c1 : Int) = (e1 : Int) := by omega
      have F2 : (f : Int) + (c2 : Int) = (e2 : Int) := by omega
      have F3 : (e1 : Int) + 1 = (e2 : Int) := by omega
      have hba : a < n := by omega
      have hb1 : e1 < n := by omega
      have hcc1 : c1 < hi := by omega
      have hrc1 : r < c1 := by omega
      have hrc2 : r < c2 := by omega
      have HA := Lib.hid ha; have HE1 := Lib.hid he1; have HE2 := Lib.hid he2
      have hb2 : c2 < hi → e2 < n := by omega
      have HB2 := Lib.hid hb2
      clear hc1 hc2 ha he1 he2 hb2
      have ca := HR.out.cell (i := a) (by have := HK.out; omega)
      have cc1 := HR.out.cell (i := e1) (by have := HK.out; omega)
      have hcases : ∃ c e, ((c = c2 ∧ e = e2 ∧ c2 < hi ∧ dk[e1]! < dk[e2]!) ∨ (c = c1 ∧ e = e1 ∧ c2 < hi ∧ ¬ dk[e1]! < dk[e2]!) ∨ (c = c1 ∧ e = e1 ∧ ¬ c2 < hi)) := by
        by_cases h2 : c2 < hi
        · by_cases hl : dk[e1]! < dk[e2]!
          · exact ⟨c2, e2, .inl ⟨rfl, rfl, h2, hl⟩⟩
          · exact ⟨c1, e1, .inr (.inl ⟨rfl, rfl, h2, hl⟩)⟩
        · exact ⟨c1, e1, .inr (.inr ⟨rfl, rfl, h2⟩)⟩
      obtain ⟨c, e, hcases⟩ := hcases
      have STEP : Hid (siftDown ltInt hi f r dk = (if dk[a]! < dk[e]! then siftDown ltInt hi f c (swp dk a e) else dk) ∧ r < c ∧ c < hi ∧ e < n) := by
        have q1 := HC1.out; have q2 := HC2.out; have q3 := HA.out; have q4 := HE1.out; have q5 := HE2.out
        rcases hcases with ⟨rfl, rfl, h2, hl⟩ | ⟨rfl, rfl, h2, hl⟩ | ⟨rfl, rfl, h2⟩
        · refine ⟨?_, hrc2, h2, HB2.out h2⟩
          rw [q3, q5, q2]
          exact sift_two (by omega) (by rw [q4, q5, q1, q2] at hl; exact hl)
        · refine ⟨?_, hrc1, hcc1, hb1⟩
          rw [q3, q4, q1]
          exact sift_one (by omega) (fun h => hl (by rw [q4, q5, q1, q2]; exact h.2))
        · refine ⟨?_, hrc1, hcc1, hb1⟩
          rw [q3, q4, q1]
          exact sift_one (by omega) (fun h => h2 (by omega))
      have TWO : Hid (c2 < hi → wr.cell? ⟨b, e2, none⟩ = some (.int .u64 dk[e2]!)) := fun h => HR.out.cell (by have := HK.out; have := HB2.out h; omega)
      rcases hcases with ⟨hc, he, h2, hl⟩ | ⟨hc, he, h2, hl⟩ | ⟨hc, he, h2⟩
      all_goals
        (first | (have HL := Lib.hid (decide_eq_false hl)) | (have HL := Lib.hid (decide_eq_true hl)) | (have HL := Lib.hid (show (0 : Nat) = 0 from rfl)))
        (try have ce2 := TWO.out h2)
        subst hc
        subst he
        (try clear hl)
        have hen := STEP.out.2.2.2
        have hch := STEP.out.2.2.1
        have hrc := STEP.out.2.1
        clear TWO
        go_upto_region 3 with fail
        (first | (go_quiet ((go_at_call 137; exact Calls.quiet_of_same (lessq_u64 _ _ _))); rw [HL.out]) | go_quiet (fail))
        go_upto_region 5 with fail
      all_goals
        refine wp_abs (fun wx => RowI .u64 T C0 w0 b dk wx) (by first | exact HR.out | exact HR.out.drewN _) ?_
        intro wx Rx
        have HX := Lib.hid Rx
        have ka := Rx.cell (i := a) (by have := HK.out; omega)
        have ke := Rx.cell (i := e) (by have := HK.out; omega)
        have STP := Lib.hid STEP.out.1
        have HSW := Lib.hid (fun (wy : World) (Ry : RowI .u64 T C0 w0 b dk wy) => (⟨Ry.cell (i := a) (by have := HK.out; omega), Ry.cell (i := e) (by have := HK.out; omega), Ry.swap (i := a) (j := e) (by have := HK.out; omega) (by have := HK.out; omega)⟩ : _ ∧ _ ∧ _))
        have fz := Rx.free
        have zb := Rx.lt
        clear ca cc1 Rx
        (try clear ce2)
        generalize hu : dk[a]! = u at *
        generalize hv : dk[e]! = v at *
        clear hu hv
        by_cases huv : u < v
        · have HLT := Lib.hid (show decide (u < v) = true from decide_eq_true huv)
          have HS := Lib.hid (show siftDown ltInt hi f c (swp dk a e) = siftDown ltInt hi f lo d by rw [← HE.out, STP.out, if_pos huv])
          clear STEP STP huv
          go_quiet ((go_at_call 137; exact Calls.quiet_of_same (lessq_u64 _ _ _)))
          rw [HLT.out]
          go_upto_region 6 with fail
          refine wp_abs (fun wy => RowI .u64 T C0 w0 b dk wy) (HX.out.drewN _) ?_
          intro wy Ry
          have HY := Lib.hid Ry
          obtain ⟨k1, k2, k3⟩ := HSW.out wy Ry
          have HS3 := Lib.hid k3
          have fy := Ry.free
          have zy := Ry.lt
          clear ka ke fz zb k3 Ry
          go_region
          have HS4 := Lib.hid HS3.out.drew
          clear k1 k2 fy zy
          go_wp2
          go_roundw
          case rel => exact ⟨c, swp dk a e, by go_num, by omega, by rw [size_swp']; exact HK.out, HS4.out, HS.out⟩
          case measure => simp [intOf]; omega
        · have HLT := Lib.hid (show decide (u < v) = false from decide_eq_false huv)
          have HS := Lib.hid (show dk = siftDown ltInt hi f lo d by rw [← HE.out, STP.out, if_neg huv])
          clear STEP STP huv
          go_quiet ((go_at_call 137; exact Calls.quiet_of_same (lessq_u64 _ _ _)))
          rw [HLT.out]
          go_wp2
          (try simp only [Exit.inBlock, Exit.then]); refine bodyPost_ret (results_none rfl _ _ _) rfl ?_
          rw [← HS.out]
          exact ⟨rfl, HX.out.drewN _⟩
theorem srt_sift0_u64 {T : TypeId} {C0 : Array Value} {w0 w : World} {b cap hi f n : Nat} {d : Array Int} (h : RowI .u64 T C0 w0 b d w) (hn : d.size = n) (hf : f + hi ≤ n) (hsz : n < 4611686018427387904) :
    Calls Try.prog 143 #[.slice (some ⟨b, 0, none⟩) n cap, .int .i64 0, .int .i64 hi, .int .i64 f] w fun e w' => e = .returned (.tuple #[]) ∧ RowI .u64 T C0 w0 b (siftDown ltInt hi f 0 d) w' :=
  srt_sift_u64 (lo := 0) h hn (Nat.zero_le _) hf hsz
set_option maxHeartbeats 4000000 in
theorem srt_heap_u64 {T : TypeId} {C0 : Array Value} {w0 w : World} {b cap x y n : Nat} {d : Array Int} (h : RowI .u64 T C0 w0 b d w) (hn : d.size = n) (hxy : x < y) (hy : y ≤ n) (hsz : n < 4611686018427387904) :
    Calls Try.prog 132 #[.slice (some ⟨b, 0, none⟩) n cap, .int .i64 x, .int .i64 y] w fun e w' => e = .returned (.tuple #[]) ∧ RowI .u64 T C0 w0 b (heapSort ltInt d x y) w' := by
  obtain ⟨l, rfl⟩ : ∃ l, y = x + l := ⟨y - x, by omega⟩
  have HH := Lib.hid h; have HN := Lib.hid hn
  obtain ⟨m, hm⟩ : ∃ m, m = (l - 1) / 2 := ⟨_, rfl⟩
  have e1 : ((x : Int) + (l : Int)) - (x : Int) = (l : Int) := by omega
  have e2 : ((l : Int) - 1) / 2 = (m : Int) := by omega
  have HM := Lib.hid hm
  have hml : m ≤ l := by omega
  have hl0 : 1 ≤ l := by omega
  have HFIN := Lib.hid (show heapSort ltInt d x (x + l) = heapPop ltInt x l (heapBuild ltInt l x (m + 1) d) by unfold heapSort; rw [show x + l - x = l by omega, hm])
  clear h hn hm
  rw [show ((x + l : Nat) : Int) = (x : Int) + (l : Int) from Int.natCast_add x l]
  go_enter Try.func132, Try.ntmps132
  go_wp2
  rw [e2]
  clear e1 e2
  go_loopw [9] (fun s9 wr => ∃ (k : Nat) (t : Int) (dk : Array Int), s9 = .int .i64 t ∧ t = (k : Int) - 1 ∧ k ≤ m + 1 ∧ dk.size = n ∧ RowI .u64 T C0 w0 b dk wr ∧ heapBuild ltInt l x k dk = heapBuild ltInt l x (m + 1) d) (fun i _ => (intOf i + 1).toNat)
  case atStart => exact ⟨m + 1, _, d, rfl, by omega, Nat.le_refl _, HN.out, HH.out, rfl⟩
  case round =>
    obtain ⟨k, t, dk, rfl, ht, hk, hs, hR, hE⟩ := hrel
    have HR := Lib.hid hR; have HE := Lib.hid hE; have HK := Lib.hid hs
    clear hR hE hs
    cases k with
    | succ q =>
      obtain rfl : t = (q : Int) := by omega
      clear ht
      have hq0 : (0 : Int) ≤ (q : Int) := by omega
      go_wp2_with (go_at_call 143; go_loud ((with_reducible refine (srt_sift_u64 (lo := q) (hi := l) (f := x) HR.out HK.out (by omega) (by omega) hsz).mono ?_); rintro e3 w3 ⟨rfl, hR3⟩; have HR3 := Lib.hid hR3; clear hR3))
      have HE3 := Lib.hid (show heapBuild ltInt l x q (siftDown ltInt l x q dk) = heapBuild ltInt l x (m + 1) d by rw [← HE.out]; rfl)
      go_roundw
      case rel => exact ⟨q, _, _, rfl, rfl, by omega, by rw [size_siftDown]; exact HK.out, HR3.out, HE3.out⟩
      case measure => simp [intOf]
    | zero =>
      obtain rfl : t = -1 := by omega
      clear ht
      have HB := Lib.hid (show dk = heapBuild ltInt l x (m + 1) d by rw [← HE.out]; rfl)
      go_wp2
      go_loopw [10] (fun s10 wq => ∃ (k : Nat) (t : Int) (dj : Array Int), s10 = .int .i64 t ∧ t = (k : Int) - 1 ∧ k ≤ l ∧ dj.size = n ∧ RowI .u64 T C0 w0 b dj wq ∧ heapPop ltInt x k dj = heapSort ltInt d x (x + l)) (fun i _ => (intOf i + 1).toNat)
      case atStart => exact ⟨l, _, dk, rfl, rfl, Nat.le_refl _, HK.out, HR.out, by rw [HFIN.out, HB.out]⟩
      case round =>
        obtain ⟨k, t, dj, rfl, ht, hk, hs, hRj, hEj⟩ := hrel
        have HRj := Lib.hid hRj; have HEj := Lib.hid hEj; have HKj := Lib.hid hs
        clear hRj hEj hs
        cases k with
        | succ q =>
          obtain rfl : t = (q : Int) := by omega
          clear ht
          have hq0 : (0 : Int) ≤ (q : Int) := by omega
          obtain ⟨a, ha⟩ : ∃ a, a = x + q := ⟨_, rfl⟩
          have HA := Lib.hid ha
          have A1 : (x : Int) + (q : Int) = (a : Int) := by omega
          have han : a < n := by omega
          have hxn : x < n := by omega
          have k1 := HRj.out.cell (i := x) (by have := HKj.out; omega)
          have k2 := HRj.out.cell (i := a) (by have := HKj.out; omega)
          have fz := HRj.out.free
          have zb := HRj.out.lt
          have HSW := Lib.hid (HRj.out.swap (i := x) (j := a) (by have := HKj.out; omega) (by have := HKj.out; omega))
          obtain ⟨z, hz⟩ := HRj.out.second (i := x) (j := a) (by have := HKj.out; omega) (by have := HKj.out; omega) dj[a]!
          have HST := Lib.hid (show heapPop ltInt x q (siftDown ltInt q x 0 (swp dj x a)) = heapSort ltInt d x (x + l) by rw [← HEj.out, HA.out]; rfl)
          clear ha
          generalize hu : dj[x]! = u at *
          generalize hv : dj[a]! = v at *
          clear hu hv
          go_upto_region 10 with fail
          go_region
          have HS4 := Lib.hid HSW.out.drew
          clear k1 k2 fz zb hz
          go_wp2_with (go_at_call 143; go_loud ((with_reducible refine (srt_sift0_u64 (hi := q) (f := x) HS4.out (by rw [size_swp']; exact HKj.out) (by omega) hsz).mono ?_); rintro e3 w3 ⟨rfl, hR3⟩; have HR3 := Lib.hid hR3; clear hR3))
          go_roundw
          case rel => exact ⟨q, _, _, rfl, rfl, by omega, by rw [size_siftDown, size_swp']; exact HKj.out, HR3.out, HST.out⟩
          case measure => simp [intOf]
        | zero =>
          obtain rfl : t = -1 := by omega
          clear ht
          have HB2 := Lib.hid (show dj = heapSort ltInt d x (x + l) by rw [← HEj.out]; rfl)
          go_wp2
          go_end0
          rw [← HB2.out]
          exact ⟨rfl, HRj.out⟩
end Go.Proofs.Ytpkeddiaoacfeaa
