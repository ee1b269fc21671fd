/- The law ClientGiven: its walk. Conditions: none. -/
import Derived.Test.YtdpamikobmefeaaCliU
import Derived.Deep.DeepCutAuto
import Derived.BigQuiet
namespace Go.Proofs.Ytdpamikobmefeaa
open Go.RowKit Go.ChangeShapes Go.Maps
set_option maxRecDepth 100000
set_option linter.unusedVariables false
set_option linter.unusedSimpArgs false

theorem cl_put' {W w : World} {cb hm : Nat} {A : Option Addr} {on oc : Nat} {bs : List Nat} {H H' : List HeldE} {os : List Thing} {number v id : Int} {P : List (List Int)} {M : List Msg} (h : Sta W (clS cb hm A on oc bs H os) w) (hA : on = 0 → A = none) (hon : on < 400) (hnum : U32 number) (hv : U32 v) (hid : ownF 0 number = id) (hnb : NotBusy w bs id) (hH : H.length < 900000) (hos : ∀ x ∈ os, ∃ i : Nat, i ≤ on ∧ x.π = [3, (i : Int)])
    (hold : plH H id = [] ∨ ((plH H id).length = 1 ∧ ∀ p ∈ plH H id, p.Pairwise (· ≤ ·) ∧ p.length ≤ 900 ∧ ∀ x ∈ p, U32 x)) (hP : insAll (plH H id) [v] 1 = P) (hM : allM 0 ((on : Int) + 1) id [v] true P 1 = M) (hH' : putH H ⟨id, P, [v]⟩ = H') :
    Calls Try.prog 36 #[.pointer (some ⟨cb, 0, none⟩), .int .i64 0, .int .u32 number, .slice (some ⟨w.heap.size, 0, none⟩) 1 1] (w.alloc (.cells #[.int .u32 v] 47)) fun e w' => ∃ (A' : Option Addr) (c' : Nat) (B : Option Addr) (bc ob wm : Nat) (vM vV : Value), e = .returned (.tuple #[.int .i64 ((on : Int) + 1), .slice B M.length bc, .int .i64 0]) ∧
      Sta W (clS cb hm A' (on + 1) c' (bs ++ [ob]) H' (os ++ [tBlk [3, ((on + 1 : Nat) : Int)] ob (opC 1 id vM wm vV), tAt msgE B M.length bc M])) w' := by
  subst hid hP hM hH'
  exact cl_put h hA hon hnum hv hnb hH hos hold
theorem insF_filter (l : List Int) (v : Int) : (insF l v).filter (fun x => x != v) = l.filter (fun x => x != v) := by
  unfold insF
  split
  · rfl
  · rw [List.filter_append, List.filter_cons]
    simp only [bne_self_eq_false, Bool.false_eq_true, if_false]
    rw [← List.filter_append, List.take_append_drop]
theorem insF_two (a b : Int) : (b = a ∧ insF [a] b = [a]) ∨ (a < b ∧ insF [a] b = [a, b]) ∨ (b < a ∧ insF [a] b = [b, a]) := by
  unfold insF posF
  by_cases h : b = a
  · subst h; left; simp
  · have hc : ¬ ([a].contains b = true) := by simpa using h
    rw [if_neg hc]
    right
    rcases Int.lt_or_gt_of_ne h with h1 | h1
    · right; refine ⟨h1, ?_⟩
      have : ¬ a < b := by omega
      simp [this]
    · left; refine ⟨h1, ?_⟩
      simp [h1]
theorem insF_two_ok {a b : Int} (ha : U32 a) (hb : U32 b) : (insF [a] b).Pairwise (· ≤ ·) ∧ (insF [a] b).length ≤ 900 ∧ ∀ x ∈ insF [a] b, U32 x := by
  rcases insF_two a b with ⟨_, h⟩ | ⟨hl, h⟩ | ⟨hl, h⟩
  · rw [h]; exact ⟨by simp, by simp, by simpa using ha⟩
  · rw [h]; refine ⟨?_, by simp, ?_⟩
    · simp; omega
    · intro x hx; simp at hx; rcases hx with rfl | rfl <;> assumption
  · rw [h]; refine ⟨?_, by simp, ?_⟩
    · simp; omega
    · intro x hx; simp at hx; rcases hx with rfl | rfl <;> assumption
/-- The third put's messages. -/
def givM (id a b d : Int) : List Msg := stM 0 3 id [d] 0 d false :: (((insF [a] b).filter fun x => x != d).map fun v => stM 0 3 id [d] 0 v true)
theorem giv_all (id a b d : Int) : allM 0 (((2 : Nat) : Int) + 1) id [d] true [insF (insF [a] b) d] 1 = givM id a b d := by
  have : allM 0 (((2 : Nat) : Int) + 1) id [d] true [insF (insF [a] b) d] 1 = stM 0 3 id [d] 0 d false :: (((insF (insF [a] b) d).filter fun x => x != d).map fun v => stM 0 3 id [d] 0 v true) := by
    simp [allM, hubM]
  rw [this, insF_filter]; rfl
theorem giv_len (id a b d : Int) : (givM id a b d).length = 1 + (if a = d then 0 else 1) + (if b = d ∨ b = a then 0 else 1) := by
  unfold givM
  rw [List.length_cons, List.length_map]
  rcases insF_two a b with ⟨h0, h⟩ | ⟨hl, h⟩ | ⟨hl, h⟩
  · rw [h]; by_cases h1 : a = d <;> by_cases h2 : b = d <;> simp_all [List.filter_cons]
  all_goals
    have hn : ¬ b = a := by omega
    rw [h]; by_cases h1 : a = d <;> by_cases h2 : b = d <;> simp [List.filter_cons, h1, h2, hn] <;> omega
theorem giv_mem {id a b d : Int} {i : Nat} {m : Msg} (hi : 1 ≤ i) (hm : (givM id a b d)[i]? = some m) : m.gone = true ∧ (m.target = a ∨ m.target = b) ∧ m.rc.ver = 3 ∧ m.rc.vals = [m.target] := by
  obtain ⟨j, rfl⟩ : ∃ j, i = j + 1 := ⟨i - 1, by omega⟩
  unfold givM at hm
  rw [List.getElem?_cons_succ, List.getElem?_map] at hm
  obtain ⟨v, hv, rfl⟩ := Option.map_eq_some_iff.1 hm
  have hv2 : v ∈ insF [a] b := (List.mem_filter.1 (List.mem_of_getElem? hv)).1
  refine ⟨rfl, ?_, rfl, rfl⟩
  show v = a ∨ v = b
  rcases insF_two a b with ⟨_, h⟩ | ⟨_, h⟩ | ⟨_, h⟩ <;> rw [h] at hv2 <;> simp at hv2 <;> omega
theorem giv_first (id a b d : Int) : (givM id a b d)[0]? = some (stM 0 3 id [d] 0 d false) := rfl
theorem putH_same (id : Int) (P P' : List (List Int)) (l l' : List Int) : putH [⟨id, P, l⟩] ⟨id, P', l'⟩ = [⟨id, P', l'⟩] := by simp [putH, findH]
theorem plH_one (id : Int) (P : List (List Int)) (l : List Int) : plH [⟨id, P, l⟩] id = P := by simp [plH, findH]
set_option maxHeartbeats 8000000 in
theorem wClientGiven0 (W : World) (a b d : Int) (ha : U32 a) (hb : U32 b) (hd : U32 d) :
    Calls Try.prog 8 #[.int .u32 a, .int .u32 b, .int .u32 d] W fun e W' => e = .returned (.bool true) ∧ Below W.heap.size W W' := by
  have S0 := Lib.hid (Sta.start W)
  have HA := Lib.hid ha; have HB := Lib.hid hb; have HD := Lib.hid hd
  have HU3 := Lib.hid (show U32 3 from ⟨by decide, by decide⟩)
  obtain ⟨id, hid⟩ : ∃ id, ownF 0 3 = id := ⟨_, rfl⟩
  have HID := Lib.hid hid
  clear ha hb hd hid
  go_enter Try.func8, Try.ntmps8
  go_upto_region 4 with (first
    | (go_at_call 34; go_loud (refine (cl_new S0.out).mono ?_; rintro e1 w1 ⟨cb, hm, rfl, hs⟩; have S1 := Lib.hid hs; clear hs))
    | (go_at_call 35; go_loud (refine (awake22 _).mono ?_; rintro e2 w2 ⟨rfl, hb⟩; have S2 := Lib.hid (S1.out.later hb); clear hb S1)))
  go_upto_region 5 with (go_at_call 36; go_loud (refine (cl_put' (number := 3) (v := a) (id := id) (P := [[a]]) (H' := [⟨id, [[a]], [a]⟩]) S2.out (fun _ => rfl) (by omega) HU3.out HA.out HID.out (fun j ob h => by simp at h) (by simp) (by simp) (.inl rfl) rfl rfl rfl).mono ?_; rintro e3 w3 ⟨A3, c3, B3, bc3, o1, wm1, vM1, vV1, rfl, hs⟩; have S3 := Lib.hid (hs.pick (ts' := clS cb hm A3 1 c3 [o1] [⟨id, [[a]], [a]⟩] [tBlk [3, 1] o1 (opC 1 id vM1 wm1 vV1)]) (.cons_cons _ (.cons_cons _ (.cons_cons _ (.cons_cons _ (List.nil_sublist _)))))); clear hs S2))
  go_upto_region 6 with (go_at_call 37; go_loud (refine (cl_up (n := 1) (π := [3, 1]) (ob := o1) (oid := id) (wm := wm1) (vM := vM1) (vV := vV1) 0 S3.out rfl (by simp) (by omega) rfl (by omega)).mono ?_; rintro e4 w4 ⟨rfl, hs⟩; have S4 := Lib.hid (show Sta W (clS cb hm A3 1 c3 [o1] [⟨id, [[a]], [a]⟩] [tBlk [3, 1] o1 (opC 4 id vM1 wm1 vV1)]) w4 from hs); clear hs S3))
  have N4 := Lib.hid (show NotBusy w4 [o1] id from fun j ob hj => by
    have hO := S4.out.blk (i := 3) (π := [3, 1]) (b := o1) (C := opC 4 id vM1 wm1 vV1) rfl
    match j, hj with
    | 0, hj => injection hj with hj; subst hj; exact ⟨4, true, id, ⟨hO.cell 0, hO.cell 1, hO.cell 2, hO.lt⟩, by simp [busyF]⟩)
  go_upto_region 7 with (go_at_call 36; go_loud (refine (cl_put' (number := 3) (v := b) (id := id) (P := [insF [a] b]) (H' := [⟨id, [insF [a] b], [b]⟩]) S4.out (fun h => by omega) (by omega) HU3.out HB.out HID.out N4.out (by simp) (fun x hx => ⟨1, by omega, by simp only [List.mem_singleton] at hx; subst hx; rfl⟩) (.inr (by rw [plH_one]; exact ⟨rfl, fun p hp => by simp only [List.mem_singleton] at hp; subst hp; exact ⟨by simp, by simp, u32_sing HA.out⟩⟩)) (by rw [plH_one]; rfl) rfl (putH_same _ _ _ _ _)).mono ?_; rintro e5 w5 ⟨A5, c5, B5, bc5, o2, wm2, vM2, vV2, rfl, hs⟩; have S5 := Lib.hid (hs.pick (ts' := clS cb hm A5 2 c5 [o1, o2] [⟨id, [insF [a] b], [b]⟩] [tBlk [3, 1] o1 (opC 4 id vM1 wm1 vV1), tBlk [3, 2] o2 (opC 1 id vM2 wm2 vV2)]) (.cons_cons _ (.cons_cons _ (.cons_cons _ (.cons_cons _ (.cons_cons _ (List.nil_sublist _))))))); clear hs S4))
  go_upto_region 8 with (go_at_call 37; go_loud (refine (cl_up (n := 2) (π := [3, 2]) (ob := o2) (oid := id) (wm := wm2) (vM := vM2) (vV := vV2) 1 S5.out rfl (by simp) (by omega) rfl (by omega)).mono ?_; rintro e6 w6 ⟨rfl, hs⟩; have S6 := Lib.hid (show Sta W (clS cb hm A5 2 c5 [o1, o2] [⟨id, [insF [a] b], [b]⟩] [tBlk [3, 1] o1 (opC 4 id vM1 wm1 vV1), tBlk [3, 2] o2 (opC 4 id vM2 wm2 vV2)]) w6 from hs); clear hs S5))
  have N6 := Lib.hid (show NotBusy w6 [o1, o2] id from fun j ob hj => by
    have hO := S6.out.blk (i := 3) (π := [3, 1]) (b := o1) (C := opC 4 id vM1 wm1 vV1) rfl
    have hO2 := S6.out.blk (i := 4) (π := [3, 2]) (b := o2) (C := opC 4 id vM2 wm2 vV2) rfl
    match j, hj with
    | 0, hj => injection hj with hj; subst hj; exact ⟨4, true, id, ⟨hO.cell 0, hO.cell 1, hO.cell 2, hO.lt⟩, by simp [busyF]⟩
    | 1, hj => injection hj with hj; subst hj; exact ⟨4, true, id, ⟨hO2.cell 0, hO2.cell 1, hO2.cell 2, hO2.lt⟩, by simp [busyF]⟩)
  go_upto_region 9 with (go_at_call 36; go_loud (refine (cl_put' (number := 3) (v := d) (id := id) (P := [insF (insF [a] b) d]) (M := givM id a b d) (H' := [⟨id, [insF (insF [a] b) d], [d]⟩]) S6.out (fun h => by omega) (by omega) HU3.out HD.out HID.out N6.out (by simp) (fun x hx => by
      simp only [List.mem_cons, List.not_mem_nil, or_false] at hx
      rcases hx with rfl | rfl
      · exact ⟨1, by omega, rfl⟩
      · exact ⟨2, by omega, rfl⟩) (.inr (by rw [plH_one]; exact ⟨rfl, fun p hp => by simp only [List.mem_singleton] at hp; subst hp; exact insF_two_ok HA.out HB.out⟩)) (by rw [plH_one]; rfl) (giv_all id a b d) (putH_same _ _ _ _ _)).mono ?_; rintro e7 w7 ⟨A7, c7, B7, bc7, o3, wm3, vM3, vV3, rfl, hs⟩; have S7 := Lib.hid (show Sta W (clS cb hm A7 3 c7 [o1, o2, o3] [⟨id, [insF (insF [a] b) d], [d]⟩] [tBlk [3, 1] o1 (opC 4 id vM1 wm1 vV1), tBlk [3, 2] o2 (opC 4 id vM2 wm2 vV2), tBlk [3, 3] o3 (opC 1 id vM3 wm3 vV3), tAt msgE B7 (givM id a b d).length bc7 (givM id a b d)]) w7 from hs); clear hs S6))
  have hl := giv_len id a b d
  have hmm := fun (i : Nat) (m : Msg) => giv_mem (id := id) (a := a) (b := b) (d := d) (i := i) (m := m)
  have h00 := giv_first id a b d
  clear S0 HA HB HD HU3 HID N4 N6
  generalize givM id a b d = M at hl hmm h00 S7 ⊢
  have HMM := Lib.hid hmm
  clear hmm
  have hat := S7.out.at (E := msgE) (i := 6) (A := B7) (n := M.length) (cap := bc7) (l := M) rfl
  obtain ⟨mb, mo, s0, sl0, sc0, rfl, mz0, -, mt0, -, -, mg0, -⟩ := msg_cells (i := 0) hat h00
  have mt : w7.cell? ⟨mb, mo + 5, none⟩ = some (.int .u32 d) := by rw [Nat.zero_mul, Nat.add_zero] at mt0; exact mt0
  have mg : w7.cell? ⟨mb, mo + 13, none⟩ = some (.bool false) := by rw [Nat.zero_mul, Nat.add_zero] at mg0; exact mg0
  have mz : mb < w7.heap.size := mz0
  clear mt0 mg0 mz0
  obtain ⟨N, hN⟩ : ∃ N, M.length = N := ⟨_, rfl⟩
  rw [hN] at hl
  have h0N : 0 < N := by rw [← hN]; exact (List.getElem?_eq_some_iff.1 h00).1
  have HN := Lib.hid hN
  have hN3 : N ≤ 3 := by rw [hl]; split <;> split <;> omega
  have SX := Lib.hid S7.out
  rw [hN] at SX ⊢
  clear hat S7 hN h00
  obtain ⟨t1, ht1⟩ : ∃ t1 : Bool, decide (a = d) = t1 := ⟨_, rfl⟩
  obtain ⟨t2, ht2⟩ : ∃ t2 : Bool, decide (b = d) = t2 := ⟨_, rfl⟩
  obtain ⟨t3, ht3⟩ : ∃ t3 : Bool, decide (b = a) = t3 := ⟨_, rfl⟩
  have g1 : (a != d) = !t1 := by rw [← ht1]; by_cases h : a = d <;> simp [h]
  have g2 : (b != d) = !t2 := by rw [← ht2]; by_cases h : b = d <;> simp [h]
  have g3 : (b != a) = !t3 := by rw [← ht3]; by_cases h : b = a <;> simp [h]
  have HL := Lib.hid (show N = 1 + (if t1 = true then 0 else 1) + (if (t2 || t3) = true then 0 else 1) from by
    rw [hl, ← ht1, ← ht2, ← ht3]
    by_cases h1 : a = d <;> by_cases h2 : b = d <;> by_cases h3 : b = a <;> simp [h1, h2, h3])
  have HG := Lib.hid (And.intro g1 (And.intro g2 g3))
  clear hl ht1 ht2 ht3 g1 g2 g3
  obtain ⟨N1, hN1⟩ : ∃ N1 : Nat, 1 + (if t1 = true then 0 else 1) = N1 := ⟨_, rfl⟩
  rw [hN1] at HL
  have HN1 := Lib.hid hN1
  clear hN1
  have hN12 : N1 ≤ 2 := by rw [← HN1.out]; split <;> omega
  go_upto_if 57 with fail
  go_cut [15] (fun s wx => s = .int .i64 (N1 : Int) ∧ w7 = wx)
  case first =>
    obtain ⟨g1, _, _⟩ := HG.out
    cases t1
    all_goals
      simp only [Bool.not_true, Bool.not_false] at g1
      have e1 := HN1.out
      simp only [if_true, if_false, Bool.false_eq_true, Nat.add_zero, Nat.reduceAdd] at e1
      subst e1
      go_wp2_with fail
      go_meet
      exact ⟨rfl, rfl⟩
  case rest =>
    obtain ⟨rfl, rfl⟩ := hcut
    go_upto_region 12 with fail
    go_cut [67] (fun s wx => s = .bool (!(t2 || t3)) ∧ w7 = wx)
    case first =>
      obtain ⟨_, g2, g3⟩ := HG.out
      cases t2
      · cases t3
        all_goals
          simp only [Bool.not_true, Bool.not_false] at g2 g3
          go_wp2_with fail
          go_meet
          exact ⟨rfl, rfl⟩
      · simp only [Bool.not_true, Bool.not_false] at g2 g3
        go_wp2_with fail
        go_meet
        exact ⟨rfl, rfl⟩
    case rest =>
      obtain ⟨rfl, rfl⟩ := hcut
      obtain ⟨t4, ht4⟩ : ∃ t4, (t2 || t3) = t4 := ⟨_, rfl⟩
      rw [ht4] at HL ⊢
      clear ht4
      go_upto_if 67 with fail
      go_cut [15] (fun s wx => s = .int .i64 (N : Int) ∧ w7 = wx)
      case first =>
        have e1 := HL.out
        cases t4
        all_goals
          simp only [if_true, if_false, Bool.false_eq_true, Nat.add_zero, Nat.reduceAdd] at e1
          subst e1
          go_wp2_with fail
          go_meet
          first | exact ⟨⟨rfl, rfl⟩, rfl⟩ | exact ⟨rfl, rfl⟩
      case rest =>
        obtain ⟨rfl, rfl⟩ := hcut
        go_upto_region 14 with fail
        have hdd : (d != d) = false := by simp
        have hNN : ((N : Int) != (N : Int)) = false := by simp
        go_upto_region 16 with fail
        clear hdd hNN mt mg mz HG HL HN1
        go_wp2
        go_loopw [16] (fun s16 wr => ∃ i : Nat, 1 ≤ i ∧ i ≤ N ∧ s16 = .int .i64 i ∧ Sta W (clS cb hm A7 3 c7 [o1, o2, o3] [⟨id, [insF (insF [a] b) d], [d]⟩] [tBlk [3, 1] o1 (opC 4 id vM1 wm1 vV1), tBlk [3, 2] o2 (opC 4 id vM2 wm2 vV2), tBlk [3, 3] o3 (opC 1 id vM3 wm3 vV3), tAt msgE (some ⟨mb, mo, none⟩) N bc7 M]) wr) (fun s _ => N - (intOf s).toNat)
        case atStart => exact ⟨1, by omega, by omega, rfl, SX.out⟩
        case round =>
          obtain ⟨i, hi1, hi2, rfl, hs⟩ := hrel
          have HS := Lib.hid hs
          clear SX
          by_cases hlt : i < N
          · have hat := hs.at (E := msgE) (i := 6) (A := some ⟨mb, mo, none⟩) (n := N) (cap := bc7) (l := M) rfl
            obtain ⟨m, hm⟩ : ∃ m, M[i]? = some m := ⟨_, List.getElem?_eq_getElem (by rw [HN.out]; exact hlt)⟩
            obtain ⟨xb, xo, sA, sl, sc, e0, mz, _, mt, mv, ms, mg, mi⟩ := msg_cells hat hm
            injection e0 with e0
            injection e0 with e0 e00
            subst e0 e00
            obtain ⟨p1, p2, p3, p4⟩ := HMM.out i m hi1 hm
            rw [p1] at mg
            rw [p3] at mv
            rw [p4] at mi
            obtain ⟨ml, _, _, _, _, _, mc⟩ := mi
            have h1s : 0 < sl := by rw [← ml]; simp
            obtain ⟨sb, so, rfl, sz, scell⟩ := mc h1s
            have s0 : wr.cell? ⟨sb, so, none⟩ = some (.int .u32 m.target) := by have h := scell 0 h1s; rw [Nat.add_zero] at h; exact h
            have zs : sb < wr.heap.size := sz
            have zm : mb < wr.heap.size := mz
            have htt : (m.target != m.target) = false := by simp
            clear hs hat hm mc scell sz mz p1 p3 p4 ml
            generalize m.target = t at mt s0 htt p2
            by_cases hta : t = a
            · have h1 : (t != a) = false := by simp [hta]
              clear p2 hta
              go_upto_region 19 with fail
              go_quiet (fail)
              all_goals
                go_wp2
                go_roundw
                case rel => exact ⟨i + 1, by omega, by omega, by go_num, HS.out.later (by repeat (first | exact Below.refl _ _ | assumption | apply Below.drew | apply belowN | (refine Below.alloc ?_ (by first | exact Nat.le_refl _ | (simp; done) | (simp; omega)) _) | (refine Below.setCell ?_ (by first | exact Nat.le_refl _ | (simp; done) | (simp; omega)) _)))⟩
                case measure => simp [intOf]; omega
            · have htb : t = b := p2.resolve_left hta
              have h1 : (t != a) = true := by simp [hta]
              have h2 : (t != b) = false := by simp [htb]
              clear p2 hta htb
              go_upto_region 19 with fail
              go_quiet (fail)
              all_goals
                go_wp2
                go_roundw
                case rel => exact ⟨i + 1, by omega, by omega, by go_num, HS.out.later (by repeat (first | exact Below.refl _ _ | assumption | apply Below.drew | apply belowN | (refine Below.alloc ?_ (by first | exact Nat.le_refl _ | (simp; done) | (simp; omega)) _) | (refine Below.setCell ?_ (by first | exact Nat.le_refl _ | (simp; done) | (simp; omega)) _)))⟩
                case measure => simp [intOf]; omega
          · obtain rfl : i = N := by omega
            go_wp2
            go_ret
            exact ⟨rfl, HS.out.end⟩
theorem wClientGiven (W : World) (vs : List Value) (h : Sh.Args W (· < W.heap.size) [((.int .u32), 47), ((.int .u32), 47), ((.int .u32), 47)] vs) :
    Calls Try.prog 8 vs.toArray W fun e W' => e = .returned (.bool true) ∧ Below W.heap.size W W' := by
  obtain ⟨_, _, rfl, ⟨a, ha⟩, _, _, rfl, ⟨b, hb⟩, _, _, rfl, ⟨d, hd⟩, rfl⟩ := h
  obtain ⟨a1, rfl, wa⟩ := int_open ha
  obtain ⟨b1, rfl, wb⟩ := int_open hb
  obtain ⟨d1, rfl, wd⟩ := int_open hd
  exact wClientGiven0 W a1 b1 d1 (u32_of wa) (u32_of wb) (u32_of wd)
end Go.Proofs.Ytdpamikobmefeaa
