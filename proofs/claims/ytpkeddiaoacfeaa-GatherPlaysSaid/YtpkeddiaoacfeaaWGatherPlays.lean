/- The law GatherPlays: its walk. -/
import Derived.Test.YtpkeddiaoacfeaaRAll18
import Derived.Test.YtpkeddiaoacfeaaLaw
namespace Go.Proofs.Ytpkeddiaoacfeaa
open Go.RowKit Go.ChangeShapes
set_option maxRecDepth 100000
set_option linter.unusedVariables false
set_option linter.unusedSimpArgs false

theorem plays_ok (n : Nat) : Rec.ok ⟨1, 1152921504606846976, List.replicate n 0⟩ := ⟨(⟨by decide, by decide⟩ : U64 1), (⟨by decide, by decide⟩ : U64 1152921504606846976), fun x hx => by rw [List.mem_replicate] at hx; rw [hx.2]; exact ⟨by omega, by omega⟩⟩
theorem Sta.addBoxAt {W w : World} {ts : List Thing} (h : Sta W ts w) (n : Nat) (hn : n = w.heap.size) (C : Array Value) (T : TypeId) : Sta W (ts ++ [tBox n C]) (w.alloc (.cells C T)) := by subst hn; exact h.addBox C T
def playR (n : Nat) : Rec := ⟨1, 1152921504606846976, List.replicate n 0⟩
theorem plays_rec {w : World} {c : Col} {b1 b2 n : Nat} (h1 : Box w b1 (madeCells #[.int .u32 0] n)) (q1 : Quiet c w b1) (h2 : Box w b2 #[.int .u64 1, .int .u64 1152921504606846976, .slice (some ⟨b1, 0, none⟩) n n]) (q2 : Quiet c w b2) (hn : n ≤ 20) :
    recE.At w (Quiet c w) (some ⟨b2, 0, none⟩) 1 1 [playR n] :=
  Elt.At.one (E := recE) h2 q2 ⟨some ⟨b1, 0, none⟩, n, n, rfl, plays_ok n, ints_made0 h1 q1 (by omega)⟩
theorem recs_true {A A' : Option Addr} {n cap n' cap' : Nat} {l : List Rec} (w : World) (h : recE.At w (· < w.heap.size) A n cap l) (h' : recE.At w (· < w.heap.size) A' n' cap' l) :
    Calls Try.prog 18 #[.slice A n cap, .slice A' n' cap'] w fun e w' => e = .returned (.bool true) ∧ Below w.heap.size w w' := by
  refine (records_any w h h').mono ?_
  rintro e w' ⟨rfl, hb⟩
  exact ⟨by simp, hb⟩
set_option maxHeartbeats 8000000 in
theorem wGatherPlays0 (W : World) (BA : Option Addr) (bn bc : Nat) (bl : List Rng) (A : Option Addr) (n cap : Nat) (l : List (List Rec)) (after : Int) (first : Bool) (pn fk : Int) (hb : RngsAt W (· < W.heap.size) BA bn bc bl) (hl : recsE.At W (· < W.heap.size) A n cap l) :
    Calls Try.prog 6 #[.slice BA bn bc, .slice A n cap, .int .u64 after, .bool first, .int .i64 pn, .int .i64 fk] W fun e W' => e = .returned (.bool true) ∧ Below W.heap.size W W' := by
  have HBL := Lib.hid hb; have HL := Lib.hid hl
  clear hb hl
  by_cases hb20 : 20 < bn
  · have hb20' : (20 : Int) < (bn : Int) := by omega
    go_enter Try.func6, Try.ntmps6
    go_wp2_with (go_at_call 15; (with_reducible refine (awake18 _).mono ?_); rintro e w' ⟨rfl, hg⟩)
    go_ret
    exact ⟨rfl, hg⟩
  · have hb20' : ¬ (20 : Int) < (bn : Int) := by omega
    have hmk := run_mk (P := Try.prog) (t := 28) (e := 39) (k := .u32) (bytes := 4) Try.underlying28 (by kernel_rfl) (by omega) (bn : Int) bn rfl (by omega)
    have S0 := Lib.hid (Sta.start W)
    go_enter Try.func6, Try.ntmps6
    go_upto_region 6 with (first
      | (go_at_call 16; go_loud (refine (ga_new (bl := bl) [1] S0.out (by simp) (by simp) (fun c h => HBL.out.move h.first)).mono ?_; rintro e1 w1 ⟨g, rfl, hs, _⟩; have S1 := Lib.hid (ra_new [2] hs (by simp) (by simp [tGath]) HBL.out 49); clear hs))
      | (go_at_call 15; (with_reducible refine (awake18 _).mono ?_); rintro e w2 ⟨rfl, hb⟩; have S2 := Lib.hid (S1.out.later hb); clear hb S1))
    have S3 := Lib.hid ((show Sta W [tGath [1] g bl [], tRefG [2] w1.heap.size BA bn bc bl []] w2 from S2.out).flip)
    clear S2 S0
    generalize w1.heap.size = wb at *
    go_wp2
    go_loopw [13, 15] (fun s13 s15 wr => ∃ (i : Nat) (π : List Int) (g : Nat) (Lg Lr : List Rec), i ≤ 20 ∧ s15 = .int .i64 i ∧ s13 = .pointer (some ⟨g, 0, none⟩) ∧ UpOf Lg Lr ∧ Lg.length ≤ 40 * i ∧ Lr.length ≤ 40 * i ∧
      (π = [1] ∨ (π = [3] ∧ fk < i)) ∧ Sta W [tRefG [2] wb BA bn bc bl Lr, tGath π g bl Lg] wr) (fun _ i _ => 20 - (intOf i).toNat)
    case atStart => exact ⟨0, [1], g, [], [], by omega, rfl, rfl, ⟨List.Pairwise.nil, fun r => Iff.rfl⟩, by simp, by simp, .inl rfl, S3.out⟩
    case round =>
      obtain ⟨i, π, g2, Lg, Lr, hi, rfl, rfl, hu, hlg, hlr, hcase, hs⟩ := hrel
      have HU := Lib.hid hu; have HCASE := Lib.hid hcase; have S4 := Lib.hid hs
      have hπ0 : π ≠ [] := by rcases hcase with h | h; rw [h]; simp; rw [h.1]; simp
      have HP0 := Lib.hid hπ0
      clear hu S3 hs hcase hπ0
      by_cases hc : i < n ∧ i < 20
      · obtain ⟨h1, h2⟩ := hc
        obtain ⟨lb, loff, l1, A1, n1, c1, rfl, hlb, hl1, q0, hl1r⟩ := nest_at HL.out h1
        have HQ := Lib.hid (fun (w' : World) (hb : Below W.heap.size W w') => (hb.cell (p := ⟨lb, loff + i, none⟩) hlb).trans q0)
        have HR1 := Lib.hid hl1r
        have hl1n := hl1r.1
        clear hlb hl1 q0 hl1r
        have q1 := HQ.out wr S4.out.end
        cases hfew : fewR l1 with
        | false =>
          have HF := Lib.hid hfew
          clear hfew
          go_wp2_with (go_at_call 14; go_loud ((with_reducible refine (few18 _ ((HR1.out.imp fun b hb => hb).later S4.out.end)).mono ?_); rintro e w' ⟨rfl, rfl⟩; rw [HF.out]))
          go_ret
          exact ⟨rfl, S4.out.end⟩
        | true =>
          have HF := Lib.hid hfew
          have hl40 := fewR_len hfew
          have hn40 : n1 ≤ 40 := by omega
          obtain ⟨⟨Lg2, kg⟩, hg2⟩ : ∃ p, addsF bl Lg l1 = p := ⟨_, rfl⟩
          obtain ⟨⟨Lr2, kr⟩, hr2⟩ : ∃ p, addsR bl Lr l1 = p := ⟨_, rfl⟩
          have hup := up_addsR (bl := bl) HU.out l1
          have hlen1 := (addsF_len bl Lg l1).1
          have hlen2 := addsR_len bl Lr l1
          rw [hg2, hr2] at hup
          rw [hg2] at hlen1
          rw [hr2] at hlen2
          obtain ⟨hup1, hup2⟩ := hup
          dsimp only at hup1 hup2 hlen1 hlen2
          subst hup2
          have HU2 := Lib.hid hup1; have HG2 := Lib.hid hg2; have HR2 := Lib.hid hr2
          clear hup1 hg2 hr2 hfew
          go_upto_region 11 with (go_at_call 14; go_loud ((with_reducible refine (few18 _ ((HR1.out.imp fun b hb => hb).later S4.out.end)).mono ?_); rintro e w' ⟨rfl, rfl⟩; rw [HF.out]))
          first | (go_region_with (first
            | (go_at_call 17; refine (ga_add (k := kg) (L' := Lg2) (l := l1) (ts' := [tRefG [2] wb BA bn bc bl Lr, tGath π g2 bl Lg2]) 1 (S4.out.later (by first | exact Below.refl _ _ | exact (Same.drew _).1)) rfl HP0.out (by omega) (by omega) (fun c h => HR1.out.move h.first) HG2.out rfl).mono ?_; rintro e w5 ⟨rfl, hs, _⟩; have S5 := Lib.hid hs; have q5 := HQ.out w5 hs.end; clear hs)
            | (go_at_call 21; refine (ra_add (k := kg) (L' := Lr2) (l := l1) (ts' := [tRefG [2] wb BA bn bc bl Lr2, tGath π g2 bl Lg2]) 0 S5.out rfl (by simp) (by omega) (by omega) (fun c h => HR1.out.move h.first) HR2.out rfl).mono ?_; rintro e w6 ⟨rfl, hs⟩; have S6 := Lib.hid hs; clear hs))) | fail
          all_goals
            have HST : Hid (∀ w', Same w6 w' → Sta W [tRefG [2] wb BA bn bc bl Lr2, tGath π g2 bl Lg2] w') := fun w' h => S6.out.later h.1
            by_cases hfk : (i : Int) = fk
            · have hf1 : ((i : Int) == fk) = true := by rw [beq_iff_eq]; exact hfk
              obtain rfl : π = [1] := by
                rcases HCASE.out with h | h
                · exact h
                · omega
              go_wp2_with (first
                | (go_at_call 22; go_loud (refine (ga_fork 1 [3] (HST.out _ (by first | exact Same.refl _ | exact Same.drew _)) rfl (by simp) (by simp [tRefG, tGath])).mono ?_; rintro e w7 ⟨g7, rfl, hs, _⟩; have S7 := Lib.hid hs; clear hs))
                | (go_at_call 17; go_loud (refine (ga_add (k := (addsF bl Lg2 [playR bn]).2) (L' := (addsF bl Lg2 [playR bn]).1) (l := [playR bn]) 1 ((S7.out.addBox _ _).addBoxAt (w7.heap.size + 1) (by rw [size_alloc]) _ _) rfl (by simp) (by omega) (by omega) (fun c h => plays_rec (h.box (i := 3) rfl).1 (h.box (i := 3) rfl).2 (h.box (i := 4) rfl).1 (h.box (i := 4) rfl).2 (by omega)) rfl rfl).mono ?_; rintro e w8 ⟨rfl, hs, _⟩; have S8 := Lib.hid hs; clear hs)))
              refine ⟨⟨i + 1, [3], g7, Lg2, Lr2, by omega, by rw [← hfk]; simp, rfl, HU2.out, by omega, by omega, .inr ⟨rfl, by omega⟩, S8.out.pick (by simp)⟩, ?_⟩
              rw [← hfk]
              simp [intOf]; omega
            · have hf1 : ((i : Int) == fk) = false := by rw [beq_eq_false_iff_ne]; exact hfk
              go_wp2
              go_roundw
              case rel => exact ⟨i + 1, π, g2, Lg2, Lr2, by omega, by go_num, rfl, HU2.out, by omega, by omega, (by rcases HCASE.out with h | h; exact .inl h; exact .inr ⟨h.1, by omega⟩), HST.out _ (by first | exact Same.refl _ | exact Same.drew _)⟩
              case measure => simp [intOf]; omega
      · have hcc : (¬ i < n) ∨ (i < n ∧ ¬ i < 20) := by omega
        clear hc
        have HFR := Lib.hid (filtR_rest HU.out.1 after first)
        obtain ⟨rest, hrest⟩ : ∃ rest, restF after first Lr = rest := ⟨_, rfl⟩
        have HREST := Lib.hid hrest
        obtain ⟨m, hm⟩ : ∃ m, manyF pn rest.length = m := ⟨_, rfl⟩
        obtain ⟨bo, hbo⟩ : ∃ bo, decide (m < rest.length) = bo := ⟨_, rfl⟩
        have HM := Lib.hid hm; have HBO := Lib.hid hbo
        have HF1 : Hid ((filtR after first Lr).take (manyF pn (filtR after first Lr).length) = rest.take m) := by rw [← HFR.out, hrest, hm]; exact rfl
        have HF2 : Hid (decide (manyF pn (filtR after first Lr).length < (filtR after first Lr).length) = bo) := by rw [← HFR.out, hrest, hm]; exact hbo
        clear hrest hm hbo
        rcases hcc with h1 | ⟨h1, h2⟩
        all_goals
          go_upto_region 21 with (first
            | (go_at_call 20; go_loud (refine (ga_page (all := Lr) 1 after first pn S4.out rfl (by omega) HU.out HREST.out HM.out HBO.out).mono ?_; rintro e5 w5 ⟨A6, rfl, hs, _⟩; have S5 := Lib.hid hs; clear hs))
            | (go_at_call 23; go_loud (refine (ra_page 0 after first pn S5.out rfl (by omega) HF1.out HF2.out).mono ?_; rintro e6 w6 ⟨A7, n7, c7, rfl, hs, _⟩; have S6 := Lib.hid hs; clear hs)))
          have S7 := Lib.hid (show Sta W [tRefG [2] wb BA bn bc bl Lr, tGath π g2 bl Lg, tAt recE A6 m m (rest.take m), tAt recE A7 n7 c7 (rest.take m)] w6 from S6.out)
          obtain ⟨LA, ln, lc, hbx, hlr2⟩ := S7.out.refBox (i := 0) rfl
          have HLR := Lib.hid hlr2
          have HBX := Lib.hid hbx
          have cb := hbx.cell; have zb := hbx.lt
          clear hbx hlr2
          have S0' := Same.refl w6
          first | (go_region_held3 (fun w' => Same w6 w') (with_reducible (first | assumption | exact Same.drew _))
            ((first
              | (go_at_call 19; (refine (ga_all' (all := Lr) 1 (S7.out.later (show Same w6 _ by (with_reducible (first | assumption | exact Same.drew _))).1) rfl (by omega) HU.out).mono ?_); rintro e7 w7 ⟨A8, c8, rfl, hs, hb7⟩; have S8 := Lib.hid hs; have S1 := Same.step (show Same w6 _ by (with_reducible (first | assumption | exact Same.drew _))) hb7; clear hs hb7)
              | (go_at_call 18; (refine (recs_true (l := Lr) _ ((S8.out.later (by first | exact (Same.refl _).1 | exact (Same.drew _).1)).at (i := 4) rfl) (HLR.out.later (show Same w6 _ by (with_reducible (first | assumption | exact Same.drew _))).1)).mono ?_); rintro e8 w8 ⟨rfl, hb8⟩; have S9 := Lib.hid ((S8.out.later (by first | exact (Same.refl _).1 | exact (Same.drew _).1)).later hb8); have S1 := Same.step (show Same w6 _ by (with_reducible (first | assumption | exact Same.drew _))) hb8; clear hb8)
              | (go_at_call 18; (refine (sta_same (bo := true) 2 3 (S9.out.later (by first | exact (Same.refl _).1 | exact (Same.drew _).1)) rfl rfl (by simp)).mono ?_); rintro e9 w9 ⟨rfl, hb9⟩; have S10 := Lib.hid ((S9.out.later (by first | exact (Same.refl _).1 | exact (Same.drew _).1)).later hb9); have S1 := Same.step (show Same w6 _ by (with_reducible (first | assumption | exact Same.drew _))) hb9; clear hb9)))) | fail
          all_goals
            go_wp2
            go_ret
            exact ⟨by first | rfl | simp, (S10.out.later (by first | exact (Same.refl _).1 | exact (Same.drew _).1)).end⟩

theorem wGatherPlays (W : World) (vs : List Value) (h : Sh.Args W (· < W.heap.size) [((.sl (.st (.pair (.int .i64) (.pair (.int .u32) (.pair (.int .u32) .unit)))) 16), 22), ((.sl (.sl (.st (.pair (.int .u64) (.pair (.int .u64) (.pair (.sl (.int .u32) 4) .unit)))) 40) 24), 46), ((.int .u64), 27), (.bool, 4), ((.int .i64), 3), ((.int .i64), 3)] vs) :
    Calls Try.prog 6 vs.toArray W fun e W' => e = .returned (.bool true) ∧ Below W.heap.size W W' := by
  obtain ⟨v0, _, rfl, ⟨a, ha⟩, v1, _, rfl, ⟨b, hb⟩, v2, _, rfl, ⟨d, hd⟩, v3, _, rfl, ⟨f, hf⟩, v4, _, rfl, ⟨p, hp⟩, v5, _, rfl, ⟨q, hq⟩, rfl⟩ := h
  obtain ⟨BA, bn, bc, bl, rfl, hbl⟩ := rngs_open ha
  obtain ⟨A, n, cap, l, rfl, hl⟩ := nest_open hb
  obtain ⟨after, rfl, _⟩ := int_open hd
  obtain ⟨pn, rfl, _⟩ := int_open hp
  obtain ⟨fk, rfl, _⟩ := int_open hq
  have hf' : v3 = .bool f := by
    have : ([v3] : List Value) = [.bool f] := hf
    injection this
  subst hf'
  exact wGatherPlays0 W BA bn bc bl A n cap l after f pn fk hbl hl
end Go.Proofs.Ytpkeddiaoacfeaa
