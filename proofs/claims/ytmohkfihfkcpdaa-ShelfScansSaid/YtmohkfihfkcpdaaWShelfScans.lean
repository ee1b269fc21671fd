/- The walk of the law ShelfScans: it returns true. Conditions: none. -/
import Derived.Test.YtmohkfihfkcpdaaEntApp
import Derived.Test.YtmohkfihfkcpdaaScansPlain
import Derived.Test.YtmohkfihfkcpdaaShelfNow
namespace Go.Proofs.Ytmohkfihfkcpdaa
open Go.RowKit Go.ChangeShapes Go.Maps
set_option maxRecDepth 100000
set_option linter.unusedVariables false
set_option linter.unusedSimpArgs false

theorem few_len {l : List Ent} (h : fewF l = true) : l.length ≤ 30 := by
  unfold fewF at h
  simp only [Bool.and_eq_true, decide_eq_true_eq] at h
  exact h.2
theorem round_step {f : Int} {all : List Ent} {r k : Nat} {e : Ent} (he : all[k]? = some e) (L : List Ent) : L ++ (all.take (k + 1)).filter (roundB f r) = if roundB f r e = true then (L ++ (all.take k).filter (roundB f r)) ++ [e] else L ++ (all.take k).filter (roundB f r) := by
  rw [List.take_add_one, he, Option.toList_some, List.filter_append]
  cases h : roundB f r e
  · simp [h]
  · simp [h]
theorem joinF_nil_len {l : List Ent} {L1 : List Ent} {k1 : Nat} (h : joinF [] l = (L1, k1)) : L1.length ≤ l.length := by
  have key : ∀ (l : List Ent) (a : List Ent × Nat), (l.foldl (fun a e => ((putF a.1 e).1, a.2 + (if (putF a.1 e).2.1 then 1 else 0))) a).1.length ≤ a.1.length + l.length := by
    intro l
    induction l with
    | nil => intro a; simp
    | cons e r ih =>
      intro a
      rw [List.foldl_cons]
      refine Nat.le_trans (ih _) ?_
      have : (putF a.1 e).1.length ≤ a.1.length + 1 := by
        unfold putF
        split
        · split
          · simp [setE]
          · simp
        · split
          · simp
          · simp
      simp only [List.length_cons]; omega
  have := key l ([], 0)
  have e : (joinF [] l).1 = L1 := by rw [h]
  unfold joinF at e
  rw [e] at this
  simpa using this

set_option maxHeartbeats 2000000 in
theorem wShelfScans0 (W : World) (A : Option Addr) (n cap : Nat) (l : List Ent) (f : Int) (hl : EntsAt W (· < W.heap.size) A n cap l) (hn : n ≤ 140737488351232) (hf : U32 f) :
    Calls Try.prog 7 #[.slice A n cap, .int .u32 f] W fun e W' => e = .returned (.bool true) ∧ Below W.heap.size W W' := by
  have S0 := Lib.hid (St.start (W := W) (rows := [⟨A, n, cap, l⟩]) (fun r hr => by simp only [List.mem_singleton] at hr; subst hr; exact hl))
  have HL := Lib.hid hl.1
  clear hl
  cases hfew : fewF l with
  | false =>
    have HF := Lib.hid hfew
    clear hfew
    go_enter Try.func7, Try.ntmps7
    go_wp2_with (first
      | (go_at_call 24; ((with_reducible refine (st_few S0.out ⟨A, n, cap, l⟩ (by simp) hn HF.out).mono ?_); rintro e w' ⟨rfl, rfl⟩))
      | (go_at_call 25; (with_reducible refine (awake09 _).mono ?_); rintro e w' ⟨rfl, hg⟩))
    go_ret
    exact ⟨rfl, hg⟩
  | true =>
    have HF := Lib.hid hfew
    obtain ⟨⟨L1, k1⟩, hj⟩ : ∃ p, joinF [] l = p := ⟨_, rfl⟩
    have EJ := Lib.hid hj
    have hL1 : L1.length ≤ 30 := Nat.le_trans (joinF_nil_len hj) (few_len hfew)
    obtain ⟨all, hall⟩ : ∃ all, scanL 4294967295 4294967295 L1 = all := ⟨_, rfl⟩
    have Q1 := Lib.hid hall
    clear hfew hj hall
    go_enter Try.func7, Try.ntmps7
    go_wp2_with (first
      | (go_at_call 24; ((with_reducible refine (st_few S0.out ⟨A, n, cap, l⟩ (by simp) hn HF.out).mono ?_); rintro e w' ⟨rfl, rfl⟩))
      | (go_at_call 26; go_loud ((with_reducible refine (st_new [1] S0.out (by simp) (by simp)).mono ?_); rintro e w1 ⟨b, rfl, hs, hb⟩; have SA := Lib.hid hs; clear hs hb))
      | (go_at_call 27; go_loud ((refine (st_join (obs' := [⟨[1], b, L1, false⟩]) (n := k1) SA.out ⟨[1], b, [], false⟩ (by simp) rfl ⟨A, n, cap, l⟩ (by simp) (by rw [EJ.out]; exact setOb_one _ _ _ _ _) (by rw [EJ.out])).mono ?_); rintro e w3 ⟨rfl, hs, hb⟩; have SC := Lib.hid hs; clear hs hb))
      | (go_at_call 29; ((with_reducible refine (st_scan 4294967295 4294967295 SC.out ⟨[1], b, L1, false⟩ (by simp) rfl Q1.out).mono ?_); rintro e w4 ⟨A1, cap1, rfl, hs, hb⟩; have SD := Lib.hid hs; clear hs hb)))
    have hok := SD.out.ok (o := ⟨[1], b, L1, false⟩) (by simp)
    have hlen : all.length = L1.length := by rw [← Q1.out]; exact (scanL_all hok).length_eq
    have Q2 := Lib.hid (scans_law hok hf)
    have hts := top_sorted hok
    rw [Q1.out] at Q2 hts
    have HTS := Lib.hid hts; have HLEN := Lib.hid hlen
    have hal : all.length ≤ 30 := by omega
    clear hts hlen hok SA SC
    have SE := Lib.hid (SD.out.rowNil [5] (by simp) (by simp))
    go_loopw [7, 8] (fun s7 s8 wr => ∃ r : Nat, r ≤ 2 ∧ s8 = .int .i64 r ∧ StR W [⟨[1], b, L1, false⟩] ([⟨A, n, cap, l⟩] ++ [⟨A1, all.length, cap1, all⟩]) [5] s7 (roundsL f all r) wr) (fun _ i _ => 2 - (intOf i).toNat)
    case atStart => exact ⟨0, by omega, rfl, SE.out⟩
    case round =>
      obtain ⟨r, hr, rfl, hs⟩ := hrel
      have HS := Lib.hid hs
      clear hs SE
      by_cases hlt : r < 2
      · have hrl := rounds_len f all r
        have hrl2 : r * all.length ≤ 60 := by have : r ≤ 1 := by omega
                                              have := Nat.mul_le_mul this hal; omega
        go_wp2
        go_loopw [7, 9] (fun s7 s9 wq => ∃ k : Nat, k ≤ all.length ∧ s9 = .int .i64 k ∧ StR W [⟨[1], b, L1, false⟩] ([⟨A, n, cap, l⟩] ++ [⟨A1, all.length, cap1, all⟩]) [5] s7 (roundsL f all r ++ (all.take k).filter (roundB f r)) wq) (fun _ i _ => all.length - (intOf i).toNat)
        case atStart => exact ⟨0, by omega, rfl, by simpa using HS.out⟩
        case round =>
          obtain ⟨k, hk, rfl, hs⟩ := hrel
          have HT := Lib.hid hs
          clear hs
          by_cases hlt2 : k < all.length
          · obtain ⟨e, he⟩ : ∃ e, all[k]? = some e := ⟨_, List.getElem?_eq_getElem hlt2⟩
            obtain ⟨AV, capV, rfl, v1, v2, v3⟩ := HT.out.shape
            obtain ⟨c, h0, hrw, hp, ho⟩ := HT.out
            have V3 := Lib.hid v3
            clear v3
            obtain ⟨_, _, hrow⟩ := h0.reads ⟨A1, all.length, cap1, all⟩ (by simp)
            dsimp only at hrow
            obtain ⟨bb, off, rfl, hbb, hcc⟩ := hrow (by omega)
            obtain ⟨cc, hcell, hent⟩ := hcc k e he
            have d0 := hcell 0 _ rfl; have d1 := hcell 1 _ rfl; have d2 := hcell 2 _ rfl; have d3 := hcell 3 _ rfl; have d4 := hcell 4 _ rfl
            simp only [Nat.add_zero] at d0
            have HST := Lib.hid (round_step (f := f) (r := r) he (roundsL f all r))
            have HX := Lib.hid (show cc.x = e.value from hent.1)
            have hfl := List.length_filter_le (roundB f r) (all.take k)
            have htk : (all.take k).length ≤ k := by simp; omega
            have H0 := Lib.hid h0; have HR := Lib.hid hrw; have HP := Lib.hid hp; have HO := Lib.hid ho; have HE := Lib.hid hent
            clear hcc hcell hent h0 hrw hp ho hbb hrow he
            obtain ⟨x1, x2, x3, x4, x5, x6, g⟩ := cc
            dsimp only at *
            have hx := HX.out
            subst hx
            cases hq : roundB f r e with
            | true =>
              have hbe : (decide (f < e.value) == ((r : Int) == 0)) = true := by
                unfold roundB behindB at hq
                rw [← hq]; congr 1
                rw [Bool.eq_iff_iff]; simp
              have HQ := Lib.hid hq
              clear hq
              go_wp2_with (at_builtin; go_loud (refine wpList_append_ent rfl _ _ rfl _ rfl (HR.out.later H0.out.stp.fresh (below_a1 wr (.cells #[.int .u32 e.value, .int .u64 x2, .int .u64 x3, .slice x4 x5 x6, .bool g] 49))) (fun k hk => H0.out.stp.fresh k (by rw [size_alloc] at hk; omega)) HP.out (some ⟨wr.heap.size, 0, none⟩) 1 1 rfl (ents_one (e := e) (m := ⟨e.value, x2, x3, x4, x5, x6, g⟩) (Box.new _ _ _) (H0.out.stp.fresh _ (Nat.le_refl _)) (HE.out.move fun b hb hlt => ⟨(below_a1 wr _).block b hlt, hb.1, by rw [size_alloc]; omega⟩)) (fun h => by cases h) (by rw [List.length_append]; omega) ?_; intro B2 cap2 w2 c2 st2 er2))
              go_roundw
              case rel => exact ⟨k + 1, by omega, by go_num, c2, (H0.out.later (below_a1 wr _)).other HP.out HO.out st2, by rw [HST.out, if_pos HQ.out]; rw [List.length_append] at er2; exact er2, HP.out, HO.out⟩
              case measure => simp [intOf]; omega
            | false =>
              have hbe : (decide (f < e.value) == ((r : Int) == 0)) = false := by
                unfold roundB behindB at hq
                rw [← hq]; congr 1
                rw [Bool.eq_iff_iff]; simp
              have HQ := Lib.hid hq
              clear hq
              go_wp2
              go_roundw
              case rel => exact ⟨k + 1, by omega, by go_num, c, H0.out, by rw [HST.out, if_neg (by rw [HQ.out]; exact Bool.false_ne_true)]; exact HR.out, HP.out, HO.out⟩
              case measure => simp [intOf]; omega
          · obtain rfl : k = all.length := by omega
            have HU := Lib.hid HT.out
            rw [List.take_length] at HU
            go_wp2
            go_roundw
            case rel => exact ⟨r + 1, by omega, by simp, HU.out⟩
            case measure => simp [intOf]; omega
      · obtain rfl : r = 2 := by omega
        have Q2' := Q2.out
        obtain ⟨want, hw⟩ : ∃ want, roundsL f all 2 = want := ⟨_, rfl⟩
        have HS2 := HS.out
        rw [hw] at HS2 Q2'
        have Q3 := Lib.hid Q2'
        obtain ⟨AV, capV, rfl, v1, v2, v3⟩ := HS2.shape
        have HS := Lib.hid HS2
        clear HS2 hw v3 Q2'
        go_wp2
        go_loopw [10] (fun s10 wq => ∃ k : Nat, (k + 1 ≤ all.length ∨ k = 0) ∧ s10 = .int .i64 ((k : Int) + 1) ∧ StR W [⟨[1], b, L1, false⟩] ([⟨A, n, cap, l⟩] ++ [⟨A1, all.length, cap1, all⟩]) [5] (.slice AV want.length capV) want wq) (fun i _ => all.length + 1 - (intOf i).toNat)
        case atStart => exact ⟨0, .inr rfl, by simp, HS.out⟩
        case round =>
          obtain ⟨k, hk, rfl, hs⟩ := hrel
          have HT := Lib.hid hs
          clear hs
          by_cases hlt2 : k + 1 < all.length
          · obtain ⟨e, he⟩ : ∃ e, all[k]? = some e := ⟨_, List.getElem?_eq_getElem (by omega)⟩
            obtain ⟨e', he'⟩ : ∃ e, all[k + 1]? = some e := ⟨_, List.getElem?_eq_getElem (by omega)⟩
            have hts : e.value < e'.value ∨ (e.value = e'.value ∧ e.rc.id < e'.rc.id) := by
              have := List.pairwise_iff_getElem.1 HTS.out k (k + 1) (by omega) (by omega) (by omega)
              rw [(List.getElem?_eq_some_iff.1 he).2, (List.getElem?_eq_some_iff.1 he').2] at this
              exact this
            obtain ⟨_, _, hrow⟩ := HT.out.st.row (r := ⟨A1, all.length, cap1, all⟩) (by simp)
            dsimp only at hrow
            obtain ⟨bb, off, rfl, hbb, hcc⟩ := hrow (by omega)
            obtain ⟨cc, hcell, hent⟩ := hcc k e he
            obtain ⟨cc', hcell', hent'⟩ := hcc (k + 1) e' he'
            have d0 := hcell 0 _ rfl; have d1 := hcell 1 _ rfl
            have f0 := hcell' 0 _ rfl; have f1 := hcell' 1 _ rfl
            rw [hent.1] at d0; rw [hent.2.1] at d1; rw [hent'.1] at f0; rw [hent'.2.1] at f1
            simp only [Nat.add_zero] at d0 f0
            have hB := HT.out.later (Below.refl _ _)
            clear hcc hcell hcell' hent hent' he he' hbb hrow
            have w1 : IntKind.i64.wrap ((k : Int) + 1 - 1) = k := by rw [Int.add_sub_cancel]; exact IntWalk.i64_in _ (by omega)
            have w2 : ((k : Int) + 1).toNat = k + 1 := by omega
            have g1 : decide (e'.value < e.value) = false := by simp; omega
            have g2 : (0 : Int) ≤ (k : Int) + 1 := by omega
            rcases hts with hv | ⟨hv, hi⟩
            · have g3 : (e'.value == e.value) = false := by rw [beq_eq_false_iff_ne]; omega
              clear hv
              go_upto_region 18 with fail
              go_quiet (fail)
              go_wp2
              go_roundw
              case rel => exact ⟨k + 1, .inl (by omega), by go_num, HT.out.later (by repeat (first | exact Below.refl _ _ | assumption | apply Below.drew | apply belowN | (refine Below.alloc ?_ (by first | exact Nat.le_refl _ | (simp; done) | (simp; omega)) _) | (refine Below.setCell ?_ (by first | exact Nat.le_refl _ | (simp; done) | (simp; omega)) _)))⟩
              case measure => simp [intOf]; omega
            · have g3 : (e'.value == e.value) = true := by rw [beq_iff_eq]; omega
              have g4 : decide (e'.rc.id ≤ e.rc.id) = false := by simp; omega
              clear hv hi
              go_upto_region 18 with fail
              go_quiet (fail)
              go_wp2
              go_roundw
              case rel => exact ⟨k + 1, .inl (by omega), by go_num, HT.out.later (by repeat (first | exact Below.refl _ _ | assumption | apply Below.drew | apply belowN | (refine Below.alloc ?_ (by first | exact Nat.le_refl _ | (simp; done) | (simp; omega)) _) | (refine Below.setCell ?_ (by first | exact Nat.le_refl _ | (simp; done) | (simp; omega)) _)))⟩
              case measure => simp [intOf]; omega
          · have WN := Lib.hid HT.out.any
            have SF := Lib.hid HT.out.st
            have hlE := Lib.hid (show L1.length = all.length from HLEN.out.symm)
            go_wp2_with (first
              | (go_at_call 25; go_loud ((with_reducible refine (awake09 _).mono ?_); rintro e w2 ⟨rfl, hg⟩; have SG := Lib.hid (SF.out.later hg); have WG := Lib.hid (WN.out.below hg); clear hg))
              | (go_at_call 29; go_loud ((with_reducible refine (st_scan f f SG.out ⟨[1], b, L1, false⟩ (by simp) rfl Q3.out).mono ?_); rintro e w4 ⟨A5, cap5, rfl, hs, hb⟩; have SH := Lib.hid hs; have WH := Lib.hid (WG.out.below hb); clear hs hb))
              | (go_at_call 28; go_loud ((with_reducible refine (entries_any _ (SH.out.row (r := ⟨A5, want.length, cap5, want⟩) (by simp)) WH.out).mono ?_); rintro e w5 ⟨rfl, hb⟩; rw [show decide (want = want) = true from decide_eq_true rfl]; have SI := Lib.hid (SH.out.later hb); clear hb))
              | (go_at_call 30; go_loud ((with_reducible refine (st_len (n := all.length) SI.out ⟨[1], b, L1, false⟩ (by simp) rfl hlE.out).mono ?_); rintro e w1 ⟨rfl, rfl⟩)))
            go_ret
            exact ⟨by first | rfl | simp, SI.out.end⟩

theorem wShelfScans (W : World) (vs : List Value) (h : Sh.Args W (· < W.heap.size) [((.sl (.st (.pair (.int .u32) (.pair (.st (.pair (.int .u64) (.pair (.int .u64) (.pair (.sl (.int .u32) 4) .unit)))) (.pair .bool .unit)))) 56), 46), ((.int .u32), 39)] vs) :
    Calls Try.prog 7 vs.toArray W fun e W' => e = .returned (.bool true) ∧ Below W.heap.size W W' := by
  obtain ⟨_, _, rfl, ⟨a, ha⟩, _, _, rfl, ⟨b, hb⟩, rfl⟩ := h
  obtain ⟨A, n, cap, l, rfl, h1, h2, h3⟩ := ents_at ha
  obtain ⟨f, rfl, w1⟩ := int_open hb
  exact wShelfScans0 W A n cap l f h3 (by omega) (u32_of w1)
end Go.Proofs.Ytmohkfihfkcpdaa
