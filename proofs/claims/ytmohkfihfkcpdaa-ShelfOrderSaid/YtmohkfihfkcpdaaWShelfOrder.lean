/- The walk of the law ShelfOrder: it returns true. Conditions: none. -/
import Derived.Test.YtmohkfihfkcpdaaFreeze
import Derived.Test.YtmohkfihfkcpdaaOrderDd
import Derived.Test.YtmohkfihfkcpdaaShelfNow
namespace Go.Proofs.Ytmohkfihfkcpdaa
open Go.RowKit Go.ChangeShapes Go.Maps
set_option maxRecDepth 100000
set_option linter.unusedVariables false
set_option linter.unusedSimpArgs false

theorem few_len {l : List Ent} (h : fewF l = true) : l.length ≤ 30 := by
  unfold fewF at h
  simp only [Bool.and_eq_true, decide_eq_true_eq] at h
  exact h.2

theorem hpm_len {m sm : List Ent} (h : m.Perm sm) : m.length = sm.length := h.length_eq
set_option maxHeartbeats 4000000 in
theorem wShelfOrder0 (W : World) (A : Option Addr) (n cap : Nat) (l : List Ent) (TA : Option Addr) (tn tc : Nat) (ts : List Int) (hl : EntsAt W (· < W.heap.size) A n cap l) (hn : n ≤ 140737488351232) (ht : Ints W (· < W.heap.size) .i64 8 TA tn tc ts) :
    Calls Try.prog 6 #[.slice A n cap, .slice TA tn tc] W fun e W' => e = .returned (.bool true) ∧ Below W.heap.size W W' := by
  have S0 := Lib.hid (St.start (W := W) (rows := [⟨A, n, cap, l⟩]) (fun r hr => by simp only [List.mem_singleton] at hr; subst hr; exact hl))
  have HL := Lib.hid hl.1
  have HT := Lib.hid ht
  clear hl ht
  cases hfew : fewF l with
  | false =>
    have HF := Lib.hid hfew
    clear hfew
    go_enter Try.func6, Try.ntmps6
    go_wp2_with (first
      | (go_at_call 24; ((with_reducible refine (st_few S0.out ⟨A, n, cap, l⟩ (by simp) hn HF.out).mono ?_); rintro e w' ⟨rfl, rfl⟩))
      | (go_at_call 25; (with_reducible refine (awake09 _).mono ?_); rintro e w' ⟨rfl, hg⟩))
    go_ret
    exact ⟨rfl, hg⟩
  | true =>
    have HF := Lib.hid hfew
    have hl30 := few_len hfew
    have hln : n ≤ 30 := by rw [← HL.out]; exact hl30
    clear hfew hn
    go_enter Try.func6, Try.ntmps6
    go_wp2_with (first
      | (go_at_call 24; ((with_reducible refine (st_few S0.out ⟨A, n, cap, l⟩ (by simp) (by show n ≤ _; omega) HF.out).mono ?_); rintro e w' ⟨rfl, rfl⟩)))
    have S1 := Lib.hid (S0.out.rowNil [5] (by simp) (by simp))
    go_loopw [5, 6] (fun s5 s6 wq => ∃ i : Nat, i ≤ n ∧ s6 = .int .i64 i ∧ StR W [] [⟨A, n, cap, l⟩] [5] s5 (ddL (l.take i)) wq) (fun _ i _ => n - (intOf i).toNat)
    case atStart => exact ⟨0, by omega, rfl, S1.out⟩
    case round =>
      obtain ⟨i, hi, rfl, hs⟩ := hrel
      have HS := Lib.hid hs
      clear hs S1
      have hdl := dd_len (l.take i)
      have hti : (l.take i).length ≤ i := by simp; omega
      obtain ⟨AV, capV, rfl, v1, v2, v3⟩ := HS.out.shape
      have V3 := Lib.hid v3
      clear v3
      by_cases hlt : i < n
      · obtain ⟨e, he⟩ : ∃ e, l[i]? = some e := ⟨_, List.getElem?_eq_getElem (by rw [HL.out]; exact hlt)⟩
        have HDD := Lib.hid (show ddL (l.take (i + 1)) = ddStep (ddL (l.take i)) e by rw [List.take_add_one, he]; exact ddL_snoc _ _)
        have HE := Lib.hid he
        generalize ddL (l.take i) = acc at *
        --[[
        go_wp2
        go_loopw [7, 8] (fun s7 s8 wq => ∃ k : Nat, k ≤ acc.length ∧ s8 = .int .i64 k ∧ s7 = .bool ((acc.take k).any (sameQ e)) ∧ StR W [] [⟨A, n, cap, l⟩] [5] (.slice AV acc.length capV) acc wq) (fun _ k _ => acc.length - (intOf k).toNat)
        case atStart => exact ⟨0, by omega, rfl, by simp, HS.out⟩
        case round =>
          obtain ⟨k, hk, rfl, rfl, hs⟩ := hrel
          have HQ := Lib.hid hs
          clear hs
          by_cases hlt2 : k < acc.length
          · obtain ⟨x, hx⟩ : ∃ x, acc[k]? = some x := ⟨_, List.getElem?_eq_getElem hlt2⟩
            have HAT := Lib.hid (any_take (p := sameQ e) hx)
            obtain ⟨c, h0, hrw, hp, ho⟩ := HQ.out
            obtain ⟨_, _, hrow⟩ := h0.reads ⟨A, n, cap, l⟩ (by simp)
            dsimp only at hrow
            obtain ⟨bb, off, rfl, hbb, hcc⟩ := hrow (by omega)
            obtain ⟨cc, hcell, hent⟩ := hcc i e HE.out
            have d0 := hcell 0 _ rfl; have d1 := hcell 1 _ rfl; have d2 := hcell 2 _ rfl; have d4 := hcell 4 _ rfl
            rw [hent.1] at d0; rw [hent.2.1] at d1; rw [hent.2.2.1] at d2; rw [hent.2.2.2.1] at d4
            simp only [Nat.add_zero] at d0
            obtain ⟨g0, rfl⟩ : ∃ g0, AV = some ⟨g0, 0, none⟩ := by
              obtain ⟨A9, c9, h9, _, _, h99, h98⟩ := hrw.shape
              injection h9 with h9 _ _
              subst h9
              cases AV with
              | none => have := (h99 rfl).1; omega
              | some ad => obtain ⟨g, rfl, _⟩ := h98 ad rfl; exact ⟨g, rfl⟩
            obtain ⟨m, hm, hme⟩ := hrw.cells hx
            have f0 := hm 0 _ rfl; have f1 := hm 1 _ rfl; have f2 := hm 2 _ rfl; have f4 := hm 4 _ rfl
            rw [hme.1] at f0; rw [hme.2.1] at f1; rw [hme.2.2.1] at f2; rw [hme.2.2.2.1] at f4
            simp only [Nat.add_zero] at f0
            clear hcc hcell hent hm hme hrow hbb hx h0 hrw hp ho
            cases hag : (acc.take k).any (sameQ e) with
            | true =>
              have HV := Lib.hid (show ((acc.take k).any (sameQ e) || sameQ e x) = true by rw [hag]; rfl)
              clear hag
              go_upto_region 11 with fail
              go_quiet (fail)
              go_wp2
              go_roundw
              case rel => exact ⟨k + 1, by omega, by go_num, by rw [HAT.out, HV.out], HQ.out.later (by repeat (first | exact Below.refl _ _ | assumption | apply Below.drew | apply belowN | (refine Below.alloc ?_ (by first | exact Nat.le_refl _ | (simp; done) | (simp; omega)) _) | (refine Below.setCell ?_ (by first | exact Nat.le_refl _ | (simp; done) | (simp; omega)) _)))⟩
              case measure => simp [intOf]; omega
            | false =>
              by_cases hv : x.value = e.value
              · have b1 : (x.value == e.value) = true := by rw [beq_iff_eq]; exact hv
                by_cases hid : x.rc.id = e.rc.id
                · have b2 : (x.rc.id == e.rc.id) = true := by rw [beq_iff_eq]; exact hid
                  by_cases hver : x.rc.ver = e.rc.ver
                  · have b3 : (x.rc.ver == e.rc.ver) = true := by rw [beq_iff_eq]; exact hver
                    cases b4 : (x.gone == e.gone) with
                    | true =>
                      have HV := Lib.hid (show ((acc.take k).any (sameQ e) || sameQ e x) = true by rw [hag]; unfold sameQ; rw [b1, b2, b3, b4]; rfl)
                      clear hag hv hid hver
                      go_upto_region 11 with fail
                      go_quiet (fail)
                      go_wp2
                      go_roundw
                      case rel => exact ⟨k + 1, by omega, by go_num, by rw [HAT.out, HV.out], HQ.out.later (by repeat (first | exact Below.refl _ _ | assumption | apply Below.drew | apply belowN | (refine Below.alloc ?_ (by first | exact Nat.le_refl _ | (simp; done) | (simp; omega)) _) | (refine Below.setCell ?_ (by first | exact Nat.le_refl _ | (simp; done) | (simp; omega)) _)))⟩
                      case measure => simp [intOf]; omega
                    | false =>
                      have HV := Lib.hid (show ((acc.take k).any (sameQ e) || sameQ e x) = false by rw [hag]; unfold sameQ; rw [b1, b2, b3, b4]; rfl)
                      clear hag hv hid hver
                      go_upto_region 11 with fail
                      go_quiet (fail)
                      go_wp2
                      go_roundw
                      case rel => exact ⟨k + 1, by omega, by go_num, by rw [HAT.out, HV.out], HQ.out.later (by repeat (first | exact Below.refl _ _ | assumption | apply Below.drew | apply belowN | (refine Below.alloc ?_ (by first | exact Nat.le_refl _ | (simp; done) | (simp; omega)) _) | (refine Below.setCell ?_ (by first | exact Nat.le_refl _ | (simp; done) | (simp; omega)) _)))⟩
                      case measure => simp [intOf]; omega
                  · have b3 : (x.rc.ver == e.rc.ver) = false := by rw [beq_eq_false_iff_ne]; exact hver
                    have HV := Lib.hid (show ((acc.take k).any (sameQ e) || sameQ e x) = false by rw [hag]; unfold sameQ; rw [b1, b2, b3]; rfl)
                    clear hag hv hid hver
                    go_upto_region 11 with fail
                    go_quiet (fail)
                    go_wp2
                    go_roundw
                    case rel => exact ⟨k + 1, by omega, by go_num, by rw [HAT.out, HV.out], HQ.out.later (by repeat (first | exact Below.refl _ _ | assumption | apply Below.drew | apply belowN | (refine Below.alloc ?_ (by first | exact Nat.le_refl _ | (simp; done) | (simp; omega)) _) | (refine Below.setCell ?_ (by first | exact Nat.le_refl _ | (simp; done) | (simp; omega)) _)))⟩
                    case measure => simp [intOf]; omega
                · have b2 : (x.rc.id == e.rc.id) = false := by rw [beq_eq_false_iff_ne]; exact hid
                  have HV := Lib.hid (show ((acc.take k).any (sameQ e) || sameQ e x) = false by rw [hag]; unfold sameQ; rw [b1, b2]; rfl)
                  clear hag hv hid
                  go_upto_region 11 with fail
                  go_quiet (fail)
                  go_wp2
                  go_roundw
                  case rel => exact ⟨k + 1, by omega, by go_num, by rw [HAT.out, HV.out], HQ.out.later (by repeat (first | exact Below.refl _ _ | assumption | apply Below.drew | apply belowN | (refine Below.alloc ?_ (by first | exact Nat.le_refl _ | (simp; done) | (simp; omega)) _) | (refine Below.setCell ?_ (by first | exact Nat.le_refl _ | (simp; done) | (simp; omega)) _)))⟩
                  case measure => simp [intOf]; omega
              · have b1 : (x.value == e.value) = false := by rw [beq_eq_false_iff_ne]; exact hv
                have HV := Lib.hid (show ((acc.take k).any (sameQ e) || sameQ e x) = false by rw [hag]; unfold sameQ; rw [b1]; rfl)
                clear hag hv
                go_upto_region 11 with fail
                go_quiet (fail)
                go_wp2
                go_roundw
                case rel => exact ⟨k + 1, by omega, by go_num, by rw [HAT.out, HV.out], HQ.out.later (by repeat (first | exact Below.refl _ _ | assumption | apply Below.drew | apply belowN | (refine Below.alloc ?_ (by first | exact Nat.le_refl _ | (simp; done) | (simp; omega)) _) | (refine Below.setCell ?_ (by first | exact Nat.le_refl _ | (simp; done) | (simp; omega)) _)))⟩
                case measure => simp [intOf]; omega
          · obtain rfl : k = acc.length := by omega
            have hT : acc.take acc.length = acc := List.take_length
            rw [hT]
            clear hT
            cases hag : acc.any (sameQ e) with
            | true =>
              have HV := Lib.hid (show ddStep acc e = acc by unfold ddStep; rw [if_pos hag])
              clear hag
              go_wp2
              go_roundw
              case rel => exact ⟨i + 1, by omega, by go_num, by rw [HDD.out, HV.out]; exact HQ.out⟩
              case measure => simp [intOf]; omega
            | false =>
              have HV := Lib.hid (show ddStep acc e = acc ++ [e] by unfold ddStep; rw [if_neg (by rw [hag]; exact Bool.false_ne_true)])
              clear hag
              obtain ⟨c, h0, hrw, hp, ho⟩ := HQ.out
              obtain ⟨_, _, hrow⟩ := h0.reads ⟨A, n, cap, l⟩ (by simp)
              dsimp only at hrow
              obtain ⟨bb, off, rfl, hbb, hcc⟩ := hrow (by omega)
              obtain ⟨cc, hcell, hent⟩ := hcc i e HE.out
              have d0 := hcell 0 _ rfl; have d1 := hcell 1 _ rfl; have d2 := hcell 2 _ rfl; have d3 := hcell 3 _ rfl; have d4 := hcell 4 _ rfl
              simp only [Nat.add_zero] at d0
              have H0 := Lib.hid h0; have HR := Lib.hid hrw; have HP := Lib.hid hp; have HO := Lib.hid ho; have HEN := Lib.hid hent
              clear hcc hcell hent h0 hrw hp ho hbb hrow
              obtain ⟨x1, x2, x3, x4, x5, x6, g⟩ := cc
              dsimp only at *
              go_wp2_with (at_builtin; go_loud (refine wpList_append_ent rfl _ _ rfl _ rfl (HR.out.later H0.out.stp.fresh (below_a1 wr (.cells #[.int .u32 x1, .int .u64 x2, .int .u64 x3, .slice x4 x5 x6, .bool g] 49))) (fun k hk => H0.out.stp.fresh k (by rw [size_alloc] at hk; omega)) HP.out (some ⟨wr.heap.size, 0, none⟩) 1 1 rfl (ents_one (e := e) (m := ⟨x1, x2, x3, x4, x5, x6, g⟩) (Box.new _ _ _) (H0.out.stp.fresh _ (Nat.le_refl _)) (HEN.out.move fun b hb hlt => ⟨(below_a1 wr _).block b hlt, hb.1, by rw [size_alloc]; omega⟩)) (fun h => by cases h) (by omega) ?_; intro B2 cap2 w2 c2 st2 er2))
              go_roundw
              case rel => exact ⟨i + 1, by omega, by go_num, c2, (H0.out.later (below_a1 wr _)).other HP.out HO.out st2, by rw [HDD.out, HV.out]; exact er2, HP.out, HO.out⟩
              case measure => simp [intOf]; omega
        --]]
      · obtain rfl : i = n := by omega
        have hall : l.take i = l := List.take_of_length_le (by rw [HL.out]; exact Nat.le_refl _)
        rw [hall] at HS hdl V3 ⊢
        have HAP := Lib.hid (dd_apart l)
        clear hti hall
        obtain ⟨sm, hsome⟩ : ∃ sm, ddL l = sm := ⟨_, rfl⟩
        rw [hsome] at HS hdl HAP V3 ⊢
        clear hsome
        have hs30 : sm.length ≤ 30 := by omega
        have SF := Lib.hid HS.out.freeze
        clear HS
        obtain ⟨c, h0⟩ := SF.out
        have HN := Lib.hid (h0.reads ⟨AV, sm.length, capV, sm⟩ (by simp))
        have H0 := Lib.hid h0
        have HV0 := Lib.hid (EntRow.nil c [6] wr)
        have hAV : AV = none → sm.length = 0 ∧ capV = 0 := V3.out
        have HAV := Lib.hid hAV
        clear h0 hAV
        go_wp2_with (at_builtin; go_loud (refine wpList_append_ent rfl _ _ rfl _ rfl HV0.out H0.out.stp.fresh (by simp) AV sm.length capV rfl HN.out HAV.out (by simp; omega) ?_; intro B2 cap2 w2 c2 st2 er2))
        simp only [List.length_nil, Nat.zero_add, List.nil_append] at er2
        have SG := Lib.hid (show StR W [] ([⟨A, i, cap, l⟩] ++ [⟨AV, sm.length, capV, sm⟩]) [6] (.slice B2 sm.length cap2) sm w2 from ⟨c2, H0.out.other (by simp) (by simp) st2, er2, by simp, by simp⟩)
        have hcap2 : sm.length ≤ cap2 := by obtain ⟨_, _, h9, h8, _⟩ := er2.shape; injection h9 with _ _ h9; omega
        clear er2 st2 H0 HV0 HN SF
        go_loopw [10] (fun s10 wq => ∃ (j : Nat) (m : List Ent), j ≤ 60 ∧ s10 = .int .i64 j ∧ m.Perm sm ∧ StR W [] ([⟨A, i, cap, l⟩] ++ [⟨AV, sm.length, capV, sm⟩]) [6] (.slice B2 sm.length cap2) m wq) (fun k _ => 60 - (intOf k).toNat)
        case atStart => exact ⟨0, sm, by omega, rfl, List.Perm.refl _, SG.out⟩
        case round =>
          obtain ⟨j, m, hj, rfl, hpm, hs⟩ := hrel
          have HM := Lib.hid hs; have HPM := Lib.hid hpm
          clear hs hpm SG
          by_cases hc : j < tn ∧ j < 60 ∧ 0 < sm.length
          · obtain ⟨h1, h2, h3⟩ := hc
            --[[
            obtain ⟨tb, toff, rfl, htb, htc⟩ := HT.out.2.2.2.2.2.2 (by omega)
            have tcell := (HM.out.st.end.cell (p := ⟨tb, toff + j, none⟩) htb).trans (htc j h1)
            clear htc htb
            generalize ts.getD j 0 = a at tcell
            obtain ⟨len, hlen⟩ : ∃ len, sm.length = len := ⟨_, rfl⟩
            have hmod := uint_mod a len (by omega) (by omega)
            obtain ⟨q, hq⟩ : ∃ q : Nat, a % 18446744073709551616 % (len : Int) = (q : Int) := ⟨(a % 18446744073709551616 % (len : Int)).toNat, by have := Int.emod_nonneg (a % 18446744073709551616) (show (len : Int) ≠ 0 by omega); omega⟩
            have hqk : q < len := by have := Int.emod_lt_of_pos (a % 18446744073709551616) (show (0 : Int) < len by omega); omega
            rw [hq] at hmod
            clear hq
            rw [hlen] at HM h3 hs30 ⊢
            have HLN := Lib.hid hlen
            clear hlen
            go_upto_region 19 with fail
            obtain ⟨pa, hpa⟩ : ∃ pa, j % len = pa := ⟨_, rfl⟩
            have hpl : pa < len := by rw [← hpa]; exact Nat.mod_lt _ h3
            have hwm : (j : Int).tmod (len : Int) = (pa : Int) := by rw [Int.tmod_eq_emod_of_nonneg (by omega), ← hpa]; rfl
            have hml : m.length = len := by rw [← HLN.out]; exact HPM.out.length_eq
            obtain ⟨ea, hea⟩ : ∃ x, m[pa]? = some x := ⟨_, List.getElem?_eq_getElem (by omega)⟩
            obtain ⟨eq, heq⟩ : ∃ x, m[q]? = some x := ⟨_, List.getElem?_eq_getElem (by omega)⟩
            obtain ⟨c, h0, hrw, hp, ho⟩ := HM.out
            obtain ⟨g, rfl⟩ : ∃ g, B2 = some ⟨g, 0, none⟩ := by
              obtain ⟨A9, c9, h9, _, _, h99, h98⟩ := hrw.shape
              injection h9 with h9 _ _
              subst h9
              cases B2 with
              | none => have := (h99 rfl).1; omega
              | some ad => obtain ⟨g, rfl, _⟩ := h98 ad rfl; exact ⟨g, rfl⟩
            obtain ⟨ma, hma, hmae⟩ := hrw.cells hea
            obtain ⟨mq, hmq, hmqe⟩ := hrw.cells heq
            have d0 := hma 0 _ rfl; have d1 := hma 1 _ rfl; have d2 := hma 2 _ rfl; have d3 := hma 3 _ rfl; have d4 := hma 4 _ rfl
            have f0 := hmq 0 _ rfl; have f1 := hmq 1 _ rfl; have f2 := hmq 2 _ rfl; have f3 := hmq 3 _ rfl; have f4 := hmq 4 _ rfl
            simp only [Nat.add_zero] at d0 f0
            obtain ⟨cur, hbox, hcs⟩ : ∃ cur, BoxT wr 49 g cur ∧ len * 5 ≤ cur.size := by
              obtain ⟨M, hw, _, hMl, _⟩ := hrw
              obtain ⟨_, cp, h9, h96, _, _, h98⟩ := owns_shape hw
              injection h9 with h9 _ _
              obtain ⟨g', cur, h97, hb, hsz, _⟩ := h98 _ h9.symm
              injection h97 with h97
              subst h97
              refine ⟨cur, hb, ?_⟩
              rw [hsz]
              exact Nat.mul_le_mul_right 5 (by omega)
            have fr := hbox.box.free
            obtain ⟨umq0, kmq0⟩ := box_some (hbox.box.set (i := pa * 5) (.int .u32 mq.x)) (q * 5) (by simp; omega)
            obtain ⟨umq1, kmq1⟩ := box_some ((hbox.box.set (i := pa * 5) (.int .u32 mq.x)).set (i := pa * 5 + 1) (.int .u64 mq.id)) (q * 5 + 1) (by simp; omega)
            obtain ⟨umq2, kmq2⟩ := box_some (((hbox.box.set (i := pa * 5) (.int .u32 mq.x)).set (i := pa * 5 + 1) (.int .u64 mq.id)).set (i := pa * 5 + 2) (.int .u64 mq.ver)) (q * 5 + 2) (by simp; omega)
            obtain ⟨umq3, kmq3⟩ := box_some ((((hbox.box.set (i := pa * 5) (.int .u32 mq.x)).set (i := pa * 5 + 1) (.int .u64 mq.id)).set (i := pa * 5 + 2) (.int .u64 mq.ver)).set (i := pa * 5 + 3) (.slice mq.s mq.l mq.c)) (q * 5 + 3) (by simp; omega)
            obtain ⟨umq4, kmq4⟩ := box_some (((((hbox.box.set (i := pa * 5) (.int .u32 mq.x)).set (i := pa * 5 + 1) (.int .u64 mq.id)).set (i := pa * 5 + 2) (.int .u64 mq.ver)).set (i := pa * 5 + 3) (.slice mq.s mq.l mq.c)).set (i := pa * 5 + 4) (.bool mq.g)) (q * 5 + 4) (by simp; omega)
            have H0 := Lib.hid h0; have HR := Lib.hid hrw; have HMA := Lib.hid hma; have HMQ := Lib.hid hmq; have HEA' := Lib.hid hmae; have HEQ' := Lib.hid hmqe; have HB := Lib.hid hbox
            have HEA := Lib.hid hea; have HEQ := Lib.hid heq
            rw [hmod]
            have hne : ¬ len = 0 := by omega
            clear hma hmq hmae hmqe h0 hrw hp ho hbox hea heq hpa tcell hmod
            have SW := Lib.hid (EntRow.swap HR.out H0.out.stp.fresh (by simp) HEA.out HEQ.out HMA.out HMQ.out HEA'.out HEQ'.out HB.out ((HB.out.put5 pa mq).put5 q ma) (((Only.refl (· = g) wr).put5 rfl pa mq).put5 rfl q ma))
            have HPM2 := Lib.hid ((swap_perm HEA.out HEQ.out).trans HPM.out)
            go_region
            go_wp2
            go_roundw
            case rel => exact ⟨j + 1, _, by omega, by go_num, HPM2.out, (StR.later (⟨c, H0.out.other (by simp) (by simp) SW.out.1, SW.out.2, by simp, by simp⟩ : StR W [] ([⟨A, i, cap, l⟩] ++ [⟨AV, len, capV, sm⟩]) [6] (.slice (some ⟨g, 0, none⟩) len cap2) _ _) (Same.drew _).1)⟩
            case measure => simp [intOf]; omega
            --]]
          · have SM := Lib.hid HM.out.freeze
            have hpl := hpm_len HPM.out
            obtain ⟨⟨La, ka⟩, hja⟩ : ∃ p, joinF [] sm = p := ⟨_, rfl⟩
            obtain ⟨⟨Lb, kb⟩, hjb⟩ : ∃ p, joinF [] m = p := ⟨_, rfl⟩
            have hab : La.Perm Lb := by
              have := join_order (l := sm) (m := m) (by omega) HAP.out HPM.out.symm
              rwa [hja, hjb] at this
            have NE1 := Lib.hid (show ([2] : List Int) ≠ [1] by decide); have NE2 := Lib.hid (show ([1] : List Int) ≠ [2] by decide)
            have JA := Lib.hid hja; have JB := Lib.hid hjb; have HAB := Lib.hid hab
            clear hja hjb hab HM
            have hcc : (¬ j < tn) ∨ (j < tn ∧ ¬ j < 60) ∨ (j < tn ∧ j < 60 ∧ ¬ 0 < sm.length) := by omega
            clear hc
            rcases hcc with h1 | ⟨h1, h2⟩ | ⟨h1, h2, h3⟩
            all_goals
              go_upto_region 24 with (first
                | (go_at_call 26; go_loud ((with_reducible refine (st_new [1] SM.out (by simp) (by simp)).mono ?_); rintro e w1 ⟨b1, rfl, hs, hb⟩; have SA := Lib.hid (show St W [⟨[1], b1, [], false⟩] _ w1 from hs); clear hs hb SM))
                | (go_at_call 26; go_loud ((with_reducible refine (st_new [2] SA.out (by simp) (by simp)).mono ?_); rintro e w1 ⟨b2, rfl, hs, hb⟩; have SB := Lib.hid (show St W [⟨[1], b1, [], false⟩, ⟨[2], b2, [], false⟩] _ w1 from hs); clear hs hb))
                | (go_at_call 27; ((with_reducible refine (st_join (obs' := [⟨[1], b1, La, false⟩, ⟨[2], b2, [], false⟩]) (n := ka) SB.out ⟨[1], b1, [], false⟩ (by simp) rfl ⟨AV, sm.length, capV, sm⟩ (by simp) (by rw [JA.out]; exact setOb_fst NE1.out _ _ _ _ _ _ _) (by rw [JA.out])).mono ?_); rintro e w3 ⟨rfl, hs, hb⟩; have SC := Lib.hid hs; clear hs hb))
                | (go_at_call 27; ((with_reducible refine (st_join (obs' := [⟨[1], b1, La, false⟩, ⟨[2], b2, Lb, false⟩]) (n := kb) SC.out ⟨[2], b2, [], false⟩ (by simp) rfl ⟨B2, sm.length, cap2, m⟩ (by simp) (by rw [JB.out]; exact setOb_snd NE2.out _ _ _ _ _ _ _) (by rw [JB.out])).mono ?_); rintro e w4 ⟨rfl, hs, hb⟩; have SD := Lib.hid hs; clear hs hb)))
              have SD := Lib.hid (SD.out.later (below_a1 w4 (.cells #[.int .u32 7, .int .u32 7] 54)))
              have X14 := Lib.hid (Box.new w4 #[.int .u32 7, .int .u32 7] 54)
              obtain ⟨all, hall⟩ : ∃ all, scanL 7 7 La = all := ⟨_, rfl⟩
              have QB := Lib.hid ((scanL_congr (f := 7) (t := 7) (SD.out.ok (o := ⟨[1], b1, La, false⟩) (by simp)) HAB.out).trans hall)
              have QA := Lib.hid hall
              have QL := Lib.hid HAB.out.length_eq.symm
              clear hall
              generalize w4.alloc (.cells #[.int .u32 7, .int .u32 7] 54) = wy at *
              generalize w4.heap.size = b14 at *
              have c14 := X14.out.cell; have z14 := X14.out.lt
              have S0' := Same.refl wy
              go_region_held3 (fun w' => Same wy w') (with_reducible (first | assumption | exact Same.drew _))
                ((first
                  | (go_at_call 25; (with_reducible refine (awake09 _).mono ?_); rintro e wa ⟨rfl, hb⟩; have SK := Lib.hid (SD.out.later ((Same.step (show Same wy _ by (with_reducible (first | assumption | exact Same.drew _))) hb).1)); have S1 := Same.step (show Same wy _ by (with_reducible (first | assumption | exact Same.drew _))) hb; clear hb)
                  | (go_at_call 29; ((with_reducible refine (st_scan 7 7 (TA.out.later (by first | exact (Same.refl _).1 | exact (Same.drew _).1)) ⟨[2], b2, Lb, false⟩ (by simp) rfl QB.out).mono ?_); rintro e wb ⟨A5, cap5, rfl, hs, hb⟩; have TC := Lib.hid hs; have S1 := Same.step (show Same wy _ by (with_reducible (first | assumption | exact Same.drew _))) hb; clear hs hb))
                  | (go_at_call 29; ((with_reducible refine (st_scan 7 7 (TB.out.later (by first | exact (Same.refl _).1 | exact (Same.drew _).1)) ⟨[1], b1, La, false⟩ (by simp) rfl QA.out).mono ?_); rintro e wb ⟨A4, cap4, rfl, hs, hb⟩; have TC := Lib.hid hs; have S1 := Same.step (show Same wy _ by (with_reducible (first | assumption | exact Same.drew _))) hb; clear hs hb))
                  | (go_at_call 29; ((with_reducible refine (st_scan 7 7 (SK.out.later (by first | exact (Same.refl _).1 | exact (Same.drew _).1)) ⟨[1], b1, La, false⟩ (by simp) rfl QA.out).mono ?_); rintro e wb ⟨A4, cap4, rfl, hs, hb⟩; have TA := Lib.hid hs; have S1 := Same.step (show Same wy _ by (with_reducible (first | assumption | exact Same.drew _))) hb; clear hs hb))
                  | (go_at_call 29; ((with_reducible refine (st_scan 7 7 (SK.out.later (by first | exact (Same.refl _).1 | exact (Same.drew _).1)) ⟨[2], b2, Lb, false⟩ (by simp) rfl QB.out).mono ?_); rintro e wb ⟨A5, cap5, rfl, hs, hb⟩; have TB := Lib.hid hs; have S1 := Same.step (show Same wy _ by (with_reducible (first | assumption | exact Same.drew _))) hb; clear hs hb))
                  | (go_at_call 28; ((with_reducible refine (st_same (bo := true) (TC.out.later (by first | exact (Same.refl _).1 | exact (Same.drew _).1)) ⟨A4, all.length, cap4, all⟩ ⟨A5, all.length, cap5, all⟩ (by simp) (by simp) (by simp)).mono ?_); rintro e w5 ⟨rfl, hb⟩; have TE := Lib.hid ((TC.out.later (by first | exact (Same.refl _).1 | exact (Same.drew _).1)).later hb); have S1 := Same.step (show Same wy _ by (with_reducible (first | assumption | exact Same.drew _))) hb; clear hb))
                  | (go_at_call 30; ((with_reducible refine (st_len (n := La.length) (TE.out.later (by first | exact (Same.refl _).1 | exact (Same.drew _).1)) ⟨[1], b1, La, false⟩ (by simp) rfl rfl).mono ?_); rintro e w6 ⟨rfl, rfl⟩))
                  | (go_at_call 30; ((with_reducible refine (st_len (n := La.length) (TE.out.later (by first | exact (Same.refl _).1 | exact (Same.drew _).1)) ⟨[2], b2, Lb, false⟩ (by simp) rfl QL.out).mono ?_); rintro e w6 ⟨rfl, rfl⟩))))
              all_goals
                go_wp2
                go_ret
                exact ⟨by first | rfl | simp, (TE.out.later (by first | exact (Same.refl _).1 | exact (Same.drew _).1)).end⟩

theorem wShelfOrder (W : World) (vs : List Value) (h : Sh.Args W (· < W.heap.size) [((.sl (.st (.pair (.int .u32) (.pair (.st (.pair (.int .u64) (.pair (.int .u64) (.pair (.sl (.int .u32) 4) .unit)))) (.pair .bool .unit)))) 56), 46), ((.sl (.int .i64) 8), 24)] vs) :
    Calls Try.prog 6 vs.toArray W fun e W' => e = .returned (.bool true) ∧ Below W.heap.size W W' := by
  obtain ⟨_, _, rfl, ⟨a, ha⟩, _, _, rfl, ⟨b, hb⟩, rfl⟩ := h
  obtain ⟨A, n, cap, l, rfl, h1, h2, h3⟩ := ents_at ha
  obtain ⟨ts, TA, tn, tc, rfl, hi⟩ := ints_open hb
  exact wShelfOrder0 W A n cap l TA tn tc ts h3 (by omega) hi
end Go.Proofs.Ytmohkfihfkcpdaa
