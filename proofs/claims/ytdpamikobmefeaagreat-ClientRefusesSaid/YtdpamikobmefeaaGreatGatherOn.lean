/- gather.Add: the walk. Conditions: the gathering is one, the records read so. -/
import Derived.Test.YtdpamikobmefeaaGreatGatherAdd
import Derived.Deep.RegionWith
namespace Go.Proofs.YtdpamikobmefeaaGreat
open Go.RowKit Go.ChangeShapes Go.Maps
set_option maxRecDepth 100000
set_option linter.unusedVariables false
set_option linter.unusedSimpArgs false

theorem looked_drew {wx : World} {OLD : Array Value} {T : TypeId} {is : Bool} : Looked wx OLD is (.pointer (some ⟨wx.heap.size, 0, none⟩)) (.bool is) (wx.alloc (.cells OLD T)).drew := ⟨_, rfl, rfl, (Box.new _ _ _).drew, (((Same.refl wx).alloc _).drew').1, Nat.le_refl _⟩
set_option maxHeartbeats 8000000 in
theorem gather_add {c : Col} {π : List Int} {w : World} {g : Nat} {bl : List Rng} {L : List Rec} {A : Option Addr} {n cap : Nat} {l : List Rec} (h : GathR c π w g bl L) (hf : Fresh c w) (hπ : π ≠ []) (hL : L.length ≤ 10000) (hln : n ≤ 10000)
    (hl : RecsAt w (fun b => c b = [] ∧ b < w.heap.size) A n cap l) :
    Calls Tryz.prog 84 #[.pointer (some ⟨g, 0, none⟩), .slice A n cap] w fun e w' => e = .returned (.int .i64 (addsF bl L l).2) ∧ GathTo π g bl (addsF bl L l).1 c w w' := by
  obtain ⟨hn, hnc, hcm, _, hcells⟩ := hl
  have HC := Lib.hid hcells; have HN := Lib.hid hn
  have HS := Lib.hid h; have HF := Lib.hid hf
  clear hcells h hf hn
  go_enter Tryz.func84, Tryz.ntmps84
  go_wp2
  go_loopw [5, 14] (fun s5 s14 wr => ∃ (k : Nat) (c' : Col), k ≤ n ∧ s14 = .int .i64 k ∧ s5 = .int .i64 (addsF bl L (l.take k)).2 ∧ Stp (· = π) c w c' wr ∧ GathR c' π wr g bl (addsF bl L (l.take k)).1 ∧ Boxes w wr) (fun _ i _ => n - (intOf i).toNat)
  case atStart => exact ⟨0, c, Nat.zero_le _, rfl, rfl, Stp.refl _ HF.out, HS.out, fun _ _ h => h⟩
  case round =>
    obtain ⟨k, c', hk, rfl, rfl, hst, hsh, hbx⟩ := hrel
    have HST := Lib.hid hst; have HBX := Lib.hid hbx
    obtain ⟨hj1, hj2, hj4⟩ := addsF_len bl L (l.take k)
    have hj3 : (l.take k).length ≤ k := by simp; omega
    clear hst hbx
    by_cases hlt : k < n
    · obtain ⟨r, hr⟩ : ∃ r, l[k]? = some r := ⟨_, List.getElem?_eq_getElem (by rw [HN.out]; exact hlt)⟩
      have HT := Lib.hid (show addsF bl L (l.take (k + 1)) = ((addF bl (addsF bl L (l.take k)).1 r).1, (addsF bl L (l.take k)).2 + (addF bl (addsF bl L (l.take k)).1 r).2) from by rw [List.take_add_one, hr]; exact addsF_snoc bl L (l.take k) r)
      generalize (addsF bl L (l.take k)).1 = M at *
      generalize (addsF bl L (l.take k)).2 = cnt at *
      obtain ⟨bb, off, rfl, hb, hc⟩ := HC.out (by omega)
      obtain ⟨hok, s, m, cp, q0, q1, q2, hint⟩ := hc k r hr
      have hbl : ∀ b, c b = [] → b < w.heap.size → wr.heap[b]? = w.heap[b]? := fun b h0 hlt => HST.out.only.block b hlt (by show ¬ c b = π; rw [h0]; exact hπ.symm)
      have d0 := (World.cell?_of_block (w := w) (a := ⟨bb, off + k * 3, none⟩) (hbl bb hb.1 hb.2)).trans q0
      have d1 := (World.cell?_of_block (w := w) (a := ⟨bb, off + k * 3 + 1, none⟩) (hbl bb hb.1 hb.2)).trans q1
      have d2 := (World.cell?_of_block (w := w) (a := ⟨bb, off + k * 3 + 2, none⟩) (hbl bb hb.1 hb.2)).trans q2
      have HI := Lib.hid (hint.move (w' := wr) (D' := fun b => c' b = [] ∧ b < wr.heap.size) fun b hb hlt => ⟨hbl b hb.1 hb.2, (HST.out.col b hlt).trans hb.1, Nat.lt_of_lt_of_le hlt HST.out.only.size⟩)
      obtain ⟨id, ver, vals⟩ := r
      obtain ⟨hui, huv, hval⟩ := hok
      dsimp only at *
      obtain ⟨A', n', cp', mb, D, hgb, hcb, hcm, hrg, hm, hd⟩ := hsh
      obtain ⟨is, oi, ov, os, ol, oc, hat, hhas, hcases⟩ := gath_look (id := id) hd
      have HB := Lib.hid hgb; have HM := Lib.hid hm; have HD := Lib.hid hd; have HRG := Lib.hid hrg
      have HUI := Lib.hid hui; have HUV := Lib.hid huv; have HVAL := Lib.hid hval
      have hlook := Lib.hid (fun (w' : World) (hb' : Below wr.heap.size wr w') => heldIf_run_ok (ownsMap_only HM.out (Only.of_below (S := fun _ => False) hb') (fun h => h)) u64_key Tryz.underlying132 (z := .agg #[.int .u64 0, .int .u64 0, .slice none 0 0]) (by kernel_rfl) rfl (keyOf_id HUI.out) hat hhas)
      have HCS := Lib.hid hcases
      have zb := hgb.lt
      have cg := hgb.box.cell
      clear hat hhas hcases hgb hm hd hrg hc q0 q1 q2 hint hbl hui huv hval hr hb
      go_upto_region 7 with fail
      refine wp_abs (fun wx => Box wx wr.heap.size #[.int .u64 id, .int .u64 ver, .slice s m cp] ∧ Below wr.heap.size wr wx) ⟨(by repeat (first | apply Box.drew | apply Box.drewN | exact Box.newAt _ _ _ _ (by first | rfl | (simp only [size_alloc]; done) | (simp only [size_alloc]; omega)) | assumption | refine Box.alloc ?_ _)), (by repeat (first | exact Below.refl _ _ | assumption | apply Below.drew | apply belowN | (refine Below.alloc ?_ (by first | exact Nat.le_refl _ | (simp; done) | (simp; omega)) _) | (refine Below.setCell ?_ (by first | exact Nat.le_refl _ | (simp; done) | (simp; omega)) _)))⟩ ?_
      generalize hb3 : wr.heap.size = b3
      rintro wx ⟨X3, hBx⟩
      have HB3 := Lib.hid hb3
      have HBX2 := Lib.hid (show Below wr.heap.size wr wx by rw [hb3]; exact hBx)
      have zwx := hBx.size
      have hlook2 : ∀ w' : World, Below wx.heap.size wx w' → (Instr.lookup 132 (.map (some mb)) (.int .u64 id) true).run Tryz.prog w' = .ok (.tuple #[.agg #[.int .u64 oi, .int .u64 ov, .slice os ol oc], .bool is]) w' :=
        fun w' hb' => hlook.out w' (below_from HBX2.out hb' HBX2.out.size)
      have XB := HB.out.box.below HBX2.out zb
      have cb := XB.cell
      have c3 := X3.cell
      have z3 := X3.lt
      have zbx := XB.lt
      have XB' := Lib.hid XB; have X3' := Lib.hid X3
      clear hb3 hBx XB X3 d0 d1 d2 cg
      go_cut [8, 9] from 15 to 65 (fun s8 s9 w' => Looked wx #[.int .u64 oi, .int .u64 ov, .slice os ol oc] is s8 s9 w')
      case first =>
        go_region_held3 (fun w' => Same wx w') (first | (repeat' (with_reducible (first | assumption | exact Same.refl _ | exact Same.drew _ | refine Same.drew' ?_ | refine Same.alloc ?_ _ | refine Same.set ?_ (by dsimp only; omega) _)))) (fail)
        all_goals
          go_wp2
          go_meet
          first
            | with_reducible exact looked_new (by assumption)
            | with_reducible exact looked_drew
            | with_reducible exact looked_set3 (by assumption) (by assumption)
      case rest =>
        obtain ⟨b8, rfl, rfl, X8, hB8, hb8⟩ := hcut
        have hBW := below_from HBX2.out hB8 HBX2.out.size
        have HBW := Lib.hid hBW
        have XBc := XB'.out.below hB8 zbx
        have X3c := X3'.out.below hB8 z3
        have cbc := XBc.cell
        have c3c := X3c.cell
        have zbc := XBc.lt
        have z3c := X3c.lt
        have c8 := X8.cell
        have z8 := X8.lt
        have X81 := Lib.hid X8
        have XB1 := Lib.hid XBc; have X31 := Lib.hid X3c
        obtain ⟨bo, hbo⟩ : ∃ bo, matchF bl vals = bo := ⟨_, rfl⟩
        have hmt : ∀ w' : World, Below wc.heap.size wc w' → Calls Tryz.prog 109 #[.slice A' n' cp', .slice s m cp] w' fun e w2 => e = .returned (.bool bo) ∧ Below w'.heap.size w' w2 := fun w' hb' => by
          have hb2 := below_from hBW hb' hBW.size
          rw [← hbo]
          exact match_any w' (HRG.out.move (D' := (· < wr.heap.size)) fun b hb hlt => ⟨hb2.block b hlt, hlt⟩) (HI.out.move (D' := (· < wr.heap.size)) fun b hb hlt => ⟨hb2.block b hlt, hlt⟩) (fun b hb => Nat.lt_of_lt_of_le hb hb2.size) (fun b hb => Nat.lt_of_lt_of_le hb hb2.size)
        have HMT := Lib.hid hmt
        have HBO := Lib.hid hbo
        clear cb c3 zbx z3 hlook2 zwx hB8 hBW XBc X3c X8 hmt hbo
        go_upto_region 8 with fail
        go_cut [45] from 15 to 65 (fun s45 w' => s45 = .bool (bo && (!is || decide (ov < ver))) ∧ Below wc.heap.size wc w')
        case first =>
          cases bo
          · have hud : undef = Value.tuple #[] := rfl
            first | (go_region_with (go_at_call 109; refine (HMT.out _ (by first | exact (Below.refl _ _).drew | exact Below.refl _ _)).mono ?_; rintro e w2 ⟨rfl, hb2⟩; have HB9 := Lib.hid (below_from (show Below wc.heap.size wc wc.drew from (Below.refl _ _).drew) hb2 (Nat.le_refl _)); have c89 := (X81.out.below HB9.out z8).cell; have c39 := (X31.out.below HB9.out z3c).cell; clear hb2)) | fail
            all_goals
              go_wp2
              go_meet
              exact ⟨rfl, HB9.out⟩
          · cases is
            · have hud : undef = Value.tuple #[] := rfl
              first | (go_region_with (go_at_call 109; refine (HMT.out _ (by first | exact (Below.refl _ _).drew | exact Below.refl _ _)).mono ?_; rintro e w2 ⟨rfl, hb2⟩; have HB9 := Lib.hid (below_from (show Below wc.heap.size wc wc.drew from (Below.refl _ _).drew) hb2 (Nat.le_refl _)); have c89 := (X81.out.below HB9.out z8).cell; have c39 := (X31.out.below HB9.out z3c).cell; clear hb2)) | fail
              all_goals
                go_wp2
                go_meet
                exact ⟨rfl, HB9.out⟩
            · cases hdd : decide (ov < ver)
              · first | (go_region_with (go_at_call 109; refine (HMT.out _ (by first | exact (Below.refl _ _).drew | exact Below.refl _ _)).mono ?_; rintro e w2 ⟨rfl, hb2⟩; have HB9 := Lib.hid (below_from (show Below wc.heap.size wc wc.drew from (Below.refl _ _).drew) hb2 (Nat.le_refl _)); have c89 := (X81.out.below HB9.out z8).cell; have c39 := (X31.out.below HB9.out z3c).cell; clear hb2)) | fail
                all_goals
                  go_wp2
                  go_meet
                  exact ⟨by rw [hdd]; rfl, HB9.out⟩
              · first | (go_region_with (go_at_call 109; refine (HMT.out _ (by first | exact (Below.refl _ _).drew | exact Below.refl _ _)).mono ?_; rintro e w2 ⟨rfl, hb2⟩; have HB9 := Lib.hid (below_from (show Below wc.heap.size wc wc.drew from (Below.refl _ _).drew) hb2 (Nat.le_refl _)); have c89 := (X81.out.below HB9.out z8).cell; have c39 := (X31.out.below HB9.out z3c).cell; clear hb2)) | fail
                all_goals
                  go_wp2
                  go_meet
                  exact ⟨by rw [hdd]; rfl, HB9.out⟩
        case rest =>
          obtain ⟨rfl, hBd⟩ := hcut
          have hBW2 := below_from HBW.out hBd HBW.out.size
          have HW2 := Lib.hid hBW2
          have XBd := XB1.out.below hBd zbc
          have X3d := X31.out.below hBd z3c
          have cbd := XBd.cell
          have c3d := X3d.cell
          have zbd := XBd.lt
          have z3d := X3d.lt
          have HXB := Lib.hid XBd; have HX3 := Lib.hid X3d
          have hsame := fun (L2 : List Rec) (h : L2 = M) => show GathTo π g bl L2 c' wr wr from by rw [h]; exact ⟨c', Stp.refl _ HST.out.fresh, ⟨A', n', cp', mb, D, HB.out, hcb, hcm, HRG.out, HM.out, HD.out⟩, fun _ _ h => h⟩
          clear cbc c3c zbc z3c c8 z8 XBd X3d hBd hBW2 hsame
          obtain ⟨gd, hgd⟩ : ∃ gd, (bo && (!is || decide (ov < ver))) = gd := ⟨_, rfl⟩
          rw [hgd]
          cases gd
          · have hF : addF bl M ⟨id, ver, vals⟩ = (M, 0) := by
              unfold addF
              dsimp only
              rw [HBO.out]
              cases bo
              · rfl
              · rcases HCS.out with ⟨rfl, o, ho, e1, _⟩ | ⟨rfl, ho⟩
                · simp only [ho, if_true]
                  have : ¬ (ov < ver) := by simpa using hgd
                  rw [if_neg (by rw [e1]; exact this)]
                · simp at hgd
            have HF2 := Lib.hid hF
            clear hF hgd
            go_wp2
            go_roundw
            case rel =>
              refine ⟨k + 1, c', by omega, by go_num, by rw [HT.out, HF2.out]; simp, HST.out.trans (Stp.of_below _ HST.out.fresh HW2.out), ?_, HBX.out.trans (Boxes.below HW2.out)⟩
              rw [HT.out, HF2.out]
              exact GathR.later ⟨A', n', cp', mb, D, HB.out, hcb, hcm, HRG.out, HM.out, HD.out⟩ HST.out.fresh HW2.out
            case measure => simp [intOf]; omega
          · have hF : ∃ L', addF bl M ⟨id, ver, vals⟩ = (L', 1) ∧ ((findG M id = none ∧ L' = M ++ [⟨id, ver, vals⟩]) ∨ (∃ o, findG M id = some o) ∧ L' = setG M ⟨id, ver, vals⟩) := by
              unfold addF
              dsimp only
              rw [HBO.out]
              simp only [Bool.and_eq_true, Bool.or_eq_true, Bool.not_eq_true', decide_eq_true_eq] at hgd
              obtain ⟨rfl, hg2⟩ := hgd
              rcases HCS.out with ⟨rfl, o, ho, e1, _⟩ | ⟨rfl, ho⟩
              · simp only [ho, if_true]
                have hlt2 : o.ver < ver := by rw [e1]; simpa using hg2
                rw [if_pos hlt2]
                exact ⟨_, rfl, .inr ⟨⟨o, rfl⟩, rfl⟩⟩
              · simp only [ho, if_true]
                exact ⟨_, rfl, .inl ⟨by first | trivial | assumption | rfl, rfl⟩⟩
            obtain ⟨L', hF, hLL⟩ := hF
            have HF2 := Lib.hid hF; have HLL := Lib.hid hLL
            clear hF hLL hgd
            have hmn : ∀ w : World, (binOp .eql 132 (.map (some mb)) (.map none)).run Tryz.prog w = .ok (.bool false) w := fun w => run_eql_map_nil w _ _ _ (some mb) Tryz.underlying132
            obtain ⟨upd, hupd⟩ := heldIf_upd HM.out u64_key Tryz.underlying132 (by show _ < 9223372036854775807; omega) (keyOf_id HUI.out)
            have HUPD := Lib.hid hupd
            have n3 : b3 ≠ mb := by have := HM.out.lt; have := HB3.out; omega
            have nb : g ≠ mb := not_map HB.out HM.out
            clear hupd
            go_upto_region 11 with fail
            refine wp_abs (fun wy => Box wy b3 #[.int .u64 id, .int .u64 ver, .slice s m cp] ∧ Box wy g #[.slice A' n' cp', .map (some mb)] ∧ Below wr.heap.size wr wy) ⟨HX3.out, HXB.out, HW2.out⟩ ?_
            rintro wy ⟨Y3, YB, hBy⟩
            have cy3 := Y3.cell
            have cyb := YB.cell
            have zy3 := Y3.lt
            have zyb := YB.lt
            have HBY := Lib.hid hBy
            have HU1 : ∀ (w' : World) (s' : Option Addr) (l' c' : Nat), Below wy.heap.size wy w' → (Instr.mapUpdate 132 (.map (some mb)) (.int .u64 id) (.agg #[.int .u64 id, .int .u64 ver, .slice s' l' c'])).run Tryz.prog w' = .ok () (upd w' (.agg #[.int .u64 id, .int .u64 ver, .slice s' l' c'])) :=
              fun w' s' l' c' hb' => (HUPD.out w' _ (below_from HBY.out hb' HBY.out.size) rfl).1
            have HU2 := Lib.hid (fun (w' : World) (s' : Option Addr) (l' c' : Nat) (hs : Same wy w') => (HUPD.out w' (.agg #[.int .u64 id, .int .u64 ver, .slice s' l' c']) (below_from HBY.out hs.1 HBY.out.size) rfl).2)
            have HU3 := Lib.hid (fun (w' : World) (s' : Option Addr) (l' c' : Nat) (hs : Same wy w') => ButMap.of ((Only.of_below (S := (· = mb)) hs.1).trans (HU2.out w' s' l' c' hs).2))
            have HEI := Lib.hid (show Ints wy (fun b => b < wr.heap.size) .u32 4 s m cp vals from HI.out.move fun b hb hlt => ⟨HBY.out.block b hlt, hlt⟩)
            have zwy : wr.heap.size ≤ wy.heap.size := HBY.out.size
            clear hBy Y3 YB cbd c3d zbd z3d
            go_region_held3 (fun w' => ButMap mb wy w') (first | with_reducible exact ButMap.same (by first | assumption | exact Same.drew _) | with_reducible exact HU3.out _ _ _ _ (by assumption))
              ((go_at_call 93; (with_reducible refine (copy_any id ver _ (HEI.out.below (show Same wy _ by (with_reducible (first | assumption | exact Same.drew _))).1 (fun b h => Nat.lt_of_lt_of_le h zwy)) (fun b h => Nat.lt_of_lt_of_le (Nat.lt_of_lt_of_le h zwy) (show Same wy _ by (with_reducible (first | assumption | exact Same.drew _))).1.size)).mono ?_); rintro e2 w2 ⟨v2, rfl, ⟨A2, n2, cap2, rfl, hi2⟩, hb2⟩; have NE := Lib.hid (NewD.down (B' := wy.heap.size) ⟨A2, n2, cap2, rfl, hi2⟩ (show Same wy _ by (with_reducible (first | assumption | exact Same.drew _))).1.size); have S1 := Same.step (show Same wy _ by (with_reducible (first | assumption | exact Same.drew _))) hb2; clear hb2 hi2))
            all_goals
              go_wp2
              have F := fun (w3 : World) (A2 : Option Addr) (n2 cap2 : Nat) (S1 : Same wy w3) (NE : NewD wy.heap.size .u32 4 vals w3 (.slice A2 n2 cap2)) => gput_to HB.out hcb hcm HRG.out HM.out HD.out HST.out.fresh hπ ⟨HUI.out, HUV.out, HVAL.out⟩ (below_from HBY.out S1.1 HBY.out.size) (NE.down zwy) (HU2.out w3 A2 n2 cap2 S1).1 (HU2.out w3 A2 n2 cap2 S1).2 HLL.out
              obtain ⟨c3, st3, sh3, bx3⟩ := F _ _ _ _ (by with_reducible assumption) (Hid.out (by with_reducible assumption))
              have ST3 := Lib.hid st3; have SH3 := Lib.hid sh3; have BX3 := Lib.hid bx3
              clear F st3 sh3 bx3
              go_roundw
              case rel =>
                refine ⟨k + 1, c3, by omega, by go_num, by rw [HT.out, HF2.out], HST.out.trans ST3.out, ?_, HBX.out.trans BX3.out⟩
                rw [HT.out, HF2.out]
                exact SH3.out
              case measure => simp [intOf]; omega
    · have hT : l.take k = l := List.take_of_length_le (by rw [HN.out]; omega)
      have h1 := hsh
      rw [hT] at h1
      go_wp2
      go_ret
      exact ⟨by first | rfl | (rw [hT]; rfl) | rw [hT] | (rw [← hT]; rfl), c', HST.out, h1, HBX.out⟩
end Go.Proofs.YtdpamikobmefeaaGreat
