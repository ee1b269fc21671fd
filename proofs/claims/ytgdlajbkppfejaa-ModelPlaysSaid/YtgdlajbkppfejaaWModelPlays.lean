/- The law ModelPlays: its walk. Conditions: none. -/
import Derived.Test.YtgdlajbkppfejaaPlaysAll
namespace Go.Proofs.Ytgdlajbkppfejaa
open Go.RowKit Go.ChangeShapes
set_option maxRecDepth 100000
set_option linter.unusedVariables false
set_option linter.unusedSimpArgs false

theorem finds_same {K : List Kn} {L : List Rec} {attrs : Int} {bl : List Rng} {ks : List Int} {ls : List Kn} {l : List Rec} (hw : WellK K) (hm : MRef K L) (h1 : rightB attrs bl = true → FoundOf bl K ks ls ∧ ∀ x ∈ K, x.key ∈ ks) (h0 : rightB attrs bl = false → ls = []) (hl : l = if rightB attrs bl = true then L.filter (fun r => matchF bl r.vals) else []) : ls.map Kn.rc = l := by
  cases hr : rightB attrs bl with
  | false => rw [h0 hr, hl, hr]; rfl
  | true =>
    obtain ⟨a, b⟩ := h1 hr
    rw [hm.find hw a b, hl, hr]; rfl
theorem RM.end {W w : World} {M : Thing} {rb : Nat} {attrs : Int} {I V : List Int} {L : List Rec} (h : RM W M rb attrs I V L w) : Below W.heap.size W w := by
  obtain ⟨h0, LA, ln, lc, vI, vV, hs⟩ := h
  exact hs.end
set_option maxHeartbeats 8000000 in
theorem wModelPlays0 (W : World) (attrs : Int) (ha1 : -9223372036854775808 ≤ attrs) (ha2 : attrs < 9223372036854775808) (A : Option Addr) (n cap : Nat) (l : List OpR) (hl : opE.At W (· < W.heap.size) A n cap l) (BA : Option Addr) (bn bc : Nat) (bl : List Rng) (hb : RngsAt W (· < W.heap.size) BA bn bc bl) (id : Int) (hid : U64 id) :
    Calls Try.prog 6 #[.int .i64 attrs, .slice A n cap, .slice BA bn bc, .int .u64 id] W fun e W' => e = .returned (.bool true) ∧ Below W.heap.size W W' := by
  have HL := Lib.hid hl; have HBL := Lib.hid hb; have HID := Lib.hid hid
  clear hl hb hid
  have S0 := Lib.hid (Sta.start W)
  have hbl64 : bn * 16 ≤ 140737488351232 := HBL.out.2.2.2.1
  by_cases hb2 : bn ≤ 20
  · have hb3 : ¬ (20 : Int) < (bn : Int) := by omega
    go_enter Try.func6, Try.ntmps6
    go_upto_region 4 with (first
      | (go_at_call 19; go_loud (refine (mo_new [1] attrs S0.out (by simp) (by simp)).mono ?_; rintro e1 w1 ⟨b, rfl, hs, _⟩; have S1 := Lib.hid (show Sta W [tModel [1] b attrs []] w1 from hs); clear hs))
      | (go_at_call 20; go_loud (refine (awake24 _).mono ?_; rintro e2 w2 ⟨rfl, hb⟩; have R2 := Lib.hid (show RM W (tModel [1] b attrs []) w1.heap.size attrs [] [] [] w2 from ⟨rfl, none, 0, 0, .slice none 0 0, .slice none 0 0, ((((S1.out.addBlk [2] (by simp) (by simp [tModel]) _ _).rowNil u64E [3] (by simp) (by simp [tModel, tBlk])).rowNil u64E [4] (by simp) (by simp [tModel, tBlk, tRow])).addAt (E := recE) (Elt.At.nil _ _)).later hb⟩); clear hb)))
    obtain ⟨rb, hrb⟩ : ∃ rb, w1.heap.size = rb := ⟨_, rfl⟩
    rw [hrb] at R2 ⊢
    clear hrb S1 S0
    go_wp2
    go_loopw [11] (fun s11 wr => ∃ (i : Nat) (K : List Kn) (L : List Rec), i ≤ 60 ∧ s11 = .int .i64 i ∧ RM W (tModel [1] b attrs K) rb attrs (K.map Kn.key) (K.map Kn.ver) L wr ∧ WellK K ∧ MRef K L ∧ K.length ≤ i) (fun s _ => 60 - (intOf s).toNat)
    case atStart => exact ⟨0, [], [], by omega, rfl, R2.out, WellK.nil, MRef.nil, by simp⟩
    case round =>
      obtain ⟨i, K, L, hi, rfl, hrm, hw, hm, hkl⟩ := hrel
      have HRM := Lib.hid hrm; have HW := Lib.hid hw; have HM := Lib.hid hm
      have HLK := Lib.hid (hm.le hw)
      have hLl : L.length ≤ 60 := by have := hm.le hw; omega
      clear hrm hw hm R2
      by_cases hc : i < n ∧ i < 60
      · obtain ⟨h1, h2⟩ := hc
        obtain ⟨bb, off, o, s, m, c, rfl, hbb, ho, p0, p1, p2, p3, hok, hint⟩ := op_at HL.out h1
        have HB := Lib.hid HRM.out.end
        have d0 := (HB.out.cell (p := ⟨bb, off + i * 4, none⟩) hbb).trans p0
        have d1 := (HB.out.cell (p := ⟨bb, off + i * 4 + 1, none⟩) hbb).trans p1
        have d2 := (HB.out.cell (p := ⟨bb, off + i * 4 + 2, none⟩) hbb).trans p2
        have d3 := (HB.out.cell (p := ⟨bb, off + i * 4 + 3, none⟩) hbb).trans p3
        have zbb : bb < wr.heap.size := Nat.lt_of_lt_of_le hbb HB.out.size
        obtain ⟨er, r⟩ := o
        dsimp only at d0 d1 d2 d3 hok hint p0 p1 p2 p3
        have HOK := Lib.hid hok; have HI := Lib.hid hint
        have P0 := Lib.hid p0; have P1 := Lib.hid p1; have P2 := Lib.hid p2; have P3 := Lib.hid p3; have HBB := Lib.hid hbb
        clear p0 p1 p2 p3 hok hint ho hbb
        by_cases hm20 : 20 < m
        · have hm21 : (20 : Int) < (m : Int) := by omega
          go_wp2
          go_ret
          exact ⟨rfl, HB.out⟩
        · have hm21 : ¬ (20 : Int) < (m : Int) := by omega
          cases er with
          | true =>
            go_upto_region 10 with fail
            obtain ⟨L2, hm2, hp2⟩ := plays_del2 HW.out HM.out attrs r.id r.ver
            have HM2 := Lib.hid hm2; have HP2 := Lib.hid hp2; have HW2 := Lib.hid (HW.out.mdel r.id r.ver)
            have hkl2 := mdel_len K r.id r.ver
            obtain ⟨bo, hbo⟩ : ∃ bo, (mdelF K r.id r.ver).2 = bo := ⟨_, rfl⟩
            have HBO := Lib.hid hbo; have HBO2 := Lib.hid ((plays_del HW.out HM.out r.id r.ver).1.symm.trans hbo)
            clear hm2 hp2 hbo d0 d1 d2 d3
            refine wp_regs (Θ := Unit) (by kernel_rfl) (by kernel_rfl) 141 rfl (by kernel_rfl) (fun _ q9 => ([.pointer (some ⟨b, 0, none⟩), .slice (some ⟨bb, off, none⟩) n cap, .int .i64 (i : Int), .pointer (some ⟨bb, off + i * 4, none⟩), .pointer (some ⟨bb, off + i * 4 + 1, none⟩), .pointer (some ⟨bb, off + i * 4 + 1, none⟩), .int .u64 r.id, .slice (some ⟨bb, off, none⟩) n cap, .int .i64 (i : Int), .pointer (some ⟨bb, off + i * 4, none⟩), .pointer (some ⟨bb, off + i * 4 + 1, none⟩), .pointer (some ⟨bb, off + i * 4 + 1 + 1, none⟩), .int .u64 r.ver, .bool bo, .pointer (some ⟨rb, 0, none⟩), .slice (some ⟨bb, off, none⟩) n cap, .int .i64 (i : Int), .pointer (some ⟨bb, off + i * 4, none⟩), .pointer (some ⟨bb, off + i * 4 + 1, none⟩), .pointer (some ⟨bb, off + i * 4 + 1, none⟩), .int .u64 r.id, .slice (some ⟨bb, off, none⟩) n cap, .int .i64 (i : Int), .pointer (some ⟨bb, off + i * 4, none⟩), .pointer (some ⟨bb, off + i * 4 + 1, none⟩), .pointer (some ⟨bb, off + i * 4 + 1 + 1, none⟩), .int .u64 r.ver, .bool bo, .bool false] : List Value).getD q9 undef) (fun l θ w2 => RM W (tModel [1] b attrs (if l.getD 13 false = true then (mdelF K r.id r.ver).1 else K)) rb attrs (if l.getD 27 false = true then (mdelF K r.id r.ver).1.map Kn.key else K.map Kn.key) (if l.getD 27 false = true then (mdelF K r.id r.ver).1.map Kn.ver else K.map Kn.ver) (if l.getD 27 false = true then L2 else L) w2) () ?start10 ?step10 ?done10
            case start10 => exact HRM.out.later (Same.drew _).1
            case step10 =>
              intro l θ a w2 q o K5 ho h0 hsz hd hcl hJ hR hK
              have hi : q < 29 := (Array.getElem?_eq_some_iff.1 ho).1
              have hof := getD_ff h0
              have so : ∀ k, q ≠ k → (l.setIfInBounds q true).getD k false = l.getD k false := fun k hk => getD_set_other hk
              have se : (l.setIfInBounds q true).getD q false = true := getD_set_self (by rw [hsz]; exact (Array.getElem?_eq_some_iff.1 ho).1)
              have hc : q = 0 ∨ q = 1 ∨ q = 2 ∨ q = 3 ∨ q = 4 ∨ q = 5 ∨ q = 6 ∨ q = 7 ∨ q = 8 ∨ q = 9 ∨ q = 10 ∨ q = 11 ∨ q = 12 ∨ q = 13 ∨ q = 14 ∨ q = 15 ∨ q = 16 ∨ q = 17 ∨ q = 18 ∨ q = 19 ∨ q = 20 ∨ q = 21 ∨ q = 22 ∨ q = 23 ∨ q = 24 ∨ q = 25 ∨ q = 26 ∨ q = 27 ∨ q = 28 := by omega
              rcases hc with rfl | rfl | rfl | rfl | rfl | rfl | rfl | rfl | rfl | rfl | rfl | rfl | rfl | rfl | rfl | rfl | rfl | rfl | rfl | rfl | rfl | rfl | rfl | rfl | rfl | rfl | rfl | rfl | rfl
              · obtain rfl := Option.some.inj ho
                have e9 : a.tmps[9]? = some (.pointer (some ⟨b, 0, none⟩)) := (hR.outer 9 (by kernel_rfl)).trans rfl
                clear hsz h0 hd hcl hof
                unfold StepTo
                go_simp
                exact hK () w2 (by simp only [so 13 (by decide), so 27 (by decide)]; exact hJ) (fun _ _ _ => rfl)
              · obtain rfl := Option.some.inj ho
                have e1 : a.tmps[1]? = some (.slice (some ⟨bb, off, none⟩) n cap) := (hR.outer 1 (by kernel_rfl)).trans rfl
                clear hsz h0 hd hcl hof
                unfold StepTo
                go_simp
                exact hK () w2 (by simp only [so 13 (by decide), so 27 (by decide)]; exact hJ) (fun _ _ _ => rfl)
              · obtain rfl := Option.some.inj ho
                have e11 : a.tmps[11]? = some (.int .i64 (i : Int)) := (hR.outer 11 (by kernel_rfl)).trans rfl
                clear hsz h0 hd hcl hof
                unfold StepTo
                go_simp
                exact hK () w2 (by simp only [so 13 (by decide), so 27 (by decide)]; exact hJ) (fun _ _ _ => rfl)
              · obtain rfl := Option.some.inj ho
                have e61 : a.tmps[61]? = some (.slice (some ⟨bb, off, none⟩) n cap) := hR.reg 1 _ 61 rfl rfl (hd 1 (by kernel_rfl))
                have e62 : a.tmps[62]? = some (.int .i64 (i : Int)) := hR.reg 2 _ 62 rfl rfl (hd 2 (by kernel_rfl))
                clear hsz h0 hd hcl hof
                unfold StepTo
                go_simp
                exact hK () w2 (by simp only [so 13 (by decide), so 27 (by decide)]; exact hJ) (fun _ _ _ => rfl)
              · obtain rfl := Option.some.inj ho
                have e63 : a.tmps[63]? = some (.pointer (some ⟨bb, off + i * 4, none⟩)) := hR.reg 3 _ 63 rfl rfl (hd 3 (by kernel_rfl))
                clear hsz h0 hd hcl hof
                unfold StepTo
                go_simp
                exact hK () w2 (by simp only [so 13 (by decide), so 27 (by decide)]; exact hJ) (fun _ _ _ => rfl)
              · obtain rfl := Option.some.inj ho
                have e64 : a.tmps[64]? = some (.pointer (some ⟨bb, off + i * 4 + 1, none⟩)) := hR.reg 4 _ 64 rfl rfl (hd 4 (by kernel_rfl))
                clear hsz h0 hd hcl hof
                unfold StepTo
                go_simp
                exact hK () w2 (by simp only [so 13 (by decide), so 27 (by decide)]; exact hJ) (fun _ _ _ => rfl)
              · obtain rfl := Option.some.inj ho
                have e65 : a.tmps[65]? = some (.pointer (some ⟨bb, off + i * 4 + 1, none⟩)) := hR.reg 5 _ 65 rfl rfl (hd 5 (by kernel_rfl))
                have hBE := hJ.end
                have d1 := (hBE.cell (p := ⟨bb, off + i * 4 + 1, none⟩) HBB.out).trans P1.out
                have d2 := (hBE.cell (p := ⟨bb, off + i * 4 + 2, none⟩) HBB.out).trans P2.out
                have d3 := (hBE.cell (p := ⟨bb, off + i * 4 + 3, none⟩) HBB.out).trans P3.out
                have zb2 : bb < w2.heap.size := Nat.lt_of_lt_of_le HBB.out hBE.size
                clear hBE
                clear hsz h0 hd hcl hof
                unfold StepTo
                go_simp
                exact hK () w2 (by simp only [so 13 (by decide), so 27 (by decide)]; exact hJ) (fun _ _ _ => rfl)
              · obtain rfl := Option.some.inj ho
                have e1 : a.tmps[1]? = some (.slice (some ⟨bb, off, none⟩) n cap) := (hR.outer 1 (by kernel_rfl)).trans rfl
                clear hsz h0 hd hcl hof
                unfold StepTo
                go_simp
                exact hK () w2 (by simp only [so 13 (by decide), so 27 (by decide)]; exact hJ) (fun _ _ _ => rfl)
              · obtain rfl := Option.some.inj ho
                have e11 : a.tmps[11]? = some (.int .i64 (i : Int)) := (hR.outer 11 (by kernel_rfl)).trans rfl
                clear hsz h0 hd hcl hof
                unfold StepTo
                go_simp
                exact hK () w2 (by simp only [so 13 (by decide), so 27 (by decide)]; exact hJ) (fun _ _ _ => rfl)
              · obtain rfl := Option.some.inj ho
                have e67 : a.tmps[67]? = some (.slice (some ⟨bb, off, none⟩) n cap) := hR.reg 7 _ 67 rfl rfl (hd 7 (by kernel_rfl))
                have e68 : a.tmps[68]? = some (.int .i64 (i : Int)) := hR.reg 8 _ 68 rfl rfl (hd 8 (by kernel_rfl))
                clear hsz h0 hd hcl hof
                unfold StepTo
                go_simp
                exact hK () w2 (by simp only [so 13 (by decide), so 27 (by decide)]; exact hJ) (fun _ _ _ => rfl)
              · obtain rfl := Option.some.inj ho
                have e69 : a.tmps[69]? = some (.pointer (some ⟨bb, off + i * 4, none⟩)) := hR.reg 9 _ 69 rfl rfl (hd 9 (by kernel_rfl))
                clear hsz h0 hd hcl hof
                unfold StepTo
                go_simp
                exact hK () w2 (by simp only [so 13 (by decide), so 27 (by decide)]; exact hJ) (fun _ _ _ => rfl)
              · obtain rfl := Option.some.inj ho
                have e70 : a.tmps[70]? = some (.pointer (some ⟨bb, off + i * 4 + 1, none⟩)) := hR.reg 10 _ 70 rfl rfl (hd 10 (by kernel_rfl))
                clear hsz h0 hd hcl hof
                unfold StepTo
                go_simp
                exact hK () w2 (by simp only [so 13 (by decide), so 27 (by decide)]; exact hJ) (fun _ _ _ => rfl)
              · obtain rfl := Option.some.inj ho
                have e71 : a.tmps[71]? = some (.pointer (some ⟨bb, off + i * 4 + 1 + 1, none⟩)) := hR.reg 11 _ 71 rfl rfl (hd 11 (by kernel_rfl))
                have hBE := hJ.end
                have d1 := (hBE.cell (p := ⟨bb, off + i * 4 + 1, none⟩) HBB.out).trans P1.out
                have d2 := (hBE.cell (p := ⟨bb, off + i * 4 + 2, none⟩) HBB.out).trans P2.out
                have d3 := (hBE.cell (p := ⟨bb, off + i * 4 + 3, none⟩) HBB.out).trans P3.out
                have zb2 : bb < w2.heap.size := Nat.lt_of_lt_of_le HBB.out hBE.size
                clear hBE
                clear hsz h0 hd hcl hof
                unfold StepTo
                go_simp
                exact hK () w2 (by simp only [so 13 (by decide), so 27 (by decide)]; exact hJ) (fun _ _ _ => rfl)
              · obtain rfl := Option.some.inj ho
                have e60 : a.tmps[60]? = some (.pointer (some ⟨b, 0, none⟩)) := hR.reg 0 _ 60 rfl rfl (hd 0 (by kernel_rfl))
                have e66 : a.tmps[66]? = some (.int .u64 r.id) := hR.reg 6 _ 66 rfl rfl (hd 6 (by kernel_rfl))
                have e72 : a.tmps[72]? = some (.int .u64 r.ver) := hR.reg 12 _ 72 rfl rfl (hd 12 (by kernel_rfl))
                simp only [hof, Bool.false_eq_true, if_false] at hJ
                have HJ1 := Lib.hid hJ
                clear hsz h0 hd hcl hof
                unfold StepTo
                go_simp
                go_at_call 26
                refine (rmo_del HJ1.out (by omega) HOK.out.1 HOK.out.2.1).mono ?_
                rintro e5 w5 ⟨rfl, h5⟩
                rw [HBO.out]
                refine hK () w5 ?_ (fun _ _ _ => rfl)
                simp only [se, so 27 (by decide), if_true]
                exact h5
              · obtain rfl := Option.some.inj ho
                have e10 : a.tmps[10]? = some (.pointer (some ⟨rb, 0, none⟩)) := (hR.outer 10 (by kernel_rfl)).trans rfl
                clear hsz h0 hd hcl hof
                unfold StepTo
                go_simp
                exact hK () w2 (by simp only [so 13 (by decide), so 27 (by decide)]; exact hJ) (fun _ _ _ => rfl)
              · obtain rfl := Option.some.inj ho
                have e1 : a.tmps[1]? = some (.slice (some ⟨bb, off, none⟩) n cap) := (hR.outer 1 (by kernel_rfl)).trans rfl
                clear hsz h0 hd hcl hof
                unfold StepTo
                go_simp
                exact hK () w2 (by simp only [so 13 (by decide), so 27 (by decide)]; exact hJ) (fun _ _ _ => rfl)
              · obtain rfl := Option.some.inj ho
                have e11 : a.tmps[11]? = some (.int .i64 (i : Int)) := (hR.outer 11 (by kernel_rfl)).trans rfl
                clear hsz h0 hd hcl hof
                unfold StepTo
                go_simp
                exact hK () w2 (by simp only [so 13 (by decide), so 27 (by decide)]; exact hJ) (fun _ _ _ => rfl)
              · obtain rfl := Option.some.inj ho
                have e75 : a.tmps[75]? = some (.slice (some ⟨bb, off, none⟩) n cap) := hR.reg 15 _ 75 rfl rfl (hd 15 (by kernel_rfl))
                have e76 : a.tmps[76]? = some (.int .i64 (i : Int)) := hR.reg 16 _ 76 rfl rfl (hd 16 (by kernel_rfl))
                clear hsz h0 hd hcl hof
                unfold StepTo
                go_simp
                exact hK () w2 (by simp only [so 13 (by decide), so 27 (by decide)]; exact hJ) (fun _ _ _ => rfl)
              · obtain rfl := Option.some.inj ho
                have e77 : a.tmps[77]? = some (.pointer (some ⟨bb, off + i * 4, none⟩)) := hR.reg 17 _ 77 rfl rfl (hd 17 (by kernel_rfl))
                clear hsz h0 hd hcl hof
                unfold StepTo
                go_simp
                exact hK () w2 (by simp only [so 13 (by decide), so 27 (by decide)]; exact hJ) (fun _ _ _ => rfl)
              · obtain rfl := Option.some.inj ho
                have e78 : a.tmps[78]? = some (.pointer (some ⟨bb, off + i * 4 + 1, none⟩)) := hR.reg 18 _ 78 rfl rfl (hd 18 (by kernel_rfl))
                clear hsz h0 hd hcl hof
                unfold StepTo
                go_simp
                exact hK () w2 (by simp only [so 13 (by decide), so 27 (by decide)]; exact hJ) (fun _ _ _ => rfl)
              · obtain rfl := Option.some.inj ho
                have e79 : a.tmps[79]? = some (.pointer (some ⟨bb, off + i * 4 + 1, none⟩)) := hR.reg 19 _ 79 rfl rfl (hd 19 (by kernel_rfl))
                have hBE := hJ.end
                have d1 := (hBE.cell (p := ⟨bb, off + i * 4 + 1, none⟩) HBB.out).trans P1.out
                have d2 := (hBE.cell (p := ⟨bb, off + i * 4 + 2, none⟩) HBB.out).trans P2.out
                have d3 := (hBE.cell (p := ⟨bb, off + i * 4 + 3, none⟩) HBB.out).trans P3.out
                have zb2 : bb < w2.heap.size := Nat.lt_of_lt_of_le HBB.out hBE.size
                clear hBE
                clear hsz h0 hd hcl hof
                unfold StepTo
                go_simp
                exact hK () w2 (by simp only [so 13 (by decide), so 27 (by decide)]; exact hJ) (fun _ _ _ => rfl)
              · obtain rfl := Option.some.inj ho
                have e1 : a.tmps[1]? = some (.slice (some ⟨bb, off, none⟩) n cap) := (hR.outer 1 (by kernel_rfl)).trans rfl
                clear hsz h0 hd hcl hof
                unfold StepTo
                go_simp
                exact hK () w2 (by simp only [so 13 (by decide), so 27 (by decide)]; exact hJ) (fun _ _ _ => rfl)
              · obtain rfl := Option.some.inj ho
                have e11 : a.tmps[11]? = some (.int .i64 (i : Int)) := (hR.outer 11 (by kernel_rfl)).trans rfl
                clear hsz h0 hd hcl hof
                unfold StepTo
                go_simp
                exact hK () w2 (by simp only [so 13 (by decide), so 27 (by decide)]; exact hJ) (fun _ _ _ => rfl)
              · obtain rfl := Option.some.inj ho
                have e81 : a.tmps[81]? = some (.slice (some ⟨bb, off, none⟩) n cap) := hR.reg 21 _ 81 rfl rfl (hd 21 (by kernel_rfl))
                have e82 : a.tmps[82]? = some (.int .i64 (i : Int)) := hR.reg 22 _ 82 rfl rfl (hd 22 (by kernel_rfl))
                clear hsz h0 hd hcl hof
                unfold StepTo
                go_simp
                exact hK () w2 (by simp only [so 13 (by decide), so 27 (by decide)]; exact hJ) (fun _ _ _ => rfl)
              · obtain rfl := Option.some.inj ho
                have e83 : a.tmps[83]? = some (.pointer (some ⟨bb, off + i * 4, none⟩)) := hR.reg 23 _ 83 rfl rfl (hd 23 (by kernel_rfl))
                clear hsz h0 hd hcl hof
                unfold StepTo
                go_simp
                exact hK () w2 (by simp only [so 13 (by decide), so 27 (by decide)]; exact hJ) (fun _ _ _ => rfl)
              · obtain rfl := Option.some.inj ho
                have e84 : a.tmps[84]? = some (.pointer (some ⟨bb, off + i * 4 + 1, none⟩)) := hR.reg 24 _ 84 rfl rfl (hd 24 (by kernel_rfl))
                clear hsz h0 hd hcl hof
                unfold StepTo
                go_simp
                exact hK () w2 (by simp only [so 13 (by decide), so 27 (by decide)]; exact hJ) (fun _ _ _ => rfl)
              · obtain rfl := Option.some.inj ho
                have e85 : a.tmps[85]? = some (.pointer (some ⟨bb, off + i * 4 + 1 + 1, none⟩)) := hR.reg 25 _ 85 rfl rfl (hd 25 (by kernel_rfl))
                have hBE := hJ.end
                have d1 := (hBE.cell (p := ⟨bb, off + i * 4 + 1, none⟩) HBB.out).trans P1.out
                have d2 := (hBE.cell (p := ⟨bb, off + i * 4 + 2, none⟩) HBB.out).trans P2.out
                have d3 := (hBE.cell (p := ⟨bb, off + i * 4 + 3, none⟩) HBB.out).trans P3.out
                have zb2 : bb < w2.heap.size := Nat.lt_of_lt_of_le HBB.out hBE.size
                clear hBE
                clear hsz h0 hd hcl hof
                unfold StepTo
                go_simp
                exact hK () w2 (by simp only [so 13 (by decide), so 27 (by decide)]; exact hJ) (fun _ _ _ => rfl)
              · obtain rfl := Option.some.inj ho
                have e74 : a.tmps[74]? = some (.pointer (some ⟨rb, 0, none⟩)) := hR.reg 14 _ 74 rfl rfl (hd 14 (by kernel_rfl))
                have e80 : a.tmps[80]? = some (.int .u64 r.id) := hR.reg 20 _ 80 rfl rfl (hd 20 (by kernel_rfl))
                have e86 : a.tmps[86]? = some (.int .u64 r.ver) := hR.reg 26 _ 86 rfl rfl (hd 26 (by kernel_rfl))
                simp only [hof, Bool.false_eq_true, if_false] at hJ
                have HJ1 := Lib.hid hJ
                clear hsz h0 hd hcl hof
                unfold StepTo
                go_simp
                go_at_call 27
                refine (rm_del r.id r.ver (by rfl) (by omega) (by simp; omega) HJ1.out).mono ?_
                rintro e5 w5 ⟨rfl, h5, h6⟩
                rw [HBO2.out]
                refine hK () w5 ?_ (fun _ _ _ => rfl)
                simp only [se, so 13 (by decide), if_true]
                exact HP2.out _ _ _ _ h5 h6
              · obtain rfl := Option.some.inj ho
                have e73 : a.tmps[73]? = some (.bool bo) := hR.reg 13 _ 73 rfl rfl (hd 13 (by kernel_rfl))
                have e87 : a.tmps[87]? = some (.bool bo) := hR.reg 27 _ 87 rfl rfl (hd 27 (by kernel_rfl))
                clear hsz h0 hd hcl hof
                unfold StepTo
                go_simp
                exact hK () w2 (by simp only [so 13 (by decide), so 27 (by decide)]; exact hJ) (fun _ _ _ => rfl)
            case done10 =>
              intro l θ a w2 hall hJ hR
              have ha := (hR.whole [some 60, some 61, some 62, some 63, some 64, some 65, some 66, some 67, some 68, some 69, some 70, some 71, some 72, some 73, some 74, some 75, some 76, some 77, some 78, some 79, some 80, some 81, some 82, some 83, some 84, some 85, some 86, some 87, some 88] rfl rfl (by kernel_rfl) hall).trans (b := _) (c := ⟨#[.int .i64 attrs, .slice (some ⟨bb, off, none⟩) n cap, .slice BA bn bc, .int .u64 id, undef, undef, undef, undef, u8, .pointer (some ⟨b, 0, none⟩), .pointer (some ⟨rb, 0, none⟩), .int .i64 (i : Int), undef, undef, undef, undef, .int .i64 attrs, .pointer (some ⟨b, 0, none⟩), .int .i64 attrs, .agg #[.int .i64 attrs, .slice none 0 0, .slice none 0 0, .slice none 0 0], .pointer (some ⟨rb, 0, none⟩), .bool true, .bool false, .bool false, .pointer (some ⟨b, 0, none⟩), .bool false, .bool false, .bool false, .slice BA bn bc, .int .i64 (bn : Int), .bool (decide ((20 : Int) < (bn : Int))), .bool (decide ((20 : Int) < (bn : Int))), undef, undef, undef, undef, undef, .int .i64 (i : Int), .slice (some ⟨bb, off, none⟩) n cap, .int .i64 (n : Int), .bool true, .bool true, .int .i64 (i : Int), .bool (decide ((i : Int) < 60)), .bool (decide ((i : Int) < 60)), u45, u46, .slice (some ⟨bb, off, none⟩) n cap, .int .i64 (i : Int), .pointer (some ⟨bb, off + i * 4, none⟩), .pointer (some ⟨bb, off + i * 4 + 1, none⟩), .pointer (some ⟨bb, off + i * 4 + 1 + 2, none⟩), .slice s m c, .int .i64 (m : Int), .bool false, .slice (some ⟨bb, off, none⟩) n cap, .int .i64 (i : Int), .pointer (some ⟨bb, off + i * 4, none⟩), .pointer (some ⟨bb, off + i * 4, none⟩), .bool true, .pointer (some ⟨b, 0, none⟩), .slice (some ⟨bb, off, none⟩) n cap, .int .i64 (i : Int), .pointer (some ⟨bb, off + i * 4, none⟩), .pointer (some ⟨bb, off + i * 4 + 1, none⟩), .pointer (some ⟨bb, off + i * 4 + 1, none⟩), .int .u64 r.id, .slice (some ⟨bb, off, none⟩) n cap, .int .i64 (i : Int), .pointer (some ⟨bb, off + i * 4, none⟩), .pointer (some ⟨bb, off + i * 4 + 1, none⟩), .pointer (some ⟨bb, off + i * 4 + 1 + 1, none⟩), .int .u64 r.ver, .bool bo, .pointer (some ⟨rb, 0, none⟩), .slice (some ⟨bb, off, none⟩) n cap, .int .i64 (i : Int), .pointer (some ⟨bb, off + i * 4, none⟩), .pointer (some ⟨bb, off + i * 4 + 1, none⟩), .pointer (some ⟨bb, off + i * 4 + 1, none⟩), .int .u64 r.id, .slice (some ⟨bb, off, none⟩) n cap, .int .i64 (i : Int), .pointer (some ⟨bb, off + i * 4, none⟩), .pointer (some ⟨bb, off + i * 4 + 1, none⟩), .pointer (some ⟨bb, off + i * 4 + 1 + 1, none⟩), .int .u64 r.ver, .bool bo, .bool false, u89, u90, u91, u92, u93, u94, u95, u96, u97, u98, u99, u100, u101, u102, u103, u104, u105, u106, u107, u108, u109, u110, u111, undef, undef, undef, undef, undef, undef, undef, undef, undef, undef, undef, undef, undef, undef, undef, undef, undef, undef, undef, undef, undef, undef, undef, undef, undef, undef, undef, undef, undef], []⟩) (by kernel_rfl)
              subst ha
              simp only [hall 13 (by show 13 < 29; omega), hall 27 (by show 27 < 29; omega), if_true] at hJ
              have HJ := Lib.hid hJ
              clear hR hall hJ
              have HLEN := Lib.hid (HM2.out.len HW2.out)
              obtain ⟨h0, LA, ln, lc, vI, vV, hs⟩ := HJ.out
              have HLN := Lib.hid (hs.at (i := 4) (E := recE) rfl).1
              have XB := Lib.hid (hs.blk (i := 1) rfl)
              clear hs h0
              go_upto_region 14 with fail
              refine wp_regs (Θ := Unit) (by kernel_rfl) (by kernel_rfl) 141 rfl (by kernel_rfl) (fun _ q9 => ([.pointer (some ⟨b, 0, none⟩), .int .i64 (L2.length : Int), .pointer (some ⟨rb, 0, none⟩), .pointer (some ⟨rb, 0, none⟩), .pointer (some ⟨rb, 1, none⟩), .slice LA ln lc, .int .i64 (ln : Int), .bool false] : List Value).getD q9 undef) (fun _ _ w3 => Same w2 w3) () ?start14a ?step14a ?done14a
              case start14a => exact Same.drew _
              case step14a =>
                intro l θ a w2 q o K5 ho h0 hsz hd hcl hJ hR hK
                have hi : q < 8 := (Array.getElem?_eq_some_iff.1 ho).1
                have hof := getD_ff h0
                have so : ∀ k, q ≠ k → (l.setIfInBounds q true).getD k false = l.getD k false := fun k hk => getD_set_other hk
                have se : (l.setIfInBounds q true).getD q false = true := getD_set_self (by rw [hsz]; exact (Array.getElem?_eq_some_iff.1 ho).1)
                have hc : q = 0 ∨ q = 1 ∨ q = 2 ∨ q = 3 ∨ q = 4 ∨ q = 5 ∨ q = 6 ∨ q = 7 := by omega
                rcases hc with rfl | rfl | rfl | rfl | rfl | rfl | rfl | rfl
                · obtain rfl := Option.some.inj ho
                  have e9 : a.tmps[9]? = some (.pointer (some ⟨b, 0, none⟩)) := (hR.outer 9 (by kernel_rfl)).trans rfl
                  clear hsz h0 hd hcl hof
                  unfold StepTo
                  go_simp
                  exact hK () w2 hJ (fun _ _ _ => rfl)
                · obtain rfl := Option.some.inj ho
                  have e104 : a.tmps[104]? = some (.pointer (some ⟨b, 0, none⟩)) := hR.reg 0 _ 104 rfl rfl (hd 0 (by kernel_rfl))
                  clear hsz h0 hd hcl hof
                  unfold StepTo
                  go_simp
                  go_at_call 29
                  refine (rmo_len (HJ.out.later hJ.1) (by omega) HLEN.out).mono ?_
                  rintro e5 w5 ⟨rfl, hb5⟩
                  exact hK () w5 (hJ.step hb5) (fun _ _ _ => rfl)
                · obtain rfl := Option.some.inj ho
                  have e10 : a.tmps[10]? = some (.pointer (some ⟨rb, 0, none⟩)) := (hR.outer 10 (by kernel_rfl)).trans rfl
                  clear hsz h0 hd hcl hof
                  unfold StepTo
                  go_simp
                  exact hK () w2 hJ (fun _ _ _ => rfl)
                · obtain rfl := Option.some.inj ho
                  have e106 : a.tmps[106]? = some (.pointer (some ⟨rb, 0, none⟩)) := hR.reg 2 _ 106 rfl rfl (hd 2 (by kernel_rfl))
                  clear hsz h0 hd hcl hof
                  unfold StepTo
                  go_simp
                  exact hK () w2 hJ (fun _ _ _ => rfl)
                · obtain rfl := Option.some.inj ho
                  have e107 : a.tmps[107]? = some (.pointer (some ⟨rb, 0, none⟩)) := hR.reg 3 _ 107 rfl rfl (hd 3 (by kernel_rfl))
                  clear hsz h0 hd hcl hof
                  unfold StepTo
                  go_simp
                  exact hK () w2 hJ (fun _ _ _ => rfl)
                · obtain rfl := Option.some.inj ho
                  have e108 : a.tmps[108]? = some (.pointer (some ⟨rb, 1, none⟩)) := hR.reg 4 _ 108 rfl rfl (hd 4 (by kernel_rfl))
                  have XB2 := XB.out.below hJ.1 XB.out.lt
                  have cb := XB2.cell; have fb := XB2.free; have zb2 := XB2.lt
                  clear XB2
                  clear hsz h0 hd hcl hof
                  unfold StepTo
                  go_simp
                  exact hK () w2 hJ (fun _ _ _ => rfl)
                · obtain rfl := Option.some.inj ho
                  have e109 : a.tmps[109]? = some (.slice LA ln lc) := hR.reg 5 _ 109 rfl rfl (hd 5 (by kernel_rfl))
                  clear hsz h0 hd hcl hof
                  unfold StepTo
                  go_simp
                  exact hK () w2 hJ (fun _ _ _ => rfl)
                · obtain rfl := Option.some.inj ho
                  have e105 : a.tmps[105]? = some (.int .i64 (L2.length : Int)) := hR.reg 1 _ 105 rfl rfl (hd 1 (by kernel_rfl))
                  have e110 : a.tmps[110]? = some (.int .i64 (ln : Int)) := hR.reg 6 _ 110 rfl rfl (hd 6 (by kernel_rfl))
                  have hln2 : ((L2.length : Int) != (ln : Int)) = false := by simp [HLN.out]
                  have hln3 : (L2.length : Int) = (ln : Int) := by rw [HLN.out]
                  clear hsz h0 hd hcl hof
                  unfold StepTo
                  go_simp
                  exact hK () w2 hJ (fun _ _ _ => rfl)
              case done14a =>
                intro l θ a w2 hall hJ hR
                have ha := (hR.whole [some 104, some 105, some 106, some 107, some 108, some 109, some 110, some 111] rfl rfl (by kernel_rfl) hall).trans (b := _) (c := ⟨#[.int .i64 attrs, .slice (some ⟨bb, off, none⟩) n cap, .slice BA bn bc, .int .u64 id, undef, undef, undef, undef, u8, .pointer (some ⟨b, 0, none⟩), .pointer (some ⟨rb, 0, none⟩), .int .i64 (i : Int), undef, undef, undef, undef, .int .i64 attrs, .pointer (some ⟨b, 0, none⟩), .int .i64 attrs, .agg #[.int .i64 attrs, .slice none 0 0, .slice none 0 0, .slice none 0 0], .pointer (some ⟨rb, 0, none⟩), .bool true, .bool false, .bool false, .pointer (some ⟨b, 0, none⟩), .bool false, .bool false, .bool false, .slice BA bn bc, .int .i64 (bn : Int), .bool (decide ((20 : Int) < (bn : Int))), .bool (decide ((20 : Int) < (bn : Int))), undef, undef, undef, undef, undef, .int .i64 (i : Int), .slice (some ⟨bb, off, none⟩) n cap, .int .i64 (n : Int), .bool true, .bool true, .int .i64 (i : Int), .bool (decide ((i : Int) < 60)), .bool (decide ((i : Int) < 60)), u45, u46, .slice (some ⟨bb, off, none⟩) n cap, .int .i64 (i : Int), .pointer (some ⟨bb, off + i * 4, none⟩), .pointer (some ⟨bb, off + i * 4 + 1, none⟩), .pointer (some ⟨bb, off + i * 4 + 1 + 2, none⟩), .slice s m c, .int .i64 (m : Int), .bool false, .slice (some ⟨bb, off, none⟩) n cap, .int .i64 (i : Int), .pointer (some ⟨bb, off + i * 4, none⟩), .pointer (some ⟨bb, off + i * 4, none⟩), .bool true, .pointer (some ⟨b, 0, none⟩), .slice (some ⟨bb, off, none⟩) n cap, .int .i64 (i : Int), .pointer (some ⟨bb, off + i * 4, none⟩), .pointer (some ⟨bb, off + i * 4 + 1, none⟩), .pointer (some ⟨bb, off + i * 4 + 1, none⟩), .int .u64 r.id, .slice (some ⟨bb, off, none⟩) n cap, .int .i64 (i : Int), .pointer (some ⟨bb, off + i * 4, none⟩), .pointer (some ⟨bb, off + i * 4 + 1, none⟩), .pointer (some ⟨bb, off + i * 4 + 1 + 1, none⟩), .int .u64 r.ver, .bool bo, .pointer (some ⟨rb, 0, none⟩), .slice (some ⟨bb, off, none⟩) n cap, .int .i64 (i : Int), .pointer (some ⟨bb, off + i * 4, none⟩), .pointer (some ⟨bb, off + i * 4 + 1, none⟩), .pointer (some ⟨bb, off + i * 4 + 1, none⟩), .int .u64 r.id, .slice (some ⟨bb, off, none⟩) n cap, .int .i64 (i : Int), .pointer (some ⟨bb, off + i * 4, none⟩), .pointer (some ⟨bb, off + i * 4 + 1, none⟩), .pointer (some ⟨bb, off + i * 4 + 1 + 1, none⟩), .int .u64 r.ver, .bool bo, .bool false, u89, u90, u91, u92, u93, u94, u95, u96, u97, u98, u99, u100, u101, u102, u103, .pointer (some ⟨b, 0, none⟩), .int .i64 (L2.length : Int), .pointer (some ⟨rb, 0, none⟩), .pointer (some ⟨rb, 0, none⟩), .pointer (some ⟨rb, 1, none⟩), .slice LA ln lc, .int .i64 (ln : Int), .bool false, undef, undef, undef, undef, undef, undef, undef, undef, undef, undef, undef, undef, undef, undef, undef, undef, undef, undef, undef, undef, undef, undef, undef, undef, undef, undef, undef, undef, undef], []⟩) (by kernel_rfl)
                subst ha
                have HE := Lib.hid (HJ.out.later hJ.1)
                clear hR hall hJ
                go_wp2
                go_roundw
                case rel => exact ⟨i + 1, (mdelF K r.id r.ver).1, L2, by omega, by go_num, HE.out, HW2.out, HM2.out, by omega⟩
                case measure => simp [intOf]; omega
          | false =>
            go_upto_region 12 with fail
            obtain ⟨L2, hm2, hp2⟩ := plays_put2 HW.out HM.out attrs r
            have HM2 := Lib.hid hm2; have HP2 := Lib.hid hp2; have HW2 := Lib.hid (HW.out.mput attrs r)
            have hkl2 := mput_len attrs K r
            obtain ⟨bo, hbo⟩ : ∃ bo, (mputF attrs K r).2 = bo := ⟨_, rfl⟩
            have HBO := Lib.hid hbo; have HBO2 := Lib.hid ((plays_put HW.out HM.out attrs r).1.symm.trans hbo)
            clear hm2 hp2 hbo d0 d1 d2 d3
            refine wp_regs (Θ := Unit) (by kernel_rfl) (by kernel_rfl) 141 rfl (by kernel_rfl) (fun _ q9 => ([.pointer (some ⟨b, 0, none⟩), .slice (some ⟨bb, off, none⟩) n cap, .int .i64 (i : Int), .pointer (some ⟨bb, off + i * 4, none⟩), .pointer (some ⟨bb, off + i * 4 + 1, none⟩), .agg #[.int .u64 r.id, .int .u64 r.ver, .slice s m c], .bool bo, .pointer (some ⟨rb, 0, none⟩), .slice (some ⟨bb, off, none⟩) n cap, .int .i64 (i : Int), .pointer (some ⟨bb, off + i * 4, none⟩), .pointer (some ⟨bb, off + i * 4 + 1, none⟩), .agg #[.int .u64 r.id, .int .u64 r.ver, .slice s m c], .bool bo, .bool false] : List Value).getD q9 undef) (fun l θ w2 => RM W (tModel [1] b attrs (if l.getD 6 false = true then (mputF attrs K r).1 else K)) rb attrs (if l.getD 13 false = true then (mputF attrs K r).1.map Kn.key else K.map Kn.key) (if l.getD 13 false = true then (mputF attrs K r).1.map Kn.ver else K.map Kn.ver) (if l.getD 13 false = true then L2 else L) w2) () ?start12 ?step12 ?done12
            case start12 => exact HRM.out.later (Same.drew _).1
            case step12 =>
              intro l θ a w2 q o K5 ho h0 hsz hd hcl hJ hR hK
              have hi : q < 15 := (Array.getElem?_eq_some_iff.1 ho).1
              have hof := getD_ff h0
              have so : ∀ k, q ≠ k → (l.setIfInBounds q true).getD k false = l.getD k false := fun k hk => getD_set_other hk
              have se : (l.setIfInBounds q true).getD q false = true := getD_set_self (by rw [hsz]; exact (Array.getElem?_eq_some_iff.1 ho).1)
              have hc : q = 0 ∨ q = 1 ∨ q = 2 ∨ q = 3 ∨ q = 4 ∨ q = 5 ∨ q = 6 ∨ q = 7 ∨ q = 8 ∨ q = 9 ∨ q = 10 ∨ q = 11 ∨ q = 12 ∨ q = 13 ∨ q = 14 := by omega
              rcases hc with rfl | rfl | rfl | rfl | rfl | rfl | rfl | rfl | rfl | rfl | rfl | rfl | rfl | rfl | rfl
              · obtain rfl := Option.some.inj ho
                have e9 : a.tmps[9]? = some (.pointer (some ⟨b, 0, none⟩)) := (hR.outer 9 (by kernel_rfl)).trans rfl
                clear hsz h0 hd hcl hof
                unfold StepTo
                go_simp
                exact hK () w2 (by simp only [so 6 (by decide), so 13 (by decide)]; exact hJ) (fun _ _ _ => rfl)
              · obtain rfl := Option.some.inj ho
                have e1 : a.tmps[1]? = some (.slice (some ⟨bb, off, none⟩) n cap) := (hR.outer 1 (by kernel_rfl)).trans rfl
                clear hsz h0 hd hcl hof
                unfold StepTo
                go_simp
                exact hK () w2 (by simp only [so 6 (by decide), so 13 (by decide)]; exact hJ) (fun _ _ _ => rfl)
              · obtain rfl := Option.some.inj ho
                have e11 : a.tmps[11]? = some (.int .i64 (i : Int)) := (hR.outer 11 (by kernel_rfl)).trans rfl
                clear hsz h0 hd hcl hof
                unfold StepTo
                go_simp
                exact hK () w2 (by simp only [so 6 (by decide), so 13 (by decide)]; exact hJ) (fun _ _ _ => rfl)
              · obtain rfl := Option.some.inj ho
                have e90 : a.tmps[90]? = some (.slice (some ⟨bb, off, none⟩) n cap) := hR.reg 1 _ 90 rfl rfl (hd 1 (by kernel_rfl))
                have e91 : a.tmps[91]? = some (.int .i64 (i : Int)) := hR.reg 2 _ 91 rfl rfl (hd 2 (by kernel_rfl))
                clear hsz h0 hd hcl hof
                unfold StepTo
                go_simp
                exact hK () w2 (by simp only [so 6 (by decide), so 13 (by decide)]; exact hJ) (fun _ _ _ => rfl)
              · obtain rfl := Option.some.inj ho
                have e92 : a.tmps[92]? = some (.pointer (some ⟨bb, off + i * 4, none⟩)) := hR.reg 3 _ 92 rfl rfl (hd 3 (by kernel_rfl))
                clear hsz h0 hd hcl hof
                unfold StepTo
                go_simp
                exact hK () w2 (by simp only [so 6 (by decide), so 13 (by decide)]; exact hJ) (fun _ _ _ => rfl)
              · obtain rfl := Option.some.inj ho
                have e93 : a.tmps[93]? = some (.pointer (some ⟨bb, off + i * 4 + 1, none⟩)) := hR.reg 4 _ 93 rfl rfl (hd 4 (by kernel_rfl))
                have hBE := hJ.end
                have d1 := (hBE.cell (p := ⟨bb, off + i * 4 + 1, none⟩) HBB.out).trans P1.out
                have d2 := (hBE.cell (p := ⟨bb, off + i * 4 + 2, none⟩) HBB.out).trans P2.out
                have d3 := (hBE.cell (p := ⟨bb, off + i * 4 + 3, none⟩) HBB.out).trans P3.out
                have zb2 : bb < w2.heap.size := Nat.lt_of_lt_of_le HBB.out hBE.size
                clear hBE
                clear hsz h0 hd hcl hof
                unfold StepTo
                go_simp
                exact hK () w2 (by simp only [so 6 (by decide), so 13 (by decide)]; exact hJ) (fun _ _ _ => rfl)
              · obtain rfl := Option.some.inj ho
                have e89 : a.tmps[89]? = some (.pointer (some ⟨b, 0, none⟩)) := hR.reg 0 _ 89 rfl rfl (hd 0 (by kernel_rfl))
                have e94 : a.tmps[94]? = some (.agg #[.int .u64 r.id, .int .u64 r.ver, .slice s m c]) := hR.reg 5 _ 94 rfl rfl (hd 5 (by kernel_rfl))
                simp only [hof, Bool.false_eq_true, if_false] at hJ
                have HJ1 := Lib.hid hJ
                clear hsz h0 hd hcl hof
                unfold StepTo
                go_simp
                go_at_call 21
                refine (rmo_put r HJ1.out (by omega) ha1 ha2 HOK.out HI.out).mono ?_
                rintro e5 w5 ⟨rfl, h5⟩
                rw [HBO.out]
                refine hK () w5 ?_ (fun _ _ _ => rfl)
                simp only [se, so 13 (by decide), if_true]
                exact h5
              · obtain rfl := Option.some.inj ho
                have e10 : a.tmps[10]? = some (.pointer (some ⟨rb, 0, none⟩)) := (hR.outer 10 (by kernel_rfl)).trans rfl
                clear hsz h0 hd hcl hof
                unfold StepTo
                go_simp
                exact hK () w2 (by simp only [so 6 (by decide), so 13 (by decide)]; exact hJ) (fun _ _ _ => rfl)
              · obtain rfl := Option.some.inj ho
                have e1 : a.tmps[1]? = some (.slice (some ⟨bb, off, none⟩) n cap) := (hR.outer 1 (by kernel_rfl)).trans rfl
                clear hsz h0 hd hcl hof
                unfold StepTo
                go_simp
                exact hK () w2 (by simp only [so 6 (by decide), so 13 (by decide)]; exact hJ) (fun _ _ _ => rfl)
              · obtain rfl := Option.some.inj ho
                have e11 : a.tmps[11]? = some (.int .i64 (i : Int)) := (hR.outer 11 (by kernel_rfl)).trans rfl
                clear hsz h0 hd hcl hof
                unfold StepTo
                go_simp
                exact hK () w2 (by simp only [so 6 (by decide), so 13 (by decide)]; exact hJ) (fun _ _ _ => rfl)
              · obtain rfl := Option.some.inj ho
                have e97 : a.tmps[97]? = some (.slice (some ⟨bb, off, none⟩) n cap) := hR.reg 8 _ 97 rfl rfl (hd 8 (by kernel_rfl))
                have e98 : a.tmps[98]? = some (.int .i64 (i : Int)) := hR.reg 9 _ 98 rfl rfl (hd 9 (by kernel_rfl))
                clear hsz h0 hd hcl hof
                unfold StepTo
                go_simp
                exact hK () w2 (by simp only [so 6 (by decide), so 13 (by decide)]; exact hJ) (fun _ _ _ => rfl)
              · obtain rfl := Option.some.inj ho
                have e99 : a.tmps[99]? = some (.pointer (some ⟨bb, off + i * 4, none⟩)) := hR.reg 10 _ 99 rfl rfl (hd 10 (by kernel_rfl))
                clear hsz h0 hd hcl hof
                unfold StepTo
                go_simp
                exact hK () w2 (by simp only [so 6 (by decide), so 13 (by decide)]; exact hJ) (fun _ _ _ => rfl)
              · obtain rfl := Option.some.inj ho
                have e100 : a.tmps[100]? = some (.pointer (some ⟨bb, off + i * 4 + 1, none⟩)) := hR.reg 11 _ 100 rfl rfl (hd 11 (by kernel_rfl))
                have hBE := hJ.end
                have d1 := (hBE.cell (p := ⟨bb, off + i * 4 + 1, none⟩) HBB.out).trans P1.out
                have d2 := (hBE.cell (p := ⟨bb, off + i * 4 + 2, none⟩) HBB.out).trans P2.out
                have d3 := (hBE.cell (p := ⟨bb, off + i * 4 + 3, none⟩) HBB.out).trans P3.out
                have zb2 : bb < w2.heap.size := Nat.lt_of_lt_of_le HBB.out hBE.size
                clear hBE
                clear hsz h0 hd hcl hof
                unfold StepTo
                go_simp
                exact hK () w2 (by simp only [so 6 (by decide), so 13 (by decide)]; exact hJ) (fun _ _ _ => rfl)
              · obtain rfl := Option.some.inj ho
                have e96 : a.tmps[96]? = some (.pointer (some ⟨rb, 0, none⟩)) := hR.reg 7 _ 96 rfl rfl (hd 7 (by kernel_rfl))
                have e101 : a.tmps[101]? = some (.agg #[.int .u64 r.id, .int .u64 r.ver, .slice s m c]) := hR.reg 12 _ 101 rfl rfl (hd 12 (by kernel_rfl))
                simp only [hof, Bool.false_eq_true, if_false] at hJ
                have HJ1 := Lib.hid hJ
                clear hsz h0 hd hcl hof
                unfold StepTo
                go_simp
                go_at_call 28
                refine (rm_put r (by rfl) (by omega) (by simp; omega) HJ1.out ha1 ha2 HOK.out HI.out).mono ?_
                rintro e5 w5 ⟨rfl, h5, h6⟩
                rw [HBO2.out]
                refine hK () w5 ?_ (fun _ _ _ => rfl)
                simp only [se, so 6 (by decide), if_true]
                exact HP2.out _ _ _ _ h5 h6
              · obtain rfl := Option.some.inj ho
                have e95 : a.tmps[95]? = some (.bool bo) := hR.reg 6 _ 95 rfl rfl (hd 6 (by kernel_rfl))
                have e102 : a.tmps[102]? = some (.bool bo) := hR.reg 13 _ 102 rfl rfl (hd 13 (by kernel_rfl))
                clear hsz h0 hd hcl hof
                unfold StepTo
                go_simp
                exact hK () w2 (by simp only [so 6 (by decide), so 13 (by decide)]; exact hJ) (fun _ _ _ => rfl)
            case done12 =>
              intro l θ a w2 hall hJ hR
              have ha := (hR.whole [some 89, some 90, some 91, some 92, some 93, some 94, some 95, some 96, some 97, some 98, some 99, some 100, some 101, some 102, some 103] rfl rfl (by kernel_rfl) hall).trans (b := _) (c := ⟨#[.int .i64 attrs, .slice (some ⟨bb, off, none⟩) n cap, .slice BA bn bc, .int .u64 id, undef, undef, undef, undef, u8, .pointer (some ⟨b, 0, none⟩), .pointer (some ⟨rb, 0, none⟩), .int .i64 (i : Int), undef, undef, undef, undef, .int .i64 attrs, .pointer (some ⟨b, 0, none⟩), .int .i64 attrs, .agg #[.int .i64 attrs, .slice none 0 0, .slice none 0 0, .slice none 0 0], .pointer (some ⟨rb, 0, none⟩), .bool true, .bool false, .bool false, .pointer (some ⟨b, 0, none⟩), .bool false, .bool false, .bool false, .slice BA bn bc, .int .i64 (bn : Int), .bool (decide ((20 : Int) < (bn : Int))), .bool (decide ((20 : Int) < (bn : Int))), undef, undef, undef, undef, undef, .int .i64 (i : Int), .slice (some ⟨bb, off, none⟩) n cap, .int .i64 (n : Int), .bool true, .bool true, .int .i64 (i : Int), .bool (decide ((i : Int) < 60)), .bool (decide ((i : Int) < 60)), u45, u46, .slice (some ⟨bb, off, none⟩) n cap, .int .i64 (i : Int), .pointer (some ⟨bb, off + i * 4, none⟩), .pointer (some ⟨bb, off + i * 4 + 1, none⟩), .pointer (some ⟨bb, off + i * 4 + 1 + 2, none⟩), .slice s m c, .int .i64 (m : Int), .bool false, .slice (some ⟨bb, off, none⟩) n cap, .int .i64 (i : Int), .pointer (some ⟨bb, off + i * 4, none⟩), .pointer (some ⟨bb, off + i * 4, none⟩), .bool false, u60, u61, u62, u63, u64, u65, u66, u67, u68, u69, u70, u71, u72, u73, u74, u75, u76, u77, u78, u79, u80, u81, u82, u83, u84, u85, u86, u87, u88, .pointer (some ⟨b, 0, none⟩), .slice (some ⟨bb, off, none⟩) n cap, .int .i64 (i : Int), .pointer (some ⟨bb, off + i * 4, none⟩), .pointer (some ⟨bb, off + i * 4 + 1, none⟩), .agg #[.int .u64 r.id, .int .u64 r.ver, .slice s m c], .bool bo, .pointer (some ⟨rb, 0, none⟩), .slice (some ⟨bb, off, none⟩) n cap, .int .i64 (i : Int), .pointer (some ⟨bb, off + i * 4, none⟩), .pointer (some ⟨bb, off + i * 4 + 1, none⟩), .agg #[.int .u64 r.id, .int .u64 r.ver, .slice s m c], .bool bo, .bool false, u104, u105, u106, u107, u108, u109, u110, u111, undef, undef, undef, undef, undef, undef, undef, undef, undef, undef, undef, undef, undef, undef, undef, undef, undef, undef, undef, undef, undef, undef, undef, undef, undef, undef, undef, undef, undef], []⟩) (by kernel_rfl)
              subst ha
              simp only [hall 6 (by show 6 < 15; omega), hall 13 (by show 13 < 15; omega), if_true] at hJ
              have HJ := Lib.hid hJ
              clear hR hall hJ
              have HLEN := Lib.hid (HM2.out.len HW2.out)
              obtain ⟨h0, LA, ln, lc, vI, vV, hs⟩ := HJ.out
              have HLN := Lib.hid (hs.at (i := 4) (E := recE) rfl).1
              have XB := Lib.hid (hs.blk (i := 1) rfl)
              clear hs h0
              go_upto_region 14 with fail
              refine wp_regs (Θ := Unit) (by kernel_rfl) (by kernel_rfl) 141 rfl (by kernel_rfl) (fun _ q9 => ([.pointer (some ⟨b, 0, none⟩), .int .i64 (L2.length : Int), .pointer (some ⟨rb, 0, none⟩), .pointer (some ⟨rb, 0, none⟩), .pointer (some ⟨rb, 1, none⟩), .slice LA ln lc, .int .i64 (ln : Int), .bool false] : List Value).getD q9 undef) (fun _ _ w3 => Same w2 w3) () ?start14b ?step14b ?done14b
              case start14b => exact Same.drew _
              case step14b =>
                intro l θ a w2 q o K5 ho h0 hsz hd hcl hJ hR hK
                have hi : q < 8 := (Array.getElem?_eq_some_iff.1 ho).1
                have hof := getD_ff h0
                have so : ∀ k, q ≠ k → (l.setIfInBounds q true).getD k false = l.getD k false := fun k hk => getD_set_other hk
                have se : (l.setIfInBounds q true).getD q false = true := getD_set_self (by rw [hsz]; exact (Array.getElem?_eq_some_iff.1 ho).1)
                have hc : q = 0 ∨ q = 1 ∨ q = 2 ∨ q = 3 ∨ q = 4 ∨ q = 5 ∨ q = 6 ∨ q = 7 := by omega
                rcases hc with rfl | rfl | rfl | rfl | rfl | rfl | rfl | rfl
                · obtain rfl := Option.some.inj ho
                  have e9 : a.tmps[9]? = some (.pointer (some ⟨b, 0, none⟩)) := (hR.outer 9 (by kernel_rfl)).trans rfl
                  clear hsz h0 hd hcl hof
                  unfold StepTo
                  go_simp
                  exact hK () w2 hJ (fun _ _ _ => rfl)
                · obtain rfl := Option.some.inj ho
                  have e104 : a.tmps[104]? = some (.pointer (some ⟨b, 0, none⟩)) := hR.reg 0 _ 104 rfl rfl (hd 0 (by kernel_rfl))
                  clear hsz h0 hd hcl hof
                  unfold StepTo
                  go_simp
                  go_at_call 29
                  refine (rmo_len (HJ.out.later hJ.1) (by omega) HLEN.out).mono ?_
                  rintro e5 w5 ⟨rfl, hb5⟩
                  exact hK () w5 (hJ.step hb5) (fun _ _ _ => rfl)
                · obtain rfl := Option.some.inj ho
                  have e10 : a.tmps[10]? = some (.pointer (some ⟨rb, 0, none⟩)) := (hR.outer 10 (by kernel_rfl)).trans rfl
                  clear hsz h0 hd hcl hof
                  unfold StepTo
                  go_simp
                  exact hK () w2 hJ (fun _ _ _ => rfl)
                · obtain rfl := Option.some.inj ho
                  have e106 : a.tmps[106]? = some (.pointer (some ⟨rb, 0, none⟩)) := hR.reg 2 _ 106 rfl rfl (hd 2 (by kernel_rfl))
                  clear hsz h0 hd hcl hof
                  unfold StepTo
                  go_simp
                  exact hK () w2 hJ (fun _ _ _ => rfl)
                · obtain rfl := Option.some.inj ho
                  have e107 : a.tmps[107]? = some (.pointer (some ⟨rb, 0, none⟩)) := hR.reg 3 _ 107 rfl rfl (hd 3 (by kernel_rfl))
                  clear hsz h0 hd hcl hof
                  unfold StepTo
                  go_simp
                  exact hK () w2 hJ (fun _ _ _ => rfl)
                · obtain rfl := Option.some.inj ho
                  have e108 : a.tmps[108]? = some (.pointer (some ⟨rb, 1, none⟩)) := hR.reg 4 _ 108 rfl rfl (hd 4 (by kernel_rfl))
                  have XB2 := XB.out.below hJ.1 XB.out.lt
                  have cb := XB2.cell; have fb := XB2.free; have zb2 := XB2.lt
                  clear XB2
                  clear hsz h0 hd hcl hof
                  unfold StepTo
                  go_simp
                  exact hK () w2 hJ (fun _ _ _ => rfl)
                · obtain rfl := Option.some.inj ho
                  have e109 : a.tmps[109]? = some (.slice LA ln lc) := hR.reg 5 _ 109 rfl rfl (hd 5 (by kernel_rfl))
                  clear hsz h0 hd hcl hof
                  unfold StepTo
                  go_simp
                  exact hK () w2 hJ (fun _ _ _ => rfl)
                · obtain rfl := Option.some.inj ho
                  have e105 : a.tmps[105]? = some (.int .i64 (L2.length : Int)) := hR.reg 1 _ 105 rfl rfl (hd 1 (by kernel_rfl))
                  have e110 : a.tmps[110]? = some (.int .i64 (ln : Int)) := hR.reg 6 _ 110 rfl rfl (hd 6 (by kernel_rfl))
                  have hln2 : ((L2.length : Int) != (ln : Int)) = false := by simp [HLN.out]
                  have hln3 : (L2.length : Int) = (ln : Int) := by rw [HLN.out]
                  clear hsz h0 hd hcl hof
                  unfold StepTo
                  go_simp
                  exact hK () w2 hJ (fun _ _ _ => rfl)
              case done14b =>
                intro l θ a w2 hall hJ hR
                have ha := (hR.whole [some 104, some 105, some 106, some 107, some 108, some 109, some 110, some 111] rfl rfl (by kernel_rfl) hall).trans (b := _) (c := ⟨#[.int .i64 attrs, .slice (some ⟨bb, off, none⟩) n cap, .slice BA bn bc, .int .u64 id, undef, undef, undef, undef, u8, .pointer (some ⟨b, 0, none⟩), .pointer (some ⟨rb, 0, none⟩), .int .i64 (i : Int), undef, undef, undef, undef, .int .i64 attrs, .pointer (some ⟨b, 0, none⟩), .int .i64 attrs, .agg #[.int .i64 attrs, .slice none 0 0, .slice none 0 0, .slice none 0 0], .pointer (some ⟨rb, 0, none⟩), .bool true, .bool false, .bool false, .pointer (some ⟨b, 0, none⟩), .bool false, .bool false, .bool false, .slice BA bn bc, .int .i64 (bn : Int), .bool (decide ((20 : Int) < (bn : Int))), .bool (decide ((20 : Int) < (bn : Int))), undef, undef, undef, undef, undef, .int .i64 (i : Int), .slice (some ⟨bb, off, none⟩) n cap, .int .i64 (n : Int), .bool true, .bool true, .int .i64 (i : Int), .bool (decide ((i : Int) < 60)), .bool (decide ((i : Int) < 60)), u45, u46, .slice (some ⟨bb, off, none⟩) n cap, .int .i64 (i : Int), .pointer (some ⟨bb, off + i * 4, none⟩), .pointer (some ⟨bb, off + i * 4 + 1, none⟩), .pointer (some ⟨bb, off + i * 4 + 1 + 2, none⟩), .slice s m c, .int .i64 (m : Int), .bool false, .slice (some ⟨bb, off, none⟩) n cap, .int .i64 (i : Int), .pointer (some ⟨bb, off + i * 4, none⟩), .pointer (some ⟨bb, off + i * 4, none⟩), .bool false, u60, u61, u62, u63, u64, u65, u66, u67, u68, u69, u70, u71, u72, u73, u74, u75, u76, u77, u78, u79, u80, u81, u82, u83, u84, u85, u86, u87, u88, .pointer (some ⟨b, 0, none⟩), .slice (some ⟨bb, off, none⟩) n cap, .int .i64 (i : Int), .pointer (some ⟨bb, off + i * 4, none⟩), .pointer (some ⟨bb, off + i * 4 + 1, none⟩), .agg #[.int .u64 r.id, .int .u64 r.ver, .slice s m c], .bool bo, .pointer (some ⟨rb, 0, none⟩), .slice (some ⟨bb, off, none⟩) n cap, .int .i64 (i : Int), .pointer (some ⟨bb, off + i * 4, none⟩), .pointer (some ⟨bb, off + i * 4 + 1, none⟩), .agg #[.int .u64 r.id, .int .u64 r.ver, .slice s m c], .bool bo, .bool false, .pointer (some ⟨b, 0, none⟩), .int .i64 (L2.length : Int), .pointer (some ⟨rb, 0, none⟩), .pointer (some ⟨rb, 0, none⟩), .pointer (some ⟨rb, 1, none⟩), .slice LA ln lc, .int .i64 (ln : Int), .bool false, undef, undef, undef, undef, undef, undef, undef, undef, undef, undef, undef, undef, undef, undef, undef, undef, undef, undef, undef, undef, undef, undef, undef, undef, undef, undef, undef, undef, undef], []⟩) (by kernel_rfl)
                subst ha
                have HE := Lib.hid (HJ.out.later hJ.1)
                clear hR hall hJ
                go_wp2
                go_roundw
                case rel => exact ⟨i + 1, (mputF attrs K r).1, L2, by omega, by go_num, HE.out, HW2.out, HM2.out, by omega⟩
                case measure => simp [intOf]; omega
      · have hgk := HM.out.get HW.out id
        obtain ⟨gr, hgr⟩ : ∃ gr, gotR L id = gr := ⟨_, rfl⟩
        obtain ⟨is, his⟩ : ∃ is, (getR L id).isSome = is := ⟨_, rfl⟩
        have HG2 := Lib.hid (show recK K id = gr from hgk.2.trans hgr)
        have HI2 := Lib.hid (hgk.1.trans his)
        have HGR := Lib.hid hgr; have HIS := Lib.hid his
        have HBX := Lib.hid (fun (w' : World) (h : Below W.heap.size W w') => HBL.out.move (w' := w') (D' := (· < W.heap.size)) fun b hb _ => ⟨h.block b hb, hb⟩)
        clear hgk hgr his
        by_cases h1 : i < n
        all_goals
          go_upto_region 17 with (go_at_call 23; go_loud (refine (rmo_get HRM.out HID.out HG2.out HI2.out).mono ?_; rintro e5 w5 ⟨s5, n5, k5, rfl, hi5, hok5, hb5⟩; have R5 := Lib.hid (HRM.out.later hb5); have HI5 := Lib.hid (show Ints w5 (· < w5.heap.size) .u32 4 s5 n5 k5 gr.vals from hi5.move fun b _ hlt => ⟨rfl, hlt⟩); have HOK5 := Lib.hid hok5; clear hi5 hok5 hb5))
          refine wp_abs (fun wx => RM W (tModel [1] b attrs K) rb attrs (K.map Kn.key) (K.map Kn.ver) L wx ∧ Box wx w5.heap.size #[.int .u64 gr.id, .int .u64 gr.ver, .slice s5 n5 k5] ∧ Below w5.heap.size w5 wx) ⟨R5.out.later (below_a1 _ _), Box.new _ _ _, below_a1 _ _⟩ ?_
          generalize hx5 : w5.heap.size = x5
          rintro wx ⟨hrx, hbx5, hbb5⟩
          have RX := Lib.hid hrx; have X5 := Lib.hid hbx5
          have HI5x := Lib.hid (show Ints wx (· < wx.heap.size) .u32 4 s5 n5 k5 gr.vals from HI5.out.move fun b _ hlt => ⟨hbb5.block b (by rw [← hx5]; exact hlt), Nat.lt_of_lt_of_le hlt hbb5.size⟩)
          clear hrx hbx5 hbb5 hx5 R5 HI5
          go_upto_region 18 with (go_at_call 30; go_loud (refine (rm_get id RX.out).mono ?_; rintro e6 w6 ⟨s6, n6, k6, rfl, hi6, hb6⟩; rw [HGR.out, HIS.out]; rw [HGR.out] at hi6; have R6 := Lib.hid (RX.out.later hb6); have HB6 := Lib.hid hb6; have HI6 := Lib.hid (show Ints w6 (· < w6.heap.size) .u32 4 s6 n6 k6 gr.vals from hi6.move fun b _ hlt => ⟨rfl, hlt⟩); clear hi6 hb6))
          refine wp_abs (fun wy => RM W (tModel [1] b attrs K) rb attrs (K.map Kn.key) (K.map Kn.ver) L wy ∧ Box wy w6.heap.size #[.int .u64 gr.id, .int .u64 gr.ver, .slice s6 n6 k6] ∧ Box wy x5 #[.int .u64 gr.id, .int .u64 gr.ver, .slice s5 n5 k5] ∧ Below w6.heap.size w6 wy) ⟨R6.out.later (below_a1 _ _), Box.new _ _ _, (X5.out.below HB6.out X5.out.lt).alloc _, below_a1 _ _⟩ ?_
          generalize hx6 : w6.heap.size = x6
          rintro wy ⟨hry, hby6, hby5, hbb6⟩
          have RY := Lib.hid hry; have Y5 := Lib.hid hby5; have Y6 := Lib.hid hby6
          have HI6y := Lib.hid (show Ints wy (· < wy.heap.size) .u32 4 s6 n6 k6 gr.vals from HI6.out.move fun b _ hlt => ⟨hbb6.block b (by rw [← hx6]; exact hlt), Nat.lt_of_lt_of_le hlt hbb6.size⟩)
          have HI5y := Lib.hid (show Ints wy (· < wy.heap.size) .u32 4 s5 n5 k5 gr.vals from (HI5x.out.move (w' := w6) (D' := (· < w6.heap.size)) fun b _ hlt => ⟨HB6.out.block b hlt, Nat.lt_of_lt_of_le hlt HB6.out.size⟩).move fun b _ hlt => ⟨hbb6.block b (by rw [← hx6]; exact hlt), Nat.lt_of_lt_of_le hlt hbb6.size⟩)
          clear hry hby6 hby5 hbb6 hx6 R6 HI6 HI5x HB6 X5 RX
          go_wp2_with (first
            | (go_at_call 22; go_loud (refine (rmo_find RY.out (by omega) HBL.out).mono ?_; rintro e7 w7 ⟨ks, ls, A7, cap7, rfl, hf1, hf0, ha7, hb7⟩; have HF := Lib.hid (And.intro hf1 hf0); have HA7 := Lib.hid ha7; have HB7 := Lib.hid hb7; clear hf1 hf0 ha7 hb7))
            | (go_at_call 31; go_loud (refine (rm_find (by omega) (RY.out.later HB7.out) HBL.out).mono ?_; rintro e8 w8 ⟨A8, l8, cap8, rfl, hl8, hb8, ha8⟩; have HL8 := Lib.hid (show ls.map Kn.rc = l8 from finds_same HW.out HM.out HF.out.1 HF.out.2 hl8); have HA8 := Lib.hid ha8; have HB8 := Lib.hid hb8; clear hl8 hb8 ha8))
            | (go_at_call 17; go_loud (refine (records_any w8 (HA7.out.later HB8.out) HA8.out).mono ?_; rintro e9 w9 ⟨rfl, hb9⟩; rw [show decide (ls.map Kn.rc = l8) = true from decide_eq_true HL8.out]; have HB9 := Lib.hid (below_from (below_from HB7.out HB8.out HB7.out.size) hb9 (below_from HB7.out HB8.out HB7.out.size).size); have Y59 := Y5.out.below HB9.out Y5.out.lt; have Y69 := Y6.out.below HB9.out Y6.out.lt; have c59 := Y59.cell; have c69 := Y69.cell; have z59 := Y59.lt; have z69 := Y69.lt; clear hb9 Y59 Y69))
            | (go_at_call 32; go_loud (refine (hrec_any w9 (D := (· < wy.heap.size)) (D' := (· < wy.heap.size)) (r1 := gr) (r2 := gr) ⟨s5, n5, k5, rfl, HOK5.out, HI5y.out.move fun b hb _ => ⟨HB9.out.block b hb, hb⟩⟩ ⟨s6, n6, k6, rfl, HOK5.out, HI6y.out.move fun b hb _ => ⟨HB9.out.block b hb, hb⟩⟩ (fun b hb => Nat.lt_of_lt_of_le hb HB9.out.size) (fun b hb => Nat.lt_of_lt_of_le hb HB9.out.size)).mono ?_; rintro e10 w10 ⟨rfl, hb10⟩; rw [show eqR gr gr = true from by unfold eqR; simp]; have R10 := Lib.hid ((RY.out.later HB9.out).later hb10); clear hb10)))
          go_ret
          exact ⟨by first | rfl | simp, R10.out.end⟩
  · have hb3 : (20 : Int) < (bn : Int) := by omega
    go_enter Try.func6, Try.ntmps6
    go_wp2_with (first
      | (go_at_call 19; go_loud (refine (mo_new [1] attrs S0.out (by simp) (by simp)).mono ?_; rintro e1 w1 ⟨b, rfl, hs, _⟩; have S1 := Lib.hid (show Sta W [tModel [1] b attrs []] w1 from hs); clear hs S0))
      | (go_at_call 20; (refine (awake24 _).mono ?_; rintro e2 w2 ⟨rfl, hb⟩; have S2 := Lib.hid ((S1.out.later (below_a1 w1 _)).later hb); clear hb S1))
      | (go_at_call 20; (refine (awake24 _).mono ?_; rintro e3 w3 ⟨rfl, hb⟩; have S3 := Lib.hid (S2.out.later hb); clear hb S2)))
    go_ret
    exact ⟨rfl, S3.out.end⟩

theorem wModelPlays (W : World) (vs : List Value) (h : Sh.Args W (· < W.heap.size) [((.int .i64), 3), ((.sl (.st (.pair .bool (.pair (.st (.pair (.int .u64) (.pair (.int .u64) (.pair (.sl (.int .u32) 4) .unit)))) .unit))) 48), 55), ((.sl (.st (.pair (.int .i64) (.pair (.int .u32) (.pair (.int .u32) .unit)))) 16), 22), ((.int .u64), 24)] vs) :
    Calls Try.prog 6 vs.toArray W fun e W' => e = .returned (.bool true) ∧ Below W.heap.size W W' := by
  obtain ⟨v0, _, rfl, ⟨a, ha⟩, v1, _, rfl, ⟨b, hb⟩, v2, _, rfl, ⟨d, hd⟩, v3, _, rfl, ⟨f, hf⟩, rfl⟩ := h
  obtain ⟨attrs, rfl, hat⟩ := int_open ha
  obtain ⟨A, n, cap, l, rfl, hl⟩ := ops_open hb
  obtain ⟨BA, bn, bc, bl, rfl, hr⟩ := rngs_open hd
  obtain ⟨id, rfl, hid⟩ := int_open hf
  have hI := bounds_i64 hat
  exact wModelPlays0 W attrs hI.1 (by have := hI.2; omega) A n cap l hl BA bn bc bl hr id (u64_of hid)
end Go.Proofs.Ytgdlajbkppfejaa
