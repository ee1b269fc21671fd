/- The client: writes. Conditions: it is one. -/
import Derived.Test.YtdpamikobmefeaaGreatCliM
import Derived.Deep.MidRow
namespace Go.Proofs.YtdpamikobmefeaaGreat
open Go.RowKit Go.ChangeShapes Go.Maps
set_option maxRecDepth 100000
set_option linter.unusedVariables false
set_option linter.unusedSimpArgs false
set_option maxHeartbeats 8000000 in
theorem cli_writes {W w : World} {ts : List Thing} {π πo : List Int} {cb k : Nat} {C : Array Value} {OA : Option Addr} {on oc : Nat} {bs : List Nat} {id ver : Int} {vA : Option Addr} {vn vc : Nat} {vs : List Int} {pA : Option Addr} {pn pc : Nat} {P : List (List Int)} {lA : Option Addr} {ln lc : Nat} (i j : Nat) (hk : k < 16) (h : Sta W ts w) (hi : ts[i]? = some (tBlk π cb C)) (hπ : π ≠ []) (hC : C[1 + k]? = some (.slice OA on oc)) (hj : ts[j]? = some (tAt ptrE OA on oc bs)) (hA : on = 0 → OA = none) (hon : on < 400)
    (hv : ∀ c, S0 W ts c w → Ints w (Quiet c w) .u32 4 vA vn vc vs) (hu : ∀ x ∈ vs, U32 x) (hvn : vn ≤ 8) (hp : ∀ c, S0 W ts c w → u32sE.At w (Quiet c w) pA pn pc P) (hpn : pn ≤ vn) (hP : ∀ (q : Nat) p, P[q]? = some p → p.length ≤ 1000 ∧ ∀ x ∈ p, U32 x) (hid : U64 id)
    (hπo : πo ≠ []) (ho : ∀ x ∈ ts, x.π ≠ πo ∧ x.π ≠ [7] ∧ x.π ≠ [8] ∧ x.π ≠ [9]) (hπo2 : πo ≠ [7] ∧ πo ≠ [8] ∧ πo ≠ [9]) :
    Calls Tryz.prog 28 #[.pointer (some ⟨cb, 0, none⟩), .int .i64 k, .agg #[.int .u64 id, .int .u64 ver, .slice vA vn vc], .agg #[.slice pA pn pc, .slice lA ln lc], .bool true] w fun e w' => ∃ (A' : Option Addr) (c' : Nat) (B : Option Addr) (bc : Nat) (ob wm : Nat) (vM vV : Value), e = .returned (.tuple #[.int .i64 ((on : Int) + 1), .slice B (allM k ((on : Int) + 1) id vs true P pn).length bc, .int .i64 0]) ∧ Sta W (ts.set i (tBlk π cb (C.setIfInBounds (1 + k) (.slice A' (on + 1) c'))) ++ [tBlk πo ob (opC 1 id vM wm vV), tAt ptrE A' (on + 1) c' (bs ++ [ob]), tAt msgE B (allM k ((on : Int) + 1) id vs true P pn).length bc (allM k ((on : Int) + 1) id vs true P pn)]) w' := by
  have hk16 : (k : Int) < 16 := by omega
  have hX := h.blk hi
  have c1 : w.cell? ⟨cb, 1 + k, none⟩ = some (.slice OA on oc) := (hX.cell (1 + k)).trans hC
  have fb := hX.free; have zb := hX.lt
  have hw1 : IntKind.i64.wrap ((on : Int) + 1) = (on : Int) + 1 := by rw [IntKind.wrap_i64] <;> omega
  have hw2 : IntKind.u64.wrap ((on : Int) + 1) = (on : Int) + 1 := by simp only [IntKind.wrap, IntKind.bits, IntKind.signed]; simp; omega
  have hmm := @run_makeMap Tryz.prog
  have hvl : vs.length = vn := by
    obtain ⟨c0, h0⟩ := h
    exact (hv c0 h0).1
  have hPl : P.length = pn := by
    obtain ⟨c0, h0⟩ := h
    exact (hp c0 h0).1
  have HST := Lib.hid (fun T1 T2 T3 => tsW_start (πo := πo) (id := id) (n := (on : Int) + 1) (vA := vA) (vn := vn) (vc := vc) (vs := vs) (pA := pA) (pn := pn) (pc := pc) (P := P) (lA := lA) (ln := ln) (lc := lc) h hv hp hπo ho hπo2 T1 T2 T3)
  have HU := Lib.hid hu; have HP := Lib.hid hP; have HI := Lib.hid hi; have HC := Lib.hid hC; have HJ := Lib.hid hj; have HID := Lib.hid hid; have HHO := Lib.hid ho
  clear h hi hX hC hj hv hu hp hP hid ho
  go_enter Tryz.func28, Tryz.ntmps28
  go_wp2
  clear c1 fb zb
  refine wp_abs (fun wx => Sta W (tsW πo (w.heap.size + 1 + 1 + 1) w.heap.size (w.heap.size + 1) (w.heap.size + 1 + 1) id ((on : Int) + 1) vA vn vc vs pA pn pc P lA ln lc (.slice none 0 0) (.slice none 0 0) [] [] ts) wx) (HST.out _ _ _) ?_
  generalize w.heap.size + 1 + 1 + 1 = ob
  generalize w.heap.size + 1 + 1 = wm
  generalize w.heap.size + 1 = hb
  generalize w.heap.size = rb
  intro wx hsx
  have HSX := Lib.hid hsx
  clear hsx HST
  go_loopw [40] (fun s40 wr => ∃ (q : Nat) (vM vV : Value), q ≤ pn ∧ s40 = .int .i64 q ∧ Sta W (tsW πo ob rb hb wm id ((on : Int) + 1) vA vn vc vs pA pn pc P lA ln lc vM vV (allM k ((on : Int) + 1) id vs true P q) (allV true vs q) ts) wr) (fun s _ => pn - (intOf s).toNat)
  case atStart => exact ⟨0, .slice none 0 0, .slice none 0 0, Nat.zero_le _, rfl, by simpa [allM, allV] using HSX.out⟩
  case round =>
    obtain ⟨q, vM, vV, hq, rfl, hs⟩ := hrel
    have HS := Lib.hid hs
    by_cases hlt : q < pn
    · obtain ⟨pb, poff, pl, ps, pm, pk, rfl, zpb, hpl, dp, hpi⟩ := u32s_at (hs.at (i := 1) (E := u32sE) rfl) hlt
      obtain ⟨hpl1, hplu⟩ := HP.out q pl hpl
      have hqv : q < vn := by omega
      obtain ⟨c0, hiv⟩ := hs.get (i := 0) (t := tInts vA vn vc vs) rfl
      obtain ⟨vb, voff, rfl, _⟩ := (show Ints wr (Quiet c0 wr) .u32 4 vA vn vc vs from hiv).2.2.2.2.2.2 (by omega)
      have HPL := Lib.hid hpl; have HPU := Lib.hid hplu
      have hpm : pl.length = pm := hpi.1
      have HS1 := Lib.hid (show Sta W (tsW πo ob rb hb wm id ((on : Int) + 1) (some ⟨vb, voff, none⟩) vn vc vs (some ⟨pb, poff, none⟩) pn pc P lA ln lc vM vV (allM k ((on : Int) + 1) id vs true P q) (allV true vs q) (tInts ps pm pk pl :: ts)) wr from by
        refine Sta.perm' (hs.addD (t := tInts ps pm pk pl) rfl fun c hc => u32s_cell (hc.get (i := 1) rfl) hpl dp) ?_
        unfold tsW
        simp only [List.cons_append, List.nil_append, List.append_assoc]
        repeat (first | exact List.Perm.refl _ | refine .cons _ ?_)
        exact List.perm_append_comm)
      clear hs hpi hplu HSX hiv
      go_upto_region 8 with fail
      obtain ⟨v0, hv0⟩ : ∃ v0, vs.getD q 0 = v0 := ⟨_, rfl⟩
      have HV0 := Lib.hid hv0; have HVU := Lib.hid (show U32 v0 by rw [← hv0]; exact ints_u32 HU.out (by omega))
      clear hv0
      have hml := allM_len (client := k) (n := (on : Int) + 1) (id := id) (vs := vs) (put := true) (P := P) (fun q p h => (HP.out q p h).1) q
      refine wp_regs (Θ := Option Addr × Nat × Nat × Nat × Option Addr × Nat) (by kernel_rfl) (by kernel_rfl) 143 rfl (by kernel_rfl) (fun θ q9 => if q9 = 14 then .agg #[.int .i64 1, .int .i64 (q : Int), .int .u32 0, .int .i64 (k : Int), .int .i64 ((on : Int) + 1), .int .u32 v0, .int .i64 0, .int .u32 0, .int .i64 0, .int .u32 v0, .int .u64 id, .int .u64 ((on : Int) + 1), .slice θ.1 θ.2.1 θ.2.2.1, .bool false, .int .u32 0, .int .u32 0, .slice none 0 0, .slice none 0 0] else if q9 = 15 then .slice (some ⟨θ.2.2.2.1, 0, none⟩) 1 1 else if q9 = 16 then .slice θ.2.2.2.2.1 ((allM k ((on : Int) + 1) id vs true P q).length + 1) θ.2.2.2.2.2 else ([.pointer (some ⟨ob, 0, none⟩), .pointer (some ⟨ob, 0, none⟩), .pointer (some ⟨ob, 0, none⟩), .pointer (some ⟨ob, 3, none⟩), vM, .int .i64 (k : Int), .int .i64 ((on : Int) + 1), .int .i64 (q : Int), .agg #[.int .u64 id, .int .u64 ((on : Int) + 1), .slice (some ⟨vb, voff, none⟩) vn vc], .pointer (some ⟨rb, 2, none⟩), .slice (some ⟨vb, voff, none⟩) vn vc, .int .i64 (q : Int), .pointer (some ⟨vb, voff + q, none⟩), .int .u32 v0, undef, undef, undef, .pointer (some ⟨ob, 0, none⟩), .pointer (some ⟨ob, 3, none⟩), undef] : List Value).getD q9 undef)
        (fun l θ w2 => Sta W (tsV πo ob rb wm id ((on : Int) + 1) (some ⟨vb, voff, none⟩) vn vc vs (some ⟨pb, poff, none⟩) pn pc P vM vV (allM k ((on : Int) + 1) id vs true P q) (allV true vs q) (tInts ps pm pk pl :: ts) k q v0 false (l.getD 14 false) (l.getD 15 false) (l.getD 16 false) (l.getD 19 false) θ) w2) (none, 0, 0, 0, none, 0) ?start8 ?step8 ?done8
      case start8 => exact tsV_start k q v0 false _ (HS1.out.later (Same.drew _).1)
      case step8 =>
        intro l θ a w2 z o K5 ho h0 hsz hd hcl2 hJ hR hK
        have hz : z < 20 := (Array.getElem?_eq_some_iff.1 ho).1
        have hof := getD_ff h0
        have cl : ∀ j k, Region.waitsFor .any _ j k = true → l.getD k false = false → l.getD j false = false := fun j k hw hk => by
          cases hj : l.getD j false with
          | false => rfl
          | true => rw [hcl2 j k hw hj] at hk; cases hk
        have so : ∀ k, z ≠ k → (l.setIfInBounds z true).getD k false = l.getD k false := fun k hk => getD_set_other hk
        have se : (l.setIfInBounds z true).getD z false = true := getD_set_self (by rw [hsz]; exact (Array.getElem?_eq_some_iff.1 ho).1)
        have hc : z = 0 ∨ z = 1 ∨ z = 2 ∨ z = 3 ∨ z = 4 ∨ z = 5 ∨ z = 6 ∨ z = 7 ∨ z = 8 ∨ z = 9 ∨ z = 10 ∨ z = 11 ∨ z = 12 ∨ z = 13 ∨ z = 14 ∨ z = 15 ∨ z = 16 ∨ z = 17 ∨ z = 18 ∨ z = 19 := by omega
        rcases hc with rfl | rfl | rfl | rfl | rfl | rfl | rfl | rfl | rfl | rfl | rfl | rfl | rfl | rfl | rfl | rfl | rfl | rfl | rfl | rfl
        · obtain rfl := Option.some.inj ho
          have e14 : a.tmps[14]? = some (.pointer (some ⟨ob, 0, none⟩)) := (hR.outer 14 (by kernel_rfl)).trans rfl
          clear hsz h0 hd hcl2 cl hof
          unfold StepTo
          go_simp
          exact hK θ w2 (by simp only [so 14 (by decide), so 15 (by decide), so 16 (by decide), so 19 (by decide)]; exact hJ) (fun _ _ _ => rfl)
        · obtain rfl := Option.some.inj ho
          have e14 : a.tmps[14]? = some (.pointer (some ⟨ob, 0, none⟩)) := (hR.outer 14 (by kernel_rfl)).trans rfl
          clear hsz h0 hd hcl2 cl hof
          unfold StepTo
          go_simp
          exact hK θ w2 (by simp only [so 14 (by decide), so 15 (by decide), so 16 (by decide), so 19 (by decide)]; exact hJ) (fun _ _ _ => rfl)
        · obtain rfl := Option.some.inj ho
          have e47 : a.tmps[47]? = some (.pointer (some ⟨ob, 0, none⟩)) := hR.reg 1 _ 47 rfl rfl (hd 1 (by kernel_rfl))
          clear hsz h0 hd hcl2 cl hof
          unfold StepTo
          go_simp
          exact hK θ w2 (by simp only [so 14 (by decide), so 15 (by decide), so 16 (by decide), so 19 (by decide)]; exact hJ) (fun _ _ _ => rfl)
        · obtain rfl := Option.some.inj ho
          have e48 : a.tmps[48]? = some (.pointer (some ⟨ob, 0, none⟩)) := hR.reg 2 _ 48 rfl rfl (hd 2 (by kernel_rfl))
          clear hsz h0 hd hcl2 cl hof
          unfold StepTo
          go_simp
          exact hK θ w2 (by simp only [so 14 (by decide), so 15 (by decide), so 16 (by decide), so 19 (by decide)]; exact hJ) (fun _ _ _ => rfl)
        · obtain rfl := Option.some.inj ho
          have e49 : a.tmps[49]? = some (.pointer (some ⟨ob, 3, none⟩)) := hR.reg 3 _ 49 rfl rfl (hd 3 (by kernel_rfl))
          have q16 := cl 16 4 (by kernel_rfl) hof
          have q19 := cl 19 16 (by kernel_rfl) q16
          have hbx := hJ.blk (i := 4) (π := πo) (b := ob) rfl
          simp only [q19, Bool.false_eq_true, if_false] at hbx
          have cbx : w2.cell? ⟨ob, 3, none⟩ = some vM := hbx.cell 3
          have fb := hbx.free; have zb := hbx.lt
          clear hbx
          clear hsz h0 hd hcl2 cl hof
          unfold StepTo
          go_simp
          exact hK θ w2 (by simp only [so 14 (by decide), so 15 (by decide), so 16 (by decide), so 19 (by decide)]; exact hJ) (fun _ _ _ => rfl)
        · obtain rfl := Option.some.inj ho
          have e1 : a.tmps[1]? = some (.int .i64 (k : Int)) := (hR.outer 1 (by kernel_rfl)).trans rfl
          clear hsz h0 hd hcl2 cl hof
          unfold StepTo
          go_simp
          exact hK θ w2 (by simp only [so 14 (by decide), so 15 (by decide), so 16 (by decide), so 19 (by decide)]; exact hJ) (fun _ _ _ => rfl)
        · obtain rfl := Option.some.inj ho
          have e13 : a.tmps[13]? = some (.int .i64 ((on : Int) + 1)) := (hR.outer 13 (by kernel_rfl)).trans rfl
          clear hsz h0 hd hcl2 cl hof
          unfold StepTo
          go_simp
          exact hK θ w2 (by simp only [so 14 (by decide), so 15 (by decide), so 16 (by decide), so 19 (by decide)]; exact hJ) (fun _ _ _ => rfl)
        · obtain rfl := Option.some.inj ho
          have e15 : a.tmps[15]? = some (.int .i64 (q : Int)) := (hR.outer 15 (by kernel_rfl)).trans rfl
          clear hsz h0 hd hcl2 cl hof
          unfold StepTo
          go_simp
          exact hK θ w2 (by simp only [so 14 (by decide), so 15 (by decide), so 16 (by decide), so 19 (by decide)]; exact hJ) (fun _ _ _ => rfl)
        · obtain rfl := Option.some.inj ho
          have e7 : a.tmps[7]? = some (.pointer (some ⟨rb, 0, none⟩)) := (hR.outer 7 (by kernel_rfl)).trans rfl
          have hbx := hJ.box (i := 2) (b := rb) rfl
          have cb := hbx.cell; have fb := hbx.free; have zb := hbx.lt
          clear hbx
          clear hsz h0 hd hcl2 cl hof
          unfold StepTo
          go_simp
          exact hK θ w2 (by simp only [so 14 (by decide), so 15 (by decide), so 16 (by decide), so 19 (by decide)]; exact hJ) (fun _ _ _ => rfl)
        · obtain rfl := Option.some.inj ho
          have e7 : a.tmps[7]? = some (.pointer (some ⟨rb, 0, none⟩)) := (hR.outer 7 (by kernel_rfl)).trans rfl
          clear hsz h0 hd hcl2 cl hof
          unfold StepTo
          go_simp
          exact hK θ w2 (by simp only [so 14 (by decide), so 15 (by decide), so 16 (by decide), so 19 (by decide)]; exact hJ) (fun _ _ _ => rfl)
        · obtain rfl := Option.some.inj ho
          have e55 : a.tmps[55]? = some (.pointer (some ⟨rb, 2, none⟩)) := hR.reg 9 _ 55 rfl rfl (hd 9 (by kernel_rfl))
          have hbx := hJ.box (i := 2) (b := rb) rfl
          have cb := hbx.cell; have fb := hbx.free; have zb := hbx.lt
          clear hbx
          clear hsz h0 hd hcl2 cl hof
          unfold StepTo
          go_simp
          exact hK θ w2 (by simp only [so 14 (by decide), so 15 (by decide), so 16 (by decide), so 19 (by decide)]; exact hJ) (fun _ _ _ => rfl)
        · obtain rfl := Option.some.inj ho
          have e15 : a.tmps[15]? = some (.int .i64 (q : Int)) := (hR.outer 15 (by kernel_rfl)).trans rfl
          clear hsz h0 hd hcl2 cl hof
          unfold StepTo
          go_simp
          exact hK θ w2 (by simp only [so 14 (by decide), so 15 (by decide), so 16 (by decide), so 19 (by decide)]; exact hJ) (fun _ _ _ => rfl)
        · obtain rfl := Option.some.inj ho
          have e56 : a.tmps[56]? = some (.slice (some ⟨vb, voff, none⟩) vn vc) := hR.reg 10 _ 56 rfl rfl (hd 10 (by kernel_rfl))
          have e57 : a.tmps[57]? = some (.int .i64 (q : Int)) := hR.reg 11 _ 57 rfl rfl (hd 11 (by kernel_rfl))
          clear hsz h0 hd hcl2 cl hof
          unfold StepTo
          go_simp
          exact hK θ w2 (by simp only [so 14 (by decide), so 15 (by decide), so 16 (by decide), so 19 (by decide)]; exact hJ) (fun _ _ _ => rfl)
        · obtain rfl := Option.some.inj ho
          have e58 : a.tmps[58]? = some (.pointer (some ⟨vb, voff + q, none⟩)) := hR.reg 12 _ 58 rfl rfl (hd 12 (by kernel_rfl))
          have hvi : w2.cell? ⟨vb, voff + q, none⟩ = some (.int .u32 v0) := by
            obtain ⟨c5, hg⟩ := hJ.get (i := 0) (t := tInts (some ⟨vb, voff, none⟩) vn vc vs) rfl
            rw [← HV0.out]; exact ints_cell hg hqv
          clear hsz h0 hd hcl2 cl hof
          unfold StepTo
          go_simp
          exact hK θ w2 (by simp only [so 14 (by decide), so 15 (by decide), so 16 (by decide), so 19 (by decide)]; exact hJ) (fun _ _ _ => rfl)
        · obtain rfl := Option.some.inj ho
          have e51 : a.tmps[51]? = some (.int .i64 (k : Int)) := hR.reg 5 _ 51 rfl rfl (hd 5 (by kernel_rfl))
          have e52 : a.tmps[52]? = some (.int .i64 ((on : Int) + 1)) := hR.reg 6 _ 52 rfl rfl (hd 6 (by kernel_rfl))
          have e53 : a.tmps[53]? = some (.int .i64 (q : Int)) := hR.reg 7 _ 53 rfl rfl (hd 7 (by kernel_rfl))
          have e54 : a.tmps[54]? = some (.agg #[.int .u64 id, .int .u64 ((on : Int) + 1), .slice (some ⟨vb, voff, none⟩) vn vc]) := hR.reg 8 _ 54 rfl rfl (hd 8 (by kernel_rfl))
          have e59 : a.tmps[59]? = some (.int .u32 v0) := hR.reg 13 _ 59 rfl rfl (hd 13 (by kernel_rfl))
          have q15 := cl 15 14 (by kernel_rfl) hof
          have q16 := cl 16 15 (by kernel_rfl) q15
          have HVI : Hid (Ints w2 (· < w2.heap.size) .u32 4 (some ⟨vb, voff, none⟩) vn vc vs) := by
            obtain ⟨c5, hg⟩ := hJ.get (i := 0) (t := tInts (some ⟨vb, voff, none⟩) vn vc vs) rfl
            exact hg.move fun b hb hl => ⟨rfl, hl⟩
          clear hsz h0 hd hcl2 cl
          unfold StepTo
          go_simp
          go_at_call 60
          refine (store_any k ((on : Int) + 1) q id ((on : Int) + 1) v0 false w2 HVI.out (fun b hb => hb) hqv HVU.out HU.out).mono ?_
          rintro e5 w5 ⟨s5, l5, k5, rfl, hi5, hb5⟩
          refine hK (s5, l5, k5, θ.2.2.2.1, θ.2.2.2.2.1, θ.2.2.2.2.2) w5 ?_ (fun j hj hl => ?_)
          · have h5 := hJ.intsIn (t := tNone) 7 hb5 hi5 (by unfold tsV; rw [hof]; rfl) rfl rfl
            simp only [se, so 15 (by decide), so 16 (by decide), so 19 (by decide)]
            unfold tsV at h5 ⊢
            simp only [hof, q15, q16, Bool.false_eq_true, if_false, if_true] at h5 ⊢
            exact h5
          · by_cases e7 : j = 15
            · subst e7; exact absurd hl (by rw [q15]; exact Bool.false_ne_true)
            · by_cases e8 : j = 16
              · subst e8; exact absurd hl (by rw [q16]; exact Bool.false_ne_true)
              · simp only [if_neg hj, if_neg e7, if_neg e8]
        · obtain rfl := Option.some.inj ho
          have e60 : a.tmps[60]? = some (.agg #[.int .i64 1, .int .i64 (q : Int), .int .u32 0, .int .i64 (k : Int), .int .i64 ((on : Int) + 1), .int .u32 v0, .int .i64 0, .int .u32 0, .int .i64 0, .int .u32 v0, .int .u64 id, .int .u64 ((on : Int) + 1), .slice θ.1 θ.2.1 θ.2.2.1, .bool false, .int .u32 0, .int .u32 0, .slice none 0 0, .slice none 0 0]) := hR.reg 14 _ 60 rfl rfl (hd 14 (by kernel_rfl))
          have q16 := cl 16 15 (by kernel_rfl) hof
          have q14 := hd 14 (by kernel_rfl)
          clear hsz h0 hd hcl2 cl
          have hJ2 := hJ.boxIn (t := tNone) 8 #[.int .i64 1, .int .i64 (q : Int), .int .u32 0, .int .i64 (k : Int), .int .i64 ((on : Int) + 1), .int .u32 v0, .int .i64 0, .int .u32 0, .int .i64 0, .int .u32 v0, .int .u64 id, .int .u64 ((on : Int) + 1), .slice θ.1 θ.2.1 θ.2.2.1, .bool false, .int .u32 0, .int .u32 0, .slice none 0 0, .slice none 0 0] 58 (by unfold tsV; rw [hof]; rfl) rfl rfl
          unfold StepTo
          go_simp
          refine hK (θ.1, θ.2.1, θ.2.2.1, w2.heap.size, θ.2.2.2.2.1, θ.2.2.2.2.2) _ ?_ (fun j hj hl => ?_)
          · simp only [se, so 14 (by decide), so 16 (by decide), so 19 (by decide)]
            unfold tsV at hJ2 ⊢
            simp only [hof, q16, q14, Bool.false_eq_true, if_false, if_true] at hJ2 ⊢
            exact hJ2
          · by_cases e8 : j = 16
            · subst e8; exact absurd hl (by rw [q16]; exact Bool.false_ne_true)
            · simp only [if_neg hj, if_neg e8]
        · obtain rfl := Option.some.inj ho
          have e50 : a.tmps[50]? = some (vM) := hR.reg 4 _ 50 rfl rfl (hd 4 (by kernel_rfl))
          have e61 : a.tmps[61]? = some (.slice (some ⟨θ.2.2.2.1, 0, none⟩) 1 1) := hR.reg 15 _ 61 rfl rfl (hd 15 (by kernel_rfl))
          have q19 := cl 19 16 (by kernel_rfl) hof
          have q15 := hd 15 (by kernel_rfl)
          have q14 : l.getD 14 false = true := hcl2 15 14 (by kernel_rfl) q15
          obtain ⟨c5, hJ0⟩ := hJ
          have hrow : msgE.Row c5 [7] w2 vM (allM k ((on : Int) + 1) id vs true P q) := by have := hJ0.get (i := 5) (by unfold tsV; rw [hof]; rfl); exact this
          have hbox : Box w2 θ.2.2.2.1 (storeCells k ((on : Int) + 1) q id ((on : Int) + 1) v0 false θ.1 θ.2.1 θ.2.2.1).toArray ∧ c5 θ.2.2.2.1 = [] := by have := hJ0.get (i := 8) (by unfold tsV; rw [q15]; rfl); exact this
          have hint : Ints w2 (Quiet c5 w2) .u32 4 θ.1 θ.2.1 θ.2.2.1 (vs.set q v0) := by have := hJ0.get (i := 7) (by unfold tsV; rw [q14]; rfl); exact this
          clear hsz h0 hd hcl2 cl
          unfold StepTo
          refine msgE.step_append rfl (.tmp 50) (.tmp 61) rfl vM (by simp [Act.eval, e50]) hrow hJ0.fresh (by simp) (some ⟨θ.2.2.2.1, 0, none⟩) 1 1 (by simp [Act.eval, e61]) (N := [stM k ((on : Int) + 1) id vs q v0 false]) (Elt.At.one hbox.1 ⟨hbox.2, hbox.1.lt⟩ (stM_rd hint)) (by omega) ?_
          intro B5 cap5 w5 c6 st hr
          refine hK (θ.1, θ.2.1, θ.2.2.1, θ.2.2.2.1, B5, cap5) w5 ?_ (fun j hj hl => by simp only [if_neg hj])
          have h5 := Sta.turn hJ0 (i := 5) (t := tRow msgE [7] vM (allM k ((on : Int) + 1) id vs true P q)) (t' := tRow msgE [7] (.slice B5 ((allM k ((on : Int) + 1) id vs true P q).length + 1) cap5) ((allM k ((on : Int) + 1) id vs true P q) ++ [stM k ((on : Int) + 1) id vs q v0 false])) (by unfold tsV; rw [hof]; rfl) (by simp [tRow]) rfl st hr rfl
          simp only [se, so 14 (by decide), so 15 (by decide), so 19 (by decide)]
          unfold tsV at h5 ⊢
          simp only [hof, q19, q15, q14, Bool.false_eq_true, if_false, if_true] at h5 ⊢
          exact h5
        · obtain rfl := Option.some.inj ho
          have e46 : a.tmps[46]? = some (.pointer (some ⟨ob, 0, none⟩)) := hR.reg 0 _ 46 rfl rfl (hd 0 (by kernel_rfl))
          clear hsz h0 hd hcl2 cl hof
          unfold StepTo
          go_simp
          exact hK θ w2 (by simp only [so 14 (by decide), so 15 (by decide), so 16 (by decide), so 19 (by decide)]; exact hJ) (fun _ _ _ => rfl)
        · obtain rfl := Option.some.inj ho
          have e63 : a.tmps[63]? = some (.pointer (some ⟨ob, 0, none⟩)) := hR.reg 17 _ 63 rfl rfl (hd 17 (by kernel_rfl))
          clear hsz h0 hd hcl2 cl hof
          unfold StepTo
          go_simp
          exact hK θ w2 (by simp only [so 14 (by decide), so 15 (by decide), so 16 (by decide), so 19 (by decide)]; exact hJ) (fun _ _ _ => rfl)
        · obtain rfl := Option.some.inj ho
          have e62 : a.tmps[62]? = some (.slice θ.2.2.2.2.1 ((allM k ((on : Int) + 1) id vs true P q).length + 1) θ.2.2.2.2.2) := hR.reg 16 _ 62 rfl rfl (hd 16 (by kernel_rfl))
          have e64 : a.tmps[64]? = some (.pointer (some ⟨ob, 3, none⟩)) := hR.reg 18 _ 64 rfl rfl (hd 18 (by kernel_rfl))
          have q16 := hd 16 (by kernel_rfl)
          have hJ2 := hJ.store (i := 4) (π := πo) (b := ob) 3 (.slice θ.2.2.2.2.1 ((allM k ((on : Int) + 1) id vs true P q).length + 1) θ.2.2.2.2.2) rfl hπo rfl
          have hbx := hJ.blk (i := 4) (π := πo) (b := ob) rfl
          simp only [hof, Bool.false_eq_true, if_false] at hbx
          have cbx : w2.cell? ⟨ob, 3, none⟩ = some vM := hbx.cell 3
          have fb := hbx.free; have zb := hbx.lt
          clear hsz h0 hd hcl2 cl hbx
          unfold StepTo
          go_simp
          refine hK θ _ ?_ (fun _ _ _ => rfl)
          simp only [se, so 14 (by decide), so 15 (by decide), so 16 (by decide)]
          unfold tsV at hJ2 ⊢
          simp only [hof, q16, Bool.false_eq_true, if_false, if_true] at hJ2 ⊢
          exact hJ2
      case done8 =>
        intro l θ a w2 hall hJ hR
        have ha := (hR.whole [some 46, some 47, some 48, some 49, some 50, some 51, some 52, some 53, some 54, some 55, some 56, some 57, some 58, some 59, some 60, some 61, some 62, some 63, some 64, none] rfl rfl (by kernel_rfl) hall).trans (b := _) (c := ⟨#[.pointer (some ⟨cb, 0, none⟩), .int .i64 (k : Int), .agg #[.int .u64 id, .int .u64 ver, .slice (some ⟨vb, voff, none⟩) vn vc], .agg #[.slice (some ⟨pb, poff, none⟩) pn pc, .slice lA ln lc], .bool true, undef, undef, .pointer (some ⟨rb, 0, none⟩), .pointer (some ⟨hb, 0, none⟩), undef, .int .i64 0, .slice none 0 0, .int .i64 0, .int .i64 ((on : Int) + 1), .pointer (some ⟨ob, 0, none⟩), .int .i64 (q : Int), .slice ps pm pk, undef, u18, undef, undef, .pointer (some ⟨cb, 0, none⟩), .int .i64 (k : Int), .pointer (some ⟨cb, 0, none⟩), .pointer (some ⟨cb, 1, none⟩), .pointer (some ⟨cb, 1 + k, none⟩), .slice OA on oc, .int .i64 (on : Int), .int .i64 ((on : Int) + 1), .int .i64 ((on : Int) + 1), .int .u64 ((on : Int) + 1), .pointer (some ⟨rb, 1, none⟩), .pointer (some ⟨rb, 0, none⟩), .int .u64 id, .map (some wm), .agg (opC 1 id (.slice none 0 0) wm (.slice none 0 0)), .pointer (some ⟨ob, 0, none⟩), .pointer (some ⟨hb, 0, none⟩), .slice (some ⟨pb, poff, none⟩) pn pc, .int .i64 (pn : Int), .int .i64 (q : Int), .bool true, .int .i64 (q : Int), .pointer (some ⟨pb, poff + q, none⟩), .slice ps pm pk, .bool true, .pointer (some ⟨ob, 0, none⟩), .pointer (some ⟨ob, 0, none⟩), .pointer (some ⟨ob, 0, none⟩), .pointer (some ⟨ob, 3, none⟩), vM, .int .i64 (k : Int), .int .i64 ((on : Int) + 1), .int .i64 (q : Int), .agg #[.int .u64 id, .int .u64 ((on : Int) + 1), .slice (some ⟨vb, voff, none⟩) vn vc], .pointer (some ⟨rb, 2, none⟩), .slice (some ⟨vb, voff, none⟩) vn vc, .int .i64 (q : Int), .pointer (some ⟨vb, voff + q, none⟩), .int .u32 v0, .agg #[.int .i64 1, .int .i64 (q : Int), .int .u32 0, .int .i64 (k : Int), .int .i64 ((on : Int) + 1), .int .u32 v0, .int .i64 0, .int .u32 0, .int .i64 0, .int .u32 v0, .int .u64 id, .int .u64 ((on : Int) + 1), .slice θ.1 θ.2.1 θ.2.2.1, .bool false, .int .u32 0, .int .u32 0, .slice none 0 0, .slice none 0 0], .slice (some ⟨θ.2.2.2.1, 0, none⟩) 1 1, .slice θ.2.2.2.2.1 ((allM k ((on : Int) + 1) id vs true P q).length + 1) θ.2.2.2.2.2, .pointer (some ⟨ob, 0, none⟩), .pointer (some ⟨ob, 3, none⟩), u65, u66, u67, u68, u69, u70, u71, u72, u73, u74, u75, u76, u77, u78, u79, u80, u81, u82, u83, u84, u85, u86, u87, u88, u89, u90, u91, u92, u93, u94, u95, u96, u97, u98, u99, u100, u101, u102, u103, u104, u105, u106, u107, u108, u109, u110, u111, u112, u113, undef, undef, undef, undef, undef, undef, undef, undef, undef, undef, undef, undef, undef, undef, undef, undef, undef, undef, undef, undef, undef, undef, undef, undef, undef, undef, undef, undef, undef], []⟩) (by kernel_rfl)
        subst ha
        simp only [hall 14 (by show 14 < 20; omega), hall 15 (by show 15 < 20; omega), hall 16 (by show 16 < 20; omega), hall 19 (by show 19 < 20; omega)] at hJ
        have HJ := Lib.hid (tsV_end (hb := hb) (lA := lA) (ln := ln) (lk := lc) hJ)
        clear hR hall hJ
        go_upto_region 9 with fail
        refine wp_regs (Θ := Nat × Nat × Option Addr × Nat) (by kernel_rfl) (by kernel_rfl) 143 rfl (by kernel_rfl) (fun η q9 => if q9 = 10 then .slice (some ⟨η.1, 0, none⟩) 1 1 else if q9 = 11 then .slice (some ⟨η.2.1, 0, none⟩) 1 1 else if q9 = 12 then .slice η.2.2.1 ((allV true vs q).length + 1) η.2.2.2 else ([.pointer (some ⟨ob, 0, none⟩), .pointer (some ⟨ob, 0, none⟩), .pointer (some ⟨ob, 0, none⟩), .pointer (some ⟨ob, 5, none⟩), vV, .pointer (some ⟨rb, 2, none⟩), .slice (some ⟨vb, voff, none⟩) vn vc, .int .i64 (q : Int), .pointer (some ⟨vb, voff + q, none⟩), .int .u32 v0, undef, undef, undef, .pointer (some ⟨ob, 0, none⟩), .pointer (some ⟨ob, 5, none⟩), undef] : List Value).getD q9 undef)
          (fun l η w2 => Sta W (tsU πo ob rb wm id ((on : Int) + 1) (some ⟨vb, voff, none⟩) vn vc vs (some ⟨pb, poff, none⟩) pn pc P (.slice θ.2.2.2.2.1 ((allM k ((on : Int) + 1) id vs true P q).length + 1) θ.2.2.2.2.2) vV ((allM k ((on : Int) + 1) id vs true P q) ++ [stM k ((on : Int) + 1) id vs q v0 false]) (allV true vs q) (tInts ps pm pk pl :: ts) v0 (l.getD 10 false) (l.getD 11 false) (l.getD 12 false) (l.getD 15 false) η) w2) (0, 0, none, 0) ?start9 ?step9 ?done9
        case start9 => exact tsU_start v0 _ (HJ.out.later (Same.drew _).1)
        case step9 =>
          intro l η a w2 z o K5 ho h0 hsz hd hcl2 hJ hR hK
          have hz : z < 16 := (Array.getElem?_eq_some_iff.1 ho).1
          have hof := getD_ff h0
          have cl : ∀ j k, Region.waitsFor .any _ j k = true → l.getD k false = false → l.getD j false = false := fun j k hw hk => by
            cases hj : l.getD j false with
            | false => rfl
            | true => rw [hcl2 j k hw hj] at hk; cases hk
          have so : ∀ k, z ≠ k → (l.setIfInBounds z true).getD k false = l.getD k false := fun k hk => getD_set_other hk
          have se : (l.setIfInBounds z true).getD z false = true := getD_set_self (by rw [hsz]; exact (Array.getElem?_eq_some_iff.1 ho).1)
          have hc : z = 0 ∨ z = 1 ∨ z = 2 ∨ z = 3 ∨ z = 4 ∨ z = 5 ∨ z = 6 ∨ z = 7 ∨ z = 8 ∨ z = 9 ∨ z = 10 ∨ z = 11 ∨ z = 12 ∨ z = 13 ∨ z = 14 ∨ z = 15 := by omega
          rcases hc with rfl | rfl | rfl | rfl | rfl | rfl | rfl | rfl | rfl | rfl | rfl | rfl | rfl | rfl | rfl | rfl
          · obtain rfl := Option.some.inj ho
            have e14 : a.tmps[14]? = some (.pointer (some ⟨ob, 0, none⟩)) := (hR.outer 14 (by kernel_rfl)).trans rfl
            clear hsz h0 hd hcl2 cl hof
            unfold StepTo
            go_simp
            exact hK η w2 (by simp only [so 10 (by decide), so 11 (by decide), so 12 (by decide), so 15 (by decide)]; exact hJ) (fun _ _ _ => rfl)
          · obtain rfl := Option.some.inj ho
            have e14 : a.tmps[14]? = some (.pointer (some ⟨ob, 0, none⟩)) := (hR.outer 14 (by kernel_rfl)).trans rfl
            clear hsz h0 hd hcl2 cl hof
            unfold StepTo
            go_simp
            exact hK η w2 (by simp only [so 10 (by decide), so 11 (by decide), so 12 (by decide), so 15 (by decide)]; exact hJ) (fun _ _ _ => rfl)
          · obtain rfl := Option.some.inj ho
            have e66 : a.tmps[66]? = some (.pointer (some ⟨ob, 0, none⟩)) := hR.reg 1 _ 66 rfl rfl (hd 1 (by kernel_rfl))
            clear hsz h0 hd hcl2 cl hof
            unfold StepTo
            go_simp
            exact hK η w2 (by simp only [so 10 (by decide), so 11 (by decide), so 12 (by decide), so 15 (by decide)]; exact hJ) (fun _ _ _ => rfl)
          · obtain rfl := Option.some.inj ho
            have e67 : a.tmps[67]? = some (.pointer (some ⟨ob, 0, none⟩)) := hR.reg 2 _ 67 rfl rfl (hd 2 (by kernel_rfl))
            clear hsz h0 hd hcl2 cl hof
            unfold StepTo
            go_simp
            exact hK η w2 (by simp only [so 10 (by decide), so 11 (by decide), so 12 (by decide), so 15 (by decide)]; exact hJ) (fun _ _ _ => rfl)
          · obtain rfl := Option.some.inj ho
            have e68 : a.tmps[68]? = some (.pointer (some ⟨ob, 5, none⟩)) := hR.reg 3 _ 68 rfl rfl (hd 3 (by kernel_rfl))
            have q12 := cl 12 4 (by kernel_rfl) hof
            have q15 := cl 15 12 (by kernel_rfl) q12
            have hbx := hJ.blk (i := 4) (π := πo) (b := ob) rfl
            simp only [q15, Bool.false_eq_true, if_false] at hbx
            have cbx : w2.cell? ⟨ob, 5, none⟩ = some vV := hbx.cell 5
            have fb := hbx.free; have zb := hbx.lt
            clear hbx
            clear hsz h0 hd hcl2 cl hof
            unfold StepTo
            go_simp
            exact hK η w2 (by simp only [so 10 (by decide), so 11 (by decide), so 12 (by decide), so 15 (by decide)]; exact hJ) (fun _ _ _ => rfl)
          · obtain rfl := Option.some.inj ho
            have e7 : a.tmps[7]? = some (.pointer (some ⟨rb, 0, none⟩)) := (hR.outer 7 (by kernel_rfl)).trans rfl
            clear hsz h0 hd hcl2 cl hof
            unfold StepTo
            go_simp
            exact hK η w2 (by simp only [so 10 (by decide), so 11 (by decide), so 12 (by decide), so 15 (by decide)]; exact hJ) (fun _ _ _ => rfl)
          · obtain rfl := Option.some.inj ho
            have e70 : a.tmps[70]? = some (.pointer (some ⟨rb, 2, none⟩)) := hR.reg 5 _ 70 rfl rfl (hd 5 (by kernel_rfl))
            have hbx := hJ.box (i := 2) (b := rb) rfl
            have cb := hbx.cell; have fb := hbx.free; have zb := hbx.lt
            clear hbx
            clear hsz h0 hd hcl2 cl hof
            unfold StepTo
            go_simp
            exact hK η w2 (by simp only [so 10 (by decide), so 11 (by decide), so 12 (by decide), so 15 (by decide)]; exact hJ) (fun _ _ _ => rfl)
          · obtain rfl := Option.some.inj ho
            have e15 : a.tmps[15]? = some (.int .i64 (q : Int)) := (hR.outer 15 (by kernel_rfl)).trans rfl
            clear hsz h0 hd hcl2 cl hof
            unfold StepTo
            go_simp
            exact hK η w2 (by simp only [so 10 (by decide), so 11 (by decide), so 12 (by decide), so 15 (by decide)]; exact hJ) (fun _ _ _ => rfl)
          · obtain rfl := Option.some.inj ho
            have e71 : a.tmps[71]? = some (.slice (some ⟨vb, voff, none⟩) vn vc) := hR.reg 6 _ 71 rfl rfl (hd 6 (by kernel_rfl))
            have e72 : a.tmps[72]? = some (.int .i64 (q : Int)) := hR.reg 7 _ 72 rfl rfl (hd 7 (by kernel_rfl))
            clear hsz h0 hd hcl2 cl hof
            unfold StepTo
            go_simp
            exact hK η w2 (by simp only [so 10 (by decide), so 11 (by decide), so 12 (by decide), so 15 (by decide)]; exact hJ) (fun _ _ _ => rfl)
          · obtain rfl := Option.some.inj ho
            have e73 : a.tmps[73]? = some (.pointer (some ⟨vb, voff + q, none⟩)) := hR.reg 8 _ 73 rfl rfl (hd 8 (by kernel_rfl))
            have hvi : w2.cell? ⟨vb, voff + q, none⟩ = some (.int .u32 v0) := by
              obtain ⟨c5, hg⟩ := hJ.get (i := 0) (t := tInts (some ⟨vb, voff, none⟩) vn vc vs) rfl
              rw [← HV0.out]; exact ints_cell hg hqv
            clear hsz h0 hd hcl2 cl hof
            unfold StepTo
            go_simp
            exact hK η w2 (by simp only [so 10 (by decide), so 11 (by decide), so 12 (by decide), so 15 (by decide)]; exact hJ) (fun _ _ _ => rfl)
          · obtain rfl := Option.some.inj ho
            have e74 : a.tmps[74]? = some (.int .u32 v0) := hR.reg 9 _ 74 rfl rfl (hd 9 (by kernel_rfl))
            have q11 := cl 11 10 (by kernel_rfl) hof
            have q12 := cl 12 11 (by kernel_rfl) q11
            clear hsz h0 hd hcl2 cl
            have hJ2 := hJ.boxIn (t := tNone) 7 #[.int .u32 v0] 27 (by unfold tsU; rw [hof]; rfl) rfl rfl
            unfold StepTo
            go_simp
            refine hK (w2.heap.size, η.2.1, η.2.2.1, η.2.2.2) _ ?_ (fun j hj hl => ?_)
            · simp only [se, so 11 (by decide), so 12 (by decide), so 15 (by decide)]
              unfold tsU at hJ2 ⊢
              simp only [hof, q11, q12, Bool.false_eq_true, if_false, if_true] at hJ2 ⊢
              exact hJ2
            · simp only [if_neg hj]
          · obtain rfl := Option.some.inj ho
            have e75 : a.tmps[75]? = some (.slice (some ⟨η.1, 0, none⟩) 1 1) := hR.reg 10 _ 75 rfl rfl (hd 10 (by kernel_rfl))
            have q12 := cl 12 11 (by kernel_rfl) hof
            have q10 := hd 10 (by kernel_rfl)
            clear hsz h0 hd hcl2 cl
            have hJ2 := hJ.boxIn (t := tNone) 8 #[.slice (some ⟨η.1, 0, none⟩) 1 1] 35 (by unfold tsU; rw [hof]; rfl) rfl rfl
            unfold StepTo
            go_simp
            refine hK (η.1, w2.heap.size, η.2.2.1, η.2.2.2) _ ?_ (fun j hj hl => ?_)
            · simp only [se, so 10 (by decide), so 12 (by decide), so 15 (by decide)]
              unfold tsU at hJ2 ⊢
              simp only [hof, q10, q12, Bool.false_eq_true, if_false, if_true] at hJ2 ⊢
              exact hJ2
            · simp only [if_neg hj]
          · obtain rfl := Option.some.inj ho
            have e69 : a.tmps[69]? = some (vV) := hR.reg 4 _ 69 rfl rfl (hd 4 (by kernel_rfl))
            have e76 : a.tmps[76]? = some (.slice (some ⟨η.2.1, 0, none⟩) 1 1) := hR.reg 11 _ 76 rfl rfl (hd 11 (by kernel_rfl))
            have q15 := cl 15 12 (by kernel_rfl) hof
            have q11 := hd 11 (by kernel_rfl)
            have q10 : l.getD 10 false = true := hcl2 11 10 (by kernel_rfl) q11
            obtain ⟨c5, hJ0⟩ := hJ
            have hrow : u32sE.Row c5 [8] w2 vV (allV true vs q) := by have := hJ0.get (i := 6) (by unfold tsU; rw [hof]; rfl); exact this
            have hb2 : Box w2 η.1 #[.int .u32 v0] ∧ c5 η.1 = [] := by have := hJ0.get (i := 7) (by unfold tsU; rw [q10]; rfl); exact this
            have hb3 : Box w2 η.2.1 #[.slice (some ⟨η.1, 0, none⟩) 1 1] ∧ c5 η.2.1 = [] := by have := hJ0.get (i := 8) (by unfold tsU; rw [q11]; rfl); exact this
            have hvl2 := allV_len true vs q
            clear hsz h0 hd hcl2 cl
            unfold StepTo
            refine u32sE.step_append rfl (.tmp 69) (.tmp 76) rfl vV (by simp [Act.eval, e69]) hrow hJ0.fresh (by simp) (some ⟨η.2.1, 0, none⟩) 1 1 (by simp [Act.eval, e76]) (N := [[v0]]) (Elt.At.one hb3.1 ⟨hb3.2, hb3.1.lt⟩ ⟨some ⟨η.1, 0, none⟩, 1, 1, rfl, ints_one hb2.1 (u32_wfC HVU.out) ⟨hb2.2, hb2.1.lt⟩⟩) (by omega) ?_
            intro B5 cap5 w5 c6 st hr
            refine hK (η.1, η.2.1, B5, cap5) w5 ?_ (fun j hj hl => by simp only [if_neg hj])
            have h5 := Sta.turn hJ0 (i := 6) (t := tRow u32sE [8] vV (allV true vs q)) (t' := tRow u32sE [8] (.slice B5 ((allV true vs q).length + 1) cap5) (allV true vs q ++ [[v0]])) (by unfold tsU; rw [hof]; rfl) (by simp [tRow]) rfl st hr rfl
            simp only [se, so 10 (by decide), so 11 (by decide), so 15 (by decide)]
            unfold tsU at h5 ⊢
            simp only [hof, q15, q11, q10, Bool.false_eq_true, if_false, if_true] at h5 ⊢
            exact h5
          · obtain rfl := Option.some.inj ho
            have e65 : a.tmps[65]? = some (.pointer (some ⟨ob, 0, none⟩)) := hR.reg 0 _ 65 rfl rfl (hd 0 (by kernel_rfl))
            clear hsz h0 hd hcl2 cl hof
            unfold StepTo
            go_simp
            exact hK η w2 (by simp only [so 10 (by decide), so 11 (by decide), so 12 (by decide), so 15 (by decide)]; exact hJ) (fun _ _ _ => rfl)
          · obtain rfl := Option.some.inj ho
            have e78 : a.tmps[78]? = some (.pointer (some ⟨ob, 0, none⟩)) := hR.reg 13 _ 78 rfl rfl (hd 13 (by kernel_rfl))
            clear hsz h0 hd hcl2 cl hof
            unfold StepTo
            go_simp
            exact hK η w2 (by simp only [so 10 (by decide), so 11 (by decide), so 12 (by decide), so 15 (by decide)]; exact hJ) (fun _ _ _ => rfl)
          · obtain rfl := Option.some.inj ho
            have e77 : a.tmps[77]? = some (.slice η.2.2.1 ((allV true vs q).length + 1) η.2.2.2) := hR.reg 12 _ 77 rfl rfl (hd 12 (by kernel_rfl))
            have e79 : a.tmps[79]? = some (.pointer (some ⟨ob, 5, none⟩)) := hR.reg 14 _ 79 rfl rfl (hd 14 (by kernel_rfl))
            have q12 := hd 12 (by kernel_rfl)
            have hJ2 := hJ.store (i := 4) (π := πo) (b := ob) 5 (.slice η.2.2.1 ((allV true vs q).length + 1) η.2.2.2) rfl hπo rfl
            have hbx := hJ.blk (i := 4) (π := πo) (b := ob) rfl
            simp only [hof, Bool.false_eq_true, if_false] at hbx
            have cbx : w2.cell? ⟨ob, 5, none⟩ = some vV := hbx.cell 5
            have fb := hbx.free; have zb := hbx.lt
            clear hsz h0 hd hcl2 cl hbx
            unfold StepTo
            go_simp
            refine hK η _ ?_ (fun _ _ _ => rfl)
            simp only [se, so 10 (by decide), so 11 (by decide), so 12 (by decide)]
            unfold tsU at hJ2 ⊢
            simp only [hof, q12, Bool.false_eq_true, if_false, if_true] at hJ2 ⊢
            exact hJ2
        case done9 =>
          intro l η a w2 hall hJ hR
          have ha := (hR.whole [some 65, some 66, some 67, some 68, some 69, some 70, some 71, some 72, some 73, some 74, some 75, some 76, some 77, some 78, some 79, none] rfl rfl (by kernel_rfl) hall).trans (b := _) (c := ⟨#[.pointer (some ⟨cb, 0, none⟩), .int .i64 (k : Int), .agg #[.int .u64 id, .int .u64 ver, .slice (some ⟨vb, voff, none⟩) vn vc], .agg #[.slice (some ⟨pb, poff, none⟩) pn pc, .slice lA ln lc], .bool true, undef, undef, .pointer (some ⟨rb, 0, none⟩), .pointer (some ⟨hb, 0, none⟩), undef, .int .i64 0, .slice none 0 0, .int .i64 0, .int .i64 ((on : Int) + 1), .pointer (some ⟨ob, 0, none⟩), .int .i64 (q : Int), .slice ps pm pk, undef, u18, undef, undef, .pointer (some ⟨cb, 0, none⟩), .int .i64 (k : Int), .pointer (some ⟨cb, 0, none⟩), .pointer (some ⟨cb, 1, none⟩), .pointer (some ⟨cb, 1 + k, none⟩), .slice OA on oc, .int .i64 (on : Int), .int .i64 ((on : Int) + 1), .int .i64 ((on : Int) + 1), .int .u64 ((on : Int) + 1), .pointer (some ⟨rb, 1, none⟩), .pointer (some ⟨rb, 0, none⟩), .int .u64 id, .map (some wm), .agg (opC 1 id (.slice none 0 0) wm (.slice none 0 0)), .pointer (some ⟨ob, 0, none⟩), .pointer (some ⟨hb, 0, none⟩), .slice (some ⟨pb, poff, none⟩) pn pc, .int .i64 (pn : Int), .int .i64 (q : Int), .bool true, .int .i64 (q : Int), .pointer (some ⟨pb, poff + q, none⟩), .slice ps pm pk, .bool true, .pointer (some ⟨ob, 0, none⟩), .pointer (some ⟨ob, 0, none⟩), .pointer (some ⟨ob, 0, none⟩), .pointer (some ⟨ob, 3, none⟩), vM, .int .i64 (k : Int), .int .i64 ((on : Int) + 1), .int .i64 (q : Int), .agg #[.int .u64 id, .int .u64 ((on : Int) + 1), .slice (some ⟨vb, voff, none⟩) vn vc], .pointer (some ⟨rb, 2, none⟩), .slice (some ⟨vb, voff, none⟩) vn vc, .int .i64 (q : Int), .pointer (some ⟨vb, voff + q, none⟩), .int .u32 v0, .agg #[.int .i64 1, .int .i64 (q : Int), .int .u32 0, .int .i64 (k : Int), .int .i64 ((on : Int) + 1), .int .u32 v0, .int .i64 0, .int .u32 0, .int .i64 0, .int .u32 v0, .int .u64 id, .int .u64 ((on : Int) + 1), .slice θ.1 θ.2.1 θ.2.2.1, .bool false, .int .u32 0, .int .u32 0, .slice none 0 0, .slice none 0 0], .slice (some ⟨θ.2.2.2.1, 0, none⟩) 1 1, .slice θ.2.2.2.2.1 ((allM k ((on : Int) + 1) id vs true P q).length + 1) θ.2.2.2.2.2, .pointer (some ⟨ob, 0, none⟩), .pointer (some ⟨ob, 3, none⟩), .pointer (some ⟨ob, 0, none⟩), .pointer (some ⟨ob, 0, none⟩), .pointer (some ⟨ob, 0, none⟩), .pointer (some ⟨ob, 5, none⟩), vV, .pointer (some ⟨rb, 2, none⟩), .slice (some ⟨vb, voff, none⟩) vn vc, .int .i64 (q : Int), .pointer (some ⟨vb, voff + q, none⟩), .int .u32 v0, .slice (some ⟨η.1, 0, none⟩) 1 1, .slice (some ⟨η.2.1, 0, none⟩) 1 1, .slice η.2.2.1 ((allV true vs q).length + 1) η.2.2.2, .pointer (some ⟨ob, 0, none⟩), .pointer (some ⟨ob, 5, none⟩), u80, u81, u82, u83, u84, u85, u86, u87, u88, u89, u90, u91, u92, u93, u94, u95, u96, u97, u98, u99, u100, u101, u102, u103, u104, u105, u106, u107, u108, u109, u110, u111, u112, u113, undef, undef, undef, undef, undef, undef, undef, undef, undef, undef, undef, undef, undef, undef, undef, undef, undef, undef, undef, undef, undef, undef, undef, undef, undef, undef, undef, undef, undef], []⟩) (by kernel_rfl)
          subst ha
          simp only [hall 10 (by show 10 < 16; omega), hall 11 (by show 11 < 16; omega), hall 12 (by show 12 < 16; omega), hall 15 (by show 15 < 16; omega)] at hJ
          have HJ2 := Lib.hid (tsU_end (hb := hb) (lA := lA) (ln := ln) (lk := lc) hJ)
          clear hR hall hJ
          have HJ3 := Lib.hid (show Sta W (tsW πo ob rb hb wm id ((on : Int) + 1) (some ⟨vb, voff, none⟩) vn vc vs (some ⟨pb, poff, none⟩) pn pc P lA ln lc (.slice θ.2.2.2.2.1 ((allM k ((on : Int) + 1) id vs true P q).length + 1) θ.2.2.2.2.2) (.slice η.2.2.1 ((allV true vs q).length + 1) η.2.2.2) ((allM k ((on : Int) + 1) id vs true P q) ++ [stM k ((on : Int) + 1) id vs q v0 false]) (allV true vs (q + 1)) (tInts ps pm pk pl :: ts)) w2 from by rw [allV_succ (by omega), HV0.out]; exact HJ2.out)
          obtain ⟨M1, hM1⟩ : ∃ M1, ((allM k ((on : Int) + 1) id vs true P q) ++ [stM k ((on : Int) + 1) id vs q v0 false]) = M1 := ⟨_, rfl⟩
          have HM1 := Lib.hid hM1
          have hm1l : M1.length ≤ 8009 := by rw [← hM1]; simp; omega
          rw [hM1] at HJ3
          clear hM1 HJ2 HJ HS1 HS
          obtain ⟨vV2, hvV2⟩ : ∃ vV2, Value.slice η.2.2.1 ((allV true vs q).length + 1) η.2.2.2 = vV2 := ⟨_, rfl⟩
          rw [hvV2] at HJ3
          clear hvV2
          go_wp2
          go_loopw [82] (fun s82 wr2 => ∃ (u : Nat) (vM2 : Value), u ≤ pm ∧ s82 = .int .i64 u ∧ Sta W (tsW πo ob rb hb wm id ((on : Int) + 1) (some ⟨vb, voff, none⟩) vn vc vs (some ⟨pb, poff, none⟩) pn pc P lA ln lc vM2 vV2 (M1 ++ partM k ((on : Int) + 1) id vs q v0 (pl.take u)) (allV true vs (q + 1)) (tInts ps pm pk pl :: ts)) wr2) (fun s _ => pm - (intOf s).toNat)
          case atStart => exact ⟨0, _, Nat.zero_le _, rfl, by simpa [partM] using HJ3.out⟩
          case round =>
            obtain ⟨u, vM2, hu2, rfl, hs2⟩ := hrel
            have HS2 := Lib.hid hs2
            clear HJ3
            by_cases hlu : u < pm
            · obtain ⟨v, hv⟩ : ∃ v, pl[u]? = some v := ⟨_, List.getElem?_eq_getElem (by omega)⟩
              have hvU : U32 v := HPU.out v (List.mem_of_getElem? hv)
              obtain ⟨c7, hiv⟩ := hs2.get (i := 7) (t := tInts ps pm pk pl) rfl
              obtain ⟨sb, soff, rfl, dsb, dsc⟩ := (show Ints wr (Quiet c7 wr) .u32 4 ps pm pk pl from hiv).2.2.2.2.2.2 (by omega)
              have d1 : wr.cell? ⟨sb, soff + u, none⟩ = some (.int .u32 v) := by rw [dsc u hlu, List.getD_eq_getElem?_getD, hv]; rfl
              have zsb := dsb.2
              have hbx := hs2.box (i := 2) (b := rb) rfl
              have cbx := hbx.cell; have fbx := hbx.free; have zbx := hbx.lt
              obtain ⟨c8, hg⟩ := hs2.get (i := 0) (t := tInts (some ⟨vb, voff, none⟩) vn vc vs) rfl
              have d2 : wr.cell? ⟨vb, voff + q, none⟩ = some (.int .u32 v0) := by rw [← HV0.out]; exact ints_cell hg hqv
              have zvb : vb < wr.heap.size := by
                obtain ⟨b9, o9, e9, h9, _⟩ := (show Ints wr (Quiet c8 wr) .u32 4 (some ⟨vb, voff, none⟩) vn vc vs from hg).2.2.2.2.2.2 (by omega)
                injection e9 with e9
                injection e9 with e9
                subst e9
                exact h9.2
              have HT := Lib.hid (partM_succ (client := k) (n := (on : Int) + 1) (id := id) (vs := vs) (hub := q) (v0 := v0) hv)
              clear hs2 hiv hbx hg dsc dsb
              by_cases he : v = v0
              · have he' : (v != v0) = false := by simp [he]
                rw [if_pos he] at HT
                clear he
                go_wp2
                go_roundw
                case rel => exact ⟨u + 1, vM2, by omega, by go_num, by rw [HT.out]; exact HS2.out⟩
                case measure => simp [intOf]; omega
              · have he' : (v != v0) = true := by simp [he]
                rw [if_neg he] at HT
                clear he
                obtain ⟨M2, hM2⟩ : ∃ M2, M1 ++ partM k ((on : Int) + 1) id vs q v0 (pl.take u) = M2 := ⟨_, rfl⟩
                have HM2 := Lib.hid hM2
                have hm2l : M2.length ≤ 10000 := by
                  have := partM_len k ((on : Int) + 1) id vs q v0 (pl.take u)
                  rw [← hM2, List.length_append]
                  have h9 : (pl.take u).length ≤ pl.length := by simp; omega
                  omega
                rw [hM2] at HS2
                have HVV := Lib.hid hvU
                go_upto_region 14 with fail
                clear hM2 cbx fbx zbx d1 d2 zsb zvb
                refine wp_regs (Θ := Option Addr × Nat × Nat × Nat × Option Addr × Nat) (by kernel_rfl) (by kernel_rfl) 143 rfl (by kernel_rfl) (fun ζ q9 => if q9 = 10 then .agg #[.int .i64 1, .int .i64 (q : Int), .int .u32 0, .int .i64 (k : Int), .int .i64 ((on : Int) + 1), .int .u32 v, .int .i64 0, .int .u32 0, .int .i64 0, .int .u32 v, .int .u64 id, .int .u64 ((on : Int) + 1), .slice ζ.1 ζ.2.1 ζ.2.2.1, .bool true, .int .u32 0, .int .u32 0, .slice none 0 0, .slice none 0 0] else if q9 = 11 then .slice (some ⟨ζ.2.2.2.1, 0, none⟩) 1 1 else if q9 = 12 then .slice ζ.2.2.2.2.1 (M2.length + 1) ζ.2.2.2.2.2 else ([.pointer (some ⟨ob, 0, none⟩), .pointer (some ⟨ob, 0, none⟩), .pointer (some ⟨ob, 0, none⟩), .pointer (some ⟨ob, 3, none⟩), vM2, .int .i64 (k : Int), .int .i64 ((on : Int) + 1), .int .i64 (q : Int), .agg #[.int .u64 id, .int .u64 ((on : Int) + 1), .slice (some ⟨vb, voff, none⟩) vn vc], .int .u32 v, undef, undef, undef, .pointer (some ⟨ob, 0, none⟩), .pointer (some ⟨ob, 3, none⟩), undef] : List Value).getD q9 undef)
                  (fun l ζ w2 => Sta W (tsV πo ob rb wm id ((on : Int) + 1) (some ⟨vb, voff, none⟩) vn vc vs (some ⟨pb, poff, none⟩) pn pc P vM2 vV2 M2 (allV true vs (q + 1)) (tInts (some ⟨sb, soff, none⟩) pm pk pl :: ts) k q v true (l.getD 10 false) (l.getD 11 false) (l.getD 12 false) (l.getD 15 false) ζ) w2) (none, 0, 0, 0, none, 0) ?start14 ?step14 ?done14
                case start14 => exact tsV_start k q v true _ (HS2.out.later (Same.drew _).1)
                case step14 =>
                  intro l ζ a w2 z o K5 ho h0 hsz hd hcl2 hJ hR hK
                  have hz : z < 16 := (Array.getElem?_eq_some_iff.1 ho).1
                  have hof := getD_ff h0
                  have cl : ∀ j k, Region.waitsFor .any _ j k = true → l.getD k false = false → l.getD j false = false := fun j k hw hk => by
                    cases hj : l.getD j false with
                    | false => rfl
                    | true => rw [hcl2 j k hw hj] at hk; cases hk
                  have so : ∀ k, z ≠ k → (l.setIfInBounds z true).getD k false = l.getD k false := fun k hk => getD_set_other hk
                  have se : (l.setIfInBounds z true).getD z false = true := getD_set_self (by rw [hsz]; exact (Array.getElem?_eq_some_iff.1 ho).1)
                  have hc : z = 0 ∨ z = 1 ∨ z = 2 ∨ z = 3 ∨ z = 4 ∨ z = 5 ∨ z = 6 ∨ z = 7 ∨ z = 8 ∨ z = 9 ∨ z = 10 ∨ z = 11 ∨ z = 12 ∨ z = 13 ∨ z = 14 ∨ z = 15 := by omega
                  rcases hc with rfl | rfl | rfl | rfl | rfl | rfl | rfl | rfl | rfl | rfl | rfl | rfl | rfl | rfl | rfl | rfl
                  · obtain rfl := Option.some.inj ho
                    have e14 : a.tmps[14]? = some (.pointer (some ⟨ob, 0, none⟩)) := (hR.outer 14 (by kernel_rfl)).trans rfl
                    clear hsz h0 hd hcl2 cl hof
                    unfold StepTo
                    go_simp
                    exact hK ζ w2 (by simp only [so 10 (by decide), so 11 (by decide), so 12 (by decide), so 15 (by decide)]; exact hJ) (fun _ _ _ => rfl)
                  · obtain rfl := Option.some.inj ho
                    have e14 : a.tmps[14]? = some (.pointer (some ⟨ob, 0, none⟩)) := (hR.outer 14 (by kernel_rfl)).trans rfl
                    clear hsz h0 hd hcl2 cl hof
                    unfold StepTo
                    go_simp
                    exact hK ζ w2 (by simp only [so 10 (by decide), so 11 (by decide), so 12 (by decide), so 15 (by decide)]; exact hJ) (fun _ _ _ => rfl)
                  · obtain rfl := Option.some.inj ho
                    have e98 : a.tmps[98]? = some (.pointer (some ⟨ob, 0, none⟩)) := hR.reg 1 _ 98 rfl rfl (hd 1 (by kernel_rfl))
                    clear hsz h0 hd hcl2 cl hof
                    unfold StepTo
                    go_simp
                    exact hK ζ w2 (by simp only [so 10 (by decide), so 11 (by decide), so 12 (by decide), so 15 (by decide)]; exact hJ) (fun _ _ _ => rfl)
                  · obtain rfl := Option.some.inj ho
                    have e99 : a.tmps[99]? = some (.pointer (some ⟨ob, 0, none⟩)) := hR.reg 2 _ 99 rfl rfl (hd 2 (by kernel_rfl))
                    clear hsz h0 hd hcl2 cl hof
                    unfold StepTo
                    go_simp
                    exact hK ζ w2 (by simp only [so 10 (by decide), so 11 (by decide), so 12 (by decide), so 15 (by decide)]; exact hJ) (fun _ _ _ => rfl)
                  · obtain rfl := Option.some.inj ho
                    have e100 : a.tmps[100]? = some (.pointer (some ⟨ob, 3, none⟩)) := hR.reg 3 _ 100 rfl rfl (hd 3 (by kernel_rfl))
                    have q12 := cl 12 4 (by kernel_rfl) hof
                    have q15 := cl 15 12 (by kernel_rfl) q12
                    have hbx := hJ.blk (i := 4) (π := πo) (b := ob) rfl
                    simp only [q15, Bool.false_eq_true, if_false] at hbx
                    have cbx : w2.cell? ⟨ob, 3, none⟩ = some vM2 := hbx.cell 3
                    have fb := hbx.free; have zb := hbx.lt
                    clear hbx
                    clear hsz h0 hd hcl2 cl hof
                    unfold StepTo
                    go_simp
                    exact hK ζ w2 (by simp only [so 10 (by decide), so 11 (by decide), so 12 (by decide), so 15 (by decide)]; exact hJ) (fun _ _ _ => rfl)
                  · obtain rfl := Option.some.inj ho
                    have e1 : a.tmps[1]? = some (.int .i64 (k : Int)) := (hR.outer 1 (by kernel_rfl)).trans rfl
                    clear hsz h0 hd hcl2 cl hof
                    unfold StepTo
                    go_simp
                    exact hK ζ w2 (by simp only [so 10 (by decide), so 11 (by decide), so 12 (by decide), so 15 (by decide)]; exact hJ) (fun _ _ _ => rfl)
                  · obtain rfl := Option.some.inj ho
                    have e13 : a.tmps[13]? = some (.int .i64 ((on : Int) + 1)) := (hR.outer 13 (by kernel_rfl)).trans rfl
                    clear hsz h0 hd hcl2 cl hof
                    unfold StepTo
                    go_simp
                    exact hK ζ w2 (by simp only [so 10 (by decide), so 11 (by decide), so 12 (by decide), so 15 (by decide)]; exact hJ) (fun _ _ _ => rfl)
                  · obtain rfl := Option.some.inj ho
                    have e15 : a.tmps[15]? = some (.int .i64 (q : Int)) := (hR.outer 15 (by kernel_rfl)).trans rfl
                    clear hsz h0 hd hcl2 cl hof
                    unfold StepTo
                    go_simp
                    exact hK ζ w2 (by simp only [so 10 (by decide), so 11 (by decide), so 12 (by decide), so 15 (by decide)]; exact hJ) (fun _ _ _ => rfl)
                  · obtain rfl := Option.some.inj ho
                    have e7 : a.tmps[7]? = some (.pointer (some ⟨rb, 0, none⟩)) := (hR.outer 7 (by kernel_rfl)).trans rfl
                    have hbx := hJ.box (i := 2) (b := rb) rfl
                    have cb := hbx.cell; have fb := hbx.free; have zb := hbx.lt
                    clear hbx
                    clear hsz h0 hd hcl2 cl hof
                    unfold StepTo
                    go_simp
                    exact hK ζ w2 (by simp only [so 10 (by decide), so 11 (by decide), so 12 (by decide), so 15 (by decide)]; exact hJ) (fun _ _ _ => rfl)
                  · obtain rfl := Option.some.inj ho
                    have e18 : a.tmps[18]? = some (.int .u32 v) := (hR.outer 18 (by kernel_rfl)).trans rfl
                    clear hsz h0 hd hcl2 cl hof
                    unfold StepTo
                    go_simp
                    exact hK ζ w2 (by simp only [so 10 (by decide), so 11 (by decide), so 12 (by decide), so 15 (by decide)]; exact hJ) (fun _ _ _ => rfl)
                  · obtain rfl := Option.some.inj ho
                    have e102 : a.tmps[102]? = some (.int .i64 (k : Int)) := hR.reg 5 _ 102 rfl rfl (hd 5 (by kernel_rfl))
                    have e103 : a.tmps[103]? = some (.int .i64 ((on : Int) + 1)) := hR.reg 6 _ 103 rfl rfl (hd 6 (by kernel_rfl))
                    have e104 : a.tmps[104]? = some (.int .i64 (q : Int)) := hR.reg 7 _ 104 rfl rfl (hd 7 (by kernel_rfl))
                    have e105 : a.tmps[105]? = some (.agg #[.int .u64 id, .int .u64 ((on : Int) + 1), .slice (some ⟨vb, voff, none⟩) vn vc]) := hR.reg 8 _ 105 rfl rfl (hd 8 (by kernel_rfl))
                    have e106 : a.tmps[106]? = some (.int .u32 v) := hR.reg 9 _ 106 rfl rfl (hd 9 (by kernel_rfl))
                    have q11 := cl 11 10 (by kernel_rfl) hof
                    have q12 := cl 12 11 (by kernel_rfl) q11
                    have HVI : Hid (Ints w2 (· < w2.heap.size) .u32 4 (some ⟨vb, voff, none⟩) vn vc vs) := by
                      obtain ⟨c5, hg⟩ := hJ.get (i := 0) (t := tInts (some ⟨vb, voff, none⟩) vn vc vs) rfl
                      exact hg.move fun b hb hl => ⟨rfl, hl⟩
                    clear hsz h0 hd hcl2 cl
                    unfold StepTo
                    go_simp
                    go_at_call 60
                    refine (store_any k ((on : Int) + 1) q id ((on : Int) + 1) v true w2 HVI.out (fun b hb => hb) hqv HVV.out HU.out).mono ?_
                    rintro e5 w5 ⟨s5, l5, k5, rfl, hi5, hb5⟩
                    refine hK (s5, l5, k5, ζ.2.2.2.1, ζ.2.2.2.2.1, ζ.2.2.2.2.2) w5 ?_ (fun j hj hl => ?_)
                    · have h5 := hJ.intsIn (t := tNone) 7 hb5 hi5 (by unfold tsV; rw [hof]; rfl) rfl rfl
                      simp only [se, so 11 (by decide), so 12 (by decide), so 15 (by decide)]
                      unfold tsV at h5 ⊢
                      simp only [hof, q11, q12, Bool.false_eq_true, if_false, if_true] at h5 ⊢
                      exact h5
                    · by_cases e7 : j = 11
                      · subst e7; exact absurd hl (by rw [q11]; exact Bool.false_ne_true)
                      · by_cases e8 : j = 12
                        · subst e8; exact absurd hl (by rw [q12]; exact Bool.false_ne_true)
                        · simp only [if_neg hj, if_neg e7, if_neg e8]
                  · obtain rfl := Option.some.inj ho
                    have e107 : a.tmps[107]? = some (.agg #[.int .i64 1, .int .i64 (q : Int), .int .u32 0, .int .i64 (k : Int), .int .i64 ((on : Int) + 1), .int .u32 v, .int .i64 0, .int .u32 0, .int .i64 0, .int .u32 v, .int .u64 id, .int .u64 ((on : Int) + 1), .slice ζ.1 ζ.2.1 ζ.2.2.1, .bool true, .int .u32 0, .int .u32 0, .slice none 0 0, .slice none 0 0]) := hR.reg 10 _ 107 rfl rfl (hd 10 (by kernel_rfl))
                    have q12 := cl 12 11 (by kernel_rfl) hof
                    have q10 := hd 10 (by kernel_rfl)
                    clear hsz h0 hd hcl2 cl
                    have hJ2 := hJ.boxIn (t := tNone) 8 #[.int .i64 1, .int .i64 (q : Int), .int .u32 0, .int .i64 (k : Int), .int .i64 ((on : Int) + 1), .int .u32 v, .int .i64 0, .int .u32 0, .int .i64 0, .int .u32 v, .int .u64 id, .int .u64 ((on : Int) + 1), .slice ζ.1 ζ.2.1 ζ.2.2.1, .bool true, .int .u32 0, .int .u32 0, .slice none 0 0, .slice none 0 0] 58 (by unfold tsV; rw [hof]; rfl) rfl rfl
                    unfold StepTo
                    go_simp
                    refine hK (ζ.1, ζ.2.1, ζ.2.2.1, w2.heap.size, ζ.2.2.2.2.1, ζ.2.2.2.2.2) _ ?_ (fun j hj hl => ?_)
                    · simp only [se, so 10 (by decide), so 12 (by decide), so 15 (by decide)]
                      unfold tsV at hJ2 ⊢
                      simp only [hof, q12, q10, Bool.false_eq_true, if_false, if_true] at hJ2 ⊢
                      exact hJ2
                    · by_cases e8 : j = 12
                      · subst e8; exact absurd hl (by rw [q12]; exact Bool.false_ne_true)
                      · simp only [if_neg hj, if_neg e8]
                  · obtain rfl := Option.some.inj ho
                    have e101 : a.tmps[101]? = some (vM2) := hR.reg 4 _ 101 rfl rfl (hd 4 (by kernel_rfl))
                    have e108 : a.tmps[108]? = some (.slice (some ⟨ζ.2.2.2.1, 0, none⟩) 1 1) := hR.reg 11 _ 108 rfl rfl (hd 11 (by kernel_rfl))
                    have q15 := cl 15 12 (by kernel_rfl) hof
                    have q11 := hd 11 (by kernel_rfl)
                    have q10 : l.getD 10 false = true := hcl2 11 10 (by kernel_rfl) q11
                    obtain ⟨c5, hJ0⟩ := hJ
                    have hrow : msgE.Row c5 [7] w2 vM2 M2 := by have := hJ0.get (i := 5) (by unfold tsV; rw [hof]; rfl); exact this
                    have hbox : Box w2 ζ.2.2.2.1 (storeCells k ((on : Int) + 1) q id ((on : Int) + 1) v true ζ.1 ζ.2.1 ζ.2.2.1).toArray ∧ c5 ζ.2.2.2.1 = [] := by have := hJ0.get (i := 8) (by unfold tsV; rw [q11]; rfl); exact this
                    have hint : Ints w2 (Quiet c5 w2) .u32 4 ζ.1 ζ.2.1 ζ.2.2.1 (vs.set q v) := by have := hJ0.get (i := 7) (by unfold tsV; rw [q10]; rfl); exact this
                    clear hsz h0 hd hcl2 cl
                    unfold StepTo
                    refine msgE.step_append rfl (.tmp 101) (.tmp 108) rfl vM2 (by simp [Act.eval, e101]) hrow hJ0.fresh (by simp) (some ⟨ζ.2.2.2.1, 0, none⟩) 1 1 (by simp [Act.eval, e108]) (N := [stM k ((on : Int) + 1) id vs q v true]) (Elt.At.one hbox.1 ⟨hbox.2, hbox.1.lt⟩ (stM_rd hint)) (by omega) ?_
                    intro B5 cap5 w5 c6 st hr
                    refine hK (ζ.1, ζ.2.1, ζ.2.2.1, ζ.2.2.2.1, B5, cap5) w5 ?_ (fun j hj hl => by simp only [if_neg hj])
                    have h5 := Sta.turn hJ0 (i := 5) (t := tRow msgE [7] vM2 M2) (t' := tRow msgE [7] (.slice B5 (M2.length + 1) cap5) (M2 ++ [stM k ((on : Int) + 1) id vs q v true])) (by unfold tsV; rw [hof]; rfl) (by simp [tRow]) rfl st hr rfl
                    simp only [se, so 10 (by decide), so 11 (by decide), so 15 (by decide)]
                    unfold tsV at h5 ⊢
                    simp only [hof, q15, q11, q10, Bool.false_eq_true, if_false, if_true] at h5 ⊢
                    exact h5
                  · obtain rfl := Option.some.inj ho
                    have e97 : a.tmps[97]? = some (.pointer (some ⟨ob, 0, none⟩)) := hR.reg 0 _ 97 rfl rfl (hd 0 (by kernel_rfl))
                    clear hsz h0 hd hcl2 cl hof
                    unfold StepTo
                    go_simp
                    exact hK ζ w2 (by simp only [so 10 (by decide), so 11 (by decide), so 12 (by decide), so 15 (by decide)]; exact hJ) (fun _ _ _ => rfl)
                  · obtain rfl := Option.some.inj ho
                    have e110 : a.tmps[110]? = some (.pointer (some ⟨ob, 0, none⟩)) := hR.reg 13 _ 110 rfl rfl (hd 13 (by kernel_rfl))
                    clear hsz h0 hd hcl2 cl hof
                    unfold StepTo
                    go_simp
                    exact hK ζ w2 (by simp only [so 10 (by decide), so 11 (by decide), so 12 (by decide), so 15 (by decide)]; exact hJ) (fun _ _ _ => rfl)
                  · obtain rfl := Option.some.inj ho
                    have e109 : a.tmps[109]? = some (.slice ζ.2.2.2.2.1 (M2.length + 1) ζ.2.2.2.2.2) := hR.reg 12 _ 109 rfl rfl (hd 12 (by kernel_rfl))
                    have e111 : a.tmps[111]? = some (.pointer (some ⟨ob, 3, none⟩)) := hR.reg 14 _ 111 rfl rfl (hd 14 (by kernel_rfl))
                    have q12 := hd 12 (by kernel_rfl)
                    have hJ2 := hJ.store (i := 4) (π := πo) (b := ob) 3 (.slice ζ.2.2.2.2.1 (M2.length + 1) ζ.2.2.2.2.2) rfl hπo rfl
                    have hbx := hJ.blk (i := 4) (π := πo) (b := ob) rfl
                    simp only [hof, Bool.false_eq_true, if_false] at hbx
                    have cbx : w2.cell? ⟨ob, 3, none⟩ = some vM2 := hbx.cell 3
                    have fb := hbx.free; have zb := hbx.lt
                    clear hsz h0 hd hcl2 cl hbx
                    unfold StepTo
                    go_simp
                    refine hK ζ _ ?_ (fun _ _ _ => rfl)
                    simp only [se, so 10 (by decide), so 11 (by decide), so 12 (by decide)]
                    unfold tsV at hJ2 ⊢
                    simp only [hof, q12, Bool.false_eq_true, if_false, if_true] at hJ2 ⊢
                    exact hJ2
                case done14 =>
                  intro l ζ a w2 hall hJ hR
                  have ha := (hR.whole [some 97, some 98, some 99, some 100, some 101, some 102, some 103, some 104, some 105, some 106, some 107, some 108, some 109, some 110, some 111, none] rfl rfl (by kernel_rfl) hall).trans (b := _) (c := ⟨#[.pointer (some ⟨cb, 0, none⟩), .int .i64 (k : Int), .agg #[.int .u64 id, .int .u64 ver, .slice (some ⟨vb, voff, none⟩) vn vc], .agg #[.slice (some ⟨pb, poff, none⟩) pn pc, .slice lA ln lc], .bool true, undef, undef, .pointer (some ⟨rb, 0, none⟩), .pointer (some ⟨hb, 0, none⟩), undef, .int .i64 0, .slice none 0 0, .int .i64 0, .int .i64 ((on : Int) + 1), .pointer (some ⟨ob, 0, none⟩), .int .i64 (q : Int), .slice (some ⟨sb, soff, none⟩) pm pk, undef, .int .u32 v, undef, undef, .pointer (some ⟨cb, 0, none⟩), .int .i64 (k : Int), .pointer (some ⟨cb, 0, none⟩), .pointer (some ⟨cb, 1, none⟩), .pointer (some ⟨cb, 1 + k, none⟩), .slice OA on oc, .int .i64 (on : Int), .int .i64 ((on : Int) + 1), .int .i64 ((on : Int) + 1), .int .u64 ((on : Int) + 1), .pointer (some ⟨rb, 1, none⟩), .pointer (some ⟨rb, 0, none⟩), .int .u64 id, .map (some wm), .agg (opC 1 id (.slice none 0 0) wm (.slice none 0 0)), .pointer (some ⟨ob, 0, none⟩), .pointer (some ⟨hb, 0, none⟩), .slice (some ⟨pb, poff, none⟩) pn pc, .int .i64 (pn : Int), .int .i64 (q : Int), .bool true, .int .i64 (q : Int), .pointer (some ⟨pb, poff + q, none⟩), .slice (some ⟨sb, soff, none⟩) pm pk, .bool true, .pointer (some ⟨ob, 0, none⟩), .pointer (some ⟨ob, 0, none⟩), .pointer (some ⟨ob, 0, none⟩), .pointer (some ⟨ob, 3, none⟩), vM, .int .i64 (k : Int), .int .i64 ((on : Int) + 1), .int .i64 (q : Int), .agg #[.int .u64 id, .int .u64 ((on : Int) + 1), .slice (some ⟨vb, voff, none⟩) vn vc], .pointer (some ⟨rb, 2, none⟩), .slice (some ⟨vb, voff, none⟩) vn vc, .int .i64 (q : Int), .pointer (some ⟨vb, voff + q, none⟩), .int .u32 v0, .agg #[.int .i64 1, .int .i64 (q : Int), .int .u32 0, .int .i64 (k : Int), .int .i64 ((on : Int) + 1), .int .u32 v0, .int .i64 0, .int .u32 0, .int .i64 0, .int .u32 v0, .int .u64 id, .int .u64 ((on : Int) + 1), .slice θ.1 θ.2.1 θ.2.2.1, .bool false, .int .u32 0, .int .u32 0, .slice none 0 0, .slice none 0 0], .slice (some ⟨θ.2.2.2.1, 0, none⟩) 1 1, .slice θ.2.2.2.2.1 ((allM k ((on : Int) + 1) id vs true P q).length + 1) θ.2.2.2.2.2, .pointer (some ⟨ob, 0, none⟩), .pointer (some ⟨ob, 3, none⟩), .pointer (some ⟨ob, 0, none⟩), .pointer (some ⟨ob, 0, none⟩), .pointer (some ⟨ob, 0, none⟩), .pointer (some ⟨ob, 5, none⟩), vV, .pointer (some ⟨rb, 2, none⟩), .slice (some ⟨vb, voff, none⟩) vn vc, .int .i64 (q : Int), .pointer (some ⟨vb, voff + q, none⟩), .int .u32 v0, .slice (some ⟨η.1, 0, none⟩) 1 1, .slice (some ⟨η.2.1, 0, none⟩) 1 1, .slice η.2.2.1 ((allV true vs q).length + 1) η.2.2.2, .pointer (some ⟨ob, 0, none⟩), .pointer (some ⟨ob, 5, none⟩), .slice (some ⟨sb, soff, none⟩) pm pk, .int .i64 (pm : Int), .int .i64 (u : Int), .bool true, .pointer (some ⟨sb, soff + u, none⟩), .int .u32 v, .bool true, .bool false, .bool false, .int .u32 v, .pointer (some ⟨rb, 2, none⟩), .slice (some ⟨vb, voff, none⟩) vn vc, .int .i64 (q : Int), .pointer (some ⟨vb, voff + q, none⟩), .int .u32 v0, .bool true, .bool true, .pointer (some ⟨ob, 0, none⟩), .pointer (some ⟨ob, 0, none⟩), .pointer (some ⟨ob, 0, none⟩), .pointer (some ⟨ob, 3, none⟩), vM2, .int .i64 (k : Int), .int .i64 ((on : Int) + 1), .int .i64 (q : Int), .agg #[.int .u64 id, .int .u64 ((on : Int) + 1), .slice (some ⟨vb, voff, none⟩) vn vc], .int .u32 v, .agg #[.int .i64 1, .int .i64 (q : Int), .int .u32 0, .int .i64 (k : Int), .int .i64 ((on : Int) + 1), .int .u32 v, .int .i64 0, .int .u32 0, .int .i64 0, .int .u32 v, .int .u64 id, .int .u64 ((on : Int) + 1), .slice ζ.1 ζ.2.1 ζ.2.2.1, .bool true, .int .u32 0, .int .u32 0, .slice none 0 0, .slice none 0 0], .slice (some ⟨ζ.2.2.2.1, 0, none⟩) 1 1, .slice ζ.2.2.2.2.1 (M2.length + 1) ζ.2.2.2.2.2, .pointer (some ⟨ob, 0, none⟩), .pointer (some ⟨ob, 3, none⟩), u112, u113, undef, undef, undef, undef, undef, undef, undef, undef, undef, undef, undef, undef, undef, undef, undef, undef, undef, undef, undef, undef, undef, undef, undef, undef, undef, undef, undef, undef, undef], []⟩) (by kernel_rfl)
                  subst ha
                  simp only [hall 10 (by show 10 < 16; omega), hall 11 (by show 11 < 16; omega), hall 12 (by show 12 < 16; omega), hall 15 (by show 15 < 16; omega)] at hJ
                  have HJ := Lib.hid (tsV_end (hb := hb) (lA := lA) (ln := ln) (lk := lc) hJ)
                  clear hR hall hJ
                  go_wp2
                  refine ⟨?_, ?meas2⟩
                  · repeat (refine ⟨(undef : Value), ?_⟩)
                    exact ⟨u + 1, .slice ζ.2.2.2.2.1 (M2.length + 1) ζ.2.2.2.2.2, by omega, by go_num, by rw [HT.out, ← List.append_assoc, HM2.out]; exact HJ.out⟩
                  · simp [intOf]; omega
            · have HEq : Hid (pl.take u = pl) := List.take_of_length_le (by omega)
              rw [HEq.out] at HS2
              have HN1 := Lib.hid (show Sta W (tsW πo ob rb hb wm id ((on : Int) + 1) (some ⟨vb, voff, none⟩) vn vc vs (some ⟨pb, poff, none⟩) pn pc P lA ln lc vM2 vV2 (allM k ((on : Int) + 1) id vs true P (q + 1)) (allV true vs (q + 1)) ts) wr from by
                rw [hub_part HV0.out HPL.out, HM1.out]
                refine HS2.out.pick ?_
                unfold tsW
                exact (List.Sublist.refl _).append (.cons _ (List.Sublist.refl _)))
              clear HS2 hs2
              go_wp2
              refine ⟨?_, ?meas⟩
              · iterate 77 (apply Exists.intro)
                exact ⟨⟨q + 1, vM2, vV2, by omega, by go_num, HN1.out⟩, rfl⟩
              · simp [intOf]; omega
    · obtain rfl : q = pn := by omega
      have hml := allM_len (client := k) (n := (on : Int) + 1) (id := id) (vs := vs) (put := true) (P := P) (fun q p h => (HP.out q p h).1) q
      obtain ⟨M3, hM3⟩ : ∃ M3, allM k ((on : Int) + 1) id vs true P q = M3 := ⟨_, rfl⟩
      rw [hM3] at HS hml
      have HM3 := Lib.hid hM3
      obtain ⟨MA, mc, rfl, m1, m2, m3, _, _⟩ := HS.out.rowAt (i := 5) (E := msgE) (l := M3) rfl
      obtain ⟨VA2, vc2, rfl, _⟩ := HS.out.rowAt (i := 6) (E := u32sE) (l := allV true vs q) rfl
      have HW := Lib.hid (show Sta W (tMapN [9] wm 0 :: tBlk πo ob (opC 1 id (.slice MA M3.length mc) wm (.slice VA2 (allV true vs q).length vc2)) :: tAt msgE MA M3.length mc M3 :: ts) wr from by
        refine ((HS.out.freeze (i := 5) (π := [7]) (E := msgE) (l := M3) rfl (by simp) rfl).pick ?_)
        unfold tsW
        simp only [List.cons_append, List.nil_append, List.set_cons_succ, List.set_cons_zero]
        exact .cons _ (.cons _ (.cons _ (.cons_cons _ (.cons_cons _ (.cons_cons _ (.cons _ (List.Sublist.refl _))))))))
      have hbx := HW.out.blk (i := 1) (π := πo) (b := ob) rfl
      have cbx := hbx.cell; have fbx := hbx.free; have zbx := hbx.lt
      clear hM3 HS hs HSX hbx
      go_wp2
      go_loopw [119] (fun s119 w3 => ∃ u : Nat, u ≤ M3.length ∧ s119 = .int .i64 u ∧ Sta W (tMapN [9] wm u :: tBlk πo ob (opC 1 id (.slice MA M3.length mc) wm (.slice VA2 (allV true vs q).length vc2)) :: tAt msgE MA M3.length mc M3 :: ts) w3) (fun s _ => M3.length - (intOf s).toNat)
      case atStart => exact ⟨0, Nat.zero_le _, rfl, HW.out⟩
      case round =>
        obtain ⟨u, hu3, rfl, hs3⟩ := hrel
        have HS3 := Lib.hid hs3
        clear HW
        by_cases hlu : u < M3.length
        · obtain ⟨m, hm⟩ : ∃ m, M3[u]? = some m := ⟨_, List.getElem?_eq_getElem hlu⟩
          obtain ⟨_, _, _, _, h5⟩ := hs3.at (i := 2) (E := msgE) rfl
          obtain ⟨mb, moff, rfl, zmb, hcm⟩ := h5 (by omega)
          obtain ⟨cs, hcs, s0, l0, k0, bA, bn, bc, rA, rn, rk, rfl, _⟩ := hcm u m hm
          have hmid : wr.rangeAt mb (moff + u * 18) (msgCells m s0 l0 k0 bA bn bc rA rn rk) := fun j v hj => hcs j v hj
          have HMID := Lib.hid hmid
          clear hs3 h5 hcm hcs hmid cbx fbx zbx
          go_upto_region 20 with (first
            | (refine wpList_load_mid rfl _ _ rfl mb (moff + u * 18) rfl _ _ HMID.out Tryz.underlying58 rfl (by kernel_rfl) ?_)
            | (refine wpList_store_row rfl _ _ _ rfl wr.heap.size (msgCells m s0 l0 k0 bA bn bc rA rn rk).toArray rfl rfl 58 zeroM (BoxT.new wr zeroM _) (by kernel_rfl) rfl (msg_one m s0 l0 k0 bA bn bc rA rn rk) ?_))
          refine wp_abs (fun wx => Sta W (tBox wr.heap.size (msgCells m s0 l0 k0 bA bn bc rA rn rk).toArray :: tMapN [9] wm u :: tBlk πo ob (opC 1 id (.slice (some ⟨mb, moff, none⟩) M3.length mc) wm (.slice VA2 (allV true vs q).length vc2)) :: tAt msgE (some ⟨mb, moff, none⟩) M3.length mc M3 :: ts) wx) (HS3.out.rowNew zeroM _ _) ?_
          generalize wr.heap.size = cp
          intro wx hsx
          have HSX := Lib.hid hsx
          obtain ⟨hh1, hh2, hh3⟩ := allM_spots (client := k) (n := (on : Int) + 1) (id := id) HU.out (fun q p h => (HP.out q p h).2) (q := q) (by omega) m (by rw [HM3.out]; exact List.mem_of_getElem? hm)
          have HTG := Lib.hid hh3
          clear hsx HS3 HMID hh3

          refine wp_regs (Θ := Unit) (by kernel_rfl) (by kernel_rfl) 143 rfl (by kernel_rfl) (fun _ q9 => ([.pointer (some ⟨ob, 0, none⟩), .pointer (some ⟨ob, 0, none⟩), .pointer (some ⟨ob, 4, none⟩), .map (some wm), .pointer (some ⟨cp, 1, none⟩), .int .i64 m.hub, .pointer (some ⟨cp, 5, none⟩), .int .u32 m.target, .agg #[.int .i64 m.hub, .int .u32 m.target], undef] : List Value).getD q9 undef)
            (fun l _ w2 => Sta W (tBox cp (msgCells m s0 l0 k0 bA bn bc rA rn rk).toArray :: tMapN [9] wm (if l.getD 9 false = true then u + 1 else u) :: tBlk πo ob (opC 1 id (.slice (some ⟨mb, moff, none⟩) M3.length mc) wm (.slice VA2 (allV true vs q).length vc2)) :: tAt msgE (some ⟨mb, moff, none⟩) M3.length mc M3 :: ts) w2) () ?start20 ?step20 ?done20
          case start20 => exact HSX.out.later (Same.drew _).1
          case step20 =>
            intro l θ a w2 z o K5 ho h0 hsz hd hcl2 hJ hR hK
            have hz : z < 10 := (Array.getElem?_eq_some_iff.1 ho).1
            have hof := getD_ff h0
            have cl : ∀ j k, Region.waitsFor .any _ j k = true → l.getD k false = false → l.getD j false = false := fun j k hw hk => by
              cases hj : l.getD j false with
              | false => rfl
              | true => rw [hcl2 j k hw hj] at hk; cases hk
            have so : ∀ k, z ≠ k → (l.setIfInBounds z true).getD k false = l.getD k false := fun k hk => getD_set_other hk
            have se : (l.setIfInBounds z true).getD z false = true := getD_set_self (by rw [hsz]; exact (Array.getElem?_eq_some_iff.1 ho).1)
            have hc : z = 0 ∨ z = 1 ∨ z = 2 ∨ z = 3 ∨ z = 4 ∨ z = 5 ∨ z = 6 ∨ z = 7 ∨ z = 8 ∨ z = 9 := by omega
            rcases hc with rfl | rfl | rfl | rfl | rfl | rfl | rfl | rfl | rfl | rfl
            · obtain rfl := Option.some.inj ho
              have e14 : a.tmps[14]? = some (.pointer (some ⟨ob, 0, none⟩)) := (hR.outer 14 (by kernel_rfl)).trans rfl
              clear hsz h0 hd hcl2 cl hof
              unfold StepTo
              go_simp
              exact hK () w2 (by simp only [so 9 (by decide)]; exact hJ) (fun _ _ _ => rfl)
            · obtain rfl := Option.some.inj ho
              have e123 : a.tmps[123]? = some (.pointer (some ⟨ob, 0, none⟩)) := hR.reg 0 _ 123 rfl rfl (hd 0 (by kernel_rfl))
              clear hsz h0 hd hcl2 cl hof
              unfold StepTo
              go_simp
              exact hK () w2 (by simp only [so 9 (by decide)]; exact hJ) (fun _ _ _ => rfl)
            · obtain rfl := Option.some.inj ho
              have e124 : a.tmps[124]? = some (.pointer (some ⟨ob, 0, none⟩)) := hR.reg 1 _ 124 rfl rfl (hd 1 (by kernel_rfl))
              clear hsz h0 hd hcl2 cl hof
              unfold StepTo
              go_simp
              exact hK () w2 (by simp only [so 9 (by decide)]; exact hJ) (fun _ _ _ => rfl)
            · obtain rfl := Option.some.inj ho
              have e125 : a.tmps[125]? = some (.pointer (some ⟨ob, 4, none⟩)) := hR.reg 2 _ 125 rfl rfl (hd 2 (by kernel_rfl))
              have hbx := hJ.blk (i := 2) (π := πo) (b := ob) rfl
              have cbx : w2.cell? ⟨ob, 4, none⟩ = some (.map (some wm)) := hbx.cell 4
              have fbx := hbx.free; have zbx := hbx.lt
              clear hbx
              clear hsz h0 hd hcl2 cl hof
              unfold StepTo
              go_simp
              exact hK () w2 (by simp only [so 9 (by decide)]; exact hJ) (fun _ _ _ => rfl)
            · obtain rfl := Option.some.inj ho
              have e20 : a.tmps[20]? = some (.pointer (some ⟨cp, 0, none⟩)) := (hR.outer 20 (by kernel_rfl)).trans rfl
              clear hsz h0 hd hcl2 cl hof
              unfold StepTo
              go_simp
              exact hK () w2 (by simp only [so 9 (by decide)]; exact hJ) (fun _ _ _ => rfl)
            · obtain rfl := Option.some.inj ho
              have e127 : a.tmps[127]? = some (.pointer (some ⟨cp, 1, none⟩)) := hR.reg 4 _ 127 rfl rfl (hd 4 (by kernel_rfl))
              have hbx := hJ.box (i := 0) (b := cp) rfl
              have cbx : w2.cell? ⟨cp, 1, none⟩ = some (.int .i64 m.hub) := hbx.cell 1
              have fbx := hbx.free; have zbx := hbx.lt
              clear hbx
              clear hsz h0 hd hcl2 cl hof
              unfold StepTo
              go_simp
              exact hK () w2 (by simp only [so 9 (by decide)]; exact hJ) (fun _ _ _ => rfl)
            · obtain rfl := Option.some.inj ho
              have e20 : a.tmps[20]? = some (.pointer (some ⟨cp, 0, none⟩)) := (hR.outer 20 (by kernel_rfl)).trans rfl
              clear hsz h0 hd hcl2 cl hof
              unfold StepTo
              go_simp
              exact hK () w2 (by simp only [so 9 (by decide)]; exact hJ) (fun _ _ _ => rfl)
            · obtain rfl := Option.some.inj ho
              have e129 : a.tmps[129]? = some (.pointer (some ⟨cp, 5, none⟩)) := hR.reg 6 _ 129 rfl rfl (hd 6 (by kernel_rfl))
              have hbx := hJ.box (i := 0) (b := cp) rfl
              have cbx : w2.cell? ⟨cp, 5, none⟩ = some (.int .u32 m.target) := hbx.cell 5
              have fbx := hbx.free; have zbx := hbx.lt
              clear hbx
              clear hsz h0 hd hcl2 cl hof
              unfold StepTo
              go_simp
              exact hK () w2 (by simp only [so 9 (by decide)]; exact hJ) (fun _ _ _ => rfl)
            · obtain rfl := Option.some.inj ho
              have e128 : a.tmps[128]? = some (.int .i64 m.hub) := hR.reg 5 _ 128 rfl rfl (hd 5 (by kernel_rfl))
              have e130 : a.tmps[130]? = some (.int .u32 m.target) := hR.reg 7 _ 130 rfl rfl (hd 7 (by kernel_rfl))
              clear hsz h0 hd hcl2 cl hof
              unfold StepTo
              go_simp
              exact hK () w2 (by simp only [so 9 (by decide)]; exact hJ) (fun _ _ _ => rfl)
            · obtain rfl := Option.some.inj ho
              have e126 : a.tmps[126]? = some (.map (some wm)) := hR.reg 3 _ 126 rfl rfl (hd 3 (by kernel_rfl))
              have e131 : a.tmps[131]? = some (.agg #[.int .i64 m.hub, .int .u32 m.target]) := hR.reg 8 _ 131 rfl rfl (hd 8 (by kernel_rfl))
              obtain ⟨w5, hrun, h5⟩ := hJ.mapSet (i := 1) (π := [9]) (mb := wm) (N := u) (x := m.hub) (y := m.target) (by rw [hof]; rfl) (by simp) (by omega) (by omega) (by omega) HTG.out
              clear hsz h0 hd hcl2 cl
              unfold StepTo
              go_simp
              refine hK () w5 ?_ (fun _ _ _ => rfl)
              simp only [se, if_true]
              exact h5
          case done20 =>
            intro l θ a w2 hall hJ hR
            have ha := (hR.whole [some 123, some 124, some 125, some 126, some 127, some 128, some 129, some 130, some 131, none] rfl rfl (by kernel_rfl) hall).trans (b := _) (c := ⟨#[.pointer (some ⟨cb, 0, none⟩), .int .i64 (k : Int), .agg #[.int .u64 id, .int .u64 ver, .slice vA vn vc], .agg #[.slice pA q pc, .slice lA ln lc], .bool true, undef, undef, .pointer (some ⟨rb, 0, none⟩), .pointer (some ⟨hb, 0, none⟩), undef, .int .i64 0, .slice none 0 0, .int .i64 0, .int .i64 ((on : Int) + 1), .pointer (some ⟨ob, 0, none⟩), u15, u16, undef, u18, undef, .pointer (some ⟨cp, 0, none⟩), .pointer (some ⟨cb, 0, none⟩), .int .i64 (k : Int), .pointer (some ⟨cb, 0, none⟩), .pointer (some ⟨cb, 1, none⟩), .pointer (some ⟨cb, 1 + k, none⟩), .slice OA on oc, .int .i64 (on : Int), .int .i64 ((on : Int) + 1), .int .i64 ((on : Int) + 1), .int .u64 ((on : Int) + 1), .pointer (some ⟨rb, 1, none⟩), .pointer (some ⟨rb, 0, none⟩), .int .u64 id, .map (some wm), .agg (opC 1 id (.slice none 0 0) wm (.slice none 0 0)), .pointer (some ⟨ob, 0, none⟩), .pointer (some ⟨hb, 0, none⟩), .slice pA q pc, .int .i64 (q : Int), .int .i64 (q : Int), .bool false, u42, u43, u44, u45, u46, u47, u48, u49, u50, u51, u52, u53, u54, u55, u56, u57, u58, u59, u60, u61, u62, u63, u64, u65, u66, u67, u68, u69, u70, u71, u72, u73, u74, u75, u76, u77, u78, u79, u80, u81, u82, u83, u84, u85, u86, u87, u88, u89, u90, u91, u92, u93, u94, u95, u96, u97, u98, u99, u100, u101, u102, u103, u104, u105, u106, u107, u108, u109, u110, u111, u112, u113, .pointer (some ⟨ob, 0, none⟩), .pointer (some ⟨ob, 0, none⟩), .pointer (some ⟨ob, 3, none⟩), .slice (some ⟨mb, moff, none⟩) M3.length mc, .int .i64 (M3.length : Int), .int .i64 (u : Int), .bool true, .pointer (some ⟨mb, moff + u * 18, none⟩), .agg (msgCells m s0 l0 k0 bA bn bc rA rn rk).toArray, .pointer (some ⟨ob, 0, none⟩), .pointer (some ⟨ob, 0, none⟩), .pointer (some ⟨ob, 4, none⟩), .map (some wm), .pointer (some ⟨cp, 1, none⟩), .int .i64 m.hub, .pointer (some ⟨cp, 5, none⟩), .int .u32 m.target, .agg #[.int .i64 m.hub, .int .u32 m.target], u132, undef, undef, undef, undef, undef, undef, undef, undef, undef, undef], []⟩) (by kernel_rfl)
            subst ha
            simp only [hall 9 (by show 9 < 10; omega), if_true] at hJ
            have HN3 := Lib.hid (hJ.pick (.cons _ (List.Sublist.refl _)))
            clear hR hall hJ HSX
            go_wp2
            go_roundw
            case rel => exact ⟨u + 1, by omega, by go_num, HN3.out⟩
            case measure => simp [intOf]; omega
        · clear hs3
          have hil := (List.getElem?_eq_some_iff.1 HI.out).1
          go_upto_region 23 with (go_at_call 35; go_loud (refine (cli_begin (i + 3) (j + 3) hk HS3.out (show (tMapN [9] wm u :: tBlk πo ob (opC 1 id (.slice MA M3.length mc) wm (.slice VA2 (allV true vs q).length vc2)) :: tAt msgE MA M3.length mc M3 :: ts)[i + 3]? = _ from HI.out) hπ HC.out (show (tMapN [9] wm u :: tBlk πo ob (opC 1 id (.slice MA M3.length mc) wm (.slice VA2 (allV true vs q).length vc2)) :: tAt msgE MA M3.length mc M3 :: ts)[j + 3]? = _ from HJ.out) hA (by omega)).mono ?_; rintro e8 w8 ⟨A8, c8, rfl, hs8⟩; have S8 := Lib.hid (show Sta W (tMapN [9] wm u :: tBlk πo ob (opC 1 id (.slice MA M3.length mc) wm (.slice VA2 (allV true vs q).length vc2)) :: tAt msgE MA M3.length mc M3 :: (ts.set i (tBlk π cb (C.setIfInBounds (1 + k) (.slice A8 (on + 1) c8))) ++ [tAt ptrE A8 (on + 1) c8 (bs ++ [ob])])) w8 from hs8); clear hs8))
          have hbx := S8.out.blk (i := 1) (π := πo) (b := ob) rfl
          have cbx : w8.cell? ⟨ob, 3, none⟩ = some (.slice MA M3.length mc) := hbx.cell 3
          have fbx := hbx.free; have zbx := hbx.lt
          clear hbx HS3
          have hcol : ∀ x ∈ (tMapN [9] wm u :: tBlk πo ob (opC 1 id (.slice MA M3.length mc) wm (.slice VA2 (allV true vs q).length vc2)) :: tAt msgE MA M3.length mc M3 :: (ts.set i (tBlk π cb (C.setIfInBounds (1 + k) (.slice A8 (on + 1) c8))) ++ [tAt ptrE A8 (on + 1) c8 (bs ++ [ob])])), x.π ≠ [7] := fun x hx => by
            simp only [List.mem_cons, List.mem_append, List.not_mem_nil, or_false] at hx
            rcases hx with rfl | rfl | rfl | hx | rfl
            · simp [tMapN]
            · exact hπo2.1
            · simp [tAt]
            · rcases List.mem_or_eq_of_mem_set hx with hx | rfl
              · exact (HHO.out x hx).2.1
              · exact (HHO.out _ (List.mem_of_getElem? HI.out)).2.1
            · simp [tAt]
          have HCOL := Lib.hid hcol
          clear hcol
          go_wp2_with (go_at_call 40; go_loud (refine (cli_own [7] S8.out (by simp) HCOL.out (fun c h => h.data (i := 2) rfl) (by omega)).mono ?_; rintro e9 w9 ⟨B9, c9, rfl, hs9⟩; have S9 := Lib.hid hs9; clear hs9))
          refine bodyPost_ret (v := .tuple #[.int .i64 ((on : Int) + 1), .slice B9 M3.length c9, .int .i64 0]) (by simp [results, Tryz.results28, go_sem]) rfl ?_
          refine ⟨A8, c8, B9, c9, ob, wm, .slice MA M3.length mc, .slice VA2 (allV true vs q).length vc2, by rw [HM3.out], ?_⟩
          rw [HM3.out]
          have h9 := S9.out.pick (ts' := tBlk πo ob (opC 1 id (.slice MA M3.length mc) wm (.slice VA2 (allV true vs q).length vc2)) :: (ts.set i (tBlk π cb (C.setIfInBounds (1 + k) (.slice A8 (on + 1) c8))) ++ [tAt ptrE A8 (on + 1) c8 (bs ++ [ob]), tAt msgE B9 M3.length c9 M3])) (by
            simp only [List.cons_append, List.append_assoc, List.nil_append]
            exact .cons _ (.cons_cons _ (.cons _ (List.Sublist.refl _))))
          exact h9.perm' List.perm_middle.symm
end Go.Proofs.YtdpamikobmefeaaGreat
