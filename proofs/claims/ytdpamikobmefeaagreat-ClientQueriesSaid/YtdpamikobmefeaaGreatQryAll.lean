/- message.Right of an answer. Conditions: its records may be. | The client: a query's message. Conditions: it is one. | The client: Query of a box that has something. Conditions: it is one. | The client: Hear of an answer. Conditions: its records may be. | The client: Hear. Conditions: the message is an answer that may be. | The client: Outcome of a query that waits, or was given up. Conditions: it is one. | The client: GiveUp and Retry of a query. Conditions: it is one. -/
import Derived.Test.YtdpamikobmefeaaGreatCovAll
import Derived.Deep.MidRow
import Derived.Test.YtdpamikobmefeaaGreatCliO
namespace Go.Proofs.YtdpamikobmefeaaGreat
open Go.RowKit Go.ChangeShapes
set_option maxRecDepth 100000
set_option linter.unusedVariables false
set_option linter.unusedSimpArgs false

theorem Box.range {w : World} {b : Nat} {C : Array Value} (h : Box w b C) : w.rangeAt b 0 C.toList := fun j v hj => by rw [Nat.zero_add, h.cell, ← Array.getElem?_toList]; exact hj
/-- A load of a struct, behind a guard that holds. -/
theorem wpList_load_midG {P : Program} {ops : Array Oper} {rest : List Oper} {op : Oper} {a : Act} {w : World} {Q : Exit → Act → World → Prop} (hw : Region.wanted op (yielded ops a.tmps) = true) (ty : TypeId) (x : Operand) (ho : op.op = .load ty x)
    (b o : Nat) (hx : a.eval x = .pointer (some ⟨b, o, none⟩)) (cs : List Value) (d : TypeDesc) (hc : w.rangeAt b o cs)
    (hu : P.underlying ty = some d) (hd : d.isRow = true) (hi : (P.info? ty).map (·.size) = some cs.length)
    (h : wpList P ops Q rest (a.put op.dst (.agg cs.toArray)) w) : wpList P ops Q (op :: rest) a w :=
  wpList_step fun K hK => by rw [if_pos hw]; exact wp_load_mid ty x ho b o hx cs d hc hu hd hi (hK _ _ h)
theorem within_yes {v f t : Int} (h1 : f ≤ v) (h2 : v ≤ t) (w : World) : Calls Tryz.prog 78 #[.int .i64 v, .int .i64 f, .int .i64 t] w fun e w' => e = .returned (.bool true) ∧ w = w' := by
  have d1 : decide (f ≤ v) = true := decide_eq_true h1
  have d2 : decide (v ≤ t) = true := decide_eq_true h2
  go_enter Tryz.func78, Tryz.ntmps78
  go_wp2
  go_ret
  exact ⟨rfl, by first | rfl | trivial⟩
theorem entry_six (w : World) : Calls Tryz.prog 103 #[.int .i64 6] w fun e w' => e = .returned (.bool false) ∧ w = w' := by
  go_enter Tryz.func103, Tryz.ntmps103
  go_wp2
  go_ret
  exact ⟨rfl, by first | rfl | trivial⟩
theorem hops_six (w : World) : Calls Tryz.prog 79 #[.int .i64 6] w fun e w' => e = .returned (.bool false) ∧ w = w' := by
  go_enter Tryz.func79, Tryz.ntmps79
  go_wp2
  go_ret
  exact ⟨rfl, by first | rfl | trivial⟩
theorem between_six (w : World) : Calls Tryz.prog 80 #[.int .i64 6] w fun e w' => e = .returned (.bool false) ∧ w = w' := by
  go_enter Tryz.func80, Tryz.ntmps80
  go_wp2
  go_ret
  exact ⟨rfl, by first | rfl | trivial⟩
theorem none_yes (w : World) : Calls Tryz.prog 104 #[.agg #[.int .u32 0, .int .u64 0, .int .u64 0, .slice none 0 0, .bool false]] w fun e w' => e = .returned (.bool true) ∧ Below w.heap.size w w' := by
  go_enter Tryz.func104, Tryz.ntmps104
  go_wp2
  go_ret
  exact ⟨rfl, (by repeat (first | exact Below.refl _ _ | assumption | apply Below.drew | apply belowN | (refine Below.alloc ?_ (by first | exact Nat.le_refl _ | (simp; done) | (simp; omega)) _) | (refine Below.setCell ?_ (by first | exact Nat.le_refl _ | (simp; done) | (simp; omega)) _)))⟩
/-- An answer's cells. -/
abbrev ansC (hub k n sf st : Int) (RA : Option Addr) (rn rc : Nat) : Array Value := #[.int .i64 6, .int .i64 hub, .int .u32 0, .int .i64 k, .int .i64 n, .int .u32 0, .int .i64 0, .int .u32 0, .int .i64 0, .int .u32 0, .int .u64 0, .int .u64 0, .slice none 0 0, .bool false, .int .u32 sf, .int .u32 st, .slice none 0 0, .slice RA rn rc]
set_option maxHeartbeats 8000000 in
theorem held_ans (attrs hub k n sf st : Int) (RA : Option Addr) (rn rc : Nat) (w : World) : Calls Tryz.prog 81 #[.int .i64 attrs, .agg (ansC hub k n sf st RA rn rc)] w fun e w' => e = .returned (.bool true) ∧ Below w.heap.size w w' := by
  go_enter Tryz.func81, Tryz.ntmps81
  go_wp2_with (first
    | (go_at_call 103; go_loud (refine (entry_six _).mono ?_; rintro e1 w1 ⟨rfl, rfl⟩))
    | (go_at_call 104; go_loud (refine (none_yes _).mono ?_; rintro e2 w2 ⟨rfl, hb2⟩; have HB := Lib.hid (below_thru hb2); have S2 := Lib.hid hb2; have z5 := (hb2.cell (p := ⟨w.heap.size, 5, none⟩) (by simp)).trans ((Box.new w (ansC hub k n sf st RA rn rc) 58).cell 5); clear hb2)))
  go_ret
  exact ⟨rfl, HB.out⟩
set_option maxHeartbeats 8000000 in
theorem asked_ans (attrs hub k n sf st : Int) {RA : Option Addr} {rn rc : Nat} {L : List Rec} {w : World} (hL : recE.At w (· < w.heap.size) RA rn rc L) (hall : ∀ r ∈ L, rightF attrs r.id r.ver r.vals.length = true) (hn : rn ≤ 10000) (ha1 : 1 ≤ attrs) (ha2 : attrs ≤ 8) : Calls Tryz.prog 82 #[.int .i64 attrs, .agg (ansC hub k n sf st RA rn rc)] w fun e w' => e = .returned (.bool true) ∧ Below w.heap.size w w' := by
  have HB0 := Lib.hid (below_a1 w (.cells (ansC hub k n sf st RA rn rc) 58))
  have hbx := Box.new w (ansC hub k n sf st RA rn rc) 58
  have HAT := Lib.hid (hL.later HB0.out)
  have HLN := Lib.hid hL.1
  have HALL := Lib.hid hall
  have hn3 : ¬ (10000 : Int) < (rn : Int) := by omega
  clear hL hall
  go_enter Tryz.func82, Tryz.ntmps82
  go_upto_region 5 with fail
  revert HB0 hbx HAT
  generalize hmb : w.heap.size = mb
  have HM := Lib.hid hmb
  clear hmb
  generalize (w.alloc (.cells (ansC hub k n sf st RA rn rc) 58)) = wa
  intro HB0 hbx HAT
  have c0 : wa.cell? ⟨mb, 0, none⟩ = some (.int .i64 6) := hbx.cell 0
  have c16 : wa.cell? ⟨mb, 16, none⟩ = some (.slice none 0 0) := hbx.cell 16
  have c17 : wa.cell? ⟨mb, 17, none⟩ = some (.slice RA rn rc) := hbx.cell 17
  have zb := hbx.lt
  clear hbx
  go_wp2
  go_loopw [47] (fun s47 wr => s47 = .int .i64 0 ∧ wa = wr) (fun _ _ => 0)
  case atStart => exact ⟨rfl, rfl⟩
  case round =>
    obtain ⟨rfl, rfl⟩ := hrel
    go_wp2
    go_loopw [79] (fun s79 wr => ∃ j : Nat, j ≤ rn ∧ s79 = .int .i64 j ∧ Below wa.heap.size wa wr) (fun s _ => rn - (intOf s).toNat)
    case atStart => exact ⟨0, Nat.zero_le _, rfl, Below.refl _ _⟩
    case round =>
      obtain ⟨j, hj, rfl, hB⟩ := hrel
      have HB := Lib.hid hB
      clear hB
      by_cases hlt : j < rn
      · have hlt' : (j : Int) < (rn : Int) := by omega
        obtain ⟨r, hr⟩ : ∃ r, L[j]? = some r := ⟨_, List.getElem?_eq_getElem (by rw [HLN.out]; exact hlt)⟩
        obtain ⟨b, off, rfl, hd, hcc⟩ := (recsAt (HAT.out.later HB.out)).2.2.2.2 (by omega)
        obtain ⟨⟨k1, k2⟩, s0, m0, cp0, q0, q1, q2, hi⟩ := hcc j r hr
        have zx : b < wr.heap.size := hd
        have hml : r.vals.length = m0 := hi.1
        have hm9 : (m0 : Int) ≤ 9223372036854775807 := by have := hi.2.1; have := hi.2.2.1; omega
        have HRT := Lib.hid (HALL.out r (List.mem_of_getElem? hr))
        rw [hml] at HRT
        obtain ⟨ri, rv, rl⟩ := r
        obtain ⟨u1, u2⟩ := k1
        obtain ⟨u3, u4⟩ := k2.1
        dsimp only at *
        clear hcc hd hi hr hml
        go_wp2_with (go_at_call 105; go_loud (refine (right_b attrs ri rv s0 m0 cp0 _ u1 (by omega) u3 (by omega) (by omega) (by omega) hm9).mono ?_; rw [HRT.out]; rintro e3 w3 ⟨rfl, hb3⟩; have HB3 := Lib.hid (below_from HB.out (below_from (below_a1 _ _) hb3 (below_a1 _ _).size) HB.out.size); clear hb3))
        go_roundw
        case rel => exact ⟨j + 1, by omega, by go_num, HB3.out⟩
        case measure => simp [intOf]; omega
      · obtain rfl : j = rn := by omega
        have hlt' : ¬ (j : Int) < (j : Int) := by omega
        go_wp2
        go_ret
        exact ⟨rfl, by rw [HM.out]; exact below_from HB0.out HB.out (by omega)⟩
set_option maxHeartbeats 8000000 in
theorem right_ans {attrs hub k n : Int} (sf st : Int) {RA : Option Addr} {rn rc : Nat} {L : List Rec} {w : World} (hL : recE.At w (· < w.heap.size) RA rn rc L) (hall : ∀ r ∈ L, rightF attrs r.id r.ver r.vals.length = true) (hn : rn ≤ 10000) (ha1 : 1 ≤ attrs) (ha2 : attrs ≤ 8) (hh1 : 0 ≤ hub) (hh2 : hub < attrs) (hk1 : 0 ≤ k) (hk2 : k < 16) (ho1 : 1 ≤ n) (ho2 : n ≤ 500) :
    Calls Tryz.prog 45 #[.int .i64 attrs, .agg (ansC hub k n sf st RA rn rc)] w fun e w' => e = .returned (.bool true) ∧ Below w.heap.size w w' := by
  have HB0 := Lib.hid (below_a1 w (.cells (ansC hub k n sf st RA rn rc) 58))
  have hbx := Box.new w (ansC hub k n sf st RA rn rc) 58
  have hat1 := hL.later HB0.out
  have HH := Lib.hid (held_ans attrs hub k n sf st RA rn rc)
  have HA := Lib.hid (fun (wq : World) (hq : recE.At wq (· < wq.heap.size) RA rn rc L) => asked_ans attrs hub k n sf st hq hall hn ha1 ha2)
  have HAT := Lib.hid hat1
  have hw : IntKind.i64.wrap (attrs - 1) = attrs - 1 := by rw [IntKind.wrap_i64]; omega
  clear hL hall hat1
  go_enter Tryz.func45, Tryz.ntmps45
  go_upto_region 1 with fail
  revert HB0 hbx HAT
  generalize hmb : w.heap.size = mb
  have HM := Lib.hid hmb
  clear hmb
  generalize (w.alloc (.cells (ansC hub k n sf st RA rn rc) 58)) = wa
  intro HB0 hbx HAT
  have hcell := hbx.cell
  have c0 : wa.cell? ⟨mb, 0, none⟩ = some (.int .i64 6) := hcell 0
  have c1 : wa.cell? ⟨mb, 1, none⟩ = some (.int .i64 hub) := hcell 1
  have c2 : wa.cell? ⟨mb, 2, none⟩ = some (.int .u32 0) := hcell 2
  have c3 : wa.cell? ⟨mb, 3, none⟩ = some (.int .i64 k) := hcell 3
  have c4 : wa.cell? ⟨mb, 4, none⟩ = some (.int .i64 n) := hcell 4
  have c5 : wa.cell? ⟨mb, 5, none⟩ = some (.int .u32 0) := hcell 5
  have c6 : wa.cell? ⟨mb, 6, none⟩ = some (.int .i64 0) := hcell 6
  have c7 : wa.cell? ⟨mb, 7, none⟩ = some (.int .u32 0) := hcell 7
  have c8 : wa.cell? ⟨mb, 8, none⟩ = some (.int .i64 0) := hcell 8
  have zb := hbx.lt
  clear hcell
  go_upto_region 13 with (first
    | (go_at_call 78; go_loud (refine (within_yes (by omega) (by omega) _).mono ?_; rintro e1 w1 ⟨rfl, rfl⟩))
    | (go_at_call 79; go_loud (refine (hops_six _).mono ?_; rintro e2 w2 ⟨rfl, rfl⟩))
    | (go_at_call 80; go_loud (refine (between_six _).mono ?_; rintro e3 w3 ⟨rfl, rfl⟩)))
  have HBX := Lib.hid hbx
  have HR0 := Lib.hid hbx.range
  clear hbx c0 c1 c2 c3 c4 c5 c6 c7 c8
  go_wp2_with (first
    | (refine wpList_load_mid rfl _ _ rfl mb 0 rfl _ _ HR0.out Tryz.underlying58 rfl (by kernel_rfl) ?_)
    | (go_at_call 81; go_loud (refine (HH.out _).mono ?_; rintro e4 w4 ⟨rfl, hb4⟩; have HB4 := Lib.hid hb4; have HR4 := Lib.hid (HBX.out.below hb4 HBX.out.lt).range; clear hb4 HR0))
    | (refine wpList_load_midG rfl _ _ rfl mb 0 rfl _ _ HR4.out Tryz.underlying58 rfl (by kernel_rfl) ?_)
    | (go_at_call 82; go_loud (refine (HA.out _ (HAT.out.later HB4.out)).mono ?_; rintro e5 w5 ⟨rfl, hb5⟩; have HB5 := Lib.hid (below_from HB4.out hb5 HB4.out.size); clear hb5)))
  go_ret
  exact ⟨rfl, by rw [HM.out]; exact below_from HB0.out HB5.out (by omega)⟩
end Go.Proofs.YtdpamikobmefeaaGreat

namespace Go.Proofs.YtdpamikobmefeaaGreat
open Go.RowKit Go.ChangeShapes Go.Maps
set_option maxRecDepth 100000
set_option linter.unusedVariables false
set_option linter.unusedSimpArgs false

/-- All cells of a block are set. -/
theorem Sta.storeAll {W w : World} {ts ts' : List Thing} {π : List Int} {b i : Nat} {C C' : Array Value} (h : Sta W ts w) (hi : ts[i]? = some (tBlk π b C)) (hπ : π ≠ []) (hts : ts.set i (tBlk π b C') = ts') : Sta W ts' (w.setRow b C') := by
  obtain ⟨c, h⟩ := h
  obtain ⟨⟨T, h1⟩, h2⟩ := h.get hi
  have ho : Only (fun k => c k = π) w (w.setRow b C') := ⟨rfl, rfl, rfl, by simp, fun k _ hk => setRow_other w b k C' (fun e => hk (by rw [e]; exact h2))⟩
  have st : Stp (· = π) c w c (w.setRow b C') := ⟨ho, fun _ _ => rfl, fun k hk => h.fresh k (by simpa using hk)⟩
  exact Sta.turn h hi hπ (t' := tBlk π b C') rfl st ⟨⟨T, setRow_heap w b C C' T (0, 0) h1⟩, h2⟩ hts
theorem Sta.storeAllR {W w : World} {ts l l' : List Thing} {π : List Int} {b : Nat} {C C' : Array Value} (j : Nat) (h : Sta W (ts ++ l) w) (hi : l[j]? = some (tBlk π b C)) (hπ : π ≠ []) (hl : l.set j (tBlk π b C') = l') : Sta W (ts ++ l') (w.setRow b C') :=
  h.storeAll (i := ts.length + j) (by rw [List.getElem?_append_right (by omega), show ts.length + j - ts.length = j by omega]; exact hi) hπ (by rw [List.set_append_right _ _ (by omega), show ts.length + j - ts.length = j by omega, hl])
/-- A range, as messages have it. -/
def askR (r : Rng) : Rng := if r.kind = 2 then r else ⟨r.kind, 0, 0⟩
abbrev askC (hub k n sf st : Int) (B : Value) : Array Value := #[.int .i64 5, .int .i64 hub, .int .u32 0, .int .i64 k, .int .i64 n, .int .u32 0, .int .i64 0, .int .u32 0, .int .i64 0, .int .u32 0, .int .u64 0, .int .u64 0, .slice none 0 0, .bool false, .int .u32 sf, .int .u32 st, B, .slice none 0 0]
theorem askC_one (hub k n sf st : Int) (B : Option Addr) (bn c : Nat) : ((askC hub k n sf st (.slice B bn c)).all fun x => x.oneCell') = true := by
  rw [← Array.all_toList]
  rfl
set_option maxHeartbeats 8000000 in
theorem ask_any {W w : World} {ts : List Thing} {πo : List Int} {ob bn bc : Nat} {CO : Array Value} {BA : Option Addr} {bl : List Rng} {hub k n sf st : Int} (io : Nat) (h : Sta W ts w) (hob : ts[io]? = some (tBlk πo ob CO)) (h6 : CO[6]? = some (.int .i64 hub)) (h8 : CO[8]? = some (.slice BA bn bc)) (hb : ∀ c, S0 W ts c w → RngsAt w (Quiet c w) BA bn bc bl) (hbn : bn ≤ 8) (ho : ∀ x ∈ ts, x.π ≠ [17] ∧ x.π ≠ [18] ∧ x.π ≠ [19]) (ho16 : ∀ x ∈ ts, x.π ≠ [16]) :
    Calls Tryz.prog 37 #[.pointer (some ⟨ob, 0, none⟩), .int .i64 k, .int .i64 n, .agg #[.int .u32 sf, .int .u32 st]] w fun e w' => ∃ B c, e = .returned (.agg (askC hub k n sf st (.slice B bn c))) ∧ Sta W (ts ++ [tAt rngE B bn c (bl.map askR)]) w' := by
  have hln : bl.length = bn := by
    obtain ⟨c5, h5⟩ := id h
    exact (hb c5 h5).1
  have HLN := Lib.hid hln
  have HL : ∀ (j : Nat) (t : Thing) (m : List Thing), m[j]? = some t → (ts ++ m)[ts.length + j]? = some t := fun j t m h => by rw [List.getElem?_append_right (by omega), show ts.length + j - ts.length = j by omega]; exact h
  have hl' := Lib.hid HL
  have HL2 : ∀ (j : Nat) (t : Thing) (m : List Thing), ts[j]? = some t → (ts ++ m)[j]? = some t := fun j t m h => by rw [List.getElem?_append_left (List.getElem?_eq_some_iff.1 h).1]; exact h
  have hl2 := Lib.hid HL2
  have HO16 := Lib.hid ho16
  have HU0 := Lib.hid (show U32 0 from ⟨by decide, by decide⟩)
  have HO := Lib.hid ho; have HOB := Lib.hid hob; have H6 := Lib.hid h6; have H8 := Lib.hid h8
  have S1 := Lib.hid (show Sta W (ts ++ [tRngs BA bn bc bl, tBox w.heap.size #[.int .u32 sf, .int .u32 st], tBlk [17] (w.heap.size + 1) zeroM]) ((w.alloc (.cells #[.int .u32 sf, .int .u32 st] 56)).alloc (.cells zeroM 58)) from by
    have q := ((h.addD (t := tRngs BA bn bc bl) rfl hb).addBox #[.int .u32 sf, .int .u32 st] 56).addBlk [17] (by simp) (fun x hx => by
      simp only [List.mem_append, List.mem_singleton] at hx
      rcases hx with (hx | rfl) | rfl
      · exact (ho x hx).1
      · simp [tRngs]
      · simp [tBox]) zeroM 58
    rw [size_alloc, List.append_assoc, List.append_assoc] at q
    exact q)
  clear h hob h6 h8 hb ho ho16 hln HL HL2
  go_enter Tryz.func37, Tryz.ntmps37
  go_upto_region 1 with fail
  refine wp_abs (fun wx => Sta W (ts ++ [tRngs BA bn bc bl, tBox w.heap.size #[.int .u32 sf, .int .u32 st], tBlk [17] (w.heap.size + 1) zeroM]) wx) S1.out ?_
  clear S1
  generalize w.heap.size + 1 = rb
  generalize w.heap.size = sb
  intro wx hsx
  have S2 := Lib.hid hsx
  clear hsx
  have hl2sb := Lib.hid (fun (m : List Thing) => (show (ts ++ ([tRngs BA bn bc bl, tBox sb #[.int .u32 sf, .int .u32 st], tBlk [17] rb zeroM] ++ m))[ts.length + 1]? = some (tBox sb #[.int .u32 sf, .int .u32 st]) from hl'.out 1 _ _ rfl))
  refine wp_regs (Θ := Nat) (by kernel_rfl) (by kernel_rfl) 42 rfl (by kernel_rfl) (fun θ q9 => if q9 = 8 then .pointer (some ⟨θ, 0, none⟩) else ([.pointer (some ⟨ob, 0, none⟩), .pointer (some ⟨ob, 0, none⟩), .pointer (some ⟨ob, 6, none⟩), .int .i64 hub, .int .i64 k, .int .i64 n, .agg #[.int .u32 sf, .int .u32 st], .agg (askC hub k n sf st (.slice none 0 0)), undef, undef] : List Value).getD q9 undef)
    (fun l θ w2 => Sta W (ts ++ [tRngs BA bn bc bl, tBox sb #[.int .u32 sf, .int .u32 st], tBlk [17] rb zeroM] ++ (if l.getD 8 false = true then [tBlk [18] θ (if l.getD 9 false = true then askC hub k n sf st (.slice none 0 0) else zeroM)] else [])) w2) 0 ?start1 ?step1 ?done1
  case start1 =>
    exact (show Sta W (ts ++ [tRngs BA bn bc bl, tBox sb #[.int .u32 sf, .int .u32 st], tBlk [17] rb zeroM] ++ []) wx.drew from by rw [List.append_nil]; exact S2.out.later (Same.drew _).1)
  case step1 =>
    intro l θ a w2 z o K5 ho h0 hsz hd hcl2 hJ hR hK
    have hz : z < 10 := (Array.getElem?_eq_some_iff.1 ho).1
    have hof := getD_ff h0
    have cl : ∀ j k, Region.waitsFor .any _ j k = true → l.getD k false = false → l.getD j false = false := fun j k hw hk => by
      cases hj : l.getD j false with
      | false => rfl
      | true => rw [hcl2 j k hw hj] at hk; cases hk
    have so : ∀ k, z ≠ k → (l.setIfInBounds z true).getD k false = l.getD k false := fun k hk => getD_set_other hk
    have se : (l.setIfInBounds z true).getD z false = true := getD_set_self (by rw [hsz]; exact (Array.getElem?_eq_some_iff.1 ho).1)
    have hc : z = 0 ∨ z = 1 ∨ z = 2 ∨ z = 3 ∨ z = 4 ∨ z = 5 ∨ z = 6 ∨ z = 7 ∨ z = 8 ∨ z = 9 := by omega
    rcases hc with rfl | rfl | rfl | rfl | rfl | rfl | rfl | rfl | rfl | rfl
    · obtain rfl := Option.some.inj ho
      have e0 : a.tmps[0]? = some (.pointer (some ⟨ob, 0, none⟩)) := (hR.outer 0 (by kernel_rfl)).trans rfl
      clear hsz h0 hd hcl2 cl hof
      unfold StepTo
      go_simp
      exact hK θ w2 (by simp only [so 8 (by decide), so 9 (by decide)]; exact hJ) (fun _ _ _ => rfl)
    · obtain rfl := Option.some.inj ho
      have e12 : a.tmps[12]? = some (.pointer (some ⟨ob, 0, none⟩)) := hR.reg 0 _ 12 rfl rfl (hd 0 (by kernel_rfl))
      clear hsz h0 hd hcl2 cl hof
      unfold StepTo
      go_simp
      exact hK θ w2 (by simp only [so 8 (by decide), so 9 (by decide)]; exact hJ) (fun _ _ _ => rfl)
    · obtain rfl := Option.some.inj ho
      have e13 : a.tmps[13]? = some (.pointer (some ⟨ob, 0, none⟩)) := hR.reg 1 _ 13 rfl rfl (hd 1 (by kernel_rfl))
      clear hsz h0 hd hcl2 cl hof
      unfold StepTo
      go_simp
      exact hK θ w2 (by simp only [so 8 (by decide), so 9 (by decide)]; exact hJ) (fun _ _ _ => rfl)
    · obtain rfl := Option.some.inj ho
      have e14 : a.tmps[14]? = some (.pointer (some ⟨ob, 6, none⟩)) := hR.reg 2 _ 14 rfl rfl (hd 2 (by kernel_rfl))
      have hbx := hJ.blk (i := io) (by rw [List.append_assoc]; exact hl2.out io _ _ HOB.out)
      have d6 : w2.cell? ⟨ob, 6, none⟩ = some (.int .i64 hub) := (hbx.cell 6).trans H6.out
      have fb := hbx.free; have zb := hbx.lt
      clear hbx
      clear hsz h0 hd hcl2 cl hof
      unfold StepTo
      go_simp
      exact hK θ w2 (by simp only [so 8 (by decide), so 9 (by decide)]; exact hJ) (fun _ _ _ => rfl)
    · obtain rfl := Option.some.inj ho
      have e1 : a.tmps[1]? = some (.int .i64 k) := (hR.outer 1 (by kernel_rfl)).trans rfl
      clear hsz h0 hd hcl2 cl hof
      unfold StepTo
      go_simp
      exact hK θ w2 (by simp only [so 8 (by decide), so 9 (by decide)]; exact hJ) (fun _ _ _ => rfl)
    · obtain rfl := Option.some.inj ho
      have e2 : a.tmps[2]? = some (.int .i64 n) := (hR.outer 2 (by kernel_rfl)).trans rfl
      clear hsz h0 hd hcl2 cl hof
      unfold StepTo
      go_simp
      exact hK θ w2 (by simp only [so 8 (by decide), so 9 (by decide)]; exact hJ) (fun _ _ _ => rfl)
    · obtain rfl := Option.some.inj ho
      have e7 : a.tmps[7]? = some (.pointer (some ⟨sb, 0, none⟩)) := (hR.outer 7 (by kernel_rfl)).trans rfl
      have hbx := hJ.box (i := ts.length + 1) (by rw [List.append_assoc]; exact hl2sb.out _ )
      have d0 : w2.cell? ⟨sb, 0, none⟩ = some (.int .u32 sf) := hbx.cell 0
      have d1 : w2.cell? ⟨sb, 1, none⟩ = some (.int .u32 st) := hbx.cell 1
      have zb := hbx.lt
      clear hbx
      clear hsz h0 hd hcl2 cl hof
      unfold StepTo
      go_simp
      exact hK θ w2 (by simp only [so 8 (by decide), so 9 (by decide)]; exact hJ) (fun _ _ _ => rfl)
    · obtain rfl := Option.some.inj ho
      have e15 : a.tmps[15]? = some (.int .i64 hub) := hR.reg 3 _ 15 rfl rfl (hd 3 (by kernel_rfl))
      have e16 : a.tmps[16]? = some (.int .i64 k) := hR.reg 4 _ 16 rfl rfl (hd 4 (by kernel_rfl))
      have e17 : a.tmps[17]? = some (.int .i64 n) := hR.reg 5 _ 17 rfl rfl (hd 5 (by kernel_rfl))
      have e18 : a.tmps[18]? = some (.agg #[.int .u32 sf, .int .u32 st]) := hR.reg 6 _ 18 rfl rfl (hd 6 (by kernel_rfl))
      clear hsz h0 hd hcl2 cl hof
      unfold StepTo
      go_simp
      exact hK θ w2 (by simp only [so 8 (by decide), so 9 (by decide)]; exact hJ) (fun _ _ _ => rfl)
    · obtain rfl := Option.some.inj ho
      have q9 := cl 9 8 (by kernel_rfl) hof
      clear hsz h0 hd hcl2 cl
      have hJ2 := hJ.addBlk [18] (by simp) (by
          rw [hof]; intro x hx; simp only [Bool.false_eq_true, if_false, List.append_nil, List.mem_append, List.mem_cons, List.not_mem_nil, or_false] at hx
          rcases hx with hx | rfl | rfl | rfl
          · exact (HO.out x hx).2.1
          · simp [tRngs]
          · simp [tBox]
          · simp [tBlk]) zeroM 58
      unfold StepTo
      go_simp
      refine hK w2.heap.size _ ?_ (fun j hj _ => by simp only [if_neg hj])
      simp only [se, so 9 (by decide), q9, hof, Bool.false_eq_true, if_false, if_true, List.append_nil] at hJ2 ⊢
      exact hJ2
    · obtain rfl := Option.some.inj ho
      have e9 : a.tmps[9]? = some (.pointer (some ⟨θ, 0, none⟩)) := hR.reg 8 _ 9 rfl rfl (hd 8 (by kernel_rfl))
      have e19 : a.tmps[19]? = some (.agg (askC hub k n sf st (.slice none 0 0))) := hR.reg 7 _ 19 rfl rfl (hd 7 (by kernel_rfl))
      have q8 := hd 8 (by kernel_rfl)
      simp only [hof, q8, Bool.false_eq_true, if_false, if_true] at hJ
      have hbx := hJ.blkR (ts := ts ++ [tRngs BA bn bc bl, tBox sb #[.int .u32 sf, .int .u32 st], tBlk [17] rb zeroM]) (l := [tBlk [18] θ zeroM]) 0 rfl
      obtain ⟨T9, hT9⟩ := hbx
      have hJ2 := hJ.storeAllR (ts := ts ++ [tRngs BA bn bc bl, tBox sb #[.int .u32 sf, .int .u32 st], tBlk [17] rb zeroM]) (l := [tBlk [18] θ zeroM]) (C' := askC hub k n sf st (.slice none 0 0)) 0 rfl (by simp) rfl
      clear hsz h0 hd hcl2 cl
      unfold StepTo
      refine (if_pos rfl).mpr ?_
      refine wp_store_row _ _ _ rfl θ (askC hub k n sf st (.slice none 0 0)) (by simp [Act.eval, e9]) (by simp [Act.eval, e19]) T9 zeroM hT9 (by kernel_rfl) rfl (askC_one hub k n sf st none 0 0) ?_
      refine hK θ _ ?_ (fun _ _ _ => rfl)
      simp only [se, so 8 (by decide), q8, if_true] at hJ2 ⊢
      exact hJ2
  case done1 =>
    intro l θ a w2 hall hJ hR
    have ha := (hR.whole [some 12, some 13, some 14, some 15, some 16, some 17, some 18, some 19, some 9, none] rfl rfl (by kernel_rfl) hall).trans (b := _) (c := ⟨#[.pointer (some ⟨ob, 0, none⟩), .int .i64 k, .int .i64 n, .agg #[.int .u32 sf, .int .u32 st], undef, undef, undef, .pointer (some ⟨sb, 0, none⟩), .pointer (some ⟨rb, 0, none⟩), .pointer (some ⟨θ, 0, none⟩), undef, undef, .pointer (some ⟨ob, 0, none⟩), .pointer (some ⟨ob, 0, none⟩), .pointer (some ⟨ob, 6, none⟩), .int .i64 hub, .int .i64 k, .int .i64 n, .agg #[.int .u32 sf, .int .u32 st], .agg (askC hub k n sf st (.slice none 0 0)), undef, undef, undef, undef, undef, undef, undef, undef, undef, undef, undef, undef, undef, undef, undef, undef, undef, undef, undef, undef, undef, undef], []⟩) (by kernel_rfl)
    subst ha
    simp only [hall 8 (by show 8 < 10; omega), hall 9 (by show 9 < 10; omega)] at hJ
    have S3 := Lib.hid (show Sta W (ts ++ [tRngs BA bn bc bl, tBox sb #[.int .u32 sf, .int .u32 st], tBlk [17] rb zeroM, tBlk [18] θ (askC hub k n sf st (.slice none 0 0))]) w2 from by simpa [List.append_assoc] using hJ)
    clear hall hJ hR S2
    have S4 := Lib.hid (show Sta W (ts ++ [tRngs BA bn bc bl, tBlk [17] rb zeroM, tBlk [18] θ (askC hub k n sf st (.slice none 0 0)), tRow rngE [19] (.slice none 0 0) []]) w2 from by
      have q := S3.out.rowNil rngE [19] (by simp) (fun x hx => by
        simp only [List.mem_append, List.mem_cons, List.not_mem_nil, or_false] at hx
        rcases hx with hx | rfl | rfl | rfl | rfl
        · exact (HO.out x hx).2.2
        · simp [tRngs]
        · simp [tBox]
        · simp [tBlk]
        · simp [tBlk])
      rw [List.append_assoc] at q
      exact q.pick (List.Sublist.append (List.Sublist.refl _) (.cons_cons _ (.cons _ (List.Sublist.refl _)))))
    have hbx := S4.out.blk (i := io) (hl2.out io _ _ HOB.out)
    have d8 : w2.cell? ⟨ob, 8, none⟩ = some (.slice BA bn bc) := (hbx.cell 8).trans H8.out
    have fb := hbx.free; have zb := hbx.lt
    clear hbx S3
    go_wp2
    clear d8 fb zb
    go_loopw [25] (fun s25 wr => ∃ (j : Nat) (vP : Value), j ≤ bn ∧ s25 = .int .i64 j ∧ Sta W (ts ++ [tRngs BA bn bc bl, tBlk [17] rb zeroM, tBlk [18] θ (askC hub k n sf st vP), tRow rngE [19] vP ((bl.take j).map askR)]) wr) (fun s _ => bn - (intOf s).toNat)
    case atStart => exact ⟨0, _, Nat.zero_le _, rfl, S4.out⟩
    case round =>
      obtain ⟨j, vP, hj, rfl, hs⟩ := hrel
      have HR := Lib.hid hs
      clear S4
      by_cases hlt : j < bn
      · have hlt' : (j : Int) < (bn : Int) := by omega
        obtain ⟨bb, off, r, rfl, hd, hr, d0, d1, d2⟩ := rngs_cell (hs.rngs (hl'.out 0 _ _ rfl)) hlt
        have zx : bb < wr.heap.size := hd
        have hrok : r.ok := (hs.rngs (hl'.out 0 _ _ rfl)).2.2.2.2.2.1 r (List.mem_of_getElem? hr)
        have HROK := Lib.hid hrok
        have hle : ((bl.take j).map askR).length = j := by simp [HLN.out]; omega
        have HLE := Lib.hid hle
        have HF := Lib.hid (show (bl.take (j + 1)).map askR = (bl.take j).map askR ++ [askR r] from by rw [List.take_add_one, hr, List.map_append]; rfl)
        obtain ⟨rk, rlo, rhi⟩ := r
        dsimp only at *
        clear hs hd hr hrok hle
        go_upto_region 5 with fail
        refine wp_abs (fun wy => Sta W (ts ++ [tRngs (some ⟨bb, off, none⟩) bn bc bl, tBlk [17] rb zeroM, tBlk [18] θ (askC hub k n sf st vP), tRow rngE [19] vP ((bl.take j).map askR), tBlk [16] wr.heap.size #[.int .i64 rk, .int .u32 rlo, .int .u32 rhi]]) wy) (by
          have q := HR.out.addBlk [16] (by simp) (fun x hx => by
            simp only [List.mem_append, List.mem_cons, List.not_mem_nil, or_false] at hx
            rcases hx with hx | rfl | rfl | rfl | rfl
            · exact (HO16.out x hx)
            · simp [tRngs]
            · simp [tBlk]
            · simp [tBlk]
            · simp [tRow]) #[.int .i64 rk, .int .u32 rlo, .int .u32 rhi] 29
          rw [List.append_assoc] at q
          exact q) ?_
        generalize wr.heap.size = yp
        intro wy hsy
        have S5 := Lib.hid hsy
        have hbx := hsy.blkR 4 rfl
        have y0 : wy.cell? ⟨yp, 0, none⟩ = some (.int .i64 rk) := hbx.cell 0
        have y1 : wy.cell? ⟨yp, 1, none⟩ = some (.int .u32 rlo) := hbx.cell 1
        have y2 : wy.cell? ⟨yp, 2, none⟩ = some (.int .u32 rhi) := hbx.cell 2
        have zy := hbx.lt; have fy := hbx.free
        clear hsy hbx d0 d1 d2 zx HR
        by_cases hk2 : rk = 2
        · subst hk2
          go_upto_region 7 with fail
          refine wp_abs (fun wz => Sta W (ts ++ [tRngs (some ⟨bb, off, none⟩) bn bc bl, tBlk [17] rb zeroM, tBlk [18] θ (askC hub k n sf st vP), tRow rngE [19] vP ((bl.take j).map askR), tBlk [16] yp #[.int .i64 2, .int .u32 rlo, .int .u32 rhi]]) wz) (S5.out) ?_
          intro wz hsz
          have S6 := Lib.hid hsz
          have hbz := hsz.blkR 4 rfl
          have z0 : wz.cell? ⟨yp, 0, none⟩ = some (.int .i64 2) := hbz.cell 0
          have z1 : wz.cell? ⟨yp, 1, none⟩ = some (.int .u32 rlo) := hbz.cell 1
          have z2 : wz.cell? ⟨yp, 2, none⟩ = some (.int .u32 rhi) := hbz.cell 2
          have zz := hbz.lt
          have hbm := hsz.blkR 2 rfl
          have m16 : wz.cell? ⟨θ, 16, none⟩ = some vP := hbm.cell 16
          have zm := hbm.lt; have fm := hbm.free
          clear hsz hbz hbm y0 y1 y2 zy fy S5
          go_wp2_with (at_builtin; go_loud (refine Sta.wpList_push (E := rngE) (r := ⟨2, rlo, rhi⟩) (ts.length + 3) rfl _ _ rfl vP rfl S6.out (hl'.out 3 _ _ rfl) (by simp) rfl (fun c h => ⟨rfl, HROK.out⟩) (by rw [HLE.out]; omega) ?_; rw [HLE.out]; intro B6 c6 w6 st6; have S7 := Lib.hid (show Sta W (ts ++ [tRngs (some ⟨bb, off, none⟩) bn bc bl, tBlk [17] rb zeroM, tBlk [18] θ (askC hub k n sf st vP), tRow rngE [19] (.slice B6 (j + 1) c6) ((bl.take j).map askR ++ [⟨2, rlo, rhi⟩]), tBlk [16] yp #[.int .i64 2, .int .u32 rlo, .int .u32 rhi]]) w6 from by rw [List.set_append_right _ _ (by omega), show ts.length + 3 - ts.length = 3 by omega] at st6; exact st6); have hb6 := S7.out.blkR 2 rfl; have n16 : w6.cell? ⟨θ, 16, none⟩ = some vP := hb6.cell 16; have zn := hb6.lt; have fn := hb6.free; clear st6 S6 z0 z1 z2 zz m16 zm fm hb6))
          have S8 := Lib.hid (S7.out.storeR 2 16 (.slice B6 (j + 1) c6) rfl (by simp) rfl)
          clear S7 n16 zn fn
          go_roundw
          case rel =>
            refine ⟨j + 1, .slice B6 (j + 1) c6, by omega, by go_num, ?_⟩
            rw [HF.out]
            have e : askR ⟨2, rlo, rhi⟩ = ⟨2, rlo, rhi⟩ := rfl
            rw [e]
            exact S8.out.pick (List.Sublist.append (List.Sublist.refl _) (.cons_cons _ (.cons_cons _ (.cons_cons _ (.cons_cons _ (List.nil_sublist _))))))
          case measure => simp [intOf]; omega
        · have hkn : (rk != 2) = true := by simp [hk2]
          go_upto_region 7 with fail
          refine wp_abs (fun wz => Sta W (ts ++ [tRngs (some ⟨bb, off, none⟩) bn bc bl, tBlk [17] rb zeroM, tBlk [18] θ (askC hub k n sf st vP), tRow rngE [19] vP ((bl.take j).map askR), tBlk [16] yp #[.int .i64 rk, .int .u32 0, .int .u32 0]]) wz) ((S5.out.storeR 4 1 (.int .u32 0) rfl (by simp) rfl).storeR 4 2 (.int .u32 0) rfl (by simp) rfl) ?_
          intro wz hsz
          have S6 := Lib.hid hsz
          have hbz := hsz.blkR 4 rfl
          have z0 : wz.cell? ⟨yp, 0, none⟩ = some (.int .i64 rk) := hbz.cell 0
          have z1 : wz.cell? ⟨yp, 1, none⟩ = some (.int .u32 0) := hbz.cell 1
          have z2 : wz.cell? ⟨yp, 2, none⟩ = some (.int .u32 0) := hbz.cell 2
          have zz := hbz.lt
          have hbm := hsz.blkR 2 rfl
          have m16 : wz.cell? ⟨θ, 16, none⟩ = some vP := hbm.cell 16
          have zm := hbm.lt; have fm := hbm.free
          clear hsz hbz hbm y0 y1 y2 zy fy S5
          go_wp2_with (at_builtin; go_loud (refine Sta.wpList_push (E := rngE) (r := ⟨rk, 0, 0⟩) (ts.length + 3) rfl _ _ rfl vP rfl S6.out (hl'.out 3 _ _ rfl) (by simp) rfl (fun c h => ⟨rfl, ⟨HU0.out, HU0.out⟩⟩) (by rw [HLE.out]; omega) ?_; rw [HLE.out]; intro B6 c6 w6 st6; have S7 := Lib.hid (show Sta W (ts ++ [tRngs (some ⟨bb, off, none⟩) bn bc bl, tBlk [17] rb zeroM, tBlk [18] θ (askC hub k n sf st vP), tRow rngE [19] (.slice B6 (j + 1) c6) ((bl.take j).map askR ++ [⟨rk, 0, 0⟩]), tBlk [16] yp #[.int .i64 rk, .int .u32 0, .int .u32 0]]) w6 from by rw [List.set_append_right _ _ (by omega), show ts.length + 3 - ts.length = 3 by omega] at st6; exact st6); have hb6 := S7.out.blkR 2 rfl; have n16 : w6.cell? ⟨θ, 16, none⟩ = some vP := hb6.cell 16; have zn := hb6.lt; have fn := hb6.free; clear st6 S6 z0 z1 z2 zz m16 zm fm hb6))
          have S8 := Lib.hid (S7.out.storeR 2 16 (.slice B6 (j + 1) c6) rfl (by simp) rfl)
          clear S7 n16 zn fn
          go_roundw
          case rel =>
            refine ⟨j + 1, .slice B6 (j + 1) c6, by omega, by go_num, ?_⟩
            rw [HF.out]
            have e : askR ⟨rk, rlo, rhi⟩ = ⟨rk, 0, 0⟩ := if_neg hk2
            rw [e]
            exact S8.out.pick (List.Sublist.append (List.Sublist.refl _) (.cons_cons _ (.cons_cons _ (.cons_cons _ (.cons_cons _ (List.nil_sublist _))))))
          case measure => simp [intOf]; omega
      · obtain rfl : j = bn := by omega
        have hlt' : ¬ (j : Int) < (j : Int) := by omega
        obtain ⟨B7, c7, rfl, g1, g2, g3⟩ := HR.out.shape (hl'.out 3 _ _ rfl)
        rw [List.take_of_length_le (by rw [HLN.out]; exact Nat.le_refl _)] at HR g1 g3
        rw [List.length_map, HLN.out] at HR g1 g3
        have hbm := HR.out.blkR 2 rfl
        have hbr := HR.out.blkR 1 rfl
        have HRG := Lib.hid hbm.range
        obtain ⟨T9, hT9⟩ := hbr
        have HT9 := Lib.hid hT9
        have S9 := Lib.hid (HR.out.storeAllR (C' := askC hub k n sf st (.slice B7 j c7)) 1 rfl (by simp) rfl)
        have ho1 := Lib.hid (askC_one hub k n sf st B7 j c7)
        clear hs HR hbm hT9 g1 g2 g3
        go_wp2_with (first
          | (refine wpList_load_mid rfl _ _ rfl θ 0 rfl _ _ HRG.out Tryz.underlying58 rfl (by kernel_rfl) ?_)
          | (refine wpList_store_row rfl _ _ _ rfl rb (askC hub k n sf st (.slice B7 j c7)) rfl rfl T9 zeroM HT9.out (by kernel_rfl) rfl ho1.out ?_))
        have hT := setRow_heap wr rb zeroM (askC hub k n sf st (.slice B7 j c7)) T9 (0, 0) HT9.out
        have SF := S9.out.freeze (i := ts.length + 3) (E := rngE) (π := [19]) (A := B7) (n := j) (cap := c7) (l := bl.map askR) (hl'.out 3 _ _ rfl) (by simp) (by rw [List.set_append_right _ _ (by omega), show ts.length + 3 - ts.length = 3 by omega])
        refine bodyPost_ret (v := .agg (askC hub k n sf st (.slice B7 j c7))) (results_cell_row (p := 8) (ty := 58) Tryz.results37 _ _ rb T9 _ (0, 0) _ rfl hT Tryz.underlying58 rfl (by kernel_rfl)) rfl ?_
        exact ⟨B7, c7, rfl, SF.pick (List.Sublist.append (List.Sublist.refl _) (.cons _ (.cons _ (.cons _ (List.Sublist.refl _)))))⟩
end Go.Proofs.YtdpamikobmefeaaGreat

namespace Go.Proofs.YtdpamikobmefeaaGreat
open Go.RowKit Go.ChangeShapes Go.Maps
set_option maxRecDepth 100000
set_option linter.unusedVariables false
set_option linter.unusedSimpArgs false

set_option maxHeartbeats 8000000 in
theorem qry_wait {W w : World} {ts : List Thing} {π πo πg πv : List Int} {cb k q : Nat} {C : Array Value} {attrs page : Int} {OA : Option Addr} {on oc : Nat} {bs : List Nat} {A : Option Addr} {n cap : Nat} {bl : List Rng} (i0 j : Nat) (hk : k < 16) (h : Sta W ts w) (hi : ts[i0]? = some (tBlk π cb C)) (hπ : π ≠ []) (hC0 : C[0]? = some (.int .i64 attrs)) (hC : C[1 + k]? = some (.slice OA on oc)) (hj : ts[j]? = some (tAt ptrE OA on oc bs)) (hA : on = 0 → OA = none) (hon : on < 400)
    (hb : ∀ c, S0 W ts c w → RngsAt w (Quiet c w) A n cap bl) (hr : rightB attrs bl = true) (hq : q < n) (hp1 : 1 ≤ page) (hp2 : page ≤ 100) (he : emptyB bl = false) (r0 : Rng) (hbq : bl[q]? = some r0) (hπo : πo ≠ []) (hπg : πg ≠ []) (hog : πo ≠ πg) (hπv : πv ≠ []) (hov : πo ≠ πv) (hgv : πg ≠ πv) (hsm : ∀ z ∈ [πo, πg, πv, π], z ≠ [16] ∧ z ≠ [17] ∧ z ≠ [18] ∧ z ≠ [19]) (hcol : ∀ x ∈ ts, x.π ≠ πo ∧ x.π ≠ πg) (hcolv : ∀ x ∈ ts, x.π ≠ πv) (hcolm : ∀ x ∈ ts, x.π ≠ [16] ∧ x.π ≠ [17] ∧ x.π ≠ [18] ∧ x.π ≠ [19]) :
    Calls Tryz.prog 11 #[.pointer (some ⟨cb, 0, none⟩), .int .i64 k, .slice A n cap, .int .i64 q, .int .i64 page, .slice none 0 0] w fun e w' => ∃ (A' : Option Addr) (c' ob g cv mb : Nat) (B : Option Addr) (bn bc : Nat) (MB : Option Addr) (mn mc : Nat), e = .returned (.tuple #[.int .i64 ((on + 1 : Nat) : Int), .slice (some ⟨mb, 0, none⟩) 1 1, .int .i64 0]) ∧
      Sta W (ts.set i0 (tBlk π cb (C.setIfInBounds (1 + k) (.slice A' (on + 1) c'))) ++ [tRngs B bn bc bl, tGath πg g bl [], tBlk πo ob (opQ 1 q page B bn bc 0 true (some ⟨cv, 0, none⟩) g), tCov πv cv (spanF r0).1 (spanF r0).2 [], tAt ptrE A' (on + 1) c' (bs ++ [ob]), tBox mb (askC q k ((on : Int) + 1) (spanF r0).1 (spanF r0).2 (.slice MB mn mc))]) w' := by
  have hX := h.blk hi
  have c0 : w.cell? ⟨cb, 0, none⟩ = some (.int .i64 attrs) := (hX.cell 0).trans hC0
  have fb := hX.free; have zb := hX.lt
  have hln : bl.length = n := by
    obtain ⟨c5, h5⟩ := id h
    exact (hb c5 h5).1
  have hna : (n : Int) = attrs := by
    unfold rightB at hr
    simp only [Bool.and_eq_true, decide_eq_true_eq] at hr
    rw [← hln]; exact hr.1.2
  have hq1 : ¬ (q : Int) < 0 := by omega
  have hq2 : ¬ attrs ≤ (q : Int) := by omega
  have hp3 : ¬ page < 1 := by omega
  have hp4 : ¬ 100 < page := by omega
  have HX := Lib.hid hX; have HC := Lib.hid hC; have HI := Lib.hid hi; have HJ := Lib.hid hj; have HR := Lib.hid hr; have HE := Lib.hid he
  have HS := Lib.hid (show Sta W (ts ++ [tRngs A n cap bl]) w from h.addD (t := tRngs A n cap bl) rfl hb)
  have HCOL := Lib.hid hcol
  have HBQ := Lib.hid hbq; have HSM := Lib.hid hsm; have HCV := Lib.hid hcolv; have HCM := Lib.hid hcolm
  clear hX hC0 hC h hi hj hb hr he hcol hln hbq hsm hcolv hcolm
  obtain ⟨cR, hR0⟩ := HS.out.get (i := ts.length) (t := tRngs A n cap bl) (by rw [List.getElem?_append_right (Nat.le_refl _)]; simp)
  have HRA := Lib.hid ((show RngsAt w (Quiet cR w) A n cap bl from hR0).move (w' := w) (D' := (· < w.heap.size)) fun b hb hl => ⟨rfl, hl⟩)
  clear hR0
  go_enter Tryz.func11, Tryz.ntmps11
  go_upto_region 10 with (first
    | (go_at_call 22; go_loud (refine (may_ok hk HX.out HC.out (by omega)).mono ?_; rintro e1 w1 ⟨rfl, rfl⟩))
    | (go_at_call 29; go_loud (refine (boxright_any attrs w HRA.out (fun b hb => hb)).mono ?_; rintro e2 w2 ⟨rfl, hb2⟩; rw [HR.out]; have S2 := Lib.hid (HS.out.later hb2); have c2 := (hb2.cell (p := ⟨cb, 0, none⟩) zb).trans c0; have fb2 : ∀ i, w2.frozen? ⟨cb, i, none⟩ = false := fun i => (hb2.frozen (p := ⟨cb, i, none⟩) zb).trans (fb i); have zb2 := Nat.lt_of_lt_of_le zb hb2.size; have HB2 := Lib.hid hb2; clear hb2)))
  go_upto_region 11 with (first
    | (go_at_call 30; go_loud (refine (clone_rngs w2 (S2.out.rngs (i := ts.length) (A := A) (n := n) (cap := cap) (xs := bl) (by rw [List.getElem?_append_right (Nat.le_refl _)]; simp)) (fun b hb => hb)).mono ?_; rintro e3 w3 ⟨B3, n3, k3, rfl, hr3, hb3⟩; have S3 := Lib.hid (S2.out.addRngs hb3 hr3); clear hr3 hb3))
    | (go_at_call 31; go_loud (refine (ga_new (A := A) (n := n) (cap := cap) (bl := bl) πg S3.out hπg (by
        intro x hx
        simp only [List.mem_append, List.mem_singleton] at hx
        rcases hx with (hx | rfl) | rfl
        · exact (HCOL.out x hx).2
        · exact fun e => hπg e.symm
        · exact fun e => hπg e.symm) (fun c hc => hc.get (i := ts.length) (t := tRngs A n cap bl) (by rw [List.getElem?_append_left (by simp), List.getElem?_append_right (Nat.le_refl _)]; simp))).mono ?_; rintro e4 w4 ⟨g, rfl, hs4, _⟩; have S4 := Lib.hid hs4; clear hs4)))
  have hoc : ∀ x ∈ ts ++ [tRngs A n cap bl, tRngs B3 n3 k3 bl, tGath πg g bl []], x.π ≠ πo := fun x hx => by
    simp only [List.mem_append, List.mem_cons, List.not_mem_nil, or_false] at hx
    rcases hx with hx | rfl | rfl | rfl
    · exact (HCOL.out x hx).1
    · exact fun e => hπo e.symm
    · exact fun e => hπo e.symm
    · exact fun e => hog e.symm
  refine wp_abs (fun wx => Sta W (ts ++ [tRngs A n cap bl, tRngs B3 n3 k3 bl, tGath πg g bl [], tBlk πo w4.heap.size (opQ 1 q page B3 n3 k3 0 true none g)]) wx) ?_ ?_
  · have s4 := (show Sta W (ts ++ [tRngs A n cap bl, tRngs B3 n3 k3 bl, tGath πg g bl []]) w4 from by have := S4.out; simpa [List.append_assoc] using this).addBlk πo hπo hoc (opQ 1 q page B3 n3 k3 0 true none g) 96
    simpa [List.append_assoc] using s4
  generalize w4.heap.size = ob
  intro wx hsx
  have S5 := Lib.hid hsx
  clear S2 S3 S4 HS hoc hsx c0 fb zb c2 fb2 zb2 HB2 HRA
  have hlx : ∀ (j : Nat) (t : Thing) (l : List Thing), l[j]? = some t → (ts ++ l)[ts.length + j]? = some t := fun j t l h => by rw [List.getElem?_append_right (by omega), show ts.length + j - ts.length = j by omega]; exact h
  have HL := Lib.hid hlx
  clear hlx
  have hbx := S5.out.blk (i := ts.length + 3) (π := πo) (b := ob) (C := opQ 1 q page B3 n3 k3 0 true none g) (HL.out 3 _ _ rfl)
  have d10 : wx.cell? ⟨ob, 10, none⟩ = some (.bool true) := hbx.cell 10
  have fo := hbx.free; have zo := hbx.lt
  obtain ⟨bb, off, r, rfl, hd, hr, e0, e1', e2'⟩ := rngs_cell (S5.out.rngs (i := ts.length) (HL.out 0 _ _ rfl)) hq
  have zbb : bb < wx.heap.size := hd
  obtain rfl := Option.some.inj (hr.symm.trans HBQ.out)
  clear hbx hr hd
  go_upto_region 17 with (go_at_call 33; go_loud (refine (span_any r _).mono ?_; rintro e5 w5 ⟨rfl, hb5⟩; have S6 := Lib.hid (S5.out.later hb5); clear hb5))
  refine wp_abs (fun wx => Sta W (ts ++ [tRngs (some ⟨bb, off, none⟩) n cap bl, tRngs B3 n3 k3 bl, tGath πg g bl [], tBlk πo ob (opQ 1 q page B3 n3 k3 0 true none g), tBox w5.heap.size #[.int .u32 (spanF r).1, .int .u32 (spanF r).2]]) wx) (by
    have q5 := S6.out.addBox #[.int .u32 (spanF r).1, .int .u32 (spanF r).2] 56
    rw [List.append_assoc] at q5
    exact q5) ?_
  generalize w5.heap.size = sb
  intro wy hsy
  have S7 := Lib.hid hsy
  clear S6 S5 hsy d10 fo zo e0 e1' e2' zbb
  obtain ⟨f, hf⟩ : ∃ f, (spanF r).1 = f := ⟨_, rfl⟩
  obtain ⟨t, ht⟩ : ∃ t, (spanF r).2 = t := ⟨_, rfl⟩
  rw [hf, ht] at S7 ⊢
  have HFF := Lib.hid hf; have HFT := Lib.hid ht
  clear hf ht
  have hone : oneTwo r.kind = true := by
    have he := HE.out
    unfold emptyB at he
    have : (bl.all fun r => oneTwo r.kind) = true := by simpa using he
    exact List.all_eq_true.1 this r (List.mem_of_getElem? HBQ.out)
  rw [hone]
  clear hone
  go_upto_region 20 with (go_at_call 34; go_loud (refine (boxempty_any wy (S7.out.rngs (i := ts.length) (HL.out 0 _ _ rfl)) (fun b hb => hb)).mono ?_; rintro e6 w6 ⟨rfl, hb6⟩; rw [HE.out]; have S8 := Lib.hid (S7.out.later hb6); clear hb6))
  have hsb := S8.out.box (i := ts.length + 4) (b := sb) (HL.out 4 _ _ rfl)
  have s0 : w6.cell? ⟨sb, 0, none⟩ = some (.int .u32 f) := hsb.cell 0
  have s1 : w6.cell? ⟨sb, 1, none⟩ = some (.int .u32 t) := hsb.cell 1
  have zs := hsb.lt
  clear hsb S7
  have hmem : ∀ x, x ∈ ts ++ [tRngs (some ⟨bb, off, none⟩) n cap bl, tRngs B3 n3 k3 bl, tGath πg g bl [], tBlk πo ob (opQ 1 q page B3 n3 k3 0 true none g), tBox sb #[.int .u32 f, .int .u32 t]] → x ∈ ts ∨ x.π = [] ∨ x.π = πg ∨ x.π = πo := fun x hx => by
    simp only [List.mem_append, List.mem_cons, List.not_mem_nil, or_false] at hx
    rcases hx with hx | rfl | rfl | rfl | rfl | rfl
    · exact .inl hx
    · exact .inr (.inl rfl)
    · exact .inr (.inl rfl)
    · exact .inr (.inr (.inl rfl))
    · exact .inr (.inr (.inr rfl))
    · exact .inr (.inl rfl)
  have hnv : ∀ x, x ∈ ts ++ [tRngs (some ⟨bb, off, none⟩) n cap bl, tRngs B3 n3 k3 bl, tGath πg g bl [], tBlk πo ob (opQ 1 q page B3 n3 k3 0 true none g), tBox sb #[.int .u32 f, .int .u32 t]] → x.π ≠ πv := fun x hx => by
    rcases hmem x hx with h | h | h | h
    · exact HCV.out x h
    · rw [h]; exact fun e => hπv e.symm
    · rw [h]; exact hgv
    · rw [h]; exact hov
  have HNV := Lib.hid hnv
  clear hmem hnv
  go_upto_region 21 with (go_at_call 36; go_loud (refine (cov_new πv S8.out hπv HNV.out).mono ?_; rintro e8 w8 ⟨cv, rfl, hs8⟩; have S9 := Lib.hid hs8; have hb8 := S9.out.blk (i := ts.length + 3) (by rw [List.append_assoc]; exact HL.out 3 _ _ rfl); have o11 : w8.cell? ⟨ob, 11, none⟩ = some (.pointer none) := hb8.cell 11; have fo8 := hb8.free; have zo8 := hb8.lt; have hsb8 := S9.out.box (i := ts.length + 4) (by rw [List.append_assoc]; exact HL.out 4 _ _ rfl); clear hs8 hb8 S8))
  have SA := Lib.hid (show Sta W (ts ++ [tRngs (some ⟨bb, off, none⟩) n cap bl, tRngs B3 n3 k3 bl, tGath πg g bl [], tBlk πo ob (opQ 1 q page B3 n3 k3 0 true (some ⟨cv, 0, none⟩) g), tBox sb #[.int .u32 f, .int .u32 t], tCov πv cv f t []]) (w8.setCell ⟨ob, 11, none⟩ (.pointer (some ⟨cv, 0, none⟩))) from by
    have q9 := S9.out
    rw [List.append_assoc] at q9
    exact q9.storeR 3 11 (.pointer (some ⟨cv, 0, none⟩)) rfl hπo rfl)
  clear S9 hsb8 s0 s1 zs
  have hi0 := (List.getElem?_eq_some_iff.1 HI.out).1
  have hj0 := (List.getElem?_eq_some_iff.1 HJ.out).1
  go_upto_region 22 with (go_at_call 35; go_loud (refine (cli_begin i0 j hk SA.out (by rw [List.getElem?_append_left hi0]; exact HI.out) hπ HC.out (by rw [List.getElem?_append_left hj0]; exact HJ.out) hA (by omega)).mono ?_; rintro e9 w9 ⟨A9, c9, rfl, hs9⟩; have SB := Lib.hid hs9; clear hs9 SA o11 fo8 zo8))
  obtain ⟨U, hU⟩ : ∃ U, ts.set i0 (tBlk π cb (C.setIfInBounds (1 + k) (.slice A9 (on + 1) c9))) = U := ⟨_, rfl⟩
  have hUl : U.length = ts.length := by rw [← hU]; simp
  have SC := Lib.hid (show Sta W (U ++ [tRngs (some ⟨bb, off, none⟩) n cap bl, tRngs B3 n3 k3 bl, tGath πg g bl [], tBlk πo ob (opQ 1 q page B3 n3 k3 0 true (some ⟨cv, 0, none⟩) g), tBox sb #[.int .u32 f, .int .u32 t], tCov πv cv f t [], tAt ptrE A9 (on + 1) c9 (bs ++ [ob])]) w9 from by
    have q9 := SB.out
    rw [List.set_append_left _ _ hi0, hU, List.append_assoc] at q9
    exact q9)
  have HLU : ∀ (j : Nat) (t : Thing) (m : List Thing), m[j]? = some t → (U ++ m)[U.length + j]? = some t := fun j t m h => by rw [List.getElem?_append_right (by omega), show U.length + j - U.length = j by omega]; exact h
  have hlu := Lib.hid HLU
  have hcu : ∀ x ∈ U ++ [tRngs (some ⟨bb, off, none⟩) n cap bl, tRngs B3 n3 k3 bl, tGath πg g bl [], tBlk πo ob (opQ 1 q page B3 n3 k3 0 true (some ⟨cv, 0, none⟩) g), tBox sb #[.int .u32 f, .int .u32 t], tCov πv cv f t [], tAt ptrE A9 (on + 1) c9 (bs ++ [ob])], x.π ≠ [16] ∧ x.π ≠ [17] ∧ x.π ≠ [18] ∧ x.π ≠ [19] := fun x hx => by
    simp only [List.mem_append, List.mem_cons, List.not_mem_nil, or_false] at hx
    rcases hx with hx | rfl | rfl | rfl | rfl | rfl | rfl | rfl
    · rw [← hU] at hx
      rcases List.mem_or_eq_of_mem_set hx with hx | rfl
      · exact HCM.out x hx
      · exact HSM.out π (by simp)
    · simp [tRngs]
    · simp [tRngs]
    · exact HSM.out πg (by simp)
    · exact HSM.out πo (by simp)
    · simp [tBox]
    · exact HSM.out πv (by simp)
    · simp [tAt]
  have HCU := Lib.hid (fun x hx => (hcu x hx).2); have HCU16 := Lib.hid (fun x hx => (hcu x hx).1)
  have hsb9 := SC.out.box (hlu.out 4 _ _ rfl)
  have s0 : w9.cell? ⟨sb, 0, none⟩ = some (.int .u32 f) := hsb9.cell 0
  have s1 : w9.cell? ⟨sb, 1, none⟩ = some (.int .u32 t) := hsb9.cell 1
  have zs := hsb9.lt
  have hn3 : n3 ≤ 8 := by
    have q3 := (SC.out.rngs (hlu.out 1 _ _ rfl)).1
    have q4 := (SC.out.rngs (hlu.out 0 _ _ rfl)).1
    have hr8 := HR.out
    unfold rightB at hr8
    simp only [Bool.and_eq_true, decide_eq_true_eq] at hr8
    omega
  have HU := Lib.hid hU
  clear hsb9 HLU hcu SB hU hUl
  go_wp2_with (go_at_call 37; go_loud (refine (ask_any (n := (on : Int) + 1) (U.length + 3) SC.out (hlu.out 3 _ _ rfl) rfl rfl (fun c h => h.get (hlu.out 1 _ _ rfl)) hn3 HCU.out HCU16.out).mono ?_; rintro ea wb ⟨MB, mc, rfl, hsb⟩; have SD := Lib.hid hsb; clear hsb SC s0 s1 zs))
  refine bodyPost_ret (v := .tuple #[.int .i64 ((on + 1 : Nat) : Int), .slice (some ⟨wb.heap.size, 0, none⟩) 1 1, .int .i64 0]) (by simp [results, Tryz.results11, go_sem]) rfl ?_
  refine ⟨A9, c9, ob, g, cv, wb.heap.size, B3, n3, k3, MB, n3, mc, rfl, ?_⟩
  have SE := SD.out.addBox (askC q k ((on : Int) + 1) f t (.slice MB n3 mc)) 58
  rw [HU.out, HFF.out, HFT.out]
  rw [List.append_assoc, List.append_assoc] at SE
  exact SE.pick (List.Sublist.append (List.Sublist.refl _) (.cons _ (.cons_cons _ (.cons_cons _ (.cons_cons _ (.cons _ (.cons_cons _ (.cons_cons _ (.cons _ (List.Sublist.refl _))))))))))
end Go.Proofs.YtdpamikobmefeaaGreat

namespace Go.Proofs.YtdpamikobmefeaaGreat
open Go.RowKit Go.ChangeShapes Go.Maps
set_option maxRecDepth 100000
set_option linter.unusedVariables false
set_option linter.unusedSimpArgs false

/-- What a query's state is behind an answer. -/
def qstF (f t : Int) (l : List Run) : Int := if othersF l (sizeF f t) = [] then 2 else 1
/-- A query's three things, behind an answer. -/
def qAft (ts : List Thing) (io iv ig : Nat) (πo πv πg : List Int) (ob cv g bn bc : Nat) (hub page after : Int) (first : Bool) (BA : Option Addr) (f t sf st : Int) (l : List Run) (bl : List Rng) (L recs : List Rec) : List Thing :=
  ((ts.set iv (tCov πv cv f t (covF f t sf st l))).set ig (tGath πg g bl (addsF bl L recs).1)).set io (tBlk πo ob (opQ (qstF f t (covF f t sf st l)) hub page BA bn bc after first (some ⟨cv, 0, none⟩) g))
set_option maxHeartbeats 8000000 in
theorem ans_any {W w : World} {ts : List Thing} {πo πv πg : List Int} {cb ob cv g bn bc : Nat} {hub page after k n f t sf st : Int} {first : Bool} {BA RA : Option Addr} {rn rc : Nat} {l : List Run} {bl : List Rng} {L recs : List Rec} (io iv ig : Nat) (h : Sta W ts w) (hob : ts[io]? = some (tBlk πo ob (opQ 1 hub page BA bn bc after first (some ⟨cv, 0, none⟩) g))) (hcv : ts[iv]? = some (tCov πv cv f t l)) (hg : ts[ig]? = some (tGath πg g bl L))
    (hd : io ≠ iv ∧ io ≠ ig ∧ iv ≠ ig) (hπ : πo ≠ [] ∧ πv ≠ [] ∧ πg ≠ []) (ho : ∀ x ∈ ts, x.π ≠ [15] ∧ x.π ≠ [16]) (hf : U32 f) (ht : U32 t) (h1 : U32 sf) (h2 : U32 st) (hok : RunsOk (sizeF f t) l) (hlen : l.length ≤ 900) (hL : L.length ≤ 10000) (hrn : rn ≤ 10000) (hr : ∀ c, S0 W ts c w → recE.At w (Quiet c w) RA rn rc recs) :
    Calls Tryz.prog 47 #[.pointer (some ⟨cb, 0, none⟩), .pointer (some ⟨ob, 0, none⟩), .agg (ansC hub k n sf st RA rn rc)] w fun e w' => e = .returned (.bool true) ∧ Sta W (qAft ts io iv ig πo πv πg ob cv g bn bc hub page after first BA f t sf st l bl L recs) w' := by
  have hil := (List.getElem?_eq_some_iff.1 hob).1
  have hvl := (List.getElem?_eq_some_iff.1 hcv).1
  have hgl := (List.getElem?_eq_some_iff.1 hg).1
  have HL2 : ∀ (j : Nat) (t : Thing) (m : List Thing), ts[j]? = some t → (ts ++ m)[j]? = some t := fun j t m h => by rw [List.getElem?_append_left (List.getElem?_eq_some_iff.1 h).1]; exact h
  have hl2 := Lib.hid HL2
  have HOB := Lib.hid hob; have HCV := Lib.hid hcv; have HG := Lib.hid hg; have HO := Lib.hid ho; have HOK := Lib.hid hok
  have HF := Lib.hid hf; have HT := Lib.hid ht; have H1 := Lib.hid h1; have H2 := Lib.hid h2; have HD := Lib.hid hd; have HP := Lib.hid hπ
  have S1 := Lib.hid (show Sta W (ts ++ [tAt recE RA rn rc recs, tBox w.heap.size (ansC hub k n sf st RA rn rc)]) (w.alloc (.cells (ansC hub k n sf st RA rn rc) 58)) from by
    have q := (h.addD (t := tAt recE RA rn rc recs) rfl hr).addBox (ansC hub k n sf st RA rn rc) 58
    rw [List.append_assoc] at q
    exact q)
  clear h hob hcv hg ho hok hf ht h1 h2 hr HL2 hd hπ
  go_enter Tryz.func47, Tryz.ntmps47
  go_upto_region 1 with fail
  refine wp_abs (fun wx => Sta W (ts ++ [tAt recE RA rn rc recs, tBox w.heap.size (ansC hub k n sf st RA rn rc)]) wx) S1.out ?_
  clear S1
  generalize w.heap.size = mb
  intro wx hsx
  have S2 := Lib.hid hsx
  have hbo := hsx.blk (hl2.out io _ _ HOB.out)
  have o1 : wx.cell? ⟨ob, 1, none⟩ = some (.bool false) := hbo.cell 1
  have o6 : wx.cell? ⟨ob, 6, none⟩ = some (.int .i64 hub) := hbo.cell 6
  have fo := hbo.free; have zo := hbo.lt
  have hbm := hsx.box (i := ts.length + 1) (b := mb) (by rw [List.getElem?_append_right (by omega), Nat.add_sub_cancel_left]; rfl)
  have m1 : wx.cell? ⟨mb, 1, none⟩ = some (.int .i64 hub) := hbm.cell 1
  have zm := hbm.lt
  have hhh : (hub != hub) = false := by simp
  clear hsx hbo hbm
  go_quiet (fail)
  go_upto_region 3 with fail
  refine wp_abs (fun wy => Sta W (ts ++ [tAt recE RA rn rc recs, tBox mb (ansC hub k n sf st RA rn rc)]) wy) (S2.out.later (by repeat (first | exact Below.refl _ _ | assumption | apply Below.drew | apply belowN | (refine Below.alloc ?_ (by first | exact Nat.le_refl _ | (simp; done) | (simp; omega)) _) | (refine Below.setCell ?_ (by first | exact Nat.le_refl _ | (simp; done) | (simp; omega)) _)))) ?_
  clear o1 o6 fo zo m1 zm hhh S2
  intro wy hsy
  have S3 := Lib.hid hsy
  have hbo := hsy.blk (hl2.out io _ _ HOB.out)
  have o11 : wy.cell? ⟨ob, 11, none⟩ = some (.pointer (some ⟨cv, 0, none⟩)) := hbo.cell 11
  have fo := hbo.free; have zo := hbo.lt
  have hbm := hsy.box (i := ts.length + 1) (b := mb) (by rw [List.getElem?_append_right (by omega), Nat.add_sub_cancel_left]; rfl)
  have m14 : wy.cell? ⟨mb, 14, none⟩ = some (.int .u32 sf) := hbm.cell 14
  have m15 : wy.cell? ⟨mb, 15, none⟩ = some (.int .u32 st) := hbm.cell 15
  have zm := hbm.lt
  have ho3 : ∀ x ∈ ts ++ [tAt recE RA rn rc recs, tBox mb (ansC hub k n sf st RA rn rc)], x.π ≠ [15] ∧ x.π ≠ [16] := fun x hx => by
    simp only [List.mem_append, List.mem_cons, List.not_mem_nil, or_false] at hx
    rcases hx with hx | rfl | rfl
    · exact HO.out x hx
    · simp [tAt]
    · simp [tBox]
  have HO3 := Lib.hid ho3
  clear hsy hbo hbm ho3
  first | (go_region_with (go_at_call 83; refine (cov_add (i := iv) (S3.out.later (by first | exact (Same.refl _).1 | exact (Same.drew _).1)) (hl2.out iv _ _ HCV.out) HP.out.2.1 HO3.out HF.out HT.out H1.out H2.out HOK.out hlen).mono ?_; rintro e4 w4 ⟨v4, rfl, hs4⟩; have S4 := Lib.hid hs4; clear hs4)) | fail
  all_goals
    obtain ⟨d1, d2, d3⟩ := HD.out
    have S5 := Lib.hid (show Sta W (ts.set iv (tCov πv cv f t (covF f t sf st l)) ++ [tAt recE RA rn rc recs, tBox mb (ansC hub k n sf st RA rn rc)]) w4 from by have := S4.out; rw [List.set_append_left _ _ hvl] at this; exact this)
    clear o11 fo zo m14 m15 zm S3 S4
    go_upto_region 4 with fail
    have hob5 : (ts.set iv (tCov πv cv f t (covF f t sf st l)))[io]? = some (tBlk πo ob (opQ 1 hub page BA bn bc after first (some ⟨cv, 0, none⟩) g)) := by rw [List.getElem?_set_ne (fun e => d1 e.symm)]; exact HOB.out
    have hg5 : (ts.set iv (tCov πv cv f t (covF f t sf st l)))[ig]? = some (tGath πg g bl L) := by rw [List.getElem?_set_ne d3]; exact HG.out
    have hlx : (ts.set iv (tCov πv cv f t (covF f t sf st l))).length = ts.length := by simp
    have HOB5 := Lib.hid hob5; have HG5 := Lib.hid hg5
    have HCV5 := Lib.hid (show (ts.set iv (tCov πv cv f t (covF f t sf st l)))[iv]? = some (tCov πv cv f t (covF f t sf st l)) from List.getElem?_set_self hvl)
    obtain ⟨t1, ht1⟩ : ∃ t1, ts.set iv (tCov πv cv f t (covF f t sf st l)) = t1 := ⟨_, rfl⟩
    rw [ht1] at S5 HOB5 HG5 HCV5 hlx
    have HT1 := Lib.hid ht1
    clear hob5 hg5 ht1
    have hio1 := (List.getElem?_eq_some_iff.1 HOB5.out).1
    have hig1 := (List.getElem?_eq_some_iff.1 HG5.out).1
    have hiv1 := (List.getElem?_eq_some_iff.1 HCV5.out).1
    have hbo := S5.out.blk (i := io) (by rw [List.getElem?_append_left hio1]; exact HOB5.out)
    have o12 : w4.cell? ⟨ob, 12, none⟩ = some (.pointer (some ⟨g, 0, none⟩)) := hbo.cell 12
    have fo := hbo.free; have zo := hbo.lt
    have hbm := S5.out.box (i := t1.length + 1) (b := mb) (by rw [List.getElem?_append_right (by omega), Nat.add_sub_cancel_left]; rfl)
    have m17 : w4.cell? ⟨mb, 17, none⟩ = some (.slice RA rn rc) := hbm.cell 17
    have zm := hbm.lt
    clear hbo hbm hlx
    first | (go_region_with (go_at_call 84; refine (ga_add (k := (addsF bl L recs).2) (L' := (addsF bl L recs).1) ig (S5.out.later (by first | exact (Same.refl _).1 | exact (Same.drew _).1)) (by rw [List.getElem?_append_left hig1]; exact HG5.out) HP.out.2.2 hL hrn (fun c h => h.data (i := t1.length) (by rw [List.getElem?_append_right (Nat.le_refl _), Nat.sub_self]; rfl)) rfl rfl).mono ?_; rintro e6 w6 ⟨rfl, hs6, _⟩; have S6 := Lib.hid hs6; clear hs6)) | fail
    all_goals
      have S7 := Lib.hid (show Sta W (t1.set ig (tGath πg g bl (addsF bl L recs).1) ++ [tAt recE RA rn rc recs, tBox mb (ansC hub k n sf st RA rn rc)]) w6 from by have := S6.out; rw [List.set_append_left _ _ hig1] at this; exact this)
      have HOB7 := Lib.hid (show (t1.set ig (tGath πg g bl (addsF bl L recs).1))[io]? = some (tBlk πo ob (opQ 1 hub page BA bn bc after first (some ⟨cv, 0, none⟩) g)) from by rw [List.getElem?_set_ne (fun e => d2 e.symm)]; exact HOB5.out)
      have HCV7 := Lib.hid (show (t1.set ig (tGath πg g bl (addsF bl L recs).1))[iv]? = some (tCov πv cv f t (covF f t sf st l)) from by rw [List.getElem?_set_ne (fun e => d3 e.symm)]; exact HCV5.out)
      obtain ⟨t2, ht2⟩ : ∃ t2, t1.set ig (tGath πg g bl (addsF bl L recs).1) = t2 := ⟨_, rfl⟩
      rw [ht2] at S7 HOB7 HCV7
      have HEQ := Lib.hid (show ∀ z, t2.set io (tBlk πo ob (opQ z hub page BA bn bc after first (some ⟨cv, 0, none⟩) g)) = ((ts.set iv (tCov πv cv f t (covF f t sf st l))).set ig (tGath πg g bl (addsF bl L recs).1)).set io (tBlk πo ob (opQ z hub page BA bn bc after first (some ⟨cv, 0, none⟩) g)) from fun z => by rw [HT1.out, ht2])
      clear S5 S6 o12 fo zo m17 zm ht2
      have hio2 := (List.getElem?_eq_some_iff.1 HOB7.out).1
      have hiv2 := (List.getElem?_eq_some_iff.1 HCV7.out).1
      have hbo := S7.out.blk (i := io) (by rw [List.getElem?_append_left hio2]; exact HOB7.out)
      have o11 : w6.cell? ⟨ob, 11, none⟩ = some (.pointer (some ⟨cv, 0, none⟩)) := hbo.cell 11
      have fo := hbo.free; have zo := hbo.lt
      have HOK2 := Lib.hid (covF_ok HF.out HT.out H1.out H2.out HOK.out)
      have hll := covF_len f t sf st l
      clear hbo
      obtain ⟨wb, hwb⟩ : ∃ wb, decide (othersF (covF f t sf st l) (sizeF f t) = []) = wb := ⟨_, rfl⟩
      have HWB := Lib.hid hwb
      clear hwb
      cases wb
      · have HQ := Lib.hid (show qstF f t (covF f t sf st l) = 1 from if_neg (of_decide_eq_false HWB.out))
        go_wp2_with (go_at_call 85; go_loud (refine (cov_whole (i := iv) S7.out (by rw [List.getElem?_append_left hiv2]; exact HCV7.out) HF.out HT.out HOK2.out (by omega)).mono ?_; rw [HWB.out]; rintro e8 w8 ⟨rfl, hb8⟩; have S8 := Lib.hid (S7.out.later hb8); clear hb8))
        go_ret
        refine ⟨rfl, ?_⟩
        unfold qAft
        rw [HQ.out, ← HEQ.out 1, set_same HOB7.out]
        exact S8.out.pick (List.sublist_append_left _ _)
      · have HQ := Lib.hid (show qstF f t (covF f t sf st l) = 2 from if_pos (of_decide_eq_true HWB.out))
        go_wp2_with (go_at_call 85; go_loud (refine (cov_whole (i := iv) S7.out (by rw [List.getElem?_append_left hiv2]; exact HCV7.out) HF.out HT.out HOK2.out (by omega)).mono ?_; rw [HWB.out]; rintro e8 w8 ⟨rfl, hb8⟩; have S8 := Lib.hid (S7.out.later hb8); have hb9 := S8.out.blk (i := io) (by rw [List.getElem?_append_left hio2]; exact HOB7.out); have o0 : w8.cell? ⟨ob, 0, none⟩ = some (.int .i64 1) := hb9.cell 0; have fo8 := hb9.free; have zo8 := hb9.lt; clear hb8 hb9))
        have S9 := Lib.hid (S8.out.store (i := io) (π := πo) (b := ob) 0 (.int .i64 2) (by rw [List.getElem?_append_left hio2]; exact HOB7.out) HP.out.1 (by rw [List.set_append_left _ _ hio2]))
        go_ret
        refine ⟨rfl, ?_⟩
        unfold qAft
        rw [HQ.out, ← HEQ.out 2]
        exact S9.out.pick (List.sublist_append_left _ _)
end Go.Proofs.YtdpamikobmefeaaGreat

namespace Go.Proofs.YtdpamikobmefeaaGreat
open Go.RowKit Go.ChangeShapes Go.Maps
set_option maxRecDepth 100000
set_option linter.unusedVariables false
set_option linter.unusedSimpArgs false

set_option maxHeartbeats 8000000 in
theorem hear_ans {W w : World} {ts : List Thing} {π πo πv πg : List Int} {cb k n ob cv g bn bc : Nat} {C : Array Value} {attrs hub page after f t sf st : Int} {first : Bool} {OA BA RA : Option Addr} {on oc rn rc : Nat} {bs : List Nat} {l : List Run} {bl : List Rng} {L recs : List Rec} (i0 j io iv ig : Nat) (hk : k < 16) (h : Sta W ts w) (hi : ts[i0]? = some (tBlk π cb C)) (hC0 : C[0]? = some (.int .i64 attrs)) (hC : C[1 + k]? = some (.slice OA on oc)) (hj : ts[j]? = some (tAt ptrE OA on oc bs)) (hn : 1 ≤ n) (hob' : bs[n - 1]? = some ob) (hn2 : n ≤ 500)
    (hob : ts[io]? = some (tBlk πo ob (opQ 1 hub page BA bn bc after first (some ⟨cv, 0, none⟩) g))) (hcv : ts[iv]? = some (tCov πv cv f t l)) (hg : ts[ig]? = some (tGath πg g bl L))
    (hd : io ≠ iv ∧ io ≠ ig ∧ iv ≠ ig) (hπ : πo ≠ [] ∧ πv ≠ [] ∧ πg ≠ []) (ho : ∀ x ∈ ts, x.π ≠ [15] ∧ x.π ≠ [16]) (hf : U32 f) (ht : U32 t) (h1 : U32 sf) (h2 : U32 st) (hok : RunsOk (sizeF f t) l) (hlen : l.length ≤ 900) (hL : L.length ≤ 10000) (hrn : rn ≤ 10000) (hr : ∀ c, S0 W ts c w → recE.At w (Quiet c w) RA rn rc recs)
    (hall : ∀ r ∈ recs, rightF attrs r.id r.ver r.vals.length = true) (ha1 : 1 ≤ attrs) (ha2 : attrs ≤ 8) (hh1 : 0 ≤ hub) (hh2 : hub < attrs) :
    Calls Tryz.prog 16 #[.pointer (some ⟨cb, 0, none⟩), .agg (ansC hub k n sf st RA rn rc)] w fun e w' => e = .returned (.bool true) ∧ Sta W (qAft ts io iv ig πo πv πg ob cv g bn bc hub page after first BA f t sf st l bl L recs) w' := by
  have HL2 : ∀ (j : Nat) (t : Thing) (m : List Thing), ts[j]? = some t → (ts ++ m)[j]? = some t := fun j t m h => by rw [List.getElem?_append_left (List.getElem?_eq_some_iff.1 h).1]; exact h
  have hl2 := Lib.hid HL2
  have HI := Lib.hid hi; have HC0 := Lib.hid hC0; have HC := Lib.hid hC; have HJ := Lib.hid hj; have HOB1 := Lib.hid hob'; have HOB := Lib.hid hob; have HCV := Lib.hid hcv; have HG := Lib.hid hg; have HO := Lib.hid ho
  have HALL := Lib.hid hall; have HF := Lib.hid hf; have HT := Lib.hid ht; have H1 := Lib.hid h1; have H2 := Lib.hid h2; have HOK := Lib.hid hok; have HD := Lib.hid hd; have HP := Lib.hid hπ
  have S1 := Lib.hid (show Sta W (ts ++ [tAt recE RA rn rc recs, tBox w.heap.size (ansC hub k n sf st RA rn rc)]) (w.alloc (.cells (ansC hub k n sf st RA rn rc) 58)) from by
    have q := (h.addD (t := tAt recE RA rn rc recs) rfl hr).addBox (ansC hub k n sf st RA rn rc) 58
    rw [List.append_assoc] at q
    exact q)
  clear h hi hC0 hC hj hob' hob hcv hg ho hall hf ht h1 h2 hok hr hd hπ HL2
  go_enter Tryz.func16, Tryz.ntmps16
  go_upto_region 1 with fail
  refine wp_abs (fun wx => Sta W (ts ++ [tAt recE RA rn rc recs, tBox w.heap.size (ansC hub k n sf st RA rn rc)]) wx) S1.out ?_
  clear S1
  generalize w.heap.size = mb
  intro wx hsx
  have S2 := Lib.hid hsx
  clear hsx
  refine wp_regs (Θ := Unit) (by kernel_rfl) (by kernel_rfl) 46 rfl (by kernel_rfl) (fun θ q9 => ([.pointer (some ⟨cb, 0, none⟩), .bool false, .bool false, .pointer (some ⟨cb, 0, none⟩), .pointer (some ⟨cb, 0, none⟩), .pointer (some ⟨cb, 0, none⟩), .int .i64 attrs, .agg (ansC hub k n sf st RA rn rc), .bool true, .bool false, .bool false] : List Value).getD q9 undef)
    (fun l θ w2 => Sta W (ts ++ [tAt recE RA rn rc recs, tBox mb (ansC hub k n sf st RA rn rc)]) w2) () ?start1 ?step1 ?done1
  case start1 =>
    exact S2.out.later (Same.drew _).1
  case step1 =>
    intro l θ a w2 z o K5 ho h0 hsz hd hcl2 hJ hR hK
    have hz : z < 11 := (Array.getElem?_eq_some_iff.1 ho).1
    have hof := getD_ff h0
    have cl : ∀ j k, Region.waitsFor .any _ j k = true → l.getD k false = false → l.getD j false = false := fun j k hw hk => by
      cases hj : l.getD j false with
      | false => rfl
      | true => rw [hcl2 j k hw hj] at hk; cases hk
    have so : ∀ k, z ≠ k → (l.setIfInBounds z true).getD k false = l.getD k false := fun k hk => getD_set_other hk
    have se : (l.setIfInBounds z true).getD z false = true := getD_set_self (by rw [hsz]; exact (Array.getElem?_eq_some_iff.1 ho).1)
    have hc : z = 0 ∨ z = 1 ∨ z = 2 ∨ z = 3 ∨ z = 4 ∨ z = 5 ∨ z = 6 ∨ z = 7 ∨ z = 8 ∨ z = 9 ∨ z = 10 := by omega
    rcases hc with rfl | rfl | rfl | rfl | rfl | rfl | rfl | rfl | rfl | rfl | rfl
    · obtain rfl := Option.some.inj ho
      have e0 : a.tmps[0]? = some (.pointer (some ⟨cb, 0, none⟩)) := (hR.outer 0 (by kernel_rfl)).trans rfl
      clear hsz h0 hd hcl2 cl hof
      unfold StepTo
      go_simp
      exact hK θ w2 hJ (fun _ _ _ => rfl)
    · obtain rfl := Option.some.inj ho
      have e6 : a.tmps[6]? = some (.pointer (some ⟨cb, 0, none⟩)) := hR.reg 0 _ 6 rfl rfl (hd 0 (by kernel_rfl))
      clear hsz h0 hd hcl2 cl hof
      unfold StepTo
      go_simp
      exact hK θ w2 hJ (fun _ _ _ => rfl)
    · obtain rfl := Option.some.inj ho
      have e7 : a.tmps[7]? = some (.bool false) := hR.reg 1 _ 7 rfl rfl (hd 1 (by kernel_rfl))
      clear hsz h0 hd hcl2 cl hof
      unfold StepTo
      go_simp
      exact hK θ w2 hJ (fun _ _ _ => rfl)
    · obtain rfl := Option.some.inj ho
      have e8 : a.tmps[8]? = some (.bool false) := hR.reg 2 _ 8 rfl rfl (hd 2 (by kernel_rfl))
      have e0 : a.tmps[0]? = some (.pointer (some ⟨cb, 0, none⟩)) := (hR.outer 0 (by kernel_rfl)).trans rfl
      clear hsz h0 hd hcl2 cl hof
      unfold StepTo
      go_simp
      exact hK θ w2 hJ (fun _ _ _ => rfl)
    · obtain rfl := Option.some.inj ho
      have e9 : a.tmps[9]? = some (.pointer (some ⟨cb, 0, none⟩)) := hR.reg 3 _ 9 rfl rfl (hd 3 (by kernel_rfl))
      have e8 : a.tmps[8]? = some (.bool false) := hR.reg 2 _ 8 rfl rfl (hd 2 (by kernel_rfl))
      clear hsz h0 hd hcl2 cl hof
      unfold StepTo
      go_simp
      exact hK θ w2 hJ (fun _ _ _ => rfl)
    · obtain rfl := Option.some.inj ho
      have e10 : a.tmps[10]? = some (.pointer (some ⟨cb, 0, none⟩)) := hR.reg 4 _ 10 rfl rfl (hd 4 (by kernel_rfl))
      have e8 : a.tmps[8]? = some (.bool false) := hR.reg 2 _ 8 rfl rfl (hd 2 (by kernel_rfl))
      clear hsz h0 hd hcl2 cl hof
      unfold StepTo
      go_simp
      exact hK θ w2 hJ (fun _ _ _ => rfl)
    · obtain rfl := Option.some.inj ho
      have e11 : a.tmps[11]? = some (.pointer (some ⟨cb, 0, none⟩)) := hR.reg 5 _ 11 rfl rfl (hd 5 (by kernel_rfl))
      have e8 : a.tmps[8]? = some (.bool false) := hR.reg 2 _ 8 rfl rfl (hd 2 (by kernel_rfl))
      have hbx := hJ.blk (hl2.out i0 _ _ HI.out)
      have d0 : w2.cell? ⟨cb, 0, none⟩ = some (.int .i64 attrs) := (hbx.cell 0).trans HC0.out
      have fb := hbx.free; have zb := hbx.lt
      clear hbx
      clear hsz h0 hd hcl2 cl hof
      unfold StepTo
      go_simp
      exact hK θ w2 hJ (fun _ _ _ => rfl)
    · obtain rfl := Option.some.inj ho
      have e8 : a.tmps[8]? = some (.bool false) := hR.reg 2 _ 8 rfl rfl (hd 2 (by kernel_rfl))
      have e3 : a.tmps[3]? = some (.pointer (some ⟨mb, 0, none⟩)) := (hR.outer 3 (by kernel_rfl)).trans rfl
      have hbm := hJ.box (i := ts.length + 1) (b := mb) (by rw [List.getElem?_append_right (by omega), Nat.add_sub_cancel_left]; rfl)
      have HRG := hbm.range
      clear hsz h0 hd hcl2 cl hof
      unfold StepTo
      refine (if_pos (by simp [Region.wanted, yielded, e8])).mpr ?_
      refine wp_load_mid _ _ rfl mb 0 (by simp [Act.eval, e3]) _ _ HRG Tryz.underlying58 rfl (by kernel_rfl) ?_
      exact hK () w2 hJ (fun _ _ _ => rfl)
    · obtain rfl := Option.some.inj ho
      have e12 : a.tmps[12]? = some (.int .i64 attrs) := hR.reg 6 _ 12 rfl rfl (hd 6 (by kernel_rfl))
      have e13 : a.tmps[13]? = some (.agg (ansC hub k n sf st RA rn rc)) := hR.reg 7 _ 13 rfl rfl (hd 7 (by kernel_rfl))
      have e8 : a.tmps[8]? = some (.bool false) := hR.reg 2 _ 8 rfl rfl (hd 2 (by kernel_rfl))
      have HAT := Lib.hid (hJ.at (E := recE) (i := ts.length) (A := RA) (n := rn) (cap := rc) (l := recs) (by rw [List.getElem?_append_right (Nat.le_refl _), Nat.sub_self]; rfl))
      clear hsz h0 hd hcl2 cl hof
      unfold StepTo
      go_simp
      go_at_call 45
      refine (right_ans (attrs := attrs) (hub := hub) (k := k) (n := n) sf st HAT.out HALL.out hrn ha1 ha2 hh1 hh2 (by omega) (by omega) (by omega) (by omega)).mono ?_
      rintro e5 w5 ⟨rfl, hb5⟩
      exact hK () w5 (hJ.later hb5) (fun _ _ _ => rfl)
    · obtain rfl := Option.some.inj ho
      have e14 : a.tmps[14]? = some (.bool true) := hR.reg 8 _ 14 rfl rfl (hd 8 (by kernel_rfl))
      have e8 : a.tmps[8]? = some (.bool false) := hR.reg 2 _ 8 rfl rfl (hd 2 (by kernel_rfl))
      clear hsz h0 hd hcl2 cl hof
      unfold StepTo
      go_simp
      exact hK θ w2 hJ (fun _ _ _ => rfl)
    · obtain rfl := Option.some.inj ho
      have e8 : a.tmps[8]? = some (.bool false) := hR.reg 2 _ 8 rfl rfl (hd 2 (by kernel_rfl))
      have e15 : a.tmps[15]? = some (.bool false) := hR.reg 9 _ 15 rfl rfl (hd 9 (by kernel_rfl))
      clear hsz h0 hd hcl2 cl hof
      unfold StepTo
      go_simp
      exact hK θ w2 hJ (fun _ _ _ => rfl)
  case done1 =>
    intro l θ a w2 hall hJ hR
    have ha := (hR.whole [some 6, some 7, some 8, some 9, some 10, some 11, some 12, some 13, some 14, some 15, some 16] rfl rfl (by kernel_rfl) hall).trans (b := _) (c := ⟨#[.pointer (some ⟨cb, 0, none⟩), .agg (ansC hub k n sf st RA rn rc), undef, .pointer (some ⟨mb, 0, none⟩), .bool false, undef, .pointer (some ⟨cb, 0, none⟩), .bool false, .bool false, .pointer (some ⟨cb, 0, none⟩), .pointer (some ⟨cb, 0, none⟩), .pointer (some ⟨cb, 0, none⟩), .int .i64 attrs, .agg (ansC hub k n sf st RA rn rc), .bool true, .bool false, .bool false, undef, undef, undef, undef, undef, undef, undef, undef, undef, undef, undef, undef, undef, undef, undef, undef, undef, undef, undef, undef, undef, undef, undef, undef, undef, undef, undef, undef, undef], []⟩) (by kernel_rfl)
    subst ha
    clear hall hR S2
    have S3 := Lib.hid hJ
    clear hJ
    have hbm := S3.out.box (i := ts.length + 1) (b := mb) (by rw [List.getElem?_append_right (by omega), Nat.add_sub_cancel_left]; rfl)
    have m3 : w2.cell? ⟨mb, 3, none⟩ = some (.int .i64 k) := hbm.cell 3
    have m4 : w2.cell? ⟨mb, 4, none⟩ = some (.int .i64 n) := hbm.cell 4
    have zm := hbm.lt
    have HX := Lib.hid (S3.out.blk (hl2.out i0 _ _ HI.out))
    have HAT := Lib.hid (S3.out.at (E := ptrE) (hl2.out j _ _ HJ.out))
    clear hbm
    go_upto_region 4 with (go_at_call 42; go_loud (refine (find_op hk HX.out HC.out HAT.out hn HOB1.out (by omega)).mono ?_; rintro e4 w4 ⟨rfl, hb4⟩; have S4 := Lib.hid (S3.out.later hb4); clear hb4 HX HAT))
    have hbo := S4.out.blk (hl2.out io _ _ HOB.out)
    have o0 : w4.cell? ⟨ob, 0, none⟩ = some (.int .i64 1) := hbo.cell 0
    have fo := hbo.free; have zo := hbo.lt
    have hbm := S4.out.box (i := ts.length + 1) (b := mb) (by rw [List.getElem?_append_right (by omega), Nat.add_sub_cancel_left]; rfl)
    have m0 : w4.cell? ⟨mb, 0, none⟩ = some (.int .i64 6) := hbm.cell 0
    have zm4 := hbm.lt
    have HRG := Lib.hid hbm.range
    have ho4 : ∀ x ∈ ts ++ [tAt recE RA rn rc recs, tBox mb (ansC hub k n sf st RA rn rc)], x.π ≠ [15] ∧ x.π ≠ [16] := fun x hx => by
      simp only [List.mem_append, List.mem_cons, List.not_mem_nil, or_false] at hx
      rcases hx with hx | rfl | rfl
      · exact HO.out x hx
      · simp [tAt]
      · simp [tBox]
    have HO4 := Lib.hid ho4
    clear hbo hbm S3 m3 m4 zm ho4
    go_wp2_with (first
      | (refine wpList_load_mid rfl _ _ rfl mb 0 rfl _ _ HRG.out Tryz.underlying58 rfl (by kernel_rfl) ?_)
      | (go_at_call 47; go_loud (refine (ans_any (cb := cb) (k := k) (n := n) io iv ig S4.out (hl2.out io _ _ HOB.out) (hl2.out iv _ _ HCV.out) (hl2.out ig _ _ HG.out) HD.out HP.out HO4.out HF.out HT.out H1.out H2.out HOK.out hlen hL hrn (fun c h => h.data (i := ts.length) (by rw [List.getElem?_append_right (Nat.le_refl _), Nat.sub_self]; rfl))).mono ?_; rintro e5 w5 ⟨rfl, hs5⟩; have S5 := Lib.hid hs5; clear hs5)))
    go_ret
    refine ⟨rfl, ?_⟩
    have hil := (List.getElem?_eq_some_iff.1 HOB.out).1
    have hvl := (List.getElem?_eq_some_iff.1 HCV.out).1
    have hgl := (List.getElem?_eq_some_iff.1 HG.out).1
    have S6 := S5.out
    unfold qAft at S6 ⊢
    rw [List.set_append_left _ _ hvl, List.set_append_left _ _ (by simpa using hgl), List.set_append_left _ _ (by simpa using hil)] at S6
    exact S6.pick (List.sublist_append_left _ _)
set_option maxHeartbeats 8000000 in
theorem hear_no {W w : World} {ts : List Thing} {π πo πv πg : List Int} {cb k n ob cv g bn bc : Nat} {C : Array Value} {attrs hub page after f t sf st : Int} {first : Bool} {OA BA RA : Option Addr} {on oc rn rc : Nat} {bs : List Nat} {l : List Run} {bl : List Rng} {L recs : List Rec} (i0 j io : Nat) (hk : k < 16) (h : Sta W ts w) (hi : ts[i0]? = some (tBlk π cb C)) (hC0 : C[0]? = some (.int .i64 attrs)) (hC : C[1 + k]? = some (.slice OA on oc)) (hj : ts[j]? = some (tAt ptrE OA on oc bs)) (hn : 1 ≤ n) (hob' : bs[n - 1]? = some ob) (hn2 : n ≤ 500)
    {st0 : Int} (hst : st0 ≠ 1) (hob : ts[io]? = some (tBlk πo ob (opQ st0 hub page BA bn bc after first (some ⟨cv, 0, none⟩) g))) (hrn : rn ≤ 10000) (hr : ∀ c, S0 W ts c w → recE.At w (Quiet c w) RA rn rc recs)
    (hall : ∀ r ∈ recs, rightF attrs r.id r.ver r.vals.length = true) (ha1 : 1 ≤ attrs) (ha2 : attrs ≤ 8) (hh1 : 0 ≤ hub) (hh2 : hub < attrs) :
    Calls Tryz.prog 16 #[.pointer (some ⟨cb, 0, none⟩), .agg (ansC hub k n sf st RA rn rc)] w fun e w' => e = .returned (.bool false) ∧ Sta W ts w' := by
  have HL2 : ∀ (j : Nat) (t : Thing) (m : List Thing), ts[j]? = some t → (ts ++ m)[j]? = some t := fun j t m h => by rw [List.getElem?_append_left (List.getElem?_eq_some_iff.1 h).1]; exact h
  have hl2 := Lib.hid HL2
  have HI := Lib.hid hi; have HC0 := Lib.hid hC0; have HC := Lib.hid hC; have HJ := Lib.hid hj; have HOB1 := Lib.hid hob'; have HOB := Lib.hid hob
  have HALL := Lib.hid hall
  have S1 := Lib.hid (show Sta W (ts ++ [tAt recE RA rn rc recs, tBox w.heap.size (ansC hub k n sf st RA rn rc)]) (w.alloc (.cells (ansC hub k n sf st RA rn rc) 58)) from by
    have q := (h.addD (t := tAt recE RA rn rc recs) rfl hr).addBox (ansC hub k n sf st RA rn rc) 58
    rw [List.append_assoc] at q
    exact q)
  clear h hi hC0 hC hj hob' hob hall hr HL2
  go_enter Tryz.func16, Tryz.ntmps16
  go_upto_region 1 with fail
  refine wp_abs (fun wx => Sta W (ts ++ [tAt recE RA rn rc recs, tBox w.heap.size (ansC hub k n sf st RA rn rc)]) wx) S1.out ?_
  clear S1
  generalize w.heap.size = mb
  intro wx hsx
  have S2 := Lib.hid hsx
  clear hsx
  refine wp_regs (Θ := Unit) (by kernel_rfl) (by kernel_rfl) 46 rfl (by kernel_rfl) (fun θ q9 => ([.pointer (some ⟨cb, 0, none⟩), .bool false, .bool false, .pointer (some ⟨cb, 0, none⟩), .pointer (some ⟨cb, 0, none⟩), .pointer (some ⟨cb, 0, none⟩), .int .i64 attrs, .agg (ansC hub k n sf st RA rn rc), .bool true, .bool false, .bool false] : List Value).getD q9 undef)
    (fun l θ w2 => Sta W (ts ++ [tAt recE RA rn rc recs, tBox mb (ansC hub k n sf st RA rn rc)]) w2) () ?start1 ?step1 ?done1
  case start1 =>
    exact S2.out.later (Same.drew _).1
  case step1 =>
    intro l θ a w2 z o K5 ho h0 hsz hd hcl2 hJ hR hK
    have hz : z < 11 := (Array.getElem?_eq_some_iff.1 ho).1
    have hof := getD_ff h0
    have cl : ∀ j k, Region.waitsFor .any _ j k = true → l.getD k false = false → l.getD j false = false := fun j k hw hk => by
      cases hj : l.getD j false with
      | false => rfl
      | true => rw [hcl2 j k hw hj] at hk; cases hk
    have so : ∀ k, z ≠ k → (l.setIfInBounds z true).getD k false = l.getD k false := fun k hk => getD_set_other hk
    have se : (l.setIfInBounds z true).getD z false = true := getD_set_self (by rw [hsz]; exact (Array.getElem?_eq_some_iff.1 ho).1)
    have hc : z = 0 ∨ z = 1 ∨ z = 2 ∨ z = 3 ∨ z = 4 ∨ z = 5 ∨ z = 6 ∨ z = 7 ∨ z = 8 ∨ z = 9 ∨ z = 10 := by omega
    rcases hc with rfl | rfl | rfl | rfl | rfl | rfl | rfl | rfl | rfl | rfl | rfl
    · obtain rfl := Option.some.inj ho
      have e0 : a.tmps[0]? = some (.pointer (some ⟨cb, 0, none⟩)) := (hR.outer 0 (by kernel_rfl)).trans rfl
      clear hsz h0 hd hcl2 cl hof
      unfold StepTo
      go_simp
      exact hK θ w2 hJ (fun _ _ _ => rfl)
    · obtain rfl := Option.some.inj ho
      have e6 : a.tmps[6]? = some (.pointer (some ⟨cb, 0, none⟩)) := hR.reg 0 _ 6 rfl rfl (hd 0 (by kernel_rfl))
      clear hsz h0 hd hcl2 cl hof
      unfold StepTo
      go_simp
      exact hK θ w2 hJ (fun _ _ _ => rfl)
    · obtain rfl := Option.some.inj ho
      have e7 : a.tmps[7]? = some (.bool false) := hR.reg 1 _ 7 rfl rfl (hd 1 (by kernel_rfl))
      clear hsz h0 hd hcl2 cl hof
      unfold StepTo
      go_simp
      exact hK θ w2 hJ (fun _ _ _ => rfl)
    · obtain rfl := Option.some.inj ho
      have e8 : a.tmps[8]? = some (.bool false) := hR.reg 2 _ 8 rfl rfl (hd 2 (by kernel_rfl))
      have e0 : a.tmps[0]? = some (.pointer (some ⟨cb, 0, none⟩)) := (hR.outer 0 (by kernel_rfl)).trans rfl
      clear hsz h0 hd hcl2 cl hof
      unfold StepTo
      go_simp
      exact hK θ w2 hJ (fun _ _ _ => rfl)
    · obtain rfl := Option.some.inj ho
      have e9 : a.tmps[9]? = some (.pointer (some ⟨cb, 0, none⟩)) := hR.reg 3 _ 9 rfl rfl (hd 3 (by kernel_rfl))
      have e8 : a.tmps[8]? = some (.bool false) := hR.reg 2 _ 8 rfl rfl (hd 2 (by kernel_rfl))
      clear hsz h0 hd hcl2 cl hof
      unfold StepTo
      go_simp
      exact hK θ w2 hJ (fun _ _ _ => rfl)
    · obtain rfl := Option.some.inj ho
      have e10 : a.tmps[10]? = some (.pointer (some ⟨cb, 0, none⟩)) := hR.reg 4 _ 10 rfl rfl (hd 4 (by kernel_rfl))
      have e8 : a.tmps[8]? = some (.bool false) := hR.reg 2 _ 8 rfl rfl (hd 2 (by kernel_rfl))
      clear hsz h0 hd hcl2 cl hof
      unfold StepTo
      go_simp
      exact hK θ w2 hJ (fun _ _ _ => rfl)
    · obtain rfl := Option.some.inj ho
      have e11 : a.tmps[11]? = some (.pointer (some ⟨cb, 0, none⟩)) := hR.reg 5 _ 11 rfl rfl (hd 5 (by kernel_rfl))
      have e8 : a.tmps[8]? = some (.bool false) := hR.reg 2 _ 8 rfl rfl (hd 2 (by kernel_rfl))
      have hbx := hJ.blk (hl2.out i0 _ _ HI.out)
      have d0 : w2.cell? ⟨cb, 0, none⟩ = some (.int .i64 attrs) := (hbx.cell 0).trans HC0.out
      have fb := hbx.free; have zb := hbx.lt
      clear hbx
      clear hsz h0 hd hcl2 cl hof
      unfold StepTo
      go_simp
      exact hK θ w2 hJ (fun _ _ _ => rfl)
    · obtain rfl := Option.some.inj ho
      have e8 : a.tmps[8]? = some (.bool false) := hR.reg 2 _ 8 rfl rfl (hd 2 (by kernel_rfl))
      have e3 : a.tmps[3]? = some (.pointer (some ⟨mb, 0, none⟩)) := (hR.outer 3 (by kernel_rfl)).trans rfl
      have hbm := hJ.box (i := ts.length + 1) (b := mb) (by rw [List.getElem?_append_right (by omega), Nat.add_sub_cancel_left]; rfl)
      have HRG := hbm.range
      clear hsz h0 hd hcl2 cl hof
      unfold StepTo
      refine (if_pos (by simp [Region.wanted, yielded, e8])).mpr ?_
      refine wp_load_mid _ _ rfl mb 0 (by simp [Act.eval, e3]) _ _ HRG Tryz.underlying58 rfl (by kernel_rfl) ?_
      exact hK () w2 hJ (fun _ _ _ => rfl)
    · obtain rfl := Option.some.inj ho
      have e12 : a.tmps[12]? = some (.int .i64 attrs) := hR.reg 6 _ 12 rfl rfl (hd 6 (by kernel_rfl))
      have e13 : a.tmps[13]? = some (.agg (ansC hub k n sf st RA rn rc)) := hR.reg 7 _ 13 rfl rfl (hd 7 (by kernel_rfl))
      have e8 : a.tmps[8]? = some (.bool false) := hR.reg 2 _ 8 rfl rfl (hd 2 (by kernel_rfl))
      have HAT := Lib.hid (hJ.at (E := recE) (i := ts.length) (A := RA) (n := rn) (cap := rc) (l := recs) (by rw [List.getElem?_append_right (Nat.le_refl _), Nat.sub_self]; rfl))
      clear hsz h0 hd hcl2 cl hof
      unfold StepTo
      go_simp
      go_at_call 45
      refine (right_ans (attrs := attrs) (hub := hub) (k := k) (n := n) sf st HAT.out HALL.out hrn ha1 ha2 hh1 hh2 (by omega) (by omega) (by omega) (by omega)).mono ?_
      rintro e5 w5 ⟨rfl, hb5⟩
      exact hK () w5 (hJ.later hb5) (fun _ _ _ => rfl)
    · obtain rfl := Option.some.inj ho
      have e14 : a.tmps[14]? = some (.bool true) := hR.reg 8 _ 14 rfl rfl (hd 8 (by kernel_rfl))
      have e8 : a.tmps[8]? = some (.bool false) := hR.reg 2 _ 8 rfl rfl (hd 2 (by kernel_rfl))
      clear hsz h0 hd hcl2 cl hof
      unfold StepTo
      go_simp
      exact hK θ w2 hJ (fun _ _ _ => rfl)
    · obtain rfl := Option.some.inj ho
      have e8 : a.tmps[8]? = some (.bool false) := hR.reg 2 _ 8 rfl rfl (hd 2 (by kernel_rfl))
      have e15 : a.tmps[15]? = some (.bool false) := hR.reg 9 _ 15 rfl rfl (hd 9 (by kernel_rfl))
      clear hsz h0 hd hcl2 cl hof
      unfold StepTo
      go_simp
      exact hK θ w2 hJ (fun _ _ _ => rfl)
  case done1 =>
    intro l θ a w2 hall hJ hR
    have ha := (hR.whole [some 6, some 7, some 8, some 9, some 10, some 11, some 12, some 13, some 14, some 15, some 16] rfl rfl (by kernel_rfl) hall).trans (b := _) (c := ⟨#[.pointer (some ⟨cb, 0, none⟩), .agg (ansC hub k n sf st RA rn rc), undef, .pointer (some ⟨mb, 0, none⟩), .bool false, undef, .pointer (some ⟨cb, 0, none⟩), .bool false, .bool false, .pointer (some ⟨cb, 0, none⟩), .pointer (some ⟨cb, 0, none⟩), .pointer (some ⟨cb, 0, none⟩), .int .i64 attrs, .agg (ansC hub k n sf st RA rn rc), .bool true, .bool false, .bool false, undef, undef, undef, undef, undef, undef, undef, undef, undef, undef, undef, undef, undef, undef, undef, undef, undef, undef, undef, undef, undef, undef, undef, undef, undef, undef, undef, undef, undef], []⟩) (by kernel_rfl)
    subst ha
    clear hall hR S2
    have S3 := Lib.hid hJ
    clear hJ
    have hbm := S3.out.box (i := ts.length + 1) (b := mb) (by rw [List.getElem?_append_right (by omega), Nat.add_sub_cancel_left]; rfl)
    have m3 : w2.cell? ⟨mb, 3, none⟩ = some (.int .i64 k) := hbm.cell 3
    have m4 : w2.cell? ⟨mb, 4, none⟩ = some (.int .i64 n) := hbm.cell 4
    have zm := hbm.lt
    have HX := Lib.hid (S3.out.blk (hl2.out i0 _ _ HI.out))
    have HAT := Lib.hid (S3.out.at (E := ptrE) (hl2.out j _ _ HJ.out))
    clear hbm
    go_upto_region 4 with (go_at_call 42; go_loud (refine (find_op hk HX.out HC.out HAT.out hn HOB1.out (by omega)).mono ?_; rintro e4 w4 ⟨rfl, hb4⟩; have S4 := Lib.hid (S3.out.later hb4); clear hb4 HX HAT))
    have hbo := S4.out.blk (hl2.out io _ _ HOB.out)
    have o0 : w4.cell? ⟨ob, 0, none⟩ = some (.int .i64 st0) := hbo.cell 0
    have fo := hbo.free; have zo := hbo.lt
    have hsb : (st0 != 1) = true := by simp [hst]
    clear hbo S3 m3 m4 zm hst
    go_wp2
    go_ret
    exact ⟨rfl, S4.out.pick (List.sublist_append_left _ _)⟩
end Go.Proofs.YtdpamikobmefeaaGreat

namespace Go.Proofs.YtdpamikobmefeaaGreat
open Go.RowKit Go.ChangeShapes Go.Maps
set_option maxRecDepth 100000
set_option linter.unusedVariables false
set_option linter.unusedSimpArgs false

set_option maxHeartbeats 8000000 in
theorem out_wait {W w : World} {ts : List Thing} {π πo πg : List Int} {cb k n ob g : Nat} {C : Array Value} {hub page after : Int} {first : Bool} {OA BA : Option Addr} {πv : List Int} {cv : Nat} {f t : Int} {lr : List Run} {on oc bn bc : Nat} {bs : List Nat} {bl : List Rng} {L : List Rec} (i0 j io ig : Nat) (hk : k < 16) (h : Sta W ts w) (hi : ts[i0]? = some (tBlk π cb C)) (hC : C[1 + k]? = some (.slice OA on oc)) (hj : ts[j]? = some (tAt ptrE OA on oc bs))
    (hn : 1 ≤ n) (ho : bs[n - 1]? = some ob) (hn2 : n < 1000000) (hob : ts[io]? = some (tBlk πo ob (opQ 1 hub page BA bn bc after first (some ⟨cv, 0, none⟩) g))) (hg : ts[ig]? = some (tGath πg g bl L)) (iv : Nat) (hcv : ts[iv]? = some (tCov πv cv f t lr)) (hlr : lr.length ≤ 1000) (hcol : ∀ x ∈ ts, x.π ≠ [13] ∧ x.π ≠ [14]) :
    Calls Tryz.prog 14 #[.pointer (some ⟨cb, 0, none⟩), .int .i64 k, .int .i64 n] w fun e w' => ∃ (B : Option Addr) (c : Nat), e = .returned (.tuple #[.agg (outC n 1 hub (.slice none 0 0) (.slice B (othersF lr (sizeF f t)).length c) (.slice none 0 0)), .int .i64 0]) ∧ Sta W (ts ++ [tAt spnE B (othersF lr (sizeF f t)).length c ((othersF lr (sizeF f t)).map (spnF f))]) w' := by
  have HI := Lib.hid hi; have HC := Lib.hid hC; have HJ := Lib.hid hj; have HO := Lib.hid ho; have HOB := Lib.hid hob; have HG := Lib.hid hg; have HCOL := Lib.hid hcol
  have HCV := Lib.hid hcv
  obtain ⟨gp, hgp⟩ : ∃ gp, othersF lr (sizeF f t) = gp := ⟨_, rfl⟩
  have HGP := Lib.hid hgp
  rw [hgp]
  have S1 := Lib.hid (show Sta W (ts ++ [tBlk [13] w.heap.size outZ]) (w.alloc (.cells outZ 45)) from h.addBlk [13] (by simp) (fun x hx => (hcol x hx).1) outZ 45)
  have hlp := fun (i : Nat) (t u : Thing) (h : ts[i]? = some t) => (show (ts ++ [u])[i]? = some t by rw [List.getElem?_append_left (List.getElem?_eq_some_iff.1 h).1]; exact h)
  have HLP := Lib.hid hlp
  have hX := S1.out.blk (HLP.out i0 _ _ hi)
  have hat := S1.out.at (E := ptrE) (HLP.out j _ _ hj)
  have HX := Lib.hid hX; have HAT := Lib.hid hat
  clear hgp hcv
  clear h hi hC hj ho hob hg hcol hlp hX hat
  go_enter Tryz.func14, Tryz.ntmps14
  go_upto_region 9 with (first
    | (go_at_call 41; go_loud (refine (there_yes k hk _).mono ?_; rintro e1 w1 ⟨rfl, rfl⟩))
    | (go_at_call 42; go_loud (refine (find_op hk HX.out HC.out HAT.out hn HO.out hn2).mono ?_; rintro e2 w2 ⟨rfl, hb2⟩; have S2 := Lib.hid (S1.out.later hb2); have hbx := S2.out.blk (HLP.out io _ _ HOB.out); have d0 := hbx.cell 0; have d1 := hbx.cell 1; have fo := hbx.free; have zo := hbx.lt; clear hb2 hbx)))
  generalize hrb : w.heap.size = rb at S2 ⊢
  refine wp_abs (fun wx => Sta W (ts ++ [tBlk [13] rb outZ, tBlk [14] w2.heap.size (outC n 1 0 (.slice none 0 0) (.slice none 0 0) (.slice none 0 0))]) wx) ?_ ?_
  · have s3 := S2.out.addBlk [14] (by simp) (fun x hx => by
      simp only [List.mem_append, List.mem_singleton] at hx
      rcases hx with hx | rfl
      · exact (HCOL.out x hx).2
      · simp [tBlk]) (outC n 1 0 (.slice none 0 0) (.slice none 0 0) (.slice none 0 0)) 45
    simpa [List.append_assoc] using s3
  generalize w2.heap.size = xb
  intro wx hsx
  have S3 := Lib.hid hsx
  clear S2 S1 HX HAT d0 d1 fo zo hsx hrb
  have hl2 := fun (i : Nat) (t : Thing) (l : List Thing) (h : ts[i]? = some t) => (show (ts ++ l)[i]? = some t by rw [List.getElem?_append_left (List.getElem?_eq_some_iff.1 h).1]; exact h)
  have HL2 := Lib.hid hl2
  have hl3 : ∀ (j : Nat) (t : Thing) (l : List Thing), l[j]? = some t → (ts ++ l)[ts.length + j]? = some t := fun j t l h => by rw [List.getElem?_append_right (by omega), show ts.length + j - ts.length = j by omega]; exact h
  have HL3 := Lib.hid hl3
  clear hl2 hl3
  have hbx := S3.out.blk (HL2.out io _ _ HOB.out)
  have d0 : wx.cell? ⟨ob, 0, none⟩ = some (.int .i64 1) := hbx.cell 0
  have d1 : wx.cell? ⟨ob, 1, none⟩ = some (.bool false) := hbx.cell 1
  have d6 : wx.cell? ⟨ob, 6, none⟩ = some (.int .i64 hub) := hbx.cell 6
  have fo := hbx.free; have zo := hbx.lt
  have hxx := S3.out.blk (i := ts.length + 1) (π := [14]) (b := xb) (HL3.out 1 _ _ rfl)
  have x2 : wx.cell? ⟨xb, 2, none⟩ = some (.int .i64 0) := hxx.cell 2
  have fx := hxx.free; have zx := hxx.lt
  clear hbx hxx
  go_upto_region 13 with fail
  refine wp_abs (fun wy => Sta W (ts ++ [tBlk [13] rb outZ, tBlk [14] xb (outC n 1 hub (.slice none 0 0) (.slice none 0 0) (.slice none 0 0))]) wy) (S3.out.storeR 1 2 (.int .i64 hub) rfl (by simp) rfl) ?_
  intro wy hsy
  have S4 := Lib.hid hsy
  clear S3 d0 d1 d6 fo zo x2 fx zx hsy
  have hbx := S4.out.blk (HL2.out io _ _ HOB.out)
  have d11 : wy.cell? ⟨ob, 11, none⟩ = some (.pointer (some ⟨cv, 0, none⟩)) := hbx.cell 11
  have fo := hbx.free; have zo := hbx.lt
  clear hbx
  go_upto_region 14 with (go_at_call 39; go_loud (refine (cov_gaps (i := iv) S4.out (HL2.out iv _ _ HCV.out) hlr).mono ?_; rw [HGP.out]; rintro e5 w5 ⟨B5, c5, rfl, hs5⟩; have S5 := Lib.hid (show Sta W (ts ++ [tBlk [13] rb outZ, tBlk [14] xb (outC n 1 hub (.slice none 0 0) (.slice none 0 0) (.slice none 0 0)), tAt spnE B5 gp.length c5 (gp.map (spnF f))]) w5 from by rw [List.append_assoc] at hs5; exact hs5); have hx5 := S5.out.blkR 1 rfl; have x4 : w5.cell? ⟨xb, 4, none⟩ = some (.slice none 0 0) := hx5.cell 4; have fx5 := hx5.free; have zx5 := hx5.lt; clear hs5 hx5))
  refine wp_abs (fun wz => Sta W (ts ++ [tBlk [13] rb outZ, tBlk [14] xb (outC n 1 hub (.slice none 0 0) (.slice B5 gp.length c5) (.slice none 0 0)), tAt spnE B5 gp.length c5 (gp.map (spnF f))]) wz) (S5.out.storeR 1 4 (.slice B5 gp.length c5) rfl (by simp) rfl) ?_
  intro wz hsz
  have S6 := Lib.hid hsz
  clear S4 S5 d11 fo zo x4 fx5 zx5 hsz
  have hbz := S6.out.blk (HL2.out io _ _ HOB.out)
  have z0 : wz.cell? ⟨ob, 0, none⟩ = some (.int .i64 1) := hbz.cell 0
  have z7 : wz.cell? ⟨ob, 7, none⟩ = some (.int .i64 page) := hbz.cell 7
  have z9 : wz.cell? ⟨ob, 9, none⟩ = some (.int .u64 after) := hbz.cell 9
  have z10 : wz.cell? ⟨ob, 10, none⟩ = some (.bool first) := hbz.cell 10
  have z12 : wz.cell? ⟨ob, 12, none⟩ = some (.pointer (some ⟨g, 0, none⟩)) := hbz.cell 12
  have fo := hbz.free; have zo := hbz.lt
  clear hbz
  go_upto_region 19 with fail
  have SX := Lib.hid S6.out
  clear S6 z0 z7 z9 z10 z12 fo zo
  have hxx := SX.out.blkR 1 rfl
  have x0 : wz.cell? ⟨xb, 0, none⟩ = some (.int .i64 n) := hxx.cell 0
  have x1 : wz.cell? ⟨xb, 1, none⟩ = some (.int .i64 1) := hxx.cell 1
  have x2 : wz.cell? ⟨xb, 2, none⟩ = some (.int .i64 hub) := hxx.cell 2
  have x3 : wz.cell? ⟨xb, 3, none⟩ = some (.slice none 0 0) := hxx.cell 3
  have x4 : wz.cell? ⟨xb, 4, none⟩ = some (.slice B5 gp.length c5) := hxx.cell 4
  have x5 : wz.cell? ⟨xb, 5, none⟩ = some (.slice none 0 0) := hxx.cell 5
  have fx := hxx.free; have zx := hxx.lt
  have hrr := SX.out.blkR 0 rfl
  have r0 : wz.cell? ⟨rb, 0, none⟩ = some (.int .i64 0) := hrr.cell 0
  have r1 : wz.cell? ⟨rb, 1, none⟩ = some (.int .i64 0) := hrr.cell 1
  have r2 : wz.cell? ⟨rb, 2, none⟩ = some (.int .i64 0) := hrr.cell 2
  have r3 : wz.cell? ⟨rb, 3, none⟩ = some (.slice none 0 0) := hrr.cell 3
  have r4 : wz.cell? ⟨rb, 4, none⟩ = some (.slice none 0 0) := hrr.cell 4
  have r5 : wz.cell? ⟨rb, 5, none⟩ = some (.slice none 0 0) := hrr.cell 5
  have fr := hrr.free; have zr := hrr.lt
  have hne : rb ≠ xb := by
    obtain ⟨c9, h9⟩ := id SX.out
    have q1 : c9 rb = [13] := (h9.get (i := ts.length) (t := tBlk [13] rb outZ) (HL3.out 0 _ _ rfl)).2
    have q2 : c9 xb = [14] := (h9.get (i := ts.length + 1) (HL3.out 1 _ _ rfl)).2
    intro e
    rw [e, q2] at q1
    cases q1
  clear hxx hrr
  go_wp2
  have T0 := SX.out
  have T1 := T0.storeR 0 0 (.int .i64 n) rfl (by simp) rfl
  have T2 := T1.storeR 0 1 (.int .i64 1) rfl (by simp) rfl
  have T3 := T2.storeR 0 2 (.int .i64 hub) rfl (by simp) rfl
  have T4 := T3.storeR 0 3 (.slice none 0 0) rfl (by simp) rfl
  have T5 := T4.storeR 0 4 (.slice B5 gp.length c5) rfl (by simp) rfl
  have T6 := T5.storeR 0 5 (.slice none 0 0) rfl (by simp) rfl
  have TT := Lib.hid T6
  clear T0 T1 T2 T3 T4 T5 T6 SX x0 x1 x2 x3 x4 x5 r0 r1 r2 r3 r4 r5 fx zx fr zr hne
  revert TT
  generalize ((((((wz.setCell ⟨rb, 0, none⟩ (.int .i64 n)).setCell ⟨rb, 1, none⟩ (.int .i64 1)).setCell ⟨rb, 2, none⟩ (.int .i64 hub)).setCell ⟨rb, 3, none⟩ (.slice none 0 0)).setCell ⟨rb, 4, none⟩ (.slice B5 gp.length c5)).setCell ⟨rb, 5, none⟩ (.slice none 0 0)) = wv
  intro TT
  have hrr := TT.out.blkR 0 rfl
  have r0 : wv.cell? ⟨rb, 0, none⟩ = some (.int .i64 n) := hrr.cell 0
  have r1 : wv.cell? ⟨rb, 1, none⟩ = some (.int .i64 1) := hrr.cell 1
  have r2 : wv.cell? ⟨rb, 2, none⟩ = some (.int .i64 hub) := hrr.cell 2
  have r3 : wv.cell? ⟨rb, 3, none⟩ = some (.slice none 0 0) := hrr.cell 3
  have r4 : wv.cell? ⟨rb, 4, none⟩ = some (.slice B5 gp.length c5) := hrr.cell 4
  have r5 : wv.cell? ⟨rb, 5, none⟩ = some (.slice none 0 0) := hrr.cell 5
  have fr := hrr.free
  clear hrr
  refine bodyPost_ret (v := .tuple #[.agg (outC n 1 hub (.slice none 0 0) (.slice B5 gp.length c5) (.slice none 0 0)), .int .i64 0]) (by simp [results, Tryz.results14, go_sem, r0, r1, r2, r3, r4, r5, fr]) rfl ?_
  exact ⟨B5, c5, rfl, TT.out.pick (List.Sublist.append (List.Sublist.refl _) (.cons _ (.cons _ (List.Sublist.refl _))))⟩
set_option maxHeartbeats 8000000 in
theorem out_part {W w : World} {ts : List Thing} {π πo πg : List Int} {cb k n ob g : Nat} {C : Array Value} {hub page after : Int} {first : Bool} {OA BA : Option Addr} {πv : List Int} {cv : Nat} {f t : Int} {lr : List Run} {on oc bn bc : Nat} {bs : List Nat} {bl : List Rng} {L all rest : List Rec} {m : Nat} (i0 j io ig : Nat) (hk : k < 16) (h : Sta W ts w) (hi : ts[i0]? = some (tBlk π cb C)) (hC : C[1 + k]? = some (.slice OA on oc)) (hj : ts[j]? = some (tAt ptrE OA on oc bs))
    (hn : 1 ≤ n) (ho : bs[n - 1]? = some ob) (hn2 : n < 1000000) (hob : ts[io]? = some (tBlk πo ob (opQ 3 hub page BA bn bc after first (some ⟨cv, 0, none⟩) g))) (hg : ts[ig]? = some (tGath πg g bl L)) (iv : Nat) (hcv : ts[iv]? = some (tCov πv cv f t lr)) (hlr : lr.length ≤ 1000) (hcol : ∀ x ∈ ts, x.π ≠ [13] ∧ x.π ≠ [14])
    (hL : L.length ≤ 1000000) (hu : UpOf L all) (hr : restF after first all = rest) (hm : manyF page rest.length = m) (hb : decide (m < rest.length) = false) :
    Calls Tryz.prog 14 #[.pointer (some ⟨cb, 0, none⟩), .int .i64 k, .int .i64 n] w fun e w' => ∃ (A : Option Addr) (B : Option Addr) (c : Nat), e = .returned (.tuple #[.agg (outC n 3 hub (.slice A m m) (.slice B (othersF lr (sizeF f t)).length c) (.slice none 0 0)), .int .i64 0]) ∧ Sta W (ts ++ [tAt spnE B (othersF lr (sizeF f t)).length c ((othersF lr (sizeF f t)).map (spnF f)), tAt recE A m m (rest.take m)]) w' := by
  have HI := Lib.hid hi; have HC := Lib.hid hC; have HJ := Lib.hid hj; have HO := Lib.hid ho; have HOB := Lib.hid hob; have HG := Lib.hid hg; have HCOL := Lib.hid hcol
  have HCV := Lib.hid hcv
  obtain ⟨gp, hgp⟩ : ∃ gp, othersF lr (sizeF f t) = gp := ⟨_, rfl⟩
  have HGP := Lib.hid hgp
  rw [hgp]
  have HU := Lib.hid hu; have HR := Lib.hid hr; have HM := Lib.hid hm; have HB := Lib.hid hb
  have S1 := Lib.hid (show Sta W (ts ++ [tBlk [13] w.heap.size outZ]) (w.alloc (.cells outZ 45)) from h.addBlk [13] (by simp) (fun x hx => (hcol x hx).1) outZ 45)
  have hlp := fun (i : Nat) (t u : Thing) (h : ts[i]? = some t) => (show (ts ++ [u])[i]? = some t by rw [List.getElem?_append_left (List.getElem?_eq_some_iff.1 h).1]; exact h)
  have HLP := Lib.hid hlp
  have hX := S1.out.blk (HLP.out i0 _ _ hi)
  have hat := S1.out.at (E := ptrE) (HLP.out j _ _ hj)
  have HX := Lib.hid hX; have HAT := Lib.hid hat
  clear hgp hcv
  clear h hi hC hj ho hob hg hcol hu hr hm hb hlp hX hat
  go_enter Tryz.func14, Tryz.ntmps14
  go_upto_region 9 with (first
    | (go_at_call 41; go_loud (refine (there_yes k hk _).mono ?_; rintro e1 w1 ⟨rfl, rfl⟩))
    | (go_at_call 42; go_loud (refine (find_op hk HX.out HC.out HAT.out hn HO.out hn2).mono ?_; rintro e2 w2 ⟨rfl, hb2⟩; have S2 := Lib.hid (S1.out.later hb2); have hbx := S2.out.blk (HLP.out io _ _ HOB.out); have d0 := hbx.cell 0; have d1 := hbx.cell 1; have fo := hbx.free; have zo := hbx.lt; clear hb2 hbx)))
  generalize hrb : w.heap.size = rb at S2 ⊢
  refine wp_abs (fun wx => Sta W (ts ++ [tBlk [13] rb outZ, tBlk [14] w2.heap.size (outC n 3 0 (.slice none 0 0) (.slice none 0 0) (.slice none 0 0))]) wx) ?_ ?_
  · have s3 := S2.out.addBlk [14] (by simp) (fun x hx => by
      simp only [List.mem_append, List.mem_singleton] at hx
      rcases hx with hx | rfl
      · exact (HCOL.out x hx).2
      · simp [tBlk]) (outC n 3 0 (.slice none 0 0) (.slice none 0 0) (.slice none 0 0)) 45
    simpa [List.append_assoc] using s3
  generalize w2.heap.size = xb
  intro wx hsx
  have S3 := Lib.hid hsx
  clear S2 S1 HX HAT d0 d1 fo zo hsx hrb
  have hl2 := fun (i : Nat) (t : Thing) (l : List Thing) (h : ts[i]? = some t) => (show (ts ++ l)[i]? = some t by rw [List.getElem?_append_left (List.getElem?_eq_some_iff.1 h).1]; exact h)
  have HL2 := Lib.hid hl2
  have hl3 : ∀ (j : Nat) (t : Thing) (l : List Thing), l[j]? = some t → (ts ++ l)[ts.length + j]? = some t := fun j t l h => by rw [List.getElem?_append_right (by omega), show ts.length + j - ts.length = j by omega]; exact h
  have HL3 := Lib.hid hl3
  clear hl2 hl3
  have hbx := S3.out.blk (HL2.out io _ _ HOB.out)
  have d0 : wx.cell? ⟨ob, 0, none⟩ = some (.int .i64 3) := hbx.cell 0
  have d1 : wx.cell? ⟨ob, 1, none⟩ = some (.bool false) := hbx.cell 1
  have d6 : wx.cell? ⟨ob, 6, none⟩ = some (.int .i64 hub) := hbx.cell 6
  have fo := hbx.free; have zo := hbx.lt
  have hxx := S3.out.blk (i := ts.length + 1) (π := [14]) (b := xb) (HL3.out 1 _ _ rfl)
  have x2 : wx.cell? ⟨xb, 2, none⟩ = some (.int .i64 0) := hxx.cell 2
  have fx := hxx.free; have zx := hxx.lt
  clear hbx hxx
  go_upto_region 13 with fail
  refine wp_abs (fun wy => Sta W (ts ++ [tBlk [13] rb outZ, tBlk [14] xb (outC n 3 hub (.slice none 0 0) (.slice none 0 0) (.slice none 0 0))]) wy) (S3.out.storeR 1 2 (.int .i64 hub) rfl (by simp) rfl) ?_
  intro wy hsy
  have S4 := Lib.hid hsy
  clear S3 d0 d1 d6 fo zo x2 fx zx hsy
  have hbx := S4.out.blk (HL2.out io _ _ HOB.out)
  have d11 : wy.cell? ⟨ob, 11, none⟩ = some (.pointer (some ⟨cv, 0, none⟩)) := hbx.cell 11
  have fo := hbx.free; have zo := hbx.lt
  clear hbx
  go_upto_region 14 with (go_at_call 39; go_loud (refine (cov_gaps (i := iv) S4.out (HL2.out iv _ _ HCV.out) hlr).mono ?_; rw [HGP.out]; rintro e5 w5 ⟨B5, c5, rfl, hs5⟩; have S5 := Lib.hid (show Sta W (ts ++ [tBlk [13] rb outZ, tBlk [14] xb (outC n 3 hub (.slice none 0 0) (.slice none 0 0) (.slice none 0 0)), tAt spnE B5 gp.length c5 (gp.map (spnF f))]) w5 from by rw [List.append_assoc] at hs5; exact hs5); have hx5 := S5.out.blkR 1 rfl; have x4 : w5.cell? ⟨xb, 4, none⟩ = some (.slice none 0 0) := hx5.cell 4; have fx5 := hx5.free; have zx5 := hx5.lt; clear hs5 hx5))
  refine wp_abs (fun wz => Sta W (ts ++ [tBlk [13] rb outZ, tBlk [14] xb (outC n 3 hub (.slice none 0 0) (.slice B5 gp.length c5) (.slice none 0 0)), tAt spnE B5 gp.length c5 (gp.map (spnF f))]) wz) (S5.out.storeR 1 4 (.slice B5 gp.length c5) rfl (by simp) rfl) ?_
  intro wz hsz
  have S6 := Lib.hid hsz
  clear S4 S5 d11 fo zo x4 fx5 zx5 hsz
  have hbz := S6.out.blk (HL2.out io _ _ HOB.out)
  have z0 : wz.cell? ⟨ob, 0, none⟩ = some (.int .i64 3) := hbz.cell 0
  have z7 : wz.cell? ⟨ob, 7, none⟩ = some (.int .i64 page) := hbz.cell 7
  have z9 : wz.cell? ⟨ob, 9, none⟩ = some (.int .u64 after) := hbz.cell 9
  have z10 : wz.cell? ⟨ob, 10, none⟩ = some (.bool first) := hbz.cell 10
  have z12 : wz.cell? ⟨ob, 12, none⟩ = some (.pointer (some ⟨g, 0, none⟩)) := hbz.cell 12
  have fo := hbz.free; have zo := hbz.lt
  clear hbz
  go_upto_region 15 with fail
  go_region_held3 (fun w' => Same wz w') (with_reducible (first | assumption | exact Same.drew _))
    ((go_at_call 43; (with_reducible refine (ga_page (all := all) (rest := rest) (m := m) (bo := false) ig after first page (S6.out.later (show Same wz _ by (with_reducible (first | assumption | exact Same.drew _))).1) (HL2.out ig _ _ HG.out) hL HU.out HR.out HM.out HB.out).mono ?_); rintro e3 w3 ⟨A3, rfl, hs3, hb3⟩; have S1 := Same.step (show Same wz _ by (with_reducible (first | assumption | exact Same.drew _))) hb3; have S7 := Lib.hid hs3; clear hb3 hs3))
  rename_i hq0
  clear hq0
  have SX := Lib.hid (show Sta W (ts ++ [tBlk [13] rb outZ, tBlk [14] xb (outC n 3 hub (.slice none 0 0) (.slice B5 gp.length c5) (.slice none 0 0)), tAt spnE B5 gp.length c5 (gp.map (spnF f)), tAt recE A3 m m (rest.take m)]) w3 from by have q7 := S7.out; rw [List.append_assoc] at q7; exact q7)
  clear S1 S7 S6 z0 z7 z9 z10 z12 fo zo
  have hxx := SX.out.blkR 1 rfl
  have x0 : w3.cell? ⟨xb, 0, none⟩ = some (.int .i64 n) := hxx.cell 0
  have x1 : w3.cell? ⟨xb, 1, none⟩ = some (.int .i64 3) := hxx.cell 1
  have x2 : w3.cell? ⟨xb, 2, none⟩ = some (.int .i64 hub) := hxx.cell 2
  have x3 : w3.cell? ⟨xb, 3, none⟩ = some (.slice none 0 0) := hxx.cell 3
  have x4 : w3.cell? ⟨xb, 4, none⟩ = some (.slice B5 gp.length c5) := hxx.cell 4
  have x5 : w3.cell? ⟨xb, 5, none⟩ = some (.slice none 0 0) := hxx.cell 5
  have fx := hxx.free; have zx := hxx.lt
  have hrr := SX.out.blkR 0 rfl
  have r0 : w3.cell? ⟨rb, 0, none⟩ = some (.int .i64 0) := hrr.cell 0
  have r1 : w3.cell? ⟨rb, 1, none⟩ = some (.int .i64 0) := hrr.cell 1
  have r2 : w3.cell? ⟨rb, 2, none⟩ = some (.int .i64 0) := hrr.cell 2
  have r3 : w3.cell? ⟨rb, 3, none⟩ = some (.slice none 0 0) := hrr.cell 3
  have r4 : w3.cell? ⟨rb, 4, none⟩ = some (.slice none 0 0) := hrr.cell 4
  have r5 : w3.cell? ⟨rb, 5, none⟩ = some (.slice none 0 0) := hrr.cell 5
  have fr := hrr.free; have zr := hrr.lt
  have hne : rb ≠ xb := by
    obtain ⟨c9, h9⟩ := id SX.out
    have q1 : c9 rb = [13] := (h9.get (i := ts.length) (t := tBlk [13] rb outZ) (HL3.out 0 _ _ rfl)).2
    have q2 : c9 xb = [14] := (h9.get (i := ts.length + 1) (HL3.out 1 _ _ rfl)).2
    intro e
    rw [e, q2] at q1
    cases q1
  clear hxx hrr
  go_wp2
  have T0 := SX.out.storeR 1 3 (.slice A3 m m) rfl (by simp) rfl
  have T1 := T0.storeR 0 0 (.int .i64 n) rfl (by simp) rfl
  have T2 := T1.storeR 0 1 (.int .i64 3) rfl (by simp) rfl
  have T3 := T2.storeR 0 2 (.int .i64 hub) rfl (by simp) rfl
  have T4 := T3.storeR 0 3 (.slice A3 m m) rfl (by simp) rfl
  have T5 := T4.storeR 0 4 (.slice B5 gp.length c5) rfl (by simp) rfl
  have T6 := T5.storeR 0 5 (.slice none 0 0) rfl (by simp) rfl
  have TT := Lib.hid T6
  clear T0 T1 T2 T3 T4 T5 T6 SX x0 x1 x2 x3 x4 x5 r0 r1 r2 r3 r4 r5 fx zx fr zr hne
  revert TT
  generalize (((((((w3.setCell ⟨xb, 3, none⟩ (.slice A3 m m)).setCell ⟨rb, 0, none⟩ (.int .i64 n)).setCell ⟨rb, 1, none⟩ (.int .i64 3)).setCell ⟨rb, 2, none⟩ (.int .i64 hub)).setCell ⟨rb, 3, none⟩ (.slice A3 m m)).setCell ⟨rb, 4, none⟩ (.slice B5 gp.length c5)).setCell ⟨rb, 5, none⟩ (.slice none 0 0)) = wv
  intro TT
  have hrr := TT.out.blkR 0 rfl
  have r0 : wv.cell? ⟨rb, 0, none⟩ = some (.int .i64 n) := hrr.cell 0
  have r1 : wv.cell? ⟨rb, 1, none⟩ = some (.int .i64 3) := hrr.cell 1
  have r2 : wv.cell? ⟨rb, 2, none⟩ = some (.int .i64 hub) := hrr.cell 2
  have r3 : wv.cell? ⟨rb, 3, none⟩ = some (.slice A3 m m) := hrr.cell 3
  have r4 : wv.cell? ⟨rb, 4, none⟩ = some (.slice B5 gp.length c5) := hrr.cell 4
  have r5 : wv.cell? ⟨rb, 5, none⟩ = some (.slice none 0 0) := hrr.cell 5
  have fr := hrr.free
  clear hrr
  refine bodyPost_ret (v := .tuple #[.agg (outC n 3 hub (.slice A3 m m) (.slice B5 gp.length c5) (.slice none 0 0)), .int .i64 0]) (by simp [results, Tryz.results14, go_sem, r0, r1, r2, r3, r4, r5, fr]) rfl ?_
  exact ⟨A3, B5, c5, rfl, TT.out.pick (List.Sublist.append (List.Sublist.refl _) (.cons _ (.cons _ (List.Sublist.refl _))))⟩
end Go.Proofs.YtdpamikobmefeaaGreat

namespace Go.Proofs.YtdpamikobmefeaaGreat
open Go.RowKit Go.ChangeShapes Go.Maps
set_option maxRecDepth 100000
set_option linter.unusedVariables false
set_option linter.unusedSimpArgs false

theorem waiting_no {w : World} {cb k n : Nat} {C : Array Value} {OA : Option Addr} {on oc ob : Nat} {bs : List Nat} {wr : Bool} {oid st : Int} (hk : k < 16) (hX : Box w cb C) (hC : C[1 + k]? = some (.slice OA on oc)) (hat : ptrE.At w (· < w.heap.size) OA on oc bs) (hn : 1 ≤ n) (ho : bs[n - 1]? = some ob) (hn2 : n < 1000000) (hop : OpC w ob st wr oid) (hst : st ≠ 1) :
    Calls Tryz.prog 38 #[.pointer (some ⟨cb, 0, none⟩), .int .i64 k, .int .i64 n] w fun e w' => e = .returned (.tuple #[.pointer none, .int .i64 15]) ∧ Below w.heap.size w w' := by
  have HF := Lib.hid (find_op hk hX hC hat hn ho hn2)
  have HO := Lib.hid hop
  have hsb : (st != 1) = true := by simp [hst]
  clear hX hC hat ho hop hst
  go_enter Tryz.func38, Tryz.ntmps38
  go_wp2_with (first
    | (go_at_call 41; go_loud (refine (there_yes k hk _).mono ?_; rintro e1 w1 ⟨rfl, rfl⟩))
    | (go_at_call 42; go_loud (refine HF.out.mono ?_; rintro e2 w2 ⟨rfl, hb2⟩; have O2 := HO.out.below hb2; have c0 := O2.c0; have z0 := O2.lt; have HB2 := Lib.hid hb2; clear hb2 O2)))
  refine bodyPost_ret (v := .tuple #[.pointer none, .int .i64 15]) (by simp [results, Tryz.results38, go_sem]) rfl ?_
  exact ⟨rfl, HB2.out⟩
/-- A query is given up. -/
theorem give_q {W w : World} {ts : List Thing} {π πo : List Int} {cb k n ob g bn bc : Nat} {C : Array Value} {hub page after : Int} {first : Bool} {OA BA cv : Option Addr} {on oc : Nat} {bs : List Nat} (i0 j io : Nat) (hk : k < 16) (h : Sta W ts w) (hi : ts[i0]? = some (tBlk π cb C)) (hC : C[1 + k]? = some (.slice OA on oc)) (hj : ts[j]? = some (tAt ptrE OA on oc bs)) (hn : 1 ≤ n) (ho : bs[n - 1]? = some ob) (hn2 : n < 1000000) (hob : ts[io]? = some (tBlk πo ob (opQ 1 hub page BA bn bc after first cv g))) (hπ : πo ≠ []) :
    Calls Tryz.prog 13 #[.pointer (some ⟨cb, 0, none⟩), .int .i64 k, .int .i64 n] w fun e w' => e = .returned (.int .i64 0) ∧ Sta W (ts.set io (tBlk πo ob (opQ 3 hub page BA bn bc after first cv g))) w' := by
  have hO := h.blk hob
  have HW := Lib.hid (waiting_op (wr := false) (oid := 0) hk (h.blk hi) hC (h.at (E := ptrE) hj) hn ho hn2 ⟨hO.cell 0, hO.cell 1, hO.cell 2, hO.lt⟩)
  have HS := Lib.hid h; have HOB := Lib.hid hob
  clear h hi hC hj ho hob hO
  go_enter Tryz.func13, Tryz.ntmps13
  go_wp2_with (go_at_call 38; go_loud (refine HW.out.mono ?_; rintro e2 w2 ⟨rfl, hb2⟩; have S2 := Lib.hid (HS.out.later hb2); have hb := S2.out.blk HOB.out; have c0 : w2.cell? ⟨ob, 0, none⟩ = some (.int .i64 1) := hb.cell 0; have c1 : w2.cell? ⟨ob, 1, none⟩ = some (.bool false) := hb.cell 1; have f0 := hb.free; have z0 := hb.lt; clear hb2 hb))
  go_ret
  exact ⟨rfl, S2.out.store 0 (.int .i64 3) HOB.out hπ rfl⟩
theorem give_no {W w : World} {ts : List Thing} {π πo : List Int} {cb k n ob g bn bc : Nat} {C : Array Value} {hub page after st : Int} {first : Bool} {OA BA cv : Option Addr} {on oc : Nat} {bs : List Nat} (i0 j io : Nat) (hk : k < 16) (h : Sta W ts w) (hi : ts[i0]? = some (tBlk π cb C)) (hC : C[1 + k]? = some (.slice OA on oc)) (hj : ts[j]? = some (tAt ptrE OA on oc bs)) (hn : 1 ≤ n) (ho : bs[n - 1]? = some ob) (hn2 : n < 1000000) (hob : ts[io]? = some (tBlk πo ob (opQ st hub page BA bn bc after first cv g))) (hst : st ≠ 1) :
    Calls Tryz.prog 13 #[.pointer (some ⟨cb, 0, none⟩), .int .i64 k, .int .i64 n] w fun e w' => e = .returned (.int .i64 15) ∧ Sta W ts w' := by
  have hO := h.blk hob
  have HW := Lib.hid (waiting_no (wr := false) (oid := 0) hk (h.blk hi) hC (h.at (E := ptrE) hj) hn ho hn2 ⟨hO.cell 0, hO.cell 1, hO.cell 2, hO.lt⟩ hst)
  have HS := Lib.hid h
  clear h hi hC hj ho hob hO hst
  go_enter Tryz.func13, Tryz.ntmps13
  go_wp2_with (go_at_call 38; go_loud (refine HW.out.mono ?_; rintro e2 w2 ⟨rfl, hb2⟩; have S2 := Lib.hid (HS.out.later hb2); clear hb2))
  go_ret
  exact ⟨rfl, S2.out⟩
theorem retry_no {W w : World} {ts : List Thing} {π πo : List Int} {cb k n ob g bn bc : Nat} {C : Array Value} {hub page after st : Int} {first : Bool} {OA BA cv : Option Addr} {on oc : Nat} {bs : List Nat} (i0 j io : Nat) (hk : k < 16) (h : Sta W ts w) (hi : ts[i0]? = some (tBlk π cb C)) (hC : C[1 + k]? = some (.slice OA on oc)) (hj : ts[j]? = some (tAt ptrE OA on oc bs)) (hn : 1 ≤ n) (ho : bs[n - 1]? = some ob) (hn2 : n < 1000000) (hob : ts[io]? = some (tBlk πo ob (opQ st hub page BA bn bc after first cv g))) (hst : st ≠ 1) :
    Calls Tryz.prog 12 #[.pointer (some ⟨cb, 0, none⟩), .int .i64 k, .int .i64 n] w fun e w' => e = .returned (.tuple #[.slice none 0 0, .int .i64 15]) ∧ Sta W ts w' := by
  have hO := h.blk hob
  have HW := Lib.hid (waiting_no (wr := false) (oid := 0) hk (h.blk hi) hC (h.at (E := ptrE) hj) hn ho hn2 ⟨hO.cell 0, hO.cell 1, hO.cell 2, hO.lt⟩ hst)
  have HS := Lib.hid h
  clear h hi hC hj ho hob hO hst
  go_enter Tryz.func12, Tryz.ntmps12
  go_wp2_with (go_at_call 38; go_loud (refine HW.out.mono ?_; rintro e2 w2 ⟨rfl, hb2⟩; have S2 := Lib.hid (HS.out.later hb2); clear hb2))
  refine bodyPost_ret (v := .tuple #[.slice none 0 0, .int .i64 15]) (by simp [results, Tryz.results12, go_sem]) rfl ?_
  exact ⟨rfl, S2.out⟩
/-- The message that asks. -/
def askM (hub k n : Int) (bl : List Rng) (x : Spn) : Msg := ⟨5, hub, 0, k, n, 0, 0, 0, 0, 0, ⟨0, 0, []⟩, false, x.f, x.t, bl.map askR, []⟩
set_option maxHeartbeats 8000000 in
theorem retry_q {W w : World} {ts : List Thing} {π πo πv : List Int} {cb k n ob g bn bc cv : Nat} {C : Array Value} {hub page after f t : Int} {first : Bool} {OA BA : Option Addr} {on oc : Nat} {bs : List Nat} {bl : List Rng} {l : List Run} (i0 j io iv ib : Nat) (hk : k < 16) (h : Sta W ts w) (hi : ts[i0]? = some (tBlk π cb C)) (hC : C[1 + k]? = some (.slice OA on oc)) (hj : ts[j]? = some (tAt ptrE OA on oc bs)) (hn : 1 ≤ n) (ho : bs[n - 1]? = some ob) (hn2 : n < 1000000) (hob : ts[io]? = some (tBlk πo ob (opQ 1 hub page BA bn bc after first (some ⟨cv, 0, none⟩) g))) (hcv : ts[iv]? = some (tCov πv cv f t l)) (hib : ts[ib]? = some (tRngs BA bn bc bl)) (hbn : bn ≤ 8) (hl : l.length ≤ 900)
    (hc1 : ∀ x ∈ ts, x.π ≠ [17] ∧ x.π ≠ [18] ∧ x.π ≠ [19]) (hc2 : ∀ x ∈ ts, x.π ≠ [16]) (hc3 : ∀ x ∈ ts, x.π ≠ [21] ∧ x.π ≠ [22]) :
    Calls Tryz.prog 12 #[.pointer (some ⟨cb, 0, none⟩), .int .i64 k, .int .i64 n] w fun e w' => ∃ B c, e = .returned (.tuple #[.slice B (othersF l (sizeF f t)).length c, .int .i64 0]) ∧ Sta W (ts ++ [tAt msgE B (othersF l (sizeF f t)).length c (((othersF l (sizeF f t)).map (spnF f)).map (askM hub k n bl))]) w' := by
  have hO := h.blk hob
  have HW := Lib.hid (waiting_op (wr := false) (oid := 0) hk (h.blk hi) hC (h.at (E := ptrE) hj) hn ho hn2 ⟨hO.cell 0, hO.cell 1, hO.cell 2, hO.lt⟩)
  have hgl : (othersF l (sizeF f t)).length ≤ 1000 := by
    have := others_len (sizeF f t) (l ++ [⟨sizeF f t, sizeF f t⟩]) ([], 0)
    unfold othersF
    simp only [List.length_append, List.length_cons, List.length_nil] at this
    omega
  obtain ⟨m, hm⟩ : ∃ m, (othersF l (sizeF f t)).length = m := ⟨_, rfl⟩
  obtain ⟨G, hG⟩ : ∃ G, (othersF l (sizeF f t)).map (spnF f) = G := ⟨_, rfl⟩
  have hGm : G.length = m := by rw [← hG, List.length_map, hm]
  have HS := Lib.hid h; have HOB := Lib.hid hob; have HCV := Lib.hid hcv; have HIB := Lib.hid hib; have HC1 := Lib.hid hc1; have HC2 := Lib.hid hc2; have HC3 := Lib.hid hc3
  have HGAPS := Lib.hid (fun (wq : World) (hq : Sta W ts wq) => cov_gaps hq hcv (by omega))
  rw [hm] at hgl ⊢
  rw [hG] at HGAPS ⊢
  rw [hm] at HGAPS
  have HGM := Lib.hid hGm
  clear h hi hC hj ho hob hO hcv hib hc1 hc2 hc3 hm hG hGm
  go_enter Tryz.func12, Tryz.ntmps12
  go_upto_region 6 with (go_at_call 38; go_loud (refine HW.out.mono ?_; rintro e2 w2 ⟨rfl, hb2⟩; have S2 := Lib.hid (HS.out.later hb2); have hb := S2.out.blk HOB.out; have c3 : w2.cell? ⟨ob, 3, none⟩ = some (.slice none 0 0) := hb.cell 3; have f0 := hb.free; have z0 := hb.lt; clear hb2 hb))
  go_loopw [10, 30] (fun s10 s30 wr => s10 = .slice none 0 0 ∧ s30 = .int .i64 0 ∧ w2 = wr) (fun _ _ _ => 0)
  case atStart => exact ⟨rfl, rfl, rfl⟩
  case round =>
    obtain ⟨rfl, rfl, rfl⟩ := hrel
    have hb := S2.out.blk HOB.out
    have c11 : w2.cell? ⟨ob, 11, none⟩ = some (.pointer (some ⟨cv, 0, none⟩)) := hb.cell 11
    clear hb
    go_upto_region 12 with (go_at_call 39; go_loud (refine (HGAPS.out _ S2.out).mono ?_; rintro e3 w3 ⟨B3, c3', rfl, hs3⟩; have S3 := Lib.hid hs3; clear hs3))
    have HL : ∀ (j : Nat) (t : Thing) (m : List Thing), m[j]? = some t → (ts ++ m)[ts.length + j]? = some t := fun j t m h => by rw [List.getElem?_append_right (by omega), show ts.length + j - ts.length = j by omega]; exact h
    have hl' := Lib.hid HL
    have HL2 : ∀ (j : Nat) (t : Thing) (m : List Thing), ts[j]? = some t → (ts ++ m)[j]? = some t := fun j t m h => by rw [List.getElem?_append_left (List.getElem?_eq_some_iff.1 h).1]; exact h
    have hl2 := Lib.hid HL2
    have S4 := Lib.hid (show Sta W (ts ++ [tAt spnE B3 m c3' G, tRow msgE [21] (.slice none 0 0) []]) w3 from by
      have q := S3.out.rowNil msgE [21] (by simp) (fun x hx => by
        simp only [List.mem_append, List.mem_singleton] at hx
        rcases hx with hx | rfl
        · exact (HC3.out x hx).1
        · simp [tAt])
      rw [List.append_assoc] at q
      exact q)
    clear S3 S2 c3 f0 z0 c11 HL HL2
    go_loopw [10, 55] (fun s10 s55 wr => ∃ (q : Nat) (vP : Value), q ≤ m ∧ s10 = vP ∧ s55 = .int .i64 q ∧ Sta W (ts ++ [tAt spnE B3 m c3' G, tRow msgE [21] vP ((G.take q).map (askM hub k n bl))]) wr) (fun _ s _ => m - (intOf s).toNat)
    case atStart => exact ⟨0, _, Nat.zero_le _, rfl, rfl, S4.out⟩
    case round =>
      obtain ⟨q, vP, hq, rfl, rfl, hs⟩ := hrel
      have HR := Lib.hid hs
      clear S4
      by_cases hlt : q < m
      · have hlt' : (q : Int) < (m : Int) := by omega
        obtain ⟨bb, off, x, rfl, zx, hx, d0, d1⟩ := spn_cell (hs.at (E := spnE) (hl'.out 0 _ _ rfl)) hlt
        have zx : bb < wr.heap.size := zx
        obtain ⟨xf, xt⟩ := x
        have hle : ((G.take q).map (askM hub k n bl)).length = q := by simp [HGM.out]; omega
        have HLE := Lib.hid hle
        have HF := Lib.hid (show (G.take (q + 1)).map (askM hub k n bl) = (G.take q).map (askM hub k n bl) ++ [askM hub k n bl ⟨xf, xt⟩] from by rw [List.take_add_one, hx, List.map_append]; rfl)
        dsimp only at *
        clear hs hx hle
        go_upto_region 14 with fail
        refine wp_abs (fun wy => Sta W (ts ++ [tAt spnE (some ⟨bb, off, none⟩) m c3' G, tRow msgE [21] u10 ((G.take q).map (askM hub k n bl)), tBox wr.heap.size #[.int .u32 xf, .int .u32 xt]]) wy) (by
          have q9 := HR.out.addBox #[.int .u32 xf, .int .u32 xt] 56
          rw [List.append_assoc] at q9
          exact q9) ?_
        generalize wr.heap.size = yp
        intro wy hsy
        have S5 := Lib.hid hsy
        have hbx := hsy.box (hl'.out 2 _ _ rfl)
        have y0 : wy.cell? ⟨yp, 0, none⟩ = some (.int .u32 xf) := hbx.cell 0
        have y1 : wy.cell? ⟨yp, 1, none⟩ = some (.int .u32 xt) := hbx.cell 1
        have zy := hbx.lt
        have hca : ∀ x ∈ ts ++ [tAt spnE (some ⟨bb, off, none⟩) m c3' G, tRow msgE [21] u10 ((G.take q).map (askM hub k n bl)), tBox yp #[.int .u32 xf, .int .u32 xt]], (x.π ≠ [17] ∧ x.π ≠ [18] ∧ x.π ≠ [19]) ∧ x.π ≠ [16] := fun x hx => by
          simp only [List.mem_append, List.mem_cons, List.not_mem_nil, or_false] at hx
          rcases hx with hx | rfl | rfl | rfl
          · exact ⟨HC1.out x hx, HC2.out x hx⟩
          · simp [tAt]
          · simp [tRow]
          · simp [tBox]
        have HA1 := Lib.hid (fun x hx => (hca x hx).1); have HA2 := Lib.hid (fun x hx => (hca x hx).2)
        clear hsy hbx d0 d1 zx HR hca
        go_wp2_with (first
          | (go_at_call 37; go_loud (refine (ask_any (k := k) (n := n) io S5.out (hl2.out io _ _ HOB.out) rfl rfl (fun c h => h.get (hl2.out ib _ _ HIB.out)) hbn HA1.out HA2.out).mono ?_; rintro e6 w6 ⟨B6, c6, rfl, hs6⟩; have S6 := Lib.hid (show Sta W (ts ++ [tAt spnE (some ⟨bb, off, none⟩) m c3' G, tRow msgE [21] u10 ((G.take q).map (askM hub k n bl)), tBox yp #[.int .u32 xf, .int .u32 xt], tAt rngE B6 bn c6 (bl.map askR)]) w6 from by rw [List.append_assoc] at hs6; exact hs6); clear hs6 S5 y0 y1 zy))
          | (at_builtin; go_loud (refine Sta.wpList_push (E := msgE) (r := askM hub k n bl ⟨xf, xt⟩) (ts.length + 1) rfl _ _ rfl u10 rfl S6.out (hl'.out 1 _ _ rfl) (by simp) rfl (fun c h => ⟨none, 0, 0, B6, bn, c6, none, 0, 0, rfl, no_intsC _ _, rngsAt (h.data (hl'.out 3 _ _ rfl)) (by omega), Elt.At.nil _ _⟩) (by rw [HLE.out]; omega) ?_; rw [HLE.out]; intro B7 c7 w7 st7; have S7 := Lib.hid (show Sta W (ts ++ [tAt spnE (some ⟨bb, off, none⟩) m c3' G, tRow msgE [21] (.slice B7 (q + 1) c7) ((G.take q).map (askM hub k n bl) ++ [askM hub k n bl ⟨xf, xt⟩]), tBox yp #[.int .u32 xf, .int .u32 xt], tAt rngE B6 bn c6 (bl.map askR)]) w7 from by rw [List.set_append_right _ _ (by omega), show ts.length + 1 - ts.length = 1 by omega] at st7; exact st7); clear st7 S6)))
        go_roundw
        case rel =>
          refine ⟨q + 1, _, by omega, rfl, by go_num, ?_⟩
          rw [HF.out]
          exact S7.out.pick (List.Sublist.append (List.Sublist.refl _) (.cons_cons _ (.cons_cons _ (List.nil_sublist _))))
        case measure => simp [intOf]; omega
      · obtain rfl : q = m := by omega
        have hlt' : ¬ (q : Int) < (q : Int) := by omega
        rw [List.take_of_length_le (by rw [HGM.out]; exact Nat.le_refl _)] at HR
        obtain ⟨B7, c7, rfl, g1, g2, g3⟩ := HR.out.shape (hl'.out 1 _ _ rfl)
        rw [List.length_map, HGM.out] at HR
        have SF := Lib.hid (HR.out.freeze (i := ts.length + 1) (E := msgE) (hl'.out 1 _ _ rfl) (by simp) rfl)
        rw [List.set_append_right _ _ (by omega), show ts.length + 1 - ts.length = 1 by omega] at SF
        have SG := Lib.hid (show Sta W (ts ++ [tAt spnE B3 q c3' G, tAt msgE B7 q c7 (G.map (askM hub k n bl))]) wr from SF.out)
        have hcw : ∀ x ∈ ts ++ [tAt spnE B3 q c3' G, tAt msgE B7 q c7 (G.map (askM hub k n bl))], x.π ≠ [22] := fun x hx => by
          simp only [List.mem_append, List.mem_cons, List.not_mem_nil, or_false] at hx
          rcases hx with hx | rfl | rfl
          · exact (HC3.out x hx).2
          · simp [tAt]
          · simp [tAt]
        have HCW := Lib.hid hcw
        have HLN := Lib.hid (show (List.map (askM hub k n bl) G).length = q from by rw [List.length_map, HGM.out])
        clear hs HR SF hcw g1 g2 g3
        rw [HLN.out]
        have HOWN := Lib.hid (cli_own (A := B7) (n := q) (cap := c7) (l := G.map (askM hub k n bl)) [22] SG.out (by simp) HCW.out (fun c h => h.data (hl'.out 1 _ _ rfl)) (by omega))
        clear HLN SG HCW
        go_wp2_with (go_at_call 40; go_loud (refine HOWN.out.mono ?_; rintro e8 w8 ⟨B8, c8, rfl, hs8⟩; have S8 := Lib.hid hs8; clear hs8))
        refine bodyPost_ret (v := .tuple #[.slice B8 q c8, .int .i64 0]) (by simp [results, Tryz.results12, go_sem]) rfl ?_
        exact ⟨B8, c8, rfl, S8.out.pick (by rw [List.append_assoc]; exact List.Sublist.append (List.Sublist.refl _) (.cons _ (.cons _ (List.Sublist.refl _))))⟩
end Go.Proofs.YtdpamikobmefeaaGreat
