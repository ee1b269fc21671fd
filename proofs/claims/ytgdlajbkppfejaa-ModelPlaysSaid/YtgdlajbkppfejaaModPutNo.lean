/- The model: Put of a record that may not be. Conditions: it is one. -/
import Derived.Test.YtgdlajbkppfejaaModelMore
import Derived.Test.YtgdlajbkppfejaaRegs
namespace Go.Proofs.Ytgdlajbkppfejaa
open Go.RowKit Go.ChangeShapes Go.Maps
set_option maxRecDepth 100000
set_option linter.unusedVariables false
set_option linter.unusedSimpArgs false

set_option maxHeartbeats 8000000 in
theorem model_put_no {c : Col} {π : List Int} {w : World} {b : Nat} {attrs : Int} {L : List Kn} {id ver : Int} {s : Option Addr} {m cp : Nat} {vals : List Int} (h : ModelR c π w b attrs L) (ha1 : -9223372036854775808 ≤ attrs) (ha2 : attrs < 9223372036854775808)
    (hok : Rec.ok ⟨id, ver, vals⟩) (hi : Ints w (Quiet c w) .u32 4 s m cp vals) (hrt : rightF attrs id ver vals.length = false) :
    Calls Try.prog 21 #[.pointer (some ⟨b, 0, none⟩), .agg #[.int .u64 id, .int .u64 ver, .slice s m cp]] w fun e w' => e = .returned (.bool false) ∧ Below w.heap.size w w' := by
  obtain ⟨mb, D, hb, hcb, hcm, hm, hd⟩ := h
  obtain ⟨⟨hid1, hid2⟩, ⟨hv1, hv2⟩, _⟩ := hok
  dsimp only at hid1 hid2 hv1 hv2
  have hml : vals.length = m := hi.1
  have hm64 : (m : Int) ≤ 9223372036854775807 := by have := hi.2.1; have := hi.2.2.1; omega
  have HR := Lib.hid (fun (w' : World) => right_b attrs id ver s m cp w' hid1 (by omega) hv1 (by omega) ha1 ha2 hm64)
  have hrk : rightF attrs id ver m = false := by rw [← hml]; exact hrt
  rw [hrk] at HR
  have zb := hb.lt
  have HB := Lib.hid hb
  clear hm hd hb hi hrt hrk hml hid1 hid2 hv1 hv2 ha1 ha2 hm64
  go_enter Try.func21, Try.ntmps21
  go_upto_region 1 with fail
  refine wp_abs (fun wx => Box wx w.heap.size #[.int .u64 id, .int .u64 ver, .slice s m cp] ∧ Below w.heap.size w wx) ⟨(by repeat (first | apply Box.drew | apply Box.drewN | exact Box.newAt _ _ _ _ (by first | rfl | (simp only [size_alloc]; done) | (simp only [size_alloc]; omega)) | assumption | refine Box.alloc ?_ _)), (by repeat (first | exact Below.refl _ _ | assumption | apply Below.drew | apply belowN | (refine Below.alloc ?_ (by first | exact Nat.le_refl _ | (simp; done) | (simp; omega)) _) | (refine Below.setCell ?_ (by first | exact Nat.le_refl _ | (simp; done) | (simp; omega)) _)))⟩ ?_
  generalize hb3 : w.heap.size = b3
  rintro wx ⟨X3, hBx⟩
  have HBX2 := Lib.hid (show Below w.heap.size w wx by rw [hb3]; exact hBx)
  have XB := Lib.hid (HB.out.box.below HBX2.out zb)
  have X3' := Lib.hid X3
  clear hb3 hBx X3
  refine wp_regs (Θ := Unit) (by kernel_rfl) (by kernel_rfl) 40 rfl (by kernel_rfl) (fun _ i => ([.pointer (some ⟨b, 0, none⟩), .bool false, .bool false, .pointer (some ⟨b, 0, none⟩), .pointer (some ⟨b, 0, none⟩), .pointer (some ⟨b, 0, none⟩), .int .i64 attrs, .agg #[.int .u64 id, .int .u64 ver, .slice s m cp], .bool false, .bool true, .bool true, .bool true, undef, undef, undef, undef, undef, undef, undef, undef, undef, undef, undef, .bool true] : List Value).getD i undef) (fun _ _ w2 => Same wx w2) () (Same.drew _) ?step ?done
  case step =>
    intro listed θ a w2 i o K ho h0 hs hd hcl hJ hR hK
    have hi : i < 24 := (Array.getElem?_eq_some_iff.1 ho).1
    have X32 := X3'.out.below hJ.1 X3'.out.lt
    have XB2 := XB.out.below hJ.1 XB.out.lt
    have hc : i = 0 ∨ i = 1 ∨ i = 2 ∨ i = 3 ∨ i = 4 ∨ i = 5 ∨ i = 6 ∨ i = 7 ∨ i = 8 ∨ i = 9 ∨ i = 10 ∨ i = 11 ∨ i = 12 ∨ i = 13 ∨ i = 14 ∨ i = 15 ∨ i = 16 ∨ i = 17 ∨ i = 18 ∨ i = 19 ∨ i = 20 ∨ i = 21 ∨ i = 22 ∨ i = 23 := by omega
    rcases hc with rfl | rfl | rfl | rfl | rfl | rfl | rfl | rfl | rfl | rfl | rfl | rfl | rfl | rfl | rfl | rfl | rfl | rfl | rfl | rfl | rfl | rfl | rfl | rfl
    · obtain rfl := Option.some.inj ho
      have e0 : a.tmps[0]? = some (.pointer (some ⟨b, 0, none⟩)) := (hR.outer 0 (by kernel_rfl)).trans rfl
      clear hs h0
      unfold StepTo
      go_simp
      exact hK () w2 hJ (fun _ _ _ => rfl)
    · obtain rfl := Option.some.inj ho
      have e5 : a.tmps[5]? = some (.pointer (some ⟨b, 0, none⟩)) := hR.reg 0 _ 5 rfl rfl (hd 0 (by kernel_rfl))
      clear hs h0
      unfold StepTo
      go_simp
      exact hK () w2 hJ (fun _ _ _ => rfl)
    · obtain rfl := Option.some.inj ho
      have e6 : a.tmps[6]? = some (.bool false) := hR.reg 1 _ 6 rfl rfl (hd 1 (by kernel_rfl))
      clear hs h0
      unfold StepTo
      go_simp
      exact hK () w2 hJ (fun _ _ _ => rfl)
    · obtain rfl := Option.some.inj ho
      have e7 : a.tmps[7]? = some (.bool false) := hR.reg 2 _ 7 rfl rfl (hd 2 (by kernel_rfl))
      have e0 : a.tmps[0]? = some (.pointer (some ⟨b, 0, none⟩)) := (hR.outer 0 (by kernel_rfl)).trans rfl
      clear hs h0
      unfold StepTo
      go_simp
      exact hK () w2 hJ (fun _ _ _ => rfl)
    · obtain rfl := Option.some.inj ho
      have e7 : a.tmps[7]? = some (.bool false) := hR.reg 2 _ 7 rfl rfl (hd 2 (by kernel_rfl))
      have e8 : a.tmps[8]? = some (.pointer (some ⟨b, 0, none⟩)) := hR.reg 3 _ 8 rfl rfl (hd 3 (by kernel_rfl))
      clear hs h0
      unfold StepTo
      go_simp
      exact hK () w2 hJ (fun _ _ _ => rfl)
    · obtain rfl := Option.some.inj ho
      have e7 : a.tmps[7]? = some (.bool false) := hR.reg 2 _ 7 rfl rfl (hd 2 (by kernel_rfl))
      have e9 : a.tmps[9]? = some (.pointer (some ⟨b, 0, none⟩)) := hR.reg 4 _ 9 rfl rfl (hd 4 (by kernel_rfl))
      clear hs h0
      unfold StepTo
      go_simp
      exact hK () w2 hJ (fun _ _ _ => rfl)
    · obtain rfl := Option.some.inj ho
      have e7 : a.tmps[7]? = some (.bool false) := hR.reg 2 _ 7 rfl rfl (hd 2 (by kernel_rfl))
      have e10 : a.tmps[10]? = some (.pointer (some ⟨b, 0, none⟩)) := hR.reg 5 _ 10 rfl rfl (hd 5 (by kernel_rfl))
      have cb := XB2.cell; have fb := XB2.free; have zb2 := XB2.lt
      clear hs h0
      unfold StepTo
      go_simp
      exact hK () w2 hJ (fun _ _ _ => rfl)
    · obtain rfl := Option.some.inj ho
      have e7 : a.tmps[7]? = some (.bool false) := hR.reg 2 _ 7 rfl rfl (hd 2 (by kernel_rfl))
      have e3 : a.tmps[3]? = some (.pointer (some ⟨b3, 0, none⟩)) := (hR.outer 3 (by kernel_rfl)).trans rfl
      have c3 := X32.cell; have f3 := X32.free; have z3 := X32.lt
      clear hs h0
      unfold StepTo
      go_simp
      exact hK () w2 hJ (fun _ _ _ => rfl)
    · obtain rfl := Option.some.inj ho
      have e7 : a.tmps[7]? = some (.bool false) := hR.reg 2 _ 7 rfl rfl (hd 2 (by kernel_rfl))
      have e11 : a.tmps[11]? = some (.int .i64 attrs) := hR.reg 6 _ 11 rfl rfl (hd 6 (by kernel_rfl))
      have e12 : a.tmps[12]? = some (.agg #[.int .u64 id, .int .u64 ver, .slice s m cp]) := hR.reg 7 _ 12 rfl rfl (hd 7 (by kernel_rfl))
      clear hs h0
      unfold StepTo
      go_simp
      go_at_call 46
      refine (HR.out w2).mono ?_
      rintro e w3 ⟨rfl, hb3⟩
      exact hK () w3 (hJ.step hb3) (fun _ _ _ => rfl)
    · obtain rfl := Option.some.inj ho
      have e7 : a.tmps[7]? = some (.bool false) := hR.reg 2 _ 7 rfl rfl (hd 2 (by kernel_rfl))
      have e13 : a.tmps[13]? = some (.bool false) := hR.reg 8 _ 13 rfl rfl (hd 8 (by kernel_rfl))
      clear hs h0
      unfold StepTo
      go_simp
      exact hK () w2 hJ (fun _ _ _ => rfl)
    · obtain rfl := Option.some.inj ho
      have e7 : a.tmps[7]? = some (.bool false) := hR.reg 2 _ 7 rfl rfl (hd 2 (by kernel_rfl))
      have e14 : a.tmps[14]? = some (.bool true) := hR.reg 9 _ 14 rfl rfl (hd 9 (by kernel_rfl))
      clear hs h0
      unfold StepTo
      go_simp
      exact hK () w2 hJ (fun _ _ _ => rfl)
    · obtain rfl := Option.some.inj ho
      have e15 : a.tmps[15]? = some (.bool true) := hR.reg 10 _ 15 rfl rfl (hd 10 (by kernel_rfl))
      clear hs h0
      unfold StepTo
      go_simp
      exact hK () w2 hJ (fun _ _ _ => rfl)
    · obtain rfl := Option.some.inj ho
      have e16 : a.tmps[16]? = some (.bool true) := hR.reg 11 _ 16 rfl rfl (hd 11 (by kernel_rfl))
      clear hs h0
      unfold StepTo
      go_simp
      exact hK () w2 hJ (fun _ _ _ => rfl)
    · obtain rfl := Option.some.inj ho
      have e16 : a.tmps[16]? = some (.bool true) := hR.reg 11 _ 16 rfl rfl (hd 11 (by kernel_rfl))
      clear hs h0
      unfold StepTo
      go_simp
      exact hK () w2 hJ (fun _ _ _ => rfl)
    · obtain rfl := Option.some.inj ho
      have e16 : a.tmps[16]? = some (.bool true) := hR.reg 11 _ 16 rfl rfl (hd 11 (by kernel_rfl))
      clear hs h0
      unfold StepTo
      go_simp
      exact hK () w2 hJ (fun _ _ _ => rfl)
    · obtain rfl := Option.some.inj ho
      have e16 : a.tmps[16]? = some (.bool true) := hR.reg 11 _ 16 rfl rfl (hd 11 (by kernel_rfl))
      clear hs h0
      unfold StepTo
      go_simp
      exact hK () w2 hJ (fun _ _ _ => rfl)
    · obtain rfl := Option.some.inj ho
      have e16 : a.tmps[16]? = some (.bool true) := hR.reg 11 _ 16 rfl rfl (hd 11 (by kernel_rfl))
      clear hs h0
      unfold StepTo
      go_simp
      exact hK () w2 hJ (fun _ _ _ => rfl)
    · obtain rfl := Option.some.inj ho
      have e16 : a.tmps[16]? = some (.bool true) := hR.reg 11 _ 16 rfl rfl (hd 11 (by kernel_rfl))
      clear hs h0
      unfold StepTo
      go_simp
      exact hK () w2 hJ (fun _ _ _ => rfl)
    · obtain rfl := Option.some.inj ho
      have e16 : a.tmps[16]? = some (.bool true) := hR.reg 11 _ 16 rfl rfl (hd 11 (by kernel_rfl))
      clear hs h0
      unfold StepTo
      go_simp
      exact hK () w2 hJ (fun _ _ _ => rfl)
    · obtain rfl := Option.some.inj ho
      have e16 : a.tmps[16]? = some (.bool true) := hR.reg 11 _ 16 rfl rfl (hd 11 (by kernel_rfl))
      clear hs h0
      unfold StepTo
      go_simp
      exact hK () w2 hJ (fun _ _ _ => rfl)
    · obtain rfl := Option.some.inj ho
      have e16 : a.tmps[16]? = some (.bool true) := hR.reg 11 _ 16 rfl rfl (hd 11 (by kernel_rfl))
      clear hs h0
      unfold StepTo
      go_simp
      exact hK () w2 hJ (fun _ _ _ => rfl)
    · obtain rfl := Option.some.inj ho
      have e16 : a.tmps[16]? = some (.bool true) := hR.reg 11 _ 16 rfl rfl (hd 11 (by kernel_rfl))
      clear hs h0
      unfold StepTo
      go_simp
      exact hK () w2 hJ (fun _ _ _ => rfl)
    · obtain rfl := Option.some.inj ho
      have e16 : a.tmps[16]? = some (.bool true) := hR.reg 11 _ 16 rfl rfl (hd 11 (by kernel_rfl))
      clear hs h0
      unfold StepTo
      go_simp
      exact hK () w2 hJ (fun _ _ _ => rfl)
    · obtain rfl := Option.some.inj ho
      have e16 : a.tmps[16]? = some (.bool true) := hR.reg 11 _ 16 rfl rfl (hd 11 (by kernel_rfl))
      clear hs h0
      unfold StepTo
      go_simp
      exact hK () w2 hJ (fun _ _ _ => rfl)
  case done =>
    intro listed θ a w2 hall hJ hR
    have ha := (hR.whole [some 5, some 6, some 7, some 8, some 9, some 10, some 11, some 12, some 13, some 14, some 15, some 16, some 17, some 18, some 19, some 20, some 21, some 22, some 23, some 24, some 25, some 26, some 27, some 28] rfl rfl (by kernel_rfl) hall).trans (b := _) (c := ⟨#[.pointer (some ⟨b, 0, none⟩), .agg #[.int .u64 id, .int .u64 ver, .slice s m cp], undef, .pointer (some ⟨b3, 0, none⟩), .bool false, .pointer (some ⟨b, 0, none⟩), .bool false, .bool false, .pointer (some ⟨b, 0, none⟩), .pointer (some ⟨b, 0, none⟩), .pointer (some ⟨b, 0, none⟩), .int .i64 attrs, .agg #[.int .u64 id, .int .u64 ver, .slice s m cp], .bool false, .bool true, .bool true, .bool true, undef, undef, undef, undef, undef, undef, undef, undef, undef, undef, undef, .bool true, undef, undef, undef, undef, undef, undef, undef, undef, undef, undef, undef], []⟩) (by kernel_rfl)
    subst ha
    have HE := Lib.hid (below_from HBX2.out hJ.1 HBX2.out.size)
    clear hR hall hJ
    go_wp2
    go_ret
    exact ⟨rfl, HE.out⟩
end Go.Proofs.Ytgdlajbkppfejaa
