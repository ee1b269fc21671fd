/- The client refuses: what needs no memory. Conditions: none. | The client refuses: no such operation, nothing to delete, wrong queries, nil. Conditions: it is one. | The client refuses queries. Conditions: none. -/
import Derived.Test.YtdpamikobmefeaaGreatCliU
import Derived.Test.YtdpamikobmefeaaGreatCliO
namespace Go.Proofs.YtdpamikobmefeaaGreat
open Go.RowKit Go.ChangeShapes Go.Maps
set_option maxRecDepth 100000
set_option linter.unusedVariables false
set_option linter.unusedSimpArgs false

theorem there_m1 (w : World) : Calls Tryz.prog 41 #[.int .i64 (-1)] w fun e w' => e = .returned (.bool false) ∧ w = w' := by
  go_enter Tryz.func41, Tryz.ntmps41
  go_wp2
  go_ret
  exact ⟨rfl, by first | rfl | trivial⟩
theorem there_16 (w : World) : Calls Tryz.prog 41 #[.int .i64 16] w fun e w' => e = .returned (.bool false) ∧ w = w' := by
  go_enter Tryz.func41, Tryz.ntmps41
  go_wp2
  go_ret
  exact ⟨rfl, by first | rfl | trivial⟩
theorem may_nil (k : Int) (w : World) : Calls Tryz.prog 22 #[.pointer none, .int .i64 k] w fun e w' => e = .returned (.int .i64 2) ∧ w = w' := by
  go_enter Tryz.func22, Tryz.ntmps22
  go_wp2
  go_ret
  exact ⟨rfl, by first | rfl | trivial⟩
theorem may_m1 (cb : Nat) (w : World) : Calls Tryz.prog 22 #[.pointer (some ⟨cb, 0, none⟩), .int .i64 (-1)] w fun e w' => e = .returned (.int .i64 14) ∧ w = w' := by
  go_enter Tryz.func22, Tryz.ntmps22
  go_wp2_with (go_at_call 41; go_loud (refine (there_m1 _).mono ?_; rintro e1 w1 ⟨rfl, rfl⟩))
  go_ret
  exact ⟨rfl, by first | rfl | trivial⟩
theorem may_16 (cb : Nat) (w : World) : Calls Tryz.prog 22 #[.pointer (some ⟨cb, 0, none⟩), .int .i64 16] w fun e w' => e = .returned (.int .i64 14) ∧ w = w' := by
  go_enter Tryz.func22, Tryz.ntmps22
  go_wp2_with (go_at_call 41; go_loud (refine (there_16 _).mono ?_; rintro e1 w1 ⟨rfl, rfl⟩))
  go_ret
  exact ⟨rfl, by first | rfl | trivial⟩
/-- Put, where nothing may begin. -/
theorem put_may {A : Option Addr} {k num m : Int} {v : Value} (w : World) (hm : m ≠ 0) (h : Calls Tryz.prog 22 #[.pointer A, .int .i64 k] w fun e w' => e = .returned (.int .i64 m) ∧ w = w') :
    Calls Tryz.prog 9 #[.pointer A, .int .i64 k, .int .u32 num, v] w fun e w' => e = .returned (.tuple #[.int .i64 0, .slice none 0 0, .int .i64 m]) ∧ w = w' := by
  have H := Lib.hid h
  have hb : (m != 0) = true := by simp [hm]
  clear h hm
  go_enter Tryz.func9, Tryz.ntmps9
  go_wp2_with (go_at_call 22; go_loud (refine H.out.mono ?_; rintro e1 w1 ⟨rfl, rfl⟩))
  refine bodyPost_ret (v := .tuple #[.int .i64 0, .slice none 0 0, .int .i64 m]) (by simp [results, Tryz.results9, go_sem]) rfl ?_
  exact ⟨rfl, by first | rfl | trivial⟩
/-- Put of another many values. -/
theorem put_len {cb k : Nat} {C : Array Value} {OA : Option Addr} {on oc n c : Nat} {VA : Option Addr} {num attrs : Int} {w : World} (hk : k < 16) (hX : Box w cb C) (hC : C[1 + k]? = some (.slice OA on oc)) (h0 : C[0]? = some (.int .i64 attrs)) (hon : on < 500) (hn : (n : Int) ≠ attrs) (hu : U32 num) :
    Calls Tryz.prog 9 #[.pointer (some ⟨cb, 0, none⟩), .int .i64 k, .int .u32 num, .slice VA n c] w fun e w' => e = .returned (.tuple #[.int .i64 0, .slice none 0 0, .int .i64 9]) ∧ w = w' := by
  have H := Lib.hid (may_ok hk hX hC hon)
  have c0 : w.cell? ⟨cb, 0, none⟩ = some (.int .i64 attrs) := (hX.cell 0).trans h0
  have HU := Lib.hid hu
  have fb := hX.free; have zb := hX.lt
  have hb : ((n : Int) != attrs) = true := by simp [hn]
  clear hX hC h0 hn hu
  go_enter Tryz.func9, Tryz.ntmps9
  go_wp2_with (first
    | (go_at_call 22; go_loud (refine H.out.mono ?_; rintro e1 w1 ⟨rfl, rfl⟩))
    | (go_at_call 23; go_loud (refine (own_id hk HU.out _).mono ?_; rintro e2 w2 ⟨rfl, rfl⟩)))
  refine bodyPost_ret (v := .tuple #[.int .i64 0, .slice none 0 0, .int .i64 9]) (by simp [results, Tryz.results9, go_sem]) rfl ?_
  exact ⟨rfl, by first | rfl | trivial⟩
theorem ops_nil (w : World) : Calls Tryz.prog 15 #[.pointer none, .int .i64 0] w fun e w' => e = .returned (.int .i64 0) ∧ w = w' := by
  go_enter Tryz.func15, Tryz.ntmps15
  go_wp2
  go_ret
  exact ⟨rfl, by first | rfl | trivial⟩
theorem places_nil (n : Int) (w : World) : Calls Tryz.prog 17 #[.pointer none, .int .i64 0, .int .u32 n] w fun e w' => e = .returned (.slice none 0 0) ∧ w = w' := by
  go_enter Tryz.func17, Tryz.ntmps17
  go_wp2
  go_ret
  exact ⟨rfl, by first | rfl | trivial⟩
theorem fork_nil (w : World) : Calls Tryz.prog 18 #[.pointer none] w fun e w' => e = .returned (.pointer none) ∧ w = w' := by
  go_enter Tryz.func18, Tryz.ntmps18
  go_wp2
  go_ret
  exact ⟨rfl, by first | rfl | trivial⟩
theorem outcome_nil (n : Int) (w : World) : Calls Tryz.prog 14 #[.pointer none, .int .i64 0, .int .i64 n] w fun e w' => e = .returned (.tuple #[.agg (outC 0 0 0 (.slice none 0 0) (.slice none 0 0) (.slice none 0 0)), .int .i64 2]) ∧ Below w.heap.size w w' := by
  go_enter Tryz.func14, Tryz.ntmps14
  go_wp2
  refine bodyPost_ret (v := .tuple #[.agg (outC 0 0 0 (.slice none 0 0) (.slice none 0 0) (.slice none 0 0)), .int .i64 2]) (by simp [results, Tryz.results14, go_sem]) rfl ?_
  exact ⟨rfl, below_a1 _ _⟩
theorem outcome_m1 (cb : Nat) (n : Int) (w : World) : Calls Tryz.prog 14 #[.pointer (some ⟨cb, 0, none⟩), .int .i64 (-1), .int .i64 n] w fun e w' => e = .returned (.tuple #[.agg (outC 0 0 0 (.slice none 0 0) (.slice none 0 0) (.slice none 0 0)), .int .i64 14]) ∧ Below w.heap.size w w' := by
  go_enter Tryz.func14, Tryz.ntmps14
  go_wp2_with (go_at_call 41; go_loud (refine (there_m1 _).mono ?_; rintro e1 w1 ⟨rfl, rfl⟩))
  refine bodyPost_ret (v := .tuple #[.agg (outC 0 0 0 (.slice none 0 0) (.slice none 0 0) (.slice none 0 0)), .int .i64 14]) (by simp [results, Tryz.results14, go_sem]) rfl ?_
  exact ⟨rfl, below_a1 _ _⟩
end Go.Proofs.YtdpamikobmefeaaGreat

namespace Go.Proofs.YtdpamikobmefeaaGreat
open Go.RowKit Go.ChangeShapes Go.Maps
set_option maxRecDepth 100000
set_option linter.unusedVariables false
set_option linter.unusedSimpArgs false

theorem find_none {w : World} {cb k : Nat} {C : Array Value} {OA : Option Addr} {on oc : Nat} {n : Int} (hk : k < 16) (hX : Box w cb C) (hC : C[1 + k]? = some (.slice OA on oc)) (hn : n < 1 ∨ (on : Int) < n) :
    Calls Tryz.prog 42 #[.pointer (some ⟨cb, 0, none⟩), .int .i64 k, .int .i64 n] w fun e w' => e = .returned (.pointer none) ∧ w = w' := by
  have c1 : w.cell? ⟨cb, 1 + k, none⟩ = some (.slice OA on oc) := (hX.cell (1 + k)).trans hC
  have fb := hX.free; have zb := hX.lt
  clear hX hC
  go_enter Tryz.func42, Tryz.ntmps42
  by_cases h1 : n < 1
  · clear hn
    go_wp2_with (go_at_call 41; go_loud (refine (there_yes k hk _).mono ?_; rintro e1 w1 ⟨rfl, rfl⟩))
    go_ret
    exact ⟨rfl, by first | rfl | trivial⟩
  · have h2 : (on : Int) < n := by omega
    clear hn
    go_wp2_with (go_at_call 41; go_loud (refine (there_yes k hk _).mono ?_; rintro e1 w1 ⟨rfl, rfl⟩))
    go_ret
    exact ⟨rfl, by first | rfl | trivial⟩
theorem waiting_none {w : World} {cb k : Nat} {C : Array Value} {OA : Option Addr} {on oc : Nat} {n : Int} (hk : k < 16) (hX : Box w cb C) (hC : C[1 + k]? = some (.slice OA on oc)) (hn : n < 1 ∨ (on : Int) < n) :
    Calls Tryz.prog 38 #[.pointer (some ⟨cb, 0, none⟩), .int .i64 k, .int .i64 n] w fun e w' => e = .returned (.tuple #[.pointer none, .int .i64 15]) ∧ w = w' := by
  have HF := Lib.hid (find_none hk hX hC hn)
  clear hX hC hn
  go_enter Tryz.func38, Tryz.ntmps38
  go_wp2_with (first
    | (go_at_call 41; go_loud (refine (there_yes k hk _).mono ?_; rintro e1 w1 ⟨rfl, rfl⟩))
    | (go_at_call 42; go_loud (refine HF.out.mono ?_; rintro e2 w2 ⟨rfl, rfl⟩)))
  refine bodyPost_ret (v := .tuple #[.pointer none, .int .i64 15]) (by simp [results, Tryz.results38, go_sem]) rfl ?_
  exact ⟨rfl, by first | rfl | trivial⟩
theorem give_none {w : World} {cb k : Nat} {C : Array Value} {OA : Option Addr} {on oc : Nat} {n : Int} (hk : k < 16) (hX : Box w cb C) (hC : C[1 + k]? = some (.slice OA on oc)) (hn : n < 1 ∨ (on : Int) < n) :
    Calls Tryz.prog 13 #[.pointer (some ⟨cb, 0, none⟩), .int .i64 k, .int .i64 n] w fun e w' => e = .returned (.int .i64 15) ∧ w = w' := by
  have HF := Lib.hid (waiting_none hk hX hC hn)
  clear hX hC hn
  go_enter Tryz.func13, Tryz.ntmps13
  go_wp2_with (go_at_call 38; go_loud (refine HF.out.mono ?_; rintro e2 w2 ⟨rfl, rfl⟩))
  go_ret
  exact ⟨rfl, by first | rfl | trivial⟩
theorem retry_none {w : World} {cb k : Nat} {C : Array Value} {OA : Option Addr} {on oc : Nat} {n : Int} (hk : k < 16) (hX : Box w cb C) (hC : C[1 + k]? = some (.slice OA on oc)) (hn : n < 1 ∨ (on : Int) < n) :
    Calls Tryz.prog 12 #[.pointer (some ⟨cb, 0, none⟩), .int .i64 k, .int .i64 n] w fun e w' => e = .returned (.tuple #[.slice none 0 0, .int .i64 15]) ∧ w = w' := by
  have HF := Lib.hid (waiting_none hk hX hC hn)
  clear hX hC hn
  go_enter Tryz.func12, Tryz.ntmps12
  go_wp2_with (go_at_call 38; go_loud (refine HF.out.mono ?_; rintro e2 w2 ⟨rfl, rfl⟩))
  refine bodyPost_ret (v := .tuple #[.slice none 0 0, .int .i64 15]) (by simp [results, Tryz.results12, go_sem]) rfl ?_
  exact ⟨rfl, by first | rfl | trivial⟩
theorem hear_nil (w : World) : Calls Tryz.prog 16 #[.pointer none, .agg zeroM] w fun e w' => e = .returned (.bool false) ∧ Below w.heap.size w w' := by
  go_enter Tryz.func16, Tryz.ntmps16
  go_upto_region 1 with fail
  refine wp_abs (fun wx => Below w.heap.size w wx) (below_a1 _ _) ?_
  generalize hmb : w.heap.size = mb
  intro wx hsx
  refine wp_regs (Θ := Unit) (by kernel_rfl) (by kernel_rfl) 46 rfl (by kernel_rfl) (fun θ q9 => ([.pointer none, .bool true, .bool true, undef, undef, undef, undef, undef, undef, undef, .bool true] : List Value).getD q9 undef)
    (fun l θ w2 => Below mb w w2) () ?start1 ?step1 ?done1
  case start1 =>
    exact hsx.drew
  case step1 =>
    intro l θ a w2 z o K5 ho h0 hsz hd hcl2 hJ hR hK
    have hz : z < 11 := (Array.getElem?_eq_some_iff.1 ho).1
    have hof := getD_ff h0
    have cl : ∀ j k, Region.waitsFor .any _ j k = true → l.getD k false = false → l.getD j false = false := fun j k hw hk => by
      cases hj : l.getD j false with
      | false => rfl
      | true => rw [hcl2 j k hw hj] at hk; cases hk
    have so : ∀ k, z ≠ k → (l.setIfInBounds z true).getD k false = l.getD k false := fun k hk => getD_set_other hk
    have se : (l.setIfInBounds z true).getD z false = true := getD_set_self (by rw [hsz]; exact (Array.getElem?_eq_some_iff.1 ho).1)
    have hc : z = 0 ∨ z = 1 ∨ z = 2 ∨ z = 3 ∨ z = 4 ∨ z = 5 ∨ z = 6 ∨ z = 7 ∨ z = 8 ∨ z = 9 ∨ z = 10 := by omega
    rcases hc with rfl | rfl | rfl | rfl | rfl | rfl | rfl | rfl | rfl | rfl | rfl
    · obtain rfl := Option.some.inj ho
      have e0 : a.tmps[0]? = some (.pointer none) := (hR.outer 0 (by kernel_rfl)).trans rfl
      clear hsz h0 hd hcl2 cl hof
      unfold StepTo
      go_simp
      exact hK θ w2 hJ (fun _ _ _ => rfl)
    · obtain rfl := Option.some.inj ho
      have e6 : a.tmps[6]? = some (.pointer none) := hR.reg 0 _ 6 rfl rfl (hd 0 (by kernel_rfl))
      clear hsz h0 hd hcl2 cl hof
      unfold StepTo
      go_simp
      exact hK θ w2 hJ (fun _ _ _ => rfl)
    · obtain rfl := Option.some.inj ho
      have e7 : a.tmps[7]? = some (.bool true) := hR.reg 1 _ 7 rfl rfl (hd 1 (by kernel_rfl))
      clear hsz h0 hd hcl2 cl hof
      unfold StepTo
      go_simp
      exact hK θ w2 hJ (fun _ _ _ => rfl)
    · obtain rfl := Option.some.inj ho
      have e8 : a.tmps[8]? = some (.bool true) := hR.reg 2 _ 8 rfl rfl (hd 2 (by kernel_rfl))
      have e0 : a.tmps[0]? = some (.pointer none) := (hR.outer 0 (by kernel_rfl)).trans rfl
      clear hsz h0 hd hcl2 cl hof
      unfold StepTo
      go_simp
      exact hK θ w2 hJ (fun _ _ _ => rfl)
    · obtain rfl := Option.some.inj ho
      have e9 : a.tmps[9]? = some (undef) := hR.reg 3 _ 9 rfl rfl (hd 3 (by kernel_rfl))
      have e8 : a.tmps[8]? = some (.bool true) := hR.reg 2 _ 8 rfl rfl (hd 2 (by kernel_rfl))
      clear hsz h0 hd hcl2 cl hof
      unfold StepTo
      go_simp
      exact hK θ w2 hJ (fun _ _ _ => rfl)
    · obtain rfl := Option.some.inj ho
      have e10 : a.tmps[10]? = some (undef) := hR.reg 4 _ 10 rfl rfl (hd 4 (by kernel_rfl))
      have e8 : a.tmps[8]? = some (.bool true) := hR.reg 2 _ 8 rfl rfl (hd 2 (by kernel_rfl))
      clear hsz h0 hd hcl2 cl hof
      unfold StepTo
      go_simp
      exact hK θ w2 hJ (fun _ _ _ => rfl)
    · obtain rfl := Option.some.inj ho
      have e11 : a.tmps[11]? = some (undef) := hR.reg 5 _ 11 rfl rfl (hd 5 (by kernel_rfl))
      have e8 : a.tmps[8]? = some (.bool true) := hR.reg 2 _ 8 rfl rfl (hd 2 (by kernel_rfl))
      clear hsz h0 hd hcl2 cl hof
      unfold StepTo
      go_simp
      exact hK θ w2 hJ (fun _ _ _ => rfl)
    · obtain rfl := Option.some.inj ho
      have e8 : a.tmps[8]? = some (.bool true) := hR.reg 2 _ 8 rfl rfl (hd 2 (by kernel_rfl))
      have e3 : a.tmps[3]? = some (.pointer (some ⟨mb, 0, none⟩)) := (hR.outer 3 (by kernel_rfl)).trans rfl
      clear hsz h0 hd hcl2 cl hof
      unfold StepTo
      go_simp
      exact hK θ w2 hJ (fun _ _ _ => rfl)
    · obtain rfl := Option.some.inj ho
      have e12 : a.tmps[12]? = some (undef) := hR.reg 6 _ 12 rfl rfl (hd 6 (by kernel_rfl))
      have e13 : a.tmps[13]? = some (undef) := hR.reg 7 _ 13 rfl rfl (hd 7 (by kernel_rfl))
      have e8 : a.tmps[8]? = some (.bool true) := hR.reg 2 _ 8 rfl rfl (hd 2 (by kernel_rfl))
      clear hsz h0 hd hcl2 cl hof
      unfold StepTo
      go_simp
      exact hK θ w2 hJ (fun _ _ _ => rfl)
    · obtain rfl := Option.some.inj ho
      have e14 : a.tmps[14]? = some (undef) := hR.reg 8 _ 14 rfl rfl (hd 8 (by kernel_rfl))
      have e8 : a.tmps[8]? = some (.bool true) := hR.reg 2 _ 8 rfl rfl (hd 2 (by kernel_rfl))
      clear hsz h0 hd hcl2 cl hof
      unfold StepTo
      go_simp
      exact hK θ w2 hJ (fun _ _ _ => rfl)
    · obtain rfl := Option.some.inj ho
      have e8 : a.tmps[8]? = some (.bool true) := hR.reg 2 _ 8 rfl rfl (hd 2 (by kernel_rfl))
      have e15 : a.tmps[15]? = some (undef) := hR.reg 9 _ 15 rfl rfl (hd 9 (by kernel_rfl))
      clear hsz h0 hd hcl2 cl hof
      unfold StepTo
      go_simp
      exact hK θ w2 hJ (fun _ _ _ => rfl)
  case done1 =>
    intro l θ a w2 hall hJ hR
    have ha := (hR.whole [some 6, some 7, some 8, some 9, some 10, some 11, some 12, some 13, some 14, some 15, some 16] rfl rfl (by kernel_rfl) hall).trans (b := _) (c := ⟨#[.pointer none, .agg zeroM, undef, .pointer (some ⟨mb, 0, none⟩), .bool false, undef, .pointer none, .bool true, .bool true, undef, undef, undef, undef, undef, undef, undef, .bool true, undef, undef, undef, undef, undef, undef, undef, undef, undef, undef, undef, undef, undef, undef, undef, undef, undef, undef, undef, undef, undef, undef, undef, undef, undef, undef, undef, undef, undef], []⟩) (by kernel_rfl)
    subst ha
    clear hsx
    have HJ := Lib.hid hJ
    clear hJ
    go_wp2
    go_ret
    have hz := HJ.out
    subst hmb
    exact ⟨rfl, hz⟩
/-- Nothing of an id to delete. -/
theorem del_none {W w : World} {ts : List Thing} {π ρ : List Int} {cb hm k : Nat} {C : Array Value} {OA : Option Addr} {on oc : Nat} {H : List HeldE} {num : Int} (i0 ih : Nat) (hk : k < 16) (h : Sta W ts w) (hi : ts[i0]? = some (tBlk π cb C)) (hC : C[1 + k]? = some (.slice OA on oc)) (h17 : C[17]? = some (.map (some hm))) (hih : ts[ih]? = some (tHeld ρ hm H)) (hon : on < 500) (hu : U32 num) (hp : plH H (ownF k num) = []) :
    Calls Tryz.prog 10 #[.pointer (some ⟨cb, 0, none⟩), .int .i64 k, .int .u32 num] w fun e w' => e = .returned (.tuple #[.int .i64 0, .slice none 0 0, .int .i64 6]) ∧ Below w.heap.size w w' := by
  have hX := h.blk hi
  have H1 := Lib.hid (may_ok hk hX hC hon)
  have HU := Lib.hid hu
  obtain ⟨id, hid⟩ : ∃ id, ownF k num = id := ⟨_, rfl⟩
  have HID := Lib.hid hid
  rw [hid] at hp
  have hU64 : U64 id := by rw [← hid]; have := ownF_bound k num hu.1 (by have := hu.2; omega); exact ⟨by omega, by omega⟩
  have c17 : w.cell? ⟨cb, 17, none⟩ = some (.map (some hm)) := (hX.cell 17).trans h17
  have fb := hX.free; have zb := hX.lt
  obtain ⟨c8, D, _, hmp, hmd⟩ := h.get hih
  obtain ⟨pA, pn, pc, lA, ln, lc, hat, hpl⟩ := held_look hmd id
  rw [hp] at hpl
  have hpn : 0 = pn := hpl.1
  subst hpn
  have hlook : (Instr.lookup 72 (.map (some hm)) (.int .u64 id) false).run Tryz.prog w = .ok (.agg #[.slice pA 0 pc, .slice lA ln lc]) w := heldIf_run hmp u64_key Tryz.underlying72 (z := .agg #[.slice none 0 0, .slice none 0 0]) (by kernel_rfl) rfl (keyOf_id hU64) hat
  clear hX hC h17 hi hih hmp hmd hat hpl hp hid h hu hU64
  go_enter Tryz.func10, Tryz.ntmps10
  go_wp2_with (first
    | (go_at_call 22; go_loud (refine H1.out.mono ?_; rintro e1 w1 ⟨rfl, rfl⟩))
    | (go_at_call 23; go_loud (refine (own_id hk HU.out _).mono ?_; rintro e2 w2 ⟨rfl, rfl⟩; rw [HID.out])))
  refine bodyPost_ret (v := .tuple #[.int .i64 0, .slice none 0 0, .int .i64 6]) (by simp [results, Tryz.results10, go_sem]) rfl ?_
  exact ⟨rfl, (by repeat (first | exact Below.refl _ _ | assumption | apply Below.drew | apply belowN | (refine Below.alloc ?_ (by first | exact Nat.le_refl _ | (simp; done) | (simp; omega)) _) | (refine Below.setCell ?_ (by first | exact Nat.le_refl _ | (simp; done) | (simp; omega)) _)))⟩
end Go.Proofs.YtdpamikobmefeaaGreat

namespace Go.Proofs.YtdpamikobmefeaaGreat
open Go.RowKit Go.ChangeShapes Go.Maps
set_option maxRecDepth 100000
set_option linter.unusedVariables false
set_option linter.unusedSimpArgs false

theorem take_no (A B : Option Addr) (an ac bn bc : Nat) (k : Int) (w : World) (hb : bn ≠ 24) : Calls Tryz.prog 32 #[.slice A an ac, .int .i64 k, .slice B bn bc] w fun e w' => e = .returned (.tuple #[.int .u64 0, .int .i64 18]) ∧ w = w' := by
  have hb1 : ((bn : Int) != 24) = true := by simp; omega
  clear hb
  go_enter Tryz.func32, Tryz.ntmps32
  go_wp2
  refine bodyPost_ret (v := .tuple #[.int .u64 0, .int .i64 18]) (by simp [results, Tryz.results32, go_sem]) rfl ?_
  exact ⟨rfl, by first | rfl | trivial⟩
section
variable {w : World} {cb k : Nat} {C : Array Value} {OA : Option Addr} {on oc : Nat} {attrs : Int} {A : Option Addr} {n cap : Nat} {bl : List Rng} {M : Option Addr} {mn mc : Nat}
theorem qry_box {D : Nat → Prop} {q p : Int} (hk : k < 16) (hX : Box w cb C) (hC : C[1 + k]? = some (.slice OA on oc)) (h0 : C[0]? = some (.int .i64 attrs)) (hon : on < 500) (hb : RngsAt w D A n cap bl) (hD : ∀ b, D b → b < w.heap.size) (hr : rightB attrs bl = false) :
    Calls Tryz.prog 11 #[.pointer (some ⟨cb, 0, none⟩), .int .i64 k, .slice A n cap, .int .i64 q, .int .i64 p, .slice M mn mc] w fun e w' => e = .returned (.tuple #[.int .i64 0, .slice none 0 0, .int .i64 8]) ∧ Below w.heap.size w w' := by
  have H1 := Lib.hid (may_ok hk hX hC hon)
  have c0 : w.cell? ⟨cb, 0, none⟩ = some (.int .i64 attrs) := (hX.cell 0).trans h0
  have fb := hX.free; have zb := hX.lt
  have HRA := Lib.hid hb; have HDD := Lib.hid hD; have HR := Lib.hid hr
  clear hX hC h0 hb hD hr
  go_enter Tryz.func11, Tryz.ntmps11
  go_wp2_with (first
    | (go_at_call 22; go_loud (refine H1.out.mono ?_; rintro e1 w1 ⟨rfl, rfl⟩))
    | (go_at_call 29; go_loud (refine (boxright_any attrs w HRA.out HDD.out).mono ?_; rintro e2 w2 ⟨rfl, hb2⟩; rw [HR.out]; have HB2 := Lib.hid hb2; clear hb2)))
  refine bodyPost_ret (v := .tuple #[.int .i64 0, .slice none 0 0, .int .i64 8]) (by simp [results, Tryz.results11, go_sem]) rfl ?_
  exact ⟨rfl, HB2.out⟩
theorem qry_hub {D : Nat → Prop} {q p : Int} (hk : k < 16) (hX : Box w cb C) (hC : C[1 + k]? = some (.slice OA on oc)) (h0 : C[0]? = some (.int .i64 attrs)) (hon : on < 500) (hb : RngsAt w D A n cap bl) (hD : ∀ b, D b → b < w.heap.size) (hr : rightB attrs bl = true) (hq0 : 0 ≤ q) (hq : attrs ≤ q) :
    Calls Tryz.prog 11 #[.pointer (some ⟨cb, 0, none⟩), .int .i64 k, .slice A n cap, .int .i64 q, .int .i64 p, .slice M mn mc] w fun e w' => e = .returned (.tuple #[.int .i64 0, .slice none 0 0, .int .i64 10]) ∧ Below w.heap.size w w' := by
  have H1 := Lib.hid (may_ok hk hX hC hon)
  have c0 : w.cell? ⟨cb, 0, none⟩ = some (.int .i64 attrs) := (hX.cell 0).trans h0
  have fb := hX.free; have zb := hX.lt
  have HRA := Lib.hid hb; have HDD := Lib.hid hD; have HR := Lib.hid hr
  have hq1 : ¬ q < 0 := by omega
  clear hX hC h0 hb hD hr hq0
  go_enter Tryz.func11, Tryz.ntmps11
  go_wp2_with (first
    | (go_at_call 22; go_loud (refine H1.out.mono ?_; rintro e1 w1 ⟨rfl, rfl⟩))
    | (go_at_call 29; go_loud (refine (boxright_any attrs w HRA.out HDD.out).mono ?_; rintro e2 w2 ⟨rfl, hb2⟩; rw [HR.out]; have c2 := (hb2.cell (p := ⟨cb, 0, none⟩) zb).trans c0; have fb2 : ∀ i, w2.frozen? ⟨cb, i, none⟩ = false := fun i => (hb2.frozen (p := ⟨cb, i, none⟩) zb).trans (fb i); have zb2 := Nat.lt_of_lt_of_le zb hb2.size; have HB2 := Lib.hid hb2; clear hb2)))
  refine bodyPost_ret (v := .tuple #[.int .i64 0, .slice none 0 0, .int .i64 10]) (by simp [results, Tryz.results11, go_sem]) rfl ?_
  exact ⟨rfl, HB2.out⟩
theorem qry_page {D : Nat → Prop} {q p : Int} (hk : k < 16) (hX : Box w cb C) (hC : C[1 + k]? = some (.slice OA on oc)) (h0 : C[0]? = some (.int .i64 attrs)) (hon : on < 500) (hb : RngsAt w D A n cap bl) (hD : ∀ b, D b → b < w.heap.size) (hr : rightB attrs bl = true) (hq0 : 0 ≤ q) (hq : q < attrs) (hp : p < 1 ∨ 100 < p) :
    Calls Tryz.prog 11 #[.pointer (some ⟨cb, 0, none⟩), .int .i64 k, .slice A n cap, .int .i64 q, .int .i64 p, .slice M mn mc] w fun e w' => e = .returned (.tuple #[.int .i64 0, .slice none 0 0, .int .i64 17]) ∧ Below w.heap.size w w' := by
  have H1 := Lib.hid (may_ok hk hX hC hon)
  have c0 : w.cell? ⟨cb, 0, none⟩ = some (.int .i64 attrs) := (hX.cell 0).trans h0
  have fb := hX.free; have zb := hX.lt
  have HRA := Lib.hid hb; have HDD := Lib.hid hD; have HR := Lib.hid hr
  have hq1 : ¬ q < 0 := by omega
  have hq2 : ¬ attrs ≤ q := by omega
  clear hX hC h0 hb hD hr hq0 hq
  go_enter Tryz.func11, Tryz.ntmps11
  go_upto_region 8 with (first
    | (go_at_call 22; go_loud (refine H1.out.mono ?_; rintro e1 w1 ⟨rfl, rfl⟩))
    | (go_at_call 29; go_loud (refine (boxright_any attrs w HRA.out HDD.out).mono ?_; rintro e2 w2 ⟨rfl, hb2⟩; rw [HR.out]; have c2 := (hb2.cell (p := ⟨cb, 0, none⟩) zb).trans c0; have fb2 : ∀ i, w2.frozen? ⟨cb, i, none⟩ = false := fun i => (hb2.frozen (p := ⟨cb, i, none⟩) zb).trans (fb i); have zb2 := Nat.lt_of_lt_of_le zb hb2.size; have HB2 := Lib.hid hb2; clear hb2)))
  clear c2 fb2 zb2 c0 fb zb
  by_cases h1 : p < 1
  · clear hp
    go_wp2
    refine bodyPost_ret (v := .tuple #[.int .i64 0, .slice none 0 0, .int .i64 17]) (by simp [results, Tryz.results11, go_sem]) rfl ?_
    exact ⟨rfl, HB2.out⟩
  · have h2 : 100 < p := by omega
    clear hp
    go_wp2
    refine bodyPost_ret (v := .tuple #[.int .i64 0, .slice none 0 0, .int .i64 17]) (by simp [results, Tryz.results11, go_sem]) rfl ?_
    exact ⟨rfl, HB2.out⟩
end
/-- A mark that is none. -/
theorem qry_mark {W w : World} {ts : List Thing} {π πo πg : List Int} {cb k q : Nat} {C : Array Value} {attrs page : Int} {OA : Option Addr} {on oc : Nat} {A : Option Addr} {n cap : Nat} {bl : List Rng} {M : Option Addr} {mn mc : Nat} (i0 : Nat) (hk : k < 16) (h : Sta W ts w) (hi : ts[i0]? = some (tBlk π cb C)) (hC0 : C[0]? = some (.int .i64 attrs)) (hC : C[1 + k]? = some (.slice OA on oc)) (hon : on < 400)
    (hb : ∀ c, S0 W ts c w → RngsAt w (Quiet c w) A n cap bl) (hr : rightB attrs bl = true) (hq : q < n) (hp1 : 1 ≤ page) (hp2 : page ≤ 100) (hm0 : mn ≠ 0) (hm : mn ≠ 24) (hπo : πo ≠ []) (hπg : πg ≠ []) (hog : πo ≠ πg) (hcol : ∀ x ∈ ts, x.π ≠ πo ∧ x.π ≠ πg) :
    Calls Tryz.prog 11 #[.pointer (some ⟨cb, 0, none⟩), .int .i64 k, .slice A n cap, .int .i64 q, .int .i64 page, .slice M mn mc] w fun e w' => e = .returned (.tuple #[.int .i64 0, .slice none 0 0, .int .i64 18]) ∧ Sta W ts w' := by
  have hX := h.blk hi
  have c0 : w.cell? ⟨cb, 0, none⟩ = some (.int .i64 attrs) := (hX.cell 0).trans hC0
  have fb := hX.free; have zb := hX.lt
  have hln : bl.length = n := by
    obtain ⟨c5, h5⟩ := id h
    exact (hb c5 h5).1
  have hna : (n : Int) = attrs := by
    unfold rightB at hr
    simp only [Bool.and_eq_true, decide_eq_true_eq] at hr
    rw [← hln]; exact hr.1.2
  have hq1 : ¬ (q : Int) < 0 := by omega
  have hq2 : ¬ attrs ≤ (q : Int) := by omega
  have hp3 : ¬ page < 1 := by omega
  have hp4 : ¬ 100 < page := by omega
  have hm1 : ((mn : Int) == 0) = false := by rw [beq_eq_false_iff_ne]; omega
  have HX := Lib.hid hX; have HC := Lib.hid hC; have HR := Lib.hid hr
  have HS := Lib.hid (show Sta W (ts ++ [tRngs A n cap bl]) w from h.addD (t := tRngs A n cap bl) rfl hb)
  have HCOL := Lib.hid hcol
  clear hX hC0 hC h hi hb hr hcol hln
  obtain ⟨cR, hR0⟩ := HS.out.get (i := ts.length) (t := tRngs A n cap bl) (by rw [List.getElem?_append_right (Nat.le_refl _)]; simp)
  have HRA := Lib.hid ((show RngsAt w (Quiet cR w) A n cap bl from hR0).move (w' := w) (D' := (· < w.heap.size)) fun b hb hl => ⟨rfl, hl⟩)
  clear hR0
  go_enter Tryz.func11, Tryz.ntmps11
  go_upto_region 10 with (first
    | (go_at_call 22; go_loud (refine (may_ok hk HX.out HC.out (by omega)).mono ?_; rintro e1 w1 ⟨rfl, rfl⟩))
    | (go_at_call 29; go_loud (refine (boxright_any attrs w HRA.out (fun b hb => hb)).mono ?_; rintro e2 w2 ⟨rfl, hb2⟩; rw [HR.out]; have S2 := Lib.hid (HS.out.later hb2); have c2 := (hb2.cell (p := ⟨cb, 0, none⟩) zb).trans c0; have fb2 : ∀ i, w2.frozen? ⟨cb, i, none⟩ = false := fun i => (hb2.frozen (p := ⟨cb, i, none⟩) zb).trans (fb i); have zb2 := Nat.lt_of_lt_of_le zb hb2.size; have HB2 := Lib.hid hb2; clear hb2)))
  go_upto_region 11 with (first
    | (go_at_call 30; go_loud (refine (clone_rngs w2 (S2.out.rngs (i := ts.length) (A := A) (n := n) (cap := cap) (xs := bl) (by rw [List.getElem?_append_right (Nat.le_refl _)]; simp)) (fun b hb => hb)).mono ?_; rintro e3 w3 ⟨B3, n3, k3, rfl, hr3, hb3⟩; have S3 := Lib.hid (S2.out.addRngs hb3 hr3); clear hr3 hb3))
    | (go_at_call 31; go_loud (refine (ga_new (A := A) (n := n) (cap := cap) (bl := bl) πg S3.out hπg (by
        intro x hx
        simp only [List.mem_append, List.mem_singleton] at hx
        rcases hx with (hx | rfl) | rfl
        · exact (HCOL.out x hx).2
        · exact fun e => hπg e.symm
        · exact fun e => hπg e.symm) (fun c hc => hc.get (i := ts.length) (t := tRngs A n cap bl) (by rw [List.getElem?_append_left (by simp), List.getElem?_append_right (Nat.le_refl _)]; simp))).mono ?_; rintro e4 w4 ⟨g, rfl, hs4, _⟩; have S4 := Lib.hid hs4; clear hs4)))
  have hoc : ∀ x ∈ ts ++ [tRngs A n cap bl, tRngs B3 n3 k3 bl, tGath πg g bl []], x.π ≠ πo := fun x hx => by
    simp only [List.mem_append, List.mem_cons, List.not_mem_nil, or_false] at hx
    rcases hx with hx | rfl | rfl | rfl
    · exact (HCOL.out x hx).1
    · exact fun e => hπo e.symm
    · exact fun e => hπo e.symm
    · exact fun e => hog e.symm
  refine wp_abs (fun wx => Sta W (ts ++ [tRngs A n cap bl, tRngs B3 n3 k3 bl, tGath πg g bl [], tBlk πo w4.heap.size (opQ 1 q page B3 n3 k3 0 false none g)]) wx) ?_ ?_
  · have s4 := (show Sta W (ts ++ [tRngs A n cap bl, tRngs B3 n3 k3 bl, tGath πg g bl []]) w4 from by have := S4.out; simpa [List.append_assoc] using this).addBlk πo hπo hoc (opQ 1 q page B3 n3 k3 0 false none g) 96
    simpa [List.append_assoc] using s4
  generalize w4.heap.size = ob
  intro wx hsx
  have S5 := Lib.hid hsx
  have hbx := hsx.blk (i := ts.length + 3) (π := πo) (b := ob) (C := opQ 1 q page B3 n3 k3 0 false none g) (by rw [List.getElem?_append_right (by omega), show ts.length + 3 - ts.length = 3 by omega]; rfl)
  have d10 : wx.cell? ⟨ob, 10, none⟩ = some (.bool false) := hbx.cell 10
  have fo := hbx.free; have zo := hbx.lt
  clear S2 S3 S4 HS hoc hsx hbx c0 fb zb c2 fb2 zb2 HB2 HRA
  go_wp2_with (go_at_call 32; go_loud (refine (take_no _ _ _ _ _ _ _ _ hm).mono ?_; rintro e6 w6 ⟨rfl, rfl⟩))
  refine bodyPost_ret (v := .tuple #[.int .i64 0, .slice none 0 0, .int .i64 18]) (by simp [results, Tryz.results11, go_sem]) rfl ?_
  exact ⟨rfl, S5.out.pick (List.sublist_append_left _ _)⟩
end Go.Proofs.YtdpamikobmefeaaGreat
