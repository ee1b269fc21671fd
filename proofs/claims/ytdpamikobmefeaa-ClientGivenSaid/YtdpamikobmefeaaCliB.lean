/- The client: there, may, busy, find, waiting, GiveUp. Conditions: it is one. -/
import Derived.Test.YtdpamikobmefeaaCliA
namespace Go.Proofs.Ytdpamikobmefeaa
open Go.RowKit Go.ChangeShapes
set_option maxRecDepth 100000
set_option linter.unusedVariables false
set_option linter.unusedSimpArgs false

theorem there_yes (k : Nat) (hk : k < 16) (w : World) : Calls Try.prog 75 #[.int .i64 k] w fun e w' => e = .returned (.bool true) ∧ w = w' := by
  have h1 : (k : Int) < 16 := by omega
  go_enter Try.func75, Try.ntmps75
  go_wp2
  go_ret
  exact ⟨rfl, by first | rfl | trivial⟩
theorem may_ok {w : World} {cb k : Nat} {C : Array Value} {OA : Option Addr} {on oc : Nat} (hk : k < 16) (hX : Box w cb C) (hC : C[1 + k]? = some (.slice OA on oc)) (hon : on < 500) :
    Calls Try.prog 61 #[.pointer (some ⟨cb, 0, none⟩), .int .i64 k] w fun e w' => e = .returned (.int .i64 0) ∧ w = w' := by
  have c1 : w.cell? ⟨cb, 1 + k, none⟩ = some (.slice OA on oc) := (hX.cell (1 + k)).trans hC
  have fb := hX.free; have zb := hX.lt
  have h5 : ¬ (500 : Int) ≤ (on : Int) := by omega
  clear hX hC
  go_enter Try.func61, Try.ntmps61
  go_wp2_with (go_at_call 75; go_loud (refine (there_yes k hk _).mono ?_; rintro e1 w1 ⟨rfl, rfl⟩))
  go_ret
  exact ⟨rfl, by first | rfl | trivial⟩
/-- An operation's first cells. -/
structure OpC (w : World) (ob : Nat) (st : Int) (wr : Bool) (oid : Int) : Prop where
  c0 : w.cell? ⟨ob, 0, none⟩ = some (.int .i64 st)
  c1 : w.cell? ⟨ob, 1, none⟩ = some (.bool wr)
  c2 : w.cell? ⟨ob, 2, none⟩ = some (.int .u64 oid)
  lt : ob < w.heap.size
def busyF (st : Int) (wr : Bool) (oid id : Int) : Bool := wr && (oid == id) && (st == 1)
set_option maxHeartbeats 4000000 in
theorem busy1_no {w : World} {ob ib : Nat} {st : Int} {wr : Bool} {oid id : Int} (h : OpC w ob st wr oid) (hi : w.cell? ⟨ib, 0, none⟩ = some (.int .u64 id)) (zi : ib < w.heap.size) (hb : busyF st wr oid id = false) :
    Calls Try.prog 93 #[.pointer (some ⟨ob, 0, none⟩), .pointer (some ⟨ib, 0, none⟩)] w fun e w' => e = .returned (.bool false) ∧ Below w.heap.size w w' := by
  obtain ⟨c0, c1, c2, zb⟩ := h
  unfold busyF at hb
  cases wr with
  | false =>
    go_enter Try.func93, Try.ntmps93
    go_upto_region 1 with fail
    go_quiet (fail)
    all_goals
      go_wp2
      go_ret
      exact ⟨rfl, (by repeat (first | exact Below.refl _ _ | assumption | apply Below.drew | apply belowN | (refine Below.alloc ?_ (by first | exact Nat.le_refl _ | (simp; done) | (simp; omega)) _) | (refine Below.setCell ?_ (by first | exact Nat.le_refl _ | (simp; done) | (simp; omega)) _)))⟩
  | true =>
    by_cases h1 : oid = id
    · have h2 : (st == 1) = false := by subst h1; simpa using hb
      subst h1
      have h3 : ¬ st = 1 := by simpa using h2
      go_enter Try.func93, Try.ntmps93
      go_upto_region 1 with fail
      go_quiet (fail)
      all_goals
        go_wp2
        go_ret
        exact ⟨by first | rfl | simp [h3], (by repeat (first | exact Below.refl _ _ | assumption | apply Below.drew | apply belowN | (refine Below.alloc ?_ (by first | exact Nat.le_refl _ | (simp; done) | (simp; omega)) _) | (refine Below.setCell ?_ (by first | exact Nat.le_refl _ | (simp; done) | (simp; omega)) _)))⟩
    · have h2 : (oid == id) = false := by simpa using h1
      go_enter Try.func93, Try.ntmps93
      go_upto_region 1 with fail
      go_quiet (fail)
      all_goals
        go_wp2
        go_ret
        exact ⟨rfl, (by repeat (first | exact Below.refl _ _ | assumption | apply Below.drew | apply belowN | (refine Below.alloc ?_ (by first | exact Nat.le_refl _ | (simp; done) | (simp; omega)) _) | (refine Below.setCell ?_ (by first | exact Nat.le_refl _ | (simp; done) | (simp; omega)) _)))⟩
theorem OpC.below {w w' : World} {ob : Nat} {st : Int} {wr : Bool} {oid : Int} (h : OpC w ob st wr oid) (hb : Below w.heap.size w w') : OpC w' ob st wr oid :=
  ⟨(hb.cell (p := ⟨ob, 0, none⟩) h.lt).trans h.c0, (hb.cell (p := ⟨ob, 1, none⟩) h.lt).trans h.c1, (hb.cell (p := ⟨ob, 2, none⟩) h.lt).trans h.c2, Nat.lt_of_lt_of_le h.lt hb.size⟩
/-- None of the operations is a write of a record that waits. -/
def NotBusy (w : World) (bs : List Nat) (id : Int) : Prop := ∀ (j : Nat) ob, bs[j]? = some ob → ∃ st wr oid, OpC w ob st wr oid ∧ busyF st wr oid id = false
theorem NotBusy.below {w w' : World} {bs : List Nat} {id : Int} (h : NotBusy w bs id) (hb : Below w.heap.size w w') : NotBusy w' bs id := fun j ob hj => by
  obtain ⟨st, wr, oid, h1, h2⟩ := h j ob hj
  exact ⟨st, wr, oid, h1.below hb, h2⟩
theorem index_ops {w : World} {OA : Option Addr} {on oc ib : Nat} {bs : List Nat} {id : Int} (hat : ptrE.At w (· < w.heap.size) OA on oc bs) (hnb : NotBusy w bs id) (hi : w.cell? ⟨ib, 0, none⟩ = some (.int .u64 id)) (zi : ib < w.heap.size) :
    Calls Try.prog 116 #[.slice OA on oc, .func (.func 93) #[] #[.pointer (some ⟨ib, 0, none⟩)]] w fun e w' => e = .returned (.int .i64 (-1)) ∧ Below w.heap.size w w' := by
  have hn := hat.1
  have hc1 := hat.2.1; have hc2 := hat.2.2.1
  have HA := Lib.hid hat; have HN := Lib.hid hnb; have HI := Lib.hid hi
  clear hat hnb hi
  go_enter Try.func116, Try.ntmps116
  go_wp2
  go_loopw [8] (fun s8 wr => ∃ k : Nat, k ≤ on ∧ s8 = .int .i64 k ∧ Below w.heap.size w wr) (fun s _ => on - (intOf s).toNat)
  case atStart => exact ⟨0, Nat.zero_le _, rfl, Below.refl _ _⟩
  case round =>
    obtain ⟨k, hk, rfl, hB⟩ := hrel
    have HB := Lib.hid hB
    clear hB
    by_cases hlt : k < on
    · obtain ⟨bb, off, ob, rfl, zbb, hob, d0⟩ := ptr_at HA.out hlt
      have d := (HB.out.cell (p := ⟨bb, off + k, none⟩) zbb).trans d0
      have zb := Nat.lt_of_lt_of_le zbb HB.out.size
      obtain ⟨st, wr', oid, h1, h2⟩ := HN.out k ob hob
      have H1 := Lib.hid (h1.below HB.out); have H2 := Lib.hid h2
      have HI2 := Lib.hid ((HB.out.cell (p := ⟨ib, 0, none⟩) zi).trans HI.out)
      have zi2 := Nat.lt_of_lt_of_le zi HB.out.size
      clear d0 hob h1 h2 zbb
      go_wp2_with (go_at_call 93; go_loud (refine (busy1_no H1.out HI2.out zi2 H2.out).mono ?_; rintro e w2 ⟨rfl, hb2⟩; have HB2 := Lib.hid (below_from HB.out hb2 HB.out.size); clear hb2))
      go_roundw
      case rel => exact ⟨k + 1, by omega, by go_num, HB2.out⟩
      case measure => simp [intOf]; omega
    · go_wp2
      go_ret
      exact ⟨rfl, HB.out⟩
theorem contains_ops {w : World} {OA : Option Addr} {on oc ib : Nat} {bs : List Nat} {id : Int} (hat : ptrE.At w (· < w.heap.size) OA on oc bs) (hnb : NotBusy w bs id) (hi : w.cell? ⟨ib, 0, none⟩ = some (.int .u64 id)) (zi : ib < w.heap.size) :
    Calls Try.prog 92 #[.slice OA on oc, .func (.func 93) #[] #[.pointer (some ⟨ib, 0, none⟩)]] w fun e w' => e = .returned (.bool false) ∧ Below w.heap.size w w' := by
  have HI := Lib.hid (index_ops hat hnb hi zi)
  clear hat hnb hi
  go_enter Try.func92, Try.ntmps92
  go_wp2_with (go_at_call 116; go_loud (refine HI.out.mono ?_; rintro e w2 ⟨rfl, hb⟩; have HB := Lib.hid hb; clear hb))
  go_ret
  exact ⟨rfl, HB.out⟩
theorem busy_no {w : World} {cb k : Nat} {C : Array Value} {OA : Option Addr} {on oc : Nat} {bs : List Nat} {id : Int} (hk : k < 16) (hX : Box w cb C) (hC : C[1 + k]? = some (.slice OA on oc)) (hat : ptrE.At w (· < w.heap.size) OA on oc bs) (hnb : NotBusy w bs id) :
    Calls Try.prog 63 #[.pointer (some ⟨cb, 0, none⟩), .int .i64 k, .int .u64 id] w fun e w' => e = .returned (.bool false) ∧ Below w.heap.size w w' := by
  have hb1 := below_a1 w (.cells #[.int .u64 id] 24)
  have HX := hX.below hb1 hX.lt
  have c1 : (w.alloc (.cells #[.int .u64 id] 24)).cell? ⟨cb, 1 + k, none⟩ = some (.slice OA on oc) := (HX.cell (1 + k)).trans hC
  have fb := HX.free; have zb := HX.lt
  have HA := Lib.hid (hat.later hb1); have HN := Lib.hid (hnb.below hb1)
  have HI := Lib.hid (contains_ops HA.out HN.out ((Box.new w #[.int .u64 id] 24).cell 0) (Box.new w #[.int .u64 id] 24).lt)
  clear hX hC hat hnb HX hb1
  go_enter Try.func63, Try.ntmps63
  go_wp2_with (go_at_call 92; go_loud (refine HI.out.mono ?_; rintro e w2 ⟨rfl, hb⟩; have HB := Lib.hid (below_thru hb); clear hb))
  go_ret
  exact ⟨rfl, HB.out⟩
/-- An operation is found. -/
theorem find_op {w : World} {cb k n : Nat} {C : Array Value} {OA : Option Addr} {on oc ob : Nat} {bs : List Nat} (hk : k < 16) (hX : Box w cb C) (hC : C[1 + k]? = some (.slice OA on oc)) (hat : ptrE.At w (· < w.heap.size) OA on oc bs) (hn : 1 ≤ n) (ho : bs[n - 1]? = some ob) (hn2 : n < 1000000) :
    Calls Try.prog 76 #[.pointer (some ⟨cb, 0, none⟩), .int .i64 k, .int .i64 n] w fun e w' => e = .returned (.pointer (some ⟨ob, 0, none⟩)) ∧ Below w.heap.size w w' := by
  have c1 : w.cell? ⟨cb, 1 + k, none⟩ = some (.slice OA on oc) := (hX.cell (1 + k)).trans hC
  have fb := hX.free; have zb := hX.lt
  have hlen := hat.1
  have hlt := (List.getElem?_eq_some_iff.1 ho).1
  obtain ⟨bb, off, ob', rfl, zbb, hob, d0⟩ := ptr_at hat (show n - 1 < on by omega)
  obtain rfl := Option.some.inj (hob.symm.trans ho)
  have h1 : ¬ (n : Int) < 1 := by omega
  have h2 : ¬ (on : Int) < (n : Int) := by omega
  have h3 : IntKind.i64.wrap ((n : Int) - 1) = ((n - 1 : Nat) : Int) := by rw [show (n : Int) - 1 = ((n - 1 : Nat) : Int) by omega]; exact wrap_nat64 (by omega)
  have h4 : n - 1 < on := by omega
  clear hX hC hat ho hob hlen
  go_enter Try.func76, Try.ntmps76
  go_upto_region 3 with (go_at_call 75; go_loud (refine (there_yes k hk _).mono ?_; rintro e1 w1 ⟨rfl, rfl⟩))
  go_wp2
  go_ret
  exact ⟨rfl, (by repeat (first | exact Below.refl _ _ | assumption | apply Below.drew | apply belowN | (refine Below.alloc ?_ (by first | exact Nat.le_refl _ | (simp; done) | (simp; omega)) _) | (refine Below.setCell ?_ (by first | exact Nat.le_refl _ | (simp; done) | (simp; omega)) _)))⟩
/-- An operation that waits. -/
theorem waiting_op {w : World} {cb k n : Nat} {C : Array Value} {OA : Option Addr} {on oc ob : Nat} {bs : List Nat} {wr : Bool} {oid : Int} (hk : k < 16) (hX : Box w cb C) (hC : C[1 + k]? = some (.slice OA on oc)) (hat : ptrE.At w (· < w.heap.size) OA on oc bs) (hn : 1 ≤ n) (ho : bs[n - 1]? = some ob) (hn2 : n < 1000000) (hop : OpC w ob 1 wr oid) :
    Calls Try.prog 68 #[.pointer (some ⟨cb, 0, none⟩), .int .i64 k, .int .i64 n] w fun e w' => e = .returned (.tuple #[.pointer (some ⟨ob, 0, none⟩), .int .i64 0]) ∧ Below w.heap.size w w' := by
  have HF := Lib.hid (find_op hk hX hC hat hn ho hn2)
  have HO := Lib.hid hop
  clear hX hC hat ho hop
  go_enter Try.func68, Try.ntmps68
  go_wp2_with (first
    | (go_at_call 75; go_loud (refine (there_yes k hk _).mono ?_; rintro e1 w1 ⟨rfl, rfl⟩))
    | (go_at_call 76; go_loud (refine HF.out.mono ?_; rintro e2 w2 ⟨rfl, hb2⟩; have O2 := HO.out.below hb2; have c0 := O2.c0; have z0 := O2.lt; have HB2 := Lib.hid hb2; clear hb2 O2)))
  refine bodyPost_ret (v := .tuple #[.pointer (some ⟨ob, 0, none⟩), .int .i64 0]) (by simp [results, Try.results68, go_sem]) rfl ?_
  exact ⟨rfl, HB2.out⟩
/-- A write is given up. -/
theorem give_up {w : World} {cb k n : Nat} {C CO : Array Value} {OA : Option Addr} {on oc ob : Nat} {bs : List Nat} {oid : Int} (hk : k < 16) (hX : Box w cb C) (hC : C[1 + k]? = some (.slice OA on oc)) (hat : ptrE.At w (· < w.heap.size) OA on oc bs) (hn : 1 ≤ n) (ho : bs[n - 1]? = some ob) (hn2 : n < 1000000) (hop : OpC w ob 1 true oid) (hOX : Box w ob CO) :
    Calls Try.prog 37 #[.pointer (some ⟨cb, 0, none⟩), .int .i64 k, .int .i64 n] w fun e w' => e = .returned (.int .i64 0) ∧ ∃ w2, Below w.heap.size w w2 ∧ w' = (w2.setCell ⟨ob, 0, none⟩ (.int .i64 3)).setCell ⟨ob, 0, none⟩ (.int .i64 4) := by
  have HW := Lib.hid (waiting_op hk hX hC hat hn ho hn2 hop)
  have HO := Lib.hid hop; have HX := Lib.hid hOX
  clear hX hC hat ho hop hOX
  go_enter Try.func37, Try.ntmps37
  go_wp2_with (go_at_call 68; go_loud (refine HW.out.mono ?_; rintro e2 w2 ⟨rfl, hb2⟩; have O2 := HO.out.below hb2; have c0 := O2.c0; have c1 := O2.c1; have z0 := O2.lt; have X2 := HX.out.below hb2 HX.out.lt; have f0 := X2.free; have HB2 := Lib.hid hb2; clear hb2 O2 X2))
  go_ret
  exact ⟨rfl, w2, HB2.out, rfl⟩
end Go.Proofs.Ytdpamikobmefeaa
