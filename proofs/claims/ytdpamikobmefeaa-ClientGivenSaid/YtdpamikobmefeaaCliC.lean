/- The client: a write's message. Conditions: the values read so. -/
import Derived.Test.YtdpamikobmefeaaCliB
import Derived.Laws.Rows
import Derived.Laws.Tables
namespace Go.Proofs.Ytdpamikobmefeaa
open Go.RowKit Go.ChangeShapes
set_option maxRecDepth 100000
set_option linter.unusedVariables false
set_option linter.unusedSimpArgs false

theorem u32_wfC {v : Int} (h : U32 v) : (Lit.int .u32 v).wf = true := by
  have := h.1; have := h.2
  simp [Lit.wf, IntKind.min, IntKind.max, IntKind.bits, IntKind.signed]; omega
/-- record.Copy: the values lie in a block of their own. -/
def OwnBox (B : Nat) (xs : List Int) (w : World) (v : Value) : Prop := ∃ (g cap : Nat) (cur : Array Value), v = .slice (some ⟨g, 0, none⟩) xs.length cap ∧ Box w g cur ∧ cur.size = cap ∧ xs.length ≤ cap ∧ cap ≤ 9223372036854775807 ∧ B ≤ g ∧ cur.toList.take xs.length = xs.map (Value.int .u32)
theorem OwnBox.other {B : Nat} {xs : List Int} {w w' : World} {v : Value} {S : Nat → Prop} (h : OwnBox B xs w v) (ho : Only S w w') (hS : ∀ b, B ≤ b → ¬ S b) : OwnBox B xs w' v := by
  obtain ⟨g, cap, cur, rfl, h1, h2, h3, h4, h5, h6⟩ := h
  exact ⟨g, cap, cur, rfl, h1.only ho (hS g h5), h2, h3, h4, h5, h6⟩
theorem OwnBox.down {B B' : Nat} {xs : List Int} {w : World} {v : Value} (h : OwnBox B xs w v) (hB : B' ≤ B) : OwnBox B' xs w v := by
  obtain ⟨g, cap, cur, rfl, h1, h2, h3, h4, h5, h6⟩ := h
  exact ⟨g, cap, cur, rfl, h1, h2, h3, h4, Nat.le_trans hB h5, h6⟩
set_option maxHeartbeats 1000000 in
theorem copy_box {D : Nat → Prop} {A : Option Addr} {n c : Nat} {xs : List Int} (id ver : Int) (w : World) (hx : Ints w D .u32 4 A n c xs) (hD : ∀ b, D b → b < w.heap.size) (hn0 : 0 < n) :
    Calls Try.prog 43 #[.agg #[.int .u64 id, .int .u64 ver, .slice A n c]] w fun e w' => ∃ v, e = .returned (.agg #[.int .u64 id, .int .u64 ver, v]) ∧ OwnBox w.heap.size xs w' v ∧ Below w.heap.size w w' := by
  have h2 := Lib.hid ((hx.below (below_a1 w (.cells #[.int .u64 id, .int .u64 ver, .slice A n c] 37)) hD).below (below_a1 _ (.cells #[.int .u64 0, .int .u64 0, .slice none 0 0] 37)) (by intro b hb; have := hD b hb; simp; omega))
  have d2 := Lib.hid (show ∀ b, D b → b < ((w.alloc (.cells #[.int .u64 id, .int .u64 ver, .slice A n c] 37)).alloc (.cells #[.int .u64 0, .int .u64 0, .slice none 0 0] 37)).heap.size from by intro b hb; have := hD b hb; simp; omega)
  have hxl := hx.1
  clear hx hD
  go_enter Try.func43, Try.ntmps43
  go_wp2_with (go_at_call 64; go_loud ((with_reducible refine (clone_u32 _ h2.out d2.out).mono ?_); rintro e1 w1 hn; obtain ⟨v1, rfl, B, m, cap, rfl, hi, hb, T1, how⟩ := hn; simp only [size_alloc] at hi how; have X1 := ((Box.new w #[.int .u64 id, .int .u64 ver, .slice A n c] 37).alloc (.cells #[.int .u64 0, .int .u64 0, .slice none 0 0] 37)).below hb (by simp only [size_alloc]; omega); have X2 := (Box.newAt (w.alloc (.cells #[.int .u64 id, .int .u64 ver, .slice A n c] 37)) #[.int .u64 0, .int .u64 0, .slice none 0 0] 37 (w.heap.size + 1) (by rw [size_alloc])).below hb (by simp only [size_alloc]; omega); have c1 := X1.cell; have f1 := X1.free; have c2 := X2.cell; have f2 := X2.free; have z1 := X1.lt; have z2 := X2.lt; have HI := Lib.hid hi; have HW := Lib.hid how; have HB := Lib.hid ((below_a2 w _ _).trans (hb.mono (by simp only [size_alloc]; omega))); clear hi hb X1 X2 how))
  refine bodyPost_ret (v := .agg #[.int .u64 id, .int .u64 ver, .slice B m cap]) (by simp [results, Try.results43, go_sem, c1, f1, c2, f2]) rfl ?_
  refine ⟨.slice B m cap, rfl, ?_, ?_⟩
  · have hO : OwnBox (w.heap.size + 1 + 1) xs w1 (.slice B m cap) := by
      have hm : m = xs.length := HI.out.1.symm
      rcases HW.out.2 with ⟨e, h0⟩ | ⟨g, cap', cur, e, hg, hh, hn, hc, hs, ht⟩
      · injection e with _ e2 _
        omega
      · injection e with e1 e2 e3
        subst e1 e3
        refine ⟨g, cap, cur, by rw [hm], ⟨_, hh⟩, by simpa using hs, by omega, by unfold maxLen at hc; omega, hg, ?_⟩
        rw [← hm]; simpa using ht
    exact (OwnBox.other (S := fun k => k = w.heap.size ∨ k = w.heap.size + 1) hO ((((((Only.refl _ _).setCell (.inl (.inl rfl)) _).setCell (.inl (.inr rfl)) _).setCell (.inl (.inr rfl)) _).setCell (.inl (.inr rfl)) _)) (fun b hb => by omega)).down (by omega)
  · exact ((((HB.out.setCell (by exact Nat.le_refl _) _).setCell (by exact Nat.le_succ _) _).setCell (by exact Nat.le_succ _) _).setCell (by exact Nat.le_succ _) _)
theorem OwnBox.ints {B : Nat} {xs : List Int} {w : World} {v : Value} (h : OwnBox B xs w v) (hu : ∀ x ∈ xs, U32 x) (hb : xs.length * 4 ≤ 140737488351232) : ∃ s n c, v = .slice s n c ∧ Ints w (B ≤ ·) .u32 4 s n c xs := by
  obtain ⟨g, cap, cur, rfl, h1, h2, h3, h4, h5, h6⟩ := h
  refine ⟨_, _, _, rfl, rfl, h3, h4, hb, (fun h => by cases h), (fun x hx => u32_wfC (hu x hx)), fun hn => ⟨g, 0, rfl, h5, fun j hj => ?_⟩⟩
  rw [Nat.zero_add, h1.cell j]
  have q : cur.toList[j]? = (xs.map (Value.int .u32))[j]? := by
    rw [← h6, List.getElem?_take_of_lt (by omega)]
  rw [Array.getElem?_toList] at q
  rw [q, List.getElem?_map, List.getElem?_eq_getElem (by omega), List.getD_eq_getElem?_getD, List.getElem?_eq_getElem (by omega)]; rfl
/-- An element is set. -/
theorem OwnBox.set {B g n cap : Nat} {xs : List Int} {w : World} (h : OwnBox B xs w (.slice (some ⟨g, 0, none⟩) n cap)) {j : Nat} (hj : j < xs.length) (x : Int) : OwnBox B (xs.set j x) (w.setCell ⟨g, j, none⟩ (.int .u32 x)) (.slice (some ⟨g, 0, none⟩) n cap) := by
  obtain ⟨g', cap', cur, e, h1, h2, h3, h4, h5, h6⟩ := h
  injection e with e1 e2 e3
  injection e1 with e1
  injection e1 with e1
  subst e1 e2 e3
  refine ⟨g, cap, cur.setIfInBounds j (.int .u32 x), by rw [List.length_set], h1.set _, by simpa using h2, by simpa using h3, h4, h5, ?_⟩
  rw [List.length_set, List.map_set, ← h6, Array.toList_setIfInBounds, List.take_set]
/-- The message of a write. -/
def storeCells (client n hub : Int) (id ver target : Int) (gone : Bool) (s : Option Addr) (l c : Nat) : List Value :=
  [.int .i64 1, .int .i64 hub, .int .u32 0, .int .i64 client, .int .i64 n, .int .u32 target, .int .i64 0, .int .u32 0, .int .i64 0, .int .u32 target, .int .u64 id, .int .u64 ver, .slice s l c, .bool gone, .int .u32 0, .int .u32 0, .slice none 0 0, .slice none 0 0]
abbrev zeroM : Array Value := #[.int .i64 0, .int .i64 0, .int .u32 0, .int .i64 0, .int .i64 0, .int .u32 0, .int .i64 0, .int .u32 0, .int .i64 0, .int .u32 0, .int .u64 0, .int .u64 0, .slice none 0 0, .bool false, .int .u32 0, .int .u32 0, .slice none 0 0, .slice none 0 0]
/-- A message's cells stored. -/
def setM (w : World) (a : Nat) (k h : Int) (p : Int) (cl op : Int) (t : Int) (ho : Int) (ow : Int) (tu v i r : Int) (s : Value) (g : Bool) (f t2 : Int) (bx rs : Value) : World :=
  (((((((((((((((((w.setCell ⟨a, 0, none⟩ (.int .i64 k)).setCell ⟨a, 1, none⟩ (.int .i64 h)).setCell ⟨a, 2, none⟩ (.int .u32 p)).setCell ⟨a, 3, none⟩ (.int .i64 cl)).setCell ⟨a, 4, none⟩ (.int .i64 op)).setCell ⟨a, 5, none⟩ (.int .u32 t)).setCell ⟨a, 6, none⟩ (.int .i64 ho)).setCell ⟨a, 7, none⟩ (.int .u32 ow)).setCell ⟨a, 8, none⟩ (.int .i64 tu)).setCell ⟨a, 9, none⟩ (.int .u32 v)).setCell ⟨a, 10, none⟩ (.int .u64 i)).setCell ⟨a, 11, none⟩ (.int .u64 r)).setCell ⟨a, 12, none⟩ s).setCell ⟨a, 13, none⟩ (.bool g)).setCell ⟨a, 14, none⟩ (.int .u32 f)).setCell ⟨a, 15, none⟩ (.int .u32 t2)).setCell ⟨a, 16, none⟩ bx).setCell ⟨a, 17, none⟩ rs
theorem eight_only (w : World) (a : Nat) (k h : Int) (p : Int) (cl op : Int) (t : Int) (ho : Int) (ow : Int) (tu v i r : Int) (s : Value) (g : Bool) (f t2 : Int) (bx rs : Value) : Only (· = a) w (setM w a k h p cl op t ho ow tu v i r s g f t2 bx rs) := by
  unfold setM
  iterate 18 (refine Only.setCell (S := fun x => x = a) ?_ (.inl rfl) _)
  exact Only.refl _ _
set_option maxHeartbeats 1000000 in
theorem eight_box {w : World} {a : Nat} (hb : Box w a zeroM) (k h : Int) (p : Int) (cl op : Int) (t : Int) (ho : Int) (ow : Int) (tu v i r : Int) (s : Value) (g : Bool) (f t2 : Int) (bx rs : Value) : Box (setM w a k h p cl op t ho ow tu v i r s g f t2 bx rs) a #[.int .i64 k, .int .i64 h, .int .u32 p, .int .i64 cl, .int .i64 op, .int .u32 t, .int .i64 ho, .int .u32 ow, .int .i64 tu, .int .u32 v, .int .u64 i, .int .u64 r, s, .bool g, .int .u32 f, .int .u32 t2, bx, rs] := by
  have e : ((((((((((((((((((zeroM.setIfInBounds 0 (.int .i64 k)).setIfInBounds 1 (.int .i64 h)).setIfInBounds 2 (.int .u32 p)).setIfInBounds 3 (.int .i64 cl)).setIfInBounds 4 (.int .i64 op)).setIfInBounds 5 (.int .u32 t)).setIfInBounds 6 (.int .i64 ho)).setIfInBounds 7 (.int .u32 ow)).setIfInBounds 8 (.int .i64 tu)).setIfInBounds 9 (.int .u32 v)).setIfInBounds 10 (.int .u64 i)).setIfInBounds 11 (.int .u64 r)).setIfInBounds 12 s).setIfInBounds 13 (.bool g)).setIfInBounds 14 (.int .u32 f)).setIfInBounds 15 (.int .u32 t2)).setIfInBounds 16 bx).setIfInBounds 17 rs) = #[.int .i64 k, .int .i64 h, .int .u32 p, .int .i64 cl, .int .i64 op, .int .u32 t, .int .i64 ho, .int .u32 ow, .int .i64 tu, .int .u32 v, .int .u64 i, .int .u64 r, s, .bool g, .int .u32 f, .int .u32 t2, bx, rs] := by kernel_rfl
  exact (congrArg (Box (setM w a k h p cl op t ho ow tu v i r s g f t2 bx rs) a) e).mp ((((((((((((((((((hb.set (i := 0) (.int .i64 k)).set (i := 1) (.int .i64 h)).set (i := 2) (.int .u32 p)).set (i := 3) (.int .i64 cl)).set (i := 4) (.int .i64 op)).set (i := 5) (.int .u32 t)).set (i := 6) (.int .i64 ho)).set (i := 7) (.int .u32 ow)).set (i := 8) (.int .i64 tu)).set (i := 9) (.int .u32 v)).set (i := 10) (.int .u64 i)).set (i := 11) (.int .u64 r)).set (i := 12) s).set (i := 13) (.bool g)).set (i := 14) (.int .u32 f)).set (i := 15) (.int .u32 t2)).set (i := 16) bx).set (i := 17) rs)
set_option maxHeartbeats 4000000 in
theorem store_any {D : Nat → Prop} {A : Option Addr} {m cp : Nat} {vals : List Int} (client n : Int) (hub : Nat) (id ver target : Int) (gone : Bool) (w : World) (hx : Ints w D .u32 4 A m cp vals) (hD : ∀ b, D b → b < w.heap.size) (hh : hub < m) (ht : U32 target) (hu : ∀ x ∈ vals, U32 x) :
    Calls Try.prog 98 #[.int .i64 client, .int .i64 n, .int .i64 hub, .agg #[.int .u64 id, .int .u64 ver, .slice A m cp], .int .u32 target, .bool gone] w fun e w' => ∃ s l c, e = .returned (.agg (storeCells client n hub id ver target gone s l c).toArray) ∧ Ints w' (w.heap.size ≤ ·) .u32 4 s l c (vals.set hub target) ∧ Below w.heap.size w w' := by
  obtain rfl : m = vals.length := hx.1.symm
  have hmb := hx.2.2.2.1
  have HX := Lib.hid hx; have HD := Lib.hid hD; have HU := Lib.hid hu
  clear hx hD hu
  go_enter Try.func98, Try.ntmps98
  go_upto_region 1 with fail
  refine wp_abs (fun wx => Box wx w.heap.size #[.int .u64 id, .int .u64 ver, .slice A vals.length cp] ∧ Box wx (w.heap.size + 1) zeroM ∧ Below w.heap.size w wx) ⟨(Box.new w _ _).alloc _, Box.newAt (w.alloc _) _ _ _ (by rw [size_alloc]), below_a2 w _ _⟩ ?_
  rintro wx ⟨hx1, hx2, hbx⟩
  have HBX := Lib.hid hbx; have X1 := Lib.hid hx1; have X2 := Lib.hid hx2
  have HIX := Lib.hid (HX.out.move (w' := wx) (D' := (· < w.heap.size)) fun b hb _ => ⟨hbx.block b (HD.out b hb), HD.out b hb⟩)
  have c1 := hx1.cell; have f1 := hx1.free; have z1 := hx1.lt
  have z2 := hx2.lt
  have hm0 : 0 < vals.length := by omega
  clear hx1 hx2 hbx
  go_upto_region 2 with (go_at_call 43; go_loud (refine (copy_box id ver wx HIX.out (fun b hb => Nat.lt_of_lt_of_le hb HBX.out.size) hm0).mono ?_; rintro e3 w3 ⟨v3, rfl, ho3, hb3⟩; obtain ⟨g, cap, cur, rfl, hg1, hg2, hg3, hg4, hg5, hg6⟩ := (show OwnBox wx.heap.size vals w3 v3 from ho3); have X13 := X1.out.below hb3 z1; have c13 := X13.cell; have f13 := X13.free; have z13 := X13.lt; have HB3 := Lib.hid hb3; have HO3 := Lib.hid ho3; clear hb3 ho3 X13 hg1 hg2 hg3 hg4 hg6))
  refine wp_abs (fun wy => Box wy w.heap.size #[.int .u64 id, .int .u64 ver, .slice (some ⟨g, 0, none⟩) vals.length cap] ∧ Box wy (w.heap.size + 1) zeroM ∧ Below w.heap.size w wy ∧ OwnBox wx.heap.size vals wy (.slice (some ⟨g, 0, none⟩) vals.length cap)) ⟨?_, ?_, ?_, ?_⟩ ?_
  · have := (((X1.out.below HB3.out X1.out.lt).set (i := 0) (.int .u64 id)).set (i := 1) (.int .u64 ver)).set (i := 2) (.slice (some ⟨g, 0, none⟩) vals.length cap)
    simpa using this
  · exact (X2.out.below HB3.out X2.out.lt).only (three_only w3 w.heap.size _ _ _) (by omega)
  · exact three_below (below_from HBX.out HB3.out HBX.out.size) (Nat.le_refl _) _ _ _
  · exact HO3.out.other (three_only w3 w.heap.size _ _ _) (fun b hb => by omega)
  clear HB3 HO3 c13 f13 z13 c1 f1 X1 X2
  rintro wy ⟨hy1, hy2, hby, hoy⟩
  have Y1 := Lib.hid hy1; have Y2 := Lib.hid hy2; have HBY := Lib.hid hby; have HOY := Lib.hid hoy
  have c1 := hy1.cell; have f1 := hy1.free; have zy1 := hy1.lt
  obtain ⟨g', cap', cur', e', q1, q2, q3, q4, q5, q6⟩ := (show OwnBox wx.heap.size vals wy (.slice (some ⟨g, 0, none⟩) vals.length cap) from hoy)
  injection e' with e1 e2 e3
  injection e1 with e1
  injection e1 with e1
  subst e1 e3
  have fg := q1.free; have zg := q1.lt
  have hnn : ∃ u, wy.cell? ⟨g, hub, none⟩ = some u := ⟨_, (q1.cell hub).trans (Array.getElem?_eq_getElem (by omega))⟩
  obtain ⟨u0, hu0⟩ := hnn
  clear hy1 hy2 hby hoy q1 q2 q3 q4 q6
  go_upto_region 3 with fail
  refine wp_abs (fun wz => Box wz w.heap.size #[.int .u64 id, .int .u64 ver, .slice (some ⟨g, 0, none⟩) vals.length cap] ∧ Box wz (w.heap.size + 1) zeroM ∧ Below w.heap.size w wz ∧ OwnBox wx.heap.size (vals.set hub target) wz (.slice (some ⟨g, 0, none⟩) vals.length cap)) ⟨Y1.out.setOther (by show _ ≠ g; omega) _, Y2.out.setOther (by show _ ≠ g; omega) _, HBY.out.setCell (p := ⟨g, hub, none⟩) (by show _ ≤ g; have := HBX.out.size; omega) _, HOY.out.set hh target⟩ ?_
  clear c1 f1 zy1 fg zg hu0 Y1 Y2 HBY HOY
  rintro wz ⟨hz1, hz2, hbz, hoz⟩
  have c1 := hz1.cell; have f1 := hz1.free; have zz1 := hz1.lt
  have c2 := hz2.cell; have f2 := hz2.free; have zz2 := hz2.lt
  have HBZ := Lib.hid hbz; have HOZ := Lib.hid hoz; have Z2 := Lib.hid hz2
  clear hz1 hz2 hbz hoz
  obtain ⟨s9, l9, c9, e9, hi9⟩ := HOZ.out.ints (fun x hx => by rcases List.mem_or_eq_of_mem_set hx with h | h; exact HU.out x h; rw [h]; exact ht) (by simpa using hmb)
  injection e9 with e1 e2 e3
  subst e1 e2 e3
  have HI9 := Lib.hid hi9
  clear hi9
  go_wp2
  have ho := eight_only wz (w.heap.size + 1) 1 hub 0 client n target 0 0 0 target id ver (.slice (some ⟨g, 0, none⟩) vals.length cap) gone 0 0 (.slice none 0 0) (.slice none 0 0)
  have hbx := eight_box Z2.out 1 hub 0 client n target 0 0 0 target id ver (.slice (some ⟨g, 0, none⟩) vals.length cap) gone 0 0 (.slice none 0 0) (.slice none 0 0)
  obtain ⟨W9, hW9⟩ : ∃ W9, setM wz (w.heap.size + 1) 1 hub 0 client n target 0 0 0 target id ver (.slice (some ⟨g, 0, none⟩) vals.length cap) gone 0 0 (.slice none 0 0) (.slice none 0 0) = W9 := ⟨_, rfl⟩
  rw [hW9] at ho hbx
  unfold setM at hW9
  rw [hW9]
  clear hW9
  obtain ⟨T9, hT9⟩ := hbx
  refine bodyPost_ret (v := .agg (storeCells client n hub id ver target gone (some ⟨g, 0, none⟩) vals.length cap).toArray) (results_cell_row (p := 12) (ty := 82) Try.results98 _ W9 (w.heap.size + 1) T9 _ (0, 0) _ rfl hT9 Try.underlying82 rfl (by kernel_rfl)) rfl ?_
  exact ⟨_, _, _, rfl, HI9.out.move fun b hb hl => ⟨ho.block b hl (by show ¬ b = _; have hb : wx.heap.size ≤ b := hb; omega), by have hb : wx.heap.size ≤ b := hb; omega⟩, HBZ.out.trans (ho.below (B := w.heap.size) HBZ.out.size (fun k hk => by subst hk; omega))⟩
end Go.Proofs.Ytdpamikobmefeaa
