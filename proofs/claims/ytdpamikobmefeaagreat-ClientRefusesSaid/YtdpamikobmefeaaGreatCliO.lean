/- The client: Outcome of a query that is Done. Conditions: it is one. -/
import Derived.Test.YtdpamikobmefeaaGreatCliQ
import Derived.Deep.RegionHeld3
namespace Go.Proofs.YtdpamikobmefeaaGreat
open Go.RowKit Go.ChangeShapes Go.Maps
set_option maxRecDepth 100000
set_option linter.unusedVariables false
set_option linter.unusedSimpArgs false

/-- The cells of an outcome. -/
abbrev outC (n st hub : Int) (R : Value) (G C : Value) : Array Value := #[.int .i64 n, .int .i64 st, .int .i64 hub, R, G, C]
abbrev outZ : Array Value := outC 0 0 0 (.slice none 0 0) (.slice none 0 0) (.slice none 0 0)
set_option maxHeartbeats 8000000 in
theorem out_done {W w : World} {ts : List Thing} {π πo πg : List Int} {cb k n ob g : Nat} {C : Array Value} {hub page after : Int} {first : Bool} {OA BA cv : Option Addr} {on oc bn bc : Nat} {bs : List Nat} {bl : List Rng} {L all rest : List Rec} {m : Nat} (i0 j io ig : Nat) (hk : k < 16) (h : Sta W ts w) (hi : ts[i0]? = some (tBlk π cb C)) (hC : C[1 + k]? = some (.slice OA on oc)) (hj : ts[j]? = some (tAt ptrE OA on oc bs))
    (hn : 1 ≤ n) (ho : bs[n - 1]? = some ob) (hn2 : n < 1000000) (hob : ts[io]? = some (tBlk πo ob (opQ 2 hub page BA bn bc after first cv g))) (hg : ts[ig]? = some (tGath πg g bl L)) (hcol : ∀ x ∈ ts, x.π ≠ [13] ∧ x.π ≠ [14])
    (hL : L.length ≤ 1000000) (hu : UpOf L all) (hr : restF after first all = rest) (hm : manyF page rest.length = m) (hb : decide (m < rest.length) = false) :
    Calls Tryz.prog 14 #[.pointer (some ⟨cb, 0, none⟩), .int .i64 k, .int .i64 n] w fun e w' => ∃ A, e = .returned (.tuple #[.agg (outC n 2 hub (.slice A m m) (.slice none 0 0) (.slice none 0 0)), .int .i64 0]) ∧ Sta W (ts ++ [tAt recE A m m (rest.take m)]) w' := by
  have HI := Lib.hid hi; have HC := Lib.hid hC; have HJ := Lib.hid hj; have HO := Lib.hid ho; have HOB := Lib.hid hob; have HG := Lib.hid hg; have HCOL := Lib.hid hcol
  have HU := Lib.hid hu; have HR := Lib.hid hr; have HM := Lib.hid hm; have HB := Lib.hid hb
  have S1 := Lib.hid (show Sta W (ts ++ [tBlk [13] w.heap.size outZ]) (w.alloc (.cells outZ 45)) from h.addBlk [13] (by simp) (fun x hx => (hcol x hx).1) outZ 45)
  have hlp := fun (i : Nat) (t u : Thing) (h : ts[i]? = some t) => (show (ts ++ [u])[i]? = some t by rw [List.getElem?_append_left (List.getElem?_eq_some_iff.1 h).1]; exact h)
  have HLP := Lib.hid hlp
  have hX := S1.out.blk (HLP.out i0 _ _ hi)
  have hat := S1.out.at (E := ptrE) (HLP.out j _ _ hj)
  have HX := Lib.hid hX; have HAT := Lib.hid hat
  clear h hi hC hj ho hob hg hcol hu hr hm hb hlp hX hat
  go_enter Tryz.func14, Tryz.ntmps14
  go_upto_region 9 with (first
    | (go_at_call 41; go_loud (refine (there_yes k hk _).mono ?_; rintro e1 w1 ⟨rfl, rfl⟩))
    | (go_at_call 42; go_loud (refine (find_op hk HX.out HC.out HAT.out hn HO.out hn2).mono ?_; rintro e2 w2 ⟨rfl, hb2⟩; have S2 := Lib.hid (S1.out.later hb2); have hbx := S2.out.blk (HLP.out io _ _ HOB.out); have d0 := hbx.cell 0; have d1 := hbx.cell 1; have fo := hbx.free; have zo := hbx.lt; clear hb2 hbx)))
  generalize hrb : w.heap.size = rb at S2 ⊢
  refine wp_abs (fun wx => Sta W (ts ++ [tBlk [13] rb outZ, tBlk [14] w2.heap.size (outC n 2 0 (.slice none 0 0) (.slice none 0 0) (.slice none 0 0))]) wx) ?_ ?_
  · have s3 := S2.out.addBlk [14] (by simp) (fun x hx => by
      simp only [List.mem_append, List.mem_singleton] at hx
      rcases hx with hx | rfl
      · exact (HCOL.out x hx).2
      · simp [tBlk]) (outC n 2 0 (.slice none 0 0) (.slice none 0 0) (.slice none 0 0)) 45
    simpa [List.append_assoc] using s3
  generalize w2.heap.size = xb
  intro wx hsx
  have S3 := Lib.hid hsx
  clear S2 S1 HX HAT d0 d1 fo zo hsx hrb
  have hl2 := fun (i : Nat) (t : Thing) (l : List Thing) (h : ts[i]? = some t) => (show (ts ++ l)[i]? = some t by rw [List.getElem?_append_left (List.getElem?_eq_some_iff.1 h).1]; exact h)
  have HL2 := Lib.hid hl2
  have hl3 : ∀ (j : Nat) (t : Thing) (l : List Thing), l[j]? = some t → (ts ++ l)[ts.length + j]? = some t := fun j t l h => by rw [List.getElem?_append_right (by omega), show ts.length + j - ts.length = j by omega]; exact h
  have HL3 := Lib.hid hl3
  clear hl2 hl3
  have hbx := S3.out.blk (HL2.out io _ _ HOB.out)
  have d0 : wx.cell? ⟨ob, 0, none⟩ = some (.int .i64 2) := hbx.cell 0
  have d1 : wx.cell? ⟨ob, 1, none⟩ = some (.bool false) := hbx.cell 1
  have d6 : wx.cell? ⟨ob, 6, none⟩ = some (.int .i64 hub) := hbx.cell 6
  have d7 : wx.cell? ⟨ob, 7, none⟩ = some (.int .i64 page) := hbx.cell 7
  have d9 : wx.cell? ⟨ob, 9, none⟩ = some (.int .u64 after) := hbx.cell 9
  have d10 : wx.cell? ⟨ob, 10, none⟩ = some (.bool first) := hbx.cell 10
  have d12 : wx.cell? ⟨ob, 12, none⟩ = some (.pointer (some ⟨g, 0, none⟩)) := hbx.cell 12
  have fo := hbx.free; have zo := hbx.lt
  have hxx := S3.out.blk (i := ts.length + 1) (π := [14]) (b := xb) (HL3.out 1 _ _ rfl)
  have x2 : wx.cell? ⟨xb, 2, none⟩ = some (.int .i64 0) := hxx.cell 2
  have fx := hxx.free; have zx := hxx.lt
  clear hbx hxx
  go_upto_region 15 with fail
  refine wp_abs (fun wy => Sta W (ts ++ [tBlk [13] rb outZ, tBlk [14] xb (outC n 2 hub (.slice none 0 0) (.slice none 0 0) (.slice none 0 0))]) wy) (S3.out.store (i := ts.length + 1) (π := [14]) (b := xb) 2 (.int .i64 hub) (HL3.out 1 _ _ rfl) (by simp) (by rw [List.set_append_right _ _ (by omega), show ts.length + 1 - ts.length = 1 by omega]; rfl)) ?_
  intro wy hsy
  have S4 := Lib.hid hsy
  clear S3 d0 d1 d6 d7 d9 d10 d12 fo zo x2 fx zx hsy
  have hbx := S4.out.blk (HL2.out io _ _ HOB.out)
  have d0 : wy.cell? ⟨ob, 0, none⟩ = some (.int .i64 2) := hbx.cell 0
  have d7 : wy.cell? ⟨ob, 7, none⟩ = some (.int .i64 page) := hbx.cell 7
  have d9 : wy.cell? ⟨ob, 9, none⟩ = some (.int .u64 after) := hbx.cell 9
  have d10 : wy.cell? ⟨ob, 10, none⟩ = some (.bool first) := hbx.cell 10
  have d12 : wy.cell? ⟨ob, 12, none⟩ = some (.pointer (some ⟨g, 0, none⟩)) := hbx.cell 12
  have fo := hbx.free; have zo := hbx.lt
  clear hbx
  go_region_held3 (fun w' => Same wy w') (with_reducible (first | assumption | exact Same.drew _))
    ((go_at_call 43; (with_reducible refine (ga_page (all := all) (rest := rest) (m := m) (bo := false) ig after first page (S4.out.later (show Same wy _ by (with_reducible (first | assumption | exact Same.drew _))).1) (HL2.out ig _ _ HG.out) hL HU.out HR.out HM.out HB.out).mono ?_); rintro e3 w3 ⟨A3, rfl, hs3, hb3⟩; have S1 := Same.step (show Same wy _ by (with_reducible (first | assumption | exact Same.drew _))) hb3; have S5 := Lib.hid hs3; clear hb3 hs3))
  have S6 := Lib.hid ((show Sta W (ts ++ [tBlk [13] rb outZ, tBlk [14] xb (outC n 2 hub (.slice none 0 0) (.slice none 0 0) (.slice none 0 0)), tAt recE A3 m m (rest.take m)]) w3 from by have := S5.out; simpa [List.append_assoc] using this))
  have hxx := S6.out.blk (i := ts.length + 1) (π := [14]) (b := xb) (HL3.out 1 _ _ rfl)
  have x0 : w3.cell? ⟨xb, 0, none⟩ = some (.int .i64 n) := hxx.cell 0
  have x1 : w3.cell? ⟨xb, 1, none⟩ = some (.int .i64 2) := hxx.cell 1
  have x2 : w3.cell? ⟨xb, 2, none⟩ = some (.int .i64 hub) := hxx.cell 2
  have x3 : w3.cell? ⟨xb, 3, none⟩ = some (.slice none 0 0) := hxx.cell 3
  have x4 : w3.cell? ⟨xb, 4, none⟩ = some (.slice none 0 0) := hxx.cell 4
  have x5 : w3.cell? ⟨xb, 5, none⟩ = some (.slice none 0 0) := hxx.cell 5
  have fx := hxx.free; have zx := hxx.lt
  have hrr := S6.out.blk (i := ts.length) (π := [13]) (b := rb) (HL3.out 0 _ _ rfl)
  have r0 : w3.cell? ⟨rb, 0, none⟩ = some (.int .i64 0) := hrr.cell 0
  have r1 : w3.cell? ⟨rb, 1, none⟩ = some (.int .i64 0) := hrr.cell 1
  have r2 : w3.cell? ⟨rb, 2, none⟩ = some (.int .i64 0) := hrr.cell 2
  have r3 : w3.cell? ⟨rb, 3, none⟩ = some (.slice none 0 0) := hrr.cell 3
  have r4 : w3.cell? ⟨rb, 4, none⟩ = some (.slice none 0 0) := hrr.cell 4
  have r5 : w3.cell? ⟨rb, 5, none⟩ = some (.slice none 0 0) := hrr.cell 5
  have fr := hrr.free; have zr := hrr.lt
  have hne : rb ≠ xb := by
    obtain ⟨c5, h5⟩ := id S6.out
    have q1 : c5 rb = [13] := (h5.get (i := ts.length) (t := tBlk [13] rb outZ) (HL3.out 0 _ _ rfl)).2
    have q2 : c5 xb = [14] := (h5.get (i := ts.length + 1) (t := tBlk [14] xb (outC n 2 hub (.slice none 0 0) (.slice none 0 0) (.slice none 0 0))) (HL3.out 1 _ _ rfl)).2
    intro e
    rw [e, q2] at q1
    cases q1
  clear hxx hrr S1 S5 S4 d0 d7 d9 d10 d12 fo zo
  rename_i hq0
  clear hq0
  go_wp2
  have T0 := S6.out.storeR 1 3 (.slice A3 m m) rfl (by simp) rfl
  have T1 := T0.storeR 0 0 (.int .i64 n) rfl (by simp) rfl
  have T2 := T1.storeR 0 1 (.int .i64 2) rfl (by simp) rfl
  have T3 := T2.storeR 0 2 (.int .i64 hub) rfl (by simp) rfl
  have T4 := T3.storeR 0 3 (.slice A3 m m) rfl (by simp) rfl
  have T5 := T4.storeR 0 4 (.slice none 0 0) rfl (by simp) rfl
  have T6 := T5.storeR 0 5 (.slice none 0 0) rfl (by simp) rfl
  have TT := Lib.hid T6
  clear T0 T1 T2 T3 T4 T5 T6 S6 x0 x1 x2 x3 x4 x5 r0 r1 r2 r3 r4 r5 fx zx fr zr hne
  revert TT
  generalize (((((((w3.setCell ⟨xb, 3, none⟩ (.slice A3 m m)).setCell ⟨rb, 0, none⟩ (.int .i64 n)).setCell ⟨rb, 1, none⟩ (.int .i64 2)).setCell ⟨rb, 2, none⟩ (.int .i64 hub)).setCell ⟨rb, 3, none⟩ (.slice A3 m m)).setCell ⟨rb, 4, none⟩ (.slice none 0 0)).setCell ⟨rb, 5, none⟩ (.slice none 0 0)) = wz
  intro TT
  have hrr := TT.out.blkR 0 rfl
  have r0 : wz.cell? ⟨rb, 0, none⟩ = some (.int .i64 n) := hrr.cell 0
  have r1 : wz.cell? ⟨rb, 1, none⟩ = some (.int .i64 2) := hrr.cell 1
  have r2 : wz.cell? ⟨rb, 2, none⟩ = some (.int .i64 hub) := hrr.cell 2
  have r3 : wz.cell? ⟨rb, 3, none⟩ = some (.slice A3 m m) := hrr.cell 3
  have r4 : wz.cell? ⟨rb, 4, none⟩ = some (.slice none 0 0) := hrr.cell 4
  have r5 : wz.cell? ⟨rb, 5, none⟩ = some (.slice none 0 0) := hrr.cell 5
  have fr := hrr.free
  clear hrr
  refine bodyPost_ret (v := .tuple #[.agg (outC n 2 hub (.slice A3 m m) (.slice none 0 0) (.slice none 0 0)), .int .i64 0]) (by simp [results, Tryz.results14, go_sem, r0, r1, r2, r3, r4, r5, fr]) rfl ?_
  exact ⟨A3, rfl, TT.out.pick (List.Sublist.append (List.Sublist.refl _) (.cons _ (.cons _ (List.Sublist.refl _))))⟩
end Go.Proofs.YtdpamikobmefeaaGreat
