/- The helpers' Own, Kept, Same and Plain at loads: a copy with spare room behind it, and that it is as it was. Conditions: the slices read so. -/
import Derived.Test.YtjniholnmjafeaaBalMean
import Derived.Test.YtjniholnmjafeaaBalRow
import Derived.Deep.RegionHeld3
import Derived.WalkSpells
namespace Go.Proofs.Ytjniholnmjafeaa
open Go.RowKit Go.ChangeShapes
set_option maxRecDepth 100000
set_option linter.unusedVariables false
set_option linter.unusedSimpArgs false

/-- make([]T, n, c), T whatever it is. -/
theorem run_mkcap_any {P : Program} {t e : TypeId} {z : Value} {size bytes : Nat} (ht : P.underlying t = some (.slice e)) (hinfo : (P.info? e).map (fun i => (i.zero, i.size, i.bytes)) = some (some z, size, bytes)) (hb0 : 0 < bytes)
    (nI cI : Int) (n c : Nat) (hc : cI = (c : Int)) (hnn : nI = (n : Int)) (hn : n ≤ c) (hm : c * bytes ≤ 140737488355328) :
    ∀ W : World, (Instr.makeSlice t (.int .i64 nI) (.int .i64 cI)).run P W = .ok (.slice (some ⟨W.heap.size, 0, none⟩) n c) (W.alloc (.cells (madeCells z.cells (c * size)) e)) := by
  intro W
  subst hc; subst hnn
  obtain ⟨i, hi, hzz⟩ := Option.map_eq_some_iff.1 hinfo
  simp only [Prod.mk.injEq] at hzz
  obtain ⟨hz, hs, hb⟩ := hzz
  have hm' : c ≤ 140737488355328 := Nat.le_trans (Nat.le_mul_of_pos_right _ hb0) hm
  have hm2 : bytes * c ≤ 140737488355328 := by rw [Nat.mul_comm]; exact hm
  have h := run_make (P := P) W t e i z ht hi hz .i64 .i64 (n : Int) (c : Int) (by omega) (by omega) (by rw [hb, ← Int.natCast_mul]; omega) (by omega)
  simpa [hs] using h

theorem take_two {cur : Array Value} {m : Nat} {xs : List Value} {a b : Value} (hm : m + 2 ≤ cur.size) (h : cur.toList.take m = xs) : ((cur.setIfInBounds m a).setIfInBounds (m + 1) b).toList.take (m + 2) = xs ++ [a, b] := by
  have s1 : m + 1 < ((cur.setIfInBounds m a).setIfInBounds (m + 1) b).toList.length := by simp; omega
  have s0 : m < ((cur.setIfInBounds m a).setIfInBounds (m + 1) b).toList.length := by simp; omega
  rw [show m + 2 = m + 1 + 1 by omega, List.take_succ_eq_append_getElem s1, List.take_succ_eq_append_getElem s0]
  have e0 : ((cur.setIfInBounds m a).setIfInBounds (m + 1) b).toList.take m = xs := by
    rw [← h]
    simp [List.take_set_of_le (Nat.le_refl _), List.take_set_of_le (show m ≤ m + 1 by omega)]
  have e1 : ((cur.setIfInBounds m a).setIfInBounds (m + 1) b).toList[m] = a := by
    simp [List.getElem_set]
  have e2 : ((cur.setIfInBounds m a).setIfInBounds (m + 1) b).toList[m + 1] = b := by simp
  rw [e0, e1, e2]; simp

/-- What Own hands back. -/
def OwnLd (w : World) (l : List Ld) (f : Ld) (e : Ending) (w' : World) : Prop :=
  ∃ g, e = .returned (.slice (some ⟨g, 0, none⟩) l.length (l.length + 3)) ∧ w.heap.size ≤ g ∧ Box w' g (ldCells (l ++ [f, f, f])).toArray ∧ Below w.heap.size w w'

theorem own_lds {w : World} {n c g : Nat} {A : Option Addr} {l : List Ld} {f : Ld} {w0 : World} (hx : Lds w0 A n c l) (hb : Box w g (ldCells (l ++ [f, f, f])).toArray) : Lds w (some ⟨g, 0, none⟩) n (n + 3) l := by
  obtain ⟨h1, h2, h3, h4, h5, h6, h7⟩ := hx
  refine ⟨h1, by omega, by omega, h4, (fun h => by cases h), h6, fun hn => ⟨g, 0, rfl, hb.lt, fun j x hx => ?_⟩⟩
  have := ldCells_at (l := l ++ [f, f, f]) (j := j) (x := x) (by rw [List.getElem?_append_left (List.getElem?_eq_some_iff.1 hx).1]; exact hx)
  constructor
  · rw [hb.cell (0 + j * 2), Nat.zero_add, List.getElem?_toArray]; exact this.1
  · rw [hb.cell (0 + j * 2 + 1), Nat.zero_add, List.getElem?_toArray]; exact this.2

set_option maxHeartbeats 1000000 in
theorem bal_own {A : Option Addr} {n c : Nat} {l : List Ld} (p e : Int) (w : World) (h : Lds w A n c l) :
    Calls Try.prog 51 #[.slice A n c, .agg #[.int .u32 p, .int .i64 e]] w (OwnLd w l ⟨p, e⟩) := by
  have bn : n * 16 ≤ 140737488351232 := h.2.2.2.1
  have HH := Lib.hid (h.same (below_a1 w (.cells #[.int .u32 p, .int .i64 e] 79)))
  have HL := Lib.hid h.1
  have hinfo : (Try.prog.info? 79).map (fun i => (i.zero, i.size, i.bytes)) = some (some (.agg #[.int .u32 0, .int .i64 0]), 2, 16) := by kernel_rfl
  obtain ⟨i0, hii, hz0, hz1, hz2⟩ := info_parts hinfo
  have hmk := run_mkcap_any (P := Try.prog) (t := 74) Try.underlying74 hinfo (by omega) 0 ((n : Int) + 3) 0 (n + 3) (by omega) rfl (by omega) (by omega)
  clear hinfo h
  have hcells : (Value.agg #[.int .u32 0, .int .i64 0]).cells = #[.int .u32 0, .int .i64 0] := rfl
  rw [hcells] at hmk
  clear hcells
  have hown : ((w.alloc (.cells #[.int .u32 p, .int .i64 e] 79)).alloc (.cells (madeCells #[.int .u32 0, .int .i64 0] ((n + 3) * 2)) 79)).ownsRow w.heap.size 79 2 (.slice (some ⟨w.heap.size + 1, 0, none⟩) 0 (n + 3)) 0 [] := by
    have := box_owns (base := w.heap.size) (size := 2) (n := 0) (cap := n + 3) (BoxT.new (w.alloc (.cells #[.int .u32 p, .int .i64 e] 79)) (madeCells #[.int .u32 0, .int .i64 0] ((n + 3) * 2)) 79) (by rw [size_madeCells]) (by omega) (by omega) (by rw [size_alloc]; omega)
    rw [size_alloc] at this
    simpa using this
  have hl2 := Lib.hid (show (ldCells l).length = n * 2 by rw [ldCells_len, HL.out])
  have HN := Lib.hid ((HH.out.same (below_a1 _ (.cells (madeCells #[.int .u32 0, .int .i64 0] ((n + 3) * 2)) 79))).news)
  have HO := Lib.hid hown
  clear hown
  go_enter Try.func51, Try.ntmps51
  go_wp2_with (at_builtin; go_loud (refine wpList_append_fits_any _ rfl _ _ 74 rfl w.heap.size 79 i0 2 Try.underlying74 hii hz1 (w.heap.size + 1) 0 (n + 3) [] rfl HO.out A n c (ldCells l) rfl hl2.out HH.out.none HN.out (ldCells_one l) (by omega) ?_; intro w1 hown1 hgrow1; simp only [Nat.zero_add, List.nil_append] at hown1))
  have hb1 : Below w.heap.size w w1 := ((below_a1 w _).alloc (by rw [size_alloc]; omega) _).trans ((grown_only hgrow1).below (by simp only [size_alloc]; omega) (by intro k hk; omega))
  have hX3 : Box w1 w.heap.size #[.int .u32 p, .int .i64 e] := ((Box.new w _ _).alloc _).only (grown_only hgrow1) (by omega)
  obtain ⟨cur, hbox, hsz, htk, _, _⟩ := owns_box hown1
  have HB := Lib.hid hb1; clear hb1
  have HTK := Lib.hid htk; clear htk
  have HX3 := Lib.hid hX3; clear hX3
  clear hown1 hgrow1 hmk
  go_loopw [7] (fun i wr => ∃ j : Nat, j ≤ 3 ∧ i = .int .i64 ((n : Int) + j) ∧ ∃ cur : Array Value, cur.size = (n + 3) * 2 ∧ BoxT wr 79 (w.heap.size + 1) cur ∧ cur.toList.take ((n + j) * 2) = ldCells (l ++ List.replicate j ⟨p, e⟩) ∧ Box wr w.heap.size #[.int .u32 p, .int .i64 e] ∧ Below w.heap.size w wr) (fun i _ => n + 3 - (intOf i).toNat)
  case atStart => exact ⟨0, by omega, by simp, cur, hsz, hbox, by simpa using HTK.out, HX3.out, HB.out⟩
  case round =>
    obtain ⟨j, hj, rfl, cur, hsz, hbox, htk, hx3, hb⟩ := hrel
    have HT := Lib.hid htk; clear htk
    have HBB := Lib.hid hb; clear hb
    have HX := Lib.hid hx3
    have c3 := hx3.cell
    clear hx3
    by_cases hlt : j < 3
    · obtain ⟨u, hu⟩ : ∃ u, cur[(n + j) * 2]? = some u := ⟨cur[(n + j) * 2]'(by omega), Array.getElem?_eq_getElem (by omega)⟩
      obtain ⟨u', hu'⟩ : ∃ u, cur[(n + j) * 2 + 1]? = some u := ⟨cur[(n + j) * 2 + 1]'(by omega), Array.getElem?_eq_getElem (by omega)⟩
      have cc : wr.cell? ⟨w.heap.size + 1, (n + j) * 2, none⟩ = some u := (hbox.box.cell _).trans hu
      have cc' : wr.cell? ⟨w.heap.size + 1, (n + j) * 2 + 1, none⟩ = some u' := (hbox.box.cell _).trans hu'
      have cf := hbox.box.free
      have zb := hbox.lt
      have hset := Lib.hid ((hbox.set (i := (n + j) * 2) (.int .u32 p)).set (i := (n + j) * 2 + 1) (.int .i64 e))
      have hb2 := Lib.hid ((HBB.out.setCell (p := ⟨w.heap.size + 1, (n + j) * 2, none⟩) (by show w.heap.size ≤ w.heap.size + 1; omega) (.int .u32 p)).setCell (p := ⟨w.heap.size + 1, (n + j) * 2 + 1, none⟩) (by show w.heap.size ≤ w.heap.size + 1; omega) (.int .i64 e))
      have hst := Lib.hid (take_two (a := .int .u32 p) (b := .int .i64 e) (show (n + j) * 2 + 2 ≤ cur.size by omega) HT.out)
      have HX3' := Lib.hid ((HX.out.setOther (a := ⟨w.heap.size + 1, (n + j) * 2, none⟩) (by show w.heap.size ≠ w.heap.size + 1; omega) (.int .u32 p)).setOther (a := ⟨w.heap.size + 1, (n + j) * 2 + 1, none⟩) (by show w.heap.size ≠ w.heap.size + 1; omega) (.int .i64 e))
      have ej : ((n : Int) + (j : Int)).toNat = n + j := by omega
      clear hu hu' hbox
      go_wp2
      go_roundw
      case rel => exact ⟨j + 1, by omega, by go_num, _, by simpa using hsz, hset.out, by
        rw [show (n + (j + 1)) * 2 = (n + j) * 2 + 2 by omega, hst.out, List.replicate_succ', ← List.append_assoc]; exact (ldCells_app _ [⟨p, e⟩]).symm, HX3'.out, hb2.out⟩
      case measure => simp [intOf]; omega
    · have hj3 : j = 3 := by omega
      subst hj3
      go_wp2
      go_ret
      refine ⟨w.heap.size + 1, by rw [HL.out]; rfl, by omega, ?_, HBB.out⟩
      have h1 := HT.out
      rw [List.take_of_length_le (by simp [hsz])] at h1
      have : cur = (ldCells (l ++ [⟨p, e⟩, ⟨p, e⟩, ⟨p, e⟩])).toArray := by
        apply Array.ext'
        rw [h1]; simp [List.replicate]
      rw [← this]; exact hbox.box

theorem bal_eq1 (a b : Int) (w : World) : Calls Try.prog 90 #[.agg #[.int .u32 a, .int .i64 b], .agg #[.int .u32 a, .int .i64 b]] w fun e w' => e = .returned (.bool true) ∧ Below w.heap.size w w' := by
  go_enter Try.func90, Try.ntmps90
  go_wp2
  go_ret
  exact ⟨by first | rfl | simp, (by repeat (first | exact Below.refl _ _ | assumption | apply Below.drew | apply belowN | (refine Below.alloc ?_ (by first | exact Nat.le_refl _ | (simp; done) | (simp; omega)) _) | (refine Below.setCell ?_ (by first | exact Nat.le_refl _ | (simp; done) | (simp; omega)) _)))⟩

set_option maxHeartbeats 1000000 in
theorem bal_same {A B : Option Addr} {n c c' : Nat} {l : List Ld} (w : World) (h : Lds w A n c l) (h2 : Lds w B n c' l) :
    Calls Try.prog 89 #[.slice A n c, .slice B n c', .func (.func 90) #[] #[]] w fun e w' => e = .returned (.bool true) ∧ Below w.heap.size w w' := by
  have bn : n ≤ 140737488351232 := by have := h.2.2.2.1; omega
  have HH := Lib.hid h; have H2 := Lib.hid h2
  clear h h2
  go_enter Try.func89, Try.ntmps89
  go_wp2
  go_loopw [7] (fun i wr => ∃ k : Nat, k ≤ n ∧ i = .int .i64 k ∧ Below w.heap.size w wr) (fun i _ => n - (intOf i).toNat)
  case atStart => exact ⟨0, Nat.zero_le _, rfl, Below.refl _ _⟩
  case round =>
    obtain ⟨k, hk, rfl, hB⟩ := hrel
    have HB := Lib.hid hB
    have hbs := hB.size
    clear hB
    by_cases hlt : k < n
    · obtain ⟨⟨p, e⟩, b, off, hx, rfl, hb, c0, c1, hok⟩ := ld_cells HH.out hlt
      obtain ⟨y, b', off', hy, rfl, hb', q0, q1, _⟩ := ld_cells H2.out hlt
      rw [hx] at hy; injection hy with hy; subst hy
      have d0 := (HB.out.cell (p := ⟨b, off + k * 2, none⟩) hb).trans c0
      have d1 := (HB.out.cell (p := ⟨b, off + k * 2 + 1, none⟩) hb).trans c1
      have r0 := (HB.out.cell (p := ⟨b', off' + k * 2, none⟩) hb').trans q0
      have r1 := (HB.out.cell (p := ⟨b', off' + k * 2 + 1, none⟩) hb').trans q1
      have zb : b < wr.heap.size := by omega
      have zb' : b' < wr.heap.size := by omega
      dsimp only at *
      clear c0 c1 q0 q1 hok hx hb hb'
      go_wp2
      go_region_held3 (fun w' => Same wr w') (first | exact Same.drew _ | assumption)
        ((go_at_call 90; (with_reducible refine (bal_eq1 p e _).mono ?_); rintro e2 w2 ⟨rfl, hb2⟩; have S1 := Same.step (by first | exact Same.drew _ | assumption) hb2; clear hb2))
      have BB := Lib.hid (below_from HB.out S1.1 hbs)
      go_wp2
      go_roundw
      case rel => exact ⟨k + 1, by omega, by go_num, BB.out⟩
      case measure => simp [intOf]; omega
    · go_wp2
      go_ret
      exact ⟨rfl, HB.out⟩
theorem bal_plain {A B : Option Addr} {n c c' : Nat} {l : List Ld} (w : World) (h : Lds w A n c l) (h2 : Lds w B n c' l) :
    Calls Try.prog 82 #[.slice A n c, .slice B n c'] w fun e w' => e = .returned (.bool true) ∧ Below w.heap.size w w' := by
  have C := Lib.hid (bal_same w h h2)
  clear h h2
  go_enter Try.func82, Try.ntmps82
  go_wp2_with (go_at_call 89; (with_reducible refine C.out.mono ?_); rintro e w1 ⟨rfl, hb⟩)
  go_ret
  exact ⟨rfl, hb⟩

set_option maxHeartbeats 1000000 in
theorem bal_kept {A : Option Addr} {n c g : Nat} {l : List Ld} (p e : Int) (w : World) (h : Lds w A n c l) (hb : Box w g (ldCells (l ++ [⟨p, e⟩, ⟨p, e⟩, ⟨p, e⟩])).toArray) :
    Calls Try.prog 58 #[.slice (some ⟨g, 0, none⟩) n (n + 3), .slice A n c, .agg #[.int .u32 p, .int .i64 e]] w fun e w' => e = .returned (.bool true) ∧ Below w.heap.size w w' := by
  have ho := own_lds h hb
  have bn : n ≤ 140737488351232 := by have := h.2.2.2.1; omega
  have L := Lib.hid h.1
  have b1 := below_a1 w (.cells #[.int .u32 p, .int .i64 e] 79)
  have C := Lib.hid (bal_plain _ (ho.below b1 (Nat.le_refl _)) (h.below b1 (Nat.le_refl _)))
  have zg := hb.lt
  have cells : Hid (∀ j, j < 3 → w.cell? ⟨g, (n + j) * 2, none⟩ = some (.int .u32 p) ∧ w.cell? ⟨g, (n + j) * 2 + 1, none⟩ = some (.int .i64 e)) := fun j hj => by
    have hx : (l ++ [(⟨p, e⟩ : Ld), ⟨p, e⟩, ⟨p, e⟩])[n + j]? = some ⟨p, e⟩ := by
      rw [List.getElem?_append_right (by rw [L.out]; omega), L.out, Nat.add_sub_cancel_left]
      match j, hj with
      | 0, _ => rfl
      | 1, _ => rfl
      | 2, _ => rfl
    have := ldCells_at hx
    exact ⟨by rw [hb.cell, List.getElem?_toArray]; exact this.1, by rw [hb.cell, List.getElem?_toArray]; exact this.2⟩
  clear ho h hb b1
  go_enter Try.func58, Try.ntmps58
  go_wp2_with (go_at_call 82; (with_reducible refine C.out.mono ?_); rintro e1 w1 ⟨rfl, hb1⟩; have X5 := Lib.hid ((Box.new w #[.int .u32 p, .int .i64 e] 79).below hb1 (by rw [size_alloc]; omega)); have HB := Lib.hid ((below_a1 w (.cells #[.int .u32 p, .int .i64 e] 79)).trans (hb1.mono (by rw [size_alloc]; omega))); clear hb1)
  go_loopw [8] (fun i wr => ∃ j : Nat, j ≤ 3 ∧ i = .int .i64 ((n : Int) + j) ∧ Box wr w.heap.size #[.int .u32 p, .int .i64 e] ∧ Below w.heap.size w wr) (fun i _ => n + 3 - (intOf i).toNat)
  case atStart => exact ⟨0, by omega, by simp, X5.out, HB.out⟩
  case round =>
    obtain ⟨j, hj, rfl, hX, hB⟩ := hrel
    have HX := Lib.hid hX; have HBr := Lib.hid hB
    clear hX hB
    by_cases hlt : j < 3
    · obtain ⟨c0, c1⟩ := cells.out j hlt
      have d0 := (HBr.out.cell (p := ⟨g, (n + j) * 2, none⟩) zg).trans c0
      have d1 := (HBr.out.cell (p := ⟨g, (n + j) * 2 + 1, none⟩) zg).trans c1
      have k5 := HX.out.cell
      have e0 := k5 0
      have e1 := k5 1
      have ej : ((n : Int) + (j : Int)).toNat = n + j := by omega
      have ez : (0 : Int) ≤ (n : Int) + (j : Int) := by omega
      have el : (n : Int) + (j : Int) < (n : Int) + 3 := by omega
      clear c0 c1
      go_wp2
      go_quiet (fail)
      go_wp2
      go_roundw
      case rel => exact ⟨j + 1, by omega, by go_num, HX.out.drewN _, belowN HBr.out _⟩
      case measure => simp [intOf]; omega
    · go_wp2
      go_ret
      exact ⟨rfl, HBr.out⟩
end Go.Proofs.Ytjniholnmjafeaa
