/- The helpers' Own and Kept at slices of whole numbers: a copy with spare room behind it, and whether it is as it was. Conditions: the slices read so. -/
import Derived.Test.YtjniholnmjafeaaPlain
import Derived.OwnWalk
namespace Go.Proofs.Ytjniholnmjafeaa
open Go.RowKit Go.ChangeShapes
set_option maxRecDepth 100000
set_option linter.unusedVariables false

/-- What Own hands back: a slice of the list, three cells of the filler behind it, in new memory. -/
def OwnRes (w : World) (k : IntKind) (xs : List Int) (f : Int) (e : Ending) (w' : World) : Prop :=
  ∃ g, e = .returned (.slice (some ⟨g, 0, none⟩) xs.length (xs.length + 3)) ∧ w.heap.size ≤ g ∧ Box w' g ((xs ++ [f, f, f]).map (Value.int k)).toArray ∧ Below w.heap.size w w'

theorem fill_step {cur : Array Value} {xs : List Int} {k : IntKind} {f : Int} {n j : Nat} (hl : xs.length = n) (hs : cur.size = n + 3) (hj : j < 3) (h : cur.toList.take (n + j) = xs.map (Value.int k) ++ List.replicate j (.int k f)) :
    (cur.setIfInBounds (n + j) (.int k f)).toList.take (n + (j + 1)) = xs.map (Value.int k) ++ List.replicate (j + 1) (.int k f) := by
  have hlen : n + j < (cur.setIfInBounds (n + j) (Value.int k f)).toList.length := by simp [hs]; omega
  rw [← Nat.add_assoc, List.take_succ_eq_append_getElem hlen]
  have e1 : (cur.setIfInBounds (n + j) (Value.int k f)).toList.take (n + j) = cur.toList.take (n + j) := by
    simp [List.take_set_of_le (Nat.le_refl _)]
  have e2 : (cur.setIfInBounds (n + j) (Value.int k f)).toList[n + j] = .int k f := by simp
  rw [e1, e2, h, List.replicate_succ', List.append_assoc]

theorem own_ints {w : World} {D : Nat → Prop} {k : IntKind} {bytes n c g : Nat} {A : Option Addr} {xs : List Int} {f : Int} (h0 : 0 < bytes) (hx : Ints w D k bytes A n c xs) (hb : Box w g ((xs ++ [f, f, f]).map (Value.int k)).toArray) :
    Ints w (· = g) k bytes (some ⟨g, 0, none⟩) n (n + 3) xs := by
  obtain ⟨h1, h2, h3, h4, h5, h6, h7⟩ := hx
  refine ⟨h1, by omega, ?_, h4, (fun h => by cases h), h6, fun hn => ⟨g, 0, rfl, rfl, fun j hj => ?_⟩⟩
  · have : n ≤ n * bytes := Nat.le_mul_of_pos_right _ h0
    omega
  · rw [hb.cell (0 + j)]
    simp only [Nat.zero_add, List.map_append, List.getElem?_toArray]
    rw [List.getElem?_append_left (by simp; omega), List.getElem?_map, List.getElem?_eq_getElem (by omega), List.getD_eq_getElem?_getD, List.getElem?_eq_getElem (by omega)]; rfl

theorem own_u32 {D : Nat → Prop} {A : Option Addr} {n c : Nat} {xs : List Int} (f : Int) (w : World) (hx : Ints w D .u32 4 A n c xs) (hD : ∀ b, D b → b < w.heap.size) :
    Calls Try.prog 28 #[.slice A n c, .int .u32 f] w (OwnRes w .u32 xs f) := by
  obtain ⟨lx, x2, x3, x4, x5, x6, x7⟩ := hx
  have bn : n ≤ 140737488351232 := by omega
  have hinfo : (Try.prog.info? 22).map (fun i => (i.zero, i.size, i.bytes)) = some (some (.int .u32 0), 1, 4) := by kernel_rfl
  obtain ⟨i0, hi, hz0, hz1, hz2⟩ := info_parts hinfo
  have hmk := run_mkcap (P := Try.prog) (t := 29) (e := 22) (k := .u32) (bytes := 4) Try.underlying29 hinfo (by omega) 0 ((n : Int) + 3) 0 (n + 3) (by omega) rfl (by omega) (by omega)
  clear hinfo
  have hn1 : A = none → n = 0 ∧ c = 0 := fun h => by have := x5 h; omega
  have hc1 : ∀ ad, A = some ad → ∀ j u, (xs.map (Value.int .u32))[j]? = some u → (w.alloc (.cells (madeCells #[.int .u32 0] (n + 3)) 22)).cell? (ad.add j) = some u := by
    intro ad ha j u hu
    rw [List.getElem?_map] at hu
    obtain ⟨x, hx, rfl⟩ := Option.map_eq_some_iff.1 hu
    have hj : j < n := by have := (List.getElem?_eq_some_iff.1 hx).1; omega
    obtain ⟨b, off, hb, hd, hcell⟩ := x7 (by omega)
    rw [ha] at hb; injection hb with hb; subst hb
    have e1 : (⟨b, off, none⟩ : Addr).add j = ⟨b, off + j, none⟩ := by unfold Addr.add; split <;> simp_all
    rw [e1, (below_a1 w _).cell (p := ⟨b, off + j, none⟩) (hD b hd), hcell j hj, List.getD_eq_getElem?_getD, hx]; rfl
  have hlen : (xs.map (Value.int .u32)).length = n * 1 := by simp [lx]
  have hone : ∀ u ∈ xs.map (Value.int .u32), u.oneCell' = true := by
    intro u hu; obtain ⟨x, _, rfl⟩ := List.mem_map.1 hu; rfl
  have hown : (w.alloc (.cells (madeCells #[.int .u32 0] (n + 3)) 22)).ownsRow w.heap.size 22 1 (.slice (some ⟨w.heap.size, 0, none⟩) 0 (n + 3)) 0 [] := by
    have := box_owns (base := w.heap.size) (size := 1) (n := 0) (cap := n + 3) (BoxT.new w (madeCells #[.int .u32 0] (n + 3)) 22) (by rw [size_madeCells]; omega) (by omega) (by omega) (Nat.le_refl _)
    simpa using this
  have HX := Lib.hid lx; clear lx
  clear x2 x3 x4 x5 x6 x7
  go_enter Try.func28, Try.ntmps28
  go_wp2_with (at_builtin; refine wpList_append_fits_any _ rfl _ _ 29 rfl w.heap.size 22 i0 1 Try.underlying29 hi hz1 w.heap.size 0 (n + 3) [] rfl hown A n c (xs.map (Value.int .u32)) rfl hlen hn1 hc1 hone (by omega) ?_; intro w1 hown1 hgrow1; simp only [Nat.zero_add, List.nil_append] at hown1)
  have hb1 : Below w.heap.size w w1 := (below_a1 w _).trans ((grown_only hgrow1).below (by rw [size_alloc]; omega) (by intro k hk; omega))
  obtain ⟨cur, hbox, hsz, htk, _, _⟩ := owns_box hown1
  have HB := Lib.hid hb1; clear hb1
  have HTK := Lib.hid htk; clear htk
  simp only [Nat.mul_one] at HTK hsz
  clear hown1 hgrow1 hown hmk hone hlen hc1 hn1
  go_loopw [7] (fun i wr => ∃ j : Nat, j ≤ 3 ∧ i = .int .i64 ((n : Int) + j) ∧ ∃ cur : Array Value, cur.size = n + 3 ∧ BoxT wr 22 w.heap.size cur ∧ cur.toList.take (n + j) = xs.map (Value.int .u32) ++ List.replicate j (.int .u32 f) ∧ Below w.heap.size w wr) (fun i _ => n + 3 - (intOf i).toNat)
  case atStart => exact ⟨0, by omega, by simp, cur, hsz, hbox, by simpa using HTK.out, HB.out⟩
  case round =>
    obtain ⟨j, hj, rfl, cur, hsz, hbox, htk, hb⟩ := hrel
    have HT := Lib.hid htk; clear htk
    have HBB := Lib.hid hb; clear hb
    by_cases hlt : j < 3
    · obtain ⟨u, hu⟩ : ∃ u, cur[n + j]? = some u := ⟨cur[n + j]'(by omega), Array.getElem?_eq_getElem (by omega)⟩
      have cc : wr.cell? ⟨w.heap.size, n + j, none⟩ = some u := (hbox.box.cell _).trans hu
      have cf := hbox.box.free (n + j)
      have hset := Lib.hid (hbox.set (i := n + j) (.int .u32 f))
      have hb2 := Lib.hid (HBB.out.setCell (p := ⟨w.heap.size, n + j, none⟩) (Nat.le_refl _) (.int .u32 f))
      have hst := Lib.hid (fill_step HX.out hsz hlt HT.out)
      have ej : ((n : Int) + (j : Int)).toNat = n + j := by omega
      clear hu hbox
      go_wp2
      go_roundw
      case rel => exact ⟨j + 1, by omega, by go_num, _, by simpa using hsz, hset.out, hst.out, hb2.out⟩
      case measure => simp [intOf]; omega
    · have hj3 : j = 3 := by omega
      subst hj3
      go_wp2
      go_ret
      refine ⟨w.heap.size, by rw [HX.out]; rfl, Nat.le_refl _, ?_, HBB.out⟩
      have h1 := HT.out
      rw [List.take_of_length_le (by simp [hsz])] at h1
      have : cur = ((xs ++ [f, f, f]).map (Value.int .u32)).toArray := by
        apply Array.ext'
        rw [h1]; simp [List.replicate]
      rw [← this]; exact hbox.box
theorem kept_u32 {D : Nat → Prop} {A : Option Addr} {n c g : Nat} {xs : List Int} (f : Int) (w : World) (hx : Ints w D .u32 4 A n c xs) (hb : Box w g ((xs ++ [f, f, f]).map (Value.int .u32)).toArray) :
    Calls Try.prog 34 #[.slice (some ⟨g, 0, none⟩) n (n + 3), .slice A n c, .int .u32 f] w fun e w' => e = .returned (.bool true) ∧ Drew w w' := by
  have ho := own_ints (by omega) hx hb
  have bn : n ≤ 140737488351232 := by have := hx.2.2.2.1; omega
  have L : xs.length = n := hx.1
  have HX := Lib.hid hx; clear hx
  have HO := Lib.hid ho; clear ho
  have hd : decide (xs = xs) = true := by simp
  go_enter Try.func34, Try.ntmps34
  go_wp2_with (go_at_call 69; (with_reducible refine (plain_u32 _ HO.out HX.out).mono ?_); rintro e w1 ⟨rfl, hd1⟩)
  have HD1 := Lib.hid hd1; clear hd1
  have HL := Lib.hid L; clear L
  have cells : Hid (∀ j, j < 3 → w.cell? ⟨g, n + j, none⟩ = some (.int .u32 f)) := fun j hj => by
    have := hb.cell (n + j)
    rw [this]
    simp only [List.map_append, List.getElem?_toArray]
    rw [List.getElem?_append_right (by simp [HL.out]), List.length_map, HL.out, Nat.add_sub_cancel_left]
    match j, hj with
    | 0, _ => rfl
    | 1, _ => rfl
    | 2, _ => rfl
  go_loopw [8] (fun i wr => ∃ j : Nat, j ≤ 3 ∧ i = .int .i64 ((n : Int) + j) ∧ Drew w wr) (fun i _ => n + 3 - (intOf i).toNat)
  case atStart => exact ⟨0, by omega, by simp, HD1.out⟩
  case round =>
    obtain ⟨j, hj, rfl, hdr⟩ := hrel
    have HDR := Lib.hid hdr; clear hdr
    by_cases hlt : j < 3
    · have cc := (HDR.out.cell ⟨g, n + j, none⟩).trans (cells.out j hlt)
      have ej : ((n : Int) + (j : Int)).toNat = n + j := by omega
      have hne : (f != f) = false := by simp
      go_wp2
      
      go_roundw
      case rel => exact ⟨j + 1, by omega, by go_num, HDR.out⟩
      case measure => simp [intOf]; omega
    · go_wp2
      go_ret
      exact ⟨rfl, HDR.out⟩
theorem own_u8 {D : Nat → Prop} {A : Option Addr} {n c : Nat} {xs : List Int} (f : Int) (w : World) (hx : Ints w D .u8 1 A n c xs) (hD : ∀ b, D b → b < w.heap.size) :
    Calls Try.prog 63 #[.slice A n c, .int .u8 f] w (OwnRes w .u8 xs f) := by
  obtain ⟨lx, x2, x3, x4, x5, x6, x7⟩ := hx
  have bn : n ≤ 140737488351232 := by omega
  have hinfo : (Try.prog.info? 5).map (fun i => (i.zero, i.size, i.bytes)) = some (some (.int .u8 0), 1, 1) := by kernel_rfl
  obtain ⟨i0, hi, hz0, hz1, hz2⟩ := info_parts hinfo
  have hmk := run_mkcap (P := Try.prog) (t := 51) (e := 5) (k := .u8) (bytes := 1) Try.underlying51 hinfo (by omega) 0 ((n : Int) + 3) 0 (n + 3) (by omega) rfl (by omega) (by omega)
  clear hinfo
  have hn1 : A = none → n = 0 ∧ c = 0 := fun h => by have := x5 h; omega
  have hc1 : ∀ ad, A = some ad → ∀ j u, (xs.map (Value.int .u8))[j]? = some u → (w.alloc (.cells (madeCells #[.int .u8 0] (n + 3)) 5)).cell? (ad.add j) = some u := by
    intro ad ha j u hu
    rw [List.getElem?_map] at hu
    obtain ⟨x, hx, rfl⟩ := Option.map_eq_some_iff.1 hu
    have hj : j < n := by have := (List.getElem?_eq_some_iff.1 hx).1; omega
    obtain ⟨b, off, hb, hd, hcell⟩ := x7 (by omega)
    rw [ha] at hb; injection hb with hb; subst hb
    have e1 : (⟨b, off, none⟩ : Addr).add j = ⟨b, off + j, none⟩ := by unfold Addr.add; split <;> simp_all
    rw [e1, (below_a1 w _).cell (p := ⟨b, off + j, none⟩) (hD b hd), hcell j hj, List.getD_eq_getElem?_getD, hx]; rfl
  have hlen : (xs.map (Value.int .u8)).length = n * 1 := by simp [lx]
  have hone : ∀ u ∈ xs.map (Value.int .u8), u.oneCell' = true := by
    intro u hu; obtain ⟨x, _, rfl⟩ := List.mem_map.1 hu; rfl
  have hown : (w.alloc (.cells (madeCells #[.int .u8 0] (n + 3)) 5)).ownsRow w.heap.size 5 1 (.slice (some ⟨w.heap.size, 0, none⟩) 0 (n + 3)) 0 [] := by
    have := box_owns (base := w.heap.size) (size := 1) (n := 0) (cap := n + 3) (BoxT.new w (madeCells #[.int .u8 0] (n + 3)) 5) (by rw [size_madeCells]; omega) (by omega) (by omega) (Nat.le_refl _)
    simpa using this
  have HX := Lib.hid lx; clear lx
  clear x2 x3 x4 x5 x6 x7
  go_enter Try.func63, Try.ntmps63
  go_wp2_with (at_builtin; refine wpList_append_fits_any _ rfl _ _ 51 rfl w.heap.size 5 i0 1 Try.underlying51 hi hz1 w.heap.size 0 (n + 3) [] rfl hown A n c (xs.map (Value.int .u8)) rfl hlen hn1 hc1 hone (by omega) ?_; intro w1 hown1 hgrow1; simp only [Nat.zero_add, List.nil_append] at hown1)
  have hb1 : Below w.heap.size w w1 := (below_a1 w _).trans ((grown_only hgrow1).below (by rw [size_alloc]; omega) (by intro k hk; omega))
  obtain ⟨cur, hbox, hsz, htk, _, _⟩ := owns_box hown1
  have HB := Lib.hid hb1; clear hb1
  have HTK := Lib.hid htk; clear htk
  simp only [Nat.mul_one] at HTK hsz
  clear hown1 hgrow1 hown hmk hone hlen hc1 hn1
  go_loopw [7] (fun i wr => ∃ j : Nat, j ≤ 3 ∧ i = .int .i64 ((n : Int) + j) ∧ ∃ cur : Array Value, cur.size = n + 3 ∧ BoxT wr 5 w.heap.size cur ∧ cur.toList.take (n + j) = xs.map (Value.int .u8) ++ List.replicate j (.int .u8 f) ∧ Below w.heap.size w wr) (fun i _ => n + 3 - (intOf i).toNat)
  case atStart => exact ⟨0, by omega, by simp, cur, hsz, hbox, by simpa using HTK.out, HB.out⟩
  case round =>
    obtain ⟨j, hj, rfl, cur, hsz, hbox, htk, hb⟩ := hrel
    have HT := Lib.hid htk; clear htk
    have HBB := Lib.hid hb; clear hb
    by_cases hlt : j < 3
    · obtain ⟨u, hu⟩ : ∃ u, cur[n + j]? = some u := ⟨cur[n + j]'(by omega), Array.getElem?_eq_getElem (by omega)⟩
      have cc : wr.cell? ⟨w.heap.size, n + j, none⟩ = some u := (hbox.box.cell _).trans hu
      have cf := hbox.box.free (n + j)
      have hset := Lib.hid (hbox.set (i := n + j) (.int .u8 f))
      have hb2 := Lib.hid (HBB.out.setCell (p := ⟨w.heap.size, n + j, none⟩) (Nat.le_refl _) (.int .u8 f))
      have hst := Lib.hid (fill_step HX.out hsz hlt HT.out)
      have ej : ((n : Int) + (j : Int)).toNat = n + j := by omega
      clear hu hbox
      go_wp2
      go_roundw
      case rel => exact ⟨j + 1, by omega, by go_num, _, by simpa using hsz, hset.out, hst.out, hb2.out⟩
      case measure => simp [intOf]; omega
    · have hj3 : j = 3 := by omega
      subst hj3
      go_wp2
      go_ret
      refine ⟨w.heap.size, by rw [HX.out]; rfl, Nat.le_refl _, ?_, HBB.out⟩
      have h1 := HT.out
      rw [List.take_of_length_le (by simp [hsz])] at h1
      have : cur = ((xs ++ [f, f, f]).map (Value.int .u8)).toArray := by
        apply Array.ext'
        rw [h1]; simp [List.replicate]
      rw [← this]; exact hbox.box
theorem kept_u8 {D : Nat → Prop} {A : Option Addr} {n c g : Nat} {xs : List Int} (f : Int) (w : World) (hx : Ints w D .u8 1 A n c xs) (hb : Box w g ((xs ++ [f, f, f]).map (Value.int .u8)).toArray) :
    Calls Try.prog 64 #[.slice (some ⟨g, 0, none⟩) n (n + 3), .slice A n c, .int .u8 f] w fun e w' => e = .returned (.bool true) ∧ Drew w w' := by
  have ho := own_ints (by omega) hx hb
  have bn : n ≤ 140737488351232 := by have := hx.2.2.2.1; omega
  have L : xs.length = n := hx.1
  have HX := Lib.hid hx; clear hx
  have HO := Lib.hid ho; clear ho
  have hd : decide (xs = xs) = true := by simp
  go_enter Try.func64, Try.ntmps64
  go_wp2_with (go_at_call 84; (with_reducible refine (plain_u8 _ HO.out HX.out).mono ?_); rintro e w1 ⟨rfl, hd1⟩)
  have HD1 := Lib.hid hd1; clear hd1
  have HL := Lib.hid L; clear L
  have cells : Hid (∀ j, j < 3 → w.cell? ⟨g, n + j, none⟩ = some (.int .u8 f)) := fun j hj => by
    have := hb.cell (n + j)
    rw [this]
    simp only [List.map_append, List.getElem?_toArray]
    rw [List.getElem?_append_right (by simp [HL.out]), List.length_map, HL.out, Nat.add_sub_cancel_left]
    match j, hj with
    | 0, _ => rfl
    | 1, _ => rfl
    | 2, _ => rfl
  go_loopw [8] (fun i wr => ∃ j : Nat, j ≤ 3 ∧ i = .int .i64 ((n : Int) + j) ∧ Drew w wr) (fun i _ => n + 3 - (intOf i).toNat)
  case atStart => exact ⟨0, by omega, by simp, HD1.out⟩
  case round =>
    obtain ⟨j, hj, rfl, hdr⟩ := hrel
    have HDR := Lib.hid hdr; clear hdr
    by_cases hlt : j < 3
    · have cc := (HDR.out.cell ⟨g, n + j, none⟩).trans (cells.out j hlt)
      have ej : ((n : Int) + (j : Int)).toNat = n + j := by omega
      have hne : (f != f) = false := by simp
      go_wp2
      
      go_roundw
      case rel => exact ⟨j + 1, by omega, by go_num, HDR.out⟩
      case measure => simp [intOf]; omega
    · go_wp2
      go_ret
      exact ⟨rfl, HDR.out⟩
end Go.Proofs.Ytjniholnmjafeaa
