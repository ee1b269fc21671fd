/- slices.Insert of one element at uint32. Conditions: the row is one's own. | slices.Insert of one element at uint32, in the midst of a row that has room. Conditions: the row is one's own. | slices.Insert of one element at uint32, in the midst of a row that has no room. Conditions: none. | slices.Insert of one element at uint32. Conditions: the row is one's own. -/
import Derived.Test.YtdpamikobmefeaaGreatCliM
import Derived.Lib.Overlaps
import Derived.Shelf.Spec.SlicesInsert
import Derived.Lib.AppendZerosOnto
namespace Go.Proofs.YtdpamikobmefeaaGreat
open Go.RowKit
set_option maxRecDepth 100000
set_option linter.unusedVariables false
set_option linter.unusedSimpArgs false

theorem news_one {w : World} {b : Nat} {x : Int} (h : Box w b #[.int .u32 x]) : ∀ ad, some (⟨b, 0, none⟩ : Addr) = some ad → ∀ j u, [Value.int .u32 x][j]? = some u → w.cell? (ad.add j) = some u := by
  intro ad ha j u hu
  injection ha with ha
  subst ha
  have hj : j = 0 := by have := (List.getElem?_eq_some_iff.1 hu).1; simp at this; exact this
  subst hj
  rw [show (⟨b, 0, none⟩ : Addr).add 0 = ⟨b, 0, none⟩ from rfl, h.cell]
  simpa using hu
set_option maxHeartbeats 1000000 in
/-- At the end. -/
theorem ins_end {base n : Nat} {v : Value} {xs : List Value} {g : Nat} {x : Int} (w : World) (hown : w.ownsRow base 27 1 v n xs) (hb : base ≤ w.heap.size) (hn : n ≤ 1000000) (hx : Box w g #[.int .u32 x]) :
    Calls Tryz.prog 27 #[v, .int .i64 n, .slice (some ⟨g, 0, none⟩) 1 1] w fun e w' => ∃ B cap, e = .returned (.slice B (n + 1) cap) ∧ Appd w base 27 1 n 1 xs [.int .u32 x] v B cap w' := by
  obtain ⟨A, cap, rfl, h1, h2, h3, h4⟩ := owns_shape hown
  obtain ⟨i0, hi0, hz0, hz1, hz2⟩ := run_u32_info_R
  have HI := Lib.hid hi0; have HZ0 := Lib.hid hz0; have HZ1 := Lib.hid hz1; have HZ2 := Lib.hid hz2
  have HO := Lib.hid hown; have HX := Lib.hid hx
  clear hown hx hi0 hz0 hz1 hz2
  have hn1 : ((n : Int)).toNat = n := by omega
  cases A with
  | none =>
    obtain ⟨rfl, rfl⟩ := h3 rfl
    clear h3 h4
    go_enter Tryz.func27, Tryz.ntmps27
    go_wp2_with (at_builtin; go_loud (refine wpList_append_any _ rfl _ _ 35 rfl base 27 i0 (.int .u32 0) 1 4 Tryz.underlying35 HI.out HZ0.out HZ1.out HZ2.out rfl (by decide) _ 0 xs rfl HO.out (some ⟨g, 0, none⟩) 1 1 [.int .u32 x] rfl rfl (fun h => by cases h) (news_one HX.out) (fun u hu => by simp only [List.mem_singleton] at hu; subst hu; rfl) (by unfold maxLen; omega) (by omega) hb ?_; intro B7 cap7 w7 a7))
    go_ret
    exact ⟨_, _, rfl, a7⟩
  | some ad =>
    obtain ⟨g', cur, rfl, _⟩ := h4 ad rfl
    clear h3 h4
    have hc1 : ((n : Int)) ≤ (n : Int) := Int.le_refl _
    go_enter Tryz.func27, Tryz.ntmps27
    go_wp2_with (at_builtin; go_loud (refine wpList_append_any _ rfl _ _ 35 rfl base 27 i0 (.int .u32 0) 1 4 Tryz.underlying35 HI.out HZ0.out HZ1.out HZ2.out rfl (by decide) _ n xs rfl HO.out (some ⟨g, 0, none⟩) 1 1 [.int .u32 x] rfl rfl (fun h => by cases h) (news_one HX.out) (fun u hu => by simp only [List.mem_singleton] at hu; subst hu; rfl) (by unfold maxLen; omega) (by omega) hb ?_; intro B7 cap7 w7 a7))
    all_goals
      go_ret
      exact ⟨_, _, rfl, a7⟩
end Go.Proofs.YtdpamikobmefeaaGreat

namespace Go.Proofs.YtdpamikobmefeaaGreat
open Go.RowKit
set_option maxRecDepth 100000
set_option linter.unusedVariables false
set_option linter.unusedSimpArgs false

/-- Cells laid over others. -/
def layL : List Value → Nat → List Value → List Value
  | l, _, [] => l
  | l, o, v :: r => layL (l.set o v) (o + 1) r
theorem layL_eq : ∀ (vs : List Value) (l : List Value) (o : Nat), o + vs.length ≤ l.length → layL l o vs = l.take o ++ vs ++ l.drop (o + vs.length)
  | [], l, o, _ => by simp [layL]
  | v :: r, l, o, h => by
    simp only [List.length_cons] at h
    unfold layL
    rw [layL_eq r (l.set o v) (o + 1) (by simp; omega)]
    have e1 : (l.set o v).take (o + 1) = l.take o ++ [v] := by
      rw [List.take_set, List.take_add_one, List.set_append]
      simp only [List.length_take]
      rw [if_neg (by omega), List.getElem?_eq_getElem (by omega)]
      simp [Nat.min_eq_left (by omega : o ≤ l.length)]
    have e2 : (l.set o v).drop (o + 1 + r.length) = l.drop (o + (v :: r).length) := by
      rw [List.drop_set_of_lt (by omega), List.length_cons, Nat.add_assoc, Nat.add_comm 1]
    rw [e1, e2]
    simp
theorem layL_len : ∀ (vs : List Value) (l : List Value) (o : Nat), (layL l o vs).length = l.length
  | [], _, _ => rfl
  | v :: r, l, o => by unfold layL; rw [layL_len r]; simp
theorem BoxT.setCells {T b : Nat} : ∀ (vs : List Value) (o : Nat) {w : World} {C : Array Value}, BoxT w T b C → BoxT (w.setCells b o vs) T b (layL C.toList o vs).toArray
  | [], o, w, C, h => by simpa [layL, World.setCells] using h
  | v :: r, o, w, C, h => by
    have h1 := BoxT.setCells r (o + 1) (h.set (i := o) v)
    rw [World.setCells]
    unfold layL
    simpa using h1
theorem lay_ins {cur xs : List Value} {n i : Nat} {x : Value} (hl : n + 1 ≤ cur.length) (ht : cur.take n = xs) (hi : i < n) : (layL (layL cur (i + 1) (xs.drop i)) i [x]).take (n + 1) = xs.take i ++ x :: xs.drop i := by
  have hx : xs.length = n := by rw [← ht]; simp; omega
  have hd : (xs.drop i).length = n - i := by rw [List.length_drop, hx]
  rw [layL_eq (xs.drop i) cur (i + 1) (by omega), hd]
  have e0 : cur.take i = xs.take i := by rw [← ht, List.take_take, Nat.min_eq_left (by omega)]
  obtain ⟨y, hy⟩ : ∃ y, cur.take (i + 1) = cur.take i ++ [y] := ⟨cur[i]'(by omega), by rw [List.take_add_one, List.getElem?_eq_getElem (by omega)]; rfl⟩
  rw [hy, e0]
  have hti : (xs.take i).length = i := by rw [List.length_take]; omega
  generalize xs.take i = P at *
  generalize xs.drop i = D at *
  generalize cur.drop (i + 1 + (n - i)) = R at *
  rw [layL_eq [x] _ i (by simp; omega)]
  have t1 : (P ++ [y] ++ D ++ R).take i = P := by
    rw [List.append_assoc, List.append_assoc]
    exact List.take_left' hti
  have t2 : (P ++ [y] ++ D ++ R).drop (i + [x].length) = D ++ R := by
    rw [List.append_assoc (P ++ [y])]
    exact List.drop_left' (by simp; omega)
  rw [t1, t2, show P ++ [x] ++ (D ++ R) = (P ++ x :: D) ++ R by simp]
  exact List.take_left' (by simp; omega)
theorem only_setCells {b : Nat} : ∀ (vs : List Value) (o : Nat) {w0 w : World}, Only (· = b) w0 w → Only (· = b) w0 (w.setCells b o vs)
  | [], o, w0, w, h => h
  | v :: r, o, w0, w, h => by
    rw [World.setCells]
    exact only_setCells r (o + 1) (h.setCell (p := ⟨b, o, none⟩) (.inl rfl) v)
set_option maxHeartbeats 2000000 in
/-- In the midst, there is room. -/
theorem ins_room {n i b cap g : Nat} {cur : Array Value} {xs : List Value} {x : Int} {T : TypeId} (w : World) (hb : BoxT w 27 b cur) (hcs : cur.size = cap) (hxs : cur.toList.take n = xs) (hn : n + 1 ≤ cap) (hcap : cap ≤ 9223372036854775807) (hi : i < n) (hx : BoxT w T g #[.int .u32 x]) (hg : g ≠ b) (h1 : ∀ u ∈ xs, u.oneCell' = true) :
    Calls Tryz.prog 27 #[.slice (some ⟨b, 0, none⟩) n cap, .int .i64 i, .slice (some ⟨g, 0, none⟩) 1 1] w fun e w' => e = .returned (.slice (some ⟨b, 0, none⟩) (n + 1) cap) ∧
      BoxT w' 27 b (layL (layL cur.toList (i + 1) (xs.drop i)) i [.int .u32 x]).toArray ∧ Only (· = b) w w' := by
  have hxl : xs.length = n := by rw [← hxs]; simp; omega
  have hdl : (xs.drop i).length = n - i := by rw [List.length_drop, hxl]
  have hsz : (Tryz.prog.info? 27).map (·.size) = some 1 := by
    obtain ⟨i0, hi0, hz0, hz1, hz2⟩ := run_u32_info_R
    rw [hi0]; simp [hz1]
  have hsh1 : w.shape? g = some (T, 1) := by unfold BoxT at hx; unfold World.shape?; rw [hx]; rfl
  have hsh2 : w.shape? b = some (27, cap) := by unfold BoxT at hb; unfold World.shape?; rw [hb]; simp [hcs]
  have hfg : ∀ o, w.frozen? ⟨g, o, none⟩ = false := fun o => hx.box.free o
  have hov : ∀ lb cb, (callFunc 58 #[.slice (some ⟨g, 0, none⟩) 1 1, .slice (some ⟨b, i + 1, none⟩) lb cb]).run Tryz.prog w = .ok (.value (.bool false)) w := fun lb cb => by
    rw [run_callFunc_extern Tryz.func58 (by kernel_rfl) (by kernel_rfl) (by kernel_rfl) (e := Extern.SlicesOverlaps.overlaps #[35, 35] #[4]) (by kernel_rfl),
      Lib.run_overlaps_apart w 35 4 27 Tryz.underlying35 1 (fun w => by kernel_rfl) ⟨g, 0, none⟩ ⟨b, i + 1, none⟩ 1 1 lb cb hg T 27 1 cap hsh1 hsh2 (by omega) (hfg _) (hfg _)]
    rfl
  have hcell : ∀ j, w.cell? ⟨b, j, none⟩ = cur[j]? := hb.box.cell
  have hfree : ∀ j, w.frozen? ⟨b, j, none⟩ = false := hb.box.free
  have hcp1 : ∀ ty dl dc sl sc, dl = n - i → sl = n + 1 - i → (Builtin.copy_ #[35, 35] ty #[.slice (some ⟨b, i + 1, none⟩) dl dc, .slice (some ⟨b, i, none⟩) sl sc]).run Tryz.prog w.drew = .ok (goInt (xs.drop i).length) (w.drew.setCells b (i + 1) (xs.drop i)) := by
    rintro ty _ dc _ sc rfl rfl
    refine run_copy_cells w.drew _ _ ty 27 b (i + 1) (n - i) dc ⟨b, i, none⟩ (n + 1 - i) sc (xs.drop i) Tryz.underlying35 hsz (by rw [hdl]; simp only [Nat.min_def]; split <;> omega) (fun j v hj => ?_) (fun j hj => ?_) (fun j hj => hfree _) (fun v hv => h1 v (List.mem_of_mem_drop hv))
    · rw [Addr.add_lit]
      rw [List.getElem?_drop, ← hxs] at hj
      have hlt := (List.getElem?_eq_some_iff.1 hj).1
      rw [List.getElem?_take_of_lt (by simp at hlt; omega), Array.getElem?_toList] at hj
      exact (hcell (i + j)).trans hj
    · show (w.cell? _).isSome = true
      rw [hcell, Array.getElem?_eq_getElem (by omega)]; rfl
  have hB1 : BoxT (w.drew.setCells b (i + 1) (xs.drop i)) 27 b (layL cur.toList (i + 1) (xs.drop i)).toArray := BoxT.setCells _ _ (show BoxT w.drew 27 b cur from hb)
  have hX1 : BoxT (w.drew.setCells b (i + 1) (xs.drop i)) T g #[.int .u32 x] := (show BoxT w.drew T g #[.int .u32 x] from hx).only (only_setCells _ _ (Only.refl _ _)) hg
  have hO1 : Only (· = b) w (w.drew.setCells b (i + 1) (xs.drop i)) := only_setCells _ _ (Only.refl _ _).drew
  generalize w.drew.setCells b (i + 1) (xs.drop i) = W1 at *
  have hcp2 : ∀ ty dl dc, 1 ≤ dl → (Builtin.copy_ #[35, 35] ty #[.slice (some ⟨b, i, none⟩) dl dc, .slice (some ⟨g, 0, none⟩) 1 1]).run Tryz.prog W1 = .ok (goInt 1) (W1.setCells b i [.int .u32 x]) := by
    intro ty dl dc hdl1
    refine run_copy_cells W1 _ _ ty 27 b i dl dc ⟨g, 0, none⟩ 1 1 [.int .u32 x] Tryz.underlying35 hsz (by simp only [Nat.min_def, List.length_cons, List.length_nil]; split <;> omega) (fun j v hj => ?_) (fun j hj => ?_) (fun j hj => hB1.box.free _) (fun u hu => by simp only [List.mem_singleton] at hu; subst hu; rfl)
    · exact news_one hX1.box _ rfl j v hj
    · rw [hB1.box.cell, Array.getElem?_eq_getElem (by simp [layL_len] at hj ⊢; omega)]; rfl
  have hB2 := BoxT.setCells [.int .u32 x] i hB1
  have hO2 : Only (· = b) w (W1.setCells b i [.int .u32 x]) := only_setCells _ _ hO1
  have HB2 := Lib.hid hB2; have HO2 := Lib.hid hO2; have HC1 := Lib.hid hcp1; have HC2 := Lib.hid hcp2
  clear hB2 hO2 hO1 hX1 hB1 hcp1 hcp2 hcell hfree hsh1 hsh2 hfg hx hb h1 hxs hsz hdl hxl
  have hw1 : IntKind.i64.wrap ((i : Int) + 1) = (i : Int) + 1 := by rw [IntKind.wrap_i64]; omega
  have hw2 : IntKind.i64.wrap ((n : Int) + 1) = (n : Int) + 1 := by rw [IntKind.wrap_i64]; omega
  have htn : ((i : Int) + 1).toNat = i + 1 := by omega
  have htn2 : ((n : Int) + 1).toNat = n + 1 := by omega
  have hz2 : ¬ ((i : Int) = (n : Int)) := by omega
  have hb2 : ¬ (cap = i + 1) := by omega
  have hb4 : ¬ (cap = i) := by omega
  have hb5 : ¬ ((cap : Int) < (n : Int) + 1) := by omega
  have hb6 : (i : Int) ≤ (n : Int) := by omega
  have hb7 : (i : Int) + 1 ≤ (n : Int) + 1 := by omega
  have hb9 : (0 : Int) ≤ (i : Int) + 1 := by omega
  have hb8 : (i : Int) ≤ (n : Int) + 1 := by omega
  go_enter Tryz.func27, Tryz.ntmps27
  go_wp2_with (simp only [hov])
  go_region_law (go_loud (refine step_copy_runI rfl (.tmp 73) (.tmp 76) 35 35 rfl (.slice (some ⟨b, i + 1, none⟩) (n - i) (cap - (i + 1))) (.slice (some ⟨b, i, none⟩) (n + 1 - i) (cap - i)) (by simp [Act.eval, Act.put]) (by simp [Act.eval, Act.put]) (HC1.out _ _ _ _ _ rfl rfl) ?_))
  have hc2 := HC2.out 3 (n + 1 - i) (cap - i) (by omega)
  go_wp2
  go_ret
  exact ⟨rfl, HB2.out, HO2.out⟩
end Go.Proofs.YtdpamikobmefeaaGreat

namespace Go.Proofs.YtdpamikobmefeaaGreat
open Go.RowKit
set_option maxRecDepth 100000
set_option linter.unusedVariables false
set_option linter.unusedSimpArgs false

theorem lay_ins2 {row xs : List Value} {n i : Nat} {x : Value} (hl : n + 1 ≤ row.length) (hx : xs.length = n) (ht : row.take i = xs.take i) (hi : i < n) : (layL (layL row i [x]) (i + 1) (xs.drop i)).take (n + 1) = xs.take i ++ x :: xs.drop i := by
  have hd : (xs.drop i).length = n - i := by rw [List.length_drop, hx]
  have hti : (xs.take i).length = i := by rw [List.length_take]; omega
  rw [layL_eq [x] row i (by simp; omega), ht]
  have hR : n - i ≤ (row.drop (i + [x].length)).length := by simp; omega
  generalize row.drop (i + [x].length) = R at *
  generalize hP : xs.take i = P at *
  generalize hD : xs.drop i = D at *
  rw [layL_eq D _ (i + 1) (by simp; omega)]
  have t1 : (P ++ [x] ++ R).take (i + 1) = P ++ [x] := List.take_left' (by simp; omega)
  rw [t1, show P ++ [x] ++ D = P ++ x :: D by simp]
  exact List.take_left' (by simp; omega)
set_option maxHeartbeats 2000000 in
/-- In the midst, no room. -/
theorem ins_grow {n i b cap g : Nat} {cur : Array Value} {xs : List Value} {x : Int} (w : World) (hb : Box w b cur) (hcs : cur.size = cap) (hxs : cur.toList.take n = xs) (hnc : n ≤ cap) (hroom : cap < n + 1) (hn : n ≤ 1000000) (hi : i < n) (hx : Box w g #[.int .u32 x]) (h1 : ∀ u ∈ xs, u.oneCell' = true) :
    Calls Tryz.prog 27 #[.slice (some ⟨b, 0, none⟩) n cap, .int .i64 i, .slice (some ⟨g, 0, none⟩) 1 1] w fun e w' => ∃ (G : Nat) (row : Array Value), e = .returned (.slice (some ⟨w.heap.size, 0, none⟩) (n + 1) G) ∧ n + 1 ≤ G ∧ G ≤ maxLen ∧ row.size = G ∧ row.toList.take (n + 1) = xs.take i ++ .int .u32 x :: xs.drop i ∧
      BoxT w' 27 w.heap.size row ∧ Below w.heap.size w w' := by
  have hxl : xs.length = n := by rw [← hxs]; simp; omega
  have hdl : (xs.drop i).length = n - i := by rw [List.length_drop, hxl]
  obtain ⟨i0, hi0, hz0, hz1, hz2⟩ := run_u32_info_R
  have hsz : (Tryz.prog.info? 27).map (·.size) = some 1 := by rw [hi0]; simp [hz1]
  have hgw := hx.lt
  have hbw := hb.lt
  have hold : (Builtin.firstCells i0.size i (.slice (some ⟨b, 0, none⟩) i cap)).run Tryz.prog w.drew = .ok (xs.take i).toArray w.drew := by
    rw [hz1]
    refine run_firstCells_some w.drew 1 i ⟨b, 0, none⟩ i cap (xs.take i) (by rw [List.length_take]; omega) (fun j v hj => ?_)
    rw [Addr.add_lit, Nat.zero_add]
    have hlt := (List.getElem?_eq_some_iff.1 hj).1
    simp only [List.length_take] at hlt
    rw [List.getElem?_take_of_lt (by omega), ← hxs, List.getElem?_take_of_lt (by omega), Array.getElem?_toList] at hj
    exact (hb.cell j).trans hj
  have hik : i + (n + 1 - i) = n + 1 := by omega
  have hkk : (n : Int) + 1 - (i : Int) = ((n + 1 - i : Nat) : Int) := by omega
  obtain ⟨G, ROW, hG1, hG2, hR1, hR2, hrz⟩ : ∃ (G : Nat) (ROW : Array Value), n + 1 ≤ G ∧ G ≤ maxLen ∧ ROW.size = G ∧ ROW.toList.take i = xs.take i ∧ ∀ ty, (Builtin.append_ #[35, 3] ty #[.slice (some ⟨b, 0, none⟩) i cap, .int .i64 ((n : Int) + 1 - (i : Int))]).run Tryz.prog w = .ok (.slice (some ⟨w.heap.size, 0, none⟩) (n + 1) G) (w.drew.alloc (.cells ROW 27)) := by
    have hge := grownCap_ge w (n + 1) cap 27
    refine ⟨grownCap w (n + 1) cap 27, _, hge, grownCap_le_maxLen w (n + 1) cap 27 (by unfold maxLen; omega), ?_, ?_, fun ty => by
      have h := Lib.run_append_grow_zeros w 35 3 ty 27 i0 _ .i64 .i64 Tryz.underlying35 Tryz.underlying3 hi0 hz0 (some ⟨b, 0, none⟩) i cap (xs.take i) hold (n + 1 - i) (by omega) (by omega) (by omega) (by omega) (by rw [hz2]; omega) (by rw [hz2, hik]; exact growslice_fits hroom (by omega))
      rw [hik] at h
      rw [hkk]
      exact h⟩
    · simp [Builtin.zeroCells, Value.cells]; omega
    · simp
      exact List.take_left' (by rw [List.length_take]; omega)
  clear hold hi0 hz0 hz1 hz2
  obtain ⟨N, hN⟩ : ∃ N, N = w.heap.size := ⟨_, rfl⟩
  have hB1 : BoxT ((w.alloc (.cells ROW 27)).drew) 27 N ROW := by rw [hN]; exact BoxT.new w ROW 27
  have hcA : ∀ ty dc, (Builtin.copy_ #[35, 35] ty #[.slice (some ⟨N, i, none⟩) (n + 1 - i) dc, .slice (some ⟨g, 0, none⟩) 1 1]).run Tryz.prog ((w.alloc (.cells ROW 27)).drew) = .ok (goInt 1) (((w.alloc (.cells ROW 27)).drew).setCells N i [.int .u32 x]) := fun ty dc => by
    refine run_copy_cells _ _ _ ty 27 N i (n + 1 - i) dc ⟨g, 0, none⟩ 1 1 [.int .u32 x] Tryz.underlying35 hsz (by simp only [Nat.min_def, List.length_cons, List.length_nil]; split <;> omega) (fun j v hj => ?_) (fun j hj => ?_) (fun j hj => hB1.box.free _) (fun u hu => by simp only [List.mem_singleton] at hu; subst hu; rfl)
    · exact news_one (show Box ((w.alloc (.cells ROW 27)).drew) g _ from hx.alloc _) _ rfl j v hj
    · rw [hB1.box.cell, Array.getElem?_eq_getElem (by simp at hj; omega)]; rfl
  have hB2 := BoxT.setCells [.int .u32 x] i hB1
  have hO2 : Only (· = N) ((w.alloc (.cells ROW 27)).drew) (((w.alloc (.cells ROW 27)).drew).setCells N i [.int .u32 x]) := only_setCells _ _ (Only.refl _ _)
  have hbb : Box (((w.alloc (.cells ROW 27)).drew).setCells N i [.int .u32 x]) b cur := (show Box ((w.alloc (.cells ROW 27)).drew) b cur from hb.alloc _).only hO2 (by omega)
  have hBel : Below N w (((w.alloc (.cells ROW 27)).drew).setCells N i [.int .u32 x]) := by
    have h0 : Below N w ((w.alloc (.cells ROW 27)).drew) := by rw [hN]; exact (below_a1 w _).drew
    exact h0.trans (Only.below (B := N) hO2 (by rw [hN]; exact Nat.le_trans (Nat.le_succ _) (by show w.heap.size + 1 ≤ (w.heap.push _).size; simp)) (fun k hk => by omega))
  generalize ((w.alloc (.cells ROW 27)).drew).setCells N i [.int .u32 x] = W2 at *
  have hcB : ∀ ty dl dc sc, dl = n - i → (Builtin.copy_ #[35, 35] ty #[.slice (some ⟨N, i + 1, none⟩) dl dc, .slice (some ⟨b, i, none⟩) (n - i) sc]).run Tryz.prog W2.drew = .ok (goInt (xs.drop i).length) (W2.drew.setCells N (i + 1) (xs.drop i)) := by
    rintro ty _ dc sc rfl
    refine run_copy_cells W2.drew _ _ ty 27 N (i + 1) (n - i) dc ⟨b, i, none⟩ (n - i) sc (xs.drop i) Tryz.underlying35 hsz (by rw [hdl]; simp only [Nat.min_def]; split <;> omega) (fun j v hj => ?_) (fun j hj => ?_) (fun j hj => hB2.box.free _) (fun v hv => h1 v (List.mem_of_mem_drop hv))
    · rw [Addr.add_lit]
      rw [List.getElem?_drop, ← hxs] at hj
      have hlt := (List.getElem?_eq_some_iff.1 hj).1
      rw [List.getElem?_take_of_lt (by simp at hlt; omega), Array.getElem?_toList] at hj
      exact (hbb.cell (i + j)).trans hj
    · show (W2.cell? _).isSome = true
      rw [hB2.box.cell, Array.getElem?_eq_getElem (by simp [layL_len]; omega)]; rfl
  have hB3 : BoxT (W2.drew.setCells N (i + 1) (xs.drop i)) 27 N _ := BoxT.setCells (xs.drop i) (i + 1) (show BoxT W2.drew 27 N _ from hB2)
  have hrow : (layL (layL ROW.toList i [.int .u32 x]) (i + 1) (xs.drop i)).take (n + 1) = xs.take i ++ .int .u32 x :: xs.drop i := lay_ins2 (by simp; omega) hxl hR2 hi
  have hBel3 : Below N w (W2.drew.setCells N (i + 1) (xs.drop i)) := hBel.trans (Only.below (B := N) (only_setCells _ _ (Only.refl (· = N) W2).drew) (by have := hB2.lt; omega) (fun k hk => by omega))
  simp only [] at hB3
  have HB3 := Lib.hid hB3; have HROW := Lib.hid hrow; have HBEL := Lib.hid hBel3; have HCB := Lib.hid hcB; have HRZ := Lib.hid hrz
  have HS := Lib.hid (show (layL (layL ROW.toList i [.int .u32 x]) (i + 1) (xs.drop i)).length = G by rw [layL_len, layL_len]; simpa using hR1)
  subst hN
  clear hB3 hrow hBel3 hBel hcB hB1 hB2 hO2 hbb hb hx hsz hdl hxl hxs h1 hrz hkk hik hR2
  have hw1 : IntKind.i64.wrap ((i : Int) + 1) = (i : Int) + 1 := by rw [IntKind.wrap_i64]; omega
  have hw2 : IntKind.i64.wrap ((n : Int) + 1) = (n : Int) + 1 := by rw [IntKind.wrap_i64]; omega
  have hw3 : IntKind.i64.wrap ((n : Int) + 1 - (i : Int)) = (n : Int) + 1 - (i : Int) := by rw [IntKind.wrap_i64]; omega
  have htn : ((i : Int) + 1).toNat = i + 1 := by omega
  have hz2 : ¬ ((i : Int) = (n : Int)) := by omega
  have hz3 : ((cap : Int) < (n : Int) + 1) := by omega
  have hb2 : ¬ (G = i + 1) := by omega
  have hb3 : ¬ (G = i) := by omega
  have hb4 : ¬ (cap = i) := by omega
  have hb6 : (i : Int) ≤ (n : Int) := by omega
  have hb7 : (i : Int) + 1 ≤ (n : Int) + 1 := by omega
  have hb8 : (i : Int) ≤ (n : Int) + 1 := by omega
  have hb9 : (0 : Int) ≤ (i : Int) + 1 := by omega
  have hb10 : (i : Int) ≤ (cap : Int) := by omega
  go_enter Tryz.func27, Tryz.ntmps27
  go_wp2_with (at_builtin; go_loud (refine Lib.wpList_append_run _ rfl _ _ _ _ rfl _ _ rfl rfl _ _ (HRZ.out _) ?_))
  go_region_law (go_loud (refine step_copy_runI rfl (.tmp 50) (.tmp 53) 35 35 rfl (.slice (some ⟨w.heap.size, i + 1, none⟩) (n - i) (G - (i + 1))) (.slice (some ⟨b, i, none⟩) (n - i) (cap - i)) (by simp [Act.eval, Act.put]) (by simp [Act.eval, Act.put]) (HCB.out _ _ _ _ rfl) ?_))
  go_wp2
  go_ret
  exact ⟨G, _, rfl, hG1, hG2, by simpa using HS.out, by simpa using HROW.out, HB3.out, HBEL.out⟩
end Go.Proofs.YtdpamikobmefeaaGreat

namespace Go.Proofs.YtdpamikobmefeaaGreat
open Go.RowKit
set_option maxRecDepth 100000
set_option linter.unusedVariables false
set_option linter.unusedSimpArgs false

theorem grown_one {b : Nat} {w w' : World} (h : Only (· = b) w w') : w.grownBy w' (some b) := ⟨h.os, h.tape, h.output, h.size, fun k hk hn => h.block k hk (fun e => hn (by rw [e]))⟩
theorem grown_any {w w' : World} (h : Below w.heap.size w w') (r : Option Nat) : w.grownBy w' r := ⟨h.os, h.tape, h.output, h.size, fun i hi _ => h.block i hi⟩
/-- What an insert leaves: the row with the element, in its own block or in a new one. -/
def Insd (w : World) (base n : Nat) (xs : List Value) (v : Value) (B : Option Addr) (cap : Nat) (w' : World) : Prop :=
  w'.ownsRow base 27 1 (.slice B (n + 1) cap) (n + 1) xs ∧ w.grownBy w' v.ownBlock ∧ ((Value.slice B (n + 1) cap).ownBlock = v.ownBlock ∨ (Value.slice B (n + 1) cap).ownBlock = some w.heap.size)
theorem ins_any {base n i g T : Nat} {v : Value} {xs : List Value} {x : Int} (w : World) (hown : w.ownsRow base 27 1 v n xs) (hb : base ≤ w.heap.size) (hn : n ≤ 1000000) (hi : i ≤ n) (hx : BoxT w T g #[.int .u32 x]) (hg : v.ownBlock ≠ some g) (h1 : ∀ u ∈ xs, u.oneCell' = true) :
    Calls Tryz.prog 27 #[v, .int .i64 i, .slice (some ⟨g, 0, none⟩) 1 1] w fun e w' => ∃ B cap, e = .returned (.slice B (n + 1) cap) ∧ Insd w base n (xs.take i ++ .int .u32 x :: xs.drop i) v B cap w' := by
  have hlen : xs.length = n := by have := hown.1; simpa using this
  by_cases hin : i = n
  · subst hin
    refine (ins_end w hown hb hn hx.box).mono ?_
    rintro e w' ⟨B, cap, rfl, h⟩
    refine ⟨B, cap, rfl, ?_, h.2.1, h.2.2⟩
    have h0 := h.1
    rw [show xs.take i ++ .int .u32 x :: xs.drop i = xs ++ [.int .u32 x] by rw [List.take_of_length_le (by omega), List.drop_eq_nil_of_le (by omega)]]
    exact h0
  · rcases hown.2 with ⟨_, h0⟩ | ⟨b, cap, cur, rfl, hbg, hh, hnc, hcm, hs, ht⟩
    · omega
    · rw [Nat.mul_one] at hs ht
      have hbx : BoxT w 27 b cur := hh
      by_cases hr : n + 1 ≤ cap
      · refine (ins_room (n := n) (i := i) (cap := cap) w hbx hs ht hr (by unfold maxLen at hcm; omega) (by omega) hx (fun e => hg (by rw [e]; rfl)) h1).mono ?_
        rintro e w' ⟨rfl, h2, h3⟩
        refine ⟨_, _, rfl, ⟨by simp; omega, .inr ⟨b, cap, _, rfl, hbg, h2, hr, hcm, by simp [layL_len]; omega, ?_⟩⟩, grown_one h3, .inl rfl⟩
        rw [Nat.mul_one]
        simpa using lay_ins (by simp; omega) ht (by omega)
      · refine (ins_grow (n := n) (i := i) (cap := cap) w hbx.box hs ht hnc (by omega) hn (by omega) hx.box h1).mono ?_
        rintro e w' ⟨G, row, rfl, h2, h3, h4, h5, h6, h7⟩
        refine ⟨_, _, rfl, ⟨by simp; omega, .inr ⟨w.heap.size, G, row, rfl, hb, h6, h2, h3, by omega, by rw [Nat.mul_one]; exact h5⟩⟩, grown_any h7 _, .inr rfl⟩
end Go.Proofs.YtdpamikobmefeaaGreat
