/- The links' sort: by rising steps; and each once. Conditions: the row is one's own. -/
import Derived.Test.YtjcbmfopcohcmaaSort32
import Derived.Test.YtjcbmfopcohcmaaSrtBase
import Derived.Test.YtjcbmfopcohcmaaLinksPlain
import Derived.Test.YtjcbmfopcohcmaaCircle
import Derived.Test.YtjcbmfopcohcmaaScanSort
namespace Go.Proofs.Ytjcbmfopcohcmaa
open Go.Shelf Go.RowKit Go.Lib Go.Sort
set_option maxRecDepth 100000
set_option linter.unusedVariables false
set_option linter.unusedSimpArgs false

def lnkC (p a b : Int) : Int := cmpF (wayF p a) (wayF p b)
theorem lnk_lt (p a b : Int) : ltOf (lnkC p) a b = decide (wayF p a < wayF p b) := by
  unfold ltOf lnkC
  exact decide_eq_decide.2 (cmpF_lt _ _)
theorem lnk_swo (p : Int) : SWO (ltOf (lnkC p)) where
  irrefl x := by rw [lnk_lt]; simp
  trans x y z h1 h2 := by rw [lnk_lt] at *; simp at *; omega
  ntrans x y z h1 h2 := by rw [lnk_lt] at *; simp at *; omega
theorem far_q (a b : Int) (w : World) : Calls Try.prog 70 #[.int .u32 a, .int .u32 b] w fun e w' => e = .returned (.int .u32 (farF a b)) ∧ w' = w := (far_any a b w).mono fun _ _ h => ⟨h.1, h.2.symm⟩
theorem cmp_q (a b : Int) (w : World) : Calls Try.prog 69 #[.int .u32 a, .int .u32 b] w fun e w' => e = .returned (.int .i64 (cmpF a b)) ∧ w' = w := (cmp_u32 a b w).mono fun _ _ h => ⟨h.1, h.2.symm⟩
theorem lnk_cmp (p a b : Int) (bp : Nat) (w : World) (h : Box w bp #[.int .u32 p]) :
    Calls Try.prog 68 #[.int .u32 a, .int .u32 b, .pointer (some ⟨bp, 0, none⟩)] w fun e w' => e = .returned (.int .i64 (lnkC p a b)) ∧ ∃ q, w' = w.drewN q := by
  have hc := h.cell
  have hz := h.lt
  clear h
  go_enter Try.func68, Try.ntmps68
  go_wp2
  go_quiet ((first | (go_at_call 70; exact Calls.quiet_of_same (far_q _ _ _)) | (go_at_call 69; exact Calls.quiet_of_same (cmp_q _ _ _))))
  go_wp2
  go_ret
  exact ⟨rfl, _, rfl⟩
theorem rowI_sorted {k : IntKind} {T : TypeId} {C0 : Array Value} {w0 w : World} {b n : Nat} {d d' : Array Int} {os : Array Obj} (h : RowI k T C0 w0 b d w) (hs : d'.size = d.size) : RowI k T C0 w0 b d' (sortWorld (Value.int k) w b 0 n d' os) := by
  have ho : Only (fun i => i = b) w (sortWorld (Value.int k) w b 0 n d' os) := by
    refine ⟨rfl, rfl, rfl, ?_, fun i hi hne => ?_⟩
    · show w.heap.size ≤ ((w.heap.modify b _) ++ os).size
      simp
    · show ((w.heap.modify b _) ++ os)[i]? = _
      rw [Array.getElem?_append_left (by simpa using hi), Array.getElem?_modify, if_neg (fun e => hne e.symm)]
  refine ⟨?_, by rw [hs]; exact h.fits, h.only.trans ho⟩
  show ((w.heap.modify b _) ++ os)[b]? = _
  have hh := h.box
  unfold BoxT at hh
  rw [Array.getElem?_append_left (by simpa using h.lt), Array.getElem?_modify, if_pos rfl, hh]
  show some (onCells _ (Obj.cells _ _ _)) = _
  unfold onCells
  simp only [Option.some.injEq, Obj.cells.injEq, and_true]
  apply Array.ext_getElem?
  intro t
  unfold putCells layI
  simp only [Array.getElem?_mapIdx]
  by_cases ht : t < C0.size
  · rw [Array.getElem?_eq_getElem ht]
    by_cases htd : t < d'.size
    · simp [htd]
    · have : ¬ t < d.size := by omega
      simp [htd, this]
  · rw [Array.getElem?_eq_none (by omega)]; rfl
/-- slices.SortFunc by rising steps. -/
theorem lnk_sort (p : Int) {bp g cap : Nat} {T : TypeId} {C0 : Array Value} {w0 w : World} {d : Array Int} (hb : Box w bp #[.int .u32 p]) (hne : bp ≠ g) (h : RowI .u32 T C0 w0 g d w) (hsz : d.size < 4611686018427387904) :
    Calls Try.prog 67 #[.slice (some ⟨g, 0, none⟩) d.size cap, .func (.func 68) #[] #[.pointer (some ⟨bp, 0, none⟩)]] w fun e w' =>
      e = .returned (.tuple #[]) ∧ ∃ d' : Array Int, d'.toList.Perm d.toList ∧ (∀ i j, i < j → j < d'.size → wayF p d'[i]! ≤ wayF p d'[j]!) ∧ RowI .u32 T C0 w0 g d' w' := by
  have hc : CmpLays1 Try.prog 68 #[.pointer (some ⟨bp, 0, none⟩)] (Value.int .u32) (lnkC p) g 0 d.size w := by
    intro m os dk hs x y
    have hb2 := hb.only (rowI_sorted (n := m) (os := os) (RowI.start h.box h.fits) hs).only (fun h => hne h)
    exact (lnk_cmp p x y bp _ hb2).mono fun e w' ⟨he, q, hw⟩ => ⟨he, q, #[], by rw [hw, grow_empty]⟩
  have hH : Holds (Value.int .u32) w g 0 d := fun j hj => ⟨by rw [Nat.zero_add]; exact h.cell hj, h.free _⟩
  have hcon := Any.slices_SortFunc sort32 (Value.int .u32) (fun _ => rfl) (lnkC p) (lnk_swo p) 68 #[.pointer (some ⟨bp, 0, none⟩)] g 0 cap d w (enters_of Try.func68 (by kernel_rfl) rfl) hc hH h.lt hsz
  refine hcon.mono ?_
  rintro e w' ⟨he, d', n, os, hp, hs, rfl⟩
  have hsz' : d'.size = d.size := hp.1
  refine ⟨he, d', ?_, fun i j hij hj => ?_, rowI_sorted h hsz'⟩
  · obtain ⟨h1, _, h3⟩ := hp
    rw [Array.extract_eq_self_of_le (by omega), Array.extract_eq_self_of_le (Nat.le_refl _)] at h3
    exact h3
  · have := hs i j (Nat.zero_le _) hij (by omega)
    rw [lnk_lt] at this
    simpa using this
/-- slices.Compact. -/
theorem comp_none (w : World) : Calls Try.prog 71 #[.slice none 0 0] w fun e w' => e = .returned (.slice none 0 0) ∧ w = w' := by
  go_enter Try.func71, Try.ntmps71
  go_wp2
  go_ret
  exact ⟨rfl, rfl⟩
theorem comp_row {g cap : Nat} {T : TypeId} {C0 : Array Value} {w0 w : World} {d : Array Int} (h : RowI .u32 T C0 w0 g d w) (hsz : d.size ≤ 9223372036854775807) (hcap : d.size ≤ cap) :
    Calls Try.prog 71 #[.slice (some ⟨g, 0, none⟩) d.size cap] w fun e w' => e = .returned (.slice (some ⟨g, 0, none⟩) (compactUpTo d d.size).length cap) ∧
      ∃ d' : Array Int, d'.size = d.size ∧ d'.toList.take (compactUpTo d d.size).length = compactUpTo d d.size ∧ RowI .u32 T C0 w0 g d' w' := by
  have hH : Holds (Value.int .u32) w g 0 d := fun j hj => ⟨by rw [Nat.zero_add]; exact h.cell hj, h.free _⟩
  have hcon := AnyE.slices_Compact comp32 (Value.int .u32) (fun _ => rfl) (EqlAt.intD _ _ .u32) (NeqAt.intD _ _ .u32) 0 (fun w => Try.zeroValue22 w) g 0 cap d w hH hsz hcap
  refine hcon.mono ?_
  rintro e w' ⟨he, q, rfl⟩
  have hl : (compactUpTo d d.size).length ≤ d.size := by
    unfold compactUpTo
    rw [List.length_map]
    exact Nat.le_trans (List.length_filter_le _ _) (by simp)
  have hsz2 : (compactUpTo d d.size ++ List.replicate (d.size - (compactUpTo d d.size).length) (0 : Int)).toArray.size = d.size := by simp; omega
  refine ⟨he, (compactUpTo d d.size ++ List.replicate (d.size - (compactUpTo d d.size).length) 0).toArray, hsz2, by simp, ?_⟩
  have := rowI_sorted (n := q) (os := #[]) h hsz2
  unfold sortWorld at this
  rwa [grow_empty] at this
end Go.Proofs.Ytjcbmfopcohcmaa
