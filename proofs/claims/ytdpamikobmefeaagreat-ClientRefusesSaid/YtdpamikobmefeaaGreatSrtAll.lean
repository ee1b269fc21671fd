/- A row of whole numbers that is sorted: words. Conditions: none. | slices.Sort at whole numbers: less, insertionSort. Conditions: the row is one's own. | slices.Sort at whole numbers: the pivot. Conditions: the row is one's own. | slices.Sort at whole numbers: reverseRange, breakPatterns. Conditions: the row is one's own. | math/bits.Len, slices' nextPowerOfTwo and xorshift: the library's contracts, laid at this program. Conditions: none. | slices.Sort at whole numbers: breakPatterns. Conditions: the row is one's own. | slices.Sort at whole numbers: siftDown, heapSort. Conditions: the row is one's own. | slices.Sort at whole numbers: the partitions. Conditions: the row is one's own. | slices.Sort at whole numbers: partialInsertionSort. Conditions: the row is one's own. | The quicksort's rounds, plainly. Conditions: none. | slices.Sort at whole numbers. Conditions: the row is one's own. -/
import Derived.Test.YtdpamikobmefeaaGreatBin
import Derived.Sort.AssemblyPlain
import Derived.BigRegion
import Derived.RegionTactic
import Derived.Outline
import Derived.Deep.QuietTactic
import Derived.BigQuiet
import Derived.Shelf.SlSortCmp.Xorshift
import Derived.Shelf.SlGeneric
import Derived.Ground.SlsfProg
import Derived.Deep.CutBlock
import Derived.Deep.DeepCutAuto
import Derived.LoopN
namespace Go.Proofs.YtdpamikobmefeaaGreat
open Go.RowKit Go.Sort
set_option linter.unusedVariables false
set_option linter.unusedSimpArgs false

/-- The first cells are d, the rest is as it was. -/
def layI (k : IntKind) (C0 : Array Value) (d : Array Int) : Array Value := C0.mapIdx fun i v => if i < d.size then .int k d[i]! else v
/-- Block b is a row of d, of C0 besides; of the old blocks it alone may have turned. -/
structure RowI (k : IntKind) (T : TypeId) (C0 : Array Value) (w0 : World) (b : Nat) (d : Array Int) (w : World) : Prop where
  box : BoxT w T b (layI k C0 d)
  fits : d.size ≤ C0.size
  only : Only (· = b) w0 w
section
variable {k : IntKind} {T : TypeId} {C0 : Array Value} {w0 w w' : World} {b i j : Nat} {d d' : Array Int}
theorem layI_at (h : d.size ≤ C0.size) (hi : i < d.size) : (layI k C0 d)[i]? = some (.int k d[i]!) := by
  unfold layI
  rw [Array.getElem?_mapIdx, Array.getElem?_eq_getElem (by omega)]
  simp [hi]
theorem layI_set (h : d.size ≤ C0.size) (hi : i < d.size) (x : Int) : (layI k C0 d).setIfInBounds i (.int k x) = layI k C0 (d.setIfInBounds i x) := by
  apply Array.ext_getElem?
  intro t
  unfold layI
  rw [Array.getElem?_setIfInBounds, Array.getElem?_mapIdx, Array.getElem?_mapIdx]
  by_cases ht : t < C0.size
  · by_cases hit : i = t
    · subst hit
      simp [ht, hi]
    · simp only [hit, if_false, Array.size_setIfInBounds]
      rw [Array.getElem?_eq_getElem ht]
      by_cases htd : t < d.size
      · simp [htd, hit]
      · simp [htd]
  · rw [Array.getElem?_eq_none (by omega)]
    split
    · subst_vars; simp; omega
    · rfl
theorem RowI.cell (h : RowI k T C0 w0 b d w) (hi : i < d.size) : w.cell? ⟨b, i, none⟩ = some (.int k d[i]!) := by
  rw [h.box.box.cell, layI_at h.fits hi]
theorem RowI.free (h : RowI k T C0 w0 b d w) : ∀ i, w.frozen? ⟨b, i, none⟩ = false := h.box.box.free
theorem RowI.lt (h : RowI k T C0 w0 b d w) : b < w.heap.size := h.box.lt
theorem RowI.start (hb : BoxT w T b (layI k C0 d)) (hf : d.size ≤ C0.size) : RowI k T C0 w b d w := ⟨hb, hf, Only.refl _ _⟩
theorem RowI.later (h : RowI k T C0 w0 b d w) (hb : Below w.heap.size w w') : RowI k T C0 w0 b d w' := ⟨h.box.below hb h.lt, h.fits, h.only.trans (Only.of_below hb)⟩
theorem RowI.drewN (h : RowI k T C0 w0 b d w) (n : Nat) : RowI k T C0 w0 b d (w.drewN n) := ⟨h.box, h.fits, h.only.drewN n⟩
theorem RowI.drew (h : RowI k T C0 w0 b d w) : RowI k T C0 w0 b d w.drew := ⟨h.box, h.fits, h.only.drew⟩
theorem RowI.drewD (h : RowI k T C0 w0 b d w) (hd : Drew w w') : RowI k T C0 w0 b d w' := by obtain ⟨n, rfl⟩ := hd; exact h.drewN n
theorem RowI.besides {S : Nat → Prop} (h : RowI k T C0 w0 b d w) (ho : Only S w w') (hb : ¬ S b) (hn : ∀ i, S i → w0.heap.size ≤ i) : RowI k T C0 w0 b d w' :=
  ⟨h.box.only ho hb, h.fits, ⟨ho.os.trans h.only.os, ho.tape.trans h.only.tape, ho.output.trans h.only.output, Nat.le_trans h.only.size ho.size, fun i hi hne => (ho.block i (Nat.lt_of_lt_of_le hi h.only.size) (fun hs => by have := hn i hs; omega)).trans (h.only.block i hi hne)⟩⟩
theorem RowI.set (h : RowI k T C0 w0 b d w) (hi : i < d.size) (x : Int) : RowI k T C0 w0 b (d.setIfInBounds i x) (w.setCell ⟨b, i, none⟩ (.int k x)) :=
  ⟨by have := h.box.set (i := i) (.int k x); rwa [layI_set h.fits hi] at this, by simpa using h.fits, h.only.setCell (.inl rfl) _⟩
theorem RowI.second (h : RowI k T C0 w0 b d w) (hi : i < d.size) (hj : j < d.size) (x : Int) : ∃ z, (w.setCell ⟨b, i, none⟩ (.int k x)).cell? ⟨b, j, none⟩ = some (.int k z) :=
  ⟨_, (h.set hi x).cell (by simpa using hj)⟩
theorem RowI.swap (h : RowI k T C0 w0 b d w) (hi : i < d.size) (hj : j < d.size) : RowI k T C0 w0 b (swp d i j) ((w.setCell ⟨b, i, none⟩ (.int k d[j]!)).setCell ⟨b, j, none⟩ (.int k d[i]!)) :=
  (h.set hi d[j]!).set (by simpa using hj) d[i]!
theorem RowI.swap2 (h : RowI k T C0 w0 b d w) (hi : i < d.size) (hj : j < d.size) : RowI k T C0 w0 b (swp d i j) ((w.setCell ⟨b, j, none⟩ (.int k d[i]!)).setCell ⟨b, i, none⟩ (.int k d[j]!)) := by
  have h1 := (h.set hj d[i]!).set (i := i) (by simpa using hi) d[j]!
  have e : (d.setIfInBounds j d[i]!).setIfInBounds i d[j]! = swp d i j := by
    unfold swp
    apply Array.ext_getElem?
    intro t
    simp only [Array.getElem?_setIfInBounds, Array.size_setIfInBounds]
    by_cases h1 : i = t
    · by_cases h2 : j = t
      · subst h1; subst h2; simp
      · subst h1; simp [h2]
    · by_cases h2 : j = t
      · subst h2; simp [h1]
      · simp [h1, h2]
  rwa [e] at h1
end
/-- An owned row, as a row that is sorted. -/
theorem rowI_of_owns {k : IntKind} {w : World} {base e n cap g : Nat} {xs : List Int} (h : w.ownsRow base e 1 (.slice (some ⟨g, 0, none⟩) n cap) n (xs.map (Value.int k))) :
    ∃ C0 : Array Value, C0.size = cap ∧ xs.length = n ∧ n ≤ cap ∧ cap ≤ maxLen ∧ base ≤ g ∧ RowI k e C0 w g xs.toArray w := by
  have hl : xs.length = n := by have := h.1; simpa using this
  rcases h.2 with ⟨h0, _⟩ | ⟨g', cap', cur, he, hb, hh, hn, hc, hs, ht⟩
  · cases h0
  · injection he with he e2 e3
    injection he with he
    injection he with he
    subst he e3
    have hs' : cur.size = cap := by simpa using hs
    refine ⟨cur, hs', hl, hn, hc, hb, RowI.start ?_ (by simp; omega)⟩
    have e1 : layI k cur xs.toArray = cur := by
      apply Array.ext_getElem?
      intro t
      unfold layI
      rw [Array.getElem?_mapIdx]
      by_cases ht' : t < cur.size
      · rw [Array.getElem?_eq_getElem ht']
        by_cases htn : t < xs.length
        · have h1 := congrArg (fun l => l[t]?) ht
          simp only [Nat.mul_one] at h1
          rw [List.getElem?_take_of_lt (by omega), Array.getElem?_toList, Array.getElem?_eq_getElem ht', List.getElem?_map, List.getElem?_eq_getElem htn] at h1
          simp only [Option.map_some, Option.some.injEq] at h1
          simp [htn, h1]
        · simp [htn]
      · rw [Array.getElem?_eq_none (by omega)]; rfl
    show w.heap[g]? = _
    rw [e1]; exact hh
theorem owns_of_rowI {k : IntKind} {w0 w : World} {base e n cap g : Nat} {C0 : Array Value} {d : Array Int} (h : RowI k e C0 w0 g d w) (hb : base ≤ g) (hd : d.size = n) (hn : n ≤ cap) (hc : cap ≤ maxLen) (hs : C0.size = cap) :
    w.ownsRow base e 1 (.slice (some ⟨g, 0, none⟩) n cap) n (d.toList.map (Value.int k)) := by
  refine ⟨by simp [hd], .inr ⟨g, cap, layI k C0 d, rfl, hb, h.box, hn, hc, by simp [layI, hs], ?_⟩⟩
  apply List.ext_getElem?
  intro t
  by_cases ht : t < n
  · rw [List.getElem?_take_of_lt (by omega), Array.getElem?_toList, layI_at h.fits (by omega), List.getElem?_map, Array.getElem?_toList, Array.getElem?_eq_getElem (by omega)]
    simp [getElem!_pos d t (by omega)]
  · rw [List.getElem?_eq_none (by simp; omega), List.getElem?_eq_none (by simp; omega)]
end Go.Proofs.YtdpamikobmefeaaGreat

namespace Go.Proofs.YtdpamikobmefeaaGreat
open Go.RowKit Go.Sort
set_option maxRecDepth 100000
set_option linter.unusedVariables false
set_option linter.unusedSimpArgs false

theorem insInner_go (a j : Nat) (d : Array Int) (h : a < j + 1) (hl : d[j + 1]! < d[j]!) : insInner ltInt a (j + 1) d = insInner ltInt a j (swp d (j + 1) j) := by
  conv => lhs; unfold insInner
  rw [if_pos]
  simp [ltInt, hl]; omega
theorem insInner_stop (a j : Nat) (d : Array Int) (h : j ≤ a ∨ ¬ d[j]! < d[j - 1]!) : insInner ltInt a j d = d := by
  cases j with
  | zero => rfl
  | succ j =>
    unfold insInner
    rw [if_neg]
    rcases h with h | h
    · simp; omega
    · simp only [Nat.add_sub_cancel] at h; simp [ltInt, h]
theorem insOuter_go (a b i : Nat) (d : Array Int) (h : i < b) : insOuter ltInt a b i d = insOuter ltInt a b (i + 1) (insInner ltInt a i d) := by
  conv => lhs; unfold insOuter
  rw [if_pos h]
theorem insOuter_stop (a b i : Nat) (d : Array Int) (h : b ≤ i) : insOuter ltInt a b i d = d := by
  unfold insOuter
  rw [if_neg (by omega)]
theorem size_swp' (d : Array Int) (i j : Nat) : (swp d i j).size = d.size := by simp [swp]

theorem cnan_u64 (x : Int) (w : World) : Calls Tryz.prog 142 #[.int .u64 x] w fun e w' => e = .returned (.bool false) ∧ w = w' := by
  go_enter Tryz.func142, Tryz.ntmps142
  go_wp2
  go_ret
  exact ⟨by simp, rfl⟩
theorem less_u64 (x y : Int) (w : World) : Calls Tryz.prog 131 #[.int .u64 x, .int .u64 y] w fun e w' => e = .returned (.bool (decide (x < y))) ∧ w = w' := by
  go_enter Tryz.func131, Tryz.ntmps131
  go_wp2_with (go_at_call 142; (with_reducible refine (cnan_u64 _ _).mono ?_); rintro e w' ⟨rfl, rfl⟩)
  go_ret
  exact ⟨rfl, rfl⟩
theorem lessq_u64 (x y : Int) (w : World) : Calls Tryz.prog 131 #[.int .u64 x, .int .u64 y] w fun e w' => e = .returned (.bool (decide (x < y))) ∧ w' = w := (less_u64 x y w).mono fun _ _ h => ⟨h.1, h.2.symm⟩
set_option maxHeartbeats 4000000 in
theorem srt_ins_u64 {T : TypeId} {C0 : Array Value} {w0 w : World} {b cap x y : Nat} {d : Array Int} (h : RowI .u64 T C0 w0 b d w) (hxy : x ≤ y) (hy : y ≤ d.size) (hsz : d.size < 4611686018427387904) :
    Calls Tryz.prog 125 #[.slice (some ⟨b, 0, none⟩) d.size cap, .int .i64 x, .int .i64 y] w fun e w' => e = .returned (.tuple #[]) ∧ RowI .u64 T C0 w0 b (insertionSort ltInt d x y) w' := by
  obtain ⟨n, hn⟩ : ∃ n, n = d.size := ⟨_, rfl⟩
  rw [← hn] at hy hsz ⊢
  have HH := Lib.hid h; have HN := Lib.hid hn
  clear h hn
  go_enter Tryz.func125, Tryz.ntmps125
  go_wp2
  go_loopw [6] (fun s wr => ∃ (i : Nat) (dk : Array Int), s = .int .i64 i ∧ x < i ∧ i ≤ y + 1 ∧ dk.size = n ∧ RowI .u64 T C0 w0 b dk wr ∧ insOuter ltInt x y i dk = insertionSort ltInt d x y) (fun i _ => y + 1 - (intOf i).toNat)
  case atStart => exact ⟨x + 1, d, by go_num, by omega, by omega, HN.out.symm, HH.out, rfl⟩
  case round =>
    obtain ⟨i, dk, rfl, hxi, hiy, hk, hR, hE⟩ := hrel
    have HR := Lib.hid hR; have HE := Lib.hid hE; have HK := Lib.hid hk
    clear hR hE hk
    by_cases hlt : i < y
    · go_wp2
      go_loopw [7] (fun s wq => ∃ (j : Nat) (dj : Array Int), s = .int .i64 j ∧ x ≤ j ∧ j ≤ i ∧ dj.size = n ∧ RowI .u64 T C0 w0 b dj wq ∧ insInner ltInt x j dj = insInner ltInt x i dk) (fun j _ => (intOf j).toNat)
      case atStart => exact ⟨i, dk, rfl, by omega, Nat.le_refl _, HK.out, HR.out, rfl⟩
      case round =>
        obtain ⟨j, dj, rfl, hxj, hji, hj, hRj, hEj⟩ := hrel
        have HRj := Lib.hid hRj; have HEj := Lib.hid hEj; have HJ := Lib.hid hj
        clear hRj hEj hj
        by_cases hjx : x < j
        · obtain ⟨q, rfl⟩ : ∃ q, j = q + 1 := ⟨j - 1, by omega⟩
          have g1 : decide (x < q + 1) = true := by simp; omega
          have g2 : decide ((x : Int) < (q : Int) + 1) = true := by simp; omega
          have c1 := HRj.out.cell (i := q + 1) (by have := HJ.out; omega)
          have c2 := HRj.out.cell (i := q) (by have := HJ.out; omega)
          have w1 : IntKind.i64.wrap ((q : Int) + 1) = (q : Int) + 1 := by rw [show ((q : Int) + 1) = ((q + 1 : Nat) : Int) by omega]; exact wrap_nat64 (by omega)
          have w2 : ((q : Int) + 1).toNat = q + 1 := by omega
          have w3 : (0 : Int) ≤ (q : Int) + 1 := by omega
          have w4 : (q : Int) + 1 < (n : Int) := by omega
          have w5 := wrap_nat64 (k := q) (by omega)
          have w6 : (q : Int) < (n : Int) := by omega
          generalize hu : dj[q + 1]! = u at *
          generalize hv : dj[q]! = v at *
          by_cases huv : u < v
          · have HLT := Lib.hid (show decide (u < v) = true from decide_eq_true huv)
            go_wp2
            go_quiet ((go_at_call 131; exact Calls.quiet_of_same (lessq_u64 _ _ _)))
            rw [HLT.out]
            go_wp2
            refine wp_abs (fun wx => RowI .u64 T C0 w0 b dj wx) (HRj.out.drewN _) ?_
            intro wx Rx
            have HX := Lib.hid Rx
            have c1 : wx.cell? ⟨b, q + 1, none⟩ = some (.int .u64 u) := by rw [← hu]; exact Rx.cell (by have := HJ.out; omega)
            have c2 : wx.cell? ⟨b, q, none⟩ = some (.int .u64 v) := by rw [← hv]; exact Rx.cell (by have := HJ.out; omega)
            have fz := Rx.free
            have zb := Rx.lt
            clear Rx
            go_region
            have R2 := Lib.hid (HX.out.swap (i := q + 1) (j := q) (by have := HJ.out; omega) (by have := HJ.out; omega)).drew
            rw [hu, hv] at R2
            have HE2 := Lib.hid (show insInner ltInt x q (swp dj (q + 1) q) = insInner ltInt x i dk by rw [← HEj.out, insInner_go _ _ _ (by omega) (by rw [hu, hv]; exact huv)])
            clear c1 c2 fz zb hu hv huv
            go_wp2
            go_roundw
            case rel => exact ⟨q, swp dj (q + 1) q, by go_num, by omega, by omega, by rw [size_swp']; exact HJ.out, R2.out, HE2.out⟩
            case measure => simp [intOf]
          · have HLT := Lib.hid (show decide (u < v) = false from decide_eq_false huv)
            have HO := Lib.hid (show insOuter ltInt x y (i + 1) dj = insertionSort ltInt d x y by
              rw [← HE.out, insOuter_go _ _ _ _ hlt, ← HEj.out, insInner_stop _ _ _ (.inr (by rw [hu, Nat.add_sub_cancel, hv]; exact huv))])
            go_wp2
            go_quiet ((go_at_call 131; exact Calls.quiet_of_same (lessq_u64 _ _ _)))
            rw [HLT.out]
            clear hu hv huv
            go_wp2
            go_roundw
            case rel => exact ⟨i + 1, dj, by go_num, by omega, by omega, HJ.out, HRj.out.drewN _, HO.out⟩
            case measure => simp [intOf]; omega
        · have g1 : decide (x < j) = false := by simp; omega
          have HO := Lib.hid (show insOuter ltInt x y (i + 1) dj = insertionSort ltInt d x y by
            rw [← HE.out, insOuter_go _ _ _ _ hlt, ← HEj.out, insInner_stop _ _ _ (.inl (by omega))])
          clear hjx
          go_wp2
          go_quiet (fail)
          go_wp2
          go_roundw
          case rel => exact ⟨i + 1, dj, by go_num, by omega, by omega, HJ.out, HRj.out.drewN _, HO.out⟩
          case measure => simp [intOf]; omega
    · go_wp2
      have HO := Lib.hid (show dk = insertionSort ltInt d x y by rw [← HE.out, insOuter_stop _ _ _ _ (by omega)])
      go_end0
      rw [← HO.out]
      exact ⟨rfl, HR.out⟩
end Go.Proofs.YtdpamikobmefeaaGreat

namespace Go.Proofs.YtdpamikobmefeaaGreat
open Go.RowKit Go.Sort
set_option maxRecDepth 100000
set_option linter.unusedVariables false
set_option linter.unusedSimpArgs false

/-- A row, and a count beside it. -/
structure RowC (k : IntKind) (T : TypeId) (C0 : Array Value) (w0 : World) (b : Nat) (d : Array Int) (sb : Nat) (s : Int) (w : World) : Prop where
  row : RowI k T C0 w0 b d w
  cnt : Box w sb #[.int .i64 s]
  new : w0.heap.size ≤ sb
  ne : b ≠ sb
  lo : 0 ≤ s
  hi : s ≤ 1000
def Ord2 (k : IntKind) (T : TypeId) (C0 : Array Value) (w0 : World) (b : Nat) (d : Array Int) (sb : Nat) (s : Int) (x y : Nat) (e : Ending) (w : World) : Prop :=
  ∃ (x' y' : Nat) (s' : Int), e = .returned (.tuple #[.int .i64 x', .int .i64 y']) ∧ ((x' = x ∧ y' = y) ∨ (x' = y ∧ y' = x)) ∧ s' ≤ s + 1 ∧ RowC k T C0 w0 b d sb s' w
def Med (k : IntKind) (T : TypeId) (C0 : Array Value) (w0 : World) (b : Nat) (d : Array Int) (sb : Nat) (s : Int) (x y z : Nat) (e : Ending) (w : World) : Prop :=
  ∃ (x' : Nat) (s' : Int), e = .returned (.int .i64 x') ∧ (x' = x ∨ x' = y ∨ x' = z) ∧ s' ≤ s + 3 ∧ RowC k T C0 w0 b d sb s' w
def Piv (k : IntKind) (T : TypeId) (C0 : Array Value) (w0 : World) (b : Nat) (d : Array Int) (x y : Nat) (e : Ending) (w : World) : Prop :=
  ∃ (p : Nat) (h : Int), e = .returned (.tuple #[.int .i64 p, .int .i64 h]) ∧ x ≤ p ∧ p < y ∧ 0 ≤ h ∧ h ≤ 2 ∧ RowI k T C0 w0 b d w

theorem pick3 {x l p i j k : Nat} (h : p = i ∨ p = j ∨ p = k) (hi : x ≤ i ∧ i < x + l) (hj : x ≤ j ∧ j < x + l) (hk : x ≤ k ∧ k < x + l) : x ≤ p ∧ p < x + l := by omega
theorem near3 {x l p i : Nat} (h : p = i - 1 ∨ p = i ∨ p = i + 1) (hi : x < i) (hi2 : i + 1 < x + l) : x ≤ p ∧ p < x + l := by omega
set_option maxHeartbeats 1000000 in
theorem srt_ord_u64 {T : TypeId} {C0 : Array Value} {w0 w : World} {b cap x y sb n : Nat} {s : Int} {d : Array Int} (h : RowC .u64 T C0 w0 b d sb s w) (hn : d.size = n) (hx : x < n) (hy : y < n) (hsz : n < 4611686018427387904) (hs : s ≤ 900) :
    Calls Tryz.prog 144 #[.slice (some ⟨b, 0, none⟩) n cap, .int .i64 x, .int .i64 y, .pointer (some ⟨sb, 0, none⟩)] w (Ord2 .u64 T C0 w0 b d sb s x y) := by
  have HH := Lib.hid h
  have c1 := h.row.cell (i := x) (by omega)
  have c2 := h.row.cell (i := y) (by omega)
  have cs := h.cnt.cell; have zs := h.cnt.lt; have fs := h.cnt.free
  have hlo := h.lo; have hhi := h.hi
  have hxn : (x : Int) < (n : Int) := by omega
  have hyn : (y : Int) < (n : Int) := by omega
  clear h hn
  generalize hu : d[x]! = u at *
  generalize hv : d[y]! = v at *
  by_cases hvu : v < u
  · have HLT := Lib.hid (show decide (v < u) = true from decide_eq_true hvu)
    go_enter Tryz.func144, Tryz.ntmps144
    go_wp2
    go_quiet ((go_at_call 131; exact Calls.quiet_of_same (lessq_u64 _ _ _)))
    rw [HLT.out]
    go_wp2
    go_ret2
    refine ⟨y, x, s + 1, rfl, .inr ⟨rfl, rfl⟩, Int.le_refl _, ⟨HH.out.row.box.only (Only.refl (· = sb) w |>.drewN _ |>.setCell (p := ⟨sb, 0, none⟩) (.inl rfl) _) HH.out.ne, HH.out.row.fits, (HH.out.row.only.drewN _).setCell (p := ⟨sb, 0, none⟩) (.inr HH.out.new) _⟩, ?_, HH.out.new, HH.out.ne, by omega, by omega⟩
    simpa using (HH.out.cnt.drewN _).set (i := 0) (.int .i64 (s + 1))
  · have HLT := Lib.hid (show decide (v < u) = false from decide_eq_false hvu)
    go_enter Tryz.func144, Tryz.ntmps144
    go_wp2
    go_quiet ((go_at_call 131; exact Calls.quiet_of_same (lessq_u64 _ _ _)))
    rw [HLT.out]
    go_wp2
    go_ret2
    exact ⟨x, y, s, rfl, .inl ⟨rfl, rfl⟩, by omega, HH.out.row.drewN _, HH.out.cnt.drewN _, HH.out.new, HH.out.ne, hlo, hhi⟩
set_option maxHeartbeats 1000000 in
theorem srt_med_u64 {T : TypeId} {C0 : Array Value} {w0 w : World} {b cap x y z sb n : Nat} {s : Int} {d : Array Int} (h : RowC .u64 T C0 w0 b d sb s w) (hn : d.size = n) (hx : x < n) (hy : y < n) (hz : z < n) (hsz : n < 4611686018427387904) (hs : s ≤ 800) :
    Calls Tryz.prog 141 #[.slice (some ⟨b, 0, none⟩) n cap, .int .i64 x, .int .i64 y, .int .i64 z, .pointer (some ⟨sb, 0, none⟩)] w (Med .u64 T C0 w0 b d sb s x y z) := by
  have HH := Lib.hid h; have HN := Lib.hid hn
  clear h hn
  go_enter Tryz.func141, Tryz.ntmps141
  go_wp2_with fail
  refine (srt_ord_u64 HH.out HN.out hx hy hsz (by omega)).mono ?_
  rintro e1 w1 ⟨x1, y1, s1, rfl, h1, hs1, hR1⟩
  have H1 := Lib.hid hR1
  have hx1 : x1 < n := by omega
  have hy1 : y1 < n := by omega
  clear hR1
  go_wp2_with fail
  refine (srt_ord_u64 H1.out HN.out hy1 hz hsz (by omega)).mono ?_
  rintro e2 w2 ⟨x2, y2, s2, rfl, h2, hs2, hR2⟩
  have H2 := Lib.hid hR2
  have hx2 : x2 < n := by omega
  have hy2 : y2 < n := by omega
  clear hR2
  go_wp2_with fail
  refine (srt_ord_u64 H2.out HN.out hx1 hx2 hsz (by omega)).mono ?_
  rintro e3 w3 ⟨x3, y3, s3, rfl, h3, hs3, hR3⟩
  have H3 := Lib.hid hR3
  clear hR3
  have HF := Lib.hid (show y3 = x ∨ y3 = y ∨ y3 = z by omega)
  have HS := Lib.hid (show s3 ≤ s + 3 by omega)
  clear h1 h2 h3 hs1 hs2 hs3
  go_wp2
  go_ret
  exact ⟨y3, s3, rfl, HF.out, HS.out, H3.out⟩
set_option maxHeartbeats 1000000 in
theorem srt_adj_u64 {T : TypeId} {C0 : Array Value} {w0 w : World} {b cap x sb n : Nat} {s : Int} {d : Array Int} (h : RowC .u64 T C0 w0 b d sb s w) (hn : d.size = n) (hx0 : 0 < x) (hx : x + 1 < n) (hsz : n < 4611686018427387904) (hs : s ≤ 800) :
    Calls Tryz.prog 140 #[.slice (some ⟨b, 0, none⟩) n cap, .int .i64 x, .pointer (some ⟨sb, 0, none⟩)] w (Med .u64 T C0 w0 b d sb s (x - 1) x (x + 1)) := by
  obtain ⟨q, rfl⟩ : ∃ q, x = q + 1 := ⟨x - 1, by omega⟩
  have hm := srt_med_u64 (cap := cap) h hn (x := q) (y := q + 1) (z := q + 1 + 1) (by omega) (by omega) (by omega) hsz hs
  push_cast at hm
  have HM := Lib.hid hm
  clear hm
  have w5 := wrap_nat64 (k := q) (by omega)
  clear h hn
  go_enter Tryz.func140, Tryz.ntmps140
  go_wp2_with fail
  refine HM.out.mono ?_
  rintro e1 w1 ⟨x1, s1, rfl, h1, hs1, hR1⟩
  have H1 := Lib.hid hR1
  have HF := Lib.hid (show x1 = q + 1 - 1 ∨ x1 = q + 1 ∨ x1 = q + 1 + 1 by omega)
  have HS := Lib.hid hs1
  clear hR1 h1 hs1
  go_wp2
  go_ret
  exact ⟨x1, s1, rfl, HF.out, HS.out, H1.out⟩
set_option maxHeartbeats 4000000 in
theorem srt_piv_u64 {T : TypeId} {C0 : Array Value} {w0 w : World} {b cap x y n : Nat} {d : Array Int} (h : RowI .u64 T C0 w0 b d w) (hn : d.size = n) (hxy : x + 12 < y) (hy : y ≤ n) (hsz : n < 4611686018427387904) :
    Calls Tryz.prog 128 #[.slice (some ⟨b, 0, none⟩) n cap, .int .i64 x, .int .i64 y] w (Piv .u64 T C0 w0 b d x y) := by
  obtain ⟨l, rfl⟩ : ∃ l, y = x + l := ⟨y - x, by omega⟩
  have hb : Below w.heap.size w (w.alloc (.cells #[.int .i64 0] 3)) := below_a1 w _
  have HC := Lib.hid (show RowC .u64 T C0 w0 b d w.heap.size 0 (w.alloc (.cells #[.int .i64 0] 3)) from ⟨h.later hb, Box.new _ _ _, h.only.size, Nat.ne_of_lt h.lt, by omega, by omega⟩)
  have HN := Lib.hid hn
  have hl : 12 < l := by omega
  obtain ⟨i, hi⟩ : ∃ i, i = x + l / 4 := ⟨_, rfl⟩
  obtain ⟨j, hj⟩ : ∃ j, j = x + l / 4 * 2 := ⟨_, rfl⟩
  obtain ⟨k, hk⟩ : ∃ k, k = x + l / 4 * 3 := ⟨_, rfl⟩
  have e1 : ((x : Int) + (l : Int)) - (x : Int) = (l : Int) := by omega
  have ei : (x : Int) + (l : Int) / 4 * 1 = (i : Int) := by omega
  have ei2 : (x : Int) + (l : Int) / 4 = (i : Int) := by omega
  have ej : (x : Int) + (l : Int) / 4 * 2 = (j : Int) := by omega
  have ek : (x : Int) + (l : Int) / 4 * 3 = (k : Int) := by omega
  have HI := Lib.hid hi; have HJ := Lib.hid hj; have HK := Lib.hid hk
  clear h hn hb hi hj hk
  by_cases h50 : 50 ≤ l
  · go_enter Tryz.func128, Tryz.ntmps128
    go_wp2_with fail
    refine (srt_adj_u64 (cap := cap) HC.out HN.out (x := i) (by have := HI.out; have := HJ.out; have := HK.out; omega) (by have := HI.out; have := HJ.out; have := HK.out; omega) hsz (by omega)).mono ?_
    rintro e1 w1 ⟨x1, s1, rfl, h1, hs1, hR1⟩
    have H1 := Lib.hid hR1; have G1 := Lib.hid h1
    clear hR1 h1
    go_wp2_with fail
    refine (srt_adj_u64 (cap := cap) H1.out HN.out (x := j) (by have := HI.out; have := HJ.out; have := HK.out; omega) (by have := HI.out; have := HJ.out; have := HK.out; omega) hsz (by omega)).mono ?_
    rintro e2 w2 ⟨x2, s2, rfl, h2, hs2, hR2⟩
    have H2 := Lib.hid hR2; have G2 := Lib.hid h2
    clear hR2 h2
    go_wp2_with fail
    refine (srt_adj_u64 (cap := cap) H2.out HN.out (x := k) (by have := HI.out; have := HJ.out; have := HK.out; omega) (by have := HI.out; have := HJ.out; have := HK.out; omega) hsz (by omega)).mono ?_
    rintro e3 w3 ⟨x3, s3, rfl, h3, hs3, hR3⟩
    have H3 := Lib.hid hR3; have G3 := Lib.hid h3
    clear hR3 h3
    go_wp2_with fail
    have b1 := near3 G1.out (x := x) (l := l) (by have := HI.out; have := HJ.out; have := HK.out; omega) (by have := HI.out; have := HJ.out; have := HK.out; omega)
    have b2 := near3 G2.out (x := x) (l := l) (by have := HI.out; have := HJ.out; have := HK.out; omega) (by have := HI.out; have := HJ.out; have := HK.out; omega)
    have b3 := near3 G3.out (x := x) (l := l) (by have := HI.out; have := HJ.out; have := HK.out; omega) (by have := HI.out; have := HJ.out; have := HK.out; omega)
    refine (srt_med_u64 (cap := cap) H3.out HN.out (x := x1) (y := x2) (z := x3) (by omega) (by omega) (by omega) hsz (by omega)).mono ?_
    rintro e4 w4 ⟨x4, s4, rfl, h4, hs4, hR4⟩
    have H4 := Lib.hid hR4
    have HB := Lib.hid (pick3 h4 b1 b2 b3)
    have cs := hR4.cnt.cell; have zs := hR4.cnt.lt
    clear hR4 h4 b1 b2 b3 hs1 hs2 hs3 hs4 e1 ei ei2 ej ek
    by_cases q0 : s4 = 0
    · subst q0
      go_wp2
      go_ret2
      exact ⟨x4, 1, rfl, HB.out.1, HB.out.2, by omega, by omega, H4.out.row⟩
    · have q0' : (s4 == 0) = false := by rw [beq_eq_false_iff_ne]; exact q0
      by_cases q12 : s4 = 12
      · subst q12
        go_wp2
        go_ret2
        exact ⟨x4, 2, rfl, HB.out.1, HB.out.2, by omega, by omega, H4.out.row⟩
      · have q12' : (s4 == 12) = false := by rw [beq_eq_false_iff_ne]; exact q12
        go_wp2
        go_ret2
        exact ⟨x4, 0, rfl, HB.out.1, HB.out.2, by omega, by omega, H4.out.row⟩
  · go_enter Tryz.func128, Tryz.ntmps128
    go_wp2_with fail
    refine (srt_med_u64 (cap := cap) HC.out HN.out (x := i) (y := j) (z := k) (by have := HI.out; have := HJ.out; have := HK.out; omega) (by have := HI.out; have := HJ.out; have := HK.out; omega) (by have := HI.out; have := HJ.out; have := HK.out; omega) hsz (by omega)).mono ?_
    rintro e4 w4 ⟨x4, s4, rfl, h4, hs4, hR4⟩
    have H4 := Lib.hid hR4
    have HB := Lib.hid (pick3 h4 (x := x) (l := l) (by have := HI.out; have := HJ.out; have := HK.out; omega) (by have := HI.out; have := HJ.out; have := HK.out; omega) (by have := HI.out; have := HJ.out; have := HK.out; omega))
    have cs := hR4.cnt.cell; have zs := hR4.cnt.lt
    clear hR4 h4 hs4 e1 ei ei2 ej ek
    by_cases q0 : s4 = 0
    · subst q0
      go_wp2
      go_ret2
      exact ⟨x4, 1, rfl, HB.out.1, HB.out.2, by omega, by omega, H4.out.row⟩
    · have q0' : (s4 == 0) = false := by rw [beq_eq_false_iff_ne]; exact q0
      by_cases q12 : s4 = 12
      · subst q12
        go_wp2
        go_ret2
        exact ⟨x4, 2, rfl, HB.out.1, HB.out.2, by omega, by omega, H4.out.row⟩
      · have q12' : (s4 == 12) = false := by rw [beq_eq_false_iff_ne]; exact q12
        go_wp2
        go_ret2
        exact ⟨x4, 0, rfl, HB.out.1, HB.out.2, by omega, by omega, H4.out.row⟩
end Go.Proofs.YtdpamikobmefeaaGreat

namespace Go.Proofs.YtdpamikobmefeaaGreat
open Go.RowKit Go.Sort
set_option maxRecDepth 100000
set_option linter.unusedVariables false
set_option linter.unusedSimpArgs false

/-- The row, its places from x to y permuted. -/
def Prm (k : IntKind) (T : TypeId) (C0 : Array Value) (w0 : World) (b : Nat) (d : Array Int) (x y : Nat) (w : World) : Prop := ∃ d', PermIn x y d d' ∧ RowI k T C0 w0 b d' w
theorem prm_swap {x y i j : Nat} {d dk : Array Int} (h : PermIn x y d dk) (hi : x ≤ i) (hi2 : i < y) (hj : x ≤ j) (hj2 : j < y) (hy : y ≤ d.size) : PermIn x y d (swp dk i j) :=
  permIn_trans _ _ _ _ _ h (swp_permIn dk x y i j hi hi2 hj hj2 (by rw [h.1]; exact hy))

set_option maxHeartbeats 1000000 in
theorem srt_rev_u64 {T : TypeId} {C0 : Array Value} {w0 w : World} {b cap x y n : Nat} {d : Array Int} (h : RowI .u64 T C0 w0 b d w) (hn : d.size = n) (hxy : x < y) (hy : y ≤ n) (hsz : n < 4611686018427387904) :
    Calls Tryz.prog 129 #[.slice (some ⟨b, 0, none⟩) n cap, .int .i64 x, .int .i64 y] w fun e w' => e = .returned (.tuple #[]) ∧ Prm .u64 T C0 w0 b d x y w' := by
  obtain ⟨z, rfl⟩ : ∃ z, y = z + 1 := ⟨y - 1, by omega⟩
  have HH := Lib.hid h; have HN := Lib.hid hn
  have w5 := wrap_nat64 (k := z) (by omega)
  clear h hn
  go_enter Tryz.func129, Tryz.ntmps129
  go_wp2
  go_loopw [6, 7] (fun s6 s7 wr => ∃ (i j : Nat) (dk : Array Int), s6 = .int .i64 i ∧ s7 = .int .i64 j ∧ x ≤ i ∧ j ≤ z ∧ i ≤ j + 1 ∧ dk.size = n ∧ PermIn x (z + 1) d dk ∧ RowI .u64 T C0 w0 b dk wr) (fun i j _ => (intOf j).toNat + 1 - (intOf i).toNat)
  case atStart => exact ⟨x, z, d, rfl, by go_num, Nat.le_refl _, Nat.le_refl _, by omega, HN.out, permIn_refl _ _ _, HH.out⟩
  case round =>
    obtain ⟨i, j, dk, rfl, rfl, hxi, hjz, hij, hk, hP, hR⟩ := hrel
    have HP := Lib.hid hP; have HR := Lib.hid hR; have HK := Lib.hid hk
    clear hP hR hk
    by_cases hlt : i < j
    · obtain ⟨q, rfl⟩ : ∃ q, j = q + 1 := ⟨j - 1, by omega⟩
      have c1 := HR.out.cell (i := i) (by have := HK.out; omega)
      have c2 := HR.out.cell (i := q + 1) (by have := HK.out; omega)
      have fz := HR.out.free
      have zb := HR.out.lt
      have q1 : (i : Int) < (n : Int) := by omega
      have q2 : (q : Int) + 1 < (n : Int) := by omega
      have q3 : ((q : Int) + 1).toNat = q + 1 := by omega
      have q4 : IntKind.i64.wrap ((q : Int) + 1) = (q : Int) + 1 := by rw [show ((q : Int) + 1) = ((q + 1 : Nat) : Int) by omega]; exact wrap_nat64 (by omega)
      have q5 := wrap_nat64 (k := q) (by omega)
      have S := HR.out.swap (i := i) (j := q + 1) (by have := HK.out; omega) (by have := HK.out; omega)
      generalize hu : dk[i]! = u at *
      generalize hv : dk[q + 1]! = v at *
      have HS := Lib.hid S
      clear S hu hv
      go_wp2
      go_region
      have HR2 := Lib.hid HS.out.drew
      have HP2 := Lib.hid (prm_swap HP.out (i := i) (j := q + 1) hxi (by omega) (by omega) (by omega) (by have := HN.out; omega))
      clear c1 c2 fz zb
      go_wp2
      go_roundw
      case rel => exact ⟨i + 1, q, swp dk i (q + 1), by go_num, by go_num, by omega, by omega, by omega, by rw [size_swp']; exact HK.out, HP2.out, HR2.out⟩
      case measure => simp [intOf]; omega
    · go_wp2
      go_end0
      exact ⟨rfl, dk, HP.out, HR.out⟩
end Go.Proofs.YtdpamikobmefeaaGreat

namespace Go.Proofs.YtdpamikobmefeaaGreat
open Go.Shelf Go.RowKit Go.Lib Go.Sort
set_option maxRecDepth 100000
set_option linter.unusedVariables false
def srtPow_ren : Go.Shelf.Ren := ⟨fun | 15 => 121 | 28 => 134 | 29 => 135 | 47 => 138 | 48 => 139 | n => n, fun | 3 => 3 | 4 => 4 | 5 => 5 | 9 => 9 | 39 => 31 | 53 => 27 | 55 => 50 | 0 => 0 | 66 => 206 | 76 => 212 | n => n, fun | n => n⟩
theorem srtPow : Go.Proofs.SlLaysF0.n47 Tryz.prog srtPow_ren := {
  mixed := by kernel_rfl
  f15 := Tryz.func121.trans (congrArg some (by kernel_rfl))
  f28 := Tryz.func134.trans (congrArg some (by kernel_rfl))
  f29 := Tryz.func135.trans (congrArg some (by kernel_rfl))
  f47 := Tryz.func138.trans (congrArg some (by kernel_rfl))
  t3 := Tryz.underlying3
  a3 := Tryz.isAgg3
  z3 := Tryz.sizeOf3
  v3 := Tryz.zeroValue3
  t4 := Tryz.underlying4
  a4 := Tryz.isAgg4
  z4 := Tryz.sizeOf4
  v4 := Tryz.zeroValue4
  t5 := Tryz.underlying5
  a5 := Tryz.isAgg5
  z5 := Tryz.sizeOf5
  v5 := Tryz.zeroValue5
  t9 := Tryz.underlying9
  a9 := Tryz.isAgg9
  z9 := Tryz.sizeOf9
  v9 := Tryz.zeroValue9
  t39 := Tryz.underlying31
  a39 := Tryz.isAgg31
  z39 := Tryz.sizeOf31
  v39 := Tryz.zeroValue31
  t53 := Tryz.underlying27
  a53 := Tryz.isAgg27
  z53 := Tryz.sizeOf27
  v53 := Tryz.zeroValue27
  t55 := Tryz.underlying50
  a55 := Tryz.isAgg50
  z55 := Tryz.sizeOf50
  v55 := Tryz.zeroValue50 }
def srtXor_ren : Go.Shelf.Ren := ⟨fun | 15 => 121 | 28 => 134 | 29 => 135 | 47 => 138 | 48 => 139 | n => n, fun | 3 => 3 | 4 => 4 | 5 => 5 | 9 => 9 | 39 => 31 | 53 => 27 | 55 => 50 | 0 => 0 | 66 => 206 | 76 => 212 | n => n, fun | n => n⟩
theorem srtXor : Go.Proofs.SlLaysF0.n48 Tryz.prog srtXor_ren := {
  mixed := by kernel_rfl
  f48 := Tryz.func139.trans (congrArg some (by kernel_rfl))
  t0 := Tryz.underlying0
  a0 := Tryz.isAgg0
  z0 := Tryz.sizeOf0
  v0 := Tryz.zeroValue0
  t39 := Tryz.underlying31
  a39 := Tryz.isAgg31
  z39 := Tryz.sizeOf31
  v39 := Tryz.zeroValue31
  t55 := Tryz.underlying50
  a55 := Tryz.isAgg50
  z55 := Tryz.sizeOf50
  v55 := Tryz.zeroValue50
  t66 := Tryz.underlying206
  a66 := Tryz.isAgg206
  z66 := Tryz.sizeOf206
  v66 := Tryz.zeroValue206
  t76 := Tryz.underlying212
  a76 := Tryz.isAgg212
  z76 := Tryz.sizeOf212
  v76 := Tryz.zeroValue212 }
def srtLen_ren : Go.Shelf.Ren := ⟨fun | 15 => 121 | 28 => 134 | 29 => 135 | 47 => 138 | 48 => 139 | n => n, fun | 3 => 3 | 4 => 4 | 5 => 5 | 9 => 9 | 39 => 31 | 53 => 27 | 55 => 50 | 0 => 0 | 66 => 206 | 76 => 212 | n => n, fun | n => n⟩
theorem srtLen : Go.Proofs.SlLaysF0.n15 Tryz.prog srtLen_ren := {
  mixed := by kernel_rfl
  f15 := Tryz.func121.trans (congrArg some (by kernel_rfl))
  f28 := Tryz.func134.trans (congrArg some (by kernel_rfl))
  f29 := Tryz.func135.trans (congrArg some (by kernel_rfl))
  t3 := Tryz.underlying3
  a3 := Tryz.isAgg3
  z3 := Tryz.sizeOf3
  v3 := Tryz.zeroValue3
  t4 := Tryz.underlying4
  a4 := Tryz.isAgg4
  z4 := Tryz.sizeOf4
  v4 := Tryz.zeroValue4
  t5 := Tryz.underlying5
  a5 := Tryz.isAgg5
  z5 := Tryz.sizeOf5
  v5 := Tryz.zeroValue5
  t9 := Tryz.underlying9
  a9 := Tryz.isAgg9
  z9 := Tryz.sizeOf9
  v9 := Tryz.zeroValue9
  t39 := Tryz.underlying31
  a39 := Tryz.isAgg31
  z39 := Tryz.sizeOf31
  v39 := Tryz.zeroValue31
  t53 := Tryz.underlying27
  a53 := Tryz.isAgg27
  z53 := Tryz.sizeOf27
  v53 := Tryz.zeroValue27
  t55 := Tryz.underlying50
  a55 := Tryz.isAgg50
  z55 := Tryz.sizeOf50
  v55 := Tryz.zeroValue50 }
theorem xor_next (rb X : Nat) (hX : X < 18446744073709551616) (w : World) (h : Box w rb #[.int .u64 X]) :
    Calls Tryz.prog 139 #[.pointer (some ⟨rb, 0, none⟩)] w fun e w' => ∃ Y : Nat, Y < 18446744073709551616 ∧ e = .returned (.int .u64 (Y : Int)) ∧ Only (· = rb) w w' ∧ Box w' rb #[.int .u64 (Y : Int)] := by
  have hc : w.cell? ⟨rb, 0, none⟩ = some (.int .u64 X) := by rw [h.cell]; rfl
  refine (AnyF.xorshift_Next srtXor rb 0 X hX w hc (h.free 0)).mono ?_
  rintro e w' ⟨he, rfl⟩
  refine ⟨_, ?_, he, ((Only.refl (· = rb) w).setCell (p := ⟨rb, 0, none⟩) (.inl rfl) _).drewN 3, ?_⟩
  · exact xorNextN_lt X hX
  · have := h.set (i := 0) (.int .u64 (xorNextN X : Nat))
    simpa using this.drewN 3
theorem pow_next (n : Nat) (h0 : 0 < n) (hn : n < 4611686018427387904) (w : World) :
    Calls Tryz.prog 138 #[.int .i64 n] w fun e w' => ∃ m : Nat, n < m ∧ m ≤ 2 * n ∧ e = .returned (.int .u64 (m : Int)) ∧ w = w' := by
  refine (AnyF.nextPowerOfTwo srtPow n hn w).mono ?_
  rintro e w' ⟨he, rfl⟩
  refine ⟨1 <<< bitsLen n, ?_, ?_, he, rfl⟩
  · rw [Nat.one_shiftLeft, bitsLen, if_neg (by omega)]
    exact Nat.lt_log2_self
  · rw [Nat.one_shiftLeft, bitsLen, if_neg (by omega), Nat.pow_succ, Nat.mul_comm]
    exact Nat.mul_le_mul_left 2 (Nat.log2_self_le (by omega))
theorem bitLenAux_le : ∀ f x, bitLenAux f x ≤ f
  | 0, _ => Nat.le_refl _
  | f + 1, x => by
    unfold bitLenAux
    split
    · omega
    · have := bitLenAux_le f (x / 2); omega
theorem bitLen_le (x : Nat) : Lib.bitLen x ≤ 64 := bitLenAux_le 64 x
theorem bits_len (n : Nat) (hn : n < 4611686018427387904) (w : World) :
    Calls Tryz.prog 121 #[.int .u64 n] w fun e w' => ∃ m : Nat, m ≤ 64 ∧ e = .returned (.int .i64 (m : Int)) ∧ w = w' := by
  have h := Any.bits_Len (SlLaysF0.n15.bits srtLen) (n : Int) w (by omega) (by omega)
  refine h.mono ?_
  rintro e w' ⟨he, rfl⟩
  exact ⟨_, bitLen_le _, he, rfl⟩
theorem and_mask {Y m : Nat} (hY : Y < 18446744073709551616) (h0 : 0 < m) (hm : m < 9223372036854775808) : ∃ t : Nat, t < m ∧ bits .and .u64 (Y : Int) ((m : Int) - 1) = (t : Int) := by
  refine ⟨Y &&& (m - 1), ?_, ?_⟩
  · have := Nat.and_le_right (n := Y) (m := m - 1)
    omega
  · rw [show ((m : Int) - 1) = ((m - 1 : Nat) : Int) by omega, bits_and_u64_nat _ _ hY (by omega)]
end Go.Proofs.YtdpamikobmefeaaGreat

namespace Go.Proofs.YtdpamikobmefeaaGreat
open Go.RowKit Go.Sort
set_option maxRecDepth 100000
set_option linter.unusedVariables false
set_option linter.unusedSimpArgs false

theorem wrap_nat_u64 {k : Nat} (h : k < 18446744073709551616) : IntKind.u64.wrap (k : Int) = k := by
  simp [IntKind.wrap, IntKind.bits, IntKind.signed]; omega
set_option maxHeartbeats 4000000 in
theorem srt_brk_u64 {T : TypeId} {C0 : Array Value} {w0 w : World} {b cap x y n : Nat} {d : Array Int} (h : RowI .u64 T C0 w0 b d w) (hn : d.size = n) (hxy : x + 12 < y) (hy : y ≤ n) (hsz : n < 4611686018427387904) :
    Calls Tryz.prog 127 #[.slice (some ⟨b, 0, none⟩) n cap, .int .i64 x, .int .i64 y] w fun e w' => e = .returned (.tuple #[]) ∧ Prm .u64 T C0 w0 b d x y w' := by
  obtain ⟨l, rfl⟩ : ∃ l, y = x + l := ⟨y - x, by omega⟩
  have HH := Lib.hid h; have HN := Lib.hid hn
  obtain ⟨g, hg⟩ : ∃ g, g = x + l / 4 * 2 := ⟨_, rfl⟩
  have HG := Lib.hid hg
  have e1 : ((x : Int) + (l : Int)) - (x : Int) = (l : Int) := by omega
  have eg : (x : Int) + (l : Int) / 4 * 2 = (g : Int) := by omega
  have g1 : 5 ≤ g := by omega
  have g2 : g + 1 < x + l := by omega
  have g3 : x + 1 ≤ g := by omega
  have wl : IntKind.u64.wrap (l : Int) = (l : Int) := wrap_nat_u64 (by omega)
  have hb : Below w.heap.size w (w.alloc (.cells #[.int .u64 l] 206)) := below_a1 w _
  have HH2 := Lib.hid (h.later hb)
  have HX2 := Lib.hid (Box.new w #[.int .u64 l] 206)
  have HRB := Lib.hid h.only.size
  have HRN := Lib.hid (Nat.ne_of_lt h.lt)
  clear h hn hg hb
  go_enter Tryz.func127, Tryz.ntmps127
  go_upto_region 5 with (go_at_call 138; go_loud ((with_reducible refine (pow_next l (by omega) (by omega) _).mono ?_); rintro e2 w2 ⟨m, hm1, hm2, rfl, rfl⟩))
  generalize w.heap.size = rb at *
  generalize w.alloc (.cells #[.int .u64 l] 206) = wa at HH2 HX2 ⊢
  go_loopw [9] (fun s9 wr => ∃ (i : Nat) (dk : Array Int) (X : Nat), s9 = .int .i64 i ∧ x ≤ i ∧ i ≤ g + 2 ∧ dk.size = n ∧ PermIn x (x + l) d dk ∧ RowI .u64 T C0 w0 b dk wr ∧ Box wr rb #[.int .u64 X] ∧ X < 18446744073709551616) (fun i _ => g + 2 - (intOf i).toNat)
  case atStart => exact ⟨g - 1, d, l, by congr 1; omega, by omega, by omega, HN.out, permIn_refl _ _ _, HH2.out, HX2.out, by omega⟩
  case round =>
    obtain ⟨i, dk, X, rfl, hxi, hig, hk, hP, hR, hB, hX⟩ := hrel
    have HP := Lib.hid hP; have HR := Lib.hid hR; have HK := Lib.hid hk; have HBX := Lib.hid hB
    clear hP hR hk hB
    by_cases hlt : i ≤ g + 1
    · have hltz : (i : Int) ≤ (g : Int) + 1 := by omega
      go_upto_region 8 with (go_at_call 139; go_loud ((with_reducible refine (xor_next rb X hX _ HBX.out).mono ?_); rintro e3 w3 ⟨Y, hY, rfl, ho3, hx3⟩; obtain ⟨t, ht, hand⟩ := and_mask hY (show 0 < m by omega) (by omega); have hwt := wrap_nat64 (k := t) (by omega); have HR3 := Lib.hid (HR.out.besides ho3 HRN.out (fun i hi => by rw [hi]; exact HRB.out)); have HX3 := Lib.hid hx3; clear ho3 hx3))
      have HAND := Lib.hid hand
      clear hand
      obtain ⟨o, ho, hcase⟩ : ∃ o, o < l ∧ (o = t ∨ l + o = t) := by
        by_cases htl : t < l
        · exact ⟨t, htl, .inl rfl⟩
        · exact ⟨t - l, by omega, .inr (by omega)⟩
      have e4 : ((l : Int) + (o : Int)) - (l : Int) = (o : Int) := by omega
      rcases hcase with hot | hot
      all_goals
        subst hot
        go_upto_region 10 with fail
        have c1 := HR3.out.cell (i := i) (by have := HK.out; omega)
        have c2 := HR3.out.cell (i := x + o) (by have := HK.out; omega)
        have fz := HR3.out.free
        have zb := HR3.out.lt
        have q1 : (i : Int) < (n : Int) := by omega
        have q2 : (x : Int) + (o : Int) < (n : Int) := by omega
        have q3 : ((x : Int) + (o : Int)).toNat = x + o := by omega
        have q4 : IntKind.i64.wrap ((x : Int) + (o : Int)) = (x : Int) + (o : Int) := by rw [show ((x : Int) + (o : Int)) = ((x + o : Nat) : Int) by omega]; exact wrap_nat64 (by omega)
        have S := HR3.out.swap (i := i) (j := x + o) (by have := HK.out; omega) (by have := HK.out; omega)
        obtain ⟨z, hz⟩ := HR3.out.second (i := i) (j := x + o) (by have := HK.out; omega) (by have := HK.out; omega) dk[x + o]!
        generalize hu : dk[i]! = u at *
        generalize hv : dk[x + o]! = v at *
        have HS := Lib.hid S
        clear S hu hv
        go_region
        have HS2 := Lib.hid HS.out.drew
        have HX4 := Lib.hid (show Box ((w3.setCell ⟨b, i, none⟩ (.int .u64 v)).setCell ⟨b, x + o, none⟩ (.int .u64 u)).drew rb #[.int .u64 Y] from ((HX3.out.setOther (a := ⟨b, i, none⟩) (fun e => HRN.out e.symm) _).setOther (a := ⟨b, x + o, none⟩) (fun e => HRN.out e.symm) _).drew)
        have HP2 := Lib.hid (prm_swap HP.out (i := i) (j := x + o) hxi (by omega) (by omega) (by omega) (by have := HN.out; omega))
        clear c1 c2 fz zb hz
        go_wp2
        go_roundw
        case rel => exact ⟨i + 1, swp dk i (x + o), Y, by go_num, by omega, by omega, by rw [size_swp']; exact HK.out, HP2.out, HS2.out, HX4.out, hY⟩
        case measure => simp [intOf]; omega
    · go_wp2
      go_end0
      exact ⟨rfl, dk, HP.out, HR.out⟩
end Go.Proofs.YtdpamikobmefeaaGreat

namespace Go.Proofs.YtdpamikobmefeaaGreat
open Go.RowKit Go.Sort
set_option maxRecDepth 100000
set_option linter.unusedVariables false
set_option linter.unusedSimpArgs false

theorem sift_stop {hi f r : Nat} {d : Array Int} (h : hi ≤ 2 * r + 1) : siftDown ltInt hi f r d = d := by
  unfold siftDown; rw [dif_pos h]
theorem sift_two {hi f r : Nat} {d : Array Int} (h : 2 * r + 2 < hi) (hl : d[f + (2 * r + 1)]! < d[f + (2 * r + 2)]!) :
    siftDown ltInt hi f r d = if d[f + r]! < d[f + (2 * r + 2)]! then siftDown ltInt hi f (2 * r + 2) (swp d (f + r) (f + (2 * r + 2))) else d := by
  conv => lhs; unfold siftDown
  rw [dif_neg (by omega), if_pos (by simp [ltInt]; exact ⟨by omega, hl⟩)]
  by_cases h2 : d[f + r]! < d[f + (2 * r + 2)]!
  · rw [if_neg (by simp [ltInt, h2]), dif_pos h, if_pos h2]
  · rw [if_pos (by simp [ltInt]; omega), if_neg h2]
theorem sift_one {hi f r : Nat} {d : Array Int} (h0 : 2 * r + 1 < hi) (h : ¬ (2 * r + 2 < hi ∧ d[f + (2 * r + 1)]! < d[f + (2 * r + 2)]!)) :
    siftDown ltInt hi f r d = if d[f + r]! < d[f + (2 * r + 1)]! then siftDown ltInt hi f (2 * r + 1) (swp d (f + r) (f + (2 * r + 1))) else d := by
  conv => lhs; unfold siftDown
  rw [dif_neg (by omega), if_neg (by simp only [ltInt, Bool.and_eq_true, decide_eq_true_eq]; exact h)]
  by_cases h2 : d[f + r]! < d[f + (2 * r + 1)]!
  · rw [if_neg (by simp [ltInt, h2]), if_pos h2]
  · rw [if_pos (by simp [ltInt]; omega), if_neg h2]

theorem size_siftDown (hi F root : Nat) (d : Array Int) : (siftDown ltInt hi F root d).size = d.size := by
  have key : ∀ n root (d : Array Int), hi - root ≤ n → (siftDown ltInt hi F root d).size = d.size := by
    intro n
    induction n with
    | zero => intro root d h; rw [sift_stop (by omega)]
    | succ n ih =>
      intro root d h
      by_cases h0 : hi ≤ 2 * root + 1
      · rw [sift_stop h0]
      · by_cases h2 : 2 * root + 2 < hi ∧ d[F + (2 * root + 1)]! < d[F + (2 * root + 2)]!
        · rw [sift_two h2.1 h2.2]
          split
          · rw [ih _ _ (by omega), size_swp']
          · rfl
        · rw [sift_one (by omega) h2]
          split
          · rw [ih _ _ (by omega), size_swp']
          · rfl
  exact key _ root d (Nat.le_refl _)
set_option maxHeartbeats 4000000 in
theorem srt_sift_u64 {T : TypeId} {C0 : Array Value} {w0 w : World} {b cap lo hi f n : Nat} {d : Array Int} (h : RowI .u64 T C0 w0 b d w) (hn : d.size = n) (hlo : lo ≤ hi) (hf : f + hi ≤ n) (hsz : n < 4611686018427387904) :
    Calls Tryz.prog 137 #[.slice (some ⟨b, 0, none⟩) n cap, .int .i64 lo, .int .i64 hi, .int .i64 f] w fun e w' => e = .returned (.tuple #[]) ∧ RowI .u64 T C0 w0 b (siftDown ltInt hi f lo d) w' := by
  have HH := Lib.hid h; have HN := Lib.hid hn
  clear h hn
  go_enter Tryz.func137, Tryz.ntmps137
  go_wp2
  go_loopw [8] (fun s wr => ∃ (r : Nat) (dk : Array Int), s = .int .i64 r ∧ r ≤ hi ∧ dk.size = n ∧ RowI .u64 T C0 w0 b dk wr ∧ siftDown ltInt hi f r dk = siftDown ltInt hi f lo d) (fun r _ => hi - (intOf r).toNat)
  case atStart => exact ⟨lo, d, rfl, hlo, HN.out, HH.out, rfl⟩
  case round =>
    obtain ⟨r, dk, rfl, hr, hk, hR, hE⟩ := hrel
    have HR := Lib.hid hR; have HE := Lib.hid hE; have HK := Lib.hid hk
    clear hR hE hk
    obtain ⟨c1, hc1⟩ : ∃ c1, c1 = 2 * r + 1 := ⟨_, rfl⟩
    obtain ⟨c2, hc2⟩ : ∃ c2, c2 = 2 * r + 2 := ⟨_, rfl⟩
    have E1 : 2 * (r : Int) + 1 = (c1 : Int) := by omega
    have E2 : (c1 : Int) + 1 = (c2 : Int) := by omega
    have HC1 := Lib.hid hc1; have HC2 := Lib.hid hc2
    by_cases hA : hi ≤ c1
    · have HO := Lib.hid (show dk = siftDown ltInt hi f lo d by rw [← HE.out, sift_stop (by omega)])
      clear hc1 hc2
      go_wp2
      go_end0
      rw [← HO.out]
      exact ⟨rfl, HR.out⟩
    · obtain ⟨a, ha⟩ : ∃ a, a = f + r := ⟨_, rfl⟩
      obtain ⟨e1, he1⟩ : ∃ e1, e1 = f + c1 := ⟨_, rfl⟩
      obtain ⟨e2, he2⟩ : ∃ e2, e2 = f + c2 := ⟨_, rfl⟩
      have A1 : (f : Int) + (r : Int) = (a : Int) := by omega
      have F1 : (f : Int) + (c1 : Int) = (e1 : Int) := by omega
      have F2 : (f : Int) + (c2 : Int) = (e2 : Int) := by omega
      have F3 : (e1 : Int) + 1 = (e2 : Int) := by omega
      have hba : a < n := by omega
      have hb1 : e1 < n := by omega
      have hcc1 : c1 < hi := by omega
      have hrc1 : r < c1 := by omega
      have hrc2 : r < c2 := by omega
      have HA := Lib.hid ha; have HE1 := Lib.hid he1; have HE2 := Lib.hid he2
      have hb2 : c2 < hi → e2 < n := by omega
      have HB2 := Lib.hid hb2
      clear hc1 hc2 ha he1 he2 hb2
      have ca := HR.out.cell (i := a) (by have := HK.out; omega)
      have cc1 := HR.out.cell (i := e1) (by have := HK.out; omega)
      have hcases : ∃ c e, ((c = c2 ∧ e = e2 ∧ c2 < hi ∧ dk[e1]! < dk[e2]!) ∨ (c = c1 ∧ e = e1 ∧ c2 < hi ∧ ¬ dk[e1]! < dk[e2]!) ∨ (c = c1 ∧ e = e1 ∧ ¬ c2 < hi)) := by
        by_cases h2 : c2 < hi
        · by_cases hl : dk[e1]! < dk[e2]!
          · exact ⟨c2, e2, .inl ⟨rfl, rfl, h2, hl⟩⟩
          · exact ⟨c1, e1, .inr (.inl ⟨rfl, rfl, h2, hl⟩)⟩
        · exact ⟨c1, e1, .inr (.inr ⟨rfl, rfl, h2⟩)⟩
      obtain ⟨c, e, hcases⟩ := hcases
      have STEP : Hid (siftDown ltInt hi f r dk = (if dk[a]! < dk[e]! then siftDown ltInt hi f c (swp dk a e) else dk) ∧ r < c ∧ c < hi ∧ e < n) := by
        have q1 := HC1.out; have q2 := HC2.out; have q3 := HA.out; have q4 := HE1.out; have q5 := HE2.out
        rcases hcases with ⟨rfl, rfl, h2, hl⟩ | ⟨rfl, rfl, h2, hl⟩ | ⟨rfl, rfl, h2⟩
        · refine ⟨?_, hrc2, h2, HB2.out h2⟩
          rw [q3, q5, q2]
          exact sift_two (by omega) (by rw [q4, q5, q1, q2] at hl; exact hl)
        · refine ⟨?_, hrc1, hcc1, hb1⟩
          rw [q3, q4, q1]
          exact sift_one (by omega) (fun h => hl (by rw [q4, q5, q1, q2]; exact h.2))
        · refine ⟨?_, hrc1, hcc1, hb1⟩
          rw [q3, q4, q1]
          exact sift_one (by omega) (fun h => h2 (by omega))
      have TWO : Hid (c2 < hi → wr.cell? ⟨b, e2, none⟩ = some (.int .u64 dk[e2]!)) := fun h => HR.out.cell (by have := HK.out; have := HB2.out h; omega)
      rcases hcases with ⟨hc, he, h2, hl⟩ | ⟨hc, he, h2, hl⟩ | ⟨hc, he, h2⟩
      all_goals
        (first | (have HL := Lib.hid (decide_eq_false hl)) | (have HL := Lib.hid (decide_eq_true hl)) | (have HL := Lib.hid (show (0 : Nat) = 0 from rfl)))
        (try have ce2 := TWO.out h2)
        subst hc
        subst he
        (try clear hl)
        have hen := STEP.out.2.2.2
        have hch := STEP.out.2.2.1
        have hrc := STEP.out.2.1
        clear TWO
        go_upto_region 3 with fail
        (first | (go_quiet ((go_at_call 131; exact Calls.quiet_of_same (lessq_u64 _ _ _))); rw [HL.out]) | go_quiet (fail))
        go_upto_region 5 with fail
      all_goals
        refine wp_abs (fun wx => RowI .u64 T C0 w0 b dk wx) (by first | exact HR.out | exact HR.out.drewN _) ?_
        intro wx Rx
        have HX := Lib.hid Rx
        have ka := Rx.cell (i := a) (by have := HK.out; omega)
        have ke := Rx.cell (i := e) (by have := HK.out; omega)
        have STP := Lib.hid STEP.out.1
        have HSW := Lib.hid (fun (wy : World) (Ry : RowI .u64 T C0 w0 b dk wy) => (⟨Ry.cell (i := a) (by have := HK.out; omega), Ry.cell (i := e) (by have := HK.out; omega), Ry.swap (i := a) (j := e) (by have := HK.out; omega) (by have := HK.out; omega)⟩ : _ ∧ _ ∧ _))
        have fz := Rx.free
        have zb := Rx.lt
        clear ca cc1 Rx
        (try clear ce2)
        generalize hu : dk[a]! = u at *
        generalize hv : dk[e]! = v at *
        clear hu hv
        by_cases huv : u < v
        · have HLT := Lib.hid (show decide (u < v) = true from decide_eq_true huv)
          have HS := Lib.hid (show siftDown ltInt hi f c (swp dk a e) = siftDown ltInt hi f lo d by rw [← HE.out, STP.out, if_pos huv])
          clear STEP STP huv
          go_quiet ((go_at_call 131; exact Calls.quiet_of_same (lessq_u64 _ _ _)))
          rw [HLT.out]
          go_upto_region 6 with fail
          refine wp_abs (fun wy => RowI .u64 T C0 w0 b dk wy) (HX.out.drewN _) ?_
          intro wy Ry
          have HY := Lib.hid Ry
          obtain ⟨k1, k2, k3⟩ := HSW.out wy Ry
          have HS3 := Lib.hid k3
          have fy := Ry.free
          have zy := Ry.lt
          clear ka ke fz zb k3 Ry
          go_region
          have HS4 := Lib.hid HS3.out.drew
          clear k1 k2 fy zy
          go_wp2
          go_roundw
          case rel => exact ⟨c, swp dk a e, by go_num, by omega, by rw [size_swp']; exact HK.out, HS4.out, HS.out⟩
          case measure => simp [intOf]; omega
        · have HLT := Lib.hid (show decide (u < v) = false from decide_eq_false huv)
          have HS := Lib.hid (show dk = siftDown ltInt hi f lo d by rw [← HE.out, STP.out, if_neg huv])
          clear STEP STP huv
          go_quiet ((go_at_call 131; exact Calls.quiet_of_same (lessq_u64 _ _ _)))
          rw [HLT.out]
          go_wp2
          (try simp only [Exit.inBlock, Exit.then]); refine bodyPost_ret (results_none rfl _ _ _) rfl ?_
          rw [← HS.out]
          exact ⟨rfl, HX.out.drewN _⟩
theorem srt_sift0_u64 {T : TypeId} {C0 : Array Value} {w0 w : World} {b cap hi f n : Nat} {d : Array Int} (h : RowI .u64 T C0 w0 b d w) (hn : d.size = n) (hf : f + hi ≤ n) (hsz : n < 4611686018427387904) :
    Calls Tryz.prog 137 #[.slice (some ⟨b, 0, none⟩) n cap, .int .i64 0, .int .i64 hi, .int .i64 f] w fun e w' => e = .returned (.tuple #[]) ∧ RowI .u64 T C0 w0 b (siftDown ltInt hi f 0 d) w' :=
  srt_sift_u64 (lo := 0) h hn (Nat.zero_le _) hf hsz
set_option maxHeartbeats 4000000 in
theorem srt_heap_u64 {T : TypeId} {C0 : Array Value} {w0 w : World} {b cap x y n : Nat} {d : Array Int} (h : RowI .u64 T C0 w0 b d w) (hn : d.size = n) (hxy : x < y) (hy : y ≤ n) (hsz : n < 4611686018427387904) :
    Calls Tryz.prog 126 #[.slice (some ⟨b, 0, none⟩) n cap, .int .i64 x, .int .i64 y] w fun e w' => e = .returned (.tuple #[]) ∧ RowI .u64 T C0 w0 b (heapSort ltInt d x y) w' := by
  obtain ⟨l, rfl⟩ : ∃ l, y = x + l := ⟨y - x, by omega⟩
  have HH := Lib.hid h; have HN := Lib.hid hn
  obtain ⟨m, hm⟩ : ∃ m, m = (l - 1) / 2 := ⟨_, rfl⟩
  have e1 : ((x : Int) + (l : Int)) - (x : Int) = (l : Int) := by omega
  have e2 : ((l : Int) - 1) / 2 = (m : Int) := by omega
  have HM := Lib.hid hm
  have hml : m ≤ l := by omega
  have hl0 : 1 ≤ l := by omega
  have HFIN := Lib.hid (show heapSort ltInt d x (x + l) = heapPop ltInt x l (heapBuild ltInt l x (m + 1) d) by unfold heapSort; rw [show x + l - x = l by omega, hm])
  clear h hn hm
  rw [show ((x + l : Nat) : Int) = (x : Int) + (l : Int) from Int.natCast_add x l]
  go_enter Tryz.func126, Tryz.ntmps126
  go_wp2
  rw [e2]
  clear e1 e2
  go_loopw [9] (fun s9 wr => ∃ (k : Nat) (t : Int) (dk : Array Int), s9 = .int .i64 t ∧ t = (k : Int) - 1 ∧ k ≤ m + 1 ∧ dk.size = n ∧ RowI .u64 T C0 w0 b dk wr ∧ heapBuild ltInt l x k dk = heapBuild ltInt l x (m + 1) d) (fun i _ => (intOf i + 1).toNat)
  case atStart => exact ⟨m + 1, _, d, rfl, by omega, Nat.le_refl _, HN.out, HH.out, rfl⟩
  case round =>
    obtain ⟨k, t, dk, rfl, ht, hk, hs, hR, hE⟩ := hrel
    have HR := Lib.hid hR; have HE := Lib.hid hE; have HK := Lib.hid hs
    clear hR hE hs
    cases k with
    | succ q =>
      obtain rfl : t = (q : Int) := by omega
      clear ht
      have hq0 : (0 : Int) ≤ (q : Int) := by omega
      go_wp2_with (go_at_call 137; go_loud ((with_reducible refine (srt_sift_u64 (lo := q) (hi := l) (f := x) HR.out HK.out (by omega) (by omega) hsz).mono ?_); rintro e3 w3 ⟨rfl, hR3⟩; have HR3 := Lib.hid hR3; clear hR3))
      have HE3 := Lib.hid (show heapBuild ltInt l x q (siftDown ltInt l x q dk) = heapBuild ltInt l x (m + 1) d by rw [← HE.out]; rfl)
      go_roundw
      case rel => exact ⟨q, _, _, rfl, rfl, by omega, by rw [size_siftDown]; exact HK.out, HR3.out, HE3.out⟩
      case measure => simp [intOf]
    | zero =>
      obtain rfl : t = -1 := by omega
      clear ht
      have HB := Lib.hid (show dk = heapBuild ltInt l x (m + 1) d by rw [← HE.out]; rfl)
      go_wp2
      go_loopw [10] (fun s10 wq => ∃ (k : Nat) (t : Int) (dj : Array Int), s10 = .int .i64 t ∧ t = (k : Int) - 1 ∧ k ≤ l ∧ dj.size = n ∧ RowI .u64 T C0 w0 b dj wq ∧ heapPop ltInt x k dj = heapSort ltInt d x (x + l)) (fun i _ => (intOf i + 1).toNat)
      case atStart => exact ⟨l, _, dk, rfl, rfl, Nat.le_refl _, HK.out, HR.out, by rw [HFIN.out, HB.out]⟩
      case round =>
        obtain ⟨k, t, dj, rfl, ht, hk, hs, hRj, hEj⟩ := hrel
        have HRj := Lib.hid hRj; have HEj := Lib.hid hEj; have HKj := Lib.hid hs
        clear hRj hEj hs
        cases k with
        | succ q =>
          obtain rfl : t = (q : Int) := by omega
          clear ht
          have hq0 : (0 : Int) ≤ (q : Int) := by omega
          obtain ⟨a, ha⟩ : ∃ a, a = x + q := ⟨_, rfl⟩
          have HA := Lib.hid ha
          have A1 : (x : Int) + (q : Int) = (a : Int) := by omega
          have han : a < n := by omega
          have hxn : x < n := by omega
          have k1 := HRj.out.cell (i := x) (by have := HKj.out; omega)
          have k2 := HRj.out.cell (i := a) (by have := HKj.out; omega)
          have fz := HRj.out.free
          have zb := HRj.out.lt
          have HSW := Lib.hid (HRj.out.swap (i := x) (j := a) (by have := HKj.out; omega) (by have := HKj.out; omega))
          obtain ⟨z, hz⟩ := HRj.out.second (i := x) (j := a) (by have := HKj.out; omega) (by have := HKj.out; omega) dj[a]!
          have HST := Lib.hid (show heapPop ltInt x q (siftDown ltInt q x 0 (swp dj x a)) = heapSort ltInt d x (x + l) by rw [← HEj.out, HA.out]; rfl)
          clear ha
          generalize hu : dj[x]! = u at *
          generalize hv : dj[a]! = v at *
          clear hu hv
          go_upto_region 10 with fail
          go_region
          have HS4 := Lib.hid HSW.out.drew
          clear k1 k2 fz zb hz
          go_wp2_with (go_at_call 137; go_loud ((with_reducible refine (srt_sift0_u64 (hi := q) (f := x) HS4.out (by rw [size_swp']; exact HKj.out) (by omega) hsz).mono ?_); rintro e3 w3 ⟨rfl, hR3⟩; have HR3 := Lib.hid hR3; clear hR3))
          go_roundw
          case rel => exact ⟨q, _, _, rfl, rfl, by omega, by rw [size_siftDown, size_swp']; exact HKj.out, HR3.out, HST.out⟩
          case measure => simp [intOf]
        | zero =>
          obtain rfl : t = -1 := by omega
          clear ht
          have HB2 := Lib.hid (show dj = heapSort ltInt d x (x + l) by rw [← HEj.out]; rfl)
          go_wp2
          go_end0
          rw [← HB2.out]
          exact ⟨rfl, HRj.out⟩
end Go.Proofs.YtdpamikobmefeaaGreat

namespace Go.Proofs.YtdpamikobmefeaaGreat
open Go.RowKit Go.Sort
set_option maxRecDepth 100000
set_option linter.unusedVariables false
set_option linter.unusedSimpArgs false

/-- Where a partition stands: what stands ahead of i is of L, what stands behind j is not. -/
structure QInv (L : Int → Prop) (d0 : Array Int) (a b : Nat) (p : Int) (i j : Nat) (dk : Array Int) : Prop where
  perm : PermIn a b d0 dk
  bsz : b ≤ d0.size
  piv : dk[a]! = p
  lo : ∀ t, a < t → t < i → L dk[t]!
  hi : ∀ t, j < t → t < b → ¬ L dk[t]!
  ai : a < i
  ij : i ≤ j + 1
  jb : j < b
section
variable {L : Int → Prop} {d0 dk : Array Int} {a b i j : Nat} {p : Int}
theorem QInv.up (h : QInv L d0 a b p i j dk) (hij : i ≤ j) (hl : L dk[i]!) : QInv L d0 a b p (i + 1) j dk :=
  { h with lo := fun t h1 h2 => by rcases Nat.lt_or_ge t i with h3 | h3
                                   · exact h.lo t h1 h3
                                   · obtain rfl : t = i := by omega
                                     exact hl
           ai := by have := h.ai; omega
           ij := by omega }
theorem QInv.down (h : QInv L d0 a b p i (j + 1) dk) (hij : i ≤ j + 1) (hl : ¬ L dk[j + 1]!) : QInv L d0 a b p i j dk :=
  { h with hi := fun t h1 h2 => by rcases Nat.lt_or_ge (j + 1) t with h3 | h3
                                   · exact h.hi t h3 h2
                                   · obtain rfl : t = j + 1 := by omega
                                     exact hl
           ij := by omega
           jb := by have := h.jb; omega }
theorem QInv.swap (h : QInv L d0 a b p i (j + 1) dk) (hij : i < j + 1) (h1 : ¬ L dk[i]!) (h2 : L dk[j + 1]!) : QInv L d0 a b p (i + 1) j (swp dk i (j + 1)) := by
  have hs : dk.size = d0.size := h.perm.1
  have ha := h.ai; have hb := h.jb; have hz := h.bsz
  refine ⟨prm_swap h.perm (by omega) (by omega) (by omega) (by omega) h.bsz, h.bsz, ?_, fun t q1 q2 => ?_, fun t q1 q2 => ?_, by omega, by omega, by omega⟩
  · rw [swp_other _ _ _ _ (by omega) (by omega)]; exact h.piv
  · rcases Nat.lt_or_ge t i with h3 | h3
    · rw [swp_other _ _ _ _ (by omega) (by omega)]; exact h.lo t q1 h3
    · obtain rfl : t = i := by omega
      rw [swp_left _ _ _ (by omega) (by omega)]; exact h2
  · rcases Nat.lt_or_ge (j + 1) t with h3 | h3
    · rw [swp_other _ _ _ _ (by omega) (by omega)]; exact h.hi t h3 q2
    · obtain rfl : t = j + 1 := by omega
      rw [swp_right _ _ _ (by omega)]; exact h1
theorem QInv.start (hp : PermIn a b d0 dk) (hz : b ≤ d0.size) (hab : a + 1 < b) : QInv L d0 a b dk[a]! (a + 1) (b - 1) dk :=
  ⟨hp, hz, rfl, fun t h1 h2 => by omega, fun t h1 h2 => by omega, by omega, by omega, by omega⟩
end
def LeP (p : Int) : Int → Prop := fun x => ¬ p < x
def LtP (p : Int) : Int → Prop := fun x => x < p
/-- What partitionEqual leaves. -/
def PEq (k : IntKind) (T : TypeId) (C0 : Array Value) (w0 : World) (b : Nat) (d : Array Int) (x y : Nat) (p : Int) (e : Ending) (w : World) : Prop :=
  ∃ (m : Nat) (d' : Array Int), e = .returned (.int .i64 m) ∧ x < m ∧ m ≤ y ∧ PermIn x y d d' ∧ (∀ t, x ≤ t → t < m → LeP p d'[t]!) ∧ (∀ t, m ≤ t → t < y → p < d'[t]!) ∧ RowI k T C0 w0 b d' w
theorem peq_end {d0 dk : Array Int} {a b i j : Nat} {p : Int} (h : QInv (LeP p) d0 a b p i j dk) (hij : j < i) : a < i ∧ i ≤ b ∧ PermIn a b d0 dk ∧ (∀ t, a ≤ t → t < i → LeP p dk[t]!) ∧ (∀ t, i ≤ t → t < b → p < dk[t]!) := by
  have h1 := h.ij; have h2 := h.jb
  refine ⟨h.ai, by omega, h.perm, fun t q1 q2 => ?_, fun t q1 q2 => Classical.not_not.1 (h.hi t (by omega) q2)⟩
  rcases Nat.lt_or_ge a t with h3 | h3
  · exact h.lo t h3 q2
  · obtain rfl : t = a := by omega
    unfold LeP; rw [h.piv]; omega

/-- What partition leaves. -/
def PPt (k : IntKind) (T : TypeId) (C0 : Array Value) (w0 : World) (b : Nat) (d : Array Int) (x y : Nat) (e : Ending) (w : World) : Prop :=
  ∃ (m : Nat) (g : Bool) (d' : Array Int), e = .returned (.tuple #[.int .i64 m, .bool g]) ∧ x ≤ m ∧ m < y ∧ PermIn x y d d' ∧ (∀ t, x ≤ t → t < m → LtP d'[m]! d'[t]!) ∧ (∀ t, m < t → t < y → ¬ LtP d'[m]! d'[t]!) ∧ RowI k T C0 w0 b d' w
theorem part_end {d0 dk : Array Int} {a b i j : Nat} {p : Int} (h : QInv (LtP p) d0 a b p i j dk) (hij : j < i) : a ≤ j ∧ j < b ∧ PermIn a b d0 (swp dk j a) ∧ (∀ t, a ≤ t → t < j → LtP (swp dk j a)[j]! (swp dk j a)[t]!) ∧ (∀ t, j < t → t < b → ¬ LtP (swp dk j a)[j]! (swp dk j a)[t]!) := by
  have h1 := h.ij; have h2 := h.jb; have h3 := h.ai; have h4 := h.bsz; have h5 : dk.size = d0.size := h.perm.1
  have hj : (swp dk j a)[j]! = p := by
    by_cases e : j = a
    · rw [e, swp_right _ _ _ (by omega), ← h.piv]
    · rw [swp_left _ _ _ (by omega) e, h.piv]
  refine ⟨by omega, h2, prm_swap h.perm (by omega) (by omega) (by omega) (by omega) h.bsz, fun t q1 q2 => ?_, fun t q1 q2 => ?_⟩
  · rw [hj]
    by_cases e : t = a
    · rw [e, swp_right _ _ _ (by omega)]
      exact h.lo j (by omega) (by omega)
    · rw [swp_other _ _ _ _ (by omega) e]
      exact h.lo t (by omega) (by omega)
  · rw [hj, swp_other _ _ _ _ (by omega) (by omega)]
    exact h.hi t q1 q2
set_option maxHeartbeats 8000000 in
theorem srt_peq_u64 {T : TypeId} {C0 : Array Value} {w0 w : World} {b cap x y v n : Nat} {d : Array Int} (h : RowI .u64 T C0 w0 b d w) (hn : d.size = n) (hxy : x + 1 < y) (hy : y ≤ n) (hv1 : x ≤ v) (hv2 : v < y) (hsz : n < 4611686018427387904) :
    Calls Tryz.prog 132 #[.slice (some ⟨b, 0, none⟩) n cap, .int .i64 x, .int .i64 y, .int .i64 v] w (PEq .u64 T C0 w0 b d x y d[v]!) := by
  obtain ⟨z, rfl⟩ : ∃ z, y = z + 1 := ⟨y - 1, by omega⟩
  have HH := Lib.hid h; have HN := Lib.hid hn
  have k1 := h.cell (i := x) (by omega)
  have k2 := h.cell (i := v) (by omega)
  have fz := h.free
  have zb := h.lt
  have HSW := Lib.hid (h.swap (i := x) (j := v) (by omega) (by omega))
  obtain ⟨s2, hs2⟩ := h.second (i := x) (j := v) (by omega) (by omega) d[v]!
  have q1 : x < n := by omega
  have q2 : v < n := by omega
  have w5 := wrap_nat64 (k := z) (by omega)
  have HP0 := Lib.hid (prm_swap (permIn_refl d x (z + 1)) (i := x) (j := v) (Nat.le_refl _) (by omega) hv1 hv2 (by omega))
  have HPV := Lib.hid (show (swp d x v)[x]! = d[v]! by
    by_cases hxv : x = v
    · subst hxv
      rw [swp_right _ _ _ (by omega)]
    · exact swp_left _ _ _ (by omega) hxv)
  clear h
  generalize hp : d[v]! = p at *
  generalize hu : d[x]! = u at *
  clear hp hu hn
  rw [show ((z + 1 : Nat) : Int) = (z : Int) + 1 from Int.natCast_add z 1]
  go_enter Tryz.func132, Tryz.ntmps132
  go_upto_region 1 with fail
  go_region
  have HQ := Lib.hid (show QInv (LeP p) d x (z + 1) p (x + 1) z (swp d x v) by
    have := QInv.start (L := LeP p) HP0.out (by have := HN.out; omega) (by omega)
    rwa [HPV.out] at this)
  have HR1 := Lib.hid HSW.out.drew
  generalize (((w.setCell ⟨b, x, none⟩ (.int .u64 p)).setCell ⟨b, v, none⟩ (.int .u64 u)).drew) = w1 at HR1 ⊢
  clear k1 k2 fz zb hs2 HSW
  clear HH HPV HP0
  go_wp2
  go_loopw [9, 10] (fun s9 s10 wr => ∃ (i j : Nat) (dk : Array Int), s9 = .int .i64 i ∧ s10 = .int .i64 j ∧ QInv (LeP p) d x (z + 1) p i j dk ∧ RowI .u64 T C0 w0 b dk wr) (fun i j _ => (intOf j).toNat + 1 - (intOf i).toNat)
  case atStart => exact ⟨x + 1, z, _, by go_num, rfl, HQ.out, HR1.out⟩
  case round =>
    obtain ⟨i, j, dk, rfl, rfl, hq, hR⟩ := hrel
    have HR := Lib.hid hR; have HQ := Lib.hid hq
    have HK := Lib.hid (show dk.size = n by rw [hq.perm.1]; exact HN.out)
    have KX : Hid (∀ wx, RowI .u64 T C0 w0 b dk wx → wx.cell? ⟨b, x, none⟩ = some (.int .u64 p)) := fun wx hx => by rw [hx.cell (i := x) (by have := HK.out; omega), HQ.out.piv]
    have hij0 := hq.ij; have hjb0 := hq.jb; have hai0 := hq.ai
    clear hR hq
    go_upto_block 2 with fail
    go_cut [9] from 29 to 45 (fun s9 wx => ∃ i' : Nat, s9 = .int .i64 i' ∧ i ≤ i' ∧ QInv (LeP p) d x (z + 1) p i' j dk ∧ (i' ≤ j → p < dk[i']!) ∧ RowI .u64 T C0 w0 b dk wx)
    case first =>
      go_wp2_with fail
      go_loopw [9] (fun s9 wq => ∃ i' : Nat, s9 = .int .i64 i' ∧ i ≤ i' ∧ QInv (LeP p) d x (z + 1) p i' j dk ∧ RowI .u64 T C0 w0 b dk wq) (fun i _ => j + 1 - (intOf i).toNat)
      case atStart => exact ⟨i, rfl, Nat.le_refl _, HQ.out, HR.out⟩
      case round =>
        obtain ⟨i', rfl, hii, hq2, hR2⟩ := hrel
        have HR2 := Lib.hid hR2; have HQ2 := Lib.hid hq2
        clear hR2 hq2
        by_cases hle : i' ≤ j
        · have g1 : decide (i' ≤ j) = true := decide_eq_true hle
          have g2 : decide ((i' : Int) ≤ (j : Int)) = true := decide_eq_true (by omega)
          have c1 := HR2.out.cell (i := i') (by have := HK.out; omega)
          have c2 := KX.out _ HR2.out
          have hin : i' < n := by omega
          obtain ⟨v1, hv⟩ : ∃ v1, dk[i']! = v1 := ⟨_, rfl⟩
          rw [hv] at c1
          have HV := Lib.hid hv
          clear hv
          by_cases hpv : p < v1
          · have HLT := Lib.hid (show decide (p < v1) = true from decide_eq_true hpv)
            have HPV := Lib.hid hpv
            clear hpv
            go_wp2_with fail
            go_quiet ((go_at_call 131; exact Calls.quiet_of_same (lessq_u64 _ _ _)))
            rw [HLT.out]
            go_wp2_with fail
            go_meet
            exact ⟨i', rfl, hii, HQ2.out, fun _ => by rw [HV.out]; exact HPV.out, HR2.out.drewN _⟩
          · have HLT := Lib.hid (show decide (p < v1) = false from decide_eq_false hpv)
            have HQ3 := Lib.hid (HQ2.out.up hle (by rw [HV.out]; exact hpv))
            clear hpv
            go_wp2_with fail
            go_quiet ((go_at_call 131; exact Calls.quiet_of_same (lessq_u64 _ _ _)))
            rw [HLT.out]
            go_wp2_with fail
            go_roundw
            case rel => exact ⟨i' + 1, by go_num, by omega, HQ3.out, HR2.out.drewN _⟩
            case measure => simp [intOf]; omega
        · have g1 : decide (i' ≤ j) = false := decide_eq_false hle
          have g2 : decide ((i' : Int) ≤ (j : Int)) = false := decide_eq_false (by omega)
          go_wp2_with fail
          go_quiet (fail)
          go_wp2_with fail
          go_meet
          exact ⟨i', rfl, hii, HQ2.out, fun h => absurd h hle, HR2.out.drewN _⟩
    case rest =>
      obtain ⟨i', rfl, hii, hq2, hiv, hR2⟩ := hcut
      have HR2 := Lib.hid hR2; have HQ2 := Lib.hid hq2; have HIV := Lib.hid hiv
      have hij2 := hq2.ij; have hai2 := hq2.ai
      clear hR2 hq2 hiv
      go_upto_block 4 with fail
      go_cut [10] from 46 to 61 (fun s10 wx => ∃ j' : Nat, s10 = .int .i64 j' ∧ j' ≤ j ∧ QInv (LeP p) d x (z + 1) p i' j' dk ∧ (i' ≤ j' → ¬ p < dk[j']!) ∧ RowI .u64 T C0 w0 b dk wx)
      case first =>
        go_wp2_with fail
        go_loopw [10] (fun s10 wq => ∃ j' : Nat, s10 = .int .i64 j' ∧ j' ≤ j ∧ QInv (LeP p) d x (z + 1) p i' j' dk ∧ RowI .u64 T C0 w0 b dk wq) (fun j _ => (intOf j).toNat)
        case atStart => exact ⟨j, rfl, Nat.le_refl _, HQ2.out, HR2.out⟩
        case round =>
          obtain ⟨j', rfl, hjj, hq3, hR3⟩ := hrel
          have HR3 := Lib.hid hR3; have HQ3 := Lib.hid hq3
          clear hR3 hq3
          by_cases hle : i' ≤ j'
          · obtain ⟨t, rfl⟩ : ∃ t, j' = t + 1 := ⟨j' - 1, by omega⟩
            have g1 : decide (i' ≤ t + 1) = true := decide_eq_true hle
            have g2 : decide ((i' : Int) ≤ (t : Int) + 1) = true := decide_eq_true (by omega)
            have c1 := HR3.out.cell (i := t + 1) (by have := HK.out; omega)
            have c2 := KX.out _ HR3.out
            have hin : (t : Int) + 1 < (n : Int) := by omega
            have q3 : ((t : Int) + 1).toNat = t + 1 := by omega
            have q4 : IntKind.i64.wrap ((t : Int) + 1) = (t : Int) + 1 := by rw [show ((t : Int) + 1) = ((t + 1 : Nat) : Int) by omega]; exact wrap_nat64 (by omega)
            have q5 := wrap_nat64 (k := t) (by omega)
            obtain ⟨v1, hv⟩ : ∃ v1, dk[t + 1]! = v1 := ⟨_, rfl⟩
            rw [hv] at c1
            have HV := Lib.hid hv
            clear hv
            by_cases hpv : p < v1
            · have HLT := Lib.hid (show decide (p < v1) = true from decide_eq_true hpv)
              have HQ4 := Lib.hid (HQ3.out.down hle (by rw [HV.out]; exact fun h => h hpv))
              clear hpv
              go_wp2_with fail
              go_quiet ((go_at_call 131; exact Calls.quiet_of_same (lessq_u64 _ _ _)))
              rw [HLT.out]
              go_wp2_with fail
              go_roundw
              case rel => exact ⟨t, by go_num, by omega, HQ4.out, HR3.out.drewN _⟩
              case measure => simp [intOf]
            · have HLT := Lib.hid (show decide (p < v1) = false from decide_eq_false hpv)
              have HPV := Lib.hid hpv
              clear hpv
              go_wp2_with fail
              go_quiet ((go_at_call 131; exact Calls.quiet_of_same (lessq_u64 _ _ _)))
              rw [HLT.out]
              go_wp2_with fail
              go_meet
              exact ⟨t + 1, by go_num, hjj, HQ3.out, fun _ => by rw [HV.out]; exact HPV.out, HR3.out.drewN _⟩
          · have g1 : decide (i' ≤ j') = false := decide_eq_false hle
            have g2 : decide ((i' : Int) ≤ (j' : Int)) = false := decide_eq_false (by omega)
            go_wp2_with fail
            go_quiet (fail)
            go_wp2_with fail
            go_meet
            exact ⟨j', rfl, hjj, HQ3.out, fun h => absurd h hle, HR3.out.drewN _⟩
      case rest =>
        obtain ⟨j', rfl, hjj, hq3, hjv, hR3⟩ := hcut
        have HR3 := Lib.hid hR3; have HQ3 := Lib.hid hq3; have HJV := Lib.hid hjv
        have hij3 := hq3.ij
        clear hR3 hq3 hjv
        by_cases hgt : j' < i'
        · have HE := Lib.hid (peq_end HQ3.out hgt)
          go_wp2_with fail
          go_ret
          exact ⟨i', dk, rfl, HE.out.1, HE.out.2.1, HE.out.2.2.1, HE.out.2.2.2.1, HE.out.2.2.2.2, HR3.out⟩
        · obtain ⟨t, rfl⟩ : ∃ t, j' = t + 1 := ⟨j' - 1, by omega⟩
          have hne : i' ≠ t + 1 := fun e => by
            have h1 := HIV.out (by omega)
            have h2 := HJV.out (by omega)
            rw [e] at h1
            exact h2 h1
          have k1 := HR3.out.cell (i := i') (by have := HK.out; omega)
          have k2 := HR3.out.cell (i := t + 1) (by have := HK.out; omega)
          have fz := HR3.out.free
          have zb := HR3.out.lt
          have HSW := Lib.hid (HR3.out.swap (i := i') (j := t + 1) (by have := HK.out; omega) (by have := HK.out; omega))
          have HQ4 := Lib.hid (HQ3.out.swap (by omega) (fun h => h (HIV.out (by omega))) (HJV.out (by omega)))
          have hin : i' < n := by omega
          have hjn : (t : Int) + 1 < (n : Int) := by omega
          have q3 : ((t : Int) + 1).toNat = t + 1 := by omega
          have q4 : IntKind.i64.wrap ((t : Int) + 1) = (t : Int) + 1 := by rw [show ((t : Int) + 1) = ((t + 1 : Nat) : Int) by omega]; exact wrap_nat64 (by omega)
          have q5 := wrap_nat64 (k := t) (by omega)
          generalize hu : dk[i']! = u at *
          generalize hv : dk[t + 1]! = v at *
          clear hu hv
          go_upto_region 8 with fail
          go_region
          have HS4 := Lib.hid HSW.out.drew
          clear k1 k2 fz zb
          go_wp2_with fail
          go_roundw
          case rel => exact ⟨i' + 1, t, _, by go_num, by go_num, HQ4.out, HS4.out⟩
          case measure => simp [intOf]; omega
set_option maxHeartbeats 16000000 in
theorem srt_part_u64 {T : TypeId} {C0 : Array Value} {w0 w : World} {b cap x y v n : Nat} {d : Array Int} (h : RowI .u64 T C0 w0 b d w) (hn : d.size = n) (hxy : x + 1 < y) (hy : y ≤ n) (hv1 : x ≤ v) (hv2 : v < y) (hsz : n < 4611686018427387904) :
    Calls Tryz.prog 133 #[.slice (some ⟨b, 0, none⟩) n cap, .int .i64 x, .int .i64 y, .int .i64 v] w (PPt .u64 T C0 w0 b d x y) := by
  obtain ⟨z, rfl⟩ : ∃ z, y = z + 1 := ⟨y - 1, by omega⟩
  have HH := Lib.hid h; have HN := Lib.hid hn
  have k1 := h.cell (i := x) (by omega)
  have k2 := h.cell (i := v) (by omega)
  have fz := h.free
  have zb := h.lt
  have HSW := Lib.hid (h.swap (i := x) (j := v) (by omega) (by omega))
  obtain ⟨s2, hs2⟩ := h.second (i := x) (j := v) (by omega) (by omega) d[v]!
  have q1 : x < n := by omega
  have q2 : v < n := by omega
  have w5 := wrap_nat64 (k := z) (by omega)
  have HP0 := Lib.hid (prm_swap (permIn_refl d x (z + 1)) (i := x) (j := v) (Nat.le_refl _) (by omega) hv1 hv2 (by omega))
  have HPV := Lib.hid (show (swp d x v)[x]! = d[v]! by
    by_cases hxv : x = v
    · subst hxv
      rw [swp_right _ _ _ (by omega)]
    · exact swp_left _ _ _ (by omega) hxv)
  clear h
  generalize hp : d[v]! = p at *
  generalize hu : d[x]! = u at *
  clear hp hu hn
  rw [show ((z + 1 : Nat) : Int) = (z : Int) + 1 from Int.natCast_add z 1]
  go_enter Tryz.func133, Tryz.ntmps133
  go_upto_region 1 with fail
  go_region
  have HQ := Lib.hid (show QInv (LtP p) d x (z + 1) p (x + 1) z (swp d x v) by
    have := QInv.start (L := LtP p) HP0.out (by have := HN.out; omega) (by omega)
    rwa [HPV.out] at this)
  have HR := Lib.hid HSW.out.drew
  generalize (((w.setCell ⟨b, x, none⟩ (.int .u64 p)).setCell ⟨b, v, none⟩ (.int .u64 u)).drew) = w1 at HR ⊢
  generalize swp d x v = dk at HQ HR
  clear k1 k2 fz zb hs2 HSW HH HPV HP0
  have HK := Lib.hid (show dk.size = n by rw [HQ.out.perm.1]; exact HN.out)
  have KX : Hid (∀ wx, RowI .u64 T C0 w0 b dk wx → wx.cell? ⟨b, x, none⟩ = some (.int .u64 p)) := fun wx hx => by rw [hx.cell (i := x) (by have := HK.out; omega), HQ.out.piv]
  go_upto_block 0 with fail
  go_cut [10] from 30 to 45 (fun s1 wx => ∃ i2 : Nat, s1 = .int .i64 i2 ∧ (x + 1) ≤ i2 ∧ QInv (LtP p) d x (z + 1) p i2 z dk ∧ (i2 ≤ z → ¬ LtP p dk[i2]!) ∧ RowI .u64 T C0 w0 b dk wx)
  case first =>
    go_wp2_with fail
    go_loopw [10] (fun s1 wq => ∃ i2 : Nat, s1 = .int .i64 i2 ∧ (x + 1) ≤ i2 ∧ QInv (LtP p) d x (z + 1) p i2 z dk ∧ RowI .u64 T C0 w0 b dk wq) (fun i _ => z + 1 - (intOf i).toNat)
    case atStart => exact ⟨(x + 1), by first | rfl | go_num, Nat.le_refl _, HQ.out, HR.out⟩
    case round =>
      obtain ⟨i2, rfl, hii, hq2, hR2⟩ := hrel
      have HR2 := Lib.hid hR2; have HQ2 := Lib.hid hq2
      clear hR2 hq2
      by_cases hle : i2 ≤ z
      · have g1 : decide (i2 ≤ z) = true := decide_eq_true hle
        have g2 : decide ((i2 : Int) ≤ (z : Int)) = true := decide_eq_true (by omega)
        have c1 := HR2.out.cell (i := i2) (by have := HK.out; omega)
        have c2 := KX.out _ HR2.out
        have hin : i2 < n := by omega
        obtain ⟨v1, hv⟩ : ∃ v1, dk[i2]! = v1 := ⟨_, rfl⟩
        rw [hv] at c1
        have HV := Lib.hid hv
        clear hv
        by_cases hpv : v1 < p
        · have HLT := Lib.hid (show decide (v1 < p) = true from decide_eq_true hpv)
          have HQ3 := Lib.hid (HQ2.out.up hle (by rw [HV.out]; exact hpv))
          clear hpv
          go_wp2_with fail
          go_quiet ((go_at_call 131; exact Calls.quiet_of_same (lessq_u64 _ _ _)))
          rw [HLT.out]
          go_wp2_with fail
          go_roundw
          case rel => exact ⟨i2 + 1, by go_num, by omega, HQ3.out, HR2.out.drewN _⟩
          case measure => simp [intOf]; omega
        · have HLT := Lib.hid (show decide (v1 < p) = false from decide_eq_false hpv)
          have HPV := Lib.hid (show ¬ LtP p v1 from hpv)
          clear hpv
          go_wp2_with fail
          go_quiet ((go_at_call 131; exact Calls.quiet_of_same (lessq_u64 _ _ _)))
          rw [HLT.out]
          go_wp2_with fail
          go_meet
          exact ⟨i2, rfl, hii, HQ2.out, fun _ => by rw [HV.out]; exact HPV.out, HR2.out.drewN _⟩
      · have g1 : decide (i2 ≤ z) = false := decide_eq_false hle
        have g2 : decide ((i2 : Int) ≤ (z : Int)) = false := decide_eq_false (by omega)
        go_wp2_with fail
        go_quiet (fail)
        go_wp2_with fail
        go_meet
        exact ⟨i2, rfl, hii, HQ2.out, fun h => absurd h hle, HR2.out.drewN _⟩
  case rest =>
    obtain ⟨i2, rfl, hii, hq2, hiv, hR2⟩ := hcut
    have HR2 := Lib.hid hR2; have HQ2 := Lib.hid hq2; have HIV := Lib.hid (show i2 ≤ z → ¬ LtP p dk[i2]! from hiv)
    have hij2 := hq2.ij; have hai2 := hq2.ai
    clear hR2 hq2 hiv
    go_upto_block 2 with fail
    go_cut [11] from 46 to 62 (fun s1 wx => ∃ j2 : Nat, s1 = .int .i64 j2 ∧ j2 ≤ z ∧ QInv (LtP p) d x (z + 1) p i2 j2 dk ∧ (i2 ≤ j2 → LtP p dk[j2]!) ∧ RowI .u64 T C0 w0 b dk wx)
    case first =>
      go_wp2_with fail
      go_loopw [11] (fun s1 wq => ∃ j2 : Nat, s1 = .int .i64 j2 ∧ j2 ≤ z ∧ QInv (LtP p) d x (z + 1) p i2 j2 dk ∧ RowI .u64 T C0 w0 b dk wq) (fun j _ => (intOf j).toNat)
      case atStart => exact ⟨z, by first | rfl | go_num, Nat.le_refl _, HQ2.out, HR2.out⟩
      case round =>
        obtain ⟨j2, rfl, hjj, hq3, hR3⟩ := hrel
        have HR3 := Lib.hid hR3; have HQ3 := Lib.hid hq3
        clear hR3 hq3
        by_cases hle : i2 ≤ j2
        · obtain ⟨t, rfl⟩ : ∃ t, j2 = t + 1 := ⟨j2 - 1, by omega⟩
          have g1 : decide (i2 ≤ t + 1) = true := decide_eq_true hle
          have g2 : decide ((i2 : Int) ≤ (t : Int) + 1) = true := decide_eq_true (by omega)
          have c1 := HR3.out.cell (i := t + 1) (by have := HK.out; omega)
          have c2 := KX.out _ HR3.out
          have hin : (t : Int) + 1 < (n : Int) := by omega
          have q3 : ((t : Int) + 1).toNat = t + 1 := by omega
          have q4 : IntKind.i64.wrap ((t : Int) + 1) = (t : Int) + 1 := by rw [show ((t : Int) + 1) = ((t + 1 : Nat) : Int) by omega]; exact wrap_nat64 (by omega)
          have q5 := wrap_nat64 (k := t) (by omega)
          obtain ⟨v1, hv⟩ : ∃ v1, dk[t + 1]! = v1 := ⟨_, rfl⟩
          rw [hv] at c1
          have HV := Lib.hid hv
          clear hv
          by_cases hpv : v1 < p
          · have HLT := Lib.hid (show decide (v1 < p) = true from decide_eq_true hpv)
            have HPV := Lib.hid (show LtP p v1 from hpv)
            clear hpv
            go_wp2_with fail
            go_quiet ((go_at_call 131; exact Calls.quiet_of_same (lessq_u64 _ _ _)))
            rw [HLT.out]
            go_wp2_with fail
            go_meet
            exact ⟨t + 1, by go_num, hjj, HQ3.out, fun _ => by rw [HV.out]; exact HPV.out, HR3.out.drewN _⟩
          · have HLT := Lib.hid (show decide (v1 < p) = false from decide_eq_false hpv)
            have HQ4 := Lib.hid (HQ3.out.down hle (by rw [HV.out]; exact hpv))
            clear hpv
            go_wp2_with fail
            go_quiet ((go_at_call 131; exact Calls.quiet_of_same (lessq_u64 _ _ _)))
            rw [HLT.out]
            go_wp2_with fail
            go_roundw
            case rel => exact ⟨t, by go_num, by omega, HQ4.out, HR3.out.drewN _⟩
            case measure => simp [intOf]
        · have g1 : decide (i2 ≤ j2) = false := decide_eq_false hle
          have g2 : decide ((i2 : Int) ≤ (j2 : Int)) = false := decide_eq_false (by omega)
          go_wp2_with fail
          go_quiet (fail)
          go_wp2_with fail
          go_meet
          exact ⟨j2, rfl, hjj, HQ3.out, fun h => absurd h hle, HR3.out.drewN _⟩
    case rest =>
      obtain ⟨j2, rfl, hjj, hq3, hjv, hR3⟩ := hcut
      have HR3 := Lib.hid hR3; have HQ3 := Lib.hid hq3; have HJV := Lib.hid hjv
      have hij3 := hq3.ij
      clear hR3 hq3 hjv
      by_cases hgt : j2 < i2
      · have hgz : (j2 : Int) < (i2 : Int) := by omega
        have HE := Lib.hid (part_end HQ3.out hgt)
        have hja : x ≤ j2 := HE.out.1
        have k1 := HR3.out.cell (i := j2) (by have := HK.out; omega)
        have k2 := KX.out _ HR3.out
        have fz := HR3.out.free
        have zb := HR3.out.lt
        have HSW := HR3.out.swap (i := j2) (j := x) (by have := HK.out; omega) (by have := HK.out; omega)
        rw [HQ3.out.piv] at HSW
        obtain ⟨z2, hz2⟩ := HR3.out.second (i := j2) (j := x) (by have := HK.out; omega) (by have := HK.out; omega) p
        have HSW := Lib.hid HSW
        have hin : j2 < n := by omega
        have hxn : x < n := by omega
        generalize hu : dk[j2]! = u at *
        clear hu
        go_upto_region 8 with fail
        go_region
        have HS4 := Lib.hid HSW.out.drew
        clear k1 k2 fz zb hz2
        go_wp2_with fail
        go_ret2
        exact ⟨j2, true, swp dk j2 x, rfl, HE.out.1, HE.out.2.1, HE.out.2.2.1, HE.out.2.2.2.1, HE.out.2.2.2.2, HS4.out⟩
      · have hgz : ¬ (j2 : Int) < (i2 : Int) := by omega
        obtain ⟨t, rfl⟩ : ∃ t, j2 = t + 1 := ⟨j2 - 1, by omega⟩
        have hne : i2 ≠ t + 1 := fun e => HIV.out (by omega) (by rw [e]; exact HJV.out (by omega))
        have k1 := HR3.out.cell (i := i2) (by have := HK.out; omega)
        have k2 := HR3.out.cell (i := t + 1) (by have := HK.out; omega)
        have fz := HR3.out.free
        have zb := HR3.out.lt
        have HSW := Lib.hid (HR3.out.swap (i := i2) (j := t + 1) (by have := HK.out; omega) (by have := HK.out; omega))
        have HQ4 := Lib.hid (HQ3.out.swap (by omega) (HIV.out (by omega)) (HJV.out (by omega)))
        have hin : i2 < n := by omega
        have hjn : (t : Int) + 1 < (n : Int) := by omega
        have q3 : ((t : Int) + 1).toNat = t + 1 := by omega
        have q4 : IntKind.i64.wrap ((t : Int) + 1) = (t : Int) + 1 := by rw [show ((t : Int) + 1) = ((t + 1 : Nat) : Int) by omega]; exact wrap_nat64 (by omega)
        have q5 := wrap_nat64 (k := t) (by omega)
        generalize hu : dk[i2]! = u2 at *
        generalize hv : dk[t + 1]! = v2 at *
        clear hu hv
        go_upto_region 10 with fail
        go_region
        have HS4 := Lib.hid HSW.out.drew
        clear k1 k2 fz zb
        clear HR3 HR2 HQ3 HQ2 HQ HR HIV HJV HSW KX HK
        generalize swp dk i2 (t + 1) = d3 at HQ4 HS4
        generalize (((_ : World).setCell ⟨b, i2, none⟩ (.int .u64 v2)).setCell ⟨b, t + 1, none⟩ (.int .u64 u2)).drew = w4 at HS4 ⊢
        clear hne hgt hgz hin hjn q3 q4 q5
        have hij4 := HQ4.out.ij; have hai4 := HQ4.out.ai; have hjb4 := HQ4.out.jb
        clear hij2 hai2 hij3
        clear hij4 hai4 hjb4
        go_wp2_with fail
        go_loopw [10, 11] (fun s10 s11 wr => ∃ (i j : Nat) (dk : Array Int), s10 = .int .i64 i ∧ s11 = .int .i64 j ∧ QInv (LtP p) d x (z + 1) p i j dk ∧ RowI .u64 T C0 w0 b dk wr) (fun i j _ => (intOf j).toNat + 1 - (intOf i).toNat)
        case atStart => exact ⟨i2 + 1, t, d3, by go_num, rfl, HQ4.out, HS4.out⟩
        case round =>
          obtain ⟨i, j, dk, rfl, rfl, hq, hR⟩ := hrel
          have HR := Lib.hid hR; have HQ := Lib.hid hq
          have HK := Lib.hid (show dk.size = n by rw [hq.perm.1]; exact HN.out)
          have KX : Hid (∀ wx, RowI .u64 T C0 w0 b dk wx → wx.cell? ⟨b, x, none⟩ = some (.int .u64 p)) := fun wx hx => by rw [hx.cell (i := x) (by have := HK.out; omega), HQ.out.piv]
          have hij0 := hq.ij; have hjb0 := hq.jb; have hai0 := hq.ai
          clear hR hq
          go_upto_block 6 with fail
          go_cut [10] from 99 to 114 (fun s1 wx => ∃ i2 : Nat, s1 = .int .i64 i2 ∧ i ≤ i2 ∧ QInv (LtP p) d x (z + 1) p i2 j dk ∧ (i2 ≤ j → ¬ LtP p dk[i2]!) ∧ RowI .u64 T C0 w0 b dk wx)
          case first =>
            go_wp2_with fail
            go_loopw [10] (fun s1 wq => ∃ i2 : Nat, s1 = .int .i64 i2 ∧ i ≤ i2 ∧ QInv (LtP p) d x (z + 1) p i2 j dk ∧ RowI .u64 T C0 w0 b dk wq) (fun i _ => j + 1 - (intOf i).toNat)
            case atStart => exact ⟨i, by first | rfl | go_num, Nat.le_refl _, HQ.out, HR.out⟩
            case round =>
              obtain ⟨i2, rfl, hii, hq2, hR2⟩ := hrel
              have HR2 := Lib.hid hR2; have HQ2 := Lib.hid hq2
              clear hR2 hq2
              by_cases hle : i2 ≤ j
              · have g1 : decide (i2 ≤ j) = true := decide_eq_true hle
                have g2 : decide ((i2 : Int) ≤ (j : Int)) = true := decide_eq_true (by omega)
                have c1 := HR2.out.cell (i := i2) (by have := HK.out; omega)
                have c2 := KX.out _ HR2.out
                have hin : i2 < n := by omega
                obtain ⟨v1, hv⟩ : ∃ v1, dk[i2]! = v1 := ⟨_, rfl⟩
                rw [hv] at c1
                have HV := Lib.hid hv
                clear hv
                by_cases hpv : v1 < p
                · have HLT := Lib.hid (show decide (v1 < p) = true from decide_eq_true hpv)
                  have HQ3 := Lib.hid (HQ2.out.up hle (by rw [HV.out]; exact hpv))
                  clear hpv
                  go_wp2_with fail
                  go_quiet ((go_at_call 131; exact Calls.quiet_of_same (lessq_u64 _ _ _)))
                  rw [HLT.out]
                  go_wp2_with fail
                  go_roundw
                  case rel => exact ⟨i2 + 1, by go_num, by omega, HQ3.out, HR2.out.drewN _⟩
                  case measure => simp [intOf]; omega
                · have HLT := Lib.hid (show decide (v1 < p) = false from decide_eq_false hpv)
                  have HPV := Lib.hid (show ¬ LtP p v1 from hpv)
                  clear hpv
                  go_wp2_with fail
                  go_quiet ((go_at_call 131; exact Calls.quiet_of_same (lessq_u64 _ _ _)))
                  rw [HLT.out]
                  go_wp2_with fail
                  go_meet
                  exact ⟨i2, rfl, hii, HQ2.out, fun _ => by rw [HV.out]; exact HPV.out, HR2.out.drewN _⟩
              · have g1 : decide (i2 ≤ j) = false := decide_eq_false hle
                have g2 : decide ((i2 : Int) ≤ (j : Int)) = false := decide_eq_false (by omega)
                go_wp2_with fail
                go_quiet (fail)
                go_wp2_with fail
                go_meet
                exact ⟨i2, rfl, hii, HQ2.out, fun h => absurd h hle, HR2.out.drewN _⟩
          case rest =>
            obtain ⟨i2, rfl, hii, hq2, hiv, hR2⟩ := hcut
            have HR2 := Lib.hid hR2; have HQ2 := Lib.hid hq2; have HIV := Lib.hid (show i2 ≤ j → ¬ LtP p dk[i2]! from hiv)
            have hij2 := hq2.ij; have hai2 := hq2.ai
            clear hR2 hq2 hiv
            go_upto_block 8 with fail
            go_cut [11] from 115 to 131 (fun s1 wx => ∃ j2 : Nat, s1 = .int .i64 j2 ∧ j2 ≤ j ∧ QInv (LtP p) d x (z + 1) p i2 j2 dk ∧ (i2 ≤ j2 → LtP p dk[j2]!) ∧ RowI .u64 T C0 w0 b dk wx)
            case first =>
              go_wp2_with fail
              go_loopw [11] (fun s1 wq => ∃ j2 : Nat, s1 = .int .i64 j2 ∧ j2 ≤ j ∧ QInv (LtP p) d x (z + 1) p i2 j2 dk ∧ RowI .u64 T C0 w0 b dk wq) (fun j _ => (intOf j).toNat)
              case atStart => exact ⟨j, by first | rfl | go_num, Nat.le_refl _, HQ2.out, HR2.out⟩
              case round =>
                obtain ⟨j2, rfl, hjj, hq3, hR3⟩ := hrel
                have HR3 := Lib.hid hR3; have HQ3 := Lib.hid hq3
                clear hR3 hq3
                by_cases hle : i2 ≤ j2
                · obtain ⟨t, rfl⟩ : ∃ t, j2 = t + 1 := ⟨j2 - 1, by omega⟩
                  have g1 : decide (i2 ≤ t + 1) = true := decide_eq_true hle
                  have g2 : decide ((i2 : Int) ≤ (t : Int) + 1) = true := decide_eq_true (by omega)
                  have c1 := HR3.out.cell (i := t + 1) (by have := HK.out; omega)
                  have c2 := KX.out _ HR3.out
                  have hin : (t : Int) + 1 < (n : Int) := by omega
                  have q3 : ((t : Int) + 1).toNat = t + 1 := by omega
                  have q4 : IntKind.i64.wrap ((t : Int) + 1) = (t : Int) + 1 := by rw [show ((t : Int) + 1) = ((t + 1 : Nat) : Int) by omega]; exact wrap_nat64 (by omega)
                  have q5 := wrap_nat64 (k := t) (by omega)
                  obtain ⟨v1, hv⟩ : ∃ v1, dk[t + 1]! = v1 := ⟨_, rfl⟩
                  rw [hv] at c1
                  have HV := Lib.hid hv
                  clear hv
                  by_cases hpv : v1 < p
                  · have HLT := Lib.hid (show decide (v1 < p) = true from decide_eq_true hpv)
                    have HPV := Lib.hid (show LtP p v1 from hpv)
                    clear hpv
                    go_wp2_with fail
                    go_quiet ((go_at_call 131; exact Calls.quiet_of_same (lessq_u64 _ _ _)))
                    rw [HLT.out]
                    go_wp2_with fail
                    go_meet
                    exact ⟨t + 1, by go_num, hjj, HQ3.out, fun _ => by rw [HV.out]; exact HPV.out, HR3.out.drewN _⟩
                  · have HLT := Lib.hid (show decide (v1 < p) = false from decide_eq_false hpv)
                    have HQ4 := Lib.hid (HQ3.out.down hle (by rw [HV.out]; exact hpv))
                    clear hpv
                    go_wp2_with fail
                    go_quiet ((go_at_call 131; exact Calls.quiet_of_same (lessq_u64 _ _ _)))
                    rw [HLT.out]
                    go_wp2_with fail
                    go_roundw
                    case rel => exact ⟨t, by go_num, by omega, HQ4.out, HR3.out.drewN _⟩
                    case measure => simp [intOf]
                · have g1 : decide (i2 ≤ j2) = false := decide_eq_false hle
                  have g2 : decide ((i2 : Int) ≤ (j2 : Int)) = false := decide_eq_false (by omega)
                  go_wp2_with fail
                  go_quiet (fail)
                  go_wp2_with fail
                  go_meet
                  exact ⟨j2, rfl, hjj, HQ3.out, fun h => absurd h hle, HR3.out.drewN _⟩
            case rest =>
              obtain ⟨j2, rfl, hjj, hq3, hjv, hR3⟩ := hcut
              have HR3 := Lib.hid hR3; have HQ3 := Lib.hid hq3; have HJV := Lib.hid hjv
              have hij3 := hq3.ij
              clear hR3 hq3 hjv
              by_cases hgt : j2 < i2
              · have hgz : (j2 : Int) < (i2 : Int) := by omega
                have HE := Lib.hid (part_end HQ3.out hgt)
                have hja : x ≤ j2 := HE.out.1
                have k1 := HR3.out.cell (i := j2) (by have := HK.out; omega)
                have k2 := KX.out _ HR3.out
                have fz := HR3.out.free
                have zb := HR3.out.lt
                have HSW := HR3.out.swap (i := j2) (j := x) (by have := HK.out; omega) (by have := HK.out; omega)
                rw [HQ3.out.piv] at HSW
                obtain ⟨z2, hz2⟩ := HR3.out.second (i := j2) (j := x) (by have := HK.out; omega) (by have := HK.out; omega) p
                have HSW := Lib.hid HSW
                have hin : j2 < n := by omega
                have hxn : x < n := by omega
                generalize hu : dk[j2]! = u at *
                clear hu
                go_upto_region 21 with fail
                go_region
                have HS4 := Lib.hid HSW.out.drew
                clear k1 k2 fz zb hz2
                go_wp2_with fail
                go_ret2
                exact ⟨j2, false, swp dk j2 x, rfl, HE.out.1, HE.out.2.1, HE.out.2.2.1, HE.out.2.2.2.1, HE.out.2.2.2.2, HS4.out⟩
              · have hgz : ¬ (j2 : Int) < (i2 : Int) := by omega
                obtain ⟨t, rfl⟩ : ∃ t, j2 = t + 1 := ⟨j2 - 1, by omega⟩
                have hne : i2 ≠ t + 1 := fun e => HIV.out (by omega) (by rw [e]; exact HJV.out (by omega))
                have k1 := HR3.out.cell (i := i2) (by have := HK.out; omega)
                have k2 := HR3.out.cell (i := t + 1) (by have := HK.out; omega)
                have fz := HR3.out.free
                have zb := HR3.out.lt
                have HSW := Lib.hid (HR3.out.swap (i := i2) (j := t + 1) (by have := HK.out; omega) (by have := HK.out; omega))
                have HQ4 := Lib.hid (HQ3.out.swap (by omega) (HIV.out (by omega)) (HJV.out (by omega)))
                have hin : i2 < n := by omega
                have hjn : (t : Int) + 1 < (n : Int) := by omega
                have q3 : ((t : Int) + 1).toNat = t + 1 := by omega
                have q4 : IntKind.i64.wrap ((t : Int) + 1) = (t : Int) + 1 := by rw [show ((t : Int) + 1) = ((t + 1 : Nat) : Int) by omega]; exact wrap_nat64 (by omega)
                have q5 := wrap_nat64 (k := t) (by omega)
                generalize hu : dk[i2]! = u2 at *
                generalize hv : dk[t + 1]! = v2 at *
                clear hu hv
                go_upto_region 18 with fail
                go_region
                have HS4 := Lib.hid HSW.out.drew
                clear k1 k2 fz zb
                go_wp2_with fail
                go_roundw
                case rel => exact ⟨i2 + 1, t, _, by go_num, by go_num, HQ4.out, HS4.out⟩
                case measure => simp [intOf]; omega
end Go.Proofs.YtdpamikobmefeaaGreat

namespace Go.Proofs.YtdpamikobmefeaaGreat
open Go.RowKit Go.Sort
set_option maxRecDepth 100000
set_option linter.unusedVariables false
set_option linter.unusedSimpArgs false

theorem scs_go {b i : Nat} {d : Array Int} (h : i < b) (hl : ¬ d[i]! < d[i - 1]!) : scanSorted ltInt d b i = scanSorted ltInt d b (i + 1) := by
  conv => lhs; unfold scanSorted
  rw [if_pos (by simp only [ltInt, h, decide_true, Bool.true_and, Bool.not_eq_true', decide_eq_false_iff_not]; exact hl)]
theorem scs_stop {b i : Nat} {d : Array Int} (h : b ≤ i ∨ d[i]! < d[i - 1]!) : scanSorted ltInt d b i = i := by
  unfold scanSorted
  rw [if_neg]
  rcases h with h | h
  · simp; omega
  · simp [ltInt, h]
theorem shd_go {j : Nat} {d : Array Int} (hl : d[j + 1]! < d[j]!) : shiftDown ltInt (j + 1) d = shiftDown ltInt j (swp d (j + 1) j) := by
  conv => lhs; unfold shiftDown
  rw [if_neg (by simp [ltInt, hl])]
theorem shd_stop {j : Nat} {d : Array Int} (hl : ¬ d[j + 1]! < d[j]!) : shiftDown ltInt (j + 1) d = d := by
  unfold shiftDown
  rw [if_pos (by simp only [ltInt, Bool.not_eq_true', decide_eq_false_iff_not]; exact hl)]
theorem shu_go {b j : Nat} {d : Array Int} (h : j < b) (hl : d[j]! < d[j - 1]!) : shiftUp ltInt b j d = shiftUp ltInt b (j + 1) (swp d j (j - 1)) := by
  conv => lhs; unfold shiftUp
  rw [if_pos h, if_neg (by simp [ltInt, hl])]
theorem shu_stop {b j : Nat} {d : Array Int} (h : b ≤ j ∨ ¬ d[j]! < d[j - 1]!) : shiftUp ltInt b j d = d := by
  unfold shiftUp
  by_cases hb : j < b
  · rw [if_pos hb, if_pos (by simp only [ltInt, Bool.not_eq_true', decide_eq_false_iff_not]; exact h.resolve_left (by omega))]
  · rw [if_neg hb]
theorem size_shd : ∀ (j : Nat) (d : Array Int), (shiftDown ltInt j d).size = d.size
  | 0, d => rfl
  | j + 1, d => by
    by_cases h : d[j + 1]! < d[j]!
    · rw [shd_go h, size_shd j, size_swp']
    · rw [shd_stop h]
theorem size_shu (b : Nat) : ∀ (m j : Nat) (d : Array Int), b - j ≤ m → (shiftUp ltInt b j d).size = d.size
  | 0, j, d, h => by rw [shu_stop (.inl (by omega))]
  | m + 1, j, d, h => by
    by_cases hb : b ≤ j
    · rw [shu_stop (.inl hb)]
    · by_cases hl : d[j]! < d[j - 1]!
      · rw [shu_go (by omega) hl, size_shu b m _ _ (by omega), size_swp']
      · rw [shu_stop (.inr hl)]
/-- A step of it. -/
theorem pins_step (a b s i i2 : Nat) (d d2 d3 : Array Int) (h : scanSorted ltInt d b i = i2) (h1 : i2 ≠ b) (h2 : 50 ≤ b - a) (h3 : d2 = if i2 - a ≥ 2 then shiftDown ltInt (i2 - 1) (swp d i2 (i2 - 1)) else swp d i2 (i2 - 1)) (h4 : d3 = if b - i2 ≥ 2 then shiftUp ltInt b (i2 + 1) d2 else d2) :
    partialIns ltInt a b (s + 1) i d = partialIns ltInt a b s i2 d3 := by
  conv => lhs; unfold partialIns
  simp only [h, h1, if_false]
  rw [if_neg (by omega), ← h3, ← h4]
theorem pins_yes (a b s i : Nat) (d : Array Int) (h : scanSorted ltInt d b i = b) : partialIns ltInt a b (s + 1) i d = (d, true) := by
  unfold partialIns
  simp only [h, if_true]
theorem pins_no (a b s i i2 : Nat) (d : Array Int) (h : scanSorted ltInt d b i = i2) (h1 : i2 ≠ b) (h2 : b - a < 50) : partialIns ltInt a b (s + 1) i d = (d, false) := by
  unfold partialIns
  simp only [h, h1, if_false, h2, if_true]

set_option maxHeartbeats 16000000 in
theorem srt_pins_u64 {T : TypeId} {C0 : Array Value} {w0 w : World} {b cap x y n : Nat} {d : Array Int} (h : RowI .u64 T C0 w0 b d w) (hn : d.size = n) (hxy : x < y) (hy : y ≤ n) (hsz : n < 4611686018427387904) :
    Calls Tryz.prog 130 #[.slice (some ⟨b, 0, none⟩) n cap, .int .i64 x, .int .i64 y] w fun e w' => e = .returned (.bool (partialInsertionSort ltInt d x y).2) ∧ RowI .u64 T C0 w0 b (partialInsertionSort ltInt d x y).1 w' := by
  have HH := Lib.hid h; have HN := Lib.hid hn
  obtain ⟨R, hR⟩ : ∃ R, partialInsertionSort ltInt d x y = R := ⟨_, rfl⟩
  have HRR := Lib.hid (show partialIns ltInt x y 5 (x + 1) d = R from hR)
  rw [hR]
  obtain ⟨R1, R2⟩ := R
  dsimp only
  clear h hn hR
  go_enter Tryz.func130, Tryz.ntmps130
  go_wp2
  go_loopw [7, 8] (fun s7 s8 wr => ∃ (i s : Nat) (dk : Array Int), s7 = .int .i64 i ∧ s8 = .int .i64 s ∧ s ≤ 5 ∧ x < i ∧ i ≤ y ∧ dk.size = n ∧ RowI .u64 T C0 w0 b dk wr ∧ partialIns ltInt x y (5 - s) i dk = (R1, R2)) (fun _ s _ => 5 - (intOf s).toNat)
  case atStart => exact ⟨x + 1, 0, d, by go_num, rfl, by omega, by omega, by omega, HN.out, HH.out, HRR.out⟩
  case round =>
    obtain ⟨i, s, dk, rfl, rfl, hs5, hxi, hiy, hk, hR, hE⟩ := hrel
    have HR := Lib.hid hR; have HK := Lib.hid hk; have HE := Lib.hid hE
    clear hR hk hE
    by_cases hs : s < 5
    · have hsd : decide ((s : Int) < 5) = true := by simp only [decide_eq_true_eq]; omega
      obtain ⟨r, hr⟩ : ∃ r, 5 - s = r + 1 := ⟨4 - s, by omega⟩
      have HE := Lib.hid (show partialIns ltInt x y (r + 1) i dk = (R1, R2) by rw [← hr]; exact HE.out)
      go_upto_block 2 with fail
      go_cut [7] from 17 to 34 (fun s7 wx => ∃ i2 : Nat, s7 = .int .i64 i2 ∧ i ≤ i2 ∧ i2 ≤ y ∧ scanSorted ltInt dk y i = i2 ∧ RowI .u64 T C0 w0 b dk wx)
      case first =>
        go_wp2_with fail
        go_loopw [7] (fun s7 wq => ∃ i2 : Nat, s7 = .int .i64 i2 ∧ i ≤ i2 ∧ i2 ≤ y ∧ scanSorted ltInt dk y i = scanSorted ltInt dk y i2 ∧ RowI .u64 T C0 w0 b dk wq) (fun i _ => y - (intOf i).toNat)
        case atStart => exact ⟨i, rfl, Nat.le_refl _, hiy, rfl, HR.out⟩
        case round =>
          obtain ⟨i2, rfl, h1, h2, h3, h4⟩ := hrel
          have HS := Lib.hid h3; have HR2 := Lib.hid h4
          clear h3 h4
          by_cases hlt : i2 < y
          · obtain ⟨t, rfl⟩ : ∃ t, i2 = t + 1 := ⟨i2 - 1, by omega⟩
            have g1 : decide (t + 1 < y) = true := decide_eq_true hlt
            have g2 : decide ((t : Int) + 1 < (y : Int)) = true := decide_eq_true (by omega)
            have c1 := HR2.out.cell (i := t + 1) (by have := HK.out; omega)
            have c2 := HR2.out.cell (i := t) (by have := HK.out; omega)
            have hin : (t : Int) + 1 < (n : Int) := by omega
            have htn : (t : Int) < (n : Int) := by omega
            have q3 : ((t : Int) + 1).toNat = t + 1 := by omega
            have q4 : IntKind.i64.wrap ((t : Int) + 1) = (t : Int) + 1 := by rw [show ((t : Int) + 1) = ((t + 1 : Nat) : Int) by omega]; exact wrap_nat64 (by omega)
            have q5 := wrap_nat64 (k := t) (by omega)
            obtain ⟨v1, hv⟩ : ∃ v1, dk[t + 1]! = v1 := ⟨_, rfl⟩
            obtain ⟨v2, hv2⟩ : ∃ v2, dk[t]! = v2 := ⟨_, rfl⟩
            rw [hv] at c1; rw [hv2] at c2
            have HV := Lib.hid hv; have HV2 := Lib.hid hv2
            clear hv hv2
            by_cases hvv : v1 < v2
            · have HLT := Lib.hid (show decide (v1 < v2) = true from decide_eq_true hvv)
              have HST := Lib.hid (show scanSorted ltInt dk y i = t + 1 by rw [HS.out, scs_stop (.inr (by rw [HV.out, Nat.add_sub_cancel, HV2.out]; exact hvv))])
              clear hvv
              go_wp2_with fail
              go_quiet ((go_at_call 131; exact Calls.quiet_of_same (lessq_u64 _ _ _)))
              rw [HLT.out]
              go_wp2_with fail
              go_meet
              exact ⟨t + 1, by go_num, h1, h2, HST.out, HR2.out.drewN _⟩
            · have HLT := Lib.hid (show decide (v1 < v2) = false from decide_eq_false hvv)
              have HST := Lib.hid (show scanSorted ltInt dk y i = scanSorted ltInt dk y (t + 1 + 1) by rw [HS.out, scs_go hlt (by rw [HV.out, Nat.add_sub_cancel, HV2.out]; exact hvv)])
              clear hvv
              go_wp2_with fail
              go_quiet ((go_at_call 131; exact Calls.quiet_of_same (lessq_u64 _ _ _)))
              rw [HLT.out]
              go_wp2_with fail
              go_roundw
              case rel => exact ⟨t + 1 + 1, by go_num, by omega, by omega, HST.out, HR2.out.drewN _⟩
              case measure => simp [intOf]; omega
          · have g1 : decide (i2 < y) = false := decide_eq_false hlt
            have g2 : decide ((i2 : Int) < (y : Int)) = false := decide_eq_false (by omega)
            have HST := Lib.hid (show scanSorted ltInt dk y i = i2 by rw [HS.out, scs_stop (.inl (by omega))])
            go_wp2_with fail
            go_quiet (fail)
            go_wp2_with fail
            go_meet
            exact ⟨i2, rfl, h1, h2, HST.out, HR2.out.drewN _⟩
      case rest =>
        obtain ⟨i2, rfl, h1, h2, h3, h4⟩ := hcut
        have HS := Lib.hid h3; have HR2 := Lib.hid h4
        clear h3 h4
        by_cases hiy2 : i2 = y
        · have HF := Lib.hid (show dk = R1 ∧ true = R2 by
            have := HE.out
            rw [pins_yes _ _ _ _ _ (by rw [HS.out, hiy2])] at this
            simpa using this)
          subst hiy2
          go_wp2_with fail
          go_ret
          rw [← HF.out.1, ← HF.out.2]
          exact ⟨rfl, HR2.out⟩
        · have hne : ((i2 : Int) == (y : Int)) = false := by rw [beq_eq_false_iff_ne]; omega
          have hne2 : (i2 == y) = false := by rw [beq_eq_false_iff_ne]; exact hiy2
          by_cases h50 : y - x < 50
          · have HF := Lib.hid (show dk = R1 ∧ false = R2 by
              have := HE.out
              rw [pins_no _ _ _ _ _ _ HS.out hiy2 h50] at this
              simpa using this)
            go_wp2_with fail
            go_ret
            rw [← HF.out.1, ← HF.out.2]
            exact ⟨rfl, HR2.out⟩
          · obtain ⟨t, ht⟩ : ∃ t, t + 1 = i2 := ⟨i2 - 1, by omega⟩
            have E1 : (i2 : Int) - 1 = (t : Int) := by omega
            have g50 : decide ((y : Int) - (x : Int) < 50) = false := by simp only [decide_eq_false_iff_not]; omega
            have HT := Lib.hid ht
            have hxt : x ≤ t := by omega
            have k1 := HR2.out.cell (i := i2) (by have := HK.out; omega)
            have k2 := HR2.out.cell (i := t) (by have := HK.out; omega)
            have fz := HR2.out.free
            have zb := HR2.out.lt
            have HSW := Lib.hid (HR2.out.swap (i := i2) (j := t) (by have := HK.out; omega) (by have := HK.out; omega))
            have hin : i2 < n := by omega
            have htn : t < n := by omega
            have q5 := wrap_nat64 (k := t) (by omega)
            obtain ⟨d1, hd1⟩ : ∃ d1, d1 = swp dk i2 t := ⟨_, rfl⟩
            obtain ⟨d2, hd2⟩ : ∃ d2, d2 = if i2 - x ≥ 2 then shiftDown ltInt t d1 else d1 := ⟨_, rfl⟩
            obtain ⟨d3, hd3⟩ : ∃ d3, d3 = if y - i2 ≥ 2 then shiftUp ltInt y (i2 + 1) d2 else d2 := ⟨_, rfl⟩
            have HE3 := Lib.hid (show partialIns ltInt x y r i2 d3 = (R1, R2) by
              rw [← HE.out]
              exact (pins_step x y r i i2 dk d2 d3 HS.out hiy2 (by omega) (by rw [hd2, hd1, show i2 - 1 = t by omega]) hd3).symm)
            have HD1 := Lib.hid (show d1.size = n by rw [hd1, size_swp']; exact HK.out)
            have HD2 := Lib.hid (show d2.size = n by
              rw [hd2]
              split
              · rw [size_shd]; exact HD1.out
              · exact HD1.out)
            have HD3 := Lib.hid (show d3.size = n by
              rw [hd3]
              split
              · rw [size_shu _ _ _ _ (Nat.le_refl _)]; exact HD2.out
              · exact HD2.out)
            rw [← hd1] at HSW
            have HDD2 := Lib.hid hd2; have HDD3 := Lib.hid hd3
            clear hd1 hd2 hd3 ht
            generalize hu : dk[i2]! = u2 at *
            generalize hv : dk[t]! = v2 at *
            clear hu hv
            go_upto_region 11 with fail
            go_region
            have HS1 := Lib.hid HSW.out.drew
            generalize (((_ : World).setCell ⟨b, i2, none⟩ (.int .u64 v2)).setCell ⟨b, t, none⟩ (.int .u64 u2)).drew = w1 at HS1 ⊢
            clear k1 k2 fz zb HSW HS HR2 HK HE HR
            go_upto_if 61 with fail
            go_cut [9] from 62 to 94 (fun s9 wx => RowI .u64 T C0 w0 b d2 wx)
            case first =>
              by_cases hc : x + 2 ≤ i2
              · have HD := Lib.hid (show d2 = shiftDown ltInt t d1 by rw [HDD2.out, if_pos (by omega)])
                have e3 : (2 : Int) ≤ (i2 : Int) - (x : Int) := by omega
                go_wp2_with fail
                go_loopw [9] (fun s9 wq => ∃ (j : Nat) (dj : Array Int), s9 = .int .i64 j ∧ j ≤ t ∧ dj.size = n ∧ RowI .u64 T C0 w0 b dj wq ∧ shiftDown ltInt j dj = d2) (fun j _ => (intOf j).toNat)
                case atStart => exact ⟨t, d1, by first | rfl | go_num, Nat.le_refl _, HD1.out, HS1.out, HD.out.symm⟩
                case round =>
                  obtain ⟨j, dj, rfl, hjt, hsz2, hRj, hEj⟩ := hrel
                  have HRj := Lib.hid hRj; have HEj := Lib.hid hEj; have HKj := Lib.hid hsz2
                  clear hRj hEj hsz2
                  cases j with
                  | zero =>
                    have HF := Lib.hid (show dj = d2 by rw [← HEj.out]; rfl)
                    go_wp2_with fail
                    go_meet
                    rw [← HF.out]; exact HRj.out
                  | succ q =>
                    have k1 := HRj.out.cell (i := q + 1) (by have := HKj.out; omega)
                    have k2 := HRj.out.cell (i := q) (by have := HKj.out; omega)
                    have hqn : (q : Int) + 1 < (n : Int) := by omega
                    have hqn2 : (q : Int) < (n : Int) := by omega
                    have p3 : ((q : Int) + 1).toNat = q + 1 := by omega
                    have p4 : IntKind.i64.wrap ((q : Int) + 1) = (q : Int) + 1 := by rw [show ((q : Int) + 1) = ((q + 1 : Nat) : Int) by omega]; exact wrap_nat64 (by omega)
                    have p5 := wrap_nat64 (k := q) (by omega)
                    have HSWF := Lib.hid (fun (wy : World) (Ry : RowI .u64 T C0 w0 b dj wy) => (⟨Ry.cell (i := q + 1) (by have := HKj.out; omega), Ry.cell (i := q) (by have := HKj.out; omega), Ry.swap (i := q + 1) (j := q) (by have := HKj.out; omega) (by have := HKj.out; omega)⟩ : _ ∧ _ ∧ _))
                    have HGO := Lib.hid (fun (h : dj[q + 1]! < dj[q]!) => (shd_go h).symm.trans HEj.out)
                    have HNO := Lib.hid (fun (h : ¬ dj[q + 1]! < dj[q]!) => (shd_stop h).symm.trans HEj.out)
                    generalize hu : dj[q + 1]! = u3 at *
                    generalize hv : dj[q]! = v3 at *
                    clear hu hv
                    by_cases huv : u3 < v3
                    · have HLT := Lib.hid (show decide (u3 < v3) = true from decide_eq_true huv)
                      have HF := Lib.hid (HGO.out huv)
                      clear huv HGO HNO
                      go_wp2_with fail
                      go_quiet ((go_at_call 131; exact Calls.quiet_of_same (lessq_u64 _ _ _)))
                      rw [HLT.out]
                      go_upto_region 17 with fail
                      refine wp_abs (fun wy => RowI .u64 T C0 w0 b dj wy) (HRj.out.drewN _) ?_
                      intro wy Ry
                      obtain ⟨m1, m2, m3⟩ := HSWF.out wy Ry
                      have HS3 := Lib.hid m3
                      have fy := Ry.free
                      have zy := Ry.lt
                      clear k1 k2 m3 Ry
                      go_region
                      have HS4 := Lib.hid HS3.out.drew
                      clear m1 m2 fy zy
                      go_wp2_with fail
                      go_roundw
                      case rel => exact ⟨q, _, by go_num, by omega, by rw [size_swp']; exact HKj.out, HS4.out, HF.out⟩
                      case measure => simp [intOf]
                    · have HLT := Lib.hid (show decide (u3 < v3) = false from decide_eq_false huv)
                      have HF := Lib.hid (HNO.out huv)
                      clear huv HGO HNO
                      go_wp2_with fail
                      go_quiet ((go_at_call 131; exact Calls.quiet_of_same (lessq_u64 _ _ _)))
                      rw [HLT.out]
                      go_wp2_with fail
                      go_meet
                      rw [← HF.out]; exact HRj.out.drewN _
              · have HD := Lib.hid (show d2 = d1 by rw [HDD2.out, if_neg (by omega)])
                have e3 : ¬ (2 : Int) ≤ (i2 : Int) - (x : Int) := by omega
                go_wp2_with fail
                go_meet
                rw [HD.out]; exact HS1.out
            case rest =>
              have HC2 := Lib.hid hcut
              clear hcut HS1 HD1
              have HRE := Lib.hid (show partialIns ltInt x y (5 - (s + 1)) i2 d3 = (R1, R2) by rw [show 5 - (s + 1) = r by omega]; exact HE3.out)
              have hii2 : x < i2 ∧ i2 ≤ y := by omega
              (
                by_cases hc : i2 + 2 ≤ y
                · have HD := Lib.hid (show d3 = shiftUp ltInt y (i2 + 1) d2 by rw [HDD3.out, if_pos (by omega)])
                  have e3 : (2 : Int) ≤ (y : Int) - (i2 : Int) := by omega
                  go_wp2_with fail
                  go_loopw [10] (fun s10 wq => ∃ (j : Nat) (dj : Array Int), s10 = .int .i64 j ∧ i2 + 1 ≤ j ∧ j ≤ y ∧ dj.size = n ∧ RowI .u64 T C0 w0 b dj wq ∧ shiftUp ltInt y j dj = d3) (fun j _ => y - (intOf j).toNat)
                  case atStart => exact ⟨i2 + 1, d2, by first | rfl | go_num, by omega, by omega, HD2.out, HC2.out, HD.out.symm⟩
                  case round =>
                    obtain ⟨j, dj, rfl, hjt, hjb, hsz2, hRj, hEj⟩ := hrel
                    have HRj := Lib.hid hRj; have HEj := Lib.hid hEj; have HKj := Lib.hid hsz2
                    clear hRj hEj hsz2
                    by_cases hjl : j < y
                    · obtain ⟨q, rfl⟩ : ∃ q, j = q + 1 := ⟨j - 1, by omega⟩
                      have k1 := HRj.out.cell (i := q + 1) (by have := HKj.out; omega)
                      have k2 := HRj.out.cell (i := q) (by have := HKj.out; omega)
                      have hjz : (q : Int) + 1 < (y : Int) := by omega
                      have hqn : (q : Int) + 1 < (n : Int) := by omega
                      have hqn2 : (q : Int) < (n : Int) := by omega
                      have p3 : ((q : Int) + 1).toNat = q + 1 := by omega
                      have p4 : IntKind.i64.wrap ((q : Int) + 1) = (q : Int) + 1 := by rw [show ((q : Int) + 1) = ((q + 1 : Nat) : Int) by omega]; exact wrap_nat64 (by omega)
                      have p5 := wrap_nat64 (k := q) (by omega)
                      have HSWF := Lib.hid (fun (wy : World) (Ry : RowI .u64 T C0 w0 b dj wy) => (⟨Ry.cell (i := q + 1) (by have := HKj.out; omega), Ry.cell (i := q) (by have := HKj.out; omega), Ry.swap (i := q + 1) (j := q) (by have := HKj.out; omega) (by have := HKj.out; omega)⟩ : _ ∧ _ ∧ _))
                      have HGO := Lib.hid (fun (h : dj[q + 1]! < dj[q]!) => (shu_go (b := y) hjl (by rw [Nat.add_sub_cancel]; exact h)).symm.trans HEj.out)
                      have HNO := Lib.hid (fun (h : ¬ dj[q + 1]! < dj[q]!) => (shu_stop (b := y) (.inr (by rw [Nat.add_sub_cancel]; exact h))).symm.trans HEj.out)
                      generalize hu : dj[q + 1]! = u3 at *
                      generalize hv : dj[q]! = v3 at *
                      clear hu hv
                      by_cases huv : u3 < v3
                      · have HLT := Lib.hid (show decide (u3 < v3) = true from decide_eq_true huv)
                        have HF := Lib.hid (HGO.out huv)
                        clear huv HGO HNO
                        go_wp2_with fail
                        go_quiet ((go_at_call 131; exact Calls.quiet_of_same (lessq_u64 _ _ _)))
                        rw [HLT.out]
                        go_upto_region 23 with fail
                        refine wp_abs (fun wy => RowI .u64 T C0 w0 b dj wy) (HRj.out.drewN _) ?_
                        intro wy Ry
                        obtain ⟨m1, m2, m3⟩ := HSWF.out wy Ry
                        have HS3 := Lib.hid m3
                        have fy := Ry.free
                        have zy := Ry.lt
                        clear k1 k2 m3 Ry
                        go_region
                        have HS4 := Lib.hid HS3.out.drew
                        clear m1 m2 fy zy
                        go_wp2_with fail
                        go_roundw
                        case rel => exact ⟨q + 1 + 1, _, by go_num, by omega, by omega, by rw [size_swp']; exact HKj.out, HS4.out, HF.out⟩
                        case measure => simp [intOf]; omega
                      · have HLT := Lib.hid (show decide (u3 < v3) = false from decide_eq_false huv)
                        have HF := Lib.hid (HNO.out huv)
                        clear huv HGO HNO
                        go_wp2_with fail
                        go_quiet ((go_at_call 131; exact Calls.quiet_of_same (lessq_u64 _ _ _)))
                        rw [HLT.out]
                        go_wp2_with fail
                        go_roundw
                        case rel => exact ⟨i2, s + 1, d3, rfl, by go_num, by omega, hii2.1, hii2.2, HD3.out, by rw [← HF.out]; exact HRj.out.drewN _, HRE.out⟩
                        case measure => simp [intOf]; omega
                    · have HF := Lib.hid (show dj = d3 by rw [← HEj.out, shu_stop (.inl (by omega))])
                      have hjz : ¬ (j : Int) < (y : Int) := by omega
                      go_wp2_with fail
                      go_roundw
                      case rel => exact ⟨i2, s + 1, d3, rfl, by go_num, by omega, hii2.1, hii2.2, HD3.out, by rw [← HF.out]; exact HRj.out, HRE.out⟩
                      case measure => simp [intOf]; omega
                · have HD := Lib.hid (show d3 = d2 by rw [HDD3.out, if_neg (by omega)])
                  have e3 : ¬ (2 : Int) ≤ (y : Int) - (i2 : Int) := by omega
                  go_wp2_with fail
                  go_roundw
                  case rel => exact ⟨i2, s + 1, d3, rfl, by go_num, by omega, hii2.1, hii2.2, HD3.out, by rw [HD.out]; exact HC2.out, HRE.out⟩
                  case measure => simp [intOf]; omega
              )
    · obtain rfl : s = 5 := by omega
      have HF := Lib.hid (show dk = R1 ∧ false = R2 by
        have := HE.out
        simpa [partialIns] using this)
      go_wp2
      go_ret
      rw [← HF.out.1, ← HF.out.2]
      exact ⟨rfl, HR.out⟩
end Go.Proofs.YtdpamikobmefeaaGreat

namespace Go.Proofs.YtdpamikobmefeaaGreat
open Go.Sort
set_option linter.unusedVariables false
set_option linter.unusedSimpArgs false

theorem sorted_iff {a b : Nat} {d : Array Int} : SortedIn ltInt a b d ↔ ∀ i j, a ≤ i → i < j → j < b → d[i]! ≤ d[j]! := by
  unfold SortedIn
  constructor
  · intro h i j h1 h2 h3
    have := h i j h1 h2 h3
    simp [ltInt] at this; omega
  · intro h i j h1 h2 h3
    have := h i j h1 h2 h3
    simp [ltInt]; omega
theorem below_iff {a b : Nat} {d : Array Int} : Go.Sort.Below ltInt a b d ↔ (a = 0 ∨ ∀ i, a ≤ i → i < b → d[a - 1]! ≤ d[i]!) := by
  unfold Go.Sort.Below
  constructor
  · rintro (h | h)
    · exact .inl h
    · exact .inr fun i h1 h2 => by
        have := h i h1 h2
        simp [ltInt] at this; omega
  · rintro (h | h)
    · exact .inl h
    · exact .inr fun i h1 h2 => by
        have := h i h1 h2
        simp [ltInt]; omega
/-- What is still to be sorted of a row: the places from a to b; it is sorted when these are. -/
structure PS (x y : Nat) (d0 : Array Int) (a b : Nat) (dk : Array Int) : Prop where
  xa : x ≤ a
  ab : a ≤ b
  yb : b ≤ y
  ysz : y ≤ d0.size
  perm : PermIn x y d0 dk
  bel : Go.Sort.Below ltInt a b dk
  fin : ∀ d', PermIn a b dk d' → SortedIn ltInt a b d' → SortedIn ltInt x y d'
section
variable {x y a b m : Nat} {d0 dk d1 d4 d5 : Array Int}
theorem PS.start (h : Go.Sort.Below ltInt x y d0) (hxy : x ≤ y) (hy : y ≤ d0.size) : PS x y d0 x y d0 := ⟨Nat.le_refl _, hxy, Nat.le_refl _, hy, permIn_refl _ _ _, h, fun _ _ h => h⟩
theorem PS.sz (h : PS x y d0 a b dk) : dk.size = d0.size := h.perm.1
theorem PS.bsz (h : PS x y d0 a b dk) : b ≤ dk.size := by have := h.yb; have := h.ysz; have := h.sz; omega
theorem PS.bel' (h : PS x y d0 a b dk) (hp : PermIn a b dk d1) : Go.Sort.Below ltInt a b d1 := by
  rcases h.bel with h0 | h0
  · exact .inl h0
  · by_cases ha : a = 0
    · exact .inl ha
    · refine .inr fun i h1 h2 => ?_
      rw [hp.2.1 (a - 1) (.inl (by omega))]
      exact permIn_all dk d1 a b (fun v => ltInt v dk[a - 1]! = false) h.bsz hp (fun i h1 h2 => h0 i h1 h2) i h1 h2
theorem PS.over (h : PS x y d0 a b dk) (hp : PermIn a b dk d1) : PermIn x y d0 d1 :=
  permIn_trans _ _ _ _ _ h.perm (permIn_mono dk d1 a b x y h.xa h.yb (by have := h.ysz; have := h.sz; omega) hp)
theorem PS.go (h : PS x y d0 a b dk) (hp : PermIn a b dk d1) : PS x y d0 a b d1 :=
  ⟨h.xa, h.ab, h.yb, h.ysz, h.over hp, h.bel' hp, fun d' h1 h2 => h.fin d' (permIn_trans _ _ _ _ _ hp h1) h2⟩
theorem PS.done (h : PS x y d0 a b dk) (hp : PermIn a b dk d1) (hs : SortedIn ltInt a b d1) : PermIn x y d0 d1 ∧ SortedIn ltInt x y d1 := ⟨h.over hp, h.fin d1 hp hs⟩
theorem ps_bel_left (h : PS x y d0 a b dk) (hm : m < b) (hp : PermIn a b dk d4) : Go.Sort.Below ltInt a m d4 := by
  rcases h.bel' hp with h0 | h0
  · exact .inl h0
  · exact .inr fun i h1 h2 => h0 i h1 (by omega)
theorem ps_bel_right (hr : ∀ t, m < t → t < b → ¬ LtP d4[m]! d4[t]!) : Go.Sort.Below ltInt (m + 1) b d4 := by
  refine .inr fun i h1 h2 => ?_
  have := hr i (by omega) h2
  simp only [Nat.add_sub_cancel, ltInt, decide_eq_false_iff_not]
  exact this
/-- The left side is sorted: the right one is left. -/
theorem PS.left (h : PS x y d0 a b dk) (h1 : a ≤ m) (h2 : m < b) (hp : PermIn a b dk d4) (hl : ∀ t, a ≤ t → t < m → LtP d4[m]! d4[t]!) (hr : ∀ t, m < t → t < b → ¬ LtP d4[m]! d4[t]!) (hp5 : PermIn a m d4 d5) (hs : SortedIn ltInt a m d5) : PS x y d0 (m + 1) b d5 := by
  have hb := h.bsz
  have z4 : d4.size = dk.size := hp.1
  have z5 : d5.size = d4.size := hp5.1
  have q45 : PermIn a b d4 d5 := permIn_mono d4 d5 a m a b (Nat.le_refl _) (by omega) (by omega) hp5
  have hk5 : PermIn a b dk d5 := permIn_trans _ _ _ _ _ hp q45
  have hm5 : d5[m]! = d4[m]! := hp5.2.1 m (.inr (Nat.le_refl _))
  have hl5 : ∀ t, a ≤ t → t < m → d5[t]! < d5[m]! := fun t q1 q2 => by
    rw [hm5]
    exact permIn_all d4 d5 a m (fun v => v < d4[m]!) (by omega) hp5 (fun i h1 h2 => hl i h1 h2) t q1 q2
  have hr5 : ∀ t, m < t → t < b → d5[m]! ≤ d5[t]! := fun t q1 q2 => by
    rw [hm5, hp5.2.1 t (.inr (by omega))]
    have := hr t q1 q2
    unfold LtP at this; omega
  refine ⟨by have := h.xa; omega, by omega, h.yb, h.ysz, h.over hk5, ?_, fun d' r1 r2 => ?_⟩
  · exact below_iff.2 (.inr fun i h1 h2 => hr5 i (by omega) h2)
  · have z' : d'.size = d5.size := r1.1
    refine h.fin d' (permIn_trans _ _ _ _ _ hk5 (permIn_mono d5 d' (m + 1) b a b (by omega) (Nat.le_refl _) (by omega) r1)) (sorted_iff.2 fun i j q1 q2 q3 => ?_)
    have hm' : d'[m]! = d5[m]! := r1.2.1 m (.inl (by omega))
    have hr' : ∀ t, m < t → t < b → d5[m]! ≤ d'[t]! := fun t s1 s2 => permIn_all d5 d' (m + 1) b (fun v => d5[m]! ≤ v) (by omega) r1 (fun i h1 h2 => hr5 i (by omega) h2) t (by omega) s2
    have hlo : ∀ t, t < m → d'[t]! = d5[t]! := fun t s1 => r1.2.1 t (.inl (by omega))
    rcases Nat.lt_trichotomy i m with hi | hi | hi
    · rw [hlo i hi]
      rcases Nat.lt_trichotomy j m with hj | hj | hj
      · rw [hlo j hj]; exact sorted_iff.1 hs i j q1 q2 hj
      · rw [hj, hm']; have := hl5 i q1 hi; omega
      · have := hl5 i q1 hi; have := hr' j hj q3; omega
    · rw [hi, hm']; exact hr' j (by omega) q3
    · exact sorted_iff.1 r2 i j (by omega) q2 q3
/-- The right side is sorted: the left one is left. -/
theorem PS.right (h : PS x y d0 a b dk) (h1 : a ≤ m) (h2 : m < b) (hp : PermIn a b dk d4) (hl : ∀ t, a ≤ t → t < m → LtP d4[m]! d4[t]!) (hr : ∀ t, m < t → t < b → ¬ LtP d4[m]! d4[t]!) (hp5 : PermIn (m + 1) b d4 d5) (hs : SortedIn ltInt (m + 1) b d5) : PS x y d0 a m d5 := by
  have hb := h.bsz
  have z4 : d4.size = dk.size := hp.1
  have z5 : d5.size = d4.size := hp5.1
  have q45 : PermIn a b d4 d5 := permIn_mono d4 d5 (m + 1) b a b (by omega) (Nat.le_refl _) (by omega) hp5
  have hk5 : PermIn a b dk d5 := permIn_trans _ _ _ _ _ hp q45
  have hm5 : d5[m]! = d4[m]! := hp5.2.1 m (.inl (by omega))
  have hl5 : ∀ t, a ≤ t → t < m → d5[t]! < d5[m]! := fun t q1 q2 => by
    rw [hm5, hp5.2.1 t (.inl (by omega))]
    exact hl t q1 q2
  have hr5 : ∀ t, m < t → t < b → d5[m]! ≤ d5[t]! := fun t q1 q2 => by
    rw [hm5]
    exact permIn_all d4 d5 (m + 1) b (fun v => d4[m]! ≤ v) (by omega) hp5 (fun i h1 h2 => by have := hr i (by omega) h2; unfold LtP at this; omega) t (by omega) q2
  refine ⟨h.xa, h1, by have := h.yb; omega, h.ysz, h.over hk5, ?_, fun d' r1 r2 => ?_⟩
  · rcases h.bel' hk5 with h0 | h0
    · exact .inl h0
    · exact .inr fun i h1 h2 => h0 i h1 (by omega)
  · have z' : d'.size = d5.size := r1.1
    refine h.fin d' (permIn_trans _ _ _ _ _ hk5 (permIn_mono d5 d' a m a b (Nat.le_refl _) (by omega) (by omega) r1)) (sorted_iff.2 fun i j q1 q2 q3 => ?_)
    have hm' : d'[m]! = d5[m]! := r1.2.1 m (.inr (Nat.le_refl _))
    have hl' : ∀ t, a ≤ t → t < m → d'[t]! < d5[m]! := fun t s1 s2 => permIn_all d5 d' a m (fun v => v < d5[m]!) (by omega) r1 (fun i h1 h2 => hl5 i h1 h2) t s1 s2
    have hhi : ∀ t, m < t → d'[t]! = d5[t]! := fun t s1 => r1.2.1 t (.inr (by omega))
    rcases Nat.lt_trichotomy i m with hi | hi | hi
    · rcases Nat.lt_trichotomy j m with hj | hj | hj
      · exact sorted_iff.1 r2 i j q1 q2 hj
      · rw [hj, hm']; have := hl' i q1 hi; omega
      · rw [hhi j hj]; have := hl' i q1 hi; have := hr5 j hj q3; omega
    · rw [hi, hm', hhi j (by omega)]; exact hr5 j (by omega) q3
    · rw [hhi i hi, hhi j (by omega)]; exact sorted_iff.1 hs i j (by omega) q2 q3
/-- What equals the pivot stands in front: the rest is left. -/
theorem PS.eq {p : Int} (h : PS x y d0 a b dk) (h0 : 0 < a) (h1 : a < m) (h2 : m ≤ b) (hle : ¬ dk[a - 1]! < p) (hp : PermIn a b dk d4) (hl : ∀ t, a ≤ t → t < m → LeP p d4[t]!) (hr : ∀ t, m ≤ t → t < b → p < d4[t]!) : PS x y d0 m b d4 := by
  have hb := h.bsz
  have z4 : d4.size = dk.size := hp.1
  have hbel := (below_iff.1 (h.bel' hp)).resolve_left (by omega)
  have ha4 : d4[a - 1]! = dk[a - 1]! := hp.2.1 _ (.inl (by omega))
  have heq : ∀ t, a ≤ t → t < m → d4[t]! = p := fun t q1 q2 => by
    have r1 := hbel t q1 (by omega)
    have r2 := hl t q1 q2
    unfold LeP at r2
    rw [ha4] at r1; omega
  refine ⟨by have := h.xa; omega, h2, h.yb, h.ysz, h.over hp, ?_, fun d' r1 r2 => ?_⟩
  · refine below_iff.2 (.inr fun i q1 q2 => ?_)
    rw [heq (m - 1) (by omega) (by omega)]
    have := hr i q1 q2; omega
  · have z' : d'.size = d4.size := r1.1
    refine h.fin d' (permIn_trans _ _ _ _ _ hp (permIn_mono d4 d' m b a b (by omega) (Nat.le_refl _) (by omega) r1)) (sorted_iff.2 fun i j q1 q2 q3 => ?_)
    have hlo : ∀ t, a ≤ t → t < m → d'[t]! = p := fun t s1 s2 => by rw [r1.2.1 t (.inl s2)]; exact heq t s1 s2
    have hr' : ∀ t, m ≤ t → t < b → p < d'[t]! := fun t s1 s2 => permIn_all d4 d' m b (fun v => p < v) (by omega) r1 (fun i h1 h2 => hr i h1 h2) t s1 s2
    rcases Nat.lt_or_ge i m with hi | hi
    · rw [hlo i q1 hi]
      rcases Nat.lt_or_ge j m with hj | hj
      · rw [hlo j (by omega) hj]; omega
      · have := hr' j hj q3; omega
    · exact sorted_iff.1 r2 i j hi q2 q3
end
end Go.Proofs.YtdpamikobmefeaaGreat

namespace Go.Proofs.YtdpamikobmefeaaGreat
open Go.RowKit Go.Sort
set_option maxRecDepth 100000
set_option linter.unusedVariables false
set_option linter.unusedSimpArgs false

/-- The row, its places from x to y sorted. -/
def Srtd (k : IntKind) (T : TypeId) (C0 : Array Value) (w0 : World) (b : Nat) (d : Array Int) (x y : Nat) (e : Ending) (w : World) : Prop :=
  e = .returned (.tuple #[]) ∧ ∃ d', PermIn x y d d' ∧ SortedIn ltInt x y d' ∧ RowI k T C0 w0 b d' w
theorem pins_of {x y : Nat} {d : Array Int} (hxy : x < y) (hy : y ≤ d.size) (hb : Go.Sort.Below ltInt x y d) : PermIn x y d (partialInsertionSort ltInt d x y).1 ∧ ((partialInsertionSort ltInt d x y).2 = true → SortedIn ltInt x y (partialInsertionSort ltInt d x y).1) :=
  partialInsertionSort_holds swo_ltInt d x y hxy hy hb

set_option maxHeartbeats 16000000 in
theorem srt_pdq_u64 {T : TypeId} {C0 : Array Value} {b cap n : Nat} (hsz : n < 4611686018427387904) : ∀ (g : Nat) {w0 w : World} {d : Array Int} {x y lim : Nat}, RowI .u64 T C0 w0 b d w → d.size = n → x ≤ y → y ≤ n → y - x ≤ g → lim ≤ 64 → Go.Sort.Below ltInt x y d →
    Calls Tryz.prog 120 #[.slice (some ⟨b, 0, none⟩) n cap, .int .i64 x, .int .i64 y, .int .i64 lim] w (Srtd .u64 T C0 w0 b d x y)
  := by
  intro g
  induction g using Nat.strongRecOn with
  | _ g ih =>
    intro w0 w d x y lim h hn hxy hy hg hlim hbel
    have IH := Lib.hid ih
    have HH := Lib.hid h; have HN := Lib.hid hn
    have HP := Lib.hid (PS.start hbel hxy (by omega))
    clear h hn hbel ih
    go_enter Tryz.func120, Tryz.ntmps120
    go_wp2_with fail
    go_loopw [1, 2, 3, 8, 9] (fun s1 s2 s3 s8 s9 wr => ∃ (a c l : Nat) (wb wp : Bool) (dk : Array Int), s1 = .int .i64 a ∧ s2 = .int .i64 c ∧ s3 = .int .i64 l ∧ s8 = .bool wb ∧ s9 = .bool wp ∧ l ≤ 64 ∧ PS x y d a c dk ∧ RowI .u64 T C0 w0 b dk wr) (fun a c _ _ _ _ => (intOf c).toNat - (intOf a).toNat)
    case atStart => exact ⟨x, y, lim, true, true, d, rfl, rfl, rfl, rfl, rfl, hlim, HP.out, HH.out⟩
    case round =>
      obtain ⟨a, c, l, wb, wp, dk, rfl, rfl, rfl, rfl, rfl, hl, hP, hR⟩ := hrel
      have HP := Lib.hid hP; have HR := Lib.hid hR
      have HK := Lib.hid (show dk.size = n by rw [hP.sz]; exact HN.out)
      have hac := hP.ab; have hcy := hP.yb; have hxa := hP.xa
      clear hP hR
      by_cases h12 : c ≤ a + 12
      · have HI := Lib.hid (insertionSort_holds swo_ltInt dk a c hac (by have := HK.out; omega))
        have HD := Lib.hid (HP.out.done HI.out.1 HI.out.2)
        have e12 : (c : Int) - (a : Int) ≤ 12 := by omega
        have hcn := Lib.hid (srt_ins_u64 (cap := cap) HR.out hac (by have := HK.out; omega) (by have := HK.out; omega))
        have HC := hcn.out
        rw [HK.out] at HC
        have HC := Lib.hid HC
        go_wp2_with (go_at_call 125; go_loud ((with_reducible refine HC.out.mono ?_); rintro e2 w2 ⟨rfl, hR2⟩; have HR2 := Lib.hid hR2; clear hR2))
        (try simp only [Exit.inBlock, Exit.then]); refine bodyPost_ret (results_none rfl _ _ _) rfl ?_
        exact ⟨rfl, _, HD.out.1, HD.out.2, HR2.out⟩
      · have e12 : ¬ (c : Int) - (a : Int) ≤ 12 := by omega
        by_cases hl0 : l = 0
        · subst hl0
          have HI := Lib.hid (heapSort_holds swo_ltInt dk a c hac (by have := HK.out; omega))
          have HD := Lib.hid (HP.out.done HI.out.1 HI.out.2)
          go_wp2_with (go_at_call 126; go_loud ((with_reducible refine (srt_heap_u64 HR.out HK.out (by omega) (by omega) hsz).mono ?_); rintro e2 w2 ⟨rfl, hR2⟩; have HR2 := Lib.hid hR2; clear hR2))
          (try simp only [Exit.inBlock, Exit.then]); refine bodyPost_ret (results_none rfl _ _ _) rfl ?_
          exact ⟨rfl, _, HD.out.1, HD.out.2, HR2.out⟩
        · have hl1 : ((l : Int) == 0) = false := by rw [beq_eq_false_iff_ne]; omega
          have hl2 : (l == 0) = false := by rw [beq_eq_false_iff_ne]; exact hl0
          go_upto_if 35 with fail
          go_cut [3] from 36 to 41 (fun s3 wx => ∃ (l1 : Nat) (d1 : Array Int), s3 = .int .i64 l1 ∧ l1 ≤ 64 ∧ PermIn a c dk d1 ∧ RowI .u64 T C0 w0 b d1 wx)
          case first =>
            cases wb with
            | true =>
              go_wp2_with fail
              go_meet
              exact ⟨l, dk, rfl, hl, permIn_refl _ _ _, HR.out⟩
            | false =>
              go_wp2_with (go_at_call 127; go_loud ((with_reducible refine (srt_brk_u64 HR.out HK.out (by omega) (by omega) hsz).mono ?_); rintro e2 w2 ⟨rfl, d1, hp1, hr1⟩; have HP1 := Lib.hid hp1; have HR1 := Lib.hid hr1; clear hp1 hr1))
              go_meet
              exact ⟨l - 1, d1, by congr 1; omega, by omega, HP1.out, HR1.out⟩
          case rest =>
            obtain ⟨l1, d1, rfl, hl1', hp1, hr1⟩ := hcut
            have HP1 := Lib.hid (HP.out.go hp1); have HR1 := Lib.hid hr1
            have HK1 := Lib.hid (show d1.size = n by rw [hp1.1]; exact HK.out)
            clear hp1 hr1 HR HK HP hl1 hl2 hl0
            go_upto_if 50 with (go_at_call 128; go_loud ((with_reducible refine (srt_piv_u64 HR1.out HK1.out (by omega) (by omega) hsz).mono ?_); rintro e2 w2 ⟨pv, hh, rfl, hpv1, hpv2, hh1, hh2, hr2⟩; have HR2 := Lib.hid hr2; clear hr2))
            go_cut [11, 12] from 51 to 60 (fun s11 s12 wx => ∃ (pv' : Nat) (h' : Int) (d2 : Array Int), s11 = .int .i64 pv' ∧ s12 = .int .i64 h' ∧ a ≤ pv' ∧ pv' < c ∧ PermIn a c d1 d2 ∧ RowI .u64 T C0 w0 b d2 wx)
            case first =>
              by_cases h2 : hh = 2
              · subst h2
                go_wp2_with (go_at_call 129; go_loud ((with_reducible refine (srt_rev_u64 HR2.out HK1.out (by omega) (by omega) hsz).mono ?_); rintro e3 w3 ⟨rfl, d2, hp2, hr3⟩; have HP2 := Lib.hid hp2; have HR3 := Lib.hid hr3; clear hp2 hr3))
                go_meet
                exact ⟨c - 1 - (pv - a), 1, d2, by congr 1; omega, rfl, by omega, by omega, HP2.out, HR3.out⟩
              · have h2' : (hh == 2) = false := by rw [beq_eq_false_iff_ne]; exact h2
                go_wp2_with fail
                go_meet
                exact ⟨pv, hh, d1, rfl, rfl, hpv1, hpv2, permIn_refl _ _ _, HR2.out⟩
            case rest =>
              obtain ⟨pv', h', d2, rfl, rfl, hq1, hq2, hp2, hr2⟩ := hcut
              have HP2 := Lib.hid (HP1.out.go hp2); have HR3 := Lib.hid hr2
              have HK2 := Lib.hid (show d2.size = n by rw [hp2.1]; exact HK1.out)
              clear hp2 hr2 HR1 HK1 HP1 HR2 hpv1 hpv2 hh1 hh2
              go_upto_region 15 with fail
              go_cut [68] from 61 to 67 (fun s68 wx => ∃ q : Bool, s68 = .bool q ∧ RowI .u64 T C0 w0 b d2 wx)
              case first =>
                cases wb <;> cases wp <;> by_cases h1 : h' = 1
                all_goals
                  (try have h1' : (h' == 1) = true := by simp [h1])
                  (try have h1' : (h' == 1) = false := by rw [beq_eq_false_iff_ne]; exact h1)
                  (try subst h1)
                  go_wp2_with fail
                  go_meet
                  exact ⟨_, rfl, HR3.out⟩
              case rest =>
                obtain ⟨q, rfl, hr3⟩ := hcut
                have HR4 := Lib.hid hr3
                clear hr3
                go_upto_if 68 with fail
                go_cut [68] from 69 to 72 (fun s68 wx => ∃ d3, PermIn a c d2 d3 ∧ RowI .u64 T C0 w0 b d3 wx)
                case first =>
                  cases q with
                  | true =>
                    have HPI := Lib.hid (pins_of (d := d2) (x := a) (y := c) (by omega) (by have := HK2.out; omega) HP2.out.bel)
                    have HPN := Lib.hid (srt_pins_u64 (cap := cap) HR4.out HK2.out (show a < c by omega) (by omega) hsz)
                    generalize partialInsertionSort ltInt d2 a c = R at HPI HPN
                    obtain ⟨R1, R2⟩ := R
                    dsimp only at HPI HPN
                    cases R2 with
                    | true =>
                      have HD := Lib.hid (HP2.out.done HPI.out.1 (HPI.out.2 rfl))
                      go_wp2_with (go_at_call 130; go_loud ((with_reducible refine HPN.out.mono ?_); rintro e5 w5 ⟨rfl, hr5⟩; have HR5 := Lib.hid hr5; clear hr5))
                      (try simp only [Exit.inBlock, Exit.then]); refine bodyPost_ret (results_none rfl _ _ _) rfl ?_
                      exact ⟨rfl, _, HD.out.1, HD.out.2, HR5.out⟩
                    | false =>
                      go_wp2_with (go_at_call 130; go_loud ((with_reducible refine HPN.out.mono ?_); rintro e5 w5 ⟨rfl, hr5⟩; have HR5 := Lib.hid hr5; clear hr5))
                      go_meet
                      exact ⟨R1, HPI.out.1, HR5.out⟩
                  | false =>
                    go_wp2_with fail
                    go_meet
                    exact ⟨d2, permIn_refl _ _ _, HR4.out⟩
                case rest =>
                  obtain ⟨d3, hp3, hr3⟩ := hcut
                  have HP3 := Lib.hid (HP2.out.go hp3); have HR5 := Lib.hid hr3
                  have HK3 := Lib.hid (show d3.size = n by rw [hp3.1]; exact HK2.out)
                  clear hp3 hr3 HR3 HR4 HK2 HP2
                  go_upto_region 17 with fail
                  go_cut [87] from 73 to 86 (fun s87 wx => ∃ q : Bool, s87 = .bool q ∧ (q = true → 0 < a ∧ ¬ LtP d3[pv']! d3[a - 1]!) ∧ RowI .u64 T C0 w0 b d3 wx)
                  case first =>
                    by_cases ha0 : a = 0
                    · subst ha0
                      go_wp2_with fail
                      go_quiet (fail)
                      go_wp2_with fail
                      go_meet
                      exact ⟨false, rfl, (fun h => by cases h), HR5.out.drewN _⟩
                    · obtain ⟨t, rfl⟩ : ∃ t, a = t + 1 := ⟨a - 1, by omega⟩
                      have k1 := HR5.out.cell (i := t) (by have := HK3.out; omega)
                      have k2 := HR5.out.cell (i := pv') (by have := HK3.out; omega)
                      have g1 : decide (0 < (t : Int) + 1) = true := by simp only [decide_eq_true_eq]; omega
                      have htn : (t : Int) < (n : Int) := by omega
                      have hpn : (pv' : Int) < (n : Int) := by omega
                      have q5 := wrap_nat64 (k := t) (by omega)
                      obtain ⟨v1, hv1⟩ : ∃ v1, d3[t]! = v1 := ⟨_, rfl⟩
                      obtain ⟨v2, hv2⟩ : ∃ v2, d3[pv']! = v2 := ⟨_, rfl⟩
                      rw [hv1] at k1; rw [hv2] at k2
                      have HV1 := Lib.hid hv1; have HV2 := Lib.hid hv2
                      clear hv1 hv2
                      by_cases hvv : v1 < v2
                      · have HLT := Lib.hid (show decide (v1 < v2) = true from decide_eq_true hvv)
                        clear hvv
                        go_wp2_with fail
                        go_quiet ((go_at_call 131; exact Calls.quiet_of_same (lessq_u64 _ _ _)))
                        rw [HLT.out]
                        go_wp2_with fail
                        go_meet
                        exact ⟨false, rfl, (fun h => by cases h), HR5.out.drewN _⟩
                      · have HLT := Lib.hid (show decide (v1 < v2) = false from decide_eq_false hvv)
                        have HNL := Lib.hid (show ¬ LtP d3[pv']! d3[t + 1 - 1]! by rw [Nat.add_sub_cancel, HV1.out, HV2.out]; exact hvv)
                        clear hvv
                        go_wp2_with fail
                        go_quiet ((go_at_call 131; exact Calls.quiet_of_same (lessq_u64 _ _ _)))
                        rw [HLT.out]
                        go_wp2_with fail
                        go_meet
                        exact ⟨true, rfl, fun _ => ⟨Nat.succ_pos _, HNL.out⟩, HR5.out.drewN _⟩
                  case rest =>
                    obtain ⟨q, rfl, hq, hr6⟩ := hcut
                    have HR6 := Lib.hid hr6; have HQ := Lib.hid hq
                    clear hr6 hq HR5
                    cases q with
                    | true =>
                      have HQT := Lib.hid (HQ.out rfl)
                      go_wp2_with (go_at_call 132; go_loud ((with_reducible refine (srt_peq_u64 (v := pv') HR6.out HK3.out (by omega) (by omega) hq1 hq2 hsz).mono ?_); rintro e7 w7 ⟨m, d4, rfl, hm1, hm2, hp4, hl4, hr4, hR7⟩; have HR7 := Lib.hid hR7; have HPE := Lib.hid (HP3.out.eq HQT.out.1 hm1 hm2 HQT.out.2 hp4 hl4 hr4); clear hR7 hp4 hl4 hr4))
                      go_roundw
                      case rel => exact ⟨m, c, l1, wb, wp, d4, rfl, rfl, rfl, rfl, rfl, hl1', HPE.out, HR7.out⟩
                      case measure => simp [intOf]; omega
                    | false =>
                      go_upto_region 24 with (go_at_call 133; go_loud ((with_reducible refine (srt_part_u64 (v := pv') HR6.out HK3.out (by omega) (by omega) hq1 hq2 hsz).mono ?_); rintro e7 w7 ⟨m, gg, d4, rfl, hm1, hm2, hp4, hl4, hr4, hR7⟩; have HR7 := Lib.hid hR7; have HL4 := Lib.hid hl4; have HR4 := Lib.hid hr4; have HP4 := Lib.hid hp4; clear hR7 hp4 hl4 hr4))
                      have HK4 := Lib.hid (show d4.size = n by rw [HP4.out.1]; exact HK3.out)
                      by_cases hlr : m - a < c - m
                      · have hlrz : (m : Int) - (a : Int) < (c : Int) - (m : Int) := by omega
                        have HB := Lib.hid (ps_bel_left HP3.out hm2 HP4.out)
                        go_wp2_with (go_at_call 120; go_loud ((with_reducible refine (IH.out (m - a) (by omega) HR7.out HK4.out hm1 (by omega) (Nat.le_refl _) hl1' HB.out).mono ?_); rintro e8 w8 ⟨rfl, d5, hp5, hs5, hr8⟩; have HR8 := Lib.hid hr8; have HPL := Lib.hid (HP3.out.left hm1 hm2 HP4.out HL4.out HR4.out hp5 hs5); clear hp5 hs5 hr8))
                        go_roundw
                        case rel => exact ⟨m + 1, c, l1, _, gg, d5, by go_num, rfl, rfl, rfl, rfl, hl1', HPL.out, HR8.out⟩
                        case measure => simp [intOf]; omega
                      · have hlrz : ¬ (m : Int) - (a : Int) < (c : Int) - (m : Int) := by omega
                        have HB := Lib.hid (ps_bel_right (d4 := d4) (m := m) (b := c) HR4.out)
                        have hcall := Lib.hid (IH.out (c - (m + 1)) (by omega) HR7.out HK4.out (show m + 1 ≤ c by omega) (by omega) (Nat.le_refl _) hl1' HB.out)
                        have hcall2 := hcall.out
                        rw [show ((m + 1 : Nat) : Int) = (m : Int) + 1 from Int.natCast_add m 1] at hcall2
                        have HCALL := Lib.hid hcall2
                        clear hcall2
                        go_wp2_with (go_at_call 120; go_loud ((with_reducible refine HCALL.out.mono ?_); rintro e8 w8 ⟨rfl, d5, hp5, hs5, hr8⟩; have HR8 := Lib.hid hr8; have HPL := Lib.hid (HP3.out.right hm1 hm2 HP4.out HL4.out HR4.out hp5 hs5); clear hp5 hs5 hr8))
                        go_roundw
                        case rel => exact ⟨a, m, l1, _, gg, d5, rfl, rfl, rfl, rfl, rfl, hl1', HPL.out, HR8.out⟩
                        case measure => simp [intOf]; omega
set_option maxHeartbeats 1000000 in
theorem srt_sort_u64 {T : TypeId} {C0 : Array Value} {w0 w : World} {b cap n : Nat} {d : Array Int} (h : RowI .u64 T C0 w0 b d w) (hn : d.size = n) (hsz : n < 4611686018427387904) :
    Calls Tryz.prog 114 #[.slice (some ⟨b, 0, none⟩) n cap] w (Srtd .u64 T C0 w0 b d 0 n) := by
  have HH := Lib.hid h; have HN := Lib.hid hn
  have wn := wrap_nat_u64 (k := n) (by omega)
  have HP := Lib.hid (fun (lim : Nat) (hl : lim ≤ 64) => srt_pdq_u64 (cap := cap) hsz n HH.out HN.out (Nat.zero_le _) (Nat.le_refl _) (Nat.sub_le _ _) hl (.inl rfl))
  clear h hn
  go_enter Tryz.func114, Tryz.ntmps114
  go_wp2_with (first
    | (go_at_call 121; go_loud ((with_reducible refine (bits_len n hsz _).mono ?_); rintro e2 w2 ⟨m, hm, rfl, rfl⟩))
    | (go_at_call 120; go_loud (refine (HP.out m hm).mono ?_; rintro e3 w3 ⟨rfl, hx⟩; have HX := Lib.hid hx; clear hx)))
  go_end0
  exact ⟨rfl, HX.out⟩
theorem ins_nil_u64 (w : World) : Calls Tryz.prog 125 #[.slice none 0 0, .int .i64 0, .int .i64 0] w fun e w' => e = .returned (.tuple #[]) ∧ w = w' := by
  go_enter Tryz.func125, Tryz.ntmps125
  go_wp2
  refine wp_loop_rounds 1 ?_
  rw [rounds_succ]
  go_wp2
  go_end0
  exact ⟨rfl, rfl⟩
theorem pdq_nil_u64 (lim : Int) (w : World) : Calls Tryz.prog 120 #[.slice none 0 0, .int .i64 0, .int .i64 0, .int .i64 lim] w fun e w' => e = .returned (.tuple #[]) ∧ w = w' := by
  go_enter Tryz.func120, Tryz.ntmps120
  go_wp2
  refine wp_loop_rounds 1 ?_
  rw [rounds_succ]
  go_wp2_with (go_at_call 125; refine (ins_nil_u64 _).mono ?_; rintro e w' ⟨rfl, rfl⟩)
  (try simp only [Exit.inBlock, Exit.then]); refine bodyPost_ret (results_none rfl _ _ _) rfl ?_
  exact ⟨rfl, rfl⟩
/-- slices.Sort of no element. -/
theorem srt_none_u64 (w : World) : Calls Tryz.prog 114 #[.slice none 0 0] w fun e w' => e = .returned (.tuple #[]) ∧ w = w' := by
  have hb := bits_len 0 (by omega)
  simp only [Int.natCast_zero] at hb
  have HB := Lib.hid hb
  clear hb
  go_enter Tryz.func114, Tryz.ntmps114
  go_wp2_with (first
    | (go_at_call 121; go_loud (refine (HB.out _).mono ?_; rintro e2 w2 ⟨m, hm, rfl, rfl⟩))
    | (go_at_call 120; refine (pdq_nil_u64 _ _).mono ?_; rintro e w' ⟨rfl, rfl⟩))
  go_end0
  exact ⟨rfl, rfl⟩
end Go.Proofs.YtdpamikobmefeaaGreat
