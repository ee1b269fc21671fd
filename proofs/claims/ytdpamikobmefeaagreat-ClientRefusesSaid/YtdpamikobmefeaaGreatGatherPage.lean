/- gather.Page. Conditions: the gathering is one. -/
import Derived.Test.YtdpamikobmefeaaGreatRecElt
namespace Go.Proofs.YtdpamikobmefeaaGreat
open Go.RowKit Go.ChangeShapes Go.Maps
set_option maxRecDepth 100000
set_option linter.unusedVariables false
set_option linter.unusedSimpArgs false

/-- What lies behind an id. -/
def restF (after : Int) (first : Bool) (l : List Rec) : List Rec := if first = true then l else l.dropWhile fun r => decide (r.id ≤ after)
/-- How many are told. -/
def manyF (n : Int) (m : Nat) : Nat := min n.toNat m
theorem dropWhile_at {α : Type} {p : α → Bool} : ∀ {l : List α} {k : Nat}, (∀ (j : Nat) x, j < k → l[j]? = some x → p x = true) → (∀ x, l[k]? = some x → p x = false) → l.dropWhile p = l.drop k
  | [], k, _, _ => by simp
  | x :: t, 0, _, h => by simp [List.dropWhile, h x rfl]
  | x :: t, k + 1, h1, h2 => by
    have := h1 0 x (by omega) rfl
    simp only [List.dropWhile, this, List.drop_succ_cons]
    exact dropWhile_at (fun j y hj hy => h1 (j + 1) y (by omega) (by simpa using hy)) (fun y hy => h2 y (by simpa using hy))
theorem many_eq (n : Int) (m : Nat) : (min (max n 0) (m : Int)).toNat = manyF n m ∧ decide (min (max n 0) (m : Int) < (m : Int)) = decide (manyF n m < m) := by
  unfold manyF
  refine ⟨by omega, ?_⟩
  rw [decide_eq_decide]; omega
theorem page_end {w w1 : World} {L l : List Rec} {k m cap : Nat} {A : Option Addr} {n after : Int} {first : Bool} (hu : UpOf L l) (hr : restF after first l = l.drop k) (hk : recE.At w1 (w.heap.size ≤ ·) A m cap (l.drop k)) (hb : Below w.heap.size w w1) :
    ∃ (l : List Rec), UpOf L l ∧ ∃ A' : Option Addr,
      Ending.returned (.tuple #[.slice A (min (max n 0) (m : Int)).toNat (min (max n 0) (m : Int)).toNat, .bool (decide (min (max n 0) (m : Int) < (m : Int)))]) = .returned (.tuple #[.slice A' (manyF n (restF after first l).length) (manyF n (restF after first l).length), .bool (decide (manyF n (restF after first l).length < (restF after first l).length))]) ∧
      recE.At w1 (w.heap.size ≤ ·) A' (manyF n (restF after first l).length) (manyF n (restF after first l).length) ((restF after first l).take (manyF n (restF after first l).length)) ∧ Below w.heap.size w w1 := by
  obtain ⟨h1, h2⟩ := many_eq n m
  have hm := hk.1
  have hq : manyF n m ≤ m := by unfold manyF; omega
  refine ⟨l, hu, A, by rw [hr, hm, h1, h2], ?_, hb⟩
  rw [hr, hm]
  have := hk.2.1; have := hk.2.2.1
  exact hk.head hq (Nat.le_refl _) (by omega) (fun e => by have := hk.2.2.2.1 e; omega)
set_option maxHeartbeats 4000000 in
theorem gather_page {c : Col} {π : List Int} {w : World} {g : Nat} {bl : List Rng} {L : List Rec} (after : Int) (first : Bool) (n : Int) (h : GathR c π w g bl L) (hL : L.length ≤ 1000000) :
    Calls Tryz.prog 43 #[.pointer (some ⟨g, 0, none⟩), .int .u64 after, .bool first, .int .i64 n] w fun e w' => ∃ (l : List Rec), UpOf L l ∧ ∃ A : Option Addr,
      e = .returned (.tuple #[.slice A (manyF n (restF after first l).length) (manyF n (restF after first l).length), .bool (decide (manyF n (restF after first l).length < (restF after first l).length))]) ∧
      recE.At w' (w.heap.size ≤ ·) A (manyF n (restF after first l).length) (manyF n (restF after first l).length) ((restF after first l).take (manyF n (restF after first l).length)) ∧ Below w.heap.size w w' := by
  have HA := Lib.hid (gather_all h hL)
  clear h hL
  go_enter Tryz.func43, Tryz.ntmps43
  go_wp2_with (go_at_call 74; refine HA.out.mono ?_; rintro e1 w1 ⟨v, M, l, rfl, hrow, hup, hb⟩; obtain ⟨A1, cap1, rfl, ha⟩ := hrow.at; have HU := Lib.hid hup; have HB := Lib.hid hb; have HAT := Lib.hid ha; clear hrow hup hb ha)
  go_loopw [10] (fun s wr => ∃ (k : Nat) (A : Option Addr) (m cap : Nat), s = .slice A m cap ∧ wr = w1 ∧ recE.At w1 (w.heap.size ≤ ·) A m cap (l.drop k) ∧ k ≤ l.length ∧ (first = true → k = 0) ∧ ∀ (j : Nat) x, j < k → l[j]? = some x → decide (x.id ≤ after) = true) (fun s _ => match s with | .slice _ m _ => m | _ => 0)
  case atStart => exact ⟨0, A1, l.length, cap1, rfl, rfl, HAT.out, Nat.zero_le _, fun _ => rfl, fun j x hj => by omega⟩
  case round =>
    obtain ⟨k, A, m, cap, rfl, rfl, ha, hk, hf, hall⟩ := hrel
    have HK := Lib.hid ha; have HF := Lib.hid hf; have HALL := Lib.hid hall
    have hm : (l.drop k).length = m := ha.1
    have hmc := ha.2.1; have hc64 := ha.2.2.1
    clear ha hf hall
    -- the rest, once it is known
    have hend : (∀ x, (l.drop k)[0]? = some x → first = false → decide (x.id ≤ after) = false) → restF after first l = l.drop k := by
      intro hx
      unfold restF
      cases first with
      | true => rw [if_pos rfl, HF.out rfl]; rfl
      | false =>
        rw [if_neg (by simp)]
        refine dropWhile_at HALL.out fun x hx' => hx x ?_ rfl
        rw [List.getElem?_drop]; exact hx'
    have HEND := Lib.hid hend
    clear hend
    cases first with
    | true =>
      have HR := Lib.hid (HEND.out fun x _ h => by cases h)
      go_wp2
      refine bodyPost_ret (v := .tuple #[.slice A (min (max n 0) (m : Int)).toNat (min (max n 0) (m : Int)).toNat, .bool (decide (min (max n 0) (m : Int) < (m : Int)))]) (by simp [results, Tryz.results43, go_sem]) rfl ?_
      exact page_end HU.out HR.out HK.out HB.out
    | false =>
      by_cases hm0 : m = 0
      · have HR := Lib.hid (HEND.out fun x hx _ => by have := (List.getElem?_eq_some_iff.1 hx).1; omega)
        subst hm0
        clear hm
        go_wp2
        refine bodyPost_ret (v := .tuple #[.slice A (min (max n 0) ((0 : Nat) : Int)).toNat (min (max n 0) ((0 : Nat) : Int)).toNat, .bool (decide (min (max n 0) ((0 : Nat) : Int) < ((0 : Nat) : Int)))]) (by simp [results, Tryz.results43, go_sem]) rfl ?_
        exact page_end HU.out HR.out HK.out HB.out
      · obtain ⟨x, hx⟩ : ∃ x, (l.drop k)[0]? = some x := ⟨_, List.getElem?_eq_getElem (by omega)⟩
        obtain ⟨b, off, rfl, hd, cs, hcs, s, m', c', rfl, hok, hi⟩ := HK.out.first hx
        have d0 := hcs 0 _ rfl
        simp only [Nat.add_zero] at d0
        have g1 : 0 < m := by omega
        have hkl : k < l.length := by simp at hm; omega
        have HX := Lib.hid hx
        clear hd hcs hok hi hx hm
        by_cases hle : x.id ≤ after
        · have HT := Lib.hid (show recE.At wr (w.heap.size ≤ ·) (if cap = 1 then some ⟨b, off, none⟩ else some ⟨b, off + 3, none⟩) (m - 1) (cap - 1) (l.drop (k + 1)) from by
            have := HK.out.tail (by omega)
            rw [List.drop_drop] at this
            exact this)
          have h1m : 1 ≤ (m : Int) := by omega
          go_wp2
          refine ⟨⟨k + 1, _, _, _, rfl, trivial, HT.out, by omega, (fun h => by cases h), fun j y hj hy => ?_⟩, by show m - 1 < m; omega⟩
          by_cases hjk : j < k
          · exact HALL.out j y hjk hy
          · obtain rfl : j = k := by omega
            have h9 := HX.out
            rw [List.getElem?_drop, Nat.add_zero, hy] at h9
            injection h9 with h9
            rw [h9]; exact decide_eq_true hle
        · have HR := Lib.hid (HEND.out fun y hy _ => by rw [HX.out] at hy; injection hy with hy; subst hy; exact decide_eq_false hle)
          go_wp2
          refine bodyPost_ret (v := .tuple #[.slice (some ⟨b, off, none⟩) (min (max n 0) (m : Int)).toNat (min (max n 0) (m : Int)).toNat, .bool (decide (min (max n 0) (m : Int) < (m : Int)))]) (by simp [results, Tryz.results43, go_sem]) rfl ?_
          exact page_end HU.out HR.out HK.out HB.out
end Go.Proofs.YtdpamikobmefeaaGreat
