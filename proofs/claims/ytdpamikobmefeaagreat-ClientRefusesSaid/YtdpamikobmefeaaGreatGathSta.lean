/- few of the gathering's laws; Page in the word of states. Conditions: none. -/
import Derived.Test.YtdpamikobmefeaaGreatGatherPage
import Derived.Test.YtdpamikobmefeaaGreatGathPlain
import Derived.Test.YtdpamikobmefeaaGreatGatherOne
import Derived.Test.YtdpamikobmefeaaGreatOpen18
import Derived.LoopN
namespace Go.Proofs.YtdpamikobmefeaaGreat
open Go.RowKit Go.ChangeShapes Go.Maps
set_option maxRecDepth 100000
set_option linter.unusedVariables false
set_option linter.unusedSimpArgs false

def fewR (l : List Rec) : Bool := (l.all fun r => decide (r.vals.length ≤ 20)) && decide (l.length ≤ 40)
theorem fewR_len {l : List Rec} (h : fewR l = true) : l.length ≤ 40 := by
  unfold fewR at h
  simp only [Bool.and_eq_true, decide_eq_true_eq] at h
  exact h.2
theorem fewR_no {l : List Rec} {k : Nat} {r : Rec} (hk : l[k]? = some r) (h : 20 < r.vals.length) : fewR l = false := by
  unfold fewR
  rw [Bool.and_eq_false_iff]
  left
  rw [List.all_eq_false]
  exact ⟨r, List.mem_of_getElem? hk, by simp; omega⟩
theorem fewR_yes {l : List Rec} (h : ∀ (j : Nat) r, l[j]? = some r → r.vals.length ≤ 20) : fewR l = decide (l.length ≤ 40) := by
  unfold fewR
  have : (l.all fun r => decide (r.vals.length ≤ 20)) = true := by
    rw [List.all_eq_true]
    intro r hr
    obtain ⟨j, hj⟩ := List.mem_iff_getElem?.1 hr
    exact decide_eq_true (h j r hj)
  rw [this, Bool.true_and]

section
variable {W w : World} {ts ts' : List Thing} {π : List Int} {g : Nat} {bl : List Rng} {L : List Rec} {A : Option Addr} {n cap : Nat}
theorem ga_page {all rest : List Rec} {m : Nat} {bo : Bool} (i : Nat) (after : Int) (first : Bool) (n : Int) (h : Sta W ts w) (hi : ts[i]? = some (tGath π g bl L)) (hL : L.length ≤ 1000000) (hu : UpOf L all) (hr : restF after first all = rest) (hm : manyF n rest.length = m) (hb : decide (m < rest.length) = bo) :
    Calls Tryz.prog 43 #[.pointer (some ⟨g, 0, none⟩), .int .u64 after, .bool first, .int .i64 n] w fun e w' => ∃ A, e = .returned (.tuple #[.slice A m m, .bool bo]) ∧ Sta W (ts ++ [tAt recE A m m (rest.take m)]) w' ∧ Below w.heap.size w w' := by
  obtain ⟨c, h⟩ := h
  refine (gather_page (c := c) after first n (h.get hi) hL).mono ?_
  rintro e w' ⟨l, hu', A, rfl, ha, hb'⟩
  obtain rfl := upof_same hu hu' (fun r => Iff.rfl)
  rw [hr, hm] at ha ⊢
  exact ⟨A, by rw [hb], Sta.addNew ⟨c, h⟩ hb' ha (Nat.le_refl _), hb'⟩
theorem ga_all' {all : List Rec} (i : Nat) (h : Sta W ts w) (hi : ts[i]? = some (tGath π g bl L)) (hL : L.length ≤ 1000000) (hu : UpOf L all) :
    Calls Tryz.prog 74 #[.pointer (some ⟨g, 0, none⟩)] w fun e w' => ∃ A cap, e = .returned (.slice A all.length cap) ∧ Sta W (ts ++ [tAt recE A all.length cap all]) w' ∧ Below w.heap.size w w' := by
  refine (ga_all i h hi hL).mono ?_
  rintro e w' ⟨A, cap, l, rfl, hu', hs, hb⟩
  obtain rfl := upof_same hu hu' (fun r => Iff.rfl)
  exact ⟨A, cap, rfl, hs, hb⟩
theorem sta_same {w : World} {bo : Bool} {A A' : Option Addr} {n cap n' cap' : Nat} {l l' : List Rec} (i j : Nat) (h : Sta W ts w) (hi : ts[i]? = some (tAt recE A n cap l)) (hj : ts[j]? = some (tAt recE A' n' cap' l')) (hb : decide (l = l') = bo) :
    Calls Tryz.prog 19 #[.slice A n cap, .slice A' n' cap'] w fun e w' => e = .returned (.bool bo) ∧ Below w.heap.size w w' := by
  rw [← hb]
  exact records_any w (h.at hi) (h.at hj)
end
end Go.Proofs.YtdpamikobmefeaaGreat
