/- few of the gathering's laws; Page in the word of states. Conditions: none. -/
import Derived.Test.YtdpamikobmefeaaGatherPage
import Derived.Test.YtdpamikobmefeaaGathPlain
import Derived.Test.YtdpamikobmefeaaGatherOne
import Derived.Test.YtdpamikobmefeaaOpen18
import Derived.LoopN
namespace Go.Proofs.Ytdpamikobmefeaa
open Go.RowKit Go.ChangeShapes Go.Maps
set_option maxRecDepth 100000
set_option linter.unusedVariables false
set_option linter.unusedSimpArgs false

def fewR (l : List Rec) : Bool := (l.all fun r => decide (r.vals.length ≤ 20)) && decide (l.length ≤ 40)
theorem fewR_len {l : List Rec} (h : fewR l = true) : l.length ≤ 40 := by
  unfold fewR at h
  simp only [Bool.and_eq_true, decide_eq_true_eq] at h
  exact h.2
theorem fewR_no {l : List Rec} {k : Nat} {r : Rec} (hk : l[k]? = some r) (h : 20 < r.vals.length) : fewR l = false := by
  unfold fewR
  rw [Bool.and_eq_false_iff]
  left
  rw [List.all_eq_false]
  exact ⟨r, List.mem_of_getElem? hk, by simp; omega⟩
theorem fewR_yes {l : List Rec} (h : ∀ (j : Nat) r, l[j]? = some r → r.vals.length ≤ 20) : fewR l = decide (l.length ≤ 40) := by
  unfold fewR
  have : (l.all fun r => decide (r.vals.length ≤ 20)) = true := by
    rw [List.all_eq_true]
    intro r hr
    obtain ⟨j, hj⟩ := List.mem_iff_getElem?.1 hr
    exact decide_eq_true (h j r hj)
  rw [this, Bool.true_and]
set_option maxHeartbeats 1000000 in
theorem few18 {A : Option Addr} {n cap : Nat} {l : List Rec} (w : World) (h : recE.At w (· < w.heap.size) A n cap l) :
    Calls Try.prog 12 #[.slice A n cap] w fun e w' => e = .returned (.bool (fewR l)) ∧ w = w' := by
  obtain ⟨hn, hnc, hcm, _, hc⟩ := recsAt h
  have HN := Lib.hid hn; have HC := Lib.hid hc
  clear hn hc h
  go_enter Try.func12, Try.ntmps12
  go_wp2
  go_loopw [3] (fun s wr => ∃ k : Nat, k ≤ n ∧ s = .int .i64 k ∧ wr = w ∧ ∀ (j : Nat) r, j < k → l[j]? = some r → r.vals.length ≤ 20) (fun s _ => n - (intOf s).toNat)
  case atStart => exact ⟨0, Nat.zero_le _, rfl, rfl, fun j r hj => by omega⟩
  case round =>
    obtain ⟨k, hk, rfl, rfl, hall⟩ := hrel
    have HA := Lib.hid hall
    clear hall
    by_cases hlt : k < n
    · obtain ⟨r, hr⟩ : ∃ r, l[k]? = some r := ⟨_, List.getElem?_eq_getElem (by rw [HN.out]; exact hlt)⟩
      obtain ⟨b, off, rfl, hd, hcc⟩ := HC.out (by omega)
      obtain ⟨hok, s, m, c, q0, q1, q2, hi⟩ := hcc k r hr
      have HM := Lib.hid hi.1; have HR := Lib.hid hr
      clear hcc q0 q1 hok hi hr
      by_cases hm : 20 < m
      · have HF := Lib.hid (fewR_no HR.out (by rw [HM.out]; exact hm))
        have hm' : (20 : Int) < (m : Int) := by omega
        go_wp2
        go_ret
        exact ⟨(by first | (rw [HF.out]; done) | (rw [HF.out]; rfl)), rfl⟩
      · have hm' : ¬ (20 : Int) < (m : Int) := by omega
        go_wp2
        go_roundw
        case rel => exact ⟨k + 1, by omega, by go_num, by first | rfl | trivial, fun j x hj hx => by
          by_cases hjk : j < k
          · exact HA.out j x hjk hx
          · obtain rfl : j = k := by omega
            rw [HR.out] at hx; injection hx with hx; subst hx
            rw [HM.out]; omega⟩
        case measure => simp [intOf]; omega
    · have HF := Lib.hid (fewR_yes (l := l) fun j r hj => HA.out j r (by have := (List.getElem?_eq_some_iff.1 hj).1; rw [HN.out] at this; omega) hj)
      rw [HN.out] at HF
      by_cases h40 : n ≤ 40
      · have hd : decide (n ≤ 40) = true := decide_eq_true h40
        rw [hd] at HF
        have h40' : (n : Int) ≤ 40 := by omega
        go_wp2
        go_ret
        exact ⟨(by first | (rw [HF.out]; done) | (rw [HF.out]; rfl)), by first | rfl | trivial⟩
      · have hd : decide (n ≤ 40) = false := decide_eq_false h40
        rw [hd] at HF
        have h40' : ¬ (n : Int) ≤ 40 := by omega
        go_wp2
        go_ret
        exact ⟨(by first | (rw [HF.out]; done) | (rw [HF.out]; rfl)), by first | rfl | trivial⟩

section
variable {W w : World} {ts ts' : List Thing} {π : List Int} {g : Nat} {bl : List Rng} {L : List Rec} {A : Option Addr} {n cap : Nat}
theorem ga_page {all rest : List Rec} {m : Nat} {bo : Bool} (i : Nat) (after : Int) (first : Bool) (n : Int) (h : Sta W ts w) (hi : ts[i]? = some (tGath π g bl L)) (hL : L.length ≤ 1000000) (hu : UpOf L all) (hr : restF after first all = rest) (hm : manyF n rest.length = m) (hb : decide (m < rest.length) = bo) :
    Calls Try.prog 16 #[.pointer (some ⟨g, 0, none⟩), .int .u64 after, .bool first, .int .i64 n] w fun e w' => ∃ A, e = .returned (.tuple #[.slice A m m, .bool bo]) ∧ Sta W (ts ++ [tAt recE A m m (rest.take m)]) w' ∧ Below w.heap.size w w' := by
  obtain ⟨c, h⟩ := h
  refine (gather_page (c := c) after first n (h.get hi) hL).mono ?_
  rintro e w' ⟨l, hu', A, rfl, ha, hb'⟩
  obtain rfl := upof_same hu hu' (fun r => Iff.rfl)
  rw [hr, hm] at ha ⊢
  exact ⟨A, by rw [hb], Sta.addNew ⟨c, h⟩ hb' ha (Nat.le_refl _), hb'⟩
theorem ga_all' {all : List Rec} (i : Nat) (h : Sta W ts w) (hi : ts[i]? = some (tGath π g bl L)) (hL : L.length ≤ 1000000) (hu : UpOf L all) :
    Calls Try.prog 19 #[.pointer (some ⟨g, 0, none⟩)] w fun e w' => ∃ A cap, e = .returned (.slice A all.length cap) ∧ Sta W (ts ++ [tAt recE A all.length cap all]) w' ∧ Below w.heap.size w w' := by
  refine (ga_all i h hi hL).mono ?_
  rintro e w' ⟨A, cap, l, rfl, hu', hs, hb⟩
  obtain rfl := upof_same hu hu' (fun r => Iff.rfl)
  exact ⟨A, cap, rfl, hs, hb⟩
theorem sta_same {w : World} {bo : Bool} {A A' : Option Addr} {n cap n' cap' : Nat} {l l' : List Rec} (i j : Nat) (h : Sta W ts w) (hi : ts[i]? = some (tAt recE A n cap l)) (hj : ts[j]? = some (tAt recE A' n' cap' l')) (hb : decide (l = l') = bo) :
    Calls Try.prog 18 #[.slice A n cap, .slice A' n' cap'] w fun e w' => e = .returned (.bool bo) ∧ Below w.heap.size w w' := by
  rw [← hb]
  exact records_any w (h.at hi) (h.at hj)
end
end Go.Proofs.Ytdpamikobmefeaa
