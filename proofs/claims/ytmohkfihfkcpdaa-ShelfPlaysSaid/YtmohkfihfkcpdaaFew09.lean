/- The law's few. Conditions: the entries read so. -/
import Derived.Test.YtmohkfihfkcpdaaEntsOpen
namespace Go.Proofs.Ytmohkfihfkcpdaa
open Go.RowKit Go.ChangeShapes
set_option maxRecDepth 100000
set_option linter.unusedVariables false
set_option linter.unusedSimpArgs false

def fewF (l : List Ent) : Bool := l.all (fun e => decide (e.rc.vals.length ≤ 20)) && decide (l.length ≤ 30)
theorem all_step {l : List Ent} {k : Nat} {e : Ent} (he : l[k]? = some e) (h : (l.take k).all (fun e => decide (e.rc.vals.length ≤ 20)) = true) (hl : e.rc.vals.length ≤ 20) : (l.take (k + 1)).all (fun e => decide (e.rc.vals.length ≤ 20)) = true := by
  rw [List.take_add_one, he, Option.toList_some, List.all_append, h]
  simp [hl]
theorem few_false {l : List Ent} {k : Nat} {e : Ent} (he : l[k]? = some e) (hl : ¬ e.rc.vals.length ≤ 20) : fewF l = false := by
  unfold fewF
  rw [show l.all (fun e => decide (e.rc.vals.length ≤ 20)) = false from by
    rw [Bool.eq_false_iff]; intro h
    rw [List.all_eq_true] at h
    exact hl (of_decide_eq_true (h e (List.mem_of_getElem? he)))]
  rfl

theorem few_any {A : Option Addr} {n cap : Nat} {l : List Ent} (w : World) (hl : EntsAt w (· < w.heap.size) A n cap l) (hb : n ≤ 140737488351232) :
    Calls Try.prog 24 #[.slice A n cap] w fun e w' => e = .returned (.bool (fewF l)) ∧ w = w' := by
  obtain ⟨hn, _, hcells⟩ := hl
  have HN := Lib.hid hn; have HC := Lib.hid hcells
  clear hcells
  go_enter Try.func24, Try.ntmps24
  go_wp2
  go_loopw [3] (fun i wr => ∃ k : Nat, k ≤ n ∧ i = .int .i64 k ∧ wr = w ∧ (l.take k).all (fun e => decide (e.rc.vals.length ≤ 20)) = true) (fun i _ => n - (intOf i).toNat)
  case atStart => exact ⟨0, Nat.zero_le _, rfl, rfl, rfl⟩
  case round =>
    obtain ⟨k, hk, rfl, rfl, hall⟩ := hrel
    have HA := Lib.hid hall
    clear hall
    by_cases hlt : k < n
    · obtain ⟨e, he⟩ : ∃ e, l[k]? = some e := ⟨_, List.getElem?_eq_getElem (by rw [HN.out]; exact hlt)⟩
      obtain ⟨b, off, rfl, hd, hc⟩ := HC.out (by omega)
      obtain ⟨c, hcell, hent⟩ := hc k e he
      have d3 := hcell 3 _ rfl
      have hlen : e.rc.vals.length = c.l := hent.2.2.2.2.2.1
      rw [show off + k * 5 + 3 = off + k * 5 + 1 + 2 by omega] at d3
      have HE := Lib.hid he
      clear hc hcell hent he
      by_cases h20 : 20 < c.l
      · have hf := few_false HE.out (by omega)
        go_wp2
        go_ret
        exact ⟨by first | (rw [hf]; rfl) | rw [hf], rfl⟩
      · have ha := Lib.hid (all_step HE.out HA.out (by omega))
        go_wp2
        go_roundw
        case rel => exact ⟨k + 1, by omega, by simp, trivial, ha.out⟩
        case measure => simp [intOf]; omega
    · obtain rfl : k = n := by omega
      have hT : l.take k = l := List.take_of_length_le (by rw [HN.out]; exact Nat.le_refl _)
      have h1 := HA.out
      rw [hT] at h1
      have hf : fewF l = decide (k ≤ 30) := by unfold fewF; rw [h1, HN.out]; rfl
      have HF := Lib.hid hf
      clear hf h1 hT
      go_wp2
      go_ret
      exact ⟨by rw [HF.out]; first | rfl | (simp; omega), rfl⟩
end Go.Proofs.Ytmohkfihfkcpdaa
