/- The plain law of ShelfScans: round the circle from anywhere on. Conditions: the entries are a shelf's. -/
import Derived.Test.YtmohkfihfkcpdaaScanL
namespace Go.Proofs.Ytmohkfihfkcpdaa
open Go.RowKit Go.ChangeShapes Go.Maps
set_option linter.unusedVariables false

def behindB (f : Int) (e : Ent) : Bool := decide (f < e.value)
/-- The law's test in a round. -/
def roundB (f : Int) (r : Nat) (e : Ent) : Bool := behindB f e == decide (r = 0)
/-- What the law has behind r rounds. -/
def roundsL (f : Int) (all : List Ent) : Nat → List Ent
  | 0 => []
  | r + 1 => roundsL f all r ++ all.filter (roundB f r)
theorem stp_top {v : Int} (h0 : 0 ≤ v) (h1 : v ≤ 4294967295) : stpF 4294967295 v = v := by unfold stpF; omega
theorem stp_lo {f v : Int} (f0 : 0 ≤ f) (f1 : f ≤ 4294967295) (h0 : 0 ≤ v) (h1 : v ≤ 4294967295) : stpF f v = if f < v then v - f - 1 else v - f - 1 + 4294967296 := by
  unfold stpF; split <;> omega
theorem rounds_two (f : Int) (all : List Ent) : roundsL f all 2 = all.filter (behindB f) ++ all.filter (fun e => !behindB f e) := by
  show ([] ++ all.filter (roundB f 0)) ++ all.filter (roundB f 1) = _
  rw [List.nil_append]
  congr 1
  · exact List.filter_congr fun e _ => by unfold roundB; simp
  · exact List.filter_congr fun e _ => by unfold roundB; simp
theorem rounds_len (f : Int) (all : List Ent) : ∀ r, (roundsL f all r).length ≤ r * all.length
  | 0 => by simp [roundsL]
  | r + 1 => by
    have := rounds_len f all r
    have := List.length_filter_le (roundB f r) all
    rw [roundsL, List.length_append, Nat.succ_mul]; omega
theorem filter_two {α : Type} (p : α → Bool) : ∀ L : List α, (L.filter p ++ L.filter (fun e => !p e)).Perm L
  | [] => List.Perm.refl _
  | x :: r => by
    have ih := filter_two p r
    cases h : p x
    · rw [List.filter_cons_of_neg (by simp [h]), List.filter_cons_of_pos (by simp [h])]
      exact List.perm_middle.trans (ih.cons x)
    · rw [List.filter_cons_of_pos (by simp [h]), List.filter_cons_of_neg (by simp [h]), List.cons_append]
      exact ih.cons x
theorem top_sorted {L : List Ent} (h : ShelfOk L) : (scanL 4294967295 4294967295 L).Pairwise (fun a b => a.value < b.value ∨ (a.value = b.value ∧ a.rc.id < b.rc.id)) := by
  have h1 := scanL_sorted 4294967295 4294967295 L
  have h2 := (h.scan 4294967295 4294967295)
  refine (h1.and h2.1).imp_of_mem fun {a b} ha hb hab => ?_
  obtain ⟨q1, q2⟩ := hab
  obtain ⟨a0, a1⟩ := (h2.2 a ha).1
  obtain ⟨b0, b1⟩ := (h2.2 b hb).1
  unfold ltE at q1
  rw [stp_top a0 a1, stp_top b0 b1] at q1
  simp only [decide_eq_false_iff_not] at q1
  omega
theorem scans_law {f : Int} {L : List Ent} (h : ShelfOk L) (hf : U32 f) : scanL f f L = roundsL f (scanL 4294967295 4294967295 L) 2 := by
  have h2 := h.scan 4294967295 4294967295
  have hs := top_sorted h
  generalize hall : scanL 4294967295 4294967295 L = all at *
  have hp : all.Perm L := by rw [← hall]; exact scanL_all h
  rw [rounds_two]
  symm
  refine scanL_one h ?_ ?_
  · rw [List.filter_eq_self.2 fun e he => hasE_all f (h.2 e he)]
    exact (filter_two _ all).trans hp
  · obtain ⟨f0, f1⟩ := hf
    rw [List.pairwise_append]
    have key : ∀ a b : Ent, a ∈ all → b ∈ all → behindB f a = behindB f b → (a.value < b.value ∨ (a.value = b.value ∧ a.rc.id < b.rc.id)) → ltE f b a = false := by
      intro a b ha hb hab q
      obtain ⟨a0, a1⟩ := (h2.2 a ha).1
      obtain ⟨b0, b1⟩ := (h2.2 b hb).1
      unfold behindB at hab
      have hab' : (f < a.value ↔ f < b.value) := by simpa using hab
      unfold ltE
      rw [stp_lo f0 f1 a0 a1, stp_lo f0 f1 b0 b1, decide_eq_false_iff_not]
      split <;> split <;> omega
    refine ⟨(hs.filter _).imp_of_mem fun {a b} ha hb q => ?_, (hs.filter _).imp_of_mem fun {a b} ha hb q => ?_, fun a ha b hb => ?_⟩
    · obtain ⟨a1, a2⟩ := List.mem_filter.1 ha; obtain ⟨b1, b2⟩ := List.mem_filter.1 hb
      exact key a b a1 b1 (by rw [a2, b2]) q
    · obtain ⟨a1, a2⟩ := List.mem_filter.1 ha; obtain ⟨b1, b2⟩ := List.mem_filter.1 hb
      exact key a b a1 b1 (by simp only [Bool.not_eq_true'] at a2 b2; rw [a2, b2]) q
    · obtain ⟨a1, a2⟩ := List.mem_filter.1 ha; obtain ⟨b1, b2⟩ := List.mem_filter.1 hb
      obtain ⟨p0, p1⟩ := (h2.2 a a1).1
      obtain ⟨r0, r1⟩ := (h2.2 b b1).1
      unfold behindB at a2 b2
      simp only [decide_eq_true_eq, Bool.not_eq_true', decide_eq_false_iff_not] at a2 b2
      unfold ltE
      rw [stp_lo f0 f1 p0 p1, stp_lo f0 f1 r0 r1, decide_eq_false_iff_not, if_pos a2, if_neg b2]
      omega
end Go.Proofs.Ytmohkfihfkcpdaa
