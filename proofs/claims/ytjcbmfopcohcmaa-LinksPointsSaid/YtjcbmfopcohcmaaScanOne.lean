/- A scan's list is one: sorted permutations of entries of unlike keys are the same list. Conditions: none. -/
import Derived.Test.YtjcbmfopcohcmaaShelfScan
namespace Go.Proofs.Ytjcbmfopcohcmaa
open Go.RowKit Go.ChangeShapes Go.Maps
set_option linter.unusedVariables false

/-- The order of a scan, of entries. -/
def ltE (f : Int) (a b : Ent) : Bool := decide (stpF f a.value < stpF f b.value ∨ (stpF f a.value = stpF f b.value ∧ a.rc.id < b.rc.id))
theorem stpF_inj {f a b : Int} (ha : U32 a) (hb : U32 b) (h : stpF f a = stpF f b) : a = b := by
  obtain ⟨a0, a1⟩ := ha
  obtain ⟨b0, b1⟩ := hb
  unfold stpF at h
  omega
theorem scan_sortedE {base : Nat} {L : List Ent} {w : World} {v : Value} {M : List EntC} {f : Int} (h : ScanRow base (eOf L) w v M) (hs : M.Pairwise (fun x y => ltOf (scanC f) y x = false)) : (M.map (eOf L)).Pairwise (fun a b => ltE f b a = false) := by
  rw [List.pairwise_map]
  refine hs.imp_of_mem fun {a b} ha hb hab => ?_
  have h1 := h.ents a ha
  have h2 := h.ents b hb
  rw [scan_lt] at hab
  unfold ltE
  rw [← h1.1, ← h1.2.1, ← h2.1, ← h2.2.1]
  exact hab
theorem sortE_one {f : Int} {A B : List Ent} (hp : A.Perm B) (hA : A.Pairwise (fun a b => ltE f b a = false)) (hB : B.Pairwise (fun a b => ltE f b a = false)) (hu : ∀ a ∈ A, U32 a.value) (hk : ∀ a ∈ A, ∀ b ∈ A, a.value = b.value → a.rc.id = b.rc.id → a = b) : A = B := by
  refine List.Perm.eq_of_pairwise (le := fun a b => ltE f b a = false) (fun a b ha hb h1 h2 => ?_) hA hB hp
  have hb' := hp.mem_iff.2 hb
  unfold ltE at h1 h2
  simp only [decide_eq_false_iff_not] at h1 h2
  have e1 : stpF f a.value = stpF f b.value := by omega
  exact hk a ha b hb' (stpF_inj (hu a ha) (hu b hb') e1) (by omega)
theorem mapOf_keys {c : Col} {w : World} {D : DataW Value} {L : List Ent} (hd : MapOf kE (EVal c w) D L) : ∀ a ∈ L, ∀ b ∈ L, a.value = b.value → a.rc.id = b.rc.id → a = b := fun a ha b hb h1 h2 => hd.inj ha hb (by unfold kE; rw [h1, h2])
end Go.Proofs.Ytjcbmfopcohcmaa
