/- A box and a record made in a law; awake of the gathering's laws. Conditions: none. -/
import Derived.Test.YtdpamikobmefeaaGreatGatherNow
namespace Go.Proofs.YtdpamikobmefeaaGreat
open Go.RowKit Go.ChangeShapes Go.Maps
set_option maxRecDepth 100000
set_option linter.unusedVariables false
set_option linter.unusedSimpArgs false

theorem rngs_one {w : World} {b : Nat} {k lo hi : Int} (h : Box w b #[.int .i64 k, .int .u32 lo, .int .u32 hi]) (h1 : U32 lo) (h2 : U32 hi) : RngsAt w (fun _ => True) (some ⟨b, 0, none⟩) 1 1 [⟨k, lo, hi⟩] := by
  refine ⟨rfl, by omega, by omega, by omega, (fun h => by cases h), (fun r hr => by simp at hr; subst hr; exact ⟨h1, h2⟩), fun _ => ⟨b, 0, rfl, trivial, fun j r hj t u hu => ?_⟩⟩
  have hj0 : j = 0 := by
    have := (List.getElem?_eq_some_iff.1 hj).1
    simp at this; omega
  subst hj0
  simp only [List.getElem?_cons_zero, Option.some.injEq] at hj
  subst hj
  simp only [Nat.zero_mul, Nat.zero_add]
  rw [h.cell, ← Array.getElem?_toList]
  exact hu
theorem ints_one {w : World} {b : Nat} {x : Int} {D : Nat → Prop} (h : Box w b #[.int .u32 x]) (hx : (Lit.int .u32 x).wf = true) (hD : D b) : Ints w D .u32 4 (some ⟨b, 0, none⟩) 1 1 [x] := by
  refine ⟨rfl, by omega, by omega, by omega, (fun h => by cases h), (fun y hy => by simp at hy; subst hy; exact hx), fun _ => ⟨b, 0, rfl, hD, fun j hj => ?_⟩⟩
  obtain rfl : j = 0 := by omega
  rw [h.cell]; rfl
theorem recs_one {w : World} {b : Nat} {id ver : Int} {s : Option Addr} {m c : Nat} {vals : List Int} {D : Nat → Prop} (h : Box w b #[.int .u64 id, .int .u64 ver, .slice s m c]) (hi : Ints w D .u32 4 s m c vals) (hok : Rec.ok ⟨id, ver, vals⟩) (hD : D b) :
    RecsAt w D (some ⟨b, 0, none⟩) 1 1 [⟨id, ver, vals⟩] := by
  refine ⟨rfl, by omega, by omega, (fun h => by cases h), fun _ => ⟨b, 0, rfl, hD, fun j r hj => ?_⟩⟩
  have hj0 : j = 0 := by
    have := (List.getElem?_eq_some_iff.1 hj).1
    simp at this; omega
  subst hj0
  simp only [List.getElem?_cons_zero, Option.some.injEq] at hj
  subst hj
  exact ⟨hok, s, m, c, by rw [h.cell]; rfl, by rw [h.cell]; rfl, by rw [h.cell]; rfl, hi⟩
theorem upof_one {r : Rec} {l : List Rec} (h : UpOf [r] l) : l = [r] := by
  obtain ⟨h1, h2⟩ := h
  have hm : ∀ x ∈ l, x = r := fun x hx => by simpa using (h2 x).1 hx
  match l, h1, h2, hm with
  | [], _, h2, _ => exact absurd ((h2 r).2 (by simp)) (by simp)
  | [a], _, _, hm => rw [hm a (by simp)]
  | a :: b :: t, h1, _, hm =>
    have e1 := hm a (by simp)
    have e2 := hm b (by simp)
    have := (List.pairwise_cons.1 h1).1 b (by simp)
    rw [e1, e2] at this
    omega
end Go.Proofs.YtdpamikobmefeaaGreat
