/- A box and a record made in a law; awake of the gathering's laws. Conditions: none. -/
import Derived.Test.YtdpamikobmefeaaGatherNow
namespace Go.Proofs.Ytdpamikobmefeaa
open Go.RowKit Go.ChangeShapes Go.Maps
set_option maxRecDepth 100000
set_option linter.unusedVariables false
set_option linter.unusedSimpArgs false

theorem rngs_one {w : World} {b : Nat} {k lo hi : Int} (h : Box w b #[.int .i64 k, .int .u32 lo, .int .u32 hi]) (h1 : U32 lo) (h2 : U32 hi) : RngsAt w (fun _ => True) (some ⟨b, 0, none⟩) 1 1 [⟨k, lo, hi⟩] := by
  refine ⟨rfl, by omega, by omega, by omega, (fun h => by cases h), (fun r hr => by simp at hr; subst hr; exact ⟨h1, h2⟩), fun _ => ⟨b, 0, rfl, trivial, fun j r hj t u hu => ?_⟩⟩
  have hj0 : j = 0 := by
    have := (List.getElem?_eq_some_iff.1 hj).1
    simp at this; omega
  subst hj0
  simp only [List.getElem?_cons_zero, Option.some.injEq] at hj
  subst hj
  simp only [Nat.zero_mul, Nat.zero_add]
  rw [h.cell, ← Array.getElem?_toList]
  exact hu
theorem ints_one {w : World} {b : Nat} {x : Int} {D : Nat → Prop} (h : Box w b #[.int .u32 x]) (hx : (Lit.int .u32 x).wf = true) (hD : D b) : Ints w D .u32 4 (some ⟨b, 0, none⟩) 1 1 [x] := by
  refine ⟨rfl, by omega, by omega, by omega, (fun h => by cases h), (fun y hy => by simp at hy; subst hy; exact hx), fun _ => ⟨b, 0, rfl, hD, fun j hj => ?_⟩⟩
  obtain rfl : j = 0 := by omega
  rw [h.cell]; rfl
theorem recs_one {w : World} {b : Nat} {id ver : Int} {s : Option Addr} {m c : Nat} {vals : List Int} {D : Nat → Prop} (h : Box w b #[.int .u64 id, .int .u64 ver, .slice s m c]) (hi : Ints w D .u32 4 s m c vals) (hok : Rec.ok ⟨id, ver, vals⟩) (hD : D b) :
    RecsAt w D (some ⟨b, 0, none⟩) 1 1 [⟨id, ver, vals⟩] := by
  refine ⟨rfl, by omega, by omega, (fun h => by cases h), fun _ => ⟨b, 0, rfl, hD, fun j r hj => ?_⟩⟩
  have hj0 : j = 0 := by
    have := (List.getElem?_eq_some_iff.1 hj).1
    simp at this; omega
  subst hj0
  simp only [List.getElem?_cons_zero, Option.some.injEq] at hj
  subst hj
  exact ⟨hok, s, m, c, by rw [h.cell]; rfl, by rw [h.cell]; rfl, by rw [h.cell]; rfl, hi⟩
theorem upof_one {r : Rec} {l : List Rec} (h : UpOf [r] l) : l = [r] := by
  obtain ⟨h1, h2⟩ := h
  have hm : ∀ x ∈ l, x = r := fun x hx => by simpa using (h2 x).1 hx
  match l, h1, h2, hm with
  | [], _, h2, _ => exact absurd ((h2 r).2 (by simp)) (by simp)
  | [a], _, _, hm => rw [hm a (by simp)]
  | a :: b :: t, h1, _, hm =>
    have e1 := hm a (by simp)
    have e2 := hm b (by simp)
    have := (List.pairwise_cons.1 h1).1 b (by simp)
    rw [e1, e2] at this
    omega
set_option maxHeartbeats 2000000 in
theorem awake18 (W : World) : Calls Try.prog 10 #[] W fun e w' => e = .returned (.bool true) ∧ Below W.heap.size W w' := by
  have u1 : U32 0 := ⟨by omega, by omega⟩
  have U1 := Lib.hid u1
  have OK := Lib.hid (show Rec.ok ⟨5, 1, [7]⟩ from ⟨⟨by decide, by decide⟩, ⟨by decide, by decide⟩, fun x hx => by simp at hx; subst hx; exact ⟨by omega, by omega⟩⟩)
  have HA := Lib.hid (show addsF [⟨1, 0, 0⟩] [] [⟨5, 1, [7]⟩] = ([⟨5, 1, [7]⟩], 1) from by decide)
  clear u1
  go_enter Try.func10, Try.ntmps10
  go_wp2_with (first
    | (go_at_call 11; go_loud (refine (gnow_new W _ (below_a1 _ _) (rngs_one (Box.new _ _ _) U1.out U1.out)).mono ?_; rintro e1 w1 ⟨g, rfl, hg⟩; have HG := Lib.hid hg; clear hg))
    | (go_at_call 13; go_loud (refine (gnow_add HG.out (below_a2 w1 _ _) (by simp) (by omega) (recs_one (by first | exact Box.newAt _ _ _ _ (by first | rfl | simp) ) (ints_one ((Box.new w1 _ _).alloc _) (by decide) (.inr (Nat.le_refl _))) OK.out (.inr (by simp)))).mono ?_; rintro e2 w2 ⟨rfl, hg2⟩; rw [HA.out] at hg2 ⊢; have HG2 := Lib.hid hg2; clear hg2))
    | (go_at_call 19; go_loud (refine (gnow_all HG2.out (by simp)).mono ?_; rintro e3 w3 ⟨v, M, l, rfl, hrow, hup, hb, hg3⟩; obtain ⟨A5, c5, rfl, _, _, _⟩ := owns_shape hrow.row; have hm1 : M.length = 1 := (by rw [hrow.len, upof_one hup]; rfl); rw [hm1]; have HG3 := Lib.hid hg3.end; clear hrow hup hb hg3 hm1)))
  go_ret
  exact ⟨rfl, HG3.out⟩
end Go.Proofs.Ytdpamikobmefeaa
