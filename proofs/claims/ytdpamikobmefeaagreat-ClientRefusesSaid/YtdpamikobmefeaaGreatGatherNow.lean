/- A gathering made since a world: New, Add, All in this word. Conditions: records are data, or new. -/
import Derived.Test.YtdpamikobmefeaaGreatGatherOn
import Derived.Test.YtdpamikobmefeaaGreatGatherAll
import Derived.Test.YtdpamikobmefeaaGreatGatherNil
namespace Go.Proofs.YtdpamikobmefeaaGreat
open Go.RowKit Go.ChangeShapes Go.Maps
set_option maxRecDepth 100000
set_option linter.unusedVariables false
set_option linter.unusedSimpArgs false

theorem RecsAt.move {w w' : World} {D D' : Nat → Prop} {A : Option Addr} {n cap : Nat} {l : List Rec} (h : RecsAt w D A n cap l) (hm : ∀ b, D b → b < w.heap.size → w'.heap[b]? = w.heap[b]? ∧ D' b) : RecsAt w' D' A n cap l := by
  obtain ⟨h1, h2, h3, h4, h5⟩ := h
  refine ⟨h1, h2, h3, h4, fun hn => ?_⟩
  obtain ⟨b, off, rfl, hd, hc⟩ := h5 hn
  have hlt : b < w.heap.size := by
    obtain ⟨_, s, m, c, q0, _⟩ := hc 0 (l[0]'(by omega)) (List.getElem?_eq_getElem (by omega))
    exact World.block_lt_of_cell? w _ q0
  obtain ⟨q1, q2⟩ := hm b hd hlt
  refine ⟨b, off, rfl, q2, fun j r hj => ?_⟩
  obtain ⟨hok, s, m, c, c0, c1, c2, hi⟩ := hc j r hj
  exact ⟨hok, s, m, c, by rw [← c0]; exact World.cell?_of_block q1, by rw [← c1]; exact World.cell?_of_block q1, by rw [← c2]; exact World.cell?_of_block q1, hi.move hm⟩
def GNow (W : World) (g : Nat) (bl : List Rng) (L : List Rec) (w : World) : Prop := ∃ c, Stp (· = [1]) (fun _ => []) W c w ∧ GathR c [1] w g bl L
theorem GNow.below {W w w' : World} {g : Nat} {bl : List Rng} {L : List Rec} (h : GNow W g bl L w) (hb : Below w.heap.size w w') : GNow W g bl L w' := by
  obtain ⟨c, st, sh⟩ := h
  exact ⟨c, st.trans (Stp.of_below _ st.fresh hb), sh.later st.fresh hb⟩
theorem GNow.end {W w : World} {g : Nat} {bl : List Rng} {L : List Rec} (h : GNow W g bl L w) : Below W.heap.size W w := by
  obtain ⟨c, st, _⟩ := h
  exact st.below (Nat.le_refl _) (fun k _ h => by cases h)
theorem gnow_new (W w : World) (hb : Below W.heap.size W w) {D : Nat → Prop} {A : Option Addr} {n cp : Nat} {bl : List Rng} (hx : RngsAt w D A n cp bl) :
    Calls Tryz.prog 31 #[.slice A n cp] w fun e w' => ∃ g, e = .returned (.pointer (some ⟨g, 0, none⟩)) ∧ GNow W g bl [] w' := by
  refine (gather_new (c := fun _ => []) [1] w (fun k _ => rfl) (hx.move fun b hb hlt => ⟨rfl, rfl, hlt⟩)).mono ?_
  rintro e w' ⟨g, rfl, hg, c, st, sh, _⟩
  exact ⟨g, rfl, c, (Stp.of_below _ (fun k _ => rfl) hb).trans st, sh⟩
/-- The records' memory is older than W, or newer than the gathering's last change. -/
theorem gnow_add {W w0 w : World} {g : Nat} {bl : List Rng} {L : List Rec} {A : Option Addr} {n cap : Nat} {l : List Rec} (h : GNow W g bl L w0) (hb : Below w0.heap.size w0 w) (hL : L.length ≤ 10000) (hn : n ≤ 10000)
    (hl : RecsAt w (fun b => b < W.heap.size ∨ w0.heap.size ≤ b) A n cap l) :
    Calls Tryz.prog 84 #[.pointer (some ⟨g, 0, none⟩), .slice A n cap] w fun e w' => e = .returned (.int .i64 (addsF bl L l).2) ∧ GNow W g bl (addsF bl L l).1 w' := by
  obtain ⟨c, st, sh⟩ := h
  have st2 := st.trans (Stp.of_below (· = [1]) st.fresh hb)
  refine (gather_add (c := c) (sh.later st.fresh hb) st2.fresh (by simp) hL hn (hl.move fun b hb' hlt => ⟨rfl, ?_, hlt⟩)).mono ?_
  · rcases hb' with h1 | h1
    · exact st.col b h1
    · exact st.fresh b h1
  · rintro e w' ⟨rfl, c', st', sh', _⟩
    exact ⟨rfl, c', st2.trans st', sh'⟩
theorem gnow_all {W w : World} {g : Nat} {bl : List Rng} {L : List Rec} (h : GNow W g bl L w) (hL : L.length ≤ 1000000) :
    Calls Tryz.prog 74 #[.pointer (some ⟨g, 0, none⟩)] w fun e w' => ∃ (v : Value) (M : List RecC) (l : List Rec), e = .returned v ∧ RecRow w.heap.size w' v M l ∧ UpOf L l ∧ Below w.heap.size w w' ∧ GNow W g bl L w' := by
  obtain ⟨c, st, sh⟩ := h
  refine (gather_all sh hL).mono ?_
  rintro e w' ⟨v, M, l, rfl, h1, h2, h3⟩
  exact ⟨v, M, l, rfl, h1, h2, h3, GNow.below ⟨c, st, sh⟩ h3⟩
end Go.Proofs.YtdpamikobmefeaaGreat
