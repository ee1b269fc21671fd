/- Colours of blocks: whose a block is ([]: data that nobody turns); a step turns only blocks of some colours. Conditions: none. -/
import Derived.Test.YtdpamikobmefeaaGreatClone
namespace Go.Proofs.YtdpamikobmefeaaGreat
open Go.RowKit Go.ChangeShapes
set_option linter.unusedVariables false

abbrev Col := Nat → List Int
def Fresh (c : Col) (w : World) : Prop := ∀ k, w.heap.size ≤ k → c k = []
/-- From w to w' only blocks of colours in C have turned; the old blocks keep their colours; what is not there yet has none. -/
structure Stp (C : List Int → Prop) (c : Col) (w : World) (c' : Col) (w' : World) : Prop where
  only : Only (fun k => C (c k)) w w'
  col : ∀ k, k < w.heap.size → c' k = c k
  fresh : Fresh c' w'

theorem Stp.refl (C : List Int → Prop) {c : Col} {w : World} (h : Fresh c w) : Stp C c w c w := ⟨Only.refl _ _, fun _ _ => rfl, h⟩
theorem Stp.trans {C : List Int → Prop} {c c1 c2 : Col} {w w1 w2 : World} (h : Stp C c w c1 w1) (k : Stp C c1 w1 c2 w2) : Stp C c w c2 w2 :=
  ⟨⟨k.only.os.trans h.only.os, k.only.tape.trans h.only.tape, k.only.output.trans h.only.output, Nat.le_trans h.only.size k.only.size,
    fun i hi hn => (k.only.block i (Nat.lt_of_lt_of_le hi h.only.size) (by rw [h.col i hi]; exact hn)).trans (h.only.block i hi hn)⟩,
   fun i hi => (k.col i (Nat.lt_of_lt_of_le hi h.only.size)).trans (h.col i hi), k.fresh⟩
theorem Stp.mono {C C' : List Int → Prop} {c c' : Col} {w w' : World} (h : Stp C c w c' w') (hC : ∀ x, C x → C' x) : Stp C' c w c' w' := ⟨h.only.mono (fun k _ hk => hC _ hk), h.col, h.fresh⟩
theorem Stp.of_below (C : List Int → Prop) {c : Col} {w w' : World} (hf : Fresh c w) (h : Below w.heap.size w w') : Stp C c w c w' :=
  ⟨Only.of_below h, fun _ _ => rfl, fun k hk => hf k (Nat.le_trans h.size hk)⟩
theorem Stp.below {C : List Int → Prop} {c c' : Col} {w w' : World} {B : Nat} (h : Stp C c w c' w') (hB : B ≤ w.heap.size) (hc : ∀ k, k < B → ¬ C (c k)) : Below B w w' :=
  ⟨h.only.os, h.only.tape, h.only.output, h.only.size, fun i hi => h.only.block i (Nat.lt_of_lt_of_le hi hB) (hc i hi)⟩

/-- A slice of whole numbers whose cells nobody turns. -/
def DInts (c : Col) (w : World) (k : IntKind) (bytes : Nat) (v : Value) (xs : List Int) : Prop := ∃ A n cap, v = .slice A n cap ∧ Ints w (fun b => c b = [] ∧ b < w.heap.size) k bytes A n cap xs

theorem Ints.move {w w' : World} {D D' : Nat → Prop} {k : IntKind} {bytes : Nat} {A : Option Addr} {n cap : Nat} {xs : List Int} (h : Ints w D k bytes A n cap xs)
    (hw : ∀ b, D b → b < w.heap.size → w'.heap[b]? = w.heap[b]? ∧ D' b) : Ints w' D' k bytes A n cap xs := by
  obtain ⟨h1, h2, h3, h4, h5, h6, h7⟩ := h
  refine ⟨h1, h2, h3, h4, h5, h6, fun hn => ?_⟩
  obtain ⟨b, off, rfl, hd, hc⟩ := h7 hn
  have hlt : b < w.heap.size := World.block_lt_of_cell? w _ (hc 0 hn)
  exact ⟨b, off, rfl, (hw b hd hlt).2, fun j hj => by rw [← hc j hj]; exact World.cell?_of_block (hw b hd hlt).1⟩

theorem DInts.step {C : List Int → Prop} {c c' : Col} {w w' : World} {k : IntKind} {bytes : Nat} {v : Value} {xs : List Int} (h : DInts c w k bytes v xs) (hs : Stp C c w c' w') (hC : ¬ C []) : DInts c' w' k bytes v xs := by
  obtain ⟨A, n, cap, rfl, hi⟩ := h
  exact ⟨A, n, cap, rfl, hi.move fun b hb hlt => ⟨hs.only.block b hlt (by show ¬ C (c b); rw [hb.1]; exact hC), (hs.col b hlt).trans hb.1, Nat.lt_of_lt_of_le hlt hs.only.size⟩⟩
theorem DInts.lt {c : Col} {w : World} {k : IntKind} {bytes : Nat} {A : Option Addr} {n cap : Nat} {xs : List Int} (h : DInts c w k bytes (.slice A n cap) xs) : ∃ D : Nat → Prop, (∀ b, D b → b < w.heap.size) ∧ Ints w D k bytes A n cap xs := by
  obtain ⟨A', n', cap', he, hi⟩ := h
  injection he with h1 h2 h3
  subst h1 h2 h3
  exact ⟨_, fun b hb => hb.2, hi⟩
/-- What a call has made anew is data. -/
theorem NewSl.data {c : Col} {w w' : World} {k : IntKind} {bytes : Nat} {xs : List Int} {v : Value} (h : NewSl w k bytes xs w' v) (hf : Fresh c w) : DInts c w' k bytes v xs := by
  obtain ⟨B, n, cap, rfl, hi, hb, _⟩ := h
  exact ⟨B, n, cap, rfl, hi.move fun b hb' hlt => ⟨rfl, hf b hb', hlt⟩⟩
theorem NewSl.below {w w' : World} {k : IntKind} {bytes : Nat} {xs : List Int} {v : Value} (h : NewSl w k bytes xs w' v) : Below w.heap.size w w' := by
  obtain ⟨B, n, cap, rfl, hi, hb, _⟩ := h
  exact hb

/-- One block more, of a colour. -/
def upd (c : Col) (b : Nat) (π : List Int) : Col := fun k => if k = b then π else c k
theorem upd_same (c : Col) (b : Nat) (π : List Int) : upd c b π b = π := by simp [upd]
theorem upd_ne (c : Col) {b k : Nat} (π : List Int) (h : k ≠ b) : upd c b π k = c k := by simp [upd, h]
/-- What was made anew gets a colour. -/
theorem Stp.paint {C : List Int → Prop} {c c' : Col} {w w' : World} (h : Stp C c w c' w') {b : Nat} (h0 : w.heap.size ≤ b) (h1 : b < w'.heap.size) (π : List Int) : Stp C c w (upd c' b π) w' :=
  ⟨h.only, fun k hk => by rw [upd_ne _ _ (by omega)]; exact h.col k hk, fun k hk => by rw [upd_ne _ _ (by omega)]; exact h.fresh k hk⟩
end Go.Proofs.YtdpamikobmefeaaGreat
