/- More of the state of a walk: the shape of a row; a row that takes more. Conditions: none. -/
import Derived.Test.YtdpamikobmefeaaGreatThing
namespace Go.Proofs.YtdpamikobmefeaaGreat
open Go.RowKit Go.ChangeShapes
set_option linter.unusedVariables false
set_option linter.unusedSimpArgs false
section
variable {P : Program} {α : Type} {E : Elt P α} {W w w' : World} {ts ts' : List Thing} {c c' : Col}
theorem Sta.shape {i : Nat} {π : List Int} {v : Value} {l : List α} (h : Sta W ts w) (hi : ts[i]? = some (tRow E π v l)) : ∃ A cap, v = .slice A l.length cap ∧ l.length ≤ cap ∧ cap ≤ 9223372036854775807 ∧ (A = none → l.length = 0 ∧ cap = 0) := by
  obtain ⟨c, hr⟩ := h.row hi
  obtain ⟨a1, a2, a3, a4, a5, a6, _⟩ := hr.shape
  exact ⟨a1, a2, a3, a4, a5, a6⟩
/-- append, in the word of states. -/
theorem Sta.wpList_append {ops : Array Oper} {rest : List Oper} {o : Oper} {a : Act} {Q : Exit → Act → World → Prop} {L N : List α} {π : List Int} (i : Nat) (hgd : o.guard = none) (s x : Operand)
    (ho : o.op = .call { callee := .builtin .append, args := #[s, x], argTypes := #[E.ST, E.ST] })
    (v : Value) (hs : a.eval s = v) (hst : Sta W ts w) (hi : ts[i]? = some (tRow E π v L)) (hπ : π ≠ []) (A : Option Addr) (m cp : Nat) (hx : a.eval x = .slice A m cp) (hN : ∀ c, S0 W ts c w → E.At w (Quiet c w) A m cp N) (hlen : L.length + m ≤ 1000000)
    (h : ∀ B cap w', Sta W (ts.set i (tRow E π (.slice B (L.length + m) cap) (L ++ N))) w' → wpList P ops Q rest (a.put o.dst (.slice B (L.length + m) cap)) w') : wpList P ops Q (o :: rest) a w := by
  obtain ⟨c, h0⟩ := hst
  refine Elt.wpList_append (E := E) hgd s x ho v hs (h0.get hi) h0.fresh hπ A m cp hx (hN c h0) hlen fun B cap w' c' st hr => ?_
  exact h B cap w' ⟨c', h0.turn (t' := tRow E π _ _) hi hπ rfl st hr⟩
theorem S0.box {i b : Nat} {C : Array Value} (h : S0 W ts c w) (hi : ts[i]? = some (tBox b C)) : Box w b C ∧ Quiet c w b := by
  obtain ⟨h1, h2⟩ := h.get hi
  exact ⟨h1, h2, h1.lt⟩
theorem S0.data {i : Nat} {A : Option Addr} {n cap : Nat} {l : List α} (h : S0 W ts c w) (hi : ts[i]? = some (tAt E A n cap l)) : E.At w (Quiet c w) A n cap l := h.get hi
theorem S0.row {i : Nat} {π : List Int} {v : Value} {l : List α} (h : S0 W ts c w) (hi : ts[i]? = some (tRow E π v l)) : E.Row c π w v l := h.get hi
/-- append of one element that was just built. -/
theorem Sta.wpList_push {ops : Array Oper} {rest : List Oper} {o : Oper} {a : Act} {Q : Exit → Act → World → Prop} {L : List α} {r : α} {π : List Int} {C : Array Value} {T : TypeId} (i : Nat) (hgd : o.guard = none) (s x : Operand)
    (ho : o.op = .call { callee := .builtin .append, args := #[s, x], argTypes := #[E.ST, E.ST] })
    (v : Value) (hs : a.eval s = v) (hst : Sta W ts w) (hi : ts[i]? = some (tRow E π v L)) (hπ : π ≠ []) (hx : a.eval x = .slice (some ⟨w.heap.size, 0, none⟩) 1 1) (hr : ∀ c, S0 W ts c w → E.rd w (Quiet c w) C.toList r) (hlen : L.length + 1 ≤ 1000000)
    (h : ∀ B cap w', Sta W (ts.set i (tRow E π (.slice B (L.length + 1) cap) (L ++ [r]))) w' → wpList P ops Q rest (a.put o.dst (.slice B (L.length + 1) cap)) w') : wpList P ops Q (o :: rest) a (w.alloc (.cells C T)) := by
  obtain ⟨c, h0⟩ := hst
  have h1 := h0.later (below_a1 w (.cells C T))
  refine Elt.wpList_append (E := E) hgd s x ho v hs (h1.get hi) h1.fresh hπ _ 1 1 hx (N := [r]) (Elt.At.one (Box.new w C T) ⟨h0.fresh _ (Nat.le_refl _), by rw [size_alloc]; omega⟩ (E.move (hr c h0) fun b hb hlt => ⟨(below_a1 w _).block b hlt, hb.1, by rw [size_alloc]; omega⟩)) hlen fun B cap w' c' st hr' => ?_
  exact h B cap w' ⟨c', h1.turn (t' := tRow E π _ _) hi hπ rfl st hr'⟩
end
end Go.Proofs.YtdpamikobmefeaaGreat
