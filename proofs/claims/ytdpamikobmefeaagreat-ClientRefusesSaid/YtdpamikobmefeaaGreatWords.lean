/- Words of maps and regions, where no shelf is. Conditions: none. -/
import Derived.Test.YtdpamikobmefeaaGreatHeldIf
import Derived.Test.YtdpamikobmefeaaGreatEntry
import Derived.Test.YtdpamikobmefeaaGreatNewer
import Derived.DeepKeys4
import Derived.Deep.DeepCutAuto
import Derived.Deep.RegionHeld3
import Derived.WalkSpells
namespace Go.Proofs.YtdpamikobmefeaaGreat
open Go.RowKit Go.ChangeShapes Go.Maps
open Go.ChangeMaps (setBlock heap_setBlock_other)
set_option maxRecDepth 100000
set_option linter.unusedVariables false
set_option linter.unusedSimpArgs false

/-- Whatever blocks of cells were there are as they were. -/
def Boxes (w w' : World) : Prop := ∀ k C, Box w k C → Box w' k C
theorem Boxes.below {w w' : World} (h : Below w.heap.size w w') : Boxes w w' := fun k C hb => hb.below h hb.lt
theorem Boxes.trans {a b c : World} (h : Boxes a b) (k : Boxes b c) : Boxes a c := fun i C hb => k i C (h i C hb)
/-- What stands behind the look-up in Put. -/
def Looked (w : World) (OLD : Array Value) (is : Bool) (s6 s7 : Value) (w' : World) : Prop :=
  ∃ b6, s6 = .pointer (some ⟨b6, 0, none⟩) ∧ s7 = .bool is ∧ Box w' b6 OLD ∧ Below w.heap.size w w' ∧ w.heap.size ≤ b6
/-- What the store's region keeps: all but the map. -/
abbrev ButMap (mb : Nat) (w w' : World) : Prop := Only (· = mb) w w' ∧ ∀ b o, b < w.heap.size → b ≠ mb → w'.cell? ⟨b, o, none⟩ = w.cell? ⟨b, o, none⟩
theorem ButMap.of {mb : Nat} {w w' : World} (h : Only (· = mb) w w') : ButMap mb w w' := ⟨h, fun b o hb hn => h.cell b o hb hn⟩
theorem ButMap.same {mb : Nat} {w w' : World} (h : Same w w') : ButMap mb w w' := .of (Only.of_below h.1)
theorem looked_new {wx w2 : World} {OLD : Array Value} {T : TypeId} {is : Bool} (h : Same wx w2) : Looked wx OLD is (.pointer (some ⟨w2.heap.size, 0, none⟩)) (.bool is) (w2.alloc (.cells OLD T)) := ⟨_, rfl, rfl, Box.new _ _ _, h.1.alloc h.1.size _, h.1.size⟩
theorem Same.refl (w : World) : Same w w := .of (Below.refl _ _)
theorem Same.drew' {w w' : World} (h : Same w w') : Same w w'.drew := .of h.1.drew
theorem Same.alloc {w w' : World} (h : Same w w') (o : Obj) : Same w (w'.alloc o) := h.step (below_a1 _ _)
theorem Same.set {w w' : World} (h : Same w w') {p : Addr} (hp : w.heap.size ≤ p.block) (u : Value) : Same w (w'.setCell p u) := .of (h.1.setCell hp u)
theorem box_call {wx w2 : World} {vs : Array Value} {T : TypeId} (hb : Below (wx.alloc (.cells vs T)).drew.heap.size (wx.alloc (.cells vs T)).drew w2) : Box w2 wx.heap.size vs := (Box.new wx vs T).drew.below hb (by show _ < (wx.alloc _).heap.size; rw [size_alloc]; omega)
/-- The store: what it makes, in whatever later world. -/
theorem heldIf_upd {P : Program} {t k e : TypeId} {b n : Nat} {D : DataW Value} {w : World} {p : Value → Bool} (h : w.ownsMap P k (heldIf p) b n D) (K : Keyed P k) (ht : P.underlying t = some (.map k e)) (hn : n < maxLen) {key : Value} {kl : Lit} (hkey : keyOf P k key = some kl) :
    ∃ upd : World → Value → World, ∀ (w' : World) (v : Value), Below w.heap.size w w' → p v = true → (Instr.mapUpdate t (.map (some b)) key v).run P w' = .ok () (upd w' v) ∧ (upd w' v).ownsMap P k (heldIf p) b (n + 1) (D.put kl (.held v)) ∧ Only (· = b) w' (upd w' v) := by
  classical
  have key : ∀ (w' : World) (v : Value), ∃ u, Below w.heap.size w w' → p v = true → (Instr.mapUpdate t (.map (some b)) key v).run P w' = .ok () u ∧ u.ownsMap P k (heldIf p) b (n + 1) (D.put kl (.held v)) ∧ Only (· = b) w' u := by
    intro w' v
    by_cases hc : Below w.heap.size w w' ∧ p v = true
    · obtain ⟨u, h1, h2, es, cl, es', cl', hb, rfl⟩ := (ownsMap_only h (Only.of_below (S := fun _ => False) hc.1) (fun h => h)).store K ht hn hkey (heldIf_mk hc.2)
      exact ⟨_, fun _ _ => ⟨h1, h2, ⟨rfl, rfl, rfl, by simp [setBlock], fun i _ hi => heap_setBlock_other hb _ hi⟩⟩⟩
    · exact ⟨w', fun h1 h2 => absurd ⟨h1, h2⟩ hc⟩
  exact ⟨fun w' v => Classical.choose (key w' v), fun w' v => Classical.choose_spec (key w' v)⟩

end Go.Proofs.YtdpamikobmefeaaGreat
