/- The shelf's Get: a copy of what it has at a key. Conditions: the shelf is one. -/
import Derived.Test.YtjcbmfopcohcmaaShelfPut
namespace Go.Proofs.Ytjcbmfopcohcmaa
open Go.RowKit Go.ChangeShapes Go.Maps
set_option maxRecDepth 100000
set_option linter.unusedVariables false
set_option linter.unusedSimpArgs false

def noEnt : Ent := ⟨0, ⟨0, 0, []⟩, false⟩
theorem noInts (w : World) (D : Nat → Prop) : Ints w D .u32 4 none 0 0 [] :=
  ⟨rfl, Nat.le_refl _, by omega, by omega, fun _ => rfl, by simp, by simp⟩

theorem Looked.drew {w w' : World} {OLD : Array Value} {is : Bool} {s6 s7 : Value} (h : Looked w OLD is s6 s7 w') : Looked w OLD is s6 s7 w'.drew := by
  obtain ⟨b6, h1, h2, h3, h4, h5⟩ := h
  exact ⟨b6, h1, h2, h3.drew, h4.drew, h5⟩
theorem five_only (w : World) (b : Nat) (a1 a2 a3 a4 a5 : Value) : Only (fun k => k = b) w (((((w.setCell ⟨b, 0, none⟩ a1).setCell ⟨b, 1, none⟩ a2).setCell ⟨b, 2, none⟩ a3).setCell ⟨b, 3, none⟩ a4).setCell ⟨b, 4, none⟩ a5) :=
  have h0 := Only.refl (fun k => k = b) w
  (((((h0.setCell (p := ⟨b, 0, none⟩) (.inl rfl) a1).setCell (p := ⟨b, 1, none⟩) (.inl (by rfl)) a2).setCell (p := ⟨b, 2, none⟩) (.inl (by rfl)) a3).setCell (p := ⟨b, 3, none⟩) (.inl (by rfl)) a4).setCell (p := ⟨b, 4, none⟩) (.inl (by rfl)) a5)
theorem five_below {B : Nat} {w0 w : World} (h : Below B w0 w) {b : Nat} (hb : B ≤ b) (a1 a2 a3 a4 a5 : Value) : Below B w0 (((((w.setCell ⟨b, 0, none⟩ a1).setCell ⟨b, 1, none⟩ a2).setCell ⟨b, 2, none⟩ a3).setCell ⟨b, 3, none⟩ a4).setCell ⟨b, 4, none⟩ a5) :=
  ((((h.setCell (p := ⟨b, 0, none⟩) hb a1).setCell (p := ⟨b, 1, none⟩) hb a2).setCell (p := ⟨b, 2, none⟩) hb a3).setCell (p := ⟨b, 3, none⟩) hb a4).setCell (p := ⟨b, 4, none⟩) hb a5
end Go.Proofs.Ytjcbmfopcohcmaa
