/- The shelf's Fork: another shelf, alike. Conditions: the shelf is one. -/
import Derived.Test.YtjcbmfopcohcmaaScanL
import Derived.Shelf.SlMaps.Clone
namespace Go.Proofs.Ytjcbmfopcohcmaa
open Go.RowKit Go.ChangeShapes Go.Maps
set_option maxRecDepth 100000
set_option linter.unusedVariables false
set_option linter.unusedSimpArgs false

theorem clone_map (b : Nat) (es : Array MapEntry) (clock : Nat) (w : World) (hb : w.heap[b]? = some (.map es clock)) :
    Calls Try.prog 91 #[.map (some b)] w fun e w' => e = .returned (.map (some w.heap.size)) ∧ w' = w.alloc (.map es clock) := by
  have hq := fun w => run_eql_map_nil_sl (P := Try.prog) w 139 _ _ (some b) Try.underlying139
  go_enter Try.func91, Try.ntmps91
  go_wp2
  rw [run_callFunc_extern Try.func121 (by kernel_rfl) (by kernel_rfl) (by kernel_rfl) (e := Extern.MapsClone.clone) (by kernel_rfl), run_maps_clone_sl w 139 hb]
  simp only [Result.andThen]
  rw [Oper.upon_value]
  go_wp2
  rw [run_typeAssert_map_sl _ 139 _ _ _ _ Try.underlying139]
  simp only [Result.andThen]
  rw [Oper.upon_value]
  go_wp2
  go_ret
  exact ⟨rfl, rfl⟩

theorem shelf_fork {c : Col} {π : List Int} {w : World} {b : Nat} {L : List Ent} (π' : List Int) (h : ShelfR c π w b L) (hf : Fresh c w) :
    Calls Try.prog 51 #[.pointer (some ⟨b, 0, none⟩)] w fun e w' => e = .returned (.pointer (some ⟨w.heap.size + 1, 0, none⟩)) ∧ ShelfTo π' (w.heap.size + 1) L c w w' ∧ Below w.heap.size w w' := by
  obtain ⟨mb, D, hb, _, _, ⟨es, clock, hbk, F, hs, hD⟩, hd⟩ := h
  have hc := hb.box.cell
  have HK := Lib.hid (clone_map mb es clock w hbk)
  have HB := Lib.hid hbk; have HF := Lib.hid F; have HS := Lib.hid hs; have HD := Lib.hid hD; have HM := Lib.hid hd; have HFR := Lib.hid hf
  clear hb hbk F hs hD hd hf
  go_enter Try.func51, Try.ntmps51
  go_wp2_with (go_at_call 91; go_loud ((with_reducible refine HK.out.mono ?_); rintro e w1 ⟨rfl, rfl⟩))
  go_ret
  have hB : Below w.heap.size w ((w.alloc (.map es clock)).alloc (.cells #[.map (some w.heap.size)] 141)) := below_a2 w _ _
  refine ⟨by first | rfl | simp, ⟨fun k => if k = w.heap.size ∨ k = w.heap.size + 1 then π' else c k, ⟨Only.of_below hB, fun k hk => if_neg (by omega), fun k hk => ?_⟩, ⟨w.heap.size, D, ?_, if_pos (.inr rfl), if_pos (.inl rfl), ?_, ?_⟩, Boxes.below hB⟩, hB⟩
  · simp only [size_alloc] at hk
    show (if _ then _ else _) = _
    rw [if_neg (by omega)]; exact HFR.out k (by omega)
  · have := BoxT.new (w.alloc (.map es clock)) #[.map (some w.heap.size)] 141
    rwa [size_alloc] at this
  · exact World.ownsMap.alloc (w := w.alloc (.map es clock)) ⟨es, clock, (MapKept.heap_alloc w _).1, HF.out, HS.out, HD.out⟩ _
  · refine HM.out.imp fun e he v hv => by
      obtain ⟨s', l', cp', g1, g2, g3⟩ := hv
      exact ⟨s', l', cp', g1, g2, g3.move fun k hk hlt => ⟨hB.block k hlt, by show (if _ then _ else _) = _; rw [if_neg (by omega)]; exact hk.1, Nat.lt_of_lt_of_le hlt hB.size⟩⟩
end Go.Proofs.Ytjcbmfopcohcmaa
