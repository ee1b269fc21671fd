/- gather.Fork. Conditions: the gathering is one. -/
import Derived.Test.YtpkeddiaoacfeaaGathSta
import Derived.Shelf.SlMaps.Clone
namespace Go.Proofs.Ytpkeddiaoacfeaa
open Go.RowKit Go.ChangeShapes Go.Maps
set_option maxRecDepth 100000
set_option linter.unusedVariables false
set_option linter.unusedSimpArgs false

theorem clone_mapR (b : Nat) (es : Array MapEntry) (clock : Nat) (w : World) (hb : w.heap[b]? = some (.map es clock)) :
    Calls Try.prog 52 #[.map (some b)] w fun e w' => e = .returned (.map (some w.heap.size)) ∧ w' = w.alloc (.map es clock) := by
  have hq := fun w => run_eql_map_nil_sl (P := Try.prog) w 99 _ _ (some b) Try.underlying99
  go_enter Try.func52, Try.ntmps52
  go_wp2
  rw [run_callFunc_extern Try.func87 (by kernel_rfl) (by kernel_rfl) (by kernel_rfl) (e := Extern.MapsClone.clone) (by kernel_rfl), run_maps_clone_sl w 99 hb]
  simp only [Result.andThen]
  rw [Oper.upon_value]
  go_wp2
  rw [run_typeAssert_map_sl _ 99 _ _ _ _ Try.underlying99]
  simp only [Result.andThen]
  rw [Oper.upon_value]
  go_wp2
  go_ret
  exact ⟨rfl, rfl⟩

theorem gather_fork {c : Col} {π : List Int} {w : World} {g : Nat} {bl : List Rng} {L : List Rec} (π' : List Int) (h : GathR c π w g bl L) (hf : Fresh c w) :
    Calls Try.prog 22 #[.pointer (some ⟨g, 0, none⟩)] w fun e w' => ∃ g', e = .returned (.pointer (some ⟨g', 0, none⟩)) ∧ GathTo π' g' bl L c w w' := by
  obtain ⟨A, n, cp, mb, D, hb, _, _, hr, ⟨es, clock, hbk, F, hs, hD⟩, hd⟩ := h
  have hc := hb.box.cell
  have zb := hb.lt
  have HK := Lib.hid (fun (w' : World) (h : Same w w') => clone_mapR mb es clock w' (by rw [h.1.block mb (Array.getElem?_eq_some_iff.1 hbk).1]; exact hbk))
  have HB := Lib.hid hb; have HBK := Lib.hid hbk; have HF := Lib.hid F; have HS := Lib.hid hs; have HD := Lib.hid hD; have HM := Lib.hid hd; have HFR := Lib.hid hf; have HR := Lib.hid hr
  clear hb hbk F hs hD hd hf hr
  have hend : ∀ w1 : World, Below w.heap.size w w1 → ∃ g', Ending.returned (.pointer (some ⟨w1.heap.size + 1, 0, none⟩)) = .returned (.pointer (some ⟨g', 0, none⟩)) ∧ GathTo π' g' bl L c w ((w1.alloc (.map es clock)).alloc (.cells #[.slice A n cp, .map (some w1.heap.size)] 101)) := by
    intro w1 hb1
    have hz := hb1.size
    have hB : Below w.heap.size w ((w1.alloc (.map es clock)).alloc (.cells #[.slice A n cp, .map (some w1.heap.size)] 101)) := below_from hb1 (below_a2 w1 _ _) hz
    refine ⟨w1.heap.size + 1, rfl, fun k => if k = w1.heap.size ∨ k = w1.heap.size + 1 then π' else c k, ⟨Only.of_below hB, fun k hk => if_neg (by omega), fun k hk => ?_⟩, ⟨A, n, cp, w1.heap.size, D, ?_, if_pos (.inr rfl), if_pos (.inl rfl), ?_, ?_, ?_⟩, Boxes.below hB⟩
    · simp only [size_alloc] at hk
      show (if _ then _ else _) = _
      rw [if_neg (by omega)]; exact HFR.out k (by omega)
    · have := BoxT.new (w1.alloc (.map es clock)) #[.slice A n cp, .map (some w1.heap.size)] 101
      rwa [size_alloc] at this
    · exact HR.out.move fun k hk hlt => ⟨hB.block k hlt, by show (if _ then _ else _) = _; rw [if_neg (by omega)]; exact hk.1, Nat.lt_of_lt_of_le hlt hB.size⟩
    · exact World.ownsMap.alloc (w := w1.alloc (.map es clock)) ⟨es, clock, (MapKept.heap_alloc w1 _).1, HF.out, HS.out, HD.out⟩ _
    · refine HM.out.imp fun e he v hv => by
        obtain ⟨s', l', cp', g1, g2, g3⟩ := hv
        exact ⟨s', l', cp', g1, g2, g3.move fun k hk hlt => ⟨hB.block k hlt, by show (if _ then _ else _) = _; rw [if_neg (by omega)]; exact hk.1, Nat.lt_of_lt_of_le hlt hB.size⟩⟩
  have HEND := Lib.hid hend
  clear hend
  go_enter Try.func22, Try.ntmps22
  go_upto_region 3 with fail
  first | (go_region_with (go_at_call 52; refine (HK.out _ (by first | exact Same.drew _ | exact Same.of (Below.refl _ _))).mono ?_; rintro e w1 ⟨rfl, rfl⟩; have c1 := ((HB.out.box).alloc (.map es clock)).cell)) | fail
  all_goals
    go_wp2
    go_ret
    first
      | exact HEND.out w (Below.refl _ _)
      | exact HEND.out w.drew (Below.refl _ _).drew
section
variable {W w : World} {ts ts' : List Thing} {π : List Int} {g : Nat} {bl : List Rng} {L : List Rec}
theorem ga_fork (i : Nat) (π' : List Int) (h : Sta W ts w) (hi : ts[i]? = some (tGath π g bl L)) (h0 : π' ≠ []) (ho : ∀ x ∈ ts, x.π ≠ π') :
    Calls Try.prog 22 #[.pointer (some ⟨g, 0, none⟩)] w fun e w' => ∃ g', e = .returned (.pointer (some ⟨g', 0, none⟩)) ∧ Sta W (ts ++ [tGath π' g' bl L]) w' ∧ Boxes w w' := by
  obtain ⟨c, h⟩ := h
  refine (gather_fork (c := c) π' (h.get hi) h.fresh).mono ?_
  rintro e w' ⟨g', rfl, c', st, sh, hb⟩
  exact ⟨g', rfl, ⟨c', h.add (t := tGath π' g' bl L) h0 ho st sh⟩, hb⟩
end
end Go.Proofs.Ytpkeddiaoacfeaa
