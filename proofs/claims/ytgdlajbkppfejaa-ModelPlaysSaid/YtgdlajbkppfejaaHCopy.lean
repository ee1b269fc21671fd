/- The helper's CopyRecord. Conditions: the values read so. -/
import Derived.Test.YtgdlajbkppfejaaEntry
import Derived.Test.YtgdlajbkppfejaaApp
namespace Go.Proofs.Ytgdlajbkppfejaa
open Go.RowKit Go.ChangeShapes
set_option maxRecDepth 100000
set_option linter.unusedVariables false
set_option linter.unusedSimpArgs false

theorem box_grown_R {w w' : World} {b : Nat} {C : Array Value} {row : Option Nat} (h : Box w b C) (hg : w.grownBy w' row) (hn : some b ≠ row) : Box w' b C := by
  have hl := h.lt
  obtain ⟨T, h⟩ := h
  exact ⟨T, by rw [hg.block b hl hn]; exact h⟩
theorem run_u32_info_R : ∃ i : TypeInfo, Try.prog.info? 47 = some i ∧ i.zero = some (.int .u32 0) ∧ i.size = 1 ∧ i.bytes = 4 := by
  have hinfo' : (Try.prog.info? 47).map (fun i => (i.zero, i.size, i.bytes)) = some (some (.int .u32 0), 1, 4) := by kernel_rfl
  obtain ⟨j0, jii, jz0, jz1, jz2⟩ := info_parts hinfo'
  exact ⟨j0, jii, jz0, jz1, jz2⟩
theorem ints_cells_R {w : World} {D : Nat → Prop} {k : IntKind} {bytes : Nat} {A : Option Addr} {n c : Nat} {xs : List Int} (hx : Ints w D k bytes A n c xs) : ∀ ad, A = some ad → ∀ j u, (xs.map (Value.int k))[j]? = some u → w.cell? (ad.add j) = some u := by
  obtain ⟨lx, _, _, _, _, _, x7⟩ := hx
  intro ad ha j u hu
  rw [List.getElem?_map] at hu
  obtain ⟨x, hx, rfl⟩ := Option.map_eq_some_iff.1 hu
  have hj : j < n := by have := (List.getElem?_eq_some_iff.1 hx).1; omega
  obtain ⟨b, off, hb, hd, hcell⟩ := x7 (by omega)
  rw [ha] at hb; injection hb with hb; subst hb
  have e1 : (⟨b, off, none⟩ : Addr).add j = ⟨b, off + j, none⟩ := by unfold Addr.add; split <;> simp_all
  rw [e1, hcell j hj, List.getD_eq_getElem?_getD, hx]; rfl
theorem ints_of_row_R {w : World} {base : Nat} {v : Value} {n : Nat} {xs : List Int} (h : w.ownsRow base 47 1 v n (xs.map (Value.int .u32))) (hb : n * 4 ≤ 140737488351232) (hu : ∀ x ∈ xs, (Lit.int .u32 x).wf = true) : ∃ A cap, v = .slice A n cap ∧ Ints w (fun b => base ≤ b ∧ b < w.heap.size) .u32 4 A n cap xs := by
  have hlen : xs.length = n := by have := h.1; simpa using this
  rcases h.2 with ⟨rfl, rfl⟩ | ⟨g, cap, cur, rfl, hg, hh, hn, hc, hs, ht⟩
  · exact ⟨none, 0, rfl, hlen, Nat.le_refl _, by decide, by omega, (fun _ => rfl), hu, fun h => by omega⟩
  · refine ⟨_, cap, rfl, hlen, hn, by unfold maxLen at hc; omega, hb, (fun h => by cases h), hu, fun _ => ⟨g, 0, rfl, ⟨hg, (Array.getElem?_eq_some_iff.1 hh).1⟩, fun j hj => ?_⟩⟩
    have hbox : Box w g cur := ⟨_, hh⟩
    rw [Nat.zero_add, hbox.cell, ← Array.getElem?_toList]
    have : (cur.toList.take (n * 1))[j]? = (xs.map (Value.int .u32))[j]? := by rw [ht]
    rw [List.getElem?_take_of_lt (by omega)] at this
    rw [this, List.getElem?_map, List.getD_eq_getElem?_getD, List.getElem?_eq_getElem (by omega)]; rfl

set_option maxHeartbeats 1000000 in
theorem hcopy_any_R {D : Nat → Prop} {A : Option Addr} {n c : Nat} {xs : List Int} (id ver : Int) (w : World) (hx : Ints w D .u32 4 A n c xs) (hD : ∀ b, D b → b < w.heap.size) :
    Calls Try.prog 42 #[.agg #[.int .u64 id, .int .u64 ver, .slice A n c]] w fun e w' => ∃ v, e = .returned (.agg #[.int .u64 id, .int .u64 ver, v]) ∧ NewD w.heap.size .u32 4 xs w' v ∧ Below w.heap.size w w' := by
  have HX := Lib.hid ((hx.below (below_a1 w (.cells #[.int .u64 id, .int .u64 ver, .slice A n c] 37)) hD).below (below_a1 _ (.cells #[.int .u64 0, .int .u64 0, .slice none 0 0] 37)) (by intro b hb; have := hD b hb; simp; omega))
  have bn : n * 4 ≤ 140737488351232 := hx.2.2.2.1
  have hl : xs.length = n := hx.1
  have HL := Lib.hid hl
  have HA := Lib.hid (show A = none → n = 0 ∧ c = 0 from fun h => by have := hx.2.2.2.2.1 h; have := hx.2.1; omega)
  have HW := Lib.hid hx.2.2.2.2.2.1
  obtain ⟨i0, hi0, hz0, hz1, hz2⟩ := run_u32_info_R
  have HI := Lib.hid hi0; have HZ0 := Lib.hid hz0; have HZ1 := Lib.hid hz1; have HZ2 := Lib.hid hz2
  have X1 := (Box.new w #[.int .u64 id, .int .u64 ver, .slice A n c] 37).alloc (.cells #[.int .u64 0, .int .u64 0, .slice none 0 0] 37)
  have X2 := Box.newAt (w.alloc (.cells #[.int .u64 id, .int .u64 ver, .slice A n c] 37)) #[.int .u64 0, .int .u64 0, .slice none 0 0] 37 (w.heap.size + 1) (by rw [size_alloc])
  have HX1 := Lib.hid X1; have HX2 := Lib.hid X2
  clear hx hD X1 X2 hi0 hz0 hz1 hz2 hl
  go_enter Try.func42, Try.ntmps42
  go_wp2_with (at_builtin; go_loud (refine wpList_append_any _ rfl _ _ 35 rfl (w.heap.size + 2) 47 i0 (.int .u32 0) 1 4 Try.underlying35 HI.out HZ0.out HZ1.out HZ2.out rfl (by decide) (.slice none 0 0) 0 [] rfl ⟨rfl, .inl ⟨rfl, rfl⟩⟩ A n c (xs.map (Value.int .u32)) rfl (by simp [HL.out]) HA.out (ints_cells_R HX.out) (fun u hu => by obtain ⟨x, _, rfl⟩ := List.mem_map.1 hu; rfl) (by unfold maxLen; omega) (by omega) (by simp only [size_alloc]; omega) ?_; intro B cap w3 h3; obtain ⟨hown, hgr, _⟩ := h3; have X1 := box_grown_R HX1.out hgr (by simp [Value.ownBlock]); have X2 := box_grown_R HX2.out hgr (by simp [Value.ownBlock]); have c1 := X1.cell; have f1 := X1.free; have c2 := X2.cell; have f2 := X2.free; have z1 := X1.lt; have z2 := X2.lt; have HO := Lib.hid hown; have HG := Lib.hid hgr; clear hown hgr X1 X2))
  refine bodyPost_ret (v := .agg #[.int .u64 id, .int .u64 ver, .slice B n cap]) (by simp [results, Try.results42, go_sem, c1, f1, c2, f2]) rfl ?_
  have HO' := HO.out
  simp only [Nat.zero_add, List.nil_append] at HO'
  obtain ⟨B', cap', he, hi⟩ := ints_of_row_R HO' bn HW.out
  injection he with he1 _ he2
  subst he1 he2
  have HB : Below w.heap.size w w3 := (below_a2 w (.cells #[.int .u64 id, .int .u64 ver, .slice A n c] 37) (.cells #[.int .u64 0, .int .u64 0, .slice none 0 0] 37)).grown HG.out (by simp only [size_alloc]; omega) (fun k hk => by cases hk)
  refine ⟨.slice B n cap, rfl, ?_, ?_⟩
  · exact (NewD.only (B := w.heap.size + 2) (S := fun k => k = w.heap.size ∨ k = w.heap.size + 1) (w := w3) ⟨B, n, cap, rfl, hi.move fun b hb _ => ⟨rfl, hb.1⟩⟩ ((((((Only.refl _ _).setCell (.inl (.inl rfl)) _).setCell (.inl (.inr rfl)) _).setCell (.inl (.inr rfl)) _).setCell (.inl (.inr rfl)) _)) (fun b hb => by omega)).down (by omega)
  · exact ((((HB.setCell (by exact Nat.le_refl _) _).setCell (by exact Nat.le_succ _) _).setCell (by exact Nat.le_succ _) _).setCell (by exact Nat.le_succ _) _)
end Go.Proofs.Ytgdlajbkppfejaa
