/- slices.Clone at slices of whole numbers: a copy in new memory. Conditions: the slice reads so. -/
import Derived.Test.YtdpamikobmefeaaGreatEqual
import Derived.OwnWalk
import Derived.WalkSpells
namespace Go.Proofs.YtdpamikobmefeaaGreat
open Go.RowKit Go.ChangeShapes
set_option maxRecDepth 100000
set_option linter.unusedVariables false

theorem eql_slice_nil {P : Program} {t e : TypeId} (h : P.underlying t = some (.slice e)) : ∀ (w : World) (a : Option Addr) (n c n' c' : Nat), (binOp .eql t (.slice a n c) (.slice none n' c')).run P w = .ok (.bool a.isNone) w := by
  intro w a n c n' c'
  have h1 : ∀ d, (Op.equalIn (d + 1) t (.slice a n c) (.slice none n' c')).run P w = .ok a.isNone w := by
    intro d; cases a <;> simp [Op.equalIn, run_underlying h]
  simp only [binOp]
  simp [Op.equal, Op.maxDepth, h1 9999]

/-- A slice of whole numbers in memory that is newer than w. -/
def NewSl (w : World) (k : IntKind) (bytes : Nat) (xs : List Int) (w' : World) (v : Value) : Prop :=
  ∃ B n c, v = .slice B n c ∧ Ints w' (w.heap.size ≤ ·) k bytes B n c xs ∧ Below w.heap.size w w' ∧ ∃ E, w'.ownsRow w.heap.size E 1 v n (xs.map (Value.int k))
def NewInts (w : World) (k : IntKind) (bytes : Nat) (xs : List Int) (e : Ending) (w' : World) : Prop := ∃ v, e = .returned v ∧ NewSl w k bytes xs w' v

theorem ints_of_owns {w : World} {base e n : Nat} {k : IntKind} {bytes : Nat} {v : Value} {xs : List Int} (h : w.ownsRow base e 1 v n (xs.map (Value.int k))) (hw : ∀ x ∈ xs, (Lit.int k x).wf = true) (hb : n * bytes ≤ 140737488351232) :
    ∃ B c, v = .slice B n c ∧ Ints w (base ≤ ·) k bytes B n c xs := by
  have hl : xs.length = n := by have := h.1; simpa using this
  rcases h.2 with ⟨rfl, h0⟩ | ⟨g, cap, cur, rfl, hg, hh, hn, hc, hs, ht⟩
  · subst h0
    exact ⟨none, 0, rfl, hl, by omega, by omega, hb, (fun _ => rfl), hw, (fun hn => by omega)⟩
  · refine ⟨_, cap, rfl, hl, hn, by unfold maxLen at hc; omega, hb, (fun h => by cases h), hw, fun hn' => ⟨g, 0, rfl, hg, fun j hj => ?_⟩⟩
    have hbox : Box w g cur := ⟨e, hh⟩
    rw [Nat.zero_add, hbox.cell j]
    have h1 : cur.toList[j]? = (xs.map (Value.int k))[j]? := by
      rw [← ht, List.getElem?_take_of_lt (by omega)]
    rw [Array.getElem?_toList] at h1
    rw [h1, List.getElem?_map, List.getElem?_eq_getElem (by omega), List.getD_eq_getElem?_getD, List.getElem?_eq_getElem (by omega)]; rfl

theorem clone_u32 {D : Nat → Prop} {A : Option Addr} {n c : Nat} {xs : List Int} (w : World) (hx : Ints w D .u32 4 A n c xs) (hD : ∀ b, D b → b < w.heap.size) :
    Calls Tryz.prog 25 #[.slice A n c] w (NewInts w .u32 4 xs) := by
  obtain ⟨lx, x2, x3, x4, x5, x6, x7⟩ := hx
  have bn : n ≤ 140737488351232 := by omega
  have qS := eql_slice_nil (P := Tryz.prog) Tryz.underlying35
  rcases A with _ | ad
  · have hc := x5 rfl
    have hn : n = 0 := by omega
    subst hn hc
    have hxs : xs = [] := List.eq_nil_of_length_eq_zero lx
    subst hxs
    go_enter Tryz.func25, Tryz.ntmps25
    go_wp2
    go_ret
    exact ⟨_, rfl, none, 0, 0, rfl, ⟨rfl, by omega, by omega, by omega, (fun _ => rfl), (fun x hx => by cases hx), (fun h => by omega)⟩, Below.refl _ _, 27, ⟨rfl, .inl ⟨rfl, rfl⟩⟩⟩
  · have hinfo : (Tryz.prog.info? 27).map (fun i => (i.zero, i.size, i.bytes)) = some (some (.int .u32 0), 1, 4) := by kernel_rfl
    obtain ⟨i0, hi, hz0, hz1, hz2⟩ := info_parts hinfo
    have hown : (w.alloc (.cells #[] 27)).ownsRow w.heap.size 27 1 (.slice (some ⟨w.heap.size, 0, none⟩) 0 0) 0 [] := by
      have := box_owns (base := w.heap.size) (size := 1) (n := 0) (cap := 0) (BoxT.new w #[] 27) rfl (by omega) (by omega) (Nat.le_refl _)
      simpa using this
    have hc1 : ∀ j u, (xs.map (Value.int .u32))[j]? = some u → (w.alloc (.cells #[] 27)).cell? (ad.add j) = some u := by
      intro j u hu
      rw [List.getElem?_map] at hu
      obtain ⟨x, hx, rfl⟩ := Option.map_eq_some_iff.1 hu
      have hj : j < n := by have := (List.getElem?_eq_some_iff.1 hx).1; omega
      obtain ⟨b, off, hb, hd, hcell⟩ := x7 (by omega)
      injection hb with hb; subst hb
      have e1 : (⟨b, off, none⟩ : Addr).add j = ⟨b, off + j, none⟩ := by unfold Addr.add; split <;> simp_all
      rw [e1, (below_a1 w _).cell (p := ⟨b, off + j, none⟩) (hD b hd), hcell j hj, List.getD_eq_getElem?_getD, hx]; rfl
    have hlen : (xs.map (Value.int .u32)).length = n * 1 := by simp [lx]
    have hone : ∀ u ∈ xs.map (Value.int .u32), u.oneCell' = true := by
      intro u hu; obtain ⟨x, _, rfl⟩ := List.mem_map.1 hu; rfl
    have H4 := Lib.hid x4
    have b4 := Lib.hid (show (0 + n) * 4 ≤ 140737488355328 by omega)
    have H6 := Lib.hid x6
    clear lx x2 x3 x4 x5 x6 x7 hD hinfo
    go_enter Tryz.func25, Tryz.ntmps25
    go_wp2_with (at_builtin; refine wpList_append_own _ rfl _ _ 35 rfl w.heap.size 27 i0 (.int .u32 0) 1 4 Tryz.underlying35 hi hz0 hz1 hz2 rfl (by decide) _ 0 [] rfl hown ad n c (xs.map (Value.int .u32)) rfl hlen hc1 hone (by unfold maxLen; omega) b4.out (by rw [size_alloc]; omega) ?_; intro v1 w1 hown1 hgrow1 _; simp only [Nat.zero_add, List.nil_append] at hown1)
    obtain ⟨B, c1, hv, hi1⟩ := ints_of_owns hown1 H6.out H4.out
    have hg1 : Below w.heap.size w w1 := (below_a1 w _).trans ((grown_only hgrow1).below (by rw [size_alloc]; omega) (by intro k hk; subst hk; exact Nat.le_refl _))
    go_ret
    exact ⟨v1, rfl, B, n, c1, hv, hi1, hg1, _, hown1⟩
end Go.Proofs.YtdpamikobmefeaaGreat
