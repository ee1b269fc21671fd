/- The pool's Push. Conditions: the pool is one. -/
import Derived.Test.YtjniholnmjafeaaPool
import Derived.Deep.RegionLaw
namespace Go.Proofs.Ytjniholnmjafeaa
open Go.RowKit Go.ChangeShapes
set_option maxRecDepth 100000
set_option linter.unusedVariables false

/-- What stands behind a call that turns the pool at b into l. -/
def PoolTo (π : List Int) (b : Nat) (l : List (List Int)) (c : Col) (w : World) (w' : World) : Prop := ∃ c', Stp (· = π) c w c' w' ∧ PoolR c' π w' b l
def Pushed (π : List Int) (b : Nat) (l : List (List Int)) (c : Col) (w : World) (e : Ending) (w' : World) : Prop := e = .returned (.int .i64 0) ∧ PoolTo π b l c w w'

theorem Ints.drew {w : World} {D : Nat → Prop} {k : IntKind} {bytes : Nat} {A : Option Addr} {n cap : Nat} {xs : List Int} (h : Ints w D k bytes A n cap xs) : Ints w.drew D k bytes A n cap xs := h

theorem PoolTo.drew {π : List Int} {b : Nat} {l : List (List Int)} {c : Col} {w w' : World} (h : PoolTo π b l c w.drew w') : PoolTo π b l c w w' := by
  obtain ⟨c', s, h⟩ := h
  exact ⟨c', ⟨⟨s.only.os, s.only.tape, s.only.output, s.only.size, s.only.block⟩, s.col, s.fresh⟩, h⟩

theorem pool_push_full {c : Col} {π : List Int} {w : World} {b : Nat} {l : List (List Int)} {A : Option Addr} {n cap : Nat} (h : PoolR c π w b l) (hl : 5000 ≤ l.length) :
    Calls Try.prog 37 #[.pointer (some ⟨b, 0, none⟩), .slice A n cap] w fun e w' => e = .returned (.int .i64 5) ∧ w = w' := by
  obtain ⟨sl, vs, hb, _, ho, _, hm⟩ := h
  obtain ⟨A, cap, rfl, h1, h2, _, _⟩ := owns_shape ho
  have hl' := hm.1
  rw [hl'] at h1 hb
  have hc := hb.box.cell
  clear hm ho hb hl'
  generalize l.length = n at *
  go_enter Try.func37, Try.ntmps37
  go_wp2
  go_ret
  exact ⟨rfl, rfl⟩

theorem news_one (W : World) (v : Value) (T : TypeId) : ∀ j u, [v][j]? = some u → (W.alloc (.cells #[v] T)).cell? ((⟨W.heap.size, 0, none⟩ : Addr).add j) = some u := by
  intro j u hj
  match j, hj with
  | 0, hj =>
    have := (Box.new W #[v] T).cell 0
    simp at hj; subst hj
    exact this
theorem box_grown {w w2 : World} {T b base e n : Nat} {C : Array Value} {v : Value} {xs : List Value} (hb : BoxT w T b C) (ho : w.ownsRow base e 1 v n xs) (hne : T ≠ e) (hg : w.grownBy w2 v.ownBlock) : BoxT w2 T b C := by
  have hl := hb.lt
  unfold BoxT at *
  rw [hg.block b hl ?_]
  · exact hb
  · intro he
    rcases ho.2 with ⟨rfl, _⟩ | ⟨g, cap, cur, rfl, _, hh, _⟩
    · cases he
    · injection he with he; subst he
      rw [hh] at hb; injection hb with hb; injection hb with _ hb; exact hne hb.symm
theorem grown_own {w w' : World} {v : Value} (h : w.grownBy w' v.ownBlock) : Only (fun k => v.ownBlock = some k) w w' :=
  ⟨h.os, h.tape, h.output, h.size, fun k hk hn => h.block k hk (fun e => hn e.symm)⟩

theorem own_later {w w1 : World} {base e size n : Nat} {v : Value} {xs : List Value} (h : w.ownsRow base e size v n xs) (hb : Below w.heap.size w w1) (o : Obj) : (w1.alloc o).ownsRow base e size v n xs := by
  refine ⟨h.1, ?_⟩
  rcases h.2 with h2 | ⟨g, cap, cur, rfl, hg, hh, h3⟩
  · exact .inl h2
  · exact .inr ⟨g, cap, cur, rfl, hg, ((show BoxT w e g cur from hh).below hb (show BoxT w e g cur from hh).lt).alloc o, h3⟩

theorem push_fin {c : Col} {π : List Int} {w w1 w2 : World} {b : Nat} {l : List (List Int)} {x : List Int} {sl : Value} {vs : List Value} {B1 : Option Addr} {n1 c1 g2 cap2 : Nat} {O : Obj} (hb : BoxT w 104 b #[sl]) (hcb : c b = π)
    (ho : w.ownsRow 0 51 1 sl vs.length vs) (hg : ∀ g, sl.ownBlock = some g → c g = π) (hm : Msgs c w vs l) (hf : Fresh c w) (hπ : π ≠ []) (hb1 : Below w.heap.size w w1) (hi : Ints w1 (w.heap.size ≤ ·) .u8 1 B1 n1 c1 x)
    (hown : w2.ownsRow 0 51 1 (.slice (some ⟨g2, 0, none⟩) (vs.length + 1) cap2) (vs.length + 1) (vs ++ [.slice B1 n1 c1])) (hgrow : (w1.alloc O).grownBy w2 sl.ownBlock) (hat : sl.ownBlock = some g2 ∨ g2 = (w1.alloc O).heap.size) (hlt : g2 < w2.heap.size) :
    PoolTo π b (l ++ [x]) c w (w2.setCell ⟨b, 0, none⟩ (.slice (some ⟨g2, 0, none⟩) (vs.length + 1) cap2)) := by
  have hz := hb.lt
  have hz1 := hb1.size
  have s1 : Stp (· = π) c w c w1 := Stp.of_below _ hf hb1
  have f1 : Fresh c w1 := s1.fresh
  have s2 : Stp (· = π) c w c (w1.alloc O) := s1.trans (Stp.of_below _ f1 (below_a1 _ _))
  have hbA : BoxT (w1.alloc O) 104 b #[sl] := (hb.below hb1 hz).alloc O
  have hoA : (w1.alloc O).ownsRow 0 51 1 sl vs.length vs := own_later ho hb1 O
  have hbB := box_grown hbA hoA (by decide) hgrow
  have hg' : Only (fun k => c k = π) (w1.alloc O) w2 := (grown_own hgrow).mono (fun k _ hk => hg k hk)
  have hne : b ≠ g2 := by
    intro he; subst he
    rcases hown.2 with ⟨h1, _⟩ | ⟨g, cap, cur, h1, _, hh, _⟩
    · cases h1
    · injection h1 with h1; injection h1 with h1; injection h1 with h1; subst h1
      unfold BoxT at hbB; rw [hh] at hbB; injection hbB with hbB; injection hbB with _ hbB; exact absurd hbB (by decide)
  have hs1 : w.heap.size ≤ (w1.alloc O).heap.size := by rw [size_alloc]; omega
  have oAll : Only (fun k => c k = π) w (w2.setCell ⟨b, 0, none⟩ (.slice (some ⟨g2, 0, none⟩) (vs.length + 1) cap2)) := by
    refine Only.setCell ?_ (.inl hcb) _
    exact s2.only.trans hg'
  have hcol : ∀ k, k < w.heap.size → upd c g2 π k = c k := by
    intro k hk
    by_cases he : k = g2
    · subst he
      rw [upd_same]
      rcases hat with hat | hat
      · exact (hg k hat).symm
      · omega
    · exact upd_ne _ _ he
  have S : Stp (· = π) c w (upd c g2 π) (w2.setCell ⟨b, 0, none⟩ (.slice (some ⟨g2, 0, none⟩) (vs.length + 1) cap2)) :=
    ⟨oAll, hcol, fun k hk => by rw [size_setCell] at hk; rw [upd_ne _ _ (by omega)]; exact hf k (by have := hgrow.size; omega)⟩
  have hπ' : ¬ ([] : List Int) = π := fun h => hπ h.symm
  refine ⟨upd c g2 π, S, .slice (some ⟨g2, 0, none⟩) (vs.length + 1) cap2, vs ++ [.slice B1 n1 c1], hbB.set (i := 0) _, by rw [hcol b hz]; exact hcb, ?_, ?_, ?_⟩
  · rw [List.length_append]
    exact ownsRow_only hown (S := (· = b)) ((Only.refl (· = b) _).setCell (p := ⟨b, 0, none⟩) (.inl rfl) _) (fun g hg => by injection hg with hg; show ¬ g = b; rw [← hg]; exact fun h => hne h.symm)
  · intro g hg
    injection hg with hg
    rw [← hg]; exact upd_same _ _ _
  · have hm' := hm.step S hπ'
    refine ⟨by simp [hm'.1], fun i v y hv hy => ?_⟩
    by_cases hi' : i < vs.length
    · rw [List.getElem?_append_left hi'] at hv
      rw [List.getElem?_append_left (by rw [← hm.1]; exact hi')] at hy
      exact hm'.2 i v y hv hy
    · have hiv : i = vs.length := by
        have := (List.getElem?_eq_some_iff.1 hv).1
        simp at this; omega
      subst hiv
      rw [List.getElem?_append_right (Nat.le_refl _)] at hv
      rw [List.getElem?_append_right (by rw [hm.1]; exact Nat.le_refl _), hm.1] at hy
      simp at hv hy
      subst hv hy
      have hgr : Only (fun k => sl.ownBlock = some k) (w1.alloc O) w2 := grown_own hgrow
      refine ⟨B1, n1, c1, rfl, hi.move fun q hq hlt' => ?_⟩
      have q1 : q ≠ b := by omega
      have q2 : ¬ sl.ownBlock = some q := by
        intro hs
        have := hg q hs
        rw [hf q hq] at this
        exact hπ this.symm
      have q3 : q < (w1.alloc O).heap.size := by rw [size_alloc]; omega
      have q4 : q ≠ g2 := by
        intro he; subst he
        rcases hat with hat | hat
        · exact q2 hat
        · omega
      refine ⟨?_, by rw [upd_ne _ _ q4]; exact hf q hq, by rw [size_setCell]; have := hgrow.size; omega⟩
      rw [Below.heap_setCell _ _ _ _ q1, hgr.block q q3 q2, Below.heap_alloc _ _ _ hlt']

theorem pool_push {c : Col} {π : List Int} {w : World} {b : Nat} {l : List (List Int)} {A : Option Addr} {n cap : Nat} {x : List Int} (h : PoolR c π w b l) (hx : DInts c w .u8 1 (.slice A n cap) x) (hf : Fresh c w) (hl : l.length < 5000) (hπ : π ≠ []) :
    Calls Try.prog 37 #[.pointer (some ⟨b, 0, none⟩), .slice A n cap] w (Pushed π b (l ++ [x]) c w) := by
  obtain ⟨D, hD, hi⟩ := hx.lt
  have HI := Lib.hid hi.drew; clear hi
  have HD := Lib.hid (show ∀ b, D b → b < w.drew.heap.size from hD); clear hD
  have HP := Lib.hid h
  obtain ⟨sl, vs, hb, hcb, ho, hg, hm⟩ := h
  obtain ⟨A1, cap1, hsl, h1, h2, h3, h4⟩ := owns_shape ho
  have hl' := hm.1
  subst hsl
  have hc := hb.box.cell
  have hfr := hb.box.free
  have z := hb.lt
  have hinfo : (Try.prog.info? 51).map (fun i => (i.zero, i.size, i.bytes)) = some (some (.slice none 0 0), 1, 24) := by kernel_rfl
  obtain ⟨i0, hii, hz0, hz1, hz2⟩ := info_parts hinfo
  clear hinfo h3 h4
  have HO := Lib.hid (show w.drew.ownsRow 0 51 1 (.slice A1 vs.length cap1) vs.length vs from ho); clear ho
  have HB := Lib.hid (show BoxT w.drew 104 b #[.slice A1 vs.length cap1] from hb); clear hb
  have HM := Lib.hid hm; clear hm
  have HF := Lib.hid hf; clear hf
  have hvl : vs.length < 5000 := by omega
  have HL := Lib.hid hl'; clear hl'
  go_enter Try.func37, Try.ntmps37
  go_wp2_with fail
  go_region_law (first
    | (refine step_append_lies _ rfl _ _ 60 rfl 0 51 i0 (.slice none 0 0) 1 24 Try.underlying60 hii hz0 hz1 hz2 rfl (by decide) _ vs.length vs rfl (own_later HO.out hb1 _) _ 1 1 [.slice B1 n1 c1] rfl rfl (news_one _ _ _) (by intro u hu; simp at hu; subst hu; rfl) (by decide) (by unfold maxLen; omega) (by omega) (Nat.zero_le _) _ rfl ?_; intro g2 cap2 w2 hown2 hgrow2 hat2 hlt2; have bx2 := box_grown ((HB.out.below hb1 HB.out.lt).alloc _) (own_later HO.out hb1 _) (by decide) hgrow2; have c2 := bx2.box.cell; have f2 := bx2.box.free)
    | (go_simp; go_at_call 70; refine (clone_u8 _ HI.out HD.out).mono ?_; rintro e w1 hn; obtain ⟨_, rfl, B1, n1, c1, rfl, hi1, hb1, _⟩ := hn; have cc1 := (HB.out.below hb1 HB.out.lt).box.cell; have cd1 := ((HB.out.below hb1 HB.out.lt).alloc (.cells #[.slice B1 n1 c1] 51)).box.cell))
  all_goals
    go_wp2
    go_ret
    exact ⟨rfl, (push_fin (w := w.drew) HB.out hcb HO.out hg HM.out HF.out hπ hb1 hi1 hown2 hgrow2 hat2 hlt2).drew⟩
end Go.Proofs.Ytjniholnmjafeaa
