/- The pool's Fork. Conditions: the pool is one. -/
import Derived.Test.YtjniholnmjafeaaPoolMore
import Derived.Test.YtjniholnmjafeaaApp
namespace Go.Proofs.Ytjniholnmjafeaa
open Go.RowKit Go.ChangeShapes
set_option maxRecDepth 100000
set_option linter.unusedVariables false

/-- A copy of the row, in new memory. -/
def NewRow (w : World) (T : TypeId) (n : Nat) (vs : List Value) (e : Ending) (w' : World) : Prop :=
  ∃ B cap, e = .returned (.slice B n cap) ∧ Below w.heap.size w w' ∧ w'.ownsRow w.heap.size T 1 (.slice B n cap) n vs

theorem clone_rows {w : World} {A : Option Addr} {n cap : Nat} {vs : List Value} (ho : w.ownsRow 0 51 1 (.slice A n cap) n vs) (hone : ∀ v ∈ vs, v.oneCell' = true) (hn : n * 24 ≤ 140737488351232) :
    Calls Try.prog 83 #[.slice A n cap] w (NewRow w 51 n vs) := by
  have qS := eql_slice_nil (P := Try.prog) Try.underlying60
  have hl : vs.length = n := by have := ho.1; simpa using this
  rcases ho.2 with ⟨he, h0⟩ | ⟨g, cap', cur, he, hg, hh, hnc, hc, hs, ht⟩
  · injection he with h1 h2 h3
    subst h1 h2 h3
    have hv : vs = [] := List.eq_nil_of_length_eq_zero hl
    subst hv
    clear ho
    go_enter Try.func83, Try.ntmps83
    go_wp2
    go_ret
    exact ⟨none, 0, rfl, Below.refl _ _, ⟨rfl, .inl ⟨rfl, rfl⟩⟩⟩
  · injection he with h1 h2 h3
    subst h1 h3
    have hinfo : (Try.prog.info? 51).map (fun i => (i.zero, i.size, i.bytes)) = some (some (.slice none 0 0), 1, 24) := by kernel_rfl
    obtain ⟨i0, hi, hz0, hz1, hz2⟩ := info_parts hinfo
    have hown : (w.alloc (.cells #[] 51)).ownsRow w.heap.size 51 1 (.slice (some ⟨w.heap.size, 0, none⟩) 0 0) 0 [] := by
      have := box_owns (base := w.heap.size) (size := 1) (n := 0) (cap := 0) (BoxT.new w #[] 51) rfl (by omega) (by omega) (Nat.le_refl _)
      simpa using this
    have hc1 : ∀ j u, vs[j]? = some u → (w.alloc (.cells #[] 51)).cell? ((⟨g, 0, none⟩ : Addr).add j) = some u := by
      intro j u hu
      have hgl : g < w.heap.size := (Array.getElem?_eq_some_iff.1 hh).1
      have e1 : (⟨g, 0, none⟩ : Addr).add j = ⟨g, j, none⟩ := by unfold Addr.add; split <;> simp_all
      obtain ⟨g', cap2, h4, h5, _⟩ := owns_cell ho hu
      injection h4 with h4; injection h4 with h4; injection h4 with h4; subst h4
      rw [e1, (below_a1 w _).cell (p := ⟨g, j, none⟩) hgl, h5]
    have b4 := Lib.hid (show (0 + n) * 24 ≤ 140737488355328 by omega)
    have b5 := Lib.hid (show 0 + n ≤ maxLen by unfold maxLen; omega)
    have hlen : vs.length = n * 1 := by omega
    clear ho hs ht hh hc hnc hinfo hl hn
    go_enter Try.func83, Try.ntmps83
    go_wp2_with (at_builtin; refine wpList_append_own _ rfl _ _ 60 rfl w.heap.size 51 i0 (.slice none 0 0) 1 24 Try.underlying60 hi hz0 hz1 hz2 rfl (by decide) _ 0 [] rfl hown ⟨g, 0, none⟩ n cap vs rfl hlen hc1 hone b5.out b4.out (by rw [size_alloc]; omega) ?_; intro v1 w1 hown1 hgrow1 _; simp only [Nat.zero_add, List.nil_append] at hown1)
    have hg1 : Below w.heap.size w w1 := (below_a1 w _).trans ((grown_only hgrow1).below (by rw [size_alloc]; omega) (by intro k hk; subst hk; exact Nat.le_refl _))
    obtain ⟨B, cap1, rfl, _⟩ := owns_shape hown1
    go_ret
    exact ⟨B, cap1, rfl, hg1, hown1⟩

theorem own_later' {w : World} {base e size n : Nat} {v : Value} {xs : List Value} (h : w.ownsRow base e size v n xs) (o : Obj) : (w.alloc o).ownsRow base e size v n xs := own_later h (Below.refl _ _) o
theorem own_base {w : World} {base e size n : Nat} {v : Value} {xs : List Value} (h : w.ownsRow base e size v n xs) : w.ownsRow 0 e size v n xs := by
  refine ⟨h.1, ?_⟩
  rcases h.2 with h2 | ⟨g, cap, cur, rfl, hg, h3⟩
  · exact .inl h2
  · exact .inr ⟨g, cap, cur, rfl, Nat.zero_le _, h3⟩

/-- Another pool, alike. -/
def Forked (π : List Int) (l : List (List Int)) (c : Col) (w : World) (e : Ending) (w' : World) : Prop :=
  ∃ b, e = .returned (.pointer (some ⟨b, 0, none⟩)) ∧ PoolTo π b l c w w' ∧ w.heap.size ≤ b ∧ Below w.heap.size w w'

theorem pool_fork {c : Col} {π π' : List Int} {w : World} {b : Nat} {l : List (List Int)} (h : PoolR c π w b l) (hf : Fresh c w) (hl : l.length ≤ 5000) (hπ : π' ≠ []) :
    Calls Try.prog 62 #[.pointer (some ⟨b, 0, none⟩)] w (Forked π' l c w) := by
  obtain ⟨sl, vs, hb, hcb, ho, hg, hm⟩ := h
  obtain ⟨A, cap, rfl, _⟩ := owns_shape ho
  have hone : ∀ v ∈ vs, v.oneCell' = true := by
    intro u hu
    obtain ⟨j, hj⟩ := List.getElem?_of_mem hu
    have hjl := (List.getElem?_eq_some_iff.1 hj).1
    obtain ⟨A, n, cp, rfl, _⟩ := hm.2 j u (l[j]'(by rw [← hm.1]; exact hjl)) hj (List.getElem?_eq_getElem _)
    rfl
  have hc := hb.box.cell
  have hvl := hm.1
  have HO := Lib.hid ho; have HM := Lib.hid hm; have HF := Lib.hid hf; have HN := Lib.hid hone
  have HL := Lib.hid (show vs.length * 24 ≤ 140737488351232 by omega)
  clear ho hm hf hone hvl
  go_enter Try.func62, Try.ntmps62
  go_wp2_with (go_at_call 83; (with_reducible refine (clone_rows HO.out HN.out HL.out).mono ?_); rintro e w1 ⟨B, cap1, rfl, hb1, ho1⟩)
  go_ret
  have hsz := hb1.size
  have hB : Below w.heap.size w (w1.alloc (.cells #[.slice B vs.length cap1] 104)) := hb1.alloc hsz _
  refine ⟨w1.heap.size, rfl, ?_, hsz, hB⟩
  have h0 : ∀ g, (Value.slice B vs.length cap1).ownBlock = some g → w.heap.size ≤ g ∧ g < w1.heap.size := by
    intro g hg
    rcases ho1.2 with ⟨he, _⟩ | ⟨g', cap', cur, he, hge, hh, _⟩
    · rw [he] at hg; cases hg
    · rw [he] at hg; injection hg with hg; subst hg; exact ⟨hge, (Array.getElem?_eq_some_iff.1 hh).1⟩
  let cc : Col := fun k => if w.heap.size ≤ k ∧ (k = w1.heap.size ∨ (Value.slice B vs.length cap1).ownBlock = some k) then π' else c k
  have hcc : ∀ k, k < w.heap.size → cc k = c k := fun k hk => by show (if _ then _ else _) = _; rw [if_neg (by omega)]
  have S : Stp (· = π') c w cc (w1.alloc (.cells #[.slice B vs.length cap1] 104)) :=
    ⟨Only.of_below hB, hcc, fun k hk => by
      rw [size_alloc] at hk
      show (if _ then _ else _) = _
      rw [if_neg (fun hh => hh.2.elim (fun h => by omega) (fun h => by have := h0 k h; omega))]
      exact HF.out k (by omega)⟩
  refine ⟨cc, S, .slice B vs.length cap1, vs, BoxT.new _ _ _, ?_, own_base (own_later' ho1 _), ?_, HM.out.step S (fun h => hπ h.symm)⟩
  · show (if _ then _ else _) = _
    rw [if_pos ⟨hsz, .inl rfl⟩]
  · intro g hg
    show (if _ then _ else _) = _
    rw [if_pos ⟨(h0 g hg).1, .inr hg⟩]
end Go.Proofs.Ytjniholnmjafeaa
