/- The pool: what it has, and what its methods do. Conditions: the pool is one. -/
import Derived.Test.YtjniholnmjafeaaCol
import Derived.Deep.AppendLies
import Derived.Deep.DeepCutAuto
import Derived.Deep.RegionHeld3
namespace Go.Proofs.Ytjniholnmjafeaa
open Go.RowKit Go.ChangeShapes
set_option maxRecDepth 100000
set_option linter.unusedVariables false

/-- Values that are messages. -/
def Msgs (c : Col) (w : World) (vs : List Value) (l : List (List Int)) : Prop :=
  vs.length = l.length ∧ ∀ (i : Nat) (v : Value) (x : List Int), vs[i]? = some v → l[i]? = some x → DInts c w .u8 1 v x
theorem Msgs.step {C : List Int → Prop} {c c' : Col} {w w' : World} {vs : List Value} {l : List (List Int)} (h : Msgs c w vs l) (hs : Stp C c w c' w') (hC : ¬ C []) : Msgs c' w' vs l :=
  ⟨h.1, fun i v x hv hx => (h.2 i v x hv hx).step hs hC⟩

/-- A pool: a block with a slice of messages. -/
def PoolR (c : Col) (π : List Int) (w : World) (b : Nat) (l : List (List Int)) : Prop :=
  ∃ (sl : Value) (vs : List Value), BoxT w 104 b #[sl] ∧ c b = π ∧ w.ownsRow 0 51 1 sl vs.length vs ∧ (∀ g, sl.ownBlock = some g → c g = π) ∧ Msgs c w vs l

theorem owns_shape {w : World} {base e size n : Nat} {v : Value} {xs : List Value} (h : w.ownsRow base e size v n xs) : ∃ A cap, v = .slice A n cap ∧ n ≤ cap ∧ cap ≤ 9223372036854775807 ∧ (A = none → n = 0 ∧ cap = 0) ∧
    ∀ ad, A = some ad → ∃ g cur, ad = ⟨g, 0, none⟩ ∧ BoxT w e g cur ∧ cur.size = cap * size ∧ cur.toList.take (n * size) = xs := by
  rcases h.2 with ⟨rfl, rfl⟩ | ⟨g, cap, cur, rfl, hg, hh, hn, hc, hs, ht⟩
  · exact ⟨none, 0, rfl, by omega, by omega, (fun _ => ⟨rfl, rfl⟩), (fun ad ha => by cases ha)⟩
  · refine ⟨_, cap, rfl, hn, by unfold maxLen at hc; omega, (fun h => by cases h), fun ad ha => ?_⟩
    injection ha with ha
    exact ⟨g, cur, ha.symm, hh, hs, ht⟩

theorem owns_cell {w : World} {base e n : Nat} {v : Value} {xs : List Value} (h : w.ownsRow base e 1 v n xs) {i : Nat} {x : Value} (hx : xs[i]? = some x) : ∃ g cap, v = .slice (some ⟨g, 0, none⟩) n cap ∧ w.cell? ⟨g, i, none⟩ = some x ∧ v.ownBlock = some g := by
  have hl : xs.length = n := by have := h.1; simpa using this
  have hi := (List.getElem?_eq_some_iff.1 hx).1
  rcases h.2 with ⟨rfl, h0⟩ | ⟨g, cap, cur, rfl, hg, hh, hn, hc, hs, ht⟩
  · omega
  · refine ⟨g, cap, rfl, ?_, rfl⟩
    have hbox : Box w g cur := ⟨e, hh⟩
    rw [hbox.cell i]
    rw [← ht, List.getElem?_take_of_lt (by omega), Array.getElem?_toList] at hx
    exact hx

theorem ownsRow_only {S : Nat → Prop} {w w' : World} {base e size n : Nat} {v : Value} {xs : List Value} (h : w.ownsRow base e size v n xs) (ho : Only S w w') (hn : ∀ g, v.ownBlock = some g → ¬ S g) : w'.ownsRow base e size v n xs := by
  refine ⟨h.1, ?_⟩
  rcases h.2 with h2 | ⟨g, cap, cur, rfl, hg, hh, h3⟩
  · exact .inl h2
  · exact .inr ⟨g, cap, cur, rfl, hg, by rw [ho.block g (Array.getElem?_eq_some_iff.1 hh).1 (hn g rfl)]; exact hh, h3⟩

theorem PoolR.step {C : List Int → Prop} {c c' : Col} {w w' : World} {π : List Int} {b : Nat} {l : List (List Int)} (h : PoolR c π w b l) (hs : Stp C c w c' w') (hπ : ¬ C π) (hC : ¬ C []) : PoolR c' π w' b l := by
  obtain ⟨sl, vs, hb, hc, ho, hg, hm⟩ := h
  refine ⟨sl, vs, hb.only hs.only (by show ¬ C (c b); rw [hc]; exact hπ), (hs.col b hb.lt).trans hc, ownsRow_only ho hs.only (fun g hg' => by show ¬ C (c g); rw [hg g hg']; exact hπ), fun g hg' => ?_, hm.step hs hC⟩
  have hlt : g < w.heap.size := by
    rcases ho.2 with ⟨rfl, _⟩ | ⟨g', cap, cur, rfl, _, hh, _⟩
    · cases hg'
    · injection hg' with hg'; subst hg'; exact (Array.getElem?_eq_some_iff.1 hh).1
  exact (hs.col g hlt).trans (hg g hg')

/-- The number that tells whether there is such a message. -/
def atF (n : Nat) (i : Int) : Int := if 0 ≤ i ∧ i < n then 0 else 6

theorem pool_at {c : Col} {π : List Int} {w : World} {b : Nat} {l : List (List Int)} (i : Int) (h : PoolR c π w b l) (bi : -9223372036854775808 ≤ i ∧ i ≤ 9223372036854775807) :
    Calls Try.prog 71 #[.pointer (some ⟨b, 0, none⟩), .int .i64 i] w fun e w' => e = .returned (.int .i64 (atF l.length i)) ∧ w = w' := by
  obtain ⟨sl, vs, hb, _, ho, _, hm⟩ := h
  obtain ⟨A, cap, rfl, h1, h2, _, _⟩ := owns_shape ho
  have hl := hm.1
  rw [hl] at h1 hb
  have hc := hb.box.cell
  obtain ⟨b0, b1⟩ := bi
  clear hm ho hb hl
  generalize l.length = n at *
  by_cases h0 : i < 0
  · have E : atF n i = 6 := by unfold atF; rw [if_neg (by omega)]
    go_enter Try.func71, Try.ntmps71
    go_wp2
    go_ret
    exact ⟨by first | rfl | (rw [E]; rfl), rfl⟩
  · by_cases hn : (n : Int) ≤ i
    · have E : atF n i = 6 := by unfold atF; rw [if_neg (by omega)]
      go_enter Try.func71, Try.ntmps71
      go_wp2
      go_ret
      exact ⟨by first | rfl | (rw [E]; rfl), rfl⟩
    · have E : atF n i = 0 := by unfold atF; rw [if_pos (by omega)]
      go_enter Try.func71, Try.ntmps71
      go_wp2
      go_ret
      exact ⟨by first | rfl | (rw [E]; rfl), rfl⟩

theorem pool_len {c : Col} {π : List Int} {w : World} {b : Nat} {l : List (List Int)} (h : PoolR c π w b l) :
    Calls Try.prog 41 #[.pointer (some ⟨b, 0, none⟩)] w fun e w' => e = .returned (.int .i64 l.length) ∧ w = w' := by
  obtain ⟨sl, vs, hb, _, ho, _, hm⟩ := h
  obtain ⟨A, cap, rfl, h1, h2, _, _⟩ := owns_shape ho
  have hl := hm.1
  rw [hl] at h1 hb
  have hc := hb.box.cell
  clear hm ho hb hl
  generalize l.length = n at *
  go_enter Try.func41, Try.ntmps41
  go_wp2
  go_ret
  exact ⟨rfl, rfl⟩

/-- A message that stays is told: a copy. -/
def Told (w : World) (x : List Int) (e : Ending) (w' : World) : Prop := ∃ v, e = .returned (.tuple #[v, .bool true]) ∧ NewSl w .u8 1 x w' v

theorem pool_peek_none {c : Col} {π : List Int} {w : World} {b : Nat} {l : List (List Int)} (i : Int) (h : PoolR c π w b l) (bi : -9223372036854775808 ≤ i ∧ i ≤ 9223372036854775807) (hi : ¬ (0 ≤ i ∧ i < l.length)) :
    Calls Try.prog 38 #[.pointer (some ⟨b, 0, none⟩), .int .i64 i] w fun e w' => e = .returned (.tuple #[.slice none 0 0, .bool false]) ∧ w = w' := by
  have E : atF l.length i = 6 := by unfold atF; rw [if_neg hi]
  have H := Lib.hid (pool_at i h bi)
  clear h hi bi
  go_enter Try.func38, Try.ntmps38
  go_wp2_with (go_at_call 71; (with_reducible refine H.out.mono ?_); rintro e w' ⟨rfl, rfl⟩)
  go_ret2
  exact ⟨rfl, rfl⟩

theorem pool_peek {c : Col} {π : List Int} {w : World} {b : Nat} {l : List (List Int)} (k : Nat) (x : List Int) (h : PoolR c π w b l) (hx : l[k]? = some x) (hk : k < 4611686018427387904) :
    Calls Try.prog 38 #[.pointer (some ⟨b, 0, none⟩), .int .i64 k] w (Told w x) := by
  have hkl := (List.getElem?_eq_some_iff.1 hx).1
  have E : atF l.length k = 0 := by unfold atF; rw [if_pos (by omega)]
  have H := Lib.hid (pool_at k h (by omega))
  obtain ⟨sl, vs, hb, _, ho, _, hm⟩ := h
  obtain ⟨v, hv⟩ : ∃ v, vs[k]? = some v := ⟨_, List.getElem?_eq_getElem (show k < vs.length by rw [hm.1]; exact hkl)⟩
  have hd := hm.2 k v x hv hx
  obtain ⟨g, cap, rfl, hcell, _⟩ := owns_cell ho hv
  obtain ⟨A, n, cp, rfl, hi⟩ := id hd
  have HI := Lib.hid hi
  have hkn : k < vs.length := (List.getElem?_eq_some_iff.1 hv).1
  have hc := hb.box.cell
  clear hi hd hb ho hm hv hx hkl
  generalize vs.length = m at *
  go_enter Try.func38, Try.ntmps38
  go_wp2_with (first
    | (go_at_call 71; (with_reducible refine H.out.mono ?_); rintro e w' ⟨rfl, rfl⟩)
    | (go_at_call 70; (with_reducible refine (clone_u8 w HI.out (fun b hb => hb.2)).mono ?_); rintro e w' hn; obtain ⟨v1, rfl, hd1⟩ := hn))
  go_ret2
  exact ⟨_, rfl, hd1⟩
theorem pool_peek_at {c : Col} {π : List Int} {w : World} {b : Nat} {l : List (List Int)} (i : Int) (k : Nat) (x : List Int) (hik : i = (k : Int)) (h : PoolR c π w b l) (hx : l[k]? = some x) (hk : k < 4611686018427387904) :
    Calls Try.prog 38 #[.pointer (some ⟨b, 0, none⟩), .int .i64 i] w (Told w x) := by
  subst hik
  exact pool_peek k x h hx hk

end Go.Proofs.Ytjniholnmjafeaa
