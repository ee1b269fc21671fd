/- The walk of the law PoolOwn: it returns true. Conditions: none. -/
import Derived.Test.YtjniholnmjafeaaPoolMore
namespace Go.Proofs.Ytjniholnmjafeaa
open Go.RowKit Go.ChangeShapes
set_option maxRecDepth 100000
set_option linter.unusedVariables false
theorem newsl_box {w w' : World} {k : IntKind} {bytes : Nat} {xs : List Int} {B : Option Addr} {n c E : Nat} (hi : Ints w' (w.heap.size ≤ ·) k bytes B n c xs) (ho : w'.ownsRow w.heap.size E 1 (.slice B n c) n (xs.map (Value.int k))) (hn : 0 < n) :
    ∃ g cur, B = some ⟨g, 0, none⟩ ∧ w.heap.size ≤ g ∧ BoxT w' E g cur ∧ cur[0]? = some (.int k (xs.getD 0 0)) := by
  rcases ho.2 with ⟨_, h0⟩ | ⟨g, cap, cur, he, hg, hh, _⟩
  · omega
  · injection he with he _ _
    subst he
    refine ⟨g, cur, rfl, hg, hh, ?_⟩
    obtain ⟨b, off, hb, _, hc⟩ := hi.2.2.2.2.2.2 hn
    injection hb with hb; injection hb with hb1 hb2; subst hb1 hb2
    have := hc 0 hn
    rw [(show BoxT w' E g cur from hh).box.cell] at this
    exact this

set_option maxHeartbeats 1000000 in
theorem wPoolOwn0 (W : World) (A : Option Addr) (n cap : Nat) (xs : List Int) (hi : Ints W (· < W.heap.size) .u8 1 A n cap xs) :
    Calls Try.prog 8 #[.slice A n cap] W fun e W' => e = .returned (.bool true) ∧ Below W.heap.size W W' := by
  have hf0 : Fresh (fun _ => []) W := fun k hk => rfl
  have hn : n ≤ 140737488351232 := by have := hi.2.2.2.1; omega
  have hl := hi.1
  have D0 := Lib.hid (show DInts (fun _ => []) W .u8 1 (.slice A n cap) xs from ⟨_, _, _, rfl, hi.move fun b hb hlt => ⟨rfl, rfl, hlt⟩⟩)
  have HI := Lib.hid hi; clear hi
  have H0 := Lib.hid hf0; clear hf0
  by_cases h0 : n = 0
  · subst h0
    go_enter Try.func8, Try.ntmps8
    go_wp2_with (go_at_call 35; (with_reducible refine (awake08 _).mono ?_); rintro e w' ⟨rfl, hg⟩)
    go_ret
    exact ⟨rfl, hg⟩
  · by_cases h1 : 50 < n
    · have h0' : ((n : Int) == 0) = false := by rw [beq_eq_false_iff_ne]; omega
      go_enter Try.func8, Try.ntmps8
      go_wp2_with (go_at_call 35; (with_reducible refine (awake08 _).mono ?_); rintro e w' ⟨rfl, hg⟩)
      go_ret
      exact ⟨rfl, hg⟩
    · have h0' : ((n : Int) == 0) = false := by rw [beq_eq_false_iff_ne]; omega
      have HL := Lib.hid hl; clear hl
      have hd : decide (50 < (n : Int)) = false := by simp; omega
      go_enter Try.func8, Try.ntmps8
      go_wp2_with (first
        | (go_at_call 36; (with_reducible refine (pool_new [1] _ H0.out).mono ?_); rintro e w1 ⟨rfl, c1, s1, p1⟩; have S1 := Lib.hid s1; have P1 := Lib.hid p1; have D1 := Lib.hid (D0.out.step s1 (by decide)); clear s1 p1)
        | (go_at_call 37; (with_reducible refine (pool_push P1.out D1.out S1.out.fresh (by decide) (by decide)).mono ?_); rintro e w2 ⟨rfl, c2, s2, p2⟩; have S2 := Lib.hid s2; have P2 := Lib.hid p2; clear s2 p2)
        | (go_at_call 38; (with_reducible refine (pool_peek_at 0 0 xs rfl P2.out rfl (by decide)).mono ?_); rintro e w3 ⟨_, rfl, B, n3, c3, rfl, i3, b3, E3, o3⟩; have e3 : n3 = n := i3.1.symm.trans HL.out; subst e3; obtain ⟨g, cur, rfl, hg3, bx3, h03⟩ := newsl_box i3 o3 (by omega); have cc3 := bx3.box.cell 0; rw [h03] at cc3; have cf3 := bx3.box.free 0; have P4 := Lib.hid (show ∀ v, PoolR c2 [1] (w3.setCell ⟨g, 0, none⟩ v) W.heap.size ([] ++ [xs]) from fun v => P2.out.later S2.out.fresh (b3.setCell (p := ⟨g, 0, none⟩) hg3 v)); have B4 := Lib.hid (show ∀ v, Below w2.heap.size w2 (w3.setCell ⟨g, 0, none⟩ v) from fun v => b3.setCell (p := ⟨g, 0, none⟩) hg3 v); clear i3 b3 o3 bx3 h03)
        | (go_at_call 38; (with_reducible refine (pool_peek_at 0 0 xs rfl (P4.out _) rfl (by decide)).mono ?_); rintro e w5 ⟨_, rfl, B5, n5, c5, rfl, i5, b5, E5, o5⟩; have e5 : n5 = _ := i5.1.symm.trans HL.out; subst e5; have I5 := Lib.hid i5; have C5 := Lib.hid (below_from (B4.out _) b5 (B4.out _).size); clear i5 b5 o5))
      have T2 := (S1.out.trans S2.out).below (B := W.heap.size) (Nat.le_refl _) (fun k hk h => by cases h)
      have T5 := Lib.hid (below_from T2 C5.out T2.size)
      clear T2
      go_wp2_with (first
        | (go_at_call 35; (with_reducible refine (awake08 _).mono ?_); rintro e w6 ⟨rfl, hg6⟩; have T6 := Lib.hid (below_from T5.out hg6 T5.out.size); have J6 := Lib.hid (I5.out.move (D' := fun _ => True) (fun b _ hlt => ⟨hg6.block b hlt, trivial⟩)); have K6 := Lib.hid (HI.out.below T6.out (fun b h => h)); clear hg6)
        | (go_at_call 39; (with_reducible refine (bytes_any _ J6.out K6.out).mono ?_); rintro e w7 ⟨rfl, rfl⟩))
      go_ret
      exact ⟨by first | rfl | simp, T6.out⟩

theorem wPoolOwn (W : World) (vs : List Value) (h : Sh.Args W (· < W.heap.size) [((.sl (.int .u8) 1), 51)] vs) :
    Calls Try.prog 8 vs.toArray W fun e W' => e = .returned (.bool true) ∧ Below W.heap.size W W' := by
  obtain ⟨_, _, rfl, ⟨a, ha⟩, rfl⟩ := h
  obtain ⟨xs, A, n, cap, rfl, hi⟩ := ints_open ha
  exact wPoolOwn0 W A n cap xs hi
end Go.Proofs.Ytjniholnmjafeaa
