/- The walk of the law PoolFull: it returns true. Conditions: none. -/
import Derived.Test.YtjniholnmjafeaaWPoolOrder
namespace Go.Proofs.Ytjniholnmjafeaa
open Go.RowKit Go.ChangeShapes
set_option maxRecDepth 100000
set_option linter.unusedVariables false

def MX : Nat := 5000
theorem MX_eq : MX = 5000 := rfl
attribute [irreducible] MX

/-! A nil pool. -/
theorem nil_at (i : Int) (w : World) : Calls Try.prog 71 #[.pointer none, .int .i64 i] w fun e w' => e = .returned (.int .i64 2) ∧ w = w' := by
  go_enter Try.func71, Try.ntmps71
  go_wp2
  go_ret
  exact ⟨rfl, rfl⟩
theorem nil_take (i : Int) (w : World) : Calls Try.prog 40 #[.pointer none, .int .i64 i] w fun e w' => e = .returned (.tuple #[.slice none 0 0, .int .i64 2]) ∧ w = w' := by
  go_enter Try.func40, Try.ntmps40
  go_wp2_with (go_at_call 71; (with_reducible refine (nil_at i _).mono ?_); rintro e w' ⟨rfl, rfl⟩)
  go_ret2
  exact ⟨rfl, rfl⟩
theorem nil_peek (i : Int) (w : World) : Calls Try.prog 38 #[.pointer none, .int .i64 i] w fun e w' => e = .returned (.tuple #[.slice none 0 0, .bool false]) ∧ w = w' := by
  go_enter Try.func38, Try.ntmps38
  go_wp2_with (go_at_call 71; (with_reducible refine (nil_at i _).mono ?_); rintro e w' ⟨rfl, rfl⟩)
  go_ret2
  exact ⟨rfl, rfl⟩
theorem nil_double (i : Int) (w : World) : Calls Try.prog 61 #[.pointer none, .int .i64 i] w fun e w' => e = .returned (.int .i64 2) ∧ w = w' := by
  go_enter Try.func61, Try.ntmps61
  go_wp2_with (go_at_call 71; (with_reducible refine (nil_at i _).mono ?_); rintro e w' ⟨rfl, rfl⟩)
  go_ret
  exact ⟨rfl, rfl⟩
theorem nil_push (A : Option Addr) (n cap : Nat) (w : World) : Calls Try.prog 37 #[.pointer none, .slice A n cap] w fun e w' => e = .returned (.int .i64 2) ∧ w = w' := by
  go_enter Try.func37, Try.ntmps37
  go_wp2
  go_ret
  exact ⟨rfl, rfl⟩
theorem nil_len (w : World) : Calls Try.prog 41 #[.pointer none] w fun e w' => e = .returned (.int .i64 0) ∧ w = w' := by
  go_enter Try.func41, Try.ntmps41
  go_wp2
  go_ret
  exact ⟨rfl, rfl⟩
theorem nil_fork (w : World) : Calls Try.prog 62 #[.pointer none] w fun e w' => e = .returned (.pointer none) ∧ w = w' := by
  go_enter Try.func62, Try.ntmps62
  go_wp2
  go_ret
  exact ⟨rfl, rfl⟩

set_option maxHeartbeats 2000000 in
theorem wPoolFull0 (W : World) (A : Option Addr) (n cap : Nat) (xs : List Int) (hi : Ints W (· < W.heap.size) .u8 1 A n cap xs) :
    Calls Try.prog 16 #[.slice A n cap] W fun e W' => e = .returned (.bool true) ∧ Below W.heap.size W W' := by
  have hf0 : Fresh (fun _ => []) W := fun k hk => rfl
  have hn : n ≤ 140737488351232 := by have := hi.2.2.2.1; omega
  have HI := Lib.hid hi; clear hi
  have H0 := Lib.hid hf0; clear hf0
  by_cases h1 : 50 < n
  · go_enter Try.func16, Try.ntmps16
    go_wp2_with (go_at_call 35; (with_reducible refine (awake08 _).mono ?_); rintro e w' ⟨rfl, hg⟩)
    go_ret
    exact ⟨rfl, hg⟩
  · go_enter Try.func16, Try.ntmps16
    go_wp2_with (go_at_call 36; (with_reducible refine (pool_new [1] _ H0.out).mono ?_); rintro e w1 ⟨rfl, p1⟩; have P1 := Lib.hid (show InPool W W.heap.size [] w1 from p1); clear p1)
    go_loopw [4] (fun i wr => ∃ k : Nat, i = .int .i64 (k : Int) ∧ k ≤ 5000 ∧ InPool W W.heap.size (List.replicate k xs) wr) (fun i _ => 5000 - (intOf i).toNat)
    case atStart => exact ⟨0, rfl, by omega, P1.out⟩
    case round =>
      obtain ⟨k, rfl, hk, hp⟩ := hrel
      have P := Lib.hid hp
      obtain ⟨c1, s1, p1⟩ := hp
      have HS1 := Lib.hid s1; have HP1 := Lib.hid p1; clear p1
      have D1 := Lib.hid (show DInts c1 wr .u8 1 (.slice A n cap) xs from ⟨_, _, _, rfl, HI.out.move fun b hb hlt => ⟨s1.only.block b hb (fun h => by cases h), s1.col b hb, Nat.lt_of_lt_of_le hb s1.only.size⟩⟩)
      clear s1
      by_cases hlt : k < 5000
      · have hle : (List.replicate k xs).length < 5000 := by simp; omega
        have hap : List.replicate k xs ++ [xs] = List.replicate (k + 1) xs := by rw [List.replicate_succ']
        have HLE := Lib.hid hle; clear hle
        have HAP := Lib.hid hap; clear hap
        go_wp2_with (go_at_call 37; (with_reducible refine (pool_push HP1.out D1.out HS1.out.fresh HLE.out (by decide)).mono ?_); rintro e w2 ⟨rfl, p2⟩; rw [HAP.out] at p2; have P2' := Lib.hid (InPool.to HS1.out p2); clear p2)
        go_roundw
        case rel => exact ⟨k + 1, by go_num, by omega, P2'.out⟩
        case measure => simp [intOf]; omega
      · have hk5 : k = MX := by rw [MX_eq]; omega
        have hkI : (k : Int) = 5000 := by omega
        have HG := Lib.hid (show ∀ w', Below wr.heap.size wr w' → PoolR c1 [1] w' W.heap.size (List.replicate k xs) ∧ Below W.heap.size W w' from fun w' hb => ⟨HP1.out.later HS1.out.fresh hb, (P.out.later hb).below⟩)
        have h3 := Lib.hid (show (List.replicate k xs)[3]? = some xs by rw [List.getElem?_replicate, if_pos (by omega)])
        have h5 := Lib.hid (show 5000 ≤ (List.replicate k xs).length by rw [List.length_replicate]; omega)
        have hl := Lib.hid (show (((List.replicate k xs).length : Nat) : Int) = 5000 by rw [List.length_replicate]; omega)
        have hno := Lib.hid (show ¬ ((0 : Int) ≤ -1 ∧ (-1 : Int) < ((List.replicate k xs).length : Nat)) by omega)
        clear hkI hk5
        go_wp2_with (first
          | (go_at_call 35; (with_reducible refine (awake08 _).mono ?_); rintro e w2 ⟨rfl, hb2⟩; have G2 := HG.out _ hb2; have HG2 := Lib.hid G2; clear G2 hb2)
          | (go_at_call 40; (with_reducible refine (nil_take 0 _).mono ?_); rintro e w' ⟨rfl, rfl⟩)
          | (go_at_call 38; (with_reducible refine (nil_peek 0 _).mono ?_); rintro e w' ⟨rfl, rfl⟩)
          | (go_at_call 61; (with_reducible refine (nil_double 0 _).mono ?_); rintro e w' ⟨rfl, rfl⟩)
          | (go_at_call 37; (with_reducible refine (nil_push A n cap _).mono ?_); rintro e w' ⟨rfl, rfl⟩)
          | (go_at_call 41; (with_reducible refine (nil_len  _).mono ?_); rintro e w' ⟨rfl, rfl⟩)
          | (go_at_call 62; (with_reducible refine (nil_fork  _).mono ?_); rintro e w' ⟨rfl, rfl⟩)
          | (go_at_call 37; (with_reducible refine (pool_push_full HG2.out.1 h5.out).mono ?_); rintro e w3 ⟨rfl, rfl⟩)
          | (go_at_call 61; (with_reducible refine (pool_double_full_at 3 3 xs rfl HG2.out.1 h3.out (by decide) h5.out).mono ?_); rintro e w3 ⟨rfl, rfl⟩)
          | (go_at_call 61; (with_reducible refine (pool_double_none (-1) HG2.out.1 (by decide) hno.out).mono ?_); rintro e w3 ⟨rfl, rfl⟩)
          | (go_at_call 41; (with_reducible refine (pool_len HG2.out.1).mono ?_); rintro e w3 ⟨rfl, rfl⟩; rw [hl.out]))
        go_ret
        exact ⟨rfl, HG2.out.2⟩

theorem wPoolFull (W : World) (vs : List Value) (h : Sh.Args W (· < W.heap.size) [((.sl (.int .u8) 1), 51)] vs) :
    Calls Try.prog 16 vs.toArray W fun e W' => e = .returned (.bool true) ∧ Below W.heap.size W W' := by
  obtain ⟨_, _, rfl, ⟨a, ha⟩, rfl⟩ := h
  obtain ⟨xs, A, n, cap, rfl, hi⟩ := ints_open ha
  exact wPoolFull0 W A n cap xs hi
end Go.Proofs.Ytjniholnmjafeaa
