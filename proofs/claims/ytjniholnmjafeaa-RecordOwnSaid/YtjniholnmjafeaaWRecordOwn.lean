/- The walk of the law RecordOwn: it returns true. Conditions: none. -/
import Derived.Test.YtjniholnmjafeaaRec
import Derived.Test.YtjniholnmjafeaaLaw
import Derived.Outline
import Derived.OpenShut
namespace Go.Proofs.Ytjniholnmjafeaa
open Go.RowKit Go.ChangeShapes
set_option maxRecDepth 100000
set_option linter.unusedVariables false
theorem wRecordOwn0 (W : World) (a b m n : Int) (ba : -9223372036854775808 ≤ a ∧ a ≤ 9223372036854775807) (bb : -9223372036854775808 ≤ b ∧ b ≤ 9223372036854775807) (bm : 0 ≤ m ∧ m ≤ 4294967295) (bn : 0 ≤ n ∧ n ≤ 4294967295) :
    Calls Try.prog 3 #[.int .i64 a, .int .i64 b, .int .u32 m, .int .u32 n] W fun e W' => e = .returned (.bool true) ∧ Below W.heap.size W W' := by
  have ea := uint_mod a 16 (by omega) (by omega)
  have eb := uint_mod b 16 (by omega) (by omega)
  obtain ⟨x, hx⟩ : ∃ x, x = a % 18446744073709551616 % 16 := ⟨_, rfl⟩
  obtain ⟨y, hy⟩ : ∃ y, y = b % 18446744073709551616 % 16 := ⟨_, rfl⟩
  have bx : 0 ≤ x ∧ x < 16 := by omega
  have by' : 0 ≤ y ∧ y < 16 := by omega
  rw [← hx] at ea; rw [← hy] at eb
  clear hx hy ba bb
  obtain ⟨bx0, bx1⟩ := bx
  obtain ⟨by0, by1⟩ := by'
  obtain ⟨bm0, bm1⟩ := bm
  obtain ⟨bn0, bn1⟩ := bn
  have o1 := ownF_bound x m bm0 (by omega)
  have o2 := ownF_bound y n bn0 (by omega)
  have c1 := clientF_own x m bx0 bx1 bm0 (by omega)
  have c2 := clientF_own y n by0 by1 bn0 (by omega)
  have e3 : ownF 16 m = 0 := by unfold ownF; rw [if_neg (by omega)]
  have e4 : clientF 68719476736 = -1 := by decide
  have inj := ownF_inj x m y n ⟨bx0, bx1⟩ ⟨by0, by1⟩ ⟨bm0, by omega⟩ ⟨bn0, by omega⟩
  by_cases hxy : x = y
  · subst hxy
    by_cases hmn : m = n
    · subst hmn
      clear inj
      go_enter Try.func3, Try.ntmps3
      go_wp2_with (first
        | (go_at_call 17; refine (own_any _ _ _ (by omega) (by omega) (by omega) (by omega)).mono ?_; rintro e w' ⟨rfl, rfl⟩)
        | (go_at_call 19; refine (client_any _ _ (by omega) (by omega)).mono ?_; rintro e w' ⟨rfl, rfl⟩)
        | (go_at_call 18; refine (awake04 _).mono ?_; rintro e w' ⟨rfl, hg⟩))
      go_ret
      exact ⟨rfl, hg⟩
    · have hne : (ownF x m == ownF x n) = false := by rw [beq_eq_false_iff_ne]; intro h; exact hmn (inj h).2
      have hmn' : (m == n) = false := by rw [beq_eq_false_iff_ne]; exact hmn
      clear inj hmn
      go_enter Try.func3, Try.ntmps3
      go_wp2_with (first
        | (go_at_call 17; refine (own_any _ _ _ (by omega) (by omega) (by omega) (by omega)).mono ?_; rintro e w' ⟨rfl, rfl⟩)
        | (go_at_call 19; refine (client_any _ _ (by omega) (by omega)).mono ?_; rintro e w' ⟨rfl, rfl⟩)
        | (go_at_call 18; refine (awake04 _).mono ?_; rintro e w' ⟨rfl, hg⟩))
      go_ret
      exact ⟨rfl, hg⟩
  · have hne : (ownF x m == ownF y n) = false := by rw [beq_eq_false_iff_ne]; intro h; exact hxy (inj h).1
    have hxy' : (x == y) = false := by rw [beq_eq_false_iff_ne]; exact hxy
    clear inj hxy
    go_enter Try.func3, Try.ntmps3
    go_wp2_with (first
      | (go_at_call 17; refine (own_any _ _ _ (by omega) (by omega) (by omega) (by omega)).mono ?_; rintro e w' ⟨rfl, rfl⟩)
      | (go_at_call 19; refine (client_any _ _ (by omega) (by omega)).mono ?_; rintro e w' ⟨rfl, rfl⟩)
      | (go_at_call 18; refine (awake04 _).mono ?_; rintro e w' ⟨rfl, hg⟩))
    go_ret
    exact ⟨rfl, hg⟩
theorem wRecordOwn (W : World) (vs : List Value) (h : Sh.Args W (· < W.heap.size) [((.int .i64), 3), ((.int .i64), 3), ((.int .u32), 22), ((.int .u32), 22)] vs) :
    Calls Try.prog 3 vs.toArray W fun e W' => e = .returned (.bool true) ∧ Below W.heap.size W W' := by
  obtain ⟨_, _, rfl, ⟨a, ⟨ha, wa⟩⟩, _, _, rfl, ⟨b, ⟨hb, wb⟩⟩, _, _, rfl, ⟨m, ⟨hm, wm⟩⟩, _, _, rfl, ⟨n, ⟨hn, wn⟩⟩, rfl⟩ := h
  simp only [List.cons.injEq, and_true] at ha hb hm hn
  subst ha hb hm hn
  exact wRecordOwn0 W a b m n (bounds_i64 wa) (bounds_i64 wb) (bounds_u32 wm) (bounds_u32 wn)
end Go.Proofs.Ytjniholnmjafeaa
