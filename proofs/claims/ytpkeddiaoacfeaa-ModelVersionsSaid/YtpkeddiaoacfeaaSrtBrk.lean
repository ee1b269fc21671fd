/- slices.Sort at whole numbers: breakPatterns. Conditions: the row is one's own. -/
import Derived.Test.YtpkeddiaoacfeaaSrtBits
import Derived.Deep.CutBlock
import Derived.Deep.DeepCutAuto
namespace Go.Proofs.Ytpkeddiaoacfeaa
open Go.RowKit Go.Sort
set_option maxRecDepth 100000
set_option linter.unusedVariables false
set_option linter.unusedSimpArgs false

theorem wrap_nat_u64 {k : Nat} (h : k < 18446744073709551616) : IntKind.u64.wrap (k : Int) = k := by
  simp [IntKind.wrap, IntKind.bits, IntKind.signed]; omega
set_option maxHeartbeats 4000000 in
theorem srt_brk_u64 {T : TypeId} {C0 : Array Value} {w0 w : World} {b cap x y n : Nat} {d : Array Int} (h : RowI .u64 T C0 w0 b d w) (hn : d.size = n) (hxy : x + 12 < y) (hy : y ≤ n) (hsz : n < 4611686018427387904) :
    Calls Try.prog 133 #[.slice (some ⟨b, 0, none⟩) n cap, .int .i64 x, .int .i64 y] w fun e w' => e = .returned (.tuple #[]) ∧ Prm .u64 T C0 w0 b d x y w' := by
  obtain ⟨l, rfl⟩ : ∃ l, y = x + l := ⟨y - x, by omega⟩
  have HH := Lib.hid h; have HN := Lib.hid hn
  obtain ⟨g, hg⟩ : ∃ g, g = x + l / 4 * 2 := ⟨_, rfl⟩
  have HG := Lib.hid hg
  have e1 : ((x : Int) + (l : Int)) - (x : Int) = (l : Int) := by omega
  have eg : (x : Int) + (l : Int) / 4 * 2 = (g : Int) := by omega
  have g1 : 5 ≤ g := by omega
  have g2 : g + 1 < x + l := by omega
  have g3 : x + 1 ≤ g := by omega
  have wl : IntKind.u64.wrap (l : Int) = (l : Int) := wrap_nat_u64 (by omega)
  have hb : Below w.heap.size w (w.alloc (.cells #[.int .u64 l] 218)) := below_a1 w _
  have HH2 := Lib.hid (h.later hb)
  have HX2 := Lib.hid (Box.new w #[.int .u64 l] 218)
  have HRB := Lib.hid h.only.size
  have HRN := Lib.hid (Nat.ne_of_lt h.lt)
  clear h hn hg hb
  go_enter Try.func133, Try.ntmps133
  go_upto_region 5 with (go_at_call 144; go_loud ((with_reducible refine (pow_next l (by omega) (by omega) _).mono ?_); rintro e2 w2 ⟨m, hm1, hm2, rfl, rfl⟩))
  generalize w.heap.size = rb at *
  generalize w.alloc (.cells #[.int .u64 l] 218) = wa at HH2 HX2 ⊢
  go_loopw [9] (fun s9 wr => ∃ (i : Nat) (dk : Array Int) (X : Nat), s9 = .int .i64 i ∧ x ≤ i ∧ i ≤ g + 2 ∧ dk.size = n ∧ PermIn x (x + l) d dk ∧ RowI .u64 T C0 w0 b dk wr ∧ Box wr rb #[.int .u64 X] ∧ X < 18446744073709551616) (fun i _ => g + 2 - (intOf i).toNat)
  case atStart => exact ⟨g - 1, d, l, by congr 1; omega, by omega, by omega, HN.out, permIn_refl _ _ _, HH2.out, HX2.out, by omega⟩
  case round =>
    obtain ⟨i, dk, X, rfl, hxi, hig, hk, hP, hR, hB, hX⟩ := hrel
    have HP := Lib.hid hP; have HR := Lib.hid hR; have HK := Lib.hid hk; have HBX := Lib.hid hB
    clear hP hR hk hB
    by_cases hlt : i ≤ g + 1
    · have hltz : (i : Int) ≤ (g : Int) + 1 := by omega
      go_upto_region 8 with (go_at_call 145; go_loud ((with_reducible refine (xor_next rb X hX _ HBX.out).mono ?_); rintro e3 w3 ⟨Y, hY, rfl, ho3, hx3⟩; obtain ⟨t, ht, hand⟩ := and_mask hY (show 0 < m by omega) (by omega); have hwt := wrap_nat64 (k := t) (by omega); have HR3 := Lib.hid (HR.out.besides ho3 HRN.out (fun i hi => by rw [hi]; exact HRB.out)); have HX3 := Lib.hid hx3; clear ho3 hx3))
      have HAND := Lib.hid hand
      clear hand
      obtain ⟨o, ho, hcase⟩ : ∃ o, o < l ∧ (o = t ∨ l + o = t) := by
        by_cases htl : t < l
        · exact ⟨t, htl, .inl rfl⟩
        · exact ⟨t - l, by omega, .inr (by omega)⟩
      have e4 : ((l : Int) + (o : Int)) - (l : Int) = (o : Int) := by omega
      rcases hcase with hot | hot
      all_goals
        subst hot
        go_upto_region 10 with fail
        have c1 := HR3.out.cell (i := i) (by have := HK.out; omega)
        have c2 := HR3.out.cell (i := x + o) (by have := HK.out; omega)
        have fz := HR3.out.free
        have zb := HR3.out.lt
        have q1 : (i : Int) < (n : Int) := by omega
        have q2 : (x : Int) + (o : Int) < (n : Int) := by omega
        have q3 : ((x : Int) + (o : Int)).toNat = x + o := by omega
        have q4 : IntKind.i64.wrap ((x : Int) + (o : Int)) = (x : Int) + (o : Int) := by rw [show ((x : Int) + (o : Int)) = ((x + o : Nat) : Int) by omega]; exact wrap_nat64 (by omega)
        have S := HR3.out.swap (i := i) (j := x + o) (by have := HK.out; omega) (by have := HK.out; omega)
        obtain ⟨z, hz⟩ := HR3.out.second (i := i) (j := x + o) (by have := HK.out; omega) (by have := HK.out; omega) dk[x + o]!
        generalize hu : dk[i]! = u at *
        generalize hv : dk[x + o]! = v at *
        have HS := Lib.hid S
        clear S hu hv
        go_region
        have HS2 := Lib.hid HS.out.drew
        have HX4 := Lib.hid (show Box ((w3.setCell ⟨b, i, none⟩ (.int .u64 v)).setCell ⟨b, x + o, none⟩ (.int .u64 u)).drew rb #[.int .u64 Y] from ((HX3.out.setOther (a := ⟨b, i, none⟩) (fun e => HRN.out e.symm) _).setOther (a := ⟨b, x + o, none⟩) (fun e => HRN.out e.symm) _).drew)
        have HP2 := Lib.hid (prm_swap HP.out (i := i) (j := x + o) hxi (by omega) (by omega) (by omega) (by have := HN.out; omega))
        clear c1 c2 fz zb hz
        go_wp2
        go_roundw
        case rel => exact ⟨i + 1, swp dk i (x + o), Y, by go_num, by omega, by omega, by rw [size_swp']; exact HK.out, HP2.out, HS2.out, HX4.out, hY⟩
        case measure => simp [intOf]; omega
    · go_wp2
      go_end0
      exact ⟨rfl, dk, HP.out, HR.out⟩
end Go.Proofs.Ytpkeddiaoacfeaa
