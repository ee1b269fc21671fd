/- balance.may: whether loads may be; a set of the points that were met, in a map. Conditions: the loads read so. -/
import Derived.Test.YtjniholnmjafeaaLoads
import Derived.Test.YtjniholnmjafeaaHeld
import Derived.WalkKit
import Derived.Lib.Hide
import Derived.Outline
import Derived.OwnWalk
namespace Go.Proofs.Ytjniholnmjafeaa
open Go.RowKit Go.ChangeShapes Go.Maps
set_option maxRecDepth 100000
set_option linter.unusedVariables false

theorem u32_keyed : Keyed Try.prog 22 := int_keyed Try.underlying22
theorem zero_bool (w : World) : (zeroValue 4).run Try.prog w = .ok (.bool false) w := by kernel_rfl

theorem any_snoc (l : List Ld) (x : Ld) (p : Int) : (l ++ [x]).any (fun y => y.pt == p) = (l.any (fun y => y.pt == p) || (x.pt == p)) := by simp

set_option maxHeartbeats 1000000 in
theorem bal_may {A : Option Addr} {n cap : Nat} {l : List Ld} (w : World) (h : Lds w A n cap l) :
    Calls Try.prog 80 #[.slice A n cap] w fun e w' => e = .returned (.bool (mayF l)) ∧ Below w.heap.size w w' := by
  obtain ⟨hl, h2, h3, h4, h5, h6, h7⟩ := h
  have bn : n ≤ 140737488351232 := by omega
  have HL := Lib.hid hl; have H6 := Lib.hid h6; have H7 := Lib.hid h7
  clear hl h2 h3 h4 h5 h6 h7
  have hmm := @run_makeMap Try.prog
  go_enter Try.func80, Try.ntmps80
  go_wp2
  go_loopw [9] (fun i wr => ∃ (k : Nat) (D : DataW Value), k ≤ n ∧ i = .int .i64 k ∧ mayF l = mayGo (l.take k) (l.drop k) ∧ wr.ownsMap Try.prog 22 heldR w.heap.size k D ∧ (∀ p : Int, D.atKey (.int .u32 p) (.held (.bool false)) = .held (.bool ((l.take k).any fun y => y.pt == p))) ∧ Below w.heap.size w wr) (fun i _ => n - (intOf i).toNat)
  case atStart => exact ⟨0, .map [], Nat.zero_le _, rfl, may_start l, World.ownsMap_made _ _ _ _, fun p => rfl, (Below.refl _ _).alloc (Nat.le_refl _) _⟩
  case round =>
    obtain ⟨k, D, hk, rfl, hm, hown, hD, hB⟩ := hrel
    have HM := Lib.hid hm; have HO := Lib.hid hown; have HD := Lib.hid hD; have HB := Lib.hid hB
    clear hm hown hD hB
    clear hmm
    by_cases hlt : k < n
    · obtain ⟨x, hx⟩ : ∃ x, l[k]? = some x := ⟨_, List.getElem?_eq_getElem (by rw [HL.out]; exact hlt)⟩
      obtain ⟨b, off, rfl, hb, hc⟩ := H7.out (by omega)
      obtain ⟨c0, c1⟩ := hc k x hx
      have d0 := (HB.out.cell (p := ⟨b, off + k * 2, none⟩) hb).trans c0
      have d1 := (HB.out.cell (p := ⟨b, off + k * 2 + 1, none⟩) hb).trans c1
      obtain ⟨⟨p0, p1⟩, ⟨e0, e1⟩⟩ := H6.out x (List.mem_of_getElem? hx)
      have MS := Lib.hid (may_at hx HM.out)
      have TS := Lib.hid (take_snocL hx)
      clear hc c0 c1
      obtain ⟨p, e⟩ := x
      dsimp only at *
      by_cases t1 : e < 0
      · have hf := Lib.hid (show mayF l = false by rw [MS.out]; unfold okAt; simp only [show decide (0 ≤ e) = false from by simp; omega]; simp)
        go_wp2
        go_ret
        exact ⟨(by first | (rw [hf.out]; done) | (rw [hf.out]; rfl)), HB.out.alloc HB.out.size _⟩
      · by_cases t2 : 2147483647 < e
        · have hf := Lib.hid (show mayF l = false by rw [MS.out]; unfold okAt; simp only [show decide (e ≤ 2147483647) = false from by simp; omega]; simp)
          go_wp2
          go_ret
          exact ⟨(by first | (rw [hf.out]; done) | (rw [hf.out]; rfl)), HB.out.alloc HB.out.size _⟩
        · have hwf : (Lit.int .u32 p).wf = true := by simp [Lit.wf, IntKind.min, IntKind.max, IntKind.bits, IntKind.signed]; omega
          have hkey := keyOf_int_mk (P := Try.prog) Try.underlying22 hwf
          have HW := Lib.hid (HO.out.alloc (.cells #[.int .u32 p, .int .i64 e] 79))
          have hrun := held_run HW.out u32_keyed Try.underlying122 (zero_bool _) hkey (HD.out p)
          by_cases t3 : ((l.take k).any fun y => y.pt == p) = true
          · have hf := Lib.hid (show mayF l = false by rw [MS.out]; simp [okAt, t3])
            rw [t3] at hrun
            clear t3
            go_wp2
            go_ret
            exact ⟨(by first | (rw [hf.out]; done) | (rw [hf.out]; rfl)), HB.out.alloc HB.out.size _⟩
          · rw [Bool.not_eq_true] at t3
            rw [t3] at hrun
            have MS2 := Lib.hid (show mayF l = mayGo (l.take (k + 1)) (l.drop (k + 1)) by rw [MS.out]; simp only [okAt, t3, show decide (0 ≤ e) = true from by simp; omega, show decide (e ≤ 2147483647) = true from by simp; omega]; simp)
            have HK := Lib.hid hkey
            clear t3 hkey
            go_wp2_with (at_mapUpdate; refine wpList_mapUpdate_own _ rfl _ _ _ 122 rfl 22 4 u32_keyed Try.underlying122 heldR w.heap.size k D rfl HW.out (by unfold maxLen; omega) (.int .u32 p) (.bool true) (.int .u32 p) rfl rfl HK.out (.held (.bool true)) [] rfl ?_; intro w1 hown1 hgrow1; clear hrun)
            go_roundw
            case rel =>
              refine ⟨k + 1, _, by omega, by go_num, MS2.out, hown1, fun q => ?_, (HB.out.alloc HB.out.size _).grown hgrow1 (by rw [size_alloc]; have := HB.out.size; omega) (fun j hj => by cases hj; exact Nat.le_refl _)⟩
              rw [TS.out, any_snoc]
              by_cases hq : q = p
              · subst hq
                rw [atKey_put_same HO.out.isMap (by trivial)]; simp
              · rw [atKey_put_other (by intro h; injection h with _ h; exact hq h), HD.out q]
                simp [show ¬ p = q from fun h => hq h.symm]
            case measure => simp [intOf]; omega
    · have hf := Lib.hid (may_end (by rw [HL.out]; omega) HM.out)
      go_wp2
      go_ret
      exact ⟨(by first | (rw [hf.out]; done) | (rw [hf.out]; rfl)), HB.out⟩
end Go.Proofs.Ytjniholnmjafeaa
