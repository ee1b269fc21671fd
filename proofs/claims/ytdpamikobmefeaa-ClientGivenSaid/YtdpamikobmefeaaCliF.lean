/- The client: own. Conditions: it is a slice of messages. -/
import Derived.Test.YtdpamikobmefeaaCliE
namespace Go.Proofs.Ytdpamikobmefeaa
open Go.RowKit Go.ChangeShapes
set_option maxRecDepth 100000
set_option linter.unusedVariables false
set_option linter.unusedSimpArgs false

def tRngs (A : Option Addr) (n cap : Nat) (xs : List Rng) : Thing := ⟨[], fun c w => RngsAt w (Quiet c w) A n cap xs, fun h hk => h.move hk.quiet⟩
theorem Sta.addRngs {W w w' : World} {ts : List Thing} {A : Option Addr} {n cap : Nat} {xs : List Rng} (h : Sta W ts w) (hb : Below w.heap.size w w') (hl : RngsAt w' (w.heap.size ≤ ·) A n cap xs) : Sta W (ts ++ [tRngs A n cap xs]) w' := by
  obtain ⟨c, h⟩ := h
  exact ⟨c, (h.later hb).addData rfl (hl.move fun b hb' hlt => ⟨rfl, h.fresh b hb', hlt⟩)⟩
theorem msg_same {w : World} {D : Nat → Prop} {cs : List Value} {m : Msg} (t : Nat) (v : Value) (hv : ∀ s l c bA bn bc rA rn rk, (msgCells m s l c bA bn bc rA rn rk)[t]? = some v) (h : msgRd w D cs m) : msgRd w D (cs.set t v) m := by
  obtain ⟨s, l, c, bA, bn, bc, rA, rn, rk, rfl, h1, h2, h3⟩ := h
  refine ⟨s, l, c, bA, bn, bc, rA, rn, rk, ?_, h1, h2, h3⟩
  apply List.ext_getElem?
  intro j
  rw [List.getElem?_set]
  by_cases hj : t = j
  · subst hj
    have hq := hv s l c bA bn bc rA rn rk
    rw [if_pos rfl, if_pos (List.getElem?_eq_some_iff.1 hq).1, hq]
  · rw [if_neg hj]
theorem msg_vals {w : World} {D : Nat → Prop} {cs : List Value} {m : Msg} {A : Option Addr} {n k : Nat} (hi : Ints w D .u32 4 A n k m.rc.vals) (h : msgRd w D cs m) : msgRd w D (cs.set 12 (.slice A n k)) m := by
  obtain ⟨s, l, c, bA, bn, bc, rA, rn, rk, rfl, h1, h2, h3⟩ := h
  exact ⟨A, n, k, bA, bn, bc, rA, rn, rk, rfl, hi, h2, h3⟩
theorem msg_box {w : World} {D : Nat → Prop} {cs : List Value} {m : Msg} {A : Option Addr} {n k : Nat} (hi : RngsAt w D A n k m.box) (h : msgRd w D cs m) : msgRd w D (cs.set 16 (.slice A n k)) m := by
  obtain ⟨s, l, c, bA, bn, bc, rA, rn, rk, rfl, h1, h2, h3⟩ := h
  exact ⟨s, l, c, A, n, k, rA, rn, rk, rfl, h1, hi, h3⟩
theorem set_same {α : Type} {l : List α} {j : Nat} {x : α} (h : l[j]? = some x) : l.set j x = l := by
  apply List.ext_getElem?
  intro i
  rw [List.getElem?_set]
  by_cases hij : j = i
  · subst hij; rw [if_pos rfl, if_pos (List.getElem?_eq_some_iff.1 h).1, h]
  · rw [if_neg hij]
/-- A cell of a message of a row is set, and it reads as it did. -/
theorem Sta.editM {W w : World} {ts : List Thing} {π : List Int} {g n cap i : Nat} {l : List Msg} (j t : Nat) (v : Value) (x : Msg) (h : Sta W ts w) (hi : ts[i]? = some (tRow msgE π (.slice (some ⟨g, 0, none⟩) n cap) l)) (hπ : π ≠ []) (hx : l[j]? = some x) (ht : t < 18)
    (hrd : ∀ c, S0 W ts c w → ∀ cs, msgRd w (Quiet c w) cs x → msgRd w (Quiet c w) (cs.set t v) x) : Sta W ts (w.setCell ⟨g, j * 18 + t, none⟩ v) := by
  refine Sta.editAt (E := msgE) j t v x x h hi hπ hx ht hrd ?_
  rw [set_same hx]
  exact set_same hi
set_option maxHeartbeats 4000000 in
theorem cli_own {W w : World} {ts : List Thing} {A : Option Addr} {n cap : Nat} {l : List Msg} (π : List Int) (h : Sta W ts w) (hπ : π ≠ []) (ho : ∀ x ∈ ts, x.π ≠ π) (hl : ∀ c, S0 W ts c w → msgE.At w (Quiet c w) A n cap l) (hn : n ≤ 10000) :
    Calls Try.prog 99 #[.slice A n cap] w fun e w' => ∃ B c', e = .returned (.slice B n c') ∧ Sta W (ts ++ [tAt msgE B n c' l]) w' := by
  have hln : l.length = n := by
    obtain ⟨c0, h0⟩ := h
    exact (hl c0 h0).1
  have HC := Lib.hid (clone_msgs π h hπ ho hl hn)
  clear h hl
  go_enter Try.func99, Try.ntmps99
  go_wp2_with (go_at_call 119; go_loud (refine HC.out.mono ?_; rintro e1 w1 ⟨B, c', rfl, hs1⟩; have S1 := Lib.hid hs1; clear hs1 HC))
  go_loopw [9] (fun s9 wr => ∃ i : Nat, i ≤ n ∧ s9 = .int .i64 i ∧ Sta W (ts ++ [tRow msgE π (.slice B n c') l]) wr) (fun s _ => n - (intOf s).toNat)
  case atStart => exact ⟨0, Nat.zero_le _, rfl, S1.out⟩
  case round =>
    obtain ⟨i, hi, rfl, hs⟩ := hrel
    have HS := Lib.hid hs
    have hrow : (ts ++ [tRow msgE π (.slice B n c') l])[ts.length]? = some (tRow msgE π (.slice B n c') l) := by rw [List.getElem?_append_right (Nat.le_refl _)]; simp
    have HROW := Lib.hid hrow
    clear S1
    by_cases hlt : i < n
    · obtain ⟨m, hm⟩ : ∃ m, l[i]? = some m := ⟨_, List.getElem?_eq_getElem (by omega)⟩
      obtain ⟨c, hr⟩ := hs.row hrow
      obtain ⟨A1, cap1, e1, q1, q2, q3, q4⟩ := hr.shape
      injection e1 with e1 e2 e3
      subst e1 e3
      clear e2
      cases B with
      | none => have := (q3 rfl).1; omega
      | some ad =>
      obtain ⟨g, rfl, _, zg⟩ := q4 ad rfl
      obtain ⟨cur, bb1, _⟩ := hr.cur
      have fg := (show Box wr g cur from ⟨_, bb1⟩).free
      obtain ⟨cs, hcs, s0, l0, k0, bA, bn, bc, rA, rn, rk, rfl, hI, hR, _⟩ := hr.cells hm
      have hc : ∀ (t : Nat) u, (msgCells m s0 l0 k0 bA bn bc rA rn rk)[t]? = some u → wr.cell? ⟨g, i * 18 + t, none⟩ = some u := hcs
      have d9 := hc 9 _ rfl; have d10 := hc 10 _ rfl; have d11 := hc 11 _ rfl; have d12 := hc 12 _ rfl; have d13 := hc 13 _ rfl; have d16 := hc 16 _ rfl
      have HI := Lib.hid (hI.move (D' := (· < wr.heap.size)) fun b hb hl => ⟨rfl, hl⟩)
      have HM := Lib.hid hm
      clear hs hr hcs hc q1 q2 q3 q4 hI hR hm bb1
      go_upto_region 6 with (go_at_call 120; go_loud (refine (entry_any m.value m.rc.id m.rc.ver m.gone wr HI.out (fun b hb => hb)).mono ?_; rintro e2 w2 ⟨v2, rfl, ⟨A2, n2, k2, rfl, hi2⟩, hb2⟩; have S2 := Lib.hid (HS.out.addInts hb2 hi2); have f9 : w2.cell? ⟨g, i * 18 + 9, none⟩ = some (.int .u32 m.value) := (hb2.cell (p := ⟨g, i * 18 + 9, none⟩) zg).trans d9; have f10 : w2.cell? ⟨g, i * 18 + 9 + 1, none⟩ = some (.int .u64 m.rc.id) := (hb2.cell (p := ⟨g, i * 18 + 10, none⟩) zg).trans d10; have f11 : w2.cell? ⟨g, i * 18 + 9 + 2, none⟩ = some (.int .u64 m.rc.ver) := (hb2.cell (p := ⟨g, i * 18 + 11, none⟩) zg).trans d11; have f12 : w2.cell? ⟨g, i * 18 + 9 + 3, none⟩ = some (.slice s0 l0 k0) := (hb2.cell (p := ⟨g, i * 18 + 12, none⟩) zg).trans d12; have f13 : w2.cell? ⟨g, i * 18 + 9 + 4, none⟩ = some (.bool m.gone) := (hb2.cell (p := ⟨g, i * 18 + 13, none⟩) zg).trans d13; have fg2 : ∀ i, w2.frozen? ⟨g, i, none⟩ = false := fun i => (hb2.frozen (p := ⟨g, i, none⟩) zg).trans (fg i); have zg2 := Nat.lt_of_lt_of_le zg hb2.size; have HB2 := Lib.hid hb2; clear hi2 hb2))
      have X2 : Sta W ((ts ++ [tRow msgE π (.slice (some ⟨g, 0, none⟩) n c') l]) ++ [tInts A2 n2 k2 m.rc.vals]) w2 := S2.out
      have hri : ((ts ++ [tRow msgE π (.slice (some ⟨g, 0, none⟩) n c') l]) ++ [tInts A2 n2 k2 m.rc.vals])[ts.length]? = some (tRow msgE π (.slice (some ⟨g, 0, none⟩) n c') l) := by
        rw [List.getElem?_append_left (by simp)]; exact HROW.out
      have hii : ((ts ++ [tRow msgE π (.slice (some ⟨g, 0, none⟩) n c') l]) ++ [tInts A2 n2 k2 m.rc.vals])[ts.length + 1]? = some (tInts A2 n2 k2 m.rc.vals) := by
        rw [List.getElem?_append_right (by simp)]; simp
      have Y1 := X2.editM i 9 (.int .u32 m.value) m hri hπ HM.out (by omega) (fun c h cs => msg_same 9 _ (fun _ _ _ _ _ _ _ _ _ => rfl))
      have Y2 := Y1.editM i 10 (.int .u64 m.rc.id) m hri hπ HM.out (by omega) (fun c h cs => msg_same 10 _ (fun _ _ _ _ _ _ _ _ _ => rfl))
      have Y3 := Y2.editM i 11 (.int .u64 m.rc.ver) m hri hπ HM.out (by omega) (fun c h cs => msg_same 11 _ (fun _ _ _ _ _ _ _ _ _ => rfl))
      have Y4 := Y3.editM i 12 (.slice A2 n2 k2) m hri hπ HM.out (by omega) (fun c h cs => msg_vals (h.get hii))
      have Y5 := Y4.editM i 13 (.bool m.gone) m hri hπ HM.out (by omega) (fun c h cs => msg_same 13 _ (fun _ _ _ _ _ _ _ _ _ => rfl))
      refine wp_abs (fun wx => Sta W (ts ++ [tRow msgE π (.slice (some ⟨g, 0, none⟩) n c') l]) wx) (Y5.pick (List.sublist_append_left _ _)) ?_
      clear X2 hri hii Y1 Y2 Y3 Y4 Y5 S2 f9 f10 f11 f12 f13 fg2 zg2 HB2 d9 d10 d11 d12 d13 d16 fg zg HI HS
      intro wx hsx
      have HS := Lib.hid hsx
      obtain ⟨cx, hr⟩ := hsx.row HROW.out
      obtain ⟨cur, bb1, _⟩ := hr.cur
      have hbg : Box wx g cur := ⟨_, bb1⟩
      have fg := hbg.free
      have zg := hbg.lt
      obtain ⟨cs, hcs, s1, l1, k1, bA1, bn1, bc1, rA1, rn1, rk1, rfl, hI, hR, _⟩ := hr.cells HM.out
      have d16 : wx.cell? ⟨g, i * 18 + 16, none⟩ = some (.slice bA1 bn1 bc1) := hcs 16 _ rfl
      have HR := Lib.hid (hR.move (D' := (· < wx.heap.size)) fun b hb hl => ⟨rfl, hl⟩)
      clear hsx hr hcs hI hR bb1 hbg
      go_wp2_with (go_at_call 41; go_loud (refine (clone_rngs wx HR.out (fun b hb => hb)).mono ?_; rintro e3 w3 ⟨B3, n3, k3, rfl, hr3, hb3⟩; have S3 := Lib.hid (HS.out.addRngs hb3 hr3); have f16 : w3.cell? ⟨g, i * 18 + 16, none⟩ = some (.slice bA1 bn1 bc1) := (hb3.cell (p := ⟨g, i * 18 + 16, none⟩) zg).trans d16; have fg3 : ∀ i, w3.frozen? ⟨g, i, none⟩ = false := fun i => (hb3.frozen (p := ⟨g, i, none⟩) zg).trans (fg i); have zg3 := Nat.lt_of_lt_of_le zg hb3.size; clear hr3 hb3))
      have Z1 : Sta W ((ts ++ [tRow msgE π (.slice (some ⟨g, 0, none⟩) n c') l]) ++ [tRngs B3 n3 k3 m.box]) w3 := S3.out
      have hri : ((ts ++ [tRow msgE π (.slice (some ⟨g, 0, none⟩) n c') l]) ++ [tRngs B3 n3 k3 m.box])[ts.length]? = some (tRow msgE π (.slice (some ⟨g, 0, none⟩) n c') l) := by
        rw [List.getElem?_append_left (by simp)]; exact HROW.out
      have hii : ((ts ++ [tRow msgE π (.slice (some ⟨g, 0, none⟩) n c') l]) ++ [tRngs B3 n3 k3 m.box])[ts.length + 1]? = some (tRngs B3 n3 k3 m.box) := by
        rw [List.getElem?_append_right (by simp)]; simp
      have Z2 := Z1.editM i 16 (.slice B3 n3 k3) m hri hπ HM.out (by omega) (fun c h cs => msg_box (h.get hii))
      have HZ := Lib.hid (Z2.pick (List.sublist_append_left _ _))
      clear Z1 hri hii Z2 S3
      go_roundw
      case rel => exact ⟨i + 1, by omega, by go_num, HZ.out⟩
      case measure => simp [intOf]; omega
    · have HF := Lib.hid (HS.out.freeze (i := ts.length) (π := π) (E := msgE) HROW.out hπ rfl)
      go_wp2
      go_ret
      refine ⟨B, c', rfl, ?_⟩
      have := HF.out
      rw [List.set_append_right _ _ (Nat.le_refl _)] at this
      simpa [hln] using this
end Go.Proofs.Ytdpamikobmefeaa
