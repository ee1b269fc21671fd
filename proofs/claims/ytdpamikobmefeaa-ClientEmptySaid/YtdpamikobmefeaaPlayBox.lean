/- play.Box: of so many ranges that may be. Conditions: the ranges read so. -/
import Derived.Test.YtdpamikobmefeaaBoxRE
import Derived.Test.YtdpamikobmefeaaCliQ
namespace Go.Proofs.Ytdpamikobmefeaa
open Go.RowKit Go.ChangeShapes
set_option maxRecDepth 100000
set_option linter.unusedVariables false
set_option linter.unusedSimpArgs false

/-- What stands at a place of the box. -/
def pbK (k : Int) : Int := 1 + (k % 18446744073709551616) % 3
def pbAt (l : List Rng) (i : Nat) : Rng := match l[i]? with | some r => ⟨pbK r.kind, r.lo, r.hi⟩ | none => ⟨1, 0, 0⟩
def pbF (l : List Rng) (n : Nat) : List Rng := (List.range n).map (pbAt l)
theorem pbF_succ (l : List Rng) (n : Nat) : pbF l (n + 1) = pbF l n ++ [pbAt l n] := by
  unfold pbF; rw [List.range_succ, List.map_append]; rfl
theorem pbF_len (l : List Rng) (n : Nat) : (pbF l n).length = n := by unfold pbF; simp
theorem pbK_range (k : Int) : 1 ≤ pbK k ∧ pbK k ≤ 3 := by unfold pbK; omega
theorem pbK_conv (k : Int) : wrap64 (1 + wrap64 ((IntKind.u64.wrap k).tmod 3)) = pbK k := by
  have h0 : IntKind.u64.wrap k = k % 18446744073709551616 := by simp [IntKind.wrap, IntKind.signed, IntKind.bits]
  rw [h0, Int.tmod_eq_emod_of_nonneg (by omega)]
  unfold pbK wrap64
  omega
set_option maxHeartbeats 4000000 in
theorem play_box {W w : World} {ts : List Thing} {A : Option Addr} {m cap n : Nat} {l : List Rng} (π : List Int) (h : Sta W ts w) (hπ : π ≠ []) (hπ2 : π ≠ [12]) (ho : ∀ x ∈ ts, x.π ≠ π ∧ x.π ≠ [12]) (hl : ∀ c, S0 W ts c w → RngsAt w (Quiet c w) A m cap l) (hn : n ≤ 8) :
    Calls Try.prog 38 #[.slice A m cap, .int .i64 n] w fun e w' => ∃ B c', e = .returned (.slice B n c') ∧ Sta W (ts ++ [tRow rngE π (.slice B n c') (pbF l n)]) w' := by
  have hln : l.length = m := by
    obtain ⟨c0, h0⟩ := h
    exact (hl c0 h0).1
  have HLN := Lib.hid hln
  have HS := Lib.hid (show Sta W (tRow rngE π (.slice none 0 0) [] :: tRngs A m cap l :: ts) w from by
    have q := (h.addD (t := tRngs A m cap l) rfl hl).rowNil rngE π hπ (fun x hx => by
      rcases List.mem_append.1 hx with hx | hx
      · exact (ho x hx).1
      · simp only [List.mem_singleton] at hx; subst hx; exact fun e => hπ e.symm)
    rw [List.append_assoc] at q
    exact q.perm' (List.perm_append_comm.trans (.swap _ _ _)))
  have HO := Lib.hid ho
  clear h ho hl hln
  go_enter Try.func38, Try.ntmps38
  go_wp2
  go_loopw [5, 6] (fun s5 s6 wr => ∃ (i : Nat) (vP : Value), i ≤ n ∧ s5 = vP ∧ s6 = .int .i64 i ∧ Sta W (tRow rngE π vP (pbF l i) :: tRngs A m cap l :: ts) wr) (fun _ s _ => n - (intOf s).toNat)
  case atStart => exact ⟨0, _, Nat.zero_le _, rfl, rfl, HS.out⟩
  case round =>
    obtain ⟨i, vP, hi, rfl, rfl, hs⟩ := hrel
    have HR := Lib.hid hs
    clear HS
    by_cases hlt : i < n
    · have hlt' : (i : Int) < (n : Int) := by omega
      by_cases him : i < m
      · obtain ⟨c7, h7⟩ := hs.get (i := 1) (t := tRngs A m cap l) rfl
        obtain ⟨b, off, r, rfl, hd, hr, d0, d1, d2⟩ := rngs_cell (show RngsAt wr (Quiet c7 wr) A m cap l from h7) him
        have zb := hd.2
        have hok : r.ok := (show RngsAt wr (Quiet c7 wr) (some ⟨b, off, none⟩) m cap l from h7).2.2.2.2.2.1 r (List.mem_of_getElem? hr)
        have HK := Lib.hid (show pbAt l i = ⟨pbK r.kind, r.lo, r.hi⟩ from by unfold pbAt; rw [hr])
        have HOK := Lib.hid hok
        have him' : (i : Int) < (m : Int) := by omega
        clear h7 hd hr hs hok
        go_upto_region 9 with fail
        have HC := Lib.hid (pbK_conv r.kind)
        generalize wrap64 (1 + wrap64 ((IntKind.u64.wrap r.kind).tmod 3)) = kk at HC ⊢
        refine wp_abs (fun wx => Sta W (tRow rngE π u5 (pbF l i) :: tRngs (some ⟨b, off, none⟩) m cap l :: (ts ++ [tBox wr.heap.size #[.int .i64 kk, .int .u32 r.lo, .int .u32 r.hi]])) wx) (HR.out.addBox _ _) ?_
        generalize wr.heap.size = rb
        intro wx hsx
        have HX := Lib.hid hsx
        have hbx := hsx.box (i := ts.length + 2) (b := rb) (C := #[.int .i64 kk, .int .u32 r.lo, .int .u32 r.hi]) (by show (ts ++ _)[ts.length]? = _; rw [List.getElem?_append_right (Nat.le_refl _)]; simp)
        have c0 : wx.cell? ⟨rb, 0, none⟩ = some (.int .i64 kk) := hbx.cell 0
        have c1 : wx.cell? ⟨rb, 1, none⟩ = some (.int .u32 r.lo) := hbx.cell 1
        have c2 : wx.cell? ⟨rb, 2, none⟩ = some (.int .u32 r.hi) := hbx.cell 2
        have zx := hbx.lt
        clear hsx hbx d0 d1 d2 zb
        go_wp2_with (at_builtin; go_loud (refine Sta.wpList_push (E := rngE) (r := pbAt l i) 0 rfl _ _ rfl u5 rfl HX.out rfl hπ rfl (fun c h => ⟨by rw [HK.out, ← HC.out]; rfl, by rw [HK.out]; exact HOK.out⟩) (by rw [pbF_len]; omega) ?_; intro B7 c7p w7 st7; have S7 := Lib.hid st7; clear st7))
        go_roundw
        case rel => exact ⟨i + 1, _, by omega, rfl, by go_num, by
          rw [pbF_succ]
          refine S7.out.pick (.cons_cons _ (.cons_cons _ ?_))
          exact List.sublist_append_left _ _⟩
        case measure => simp [intOf]; omega
      · have HK := Lib.hid (show pbAt l i = ⟨1, 0, 0⟩ from by unfold pbAt; rw [List.getElem?_eq_none (by rw [HLN.out]; omega)])
        have him' : ¬ (i : Int) < (m : Int) := by omega
        clear hs
        go_upto_region 9 with fail
        refine wp_abs (fun wx => Sta W (tRow rngE π u5 (pbF l i) :: tRngs A m cap l :: (ts ++ [tBox wr.heap.size #[.int .i64 1, .int .u32 0, .int .u32 0]])) wx) (HR.out.addBox _ _) ?_
        generalize wr.heap.size = rb
        intro wx hsx
        have HX := Lib.hid hsx
        have hbx := hsx.box (i := ts.length + 2) (b := rb) (C := #[.int .i64 1, .int .u32 0, .int .u32 0]) (by show (ts ++ _)[ts.length]? = _; rw [List.getElem?_append_right (Nat.le_refl _)]; simp)
        have c0 : wx.cell? ⟨rb, 0, none⟩ = some (.int .i64 1) := hbx.cell 0
        have c1 : wx.cell? ⟨rb, 1, none⟩ = some (.int .u32 0) := hbx.cell 1
        have c2 : wx.cell? ⟨rb, 2, none⟩ = some (.int .u32 0) := hbx.cell 2
        have zx := hbx.lt
        clear hsx hbx
        go_wp2_with (at_builtin; go_loud (refine Sta.wpList_push (E := rngE) (r := pbAt l i) 0 rfl _ _ rfl u5 rfl HX.out rfl hπ rfl (fun c h => ⟨by rw [HK.out]; rfl, by rw [HK.out]; exact ⟨⟨by decide, by decide⟩, ⟨by decide, by decide⟩⟩⟩) (by rw [pbF_len]; omega) ?_; intro B7 c7p w7 st7; have S7 := Lib.hid st7; clear st7))
        go_roundw
        case rel => exact ⟨i + 1, _, by omega, rfl, by go_num, by
          rw [pbF_succ]
          refine S7.out.pick (.cons_cons _ (.cons_cons _ ?_))
          exact List.sublist_append_left _ _⟩
        case measure => simp [intOf]; omega
    · obtain rfl : n = i := by omega
      obtain ⟨A2, c2, rfl, _⟩ := hs.shape (i := 0) rfl
      rw [pbF_len] at HR ⊢
      go_wp2
      go_ret
      exact ⟨A2, c2, rfl, (HR.out.pick (ts' := tRow rngE π (.slice A2 n c2) (pbF l n) :: ts) (.cons_cons _ (.cons _ (List.Sublist.refl _)))).perm' (List.perm_append_comm (l₁ := [_]))⟩
end Go.Proofs.Ytdpamikobmefeaa
