/- The shelf's Scan: the loop over the map. Conditions: the shelf is one. -/
import Derived.Test.YtjcbmfopcohcmaaScanSort
import Derived.Test.YtjcbmfopcohcmaaShelfNow
import Derived.Test.YtjcbmfopcohcmaaSortNone
namespace Go.Proofs.Ytjcbmfopcohcmaa
open Go.RowKit Go.ChangeShapes Go.Maps
set_option maxRecDepth 100000
set_option linter.unusedVariables false
set_option linter.unusedSimpArgs false

def eOf (L : List Ent) (c : EntC) : Ent := (findE L c.x c.id).getD noEnt
def hasE (f t : Int) (e : Ent) : Bool := hasF f t e.value
theorem find_mem {c : Col} {w : World} {D : DataW Value} {L : List Ent} (hd : MapOf kE (EVal c w) D L) {e : Ent} (he : e ∈ L) : findE L e.value e.rc.id = some e := by
  cases hf : findE L e.value e.rc.id with
  | none => exact absurd (ekB_iff.2 ⟨rfl, rfl⟩) (List.find?_eq_none.1 hf e he)
  | some o =>
    have h1 := List.mem_of_find?_eq_some hf
    have h2 := ekB_iff.1 (List.find?_some hf)
    rw [hd.inj h1 he (show KL o.value o.rc.id = KL e.value e.rc.id by rw [h2.1, h2.2])]
theorem ScanRow.only {base : Nat} {f : EntC → Ent} {w w' : World} {v : Value} {M : List EntC} {S : Nat → Prop} (h : ScanRow base f w v M) (ho : Only S w w') (hS : ∀ b, base ≤ b → ¬ S b) : ScanRow base f w' v M where
  row := ownsRow_only h.row ho (fun g hg => hS g (ownBlock_lt h.row hg).1)
  ents c hc := (h.ents c hc).move fun b hb hlt => ⟨ho.block b hlt (hS b hb.1), hb.1, Nat.lt_of_lt_of_le hlt ho.size, hb.2.2⟩
theorem grown_below {w w' : World} (h : Below w.heap.size w w') : w.grownBy w' none := ⟨h.os, h.tape, h.output, h.size, fun i hi _ => h.block i hi⟩
theorem only_grown {w w' : World} {r : Nat} (h : w.grownBy w' (some r)) : Only (· = r) w w' := ⟨h.os, h.tape, h.output, h.size, fun i hi hn => h.block i hi (fun e => hn (by injection e))⟩
theorem saddPlain (g o t : Nat) : (⟨g, o, none⟩ : Addr).add t = ⟨g, o + t, none⟩ := by unfold Addr.add; split <;> simp_all
theorem snews_box {w : World} {g : Nat} {C : Array Value} (h : Box w g C) : ∀ ad, some (⟨g, 0, none⟩ : Addr) = some ad → ∀ t u, C.toList[t]? = some u → w.cell? (ad.add t) = some u := by
  intro ad had t u hu
  injection had with had; subst had
  rw [saddPlain, Nat.zero_add, h.cell t]
  rwa [Array.getElem?_toList] at hu
theorem encE_one (c : EntC) : ∀ u ∈ encE c, u.oneCell' = true := by
  intro u hu
  simp [encE] at hu
  rcases hu with rfl | rfl | rfl | rfl | rfl <;> rfl
theorem box_grown {w w' : World} {b : Nat} {C : Array Value} {row : Option Nat} (h : Box w b C) (hg : w.grownBy w' row) (hn : some b ≠ row) : Box w' b C := by
  have hl := h.lt
  obtain ⟨T, h⟩ := h
  exact ⟨T, by rw [hg.block b hl hn]; exact h⟩
/-- What the loop keeps. -/
structure Scanning (L : List Ent) (f t : Int) (w : World) (v : Value) (M : List EntC) (left : Lit → Bool) (wr : World) : Prop where
  row : ScanRow (w.heap.size + 2) (eOf L) wr v M
  perm : (M.map (eOf L) ++ (Rem kE L left).filter (hasE f t)).Perm (L.filter (hasE f t))
  box : Box wr w.heap.size #[.int .u32 f, .int .u32 t]
  below : Below w.heap.size w wr
  size : w.heap.size + 2 ≤ wr.heap.size
theorem Scanning.len {L : List Ent} {f t : Int} {w wr : World} {v : Value} {M : List EntC} {left : Lit → Bool} (h : Scanning L f t w v M left wr) : M.length ≤ L.length := by
  have h1 := h.perm.length_eq
  have h2 := List.length_filter_le (hasE f t) L
  simp only [List.length_append, List.length_map] at h1
  omega
theorem perm_no {L : List Ent} {left : Lit → Bool} {kl : Lit} {R : List Ent} {f t : Int} {M : List Ent} {e : Ent} (hp : (Rem kE L left).Perm (e :: Rem kE L (fun z => left z && !z.sameKey kl))) (hh : hasE f t e = false)
    (h : (M ++ (Rem kE L left).filter (hasE f t)).Perm R) : (M ++ (Rem kE L (fun z => left z && !z.sameKey kl)).filter (hasE f t)).Perm R := by
  have h1 := hp.filter (hasE f t)
  rw [List.filter_cons_of_neg (by simp [hh])] at h1
  exact (h1.append_left M).symm.trans h
theorem perm_yes {L : List Ent} {left : Lit → Bool} {kl : Lit} {R : List Ent} {f t : Int} {M : List Ent} {e : Ent} (hp : (Rem kE L left).Perm (e :: Rem kE L (fun z => left z && !z.sameKey kl))) (hh : hasE f t e = true)
    (h : (M ++ (Rem kE L left).filter (hasE f t)).Perm R) : ((M ++ [e]) ++ (Rem kE L (fun z => left z && !z.sameKey kl)).filter (hasE f t)).Perm R := by
  have h1 := hp.filter (hasE f t)
  rw [List.filter_cons_of_pos hh] at h1
  rw [List.append_assoc]
  exact (h1.append_left M).symm.trans h

set_option maxHeartbeats 2000000 in
theorem shelf_scan {c : Col} {π : List Int} {w : World} {b : Nat} {L : List Ent} (h : ShelfR c π w b L) (hL : L.length < 1000000) (f t : Int) :
    Calls Try.prog 46 #[.pointer (some ⟨b, 0, none⟩), .agg #[.int .u32 f, .int .u32 t]] w fun e w' => ∃ v M, e = .returned v ∧ ScanRow (w.heap.size + 2) (eOf L) w' v M ∧ (M.map (eOf L)).Perm (L.filter (hasE f t)) ∧ M.Pairwise (fun x y => Go.Proofs.ltOf (scanC f) y x = false) ∧ Below w.heap.size w w' := by
  obtain ⟨mb, D, hb, _, _, hm, hd⟩ := h
  have hc := hb.box.cell
  have zb := hb.lt
  have HM := Lib.hid hm; have HD := Lib.hid hd
  clear hd hm hb
  have hmc : ∀ w' : World, Below w.heap.size w w' → w'.cell? ⟨b, 0, none⟩ = some (.map (some mb)) := fun w' h' => by rw [(bcell h').1 b 0 zb]; exact hc 0
  have hinfo' : (Try.prog.info? 36).map (fun i => (i.zero, i.size, i.bytes)) = some (some (.agg #[.int .u32 0, .int .u64 0, .int .u64 0, .slice none 0 0, .bool false]), 5, 56) := by kernel_rfl
  obtain ⟨j0, jii, jz0, jz1, jz2⟩ := info_parts hinfo'
  clear hinfo'
  go_enter Try.func46, Try.ntmps46
  go_wp2_with (first | (at_range; refine wpList_range_own _ rfl _ 139 rfl 96 36 key_keyed Try.underlying139 (heldIf isEnt) mb L.length D rfl (HM.out.alloc _) ?_; intro w0 hrg0 hg0 hs0) | go_in)
  try go_frame
  have HR0 := Lib.hid hrg0
  have HX0 := Lib.hid ((Box.new w #[.int .u32 f, .int .u32 t] 57).below (below_from (Below.refl _ _) (Below.grown (Below.refl _ _) hg0 (Nat.le_refl _) (fun k hk => by cases hk)) (Nat.le_refl _)) (by rw [size_alloc]; omega))
  have HB0 := Lib.hid (show Below w.heap.size w w0 from (below_a1 w (.cells #[.int .u32 f, .int .u32 t] 57)).grown hg0 (by rw [size_alloc]; omega) (fun k hk => by cases hk))
  have hs1 : w0.heap.size = w.heap.size + 1 + 1 := by rw [hs0, size_alloc]
  rw [size_alloc] at HR0
  clear hrg0 hg0 hs0 hc
  try rw [size_alloc]
  go_loopw [5] (fun s5 wr => ∃ (left : Lit → Bool) (cnt : Nat) (M : List EntC), wr.ranges Try.prog 96 (heldIf isEnt) mb (w.heap.size + 1) L.length D left cnt ∧ Scanning L f t w s5 M left wr) (fun _ wr => wr.rangeLeft mb (w.heap.size + 1))
  case atStart => exact ⟨_, _, [], HR0.out, ScanRow.nil _ _ _, by rw [rem_start HD.out]; exact List.Perm.refl _, HX0.out, HB0.out, by omega⟩
  case round =>
    obtain ⟨left, cnt, M, hrg, hS⟩ := hrel
    have HS := Lib.hid hS; have HR := Lib.hid hrg
    clear hS
    go_wp2_with (first
      | (at_next; refine wpList_next_ranges _ rfl _ rfl 96 key_keyed (heldIf isEnt) mkKey mkEnt key_shape ent_shape mb (w.heap.size + 1) L.length _ _ _ rfl hrg ?_ ?_)
      | go_in)
    · intro hc0 hl0
      have HP := HS.out.perm
      rw [rem_done hl0, List.filter_nil, List.append_nil] at HP
      have HPP := Lib.hid HP
      have hlen := HS.out.len
      obtain ⟨A, cap, rfl, h1, h2, h3, h4⟩ := owns_shape HS.out.row.row
      have HROW := Lib.hid HS.out.row; have HBOX := Lib.hid HS.out.box; have HBB := Lib.hid HS.out.below; have hsz := HS.out.size
      clear HP hrg HS HR hl0 hc0
      by_cases hM : M.length = 0
      · have hM' : M = [] := List.eq_nil_of_length_eq_zero hM
        subst hM'
        simp only [List.length_nil] at *
        go_wp2_with (go_at_call 83; go_loud ((with_reducible refine (sort_zero _ _ _ _).mono ?_); rintro e w8 ⟨rfl, rfl⟩))
        go_ret
        exact ⟨_, [], rfl, HROW.out, HPP.out, List.Pairwise.nil, HBB.out⟩
      · obtain ⟨g, hA⟩ : ∃ g, A = some ⟨g, 0, none⟩ := by
          cases A with
          | none => exact absurd (h3 rfl).1 hM
          | some ad => obtain ⟨g, cur, rfl, _⟩ := h4 ad rfl; exact ⟨g, rfl⟩
        subst hA
        have hg : w.heap.size + 2 ≤ g ∧ g < wr.heap.size := ownBlock_lt HROW.out.row rfl
        have hC := sort_ent f t w.heap.size g cap M.toArray wr HBOX.out (by omega) (scan_holds HROW.out.row) hg.2 (by simp only [List.size_toArray]; omega)
        simp only [List.size_toArray] at hC
        have HC := Lib.hid hC
        clear h1 h2 h3 h4 hC
        go_wp2_with (go_at_call 83; go_loud ((with_reducible refine HC.out.mono ?_); rintro e w8 ⟨rfl, d, m, os, hp, hs, rfl⟩; have HPD := Lib.hid hp; have HSD := Lib.hid hs; clear hp hs))
        go_ret
        have hp2 := perm_in (M := M) (d := d) (by simpa using HPD.out)
        have hds : d.size = M.length := by simpa using hp2.length_eq
        refine ⟨_, d.toList, rfl, scan_sorted HROW.out d hp2 m os, (hp2.map _).trans HPP.out, sorted_in (by have := HSD.out; rwa [← hds] at this), ?_⟩
        exact (Only.below (B := w.heap.size) (sort_only encE 5 wr g 0 m d os) HBB.out.size (fun k hk => by subst hk; omega) |> fun hb => HBB.out.trans hb)
    · intro x cc kl yd yp w2 cnt2 hkey hlk hv hat hrg2 hlt hg2 hs2 hen
      obtain ⟨e, he, hke, hev⟩ := rem_elem HD.out hv hat
      obtain ⟨s', l', c', hee, hok, hi⟩ := hev
      obtain ⟨x1, x2, x3, x4, x5, x6, g⟩ := cc
      unfold mkEnt mkKey at hen
      unfold mkEnt at hee
      simp only [Value.agg.injEq, Array.mk.injEq, List.cons.injEq, Value.int.injEq, Value.bool.injEq, Value.slice.injEq, true_and, and_true] at hee
      dsimp only at hen
      obtain ⟨h1, h2, h3, ⟨h4, h5, h6⟩, h7⟩ := hee
      subst h1 h2 h3 h4 h5 h6 h7
      have hfind := find_mem HD.out he
      have HRS := Lib.hid (rem_step HD.out.apart (by rw [← hke]; exact KL_key _ _) he hke hlk)
      have HB2 := Lib.hid (below_grown HS.out.below hg2 (Nat.le_succ _))
      have HSR := Lib.hid (HS.out.row.only (only_grown hg2) (fun b hb => by show ¬ b = _; omega))
      have X3 := HS.out.box.only (only_grown hg2) (by show ¬ w.heap.size = _; omega)
      have hc3 := X3.cell; have hz3 := X3.lt
      have HX3 := Lib.hid X3
      have HI := Lib.hid (show Ints w (fun b => b < w.heap.size) .u32 4 x4 x5 x6 e.rc.vals from hi.stays (fun _ _ => rfl) (fun b hb => hb.2))
      have HOK := Lib.hid hok
      have HF := Lib.hid (show eOf L ⟨e.value, e.rc.id, e.rc.ver, x4, x5, x6, e.gone⟩ = e by unfold eOf; rw [hfind]; rfl)
      have hsz := HS.out.size
      have hlen := HS.out.len
      have HR2 := Lib.hid hrg2; have HLT := Lib.hid hlt
      have hz2 : w.heap.size + 2 ≤ w2.heap.size := by rw [hs2]; exact hsz
      clear hkey hlk hv hat hrg2 hlt hg2 hs2 X3 hi hok hfind hke he hrg
      obtain ⟨ev, ⟨ei, er, evals⟩, eg⟩ := e
      dsimp only at *
      by_cases hh : hasF f t ev = true
      · go_wp2_with (first
          | (go_at_call 82; go_loud ((with_reducible refine (has_any f t ev _).mono ?_); rintro e4 w4 ⟨rfl, hb4⟩; rw [hh]; have X7 := (Box.new w2 #[.int .u32 ev, .int .u64 ei, .int .u64 er, .slice x4 x5 x6, .bool eg] 36).below hb4 (by rw [size_alloc]; omega); have c7 := X7.cell; have z7 := X7.lt; have s4 := hb4.size; have HB4 := Lib.hid hb4; clear hb4 X7))
          | (go_at_call 79; go_loud ((with_reducible refine (entry_any ev ei er eg _ (HI.out.below (below_from (below_from HB2.out (below_a1 w2 _) (by omega)) HB4.out (by rw [size_alloc]; omega)) (fun b h => h)) (fun b h => by rw [size_alloc] at s4; omega)).mono ?_); rintro e5 w5 ⟨v5, rfl, ⟨A5, n5, cap5, rfl, hi5⟩, hb5⟩; have HI5 := Lib.hid hi5; have HB5 := Lib.hid hb5; have s5 := hb5.size; have HW5 := Lib.hid (below_from (below_from (below_a1 w2 (.cells #[.int .u32 ev, .int .u64 ei, .int .u64 er, .slice x4 x5 x6, .bool eg] 36)) HB4.out (by rw [size_alloc]; omega)) hb5 (by rw [size_alloc] at s4; omega)); clear hi5 hb5))
          | (at_builtin; go_loud (refine wpList_append_any _ rfl _ _ 23 rfl (w.heap.size + 2) 36 j0 (.agg #[.int .u32 0, .int .u64 0, .int .u64 0, .slice none 0 0, .bool false]) 5 56 Try.underlying23 jii jz0 jz1 jz2 rfl (by decide) _ M.length (ecCells M) rfl ((HSR.out.below HW5.out).below (below_a1 w5 _)).row (some ⟨w5.heap.size, 0, none⟩) 1 1 (encE ⟨ev, ei, er, A5, n5, cap5, eg⟩) rfl rfl (fun h => by cases h) (snews_box (Box.new _ _ _)) (encE_one _) (by unfold maxLen; omega) (by omega) (by have h9 := HW5.out.size; rw [size_alloc]; omega) ?_; intro B7 cap7 w7 a7)))
        have h9 := HW5.out.size
        have HF5 : eOf L ⟨ev, ei, er, A5, n5, cap5, eg⟩ = ⟨ev, ⟨ei, er, evals⟩, eg⟩ := HF.out
        have hown := ((HSR.out.below HW5.out).below (below_a1 w5 (.cells #[.int .u32 ev, .int .u64 ei, .int .u64 er, .slice A5 n5 cap5, .bool eg] 36))).row
        have n1 : some mb ≠ u5.ownBlock := fun e => by have := ownBlock_lt hown e.symm; have := HM.out.lt; omega
        have n2 : some (w.heap.size + 1) ≠ u5.ownBlock := fun e => by have := ownBlock_lt hown e.symm; omega
        have n3 : some w.heap.size ≠ u5.ownBlock := fun e => by have := ownBlock_lt hown e.symm; omega
        have hg7 := a7.2.1
        have hr7 := ((((HR2.out.alloc (.cells #[.int .u32 ev, .int .u64 ei, .int .u64 er, .slice x4 x5 x6, .bool eg] 36)).kept (grown_below HB4.out) (by simp) (by simp)).kept (grown_below HB5.out) (by simp) (by simp)).alloc (.cells #[.int .u32 ev, .int .u64 ei, .int .u64 er, .slice A5 n5 cap5, .bool eg] 36)).kept hg7 n1 n2
        have s7 := hg7.size
        rw [size_alloc] at s7
        refine ⟨⟨_, cnt2, M ++ [⟨ev, ei, er, A5, n5, cap5, eg⟩], hr7, ?_, ?_, ?_, ?_, ?_⟩, ?_⟩
        · refine ScanRow.app HSR.out HW5.out (below_a1 w5 _) hz2 ?_ a7
          rw [HF5]
          exact ⟨rfl, rfl, rfl, rfl, HOK.out, HI5.out.stays (fun _ _ => rfl) (fun b hb => by rw [size_alloc] at s4; omega)⟩
        · rw [List.map_append, List.map_cons, List.map_nil, HF5]
          exact perm_yes HRS.out hh HS.out.perm
        · exact box_grown ((HX3.out.below HW5.out hz3).alloc _) hg7 n3
        · exact ((below_from HB2.out HW5.out (by omega)).alloc (by omega) _).grown hg7 (by rw [size_alloc]; omega) (fun k hk => by have := ownBlock_lt hown hk; omega)
        · omega
        · rw [hr7.left_eq, HR.out.left_eq]; exact HLT.out
      · rw [Bool.not_eq_true] at hh
        go_wp2_with (go_at_call 82; go_loud ((with_reducible refine (has_any f t ev _).mono ?_); rintro e4 w4 ⟨rfl, hb4⟩; rw [hh]; have s4 := hb4.size; have HB4 := Lib.hid hb4; clear hb4))
        have HW4 := below_from (below_a1 w2 (.cells #[.int .u32 ev, .int .u64 ei, .int .u64 er, .slice x4 x5 x6, .bool eg] 36)) HB4.out (by rw [size_alloc]; omega)
        have hr4 := (HR2.out.alloc (.cells #[.int .u32 ev, .int .u64 ei, .int .u64 er, .slice x4 x5 x6, .bool eg] 36)).kept (grown_below HB4.out) (by simp) (by simp)
        have s5 := HW4.size
        refine ⟨⟨_, cnt2, M, hr4, HSR.out.below HW4, perm_no HRS.out hh HS.out.perm, HX3.out.below HW4 hz3, below_from HB2.out HW4 (by omega), by omega⟩, ?_⟩
        rw [hr4.left_eq, HR.out.left_eq]; exact HLT.out
end Go.Proofs.Ytjcbmfopcohcmaa
