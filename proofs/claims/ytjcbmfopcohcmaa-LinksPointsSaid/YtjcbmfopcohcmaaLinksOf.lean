/- The links of a point. Conditions: the ring is one, the dice are a block of one number. -/
import Derived.Test.YtjcbmfopcohcmaaLinksSort
import Derived.Test.YtjcbmfopcohcmaaLinksRef
import Derived.Deep.RegionHeld3
namespace Go.Proofs.Ytjcbmfopcohcmaa
open Go.Shelf Go.RowKit Go.Lib Go.Sort
set_option maxRecDepth 100000
set_option linter.unusedVariables false
set_option linter.unusedSimpArgs false

theorem Only.behind {S S' : Nat → Prop} {w w1 w2 : World} (h : Only S w w1) (k : Only S' w1 w2) (hs : ∀ b, S' b → w.heap.size ≤ b) : Only S w w2 :=
  ⟨k.os.trans h.os, k.tape.trans h.tape, k.output.trans h.output, Nat.le_trans h.size k.size, fun i hi hn => (k.block i (Nat.lt_of_lt_of_le hi h.size) (fun hk => by have := hs i hk; omega)).trans (h.block i hi hn)⟩
theorem appd_only {w w' : World} {base e size n m cap : Nat} {xs news : List Value} {v : Value} {B : Option Addr} (h : Appd w base e size n m xs news v B cap w') : Only (fun b => some b = v.ownBlock) w w' :=
  ⟨h.2.1.os, h.2.1.tape, h.2.1.output, h.2.1.size, fun k hk hn => h.2.1.block k hk hn⟩
theorem owns_ge {w : World} {base e size n g : Nat} {v : Value} {xs : List Value} (h : w.ownsRow base e size v n xs) (hg : some g = v.ownBlock) : base ≤ g := by
  rcases h.2 with ⟨rfl, _⟩ | ⟨g', cap, cur, rfl, hb, _⟩
  · cases hg
  · injection hg with hg; rw [hg]; exact hb
theorem RingT.dice {T : Nat} {c : Col} {π : List Int} {w w' : World} {rb db : Nat} {l : List Int} (h : RingT T c π w rb l) (hf : Fresh c w) (hc : c db ≠ π) (ho : Only (· = db) w w') : RingT T c π w' rb l :=
  h.step (C := fun x => x = c db) ⟨ho.mono (fun k _ hk => by show c k = c db; rw [hk]), fun _ _ => rfl, fun k hk => hf k (Nat.le_trans ho.size hk)⟩ (fun e => hc e.symm)
/-- Where the links stand. -/
def OfAt (w : World) (db bp : Nat) (l : List Int) (p nx s : Int) (i : Nat) (v : Value) (wr : World) : Prop :=
  ∃ A cap, v = .slice A (linkQ l p nx s i).length cap ∧ wr.ownsRow (w.heap.size + 1) 22 1 v (linkQ l p nx s i).length ((linkQ l p nx s i).map (Value.int .u32)) ∧ Only (· = db) w wr ∧ Box wr db #[.int .u64 (diceAt s i)] ∧ Box wr bp #[.int .u32 p]
theorem of_end {w w1 w2 w3 : World} {db g cap : Nat} {p s : Int} {q : List Int} {C0 : Array Value} {d2 d3 : Array Int} (hon : Only (· = db) w w1) (hx : Box w1 db #[.int .u64 s]) (hg : w.heap.size + 1 ≤ g) (hdb : db < w.heap.size)
    (hR1 : RowI .u32 22 C0 w1 g d2 w2) (hR : RowI .u32 22 C0 w1 g d3 w3) (hp : d2.toList.Perm q) (hs : ∀ i j, i < j → j < d2.size → wayF p d2[i]! ≤ wayF p d2[j]!) (hu : ∀ x ∈ q, U32 x) (h3 : d3.size = d2.size) (hq : q.length ≤ 6) (hcap : d2.size ≤ cap) (hm : cap ≤ maxLen)
    (ht : d3.toList.take (compactUpTo d2 d2.size).length = compactUpTo d2 d2.size) :
    Rises p q (compactUpTo d2 d2.size) ∧ Ints w3 (fun b => w.heap.size ≤ b ∧ b < w3.heap.size) .u32 4 (some ⟨g, 0, none⟩) (compactUpTo d2 d2.size).length cap (compactUpTo d2 d2.size) ∧ Only (· = db) w w3 ∧ Box w3 db #[.int .u64 s] := by
  have hrise := rises_compact hp hu hs
  have hl : (compactUpTo d2 d2.size).length ≤ d3.size := by
    have := congrArg List.length ht
    rw [List.length_take, Array.length_toList (xs := d3)] at this; omega
  have hd2 : d2.size = q.length := by have := hp.length_eq; simpa using this
  have hgl := hR.lt
  refine ⟨hrise, ⟨rfl, by omega, by unfold maxLen at hm; exact hm, by omega, (fun h => by cases h), fun x hx => u32_wf (hu x ((hrise.mem x).1 hx)), fun hn => ⟨g, 0, rfl, ⟨by omega, hgl⟩, fun j hj => ?_⟩⟩, hon.behind hR.only (fun b hb => by rw [hb]; omega), hx.only hR.only (fun (h : db = g) => by omega)⟩
  rw [Nat.zero_add, hR.cell (by omega)]
  have h1 : (d3.toList.take (compactUpTo d2 d2.size).length)[j]? = (compactUpTo d2 d2.size)[j]? := by rw [ht]
  rw [List.getElem?_take_of_lt hj, Array.getElem?_toList, Array.getElem?_eq_getElem (by omega)] at h1
  rw [List.getD_eq_getElem?_getD, ← h1, getElem!_pos d3 j (by omega)]
  rfl
set_option maxHeartbeats 8000000 in
theorem links_of {c : Col} {π : List Int} {w : World} {rb db : Nat} {l : List Int} {p n s : Int} (h : RingR c π w rb l) (hf : Fresh c w) (hcd : c db ≠ π) (hd : Box w db #[.int .u64 s]) (h0 : 0 ≤ s) (h1 : s < 18446744073709551616) (hp : U32 p) :
    Calls Try.prog 28 #[.pointer (some ⟨rb, 0, none⟩), .int .u32 p, .int .i64 n, .pointer (some ⟨db, 0, none⟩)] w fun e w' =>
      ∃ A cap x s', e = .returned (.slice A x.length cap) ∧ LinksAns l p n s x s' ∧ Ints w' (fun b => w.heap.size ≤ b ∧ b < w'.heap.size) .u32 4 A x.length cap x ∧ Only (· = db) w w' ∧ Box w' db #[.int .u64 s'] := by
  have hB := below_a1 w (.cells #[.int .u32 p] 22)
  have HH := Lib.hid (h.later hf hB)
  have HB := Lib.hid hB
  have HF := Lib.hid (show Fresh c (w.alloc (.cells #[.int .u32 p] 22)) from fun k hk => hf k (Nat.le_trans hB.size hk))
  have HD := Lib.hid (hd.below hB hd.lt)
  have HDL := Lib.hid hd.lt
  have HP := Lib.hid hp; have HC := Lib.hid hcd
  have hbp := (Box.new w #[.int .u32 p] 22)
  have HBP := Lib.hid hbp
  have HK := Lib.hid (show PtsOk l by obtain ⟨_, _, _, _, _, _, hk, _⟩ := h; exact hk)
  have HHW := Lib.hid h; have HFW := Lib.hid hf
  clear h hf hcd hd hp hB hbp
  by_cases hin : p ∈ l
  · have HIN := Lib.hid (show decide (p ∈ l) = true from decide_eq_true hin)
    have hne : l ≠ [] := fun e => by rw [e] at hin; simp at hin
    have HNE := Lib.hid hne
    have HL0 := Lib.hid (List.length_pos_of_mem hin)
    have HMEM := Lib.hid hin
    obtain ⟨nx, hnx⟩ : ∃ nx, ptF l (stepP p) = nx := ⟨_, rfl⟩
    have HNX := Lib.hid hnx
    have HNX2 := Lib.hid (show ptF l ((p + 1) % 4294967296) = nx from hnx)
    have hN := cntF_le n
    have hN2 : max (min n 6) 0 = ((cntF n : Nat) : Int) := by unfold cntF; omega
    have HN2 := Lib.hid hN2
    obtain ⟨N, hNN⟩ : ∃ N, cntF n = N := ⟨_, rfl⟩
    have HNN := Lib.hid hNN
    rw [hNN] at hN
    clear hin hne hnx hN2 hNN
    go_enter Try.func28, Try.ntmps28
    go_wp2_with (first
      | (go_at_call 64; go_loud ((with_reducible refine (ring_has p HH.out).mono ?_); rintro e w1 ⟨rfl, hb1⟩; rw [HIN.out]; have HB1 := Lib.hid hb1.below; have X1 := Lib.hid (HBP.out.below hb1.below HBP.out.lt); have c1 := X1.out.cell; have z1 := X1.out.lt; clear hb1))
      | (go_at_call 65; go_loud ((with_reducible refine (ring_next1 p (HH.out.later HF.out HB1.out) HNE.out).mono ?_); rintro e w2 ⟨rfl, hb2⟩; rw [HNX.out]; have HB2 := Lib.hid hb2; have X2 := Lib.hid (X1.out.below hb2 X1.out.lt); clear hb2)))
    rw [show max (min n 6) 0 = ((N : Nat) : Int) by rw [HN2.out, HNN.out]]
    have HBD := Lib.hid (diceAt_bound h0 h1)
    go_loopw [11, 27] (fun s11 s27 wr => ∃ i : Nat, i ≤ N ∧ s27 = .int .i64 i ∧ OfAt w db w.heap.size l p nx s i s11 wr) (fun _ k _ => N - (intOf k).toNat)
    case atStart => exact ⟨0, Nat.zero_le _, rfl, none, 0, rfl, ⟨rfl, .inl ⟨rfl, rfl⟩⟩, Only.of_below (below_from (below_from HB.out HB1.out HB.out.size) HB2.out (below_from HB.out HB1.out HB.out.size).size), (HD.out.below HB1.out HD.out.lt).below HB2.out (HD.out.below HB1.out HD.out.lt).lt, X2.out⟩
    case round =>
      obtain ⟨i, hi, rfl, hO⟩ := hrel
      have HO := Lib.hid hO
      obtain ⟨Ax, cx, rfl, hown, hon, hbx, hxp⟩ := hO
      have HOWN := Lib.hid hown; have HON := Lib.hid hon; have HBX := Lib.hid hbx; have HXP := Lib.hid hxp
      have hql := linkQ_len l p nx s i
      obtain ⟨m, hm⟩ : ∃ m, m = (linkQ l p nx s i).length := ⟨_, rfl⟩
      have HM := Lib.hid hm
      rw [← hm] at hql
      have HOWN := Lib.hid (show wr.ownsRow (w.heap.size + 1) 22 1 (.slice Ax m cx) m ((linkQ l p nx s i).map (Value.int .u32)) by rw [hm]; exact HOWN.out)
      rw [← hm]
      have HHR := Lib.hid (HHW.out.dice HFW.out HC.out hon.drew)
      have HFR := Lib.hid (show Fresh c wr.drew from fun k hk => HFW.out k (Nat.le_trans hon.size hk))
      clear hown hon hbx hxp hm
      by_cases hlt : i < N
      · have cp := HXP.out.cell; have zp := HXP.out.lt
        obtain ⟨q, hq⟩ : ∃ q, rollP l p s i = q := ⟨_, rfl⟩
        have HQ := Lib.hid hq
        have HROLL := Lib.hid (show ptF l ((p + leapF (diceAt s i)) % 4294967296) = q from hq)
        have hbd := HBD.out i
        have HDN := Lib.hid (show diceAt s (i + 1) = stepF (stepF (diceAt s i)) from rfl)
        have hdw : db ≠ w.heap.size := Nat.ne_of_lt HDL.out
        clear hq
        go_upto_region 7 with fail
        go_region_law (first
          | (go_simp; go_at_call 31; refine (leap_any db (diceAt s i) wr.drew HBX.out.drew hbd.1 hbd.2).mono ?_; rintro e3 w3 ⟨rfl, ho3, hx3⟩; have HO3 := Lib.hid ho3; have HX3 := Lib.hid hx3; have X3 := HXP.out.drew.only ho3 (fun h => hdw h.symm); have c3 := X3.cell; have z3 := X3.lt; have HXP3 := Lib.hid X3; clear ho3 hx3 X3)
          | (go_simp; go_at_call 66; refine (ring_owner1 ((p + leapF (diceAt s i)) % 4294967296) (HHR.out.dice HFR.out HC.out HO3.out) HNE.out).mono ?_; rintro e4 w4 ⟨rfl, hb4⟩; rw [HROLL.out]; have HB4 := Lib.hid hb4; clear hb4))
        all_goals
          have HON4 := Lib.hid (show Only (· = db) w w4 from (HON.out.drew.trans HO3.out).trans (Only.of_below HB4.out))
          have HX4 := Lib.hid (show Box w4 db #[.int .u64 (diceAt s (i + 1))] by rw [HDN.out]; exact HX3.out.below HB4.out HX3.out.lt)
          have HXP4 := Lib.hid (HXP3.out.below HB4.out HXP3.out.lt)
          have c4 := HXP4.out.cell; have z4 := HXP4.out.lt
          have HOWN4 := Lib.hid (show w4.ownsRow (w.heap.size + 1) 22 1 (.slice Ax m cx) m ((linkQ l p nx s i).map (Value.int .u32)) from ownsRow_only (ownsRow_only (show wr.drew.ownsRow (w.heap.size + 1) 22 1 (.slice Ax m cx) m ((linkQ l p nx s i).map (Value.int .u32)) from HOWN.out) HO3.out (fun g hg he => by have := owns_ge HOWN.out hg.symm; have := HDL.out; omega)) (Only.of_below (S := fun _ => False) HB4.out) (fun _ _ h => h))
          have KEEP : Hid (rollP l p s i = p ∨ rollP l p s i = nx → OfAt w db w.heap.size l p nx s (i + 1) (.slice Ax m cx) w4) := fun h => by
            have e : linkQ l p nx s (i + 1) = linkQ l p nx s i := by
              show linkQ l p nx s i ++ _ = _
              rw [if_pos h, List.append_nil]
            have h0 := HOWN4.out
            have h9 := HM.out
            subst h9
            refine ⟨Ax, cx, by rw [e], by rw [e]; exact h0, HON4.out, HX4.out, HXP4.out⟩
          cases hqp : (q == p) with
          | true =>
            have HK := Lib.hid (KEEP.out (.inl (by rw [HQ.out]; simpa using hqp)))
            have hqp2 : (q != p) = false := by simp at hqp; simp [hqp]
            go_wp2
            go_roundw
            case rel => exact ⟨i + 1, by omega, by go_num, HK.out⟩
            case measure => simp [intOf]; omega
          | false =>
            have hqp2 : (q != p) = true := by simp at hqp; simp [hqp]
            cases hqn : (q == nx) with
            | true =>
              have HK := Lib.hid (KEEP.out (.inr (by rw [HQ.out]; simpa using hqn)))
              have hqn2 : (q != nx) = false := by simp at hqn; simp [hqn]
              go_wp2
              go_roundw
              case rel => exact ⟨i + 1, by omega, by go_num, HK.out⟩
              case measure => simp [intOf]; omega
            | false =>
              have hqn2 : (q != nx) = true := by simp at hqn; simp [hqn]
              have HE := Lib.hid (show linkQ l p nx s (i + 1) = linkQ l p nx s i ++ [q] by
                show linkQ l p nx s i ++ _ = _
                rw [HQ.out, if_neg (by simp at hqp hqn; exact fun h => h.elim hqp hqn)])
              obtain ⟨i0, hi0, hz0, hz1, hz2⟩ := run_u32_info
              have HI0 := Lib.hid hi0; have HZ0 := Lib.hid hz0; have HZ1 := Lib.hid hz1; have HZ2 := Lib.hid hz2
              have HC3 := Lib.hid (show m + 1 ≤ maxLen by unfold maxLen; omega)
              have HC4 := Lib.hid (show (m + 1) * 4 ≤ 140737488355328 by omega)
              have HGE := Lib.hid (show w.heap.size + 1 ≤ (w4.alloc (.cells #[.int .u32 q] 22)).heap.size by rw [size_alloc]; have := HXP4.out.lt; omega)
              clear hi0 hz0 hz1 hz2
              go_wp2_with (at_builtin; go_loud (refine wpList_append_any _ rfl _ _ 32 rfl (w.heap.size + 1) 22 i0 (.int .u32 0) 1 4 Try.underlying32 HI0.out HZ0.out HZ1.out HZ2.out rfl (by decide) (.slice Ax m cx) m ((linkQ l p nx s i).map (Value.int .u32)) rfl (HOWN4.out.alloc _) (some ⟨w4.heap.size, 0, none⟩) 1 1 [.int .u32 q] rfl rfl (fun h => by cases h) (news_one (Box.new w4 _ _)) (fun u hu => by simp only [List.mem_singleton] at hu; subst hu; rfl) HC3.out HC4.out HGE.out ?_; intro B7 cap7 w7 a7; have HA7 := Lib.hid a7; clear a7))
              have HK := Lib.hid (show OfAt w db w.heap.size l p nx s (i + 1) (.slice B7 (m + 1) cap7) w7 by
                have hl9 : (linkQ l p nx s (i + 1)).length = m + 1 := by rw [HE.out, HM.out]; simp
                have ho := appd_only HA7.out
                have hge := fun b (hb : some b = (Value.slice Ax m cx).ownBlock) => owns_ge HOWN4.out hb
                have hB4 := below_a1 w4 (.cells #[.int .u32 q] 22)
                refine ⟨B7, cap7, by rw [hl9], ?_, (HON4.out.trans (Only.of_below hB4)).behind ho (fun b hb => by have := hge b hb; omega), (HX4.out.below hB4 HX4.out.lt).only ho (fun hb => by have := hge db hb; have := HDL.out; omega), (HXP4.out.below hB4 HXP4.out.lt).only ho (fun hb => by have := hge _ hb; omega)⟩
                rw [hl9, HE.out]
                have h0 := HA7.out.1
                simpa using h0)
              go_wp2
              go_roundw
              case rel => exact ⟨i + 1, by omega, by go_num, HK.out⟩
              case measure => simp [intOf]; omega
      · obtain rfl : i = N := by omega
        have hu := fun x (hx : x ∈ linkQ l p nx s i) => HK.out.u32 x (linkQ_mem HL0.out hx).1
        have HU := Lib.hid hu
        clear hu
        have hsrt := fun ww => AnyF.slices_SortFunc_none { sort32 with } none 0 (.func (.func 68) #[] #[.pointer (some ⟨w.heap.size, 0, none⟩)]) ww
        have HSRT := Lib.hid hsrt
        clear hsrt
        cases Ax with
        | none =>
          have hm0 : m = 0 ∧ cx = 0 := by
            obtain ⟨A', cap', he, _, _, h3, _⟩ := owns_shape HOWN.out
            injection he with e1 _ e3
            subst e1 e3
            exact h3 rfl
          obtain ⟨rfl, rfl⟩ := hm0
          have HQE := Lib.hid (show linkQ l p nx s i = [] from List.eq_nil_of_length_eq_zero HM.out.symm)
          go_wp2_with (first
            | (go_at_call 67; go_loud (refine (show Calls Try.prog 67 _ _ _ from HSRT.out _).mono ?_; rintro e5 w5 ⟨rfl, rfl⟩))
            | (go_at_call 71; go_loud ((with_reducible refine (comp_none _).mono ?_); rintro e6 w6 ⟨rfl, rfl⟩)))
          go_ret
          refine ⟨none, 0, [], _, rfl, ?_, ⟨rfl, by simp, by omega, by simp, fun _ => rfl, fun x hx => by simp at hx, fun h => by simp at h⟩, HON.out, HBX.out⟩
          unfold LinksAns
          rw [if_pos HMEM.out, HNX2.out, HNN.out, HQE.out]
          exact ⟨Rises.nil p, rfl⟩
        | some ad =>
          obtain ⟨g, rfl⟩ : ∃ g, ad = ⟨g, 0, none⟩ := by
            obtain ⟨A', cap', he, _, _, _, h4⟩ := owns_shape HOWN.out
            injection he with e1 _ _
            obtain ⟨g, cur, e, _⟩ := h4 ad e1.symm
            exact ⟨g, e⟩
          obtain ⟨C0, hC0, hlq, hmc, hcm, hge, hR⟩ := rowI_of_owns HOWN.out
          have hne : w.heap.size ≠ g := by omega
          have hcon := lnk_sort p (cap := cx) HXP.out hne hR (by simp; omega)
          have hsz : (linkQ l p nx s i).toArray.size = m := by simp [hlq]
          rw [hsz] at hcon
          have hcomp : ∀ (d2 : Array Int) (ww : World), d2.size = m → RowI .u32 22 C0 wr g d2 ww → _ := fun d2 ww h1 h2 => comp_row (cap := cx) h2 (by omega) (by omega)
          have HCOMP := Lib.hid hcomp
          have HCON := Lib.hid hcon
          have HGE := Lib.hid hge
          clear hcon hcomp hR hge hne
          go_wp2_with (first
            | (go_at_call 67; go_loud ((with_reducible refine HCON.out.mono ?_); rintro e5 w5 ⟨rfl, d2, hp2, hs2, hR2⟩; have HP2 := Lib.hid hp2; have HS2 := Lib.hid hs2; have HR2 := Lib.hid hR2; have HSZ2 := Lib.hid (show d2.size = m by have := hp2.length_eq; simp at this; omega); clear hp2 hs2 hR2))
            | (go_at_call 71; go_loud ((have hc2 := HCOMP.out d2 w5 HSZ2.out HR2.out; rw [HSZ2.out] at hc2; (with_reducible refine hc2.mono ?_); rintro e6 w6 ⟨rfl, d3, h3, ht3, hR3⟩; have HT3 := Lib.hid ht3; have HR3 := Lib.hid hR3; have H3 := Lib.hid h3; clear ht3 hR3 h3 hc2))))
          go_ret
          have hfin := of_end (q := linkQ l p nx s i) (p := p) HON.out HBX.out HGE.out HDL.out HR2.out HR3.out (by simpa using HP2.out) HS2.out HU.out (by rw [H3.out, HSZ2.out]) (by omega) (cap := cx) (by rw [HSZ2.out]; exact hmc) hcm (by rw [HSZ2.out]; exact HT3.out)
          obtain ⟨f1, f2, f3, f4⟩ := hfin
          rw [HSZ2.out] at f1 f2
          refine ⟨some ⟨g, 0, none⟩, cx, _, _, rfl, ?_, f2, f3, f4⟩
          unfold LinksAns
          rw [if_pos HMEM.out, HNX2.out, HNN.out]
          exact ⟨f1, rfl⟩
  · have HIN := Lib.hid (show decide (p ∈ l) = false from decide_eq_false hin)
    have HA := Lib.hid (show LinksAns l p n s [] s by unfold LinksAns; rw [if_neg hin]; exact ⟨rfl, rfl⟩)
    clear hin
    go_enter Try.func28, Try.ntmps28
    go_wp2_with (go_at_call 64; go_loud ((with_reducible refine (ring_has p HH.out).mono ?_); rintro e w1 ⟨rfl, hb1⟩; rw [HIN.out]; have HB1 := Lib.hid hb1.below; clear hb1))
    go_ret
    exact ⟨none, 0, [], s, rfl, HA.out, ⟨rfl, by simp, by omega, by simp, fun _ => rfl, fun x hx => by simp at hx, fun h => by simp at h⟩, Only.of_below (below_from HB.out HB1.out HB.out.size), HD.out.below HB1.out HD.out.lt⟩
end Go.Proofs.Ytjcbmfopcohcmaa
