/- The law GatherPages: its walk. -/
import Derived.Test.YtpkeddiaoacfeaaGathSta
import Derived.Test.YtpkeddiaoacfeaaRecSwap
import Derived.Test.YtpkeddiaoacfeaaStaMore
import Derived.Test.YtpkeddiaoacfeaaLaw
namespace Go.Proofs.Ytpkeddiaoacfeaa
open Go.RowKit Go.ChangeShapes
set_option maxRecDepth 100000
set_option linter.unusedVariables false
set_option linter.unusedSimpArgs false

/-- The records of one value. -/
def oneV (l : List Rec) : List Rec := l.filter fun r => decide (r.vals.length = 1)
theorem oneV_snoc {l : List Rec} {k : Nat} {r : Rec} (h : l[k]? = some r) : oneV (l.take (k + 1)) = if r.vals.length = 1 then oneV (l.take k) ++ [r] else oneV (l.take k) := by
  unfold oneV
  rw [List.take_add_one, h, Option.toList_some, List.filter_append]
  split
  · rename_i hr; simp [hr]
  · rename_i hr; simp [hr]
theorem oneV_len (l : List Rec) : (oneV l).length ≤ l.length := List.length_filter_le _ _
theorem any_ok : Rng.ok ⟨1, 0, 0⟩ := ⟨⟨Int.le_refl _, by decide⟩, ⟨Int.le_refl _, by decide⟩⟩
/-- Where the pages stand. -/
theorem rest_at {all : List Rec} (h : Up all) {p : Nat} {last : Rec} (h0 : 0 < p) (hl : all[p - 1]? = some last) : restF last.id false all = all.drop p := by
  unfold restF
  rw [if_neg (by simp)]
  refine dropWhile_at (fun j x hj hx => ?_) (fun x hx => ?_)
  · obtain ⟨j1, j2⟩ := List.getElem?_eq_some_iff.1 hx
    obtain ⟨l1, l2⟩ := List.getElem?_eq_some_iff.1 hl
    rcases Nat.lt_or_ge j (p - 1) with q | q
    · have := List.pairwise_iff_getElem.1 h j (p - 1) j1 l1 q
      rw [j2, l2] at this
      exact decide_eq_true (by omega)
    · obtain rfl : j = p - 1 := by omega
      rw [hl] at hx; injection hx with hx; subst hx
      exact decide_eq_true (Int.le_refl _)
  · obtain ⟨j1, j2⟩ := List.getElem?_eq_some_iff.1 hx
    obtain ⟨l1, l2⟩ := List.getElem?_eq_some_iff.1 hl
    have := List.pairwise_iff_getElem.1 h (p - 1) p l1 j1 (by omega)
    rw [j2, l2] at this
    exact decide_eq_false (by omega)
theorem nodup_len {l L : List Rec} (h : l.Nodup) (hs : ∀ r ∈ l, r ∈ L) : l.length ≤ L.length := by
  induction l generalizing L with
  | nil => exact Nat.zero_le _
  | cons a t ih =>
    obtain ⟨h1, h2⟩ := List.nodup_cons.1 h
    have ha := hs a (by simp)
    have := ih (L := L.erase a) h2 fun r hr => (List.mem_erase_of_ne (fun e => h1 (by rw [← e]; exact hr))).2 (hs r (by simp [hr]))
    rw [List.length_erase_of_mem ha] at this
    have := List.length_pos_of_mem ha
    simp; omega
theorem upof_len {L l : List Rec} (h : UpOf L l) : l.length ≤ L.length :=
  nodup_len (h.1.imp fun {a b} h e => by subst e; omega) (fun r hr => (h.2 r).1 hr)
theorem take_take_drop {α : Type} (l : List α) (p m : Nat) : l.take p ++ (l.drop p).take m = l.take (p + m) := by rw [List.take_add]
theorem page_wraps (a : Int) : ∃ q : Nat, 1 ≤ q ∧ q ≤ 7 ∧ IntKind.i64.wrap (1 + wrap64 ((IntKind.u64.wrap a).tmod 7)) = (q : Int) := by
  rw [uint_mod a 7 (by omega) (by omega)]
  refine ⟨(1 + a % 18446744073709551616 % 7).toNat, by omega, by omega, ?_⟩
  simp only [IntKind.wrap, IntKind.bits, IntKind.signed]
  simp
  omega

set_option maxHeartbeats 8000000 in
theorem wGatherPages0 (W : World) (A : Option Addr) (n cap : Nat) (l : List Rec) (pn : Int) (hl : recE.At W (· < W.heap.size) A n cap l) :
    Calls Try.prog 5 #[.slice A n cap, .int .i64 pn] W fun e W' => e = .returned (.bool true) ∧ Below W.heap.size W W' := by
  have HL := Lib.hid hl
  have HN := Lib.hid hl.1
  obtain ⟨q, hq1, hq2, hqw⟩ := page_wraps pn
  clear hl
  cases hfew : fewR l with
  | false =>
    have HF := Lib.hid hfew
    clear hfew
    go_enter Try.func5, Try.ntmps5
    go_wp2_with (first
      | (go_at_call 14; ((with_reducible refine (few18 _ HL.out).mono ?_); rintro e w' ⟨rfl, rfl⟩; rw [HF.out]))
      | (go_at_call 15; (with_reducible refine (awake18 _).mono ?_); rintro e w' ⟨rfl, hg⟩))
    go_ret
    exact ⟨rfl, hg⟩
  | true =>
    have HF := Lib.hid hfew
    have hl40 := fewR_len hfew
    have hln : n ≤ 40 := by rw [← HN.out]; exact hl40
    clear hfew
    go_enter Try.func5, Try.ntmps5
    go_wp2_with (go_at_call 14; ((with_reducible refine (few18 _ HL.out).mono ?_); rintro e w' ⟨rfl, rfl⟩; rw [HF.out]))
    have S1 := Lib.hid ((Sta.start W).rowNil recE [5] (by simp) (by simp))
    go_loopw [5, 6] (fun s5 s6 wr => ∃ i : Nat, i ≤ n ∧ s6 = .int .i64 i ∧ Sta W [tRow recE [5] s5 (oneV (l.take i))] wr) (fun _ i _ => n - (intOf i).toNat)
    case atStart => exact ⟨0, by omega, rfl, S1.out⟩
    case round =>
      obtain ⟨i, hi, rfl, hs⟩ := hrel
      have HS := Lib.hid hs
      clear hs S1
      have ho := oneV_len (l.take i)
      have hti : (l.take i).length ≤ i := by simp; omega
      obtain ⟨AV, capV, rfl, v1, v2, v3⟩ := HS.out.shape (i := 0) rfl
      by_cases hlt : i < n
      · obtain ⟨r, hr⟩ : ∃ r, l[i]? = some r := ⟨_, List.getElem?_eq_getElem (by rw [HN.out]; exact hlt)⟩
        have HO := Lib.hid (oneV_snoc hr)
        generalize oneV (l.take i) = acc at *
        obtain ⟨bb, off, rfl, hbb, hcc⟩ := (recsAt HL.out).2.2.2.2 (by omega)
        obtain ⟨hok, s, m, cp, p0, p1, p2, hint⟩ := hcc i r hr
        have q0 := (HS.out.end.cell (p := ⟨bb, off + i * 3, none⟩) hbb).trans p0
        have q1 := (HS.out.end.cell (p := ⟨bb, off + i * 3 + 1, none⟩) hbb).trans p1
        have q2 := (HS.out.end.cell (p := ⟨bb, off + i * 3 + 2, none⟩) hbb).trans p2
        have HI := Lib.hid hint; have HOK := Lib.hid hok
        have hml := hint.1
        clear hcc hint hok hbb hr p0 p1 p2
        by_cases hm1 : m = 1
        · subst hm1
          rw [if_pos hml] at HO
          go_wp2_with (at_builtin; go_loud (refine Sta.wpList_push (E := recE) 0 rfl _ _ rfl _ rfl HS.out rfl (by simp) rfl (fun c h => ⟨s, 1, cp, rfl, HOK.out, HI.out.move h.first⟩) (by omega) ?_; intro B2 cap2 w2 st2))
          go_roundw
          case rel => exact ⟨i + 1, by omega, by go_num, by rw [HO.out]; exact st2⟩
          case measure => simp [intOf]; omega
        · rw [if_neg (by omega)] at HO
          have hm' : ((m : Int) == 1) = false := by rw [beq_eq_false_iff_ne]; omega
          go_wp2
          go_roundw
          case rel => exact ⟨i + 1, by omega, by go_num, by rw [HO.out]; exact HS.out⟩
          case measure => simp [intOf]; omega
      · obtain rfl : i = n := by omega
        have hall : l.take i = l := List.take_of_length_le (by rw [HN.out]; exact Nat.le_refl _)
        rw [hall] at HS ho v1 v3 ⊢
        clear hall hti
        obtain ⟨sm, hsm⟩ : ∃ sm, oneV l = sm := ⟨_, rfl⟩
        rw [hsm] at HS ho v1 v3 ⊢
        clear hsm
        have hs40 : sm.length ≤ 40 := by omega
        have S1 := Lib.hid (HS.out.freeze (i := 0) (π := [5]) (E := recE) (l := sm) (ts' := [tAt recE AV sm.length capV sm]) rfl (by simp) rfl)
        clear HS
        obtain ⟨⟨M, kk⟩, hM⟩ : ∃ p, addsF [⟨1, 0, 0⟩] [] sm = p := ⟨_, rfl⟩
        have HMM := Lib.hid hM
        have hMl : M.length ≤ 40 := by have := (addsF_len [⟨1, 0, 0⟩] [] sm).1; rw [hM] at this; simp at this; omega
        clear hM
        go_upto_region 13 with (first
          | (go_at_call 16; go_loud (refine (ga_new (bl := [⟨1, 0, 0⟩]) [1] (S1.out.addBox _ _) (by simp) (by simp [tAt, tBox]) (fun c h => rngsAt (Elt.At.one (E := rngE) (x := ⟨1, 0, 0⟩) (h.box (i := 1) rfl).1 (h.box (i := 1) rfl).2 ⟨rfl, any_ok⟩) (by omega))).mono ?_; rintro e1 w1 ⟨g, rfl, hs, _⟩; have S2 := Lib.hid hs; clear hs S1))
          | (go_at_call 17; go_loud (refine (ga_add (k := kk) (L' := M) (l := sm) 2 S2.out rfl (by simp) (by simp) (by omega) (fun c h => h.data (i := 0) rfl) HMM.out rfl).mono ?_; rintro e2 w2 ⟨rfl, hs, _⟩; have S3 := Lib.hid hs; clear hs S2))
          | (go_at_call 19; go_loud (refine (ga_all 2 S3.out rfl (by omega)).mono ?_; rintro e3 w3 ⟨A4, cap4, all, rfl, hu, hs, _⟩; have S4 := Lib.hid hs; have HU := Lib.hid hu; clear hs S3 hu)))
        have hall40 : all.length ≤ 40 := by
          have h1 := upof_len HU.out
          omega
        have S5 := Lib.hid ((S4.out.pick (ts' := [tGath [1] g [⟨1, 0, 0⟩] M, tAt recE A4 all.length cap4 all]) (by simp)).rowNil recE [6] (by simp) (by simp [tGath, tAt]))
        clear S4 v1 v3 ho
        go_wp2
        go_loopw [9, 10, 11, 12] (fun s9 s10 s11 s12 wr => ∃ (i : Nat) (after : Int) (first : Bool), s12 = .int .i64 i ∧ s10 = .int .u64 after ∧ s11 = .bool first ∧ i * q ≤ all.length ∧ restF after first all = all.drop (i * q) ∧ Sta W [tGath [1] g [⟨1, 0, 0⟩] M, tAt recE A4 all.length cap4 all, tRow recE [6] s9 (all.take (i * q))] wr) (fun _ _ _ i _ => 50 - (intOf i).toNat)
        case atStart => exact ⟨0, 0, true, rfl, rfl, rfl, by omega, by simp [restF], by simpa using S5.out⟩
        case round =>
          obtain ⟨i, after, first, rfl, rfl, rfl, hip, hrest, hs⟩ := hrel
          have HS := Lib.hid hs; have HR := Lib.hid hrest
          clear hs S5 hrest
          have hi40 : i ≤ all.length := Nat.le_trans (Nat.le_mul_of_pos_right i (by omega)) hip
          have hi41 : (i : Int) ≤ (all.length : Int) := by omega
          have hnext : (i + 1) * q = i * q + q := by rw [Nat.add_mul]; omega
          obtain ⟨p, hp⟩ : ∃ p, i * q = p := ⟨_, rfl⟩
          rw [hp] at hip HR HS hnext
          have HNX := Lib.hid hnext
          clear hp hnext
          obtain ⟨AT, capT, rfl, t1, t2, t3⟩ := HS.out.shape (i := 2) rfl
          have htl : (all.take p).length = p := by simp; omega
          rw [htl] at HS t1 t3
          have HTL := Lib.hid htl
          have hdl : (all.drop p).length = all.length - p := by simp
          clear htl
          by_cases hmore : q < all.length - p
          · have HMF : Hid (manyF (q : Int) (all.drop p).length = q) := by rw [hdl]; show manyF _ _ = _; unfold manyF; omega
            have HMB : Hid (decide (q < (all.drop p).length) = true) := by rw [hdl]; exact decide_eq_true hmore
            go_upto_region 24 with (first
              | (go_at_call 20; go_loud (refine (ga_page (all := all) 0 after first q HS.out rfl (by omega) HU.out HR.out HMF.out HMB.out).mono ?_; rintro e5 w5 ⟨A6, rfl, hs, _⟩; have S6 := Lib.hid hs; clear hs HS))
              | (at_builtin; go_loud (refine Sta.wpList_append (E := recE) 2 rfl _ _ rfl _ rfl S6.out rfl (by simp) A6 q q rfl (fun c h => h.data (i := 3) rfl) (by rw [HTL.out]; omega) ?_; intro B2 cap2 w6 st2; rw [HTL.out] at st2; have S7 := Lib.hid st2; clear st2)))
            obtain ⟨x, hx⟩ : ∃ x, all[p + q - 1]? = some x := ⟨_, List.getElem?_eq_getElem (by omega)⟩
            have hx' : ((all.drop p).take q)[q - 1]? = some x := by
              rw [List.getElem?_take_of_lt (by omega), List.getElem?_drop, show p + (q - 1) = p + q - 1 by omega]; exact hx
            obtain ⟨b, off, rfl, hb, hc⟩ := (recsAt (S7.out.at (i := 3) rfl)).2.2.2.2 (by omega)
            obtain ⟨_, _, _, _, q0, _⟩ := hc (q - 1) x hx'
            have HRN := Lib.hid (rest_at HU.out.1 (p := p + q) (by omega) hx)
            have S8 := Lib.hid (show Sta W [tGath [1] g [⟨1, 0, 0⟩] M, tAt recE A4 all.length cap4 all, tRow recE [6] (.slice B2 (p + q) cap2) (all.take (p + q))] w6 from by
              have := S7.out.pick (ts' := [tGath [1] g [⟨1, 0, 0⟩] M, tAt recE A4 all.length cap4 all, tRow recE [6] (.slice B2 (p + q) cap2) (all.take p ++ (all.drop p).take q)]) (by simp)
              rwa [take_take_drop] at this)
            clear hc hb hx hx' S7
            have HQ := Lib.hid (show i * q + q = p + q from by have := HNX.out; rw [Nat.add_mul] at this; omega)
            have hq0 : ((q : Int) - 1).toNat = q - 1 := by omega
            have hqi : IntKind.i64.wrap ((q : Int) - 1) = (q : Int) - 1 := by simp only [IntKind.wrap, IntKind.bits, IntKind.signed]; simp; omega
            have hq1' : 0 ≤ (q : Int) - 1 := by omega
            have hq3 : (q : Int) - 1 < (q : Int) := by omega
            go_wp2
            go_roundw
            case rel => exact ⟨i + 1, x.id, false, by go_num, rfl, rfl, by rw [HNX.out]; omega, by rw [HNX.out]; exact HRN.out, by rw [HNX.out]; exact S8.out⟩
            case measure => simp [intOf]; omega
          · have HMF : Hid (manyF (q : Int) (all.drop p).length = all.length - p) := by rw [hdl]; show manyF _ _ = _; unfold manyF; omega
            have HMB : Hid (decide (all.length - p < (all.drop p).length) = false) := by rw [hdl]; exact decide_eq_false (by omega)
            have HDT := Lib.hid (show all.take p ++ (all.drop p).take (all.length - p) = all from by rw [take_take_drop]; exact List.take_of_length_le (by omega))
            have HPL := Lib.hid (show p + (all.length - p) = all.length by omega)
            have g1 : ¬ (q : Int) < ((all.length - p : Nat) : Int) := by omega
            go_upto_region 22 with (first
              | (go_at_call 20; go_loud (refine (ga_page (all := all) 0 after first q HS.out rfl (by omega) HU.out HR.out HMF.out HMB.out).mono ?_; rintro e5 w5 ⟨A6, rfl, hs, _⟩; have S6 := Lib.hid hs; clear hs HS))
              | (at_builtin; go_loud (refine Sta.wpList_append (E := recE) 2 rfl _ _ rfl _ rfl S6.out rfl (by simp) A6 (all.length - p) (all.length - p) rfl (fun c h => h.data (i := 3) rfl) (by rw [HTL.out]; omega) ?_; intro B2 cap2 w6 st2; rw [HTL.out, HDT.out, HPL.out] at st2; have S7 := Lib.hid st2; clear st2)))
            have S8 := Lib.hid (S7.out.freeze (i := 2) (π := [6]) (E := recE) (l := all) (ts' := [tGath [1] g [⟨1, 0, 0⟩] M, tAt recE A4 all.length cap4 all, tAt recE B2 all.length cap2 all, tAt recE A6 (all.length - p) (all.length - p) ((all.drop p).take (all.length - p))]) rfl (by simp) rfl)
            clear S7
            go_wp2_with (first
              | (go_at_call 15; (with_reducible refine (awake18 _).mono ?_); rintro e w7 ⟨rfl, hb⟩; have S9 := Lib.hid (S8.out.later hb); clear hb S8)
              | (go_at_call 18; go_loud (refine (sta_same (bo := true) 2 1 S9.out rfl rfl (by simp)).mono ?_; rintro e w8 ⟨rfl, hb⟩; have S10 := Lib.hid (S9.out.later hb); clear hb S9)))
            go_ret
            exact ⟨rfl, S10.out.end⟩

theorem wGatherPages (W : World) (vs : List Value) (h : Sh.Args W (· < W.heap.size) [((.sl (.st (.pair (.int .u64) (.pair (.int .u64) (.pair (.sl (.int .u32) 4) .unit)))) 40), 23), ((.int .i64), 3)] vs) :
    Calls Try.prog 5 vs.toArray W fun e W' => e = .returned (.bool true) ∧ Below W.heap.size W W' := by
  obtain ⟨v0, _, rfl, ⟨a, ha⟩, v1, _, rfl, ⟨b, hb⟩, rfl⟩ := h
  obtain ⟨A, n, cap, l, rfl, hn, hl⟩ := recs_open ha
  obtain ⟨x, rfl, hx⟩ := int_open hb
  exact wGatherPages0 W A n cap l x hl
end Go.Proofs.Ytpkeddiaoacfeaa
