/- The law GatherOrder: its walk. -/
import Derived.Test.YtpkeddiaoacfeaaGathSta
import Derived.Test.YtpkeddiaoacfeaaRecSwap
import Derived.Test.YtpkeddiaoacfeaaStaMore
import Derived.Test.YtpkeddiaoacfeaaLaw
namespace Go.Proofs.Ytpkeddiaoacfeaa
open Go.RowKit Go.ChangeShapes
set_option maxRecDepth 100000
set_option linter.unusedVariables false
set_option linter.unusedSimpArgs false

/-- Of one id and version. -/
def sameIV (e x : Rec) : Bool := x.id == e.id && x.ver == e.ver
def ddR (l : List Rec) : List Rec := l.foldl (fun acc e => if acc.any (sameIV e) = true then acc else acc ++ [e]) []
def ddRs (acc : List Rec) (e : Rec) : List Rec := if acc.any (sameIV e) = true then acc else acc ++ [e]
theorem ddR_snoc (l : List Rec) (e : Rec) : ddR (l ++ [e]) = ddRs (ddR l) e := by unfold ddR; rw [List.foldl_append]; rfl
theorem ddR_all (l : List Rec) : (ddR l).length ≤ l.length ∧ Alike (ddR l) := by
  have key : ∀ n, n ≤ l.length → (ddR (l.take n)).length ≤ n ∧ Alike (ddR (l.take n)) := by
    intro n
    induction n with
    | zero => intro _; exact ⟨by simp [ddR], fun a ha => by simp [ddR] at ha⟩
    | succ n ih =>
      intro hn
      obtain ⟨h1, h2⟩ := ih (by omega)
      have hx : l[n]? = some l[n] := List.getElem?_eq_getElem (by omega)
      rw [List.take_add_one, hx, Option.toList_some, ddR_snoc]
      generalize ddR (l.take n) = acc at *
      unfold ddRs
      split
      · exact ⟨by omega, h2⟩
      · rename_i hno
        refine ⟨by simp; omega, fun a ha b hb hi hv => ?_⟩
        have no : ∀ y ∈ acc, ¬ (y.id = l[n].id ∧ y.ver = l[n].ver) := fun y hy e => hno (by
          rw [List.any_eq_true]
          exact ⟨y, hy, by unfold sameIV; rw [Bool.and_eq_true, beq_iff_eq, beq_iff_eq]; exact e⟩)
        rcases List.mem_append.1 ha with ha | ha <;> rcases List.mem_append.1 hb with hb | hb
        · exact h2 a ha b hb hi hv
        · rw [List.mem_singleton] at hb; subst hb; exact absurd ⟨hi, hv⟩ (no a ha)
        · rw [List.mem_singleton] at ha; subst ha; exact absurd ⟨hi.symm, hv.symm⟩ (no b hb)
        · rw [List.mem_singleton] at ha hb; rw [ha, hb]
  have := key l.length (Nat.le_refl _)
  rwa [List.take_length] at this
/-- What y is told: each of m, and all ahead of it. -/
def toldY (m : List Rec) (i : Nat) : List Rec := (List.range i).flatMap fun j => (m.drop j).take 1 ++ m.take j
theorem toldY_succ (m : List Rec) (i : Nat) : toldY m (i + 1) = toldY m i ++ ((m.drop i).take 1 ++ m.take i) := by
  unfold toldY
  rw [List.range_succ, List.flatMap_append]; simp
theorem toldY_mem {m : List Rec} {r : Rec} : r ∈ toldY m m.length ↔ r ∈ m := by
  unfold toldY
  rw [List.mem_flatMap]
  constructor
  · rintro ⟨j, _, h⟩
    rcases List.mem_append.1 h with h | h
    · exact List.mem_of_mem_drop (List.mem_of_mem_take h)
    · exact List.mem_of_mem_take h
  · intro h
    obtain ⟨j, hj, rfl⟩ := List.mem_iff_getElem.1 h
    refine ⟨j, List.mem_range.2 hj, List.mem_append.2 (.inl ?_)⟩
    rw [List.mem_iff_getElem?]
    exact ⟨0, by rw [List.getElem?_take_of_lt (by omega), List.getElem?_drop, Nat.add_zero, List.getElem?_eq_getElem hj]⟩
theorem toldY_len (m : List Rec) (i : Nat) (h : m.length ≤ 40) (hi : i ≤ 40) : (toldY m i).length ≤ i * 41 := by
  induction i with
  | zero => simp [toldY]
  | succ i ih =>
    rw [toldY_succ, List.length_append, List.length_append]
    have := ih (by omega)
    simp only [List.length_take, List.length_drop]
    omega
theorem any_takeR {p : Rec → Bool} {l : List Rec} {k : Nat} {x : Rec} (h : l[k]? = some x) : (l.take (k + 1)).any p = ((l.take k).any p || p x) := by
  rw [List.take_add_one, h, Option.toList_some, List.any_append]; simp
/-- Both have the same. -/
theorem order_same {bl : List Rng} {l m lx ly : List Rec} (h : m.Perm (ddR l)) (hx : UpOf (addsF bl [] (ddR l)).1 lx) (hy : UpOf (addsF bl [] (toldY m m.length)).1 ly) : lx = ly :=
  upof_same hx hy (gathered_same (ddR_all l).2 fun r => by rw [toldY_mem]; exact h.mem_iff.symm)

set_option maxHeartbeats 8000000 in
theorem wGatherOrder0 (W : World) (BA : Option Addr) (bn bc : Nat) (bl : List Rng) (A : Option Addr) (n cap : Nat) (l : List Rec) (TA : Option Addr) (tn tc : Nat) (ts : List Int) (hb : RngsAt W (· < W.heap.size) BA bn bc bl) (hl : recE.At W (· < W.heap.size) A n cap l) (ht : Ints W (· < W.heap.size) .i64 8 TA tn tc ts) :
    Calls Try.prog 3 #[.slice BA bn bc, .slice A n cap, .slice TA tn tc] W fun e W' => e = .returned (.bool true) ∧ Below W.heap.size W W' := by
  have HBL := Lib.hid hb; have HL := Lib.hid hl; have HT := Lib.hid ht; have HN := Lib.hid hl.1
  clear hb hl ht
  by_cases hb20 : 20 < bn
  · have hb20' : (20 : Int) < (bn : Int) := by omega
    go_enter Try.func3, Try.ntmps3
    go_wp2_with (go_at_call 15; (with_reducible refine (awake18 _).mono ?_); rintro e w' ⟨rfl, hg⟩)
    go_ret
    exact ⟨rfl, hg⟩
  · have hb20' : ¬ (20 : Int) < (bn : Int) := by omega
    cases hfew : fewR l with
    | false =>
      have HF := Lib.hid hfew
      clear hfew
      go_enter Try.func3, Try.ntmps3
      go_wp2_with (first
        | (go_at_call 14; ((with_reducible refine (few18 _ HL.out).mono ?_); rintro e w' ⟨rfl, rfl⟩; rw [HF.out]))
        | (go_at_call 15; (with_reducible refine (awake18 _).mono ?_); rintro e w' ⟨rfl, hg⟩))
      go_ret
      exact ⟨rfl, hg⟩
    | true =>
      have HF := Lib.hid hfew
      have hl40 := fewR_len hfew
      have hln : n ≤ 40 := by rw [← HN.out]; exact hl40
      clear hfew
      go_enter Try.func3, Try.ntmps3
      go_wp2_with (go_at_call 14; ((with_reducible refine (few18 _ HL.out).mono ?_); rintro e w' ⟨rfl, rfl⟩; rw [HF.out]))
      have S1 := Lib.hid ((Sta.start W).rowNil recE [5] (by simp) (by simp))
      go_loopw [7, 8] (fun s7 s8 wr => ∃ i : Nat, i ≤ n ∧ s8 = .int .i64 i ∧ Sta W [tRow recE [5] s7 (ddR (l.take i))] wr) (fun _ i _ => n - (intOf i).toNat)
      case atStart => exact ⟨0, by omega, rfl, S1.out⟩
      case round =>
        obtain ⟨i, hi, rfl, hs⟩ := hrel
        have HS := Lib.hid hs
        clear hs S1
        have hdl := (ddR_all (l.take i)).1
        have hti : (l.take i).length ≤ i := by simp; omega
        obtain ⟨AV, capV, rfl, v1, v2, v3⟩ := HS.out.shape (i := 0) rfl
        by_cases hlt : i < n
        · obtain ⟨e, he⟩ : ∃ e, l[i]? = some e := ⟨_, List.getElem?_eq_getElem (by rw [HN.out]; exact hlt)⟩
          have HDD := Lib.hid (show ddR (l.take (i + 1)) = ddRs (ddR (l.take i)) e by rw [List.take_add_one, he]; exact ddR_snoc _ _)
          generalize ddR (l.take i) = acc at *
          obtain ⟨bb, off, rfl, hbb, hcc⟩ := (recsAt HL.out).2.2.2.2 (by omega)
          obtain ⟨hok, s, m, cp, p0, p1, p2, hint⟩ := hcc i e he
          have HC := Lib.hid (fun (w : World) (hb : Below W.heap.size W w) => And.intro ((hb.cell (p := ⟨bb, off + i * 3, none⟩) hbb).trans p0) (And.intro ((hb.cell (p := ⟨bb, off + i * 3 + 1, none⟩) hbb).trans p1) ((hb.cell (p := ⟨bb, off + i * 3 + 2, none⟩) hbb).trans p2)))
          have HI := Lib.hid hint; have HOK := Lib.hid hok
          clear hcc hint hok hbb he p0 p1 p2
          go_wp2
          go_loopw [9, 10] (fun s9 s10 wq => ∃ k : Nat, k ≤ acc.length ∧ s10 = .int .i64 k ∧ s9 = .bool ((acc.take k).any (sameIV e)) ∧ Sta W [tRow recE [5] (.slice AV acc.length capV) acc] wq) (fun _ k _ => acc.length - (intOf k).toNat)
          case atStart => exact ⟨0, by omega, rfl, by simp, HS.out⟩
          case round =>
            obtain ⟨k, hk, rfl, rfl, hs⟩ := hrel
            have HQ := Lib.hid hs
            clear hs HS
            by_cases hlt2 : k < acc.length
            · obtain ⟨x, hx⟩ : ∃ x, acc[k]? = some x := ⟨_, List.getElem?_eq_getElem hlt2⟩
              have HAT := Lib.hid (any_takeR (p := sameIV e) hx)
              obtain ⟨d0, d1, d2⟩ := HC.out wr HQ.out.end
              obtain ⟨c, hrw⟩ := HQ.out.row (i := 0) rfl
              obtain ⟨g, rfl⟩ : ∃ g, AV = some ⟨g, 0, none⟩ := by
                cases AV with
                | none => have := (v3 rfl).1; omega
                | some ad =>
                  obtain ⟨A9, c9, h9, _, _, _, h98⟩ := hrw.shape
                  injection h9 with h9 _ _
                  obtain ⟨g, rfl, _⟩ := h98 ad h9.symm
                  exact ⟨g, rfl⟩
              obtain ⟨mx, hm, _, e0, e1⟩ := rec_named hrw hx
              have f0 := hm 0 _ rfl; have f1 := hm 1 _ rfl
              simp only [Nat.add_zero, e0, e1] at f0 f1
              clear hm e0 e1 hrw hx v3
              cases hag : (acc.take k).any (sameIV e) with
              | true =>
                have HV := Lib.hid (show ((acc.take k).any (sameIV e) || sameIV e x) = true by rw [hag]; rfl)
                clear hag
                go_upto_region 11 with fail
                go_quiet (fail)
                go_wp2
                go_roundw
                case rel => exact ⟨k + 1, by omega, by go_num, by rw [HAT.out, HV.out], HQ.out.later (by repeat (first | exact Below.refl _ _ | assumption | apply Below.drew | apply belowN | (refine Below.alloc ?_ (by first | exact Nat.le_refl _ | (simp; done) | (simp; omega)) _) | (refine Below.setCell ?_ (by first | exact Nat.le_refl _ | (simp; done) | (simp; omega)) _)))⟩
                case measure => simp [intOf]; omega
              | false =>
                by_cases hid : x.id = e.id
                · have b2 : (x.id == e.id) = true := by rw [beq_iff_eq]; exact hid
                  cases b3 : (x.ver == e.ver)
                  · have HV := Lib.hid (show ((acc.take k).any (sameIV e) || sameIV e x) = false by rw [hag]; unfold sameIV; rw [b2, b3]; rfl)
                    clear hag hid
                    go_upto_region 11 with fail
                    go_quiet (fail)
                    go_wp2
                    go_roundw
                    case rel => exact ⟨k + 1, by omega, by go_num, by rw [HAT.out, HV.out], HQ.out.later (by repeat (first | exact Below.refl _ _ | assumption | apply Below.drew | apply belowN | (refine Below.alloc ?_ (by first | exact Nat.le_refl _ | (simp; done) | (simp; omega)) _) | (refine Below.setCell ?_ (by first | exact Nat.le_refl _ | (simp; done) | (simp; omega)) _)))⟩
                    case measure => simp [intOf]; omega
                  · have HV := Lib.hid (show ((acc.take k).any (sameIV e) || sameIV e x) = true by rw [hag]; unfold sameIV; rw [b2, b3]; rfl)
                    clear hag hid
                    go_upto_region 11 with fail
                    go_quiet (fail)
                    go_wp2
                    go_roundw
                    case rel => exact ⟨k + 1, by omega, by go_num, by rw [HAT.out, HV.out], HQ.out.later (by repeat (first | exact Below.refl _ _ | assumption | apply Below.drew | apply belowN | (refine Below.alloc ?_ (by first | exact Nat.le_refl _ | (simp; done) | (simp; omega)) _) | (refine Below.setCell ?_ (by first | exact Nat.le_refl _ | (simp; done) | (simp; omega)) _)))⟩
                    case measure => simp [intOf]; omega
                · have b2 : (x.id == e.id) = false := by rw [beq_eq_false_iff_ne]; exact hid
                  have HV := Lib.hid (show ((acc.take k).any (sameIV e) || sameIV e x) = false by rw [hag]; unfold sameIV; rw [b2]; rfl)
                  clear hag hid
                  go_upto_region 11 with fail
                  go_quiet (fail)
                  go_wp2
                  go_roundw
                  case rel => exact ⟨k + 1, by omega, by go_num, by rw [HAT.out, HV.out], HQ.out.later (by repeat (first | exact Below.refl _ _ | assumption | apply Below.drew | apply belowN | (refine Below.alloc ?_ (by first | exact Nat.le_refl _ | (simp; done) | (simp; omega)) _) | (refine Below.setCell ?_ (by first | exact Nat.le_refl _ | (simp; done) | (simp; omega)) _)))⟩
                  case measure => simp [intOf]; omega
            · obtain rfl : k = acc.length := by omega
              have hT : acc.take acc.length = acc := List.take_length
              rw [hT]
              clear hT
              obtain ⟨d0, d1, d2⟩ := HC.out wr HQ.out.end
              cases hag : acc.any (sameIV e) with
              | true =>
                have HV := Lib.hid (show ddRs acc e = acc by unfold ddRs; rw [if_pos hag])
                clear hag
                go_wp2
                go_roundw
                case rel => exact ⟨i + 1, by omega, by go_num, by rw [HDD.out, HV.out]; exact HQ.out⟩
                case measure => simp [intOf]; omega
              | false =>
                have HV := Lib.hid (show ddRs acc e = acc ++ [e] by unfold ddRs; rw [if_neg (by rw [hag]; exact Bool.false_ne_true)])
                clear hag
                go_wp2_with (at_builtin; go_loud (refine Sta.wpList_push (E := recE) 0 rfl _ _ rfl _ rfl HQ.out rfl (by simp) rfl (fun c h => ⟨s, m, cp, rfl, HOK.out, HI.out.move h.first⟩) (by omega) ?_; intro B2 cap2 w2 st2))
                go_roundw
                case rel => exact ⟨i + 1, by omega, by go_num, by rw [HDD.out, HV.out]; exact st2⟩
                case measure => simp [intOf]; omega
        · obtain rfl : i = n := by omega
          have hall : l.take i = l := List.take_of_length_le (by rw [HN.out]; exact Nat.le_refl _)
          rw [hall] at HS hdl v1 v3 ⊢
          clear hti hall
          obtain ⟨sm, hsome⟩ : ∃ sm, ddR l = sm := ⟨_, rfl⟩
          rw [hsome] at HS hdl v1 v3 ⊢
          have HSM := Lib.hid hsome
          clear hsome
          have hs40 : sm.length ≤ 40 := by omega
          have S2 := Lib.hid ((HS.out.freeze (i := 0) (π := [5]) (E := recE) (l := sm) (ts' := [tAt recE AV sm.length capV sm]) rfl (by simp) rfl).rowNil recE [6] (by simp) (by simp [tAt]))
          clear HS
          go_wp2_with (at_builtin; go_loud (refine Sta.wpList_append (E := recE) 1 rfl _ _ rfl _ rfl S2.out rfl (by simp) AV sm.length capV rfl (fun c h => h.data (i := 0) rfl) (by simp; omega) ?_; intro B2 cap2 w2 st2))
          simp only [List.length_nil, Nat.zero_add, List.nil_append] at st2
          have S3 := Lib.hid (show Sta W [tAt recE AV sm.length capV sm, tRow recE [6] (.slice B2 sm.length cap2) sm] w2 from st2)
          obtain ⟨_, _, e9, c1, c2, c3⟩ := S3.out.shape (i := 1) rfl
          injection e9 with e1 _ e2
          subst e1 e2
          clear st2 S2 v1 v3
          go_loopw [12] (fun s12 wq => ∃ (j : Nat) (m : List Rec), j ≤ 60 ∧ s12 = .int .i64 j ∧ m.Perm sm ∧ Sta W [tAt recE AV sm.length capV sm, tRow recE [6] (.slice B2 sm.length cap2) m] wq) (fun k _ => 60 - (intOf k).toNat)
          case atStart => exact ⟨0, sm, by omega, rfl, List.Perm.refl _, S3.out⟩
          case round =>
            obtain ⟨j, m, hj, rfl, hpm, hs⟩ := hrel
            have HM := Lib.hid hs; have HPM := Lib.hid hpm
            have hml := hpm.length_eq
            clear hs hpm S3
            by_cases hc : j < tn ∧ j < 60 ∧ 0 < sm.length
            · obtain ⟨h1, h2, h3⟩ := hc
              obtain ⟨tb, toff, rfl, htb, htc⟩ := HT.out.2.2.2.2.2.2 (by omega)
              have tcell := (HM.out.end.cell (p := ⟨tb, toff + j, none⟩) htb).trans (htc j h1)
              clear htc htb
              generalize ts.getD j 0 = a at tcell
              obtain ⟨len, hlen⟩ : ∃ len, sm.length = len := ⟨_, rfl⟩
              have hmod := uint_mod a len (by omega) (by omega)
              obtain ⟨q, hq⟩ : ∃ q : Nat, a % 18446744073709551616 % (len : Int) = (q : Int) := ⟨(a % 18446744073709551616 % (len : Int)).toNat, by have := Int.emod_nonneg (a % 18446744073709551616) (show (len : Int) ≠ 0 by omega); omega⟩
              have hqk : q < len := by have := Int.emod_lt_of_pos (a % 18446744073709551616) (show (0 : Int) < len by omega); omega
              rw [hq] at hmod
              clear hq
              rw [hlen] at HM h3 hs40 hml c1 c3 ⊢
              have HLN := Lib.hid hlen
              clear hlen
              go_upto_region 19 with fail
              obtain ⟨pa, hpa⟩ : ∃ pa, j % len = pa := ⟨_, rfl⟩
              have hpl : pa < len := by rw [← hpa]; exact Nat.mod_lt _ h3
              have hwm : (j : Int).tmod (len : Int) = (pa : Int) := by rw [Int.tmod_eq_emod_of_nonneg (by omega), ← hpa]; rfl
              obtain ⟨ea, hea⟩ : ∃ x, m[pa]? = some x := ⟨_, List.getElem?_eq_getElem (by omega)⟩
              obtain ⟨eq, heq⟩ : ∃ x, m[q]? = some x := ⟨_, List.getElem?_eq_getElem (by omega)⟩
              obtain ⟨c, h0⟩ := HM.out
              have hrw : recE.Row c [6] wr (.slice B2 len cap2) m := h0.row (i := 1) rfl
              obtain ⟨g, rfl⟩ : ∃ g, B2 = some ⟨g, 0, none⟩ := by
                cases B2 with
                | none => have := (c3 rfl).1; omega
                | some ad =>
                  obtain ⟨A9, c9, h9, _, _, _, h98⟩ := hrw.shape
                  injection h9 with h9 _ _
                  obtain ⟨g, rfl, _⟩ := h98 ad h9.symm
                  exact ⟨g, rfl⟩
              obtain ⟨ma, hma, hmae, y1, y2⟩ := rec_named hrw hea
              obtain ⟨mq, hmq, hmqe, y3, y4⟩ := rec_named hrw heq
              clear y1 y2 y3 y4
              have d0 := hma 0 _ rfl; have d1 := hma 1 _ rfl; have d2 := hma 2 _ rfl
              have f0 := hmq 0 _ rfl; have f1 := hmq 1 _ rfl; have f2 := hmq 2 _ rfl
              simp only [Nat.add_zero] at d0 f0
              obtain ⟨cur, hbox, hcsz, hcs, _⟩ := hrw.cur
              have hcs3 : len * 3 ≤ cur.size := by rw [← hml]; exact hcs
              have fr := hbox.box.free
              obtain ⟨umq0, kmq0⟩ := box_some3 (hbox.box.set (i := pa * 3) (.int .u64 mq.id)) (q * 3) (by simp; omega)
              obtain ⟨umq1, kmq1⟩ := box_some3 ((hbox.box.set (i := pa * 3) (.int .u64 mq.id)).set (i := pa * 3 + 1) (.int .u64 mq.ver)) (q * 3 + 1) (by simp; omega)
              obtain ⟨umq2, kmq2⟩ := box_some3 (((hbox.box.set (i := pa * 3) (.int .u64 mq.id)).set (i := pa * 3 + 1) (.int .u64 mq.ver)).set (i := pa * 3 + 2) (.slice mq.s mq.l mq.c)) (q * 3 + 2) (by simp; omega)
              have H0 := Lib.hid h0; have HR := Lib.hid hrw; have HEA' := Lib.hid hmae; have HEQ' := Lib.hid hmqe; have HB := Lib.hid hbox
              have HEA := Lib.hid hea; have HEQ := Lib.hid heq
              rw [hmod]
              have hne : ¬ len = 0 := by omega
              have SW := Lib.hid (rec_swap hrw h0.fresh (by simp) hea heq hmae hmqe hbox (by omega) ((hbox.put3 pa mq).put3 q ma) (((Only.refl (· = g) wr).put3 rfl pa mq).put3 rfl q ma))
              have HPM2 := Lib.hid ((swap_perm' hea heq).trans HPM.out)
              clear hma hmq hmae hmqe h0 hrw hbox hea heq hpa tcell hmod hcs hcsz
              go_region
              go_wp2
              go_roundw
              case rel => exact ⟨j + 1, (m.set pa eq).set q ea, by omega, by go_num, HPM2.out, Sta.later (Sta.turn H0.out (i := 1) (t' := tRow recE [6] (.slice (some ⟨g, 0, none⟩) len cap2) ((m.set pa eq).set q ea)) rfl (by simp [tRow]) rfl SW.out.1 SW.out.2 rfl) (Same.drew _).1⟩
              case measure => simp [intOf]; omega
            · have S4 := Lib.hid (HM.out.freeze (i := 1) (π := [6]) (E := recE) (l := m) (ts' := [tAt recE AV sm.length capV sm, tAt recE B2 sm.length cap2 m]) rfl (by simp) rfl)
              obtain ⟨⟨Lx, kx⟩, hja⟩ : ∃ p, addsF bl [] sm = p := ⟨_, rfl⟩
              have JA := Lib.hid hja
              have hLx : Lx.length ≤ 40 := by have := (addsF_len bl [] sm).1; rw [hja] at this; simp at this; omega
              clear hja HM
              have hcc : (¬ j < tn) ∨ (j < tn ∧ ¬ j < 60) ∨ (j < tn ∧ j < 60 ∧ ¬ 0 < sm.length) := by omega
              clear hc
              rcases hcc with h1 | ⟨h1, h2⟩ | ⟨h1, h2, h3⟩
              all_goals
                go_upto_region 22 with (first
                  | (go_at_call 16; go_loud (refine (ga_new (bl := bl) [1] S4.out (by simp) (by simp [tAt]) (fun c h => HBL.out.move h.first)).mono ?_; rintro e w3 ⟨gx, rfl, hs, _⟩; have S5 := Lib.hid hs; clear hs S4))
                  | (go_at_call 16; go_loud (refine (ga_new (bl := bl) [2] S5.out (by simp) (by simp [tAt, tGath]) (fun c h => HBL.out.move h.first)).mono ?_; rintro e w4 ⟨gy, rfl, hs, _⟩; have S6 := Lib.hid hs; clear hs S5))
                  | (go_at_call 17; go_loud (refine (ga_add (k := kx) (L' := Lx) (l := sm) (ts' := [tAt recE AV sm.length capV sm, tAt recE B2 sm.length cap2 m, tGath [1] gx bl Lx, tGath [2] gy bl []]) 2 S6.out rfl (by simp) (by simp) (by omega) (fun c h => h.data (i := 0) rfl) JA.out rfl).mono ?_; rintro e w5 ⟨rfl, hs, _⟩; have S7 := Lib.hid hs; clear hs S6)))
                try clear h3
                go_wp2
                go_loopw [16] (fun s16 wq => ∃ u : Nat, u ≤ sm.length ∧ s16 = .int .i64 u ∧ Sta W [tAt recE AV sm.length capV sm, tAt recE B2 sm.length cap2 m, tGath [1] gx bl Lx, tGath [2] gy bl (addsF bl [] (toldY m u)).1] wq) (fun u _ => sm.length - (intOf u).toNat)
                case atStart => exact ⟨0, by omega, rfl, S7.out⟩
                case round =>
                  obtain ⟨u, hu, rfl, hs⟩ := hrel
                  have S8 := Lib.hid hs
                  clear hs S7
                  by_cases hlt : u < sm.length
                  · have htl := toldY_len m u (by omega) (by omega)
                    have hml2 : (addsF bl [] (toldY m u)).1.length ≤ (toldY m u).length := by have := (addsF_len bl [] (toldY m u)).1; simpa using this
                    have HTS := Lib.hid (toldY_succ m u)
                    obtain ⟨L1, hL1⟩ : ∃ L1, (addsF bl [] (toldY m u)).1 = L1 := ⟨_, rfl⟩
                    have HL1 := Lib.hid hL1
                    rw [hL1] at S8 hml2
                    obtain ⟨⟨L2, k2⟩, hL2⟩ : ∃ p, addsF bl L1 ((m.drop u).take 1) = p := ⟨_, rfl⟩
                    obtain ⟨⟨L3, k3⟩, hL3⟩ : ∃ p, addsF bl L2 (m.take u) = p := ⟨_, rfl⟩
                    have HL2 := Lib.hid hL2; have HL3 := Lib.hid hL3
                    have hl2 : L2.length ≤ L1.length + 1 := by
                      have := (addsF_len bl L1 ((m.drop u).take 1)).1
                      rw [hL2] at this; simp at this; omega
                    obtain ⟨g, off, rfl⟩ : ∃ g off, B2 = some ⟨g, off, none⟩ := by
                      obtain ⟨c, h⟩ := S8.out
                      obtain ⟨g, off, e, _⟩ := (h.data (i := 1) rfl).2.2.2.2 (by omega)
                      exact ⟨g, off, e⟩
                    clear hL1 hL2 hL3
                    have hL13 : (addsF bl [] (toldY m (u + 1))).1 = L3 := by
                      rw [HTS.out, ← addsF_two, HL1.out, ← addsF_two, HL2.out, HL3.out]
                    have HL13 := Lib.hid hL13
                    clear hL13
                    have hPA : ∀ (w : World) (c : Col), recE.At w (Quiet c w) (some ⟨g, off, none⟩) sm.length cap2 m → recE.At w (Quiet c w) (some ⟨g, off + u * 3, none⟩) 1 (cap2 - u) ((m.drop u).take 1) := fun w c h => h.part u 1 (cap2 - u) (by omega) (by omega) (by omega)
                    have hPB : ∀ (w : World) (c : Col), recE.At w (Quiet c w) (some ⟨g, off, none⟩) sm.length cap2 m → recE.At w (Quiet c w) (some ⟨g, off, none⟩) u cap2 (m.take u) := fun w c h => h.head (by omega) (by omega) (by omega) (fun h => by cases h)
                    have HPA := Lib.hid hPA; have HPB := Lib.hid hPB
                    clear hPA hPB
                    go_wp2_with (first
                      | (go_at_call 17; go_loud (refine (ga_add (k := k2) (L' := L2) (l := (m.drop u).take 1) (ts' := [tAt recE AV sm.length capV sm, tAt recE (some ⟨g, off, none⟩) sm.length cap2 m, tGath [1] gx bl Lx, tGath [2] gy bl L2]) 3 S8.out rfl (by simp) (by omega) (by omega) (fun c h => HPA.out _ _ (h.data (i := 1) rfl)) HL2.out rfl).mono ?_; rintro e w6 ⟨rfl, hs, _⟩; have S9 := Lib.hid hs; clear hs S8))
                      | (go_at_call 17; go_loud (refine (ga_add (k := k3) (L' := L3) (l := m.take u) (ts' := [tAt recE AV sm.length capV sm, tAt recE (some ⟨g, off, none⟩) sm.length cap2 m, tGath [1] gx bl Lx, tGath [2] gy bl L3]) 3 S9.out rfl (by simp) (by omega) (by omega) (fun c h => HPB.out _ _ (h.data (i := 1) rfl)) HL3.out rfl).mono ?_; rintro e w7 ⟨rfl, hs, _⟩; have S10 := Lib.hid hs; clear hs S9)))
                    go_roundw
                    case rel => exact ⟨u + 1, by omega, by go_num, by rw [HL13.out]; exact S10.out⟩
                    case measure => simp [intOf]; omega
                  · obtain rfl : u = m.length := by omega
                    have htl := toldY_len m m.length (by omega) (by omega)
                    have hml2 : (addsF bl [] (toldY m m.length)).1.length ≤ (toldY m m.length).length := by have := (addsF_len bl [] (toldY m m.length)).1; simpa using this
                    have HOS := Lib.hid (fun (lx ly : List Rec) => order_same (bl := bl) (l := l) (m := m) (lx := lx) (ly := ly) (by rw [HSM.out]; exact HPM.out))
                    rw [HSM.out, JA.out] at HOS
                    obtain ⟨Ly, hLy⟩ : ∃ Ly, (addsF bl [] (toldY m m.length)).1 = Ly := ⟨_, rfl⟩
                    rw [hLy] at S8 HOS hml2
                    clear hLy
                    go_wp2_with (first
                      | (go_at_call 15; (with_reducible refine (awake18 _).mono ?_); rintro e w7 ⟨rfl, hb⟩; have S9 := Lib.hid (S8.out.later hb); clear hb S8)
                      | (go_at_call 19; go_loud (refine (ga_all 2 S9.out rfl (by omega)).mono ?_; rintro e w8 ⟨A7, cap7, l7, rfl, hu7, hs, _⟩; have S10 := Lib.hid hs; have HU7 := Lib.hid hu7; clear hs hu7 S9))
                      | (go_at_call 19; go_loud (refine (ga_all 3 S10.out rfl (by omega)).mono ?_; rintro e w9 ⟨A8, cap8, l8, rfl, hu8, hs, _⟩; have S11 := Lib.hid hs; have HEQ := Lib.hid (HOS.out _ _ HU7.out hu8); clear hs hu8 S10))
                      | (go_at_call 18; go_loud (refine (sta_same (bo := true) 4 5 S11.out rfl rfl (decide_eq_true HEQ.out)).mono ?_; rintro e w10 ⟨rfl, hb⟩; have S12 := Lib.hid (S11.out.later hb); clear hb S11)))
                    go_ret
                    exact ⟨rfl, S12.out.end⟩

theorem wGatherOrder (W : World) (vs : List Value) (h : Sh.Args W (· < W.heap.size) [((.sl (.st (.pair (.int .i64) (.pair (.int .u32) (.pair (.int .u32) .unit)))) 16), 22), ((.sl (.st (.pair (.int .u64) (.pair (.int .u64) (.pair (.sl (.int .u32) 4) .unit)))) 40), 23), ((.sl (.int .i64) 8), 24)] vs) :
    Calls Try.prog 3 vs.toArray W fun e W' => e = .returned (.bool true) ∧ Below W.heap.size W W' := by
  obtain ⟨v0, _, rfl, ⟨a, ha⟩, v1, _, rfl, ⟨b, hb⟩, v2, _, rfl, ⟨d, hd⟩, rfl⟩ := h
  obtain ⟨BA, bn, bc, bl, rfl, hbl⟩ := rngs_open ha
  obtain ⟨A, n, cap, l, rfl, hn, hl⟩ := recs_open hb
  obtain ⟨ts, TA, tn, tc, rfl, hi⟩ := ints_open hd
  exact wGatherOrder0 W BA bn bc bl A n cap l TA tn tc ts hbl hl hi
end Go.Proofs.Ytpkeddiaoacfeaa
