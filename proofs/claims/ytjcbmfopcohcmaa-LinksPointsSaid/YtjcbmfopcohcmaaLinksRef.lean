/- The document's links of a point. Conditions: the ring is one, the dice are a block of one number. -/
import Derived.Test.YtjcbmfopcohcmaaRefAdd
import Derived.Test.YtjcbmfopcohcmaaLinksPlain
namespace Go.Proofs.Ytjcbmfopcohcmaa
open Go.RowKit
set_option maxRecDepth 100000
set_option linter.unusedVariables false
set_option linter.unusedSimpArgs false

/-- A ring that lies apart from the blocks of S. -/
def RgAt (S : Nat → Prop) (w : World) (rb : Nat) (l : List Int) : Prop :=
  ∃ (A : Option Addr) (cap : Nat), Box w rb #[.slice A l.length cap] ∧ ¬ S rb ∧ Ints w (fun b => ¬ S b ∧ b < w.heap.size) .u32 4 A l.length cap l ∧ PtsOk l ∧ l.length ≤ 64
theorem RgAt.only {S : Nat → Prop} {w w' : World} {rb : Nat} {l : List Int} (h : RgAt S w rb l) (ho : Only S w w') : RgAt S w' rb l := by
  obtain ⟨A, cap, hb, hn, hi, hk, hl⟩ := h
  exact ⟨A, cap, hb.only ho hn, hn, hi.move fun b hb hlt => ⟨ho.block b hlt hb.1, hb.1, Nat.lt_of_lt_of_le hlt ho.size⟩, hk, hl⟩
theorem RgAt.later {S : Nat → Prop} {w w' : World} {rb : Nat} {l : List Int} (h : RgAt S w rb l) (ho : Below w.heap.size w w') : RgAt S w' rb l := h.only (Only.of_below ho)
theorem RingT.at {S : Nat → Prop} {T : Nat} {c : Col} {π : List Int} {w : World} {rb : Nat} {l : List Int} (h : RingT T c π w rb l) (hS : ∀ b, S b → c b ≠ π) : RgAt S w rb l := by
  obtain ⟨A, cap, hb, h1, h2, h3, hk, hl⟩ := h
  obtain ⟨A', cap', he, hi⟩ := ints_of_row h2 (by omega) (fun x hx => u32_wf (hk.u32 x hx))
  injection he with e1 _ e2
  subst e1 e2
  refine ⟨A, cap, hb.box, fun hs => hS _ hs h1, ?_, hk, hl⟩
  obtain ⟨i1, i2, i3, i4, i5, i6, i7⟩ := hi
  refine ⟨i1, i2, i3, i4, i5, i6, fun hn => ?_⟩
  obtain ⟨b, off, e, hd, hc⟩ := i7 hn
  exact ⟨b, off, e, ⟨fun hs => hS _ hs (h3 b (by rw [e]; rfl)), hd.2⟩, hc⟩
theorem RgAt.ok {S : Nat → Prop} {w : World} {rb : Nat} {l : List Int} (h : RgAt S w rb l) : PtsOk l ∧ l.length ≤ 64 := by obtain ⟨_, _, _, _, _, q⟩ := h; exact q

theorem rown_at {S : Nat → Prop} {rb : Nat} {l : List Int} (v : Int) (w : World) (h : RgAt S w rb l) (hn : 0 < l.length) :
    Calls Try.prog 72 #[.pointer (some ⟨rb, 0, none⟩), .int .u32 v] w fun e w' => e = .returned (.tuple #[.int .u32 (ptF l v), .bool true]) ∧ Below w.heap.size w w' := by
  obtain ⟨A, cap, hb, _, hi, hk, _⟩ := h
  exact rref_owner1 v w hb hi hk.le hn
set_option maxHeartbeats 1000000 in
theorem rnext_at {S : Nat → Prop} {rb : Nat} {l : List Int} (p : Int) (w : World) (h : RgAt S w rb l) (hn : 0 < l.length) :
    Calls Try.prog 35 #[.pointer (some ⟨rb, 0, none⟩), .int .u32 p] w fun e w' => e = .returned (.tuple #[.int .u32 (ptF l ((p + 1) % 4294967296)), .bool true]) ∧ Below w.heap.size w w' := by
  have H := Lib.hid h
  clear h
  go_enter Try.func35, Try.ntmps35
  go_wp2_with (go_at_call 72; go_loud ((with_reducible refine (rown_at _ _ H.out hn).mono ?_); rintro e w' ⟨rfl, hb⟩))
  go_ret2
  exact ⟨rfl, hb⟩

/-- How many links are asked for. -/
def cntF (n : Int) : Nat := (min (max n 0) 6).toNat
theorem cntF_le (n : Int) : cntF n ≤ 6 := by unfold cntF; omega
/-- What the links of a point are, and how the dice stand behind it. -/
def LinksAns (l : List Int) (p n s : Int) (x : List Int) (s' : Int) : Prop :=
  if p ∈ l then Rises p (linkQ l p (ptF l ((p + 1) % 4294967296)) s (cntF n)) x ∧ s' = diceAt s (cntF n) else x = [] ∧ s' = s
/-- Where the document's links stand. -/
def Linking (w : World) (db : Nat) (l : List Int) (p nx s : Int) (i : Nat) (x : List Int) (v : Value) (wr : World) : Prop :=
  ∃ A cap, v = .slice A x.length cap ∧ wr.ownsRow w.heap.size 22 1 v x.length (x.map (Value.int .u32)) ∧ x.length ≤ i ∧ Rises p (linkQ l p nx s i) x ∧ Only (· = db) w wr ∧ Box wr db #[.int .u64 (diceAt s i)]

set_option maxHeartbeats 40000000 in
theorem rlinks {w : World} {rb db : Nat} {l : List Int} {p n s : Int} (h : RgAt (· = db) w rb l) (hd : Box w db #[.int .u64 s]) (h0 : 0 ≤ s) (h1 : s < 18446744073709551616) (hp : U32 p) :
    Calls Try.prog 29 #[.pointer (some ⟨rb, 0, none⟩), .int .u32 p, .int .i64 n, .pointer (some ⟨db, 0, none⟩)] w fun e w' =>
      ∃ A cap x s', e = .returned (.slice A x.length cap) ∧ LinksAns l p n s x s' ∧ Ints w' (fun b => w.heap.size ≤ b ∧ b < w'.heap.size) .u32 4 A x.length cap x ∧ Only (· = db) w w' ∧ Box w' db #[.int .u64 s'] := by
  have HH := Lib.hid h; have HD := Lib.hid hd; have HP := Lib.hid hp
  obtain ⟨A, cap, hb, _, hi, hk, hl⟩ := h
  have hc := hb.cell; have hz := hb.lt
  have HI := Lib.hid hi
  have hk : PtsOk l := hk
  clear hb hi hd hp
  obtain ⟨m, hm⟩ : ∃ m, m = l.length := ⟨_, rfl⟩
  rw [← hm] at hc
  have hI := HI.out
  rw [← hm] at hI
  have HI := Lib.hid hI
  have HM := Lib.hid hm
  clear hI hm
  by_cases hin : p ∈ l
  · have HIN := Lib.hid (show decide (p ∈ l) = true from decide_eq_true hin)
    have hn0 : 0 < l.length := List.length_pos_of_mem hin
    have HN0 := Lib.hid hn0
    have HMEM := Lib.hid hin
    obtain ⟨nx, hnx⟩ : ∃ nx, ptF l ((p + 1) % 4294967296) = nx := ⟨_, rfl⟩
    have HNX := Lib.hid hnx
    have hN := cntF_le n
    have HPTS := Lib.hid hk
    have hN2 : (min n 6 : Int) ≤ (cntF n : Int) := by unfold cntF; omega
    clear hin hn0 hnx
    go_enter Try.func29, Try.ntmps29
    go_wp2_with (first
      | (go_at_call 36; go_loud ((with_reducible refine (in_u32 p _ HI.out).mono ?_); rintro e w' ⟨rfl, rfl⟩; rw [HIN.out]))
      | (go_at_call 35; go_loud ((with_reducible refine (rnext_at p _ HH.out HN0.out).mono ?_); rintro e w' ⟨rfl, hb1⟩; rw [HNX.out]; have HB1 := Lib.hid hb1; clear hb1)))
    go_loopw [11, 12] (fun s11 s12 wr => ∃ (i : Nat) (x : List Int), i ≤ cntF n ∧ s12 = .int .i64 i ∧ Linking w db l p nx s i x s11 wr) (fun _ k _ => cntF n - (intOf k).toNat)
    case atStart => exact ⟨0, [], Nat.zero_le _, rfl, none, 0, rfl, ⟨rfl, .inl ⟨rfl, rfl⟩⟩, Nat.le_refl _, Rises.nil p, Only.of_below HB1.out, HD.out.below HB1.out HD.out.lt⟩
    case round =>
      obtain ⟨i, x, hi, rfl, hL⟩ := hrel
      have HL := Lib.hid hL
      obtain ⟨Ax, cx, rfl, hown, hxi, hris, hon, hbx⟩ := hL
      have HOWN := Lib.hid hown; have HRIS := Lib.hid hris; have HON := Lib.hid hon; have HBX := Lib.hid hbx
      have hbd := diceAt_bound h0 h1 i
      have HRG := Lib.hid (HH.out.only hon)
      clear hown hris hon hbx
      by_cases hlt : i < cntF n
      · have hdt : decide ((i : Int) < min n 6) = true := by simp only [decide_eq_true_eq]; unfold cntF at hlt; omega
        obtain ⟨q, hq⟩ : ∃ q, rollP l p s i = q := ⟨_, rfl⟩
        have HQ := Lib.hid hq
        have HROLL := Lib.hid (show ptF l ((p + leapF (diceAt s i)) % 4294967296) = q from hq)
        have HQU := Lib.hid (show U32 q by rw [← hq]; exact hk.u32 _ (ptF_mem HN0.out _))
        have hdn : diceAt s (i + 1) = stepF (stepF (diceAt s i)) := rfl
        have HDN := Lib.hid hdn
        clear hq hdn
        go_upto_region 9 with (first
          | (go_at_call 32; go_loud ((with_reducible refine (rleap_any db (diceAt s i) _ HBX.out hbd.1 hbd.2).mono ?_); rintro e w1 ⟨rfl, ho1, hx1⟩; have HO1 := Lib.hid ho1; have HX1 := Lib.hid hx1; clear ho1 hx1))
          | (go_at_call 72; go_loud ((with_reducible refine (rown_at _ _ (HRG.out.only HO1.out) HN0.out).mono ?_); rintro e w2 ⟨rfl, hb2⟩; rw [HROLL.out]; have HB2 := Lib.hid hb2; clear hb2)))
        have HON2 := Lib.hid (show Only (· = db) w w2 from (HON.out.trans HO1.out).trans (Only.of_below HB2.out))
        have HX2 := Lib.hid (show Box w2 db #[.int .u64 (diceAt s (i + 1))] by rw [HDN.out]; exact HX1.out.below HB2.out HX1.out.lt)
        have hne : ∀ g, (Value.slice Ax x.length cx).ownBlock = some g → ¬ g = db := by
          intro g hg he
          subst he
          rcases HOWN.out.2 with ⟨e0, _⟩ | ⟨g', cap', cur, e0, hb, _⟩
          · rw [e0] at hg; cases hg
          · rw [e0] at hg
            injection hg with hg
            have hgb : g' = g := hg
            have := HD.out.lt
            omega
        have HOWN2 := Lib.hid (ownsRow_only (ownsRow_only HOWN.out HO1.out hne) (Only.of_below (S := fun _ => False) HB2.out) (fun _ _ h => h))
        have HIX := Lib.hid (show Ints w2 (fun b => w.heap.size ≤ b ∧ b < w2.heap.size) .u32 4 Ax x.length cx x by
          obtain ⟨A', cap', he, hi⟩ := ints_of_row HOWN2.out (by omega) (fun y hy => u32_wf (by
            have := (HRIS.out.mem y).1 hy
            exact hk.u32 y (linkQ_mem HN0.out this).1))
          injection he with e1 _ e2
          subst e1 e2
          exact hi)
        have KEEP := Lib.hid (show ∀ y, Rises p (linkQ l p nx s (i + 1)) y → y = x → Linking w db l p nx s (i + 1) y (.slice Ax x.length cx) w2 from fun y hr he => by
          subst he
          exact ⟨Ax, cx, rfl, HOWN2.out, by omega, hr, HON2.out, HX2.out⟩)
        cases hqp : (q == p) with
        | true =>
          have HK := Lib.hid (KEEP.out x (by
            have e : linkQ l p nx s (i + 1) = linkQ l p nx s i := by
              show linkQ l p nx s i ++ _ = _
              rw [HQ.out, if_pos (.inl (by simpa using hqp)), List.append_nil]
            rw [e]; exact HRIS.out) rfl)
          go_wp2
          go_roundw
          case rel => exact ⟨i + 1, x, by omega, by go_num, HK.out⟩
          case measure => simp [intOf]; omega
        | false =>
          cases hqn : (q == nx) with
          | true =>
            have HK := Lib.hid (KEEP.out x (by
              have e : linkQ l p nx s (i + 1) = linkQ l p nx s i := by
                show linkQ l p nx s i ++ _ = _
                rw [HQ.out, if_pos (.inr (by simpa using hqn)), List.append_nil]
              rw [e]; exact HRIS.out) rfl)
            go_wp2
            go_roundw
            case rel => exact ⟨i + 1, x, by omega, by go_num, HK.out⟩
            case measure => simp [intOf]; omega
          | false =>
            have HE := Lib.hid (show linkQ l p nx s (i + 1) = linkQ l p nx s i ++ [q] by
              show linkQ l p nx s i ++ _ = _
              rw [HQ.out, if_neg (by simp at hqp hqn; exact fun h => h.elim hqp hqn)])
            by_cases hqx : q ∈ x
            · have HQX := Lib.hid (show decide (q ∈ x) = true from decide_eq_true hqx)
              have HK := Lib.hid (KEEP.out x (by rw [HE.out]; exact HRIS.out.again hqx) rfl)
              clear hqx
              go_wp2_with (go_at_call 36; go_loud ((with_reducible refine (in_u32 q _ HIX.out).mono ?_); rintro e w' ⟨rfl, rfl⟩; rw [HQX.out]))
              go_roundw
              case rel => exact ⟨i + 1, x, by omega, by go_num, HK.out⟩
              case measure => simp [intOf]; omega
            · have HQX := Lib.hid (show decide (q ∈ x) = false from decide_eq_false hqx)
              have HNX2 := Lib.hid hqx
              clear hqx
              go_upto_block 2 with (go_at_call 36; go_loud ((with_reducible refine (in_u32 q _ HIX.out).mono ?_); rintro e w' ⟨rfl, rfl⟩; rw [HQX.out]))
              have hxc : x.length ≤ cx := HIX.out.2.1
              have hxcm : cx ≤ 9223372036854775807 := HIX.out.2.2.1
              have HAN := Lib.hid (show Ax = none → x.length = 0 ∧ cx = 0 from fun h => by have h2 := HIX.out.2.2.2.2.1 h; omega)
              have HA := Lib.hid (show 0 < x.length → ∃ ob oo, Ax = some ⟨ob, oo, none⟩ ∧ ∀ j, j < x.length → w2.cell? ⟨ob, oo + j, none⟩ = some (.int .u32 (x.getD j 0)) from fun h => by
                obtain ⟨ob, oo, e, _, hc⟩ := HIX.out.2.2.2.2.2.2 h
                exact ⟨ob, oo, e, hc⟩)
              have HWB := Lib.hid (wayF_bound p)
              go_cut [15] from 59 to 75 (fun s15 wx => ∃ k : Nat, k ≤ x.length ∧ s15 = .int .i64 k ∧ Rises p (linkQ l p nx s (i + 1)) (x.take k ++ [q] ++ x.drop k) ∧ w2 = wx)
              case first =>
                go_wp2_with fail
                go_loopw [15] (fun s15 wq => ∃ k : Nat, k ≤ x.length ∧ s15 = .int .i64 k ∧ (∀ j z, k ≤ j → x[j]? = some z → wayF p q < wayF p z) ∧ wq = w2) (fun k _ => (intOf k).toNat)
                case atStart => exact ⟨x.length, Nat.le_refl _, rfl, fun j z hj hz => by have := (List.getElem?_eq_some_iff.1 hz).1; omega, rfl⟩
                case round =>
                  obtain ⟨k, hk, rfl, hafter, rfl⟩ := hrel
                  have HAF := Lib.hid hafter
                  clear hafter
                  have HEND : Hid ((∀ z, 0 < k → x[k - 1]? = some z → wayF p z ≤ wayF p q) → Rises p (linkQ l p nx s (i + 1)) (x.take k ++ [q] ++ x.drop k)) := fun h => by
                    rw [HE.out]
                    exact HRIS.out.put (fun z hz => HPTS.out.u32 z (linkQ_mem HN0.out ((HRIS.out.mem z).1 hz)).1) HQU.out HNX2.out hk HAF.out h
                  by_cases hk0 : k = 0
                  · have hpos := Lib.hid (HEND.out (fun z h _ => by omega))
                    have g1 : decide (0 < (k : Int)) = false := by simp; omega
                    have g2 : decide (0 < k) = false := by simp; omega
                    clear hk0
                    go_wp2_with fail
                    go_meet
                    exact ⟨k, hk, rfl, hpos.out, rfl⟩
                  · obtain ⟨t, rfl⟩ : ∃ t, k = t + 1 := ⟨k - 1, by omega⟩
                    obtain ⟨ob, oo, rfl, hcc⟩ := HA.out (by omega)
                    have hcq := hcc t (by omega)
                    obtain ⟨y, hy⟩ : ∃ y, x.getD t 0 = y := ⟨_, rfl⟩
                    have HY := Lib.hid (show x[t]? = some y by
                      rw [List.getD_eq_getElem?_getD, List.getElem?_eq_getElem (by omega)] at hy
                      rw [List.getElem?_eq_getElem (by omega)]
                      exact congrArg some hy)
                    rw [hy] at hcq
                    have g1 : decide (0 < (t : Int) + 1) = true := by simp only [decide_eq_true_eq]; omega
                    have w5 := wrap_nat64 (k := t) (by omega)
                    have w6 : (t : Int) < (x.length : Int) := by omega
                    clear hcc hy hk0
                    have hwy : (y - p) % 4294967296 = wayF p y := rfl
                    have hwq : (q - p) % 4294967296 = wayF p q := rfl
                    have HWY := Lib.hid hwy; have HWQ := Lib.hid hwq
                    by_cases hpy : (q - p) % 4294967296 < (y - p) % 4294967296
                    · have HNXT := Lib.hid (show ∀ j z, t ≤ j → x[j]? = some z → wayF p q < wayF p z from fun j z hj hz => by
                        by_cases hjq : j = t
                        · subst hjq; rw [HY.out] at hz; injection hz with hz; rw [← hz]; exact hpy
                        · exact HAF.out j z (by omega) hz)
                      clear hwy hwq
                      go_wp2_with fail
                      go_roundw
                      case rel => exact ⟨t, by omega, by go_num, HNXT.out, by first | rfl | trivial⟩
                      case measure => simp [intOf]
                    · have hpos := Lib.hid (HEND.out (fun z _ hz => by
                        rw [Nat.add_sub_cancel, HY.out] at hz
                        injection hz with hz
                        rw [← hz]
                        exact Int.not_lt.1 hpy))
                      clear hwy hwq
                      go_wp2_with fail
                      go_meet
                      exact ⟨t + 1, hk, by go_num, hpos.out, rfl⟩
              case rest =>
                obtain ⟨k, hk, rfl, hris2, rfl⟩ := hcut
                have HRIS2 := Lib.hid hris2
                have hk2 : k ≤ cx := by omega
                obtain ⟨hp1, A3, hA3, hn3, hp3⟩ := part_of (k := k) (cap := cx) (A := Ax) (w := w2) (l := x) rfl hk hxc HAN.out HA.out
                obtain ⟨i0, hi0, hz0, hz1, hz2⟩ := run_u32_info
                have HI0 := Lib.hid hi0; have HZ0 := Lib.hid hz0; have HZ1 := Lib.hid hz1; have HZ2 := Lib.hid hz2; have HP1 := Lib.hid hp1; have HP3 := Lib.hid hp3; have HN3 := Lib.hid hn3
                have HLT := Lib.hid (show ((x.take k).map (Value.int .u32)).length = k * 1 by simp; omega)
                have HLD := Lib.hid (show ((x.drop k).map (Value.int .u32)).length = (x.length - k) * 1 by simp)
                have HA0 : Hid (Ax = none → k = 0 ∧ cx = 0) := (fun h => by have := HAN.out h; omega)
                have hx6 : x.length ≤ 6 := by omega
                have HC1 := Lib.hid (show k ≤ maxLen by unfold maxLen; omega)
                have HC2 := Lib.hid (show k * 4 ≤ 140737488355328 by omega)
                have HC3 := Lib.hid (show k + 1 ≤ maxLen by unfold maxLen; omega)
                have HC4 := Lib.hid (show (k + 1) * 4 ≤ 140737488355328 by omega)
                have HC5 := Lib.hid (show k + 1 + (x.length - k) ≤ maxLen by unfold maxLen; omega)
                have HC6 := Lib.hid (show (k + 1 + (x.length - k)) * 4 ≤ 140737488355328 by omega)
                clear hi0 hz0 hz1 hz2 hp1 hp3 hn3 hris2 hne hc
                go_upto_region 13 with fail
                go_region_law (first
                  | (refine step_append_nil0 w2.drew rfl _ _ 32 rfl w2.heap.size 22 i0 (.int .u32 0) 1 4 Try.underlying32 HI0.out HZ0.out HZ1.out HZ2.out rfl (by decide) rfl _ k _ ((x.take k).map (Value.int .u32)) rfl HLT.out HA0.out (cells_keep HP1.out (Below.refl _ _).drew) (u32_one _) HC1.out HC2.out (Nat.le_refl _) ?_; intro B5 cap5 ww er5 be5; have SC := Lib.hid (show Below w2.heap.size w2 ww from (Below.refl _ _).drew.trans be5); have ER := Lib.hid er5; have z5 := SC.out.size; clear er5 be5)
                  | (refine step_append_nil0 (w2.drew.alloc (.cells #[.int .u32 q] 22)) rfl _ _ 32 rfl w2.heap.size 22 i0 (.int .u32 0) 1 4 Try.underlying32 HI0.out HZ0.out HZ1.out HZ2.out rfl (by decide) rfl _ k _ ((x.take k).map (Value.int .u32)) rfl HLT.out HA0.out (cells_keep HP1.out ((Below.refl _ _).drew.alloc (Nat.le_refl _) _)) (u32_one _) HC1.out HC2.out (by rw [size_alloc]; exact Nat.le_succ _) ?_; intro B5 cap5 ww er5 be5; have BX := Lib.hid (show Box ww w2.heap.size #[.int .u32 q] from (Box.new w2.drew #[.int .u32 q] 22).below be5 (by rw [size_alloc]; exact Nat.lt_succ_self _)); have SC := Lib.hid (show Below w2.heap.size w2 ww from ((Below.refl _ _).drew.alloc (Nat.le_refl _) _).trans (be5.mono (by rw [size_alloc]; exact Nat.le_succ _))); have ER := Lib.hid er5; have z5 := SC.out.size; clear er5 be5)
                  | (refine step_append_any (ww.alloc (.cells #[.int .u32 q] 22)) rfl _ _ 32 rfl w2.heap.size 22 i0 (.int .u32 0) 1 4 Try.underlying32 HI0.out HZ0.out HZ1.out HZ2.out rfl (by decide) (.slice B5 k cap5) k ((x.take k).map (Value.int .u32)) rfl (ER.out.alloc _) (some ⟨ww.heap.size, 0, none⟩) 1 1 [.int .u32 q] rfl rfl (fun h => by cases h) (news_one (Box.new ww _ _)) (fun u hu => by simp only [List.mem_singleton] at hu; subst hu; rfl) HC3.out HC4.out (by rw [size_alloc]; exact Nat.le_succ_of_le z5) ?_; intro B6 cap6 w6 a6; have SC6 := Lib.hid (appd_below (SC.out.alloc z5 _) (Nat.le_refl _) (by rw [size_alloc]; exact Nat.le_succ_of_le z5) (ER.out.alloc _) a6); have ES := Lib.hid a6.1; have z6 := SC6.out.size; clear a6)
                  | (refine step_append_any ww rfl _ _ 32 rfl w2.heap.size 22 i0 (.int .u32 0) 1 4 Try.underlying32 HI0.out HZ0.out HZ1.out HZ2.out rfl (by decide) (.slice B5 k cap5) k ((x.take k).map (Value.int .u32)) rfl ER.out (some ⟨w2.heap.size, 0, none⟩) 1 1 [.int .u32 q] rfl rfl (fun h => by cases h) (news_one BX.out) (fun u hu => by simp only [List.mem_singleton] at hu; subst hu; rfl) HC3.out HC4.out z5 ?_; intro B6 cap6 w6 a6; have SC6 := Lib.hid (appd_below SC.out (Nat.le_refl _) z5 ER.out a6); have ES := Lib.hid a6.1; have z6 := SC6.out.size; clear a6)
                  | (refine step_append_any w6 rfl _ _ 32 rfl w2.heap.size 22 i0 (.int .u32 0) 1 4 Try.underlying32 HI0.out HZ0.out HZ1.out HZ2.out rfl (by decide) (.slice B6 (k + 1) cap6) (k + 1) ((x.take k).map (Value.int .u32) ++ [.int .u32 q]) rfl ES.out A3 (x.length - k) (cx - k) ((x.drop k).map (Value.int .u32)) rfl HLD.out HN3.out (cells_keep HP3.out SC6.out) (u32_one _) HC5.out HC6.out z6 ?_; intro B7 cap7 w7 a7; have SC7 := Lib.hid (appd_below SC6.out (Nat.le_refl _) z6 ES.out a7); have ET := Lib.hid a7.1; have z7 := SC7.out.size; clear a7))
                all_goals
                  have HLAST := Lib.hid (show Linking w db l p nx s (i + 1) (x.take k ++ [q] ++ x.drop k) (.slice B7 (k + 1 + (x.length - k)) cap7) w7 by
                    have hl9 : (x.take k ++ [q] ++ x.drop k).length = k + 1 + (x.length - k) := by simp; omega
                    have hsz : w.heap.size ≤ w2.heap.size := HON2.out.size
                    refine ⟨B7, cap7, by rw [hl9], ?_, by rw [hl9]; omega, HRIS2.out, HON2.out.trans (Only.of_below SC7.out), HX2.out.below SC7.out HX2.out.lt⟩
                    rw [hl9]
                    have h0 := ET.out
                    have e9 : ((x.take k ++ [q] ++ x.drop k).map (Value.int .u32)) = (x.take k).map (Value.int .u32) ++ [.int .u32 q] ++ (x.drop k).map (Value.int .u32) := by simp
                    rw [e9]
                    exact ⟨h0.1, h0.2.imp id fun ⟨g, c, cur, a, b, r⟩ => ⟨g, c, cur, a, Nat.le_trans hsz b, r⟩⟩)
                  clear z5 z6 z7
                  go_wp2
                  go_roundw
                  case rel => exact ⟨i + 1, _, by omega, by go_num, HLAST.out⟩
                  case measure => simp [intOf]; omega
      · have hdt : decide ((i : Int) < min n 6) = false := by simp only [decide_eq_false_iff_not]; unfold cntF at hlt; omega
        obtain rfl : i = cntF n := by omega
        go_wp2
        go_ret
        refine ⟨Ax, cx, x, _, rfl, ?_, ?_, HON.out, HBX.out⟩
        · unfold LinksAns
          rw [if_pos HMEM.out, HNX.out]
          exact ⟨HRIS.out, rfl⟩
        · obtain ⟨A', cap', he, hi⟩ := ints_of_row HOWN.out (by omega) (fun y hy => u32_wf (by
            have := (HRIS.out.mem y).1 hy
            exact hk.u32 y (linkQ_mem HN0.out this).1))
          injection he with e1 _ e2
          subst e1 e2
          exact hi
  · have HIN := Lib.hid (show decide (p ∈ l) = false from decide_eq_false hin)
    have HA := Lib.hid (show LinksAns l p n s [] s by unfold LinksAns; rw [if_neg hin]; exact ⟨rfl, rfl⟩)
    clear hin
    go_enter Try.func29, Try.ntmps29
    go_wp2_with (go_at_call 36; go_loud ((with_reducible refine (in_u32 p _ HI.out).mono ?_); rintro e w' ⟨rfl, rfl⟩; rw [HIN.out]))
    go_ret
    exact ⟨none, 0, [], s, rfl, HA.out, ⟨rfl, by simp, by omega, by simp, fun _ => rfl, fun x hx => by simp at hx, fun h => by simp at h⟩, Only.refl _ _, HD.out⟩
end Go.Proofs.Ytjcbmfopcohcmaa
