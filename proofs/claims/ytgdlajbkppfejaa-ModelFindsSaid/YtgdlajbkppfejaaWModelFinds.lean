/- The law ModelFinds: its walk (under way). -/
import Derived.Test.YtgdlajbkppfejaaAwake24
import Derived.Test.YtgdlajbkppfejaaModelMore
import Derived.Test.YtgdlajbkppfejaaLaw
namespace Go.Proofs.Ytgdlajbkppfejaa
open Go.RowKit Go.ChangeShapes
set_option maxRecDepth 100000
set_option linter.unusedVariables false
set_option linter.unusedSimpArgs false

/-- Every element is there, its id is its key, and small. -/
def GoodK (L : List Kn) : Prop := ∀ x ∈ L, 0 ≤ x.key ∧ x.key < 50 ∧ x.is = true ∧ x.rc.id = x.key
theorem GoodK.put {L : List Kn} {r : Rec} (h : GoodK L) (h0 : 0 ≤ r.id) (h1 : r.id < 50) (attrs : Int) : GoodK (mputF attrs L r).1 := by
  unfold mputF
  split
  · split
    · exact h
    · unfold putK
      split
      · intro x hx
        unfold setK at hx
        obtain ⟨y, hy, rfl⟩ := List.mem_map.1 hx
        split
        · exact ⟨h0, h1, rfl, rfl⟩
        · exact h y hy
      · intro x hx
        rcases List.mem_append.1 hx with hx | hx
        · exact h x hx
        · rw [List.mem_singleton] at hx; subst hx; exact ⟨h0, h1, rfl, rfl⟩
  · exact h
theorem mputF_len (attrs : Int) (L : List Kn) (r : Rec) : (mputF attrs L r).1.length ≤ L.length + 1 := by
  unfold mputF
  split
  · split
    · simp
    · exact putK_len _ _
  · simp
/-- The record that the law puts. -/
def findQ (r : Rec) : Rec := ⟨r.id.tmod 50, IntKind.u64.wrap (1 + r.ver.tmod 9), [IntKind.u32.wrap (r.id / 8), IntKind.u32.wrap r.ver]⟩
theorem u32_wrap (x : Int) : U32 (IntKind.u32.wrap x) := by
  show U32 _
  simp only [IntKind.wrap, IntKind.bits, IntKind.signed]
  constructor <;> simp <;> omega
theorem findQ_facts {r : Rec} (h : r.ok) : (findQ r).ok ∧ 0 ≤ (findQ r).id ∧ (findQ r).id < 50 ∧ 1 ≤ (findQ r).ver ∧ rightF 2 (findQ r).id (findQ r).ver 2 = true := by
  obtain ⟨⟨a1, a2⟩, ⟨b1, b2⟩, _⟩ := h
  have e1 : r.id.tmod 50 = r.id % 50 := Int.tmod_eq_emod_of_nonneg a1
  have e2 : IntKind.u64.wrap (1 + r.ver.tmod 9) = 1 + r.ver % 9 := by
    rw [Int.tmod_eq_emod_of_nonneg b1]
    simp only [IntKind.wrap, IntKind.bits, IntKind.signed]
    simp; omega
  have q1 : (findQ r).id = r.id % 50 := e1
  have q2 : (findQ r).ver = 1 + r.ver % 9 := e2
  have hv : ∀ x ∈ (findQ r).vals, U32 x := fun x hx => by
    have hx' : x = IntKind.u32.wrap (r.id / 8) ∨ x = IntKind.u32.wrap r.ver := by simpa [findQ] using hx
    rcases hx' with rfl | rfl <;> exact u32_wrap _
  refine ⟨⟨?_, ?_, hv⟩, by rw [q1]; omega, by rw [q1]; omega, by rw [q2]; omega, ?_⟩
  · show U64 _; rw [q1]; constructor <;> omega
  · show U64 _; rw [q2]; constructor <;> omega
  · rw [q1, q2]; unfold rightF
    have z : r.id % 50 / 4294967296 = 0 := by omega
    have z2 : 1 ≤ 1 + r.ver % 9 := by omega
    simp [z, z2]
theorem ints_two {w : World} {b : Nat} {x y : Int} {D : Nat → Prop} (h : Box w b #[.int .u32 x, .int .u32 y]) (hx : U32 x) (hy : U32 y) (hD : D b) : Ints w D .u32 4 (some ⟨b, 0, none⟩) 2 2 [x, y] := by
  refine ⟨rfl, by omega, by omega, by omega, (fun h => by cases h), (fun z hz => by simp at hz; rcases hz with rfl | rfl; exact u32_wf' hx; exact u32_wf' hy), fun _ => ⟨b, 0, rfl, hD, fun j hj => ?_⟩⟩
  have hj : j = 0 ∨ j = 1 := by omega
  rcases hj with rfl | rfl
  · rw [h.cell]; rfl
  · rw [h.cell]; rfl
theorem ahead_zero {ls : List Kn} (h : ∀ x ∈ ls, 0 ≤ x.key) : ahead ls 0 = 0 := by
  unfold ahead
  rw [List.countP_eq_zero]
  intro x hx
  have := h x hx
  simp; omega
theorem ahead_all {ls : List Kn} (h : ∀ x ∈ ls, x.key < 50) : ahead ls 50 = ls.length := by
  unfold ahead
  rw [List.countP_eq_length]
  intro x hx
  exact decide_eq_true (h x hx)
/-- What is found of a box. -/
theorem finds_facts {bl : List Rng} {L : List Kn} {ks : List Int} {ls : List Kn} (hg : GoodK L) (ho : OneK L) (h1 : rightB 2 bl = true → FoundOf bl L ks ls ∧ ∀ x ∈ L, x.key ∈ ks) (h0 : rightB 2 bl = false → ls = []) :
    ls.Pairwise (fun a b => a.key < b.key) ∧ (∀ id : Int, (∃ x ∈ ls, x.key = id) ↔ isK L id = true ∧ rightB 2 bl = true ∧ matchF bl (recK L id).vals = true) ∧ ∀ x ∈ ls, 0 ≤ x.key ∧ x.key < 50 ∧ x.rc.id = x.key := by
  cases hr : rightB 2 bl with
  | false =>
    rw [h0 hr]
    exact ⟨List.Pairwise.nil, fun id => by simp, fun x hx => by simp at hx⟩
  | true =>
    obtain ⟨hf, hk⟩ := h1 hr
    refine ⟨hf.1, fun id => (found_is hf hk ho id).trans ⟨fun h => ⟨h.1, rfl, h.2⟩, fun h => ⟨h.1, h.2.2⟩⟩, fun x hx => ?_⟩
    obtain ⟨a1, a2, _, a4⟩ := hg x ((hf.2 x).1 hx).1
    exact ⟨a1, a2, a4⟩
theorem four_cases (a b c : Bool) : a = false ∨ (a = true ∧ b = false) ∨ (a = true ∧ b = true ∧ c = false) ∨ (a = true ∧ b = true ∧ c = true) := by
  cases a <;> cases b <;> cases c <;> simp
set_option maxHeartbeats 8000000 in
theorem wModelFinds0 (W : World) (A : Option Addr) (n cap : Nat) (l : List Rec) (BA : Option Addr) (bn bc : Nat) (bl : List Rng) (hl : recE.At W (· < W.heap.size) A n cap l) (hb : RngsAt W (· < W.heap.size) BA bn bc bl) :
    Calls Try.prog 5 #[.slice A n cap, .slice BA bn bc] W fun e W' => e = .returned (.bool true) ∧ Below W.heap.size W W' := by
  have HL := Lib.hid hl; have HBL := Lib.hid hb
  clear hl hb
  have S0 := Lib.hid (Sta.start W)
  by_cases hb2 : bn = 2
  · subst hb2
    go_enter Try.func5, Try.ntmps5
    go_wp2_with (first
      | (go_at_call 19; go_loud (refine (mo_new [1] 2 S0.out (by simp) (by simp)).mono ?_; rintro e1 w1 ⟨b, rfl, hs, _⟩; have S1 := Lib.hid (show Sta W [tModel [1] b 2 []] w1 from hs); clear hs))
      | (go_at_call 20; go_loud (refine (awake24 _).mono ?_; rintro e2 w2 ⟨rfl, hb⟩; have S2 := Lib.hid (S1.out.later hb); clear hb S1)))
    go_loopw [6] (fun s6 wr => ∃ (i : Nat) (L : List Kn), i ≤ 40 ∧ s6 = .int .i64 i ∧ GoodK L ∧ OneK L ∧ L.length ≤ i ∧ Sta W [tModel [1] b 2 L] wr) (fun s _ => 40 - (intOf s).toNat)
    case atStart => exact ⟨0, [], by omega, rfl, fun x hx => by simp at hx, OneK.nil, by simp, S2.out⟩
    case round =>
      obtain ⟨i, L, hi, rfl, hg, hone, hll, hs⟩ := hrel
      have HS := Lib.hid hs; have HG := Lib.hid hg; have HO := Lib.hid hone
      clear hs hg hone S2
      by_cases hc : i < n ∧ i < 40
      · obtain ⟨h1, h2⟩ := hc
        obtain ⟨bb, off, rfl, hbb, hcc⟩ := (recsAt HL.out).2.2.2.2 (by omega)
        obtain ⟨r, hr⟩ : ∃ r, l[i]? = some r := ⟨_, List.getElem?_eq_getElem (by rw [HL.out.1]; exact h1)⟩
        obtain ⟨hok, s, m, cp, p0, p1, p2, hint⟩ := hcc i r hr
        have d0 := (HS.out.end.cell (p := ⟨bb, off + i * 3, none⟩) hbb).trans p0
        have d1 := (HS.out.end.cell (p := ⟨bb, off + i * 3 + 1, none⟩) hbb).trans p1
        have zbb : bb < wr.heap.size := Nat.lt_of_lt_of_le hbb HS.out.end.size
        have HOK := Lib.hid hok
        clear hcc p0 p1 p2 hint hok hr hbb
        go_upto_region 7 with fail
        obtain ⟨⟨L2, bo⟩, hk2⟩ : ∃ p, mputF 2 L (findQ r) = p := ⟨_, rfl⟩
        have HK2 := Lib.hid hk2
        have HQ := Lib.hid (findQ_facts HOK.out)
        have hlen2 := mputF_len 2 L (findQ r)
        have hg2 := GoodK.put HG.out HQ.out.2.1 HQ.out.2.2.1 2
        have ho2 := HO.out.mput 2 (findQ r)
        rw [hk2] at hlen2 hg2 ho2
        dsimp only at hlen2 hg2 ho2
        have HG2 := Lib.hid hg2; have HO2 := Lib.hid ho2
        clear hg2 hk2 ho2
        first | (go_region_with (go_at_call 21; (refine (mo_put (r := findQ r) (L' := L2) (bo := bo) (ts' := [tModel [1] b 2 L2, tBox _ _]) 0 ((HS.out.addBox _ _).later (by first | exact (Same.drew _).1 | exact Below.refl _ _)) rfl (by simp) (by omega) (by omega) (by omega) HQ.out.1 (fun c h => ints_two (h.box (i := 1) rfl).1 (u32_wrap _) (u32_wrap _) (h.box (i := 1) rfl).2) HQ.out.2.2.2.2 HK2.out rfl).mono ?_); rintro e2 w2 ⟨rfl, hs, _⟩; have HS2 := Lib.hid (hs.pick (ts' := [tModel [1] b 2 L2]) (.cons_cons _ (.cons _ .slnil))); clear hs)) | fail
        all_goals
          go_wp2
          go_roundw
          case rel => exact ⟨i + 1, L2, by omega, by go_num, HG2.out, HO2.out, by omega, HS2.out⟩
          case measure => simp [intOf]; omega
      · have HBX := Lib.hid (fun (w' : World) (h : Below W.heap.size W w') => HBL.out.move (w' := w') (D' := (· < W.heap.size)) fun b hb _ => ⟨h.block b hb, hb⟩)
        obtain ⟨rb, hrb⟩ : ∃ rb, rightB 2 bl = rb := ⟨_, rfl⟩
        have HRB := Lib.hid hrb
        clear HL hrb
        by_cases h1 : i < n
        all_goals
          go_upto_region 9 with (go_at_call 22; go_loud (refine (mo_find_any 0 HS.out rfl (by omega) (fun c h => HBL.out.move h.first)).mono ?_; rintro e4 w4 ⟨ks, ls, A4, cap4, rfl, hf1, hf0, hs, _⟩; have S3 := Lib.hid (show Sta W [tModel [1] b 2 L, tAt recE A4 ls.length cap4 (ls.map Kn.rc)] w4 from hs); have HF := Lib.hid (finds_facts HG.out HO.out hf1 hf0); clear hs hf1 hf0 HS))
          clear hc
          go_wp2
          go_loopw [8, 9] (fun s8 s9 wq => ∃ id : Nat, id ≤ 50 ∧ s9 = .int .u64 id ∧ s8 = .int .i64 (ahead ls id) ∧ Sta W [tModel [1] b 2 L, tAt recE A4 ls.length cap4 (ls.map Kn.rc)] wq) (fun _ s _ => 50 - (intOf s).toNat)
          case atStart => exact ⟨0, by omega, rfl, by rw [show ahead ls ((0 : Nat) : Int) = 0 from ahead_zero fun x hx => (HF.out.2.2 x hx).1]; rfl, S3.out⟩
          case round =>
            obtain ⟨id, hid, rfl, rfl, hs⟩ := hrel
            have HQ := Lib.hid hs
            clear hs S3
            by_cases hlt : id < 50
            · have hlt' : (id : Int) < 50 := by omega
              have hw9 : IntKind.u64.wrap ((id : Int) + 1) = ((id + 1 : Nat) : Int) := by simp only [IntKind.wrap, IntKind.bits, IntKind.signed]; simp; omega
              have HU : Hid (U64 (id : Int)) := ⟨by omega, by omega⟩
              have HFI := Lib.hid (HF.out.2.1 (id : Int))
              have HSU := Lib.hid (ahead_succ HF.out.1 (id : Int))
              have HAT := Lib.hid ((ahead_at HF.out.1 (id : Int)).1)
              obtain ⟨k, hk⟩ : ∃ k, ahead ls (id : Int) = k := ⟨_, rfl⟩
              obtain ⟨r, hr⟩ : ∃ r, recK L (id : Int) = r := ⟨_, rfl⟩
              obtain ⟨bo, hbo⟩ : ∃ bo, isK L (id : Int) = bo := ⟨_, rfl⟩
              obtain ⟨mb, hmb⟩ : ∃ mb, matchF bl r.vals = mb := ⟨_, rfl⟩
              rw [hk] at HSU HAT ⊢
              rw [hr, hbo, HRB.out, hmb] at HFI
              have hkl : k ≤ ls.length := by rw [← hk]; exact ahead_le _ _
              have HR := Lib.hid hr; have HB := Lib.hid hbo; have HM := Lib.hid hmb
              clear hr hbo hmb hk
              go_upto_region 14 with (go_at_call 23; go_loud (refine (mo_get (r := r) (bo := bo) 0 HQ.out rfl HU.out HR.out HB.out).mono ?_; rintro e5 w5 ⟨s5, n5, k5, rfl, hint, hok, hs, hb5⟩; have HI := Lib.hid hint; have HO5 := Lib.hid hok; have S5 := Lib.hid (show Sta W [tModel [1] b 2 L, tAt recE A4 ls.length cap4 (ls.map Kn.rc)] w5 from hs); clear hs hint hok hb5))
              rcases four_cases bo rb mb with rfl | ⟨rfl, rfl⟩ | ⟨rfl, rfl, rfl⟩ | ⟨rfl, rfl, rfl⟩
              all_goals
                go_upto_region 15 with (first
                  | (go_at_call 24; go_loud (refine (r05right_any 2 _ (HBX.out _ (S5.out.later (below_a1 _ _)).end) (fun b hb => Nat.lt_of_lt_of_le hb (S5.out.later (below_a1 _ _)).end.size)).mono ?_; rintro e6 w6 ⟨rfl, hb6⟩; rw [HRB.out]; have HB6 := Lib.hid (below_thru hb6); have S6 := Lib.hid (S5.out.later HB6.out); have c62 := (hb6.cell (p := ⟨w5.heap.size, 2, none⟩) (by simp)).trans (show (w5.alloc (.cells #[.int .u64 r.id, .int .u64 r.ver, .slice s5 n5 k5] 37)).cell? ⟨w5.heap.size, 2, none⟩ = some (.slice s5 n5 k5) from by simp); clear hb6))
                  | (go_at_call 25; go_loud (refine (r05match_any w6 (HBX.out w6 S6.out.end) (HI.out.move (w' := w6) (D' := (· < w6.heap.size)) fun b hb hlt => ⟨HB6.out.block b hlt, Nat.lt_of_lt_of_le hlt HB6.out.size⟩) HO5.out.2.2 (fun b hb => Nat.lt_of_lt_of_le hb S6.out.end.size) (fun b hb => hb)).mono ?_; rintro e7 w7 ⟨rfl, hb7⟩; rw [HM.out]; have S7 := Lib.hid (S6.out.later hb7); clear hb7)))
              all_goals
                refine wp_abs (fun wx => Sta W [tModel [1] b 2 L, tAt recE A4 ls.length cap4 (ls.map Kn.rc)] wx) (by first | exact S7.out | exact S6.out | exact S5.out.later (below_a1 _ _)) ?_
                intro wx hsx
                have SX := Lib.hid hsx
                clear hsx
              · have hn : ¬ ∃ x ∈ ls, x.key = (id : Int) := by rw [HFI.out]; simp
                rw [if_neg hn] at HSU
                have hrec := recsAt (SX.out.at (i := 1) (E := recE) rfl)
                by_cases hk : k < ls.length
                · obtain ⟨x, hx⟩ : ∃ x, ls[k]? = some x := ⟨_, List.getElem?_eq_getElem hk⟩
                  have hxm := List.mem_of_getElem? hx
                  obtain ⟨q1, q2, q3⟩ := HF.out.2.2 x hxm
                  have hne : (x.rc.id == (id : Int)) = false := by rw [beq_eq_false_iff_ne, q3]; exact fun e => hn ⟨x, hxm, e⟩
                  obtain ⟨fb, fo, rfl, zf, hcc⟩ := hrec.2.2.2.2 (by omega)
                  obtain ⟨_, _, _, _, d0, _⟩ := hcc k x.rc (by rw [List.getElem?_map, hx]; rfl)
                  clear hcc hrec hn hx hxm q1 q2 q3
                  go_wp2
                  go_roundw
                  case rel => exact ⟨id + 1, by omega, by first | rfl | rw [hw9], by rw [show ((id + 1 : Nat) : Int) = (id : Int) + 1 by omega, HSU.out] <;> first | rfl | simp, SX.out⟩
                  case measure => simp [intOf]; omega
                · clear hrec hn
                  go_wp2
                  go_roundw
                  case rel => exact ⟨id + 1, by omega, by first | rfl | rw [hw9], by rw [show ((id + 1 : Nat) : Int) = (id : Int) + 1 by omega, HSU.out] <;> first | rfl | simp, SX.out⟩
                  case measure => simp [intOf]; omega
              · have hn : ¬ ∃ x ∈ ls, x.key = (id : Int) := by rw [HFI.out]; simp
                rw [if_neg hn] at HSU
                have hrec := recsAt (SX.out.at (i := 1) (E := recE) rfl)
                by_cases hk : k < ls.length
                · obtain ⟨x, hx⟩ : ∃ x, ls[k]? = some x := ⟨_, List.getElem?_eq_getElem hk⟩
                  have hxm := List.mem_of_getElem? hx
                  obtain ⟨q1, q2, q3⟩ := HF.out.2.2 x hxm
                  have hne : (x.rc.id == (id : Int)) = false := by rw [beq_eq_false_iff_ne, q3]; exact fun e => hn ⟨x, hxm, e⟩
                  obtain ⟨fb, fo, rfl, zf, hcc⟩ := hrec.2.2.2.2 (by omega)
                  obtain ⟨_, _, _, _, d0, _⟩ := hcc k x.rc (by rw [List.getElem?_map, hx]; rfl)
                  clear hcc hrec hn hx hxm q1 q2 q3
                  go_wp2
                  go_roundw
                  case rel => exact ⟨id + 1, by omega, by first | rfl | rw [hw9], by rw [show ((id + 1 : Nat) : Int) = (id : Int) + 1 by omega, HSU.out] <;> first | rfl | simp, SX.out⟩
                  case measure => simp [intOf]; omega
                · clear hrec hn
                  go_wp2
                  go_roundw
                  case rel => exact ⟨id + 1, by omega, by first | rfl | rw [hw9], by rw [show ((id + 1 : Nat) : Int) = (id : Int) + 1 by omega, HSU.out] <;> first | rfl | simp, SX.out⟩
                  case measure => simp [intOf]; omega
              · have hn : ¬ ∃ x ∈ ls, x.key = (id : Int) := by rw [HFI.out]; simp
                rw [if_neg hn] at HSU
                have hrec := recsAt (SX.out.at (i := 1) (E := recE) rfl)
                by_cases hk : k < ls.length
                · obtain ⟨x, hx⟩ : ∃ x, ls[k]? = some x := ⟨_, List.getElem?_eq_getElem hk⟩
                  have hxm := List.mem_of_getElem? hx
                  obtain ⟨q1, q2, q3⟩ := HF.out.2.2 x hxm
                  have hne : (x.rc.id == (id : Int)) = false := by rw [beq_eq_false_iff_ne, q3]; exact fun e => hn ⟨x, hxm, e⟩
                  obtain ⟨fb, fo, rfl, zf, hcc⟩ := hrec.2.2.2.2 (by omega)
                  obtain ⟨_, _, _, _, d0, _⟩ := hcc k x.rc (by rw [List.getElem?_map, hx]; rfl)
                  clear hcc hrec hn hx hxm q1 q2 q3
                  go_wp2
                  go_roundw
                  case rel => exact ⟨id + 1, by omega, by first | rfl | rw [hw9], by rw [show ((id + 1 : Nat) : Int) = (id : Int) + 1 by omega, HSU.out] <;> first | rfl | simp, SX.out⟩
                  case measure => simp [intOf]; omega
                · clear hrec hn
                  go_wp2
                  go_roundw
                  case rel => exact ⟨id + 1, by omega, by first | rfl | rw [hw9], by rw [show ((id + 1 : Nat) : Int) = (id : Int) + 1 by omega, HSU.out] <;> first | rfl | simp, SX.out⟩
                  case measure => simp [intOf]; omega
              · obtain ⟨x, hx, he⟩ := HAT.out (HFI.out.2 (by simp))
                rw [if_pos (HFI.out.2 (by simp))] at HSU
                have hk := (List.getElem?_eq_some_iff.1 hx).1
                have hrec := recsAt (SX.out.at (i := 1) (E := recE) rfl)
                have hn1 := hrec.2.1
                have hn2 := hrec.2.2.1
                obtain ⟨q1, q2, q3⟩ := HF.out.2.2 x (List.mem_of_getElem? hx)
                obtain ⟨fb, fo, rfl, zf, hcc⟩ := hrec.2.2.2.2 (by omega)
                obtain ⟨_, _, _, _, d0, _⟩ := hcc k x.rc (by rw [List.getElem?_map, hx]; rfl)
                rw [q3, he] at d0
                have hw8 : IntKind.i64.wrap ((k : Int) + 1) = ((k + 1 : Nat) : Int) := by rw [IntKind.wrap_i64] <;> omega
                clear hcc hrec hx he q1 q2 q3
                go_wp2
                go_roundw
                case rel => exact ⟨id + 1, by omega, by first | rfl | rw [hw9], by rw [show ((id + 1 : Nat) : Int) = (id : Int) + 1 by omega, HSU.out] <;> first | rfl | simp, SX.out⟩
                case measure => simp [intOf]; omega
            · obtain rfl : id = 50 := by omega
              have hA : ahead ls ((50 : Nat) : Int) = ls.length := ahead_all fun x hx => (HF.out.2.2 x hx).2.1
              rw [hA]
              clear hA
              go_wp2
              go_ret
              exact ⟨rfl, HQ.out.end⟩
  · have hb3 : ((bn : Int) != 2) = true := by simp; omega
    have hb4 : ¬ (bn : Int) = 2 := by omega
    go_enter Try.func5, Try.ntmps5
    go_wp2_with (first
      | (go_at_call 19; go_loud (refine (mo_new [1] 2 S0.out (by simp) (by simp)).mono ?_; rintro e1 w1 ⟨b, rfl, hs, _⟩; have S1 := Lib.hid (show Sta W [tModel [1] b 2 []] w1 from hs); clear hs S0))
      | (go_at_call 20; (refine (awake24 _).mono ?_; rintro e2 w2 ⟨rfl, hb⟩; have S2 := Lib.hid (S1.out.later hb); clear hb S1))
      | (go_at_call 20; (refine (awake24 _).mono ?_; rintro e3 w3 ⟨rfl, hb⟩; have S3 := Lib.hid (S2.out.later hb); clear hb S2)))
    go_ret
    exact ⟨rfl, S3.out.end⟩

theorem wModelFinds (W : World) (vs : List Value) (h : Sh.Args W (· < W.heap.size) [((.sl (.st (.pair (.int .u64) (.pair (.int .u64) (.pair (.sl (.int .u32) 4) .unit)))) 40), 29), ((.sl (.st (.pair (.int .i64) (.pair (.int .u32) (.pair (.int .u32) .unit)))) 16), 22)] vs) :
    Calls Try.prog 5 vs.toArray W fun e W' => e = .returned (.bool true) ∧ Below W.heap.size W W' := by
  obtain ⟨v0, _, rfl, ⟨a, ha⟩, v1, _, rfl, ⟨b, hb⟩, rfl⟩ := h
  obtain ⟨A, n, cap, l, rfl, _, hl⟩ := recs_open ha
  obtain ⟨BA, bn, bc, bl, rfl, hr⟩ := rngs_open hb
  exact wModelFinds0 W A n cap l BA bn bc bl hl hr
end Go.Proofs.Ytgdlajbkppfejaa
