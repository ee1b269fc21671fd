/- The law ModelAll: its walk. Conditions: none. -/
import Derived.Test.YtgdlajbkppfejaaAwake24
import Derived.Test.YtgdlajbkppfejaaModelMore
import Derived.Test.YtgdlajbkppfejaaLaw
namespace Go.Proofs.Ytgdlajbkppfejaa
open Go.RowKit Go.ChangeShapes
set_option maxRecDepth 100000
set_option linter.unusedVariables false
set_option linter.unusedSimpArgs false

theorem u32_wrapA (x : Int) : U32 (IntKind.u32.wrap x) := by
  show U32 _
  simp only [IntKind.wrap, IntKind.bits, IntKind.signed]
  constructor <;> simp <;> omega
/-- The record that the law puts. -/
def allQ (r : Rec) : Rec := ⟨r.id.tmod 68719476736, IntKind.u64.wrap (1 + r.ver.tmod 100), [IntKind.u32.wrap (r.id / 128)]⟩
theorem allQ_facts {r : Rec} (h : r.ok) : (allQ r).ok ∧ rightF 1 (allQ r).id (allQ r).ver 1 = true := by
  obtain ⟨⟨a1, a2⟩, ⟨b1, b2⟩, _⟩ := h
  have e1 : r.id.tmod 68719476736 = r.id % 68719476736 := Int.tmod_eq_emod_of_nonneg a1
  have e2 : IntKind.u64.wrap (1 + r.ver.tmod 100) = 1 + r.ver % 100 := by
    rw [Int.tmod_eq_emod_of_nonneg b1]
    simp only [IntKind.wrap, IntKind.bits, IntKind.signed]
    simp; omega
  have q1 : (allQ r).id = r.id % 68719476736 := e1
  have q2 : (allQ r).ver = 1 + r.ver % 100 := e2
  have hv : ∀ x ∈ (allQ r).vals, U32 x := fun x hx => by
    have hx' : x = IntKind.u32.wrap (r.id / 128) := by simpa [allQ] using hx
    subst hx'; exact u32_wrapA _
  refine ⟨⟨?_, ?_, hv⟩, ?_⟩
  · show U64 _; rw [q1]; constructor <;> omega
  · show U64 _; rw [q2]; constructor <;> omega
  · rw [q1, q2]; unfold rightF
    have z : r.id % 68719476736 / 4294967296 < 16 := by omega
    have z2 : 1 ≤ 1 + r.ver % 100 := by omega
    simp [z, z2]
theorem mputF_len1 (attrs : Int) (L : List Kn) (r : Rec) : (mputF attrs L r).1.length ≤ L.length + 1 := by
  unfold mputF
  split
  · split
    · simp
    · exact putK_len _ _
  · simp
theorem right_any1 : rightB 1 [⟨1, 0, 0⟩] = true := by decide
theorem right_two (a b : Int) : rightB 1 [⟨2, a, b⟩] = true := by unfold rightB kindF; simp
theorem right_no : rightB 1 [⟨3, 0, 0⟩] = true := by decide
theorem rng_one {W w : World} {ts : List Thing} {c : Col} {b : Nat} {k lo hi : Int} {i : Nat} (h : S0 W ts c w) (hi' : ts[i]? = some (tBox b #[.int .i64 k, .int .u32 lo, .int .u32 hi])) (h1 : U32 lo) (h2 : U32 hi) : RngsAt w (Quiet c w) (some ⟨b, 0, none⟩) 1 1 [⟨k, lo, hi⟩] :=
  rngsAt (Elt.At.one (E := rngE) (x := ⟨k, lo, hi⟩) (h.box hi').1 (h.box hi').2 ⟨rfl, ⟨h1, h2⟩⟩) (by omega)
set_option maxHeartbeats 8000000 in
theorem wModelAll0 (W : World) (A : Option Addr) (n cap : Nat) (l : List Rec) (a : Int) (ha : U32 a) (hl : recE.At W (· < W.heap.size) A n cap l) :
    Calls Try.prog 7 #[.slice A n cap, .int .u32 a] W fun e W' => e = .returned (.bool true) ∧ Below W.heap.size W W' := by
  have HL := Lib.hid hl
  clear hl
  have S0 := Lib.hid (Sta.start W)
  go_enter Try.func7, Try.ntmps7
  go_wp2_with (first
    | (go_at_call 19; go_loud (refine (mo_new [1] 1 S0.out (by simp) (by simp)).mono ?_; rintro e1 w1 ⟨b, rfl, hs, _⟩; have S1 := Lib.hid (show Sta W [tModel [1] b 1 []] w1 from hs); clear hs))
    | (go_at_call 20; go_loud (refine (awake24 _).mono ?_; rintro e2 w2 ⟨rfl, hb⟩; have S2 := Lib.hid (S1.out.later hb); clear hb S1)))
  go_loopw [6] (fun s6 wr => ∃ (i : Nat) (L : List Kn), i ≤ 60 ∧ s6 = .int .i64 i ∧ OneK L ∧ Good1 L ∧ L.length ≤ i ∧ Sta W [tModel [1] b 1 L] wr) (fun s _ => 60 - (intOf s).toNat)
  case atStart => exact ⟨0, [], by omega, rfl, OneK.nil, fun x hx => by simp at hx, by simp, S2.out⟩
  case round =>
    obtain ⟨i, L, hi, rfl, hone, hg, hll, hs⟩ := hrel
    have HS := Lib.hid hs; have HG := Lib.hid hg; have HO := Lib.hid hone
    clear hs hg hone S2
    by_cases hc : i < n ∧ i < 60
    · obtain ⟨h1, h2⟩ := hc
      obtain ⟨bb, off, rfl, hbb, hcc⟩ := (recsAt HL.out).2.2.2.2 (by omega)
      obtain ⟨r, hr⟩ : ∃ r, l[i]? = some r := ⟨_, List.getElem?_eq_getElem (by rw [HL.out.1]; exact h1)⟩
      obtain ⟨hok, s, m, cp, p0, p1, p2, hint⟩ := hcc i r hr
      have d0 := (HS.out.end.cell (p := ⟨bb, off + i * 3, none⟩) hbb).trans p0
      have d1 := (HS.out.end.cell (p := ⟨bb, off + i * 3 + 1, none⟩) hbb).trans p1
      have zbb : bb < wr.heap.size := Nat.lt_of_lt_of_le hbb HS.out.end.size
      have HOK := Lib.hid hok
      clear hcc p0 p1 p2 hint hok hr hbb
      go_upto_region 7 with fail
      obtain ⟨⟨L2, bo⟩, hk2⟩ : ∃ p, mputF 1 L (allQ r) = p := ⟨_, rfl⟩
      have HK2 := Lib.hid hk2
      have HQ := Lib.hid (allQ_facts HOK.out)
      have hlen2 := mputF_len1 1 L (allQ r)
      have hg2 := HG.out.put (id := (allQ r).id) (ver := (allQ r).ver) (u32_wrapA (r.id / 128)) 1
      have ho2 := HO.out.mput 1 (allQ r)
      rw [show (⟨(allQ r).id, (allQ r).ver, [IntKind.u32.wrap (r.id / 128)]⟩ : Rec) = allQ r from rfl] at hg2
      rw [hk2] at hlen2 hg2 ho2
      dsimp only at hlen2 hg2 ho2
      have HG2 := Lib.hid hg2; have HO2 := Lib.hid ho2
      clear hg2 hk2 ho2
      first | (go_region_with (go_at_call 21; (refine (mo_put (r := allQ r) (L' := L2) (bo := bo) (ts' := [tModel [1] b 1 L2, tBox _ _]) 0 ((HS.out.addBox _ _).later (by first | exact (Same.drew _).1 | exact Below.refl _ _)) rfl (by simp) (by omega) (by omega) (by omega) HQ.out.1 (fun c h => ints_one' (h.box (i := 1) rfl).1 (u32_wrapA _) (h.box (i := 1) rfl).2) HQ.out.2 HK2.out rfl).mono ?_); rintro e2 w2 ⟨rfl, hs, _⟩; have HS2 := Lib.hid (hs.pick (ts' := [tModel [1] b 1 L2]) (.cons_cons _ (.cons _ .slnil))); clear hs)) | fail
      all_goals
        go_wp2
        go_roundw
        case rel => exact ⟨i + 1, L2, by omega, by go_num, HO2.out, HG2.out, by omega, HS2.out⟩
        case measure => simp [intOf]; omega
    · obtain ⟨N, hN⟩ : ∃ N, L.length = N := ⟨_, rfl⟩
      obtain ⟨x, hx⟩ : ∃ x, L.countP (hitK [⟨2, 0, a⟩]) = x := ⟨_, rfl⟩
      obtain ⟨y, hy⟩ : ∃ y, (if a < 4294967295 then L.countP (hitK [⟨2, a + 1, 4294967295⟩]) else 0) = y := ⟨_, rfl⟩
      have hNb : N ≤ 60 := by omega
      have hxy : x + y = N := by
        rw [← hx, ← hy, ← hN]
        split
        · next h => exact HG.out.halves ha h
        · next h =>
          have : a = 4294967295 := by have := ha.2; omega
          subst this
          exact HG.out.whole
      have HF1 := Lib.hid (fun (ks : List Int) (ls : List Kn) (h : FoundOf [⟨1, 0, 0⟩] L ks ls) (hk : ∀ x ∈ L, x.key ∈ ks) => (h.count hk HO.out).trans (HG.out.all.1.trans hN))
      have HF2 := Lib.hid (fun (ks : List Int) (ls : List Kn) (h : FoundOf [⟨2, 0, a⟩] L ks ls) (hk : ∀ x ∈ L, x.key ∈ ks) => (h.count hk HO.out).trans hx)
      have HF4 := Lib.hid (fun (ks : List Int) (ls : List Kn) (h : FoundOf [⟨3, 0, 0⟩] L ks ls) (hk : ∀ x ∈ L, x.key ∈ ks) => (h.count hk HO.out).trans HG.out.all.2.2)
      have HLN := Lib.hid (HG.out.all.2.1.trans hN)
      have HLL := Lib.hid (show L.length ≤ 10000 by omega)
      have HA := Lib.hid ha
      have hsum : IntKind.i64.wrap ((x : Int) + (y : Int)) = (N : Int) := by
        rw [show (x : Int) + (y : Int) = (N : Int) by omega]
        exact wrap_nat64 (by omega)
      by_cases ha2 : a < 4294967295
      · have HF3 := Lib.hid (fun (ks : List Int) (ls : List Kn) (h : FoundOf [⟨2, a + 1, 4294967295⟩] L ks ls) (hk : ∀ x ∈ L, x.key ∈ ks) => (h.count hk HO.out).trans ((if_pos ha2).symm.trans hy))
        have hw : IntKind.u32.wrap (a + 1) = a + 1 := by
          obtain ⟨b1, b2⟩ := ha
          first | go_num | (simp only [IntKind.wrap, IntKind.bits, IntKind.signed]; omega) | (simp [IntKind.wrap, IntKind.bits, IntKind.signed]; omega)
        have HA1 : Hid (U32 (a + 1)) := ⟨by have := ha.1; omega, by omega⟩
        clear hN hx hy hxy ha HG HO HL
        by_cases h1 : i < n
        all_goals
          go_upto_region 9 with (go_at_call 22; go_loud (refine (mo_find (bl := [⟨1, 0, 0⟩]) 0 (HS.out.addBox _ _) rfl HLL.out (fun c h => rng_one h (i := 1) rfl ⟨by decide, by decide⟩ ⟨by decide, by decide⟩) right_any1).mono ?_; rintro e4 w4 ⟨ks4, ls4, A4, cap4, rfl, hf, hk, hs, _⟩; have hl := HF1.out ks4 ls4 hf hk; rw [hl]; have S1 := Lib.hid (hs.pick (ts' := [tModel [1] b 1 L]) (List.sublist_append_left [_] _)); clear hs hf hk hl HS))
          go_upto_region 10 with (go_at_call 22; go_loud (refine (mo_find (bl := [⟨2, 0, a⟩]) 0 (S1.out.addBox _ _) rfl HLL.out (fun c h => rng_one h (i := 1) rfl ⟨by decide, by decide⟩ HA.out) (right_two _ _)).mono ?_; rintro e5 w5 ⟨ks5, ls5, A5, cap5, rfl, hf, hk, hs, _⟩; have hl := HF2.out ks5 ls5 hf hk; rw [hl]; have S3 := Lib.hid (hs.pick (ts' := [tModel [1] b 1 L]) (List.sublist_append_left [_] _)); clear hs hf hk hl S1))
          go_upto_region 13 with (go_at_call 22; go_loud (refine (mo_find (bl := [⟨2, a + 1, 4294967295⟩]) 0 (S3.out.addBox _ _) rfl HLL.out (fun c h => rng_one h (i := 1) rfl HA1.out ⟨by decide, by decide⟩) (right_two _ _)).mono ?_; rintro e6 w6 ⟨ks6, ls6, A6, cap6, rfl, hf, hk, hs, _⟩; have hl := HF3.out ks6 ls6 hf hk; rw [hl]; have S4 := Lib.hid (hs.pick (ts' := [tModel [1] b 1 L]) (List.sublist_append_left [_] _)); clear hs hf hk hl S3))
          go_upto_region 14 with fail
          go_upto_region 15 with (go_at_call 23; go_loud (refine (mnil_get _ _).mono ?_; rintro e8 w8 ⟨rfl, hb⟩; have S5 := Lib.hid (S4.out.later hb); clear hb S4))
          go_wp2_with (first
            | (go_at_call 29; (refine (mo_len (n := N) 0 (S5.out.later (below_a1 _ _)) rfl HLL.out HLN.out).mono ?_; rintro e9 w9 ⟨rfl, hs, _⟩; have S6 := Lib.hid hs; clear hs S5))
            | (go_at_call 22; (refine (mo_find (bl := [⟨3, 0, 0⟩]) 0 (S6.out.addBox _ _) rfl HLL.out (fun c h => rng_one h (i := 1) rfl ⟨by decide, by decide⟩ ⟨by decide, by decide⟩) right_no).mono ?_; rintro e7 w7 ⟨ks7, ls7, A7, cap7, rfl, hf, hk, hs, _⟩; have hl := HF4.out ks7 ls7 hf hk; rw [hl]; have S7 := Lib.hid (hs.pick (ts' := [tModel [1] b 1 L]) (List.sublist_append_left [_] _)); clear hs hf hk hl S6))
            | (go_at_call 29; (refine (mnil_len _).mono ?_; rintro e10 w10 ⟨rfl, rfl⟩))
            | (go_at_call 22; (refine (mnil_find _ _ _ _).mono ?_; rintro e11 w11 ⟨rfl, rfl⟩))
            | (go_at_call 21; (refine (mnil_put _).mono ?_; rintro e12 w12 ⟨rfl, hb⟩; have S8 := Lib.hid (S7.out.later hb); clear hb S7))
            | (go_at_call 26; (refine (mnil_del _ _ _).mono ?_; rintro e13 w13 ⟨rfl, rfl⟩)))
          go_ret
          exact ⟨rfl, S8.out.end⟩
      · have hxN : x = N := by
          have : y = 0 := by rw [← hy, if_neg ha2]
          omega
        rw [hxN] at HF2
        have hsum0 : IntKind.i64.wrap (N : Int) = (N : Int) := wrap_nat64 (by omega)
        clear hN hx hy hxy ha HG HO HL hsum
        by_cases h1 : i < n
        all_goals
          go_upto_region 9 with (go_at_call 22; go_loud (refine (mo_find (bl := [⟨1, 0, 0⟩]) 0 (HS.out.addBox _ _) rfl HLL.out (fun c h => rng_one h (i := 1) rfl ⟨by decide, by decide⟩ ⟨by decide, by decide⟩) right_any1).mono ?_; rintro e4 w4 ⟨ks4, ls4, A4, cap4, rfl, hf, hk, hs, _⟩; have hl := HF1.out ks4 ls4 hf hk; rw [hl]; have S1 := Lib.hid (hs.pick (ts' := [tModel [1] b 1 L]) (List.sublist_append_left [_] _)); clear hs hf hk hl HS))
          go_upto_region 10 with (go_at_call 22; go_loud (refine (mo_find (bl := [⟨2, 0, a⟩]) 0 (S1.out.addBox _ _) rfl HLL.out (fun c h => rng_one h (i := 1) rfl ⟨by decide, by decide⟩ HA.out) (right_two _ _)).mono ?_; rintro e5 w5 ⟨ks5, ls5, A5, cap5, rfl, hf, hk, hs, _⟩; have hl := HF2.out ks5 ls5 hf hk; rw [hl]; have S3 := Lib.hid (hs.pick (ts' := [tModel [1] b 1 L]) (List.sublist_append_left [_] _)); clear hs hf hk hl S1))
          go_upto_region 13 with fail
          go_upto_region 14 with fail
          go_upto_region 15 with (go_at_call 23; go_loud (refine (mnil_get _ _).mono ?_; rintro e8 w8 ⟨rfl, hb⟩; have S5 := Lib.hid (S3.out.later hb); clear hb S3))
          go_wp2_with (first
            | (go_at_call 29; (refine (mo_len (n := N) 0 (S5.out.later (below_a1 _ _)) rfl HLL.out HLN.out).mono ?_; rintro e9 w9 ⟨rfl, hs, _⟩; have S6 := Lib.hid hs; clear hs S5))
            | (go_at_call 22; (refine (mo_find (bl := [⟨3, 0, 0⟩]) 0 (S6.out.addBox _ _) rfl HLL.out (fun c h => rng_one h (i := 1) rfl ⟨by decide, by decide⟩ ⟨by decide, by decide⟩) right_no).mono ?_; rintro e7 w7 ⟨ks7, ls7, A7, cap7, rfl, hf, hk, hs, _⟩; have hl := HF4.out ks7 ls7 hf hk; rw [hl]; have S7 := Lib.hid (hs.pick (ts' := [tModel [1] b 1 L]) (List.sublist_append_left [_] _)); clear hs hf hk hl S6))
            | (go_at_call 29; (refine (mnil_len _).mono ?_; rintro e10 w10 ⟨rfl, rfl⟩))
            | (go_at_call 22; (refine (mnil_find _ _ _ _).mono ?_; rintro e11 w11 ⟨rfl, rfl⟩))
            | (go_at_call 21; (refine (mnil_put _).mono ?_; rintro e12 w12 ⟨rfl, hb⟩; have S8 := Lib.hid (S7.out.later hb); clear hb S7))
            | (go_at_call 26; (refine (mnil_del _ _ _).mono ?_; rintro e13 w13 ⟨rfl, rfl⟩)))
          go_ret
          exact ⟨rfl, S8.out.end⟩

theorem wModelAll (W : World) (vs : List Value) (h : Sh.Args W (· < W.heap.size) [((.sl (.st (.pair (.int .u64) (.pair (.int .u64) (.pair (.sl (.int .u32) 4) .unit)))) 40), 29), ((.int .u32), 47)] vs) :
    Calls Try.prog 7 vs.toArray W fun e W' => e = .returned (.bool true) ∧ Below W.heap.size W W' := by
  obtain ⟨v0, _, rfl, ⟨a, ha⟩, v1, _, rfl, ⟨b, hb⟩, rfl⟩ := h
  obtain ⟨A, n, cap, l, rfl, _, hl⟩ := recs_open ha
  obtain ⟨v, rfl, hv⟩ := int_open hb
  exact wModelAll0 W A n cap l v (u32_of hv) hl
end Go.Proofs.Ytgdlajbkppfejaa
