/- The law GatherNewest: its walk. -/
import Derived.Test.YtpkeddiaoacfeaaGatherOne
import Derived.Test.YtpkeddiaoacfeaaRecElt
import Derived.Test.YtpkeddiaoacfeaaLaw
namespace Go.Proofs.Ytpkeddiaoacfeaa
open Go.RowKit Go.ChangeShapes
set_option maxRecDepth 100000
set_option linter.unusedVariables false
set_option linter.unusedSimpArgs false

/-- What is there: nothing, or the newest. -/
def newL (id v best : Int) : List Rec := if best = 0 then [] else [⟨id, best, [v]⟩]
theorem newL_len (id v best : Int) : (newL id v best).length ≤ 1 := by unfold newL; split <;> simp
theorem far_match {v : Int} (hv : U32 v) : matchF [⟨2, v, v⟩] [(v + 1) % 4294967296] = false := by
  obtain ⟨h1, h2⟩ := hv
  simp [matchF, inF]
  omega
theorem near_match (v : Int) : matchF [⟨2, v, v⟩] [v] = true := by simp [matchF, inF]
theorem adds_far {v : Int} (hv : U32 v) (L : List Rec) (id k : Int) : addsF [⟨2, v, v⟩] L [⟨id, k, [(v + 1) % 4294967296]⟩] = (L, 0) := by
  simp [addsF, addF, far_match hv]
theorem adds_near {v best k : Int} (id : Int) (h0 : 0 ≤ best) (hk : 1 ≤ k) : addsF [⟨2, v, v⟩] (newL id v best) [⟨id, k, [v]⟩] = (newL id v (if best < k then k else best), if best < k then 1 else 0) := by
  simp only [addsF, addF, near_match, List.foldl_cons, List.foldl_nil, if_true]
  by_cases hb : best = 0
  · subst hb
    have : (0 : Int) < k := by omega
    have hk0 : k ≠ 0 := by omega
    simp [newL, findG, this, hk0]
  · have hf : findG (newL id v best) id = some ⟨id, best, [v]⟩ := by simp [newL, findG, hb]
    rw [hf]
    by_cases hlt : best < k
    · have hk0 : k ≠ 0 := by omega
      simp [newL, hb, hlt, hk0, setG]
    · simp [hlt]
theorem upof_new {id v best : Int} {l : List Rec} (hb : best ≠ 0) (h : UpOf (newL id v best) l) : l = [⟨id, best, [v]⟩] := by
  unfold newL at h
  rw [if_neg hb] at h
  exact upof_one h
theorem newest_wraps {a : Int} (h : U64 a) : IntKind.u64.wrap (1 + a.tmod 50) = 1 + a % 50 ∧ IntKind.u64.wrap (1 + a % 50 + 100) = 1 + a % 50 + 100 := by
  obtain ⟨h1, h2⟩ := h
  rw [Int.tmod_eq_emod_of_nonneg h1]
  simp only [IntKind.wrap, IntKind.bits, IntKind.signed]
  constructor <;> simp <;> omega
theorem newest_ok {id k v : Int} (h1 : U64 id) (h2 : 0 ≤ k) (h3 : k ≤ 200) (h4 : U32 v) : Rec.ok ⟨id, k, [v]⟩ := ⟨h1, ⟨h2, by show k ≤ _; omega⟩, fun x hx => by simp at hx; subst hx; exact h4⟩
theorem u32_wf {v : Int} (h : U32 v) : (Lit.int .u32 v).wf = true := by
  have := h.1; have := h.2
  simp [Lit.wf, IntKind.min, IntKind.max, IntKind.bits, IntKind.signed]; omega

set_option maxHeartbeats 4000000 in
theorem wGatherNewest0 (W : World) (id : Int) (VA : Option Addr) (vn vc : Nat) (vs : List Int) (v : Int) (hid : U64 id) (hvs : Ints W (· < W.heap.size) .u64 8 VA vn vc vs) (hv : U32 v) :
    Calls Try.prog 4 #[.int .u64 id, .slice VA vn vc, .int .u32 v] W fun e W' => e = .returned (.bool true) ∧ Below W.heap.size W W' := by
  have HV := Lib.hid hv; have HID := Lib.hid hid; have HVS := Lib.hid hvs
  clear hv hid hvs
  have HW := Lib.hid (u32w (v + 1))
  obtain ⟨v1, hv1⟩ : ∃ v1, (v + 1) % 4294967296 = v1 := ⟨_, rfl⟩
  have HF := Lib.hid (fun (L : List Rec) (i k : Int) => adds_far HV.out L i k)
  have hw1 := HW.out
  rw [hv1] at HF hw1
  have U1 := Lib.hid (show U32 v1 by have := HV.out.1; have := HV.out.2; constructor <;> omega)
  go_enter Try.func4, Try.ntmps4
  go_wp2_with (first
    | (go_at_call 16; go_loud (refine (gnow_new W _ (below_a1 _ _) (rngs_one (Box.new _ _ _) HV.out HV.out)).mono ?_; rintro e1 w1 ⟨g, rfl, hg⟩; have HG := Lib.hid hg; clear hg))
    | (go_at_call 15; go_loud (refine (awake18 _).mono ?_; rintro e2 w2 ⟨rfl, hb⟩; have HG2 := Lib.hid (HG.out.below hb); clear hb)))
  go_loopw [8, 9] (fun s8 s9 wr => ∃ (best : Int) (i : Nat), i ≤ 30 ∧ s8 = .int .u64 best ∧ s9 = .int .i64 i ∧ 0 ≤ best ∧ best ≤ 50 ∧ GNow W g [⟨2, v, v⟩] (newL id v best) wr) (fun _ i _ => 30 - (intOf i).toNat)
  case atStart => exact ⟨0, 0, by omega, rfl, rfl, by omega, by omega, HG2.out⟩
  case round =>
    obtain ⟨best, i, hi, rfl, rfl, hb0, hb50, hs⟩ := hrel
    have HS := Lib.hid hs
    clear hs HG2 HG
    by_cases hc : i < vn ∧ i < 30
    · obtain ⟨h1, h2⟩ := hc
      obtain ⟨tb, toff, rfl, htb, htc⟩ := HVS.out.2.2.2.2.2.2 (by omega)
      have tcell := (HS.out.end.cell (p := ⟨tb, toff + i, none⟩) htb).trans (htc i h1)
      clear htc htb
      have HMEM : Hid (vs.getD i 0 ∈ vs) := by
        have hl : i < vs.length := by rw [HVS.out.1]; exact h1
        show vs.getD i 0 ∈ vs
        rw [List.getD_eq_getElem?_getD, List.getElem?_eq_getElem hl]; exact List.getElem_mem hl
      generalize vs.getD i 0 = a at *
      have HA := Lib.hid (show U64 a from u64_of (HVS.out.2.2.2.2.2.1 a HMEM.out))
      have hwk := (newest_wraps HA.out).1
      have hwk2 := (newest_wraps HA.out).2
      have hk1 : 1 ≤ 1 + a % 50 := by omega
      have hk2 : 1 + a % 50 ≤ 50 := by omega
      generalize 1 + a % 50 = k at *
      by_cases hbk : best < k
      · have HN := Lib.hid (adds_near (v := v) (best := best) (k := k) id hb0 hk1)
        rw [if_pos hbk, if_pos hbk] at HN
        have hne : k ≠ 0 := by omega
        go_wp2_with (first
          | (go_at_call 17; go_loud (refine (gnow_add HS.out (below_a2 wr _ _) (by have := newL_len id v best; omega) (by omega) (recs_one (by first | exact Box.newAt _ _ _ _ (by first | rfl | simp) ) (ints_one ((Box.new wr _ _).alloc _) (u32_wf U1.out) (.inr (Nat.le_refl _))) (newest_ok HID.out (by omega) (by omega) U1.out) (.inr (by simp)))).mono ?_; rintro e2 w2 ⟨rfl, hg2⟩; rw [HF.out] at hg2 ⊢; have HS2 := Lib.hid hg2; clear hg2 HS))
          | (go_at_call 17; go_loud (refine (gnow_add HS2.out (below_a2 w2 _ _) (by have := newL_len id v best; omega) (by omega) (recs_one (by first | exact Box.newAt _ _ _ _ (by first | rfl | simp) ) (ints_one ((Box.new w2 _ _).alloc _) (u32_wf HV.out) (.inr (Nat.le_refl _))) (newest_ok HID.out (by omega) (by omega) HV.out) (.inr (by simp)))).mono ?_; rintro e3 w3 ⟨rfl, hg3⟩; rw [HN.out] at hg3 ⊢; have HS3 := Lib.hid hg3; clear hg3 HS2))
          | (go_at_call 19; go_loud (refine (gnow_all HS3.out (by have := newL_len id v k; omega)).mono ?_; rintro e4 w4 ⟨v4, M, l, rfl, hrow, hup, hb, hg4⟩; obtain ⟨A5, c5, rfl, hat⟩ := hrow.at; obtain rfl := upof_new (by omega) hup; obtain ⟨gb, goff, rfl, _, cs, hcs, s, m, c, rfl, _, _⟩ := hat.first rfl; have d1 := hcs 1 _ rfl; have HS4 := Lib.hid hg4; clear hcs hat hrow hup hb hg4)))
        go_roundw
        case rel => exact ⟨k, i + 1, by omega, rfl, by go_num, by omega, by omega, HS4.out⟩
        case measure => simp [intOf]; omega
      · have HN := Lib.hid (adds_near (v := v) (best := best) (k := k) id hb0 hk1)
        rw [if_neg hbk, if_neg hbk] at HN
        have hbk' : k ≤ best := by omega
        have hne : best ≠ 0 := by omega
        go_wp2_with (first
          | (go_at_call 17; go_loud (refine (gnow_add HS.out (below_a2 wr _ _) (by have := newL_len id v best; omega) (by omega) (recs_one (by first | exact Box.newAt _ _ _ _ (by first | rfl | simp) ) (ints_one ((Box.new wr _ _).alloc _) (u32_wf U1.out) (.inr (Nat.le_refl _))) (newest_ok HID.out (by omega) (by omega) U1.out) (.inr (by simp)))).mono ?_; rintro e2 w2 ⟨rfl, hg2⟩; rw [HF.out] at hg2 ⊢; have HS2 := Lib.hid hg2; clear hg2 HS))
          | (go_at_call 17; go_loud (refine (gnow_add HS2.out (below_a2 w2 _ _) (by have := newL_len id v best; omega) (by omega) (recs_one (by first | exact Box.newAt _ _ _ _ (by first | rfl | simp) ) (ints_one ((Box.new w2 _ _).alloc _) (u32_wf HV.out) (.inr (Nat.le_refl _))) (newest_ok HID.out (by omega) (by omega) HV.out) (.inr (by simp)))).mono ?_; rintro e3 w3 ⟨rfl, hg3⟩; rw [HN.out] at hg3 ⊢; have HS3 := Lib.hid hg3; clear hg3 HS2))
          | (go_at_call 19; go_loud (refine (gnow_all HS3.out (by have := newL_len id v best; omega)).mono ?_; rintro e4 w4 ⟨v4, M, l, rfl, hrow, hup, hb, hg4⟩; obtain ⟨A5, c5, rfl, hat⟩ := hrow.at; obtain rfl := upof_new (by omega) hup; obtain ⟨gb, goff, rfl, _, cs, hcs, s, m, c, rfl, _, _⟩ := hat.first rfl; have d1 := hcs 1 _ rfl; have HS4 := Lib.hid hg4; clear hcs hat hrow hup hb hg4)))
        go_roundw
        case rel => exact ⟨best, i + 1, by omega, rfl, by go_num, by omega, by omega, HS4.out⟩
        case measure => simp [intOf]; omega
    · have hcc : (¬ i < vn) ∨ (i < vn ∧ ¬ i < 30) := by omega
      clear hc
      rcases hcc with h1 | ⟨h1, h2⟩
      all_goals
        go_wp2
        go_ret
        exact ⟨rfl, HS.out.end⟩

theorem wGatherNewest (W : World) (vs : List Value) (h : Sh.Args W (· < W.heap.size) [((.int .u64), 27), ((.sl (.int .u64) 8), 38), ((.int .u32), 39)] vs) :
    Calls Try.prog 4 vs.toArray W fun e W' => e = .returned (.bool true) ∧ Below W.heap.size W W' := by
  obtain ⟨v0, _, rfl, ⟨a, ha⟩, v1, _, rfl, ⟨b, hb⟩, v2, _, rfl, ⟨d, hd⟩, rfl⟩ := h
  obtain ⟨id, rfl, hid⟩ := int_open ha
  obtain ⟨ts, TA, tn, tc, rfl, hi⟩ := ints_open hb
  obtain ⟨v, rfl, hv⟩ := int_open hd
  exact wGatherNewest0 W id TA tn tc ts v (u64_of hid) hi (u32_of hv)
end Go.Proofs.Ytpkeddiaoacfeaa
