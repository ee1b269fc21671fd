/- The law ClientQueries: its walk. Conditions: none. -/
import Derived.Test.YtdpamikobmefeaaGreatQryAll
import Derived.Test.YtdpamikobmefeaaGreatCliU
import Derived.BigQuiet
namespace Go.Proofs.YtdpamikobmefeaaGreat
open Go.RowKit Go.ChangeShapes Go.Maps
set_option maxRecDepth 100000
set_option linter.unusedVariables false
set_option linter.unusedSimpArgs false

/-- Spans that were handed in. -/
def spnU : Elt Tryz.prog Spn where
  T := 56
  ST := 43
  k := 2
  bytes := 8
  zero := .agg #[.int .u32 0, .int .u32 0]
  rd := fun w D cs x => cs = encSpn x ∧ U32 x.f ∧ U32 x.t
  pos := by omega
  len := fun h => by rw [h.1]; rfl
  one := fun h u hu => by
    obtain ⟨h, _⟩ := h
    subst h; simp only [encSpn, List.mem_cons, List.not_mem_nil, or_false] at hu; rcases hu with rfl | rfl <;> rfl
  move := fun h _ => h
  und := Tryz.underlying43
  info := spn_infoE
  zlen := rfl
  blim := by omega
theorem spu_cell {w : World} {D : Nat → Prop} {A : Option Addr} {n cap i : Nat} {l : List Spn} (h : spnU.At w D A n cap l) (hi : i < n) : ∃ (b off : Nat) (x : Spn), A = some ⟨b, off, none⟩ ∧ D b ∧ l[i]? = some x ∧ w.cell? ⟨b, off + i * 2, none⟩ = some (.int .u32 x.f) ∧ w.cell? ⟨b, off + i * 2 + 1, none⟩ = some (.int .u32 x.t) ∧ U32 x.f ∧ U32 x.t := by
  obtain ⟨h1, h2, h3, h4, h5⟩ := h
  obtain ⟨b, off, rfl, hd, hc⟩ := h5 (by omega)
  obtain ⟨x, hx⟩ : ∃ x, l[i]? = some x := ⟨_, List.getElem?_eq_getElem (by omega)⟩
  obtain ⟨cs, q0, rfl, q1, q2⟩ := hc i x hx
  exact ⟨b, off, x, rfl, hd, hx, q0 0 _ rfl, q0 1 _ rfl, q1, q2⟩
/-- What is there of a query. -/
def qS (cb hm : Nat) (A : Option Addr) (oc ob g cv mb : Nat) (B : Option Addr) (bn bc : Nat) (MB : Option Addr) (mn mc : Nat) (lo hi f t st : Int) (lr : List Run) : List Thing :=
  [tHeld [2] hm [], tBlk [1] cb (cliC 1 hm A 1 oc), tRngs B bn bc [⟨2, lo, hi⟩], tGath [4] g [⟨2, lo, hi⟩] [], tBlk [3] ob (opQ st 0 5 B bn bc 0 true (some ⟨cv, 0, none⟩) g), tCov [5] cv f t lr, tAt ptrE A 1 oc [ob], tBox mb (askC 0 0 1 f t (.slice MB mn mc))]
section
variable {W w : World} {X : List Thing} {cb hm : Nat} {A : Option Addr} {oc ob g cv mb : Nat} {B : Option Addr} {bn bc : Nat} {MB : Option Addr} {mn mc : Nat} {lo hi f t st : Int} {lr : List Run}
theorem qS_col (hX : ∀ x ∈ X, x.π = []) : ∀ x ∈ qS cb hm A oc ob g cv mb B bn bc MB mn mc lo hi f t st lr ++ X, x.π = [] ∨ x.π = [1] ∨ x.π = [2] ∨ x.π = [3] ∨ x.π = [4] ∨ x.π = [5] := fun x hx => by
  rcases List.mem_append.1 hx with hx | hx
  · simp only [qS, List.mem_cons, List.not_mem_nil, or_false] at hx
    rcases hx with rfl | rfl | rfl | rfl | rfl | rfl | rfl | rfl <;> simp [tBlk, tHeld, tRngs, tGath, tCov, tAt, tBox]
  · exact .inl (hX x hx)
theorem qS_not (hX : ∀ x ∈ X, x.π = []) (q : Int) (hq : 6 ≤ q) : ∀ x ∈ qS cb hm A oc ob g cv mb B bn bc MB mn mc lo hi f t st lr ++ X, x.π ≠ [q] := fun x hx e => by
  rcases qS_col hX x hx with h | h | h | h | h | h <;> rw [h] at e <;> simp at e <;> omega
theorem q_give1 (h : Sta W (qS cb hm A oc ob g cv mb B bn bc MB mn mc lo hi f t 1 lr ++ X) w) :
    Calls Tryz.prog 13 #[.pointer (some ⟨cb, 0, none⟩), .int .i64 0, .int .i64 1] w fun e w' => e = .returned (.int .i64 0) ∧ Sta W (qS cb hm A oc ob g cv mb B bn bc MB mn mc lo hi f t 3 lr ++ X) w' :=
  give_q (k := 0) (n := 1) 1 6 4 (by omega) h rfl rfl rfl (by omega) rfl (by omega) rfl (by simp)
theorem q_give2 (h : Sta W (qS cb hm A oc ob g cv mb B bn bc MB mn mc lo hi f t 2 lr ++ X) w) :
    Calls Tryz.prog 13 #[.pointer (some ⟨cb, 0, none⟩), .int .i64 0, .int .i64 1] w fun e w' => e = .returned (.int .i64 15) ∧ Sta W (qS cb hm A oc ob g cv mb B bn bc MB mn mc lo hi f t 2 lr ++ X) w' :=
  give_no (k := 0) (n := 1) 1 6 4 (by omega) h rfl rfl rfl (by omega) rfl (by omega) rfl (by omega)
theorem q_out1 (h : Sta W (qS cb hm A oc ob g cv mb B bn bc MB mn mc lo hi f t 1 lr ++ X) w) (hX : ∀ x ∈ X, x.π = []) (hl : lr.length ≤ 900) :
    Calls Tryz.prog 14 #[.pointer (some ⟨cb, 0, none⟩), .int .i64 0, .int .i64 1] w fun e w' => ∃ (D : Option Addr) (c : Nat), e = .returned (.tuple #[.agg (outC 1 1 0 (.slice none 0 0) (.slice D (othersF lr (sizeF f t)).length c) (.slice none 0 0)), .int .i64 0]) ∧ Sta W (qS cb hm A oc ob g cv mb B bn bc MB mn mc lo hi f t 1 lr ++ X ++ [tAt spnE D (othersF lr (sizeF f t)).length c ((othersF lr (sizeF f t)).map (spnF f))]) w' :=
  out_wait (k := 0) (n := 1) 1 6 4 3 (by omega) h rfl rfl rfl (by omega) rfl (by omega) rfl rfl 5 rfl (by omega) (fun x hx => ⟨qS_not hX 13 (by omega) x hx, qS_not hX 14 (by omega) x hx⟩)
theorem q_out2 (h : Sta W (qS cb hm A oc ob g cv mb B bn bc MB mn mc lo hi f t 2 lr ++ X) w) (hX : ∀ x ∈ X, x.π = []) :
    Calls Tryz.prog 14 #[.pointer (some ⟨cb, 0, none⟩), .int .i64 0, .int .i64 1] w fun e w' => ∃ D, e = .returned (.tuple #[.agg (outC 1 2 0 (.slice D 0 0) (.slice none 0 0) (.slice none 0 0)), .int .i64 0]) ∧ Sta W (qS cb hm A oc ob g cv mb B bn bc MB mn mc lo hi f t 2 lr ++ X) w' :=
  (out_done (k := 0) (n := 1) (L := []) (all := []) (rest := []) (m := 0) 1 6 4 3 (by omega) h rfl rfl rfl (by omega) rfl (by omega) rfl rfl (fun x hx => ⟨qS_not hX 13 (by omega) x hx, qS_not hX 14 (by omega) x hx⟩) (by simp) ⟨List.Pairwise.nil, fun r => Iff.rfl⟩ rfl rfl rfl).mono fun e w' ⟨D, h1, h2⟩ => ⟨D, h1, h2.pick (List.sublist_append_left _ _)⟩
theorem q_out3 (h : Sta W (qS cb hm A oc ob g cv mb B bn bc MB mn mc lo hi f t 3 lr ++ X) w) (hX : ∀ x ∈ X, x.π = []) (hl : lr.length ≤ 900) :
    Calls Tryz.prog 14 #[.pointer (some ⟨cb, 0, none⟩), .int .i64 0, .int .i64 1] w fun e w' => ∃ (E D : Option Addr) (c : Nat), e = .returned (.tuple #[.agg (outC 1 3 0 (.slice E 0 0) (.slice D (othersF lr (sizeF f t)).length c) (.slice none 0 0)), .int .i64 0]) ∧ Sta W (qS cb hm A oc ob g cv mb B bn bc MB mn mc lo hi f t 3 lr ++ X) w' :=
  (out_part (k := 0) (n := 1) (L := []) (all := []) (rest := []) (m := 0) 1 6 4 3 (by omega) h rfl rfl rfl (by omega) rfl (by omega) rfl rfl 5 rfl (by omega) (fun x hx => ⟨qS_not hX 13 (by omega) x hx, qS_not hX 14 (by omega) x hx⟩) (by simp) ⟨List.Pairwise.nil, fun r => Iff.rfl⟩ rfl rfl rfl).mono fun e w' ⟨E, D, c, h1, h2⟩ => ⟨E, D, c, h1, h2.pick (List.sublist_append_left _ _)⟩
theorem q_retry1 (h : Sta W (qS cb hm A oc ob g cv mb B bn bc MB mn mc lo hi f t 1 lr ++ X) w) (hX : ∀ x ∈ X, x.π = []) (hl : lr.length ≤ 900) :
    Calls Tryz.prog 12 #[.pointer (some ⟨cb, 0, none⟩), .int .i64 0, .int .i64 1] w fun e w' => ∃ D c, e = .returned (.tuple #[.slice D (othersF lr (sizeF f t)).length c, .int .i64 0]) ∧ Sta W (qS cb hm A oc ob g cv mb B bn bc MB mn mc lo hi f t 1 lr ++ X ++ [tAt msgE D (othersF lr (sizeF f t)).length c (((othersF lr (sizeF f t)).map (spnF f)).map (askM 0 0 1 [⟨2, lo, hi⟩]))]) w' := by
  have hbn : bn = 1 := (h.rngs (i := 2) (A := B) (n := bn) (cap := bc) (xs := [⟨2, lo, hi⟩]) rfl).1.symm
  exact retry_q (k := 0) (n := 1) 1 6 4 5 2 (by omega) h rfl rfl rfl (by omega) rfl (by omega) rfl rfl rfl (by omega) (by omega) (fun x hx => ⟨qS_not hX 17 (by omega) x hx, qS_not hX 18 (by omega) x hx, qS_not hX 19 (by omega) x hx⟩) (fun x hx => qS_not hX 16 (by omega) x hx) (fun x hx => ⟨qS_not hX 21 (by omega) x hx, qS_not hX 22 (by omega) x hx⟩)
theorem q_retry2 (h : Sta W (qS cb hm A oc ob g cv mb B bn bc MB mn mc lo hi f t 2 lr ++ X) w) :
    Calls Tryz.prog 12 #[.pointer (some ⟨cb, 0, none⟩), .int .i64 0, .int .i64 1] w fun e w' => e = .returned (.tuple #[.slice none 0 0, .int .i64 15]) ∧ Sta W (qS cb hm A oc ob g cv mb B bn bc MB mn mc lo hi f t 2 lr ++ X) w' :=
  retry_no (k := 0) (n := 1) 1 6 4 (by omega) h rfl rfl rfl (by omega) rfl (by omega) rfl (by omega)
theorem q_hear1 {sf sg : Int} (h : Sta W (qS cb hm A oc ob g cv mb B bn bc MB mn mc lo hi f t 1 lr ++ X) w) (hX : ∀ x ∈ X, x.π = []) (hl : lr.length ≤ 900) (hf : U32 f) (ht : U32 t) (h1 : U32 sf) (h2 : U32 sg) (hok : RunsOk (sizeF f t) lr) :
    Calls Tryz.prog 16 #[.pointer (some ⟨cb, 0, none⟩), .agg (ansC 0 0 1 sf sg none 0 0)] w fun e w' => e = .returned (.bool true) ∧ Sta W (qS cb hm A oc ob g cv mb B bn bc MB mn mc lo hi f t (qstF f t (covF f t sf sg lr)) (covF f t sf sg lr) ++ X) w' :=
  hear_ans (k := 0) (n := 1) (L := []) (recs := []) (attrs := 1) 1 6 4 5 3 (by omega) h rfl rfl rfl rfl (by omega) rfl (by omega) rfl rfl rfl (by omega) (by simp) (fun x hx => ⟨qS_not hX 15 (by omega) x hx, qS_not hX 16 (by omega) x hx⟩) hf ht h1 h2 hok hl (by simp) (by omega) (fun c h => Elt.At.nil _ _) (by simp) (by omega) (by omega) (by omega) (by omega)
theorem q_hear2 {sf sg : Int} (hst : st ≠ 1) (h : Sta W (qS cb hm A oc ob g cv mb B bn bc MB mn mc lo hi f t st lr ++ X) w) :
    Calls Tryz.prog 16 #[.pointer (some ⟨cb, 0, none⟩), .agg (ansC 0 0 1 sf sg none 0 0)] w fun e w' => e = .returned (.bool false) ∧ Sta W (qS cb hm A oc ob g cv mb B bn bc MB mn mc lo hi f t st lr ++ X) w' :=
  hear_no (k := 0) (n := 1) (recs := []) (L := []) (bl := []) (l := []) (f := 0) (t := 0) (πg := []) (πv := []) (attrs := 1) (hub := 0) 1 6 4 (by omega) h rfl rfl rfl rfl (by omega) rfl (by omega) hst rfl (by omega) (fun c h => Elt.At.nil _ _) (by simp) (by omega) (by omega) (by omega) (by omega)
end
theorem between_right (lo hi : Int) : rightB 1 [⟨2, lo, hi⟩] = true := by unfold rightB kindF; simp
theorem between_some (lo hi : Int) : emptyB [⟨2, lo, hi⟩] = false := by unfold emptyB oneTwo; simp
set_option maxHeartbeats 8000000 in
theorem wClientQueries0 (W : World) (k0 lo hi gv : Int) (A : Option Addr) (n cap : Nat) (ls : List Spn) (hlo : U32 lo) (hhi : U32 hi) (hls : spnU.At W (· < W.heap.size) A n cap ls) :
    Calls Tryz.prog 6 #[.agg #[.int .i64 k0, .int .u32 lo, .int .u32 hi], .slice A n cap, .int .i64 gv] W fun e W' => e = .returned (.bool true) ∧ Below W.heap.size W W' := by
  have S0 := Lib.hid (Sta.start W)
  have HLS := Lib.hid hls
  have HLO := Lib.hid hlo; have HHI := Lib.hid hhi
  have HBR := Lib.hid (between_right lo hi); have HBE := Lib.hid (between_some lo hi)
  clear hls hlo hhi
  go_enter Tryz.func6, Tryz.ntmps6
  go_upto_region 2 with fail
  refine wp_abs (fun wx => Sta W [tBox W.heap.size #[.int .i64 2, .int .u32 lo, .int .u32 hi]] wx) (S0.out.addBox #[.int .i64 2, .int .u32 lo, .int .u32 hi] 29) ?_
  generalize W.heap.size = rb
  intro wx hsx
  have S1 := Lib.hid hsx
  clear hsx S0
  go_upto_region 3 with (go_at_call 7; go_loud (refine (cli_new [1] [2] 1 (by omega) (by omega) S1.out (by simp) (by simp) (by simp) (by simp [tBox])).mono ?_; rintro e1 w1 ⟨cb, hm, rfl, hs⟩; have S2 := Lib.hid hs; clear hs S1))
  go_upto_region 5 with (go_at_call 8; go_loud (refine (awake22 _).mono ?_; rintro e2 w2 ⟨rfl, hb⟩; have S3 := Lib.hid (S2.out.later hb); clear hb S2))
  have hbx := S3.out.box (i := 0) (b := rb) (C := #[.int .i64 2, .int .u32 lo, .int .u32 hi]) rfl
  have d0 : w2.cell? ⟨rb, 0, none⟩ = some (.int .i64 2) := hbx.cell 0
  have d1 : w2.cell? ⟨rb, 1, none⟩ = some (.int .u32 lo) := hbx.cell 1
  have d2 : w2.cell? ⟨rb, 2, none⟩ = some (.int .u32 hi) := hbx.cell 2
  have zb := hbx.lt
  have S4 := Lib.hid ((S3.out.addD (t := tAt ptrE none 0 0 []) rfl fun c h => Elt.At.nil _ _).addBox #[.int .i64 2, .int .u32 lo, .int .u32 hi] 29)
  have HBX := Lib.hid (fun (c : Col) (h : S0 W ([tBox rb #[.int .i64 2, .int .u32 lo, .int .u32 hi]] ++ [tHeld [2] hm [], tBlk [1] cb (cli0 1 hm)] ++ [tAt ptrE none 0 0 []] ++ [tBox w2.heap.size #[.int .i64 2, .int .u32 lo, .int .u32 hi]]) c (w2.alloc (.cells #[.int .i64 2, .int .u32 lo, .int .u32 hi] 29))) => (show RngsAt _ (Quiet c _) (some ⟨w2.heap.size, 0, none⟩) 1 1 [⟨2, lo, hi⟩] from rngsAt (Elt.At.one (E := rngE) (x := ⟨2, lo, hi⟩) (h.box (i := 4) rfl).1 (h.box (i := 4) rfl).2 ⟨rfl, HLO.out, HHI.out⟩) (by omega)))
  have HQ := Lib.hid (qry_wait (k := 0) (q := 0) (attrs := 1) (page := 5) (on := 0) (πo := [3]) (πg := [4]) (πv := [5]) (r0 := ⟨2, lo, hi⟩) 2 3 (by omega) S4.out rfl (by simp) rfl rfl rfl (fun _ => rfl) (by omega) HBX.out HBR.out (by omega) (by omega) (by omega) HBE.out rfl (by simp) (by simp) (by simp) (by simp) (by simp) (by simp) (by simp) (by simp [tBox, tHeld, tBlk, tAt]) (by simp [tBox, tHeld, tBlk, tAt]) (by simp [tBox, tHeld, tBlk, tAt]))
  clear hbx S3 HBX S4
  go_upto_region 6 with (go_at_call 11; go_loud (refine HQ.out.mono ?_; rintro e6 w6 ⟨A6, c6, ob, g, cv, mb, B6, bn6, bc6, MB6, mn6, mc6, rfl, hs6⟩; have S5 := Lib.hid hs6; clear hs6))
  obtain ⟨f, hf⟩ : ∃ f, (spanF ⟨2, lo, hi⟩).1 = f := ⟨_, rfl⟩
  obtain ⟨t, ht⟩ : ∃ t, (spanF ⟨2, lo, hi⟩).2 = t := ⟨_, rfl⟩
  have HF := Lib.hid (show U32 f from by rw [← hf]; show U32 ((lo - 1) % 4294967296); exact ⟨by omega, by omega⟩)
  have HT := Lib.hid (show U32 t from by rw [← ht]; exact HHI.out)
  rw [hf, ht] at S5
  have S6 := Lib.hid (show Sta W (qS cb hm A6 c6 ob g cv mb B6 bn6 bc6 MB6 mn6 mc6 lo hi f t 1 [] ++ [tAt spnU A n cap ls]) w6 from
    (S5.out.pick (ts' := qS cb hm A6 c6 ob g cv mb B6 bn6 bc6 MB6 mn6 mc6 lo hi f t 1 []) (.cons _ (.cons_cons _ (.cons_cons _ (.cons _ (.cons _ (.cons_cons _ (.cons_cons _ (.cons_cons _ (.cons_cons _ (.cons_cons _ (.cons_cons _ (List.nil_sublist _))))))))))))).addAt HLS.out)
  clear S5 hf ht HQ HBR HBE d0 d1 d2 zb
  have hsz := size_pos HF.out HT.out
  have H0 := Lib.hid (show ([] : List Run) = [] ∧ RunsOk (sizeF f t) [] ∧ ¬ othersF [] (sizeF f t) = [] from ⟨rfl, RunsOk.nil _, fun e => by
    have := (left_gaps (RunsOk.nil (sizeF f t)) (by omega)).2.2 e
    simp [sumR] at this
    omega⟩)
  have HN := Lib.hid (show ls.length = n from (S6.out.at (E := spnU) (i := 8) rfl).1)
  clear hsz
  go_upto_region 9 with fail
  go_loopw [12] (fun s12 wr => ∃ (i : Nat) (st : Int) (lr : List Run), i ≤ n ∧ i ≤ 20 ∧ s12 = .int .i64 i ∧ lr.length ≤ 2 * i ∧ RunsOk (sizeF f t) lr ∧ ((st = 1 ∧ ¬ othersF lr (sizeF f t) = []) ∨ st = 2) ∧ Sta W (qS cb hm A6 c6 ob g cv mb B6 bn6 bc6 MB6 mn6 mc6 lo hi f t st lr ++ [tAt spnU A n cap ls]) wr) (fun s _ => 21 - (intOf s).toNat)
  case atStart => exact ⟨0, 1, [], by omega, by omega, rfl, by simp, H0.out.2.1, .inl ⟨rfl, H0.out.2.2⟩, S6.out⟩
  case round =>
    obtain ⟨i, st, lr, hile, hi20, rfl, hlen, hok, hst, hs⟩ := hrel
    have HS := Lib.hid hs; have HOK := Lib.hid hok
    clear S6 hok
    by_cases hlt : i < n
    · have hlt' : (i : Int) < (n : Int) := by omega
      by_cases h20 : i < 20
      · have h20' : (i : Int) < 20 := by omega
        obtain ⟨bb, off, x, rfl, zx, hx, d0, d1, u1, u2⟩ := spu_cell (hs.at (E := spnU) (i := 8) rfl) hlt
        have zx : bb < wr.heap.size := zx
        obtain ⟨xf, xt⟩ := x
        dsimp only at *
        have U1 := Lib.hid u1; have U2 := Lib.hid u2
        clear hs hx u1 u2
        by_cases hg : (i : Int) = gv
        · have hgb : ((i : Int) == gv) = true := by simp [hg]
          clear d0 d1 zx
          rcases hst with ⟨rfl, hne⟩ | rfl
          · have HNE := Lib.hid hne
            have HG1 := Lib.hid (q_give1 HS.out)
            clear hne HS
            go_upto_region 15 with (go_at_call 13; go_loud (refine HG1.out.mono ?_; rintro e7 w7 ⟨rfl, hs7⟩; have S7 := Lib.hid hs7; clear hs7 HG1))
            have HO3 := Lib.hid (q_out3 S7.out (by simp [tAt]) (by omega))
            obtain ⟨m, hm⟩ : ∃ m, (othersF lr (sizeF f t)).length = m := ⟨_, rfl⟩
            have hm0 : 0 < m := by
              rw [← hm]
              rcases Nat.eq_zero_or_pos (othersF lr (sizeF f t)).length with h | h
              · exact absurd (List.eq_nil_of_length_eq_zero h) HNE.out
              · exact h
            have hm0' : (0 : Int) < (m : Int) := by omega
            rw [hm] at HO3
            clear hm S7
            go_upto_region 16 with (go_at_call 14; go_loud (refine HO3.out.mono ?_; rintro e8 w8 ⟨E8, D8, c8, rfl, hs8⟩; have S8 := Lib.hid hs8; clear hs8 HO3))
            refine wp_abs (fun wx => Sta W (qS cb hm A6 c6 ob g cv mb B6 bn6 bc6 MB6 mn6 mc6 lo hi f t 3 lr ++ [tAt spnU (some ⟨bb, off, none⟩) n cap ls, tBox w8.heap.size (outC 1 3 0 (.slice E8 0 0) (.slice D8 m c8) (.slice none 0 0))]) wx) (by
              have q := S8.out.addBox (outC 1 3 0 (.slice E8 0 0) (.slice D8 m c8) (.slice none 0 0)) 45
              rw [List.append_assoc] at q
              exact q) ?_
            generalize w8.heap.size = xb
            intro wx hsx
            have SX := Lib.hid hsx
            have hbx := hsx.box (i := 9) (b := xb) rfl
            have x1 : wx.cell? ⟨xb, 1, none⟩ = some (.int .i64 3) := hbx.cell 1
            have x4 : wx.cell? ⟨xb, 4, none⟩ = some (.slice D8 m c8) := hbx.cell 4
            have zx := hbx.lt
            have hbm := hsx.box (i := 7) (b := mb) rfl
            have m14 : wx.cell? ⟨mb, 14, none⟩ = some (.int .u32 f) := hbm.cell 14
            have m15 : wx.cell? ⟨mb, 14 + 1, none⟩ = some (.int .u32 t) := hbm.cell 15
            have zm := hbm.lt
            have HH := Lib.hid (q_hear2 (sf := f) (sg := t) (by omega) SX.out)
            clear hsx hbx hbm S8
            go_wp2_with (go_at_call 16; go_loud (refine HH.out.mono ?_; rintro e9 w9 ⟨rfl, hs9⟩; have SY := Lib.hid hs9; clear hs9 HH))
            go_ret
            exact ⟨rfl, SY.out.end⟩
          · have HG2 := Lib.hid (q_give2 HS.out)
            clear HS
            go_upto_region 13 with (go_at_call 13; go_loud (refine HG2.out.mono ?_; rintro e7 w7 ⟨rfl, hs7⟩; have S7 := Lib.hid hs7; clear hs7 HG2))
            have HO2 := Lib.hid (q_out2 S7.out (by simp [tAt]))
            clear S7
            go_upto_region 14 with (go_at_call 14; go_loud (refine HO2.out.mono ?_; rintro e8 w8 ⟨D8, rfl, hs8⟩; have S8 := Lib.hid hs8; clear hs8 HO2))
            go_wp2
            go_ret
            exact ⟨rfl, (S8.out.later (below_a1 _ _)).end⟩
        · have hgb : ((i : Int) == gv) = false := by simp [hg]
          rcases hst with ⟨rfl, hne⟩ | rfl
          · have HH1 := Lib.hid (q_hear1 HS.out (by simp [tAt]) (by omega) HF.out HT.out U1.out U2.out HOK.out)
            have hll := covF_len f t xf xt lr
            have HOK2 := Lib.hid (covF_ok HF.out HT.out U1.out U2.out HOK.out)
            obtain ⟨lr2, hl2⟩ : ∃ lr2, covF f t xf xt lr = lr2 := ⟨_, rfl⟩
            rw [hl2] at HH1 hll HOK2
            by_cases hne2 : othersF lr2 (sizeF f t) = []
            · have hq : qstF f t lr2 = 2 := if_pos hne2
              rw [hq] at HH1
              clear hl2 hne hne2 HS hq
              go_upto_region 18 with (go_at_call 16; go_loud (refine HH1.out.mono ?_; rintro e7 w7 ⟨rfl, hs7⟩; have SH := Lib.hid hs7; clear hs7 HH1))
              clear d0 d1 zx
              have HO2 := Lib.hid (q_out2 (X := [tAt spnU (some ⟨bb, off, none⟩) n cap ls]) SH.out (by simp [tAt]))
              clear SH
              go_upto_region 19 with (go_at_call 14; go_loud (refine HO2.out.mono ?_; rintro e8 w8 ⟨D8, rfl, hs8⟩; have S8 := Lib.hid hs8; clear hs8 HO2))
              have S9 := Lib.hid (show Sta W (qS cb hm A6 c6 ob g cv mb B6 bn6 bc6 MB6 mn6 mc6 lo hi f t 2 lr2 ++ [tAt spnU (some ⟨bb, off, none⟩) n cap ls, tBox w8.heap.size (outC 1 2 0 (.slice D8 0 0) (.slice none 0 0) (.slice none 0 0))]) (w8.alloc (.cells (outC 1 2 0 (.slice D8 0 0) (.slice none 0 0) (.slice none 0 0)) 45)) from by
                have q := S8.out.addBox (outC 1 2 0 (.slice D8 0 0) (.slice none 0 0) (.slice none 0 0)) 45
                rw [List.append_assoc] at q
                exact q)
              refine wp_abs (fun wx => Sta W (qS cb hm A6 c6 ob g cv mb B6 bn6 bc6 MB6 mn6 mc6 lo hi f t 2 lr2 ++ [tAt spnU (some ⟨bb, off, none⟩) n cap ls, tBox w8.heap.size (outC 1 2 0 (.slice D8 0 0) (.slice none 0 0) (.slice none 0 0))]) wx) S9.out ?_
              generalize w8.heap.size = xb
              intro wx hsx
              have SX := Lib.hid hsx
              clear hsx S8 S9
              have HRT2 := Lib.hid (q_retry2 SX.out)
              go_upto_region 20 with (go_at_call 12; go_loud (refine HRT2.out.mono ?_; rintro e9 w9 ⟨rfl, hs9⟩; have SY := Lib.hid hs9; clear hs9 HRT2 SX))
              have hbx := SY.out.box (i := 9) (b := xb) rfl
              have x1 : w9.cell? ⟨xb, 1, none⟩ = some (.int .i64 2) := hbx.cell 1
              have x4 : w9.cell? ⟨xb, 4, none⟩ = some (.slice none 0 0) := hbx.cell 4
              have zx := hbx.lt
              clear hbx
              go_upto_region 23 with fail
              clear x1 x4 zx
              go_loopw [21] (fun s21 wq => s21 = .int .i64 0 ∧ w9 = wq) (fun _ _ => 0)
              case atStart => exact ⟨rfl, rfl⟩
              case round =>
                obtain ⟨rfl, rfl⟩ := hrel
                go_wp2
                go_roundw
                case rel => exact ⟨i + 1, 2, lr2, by omega, by omega, by go_num, by omega, HOK2.out, .inr rfl, SY.out.pick (List.Sublist.append (List.Sublist.refl _) (.cons_cons _ (List.nil_sublist _)))⟩
                case measure => simp [intOf]; omega
            · have hq : qstF f t lr2 = 1 := if_neg hne2
              rw [hq] at HH1
              have hne := hne2
              clear hl2 hne2 HS hq
              have HNE0 := Lib.hid hne
              clear hne
              go_upto_region 18 with (go_at_call 16; go_loud (refine HH1.out.mono ?_; rintro e7 w7 ⟨rfl, hs7⟩; have SH := Lib.hid hs7; clear hs7 HH1))
              clear d0 d1 zx
              have hne := HNE0.out
              clear HNE0
              have HO1 := Lib.hid (q_out1 (X := [tAt spnU (some ⟨bb, off, none⟩) n cap ls]) SH.out (by simp [tAt]) (by omega))
              obtain ⟨gp, hgp⟩ : ∃ gp, othersF lr2 (sizeF f t) = gp := ⟨_, rfl⟩
              obtain ⟨G, hG⟩ : ∃ G, gp.map (spnF f) = G := ⟨_, rfl⟩
              have hGl : G.length = gp.length := by rw [← hG, List.length_map]
              obtain ⟨m, hm9⟩ : ∃ m, gp.length = m := ⟨_, rfl⟩
              have hm0 : 0 < m := by
                rw [← hm9]
                rcases Nat.eq_zero_or_pos gp.length with h | h
                · exact absurd (hgp.trans (List.eq_nil_of_length_eq_zero h)) hne
                · exact h
              rw [hm9] at hGl
              have hmL : m ≤ lr2.length + 1 := by
                have := others_len (sizeF f t) (lr2 ++ [⟨sizeF f t, sizeF f t⟩]) ([], 0)
                rw [← hm9, ← hgp]
                unfold othersF
                simp only [List.length_append, List.length_cons, List.length_nil] at this
                omega
              have HGL := Lib.hid hGl
              rw [hgp, hm9, hG] at HO1
              have HRT := Lib.hid (fun (Y : List Thing) (wq : World) (hY : ∀ x ∈ Y, x.π = []) (hq : Sta W (qS cb hm A6 c6 ob g cv mb B6 bn6 bc6 MB6 mn6 mc6 lo hi f t 1 lr2 ++ Y) wq) => q_retry1 hq hY (by omega))
              rw [hgp, hm9, hG] at HRT
              have HNE := Lib.hid hne
              have hm0' : ((m : Int) == 0) = false := by rw [beq_eq_false_iff_ne]; omega
              have hmm : ((m : Int) != (m : Int)) = false := by simp
              clear hne hgp hG hm9 hGl SH
              go_upto_region 19 with (go_at_call 14; go_loud (refine HO1.out.mono ?_; rintro e8 w8 ⟨D8, c8, rfl, hs8⟩; have S8 := Lib.hid hs8; clear hs8 HO1))
              have S9 := Lib.hid (show Sta W (qS cb hm A6 c6 ob g cv mb B6 bn6 bc6 MB6 mn6 mc6 lo hi f t 1 lr2 ++ [tAt spnU (some ⟨bb, off, none⟩) n cap ls, tAt spnE D8 m c8 G, tBox w8.heap.size (outC 1 1 0 (.slice none 0 0) (.slice D8 m c8) (.slice none 0 0))]) (w8.alloc (.cells (outC 1 1 0 (.slice none 0 0) (.slice D8 m c8) (.slice none 0 0)) 45)) from by
                have q := S8.out.addBox (outC 1 1 0 (.slice none 0 0) (.slice D8 m c8) (.slice none 0 0)) 45
                rw [List.append_assoc, List.append_assoc] at q
                exact q)
              refine wp_abs (fun wx => Sta W (qS cb hm A6 c6 ob g cv mb B6 bn6 bc6 MB6 mn6 mc6 lo hi f t 1 lr2 ++ [tAt spnU (some ⟨bb, off, none⟩) n cap ls, tAt spnE D8 m c8 G, tBox w8.heap.size (outC 1 1 0 (.slice none 0 0) (.slice D8 m c8) (.slice none 0 0))]) wx) S9.out ?_
              generalize w8.heap.size = xb
              intro wx hsx
              have SX := Lib.hid hsx
              clear hsx S8 S9
              have HRT2 := Lib.hid (HRT.out [tAt spnU (some ⟨bb, off, none⟩) n cap ls, tAt spnE D8 m c8 G, tBox xb (outC 1 1 0 (.slice none 0 0) (.slice D8 m c8) (.slice none 0 0))] _ (by simp [tAt, tBox]) SX.out)
              clear HRT
              go_upto_region 20 with (go_at_call 12; go_loud (refine HRT2.out.mono ?_; rintro e9 w9 ⟨D9, c9, rfl, hs9⟩; have SY := Lib.hid hs9; clear hs9 HRT2 SX))
              have SZ := Lib.hid (show Sta W (qS cb hm A6 c6 ob g cv mb B6 bn6 bc6 MB6 mn6 mc6 lo hi f t 1 lr2 ++ [tAt spnU (some ⟨bb, off, none⟩) n cap ls, tAt spnE D8 m c8 G, tBox xb (outC 1 1 0 (.slice none 0 0) (.slice D8 m c8) (.slice none 0 0)), tAt msgE D9 m c9 (G.map (askM 0 0 1 [⟨2, lo, hi⟩]))]) w9 from by have q := SY.out; rw [List.append_assoc] at q; exact q)
              have hbx := SZ.out.box (i := 10) (b := xb) rfl
              have x1 : w9.cell? ⟨xb, 1, none⟩ = some (.int .i64 1) := hbx.cell 1
              have x4 : w9.cell? ⟨xb, 4, none⟩ = some (.slice D8 m c8) := hbx.cell 4
              have zx := hbx.lt
              clear hbx SY
              go_upto_region 23 with fail
              clear x1 x4 zx
              go_loopw [21] (fun s21 wq => ∃ u : Nat, u ≤ m ∧ s21 = .int .i64 u ∧ Sta W (qS cb hm A6 c6 ob g cv mb B6 bn6 bc6 MB6 mn6 mc6 lo hi f t 1 lr2 ++ [tAt spnU (some ⟨bb, off, none⟩) n cap ls, tAt spnE D8 m c8 G, tBox xb (outC 1 1 0 (.slice none 0 0) (.slice D8 m c8) (.slice none 0 0)), tAt msgE D9 m c9 (G.map (askM 0 0 1 [⟨2, lo, hi⟩]))]) wq) (fun s _ => m - (intOf s).toNat)
              case atStart => exact ⟨0, Nat.zero_le _, rfl, SZ.out⟩
              case round =>
                obtain ⟨u, hu, rfl, hs⟩ := hrel
                have HU := Lib.hid hs
                clear SZ
                by_cases hum : u < m
                · have hum' : (u : Int) < (m : Int) := by omega
                  have hbx := hs.box (i := 10) (b := xb) rfl
                  have x4 : wr.cell? ⟨xb, 4, none⟩ = some (.slice D8 m c8) := hbx.cell 4
                  have zx := hbx.lt
                  obtain ⟨gb, go, y, rfl, zg, hy, g0, g1⟩ := spn_cell (hs.at (E := spnE) (i := 9) rfl) hum
                  have zg : gb < wr.heap.size := zg
                  obtain ⟨yf, yt⟩ := y
                  obtain ⟨a1, a2, a3, a4, a5⟩ := hs.at (E := msgE) (i := 11) (A := D9) (n := m) (cap := c9) rfl
                  obtain ⟨kb, ko, rfl, zk, hk⟩ := a5 (by omega)
                  have zk : kb < wr.heap.size := zk
                  obtain ⟨cs, q0, s1, l1, p1, b1, b2, b3, r1, r2, r3, rfl, -⟩ := hk u (askM 0 0 1 [⟨2, lo, hi⟩] ⟨yf, yt⟩) (by rw [List.getElem?_map, hy]; rfl)
                  have k0' : wr.cell? ⟨kb, ko + u * 18, none⟩ = some (.int .i64 5) := q0 0 _ rfl
                  have k14 : wr.cell? ⟨kb, ko + u * 18 + 14, none⟩ = some (.int .u32 yf) := q0 14 _ rfl
                  have k15 : wr.cell? ⟨kb, ko + u * 18 + 14 + 1, none⟩ = some (.int .u32 yt) := q0 15 _ rfl
                  dsimp only at *
                  clear hs hbx hy a1 a2 a3 a4 a5 hk q0
                  have e1 : (yf != yf) = false := by simp
                  have e2 : (yt != yt) = false := by simp
                  go_upto_region 25 with fail
                  go_quiet (fail)
                  all_goals
                    go_wp2
                    go_roundw
                    case rel => exact ⟨u + 1, by omega, by go_num, HU.out.later (by repeat (first | exact Below.refl _ _ | assumption | apply Below.drew | apply belowN | (refine Below.alloc ?_ (by first | exact Nat.le_refl _ | (simp; done) | (simp; omega)) _) | (refine Below.setCell ?_ (by first | exact Nat.le_refl _ | (simp; done) | (simp; omega)) _)))⟩
                    case measure => simp [intOf]; omega
                · obtain rfl : u = m := by omega
                  have hum' : ¬ (u : Int) < (u : Int) := by omega
                  go_wp2
                  go_roundw
                  case rel => exact ⟨i + 1, 1, lr2, by omega, by omega, by go_num, by omega, HOK2.out, .inl ⟨rfl, HNE.out⟩, HU.out.pick (List.Sublist.append (List.Sublist.refl _) (.cons_cons _ (List.nil_sublist _)))⟩
                  case measure => simp [intOf]; omega
          · have HH2 := Lib.hid (q_hear2 (sf := xf) (sg := xt) (by omega) HS.out)
            obtain ⟨lr2, hl2⟩ : ∃ lr2, lr = lr2 := ⟨_, rfl⟩
            subst hl2
            have HOK2 := HOK
            clear HS
            go_upto_region 18 with (go_at_call 16; go_loud (refine HH2.out.mono ?_; rintro e7 w7 ⟨rfl, hs7⟩; have SH := Lib.hid hs7; clear hs7 HH2))
            clear d0 d1 zx
            have HO2 := Lib.hid (q_out2 (X := [tAt spnU (some ⟨bb, off, none⟩) n cap ls]) SH.out (by simp [tAt]))
            clear SH
            go_upto_region 19 with (go_at_call 14; go_loud (refine HO2.out.mono ?_; rintro e8 w8 ⟨D8, rfl, hs8⟩; have S8 := Lib.hid hs8; clear hs8 HO2))
            have S9 := Lib.hid (show Sta W (qS cb hm A6 c6 ob g cv mb B6 bn6 bc6 MB6 mn6 mc6 lo hi f t 2 lr ++ [tAt spnU (some ⟨bb, off, none⟩) n cap ls, tBox w8.heap.size (outC 1 2 0 (.slice D8 0 0) (.slice none 0 0) (.slice none 0 0))]) (w8.alloc (.cells (outC 1 2 0 (.slice D8 0 0) (.slice none 0 0) (.slice none 0 0)) 45)) from by
              have q := S8.out.addBox (outC 1 2 0 (.slice D8 0 0) (.slice none 0 0) (.slice none 0 0)) 45
              rw [List.append_assoc] at q
              exact q)
            refine wp_abs (fun wx => Sta W (qS cb hm A6 c6 ob g cv mb B6 bn6 bc6 MB6 mn6 mc6 lo hi f t 2 lr ++ [tAt spnU (some ⟨bb, off, none⟩) n cap ls, tBox w8.heap.size (outC 1 2 0 (.slice D8 0 0) (.slice none 0 0) (.slice none 0 0))]) wx) S9.out ?_
            generalize w8.heap.size = xb
            intro wx hsx
            have SX := Lib.hid hsx
            clear hsx S8 S9
            have HRT2 := Lib.hid (q_retry2 SX.out)
            go_upto_region 20 with (go_at_call 12; go_loud (refine HRT2.out.mono ?_; rintro e9 w9 ⟨rfl, hs9⟩; have SY := Lib.hid hs9; clear hs9 HRT2 SX))
            have hbx := SY.out.box (i := 9) (b := xb) rfl
            have x1 : w9.cell? ⟨xb, 1, none⟩ = some (.int .i64 2) := hbx.cell 1
            have x4 : w9.cell? ⟨xb, 4, none⟩ = some (.slice none 0 0) := hbx.cell 4
            have zx := hbx.lt
            clear hbx
            go_upto_region 23 with fail
            clear x1 x4 zx
            go_loopw [21] (fun s21 wq => s21 = .int .i64 0 ∧ w9 = wq) (fun _ _ => 0)
            case atStart => exact ⟨rfl, rfl⟩
            case round =>
              obtain ⟨rfl, rfl⟩ := hrel
              go_wp2
              go_roundw
              case rel => exact ⟨i + 1, 2, lr, by omega, by omega, by go_num, by omega, HOK2.out, .inr rfl, SY.out.pick (List.Sublist.append (List.Sublist.refl _) (.cons_cons _ (List.nil_sublist _)))⟩
              case measure => simp [intOf]; omega
      · have h20' : ¬ (i : Int) < 20 := by omega
        go_wp2
        go_ret
        exact ⟨rfl, HS.out.end⟩
    · have hlt' : ¬ (i : Int) < (n : Int) := by omega
      go_wp2
      go_ret
      exact ⟨rfl, HS.out.end⟩
theorem spu_open {w : World} {D : Nat → Prop} {v : Value} {y : (Sh.sl (.st (.pair (.int .u32) (.pair (.int .u32) .unit))) 8).T} (h : Sh.Val w D (.sl (.st (.pair (.int .u32) (.pair (.int .u32) .unit))) 8) v y) : ∃ A n cap l, v = .slice A n cap ∧ spnU.At w D A n cap l := by
  obtain ⟨A, n, cap, l, h1, h2, h3⟩ := Elt.open (E := spnU) (s := .st (.pair (.int .u32) (.pair (.int .u32) .unit))) rfl h fun cl x hx => by
    obtain ⟨c1, c2, rfl, ⟨rfl, w1⟩, c3, c4, rfl, ⟨rfl, w2⟩, h4⟩ := hx
    cases h4
    exact ⟨⟨_, _⟩, rfl, u32_of w1, u32_of w2⟩
  simp only [List.cons.injEq, and_true] at h1
  exact ⟨A, n, cap, l, h1, h3⟩
theorem rng1_open {w : World} {D : Nat → Prop} {v : Value} {y : (Sh.st (.pair (.int .i64) (.pair (.int .u32) (.pair (.int .u32) .unit)))).T} (h : Sh.Val w D (.st (.pair (.int .i64) (.pair (.int .u32) (.pair (.int .u32) .unit)))) v y) : ∃ k a b, v = .agg #[.int .i64 k, .int .u32 a, .int .u32 b] ∧ U32 a ∧ U32 b := by
  obtain ⟨cs, rfl, c1, c2, rfl, ⟨rfl, w1⟩, c3, c4, rfl, ⟨rfl, w2⟩, c5, c6, rfl, ⟨rfl, w3⟩, h4⟩ := h
  cases h4
  exact ⟨_, _, _, rfl, u32_of w2, u32_of w3⟩
theorem wClientQueries (W : World) (vs : List Value) (h : Sh.Args W (· < W.heap.size) [((.st (.pair (.int .i64) (.pair (.int .u32) (.pair (.int .u32) .unit)))), 29), ((.sl (.st (.pair (.int .u32) (.pair (.int .u32) .unit))) 8), 43), ((.int .i64), 3)] vs) :
    Calls Tryz.prog 6 vs.toArray W fun e W' => e = .returned (.bool true) ∧ Below W.heap.size W W' := by
  obtain ⟨_, _, rfl, ⟨a, ha⟩, _, _, rfl, ⟨b, hb⟩, _, _, rfl, ⟨d, hd⟩, rfl⟩ := h
  obtain ⟨k1, lo, hi, rfl, hlo, hhi⟩ := rng1_open ha
  obtain ⟨A, n, cap, l, rfl, h3⟩ := spu_open hb
  obtain ⟨d1, rfl, wd⟩ := int_open hd
  exact wClientQueries0 W k1 lo hi d1 A n cap l hlo hhi h3
end Go.Proofs.YtdpamikobmefeaaGreat
