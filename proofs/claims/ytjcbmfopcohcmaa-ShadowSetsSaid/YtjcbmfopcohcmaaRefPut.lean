/- The document's shelf: Put. Conditions: it is one, the entry's values are data. -/
import Derived.Test.YtjcbmfopcohcmaaRefFind
import Derived.Test.YtjcbmfopcohcmaaFreeze
import Derived.Deep.RegionLaw
namespace Go.Proofs.Ytjcbmfopcohcmaa
open Go.RowKit Go.ChangeShapes Go.Maps
set_option maxRecDepth 100000
set_option linter.unusedVariables false
set_option linter.unusedSimpArgs false

theorem idx_case (L : List Ent) (x id : Int) : (findE L x id = none ∧ idxF L x id = -1) ∨ ∃ (i : Nat) (o : Ent), L[i]? = some o ∧ findE L x id = some o ∧ ekB x id o = true ∧ idxF L x id = i := by
  unfold idxF findE
  cases h : L.findIdx? (ekB x id) with
  | none =>
    refine .inl ⟨?_, rfl⟩
    rw [List.findIdx?_eq_none_iff] at h
    exact List.find?_eq_none.2 fun e he => by rw [h e he]; exact Bool.false_ne_true
  | some i =>
    rw [List.findIdx?_eq_some_iff_getElem] at h
    obtain ⟨hi, h1, h2⟩ := h
    refine .inr ⟨i, L[i], List.getElem?_eq_getElem hi, ?_, h1, rfl⟩
    rw [List.find?_eq_some_iff_getElem]
    exact ⟨h1, i, hi, rfl, fun j hj => by have := h2 j hj; simpa using this⟩
theorem setE_at {L : List Ent} {e o : Ent} {i : Nat} (hk : L.Pairwise (fun a b => ¬ (a.value = b.value ∧ a.rc.id = b.rc.id))) (ho : L[i]? = some o) (he : ekB e.value e.rc.id o = true) : setE L e = L.set i e := by
  apply List.ext_getElem?
  intro j
  unfold setE
  rw [List.getElem?_map, List.getElem?_set]
  have hi := (List.getElem?_eq_some_iff.1 ho).1
  by_cases hj : i = j
  · subst hj
    rw [if_pos rfl, if_pos hi, ho, Option.map_some, if_pos he]
  · rw [if_neg hj]
    cases hl : L[j]? with
    | none => rfl
    | some y =>
      rw [Option.map_some, if_neg]
      intro hc
      have h1 := ekB_iff.1 he
      have h2 := ekB_iff.1 hc
      have hjl := (List.getElem?_eq_some_iff.1 hl).1
      have q1 := (List.getElem?_eq_some_iff.1 ho).2
      have q2 := (List.getElem?_eq_some_iff.1 hl).2
      rcases Nat.lt_or_gt_of_ne hj with h | h
      · have := List.pairwise_iff_getElem.1 hk i j hi hjl h
        rw [q1, q2] at this
        exact this ⟨h1.1.trans h2.1.symm, h1.2.trans h2.2.symm⟩
      · have := List.pairwise_iff_getElem.1 hk j i hjl hi h
        rw [q1, q2] at this
        exact this ⟨h2.1.trans h1.1.symm, h2.2.trans h1.2.symm⟩
/-- A row, behind a store of one of its entries. -/
theorem EntRow.set {c : Col} {π : List Int} {w w' : World} {g n cap : Nat} {L : List Ent} {a : Nat} {ea : Ent} {ma : EntC} {T : Nat} {cur : Array Value} (h : EntRow c π w (.slice (some ⟨g, 0, none⟩) n cap) L) (hf : Fresh c w) (hπ : π ≠ [])
    (ha : a < L.length) (hea : EntNew w (Still c w) ma ea) (hb : BoxT w T g cur)
    (hb' : BoxT w' T g (put5 cur a ma)) (ho : Only (· = g) w w') : Stp (· = π) c w c w' ∧ EntRow c π w' (.slice (some ⟨g, 0, none⟩) n cap) (L.set a ea) := by
  obtain ⟨M, hown, hg, hl, hd⟩ := h
  have hcg : c g = π := hg g rfl
  have hst : Stp (· = π) c w c w' := ⟨ho.mono (fun k _ hk => by subst hk; exact hcg), fun _ _ => rfl, fun b hb => hf b (Nat.le_trans ho.size hb)⟩
  refine ⟨hst, M.set a ma, ?_, hg, by simp [hl], fun j m e hm he => ?_⟩
  · rcases hown with ⟨hlen, hown⟩
    refine ⟨by rw [ecCells_len, List.length_set], ?_⟩
    rcases hown with ⟨hv, _⟩ | ⟨g', cap', cur', hv, hbase, hh, hn, hc, hs, htk⟩
    · cases hv
    · have hv' := hv
      injection hv with hv hnn hcc
      injection hv with hv
      injection hv with hv
      subst hv
      unfold BoxT at hb
      rw [hh] at hb
      injection hb with hb
      injection hb with hb1 hb2
      subst hb1 hb2
      refine .inr ⟨g, cap', put5 cur' a ma, ?_, hbase, hb', ?_, hc, ?_, ?_⟩
      · rw [hv']; simp
      · simpa using hn
      · rw [put5_size]; exact hs
      · have hsz : M.length * 5 ≤ cur'.size := by rw [hs]; exact Nat.mul_le_mul_right 5 hn
        rw [List.length_set]
        exact put5_take (m := ma) hsz (by omega) htk
  · have mv : ∀ {m e}, EntNew w (Still c w) m e → EntNew w' (Still c w') m e := fun h => h.move fun b hb hlt => ⟨hst.only.block b hlt (by show ¬ c b = π; rw [hb.1]; exact fun e => hπ e.symm), hb.1, Nat.lt_of_lt_of_le hlt hst.only.size⟩
    refine mv ?_
    have jl := (List.getElem?_eq_some_iff.1 he).1
    simp only [List.length_set] at jl
    rw [List.getElem?_set] at hm he
    by_cases h1 : a = j
    · rw [if_pos h1, if_pos (by omega)] at hm he
      injection hm with hm; injection he with he
      subst hm he
      exact hea
    · rw [if_neg h1] at hm he
      exact hd j m e hm he
theorem step_append_entg {w : World} {c : Col} {π : List Int} {L N : List Ent} {ops : Array Oper} {o : Oper} {a : Act} {K : Act → World → Prop} {Q : Exit → Act → World → Prop} {E : Prop} (hgd : o.guard = none) (s x : Operand)
    (ho : o.op = .call { callee := .builtin .append, args := #[s, x], argTypes := #[23, 23] })
    (v : Value) (hs : a.eval s = v) (hrow : EntRow c π w v L) (hf : Fresh c w) (hπ : π ≠ []) (A : Option Addr) (m cp : Nat) (hx : a.eval x = .slice A m cp) (hN : EntsAt w (Still c w) A m cp N) (hA : A = none → m = 0 ∧ cp = 0) (hlen : L.length + m ≤ 1000000)
    (h : ∀ B cap w' c', Stp (· = π) c w c' w' → EntRow c' π w' (.slice B (L.length + m) cap) (L ++ N) → w.grownBy w' v.ownBlock → K (a.put o.dst (.slice B (L.length + m) cap)) w') :
    if Region.wanted o (yielded ops a.tmps) = true then Oper.wp Try.prog o a w K Q else E := by
  have hw : Region.wanted o (yielded ops a.tmps) = true := by simp [Region.wanted, hgd]
  rw [if_pos hw]
  obtain ⟨M0, hown, hg, hl, hd⟩ := id hrow
  obtain ⟨M, q1, q2, q3⟩ := hN.cellsOf
  obtain ⟨j0, jii, jz0, jz1, jz2⟩ := ent_info
  refine wp_append_any w s x 23 ho 0 36 j0 _ 5 56 Try.underlying23 jii jz0 jz1 jz2 rfl (by decide) v M0.length (ecCells M0) hs hown A m cp (ecCells M) hx (by rw [ecCells_len, q1]) hA q2 (ecCells_one M) (by unfold maxLen; omega) (by omega) (Nat.zero_le _) ?_
  intro B cap w' ha
  obtain ⟨c', st, hr⟩ := hrow.app hf hπ hown q1 (by rw [q1]; exact hN.1.symm) (fun j m e hm he => q3 j m e hm he) ha
  rw [hl] at hr ⊢
  exact h B cap w' c' st hr ha.2.1
theorem row_ne {c : Col} {π : List Int} {w : World} {b : Nat} {x v : Value} {L : List Ent} (hb : Box w b #[x]) (h : EntRow c π w v L) : v.ownBlock ≠ some b := by
  intro he
  obtain ⟨M, hown, _⟩ := h
  rcases hown.2 with ⟨rfl, _⟩ | ⟨g, cap, cur, rfl, _, hh, _, _, hs, _⟩
  · cases he
  · have hg : g = b := by simpa [Value.ownBlock] using he
    subst hg
    obtain ⟨T, hb⟩ := hb
    rw [hh] at hb
    injection hb with hb
    injection hb with hb
    subst hb
    simp at hs
    omega
theorem EntRow.setOther {c : Col} {π : List Int} {w : World} {b i : Nat} {v u : Value} {L : List Ent} (h : EntRow c π w v L) (hn : v.ownBlock ≠ some b) (hb : c b ≠ []) : EntRow c π (w.setCell ⟨b, i, none⟩ u) v L := by
  have ho : Only (· = b) w (w.setCell ⟨b, i, none⟩ u) := (Only.refl (· = b) w).setCell (p := ⟨b, i, none⟩) (.inl rfl) u
  obtain ⟨M, hown, hg, hl, hd⟩ := h
  exact ⟨M, ownsRow_only hown ho (fun g hg' e => hn (by rw [← e]; exact hg')), hg, hl, fun j m e hm he => (hd j m e hm he).move fun k hk hlt => ⟨ho.block k hlt (fun e => hb (by rw [← e]; exact hk.1)), hk.1, Nat.lt_of_lt_of_le hlt ho.size⟩⟩
/-- The block takes another row. -/
theorem ref_turn {c c' : Col} {π : List Int} {w w' : World} {b : Nat} {x v : Value} {L : List Ent} (hπ : π ≠ []) (hbw : b < w.heap.size) (hcb : c b = π) (st : Stp (· = π) c w c' w') (hb : Box w' b #[x]) (hr : EntRow c' π w' v L) : Stp (· = π) c w c' (w'.setCell ⟨b, 0, none⟩ v) ∧ RefR c' π (w'.setCell ⟨b, 0, none⟩ v) b L := by
  have hcb' : c' b = π := (st.col b hbw).trans hcb
  refine ⟨⟨st.only.setCell (.inl hcb) _, st.col, fun k hk => st.fresh k (by rw [size_setCell] at hk; exact hk)⟩, v, ?_, hcb', hr.setOther (row_ne hb hr) (by rw [hcb']; exact hπ)⟩
  have := hb.set (i := 0) v
  exact this
/-- What a mutator of the document's shelf leaves. -/
def RefTo (π : List Int) (b : Nat) (L : List Ent) (c : Col) (w : World) (w' : World) : Prop := ∃ c', Stp (· = π) c w c' w' ∧ RefR c' π w' b L

set_option maxHeartbeats 2000000 in
theorem ref_put {c : Col} {π : List Int} {w : World} {b : Nat} {L : List Ent} {e : Ent} {s : Option Addr} {l cp : Nat} (h : RefR c π w b L) (hf : Fresh c w) (hπ : π ≠ []) (hL : L.length ≤ 10000) (hk : ShelfOk L) (hok : e.ok) (hi : Ints w (Still c w) .u32 4 s l cp e.rc.vals) :
    Calls Try.prog 12 #[.pointer (some ⟨b, 0, none⟩), .agg #[.int .u32 e.value, .int .u64 e.rc.id, .int .u64 e.rc.ver, .slice s l cp, .bool e.gone]] w fun x w' => x = .returned (.tuple #[.bool (putF L e).2.1, .int .i64 (putF L e).2.2]) ∧ RefTo π b (putF L e).1 c w w' := by
  have HB3 := Lib.hid (below_a1 w (.cells #[.int .u32 e.value, .int .u64 e.rc.id, .int .u64 e.rc.ver, .slice s l cp, .bool e.gone] 36))
  have H1 := Lib.hid (h.later hf HB3.out)
  have F1 := Lib.hid (show Fresh c (w.alloc (.cells #[.int .u32 e.value, .int .u64 e.rc.id, .int .u64 e.rc.ver, .slice s l cp, .bool e.gone] 36)) from fun k hk => hf k (by rw [size_alloc] at hk; omega))
  have X3 := Lib.hid (Box.new w #[.int .u32 e.value, .int .u64 e.rc.id, .int .u64 e.rc.ver, .slice s l cp, .bool e.gone] 36)
  have HF := Lib.hid hf; have HI := Lib.hid hi; have HK := Lib.hid hk; have HOK := Lib.hid hok
  have hbw : b < w.heap.size := by obtain ⟨_, q, _⟩ := h; exact q.lt
  have hv0 : 0 ≤ e.rc.ver := hok.2.2.1.1
  clear h hf hi hk hok
  have XS := Lib.hid HB3.out.size
  rcases idx_case L e.value e.rc.id with ⟨hfn, hix⟩ | ⟨i, o, hio, hfo, hko, hix⟩
  · have HFN := Lib.hid hfn; have HIX := Lib.hid hix
    clear hfn hix
    by_cases hlen : 10000 ≤ L.length
    · have HP := Lib.hid (show putF L e = (L, false, 5) by unfold putF; rw [HFN.out]; simp only; rw [if_pos hlen])
      go_enter Try.func12, Try.ntmps12
      go_wp2_with (go_at_call 40; go_loud ((with_reducible refine (ref_find e.value e.rc.id H1.out F1.out).mono ?_); rintro e2 w2 ⟨rfl, hb⟩; rw [HIX.out]; have H2 := Lib.hid (H1.out.later F1.out hb); have HB2 := Lib.hid (below_from HB3.out hb HB3.out.size); have X2 := Lib.hid (X3.out.below hb X3.out.lt); clear hb))
      obtain ⟨v2, hb2, hc2, hr2⟩ := H2.out
      obtain ⟨A2, cap2, rfl, q1, q2, q3, q4⟩ := hr2.shape
      have cb := hb2.cell
      clear hb2 hr2 q3 q4 hc2
      go_quiet (fail)
      go_wp2
      refine bodyPost_ret (v := .tuple #[.bool false, .int .i64 5]) (by simp [results, Try.results12, go_sem]) rfl ?_
      rw [HP.out]
      have hb9 := belowN (Below.refl w2.heap.size w2) (n := nq)
      have st9 := Stp.of_below (· = π) HF.out (below_from HB2.out hb9 HB2.out.size)
      exact ⟨rfl, c, st9, H2.out.later (fun k hk => HF.out k (Nat.le_trans HB2.out.size hk)) hb9⟩
    · have HP := Lib.hid (show putF L e = (L ++ [e], true, 0) by unfold putF; rw [HFN.out]; simp only; rw [if_neg hlen])
      go_enter Try.func12, Try.ntmps12
      go_upto_region 9 with (go_at_call 40; go_loud ((with_reducible refine (ref_find e.value e.rc.id H1.out F1.out).mono ?_); rintro e2 w2 ⟨rfl, hb⟩; rw [HIX.out]; have H2 := Lib.hid (H1.out.later F1.out hb); have HB2 := Lib.hid (below_from HB3.out hb HB3.out.size); have X2 := Lib.hid (X3.out.below hb X3.out.lt); clear hb))
      obtain ⟨v2, hb2, hc2, hr2⟩ := H2.out
      obtain ⟨A2, cap2, rfl, q1, q2, q3, q4⟩ := hr2.shape
      have cb := hb2.cell
      have HBB := Lib.hid hb2; have HRR := Lib.hid hr2; have HCB := Lib.hid hc2
      clear hb2 hr2 q3 q4 hc2
      go_quiet (fail)
      go_upto_region 9 with fail
      refine wp_abs (fun wx => Box wx b #[.slice A2 L.length cap2] ∧ EntRow c π wx (.slice A2 L.length cap2) L ∧ Box wx w.heap.size #[.int .u32 e.value, .int .u64 e.rc.id, .int .u64 e.rc.ver, .slice s l cp, .bool e.gone] ∧ Below w.heap.size w wx) ?_ ?_
      · have hb9 := belowN (Below.refl w2.heap.size w2) (n := nq)
        exact ⟨HBB.out.below hb9 HBB.out.lt, HRR.out.later (fun k hk => HF.out k (Nat.le_trans HB2.out.size hk)) hb9, X2.out.below hb9 X2.out.lt, below_from HB2.out hb9 HB2.out.size⟩
      clear cb H1 F1 X3 HB3 H2 HB2 X2 HBB HRR
      rintro wy ⟨YB, YR, YX, YL⟩
      have YF : Fresh c wy := fun k hk => HF.out k (Nat.le_trans YL.size hk)
      have s1 : Stp (· = π) c w c wy := Stp.of_below _ HF.out YL
      have cb := YB.cell; have cx := YX.cell; have fb := YB.free; have zb := YB.lt
      have YI := Lib.hid (show Ints wy.drew (fun k => k < wy.heap.size) .u32 4 s l cp e.rc.vals from HI.out.move fun k hk hlt => ⟨YL.block k hlt, Nat.lt_of_lt_of_le hlt YL.size⟩)
      have HYR := Lib.hid (show EntRow c π wy.drew (.slice A2 L.length cap2) L from YR.later YF (Same.drew _).1)
      have HYF := Lib.hid (show Fresh c wy.drew from YF); have HYL := Lib.hid YL; have HYB := Lib.hid (show Box wy.drew b #[.slice A2 L.length cap2] from YB); have HS1 := Lib.hid s1
      clear YB YR YX YL YF s1
      go_region_law (first
        | (refine step_append_entg rfl _ _ rfl _ rfl ((HYR.out.later HYF.out hb1).later (fun k hk => HYF.out k (Nat.le_trans hb1.size hk)) (below_a1 w1 (.cells #[.int .u32 e.value, .int .u64 e.rc.id, .int .u64 e.rc.ver, .slice B1 n1 c1, .bool e.gone] 36))) (fun k hk => HYF.out k (Nat.le_trans hb1.size (by rw [size_alloc] at hk; omega))) hπ (some ⟨w1.heap.size, 0, none⟩) 1 1 rfl (ents_one (e := e) (m := ⟨e.value, e.rc.id, e.rc.ver, B1, n1, c1, e.gone⟩) (Box.new _ _ _) (HYF.out _ hb1.size) ⟨rfl, rfl, rfl, rfl, HOK.out, hi1.move fun k hk hlt => ⟨(below_a1 w1 _).block k hlt, HYF.out k hk, by rw [size_alloc]; omega⟩⟩) (fun h => by cases h) (by omega) ?_; intro B2 cap3 w5 c5 st5 er5 gr5; have bx5 := box_grown ((HYB.out.below hb1 HYB.out.lt).alloc (.cells #[.int .u32 e.value, .int .u64 e.rc.id, .int .u64 e.rc.ver, .slice B1 n1 c1, .bool e.gone] 36)) gr5 (fun q => row_ne ((HYB.out.below hb1 HYB.out.lt).alloc _) ((HYR.out.later HYF.out hb1).later (fun k hk => HYF.out k (Nat.le_trans hb1.size hk)) (below_a1 w1 (.cells #[.int .u32 e.value, .int .u64 e.rc.id, .int .u64 e.rc.ver, .slice B1 n1 c1, .bool e.gone] 36))) q.symm); have c5' := bx5.cell; have f5' := bx5.free)
        | (go_simp; go_at_call 42; refine (hentry_any e.value e.rc.id e.rc.ver e.gone _ YI.out (fun k hk => hk)).mono ?_; rintro e3 w1 hn; obtain ⟨v1, rfl, ⟨B1, n1, c1, rfl, hi1⟩, hb1⟩ := hn; have cc1 := (HYB.out.below hb1 HYB.out.lt).cell; have cd1 := ((HYB.out.below hb1 HYB.out.lt).alloc (.cells #[.int .u32 e.value, .int .u64 e.rc.id, .int .u64 e.rc.ver, .slice B1 n1 c1, .bool e.gone] 36)).cell))
      all_goals
        go_wp2
        refine bodyPost_ret (v := .tuple #[.bool true, .int .i64 0]) (by simp [results, Try.results12, go_sem]) rfl ?_
        rw [HP.out]
        have f1 : Fresh c w1 := fun k hk => HYF.out k (Nat.le_trans hb1.size hk)
        have stA := HS1.out.trans ((Stp.of_below _ HS1.out.fresh (Same.drew wy).1).trans ((Stp.of_below _ HYF.out hb1).trans ((Stp.of_below _ f1 (below_a1 w1 _)).trans st5)))
        obtain ⟨r1, r2⟩ := ref_turn hπ hbw HCB.out stA bx5 er5
        exact ⟨rfl, c5, r1, r2⟩
  · have HIX := Lib.hid hix; have HIO := Lib.hid hio; have HKO := Lib.hid hko
    have hil := (List.getElem?_eq_some_iff.1 hio).1
    have HSE := Lib.hid (setE_at HK.out.1 hio hko)
    have HFO := Lib.hid hfo
    clear hix hio hfo hko
    obtain ⟨nw, hnw⟩ : ∃ nw, newerF e.rc.ver e.gone o.rc.ver o.gone = nw := ⟨_, rfl⟩
    have HNW := Lib.hid hnw
    clear hnw
    go_enter Try.func12, Try.ntmps12
    go_upto_region 2 with (go_at_call 40; go_loud ((with_reducible refine (ref_find e.value e.rc.id H1.out F1.out).mono ?_); rintro e2 w2 ⟨rfl, hb⟩; rw [HIX.out]; have H2 := Lib.hid (H1.out.later F1.out hb); have HB2 := Lib.hid (below_from HB3.out hb HB3.out.size); have X2 := Lib.hid (X3.out.below hb X3.out.lt); clear hb))
    obtain ⟨v2, hb2, hc2, hr2⟩ := H2.out
    obtain ⟨A2, cap2, rfl, q1, q2, q3, q4⟩ := hr2.shape
    obtain ⟨g, rfl, hcg, hgl⟩ := hr2.addr (by omega)
    refine wp_abs (fun wx => Box wx b #[.slice (some ⟨g, 0, none⟩) L.length cap2] ∧ EntRow c π wx (.slice (some ⟨g, 0, none⟩) L.length cap2) L ∧ Box wx w.heap.size #[.int .u32 e.value, .int .u64 e.rc.id, .int .u64 e.rc.ver, .slice s l cp, .bool e.gone] ∧ Below w.heap.size w wx) ⟨hb2, hr2, X2.out, HB2.out⟩ ?_
    have HCB := Lib.hid hc2; have HCG := Lib.hid hcg
    clear H1 F1 X3 HB3 H2 HB2 X2 hb2 hr2 q3 q4 hc2 hgl hcg
    rintro wy ⟨YB, YR, YX, YL⟩
    have YF : Fresh c wy := fun k hk => HF.out k (Nat.le_trans YL.size hk)
    obtain ⟨m, hm, hme⟩ := YR.cells HIO.out
    have d0 := hm 0 _ rfl; have d1 := hm 1 _ rfl; have d2 := hm 2 _ rfl; have d3 := hm 3 _ rfl; have d4 := hm 4 _ rfl
    simp only [Nat.add_zero] at d0
    have hv2 : 0 ≤ m.ver := by rw [hme.2.2.1]; exact hme.2.2.2.2.1.2.2.1.1
    have HNE := Lib.hid (fun (w' : World) => rnewer_any e.value e.rc.id e.rc.ver s l cp e.gone m.x m.id m.ver m.s m.l m.c m.g w' hv0 hv2)
    have HNF := Lib.hid (show newerF e.rc.ver e.gone m.ver m.g = nw by rw [hme.2.2.1, hme.2.2.2.1]; exact HNW.out)
    have cb := YB.cell; have cx := YX.cell; have fb := YB.free; have zb := YB.lt; have zx := YX.lt
    have zg : g < wy.heap.size := World.block_lt_of_cell? wy _ d0
    have HYB := Lib.hid YB; have HYR := Lib.hid YR; have HYX := Lib.hid YX; have HYL := Lib.hid YL; have HYF := Lib.hid YF; have HM := Lib.hid hm; have HME := Lib.hid hme
    clear YB YR YX YL YF hm hme
    have S0 := Same.refl wy
    go_region_held3 (fun w' => Same wy w') (with_reducible (first | assumption | exact Same.drew _))
      ((go_at_call 41; (with_reducible refine (HNE.out _).mono ?_); rintro e9 w9 ⟨rfl, hb9⟩; rw [HNF.out]; have S1 := Same.step (show Same wy _ by (with_reducible (first | assumption | exact Same.drew _))) hb9; clear hb9))
    all_goals
      cases nw
      · have HP := Lib.hid (show putF L e = (L, false, 0) by unfold putF; rw [HFO.out]; simp only [HNW.out]; rfl)
        go_wp2
        refine bodyPost_ret (v := .tuple #[.bool false, .int .i64 0]) (by simp [results, Try.results12, go_sem]) rfl ?_
        rw [HP.out]
        have hb9 := (show Same wy _ by (with_reducible (first | assumption | exact Same.drew _))).1
        exact ⟨rfl, c, Stp.of_below _ HF.out (below_from HYL.out hb9 HYL.out.size), _, HYB.out.below hb9 zb, HCB.out, HYR.out.later HYF.out hb9⟩
      · have HP := Lib.hid (show putF L e = (L.set i e, true, 0) by unfold putF; rw [HFO.out]; simp only [HNW.out, if_true]; rw [HSE.out])
        go_upto_region 5 with fail
        refine wp_abs (fun wx => Same wy wx) (show Same wy _ by (with_reducible (first | assumption | exact Same.drew _))) ?_
        intro wz SZ
        clear d0 d1 d2 d3 d4 cb cx fb
        have ZB := HYB.out.below SZ.1 zb; have ZR := HYR.out.later HYF.out SZ.1; have ZX := HYX.out.below SZ.1 zx
        have ZL := below_from HYL.out SZ.1 HYL.out.size
        have ZF : Fresh c wz := fun k hk => HYF.out k (Nat.le_trans SZ.1.size hk)
        have cb := ZB.cell; have cx := ZX.cell
        have YI := Lib.hid (show Ints wz.drew (fun k => k < wz.heap.size) .u32 4 s l cp e.rc.vals from HI.out.move fun k hk hlt => ⟨ZL.block k hlt, Nat.lt_of_lt_of_le hlt ZL.size⟩)
        have HZR := Lib.hid (show EntRow c π wz.drew (.slice (some ⟨g, 0, none⟩) L.length cap2) L from ZR.later ZF (Same.drew _).1)
        have HZF := Lib.hid (show Fresh c wz.drew from ZF); have HZL := Lib.hid ZL; have HZB := Lib.hid (show Box wz.drew b #[.slice (some ⟨g, 0, none⟩) L.length cap2] from ZB); have HS1 := Lib.hid (Stp.of_below (· = π) HF.out ZL)
        obtain ⟨cur, hbox, hcs⟩ : ∃ cur, BoxT wz 36 g cur ∧ L.length * 5 ≤ cur.size := by
          obtain ⟨M, hw, _, hMl, _⟩ := ZR
          obtain ⟨_, cq, h9, h96, _, _, h98⟩ := owns_shape hw
          injection h9 with h9 _ _
          obtain ⟨g', cur, h97, hb, hsz, _⟩ := h98 _ h9.symm
          injection h97 with h97
          subst h97
          refine ⟨cur, hb, ?_⟩
          rw [hsz]
          exact Nat.mul_le_mul_right 5 (by omega)
        have HCUR := Lib.hid (show BoxT wz.drew 36 g cur from hbox)
        have hi1 : ((i : Int) < (L.length : Int)) := by omega
        clear ZB ZR ZX ZL ZF hbox S0 SZ
        go_region_law (go_simp; go_at_call 42; refine (hentry_any e.value e.rc.id e.rc.ver e.gone _ YI.out (fun k hk => hk)).mono ?_; rintro e3 w1 hn; obtain ⟨v1, rfl, ⟨B1, n1, c1, rfl, hi1⟩, hb1⟩ := hn; have CU := HCUR.out.below hb1 HCUR.out.lt; have fu := CU.box.free; obtain ⟨k0, u0⟩ := box_some CU.box (i * 5) (by omega); obtain ⟨k1, u1⟩ := box_some CU.box (i * 5 + 1) (by omega); obtain ⟨k2, u2⟩ := box_some CU.box (i * 5 + 2) (by omega); obtain ⟨k3, u3⟩ := box_some CU.box (i * 5 + 3) (by omega); obtain ⟨k4, u4⟩ := box_some CU.box (i * 5 + 4) (by omega); have cb1 := (HZB.out.below hb1 HZB.out.lt).cell)
        all_goals
          go_wp2
          refine bodyPost_ret (v := .tuple #[.bool true, .int .i64 0]) (by simp [results, Try.results12, go_sem]) rfl ?_
          rw [HP.out]
          have f1 : Fresh c w1 := fun k hk => HZF.out k (Nat.le_trans hb1.size hk)
          have R1 := HZR.out.later HZF.out hb1
          have B1' := HZB.out.below hb1 HZB.out.lt
          have ho : Only (· = g) w1 _ := (Only.refl (· = g) w1).put5 rfl i ⟨e.value, e.rc.id, e.rc.ver, B1, n1, c1, e.gone⟩
          obtain ⟨t1, t2⟩ := R1.set f1 hπ hil (ea := e) (ma := ⟨e.value, e.rc.id, e.rc.ver, B1, n1, c1, e.gone⟩) ⟨rfl, rfl, rfl, rfl, HOK.out, hi1.move fun k hk hlt => ⟨rfl, HZF.out k hk, hlt⟩⟩ CU (CU.put5 i _) ho
          have stA := (HS1.out.trans ((Stp.of_below _ HS1.out.fresh (Same.drew wz).1).trans (Stp.of_below _ HZF.out hb1))).trans t1
          exact ⟨rfl, c, stA, _, B1'.only ho (fun q => row_ne B1' R1 (by show some g = some b; rw [q])), HCB.out, t2⟩
end Go.Proofs.Ytjcbmfopcohcmaa
