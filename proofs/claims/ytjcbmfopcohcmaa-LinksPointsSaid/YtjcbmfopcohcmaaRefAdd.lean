/- The document's ring: Add, Next. Conditions: it is one. -/
import Derived.Test.YtjcbmfopcohcmaaRefOwner
import Derived.Test.YtjcbmfopcohcmaaIn
import Derived.BigRegion
import Derived.Deep.CutBlock
import Derived.Deep.DeepCutAuto
import Derived.Outline
namespace Go.Proofs.Ytjcbmfopcohcmaa
open Go.RowKit
set_option maxRecDepth 100000
set_option linter.unusedVariables false
set_option linter.unusedSimpArgs false

/-- The document's ring. -/
abbrev RefRing := RingT 80
theorem pos_split_at {l : List Int} {p : Int} {k : Nat} (hk : k ≤ l.length) (h1 : ∀ j z, k ≤ j → l[j]? = some z → p < z) (h2 : ∀ z, 0 < k → l[k - 1]? = some z → z < p) (hs : l.Pairwise (· < ·)) : posF l p = k := by
  refine pos_of hk (fun t ht => ?_) (fun t ht hl => ?_)
  · rw [List.getD_eq_getElem?_getD, List.getElem?_eq_getElem (by omega)]
    have h3 := h2 _ (by omega) (List.getElem?_eq_getElem (by omega))
    show l[t] < p
    rcases Nat.lt_or_ge t (k - 1) with h | h
    · have := List.pairwise_iff_getElem.1 hs t (k - 1) (by omega) (by omega) h
      omega
    · have : t = k - 1 := by omega
      subst this; exact h3
  · rw [List.getD_eq_getElem?_getD, List.getElem?_eq_getElem hl]
    have := h1 t _ ht (List.getElem?_eq_getElem hl)
    show p ≤ l[t]
    omega
theorem u32_one (x : List Int) : ∀ u ∈ x.map (Value.int .u32), u.oneCell' = true := by
  intro u hu
  obtain ⟨y, _, rfl⟩ := List.mem_map.1 hu
  rfl
/-- The cells of a part of a row. -/
theorem part_cells {w : World} {ob oo : Nat} {l : List Int} (h : ∀ j, j < l.length → w.cell? ⟨ob, oo + j, none⟩ = some (.int .u32 (l.getD j 0))) (k m : Nat) (hm : k + m ≤ l.length) :
    ∀ ad, some (⟨ob, oo + k, none⟩ : Addr) = some ad → ∀ j u, (((l.drop k).take m).map (Value.int .u32))[j]? = some u → w.cell? (ad.add j) = some u := by
  intro ad ha j u hu
  injection ha with ha
  subst ha
  rw [List.getElem?_map] at hu
  obtain ⟨z, hz, rfl⟩ := Option.map_eq_some_iff.1 hu
  have hj : j < m := by have := (List.getElem?_eq_some_iff.1 hz).1; rw [List.length_take] at this; omega
  rw [List.getElem?_take_of_lt hj, List.getElem?_drop] at hz
  have := h (k + j) (by omega)
  rw [List.getD_eq_getElem?_getD, hz] at this
  rw [saddPlain]
  rwa [Nat.add_assoc]
/-- A row's head and its rest. -/
theorem part_of {w : World} {A : Option Addr} {l : List Int} {n cap k : Nat} (hn : l.length = n) (hk : k ≤ n) (hnc : n ≤ cap) (hc : A = none → n = 0 ∧ cap = 0) (h : 0 < n → ∃ ob oo, A = some ⟨ob, oo, none⟩ ∧ ∀ j, j < n → w.cell? ⟨ob, oo + j, none⟩ = some (.int .u32 (l.getD j 0))) :
    (∀ ad, A = some ad → ∀ j u, ((l.take k).map (Value.int .u32))[j]? = some u → w.cell? (ad.add j) = some u) ∧ ∃ A3 : Option Addr, (if cap = k then A else A.map (·.add k)) = A3 ∧ (A3 = none → n - k = 0 ∧ cap - k = 0) ∧
      (∀ ad, A3 = some ad → ∀ j u, ((l.drop k).map (Value.int .u32))[j]? = some u → w.cell? (ad.add j) = some u) := by
  refine ⟨fun ad ha j u hu => ?_, ?_⟩
  · rw [List.getElem?_map] at hu
    obtain ⟨z, hz, rfl⟩ := Option.map_eq_some_iff.1 hu
    have hj : j < k := by have := (List.getElem?_eq_some_iff.1 hz).1; rw [List.length_take] at this; omega
    obtain ⟨ob, oo, e, hc⟩ := h (by omega)
    rw [ha] at e
    injection e with e
    subst e
    rw [List.getElem?_take_of_lt hj] at hz
    have := hc j (by omega)
    rw [List.getD_eq_getElem?_getD, hz] at this
    rw [saddPlain]; exact this
  · cases A with
    | none => exact ⟨none, by split <;> rfl, fun _ => by have := hc rfl; omega, fun ad h => by cases h⟩
    | some ad =>
      refine ⟨(if cap = k then some ad else some (ad.add k)), rfl, (fun h => by split at h <;> cases h), fun ad' he j u hu => ?_⟩
      rw [List.getElem?_map] at hu
      obtain ⟨z, hz, rfl⟩ := Option.map_eq_some_iff.1 hu
      rw [List.getElem?_drop] at hz
      have hj := (List.getElem?_eq_some_iff.1 hz).1
      obtain ⟨ob, oo, e, hcc⟩ := h (by omega)
      injection e with e
      subst e
      have := hcc (k + j) (by omega)
      rw [List.getD_eq_getElem?_getD, hz] at this
      have hcn : cap ≠ k := by omega
      rw [if_neg hcn] at he
      injection he with he
      subst he
      rw [saddPlain, saddPlain]
      rw [Nat.add_assoc]; exact this
theorem cells_keep {w0 w : World} {A : Option Addr} {xs : List Value} (h : ∀ ad, A = some ad → ∀ j u, xs[j]? = some u → w0.cell? (ad.add j) = some u) (hb : Below w0.heap.size w0 w) : ∀ ad, A = some ad → ∀ j u, xs[j]? = some u → w.cell? (ad.add j) = some u := by
  intro ad ha j u hu
  have h1 := h ad ha j u hu
  rw [hb.cell (World.block_lt_of_cell? w0 _ h1)]; exact h1
theorem appd_below {w0 w w' : World} {B0 base e size n m cap : Nat} {xs news : List Value} {v : Value} {B : Option Addr} (hb : Below B0 w0 w) (hB : B0 ≤ base) (hB2 : B0 ≤ w.heap.size) (ho : w.ownsRow base e size v n xs) (h : Appd w base e size n m xs news v B cap w') : Below B0 w0 w' :=
  hb.grown h.2.1 hB2 (fun j hj => by
    rcases ho.2 with ⟨rfl, _⟩ | ⟨g, _, _, rfl, hg, _⟩
    · cases hj
    · injection hj with hj; subst hj; exact Nat.le_trans hB hg)
theorem row_nil {w : World} {base e : Nat} : w.ownsRow base e 1 (.slice none 0 0) 0 [] := ⟨rfl, .inl ⟨rfl, rfl⟩⟩
theorem step_append_nil0 {P : Program} (w : World) {ops : Array Oper} {o : Oper} {a : Act} {K : Act → World → Prop} {Q : Exit → Act → World → Prop} {E : Prop} (hgd : o.guard = none) (s x : Operand) (t : TypeId)
    (ho : o.op = .call { callee := .builtin .append, args := #[s, x], argTypes := #[t, t] })
    (base : Nat) (e : TypeId) (i : TypeInfo) (z : Value) (size bytes : Nat) (ht : P.underlying t = some (.slice e)) (hi : P.info? e = some i) (hz : i.zero = some z)
    (hsize : i.size = size) (hby : i.bytes = bytes) (hzs : z.cells.size = size) (hsz : 0 < size) (hs : a.eval s = .slice none 0 0)
    (A : Option Addr) (m c : Nat) (news : List Value) (hx : a.eval x = .slice A m c) (hl : news.length = m * size) (hA : A = none → m = 0 ∧ c = 0) (hnews : ∀ ad, A = some ad → ∀ j u, news[j]? = some u → w.cell? (ad.add j) = some u) (h1 : ∀ u ∈ news, u.oneCell' = true)
    (h63 : m ≤ maxLen) (hbytes : m * bytes ≤ 140737488355328) (hbase : base ≤ w.heap.size)
    (h : ∀ B cap w', w'.ownsRow base e size (.slice B m cap) m news → Below w.heap.size w w' → K (a.put o.dst (.slice B m cap)) w') :
    if Region.wanted o (yielded ops a.tmps) = true then Oper.wp P o a w K Q else E :=
  step_append_any w hgd s x t ho base e i z size bytes ht hi hz hsize hby hzs hsz (.slice none 0 0) 0 [] hs ⟨by simp, .inl ⟨rfl, rfl⟩⟩ A m c news hx hl hA hnews h1 (by omega) (by rw [Nat.zero_add]; exact hbytes) hbase fun B cap w' h2 => by
    obtain ⟨q1, q2, _⟩ := h2
    rw [Nat.zero_add, List.nil_append] at q1
    rw [Nat.zero_add]
    exact h B cap w' q1 ((Below.refl _ _).grown q2 (Nat.le_refl _) (fun j hj => by cases hj))
theorem rref_end {c : Col} {π : List Int} {w w7 : World} {rb n k cap cap7 : Nat} {l : List Int} {p : Int} {A B7 : Option Addr} (hbT : BoxT w 80 rb #[.slice A l.length cap]) (hcb : c rb = π) (hf : Fresh c w) (hπ : π ≠ []) (hn : l.length = n) (hpos : posF l p = k) (hk : k ≤ n) (hl : n < 64)
    (hok : PtsOk l) (hp : U32 p) (hm : ¬ p ∈ l) (hb : Below w.heap.size w w7) (ho : w7.ownsRow w.heap.size 22 1 (.slice B7 (k + 1 + (n - k)) cap7) (k + 1 + (n - k)) ((l.take k).map (Value.int .u32) ++ [.int .u32 p] ++ (l.drop k).map (Value.int .u32))) :
    ∃ c', Stp (· = π) c w c' (w7.setCell ⟨rb, 0, none⟩ (.slice B7 (k + 1 + (n - k)) cap7)) ∧ RefRing c' π (w7.setCell ⟨rb, 0, none⟩ (.slice B7 (k + 1 + (n - k)) cap7)) rb (addP l p) := by
  have e1 : k + 1 + (n - k) = (addP l p).length := by rw [addP_len]; omega
  have e2 : (l.take k).map (Value.int .u32) ++ [.int .u32 p] ++ (l.drop k).map (Value.int .u32) = (addP l p).map (Value.int .u32) := by
    unfold addP
    rw [hpos]; simp
  rw [e2, e1] at ho
  rw [e1]
  have hz := hbT.lt
  have h7 := hbT.below hb hz
  obtain ⟨g, hg, hgb⟩ : ∃ g, (Value.slice B7 (addP l p).length cap7).ownBlock = some g ∧ w.heap.size ≤ g := by
    rcases ho.2 with ⟨h0, h1⟩ | ⟨g, cap', cur, h0, h1, _⟩
    · have h2 : (addP l p).length = 0 := h1
      rw [addP_len] at h2; omega
    · exact ⟨g, by rw [h0]; rfl, h1⟩
  have hglt := owns_lt ho hg
  have hgr : g ≠ rb := by omega
  have S1 : Stp (· = π) c w c w7 := Stp.of_below _ hf hb
  have S2 : Stp (· = π) c w7 c (w7.setCell ⟨rb, 0, none⟩ (.slice B7 (addP l p).length cap7)) := ⟨(Only.refl _ _).setCell (p := ⟨rb, 0, none⟩) (.inl hcb) _, fun _ _ => rfl, fun k hk => S1.fresh k (by rwa [size_setCell] at hk)⟩
  refine ⟨upd c g π, (S1.trans S2).paint hgb (by rw [size_setCell]; exact hglt) π, B7, cap7, ?_, ?_, ?_, ?_, addP_ok hok hp hm, by rw [addP_len]; omega⟩
  · simpa using h7.set (i := 0) (.slice B7 (addP l p).length cap7)
  · rw [upd_ne _ _ (fun h => hgr h.symm)]; exact hcb
  · have h0 := ownsRow_setCell_other (a := ⟨rb, 0, none⟩) ho (own_ne h7 ho (by decide)) (.slice B7 (addP l p).length cap7)
    exact ⟨h0.1, h0.2.imp id fun ⟨g, c, cur, a, _, r⟩ => ⟨g, c, cur, a, Nat.zero_le _, r⟩⟩
  · intro g' hg'
    rw [hg] at hg'
    injection hg' with hg'
    subst hg'
    exact upd_same _ _ _
set_option maxHeartbeats 4000000 in
theorem rref_add {c : Col} {π : List Int} {w : World} {rb : Nat} {l : List Int} {p : Int} (h : RefRing c π w rb l) (hf : Fresh c w) (hπ : π ≠ []) (hp : U32 p) :
    Calls Try.prog 63 #[.pointer (some ⟨rb, 0, none⟩), .int .u32 p] w fun e w' => e = .returned (.int .i64 (addE l p)) ∧ ∃ c', Stp (· = π) c w c' w' ∧ RefRing c' π w' rb (addF l p) := by
  obtain ⟨A, cap, hbT, hcb, ho, hg, hk, hlen⟩ := id h
  obtain ⟨A', cap', hb', hi⟩ := h.ints
  have he : A' = A ∧ cap' = cap := by
    have h1 := hb'.cell 0
    rw [hbT.box.cell 0] at h1
    simp at h1
    exact ⟨h1.1.symm, h1.2.symm⟩
  obtain ⟨rfl, rfl⟩ := he
  have hb := hbT.box
  have hc := hb.cell; have hz := hb.lt; have hfz := hb.free
  have HI := Lib.hid hi; have HK := Lib.hid hk; have HR := Lib.hid h; have HF := Lib.hid hf; have HP := Lib.hid hp; have HB := Lib.hid hbT
  have HCB := Lib.hid hcb; have HO := Lib.hid ho; have HG := Lib.hid hg
  clear hb hi hk h hf hp hbT ho hg hb' hcb
  obtain ⟨n, hn⟩ : ∃ n, l.length = n := ⟨_, rfl⟩
  rw [hn] at hc hlen
  have HN := Lib.hid hn
  have hI := HI.out
  rw [hn] at hI
  have HI := Lib.hid hI
  clear hI hn
  by_cases hm : p ∈ l
  · have e1 : addE l p = 7 := if_pos hm
    have e2 : addF l p = l := if_pos hm
    rw [e1, e2]
    have HM := Lib.hid (show decide (p ∈ l) = true from decide_eq_true hm)
    clear hm e1 e2
    go_enter Try.func63, Try.ntmps63
    go_wp2_with (go_at_call 36; go_loud ((with_reducible refine (in_u32 p _ HI.out).mono ?_); rintro e w' ⟨rfl, rfl⟩; rw [HM.out]))
    go_ret
    exact ⟨rfl, c, Stp.refl _ HF.out, HR.out⟩
  · have HM := Lib.hid (show decide (p ∈ l) = false from decide_eq_false hm)
    by_cases h64 : 64 ≤ n
    · have e1 : addE l p = 5 := by have := HN.out; unfold addE; rw [if_neg hm, if_pos (by omega)]
      have e2 : addF l p = l := by have := HN.out; unfold addF; rw [if_neg hm, if_pos (by omega)]
      rw [e1, e2]
      have h65 : (64 : Int) ≤ (n : Int) := by omega
      clear hm e1 e2
      go_enter Try.func63, Try.ntmps63
      go_wp2_with (go_at_call 36; go_loud ((with_reducible refine (in_u32 p _ HI.out).mono ?_); rintro e w' ⟨rfl, rfl⟩; rw [HM.out]))
      go_ret
      exact ⟨rfl, c, Stp.refl _ HF.out, HR.out⟩
    · have e1 : addE l p = 0 := by have := HN.out; unfold addE; rw [if_neg hm, if_neg (by omega)]
      have e2 : addF l p = addP l p := by have := HN.out; unfold addF; rw [if_neg hm, if_neg (by omega)]
      rw [e1, e2]
      have h65 : ¬ (64 : Int) ≤ (n : Int) := by omega
      have HNM := Lib.hid hm
      clear hm e1 e2
      have HA := Lib.hid (show 0 < n → ∃ ob oo, A' = some ⟨ob, oo, none⟩ ∧ ∀ j, j < n → w.cell? ⟨ob, oo + j, none⟩ = some (.int .u32 (l.getD j 0)) from fun h => by
        obtain ⟨ob, oo, e, _, hc⟩ := HI.out.2.2.2.2.2.2 h
        exact ⟨ob, oo, e, hc⟩)
      have hncap : n ≤ cap' := HI.out.2.1
      have hcm : cap' ≤ 9223372036854775807 := by have := HI.out.2.2.1; unfold maxLen at this; exact this
      have HAN := Lib.hid (show A' = none → cap' = 0 from HI.out.2.2.2.2.1)
      go_enter Try.func63, Try.ntmps63
      go_upto_block 0 with (go_at_call 36; go_loud ((with_reducible refine (in_u32 p _ HI.out).mono ?_); rintro e w' ⟨rfl, rfl⟩; rw [HM.out]))
      go_cut [5] (fun s wx => ∃ k : Nat, k ≤ n ∧ s = .int .i64 k ∧ posF l p = k ∧ w = wx)
      case first =>
        go_wp2_with fail
        go_loopw [5] (fun s wr => ∃ k : Nat, k ≤ n ∧ s = .int .i64 k ∧ (∀ j z, k ≤ j → l[j]? = some z → p < z) ∧ wr = w) (fun k _ => (intOf k).toNat)
        case atStart => exact ⟨n, Nat.le_refl _, rfl, fun j z hj hz => by have := (List.getElem?_eq_some_iff.1 hz).1; have := HN.out; omega, rfl⟩
        case round =>
          obtain ⟨k, hk, rfl, hafter, rfl⟩ := hrel
          have HAF := Lib.hid hafter
          clear hafter
          have HEND : Hid ((∀ z, 0 < k → l[k - 1]? = some z → z < p) → posF l p = k) := fun h => pos_split_at (by have := HN.out; omega) HAF.out h HK.out.up
          by_cases h0 : k = 0
          · have hpos := Lib.hid (HEND.out (fun z h _ => by omega))
            have g1 : decide (0 < (k : Int)) = false := by simp; omega
            have g2 : decide (0 < k) = false := by simp; omega
            clear h0
            go_wp2_with fail
            go_meet
            exact ⟨k, hk, rfl, hpos.out, rfl⟩
          · obtain ⟨q, rfl⟩ : ∃ q, k = q + 1 := ⟨k - 1, by omega⟩
            obtain ⟨ob, oo, rfl, hcc⟩ := HA.out (by omega)
            have hcq := hcc q (by omega)
            obtain ⟨y, hy⟩ : ∃ y, l.getD q 0 = y := ⟨_, rfl⟩
            have HY := Lib.hid (show l[q]? = some y by
              rw [List.getD_eq_getElem?_getD, List.getElem?_eq_getElem (by have := HN.out; omega)] at hy
              rw [List.getElem?_eq_getElem (by have := HN.out; omega)]
              exact congrArg some hy)
            rw [hy] at hcq
            have g1 : decide (0 < (q : Int) + 1) = true := by simp only [decide_eq_true_eq]; omega
            have w5 := wrap_nat64 (k := q) (by omega)
            have w6 : (q : Int) < (n : Int) := by omega
            clear hcc hy h0
            by_cases hpy : p < y
            · have HNX := Lib.hid (show ∀ j z, q ≤ j → l[j]? = some z → p < z from fun j z hj hz => by
                by_cases hjq : j = q
                · subst hjq; rw [HY.out] at hz; injection hz with hz; omega
                · exact HAF.out j z (by omega) hz)
              go_wp2_with fail
              go_roundw
              case rel => exact ⟨q, by omega, by go_num, HNX.out, by first | rfl | trivial⟩
              case measure => simp [intOf]
            · have hpos := Lib.hid (HEND.out (fun z _ hz => by
                rw [Nat.add_sub_cancel, HY.out] at hz
                injection hz with hz
                have : z ≠ p := fun e => HNM.out (by rw [← e, ← hz]; exact List.mem_of_getElem? HY.out)
                omega))
              go_wp2_with fail
              go_meet
              exact ⟨q + 1, hk, by go_num, hpos.out, rfl⟩
      case rest =>
        obtain ⟨k, hk, rfl, hpos, rfl⟩ := hcut
        have HEX : Hid (A' = none → n = 0 ∧ cap' = 0) := (fun h => ⟨by have := HAN.out h; omega, HAN.out h⟩)
        have hk2 : k ≤ cap' := by omega
        have HPOS := Lib.hid hpos
        obtain ⟨hp1, A3, hA3, hn3, hp3⟩ := part_of (k := k) (cap := cap') (A := A') (w := w) (l := l) HN.out hk hncap HEX.out HA.out
        obtain ⟨i0, hi0, hz0, hz1, hz2⟩ := run_u32_info
        have HI0 := Lib.hid hi0; have HZ0 := Lib.hid hz0; have HZ1 := Lib.hid hz1; have HZ2 := Lib.hid hz2; have HP1 := Lib.hid hp1; have HP3 := Lib.hid hp3; have HN3 := Lib.hid hn3
        have HLT := Lib.hid (show ((l.take k).map (Value.int .u32)).length = k * 1 by have := HN.out; simp; omega)
        have HLD := Lib.hid (show ((l.drop k).map (Value.int .u32)).length = (n - k) * 1 by have := HN.out; simp; omega)
        have HA0 : Hid (A' = none → k = 0 ∧ cap' = 0) := (fun h => by have := HEX.out h; omega)
        clear hi0 hz0 hz1 hz2 hp1 hp3 hn3 hpos
        go_upto_region 8 with fail
        go_region_law (first
          | (refine step_append_nil0 w.drew rfl _ _ 32 rfl w.heap.size 22 i0 (.int .u32 0) 1 4 Try.underlying32 HI0.out HZ0.out HZ1.out HZ2.out rfl (by decide) rfl _ k _ ((l.take k).map (Value.int .u32)) rfl HLT.out HA0.out (cells_keep HP1.out (Below.refl _ _).drew) (u32_one _) (by unfold maxLen; omega) (by omega) (Nat.le_refl _) ?_; intro B5 cap5 ww er5 be5; have SC := Lib.hid (show Below w.heap.size w ww from (Below.refl _ _).drew.trans be5); have ER := Lib.hid er5; have c5 := fun i => (SC.out.cell (p := ⟨rb, i, none⟩) hz).trans (hc i); have f5 := fun i => (SC.out.frozen (p := ⟨rb, i, none⟩) hz).trans (hfz i); have z5 := SC.out.size; have y5 := Nat.lt_of_lt_of_le hz SC.out.size; clear er5 be5)
          | (refine step_append_nil0 (w.drew.alloc (.cells #[.int .u32 p] 22)) rfl _ _ 32 rfl w.heap.size 22 i0 (.int .u32 0) 1 4 Try.underlying32 HI0.out HZ0.out HZ1.out HZ2.out rfl (by decide) rfl _ k _ ((l.take k).map (Value.int .u32)) rfl HLT.out HA0.out (cells_keep HP1.out ((Below.refl _ _).drew.alloc (Nat.le_refl _) _)) (u32_one _) (by unfold maxLen; omega) (by omega) (by rw [size_alloc]; exact Nat.le_succ _) ?_; intro B5 cap5 ww er5 be5; have BX := Lib.hid (show Box ww w.heap.size #[.int .u32 p] from (Box.new w.drew #[.int .u32 p] 22).below be5 (by rw [size_alloc]; exact Nat.lt_succ_self _)); have SC := Lib.hid (show Below w.heap.size w ww from ((Below.refl _ _).drew.alloc (Nat.le_refl _) _).trans (be5.mono (by rw [size_alloc]; exact Nat.le_succ _))); have ER := Lib.hid er5; have c5 := fun i => (SC.out.cell (p := ⟨rb, i, none⟩) hz).trans (hc i); have f5 := fun i => (SC.out.frozen (p := ⟨rb, i, none⟩) hz).trans (hfz i); have z5 := SC.out.size; have y5 := Nat.lt_of_lt_of_le hz SC.out.size; clear er5 be5)
          | (refine step_append_any (ww.alloc (.cells #[.int .u32 p] 22)) rfl _ _ 32 rfl w.heap.size 22 i0 (.int .u32 0) 1 4 Try.underlying32 HI0.out HZ0.out HZ1.out HZ2.out rfl (by decide) (.slice B5 k cap5) k ((l.take k).map (Value.int .u32)) rfl (ER.out.alloc _) (some ⟨ww.heap.size, 0, none⟩) 1 1 [.int .u32 p] rfl rfl (fun h => by cases h) (news_one (Box.new ww _ _)) (fun u hu => by simp only [List.mem_singleton] at hu; subst hu; rfl) (by unfold maxLen; omega) (by omega) (by rw [size_alloc]; exact Nat.le_succ_of_le z5) ?_; intro B6 cap6 w6 a6; have SC6 := Lib.hid (appd_below (SC.out.alloc z5 _) (Nat.le_refl _) (by rw [size_alloc]; exact Nat.le_succ_of_le z5) (ER.out.alloc _) a6); have ES := Lib.hid a6.1; have c6 := fun i => (SC6.out.cell (p := ⟨rb, i, none⟩) hz).trans (hc i); have f6 := fun i => (SC6.out.frozen (p := ⟨rb, i, none⟩) hz).trans (hfz i); have z6 := SC6.out.size; have y6 := Nat.lt_of_lt_of_le hz SC6.out.size; clear a6)
          | (refine step_append_any ww rfl _ _ 32 rfl w.heap.size 22 i0 (.int .u32 0) 1 4 Try.underlying32 HI0.out HZ0.out HZ1.out HZ2.out rfl (by decide) (.slice B5 k cap5) k ((l.take k).map (Value.int .u32)) rfl ER.out (some ⟨w.heap.size, 0, none⟩) 1 1 [.int .u32 p] rfl rfl (fun h => by cases h) (news_one BX.out) (fun u hu => by simp only [List.mem_singleton] at hu; subst hu; rfl) (by unfold maxLen; omega) (by omega) z5 ?_; intro B6 cap6 w6 a6; have SC6 := Lib.hid (appd_below SC.out (Nat.le_refl _) z5 ER.out a6); have ES := Lib.hid a6.1; have c6 := fun i => (SC6.out.cell (p := ⟨rb, i, none⟩) hz).trans (hc i); have f6 := fun i => (SC6.out.frozen (p := ⟨rb, i, none⟩) hz).trans (hfz i); have z6 := SC6.out.size; have y6 := Nat.lt_of_lt_of_le hz SC6.out.size; clear a6)
          | (refine step_append_any w6 rfl _ _ 32 rfl w.heap.size 22 i0 (.int .u32 0) 1 4 Try.underlying32 HI0.out HZ0.out HZ1.out HZ2.out rfl (by decide) (.slice B6 (k + 1) cap6) (k + 1) ((l.take k).map (Value.int .u32) ++ [.int .u32 p]) rfl ES.out A3 (n - k) (cap' - k) ((l.drop k).map (Value.int .u32)) rfl HLD.out HN3.out (cells_keep HP3.out SC6.out) (u32_one _) (by unfold maxLen; omega) (by omega) z6 ?_; intro B7 cap7 w7 a7; have SC7 := Lib.hid (appd_below SC6.out (Nat.le_refl _) z6 ES.out a7); have ET := Lib.hid a7.1; have c7 := fun i => (SC7.out.cell (p := ⟨rb, i, none⟩) hz).trans (hc i); have f7 := fun i => (SC7.out.frozen (p := ⟨rb, i, none⟩) hz).trans (hfz i); have z7 := SC7.out.size; have y7 := Nat.lt_of_lt_of_le hz SC7.out.size; clear a7))
        all_goals
          have HLAST := Lib.hid (rref_end HB.out HCB.out HF.out hπ HN.out HPOS.out hk (by omega) HK.out HP.out HNM.out SC7.out ET.out)
          clear c5 f5 z5 y5 c6 f6 z6 y6 c7 f7 z7 y7 hc hfz
          go_wp2
          go_ret
          exact ⟨rfl, HLAST.out⟩
end Go.Proofs.Ytjcbmfopcohcmaa
