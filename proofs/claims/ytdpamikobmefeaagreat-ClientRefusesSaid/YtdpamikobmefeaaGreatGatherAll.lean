/- gather.All. Conditions: the gathering is one. -/
import Derived.Test.YtdpamikobmefeaaGreatGatherRow
import Derived.Test.YtdpamikobmefeaaGreatKeys64
namespace Go.Proofs.YtdpamikobmefeaaGreat
open Go.RowKit Go.ChangeShapes Go.Maps
set_option maxRecDepth 100000
set_option linter.unusedVariables false
set_option linter.unusedSimpArgs false

theorem RecRow.down {base base' : Nat} {w : World} {v : Value} {M : List RecC} {l : List Rec} (h : RecRow base w v M l) (hb : base' ≤ base) : RecRow base' w v M l := by
  refine ⟨?_, h.len, fun i c r h1 h2 => (h.recs i c r h1 h2).move fun b hb' _ => ⟨rfl, Nat.le_trans hb hb'.1, hb'.2⟩⟩
  have hr := h.row
  refine ⟨hr.1, ?_⟩
  rcases hr.2 with h0 | ⟨g, cap, cur, e1, e2, h3⟩
  · exact .inl h0
  · exact .inr ⟨g, cap, cur, e1, Nat.le_trans hb e2, h3⟩
/-- The same records, by rising ids. -/
def UpOf (L l : List Rec) : Prop := l.Pairwise (fun a b => a.id < b.id) ∧ ∀ r, r ∈ l ↔ r ∈ L
/-- Those of the first keys. -/
def FirstOf (L : List Rec) (ss : List Int) (l : List Rec) : Prop := ∀ (i : Nat) r, l[i]? = some r → r ∈ L ∧ ss[i]? = some r.id
theorem FirstOf.snoc {L : List Rec} {ss : List Int} {l : List Rec} {r : Rec} (h : FirstOf L ss l) (hr : r ∈ L) (hs : ss[l.length]? = some r.id) : FirstOf L ss (l ++ [r]) := by
  intro i y hy
  by_cases hi : i < l.length
  · rw [List.getElem?_append_left hi] at hy; exact h i y hy
  · have hi2 : i = l.length := by
      have := (List.getElem?_eq_some_iff.1 hy).1
      simp at this; omega
    subst hi2
    rw [List.getElem?_append_right (Nat.le_refl _), Nat.sub_self] at hy
    simp only [List.getElem?_cons_zero, Option.some.injEq] at hy
    subst hy
    exact ⟨hr, hs⟩
theorem FirstOf.up {c : Col} {w : World} {D : DataW Value} {L : List Rec} {ss : List Int} {l : List Rec} (h : FirstOf L ss l) (hl : l.length = ss.length) (hk : KeysUp D ss) (hd : MapOf kR (RVal c w) D L) : UpOf L l := by
  constructor
  · rw [List.pairwise_iff_getElem]
    intro i j hi hj hij
    have h1 := (h i _ (List.getElem?_eq_getElem hi)).2
    have h2 := (h j _ (List.getElem?_eq_getElem hj)).2
    obtain ⟨a1, e1⟩ := List.getElem?_eq_some_iff.1 h1
    obtain ⟨a2, e2⟩ := List.getElem?_eq_some_iff.1 h2
    rw [← e1, ← e2]
    exact (List.pairwise_iff_getElem.1 hk.1) i j a1 a2 hij
  · intro r
    constructor
    · intro hr
      obtain ⟨i, hi⟩ := List.mem_iff_getElem?.1 hr
      exact (h i r hi).1
    · intro hr
      have h1 : r.id ∈ ss := (hk.2 r.id).2 (hd.has r hr).1
      obtain ⟨i, hi⟩ := List.mem_iff_getElem?.1 h1
      have hil : i < l.length := by rw [hl]; exact (List.getElem?_eq_some_iff.1 hi).1
      obtain ⟨m1, m2⟩ := h i _ (List.getElem?_eq_getElem hil)
      rw [hi] at m2
      injection m2 with m2
      have := hd.inj hr m1 (by unfold kR; rw [m2])
      rw [this]
      exact List.getElem_mem hil
theorem MapOf.get {α : Type} {key : α → Lit} {val : α → Value → Prop} {D : DataW Value} {L : List α} (h : MapOf key val D L) {k : Lit} (hk : Maps.has D k = true) : ∃ x ∈ L, key x = k := by
  apply Classical.byContradiction
  intro hn
  have := h.none k fun x hx e => hn ⟨x, hx, e⟩
  rw [hk] at this
  cases this
theorem cells_new (w : World) (C : Array Value) (T : TypeId) : ∀ ad, (some (⟨w.heap.size, 0, none⟩ : Addr)) = some ad → ∀ j u, C.toList[j]? = some u → (w.alloc (.cells C T)).cell? (ad.add j) = some u := by
  intro ad ha j u hu
  injection ha with ha; subst ha
  have e1 : (⟨w.heap.size, 0, none⟩ : Addr).add j = ⟨w.heap.size, 0 + j, none⟩ := by unfold Addr.add; split <;> simp_all
  rw [e1, Nat.zero_add, (Box.new w C T).cell, ← Array.getElem?_toList]
  exact hu
set_option maxHeartbeats 8000000 in
theorem gather_all {c : Col} {π : List Int} {w : World} {g : Nat} {bl : List Rng} {L : List Rec} (h : GathR c π w g bl L) (hL : L.length ≤ 1000000) :
    Calls Tryz.prog 74 #[.pointer (some ⟨g, 0, none⟩)] w fun e w' => ∃ (v : Value) (M : List RecC) (l : List Rec), e = .returned v ∧ RecRow w.heap.size w' v M l ∧ UpOf L l ∧ Below w.heap.size w w' := by
  obtain ⟨A', n', cp', mb, D, hb, hcb, hcm, hrg, hm, hd⟩ := h
  have HB := Lib.hid hb; have HM := Lib.hid hm; have HD := Lib.hid hd
  have hsz : Maps.size D ≤ 4294967296 := by rw [hd.size]; omega
  have HSZ := Lib.hid hsz
  have cg := hb.box.cell
  have zb := hb.lt
  obtain ⟨i0, hi0, hz0, hz1, hz2⟩ := info_parts (show (Tryz.prog.info? 52).map (fun i => (i.zero, i.size, i.bytes)) = some (some (.agg #[.int .u64 0, .int .u64 0, .slice none 0 0]), 3, 40) by kernel_rfl)
  clear hb hm hd hsz hrg
  go_enter Tryz.func74, Tryz.ntmps74
  go_wp2_with (first
    | (go_at_call 99; refine (keys_R (some mb) w).mono ?_; rintro e1 w1 ⟨rfl, rfl⟩)
    | (go_at_call 98; go_loud (refine (sorted_R (Bm := w.heap.size) (b := mb) (nn := L.length) (D0 := D) (R := heldIf isRec) (by simp) (by simp) (ownsMap_only HM.out (Only.of_below (S := fun _ => False) (below_a1 w _)) (fun h => h)) HSZ.out).mono ?_; rintro e2 w2 ⟨v2, ss, rfl, hk, hrow, hnil, hb2, hsl⟩; obtain ⟨A2, cp2, rfl, _, hcm2, _⟩ := owns_shape hrow; have HK := Lib.hid hk; have HROW := Lib.hid hrow; have HB2 := Lib.hid (below_thru hb2); have HSS := Lib.hid hsl; clear hk hrow hnil hb2 hsl)))
  have zw2 := HB2.out.size
  go_loopw [3, 15] (fun s3 s15 wr => ∃ (k : Nat) (M : List RecC) (l : List Rec), k ≤ ss.length ∧ s15 = .int .i64 k ∧ l.length = k ∧ FirstOf L ss l ∧ RecRow w2.heap.size wr s3 M l ∧ Below w2.heap.size w2 wr) (fun _ i _ => ss.length - (intOf i).toNat)
  case atStart => exact ⟨0, [], [], Nat.zero_le _, rfl, rfl, fun i r h => by simp at h, RecRow.nil _ _, Below.refl _ _⟩
  case round =>
    obtain ⟨k, M, l, hk, rfl, hl, hf, hr, hbl⟩ := hrel
    have HF := Lib.hid hf; have HR := Lib.hid hr; have HBL := Lib.hid hbl; have HL := Lib.hid hl
    have HWR := Lib.hid (below_from HB2.out hbl zw2)
    have zwr := hbl.size
    have XB := HB.out.box.below HWR.out zb
    have cgr := XB.cell
    have zgr := XB.lt
    have HXB := Lib.hid XB
    clear hf hbl hl XB
    obtain ⟨A3, c3, rfl, _, _, _⟩ := owns_shape hr.row
    clear hr
    by_cases hlt : k < ss.length
    · obtain ⟨x, hx⟩ : ∃ x, ss[k]? = some x := ⟨_, List.getElem?_eq_getElem hlt⟩
      obtain ⟨gk, ck, e0, hcell, _⟩ := owns_cell HROW.out (i := k) (x := .int .u64 x) (by rw [List.getElem?_map, hx]; rfl)
      injection e0 with e1 e2 e3
      subst e1 e3
      have hgk := rown_lt HROW.out (g := gk) rfl
      have hcr := (World.cell?_of_block (w := w2) (a := ⟨gk, k, none⟩) (HBL.out.block gk hgk.2)).trans hcell
      obtain ⟨r, hrL, hrk⟩ := HD.out.get ((HK.out.2 x).1 (List.mem_of_getElem? hx))
      unfold kR at hrk
      injection hrk with _ hrk
      subst hrk
      obtain ⟨_, v, hv, hat⟩ := HD.out.has r hrL
      obtain ⟨s, m, cp, rfl, hok, hi⟩ := hv
      have hlook := Lib.hid (fun (w' : World) (hb' : Below w.heap.size w w') => heldIf_run (ownsMap_only HM.out (Only.of_below (S := fun _ => False) hb') (fun h => h)) u64_key Tryz.underlying132 (z := .agg #[.int .u64 0, .int .u64 0, .slice none 0 0]) (by kernel_rfl) rfl (keyOf_id hok.1) (hat _))
      have hlook2 := hlook.out wr HWR.out
      have HI := Lib.hid (hi.move (w' := wr) (D' := (· < w.heap.size)) fun b hb hlt => ⟨HWR.out.block b hlt, hlt⟩)
      have HD2 := Lib.hid (show ∀ b, b < w.heap.size → b < wr.heap.size from fun b hb => Nat.lt_of_lt_of_le hb HWR.out.size)
      have HOK := Lib.hid hok; have HRL := Lib.hid hrL; have HXX := Lib.hid hx
      have HSL := Lib.hid (show M.length + 1 ≤ 4294967296 from by
        have h1 := HR.out.len; have h2 := HL.out
        have h3 := HSS.out; rw [HD.out.size] at h3
        omega)
      have HM0 := Lib.hid (show M.length = k from HR.out.len.trans HL.out)
      clear hcell hgk hat hi hok hrL hx
      go_wp2_with (first
        | (go_at_call 93; go_loud ((with_reducible refine (copy_any r.id r.ver _ HI.out HD2.out).mono ?_); rintro e3 w3 ⟨v3, rfl, ⟨A4, n4, c4, rfl, hi4⟩, hb3⟩; have HB3 := Lib.hid hb3; have HI4 := Lib.hid hi4; have zw3 := hb3.size; clear hb3 hi4))
        | (at_builtin; go_loud (refine wpList_append_any _ rfl _ _ 42 rfl w2.heap.size 52 i0 (.agg #[.int .u64 0, .int .u64 0, .slice none 0 0]) 3 40 Tryz.underlying42 hi0 hz0 hz1 hz2 rfl (by decide) (.slice A3 M.length c3) M.length (rcCells M) rfl (((HR.out.below HB3.out).below (below_a1 w3 _)).row) (some ⟨w3.heap.size, 0, none⟩) 1 1 (encRC ⟨r.id, r.ver, A4, n4, c4⟩) rfl rfl (fun h => by cases h) (cells_new w3 _ _) (fun u hu => by simp only [encRC, List.mem_cons, List.not_mem_nil, or_false] at hu; rcases hu with rfl | rfl | rfl <;> rfl) (by have := HSL.out; unfold maxLen; omega) (by have := HSL.out; omega) (by rw [size_alloc]; omega) ?_; intro B7 cap7 w7 a7; have HA7 := Lib.hid a7; clear a7)))
      have hb4 : Below w2.heap.size w2 (w3.alloc (.cells #[.int .u64 r.id, .int .u64 r.ver, .slice A4 n4 c4] 52)) := below_from (below_from HBL.out HB3.out zwr) (below_a1 w3 _) (Nat.le_trans zwr zw3)
      have hb7 : Below w2.heap.size w2 w7 := hb4.grown HA7.out.2.1 hb4.size (fun j hj => (rown_lt HR.out.row hj).1)
      refine ⟨⟨k + 1, M ++ [⟨r.id, r.ver, A4, n4, c4⟩], l ++ [r], by omega, by simp, by simp [HL.out], HF.out.snoc HRL.out (by rw [HL.out]; exact HXX.out), HR.out.app HB3.out (below_a1 w3 _) zwr ⟨rfl, rfl, HOK.out, HI4.out⟩ HA7.out, hb7⟩, ?_⟩
      simp [intOf]; omega
    · obtain rfl : k = ss.length := by omega
      go_wp2
      go_ret
      exact ⟨_, M, l, rfl, HR.out.down zw2, HF.out.up HL.out HK.out HD.out, HWR.out⟩
end Go.Proofs.YtdpamikobmefeaaGreat
