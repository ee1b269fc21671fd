/- Records as elements of slices; gatherings as things; their contracts in that word; two rows of records held against each other. Conditions: none. -/
import Derived.Test.YtdpamikobmefeaaGreatGatherOn
import Derived.Test.YtdpamikobmefeaaGreatGatherAll
import Derived.Test.YtdpamikobmefeaaGreatThing
import Derived.Test.YtdpamikobmefeaaGreatSame
namespace Go.Proofs.YtdpamikobmefeaaGreat
open Go.RowKit Go.ChangeShapes Go.Maps
set_option maxRecDepth 100000
set_option linter.unusedVariables false
set_option linter.unusedSimpArgs false

theorem rec_info : ∃ i : TypeInfo, Tryz.prog.info? 52 = some i ∧ i.zero = some (.agg #[.int .u64 0, .int .u64 0, .slice none 0 0]) ∧ i.size = 3 ∧ i.bytes = 40 := by
  obtain ⟨j0, jii, jz0, jz1, jz2⟩ := info_parts (show (Tryz.prog.info? 52).map (fun i => (i.zero, i.size, i.bytes)) = some (some (.agg #[.int .u64 0, .int .u64 0, .slice none 0 0]), 3, 40) by kernel_rfl)
  exact ⟨j0, jii, jz0, jz1, jz2⟩
/-- A record's cells. -/
def recRd (w : World) (D : Nat → Prop) (cs : List Value) (r : Rec) : Prop := ∃ s m c, cs = [.int .u64 r.id, .int .u64 r.ver, .slice s m c] ∧ r.ok ∧ Ints w D .u32 4 s m c r.vals
def recE : Elt Tryz.prog Rec where
  T := 52
  ST := 42
  k := 3
  bytes := 40
  zero := .agg #[.int .u64 0, .int .u64 0, .slice none 0 0]
  rd := recRd
  pos := by omega
  len := fun ⟨s, m, c, h, _⟩ => by rw [h]; rfl
  one := fun ⟨s, m, c, h, _⟩ u hu => by subst h; simp only [List.mem_cons, List.not_mem_nil, or_false] at hu; rcases hu with rfl | rfl | rfl <;> rfl
  move := fun ⟨s, m, c, h, hok, hi⟩ hm => ⟨s, m, c, h, hok, hi.move hm⟩
  und := Tryz.underlying42
  info := rec_info
  zlen := rfl
  blim := by omega
theorem recsAt {w : World} {D : Nat → Prop} {A : Option Addr} {n cap : Nat} {l : List Rec} (h : recE.At w D A n cap l) : RecsAt w D A n cap l := by
  obtain ⟨h1, h2, h3, h4, h5⟩ := h
  refine ⟨h1, h2, h3, h4, fun hn => ?_⟩
  obtain ⟨b, off, rfl, hd, hc⟩ := h5 hn
  refine ⟨b, off, rfl, hd, fun j r hj => ?_⟩
  obtain ⟨cs, q0, s, m, c, rfl, hok, hi⟩ := hc j r hj
  exact ⟨hok, s, m, c, q0 0 _ rfl, q0 1 _ rfl, q0 2 _ rfl, hi⟩
/-- What All hands back. -/
theorem RecRow.at {base : Nat} {w : World} {v : Value} {M : List RecC} {l : List Rec} (h : RecRow base w v M l) : ∃ A cap, v = .slice A l.length cap ∧ recE.At w (base ≤ ·) A l.length cap l := by
  obtain ⟨hr, hl, hd⟩ := h
  obtain ⟨A, cap, rfl, h1, h2, h3, h4⟩ := owns_shape hr
  rw [hl] at h1 ⊢
  refine ⟨A, cap, rfl, rfl, h1, h2, (fun e => (h3 e).2), fun hn => ?_⟩
  cases A with
  | none => have := (h3 rfl).1; omega
  | some ad =>
    obtain ⟨g, cur, rfl, hb, hs, htk⟩ := h4 ad rfl
    refine ⟨g, 0, rfl, ?_, fun j r hj => ?_⟩
    · rcases hr.2 with ⟨h0, _⟩ | ⟨g', _, _, h0, hb', _⟩
      · cases h0
      · injection h0 with h0; injection h0 with h0; injection h0 with h0; subst h0; exact hb'
    · have hjl := (List.getElem?_eq_some_iff.1 hj).1
      obtain ⟨m, hm⟩ : ∃ m, M[j]? = some m := ⟨_, List.getElem?_eq_getElem (by omega)⟩
      obtain ⟨e1, e2, hok, hi⟩ := hd j m r hm hj
      refine ⟨encRC m, fun t u hu => ?_, m.s, m.l, m.c, by unfold encRC; rw [e1, e2], hok, hi.move fun b hb _ => ⟨rfl, hb.1⟩⟩
      have ht : t < 3 := (List.getElem?_eq_some_iff.1 hu).1
      have h9 := rcCells_at hm t ht
      have hlt : j * 3 + t < M.length * 3 := by omega
      rw [hu, ← htk, List.getElem?_take_of_lt hlt, Array.getElem?_toList] at h9
      show w.cell? ⟨g, 0 + j * 3 + t, none⟩ = some u
      rw [Nat.zero_add, hb.box.cell]
      exact h9

theorem RVal.keep {π : List Int} {c c' : Col} {w w' : World} {r : Rec} {v : Value} (h : RVal c w r v) (hk : Keeps π c w c' w') : RVal c' w' r v := by
  obtain ⟨s, l, cp, rfl, hok, hi⟩ := h
  exact ⟨s, l, cp, rfl, hok, hi.move hk.quiet⟩
theorem GathR.keep {π : List Int} {c c' : Col} {w w' : World} {g : Nat} {bl : List Rng} {L : List Rec} (h : GathR c π w g bl L) (hk : Keeps π c w c' w') : GathR c' π w' g bl L := by
  obtain ⟨A, n, cp, mb, D, hb, h1, h2, hr, hm, hd⟩ := h
  exact ⟨A, n, cp, mb, D, hb.only hk.only (fun hn => hn.2 h1), (hk.col g hb.lt (.inr h1)).trans h1, (hk.col mb hm.lt (.inr h2)).trans h2, hr.move hk.quiet, ownsMap_only hm hk.only (fun hn => hn.2 h2), hd.imp fun x hx v hv => hv.keep hk⟩
/-- A gathering. -/
def tGath (π : List Int) (g : Nat) (bl : List Rng) (L : List Rec) : Thing := ⟨π, fun c w => GathR c π w g bl L, fun h hk => h.keep hk⟩

section
variable {W w : World} {ts ts' : List Thing} {π : List Int} {g : Nat} {bl : List Rng} {L : List Rec} {A : Option Addr} {n cap : Nat}
theorem ga_new (π : List Int) (h : Sta W ts w) (hπ : π ≠ []) (ho : ∀ x ∈ ts, x.π ≠ π) (hx : ∀ c, S0 W ts c w → RngsAt w (Quiet c w) A n cap bl) :
    Calls Tryz.prog 31 #[.slice A n cap] w fun e w' => ∃ g, e = .returned (.pointer (some ⟨g, 0, none⟩)) ∧ Sta W (ts ++ [tGath π g bl []]) w' ∧ Boxes w w' := by
  obtain ⟨c, h⟩ := h
  refine (gather_new (c := c) π w h.fresh (hx c h)).mono ?_
  rintro e w' ⟨g, rfl, hg, c', st, sh, hb⟩
  exact ⟨g, rfl, ⟨c', h.add (t := tGath π g bl []) hπ ho st sh⟩, hb⟩
theorem ga_add {l : List Rec} {k : Int} (i : Nat) (h : Sta W ts w) (hi : ts[i]? = some (tGath π g bl L)) (hπ : π ≠ []) (hL : L.length ≤ 10000) (hn : n ≤ 10000) (hl : ∀ c, S0 W ts c w → recE.At w (Quiet c w) A n cap l)
    {L' : List Rec} (hk : addsF bl L l = (L', k)) (hts : ts.set i (tGath π g bl L') = ts') :
    Calls Tryz.prog 84 #[.pointer (some ⟨g, 0, none⟩), .slice A n cap] w fun e w' => e = .returned (.int .i64 k) ∧ Sta W ts' w' ∧ Boxes w w' := by
  obtain ⟨c, h⟩ := h
  refine (gather_add (c := c) (h.get hi) h.fresh hπ hL hn (recsAt (hl c h))).mono ?_
  rintro e w' ⟨rfl, c', st, sh, hb⟩
  rw [hk] at sh ⊢
  exact ⟨rfl, Sta.turn h hi hπ (t' := tGath π g bl L') rfl st sh hts, hb⟩
theorem ga_all (i : Nat) (h : Sta W ts w) (hi : ts[i]? = some (tGath π g bl L)) (hL : L.length ≤ 1000000) :
    Calls Tryz.prog 74 #[.pointer (some ⟨g, 0, none⟩)] w fun e w' => ∃ A cap l, e = .returned (.slice A l.length cap) ∧ UpOf L l ∧ Sta W (ts ++ [tAt recE A l.length cap l]) w' ∧ Below w.heap.size w w' := by
  obtain ⟨c, h⟩ := h
  refine (gather_all (c := c) (h.get hi) hL).mono ?_
  rintro e w' ⟨v, M, l, rfl, hr, hu, hb⟩
  obtain ⟨A, cap, rfl, ha⟩ := hr.at
  exact ⟨A, cap, l, rfl, hu, Sta.addNew ⟨c, h⟩ hb ha (Nat.le_refl _), hb⟩
end

theorem take_snocR {α : Type} {l : List α} {k : Nat} {e : α} (h : l[k]? = some e) : l.take (k + 1) = l.take k ++ [e] := by rw [List.take_add_one, h]; rfl
set_option maxHeartbeats 1000000 in
theorem same_recs {A A' : Option Addr} {n cap n' cap' : Nat} {l l' : List Rec} (w : World) (h : recE.At w (· < w.heap.size) A n cap l) (h' : recE.At w (· < w.heap.size) A' n' cap' l') :
    Calls Tryz.prog 52 #[.slice A n cap, .slice A' n' cap', .func (.func 53) #[] #[]] w fun e w' => e = .returned (.bool (decide (l = l'))) ∧ Below w.heap.size w w' := by
  obtain ⟨hn, hnm, hcm, _, hc⟩ := recsAt h
  obtain ⟨hn', hnm', hcm', _, hc'⟩ := recsAt h'
  have HN := Lib.hid hn; have HN' := Lib.hid hn'; have HC := Lib.hid hc; have HC' := Lib.hid hc'
  clear hn hn' hc hc' h h'
  by_cases hnn : n = n'
  · subst hnn
    go_enter Tryz.func52, Tryz.ntmps52
    go_wp2
    go_loopw [7] (fun i wr => ∃ k : Nat, k ≤ n ∧ i = .int .i64 k ∧ l.take k = l'.take k ∧ Below w.heap.size w wr) (fun i _ => n - (intOf i).toNat)
    case atStart => exact ⟨0, Nat.zero_le _, rfl, rfl, Below.refl _ _⟩
    case round =>
      obtain ⟨k, hk, rfl, ht, hB⟩ := hrel
      have HT := Lib.hid ht; have HB := Lib.hid hB
      clear ht hB
      by_cases hlt : k < n
      · obtain ⟨e, he⟩ : ∃ e, l[k]? = some e := ⟨_, List.getElem?_eq_getElem (by rw [HN.out]; exact hlt)⟩
        obtain ⟨e', he'⟩ : ∃ e, l'[k]? = some e := ⟨_, List.getElem?_eq_getElem (by rw [HN'.out]; exact hlt)⟩
        obtain ⟨b, off, rfl, hd, hc⟩ := HC.out (by omega)
        obtain ⟨b', off', rfl, hd', hc'⟩ := HC'.out (by omega)
        obtain ⟨hok, s, m, c, q0, q1, q2, hi⟩ := hc k e he
        obtain ⟨hok', s', m', c', p0, p1, p2, hi'⟩ := hc' k e' he'
        have d0 := (HB.out.cell (p := ⟨b, off + k * 3, none⟩) hd).trans q0
        have d1 := (HB.out.cell (p := ⟨b, off + k * 3 + 1, none⟩) hd).trans q1
        have d2 := (HB.out.cell (p := ⟨b, off + k * 3 + 2, none⟩) hd).trans q2
        have f0 := (HB.out.cell (p := ⟨b', off' + k * 3, none⟩) hd').trans p0
        have f1 := (HB.out.cell (p := ⟨b', off' + k * 3 + 1, none⟩) hd').trans p1
        have f2 := (HB.out.cell (p := ⟨b', off' + k * 3 + 2, none⟩) hd').trans p2
        have zb : b < wr.heap.size := Nat.lt_of_lt_of_le hd HB.out.size
        have zb' : b' < wr.heap.size := Nat.lt_of_lt_of_le hd' HB.out.size
        have HS0 := Lib.hid (take_snocR he); have HS1 := Lib.hid (take_snocR he'); have HE := Lib.hid he; have HE' := Lib.hid he'
        have HQ := Lib.hid (fun (w' : World) (hs : Same wr w') => hrec_any w' (v1 := .agg #[.int .u64 e.id, .int .u64 e.ver, .slice s m c]) (v2 := .agg #[.int .u64 e'.id, .int .u64 e'.ver, .slice s' m' c']) ⟨s, m, c, rfl, hok, hi.move (D' := (· < w.heap.size)) fun b hb hlt => ⟨(below_from HB.out hs.1 HB.out.size).block b hb, hb⟩⟩ ⟨s', m', c', rfl, hok', hi'.move (D' := (· < w.heap.size)) fun b hb hlt => ⟨(below_from HB.out hs.1 HB.out.size).block b hb, hb⟩⟩ (fun b hb => Nat.lt_of_lt_of_le hb (below_from HB.out hs.1 HB.out.size).size) (fun b hb => Nat.lt_of_lt_of_le hb (below_from HB.out hs.1 HB.out.size).size))
        clear hc hc' q0 q1 q2 p0 p1 p2 hi hi' hok hok' he he'
        go_upto_region 6 with fail
        go_region_held3 (fun w' => Same wr w') (with_reducible (first | assumption | exact Same.drew _))
          ((go_at_call 53; (refine (HQ.out _ (show Same wr _ by (with_reducible (first | assumption | exact Same.drew _)))).mono ?_); rintro e2 w2 ⟨rfl, hb2⟩; have S1 := Same.step (show Same wr _ by (with_reducible (first | assumption | exact Same.drew _))) hb2; clear hb2))
        all_goals
          cases hq : eqR e e'
          · have hne : decide (l = l') = false := decide_eq_false fun h => by
              have h1 := HE.out
              rw [h] at h1
              rw [HE'.out] at h1
              injection h1 with h1
              rw [h1, eqR_iff.2 rfl] at hq
              cases hq
            have HNE := Lib.hid hne
            clear hne
            go_wp2
            go_ret
            exact ⟨by rw [HNE.out]; first | rfl | simp, below_from HB.out (show Same wr _ by assumption).1 HB.out.size⟩
          · have hee : e = e' := eqR_iff.1 hq
            have HT2 := Lib.hid (show l.take (k + 1) = l'.take (k + 1) by rw [HS0.out, HS1.out, HT.out, hee])
            clear hee
            go_wp2
            refine ⟨⟨k + 1, by omega, by simp, HT2.out, below_from HB.out (show Same wr _ by assumption).1 HB.out.size⟩, ?_⟩
            simp [intOf]; omega
      · obtain rfl : k = n := by omega
        have hll : l = l' := by
          have := HT.out
          rwa [List.take_of_length_le (by rw [HN.out]; exact Nat.le_refl _), List.take_of_length_le (by rw [HN'.out]; exact Nat.le_refl _)] at this
        have HD := Lib.hid (decide_eq_true hll)
        clear hll
        go_wp2
        go_ret
        exact ⟨by rw [HD.out]; first | rfl | simp, HB.out⟩
  · have he : decide (l = l') = false := decide_eq_false fun h => hnn (by rw [← HN.out, ← HN'.out, h])
    rw [he]
    go_enter Tryz.func52, Tryz.ntmps52
    go_wp2
    go_ret
    exact ⟨by first | rfl | simp, Below.refl _ _⟩
theorem records_any {A A' : Option Addr} {n cap n' cap' : Nat} {l l' : List Rec} (w : World) (h : recE.At w (· < w.heap.size) A n cap l) (h' : recE.At w (· < w.heap.size) A' n' cap' l') :
    Calls Tryz.prog 19 #[.slice A n cap, .slice A' n' cap'] w fun e w' => e = .returned (.bool (decide (l = l'))) ∧ Below w.heap.size w w' := by
  have HC := Lib.hid (same_recs w h h')
  clear h h'
  go_enter Tryz.func19, Tryz.ntmps19
  go_wp2_with (go_at_call 52; go_loud ((with_reducible refine HC.out.mono ?_); rintro e w1 ⟨rfl, hb⟩))
  go_ret
  exact ⟨rfl, hb⟩
end Go.Proofs.YtdpamikobmefeaaGreat
