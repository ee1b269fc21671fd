/- The document's gathering: Add, Page. Conditions: it is one. | The document's gathering: Page. Conditions: it is one. | The model: its words; New, Delete. Conditions: none. | The model: Get, Delete, Len. Conditions: it is one. | The model: Delete. Conditions: it is one. | The model: Put of a record that may be. Conditions: it is one; values are data. | The model: Len. Conditions: it is one. | box.Right: whether a box may be. Conditions: the ranges read so. | The model: Find. Conditions: it is one. | The model in the word of states; awake of the model's laws. Conditions: none. -/
import Derived.Test.YtgdlajbkppfejaaRPut18
import Derived.Deep.RegionWith
import Derived.Test.YtgdlajbkppfejaaGathSta
import Derived.Test.YtgdlajbkppfejaaOpen18
import Derived.LoopN
namespace Go.Proofs.Ytgdlajbkppfejaa
open Go.RowKit Go.ChangeShapes
set_option maxRecDepth 100000
set_option linter.unusedVariables false
set_option linter.unusedSimpArgs false

/-- The document's gathering: a block that holds its box and its records. -/
def RefG (c : Col) (π : List Int) (w : World) (b : Nat) (A : Option Addr) (n cp : Nat) (bl : List Rng) (L : List Rec) : Prop :=
  ∃ (A' : Option Addr) (n' cp' : Nat), Box w b #[.slice A n cp, .slice A' n' cp'] ∧ c b = π ∧ RngsAt w (Quiet c w) A n cp bl ∧ recE.At w (Quiet c w) A' n' cp' L
theorem RefG.keep {π : List Int} {c c' : Col} {w w' : World} {b : Nat} {A : Option Addr} {n cp : Nat} {bl : List Rng} {L : List Rec} (h : RefG c π w b A n cp bl L) (hk : Keeps π c w c' w') : RefG c' π w' b A n cp bl L := by
  obtain ⟨A', n', cp', h1, h2, h3, h4⟩ := h
  exact ⟨A', n', cp', h1.only hk.only (fun hn => hn.2 h2), (hk.col b h1.lt (.inr h2)).trans h2, h3.move hk.quiet, h4.move hk.quiet⟩
def tRefG (π : List Int) (b : Nat) (A : Option Addr) (n cp : Nat) (bl : List Rng) (L : List Rec) : Thing := ⟨π, fun c w => RefG c π w b A n cp bl L, fun h hk => h.keep hk⟩
theorem addsR_len (bl : List Rng) (R l : List Rec) : (addsR bl R l).1.length ≤ R.length + l.length := by
  have key : ∀ n, n ≤ l.length → (addsR bl R (l.take n)).1.length ≤ R.length + n := by
    intro n
    induction n with
    | zero => intro _; simp [addsR]
    | succ n ih =>
      intro hn
      have hx : l[n]? = some l[n] := List.getElem?_eq_getElem (by omega)
      rw [List.take_add_one, hx, Option.toList_some, addsR_snoc]
      have := ih (by omega)
      have h2 : (addR bl (addsR bl R (l.take n)).1 l[n]).1.length ≤ (addsR bl R (l.take n)).1.length + 1 := by
        unfold addR
        split
        · exact putR_len _ _
        · simp
      simp only
      omega
  have := key l.length (Nat.le_refl _)
  rwa [List.take_length] at this
theorem addsR_cnt (bl : List Rng) (R l : List Rec) : 0 ≤ (addsR bl R l).2 ∧ (addsR bl R l).2 ≤ l.length := by
  have key : ∀ n, n ≤ l.length → 0 ≤ (addsR bl R (l.take n)).2 ∧ (addsR bl R (l.take n)).2 ≤ n := by
    intro n
    induction n with
    | zero => intro _; simp [addsR]
    | succ n ih =>
      intro hn
      have hx : l[n]? = some l[n] := List.getElem?_eq_getElem (by omega)
      rw [List.take_add_one, hx, Option.toList_some, addsR_snoc]
      obtain ⟨h1, h2⟩ := ih (by omega)
      have h3 : 0 ≤ (addR bl (addsR bl R (l.take n)).1 l[n]).2 ∧ (addR bl (addsR bl R (l.take n)).1 l[n]).2 ≤ 1 := by
        unfold addR
        split
        · split <;> simp
        · simp
      simp only
      omega
  have := key l.length (Nat.le_refl _)
  rwa [List.take_length] at this
theorem refg_put_end {π : List Int} {c : Col} {wr w2 : World} {b : Nat} {BA MA A9 : Option Addr} {bn bc mn mc n9 cap9 : Nat} {bl : List Rng} {L9 : List Rec} (hbx : Box wr b #[.slice BA bn bc, .slice MA mn mc]) (hb : Below wr.heap.size wr w2) (hrg : RngsAt wr (Quiet c wr) BA bn bc bl)
    (ha : recE.At w2 (fun x => (Quiet c wr x ∨ wr.heap.size ≤ x) ∧ x < w2.heap.size) A9 n9 cap9 L9) (hf : Fresh c wr) (hcb : c b = π) (hπ : π ≠ []) :
    Stp (· = π) c wr c (w2.setCell ⟨b, 1, none⟩ (.slice A9 n9 cap9)) ∧ RefG c π (w2.setCell ⟨b, 1, none⟩ (.slice A9 n9 cap9)) b BA bn bc bl L9 := by
  have hq : ∀ x, c x = [] → x ≠ b := fun x hx e => hπ (by rw [← hcb, ← e]; exact hx)
  have st : Stp (· = π) c wr c (w2.setCell ⟨b, 1, none⟩ (.slice A9 n9 cap9)) := (Stp.of_below _ hf hb).trans ⟨(Only.refl _ _).setCell (p := ⟨b, 1, none⟩) (.inl hcb) _, fun _ _ => rfl, fun k hk => hf k (by rw [size_setCell] at hk; exact Nat.le_trans hb.size hk)⟩
  refine ⟨st, A9, n9, cap9, ?_, hcb, hrg.move fun x hx hlt => ⟨st.only.block x hlt (by show ¬ c x = π; rw [hx.1]; exact fun e => hπ e.symm), hx.1, Nat.lt_of_lt_of_le hlt st.only.size⟩, ha.move fun x hx hlt => ?_⟩
  · have := (hbx.below hb hbx.lt).set (i := 1) (.slice A9 n9 cap9)
    simpa using this
  · have hx0 : c x = [] := by rcases hx.1 with h | h; exact h.1; exact hf x h
    exact ⟨Below.heap_setCell w2 ⟨b, 1, none⟩ _ x (hq x hx0), hx0, by rw [size_setCell]; exact hx.2⟩
set_option maxHeartbeats 8000000 in
theorem refg_add {c : Col} {π : List Int} {w : World} {b : Nat} {BA : Option Addr} {bn bc : Nat} {bl : List Rng} {L : List Rec} {A : Option Addr} {n cap : Nat} {l : List Rec} (h : RefG c π w b BA bn bc bl L) (hf : Fresh c w) (hπ : π ≠ []) (hL : L.length ≤ 5000) (hn : n ≤ 4000) (hl : recE.At w (Quiet c w) A n cap l) :
    Calls Try.prog 13 #[.pointer (some ⟨b, 0, none⟩), .slice A n cap] w fun e w' => e = .returned (.int .i64 (addsR bl L l).2) ∧ ∃ c', Stp (· = π) c w c' w' ∧ RefG c' π w' b BA bn bc bl (addsR bl L l).1 := by
  have HL := Lib.hid hl; have HN := Lib.hid hl.1; have HS := Lib.hid h; have HF := Lib.hid hf
  clear hl h hf
  go_enter Try.func13, Try.ntmps13
  go_wp2
  go_loopw [5, 6] (fun s5 s6 wr => ∃ (k : Nat) (c' : Col), k ≤ n ∧ s6 = .int .i64 k ∧ s5 = .int .i64 (addsR bl L (l.take k)).2 ∧ Stp (· = π) c w c' wr ∧ RefG c' π wr b BA bn bc bl (addsR bl L (l.take k)).1) (fun _ i _ => n - (intOf i).toNat)
  case atStart => exact ⟨0, c, Nat.zero_le _, rfl, rfl, Stp.refl _ HF.out, HS.out⟩
  case round =>
    obtain ⟨k, c', hk, rfl, rfl, hst, hg⟩ := hrel
    have HST := Lib.hid hst; have HG := Lib.hid hg
    have hj1 := addsR_len bl L (l.take k)
    have hj2 := addsR_cnt bl L (l.take k)
    have hj3 : (l.take k).length ≤ k := by simp; omega
    clear hst hg
    by_cases hlt : k < n
    · obtain ⟨r, hr⟩ : ∃ r, l[k]? = some r := ⟨_, List.getElem?_eq_getElem (by rw [HN.out]; exact hlt)⟩
      have HT := Lib.hid (show addsR bl L (l.take (k + 1)) = ((addR bl (addsR bl L (l.take k)).1 r).1, (addsR bl L (l.take k)).2 + (addR bl (addsR bl L (l.take k)).1 r).2) from by rw [List.take_add_one, hr]; exact addsR_snoc bl L (l.take k) r)
      obtain ⟨M, hM⟩ : ∃ M, (addsR bl L (l.take k)).1 = M := ⟨_, rfl⟩
      obtain ⟨cnt, hcnt⟩ : ∃ cnt, (addsR bl L (l.take k)).2 = cnt := ⟨_, rfl⟩
      rw [hM] at HG HT hj1
      rw [hcnt] at HT hj2 ⊢
      clear hM hcnt
      obtain ⟨MA, mn, mc, hbx, hcb, hrg, hrc⟩ := HG.out
      have hqt : ∀ b, Quiet c w b → b < w.heap.size → wr.heap[b]? = w.heap[b]? ∧ Quiet c' wr b := fun b hb hlt => ⟨HST.out.only.block b hlt (by show ¬ c b = π; rw [hb.1]; exact fun e => hπ e.symm), (HST.out.col b hlt).trans hb.1, Nat.lt_of_lt_of_le hlt HST.out.only.size⟩
      obtain ⟨bb, off, rfl, hb, hc⟩ := (recsAt (HL.out.move hqt)).2.2.2.2 (by omega)
      obtain ⟨hok, s, m, cp, d0, d1, d2, hint⟩ := hc k r hr
      have zbb := hb.2
      have hmn : M.length = mn := hrc.1
      have HBX := Lib.hid hbx; have HRG := Lib.hid hrg; have HRC := Lib.hid hrc; have HI := Lib.hid hint; have HOK := Lib.hid hok; have HQ := Lib.hid hqt; have HCB := Lib.hid hcb
      have cb := hbx.cell; have zb := hbx.lt; have fb := hbx.free
      clear hc hb hr hbx hrg hrc hint hok hqt hcb
      obtain ⟨id, ver, vals⟩ := r
      dsimp only at *
      obtain ⟨bo, hbo⟩ : ∃ bo, matchF bl vals = bo := ⟨_, rfl⟩
      have hmt : ∀ w' : World, Same wr w' → Calls Try.prog 25 #[.slice BA bn bc, .slice s m cp] w' fun e w2 => e = .returned (.bool bo) ∧ Below w'.heap.size w' w2 := fun w' hs => by
        rw [← hbo]
        exact r05match_any w' (HRG.out.move (D' := (· < wr.heap.size)) fun b hb hlt => ⟨hs.1.block b hlt, hlt⟩) (HI.out.move (D' := (· < wr.heap.size)) fun b hb hlt => ⟨hs.1.block b hlt, hlt⟩) HOK.out.2.2 (fun b hb => Nat.lt_of_lt_of_le hb hs.1.size) (fun b hb => Nat.lt_of_lt_of_le hb hs.1.size)
      have HMT := Lib.hid hmt; have HBO := Lib.hid hbo
      clear hmt hbo
      go_upto_region 5 with fail
      go_region_held3 (fun w' => Same wr w') (with_reducible (first | assumption | exact Same.drew _))
        ((go_at_call 25; (refine (HMT.out _ (show Same wr _ by (with_reducible (first | assumption | exact Same.drew _)))).mono ?_); rintro e2 w2 ⟨rfl, hb2⟩; have S1 := Same.step (show Same wr _ by (with_reducible (first | assumption | exact Same.drew _))) hb2; clear hb2))
      all_goals
        cases bo
        · have HA : Hid (addR bl M ⟨id, ver, vals⟩ = (M, 0)) := by show addR bl M ⟨id, ver, vals⟩ = (M, 0); unfold addR; dsimp only; rw [HBO.out]; rfl
          go_wp2
          go_roundw
          case rel =>
            have hB := (show Same wr _ by (with_reducible (first | assumption | exact Same.drew _))).1
            exact ⟨k + 1, c', by omega, by go_num, by rw [HT.out, HA.out]; simp, HST.out.trans (Stp.of_below _ HST.out.fresh hB), by rw [HT.out, HA.out]; exact HG.out.keep (Keeps.of_stp (C := fun _ => False) (Stp.of_below _ HST.out.fresh hB) (fun h => h) (fun h => h))⟩
          case measure => simp [intOf]; omega
        · have hB0 := Lib.hid ((show Same wr _ by (with_reducible (first | assumption | exact Same.drew _))).1)
          have HA : Hid (addR bl M ⟨id, ver, vals⟩ = ((putR M ⟨id, ver, vals⟩).1, if (putR M ⟨id, ver, vals⟩).2 = true then 1 else 0)) := by show addR bl M ⟨id, ver, vals⟩ = _; unfold addR; dsimp only; rw [HBO.out]; rfl
          have HC2 := Lib.hid (fun (w' : World) (h : Below wr.heap.size wr w') => And.intro ((h.cell (p := ⟨bb, off + k * 3, none⟩) zbb).trans d0) (And.intro ((h.cell (p := ⟨bb, off + k * 3 + 1, none⟩) zbb).trans d1) ((h.cell (p := ⟨bb, off + k * 3 + 2, none⟩) zbb).trans d2)))
          go_upto_region 6 with fail
          refine wp_abs (fun wx => Below wr.heap.size wr wx) hB0.out ?_
          clear hB0
          rintro wx hBx
          have HBW := Lib.hid hBx
          have XB := HBX.out.below hBx zb
          obtain ⟨e0, e1, e2⟩ := HC2.out wx hBx
          have cbx := XB.cell; have fbx := XB.free; have zbx := XB.lt
          have zx := Nat.lt_of_lt_of_le zbb hBx.size
          clear d0 d1 d2 cb fb zb XB hBx zbb
          have HPUT := Lib.hid (fun (w' : World) (hs : Same wx w') => r18put (D := Quiet c' wr) (id := id) (ver := ver) (vals := vals) (s := s) (m := m) (cp := cp) w' (HRC.out.move fun x hx hlt => ⟨(below_from HBW.out hs.1 HBW.out.size).block x hlt, hx⟩) (HI.out.move fun x hx hlt => ⟨(below_from HBW.out hs.1 HBW.out.size).block x hlt, hx⟩) HOK.out (fun x hx => Nat.lt_of_lt_of_le hx.2 (below_from HBW.out hs.1 HBW.out.size).size) (by omega))
          obtain ⟨⟨M2, is⟩, hM2⟩ : ∃ p, putR M ⟨id, ver, vals⟩ = p := ⟨_, rfl⟩
          rw [hM2] at HA HPUT
          clear hM2
          cases is
          all_goals
            go_region_held3 (fun w' => Same wx w') (with_reducible (first | assumption | exact Same.drew _))
              ((go_at_call 40; (refine (HPUT.out _ (show Same wx _ by (with_reducible (first | assumption | exact Same.drew _)))).mono ?_); rintro e3 w3 ⟨A9, n9, cap9, rfl, ha9, hb9⟩; have HA9 := Lib.hid (And.intro (show Same wx _ by (with_reducible (first | assumption | exact Same.drew _))).1.size ha9); have S1 := Same.step (show Same wx _ by (with_reducible (first | assumption | exact Same.drew _))) hb9; clear hb9 ha9))
            all_goals
              have hS := (show Same wx _ by (with_reducible assumption)).1
              have XC := (HBX.out.below (below_from HBW.out hS HBW.out.size) HBX.out.lt)
              have cbc := XC.cell; have fbc := XC.free; have zbc := XC.lt
              have HE := Lib.hid (refg_put_end HBX.out (below_from HBW.out hS HBW.out.size) HRG.out (HA9.out.2.imp fun x hx => ⟨hx.1.imp (fun h => h) (fun h => Nat.le_trans HBW.out.size (Nat.le_trans HA9.out.1 h)), hx.2⟩) HST.out.fresh HCB.out hπ)
              clear XC hS
              go_wp2
              go_roundw
              case rel =>
                exact ⟨k + 1, c', by omega, by go_num, by rw [HT.out, HA.out]; simp, HST.out.trans HE.out.1, by rw [HT.out, HA.out]; exact HE.out.2⟩
              case measure => simp [intOf]; omega
    · have hT : l.take k = l := List.take_of_length_le (by rw [HN.out]; omega)
      have h1 := HG.out
      rw [hT] at h1 ⊢
      have H1 := Lib.hid h1
      clear h1
      go_wp2
      go_ret
      exact ⟨rfl, c', HST.out, H1.out⟩
end Go.Proofs.Ytgdlajbkppfejaa

namespace Go.Proofs.Ytgdlajbkppfejaa
open Go.RowKit Go.ChangeShapes
set_option maxRecDepth 100000
set_option linter.unusedVariables false
set_option linter.unusedSimpArgs false

/-- What the document's page looks at. -/
def filtR (after : Int) (first : Bool) (l : List Rec) : List Rec := l.filter fun r => first || !decide (r.id ≤ after)
theorem filtR_rest {L : List Rec} (h : Up L) (after : Int) (first : Bool) : restF after first L = filtR after first L := by
  unfold restF filtR
  cases first with
  | true =>
    rw [if_pos rfl]
    exact (List.filter_eq_self.2 fun y _ => by simp).symm
  | false =>
    rw [if_neg (by simp)]
    induction L with
    | nil => rfl
    | cons x t ih =>
      obtain ⟨h1, h2⟩ := List.pairwise_cons.1 h
      by_cases hx : x.id ≤ after
      · simp only [List.dropWhile, hx, decide_true, List.filter_cons, Bool.false_or, Bool.not_true, Bool.false_eq_true, if_false]
        have := ih h2
        simpa using this
      · have hall : ∀ y ∈ t, ¬ y.id ≤ after := fun y hy => by have := h1 y hy; omega
        rw [List.dropWhile_cons_of_neg (by simp; omega), List.filter_cons_of_pos (by simp; omega)]
        congr 1
        exact (List.filter_eq_self.2 fun y hy => by have := hall y hy; simp; omega).symm
theorem filtR_snoc {after : Int} {first : Bool} {l : List Rec} {i : Nat} {x : Rec} (h : l[i]? = some x) : filtR after first (l.take (i + 1)) = if (first || !decide (x.id ≤ after)) = true then filtR after first (l.take i) ++ [x] else filtR after first (l.take i) := by
  unfold filtR
  rw [List.take_add_one, h, Option.toList_some, List.filter_append]
  split
  · rename_i hh; simp only [List.filter_cons, hh, if_true, List.filter_nil]
  · rename_i hh; rw [Bool.not_eq_true] at hh; simp only [List.filter_cons, hh, List.filter_nil, Bool.false_eq_true, if_false, List.append_nil]
theorem filtR_more {after : Int} {first : Bool} {l : List Rec} {i : Nat} {x : Rec} {n : Int} (hx : l[i]? = some x) (hp : (first || !decide (x.id ≤ after)) = true) (h1 : (filtR after first (l.take i)).length ≤ n.toNat) (h2 : n ≤ (filtR after first (l.take i)).length) :
    (filtR after first l).take (manyF n (filtR after first l).length) = filtR after first (l.take i) ∧ decide (manyF n (filtR after first l).length < (filtR after first l).length) = true := by
  have e : filtR after first l = filtR after first (l.take i) ++ (x :: filtR after first (l.drop (i + 1))) := by
    obtain ⟨i1, i2⟩ := List.getElem?_eq_some_iff.1 hx
    have h9 : l = l.take i ++ (x :: l.drop (i + 1)) := by
      conv => lhs; rw [← List.take_append_drop i l]
      rw [List.drop_eq_getElem_cons i1, i2]
    conv => lhs; rw [h9]
    unfold filtR
    rw [List.filter_append, List.filter_cons, hp, if_pos rfl]
  generalize filtR after first (l.take i) = out at *
  rw [e]
  have hm : manyF n (out ++ (x :: filtR after first (l.drop (i + 1)))).length = out.length := by
    unfold manyF
    simp only [List.length_append, List.length_cons]
    omega
  rw [hm]
  exact ⟨by simp, decide_eq_true (by simp)⟩
theorem filtR_all {after : Int} {first : Bool} {l : List Rec} {n : Int} (h1 : (filtR after first l).length ≤ n.toNat) :
    (filtR after first l).take (manyF n (filtR after first l).length) = filtR after first l ∧ decide (manyF n (filtR after first l).length < (filtR after first l).length) = false := by
  have hm : manyF n (filtR after first l).length = (filtR after first l).length := by unfold manyF; omega
  rw [hm]
  exact ⟨List.take_length, decide_eq_false (by omega)⟩
section
variable {r r' : Rec} {c0 : Col} {wy wc wd : World} {v : Value} {L : List Rec} {m : RecC}
theorem T3.any {cp : Option RecC} {bx : Option Nat} (h : T3 r c0 wy wc v L cp bx) : T3 r' c0 wy wc v L none none := by
  obtain ⟨c, st, hr, _⟩ := h
  exact ⟨c, st, hr, (fun m h => by cases h), fun m b h => by cases h⟩
theorem T3.below {w : World} {cp : Option RecC} {bx : Option Nat} (h : T3 r (colOf (fun _ => False) w.heap.size) w wc v L cp bx) : Below w.heap.size w wc := by
  obtain ⟨c, st, _⟩ := h
  exact st.below (Nat.le_refl _) fun k _ => colOf_ne
theorem T3.shape {cp : Option RecC} {bx : Option Nat} (h : T3 r c0 wy wc v L cp bx) : ∃ A cap, v = .slice A L.length cap := by
  obtain ⟨c, st, hr, _⟩ := h
  obtain ⟨A, cap, e, _⟩ := hr.shape
  exact ⟨A, cap, e⟩
theorem T3.wpList_push {ops : Array Oper} {rest : List Oper} {o : Oper} {a : Act} {Q : Exit → Act → World → Prop} {T : TypeId} (hgd : o.guard = none) (s x : Operand)
    (ho : o.op = .call { callee := .builtin .append, args := #[s, x], argTypes := #[recE.ST, recE.ST] })
    (hs : a.eval s = v) (hx : a.eval x = .slice (some ⟨wc.heap.size, 0, none⟩) 1 1) (h : T3 r c0 wy wc v L (some m) none) {q : Nat} (hq : L.length + 1 = q) (hlen : q ≤ 1000000)
    (hK : ∀ B cap w', T3 r c0 wy w' (.slice B q cap) (L ++ [r]) none none → wpList Try.prog ops Q rest (a.put o.dst (.slice B q cap)) w') : wpList Try.prog ops Q (o :: rest) a (wc.alloc (.cells (encRC m).toArray T)) := by
  subst hq
  obtain ⟨c, st, hr, h1, h2⟩ := h.box (T := T)
  obtain ⟨b1, b2⟩ := h2 m _ rfl rfl
  refine Elt.wpList_append (E := recE) hgd s x ho v hs hr st.fresh (by simp) (some ⟨wc.heap.size, 0, none⟩) 1 1 hx (Elt.At.one b1 b2 (show recE.rd _ _ (encRC m) r from h1 m rfl)) hlen fun B cap w' c' st' hr' => ?_
  exact hK B cap w' (T3.any (T3.turned st h1 h2 st' hr'))
end
theorem page_ans {w w7 : World} {r : Rec} {v : Value} {l out : List Rec} {bo b : Bool} (h : T3 r (colOf (fun _ => False) w.heap.size) w w7 v out none none) (hl : out = l) (hbo : b = bo) : PutAns w (fun _ => False) l bo (.returned (.tuple #[v, .bool b])) w7 := by
  subst hl hbo
  obtain ⟨A, cap, rfl⟩ := h.shape
  obtain ⟨c, st, hr, _⟩ := h
  obtain ⟨h1, h2⟩ := put_end st hr
  exact ⟨A, _, cap, rfl, h1, h2⟩
set_option maxHeartbeats 8000000 in
theorem refg_page {c : Col} {π : List Int} {w : World} {b : Nat} {BA : Option Addr} {bn bc : Nat} {bl : List Rng} {L : List Rec} (after : Int) (first : Bool) (n : Int) (h : RefG c π w b BA bn bc bl L) (hL : L.length ≤ 5000) :
    Calls Try.prog 16 #[.pointer (some ⟨b, 0, none⟩), .int .u64 after, .bool first, .int .i64 n] w (PutAns w (fun _ => False) ((filtR after first L).take (manyF n (filtR after first L).length)) (decide (manyF n (filtR after first L).length < (filtR after first L).length))) := by
  obtain ⟨MA, mn, mc, hbx, _, _, hrc⟩ := h
  have HBX := Lib.hid hbx; have HRC := Lib.hid hrc; have hmn := hrc.1
  have HMN := Lib.hid hmn
  have hmn5 : mn ≤ 5000 := by omega
  have zb := hbx.lt
  clear hbx hrc
  have T0 := Lib.hid (T3.start (r := ⟨0, 0, []⟩) (c0 := colOf (fun _ => False) w.heap.size) (wy := w) (fun k hk => colOf_new hk))
  go_enter Try.func16, Try.ntmps16
  have cb0 := HBX.out.cell
  go_wp2
  clear cb0
  go_loopw [10, 11] (fun s10 s11 wr => ∃ i : Nat, i ≤ mn ∧ s11 = .int .i64 i ∧ (filtR after first (L.take i)).length ≤ n.toNat ∧ T3 ⟨0, 0, []⟩ (colOf (fun _ => False) w.heap.size) w wr s10 (filtR after first (L.take i)) none none) (fun _ i _ => mn - (intOf i).toNat)
  case atStart => exact ⟨0, Nat.zero_le _, rfl, by simp [filtR], by simpa [filtR] using T0.out⟩
  case round =>
    obtain ⟨i, hi, rfl, hol, ht⟩ := hrel
    have HT := Lib.hid ht; have HOL := Lib.hid hol
    have hB := ht.below
    have HB := Lib.hid hB
    have XB := HBX.out.below hB zb
    have cb := XB.cell; have fb := XB.free; have zbr := XB.lt
    obtain ⟨OA, ocap, rfl⟩ := ht.shape
    clear ht hB XB
    have hot : (filtR after first (L.take i)).length ≤ i := by
      have := List.length_filter_le (fun r => first || !decide (r.id ≤ after)) (L.take i)
      have h2 : (L.take i).length ≤ i := by simp; omega
      unfold filtR; omega
    by_cases hlt : i < mn
    · obtain ⟨x, hx⟩ : ∃ x, L[i]? = some x := ⟨_, List.getElem?_eq_getElem (by rw [HMN.out]; exact hlt)⟩
      obtain ⟨bb, off, rfl, hbb, hcc⟩ := (recsAt HRC.out).2.2.2.2 (by omega)
      obtain ⟨xok, xs, xm, xc, p0, p1, p2, xi⟩ := hcc i x hx
      have d0 := (HB.out.cell (p := ⟨bb, off + i * 3, none⟩) hbb.2).trans p0
      have d1 := (HB.out.cell (p := ⟨bb, off + i * 3 + 1, none⟩) hbb.2).trans p1
      have d2 := (HB.out.cell (p := ⟨bb, off + i * 3 + 2, none⟩) hbb.2).trans p2
      have HSN := Lib.hid (filtR_snoc (after := after) (first := first) hx)
      have HX := Lib.hid hx; have HXI := Lib.hid xi; have HXK := Lib.hid xok
      clear hcc p0 p1 p2 hbb hx xi xok hmn
      have HHC := Lib.hid (fun (w' : World) (hb : Below w.heap.size w w') => hcopy_any_R x.id x.ver w' (D := (· < w.heap.size)) (HXI.out.move fun b hb' hlt => ⟨hb.block b hlt, hlt⟩) (fun b hb' => Nat.lt_of_lt_of_le hb' hb.size))
      cases hp : (first || !decide (x.id ≤ after)) with
      | false =>
        rw [hp] at HSN
        obtain ⟨rfl, hle⟩ : first = false ∧ x.id ≤ after := by
          rw [Bool.or_eq_false_iff] at hp
          exact ⟨hp.1, by simpa using hp.2⟩
        clear hp
        go_wp2
        go_roundw
        case rel => exact ⟨i + 1, by omega, by go_num, by rw [HSN.out]; exact HOL.out, by rw [HSN.out]; exact HT.out⟩
        case measure => simp [intOf]; omega
      | true =>
        have HP := Lib.hid hp
        rw [hp, if_pos rfl] at HSN
        have hpp : first = true ∨ (first = false ∧ ¬ x.id ≤ after) := by
          cases first with
          | true => exact .inl rfl
          | false => exact .inr ⟨rfl, by simpa using hp⟩
        clear hp
        by_cases hge : n ≤ ((filtR after first (L.take i)).length : Int)
        · have HM := Lib.hid (filtR_more HX.out HP.out HOL.out hge)
          generalize filtR after first (L.take i) = out at *
          rcases hpp with rfl | ⟨rfl, hle⟩
          all_goals
            go_wp2
            refine bodyPost_ret (v := .tuple #[.slice OA out.length ocap, .bool true]) (by simp [results, Try.results16, go_sem]) rfl ?_
            exact page_ans HT.out HM.out.1.symm HM.out.2.symm
        · have hlt2 : ((filtR after first (L.take i)).length : Int) < n := by omega
          have HOL2 := Lib.hid (show (filtR after first (L.take i)).length + 1 ≤ n.toNat by omega)
          generalize filtR after first (L.take i) = out at *
          rcases hpp with rfl | ⟨rfl, hle⟩
          all_goals
            go_wp2_with (first
              | (go_at_call 42; go_loud (refine (HHC.out _ HB.out).mono ?_; rintro e2 w2 ⟨v2, rfl, ⟨s2, n2, k2, rfl, hi2⟩, hb2⟩; have HT2 := Lib.hid (T3.copied (r := x) (T3.any HT.out) hb2 hi2 HXK.out); clear hb2 hi2))
              | (at_builtin; go_loud (refine T3.wpList_push (m := ⟨x.id, x.ver, s2, n2, k2⟩) (wc := w2) (q := out.length + 1) rfl _ _ rfl rfl rfl HT2.out rfl (by omega) ?_; intro B5 cap5 w5 t5; have HT5 := Lib.hid t5; clear t5)))
            go_roundw
            case rel => exact ⟨i + 1, by omega, by go_num, by rw [HSN.out, List.length_append]; exact HOL2.out, by rw [HSN.out]; exact HT5.out.any⟩
            case measure => simp [intOf]; omega
    · obtain rfl : i = mn := by omega
      have hT : L.take i = L := List.take_of_length_le (by rw [HMN.out]; exact Nat.le_refl _)
      rw [hT] at HT HOL
      have HM := Lib.hid (filtR_all HOL.out)
      rw [hT]
      clear hT hot
      go_wp2
      refine bodyPost_ret (v := .tuple #[.slice OA (filtR after first L).length ocap, .bool false]) (by simp [results, Try.results16, go_sem]) rfl ?_
      exact page_ans HT.out HM.out.1.symm HM.out.2.symm
end Go.Proofs.Ytgdlajbkppfejaa

namespace Go.Proofs.Ytgdlajbkppfejaa
open Go.RowKit Go.ChangeShapes Go.Maps
set_option maxRecDepth 100000
set_option linter.unusedVariables false
set_option linter.unusedSimpArgs false

/-- What is known of an id. -/
structure Kn where
  key : Int
  ver : Int
  is : Bool
  rc : Rec
def Kn.ok (x : Kn) : Prop := U64 x.key ∧ U64 x.ver ∧ x.rc.ok
/-- A value that is what is known. -/
def isKn : Value → Bool
  | .agg ⟨[.int .u64 _, .bool _, .int .u64 _, .int .u64 _, .slice _ _ _]⟩ => true
  | _ => false
def KVal (c : Col) (w : World) (x : Kn) (v : Value) : Prop := ∃ s l cp, v = .agg #[.int .u64 x.ver, .bool x.is, .int .u64 x.rc.id, .int .u64 x.rc.ver, .slice s l cp] ∧ x.ok ∧ Ints w (Quiet c w) .u32 4 s l cp x.rc.vals
theorem KVal.keep {π : List Int} {c c' : Col} {w w' : World} {x : Kn} {v : Value} (h : KVal c w x v) (hk : Keeps π c w c' w') : KVal c' w' x v := by
  obtain ⟨s, l, cp, rfl, hok, hi⟩ := h
  exact ⟨s, l, cp, rfl, hok, hi.move hk.quiet⟩
def kK (x : Kn) : Lit := .int .u64 x.key
def findK (L : List Kn) (id : Int) : Option Kn := L.find? fun x => x.key == id
def setK (L : List Kn) (x : Kn) : List Kn := L.map fun y => if y.key == x.key then x else y
def putK (L : List Kn) (x : Kn) : List Kn := if (findK L x.key).isSome = true then setK L x else L ++ [x]
/-- The version that was last, and whether it is there. -/
def lastK (L : List Kn) (id : Int) : Int := match findK L id with | some o => o.ver | none => 0
def isK (L : List Kn) (id : Int) : Bool := match findK L id with | some o => o.is | none => false
def ModelR (c : Col) (π : List Int) (w : World) (b : Nat) (attrs : Int) (L : List Kn) : Prop :=
  ∃ (mb : Nat) (D : DataW Value), BoxT w 98 b #[.int .i64 attrs, .map (some mb)] ∧ c b = π ∧ c mb = π ∧ w.ownsMap Try.prog 24 (heldIf isKn) mb L.length D ∧ MapOf kK (KVal c w) D L
theorem ModelR.keep {π : List Int} {c c' : Col} {w w' : World} {b : Nat} {attrs : Int} {L : List Kn} (h : ModelR c π w b attrs L) (hk : Keeps π c w c' w') : ModelR c' π w' b attrs L := by
  obtain ⟨mb, D, hb, h1, h2, hm, hd⟩ := h
  exact ⟨mb, D, hb.only hk.only (fun hn => hn.2 h1), (hk.col b hb.lt (.inr h1)).trans h1, (hk.col mb hm.lt (.inr h2)).trans h2, ownsMap_only hm hk.only (fun hn => hn.2 h2), hd.imp fun x hx v hv => hv.keep hk⟩
def tModel (π : List Int) (b : Nat) (attrs : Int) (L : List Kn) : Thing := ⟨π, fun c w => ModelR c π w b attrs L, fun h hk => h.keep hk⟩
section
variable {c : Col} {w : World} {D : DataW Value} {L : List Kn}
theorem kn_there {id : Int} {o : Kn} (hd : MapOf kK (KVal c w) D L) (h : findK L id = some o) : Maps.has D (.int .u64 id) = true ∧ ∃ v, KVal c w o v ∧ (∀ z, D.atKey (.int .u64 id) z = .held v) ∧ o ∈ L ∧ o.key = id := by
  have h1 := List.mem_of_find?_eq_some h
  have h2 : o.key = id := by simpa using List.find?_some h
  obtain ⟨q1, v, q2, q3⟩ := hd.has o h1
  have hk : kK o = .int .u64 id := by unfold kK; rw [h2]
  rw [hk] at q1 q3
  exact ⟨q1, v, q2, q3, h1, h2⟩
theorem kn_not {id : Int} (hd : MapOf kK (KVal c w) D L) (h : findK L id = none) : Maps.has D (.int .u64 id) = false ∧ ∀ y ∈ L, kK y ≠ .int .u64 id := by
  have h1 : ∀ y ∈ L, kK y ≠ .int .u64 id := by
    intro y hy he
    have := List.find?_eq_none.1 h y hy
    unfold kK at he
    simp only [Lit.int.injEq, true_and] at he
    exact this (by simpa using he)
  exact ⟨hd.none _ h1, h1⟩
/-- What a look-up tells. -/
theorem kn_look (hd : MapOf kK (KVal c w) D L) (id : Int) : ∃ (i v : Int) (s : Option Addr) (l cp : Nat) (r : Rec), D.atKey (.int .u64 id) (.held (.agg #[.int .u64 0, .bool false, .int .u64 0, .int .u64 0, .slice none 0 0])) = .held (.agg #[.int .u64 (lastK L id), .bool (isK L id), .int .u64 i, .int .u64 v, .slice s l cp]) ∧
    i = r.id ∧ v = r.ver ∧ r.ok ∧ Ints w (Quiet c w) .u32 4 s l cp r.vals ∧ r = (match findK L id with | some o => o.rc | none => ⟨0, 0, []⟩) ∧ U64 (lastK L id) := by
  unfold lastK isK
  cases hfe : findK L id with
  | some o =>
    obtain ⟨h1, v, ⟨s, l, cp, rfl, hok, hi⟩, h3, h4, _⟩ := kn_there hd hfe
    exact ⟨o.rc.id, o.rc.ver, s, l, cp, o.rc, h3 _, rfl, rfl, hok.2.2, hi, rfl, hok.2.1⟩
  | none =>
    obtain ⟨h1, _⟩ := kn_not hd hfe
    exact ⟨0, 0, none, 0, 0, ⟨0, 0, []⟩, atKey_of_not_has h1 _, rfl, rfl, ⟨⟨by decide, by decide⟩, ⟨by decide, by decide⟩, fun x hx => by simp at hx⟩, ⟨rfl, Nat.le_refl _, by omega, by omega, (fun _ => rfl), (fun x hx => by simp at hx), fun h => by omega⟩, rfl, ⟨Int.le_refl _, by decide⟩⟩
/-- A store. -/
theorem kn_put {x : Kn} {v : Value} (hd : MapOf kK (KVal c w) D L) (ht : Tidy D) (hv : KVal c w x v) : MapOf kK (KVal c w) (D.put (.int .u64 x.key) (.held v)) (putK L x) := by
  unfold putK
  cases hf : findK L x.key with
  | some o =>
    obtain ⟨_, _, _, _, hmem, e1⟩ := kn_there hd hf
    rw [if_pos (show (some o).isSome = true from rfl)]
    exact hd.set ht (x := x) (f := fun y => if y.key == x.key then x else y) trivial ⟨o, hmem, by unfold kK; rw [e1]⟩
      (fun y hy he => if_pos (by unfold kK at he; simpa using he)) (fun y hy he => if_neg fun h => he (by unfold kK; simpa using h)) hv
  | none =>
    rw [if_neg (by simp)]
    exact hd.add ht (x := x) trivial (kn_not hd hf).2 hv
end
def ModelTo (π : List Int) (b : Nat) (attrs : Int) (L : List Kn) (c : Col) (w w' : World) : Prop := ∃ c', Stp (· = π) c w c' w' ∧ ModelR c' π w' b attrs L ∧ Boxes w w'
/-- What a store leaves. -/
theorem model_to {c : Col} {π : List Int} {w w3 w4 : World} {b mb : Nat} {attrs : Int} {L : List Kn} {D : DataW Value} {x : Kn} {s : Option Addr} {l cp : Nat} (hb : BoxT w 98 b #[.int .i64 attrs, .map (some mb)]) (hcb : c b = π) (hcm : c mb = π) (hm : w.ownsMap Try.prog 24 (heldIf isKn) mb L.length D) (hd : MapOf kK (KVal c w) D L) (hf : Fresh c w) (hπ : π ≠ [])
    (hok : x.ok) (h3 : Below w.heap.size w w3) (hn : NewD w.heap.size .u32 4 x.rc.vals w3 (.slice s l cp))
    (hu : w4.ownsMap Try.prog 24 (heldIf isKn) mb (L.length + 1) (D.put (.int .u64 x.key) (.held (.agg #[.int .u64 x.ver, .bool x.is, .int .u64 x.rc.id, .int .u64 x.rc.ver, .slice s l cp])))) (ho : Only (· = mb) w3 w4) :
    ModelTo π b attrs (putK L x) c w w4 := by
  have st := gput_stp hcm hf h3 hm.lt ho
  have hd4 : MapOf kK (KVal c w4) D L := hd.imp fun e _ v hv => hv.keep (Keeps.of_stp st (fun e => hπ (by rw [← e])) (fun e => hπ e.symm) : Keeps [] c w c w4)
  have hv : KVal c w4 x (.agg #[.int .u64 x.ver, .bool x.is, .int .u64 x.rc.id, .int .u64 x.rc.ver, .slice s l cp]) := by
    obtain ⟨A, n, cap, e, hi⟩ := NewD.data (w := w) (c := c) (hn.only ho (fun k hk => by show ¬ k = mb; have := hm.lt; omega)) hf
    injection e with e1 e2 e3
    subst e1 e2 e3
    exact ⟨s, l, cp, rfl, hok, hi⟩
  have hbx : BoxT w4 98 b #[.int .i64 attrs, .map (some mb)] := (hb.only (Only.of_below (S := fun _ => False) h3) (fun h => h)).only ho (by
    rintro rfl
    obtain ⟨es, cl, h1, _⟩ := hm
    unfold BoxT at hb
    rw [hb] at h1; cases h1)
  have hput := kn_put hd4 (ownsMap_tidy hm u64_key) hv
  have ht := ownsMap_tight hu
  rw [hput.size] at ht
  exact ⟨c, st, ⟨mb, _, hbx, hcb, hcm, ht, hput⟩, gput_boxes hm h3 ho⟩
theorem model_new {c : Col} (π : List Int) (attrs : Int) (w : World) (hf : Fresh c w) :
    Calls Try.prog 19 #[.int .i64 attrs] w fun e w' => ∃ b, e = .returned (.pointer (some ⟨b, 0, none⟩)) ∧ ModelTo π b attrs [] c w w' := by
  have hmm := @run_makeMap Try.prog
  have HF := Lib.hid hf
  clear hf
  go_enter Try.func19, Try.ntmps19
  go_wp2
  go_ret
  have hB : Below w.heap.size w ((w.alloc (.map #[] 0)).alloc (.cells #[.int .i64 attrs, .map (some w.heap.size)] 98)) := below_a2 w _ _
  refine ⟨w.heap.size + 1, rfl, fun k => if k = w.heap.size ∨ k = w.heap.size + 1 then π else c k, ⟨Only.of_below hB, fun k hk => if_neg (by omega), fun k hk => ?_⟩, ⟨w.heap.size, .map [], ?_, if_pos (.inr rfl), if_pos (.inl rfl), (World.ownsMap_made _ _ _ _).alloc _, MapOf.empty⟩, Boxes.below hB⟩
  · simp only [size_alloc] at hk
    show (if _ then _ else _) = _
    rw [if_neg (by omega)]; exact HF.out k (by omega)
  · have := BoxT.new (w.alloc (.map #[] 0)) #[.int .i64 attrs, .map (some w.heap.size)] 98
    rwa [size_alloc] at this
end Go.Proofs.Ytgdlajbkppfejaa

namespace Go.Proofs.Ytgdlajbkppfejaa
open Go.RowKit Go.ChangeShapes Go.Maps
set_option maxRecDepth 100000
set_option linter.unusedVariables false
set_option linter.unusedSimpArgs false

def recK (L : List Kn) (id : Int) : Rec := match findK L id with | some o => o.rc | none => ⟨0, 0, []⟩
set_option maxHeartbeats 4000000 in
theorem model_get {c : Col} {π : List Int} {w : World} {b : Nat} {attrs : Int} {L : List Kn} {id : Int} (h : ModelR c π w b attrs L) (hid : U64 id) :
    Calls Try.prog 23 #[.pointer (some ⟨b, 0, none⟩), .int .u64 id] w fun e w' => ∃ s n k, e = .returned (.tuple #[.agg #[.int .u64 (recK L id).id, .int .u64 (recK L id).ver, .slice s n k], .bool (isK L id)]) ∧ Ints w' (w.heap.size ≤ ·) .u32 4 s n k (recK L id).vals ∧ (recK L id).ok ∧ Below w.heap.size w w' := by
  obtain ⟨mb, D, hb, hcb, hcm, hm, hd⟩ := h
  obtain ⟨qi, qv, qs, ql, qc, qr, hat, e1, e2, qok, qints, e3, hlu⟩ := kn_look hd id
  have e4 : qr = recK L id := e3
  subst e1 e2
  rw [e4] at hat qok qints
  clear e3 e4
  have hlook := Lib.hid (fun (w' : World) (hb' : Below w.heap.size w w') => heldIf_run (ownsMap_only hm (Only.of_below (S := fun _ => False) hb') (fun h => h)) u64_key Try.underlying96 (z := .agg #[.int .u64 0, .bool false, .int .u64 0, .int .u64 0, .slice none 0 0]) (by kernel_rfl) rfl (keyOf_id hid) hat)
  have cb := (hb.below (below_a1 w (.cells #[.int .u64 0, .int .u64 0, .slice none 0 0] 37)) hb.lt).box.cell
  have zb := (hb.below (below_a1 w (.cells #[.int .u64 0, .int .u64 0, .slice none 0 0] 37)) hb.lt).lt
  have hl1 := hlook.out (w.alloc (.cells #[.int .u64 0, .int .u64 0, .slice none 0 0] 37)) (below_a1 _ _)
  obtain ⟨r, hr⟩ : ∃ r, recK L id = r := ⟨_, rfl⟩
  obtain ⟨iv, hiv⟩ : ∃ iv, isK L id = iv := ⟨_, rfl⟩
  obtain ⟨vv, hvv⟩ : ∃ vv, lastK L id = vv := ⟨_, rfl⟩
  rw [hr] at hl1 qok qints ⊢
  rw [hiv] at hl1 ⊢
  rw [hvv] at hl1
  have HQ := Lib.hid qints; have HOK := Lib.hid qok
  clear hm hd hat hlu hlook hr hiv hvv hb qints qok
  go_enter Try.func23, Try.ntmps23
  go_upto_region 4 with fail
  refine wp_abs (fun wx => Box wx w.heap.size #[.int .u64 0, .int .u64 0, .slice none 0 0] ∧ Box wx (w.heap.size + 1) #[.int .u64 vv, .bool iv, .int .u64 r.id, .int .u64 r.ver, .slice qs ql qc] ∧ Below w.heap.size w wx) ⟨(Box.new w _ _).alloc _, Box.newAt (w.alloc _) _ _ _ (by rw [size_alloc]), below_a2 w _ _⟩ ?_
  clear cb zb hl1
  generalize ha : w.heap.size = a
  rintro wx ⟨X0, X1, hB⟩
  have HA := Lib.hid ha
  have HB := Lib.hid (show Below w.heap.size w wx by rw [ha]; exact hB)
  have HX0 := Lib.hid X0; have HX1 := Lib.hid X1
  have c0 := X0.cell; have f0 := X0.free; have c1 := X1.cell; have z0 := X0.lt; have z1 := X1.lt
  have HCP := Lib.hid (fun (w' : World) (hs : Same wx w') => copy_any r.id r.ver w' (D := fun b => b < w.heap.size) (HQ.out.move fun b hb hlt => ⟨(below_from HB.out hs.1 HB.out.size).block b hlt, hlt⟩) (fun b hb => Nat.lt_of_lt_of_le hb (below_from HB.out hs.1 HB.out.size).size))
  clear X0 X1 hB ha
  first | (go_region_with (go_at_call 39; refine (HCP.out _ (by first | exact Same.refl _ | exact Same.drew _)).mono ?_; rintro e2 w2 ⟨v2, rfl, ⟨A2, n2, k2, rfl, hi2⟩, hb2⟩; have B2 := Lib.hid (show Below wx.heap.size wx w2 from by first | exact hb2 | exact (Same.drew wx).1.trans hb2); have X20 := HX0.out.below B2.out z0; have X21 := HX1.out.below B2.out z1; have c20 := X20.cell; have f20 := X20.free; have c21 := X21.cell; have z20 := X20.lt; have z21 := X21.lt; have HX20 := Lib.hid X20; have HI2 := Lib.hid hi2; clear hb2 hi2 X20 X21)) | fail
  all_goals
    go_wp2
    refine bodyPost_ret (v := .tuple #[.agg #[.int .u64 r.id, .int .u64 r.ver, .slice A2 n2 k2], .bool iv]) (by simp [results, Try.results23, go_sem, c20, f20]) rfl ?_
    have hz : wx.heap.size ≤ w2.heap.size := B2.out.size
    have hBB : Below w.heap.size w w2 := below_from HB.out B2.out HB.out.size
    have hI : Ints w2 (fun b => wx.heap.size ≤ b) .u32 4 A2 n2 k2 r.vals := HI2.out.move fun b hb _ => ⟨rfl, hb⟩
    have hlt : w.heap.size < wx.heap.size := by rw [HA.out]; exact z0
    refine ⟨A2, n2, k2, rfl, ?_, HOK.out, ?_⟩
    · have ho : Only (· = a) w2 (((w2.setCell ⟨a, 0, none⟩ (.int .u64 r.id)).setCell ⟨a, 1, none⟩ (.int .u64 r.ver)).setCell ⟨a, 2, none⟩ (.slice A2 n2 k2)) := (((Only.refl (· = a) w2).setCell (p := ⟨a, 0, none⟩) (.inl rfl) _).setCell (p := ⟨a, 1, none⟩) (.inl rfl) _).setCell (p := ⟨a, 2, none⟩) (.inl rfl) _
      first
        | exact hI.move fun b hb hl => ⟨ho.block b hl (by have := HA.out; omega), by omega⟩
        | exact hI.move fun b hb hl => ⟨ho.drew.block b hl (by have := HA.out; omega), by omega⟩
    · first
        | exact ((hBB.setCell (p := ⟨a, 0, none⟩) (by show _ ≤ a; rw [HA.out]; exact Nat.le_refl _) _).setCell (p := ⟨a, 1, none⟩) (by show _ ≤ a; rw [HA.out]; exact Nat.le_refl _) _).setCell (p := ⟨a, 2, none⟩) (by show _ ≤ a; rw [HA.out]; exact Nat.le_refl _) _
        | exact (((hBB.setCell (p := ⟨a, 0, none⟩) (by show _ ≤ a; rw [HA.out]; exact Nat.le_refl _) _).setCell (p := ⟨a, 1, none⟩) (by show _ ≤ a; rw [HA.out]; exact Nat.le_refl _) _).setCell (p := ⟨a, 2, none⟩) (by show _ ≤ a; rw [HA.out]; exact Nat.le_refl _) _).drew
end Go.Proofs.Ytgdlajbkppfejaa

namespace Go.Proofs.Ytgdlajbkppfejaa
open Go.RowKit Go.ChangeShapes Go.Maps
set_option maxRecDepth 100000
set_option linter.unusedVariables false
set_option linter.unusedSimpArgs false

def mdelF (L : List Kn) (id ver : Int) : List Kn × Bool :=
  if isK L id = true then (if ver ≤ lastK L id then (L, false) else (putK L ⟨id, ver, false, ⟨0, 0, []⟩⟩, true)) else (L, false)
theorem putK_len (L : List Kn) (x : Kn) : (putK L x).length ≤ L.length + 1 := by
  unfold putK
  split <;> simp [setK]
theorem model_same {c : Col} {π : List Int} {w w' : World} {b : Nat} {attrs : Int} {L : List Kn} (h : ModelR c π w b attrs L) (hf : Fresh c w) (hb : Below w.heap.size w w') : ModelTo π b attrs L c w w' :=
  ⟨c, Stp.of_below _ hf hb, h.keep (Keeps.of_stp (C := fun _ => False) (Stp.of_below _ hf hb) (fun h => h) (fun h => h)), Boxes.below hb⟩
theorem zrec_ok : Rec.ok ⟨0, 0, []⟩ := ⟨⟨by decide, by decide⟩, ⟨by decide, by decide⟩, fun x hx => by simp at hx⟩
theorem nil_new (B : Nat) (w : World) : NewD B .u32 4 [] w (.slice none 0 0) := ⟨none, 0, 0, rfl, rfl, Nat.le_refl _, by omega, by omega, (fun _ => rfl), (fun x hx => by simp at hx), fun h => by omega⟩
theorem kn_field0 (v : Int) (is : Bool) (i u : Int) (s : Option Addr) (l k : Nat) (w : World) : (Instr.field 101 (.agg #[.int .u64 v, .bool is, .int .u64 i, .int .u64 u, .slice s l k]) 0).run Try.prog w = .ok (.int .u64 v) w := by rfl
theorem kn_field1 (v : Int) (is : Bool) (i u : Int) (s : Option Addr) (l k : Nat) (w : World) : (Instr.field 101 (.agg #[.int .u64 v, .bool is, .int .u64 i, .int .u64 u, .slice s l k]) 1).run Try.prog w = .ok (.bool is) w := by rfl
set_option maxHeartbeats 4000000 in
theorem model_del {c : Col} {π : List Int} {w : World} {b : Nat} {attrs : Int} {L : List Kn} {id ver : Int} (h : ModelR c π w b attrs L) (hf : Fresh c w) (hπ : π ≠ []) (hL : L.length ≤ 10000) (hid : U64 id) (hver : U64 ver) :
    Calls Try.prog 26 #[.pointer (some ⟨b, 0, none⟩), .int .u64 id, .int .u64 ver] w fun e w' => e = .returned (.bool (mdelF L id ver).2) ∧ ModelTo π b attrs (mdelF L id ver).1 c w w' := by
  have h' := h
  obtain ⟨mb, D, hb, hcb, hcm, hm, hd⟩ := h'
  obtain ⟨qi, qv, qs, ql, qc, qr, hat, y1, y2, y3, y4, y5, hlu⟩ := kn_look hd id
  clear y1 y2 y3 y4 y5
  have hlook := heldIf_run hm u64_key Try.underlying96 (z := .agg #[.int .u64 0, .bool false, .int .u64 0, .int .u64 0, .slice none 0 0]) (by kernel_rfl) rfl (keyOf_id hid) hat
  obtain ⟨upd, hupd⟩ := heldIf_upd hm u64_key Try.underlying96 (by show _ < 9223372036854775807; omega) (keyOf_id hid)
  obtain ⟨u1, u2, u3⟩ := hupd w (.agg #[.int .u64 ver, .bool false, .int .u64 0, .int .u64 0, .slice none 0 0]) (Below.refl _ _) rfl
  have HEND := Lib.hid (model_to (x := ⟨id, ver, false, ⟨0, 0, []⟩⟩) hb hcb hcm hm hd hf hπ ⟨hid, hver, zrec_ok⟩ (Below.refl _ _) (nil_new _ _) u2 u3)
  have HS := Lib.hid (model_same h hf (Below.refl _ _))
  have cb := hb.box.cell
  have hk0 := kn_field0
  have hk1 := kn_field1
  have zb := hb.lt
  obtain ⟨vv, hvv⟩ : ∃ vv, lastK L id = vv := ⟨_, rfl⟩
  obtain ⟨iv, hiv⟩ : ∃ iv, isK L id = iv := ⟨_, rfl⟩
  rw [hvv, hiv] at hlook
  have HV := Lib.hid hvv; have HI := Lib.hid hiv
  clear hb hm hd hf hat hlu hvv hiv h u2 u3 hupd
  cases iv with
  | false =>
    have HP : Hid (mdelF L id ver = (L, false)) := by show mdelF L id ver = _; unfold mdelF; rw [HI.out]; rfl
    go_enter Try.func26, Try.ntmps26
    go_wp2
    go_ret
    rw [HP.out]
    exact ⟨by first | rfl | trivial | simp, HS.out⟩
  | true =>
    by_cases hle : ver ≤ vv
    · have HP : Hid (mdelF L id ver = (L, false)) := by show mdelF L id ver = _; unfold mdelF; rw [HI.out, HV.out, if_pos rfl, if_pos hle]
      go_enter Try.func26, Try.ntmps26
      go_wp2
      go_ret
      rw [HP.out]
      exact ⟨by first | rfl | trivial | simp, HS.out⟩
    · have HP : Hid (mdelF L id ver = (putK L ⟨id, ver, false, ⟨0, 0, []⟩⟩, true)) := by show mdelF L id ver = _; unfold mdelF; rw [HI.out, HV.out, if_pos rfl, if_neg hle]
      go_enter Try.func26, Try.ntmps26
      go_wp2
      go_ret
      rw [HP.out]
      exact ⟨by first | rfl | trivial | simp, HEND.out⟩
end Go.Proofs.Ytgdlajbkppfejaa

namespace Go.Proofs.Ytgdlajbkppfejaa
open Go.RowKit Go.ChangeShapes Go.Maps
set_option maxRecDepth 100000
set_option linter.unusedVariables false
set_option linter.unusedSimpArgs false

/-- Put: the map behind it, and the answer. -/
def mputF (attrs : Int) (L : List Kn) (r : Rec) : List Kn × Bool :=
  if rightF attrs r.id r.ver r.vals.length = true then (if r.ver ≤ lastK L r.id then (L, false) else (putK L ⟨r.id, r.ver, true, r⟩, true)) else (L, false)
theorem mnot_map {T : TypeId} {C : Array Value} {R : Value → Option (DataW Value × List MemPlace)} {k : TypeId} {n g mb : Nat} {w : World} {D : DataW Value} (hb : BoxT w T g C) (hm : w.ownsMap Try.prog k R mb n D) : g ≠ mb := by
  rintro rfl
  obtain ⟨es, cl, h1, _⟩ := hm
  unfold BoxT at hb
  rw [hb] at h1
  cases h1
set_option maxHeartbeats 8000000 in
theorem model_put {c : Col} {π : List Int} {w : World} {b : Nat} {attrs : Int} {L : List Kn} {id ver : Int} {s : Option Addr} {m cp : Nat} {vals : List Int} (h : ModelR c π w b attrs L) (hf : Fresh c w) (hπ : π ≠ []) (hL : L.length ≤ 10000) (ha1 : -9223372036854775808 ≤ attrs) (ha2 : attrs < 9223372036854775808)
    (hok : Rec.ok ⟨id, ver, vals⟩) (hi : Ints w (Quiet c w) .u32 4 s m cp vals) (hrt : rightF attrs id ver vals.length = true) :
    Calls Try.prog 21 #[.pointer (some ⟨b, 0, none⟩), .agg #[.int .u64 id, .int .u64 ver, .slice s m cp]] w fun e w' => e = .returned (.bool (mputF attrs L ⟨id, ver, vals⟩).2) ∧ ModelTo π b attrs (mputF attrs L ⟨id, ver, vals⟩).1 c w w' := by
  have h' := h
  obtain ⟨mb, D, hb, hcb, hcm, hm, hd⟩ := h'
  obtain ⟨qi, qv, qs, ql, qc, qr, hat, y1, y2, y3, y4, y5, hlu⟩ := kn_look hd id
  clear y1 y2 y3 y4 y5
  have hok' := hok
  obtain ⟨⟨hid1, hid2⟩, ⟨hv1, hv2⟩, _⟩ := hok'
  dsimp only at hid1 hid2 hv1 hv2
  have hml : vals.length = m := hi.1
  have hm64 : (m : Int) ≤ 9223372036854775807 := by have := hi.2.1; have := hi.2.2.1; omega
  have hlook := Lib.hid (fun (w' : World) (hb' : Below w.heap.size w w') => heldIf_run (ownsMap_only hm (Only.of_below (S := fun _ => False) hb') (fun h => h)) u64_key Try.underlying96 (z := .agg #[.int .u64 0, .bool false, .int .u64 0, .int .u64 0, .slice none 0 0]) (by kernel_rfl) rfl (keyOf_id hok.1) hat)
  have HS := Lib.hid h; have HF := Lib.hid hf; have HM := Lib.hid hm; have HD := Lib.hid hd; have HB := Lib.hid hb; have HI := Lib.hid hi; have HOK := Lib.hid hok
  have HR := Lib.hid (fun (w' : World) => right_b attrs id ver s m cp w' hid1 (by omega) hv1 (by omega) ha1 ha2 hm64)
  have zb := hb.lt
  have HBX := Lib.hid (Box.below hb.box (below_a1 w (.cells #[.int .u64 id, .int .u64 ver, .slice s m cp] 37)) zb)
  obtain ⟨vr, hvr⟩ : ∃ vr, lastK L id = vr := ⟨_, rfl⟩
  obtain ⟨iv, hiv⟩ : ∃ iv, isK L id = iv := ⟨_, rfl⟩
  rw [hvr, hiv] at hlook
  have HVR := Lib.hid hvr
  have hrk : rightF attrs id ver m = true := by rw [← hml]; exact hrt
  rw [hrk] at HR
  have HRK := Lib.hid hrt
  have hk0 := kn_field0
  have HL := Lib.hid hL
  clear hat hb hm hd hf hi hok h hvr hiv hrk hrt hlu hml hid1 hid2 hv1 hv2 ha1 ha2 hm64 hL
  go_enter Try.func21, Try.ntmps21
  go_upto_region 1 with fail
  refine wp_abs (fun wx => Box wx w.heap.size #[.int .u64 id, .int .u64 ver, .slice s m cp] ∧ Below w.heap.size w wx) ⟨(by repeat (first | apply Box.drew | apply Box.drewN | exact Box.newAt _ _ _ _ (by first | rfl | (simp only [size_alloc]; done) | (simp only [size_alloc]; omega)) | assumption | refine Box.alloc ?_ _)), (by repeat (first | exact Below.refl _ _ | assumption | apply Below.drew | apply belowN | (refine Below.alloc ?_ (by first | exact Nat.le_refl _ | (simp; done) | (simp; omega)) _) | (refine Below.setCell ?_ (by first | exact Nat.le_refl _ | (simp; done) | (simp; omega)) _)))⟩ ?_
  generalize hb3 : w.heap.size = b3
  rintro wx ⟨X3, hBx⟩
  have HB3 := Lib.hid hb3
  have HBX2 := Lib.hid (show Below w.heap.size w wx by rw [hb3]; exact hBx)
  have XB := HB.out.box.below HBX2.out zb
  have cb := XB.cell; have c3 := X3.cell; have z3 := X3.lt; have zbx := XB.lt
  have XB' := Lib.hid XB; have X3' := Lib.hid X3
  have hlook2 : ∀ w' : World, Below wx.heap.size wx w' → (Instr.lookup 96 (.map (some mb)) (.int .u64 id) false).run Try.prog w' = .ok (.agg #[.int .u64 vr, .bool iv, .int .u64 qi, .int .u64 qv, .slice qs ql qc]) w' :=
    fun w' hb' => hlook.out w' (below_from HBX2.out hb' HBX2.out.size)
  clear hb3 hBx XB X3 HBX
  have HS2 := Lib.hid HS.out
  by_cases hle : ver ≤ vr
  · have HP : Hid (mputF attrs L ⟨id, ver, vals⟩ = (L, false)) := by show mputF attrs L ⟨id, ver, vals⟩ = _; unfold mputF; rw [HRK.out, if_pos rfl, HVR.out, if_pos hle]
    have S0 := Same.refl wx
    first | (go_region_held3 (fun w' => Same wx w') (with_reducible (first | assumption | exact Same.drew _))
      ((go_at_call 46; (refine (HR.out _).mono ?_); rintro e w2 ⟨rfl, hb2⟩; have S1 := Same.step (show Same wx _ by (with_reducible (first | assumption | exact Same.drew _))) hb2; clear hb2))) | fail
    all_goals
      have HE := Lib.hid (model_same HS.out HF.out (below_from HBX2.out (show Same wx _ by (with_reducible (first | assumption | exact Same.drew _))).1 HBX2.out.size))
      go_wp2
      go_ret
      rw [HP.out]
      exact ⟨by first | rfl | trivial | simp, HE.out⟩
  · have HP : Hid (mputF attrs L ⟨id, ver, vals⟩ = (putK L ⟨id, ver, true, ⟨id, ver, vals⟩⟩, true)) := by show mputF attrs L ⟨id, ver, vals⟩ = _; unfold mputF; rw [HRK.out, if_pos rfl, HVR.out, if_neg hle]
    have S0 := Same.refl wx
    first | (go_region_held3 (fun w' => Same wx w') (with_reducible (first | assumption | exact Same.drew _))
      ((go_at_call 46; (refine (HR.out _).mono ?_); rintro e w2 ⟨rfl, hb2⟩; have S1 := Same.step (show Same wx _ by (with_reducible (first | assumption | exact Same.drew _))) hb2; clear hb2))) | fail
    all_goals
      have HBW := Lib.hid (below_from HBX2.out (show Same wx _ by (with_reducible (first | assumption | exact Same.drew _))).1 HBX2.out.size)
      have X30 := X3'.out.below (show Same wx _ by (with_reducible (first | assumption | exact Same.drew _))).1 z3
      have XB0 := XB'.out.below (show Same wx _ by (with_reducible (first | assumption | exact Same.drew _))).1 zbx
      have HX30 := Lib.hid X30; have HXB0 := Lib.hid XB0
      obtain ⟨upd, hupd⟩ := heldIf_upd HM.out u64_key Try.underlying96 (by show _ < 9223372036854775807; have := HL.out; omega) (keyOf_id HOK.out.1)
      have HUPD := Lib.hid hupd
      have n3 : b3 ≠ mb := by have := HM.out.lt; have := HB3.out; omega
      have nb : b ≠ mb := mnot_map HB.out HM.out
      clear hupd X30 XB0 hlook2 cb c3 z3 zbx
      go_upto_region 3 with fail
      refine wp_abs (fun wy => Box wy b3 #[.int .u64 id, .int .u64 ver, .slice s m cp] ∧ Box wy b #[.int .i64 attrs, .map (some mb)] ∧ Below w.heap.size w wy) ⟨HX30.out, HXB0.out, HBW.out⟩ ?_
      rintro wy ⟨Y3, YB, hBy⟩
      have cy3 := Y3.cell
      have cyb := YB.cell
      have zy3 := Y3.lt
      have zyb := YB.lt
      have HBY := Lib.hid hBy
      have HU1 : ∀ (w' : World) (s' : Option Addr) (l' c' : Nat), Below wy.heap.size wy w' → (Instr.mapUpdate 96 (.map (some mb)) (.int .u64 id) (.agg #[.int .u64 ver, .bool true, .int .u64 id, .int .u64 ver, .slice s' l' c'])).run Try.prog w' = .ok () (upd w' (.agg #[.int .u64 ver, .bool true, .int .u64 id, .int .u64 ver, .slice s' l' c'])) :=
        fun w' s' l' c' hb' => (HUPD.out w' _ (below_from HBY.out hb' HBY.out.size) rfl).1
      have HU2 := Lib.hid (fun (w' : World) (s' : Option Addr) (l' c' : Nat) (hs : Same wy w') => (HUPD.out w' (.agg #[.int .u64 ver, .bool true, .int .u64 id, .int .u64 ver, .slice s' l' c']) (below_from HBY.out hs.1 HBY.out.size) rfl).2)
      have HU3 := Lib.hid (fun (w' : World) (s' : Option Addr) (l' c' : Nat) (hs : Same wy w') => ButMap.of ((Only.of_below (S := (· = mb)) hs.1).trans (HU2.out w' s' l' c' hs).2))
      have HEI := Lib.hid (show Ints wy (fun b => b < w.heap.size) .u32 4 s m cp vals from HI.out.move fun b hb hlt => ⟨HBY.out.block b hlt, hlt⟩)
      have zwy : w.heap.size ≤ wy.heap.size := HBY.out.size
      clear hBy Y3 YB
      go_region_held3 (fun w' => ButMap mb wy w') (first | with_reducible exact ButMap.same (by first | assumption | exact Same.drew _) | with_reducible exact HU3.out _ _ _ _ (by assumption))
        ((go_at_call 39; (with_reducible refine (copy_any id ver _ (HEI.out.below (show Same wy _ by (with_reducible (first | assumption | exact Same.drew _))).1 (fun b h => Nat.lt_of_lt_of_le h zwy)) (fun b h => Nat.lt_of_lt_of_le (Nat.lt_of_lt_of_le h zwy) (show Same wy _ by (with_reducible (first | assumption | exact Same.drew _))).1.size)).mono ?_); rintro e2 w2 ⟨v2, rfl, ⟨A2, n2, cap2, rfl, hi2⟩, hb2⟩; have NE := Lib.hid (NewD.down (B' := wy.heap.size) ⟨A2, n2, cap2, rfl, hi2⟩ (show Same wy _ by (with_reducible (first | assumption | exact Same.drew _))).1.size); have S1 := Same.step (show Same wy _ by (with_reducible (first | assumption | exact Same.drew _))) hb2; clear hb2 hi2))
      all_goals
        go_wp2
        have F := fun (w3 : World) (A2 : Option Addr) (n2 cap2 : Nat) (S1 : Same wy w3) (NE : NewD wy.heap.size .u32 4 vals w3 (.slice A2 n2 cap2)) => model_to (x := ⟨id, ver, true, ⟨id, ver, vals⟩⟩) HB.out hcb hcm HM.out HD.out HF.out hπ ⟨HOK.out.1, HOK.out.2.1, HOK.out⟩ (below_from HBY.out S1.1 HBY.out.size) (NE.down zwy) (HU2.out w3 A2 n2 cap2 S1).1 (HU2.out w3 A2 n2 cap2 S1).2
        have HEND := Lib.hid (F _ _ _ _ (by with_reducible assumption) (Hid.out (by with_reducible assumption)))
        go_ret
        rw [HP.out]
        exact ⟨by first | rfl | trivial | simp, HEND.out⟩
end Go.Proofs.Ytgdlajbkppfejaa

namespace Go.Proofs.Ytgdlajbkppfejaa
open Go.RowKit Go.ChangeShapes Go.Maps
set_option maxRecDepth 100000
set_option linter.unusedVariables false
set_option linter.unusedSimpArgs false

/-- The elements still to come. -/
def RemM {α : Type} (key : α → Lit) (L : List α) (left : Lit → Bool) : List α := L.filter fun e => left (key e)
section
variable {α : Type} {key : α → Lit} {val : α → Value → Prop} {D : DataW Value} {L : List α}
theorem rem_startM (h : MapOf key val D L) : RemM key L (Maps.has D) = L := List.filter_eq_self.2 fun x hx => (h.has x hx).1
theorem rem_doneM {left : Lit → Bool} (h : ∀ kl, left kl = false) : RemM key L left = [] := List.filter_eq_nil_iff.2 fun x _ => by rw [h]; simp
theorem rem_stepM {left : Lit → Bool} {kl : Lit} (h : L.Pairwise (fun a b => key a ≠ key b)) (hk : WideAt.IsKeyLit kl) {e : α} (he : e ∈ L) (hke : key e = kl) (hl : left kl = true) : (RemM key L left).Perm (e :: RemM key L (fun z => left z && !z.sameKey kl)) := by
  induction L with
  | nil => simp at he
  | cons y r ih =>
    obtain ⟨h1, h2⟩ := List.pairwise_cons.1 h
    unfold RemM at *
    by_cases hy : key y = kl
    · have hye : e = y := by
        rcases List.mem_cons.1 he with he | he
        · exact he
        · exact absurd (hy.trans hke.symm) (h1 e he)
      subst hye
      have s1 : (key e).sameKey kl = true := (WideAt.sameKey_iff hk).2 hy
      have s2 : left (key e) = true := by rw [hy]; exact hl
      simp only [List.filter_cons, s2, s1, if_true, Bool.not_true, Bool.and_false, Bool.false_eq_true, if_false]
      refine List.Perm.cons _ (List.Perm.of_eq (List.filter_congr fun z hz => ?_))
      have s3 : (key z).sameKey kl = false := by
        rw [Bool.eq_false_iff]; intro hc
        exact h1 z hz (hy.trans ((WideAt.sameKey_iff hk).1 hc).symm)
      simp [s3]
    · have he' : e ∈ r := by
        rcases List.mem_cons.1 he with he | he
        · subst he; exact absurd hke hy
        · exact he
      have hi := ih h2 he'
      have s3 : (key y).sameKey kl = false := by
        rw [Bool.eq_false_iff]; intro hc
        exact hy ((WideAt.sameKey_iff hk).1 hc)
      cases hyl : left (key y) with
      | true =>
        simp only [List.filter_cons, hyl, s3, if_true, Bool.not_false, Bool.and_true]
        exact (hi.cons y).trans (List.Perm.swap _ _ _)
      | false =>
        simp only [List.filter_cons, hyl, s3, Bool.false_and, Bool.false_eq_true, if_false]
        exact hi
/-- The element that has come. -/
theorem rem_elemM {p : Value → Bool} (h : MapOf key val D L) {kl : Lit} {v : Value} {y : DataW Value × List MemPlace} (hv : heldIf p v = some y) (hat : ∀ zd, D.atKey kl zd = y.1) : ∃ e ∈ L, key e = kl ∧ val e v := by
  obtain ⟨_, rfl⟩ := heldIf_inv hv
  by_cases hx : ∃ e ∈ L, key e = kl
  · obtain ⟨e, he, hk⟩ := hx
    obtain ⟨_, v', h1, h2⟩ := h.has e he
    have h3 := h2 (.held v)
    rw [hk, hat] at h3
    injection h3 with h3
    subst h3
    exact ⟨e, he, hk, h1⟩
  · exfalso
    have h0 := h.none kl fun e he hk => hx ⟨e, he, hk⟩
    have h1 := hat (.held (.bool true))
    have h2 := hat (.held (.bool false))
    rw [atKey_of_not_has h0] at h1 h2
    rw [← h2] at h1
    injection h1 with h1
    injection h1 with h1
    cases h1
end

theorem below_grownM {w w1 w2 : World} {r : Nat} (h : Below w.heap.size w w1) (hg : w1.grownBy w2 (some r)) (hr : w.heap.size ≤ r) : Below w.heap.size w w2 := h.grown hg h.size (fun j hj => by cases hj; exact hr)

structure KeyU where
  x : Int
structure KnC where
  v : Int
  is : Bool
  i : Int
  u : Int
  s : Option Addr
  l : Nat
  c : Nat
def mkKeyU (a : KeyU) : Value := .int .u64 a.x
def mkKn (a : KnC) : Value := .agg #[.int .u64 a.v, .bool a.is, .int .u64 a.i, .int .u64 a.u, .slice a.s a.l a.c]
theorem keyu_shape (key : Value) (kl : Lit) (h : keyOf Try.prog 24 key = some kl) : ∃ a, key = mkKeyU a := by obtain ⟨x, rfl, _⟩ := keyOf_u64 Try.underlying24 h; exact ⟨⟨x⟩, rfl⟩
theorem isKn_inv {v : Value} (h : isKn v = true) : ∃ a, v = mkKn a := by
  unfold isKn at h
  split at h
  · exact ⟨⟨_, _, _, _, _, _, _⟩, rfl⟩
  · cases h
theorem kn_shape (v : Value) (y : DataW Value × List MemPlace) (h : heldIf isKn v = some y) : ∃ a, v = mkKn a := isKn_inv (heldIf_inv h).1
def isB (x : Kn) : Bool := x.is

set_option maxHeartbeats 1000000 in
theorem model_len {c : Col} {π : List Int} {w : World} {b : Nat} {L : List Kn} {attrs : Int} (h : ModelR c π w b attrs L) (hL : L.length < 1000000) :
    Calls Try.prog 29 #[.pointer (some ⟨b, 0, none⟩)] w fun e w' => e = .returned (.int .i64 (L.countP isB)) ∧ Below w.heap.size w w' := by
  obtain ⟨mb, D, hb, _, _, hm, hd⟩ := h
  have hc := hb.box.cell
  have HM := Lib.hid hm; have HD := Lib.hid hd
  have hcount : L.countP isB ≤ L.length := List.countP_le_length
  obtain ⟨tot, htot⟩ : ∃ t, L.countP isB = t := ⟨_, rfl⟩
  have HT := Lib.hid htot
  rw [htot] at hcount ⊢
  clear hd hm hb htot
  have htb : tot < 1000000 := by omega
  clear hcount hL
  go_enter Try.func29, Try.ntmps29
  go_wp2_with (first | (at_range; refine wpList_range_own _ rfl _ 96 rfl 24 101 u64_key Try.underlying96 (heldIf isKn) mb L.length D rfl HM.out ?_; intro w0 hrg0 hg0 hs0) | go_in)
  try go_frame
  have HR0 := Lib.hid hrg0; have HG0 := Lib.hid hg0
  clear hrg0 hg0 hs0
  go_loopw [3] (fun s wr => ∃ (left : Lit → Bool) (cnt k : Nat), s = .int .i64 k ∧ k + (RemM kK L left).countP isB = tot ∧ wr.ranges Try.prog 24 (heldIf isKn) mb w.heap.size L.length D left cnt ∧ Below w.heap.size w wr) (fun _ wr => wr.rangeLeft mb w.heap.size)
  case atStart => exact ⟨_, _, 0, rfl, by rw [rem_startM HD.out, HT.out]; exact Nat.zero_add _, HR0.out, (Below.refl _ _).grown HG0.out (Nat.le_refl _) (fun j hj => by cases hj)⟩
  case round =>
    obtain ⟨left, cnt, k, rfl, hk, hrg, hB⟩ := hrel
    have HB := Lib.hid hB; have HK := Lib.hid hk; have HR := Lib.hid hrg
    clear hB hk
    go_wp2_with (first
      | (at_next; refine wpList_next_ranges _ rfl _ rfl 24 u64_key (heldIf isKn) mkKeyU mkKn keyu_shape kn_shape mb w.heap.size L.length _ _ _ rfl hrg ?_ ?_)
      | go_in)
    · intro hc0 hl0
      go_wp2
      go_ret
      have hk := HK.out
      rw [rem_doneM hl0] at hk
      simp only [List.countP_nil, Nat.add_zero] at hk
      exact ⟨by subst hk; rfl, HB.out⟩
    · intro x cc kl yd yp w2 cnt2 hkey hlk hv hat hrg2 hlt hg2 hs2 hen
      obtain ⟨e, he, hke, hev⟩ := rem_elemM HD.out hv hat
      obtain ⟨s', l', c', hee, _⟩ := hev
      have hgone : cc.is = e.is := by
        have hee : mkKn cc = .agg #[.int .u64 e.ver, .bool e.is, .int .u64 e.rc.id, .int .u64 e.rc.ver, .slice s' l' c'] := hee
        unfold mkKn at hee
        simp only [Value.agg.injEq, Array.mk.injEq, List.cons.injEq, Value.bool.injEq] at hee
        exact hee.2.1
      have hp := (rem_stepM HD.out.apart (by rw [← hke]; trivial) he hke hlk).countP_eq isB
      have hk2 := HK.out
      rw [hp] at hk2
      have hlv : isB e = cc.is := by rw [hgone]; rfl
      rw [List.countP_cons, hlv] at hk2
      have HK2 := Lib.hid hk2; have HB2 := Lib.hid (below_grownM HB.out hg2 (Nat.le_refl _)); have HR2 := Lib.hid hrg2; have HLT := Lib.hid hlt
      have hkt : k ≤ tot := by omega
      clear hk2 hp hgone hee hg2 hs2 hrg2 hlv hat hv hkey hlk hrg hlt
      unfold mkKn mkKeyU at hen
      obtain ⟨x1, g, x2, x3, x4, x5, x6⟩ := cc
      cases g
      · go_wp2
        refine ⟨⟨_, _, k, by simp, ?_, HR2.out.alloc _, HB2.out.alloc HB2.out.size _⟩, ?_⟩
        · have hk2 := HK2.out
          dsimp only at hk2
          simp at hk2
          omega
        · rw [(HR2.out.alloc _).left_eq, HR.out.left_eq]; exact HLT.out
      · go_wp2
        refine ⟨⟨_, _, k + 1, by simp, ?_, HR2.out.alloc _, HB2.out.alloc HB2.out.size _⟩, ?_⟩
        · have hk2 := HK2.out
          dsimp only at hk2
          simp at hk2
          omega
        · rw [(HR2.out.alloc _).left_eq, HR.out.left_eq]; exact HLT.out
end Go.Proofs.Ytgdlajbkppfejaa

namespace Go.Proofs.Ytgdlajbkppfejaa
open Go.RowKit Go.ChangeShapes
set_option maxRecDepth 100000
set_option linter.unusedVariables false
set_option linter.unusedSimpArgs false

def kindF (k : Int) : Bool := decide (1 ≤ k) && decide (k ≤ 3)
def rightB (attrs : Int) (bl : List Rng) : Bool := decide (1 ≤ attrs) && decide (attrs ≤ 8) && decide ((bl.length : Int) = attrs) && bl.all fun r => kindF r.kind
theorem kind_any (k : Int) (w : World) : Calls Try.prog 73 #[.int .i64 k] w fun e w' => e = .returned (.bool (kindF k)) ∧ w = w' := by
  by_cases h1 : 1 ≤ k
  · have E : kindF k = decide (k ≤ 3) := by unfold kindF; simp [h1]
    go_enter Try.func73, Try.ntmps73
    go_wp2
    go_ret
    exact ⟨by first | rfl | (rw [E]; rfl) | rw [E], rfl⟩
  · have E : kindF k = false := by unfold kindF; simp [h1]
    go_enter Try.func73, Try.ntmps73
    go_wp2
    go_ret
    exact ⟨by first | rfl | (rw [E]; rfl) | rw [E], rfl⟩
theorem right1_any (k lo hi : Int) (w : World) : Calls Try.prog 72 #[.agg #[.int .i64 k, .int .u32 lo, .int .u32 hi]] w fun e w' => e = .returned (.bool (!kindF k)) ∧ Below w.heap.size w w' := by
  obtain ⟨b, hb⟩ : ∃ b, kindF k = b := ⟨_, rfl⟩
  have HK := Lib.hid (kind_any k)
  rw [hb] at HK ⊢
  clear hb
  go_enter Try.func72, Try.ntmps72
  go_wp2_with (go_at_call 73; go_loud ((with_reducible refine (HK.out _).mono ?_); rintro e w' ⟨rfl, rfl⟩))
  go_ret
  exact ⟨by first | rfl | simp, (by repeat (first | exact Below.refl _ _ | assumption | apply Below.drew | apply belowN | (refine Below.alloc ?_ (by first | exact Nat.le_refl _ | (simp; done) | (simp; omega)) _) | (refine Below.setCell ?_ (by first | exact Nat.le_refl _ | (simp; done) | (simp; omega)) _)))⟩
set_option maxHeartbeats 1000000 in
theorem index_rng {D : Nat → Prop} {A : Option Addr} {n c : Nat} {l : List Rng} (w : World) (h : RngsAt w D A n c l) (hD : ∀ b, D b → b < w.heap.size) :
    Calls Try.prog 94 #[.slice A n c, .func (.func 72) #[] #[]] w fun e w' => ∃ k : Int, e = .returned (.int .i64 k) ∧ Below w.heap.size w w' ∧ decide (0 ≤ k) = !(l.all fun r => kindF r.kind) := by
  obtain ⟨hn, hnc, hcm, _, _, _, hcell⟩ := h
  have HN := Lib.hid hn; have HC := Lib.hid hcell; have HD := Lib.hid hD
  clear hn hcell hD
  go_enter Try.func94, Try.ntmps94
  go_wp2
  go_loopw [8] (fun s8 wr => ∃ k : Nat, k ≤ n ∧ s8 = .int .i64 k ∧ Below w.heap.size w wr ∧ ∀ (j : Nat) r, j < k → l[j]? = some r → kindF r.kind = true) (fun s _ => n - (intOf s).toNat)
  case atStart => exact ⟨0, Nat.zero_le _, rfl, Below.refl _ _, fun j r hj => by omega⟩
  case round =>
    obtain ⟨k, hk, rfl, hB, hall⟩ := hrel
    have HB := Lib.hid hB; have HA := Lib.hid hall
    clear hB hall
    by_cases hlt : k < n
    · obtain ⟨r, hr⟩ : ∃ r, l[k]? = some r := ⟨_, List.getElem?_eq_getElem (by rw [HN.out]; exact hlt)⟩
      obtain ⟨bb, off, rfl, hbb, hc⟩ := HC.out (by omega)
      have hcs : ∀ t u, (encR r)[t]? = some u → wr.cell? ⟨bb, off + k * 3 + t, none⟩ = some u := fun t u hu => by
        rw [World.cell?_of_block (w := w) (a := ⟨bb, off + k * 3 + t, none⟩) (HB.out.block bb (HD.out bb hbb))]; exact hc k r hr t u hu
      have d0 := hcs 0 _ rfl; have d1 := hcs 1 _ rfl; have d2 := hcs 2 _ rfl
      simp only [Nat.add_zero] at d0
      have HR := Lib.hid hr
      clear hc hcs hbb hr
      obtain ⟨rk, rl, rh⟩ := r
      dsimp only at *
      obtain ⟨bo, hbo⟩ : ∃ bo, kindF rk = bo := ⟨_, rfl⟩
      have H1 := Lib.hid (right1_any rk rl rh)
      rw [hbo] at H1
      have HBO := Lib.hid hbo
      clear hbo
      cases bo
      · have HF : Hid (decide (0 ≤ (k : Int)) = !(l.all fun r => kindF r.kind)) := by
          have : (l.all fun r => kindF r.kind) = false := by
            rw [List.all_eq_false]
            exact ⟨_, List.mem_of_getElem? HR.out, by simp [HBO.out]⟩
          show decide (0 ≤ (k : Int)) = !(l.all fun r => kindF r.kind)
          rw [this]; simp
        go_wp2_with (go_at_call 72; go_loud ((with_reducible refine (H1.out _).mono ?_); rintro e w2 ⟨rfl, hb2⟩; have HB2 := Lib.hid (below_from HB.out hb2 HB.out.size); clear hb2))
        go_ret
        exact ⟨k, rfl, HB2.out, HF.out⟩
      · go_wp2_with (go_at_call 72; go_loud ((with_reducible refine (H1.out _).mono ?_); rintro e w2 ⟨rfl, hb2⟩; have HB2 := Lib.hid (below_from HB.out hb2 HB.out.size); clear hb2))
        go_roundw
        case rel => exact ⟨k + 1, by omega, by go_num, HB2.out, fun j y hj hy => by
          by_cases hjk : j < k
          · exact HA.out j y hjk hy
          · obtain rfl : j = k := by omega
            rw [HR.out] at hy; injection hy with hy; rw [← hy]; exact HBO.out⟩
        case measure => simp [intOf]; omega
    · have HF : Hid (decide (0 ≤ (-1 : Int)) = !(l.all fun r => kindF r.kind)) := by
        have : (l.all fun r => kindF r.kind) = true := by
          rw [List.all_eq_true]
          intro r hr
          obtain ⟨j, hj⟩ := List.mem_iff_getElem?.1 hr
          exact HA.out j r (by have := (List.getElem?_eq_some_iff.1 hj).1; rw [HN.out] at this; omega) hj
        show decide (0 ≤ (-1 : Int)) = !(l.all fun r => kindF r.kind)
        rw [this]; rfl
      go_wp2
      go_ret
      exact ⟨-1, rfl, HB.out, HF.out⟩
theorem contains_rng {D : Nat → Prop} {A : Option Addr} {n c : Nat} {l : List Rng} (w : World) (h : RngsAt w D A n c l) (hD : ∀ b, D b → b < w.heap.size) :
    Calls Try.prog 71 #[.slice A n c, .func (.func 72) #[] #[]] w fun e w' => e = .returned (.bool (!(l.all fun r => kindF r.kind))) ∧ Below w.heap.size w w' := by
  have HI := Lib.hid (index_rng w h hD)
  clear h hD
  go_enter Try.func71, Try.ntmps71
  go_wp2_with (go_at_call 94; go_loud (refine HI.out.mono ?_; rintro e w2 ⟨k, rfl, hb, hk⟩; have HK := Lib.hid hk; have HB := Lib.hid hb; clear hk hb))
  go_ret
  exact ⟨(by first | (rw [HK.out]; done) | (rw [HK.out]; rfl)), HB.out⟩
theorem boxright_any {D : Nat → Prop} {A : Option Addr} {n c : Nat} {l : List Rng} (attrs : Int) (w : World) (h : RngsAt w D A n c l) (hD : ∀ b, D b → b < w.heap.size) :
    Calls Try.prog 47 #[.int .i64 attrs, .slice A n c] w fun e w' => e = .returned (.bool (rightB attrs l)) ∧ Below w.heap.size w w' := by
  have HI := Lib.hid (contains_rng w h hD)
  have HN := Lib.hid h.1
  clear h hD
  by_cases h1 : 1 ≤ attrs
  · by_cases h2 : attrs ≤ 8
    · by_cases h3 : (n : Int) = attrs
      · have HE : Hid (rightB attrs l = (l.all fun r => kindF r.kind)) := by show rightB attrs l = _; unfold rightB; rw [HN.out]; simp [h1, h2, h3]
        have h3' : ((n : Int) == attrs) = true := by rw [beq_iff_eq]; exact h3
        obtain ⟨al, hal⟩ : ∃ al, (l.all fun r => kindF r.kind) = al := ⟨_, rfl⟩
        rw [hal] at HI HE
        clear hal h3
        go_enter Try.func47, Try.ntmps47
        go_wp2_with (go_at_call 71; go_loud ((with_reducible refine HI.out.mono ?_); rintro e w2 ⟨rfl, hb⟩; have HB := Lib.hid hb; clear hb))
        go_ret
        exact ⟨by rw [HE.out]; first | rfl | simp, HB.out⟩
      · have HE : Hid (rightB attrs l = false) := by show rightB attrs l = _; unfold rightB; rw [HN.out]; simp [h3]
        have h3' : ((n : Int) == attrs) = false := by rw [beq_eq_false_iff_ne]; exact h3
        clear h3
        go_enter Try.func47, Try.ntmps47
        go_wp2
        go_ret
        exact ⟨(by first | (rw [HE.out]; done) | (rw [HE.out]; rfl)), Below.refl _ _⟩
    · have HE : Hid (rightB attrs l = false) := by show rightB attrs l = _; unfold rightB; simp [h2]
      go_enter Try.func47, Try.ntmps47
      go_wp2
      go_ret
      exact ⟨(by first | (rw [HE.out]; done) | (rw [HE.out]; rfl)), Below.refl _ _⟩
  · have HE : Hid (rightB attrs l = false) := by show rightB attrs l = _; unfold rightB; simp [h1]
    go_enter Try.func47, Try.ntmps47
    go_wp2
    go_ret
    exact ⟨(by first | (rw [HE.out]; done) | (rw [HE.out]; rfl)), Below.refl _ _⟩
end Go.Proofs.Ytgdlajbkppfejaa

namespace Go.Proofs.Ytgdlajbkppfejaa
open Go.RowKit Go.ChangeShapes Go.Maps
set_option maxRecDepth 100000
set_option linter.unusedVariables false
set_option linter.unusedSimpArgs false

/-- What a box finds, by rising ids. -/
def hitK (bl : List Rng) (x : Kn) : Bool := x.is && matchF bl x.rc.vals
def FoundOf (bl : List Rng) (L : List Kn) (ks : List Int) (ls : List Kn) : Prop := ls.Pairwise (fun a b => a.key < b.key) ∧ ∀ x, x ∈ ls ↔ x ∈ L ∧ hitK bl x = true ∧ x.key ∈ ks
theorem FoundOf.nil (bl : List Rng) (L : List Kn) : FoundOf bl L [] [] := ⟨List.Pairwise.nil, fun x => by simp⟩
theorem FoundOf.step {bl : List Rng} {L : List Kn} {ss : List Int} {ls : List Kn} {k : Nat} {x : Kn} (h : FoundOf bl L (ss.take k) ls) (hs : ss.Pairwise (· < ·)) (hk : ss[k]? = some x.key) (hx : x ∈ L) (hone : ∀ y ∈ L, y.key = x.key → y = x) :
    FoundOf bl L (ss.take (k + 1)) (if hitK bl x = true then ls ++ [x] else ls) := by
  obtain ⟨h1, h2⟩ := h
  have e : ss.take (k + 1) = ss.take k ++ [x.key] := by rw [List.take_add_one, hk]; rfl
  rw [e]
  split
  · rename_i hit
    refine ⟨?_, fun y => ?_⟩
    · rw [List.pairwise_append]
      refine ⟨h1, by simp, fun a ha b hb => ?_⟩
      simp only [List.mem_singleton] at hb
      subst hb
      have ha2 := ((h2 a).1 ha).2.2
      obtain ⟨j, hj⟩ := List.mem_iff_getElem?.1 ha2
      have hjk : j < k := by have := (List.getElem?_eq_some_iff.1 hj).1; simp at this; omega
      rw [List.getElem?_take_of_lt hjk] at hj
      obtain ⟨j1, j2⟩ := List.getElem?_eq_some_iff.1 hj
      obtain ⟨k1, k2⟩ := List.getElem?_eq_some_iff.1 hk
      have := List.pairwise_iff_getElem.1 hs j k j1 k1 hjk
      rw [j2, k2] at this
      exact this
    · rw [List.mem_append, List.mem_singleton, h2 y, List.mem_append, List.mem_singleton]
      constructor
      · rintro (⟨a1, a2, a3⟩ | rfl)
        · exact ⟨a1, a2, .inl a3⟩
        · exact ⟨hx, hit, .inr rfl⟩
      · rintro ⟨a1, a2, a3 | a3⟩
        · exact .inl ⟨a1, a2, a3⟩
        · exact .inr (hone y a1 a3)
  · rename_i hit
    refine ⟨h1, fun y => ?_⟩
    rw [h2 y, List.mem_append, List.mem_singleton]
    constructor
    · rintro ⟨a1, a2, a3⟩; exact ⟨a1, a2, .inl a3⟩
    · rintro ⟨a1, a2, a3 | a3⟩
      · exact ⟨a1, a2, a3⟩
      · rw [hone y a1 a3] at a2; exact absurd a2 hit
theorem FoundOf.len {bl : List Rng} {L : List Kn} {ks : List Int} {ls : List Kn} (h : FoundOf bl L ks ls) : ls.length ≤ L.length := by
  have nodup_len : ∀ {l M : List Kn}, l.Nodup → (∀ r ∈ l, r ∈ M) → l.length ≤ M.length := by
    classical
    intro l
    induction l with
    | nil => intro M _ _; exact Nat.zero_le _
    | cons a t ih =>
      intro M hn hs
      obtain ⟨h1, h2⟩ := List.nodup_cons.1 hn
      have ha := hs a (by simp)
      have := ih (M := M.erase a) h2 fun r hr => (List.mem_erase_of_ne (fun e => h1 (by rw [← e]; exact hr))).2 (hs r (by simp [hr]))
      rw [List.length_erase_of_mem ha] at this
      have := List.length_pos_of_mem ha
      simp; omega
  exact nodup_len (h.1.imp fun {a b} h e => by subst e; omega) fun r hr => ((h.2 r).1 hr).1
theorem T3.belowY {r : Rec} {D : Nat → Prop} {B : Nat} {wy wc : World} {v : Value} {L : List Rec} {cp : Option RecC} {bx : Option Nat} (h : T3 r (colOf D B) wy wc v L cp bx) : Below wy.heap.size wy wc := by
  obtain ⟨c, st, _⟩ := h
  exact st.below (Nat.le_refl _) fun k _ => colOf_ne
set_option maxHeartbeats 8000000 in
theorem model_find {c : Col} {π : List Int} {w : World} {b : Nat} {attrs : Int} {L : List Kn} {BA : Option Addr} {bn bc : Nat} {bl : List Rng} (h : ModelR c π w b attrs L) (hf : Fresh c w) (hL : L.length ≤ 10000) (hbl : RngsAt w (Quiet c w) BA bn bc bl) (hr : rightB attrs bl = true) :
    Calls Try.prog 22 #[.pointer (some ⟨b, 0, none⟩), .slice BA bn bc] w fun e w' => ∃ (ks : List Int) (ls : List Kn) (A : Option Addr) (cap : Nat), e = .returned (.slice A ls.length cap) ∧ FoundOf bl L ks ls ∧ (∀ x ∈ L, x.key ∈ ks) ∧ recE.At w' (w.heap.size ≤ ·) A ls.length cap (ls.map Kn.rc) ∧ Below w.heap.size w w' := by
  obtain ⟨mb, D, hb, hcb, hcm, hm, hd⟩ := h
  have HR := Lib.hid (fun (w' : World) (hb : Below w.heap.size w w') => boxright_any attrs w' (hbl.move (D' := (· < w.heap.size)) fun b hb' hlt => ⟨hb.block b hlt, hlt⟩) (fun b hb' => Nat.lt_of_lt_of_le hb' hb.size))
  rw [hr] at HR
  have HB := Lib.hid hb; have HM := Lib.hid hm; have HD := Lib.hid hd; have HBL := Lib.hid hbl
  have HSZ := Lib.hid (show Maps.size D ≤ 4294967296 by rw [hd.size]; omega)
  have cb := hb.box.cell
  have zb := hb.lt
  have HL := Lib.hid hL
  clear hb hm hd hbl hr hf hL
  go_enter Try.func22, Try.ntmps22
  go_wp2_with (first
    | (go_at_call 47; go_loud (refine (HR.out _ (Below.refl _ _)).mono ?_; rintro e0 w0 ⟨rfl, hb0⟩; have HB0 := Lib.hid hb0; have cb0 := (HB.out.box.below hb0 zb).cell; have zb0 := (HB.out.box.below hb0 zb).lt; clear hb0 cb))
    | (go_at_call 48; go_loud (refine (keys_M (some mb) w0).mono ?_; rintro e1 w1 ⟨rfl, rfl⟩))
    | (go_at_call 44; go_loud (refine (sorted_M (Bm := w0.heap.size) (b := mb) (nn := L.length) (D0 := D) (R := heldIf isKn) (by simp) (by simp) (ownsMap_only HM.out (Only.of_below (S := fun _ => False) (below_from HB0.out (below_a1 w0 _) HB0.out.size)) (fun h => h)) HSZ.out).mono ?_; rintro e2 w2 ⟨v2, ss, rfl, hk, hrow, hnil, hb2, hsl⟩; obtain ⟨A2, cp2, rfl, _, hcm2, _⟩ := owns_shape hrow; have HK := Lib.hid hk; have HROW := Lib.hid hrow; have HB2 := Lib.hid (below_from HB0.out (below_thru hb2) HB0.out.size); have HSS := Lib.hid hsl; clear hk hrow hnil hb2 hsl)))
  have zw2 := HB2.out.size
  have T0 := Lib.hid (T3.start (r := ⟨0, 0, []⟩) (c0 := colOf (fun _ => False) w.heap.size) (wy := w2) (fun k hk => colOf_new (Nat.le_trans zw2 hk)))
  go_loopw [5, 27] (fun s5 s27 wr => ∃ (k : Nat) (ls : List Kn), k ≤ ss.length ∧ s27 = .int .i64 k ∧ FoundOf bl L (ss.take k) ls ∧ T3 ⟨0, 0, []⟩ (colOf (fun _ => False) w.heap.size) w2 wr s5 (ls.map Kn.rc) none none) (fun _ i _ => ss.length - (intOf i).toNat)
  case atStart => exact ⟨0, [], Nat.zero_le _, rfl, by simpa using FoundOf.nil bl L, T0.out⟩
  case round =>
    obtain ⟨k, ls, hk, rfl, hf, ht⟩ := hrel
    have hbl := ht.belowY
    have HF := Lib.hid hf; have HBL2 := Lib.hid hbl
    have hWR := below_from HB2.out hbl zw2
    have HWR := Lib.hid hWR
    have XB := HB.out.box.below hWR zb
    have cgr := XB.cell
    have zgr := XB.lt
    have hll := hf.len
    obtain ⟨OA, ocap, rfl⟩ := ht.shape
    have hmlen : (ls.map Kn.rc).length = ls.length := List.length_map ..
    rw [hmlen] at ht ⊢
    have HT := Lib.hid ht
    have HML := Lib.hid hmlen
    clear hf ht hbl XB hWR cb0 zb0 hmlen
    by_cases hlt : k < ss.length
    · obtain ⟨x, hx⟩ : ∃ x, ss[k]? = some x := ⟨_, List.getElem?_eq_getElem hlt⟩
      obtain ⟨gk, ck, e0, hcell, _⟩ := owns_cell HROW.out (i := k) (x := .int .u64 x) (by rw [List.getElem?_map, hx]; rfl)
      injection e0 with e1 e2 e3
      subst e1 e3
      have hgk := rown_lt HROW.out (g := gk) rfl
      have hcr := (World.cell?_of_block (w := w2) (a := ⟨gk, k, none⟩) (HBL2.out.block gk hgk.2)).trans hcell
      obtain ⟨o, hoL, hok⟩ := HD.out.get ((HK.out.2 x).1 (List.mem_of_getElem? hx))
      unfold kK at hok
      injection hok with _ hok
      subst hok
      have hone : ∀ y ∈ L, y.key = o.key → y = o := fun y hy he => HD.out.inj hy hoL (by unfold kK; rw [he])
      have HSTEP := Lib.hid (HF.out.step HK.out.1 hx hoL hone)
      obtain ⟨_, v, hv, hat⟩ := HD.out.has o hoL
      obtain ⟨s, m, cp, rfl, hoo, hi⟩ := hv
      have hlook := Lib.hid (fun (w' : World) (hb' : Below w.heap.size w w') => heldIf_run (ownsMap_only HM.out (Only.of_below (S := fun _ => False) hb') (fun h => h)) u64_key Try.underlying96 (z := .agg #[.int .u64 0, .bool false, .int .u64 0, .int .u64 0, .slice none 0 0]) (by kernel_rfl) rfl (keyOf_id hoo.1) (hat _))
      have hlook2 := hlook.out wr HWR.out
      have HI := Lib.hid hi; have HOO := Lib.hid hoo
      clear hcell hgk hat hi hoo hoL hone hx
      obtain ⟨okey, over, ois, oid, ov, ovals⟩ := o
      dsimp only at *
      have HMT := Lib.hid (fun (w' : World) (hb : Below w.heap.size w w') => match_any w' (HBL.out.move (D' := (· < w.heap.size)) fun b hb' hlt => ⟨hb.block b hlt, hlt⟩) (HI.out.move (D' := (· < w.heap.size)) fun b hb' hlt => ⟨hb.block b hlt, hlt⟩) (fun b hb' => Nat.lt_of_lt_of_le hb' hb.size) (fun b hb' => Nat.lt_of_lt_of_le hb' hb.size))
      have HCP := Lib.hid (fun (w' : World) (hb : Below w.heap.size w w') => copy_any oid ov w' (HI.out.move (D' := (· < w.heap.size)) fun b hb' hlt => ⟨hb.block b hlt, hlt⟩) (fun b hb' => Nat.lt_of_lt_of_le hb' hb.size))
      cases ois with
      | false =>
        rw [if_neg (by simp [hitK])] at HSTEP
        go_wp2
        refine ⟨⟨k + 1, ls, by omega, by simp, HSTEP.out, HT.out.later (below_a1 wr _)⟩, ?_⟩
        simp [intOf]; omega
      | true =>
        obtain ⟨bo, hbo⟩ : ∃ bo, matchF bl ovals = bo := ⟨_, rfl⟩
        rw [hbo] at HMT
        have HIT : Hid (hitK bl ⟨okey, over, true, ⟨oid, ov, ovals⟩⟩ = bo) := by show hitK bl _ = bo; unfold hitK; rw [← hbo]; rfl
        rw [HIT.out] at HSTEP
        clear hbo
        have HA1 := Lib.hid (below_from HWR.out (below_a1 wr (.cells #[.int .u64 over, .bool true, .int .u64 oid, .int .u64 ov, .slice s m cp] 101)) HWR.out.size)
        have HX8 := Lib.hid (Box.new wr #[.int .u64 over, .bool true, .int .u64 oid, .int .u64 ov, .slice s m cp] 101)
        cases bo with
        | false =>
          rw [if_neg (by simp)] at HSTEP
          go_wp2_with (go_at_call 38; go_loud (refine (HMT.out _ HA1.out).mono ?_; rintro e3 w3 ⟨rfl, hb3⟩; have HB3 := Lib.hid (below_from (below_a1 wr (.cells #[.int .u64 over, .bool true, .int .u64 oid, .int .u64 ov, .slice s m cp] 101)) hb3 (below_a1 wr _).size); clear hb3))
          refine ⟨⟨k + 1, ls, by omega, by simp, HSTEP.out, HT.out.later HB3.out⟩, ?_⟩
          simp [intOf]; omega
        | true =>
          rw [if_pos rfl] at HSTEP
          have HLL := Lib.hid (show (ls.map Kn.rc).length + 1 = ls.length + 1 by simp)
          have hll2 : ls.length + 1 ≤ 1000000 := by have := HL.out; omega
          go_wp2_with (first
            | (go_at_call 38; go_loud (refine (HMT.out _ HA1.out).mono ?_; rintro e3 w3 ⟨rfl, hb3⟩; have c8 := (HX8.out.below hb3 HX8.out.lt).cell; have z8 := (HX8.out.below hb3 HX8.out.lt).lt; have HB3 := Lib.hid (below_from (below_a1 wr (.cells #[.int .u64 over, .bool true, .int .u64 oid, .int .u64 ov, .slice s m cp] 101)) hb3 (below_a1 wr _).size); clear hb3))
            | (go_at_call 39; go_loud (refine (HCP.out _ (below_from HWR.out HB3.out HWR.out.size)).mono ?_; rintro e4 w4 ⟨v4, rfl, ⟨s4, n4, k4, rfl, hi4⟩, hb4⟩; have HT4 := Lib.hid (T3.copied (r := ⟨oid, ov, ovals⟩) (T3.any (HT.out.later HB3.out)) hb4 hi4 HOO.out.2.2); have HB4 := Lib.hid (below_from HB3.out hb4 HB3.out.size); clear hb4 hi4))
            | (at_builtin; go_loud (refine T3.wpList_push (m := ⟨oid, ov, s4, n4, k4⟩) (wc := w4) (q := ls.length + 1) rfl _ _ rfl rfl rfl HT4.out HLL.out hll2 ?_; intro B5 cap5 w5 t5; have HT5 := Lib.hid t5; clear t5)))
          refine ⟨⟨k + 1, ls ++ [⟨okey, over, true, ⟨oid, ov, ovals⟩⟩], by omega, by simp, HSTEP.out, by rw [List.map_append]; exact T3.any HT5.out⟩, ?_⟩
          simp [intOf]; omega
    · obtain rfl : k = ss.length := by omega
      have hT : ss.take ss.length = ss := List.take_length
      rw [hT] at HF
      obtain ⟨cc, st, hrow, _⟩ := HT.out
      obtain ⟨ha, hbb⟩ := put_end ((Stp.of_below _ (fun b hb => colOf_new hb) HB2.out).trans st) hrow
      have HAT := Lib.hid ha; have HBB := Lib.hid hbb
      clear ha hbb st hrow hT
      go_wp2
      go_ret
      exact ⟨ss, ls, OA, ocap, by first | rfl | simp | (simp; rfl), HF.out, fun x hx => (HK.out.2 x.key).2 (HD.out.has x hx).1, HAT.out.imp fun b hb => hb.1.elim (fun h => h.elim) (fun h => h), HBB.out⟩
end Go.Proofs.Ytgdlajbkppfejaa

namespace Go.Proofs.Ytgdlajbkppfejaa
open Go.RowKit Go.ChangeShapes Go.Maps
set_option maxRecDepth 100000
set_option linter.unusedVariables false
set_option linter.unusedSimpArgs false

section
variable {W w : World} {ts ts' : List Thing} {π : List Int} {b : Nat} {attrs : Int} {L : List Kn}
theorem mo_new (π : List Int) (attrs : Int) (h : Sta W ts w) (hπ : π ≠ []) (ho : ∀ x ∈ ts, x.π ≠ π) :
    Calls Try.prog 19 #[.int .i64 attrs] w fun e w' => ∃ b, e = .returned (.pointer (some ⟨b, 0, none⟩)) ∧ Sta W (ts ++ [tModel π b attrs []]) w' ∧ Boxes w w' := by
  obtain ⟨c, h⟩ := h
  refine (model_new (c := c) π attrs w h.fresh).mono ?_
  rintro e w' ⟨b, rfl, c', st, sh, hb⟩
  exact ⟨b, rfl, ⟨c', h.add (t := tModel π b attrs []) hπ ho st sh⟩, hb⟩
theorem mo_put {r : Rec} {s : Option Addr} {m cp : Nat} {bo : Bool} (i : Nat) (h : Sta W ts w) (hi : ts[i]? = some (tModel π b attrs L)) (hπ : π ≠ []) (hL : L.length ≤ 10000) (ha1 : -9223372036854775808 ≤ attrs) (ha2 : attrs < 9223372036854775808) (hok : r.ok) (hv : ∀ c, S0 W ts c w → Ints w (Quiet c w) .u32 4 s m cp r.vals) (hrt : rightF attrs r.id r.ver r.vals.length = true)
    {L' : List Kn} (hk : mputF attrs L r = (L', bo)) (hts : ts.set i (tModel π b attrs L') = ts') :
    Calls Try.prog 21 #[.pointer (some ⟨b, 0, none⟩), .agg #[.int .u64 r.id, .int .u64 r.ver, .slice s m cp]] w fun e w' => e = .returned (.bool bo) ∧ Sta W ts' w' ∧ Boxes w w' := by
  obtain ⟨c, h⟩ := h
  refine (model_put (c := c) (id := r.id) (ver := r.ver) (vals := r.vals) (h.get hi) h.fresh hπ hL ha1 ha2 hok (hv c h) hrt).mono ?_
  rintro e w' ⟨rfl, c', st, sh, hb⟩
  rw [show (⟨r.id, r.ver, r.vals⟩ : Rec) = r from rfl, hk] at *
  exact ⟨rfl, Sta.turn h hi hπ (t' := tModel π b attrs L') rfl st sh hts, hb⟩
theorem mo_del {id ver : Int} {bo : Bool} (i : Nat) (h : Sta W ts w) (hi : ts[i]? = some (tModel π b attrs L)) (hπ : π ≠ []) (hL : L.length ≤ 10000) (hid : U64 id) (hver : U64 ver) {L' : List Kn} (hk : mdelF L id ver = (L', bo)) (hts : ts.set i (tModel π b attrs L') = ts') :
    Calls Try.prog 26 #[.pointer (some ⟨b, 0, none⟩), .int .u64 id, .int .u64 ver] w fun e w' => e = .returned (.bool bo) ∧ Sta W ts' w' ∧ Boxes w w' := by
  obtain ⟨c, h⟩ := h
  refine (model_del (c := c) (h.get hi) h.fresh hπ hL hid hver).mono ?_
  rintro e w' ⟨rfl, c', st, sh, hb⟩
  rw [hk] at *
  exact ⟨rfl, Sta.turn h hi hπ (t' := tModel π b attrs L') rfl st sh hts, hb⟩
theorem mo_len {n : Nat} (i : Nat) (h : Sta W ts w) (hi : ts[i]? = some (tModel π b attrs L)) (hL : L.length ≤ 10000) (hn : L.countP isB = n) :
    Calls Try.prog 29 #[.pointer (some ⟨b, 0, none⟩)] w fun e w' => e = .returned (.int .i64 n) ∧ Sta W ts w' ∧ Below w.heap.size w w' := by
  obtain ⟨c, h⟩ := h
  refine (model_len (c := c) (h.get hi) (by omega)).mono ?_
  rintro e w' ⟨rfl, hb⟩
  rw [hn]
  exact ⟨rfl, Sta.later ⟨c, h⟩ hb, hb⟩
theorem mo_get {id : Int} {r : Rec} {bo : Bool} (i : Nat) (h : Sta W ts w) (hi : ts[i]? = some (tModel π b attrs L)) (hid : U64 id) (hr : recK L id = r) (hb : isK L id = bo) :
    Calls Try.prog 23 #[.pointer (some ⟨b, 0, none⟩), .int .u64 id] w fun e w' => ∃ s n k, e = .returned (.tuple #[.agg #[.int .u64 r.id, .int .u64 r.ver, .slice s n k], .bool bo]) ∧ Ints w' (w.heap.size ≤ ·) .u32 4 s n k r.vals ∧ r.ok ∧ Sta W ts w' ∧ Below w.heap.size w w' := by
  obtain ⟨c, h⟩ := h
  refine (model_get (c := c) (h.get hi) hid).mono ?_
  rintro e w' ⟨s, n, k, rfl, h1, h2, h3⟩
  rw [hr] at h1 h2 ⊢
  rw [hb]
  exact ⟨s, n, k, rfl, h1, h2, Sta.later ⟨c, h⟩ h3, h3⟩
theorem mo_find {BA : Option Addr} {bn bc : Nat} {bl : List Rng} (i : Nat) (h : Sta W ts w) (hi : ts[i]? = some (tModel π b attrs L)) (hL : L.length ≤ 10000) (hbl : ∀ c, S0 W ts c w → RngsAt w (Quiet c w) BA bn bc bl) (hr : rightB attrs bl = true) :
    Calls Try.prog 22 #[.pointer (some ⟨b, 0, none⟩), .slice BA bn bc] w fun e w' => ∃ (ks : List Int) (ls : List Kn) (A : Option Addr) (cap : Nat), e = .returned (.slice A ls.length cap) ∧ FoundOf bl L ks ls ∧ (∀ x ∈ L, x.key ∈ ks) ∧ Sta W (ts ++ [tAt recE A ls.length cap (ls.map Kn.rc)]) w' ∧ Below w.heap.size w w' := by
  obtain ⟨c, h⟩ := h
  refine (model_find (c := c) (h.get hi) h.fresh hL (hbl c h) hr).mono ?_
  rintro e w' ⟨ks, ls, A, cap, rfl, h1, h2, h3, h4⟩
  exact ⟨ks, ls, A, cap, rfl, h1, h2, Sta.addNew ⟨c, h⟩ h4 h3 (Nat.le_refl _), h4⟩
end
end Go.Proofs.Ytgdlajbkppfejaa
