/- The document's gathering: Add, Page. Conditions: it is one. | The document's gathering: Page. Conditions: it is one. | A slice of slices of records, opened. Conditions: none. | The document's gathering in the word of states. Conditions: none. -/
import Derived.Test.YtpkeddiaoacfeaaRPut18
import Derived.Deep.RegionWith
import Derived.Test.YtpkeddiaoacfeaaOpen18
import Derived.Test.YtpkeddiaoacfeaaGatherFork
namespace Go.Proofs.Ytpkeddiaoacfeaa
open Go.RowKit Go.ChangeShapes
set_option maxRecDepth 100000
set_option linter.unusedVariables false
set_option linter.unusedSimpArgs false

/-- The document's gathering: a block that holds its box and its records. -/
def RefG (c : Col) (π : List Int) (w : World) (b : Nat) (A : Option Addr) (n cp : Nat) (bl : List Rng) (L : List Rec) : Prop :=
  ∃ (A' : Option Addr) (n' cp' : Nat), Box w b #[.slice A n cp, .slice A' n' cp'] ∧ c b = π ∧ RngsAt w (Quiet c w) A n cp bl ∧ recE.At w (Quiet c w) A' n' cp' L
theorem RefG.keep {π : List Int} {c c' : Col} {w w' : World} {b : Nat} {A : Option Addr} {n cp : Nat} {bl : List Rng} {L : List Rec} (h : RefG c π w b A n cp bl L) (hk : Keeps π c w c' w') : RefG c' π w' b A n cp bl L := by
  obtain ⟨A', n', cp', h1, h2, h3, h4⟩ := h
  exact ⟨A', n', cp', h1.only hk.only (fun hn => hn.2 h2), (hk.col b h1.lt (.inr h2)).trans h2, h3.move hk.quiet, h4.move hk.quiet⟩
def tRefG (π : List Int) (b : Nat) (A : Option Addr) (n cp : Nat) (bl : List Rng) (L : List Rec) : Thing := ⟨π, fun c w => RefG c π w b A n cp bl L, fun h hk => h.keep hk⟩
theorem addsR_len (bl : List Rng) (R l : List Rec) : (addsR bl R l).1.length ≤ R.length + l.length := by
  have key : ∀ n, n ≤ l.length → (addsR bl R (l.take n)).1.length ≤ R.length + n := by
    intro n
    induction n with
    | zero => intro _; simp [addsR]
    | succ n ih =>
      intro hn
      have hx : l[n]? = some l[n] := List.getElem?_eq_getElem (by omega)
      rw [List.take_add_one, hx, Option.toList_some, addsR_snoc]
      have := ih (by omega)
      have h2 : (addR bl (addsR bl R (l.take n)).1 l[n]).1.length ≤ (addsR bl R (l.take n)).1.length + 1 := by
        unfold addR
        split
        · exact putR_len _ _
        · simp
      simp only
      omega
  have := key l.length (Nat.le_refl _)
  rwa [List.take_length] at this
theorem addsR_cnt (bl : List Rng) (R l : List Rec) : 0 ≤ (addsR bl R l).2 ∧ (addsR bl R l).2 ≤ l.length := by
  have key : ∀ n, n ≤ l.length → 0 ≤ (addsR bl R (l.take n)).2 ∧ (addsR bl R (l.take n)).2 ≤ n := by
    intro n
    induction n with
    | zero => intro _; simp [addsR]
    | succ n ih =>
      intro hn
      have hx : l[n]? = some l[n] := List.getElem?_eq_getElem (by omega)
      rw [List.take_add_one, hx, Option.toList_some, addsR_snoc]
      obtain ⟨h1, h2⟩ := ih (by omega)
      have h3 : 0 ≤ (addR bl (addsR bl R (l.take n)).1 l[n]).2 ∧ (addR bl (addsR bl R (l.take n)).1 l[n]).2 ≤ 1 := by
        unfold addR
        split
        · split <;> simp
        · simp
      simp only
      omega
  have := key l.length (Nat.le_refl _)
  rwa [List.take_length] at this
theorem refg_put_end {π : List Int} {c : Col} {wr w2 : World} {b : Nat} {BA MA A9 : Option Addr} {bn bc mn mc n9 cap9 : Nat} {bl : List Rng} {L9 : List Rec} (hbx : Box wr b #[.slice BA bn bc, .slice MA mn mc]) (hb : Below wr.heap.size wr w2) (hrg : RngsAt wr (Quiet c wr) BA bn bc bl)
    (ha : recE.At w2 (fun x => (Quiet c wr x ∨ wr.heap.size ≤ x) ∧ x < w2.heap.size) A9 n9 cap9 L9) (hf : Fresh c wr) (hcb : c b = π) (hπ : π ≠ []) :
    Stp (· = π) c wr c (w2.setCell ⟨b, 1, none⟩ (.slice A9 n9 cap9)) ∧ RefG c π (w2.setCell ⟨b, 1, none⟩ (.slice A9 n9 cap9)) b BA bn bc bl L9 := by
  have hq : ∀ x, c x = [] → x ≠ b := fun x hx e => hπ (by rw [← hcb, ← e]; exact hx)
  have st : Stp (· = π) c wr c (w2.setCell ⟨b, 1, none⟩ (.slice A9 n9 cap9)) := (Stp.of_below _ hf hb).trans ⟨(Only.refl _ _).setCell (p := ⟨b, 1, none⟩) (.inl hcb) _, fun _ _ => rfl, fun k hk => hf k (by rw [size_setCell] at hk; exact Nat.le_trans hb.size hk)⟩
  refine ⟨st, A9, n9, cap9, ?_, hcb, hrg.move fun x hx hlt => ⟨st.only.block x hlt (by show ¬ c x = π; rw [hx.1]; exact fun e => hπ e.symm), hx.1, Nat.lt_of_lt_of_le hlt st.only.size⟩, ha.move fun x hx hlt => ?_⟩
  · have := (hbx.below hb hbx.lt).set (i := 1) (.slice A9 n9 cap9)
    simpa using this
  · have hx0 : c x = [] := by rcases hx.1 with h | h; exact h.1; exact hf x h
    exact ⟨Below.heap_setCell w2 ⟨b, 1, none⟩ _ x (hq x hx0), hx0, by rw [size_setCell]; exact hx.2⟩
set_option maxHeartbeats 8000000 in
theorem refg_add {c : Col} {π : List Int} {w : World} {b : Nat} {BA : Option Addr} {bn bc : Nat} {bl : List Rng} {L : List Rec} {A : Option Addr} {n cap : Nat} {l : List Rec} (h : RefG c π w b BA bn bc bl L) (hf : Fresh c w) (hπ : π ≠ []) (hL : L.length ≤ 5000) (hn : n ≤ 4000) (hl : recE.At w (Quiet c w) A n cap l) :
    Calls Try.prog 21 #[.pointer (some ⟨b, 0, none⟩), .slice A n cap] w fun e w' => e = .returned (.int .i64 (addsR bl L l).2) ∧ ∃ c', Stp (· = π) c w c' w' ∧ RefG c' π w' b BA bn bc bl (addsR bl L l).1 := by
  have HL := Lib.hid hl; have HN := Lib.hid hl.1; have HS := Lib.hid h; have HF := Lib.hid hf
  clear hl h hf
  go_enter Try.func21, Try.ntmps21
  go_wp2
  go_loopw [5, 6] (fun s5 s6 wr => ∃ (k : Nat) (c' : Col), k ≤ n ∧ s6 = .int .i64 k ∧ s5 = .int .i64 (addsR bl L (l.take k)).2 ∧ Stp (· = π) c w c' wr ∧ RefG c' π wr b BA bn bc bl (addsR bl L (l.take k)).1) (fun _ i _ => n - (intOf i).toNat)
  case atStart => exact ⟨0, c, Nat.zero_le _, rfl, rfl, Stp.refl _ HF.out, HS.out⟩
  case round =>
    obtain ⟨k, c', hk, rfl, rfl, hst, hg⟩ := hrel
    have HST := Lib.hid hst; have HG := Lib.hid hg
    have hj1 := addsR_len bl L (l.take k)
    have hj2 := addsR_cnt bl L (l.take k)
    have hj3 : (l.take k).length ≤ k := by simp; omega
    clear hst hg
    by_cases hlt : k < n
    · obtain ⟨r, hr⟩ : ∃ r, l[k]? = some r := ⟨_, List.getElem?_eq_getElem (by rw [HN.out]; exact hlt)⟩
      have HT := Lib.hid (show addsR bl L (l.take (k + 1)) = ((addR bl (addsR bl L (l.take k)).1 r).1, (addsR bl L (l.take k)).2 + (addR bl (addsR bl L (l.take k)).1 r).2) from by rw [List.take_add_one, hr]; exact addsR_snoc bl L (l.take k) r)
      obtain ⟨M, hM⟩ : ∃ M, (addsR bl L (l.take k)).1 = M := ⟨_, rfl⟩
      obtain ⟨cnt, hcnt⟩ : ∃ cnt, (addsR bl L (l.take k)).2 = cnt := ⟨_, rfl⟩
      rw [hM] at HG HT hj1
      rw [hcnt] at HT hj2 ⊢
      clear hM hcnt
      obtain ⟨MA, mn, mc, hbx, hcb, hrg, hrc⟩ := HG.out
      have hqt : ∀ b, Quiet c w b → b < w.heap.size → wr.heap[b]? = w.heap[b]? ∧ Quiet c' wr b := fun b hb hlt => ⟨HST.out.only.block b hlt (by show ¬ c b = π; rw [hb.1]; exact fun e => hπ e.symm), (HST.out.col b hlt).trans hb.1, Nat.lt_of_lt_of_le hlt HST.out.only.size⟩
      obtain ⟨bb, off, rfl, hb, hc⟩ := (recsAt (HL.out.move hqt)).2.2.2.2 (by omega)
      obtain ⟨hok, s, m, cp, d0, d1, d2, hint⟩ := hc k r hr
      have zbb := hb.2
      have hmn : M.length = mn := hrc.1
      have HBX := Lib.hid hbx; have HRG := Lib.hid hrg; have HRC := Lib.hid hrc; have HI := Lib.hid hint; have HOK := Lib.hid hok; have HQ := Lib.hid hqt; have HCB := Lib.hid hcb
      have cb := hbx.cell; have zb := hbx.lt; have fb := hbx.free
      clear hc hb hr hbx hrg hrc hint hok hqt hcb
      obtain ⟨id, ver, vals⟩ := r
      dsimp only at *
      obtain ⟨bo, hbo⟩ : ∃ bo, matchF bl vals = bo := ⟨_, rfl⟩
      have hmt : ∀ w' : World, Same wr w' → Calls Try.prog 30 #[.slice BA bn bc, .slice s m cp] w' fun e w2 => e = .returned (.bool bo) ∧ Below w'.heap.size w' w2 := fun w' hs => by
        rw [← hbo]
        exact r05match_any w' (HRG.out.move (D' := (· < wr.heap.size)) fun b hb hlt => ⟨hs.1.block b hlt, hlt⟩) (HI.out.move (D' := (· < wr.heap.size)) fun b hb hlt => ⟨hs.1.block b hlt, hlt⟩) HOK.out.2.2 (fun b hb => Nat.lt_of_lt_of_le hb hs.1.size) (fun b hb => Nat.lt_of_lt_of_le hb hs.1.size)
      have HMT := Lib.hid hmt; have HBO := Lib.hid hbo
      clear hmt hbo
      go_upto_region 5 with fail
      go_region_held3 (fun w' => Same wr w') (with_reducible (first | assumption | exact Same.drew _))
        ((go_at_call 30; (refine (HMT.out _ (show Same wr _ by (with_reducible (first | assumption | exact Same.drew _)))).mono ?_); rintro e2 w2 ⟨rfl, hb2⟩; have S1 := Same.step (show Same wr _ by (with_reducible (first | assumption | exact Same.drew _))) hb2; clear hb2))
      all_goals
        cases bo
        · have HA : Hid (addR bl M ⟨id, ver, vals⟩ = (M, 0)) := by show addR bl M ⟨id, ver, vals⟩ = (M, 0); unfold addR; dsimp only; rw [HBO.out]; rfl
          go_wp2
          go_roundw
          case rel =>
            have hB := (show Same wr _ by (with_reducible (first | assumption | exact Same.drew _))).1
            exact ⟨k + 1, c', by omega, by go_num, by rw [HT.out, HA.out]; simp, HST.out.trans (Stp.of_below _ HST.out.fresh hB), by rw [HT.out, HA.out]; exact HG.out.keep (Keeps.of_stp (C := fun _ => False) (Stp.of_below _ HST.out.fresh hB) (fun h => h) (fun h => h))⟩
          case measure => simp [intOf]; omega
        · have hB0 := Lib.hid ((show Same wr _ by (with_reducible (first | assumption | exact Same.drew _))).1)
          have HA : Hid (addR bl M ⟨id, ver, vals⟩ = ((putR M ⟨id, ver, vals⟩).1, if (putR M ⟨id, ver, vals⟩).2 = true then 1 else 0)) := by show addR bl M ⟨id, ver, vals⟩ = _; unfold addR; dsimp only; rw [HBO.out]; rfl
          have HC2 := Lib.hid (fun (w' : World) (h : Below wr.heap.size wr w') => And.intro ((h.cell (p := ⟨bb, off + k * 3, none⟩) zbb).trans d0) (And.intro ((h.cell (p := ⟨bb, off + k * 3 + 1, none⟩) zbb).trans d1) ((h.cell (p := ⟨bb, off + k * 3 + 2, none⟩) zbb).trans d2)))
          go_upto_region 6 with fail
          refine wp_abs (fun wx => Below wr.heap.size wr wx) hB0.out ?_
          clear hB0
          rintro wx hBx
          have HBW := Lib.hid hBx
          have XB := HBX.out.below hBx zb
          obtain ⟨e0, e1, e2⟩ := HC2.out wx hBx
          have cbx := XB.cell; have fbx := XB.free; have zbx := XB.lt
          have zx := Nat.lt_of_lt_of_le zbb hBx.size
          clear d0 d1 d2 cb fb zb XB hBx zbb
          have HPUT := Lib.hid (fun (w' : World) (hs : Same wx w') => r18put (D := Quiet c' wr) (id := id) (ver := ver) (vals := vals) (s := s) (m := m) (cp := cp) w' (HRC.out.move fun x hx hlt => ⟨(below_from HBW.out hs.1 HBW.out.size).block x hlt, hx⟩) (HI.out.move fun x hx hlt => ⟨(below_from HBW.out hs.1 HBW.out.size).block x hlt, hx⟩) HOK.out (fun x hx => Nat.lt_of_lt_of_le hx.2 (below_from HBW.out hs.1 HBW.out.size).size) (by omega))
          obtain ⟨⟨M2, is⟩, hM2⟩ : ∃ p, putR M ⟨id, ver, vals⟩ = p := ⟨_, rfl⟩
          rw [hM2] at HA HPUT
          clear hM2
          cases is
          all_goals
            go_region_held3 (fun w' => Same wx w') (with_reducible (first | assumption | exact Same.drew _))
              ((go_at_call 51; (refine (HPUT.out _ (show Same wx _ by (with_reducible (first | assumption | exact Same.drew _)))).mono ?_); rintro e3 w3 ⟨A9, n9, cap9, rfl, ha9, hb9⟩; have HA9 := Lib.hid (And.intro (show Same wx _ by (with_reducible (first | assumption | exact Same.drew _))).1.size ha9); have S1 := Same.step (show Same wx _ by (with_reducible (first | assumption | exact Same.drew _))) hb9; clear hb9 ha9))
            all_goals
              have hS := (show Same wx _ by (with_reducible assumption)).1
              have XC := (HBX.out.below (below_from HBW.out hS HBW.out.size) HBX.out.lt)
              have cbc := XC.cell; have fbc := XC.free; have zbc := XC.lt
              have HE := Lib.hid (refg_put_end HBX.out (below_from HBW.out hS HBW.out.size) HRG.out (HA9.out.2.imp fun x hx => ⟨hx.1.imp (fun h => h) (fun h => Nat.le_trans HBW.out.size (Nat.le_trans HA9.out.1 h)), hx.2⟩) HST.out.fresh HCB.out hπ)
              clear XC hS
              go_wp2
              go_roundw
              case rel =>
                exact ⟨k + 1, c', by omega, by go_num, by rw [HT.out, HA.out]; simp, HST.out.trans HE.out.1, by rw [HT.out, HA.out]; exact HE.out.2⟩
              case measure => simp [intOf]; omega
    · have hT : l.take k = l := List.take_of_length_le (by rw [HN.out]; omega)
      have h1 := HG.out
      rw [hT] at h1 ⊢
      have H1 := Lib.hid h1
      clear h1
      go_wp2
      go_ret
      exact ⟨rfl, c', HST.out, H1.out⟩
end Go.Proofs.Ytpkeddiaoacfeaa

namespace Go.Proofs.Ytpkeddiaoacfeaa
open Go.RowKit Go.ChangeShapes
set_option maxRecDepth 100000
set_option linter.unusedVariables false
set_option linter.unusedSimpArgs false

/-- What the document's page looks at. -/
def filtR (after : Int) (first : Bool) (l : List Rec) : List Rec := l.filter fun r => first || !decide (r.id ≤ after)
theorem filtR_rest {L : List Rec} (h : Up L) (after : Int) (first : Bool) : restF after first L = filtR after first L := by
  unfold restF filtR
  cases first with
  | true =>
    rw [if_pos rfl]
    exact (List.filter_eq_self.2 fun y _ => by simp).symm
  | false =>
    rw [if_neg (by simp)]
    induction L with
    | nil => rfl
    | cons x t ih =>
      obtain ⟨h1, h2⟩ := List.pairwise_cons.1 h
      by_cases hx : x.id ≤ after
      · simp only [List.dropWhile, hx, decide_true, List.filter_cons, Bool.false_or, Bool.not_true, Bool.false_eq_true, if_false]
        have := ih h2
        simpa using this
      · have hall : ∀ y ∈ t, ¬ y.id ≤ after := fun y hy => by have := h1 y hy; omega
        rw [List.dropWhile_cons_of_neg (by simp; omega), List.filter_cons_of_pos (by simp; omega)]
        congr 1
        exact (List.filter_eq_self.2 fun y hy => by have := hall y hy; simp; omega).symm
theorem filtR_snoc {after : Int} {first : Bool} {l : List Rec} {i : Nat} {x : Rec} (h : l[i]? = some x) : filtR after first (l.take (i + 1)) = if (first || !decide (x.id ≤ after)) = true then filtR after first (l.take i) ++ [x] else filtR after first (l.take i) := by
  unfold filtR
  rw [List.take_add_one, h, Option.toList_some, List.filter_append]
  split
  · rename_i hh; simp only [List.filter_cons, hh, if_true, List.filter_nil]
  · rename_i hh; rw [Bool.not_eq_true] at hh; simp only [List.filter_cons, hh, List.filter_nil, Bool.false_eq_true, if_false, List.append_nil]
theorem filtR_more {after : Int} {first : Bool} {l : List Rec} {i : Nat} {x : Rec} {n : Int} (hx : l[i]? = some x) (hp : (first || !decide (x.id ≤ after)) = true) (h1 : (filtR after first (l.take i)).length ≤ n.toNat) (h2 : n ≤ (filtR after first (l.take i)).length) :
    (filtR after first l).take (manyF n (filtR after first l).length) = filtR after first (l.take i) ∧ decide (manyF n (filtR after first l).length < (filtR after first l).length) = true := by
  have e : filtR after first l = filtR after first (l.take i) ++ (x :: filtR after first (l.drop (i + 1))) := by
    obtain ⟨i1, i2⟩ := List.getElem?_eq_some_iff.1 hx
    have h9 : l = l.take i ++ (x :: l.drop (i + 1)) := by
      conv => lhs; rw [← List.take_append_drop i l]
      rw [List.drop_eq_getElem_cons i1, i2]
    conv => lhs; rw [h9]
    unfold filtR
    rw [List.filter_append, List.filter_cons, hp, if_pos rfl]
  generalize filtR after first (l.take i) = out at *
  rw [e]
  have hm : manyF n (out ++ (x :: filtR after first (l.drop (i + 1)))).length = out.length := by
    unfold manyF
    simp only [List.length_append, List.length_cons]
    omega
  rw [hm]
  exact ⟨by simp, decide_eq_true (by simp)⟩
theorem filtR_all {after : Int} {first : Bool} {l : List Rec} {n : Int} (h1 : (filtR after first l).length ≤ n.toNat) :
    (filtR after first l).take (manyF n (filtR after first l).length) = filtR after first l ∧ decide (manyF n (filtR after first l).length < (filtR after first l).length) = false := by
  have hm : manyF n (filtR after first l).length = (filtR after first l).length := by unfold manyF; omega
  rw [hm]
  exact ⟨List.take_length, decide_eq_false (by omega)⟩
section
variable {r r' : Rec} {c0 : Col} {wy wc wd : World} {v : Value} {L : List Rec} {m : RecC}
theorem T3.any {cp : Option RecC} {bx : Option Nat} (h : T3 r c0 wy wc v L cp bx) : T3 r' c0 wy wc v L none none := by
  obtain ⟨c, st, hr, _⟩ := h
  exact ⟨c, st, hr, (fun m h => by cases h), fun m b h => by cases h⟩
theorem T3.below {w : World} {cp : Option RecC} {bx : Option Nat} (h : T3 r (colOf (fun _ => False) w.heap.size) w wc v L cp bx) : Below w.heap.size w wc := by
  obtain ⟨c, st, _⟩ := h
  exact st.below (Nat.le_refl _) fun k _ => colOf_ne
theorem T3.shape {cp : Option RecC} {bx : Option Nat} (h : T3 r c0 wy wc v L cp bx) : ∃ A cap, v = .slice A L.length cap := by
  obtain ⟨c, st, hr, _⟩ := h
  obtain ⟨A, cap, e, _⟩ := hr.shape
  exact ⟨A, cap, e⟩
theorem T3.wpList_push {ops : Array Oper} {rest : List Oper} {o : Oper} {a : Act} {Q : Exit → Act → World → Prop} {T : TypeId} (hgd : o.guard = none) (s x : Operand)
    (ho : o.op = .call { callee := .builtin .append, args := #[s, x], argTypes := #[recE.ST, recE.ST] })
    (hs : a.eval s = v) (hx : a.eval x = .slice (some ⟨wc.heap.size, 0, none⟩) 1 1) (h : T3 r c0 wy wc v L (some m) none) {q : Nat} (hq : L.length + 1 = q) (hlen : q ≤ 1000000)
    (hK : ∀ B cap w', T3 r c0 wy w' (.slice B q cap) (L ++ [r]) none none → wpList Try.prog ops Q rest (a.put o.dst (.slice B q cap)) w') : wpList Try.prog ops Q (o :: rest) a (wc.alloc (.cells (encRC m).toArray T)) := by
  subst hq
  obtain ⟨c, st, hr, h1, h2⟩ := h.box (T := T)
  obtain ⟨b1, b2⟩ := h2 m _ rfl rfl
  refine Elt.wpList_append (E := recE) hgd s x ho v hs hr st.fresh (by simp) (some ⟨wc.heap.size, 0, none⟩) 1 1 hx (Elt.At.one b1 b2 (show recE.rd _ _ (encRC m) r from h1 m rfl)) hlen fun B cap w' c' st' hr' => ?_
  exact hK B cap w' (T3.any (T3.turned st h1 h2 st' hr'))
end
theorem page_ans {w w7 : World} {r : Rec} {v : Value} {l out : List Rec} {bo b : Bool} (h : T3 r (colOf (fun _ => False) w.heap.size) w w7 v out none none) (hl : out = l) (hbo : b = bo) : PutAns w (fun _ => False) l bo (.returned (.tuple #[v, .bool b])) w7 := by
  subst hl hbo
  obtain ⟨A, cap, rfl⟩ := h.shape
  obtain ⟨c, st, hr, _⟩ := h
  obtain ⟨h1, h2⟩ := put_end st hr
  exact ⟨A, _, cap, rfl, h1, h2⟩
set_option maxHeartbeats 8000000 in
theorem refg_page {c : Col} {π : List Int} {w : World} {b : Nat} {BA : Option Addr} {bn bc : Nat} {bl : List Rng} {L : List Rec} (after : Int) (first : Bool) (n : Int) (h : RefG c π w b BA bn bc bl L) (hL : L.length ≤ 5000) :
    Calls Try.prog 23 #[.pointer (some ⟨b, 0, none⟩), .int .u64 after, .bool first, .int .i64 n] w (PutAns w (fun _ => False) ((filtR after first L).take (manyF n (filtR after first L).length)) (decide (manyF n (filtR after first L).length < (filtR after first L).length))) := by
  obtain ⟨MA, mn, mc, hbx, _, _, hrc⟩ := h
  have HBX := Lib.hid hbx; have HRC := Lib.hid hrc; have hmn := hrc.1
  have HMN := Lib.hid hmn
  have hmn5 : mn ≤ 5000 := by omega
  have zb := hbx.lt
  clear hbx hrc
  have T0 := Lib.hid (T3.start (r := ⟨0, 0, []⟩) (c0 := colOf (fun _ => False) w.heap.size) (wy := w) (fun k hk => colOf_new hk))
  go_enter Try.func23, Try.ntmps23
  have cb0 := HBX.out.cell
  go_wp2
  clear cb0
  go_loopw [10, 11] (fun s10 s11 wr => ∃ i : Nat, i ≤ mn ∧ s11 = .int .i64 i ∧ (filtR after first (L.take i)).length ≤ n.toNat ∧ T3 ⟨0, 0, []⟩ (colOf (fun _ => False) w.heap.size) w wr s10 (filtR after first (L.take i)) none none) (fun _ i _ => mn - (intOf i).toNat)
  case atStart => exact ⟨0, Nat.zero_le _, rfl, by simp [filtR], by simpa [filtR] using T0.out⟩
  case round =>
    obtain ⟨i, hi, rfl, hol, ht⟩ := hrel
    have HT := Lib.hid ht; have HOL := Lib.hid hol
    have hB := ht.below
    have HB := Lib.hid hB
    have XB := HBX.out.below hB zb
    have cb := XB.cell; have fb := XB.free; have zbr := XB.lt
    obtain ⟨OA, ocap, rfl⟩ := ht.shape
    clear ht hB XB
    have hot : (filtR after first (L.take i)).length ≤ i := by
      have := List.length_filter_le (fun r => first || !decide (r.id ≤ after)) (L.take i)
      have h2 : (L.take i).length ≤ i := by simp; omega
      unfold filtR; omega
    by_cases hlt : i < mn
    · obtain ⟨x, hx⟩ : ∃ x, L[i]? = some x := ⟨_, List.getElem?_eq_getElem (by rw [HMN.out]; exact hlt)⟩
      obtain ⟨bb, off, rfl, hbb, hcc⟩ := (recsAt HRC.out).2.2.2.2 (by omega)
      obtain ⟨xok, xs, xm, xc, p0, p1, p2, xi⟩ := hcc i x hx
      have d0 := (HB.out.cell (p := ⟨bb, off + i * 3, none⟩) hbb.2).trans p0
      have d1 := (HB.out.cell (p := ⟨bb, off + i * 3 + 1, none⟩) hbb.2).trans p1
      have d2 := (HB.out.cell (p := ⟨bb, off + i * 3 + 2, none⟩) hbb.2).trans p2
      have HSN := Lib.hid (filtR_snoc (after := after) (first := first) hx)
      have HX := Lib.hid hx; have HXI := Lib.hid xi; have HXK := Lib.hid xok
      clear hcc p0 p1 p2 hbb hx xi xok hmn
      have HHC := Lib.hid (fun (w' : World) (hb : Below w.heap.size w w') => hcopy_any_R x.id x.ver w' (D := (· < w.heap.size)) (HXI.out.move fun b hb' hlt => ⟨hb.block b hlt, hlt⟩) (fun b hb' => Nat.lt_of_lt_of_le hb' hb.size))
      cases hp : (first || !decide (x.id ≤ after)) with
      | false =>
        rw [hp] at HSN
        obtain ⟨rfl, hle⟩ : first = false ∧ x.id ≤ after := by
          rw [Bool.or_eq_false_iff] at hp
          exact ⟨hp.1, by simpa using hp.2⟩
        clear hp
        go_wp2
        go_roundw
        case rel => exact ⟨i + 1, by omega, by go_num, by rw [HSN.out]; exact HOL.out, by rw [HSN.out]; exact HT.out⟩
        case measure => simp [intOf]; omega
      | true =>
        have HP := Lib.hid hp
        rw [hp, if_pos rfl] at HSN
        have hpp : first = true ∨ (first = false ∧ ¬ x.id ≤ after) := by
          cases first with
          | true => exact .inl rfl
          | false => exact .inr ⟨rfl, by simpa using hp⟩
        clear hp
        by_cases hge : n ≤ ((filtR after first (L.take i)).length : Int)
        · have HM := Lib.hid (filtR_more HX.out HP.out HOL.out hge)
          generalize filtR after first (L.take i) = out at *
          rcases hpp with rfl | ⟨rfl, hle⟩
          all_goals
            go_wp2
            refine bodyPost_ret (v := .tuple #[.slice OA out.length ocap, .bool true]) (by simp [results, Try.results23, go_sem]) rfl ?_
            exact page_ans HT.out HM.out.1.symm HM.out.2.symm
        · have hlt2 : ((filtR after first (L.take i)).length : Int) < n := by omega
          have HOL2 := Lib.hid (show (filtR after first (L.take i)).length + 1 ≤ n.toNat by omega)
          generalize filtR after first (L.take i) = out at *
          rcases hpp with rfl | ⟨rfl, hle⟩
          all_goals
            go_wp2_with (first
              | (go_at_call 53; go_loud (refine (HHC.out _ HB.out).mono ?_; rintro e2 w2 ⟨v2, rfl, ⟨s2, n2, k2, rfl, hi2⟩, hb2⟩; have HT2 := Lib.hid (T3.copied (r := x) (T3.any HT.out) hb2 hi2 HXK.out); clear hb2 hi2))
              | (at_builtin; go_loud (refine T3.wpList_push (m := ⟨x.id, x.ver, s2, n2, k2⟩) (wc := w2) (q := out.length + 1) rfl _ _ rfl rfl rfl HT2.out rfl (by omega) ?_; intro B5 cap5 w5 t5; have HT5 := Lib.hid t5; clear t5)))
            go_roundw
            case rel => exact ⟨i + 1, by omega, by go_num, by rw [HSN.out, List.length_append]; exact HOL2.out, by rw [HSN.out]; exact HT5.out.any⟩
            case measure => simp [intOf]; omega
    · obtain rfl : i = mn := by omega
      have hT : L.take i = L := List.take_of_length_le (by rw [HMN.out]; exact Nat.le_refl _)
      rw [hT] at HT HOL
      have HM := Lib.hid (filtR_all HOL.out)
      rw [hT]
      clear hT hot
      go_wp2
      refine bodyPost_ret (v := .tuple #[.slice OA (filtR after first L).length ocap, .bool false]) (by simp [results, Try.results23, go_sem]) rfl ?_
      exact page_ans HT.out HM.out.1.symm HM.out.2.symm
end Go.Proofs.Ytpkeddiaoacfeaa

namespace Go.Proofs.Ytpkeddiaoacfeaa
open Go.RowKit Go.ChangeShapes
set_option maxRecDepth 100000
set_option linter.unusedVariables false
set_option linter.unusedSimpArgs false

theorem recs_info : ∃ i : TypeInfo, Try.prog.info? 23 = some i ∧ i.zero = some (.slice none 0 0) ∧ i.size = 1 ∧ i.bytes = 24 := by
  obtain ⟨j0, jii, jz0, jz1, jz2⟩ := info_parts (show (Try.prog.info? 23).map (fun i => (i.zero, i.size, i.bytes)) = some (some (.slice none 0 0), 1, 24) by kernel_rfl)
  exact ⟨j0, jii, jz0, jz1, jz2⟩
def recsE : Elt Try.prog (List Rec) where
  T := 23
  ST := 46
  k := 1
  bytes := 24
  zero := .slice none 0 0
  rd := fun w D cs l => ∃ A n cap, cs = [.slice A n cap] ∧ n * 40 ≤ 140737488351232 ∧ recE.At w D A n cap l
  pos := by omega
  len := fun ⟨A, n, cap, h, _⟩ => by rw [h]; rfl
  one := fun ⟨A, n, cap, h, _⟩ u hu => by subst h; simp only [List.mem_cons, List.not_mem_nil, or_false] at hu; rw [hu]; rfl
  move := fun ⟨A, n, cap, h, hn, hl⟩ hm => ⟨A, n, cap, h, hn, hl.move hm⟩
  und := Try.underlying46
  info := recs_info
  zlen := rfl
  blim := by omega
theorem nest_open {w : World} {D : Nat → Prop} {v : Value} {y : (Sh.sl (.sl (.st shRecC) 40) 24).T} (h : Sh.Val w D (.sl (.sl (.st shRecC) 40) 24) v y) : ∃ A n cap l, v = .slice A n cap ∧ recsE.At w D A n cap l := by
  obtain ⟨A, n, cap, l, h1, h2, h3⟩ := Elt.open (E := recsE) (s := .sl (.st shRecC) 40) rfl h fun cl x hx => by
    have hx2 : Sh.Rep w D (.sl (.st shRecC) 40) cl x := hx
    obtain ⟨A, n, cap, e, _⟩ := id hx2
    subst e
    obtain ⟨A', n', cap', l, e, h2, h3⟩ := recs_open (v := .slice A n cap) (y := x) (by exact hx2)
    injection e with e1 e2 e3
    subst e1 e2 e3
    exact ⟨l, A, n, cap, rfl, h2, h3⟩
  simp only [List.cons.injEq, and_true] at h1
  exact ⟨A, n, cap, l, h1, h3⟩
/-- One slice of them. -/
theorem nest_at {w : World} {D : Nat → Prop} {A : Option Addr} {n cap i : Nat} {l : List (List Rec)} (h : recsE.At w D A n cap l) (hi : i < n) : ∃ (b off : Nat) (l1 : List Rec) (A1 : Option Addr) (n1 c1 : Nat), A = some ⟨b, off, none⟩ ∧ D b ∧ l[i]? = some l1 ∧ w.cell? ⟨b, off + i, none⟩ = some (.slice A1 n1 c1) ∧ recE.At w D A1 n1 c1 l1 := by
  obtain ⟨h1, h2, h3, h4, h5⟩ := h
  obtain ⟨b, off, rfl, hd, hc⟩ := h5 (by omega)
  obtain ⟨l1, hl1⟩ : ∃ l1, l[i]? = some l1 := ⟨_, List.getElem?_eq_getElem (by omega)⟩
  obtain ⟨cs, q0, A1, n1, c1, rfl, _, hl⟩ := hc i l1 hl1
  have := q0 0 _ rfl
  rw [show off + i * recsE.k + 0 = off + i by show off + i * 1 + 0 = _; omega] at this
  exact ⟨b, off, l1, A1, n1, c1, rfl, hd, hl1, this, hl⟩
end Go.Proofs.Ytpkeddiaoacfeaa

namespace Go.Proofs.Ytpkeddiaoacfeaa
open Go.RowKit Go.ChangeShapes
set_option maxRecDepth 100000
set_option linter.unusedVariables false
set_option linter.unusedSimpArgs false

theorem ints_made0 {w : World} {D : Nat → Prop} {b n : Nat} (h : Box w b (madeCells #[.int .u32 0] n)) (hD : D b) (hn : n * 4 ≤ 140737488351232) : Ints w D .u32 4 (some ⟨b, 0, none⟩) n n (List.replicate n 0) := by
  refine ⟨by simp, Nat.le_refl _, by omega, hn, (fun h => by cases h), fun x hx => ?_, fun _ => ⟨b, 0, rfl, hD, fun j hj => ?_⟩⟩
  · rw [List.mem_replicate] at hx
    rw [hx.2]; rfl
  · rw [Nat.zero_add, h.cell, List.getD_eq_getElem?_getD, List.getElem?_replicate, if_pos hj]
    simp [madeCells, hj, Nat.mod_one]
theorem Sta.perm {W w : World} {ts ts' : List Thing} (h : Sta W ts w) (hp : ts.Perm ts') : Sta W ts' w := by
  obtain ⟨c, h⟩ := h
  exact ⟨c, h.stp, fun t ht => h.own t (hp.mem_iff.2 ht), (hp.pairwise_iff fun {a b} hab hb he => hab (by rw [← he]; exact hb) he.symm).1 h.apart⟩
theorem Sta.flip {W w : World} {x y : Thing} (h : Sta W [x, y] w) : Sta W [y, x] w := h.perm (List.Perm.swap y x [])
section
variable {W w : World} {ts ts' : List Thing} {π : List Int} {b : Nat} {BA : Option Addr} {bn bc : Nat} {bl : List Rng} {L : List Rec} {A : Option Addr} {n cap : Nat}
theorem ra_new (π : List Int) (h : Sta W ts w) (hπ : π ≠ []) (ho : ∀ x ∈ ts, x.π ≠ π) (hx : RngsAt W (· < W.heap.size) BA bn bc bl) (T : TypeId) : Sta W (ts ++ [tRefG π w.heap.size BA bn bc bl []]) (w.alloc (.cells #[.slice BA bn bc, .slice none 0 0] T)) := by
  obtain ⟨c, h⟩ := h
  have hb := below_a1 w (.cells #[.slice BA bn bc, .slice none 0 0] T)
  have st : Stp (· = π) c w (upd c w.heap.size π) (w.alloc (.cells #[.slice BA bn bc, .slice none 0 0] T)) := (Stp.of_below _ h.fresh hb).paint (Nat.le_refl _) (by rw [size_alloc]; omega) π
  refine ⟨_, h.add (t := tRefG π w.heap.size BA bn bc bl []) hπ ho st ⟨none, 0, 0, Box.new _ _ _, upd_same _ _ _, ?_, Elt.At.nil _ _⟩⟩
  exact (hx.move h.first).move fun k hk hlt => ⟨hb.block k hlt, by rw [upd_ne _ _ (by omega)]; exact hk.1, Nat.lt_of_lt_of_le hlt hb.size⟩
theorem ra_add {l : List Rec} {k : Int} (i : Nat) (h : Sta W ts w) (hi : ts[i]? = some (tRefG π b BA bn bc bl L)) (hπ : π ≠ []) (hL : L.length ≤ 5000) (hn : n ≤ 4000) (hl : ∀ c, S0 W ts c w → recE.At w (Quiet c w) A n cap l)
    {L' : List Rec} (hk : addsR bl L l = (L', k)) (hts : ts.set i (tRefG π b BA bn bc bl L') = ts') :
    Calls Try.prog 21 #[.pointer (some ⟨b, 0, none⟩), .slice A n cap] w fun e w' => e = .returned (.int .i64 k) ∧ Sta W ts' w' := by
  obtain ⟨c, h⟩ := h
  refine (refg_add (c := c) (h.get hi) h.fresh hπ hL hn (hl c h)).mono ?_
  rintro e w' ⟨rfl, c', st, sh⟩
  rw [hk] at sh ⊢
  exact ⟨rfl, Sta.turn h hi hπ (t' := tRefG π b BA bn bc bl L') rfl st sh hts⟩
theorem ra_page {out : List Rec} {bo : Bool} (i : Nat) (after : Int) (first : Bool) (n : Int) (h : Sta W ts w) (hi : ts[i]? = some (tRefG π b BA bn bc bl L)) (hL : L.length ≤ 5000)
    (ho : (filtR after first L).take (manyF n (filtR after first L).length) = out) (hb : decide (manyF n (filtR after first L).length < (filtR after first L).length) = bo) :
    Calls Try.prog 23 #[.pointer (some ⟨b, 0, none⟩), .int .u64 after, .bool first, .int .i64 n] w fun e w' => ∃ A m cap, e = .returned (.tuple #[.slice A m cap, .bool bo]) ∧ Sta W (ts ++ [tAt recE A m cap out]) w' ∧ Below w.heap.size w w' := by
  obtain ⟨c, h⟩ := h
  refine (refg_page (c := c) after first n (h.get hi) hL).mono ?_
  rintro e w' ⟨A, m, cap, rfl, ha, hb'⟩
  rw [hb, ho] at *
  exact ⟨A, m, cap, rfl, Sta.addNew ⟨c, h⟩ hb' (ha.imp fun b hb => hb.1.elim (fun h => h.elim) (fun h => h)) (Nat.le_refl _), hb'⟩
theorem Sta.refBox {i : Nat} (h : Sta W ts w) (hi : ts[i]? = some (tRefG π b BA bn bc bl L)) : ∃ A' n' cp', Box w b #[.slice BA bn bc, .slice A' n' cp'] ∧ recE.At w (· < w.heap.size) A' n' cp' L := by
  obtain ⟨c, h⟩ := h
  obtain ⟨A', n', cp', h1, _, _, h4⟩ := h.get hi
  exact ⟨A', n', cp', h1, h4.imp fun b hb => hb.2⟩
end
end Go.Proofs.Ytpkeddiaoacfeaa
