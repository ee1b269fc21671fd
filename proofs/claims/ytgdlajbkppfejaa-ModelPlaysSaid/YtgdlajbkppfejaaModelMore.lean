/- The model's Find of a box that may not be; plain laws of what is found. Conditions: none. | The document's Right of a box. Conditions: the ranges read so. | A nil model. Conditions: none. | A nil model's Put. Conditions: none. -/
import Derived.Test.YtgdlajbkppfejaaModelAll
namespace Go.Proofs.Ytgdlajbkppfejaa
open Go.RowKit Go.ChangeShapes Go.Maps
set_option maxRecDepth 100000
set_option linter.unusedVariables false
set_option linter.unusedSimpArgs false

theorem model_find_no {c : Col} {π : List Int} {w : World} {b : Nat} {attrs : Int} {L : List Kn} {BA : Option Addr} {bn bc : Nat} {bl : List Rng} (h : ModelR c π w b attrs L) (hbl : RngsAt w (Quiet c w) BA bn bc bl) (hr : rightB attrs bl = false) :
    Calls Try.prog 22 #[.pointer (some ⟨b, 0, none⟩), .slice BA bn bc] w fun e w' => e = .returned (.slice none 0 0) ∧ Below w.heap.size w w' := by
  obtain ⟨mb, D, hb, _, _, hm, hd⟩ := h
  have HR := Lib.hid (boxright_any attrs w hbl (fun b hb => hb.2))
  rw [hr] at HR
  have cb := hb.box.cell
  have zb := hb.lt
  clear hm hd hb hbl hr
  go_enter Try.func22, Try.ntmps22
  go_wp2_with (go_at_call 47; go_loud (refine HR.out.mono ?_; rintro e0 w0 ⟨rfl, hb0⟩; have HB0 := Lib.hid hb0; clear hb0))
  go_ret
  exact ⟨rfl, HB0.out⟩
/-- How many of a rising list lie ahead of a key. -/
def ahead (ls : List Kn) (id : Int) : Nat := ls.countP fun x => decide (x.key < id)
theorem ahead_le (ls : List Kn) (id : Int) : ahead ls id ≤ ls.length := List.countP_le_length
theorem ahead_take {ls : List Kn} (h : ls.Pairwise (fun a b => a.key < b.key)) (id : Int) : (∀ (j : Nat) x, j < ahead ls id → ls[j]? = some x → x.key < id) ∧ ∀ (j : Nat) x, ahead ls id ≤ j → ls[j]? = some x → id ≤ x.key := by
  induction ls with
  | nil => exact ⟨fun j x _ hx => by simp at hx, fun j x _ hx => by simp at hx⟩
  | cons a t ih =>
    obtain ⟨h1, h2⟩ := List.pairwise_cons.1 h
    obtain ⟨i1, i2⟩ := ih h2
    by_cases ha : a.key < id
    · have e : ahead (a :: t) id = ahead t id + 1 := by unfold ahead; rw [List.countP_cons]; simp [ha]
      rw [e]
      refine ⟨fun j x hj hx => ?_, fun j x hj hx => ?_⟩
      · cases j with
        | zero => simp only [List.getElem?_cons_zero, Option.some.injEq] at hx; subst hx; exact ha
        | succ j => simp only [List.getElem?_cons_succ] at hx; exact i1 j x (by omega) hx
      · cases j with
        | zero => omega
        | succ j => simp only [List.getElem?_cons_succ] at hx; exact i2 j x (by omega) hx
    · have hall : ∀ y ∈ t, ¬ y.key < id := fun y hy => by have := h1 y hy; omega
      have e : ahead (a :: t) id = 0 := by
        unfold ahead
        rw [List.countP_eq_zero]
        intro y hy
        rcases List.mem_cons.1 hy with rfl | hy
        · simp; omega
        · have := hall y hy; simp; omega
      rw [e]
      refine ⟨fun j x hj => by omega, fun j x _ hx => ?_⟩
      rcases List.mem_cons.1 (List.mem_of_getElem? hx) with rfl | hy
      · omega
      · have := hall x hy; omega
/-- At a key: is the next one it? -/
theorem ahead_at {ls : List Kn} (h : ls.Pairwise (fun a b => a.key < b.key)) (id : Int) : (∃ x ∈ ls, x.key = id) ↔ ∃ x, ls[ahead ls id]? = some x ∧ x.key = id := by
  obtain ⟨h1, h2⟩ := ahead_take h id
  constructor
  · rintro ⟨x, hx, he⟩
    obtain ⟨j, hj⟩ := List.mem_iff_getElem?.1 hx
    rcases Nat.lt_trichotomy j (ahead ls id) with q | q | q
    · have := h1 j x q hj; omega
    · subst q; exact ⟨x, hj, he⟩
    · obtain ⟨j1, j2⟩ := List.getElem?_eq_some_iff.1 hj
      have hy : ls[ahead ls id]? = some (ls[ahead ls id]'(by omega)) := List.getElem?_eq_getElem (by omega)
      have a1 := h2 _ _ (Nat.le_refl _) hy
      have a2 := List.pairwise_iff_getElem.1 h (ahead ls id) j (by omega) j1 q
      rw [j2] at a2
      omega
  · rintro ⟨x, hx, he⟩
    exact ⟨x, List.mem_of_getElem? hx, he⟩
theorem ahead_succ {ls : List Kn} (h : ls.Pairwise (fun a b => a.key < b.key)) (id : Int) : ahead ls (id + 1) = if (∃ x ∈ ls, x.key = id) then ahead ls id + 1 else ahead ls id := by
  induction ls with
  | nil => simp [ahead]
  | cons a t ih =>
    obtain ⟨h1, h2⟩ := List.pairwise_cons.1 h
    have ih := ih h2
    have e : ∀ i, ahead (a :: t) i = ahead t i + if a.key < i then 1 else 0 := fun i => by unfold ahead; rw [List.countP_cons]; simp
    rw [e, e, ih]
    have p1 : ∀ {q : Prop} [Decidable q], q → (if q then (1 : Nat) else 0) = 1 := fun h => if_pos h
    have p0 : ∀ {q : Prop} [Decidable q], ¬ q → (if q then (1 : Nat) else 0) = 0 := fun h => if_neg h
    by_cases ha : a.key = id
    · have hno : ¬ ∃ x ∈ t, x.key = id := by rintro ⟨x, hx, hq⟩; have := h1 x hx; omega
      have hyes : ∃ x ∈ a :: t, x.key = id := ⟨a, by simp, ha⟩
      rw [if_neg hno, if_pos hyes, p1 (show a.key < id + 1 by omega), p0 (show ¬ a.key < id by omega)]
    · by_cases hex : ∃ x ∈ t, x.key = id
      · obtain ⟨x, hx, hq⟩ := hex
        have := h1 x hx
        have hyes : ∃ x ∈ a :: t, x.key = id := ⟨x, by simp [hx], hq⟩
        rw [if_pos ⟨x, hx, hq⟩, if_pos hyes, p1 (show a.key < id + 1 by omega), p1 (show a.key < id by omega)]
      · have hex2 : ¬ ∃ x ∈ a :: t, x.key = id := by
          rintro ⟨x, hx, hq⟩
          rcases List.mem_cons.1 hx with rfl | hx
          · exact ha hq
          · exact hex ⟨x, hx, hq⟩
        rw [if_neg hex, if_neg hex2]
        by_cases hlt : a.key < id
        · rw [p1 (show a.key < id + 1 by omega), p1 hlt]
        · rw [p0 (show ¬ a.key < id + 1 by omega), p0 hlt]
end Go.Proofs.Ytgdlajbkppfejaa

namespace Go.Proofs.Ytgdlajbkppfejaa
open Go.RowKit Go.ChangeShapes
set_option maxRecDepth 100000
set_option linter.unusedVariables false
set_option linter.unusedSimpArgs false

theorem r05kind_any (k lo hi : Int) (w : World) : Calls Try.prog 49 #[.agg #[.int .i64 k, .int .u32 lo, .int .u32 hi]] w fun e w' => e = .returned (.bool (kindF k)) ∧ Below w.heap.size w w' := by
  by_cases h1 : 1 ≤ k
  · have E : kindF k = decide (k ≤ 3) := by unfold kindF; simp [h1]
    go_enter Try.func49, Try.ntmps49
    go_wp2
    go_ret
    exact ⟨by first | rfl | (rw [E]; rfl) | rw [E], (by repeat (first | exact Below.refl _ _ | assumption | apply Below.drew | apply belowN | (refine Below.alloc ?_ (by first | exact Nat.le_refl _ | (simp; done) | (simp; omega)) _) | (refine Below.setCell ?_ (by first | exact Nat.le_refl _ | (simp; done) | (simp; omega)) _)))⟩
  · have E : kindF k = false := by unfold kindF; simp [h1]
    go_enter Try.func49, Try.ntmps49
    go_wp2
    go_ret
    exact ⟨by first | rfl | (rw [E]; rfl) | rw [E], (by repeat (first | exact Below.refl _ _ | assumption | apply Below.drew | apply belowN | (refine Below.alloc ?_ (by first | exact Nat.le_refl _ | (simp; done) | (simp; omega)) _) | (refine Below.setCell ?_ (by first | exact Nat.le_refl _ | (simp; done) | (simp; omega)) _)))⟩
set_option maxHeartbeats 1000000 in
theorem r05right_any {D : Nat → Prop} {A : Option Addr} {n c : Nat} {l : List Rng} (attrs : Int) (w : World) (h : RngsAt w D A n c l) (hD : ∀ b, D b → b < w.heap.size) :
    Calls Try.prog 24 #[.int .i64 attrs, .slice A n c] w fun e w' => e = .returned (.bool (rightB attrs l)) ∧ Below w.heap.size w w' := by
  obtain ⟨hn, hnc, hcm, _, _, _, hcell⟩ := h
  have HN := Lib.hid hn; have HC := Lib.hid hcell; have HD := Lib.hid hD
  clear hn hcell hD
  by_cases h1 : attrs < 1
  · have HE : Hid (rightB attrs l = false) := by show rightB attrs l = _; unfold rightB; simp; omega
    go_enter Try.func24, Try.ntmps24
    go_wp2
    go_ret
    exact ⟨(by first | (rw [HE.out]; done) | (rw [HE.out]; rfl)), Below.refl _ _⟩
  · by_cases h2 : 8 < attrs
    · have HE : Hid (rightB attrs l = false) := by show rightB attrs l = _; unfold rightB; simp; omega
      go_enter Try.func24, Try.ntmps24
      go_wp2
      go_ret
      exact ⟨(by first | (rw [HE.out]; done) | (rw [HE.out]; rfl)), Below.refl _ _⟩
    · by_cases h3 : (n : Int) = attrs
      · have HE : Hid (rightB attrs l = (l.all fun r => kindF r.kind)) := by
          have e1 : 1 ≤ attrs := by omega
          have e2 : attrs ≤ 8 := by omega
          show rightB attrs l = _; unfold rightB; rw [HN.out]; simp [e1, e2, h3]
        have h3' : ((n : Int) == attrs) = true := by rw [beq_iff_eq]; exact h3
        have h3'' : ((n : Int) != attrs) = false := by simp [h3]
        clear h3
        go_enter Try.func24, Try.ntmps24
        go_wp2
        go_loopw [5] (fun s8 wr => ∃ k : Nat, k ≤ n ∧ s8 = .int .i64 k ∧ Below w.heap.size w wr ∧ ∀ (j : Nat) r, j < k → l[j]? = some r → kindF r.kind = true) (fun s _ => n - (intOf s).toNat)
        case atStart => exact ⟨0, Nat.zero_le _, rfl, Below.refl _ _, fun j r hj => by omega⟩
        case round =>
          obtain ⟨k, hk, rfl, hB, hall⟩ := hrel
          have HB := Lib.hid hB; have HA := Lib.hid hall
          clear hB hall
          by_cases hlt : k < n
          · obtain ⟨r, hr⟩ : ∃ r, l[k]? = some r := ⟨_, List.getElem?_eq_getElem (by rw [HN.out]; exact hlt)⟩
            obtain ⟨bb, off, rfl, hbb, hc⟩ := HC.out (by omega)
            have hcs : ∀ t u, (encR r)[t]? = some u → wr.cell? ⟨bb, off + k * 3 + t, none⟩ = some u := fun t u hu => by
              rw [World.cell?_of_block (w := w) (a := ⟨bb, off + k * 3 + t, none⟩) (HB.out.block bb (HD.out bb hbb))]; exact hc k r hr t u hu
            have d0 := hcs 0 _ rfl; have d1 := hcs 1 _ rfl; have d2 := hcs 2 _ rfl
            simp only [Nat.add_zero] at d0
            have HR := Lib.hid hr
            clear hc hcs hbb hr
            obtain ⟨rk, rl, rh⟩ := r
            dsimp only at *
            obtain ⟨bo, hbo⟩ : ∃ bo, kindF rk = bo := ⟨_, rfl⟩
            have H1 := Lib.hid (r05kind_any rk rl rh)
            rw [hbo] at H1
            have HBO := Lib.hid hbo
            clear hbo
            cases bo
            · have HF : Hid ((l.all fun r => kindF r.kind) = false) := by
                show (l.all fun r => kindF r.kind) = false
                rw [List.all_eq_false]
                exact ⟨_, List.mem_of_getElem? HR.out, by simp [HBO.out]⟩
              go_wp2_with (go_at_call 49; go_loud ((with_reducible refine (H1.out _).mono ?_); rintro e w2 ⟨rfl, hb2⟩; have HB2 := Lib.hid (below_from HB.out hb2 HB.out.size); clear hb2))
              go_ret
              exact ⟨by rw [HE.out, HF.out]; first | rfl | simp, HB2.out⟩
            · go_wp2_with (go_at_call 49; go_loud ((with_reducible refine (H1.out _).mono ?_); rintro e w2 ⟨rfl, hb2⟩; have HB2 := Lib.hid (below_from HB.out hb2 HB.out.size); clear hb2))
              go_roundw
              case rel => exact ⟨k + 1, by omega, by go_num, HB2.out, fun j y hj hy => by
                by_cases hjk : j < k
                · exact HA.out j y hjk hy
                · obtain rfl : j = k := by omega
                  rw [HR.out] at hy; injection hy with hy; rw [← hy]; exact HBO.out⟩
              case measure => simp [intOf]; omega
          · have HF : Hid ((l.all fun r => kindF r.kind) = true) := by
              show (l.all fun r => kindF r.kind) = true
              rw [List.all_eq_true]
              intro r hr
              obtain ⟨j, hj⟩ := List.mem_iff_getElem?.1 hr
              exact HA.out j r (by have := (List.getElem?_eq_some_iff.1 hj).1; rw [HN.out] at this; omega) hj
            go_wp2
            go_ret
            exact ⟨by rw [HE.out, HF.out]; first | rfl | simp, HB.out⟩
      · have HE : Hid (rightB attrs l = false) := by show rightB attrs l = _; unfold rightB; rw [HN.out]; simp [h3]
        have h3' : ((n : Int) == attrs) = false := by rw [beq_eq_false_iff_ne]; exact h3
        have h3'' : ((n : Int) != attrs) = true := by simp [h3]
        clear h3
        go_enter Try.func24, Try.ntmps24
        go_wp2
        go_ret
        exact ⟨(by first | (rw [HE.out]; done) | (rw [HE.out]; rfl)), Below.refl _ _⟩
end Go.Proofs.Ytgdlajbkppfejaa

namespace Go.Proofs.Ytgdlajbkppfejaa
open Go.RowKit
set_option maxRecDepth 100000
set_option linter.unusedVariables false
set_option linter.unusedSimpArgs false

theorem mnil_len (w : World) : Calls Try.prog 29 #[.pointer none] w fun e w' => e = .returned (.int .i64 0) ∧ w = w' := by
  go_enter Try.func29, Try.ntmps29
  go_wp2
  go_ret
  exact ⟨rfl, rfl⟩
theorem mnil_find (A : Option Addr) (n cap : Nat) (w : World) : Calls Try.prog 22 #[.pointer none, .slice A n cap] w fun e w' => e = .returned (.slice none 0 0) ∧ w = w' := by
  go_enter Try.func22, Try.ntmps22
  go_wp2
  go_ret
  exact ⟨rfl, rfl⟩
theorem mnil_del (id ver : Int) (w : World) : Calls Try.prog 26 #[.pointer none, .int .u64 id, .int .u64 ver] w fun e w' => e = .returned (.bool false) ∧ w = w' := by
  go_enter Try.func26, Try.ntmps26
  go_wp2
  go_ret
  exact ⟨rfl, rfl⟩
theorem mnil_get (id : Int) (w : World) : Calls Try.prog 23 #[.pointer none, .int .u64 id] w fun e w' => e = .returned (.tuple #[.agg #[.int .u64 0, .int .u64 0, .slice none 0 0], .bool false]) ∧ Below w.heap.size w w' := by
  go_enter Try.func23, Try.ntmps23
  go_wp2
  refine bodyPost_ret (v := .tuple #[.agg #[.int .u64 0, .int .u64 0, .slice none 0 0], .bool false]) (by simp [results, Try.results23, go_sem]) rfl ?_
  exact ⟨rfl, (by repeat (first | exact Below.refl _ _ | assumption | apply Below.drew | apply belowN | (refine Below.alloc ?_ (by first | exact Nat.le_refl _ | (simp; done) | (simp; omega)) _) | (refine Below.setCell ?_ (by first | exact Nat.le_refl _ | (simp; done) | (simp; omega)) _)))⟩
end Go.Proofs.Ytgdlajbkppfejaa

namespace Go.Proofs.Ytgdlajbkppfejaa
open Go.RowKit
set_option maxRecDepth 100000
set_option linter.unusedVariables false
set_option linter.unusedSimpArgs false
set_option maxHeartbeats 4000000 in
theorem mnil_put (w : World) : Calls Try.prog 21 #[.pointer none, .agg #[.int .u64 0, .int .u64 0, .slice none 0 0]] w fun e w' => e = .returned (.bool false) ∧ Below w.heap.size w w' := by
  go_enter Try.func21, Try.ntmps21
  go_upto_region 1 with fail
  go_quiet (fail)
  all_goals
    go_wp2
    go_ret
    exact ⟨rfl, (by repeat (first | exact Below.refl _ _ | assumption | apply Below.drew | apply belowN | (refine Below.alloc ?_ (by first | exact Nat.le_refl _ | (simp; done) | (simp; omega)) _) | (refine Below.setCell ?_ (by first | exact Nat.le_refl _ | (simp; done) | (simp; omega)) _)))⟩
/-- Find of any box. -/
theorem mo_find_any {W w : World} {ts : List Thing} {π : List Int} {b : Nat} {attrs : Int} {L : List Kn} {BA : Option Addr} {bn bc : Nat} {bl : List Rng} (i : Nat) (h : Sta W ts w) (hi : ts[i]? = some (tModel π b attrs L)) (hL : L.length ≤ 10000) (hbl : ∀ c, S0 W ts c w → RngsAt w (Quiet c w) BA bn bc bl) :
    Calls Try.prog 22 #[.pointer (some ⟨b, 0, none⟩), .slice BA bn bc] w fun e w' => ∃ (ks : List Int) (ls : List Kn) (A : Option Addr) (cap : Nat), e = .returned (.slice A ls.length cap) ∧ (rightB attrs bl = true → FoundOf bl L ks ls ∧ ∀ x ∈ L, x.key ∈ ks) ∧ (rightB attrs bl = false → ls = []) ∧ Sta W (ts ++ [tAt recE A ls.length cap (ls.map Kn.rc)]) w' ∧ Below w.heap.size w w' := by
  cases hr : rightB attrs bl with
  | true =>
    refine (mo_find i h hi hL hbl hr).mono ?_
    rintro e w' ⟨ks, ls, A, cap, rfl, h1, h2, h3, h4⟩
    exact ⟨ks, ls, A, cap, rfl, fun _ => ⟨h1, h2⟩, fun h => (by cases h), h3, h4⟩
  | false =>
    obtain ⟨c, h⟩ := h
    refine (model_find_no (c := c) (h.get hi) (hbl c h) hr).mono ?_
    rintro e w' ⟨rfl, h4⟩
    exact ⟨[], [], none, 0, rfl, fun h => (by cases h), fun _ => rfl, Sta.addNew ⟨c, h⟩ h4 (Elt.At.nil _ _) (Nat.le_refl _), h4⟩
/-- Every element has a key of its own. -/
def OneK (L : List Kn) : Prop := (L.map Kn.key).Nodup
theorem OneK.nil : OneK [] := List.nodup_nil
theorem OneK.same {L : List Kn} (h : OneK L) {x y : Kn} (hx : x ∈ L) (hy : y ∈ L) (he : x.key = y.key) : x = y := by
  unfold OneK at h
  induction L with
  | nil => simp at hx
  | cons a t ih =>
    rw [List.map_cons, List.nodup_cons] at h
    rcases List.mem_cons.1 hx with e1 | h1 <;> rcases List.mem_cons.1 hy with e2 | h2
    · rw [e1, e2]
    · exact absurd (List.mem_map.2 ⟨y, h2, by rw [← he, e1]⟩) h.1
    · exact absurd (List.mem_map.2 ⟨x, h1, by rw [he, e2]⟩) h.1
    · exact ih h.2 h1 h2
theorem setK_keys (L : List Kn) (x : Kn) : (setK L x).map Kn.key = L.map Kn.key := by
  unfold setK
  rw [List.map_map]
  refine List.map_congr_left fun y _ => ?_
  show (if y.key == x.key then x else y).key = y.key
  split
  · next h => exact (by simpa using h : y.key = x.key).symm
  · rfl
theorem OneK.putK {L : List Kn} (h : OneK L) (x : Kn) : OneK (putK L x) := by
  unfold Go.Proofs.Ytgdlajbkppfejaa.putK
  split
  · show ((setK L x).map Kn.key).Nodup
    rw [setK_keys]; exact h
  · next hn =>
    show ((L ++ [x]).map Kn.key).Nodup
    rw [List.map_append, List.nodup_append]
    refine ⟨h, by simp, fun a ha b hb e => ?_⟩
    simp only [List.map_cons, List.map_nil, List.mem_singleton] at hb
    subst hb
    obtain ⟨y, hy, hq⟩ := List.mem_map.1 ha
    apply hn
    unfold findK
    rw [List.find?_isSome]
    exact ⟨y, hy, by simp [hq, e]⟩
theorem OneK.mput {L : List Kn} (h : OneK L) (attrs : Int) (r : Rec) : OneK (mputF attrs L r).1 := by
  unfold mputF
  split
  · split
    · exact h
    · exact h.putK _
  · exact h
theorem OneK.mdel {L : List Kn} (h : OneK L) (id ver : Int) : OneK (mdelF L id ver).1 := by
  unfold mdelF
  split
  · split
    · exact h
    · exact h.putK _
  · exact h
theorem findK_of {L : List Kn} (h : OneK L) {x : Kn} (hx : x ∈ L) : findK L x.key = some x := by
  unfold findK
  cases e : L.find? (fun y => y.key == x.key) with
  | none => exact absurd (List.find?_eq_none.1 e x hx) (by simp)
  | some y =>
    have h1 := List.mem_of_find?_eq_some e
    have h2 := List.find?_some e
    rw [h.same h1 hx (by simpa using h2)]
theorem findK_some {L : List Kn} {id : Int} {x : Kn} (h : findK L id = some x) : x ∈ L ∧ x.key = id := ⟨List.mem_of_find?_eq_some h, by simpa using List.find?_some h⟩
/-- What Get tells, and what Find found. -/
theorem found_is {bl : List Rng} {L : List Kn} {ks : List Int} {ls : List Kn} (hf : FoundOf bl L ks ls) (hk : ∀ x ∈ L, x.key ∈ ks) (h1 : OneK L) (id : Int) : (∃ x ∈ ls, x.key = id) ↔ isK L id = true ∧ matchF bl (recK L id).vals = true := by
  constructor
  · rintro ⟨x, hx, rfl⟩
    obtain ⟨a, b, _⟩ := (hf.2 x).1 hx
    unfold hitK at b
    rw [Bool.and_eq_true] at b
    unfold isK recK
    rw [findK_of h1 a]
    exact b
  · rintro ⟨a, b⟩
    unfold isK at a
    unfold recK at b
    cases e : findK L id with
    | none => rw [e] at a; cases a
    | some x =>
      rw [e] at a b
      obtain ⟨hx, rfl⟩ := findK_some e
      refine ⟨x, (hf.2 x).2 ⟨hx, ?_, hk x hx⟩, rfl⟩
      unfold hitK
      rw [Bool.and_eq_true]
      exact ⟨a, b⟩
theorem kn_nodup_len {l M : List Kn} (hn : l.Nodup) (hs : ∀ r ∈ l, r ∈ M) : l.length ≤ M.length := by
  classical
  induction l generalizing M with
  | nil => exact Nat.zero_le _
  | cons a t ih =>
    obtain ⟨h1, h2⟩ := List.nodup_cons.1 hn
    have ha := hs a (by simp)
    have := ih (M := M.erase a) h2 fun r hr => (List.mem_erase_of_ne (fun e => h1 (by rw [← e]; exact hr))).2 (hs r (by simp [hr]))
    rw [List.length_erase_of_mem ha] at this
    have := List.length_pos_of_mem ha
    simp; omega
theorem OneK.nodup {L : List Kn} (h : OneK L) : L.Nodup := by
  unfold OneK List.Nodup at h
  rw [List.pairwise_map] at h
  exact h.imp fun {a b} hq e => hq (by rw [e])
theorem FoundOf.count {bl : List Rng} {L : List Kn} {ks : List Int} {ls : List Kn} (h : FoundOf bl L ks ls) (hk : ∀ x ∈ L, x.key ∈ ks) (h1 : OneK L) : ls.length = L.countP (hitK bl) := by
  rw [List.countP_eq_length_filter]
  refine Nat.le_antisymm (kn_nodup_len (h.1.imp fun {a b} h e => by subst e; omega) fun r hr => ?_) (kn_nodup_len (h1.nodup.filter _) fun r hr => ?_)
  · exact List.mem_filter.2 ⟨((h.2 r).1 hr).1, ((h.2 r).1 hr).2.1⟩
  · obtain ⟨a, b⟩ := List.mem_filter.1 hr
    exact (h.2 r).2 ⟨a, b, hk r a⟩
/-- Every record is there and has one value. -/
def Good1 (L : List Kn) : Prop := ∀ x ∈ L, x.is = true ∧ ∃ v, U32 v ∧ x.rc.vals = [v]
theorem Good1.put {L : List Kn} {id ver v : Int} (h : Good1 L) (hv : U32 v) (attrs : Int) : Good1 (mputF attrs L ⟨id, ver, [v]⟩).1 := by
  unfold mputF
  split
  · split
    · exact h
    · unfold putK
      split
      · intro x hx
        unfold setK at hx
        obtain ⟨y, hy, rfl⟩ := List.mem_map.1 hx
        split
        · exact ⟨rfl, v, hv, rfl⟩
        · exact h y hy
      · intro x hx
        rcases List.mem_append.1 hx with hx | hx
        · exact h x hx
        · rw [List.mem_singleton] at hx; subst hx; exact ⟨rfl, v, hv, rfl⟩
  · exact h
theorem hit_any {x : Kn} {v : Int} (h1 : x.is = true) (hv : x.rc.vals = [v]) : hitK [⟨1, 0, 0⟩] x = true := by
  unfold hitK matchF inF; rw [h1, hv]; simp
theorem hit_nothing {x : Kn} {v : Int} (hv : x.rc.vals = [v]) : hitK [⟨3, 0, 0⟩] x = false := by
  unfold hitK matchF inF; rw [hv]; simp
theorem hit_low {x : Kn} {v a : Int} (h1 : x.is = true) (hv : x.rc.vals = [v]) (hu : U32 v) (ha : U32 a) : hitK [⟨2, 0, a⟩] x = decide (v ≤ a) := by
  obtain ⟨a1, a2⟩ := hu
  obtain ⟨b1, b2⟩ := ha
  have e1 : (v - 0) % 4294967296 = v := by omega
  have e2 : (a - 0) % 4294967296 = a := by omega
  unfold hitK matchF inF; rw [h1, hv]; simp [e1, e2]
  all_goals (try omega)
theorem hit_high {x : Kn} {v a : Int} (h1 : x.is = true) (hv : x.rc.vals = [v]) (hu : U32 v) (ha : U32 a) (hlt : a < 4294967295) : hitK [⟨2, a + 1, 4294967295⟩] x = !decide (v ≤ a) := by
  obtain ⟨a1, a2⟩ := hu
  obtain ⟨b1, b2⟩ := ha
  have e2 : (4294967295 - (a + 1)) % 4294967296 = 4294967295 - (a + 1) := by omega
  have e3 : hitK [⟨2, a + 1, 4294967295⟩] x = decide ((v - (a + 1)) % 4294967296 ≤ 4294967295 - (a + 1)) := by
    unfold hitK matchF inF; rw [h1, hv]; simp [e2]
  rw [e3]
  by_cases hc : v ≤ a
  · have : (v - (a + 1)) % 4294967296 = v - (a + 1) + 4294967296 := by omega
    rw [this, decide_eq_false (by omega), decide_eq_true hc]; rfl
  · have : (v - (a + 1)) % 4294967296 = v - (a + 1) := by omega
    rw [this, decide_eq_true (by omega), decide_eq_false hc]; rfl
theorem Good1.tl {a : Kn} {t : List Kn} (h : Good1 (a :: t)) : Good1 t := fun x hx => h x (by simp [hx])
theorem Good1.all {L : List Kn} (h : Good1 L) : L.countP (hitK [⟨1, 0, 0⟩]) = L.length ∧ L.countP isB = L.length ∧ L.countP (hitK [⟨3, 0, 0⟩]) = 0 := by
  refine ⟨List.countP_eq_length.2 fun x hx => ?_, List.countP_eq_length.2 fun x hx => (h x hx).1, List.countP_eq_zero.2 fun x hx => ?_⟩
  · obtain ⟨a, v, hv, e⟩ := h x hx
    exact hit_any a e
  · obtain ⟨a, v, hv, e⟩ := h x hx
    rw [hit_nothing e]; simp
theorem Good1.halves {L : List Kn} (h : Good1 L) {a : Int} (ha : U32 a) (hlt : a < 4294967295) : L.countP (hitK [⟨2, 0, a⟩]) + L.countP (hitK [⟨2, a + 1, 4294967295⟩]) = L.length := by
  induction L with
  | nil => rfl
  | cons x t ih =>
    obtain ⟨q, v, hv, e⟩ := h x (by simp)
    have := ih h.tl
    rw [List.countP_cons, List.countP_cons, hit_low q e hv ha, hit_high q e hv ha hlt, List.length_cons]
    by_cases hc : v ≤ a
    · simp [hc]; omega
    · simp [hc]; omega
theorem Good1.whole {L : List Kn} (h : Good1 L) : L.countP (hitK [⟨2, 0, 4294967295⟩]) = L.length := by
  refine List.countP_eq_length.2 fun x hx => ?_
  obtain ⟨q, v, hv, e⟩ := h x hx
  rw [hit_low q e hv ⟨by omega, by omega⟩]
  exact decide_eq_true (by have := hv.2; omega)
end Go.Proofs.Ytgdlajbkppfejaa
