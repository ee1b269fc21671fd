/- The document's shelf: ahead, Scan. Conditions: it is one. -/
import Derived.Test.YtjcbmfopcohcmaaRefPut
namespace Go.Proofs.Ytjcbmfopcohcmaa
open Go.RowKit Go.ChangeShapes Go.Maps
set_option maxRecDepth 100000
set_option linter.unusedVariables false
set_option linter.unusedSimpArgs false

theorem stp_wrap (f x : Int) : IntKind.u32.wrap (IntKind.u32.wrap (x - f) - 1) = stpF f x := by rw [u32w, u32w]; rfl
theorem ahead_any (f x1 i1 v1 : Int) (s1 : Option Addr) (l1 c1 : Nat) (g1 : Bool) (x2 i2 v2 : Int) (s2 : Option Addr) (l2 c2 : Nat) (g2 : Bool) (w : World) :
    Calls Try.prog 88 #[.int .u32 f, .agg #[.int .u32 x1, .int .u64 i1, .int .u64 v1, .slice s1 l1 c1, .bool g1], .agg #[.int .u32 x2, .int .u64 i2, .int .u64 v2, .slice s2 l2 c2, .bool g2]] w
      fun e w' => e = .returned (.bool (decide (stpF f x1 < stpF f x2 ∨ (stpF f x1 = stpF f x2 ∧ i1 < i2)))) ∧ Below w.heap.size w w' := by
  have h1 : ((x1 - f) % 4294967296 - 1) % 4294967296 = stpF f x1 := rfl
  have h2 : ((x2 - f) % 4294967296 - 1) % 4294967296 = stpF f x2 := rfl
  have hb1 : 0 ≤ stpF f x1 ∧ stpF f x1 < 4294967296 := by unfold stpF; omega
  have hb2 : 0 ≤ stpF f x2 ∧ stpF f x2 < 4294967296 := by unfold stpF; omega
  generalize stpF f x1 = a at *
  generalize stpF f x2 = b at *
  have HB := Lib.hid hb1; have HB2 := Lib.hid hb2
  have H1 := Lib.hid h1; have H2 := Lib.hid h2
  clear hb1 hb2 h1 h2
  by_cases hlt : a < b
  · have E : decide (a < b ∨ (a = b ∧ i1 < i2)) = true := by simp [hlt]
    have HE := Lib.hid E
    clear E
    go_enter Try.func88, Try.ntmps88
    go_wp2
    go_quiet (fail)
    rw [H1.out, H2.out]
    go_wp2
    go_ret
    exact ⟨by rw [HE.out]; first | rfl | simp, (by repeat (first | exact Below.refl _ _ | assumption | apply Below.drew | apply belowN | (refine Below.alloc ?_ (by first | exact Nat.le_refl _ | (simp; done) | (simp; omega)) _) | (refine Below.setCell ?_ (by first | exact Nat.le_refl _ | (simp; done) | (simp; omega)) _)))⟩
  · by_cases heq : a = b
    · have E : decide (a < b ∨ (a = b ∧ i1 < i2)) = decide (i1 < i2) := by simp [heq]
      have HE := Lib.hid E
      have b1 : (a == b) = true := by rw [beq_iff_eq]; exact heq
      have b0 : decide (a < b) = false := by simpa using hlt
      clear E heq
      go_enter Try.func88, Try.ntmps88
      go_wp2
      go_quiet (fail)
      rw [H1.out, H2.out]
      go_wp2
      go_ret
      exact ⟨by rw [HE.out]; first | rfl | simp, (by repeat (first | exact Below.refl _ _ | assumption | apply Below.drew | apply belowN | (refine Below.alloc ?_ (by first | exact Nat.le_refl _ | (simp; done) | (simp; omega)) _) | (refine Below.setCell ?_ (by first | exact Nat.le_refl _ | (simp; done) | (simp; omega)) _)))⟩
    · have E : decide (a < b ∨ (a = b ∧ i1 < i2)) = false := by simp [hlt, heq]
      have HE := Lib.hid E
      have b1 : (a == b) = false := by rw [beq_eq_false_iff_ne]; exact heq
      have b0 : decide (a < b) = false := by simpa using hlt
      clear E
      go_enter Try.func88, Try.ntmps88
      go_wp2
      go_quiet (fail)
      rw [H1.out, H2.out]
      go_wp2
      go_ret
      exact ⟨by rw [HE.out]; first | rfl | simp, (by repeat (first | exact Below.refl _ _ | assumption | apply Below.drew | apply belowN | (refine Below.alloc ?_ (by first | exact Nat.le_refl _ | (simp; done) | (simp; omega)) _) | (refine Below.setCell ?_ (by first | exact Nat.le_refl _ | (simp; done) | (simp; omega)) _)))⟩

/-- Put in behind whatever does not stand behind it. -/
theorem ins_sorted {f : Int} {out : List Ent} {e : Ent} {k : Nat} (hs : out.Pairwise (fun a b => ltE f b a = false)) (hk : k ≤ out.length) (h1 : ∀ j x, k ≤ j → out[j]? = some x → ltE f e x = true) (h2 : ∀ x, 0 < k → out[k - 1]? = some x → ltE f e x = false) :
    (out.take k ++ [e] ++ out.drop k).Pairwise (fun a b => ltE f b a = false) := by
  have tr : ∀ a b c : Ent, ltE f b a = false → ltE f c b = false → ltE f c a = false := fun a b c p q => by
    have := ltE_trans f a b c (by rw [p]; rfl) (by rw [q]; rfl)
    simpa using this
  have hT : ∀ x ∈ out.take k, ltE f e x = false := by
    intro x hx
    obtain ⟨j, hj⟩ := List.getElem?_of_mem hx
    have hjk : j < k := by have := (List.getElem?_eq_some_iff.1 hj).1; rw [List.length_take] at this; omega
    rw [List.getElem?_take_of_lt hjk] at hj
    obtain ⟨y, hy⟩ : ∃ y, out[k - 1]? = some y := ⟨_, List.getElem?_eq_getElem (by omega)⟩
    have h3 := h2 y (by omega) hy
    by_cases hjj : j = k - 1
    · subst hjj; rw [hy] at hj; injection hj with hj; subst hj; exact h3
    · have jl := (List.getElem?_eq_some_iff.1 hj)
      have yl := (List.getElem?_eq_some_iff.1 hy)
      have := List.pairwise_iff_getElem.1 hs j (k - 1) jl.1 yl.1 (by omega)
      rw [jl.2, yl.2] at this
      exact tr x y e this h3
  have hD : ∀ x ∈ out.drop k, ltE f x e = false := by
    intro x hx
    obtain ⟨j, hj⟩ := List.getElem?_of_mem hx
    rw [List.getElem?_drop] at hj
    have h3 := h1 (k + j) x (by omega) hj
    unfold ltE at *
    simp only [decide_eq_true_eq, decide_eq_false_iff_not] at *
    omega
  rw [List.append_assoc, List.pairwise_append]
  refine ⟨hs.sublist (List.take_sublist k out), ?_, fun a ha b hb => ?_⟩
  · rw [List.singleton_append, List.pairwise_cons]
    exact ⟨hD, hs.sublist (List.drop_sublist k out)⟩
  · rcases List.mem_cons.1 (by simpa using hb) with hb | hb
    · rw [hb]; exact hT a ha
    · exact tr a e b (hT a ha) (hD b hb)
theorem ins_perm {out : List Ent} {e : Ent} (k : Nat) : (out.take k ++ [e] ++ out.drop k).Perm (out ++ [e]) := by
  have h1 : (out.take k ++ [e] ++ out.drop k).Perm (out.take k ++ out.drop k ++ [e]) := by
    rw [List.append_assoc, List.append_assoc]
    exact (List.perm_append_comm (l₁ := [e]) (l₂ := out.drop k)).append_left _
  rwa [List.take_append_drop] at h1

/-- Where new entries lie. -/
abbrev From (base : Nat) (w : World) (b : Nat) : Prop := base ≤ b ∧ b < w.heap.size
/-- A slice's head and rest. -/
theorem EntsAt.head {w : World} {D : Nat → Prop} {A : Option Addr} {n cap : Nat} {l : List Ent} (h : EntsAt w D A n cap l) {k : Nat} (hk : k ≤ n) : EntsAt w D A k cap (l.take k) := by
  obtain ⟨h1, h2, h3⟩ := h
  refine ⟨by rw [List.length_take]; omega, by omega, fun hn => ?_⟩
  obtain ⟨b, off, rfl, hd, hc⟩ := h3 (by omega)
  refine ⟨b, off, rfl, hd, fun j e he => hc j e ?_⟩
  have hj : j < k := by have := (List.getElem?_eq_some_iff.1 he).1; rw [List.length_take] at this; omega
  rwa [List.getElem?_take_of_lt hj] at he
theorem EntsAt.rest {w : World} {D : Nat → Prop} {b off n cap : Nat} {l : List Ent} (h : EntsAt w D (some ⟨b, off, none⟩) n cap l) {k : Nat} (hk : k < n) : EntsAt w D (some ⟨b, off + k * 5, none⟩) (n - k) (cap - k) (l.drop k) := by
  obtain ⟨h1, h2, h3⟩ := h
  refine ⟨by rw [List.length_drop]; omega, by omega, fun hn => ?_⟩
  obtain ⟨b', off', he, hd, hc⟩ := h3 (by omega)
  injection he with he
  injection he with e1 e2
  subst e1 e2
  refine ⟨b, off + k * 5, rfl, hd, fun j e he => ?_⟩
  rw [List.getElem?_drop] at he
  obtain ⟨c, hcell, hent⟩ := hc (k + j) e he
  refine ⟨c, fun t u hu => ?_, hent⟩
  have := hcell t u hu
  rwa [show off + (k + j) * 5 + t = off + k * 5 + j * 5 + t by omega] at this
theorem Ints.imp' {w : World} {D D' : Nat → Prop} {k : IntKind} {bytes : Nat} {A : Option Addr} {n cap : Nat} {xs : List Int} (h : Ints w D k bytes A n cap xs) (hD : ∀ b, D b → D' b) : Ints w D' k bytes A n cap xs := h.move fun b hb _ => ⟨rfl, hD b hb⟩
theorem EntsAt.none {w : World} {D : Nat → Prop} (A : Option Addr) (cap : Nat) : EntsAt w D A 0 cap [] := ⟨rfl, by omega, fun h => by omega⟩

/-- Colours that part what was there from what is new. -/
def baseCol (B : Nat) : Col := fun k => if k < B then [9] else []
theorem base_new {B k : Nat} (h : B ≤ k) : baseCol B k = [] := if_neg (by omega)
theorem base_from {B : Nat} {w : World} {b : Nat} : Still (baseCol B) w b ↔ From B w b := by
  unfold Still From baseCol
  by_cases h : b < B
  · rw [if_pos h]; simp; omega
  · rw [if_neg h]; simp; omega
theorem base_below {B : Nat} {w w' : World} {c' : Col} (h : Stp (· = [8]) (baseCol B) w c' w') : Below w.heap.size w w' :=
  h.below (Nat.le_refl _) fun k _ hk => by unfold baseCol at hk; split at hk <;> cases hk
theorem base_row {B : Nat} {w w' : World} {c' : Col} {A : Option Addr} {n cap : Nat} {l : List Ent} (h : Stp (· = [8]) (baseCol B) w c' w') (hB : B ≤ w.heap.size) (hr : EntRow c' [8] w' (.slice A n cap) l) : EntsAt w' (From B w') A n cap l := by
  have hne : ∀ b, b < B → c' b = [9] := fun b hb => by rw [h.col b (by omega)]; exact if_pos hb
  obtain ⟨A', cap', hv, h1, h2, h3, h4⟩ := hr.shape
  injection hv with hA hn hc
  subst hA hn hc
  refine ⟨rfl, by omega, fun hn => ?_⟩
  cases A with
  | none => have := (h3 rfl).1; omega
  | some ad =>
    obtain ⟨g, rfl, hg, hlt⟩ := h4 ad rfl
    refine ⟨g, 0, rfl, ⟨?_, hlt⟩, fun j e he => ?_⟩
    · rcases Nat.lt_or_ge g B with hgb | hgb
      · rw [hne g hgb] at hg; cases hg
      · exact hgb
    · obtain ⟨m, hc, hm⟩ := hr.cells he
      refine ⟨m, fun t u hu => by rw [Nat.zero_add]; exact hc t u hu, hm.imp fun b hb => ⟨?_, hb.2⟩⟩
      rcases Nat.lt_or_ge b B with hgb | hgb
      · have h9 := hb.1
        rw [hne b hgb] at h9; cases h9
      · exact hgb
theorem Ints.step {C : List Int → Prop} {c c' : Col} {w w' : World} {k : IntKind} {bytes : Nat} {A : Option Addr} {n cap : Nat} {xs : List Int} (h : Ints w (Still c w) k bytes A n cap xs) (hs : Stp C c w c' w') (hC : ¬ C []) : Ints w' (Still c' w') k bytes A n cap xs :=
  h.move fun b hb hlt => ⟨hs.only.block b hlt (by show ¬ C (c b); rw [hb.1]; exact hC), (hs.col b hlt).trans hb.1, Nat.lt_of_lt_of_le hlt hs.only.size⟩
theorem EntNew.step {C : List Int → Prop} {c c' : Col} {w w' : World} {m : EntC} {e : Ent} (h : EntNew w (Still c w) m e) (hs : Stp C c w c' w') (hC : ¬ C []) : EntNew w' (Still c' w') m e :=
  h.move fun b hb hlt => ⟨hs.only.block b hlt (by show ¬ C (c b); rw [hb.1]; exact hC), (hs.col b hlt).trans hb.1, Nat.lt_of_lt_of_le hlt hs.only.size⟩
theorem step_append_entn {w : World} {c : Col} {π : List Int} {L N : List Ent} {ops : Array Oper} {o : Oper} {a : Act} {K : Act → World → Prop} {Q : Exit → Act → World → Prop} {E : Prop} (hgd : o.guard = none) (s x : Operand)
    (ho : o.op = .call { callee := .builtin .append, args := #[s, x], argTypes := #[23, 23] })
    (v : Value) (hs : a.eval s = v) (hrow : EntRow c π w v L) (hf : Fresh c w) (hπ : π ≠ []) (A : Option Addr) (m cp : Nat) (hx : a.eval x = .slice A m cp) (hN : EntsAt w (Still c w) A m cp N) (hA : A = none → m = 0 ∧ cp = 0) (tot : Nat) (ht : L.length + m = tot) (hlen : tot ≤ 1000000)
    (h : ∀ B cap w' c', Stp (· = π) c w c' w' → EntRow c' π w' (.slice B tot cap) (L ++ N) → K (a.put o.dst (.slice B tot cap)) w') :
    if Region.wanted o (yielded ops a.tmps) = true then Oper.wp Try.prog o a w K Q else E := by
  subst ht
  exact step_append_ent hgd s x ho v hs hrow hf hπ A m cp hx hN hA hlen h

/-- Where the document's Scan stands. -/
def Sorting (w : World) (f t : Int) (o : List Ent) (v : Value) (wr : World) : Prop :=
  ∃ A cap, v = .slice A o.length cap ∧ o.length ≤ cap ∧ cap ≤ 9223372036854775807 ∧ (o.length = 0 → A = none ∧ cap = 0) ∧ EntsAt wr (From w.heap.size wr) A o.length cap o ∧ Box wr w.heap.size #[.int .u32 f, .int .u32 t] ∧ Below w.heap.size w wr
theorem From.move {base : Nat} {w w' : World} {A : Option Addr} {n cap : Nat} {l : List Ent} (h : EntsAt w (From base w) A n cap l) (hb : Below w.heap.size w w') : EntsAt w' (From base w') A n cap l :=
  h.move fun b hd hlt => ⟨hb.block b hlt, hd.1, Nat.lt_of_lt_of_le hlt hb.size⟩
theorem From.down {base base' : Nat} {w w' : World} {A : Option Addr} {n cap : Nat} {l : List Ent} (h : EntsAt w (From base w) A n cap l) (hb : base' ≤ base) : EntsAt w (From base' w) A n cap l :=
  h.imp fun b hd => ⟨Nat.le_trans hb hd.1, hd.2⟩
theorem Sorting.later {w wr wr' : World} {f t : Int} {o : List Ent} {v : Value} (h : Sorting w f t o v wr) (hb : Below wr.heap.size wr wr') : Sorting w f t o v wr' := by
  obtain ⟨A, cap, q1, q2, q3, q4, q5, q6, q7⟩ := h
  exact ⟨A, cap, q1, q2, q3, q4, From.move q5 hb, q6.below hb q6.lt, below_from q7 hb q7.size⟩
theorem filter_snoc {L : List Ent} {i : Nat} {e : Ent} (p : Ent → Bool) (he : L[i]? = some e) : (L.take (i + 1)).filter p = (L.take i).filter p ++ if p e = true then [e] else [] := by
  rw [List.take_add_one, he, Option.toList_some, List.filter_append]
  cases h : p e <;> simp [h]

set_option maxHeartbeats 4000000 in
theorem ref_scan {c : Col} {π : List Int} {w : World} {b : Nat} {L : List Ent} (f t : Int) (h : RefR c π w b L) (hf : Fresh c w) (hL : L.length ≤ 10000) (hk : ShelfOk L) (huf : U32 f) :
    Calls Try.prog 48 #[.pointer (some ⟨b, 0, none⟩), .agg #[.int .u32 f, .int .u32 t]] w fun e w' => ∃ A cap, e = .returned (.slice A (scanL f t L).length cap) ∧ ((scanL f t L).length = 0 → A = none ∧ cap = 0) ∧ EntsAt w' (From w.heap.size w') A (scanL f t L).length cap (scanL f t L) ∧ Below w.heap.size w w' := by
  have H1 := Lib.hid (h.later hf (below_a1 w (.cells #[.int .u32 f, .int .u32 t] 57)))
  have X3 := Lib.hid (Box.new w #[.int .u32 f, .int .u32 t] 57)
  have HB3 := Lib.hid (below_a1 w (.cells #[.int .u32 f, .int .u32 t] 57))
  have hbw : b < w.heap.size := by obtain ⟨_, q, _⟩ := h; exact q.lt
  have HREF := Lib.hid h; have HF := Lib.hid hf; have HK := Lib.hid hk; have HUF := Lib.hid huf
  clear h hf hk huf
  go_enter Try.func48, Try.ntmps48
  go_wp2
  go_loopw [5, 6] (fun s5 s6 wr => ∃ (i : Nat) (o : List Ent), i ≤ L.length ∧ s6 = .int .i64 i ∧ Sorting w f t o s5 wr ∧ o.Perm ((L.take i).filter (hasE f t)) ∧ o.Pairwise (fun a b => ltE f b a = false)) (fun _ k _ => L.length - (intOf k).toNat)
  case atStart => exact ⟨0, [], by omega, rfl, ⟨none, 0, rfl, by simp, by omega, fun _ => ⟨rfl, rfl⟩, EntsAt.none _ _, X3.out, HB3.out⟩, by simp, List.Pairwise.nil⟩
  case round =>
    obtain ⟨i, o, hi, rfl, hS, hp, hs⟩ := hrel
    have HP := Lib.hid hp; have HS := Lib.hid hs; have HSo := Lib.hid hS
    obtain ⟨A, cap, rfl, q2, q3, q4, q5, q6, q7⟩ := hS
    have hol : o.length ≤ i := by
      have h1 := hp.length_eq
      have h2 := List.length_filter_le (hasE f t) (L.take i)
      have h3 : (L.take i).length ≤ i := by simp; omega
      omega
    obtain ⟨v, hb, hcb, hrow⟩ := HREF.out.later HF.out q7
    obtain ⟨AL, capL, rfl, r1, r2, r3, r4⟩ := hrow.shape
    have cb := hb.cell; have zb := hb.lt; have c3 := q6.cell; have z3 := q6.lt
    have HROW := Lib.hid hrow; have HBX := Lib.hid hb; have H4 := Lib.hid q4; have H5 := Lib.hid q5; have H6 := Lib.hid q6; have H7 := Lib.hid q7
    clear hp hs q4 q5 q6 q7 hb hcb hrow r3 r4
    by_cases hlt : i < L.length
    · obtain ⟨e, he⟩ : ∃ e, L[i]? = some e := ⟨_, List.getElem?_eq_getElem hlt⟩
      obtain ⟨g, rfl, _, zg⟩ := HROW.out.addr (by omega)
      obtain ⟨m, hm, hme⟩ := HROW.out.cells he
      have d0 := hm 0 _ rfl; have d1 := hm 1 _ rfl; have d2 := hm 2 _ rfl; have d3 := hm 3 _ rfl; have d4 := hm 4 _ rfl
      simp only [Nat.add_zero] at d0
      have HFS := Lib.hid (filter_snoc (hasE f t) he)
      have heok := HK.out.2 e (List.mem_of_getElem? he)
      obtain ⟨e1, e2, e3, e4, e5, e6⟩ := hme
      have HI := Lib.hid (e6.imp' (D' := fun k => k < wr.heap.size) fun k hk => hk.2)
      have HOK := Lib.hid e5
      obtain ⟨mx, mid, mver, ms, ml, mc, mg⟩ := m
      dsimp only at *
      subst e1 e2 e3 e4
      have HU := Lib.hid heok.1
      clear hm e5 e6 he heok
      cases hh : hasE f t e with
      | false =>
        have HH := Lib.hid (show hasF f t e.value = false from hh)
        have HFS2 := Lib.hid (show (L.take (i + 1)).filter (hasE f t) = (L.take i).filter (hasE f t) by rw [HFS.out, hh]; simp)
        clear hh
        go_wp2_with (go_at_call 87; go_loud ((with_reducible refine (rhas_any f t e.value _ HUF.out HU.out).mono ?_); rintro e9 w9 ⟨rfl, hb9⟩; rw [HH.out]; have HB9 := Lib.hid (below_from (below_a1 wr (.cells #[.int .u32 e.value, .int .u64 e.rc.id, .int .u64 e.rc.ver, .slice ms ml mc, .bool e.gone] 36)) hb9 (by rw [size_alloc]; omega)); clear hb9))
        go_roundw
        case rel => exact ⟨i + 1, o, by omega, by go_num, HSo.out.later HB9.out, by rw [HFS2.out]; exact HP.out, HS.out⟩
        case measure => simp [intOf]; omega
      | true =>
        have HH := Lib.hid (show hasF f t e.value = true from hh)
        have HFS2 := Lib.hid (show (L.take (i + 1)).filter (hasE f t) = (L.take i).filter (hasE f t) ++ [e] by rw [HFS.out, hh]; simp)
        clear hh
        go_wp2_with (go_at_call 87; go_loud ((with_reducible refine (rhas_any f t e.value _ HUF.out HU.out).mono ?_); rintro e9 w9 ⟨rfl, hb9⟩; rw [HH.out]; have X7 := Lib.hid ((Box.new wr #[.int .u32 e.value, .int .u64 e.rc.id, .int .u64 e.rc.ver, .slice ms ml mc, .bool e.gone] 36).below hb9 (by rw [size_alloc]; omega)); have HB9 := Lib.hid (below_from (below_a1 wr (.cells #[.int .u32 e.value, .int .u64 e.rc.id, .int .u64 e.rc.ver, .slice ms ml mc, .bool e.gone] 36)) hb9 (by rw [size_alloc]; omega)); clear hb9))
        have HS9 := Lib.hid (HSo.out.later HB9.out)
        have HI9 := Lib.hid ((HI.out.below HB9.out (fun _ h => h)).imp' (D' := fun k => k < w9.heap.size) (fun _ h => Nat.lt_of_lt_of_le h HB9.out.size))
        have hb7b : w.heap.size ≤ wr.heap.size := H7.out.size
        generalize hb7 : wr.heap.size = b7 at *
        clear d0 d1 d2 d3 d4 cb c3
        clear HSo H4 H5 H6 H7 HROW HBX HB9 hb7 zb z3 zg
        go_loopw [8] (fun s8 wq => ∃ k : Nat, k ≤ o.length ∧ s8 = .int .i64 k ∧ (∀ j x, k ≤ j → o[j]? = some x → ltE f e x = true) ∧ Below w9.heap.size w9 wq) (fun k _ => (intOf k).toNat)
        case atStart => exact ⟨o.length, by omega, rfl, fun j x hj hx => by have := (List.getElem?_eq_some_iff.1 hx).1; omega, Below.refl _ _⟩
        case round =>
          obtain ⟨k, hk, rfl, hafter, hBq⟩ := hrel
          have HA := Lib.hid hafter
          have HSq := Lib.hid (HS9.out.later hBq)
          have X7q := Lib.hid (X7.out.below hBq X7.out.lt)
          have HIq := Lib.hid ((HI9.out.below hBq (fun _ h => h)).imp' (D' := fun k => k < wr.heap.size) (fun _ h => Nat.lt_of_lt_of_le h hBq.size))
          have HBq := Lib.hid hBq
          clear hafter hBq
          obtain ⟨A, cap, hAv, q2, q3, q4, q5, q6, q7⟩ := HSq.out
          have c3 := q6.cell; have z3 := q6.lt; have c7 := X7q.out.cell; have z7 := X7q.out.lt
          have HAv := Lib.hid hAv; have H4 := Lib.hid q4; have H5 := Lib.hid q5; have H6 := Lib.hid q6; have H7 := Lib.hid q7
          injection hAv with e1 _ e3
          subst e1 e3
          clear q4 q5 q6 q7 HAv
          by_cases h0 : k = 0
          · have g1 : decide (0 < (k : Int)) = false := by simp; omega
            have g2 : decide (0 < k) = false := by simp; omega
            have HK0 := Lib.hid h0
            clear h0
            go_upto_region 8 with fail
            go_quiet (fail)
            go_upto_region 10 with fail
            by_cases ho0 : o.length = 0
            · obtain ⟨rfl, hcap0⟩ := H4.out ho0
              have HB7 := Lib.hid hb7b
              have HO0 := Lib.hid ho0; have HC0 := Lib.hid hcap0
              have HSTOP := Lib.hid (show ∀ x, 0 < k → o[k - 1]? = some x → ltE f e x = false from fun x h => by have := HK0.out; omega)
              have hk3 : k ≤ cap := by have := HK0.out; omega
              clear ho0 hcap0
              refine wp_abs (fun wy => Same wr wy) (show Same wr _ by (first | assumption | exact Same.drew' (by assumption) | exact Same.of (belowN (Below.refl _ _) _))) ?_
              intro wy SY
              have EY0 : EntsAt wy (From w.heap.size wy) none o.length cap o := From.move H5.out SY.1
              have EY : EntsAt wy.drew (Still (baseCol w.heap.size) wy.drew) none o.length cap o := (show EntsAt wy.drew (From w.heap.size wy.drew) none o.length cap o from EY0).imp fun b hb => base_from.2 hb
              have LY := below_from H7.out SY.1 H7.out.size
              have IY := Lib.hid (show Ints wy.drew (fun k => k < wy.drew.heap.size) .u32 4 ms ml mc e.rc.vals from (HIq.out.below SY.1 (fun _ h => h)).imp' fun k hk => Nat.lt_of_lt_of_le hk SY.1.size)
              have XY := Lib.hid (show Box wy.drew b7 #[.int .u32 e.value, .int .u64 e.rc.id, .int .u64 e.rc.ver, .slice ms ml mc, .bool e.gone] from (X7q.out.below SY.1 X7q.out.lt : Box wy b7 #[.int .u32 e.value, .int .u64 e.rc.id, .int .u64 e.rc.ver, .slice ms ml mc, .bool e.gone]))
              have c7 := XY.out.cell
              have hb7w : w.heap.size ≤ b7 := HB7.out
              have N1 := Lib.hid (EY.head hk)
              have hkz : k = 0 := HK0.out
              have A3 : Unit := ()
              have HN3 := Lib.hid (show (none : Option Addr) = none → o.length - k = 0 ∧ cap - k = 0 from fun _ => by have := HK0.out; have := HO0.out; have := HC0.out; omega)
              have N3 := Lib.hid (show EntsAt wy.drew (Still (baseCol w.heap.size) wy.drew) none (o.length - k) (cap - k) (o.drop k) by
                rw [show o.length - k = 0 by have := HO0.out; omega, List.drop_eq_nil_of_le (by have := HO0.out; omega)]; exact EntsAt.none _ _)
              clear hkz
              have HLY := Lib.hid LY
              have HSY := Lib.hid SY
              have SC0 := Lib.hid (show Stp (· = [8]) (baseCol w.heap.size) wy.drew (baseCol w.heap.size) wy.drew from Stp.refl _ (fun k hk => base_new (Nat.le_trans LY.size hk)))
              clear LY SY EY EY0
              have hk2 : k ≤ cap := by omega
              have n8 : ¬ ([] : List Int) = [8] := by simp
              go_region_law (first
                | (refine step_append_entn rfl _ _ rfl (.slice none 0 0) rfl (EntRow.nil _ [8] ww) SC.out.fresh (by simp) none k cap rfl (N1.out.step SC.out n8) (fun _ => by have := HK0.out; have := HC0.out; omega) k (Nat.zero_add _) (by omega) ?_; intro B5 cap5 ww c5 st5 er5; have SC := Lib.hid (SC.out.trans st5); have ER := Lib.hid er5; have X9 := XY.out.only SC.out.only (by show ¬ baseCol w.heap.size b7 = [8]; rw [base_new hb7w]; exact n8); have c7 := X9.cell)
                | (refine step_append_entn rfl _ _ rfl (.slice none 0 0) rfl (EntRow.nil _ [8] (ww.alloc (.cells #[.int .u32 e.value, .int .u64 e.rc.id, .int .u64 e.rc.ver, .slice B1 n1 c1, .bool e.gone] 36))) (SC.out.trans (Stp.of_below _ SC.out.fresh (below_a1 ww (.cells #[.int .u32 e.value, .int .u64 e.rc.id, .int .u64 e.rc.ver, .slice B1 n1 c1, .bool e.gone] 36)))).fresh (by simp) none k cap rfl (N1.out.step (SC.out.trans (Stp.of_below _ SC.out.fresh (below_a1 ww (.cells #[.int .u32 e.value, .int .u64 e.rc.id, .int .u64 e.rc.ver, .slice B1 n1 c1, .bool e.gone] 36)))) n8) (fun _ => by have := HK0.out; have := HC0.out; omega) k (Nat.zero_add _) (by omega) ?_; have BX := Lib.hid (Box.new ww #[.int .u32 e.value, .int .u64 e.rc.id, .int .u64 e.rc.ver, .slice B1 n1 c1, .bool e.gone] 36); obtain ⟨nb, hnb⟩ : ∃ nb, nb = ww.heap.size := ⟨_, rfl⟩; have HNB := Lib.hid hnb; have HF9 := Lib.hid (SC.out.fresh ww.heap.size (Nat.le_refl _)); have NI := Lib.hid (NI.out.step (C := (· = [8])) (Stp.of_below _ SC.out.fresh (below_a1 ww (.cells #[.int .u32 e.value, .int .u64 e.rc.id, .int .u64 e.rc.ver, .slice B1 n1 c1, .bool e.gone] 36))) n8); have SC := Lib.hid (SC.out.trans (Stp.of_below _ SC.out.fresh (below_a1 ww (.cells #[.int .u32 e.value, .int .u64 e.rc.id, .int .u64 e.rc.ver, .slice B1 n1 c1, .bool e.gone] 36)))); intro B5 cap5 ww c5 st5 er5; have NI := Lib.hid (NI.out.step st5 n8); have BX := Lib.hid (BX.out.only st5.only (by rw [HF9.out]; exact n8)); have HF9 := Lib.hid ((st5.col _ (Box.new _ _ _).lt).trans HF9.out); have SC := Lib.hid (SC.out.trans st5); have ER := Lib.hid er5)
                | (refine step_append_entn rfl _ _ rfl (.slice B5 k cap5) rfl (ER.out.later SC.out.fresh (below_a1 ww (.cells #[.int .u32 e.value, .int .u64 e.rc.id, .int .u64 e.rc.ver, .slice B1 n1 c1, .bool e.gone] 36))) (SC.out.trans (Stp.of_below _ SC.out.fresh (below_a1 ww (.cells #[.int .u32 e.value, .int .u64 e.rc.id, .int .u64 e.rc.ver, .slice B1 n1 c1, .bool e.gone] 36)))).fresh (by simp) (some ⟨ww.heap.size, 0, none⟩) 1 1 rfl (ents_one (e := e) (m := ⟨e.value, e.rc.id, e.rc.ver, B1, n1, c1, e.gone⟩) (Box.new _ _ _) (SC.out.fresh _ (Nat.le_refl _)) (NI.out.step (C := (· = [8])) (Stp.of_below _ SC.out.fresh (below_a1 ww (.cells #[.int .u32 e.value, .int .u64 e.rc.id, .int .u64 e.rc.ver, .slice B1 n1 c1, .bool e.gone] 36))) n8)) (fun h => by cases h) (k + 1) (by simp; omega) (by omega) ?_; intro B6 cap6 w6 c6 st6 er6; have SC := Lib.hid ((SC.out.trans (Stp.of_below _ SC.out.fresh (below_a1 ww (.cells #[.int .u32 e.value, .int .u64 e.rc.id, .int .u64 e.rc.ver, .slice B1 n1 c1, .bool e.gone] 36)))).trans st6); have ES := Lib.hid er6)
                | (refine step_append_entn rfl _ _ rfl (.slice B5 k cap5) rfl ER.out SC.out.fresh (by simp) _ 1 1 rfl (ents_one (e := e) (m := ⟨e.value, e.rc.id, e.rc.ver, B1, n1, c1, e.gone⟩) BX.out HF9.out NI.out) (fun h => by cases h) (k + 1) (by simp; omega) (by omega) ?_; intro B6 cap6 w6 c6 st6 er6; have SC := Lib.hid (SC.out.trans st6); have ES := Lib.hid er6)
                | (refine step_append_entn rfl _ _ rfl (.slice B6 (k + 1) cap6) rfl ES.out SC.out.fresh (by simp) none (o.length - k) (cap - k) rfl (N3.out.step SC.out n8) HN3.out (o.length + 1) (by simp; omega) (by omega) ?_; intro B7 cap7 w7 c7' st7 er7; have SC := Lib.hid (SC.out.trans st7); have ET := Lib.hid er7)
                | (go_simp; go_at_call 42; refine (hentry_any e.value e.rc.id e.rc.ver e.gone ww ((IY.out.below (base_below SC.out) (fun _ h => h))) (fun k hk => Nat.lt_of_lt_of_le hk (base_below SC.out).size)).mono ?_; rintro e3 w1 hn; obtain ⟨v1, rfl, ⟨B1, n1, c1, rfl, hi1⟩, hb1⟩ := hn; (try have ER := Lib.hid (ER.out.later SC.out.fresh hb1)); have NI := Lib.hid (show EntNew w1 (Still _ w1) ⟨e.value, e.rc.id, e.rc.ver, B1, n1, c1, e.gone⟩ e from ⟨rfl, rfl, rfl, rfl, HOK.out, hi1.move fun k hk hlt => ⟨rfl, SC.out.fresh k hk, hlt⟩⟩); have SC := Lib.hid (SC.out.trans (Stp.of_below _ SC.out.fresh hb1)); obtain ⟨ww, rfl⟩ : ∃ ww, ww = w1 := ⟨_, rfl⟩)
                | (refine step_append_entn rfl _ _ rfl (.slice none 0 0) rfl (EntRow.nil (baseCol w.heap.size) [8] wy.drew) SC0.out.fresh (by simp) none k cap rfl N1.out (fun _ => by have := HK0.out; have := HC0.out; omega) k (Nat.zero_add _) (by omega) ?_; intro B5 cap5 ww c5 st5 er5; have SC := Lib.hid st5; have ER := Lib.hid er5; have X9 := XY.out.only st5.only (by show ¬ baseCol w.heap.size b7 = [8]; rw [base_new hb7w]; exact n8); have c7 := X9.cell)
                | (go_simp; go_at_call 42; refine (hentry_any e.value e.rc.id e.rc.ver e.gone wy.drew IY.out (fun k hk => hk)).mono ?_; rintro e3 w1 hn; obtain ⟨v1, rfl, ⟨B1, n1, c1, rfl, hi1⟩, hb1⟩ := hn; have NI := Lib.hid (show EntNew w1 (Still (baseCol w.heap.size) w1) ⟨e.value, e.rc.id, e.rc.ver, B1, n1, c1, e.gone⟩ e from ⟨rfl, rfl, rfl, rfl, HOK.out, hi1.move fun k hk hlt => ⟨rfl, SC0.out.fresh k hk, hlt⟩⟩); have SC := Lib.hid (SC0.out.trans (Stp.of_below _ SC0.out.fresh hb1)); obtain ⟨ww, rfl⟩ : ∃ ww, ww = w1 := ⟨_, rfl⟩))
              all_goals
                have R : EntRow _ [8] w7 (.slice B7 (o.length + 1) cap7) (o.take k ++ [e] ++ o.drop k) := ET.out
                have bel := base_below SC.out
                have lw := below_from (Same.drew wy).1 bel (Nat.le_refl _)
                have hlen : (o.take k ++ [e] ++ o.drop k).length = o.length + 1 := by simp; omega
                obtain ⟨_, _, hv9, g1, g2, _⟩ := R.shape
                injection hv9 with hb9 hv9 hc9
                have srt : Sorting w f t (o.take k ++ [e] ++ o.drop k) (.slice B7 (o.length + 1) cap7) w7 := ⟨B7, cap7, by rw [hlen], by rw [hc9]; exact g1, by rw [hc9]; exact g2, fun h => by omega, by rw [hlen]; exact base_row SC.out HLY.out.size R, (H6.out.below HSY.out.1 z3).below lw (Nat.lt_of_lt_of_le z3 HSY.out.1.size), below_from HLY.out lw HLY.out.size⟩
                have HSRT := Lib.hid srt
                have HPM := Lib.hid (show (o.take k ++ [e] ++ o.drop k).Perm ((L.take (i + 1)).filter (hasE f t)) by rw [HFS2.out]; exact (ins_perm k).trans (HP.out.append_right _))
                have HIS := Lib.hid (ins_sorted HS.out hk HA.out HSTOP.out)
                clear srt lw bel R hlen hb9 hv9 hc9 g1 g2
                go_wp2
                go_roundw
                case rel => exact ⟨i + 1, _, by omega, by go_num, HSRT.out, HPM.out, HIS.out⟩
                case measure => simp [intOf]; omega
            · obtain ⟨_, _, hrow⟩ := H5.out
              obtain ⟨ob, oo, rfl, hob, _⟩ := hrow (by omega)
              have HB7 := Lib.hid hb7b
              have HSTOP := Lib.hid (show ∀ x, 0 < k → o[k - 1]? = some x → ltE f e x = false from fun x h => by have := HK0.out; omega)
              clear hob hrow
              refine wp_abs (fun wy => Same wr wy) (show Same wr _ by (first | assumption | exact Same.drew' (by assumption) | exact Same.of (belowN (Below.refl _ _) _))) ?_
              intro wy SY
              have EY0 : EntsAt wy (From w.heap.size wy) (some ⟨ob, oo, none⟩) o.length cap o := From.move H5.out SY.1
              have EY : EntsAt wy.drew (Still (baseCol w.heap.size) wy.drew) (some ⟨ob, oo, none⟩) o.length cap o := (show EntsAt wy.drew (From w.heap.size wy.drew) (some ⟨ob, oo, none⟩) o.length cap o from EY0).imp fun b hb => base_from.2 hb
              have LY := below_from H7.out SY.1 H7.out.size
              have IY := Lib.hid (show Ints wy.drew (fun k => k < wy.drew.heap.size) .u32 4 ms ml mc e.rc.vals from (HIq.out.below SY.1 (fun _ h => h)).imp' fun k hk => Nat.lt_of_lt_of_le hk SY.1.size)
              have XY := Lib.hid (show Box wy.drew b7 #[.int .u32 e.value, .int .u64 e.rc.id, .int .u64 e.rc.ver, .slice ms ml mc, .bool e.gone] from (X7q.out.below SY.1 X7q.out.lt : Box wy b7 #[.int .u32 e.value, .int .u64 e.rc.id, .int .u64 e.rc.ver, .slice ms ml mc, .bool e.gone]))
              have c7 := XY.out.cell
              have hb7w : w.heap.size ≤ b7 := HB7.out
              have N1 := Lib.hid (EY.head hk)
              obtain ⟨A3, hA3⟩ : ∃ A3 : Option Addr, (if cap = k then some (⟨ob, oo, none⟩ : Addr) else some ⟨ob, oo + k * 5, none⟩) = A3 := ⟨_, rfl⟩
              have HN3 := Lib.hid (show A3 = none → o.length - k = 0 ∧ cap - k = 0 by rw [← hA3]; split <;> (intro h; cases h))
              have N3 := Lib.hid (show EntsAt wy.drew (Still (baseCol w.heap.size) wy.drew) A3 (o.length - k) (cap - k) (o.drop k) by
                by_cases hkn : k < o.length
                · rw [← hA3, if_neg (by omega)]; exact EY.rest hkn
                · rw [show o.length - k = 0 by omega, List.drop_eq_nil_of_le (by omega)]; exact EntsAt.none _ _)
              have HLY := Lib.hid LY
              have HSY := Lib.hid SY
              have SC0 := Lib.hid (show Stp (· = [8]) (baseCol w.heap.size) wy.drew (baseCol w.heap.size) wy.drew from Stp.refl _ (fun k hk => base_new (Nat.le_trans LY.size hk)))
              clear LY SY EY EY0
              have hk2 : k ≤ cap := by omega
              have n8 : ¬ ([] : List Int) = [8] := by simp
              go_region_law (first
                | (refine step_append_entn rfl _ _ rfl (.slice none 0 0) rfl (EntRow.nil _ [8] ww) SC.out.fresh (by simp) (some ⟨ob, oo, none⟩) k cap rfl (N1.out.step SC.out n8) (fun h => by cases h) k (Nat.zero_add _) (by omega) ?_; intro B5 cap5 ww c5 st5 er5; have SC := Lib.hid (SC.out.trans st5); have ER := Lib.hid er5; have X9 := XY.out.only SC.out.only (by show ¬ baseCol w.heap.size b7 = [8]; rw [base_new hb7w]; exact n8); have c7 := X9.cell)
                | (refine step_append_entn rfl _ _ rfl (.slice none 0 0) rfl (EntRow.nil _ [8] (ww.alloc (.cells #[.int .u32 e.value, .int .u64 e.rc.id, .int .u64 e.rc.ver, .slice B1 n1 c1, .bool e.gone] 36))) (SC.out.trans (Stp.of_below _ SC.out.fresh (below_a1 ww (.cells #[.int .u32 e.value, .int .u64 e.rc.id, .int .u64 e.rc.ver, .slice B1 n1 c1, .bool e.gone] 36)))).fresh (by simp) (some ⟨ob, oo, none⟩) k cap rfl (N1.out.step (SC.out.trans (Stp.of_below _ SC.out.fresh (below_a1 ww (.cells #[.int .u32 e.value, .int .u64 e.rc.id, .int .u64 e.rc.ver, .slice B1 n1 c1, .bool e.gone] 36)))) n8) (fun h => by cases h) k (Nat.zero_add _) (by omega) ?_; have BX := Lib.hid (Box.new ww #[.int .u32 e.value, .int .u64 e.rc.id, .int .u64 e.rc.ver, .slice B1 n1 c1, .bool e.gone] 36); obtain ⟨nb, hnb⟩ : ∃ nb, nb = ww.heap.size := ⟨_, rfl⟩; have HNB := Lib.hid hnb; have HF9 := Lib.hid (SC.out.fresh ww.heap.size (Nat.le_refl _)); have NI := Lib.hid (NI.out.step (C := (· = [8])) (Stp.of_below _ SC.out.fresh (below_a1 ww (.cells #[.int .u32 e.value, .int .u64 e.rc.id, .int .u64 e.rc.ver, .slice B1 n1 c1, .bool e.gone] 36))) n8); have SC := Lib.hid (SC.out.trans (Stp.of_below _ SC.out.fresh (below_a1 ww (.cells #[.int .u32 e.value, .int .u64 e.rc.id, .int .u64 e.rc.ver, .slice B1 n1 c1, .bool e.gone] 36)))); intro B5 cap5 ww c5 st5 er5; have NI := Lib.hid (NI.out.step st5 n8); have BX := Lib.hid (BX.out.only st5.only (by rw [HF9.out]; exact n8)); have HF9 := Lib.hid ((st5.col _ (Box.new _ _ _).lt).trans HF9.out); have SC := Lib.hid (SC.out.trans st5); have ER := Lib.hid er5)
                | (refine step_append_entn rfl _ _ rfl (.slice B5 k cap5) rfl (ER.out.later SC.out.fresh (below_a1 ww (.cells #[.int .u32 e.value, .int .u64 e.rc.id, .int .u64 e.rc.ver, .slice B1 n1 c1, .bool e.gone] 36))) (SC.out.trans (Stp.of_below _ SC.out.fresh (below_a1 ww (.cells #[.int .u32 e.value, .int .u64 e.rc.id, .int .u64 e.rc.ver, .slice B1 n1 c1, .bool e.gone] 36)))).fresh (by simp) (some ⟨ww.heap.size, 0, none⟩) 1 1 rfl (ents_one (e := e) (m := ⟨e.value, e.rc.id, e.rc.ver, B1, n1, c1, e.gone⟩) (Box.new _ _ _) (SC.out.fresh _ (Nat.le_refl _)) (NI.out.step (C := (· = [8])) (Stp.of_below _ SC.out.fresh (below_a1 ww (.cells #[.int .u32 e.value, .int .u64 e.rc.id, .int .u64 e.rc.ver, .slice B1 n1 c1, .bool e.gone] 36))) n8)) (fun h => by cases h) (k + 1) (by simp; omega) (by omega) ?_; intro B6 cap6 w6 c6 st6 er6; have SC := Lib.hid ((SC.out.trans (Stp.of_below _ SC.out.fresh (below_a1 ww (.cells #[.int .u32 e.value, .int .u64 e.rc.id, .int .u64 e.rc.ver, .slice B1 n1 c1, .bool e.gone] 36)))).trans st6); have ES := Lib.hid er6)
                | (refine step_append_entn rfl _ _ rfl (.slice B5 k cap5) rfl ER.out SC.out.fresh (by simp) _ 1 1 rfl (ents_one (e := e) (m := ⟨e.value, e.rc.id, e.rc.ver, B1, n1, c1, e.gone⟩) BX.out HF9.out NI.out) (fun h => by cases h) (k + 1) (by simp; omega) (by omega) ?_; intro B6 cap6 w6 c6 st6 er6; have SC := Lib.hid (SC.out.trans st6); have ES := Lib.hid er6)
                | (refine step_append_entn rfl _ _ rfl (.slice B6 (k + 1) cap6) rfl ES.out SC.out.fresh (by simp) A3 (o.length - k) (cap - k) rfl (N3.out.step SC.out n8) HN3.out (o.length + 1) (by simp; omega) (by omega) ?_; intro B7 cap7 w7 c7' st7 er7; have SC := Lib.hid (SC.out.trans st7); have ET := Lib.hid er7)
                | (go_simp; go_at_call 42; refine (hentry_any e.value e.rc.id e.rc.ver e.gone ww ((IY.out.below (base_below SC.out) (fun _ h => h))) (fun k hk => Nat.lt_of_lt_of_le hk (base_below SC.out).size)).mono ?_; rintro e3 w1 hn; obtain ⟨v1, rfl, ⟨B1, n1, c1, rfl, hi1⟩, hb1⟩ := hn; (try have ER := Lib.hid (ER.out.later SC.out.fresh hb1)); have NI := Lib.hid (show EntNew w1 (Still _ w1) ⟨e.value, e.rc.id, e.rc.ver, B1, n1, c1, e.gone⟩ e from ⟨rfl, rfl, rfl, rfl, HOK.out, hi1.move fun k hk hlt => ⟨rfl, SC.out.fresh k hk, hlt⟩⟩); have SC := Lib.hid (SC.out.trans (Stp.of_below _ SC.out.fresh hb1)); obtain ⟨ww, rfl⟩ : ∃ ww, ww = w1 := ⟨_, rfl⟩)
                | (refine step_append_entn rfl _ _ rfl (.slice none 0 0) rfl (EntRow.nil (baseCol w.heap.size) [8] wy.drew) SC0.out.fresh (by simp) (some ⟨ob, oo, none⟩) k cap rfl N1.out (fun h => by cases h) k (Nat.zero_add _) (by omega) ?_; intro B5 cap5 ww c5 st5 er5; have SC := Lib.hid st5; have ER := Lib.hid er5; have X9 := XY.out.only st5.only (by show ¬ baseCol w.heap.size b7 = [8]; rw [base_new hb7w]; exact n8); have c7 := X9.cell)
                | (go_simp; go_at_call 42; refine (hentry_any e.value e.rc.id e.rc.ver e.gone wy.drew IY.out (fun k hk => hk)).mono ?_; rintro e3 w1 hn; obtain ⟨v1, rfl, ⟨B1, n1, c1, rfl, hi1⟩, hb1⟩ := hn; have NI := Lib.hid (show EntNew w1 (Still (baseCol w.heap.size) w1) ⟨e.value, e.rc.id, e.rc.ver, B1, n1, c1, e.gone⟩ e from ⟨rfl, rfl, rfl, rfl, HOK.out, hi1.move fun k hk hlt => ⟨rfl, SC0.out.fresh k hk, hlt⟩⟩); have SC := Lib.hid (SC0.out.trans (Stp.of_below _ SC0.out.fresh hb1)); obtain ⟨ww, rfl⟩ : ∃ ww, ww = w1 := ⟨_, rfl⟩))
              all_goals
                have R : EntRow _ [8] w7 (.slice B7 (o.length + 1) cap7) (o.take k ++ [e] ++ o.drop k) := ET.out
                have bel := base_below SC.out
                have lw := below_from (Same.drew wy).1 bel (Nat.le_refl _)
                have hlen : (o.take k ++ [e] ++ o.drop k).length = o.length + 1 := by simp; omega
                obtain ⟨_, _, hv9, g1, g2, _⟩ := R.shape
                injection hv9 with hb9 hv9 hc9
                have srt : Sorting w f t (o.take k ++ [e] ++ o.drop k) (.slice B7 (o.length + 1) cap7) w7 := ⟨B7, cap7, by rw [hlen], by rw [hc9]; exact g1, by rw [hc9]; exact g2, fun h => by omega, by rw [hlen]; exact base_row SC.out HLY.out.size R, (H6.out.below HSY.out.1 z3).below lw (Nat.lt_of_lt_of_le z3 HSY.out.1.size), below_from HLY.out lw HLY.out.size⟩
                have HSRT := Lib.hid srt
                have HPM := Lib.hid (show (o.take k ++ [e] ++ o.drop k).Perm ((L.take (i + 1)).filter (hasE f t)) by rw [HFS2.out]; exact (ins_perm k).trans (HP.out.append_right _))
                have HIS := Lib.hid (ins_sorted HS.out hk HA.out HSTOP.out)
                clear srt lw bel R hlen hb9 hv9 hc9 g1 g2
                go_wp2
                go_roundw
                case rel => exact ⟨i + 1, _, by omega, by go_num, HSRT.out, HPM.out, HIS.out⟩
                case measure => simp [intOf]; omega
          · obtain ⟨x, hx⟩ : ∃ x, o[k - 1]? = some x := ⟨_, List.getElem?_eq_getElem (by omega)⟩
            obtain ⟨_, _, hrow⟩ := H5.out
            obtain ⟨ob, oo, rfl, hob, hcc⟩ := hrow (by omega)
            obtain ⟨m, hm, hme⟩ := hcc (k - 1) x hx
            have d0 := hm 0 _ rfl; have d1 := hm 1 _ rfl; have d2 := hm 2 _ rfl; have d3 := hm 3 _ rfl; have d4 := hm 4 _ rfl
            simp only [Nat.add_zero] at d0
            have HAH := Lib.hid (fun w' => ahead_any f e.value e.rc.id e.rc.ver ms ml mc e.gone m.x m.id m.ver m.s m.l m.c m.g w')
            have HAE := Lib.hid (show decide (stpF f e.value < stpF f m.x ∨ (stpF f e.value = stpF f m.x ∧ e.rc.id < m.id)) = ltE f e x by rw [hme.1, hme.2.1]; rfl)
            have w1 : IntKind.i64.wrap ((k : Int) - 1) = ((k - 1 : Nat) : Int) := by rw [show ((k : Int) - 1) = ((k - 1 : Nat) : Int) by omega]; exact IntWalk.i64_in _ (by omega)
            have hk1 : ((k - 1 : Nat) : Int) < (o.length : Int) := by omega
            have hk0 : 0 < k := by omega
            have g1 : decide (0 < (k : Int)) = true := by simp; omega
            have HX := Lib.hid hx
            have zob : ob < wr.heap.size := hob.2
            clear hm hme hcc hrow hob hx
            have S0 := Same.refl wr
            go_upto_region 8 with fail
            go_region_held3 (fun w' => Same wr w') (with_reducible (first | assumption | exact Same.drew _))
              ((go_at_call 88; (with_reducible refine (HAH.out _).mono ?_); rintro e8 w8 ⟨rfl, hb8⟩; rw [HAE.out]; have S1 := Same.step (show Same wr _ by (with_reducible (first | assumption | exact Same.drew _))) hb8; clear hb8))
            all_goals
              cases hlx : ltE f e x with
              | true =>
                have HNX := Lib.hid (show ∀ j y, k - 1 ≤ j → o[j]? = some y → ltE f e y = true from fun j y hj hy => by
                  by_cases hjk : j = k - 1
                  · subst hjk; rw [HX.out] at hy; injection hy with hy; rw [← hy]; exact hlx
                  · exact HA.out j y (by omega) hy)
                go_wp2
                go_roundw
                case rel => exact ⟨k - 1, by omega, by first | rfl | (rw [w1]) | go_num, HNX.out, below_from HBq.out (show Same wr _ by (first | assumption | exact Same.drew' (by assumption))).1 HBq.out.size⟩
                case measure => simp [intOf]; omega
              | false =>
                have HB7 := Lib.hid hb7b
                have HSTOP := Lib.hid (show ∀ y, 0 < k → o[k - 1]? = some y → ltE f e y = false from fun y _ hy => by rw [HX.out] at hy; injection hy with hy; rw [← hy]; exact hlx)
                clear hlx d0 d1 d2 d3 d4 w1 hk1
                go_upto_region 10 with fail
                refine wp_abs (fun wy => Same wr wy) (show Same wr _ by (first | assumption | exact Same.drew' (by assumption) | exact Same.of (belowN (Below.refl _ _) _))) ?_
                intro wy SY
                have EY0 : EntsAt wy (From w.heap.size wy) (some ⟨ob, oo, none⟩) o.length cap o := From.move H5.out SY.1
                have EY : EntsAt wy.drew (Still (baseCol w.heap.size) wy.drew) (some ⟨ob, oo, none⟩) o.length cap o := (show EntsAt wy.drew (From w.heap.size wy.drew) (some ⟨ob, oo, none⟩) o.length cap o from EY0).imp fun b hb => base_from.2 hb
                have LY := below_from H7.out SY.1 H7.out.size
                have IY := Lib.hid (show Ints wy.drew (fun k => k < wy.drew.heap.size) .u32 4 ms ml mc e.rc.vals from (HIq.out.below SY.1 (fun _ h => h)).imp' fun k hk => Nat.lt_of_lt_of_le hk SY.1.size)
                have XY := Lib.hid (show Box wy.drew b7 #[.int .u32 e.value, .int .u64 e.rc.id, .int .u64 e.rc.ver, .slice ms ml mc, .bool e.gone] from (X7q.out.below SY.1 X7q.out.lt : Box wy b7 #[.int .u32 e.value, .int .u64 e.rc.id, .int .u64 e.rc.ver, .slice ms ml mc, .bool e.gone]))
                have c7 := XY.out.cell
                have hb7w : w.heap.size ≤ b7 := HB7.out
                have N1 := Lib.hid (EY.head hk)
                obtain ⟨A3, hA3⟩ : ∃ A3 : Option Addr, (if cap = k then some (⟨ob, oo, none⟩ : Addr) else some ⟨ob, oo + k * 5, none⟩) = A3 := ⟨_, rfl⟩
                have HN3 := Lib.hid (show A3 = none → o.length - k = 0 ∧ cap - k = 0 by rw [← hA3]; split <;> (intro h; cases h))
                have N3 := Lib.hid (show EntsAt wy.drew (Still (baseCol w.heap.size) wy.drew) A3 (o.length - k) (cap - k) (o.drop k) by
                  by_cases hkn : k < o.length
                  · rw [← hA3, if_neg (by omega)]; exact EY.rest hkn
                  · rw [show o.length - k = 0 by omega, List.drop_eq_nil_of_le (by omega)]; exact EntsAt.none _ _)
                have HLY := Lib.hid LY
                have HSY := Lib.hid SY
                have SC0 := Lib.hid (show Stp (· = [8]) (baseCol w.heap.size) wy.drew (baseCol w.heap.size) wy.drew from Stp.refl _ (fun k hk => base_new (Nat.le_trans LY.size hk)))
                clear LY SY EY EY0
                have hk2 : k ≤ cap := by omega
                have n8 : ¬ ([] : List Int) = [8] := by simp
                go_region_law (first
                  | (refine step_append_entn rfl _ _ rfl (.slice none 0 0) rfl (EntRow.nil _ [8] ww) SC.out.fresh (by simp) (some ⟨ob, oo, none⟩) k cap rfl (N1.out.step SC.out n8) (fun h => by cases h) k (Nat.zero_add _) (by omega) ?_; intro B5 cap5 ww c5 st5 er5; have SC := Lib.hid (SC.out.trans st5); have ER := Lib.hid er5; have X9 := XY.out.only SC.out.only (by show ¬ baseCol w.heap.size b7 = [8]; rw [base_new hb7w]; exact n8); have c7 := X9.cell)
                  | (refine step_append_entn rfl _ _ rfl (.slice none 0 0) rfl (EntRow.nil _ [8] (ww.alloc (.cells #[.int .u32 e.value, .int .u64 e.rc.id, .int .u64 e.rc.ver, .slice B1 n1 c1, .bool e.gone] 36))) (SC.out.trans (Stp.of_below _ SC.out.fresh (below_a1 ww (.cells #[.int .u32 e.value, .int .u64 e.rc.id, .int .u64 e.rc.ver, .slice B1 n1 c1, .bool e.gone] 36)))).fresh (by simp) (some ⟨ob, oo, none⟩) k cap rfl (N1.out.step (SC.out.trans (Stp.of_below _ SC.out.fresh (below_a1 ww (.cells #[.int .u32 e.value, .int .u64 e.rc.id, .int .u64 e.rc.ver, .slice B1 n1 c1, .bool e.gone] 36)))) n8) (fun h => by cases h) k (Nat.zero_add _) (by omega) ?_; have BX := Lib.hid (Box.new ww #[.int .u32 e.value, .int .u64 e.rc.id, .int .u64 e.rc.ver, .slice B1 n1 c1, .bool e.gone] 36); obtain ⟨nb, hnb⟩ : ∃ nb, nb = ww.heap.size := ⟨_, rfl⟩; have HNB := Lib.hid hnb; have HF9 := Lib.hid (SC.out.fresh ww.heap.size (Nat.le_refl _)); have NI := Lib.hid (NI.out.step (C := (· = [8])) (Stp.of_below _ SC.out.fresh (below_a1 ww (.cells #[.int .u32 e.value, .int .u64 e.rc.id, .int .u64 e.rc.ver, .slice B1 n1 c1, .bool e.gone] 36))) n8); have SC := Lib.hid (SC.out.trans (Stp.of_below _ SC.out.fresh (below_a1 ww (.cells #[.int .u32 e.value, .int .u64 e.rc.id, .int .u64 e.rc.ver, .slice B1 n1 c1, .bool e.gone] 36)))); intro B5 cap5 ww c5 st5 er5; have NI := Lib.hid (NI.out.step st5 n8); have BX := Lib.hid (BX.out.only st5.only (by rw [HF9.out]; exact n8)); have HF9 := Lib.hid ((st5.col _ (Box.new _ _ _).lt).trans HF9.out); have SC := Lib.hid (SC.out.trans st5); have ER := Lib.hid er5)
                  | (refine step_append_entn rfl _ _ rfl (.slice B5 k cap5) rfl (ER.out.later SC.out.fresh (below_a1 ww (.cells #[.int .u32 e.value, .int .u64 e.rc.id, .int .u64 e.rc.ver, .slice B1 n1 c1, .bool e.gone] 36))) (SC.out.trans (Stp.of_below _ SC.out.fresh (below_a1 ww (.cells #[.int .u32 e.value, .int .u64 e.rc.id, .int .u64 e.rc.ver, .slice B1 n1 c1, .bool e.gone] 36)))).fresh (by simp) (some ⟨ww.heap.size, 0, none⟩) 1 1 rfl (ents_one (e := e) (m := ⟨e.value, e.rc.id, e.rc.ver, B1, n1, c1, e.gone⟩) (Box.new _ _ _) (SC.out.fresh _ (Nat.le_refl _)) (NI.out.step (C := (· = [8])) (Stp.of_below _ SC.out.fresh (below_a1 ww (.cells #[.int .u32 e.value, .int .u64 e.rc.id, .int .u64 e.rc.ver, .slice B1 n1 c1, .bool e.gone] 36))) n8)) (fun h => by cases h) (k + 1) (by simp; omega) (by omega) ?_; intro B6 cap6 w6 c6 st6 er6; have SC := Lib.hid ((SC.out.trans (Stp.of_below _ SC.out.fresh (below_a1 ww (.cells #[.int .u32 e.value, .int .u64 e.rc.id, .int .u64 e.rc.ver, .slice B1 n1 c1, .bool e.gone] 36)))).trans st6); have ES := Lib.hid er6)
                  | (refine step_append_entn rfl _ _ rfl (.slice B5 k cap5) rfl ER.out SC.out.fresh (by simp) _ 1 1 rfl (ents_one (e := e) (m := ⟨e.value, e.rc.id, e.rc.ver, B1, n1, c1, e.gone⟩) BX.out HF9.out NI.out) (fun h => by cases h) (k + 1) (by simp; omega) (by omega) ?_; intro B6 cap6 w6 c6 st6 er6; have SC := Lib.hid (SC.out.trans st6); have ES := Lib.hid er6)
                  | (refine step_append_entn rfl _ _ rfl (.slice B6 (k + 1) cap6) rfl ES.out SC.out.fresh (by simp) A3 (o.length - k) (cap - k) rfl (N3.out.step SC.out n8) HN3.out (o.length + 1) (by simp; omega) (by omega) ?_; intro B7 cap7 w7 c7' st7 er7; have SC := Lib.hid (SC.out.trans st7); have ET := Lib.hid er7)
                  | (go_simp; go_at_call 42; refine (hentry_any e.value e.rc.id e.rc.ver e.gone ww ((IY.out.below (base_below SC.out) (fun _ h => h))) (fun k hk => Nat.lt_of_lt_of_le hk (base_below SC.out).size)).mono ?_; rintro e3 w1 hn; obtain ⟨v1, rfl, ⟨B1, n1, c1, rfl, hi1⟩, hb1⟩ := hn; (try have ER := Lib.hid (ER.out.later SC.out.fresh hb1)); have NI := Lib.hid (show EntNew w1 (Still _ w1) ⟨e.value, e.rc.id, e.rc.ver, B1, n1, c1, e.gone⟩ e from ⟨rfl, rfl, rfl, rfl, HOK.out, hi1.move fun k hk hlt => ⟨rfl, SC.out.fresh k hk, hlt⟩⟩); have SC := Lib.hid (SC.out.trans (Stp.of_below _ SC.out.fresh hb1)); obtain ⟨ww, rfl⟩ : ∃ ww, ww = w1 := ⟨_, rfl⟩)
                  | (refine step_append_entn rfl _ _ rfl (.slice none 0 0) rfl (EntRow.nil (baseCol w.heap.size) [8] wy.drew) SC0.out.fresh (by simp) (some ⟨ob, oo, none⟩) k cap rfl N1.out (fun h => by cases h) k (Nat.zero_add _) (by omega) ?_; intro B5 cap5 ww c5 st5 er5; have SC := Lib.hid st5; have ER := Lib.hid er5; have X9 := XY.out.only st5.only (by show ¬ baseCol w.heap.size b7 = [8]; rw [base_new hb7w]; exact n8); have c7 := X9.cell)
                  | (go_simp; go_at_call 42; refine (hentry_any e.value e.rc.id e.rc.ver e.gone wy.drew IY.out (fun k hk => hk)).mono ?_; rintro e3 w1 hn; obtain ⟨v1, rfl, ⟨B1, n1, c1, rfl, hi1⟩, hb1⟩ := hn; have NI := Lib.hid (show EntNew w1 (Still (baseCol w.heap.size) w1) ⟨e.value, e.rc.id, e.rc.ver, B1, n1, c1, e.gone⟩ e from ⟨rfl, rfl, rfl, rfl, HOK.out, hi1.move fun k hk hlt => ⟨rfl, SC0.out.fresh k hk, hlt⟩⟩); have SC := Lib.hid (SC0.out.trans (Stp.of_below _ SC0.out.fresh hb1)); obtain ⟨ww, rfl⟩ : ∃ ww, ww = w1 := ⟨_, rfl⟩))
                all_goals
                  have R : EntRow _ [8] w7 (.slice B7 (o.length + 1) cap7) (o.take k ++ [e] ++ o.drop k) := ET.out
                  have bel := base_below SC.out
                  have lw := below_from (Same.drew wy).1 bel (Nat.le_refl _)
                  have hlen : (o.take k ++ [e] ++ o.drop k).length = o.length + 1 := by simp; omega
                  obtain ⟨_, _, hv9, g1, g2, _⟩ := R.shape
                  injection hv9 with hb9 hv9 hc9
                  have srt : Sorting w f t (o.take k ++ [e] ++ o.drop k) (.slice B7 (o.length + 1) cap7) w7 := ⟨B7, cap7, by rw [hlen], by rw [hc9]; exact g1, by rw [hc9]; exact g2, fun h => by omega, by rw [hlen]; exact base_row SC.out HLY.out.size R, (H6.out.below HSY.out.1 z3).below lw (Nat.lt_of_lt_of_le z3 HSY.out.1.size), below_from HLY.out lw HLY.out.size⟩
                  have HSRT := Lib.hid srt
                  have HPM := Lib.hid (show (o.take k ++ [e] ++ o.drop k).Perm ((L.take (i + 1)).filter (hasE f t)) by rw [HFS2.out]; exact (ins_perm k).trans (HP.out.append_right _))
                  have HIS := Lib.hid (ins_sorted HS.out hk HA.out HSTOP.out)
                  clear srt lw bel R hlen hb9 hv9 hc9 g1 g2
                  go_wp2
                  go_roundw
                  case rel => exact ⟨i + 1, _, by omega, by go_num, HSRT.out, HPM.out, HIS.out⟩
                  case measure => simp [intOf]; omega
    · obtain rfl : i = L.length := by omega
      have hT : L.take L.length = L := List.take_length
      have hone := scanL_one (f := f) (t := t) HK.out (by have := HP.out; rwa [hT] at this) HS.out
      have HONE := Lib.hid hone
      clear hT hone
      go_wp2
      go_ret
      rw [← HONE.out]
      exact ⟨A, cap, rfl, H4.out, H5.out, H7.out⟩
end Go.Proofs.Ytjcbmfopcohcmaa
