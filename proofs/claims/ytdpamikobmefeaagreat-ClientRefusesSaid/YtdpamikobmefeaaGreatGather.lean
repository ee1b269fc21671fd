/- The gathering: its words; a clone of ranges; gather.New. Conditions: the ranges read so. -/
import Derived.Test.YtdpamikobmefeaaGreatBoxMatch
import Derived.Test.YtdpamikobmefeaaGreatWords
import Derived.Test.YtdpamikobmefeaaGreatApp
namespace Go.Proofs.YtdpamikobmefeaaGreat
open Go.RowKit Go.ChangeShapes Go.Maps
set_option maxRecDepth 100000
set_option linter.unusedVariables false
set_option linter.unusedSimpArgs false

theorem flat_at {α : Type} (enc : α → List Value) (m : Nat) (hm : 0 < m) (h : ∀ x, (enc x).length = m) : ∀ (l : List α) (j : Nat), (l.flatMap enc)[j]? = (l[j / m]?).bind fun x => (enc x)[j % m]?
  | [], j => by simp
  | x :: r, j => by
    rw [List.flatMap_cons]
    by_cases hj : j < m
    · rw [List.getElem?_append_left (by rw [h]; exact hj), Nat.div_eq_of_lt hj, Nat.mod_eq_of_lt hj]; rfl
    · rw [List.getElem?_append_right (by rw [h]; omega), h, flat_at enc m hm h r (j - m)]
      obtain ⟨q, rfl⟩ : ∃ q, j = q + m := ⟨j - m, by omega⟩
      rw [Nat.add_sub_cancel, Nat.add_div_right _ hm, Nat.add_mod_right, List.getElem?_cons_succ]
theorem flat_len {α : Type} (enc : α → List Value) (m : Nat) (h : ∀ x, (enc x).length = m) (l : List α) : (l.flatMap enc).length = l.length * m := by
  induction l with
  | nil => simp
  | cons x r ih => rw [List.flatMap_cons, List.length_append, ih, h, List.length_cons, Nat.add_mul, Nat.one_mul, Nat.add_comm]
theorem rngs_of_owns {w : World} {base e n : Nat} {v : Value} {l : List Rng} (h : w.ownsRow base e 3 v n (l.flatMap encR)) (hl : l.length = n) (hok : ∀ r ∈ l, r.ok) (hb : n * 16 ≤ 140737488351232) :
    ∃ B c, v = .slice B n c ∧ RngsAt w (base ≤ ·) B n c l := by
  rcases h.2 with ⟨rfl, h0⟩ | ⟨g, cap, cur, rfl, hg, hh, hn, hc, hs, ht⟩
  · subst h0
    exact ⟨none, 0, rfl, hl, by omega, by omega, hb, (fun _ => rfl), hok, (fun hn => by omega)⟩
  · refine ⟨_, cap, rfl, hl, hn, by unfold maxLen at hc; omega, hb, (fun h => by cases h), hok, fun hn' => ⟨g, 0, rfl, hg, fun j r hj t u hu => ?_⟩⟩
    have hbox : Box w g cur := ⟨e, hh⟩
    have ht3 : t < 3 := (List.getElem?_eq_some_iff.1 hu).1
    have hjn : j < n := by rw [← hl]; exact (List.getElem?_eq_some_iff.1 hj).1
    rw [Nat.zero_add, hbox.cell]
    have h1 := flat_at encR 3 (by omega) (fun _ => rfl) l (j * 3 + t)
    rw [← ht, List.getElem?_take_of_lt (by omega), Array.getElem?_toList, show (j * 3 + t) / 3 = j by omega, show (j * 3 + t) % 3 = t by omega, hj] at h1
    rw [h1]; exact hu
set_option maxHeartbeats 2000000 in
theorem clone_rngs {D : Nat → Prop} {A : Option Addr} {n c : Nat} {l : List Rng} (w : World) (hx : RngsAt w D A n c l) (hD : ∀ b, D b → b < w.heap.size) :
    Calls Tryz.prog 30 #[.slice A n c] w fun e w' => ∃ B n' c', e = .returned (.slice B n' c') ∧ RngsAt w' (w.heap.size ≤ ·) B n' c' l ∧ Below w.heap.size w w' := by
  obtain ⟨lx, x2, x3, x4, x5, x6, x7⟩ := hx
  have bn : n ≤ 140737488351232 := by omega
  have qS := eql_slice_nil (P := Tryz.prog) Tryz.underlying30
  rcases A with _ | ad
  · have hc := x5 rfl
    have hn : n = 0 := by omega
    subst hn hc
    have hxs : l = [] := List.eq_nil_of_length_eq_zero lx
    subst hxs
    go_enter Tryz.func30, Tryz.ntmps30
    go_wp2
    go_ret
    exact ⟨none, 0, 0, rfl, ⟨rfl, by omega, by omega, by omega, (fun _ => rfl), (fun x hx => by cases hx), (fun h => by omega)⟩, Below.refl _ _⟩
  · have hinfo : (Tryz.prog.info? 29).map (fun i => (i.zero, i.size, i.bytes)) = some (some (.agg #[.int .i64 0, .int .u32 0, .int .u32 0]), 3, 16) := by kernel_rfl
    obtain ⟨i0, hi, hz0, hz1, hz2⟩ := info_parts hinfo
    have hown : (w.alloc (.cells #[] 29)).ownsRow w.heap.size 29 3 (.slice (some ⟨w.heap.size, 0, none⟩) 0 0) 0 [] := by
      have := box_owns (base := w.heap.size) (size := 3) (n := 0) (cap := 0) (BoxT.new w #[] 29) rfl (by omega) (by omega) (Nat.le_refl _)
      simpa using this
    have hlen : (l.flatMap encR).length = n * 3 := by rw [flat_len encR 3 (fun _ => rfl), lx]
    have hc1 : ∀ j u, (l.flatMap encR)[j]? = some u → (w.alloc (.cells #[] 29)).cell? (ad.add j) = some u := by
      intro j u hu
      have hj : j < n * 3 := by rw [← hlen]; exact (List.getElem?_eq_some_iff.1 hu).1
      rw [flat_at encR 3 (by omega) (fun _ => rfl)] at hu
      obtain ⟨r, hr, hu⟩ := Option.bind_eq_some_iff.1 hu
      obtain ⟨b, off, hb, hd, hcell⟩ := x7 (by omega)
      injection hb with hb; subst hb
      have e1 : (⟨b, off, none⟩ : Addr).add j = ⟨b, off + j, none⟩ := by unfold Addr.add; split <;> simp_all
      have h9 := hcell _ r hr _ u hu
      rw [show off + j / 3 * 3 + j % 3 = off + j by omega] at h9
      rw [e1, (below_a1 w _).cell (p := ⟨b, off + j, none⟩) (hD b hd), h9]
    have hone : ∀ u ∈ l.flatMap encR, u.oneCell' = true := by
      intro u hu
      obtain ⟨x, _, hx⟩ := List.mem_flatMap.1 hu
      simp only [encR, List.mem_cons, List.not_mem_nil, or_false] at hx
      rcases hx with rfl | rfl | rfl <;> rfl
    have H4 := Lib.hid x4
    have b4 := Lib.hid (show (0 + n) * 16 ≤ 140737488355328 by omega)
    have H6 := Lib.hid x6; have HL := Lib.hid lx
    clear lx x2 x3 x4 x5 x6 x7 hD hinfo
    go_enter Tryz.func30, Tryz.ntmps30
    go_wp2_with (at_builtin; refine wpList_append_own _ rfl _ _ 30 rfl w.heap.size 29 i0 (.agg #[.int .i64 0, .int .u32 0, .int .u32 0]) 3 16 Tryz.underlying30 hi hz0 hz1 hz2 rfl (by decide) _ 0 [] rfl hown ad n c (l.flatMap encR) rfl hlen hc1 hone (by unfold maxLen; omega) b4.out (by rw [size_alloc]; omega) ?_; intro v1 w1 hown1 hgrow1 _; simp only [Nat.zero_add, List.nil_append] at hown1)
    obtain ⟨B, c1, rfl, hi1⟩ := rngs_of_owns hown1 HL.out H6.out H4.out
    have hg1 : Below w.heap.size w w1 := (below_a1 w _).trans ((grown_only hgrow1).below (by rw [size_alloc]; omega) (by intro k hk; subst hk; exact Nat.le_refl _))
    go_ret
    exact ⟨B, n, c1, rfl, hi1, hg1⟩

/-- A value that is a record. -/
def isRec : Value → Bool
  | .agg ⟨[.int .u64 _, .int .u64 _, .slice _ _ _]⟩ => true
  | _ => false
theorem isRec_inv {v : Value} (h : isRec v = true) : ∃ (id ver : Int) (s : Option Addr) (l c : Nat), v = .agg #[.int .u64 id, .int .u64 ver, .slice s l c] := by
  unfold isRec at h
  split at h
  · exact ⟨_, _, _, _, _, rfl⟩
  · cases h
def RVal (c : Col) (w : World) (r : Rec) (v : Value) : Prop := RecVal w (fun b => c b = [] ∧ b < w.heap.size) v r
theorem RVal.step {C : List Int → Prop} {c c' : Col} {w w' : World} {r : Rec} {v : Value} (h : RVal c w r v) (hs : Stp C c w c' w') (hC : ¬ C []) : RVal c' w' r v := by
  obtain ⟨s, l, cp, rfl, hok, hi⟩ := h
  exact ⟨s, l, cp, rfl, hok, hi.move fun b hb hlt => ⟨hs.only.block b hlt (by show ¬ C (c b); rw [hb.1]; exact hC), (hs.col b hlt).trans hb.1, Nat.lt_of_lt_of_le hlt hs.only.size⟩⟩
theorem RVal.ok {c : Col} {w : World} {r : Rec} {v : Value} (h : RVal c w r v) : r.ok := by obtain ⟨s, l, cp, rfl, hok, _⟩ := h; exact hok
def kR (r : Rec) : Lit := .int .u64 r.id
theorem u64_key : Keyed Tryz.prog 50 := int_keyed Tryz.underlying50
theorem keyOf_id {id : Int} (h : U64 id) : keyOf Tryz.prog 50 (.int .u64 id) = some (.int .u64 id) := by
  have w2 : (Lit.int .u64 id).wf = true := by
    have := h.1; have := h.2
    simp [Lit.wf, IntKind.min, IntKind.max, IntKind.bits, IntKind.signed]; omega
  simp [keyOf, Tryz.underlying50, mapKey, w2]
/-- A gathering: its box, its records, by their ids. -/
def GathR (c : Col) (π : List Int) (w : World) (g : Nat) (bl : List Rng) (L : List Rec) : Prop :=
  ∃ (A : Option Addr) (n cp mb : Nat) (D : DataW Value), BoxT w 134 g #[.slice A n cp, .map (some mb)] ∧ c g = π ∧ c mb = π ∧ RngsAt w (fun b => c b = [] ∧ b < w.heap.size) A n cp bl ∧
    w.ownsMap Tryz.prog 50 (heldIf isRec) mb L.length D ∧ MapOf kR (RVal c w) D L
theorem GathR.step {C : List Int → Prop} {c c' : Col} {w w' : World} {π : List Int} {g : Nat} {bl : List Rng} {L : List Rec} (h : GathR c π w g bl L) (hs : Stp C c w c' w') (hπ : ¬ C π) (hC : ¬ C []) : GathR c' π w' g bl L := by
  obtain ⟨A, n, cp, mb, D, hb, h1, h2, hr, hm, hd⟩ := h
  exact ⟨A, n, cp, mb, D, hb.only hs.only (by show ¬ C (c g); rw [h1]; exact hπ), (hs.col g hb.lt).trans h1, (hs.col mb hm.lt).trans h2,
    hr.move (fun b hb hlt => ⟨hs.only.block b hlt (by show ¬ C (c b); rw [hb.1]; exact hC), (hs.col b hlt).trans hb.1, Nat.lt_of_lt_of_le hlt hs.only.size⟩),
    ownsMap_only hm hs.only (by show ¬ C (c mb); rw [h2]; exact hπ), hd.imp fun x hx v hv => hv.step hs hC⟩
theorem GathR.later {c : Col} {w w' : World} {π : List Int} {g : Nat} {bl : List Rng} {L : List Rec} (h : GathR c π w g bl L) (hf : Fresh c w) (hb : Below w.heap.size w w') : GathR c π w' g bl L :=
  h.step (C := fun _ => False) (Stp.of_below _ hf hb) id id
def GathTo (π : List Int) (g : Nat) (bl : List Rng) (L : List Rec) (c : Col) (w : World) (w' : World) : Prop := ∃ c', Stp (· = π) c w c' w' ∧ GathR c' π w' g bl L ∧ Boxes w w'

/-- A new gathering. -/
theorem gather_new {c : Col} (π : List Int) (w : World) (hf : Fresh c w) {A : Option Addr} {n cp : Nat} {bl : List Rng} (hx : RngsAt w (fun b => c b = [] ∧ b < w.heap.size) A n cp bl) :
    Calls Tryz.prog 31 #[.slice A n cp] w fun e w' => ∃ g, e = .returned (.pointer (some ⟨g, 0, none⟩)) ∧ w.heap.size ≤ g ∧ GathTo π g bl [] c w w' := by
  have hmm := @run_makeMap Tryz.prog
  have HC := Lib.hid (clone_rngs w hx (fun b hb => hb.2))
  have HF := Lib.hid hf
  clear hx hf
  go_enter Tryz.func31, Tryz.ntmps31
  go_wp2_with (go_at_call 30; go_loud (refine HC.out.mono ?_; rintro e1 w1 ⟨B, n', c', rfl, hr, hb⟩; have HR := Lib.hid hr; have HB := Lib.hid hb; clear hr hb))
  go_ret
  have hB : Below w.heap.size w ((w1.alloc (.map #[] 0)).alloc (.cells #[.slice B n' c', .map (some w1.heap.size)] 134)) := below_from HB.out (below_a2 w1 _ _) HB.out.size
  have hz := HB.out.size
  refine ⟨w1.heap.size + 1, rfl, by omega, fun k => if k = w1.heap.size ∨ k = w1.heap.size + 1 then π else c k, ⟨Only.of_below hB, fun k hk => if_neg (by omega), fun k hk => ?_⟩, ⟨B, n', c', w1.heap.size, .map [], ?_, if_pos (.inr rfl), if_pos (.inl rfl), ?_, (World.ownsMap_made _ _ _ _).alloc _, MapOf.empty⟩, Boxes.below hB⟩
  · simp only [size_alloc] at hk
    show (if _ then _ else _) = _
    rw [if_neg (by omega)]; exact HF.out k (by omega)
  · have := BoxT.new (w1.alloc (.map #[] 0)) #[.slice B n' c', .map (some w1.heap.size)] 134
    rwa [size_alloc] at this
  · refine HR.out.move fun b hb hlt => ⟨(below_a2 w1 _ _).block b hlt, ?_, by simp only [size_alloc]; omega⟩
    show (if _ then _ else _) = _
    rw [if_neg (by omega)]; exact HF.out b hb
end Go.Proofs.YtdpamikobmefeaaGreat
