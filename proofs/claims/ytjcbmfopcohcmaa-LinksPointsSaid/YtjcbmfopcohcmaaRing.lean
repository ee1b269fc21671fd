/- The ring: points, rising: New, Has, Add. Conditions: the ring is one. -/
import Derived.Test.YtjcbmfopcohcmaaInsert
import Derived.Test.YtjcbmfopcohcmaaBin
namespace Go.Proofs.Ytjcbmfopcohcmaa
open Go.RowKit
set_option maxRecDepth 100000
set_option linter.unusedVariables false
set_option linter.unusedSimpArgs false

/-- A row of points, rising. -/
structure PtsOk (l : List Int) : Prop where
  up : l.Pairwise (· < ·)
  u32 : ∀ x ∈ l, U32 x
theorem PtsOk.le {l : List Int} (h : PtsOk l) : l.Pairwise (· ≤ ·) := h.up.imp fun h => Int.le_of_lt h
theorem u32_wf {x : Int} (h : U32 x) : (Lit.int .u32 x).wf = true := by
  have h1 := h.1; have h2 := h.2
  simp [Lit.wf, IntKind.min, IntKind.max, IntKind.bits, IntKind.signed]; omega
theorem own_ne {w : World} {T base e size n rb : Nat} {v : Value} {xs C : _} (hb : BoxT w T rb C) (ho : w.ownsRow base e size v n xs) (hne : T ≠ e) : v.ownBlock ≠ some rb := fun h => by
  rcases ho.2 with ⟨h0, _⟩ | ⟨g, cap', cur, h0, _, hh, _⟩
  · rw [h0] at h; cases h
  · rw [h0] at h
    injection h with h
    have h : g = rb := h
    subst h
    unfold BoxT at hb
    rw [hb] at hh
    injection hh with hh
    injection hh with _ hh _
    exact hne hh
/-- A ring: its block, its colours, its points. -/
def RingT (T : Nat) (c : Col) (π : List Int) (w : World) (rb : Nat) (l : List Int) : Prop :=
  ∃ (A : Option Addr) (cap : Nat), BoxT w T rb #[.slice A l.length cap] ∧ c rb = π ∧ w.ownsRow 0 22 1 (.slice A l.length cap) l.length (l.map (Value.int .u32)) ∧ (∀ g, (Value.slice A l.length cap).ownBlock = some g → c g = π) ∧ PtsOk l ∧ l.length ≤ 64
theorem RingT.ints {T : Nat} {c : Col} {π : List Int} {w : World} {rb : Nat} {l : List Int} (h : RingT T c π w rb l) : ∃ (A : Option Addr) (cap : Nat), Box w rb #[.slice A l.length cap] ∧ Ints w (· < w.heap.size) .u32 4 A l.length cap l := by
  obtain ⟨A, cap, hb, _, ho, _, hk, hl⟩ := h
  obtain ⟨A', cap', he, hi⟩ := ints_of_row ho (by omega) (fun x hx => u32_wf (hk.u32 x hx))
  injection he with e1 _ e2
  subst e1 e2
  exact ⟨A, cap, hb.box, hi.stays (fun _ _ => rfl) (fun b h => h.2)⟩
theorem RingT.step {T : Nat} {C : List Int → Prop} {c c' : Col} {w w' : World} {π : List Int} {b : Nat} {l : List Int} (h : RingT T c π w b l) (hs : Stp C c w c' w') (hπ : ¬ C π) : RingT T c' π w' b l := by
  obtain ⟨A, cap, hb, h1, h2, h3, hk, hl⟩ := h
  refine ⟨A, cap, hb.only hs.only (by show ¬ C (c b); rw [h1]; exact hπ), (hs.col b hb.lt).trans h1, ownsRow_only h2 hs.only (fun g hg => by show ¬ C (c g); rw [h3 g hg]; exact hπ), fun g hg => (hs.col g (ownBlock_lt h2 hg).2).trans (h3 g hg), hk, hl⟩
theorem RingT.later {T : Nat} {c : Col} {w w' : World} {π : List Int} {b : Nat} {l : List Int} (h : RingT T c π w b l) (hf : Fresh c w) (hb : Below w.heap.size w w') : RingT T c π w' b l :=
  h.step (C := fun _ => False) (Stp.of_below _ hf hb) id
/-- The program's ring. -/
abbrev RingR := RingT 166
theorem ring_new {c : Col} (π : List Int) (w : World) (hf : Fresh c w) : Calls Try.prog 61 #[] w fun e w' => e = .returned (.pointer (some ⟨w.heap.size, 0, none⟩)) ∧ (∃ c', Stp (· = π) c w c' w' ∧ RingR c' π w' w.heap.size []) ∧ Below w.heap.size w w' := by
  go_enter Try.func61, Try.ntmps61
  go_wp2
  go_ret
  have hB : Below w.heap.size w (w.alloc (.cells #[.slice none 0 0] 166)) := below_a1 w _
  refine ⟨rfl, ⟨fun k => if k = w.heap.size then π else c k, ⟨Only.of_below hB, fun k hk => if_neg (by omega), fun k hk => ?_⟩, none, 0, BoxT.new w _ _, if_pos rfl, ⟨rfl, .inl ⟨rfl, rfl⟩⟩, (fun g hg => by cases hg), ⟨List.Pairwise.nil, fun x hx => by simp at hx⟩, by simp⟩, hB⟩
  simp only [size_alloc] at hk
  show (if _ then _ else _) = _
  rw [if_neg (by omega)]; exact hf k (by omega)
set_option maxHeartbeats 1000000 in
theorem ring_has {c : Col} {π : List Int} {w : World} {rb : Nat} {l : List Int} (p : Int) (h : RingR c π w rb l) :
    Calls Try.prog 64 #[.pointer (some ⟨rb, 0, none⟩), .int .u32 p] w fun e w' => e = .returned (.bool (decide (p ∈ l))) ∧ Drew w w' := by
  obtain ⟨A, cap, hb, hi⟩ := h.ints
  obtain ⟨_, _, _, _, _, _, hk, _⟩ := h
  have hc := hb.cell; have hz := hb.lt
  have HI := Lib.hid hi; have HK := Lib.hid hk
  clear hb hi hk
  generalize l.length = n at *
  go_enter Try.func64, Try.ntmps64
  go_wp2_with (go_at_call 57; go_loud ((with_reducible refine (bin_u32 _ _ HI.out HK.out.le).mono ?_); rintro e w' ⟨rfl, hd⟩))
  go_ret
  exact ⟨by simp, hd⟩
/-- A point more. -/
def addP (l : List Int) (p : Int) : List Int := l.take (posF l p) ++ p :: l.drop (posF l p)
theorem posF_le (l : List Int) (p : Int) : posF l p ≤ l.length := List.countP_le_length
theorem mem_addP {l : List Int} {p x : Int} : x ∈ addP l p ↔ x = p ∨ x ∈ l := by
  unfold addP
  rw [List.mem_append, List.mem_cons]
  have h : x ∈ l ↔ x ∈ l.take (posF l p) ∨ x ∈ l.drop (posF l p) := by
    rw [← List.mem_append, List.take_append_drop]
  rw [h]
  constructor
  · rintro (h | h | h)
    · exact .inr (.inl h)
    · exact .inl h
    · exact .inr (.inr h)
  · rintro (h | h | h)
    · exact .inr (.inl h)
    · exact .inl h
    · exact .inr (.inr h)
theorem addP_len (l : List Int) (p : Int) : (addP l p).length = l.length + 1 := by
  have := posF_le l p
  unfold addP
  simp; omega
theorem pos_split {l : List Int} (h : l.Pairwise (· < ·)) (p : Int) : (∀ x ∈ l.take (posF l p), x < p) ∧ ∀ x ∈ l.drop (posF l p), p ≤ x := by
  induction l with
  | nil => simp [posF]
  | cons y r ih =>
    obtain ⟨h1, h2⟩ := List.pairwise_cons.1 h
    obtain ⟨i1, i2⟩ := ih h2
    by_cases hy : y < p
    · have e : posF (y :: r) p = posF r p + 1 := by unfold posF; rw [List.countP_cons, if_pos (by simp [hy])]
      rw [e, List.take_succ_cons, List.drop_succ_cons]
      exact ⟨fun x hx => (List.mem_cons.1 hx).elim (fun e => e ▸ hy) (i1 x), i2⟩
    · have e : posF (y :: r) p = 0 := by
        unfold posF
        rw [List.countP_eq_zero]
        intro x hx
        rcases List.mem_cons.1 hx with rfl | hx
        · simpa using hy
        · have := h1 x hx
          simp; omega
      rw [e]
      refine ⟨fun x hx => by simp at hx, fun x hx => ?_⟩
      rw [List.drop_zero] at hx
      rcases List.mem_cons.1 hx with rfl | hx
      · omega
      · have := h1 x hx; omega
theorem addP_ok {l : List Int} {p : Int} (h : PtsOk l) (hp : U32 p) (hn : ¬ p ∈ l) : PtsOk (addP l p) := by
  obtain ⟨s1, s2⟩ := pos_split h.up p
  refine ⟨?_, fun x hx => (mem_addP.1 hx).elim (fun e => e ▸ hp) (h.u32 x)⟩
  unfold addP
  rw [List.pairwise_append]
  refine ⟨h.up.sublist (List.take_sublist _ _), ?_, fun a ha b hb => ?_⟩
  · rw [List.pairwise_cons]
    refine ⟨fun x hx => ?_, h.up.sublist (List.drop_sublist _ _)⟩
    have h1 := s2 x hx
    have h2 : x ≠ p := fun e => hn (e ▸ List.mem_of_mem_drop hx)
    omega
  · have h1 := s1 a ha
    rcases List.mem_cons.1 hb with rfl | hb
    · exact h1
    · have h2 := s2 b hb
      omega
theorem ins_paint {c : Col} {π : List Int} {w w' : World} {n : Nat} {v : Value} {xs : List Value} {B : Option Addr} {cap : Nat} (hf : Fresh c w) (hg : ∀ g, v.ownBlock = some g → c g = π) (hi : Insd w 0 n xs v B cap w') :
    ∃ c', Stp (· = π) c w c' w' ∧ ∀ g, (Value.slice B (n + 1) cap).ownBlock = some g → c' g = π := by
  obtain ⟨hown, hgrow, hat⟩ := hi
  have hO : Only (fun b => c b = π) w w' := ⟨hgrow.os, hgrow.tape, hgrow.output, hgrow.size, fun b hb hn => hgrow.block b hb (fun he => hn (hg b he.symm))⟩
  have hS : Stp (· = π) c w c w' := ⟨hO, fun _ _ => rfl, fun b hb => hf b (Nat.le_trans hO.size hb)⟩
  rcases hat with hat | hat
  · exact ⟨c, hS, fun g h => hg g (by rw [← hat]; exact h)⟩
  · exact ⟨upd c w.heap.size π, hS.paint (Nat.le_refl _) (ownBlock_lt hown hat).2 π, fun g h => by rw [hat] at h; injection h with h; subst h; exact upd_same _ _ _⟩
def addE (l : List Int) (p : Int) : Int := if p ∈ l then 7 else if 64 ≤ l.length then 5 else 0
def addF (l : List Int) (p : Int) : List Int := if p ∈ l then l else if 64 ≤ l.length then l else addP l p
set_option maxHeartbeats 1000000 in
theorem ring_add {c : Col} {π : List Int} {w : World} {rb : Nat} {l : List Int} {p : Int} (h : RingR c π w rb l) (hf : Fresh c w) (hπ : π ≠ []) (hp : U32 p) :
    Calls Try.prog 62 #[.pointer (some ⟨rb, 0, none⟩), .int .u32 p] w fun e w' => e = .returned (.int .i64 (addE l p)) ∧ ∃ c', Stp (· = π) c w c' w' ∧ RingR c' π w' rb (addF l p) := by
  obtain ⟨A, cap, hbT, hcb, ho, hg, hk, hlen⟩ := id h
  have hi : Ints w (· < w.heap.size) .u32 4 A l.length cap l := by
    obtain ⟨A', cap', he, hi⟩ := ints_of_row ho (by omega) (fun x hx => u32_wf (hk.u32 x hx))
    injection he with e1 _ e2
    subst e1 e2
    exact hi.stays (fun _ _ => rfl) (fun b h => h.2)
  have hb := hbT.box
  have hne : (Value.slice A l.length cap).ownBlock ≠ some rb := own_ne hbT ho (by decide)
  have hc := hb.cell; have hz := hb.lt
  have HI := Lib.hid hi; have HK := Lib.hid hk; have HR := Lib.hid h; have HF := Lib.hid hf; have HP := Lib.hid hp; have HB := Lib.hid hbT
  have HCB := Lib.hid hcb; have HO := Lib.hid ho; have HG := Lib.hid hg; have HNE := Lib.hid hne
  clear hb hi hk h hf hp hbT ho hg hne
  obtain ⟨n, hn⟩ : ∃ n, l.length = n := ⟨_, rfl⟩
  rw [hn] at hc hlen
  have HN := Lib.hid hn
  by_cases hm : p ∈ l
  · have e1 : addE l p = 7 := if_pos hm
    have e2 : addF l p = l := if_pos hm
    rw [e1, e2]
    have hI := HI.out
    rw [hn] at hI
    have HI := Lib.hid hI
    clear hI hn
    go_enter Try.func62, Try.ntmps62
    go_wp2_with (go_at_call 57; go_loud ((with_reducible refine (bin_u32 _ _ HI.out HK.out.le).mono ?_); rintro e w' ⟨rfl, hd⟩; have HD := Lib.hid hd; clear hd))
    go_ret
    exact ⟨rfl, c, Stp.of_below _ HF.out HD.out.below, HR.out.later HF.out HD.out.below⟩
  · by_cases h64 : 64 ≤ n
    · have e1 : addE l p = 5 := by unfold addE; rw [if_neg hm, if_pos (by omega)]
      have e2 : addF l p = l := by unfold addF; rw [if_neg hm, if_pos (by omega)]
      rw [e1, e2]
      have hI := HI.out
      rw [hn] at hI
      have HI := Lib.hid hI
      have h65 : (64 : Int) ≤ (n : Int) := by omega
      clear hI hn
      go_enter Try.func62, Try.ntmps62
      go_wp2_with (go_at_call 57; go_loud ((with_reducible refine (bin_u32 _ _ HI.out HK.out.le).mono ?_); rintro e w' ⟨rfl, hd⟩; have hc2 : ∀ i, w'.cell? ⟨rb, i, none⟩ = #[Value.slice A n cap][i]? := (fun i => (hd.cell _).trans (hc i)); have HD := Lib.hid hd; clear hd))
      go_ret
      exact ⟨rfl, c, Stp.of_below _ HF.out HD.out.below, HR.out.later HF.out HD.out.below⟩
    · have e1 : addE l p = 0 := by unfold addE; rw [if_neg hm, if_neg (by omega)]
      have e2 : addF l p = addP l p := by unfold addF; rw [if_neg hm, if_neg (by omega)]
      rw [e1, e2]
      have h65 : ¬ (64 : Int) ≤ (n : Int) := by omega
      have hI := HI.out
      rw [hn] at hI
      have HI := Lib.hid hI
      have HM := Lib.hid hm
      clear hI hn hm
      go_enter Try.func62, Try.ntmps62
      go_upto_region 8 with (go_at_call 57; go_loud ((with_reducible refine (bin_u32 _ _ HI.out HK.out.le).mono ?_); rintro e w' ⟨rfl, hd⟩; have hc2 : ∀ i, w'.cell? ⟨rb, i, none⟩ = #[Value.slice A n cap][i]? := (fun i => (hd.cell _).trans (hc i)); have HD := Lib.hid hd; clear hd))
      have hO := HO.out; have hNE := HNE.out; have hGG := HG.out
      rw [HN.out] at hO hNE hGG
      have hB1 : Below w.heap.size w w' := HD.out.below
      have hO2 := ownsRow_only (ownsRow_only hO (Only.of_below (S := fun _ => False) hB1) (fun _ _ h => h)) (Only.of_below (S := fun _ => False) (below_a1 w' (.cells #[.int .u32 p] 22))) (fun _ _ h => h)
      have hBT := (HB.out.below hB1 HB.out.lt).alloc (.cells #[.int .u32 p] 22)
      rw [HN.out] at hBT
      have hgw : (Value.slice A n cap).ownBlock ≠ some w'.heap.size := fun e => by
        have h1 := (ownBlock_lt hO e).2
        have h2 := hB1.size
        omega
      have HO2 := Lib.hid hO2; have HBT := Lib.hid hBT; have HGW := Lib.hid hgw; have HNE2 := Lib.hid hNE; have HG2 := Lib.hid hGG; have HB1 := Lib.hid hB1
      have zz : w.heap.size ≤ w'.heap.size := hB1.size
      have hpl : posF l p ≤ n := by have := posF_le l p; have := HN.out; omega
      clear hO hNE hGG hB1 hO2 hBT hgw hc
      go_wp2_with (go_at_call 58; go_loud ((refine (ins_any (base := 0) (n := n) (i := posF l p) (g := w'.heap.size) (T := 22) (x := p) _ HO2.out (Nat.zero_le _) (by omega) hpl (BoxT.new _ _ _) HGW.out (fun u hu => by obtain ⟨x, _, rfl⟩ := List.mem_map.1 hu; rfl)).mono ?_); rintro e9 w9 ⟨B, cap9, rfl, hi9⟩; have Y9 : BoxT w9 166 rb #[.slice A n cap] := (show BoxT w9 166 rb #[.slice A n cap] from HBT.out.only (S := fun k => some k = (Value.slice A n cap).ownBlock) ⟨hi9.2.1.os, hi9.2.1.tape, hi9.2.1.output, hi9.2.1.size, fun k hk hn => hi9.2.1.block k hk hn⟩ (fun e => HNE2.out e.symm)); have c9 := Y9.box.cell; have f9 := Y9.box.free; have z9 := Y9.lt; have HI9 := Lib.hid hi9; have HY9 := Lib.hid Y9; clear hi9 Y9))
      go_ret
      have S1 : Stp (· = π) c w c (w'.alloc (.cells #[.int .u32 p] 22)) := Stp.of_below _ HF.out (HB1.out.alloc zz _)
      obtain ⟨c', S2, hc'⟩ := ins_paint S1.fresh (fun g hg => (HG2.out g hg)) HI9.out
      have S3 : Stp (· = π) c' w9 c' (w9.setCell ⟨rb, 0, none⟩ (.slice B (n + 1) cap9)) := by
        have hcr : c' rb = π := (S2.col rb (by have := HBT.out.lt; exact this)).trans HCB.out
        exact ⟨(Only.refl _ _).setCell (p := ⟨rb, 0, none⟩) (.inl hcr) _, fun _ _ => rfl, fun k hk => S2.fresh k (by simpa using hk)⟩
      refine ⟨rfl, c', (S1.trans S2).trans S3, B, cap9, ?_, ?_, ?_, ?_, addP_ok HK.out HP.out HM.out, by rw [addP_len]; have := HN.out; omega⟩
      · rw [addP_len, HN.out]
        simpa using HY9.out.set (i := 0) (.slice B (n + 1) cap9)
      · exact (S2.col rb (by have := HBT.out.lt; exact this)).trans HCB.out
      · rw [addP_len, HN.out]
        have h0 := HI9.out.1
        rw [show (l.map (Value.int .u32)).take (posF l p) ++ .int .u32 p :: (l.map (Value.int .u32)).drop (posF l p) = (addP l p).map (Value.int .u32) by simp [addP, List.map_take, List.map_drop]] at h0
        exact ownsRow_setCell_other h0 (own_ne HY9.out h0 (by decide)) _
      · rw [addP_len, HN.out]
        exact hc'
end Go.Proofs.Ytjcbmfopcohcmaa
