/- The client: Query of a box that has nothing. Conditions: it is one. -/
import Derived.Test.YtdpamikobmefeaaGreatCliM
import Derived.Test.YtdpamikobmefeaaGreatBoxRE
namespace Go.Proofs.YtdpamikobmefeaaGreat
open Go.RowKit Go.ChangeShapes Go.Maps
set_option maxRecDepth 100000
set_option linter.unusedVariables false
set_option linter.unusedSimpArgs false

theorem Sta.storeR {W w : World} {ts l l' : List Thing} {π : List Int} {b : Nat} {C : Array Value} (j k : Nat) (v : Value) (h : Sta W (ts ++ l) w) (hi : l[j]? = some (tBlk π b C)) (hπ : π ≠ []) (hl : l.set j (tBlk π b (C.setIfInBounds k v)) = l') : Sta W (ts ++ l') (w.setCell ⟨b, k, none⟩ v) :=
  h.store (i := ts.length + j) k v (by rw [List.getElem?_append_right (by omega), show ts.length + j - ts.length = j by omega]; exact hi) hπ (by rw [List.set_append_right _ _ (by omega), show ts.length + j - ts.length = j by omega, hl])
theorem Sta.blkR {W w : World} {ts l : List Thing} {π : List Int} {b : Nat} {C : Array Value} (j : Nat) (h : Sta W (ts ++ l) w) (hi : l[j]? = some (tBlk π b C)) : Box w b C :=
  h.blk (i := ts.length + j) (by rw [List.getElem?_append_right (by omega), show ts.length + j - ts.length = j by omega]; exact hi)
/-- A range's values. -/
def spanF (r : Rng) : Int × Int := if r.kind = 1 then (4294967295, 4294967295) else if r.kind = 2 then ((r.lo - 1) % 4294967296, r.hi) else (0, 0)
theorem span_any (r : Rng) (w : World) : Calls Tryz.prog 33 #[.agg #[.int .i64 r.kind, .int .u32 r.lo, .int .u32 r.hi]] w fun e w' => e = .returned (.tuple #[.agg #[.int .u32 (spanF r).1, .int .u32 (spanF r).2], .bool (oneTwo r.kind)]) ∧ Below w.heap.size w w' := by
  obtain ⟨k, lo, hi⟩ := r
  show Calls Tryz.prog 33 #[.agg #[.int .i64 k, .int .u32 lo, .int .u32 hi]] w fun e w' => _
  by_cases h1 : k = 1
  · subst h1; exact span_one lo hi w
  · by_cases h2 : k = 2
    · subst h2; exact span_two lo hi w
    · have e : spanF ⟨k, lo, hi⟩ = (0, 0) := by simp [spanF, h1, h2]
      have e2 : oneTwo k = false := by simp [oneTwo, h1, h2]
      rw [e, e2]
      exact span_none k lo hi w h1 h2
theorem Sta.rngs {W w : World} {ts : List Thing} {i : Nat} {A : Option Addr} {n cap : Nat} {xs : List Rng} (h : Sta W ts w) (hi : ts[i]? = some (tRngs A n cap xs)) : RngsAt w (· < w.heap.size) A n cap xs := by
  obtain ⟨c, h5⟩ := h.get hi
  exact (show RngsAt w (Quiet c w) A n cap xs from h5).move fun b hb hl => ⟨rfl, hl⟩
/-- The cells of an operation that asks. -/
abbrev opQ (st hub page : Int) (BA : Option Addr) (bn bc : Nat) (after : Int) (first : Bool) (cv : Option Addr) (g : Nat) : Array Value := #[.int .i64 st, .bool false, .int .u64 0, .slice none 0 0, .map none, .slice none 0 0, .int .i64 hub, .int .i64 page, .slice BA bn bc, .int .u64 after, .bool first, .pointer cv, .pointer (some ⟨g, 0, none⟩)]
theorem rngs_cell {w : World} {D : Nat → Prop} {A : Option Addr} {n c k : Nat} {l : List Rng} (h : RngsAt w D A n c l) (hk : k < n) : ∃ b off r, A = some ⟨b, off, none⟩ ∧ D b ∧ l[k]? = some r ∧ w.cell? ⟨b, off + k * 3, none⟩ = some (.int .i64 r.kind) ∧ w.cell? ⟨b, off + k * 3 + 1, none⟩ = some (.int .u32 r.lo) ∧ w.cell? ⟨b, off + k * 3 + 2, none⟩ = some (.int .u32 r.hi) := by
  obtain ⟨hn, _, _, _, _, _, hc⟩ := h
  obtain ⟨b, off, rfl, hd, hc⟩ := hc (by omega)
  have hr : l[k]? = some (l[k]'(by omega)) := List.getElem?_eq_getElem (by omega)
  exact ⟨b, off, _, rfl, hd, hr, hc k _ hr 0 _ rfl, hc k _ hr 1 _ rfl, hc k _ hr 2 _ rfl⟩
set_option maxHeartbeats 8000000 in
theorem qry_done {W w : World} {ts : List Thing} {π πo πg : List Int} {cb k q : Nat} {C : Array Value} {attrs page : Int} {OA : Option Addr} {on oc : Nat} {bs : List Nat} {A : Option Addr} {n cap : Nat} {bl : List Rng} (i0 j : Nat) (hk : k < 16) (h : Sta W ts w) (hi : ts[i0]? = some (tBlk π cb C)) (hπ : π ≠ []) (hC0 : C[0]? = some (.int .i64 attrs)) (hC : C[1 + k]? = some (.slice OA on oc)) (hj : ts[j]? = some (tAt ptrE OA on oc bs)) (hA : on = 0 → OA = none) (hon : on < 400)
    (hb : ∀ c, S0 W ts c w → RngsAt w (Quiet c w) A n cap bl) (hr : rightB attrs bl = true) (hq : q < n) (hp1 : 1 ≤ page) (hp2 : page ≤ 100) (he : emptyB bl = true) (hπo : πo ≠ []) (hπg : πg ≠ []) (hog : πo ≠ πg) (hcol : ∀ x ∈ ts, x.π ≠ πo ∧ x.π ≠ πg) :
    Calls Tryz.prog 11 #[.pointer (some ⟨cb, 0, none⟩), .int .i64 k, .slice A n cap, .int .i64 q, .int .i64 page, .slice none 0 0] w fun e w' => ∃ (A' : Option Addr) (c' ob g : Nat) (B : Option Addr) (bn bc : Nat), e = .returned (.tuple #[.int .i64 ((on + 1 : Nat) : Int), .slice none 0 0, .int .i64 0]) ∧
      Sta W (ts.set i0 (tBlk π cb (C.setIfInBounds (1 + k) (.slice A' (on + 1) c'))) ++ [tGath πg g bl [], tBlk πo ob (opQ 2 q page B bn bc 0 true none g), tAt ptrE A' (on + 1) c' (bs ++ [ob])]) w' := by
  have hX := h.blk hi
  have c0 : w.cell? ⟨cb, 0, none⟩ = some (.int .i64 attrs) := (hX.cell 0).trans hC0
  have fb := hX.free; have zb := hX.lt
  have hln : bl.length = n := by
    obtain ⟨c5, h5⟩ := id h
    exact (hb c5 h5).1
  have hna : (n : Int) = attrs := by
    unfold rightB at hr
    simp only [Bool.and_eq_true, decide_eq_true_eq] at hr
    rw [← hln]; exact hr.1.2
  have hq1 : ¬ (q : Int) < 0 := by omega
  have hq2 : ¬ attrs ≤ (q : Int) := by omega
  have hp3 : ¬ page < 1 := by omega
  have hp4 : ¬ 100 < page := by omega
  have HX := Lib.hid hX; have HC := Lib.hid hC; have HI := Lib.hid hi; have HJ := Lib.hid hj; have HR := Lib.hid hr; have HE := Lib.hid he
  have HS := Lib.hid (show Sta W (ts ++ [tRngs A n cap bl]) w from h.addD (t := tRngs A n cap bl) rfl hb)
  have HCOL := Lib.hid hcol
  clear hX hC0 hC h hi hj hb hr he hcol hln
  obtain ⟨cR, hR0⟩ := HS.out.get (i := ts.length) (t := tRngs A n cap bl) (by rw [List.getElem?_append_right (Nat.le_refl _)]; simp)
  have HRA := Lib.hid ((show RngsAt w (Quiet cR w) A n cap bl from hR0).move (w' := w) (D' := (· < w.heap.size)) fun b hb hl => ⟨rfl, hl⟩)
  clear hR0
  go_enter Tryz.func11, Tryz.ntmps11
  go_upto_region 10 with (first
    | (go_at_call 22; go_loud (refine (may_ok hk HX.out HC.out (by omega)).mono ?_; rintro e1 w1 ⟨rfl, rfl⟩))
    | (go_at_call 29; go_loud (refine (boxright_any attrs w HRA.out (fun b hb => hb)).mono ?_; rintro e2 w2 ⟨rfl, hb2⟩; rw [HR.out]; have S2 := Lib.hid (HS.out.later hb2); have c2 := (hb2.cell (p := ⟨cb, 0, none⟩) zb).trans c0; have fb2 : ∀ i, w2.frozen? ⟨cb, i, none⟩ = false := fun i => (hb2.frozen (p := ⟨cb, i, none⟩) zb).trans (fb i); have zb2 := Nat.lt_of_lt_of_le zb hb2.size; have HB2 := Lib.hid hb2; clear hb2)))
  go_upto_region 11 with (first
    | (go_at_call 30; go_loud (refine (clone_rngs w2 (S2.out.rngs (i := ts.length) (A := A) (n := n) (cap := cap) (xs := bl) (by rw [List.getElem?_append_right (Nat.le_refl _)]; simp)) (fun b hb => hb)).mono ?_; rintro e3 w3 ⟨B3, n3, k3, rfl, hr3, hb3⟩; have S3 := Lib.hid (S2.out.addRngs hb3 hr3); clear hr3 hb3))
    | (go_at_call 31; go_loud (refine (ga_new (A := A) (n := n) (cap := cap) (bl := bl) πg S3.out hπg (by
        intro x hx
        simp only [List.mem_append, List.mem_singleton] at hx
        rcases hx with (hx | rfl) | rfl
        · exact (HCOL.out x hx).2
        · exact fun e => hπg e.symm
        · exact fun e => hπg e.symm) (fun c hc => hc.get (i := ts.length) (t := tRngs A n cap bl) (by rw [List.getElem?_append_left (by simp), List.getElem?_append_right (Nat.le_refl _)]; simp))).mono ?_; rintro e4 w4 ⟨g, rfl, hs4, _⟩; have S4 := Lib.hid hs4; clear hs4)))
  have hoc : ∀ x ∈ ts ++ [tRngs A n cap bl, tRngs B3 n3 k3 bl, tGath πg g bl []], x.π ≠ πo := fun x hx => by
    simp only [List.mem_append, List.mem_cons, List.not_mem_nil, or_false] at hx
    rcases hx with hx | rfl | rfl | rfl
    · exact (HCOL.out x hx).1
    · exact fun e => hπo e.symm
    · exact fun e => hπo e.symm
    · exact fun e => hog e.symm
  refine wp_abs (fun wx => Sta W (ts ++ [tRngs A n cap bl, tRngs B3 n3 k3 bl, tGath πg g bl [], tBlk πo w4.heap.size (opQ 1 q page B3 n3 k3 0 true none g)]) wx) ?_ ?_
  · have s4 := (show Sta W (ts ++ [tRngs A n cap bl, tRngs B3 n3 k3 bl, tGath πg g bl []]) w4 from by have := S4.out; simpa [List.append_assoc] using this).addBlk πo hπo hoc (opQ 1 q page B3 n3 k3 0 true none g) 96
    simpa [List.append_assoc] using s4
  generalize w4.heap.size = ob
  intro wx hsx
  have S5 := Lib.hid hsx
  clear S2 S3 S4 HS hoc hsx c0 fb zb c2 fb2 zb2 HB2 HRA
  have hlx : ∀ (j : Nat) (t : Thing) (l : List Thing), l[j]? = some t → (ts ++ l)[ts.length + j]? = some t := fun j t l h => by rw [List.getElem?_append_right (by omega), show ts.length + j - ts.length = j by omega]; exact h
  have HL := Lib.hid hlx
  clear hlx
  have hbx := S5.out.blk (i := ts.length + 3) (π := πo) (b := ob) (C := opQ 1 q page B3 n3 k3 0 true none g) (HL.out 3 _ _ rfl)
  have d10 : wx.cell? ⟨ob, 10, none⟩ = some (.bool true) := hbx.cell 10
  have fo := hbx.free; have zo := hbx.lt
  obtain ⟨bb, off, r, rfl, hd, hr, r0, r1, r2⟩ := rngs_cell (S5.out.rngs (i := ts.length) (HL.out 0 _ _ rfl)) hq
  have zbb : bb < wx.heap.size := hd
  clear hbx hr hd
  go_upto_region 17 with (go_at_call 33; go_loud (refine (span_any r _).mono ?_; rintro e5 w5 ⟨rfl, hb5⟩; have S6 := Lib.hid (S5.out.later hb5); clear hb5))
  refine wp_abs (fun wx => Sta W (ts ++ [tRngs (some ⟨bb, off, none⟩) n cap bl, tRngs B3 n3 k3 bl, tGath πg g bl [], tBlk πo ob (opQ 1 q page B3 n3 k3 0 true none g)]) wx) (S6.out.later (below_a1 _ _)) ?_
  generalize w5.heap.size = sb
  intro wy hsy
  have S7 := Lib.hid hsy
  clear S6 S5 hsy d10 fo zo r0 r1 r2 zbb
  go_upto_region 18 with (go_at_call 34; go_loud (refine (boxempty_any wy (S7.out.rngs (i := ts.length) (HL.out 0 _ _ rfl)) (fun b hb => hb)).mono ?_; rintro e6 w6 ⟨rfl, hb6⟩; rw [HE.out]; have S8 := Lib.hid (S7.out.later hb6); clear hb6))
  have hbx := S8.out.blk (i := ts.length + 3) (π := πo) (b := ob) (C := opQ 1 q page B3 n3 k3 0 true none g) (HL.out 3 _ _ rfl)
  have d0 : w6.cell? ⟨ob, 0, none⟩ = some (.int .i64 1) := hbx.cell 0
  have fo := hbx.free; have zo := hbx.lt
  have S9 := Lib.hid (show Sta W (ts ++ [tRngs (some ⟨bb, off, none⟩) n cap bl, tRngs B3 n3 k3 bl, tGath πg g bl [], tBlk πo ob (opQ 2 q page B3 n3 k3 0 true none g)]) (w6.setCell ⟨ob, 0, none⟩ (.int .i64 2)) from S8.out.store (i := ts.length + 3) (π := πo) (b := ob) 0 (.int .i64 2) (HL.out 3 _ _ rfl) hπo (by rw [List.set_append_right _ _ (by omega), show ts.length + 3 - ts.length = 3 by omega]; rfl))
  clear hbx
  have hi0 := (List.getElem?_eq_some_iff.1 HI.out).1
  have hj0 := (List.getElem?_eq_some_iff.1 HJ.out).1
  go_wp2_with (go_at_call 35; go_loud (refine (cli_begin i0 j hk S9.out (by rw [List.getElem?_append_left hi0]; exact HI.out) hπ HC.out (by rw [List.getElem?_append_left hj0]; exact HJ.out) hA (by omega)).mono ?_; rintro e7 w7 ⟨A7, c7, rfl, hs7⟩; have SA := Lib.hid hs7; clear hs7))
  refine bodyPost_ret (v := .tuple #[.int .i64 ((on + 1 : Nat) : Int), .slice none 0 0, .int .i64 0]) (by simp [results, Tryz.results11, go_sem]) rfl ?_
  refine ⟨A7, c7, ob, g, B3, n3, k3, rfl, ?_⟩
  have := SA.out
  rw [List.set_append_left _ _ hi0, List.append_assoc] at this
  exact this.pick (List.Sublist.append (List.Sublist.refl _) (.cons _ (.cons _ (List.Sublist.refl _))))
end Go.Proofs.YtdpamikobmefeaaGreat
