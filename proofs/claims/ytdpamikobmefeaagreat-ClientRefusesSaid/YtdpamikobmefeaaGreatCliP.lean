/- The client: Put (under way). Conditions: it is one. -/
import Derived.Test.YtdpamikobmefeaaGreatCliW
import Derived.Test.YtdpamikobmefeaaGreatInsertC
namespace Go.Proofs.YtdpamikobmefeaaGreat
open Go.RowKit Go.ChangeShapes Go.Maps
set_option maxRecDepth 100000
set_option linter.unusedVariables false
set_option linter.unusedSimpArgs false

/-- slices.Clone, as a row of one's own. -/
theorem clone_own {D : Nat → Prop} {A : Option Addr} {n c : Nat} {xs : List Int} (w : World) (hx : Ints w D .u32 4 A n c xs) (hD : ∀ b, D b → b < w.heap.size) :
    Calls Tryz.prog 25 #[.slice A n c] w fun e w' => ∃ B c', e = .returned (.slice B n c') ∧ Ints w' (w.heap.size ≤ ·) .u32 4 B n c' xs ∧ Below w.heap.size w w' ∧ w'.ownsRow w.heap.size 27 1 (.slice B n c') n (xs.map (Value.int .u32)) := by
  obtain ⟨lx, x2, x3, x4, x5, x6, x7⟩ := hx
  have bn : n ≤ 140737488351232 := by omega
  have qS := eql_slice_nil (P := Tryz.prog) Tryz.underlying35
  rcases A with _ | ad
  · have hc := x5 rfl
    have hn : n = 0 := by omega
    subst hn hc
    have hxs : xs = [] := List.eq_nil_of_length_eq_zero lx
    subst hxs
    go_enter Tryz.func25, Tryz.ntmps25
    go_wp2
    go_ret
    exact ⟨none, 0, rfl, ⟨rfl, by omega, by omega, by omega, (fun _ => rfl), (fun x hx => by cases hx), (fun h => by omega)⟩, Below.refl _ _, ⟨rfl, .inl ⟨rfl, rfl⟩⟩⟩
  · have hinfo : (Tryz.prog.info? 27).map (fun i => (i.zero, i.size, i.bytes)) = some (some (.int .u32 0), 1, 4) := by kernel_rfl
    obtain ⟨i0, hi, hz0, hz1, hz2⟩ := info_parts hinfo
    have hown : (w.alloc (.cells #[] 27)).ownsRow w.heap.size 27 1 (.slice (some ⟨w.heap.size, 0, none⟩) 0 0) 0 [] := by
      have := box_owns (base := w.heap.size) (size := 1) (n := 0) (cap := 0) (BoxT.new w #[] 27) rfl (by omega) (by omega) (Nat.le_refl _)
      simpa using this
    have hc1 : ∀ j u, (xs.map (Value.int .u32))[j]? = some u → (w.alloc (.cells #[] 27)).cell? (ad.add j) = some u := by
      intro j u hu
      rw [List.getElem?_map] at hu
      obtain ⟨x, hx, rfl⟩ := Option.map_eq_some_iff.1 hu
      have hj : j < n := by have := (List.getElem?_eq_some_iff.1 hx).1; omega
      obtain ⟨b, off, hb, hd, hcell⟩ := x7 (by omega)
      injection hb with hb; subst hb
      have e1 : (⟨b, off, none⟩ : Addr).add j = ⟨b, off + j, none⟩ := by unfold Addr.add; split <;> simp_all
      rw [e1, (below_a1 w _).cell (p := ⟨b, off + j, none⟩) (hD b hd), hcell j hj, List.getD_eq_getElem?_getD, hx]; rfl
    have hlen : (xs.map (Value.int .u32)).length = n * 1 := by simp [lx]
    have hone : ∀ u ∈ xs.map (Value.int .u32), u.oneCell' = true := by
      intro u hu; obtain ⟨x, _, rfl⟩ := List.mem_map.1 hu; rfl
    have H4 := Lib.hid x4
    have b4 := Lib.hid (show (0 + n) * 4 ≤ 140737488355328 by omega)
    have H6 := Lib.hid x6
    clear lx x2 x3 x4 x5 x6 x7 hD hinfo
    go_enter Tryz.func25, Tryz.ntmps25
    go_wp2_with (at_builtin; refine wpList_append_own _ rfl _ _ 35 rfl w.heap.size 27 i0 (.int .u32 0) 1 4 Tryz.underlying35 hi hz0 hz1 hz2 rfl (by decide) _ 0 [] rfl hown ad n c (xs.map (Value.int .u32)) rfl hlen hc1 hone (by unfold maxLen; omega) b4.out (by rw [size_alloc]; omega) ?_; intro v1 w1 hown1 hgrow1 _; simp only [Nat.zero_add, List.nil_append] at hown1)
    obtain ⟨B, c1, hv, hi1⟩ := ints_of_owns hown1 H6.out H4.out
    have hg1 : Below w.heap.size w w1 := (below_a1 w _).trans ((grown_only hgrow1).below (by rw [size_alloc]; omega) (by intro k hk; subst hk; exact Nat.le_refl _))
    go_ret
    subst hv
    exact ⟨B, c1, rfl, hi1, hg1, hown1⟩
/-- A number put in its place. -/
def insF (l : List Int) (v : Int) : List Int := if l.contains v = true then l else l.take (posF l v) ++ v :: l.drop (posF l v)
/-- The places, hub by hub. -/
def insAll (old : List (List Int)) (vs : List Int) (q : Nat) : List (List Int) := (List.range q).map fun j => insF (old.getD j []) (vs.getD j 0)
theorem insAll_succ (old : List (List Int)) (vs : List Int) (q : Nat) : insAll old vs (q + 1) = insAll old vs q ++ [insF (old.getD q []) (vs.getD q 0)] := by
  unfold insAll
  rw [List.range_succ, List.map_append]
  rfl
theorem insAll_len (old : List (List Int)) (vs : List Int) (q : Nat) : (insAll old vs q).length = q := by unfold insAll; simp
/-- The client's own id of a number. -/
theorem own_id {k : Nat} {number : Int} (hk : k < 16) (hn : U32 number) (w : World) : Calls Tryz.prog 23 #[.int .i64 k, .int .u32 number] w fun e w' => e = .returned (.int .u64 (ownF k number)) ∧ w = w' := own_any _ _ _ hn.1 (by have := hn.2; omega) (by omega) (by omega)
/-- A row's block is there. -/
theorem own_freshC {w : World} {base e size n : Nat} {v : Value} {xs : List Value} (h : w.ownsRow base e size v n xs) : v.ownBlock ≠ some w.heap.size := fun hh => by
  rcases h.2 with ⟨h0, _⟩ | ⟨g, cap, cur, h0, _, h1, _⟩
  · rw [h0] at hh; cases hh
  · rw [h0] at hh
    injection hh with hh
    have hh : g = w.heap.size := hh
    subst hh
    simp at h1
theorem own_geC {w : World} {base e size n g : Nat} {v : Value} {xs : List Value} (h : w.ownsRow base e size v n xs) (hg : some g = v.ownBlock) : base ≤ g := by
  rcases h.2 with ⟨rfl, _⟩ | ⟨g', cap, cur, rfl, hb, _⟩
  · cases hg
  · injection hg with hg; rw [hg]; exact hb
theorem ins_map (xs : List Int) (v : Int) (i : Nat) : (xs.map (Value.int .u32)).take i ++ Value.int .u32 v :: (xs.map (Value.int .u32)).drop i = (xs.take i ++ v :: xs.drop i).map (Value.int .u32) := by simp [List.map_append, List.map_take, List.map_drop]
theorem insF_ok {l : List Int} {v : Int} (hl : l.length ≤ 900) (hu : ∀ x ∈ l, U32 x) (hv : U32 v) : (insF l v).length ≤ 1000 ∧ ∀ x ∈ insF l v, U32 x := by
  unfold insF
  split
  · exact ⟨by omega, hu⟩
  · refine ⟨by simp only [List.length_append, List.length_cons, List.length_take, List.length_drop]; omega, fun x hx => ?_⟩
    rcases List.mem_append.1 hx with h | h
    · exact hu x (List.mem_of_mem_take h)
    · rcases List.mem_cons.1 h with rfl | h
      · exact hv
      · exact hu x (List.mem_of_mem_drop h)
theorem insAll_ok {old : List (List Int)} {vs : List Int} {vn : Nat} (ho : old = [] ∨ (old.length = vn ∧ ∀ p ∈ old, p.Pairwise (· ≤ ·) ∧ p.length ≤ 900 ∧ ∀ x ∈ p, U32 x)) (hu : ∀ x ∈ vs, U32 x) (r : Nat) (p : List Int) (hp : (insAll old vs vn)[r]? = some p) : p.length ≤ 1000 ∧ ∀ x ∈ p, U32 x := by
  unfold insAll at hp
  rw [List.getElem?_map] at hp
  obtain ⟨q, _, rfl⟩ := Option.map_eq_some_iff.1 hp
  have hv : U32 (vs.getD q 0) := by
    rw [List.getD_eq_getElem?_getD]
    cases h : vs[q]? with
    | none => exact ⟨by decide, by decide⟩
    | some x => exact hu x (List.mem_of_getElem? h)
  have ho2 : (old.getD q []).length ≤ 900 ∧ ∀ x ∈ old.getD q [], U32 x := by
    rw [List.getD_eq_getElem?_getD]
    cases h : old[q]? with
    | none => exact ⟨by decide, fun x hx => by cases hx⟩
    | some x =>
      rcases ho with rfl | ⟨_, ho⟩
      · cases h
      · exact (ho x (List.mem_of_getElem? h)).2
  exact insF_ok ho2.1 ho2.2 hv
theorem Sta.heldSet {W w : World} {ts : List Thing} {ρ : List Int} {hm : Nat} {H : List HeldE} {x : HeldE} {pA lA : Option Addr} {pn pc ln lc : Nat} (i : Nat) (h : Sta W ts w) (hi : ts[i]? = some (tHeld ρ hm H)) (hρ : ρ ≠ []) (hN : H.length < 1000000) (hid : U64 x.key) (hp : ∀ c, S0 W ts c w → u32sE.At w (Quiet c w) pA pn pc x.places) (hl : ∀ c, S0 W ts c w → Ints w (Quiet c w) .u32 4 lA ln lc x.last) :
    ∃ w', (Instr.mapUpdate 72 (.map (some hm)) (.int .u64 x.key) (.agg #[.slice pA pn pc, .slice lA ln lc])).run Tryz.prog w = .ok () w' ∧ Sta W (ts.set i (tHeld ρ hm (putH H x))) w' := by
  obtain ⟨c, h⟩ := h
  obtain ⟨D, hc, hm0, hd⟩ := h.get hi
  obtain ⟨upd, hupd⟩ := heldIf_upd hm0 u64_key Tryz.underlying72 (by unfold maxLen; omega) (keyOf_id hid)
  obtain ⟨u1, u2, u3⟩ := hupd w (.agg #[.slice pA pn pc, .slice lA ln lc]) (Below.refl _ _) rfl
  have st : Stp (· = ρ) c w c (upd w (.agg #[.slice pA pn pc, .slice lA ln lc])) := ⟨u3.mono fun k _ hk => by subst hk; exact hc, fun _ _ => rfl, fun k hk => h.fresh k (Nat.le_trans u3.size hk)⟩
  have hq : ∀ b, Quiet c w b → b < w.heap.size → (upd w (.agg #[.slice pA pn pc, .slice lA ln lc])).heap[b]? = w.heap[b]? ∧ Quiet c (upd w (.agg #[.slice pA pn pc, .slice lA ln lc])) b := fun b hb hlt => ⟨u3.block b hlt (fun e => by subst e; exact hρ (hc.symm.trans hb.1)), hb.1, Nat.lt_of_lt_of_le hb.2 u3.size⟩
  have hd2 : MapOf kH (HVal c (upd w (.agg #[.slice pA pn pc, .slice lA ln lc]))) D H := hd.imp fun y hy v hv => by
    obtain ⟨a1, a2, a3, a4, a5, a6, rfl, h1, h2, h3⟩ := hv
    exact ⟨a1, a2, a3, a4, a5, a6, rfl, h1, h2.move hq, h3.move hq⟩
  have hd3 := held_put (x := x) (v := .agg #[.slice pA pn pc, .slice lA ln lc]) hd2 (ownsMap_tidy hm0 u64_key) ⟨pA, pn, pc, lA, ln, lc, rfl, hid, (hp c h).move hq, (hl c h).move hq⟩
  have ht := ownsMap_tight u2
  rw [hd3.size] at ht
  exact ⟨_, u1, Sta.turn h hi hρ (t' := tHeld ρ hm (putH H x)) rfl st ⟨_, hc, ht, hd3⟩ rfl⟩
set_option maxHeartbeats 8000000 in
theorem cli_put {W w : World} {ts : List Thing} {π ρ πo : List Int} {cb k hm : Nat} {C : Array Value} {attrs : Int} {OA : Option Addr} {on oc : Nat} {bs : List Nat} {number : Int} {vA : Option Addr} {vn vc : Nat} {vs : List Int} {H : List HeldE} (i0 j ih : Nat) (hk : k < 16) (h : Sta W ts w) (hi : ts[i0]? = some (tBlk π cb C)) (hπ : π ≠ []) (hC0 : C[0]? = some (.int .i64 attrs)) (hC : C[1 + k]? = some (.slice OA on oc)) (hC17 : C[17]? = some (.map (some hm))) (hj : ts[j]? = some (tAt ptrE OA on oc bs)) (hih : ts[ih]? = some (tHeld ρ hm H)) (hρ : ρ ≠ []) (hA : on = 0 → OA = none) (hon : on < 400)
    (hnum : U32 number) (hnb : NotBusy w bs (ownF k number)) (hv : ∀ c, S0 W ts c w → Ints w (Quiet c w) .u32 4 vA vn vc vs) (hu : ∀ x ∈ vs, U32 x) (hvn : (vn : Int) = attrs) (hvn8 : vn ≤ 8) (hHn : H.length < 900000) (hiI : ih ≠ i0) (hjI : ih ≠ j) (hπo : πo ≠ []) (hcol : ∀ x ∈ ts, (x.π ≠ [10] ∧ x.π ≠ [11]) ∧ x.π ≠ πo ∧ x.π ≠ [7] ∧ x.π ≠ [8] ∧ x.π ≠ [9]) (hpo : (πo ≠ [7] ∧ πo ≠ [8] ∧ πo ≠ [9]) ∧ πo ≠ [10] ∧ πo ≠ [11]) (hold : plH H (ownF k number) = [] ∨ ((plH H (ownF k number)).length = vn ∧ ∀ p ∈ plH H (ownF k number), p.Pairwise (· ≤ ·) ∧ p.length ≤ 900 ∧ ∀ x ∈ p, U32 x)) :
    Calls Tryz.prog 9 #[.pointer (some ⟨cb, 0, none⟩), .int .i64 k, .int .u32 number, .slice vA vn vc] w fun e w' => ∃ (A' : Option Addr) (c' : Nat) (B : Option Addr) (bc : Nat) (ob wm : Nat) (vM vV : Value), e = .returned (.tuple #[.int .i64 ((on : Int) + 1), .slice B (allM k ((on : Int) + 1) (ownF k number) vs true (insAll (plH H (ownF k number)) vs vn) vn).length bc, .int .i64 0]) ∧ Sta W ((ts.set ih (tHeld ρ hm (putH H ⟨ownF k number, insAll (plH H (ownF k number)) vs vn, vs⟩))).set i0 (tBlk π cb (C.setIfInBounds (1 + k) (.slice A' (on + 1) c'))) ++ [tBlk πo ob (opC 1 (ownF k number) vM wm vV), tAt ptrE A' (on + 1) c' (bs ++ [ob]), tAt msgE B (allM k ((on : Int) + 1) (ownF k number) vs true (insAll (plH H (ownF k number)) vs vn) vn).length bc (allM k ((on : Int) + 1) (ownF k number) vs true (insAll (plH H (ownF k number)) vs vn) vn)]) w' := by
  have hX := h.blk hi
  have c0 : w.cell? ⟨cb, 0, none⟩ = some (.int .i64 attrs) := (hX.cell 0).trans hC0
  have fb := hX.free; have zb := hX.lt
  have HX := Lib.hid hX; have HC := Lib.hid hC; have HAT := Lib.hid (h.at (E := ptrE) hj); have HNB := Lib.hid hnb; have HJ := Lib.hid hj; have HPO := Lib.hid hpo
  have hne : ((vn : Int) != attrs) = false := by simp [hvn]
  obtain ⟨id, hid⟩ : ∃ id, ownF k number = id := ⟨_, rfl⟩
  have HID := Lib.hid hid
  rw [hid] at HNB hold ⊢
  obtain ⟨old, hol⟩ : ∃ old, plH H id = old := ⟨_, rfl⟩
  rw [hol] at hold ⊢
  have HOL := Lib.hid hol
  clear hol
  have HU64 := Lib.hid (show U64 id by rw [← hid]; have := ownF_bound k number hnum.1 (by have := hnum.2; omega); exact ⟨by omega, by omega⟩)
  have HOLD := Lib.hid hold
  clear hold
  have HS := Lib.hid (show Sta W (tInts vA vn vc vs :: ts) w from (h.addD (t := tInts vA vn vc vs) rfl hv).perm' (List.perm_append_comm (l₂ := [tInts vA vn vc vs])))
  have HN := Lib.hid hnum; have HCOL := Lib.hid hcol; have HU := Lib.hid hu; have HI := Lib.hid hi; have HIH := Lib.hid hih; have HC17 := Lib.hid hC17
  clear hX hC0 hC hj hnb hid hv h hnum hcol hu hi hih hC17
  go_enter Tryz.func9, Tryz.ntmps9
  go_upto_region 9 with (first
    | (go_at_call 22; go_loud (refine (may_ok hk HX.out HC.out (by omega)).mono ?_; rintro e1 w1 ⟨rfl, rfl⟩))
    | (go_at_call 23; go_loud (refine (own_id hk HN.out _).mono ?_; rintro e2 w2 ⟨rfl, rfl⟩; rw [HID.out]))
    | (go_at_call 24; go_loud (refine (busy_no hk HX.out HC.out HAT.out HNB.out).mono ?_; rintro e3 w3 ⟨rfl, hb3⟩; have S3 := Lib.hid (HS.out.later hb3); have HB3 := Lib.hid hb3; clear hb3)))
  obtain ⟨c5, hv5⟩ := S3.out.get (i := 0) (t := tInts vA vn vc vs) rfl
  have HV := Lib.hid (show Ints w3 (· < w3.heap.size) .u32 4 vA vn vc vs from (show Ints w3 (Quiet c5 w3) .u32 4 vA vn vc vs from hv5).move fun b hb hl => ⟨rfl, hl⟩)
  clear hv5
  go_upto_region 10 with (go_at_call 25; go_loud ((with_reducible refine (clone_u32 _ HV.out (fun b hb => hb)).mono ?_); rintro e4 w4 hn; obtain ⟨v4, rfl, B4, m4, c4, rfl, hi4, hb4, _⟩ := hn; have S4 := Lib.hid (show Sta W (tInts B4 m4 c4 vs :: tInts vA vn vc vs :: ts) w4 from (S3.out.addInts hb4 hi4).perm' (List.perm_append_comm (l₂ := [tInts B4 m4 c4 vs]))); clear hi4 hb4))
  refine wp_abs (fun wx => Sta W (tBlk [10] w4.heap.size #[.slice none 0 0, .slice B4 m4 c4] :: tRow u32sE [11] (.slice none 0 0) [] :: tInts B4 m4 c4 vs :: tInts vA vn vc vs :: ts) wx) ?_ ?_
  · have s5 := S4.out.addBlk [10] (by simp) (fun x hx => by
      simp only [List.mem_cons] at hx
      rcases hx with rfl | rfl | hx
      · simp [tInts]
      · simp [tInts]
      · exact (HCOL.out x hx).1.1) #[.slice none 0 0, .slice B4 m4 c4] 83
    have s6 := s5.rowNil u32sE [11] (by simp) (fun x hx => by
      simp only [List.mem_append, List.mem_cons, List.not_mem_nil, or_false] at hx
      rcases hx with (rfl | rfl | hx) | rfl
      · simp [tInts]
      · simp [tInts]
      · exact (HCOL.out x hx).1.2
      · simp [tBlk])
    rw [List.append_assoc] at s6
    exact s6.perm' List.perm_append_comm
  generalize w4.heap.size = tb
  intro wx hsx
  have HSX := Lib.hid hsx
  clear hsx S4
  have hm4 : vn = m4 := by
    obtain ⟨c6, h6⟩ := HSX.out.get (i := 2) (t := tInts B4 m4 c4 vs) rfl
    obtain ⟨c7, h7⟩ := HSX.out.get (i := 3) (t := tInts vA vn vc vs) rfl
    exact (show Ints wx (Quiet c7 wx) .u32 4 vA vn vc vs from h7).1.symm.trans (show Ints wx (Quiet c6 wx) .u32 4 B4 m4 c4 vs from h6).1
  subst hm4
  go_wp2
  go_loopw [47] (fun s47 wr => ∃ (q : Nat) (vP : Value), q ≤ vn ∧ s47 = .int .i64 q ∧ Sta W (tBlk [10] tb #[vP, .slice B4 vn c4] :: tRow u32sE [11] vP (insAll old vs q) :: tInts B4 vn c4 vs :: tInts vA vn vc vs :: ts) wr) (fun s _ => vn - (intOf s).toNat)
  case atStart => exact ⟨0, .slice none 0 0, Nat.zero_le _, rfl, HSX.out⟩
  case round =>
    obtain ⟨q, vP, hq, rfl, hs⟩ := hrel
    have HR := Lib.hid hs
    by_cases hlt : q < vn
    · obtain ⟨c7, hiv⟩ := hs.get (i := 3) (t := tInts vA vn vc vs) rfl
      have hiv : Ints wr (Quiet c7 wr) .u32 4 vA vn vc vs := hiv
      have hvl : vs.length = vn := hiv.1
      obtain ⟨vb, voff, rfl, dvb, dvc⟩ := hiv.2.2.2.2.2.2 (by omega)
      obtain ⟨v, hv⟩ : ∃ v, vs.getD q 0 = v := ⟨_, rfl⟩
      have dv : wr.cell? ⟨vb, voff + q, none⟩ = some (.int .u32 v) := by rw [← hv]; exact dvc q hlt
      have zvb := dvb.2
      have HVU := Lib.hid (show U32 v by rw [← hv]; exact ints_u32 HU.out (by omega))
      have HVV := Lib.hid hv
      have hbx := hs.blk (i := i0 + 4) (π := π) (b := cb) (C := C) HI.out
      have c17 : wr.cell? ⟨cb, 17, none⟩ = some (.map (some hm)) := (hbx.cell 17).trans HC17.out
      have fcb := hbx.free; have zcb := hbx.lt
      obtain ⟨c8, D, _, hmp, hmd⟩ := hs.get (i := ih + 4) (t := tHeld ρ hm H) HIH.out
      obtain ⟨pA, pn, pc, lA, ln, lc, hat, hpl⟩ := held_look hmd id
      rw [HOL.out] at hpl
      have hlook : (Instr.lookup 72 (.map (some hm)) (.int .u64 id) false).run Tryz.prog wr = .ok (.agg #[.slice pA pn pc, .slice lA ln lc]) wr := heldIf_run hmp u64_key Tryz.underlying72 (z := .agg #[.slice none 0 0, .slice none 0 0]) (by kernel_rfl) rfl (keyOf_id HU64.out) hat
      have hfld : (Instr.field 83 (.agg #[.slice pA pn pc, .slice lA ln lc]) 0).run Tryz.prog wr = .ok (.slice pA pn pc) wr := by rfl
      have hpn : old.length = pn := hpl.1
      have HPL := Lib.hid hpl
      clear hs hiv dvb dvc hv hbx hmp hmd hat hpl
      rcases HOLD.out with ho | ⟨ho1, ho2⟩
      · have hp0 : pn = 0 := by rw [← hpn, ho]; rfl
        subst hp0
        have hq0 : old.getD q [] = [] := by rw [ho]; rfl
        have hin : insF (old.getD q []) v = [v] := by rw [hq0]; rfl
        have HIN := Lib.hid hin
        clear hq0 hin ho
        go_upto_region 20 with (first
          | (go_at_call 26; go_loud (refine (bin_u32 v _ (no_intsC wr (fun _ => True)) List.Pairwise.nil).mono ?_; rintro e5 w5 ⟨rfl, hd5⟩; have HD5 := Lib.hid (Drew.below hd5); clear hd5))
          | (go_at_call 27; go_loud (refine (ins_any (base := w5.heap.size) (n := 0) (i := 0) (xs := []) (x := v) (v := .slice none 0 0) (T := 27) (w5.alloc (.cells #[.int .u32 v] 27)) ⟨rfl, .inl ⟨rfl, rfl⟩⟩ (by rw [size_alloc]; omega) (by omega) (by omega) (BoxT.new _ _ _) (by simp [Value.ownBlock]) (by simp)).mono ?_; rintro e6 w6 ⟨B6, c6, rfl, how6, hgr6, _⟩; have HO6 := Lib.hid how6; have HG6 := Lib.hid hgr6; clear how6 hgr6)))
        have HB6 := Lib.hid (show Below wr.heap.size wr w6 from below_from (below_from HD5.out (below_a1 w5 _) HD5.out.size) ⟨HG6.out.os, HG6.out.tape, HG6.out.output, HG6.out.size, fun i hi => HG6.out.block i hi (by simp [Value.ownBlock])⟩ (by rw [size_alloc]; have := HD5.out.size; omega))
        have HI6 := Lib.hid (show Ints w6 (wr.heap.size ≤ ·) .u32 4 B6 1 c6 [v] from by
          obtain ⟨Bz, cz, ez, hz⟩ := ints_of_owns (k := .u32) (bytes := 4) (xs := [v]) HO6.out (fun x hx => by simp only [List.mem_singleton] at hx; subst hx; exact u32_wfC HVU.out) (by omega)
          injection ez with e1 e2 e3
          subst e1 e3
          exact hz.move fun b hb _ => ⟨rfl, Nat.le_trans HD5.out.size hb⟩)
        have S6 := Lib.hid (show Sta W (tInts B6 1 c6 [v] :: tBlk [10] tb #[vP, .slice B4 vn c4] :: tRow u32sE [11] vP (insAll old vs q) :: tInts B4 vn c4 vs :: tInts (some ⟨vb, voff, none⟩) vn vc vs :: ts) w6 from (HR.out.addInts HB6.out HI6.out).perm' (List.perm_append_comm (l₂ := [tInts B6 1 c6 [v]])))
        have hbt := S6.out.blk (i := 1) (π := [10]) (b := tb) rfl
        have ct0 : w6.cell? ⟨tb, 0, none⟩ = some vP := hbt.cell 0
        have ft0 := hbt.free; have zt0 := hbt.lt
        clear hbt
        go_wp2_with (at_builtin; go_loud (refine Sta.wpList_push (E := u32sE) (r := [v]) 2 rfl _ _ rfl vP rfl S6.out rfl (by simp) rfl (fun c h => ⟨B6, 1, c6, rfl, h.get (i := 0) rfl⟩) (by have := insAll_len old vs q; omega) ?_; intro B7 c7p w7 st7; have S7 := Lib.hid (show Sta W (tInts B6 1 c6 [v] :: tBlk [10] tb #[vP, .slice B4 vn c4] :: tRow u32sE [11] (.slice B7 ((insAll old vs q).length + 1) c7p) (insAll old vs q ++ [[v]]) :: tInts B4 vn c4 vs :: tInts (some ⟨vb, voff, none⟩) vn vc vs :: ts) w7 from st7); have hbt7 := S7.out.blk (i := 1) (π := [10]) (b := tb) rfl; have ct7 : w7.cell? ⟨tb, 0, none⟩ = some vP := hbt7.cell 0; have ft7 := hbt7.free; have zt7 := hbt7.lt; clear st7 hbt7))
        have S8 := Lib.hid ((S7.out.store (i := 1) (π := [10]) (b := tb) 0 (.slice B7 ((insAll old vs q).length + 1) c7p) rfl (by simp) rfl).pick (ts' := tBlk [10] tb #[.slice B7 ((insAll old vs q).length + 1) c7p, .slice B4 vn c4] :: tRow u32sE [11] (.slice B7 ((insAll old vs q).length + 1) c7p) (insAll old vs q ++ [[v]]) :: tInts B4 vn c4 vs :: tInts (some ⟨vb, voff, none⟩) vn vc vs :: ts) (.cons _ (List.Sublist.refl _)))
        have S9 := Lib.hid (show Sta W (tBlk [10] tb #[.slice B7 ((insAll old vs q).length + 1) c7p, .slice B4 vn c4] :: tRow u32sE [11] (.slice B7 ((insAll old vs q).length + 1) c7p) (insAll old vs (q + 1)) :: tInts B4 vn c4 vs :: tInts (some ⟨vb, voff, none⟩) vn vc vs :: ts) _ from by rw [insAll_succ, HVV.out, HIN.out]; exact S8.out)
        clear S8
        exact ⟨⟨q + 1, .slice B7 ((insAll old vs q).length + 1) c7p, by omega, by go_num, S9.out⟩, by show vn - ((q : Int) + 1).toNat < vn - (q : Int).toNat; omega⟩
      · have hqn : q < pn := by omega
        obtain ⟨pb, poff, xs, sA, sm, sc, rfl, dpb, hxq, dps, hxi⟩ := u32s_at HPL.out hqn
        have hxs : old.getD q [] = xs := by rw [List.getD_eq_getElem?_getD, hxq]; rfl
        have hxm : xs ∈ old := List.mem_of_getElem? hxq
        obtain ⟨hsrt, hsl, hsu⟩ := ho2 xs hxm
        have HXI := Lib.hid hxi; have HSR := Lib.hid hsrt; have HSU := Lib.hid hsu; have HXS := Lib.hid hxs
        have HDP := Lib.hid (show ∀ b, Quiet c8 wr b → b < wr.heap.size from fun b hb => hb.2)
        have hsm : xs.length = sm := hxi.1
        have hsm9 : sm ≤ 900 := by omega
        have zpb := dpb.2
        clear hxi hsrt hsu hxs hxm hxq dpb ho1 ho2 hsl
        by_cases hcn : xs.contains v = true
        · have hin : insF (old.getD q []) v = xs := by rw [HXS.out]; unfold insF; rw [if_pos hcn]
          have HIN := Lib.hid hin
          clear hin
          go_upto_region 20 with (first
            | (go_at_call 25; go_loud (refine (clone_own _ HXI.out HDP.out).mono ?_; rintro e5 w5 ⟨B6, c6, rfl, hi5, hb5, how5⟩; have HI5 := Lib.hid hi5; have HB5 := Lib.hid hb5; have HO5 := Lib.hid how5; clear hi5 hb5 how5))
            | (go_at_call 26; go_loud (refine (bin_u32 v _ HI5.out HSR.out).mono ?_; rintro e6 w6 ⟨rfl, hd6⟩; rw [hcn]; have HD6 := Lib.hid (Drew.below hd6); have HO6 := Lib.hid (ownsRow_only HO5.out (Only.of_below (S := fun _ => False) HD6.out) (fun _ _ h => h)); clear hd6)))
          have HB6 := Lib.hid (show Below wr.heap.size wr w6 from below_from HB5.out HD6.out HB5.out.size)
          have HI6 := Lib.hid (show Ints w6 (wr.heap.size ≤ ·) .u32 4 B6 sm c6 xs from by
            obtain ⟨Bz, cz, ez, hz⟩ := ints_of_owns (k := .u32) (bytes := 4) HO6.out (fun x hx => u32_wfC (HSU.out x hx)) (by omega)
            injection ez with e1 e2 e3
            subst e1 e3
            exact hz)
          have S6 := Lib.hid (show Sta W (tInts B6 sm c6 xs :: tBlk [10] tb #[vP, .slice B4 vn c4] :: tRow u32sE [11] vP (insAll old vs q) :: tInts B4 vn c4 vs :: tInts (some ⟨vb, voff, none⟩) vn vc vs :: ts) w6 from (HR.out.addInts HB6.out HI6.out).perm' (List.perm_append_comm (l₂ := [tInts B6 sm c6 xs])))
          have hbt := S6.out.blk (i := 1) (π := [10]) (b := tb) rfl
          have ct0 : w6.cell? ⟨tb, 0, none⟩ = some vP := hbt.cell 0
          have ft0 := hbt.free; have zt0 := hbt.lt
          clear hbt
          go_wp2_with (at_builtin; go_loud (refine Sta.wpList_push (E := u32sE) (r := xs) 2 rfl _ _ rfl vP rfl S6.out rfl (by simp) rfl (fun c h => ⟨B6, sm, c6, rfl, h.get (i := 0) rfl⟩) (by have := insAll_len old vs q; omega) ?_; intro B7 c7p w7 st7; have S7 := Lib.hid (show Sta W (tInts B6 sm c6 xs :: tBlk [10] tb #[vP, .slice B4 vn c4] :: tRow u32sE [11] (.slice B7 ((insAll old vs q).length + 1) c7p) (insAll old vs q ++ [xs]) :: tInts B4 vn c4 vs :: tInts (some ⟨vb, voff, none⟩) vn vc vs :: ts) w7 from st7); have hbt7 := S7.out.blk (i := 1) (π := [10]) (b := tb) rfl; have ct7 : w7.cell? ⟨tb, 0, none⟩ = some vP := hbt7.cell 0; have ft7 := hbt7.free; have zt7 := hbt7.lt; clear st7 hbt7))
          have S8 := Lib.hid ((S7.out.store (i := 1) (π := [10]) (b := tb) 0 (.slice B7 ((insAll old vs q).length + 1) c7p) rfl (by simp) rfl).pick (ts' := tBlk [10] tb #[.slice B7 ((insAll old vs q).length + 1) c7p, .slice B4 vn c4] :: tRow u32sE [11] (.slice B7 ((insAll old vs q).length + 1) c7p) (insAll old vs q ++ [xs]) :: tInts B4 vn c4 vs :: tInts (some ⟨vb, voff, none⟩) vn vc vs :: ts) (.cons _ (List.Sublist.refl _)))
          have S9 := Lib.hid (show Sta W (tBlk [10] tb #[.slice B7 ((insAll old vs q).length + 1) c7p, .slice B4 vn c4] :: tRow u32sE [11] (.slice B7 ((insAll old vs q).length + 1) c7p) (insAll old vs (q + 1)) :: tInts B4 vn c4 vs :: tInts (some ⟨vb, voff, none⟩) vn vc vs :: ts) _ from by rw [insAll_succ, HVV.out, HIN.out]; exact S8.out)
          clear S8
          exact ⟨⟨q + 1, .slice B7 ((insAll old vs q).length + 1) c7p, by omega, by go_num, S9.out⟩, by show vn - ((q : Int) + 1).toNat < vn - (q : Int).toNat; omega⟩
        · have hcn' : xs.contains v = false := by simpa using hcn
          have hin : insF (old.getD q []) v = xs.take (posF xs v) ++ v :: xs.drop (posF xs v) := by rw [HXS.out]; unfold insF; rw [if_neg hcn]
          have HIN := Lib.hid hin
          have hpl : posF xs v ≤ sm := by rw [← hsm]; unfold posF; exact List.countP_le_length
          clear hin
          go_upto_region 20 with (first
            | (go_at_call 25; go_loud (refine (clone_own _ HXI.out HDP.out).mono ?_; rintro e5 w5 ⟨B5, c5x, rfl, hi5, hb5, how5⟩; have HI5 := Lib.hid hi5; have HB5 := Lib.hid hb5; have HO5 := Lib.hid how5; clear hi5 hb5 how5))
            | (go_at_call 26; go_loud (refine (bin_u32 v _ HI5.out HSR.out).mono ?_; rintro e6 w6 ⟨rfl, hd6⟩; rw [hcn']; have HD6 := Lib.hid (Drew.below hd6); have HO6 := Lib.hid (ownsRow_only HO5.out (Only.of_below (S := fun _ => False) HD6.out) (fun _ _ h => h)); clear hd6))
            | (go_at_call 27; go_loud (refine (ins_any (base := wr.heap.size) (n := sm) (i := posF xs v) (xs := xs.map (Value.int .u32)) (x := v) (v := .slice B5 sm c5x) (T := 27) (w6.alloc (.cells #[.int .u32 v] 27)) (HO6.out.alloc _) (by rw [size_alloc]; have := HB5.out.size; have := HD6.out.size; omega) (by omega) hpl (BoxT.new _ _ _) (own_freshC HO6.out) (fun u hu => by obtain ⟨x, _, rfl⟩ := List.mem_map.1 hu; rfl)).mono ?_; rintro e7 w6b ⟨B6, c6, rfl, how7, hgr7, _⟩; have HO7 := Lib.hid how7; have HG7 := Lib.hid hgr7; clear how7 hgr7)))
          have HB6 := Lib.hid (show Below wr.heap.size wr w6b from (below_from (below_from HB5.out HD6.out HB5.out.size) (below_a1 w6 (.cells #[.int .u32 v] 27)) (by have := HB5.out.size; have := HD6.out.size; omega)).trans ⟨HG7.out.os, HG7.out.tape, HG7.out.output, HG7.out.size, fun i hi => HG7.out.block i (by rw [size_alloc]; have := HB5.out.size; have := HD6.out.size; omega) (fun h => by have := own_geC HO6.out h; omega)⟩)
          have HI6 := Lib.hid (show Ints w6b (wr.heap.size ≤ ·) .u32 4 B6 (sm + 1) c6 (xs.take (posF xs v) ++ v :: xs.drop (posF xs v)) from by
            have h7 := HO7.out
            rw [ins_map] at h7
            obtain ⟨Bz, cz, ez, hz⟩ := ints_of_owns (k := .u32) (bytes := 4) h7 (fun x hx => u32_wfC (by
              rcases List.mem_append.1 hx with h | h
              · exact HSU.out x (List.mem_of_mem_take h)
              · rcases List.mem_cons.1 h with rfl | h
                · exact HVU.out
                · exact HSU.out x (List.mem_of_mem_drop h))) (by omega)
            injection ez with e1 e2 e3
            subst e1 e3
            exact hz)
          have S6 := Lib.hid (show Sta W (tInts B6 (sm + 1) c6 (xs.take (posF xs v) ++ v :: xs.drop (posF xs v)) :: tBlk [10] tb #[vP, .slice B4 vn c4] :: tRow u32sE [11] vP (insAll old vs q) :: tInts B4 vn c4 vs :: tInts (some ⟨vb, voff, none⟩) vn vc vs :: ts) w6b from (HR.out.addInts HB6.out HI6.out).perm' (List.perm_append_comm (l₂ := [tInts B6 (sm + 1) c6 (xs.take (posF xs v) ++ v :: xs.drop (posF xs v))])))
          have hbt := S6.out.blk (i := 1) (π := [10]) (b := tb) rfl
          have ct0 : w6b.cell? ⟨tb, 0, none⟩ = some vP := hbt.cell 0
          have ft0 := hbt.free; have zt0 := hbt.lt
          clear hbt
          go_wp2_with (at_builtin; go_loud (refine Sta.wpList_push (E := u32sE) (r := (xs.take (posF xs v) ++ v :: xs.drop (posF xs v))) 2 rfl _ _ rfl vP rfl S6.out rfl (by simp) rfl (fun c h => ⟨B6, (sm + 1), c6, rfl, h.get (i := 0) rfl⟩) (by have := insAll_len old vs q; omega) ?_; intro B7 c7p w7 st7; have S7 := Lib.hid (show Sta W (tInts B6 (sm + 1) c6 (xs.take (posF xs v) ++ v :: xs.drop (posF xs v)) :: tBlk [10] tb #[vP, .slice B4 vn c4] :: tRow u32sE [11] (.slice B7 ((insAll old vs q).length + 1) c7p) (insAll old vs q ++ [(xs.take (posF xs v) ++ v :: xs.drop (posF xs v))]) :: tInts B4 vn c4 vs :: tInts (some ⟨vb, voff, none⟩) vn vc vs :: ts) w7 from st7); have hbt7 := S7.out.blk (i := 1) (π := [10]) (b := tb) rfl; have ct7 : w7.cell? ⟨tb, 0, none⟩ = some vP := hbt7.cell 0; have ft7 := hbt7.free; have zt7 := hbt7.lt; clear st7 hbt7))
          have S8 := Lib.hid ((S7.out.store (i := 1) (π := [10]) (b := tb) 0 (.slice B7 ((insAll old vs q).length + 1) c7p) rfl (by simp) rfl).pick (ts' := tBlk [10] tb #[.slice B7 ((insAll old vs q).length + 1) c7p, .slice B4 vn c4] :: tRow u32sE [11] (.slice B7 ((insAll old vs q).length + 1) c7p) (insAll old vs q ++ [(xs.take (posF xs v) ++ v :: xs.drop (posF xs v))]) :: tInts B4 vn c4 vs :: tInts (some ⟨vb, voff, none⟩) vn vc vs :: ts) (.cons _ (List.Sublist.refl _)))
          have S9 := Lib.hid (show Sta W (tBlk [10] tb #[.slice B7 ((insAll old vs q).length + 1) c7p, .slice B4 vn c4] :: tRow u32sE [11] (.slice B7 ((insAll old vs q).length + 1) c7p) (insAll old vs (q + 1)) :: tInts B4 vn c4 vs :: tInts (some ⟨vb, voff, none⟩) vn vc vs :: ts) _ from by rw [insAll_succ, HVV.out, HIN.out]; exact S8.out)
          clear S8
          exact ⟨⟨q + 1, .slice B7 ((insAll old vs q).length + 1) c7p, by omega, by go_num, S9.out⟩, by show vn - ((q : Int) + 1).toNat < vn - (q : Int).toNat; omega⟩
    · have hqe : vn = q := by omega
      subst hqe
      go_upto_region 22 with fail
      have HPP := Lib.hid (show ∀ (r : Nat) p, (insAll old vs vn)[r]? = some p → p.length ≤ 1000 ∧ ∀ x ∈ p, U32 x from insAll_ok (HOLD.out) HU.out)
      have HCO2 := Lib.hid (show ∀ x ∈ tBlk [10] tb #[.slice none 0 0, .slice B4 vn c4] :: ts, x.π ≠ πo ∧ x.π ≠ [7] ∧ x.π ≠ [8] ∧ x.π ≠ [9] from fun x hx => by
        rcases List.mem_cons.1 hx with rfl | hx
        · exact ⟨fun e => HPO.out.2.1 e.symm, by simp [tBlk], by simp [tBlk], by simp [tBlk]⟩
        · exact (HCOL.out x hx).2)
      -- REGION 22
      obtain ⟨pA, pc, rfl, r1, r2, r3, r4, rat⟩ := hs.rowAt (i := 1) (l := insAll old vs vn) rfl
      rw [insAll_len] at HR hs
      have S1 := Lib.hid (hs.freeze (i := 1) (E := u32sE) rfl (by simp) rfl)
      clear hs HR r1 r2 r3 r4 rat
      refine wp_regs (Θ := Unit) (by kernel_rfl) (by kernel_rfl) 103 rfl (by kernel_rfl) (fun _ i => ([.pointer (some ⟨cb, 0, none⟩), .pointer (some ⟨cb, 0, none⟩), .pointer (some ⟨cb, 17, none⟩), .map (some hm), .int .u64 id, .agg #[.slice pA vn pc, .slice B4 vn c4]] : List Value).getD i undef)
        (fun l _ w2 => Sta W (tBlk [10] tb #[.slice pA vn pc, .slice B4 vn c4] :: tAt u32sE pA vn pc (insAll old vs vn) :: tInts B4 vn c4 vs :: tInts vA vn vc vs :: (if l.getD 6 false = true then ts.set ih (tHeld ρ hm (putH H ⟨id, insAll old vs vn, vs⟩)) else ts)) w2) () ?start22 ?step22 ?done22
      case start22 => exact S1.out.later (Same.drew _).1
      case step22 =>
        intro l θ a w2 i o K ho h0 hsz hd hcl hJ hR hK
        have hi : i < 7 := (Array.getElem?_eq_some_iff.1 ho).1
        have hof := getD_ff h0
        have cl : ∀ j k, Region.waitsFor .any _ j k = true → l.getD k false = false → l.getD j false = false := fun j k hw hk => by
          cases hj : l.getD j false with
          | false => rfl
          | true => rw [hcl j k hw hj] at hk; cases hk
        have so : ∀ k, i ≠ k → (l.setIfInBounds i true).getD k false = l.getD k false := fun k hk => getD_set_other hk
        have se : (l.setIfInBounds i true).getD i false = true := getD_set_self (by rw [hsz]; exact (Array.getElem?_eq_some_iff.1 ho).1)
        have hc : i = 0 ∨ i = 1 ∨ i = 2 ∨ i = 3 ∨ i = 4 ∨ i = 5 ∨ i = 6 := by omega
        rcases hc with rfl | rfl | rfl | rfl | rfl | rfl | rfl
        · obtain rfl := Option.some.inj ho
          have e0 : a.tmps[0]? = some (.pointer (some ⟨cb, 0, none⟩)) := (hR.outer 0 (by kernel_rfl)).trans rfl
          clear hsz h0 hd hcl cl hof
          unfold StepTo
          go_simp
          exact hK () w2 (by simp only [so 6 (by decide)]; exact hJ) (fun _ _ _ => rfl)
        · obtain rfl := Option.some.inj ho
          have e87 : a.tmps[87]? = some (.pointer (some ⟨cb, 0, none⟩)) := hR.reg 0 _ 87 rfl rfl (hd 0 (by kernel_rfl))
          clear hsz h0 hd hcl cl hof
          unfold StepTo
          go_simp
          exact hK () w2 (by simp only [so 6 (by decide)]; exact hJ) (fun _ _ _ => rfl)
        · obtain rfl := Option.some.inj ho
          have e88 : a.tmps[88]? = some (.pointer (some ⟨cb, 0, none⟩)) := hR.reg 1 _ 88 rfl rfl (hd 1 (by kernel_rfl))
          clear hsz h0 hd hcl cl hof
          unfold StepTo
          go_simp
          exact hK () w2 (by simp only [so 6 (by decide)]; exact hJ) (fun _ _ _ => rfl)
        · obtain rfl := Option.some.inj ho
          have e89 : a.tmps[89]? = some (.pointer (some ⟨cb, 17, none⟩)) := hR.reg 2 _ 89 rfl rfl (hd 2 (by kernel_rfl))
          have q6 := cl 6 3 (by kernel_rfl) hof
          simp only [q6, Bool.false_eq_true, if_false] at hJ
          have hbx := hJ.blk (i := i0 + 4) (π := π) (b := cb) (C := C) HI.out
          have cc : w2.cell? ⟨cb, 17, none⟩ = some (.map (some hm)) := (hbx.cell 17).trans HC17.out
          have fb2 := hbx.free; have zb2 := hbx.lt
          clear hbx
          clear hsz h0 hd hcl cl hof
          unfold StepTo
          go_simp
          exact hK () w2 (by simp only [so 6 (by decide), q6, Bool.false_eq_true, if_false]; exact hJ) (fun _ _ _ => rfl)
        · obtain rfl := Option.some.inj ho
          have e12 : a.tmps[12]? = some (.int .u64 id) := (hR.outer 12 (by kernel_rfl)).trans rfl
          clear hsz h0 hd hcl cl hof
          unfold StepTo
          go_simp
          exact hK () w2 (by simp only [so 6 (by decide)]; exact hJ) (fun _ _ _ => rfl)
        · obtain rfl := Option.some.inj ho
          have e13 : a.tmps[13]? = some (.pointer (some ⟨tb, 0, none⟩)) := (hR.outer 13 (by kernel_rfl)).trans rfl
          have hbx := hJ.blk (i := 0) (π := [10]) (b := tb) rfl
          have cc := hbx.cell; have fb2 := hbx.free; have zb2 := hbx.lt
          clear hbx
          clear hsz h0 hd hcl cl hof
          unfold StepTo
          go_simp
          exact hK () w2 (by simp only [so 6 (by decide)]; exact hJ) (fun _ _ _ => rfl)
        · obtain rfl := Option.some.inj ho
          have e90 : a.tmps[90]? = some (.map (some hm)) := hR.reg 3 _ 90 rfl rfl (hd 3 (by kernel_rfl))
          have e91 : a.tmps[91]? = some (.int .u64 id) := hR.reg 4 _ 91 rfl rfl (hd 4 (by kernel_rfl))
          have e92 : a.tmps[92]? = some (.agg #[.slice pA vn pc, .slice B4 vn c4]) := hR.reg 5 _ 92 rfl rfl (hd 5 (by kernel_rfl))
          simp only [hof, Bool.false_eq_true, if_false] at hJ
          obtain ⟨w3, hrun, h3⟩ := hJ.heldSet (x := ⟨id, insAll old vs vn, vs⟩) (pA := pA) (pn := vn) (pc := pc) (lA := B4) (ln := vn) (lc := c4) (ih + 4) (show _ = some (tHeld ρ hm H) from HIH.out) hρ (by omega) HU64.out (fun c h => h.get (i := 1) rfl) (fun c h => h.get (i := 2) rfl)
          clear hsz h0 hd hcl cl
          unfold StepTo
          go_simp
          exact hK () w3 (by simp only [se, if_true]; exact h3) (fun _ _ _ => rfl)
      case done22 =>
        intro l θ a w2 hall hJ hR
        have ha := (hR.whole [some 87, some 88, some 89, some 90, some 91, some 92, none] rfl rfl (by kernel_rfl) hall).trans (b := _) (c := ⟨#[.pointer (some ⟨cb, 0, none⟩), .int .i64 (k : Int), .int .u32 number, .slice vA vn vc, undef, undef, undef, undef, .int .i64 0, .slice none 0 0, .int .i64 0, .int .i64 0, .int .u64 id, .pointer (some ⟨tb, 0, none⟩), u14, u15, u16, u17, u18, u19, .pointer (some ⟨cb, 0, none⟩), .int .i64 (k : Int), .int .i64 0, .int .i64 0, .bool false, undef, .int .i64 (k : Int), .int .u32 number, .int .u64 id, .bool false, .slice vA vn vc, .int .i64 attrs, .pointer (some ⟨cb, 0, none⟩), .pointer (some ⟨cb, 0, none⟩), .pointer (some ⟨cb, 0, none⟩), .int .i64 attrs, .bool false, .bool false, .pointer (some ⟨cb, 0, none⟩), .int .i64 (k : Int), .int .u64 id, .bool false, .slice vA vn vc, .slice B4 vn c4, .agg #[.slice none 0 0, .slice B4 vn c4], .slice vA vn vc, .int .i64 attrs, .int .i64 (vn : Int), .bool false, u49, u50, u51, u52, u53, u54, u55, u56, u57, u58, u59, u60, u61, u62, u63, u64, u65, u66, u67, u68, u69, u70, u71, u72, u73, u74, u75, u76, u77, u78, u79, u80, u81, u82, u83, u84, u85, u86, .pointer (some ⟨cb, 0, none⟩), .pointer (some ⟨cb, 0, none⟩), .pointer (some ⟨cb, 17, none⟩), .map (some hm), .int .u64 id, .agg #[.slice pA vn pc, .slice B4 vn c4], undef, undef, undef, undef, undef, undef, undef, undef, undef, undef], []⟩) (by kernel_rfl)
        subst ha
        simp only [hall 6 (by show 6 < 7; omega), if_true] at hJ
        have S2 := Lib.hid hJ
        have hbx := hJ.blk (i := 0) (π := [10]) (b := tb) rfl
        have ct := hbx.cell; have ft := hbx.free; have zt := hbx.lt
        clear hall hJ hR hbx S1
        have HCO3 := Lib.hid (show ∀ x ∈ tBlk [10] tb #[.slice pA vn pc, .slice B4 vn c4] :: tAt u32sE pA vn pc (insAll old vs vn) :: tInts B4 vn c4 vs :: tInts vA vn vc vs :: ts.set ih (tHeld ρ hm (putH H ⟨id, insAll old vs vn, vs⟩)), x.π ≠ πo ∧ x.π ≠ [7] ∧ x.π ≠ [8] ∧ x.π ≠ [9] from fun x hx => by
          simp only [List.mem_cons] at hx
          rcases hx with rfl | rfl | rfl | rfl | hx
          · exact HCO2.out (tBlk [10] tb #[.slice none 0 0, .slice B4 vn c4]) (List.mem_cons_self ..)
          iterate 3 exact ⟨fun e => hπo e.symm, by simp [tAt, tInts], by simp [tAt, tInts], by simp [tAt, tInts]⟩
          rcases List.mem_or_eq_of_mem_set hx with hx | rfl
          · exact HCO2.out x (List.mem_cons_of_mem _ hx)
          · exact HCO2.out (tHeld ρ hm H) (List.mem_cons_of_mem _ (List.mem_of_getElem? HIH.out)))
        go_wp2_with (go_at_call 28; go_loud (refine (cli_writes (πo := πo) (id := id) (ver := 0) (P := insAll old vs vn) (i0 + 4) (j + 4) hk S2.out (by show (ts.set ih _)[i0]? = _; rw [List.getElem?_set_ne hiI]; exact HI.out) hπ HC.out (by show (ts.set ih _)[j]? = _; rw [List.getElem?_set_ne hjI]; exact HJ.out) hA hon (fun c h => h.get (i := 3) rfl) HU.out hvn8 (fun c h => h.get (i := 1) rfl) (Nat.le_refl _) HPP.out HU64.out hπo HCO3.out HPO.out.1).mono ?_; rintro e8 w8 ⟨A8, c8p, B8, bc8, ob, wm, vM, vV, rfl, st8⟩; have S8 := Lib.hid st8; clear st8))
        refine bodyPost_ret (v := .tuple #[.int .i64 ((on : Int) + 1), .slice B8 (allM k ((on : Int) + 1) id vs true (insAll old vs vn) vn).length bc8, .int .i64 0]) (by simp [results, Tryz.results9, go_sem]) rfl ?_
        exact ⟨A8, c8p, B8, bc8, ob, wm, vM, vV, rfl, S8.out.pick (ts' := (ts.set ih (tHeld ρ hm (putH H ⟨id, insAll old vs vn, vs⟩))).set i0 (tBlk π cb (C.setIfInBounds (1 + k) (.slice A8 (on + 1) c8p))) ++ [tBlk πo ob (opC 1 id vM wm vV), tAt ptrE A8 (on + 1) c8p (bs ++ [ob]), tAt msgE B8 (allM k ((on : Int) + 1) id vs true (insAll old vs vn) vn).length bc8 (allM k ((on : Int) + 1) id vs true (insAll old vs vn) vn)]) (.cons _ (.cons _ (.cons _ (.cons _ (List.Sublist.refl _)))))⟩
end Go.Proofs.YtdpamikobmefeaaGreat
