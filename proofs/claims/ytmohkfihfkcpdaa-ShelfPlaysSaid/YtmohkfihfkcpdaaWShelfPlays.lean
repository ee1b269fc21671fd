/- The walk of the law ShelfPlays: it returns true. Conditions: none. -/
import Derived.Test.YtmohkfihfkcpdaaStRef
import Derived.Test.YtmohkfihfkcpdaaOps09
namespace Go.Proofs.Ytmohkfihfkcpdaa
open Go.RowKit Go.ChangeShapes Go.Maps
set_option maxRecDepth 100000
set_option linter.unusedVariables false
set_option linter.unusedSimpArgs false

theorem St.pw {W w : World} {obs : List Ob} {rows : List Rw} (h : St W obs rows w) : obs.Pairwise (fun a b => a.π ≠ b.π) := by obtain ⟨c, h⟩ := h; exact h.apart
theorem setOb_a {π : List Int} (h : ([2] : List Int) ≠ π) (b b2 : Nat) (L L' L2 : List Ent) : setOb [⟨π, b, L, false⟩, ⟨[2], b2, L2, true⟩] π L' = [⟨π, b, L', false⟩, ⟨[2], b2, L2, true⟩] := setOb_fst h _ _ _ _ _ _ _
theorem setOb_b {π : List Int} (h : π ≠ [2]) (b b2 : Nat) (L L' L2 : List Ent) : setOb [⟨π, b, L, false⟩, ⟨[2], b2, L2, true⟩] [2] L' = [⟨π, b, L, false⟩, ⟨[2], b2, L', true⟩] := setOb_snd h _ _ _ _ _ _ _
theorem spanOk : U32 0 := ⟨by decide, by decide⟩

theorem st_get2 {W w : World} {obs : List Ob} {rows : List Rw} {x id : Int} {ge : Ent} {gb : Bool} (h : St W obs rows w) (o : Ob) (ho : o ∈ obs) (hk : o.ref = false) (hx : U32 x) (hid : U64 id) (hg : (findE o.L x id).getD noEnt = ge) (hb : (findE o.L x id).isSome = gb) :
    Calls Try.prog 56 #[.pointer (some ⟨o.b, 0, none⟩), .agg #[.int .u32 x, .int .u64 id]] w fun e w' =>
      ∃ v, e = .returned (.tuple #[.agg #[.int .u32 ge.value, .int .u64 ge.rc.id, .int .u64 ge.rc.ver, v, .bool ge.gone], .bool gb]) ∧ NewD w.heap.size .u32 4 ge.rc.vals w' v ∧ Below w.heap.size w w' := by
  have := st_get h o ho hk hx hid
  rw [hg, hb] at this
  exact this
theorem st_rget2 {W w : World} {obs : List Ob} {rows : List Rw} {x id : Int} {ge : Ent} {gb : Bool} (h : St W obs rows w) (o : Ob) (ho : o ∈ obs) (hk : o.ref = true) (hg : (findE o.L x id).getD noEnt = ge) (hb : (findE o.L x id).isSome = gb) :
    Calls Try.prog 57 #[.pointer (some ⟨o.b, 0, none⟩), .agg #[.int .u32 x, .int .u64 id]] w fun e w' =>
      ∃ v, e = .returned (.tuple #[.agg #[.int .u32 ge.value, .int .u64 ge.rc.id, .int .u64 ge.rc.ver, v, .bool ge.gone], .bool gb]) ∧ NewD w.heap.size .u32 4 ge.rc.vals w' v ∧ Below w.heap.size w w' := by
  have := st_rget (x := x) (id := id) h o ho hk
  rw [hg, hb] at this
  exact this

set_option maxHeartbeats 40000000 in
theorem wShelfPlays0 (W : World) (A : Option Addr) (n cap : Nat) (f t kx kid : Int) (hf : U32 f) (ht : U32 t) (hkx : U32 kx) (hki : U64 kid) (hn : n ≤ 140737488351232)
    (hops : 0 < n → ∃ b off, A = some ⟨b, off, none⟩ ∧ b < W.heap.size ∧ ∀ j, j < n → ∃ o e l, (∀ t u, (encOp o)[t]? = some u → W.cell? ⟨b, off + j * 9 + t, none⟩ = some u) ∧ OpOk W o e l) :
    Calls Try.prog 15 #[.slice A n cap, .agg #[.int .u32 f, .int .u32 t], .agg #[.int .u32 kx, .int .u64 kid]] W fun e W' => e = .returned (.bool true) ∧ Below W.heap.size W W' := by
  have HOPS := Lib.hid hops
  have HF := Lib.hid hf; have HT := Lib.hid ht; have HKX := Lib.hid hkx; have HKI := Lib.hid hki
  have S0 := Lib.hid (show St W [] [⟨none, 0, 0, [], some (W.heap.size, #[.int .u32 f, .int .u32 t])⟩, ⟨none, 0, 0, [], some (W.heap.size + 1, #[.int .u32 kx, .int .u64 kid])⟩] _ from by have := ((St.nil W).addBox #[.int .u32 f, .int .u32 t] 54).addBox #[.int .u32 kx, .int .u64 kid] 90; rw [size_alloc] at this; exact this)
  clear hops hf ht hkx hki
  go_enter Try.func15, Try.ntmps15
  go_wp2_with (first
    | (go_at_call 26; go_loud ((with_reducible refine (st_new [1] S0.out (by simp) (by simp)).mono ?_); rintro e w1 ⟨b, rfl, hs, hb⟩; have SA := Lib.hid (show St W [⟨[1], b, [], false⟩] [⟨none, 0, 0, [], some (W.heap.size, #[.int .u32 f, .int .u32 t])⟩, ⟨none, 0, 0, [], some (W.heap.size + 1, #[.int .u32 kx, .int .u64 kid])⟩] w1 from hs); clear hs hb; have SB := Lib.hid (show St W [⟨[1], b, [], false⟩, ⟨[2], w1.heap.size, [], true⟩] [⟨none, 0, 0, [], some (W.heap.size, #[.int .u32 f, .int .u32 t])⟩, ⟨none, 0, 0, [], some (W.heap.size + 1, #[.int .u32 kx, .int .u64 kid])⟩] (w1.alloc (.cells #[.slice none 0 0] 93)) from st_rnew [2] SA.out (by simp) (by simp))))
    | (go_at_call 25; go_loud ((with_reducible refine (awake09 _).mono ?_); rintro e w2 ⟨rfl, hg⟩; have SC := Lib.hid (SB.out.later hg); clear hg)))
  generalize w1.heap.size = b2 at *
  clear S0 SA SB
  go_loopw [7, 9] (fun s7 s9 wr => ∃ (i : Nat) (π : List Int) (b : Nat) (L : List Ent), i ≤ n ∧ i ≤ 40 ∧ s9 = .int .i64 i ∧ s7 = .pointer (some ⟨b, 0, none⟩) ∧ π ≠ [] ∧ π ≠ [2] ∧ St W [⟨π, b, L, false⟩, ⟨[2], b2, L, true⟩] [⟨none, 0, 0, [], some (W.heap.size, #[.int .u32 f, .int .u32 t])⟩, ⟨none, 0, 0, [], some (W.heap.size + 1, #[.int .u32 kx, .int .u64 kid])⟩] wr) (fun _ k _ => 40 - (intOf k).toNat)
  case atStart => exact ⟨0, [1], b, [], by omega, by omega, rfl, rfl, by simp, by simp, SC.out⟩
  case round =>
    obtain ⟨i, π, b, L, hi, hi40, rfl, rfl, hp1, hp2, hs⟩ := hrel
    have HS := Lib.hid hs; have HP1 := Lib.hid hp1; have HP2 := Lib.hid hp2; have HP3 := Lib.hid hp2.symm
    clear hs SC hp1 hp2
    by_cases hc : i < n ∧ i < 40
    · obtain ⟨h1, h2⟩ := hc
      obtain ⟨bb, off, rfl, hbb, hcc⟩ := HOPS.out (by omega)
      obtain ⟨o, e, l, hcell, hok⟩ := hcc i h1
      have hq := fun t u hu => (HS.out.end.cell (p := ⟨bb, off + i * 9 + t, none⟩) hbb).trans (hcell t u hu)
      have d0 := hq 0 _ rfl; have d1 := hq 1 _ rfl; have d2 := hq 2 _ rfl; have d3 := hq 3 _ rfl; have d4 := hq 4 _ rfl; have d5 := hq 5 _ rfl; have d6 := hq 6 _ rfl; have d7 := hq 7 _ rfl; have d8 := hq 8 _ rfl
      simp only [Nat.add_zero] at d0
      obtain ⟨o1, o2, o3, o4, o5⟩ := hok
      have HE := Lib.hid o1; have HOF := Lib.hid o2; have HOT := Lib.hid o3; have HOL := Lib.hid o4
      have hel : e.rc.vals.length = o.m.l := o1.2.2.2.2.2.1
      have HEL := Lib.hid hel
      clear hcc hcell hq o1 o2 o3 o4 hel hbb
      go_upto_region 8 with fail
      have SA := Lib.hid (show St W [⟨π, b, L, false⟩, ⟨[2], b2, L, true⟩] [⟨none, 0, 0, [], some (W.heap.size, #[.int .u32 f, .int .u32 t])⟩, ⟨none, 0, 0, [], some (W.heap.size + 1, #[.int .u32 kx, .int .u64 kid])⟩, ⟨o.A, o.n, o.cap, l, none⟩, ⟨none, 0, 0, [], some (wr.heap.size, #[.int .i64 o.kind, .int .u32 o.m.x, .int .u64 o.m.id, .int .u64 o.m.ver, .slice o.m.s o.m.l o.m.c, .bool o.m.g, .int .u32 o.f, .int .u32 o.t, .slice o.A o.n o.cap])⟩] (wr.alloc (.cells #[.int .i64 o.kind, .int .u32 o.m.x, .int .u64 o.m.id, .int .u64 o.m.ver, .slice o.m.s o.m.l o.m.c, .bool o.m.g, .int .u32 o.f, .int .u32 o.t, .slice o.A o.n o.cap] 95)) from (HS.out.addRow HOL.out).addBox #[.int .i64 o.kind, .int .u32 o.m.x, .int .u64 o.m.id, .int .u64 o.m.ver, .slice o.m.s o.m.l o.m.c, .bool o.m.g, .int .u32 o.f, .int .u32 o.t, .slice o.A o.n o.cap] 95)
      generalize wr.alloc (.cells #[.int .i64 o.kind, .int .u32 o.m.x, .int .u64 o.m.id, .int .u64 o.m.ver, .slice o.m.s o.m.l o.m.c, .bool o.m.g, .int .u32 o.f, .int .u32 o.t, .slice o.A o.n o.cap] 95) = wy at *
      generalize wr.heap.size = b10 at *
      have c10 := (SA.out.box (r := ⟨none, 0, 0, [], some (b10, #[.int .i64 o.kind, .int .u32 o.m.x, .int .u64 o.m.id, .int .u64 o.m.ver, .slice o.m.s o.m.l o.m.c, .bool o.m.g, .int .u32 o.f, .int .u32 o.t, .slice o.A o.n o.cap])⟩) (by simp) rfl).cell
      have z10 := (SA.out.box (r := ⟨none, 0, 0, [], some (b10, #[.int .i64 o.kind, .int .u32 o.m.x, .int .u64 o.m.id, .int .u64 o.m.ver, .slice o.m.s o.m.l o.m.c, .bool o.m.g, .int .u32 o.f, .int .u32 o.t, .slice o.A o.n o.cap])⟩) (by simp) rfl).lt
      clear d0 d1 d2 d3 d4 d5 d6 d7 d8 HS
      cases hfew : fewF l with
      | false =>
        have HFW := Lib.hid hfew
        clear hfew
        go_wp2_with (go_at_call 24; go_loud ((with_reducible refine (st_few SA.out ⟨o.A, o.n, o.cap, l, none⟩ (by simp) rfl o5 HFW.out).mono ?_); rintro e9 w9 ⟨rfl, rfl⟩))
        go_ret
        exact ⟨rfl, SA.out.end⟩
      | true =>
        have HFW := Lib.hid hfew
        clear hfew
        by_cases h20 : 20 < o.m.l
        · go_wp2_with (go_at_call 24; go_loud ((with_reducible refine (st_few SA.out ⟨o.A, o.n, o.cap, l, none⟩ (by simp) rfl o5 HFW.out).mono ?_); rintro e9 w9 ⟨rfl, rfl⟩))
          go_ret
          exact ⟨rfl, SA.out.end⟩
        · by_cases k1 : o.kind = 1
          · have b1 : (o.kind == 1) = true := by rw [beq_iff_eq]; exact k1
            clear k1
            obtain ⟨cl, hcl⟩ : ∃ cl, scanL o.f o.t L = cl := ⟨_, rfl⟩
            obtain ⟨L2, hL2⟩ : ∃ L2, L.filter (fun e => !hasE o.f o.t e) = L2 := ⟨_, rfl⟩
            have QC := Lib.hid hcl; have QL := Lib.hid hL2
            clear hcl hL2
            go_upto_region 16 with (go_at_call 24; go_loud ((with_reducible refine (st_few SA.out ⟨o.A, o.n, o.cap, l, none⟩ (by simp) rfl o5 HFW.out).mono ?_); rintro e9 w9 ⟨rfl, rfl⟩))
            have SA' := Lib.hid (SA.out.later (Same.drew wy).1)
            go_region_law (first
              | (go_simp; go_at_call 34; refine (st_cut (obs' := [⟨π, b, L2, false⟩, ⟨[2], b2, L2, true⟩]) o.f o.t SF.out ⟨π, b, L, false⟩ (by simp) rfl QC.out (by rw [QL.out]; exact setOb_a HP3.out _ _ _ _ _)).mono ?_; rintro e9 w9 ⟨A1, cap1, rfl, hs9, hb9⟩; have SG := Lib.hid hs9; clear hb9; have c10 := (SG.out.box (r := ⟨none, 0, 0, [], some (b10, #[.int .i64 o.kind, .int .u32 o.m.x, .int .u64 o.m.id, .int .u64 o.m.ver, .slice o.m.s o.m.l o.m.c, .bool o.m.g, .int .u32 o.f, .int .u32 o.t, .slice o.A o.n o.cap])⟩) (by simp) rfl).cell)
              | (go_simp; go_at_call 34; refine (st_cut (obs' := [⟨π, b, L2, false⟩, ⟨[2], b2, L, true⟩]) o.f o.t SA'.out ⟨π, b, L, false⟩ (by simp) rfl QC.out (by rw [QL.out]; exact setOb_a HP3.out _ _ _ _ _)).mono ?_; rintro e9 w9 ⟨A1, cap1, rfl, hs9, hb9⟩; have SE := Lib.hid hs9; clear hb9; have c10 := (SE.out.box (r := ⟨none, 0, 0, [], some (b10, #[.int .i64 o.kind, .int .u32 o.m.x, .int .u64 o.m.id, .int .u64 o.m.ver, .slice o.m.s o.m.l o.m.c, .bool o.m.g, .int .u32 o.f, .int .u32 o.t, .slice o.A o.n o.cap])⟩) (by simp) rfl).cell)
              | (go_simp; go_at_call 49; refine (st_rcut (obs' := [⟨π, b, L2, false⟩, ⟨[2], b2, L2, true⟩]) o.f o.t SE.out ⟨[2], b2, L, true⟩ (by simp) rfl HOF.out QC.out (by rw [QL.out]; exact setOb_b HP2.out _ _ _ _ _)).mono ?_; rintro e9 w9 ⟨A2, cap2, rfl, hs9⟩; have SG := Lib.hid hs9; have c10 := (SG.out.box (r := ⟨none, 0, 0, [], some (b10, #[.int .i64 o.kind, .int .u32 o.m.x, .int .u64 o.m.id, .int .u64 o.m.ver, .slice o.m.s o.m.l o.m.c, .bool o.m.g, .int .u32 o.f, .int .u32 o.t, .slice o.A o.n o.cap])⟩) (by simp) rfl).cell)
              | (go_simp; go_at_call 49; refine (st_rcut (obs' := [⟨π, b, L, false⟩, ⟨[2], b2, L2, true⟩]) o.f o.t SA'.out ⟨[2], b2, L, true⟩ (by simp) rfl HOF.out QC.out (by rw [QL.out]; exact setOb_b HP2.out _ _ _ _ _)).mono ?_; rintro e9 w9 ⟨A2, cap2, rfl, hs9⟩; have SF := Lib.hid hs9; have c10 := (SF.out.box (r := ⟨none, 0, 0, [], some (b10, #[.int .i64 o.kind, .int .u32 o.m.x, .int .u64 o.m.id, .int .u64 o.m.ver, .slice o.m.s o.m.l o.m.c, .bool o.m.g, .int .u32 o.f, .int .u32 o.t, .slice o.A o.n o.cap])⟩) (by simp) rfl).cell)
              | (go_simp; go_at_call 28; refine (st_same (bo := true) SG.out ⟨A1, cl.length, cap1, cl, none⟩ ⟨A2, cl.length, cap2, cl, none⟩ (by simp) (by simp) rfl rfl (by simp)).mono ?_; rintro e9 w9 ⟨rfl, hb9⟩; have SH := Lib.hid (SG.out.later hb9); clear hb9))
            all_goals
              have SZ := Lib.hid (SH.out.later (Below.refl _ _))
              obtain ⟨AZ, capZ, hbz⟩ := SZ.out.refLen ⟨[2], b2, L2, true⟩ (by simp) rfl
              have cz := hbz.cell; have zz := hbz.lt
              obtain ⟨lv, hlv⟩ : ∃ lv, (L2).countP liveB = lv := ⟨_, rfl⟩
              have HLV := Lib.hid hlv
              obtain ⟨ln, hln⟩ : ∃ ln, (L2).length = ln := ⟨_, rfl⟩
              dsimp only at cz
              rw [hln] at cz
              have HLN := Lib.hid hln
              have SZ0 := Lib.hid SZ.out
              clear hlv hln hbz
              go_upto_region 27 with fail
              go_region_law (first
                | (go_simp; go_at_call 30; refine (st_len (n := ln) (SZ0.out.later (Same.drew _).1) ⟨π, b, L2, false⟩ (by simp) rfl HLN.out).mono ?_; rintro e9 w9 ⟨rfl, rfl⟩; have SY := Lib.hid (SZ0.out.later (Same.drew _).1))
                | (go_simp; go_at_call 54; refine (st_live (n := lv) SY.out ⟨π, b, L2, false⟩ (by simp) rfl HLV.out).mono ?_; rintro e9 w9 ⟨rfl, hb9⟩; have SX := Lib.hid (SY.out.later hb9); clear hb9)
                | (go_simp; go_at_call 54; refine (st_live (n := lv) SX.out ⟨π, b, L2, false⟩ (by simp) rfl HLV.out).mono ?_; rintro e9 w9 ⟨rfl, hb9⟩; have SX := Lib.hid (SX.out.later hb9); clear hb9)
                | (go_simp; go_at_call 55; refine (st_rlive (n := lv) SX.out ⟨[2], b2, L2, true⟩ (by simp) rfl HLV.out).mono ?_; rintro e9 w9 ⟨rfl, rfl⟩)
                | (go_simp; go_at_call 55; refine (st_rlive (n := lv) SY.out ⟨[2], b2, L2, true⟩ (by simp) rfl HLV.out).mono ?_; rintro e9 w9 ⟨rfl, rfl⟩; have SX := Lib.hid SY.out))
              all_goals
                go_wp2
                go_roundw
                case rel => exact ⟨i + 1, π, b, _, by omega, by omega, by go_num, rfl, by first | assumption | exact HP1.out | exact HP1'.out, by first | assumption | exact HP2.out | exact HP2'.out, SX.out.sub (fun x hx => hx) (St.pw SX.out) (by intro r hr; simp only [List.mem_cons, List.not_mem_nil, or_false] at hr; rcases hr with rfl | rfl <;> simp)⟩
                case measure => simp [intOf]; omega
          · have b1 : (o.kind == 1) = false := by rw [beq_eq_false_iff_ne]; exact k1
            by_cases k2 : o.kind = 2
            · have b2' : (o.kind == 2) = true := by rw [beq_iff_eq]; exact k2
              clear k1 k2
              obtain ⟨⟨L2, kk⟩, hj⟩ : ∃ p, joinF L l = p := ⟨_, rfl⟩
              have QJ := Lib.hid hj
              clear hj
              go_upto_region 19 with (go_at_call 24; go_loud ((with_reducible refine (st_few SA.out ⟨o.A, o.n, o.cap, l, none⟩ (by simp) rfl o5 HFW.out).mono ?_); rintro e9 w9 ⟨rfl, rfl⟩))
              have SA' := Lib.hid (SA.out.later (Same.drew wy).1)
              go_region_law (first
                | (go_simp; go_at_call 27; refine (st_join (obs' := [⟨π, b, L2, false⟩, ⟨[2], b2, L2, true⟩]) (n := kk) SF.out ⟨π, b, L, false⟩ (by simp) rfl ⟨o.A, o.n, o.cap, l, none⟩ (by simp) rfl (by rw [QJ.out]; exact setOb_a HP3.out _ _ _ _ _) (by rw [QJ.out])).mono ?_; rintro e9 w9 ⟨rfl, hs9, hb9⟩; have SG := Lib.hid hs9; clear hb9; have c10 := (SG.out.box (r := ⟨none, 0, 0, [], some (b10, #[.int .i64 o.kind, .int .u32 o.m.x, .int .u64 o.m.id, .int .u64 o.m.ver, .slice o.m.s o.m.l o.m.c, .bool o.m.g, .int .u32 o.f, .int .u32 o.t, .slice o.A o.n o.cap])⟩) (by simp) rfl).cell)
                | (go_simp; go_at_call 27; refine (st_join (obs' := [⟨π, b, L2, false⟩, ⟨[2], b2, L, true⟩]) (n := kk) SA'.out ⟨π, b, L, false⟩ (by simp) rfl ⟨o.A, o.n, o.cap, l, none⟩ (by simp) rfl (by rw [QJ.out]; exact setOb_a HP3.out _ _ _ _ _) (by rw [QJ.out])).mono ?_; rintro e9 w9 ⟨rfl, hs9, hb9⟩; have SE := Lib.hid hs9; clear hb9; have c10 := (SE.out.box (r := ⟨none, 0, 0, [], some (b10, #[.int .i64 o.kind, .int .u32 o.m.x, .int .u64 o.m.id, .int .u64 o.m.ver, .slice o.m.s o.m.l o.m.c, .bool o.m.g, .int .u32 o.f, .int .u32 o.t, .slice o.A o.n o.cap])⟩) (by simp) rfl).cell)
                | (go_simp; go_at_call 50; refine (st_rjoin (obs' := [⟨π, b, L2, false⟩, ⟨[2], b2, L2, true⟩]) (n := kk) SE.out ⟨[2], b2, L, true⟩ (by simp) rfl ⟨o.A, o.n, o.cap, l, none⟩ (by simp) rfl (by rw [QJ.out]; exact setOb_b HP2.out _ _ _ _ _) (by rw [QJ.out])).mono ?_; rintro e9 w9 ⟨rfl, hs9⟩; have SG := Lib.hid hs9; have c10 := (SG.out.box (r := ⟨none, 0, 0, [], some (b10, #[.int .i64 o.kind, .int .u32 o.m.x, .int .u64 o.m.id, .int .u64 o.m.ver, .slice o.m.s o.m.l o.m.c, .bool o.m.g, .int .u32 o.f, .int .u32 o.t, .slice o.A o.n o.cap])⟩) (by simp) rfl).cell)
                | (go_simp; go_at_call 50; refine (st_rjoin (obs' := [⟨π, b, L, false⟩, ⟨[2], b2, L2, true⟩]) (n := kk) SA'.out ⟨[2], b2, L, true⟩ (by simp) rfl ⟨o.A, o.n, o.cap, l, none⟩ (by simp) rfl (by rw [QJ.out]; exact setOb_b HP2.out _ _ _ _ _) (by rw [QJ.out])).mono ?_; rintro e9 w9 ⟨rfl, hs9⟩; have SF := Lib.hid hs9; have c10 := (SF.out.box (r := ⟨none, 0, 0, [], some (b10, #[.int .i64 o.kind, .int .u32 o.m.x, .int .u64 o.m.id, .int .u64 o.m.ver, .slice o.m.s o.m.l o.m.c, .bool o.m.g, .int .u32 o.f, .int .u32 o.t, .slice o.A o.n o.cap])⟩) (by simp) rfl).cell))
              all_goals
                have SZ := Lib.hid (SG.out.later (Below.refl _ _))
                obtain ⟨AZ, capZ, hbz⟩ := SZ.out.refLen ⟨[2], b2, L2, true⟩ (by simp) rfl
                have cz := hbz.cell; have zz := hbz.lt
                obtain ⟨lv, hlv⟩ : ∃ lv, (L2).countP liveB = lv := ⟨_, rfl⟩
                have HLV := Lib.hid hlv
                obtain ⟨ln, hln⟩ : ∃ ln, (L2).length = ln := ⟨_, rfl⟩
                dsimp only at cz
                rw [hln] at cz
                have HLN := Lib.hid hln
                have SZ0 := Lib.hid SZ.out
                clear hlv hln hbz
                go_upto_region 27 with fail
                go_region_law (first
                  | (go_simp; go_at_call 30; refine (st_len (n := ln) (SZ0.out.later (Same.drew _).1) ⟨π, b, L2, false⟩ (by simp) rfl HLN.out).mono ?_; rintro e9 w9 ⟨rfl, rfl⟩; have SY := Lib.hid (SZ0.out.later (Same.drew _).1))
                  | (go_simp; go_at_call 54; refine (st_live (n := lv) SY.out ⟨π, b, L2, false⟩ (by simp) rfl HLV.out).mono ?_; rintro e9 w9 ⟨rfl, hb9⟩; have SX := Lib.hid (SY.out.later hb9); clear hb9)
                  | (go_simp; go_at_call 54; refine (st_live (n := lv) SX.out ⟨π, b, L2, false⟩ (by simp) rfl HLV.out).mono ?_; rintro e9 w9 ⟨rfl, hb9⟩; have SX := Lib.hid (SX.out.later hb9); clear hb9)
                  | (go_simp; go_at_call 55; refine (st_rlive (n := lv) SX.out ⟨[2], b2, L2, true⟩ (by simp) rfl HLV.out).mono ?_; rintro e9 w9 ⟨rfl, rfl⟩)
                  | (go_simp; go_at_call 55; refine (st_rlive (n := lv) SY.out ⟨[2], b2, L2, true⟩ (by simp) rfl HLV.out).mono ?_; rintro e9 w9 ⟨rfl, rfl⟩; have SX := Lib.hid SY.out))
                all_goals
                  go_wp2
                  go_roundw
                  case rel => exact ⟨i + 1, π, b, _, by omega, by omega, by go_num, rfl, by first | assumption | exact HP1.out | exact HP1'.out, by first | assumption | exact HP2.out | exact HP2'.out, SX.out.sub (fun x hx => hx) (St.pw SX.out) (by intro r hr; simp only [List.mem_cons, List.not_mem_nil, or_false] at hr; rcases hr with rfl | rfl <;> simp)⟩
                  case measure => simp [intOf]; omega
            · have b2' : (o.kind == 2) = false := by rw [beq_eq_false_iff_ne]; exact k2
              by_cases k3 : o.kind = 3
              · have b3 : (o.kind == 3) = true := by rw [beq_iff_eq]; exact k3
                clear k1 k2 k3
                obtain ⟨π', hq1, hq2, hq3⟩ : ∃ π' : List Int, π' ≠ [] ∧ π' ≠ [2] ∧ π' ≠ π := by
                  by_cases h : π = [1]
                  · exact ⟨[3], by simp, by simp, by rw [h]; simp⟩
                  · exact ⟨[1], by simp, by simp, fun e => h e.symm⟩
                have HP1' := Lib.hid hq1; have HP2' := Lib.hid hq2; have HQ3 := Lib.hid hq3
                clear hq1 hq2 hq3
                obtain ⟨cl, hcl⟩ : ∃ cl, scanL 0 0 L = cl := ⟨_, rfl⟩
                obtain ⟨L2, hL2⟩ : ∃ L2, L.filter (fun e => !hasE 0 0 e) = L2 := ⟨_, rfl⟩
                have QC := Lib.hid hcl; have QL := Lib.hid hL2
                clear hcl hL2
                go_upto_region 27 with (first
                  | (go_at_call 24; go_loud ((with_reducible refine (st_few SA.out ⟨o.A, o.n, o.cap, l, none⟩ (by simp) rfl o5 HFW.out).mono ?_); rintro e9 w9 ⟨rfl, rfl⟩))
                  | (go_at_call 51; go_loud ((with_reducible refine (st_fork π' SA.out ⟨π, b, L, false⟩ (by simp) rfl HP1'.out (by intro x hx; simp only [List.mem_cons, List.not_mem_nil, or_false] at hx; rcases hx with rfl | rfl; exact HQ3.out.symm; exact HP2'.out.symm)).mono ?_); rintro e9 w9 ⟨b', rfl, hs9, hb9⟩; have SE := Lib.hid (show St W [⟨π, b, L, false⟩, ⟨[2], b2, L, true⟩, ⟨π', b', L, false⟩] [⟨none, 0, 0, [], some (W.heap.size, #[.int .u32 f, .int .u32 t])⟩, ⟨none, 0, 0, [], some (W.heap.size + 1, #[.int .u32 kx, .int .u64 kid])⟩, ⟨o.A, o.n, o.cap, l, none⟩, ⟨none, 0, 0, [], some (b10, #[.int .i64 o.kind, .int .u32 o.m.x, .int .u64 o.m.id, .int .u64 o.m.ver, .slice o.m.s o.m.l o.m.c, .bool o.m.g, .int .u32 o.f, .int .u32 o.t, .slice o.A o.n o.cap])⟩] w9 from hs9); clear hs9 hb9))
                  | (go_at_call 34; go_loud ((with_reducible refine (st_cut (obs' := setOb [⟨π, b, L, false⟩, ⟨[2], b2, L, true⟩, ⟨π', b', L, false⟩] π L2) 0 0 SE.out ⟨π, b, L, false⟩ (by simp) rfl QC.out (by rw [QL.out])).mono ?_); rintro e9 w9 ⟨A1, cap1, rfl, hs9, hb9⟩; have SF := Lib.hid (show St W [⟨π', b', L, false⟩, ⟨[2], b2, L, true⟩] [⟨none, 0, 0, [], some (W.heap.size, #[.int .u32 f, .int .u32 t])⟩, ⟨none, 0, 0, [], some (W.heap.size + 1, #[.int .u32 kx, .int .u64 kid])⟩, ⟨o.A, o.n, o.cap, l, none⟩, ⟨none, 0, 0, [], some (b10, #[.int .i64 o.kind, .int .u32 o.m.x, .int .u64 o.m.id, .int .u64 o.m.ver, .slice o.m.s o.m.l o.m.c, .bool o.m.g, .int .u32 o.f, .int .u32 o.t, .slice o.A o.n o.cap])⟩] w9 from hs9.sub (by intro x hx; simp only [List.mem_cons, List.not_mem_nil, or_false] at hx; rcases hx with rfl | rfl; simp [setOb, HQ3.out]; simp [setOb, HP3.out]) (by simp; exact HP2'.out) (by intro r hr; exact List.mem_append_left _ hr)); clear hs9 hb9)))
                have SZ := Lib.hid (SF.out.later (Below.refl _ _))
                obtain ⟨AZ, capZ, hbz⟩ := SZ.out.refLen ⟨[2], b2, L, true⟩ (by simp) rfl
                have cz := hbz.cell; have zz := hbz.lt
                obtain ⟨lv, hlv⟩ : ∃ lv, (L).countP liveB = lv := ⟨_, rfl⟩
                have HLV := Lib.hid hlv
                obtain ⟨ln, hln⟩ : ∃ ln, (L).length = ln := ⟨_, rfl⟩
                dsimp only at cz
                rw [hln] at cz
                have HLN := Lib.hid hln
                have SZ0 := Lib.hid SZ.out
                clear hlv hln hbz
                go_region_law (first
                  | (go_simp; go_at_call 30; refine (st_len (n := ln) (SZ0.out.later (Same.drew _).1) ⟨π', b', L, false⟩ (by simp) rfl HLN.out).mono ?_; rintro e9 w9 ⟨rfl, rfl⟩; have SY := Lib.hid (SZ0.out.later (Same.drew _).1))
                  | (go_simp; go_at_call 54; refine (st_live (n := lv) SY.out ⟨π', b', L, false⟩ (by simp) rfl HLV.out).mono ?_; rintro e9 w9 ⟨rfl, hb9⟩; have SX := Lib.hid (SY.out.later hb9); clear hb9)
                  | (go_simp; go_at_call 54; refine (st_live (n := lv) SX.out ⟨π', b', L, false⟩ (by simp) rfl HLV.out).mono ?_; rintro e9 w9 ⟨rfl, hb9⟩; have SX := Lib.hid (SX.out.later hb9); clear hb9)
                  | (go_simp; go_at_call 55; refine (st_rlive (n := lv) SX.out ⟨[2], b2, L, true⟩ (by simp) rfl HLV.out).mono ?_; rintro e9 w9 ⟨rfl, rfl⟩)
                  | (go_simp; go_at_call 55; refine (st_rlive (n := lv) SY.out ⟨[2], b2, L, true⟩ (by simp) rfl HLV.out).mono ?_; rintro e9 w9 ⟨rfl, rfl⟩; have SX := Lib.hid SY.out))
                all_goals
                  go_wp2
                  go_roundw
                  case rel => exact ⟨i + 1, π', b', _, by omega, by omega, by go_num, rfl, by first | assumption | exact HP1.out | exact HP1'.out, by first | assumption | exact HP2.out | exact HP2'.out, SX.out.sub (fun x hx => hx) (St.pw SX.out) (by intro r hr; simp only [List.mem_cons, List.not_mem_nil, or_false] at hr; rcases hr with rfl | rfl <;> simp)⟩
                  case measure => simp [intOf]; omega
              · have b3 : (o.kind == 3) = false := by rw [beq_eq_false_iff_ne]; exact k3
                clear k1 k2 k3
                obtain ⟨⟨L2, bo, er⟩, hj⟩ : ∃ p, putF L e = p := ⟨_, rfl⟩
                have QJ := Lib.hid hj
                clear hj
                go_upto_region 27 with (first
                  | (go_at_call 24; go_loud ((with_reducible refine (st_few SA.out ⟨o.A, o.n, o.cap, l, none⟩ (by simp) rfl o5 HFW.out).mono ?_); rintro e9 w9 ⟨rfl, rfl⟩))
                  | (go_at_call 52; go_loud ((refine (st_put (m := o.m) (e := e) (obs' := [⟨π, b, L2, false⟩, ⟨[2], b2, L, true⟩]) (bo := bo) (x := er) SA.out ⟨π, b, L, false⟩ (by simp) rfl HE.out (by rw [QJ.out]; exact setOb_a HP3.out _ _ _ _ _) (by rw [QJ.out]) (by rw [QJ.out])).mono ?_); rintro e9 w9 ⟨rfl, hs9, hb9⟩; have SE := Lib.hid hs9; clear hb9; have c10 := (SE.out.box (r := ⟨none, 0, 0, [], some (b10, #[.int .i64 o.kind, .int .u32 o.m.x, .int .u64 o.m.id, .int .u64 o.m.ver, .slice o.m.s o.m.l o.m.c, .bool o.m.g, .int .u32 o.f, .int .u32 o.t, .slice o.A o.n o.cap])⟩) (by simp) rfl).cell; have z10 := (SE.out.box (r := ⟨none, 0, 0, [], some (b10, #[.int .i64 o.kind, .int .u32 o.m.x, .int .u64 o.m.id, .int .u64 o.m.ver, .slice o.m.s o.m.l o.m.c, .bool o.m.g, .int .u32 o.f, .int .u32 o.t, .slice o.A o.n o.cap])⟩) (by simp) rfl).lt))
                  | (go_at_call 53; go_loud ((refine (st_rput (m := o.m) (e := e) (obs' := [⟨π, b, L2, false⟩, ⟨[2], b2, L2, true⟩]) (bo := bo) (x := er) SE.out ⟨[2], b2, L, true⟩ (by simp) rfl HE.out (by rw [QJ.out]; exact setOb_b HP2.out _ _ _ _ _) (by rw [QJ.out]) (by rw [QJ.out])).mono ?_); rintro e9 w9 ⟨rfl, hs9⟩; have SF := Lib.hid hs9)))
                have SZ := Lib.hid (SF.out.later (Below.refl _ _))
                obtain ⟨AZ, capZ, hbz⟩ := SZ.out.refLen ⟨[2], b2, L2, true⟩ (by simp) rfl
                have cz := hbz.cell; have zz := hbz.lt
                obtain ⟨lv, hlv⟩ : ∃ lv, (L2).countP liveB = lv := ⟨_, rfl⟩
                have HLV := Lib.hid hlv
                obtain ⟨ln, hln⟩ : ∃ ln, (L2).length = ln := ⟨_, rfl⟩
                dsimp only at cz
                rw [hln] at cz
                have HLN := Lib.hid hln
                have SZ0 := Lib.hid SZ.out
                clear hlv hln hbz
                go_region_law (first
                  | (go_simp; go_at_call 30; refine (st_len (n := ln) (SZ0.out.later (Same.drew _).1) ⟨π, b, L2, false⟩ (by simp) rfl HLN.out).mono ?_; rintro e9 w9 ⟨rfl, rfl⟩; have SY := Lib.hid (SZ0.out.later (Same.drew _).1))
                  | (go_simp; go_at_call 54; refine (st_live (n := lv) SY.out ⟨π, b, L2, false⟩ (by simp) rfl HLV.out).mono ?_; rintro e9 w9 ⟨rfl, hb9⟩; have SX := Lib.hid (SY.out.later hb9); clear hb9)
                  | (go_simp; go_at_call 54; refine (st_live (n := lv) SX.out ⟨π, b, L2, false⟩ (by simp) rfl HLV.out).mono ?_; rintro e9 w9 ⟨rfl, hb9⟩; have SX := Lib.hid (SX.out.later hb9); clear hb9)
                  | (go_simp; go_at_call 55; refine (st_rlive (n := lv) SX.out ⟨[2], b2, L2, true⟩ (by simp) rfl HLV.out).mono ?_; rintro e9 w9 ⟨rfl, rfl⟩)
                  | (go_simp; go_at_call 55; refine (st_rlive (n := lv) SY.out ⟨[2], b2, L2, true⟩ (by simp) rfl HLV.out).mono ?_; rintro e9 w9 ⟨rfl, rfl⟩; have SX := Lib.hid SY.out))
                all_goals
                  go_wp2
                  go_roundw
                  case rel => exact ⟨i + 1, π, b, _, by omega, by omega, by go_num, rfl, by first | assumption | exact HP1.out | exact HP1'.out, by first | assumption | exact HP2.out | exact HP2'.out, SX.out.sub (fun x hx => hx) (St.pw SX.out) (by intro r hr; simp only [List.mem_cons, List.not_mem_nil, or_false] at hr; rcases hr with rfl | rfl <;> simp)⟩
                  case measure => simp [intOf]; omega
    · have hcc : (¬ i < n) ∨ (i < n ∧ ¬ i < 40) := by omega
      clear hc
      have HB4 := Lib.hid (HS.out.box (r := ⟨none, 0, 0, [], some (W.heap.size, #[.int .u32 f, .int .u32 t])⟩) (by simp) rfl)
      have HB5 := Lib.hid (HS.out.box (r := ⟨none, 0, 0, [], some (W.heap.size + 1, #[.int .u32 kx, .int .u64 kid])⟩) (by simp) rfl)
      have c5 := HB5.out.cell; have z5 := HB5.out.lt
      obtain ⟨ge, hge⟩ : ∃ ge, (findE L kx kid).getD noEnt = ge := ⟨_, rfl⟩
      obtain ⟨gb, hgb⟩ : ∃ gb, (findE L kx kid).isSome = gb := ⟨_, rfl⟩
      have HGE := Lib.hid hge; have HGB := Lib.hid hgb
      have hgok : ge.ok := by
        rw [← hge]
        cases hfe : findE L kx kid with
        | none => exact ⟨⟨by decide, by decide⟩, ⟨by decide, by decide⟩, ⟨by decide, by decide⟩, by simp [noEnt]⟩
        | some o => exact (HS.out.ok (o := ⟨π, b, L, false⟩) (by simp)).2 o (List.mem_of_find?_eq_some hfe)
      have HGO := Lib.hid hgok
      clear hge hgb hgok
      rcases hcc with h1 | ⟨h1, h2⟩
      all_goals
        go_upto_region 31 with (first
          | (go_at_call 56; go_loud ((with_reducible refine (st_get2 HS.out ⟨π, b, L, false⟩ (by simp) rfl HKX.out HKI.out HGE.out HGB.out).mono ?_); rintro e9 w9 ⟨v9, rfl, ⟨A6, n6, cap6, rfl, hi6⟩, hb9⟩; have SG := Lib.hid (HS.out.later hb9); have HI6 := Lib.hid (hi6.imp' (D' := fun k => True) fun _ _ => trivial); have B5' := Lib.hid (HB5.out.below hb9 HB5.out.lt); have c5 := B5'.out.cell; have z5 := B5'.out.lt; clear hi6 hb9))
          | (go_at_call 57; go_loud ((with_reducible refine (st_rget2 (SG.out.later (below_a1 w9 (.cells #[.int .u32 ge.value, .int .u64 ge.rc.id, .int .u64 ge.rc.ver, .slice A6 n6 cap6, .bool ge.gone] 49))) ⟨[2], b2, L, true⟩ (by simp) rfl HGE.out HGB.out).mono ?_); rintro e8 w8 ⟨v8, rfl, ⟨A7, n7, cap7, rfl, hi7⟩, hb8⟩; have SH := Lib.hid ((SG.out.later (below_a1 w9 (.cells #[.int .u32 ge.value, .int .u64 ge.rc.id, .int .u64 ge.rc.ver, .slice A6 n6 cap6, .bool ge.gone] 49))).later hb8); have HI7 := Lib.hid hi7; have X16 := Lib.hid ((Box.new w9 #[.int .u32 ge.value, .int .u64 ge.rc.id, .int .u64 ge.rc.ver, .slice A6 n6 cap6, .bool ge.gone] 49).below hb8 (by rw [size_alloc]; omega)); have B68 := Lib.hid (below_from (below_a1 w9 (.cells #[.int .u32 ge.value, .int .u64 ge.rc.id, .int .u64 ge.rc.ver, .slice A6 n6 cap6, .bool ge.gone] 49)) hb8 (by rw [size_alloc]; omega)); clear hi7 hb8)))
        have hI6 : Ints (w8.alloc (.cells #[.int .u32 ge.value, .int .u64 ge.rc.id, .int .u64 ge.rc.ver, .slice A7 n7 cap7, .bool ge.gone] 49)) (fun k => k < (w8.alloc (.cells #[.int .u32 ge.value, .int .u64 ge.rc.id, .int .u64 ge.rc.ver, .slice A7 n7 cap7, .bool ge.gone] 49)).heap.size) .u32 4 A6 n6 cap6 ge.rc.vals := HI6.out.move fun k _ hlt => ⟨(below_from B68.out (below_a1 w8 _) B68.out.size).block k hlt, Nat.lt_of_lt_of_le hlt (below_from B68.out (below_a1 w8 _) B68.out.size).size⟩
        have hI7 : Ints (w8.alloc (.cells #[.int .u32 ge.value, .int .u64 ge.rc.id, .int .u64 ge.rc.ver, .slice A7 n7 cap7, .bool ge.gone] 49)) (fun k => k < (w8.alloc (.cells #[.int .u32 ge.value, .int .u64 ge.rc.id, .int .u64 ge.rc.ver, .slice A7 n7 cap7, .bool ge.gone] 49)).heap.size) .u32 4 A7 n7 cap7 ge.rc.vals := HI7.out.move fun k _ hlt => ⟨(below_a1 w8 _).block k hlt, Nat.lt_of_lt_of_le hlt (below_a1 w8 _).size⟩
        have X18 := Lib.hid (Box.new w8 #[.int .u32 ge.value, .int .u64 ge.rc.id, .int .u64 ge.rc.ver, .slice A7 n7 cap7, .bool ge.gone] 49)
        have X16' := Lib.hid (X16.out.alloc (.cells #[.int .u32 ge.value, .int .u64 ge.rc.id, .int .u64 ge.rc.ver, .slice A7 n7 cap7, .bool ge.gone] 49))
        have SI := Lib.hid (SH.out.later (below_a1 w8 (.cells #[.int .u32 ge.value, .int .u64 ge.rc.id, .int .u64 ge.rc.ver, .slice A7 n7 cap7, .bool ge.gone] 49)))
        have HI6' := Lib.hid hI6; have HI7' := Lib.hid hI7
        clear hI6 hI7 c5 z5
        generalize w8.alloc (.cells #[.int .u32 ge.value, .int .u64 ge.rc.id, .int .u64 ge.rc.ver, .slice A7 n7 cap7, .bool ge.gone] 49) = wy at *
        generalize w8.heap.size = b18 at *
        generalize w9.heap.size = b16 at *
        have c4 := (SI.out.box (r := ⟨none, 0, 0, [], some (W.heap.size, #[.int .u32 f, .int .u32 t])⟩) (by simp) rfl).cell; have z4 := (SI.out.box (r := ⟨none, 0, 0, [], some (W.heap.size, #[.int .u32 f, .int .u32 t])⟩) (by simp) rfl).lt
        have c16 := X16'.out.cell; have z16 := X16'.out.lt; have c18 := X18.out.cell; have z18 := X18.out.lt
        have R1 := Lib.hid (show RecVal wy (fun k => k < wy.heap.size) (.agg #[.int .u64 ge.rc.id, .int .u64 ge.rc.ver, .slice A6 n6 cap6]) ge.rc from ⟨_, _, _, rfl, HGO.out.2, HI6'.out⟩)
        have R2 := Lib.hid (show RecVal wy (fun k => k < wy.heap.size) (.agg #[.int .u64 ge.rc.id, .int .u64 ge.rc.ver, .slice A7 n7 cap7]) ge.rc from ⟨_, _, _, rfl, HGO.out.2, HI7'.out⟩)
        have D1 := Lib.hid (show ∀ k, k < wy.heap.size → k < wy.heap.size from fun _ h => h)
        have ER := Lib.hid (eqR_self ge.rc)
        obtain ⟨all, hall⟩ : ∃ all, scanL f t L = all := ⟨_, rfl⟩
        have QA := Lib.hid hall
        clear hall
        have S0' := Same.refl wy
        go_region_held3 (fun w' => Same wy w') (with_reducible (first | assumption | exact Same.drew _))
          ((first
            | (go_at_call 58; ((with_reducible refine (st_rscan f t (TA.out.later (by first | exact (Same.refl _).1 | exact (Same.drew _).1)) ⟨[2], b2, L, true⟩ (by simp) rfl HF.out QA.out).mono ?_); rintro e7 wb ⟨A5, cap5, rfl, hs, hb⟩; have TC := Lib.hid hs; have S1 := Same.step (show Same wy _ by (with_reducible (first | assumption | exact Same.drew _))) hb; clear hs hb))
            | (go_at_call 29; ((with_reducible refine (st_scan f t (TB.out.later (by first | exact (Same.refl _).1 | exact (Same.drew _).1)) ⟨π, b, L, false⟩ (by simp) rfl QA.out).mono ?_); rintro e7 wb ⟨A4, cap4, rfl, hs, hb⟩; have TC := Lib.hid hs; have S1 := Same.step (show Same wy _ by (with_reducible (first | assumption | exact Same.drew _))) hb; clear hs hb))
            | (go_at_call 29; ((with_reducible refine (st_scan f t (SI.out.later (by first | exact (Same.refl _).1 | exact (Same.drew _).1)) ⟨π, b, L, false⟩ (by simp) rfl QA.out).mono ?_); rintro e7 wb ⟨A4, cap4, rfl, hs, hb⟩; have TA := Lib.hid hs; have S1 := Same.step (show Same wy _ by (with_reducible (first | assumption | exact Same.drew _))) hb; clear hs hb))
            | (go_at_call 58; ((with_reducible refine (st_rscan f t (SI.out.later (by first | exact (Same.refl _).1 | exact (Same.drew _).1)) ⟨[2], b2, L, true⟩ (by simp) rfl HF.out QA.out).mono ?_); rintro e7 wb ⟨A5, cap5, rfl, hs, hb⟩; have TB := Lib.hid hs; have S1 := Same.step (show Same wy _ by (with_reducible (first | assumption | exact Same.drew _))) hb; clear hs hb))
            | (go_at_call 28; ((with_reducible refine (st_same (bo := true) (TC.out.later (by first | exact (Same.refl _).1 | exact (Same.drew _).1)) ⟨A4, all.length, cap4, all, none⟩ ⟨A5, all.length, cap5, all, none⟩ (by simp) (by simp) rfl rfl (by simp)).mono ?_); rintro e7 w5 ⟨rfl, hb⟩; have S1 := Same.step (show Same wy _ by (with_reducible (first | assumption | exact Same.drew _))) hb; clear hb))
            | (go_at_call 59; ((with_reducible refine (hent_any _ rfl rfl (R1.out.sm D1.out (show Same wy _ by (with_reducible (first | assumption | exact Same.drew _)))) (R2.out.sm D1.out (show Same wy _ by (with_reducible (first | assumption | exact Same.drew _)))) (Same.lt (show Same wy _ by (with_reducible (first | assumption | exact Same.drew _))) D1.out) (Same.lt (show Same wy _ by (with_reducible (first | assumption | exact Same.drew _))) D1.out)).mono ?_); rintro e7 w6 ⟨rfl, hb⟩; rw [ER.out]; have S1 := Same.step (show Same wy _ by (with_reducible (first | assumption | exact Same.drew _))) hb; clear hb))))
        all_goals
          go_wp2
          go_ret
          exact ⟨by first | rfl | simp, below_from SI.out.end (show Same wy _ by (first | assumption | exact Same.drew' (by assumption))).1 SI.out.end.size⟩

theorem wShelfPlays (W : World) (vs : List Value) (h : Sh.Args W (· < W.heap.size) [((.sl (.st (.pair (.int .i64) (.pair (.st (.pair (.int .u32) (.pair (.st (.pair (.int .u64) (.pair (.int .u64) (.pair (.sl (.int .u32) 4) .unit)))) (.pair .bool .unit)))) (.pair (.st (.pair (.int .u32) (.pair (.int .u32) .unit))) (.pair (.sl (.st (.pair (.int .u32) (.pair (.st (.pair (.int .u64) (.pair (.int .u64) (.pair (.sl (.int .u32) 4) .unit)))) (.pair .bool .unit)))) 56) .unit))))) 96), 88), ((.st (.pair (.int .u32) (.pair (.int .u32) .unit))), 54), ((.st (.pair (.int .u32) (.pair (.int .u64) .unit))), 90)] vs) :
    Calls Try.prog 15 vs.toArray W fun e W' => e = .returned (.bool true) ∧ Below W.heap.size W W' := by
  obtain ⟨_, _, rfl, ⟨a, ha⟩, _, _, rfl, ⟨b, hb⟩, _, _, rfl, ⟨d, hd⟩, rfl⟩ := h
  obtain ⟨A, n, cap, rfl, hn, hops⟩ := ops_at ha
  obtain ⟨cs, rfl, hb⟩ := hb
  obtain ⟨c1, c2, rfl, ⟨rfl, w1⟩, c3, c4, rfl, ⟨rfl, w2⟩, h5⟩ := hb
  cases h5
  obtain ⟨ds, rfl, hd⟩ := hd
  obtain ⟨d1, d2, rfl, ⟨rfl, v1⟩, d3, d4, rfl, ⟨rfl, v2⟩, h6⟩ := hd
  cases h6
  exact wShelfPlays0 W A n cap _ _ _ _ (u32_of w1) (u32_of w2) (u32_of v1) (u64_of v2) hn hops
end Go.Proofs.Ytmohkfihfkcpdaa
