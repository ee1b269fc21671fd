/- The walk of the law BalanceMiddle: it returns true. Conditions: none. -/
import Derived.Test.YtjniholnmjafeaaBalAwake
import Derived.Test.YtjniholnmjafeaaBalRow
import Derived.Test.YtjniholnmjafeaaRec
namespace Go.Proofs.Ytjniholnmjafeaa
open Go.RowKit Go.ChangeShapes
set_option maxRecDepth 100000
set_option linter.unusedVariables false
set_option linter.unusedSimpArgs false

/-- The cells of entries that have a value alone. -/
def enCells : List Int → List Value
  | [] => []
  | v :: r => .int .u32 v :: .int .u64 0 :: .int .u64 0 :: .slice none 0 0 :: .bool false :: enCells r
theorem enCells_len : ∀ l : List Int, (enCells l).length = l.length * 5
  | [] => rfl
  | x :: r => by simp only [enCells, List.length_cons, enCells_len r]; omega
theorem enCells_app : ∀ l r : List Int, enCells (l ++ r) = enCells l ++ enCells r
  | [], r => rfl
  | x :: l, r => by simp only [List.cons_append, enCells, enCells_app l r]
theorem enCells_at : ∀ {l : List Int} {j : Nat} {x : Int}, l[j]? = some x → (enCells l)[j * 5]? = some (.int .u32 x)
  | [], j, x, h => by simp at h
  | y :: r, 0, x, h => by
    simp only [List.getElem?_cons_zero, Option.some.injEq] at h
    subst h; rfl
  | y :: r, j + 1, x, h => by
    rw [List.getElem?_cons_succ] at h
    have := enCells_at h
    rw [show (j + 1) * 5 = j * 5 + 1 + 1 + 1 + 1 + 1 by omega]
    simp only [enCells, List.getElem?_cons_succ]
    exact this
theorem evals_owns {w : World} {base e n : Nat} {v : Value} {l : List Int} (h : w.ownsRow base e 5 v n (enCells l)) (hok : ∀ x ∈ l, U32 x) : ∃ B cap, v = .slice B n cap ∧ EVals w B n cap l := by
  have hl : l.length = n := by have := h.1; rw [enCells_len] at this; omega
  obtain ⟨B, cap, rfl, h1, h2, h3, h4⟩ := owns_shape h
  refine ⟨B, cap, rfl, hl, h1, h2, hok, fun hp => ?_⟩
  rcases B with _ | ad
  · have := h3 rfl; omega
  · obtain ⟨g, cur, rfl, hb, hs, ht⟩ := h4 ad rfl
    refine ⟨g, 0, rfl, hb.lt, fun j x hx => ?_⟩
    have q0 := enCells_at hx
    have htl : j * 5 < n * 5 := by have := (List.getElem?_eq_some_iff.1 q0).1; rw [enCells_len] at this; omega
    rw [← ht, List.getElem?_take_of_lt htl, Array.getElem?_toList] at q0
    rw [Nat.zero_add, hb.box.cell]; exact q0
/-- Rows of unlike types are unlike rows. -/
theorem own_apart {w w' : World} {b e s n b' e' s' n' : Nat} {v v' : Value} {xs xs' : List Value} (h : w.ownsRow b e s v n xs) (h' : w.ownsRow b' e' s' v' n' xs') (hne : e ≠ e') (hg : w.grownBy w' v'.ownBlock) : w'.ownsRow b e s v n xs := by
  refine h.kept hg ?_
  rcases h.2 with ⟨rfl, _⟩ | ⟨g1, cap, cur, rfl, _, hh, _⟩
  · exact .inl rfl
  · refine .inr fun he => ?_
    rcases h'.2 with ⟨rfl, _⟩ | ⟨g2, cap', cur', rfl, _, hh', _⟩
    · cases he
    · have e1 : g1 = g2 := by simpa [Value.ownBlock] using he
      subst e1
      rw [hh] at hh'; injection hh' with hh'; injection hh' with _ ht; exact hne ht
theorem own_from {w w' W : World} {e s n : Nat} {v : Value} {xs : List Value} (h : w.ownsRow W.heap.size e s v n xs) (hB : Below W.heap.size W w) (hg : w.grownBy w' v.ownBlock) : Below W.heap.size W w' := by
  refine hB.grown hg hB.size (fun k hk => ?_)
  rcases h.2 with ⟨he, _⟩ | ⟨g, cap, cur, he, hg, _⟩
  · rw [he] at hk; cases hk
  · rw [he] at hk; have hk' : g = k := by simpa [Value.ownBlock] using hk
    omega

/-- The loads of the law: one node has n entries, o others have none. -/
def midL (n : Int) (o k : Nat) : List Ld := ⟨2147483648, n⟩ :: (List.range k).map fun (i : Nat) => ⟨(o : Int) - (i : Int), 0⟩
theorem midL_succ (n : Int) (o k : Nat) : midL n o (k + 1) = midL n o k ++ [⟨(o : Int) - (k : Int), 0⟩] := by
  unfold midL; rw [List.range_succ, List.map_append]; rfl
theorem midL_len (n : Int) (o k : Nat) : (midL n o k).length = k + 1 := by simp [midL]
theorem mid_all : ∀ n : Nat, n < 41 → ∀ o : Nat, o < 13 → 3 ≤ o →
    mayF (midL n o o) = true ∧ (n < 2 ∨ (heavyF (midL n o o) = (⟨2147483648, (n : Int)⟩, true) ∧ lightF (midL n o o) = (⟨1, 0⟩, true))) := by decide +kernel
theorem mid_plan {n o : Nat} {vs : List Int} (hl : vs.length = n) (hn : n ≤ 40) (h3 : 3 ≤ o) (h12 : o ≤ 12) :
    (n < 2 → planF (midL n o o) vs = (0, 0, 20)) ∧ ∀ v, 2 ≤ n → vs[n / 2]? = some v → planF (midL n o o) vs = if v = 2147483648 then (0, 0, 20) else (1, v, 0) := by
  obtain ⟨h1, h2⟩ := mid_all n (by omega) o (by omega) h3
  refine ⟨fun h => plan_even h1 (.inr (.inr (by omega))), fun v h hv => ?_⟩
  rcases h2 with h2 | ⟨h2, h4⟩
  · omega
  · rw [plan_there h1 (by rw [h2]) (by rw [h4]) (by omega) (by rw [hl]; exact hv), h2, h4]

theorem news_box {w : World} {g : Nat} {C : Array Value} (h : Box w g C) : ∀ ad, some (⟨g, 0, none⟩ : Addr) = some ad → ∀ t u, C.toList[t]? = some u → w.cell? (ad.add t) = some u := by
  intro ad had t u hu
  injection had with had; subst had
  rw [addPlain, Nat.zero_add, h.cell t]
  rwa [Array.getElem?_toList] at hu
theorem take_snocI {l : List Int} {k : Nat} (h : k < l.length) : l.take (k + 1) = l.take k ++ [l.getD k 0] := by
  rw [List.take_succ_eq_append_getElem h, List.getD_eq_getElem?_getD, List.getElem?_eq_getElem h]; rfl

theorem half_facts (k : Nat) (h : k ≤ 40) (h2 : 2 ≤ k) : IntKind.i64.wrap ((k : Int).tdiv 2) = (k : Int) / 2 ∧ (k : Int).tdiv 2 = (k : Int) / 2 ∧ IntKind.i64.wrap ((k : Int) / 2) = (k : Int) / 2 ∧ wrap64 ((k : Int) / 2) = (k : Int) / 2 ∧
    (0 : Int) ≤ (k : Int) / 2 ∧ (k : Int) / 2 < (k : Int) ∧ ((k : Int) / 2).toNat = k / 2 := by
  have e : (k : Int).tdiv 2 = (k : Int) / 2 := Int.tdiv_eq_ediv_of_nonneg (by omega)
  have e2 : IntKind.i64.wrap ((k : Int) / 2) = (k : Int) / 2 := by simp [IntKind.wrap, IntKind.bits, IntKind.signed]; omega
  exact ⟨by rw [e]; exact e2, e, e2, by unfold wrap64; omega, by omega, by omega, by omega⟩
set_option maxHeartbeats 4000000 in
theorem wBalanceMiddle0 (W : World) {A : Option Addr} {n cap : Nat} {xs : List Int} (a : Int) (h : Ints W (· < W.heap.size) .u32 4 A n cap xs) :
    Calls Try.prog 13 #[.slice A n cap, .int .i64 a] W fun e W' => e = .returned (.bool true) ∧ Below W.heap.size W W' := by
  have HH := Lib.hid h
  have HL := Lib.hid h.1
  have bn : n ≤ 140737488351232 := by have := h.2.2.2.1; omega
  clear h
  have hinfo : (Try.prog.info? 79).map (fun i => (i.zero, i.size, i.bytes)) = some (some (.agg #[.int .u32 0, .int .i64 0]), 2, 16) := by kernel_rfl
  obtain ⟨i0, hii, hz0, hz1, hz2⟩ := info_parts hinfo
  have hinfo' : (Try.prog.info? 33).map (fun i => (i.zero, i.size, i.bytes)) = some (some (.agg #[.int .u32 0, .int .u64 0, .int .u64 0, .slice none 0 0, .bool false]), 5, 56) := by kernel_rfl
  obtain ⟨j0, jii, jz0, jz1, jz2⟩ := info_parts hinfo'
  clear hinfo hinfo'
  have et := uint_mod a 10 (by omega) (by omega)
  obtain ⟨x, hx⟩ : ∃ x, x = a % 18446744073709551616 % 10 := ⟨_, rfl⟩
  have bx : 0 ≤ x ∧ x < 10 := by omega
  rw [← hx] at et
  clear hx
  obtain ⟨o, ho⟩ : ∃ o : Nat, 3 + x = (o : Int) := ⟨(3 + x).toNat, by omega⟩
  have o3 : 3 ≤ o := by omega
  have o12 : o ≤ 12 := by omega
  obtain ⟨bx0, bx1⟩ := bx
  go_enter Try.func13, Try.ntmps13
  go_upto_region 2 with fail
  clear et bx0 bx1 ho
  go_wp2
  go_loopw [5, 6] (fun s i wr => ∃ k : Nat, k ≤ n ∧ k ≤ 40 ∧ i = .int .i64 k ∧ wr.ownsRow W.heap.size 33 5 s k (enCells (xs.take k)) ∧ Below W.heap.size W wr) (fun _ i _ => 40 - (intOf i).toNat)
  case atStart => exact ⟨0, Nat.zero_le _, by omega, rfl, ⟨rfl, .inl ⟨rfl, rfl⟩⟩, Below.refl _ _⟩
  case round =>
    obtain ⟨k, hk, hk40, rfl, hown, hB⟩ := hrel
    have HO := Lib.hid hown; have HB := Lib.hid hB
    obtain ⟨A1, cap1, rfl, _, _, _⟩ := owns_shape hown
    clear hown hB
    have hbs := HB.out.size
    by_cases hlt : k < n ∧ k < 40
    · obtain ⟨hlt, hlt40⟩ := hlt
      obtain ⟨b, off, rfl, hb, hc⟩ := HH.out.2.2.2.2.2.2 (by omega)
      have d0 := (HB.out.cell (p := ⟨b, off + k, none⟩) hb).trans (hc k hlt)
      have TS := Lib.hid (take_snocI (l := xs) (k := k) (by rw [HL.out]; exact hlt))
      generalize xs.getD k 0 = v at *
      clear hc
      go_wp2_with (at_builtin; go_loud (refine wpList_append_any _ rfl _ _ 75 rfl W.heap.size 33 j0 (.agg #[.int .u32 0, .int .u64 0, .int .u64 0, .slice none 0 0, .bool false]) 5 56 Try.underlying75 jii jz0 jz1 jz2 rfl (by decide) _ k (enCells (xs.take k)) rfl (HO.out.alloc _) (some ⟨wr.heap.size, 0, none⟩) 1 1 [.int .u32 v, .int .u64 0, .int .u64 0, .slice none 0 0, .bool false] rfl rfl (fun h => by cases h) (news_box (Box.new _ _ _)) (by intro u hu; simp at hu; rcases hu with rfl | rfl | rfl | rfl <;> rfl) (by unfold maxLen; omega) (by omega) (by rw [size_alloc]; omega) ?_; intro B2 cap2 w2 a2))
      go_roundw
      case rel => exact ⟨k + 1, by omega, by omega, by go_num, by rw [TS.out, enCells_app]; exact a2.1, own_from (HO.out.alloc _) (HB.out.alloc hbs _) a2.2.1⟩
      case measure => simp [intOf]; omega
    · obtain ⟨m, hm⟩ : ∃ m, m = min n 40 := ⟨_, rfl⟩
      have hkm : k = m := by omega
      subst hkm
      have YL := Lib.hid (show (xs.take k).length = k by rw [List.length_take, HL.out]; omega)
      have YU := Lib.hid (show ∀ y ∈ xs.take k, U32 y from fun y hy => u32_of (HH.out.2.2.2.2.2.1 y (List.mem_of_mem_take hy)))
      have hor : n ≤ k ∨ 40 ≤ k := by omega
      clear hm
      generalize xs.take k = ys at *
      rcases hor with hor | hor
      all_goals
        by_cases hkn : k < n
        all_goals try (exfalso; omega)
        all_goals
          clear hlt
          go_wp2
          obtain ⟨wo, hwo⟩ : ∃ wo : World, wo = wr := ⟨_, rfl⟩
          have HWO := Lib.hid hwo
          clear hwo
          go_loopw [8, 9] (fun s i w2 => ∃ q : Nat, q ≤ o ∧ i = .int .i64 q ∧ w2.ownsRow W.heap.size 79 2 s (q + 1) (ldCells (midL k o q)) ∧ w2.ownsRow W.heap.size 33 5 (.slice A1 k cap1) k (enCells ys) ∧ Below W.heap.size W w2) (fun _ i _ => o - (intOf i).toNat)
          case atStart => exact ⟨0, Nat.zero_le _, rfl, by have := box_owns (base := W.heap.size) (size := 2) (n := 1) (cap := 1) (BoxT.new wr #[.int .u32 2147483648, .int .i64 k] 79) rfl (by omega) (by omega) hbs; simpa [midL, ldCells] using this, HO.out.alloc _, HB.out.alloc hbs _⟩
          case round =>
            obtain ⟨q, hq, rfl, hown, hown2, hB2⟩ := hrel
            have HP := Lib.hid hown; have HE := Lib.hid hown2; have HB2 := Lib.hid hB2
            obtain ⟨A2, cap2, rfl, _, _, _⟩ := owns_shape hown
            clear hown hown2 hB2
            have hb2 := HB2.out.size
            by_cases hqo : q < o
            · have MS := Lib.hid (midL_succ k o q)
              go_wp2_with (at_builtin; go_loud (refine wpList_append_any _ rfl _ _ 74 rfl W.heap.size 79 i0 (.agg #[.int .u32 0, .int .i64 0]) 2 16 Try.underlying74 hii hz0 hz1 hz2 rfl (by decide) _ (q + 1) (ldCells (midL k o q)) rfl (HP.out.alloc _) (some ⟨_, 0, none⟩) 1 1 [.int .u32 ((o : Int) - (q : Int)), .int .i64 0] rfl rfl (fun h => by cases h) (news_box (Box.new _ _ _)) (by intro u hu; simp at hu; rcases hu with rfl | rfl <;> rfl) (by unfold maxLen; omega) (by omega) (by rw [size_alloc]; omega) ?_; intro B3 cap3 w3 a3))
              go_roundw
              case rel => exact ⟨q + 1, by omega, by go_num, by rw [MS.out, ldCells_app]; exact a3.1, own_apart (HE.out.alloc _) (HP.out.alloc _) (by decide) a3.2.1, own_from (HP.out.alloc _) (HB2.out.alloc hb2 _) a3.2.1⟩
              case measure => simp [intOf]; omega
            · have hqe : q = o := by omega
              subst hqe
              obtain ⟨B', c', he, hL⟩ := lds_owns HP.out (by
                intro x hx
                unfold midL at hx
                rcases List.mem_cons.1 hx with rfl | hx
                · exact ⟨⟨by dsimp only; omega, by dsimp only; omega⟩, ⟨by dsimp only; omega, by dsimp only; omega⟩⟩
                · obtain ⟨i, hi, rfl⟩ := List.mem_map.1 hx
                  have := List.mem_range.1 hi
                  exact ⟨⟨by dsimp only; omega, by dsimp only; omega⟩, ⟨by dsimp only; omega, by dsimp only; omega⟩⟩) (by omega)
              injection he with he1 _ he2
              subst he1 he2
              obtain ⟨B', c', he, hE⟩ := evals_owns HE.out YU.out
              injection he with he1 _ he2
              subst he1 he2
              obtain ⟨MP1, MP2⟩ := mid_plan (n := k) (o := q) YL.out (by omega) o3 o12
              have C0 := bal_plan wr hL (by omega) hE
              have EV := Lib.hid hE
              clear hL
              by_cases hk2 : k < 2
              · try (exfalso; omega)
                all_goals
                 rw [MP1 hk2] at C0
                 have CP := Lib.hid C0
                 clear C0 MP1 MP2
                 go_wp2_with (first
                  | (go_at_call 56; go_loud ((with_reducible refine CP.out.mono ?_); rintro e5 w5 ⟨rfl, hb5⟩; have K5 := Lib.hid (below_from HB2.out hb5 hb2); have EV5 := Lib.hid (EV.out.below hb5 (Nat.le_refl _)); clear hb5))
                  | (go_at_call 50; go_loud ((with_reducible refine (awake17 _).mono ?_); rintro e6 w6 ⟨rfl, hb6⟩; have X6 := (Box.new w5 #[.int .u32 0, .int .u32 0] 83).below hb6 (by rw [size_alloc]; omega); have c6 := X6.cell; have z6 := X6.lt; have K6 := Lib.hid (below_from (K5.out.alloc K5.out.size (.cells #[.int .u32 0, .int .u32 0] 83)) hb6 (by rw [size_alloc]; have := K5.out.size; omega)); clear hb6 X6)))
                 go_ret
                 exact ⟨by first | rfl | simp, K6.out⟩
              · obtain ⟨v, hv⟩ : ∃ v, ys[k / 2]? = some v := ⟨_, List.getElem?_eq_getElem (by rw [YL.out]; omega)⟩
                have MP3 := MP2 v (by omega) hv
                obtain ⟨b, off, rfl, hbx, hcell⟩ := hE.2.2.2.2 (by omega)
                have hce := hcell _ v hv
                obtain ⟨v0, v1⟩ := YU.out v (List.mem_of_getElem? hv)
                clear hcell MP1 MP2 hE hv
                have hkd : k / 2 < k := by omega
                by_cases hv31 : v = 2147483648
                · rw [MP3, if_pos hv31] at C0
                  have CP := Lib.hid C0
                  clear C0 MP3
                  subst hv31
                  go_wp2_with (first
                  | (go_at_call 56; go_loud ((with_reducible refine CP.out.mono ?_); rintro e5 w5 ⟨rfl, hb5⟩; have K5 := Lib.hid (below_from HB2.out hb5 hb2); have EV5 := Lib.hid (EV.out.below hb5 (Nat.le_refl _)); have d5 := (hb5.cell (p := ⟨b, off + k / 2 * 5, none⟩) hbx).trans hce; have z5 := Nat.lt_of_lt_of_le hbx hb5.size; clear hb5))
                  | (go_at_call 50; go_loud ((with_reducible refine (awake17 _).mono ?_); rintro e6 w6 ⟨rfl, hb6⟩; have X6 := (Box.new w5 #[.int .u32 0, .int .u32 0] 83).below hb6 (by rw [size_alloc]; omega); have c6 := X6.cell; have z6 := X6.lt; have K6 := Lib.hid (below_from (K5.out.alloc K5.out.size (.cells #[.int .u32 0, .int .u32 0] 83)) hb6 (by rw [size_alloc]; have := K5.out.size; omega)); clear hb6 X6)))
                  go_ret
                  exact ⟨by first | rfl | simp, K6.out⟩
                · rw [MP3, if_neg hv31] at C0
                  have CP := Lib.hid C0
                  clear C0 MP3
                  have hvq : (v == 2147483648) = false := by rw [beq_eq_false_iff_ne]; exact hv31
                  go_upto_region 16 with (first
                  | (go_at_call 56; go_loud ((with_reducible refine CP.out.mono ?_); rintro e5 w5 ⟨rfl, hb5⟩; have K5 := Lib.hid (below_from HB2.out hb5 hb2); have EV5 := Lib.hid (EV.out.below hb5 (Nat.le_refl _)); have d5 := (hb5.cell (p := ⟨b, off + k / 2 * 5, none⟩) hbx).trans hce; have z5 := Nat.lt_of_lt_of_le hbx hb5.size; clear hb5))
                  | (go_at_call 50; go_loud ((with_reducible refine (awake17 _).mono ?_); rintro e6 w6 ⟨rfl, hb6⟩; have X6 := (Box.new w5 #[.int .u32 1, .int .u32 v] 83).below hb6 (by rw [size_alloc]; omega); have c6 := X6.cell; have z6 := X6.lt; have K6 := Lib.hid (below_from (K5.out.alloc K5.out.size (.cells #[.int .u32 1, .int .u32 v] 83)) hb6 (by rw [size_alloc]; have := K5.out.size; omega)); clear hb6 X6)))
                  refine wp_abs (fun wx => Box wx w5.heap.size #[.int .u32 1, .int .u32 v] ∧ wx.cell? ⟨b, off + k / 2 * 5, none⟩ = some (.int .u32 v) ∧ b < wx.heap.size ∧ Below W.heap.size W wx) ⟨Box.new _ _ _, ((below_a1 w5 _).cell (p := ⟨b, off + k / 2 * 5, none⟩) z5).trans d5, by rw [size_alloc]; omega, K5.out.alloc K5.out.size _⟩ ?_
                  clear K5 EV5 d5 z5 hb2 HB2
                  generalize w5.heap.size = b10 at *
                  rintro wx ⟨X10, d6, zb, K7⟩
                  have c10 := X10.cell
                  have z10 := X10.lt
                  have K8 := Lib.hid K7
                  obtain ⟨hq2, hq6, hq7, hq8, hq3, hq4, hq5⟩ := half_facts k (by omega) (by omega)
                  clear K7 X10
                  go_region_held3 (fun w' => Same wx w') (first | exact Same.drew _ | assumption)
                    ((go_at_call 50; (with_reducible refine (awake17 _).mono ?_); rintro e6 w6 ⟨rfl, hb6⟩; have S1 := Same.step (by first | exact Same.drew _ | assumption) hb6; clear hb6))
                  go_wp2
                  go_ret
                  exact ⟨by first | rfl | simp, below_from K8.out S1.1 K8.out.size⟩

theorem wBalanceMiddle (W : World) (vs : List Value) (h : Sh.Args W (· < W.heap.size) [((.sl (.int .u32) 4), 29), ((.int .i64), 3)] vs) :
    Calls Try.prog 13 vs.toArray W fun e W' => e = .returned (.bool true) ∧ Below W.heap.size W W' := by
  obtain ⟨_, _, rfl, ⟨a, ha⟩, _, _, rfl, ⟨b, hb⟩, rfl⟩ := h
  obtain ⟨l, A, n, cap, rfl, hi⟩ := ints_open ha
  obtain ⟨n1, rfl, w1⟩ := int_open hb
  exact wBalanceMiddle0 W n1 hi
end Go.Proofs.Ytjniholnmjafeaa
