/- The walk of the law PoolPlays: it returns true. Conditions: none. -/
import Derived.Test.YtjniholnmjafeaaPoolFork
import Derived.Test.YtjniholnmjafeaaStructs
import Derived.Test.YtjniholnmjafeaaOwn
namespace Go.Proofs.Ytjniholnmjafeaa
open Go.RowKit Go.ChangeShapes
set_option maxRecDepth 100000
set_option linter.unusedVariables false

/-- The ops that are handed in: whatever is read of them. -/
def OpsR (w : World) (D : Nat → Prop) (A : Option Addr) (n cap : Nat) : Prop :=
  n ≤ cap ∧ cap ≤ 9223372036854775807 ∧ n * 40 ≤ 140737488351232 ∧ (0 < n → ∃ b off, A = some ⟨b, off, none⟩ ∧ D b ∧ ∀ j, j < n → ∃ (kd I : Int) (A' : Option Addr) (n' c' : Nat) (xs : List Int),
    (-9223372036854775808 ≤ kd ∧ kd ≤ 9223372036854775807) ∧ (-9223372036854775808 ≤ I ∧ I ≤ 9223372036854775807) ∧
    w.cell? ⟨b, off + j * 3, none⟩ = some (.int .i64 kd) ∧ w.cell? ⟨b, off + j * 3 + 1, none⟩ = some (.int .i64 I) ∧ w.cell? ⟨b, off + j * 3 + 2, none⟩ = some (.slice A' n' c') ∧ Ints w D .u8 1 A' n' c' xs)
theorem ops_open {w : World} {D : Nat → Prop} {v : Value} {y : (Sh.sl (.st (.pair (.int .i64) (.pair (.int .i64) (.pair (.sl (.int .u8) 1) .unit)))) 40).T}
    (h : Sh.Val w D (.sl (.st (.pair (.int .i64) (.pair (.int .i64) (.pair (.sl (.int .u8) 1) .unit)))) 40) v y) : ∃ A n cap, v = .slice A n cap ∧ OpsR w D A n cap := by
  obtain ⟨A, n, cap, h1, h2, h3, h4, h5, h6, h7⟩ := structs_of (s := .st (.pair (.int .i64) (.pair (.int .i64) (.pair (.sl (.int .u8) 1) .unit)))) (by decide) h
  simp only [List.cons.injEq, and_true] at h1
  refine ⟨A, n, cap, h1, h3, h4, h5, fun hn => ?_⟩
  obtain ⟨b, off, hA, hd, hc⟩ := h7 hn
  refine ⟨b, off, hA, hd, fun j hj => ?_⟩
  obtain ⟨cl, x, _, hl, hcell, hr⟩ := hc j hj
  obtain ⟨c1, c2, rfl, ⟨rfl, w1⟩, c3, c4, rfl, ⟨rfl, w2⟩, c5, c6, rfl, hr3, hr4⟩ := hr
  cases hr4
  obtain ⟨A', n', c', rfl, hi⟩ := ints_of hr3
  exact ⟨_, _, A', n', c', _, bounds_i64 w1, bounds_i64 w2, hcell 0 (by decide), hcell 1 (by decide), hcell 2 (by decide), hi⟩

/-- Where the law stands: the pool at b with l, its own list v with l2. -/
def InPl (W : World) (k b : Nat) (v : Value) (l l2 : List (List Int)) (w : World) : Prop :=
  ∃ (c : Col) (j : Nat), j ≤ k ∧ Stp (fun x => x ≠ []) (fun _ => []) W c w ∧ PoolR c [1, (j : Int)] w b l ∧ RowR 51 .u8 1 c [2] w v l2
theorem InPl.below {W : World} {k b : Nat} {v : Value} {l l2 : List (List Int)} {w : World} (h : InPl W k b v l l2 w) : Below W.heap.size W w := by
  obtain ⟨c, j, _, s, _⟩ := h
  exact s.below (Nat.le_refl _) (fun k hk h => h rfl)

/-- In the midst of a round: o lies at ob. -/
structure Mid (W : World) (k b : Nat) (v : Value) (l l2 : List (List Int)) (ob : Nat) (kd I : Int) (A' : Option Addr) (n' c' : Nat) (xs : List Int) (c : Col) (j : Nat) (w : World) : Prop where
  jk : j ≤ k
  s : Stp (fun x => x ≠ []) (fun _ => []) W c w
  p : PoolR c [1, (j : Int)] w b l
  r : RowR 51 .u8 1 c [2] w v l2
  o : Box w ob #[.int .i64 kd, .int .i64 I, .slice A' n' c']
  co : c ob = []
  x : DInts c w .u8 1 (.slice A' n' c') xs
section
variable {W : World} {k b : Nat} {v : Value} {l l2 : List (List Int)} {ob : Nat} {kd I : Int} {A' : Option Addr} {n' c' : Nat} {xs : List Int} {c : Col} {j : Nat} {w : World}
theorem Mid.step {C : List Int → Prop} {c1 : Col} {w1 : World} (h : Mid W k b v l l2 ob kd I A' n' c' xs c j w) (s : Stp C c w c1 w1) (h0 : ¬ C []) (h1 : ¬ C [1, (j : Int)]) (h2 : ¬ C [2]) : Mid W k b v l l2 ob kd I A' n' c' xs c1 j w1 :=
  ⟨h.jk, h.s.trans (s.mono (fun x hx he => h0 (by rw [← he]; exact hx))), h.p.step s h1 h0, h.r.step s h2 h0, h.o.only s.only (by show ¬ C (c ob); rw [h.co]; exact h0), (s.col _ h.o.lt).trans h.co, h.x.step s h0⟩
theorem Mid.later {w1 : World} (h : Mid W k b v l l2 ob kd I A' n' c' xs c j w) (hb : Below w.heap.size w w1) : Mid W k b v l l2 ob kd I A' n' c' xs c j w1 :=
  h.step (C := fun _ => False) (Stp.of_below _ h.s.fresh hb) id id id
theorem Mid.to {l' : List (List Int)} {c1 : Col} {w1 : World} (h : Mid W k b v l l2 ob kd I A' n' c' xs c j w) (s : Stp (· = [1, (j : Int)]) c w c1 w1) (p : PoolR c1 [1, (j : Int)] w1 b l') : Mid W k b v l' l2 ob kd I A' n' c' xs c1 j w1 :=
  ⟨h.jk, h.s.trans (s.mono (fun x hx => by rw [hx]; simp)), p, h.r.step s (by simp) (by simp), h.o.only s.only (by show ¬ c ob = _; rw [h.co]; simp), (s.col _ h.o.lt).trans h.co, h.x.step s (by simp)⟩
theorem Mid.row {v' : Value} {l' : List (List Int)} {c1 : Col} {w1 : World} (h : Mid W k b v l l2 ob kd I A' n' c' xs c j w) (s : Stp (· = [2]) c w c1 w1) (r : RowR 51 .u8 1 c1 [2] w1 v' l') : Mid W k b v' l l' ob kd I A' n' c' xs c1 j w1 :=
  ⟨h.jk, h.s.trans (s.mono (fun x hx => by rw [hx]; simp)), h.p.step s (by simp) (by simp), r, h.o.only s.only (by show ¬ c ob = _; rw [h.co]; simp), (s.col _ h.o.lt).trans h.co, h.x.step s (by simp)⟩
/-- Another pool takes the place. -/
theorem Mid.fork {b' : Nat} {l' : List (List Int)} {j' : Nat} (h : Mid W k b v l l2 ob kd I A' n' c' xs c j w) (hj : j' ≤ k) (p : PoolR c [1, (j' : Int)] w b' l') : Mid W k b' v l' l2 ob kd I A' n' c' xs c j' w :=
  ⟨hj, h.s, p, h.r, h.o, h.co, h.x⟩
theorem Mid.fin (h : Mid W k b v l l ob kd I A' n' c' xs c j w) : InPl W k b v l l w := ⟨c, j, h.jk, h.s, h.p, h.r⟩
theorem add_plain (g o t : Nat) : (⟨g, o, none⟩ : Addr).add t = ⟨g, o + t, none⟩ := by unfold Addr.add; split <;> simp_all
theorem add_block (A : Addr) (t : Nat) : (A.add t).block = A.block := by unfold Addr.add; split <;> rfl
theorem take_some {α : Type} {vs : List α} {q t : Nat} {u : α} (h : (vs.take q)[t]? = some u) : vs[t]? = some u := by
  by_cases ht : t < q
  · rwa [List.getElem?_take_of_lt ht] at h
  · rw [List.getElem?_take_eq_none (by omega)] at h; cases h
theorem row_cells {T g n cap : Nat} {vs : List Value} (ho : w.ownsRow 0 T 1 (.slice (some ⟨g, 0, none⟩) n cap) n vs) : ∀ t u, vs[t]? = some u → w.cell? ⟨g, t, none⟩ = some u := by
  intro t u hu
  obtain ⟨g', cap', he, hc, _⟩ := owns_cell ho hu
  injection he with he; injection he with he; injection he with he; subst he
  exact hc
theorem row_one {kk : IntKind} {bytes : Nat} {vs : List Value} (hd : ∀ (i : Nat) (u : Value) (x : List Int), vs[i]? = some u → l[i]? = some x → DInts c w kk bytes u x) (hl : vs.length = l.length) : ∀ u ∈ vs, u.oneCell' = true := by
  intro u hu
  obtain ⟨i, hi⟩ := List.getElem?_of_mem hu
  have hil := (List.getElem?_eq_some_iff.1 hi).1
  obtain ⟨A, n, cp, rfl, _⟩ := hd i u (l[i]'(by omega)) hi (List.getElem?_eq_getElem _)
  rfl
theorem ints_none {D : Nat → Prop} {kk : IntKind} {bytes : Nat} {A : Option Addr} {n cap : Nat} {xs : List Int} (h : Ints w D kk bytes A n cap xs) : A = none → n = 0 ∧ cap = 0 := fun hA => by
  have := h.2.2.2.2.1 hA
  have := h.2.1
  omega
theorem ints_news {D : Nat → Prop} {kk : IntKind} {bytes : Nat} {A : Option Addr} {n cap : Nat} {xs : List Int} (h : Ints w D kk bytes A n cap xs) : ∀ ad, A = some ad → ∀ t u, (xs.map (Value.int kk))[t]? = some u → w.cell? (ad.add t) = some u := by
  intro ad had t u hu
  rw [List.getElem?_map] at hu
  obtain ⟨x, hx, rfl⟩ := Option.map_eq_some_iff.1 hu
  have ht : t < n := by have := (List.getElem?_eq_some_iff.1 hx).1; have := h.1; omega
  obtain ⟨b, off, hb, hd, hcell⟩ := h.2.2.2.2.2.2 (by omega)
  rw [had] at hb; injection hb with hb; subst hb
  rw [add_plain, hcell t ht, List.getD_eq_getElem?_getD, hx]; rfl
theorem ints_one (kk : IntKind) (xs : List Int) : ∀ u ∈ xs.map (Value.int kk), u.oneCell' = true := by
  intro u hu; obtain ⟨x, _, rfl⟩ := List.mem_map.1 hu; rfl
/-- What append has made out of nil is data. -/
theorem appd_data {kk : IntKind} {bytes e : Nat} {B : Option Addr} {cap : Nat} {xs : List Int} {w1 : World} (h : Appd w 0 e 1 0 xs.length [] (xs.map (Value.int kk)) (.slice none 0 0) B cap w1) (hf : Fresh c w) (hw : ∀ x ∈ xs, (Lit.int kk x).wf = true) (hb : xs.length * bytes ≤ 140737488351232) :
    DInts c w1 kk bytes (.slice B xs.length cap) xs := by
  obtain ⟨h1, h2, h3⟩ := h
  rw [Nat.zero_add, List.nil_append] at h1
  rw [Nat.zero_add] at h3
  obtain ⟨B', c', he, hi⟩ := ints_of_owns h1 hw hb
  injection he with he1 _ he2
  subst he1 he2
  refine ⟨_, _, _, rfl, ?_⟩
  obtain ⟨i1, i2, i3, i4, i5, i6, i7⟩ := hi
  refine ⟨i1, i2, i3, i4, i5, i6, fun hn => ?_⟩
  obtain ⟨b, off, rfl, _, hc⟩ := i7 hn
  refine ⟨b, off, rfl, ⟨?_, World.block_lt_of_cell? w1 _ (hc 0 hn)⟩, hc⟩
  rcases h1.2 with ⟨he, _⟩ | ⟨g, cap', cur, he, _⟩
  · cases he
  · injection he with he _ _; injection he with he; injection he with he1 he2; subst he1 he2
    rcases h3 with h3 | h3
    · cases h3
    · have h4 : some b = some w.heap.size := h3
      injection h4 with h4; exact hf _ (Nat.le_of_eq h4.symm)
theorem one_data {kk : IntKind} {bytes : Nat} {u0 : Value} {x0 : List Int} (h : DInts c w kk bytes u0 x0) : ∀ (i : Nat) (u : Value) (x : List Int), [u0][i]? = some u → [x0][i]? = some x → DInts c w kk bytes u x := by
  intro i u x hu hx
  match i with
  | 0 => simp at hu hx; subst hu hx; exact h
  | i + 1 => simp at hu
/-- append(append(nil, v[:i]...), v[i+1:]...). -/
theorem cut_fin {T : TypeId} {π : List Int} {vs : List Value} {q : Nat} {B B2 : Option Addr} {cap cap2 : Nat} {w1 w2 : World} (hf : Fresh c w) (hπ : π ≠ []) (hq : q < l.length) (hl : vs.length = l.length) (hd : ∀ (i : Nat) (u : Value) (x : List Int), vs[i]? = some u → l[i]? = some x → DInts c w .u8 1 u x)
    (h1 : Appd w 0 T 1 0 q [] (vs.take q) (.slice none 0 0) B cap w1) (h2 : Appd w1 0 T 1 (0 + q) (l.length - (q + 1)) ([] ++ vs.take q) (vs.drop (q + 1)) (.slice B (0 + q) cap) B2 cap2 w2) :
    ∃ c', Stp (· = π) c w c' w2 ∧ RowR T .u8 1 c' π w2 (.slice B2 (0 + q + (l.length - (q + 1))) cap2) (l.eraseIdx q) := by
  have hπ' : ¬ ([] : List Int) = π := fun h => hπ h.symm
  obtain ⟨c1, s1, r1⟩ := RowR.app (k := .u8) (bytes := 1) (l := []) (ys := l.take q) hf hπ rfl ⟨rfl, .inl ⟨rfl, rfl⟩⟩ (fun g hg => by cases hg) (fun i u x hu => by simp at hu) (by rw [List.length_take]; omega)
    (fun i u x hu hx => by
      by_cases hi : i < q
      · rw [List.getElem?_take_of_lt hi] at hu hx
        exact hd i u x hu hx
      · rw [List.getElem?_take_eq_none (by omega)] at hu; cases hu) h1
  obtain ⟨vs1, ho1, hg1, hd1⟩ := r1
  have e : ([] ++ l.take q).length = 0 + q := by rw [List.length_append, List.length_take, List.length_nil]; omega
  rw [e] at ho1
  have h2own := h1.1
  have hdd : ∀ (i : Nat) (u : Value) (x : List Int), ([] ++ vs.take q)[i]? = some u → ([] ++ l.take q)[i]? = some x → DInts c1 w1 .u8 1 u x := by
    intro i u x hu hx
    rw [List.nil_append] at hu hx
    by_cases hi : i < q
    · rw [List.getElem?_take_of_lt hi] at hu hx
      exact (hd i u x hu hx).step s1 hπ'
    · rw [List.getElem?_take_eq_none (by omega)] at hu; cases hu
  obtain ⟨c2, s2, r2⟩ := RowR.app (k := .u8) (bytes := 1) (l := [] ++ l.take q) (ys := l.drop (q + 1)) s1.fresh hπ e h2own hg1 hdd (by rw [List.length_drop])
    (fun i u x hu hx => by
      rw [List.getElem?_drop] at hu hx
      exact (hd _ u x hu hx).step s1 hπ') h2
  refine ⟨c2, s1.trans s2, ?_⟩
  rw [List.nil_append, ← List.eraseIdx_eq_take_drop_succ] at r2
  exact r2
end

set_option maxHeartbeats 4000000 in
theorem wPoolPlays0 (W : World) (A : Option Addr) (n cap : Nat) (hi : OpsR W (· < W.heap.size) A n cap) :
    Calls Try.prog 15 #[.slice A n cap] W fun e W' => e = .returned (.bool true) ∧ Below W.heap.size W W' := by
  have hf0 : Fresh (fun _ => []) W := fun k hk => rfl
  have hn : n ≤ 140737488351232 := by have := hi.2.2.1; omega
  have HI := Lib.hid hi; clear hi
  have H0 := Lib.hid hf0; clear hf0
  have hinfo : (Try.prog.info? 51).map (fun i => (i.zero, i.size, i.bytes)) = some (some (.slice none 0 0), 1, 24) := by kernel_rfl
  obtain ⟨i0, hii, hz0, hz1, hz2⟩ := info_parts hinfo
  have hinfo' : (Try.prog.info? 5).map (fun i => (i.zero, i.size, i.bytes)) = some (some (.int .u8 0), 1, 1) := by kernel_rfl
  obtain ⟨j0, jii, jz0, jz1, jz2⟩ := info_parts hinfo'
  clear hinfo hinfo'
  go_enter Try.func15, Try.ntmps15
  go_wp2_with (first
    | (go_at_call 36; (with_reducible refine (pool_new [1, 0] _ H0.out).mono ?_); rintro e w1 ⟨rfl, c1, s1, p1⟩; have S1 := Lib.hid s1; have P1 := Lib.hid p1; clear s1 p1)
    | (go_at_call 35; (with_reducible refine (awake08 _).mono ?_); rintro e w2 ⟨rfl, hb2⟩; have P2 := Lib.hid (show InPl W 0 W.heap.size (.slice none 0 0) [] [] w2 from ⟨c1, 0, Nat.le_refl _, (S1.out.trans (Stp.of_below _ S1.out.fresh hb2)).mono (fun x h => by rw [h]; decide), P1.out.later S1.out.fresh hb2, RowR.nil⟩); clear hb2))
  go_loopw [3, 4, 5] (fun p s i wr => ∃ (k b : Nat) (l : List (List Int)), p = .pointer (some ⟨b, 0, none⟩) ∧ i = .int .i64 (k : Int) ∧ k ≤ n ∧ k ≤ 80 ∧ l.length ≤ k ∧ InPl W k b s l l wr) (fun _ _ i _ => 80 - (intOf i).toNat)
  case atStart => exact ⟨0, _, [], rfl, rfl, by omega, by omega, Nat.le_refl _, P2.out⟩
  case round =>
    obtain ⟨k, b, l, rfl, rfl, hkn, hk80, hlk, hp⟩ := hrel
    have P := Lib.hid hp
    obtain ⟨c, j, hjk, s, p, r⟩ := hp
    obtain ⟨A1, cap1, rfl, hlc, hc63, hnil⟩ := r.shape
    have PS := Lib.hid s; have PP := Lib.hid p; have PR := Lib.hid r
    clear s p r
    by_cases hlt : k < n ∧ k < 80
    · obtain ⟨hlt, hlt80⟩ := hlt
      obtain ⟨b0, off, rfl, hb0, hcc⟩ := HI.out.2.2.2 (by omega)
      obtain ⟨kd, I, A', n', c', xs, hkd, hI, cc0, cc1, cc2, hx⟩ := hcc k hlt
      have cw0 := (P.out.below.cell (p := ⟨b0, off + k * 3, none⟩) hb0).trans cc0
      have cw1 := (P.out.below.cell (p := ⟨b0, off + k * 3 + 1, none⟩) hb0).trans cc1
      have cw2 := (P.out.below.cell (p := ⟨b0, off + k * 3 + 2, none⟩) hb0).trans cc2
      obtain rfl : xs.length = n' := hx.1
      have HX := Lib.hid hx
      clear hcc cc0 cc1 cc2 hx
      go_upto_region 9 with fail
      refine wp_abs (fun w => Box w wr.heap.size #[.int .i64 kd, .int .i64 I, .slice A' xs.length c'] ∧ Below wr.heap.size wr w) ⟨(by repeat (first | apply Box.drew | apply Box.drewN | exact Box.newAt _ _ _ _ (by first | rfl | (simp only [size_alloc]; done) | (simp only [size_alloc]; omega)) | assumption | refine Box.alloc ?_ _)), (by repeat (first | exact Below.refl _ _ | assumption | apply Below.drew | apply belowN | (refine Below.alloc ?_ (by first | exact Nat.le_refl _ | (simp; done) | (simp; omega)) _) | (refine Below.setCell ?_ (by first | exact Nat.le_refl _ | (simp; done) | (simp; omega)) _)))⟩ ?_
      rintro w ⟨hbx, hbl⟩
      have M := Lib.hid (show Mid W (k + 1) b (.slice A1 l.length cap1) l l wr.heap.size kd I A' xs.length c' xs c j w from
        ⟨Nat.le_succ_of_le hjk, PS.out.trans (Stp.of_below _ PS.out.fresh hbl), PP.out.later PS.out.fresh hbl, PR.out.later PS.out.fresh hbl, hbx, PS.out.fresh _ (Nat.le_refl _),
          ⟨_, _, _, rfl, HX.out.move fun q hq _ => ⟨(hbl.block q (Nat.lt_of_lt_of_le hq PS.out.only.size)).trans (P.out.below.block q hq), PS.out.col q hq, Nat.lt_of_lt_of_le hq (Nat.le_trans PS.out.only.size hbl.size)⟩⟩⟩)
      have oc := hbx.cell
      have hb9 := hbl.size
      generalize wr.heap.size = ob at *
      have hl5 : l.length < 5000 := by omega
      clear hbx hbl HX cw0 cw1 cw2 PP PR
      by_cases k4 : kd = 4
      · as_aux_lemma =>
        subst k4
        have hne : ¬ [1, ((k + 1 : Nat) : Int)] = [1, (j : Int)] := by simp; omega
        clear hjk
        go_wp2_with (first
          | (go_at_call 62; go_loud ((with_reducible refine (pool_fork (π' := [1, ((k + 1 : Nat) : Int)]) M.out.p M.out.s.fresh (Nat.le_of_lt hl5) (List.cons_ne_nil _ _)).mono ?_); rintro e w2 ⟨b', rfl, ⟨c2, s2, p2⟩, hb', bl2⟩; have sF : Stp (fun _ => False) c w c2 w2 := ⟨Only.of_below bl2, s2.col, s2.fresh⟩; have M2 := M.out.step sF id id id; have T2 := below_a1 w2 (.cells #[.int .u8 7] 5); have M3 := Lib.hid (M2.later T2); have P3 := Lib.hid (p2.later s2.fresh T2); have D3 := Lib.hid (show DInts c2 (w2.alloc (.cells #[.int .u8 7] 5)) .u8 1 (.slice (some ⟨w2.heap.size, 0, none⟩) 1 1) [7] from dints_lit s2.fresh .u8 1 5 [7] (by decide) (by decide) (by decide)); clear s2 p2 sF M2 T2))
          | (go_at_call 37; go_loud ((with_reducible refine (pool_push M3.out.p D3.out M3.out.s.fresh hl5 (List.cons_ne_nil _ _)).mono ?_); rintro e w4 ⟨rfl, c4, s4, p4⟩; have M4 := Lib.hid ((M3.out.to s4 p4).fork (Nat.le_refl _) (P3.out.step s4 hne (by simp))); clear s4 p4))
          | (go_at_call 41; go_loud ((with_reducible refine (pool_len M4.out.p).mono ?_); rintro e w8 ⟨rfl, rfl⟩)))
        all_goals
          go_roundw
          case rel => exact ⟨k + 1, b', l, rfl, by go_num, by omega, by omega, by omega, M4.out.fin⟩
          case measure => simp [intOf]; omega
      by_cases kx : kd ≠ 1 ∧ kd ≠ 2 ∧ kd ≠ 3
      · as_aux_lemma =>
        obtain ⟨k1, k2, k3⟩ := kx
        have k1' : (kd == 1) = false := by rw [beq_eq_false_iff_ne]; exact k1
        have k2' : (kd == 2) = false := by rw [beq_eq_false_iff_ne]; exact k2
        have k3' : (kd == 3) = false := by rw [beq_eq_false_iff_ne]; exact k3
        have k4' : (kd == 4) = false := by rw [beq_eq_false_iff_ne]; exact k4
        obtain ⟨DX, hDX, hxi⟩ := M.out.x.lt
        have HXI := Lib.hid hxi
        have HDX := Lib.hid hDX
        have HEL := Lib.hid (show l.length + 1 = (l ++ [xs]).length by simp)
        have hx4 := hxi.2.2.2.1
        have hwf := Lib.hid hxi.2.2.2.2.2.1
        clear hxi hDX k1 k2 k3 k4
        have hxm := Lib.hid (show 0 + xs.length ≤ maxLen by unfold maxLen; omega)
        have hxb := Lib.hid (show (0 + xs.length) * 1 ≤ 140737488355328 by omega)
        go_wp2_with (first
          | (go_at_call 63; go_loud ((with_reducible refine (own_u8 71 w HXI.out HDX.out).mono ?_); rintro e w2 ⟨g2, rfl, hg2, bx2, bl2⟩; have M2 := Lib.hid (M.out.later bl2); have BX2 := Lib.hid bx2; obtain ⟨D2, hD2, hx2⟩ := M2.out.x.lt; have DI2 := Lib.hid (show DInts c w2 .u8 1 (.slice (some ⟨g2, 0, none⟩) xs.length (xs.length + 3)) xs from ⟨_, _, _, rfl, (own_ints (by omega) hx2 bx2).move (fun q hq hlt => by subst hq; exact ⟨rfl, M.out.s.fresh _ hg2, hlt⟩)⟩); have cg2 := M.out.s.fresh _ hg2; have oc2 := M2.out.o.cell; clear bx2 bl2 hD2 hx2))
          | (go_at_call 37; go_loud ((with_reducible refine (pool_push M2.out.p DI2.out M2.out.s.fresh hl5 (List.cons_ne_nil _ _)).mono ?_); rintro e w3 ⟨rfl, c3, s3, p3⟩; have M3 := Lib.hid (M2.out.to s3 p3); have BX3 := Lib.hid (BX2.out.only s3.only (show ¬ c g2 = [1, (j : Int)] from fun h => by rw [cg2] at h; cases h)); have oc3 := M3.out.o.cell; obtain ⟨D3, hD3, hx3⟩ := M3.out.x.lt; have HX3 := Lib.hid hx3; clear s3 p3 hx3 hD3))
          | (go_at_call 64; go_loud ((with_reducible refine (kept_u8 71 w3 HX3.out BX3.out).mono ?_); rintro e w4 ⟨rfl, hd4⟩; have M4 := Lib.hid (M3.out.later hd4.below); have oc4 := M4.out.o.cell; obtain ⟨D4, hD4, hx4⟩ := M4.out.x.lt; have N4 := Lib.hid (ints_none hx4); have C4 := Lib.hid (ints_news hx4); clear hd4 hD4 hx4))
          | (at_builtin; refine wpList_append_any _ rfl _ _ 60 rfl 0 51 i0 (.slice none 0 0) 1 24 Try.underlying60 hii hz0 hz1 hz2 rfl (by decide) _ l.length vs rfl HO.out (some ⟨w5.heap.size, 0, none⟩) 1 1 [.slice B5 xs.length cap5] rfl rfl (fun h => by cases h) (fun ad had => by injection had with had; subst had; exact news_one _ _ _) (by intro u hu; simp at hu; subst hu; rfl) (by unfold maxLen; omega) (by omega) (Nat.zero_le _) ?_; intro B6 cap6 w6 a6; obtain ⟨c6, s6, r6⟩ := RowR.app (π := [2]) (ys := [xs]) M6.out.s.fresh (by decide) rfl HO.out HG.out HD.out rfl (one_data D6.out) a6; have M7 := Lib.hid (M6.out.row s6 r6); clear s6 r6 a6)
          | (at_builtin; go_loud (refine wpList_append_nil _ rfl _ _ 51 rfl 0 5 j0 (.int .u8 0) 1 1 Try.underlying51 jii jz0 jz1 jz2 rfl (by decide) rfl A' xs.length c' (xs.map (Value.int .u8)) rfl (by simp) N4.out C4.out (ints_one .u8 xs) hxm.out hxb.out (Nat.zero_le _) ?_; intro B5 cap5 w5 a5; have M5 := M4.out.later (grown_none a5.2.1); have T5 := below_a1 w5 (.cells #[.slice B5 xs.length cap5] 51); have D6 := Lib.hid ((appd_data a5 M4.out.s.fresh hwf.out hx4).step (C := fun _ => False) (Stp.of_below _ M5.s.fresh T5) id); obtain ⟨vs, ho, hg, hd⟩ := M5.r.later M5.s.fresh T5; have HO := Lib.hid ho; have HG := Lib.hid hg; have HD := Lib.hid hd; have M6 := Lib.hid (M5.later T5); clear ho hg hd M5 T5 a5))
          | (go_at_call 41; go_loud ((with_reducible refine (pool_len M7.out.p).mono ?_); rintro e w8 ⟨rfl, rfl⟩; rw [← HEL.out])))
        all_goals
          go_roundw
          case rel => exact ⟨k + 1, b, l ++ [xs], rfl, by go_num, by omega, by omega, by rw [← HEL.out]; omega, M7.out.fin⟩
          case measure => simp [intOf]; omega
      by_cases hin : 0 ≤ I ∧ I < l.length
      · obtain ⟨q, rfl⟩ : ∃ q : Nat, I = (q : Int) := ⟨I.toNat, by omega⟩
        have hql : q < l.length := by omega
        obtain ⟨x, hx⟩ : ∃ x, l[q]? = some x := ⟨_, List.getElem?_eq_getElem hql⟩
        obtain ⟨g, cap2, he, _⟩ := M.out.r.addr hx
        injection he with he1 he2 he3
        subst he1 he3
        have HXQ := Lib.hid hx; clear hx
        clear hin hnil
        by_cases k1 : kd = 1
        · as_aux_lemma =>
          subst k1
          go_wp2_with (first
            | (go_at_call 40; go_loud ((with_reducible refine (pool_take_at _ q x rfl M.out.p HXQ.out (by omega) M.out.s.fresh (List.cons_ne_nil _ _)).mono ?_); rintro e w2 ⟨v2, c2, rfl, s2, p2, d2⟩; obtain ⟨A2, n2, q2, rfl, d2⟩ := d2; have M2 := Lib.hid (M.out.to s2 p2); have D2 := Lib.hid d2; obtain ⟨A3, n3, q3, cc3, A4, n4, q4, e3, d3⟩ := M2.out.r.cell HXQ.out; injection e3 with e3 e4 e5; subst e3 e4 e5; have D3 := Lib.hid d3; have oc2 := M2.out.o.cell; clear s2 p2 d2 d3))
            | (go_at_call 39; go_loud ((with_reducible refine (bytes_any _ D2.out D3.out).mono ?_); rintro e w7 ⟨rfl, rfl⟩)))
          obtain ⟨vs, ho, hg, hd⟩ := M2.out.r
          have hvl := owns_len ho
          have HO := Lib.hid (show w2.drew.ownsRow 0 51 1 (.slice (some ⟨g, 0, none⟩) l.length cap1) l.length vs from ho)
          have HD := Lib.hid hd
          have T1 := Lib.hid (show (vs.take q).length = q * 1 by rw [List.length_take]; omega)
          have T2 := Lib.hid (show (vs.drop (q + 1)).length = (l.length - (q + 1)) * 1 by rw [List.length_drop]; omega)
          have N0 := Lib.hid (row_one hd hvl)
          have N1 := Lib.hid (fun u (hu : u ∈ vs.take q) => N0.out u (List.mem_of_mem_take hu))
          have N2 := Lib.hid (fun u (hu : u ∈ vs.drop (q + 1)) => N0.out u (List.mem_of_mem_drop hu))
          have C0 := Lib.hid (row_cells HO.out)
          have C1 := Lib.hid (show ∀ ad : Addr, some (⟨g, 0, none⟩ : Addr) = some ad → ∀ t u, (vs.take q)[t]? = some u → w2.drew.cell? (ad.add t) = some u from fun ad had t u hu => by injection had with had; subst had; rw [add_plain, Nat.zero_add]; exact C0.out t u (take_some hu))
          obtain ⟨AD, hAD, C2⟩ : ∃ AD : Addr, (if cap1 = q + 1 then some (⟨g, 0, none⟩ : Addr) else some ⟨g, q + 1, none⟩) = some AD ∧ Hid (∀ ad : Addr, some AD = some ad → AD.block = g ∧ ∀ t u, (vs.drop (q + 1))[t]? = some u → w2.drew.cell? (ad.add t) = some u) := by
            by_cases hcq : cap1 = q + 1
            · refine ⟨⟨g, 0, none⟩, by simp [hcq], fun ad had => ⟨rfl, fun t u hu => ?_⟩⟩
              have := (List.getElem?_eq_some_iff.1 hu).1
              rw [List.length_drop] at this
              omega
            · refine ⟨⟨g, q + 1, none⟩, by simp [hcq], fun ad had => ⟨rfl, fun t u hu => ?_⟩⟩
              injection had with had; subst had
              rw [List.getElem?_drop] at hu
              rw [add_plain]; exact C0.out _ u hu
          have hgl := Lib.hid (owns_lt ho rfl)
          have hqc : q ≤ cap1 := by omega
          have hqc1 : q + 1 ≤ cap1 := by omega
          have hql1 : q + 1 ≤ l.length := by omega
          have hij : (q : Int) + 1 ≤ (l.length : Int) := by omega
          have hij0 : (0 : Int) ≤ (q : Int) + 1 := by omega
          have hwr : IntKind.i64.wrap ((q : Int) + 1) = (q : Int) + 1 := by simp [IntKind.wrap, IntKind.bits, IntKind.signed]; omega
          have hnt : ((q : Int) + 1).toNat = q + 1 := by omega
          clear ho hg hd hvl cc3
          have hel : 0 + q + (l.length - (q + 1)) = (l.eraseIdx q).length := by rw [List.length_eraseIdx_of_lt hql]; omega
          have hel1 : q + (l.length - (q + 1)) = (l.eraseIdx q).length := by rw [List.length_eraseIdx_of_lt hql]; omega
          have HEL := Lib.hid hel; have HEL1 := Lib.hid hel1
          clear hel hel1
          go_region_law (first
            | (refine step_append_any _ rfl _ _ 60 rfl 0 51 i0 (.slice none 0 0) 1 24 Try.underlying60 hii hz0 hz1 hz2 rfl (by decide) (.slice B4 (0 + q) cap4) (0 + q) ([] ++ vs.take q) (by simp [Act.eval, Act.put]) a4.1 (some AD) (l.length - (q + 1)) (cap1 - (q + 1)) (vs.drop (q + 1)) (by simp [Act.eval, Act.put]) T2.out (fun h => by cases h) C24.out N2.out (by unfold maxLen; omega) (by omega) (Nat.zero_le _) ?_; intro B5 cap5 w5 a5)
            | (refine step_append_any _ rfl _ _ 60 rfl 0 51 i0 (.slice none 0 0) 1 24 Try.underlying60 hii hz0 hz1 hz2 rfl (by decide) (.slice none 0 0) 0 [] (by simp [Act.eval]) ⟨rfl, .inl ⟨rfl, rfl⟩⟩ (some ⟨g, 0, none⟩) q cap1 (vs.take q) (by simp [Act.eval, Act.put]) T1.out (fun h => by cases h) C1.out N1.out (by unfold maxLen; omega) (by omega) (Nat.zero_le _) ?_; intro B4 cap4 w4 a4; have bl4 := grown_none a4.2.1; have oc4 := (M2.out.o.drew.below bl4 M2.out.o.drew.lt).cell; have C24 := Lib.hid (show ∀ ad : Addr, some AD = some ad → ∀ t u, (vs.drop (q + 1))[t]? = some u → w4.cell? (ad.add t) = some u from fun ad had t u hu => by have h1 := (C2.out ad had).2 t u hu; injection had with had; subst had; rw [← h1]; exact bl4.cell (by rw [add_block, (C2.out AD rfl).1]; exact hgl.out))))
          all_goals
            obtain ⟨c6, s6, r6⟩ := cut_fin (w := w2.drew) (π := [2]) (M2.out.later (Below.refl _ _).drew).s.fresh (by decide) hql (owns_len HO.out) HD.out a4 a5
            have M6 := Lib.hid ((M2.out.later (Below.refl _ _).drew).row s6 r6)
            rw [HEL.out] at M6
            rw [HEL1.out]
            have hel := HEL.out
            clear a4 a5 s6 r6 oc4 bl4 C24
            have hpl := pool_len M6.out.p
            go_wp2_with (go_at_call 41; go_loud ((with_reducible refine hpl.mono ?_); rintro e w8 ⟨rfl, rfl⟩))
            go_roundw
            case rel => exact ⟨k + 1, b, l.eraseIdx q, rfl, by go_num, by omega, by omega, by rw [← hel]; omega, M6.out.fin⟩
            case measure => simp [intOf]; omega
        · have k1' : (kd == 1) = false := by rw [beq_eq_false_iff_ne]; exact k1
          by_cases k2 : kd = 2
          · as_aux_lemma =>
            subst k2
            have HEL := Lib.hid (show l.length + 1 = (l ++ [x]).length by simp)
            go_wp2_with (first
              | (go_at_call 61; go_loud ((with_reducible refine (pool_double_at _ q x rfl M.out.p HXQ.out (by omega) M.out.s.fresh hl5 (List.cons_ne_nil _ _)).mono ?_); rintro e w2 ⟨rfl, c2, s2, p2⟩; have M2 := Lib.hid (M.out.to s2 p2); have oc2 := M2.out.o.cell; obtain ⟨A3, n3, q3, cc3, d3⟩ := M2.out.r.cell HXQ.out; obtain ⟨vs, ho, hg, hd⟩ := M2.out.r.later M2.out.s.fresh (below_a1 w2 (.cells #[.slice A3 n3 q3] 51)); have HO := Lib.hid ho; have HG := Lib.hid hg; have HD := Lib.hid hd; have M3 := Lib.hid (M2.out.later (below_a1 w2 (.cells #[.slice A3 n3 q3] 51))); have D3 := Lib.hid (d3.step (C := fun _ => False) (Stp.of_below _ M2.out.s.fresh (below_a1 w2 (.cells #[.slice A3 n3 q3] 51))) id); clear s2 p2 ho hg hd d3))
              | (at_builtin; go_loud (refine wpList_append_any _ rfl _ _ 60 rfl 0 51 i0 (.slice none 0 0) 1 24 Try.underlying60 hii hz0 hz1 hz2 rfl (by decide) _ l.length vs rfl HO.out (some ⟨w2.heap.size, 0, none⟩) 1 1 [.slice A3 n3 q3] rfl rfl (fun h => by cases h) (fun ad had => by injection had with had; subst had; exact news_one _ _ _) (by intro u hu; simp at hu; subst hu; rfl) (by unfold maxLen; omega) (by omega) (Nat.zero_le _) ?_; intro B5 cap5 w5 a5; obtain ⟨c6, s6, r6⟩ := RowR.app (π := [2]) (ys := [x]) M3.out.s.fresh (by decide) rfl HO.out HG.out HD.out rfl (one_data D3.out) a5; have M6 := Lib.hid (M3.out.row s6 r6); clear s6 r6 a5))
              | (go_at_call 41; go_loud ((with_reducible refine (pool_len M6.out.p).mono ?_); rintro e w8 ⟨rfl, rfl⟩; rw [← HEL.out])))
            go_roundw
            case rel => exact ⟨k + 1, b, l ++ [x], rfl, by go_num, by omega, by omega, by rw [← HEL.out]; omega, M6.out.fin⟩
            case measure => simp [intOf]; omega
          · have k2' : (kd == 2) = false := by rw [beq_eq_false_iff_ne]; exact k2
            by_cases k3 : kd = 3
            · as_aux_lemma =>
              subst k3
              go_wp2_with (first
                | (go_at_call 38; go_loud ((with_reducible refine (pool_peek_at _ q x rfl M.out.p HXQ.out (by omega)).mono ?_); rintro e w2 ⟨v2, rfl, d2⟩; have M2 := Lib.hid (M.out.later d2.below); have d3 := d2.data M.out.s.fresh; clear d2; obtain ⟨A2, n2, q2, rfl, d4⟩ := d3; have D2 := Lib.hid d4; have oc2 := M2.out.o.cell; obtain ⟨A3, n3, q3, cc3, A4, n4, q4, e3, d3⟩ := M2.out.r.cell HXQ.out; injection e3 with e3 e4 e5; subst e3 e4 e5; have D3 := Lib.hid d3; clear d4 d3))
                | (go_at_call 39; go_loud ((with_reducible refine (bytes_any _ D2.out D3.out).mono ?_); rintro e w7 ⟨rfl, rfl⟩))
                | (go_at_call 41; go_loud ((with_reducible refine (pool_len M2.out.p).mono ?_); rintro e w8 ⟨rfl, rfl⟩)))
              go_roundw
              case rel => exact ⟨k + 1, b, l, rfl, by go_num, by omega, by omega, by omega, M2.out.fin⟩
              case measure => simp [intOf]; omega
            · omega
      · have hno : ¬ (0 ≤ I ∧ I < ((l.length : Nat) : Int)) := hin
        have HNO := Lib.hid hno
        clear hno
        rcases (show I < 0 ∨ (0 ≤ I ∧ (l.length : Int) ≤ I) by omega) with hI3 | ⟨hI3, hI4⟩
        all_goals
          rcases (show kd = 1 ∨ kd = 2 ∨ kd = 3 by omega) with rfl | rfl | rfl
        all_goals
         as_aux_lemma =>
          go_wp2_with (first
            | (go_at_call 40; go_loud ((with_reducible refine (pool_take_none I M.out.p hI HNO.out).mono ?_); rintro e w2 ⟨rfl, rfl⟩))
            | (go_at_call 61; go_loud ((with_reducible refine (pool_double_none I M.out.p hI HNO.out).mono ?_); rintro e w2 ⟨rfl, rfl⟩))
            | (go_at_call 38; go_loud ((with_reducible refine (pool_peek_none I M.out.p hI HNO.out).mono ?_); rintro e w2 ⟨rfl, rfl⟩))
            | (go_at_call 41; go_loud ((with_reducible refine (pool_len M.out.p).mono ?_); rintro e w8 ⟨rfl, rfl⟩)))
          go_roundw
          case rel => exact ⟨k + 1, b, l, rfl, by go_num, by omega, by omega, by omega, M.out.fin⟩
          case measure => simp [intOf]; omega
    · have hsh : (A1 = none ∧ l.length = 0) ∨ ∃ g, A1 = some ⟨g, 0, none⟩ := by
        by_cases h0 : l.length = 0
        · by_cases hA : A1 = none
          · exact .inl ⟨hA, h0⟩
          · obtain ⟨vs, ho, _⟩ := PR.out
            obtain ⟨ad, rfl⟩ := Option.ne_none_iff_exists'.1 hA
            obtain ⟨_, _, he, _, _, _, h5⟩ := owns_shape ho
            injection he with he _ _
            obtain ⟨g, _, rfl, _⟩ := h5 ad he.symm
            exact .inr ⟨g, rfl⟩
        · obtain ⟨g, cap2, he, _⟩ := PR.out.addr (List.getElem?_eq_getElem (show 0 < l.length by omega))
          injection he with he
          exact .inr ⟨g, he⟩
      have hl80 : l.length ≤ 80 := by omega
      clear hnil
      rcases hsh with ⟨rfl, h0⟩ | ⟨g, rfl⟩
      all_goals
        rcases Nat.lt_or_ge k n with hq | hq
      all_goals
       as_aux_lemma =>
        go_wp2_with fail
        go_loopw [15] (fun i w' => ∃ m : Nat, i = .int .i64 (m : Int) ∧ m ≤ l.length ∧ Below wr.heap.size wr w') (fun i _ => l.length - (intOf i).toNat)
        case atStart => exact ⟨0, rfl, Nat.zero_le _, Below.refl _ _⟩
        case round =>
          obtain ⟨m, rfl, hml, hbm⟩ := hrel
          have HBM := Lib.hid hbm
          have PM := Lib.hid (PP.out.later PS.out.fresh hbm)
          have RM := Lib.hid (PR.out.later PS.out.fresh hbm)
          have FM := Lib.hid (PS.out.fresh.later hbm)
          clear hbm
          by_cases hm : m < l.length
          · first
            | (exfalso; omega)
            | (obtain ⟨x, hx⟩ : ∃ x, l[m]? = some x := ⟨_, List.getElem?_eq_getElem hm⟩
               have HXM := Lib.hid hx
               clear hx
               go_wp2_with (first
                | (go_at_call 38; go_loud ((with_reducible refine (pool_peek_at _ m x rfl PM.out HXM.out (by omega)).mono ?_); rintro e w2 ⟨v2, rfl, d2⟩; have b2 := d2.below; have d3 := d2.data FM.out; clear d2; obtain ⟨A2, n2, q2, rfl, d4⟩ := d3; have D2 := Lib.hid d4; obtain ⟨A3, n3, q3, cc3, A4, n4, q4, e3, d3⟩ := (RM.out.later FM.out b2).cell HXM.out; injection e3 with e3 e4 e5; subst e3 e4 e5; have D3 := Lib.hid d3; have B2 := Lib.hid (below_from HBM.out b2 HBM.out.size); clear d4 d3 b2))
                | (go_at_call 39; go_loud ((with_reducible refine (bytes_any _ D2.out D3.out).mono ?_); rintro e w7 ⟨rfl, rfl⟩)))
               go_roundw
               case rel => exact ⟨m + 1, by go_num, by omega, B2.out⟩
               case measure => simp [intOf]; omega)
          · go_wp2_with fail
            go_ret
            exact ⟨rfl, below_from P.out.below HBM.out P.out.below.size⟩

theorem wPoolPlays (W : World) (vs : List Value) (h : Sh.Args W (· < W.heap.size) [((.sl (.st (.pair (.int .i64) (.pair (.int .i64) (.pair (.sl (.int .u8) 1) .unit)))) 40), 93)] vs) :
    Calls Try.prog 15 vs.toArray W fun e W' => e = .returned (.bool true) ∧ Below W.heap.size W W' := by
  obtain ⟨_, _, rfl, ⟨a, ha⟩, rfl⟩ := h
  obtain ⟨A, n, cap, rfl, hi⟩ := ops_open ha
  exact wPoolPlays0 W A n cap hi
end Go.Proofs.Ytjniholnmjafeaa
