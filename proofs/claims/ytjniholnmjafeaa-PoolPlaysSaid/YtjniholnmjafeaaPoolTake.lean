/- The pool's Take, Double, Fork and New. Conditions: the pool is one. -/
import Derived.Test.YtjniholnmjafeaaPoolPush
import Derived.Lib.SliceRun
namespace Go.Proofs.Ytjniholnmjafeaa
open Go.RowKit Go.ChangeShapes
set_option maxRecDepth 100000
set_option linter.unusedVariables false

theorem only_setCells (b : Nat) : ∀ (vs : List Value) (o : Nat) (w : World), Only (· = b) w (w.setCells b o vs)
  | [], o, w => Only.refl _ _
  | v :: vs, o, w => ((Only.refl (· = b) w).setCell (p := ⟨b, o, none⟩) (.inl rfl) v).trans (only_setCells b vs (o + 1) _)
theorem boxT_setCells {T b : Nat} : ∀ (vs : List Value) (o : Nat) (w : World) (C : Array Value), BoxT w T b C → ∃ C', BoxT (w.setCells b o vs) T b C' ∧ C'.size = C.size ∧
    ∀ j, C'[j]? = if o ≤ j ∧ j < o + vs.length ∧ j < C.size then vs[j - o]? else C[j]?
  | [], o, w, C, h => ⟨C, h, rfl, fun j => by rw [if_neg (by simp; omega)]⟩
  | v :: vs, o, w, C, h => by
    obtain ⟨C', h1, h2, h3⟩ := boxT_setCells vs (o + 1) _ _ (h.set (i := o) v)
    refine ⟨C', h1, by rw [h2]; simp, fun j => ?_⟩
    rw [h3 j]
    simp only [Array.size_setIfInBounds, List.length_cons]
    by_cases hj : j = o
    · subst hj
      rw [if_neg (by omega)]
      by_cases hs : j < C.size
      · rw [if_pos (by omega)]; simp [hs]
      · rw [if_neg (by omega)]; simp [Array.getElem?_eq_none (show C.size ≤ j by omega)]; omega
    · by_cases hr : o + 1 ≤ j ∧ j < o + 1 + vs.length ∧ j < C.size
      · rw [if_pos hr, if_pos (by omega)]
        obtain ⟨k, rfl⟩ : ∃ k, j = o + 1 + k := ⟨j - (o + 1), by omega⟩
        rw [show o + 1 + k - (o + 1) = k by omega, show o + 1 + k - o = k + 1 by omega, List.getElem?_cons_succ]
      · rw [if_neg hr, if_neg (by omega), Array.getElem?_setIfInBounds_ne (by omega)]

/-- What slices.Delete leaves of a row. -/
def Deleted (g E cap : Nat) (vs : List Value) (i : Nat) (w : World) (e : Ending) (w' : World) : Prop :=
  e = .returned (.slice (some ⟨g, 0, none⟩) (vs.length - 1) cap) ∧ Only (· = g) w w' ∧ w'.ownsRow 0 E 1 (.slice (some ⟨g, 0, none⟩) (vs.length - 1) cap) (vs.length - 1) (vs.eraseIdx i)

theorem delete_rows {w : World} {g cap i : Nat} {vs : List Value} (ho : w.ownsRow 0 51 1 (.slice (some ⟨g, 0, none⟩) vs.length cap) vs.length vs) (hi : i < vs.length) (hone : ∀ v ∈ vs, v.oneCell' = true) :
    Calls Try.prog 72 #[.slice (some ⟨g, 0, none⟩) vs.length cap, .int .i64 (i : Int), .int .i64 ((i : Int) + 1)] w (Deleted g 51 cap vs i w) := by
  obtain ⟨cur, hb, hs, ht, hc, _⟩ := owns_box ho
  have hcap : cap ≤ 9223372036854775807 := by obtain ⟨_, _, h, _, h2, _⟩ := owns_shape ho; injection h with _ _ h; omega
  simp only [Nat.mul_one] at hs ht
  have hinfo : (Try.prog.info? 51).map (fun i => (i.zero, i.size, i.bytes)) = some (some (.slice none 0 0), 1, 24) := by kernel_rfl
  obtain ⟨i0, hii, hz0, hz1, hz2⟩ := info_parts hinfo
  have hzv : ∀ w, (zeroValue 51).run Try.prog w = .ok (.slice none 0 0) w := by intro w; kernel_rfl
  obtain ⟨n, hn⟩ : ∃ n, n = vs.length := ⟨_, rfl⟩
  obtain ⟨news, hnews⟩ : ∃ news, news = vs.drop (i + 1) := ⟨_, rfl⟩
  have hlen : news.length = n - (i + 1) := by rw [hnews, List.length_drop, hn]
  have hget : ∀ (j : Nat) (u : Value), vs[j]? = some u → cur[j]? = some u := by
    intro j u hu
    have hj := (List.getElem?_eq_some_iff.1 hu).1
    rw [← ht, List.getElem?_take_of_lt hj, Array.getElem?_toList] at hu
    exact hu
  obtain ⟨A, hA, hsrc⟩ : ∃ A : Addr, (if cap = i + 1 then some (⟨g, 0, none⟩ : Addr) else some ⟨g, i + 1, none⟩) = some A ∧ Hid (∀ t u, news[t]? = some u → w.drew.cell? (A.add t) = some u) := by
    by_cases h : cap = i + 1
    · refine ⟨⟨g, 0, none⟩, by simp [h], fun t u hu => ?_⟩
      have := (List.getElem?_eq_some_iff.1 hu).1
      omega
    · refine ⟨⟨g, i + 1, none⟩, by simp [h], fun t u hu => ?_⟩
      rw [hnews, List.getElem?_drop] at hu
      have e1 : (⟨g, i + 1, none⟩ : Addr).add t = ⟨g, i + 1 + t, none⟩ := by unfold Addr.add; split <;> simp_all
      rw [e1]
      exact (hb.box.cell (i + 1 + t)).trans (hget _ _ hu)
  have s1 : Hid (news.length = (n - (i + 1)) * 1) := by show news.length = _; omega
  have s2 : Hid (∀ u ∈ news, u.oneCell' = true) := by intro u hu; exact hone u (by rw [hnews] at hu; exact List.mem_of_mem_drop hu)
  have s3 : Hid (∀ t, t < news.length → (w.drew.cell? ⟨g, 0 + i * 1 + t, none⟩).isSome = true ∧ w.drew.frozen? ⟨g, 0 + i * 1 + t, none⟩ = false) := by
    intro t ht'
    refine ⟨?_, hb.box.free _⟩
    have := hb.box.cell (0 + i * 1 + t)
    show (w.cell? _).isSome = true
    rw [this, Array.getElem?_eq_getElem (by omega)]; rfl
  obtain ⟨W1, hW1⟩ : ∃ W1, W1 = w.drew.setCells g (0 + i * 1) news := ⟨_, rfl⟩
  obtain ⟨C1, hb1, hs1, hc1⟩ := boxT_setCells news (0 + i * 1) w.drew cur hb
  rw [← hW1] at hb1
  have hcl : ∀ ty, (Builtin.clear_ #[60] ty #[.slice (some ⟨g, n - 1, none⟩) 1 (cap - (n - 1))]).run Try.prog W1 = .ok (.tuple #[]) (W1.setCells g (n - 1) (List.replicate 1 (.slice none 0 0))) :=
    fun ty => Lib.run_clear_slice W1 _ _ ty _ Try.underlying60 hzv rfl rfl g (n - 1) 1 _ (by omega)
      (fun t ht' => by rw [hb1.box.cell, Array.getElem?_eq_getElem (by omega)]; rfl) (fun t ht' => hb1.box.free _)
  obtain ⟨C2, hb2, hs2, hc2⟩ := boxT_setCells (List.replicate 1 (.slice none 0 0)) (n - 1) W1 C1 hb1
  have hO : Only (· = g) w (W1.setCells g (n - 1) (List.replicate 1 (.slice none 0 0))) := by
    have h1 : Only (· = g) w W1 := by rw [hW1]; exact ((Only.refl (· = g) w).drew).trans (only_setCells g news _ _)
    exact h1.trans (only_setCells g _ _ _)
  have hown : (W1.setCells g (n - 1) (List.replicate 1 (.slice none 0 0))).ownsRow 0 51 1 (.slice (some ⟨g, 0, none⟩) (n - 1) cap) (n - 1) (vs.eraseIdx i) := by
    have h1 := box_owns (base := 0) (size := 1) (n := n - 1) (cap := cap) hb2 (by omega) (by omega) hcap (Nat.zero_le _)
    have e : C2.toList.take ((n - 1) * 1) = vs.eraseIdx i := by
      apply List.ext_getElem?
      intro j
      rw [Nat.mul_one]
      by_cases hj : j < n - 1
      · rw [List.getElem?_take_of_lt hj, Array.getElem?_toList, hc2 j, if_neg (by simp; omega), hc1 j]
        by_cases hji : j < i
        · rw [if_neg (by omega), List.getElem?_eraseIdx_of_lt hji]
          have := hget j (vs[j]'(by omega)) (List.getElem?_eq_getElem (by omega))
          rw [this, List.getElem?_eq_getElem (by omega)]
        · rw [if_pos (by omega), List.getElem?_eraseIdx_of_ge (by omega), hnews, List.getElem?_drop]
          congr 1; omega
      · rw [List.getElem?_eq_none (by simp; omega), List.getElem?_eq_none (by rw [List.length_eraseIdx_of_lt hi]; omega)]
    rw [e] at h1
    exact h1
  have HO := Lib.hid hO
  have HW := Lib.hid hown
  have HE := Lib.hid hW1
  have hic : i ≤ cap := by omega
  have hjc : i + 1 ≤ cap := by omega
  have hin : i + 1 ≤ n := by omega
  have e9 : i + (n - (i + 1)) = n - 1 := by omega
  have e8 : n - (n - 1) = 1 := by omega
  unfold Deleted
  rw [← hn] at ho hc ⊢
  have hij : (i : Int) + 1 ≤ (n : Int) := by omega
  have hij0 : (0 : Int) ≤ (i : Int) + 1 := by omega
  have HN := Lib.hid hn; clear hn
  clear ho hb hs ht hget hnews hlen hb1 hs1 hc1 hb2 hs2 hc2 hO hown hW1 hi hone hzv hinfo
  go_enter Try.func72, Try.ntmps72
  go_wp2_with fail
  go_region_law (refine step_append_room rfl (.tmp 22) (.tmp 25) 60 rfl 51 i0 1 Try.underlying60 hii hz1 g 0 i cap (by simp [Act.eval, Act.put]) A (n - (i + 1)) (cap - (i + 1)) news (by simp [Act.eval, Act.put]) s1.out hsrc.out s2.out (by omega) s3.out ?_; rw [← HE.out])
  go_wp2
  go_ret
  exact ⟨rfl, HO.out, HW.out⟩

/-- The message that is taken, and the pool without it. -/
def Took (π : List Int) (b : Nat) (l : List (List Int)) (x : List Int) (c : Col) (w : World) (e : Ending) (w' : World) : Prop :=
  ∃ (v : Value) (c' : Col), e = .returned (.tuple #[v, .int .i64 0]) ∧ Stp (· = π) c w c' w' ∧ PoolR c' π w' b l ∧ DInts c' w' .u8 1 v x

theorem take_fin {c : Col} {π : List Int} {w w1 w2 : World} {b g cap i : Nat} {l : List (List Int)} {x : List Int} {v1 : Value} {vs : List Value} (hb : BoxT w 104 b #[.slice (some ⟨g, 0, none⟩) vs.length cap]) (hcb : c b = π) (hcg : c g = π) (hne : b ≠ g) (hgl : g < w.heap.size)
    (hm : Msgs c w vs l) (hf : Fresh c w) (hπ : π ≠ []) (hv1 : NewSl w .u8 1 x w1 v1) (hi : i < vs.length) (hO : Only (· = g) w1 w2)
    (hown : w2.ownsRow 0 51 1 (.slice (some ⟨g, 0, none⟩) (vs.length - 1) cap) (vs.length - 1) (vs.eraseIdx i)) :
    Took π b (l.eraseIdx i) x c w (.returned (.tuple #[v1, .int .i64 0])) (w2.setCell ⟨b, 0, none⟩ (.slice (some ⟨g, 0, none⟩) (vs.length - 1) cap)) := by
  have hb1 := hv1.below
  have hπ' : ¬ ([] : List Int) = π := fun h => hπ h.symm
  have s1 : Stp (· = π) c w c w1 := Stp.of_below _ hf hb1
  have o2 : Only (fun k => c k = π) w1 w2 := hO.mono (fun k _ hk => by rw [hk]; exact hcg)
  have s2 : Stp (· = π) c w1 c w2 := ⟨o2, fun _ _ => rfl, fun k hk => hf k (by have := o2.size; have := hb1.size; omega)⟩
  have s3 : Stp (· = π) c w2 c (w2.setCell ⟨b, 0, none⟩ (.slice (some ⟨g, 0, none⟩) (vs.length - 1) cap)) :=
    ⟨(Only.refl _ _).setCell (.inl hcb) _, fun _ _ => rfl, fun k hk => by rw [size_setCell] at hk; exact s2.fresh k hk⟩
  have S := (s1.trans s2).trans s3
  have hbx := ((hb.below hb1 hb.lt).only hO (show ¬ b = g from hne)).set (i := 0) (.slice (some ⟨g, 0, none⟩) (vs.length - 1) cap)
  have hel : (vs.eraseIdx i).length = vs.length - 1 := List.length_eraseIdx_of_lt hi
  refine ⟨v1, c, rfl, S, ⟨.slice (some ⟨g, 0, none⟩) (vs.length - 1) cap, vs.eraseIdx i, hbx, hcb, ?_, ?_, ?_⟩, ((hv1.data hf).step s2 hπ').step s3 hπ'⟩
  · rw [hel]
    exact ownsRow_only hown (S := (· = b)) ((Only.refl (· = b) _).setCell (p := ⟨b, 0, none⟩) (.inl rfl) _) (fun q hq => by injection hq with hq; show ¬ q = b; rw [← hq]; exact fun h => hne h.symm)
  · intro q hq; injection hq with hq; rw [← hq]; exact hcg
  · have hm' := hm.step S hπ'
    refine ⟨by rw [hel, List.length_eraseIdx_of_lt (by rw [← hm.1]; exact hi), hm.1], fun j v y hv hy => ?_⟩
    by_cases hji : j < i
    · rw [List.getElem?_eraseIdx_of_lt hji] at hv hy
      exact hm'.2 _ _ _ hv hy
    · rw [List.getElem?_eraseIdx_of_ge (by omega)] at hv hy
      exact hm'.2 _ _ _ hv hy

theorem pool_take_none {c : Col} {π : List Int} {w : World} {b : Nat} {l : List (List Int)} (i : Int) (h : PoolR c π w b l) (bi : -9223372036854775808 ≤ i ∧ i ≤ 9223372036854775807) (hi : ¬ (0 ≤ i ∧ i < l.length)) :
    Calls Try.prog 40 #[.pointer (some ⟨b, 0, none⟩), .int .i64 i] w fun e w' => e = .returned (.tuple #[.slice none 0 0, .int .i64 6]) ∧ w = w' := by
  have E : atF l.length i = 6 := by unfold atF; rw [if_neg hi]
  have H := Lib.hid (pool_at i h bi)
  clear h hi bi
  go_enter Try.func40, Try.ntmps40
  go_wp2_with (go_at_call 71; (with_reducible refine H.out.mono ?_); rintro e w' ⟨rfl, rfl⟩)
  go_ret2
  exact ⟨rfl, rfl⟩

theorem pool_take {c : Col} {π : List Int} {w : World} {b : Nat} {l : List (List Int)} (k : Nat) (x : List Int) (h : PoolR c π w b l) (hx : l[k]? = some x) (hk : k < 4611686018427387904) (hf : Fresh c w) (hπ : π ≠ []) :
    Calls Try.prog 40 #[.pointer (some ⟨b, 0, none⟩), .int .i64 k] w (Took π b (l.eraseIdx k) x c w) := by
  have hkl := (List.getElem?_eq_some_iff.1 hx).1
  have E : atF l.length k = 0 := by unfold atF; rw [if_pos (by omega)]
  have H := Lib.hid (pool_at k h (by omega))
  obtain ⟨sl, vs, hb, hcb, ho, hg, hm⟩ := h
  obtain ⟨v, hv⟩ : ∃ v, vs[k]? = some v := ⟨_, List.getElem?_eq_getElem (show k < vs.length by rw [hm.1]; exact hkl)⟩
  have hd := hm.2 k v x hv hx
  have hkn : k < vs.length := (List.getElem?_eq_some_iff.1 hv).1
  obtain ⟨g, cap, rfl, hcell, hgb⟩ := owns_cell ho hv
  obtain ⟨A, n, cp, rfl, hi⟩ := id hd
  have hcg := hg g hgb
  have hgl : g < w.heap.size := World.block_lt_of_cell? w _ hcell
  have hne : b ≠ g := by
    intro he; subst he
    obtain ⟨cur, hbb, _⟩ := owns_box ho
    unfold BoxT at hb hbb; rw [hb] at hbb; injection hbb with hbb; injection hbb with _ hbb; exact absurd hbb (by decide)
  have hone : ∀ v ∈ vs, v.oneCell' = true := by
    intro u hu
    obtain ⟨j, hj⟩ := List.getElem?_of_mem hu
    have hjl := (List.getElem?_eq_some_iff.1 hj).1
    obtain ⟨A, n, cp, rfl, _⟩ := hm.2 j u (l[j]'(by rw [← hm.1]; exact hjl)) hj (List.getElem?_eq_getElem _)
    rfl
  have HI := Lib.hid hi
  have hc := hb.box.cell
  have HB := Lib.hid hb; have HO := Lib.hid ho; have HM := Lib.hid hm; have HF := Lib.hid hf; have HN := Lib.hid hone
  clear hi hd hb ho hm hv hx hkl hf hone hg hgb
  go_enter Try.func40, Try.ntmps40
  go_wp2_with (first
    | (go_at_call 71; (with_reducible refine H.out.mono ?_); rintro e w' ⟨rfl, rfl⟩)
    | (go_at_call 70; (with_reducible refine (clone_u8 w HI.out (fun b hb => hb.2)).mono ?_); rintro e w1 hn; obtain ⟨v1, rfl, hd1⟩ := hn; have hB1 := hd1.below; have cc1 := (HB.out.below hB1 HB.out.lt).box.cell; have HB1 := Lib.hid hB1; clear hB1)
    | (go_at_call 72; (with_reducible refine (delete_rows (ownsRow_only HO.out (Only.of_below (S := fun _ => False) HB1.out) (fun _ _ h => h)) hkn HN.out).mono ?_); rintro e w2 ⟨rfl, hO2, hown2⟩; have bx2 := (HB.out.below HB1.out HB.out.lt).only hO2 (show ¬ b = g from hne); have cc2 := bx2.box.cell; have cf2 := bx2.box.free))
  go_ret2
  exact take_fin HB.out hcb hcg hne hgl HM.out HF.out hπ hd1 hkn hO2 hown2
theorem pool_take_at {c : Col} {π : List Int} {w : World} {b : Nat} {l : List (List Int)} (i : Int) (k : Nat) (x : List Int) (hik : i = (k : Int)) (h : PoolR c π w b l) (hx : l[k]? = some x) (hk : k < 4611686018427387904) (hf : Fresh c w) (hπ : π ≠ []) :
    Calls Try.prog 40 #[.pointer (some ⟨b, 0, none⟩), .int .i64 i] w (Took π b (l.eraseIdx k) x c w) := by
  subst hik
  exact pool_take k x h hx hk hf hπ

end Go.Proofs.Ytjniholnmjafeaa
