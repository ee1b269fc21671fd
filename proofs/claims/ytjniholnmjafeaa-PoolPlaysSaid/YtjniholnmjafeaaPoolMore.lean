/- The pool's Double, Fork and New, the nil pool, and the law's awake. Conditions: the pool is one. -/
import Derived.Test.YtjniholnmjafeaaPoolTake
import Derived.Test.YtjniholnmjafeaaBytes
namespace Go.Proofs.Ytjniholnmjafeaa
open Go.RowKit Go.ChangeShapes
set_option maxRecDepth 100000
set_option linter.unusedVariables false

theorem pool_new (π : List Int) {c : Col} (w : World) (hf : Fresh c w) : Calls Try.prog 36 #[] w fun e w' => e = .returned (.pointer (some ⟨w.heap.size, 0, none⟩)) ∧ PoolTo π w.heap.size [] c w w' := by
  have hp : PoolTo π w.heap.size [] c w (w.alloc (.cells #[.slice none 0 0] 104)) := by
    have s := Stp.of_below (· = π) hf (below_a1 w (.cells #[.slice none 0 0] 104))
    exact ⟨upd c w.heap.size π, s.paint (Nat.le_refl _) (by rw [size_alloc]; omega) π, .slice none 0 0, [], BoxT.new _ _ _, upd_same _ _ _, ⟨rfl, .inl ⟨rfl, rfl⟩⟩, (fun g h => by cases h), rfl, fun i v x hv => by simp at hv⟩
  go_enter Try.func36, Try.ntmps36
  go_wp2
  go_ret
  exact ⟨rfl, hp⟩

theorem pool_double_none {c : Col} {π : List Int} {w : World} {b : Nat} {l : List (List Int)} (i : Int) (h : PoolR c π w b l) (bi : -9223372036854775808 ≤ i ∧ i ≤ 9223372036854775807) (hi : ¬ (0 ≤ i ∧ i < l.length)) :
    Calls Try.prog 61 #[.pointer (some ⟨b, 0, none⟩), .int .i64 i] w fun e w' => e = .returned (.int .i64 6) ∧ w = w' := by
  have E : atF l.length i = 6 := by unfold atF; rw [if_neg hi]
  have H := Lib.hid (pool_at i h bi)
  clear h hi bi
  go_enter Try.func61, Try.ntmps61
  go_wp2_with (go_at_call 71; (with_reducible refine H.out.mono ?_); rintro e w' ⟨rfl, rfl⟩)
  go_ret
  exact ⟨rfl, rfl⟩
theorem pool_double_full {c : Col} {π : List Int} {w : World} {b : Nat} {l : List (List Int)} (k : Nat) (x : List Int) (h : PoolR c π w b l) (hx : l[k]? = some x) (hk : k < 4611686018427387904) (hl : 5000 ≤ l.length) :
    Calls Try.prog 61 #[.pointer (some ⟨b, 0, none⟩), .int .i64 k] w fun e w' => e = .returned (.int .i64 5) ∧ w = w' := by
  have hkl := (List.getElem?_eq_some_iff.1 hx).1
  have E : atF l.length k = 0 := by unfold atF; rw [if_pos (by omega)]
  have H := Lib.hid (pool_at k h (by omega))
  have HP := Lib.hid h
  obtain ⟨sl, vs, hb, hcb, ho, hg, hm⟩ := h
  obtain ⟨v, hv⟩ : ∃ v, vs[k]? = some v := ⟨_, List.getElem?_eq_getElem (show k < vs.length by rw [hm.1]; exact hkl)⟩
  have hd := hm.2 k v x hv hx
  have hkn : k < vs.length := (List.getElem?_eq_some_iff.1 hv).1
  obtain ⟨g, cap, rfl, hcell, hgb⟩ := owns_cell ho hv
  obtain ⟨A, n, cp, rfl, hi⟩ := hd
  have hc := hb.box.cell
  have HL := Lib.hid hl
  clear hi hb ho hm hv hx hkl hg hgb hl
  go_enter Try.func61, Try.ntmps61
  go_wp2_with (first
    | (go_at_call 71; (with_reducible refine H.out.mono ?_); rintro e w' ⟨rfl, rfl⟩)
    | (go_at_call 37; (with_reducible refine (pool_push_full HP.out HL.out).mono ?_); rintro e w' ⟨rfl, rfl⟩))
  go_ret
  exact ⟨rfl, rfl⟩
theorem pool_double_full_at {c : Col} {π : List Int} {w : World} {b : Nat} {l : List (List Int)} (i : Int) (k : Nat) (x : List Int) (hik : i = (k : Int)) (h : PoolR c π w b l) (hx : l[k]? = some x) (hk : k < 4611686018427387904) (hl : 5000 ≤ l.length) :
    Calls Try.prog 61 #[.pointer (some ⟨b, 0, none⟩), .int .i64 i] w fun e w' => e = .returned (.int .i64 5) ∧ w = w' := by
  subst hik
  exact pool_double_full k x h hx hk hl

theorem pool_double {c : Col} {π : List Int} {w : World} {b : Nat} {l : List (List Int)} (k : Nat) (x : List Int) (h : PoolR c π w b l) (hx : l[k]? = some x) (hk : k < 4611686018427387904) (hf : Fresh c w) (hl : l.length < 5000) (hπ : π ≠ []) :
    Calls Try.prog 61 #[.pointer (some ⟨b, 0, none⟩), .int .i64 k] w (Pushed π b (l ++ [x]) c w) := by
  have hkl := (List.getElem?_eq_some_iff.1 hx).1
  have E : atF l.length k = 0 := by unfold atF; rw [if_pos (by omega)]
  have H := Lib.hid (pool_at k h (by omega))
  have HP := Lib.hid h
  obtain ⟨sl, vs, hb, hcb, ho, hg, hm⟩ := h
  obtain ⟨v, hv⟩ : ∃ v, vs[k]? = some v := ⟨_, List.getElem?_eq_getElem (show k < vs.length by rw [hm.1]; exact hkl)⟩
  have hd := hm.2 k v x hv hx
  have hkn : k < vs.length := (List.getElem?_eq_some_iff.1 hv).1
  obtain ⟨g, cap, rfl, hcell, hgb⟩ := owns_cell ho hv
  obtain ⟨A, n, cp, rfl, hi⟩ := id hd
  have HD := Lib.hid hd
  have hc := hb.box.cell
  have HL := Lib.hid hl
  have HF := Lib.hid hf
  clear hi hd hb ho hm hv hx hkl hg hgb hl hf
  go_enter Try.func61, Try.ntmps61
  go_wp2_with (first
    | (go_at_call 71; (with_reducible refine H.out.mono ?_); rintro e w' ⟨rfl, rfl⟩)
    | (go_at_call 37; (with_reducible refine (pool_push HP.out HD.out HF.out HL.out hπ).mono ?_); rintro e w' ⟨rfl, hto⟩))
  go_ret
  exact ⟨rfl, hto⟩
theorem pool_double_at {c : Col} {π : List Int} {w : World} {b : Nat} {l : List (List Int)} (i : Int) (k : Nat) (x : List Int) (hik : i = (k : Int)) (h : PoolR c π w b l) (hx : l[k]? = some x) (hk : k < 4611686018427387904) (hf : Fresh c w) (hl : l.length < 5000) (hπ : π ≠ []) :
    Calls Try.prog 61 #[.pointer (some ⟨b, 0, none⟩), .int .i64 i] w (Pushed π b (l ++ [x]) c w) := by
  subst hik
  exact pool_double k x h hx hk hf hl hπ


theorem dints_lit {c : Col} {w : World} (hf : Fresh c w) (k : IntKind) (bytes : Nat) (T : TypeId) (xs : List Int) (hw : ∀ x ∈ xs, (Lit.int k x).wf = true) (hb : xs.length * bytes ≤ 140737488351232) (hl : xs.length ≤ 9223372036854775807) :
    DInts c (w.alloc (.cells (xs.map (Value.int k)).toArray T)) k bytes (.slice (some ⟨w.heap.size, 0, none⟩) xs.length xs.length) xs := by
  refine ⟨_, _, _, rfl, rfl, Nat.le_refl _, hl, hb, (fun h => by cases h), hw, fun hn => ⟨w.heap.size, 0, rfl, ⟨hf _ (Nat.le_refl _), by rw [size_alloc]; omega⟩, fun j hj => ?_⟩⟩
  rw [(Box.new w _ T).cell (0 + j), Nat.zero_add, List.getElem?_toArray, List.getElem?_map, List.getElem?_eq_getElem hj, List.getD_eq_getElem?_getD, List.getElem?_eq_getElem hj]; rfl

theorem PoolR.later {c : Col} {π : List Int} {w w' : World} {b : Nat} {l : List (List Int)} (h : PoolR c π w b l) (hf : Fresh c w) (hb : Below w.heap.size w w') : PoolR c π w' b l :=
  h.step (Stp.of_below (fun _ => False) hf hb) (fun h => h) (fun h => h)
theorem Fresh.later {c : Col} {w w' : World} (hf : Fresh c w) (hb : Below w.heap.size w w') : Fresh c w' := fun k hk => hf k (Nat.le_trans hb.size hk)

theorem awake08 (w : World) : Calls Try.prog 35 #[] w fun e w' => e = .returned (.bool true) ∧ Below w.heap.size w w' := by
  have hf0 : Fresh (fun _ => []) w := fun k hk => rfl
  have H0 := Lib.hid hf0; clear hf0
  go_enter Try.func35, Try.ntmps35
  go_wp2_with (first
    | (go_at_call 36; (with_reducible refine (pool_new [1] _ H0.out).mono ?_); rintro e w1 ⟨rfl, c1, s1, p1⟩; have S1 := Lib.hid s1; have P1 := Lib.hid (p1.later s1.fresh (below_a1 _ (.cells #[.int .u8 1] 5))); have D1 := Lib.hid (show DInts c1 (w1.alloc (.cells #[.int .u8 1] 5)) .u8 1 (.slice (some ⟨w1.heap.size, 0, none⟩) 1 1) [1] from dints_lit s1.fresh .u8 1 5 [1] (by decide) (by decide) (by decide)); have F1 := Lib.hid (Fresh.later s1.fresh (below_a1 _ (.cells #[.int .u8 1] 5))); clear s1 p1)
    | (go_at_call 37; (with_reducible refine (pool_push P1.out D1.out F1.out (by decide) (by decide)).mono ?_); rintro e w2 ⟨rfl, c2, s2, p2⟩; have S2 := Lib.hid s2; have P2 := Lib.hid p2; clear s2 p2)
    | (go_at_call 41; (with_reducible refine (pool_len P2.out).mono ?_); rintro e w2 ⟨rfl, rfl⟩)
    | (go_at_call 61; (with_reducible refine (pool_double_at 0 0 [1] rfl P2.out rfl (by decide) S2.out.fresh (by decide) (by decide)).mono ?_); rintro e w3 ⟨rfl, c3, s3, p3⟩; have S3 := Lib.hid s3; have P3 := Lib.hid p3; clear s3 p3 P2)
    | (go_at_call 41; (with_reducible refine (pool_len P3.out).mono ?_); rintro e w2 ⟨rfl, rfl⟩))
  go_ret
  have T1 := S1.out.trans (Stp.of_below (· = [1]) S1.out.fresh (below_a1 _ (.cells #[.int .u8 1] 5)))
  exact ⟨rfl, ((T1.trans S2.out).trans S3.out).below (Nat.le_refl _) (fun k hk h => by cases h)⟩
end Go.Proofs.Ytjniholnmjafeaa
