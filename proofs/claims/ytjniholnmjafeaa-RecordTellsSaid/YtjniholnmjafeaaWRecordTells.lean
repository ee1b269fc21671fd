/- The walk of the law RecordTells: it returns true. Conditions: none. -/
import Derived.Test.YtjniholnmjafeaaSame
import Derived.Test.YtjniholnmjafeaaOwn
import Derived.Test.YtjniholnmjafeaaNewer
import Derived.Deep.RegionHeld3
import Derived.Deep.DeepCutAuto
namespace Go.Proofs.Ytjniholnmjafeaa
open Go.RowKit Go.ChangeShapes
set_option maxRecDepth 100000
set_option linter.unusedVariables false
theorem below_fin {W w w' : World} (h : Below W.heap.size W w) (hs : Same w w') : Below W.heap.size W w' := below_from h hs.1 h.size
set_option maxHeartbeats 2000000 in
theorem wRecordTells0 (W : World) (at_ cl num : Int) (e1 e2 : Ent) (s1 : Option Addr) (l1 c1 : Nat) (s2 : Option Addr) (l2 c2 : Nat) (ok1 : e1.ok) (ok2 : e2.ok)
    (i1 : Ints W (· < W.heap.size) .u32 4 s1 l1 c1 e1.rc.vals) (i2 : Ints W (· < W.heap.size) .u32 4 s2 l2 c2 e2.rc.vals)
    (ba : -9223372036854775808 ≤ at_ ∧ at_ ≤ 9223372036854775807) (bc : -9223372036854775808 ≤ cl ∧ cl ≤ 9223372036854775807) (bn : 0 ≤ num ∧ num ≤ 4294967295) :
    Calls Try.prog 7 #[.int .i64 at_, .agg #[.int .u32 e1.value, .int .u64 e1.rc.id, .int .u64 e1.rc.ver, .slice s1 l1 c1, .bool e1.gone], .agg #[.int .u32 e2.value, .int .u64 e2.rc.id, .int .u64 e2.rc.ver, .slice s2 l2 c2, .bool e2.gone], .int .i64 cl, .int .u32 num] W fun e W' => e = .returned (.bool true) ∧ Below W.heap.size W W' := by
  obtain ⟨⟨x1, ⟨id1, ver1, vals1⟩, g1⟩, rfl⟩ : ∃ e, e = e1 := ⟨_, rfl⟩
  obtain ⟨⟨x2, ⟨id2, ver2, vals2⟩, g2⟩, rfl⟩ : ∃ e, e = e2 := ⟨_, rfl⟩
  dsimp only at *
  obtain ⟨_, ⟨p0, p1⟩, ⟨p2, p3⟩, _⟩ := id ok1
  obtain ⟨_, ⟨q0, q1⟩, ⟨q2, q3⟩, _⟩ := id ok2
  dsimp only at *
  have hl1 := i1.2.2.2.1
  have hl2 := i2.2.2.2.1
  have I1 := Lib.hid i1; clear i1
  have I2 := Lib.hid i2; clear i2
  have K1 := Lib.hid ok1; clear ok1
  have K2 := Lib.hid ok2; clear ok2
  obtain ⟨a0, a1⟩ := ba
  obtain ⟨c0, c1'⟩ := bc
  obtain ⟨n0, n1⟩ := bn
  by_cases h1 : 50 < l1
  · go_enter Try.func7, Try.ntmps7
    go_wp2_with (go_at_call 18; (with_reducible refine (awake04 _).mono ?_); rintro e w' ⟨rfl, hg⟩)
    go_ret
    exact ⟨rfl, (below_a2 W _ _).trans (hg.mono (by simp only [size_alloc]; omega))⟩
  · by_cases h2 : 50 < l2
    · go_enter Try.func7, Try.ntmps7
      go_wp2_with (go_at_call 18; (with_reducible refine (awake04 _).mono ?_); rintro e w' ⟨rfl, hg⟩)
      go_ret
      exact ⟨rfl, (below_a2 W _ _).trans (hg.mono (by simp only [size_alloc]; omega))⟩
    · go_enter Try.func7, Try.ntmps7
      go_upto_region 4 with fail
      refine wp_abs (fun w => Box w W.heap.size #[.int .u32 x1, .int .u64 id1, .int .u64 ver1, .slice s1 l1 c1, .bool g1] ∧ Box w (W.heap.size + 1) #[.int .u32 x2, .int .u64 id2, .int .u64 ver2, .slice s2 l2 c2, .bool g2] ∧
        Box w (W.heap.size + 1 + 1) #[.int .u64 id1, .int .u64 ver1, .slice s1 l1 c1] ∧ Below W.heap.size W w ∧ W.heap.size < w.heap.size) ⟨(by repeat (first | apply Box.drew | apply Box.drewN | exact Box.newAt _ _ _ _ (by first | rfl | (simp only [size_alloc]; done) | (simp only [size_alloc]; omega)) | assumption | refine Box.alloc ?_ _)), (by repeat (first | apply Box.drew | apply Box.drewN | exact Box.newAt _ _ _ _ (by first | rfl | (simp only [size_alloc]; done) | (simp only [size_alloc]; omega)) | assumption | refine Box.alloc ?_ _)), (by repeat (first | apply Box.drew | apply Box.drewN | exact Box.newAt _ _ _ _ (by first | rfl | (simp only [size_alloc]; done) | (simp only [size_alloc]; omega)) | assumption | refine Box.alloc ?_ _)), (by repeat (first | exact Below.refl _ _ | assumption | apply Below.drew | apply belowN | (refine Below.alloc ?_ (by first | exact Nat.le_refl _ | (simp; done) | (simp; omega)) _) | (refine Below.setCell ?_ (by first | exact Nat.le_refl _ | (simp; done) | (simp; omega)) _))), by simp only [size_alloc]; omega⟩ ?_
      generalize hb1 : W.heap.size + 1 = b1
      generalize hb2 : b1 + 1 = b2
      have N1 : W.heap.size < b1 := by omega
      have N2 : b1 < b2 := by omega
      clear hb1 hb2
      obtain ⟨b0, hb0⟩ : ∃ b0, b0 = W.heap.size := ⟨_, rfl⟩
      rw [← hb0] at N1 ⊢
      rintro w ⟨X0, X1, X2, hB, hZ⟩
      have J1 := Lib.hid (I1.out.below hB (fun b h => by omega))
      have J2 := Lib.hid (I2.out.below hB (fun b h => by omega))
      have JD := Lib.hid (show ∀ b, b < W.heap.size → b < w.heap.size from by omega)
      have HB := Lib.hid hB; clear hB
      have H0 := Lib.hid hb0; clear hb0
      have z0 := X0.lt
      have z1 := X1.lt
      have z2 := X2.lt
      have k0 := X0.cell
      have k1 := X1.cell
      have k2 := X2.cell
      go_wp2_with (go_at_call 28; (with_reducible refine (own_u32 71 _ J1.out JD.out).mono ?_); rintro e w1 ⟨g, rfl, hg, hbox, hb⟩; have Y2 := X2.below hb z2; have m2 := Y2.cell; have f2 := Y2.free)
      have L1 := I1.out.1
      have LL := Lib.hid L1
      rw [L1]
      clear L1
      have hg2 : b2 < g := by omega
      have hbig : Below W.heap.size W (w1.setCell ⟨b2, 2, none⟩ (.slice (some ⟨g, 0, none⟩) l1 (l1 + 3))) := ((H0.out ▸ (below_from HB.out hb (by omega)) : Below W.heap.size W w1)).setCell (p := ⟨b2, 2, none⟩) (by have := H0.out; show W.heap.size ≤ b2; omega) _
      refine wp_abs (fun w => Box w b0 #[.int .u32 x1, .int .u64 id1, .int .u64 ver1, .slice s1 l1 c1, .bool g1] ∧ Box w b1 #[.int .u32 x2, .int .u64 id2, .int .u64 ver2, .slice s2 l2 c2, .bool g2] ∧
        Box w b2 #[.int .u64 id1, .int .u64 ver1, .slice (some ⟨g, 0, none⟩) l1 (l1 + 3)] ∧ Box w g ((vals1 ++ [71, 71, 71]).map (Value.int .u32)).toArray ∧ Below W.heap.size W w) ⟨(X0.below hb z0).setOther (by show b0 ≠ b2; omega) _, (X1.below hb z1).setOther (by show b1 ≠ b2; omega) _, Y2.set _, hbox.setOther (by show g ≠ b2; omega) _, hbig⟩ ?_
      clear hbox Y2 m2 f2 hb hbig JD J1 J2 X0 X1 X2 HB k0 k1 k2 z0 z1 z2 hZ hg w1 w
      rintro w ⟨X0, X1, X2, XG, hB⟩
      have hW : W.heap.size ≤ w.heap.size := hB.size
      have i1 := I1.out.below hB (fun b h => h)
      have i2 := I2.out.below hB (fun b h => h)
      have iG := own_ints (by omega) i1 XG
      have D0 := Lib.hid (show ∀ b, b < W.heap.size → b < w.heap.size from fun b h => by omega)
      have DG := Lib.hid (show ∀ b, b = g → b < w.heap.size from fun b h => by have := XG.lt; omega)
      have R1 := Lib.hid (show RecVal w _ (.agg #[.int .u64 id1, .int .u64 ver1, .slice s1 l1 c1]) ⟨id1, ver1, vals1⟩ from ⟨s1, l1, c1, rfl, K1.out.2, i1⟩)
      have R2 := Lib.hid (show RecVal w _ (.agg #[.int .u64 id2, .int .u64 ver2, .slice s2 l2 c2]) ⟨id2, ver2, vals2⟩ from ⟨s2, l2, c2, rfl, K2.out.2, i2⟩)
      have RG := Lib.hid (show RecVal w _ (.agg #[.int .u64 id1, .int .u64 ver1, .slice (some ⟨g, 0, none⟩) l1 (l1 + 3)]) ⟨id1, ver1, vals1⟩ from ⟨_, _, _, rfl, K1.out.2, iG⟩)
      have II := Lib.hid i1
      have XX := Lib.hid XG
      have HB := Lib.hid hB
      have z0 := X0.lt
      have z1 := X1.lt
      have z2 := X2.lt
      have k0 := X0.cell
      have k1 := X1.cell
      have k2 := X2.cell
      clear i1 i2 iG hB X0 X1 X2 XG LL
      go_region_held3 (fun w' => Same w w') (first | exact Same.drew _ | assumption)
        (first
          | (go_at_call 18; refine (awake04 _).mono ?_; rintro e w1 ⟨rfl, hb⟩; have S1 := Same.step (by first | exact Same.drew _ | assumption) hb; clear hb)
          | (go_at_call 26; refine (right_b _ _ _ _ _ _ _ (by omega) (by omega) (by omega) (by omega) (by omega) (by omega) (by omega)).mono ?_; rintro e w1 ⟨rfl, hb⟩; have S1 := Same.step (by first | exact Same.drew _ | assumption) hb; clear hb)
          | (go_at_call 29; refine (rright_b _ _ _ _ _ _ _ (by omega) (by omega) (by omega) (by omega) (by omega) (by omega) (by omega)).mono ?_; rintro e w1 ⟨rfl, hb⟩; have S1 := Same.step (by first | exact Same.drew _ | assumption) hb; clear hb)
          | (go_at_call 17; refine (own_any _ _ _ (by omega) (by omega) (by omega) (by omega)).mono ?_; rintro e w' ⟨rfl, rfl⟩)
          | (go_at_call 30; refine (rown_any _ _ _ (by omega) (by omega) (by omega) (by omega)).mono ?_; rintro e w' ⟨rfl, rfl⟩)
          | (go_at_call 19; refine (client_any _ _ (by omega) (by omega)).mono ?_; rintro e w' ⟨rfl, rfl⟩)
          | (go_at_call 31; refine (rclient_any _ _ (by omega) (by omega)).mono ?_; rintro e w' ⟨rfl, rfl⟩)
          | (go_at_call 20; refine (newer_any _ _ _ _ _ _ _ _ _ _ _ _ _ _ _ (by omega) (by omega)).mono ?_; rintro e w1 ⟨rfl, hb⟩; have S1 := Same.step (by first | exact Same.drew _ | assumption) hb; clear hb)
          | (go_at_call 32; refine (rnewer_any _ _ _ _ _ _ _ _ _ _ _ _ _ _ _ (by omega) (by omega)).mono ?_; rintro e w1 ⟨rfl, hb⟩; have S1 := Same.step (by first | exact Same.drew _ | assumption) hb; clear hb)
          | (go_at_call 27; refine (rsame_any _ (RG.out.sm DG.out (by assumption)) (R2.out.sm D0.out (by assumption)) (Same.lt (by assumption) DG.out) (Same.lt (by assumption) D0.out)).mono ?_; rintro e w1 ⟨rfl, hb⟩; have S1 := Same.step (by first | exact Same.drew _ | assumption) hb; clear hb)
          | (go_at_call 33; refine (r04same_any _ (R1.out.sm D0.out (by assumption)) (R2.out.sm D0.out (by assumption)) (Same.lt (by assumption) D0.out) (Same.lt (by assumption) D0.out)).mono ?_; rintro e w1 ⟨rfl, hb⟩; have S1 := Same.step (by first | exact Same.drew _ | assumption) hb; clear hb)
          | (go_at_call 34; refine (kept_u32 71 _ (II.out.sm D0.out (by assumption)) (XX.out.same (by assumption))).mono ?_; rintro e w1 ⟨rfl, hd⟩; have hb := hd.below; clear hd; have S1 := Same.step (by first | exact Same.drew _ | assumption) hb; clear hb))
      go_wp2
      go_ret
      exact ⟨by first | rfl | simp, below_fin HB.out (by assumption)⟩

theorem wRecordTells (W : World) (vs : List Value) (h : Sh.Args W (· < W.heap.size) [((.int .i64), 3), ((.st (.pair (.int .u32) (.pair (.st (.pair (.int .u64) (.pair (.int .u64) (.pair (.sl (.int .u32) 4) .unit)))) (.pair .bool .unit)))), 33), ((.st (.pair (.int .u32) (.pair (.st (.pair (.int .u64) (.pair (.int .u64) (.pair (.sl (.int .u32) 4) .unit)))) (.pair .bool .unit)))), 33), ((.int .i64), 3), ((.int .u32), 22)] vs) :
    Calls Try.prog 7 vs.toArray W fun e W' => e = .returned (.bool true) ∧ Below W.heap.size W W' := by
  obtain ⟨_, _, rfl, ⟨a, ha⟩, _, _, rfl, ⟨b, hb⟩, _, _, rfl, ⟨c, hc⟩, _, _, rfl, ⟨d, hd⟩, _, _, rfl, ⟨e, he⟩, rfl⟩ := h
  obtain ⟨n1, rfl, w1⟩ := int_open ha
  obtain ⟨e1, s1, l1, c1, rfl, ok1, i1⟩ := ent_open hb
  obtain ⟨e2, s2, l2, c2, rfl, ok2, i2⟩ := ent_open hc
  obtain ⟨n2, rfl, w2⟩ := int_open hd
  obtain ⟨n3, rfl, w3⟩ := int_open he
  exact wRecordTells0 W n1 n2 n3 e1 e2 s1 l1 c1 s2 l2 c2 ok1 ok2 i1 i2 (bounds_i64 w1) (bounds_i64 w2) (bounds_u32 w3)
end Go.Proofs.Ytjniholnmjafeaa
