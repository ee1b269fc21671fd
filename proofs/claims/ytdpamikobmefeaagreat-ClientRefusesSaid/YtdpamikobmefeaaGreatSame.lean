/- Whether two records, two entries, are the same: record.Same and the helpers' Record, Entry. Conditions: the values read so. -/
import Derived.Test.YtdpamikobmefeaaGreatPlain
namespace Go.Proofs.YtdpamikobmefeaaGreat
open Go.RowKit Go.ChangeShapes
set_option maxRecDepth 100000
set_option linter.unusedVariables false

theorem Ints.sm {w w' : World} {D : Nat → Prop} {k : IntKind} {bytes : Nat} {A : Option Addr} {n cap : Nat} {xs : List Int} (h : Ints w D k bytes A n cap xs) (hD : ∀ b, D b → b < w.heap.size) (hs : Same w w') : Ints w' D k bytes A n cap xs := h.below hs.1 hD
theorem RecVal.sm {w w' : World} {D : Nat → Prop} {v : Value} {r : Rec} (h : RecVal w D v r) (hD : ∀ b, D b → b < w.heap.size) (hs : Same w w') : RecVal w' D v r := by
  obtain ⟨s, l, c, rfl, hok, hi⟩ := h
  exact ⟨s, l, c, rfl, hok, hi.sm hD hs⟩
theorem Same.lt {w w' : World} {D : Nat → Prop} (hs : Same w w') (hD : ∀ b, D b → b < w.heap.size) : ∀ b, D b → b < w'.heap.size := fun b h => Nat.lt_of_lt_of_le (hD b h) hs.1.size

theorem hrec_any {D D' : Nat → Prop} {v1 v2 : Value} {r1 r2 : Rec} (w : World) (h1 : RecVal w D v1 r1) (h2 : RecVal w D' v2 r2) (d1 : ∀ b, D b → b < w.heap.size) (d2 : ∀ b, D' b → b < w.heap.size) :
    Calls Tryz.prog 53 #[v1, v2] w fun e w' => e = .returned (.bool (eqR r1 r2)) ∧ Below w.heap.size w w' := by
  obtain ⟨s1, l1, c1, rfl, ⟨⟨a1, _⟩, ⟨b1, _⟩, _⟩, i1⟩ := h1
  obtain ⟨s2, l2, c2, rfl, ⟨⟨a2, _⟩, ⟨b2, _⟩, _⟩, i2⟩ := h2
  have j1 := Lib.hid ((i1.below (below_a1 w (.cells #[.int .u64 r1.id, .int .u64 r1.ver, .slice s1 l1 c1] 52)) d1).below (below_a1 _ (.cells #[.int .u64 r2.id, .int .u64 r2.ver, .slice s2 l2 c2] 52)) (by intro b hb; have := d1 b hb; simp; omega))
  have j2 := Lib.hid ((i2.below (below_a1 w (.cells #[.int .u64 r1.id, .int .u64 r1.ver, .slice s1 l1 c1] 52)) d2).below (below_a1 _ (.cells #[.int .u64 r2.id, .int .u64 r2.ver, .slice s2 l2 c2] 52)) (by intro b hb; have := d2 b hb; simp; omega))
  clear i1 i2 d1 d2
  obtain ⟨id1, ver1, vals1⟩ := r1
  obtain ⟨id2, ver2, vals2⟩ := r2
  dsimp only at *
  by_cases hid : id1 = id2
  · subst hid
    by_cases hver : ver1 = ver2
    · subst hver
      have E : Hid (eqR { id := id1, ver := ver1, vals := vals1 } { id := id1, ver := ver1, vals := vals2 } = decide (vals1 = vals2)) := by show eqR _ _ = decide _; unfold eqR; simp
      go_enter Tryz.func53, Tryz.ntmps53
      go_wp2_with (go_at_call 89; (with_reducible refine (plain_u32 _ j1.out j2.out).mono ?_); rintro e w' ⟨rfl, hd⟩)
      go_ret
      exact ⟨(by first | (rw [E.out]; done) | (rw [E.out]; rfl)), by have := hd.below; exact ((below_a2 w _ _).trans (this.mono (by simp only [size_alloc]; omega)))⟩
    · have E : Hid (eqR { id := id1, ver := ver1, vals := vals1 } { id := id1, ver := ver2, vals := vals2 } = false) := by show eqR _ _ = _; unfold eqR; simp [hver]
      have hne : (ver1 == ver2) = false := by rw [beq_eq_false_iff_ne]; exact hver
      go_enter Tryz.func53, Tryz.ntmps53
      go_wp2
      go_ret
      exact ⟨(by first | (rw [E.out]; done) | (rw [E.out]; rfl)), (by repeat (first | exact Below.refl _ _ | assumption | apply Below.drew | apply belowN | (refine Below.alloc ?_ (by first | exact Nat.le_refl _ | (simp; done) | (simp; omega)) _) | (refine Below.setCell ?_ (by first | exact Nat.le_refl _ | (simp; done) | (simp; omega)) _)))⟩
  · have E : Hid (eqR { id := id1, ver := ver1, vals := vals1 } { id := id2, ver := ver2, vals := vals2 } = false) := by show eqR _ _ = _; unfold eqR; simp [hid]
    have hne : (id1 == id2) = false := by rw [beq_eq_false_iff_ne]; exact hid
    go_enter Tryz.func53, Tryz.ntmps53
    go_wp2
    go_ret
    exact ⟨(by first | (rw [E.out]; done) | (rw [E.out]; rfl)), (by repeat (first | exact Below.refl _ _ | assumption | apply Below.drew | apply belowN | (refine Below.alloc ?_ (by first | exact Nat.le_refl _ | (simp; done) | (simp; omega)) _) | (refine Below.setCell ?_ (by first | exact Nat.le_refl _ | (simp; done) | (simp; omega)) _)))⟩

end Go.Proofs.YtdpamikobmefeaaGreat
