/- slices.Sort at whole numbers: the partitions. Conditions: the row is one's own. -/
import Derived.Test.YtpkeddiaoacfeaaSrtHeap
import Derived.Deep.CutBlock
import Derived.Deep.DeepCutAuto
namespace Go.Proofs.Ytpkeddiaoacfeaa
open Go.RowKit Go.Sort
set_option maxRecDepth 100000
set_option linter.unusedVariables false
set_option linter.unusedSimpArgs false

/-- Where a partition stands: what stands ahead of i is of L, what stands behind j is not. -/
structure QInv (L : Int → Prop) (d0 : Array Int) (a b : Nat) (p : Int) (i j : Nat) (dk : Array Int) : Prop where
  perm : PermIn a b d0 dk
  bsz : b ≤ d0.size
  piv : dk[a]! = p
  lo : ∀ t, a < t → t < i → L dk[t]!
  hi : ∀ t, j < t → t < b → ¬ L dk[t]!
  ai : a < i
  ij : i ≤ j + 1
  jb : j < b
section
variable {L : Int → Prop} {d0 dk : Array Int} {a b i j : Nat} {p : Int}
theorem QInv.up (h : QInv L d0 a b p i j dk) (hij : i ≤ j) (hl : L dk[i]!) : QInv L d0 a b p (i + 1) j dk :=
  { h with lo := fun t h1 h2 => by rcases Nat.lt_or_ge t i with h3 | h3
                                   · exact h.lo t h1 h3
                                   · obtain rfl : t = i := by omega
                                     exact hl
           ai := by have := h.ai; omega
           ij := by omega }
theorem QInv.down (h : QInv L d0 a b p i (j + 1) dk) (hij : i ≤ j + 1) (hl : ¬ L dk[j + 1]!) : QInv L d0 a b p i j dk :=
  { h with hi := fun t h1 h2 => by rcases Nat.lt_or_ge (j + 1) t with h3 | h3
                                   · exact h.hi t h3 h2
                                   · obtain rfl : t = j + 1 := by omega
                                     exact hl
           ij := by omega
           jb := by have := h.jb; omega }
theorem QInv.swap (h : QInv L d0 a b p i (j + 1) dk) (hij : i < j + 1) (h1 : ¬ L dk[i]!) (h2 : L dk[j + 1]!) : QInv L d0 a b p (i + 1) j (swp dk i (j + 1)) := by
  have hs : dk.size = d0.size := h.perm.1
  have ha := h.ai; have hb := h.jb; have hz := h.bsz
  refine ⟨prm_swap h.perm (by omega) (by omega) (by omega) (by omega) h.bsz, h.bsz, ?_, fun t q1 q2 => ?_, fun t q1 q2 => ?_, by omega, by omega, by omega⟩
  · rw [swp_other _ _ _ _ (by omega) (by omega)]; exact h.piv
  · rcases Nat.lt_or_ge t i with h3 | h3
    · rw [swp_other _ _ _ _ (by omega) (by omega)]; exact h.lo t q1 h3
    · obtain rfl : t = i := by omega
      rw [swp_left _ _ _ (by omega) (by omega)]; exact h2
  · rcases Nat.lt_or_ge (j + 1) t with h3 | h3
    · rw [swp_other _ _ _ _ (by omega) (by omega)]; exact h.hi t h3 q2
    · obtain rfl : t = j + 1 := by omega
      rw [swp_right _ _ _ (by omega)]; exact h1
theorem QInv.start (hp : PermIn a b d0 dk) (hz : b ≤ d0.size) (hab : a + 1 < b) : QInv L d0 a b dk[a]! (a + 1) (b - 1) dk :=
  ⟨hp, hz, rfl, fun t h1 h2 => by omega, fun t h1 h2 => by omega, by omega, by omega, by omega⟩
end
def LeP (p : Int) : Int → Prop := fun x => ¬ p < x
def LtP (p : Int) : Int → Prop := fun x => x < p
/-- What partitionEqual leaves. -/
def PEq (k : IntKind) (T : TypeId) (C0 : Array Value) (w0 : World) (b : Nat) (d : Array Int) (x y : Nat) (p : Int) (e : Ending) (w : World) : Prop :=
  ∃ (m : Nat) (d' : Array Int), e = .returned (.int .i64 m) ∧ x < m ∧ m ≤ y ∧ PermIn x y d d' ∧ (∀ t, x ≤ t → t < m → LeP p d'[t]!) ∧ (∀ t, m ≤ t → t < y → p < d'[t]!) ∧ RowI k T C0 w0 b d' w
theorem peq_end {d0 dk : Array Int} {a b i j : Nat} {p : Int} (h : QInv (LeP p) d0 a b p i j dk) (hij : j < i) : a < i ∧ i ≤ b ∧ PermIn a b d0 dk ∧ (∀ t, a ≤ t → t < i → LeP p dk[t]!) ∧ (∀ t, i ≤ t → t < b → p < dk[t]!) := by
  have h1 := h.ij; have h2 := h.jb
  refine ⟨h.ai, by omega, h.perm, fun t q1 q2 => ?_, fun t q1 q2 => Classical.not_not.1 (h.hi t (by omega) q2)⟩
  rcases Nat.lt_or_ge a t with h3 | h3
  · exact h.lo t h3 q2
  · obtain rfl : t = a := by omega
    unfold LeP; rw [h.piv]; omega

/-- What partition leaves. -/
def PPt (k : IntKind) (T : TypeId) (C0 : Array Value) (w0 : World) (b : Nat) (d : Array Int) (x y : Nat) (e : Ending) (w : World) : Prop :=
  ∃ (m : Nat) (g : Bool) (d' : Array Int), e = .returned (.tuple #[.int .i64 m, .bool g]) ∧ x ≤ m ∧ m < y ∧ PermIn x y d d' ∧ (∀ t, x ≤ t → t < m → LtP d'[m]! d'[t]!) ∧ (∀ t, m < t → t < y → ¬ LtP d'[m]! d'[t]!) ∧ RowI k T C0 w0 b d' w
theorem part_end {d0 dk : Array Int} {a b i j : Nat} {p : Int} (h : QInv (LtP p) d0 a b p i j dk) (hij : j < i) : a ≤ j ∧ j < b ∧ PermIn a b d0 (swp dk j a) ∧ (∀ t, a ≤ t → t < j → LtP (swp dk j a)[j]! (swp dk j a)[t]!) ∧ (∀ t, j < t → t < b → ¬ LtP (swp dk j a)[j]! (swp dk j a)[t]!) := by
  have h1 := h.ij; have h2 := h.jb; have h3 := h.ai; have h4 := h.bsz; have h5 : dk.size = d0.size := h.perm.1
  have hj : (swp dk j a)[j]! = p := by
    by_cases e : j = a
    · rw [e, swp_right _ _ _ (by omega), ← h.piv]
    · rw [swp_left _ _ _ (by omega) e, h.piv]
  refine ⟨by omega, h2, prm_swap h.perm (by omega) (by omega) (by omega) (by omega) h.bsz, fun t q1 q2 => ?_, fun t q1 q2 => ?_⟩
  · rw [hj]
    by_cases e : t = a
    · rw [e, swp_right _ _ _ (by omega)]
      exact h.lo j (by omega) (by omega)
    · rw [swp_other _ _ _ _ (by omega) e]
      exact h.lo t (by omega) (by omega)
  · rw [hj, swp_other _ _ _ _ (by omega) (by omega)]
    exact h.hi t q1 q2
set_option maxHeartbeats 8000000 in
theorem srt_peq_u64 {T : TypeId} {C0 : Array Value} {w0 w : World} {b cap x y v n : Nat} {d : Array Int} (h : RowI .u64 T C0 w0 b d w) (hn : d.size = n) (hxy : x + 1 < y) (hy : y ≤ n) (hv1 : x ≤ v) (hv2 : v < y) (hsz : n < 4611686018427387904) :
    Calls Try.prog 138 #[.slice (some ⟨b, 0, none⟩) n cap, .int .i64 x, .int .i64 y, .int .i64 v] w (PEq .u64 T C0 w0 b d x y d[v]!) := by
  obtain ⟨z, rfl⟩ : ∃ z, y = z + 1 := ⟨y - 1, by omega⟩
  have HH := Lib.hid h; have HN := Lib.hid hn
  have k1 := h.cell (i := x) (by omega)
  have k2 := h.cell (i := v) (by omega)
  have fz := h.free
  have zb := h.lt
  have HSW := Lib.hid (h.swap (i := x) (j := v) (by omega) (by omega))
  obtain ⟨s2, hs2⟩ := h.second (i := x) (j := v) (by omega) (by omega) d[v]!
  have q1 : x < n := by omega
  have q2 : v < n := by omega
  have w5 := wrap_nat64 (k := z) (by omega)
  have HP0 := Lib.hid (prm_swap (permIn_refl d x (z + 1)) (i := x) (j := v) (Nat.le_refl _) (by omega) hv1 hv2 (by omega))
  have HPV := Lib.hid (show (swp d x v)[x]! = d[v]! by
    by_cases hxv : x = v
    · subst hxv
      rw [swp_right _ _ _ (by omega)]
    · exact swp_left _ _ _ (by omega) hxv)
  clear h
  generalize hp : d[v]! = p at *
  generalize hu : d[x]! = u at *
  clear hp hu hn
  rw [show ((z + 1 : Nat) : Int) = (z : Int) + 1 from Int.natCast_add z 1]
  go_enter Try.func138, Try.ntmps138
  go_upto_region 1 with fail
  go_region
  have HQ := Lib.hid (show QInv (LeP p) d x (z + 1) p (x + 1) z (swp d x v) by
    have := QInv.start (L := LeP p) HP0.out (by have := HN.out; omega) (by omega)
    rwa [HPV.out] at this)
  have HR1 := Lib.hid HSW.out.drew
  generalize (((w.setCell ⟨b, x, none⟩ (.int .u64 p)).setCell ⟨b, v, none⟩ (.int .u64 u)).drew) = w1 at HR1 ⊢
  clear k1 k2 fz zb hs2 HSW
  clear HH HPV HP0
  go_wp2
  go_loopw [9, 10] (fun s9 s10 wr => ∃ (i j : Nat) (dk : Array Int), s9 = .int .i64 i ∧ s10 = .int .i64 j ∧ QInv (LeP p) d x (z + 1) p i j dk ∧ RowI .u64 T C0 w0 b dk wr) (fun i j _ => (intOf j).toNat + 1 - (intOf i).toNat)
  case atStart => exact ⟨x + 1, z, _, by go_num, rfl, HQ.out, HR1.out⟩
  case round =>
    obtain ⟨i, j, dk, rfl, rfl, hq, hR⟩ := hrel
    have HR := Lib.hid hR; have HQ := Lib.hid hq
    have HK := Lib.hid (show dk.size = n by rw [hq.perm.1]; exact HN.out)
    have KX : Hid (∀ wx, RowI .u64 T C0 w0 b dk wx → wx.cell? ⟨b, x, none⟩ = some (.int .u64 p)) := fun wx hx => by rw [hx.cell (i := x) (by have := HK.out; omega), HQ.out.piv]
    have hij0 := hq.ij; have hjb0 := hq.jb; have hai0 := hq.ai
    clear hR hq
    go_upto_block 2 with fail
    go_cut [9] from 29 to 45 (fun s9 wx => ∃ i' : Nat, s9 = .int .i64 i' ∧ i ≤ i' ∧ QInv (LeP p) d x (z + 1) p i' j dk ∧ (i' ≤ j → p < dk[i']!) ∧ RowI .u64 T C0 w0 b dk wx)
    case first =>
      go_wp2_with fail
      go_loopw [9] (fun s9 wq => ∃ i' : Nat, s9 = .int .i64 i' ∧ i ≤ i' ∧ QInv (LeP p) d x (z + 1) p i' j dk ∧ RowI .u64 T C0 w0 b dk wq) (fun i _ => j + 1 - (intOf i).toNat)
      case atStart => exact ⟨i, rfl, Nat.le_refl _, HQ.out, HR.out⟩
      case round =>
        obtain ⟨i', rfl, hii, hq2, hR2⟩ := hrel
        have HR2 := Lib.hid hR2; have HQ2 := Lib.hid hq2
        clear hR2 hq2
        by_cases hle : i' ≤ j
        · have g1 : decide (i' ≤ j) = true := decide_eq_true hle
          have g2 : decide ((i' : Int) ≤ (j : Int)) = true := decide_eq_true (by omega)
          have c1 := HR2.out.cell (i := i') (by have := HK.out; omega)
          have c2 := KX.out _ HR2.out
          have hin : i' < n := by omega
          obtain ⟨v1, hv⟩ : ∃ v1, dk[i']! = v1 := ⟨_, rfl⟩
          rw [hv] at c1
          have HV := Lib.hid hv
          clear hv
          by_cases hpv : p < v1
          · have HLT := Lib.hid (show decide (p < v1) = true from decide_eq_true hpv)
            have HPV := Lib.hid hpv
            clear hpv
            go_wp2_with fail
            go_quiet ((go_at_call 137; exact Calls.quiet_of_same (lessq_u64 _ _ _)))
            rw [HLT.out]
            go_wp2_with fail
            go_meet
            exact ⟨i', rfl, hii, HQ2.out, fun _ => by rw [HV.out]; exact HPV.out, HR2.out.drewN _⟩
          · have HLT := Lib.hid (show decide (p < v1) = false from decide_eq_false hpv)
            have HQ3 := Lib.hid (HQ2.out.up hle (by rw [HV.out]; exact hpv))
            clear hpv
            go_wp2_with fail
            go_quiet ((go_at_call 137; exact Calls.quiet_of_same (lessq_u64 _ _ _)))
            rw [HLT.out]
            go_wp2_with fail
            go_roundw
            case rel => exact ⟨i' + 1, by go_num, by omega, HQ3.out, HR2.out.drewN _⟩
            case measure => simp [intOf]; omega
        · have g1 : decide (i' ≤ j) = false := decide_eq_false hle
          have g2 : decide ((i' : Int) ≤ (j : Int)) = false := decide_eq_false (by omega)
          go_wp2_with fail
          go_quiet (fail)
          go_wp2_with fail
          go_meet
          exact ⟨i', rfl, hii, HQ2.out, fun h => absurd h hle, HR2.out.drewN _⟩
    case rest =>
      obtain ⟨i', rfl, hii, hq2, hiv, hR2⟩ := hcut
      have HR2 := Lib.hid hR2; have HQ2 := Lib.hid hq2; have HIV := Lib.hid hiv
      have hij2 := hq2.ij; have hai2 := hq2.ai
      clear hR2 hq2 hiv
      go_upto_block 4 with fail
      go_cut [10] from 46 to 61 (fun s10 wx => ∃ j' : Nat, s10 = .int .i64 j' ∧ j' ≤ j ∧ QInv (LeP p) d x (z + 1) p i' j' dk ∧ (i' ≤ j' → ¬ p < dk[j']!) ∧ RowI .u64 T C0 w0 b dk wx)
      case first =>
        go_wp2_with fail
        go_loopw [10] (fun s10 wq => ∃ j' : Nat, s10 = .int .i64 j' ∧ j' ≤ j ∧ QInv (LeP p) d x (z + 1) p i' j' dk ∧ RowI .u64 T C0 w0 b dk wq) (fun j _ => (intOf j).toNat)
        case atStart => exact ⟨j, rfl, Nat.le_refl _, HQ2.out, HR2.out⟩
        case round =>
          obtain ⟨j', rfl, hjj, hq3, hR3⟩ := hrel
          have HR3 := Lib.hid hR3; have HQ3 := Lib.hid hq3
          clear hR3 hq3
          by_cases hle : i' ≤ j'
          · obtain ⟨t, rfl⟩ : ∃ t, j' = t + 1 := ⟨j' - 1, by omega⟩
            have g1 : decide (i' ≤ t + 1) = true := decide_eq_true hle
            have g2 : decide ((i' : Int) ≤ (t : Int) + 1) = true := decide_eq_true (by omega)
            have c1 := HR3.out.cell (i := t + 1) (by have := HK.out; omega)
            have c2 := KX.out _ HR3.out
            have hin : (t : Int) + 1 < (n : Int) := by omega
            have q3 : ((t : Int) + 1).toNat = t + 1 := by omega
            have q4 : IntKind.i64.wrap ((t : Int) + 1) = (t : Int) + 1 := by rw [show ((t : Int) + 1) = ((t + 1 : Nat) : Int) by omega]; exact wrap_nat64 (by omega)
            have q5 := wrap_nat64 (k := t) (by omega)
            obtain ⟨v1, hv⟩ : ∃ v1, dk[t + 1]! = v1 := ⟨_, rfl⟩
            rw [hv] at c1
            have HV := Lib.hid hv
            clear hv
            by_cases hpv : p < v1
            · have HLT := Lib.hid (show decide (p < v1) = true from decide_eq_true hpv)
              have HQ4 := Lib.hid (HQ3.out.down hle (by rw [HV.out]; exact fun h => h hpv))
              clear hpv
              go_wp2_with fail
              go_quiet ((go_at_call 137; exact Calls.quiet_of_same (lessq_u64 _ _ _)))
              rw [HLT.out]
              go_wp2_with fail
              go_roundw
              case rel => exact ⟨t, by go_num, by omega, HQ4.out, HR3.out.drewN _⟩
              case measure => simp [intOf]
            · have HLT := Lib.hid (show decide (p < v1) = false from decide_eq_false hpv)
              have HPV := Lib.hid hpv
              clear hpv
              go_wp2_with fail
              go_quiet ((go_at_call 137; exact Calls.quiet_of_same (lessq_u64 _ _ _)))
              rw [HLT.out]
              go_wp2_with fail
              go_meet
              exact ⟨t + 1, by go_num, hjj, HQ3.out, fun _ => by rw [HV.out]; exact HPV.out, HR3.out.drewN _⟩
          · have g1 : decide (i' ≤ j') = false := decide_eq_false hle
            have g2 : decide ((i' : Int) ≤ (j' : Int)) = false := decide_eq_false (by omega)
            go_wp2_with fail
            go_quiet (fail)
            go_wp2_with fail
            go_meet
            exact ⟨j', rfl, hjj, HQ3.out, fun h => absurd h hle, HR3.out.drewN _⟩
      case rest =>
        obtain ⟨j', rfl, hjj, hq3, hjv, hR3⟩ := hcut
        have HR3 := Lib.hid hR3; have HQ3 := Lib.hid hq3; have HJV := Lib.hid hjv
        have hij3 := hq3.ij
        clear hR3 hq3 hjv
        by_cases hgt : j' < i'
        · have HE := Lib.hid (peq_end HQ3.out hgt)
          go_wp2_with fail
          go_ret
          exact ⟨i', dk, rfl, HE.out.1, HE.out.2.1, HE.out.2.2.1, HE.out.2.2.2.1, HE.out.2.2.2.2, HR3.out⟩
        · obtain ⟨t, rfl⟩ : ∃ t, j' = t + 1 := ⟨j' - 1, by omega⟩
          have hne : i' ≠ t + 1 := fun e => by
            have h1 := HIV.out (by omega)
            have h2 := HJV.out (by omega)
            rw [e] at h1
            exact h2 h1
          have k1 := HR3.out.cell (i := i') (by have := HK.out; omega)
          have k2 := HR3.out.cell (i := t + 1) (by have := HK.out; omega)
          have fz := HR3.out.free
          have zb := HR3.out.lt
          have HSW := Lib.hid (HR3.out.swap (i := i') (j := t + 1) (by have := HK.out; omega) (by have := HK.out; omega))
          have HQ4 := Lib.hid (HQ3.out.swap (by omega) (fun h => h (HIV.out (by omega))) (HJV.out (by omega)))
          have hin : i' < n := by omega
          have hjn : (t : Int) + 1 < (n : Int) := by omega
          have q3 : ((t : Int) + 1).toNat = t + 1 := by omega
          have q4 : IntKind.i64.wrap ((t : Int) + 1) = (t : Int) + 1 := by rw [show ((t : Int) + 1) = ((t + 1 : Nat) : Int) by omega]; exact wrap_nat64 (by omega)
          have q5 := wrap_nat64 (k := t) (by omega)
          generalize hu : dk[i']! = u at *
          generalize hv : dk[t + 1]! = v at *
          clear hu hv
          go_upto_region 8 with fail
          go_region
          have HS4 := Lib.hid HSW.out.drew
          clear k1 k2 fz zb
          go_wp2_with fail
          go_roundw
          case rel => exact ⟨i' + 1, t, _, by go_num, by go_num, HQ4.out, HS4.out⟩
          case measure => simp [intOf]; omega
set_option maxHeartbeats 16000000 in
theorem srt_part_u64 {T : TypeId} {C0 : Array Value} {w0 w : World} {b cap x y v n : Nat} {d : Array Int} (h : RowI .u64 T C0 w0 b d w) (hn : d.size = n) (hxy : x + 1 < y) (hy : y ≤ n) (hv1 : x ≤ v) (hv2 : v < y) (hsz : n < 4611686018427387904) :
    Calls Try.prog 139 #[.slice (some ⟨b, 0, none⟩) n cap, .int .i64 x, .int .i64 y, .int .i64 v] w (PPt .u64 T C0 w0 b d x y) := by
  obtain ⟨z, rfl⟩ : ∃ z, y = z + 1 := ⟨y - 1, by omega⟩
  have HH := Lib.hid h; have HN := Lib.hid hn
  have k1 := h.cell (i := x) (by omega)
  have k2 := h.cell (i := v) (by omega)
  have fz := h.free
  have zb := h.lt
  have HSW := Lib.hid (h.swap (i := x) (j := v) (by omega) (by omega))
  obtain ⟨s2, hs2⟩ := h.second (i := x) (j := v) (by omega) (by omega) d[v]!
  have q1 : x < n := by omega
  have q2 : v < n := by omega
  have w5 := wrap_nat64 (k := z) (by omega)
  have HP0 := Lib.hid (prm_swap (permIn_refl d x (z + 1)) (i := x) (j := v) (Nat.le_refl _) (by omega) hv1 hv2 (by omega))
  have HPV := Lib.hid (show (swp d x v)[x]! = d[v]! by
    by_cases hxv : x = v
    · subst hxv
      rw [swp_right _ _ _ (by omega)]
    · exact swp_left _ _ _ (by omega) hxv)
  clear h
  generalize hp : d[v]! = p at *
  generalize hu : d[x]! = u at *
  clear hp hu hn
  rw [show ((z + 1 : Nat) : Int) = (z : Int) + 1 from Int.natCast_add z 1]
  go_enter Try.func139, Try.ntmps139
  go_upto_region 1 with fail
  go_region
  have HQ := Lib.hid (show QInv (LtP p) d x (z + 1) p (x + 1) z (swp d x v) by
    have := QInv.start (L := LtP p) HP0.out (by have := HN.out; omega) (by omega)
    rwa [HPV.out] at this)
  have HR := Lib.hid HSW.out.drew
  generalize (((w.setCell ⟨b, x, none⟩ (.int .u64 p)).setCell ⟨b, v, none⟩ (.int .u64 u)).drew) = w1 at HR ⊢
  generalize swp d x v = dk at HQ HR
  clear k1 k2 fz zb hs2 HSW HH HPV HP0
  have HK := Lib.hid (show dk.size = n by rw [HQ.out.perm.1]; exact HN.out)
  have KX : Hid (∀ wx, RowI .u64 T C0 w0 b dk wx → wx.cell? ⟨b, x, none⟩ = some (.int .u64 p)) := fun wx hx => by rw [hx.cell (i := x) (by have := HK.out; omega), HQ.out.piv]
  go_upto_block 0 with fail
  go_cut [10] from 30 to 45 (fun s1 wx => ∃ i2 : Nat, s1 = .int .i64 i2 ∧ (x + 1) ≤ i2 ∧ QInv (LtP p) d x (z + 1) p i2 z dk ∧ (i2 ≤ z → ¬ LtP p dk[i2]!) ∧ RowI .u64 T C0 w0 b dk wx)
  case first =>
    go_wp2_with fail
    go_loopw [10] (fun s1 wq => ∃ i2 : Nat, s1 = .int .i64 i2 ∧ (x + 1) ≤ i2 ∧ QInv (LtP p) d x (z + 1) p i2 z dk ∧ RowI .u64 T C0 w0 b dk wq) (fun i _ => z + 1 - (intOf i).toNat)
    case atStart => exact ⟨(x + 1), by first | rfl | go_num, Nat.le_refl _, HQ.out, HR.out⟩
    case round =>
      obtain ⟨i2, rfl, hii, hq2, hR2⟩ := hrel
      have HR2 := Lib.hid hR2; have HQ2 := Lib.hid hq2
      clear hR2 hq2
      by_cases hle : i2 ≤ z
      · have g1 : decide (i2 ≤ z) = true := decide_eq_true hle
        have g2 : decide ((i2 : Int) ≤ (z : Int)) = true := decide_eq_true (by omega)
        have c1 := HR2.out.cell (i := i2) (by have := HK.out; omega)
        have c2 := KX.out _ HR2.out
        have hin : i2 < n := by omega
        obtain ⟨v1, hv⟩ : ∃ v1, dk[i2]! = v1 := ⟨_, rfl⟩
        rw [hv] at c1
        have HV := Lib.hid hv
        clear hv
        by_cases hpv : v1 < p
        · have HLT := Lib.hid (show decide (v1 < p) = true from decide_eq_true hpv)
          have HQ3 := Lib.hid (HQ2.out.up hle (by rw [HV.out]; exact hpv))
          clear hpv
          go_wp2_with fail
          go_quiet ((go_at_call 137; exact Calls.quiet_of_same (lessq_u64 _ _ _)))
          rw [HLT.out]
          go_wp2_with fail
          go_roundw
          case rel => exact ⟨i2 + 1, by go_num, by omega, HQ3.out, HR2.out.drewN _⟩
          case measure => simp [intOf]; omega
        · have HLT := Lib.hid (show decide (v1 < p) = false from decide_eq_false hpv)
          have HPV := Lib.hid (show ¬ LtP p v1 from hpv)
          clear hpv
          go_wp2_with fail
          go_quiet ((go_at_call 137; exact Calls.quiet_of_same (lessq_u64 _ _ _)))
          rw [HLT.out]
          go_wp2_with fail
          go_meet
          exact ⟨i2, rfl, hii, HQ2.out, fun _ => by rw [HV.out]; exact HPV.out, HR2.out.drewN _⟩
      · have g1 : decide (i2 ≤ z) = false := decide_eq_false hle
        have g2 : decide ((i2 : Int) ≤ (z : Int)) = false := decide_eq_false (by omega)
        go_wp2_with fail
        go_quiet (fail)
        go_wp2_with fail
        go_meet
        exact ⟨i2, rfl, hii, HQ2.out, fun h => absurd h hle, HR2.out.drewN _⟩
  case rest =>
    obtain ⟨i2, rfl, hii, hq2, hiv, hR2⟩ := hcut
    have HR2 := Lib.hid hR2; have HQ2 := Lib.hid hq2; have HIV := Lib.hid (show i2 ≤ z → ¬ LtP p dk[i2]! from hiv)
    have hij2 := hq2.ij; have hai2 := hq2.ai
    clear hR2 hq2 hiv
    go_upto_block 2 with fail
    go_cut [11] from 46 to 62 (fun s1 wx => ∃ j2 : Nat, s1 = .int .i64 j2 ∧ j2 ≤ z ∧ QInv (LtP p) d x (z + 1) p i2 j2 dk ∧ (i2 ≤ j2 → LtP p dk[j2]!) ∧ RowI .u64 T C0 w0 b dk wx)
    case first =>
      go_wp2_with fail
      go_loopw [11] (fun s1 wq => ∃ j2 : Nat, s1 = .int .i64 j2 ∧ j2 ≤ z ∧ QInv (LtP p) d x (z + 1) p i2 j2 dk ∧ RowI .u64 T C0 w0 b dk wq) (fun j _ => (intOf j).toNat)
      case atStart => exact ⟨z, by first | rfl | go_num, Nat.le_refl _, HQ2.out, HR2.out⟩
      case round =>
        obtain ⟨j2, rfl, hjj, hq3, hR3⟩ := hrel
        have HR3 := Lib.hid hR3; have HQ3 := Lib.hid hq3
        clear hR3 hq3
        by_cases hle : i2 ≤ j2
        · obtain ⟨t, rfl⟩ : ∃ t, j2 = t + 1 := ⟨j2 - 1, by omega⟩
          have g1 : decide (i2 ≤ t + 1) = true := decide_eq_true hle
          have g2 : decide ((i2 : Int) ≤ (t : Int) + 1) = true := decide_eq_true (by omega)
          have c1 := HR3.out.cell (i := t + 1) (by have := HK.out; omega)
          have c2 := KX.out _ HR3.out
          have hin : (t : Int) + 1 < (n : Int) := by omega
          have q3 : ((t : Int) + 1).toNat = t + 1 := by omega
          have q4 : IntKind.i64.wrap ((t : Int) + 1) = (t : Int) + 1 := by rw [show ((t : Int) + 1) = ((t + 1 : Nat) : Int) by omega]; exact wrap_nat64 (by omega)
          have q5 := wrap_nat64 (k := t) (by omega)
          obtain ⟨v1, hv⟩ : ∃ v1, dk[t + 1]! = v1 := ⟨_, rfl⟩
          rw [hv] at c1
          have HV := Lib.hid hv
          clear hv
          by_cases hpv : v1 < p
          · have HLT := Lib.hid (show decide (v1 < p) = true from decide_eq_true hpv)
            have HPV := Lib.hid (show LtP p v1 from hpv)
            clear hpv
            go_wp2_with fail
            go_quiet ((go_at_call 137; exact Calls.quiet_of_same (lessq_u64 _ _ _)))
            rw [HLT.out]
            go_wp2_with fail
            go_meet
            exact ⟨t + 1, by go_num, hjj, HQ3.out, fun _ => by rw [HV.out]; exact HPV.out, HR3.out.drewN _⟩
          · have HLT := Lib.hid (show decide (v1 < p) = false from decide_eq_false hpv)
            have HQ4 := Lib.hid (HQ3.out.down hle (by rw [HV.out]; exact hpv))
            clear hpv
            go_wp2_with fail
            go_quiet ((go_at_call 137; exact Calls.quiet_of_same (lessq_u64 _ _ _)))
            rw [HLT.out]
            go_wp2_with fail
            go_roundw
            case rel => exact ⟨t, by go_num, by omega, HQ4.out, HR3.out.drewN _⟩
            case measure => simp [intOf]
        · have g1 : decide (i2 ≤ j2) = false := decide_eq_false hle
          have g2 : decide ((i2 : Int) ≤ (j2 : Int)) = false := decide_eq_false (by omega)
          go_wp2_with fail
          go_quiet (fail)
          go_wp2_with fail
          go_meet
          exact ⟨j2, rfl, hjj, HQ3.out, fun h => absurd h hle, HR3.out.drewN _⟩
    case rest =>
      obtain ⟨j2, rfl, hjj, hq3, hjv, hR3⟩ := hcut
      have HR3 := Lib.hid hR3; have HQ3 := Lib.hid hq3; have HJV := Lib.hid hjv
      have hij3 := hq3.ij
      clear hR3 hq3 hjv
      by_cases hgt : j2 < i2
      · have hgz : (j2 : Int) < (i2 : Int) := by omega
        have HE := Lib.hid (part_end HQ3.out hgt)
        have hja : x ≤ j2 := HE.out.1
        have k1 := HR3.out.cell (i := j2) (by have := HK.out; omega)
        have k2 := KX.out _ HR3.out
        have fz := HR3.out.free
        have zb := HR3.out.lt
        have HSW := HR3.out.swap (i := j2) (j := x) (by have := HK.out; omega) (by have := HK.out; omega)
        rw [HQ3.out.piv] at HSW
        obtain ⟨z2, hz2⟩ := HR3.out.second (i := j2) (j := x) (by have := HK.out; omega) (by have := HK.out; omega) p
        have HSW := Lib.hid HSW
        have hin : j2 < n := by omega
        have hxn : x < n := by omega
        generalize hu : dk[j2]! = u at *
        clear hu
        go_upto_region 8 with fail
        go_region
        have HS4 := Lib.hid HSW.out.drew
        clear k1 k2 fz zb hz2
        go_wp2_with fail
        go_ret2
        exact ⟨j2, true, swp dk j2 x, rfl, HE.out.1, HE.out.2.1, HE.out.2.2.1, HE.out.2.2.2.1, HE.out.2.2.2.2, HS4.out⟩
      · have hgz : ¬ (j2 : Int) < (i2 : Int) := by omega
        obtain ⟨t, rfl⟩ : ∃ t, j2 = t + 1 := ⟨j2 - 1, by omega⟩
        have hne : i2 ≠ t + 1 := fun e => HIV.out (by omega) (by rw [e]; exact HJV.out (by omega))
        have k1 := HR3.out.cell (i := i2) (by have := HK.out; omega)
        have k2 := HR3.out.cell (i := t + 1) (by have := HK.out; omega)
        have fz := HR3.out.free
        have zb := HR3.out.lt
        have HSW := Lib.hid (HR3.out.swap (i := i2) (j := t + 1) (by have := HK.out; omega) (by have := HK.out; omega))
        have HQ4 := Lib.hid (HQ3.out.swap (by omega) (HIV.out (by omega)) (HJV.out (by omega)))
        have hin : i2 < n := by omega
        have hjn : (t : Int) + 1 < (n : Int) := by omega
        have q3 : ((t : Int) + 1).toNat = t + 1 := by omega
        have q4 : IntKind.i64.wrap ((t : Int) + 1) = (t : Int) + 1 := by rw [show ((t : Int) + 1) = ((t + 1 : Nat) : Int) by omega]; exact wrap_nat64 (by omega)
        have q5 := wrap_nat64 (k := t) (by omega)
        generalize hu : dk[i2]! = u2 at *
        generalize hv : dk[t + 1]! = v2 at *
        clear hu hv
        go_upto_region 10 with fail
        go_region
        have HS4 := Lib.hid HSW.out.drew
        clear k1 k2 fz zb
        clear HR3 HR2 HQ3 HQ2 HQ HR HIV HJV HSW KX HK
        generalize swp dk i2 (t + 1) = d3 at HQ4 HS4
        generalize (((_ : World).setCell ⟨b, i2, none⟩ (.int .u64 v2)).setCell ⟨b, t + 1, none⟩ (.int .u64 u2)).drew = w4 at HS4 ⊢
        clear hne hgt hgz hin hjn q3 q4 q5
        have hij4 := HQ4.out.ij; have hai4 := HQ4.out.ai; have hjb4 := HQ4.out.jb
        clear hij2 hai2 hij3
        clear hij4 hai4 hjb4
        go_wp2_with fail
        go_loopw [10, 11] (fun s10 s11 wr => ∃ (i j : Nat) (dk : Array Int), s10 = .int .i64 i ∧ s11 = .int .i64 j ∧ QInv (LtP p) d x (z + 1) p i j dk ∧ RowI .u64 T C0 w0 b dk wr) (fun i j _ => (intOf j).toNat + 1 - (intOf i).toNat)
        case atStart => exact ⟨i2 + 1, t, d3, by go_num, rfl, HQ4.out, HS4.out⟩
        case round =>
          obtain ⟨i, j, dk, rfl, rfl, hq, hR⟩ := hrel
          have HR := Lib.hid hR; have HQ := Lib.hid hq
          have HK := Lib.hid (show dk.size = n by rw [hq.perm.1]; exact HN.out)
          have KX : Hid (∀ wx, RowI .u64 T C0 w0 b dk wx → wx.cell? ⟨b, x, none⟩ = some (.int .u64 p)) := fun wx hx => by rw [hx.cell (i := x) (by have := HK.out; omega), HQ.out.piv]
          have hij0 := hq.ij; have hjb0 := hq.jb; have hai0 := hq.ai
          clear hR hq
          go_upto_block 6 with fail
          go_cut [10] from 99 to 114 (fun s1 wx => ∃ i2 : Nat, s1 = .int .i64 i2 ∧ i ≤ i2 ∧ QInv (LtP p) d x (z + 1) p i2 j dk ∧ (i2 ≤ j → ¬ LtP p dk[i2]!) ∧ RowI .u64 T C0 w0 b dk wx)
          case first =>
            go_wp2_with fail
            go_loopw [10] (fun s1 wq => ∃ i2 : Nat, s1 = .int .i64 i2 ∧ i ≤ i2 ∧ QInv (LtP p) d x (z + 1) p i2 j dk ∧ RowI .u64 T C0 w0 b dk wq) (fun i _ => j + 1 - (intOf i).toNat)
            case atStart => exact ⟨i, by first | rfl | go_num, Nat.le_refl _, HQ.out, HR.out⟩
            case round =>
              obtain ⟨i2, rfl, hii, hq2, hR2⟩ := hrel
              have HR2 := Lib.hid hR2; have HQ2 := Lib.hid hq2
              clear hR2 hq2
              by_cases hle : i2 ≤ j
              · have g1 : decide (i2 ≤ j) = true := decide_eq_true hle
                have g2 : decide ((i2 : Int) ≤ (j : Int)) = true := decide_eq_true (by omega)
                have c1 := HR2.out.cell (i := i2) (by have := HK.out; omega)
                have c2 := KX.out _ HR2.out
                have hin : i2 < n := by omega
                obtain ⟨v1, hv⟩ : ∃ v1, dk[i2]! = v1 := ⟨_, rfl⟩
                rw [hv] at c1
                have HV := Lib.hid hv
                clear hv
                by_cases hpv : v1 < p
                · have HLT := Lib.hid (show decide (v1 < p) = true from decide_eq_true hpv)
                  have HQ3 := Lib.hid (HQ2.out.up hle (by rw [HV.out]; exact hpv))
                  clear hpv
                  go_wp2_with fail
                  go_quiet ((go_at_call 137; exact Calls.quiet_of_same (lessq_u64 _ _ _)))
                  rw [HLT.out]
                  go_wp2_with fail
                  go_roundw
                  case rel => exact ⟨i2 + 1, by go_num, by omega, HQ3.out, HR2.out.drewN _⟩
                  case measure => simp [intOf]; omega
                · have HLT := Lib.hid (show decide (v1 < p) = false from decide_eq_false hpv)
                  have HPV := Lib.hid (show ¬ LtP p v1 from hpv)
                  clear hpv
                  go_wp2_with fail
                  go_quiet ((go_at_call 137; exact Calls.quiet_of_same (lessq_u64 _ _ _)))
                  rw [HLT.out]
                  go_wp2_with fail
                  go_meet
                  exact ⟨i2, rfl, hii, HQ2.out, fun _ => by rw [HV.out]; exact HPV.out, HR2.out.drewN _⟩
              · have g1 : decide (i2 ≤ j) = false := decide_eq_false hle
                have g2 : decide ((i2 : Int) ≤ (j : Int)) = false := decide_eq_false (by omega)
                go_wp2_with fail
                go_quiet (fail)
                go_wp2_with fail
                go_meet
                exact ⟨i2, rfl, hii, HQ2.out, fun h => absurd h hle, HR2.out.drewN _⟩
          case rest =>
            obtain ⟨i2, rfl, hii, hq2, hiv, hR2⟩ := hcut
            have HR2 := Lib.hid hR2; have HQ2 := Lib.hid hq2; have HIV := Lib.hid (show i2 ≤ j → ¬ LtP p dk[i2]! from hiv)
            have hij2 := hq2.ij; have hai2 := hq2.ai
            clear hR2 hq2 hiv
            go_upto_block 8 with fail
            go_cut [11] from 115 to 131 (fun s1 wx => ∃ j2 : Nat, s1 = .int .i64 j2 ∧ j2 ≤ j ∧ QInv (LtP p) d x (z + 1) p i2 j2 dk ∧ (i2 ≤ j2 → LtP p dk[j2]!) ∧ RowI .u64 T C0 w0 b dk wx)
            case first =>
              go_wp2_with fail
              go_loopw [11] (fun s1 wq => ∃ j2 : Nat, s1 = .int .i64 j2 ∧ j2 ≤ j ∧ QInv (LtP p) d x (z + 1) p i2 j2 dk ∧ RowI .u64 T C0 w0 b dk wq) (fun j _ => (intOf j).toNat)
              case atStart => exact ⟨j, by first | rfl | go_num, Nat.le_refl _, HQ2.out, HR2.out⟩
              case round =>
                obtain ⟨j2, rfl, hjj, hq3, hR3⟩ := hrel
                have HR3 := Lib.hid hR3; have HQ3 := Lib.hid hq3
                clear hR3 hq3
                by_cases hle : i2 ≤ j2
                · obtain ⟨t, rfl⟩ : ∃ t, j2 = t + 1 := ⟨j2 - 1, by omega⟩
                  have g1 : decide (i2 ≤ t + 1) = true := decide_eq_true hle
                  have g2 : decide ((i2 : Int) ≤ (t : Int) + 1) = true := decide_eq_true (by omega)
                  have c1 := HR3.out.cell (i := t + 1) (by have := HK.out; omega)
                  have c2 := KX.out _ HR3.out
                  have hin : (t : Int) + 1 < (n : Int) := by omega
                  have q3 : ((t : Int) + 1).toNat = t + 1 := by omega
                  have q4 : IntKind.i64.wrap ((t : Int) + 1) = (t : Int) + 1 := by rw [show ((t : Int) + 1) = ((t + 1 : Nat) : Int) by omega]; exact wrap_nat64 (by omega)
                  have q5 := wrap_nat64 (k := t) (by omega)
                  obtain ⟨v1, hv⟩ : ∃ v1, dk[t + 1]! = v1 := ⟨_, rfl⟩
                  rw [hv] at c1
                  have HV := Lib.hid hv
                  clear hv
                  by_cases hpv : v1 < p
                  · have HLT := Lib.hid (show decide (v1 < p) = true from decide_eq_true hpv)
                    have HPV := Lib.hid (show LtP p v1 from hpv)
                    clear hpv
                    go_wp2_with fail
                    go_quiet ((go_at_call 137; exact Calls.quiet_of_same (lessq_u64 _ _ _)))
                    rw [HLT.out]
                    go_wp2_with fail
                    go_meet
                    exact ⟨t + 1, by go_num, hjj, HQ3.out, fun _ => by rw [HV.out]; exact HPV.out, HR3.out.drewN _⟩
                  · have HLT := Lib.hid (show decide (v1 < p) = false from decide_eq_false hpv)
                    have HQ4 := Lib.hid (HQ3.out.down hle (by rw [HV.out]; exact hpv))
                    clear hpv
                    go_wp2_with fail
                    go_quiet ((go_at_call 137; exact Calls.quiet_of_same (lessq_u64 _ _ _)))
                    rw [HLT.out]
                    go_wp2_with fail
                    go_roundw
                    case rel => exact ⟨t, by go_num, by omega, HQ4.out, HR3.out.drewN _⟩
                    case measure => simp [intOf]
                · have g1 : decide (i2 ≤ j2) = false := decide_eq_false hle
                  have g2 : decide ((i2 : Int) ≤ (j2 : Int)) = false := decide_eq_false (by omega)
                  go_wp2_with fail
                  go_quiet (fail)
                  go_wp2_with fail
                  go_meet
                  exact ⟨j2, rfl, hjj, HQ3.out, fun h => absurd h hle, HR3.out.drewN _⟩
            case rest =>
              obtain ⟨j2, rfl, hjj, hq3, hjv, hR3⟩ := hcut
              have HR3 := Lib.hid hR3; have HQ3 := Lib.hid hq3; have HJV := Lib.hid hjv
              have hij3 := hq3.ij
              clear hR3 hq3 hjv
              by_cases hgt : j2 < i2
              · have hgz : (j2 : Int) < (i2 : Int) := by omega
                have HE := Lib.hid (part_end HQ3.out hgt)
                have hja : x ≤ j2 := HE.out.1
                have k1 := HR3.out.cell (i := j2) (by have := HK.out; omega)
                have k2 := KX.out _ HR3.out
                have fz := HR3.out.free
                have zb := HR3.out.lt
                have HSW := HR3.out.swap (i := j2) (j := x) (by have := HK.out; omega) (by have := HK.out; omega)
                rw [HQ3.out.piv] at HSW
                obtain ⟨z2, hz2⟩ := HR3.out.second (i := j2) (j := x) (by have := HK.out; omega) (by have := HK.out; omega) p
                have HSW := Lib.hid HSW
                have hin : j2 < n := by omega
                have hxn : x < n := by omega
                generalize hu : dk[j2]! = u at *
                clear hu
                go_upto_region 21 with fail
                go_region
                have HS4 := Lib.hid HSW.out.drew
                clear k1 k2 fz zb hz2
                go_wp2_with fail
                go_ret2
                exact ⟨j2, false, swp dk j2 x, rfl, HE.out.1, HE.out.2.1, HE.out.2.2.1, HE.out.2.2.2.1, HE.out.2.2.2.2, HS4.out⟩
              · have hgz : ¬ (j2 : Int) < (i2 : Int) := by omega
                obtain ⟨t, rfl⟩ : ∃ t, j2 = t + 1 := ⟨j2 - 1, by omega⟩
                have hne : i2 ≠ t + 1 := fun e => HIV.out (by omega) (by rw [e]; exact HJV.out (by omega))
                have k1 := HR3.out.cell (i := i2) (by have := HK.out; omega)
                have k2 := HR3.out.cell (i := t + 1) (by have := HK.out; omega)
                have fz := HR3.out.free
                have zb := HR3.out.lt
                have HSW := Lib.hid (HR3.out.swap (i := i2) (j := t + 1) (by have := HK.out; omega) (by have := HK.out; omega))
                have HQ4 := Lib.hid (HQ3.out.swap (by omega) (HIV.out (by omega)) (HJV.out (by omega)))
                have hin : i2 < n := by omega
                have hjn : (t : Int) + 1 < (n : Int) := by omega
                have q3 : ((t : Int) + 1).toNat = t + 1 := by omega
                have q4 : IntKind.i64.wrap ((t : Int) + 1) = (t : Int) + 1 := by rw [show ((t : Int) + 1) = ((t + 1 : Nat) : Int) by omega]; exact wrap_nat64 (by omega)
                have q5 := wrap_nat64 (k := t) (by omega)
                generalize hu : dk[i2]! = u2 at *
                generalize hv : dk[t + 1]! = v2 at *
                clear hu hv
                go_upto_region 18 with fail
                go_region
                have HS4 := Lib.hid HSW.out.drew
                clear k1 k2 fz zb
                go_wp2_with fail
                go_roundw
                case rel => exact ⟨i2 + 1, t, _, by go_num, by go_num, HQ4.out, HS4.out⟩
                case measure => simp [intOf]; omega
end Go.Proofs.Ytpkeddiaoacfeaa
