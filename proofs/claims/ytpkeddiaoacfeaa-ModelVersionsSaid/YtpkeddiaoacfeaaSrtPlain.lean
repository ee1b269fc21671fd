/- The quicksort's rounds, plainly. Conditions: none. -/
import Derived.Test.YtpkeddiaoacfeaaSrtPins
namespace Go.Proofs.Ytpkeddiaoacfeaa
open Go.Sort
set_option linter.unusedVariables false
set_option linter.unusedSimpArgs false

theorem sorted_iff {a b : Nat} {d : Array Int} : SortedIn ltInt a b d ↔ ∀ i j, a ≤ i → i < j → j < b → d[i]! ≤ d[j]! := by
  unfold SortedIn
  constructor
  · intro h i j h1 h2 h3
    have := h i j h1 h2 h3
    simp [ltInt] at this; omega
  · intro h i j h1 h2 h3
    have := h i j h1 h2 h3
    simp [ltInt]; omega
theorem below_iff {a b : Nat} {d : Array Int} : Go.Sort.Below ltInt a b d ↔ (a = 0 ∨ ∀ i, a ≤ i → i < b → d[a - 1]! ≤ d[i]!) := by
  unfold Go.Sort.Below
  constructor
  · rintro (h | h)
    · exact .inl h
    · exact .inr fun i h1 h2 => by
        have := h i h1 h2
        simp [ltInt] at this; omega
  · rintro (h | h)
    · exact .inl h
    · exact .inr fun i h1 h2 => by
        have := h i h1 h2
        simp [ltInt]; omega
/-- What is still to be sorted of a row: the places from a to b; it is sorted when these are. -/
structure PS (x y : Nat) (d0 : Array Int) (a b : Nat) (dk : Array Int) : Prop where
  xa : x ≤ a
  ab : a ≤ b
  yb : b ≤ y
  ysz : y ≤ d0.size
  perm : PermIn x y d0 dk
  bel : Go.Sort.Below ltInt a b dk
  fin : ∀ d', PermIn a b dk d' → SortedIn ltInt a b d' → SortedIn ltInt x y d'
section
variable {x y a b m : Nat} {d0 dk d1 d4 d5 : Array Int}
theorem PS.start (h : Go.Sort.Below ltInt x y d0) (hxy : x ≤ y) (hy : y ≤ d0.size) : PS x y d0 x y d0 := ⟨Nat.le_refl _, hxy, Nat.le_refl _, hy, permIn_refl _ _ _, h, fun _ _ h => h⟩
theorem PS.sz (h : PS x y d0 a b dk) : dk.size = d0.size := h.perm.1
theorem PS.bsz (h : PS x y d0 a b dk) : b ≤ dk.size := by have := h.yb; have := h.ysz; have := h.sz; omega
theorem PS.bel' (h : PS x y d0 a b dk) (hp : PermIn a b dk d1) : Go.Sort.Below ltInt a b d1 := by
  rcases h.bel with h0 | h0
  · exact .inl h0
  · by_cases ha : a = 0
    · exact .inl ha
    · refine .inr fun i h1 h2 => ?_
      rw [hp.2.1 (a - 1) (.inl (by omega))]
      exact permIn_all dk d1 a b (fun v => ltInt v dk[a - 1]! = false) h.bsz hp (fun i h1 h2 => h0 i h1 h2) i h1 h2
theorem PS.over (h : PS x y d0 a b dk) (hp : PermIn a b dk d1) : PermIn x y d0 d1 :=
  permIn_trans _ _ _ _ _ h.perm (permIn_mono dk d1 a b x y h.xa h.yb (by have := h.ysz; have := h.sz; omega) hp)
theorem PS.go (h : PS x y d0 a b dk) (hp : PermIn a b dk d1) : PS x y d0 a b d1 :=
  ⟨h.xa, h.ab, h.yb, h.ysz, h.over hp, h.bel' hp, fun d' h1 h2 => h.fin d' (permIn_trans _ _ _ _ _ hp h1) h2⟩
theorem PS.done (h : PS x y d0 a b dk) (hp : PermIn a b dk d1) (hs : SortedIn ltInt a b d1) : PermIn x y d0 d1 ∧ SortedIn ltInt x y d1 := ⟨h.over hp, h.fin d1 hp hs⟩
theorem ps_bel_left (h : PS x y d0 a b dk) (hm : m < b) (hp : PermIn a b dk d4) : Go.Sort.Below ltInt a m d4 := by
  rcases h.bel' hp with h0 | h0
  · exact .inl h0
  · exact .inr fun i h1 h2 => h0 i h1 (by omega)
theorem ps_bel_right (hr : ∀ t, m < t → t < b → ¬ LtP d4[m]! d4[t]!) : Go.Sort.Below ltInt (m + 1) b d4 := by
  refine .inr fun i h1 h2 => ?_
  have := hr i (by omega) h2
  simp only [Nat.add_sub_cancel, ltInt, decide_eq_false_iff_not]
  exact this
/-- The left side is sorted: the right one is left. -/
theorem PS.left (h : PS x y d0 a b dk) (h1 : a ≤ m) (h2 : m < b) (hp : PermIn a b dk d4) (hl : ∀ t, a ≤ t → t < m → LtP d4[m]! d4[t]!) (hr : ∀ t, m < t → t < b → ¬ LtP d4[m]! d4[t]!) (hp5 : PermIn a m d4 d5) (hs : SortedIn ltInt a m d5) : PS x y d0 (m + 1) b d5 := by
  have hb := h.bsz
  have z4 : d4.size = dk.size := hp.1
  have z5 : d5.size = d4.size := hp5.1
  have q45 : PermIn a b d4 d5 := permIn_mono d4 d5 a m a b (Nat.le_refl _) (by omega) (by omega) hp5
  have hk5 : PermIn a b dk d5 := permIn_trans _ _ _ _ _ hp q45
  have hm5 : d5[m]! = d4[m]! := hp5.2.1 m (.inr (Nat.le_refl _))
  have hl5 : ∀ t, a ≤ t → t < m → d5[t]! < d5[m]! := fun t q1 q2 => by
    rw [hm5]
    exact permIn_all d4 d5 a m (fun v => v < d4[m]!) (by omega) hp5 (fun i h1 h2 => hl i h1 h2) t q1 q2
  have hr5 : ∀ t, m < t → t < b → d5[m]! ≤ d5[t]! := fun t q1 q2 => by
    rw [hm5, hp5.2.1 t (.inr (by omega))]
    have := hr t q1 q2
    unfold LtP at this; omega
  refine ⟨by have := h.xa; omega, by omega, h.yb, h.ysz, h.over hk5, ?_, fun d' r1 r2 => ?_⟩
  · exact below_iff.2 (.inr fun i h1 h2 => hr5 i (by omega) h2)
  · have z' : d'.size = d5.size := r1.1
    refine h.fin d' (permIn_trans _ _ _ _ _ hk5 (permIn_mono d5 d' (m + 1) b a b (by omega) (Nat.le_refl _) (by omega) r1)) (sorted_iff.2 fun i j q1 q2 q3 => ?_)
    have hm' : d'[m]! = d5[m]! := r1.2.1 m (.inl (by omega))
    have hr' : ∀ t, m < t → t < b → d5[m]! ≤ d'[t]! := fun t s1 s2 => permIn_all d5 d' (m + 1) b (fun v => d5[m]! ≤ v) (by omega) r1 (fun i h1 h2 => hr5 i (by omega) h2) t (by omega) s2
    have hlo : ∀ t, t < m → d'[t]! = d5[t]! := fun t s1 => r1.2.1 t (.inl (by omega))
    rcases Nat.lt_trichotomy i m with hi | hi | hi
    · rw [hlo i hi]
      rcases Nat.lt_trichotomy j m with hj | hj | hj
      · rw [hlo j hj]; exact sorted_iff.1 hs i j q1 q2 hj
      · rw [hj, hm']; have := hl5 i q1 hi; omega
      · have := hl5 i q1 hi; have := hr' j hj q3; omega
    · rw [hi, hm']; exact hr' j (by omega) q3
    · exact sorted_iff.1 r2 i j (by omega) q2 q3
/-- The right side is sorted: the left one is left. -/
theorem PS.right (h : PS x y d0 a b dk) (h1 : a ≤ m) (h2 : m < b) (hp : PermIn a b dk d4) (hl : ∀ t, a ≤ t → t < m → LtP d4[m]! d4[t]!) (hr : ∀ t, m < t → t < b → ¬ LtP d4[m]! d4[t]!) (hp5 : PermIn (m + 1) b d4 d5) (hs : SortedIn ltInt (m + 1) b d5) : PS x y d0 a m d5 := by
  have hb := h.bsz
  have z4 : d4.size = dk.size := hp.1
  have z5 : d5.size = d4.size := hp5.1
  have q45 : PermIn a b d4 d5 := permIn_mono d4 d5 (m + 1) b a b (by omega) (Nat.le_refl _) (by omega) hp5
  have hk5 : PermIn a b dk d5 := permIn_trans _ _ _ _ _ hp q45
  have hm5 : d5[m]! = d4[m]! := hp5.2.1 m (.inl (by omega))
  have hl5 : ∀ t, a ≤ t → t < m → d5[t]! < d5[m]! := fun t q1 q2 => by
    rw [hm5, hp5.2.1 t (.inl (by omega))]
    exact hl t q1 q2
  have hr5 : ∀ t, m < t → t < b → d5[m]! ≤ d5[t]! := fun t q1 q2 => by
    rw [hm5]
    exact permIn_all d4 d5 (m + 1) b (fun v => d4[m]! ≤ v) (by omega) hp5 (fun i h1 h2 => by have := hr i (by omega) h2; unfold LtP at this; omega) t (by omega) q2
  refine ⟨h.xa, h1, by have := h.yb; omega, h.ysz, h.over hk5, ?_, fun d' r1 r2 => ?_⟩
  · rcases h.bel' hk5 with h0 | h0
    · exact .inl h0
    · exact .inr fun i h1 h2 => h0 i h1 (by omega)
  · have z' : d'.size = d5.size := r1.1
    refine h.fin d' (permIn_trans _ _ _ _ _ hk5 (permIn_mono d5 d' a m a b (Nat.le_refl _) (by omega) (by omega) r1)) (sorted_iff.2 fun i j q1 q2 q3 => ?_)
    have hm' : d'[m]! = d5[m]! := r1.2.1 m (.inr (Nat.le_refl _))
    have hl' : ∀ t, a ≤ t → t < m → d'[t]! < d5[m]! := fun t s1 s2 => permIn_all d5 d' a m (fun v => v < d5[m]!) (by omega) r1 (fun i h1 h2 => hl5 i h1 h2) t s1 s2
    have hhi : ∀ t, m < t → d'[t]! = d5[t]! := fun t s1 => r1.2.1 t (.inr (by omega))
    rcases Nat.lt_trichotomy i m with hi | hi | hi
    · rcases Nat.lt_trichotomy j m with hj | hj | hj
      · exact sorted_iff.1 r2 i j q1 q2 hj
      · rw [hj, hm']; have := hl' i q1 hi; omega
      · rw [hhi j hj]; have := hl' i q1 hi; have := hr5 j hj q3; omega
    · rw [hi, hm', hhi j (by omega)]; exact hr5 j (by omega) q3
    · rw [hhi i hi, hhi j (by omega)]; exact sorted_iff.1 hs i j (by omega) q2 q3
/-- What equals the pivot stands in front: the rest is left. -/
theorem PS.eq {p : Int} (h : PS x y d0 a b dk) (h0 : 0 < a) (h1 : a < m) (h2 : m ≤ b) (hle : ¬ dk[a - 1]! < p) (hp : PermIn a b dk d4) (hl : ∀ t, a ≤ t → t < m → LeP p d4[t]!) (hr : ∀ t, m ≤ t → t < b → p < d4[t]!) : PS x y d0 m b d4 := by
  have hb := h.bsz
  have z4 : d4.size = dk.size := hp.1
  have hbel := (below_iff.1 (h.bel' hp)).resolve_left (by omega)
  have ha4 : d4[a - 1]! = dk[a - 1]! := hp.2.1 _ (.inl (by omega))
  have heq : ∀ t, a ≤ t → t < m → d4[t]! = p := fun t q1 q2 => by
    have r1 := hbel t q1 (by omega)
    have r2 := hl t q1 q2
    unfold LeP at r2
    rw [ha4] at r1; omega
  refine ⟨by have := h.xa; omega, h2, h.yb, h.ysz, h.over hp, ?_, fun d' r1 r2 => ?_⟩
  · refine below_iff.2 (.inr fun i q1 q2 => ?_)
    rw [heq (m - 1) (by omega) (by omega)]
    have := hr i q1 q2; omega
  · have z' : d'.size = d4.size := r1.1
    refine h.fin d' (permIn_trans _ _ _ _ _ hp (permIn_mono d4 d' m b a b (by omega) (Nat.le_refl _) (by omega) r1)) (sorted_iff.2 fun i j q1 q2 q3 => ?_)
    have hlo : ∀ t, a ≤ t → t < m → d'[t]! = p := fun t s1 s2 => by rw [r1.2.1 t (.inl s2)]; exact heq t s1 s2
    have hr' : ∀ t, m ≤ t → t < b → p < d'[t]! := fun t s1 s2 => permIn_all d4 d' m b (fun v => p < v) (by omega) r1 (fun i h1 h2 => hr i h1 h2) t s1 s2
    rcases Nat.lt_or_ge i m with hi | hi
    · rw [hlo i q1 hi]
      rcases Nat.lt_or_ge j m with hj | hj
      · rw [hlo j (by omega) hj]; omega
      · have := hr' j hj q3; omega
    · exact sorted_iff.1 r2 i j hi q2 q3
end
end Go.Proofs.Ytpkeddiaoacfeaa
