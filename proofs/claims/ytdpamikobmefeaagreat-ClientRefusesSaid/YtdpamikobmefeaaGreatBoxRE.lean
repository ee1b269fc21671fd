/- box.Right: whether a box may be. Conditions: the ranges read so. | box.Empty: whether a range of a box has no values. Conditions: the ranges read so. -/
import Derived.Test.YtdpamikobmefeaaGreatOpen18
import Derived.LoopN
namespace Go.Proofs.YtdpamikobmefeaaGreat
open Go.RowKit Go.ChangeShapes
set_option maxRecDepth 100000
set_option linter.unusedVariables false
set_option linter.unusedSimpArgs false

def kindF (k : Int) : Bool := decide (1 ≤ k) && decide (k ≤ 3)
def rightB (attrs : Int) (bl : List Rng) : Bool := decide (1 ≤ attrs) && decide (attrs ≤ 8) && decide ((bl.length : Int) = attrs) && bl.all fun r => kindF r.kind
theorem kind_any (k : Int) (w : World) : Calls Tryz.prog 63 #[.int .i64 k] w fun e w' => e = .returned (.bool (kindF k)) ∧ w = w' := by
  by_cases h1 : 1 ≤ k
  · have E : kindF k = decide (k ≤ 3) := by unfold kindF; simp [h1]
    go_enter Tryz.func63, Tryz.ntmps63
    go_wp2
    go_ret
    exact ⟨by first | rfl | (rw [E]; rfl) | rw [E], rfl⟩
  · have E : kindF k = false := by unfold kindF; simp [h1]
    go_enter Tryz.func63, Tryz.ntmps63
    go_wp2
    go_ret
    exact ⟨by first | rfl | (rw [E]; rfl) | rw [E], rfl⟩
theorem right1_any (k lo hi : Int) (w : World) : Calls Tryz.prog 62 #[.agg #[.int .i64 k, .int .u32 lo, .int .u32 hi]] w fun e w' => e = .returned (.bool (!kindF k)) ∧ Below w.heap.size w w' := by
  obtain ⟨b, hb⟩ : ∃ b, kindF k = b := ⟨_, rfl⟩
  have HK := Lib.hid (kind_any k)
  rw [hb] at HK ⊢
  clear hb
  go_enter Tryz.func62, Tryz.ntmps62
  go_wp2_with (go_at_call 63; go_loud ((with_reducible refine (HK.out _).mono ?_); rintro e w' ⟨rfl, rfl⟩))
  go_ret
  exact ⟨by first | rfl | simp, (by repeat (first | exact Below.refl _ _ | assumption | apply Below.drew | apply belowN | (refine Below.alloc ?_ (by first | exact Nat.le_refl _ | (simp; done) | (simp; omega)) _) | (refine Below.setCell ?_ (by first | exact Nat.le_refl _ | (simp; done) | (simp; omega)) _)))⟩
set_option maxHeartbeats 1000000 in
theorem index_rng {D : Nat → Prop} {A : Option Addr} {n c : Nat} {l : List Rng} (w : World) (h : RngsAt w D A n c l) (hD : ∀ b, D b → b < w.heap.size) :
    Calls Tryz.prog 94 #[.slice A n c, .func (.func 62) #[] #[]] w fun e w' => ∃ k : Int, e = .returned (.int .i64 k) ∧ Below w.heap.size w w' ∧ decide (0 ≤ k) = !(l.all fun r => kindF r.kind) := by
  obtain ⟨hn, hnc, hcm, _, _, _, hcell⟩ := h
  have HN := Lib.hid hn; have HC := Lib.hid hcell; have HD := Lib.hid hD
  clear hn hcell hD
  go_enter Tryz.func94, Tryz.ntmps94
  go_wp2
  go_loopw [8] (fun s8 wr => ∃ k : Nat, k ≤ n ∧ s8 = .int .i64 k ∧ Below w.heap.size w wr ∧ ∀ (j : Nat) r, j < k → l[j]? = some r → kindF r.kind = true) (fun s _ => n - (intOf s).toNat)
  case atStart => exact ⟨0, Nat.zero_le _, rfl, Below.refl _ _, fun j r hj => by omega⟩
  case round =>
    obtain ⟨k, hk, rfl, hB, hall⟩ := hrel
    have HB := Lib.hid hB; have HA := Lib.hid hall
    clear hB hall
    by_cases hlt : k < n
    · obtain ⟨r, hr⟩ : ∃ r, l[k]? = some r := ⟨_, List.getElem?_eq_getElem (by rw [HN.out]; exact hlt)⟩
      obtain ⟨bb, off, rfl, hbb, hc⟩ := HC.out (by omega)
      have hcs : ∀ t u, (encR r)[t]? = some u → wr.cell? ⟨bb, off + k * 3 + t, none⟩ = some u := fun t u hu => by
        rw [World.cell?_of_block (w := w) (a := ⟨bb, off + k * 3 + t, none⟩) (HB.out.block bb (HD.out bb hbb))]; exact hc k r hr t u hu
      have d0 := hcs 0 _ rfl; have d1 := hcs 1 _ rfl; have d2 := hcs 2 _ rfl
      simp only [Nat.add_zero] at d0
      have HR := Lib.hid hr
      clear hc hcs hbb hr
      obtain ⟨rk, rl, rh⟩ := r
      dsimp only at *
      obtain ⟨bo, hbo⟩ : ∃ bo, kindF rk = bo := ⟨_, rfl⟩
      have H1 := Lib.hid (right1_any rk rl rh)
      rw [hbo] at H1
      have HBO := Lib.hid hbo
      clear hbo
      cases bo
      · have HF : Hid (decide (0 ≤ (k : Int)) = !(l.all fun r => kindF r.kind)) := by
          have : (l.all fun r => kindF r.kind) = false := by
            rw [List.all_eq_false]
            exact ⟨_, List.mem_of_getElem? HR.out, by simp [HBO.out]⟩
          show decide (0 ≤ (k : Int)) = !(l.all fun r => kindF r.kind)
          rw [this]; simp
        go_wp2_with (go_at_call 62; go_loud ((with_reducible refine (H1.out _).mono ?_); rintro e w2 ⟨rfl, hb2⟩; have HB2 := Lib.hid (below_from HB.out hb2 HB.out.size); clear hb2))
        go_ret
        exact ⟨k, rfl, HB2.out, HF.out⟩
      · go_wp2_with (go_at_call 62; go_loud ((with_reducible refine (H1.out _).mono ?_); rintro e w2 ⟨rfl, hb2⟩; have HB2 := Lib.hid (below_from HB.out hb2 HB.out.size); clear hb2))
        go_roundw
        case rel => exact ⟨k + 1, by omega, by go_num, HB2.out, fun j y hj hy => by
          by_cases hjk : j < k
          · exact HA.out j y hjk hy
          · obtain rfl : j = k := by omega
            rw [HR.out] at hy; injection hy with hy; rw [← hy]; exact HBO.out⟩
        case measure => simp [intOf]; omega
    · have HF : Hid (decide (0 ≤ (-1 : Int)) = !(l.all fun r => kindF r.kind)) := by
        have : (l.all fun r => kindF r.kind) = true := by
          rw [List.all_eq_true]
          intro r hr
          obtain ⟨j, hj⟩ := List.mem_iff_getElem?.1 hr
          exact HA.out j r (by have := (List.getElem?_eq_some_iff.1 hj).1; rw [HN.out] at this; omega) hj
        show decide (0 ≤ (-1 : Int)) = !(l.all fun r => kindF r.kind)
        rw [this]; rfl
      go_wp2
      go_ret
      exact ⟨-1, rfl, HB.out, HF.out⟩
theorem contains_rng {D : Nat → Prop} {A : Option Addr} {n c : Nat} {l : List Rng} (w : World) (h : RngsAt w D A n c l) (hD : ∀ b, D b → b < w.heap.size) :
    Calls Tryz.prog 61 #[.slice A n c, .func (.func 62) #[] #[]] w fun e w' => e = .returned (.bool (!(l.all fun r => kindF r.kind))) ∧ Below w.heap.size w w' := by
  have HI := Lib.hid (index_rng w h hD)
  clear h hD
  go_enter Tryz.func61, Tryz.ntmps61
  go_wp2_with (go_at_call 94; go_loud (refine HI.out.mono ?_; rintro e w2 ⟨k, rfl, hb, hk⟩; have HK := Lib.hid hk; have HB := Lib.hid hb; clear hk hb))
  go_ret
  exact ⟨(by first | (rw [HK.out]; done) | (rw [HK.out]; rfl)), HB.out⟩
theorem boxright_any {D : Nat → Prop} {A : Option Addr} {n c : Nat} {l : List Rng} (attrs : Int) (w : World) (h : RngsAt w D A n c l) (hD : ∀ b, D b → b < w.heap.size) :
    Calls Tryz.prog 29 #[.int .i64 attrs, .slice A n c] w fun e w' => e = .returned (.bool (rightB attrs l)) ∧ Below w.heap.size w w' := by
  have HI := Lib.hid (contains_rng w h hD)
  have HN := Lib.hid h.1
  clear h hD
  by_cases h1 : 1 ≤ attrs
  · by_cases h2 : attrs ≤ 8
    · by_cases h3 : (n : Int) = attrs
      · have HE : Hid (rightB attrs l = (l.all fun r => kindF r.kind)) := by show rightB attrs l = _; unfold rightB; rw [HN.out]; simp [h1, h2, h3]
        have h3' : ((n : Int) == attrs) = true := by rw [beq_iff_eq]; exact h3
        obtain ⟨al, hal⟩ : ∃ al, (l.all fun r => kindF r.kind) = al := ⟨_, rfl⟩
        rw [hal] at HI HE
        clear hal h3
        go_enter Tryz.func29, Tryz.ntmps29
        go_wp2_with (go_at_call 61; go_loud ((with_reducible refine HI.out.mono ?_); rintro e w2 ⟨rfl, hb⟩; have HB := Lib.hid hb; clear hb))
        go_ret
        exact ⟨by rw [HE.out]; first | rfl | simp, HB.out⟩
      · have HE : Hid (rightB attrs l = false) := by show rightB attrs l = _; unfold rightB; rw [HN.out]; simp [h3]
        have h3' : ((n : Int) == attrs) = false := by rw [beq_eq_false_iff_ne]; exact h3
        clear h3
        go_enter Tryz.func29, Tryz.ntmps29
        go_wp2
        go_ret
        exact ⟨(by first | (rw [HE.out]; done) | (rw [HE.out]; rfl)), Below.refl _ _⟩
    · have HE : Hid (rightB attrs l = false) := by show rightB attrs l = _; unfold rightB; simp [h2]
      go_enter Tryz.func29, Tryz.ntmps29
      go_wp2
      go_ret
      exact ⟨(by first | (rw [HE.out]; done) | (rw [HE.out]; rfl)), Below.refl _ _⟩
  · have HE : Hid (rightB attrs l = false) := by show rightB attrs l = _; unfold rightB; simp [h1]
    go_enter Tryz.func29, Tryz.ntmps29
    go_wp2
    go_ret
    exact ⟨(by first | (rw [HE.out]; done) | (rw [HE.out]; rfl)), Below.refl _ _⟩
end Go.Proofs.YtdpamikobmefeaaGreat

namespace Go.Proofs.YtdpamikobmefeaaGreat
open Go.RowKit Go.ChangeShapes
set_option maxRecDepth 100000
set_option linter.unusedVariables false
set_option linter.unusedSimpArgs false

def oneTwo (k : Int) : Bool := k == 1 || k == 2
def emptyB (bl : List Rng) : Bool := !(bl.all fun r => oneTwo r.kind)
theorem empty1_any (k lo hi : Int) (w : World) : Calls Tryz.prog 67 #[.agg #[.int .i64 k, .int .u32 lo, .int .u32 hi]] w fun e w' => e = .returned (.bool (!oneTwo k)) ∧ Below w.heap.size w w' := by
  by_cases h1 : k = 1
  · subst h1
    go_enter Tryz.func67, Tryz.ntmps67
    go_wp2
    go_ret
    exact ⟨rfl, (by repeat (first | exact Below.refl _ _ | assumption | apply Below.drew | apply belowN | (refine Below.alloc ?_ (by first | exact Nat.le_refl _ | (simp; done) | (simp; omega)) _) | (refine Below.setCell ?_ (by first | exact Nat.le_refl _ | (simp; done) | (simp; omega)) _)))⟩
  · have e1 : (k == 1) = false := by simpa using h1
    have n1 : (k != 1) = true := by simp [h1]
    by_cases h2 : k = 2
    · subst h2
      go_enter Tryz.func67, Tryz.ntmps67
      go_wp2
      go_ret
      exact ⟨rfl, (by repeat (first | exact Below.refl _ _ | assumption | apply Below.drew | apply belowN | (refine Below.alloc ?_ (by first | exact Nat.le_refl _ | (simp; done) | (simp; omega)) _) | (refine Below.setCell ?_ (by first | exact Nat.le_refl _ | (simp; done) | (simp; omega)) _)))⟩
    · have e2 : (k == 2) = false := by simpa using h2
      have n2 : (k != 2) = true := by simp [h2]
      have HE : Hid (oneTwo k = false) := by show oneTwo k = false; unfold oneTwo; rw [e1, e2]; rfl
      go_enter Tryz.func67, Tryz.ntmps67
      go_wp2
      go_ret
      exact ⟨by rw [HE.out]; rfl, (by repeat (first | exact Below.refl _ _ | assumption | apply Below.drew | apply belowN | (refine Below.alloc ?_ (by first | exact Nat.le_refl _ | (simp; done) | (simp; omega)) _) | (refine Below.setCell ?_ (by first | exact Nat.le_refl _ | (simp; done) | (simp; omega)) _)))⟩
set_option maxHeartbeats 1000000 in
theorem index_rngE {D : Nat → Prop} {A : Option Addr} {n c : Nat} {l : List Rng} (w : World) (h : RngsAt w D A n c l) (hD : ∀ b, D b → b < w.heap.size) :
    Calls Tryz.prog 94 #[.slice A n c, .func (.func 67) #[] #[]] w fun e w' => ∃ k : Int, e = .returned (.int .i64 k) ∧ Below w.heap.size w w' ∧ decide (0 ≤ k) = !(l.all fun r => oneTwo r.kind) := by
  obtain ⟨hn, hnc, hcm, _, _, _, hcell⟩ := h
  have HN := Lib.hid hn; have HC := Lib.hid hcell; have HD := Lib.hid hD
  clear hn hcell hD
  go_enter Tryz.func94, Tryz.ntmps94
  go_wp2
  go_loopw [8] (fun s8 wr => ∃ k : Nat, k ≤ n ∧ s8 = .int .i64 k ∧ Below w.heap.size w wr ∧ ∀ (j : Nat) r, j < k → l[j]? = some r → oneTwo r.kind = true) (fun s _ => n - (intOf s).toNat)
  case atStart => exact ⟨0, Nat.zero_le _, rfl, Below.refl _ _, fun j r hj => by omega⟩
  case round =>
    obtain ⟨k, hk, rfl, hB, hall⟩ := hrel
    have HB := Lib.hid hB; have HA := Lib.hid hall
    clear hB hall
    by_cases hlt : k < n
    · obtain ⟨r, hr⟩ : ∃ r, l[k]? = some r := ⟨_, List.getElem?_eq_getElem (by rw [HN.out]; exact hlt)⟩
      obtain ⟨bb, off, rfl, hbb, hc⟩ := HC.out (by omega)
      have hcs : ∀ t u, (encR r)[t]? = some u → wr.cell? ⟨bb, off + k * 3 + t, none⟩ = some u := fun t u hu => by
        rw [World.cell?_of_block (w := w) (a := ⟨bb, off + k * 3 + t, none⟩) (HB.out.block bb (HD.out bb hbb))]; exact hc k r hr t u hu
      have d0 := hcs 0 _ rfl; have d1 := hcs 1 _ rfl; have d2 := hcs 2 _ rfl
      simp only [Nat.add_zero] at d0
      have HR := Lib.hid hr
      clear hc hcs hbb hr
      obtain ⟨rk, rl, rh⟩ := r
      dsimp only at *
      obtain ⟨bo, hbo⟩ : ∃ bo, oneTwo rk = bo := ⟨_, rfl⟩
      have H1 := Lib.hid (empty1_any rk rl rh)
      rw [hbo] at H1
      have HBO := Lib.hid hbo
      clear hbo
      cases bo
      · have HF : Hid (decide (0 ≤ (k : Int)) = !(l.all fun r => oneTwo r.kind)) := by
          have : (l.all fun r => oneTwo r.kind) = false := by
            rw [List.all_eq_false]
            exact ⟨_, List.mem_of_getElem? HR.out, by simp [HBO.out]⟩
          show decide (0 ≤ (k : Int)) = !(l.all fun r => oneTwo r.kind)
          rw [this]; simp
        go_wp2_with (go_at_call 67; go_loud ((with_reducible refine (H1.out _).mono ?_); rintro e w2 ⟨rfl, hb2⟩; have HB2 := Lib.hid (below_from HB.out hb2 HB.out.size); clear hb2))
        go_ret
        exact ⟨k, rfl, HB2.out, HF.out⟩
      · go_wp2_with (go_at_call 67; go_loud ((with_reducible refine (H1.out _).mono ?_); rintro e w2 ⟨rfl, hb2⟩; have HB2 := Lib.hid (below_from HB.out hb2 HB.out.size); clear hb2))
        go_roundw
        case rel => exact ⟨k + 1, by omega, by go_num, HB2.out, fun j y hj hy => by
          by_cases hjk : j < k
          · exact HA.out j y hjk hy
          · obtain rfl : j = k := by omega
            rw [HR.out] at hy; injection hy with hy; rw [← hy]; exact HBO.out⟩
        case measure => simp [intOf]; omega
    · have HF : Hid (decide (0 ≤ (-1 : Int)) = !(l.all fun r => oneTwo r.kind)) := by
        have : (l.all fun r => oneTwo r.kind) = true := by
          rw [List.all_eq_true]
          intro r hr
          obtain ⟨j, hj⟩ := List.mem_iff_getElem?.1 hr
          exact HA.out j r (by have := (List.getElem?_eq_some_iff.1 hj).1; rw [HN.out] at this; omega) hj
        show decide (0 ≤ (-1 : Int)) = !(l.all fun r => oneTwo r.kind)
        rw [this]; rfl
      go_wp2
      go_ret
      exact ⟨-1, rfl, HB.out, HF.out⟩
theorem contains_rngE {D : Nat → Prop} {A : Option Addr} {n c : Nat} {l : List Rng} (w : World) (h : RngsAt w D A n c l) (hD : ∀ b, D b → b < w.heap.size) :
    Calls Tryz.prog 61 #[.slice A n c, .func (.func 67) #[] #[]] w fun e w' => e = .returned (.bool (!(l.all fun r => oneTwo r.kind))) ∧ Below w.heap.size w w' := by
  have HI := Lib.hid (index_rngE w h hD)
  clear h hD
  go_enter Tryz.func61, Tryz.ntmps61
  go_wp2_with (go_at_call 94; go_loud (refine HI.out.mono ?_; rintro e w2 ⟨k, rfl, hb, hk⟩; have HK := Lib.hid hk; have HB := Lib.hid hb; clear hk hb))
  go_ret
  exact ⟨(by first | (rw [HK.out]; done) | (rw [HK.out]; rfl)), HB.out⟩
theorem boxempty_any {D : Nat → Prop} {A : Option Addr} {n c : Nat} {l : List Rng} (w : World) (h : RngsAt w D A n c l) (hD : ∀ b, D b → b < w.heap.size) :
    Calls Tryz.prog 34 #[.slice A n c] w fun e w' => e = .returned (.bool (emptyB l)) ∧ Below w.heap.size w w' := by
  have HI := Lib.hid (contains_rngE w h hD)
  clear h hD
  go_enter Tryz.func34, Tryz.ntmps34
  go_wp2_with (go_at_call 61; go_loud (refine HI.out.mono ?_; rintro e w2 ⟨rfl, hb⟩; have HB := Lib.hid hb; clear hb))
  go_ret
  exact ⟨rfl, HB.out⟩
end Go.Proofs.YtdpamikobmefeaaGreat
