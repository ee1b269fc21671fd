/- Loads, allocations and stores whose order is drawn ('a, b := e, e'): a rule by an invariant over what is done already. Conditions: closed facts on the region. -/
import Derived.Test.YtdpamikobmefeaaGreatBase
import Derived.Orders
import Derived.StillTail
set_option linter.unusedVariables false
namespace Go.Proofs.YtdpamikobmefeaaGreat
open Go.RowKit

section
variable {P : Program} {ops : Array Oper} {Q : Exit → Act → World → Prop}

def openCount (listed : Array Bool) : Nat := listed.toList.countP (fun b => !b)

theorem openCount_set {listed : Array Bool} {i : Nat} (hi : listed.getD i true = false) : openCount (listed.setIfInBounds i true) + 1 = openCount listed := by
  have hlt : i < listed.size := by
    rcases Nat.lt_or_ge i listed.size with h | h
    · exact h
    · simp [Array.getElem?_eq_none h] at hi
  have hf : listed.toList[i]'(by simpa using hlt) = false := by
    simp [hlt] at hi; simpa using hi
  unfold openCount
  rw [Array.toList_setIfInBounds, List.countP_set (h := by simpa using hlt), hf]
  have : 0 < listed.toList.countP (fun b => !b) := List.countP_pos_iff.2 ⟨false, List.mem_of_getElem hf, rfl⟩
  generalize listed.toList.countP (fun b => !b) = m at *
  simp; omega

theorem openCount_pos {listed : Array Bool} {i : Nat} (hi : listed.getD i true = false) : 0 < openCount listed := by
  have := openCount_set hi; omega

theorem ready_nil_all (hord : ∀ (j : Nat) (o : Oper), ops[j]? = some o → ∀ e ∈ o.after, Region.binds .any e = true → e.on < j) {listed : Array Bool} (hs : listed.size = ops.size) (h : Region.ready .any ops listed = []) :
    ∀ j, j < ops.size → listed.getD j false = true := by
  intro j
  induction j using Nat.strongRecOn with
  | _ j ih =>
    intro hj
    cases hl : listed.getD j false with
    | true => rfl
    | false =>
      exfalso
      have hm : j ∈ Region.ready .any ops listed := mem_ready.2 ⟨getD_in' (by omega) hl, ops[j], Array.getElem?_eq_getElem hj, fun e he hb => by
        have := hord j _ (Array.getElem?_eq_getElem hj) e he hb
        exact ih e.on this (by omega)⟩
      rw [h] at hm; cases hm
where
  getD_in' {listed : Array Bool} {i : Nat} (hi : i < listed.size) (h : listed.getD i false = false) : listed.getD i true = false := by
    simp [hi] at h ⊢; exact h

def ordB (ops : Array Oper) : Bool := (List.range ops.size).all fun j => match ops[j]? with | some o => o.after.all (fun e => !Region.binds .any e || decide (e.on < j)) | none => true
theorem ord_of (h : ordB ops = true) : ∀ (j : Nat) (o : Oper), ops[j]? = some o → ∀ e ∈ o.after, Region.binds .any e = true → e.on < j := by
  intro j o ho e he hb
  have h1 := List.all_eq_true.1 h j (List.mem_range.2 (Array.getElem?_eq_some_iff.1 ho).1)
  rw [ho] at h1
  have h2 := Array.all_eq_true_iff_forall_mem.1 h1 e he
  simpa [hb] using h2

theorem wpAny_inv (hord : ∀ (j : Nat) (o : Oper), ops[j]? = some o → ∀ e ∈ o.after, Region.binds .any e = true → e.on < j) (I : Array Bool → Act → World → Prop)
    (hstep : ∀ (listed : Array Bool) (a : Act) (w : World) (i : Nat) (o : Oper), I listed a w → listed.size = ops.size → ops[i]? = some o → listed.getD i true = false → (∀ e ∈ o.after, Region.binds .any e = true → listed.getD e.on false = true) →
      wpOp P ops Q i (I (listed.setIfInBounds i true)) a w)
    (hdone : ∀ (listed : Array Bool) (a : Act) (w : World), I listed a w → (∀ j, j < ops.size → listed.getD j false = true) → Q .normal a w) :
    ∀ (fuel : Nat) (listed : Array Bool) (a : Act) (w : World), listed.size = ops.size → openCount listed ≤ fuel → I listed a w → wpAny P .any ops Q fuel listed a w
  | 0, listed, a, w, hs, hc, hI => by
    have hr : Region.ready .any ops listed = [] := by
      rw [List.eq_nil_iff_forall_not_mem]
      intro i hi
      have := openCount_pos (mem_ready.1 hi).1
      omega
    exact ⟨hr, hdone _ _ _ hI (ready_nil_all hord hs hr)⟩
  | fuel + 1, listed, a, w, hs, hc, hI => by
    refine ⟨fun hr => hdone _ _ _ hI (ready_nil_all hord hs hr), fun i hi => ?_⟩
    obtain ⟨h0, o, ho, hall⟩ := mem_ready.1 hi
    have := openCount_set h0
    exact wpOp_mono (fun a' w' h => wpAny_inv hord I hstep hdone fuel _ a' w' (by simp [hs]) (by omega) h) (hstep listed a w i o hI hs ho h0 hall)

theorem openCount_new (n : Nat) : openCount (Array.replicate n false) ≤ n := by
  unfold openCount
  refine Nat.le_trans (List.countP_le_length) (by simp)

/-- What a step of a region comes to. -/
abbrev StepTo (P : Program) (ops : Array Oper) (Q : Exit → Act → World → Prop) (o : Oper) (a : Act) (w : World) (K : Act → World → Prop) : Prop :=
  if Region.wanted o (yielded ops a.tmps) = true then Oper.wp P o a w K Q else K (a.put o.dst undef) w
theorem StepTo.op {i : Nat} {o : Oper} {a : Act} {w : World} {K : Act → World → Prop} (hi : ops[i]? = some o) (h : StepTo P ops Q o a w K) : wpOp P ops Q i K a w := by
  unfold wpOp StepTo at *
  simp only [hi]
  split at h
  · rename_i hw; rw [if_pos hw]; exact .inl h
  · rename_i hw; rw [if_neg hw]; exact h

theorem tmps_put (a : Act) (d : Tmp) (v : Value) (t : Tmp) : (a.put (some d) v).tmps[t]? = if d = t then (if d < a.tmps.size then some v else none) else a.tmps[t]? := by
  show (a.tmps.setIfInBounds d v)[t]? = _
  rw [Array.getElem?_setIfInBounds]

/-- The frame behind k copies: slots of what was loaded, and of the copies. -/
def putCopies (v : Value) (ld al : Nat → Tmp) (bs : Nat → Nat) : Nat → Act → Act
  | 0, a => a
  | k + 1, a => ((putCopies v ld al bs k a).put (some (ld k)) v).put (some (al k)) (.pointer (some ⟨bs k, 0, none⟩))
theorem putCopies_size (v : Value) (ld al : Nat → Tmp) (bs : Nat → Nat) : ∀ (k : Nat) (a : Act), (putCopies v ld al bs k a).tmps.size = a.tmps.size ∧ (putCopies v ld al bs k a).defers = a.defers
  | 0, a => ⟨rfl, rfl⟩
  | k + 1, a => by
    have := putCopies_size v ld al bs k a
    refine ⟨?_, this.2⟩
    show ((Array.setIfInBounds _ _ _).setIfInBounds _ _).size = _
    simp [this.1]
theorem putCopies_get (v : Value) (ld al : Nat → Tmp) (bs : Nat → Nat) (k : Nat) (a a' : Act) (hsz : a'.tmps.size = a.tmps.size) (hle : ∀ i, i < k → ld i < a.tmps.size ∧ al i < a.tmps.size)
    (hd : ∀ i j, i < k → j < k → ld i ≠ al j) (hll : ∀ i j, i < k → j < k → i ≠ j → ld i ≠ ld j) (haa : ∀ i j, i < k → j < k → i ≠ j → al i ≠ al j)
    (h0 : ∀ (t : Tmp), (∀ i, i < k → t ≠ ld i ∧ t ≠ al i) → a'.tmps[t]? = a.tmps[t]?) (h1 : ∀ i, i < k → a'.tmps[ld i]? = some v) (h2 : ∀ i, i < k → a'.tmps[al i]? = some (.pointer (some ⟨bs i, 0, none⟩))) :
    ∀ t : Nat, a'.tmps[t]? = (putCopies v ld al bs k a).tmps[t]? := by
  have key : ∀ m, m ≤ k → ∀ t : Nat, (putCopies v ld al bs m a).tmps[t]? = if (∃ i, i < m ∧ (t = ld i ∨ t = al i)) then a'.tmps[t]? else a.tmps[t]? := by
    intro m
    induction m with
    | zero => intro _ t; simp [putCopies]
    | succ m ih =>
      intro hm t
      show (((putCopies v ld al bs m a).put (some (ld m)) v).put (some (al m)) _).tmps[t]? = _
      have sz := (putCopies_size v ld al bs m a).1
      have sz2 : ((putCopies v ld al bs m a).put (some (ld m)) v).tmps.size = a.tmps.size := by show (Array.setIfInBounds _ _ _).size = _; simp [sz]
      obtain ⟨q1, q2⟩ := hle m (by omega)
      rw [tmps_put, tmps_put, sz2, sz, if_pos q1, if_pos q2, ih (by omega)]
      by_cases e2 : al m = t
      · subst e2
        rw [if_pos rfl, if_pos ⟨m, by omega, .inr rfl⟩, h2 m (by omega)]
      · rw [if_neg e2]
        by_cases e1 : ld m = t
        · subst e1
          rw [if_pos rfl, if_pos ⟨m, by omega, .inl rfl⟩, h1 m (by omega)]
        · rw [if_neg e1]
          by_cases hx : ∃ i, i < m ∧ (t = ld i ∨ t = al i)
          · obtain ⟨i, hi, hh⟩ := hx
            rw [if_pos ⟨i, hi, hh⟩, if_pos ⟨i, by omega, hh⟩]
          · rw [if_neg hx, if_neg]
            rintro ⟨i, hi, hh⟩
            by_cases him : i = m
            · subst him
              rcases hh with hh | hh
              · exact e1 hh.symm
              · exact e2 hh.symm
            · exact hx ⟨i, by omega, hh⟩
  intro t
  rw [key k (Nat.le_refl _) t]
  by_cases hx : ∃ i, i < k ∧ (t = ld i ∨ t = al i)
  · rw [if_pos hx]
  · rw [if_neg hx]
    exact h0 t (fun i hi => ⟨fun e => hx ⟨i, hi, .inl e⟩, fun e => hx ⟨i, hi, .inr e⟩⟩)

/-- What holds in the midst of k copies. -/
structure Copying (T : TypeId) (v : Value) (zeros good : Array Value) (k : Nat) (ld al : Nat → Tmp) (a0 : Act) (W : World) (listed : Array Bool) (a : Act) (w : World) : Prop where
  defers : a.defers = a0.defers
  size : a.tmps.size = a0.tmps.size
  rest : ∀ t, (∀ i, i < k → t ≠ ld i ∧ t ≠ al i) → a.tmps[t]? = a0.tmps[t]?
  below : Below W.heap.size W w
  loaded : ∀ i, i < k → listed.getD i false = true → a.tmps[ld i]? = some v
  made : ∃ bs : Nat → Nat, (∀ i, i < k → listed.getD (k + i) false = true → a.tmps[al i]? = some (.pointer (some ⟨bs i, 0, none⟩)) ∧ W.heap.size ≤ bs i ∧
      BoxT w T (bs i) (if listed.getD (2 * k + i) false = true then good else zeros)) ∧
    (∀ i j, i < k → j < k → i ≠ j → listed.getD (k + i) false = true → listed.getD (k + j) false = true → bs i ≠ bs j)
  closed : ∀ i, i < k → listed.getD (2 * k + i) false = true → listed.getD (k + i) false = true

theorem getD_set_other {listed : Array Bool} {i j : Nat} (h : i ≠ j) : (listed.setIfInBounds i true).getD j false = listed.getD j false := getD_set_ne false h
theorem getD_set_self {listed : Array Bool} {i : Nat} (h : i < listed.size) : (listed.setIfInBounds i true).getD i false = true := by simp [h]

theorem wp_copies {id : Nat} {a0 : Act} {W : World} (hm : P.follows .mixedOrders = true) (T : TypeId) (v : Value) (zeros good : Array Value) (k : Nat) (ld al : Nat → Tmp)
    (hsz : ops.size = 3 * k) (hord : ∀ (j : Nat) (o : Oper), ops[j]? = some o → ∀ e ∈ o.after, Region.binds .any e = true → e.on < j)
    (hle : ∀ i, i < k → ld i < a0.tmps.size ∧ al i < a0.tmps.size)
    (hd : ∀ i j, i < k → j < k → ld i ≠ al j) (hll : ∀ i j, i < k → j < k → i ≠ j → ld i ≠ ld j) (haa : ∀ i j, i < k → j < k → i ≠ j → al i ≠ al j)
    (hL : ∀ (i : Nat) (o : Oper), i < k → ops[i]? = some o → o.dst = some (ld i) ∧ ∀ (a : Act) (w : World) (K : Act → World → Prop), (∀ t, (∀ i, i < k → t ≠ ld i ∧ t ≠ al i) → a.tmps[t]? = a0.tmps[t]?) → Below W.heap.size W w → K (a.put o.dst v) w → StepTo P ops Q o a w K)
    (hA : ∀ (i : Nat) (o : Oper), i < k → ops[k + i]? = some o → o.dst = some (al i) ∧ ∀ (a : Act) (w : World) (K : Act → World → Prop), K (a.put o.dst (.pointer (some ⟨w.heap.size, 0, none⟩))) (w.alloc (.cells zeros T)) → StepTo P ops Q o a w K)
    (hS : ∀ (i : Nat) (o : Oper), i < k → ops[2 * k + i]? = some o → (Region.waitsFor .any ops (2 * k + i) i = true ∧ Region.waitsFor .any ops (2 * k + i) (k + i) = true) ∧
      ∀ (a : Act) (w : World) (b : Nat) (K : Act → World → Prop), a.tmps[al i]? = some (.pointer (some ⟨b, 0, none⟩)) → a.tmps[ld i]? = some v → BoxT w T b zeros → (∀ w', BoxT w' T b good → Only (· = b) w w' → K a w') → StepTo P ops Q o a w K)
    (hQ : ∀ (w : World) (bs : Nat → Nat), Below W.heap.size W w → (∀ i, i < k → W.heap.size ≤ bs i ∧ BoxT w T (bs i) good) → (∀ i j, i < k → j < k → i ≠ j → bs i ≠ bs j) → Q .normal (putCopies v ld al bs k a0) w) :
    (Code.region id ops true).wp P Q a0 W := by
  refine wp_region_any hm ?_
  refine wpAny_inv hord (Copying T v zeros good k ld al a0 W) ?_ ?_ _ _ _ _ (by simp) (openCount_new _) ?_
  · intro listed a w i o hI hs ho h0 hall
    have hi : i < 3 * k := by rw [← hsz]; exact (Array.getElem?_eq_some_iff.1 ho).1
    have hil : i < listed.size := by omega
    by_cases c1 : i < k
    · obtain ⟨hdst, hrun⟩ := hL i o c1 ho
      refine StepTo.op ho (hrun a w _ hI.rest hI.below ?_)
      obtain ⟨bs, m1, m2⟩ := hI.made
      rw [hdst]
      refine ⟨hI.defers, by show (Array.setIfInBounds _ _ _).size = _; simp [hI.size], fun t ht => by rw [tmps_put, if_neg (fun e => (ht i c1).1 e.symm)]; exact hI.rest t ht, hI.below, fun j hj hl => ?_, ⟨bs, fun j hj hl => ?_, fun j j' hj hj' hne hl hl' => ?_⟩, fun j hj hl => ?_⟩
      rotate_right
      · rw [getD_set_other (by omega)] at hl ⊢; exact hI.closed j hj hl
      · rw [tmps_put, hI.size, if_pos (hle i c1).1]
        by_cases e : ld i = ld j
        · rw [if_pos e]
        · rw [if_neg e]
          refine hI.loaded j hj ?_
          rwa [getD_set_other (fun h => e (by rw [h]))] at hl
      · rw [getD_set_other (by omega)] at hl
        rw [tmps_put, if_neg (hd i j c1 hj), getD_set_other (by omega)]
        exact m1 j hj hl
      · rw [getD_set_other (by omega)] at hl hl'
        exact m2 j j' hj hj' hne hl hl'
    · by_cases c2 : i < 2 * k
      · obtain ⟨q, rfl⟩ : ∃ q, i = k + q := ⟨i - k, by omega⟩
        have hq : q < k := by omega
        obtain ⟨hdst, hrun⟩ := hA q o hq ho
        refine StepTo.op ho (hrun a w _ ?_)
        obtain ⟨bs, m1, m2⟩ := hI.made
        have bl : Below W.heap.size W (w.alloc (.cells zeros T)) := hI.below.alloc hI.below.size _
        have hst : listed.getD (2 * k + q) false = false := by
          cases hx : listed.getD (2 * k + q) false with
          | false => rfl
          | true => exact absurd (hI.closed q hq hx) (by rw [show listed.getD (k + q) false = false from by simp [hil] at h0 ⊢; exact h0]; simp)
        rw [hdst]
        refine ⟨hI.defers, by show (Array.setIfInBounds _ _ _).size = _; simp [hI.size], fun t ht => by rw [tmps_put, if_neg (fun e => (ht q hq).2 e.symm)]; exact hI.rest t ht, bl, fun j hj hl => ?_, ⟨(fun j => if j = q then w.heap.size else bs j), fun j hj hl => ?_, fun j j' hj hj' hne hl hl' => ?_⟩, fun j hj hl => ?_⟩
        rotate_right
        · rw [getD_set_other (by omega)] at hl; exact getD_set_true (hI.closed j hj hl)
        · rw [getD_set_other (by omega)] at hl
          rw [tmps_put, if_neg (fun e => hd j q hj hq e.symm)]
          exact hI.loaded j hj hl
        · rw [tmps_put, hI.size, if_pos (hle q hq).2]
          by_cases e : j = q
          · subst e
            rw [if_pos rfl, getD_set_other (by omega), hst]
            simp only [if_true]
            exact ⟨trivial, hI.below.size, BoxT.new _ _ _⟩
          · rw [getD_set_other (by omega)] at hl
            rw [if_neg (haa q j hq hj (fun h => e h.symm)), getD_set_other (by omega)]
            simp only [if_neg e]
            obtain ⟨x1, x2, x3⟩ := m1 j hj hl
            exact ⟨x1, x2, x3.alloc _⟩
        · by_cases e : j = q
          · subst e
            rw [getD_set_other (by omega)] at hl'
            simp only [if_true, if_neg (fun h : j' = j => hne h.symm)]
            have := (m1 j' hj' hl').2.2.lt
            omega
          · rw [getD_set_other (by omega)] at hl
            by_cases e' : j' = q
            · subst e'
              simp only [if_true, if_neg e]
              have := (m1 j hj hl).2.2.lt
              omega
            · rw [getD_set_other (by omega)] at hl'
              simp only [if_neg e, if_neg e']
              exact m2 j j' hj hj' hne hl hl'
      · obtain ⟨q, rfl⟩ : ∃ q, i = 2 * k + q := ⟨i - 2 * k, by omega⟩
        have hq : q < k := by omega
        obtain ⟨⟨ww1, ww2⟩, hrun⟩ := hS q o hq ho
        obtain ⟨oo1, hoo1, e1, he1, hb1, ho1⟩ := Region.waitsFor_spec ww1
        obtain ⟨oo2, hoo2, e2, he2, hb2, ho2⟩ := Region.waitsFor_spec ww2
        obtain rfl := Option.some.inj (hoo1.symm.trans ho)
        obtain rfl := Option.some.inj (hoo2.symm.trans hoo1)
        have l1 := hall e1 he1 hb1
        have l2 := hall e2 he2 hb2
        rw [ho1] at l1; rw [ho2] at l2
        obtain ⟨bs, m1, m2⟩ := hI.made
        obtain ⟨p1, p2, p3⟩ := m1 q hq l2
        have hst : listed.getD (2 * k + q) false = false := by simp [hil] at h0 ⊢; exact h0
        rw [hst] at p3
        refine StepTo.op ho (hrun a w (bs q) _ p1 (hI.loaded q hq l1) p3 fun w' hbx hon => ?_)
        refine ⟨hI.defers, hI.size, hI.rest, hI.below.trans (hon.below hI.below.size (fun k hk => by subst hk; exact p2)), fun j hj hl => ?_, ⟨bs, fun j hj hl => ?_, fun j j' hj hj' hne hl hl' => ?_⟩, fun j hj hl => ?_⟩
        rotate_right
        · by_cases e : j = q
          · subst e; rw [getD_set_other (by omega)]; exact l2
          · rw [getD_set_other (by omega)] at hl ⊢; exact hI.closed j hj hl
        · rw [getD_set_other (by omega)] at hl
          exact hI.loaded j hj hl
        · rw [getD_set_other (by omega)] at hl
          obtain ⟨x1, x2, x3⟩ := m1 j hj hl
          refine ⟨x1, x2, ?_⟩
          by_cases e : j = q
          · subst e
            rw [getD_set_self hil]
            exact hbx
          · rw [getD_set_other (by omega)]
            exact x3.only hon (fun h => m2 j q hj hq e hl l2 h)
        · rw [getD_set_other (by omega)] at hl hl'
          exact m2 j j' hj hj' hne hl hl'
  · intro listed a w hI hall
    obtain ⟨bs, m1, m2⟩ := hI.made
    have hl : ∀ j, j < 3 * k → listed.getD j false = true := fun j hj => hall j (by omega)
    have heq : a = putCopies v ld al bs k a0 := by
      have h1 := putCopies_get v ld al bs k a0 a hI.size hle hd hll haa hI.rest (fun i hi => hI.loaded i hi (hl i (by omega))) (fun i hi => (m1 i hi (hl _ (by omega))).1)
      have h2 := putCopies_size v ld al bs k a0
      have h3 : a.tmps = (putCopies v ld al bs k a0).tmps := Array.ext_getElem? h1
      have h4 : a.defers = (putCopies v ld al bs k a0).defers := by rw [h2.2]; exact hI.defers
      cases a; cases hp : putCopies v ld al bs k a0
      rw [hp] at h3 h4
      simp only at h3 h4
      rw [h3, h4]
    rw [heq]
    refine hQ w bs hI.below (fun i hi => ?_) (fun i j hi hj hne => m2 i j hi hj hne (hl _ (by omega)) (hl _ (by omega)))
    obtain ⟨x1, x2, x3⟩ := m1 i hi (hl _ (by omega))
    rw [hl (2 * k + i) (by omega)] at x3
    exact ⟨x2, x3⟩
  · refine ⟨rfl, rfl, fun _ _ => rfl, ⟨rfl, rfl, rfl, Nat.le_refl _, fun _ _ => rfl⟩, fun i _ hl => ?_, ⟨fun _ => 0, fun i _ hl => ?_, fun i j _ _ _ hl => ?_⟩, fun i _ hl => ?_⟩
    all_goals (exfalso; rw [Array.getD_eq_getD_getElem?, Array.getElem?_replicate] at hl; split at hl <;> cases hl)
end
end Go.Proofs.YtdpamikobmefeaaGreat
