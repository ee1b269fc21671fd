/- A region whose order is drawn: a rule by what each operation yields, in whatever order. Conditions: closed facts on the region. -/
import Derived.Test.YtdpamikobmefeaaGreatCopies
set_option linter.unusedVariables false
namespace Go.Proofs.YtdpamikobmefeaaGreat
open Go.RowKit

section
variable {P : Program} {ops : Array Oper} {Q : Exit → Act → World → Prop}
theorem dep_of {listed : Array Bool} {i j : Nat} {o : Oper} (hi : ops[i]? = some o) (hall : ∀ e ∈ o.after, Region.binds .any e = true → listed.getD e.on false = true) (hw : Region.waitsFor .any ops i j = true) : listed.getD j false = true := by
  obtain ⟨o', ho, e, he, hb, hon⟩ := Region.waitsFor_spec hw
  obtain rfl := Option.some.inj (ho.symm.trans hi)
  rw [← hon]
  exact hall e he hb
/-- What holds of a frame in the midst of a region. -/
structure Regs (ops : Array Oper) (a0 : Act) (v : Nat → Value) (listed : Array Bool) (a : Act) : Prop where
  defers : a.defers = a0.defers
  size : a.tmps.size = a0.tmps.size
  rest : ∀ t : Nat, (∀ (j : Nat) (o : Oper), ops[j]? = some o → o.dst ≠ some t) → a.tmps[t]? = a0.tmps[t]?
  reg : ∀ (j : Nat) (o : Oper) (t : Nat), ops[j]? = some o → o.dst = some t → listed.getD j false = true → a.tmps[t]? = some (v j)
theorem Regs.put {a0 a : Act} {v v' : Nat → Value} {listed : Array Bool} {i : Nat} {o : Oper} (h : Regs ops a0 v listed a) (hi : ops[i]? = some o) (hil : i < listed.size) (hle : ∀ t : Nat, o.dst = some t → t < a0.tmps.size) (hinj : ∀ (j : Nat) (oj : Oper) (t : Nat), ops[j]? = some oj → oj.dst = some t → o.dst = some t → j = i)
    (hv : ∀ j, j ≠ i → listed.getD j false = true → v' j = v j) : Regs ops a0 v' (listed.setIfInBounds i true) (a.put o.dst (v' i)) := by
  cases hd : o.dst with
  | none =>
    refine ⟨h.defers, h.size, h.rest, fun j oj t hj ht hl => ?_⟩
    have hji : j ≠ i := fun e => by
      subst e
      obtain rfl := Option.some.inj (hj.symm.trans hi)
      rw [hd] at ht; cases ht
    rw [getD_set_other (fun e => hji e.symm)] at hl
    rw [hv j hji hl]
    exact h.reg j oj t hj ht hl
  | some d =>
    refine ⟨h.defers, ?_, fun t ht => ?_, fun j oj t hj ht hl => ?_⟩
    · show (Array.setIfInBounds _ _ _).size = _
      simp [h.size]
    · rw [tmps_put, if_neg (fun e => ht i o hi (by rw [hd, e]))]
      exact h.rest t ht
    · rw [tmps_put]
      by_cases e : d = t
      · subst e
        obtain rfl := hinj j oj d hj ht hd
        rw [if_pos rfl, if_pos (by rw [h.size]; exact hle d hd)]
      · rw [if_neg e]
        have hji : j ≠ i := fun e2 => by
          subst e2
          obtain rfl := Option.some.inj (hj.symm.trans hi)
          rw [hd] at ht
          injection ht with ht
          exact e ht
        rw [getD_set_other (fun e => hji e.symm)] at hl
        rw [hv j hji hl]
        exact h.reg j oj t hj ht hl
/-- No two operations yield into one slot; every slot is one of the frame's. -/
def slotsB (ops : Array Oper) (n : Nat) : Bool := (List.range ops.size).all fun i => match ops[i]? with
  | some o => (match o.dst with | some t => decide (t < n) && (List.range ops.size).all fun j => (match ops[j]? with | some oj => !(oj.dst == some t) || (j == i) | none => true) | none => true)
  | none => true
theorem slots_of {n : Nat} (h : slotsB ops n = true) : (∀ (i : Nat) (o : Oper) (t : Nat), ops[i]? = some o → o.dst = some t → t < n) ∧ ∀ (i j : Nat) (o oj : Oper) (t : Nat), ops[i]? = some o → ops[j]? = some oj → oj.dst = some t → o.dst = some t → j = i := by
  have key : ∀ (i : Nat) (o : Oper) (t : Nat), ops[i]? = some o → o.dst = some t → t < n ∧ ∀ (j : Nat) (oj : Oper), ops[j]? = some oj → oj.dst = some t → j = i := by
    intro i o t hi ht
    have h1 := List.all_eq_true.1 h i (List.mem_range.2 (Array.getElem?_eq_some_iff.1 hi).1)
    rw [hi] at h1
    simp only [ht, Bool.and_eq_true, decide_eq_true_eq] at h1
    refine ⟨h1.1, fun j oj hj htj => ?_⟩
    have h2 := List.all_eq_true.1 h1.2 j (List.mem_range.2 (Array.getElem?_eq_some_iff.1 hj).1)
    rw [hj] at h2
    simpa [htj] using h2
  exact ⟨fun i o t hi ht => (key i o t hi ht).1, fun i j o oj t hi hj htj ht => (key i o t hi ht).2 j oj hj htj⟩
theorem wp_regs {Θ : Type} {id : Nat} {a0 : Act} {W : World} (hm : P.follows .mixedOrders = true) (hord : ordB ops = true) (n : Nat) (hn : a0.tmps.size = n) (hsl : slotsB ops n = true) (V : Θ → Nat → Value) (J : Array Bool → Θ → World → Prop) (θ0 : Θ) (hJ0 : J (Array.replicate ops.size false) θ0 W.drew)
    (hstep : ∀ (listed : Array Bool) (θ : Θ) (a : Act) (w : World) (i : Nat) (o : Oper) (K : Act → World → Prop), ops[i]? = some o → listed.getD i true = false → listed.size = ops.size → (∀ j, Region.waitsFor .any ops i j = true → listed.getD j false = true) → (∀ j k, Region.waitsFor .any ops j k = true → listed.getD j false = true → listed.getD k false = true) → J listed θ w → Regs ops a0 (V θ) listed a →
      (∀ θ' w', J (listed.setIfInBounds i true) θ' w' → (∀ j, j ≠ i → listed.getD j false = true → V θ' j = V θ j) → K (a.put o.dst (V θ' i)) w') → StepTo P ops Q o a w K)
    (hQ : ∀ (listed : Array Bool) (θ : Θ) (a : Act) (w : World), (∀ j, j < ops.size → listed.getD j false = true) → J listed θ w → Regs ops a0 (V θ) listed a → Q .normal a w) :
    (Code.region id ops true).wp P Q a0 W := by
  obtain ⟨hle, hinj⟩ := slots_of hsl
  refine wp_region_any hm ?_
  refine wpAny_inv (ord_of hord) (fun listed a w => ∃ θ, J listed θ w ∧ Regs ops a0 (V θ) listed a ∧ ∀ j k, Region.waitsFor .any ops j k = true → listed.getD j false = true → listed.getD k false = true) ?_ ?_ _ _ _ _ (by simp) (openCount_new _) ?_
  · rintro listed a w i o ⟨θ, hJ, hR, hcl⟩ hs ho h0 hall
    refine StepTo.op ho (hstep listed θ a w i o _ ho h0 hs (fun j hw => dep_of ho hall hw) hcl hJ hR fun θ' w' hJ' hV => ⟨θ', hJ', ?_, fun j k hw hl => ?_⟩)
    rotate_left
    · by_cases e : i = j
      · subst e; exact getD_set_true (dep_of ho hall hw)
      · rw [getD_set_other e] at hl
        exact getD_set_true (hcl j k hw hl)
    exact hR.put ho (by rw [hs]; exact (Array.getElem?_eq_some_iff.1 ho).1) (fun t ht => by rw [hn]; exact hle i o t ho ht) (fun j oj t hj ht ht' => hinj i j o oj t ho hj ht ht') hV
  · rintro listed a w ⟨θ, hJ, hR, _⟩ hall
    exact hQ listed θ a w hall hJ hR
  · refine ⟨θ0, hJ0, ⟨rfl, rfl, fun _ _ => rfl, fun j o t _ _ hl => ?_⟩, fun j k _ hl => ?_⟩
    all_goals
      exfalso
      rw [Array.getD_eq_getD_getElem?, Array.getElem?_replicate] at hl
      split at hl <;> cases hl
/-- The frame behind all operations. -/
def putRegs (v : Nat → Value) : List (Option Tmp) → Nat → Act → Act
  | [], _, a => a
  | d :: ds, i, a => putRegs v ds (i + 1) (a.put d (v i))
theorem putRegs_snoc (v : Nat → Value) (d : Option Tmp) : ∀ (ds : List (Option Tmp)) (k : Nat) (a : Act), putRegs v (ds ++ [d]) k a = (putRegs v ds k a).put d (v (k + ds.length))
  | [], k, a => rfl
  | x :: ds, k, a => by
    show putRegs v (ds ++ [d]) (k + 1) (a.put x (v k)) = _
    rw [putRegs_snoc v d ds (k + 1) (a.put x (v k)), List.length_cons, show k + 1 + ds.length = k + (ds.length + 1) by omega]
    rfl
theorem Regs.one {a0 a a' : Act} {v : Nat → Value} {listed listed' : Array Bool} (h : Regs ops a0 v listed a) (h' : Regs ops a0 v listed' a') (hl : ∀ j, j < ops.size → listed.getD j false = true) (hl' : ∀ j, j < ops.size → listed'.getD j false = true) : a = a' := by
  have h1 : a.tmps = a'.tmps := by
    apply Array.ext_getElem?
    intro t
    by_cases hx : ∃ (j : Nat) (o : Oper), ops[j]? = some o ∧ o.dst = some t
    · obtain ⟨j, o, hj, ht⟩ := hx
      have hjl := (Array.getElem?_eq_some_iff.1 hj).1
      rw [h.reg j o t hj ht (hl j hjl), h'.reg j o t hj ht (hl' j hjl)]
    · have hr : ∀ (j : Nat) (o : Oper), ops[j]? = some o → o.dst ≠ some t := fun j o hj ht => hx ⟨j, o, hj, ht⟩
      rw [h.rest t hr, h'.rest t hr]
  have h2 : a.defers = a'.defers := h.defers.trans h'.defers.symm
  cases a; cases a'
  simp only at h1 h2
  rw [h1, h2]
theorem Regs.whole {a0 a : Act} {v : Nat → Value} {listed : Array Bool} {n : Nat} (ds : List (Option Tmp)) (hds : ops.toList.map (·.dst) = ds) (hn : a0.tmps.size = n) (hsl : slotsB ops n = true) (h : Regs ops a0 v listed a) (hl : ∀ j, j < ops.size → listed.getD j false = true) : a = putRegs v ds 0 a0 := by
  obtain ⟨hle, hinj⟩ := slots_of hsl
  have hlen : ds.length = ops.size := by rw [← hds]; simp
  have key : ∀ i, i ≤ ops.size → ∃ listed' : Array Bool, listed'.size = ops.size ∧ (∀ j, j < i → listed'.getD j false = true) ∧ Regs ops a0 v listed' (putRegs v (ds.take i) 0 a0) := by
    intro i
    induction i with
    | zero =>
      intro _
      refine ⟨Array.replicate ops.size false, by simp, fun j hj => by omega, rfl, rfl, fun _ _ => rfl, fun j o t _ _ hl => ?_⟩
      exfalso
      rw [Array.getD_eq_getD_getElem?, Array.getElem?_replicate] at hl
      split at hl <;> cases hl
    | succ i ih =>
      intro hi
      obtain ⟨l', s', a', r'⟩ := ih (by omega)
      have ho : ops[i]? = some ops[i] := Array.getElem?_eq_getElem (by omega)
      have hd : ds[i]? = some (ops[i]).dst := by
        rw [← hds, List.getElem?_map]
        simp [ho]
      refine ⟨l'.setIfInBounds i true, by simp [s'], fun j hj => ?_, ?_⟩
      · by_cases e : i = j
        · subst e; exact getD_set_self (by omega)
        · rw [getD_set_other e]; exact a' j (by omega)
      · rw [List.take_add_one, hd, Option.toList_some, putRegs_snoc, List.length_take, Nat.zero_add, Nat.min_eq_left (by omega)]
        exact r'.put ho (by omega) (fun t ht => by rw [hn]; exact hle i _ t ho ht) (fun j oj t hj ht ht' => hinj i j _ oj t ho hj ht ht') (fun _ _ _ => rfl)
  obtain ⟨l', s', a', r'⟩ := key ops.size (Nat.le_refl _)
  rw [List.take_of_length_le (by omega)] at r'
  exact h.one r' hl a'
/-- A slot that no operation yields into. -/
def outerB (ops : Array Oper) (t : Nat) : Bool := (List.range ops.size).all fun i => match ops[i]? with | some o => !(o.dst == some t) | none => true
theorem Regs.outer {a0 a : Act} {v : Nat → Value} {listed : Array Bool} (h : Regs ops a0 v listed a) (t : Nat) (ht : outerB ops t = true) : a.tmps[t]? = a0.tmps[t]? := by
  refine h.rest t fun j o hj hd => ?_
  have h1 := List.all_eq_true.1 ht j (List.mem_range.2 (Array.getElem?_eq_some_iff.1 hj).1)
  rw [hj] at h1
  simp [hd] at h1
end
end Go.Proofs.YtdpamikobmefeaaGreat
