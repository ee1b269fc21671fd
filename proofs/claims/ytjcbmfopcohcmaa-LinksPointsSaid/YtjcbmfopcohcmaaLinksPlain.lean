/- The links of a point, plainly: whatever is rolled, without oneself and the next one, each once, by rising steps. Conditions: none. -/
import Derived.Test.YtjcbmfopcohcmaaRingOwner
import Derived.Test.YtjcbmfopcohcmaaFar
import Derived.Lib.SlicesCompact
import Derived.Sort.Statements
namespace Go.Proofs.Ytjcbmfopcohcmaa
open Go.Sort
set_option linter.unusedVariables false
set_option linter.unusedSimpArgs false

/-- How many steps lead from p to x. -/
def wayF (p x : Int) : Int := (x - p) % 4294967296
theorem wayF_bound (p x : Int) : 0 ≤ wayF p x ∧ wayF p x < 4294967296 := by unfold wayF; omega
theorem wayF_inj {p x y : Int} (hx : U32 x) (hy : U32 y) (h : wayF p x = wayF p y) : x = y := by
  have h1 := hx.1; have h2 := hx.2; have h3 := hy.1; have h4 := hy.2
  unfold wayF at h; omega
/-- The dice behind k links. -/
def diceAt (s : Int) : Nat → Int
  | 0 => s
  | k + 1 => stepF (stepF (diceAt s k))
theorem diceAt_bound {s : Int} (h0 : 0 ≤ s) (h1 : s < 18446744073709551616) : ∀ k, 0 ≤ diceAt s k ∧ diceAt s k < 18446744073709551616
  | 0 => ⟨h0, h1⟩
  | k + 1 => stepF_bound _
/-- The k-th one that is rolled. -/
def rollP (l : List Int) (p s : Int) (k : Nat) : Int := ptF l ((p + leapF (diceAt s k)) % 4294967296)
/-- What is left of the first k. -/
def linkQ (l : List Int) (p nx s : Int) : Nat → List Int
  | 0 => []
  | k + 1 => linkQ l p nx s k ++ (if rollP l p s k = p ∨ rollP l p s k = nx then [] else [rollP l p s k])
theorem linkQ_len (l : List Int) (p nx s : Int) : ∀ k, (linkQ l p nx s k).length ≤ k
  | 0 => Nat.le_refl _
  | k + 1 => by
    have := linkQ_len l p nx s k
    unfold linkQ
    split <;> simp <;> omega
theorem ptF_mem {l : List Int} (h : 0 < l.length) (v : Int) : ptF l v ∈ l := by
  have hm := Nat.mod_lt (posF l v) h
  unfold ptF
  rw [List.getD_eq_getElem?_getD, List.getElem?_eq_getElem hm]
  exact List.getElem_mem hm
theorem linkQ_mem {l : List Int} (h : 0 < l.length) {p nx s x : Int} : ∀ {k}, x ∈ linkQ l p nx s k → x ∈ l ∧ x ≠ p ∧ x ≠ nx
  | 0, hx => by simp [linkQ] at hx
  | k + 1, hx => by
    unfold linkQ at hx
    rcases List.mem_append.1 hx with hx | hx
    · exact linkQ_mem h hx
    · split at hx
      · simp at hx
      · rename_i hn
        simp only [List.mem_singleton] at hx
        subst hx
        exact ⟨ptF_mem h _, fun e => hn (.inl e), fun e => hn (.inr e)⟩
/-- A row by rising steps that has just these. -/
structure Rises (p : Int) (q x : List Int) : Prop where
  up : x.Pairwise (fun a b => wayF p a < wayF p b)
  mem : ∀ y, y ∈ x ↔ y ∈ q
theorem Rises.one {p : Int} {q : List Int} : ∀ {x y : List Int}, Rises p q x → Rises p q y → x = y := by
  have key : ∀ {x y : List Int}, x.Pairwise (fun a b => wayF p a < wayF p b) → y.Pairwise (fun a b => wayF p a < wayF p b) → (∀ z, z ∈ x ↔ z ∈ y) → x = y := by
    intro x
    induction x with
    | nil =>
      intro y _ _ hm
      cases y with
      | nil => rfl
      | cons a r => exact absurd ((hm a).2 (by simp)) (by simp)
    | cons a r ih =>
      intro y hx hy hm
      obtain ⟨hx1, hx2⟩ := List.pairwise_cons.1 hx
      cases y with
      | nil => exact absurd ((hm a).1 (by simp)) (by simp)
      | cons b t =>
        obtain ⟨hy1, hy2⟩ := List.pairwise_cons.1 hy
        have hab : a = b := by
          rcases List.mem_cons.1 ((hm a).1 (by simp)) with h | h
          · exact h
          · rcases List.mem_cons.1 ((hm b).2 (by simp)) with h' | h'
            · exact h'.symm
            · have := hy1 a h; have := hx1 b h'; omega
        subst hab
        congr 1
        refine ih hx2 hy2 fun z => ⟨fun hz => ?_, fun hz => ?_⟩
        · rcases List.mem_cons.1 ((hm z).1 (by simp [hz])) with h | h
          · subst h; have := hx1 _ hz; omega
          · exact h
        · rcases List.mem_cons.1 ((hm z).2 (by simp [hz])) with h | h
          · subst h; have := hy1 _ hz; omega
          · exact h
  intro x y hx hy
  exact key hx.up hy.up fun z => (hx.mem z).trans (hy.mem z).symm
theorem Rises.nil (p : Int) : Rises p [] [] := ⟨List.Pairwise.nil, fun _ => Iff.rfl⟩
/-- Put in where it stands. -/
theorem Rises.put {p y : Int} {q x : List Int} {k : Nat} (h : Rises p q x) (hu : ∀ z ∈ x, U32 z) (hy : U32 y) (hn : ¬ y ∈ x) (hk : k ≤ x.length) (h1 : ∀ j z, k ≤ j → x[j]? = some z → wayF p y < wayF p z) (h2 : ∀ z, 0 < k → x[k - 1]? = some z → wayF p z ≤ wayF p y) :
    Rises p (q ++ [y]) (x.take k ++ [y] ++ x.drop k) := by
  have hT : ∀ z ∈ x.take k, wayF p z < wayF p y := by
    intro z hz
    obtain ⟨j, hj⟩ := List.getElem?_of_mem hz
    have hjk : j < k := by have := (List.getElem?_eq_some_iff.1 hj).1; rw [List.length_take] at this; omega
    rw [List.getElem?_take_of_lt hjk] at hj
    have hzx := List.mem_of_getElem? hj
    have hne : wayF p z ≠ wayF p y := fun e => hn (by rw [← wayF_inj (hu z hzx) hy e]; exact hzx)
    obtain ⟨t, ht⟩ : ∃ t, x[k - 1]? = some t := ⟨_, List.getElem?_eq_getElem (by omega)⟩
    have h3 := h2 t (by omega) ht
    by_cases hjj : j = k - 1
    · subst hjj; rw [hj] at ht; injection ht with ht; subst ht; omega
    · have jl := List.getElem?_eq_some_iff.1 hj
      have tl := List.getElem?_eq_some_iff.1 ht
      have := List.pairwise_iff_getElem.1 h.up j (k - 1) jl.1 tl.1 (by omega)
      rw [jl.2, tl.2] at this
      omega
  have hD : ∀ z ∈ x.drop k, wayF p y < wayF p z := by
    intro z hz
    obtain ⟨j, hj⟩ := List.getElem?_of_mem hz
    rw [List.getElem?_drop] at hj
    exact h1 (k + j) z (by omega) hj
  refine ⟨?_, fun z => ?_⟩
  · rw [List.append_assoc, List.pairwise_append]
    refine ⟨h.up.sublist (List.take_sublist k x), ?_, fun a ha b hb => ?_⟩
    · rw [List.singleton_append, List.pairwise_cons]
      exact ⟨hD, h.up.sublist (List.drop_sublist k x)⟩
    · rcases List.mem_cons.1 (by simpa using hb) with hb | hb
      · rw [hb]; exact hT a ha
      · have := hT a ha; have := hD b hb; omega
  · have : z ∈ x ↔ z ∈ x.take k ∨ z ∈ x.drop k := by rw [← List.mem_append, List.take_append_drop]
    rw [List.mem_append, List.mem_append, List.mem_append, ← h.mem z, this]
    constructor
    · rintro ((h | h) | h)
      · exact .inl (.inl h)
      · exact .inr h
      · exact .inl (.inr h)
    · rintro ((h | h) | h)
      · exact .inl (.inl h)
      · exact .inr h
      · exact .inl (.inr h)
/-- What was there changes nothing. -/
theorem Rises.again {p y : Int} {q x : List Int} (h : Rises p q x) (hy : y ∈ x) : Rises p (q ++ [y]) x :=
  ⟨h.up, fun z => by rw [List.mem_append, List.mem_singleton, ← h.mem z]; exact ⟨.inl, fun e => e.elim id fun e => e ▸ hy⟩⟩
/-- Sorted, and each once. -/
theorem rises_compact {p : Int} {q : List Int} {d : Array Int} (hp : d.toList.Perm q) (hu : ∀ x ∈ q, U32 x) (hs : ∀ i j, i < j → j < d.size → wayF p d[i]! ≤ wayF p d[j]!) : Rises p q (Lib.compactUpTo d d.size) := by
  have hget : ∀ j, j < d.size → d[j]! ∈ q := fun j hj => hp.mem_iff.1 (by rw [getElem!_pos d j hj]; exact Array.mem_toList_iff.2 (Array.getElem_mem hj))
  have key : ∀ m, m ≤ d.size → (Lib.compactUpTo d m).Pairwise (fun a b => wayF p a < wayF p b) ∧ ∀ x, x ∈ Lib.compactUpTo d m ↔ ∃ j, j < m ∧ d[j]! = x := by
    intro m
    induction m with
    | zero => intro _; exact ⟨by simp [Lib.compactUpTo], fun x => by simp [Lib.compactUpTo]⟩
    | succ m ih =>
      intro hm
      obtain ⟨i1, i2⟩ := ih (by omega)
      rw [Lib.compactUpTo_succ]
      by_cases hk : m = 0 ∨ d[m]! ≠ d[m - 1]!
      · have : Lib.keeps d m = true := by simp [Lib.keeps, hk]
        rw [this, if_pos rfl]
        refine ⟨?_, fun x => ?_⟩
        · rw [List.pairwise_append]
          refine ⟨i1, List.pairwise_singleton _ _, fun a ha b hb => ?_⟩
          simp only [List.mem_singleton] at hb
          subst hb
          obtain ⟨j, hj, rfl⟩ := (i2 a).1 ha
          have hm0 : m ≠ 0 := by omega
          have hne := hk.resolve_left hm0
          have h1 : wayF p d[m - 1]! ≤ wayF p d[m]! := hs (m - 1) m (by omega) (by omega)
          have h2 : wayF p d[m - 1]! ≠ wayF p d[m]! := fun e => hne (wayF_inj (hu _ (hget _ (by omega))) (hu _ (hget _ (by omega))) e).symm
          rcases Nat.lt_or_ge j (m - 1) with h | h
          · have := hs j (m - 1) h (by omega); omega
          · obtain rfl : j = m - 1 := by omega
            omega
        · rw [List.mem_append, i2, List.mem_singleton]
          constructor
          · rintro (⟨j, hj, e⟩ | e)
            · exact ⟨j, by omega, e⟩
            · exact ⟨m, by omega, e.symm⟩
          · rintro ⟨j, hj, e⟩
            rcases Nat.lt_or_ge j m with h | h
            · exact .inl ⟨j, h, e⟩
            · obtain rfl : j = m := by omega
              exact .inr e.symm
      · have hm0 : m ≠ 0 := fun e => hk (.inl e)
        have heq : d[m]! = d[m - 1]! := Classical.not_not.1 fun e => hk (.inr e)
        have : Lib.keeps d m = false := by simp [Lib.keeps, hm0, heq]
        rw [this]
        simp only [Bool.false_eq_true, if_false, List.append_nil]
        refine ⟨i1, fun x => ?_⟩
        rw [i2]
        constructor
        · rintro ⟨j, hj, e⟩; exact ⟨j, by omega, e⟩
        · rintro ⟨j, hj, e⟩
          rcases Nat.lt_or_ge j m with h | h
          · exact ⟨j, h, e⟩
          · have hjm : j = m := by omega
            rw [hjm] at e
            exact ⟨m - 1, by omega, by rw [← heq]; exact e⟩
  obtain ⟨k1, k2⟩ := key d.size (Nat.le_refl _)
  refine ⟨k1, fun y => ?_⟩
  rw [k2, ← hp.mem_iff]
  constructor
  · rintro ⟨j, hj, rfl⟩
    rw [getElem!_pos d j hj]; exact Array.mem_toList_iff.2 (Array.getElem_mem hj)
  · intro hy
    obtain ⟨j, hj, e⟩ := Array.getElem_of_mem (Array.mem_toList_iff.1 hy)
    exact ⟨j, hj, by rw [getElem!_pos d j hj]; exact e⟩
end Go.Proofs.Ytjcbmfopcohcmaa
