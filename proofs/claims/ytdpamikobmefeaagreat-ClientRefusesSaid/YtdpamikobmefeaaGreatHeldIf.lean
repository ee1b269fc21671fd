/- Maps whose elements are kept as they are, if they have a shape: look-up, store and range at the operation; what such a map has. Conditions: the key's type is served. -/
import Derived.Test.YtdpamikobmefeaaGreatCol
import Derived.Maps.OwnSet
import Derived.Maps.Views
import Derived.Maps.RangeWalk
set_option linter.unusedVariables false
namespace Go.Proofs.YtdpamikobmefeaaGreat
open Go.RowKit Go.Maps

def heldIf (p : Value → Bool) (v : Value) : Option (DataW Value × List MemPlace) := if p v = true then some (.held v, []) else none
theorem heldIf_mk {p : Value → Bool} {v : Value} (h : p v = true) : heldIf p v = some (.held v, []) := if_pos h
theorem heldIf_inv {p : Value → Bool} {v : Value} {y : DataW Value × List MemPlace} (h : heldIf p v = some y) : p v = true ∧ y = (.held v, []) := by
  unfold heldIf at h
  split at h
  · rename_i hp; injection h with h; exact ⟨hp, h.symm⟩
  · cases h

section
variable {P : Program} {t k e : TypeId} {b n : Nat} {D : DataW Value} {w : World} {p : Value → Bool}

theorem heldIf_run (h : w.ownsMap P k (heldIf p) b n D) (K : Keyed P k) (ht : P.underlying t = some (.map k e)) {z : Value} (hz : (zeroValue e).run P w = .ok z w) (hp : p z = true) {key : Value} {kl : Lit} (hkey : keyOf P k key = some kl)
    {v : Value} (hv : D.atKey kl (.held z) = .held v) : (Instr.lookup t (.map (some b)) key false).run P w = .ok v w := by
  obtain ⟨v', ps, hrun, hR⟩ := h.lookup K ht hz (zd := .held z) (zp := []) (heldIf_mk hp) hkey
  rw [hv] at hR
  have := (heldIf_inv hR).2
  simp only [Prod.mk.injEq, DataW.held.injEq] at this
  rw [this.1]; exact hrun
theorem heldIf_run_ok (h : w.ownsMap P k (heldIf p) b n D) (K : Keyed P k) (ht : P.underlying t = some (.map k e)) {z : Value} (hz : (zeroValue e).run P w = .ok z w) (hp : p z = true) {key : Value} {kl : Lit} (hkey : keyOf P k key = some kl)
    {v : Value} {c : Bool} (hv : D.atKey kl (.held z) = .held v) (hc : Maps.has D kl = c) : (Instr.lookup t (.map (some b)) key true).run P w = .ok (.tuple #[v, .bool c]) w := by
  obtain ⟨v', ps, hrun, hR⟩ := h.look_ok K ht hz (zd := .held z) (zp := []) (heldIf_mk hp) hkey
  rw [hv] at hR
  have := (heldIf_inv hR).2
  simp only [Prod.mk.injEq, DataW.held.injEq] at this
  rw [this.1, ← hc]; exact hrun
theorem ownsMap_only {R : Value → Option (DataW Value × List MemPlace)} {S : Nat → Prop} {w' : World} (h : w.ownsMap P k R b n D) (ho : Only S w w') (hn : ¬ S b) : w'.ownsMap P k R b n D := by
  have hl := h.lt
  obtain ⟨es, clock, hb, F, hs, hD⟩ := h
  exact ⟨es, clock, by rw [ho.block b hl hn]; exact hb, F, hs, hD⟩
theorem ownsMap_tight {R : Value → Option (DataW Value × List MemPlace)} (h : w.ownsMap P k R b n D) : w.ownsMap P k R b (Maps.size D) D := by
  obtain ⟨es, clock, hb, F, hs, rfl⟩ := h
  refine ⟨es, clock, hb, F, ?_, rfl⟩
  rw [size_eq, length_sorted]; simp
theorem ownsMap_tidy {R : Value → Option (DataW Value × List MemPlace)} (h : w.ownsMap P k R b n D) (K : Keyed P k) : Tidy D := h.tidy K
end

/-- What entries a map has: each element of the list, by its key and its value, and no others. -/
structure MapOf {α : Type} (key : α → Lit) (val : α → Value → Prop) (D : DataW Value) (L : List α) : Prop where
  isMap : IsMap D
  size : Maps.size D = L.length
  apart : L.Pairwise (fun a b => key a ≠ key b)
  has : ∀ x ∈ L, Maps.has D (key x) = true ∧ ∃ v, val x v ∧ ∀ z, D.atKey (key x) z = .held v
  none : ∀ k, (∀ x ∈ L, key x ≠ k) → Maps.has D k = false

section
variable {α : Type} {key : α → Lit} {val val' : α → Value → Prop} {D : DataW Value} {L : List α}
theorem MapOf.empty : MapOf key val (.map []) [] := ⟨isMap_empty, rfl, List.Pairwise.nil, (fun x hx => by simp at hx), fun k _ => rfl⟩
theorem MapOf.imp (h : MapOf key val D L) (hv : ∀ x ∈ L, ∀ v, val x v → val' x v) : MapOf key val' D L :=
  ⟨h.isMap, h.size, h.apart, fun x hx => ⟨(h.has x hx).1, by obtain ⟨v, h1, h2⟩ := (h.has x hx).2; exact ⟨v, hv x hx v h1, h2⟩⟩, h.none⟩
theorem MapOf.perm {L' : List α} (h : MapOf key val D L) (hp : L.Perm L') : MapOf key val D L' :=
  ⟨h.isMap, h.size.trans hp.length_eq, (hp.pairwise_iff (fun {a b} h => fun e => h e.symm)).1 h.apart, fun x hx => h.has x (hp.mem_iff.2 hx), fun k hk => h.none k fun x hx => hk x (hp.mem_iff.1 hx)⟩
theorem MapOf.inj (h : MapOf key val D L) {x y : α} (hx : x ∈ L) (hy : y ∈ L) (hk : key x = key y) : x = y := by
  have key2 : ∀ {l : List α}, l.Pairwise (fun a b => key a ≠ key b) → x ∈ l → y ∈ l → x = y := by
    intro l hl
    induction l with
    | nil => intro hx; simp at hx
    | cons z r ih =>
      intro hx hy
      obtain ⟨h1, h2⟩ := List.pairwise_cons.1 hl
      rcases List.mem_cons.1 hx with hx1 | hx1 <;> rcases List.mem_cons.1 hy with hy1 | hy1
      · rw [hx1, hy1]
      · exact absurd hk (by rw [hx1]; exact h1 y hy1)
      · exact absurd hk.symm (by rw [hy1]; exact h1 x hx1)
      · exact ih h2 hx1 hy1
  exact key2 h.apart hx hy
/-- A new key. -/
theorem MapOf.add (h : MapOf key val D L) (ht : Tidy D) {x : α} {v : Value} (hk : WideAt.IsKeyLit (key x)) (hn : ∀ y ∈ L, key y ≠ key x) (hv : val x v) : MapOf key val (D.put (key x) (.held v)) (L ++ [x]) where
  isMap := h.isMap.put _ _
  size := by rw [size_put (k := key x) ht, h.none _ hn, h.size]; simp
  apart := by
    rw [List.pairwise_append]
    exact ⟨h.apart, by simp, fun a ha b hb => by simp at hb; subst hb; exact hn a ha⟩
  has y hy := by
    rcases List.mem_append.1 hy with hy | hy
    · obtain ⟨h1, v', h2, h3⟩ := h.has y hy
      exact ⟨by rw [has_put_other (hn y hy)]; exact h1, v', h2, fun z => by rw [atKey_put_other (hn y hy)]; exact h3 z⟩
    · simp at hy; subst hy
      exact ⟨has_put_same h.isMap hk _, v, hv, fun z => atKey_put_same h.isMap hk _ z⟩
  none k hk' := by
    rw [has_put_other (fun e => hk' x (by simp) e.symm)]
    exact h.none k fun y hy => hk' y (by simp [hy])
/-- A key that is there: its element is another one now. -/
theorem MapOf.set (h : MapOf key val D L) (ht : Tidy D) {x : α} {v : Value} {f : α → α} (hk : WideAt.IsKeyLit (key x)) (hx : ∃ y ∈ L, key y = key x) (hf1 : ∀ y ∈ L, key y = key x → f y = x) (hf2 : ∀ y ∈ L, key y ≠ key x → f y = y) (hv : val x v) : MapOf key val (D.put (key x) (.held v)) (L.map f) := by
  have hkf : ∀ y ∈ L, key (f y) = key y := fun y hy => by
    by_cases hc : key y = key x
    · rw [hf1 y hy hc, hc]
    · rw [hf2 y hy hc]
  obtain ⟨y0, hy0, hk0⟩ := hx
  refine ⟨h.isMap.put _ _, ?_, ?_, ?_, ?_⟩
  · rw [size_put (k := key x) ht, ← hk0, (h.has y0 hy0).1, h.size]; simp
  · rw [List.pairwise_map]
    exact h.apart.imp_of_mem fun {a b} ha hb hab => by rw [hkf a ha, hkf b hb]; exact hab
  · intro y hy
    obtain ⟨y1, hy1, rfl⟩ := List.mem_map.1 hy
    by_cases hc : key y1 = key x
    · rw [hf1 y1 hy1 hc]
      exact ⟨has_put_same h.isMap hk _, v, hv, fun z => atKey_put_same h.isMap hk _ z⟩
    · rw [hf2 y1 hy1 hc]
      obtain ⟨h1, v', h2, h3⟩ := h.has y1 hy1
      exact ⟨by rw [has_put_other hc]; exact h1, v', h2, fun z => by rw [atKey_put_other hc]; exact h3 z⟩
  · intro k hk'
    have h1 : ∀ y ∈ L, key y ≠ k := fun y hy => by rw [← hkf y hy]; exact hk' _ (List.mem_map_of_mem hy)
    rw [has_put_other (by rw [← hk0]; exact fun e => h1 y0 hy0 e.symm)]
    exact h.none k h1
/-- A key is struck. -/
theorem MapOf.del (h : MapOf key val D L) (ht : Tidy D) {k : Lit} {q : α → Bool} (hq : ∀ x ∈ L, q x = true ↔ key x ≠ k) : MapOf key val (D.del k) (L.filter q) := by
  refine ⟨h.isMap.del _, ?_, h.apart.filter _, ?_, ?_⟩
  · have h1 := size_del (k := k) ht
    rw [h.size] at h1
    by_cases hh : ∃ y ∈ L, key y = k
    · have key2 : ∀ {l : List α}, l.Pairwise (fun a b => key a ≠ key b) → (∀ x ∈ l, q x = true ↔ key x ≠ k) → (∃ y ∈ l, key y = k) → (l.filter q).length + 1 = l.length := by
        intro l
        induction l with
        | nil => rintro _ _ ⟨y, hy, _⟩; simp at hy
        | cons z r ih =>
          intro hl hq hex
          obtain ⟨p1, p2⟩ := List.pairwise_cons.1 hl
          by_cases hz : key z = k
          · have h3 : r.filter q = r := List.filter_eq_self.2 fun a ha => by
              rw [hq a (by simp [ha])]; intro e; exact p1 a ha (by rw [hz, e])
            have h4 : q z = false := by
              rw [Bool.eq_false_iff]; intro e; exact (hq z (by simp)).1 e hz
            simp [h4, h3]
          · obtain ⟨y, hy, hyk⟩ := hex
            have h4 : q z = true := (hq z (by simp)).2 hz
            rcases List.mem_cons.1 hy with hy1 | hy1
            · exact absurd (by rw [← hy1]; exact hyk) hz
            · have := ih p2 (fun x hx => hq x (by simp [hx])) ⟨y, hy1, hyk⟩
              simp only [List.filter_cons, h4, if_true, List.length_cons]; omega
      have h2 := key2 h.apart hq hh
      obtain ⟨y, hy, hk⟩ := hh
      have h5 := (h.has y hy).1
      rw [hk] at h5
      rw [h5] at h1
      simp only [if_true] at h1
      omega
    · have h0 : Maps.has D k = false := h.none k fun x hx e => hh ⟨x, hx, e⟩
      rw [h0] at h1
      have : L.filter q = L := List.filter_eq_self.2 fun a ha => (hq a ha).2 fun e => hh ⟨a, ha, e⟩
      rw [this]; simpa using h1
  · intro x hx
    obtain ⟨hx, hk⟩ := List.mem_filter.1 hx
    have hk : key x ≠ k := (hq x hx).1 hk
    obtain ⟨h1, v', h2, h3⟩ := h.has x hx
    exact ⟨by rw [has_del_other hk]; exact h1, v', h2, fun z => by rw [atKey_del_other hk]; exact h3 z⟩
  · intro k' hk'
    by_cases e : k' = k
    · subst e; exact has_del_same
    · rw [has_del_other e]
      exact h.none k' fun x hx hxk => by
        by_cases hc : key x = k
        · exact e (hxk.symm.trans hc)
        · exact hk' x (List.mem_filter.2 ⟨hx, (hq x hx).2 hc⟩) hxk
end
end Go.Proofs.YtdpamikobmefeaaGreat
