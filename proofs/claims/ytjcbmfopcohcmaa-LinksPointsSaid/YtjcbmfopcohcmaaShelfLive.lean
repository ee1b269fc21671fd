/- What is still to come in a walk over a map; the shelf's Live. Conditions: the shelf is one. -/
import Derived.Test.YtjcbmfopcohcmaaShelf
namespace Go.Proofs.Ytjcbmfopcohcmaa
open Go.RowKit Go.ChangeShapes Go.Maps
set_option maxRecDepth 100000
set_option linter.unusedVariables false
set_option linter.unusedSimpArgs false

/-- The elements still to come. -/
def Rem {α : Type} (key : α → Lit) (L : List α) (left : Lit → Bool) : List α := L.filter fun e => left (key e)
section
variable {α : Type} {key : α → Lit} {val : α → Value → Prop} {D : DataW Value} {L : List α}
theorem rem_start (h : MapOf key val D L) : Rem key L (Maps.has D) = L := List.filter_eq_self.2 fun x hx => (h.has x hx).1
theorem rem_done {left : Lit → Bool} (h : ∀ kl, left kl = false) : Rem key L left = [] := List.filter_eq_nil_iff.2 fun x _ => by rw [h]; simp
theorem rem_step {left : Lit → Bool} {kl : Lit} (h : L.Pairwise (fun a b => key a ≠ key b)) (hk : WideAt.IsKeyLit kl) {e : α} (he : e ∈ L) (hke : key e = kl) (hl : left kl = true) : (Rem key L left).Perm (e :: Rem key L (fun z => left z && !z.sameKey kl)) := by
  induction L with
  | nil => simp at he
  | cons y r ih =>
    obtain ⟨h1, h2⟩ := List.pairwise_cons.1 h
    unfold Rem at *
    by_cases hy : key y = kl
    · have hye : e = y := by
        rcases List.mem_cons.1 he with he | he
        · exact he
        · exact absurd (hy.trans hke.symm) (h1 e he)
      subst hye
      have s1 : (key e).sameKey kl = true := (WideAt.sameKey_iff hk).2 hy
      have s2 : left (key e) = true := by rw [hy]; exact hl
      simp only [List.filter_cons, s2, s1, if_true, Bool.not_true, Bool.and_false, Bool.false_eq_true, if_false]
      refine List.Perm.cons _ (List.Perm.of_eq (List.filter_congr fun z hz => ?_))
      have s3 : (key z).sameKey kl = false := by
        rw [Bool.eq_false_iff]; intro hc
        exact h1 z hz (hy.trans ((WideAt.sameKey_iff hk).1 hc).symm)
      simp [s3]
    · have he' : e ∈ r := by
        rcases List.mem_cons.1 he with he | he
        · subst he; exact absurd hke hy
        · exact he
      have hi := ih h2 he'
      have s3 : (key y).sameKey kl = false := by
        rw [Bool.eq_false_iff]; intro hc
        exact hy ((WideAt.sameKey_iff hk).1 hc)
      cases hyl : left (key y) with
      | true =>
        simp only [List.filter_cons, hyl, s3, if_true, Bool.not_false, Bool.and_true]
        exact (hi.cons y).trans (List.Perm.swap _ _ _)
      | false =>
        simp only [List.filter_cons, hyl, s3, Bool.false_and, Bool.false_eq_true, if_false]
        exact hi
/-- The element that has come. -/
theorem rem_elem {p : Value → Bool} (h : MapOf key val D L) {kl : Lit} {v : Value} {y : DataW Value × List MemPlace} (hv : heldIf p v = some y) (hat : ∀ zd, D.atKey kl zd = y.1) : ∃ e ∈ L, key e = kl ∧ val e v := by
  obtain ⟨_, rfl⟩ := heldIf_inv hv
  by_cases hx : ∃ e ∈ L, key e = kl
  · obtain ⟨e, he, hk⟩ := hx
    obtain ⟨_, v', h1, h2⟩ := h.has e he
    have h3 := h2 (.held v)
    rw [hk, hat] at h3
    injection h3 with h3
    subst h3
    exact ⟨e, he, hk, h1⟩
  · exfalso
    have h0 := h.none kl fun e he hk => hx ⟨e, he, hk⟩
    have h1 := hat (.held (.bool true))
    have h2 := hat (.held (.bool false))
    rw [atKey_of_not_has h0] at h1 h2
    rw [← h2] at h1
    injection h1 with h1
    injection h1 with h1
    cases h1
end

theorem below_grown {w w1 w2 : World} {r : Nat} (h : Below w.heap.size w w1) (hg : w1.grownBy w2 (some r)) (hr : w.heap.size ≤ r) : Below w.heap.size w w2 := h.grown hg h.size (fun j hj => by cases hj; exact hr)

structure KeyC where
  x : Int
  id : Int
structure EntC where
  x : Int
  id : Int
  ver : Int
  s : Option Addr
  l : Nat
  c : Nat
  g : Bool
def mkKey (a : KeyC) : Value := .agg #[.int .u32 a.x, .int .u64 a.id]
def mkEnt (a : EntC) : Value := .agg #[.int .u32 a.x, .int .u64 a.id, .int .u64 a.ver, .slice a.s a.l a.c, .bool a.g]
theorem key_shape (key : Value) (kl : Lit) (h : keyOf Try.prog 96 key = some kl) : ∃ a, key = mkKey a := by obtain ⟨x, id, _, _, rfl, _⟩ := keyOf_key_inv h; exact ⟨⟨x, id⟩, rfl⟩
theorem ent_shape (v : Value) (y : DataW Value × List MemPlace) (h : heldIf isEnt v = some y) : ∃ a, v = mkEnt a := by
  obtain ⟨x, id, ver, s, l, c, g, rfl⟩ := isEnt_inv (heldIf_inv h).1
  exact ⟨⟨x, id, ver, s, l, c, g⟩, rfl⟩
def liveB (e : Ent) : Bool := !e.gone

end Go.Proofs.Ytjcbmfopcohcmaa
