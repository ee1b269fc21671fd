/- What is still to come in a walk over a map; the shelf's Live. Conditions: the shelf is one. -/
import Derived.Test.YtmohkfihfkcpdaaShelf
namespace Go.Proofs.Ytmohkfihfkcpdaa
open Go.RowKit Go.ChangeShapes Go.Maps
set_option maxRecDepth 100000
set_option linter.unusedVariables false
set_option linter.unusedSimpArgs false

/-- The elements still to come. -/
def Rem {α : Type} (key : α → Lit) (L : List α) (left : Lit → Bool) : List α := L.filter fun e => left (key e)
section
variable {α : Type} {key : α → Lit} {val : α → Value → Prop} {D : DataW Value} {L : List α}
theorem rem_start (h : MapOf key val D L) : Rem key L (Maps.has D) = L := List.filter_eq_self.2 fun x hx => (h.has x hx).1
theorem rem_done {left : Lit → Bool} (h : ∀ kl, left kl = false) : Rem key L left = [] := List.filter_eq_nil_iff.2 fun x _ => by rw [h]; simp
theorem rem_step {left : Lit → Bool} {kl : Lit} (h : L.Pairwise (fun a b => key a ≠ key b)) (hk : WideAt.IsKeyLit kl) {e : α} (he : e ∈ L) (hke : key e = kl) (hl : left kl = true) : (Rem key L left).Perm (e :: Rem key L (fun z => left z && !z.sameKey kl)) := by
  induction L with
  | nil => simp at he
  | cons y r ih =>
    obtain ⟨h1, h2⟩ := List.pairwise_cons.1 h
    unfold Rem at *
    by_cases hy : key y = kl
    · have hye : e = y := by
        rcases List.mem_cons.1 he with he | he
        · exact he
        · exact absurd (hy.trans hke.symm) (h1 e he)
      subst hye
      have s1 : (key e).sameKey kl = true := (WideAt.sameKey_iff hk).2 hy
      have s2 : left (key e) = true := by rw [hy]; exact hl
      simp only [List.filter_cons, s2, s1, if_true, Bool.not_true, Bool.and_false, Bool.false_eq_true, if_false]
      refine List.Perm.cons _ (List.Perm.of_eq (List.filter_congr fun z hz => ?_))
      have s3 : (key z).sameKey kl = false := by
        rw [Bool.eq_false_iff]; intro hc
        exact h1 z hz (hy.trans ((WideAt.sameKey_iff hk).1 hc).symm)
      simp [s3]
    · have he' : e ∈ r := by
        rcases List.mem_cons.1 he with he | he
        · subst he; exact absurd hke hy
        · exact he
      have hi := ih h2 he'
      have s3 : (key y).sameKey kl = false := by
        rw [Bool.eq_false_iff]; intro hc
        exact hy ((WideAt.sameKey_iff hk).1 hc)
      cases hyl : left (key y) with
      | true =>
        simp only [List.filter_cons, hyl, s3, if_true, Bool.not_false, Bool.and_true]
        exact (hi.cons y).trans (List.Perm.swap _ _ _)
      | false =>
        simp only [List.filter_cons, hyl, s3, Bool.false_and, Bool.false_eq_true, if_false]
        exact hi
/-- The element that has come. -/
theorem rem_elem {p : Value → Bool} (h : MapOf key val D L) {kl : Lit} {v : Value} {y : DataW Value × List MemPlace} (hv : heldIf p v = some y) (hat : ∀ zd, D.atKey kl zd = y.1) : ∃ e ∈ L, key e = kl ∧ val e v := by
  obtain ⟨_, rfl⟩ := heldIf_inv hv
  by_cases hx : ∃ e ∈ L, key e = kl
  · obtain ⟨e, he, hk⟩ := hx
    obtain ⟨_, v', h1, h2⟩ := h.has e he
    have h3 := h2 (.held v)
    rw [hk, hat] at h3
    injection h3 with h3
    subst h3
    exact ⟨e, he, hk, h1⟩
  · exfalso
    have h0 := h.none kl fun e he hk => hx ⟨e, he, hk⟩
    have h1 := hat (.held (.bool true))
    have h2 := hat (.held (.bool false))
    rw [atKey_of_not_has h0] at h1 h2
    rw [← h2] at h1
    injection h1 with h1
    injection h1 with h1
    cases h1
end

theorem below_grown {w w1 w2 : World} {r : Nat} (h : Below w.heap.size w w1) (hg : w1.grownBy w2 (some r)) (hr : w.heap.size ≤ r) : Below w.heap.size w w2 := h.grown hg h.size (fun j hj => by cases hj; exact hr)

structure KeyC where
  x : Int
  id : Int
structure EntC where
  x : Int
  id : Int
  ver : Int
  s : Option Addr
  l : Nat
  c : Nat
  g : Bool
def mkKey (a : KeyC) : Value := .agg #[.int .u32 a.x, .int .u64 a.id]
def mkEnt (a : EntC) : Value := .agg #[.int .u32 a.x, .int .u64 a.id, .int .u64 a.ver, .slice a.s a.l a.c, .bool a.g]
theorem key_shape (key : Value) (kl : Lit) (h : keyOf Try.prog 90 key = some kl) : ∃ a, key = mkKey a := by obtain ⟨x, id, _, _, rfl, _⟩ := keyOf_key_inv h; exact ⟨⟨x, id⟩, rfl⟩
theorem ent_shape (v : Value) (y : DataW Value × List MemPlace) (h : heldIf isEnt v = some y) : ∃ a, v = mkEnt a := by
  obtain ⟨x, id, ver, s, l, c, g, rfl⟩ := isEnt_inv (heldIf_inv h).1
  exact ⟨⟨x, id, ver, s, l, c, g⟩, rfl⟩
def liveB (e : Ent) : Bool := !e.gone

set_option maxHeartbeats 1000000 in
theorem shelf_live {c : Col} {π : List Int} {w : World} {b : Nat} {L : List Ent} (h : ShelfR c π w b L) (hL : L.length < 1000000) :
    Calls Try.prog 54 #[.pointer (some ⟨b, 0, none⟩)] w fun e w' => e = .returned (.int .i64 (L.countP liveB)) ∧ Below w.heap.size w w' := by
  obtain ⟨mb, D, hb, _, _, hm, hd⟩ := h
  have hc := hb.box.cell
  have HM := Lib.hid hm; have HD := Lib.hid hd
  have hcount : L.countP liveB ≤ L.length := List.countP_le_length
  obtain ⟨tot, htot⟩ : ∃ t, L.countP liveB = t := ⟨_, rfl⟩
  have HT := Lib.hid htot
  rw [htot] at hcount ⊢
  clear hd hm hb htot
  have htb : tot < 1000000 := by omega
  clear hcount hL
  go_enter Try.func54, Try.ntmps54
  go_wp2_with (first | (at_range; refine wpList_range_own _ rfl _ 114 rfl 90 49 key_keyed Try.underlying114 (heldIf isEnt) mb L.length D rfl HM.out ?_; intro w0 hrg0 hg0 hs0) | go_in)
  try go_frame
  have HR0 := Lib.hid hrg0; have HG0 := Lib.hid hg0
  clear hrg0 hg0 hs0
  go_loopw [3] (fun s wr => ∃ (left : Lit → Bool) (cnt k : Nat), s = .int .i64 k ∧ k + (Rem kE L left).countP liveB = tot ∧ wr.ranges Try.prog 90 (heldIf isEnt) mb w.heap.size L.length D left cnt ∧ Below w.heap.size w wr) (fun _ wr => wr.rangeLeft mb w.heap.size)
  case atStart => exact ⟨_, _, 0, rfl, by rw [rem_start HD.out, HT.out]; exact Nat.zero_add _, HR0.out, (Below.refl _ _).grown HG0.out (Nat.le_refl _) (fun j hj => by cases hj)⟩
  case round =>
    obtain ⟨left, cnt, k, rfl, hk, hrg, hB⟩ := hrel
    have HB := Lib.hid hB; have HK := Lib.hid hk; have HR := Lib.hid hrg
    clear hB hk
    go_wp2_with (first
      | (at_next; refine wpList_next_ranges _ rfl _ rfl 90 key_keyed (heldIf isEnt) mkKey mkEnt key_shape ent_shape mb w.heap.size L.length _ _ _ rfl hrg ?_ ?_)
      | go_in)
    · intro hc0 hl0
      go_wp2
      go_ret
      have hk := HK.out
      rw [rem_done hl0] at hk
      simp only [List.countP_nil, Nat.add_zero] at hk
      exact ⟨by subst hk; rfl, HB.out⟩
    · intro x cc kl yd yp w2 cnt2 hkey hlk hv hat hrg2 hlt hg2 hs2 hen
      obtain ⟨e, he, hke, hev⟩ := rem_elem HD.out hv hat
      obtain ⟨s', l', c', hee, _⟩ := hev
      have hgone : cc.g = e.gone := by
        have hee : mkEnt cc = .agg #[.int .u32 e.value, .int .u64 e.rc.id, .int .u64 e.rc.ver, .slice s' l' c', .bool e.gone] := hee
        unfold mkEnt at hee
        simp only [Value.agg.injEq, Array.mk.injEq, List.cons.injEq, Value.bool.injEq] at hee
        exact hee.2.2.2.2.1
      have hp := (rem_step HD.out.apart (by rw [← hke]; exact KL_key _ _) he hke hlk).countP_eq liveB
      have hk2 := HK.out
      rw [hp] at hk2
      have hlv : liveB e = !cc.g := by rw [hgone]; rfl
      rw [List.countP_cons, hlv] at hk2
      have HK2 := Lib.hid hk2; have HB2 := Lib.hid (below_grown HB.out hg2 (Nat.le_refl _)); have HR2 := Lib.hid hrg2; have HLT := Lib.hid hlt
      have hkt : k ≤ tot := by omega
      clear hk2 hp hgone hee hg2 hs2 hrg2 hlv hat hv hkey hlk hrg hlt
      unfold mkEnt mkKey at hen
      obtain ⟨x1, x2, x3, x4, x5, x6, g⟩ := cc
      cases g
      · go_wp2
        refine ⟨⟨_, _, k + 1, by simp, ?_, HR2.out.alloc _, HB2.out.alloc HB2.out.size _⟩, ?_⟩
        · have hk2 := HK2.out
          dsimp only at hk2
          simp at hk2
          omega
        · rw [(HR2.out.alloc _).left_eq, HR.out.left_eq]; exact HLT.out
      · go_wp2
        refine ⟨⟨_, _, k, by simp, ?_, HR2.out.alloc _, HB2.out.alloc HB2.out.size _⟩, ?_⟩
        · have hk2 := HK2.out
          dsimp only at hk2
          simp at hk2
          omega
        · rw [(HR2.out.alloc _).left_eq, HR.out.left_eq]; exact HLT.out
end Go.Proofs.Ytmohkfihfkcpdaa
