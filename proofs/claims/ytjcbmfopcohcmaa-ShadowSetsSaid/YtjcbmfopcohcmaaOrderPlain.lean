/- The plain law of ShelfOrder: in whatever order entries come, the newest of each key are there. Conditions: no two are of one key, version and mark. -/
import Derived.Test.YtjcbmfopcohcmaaScanL
import Derived.Test.YtjcbmfopcohcmaaJoinNew
namespace Go.Proofs.Ytjcbmfopcohcmaa
open Go.RowKit Go.ChangeShapes Go.Maps
set_option linter.unusedVariables false

def sameK (a b : Ent) : Prop := a.value = b.value ∧ a.rc.id = b.rc.id
def newE (a b : Ent) : Bool := newerF a.rc.ver a.gone b.rc.ver b.gone
/-- Not one of key, version and mark. -/
def Apart (a b : Ent) : Prop := ¬ (a.value = b.value ∧ a.rc.id = b.rc.id ∧ a.rc.ver = b.rc.ver ∧ a.gone = b.gone)
theorem newE_irr (a : Ent) : newE a a = false := (newer_laws a.rc.ver a.rc.ver a.rc.ver a.gone a.gone a.gone).2.2.2
theorem newE_trans {a b c : Ent} (h : newE a b = true) (k : newE b c = true) : newE a c = true := by
  have := (newer_laws a.rc.ver b.rc.ver c.rc.ver a.gone b.gone c.gone).2.2.1
  unfold newE at *
  rw [h, k] at this
  simpa using this
theorem newE_tie {a b : Ent} (h : newE a b = false) (k : newE b a = false) : a.rc.ver = b.rc.ver ∧ a.gone = b.gone := by
  have := (newer_laws a.rc.ver b.rc.ver b.rc.ver a.gone b.gone b.gone).2.1
  unfold newE at *
  rw [h, k] at this
  simpa using this
/-- The newest of its key. -/
def Best (l : List Ent) (x : Ent) : Prop := x ∈ l ∧ ∀ y ∈ l, sameK y x → newE y x = false
theorem mem_setE {L : List Ent} {e o x : Ent} (hL : L.Pairwise (fun a b => ¬ (a.value = b.value ∧ a.rc.id = b.rc.id))) (ho : o ∈ L) (hk : sameK o e) : x ∈ setE L e ↔ x = e ∨ (x ∈ L ∧ ¬ sameK x e) := by
  unfold setE
  rw [List.mem_map]
  constructor
  · rintro ⟨y, hy, rfl⟩
    by_cases h : ekB e.value e.rc.id y = true
    · rw [if_pos h]; exact .inl rfl
    · rw [if_neg h]; exact .inr ⟨hy, fun hs => h (ekB_iff.2 hs)⟩
  · rintro (rfl | ⟨h1, h2⟩)
    · exact ⟨o, ho, if_pos (ekB_iff.2 hk)⟩
    · exact ⟨x, h1, if_neg (fun h => h2 (ekB_iff.1 h))⟩
theorem keys_setE {L : List Ent} {e : Ent} (hL : L.Pairwise (fun a b => ¬ (a.value = b.value ∧ a.rc.id = b.rc.id))) : (setE L e).Pairwise (fun a b => ¬ (a.value = b.value ∧ a.rc.id = b.rc.id)) := by
  unfold setE
  rw [List.pairwise_map]
  refine hL.imp fun {a b} hab => ?_
  have key : ∀ y : Ent, (if ekB e.value e.rc.id y = true then e else y).value = y.value ∧ (if ekB e.value e.rc.id y = true then e else y).rc.id = y.rc.id := by
    intro y
    by_cases h : ekB e.value e.rc.id y = true
    · rw [if_pos h]; obtain ⟨h1, h2⟩ := ekB_iff.1 h; exact ⟨h1.symm, h2.symm⟩
    · rw [if_neg h]; exact ⟨rfl, rfl⟩
  rw [(key a).1, (key a).2, (key b).1, (key b).2]
  exact hab
/-- What Join makes of a list. -/
structure Joined (l L : List Ent) : Prop where
  best : ∀ x, x ∈ L ↔ Best l x
  keys : L.Pairwise (fun a b => ¬ (a.value = b.value ∧ a.rc.id = b.rc.id))
  all : ∀ x ∈ l, ∃ y ∈ L, sameK y x
  len : L.length ≤ l.length
theorem keys_one {L : List Ent} (hl : L.Pairwise (fun a b => ¬ (a.value = b.value ∧ a.rc.id = b.rc.id))) {a b : Ent} (ha : a ∈ L) (hb : b ∈ L) (h : sameK a b) : a = b := by
  induction L with
  | nil => simp at ha
  | cons z r ih =>
    obtain ⟨p1, p2⟩ := List.pairwise_cons.1 hl
    rcases List.mem_cons.1 ha with ha1 | ha1 <;> rcases List.mem_cons.1 hb with hb1 | hb1
    · rw [ha1, hb1]
    · exact absurd (by rw [← ha1]; exact h) (p1 b hb1)
    · exact absurd (by rw [← hb1]; exact ⟨h.1.symm, h.2.symm⟩) (p1 a ha1)
    · exact ih p2 ha1 hb1
theorem Joined.put {l L : List Ent} {e : Ent} (h : Joined l L) (hl : l.length < 10000) (ha : ∀ y ∈ l, Apart y e) : Joined (l ++ [e]) (putF L e).1 := by
  have hlen := h.len
  unfold putF
  cases hf : findE L e.value e.rc.id with
  | some o =>
    have hoL := List.mem_of_find?_eq_some hf
    have hok : sameK o e := ekB_iff.1 (List.find?_some hf)
    obtain ⟨ho1, ho2⟩ := (h.best o).1 hoL
    simp only
    have hne : newerF e.rc.ver e.gone o.rc.ver o.gone = newE e o := rfl
    rw [hne]
    by_cases hn : newE e o = true
    · rw [if_pos hn]
      refine ⟨fun x => ?_, keys_setE h.keys, fun x hx => ?_, by simp [setE]; omega⟩
      · rw [mem_setE h.keys hoL hok]
        constructor
        · rintro (rfl | ⟨h1, h2⟩)
          · refine ⟨by simp, fun y hy hs => ?_⟩
            rcases List.mem_append.1 hy with hy | hy
            · cases hq : newE y x with
              | false => rfl
              | true =>
                have := newE_trans hq hn
                rw [ho2 y hy ⟨hs.1.trans hok.1.symm, hs.2.trans hok.2.symm⟩] at this
                cases this
            · simp only [List.mem_singleton] at hy; subst hy; exact newE_irr _
          · obtain ⟨q1, q2⟩ := (h.best x).1 h1
            refine ⟨by simp [q1], fun y hy hs => ?_⟩
            rcases List.mem_append.1 hy with hy | hy
            · exact q2 y hy hs
            · simp only [List.mem_singleton] at hy; subst hy; exact absurd ⟨hs.1.symm, hs.2.symm⟩ h2
        · rintro ⟨h1, h2⟩
          rcases List.mem_append.1 h1 with h1 | h1
          · refine .inr ⟨(h.best x).2 ⟨h1, fun y hy hs => h2 y (by simp [hy]) hs⟩, fun hs => ?_⟩
            have hxL := (h.best x).2 ⟨h1, fun y hy hs => h2 y (by simp [hy]) hs⟩
            have := keys_one h.keys hxL hoL ⟨hs.1.trans hok.1.symm, hs.2.trans hok.2.symm⟩
            subst this
            rw [h2 e (by simp) ⟨hs.1.symm, hs.2.symm⟩] at hn
            cases hn
          · simp only [List.mem_singleton] at h1; exact .inl h1
      · rcases List.mem_append.1 hx with hx | hx
        · obtain ⟨y, hy, hs⟩ := h.all x hx
          by_cases hq : sameK y e
          · exact ⟨e, (mem_setE h.keys hoL hok).2 (.inl rfl), ⟨hq.1.symm.trans hs.1, hq.2.symm.trans hs.2⟩⟩
          · exact ⟨y, (mem_setE h.keys hoL hok).2 (.inr ⟨hy, hq⟩), hs⟩
        · simp only [List.mem_singleton] at hx; subst hx
          exact ⟨x, (mem_setE h.keys hoL hok).2 (.inl rfl), rfl, rfl⟩
    · rw [if_neg hn]
      rw [Bool.not_eq_true] at hn
      have hon : newE o e = true := by
        cases hq : newE o e with
        | true => rfl
        | false =>
          have := newE_tie hn hq
          exact absurd ⟨hok.1, hok.2, this.1.symm, this.2.symm⟩ (ha o ho1)
      refine ⟨fun x => ?_, h.keys, fun x hx => ?_, by simp; omega⟩
      · rw [h.best x]
        constructor
        · rintro ⟨h1, h2⟩
          refine ⟨by simp [h1], fun y hy hs => ?_⟩
          rcases List.mem_append.1 hy with hy | hy
          · exact h2 y hy hs
          · simp only [List.mem_singleton] at hy; subst hy
            have hxL := (h.best x).2 ⟨h1, h2⟩
            have := keys_one h.keys hxL hoL ⟨hs.1.symm.trans hok.1.symm, hs.2.symm.trans hok.2.symm⟩
            subst this; exact hn
        · rintro ⟨h1, h2⟩
          rcases List.mem_append.1 h1 with h1 | h1
          · exact ⟨h1, fun y hy hs => h2 y (by simp [hy]) hs⟩
          · simp only [List.mem_singleton] at h1; subst h1
            rw [h2 o (by simp [ho1]) hok] at hon
            cases hon
      · rcases List.mem_append.1 hx with hx | hx
        · exact h.all x hx
        · simp only [List.mem_singleton] at hx; subst hx
          exact ⟨o, hoL, hok⟩
  | none =>
    have hno : ∀ y ∈ L, ¬ sameK y e := fun y hy hs => List.find?_eq_none.1 hf y hy (ekB_iff.2 hs)
    have hnl : ∀ y ∈ l, ¬ sameK y e := fun y hy hs => by
      obtain ⟨z, hz, hzs⟩ := h.all y hy
      exact hno z hz ⟨hzs.1.trans hs.1, hzs.2.trans hs.2⟩
    simp only
    rw [if_neg (by omega)]
    refine ⟨fun x => ?_, ?_, fun x hx => ?_, by simp; omega⟩
    · rw [List.mem_append, h.best x]
      constructor
      · rintro (⟨h1, h2⟩ | h1)
        · refine ⟨by simp [h1], fun y hy hs => ?_⟩
          rcases List.mem_append.1 hy with hy | hy
          · exact h2 y hy hs
          · simp only [List.mem_singleton] at hy; subst hy; exact absurd ⟨hs.1.symm, hs.2.symm⟩ (hnl x h1)
        · simp only [List.mem_singleton] at h1; subst h1
          refine ⟨by simp, fun y hy hs => ?_⟩
          rcases List.mem_append.1 hy with hy | hy
          · exact absurd hs (hnl y hy)
          · simp only [List.mem_singleton] at hy; subst hy; exact newE_irr _
      · rintro ⟨h1, h2⟩
        rcases List.mem_append.1 h1 with h1 | h1
        · exact .inl ⟨h1, fun y hy hs => h2 y (by simp [hy]) hs⟩
        · exact .inr h1
    · rw [List.pairwise_append]
      exact ⟨h.keys, by simp, fun a h5 b hb => by simp only [List.mem_singleton] at hb; rw [hb]; exact hno a h5⟩
    · rcases List.mem_append.1 hx with hx | hx
      · obtain ⟨y, hy, hs⟩ := h.all x hx
        exact ⟨y, by simp [hy], hs⟩
      · simp only [List.mem_singleton] at hx; subst hx
        exact ⟨x, by simp, rfl, rfl⟩
theorem joined (l : List Ent) (hl : l.length ≤ 10000) (ha : l.Pairwise Apart) : Joined l (joinF [] l).1 := by
  have key : ∀ (n : Nat), n ≤ l.length → Joined (l.take n) (joinF [] (l.take n)).1 := by
    intro n
    induction n with
    | zero => intro _; exact ⟨fun x => by simp [joinF, Best], by simp [joinF], fun x hx => by simp at hx, by simp [joinF]⟩
    | succ n ih =>
      intro hn
      have hx : l[n]? = some l[n] := List.getElem?_eq_getElem (by omega)
      have e : l.take (n + 1) = l.take n ++ [l[n]] := by rw [List.take_add_one, hx]; rfl
      rw [e, joinF_snoc]
      refine (ih (by omega)).put (by simp; omega) fun y hy => ?_
      have hp := ha.sublist (List.take_sublist (n + 1) l)
      rw [e, List.pairwise_append] at hp
      exact hp.2.2 y hy _ (by simp)
  have := key l.length (Nat.le_refl _)
  rwa [List.take_length] at this
theorem join_order {l m : List Ent} (hl : l.length ≤ 10000) (ha : l.Pairwise Apart) (hp : l.Perm m) : (joinF [] l).1.Perm (joinF [] m).1 := by
  have h1 := joined l hl ha
  have h2 := joined m (by rw [← hp.length_eq]; exact hl) ((hp.pairwise_iff (fun {a b} h => fun e => h ⟨e.1.symm, e.2.1.symm, e.2.2.1.symm, e.2.2.2.symm⟩)).1 ha)
  have nd : ∀ {L : List Ent}, L.Pairwise (fun a b => ¬ (a.value = b.value ∧ a.rc.id = b.rc.id)) → L.Nodup := fun h => h.imp fun {a b} h e => h (by subst e; exact ⟨rfl, rfl⟩)
  rw [List.perm_ext_iff_of_nodup (nd h1.keys) (nd h2.keys)]
  intro x
  rw [h1.best, h2.best]
  unfold Best
  constructor
  · rintro ⟨q1, q2⟩; exact ⟨hp.mem_iff.1 q1, fun y hy => q2 y (hp.mem_iff.2 hy)⟩
  · rintro ⟨q1, q2⟩; exact ⟨hp.mem_iff.2 q1, fun y hy => q2 y (hp.mem_iff.1 hy)⟩
theorem swap_perm {α : Type} {l : List α} {a k : Nat} {x y : α} (ha : l[a]? = some x) (hk : l[k]? = some y) : ((l.set a y).set k x).Perm l := by
  obtain ⟨a1, a2⟩ := List.getElem?_eq_some_iff.1 ha
  obtain ⟨k1, k2⟩ := List.getElem?_eq_some_iff.1 hk
  have h := Array.swap_perm (xs := l.toArray) (i := a) (j := k) (by simpa using a1) (by simpa using k1)
  have h2 := Array.toList_swap l.toArray a k (by simpa using a1) (by simpa using k1)
  rw [Array.perm_iff_toList_perm, h2] at h
  simpa [a2, k2] using h
end Go.Proofs.Ytjcbmfopcohcmaa
