/- Plain laws of gatherings: what the document keeps (by rising ids) is what is there; in whatever order records come the newest are there. Conditions: none. -/
import Derived.Test.YtdpamikobmefeaaGreatGatherAll
namespace Go.Proofs.YtdpamikobmefeaaGreat
open Go.RowKit Go.ChangeShapes Go.Maps
set_option linter.unusedVariables false

/-- The document's put. -/
def putR : List Rec → Rec → List Rec × Bool
  | [], r => ([r], true)
  | x :: t, r => if x.id < r.id then (x :: (putR t r).1, (putR t r).2) else if x.id = r.id then (if r.ver ≤ x.ver then (x :: t, false) else (r :: t, true)) else (r :: x :: t, true)
/-- One place of a list. -/
theorem putR_at {r : Rec} : ∀ {l : List Rec} {k : Nat}, k ≤ l.length → (∀ (j : Nat) x, j < k → l[j]? = some x → x.id < r.id) → (∀ x, l[k]? = some x → ¬ x.id < r.id) →
    putR l r = (match l[k]? with | some x => if x.id = r.id then (if r.ver ≤ x.ver then (l, false) else (l.take k ++ [r] ++ l.drop (k + 1), true)) else (l.take k ++ [r] ++ l.drop k, true) | none => (l.take k ++ [r] ++ l.drop k, true))
  | [], k, hk, _, _ => by have : k = 0 := by simpa using hk
                          subst this; simp [putR]
  | x :: t, 0, _, _, h => by
    have := h x rfl
    simp only [putR, if_neg this, List.getElem?_cons_zero, List.take_zero, List.nil_append, List.drop_zero, List.drop_succ_cons]
    split <;> simp
  | x :: t, k + 1, hk, h1, h2 => by
    have hx := h1 0 x (by omega) rfl
    have ih := putR_at (r := r) (l := t) (k := k) (by simpa using hk) (fun j y hj hy => h1 (j + 1) y (by omega) (by simpa using hy)) (fun y hy => h2 y (by simpa using hy))
    simp only [putR, if_pos hx, List.getElem?_cons_succ, List.take_succ_cons, List.drop_succ_cons]
    rw [ih]
    cases t[k]? with
    | none => simp
    | some y =>
      simp only
      split
      · split <;> simp
      · simp
theorem putR_len (l : List Rec) (r : Rec) : (putR l r).1.length ≤ l.length + 1 := by
  induction l with
  | nil => simp [putR]
  | cons x t ih =>
    simp only [putR]
    split
    · simp; omega
    · split
      · split <;> simp
      · simp
def Up (R : List Rec) : Prop := R.Pairwise fun a b => a.id < b.id
theorem putR_told {R : List Rec} (h : Up R) (r : Rec) : (putR R r).2 = (match R.find? (fun x => x.id == r.id) with | some o => decide (o.ver < r.ver) | none => true) := by
  induction R with
  | nil => rfl
  | cons x t ih =>
    obtain ⟨h1, h2⟩ := List.pairwise_cons.1 h
    simp only [putR, List.find?_cons]
    by_cases hx : x.id < r.id
    · rw [if_pos hx, show (x.id == r.id) = false by rw [beq_eq_false_iff_ne]; omega]
      exact ih h2
    · rw [if_neg hx]
      by_cases he : x.id = r.id
      · rw [if_pos he, show (x.id == r.id) = true by rw [beq_iff_eq]; exact he]
        simp only
        by_cases hv : r.ver ≤ x.ver
        · rw [if_pos hv]; simp; omega
        · rw [if_neg hv]; simp; omega
      · rw [if_neg he, show (x.id == r.id) = false by rw [beq_eq_false_iff_ne]; exact he]
        have : t.find? (fun x => x.id == r.id) = none := by
          rw [List.find?_eq_none]
          intro y hy
          have := h1 y hy
          simp; omega
        rw [this]
theorem putR_mem {R : List Rec} (h : Up R) (r y : Rec) : y ∈ (putR R r).1 ↔ if (putR R r).2 = true then y = r ∨ (y ∈ R ∧ y.id ≠ r.id) else y ∈ R := by
  induction R with
  | nil => simp [putR]
  | cons x t ih =>
    obtain ⟨h1, h2⟩ := List.pairwise_cons.1 h
    have ih := ih h2
    unfold putR
    by_cases hx : x.id < r.id
    · rw [if_pos hx]
      simp only [List.mem_cons]
      rw [ih]
      split
      · constructor
        · rintro (rfl | rfl | h)
          · exact .inr ⟨.inl rfl, by omega⟩
          · exact .inl rfl
          · exact .inr ⟨.inr h.1, h.2⟩
        · rintro (rfl | ⟨rfl | h, h'⟩)
          · exact .inr (.inl rfl)
          · exact .inl rfl
          · exact .inr (.inr ⟨h, h'⟩)
      · exact Iff.rfl
    · rw [if_neg hx]
      by_cases he : x.id = r.id
      · rw [if_pos he]
        by_cases hv : r.ver ≤ x.ver
        · rw [if_pos hv]; simp
        · rw [if_neg hv]
          simp only [List.mem_cons, if_true]
          constructor
          · rintro (rfl | h)
            · exact .inl rfl
            · exact .inr ⟨.inr h, by have := h1 y h; omega⟩
          · rintro (rfl | ⟨rfl | h, h'⟩)
            · exact .inl rfl
            · exact absurd he h'
            · exact .inr h
      · rw [if_neg he]
        simp only [List.mem_cons, if_true]
        constructor
        · rintro (rfl | rfl | h)
          · exact .inl rfl
          · exact .inr ⟨.inl rfl, he⟩
          · exact .inr ⟨.inr h, by have := h1 y h; omega⟩
        · rintro (rfl | ⟨rfl | h, h'⟩)
          · exact .inl rfl
          · exact .inr (.inl rfl)
          · exact .inr (.inr h)
theorem putR_up {R : List Rec} (h : Up R) (r : Rec) : Up (putR R r).1 := by
  induction R with
  | nil => simp [putR, Up]
  | cons x t ih =>
    obtain ⟨h1, h2⟩ := List.pairwise_cons.1 h
    simp only [putR]
    by_cases hx : x.id < r.id
    · rw [if_pos hx]
      refine List.pairwise_cons.2 ⟨fun y hy => ?_, ih h2⟩
      rw [putR_mem h2] at hy
      split at hy
      · rcases hy with rfl | hy
        · exact hx
        · exact h1 y hy.1
      · exact h1 y hy
    · rw [if_neg hx]
      by_cases he : x.id = r.id
      · rw [if_pos he]
        by_cases hv : r.ver ≤ x.ver
        · rw [if_pos hv]; exact h
        · rw [if_neg hv]
          exact List.pairwise_cons.2 ⟨fun y hy => by have := h1 y hy; omega, h2⟩
      · rw [if_neg he]
        refine List.pairwise_cons.2 ⟨fun y hy => ?_, h⟩
        rcases List.mem_cons.1 hy with rfl | hy
        · omega
        · have := h1 y hy; omega
theorem up_find {L R : List Rec} (h : UpOf L R) (id : Int) : findG L id = R.find? (fun x => x.id == id) := by
  have one : ∀ a b, a ∈ R → b ∈ R → a.id = b.id → a = b := by
    intro a b ha hb he
    obtain ⟨i, hi, rfl⟩ := List.mem_iff_getElem.1 ha
    obtain ⟨j, hj, rfl⟩ := List.mem_iff_getElem.1 hb
    have hp := List.pairwise_iff_getElem.1 h.1
    rcases Nat.lt_trichotomy i j with q | q | q
    · have := hp i j hi hj q; omega
    · subst q; rfl
    · have := hp j i hj hi q; omega
  unfold findG
  cases hf : R.find? (fun x => x.id == id) with
  | none =>
    rw [List.find?_eq_none] at hf ⊢
    intro x hx
    exact hf x ((h.2 x).2 hx)
  | some o =>
    have h1 := List.mem_of_find?_eq_some hf
    have h2 : o.id = id := by simpa using List.find?_some hf
    cases hg : L.find? (fun x => x.id == id) with
    | none =>
      rw [List.find?_eq_none] at hg
      exact absurd (by simpa using h2) (hg o ((h.2 o).1 h1))
    | some p =>
      have g1 := List.mem_of_find?_eq_some hg
      have g2 : p.id = id := by simpa using List.find?_some hg
      rw [one p o ((h.2 p).2 g1) h1 (by omega)]
theorem mem_setG {L : List Rec} {r o y : Rec} (ho : findG L r.id = some o) : y ∈ setG L r ↔ y = r ∨ (y ∈ L ∧ y.id ≠ r.id) := by
  have h1 := List.mem_of_find?_eq_some ho
  have h2 : o.id = r.id := by simpa using List.find?_some ho
  unfold setG
  rw [List.mem_map]
  constructor
  · rintro ⟨x, hx, rfl⟩
    by_cases h : x.id = r.id
    · rw [if_pos (by simpa using h)]; exact .inl rfl
    · rw [if_neg (by simpa using h)]; exact .inr ⟨hx, h⟩
  · rintro (rfl | ⟨h, h'⟩)
    · exact ⟨o, h1, if_pos (by simpa using h2)⟩
    · exact ⟨y, h, if_neg (by simpa using h')⟩
/-- The document's Add, one record. -/
def addR (bl : List Rng) (R : List Rec) (r : Rec) : List Rec × Int := if matchF bl r.vals = true then ((putR R r).1, if (putR R r).2 = true then 1 else 0) else (R, 0)
def addsR (bl : List Rng) (R : List Rec) (l : List Rec) : List Rec × Int := l.foldl (fun s r => ((addR bl s.1 r).1, s.2 + (addR bl s.1 r).2)) (R, 0)
theorem addsR_snoc (bl : List Rng) (R : List Rec) (l : List Rec) (r : Rec) : addsR bl R (l ++ [r]) = ((addR bl (addsR bl R l).1 r).1, (addsR bl R l).2 + (addR bl (addsR bl R l).1 r).2) := by unfold addsR; rw [List.foldl_append]; rfl
theorem up_addR {bl : List Rng} {L R : List Rec} (h : UpOf L R) (r : Rec) : UpOf (addF bl L r).1 (addR bl R r).1 ∧ (addF bl L r).2 = (addR bl R r).2 := by
  unfold addF addR
  by_cases hm : matchF bl r.vals = true
  · rw [if_pos hm, if_pos hm]
    have ht := putR_told h.1 r
    have hmem := fun y => putR_mem h.1 r y
    have hup := putR_up h.1 r
    rw [← up_find h] at ht
    cases hf : findG L r.id with
    | none =>
      rw [hf] at ht
      simp only at ht
      simp only [ht, if_true] at hmem ⊢
      refine ⟨⟨hup, fun y => ?_⟩, trivial⟩
      rw [hmem y, List.mem_append, List.mem_singleton]
      constructor
      · rintro (rfl | h1)
        · exact .inr rfl
        · exact .inl ((h.2 y).1 h1.1)
      · rintro (h1 | rfl)
        · refine .inr ⟨(h.2 y).2 h1, fun e => ?_⟩
          have := List.find?_eq_none.1 hf y h1
          simp [e] at this
        · exact .inl rfl
    | some o =>
      rw [hf] at ht
      simp only at ht
      by_cases hv : o.ver < r.ver
      · rw [decide_eq_true hv] at ht
        simp only [ht, if_true, if_pos hv] at hmem ⊢
        refine ⟨⟨hup, fun y => ?_⟩, trivial⟩
        rw [hmem y, mem_setG hf, h.2 y]
      · rw [decide_eq_false hv] at ht
        simp only [ht, if_neg hv] at hmem ⊢
        refine ⟨⟨hup, fun y => ?_⟩, by simp⟩
        rw [hmem y]
        simp only [Bool.false_eq_true, if_false]
        exact h.2 y
  · rw [if_neg hm, if_neg hm]
    exact ⟨h, rfl⟩
theorem up_addsR {bl : List Rng} {L R : List Rec} (h : UpOf L R) (l : List Rec) : UpOf (addsF bl L l).1 (addsR bl R l).1 ∧ (addsF bl L l).2 = (addsR bl R l).2 := by
  have key : ∀ n, n ≤ l.length → UpOf (addsF bl L (l.take n)).1 (addsR bl R (l.take n)).1 ∧ (addsF bl L (l.take n)).2 = (addsR bl R (l.take n)).2 := by
    intro n
    induction n with
    | zero => intro _; exact ⟨h, rfl⟩
    | succ n ih =>
      intro hn
      have hx : l[n]? = some l[n] := List.getElem?_eq_getElem (by omega)
      obtain ⟨i1, i2⟩ := ih (by omega)
      rw [List.take_add_one, hx, Option.toList_some, addsF_snoc, addsR_snoc]
      obtain ⟨j1, j2⟩ := up_addR (bl := bl) i1 l[n]
      exact ⟨j1, by rw [i2, j2]⟩
  have := key l.length (Nat.le_refl _)
  rwa [List.take_length] at this
theorem up_one {R R' : List Rec} (h : Up R) (h' : Up R') (hm : ∀ r, r ∈ R ↔ r ∈ R') : R = R' := by
  have nd : ∀ {L : List Rec}, Up L → L.Nodup := fun h => h.imp fun {a b} h e => by subst e; omega
  have hp : R.Perm R' := (List.perm_ext_iff_of_nodup (nd h) (nd h')).2 hm
  induction R generalizing R' with
  | nil => simpa using hp.symm
  | cons a t ih =>
    cases R' with
    | nil => simp at hp
    | cons b s =>
      obtain ⟨a1, a2⟩ := List.pairwise_cons.1 h
      obtain ⟨b1, b2⟩ := List.pairwise_cons.1 h'
      have e : a = b := by
        rcases List.mem_cons.1 ((hm a).1 (by simp)) with h1 | h1
        · exact h1
        · rcases List.mem_cons.1 ((hm b).2 (by simp)) with h2 | h2
          · exact h2.symm
          · have := a1 b h2; have := b1 a h1; omega
      subst e
      have hp2 : t.Perm s := List.Perm.cons_inv hp
      rw [ih a2 b2 (fun r => hp2.mem_iff) hp2]
theorem upof_same {L L' l l' : List Rec} (h : UpOf L l) (h' : UpOf L' l') (hm : ∀ r, r ∈ L ↔ r ∈ L') : l = l' := up_one h.1 h'.1 fun r => (h.2 r).trans ((hm r).trans (h'.2 r).symm)
theorem upof_ref {L R l : List Rec} (h : UpOf L R) (h' : UpOf L l) : l = R := up_one h'.1 h.1 fun r => (h'.2 r).trans (h.2 r).symm

/-- The newest of its id that matches. -/
def Bst (bl : List Rng) (s : List Rec) (x : Rec) : Prop := x ∈ s ∧ matchF bl x.vals = true ∧ ∀ y ∈ s, matchF bl y.vals = true → y.id = x.id → y.ver ≤ x.ver
/-- No two of one id and version are unlike. -/
def Alike (s : List Rec) : Prop := ∀ a ∈ s, ∀ b ∈ s, a.id = b.id → a.ver = b.ver → a = b
theorem ver_bound (t : List Rec) (b : Int) : ∃ n : Nat, ∀ u ∈ t, u.ver ≤ b + n := by
  induction t with
  | nil => exact ⟨0, fun u hu => by simp at hu⟩
  | cons a t ih =>
    obtain ⟨n, hn⟩ := ih
    refine ⟨n + (a.ver - b).toNat, fun u hu => ?_⟩
    rcases List.mem_cons.1 hu with rfl | hu
    · omega
    · have := hn u hu; omega
theorem gathered {bl : List Rng} {s : List Rec} (h : Alike s) : (∀ x, x ∈ (addsF bl [] s).1 ↔ Bst bl s x) ∧ (addsF bl [] s).1.length ≤ s.length := by
  refine ⟨?_, by have := (addsF_len bl [] s).1; simpa using this⟩
  have key : ∀ n, n ≤ s.length → ∀ x, x ∈ (addsF bl [] (s.take n)).1 ↔ Bst bl (s.take n) x := by
    intro n
    induction n with
    | zero => intro _ x; simp [addsF, Bst]
    | succ n ih =>
      intro hn x
      have ih := ih (by omega)
      have hx : s[n]? = some s[n] := List.getElem?_eq_getElem (by omega)
      rw [List.take_add_one, hx, Option.toList_some, addsF_snoc]
      have hal : ∀ a ∈ s.take n ++ [s[n]], ∀ b ∈ s.take n ++ [s[n]], a.id = b.id → a.ver = b.ver → a = b := by
        have hsub : ∀ a ∈ s.take n ++ [s[n]], a ∈ s := by
          intro a ha
          rcases List.mem_append.1 ha with h1 | h1
          · exact List.mem_of_mem_take h1
          · rw [List.mem_singleton] at h1; subst h1; exact List.getElem_mem _
        exact fun a ha b hb => h a (hsub a ha) b (hsub b hb)
      generalize s.take n = t at *
      generalize s[n] = r at *
      generalize (addsF bl [] t).1 = M at *
      simp only
      unfold addF
      by_cases hm : matchF bl r.vals = true
      · rw [if_pos hm]
        cases hf : findG M r.id with
        | some o =>
          have o1 := List.mem_of_find?_eq_some hf
          have o2 : o.id = r.id := by simpa using List.find?_some hf
          obtain ⟨q1, q2, q3⟩ := (ih o).1 o1
          simp only
          by_cases hv : o.ver < r.ver
          · rw [if_pos hv, mem_setG hf]
            unfold Bst
            constructor
            · rintro (rfl | ⟨h1, h2⟩)
              · refine ⟨by simp, hm, fun y hy hym hyi => ?_⟩
                rcases List.mem_append.1 hy with hy | hy
                · have := q3 y hy hym (by omega); omega
                · rw [List.mem_singleton] at hy; subst hy; omega
              · obtain ⟨p1, p2, p3⟩ := (ih x).1 h1
                refine ⟨by simp [p1], p2, fun y hy hym hyi => ?_⟩
                rcases List.mem_append.1 hy with hy | hy
                · exact p3 y hy hym hyi
                · rw [List.mem_singleton] at hy; subst hy; exact absurd hyi.symm h2
            · rintro ⟨h1, h2, h3⟩
              rcases List.mem_append.1 h1 with h1 | h1
              · by_cases he : x.id = r.id
                · have := h3 r (by simp) hm he.symm
                  have := q3 x h1 h2 (by omega); omega
                · exact .inr ⟨(ih x).2 ⟨h1, h2, fun y hy => h3 y (by simp [hy])⟩, he⟩
              · rw [List.mem_singleton] at h1; exact .inl h1
          · rw [if_neg hv, ih x]
            unfold Bst
            constructor
            · rintro ⟨h1, h2, h3⟩
              refine ⟨by simp [h1], h2, fun y hy hym hyi => ?_⟩
              rcases List.mem_append.1 hy with hy | hy
              · exact h3 y hy hym hyi
              · rw [List.mem_singleton] at hy; subst hy
                have := h3 o q1 q2 (by omega); omega
            · rintro ⟨h1, h2, h3⟩
              rcases List.mem_append.1 h1 with h1 | h1
              · exact ⟨h1, h2, fun y hy => h3 y (by simp [hy])⟩
              · rw [List.mem_singleton] at h1; subst h1
                have h4 := h3 o (by simp [q1]) q2 o2
                have : o = x := hal o (by simp [q1]) x (by simp) o2 (by omega)
                subst this
                exact ⟨q1, q2, q3⟩
        | none =>
          have hno : ∀ y ∈ M, y.id ≠ r.id := fun y hy e => by have := List.find?_eq_none.1 hf y hy; simp [e] at this
          simp only
          rw [List.mem_append, List.mem_singleton]
          have hnt : ∀ y ∈ t, matchF bl y.vals = true → y.id ≠ r.id := by
            intro y hy hym he
            have top : ∀ (n : Nat) (z : Rec), z ∈ t → matchF bl z.vals = true → z.id = r.id → (∀ y ∈ t, matchF bl y.vals = true → y.id = r.id → y.ver ≤ z.ver + n) → False := by
              intro n
              induction n with
              | zero => intro z hz hzm hze hb; exact hno z ((ih z).2 ⟨hz, hzm, fun y hy hym hyi => by have := hb y hy hym (by omega); omega⟩) hze
              | succ n ihn =>
                intro z hz hzm hze hb
                by_cases hex : ∃ y ∈ t, matchF bl y.vals = true ∧ y.id = r.id ∧ z.ver < y.ver
                · obtain ⟨y, y1, y2, y3, y4⟩ := hex
                  exact ihn y y1 y2 y3 fun u hu hum hui => by have := hb u hu hum hui; omega
                · exact hno z ((ih z).2 ⟨hz, hzm, fun y hy hym hyi => by
                    rcases Int.lt_or_le z.ver y.ver with h1 | h1
                    · exact absurd ⟨y, hy, hym, by omega, h1⟩ hex
                    · exact h1⟩) hze
            have hbound := ver_bound t y.ver
            obtain ⟨n, hn⟩ := hbound
            exact top n y hy hym he fun u hu _ _ => hn u hu
          constructor
          · rintro (h1 | rfl)
            · obtain ⟨p1, p2, p3⟩ := (ih x).1 h1
              refine ⟨by simp [p1], p2, fun y hy hym hyi => ?_⟩
              rcases List.mem_append.1 hy with hy | hy
              · exact p3 y hy hym hyi
              · rw [List.mem_singleton] at hy; subst hy; exact absurd hyi.symm (hno x h1)
            · refine ⟨by simp, hm, fun y hy hym hyi => ?_⟩
              rcases List.mem_append.1 hy with hy | hy
              · exact absurd hyi (hnt y hy hym)
              · rw [List.mem_singleton] at hy; subst hy; omega
          · rintro ⟨h1, h2, h3⟩
            rcases List.mem_append.1 h1 with h1 | h1
            · exact .inl ((ih x).2 ⟨h1, h2, fun y hy => h3 y (by simp [hy])⟩)
            · rw [List.mem_singleton] at h1; exact .inr h1
      · rw [if_neg hm, ih x]
        unfold Bst
        constructor
        · rintro ⟨h1, h2, h3⟩
          refine ⟨by simp [h1], h2, fun y hy hym hyi => ?_⟩
          rcases List.mem_append.1 hy with hy | hy
          · exact h3 y hy hym hyi
          · rw [List.mem_singleton] at hy; subst hy; exact absurd hym hm
        · rintro ⟨h1, h2, h3⟩
          rcases List.mem_append.1 h1 with h1 | h1
          · exact ⟨h1, h2, fun y hy => h3 y (by simp [hy])⟩
          · rw [List.mem_singleton] at h1; subst h1; exact absurd h2 hm
  have := key s.length (Nat.le_refl _)
  rwa [List.take_length] at this
/-- Only what comes matters, in whatever order, however often. -/
theorem gathered_same {bl : List Rng} {s s' : List Rec} (h : Alike s) (hm : ∀ x, x ∈ s ↔ x ∈ s') : ∀ r, r ∈ (addsF bl [] s).1 ↔ r ∈ (addsF bl [] s').1 := by
  have h' : Alike s' := fun a ha b hb => h a ((hm a).2 ha) b ((hm b).2 hb)
  intro r
  rw [(gathered h).1, (gathered h').1]
  unfold Bst
  constructor
  · rintro ⟨h1, h2, h3⟩; exact ⟨(hm r).1 h1, h2, fun y hy => h3 y ((hm y).2 hy)⟩
  · rintro ⟨h1, h2, h3⟩; exact ⟨(hm r).2 h1, h2, fun y hy => h3 y ((hm y).1 hy)⟩
theorem addsF_two (bl : List Rng) (L l l' : List Rec) : (addsF bl (addsF bl L l).1 l').1 = (addsF bl L (l ++ l')).1 := by
  have key : ∀ (l' : List Rec) (M : List Rec) (s t : Int), (l'.foldl (fun s r => ((addF bl s.1 r).1, s.2 + (addF bl s.1 r).2)) (M, s)).1 = (l'.foldl (fun s r => ((addF bl s.1 r).1, s.2 + (addF bl s.1 r).2)) (M, t)).1 := by
    intro l'
    induction l' with
    | nil => intro M s t; rfl
    | cons r l' ih => intro M s t; exact ih _ _ _
  unfold addsF
  rw [List.foldl_append]
  exact key _ _ _ _
end Go.Proofs.YtdpamikobmefeaaGreat
