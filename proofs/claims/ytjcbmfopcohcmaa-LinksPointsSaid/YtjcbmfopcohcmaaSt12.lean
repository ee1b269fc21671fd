/- The rings and the dice of a law: what is known of them. Conditions: none. -/
import Derived.Test.YtjcbmfopcohcmaaMade12
import Derived.Test.YtjcbmfopcohcmaaLinksOf
namespace Go.Proofs.Ytjcbmfopcohcmaa
open Go.RowKit Go.ChangeShapes
set_option maxRecDepth 100000
set_option linter.unusedVariables false
set_option linter.unusedSimpArgs false

theorem LinksAns.one {l : List Int} {p n s s1 s2 : Int} {x y : List Int} (h : LinksAns l p n s x s1) (k : LinksAns l p n s y s2) : x = y ∧ s1 = s2 := by
  unfold LinksAns at h k
  by_cases hp : p ∈ l
  · rw [if_pos hp] at h k
    exact ⟨h.1.one k.1, h.2.trans k.2.symm⟩
  · rw [if_neg hp] at h k
    exact ⟨h.1.trans k.1.symm, h.2.trans k.2.symm⟩
theorem LinksAns.bound {l : List Int} {p n s s1 : Int} {x : List Int} (h : LinksAns l p n s x s1) (h0 : 0 ≤ s) (h1 : s < 18446744073709551616) : 0 ≤ s1 ∧ s1 < 18446744073709551616 := by
  unfold LinksAns at h
  by_cases hp : p ∈ l
  · rw [if_pos hp] at h; rw [h.2]; exact diceAt_bound h0 h1 _
  · rw [if_neg hp] at h; rw [h.2]; exact ⟨h0, h1⟩
/-- The two rings, the two dice. -/
def L12 (W : World) (r q db eb : Nat) (P : List Int) (s t : Int) (w : World) : Prop :=
  ∃ c, Below W.heap.size W w ∧ Fresh c w ∧ RingR c [1] w r P ∧ RefRing c [2] w q P ∧ Box w db #[.int .u64 s] ∧ Box w eb #[.int .u64 t] ∧ c db = [] ∧ c eb = [] ∧ db ≠ eb ∧ W.heap.size ≤ db ∧ W.heap.size ≤ eb
section
variable {W w w' : World} {r q db eb : Nat} {P : List Int} {s t s' : Int}
theorem L12.later (h : L12 W r q db eb P s t w) (hb : Below w.heap.size w w') : L12 W r q db eb P s t w' := by
  obtain ⟨c, h1, h2, h3, h4, h5, h6, h7⟩ := h
  exact ⟨c, below_from h1 hb h1.size, fun k hk => h2 k (Nat.le_trans hb.size hk), h3.later h2 hb, h4.later h2 hb, h5.below hb h5.lt, h6.below hb h6.lt, h7⟩
theorem L12.turnD (h : L12 W r q db eb P s t w) (ho : Only (· = db) w w') (hx : Box w' db #[.int .u64 s']) : L12 W r q db eb P s' t w' := by
  obtain ⟨c, h1, h2, h3, h4, h5, h6, h7, h8, h9, h10, h11⟩ := h
  exact ⟨c, h1.trans (ho.below h1.size fun k hk => by rw [hk]; exact h10), fun k hk => h2 k (Nat.le_trans ho.size hk), h3.dice h2 (by rw [h7]; simp) ho, h4.dice h2 (by rw [h7]; simp) ho, hx, h6.only ho (fun e => h9 e.symm), h7, h8, h9, h10, h11⟩
theorem L12.turnE (h : L12 W r q db eb P s t w) (ho : Only (· = eb) w w') (hx : Box w' eb #[.int .u64 s']) : L12 W r q db eb P s s' w' := by
  obtain ⟨c, h1, h2, h3, h4, h5, h6, h7, h8, h9, h10, h11⟩ := h
  exact ⟨c, h1.trans (ho.below h1.size fun k hk => by rw [hk]; exact h11), fun k hk => h2 k (Nat.le_trans ho.size hk), h3.dice h2 (by rw [h8]; simp) ho, h4.dice h2 (by rw [h8]; simp) ho, h5.only ho h9, hx, h7, h8, h9, h10, h11⟩
theorem L12.below (h : L12 W r q db eb P s t w) : Below W.heap.size W w := by obtain ⟨c, h1, _⟩ := h; exact h1
theorem L12.dice (h : L12 W r q db eb P s t w) : Box w db #[.int .u64 s] := by obtain ⟨c, _, _, _, _, h5, _⟩ := h; exact h5
theorem L12.edice (h : L12 W r q db eb P s t w) : Box w eb #[.int .u64 t] := by obtain ⟨c, _, _, _, _, _, h6, _⟩ := h; exact h6
theorem L12.start (h : Two W r q P w) (hd : Box w' db #[.int .u64 s]) (he : Box w' eb #[.int .u64 t]) (hb : Below w.heap.size w w') (h1 : w.heap.size ≤ db) (h2 : w.heap.size ≤ eb) (h3 : db ≠ eb) : L12 W r q db eb P s t w' := by
  have hB := h.below
  obtain ⟨c, S, R1, R2⟩ := h
  exact ⟨c, below_from hB hb hB.size, fun k hk => S.fresh k (Nat.le_trans hb.size hk), R1.later S.fresh hb, R2.later S.fresh hb, hd, he, S.fresh db h1, S.fresh eb h2, h3, Nat.le_trans hB.size h1, Nat.le_trans hB.size h2⟩
/-- The program's links. -/
theorem l12_of {p n : Int} (h : L12 W r q db eb P s t w) (h0 : 0 ≤ s) (h1 : s < 18446744073709551616) (hp : U32 p) :
    Calls Try.prog 28 #[.pointer (some ⟨r, 0, none⟩), .int .u32 p, .int .i64 n, .pointer (some ⟨db, 0, none⟩)] w fun e w' =>
      ∃ A cap x s', e = .returned (.slice A x.length cap) ∧ LinksAns P p n s x s' ∧ Ints w' (fun b => w.heap.size ≤ b ∧ b < w'.heap.size) .u32 4 A x.length cap x ∧ L12 W r q db eb P s' t w' := by
  have H := h
  obtain ⟨c, _, h2, h3, _, h5, _, h7, _⟩ := h
  refine (links_of h3 h2 (by rw [h7]; simp) h5 h0 h1 hp).mono ?_
  rintro e w' ⟨A, cap, x, s', e1, e2, e3, e4, e5⟩
  exact ⟨A, cap, x, s', e1, e2, e3, H.turnD e4 e5⟩
/-- The document's links. -/
theorem l12_ref {p n : Int} (h : L12 W r q db eb P s t w) (h0 : 0 ≤ t) (h1 : t < 18446744073709551616) (hp : U32 p) :
    Calls Try.prog 29 #[.pointer (some ⟨q, 0, none⟩), .int .u32 p, .int .i64 n, .pointer (some ⟨eb, 0, none⟩)] w fun e w' =>
      ∃ A cap x t', e = .returned (.slice A x.length cap) ∧ LinksAns P p n t x t' ∧ Ints w' (fun b => w.heap.size ≤ b ∧ b < w'.heap.size) .u32 4 A x.length cap x ∧ L12 W r q db eb P s t' w' ∧ Only (· = eb) w w' := by
  have H := h
  obtain ⟨c, _, h2, _, h4, _, h6, _, h8, _⟩ := h
  refine (rlinks (h4.at (S := (· = eb)) (fun b hb => by rw [hb, h8]; simp)) h6 h0 h1 hp).mono ?_
  rintro e w' ⟨A, cap, x, s', e1, e2, e3, e4, e5⟩
  exact ⟨A, cap, x, s', e1, e2, e3, H.turnE e4 e5, e4⟩
end
/-- The two rings, the dice. -/
def L13 (W : World) (r q db : Nat) (P : List Int) (s : Int) (w : World) : Prop :=
  ∃ c, Below W.heap.size W w ∧ Fresh c w ∧ RingR c [1] w r P ∧ RefRing c [2] w q P ∧ Box w db #[.int .u64 s] ∧ c db = [] ∧ W.heap.size ≤ db
section
variable {W w w' : World} {r q db : Nat} {P : List Int} {s s' : Int}
theorem L13.later (h : L13 W r q db P s w) (hb : Below w.heap.size w w') : L13 W r q db P s w' := by
  obtain ⟨c, h1, h2, h3, h4, h5, h7⟩ := h
  exact ⟨c, below_from h1 hb h1.size, fun k hk => h2 k (Nat.le_trans hb.size hk), h3.later h2 hb, h4.later h2 hb, h5.below hb h5.lt, h7⟩
theorem L13.turnD (h : L13 W r q db P s w) (ho : Only (· = db) w w') (hx : Box w' db #[.int .u64 s']) : L13 W r q db P s' w' := by
  obtain ⟨c, h1, h2, h3, h4, h5, h7, h10⟩ := h
  exact ⟨c, h1.trans (ho.below h1.size fun k hk => by rw [hk]; exact h10), fun k hk => h2 k (Nat.le_trans ho.size hk), h3.dice h2 (by rw [h7]; simp) ho, h4.dice h2 (by rw [h7]; simp) ho, hx, h7, h10⟩
theorem L13.below (h : L13 W r q db P s w) : Below W.heap.size W w := by obtain ⟨c, h1, _⟩ := h; exact h1
theorem L13.start (h : Two W r q P w) (hd : Box w' db #[.int .u64 s]) (hb : Below w.heap.size w w') (h1 : w.heap.size ≤ db) : L13 W r q db P s w' := by
  have hB := h.below
  obtain ⟨c, S, R1, R2⟩ := h
  exact ⟨c, below_from hB hb hB.size, fun k hk => S.fresh k (Nat.le_trans hb.size hk), R1.later S.fresh hb, R2.later S.fresh hb, hd, S.fresh db h1, Nat.le_trans hB.size h1⟩
theorem L13.ok (h : L13 W r q db P s w) : PtsOk P ∧ P.length ≤ 64 := by
  obtain ⟨c, _, _, _, h4, _⟩ := h
  obtain ⟨_, _, _, _, _, _, hk, hl⟩ := h4
  exact ⟨hk, hl⟩
/-- The document's points. -/
theorem L13.pts (h : L13 W r q db P s w) : ∃ (A : Option Addr) (cap : Nat), Box w q #[.slice A P.length cap] ∧ Ints w (fun b => b ≠ db ∧ q ≠ db ∧ b < w.heap.size) .u32 4 A P.length cap P := by
  obtain ⟨c, h1, h2, h3, h4, h5, h7, h10⟩ := h
  obtain ⟨A, cap, hb, hn, hi, _⟩ := h4.at (S := (· = db)) (fun b hb => by rw [hb, h7]; simp)
  exact ⟨A, cap, hb, Ints.move hi fun b hb _ => ⟨rfl, hb.1, hn, hb.2⟩⟩
theorem l13_of {p n : Int} (h : L13 W r q db P s w) (h0 : 0 ≤ s) (h1 : s < 18446744073709551616) (hp : U32 p) :
    Calls Try.prog 28 #[.pointer (some ⟨r, 0, none⟩), .int .u32 p, .int .i64 n, .pointer (some ⟨db, 0, none⟩)] w fun e w' =>
      ∃ A cap x s', e = .returned (.slice A x.length cap) ∧ LinksAns P p n s x s' ∧ Ints w' (fun b => w.heap.size ≤ b ∧ b < w'.heap.size) .u32 4 A x.length cap x ∧ L13 W r q db P s' w' ∧ Only (· = db) w w' := by
  have H := h
  obtain ⟨c, _, h2, h3, _, h5, h7, _⟩ := h
  refine (links_of h3 h2 (by rw [h7]; simp) h5 h0 h1 hp).mono ?_
  rintro e w' ⟨A, cap, x, s', e1, e2, e3, e4, e5⟩
  exact ⟨A, cap, x, s', e1, e2, e3, H.turnD e4 e5, e4⟩
theorem l13_next {p : Int} (h : L13 W r q db P s w) (hn : 0 < P.length) :
    Calls Try.prog 35 #[.pointer (some ⟨q, 0, none⟩), .int .u32 p] w fun e w' => e = .returned (.tuple #[.int .u32 (ptF P ((p + 1) % 4294967296)), .bool true]) ∧ Below w.heap.size w w' := by
  obtain ⟨c, _, _, _, h4, _, h7, _⟩ := h
  exact rnext_at p w (h4.at (S := (· = db)) (fun b hb => by rw [hb, h7]; simp)) hn
end
theorem nodup_le : ∀ {x q : List Int}, x.Nodup → (∀ y ∈ x, y ∈ q) → x.length ≤ q.length
  | [], _, _, _ => Nat.zero_le _
  | a :: r, q, hn, hm => by
    obtain ⟨h1, h2⟩ := List.nodup_cons.1 hn
    have ha := hm a (by simp)
    have h3 := nodup_le (q := q.erase a) h2 (fun y hy => (List.mem_erase_of_ne (fun (e : y = a) => h1 (by rw [← e]; exact hy))).2 (hm y (by simp [hy])))
    rw [List.length_erase_of_mem ha] at h3
    have := List.length_pos_of_mem ha
    simp only [List.length_cons]; omega
theorem Rises.len {p : Int} {q x : List Int} (h : Rises p q x) : x.length ≤ q.length :=
  nodup_le (h.up.imp fun hab e => by rw [e] at hab; exact absurd hab (Int.lt_irrefl _)) fun y hy => (h.mem y).1 hy
end Go.Proofs.Ytjcbmfopcohcmaa
