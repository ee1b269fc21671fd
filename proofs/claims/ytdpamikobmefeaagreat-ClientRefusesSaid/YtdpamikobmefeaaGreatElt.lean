/- Slices and rows of elements of any kind, by one word: how an element reads from its cells. Conditions: none. -/
import Derived.Test.YtdpamikobmefeaaGreatApp
namespace Go.Proofs.YtdpamikobmefeaaGreat
open Go.RowKit Go.ChangeShapes
set_option linter.unusedVariables false
set_option linter.unusedSimpArgs false

/-- Where what nobody turns lies. -/
abbrev Quiet (c : Col) (w : World) (b : Nat) : Prop := c b = [] ∧ b < w.heap.size
/-- How an element of a slice reads. -/
structure Elt (P : Program) (α : Type) where
  T : TypeId
  ST : TypeId
  k : Nat
  bytes : Nat
  zero : Value
  rd : World → (Nat → Prop) → List Value → α → Prop
  pos : 0 < k
  len : ∀ {w : World} {D : Nat → Prop} {cs : List Value} {x : α}, rd w D cs x → cs.length = k
  one : ∀ {w : World} {D : Nat → Prop} {cs : List Value} {x : α}, rd w D cs x → ∀ u ∈ cs, u.oneCell' = true
  move : ∀ {w w' : World} {D D' : Nat → Prop} {cs : List Value} {x : α}, rd w D cs x → (∀ b, D b → b < w.heap.size → w'.heap[b]? = w.heap[b]? ∧ D' b) → rd w' D' cs x
  und : P.underlying ST = some (.slice T)
  info : ∃ i : TypeInfo, P.info? T = some i ∧ i.zero = some zero ∧ i.size = k ∧ i.bytes = bytes
  zlen : zero.cells.size = k
  blim : bytes ≤ 100000

theorem flatten_at {k : Nat} (hk : 0 < k) : ∀ {M : List (List Value)}, (∀ m ∈ M, m.length = k) → ∀ j : Nat, M.flatten[j]? = (M[j / k]?).bind fun m => m[j % k]?
  | [], _, j => by simp
  | m :: M, h, j => by
    have hm := h m (by simp)
    rw [List.flatten_cons]
    by_cases hj : j < k
    · rw [List.getElem?_append_left (by omega), Nat.div_eq_of_lt hj, Nat.mod_eq_of_lt hj]; rfl
    · rw [List.getElem?_append_right (by omega), hm, flatten_at hk (fun x hx => h x (by simp [hx])) (j - k)]
      obtain ⟨q, rfl⟩ : ∃ q, j = q + k := ⟨j - k, by omega⟩
      rw [Nat.add_sub_cancel, Nat.add_div_right _ hk, Nat.add_mod_right, List.getElem?_cons_succ]
theorem flatten_len {k : Nat} : ∀ {M : List (List Value)}, (∀ m ∈ M, m.length = k) → M.flatten.length = M.length * k
  | [], _ => by simp
  | m :: M, h => by rw [List.flatten_cons, List.length_append, flatten_len (fun x hx => h x (by simp [hx])), h m (by simp), List.length_cons, Nat.add_mul, Nat.one_mul, Nat.add_comm]
theorem flatten_cell {k : Nat} (hk : 0 < k) {M : List (List Value)} (h : ∀ m ∈ M, m.length = k) {j t : Nat} {m : List Value} (hm : M[j]? = some m) (ht : t < k) : M.flatten[j * k + t]? = m[t]? := by
  rw [flatten_at hk h, show (j * k + t) / k = j by rw [Nat.mul_comm, Nat.mul_add_div hk, Nat.div_eq_of_lt ht]; omega, show (j * k + t) % k = t by rw [Nat.mul_comm, Nat.mul_add_mod, Nat.mod_eq_of_lt ht], hm]
  rfl

variable {P : Program} {α : Type} (E : Elt P α)
/-- A slice that is read. -/
def Elt.At (w : World) (D : Nat → Prop) (A : Option Addr) (n cap : Nat) (l : List α) : Prop :=
  l.length = n ∧ n ≤ cap ∧ cap ≤ 9223372036854775807 ∧ (A = none → cap = 0) ∧ (0 < n → ∃ b off, A = some ⟨b, off, none⟩ ∧ D b ∧ ∀ (j : Nat) x, l[j]? = some x → ∃ cs, (∀ (t : Nat) u, cs[t]? = some u → w.cell? ⟨b, off + j * E.k + t, none⟩ = some u) ∧ E.rd w D cs x)
/-- A row of one's own: its block has a colour. -/
def Elt.Row (c : Col) (π : List Int) (w : World) (v : Value) (L : List α) : Prop :=
  ∃ M : List (List Value), w.ownsRow 0 E.T E.k v M.length M.flatten ∧ (∀ g, v.ownBlock = some g → c g = π) ∧ M.length = L.length ∧ (∀ m ∈ M, m.length = E.k) ∧ ∀ (j : Nat) m x, M[j]? = some m → L[j]? = some x → E.rd w (Quiet c w) m x

section
variable {E} {w w' : World} {D D' : Nat → Prop} {A : Option Addr} {n cap : Nat} {l L : List α} {c c' : Col} {π π' : List Int} {v : Value}
theorem Elt.At.move (h : E.At w D A n cap l) (hm : ∀ b, D b → b < w.heap.size → w'.heap[b]? = w.heap[b]? ∧ D' b) : E.At w' D' A n cap l := by
  obtain ⟨h1, h2, h3, h4, h5⟩ := h
  refine ⟨h1, h2, h3, h4, fun hn => ?_⟩
  obtain ⟨b, off, rfl, hd, hc⟩ := h5 hn
  have hlt : b < w.heap.size := by
    obtain ⟨cs, q0, q1⟩ := hc 0 (l[0]'(by omega)) (List.getElem?_eq_getElem (by omega))
    have := E.len q1; have := E.pos
    exact World.block_lt_of_cell? w _ (q0 0 (cs[0]'(by omega)) (List.getElem?_eq_getElem (by omega)))
  obtain ⟨q1, q2⟩ := hm b hd hlt
  refine ⟨b, off, rfl, q2, fun j x hj => ?_⟩
  obtain ⟨cs, c0, c1⟩ := hc j x hj
  exact ⟨cs, fun t u hu => by rw [← c0 t u hu]; exact World.cell?_of_block q1, E.move c1 hm⟩
theorem Elt.At.imp (h : E.At w D A n cap l) (hD : ∀ b, D b → D' b) : E.At w D' A n cap l := h.move fun b hb _ => ⟨rfl, hD b hb⟩
theorem Elt.At.later (h : E.At w (· < w.heap.size) A n cap l) (hb : Below w.heap.size w w') : E.At w' (· < w'.heap.size) A n cap l := h.move fun b _ hlt => ⟨hb.block b hlt, Nat.lt_of_lt_of_le hlt hb.size⟩
theorem Elt.At.nil (w : World) (D : Nat → Prop) : E.At w D none 0 0 [] := ⟨rfl, Nat.le_refl _, by omega, fun _ => rfl, fun h => by omega⟩
/-- One made element. -/
theorem Elt.At.one {b : Nat} {C : Array Value} {x : α} (hb : Box w b C) (hd : D b) (hx : E.rd w D C.toList x) : E.At w D (some ⟨b, 0, none⟩) 1 1 [x] := by
  refine ⟨rfl, by omega, by omega, (fun h => by cases h), fun _ => ⟨b, 0, rfl, hd, fun j y hj => ?_⟩⟩
  have hj0 : j = 0 := by
    have := (List.getElem?_eq_some_iff.1 hj).1
    simp at this; omega
  subst hj0
  simp only [List.getElem?_cons_zero, Option.some.injEq] at hj
  subst hj
  refine ⟨C.toList, fun t u hu => ?_, hx⟩
  simp only [Nat.zero_mul, Nat.zero_add]
  rw [hb.cell, ← Array.getElem?_toList]; exact hu
/-- A part of a slice. -/
theorem Elt.At.part {b off : Nat} (h : E.At w D (some ⟨b, off, none⟩) n cap l) (i m cap' : Nat) (hi : i + m ≤ n) (hc : m ≤ cap') (hc' : cap' ≤ 9223372036854775807) : E.At w D (some ⟨b, off + i * E.k, none⟩) m cap' ((l.drop i).take m) := by
  obtain ⟨h1, h2, h3, h4, h5⟩ := h
  refine ⟨by simp; omega, hc, hc', (fun h => by cases h), fun hm => ?_⟩
  obtain ⟨b', off', he, hd, hcs⟩ := h5 (by omega)
  injection he with he
  injection he with e1 e2
  subst e1 e2
  refine ⟨b, _, rfl, hd, fun j x hj => ?_⟩
  have hjm : j < m := by have := (List.getElem?_eq_some_iff.1 hj).1; simp at this; omega
  rw [List.getElem?_take_of_lt hjm, List.getElem?_drop] at hj
  obtain ⟨cs, q1, q2⟩ := hcs (i + j) x hj
  refine ⟨cs, fun t u hu => ?_, q2⟩
  rw [show off + i * E.k + j * E.k + t = off + (i + j) * E.k + t by rw [Nat.add_mul]; omega]
  exact q1 t u hu

theorem Elt.At.first {x : α} (h : E.At w D A n cap l) (hx : l[0]? = some x) : ∃ b off, A = some ⟨b, off, none⟩ ∧ D b ∧ ∃ cs, (∀ (t : Nat) u, cs[t]? = some u → w.cell? ⟨b, off + t, none⟩ = some u) ∧ E.rd w D cs x := by
  have h1 := h.1
  have := (List.getElem?_eq_some_iff.1 hx).1
  obtain ⟨b, off, e, hd, hc⟩ := h.2.2.2.2 (by omega)
  obtain ⟨cs, q1, q2⟩ := hc 0 x hx
  exact ⟨b, off, e, hd, cs, fun t u hu => by have := q1 t u hu; rwa [Nat.zero_mul, Nat.add_zero] at this, q2⟩
theorem Elt.At.head (h : E.At w D A n cap l) {m cap' : Nat} (hm : m ≤ n) (hc : m ≤ cap') (hc' : cap' ≤ 9223372036854775807) (h0 : A = none → cap' = 0) : E.At w D A m cap' (l.take m) := by
  obtain ⟨h1, h2, h3, h4, h5⟩ := h
  refine ⟨by simp; omega, hc, hc', h0, fun hn => ?_⟩
  obtain ⟨b, off, rfl, hd, hcs⟩ := h5 (by omega)
  refine ⟨b, off, rfl, hd, fun j x hj => ?_⟩
  have hjm : j < m := by have := (List.getElem?_eq_some_iff.1 hj).1; simp at this; omega
  rw [List.getElem?_take_of_lt hjm] at hj
  exact hcs j x hj
theorem Elt.At.tail {b off : Nat} (h : E.At w D (some ⟨b, off, none⟩) n cap l) (hn : 0 < n) : E.At w D (if cap = 1 then some ⟨b, off, none⟩ else some ⟨b, off + E.k, none⟩) (n - 1) (cap - 1) (l.drop 1) := by
  have h1 := h.1; have h2 := h.2.1; have h3 := h.2.2.1
  by_cases hc : cap = 1
  · have hn1 : n = 1 := by omega
    subst hc hn1
    rw [if_pos rfl]
    have : l.drop 1 = [] := List.eq_nil_of_length_eq_zero (by simp; omega)
    rw [this]
    exact ⟨rfl, by omega, by omega, (fun h => by cases h), fun h => by omega⟩
  · rw [if_neg hc]
    have := h.part 1 (n - 1) (cap - 1) (by omega) (by omega) (by omega)
    rw [Nat.one_mul, List.take_of_length_le (by simp; omega)] at this
    exact this
theorem owns_lt' {e size g : Nat} {base : Nat} {xs : List Value} (h : w.ownsRow base e size v n xs) (hg : v.ownBlock = some g) : g < w.heap.size := owns_lt h hg
theorem Elt.Row.keep (h : E.Row c π w v L) (ho : Only (fun b => c b ≠ [] ∧ c b ≠ π) w w') (hc0 : ∀ b, b < w.heap.size → c b = [] → c' b = []) (hc1 : ∀ b, b < w.heap.size → c b = π → c' b = π') : E.Row c' π' w' v L := by
  obtain ⟨M, hr, hg, hl, hk, hd⟩ := h
  exact ⟨M, ownsRow_only hr ho (fun g hg' hn => hn.2 (hg g hg')), fun g hg' => hc1 g (owns_lt hr hg') (hg g hg'), hl, hk,
    fun j m x hm hx => E.move (hd j m x hm hx) fun b hb hlt => ⟨ho.block b hlt (fun hn => hn.1 hb.1), hc0 b hlt hb.1, Nat.lt_of_lt_of_le hlt ho.size⟩⟩
theorem Elt.Row.step {C : List Int → Prop} (h : E.Row c π w v L) (hs : Stp C c w c' w') (hπ : ¬ C π) (hC : ¬ C []) : E.Row c' π w' v L :=
  h.keep (hs.only.mono fun b _ hb => ⟨fun e => hC (by rw [← e]; exact hb), fun e => hπ (by rw [← e]; exact hb)⟩) (fun b hlt hb => (hs.col b hlt).trans hb) (fun b hlt hb => (hs.col b hlt).trans hb)
theorem Elt.Row.later (h : E.Row c π w v L) (hf : Fresh c w) (hb : Below w.heap.size w w') : E.Row c π w' v L :=
  h.step (C := fun _ => False) (Stp.of_below _ hf hb) id id
theorem Elt.Row.nil (c : Col) (π : List Int) (w : World) : E.Row c π w (.slice none 0 0) [] := ⟨[], ⟨by simp, .inl ⟨rfl, rfl⟩⟩, (fun g hg => by cases hg), rfl, (fun m hm => by simp at hm), fun j m x hm => by simp at hm⟩
theorem Elt.Row.shape (h : E.Row c π w v L) : ∃ A cap, v = .slice A L.length cap ∧ L.length ≤ cap ∧ cap ≤ 9223372036854775807 ∧ (A = none → L.length = 0 ∧ cap = 0) ∧ ∀ ad, A = some ad → ∃ g, ad = ⟨g, 0, none⟩ ∧ c g = π ∧ g < w.heap.size := by
  obtain ⟨M, ho, hg, hl, _⟩ := h
  rw [hl] at ho
  obtain ⟨A, cap, rfl, h1, h2, h3, h4⟩ := owns_shape ho
  refine ⟨A, cap, rfl, h1, h2, h3, fun ad ha => ?_⟩
  obtain ⟨g, cur, rfl, hb, _⟩ := h4 ad ha
  subst ha
  exact ⟨g, rfl, hg g rfl, hb.lt⟩
theorem Elt.Row.cells {g : Nat} (h : E.Row c π w (.slice (some ⟨g, 0, none⟩) n cap) L) {j : Nat} {x : α} (hx : L[j]? = some x) : ∃ cs, (∀ (t : Nat) u, cs[t]? = some u → w.cell? ⟨g, j * E.k + t, none⟩ = some u) ∧ E.rd w (Quiet c w) cs x := by
  obtain ⟨M, ho, hg, hl, hk, hd⟩ := h
  obtain ⟨m, hm⟩ : ∃ m, M[j]? = some m := ⟨_, List.getElem?_eq_getElem (by rw [hl]; exact (List.getElem?_eq_some_iff.1 hx).1)⟩
  refine ⟨m, fun t u hu => ?_, hd j m x hm hx⟩
  have ht : t < E.k := by rw [← hk m (List.mem_of_getElem? hm)]; exact (List.getElem?_eq_some_iff.1 hu).1
  have hjl := (List.getElem?_eq_some_iff.1 hm).1
  obtain ⟨A, cap', hv, h1, h2, h3, h4⟩ := owns_shape ho
  injection hv with hA hn hcap
  obtain ⟨g', cur, hgg, hb, hs, htk⟩ := h4 ⟨g, 0, none⟩ hA.symm
  injection hgg with hgg
  subst hgg
  have h9 := flatten_cell E.pos hk hm ht
  have hlt : j * E.k + t < M.length * E.k := by
    have : (j + 1) * E.k ≤ M.length * E.k := Nat.mul_le_mul_right _ hjl
    rw [Nat.add_mul] at this; omega
  rw [hu, ← htk, List.getElem?_take_of_lt hlt, Array.getElem?_toList] at h9
  rw [hb.box.cell]
  exact h9
theorem Elt.Row.reads (h : E.Row c π w (.slice A n cap) L) : E.At w (fun b => (c b = π ∨ c b = []) ∧ b < w.heap.size) A n cap L := by
  obtain ⟨A', cap', hv, h1, h2, h3, h4⟩ := h.shape
  injection hv with hA hn hc
  subst hA hn hc
  refine ⟨rfl, h1, h2, (fun e => (h3 e).2), fun hn => ?_⟩
  cases A with
  | none => have := (h3 rfl).1; omega
  | some ad =>
    obtain ⟨g, rfl, hg, hlt⟩ := h4 ad rfl
    refine ⟨g, 0, rfl, ⟨.inl hg, hlt⟩, fun j x hx => ?_⟩
    obtain ⟨cs, hc, hr⟩ := h.cells hx
    exact ⟨cs, fun t u hu => by rw [Nat.zero_add]; exact hc t u hu, E.move hr fun b hb hlt => ⟨rfl, .inr hb.1, hlt⟩⟩
theorem Elt.Row.any (h : E.Row c π w (.slice A n cap) L) : E.At w (· < w.heap.size) A n cap L := h.reads.imp fun b hb => hb.2
/-- A row whose block is data reads as any slice. -/
theorem Elt.Row.at (h : E.Row c [] w (.slice A n cap) L) : E.At w (Quiet c w) A n cap L := h.reads.imp fun b hb => ⟨hb.1.elim id id, hb.2⟩

theorem list_each3 {α β : Type} {p : Nat → α → β → Prop} : ∀ {l : List α}, (∀ j e, l[j]? = some e → ∃ y, p j e y) → ∃ ys : List β, ys.length = l.length ∧ ∀ (j : Nat) y e, ys[j]? = some y → l[j]? = some e → p j e y := by
  intro l
  induction l generalizing p with
  | nil => intro _; exact ⟨[], rfl, fun j y e h => by simp at h⟩
  | cons x r ih =>
    intro h
    obtain ⟨y0, h0⟩ := h 0 x rfl
    obtain ⟨ys, h1, h2⟩ := ih (p := fun j e y => p (j + 1) e y) (fun j e he => h (j + 1) e (by simpa using he))
    refine ⟨y0 :: ys, by simp [h1], fun j y e hy he => ?_⟩
    cases j with
    | zero => simp only [List.getElem?_cons_zero, Option.some.injEq] at hy he; subst hy he; exact h0
    | succ j => simp only [List.getElem?_cons_succ] at hy he; exact h2 j y e hy he
theorem addr_add (b off j : Nat) : (⟨b, off, none⟩ : Addr).add j = ⟨b, off + j, none⟩ := by unfold Addr.add; split <;> simp_all
/-- The cells of a slice. -/
theorem Elt.At.cellsOf (h : E.At w D A n cap l) : ∃ M : List (List Value), M.length = n ∧ (∀ m ∈ M, m.length = E.k) ∧ (∀ ad, A = some ad → ∀ j u, M.flatten[j]? = some u → w.cell? (ad.add j) = some u) ∧ ∀ (j : Nat) m x, M[j]? = some m → l[j]? = some x → E.rd w D m x := by
  obtain ⟨h1, h2, _, _, h3⟩ := h
  by_cases hn : 0 < n
  · obtain ⟨b, off, rfl, hd, hc⟩ := h3 hn
    obtain ⟨M, q1, q2⟩ := list_each3 (p := fun j x (cs : List Value) => (∀ (t : Nat) u, cs[t]? = some u → w.cell? ⟨b, off + j * E.k + t, none⟩ = some u) ∧ E.rd w D cs x) hc
    have hk : ∀ m ∈ M, m.length = E.k := fun m hm => by
      obtain ⟨j, hj⟩ := List.mem_iff_getElem?.1 hm
      have hjl := (List.getElem?_eq_some_iff.1 hj).1
      exact E.len (q2 j m (l[j]'(by omega)) hj (List.getElem?_eq_getElem (by omega))).2
    refine ⟨M, by omega, hk, fun ad had j u hu => ?_, fun j m x hm hx => (q2 j m x hm hx).2⟩
    injection had with had
    subst had
    rw [flatten_at E.pos hk] at hu
    obtain ⟨m, hm, hu⟩ := Option.bind_eq_some_iff.1 hu
    have hjl := (List.getElem?_eq_some_iff.1 hm).1
    have := (q2 (j / E.k) m (l[j / E.k]'(by omega)) hm (List.getElem?_eq_getElem (by omega))).1 (j % E.k) u hu
    rw [addr_add]
    rwa [show off + j / E.k * E.k + j % E.k = off + j by have := Nat.div_add_mod j E.k; rw [Nat.mul_comm] at this; omega] at this
  · have h0 : n = 0 := by omega
    subst h0
    have : l = [] := List.eq_nil_of_length_eq_zero h1
    subst this
    exact ⟨[], rfl, (fun m hm => by simp at hm), (fun ad _ j u hu => by simp at hu), fun j m e hm => by simp at hm⟩
/-- A row grown by what is appended. -/
theorem Elt.Row.app {N : List α} {M : List (List Value)} {B : Option Addr} {k n : Nat} {xs : List Value} (hf : Fresh c w) (hπ : π ≠ []) (h : E.Row c π w v L) (hx : w.ownsRow 0 E.T E.k v n xs) (hn : M.length = k) (hN : M.length = N.length) (hk : ∀ m ∈ M, m.length = E.k)
    (hd : ∀ (j : Nat) m e, M[j]? = some m → N[j]? = some e → E.rd w (Quiet c w) m e) (ha : Appd w 0 E.T E.k n k xs M.flatten v B cap w') :
    ∃ c', Stp (· = π) c w c' w' ∧ E.Row c' π w' (.slice B (n + k) cap) (L ++ N) := by
  obtain ⟨M0, ho, hg, hl, hk0, hd0⟩ := h
  have e1 : n = M0.length := by
    obtain ⟨A1, c1, h1, _⟩ := owns_shape ho
    obtain ⟨A2, c2, h2, _⟩ := owns_shape hx
    rw [h1] at h2; injection h2 with _ h2 _; exact h2.symm
  subst e1
  have e2 : xs = M0.flatten := by
    rcases ho.2 with ⟨hv, h0⟩ | ⟨g1, cp1, cur1, hv, _, hh1, _, _, _, ht1⟩
    · have q1 := ho.1; have q2 := hx.1
      rw [h0] at q1 q2
      rw [List.eq_nil_of_length_eq_zero (l := M0.flatten) (by rw [q1, Nat.zero_mul]), List.eq_nil_of_length_eq_zero (l := xs) (by rw [q2, Nat.zero_mul])]
    · rcases hx.2 with ⟨hv2, h0⟩ | ⟨g2, cp2, cur2, hv2, _, hh2, _, _, _, ht2⟩
      · rw [hv] at hv2; cases hv2
      · rw [hv] at hv2
        injection hv2 with a1 a2 a3
        injection a1 with a1
        injection a1 with a1
        subst a1
        rw [hh1] at hh2
        injection hh2 with hh2
        injection hh2 with hh2
        subst hh2
        rw [← ht1, ← ht2]
  subst e2
  obtain ⟨hown, hgrow, hat⟩ := ha
  have hπ' : ¬ ([] : List Int) = π := fun h => hπ h.symm
  have hO : Only (fun b => c b = π) w w' := ⟨hgrow.os, hgrow.tape, hgrow.output, hgrow.size, fun b hb hn => hgrow.block b hb (fun he => hn (hg b he.symm))⟩
  obtain ⟨c', S, hc'⟩ : ∃ c', Stp (· = π) c w c' w' ∧ ∀ g, (Value.slice B (M0.length + k) cap).ownBlock = some g → c' g = π := by
    rcases hat with hat | hat
    · exact ⟨c, ⟨hO, fun _ _ => rfl, fun b hb => hf b (Nat.le_trans hO.size hb)⟩, fun g h => hg g (by rw [← hat]; exact h)⟩
    · exact ⟨upd c w.heap.size π, (⟨hO, fun _ _ => rfl, fun b hb => hf b (Nat.le_trans hO.size hb)⟩ : Stp (· = π) c w c w').paint (Nat.le_refl _) (owns_lt hown hat) π, fun g h => by rw [hat] at h; injection h with h; subst h; exact upd_same _ _ _⟩
  have mv : ∀ {m e}, E.rd w (Quiet c w) m e → E.rd w' (Quiet c' w') m e := fun h => E.move h fun b hb hlt => ⟨S.only.block b hlt (by show ¬ c b = π; rw [hb.1]; exact hπ'), (S.col b hlt).trans hb.1, Nat.lt_of_lt_of_le hlt S.only.size⟩
  refine ⟨c', S, M0 ++ M, ?_, hc', by rw [List.length_append, List.length_append, hl, hN], (fun m hm => (List.mem_append.1 hm).elim (hk0 m) (hk m)), fun j m e hm he => ?_⟩
  · rw [List.length_append, hn, List.flatten_append]; exact hown
  · by_cases hi : j < M0.length
    · rw [List.getElem?_append_left hi] at hm
      rw [List.getElem?_append_left (by omega)] at he
      exact mv (hd0 j m e hm he)
    · rw [List.getElem?_append_right (by omega)] at hm
      rw [List.getElem?_append_right (by omega), ← hl] at he
      exact mv (hd _ m e hm he)
/-- The block of a row. -/
theorem Elt.Row.cur {g : Nat} (h : E.Row c π w (.slice (some ⟨g, 0, none⟩) n cap) L) : ∃ cur, BoxT w E.T g cur ∧ cur.size = cap * E.k ∧ L.length * E.k ≤ cur.size ∧ c g = π := by
  obtain ⟨M, ho, hg, hl, hk, hd⟩ := h
  obtain ⟨A, cp, hv, h1, h2, h3, h4⟩ := owns_shape ho
  injection hv with hA hn hc
  obtain ⟨g', cur, e, hb, hs, _⟩ := h4 _ hA.symm
  injection e with e
  subst e hc
  exact ⟨cur, hb, hs, by rw [hs]; exact Nat.mul_le_mul_right _ (by omega), hg g rfl⟩
/-- A row, behind stores into its block. -/
theorem Elt.Row.edit {g : Nat} {cur cur' : Array Value} {L' : List α} (h : E.Row c π w (.slice (some ⟨g, 0, none⟩) n cap) L) (hf : Fresh c w) (hπ : π ≠ []) (hL : L'.length = L.length) (hb : BoxT w E.T g cur) (hb' : BoxT w' E.T g cur') (hs : cur'.size = cur.size) (ho : Only (· = g) w w')
    (he : ∀ (j : Nat) x, L'[j]? = some x → ∃ cs, (∀ (t : Nat) u, cs[t]? = some u → cur'[j * E.k + t]? = some u) ∧ E.rd w (Quiet c w) cs x) : Stp (· = π) c w c w' ∧ E.Row c π w' (.slice (some ⟨g, 0, none⟩) n cap) L' := by
  obtain ⟨M, hown, hg, hl, hk, hd⟩ := h
  have hcg : c g = π := hg g rfl
  have hst : Stp (· = π) c w c w' := ⟨ho.mono (fun k _ hk => by subst hk; exact hcg), fun _ _ => rfl, fun b hb => hf b (Nat.le_trans ho.size hb)⟩
  obtain ⟨M', m1, m2⟩ := list_each3 (p := fun j x (cs : List Value) => (∀ (t : Nat) u, cs[t]? = some u → cur'[j * E.k + t]? = some u) ∧ E.rd w (Quiet c w) cs x) he
  have hk' : ∀ m ∈ M', m.length = E.k := fun m hm => by
    obtain ⟨j, hj⟩ := List.mem_iff_getElem?.1 hm
    have hjl := (List.getElem?_eq_some_iff.1 hj).1
    exact E.len (m2 j m (L'[j]'(by omega)) hj (List.getElem?_eq_getElem (by omega))).2
  have hMM : M'.length = M.length := by omega
  refine ⟨hst, M', ?_, hg, m1, hk', fun j m x hm hx => E.move (m2 j m x hm hx).2 fun b hb hlt => ⟨hst.only.block b hlt (by show ¬ c b = π; rw [hb.1]; exact fun e => hπ e.symm), hb.1, Nat.lt_of_lt_of_le hlt hst.only.size⟩⟩
  refine ⟨by rw [flatten_len hk'], ?_⟩
  rcases hown.2 with ⟨hv, _⟩ | ⟨g', cap', cur0, hv, hbase, hh, hn, hc, hsz, htk⟩
  · cases hv
  · have hv' := hv
    injection hv with hv hnn hcc
    injection hv with hv
    injection hv with hv
    subst hv
    unfold BoxT at hb
    rw [hh] at hb
    injection hb with hb
    injection hb with hb1 hb2
    subst hb1
    refine .inr ⟨g, cap', cur', by rw [hv', hMM], hbase, hb', by rw [hMM]; exact hn, hc, by rw [hs]; exact hsz, ?_⟩
    have hle : M'.length * E.k ≤ cur'.size := by rw [hs, hsz, hMM]; exact Nat.mul_le_mul_right _ hn
    apply List.ext_getElem?
    intro t
    by_cases ht : t < M'.length * E.k
    · rw [List.getElem?_take_of_lt ht, Array.getElem?_toList, flatten_at E.pos hk']
      have hj : t / E.k < M'.length := (Nat.div_lt_iff_lt_mul E.pos).2 ht
      have hm : M'[t / E.k]? = some M'[t / E.k] := List.getElem?_eq_getElem hj
      rw [hm]
      show _ = (M'[t / E.k])[t % E.k]?
      have hlen := hk' _ (List.getElem_mem hj)
      have hmod := Nat.mod_lt t E.pos
      have hu : (M'[t / E.k])[t % E.k]? = some ((M'[t / E.k])[t % E.k]'(by omega)) := List.getElem?_eq_getElem (by omega)
      rw [hu]
      have := (m2 _ _ (L'[t / E.k]'(by omega)) hm (List.getElem?_eq_getElem (by omega))).1 _ _ hu
      rwa [show t / E.k * E.k + t % E.k = t by have := Nat.div_add_mod t E.k; rw [Nat.mul_comm] at this; exact this] at this
    · rw [List.getElem?_eq_none (by have := List.length_take_le (M'.length * E.k) cur'.toList; omega), List.getElem?_eq_none (by rw [flatten_len hk']; omega)]
end

section
variable {E} {w : World} {c : Col} {π : List Int} {L N : List α}
theorem Elt.wp_append {o : Oper} {a : Act} {K : Act → World → Prop} {Q : Exit → Act → World → Prop} (s x : Operand)
    (ho : o.op = .call { callee := .builtin .append, args := #[s, x], argTypes := #[E.ST, E.ST] })
    (v : Value) (hs : a.eval s = v) (hrow : E.Row c π w v L) (hf : Fresh c w) (hπ : π ≠ []) (A : Option Addr) (m cp : Nat) (hx : a.eval x = .slice A m cp) (hN : E.At w (Quiet c w) A m cp N) (hlen : L.length + m ≤ 1000000)
    (h : ∀ B cap w' c', Stp (· = π) c w c' w' → E.Row c' π w' (.slice B (L.length + m) cap) (L ++ N) → K (a.put o.dst (.slice B (L.length + m) cap)) w') : o.wp P a w K Q := by
  obtain ⟨M0, hown, hg, hl, hk0, hd⟩ := id hrow
  obtain ⟨M, q1, hk, q2, q3⟩ := hN.cellsOf
  obtain ⟨j0, jii, jz0, jz1, jz2⟩ := E.info
  have hA : A = none → m = 0 ∧ cp = 0 := fun e => by have := hN.2.2.2.1 e; have := hN.2.1; omega
  have h1 : ∀ u ∈ M.flatten, u.oneCell' = true := fun u hu => by
    obtain ⟨ms, hm, hu⟩ := List.mem_flatten.1 hu
    obtain ⟨j, hj⟩ := List.mem_iff_getElem?.1 hm
    have hjl := (List.getElem?_eq_some_iff.1 hj).1
    have := hN.1
    exact E.one (q3 j ms (N[j]'(by omega)) hj (List.getElem?_eq_getElem (by omega))) u hu
  have hby := E.blim
  have hb2 : (M0.length + m) * E.bytes ≤ 1000000 * 100000 := Nat.mul_le_mul (by omega) hby
  refine wp_append_any w s x E.ST ho 0 E.T j0 E.zero E.k E.bytes E.und jii jz0 jz1 jz2 E.zlen E.pos v M0.length M0.flatten hs hown A m cp M.flatten hx (by rw [flatten_len hk, q1]) hA q2 h1 (by unfold maxLen; omega) (by omega) (Nat.zero_le _) ?_
  intro B cap w' ha
  obtain ⟨c', st, hr⟩ := hrow.app hf hπ hown q1 (by rw [q1]; exact hN.1.symm) hk (fun j m e hm he => q3 j m e hm he) ha
  rw [hl] at hr ⊢
  exact h B cap w' c' st hr
theorem Elt.wpList_append {ops : Array Oper} {rest : List Oper} {o : Oper} {a : Act} {Q : Exit → Act → World → Prop} (hgd : o.guard = none) (s x : Operand)
    (ho : o.op = .call { callee := .builtin .append, args := #[s, x], argTypes := #[E.ST, E.ST] })
    (v : Value) (hs : a.eval s = v) (hrow : E.Row c π w v L) (hf : Fresh c w) (hπ : π ≠ []) (A : Option Addr) (m cp : Nat) (hx : a.eval x = .slice A m cp) (hN : E.At w (Quiet c w) A m cp N) (hlen : L.length + m ≤ 1000000)
    (h : ∀ B cap w' c', Stp (· = π) c w c' w' → E.Row c' π w' (.slice B (L.length + m) cap) (L ++ N) → wpList P ops Q rest (a.put o.dst (.slice B (L.length + m) cap)) w') : wpList P ops Q (o :: rest) a w :=
  wpList_plain hgd fun _ hK => E.wp_append s x ho v hs hrow hf hπ A m cp hx hN hlen fun B cap w' c' st hr => hK _ _ (h B cap w' c' st hr)
theorem Elt.step_append {ops : Array Oper} {o : Oper} {a : Act} {K : Act → World → Prop} {Q : Exit → Act → World → Prop} {F : Prop} (hgd : o.guard = none) (s x : Operand)
    (ho : o.op = .call { callee := .builtin .append, args := #[s, x], argTypes := #[E.ST, E.ST] })
    (v : Value) (hs : a.eval s = v) (hrow : E.Row c π w v L) (hf : Fresh c w) (hπ : π ≠ []) (A : Option Addr) (m cp : Nat) (hx : a.eval x = .slice A m cp) (hN : E.At w (Quiet c w) A m cp N) (hlen : L.length + m ≤ 1000000)
    (h : ∀ B cap w' c', Stp (· = π) c w c' w' → E.Row c' π w' (.slice B (L.length + m) cap) (L ++ N) → K (a.put o.dst (.slice B (L.length + m) cap)) w') :
    if Region.wanted o (yielded ops a.tmps) = true then Oper.wp P o a w K Q else F := by
  have hw : Region.wanted o (yielded ops a.tmps) = true := by simp [Region.wanted, hgd]
  rw [if_pos hw]
  exact E.wp_append s x ho v hs hrow hf hπ A m cp hx hN hlen h
end
end Go.Proofs.YtdpamikobmefeaaGreat
