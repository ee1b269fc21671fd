/- append, whatever the row and whatever is appended (nil too): as a law for a plain region and for one that draws its order. Conditions: the row is owned. -/
import Derived.Test.YtdpamikobmefeaaGreatOwnRow
import Derived.Deep.AppendLies
import Derived.Deep.DeepCutAuto
import Derived.Deep.RegionHeld3
namespace Go.Proofs.YtdpamikobmefeaaGreat
open Go.RowKit Go.ChangeShapes
set_option linter.unusedVariables false

/-- What append leaves: the row grown by the news, in its own block or in a new one. -/
def Appd (w : World) (base : Nat) (e : TypeId) (size n m : Nat) (xs news : List Value) (v : Value) (B : Option Addr) (cap : Nat) (w' : World) : Prop :=
  w'.ownsRow base e size (.slice B (n + m) cap) (n + m) (xs ++ news) ∧ w.grownBy w' v.ownBlock ∧ ((Value.slice B (n + m) cap).ownBlock = v.ownBlock ∨ (Value.slice B (n + m) cap).ownBlock = some w.heap.size)

section
variable {P : Program} (w : World)
theorem run_append_any (t ty : TypeId) (base : Nat) (e : TypeId) (i : TypeInfo) (z : Value) (size bytes : Nat) (ht : P.underlying t = some (.slice e)) (hi : P.info? e = some i) (hz : i.zero = some z)
    (hsize : i.size = size) (hby : i.bytes = bytes) (hzs : z.cells.size = size) (hsz : 0 < size)
    (v : Value) (n : Nat) (xs : List Value) (hown : w.ownsRow base e size v n xs)
    (A : Option Addr) (m c : Nat) (news : List Value) (hl : news.length = m * size) (hA : A = none → m = 0 ∧ c = 0) (hnews : ∀ ad, A = some ad → ∀ j u, news[j]? = some u → w.cell? (ad.add j) = some u) (h1 : ∀ u ∈ news, u.oneCell' = true)
    (h63 : n + m ≤ maxLen) (hbytes : (n + m) * bytes ≤ 140737488355328) (hbase : base ≤ w.heap.size) :
    ∃ B cap w', (Builtin.append_ #[t, t] ty #[v, .slice A m c]).run P w = .ok (.slice B (n + m) cap) w' ∧ Appd w base e size n m xs news v B cap w' := by
  rcases A with _ | ad
  · obtain ⟨rfl, rfl⟩ := hA rfl
    have hn : news = [] := List.eq_nil_of_length_eq_zero (by simpa using hl)
    subst hn
    obtain ⟨A1, cap1, rfl, _⟩ := owns_shape hown
    refine ⟨A1, cap1, w, run_append_owned_none w base t ty e i size ht hi _ n xs hown, by simpa using hown, ⟨rfl, rfl, rfl, Nat.le_refl _, fun _ _ _ => rfl⟩, .inl rfl⟩
  · obtain ⟨v', w', hr, h2, h3, _, h5⟩ := run_append_own_at (P := P) w base t ty e i z size bytes ht hi hz hsize hby hzs hsz v n xs hown ad m c news hl (hnews ad rfl) h1 h63 hbytes hbase
    obtain ⟨B, cap, rfl, _⟩ := owns_shape h2
    exact ⟨B, cap, w', hr, h2, h3, h5⟩

theorem wp_append_any {o : Oper} {a : Act} {K : Act → World → Prop} {Q : Exit → Act → World → Prop} (s x : Operand) (t : TypeId)
    (ho : o.op = .call { callee := .builtin .append, args := #[s, x], argTypes := #[t, t] })
    (base : Nat) (e : TypeId) (i : TypeInfo) (z : Value) (size bytes : Nat) (ht : P.underlying t = some (.slice e)) (hi : P.info? e = some i) (hz : i.zero = some z)
    (hsize : i.size = size) (hby : i.bytes = bytes) (hzs : z.cells.size = size) (hsz : 0 < size)
    (v : Value) (n : Nat) (xs : List Value) (hs : a.eval s = v) (hown : w.ownsRow base e size v n xs)
    (A : Option Addr) (m c : Nat) (news : List Value) (hx : a.eval x = .slice A m c) (hl : news.length = m * size) (hA : A = none → m = 0 ∧ c = 0) (hnews : ∀ ad, A = some ad → ∀ j u, news[j]? = some u → w.cell? (ad.add j) = some u) (h1 : ∀ u ∈ news, u.oneCell' = true)
    (h63 : n + m ≤ maxLen) (hbytes : (n + m) * bytes ≤ 140737488355328) (hbase : base ≤ w.heap.size)
    (h : ∀ B cap w', Appd w base e size n m xs news v B cap w' → K (a.put o.dst (.slice B (n + m) cap)) w') : o.wp P a w K Q := by
  obtain ⟨B, cap, w', hr, h2⟩ := run_append_any (P := P) w t o.type base e i z size bytes ht hi hz hsize hby hzs hsz v n xs hown A m c news hl hA hnews h1 h63 hbytes hbase
  unfold Oper.wp execOp
  simp only [ho, resolve, invoke, builtin, Sem.run_bind, Sem.run_pure, Result.andThen_ok, List.map_toArray, List.map_cons, List.map_nil, hs, hx, hr]
  exact h B cap w' h2

theorem wpList_append_any {ops : Array Oper} {rest : List Oper} {o : Oper} {a : Act} {Q : Exit → Act → World → Prop} (hgd : o.guard = none) (s x : Operand) (t : TypeId)
    (ho : o.op = .call { callee := .builtin .append, args := #[s, x], argTypes := #[t, t] })
    (base : Nat) (e : TypeId) (i : TypeInfo) (z : Value) (size bytes : Nat) (ht : P.underlying t = some (.slice e)) (hi : P.info? e = some i) (hz : i.zero = some z)
    (hsize : i.size = size) (hby : i.bytes = bytes) (hzs : z.cells.size = size) (hsz : 0 < size)
    (v : Value) (n : Nat) (xs : List Value) (hs : a.eval s = v) (hown : w.ownsRow base e size v n xs)
    (A : Option Addr) (m c : Nat) (news : List Value) (hx : a.eval x = .slice A m c) (hl : news.length = m * size) (hA : A = none → m = 0 ∧ c = 0) (hnews : ∀ ad, A = some ad → ∀ j u, news[j]? = some u → w.cell? (ad.add j) = some u) (h1 : ∀ u ∈ news, u.oneCell' = true)
    (h63 : n + m ≤ maxLen) (hbytes : (n + m) * bytes ≤ 140737488355328) (hbase : base ≤ w.heap.size)
    (h : ∀ B cap w', Appd w base e size n m xs news v B cap w' → wpList P ops Q rest (a.put o.dst (.slice B (n + m) cap)) w') : wpList P ops Q (o :: rest) a w :=
  wpList_plain hgd fun _ hK => wp_append_any w s x t ho base e i z size bytes ht hi hz hsize hby hzs hsz v n xs hs hown A m c news hx hl hA hnews h1 h63 hbytes hbase fun B cap w' h2 => hK _ _ (h B cap w' h2)

theorem wpList_append_nil {ops : Array Oper} {rest : List Oper} {o : Oper} {a : Act} {Q : Exit → Act → World → Prop} (hgd : o.guard = none) (s x : Operand) (t : TypeId)
    (ho : o.op = .call { callee := .builtin .append, args := #[s, x], argTypes := #[t, t] })
    (base : Nat) (e : TypeId) (i : TypeInfo) (z : Value) (size bytes : Nat) (ht : P.underlying t = some (.slice e)) (hi : P.info? e = some i) (hz : i.zero = some z)
    (hsize : i.size = size) (hby : i.bytes = bytes) (hzs : z.cells.size = size) (hsz : 0 < size) (hs : a.eval s = .slice none 0 0)
    (A : Option Addr) (m c : Nat) (news : List Value) (hx : a.eval x = .slice A m c) (hl : news.length = m * size) (hA : A = none → m = 0 ∧ c = 0) (hnews : ∀ ad, A = some ad → ∀ j u, news[j]? = some u → w.cell? (ad.add j) = some u) (h1 : ∀ u ∈ news, u.oneCell' = true)
    (h63 : 0 + m ≤ maxLen) (hbytes : (0 + m) * bytes ≤ 140737488355328) (hbase : base ≤ w.heap.size)
    (h : ∀ B cap w', Appd w base e size 0 m [] news (.slice none 0 0) B cap w' → wpList P ops Q rest (a.put o.dst (.slice B m cap)) w') : wpList P ops Q (o :: rest) a w :=
  wpList_append_any w hgd s x t ho base e i z size bytes ht hi hz hsize hby hzs hsz (.slice none 0 0) 0 [] hs ⟨by simp, .inl ⟨rfl, rfl⟩⟩ A m c news hx hl hA hnews h1 h63 hbytes hbase fun B cap w' h2 => by
    have := h B cap w' h2
    rwa [show 0 + m = m from Nat.zero_add m]

theorem step_append_any {ops : Array Oper} {o : Oper} {a : Act} {K : Act → World → Prop} {Q : Exit → Act → World → Prop} {E : Prop} (hgd : o.guard = none) (s x : Operand) (t : TypeId)
    (ho : o.op = .call { callee := .builtin .append, args := #[s, x], argTypes := #[t, t] })
    (base : Nat) (e : TypeId) (i : TypeInfo) (z : Value) (size bytes : Nat) (ht : P.underlying t = some (.slice e)) (hi : P.info? e = some i) (hz : i.zero = some z)
    (hsize : i.size = size) (hby : i.bytes = bytes) (hzs : z.cells.size = size) (hsz : 0 < size)
    (v : Value) (n : Nat) (xs : List Value) (hs : a.eval s = v) (hown : w.ownsRow base e size v n xs)
    (A : Option Addr) (m c : Nat) (news : List Value) (hx : a.eval x = .slice A m c) (hl : news.length = m * size) (hA : A = none → m = 0 ∧ c = 0) (hnews : ∀ ad, A = some ad → ∀ j u, news[j]? = some u → w.cell? (ad.add j) = some u) (h1 : ∀ u ∈ news, u.oneCell' = true)
    (h63 : n + m ≤ maxLen) (hbytes : (n + m) * bytes ≤ 140737488355328) (hbase : base ≤ w.heap.size)
    (h : ∀ B cap w', Appd w base e size n m xs news v B cap w' → K (a.put o.dst (.slice B (n + m) cap)) w') :
    if Region.wanted o (yielded ops a.tmps) = true then Oper.wp P o a w K Q else E := by
  have hw : Region.wanted o (yielded ops a.tmps) = true := by simp [Region.wanted, hgd]
  rw [if_pos hw]
  exact wp_append_any w s x t ho base e i z size bytes ht hi hz hsize hby hzs hsz v n xs hs hown A m c news hx hl hA hnews h1 h63 hbytes hbase h
end

/-- A row of slices of whole numbers whose cells are data; the row's block has a colour. -/
def RowR (T : TypeId) (k : IntKind) (bytes : Nat) (c : Col) (π : List Int) (w : World) (v : Value) (l : List (List Int)) : Prop :=
  ∃ vs : List Value, w.ownsRow 0 T 1 v l.length vs ∧ (∀ g, v.ownBlock = some g → c g = π) ∧ ∀ (i : Nat) (u : Value) (x : List Int), vs[i]? = some u → l[i]? = some x → DInts c w k bytes u x

theorem owns_len {w : World} {base e n : Nat} {v : Value} {xs : List Value} (h : w.ownsRow base e 1 v n xs) : xs.length = n := by have := h.1; simpa using this
theorem owns_lt {w : World} {base e size n g : Nat} {v : Value} {xs : List Value} (h : w.ownsRow base e size v n xs) (hg : v.ownBlock = some g) : g < w.heap.size := by
  rcases h.2 with ⟨rfl, _⟩ | ⟨g', cap, cur, rfl, _, hh, _⟩
  · cases hg
  · injection hg with hg; subst hg; exact (Array.getElem?_eq_some_iff.1 hh).1

section
variable {T : TypeId} {k : IntKind} {bytes : Nat} {c c' : Col} {π : List Int} {w w' : World} {v : Value} {l : List (List Int)}
theorem RowR.step {C : List Int → Prop} (h : RowR T k bytes c π w v l) (hs : Stp C c w c' w') (hπ : ¬ C π) (hC : ¬ C []) : RowR T k bytes c' π w' v l := by
  obtain ⟨vs, ho, hg, hd⟩ := h
  exact ⟨vs, ownsRow_only ho hs.only (fun g hg' => by show ¬ C (c g); rw [hg g hg']; exact hπ), fun g hg' => (hs.col g (owns_lt ho hg')).trans (hg g hg'), fun i u x hu hx => (hd i u x hu hx).step hs hC⟩
theorem RowR.nil : RowR T k bytes c π w (.slice none 0 0) [] := ⟨[], ⟨rfl, .inl ⟨rfl, rfl⟩⟩, (fun g hg => by cases hg), fun i u x hu => by simp at hu⟩
theorem RowR.later (h : RowR T k bytes c π w v l) (hf : Fresh c w) (hb : Below w.heap.size w w') : RowR T k bytes c π w' v l :=
  h.step (C := fun _ => False) (Stp.of_below _ hf hb) id id
theorem RowR.shape (h : RowR T k bytes c π w v l) : ∃ A cap, v = .slice A l.length cap ∧ l.length ≤ cap ∧ cap ≤ 9223372036854775807 ∧ (A = none → l.length = 0 ∧ cap = 0) := by
  obtain ⟨vs, ho, hg, hd⟩ := h
  obtain ⟨A, cap, rfl, h1, h2, h3, _⟩ := owns_shape ho
  exact ⟨A, cap, rfl, h1, h2, h3⟩
/-- The row is no nil one where it has an element. -/
theorem RowR.addr {i : Nat} {x : List Int} (h : RowR T k bytes c π w v l) (hx : l[i]? = some x) : ∃ g cap, v = .slice (some ⟨g, 0, none⟩) l.length cap ∧ l.length ≤ cap ∧ cap ≤ 9223372036854775807 ∧ c g = π ∧ g < w.heap.size := by
  obtain ⟨vs, ho, hg, hd⟩ := h
  have hi := (List.getElem?_eq_some_iff.1 hx).1
  have hl := owns_len ho
  obtain ⟨u, hu⟩ : ∃ u, vs[i]? = some u := ⟨_, List.getElem?_eq_getElem (show i < vs.length by omega)⟩
  obtain ⟨g, cap, rfl, hc, hb⟩ := owns_cell ho hu
  obtain ⟨_, _, he, h1, h2, _⟩ := owns_shape ho
  injection he with _ _ he
  exact ⟨g, cap, rfl, by omega, by omega, hg g hb, owns_lt ho hb⟩
/-- The cell of a row's element. -/
theorem RowR.cell {i g n cap : Nat} {x : List Int} (h : RowR T k bytes c π w (.slice (some ⟨g, 0, none⟩) n cap) l) (hx : l[i]? = some x) : ∃ A n cp, w.cell? ⟨g, i, none⟩ = some (.slice A n cp) ∧ DInts c w k bytes (.slice A n cp) x := by
  obtain ⟨vs, ho, hg, hd⟩ := h
  have hi := (List.getElem?_eq_some_iff.1 hx).1
  have hl := owns_len ho
  obtain ⟨u, hu⟩ : ∃ u, vs[i]? = some u := ⟨_, List.getElem?_eq_getElem (show i < vs.length by omega)⟩
  obtain ⟨g', cap', he, hc, hb⟩ := owns_cell ho hu
  injection he with he; injection he with he; injection he with he; subst he
  obtain ⟨A, n, cp, rfl, hi'⟩ := id (hd i u x hu hx)
  exact ⟨A, n, cp, hc, hd i _ x hu hx⟩
/-- What append leaves of it. -/
theorem RowR.app {vs news : List Value} {n m : Nat} {B : Option Addr} {cap : Nat} {ys : List (List Int)} (hf : Fresh c w) (hπ : π ≠ []) (hn : l.length = n) (ho : w.ownsRow 0 T 1 v n vs) (hg : ∀ g, v.ownBlock = some g → c g = π)
    (hd : ∀ (i : Nat) (u : Value) (x : List Int), vs[i]? = some u → l[i]? = some x → DInts c w k bytes u x) (hy : ys.length = m) (hdy : ∀ (i : Nat) (u : Value) (x : List Int), news[i]? = some u → ys[i]? = some x → DInts c w k bytes u x)
    (ha : Appd w 0 T 1 n m vs news v B cap w') : ∃ c', Stp (· = π) c w c' w' ∧ RowR T k bytes c' π w' (.slice B (n + m) cap) (l ++ ys) := by
  obtain ⟨hown, hgrow, hat⟩ := ha
  have hl := owns_len ho
  have hπ' : ¬ ([] : List Int) = π := fun h => hπ h.symm
  have hO : Only (fun b => c b = π) w w' := ⟨hgrow.os, hgrow.tape, hgrow.output, hgrow.size, fun b hb hn => hgrow.block b hb (fun he => hn (hg b he.symm))⟩
  obtain ⟨c', S, hc'⟩ : ∃ c', Stp (· = π) c w c' w' ∧ ∀ g, (Value.slice B (n + m) cap).ownBlock = some g → c' g = π := by
    rcases hat with hat | hat
    · exact ⟨c, ⟨hO, fun _ _ => rfl, fun b hb => hf b (Nat.le_trans hO.size hb)⟩, fun g h => hg g (by rw [← hat]; exact h)⟩
    · exact ⟨upd c w.heap.size π, (⟨hO, fun _ _ => rfl, fun b hb => hf b (Nat.le_trans hO.size hb)⟩ : Stp (· = π) c w c w').paint (Nat.le_refl _) (owns_lt hown hat) π, fun g h => by rw [hat] at h; injection h with h; subst h; exact upd_same _ _ _⟩
  refine ⟨c', S, vs ++ news, by rw [List.length_append, hn, hy]; exact hown, hc', fun i u x hu hx => ?_⟩
  by_cases hi : i < vs.length
  · rw [List.getElem?_append_left hi] at hu
    rw [List.getElem?_append_left (by omega)] at hx
    exact (hd i u x hu hx).step S hπ'
  · rw [List.getElem?_append_right (by omega)] at hu
    rw [List.getElem?_append_right (by omega), show i - l.length = i - vs.length by omega] at hx
    exact (hdy _ u x hu hx).step S hπ'
end
end Go.Proofs.YtdpamikobmefeaaGreat
