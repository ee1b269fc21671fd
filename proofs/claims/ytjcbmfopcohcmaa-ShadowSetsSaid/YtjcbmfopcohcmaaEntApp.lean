/- append at rows of entries, in the word of rows. Conditions: the row is owned, what is appended reads so. -/
import Derived.Test.YtjcbmfopcohcmaaSt
namespace Go.Proofs.Ytjcbmfopcohcmaa
open Go.RowKit Go.ChangeShapes Go.Maps
set_option maxRecDepth 100000
set_option linter.unusedVariables false
set_option linter.unusedSimpArgs false

theorem list_each2 {α β : Type} {p : Nat → α → β → Prop} : ∀ {l : List α}, (∀ j e, l[j]? = some e → ∃ y, p j e y) → ∃ ys : List β, ys.length = l.length ∧ ∀ (j : Nat) y e, ys[j]? = some y → l[j]? = some e → p j e y := by
  intro l
  induction l generalizing p with
  | nil => intro _; exact ⟨[], rfl, fun j y e h => by simp at h⟩
  | cons x r ih =>
    intro h
    obtain ⟨y0, h0⟩ := h 0 x rfl
    obtain ⟨ys, h1, h2⟩ := ih (p := fun j e y => p (j + 1) e y) (fun j e he => h (j + 1) e (by simpa using he))
    refine ⟨y0 :: ys, by simp [h1], fun j y e hy he => ?_⟩
    cases j with
    | zero => simp only [List.getElem?_cons_zero, Option.some.injEq] at hy he; subst hy he; exact h0
    | succ j => simp only [List.getElem?_cons_succ] at hy he; exact h2 j y e hy he
/-- The cells of a slice of entries. -/
theorem EntsAt.cellsOf {w : World} {D : Nat → Prop} {A : Option Addr} {n cap : Nat} {l : List Ent} (h : EntsAt w D A n cap l) : ∃ M : List EntC, M.length = n ∧ (∀ ad, A = some ad → ∀ j u, (ecCells M)[j]? = some u → w.cell? (ad.add j) = some u) ∧ ∀ (j : Nat) m e, M[j]? = some m → l[j]? = some e → EntNew w D m e := by
  obtain ⟨h1, h2, h3⟩ := h
  by_cases hn : 0 < n
  · obtain ⟨b, off, rfl, hd, hc⟩ := h3 hn
    obtain ⟨M, q1, q2⟩ := list_each2 (p := fun j e (c : EntC) => (∀ t u, (encE c)[t]? = some u → w.cell? ⟨b, off + j * 5 + t, none⟩ = some u) ∧ EntNew w D c e) hc
    refine ⟨M, by omega, fun ad had j u hu => ?_, fun j m e hm he => (q2 j m e hm he).2⟩
    injection had with had
    subst had
    have hlt : j < M.length * 5 := by have := (List.getElem?_eq_some_iff.1 hu).1; rwa [ecCells_len] at this
    obtain ⟨m, hm⟩ : ∃ m, M[j / 5]? = some m := ⟨_, List.getElem?_eq_getElem (by omega)⟩
    obtain ⟨e, he⟩ : ∃ e, l[j / 5]? = some e := ⟨_, List.getElem?_eq_getElem (by omega)⟩
    have h9 := ecCells_at hm (j % 5) (by omega)
    rw [show j / 5 * 5 + j % 5 = j by omega, hu] at h9
    have := (q2 (j / 5) m e hm he).1 (j % 5) u h9.symm
    rw [saddPlain]
    rwa [show off + j / 5 * 5 + j % 5 = off + j by omega] at this
  · have h0 : n = 0 := by omega
    subst h0
    have : l = [] := List.eq_nil_of_length_eq_zero h1
    subst this
    exact ⟨[], rfl, (fun ad _ j u hu => by simp [ecCells] at hu), fun j m e hm => by simp at hm⟩
theorem ecCells_one (M : List EntC) : ∀ u ∈ ecCells M, u.oneCell' = true := by
  intro u hu
  obtain ⟨c, _, hc⟩ := List.mem_flatMap.1 hu
  exact encE_one c u hc
theorem ents_one {c : Col} {w : World} {b : Nat} {m : EntC} {e : Ent} (hb : Box w b (encE m).toArray) (hc : c b = []) (he : EntNew w (Still c w) m e) : EntsAt w (Still c w) (some ⟨b, 0, none⟩) 1 1 [e] := by
  refine ⟨rfl, by omega, fun _ => ⟨b, 0, rfl, ⟨hc, hb.lt⟩, fun j x hx => ?_⟩⟩
  cases j with
  | zero =>
    simp only [List.getElem?_cons_zero, Option.some.injEq] at hx
    subst hx
    refine ⟨m, fun t u hu => ?_, he⟩
    rw [show 0 + 0 * 5 + t = t by omega, hb.cell, List.getElem?_toArray]; exact hu
  | succ j => simp at hx

theorem ent_info : ∃ i : TypeInfo, Try.prog.info? 36 = some i ∧ i.zero = some (.agg #[.int .u32 0, .int .u64 0, .int .u64 0, .slice none 0 0, .bool false]) ∧ i.size = 5 ∧ i.bytes = 56 := by
  have hinfo' : (Try.prog.info? 36).map (fun i => (i.zero, i.size, i.bytes)) = some (some (.agg #[.int .u32 0, .int .u64 0, .int .u64 0, .slice none 0 0, .bool false]), 5, 56) := by kernel_rfl
  obtain ⟨j0, jii, jz0, jz1, jz2⟩ := info_parts hinfo'
  exact ⟨j0, jii, jz0, jz1, jz2⟩

section
variable {w : World} {c : Col} {π : List Int} {L N : List Ent}
theorem wp_append_ent {o : Oper} {a : Act} {K : Act → World → Prop} {Q : Exit → Act → World → Prop} (s x : Operand)
    (ho : o.op = .call { callee := .builtin .append, args := #[s, x], argTypes := #[23, 23] })
    (v : Value) (hs : a.eval s = v) (hrow : EntRow c π w v L) (hf : Fresh c w) (hπ : π ≠ []) (A : Option Addr) (m cp : Nat) (hx : a.eval x = .slice A m cp) (hN : EntsAt w (Still c w) A m cp N) (hA : A = none → m = 0 ∧ cp = 0) (hlen : L.length + m ≤ 1000000)
    (h : ∀ B cap w' c', Stp (· = π) c w c' w' → EntRow c' π w' (.slice B (L.length + m) cap) (L ++ N) → K (a.put o.dst (.slice B (L.length + m) cap)) w') : o.wp Try.prog a w K Q := by
  obtain ⟨M0, hown, hg, hl, hd⟩ := id hrow
  obtain ⟨M, q1, q2, q3⟩ := hN.cellsOf
  obtain ⟨j0, jii, jz0, jz1, jz2⟩ := ent_info
  refine wp_append_any w s x 23 ho 0 36 j0 _ 5 56 Try.underlying23 jii jz0 jz1 jz2 rfl (by decide) v M0.length (ecCells M0) hs hown A m cp (ecCells M) hx (by rw [ecCells_len, q1]) hA q2 (ecCells_one M) (by unfold maxLen; omega) (by omega) (Nat.zero_le _) ?_
  intro B cap w' ha
  obtain ⟨c', st, hr⟩ := hrow.app hf hπ hown q1 (by rw [q1]; exact hN.1.symm) (fun j m e hm he => q3 j m e hm he) ha
  rw [hl] at hr ⊢
  exact h B cap w' c' st hr
theorem wpList_append_ent {ops : Array Oper} {rest : List Oper} {o : Oper} {a : Act} {Q : Exit → Act → World → Prop} (hgd : o.guard = none) (s x : Operand)
    (ho : o.op = .call { callee := .builtin .append, args := #[s, x], argTypes := #[23, 23] })
    (v : Value) (hs : a.eval s = v) (hrow : EntRow c π w v L) (hf : Fresh c w) (hπ : π ≠ []) (A : Option Addr) (m cp : Nat) (hx : a.eval x = .slice A m cp) (hN : EntsAt w (Still c w) A m cp N) (hA : A = none → m = 0 ∧ cp = 0) (hlen : L.length + m ≤ 1000000)
    (h : ∀ B cap w' c', Stp (· = π) c w c' w' → EntRow c' π w' (.slice B (L.length + m) cap) (L ++ N) → wpList Try.prog ops Q rest (a.put o.dst (.slice B (L.length + m) cap)) w') : wpList Try.prog ops Q (o :: rest) a w :=
  wpList_plain hgd fun _ hK => wp_append_ent s x ho v hs hrow hf hπ A m cp hx hN hA hlen fun B cap w' c' st hr => hK _ _ (h B cap w' c' st hr)
theorem step_append_ent {ops : Array Oper} {o : Oper} {a : Act} {K : Act → World → Prop} {Q : Exit → Act → World → Prop} {E : Prop} (hgd : o.guard = none) (s x : Operand)
    (ho : o.op = .call { callee := .builtin .append, args := #[s, x], argTypes := #[23, 23] })
    (v : Value) (hs : a.eval s = v) (hrow : EntRow c π w v L) (hf : Fresh c w) (hπ : π ≠ []) (A : Option Addr) (m cp : Nat) (hx : a.eval x = .slice A m cp) (hN : EntsAt w (Still c w) A m cp N) (hA : A = none → m = 0 ∧ cp = 0) (hlen : L.length + m ≤ 1000000)
    (h : ∀ B cap w' c', Stp (· = π) c w c' w' → EntRow c' π w' (.slice B (L.length + m) cap) (L ++ N) → K (a.put o.dst (.slice B (L.length + m) cap)) w') :
    if Region.wanted o (yielded ops a.tmps) = true then Oper.wp Try.prog o a w K Q else E := by
  have hw : Region.wanted o (yielded ops a.tmps) = true := by simp [Region.wanted, hgd]
  rw [if_pos hw]
  exact wp_append_ent s x ho v hs hrow hf hπ A m cp hx hN hA hlen h
end
theorem EntRow.any {c : Col} {π : List Int} {w : World} {A : Option Addr} {n cap : Nat} {L : List Ent} (h : EntRow c π w (.slice A n cap) L) : EntsAt w (· < w.heap.size) A n cap L := by
  obtain ⟨A', cap', hv, h1, h2, h3, h4⟩ := h.shape
  injection hv with hA hn hc
  subst hA hn hc
  refine ⟨rfl, by omega, fun hn => ?_⟩
  cases A with
  | none => have := (h3 rfl).1; omega
  | some ad =>
    obtain ⟨g, rfl, hg, hlt⟩ := h4 ad rfl
    refine ⟨g, 0, rfl, hlt, fun j e he => ?_⟩
    obtain ⟨m, hc, hm⟩ := h.cells he
    exact ⟨m, fun t u hu => by rw [Nat.zero_add]; exact hc t u hu, hm.move fun b hb hlt => ⟨rfl, hlt⟩⟩

/-- A state beside a row of a colour of its own. -/
def StR (W : World) (obs : List Ob) (rows : List Rw) (π : List Int) (v : Value) (l : List Ent) (w : World) : Prop := ∃ c, St0 W obs rows c w ∧ EntRow c π w v l ∧ π ≠ [] ∧ ∀ o ∈ obs, o.π ≠ π
section
variable {W w w' : World} {obs : List Ob} {rows : List Rw} {π : List Int} {v : Value} {l : List Ent} {c c' : Col}
theorem St0.other (h : St0 W obs rows c w) (hπ : π ≠ []) (ho : ∀ o ∈ obs, o.π ≠ π) (st : Stp (· = π) c w c' w') : St0 W obs rows c' w' where
  stp := h.stp.trans (st.mono fun x hx => by subst hx; exact hπ)
  own x hx := ⟨(h.own x hx).1, (h.own x hx).2.1, (h.own x hx).2.2.step st (ho x hx) (fun e => hπ e.symm)⟩
  apart := h.apart
  reads r hr := (h.reads r hr).step st (fun e => hπ e.symm)
theorem St.rowNil (h : St W obs rows w) (π : List Int) (hπ : π ≠ []) (ho : ∀ o ∈ obs, o.π ≠ π) : StR W obs rows π (.slice none 0 0) [] w := by
  obtain ⟨c, h⟩ := h
  exact ⟨c, h, EntRow.nil _ _ _, hπ, ho⟩
theorem StR.st (h : StR W obs rows π v l w) : St W obs rows w := by
  obtain ⟨c, h, _⟩ := h
  exact ⟨c, h⟩
theorem StR.later (h : StR W obs rows π v l w) (hb : Below w.heap.size w w') : StR W obs rows π v l w' := by
  obtain ⟨c, h, hr, h1, h2⟩ := h
  exact ⟨c, h.later hb, hr.later h.stp.fresh hb, h1, h2⟩
theorem StR.shape (h : StR W obs rows π v l w) : ∃ A cap, v = .slice A l.length cap ∧ l.length ≤ cap ∧ cap ≤ 9223372036854775807 ∧ (A = none → l.length = 0 ∧ cap = 0) := by
  obtain ⟨c, h, hr, h1, h2⟩ := h
  obtain ⟨A, cap, e, q1, q2, q3, _⟩ := hr.shape
  exact ⟨A, cap, e, q1, q2, q3⟩
theorem StR.any {A : Option Addr} {n cap : Nat} (h : StR W obs rows π (.slice A n cap) l w) : EntsAt w (· < w.heap.size) A n cap l := by
  obtain ⟨c, h, hr, _⟩ := h
  exact hr.any
end
end Go.Proofs.Ytjcbmfopcohcmaa
