/- One state for all things of a walk: each has a colour, and a word that holds while no block of that colour, and no data, turns. Conditions: none. -/
import Derived.Test.YtdpamikobmefeaaGreatElt
namespace Go.Proofs.YtdpamikobmefeaaGreat
open Go.RowKit Go.ChangeShapes
set_option linter.unusedVariables false
set_option linter.unusedSimpArgs false

/-- Of the blocks of colour π, and of data, none has turned. -/
structure Keeps (π : List Int) (c : Col) (w : World) (c' : Col) (w' : World) : Prop where
  only : Only (fun b => c b ≠ [] ∧ c b ≠ π) w w'
  col : ∀ b, b < w.heap.size → (c b = [] ∨ c b = π) → c' b = c b
theorem Keeps.block {π : List Int} {c c' : Col} {w w' : World} (h : Keeps π c w c' w') {b : Nat} (hb : b < w.heap.size) (hc : c b = [] ∨ c b = π) : w'.heap[b]? = w.heap[b]? :=
  h.only.block b hb fun hn => hc.elim hn.1 hn.2
theorem Keeps.quiet {π : List Int} {c c' : Col} {w w' : World} (h : Keeps π c w c' w') (b : Nat) (hb : Quiet c w b) (_ : b < w.heap.size) : w'.heap[b]? = w.heap[b]? ∧ Quiet c' w' b :=
  ⟨h.block hb.2 (.inl hb.1), (h.col b hb.2 (.inl hb.1)).trans hb.1, Nat.lt_of_lt_of_le hb.2 h.only.size⟩
theorem Keeps.of_stp {C : List Int → Prop} {π : List Int} {c c' : Col} {w w' : World} (hs : Stp C c w c' w') (hπ : ¬ C π) (hC : ¬ C []) : Keeps π c w c' w' :=
  ⟨hs.only.mono fun b _ hb => ⟨fun e => hC (by rw [← e]; exact hb), fun e => hπ (by rw [← e]; exact hb)⟩, fun b hb _ => hs.col b hb⟩
theorem Keeps.stp {π : List Int} {c c' : Col} {w w' : World} (h : Keeps π c w c' w') (hf : Fresh c' w') (hc : ∀ b, b < w.heap.size → c' b = c b) : Stp (fun x => x ≠ [] ∧ x ≠ π) c w c' w' := ⟨h.only, hc, hf⟩
/-- A thing. -/
structure Thing where
  π : List Int
  R : Col → World → Prop
  keep : ∀ {c c' : Col} {w w' : World}, R c w → Keeps π c w c' w' → R c' w'
structure S0 (W : World) (ts : List Thing) (c : Col) (w : World) : Prop where
  stp : Stp (· ≠ []) (fun _ => []) W c w
  own : ∀ t ∈ ts, t.R c w
  apart : ts.Pairwise (fun a b => a.π ≠ [] → a.π ≠ b.π)
/-- The state. -/
def Sta (W : World) (ts : List Thing) (w : World) : Prop := ∃ c, S0 W ts c w

section
variable {W w w' : World} {ts ts' : List Thing} {t t' : Thing} {c c' : Col}
theorem S0.later (h : S0 W ts c w) (hb : Below w.heap.size w w') : S0 W ts c w' where
  stp := h.stp.trans (Stp.of_below _ h.stp.fresh hb)
  own t ht := t.keep (h.own t ht) (Keeps.of_stp (C := fun _ => False) (Stp.of_below _ h.stp.fresh hb) id id)
  apart := h.apart
theorem Sta.later (h : Sta W ts w) (hb : Below w.heap.size w w') : Sta W ts w' := by
  obtain ⟨c, h⟩ := h
  exact ⟨c, h.later hb⟩
theorem S0.end (h : S0 W ts c w) : Below W.heap.size W w := h.stp.below (Nat.le_refl _) (fun k _ h => h rfl)
theorem Sta.end (h : Sta W ts w) : Below W.heap.size W w := by
  obtain ⟨c, h⟩ := h
  exact h.end
theorem Sta.start (W : World) : Sta W [] W := ⟨fun _ => [], Stp.refl _ (fun k _ => rfl), (fun t ht => by simp at ht), List.Pairwise.nil⟩
/-- What was there at first is data. -/
theorem S0.first (h : S0 W ts c w) (b : Nat) (hb : b < W.heap.size) (_ : b < W.heap.size) : w.heap[b]? = W.heap[b]? ∧ Quiet c w b :=
  ⟨h.stp.only.block b hb (fun hn => hn rfl), h.stp.col b hb, Nat.lt_of_lt_of_le hb h.stp.only.size⟩
theorem S0.get (h : S0 W ts c w) {i : Nat} (hi : ts[i]? = some t) : t.R c w := h.own t (List.mem_of_getElem? hi)
theorem S0.fresh (h : S0 W ts c w) : Fresh c w := h.stp.fresh
theorem Sta.get (h : Sta W ts w) {i : Nat} (hi : ts[i]? = some t) : ∃ c, t.R c w := by
  obtain ⟨c, h⟩ := h
  exact ⟨c, h.get hi⟩
theorem S0.one (h : S0 W ts c w) {i j : Nat} {x y : Thing} (hx : ts[i]? = some x) (hy : ts[j]? = some y) (hxp : x.π ≠ []) (hij : i ≠ j) : x.π ≠ y.π := by
  obtain ⟨i1, i2⟩ := List.getElem?_eq_some_iff.1 hx
  obtain ⟨j1, j2⟩ := List.getElem?_eq_some_iff.1 hy
  have hp := List.pairwise_iff_getElem.1 h.apart
  rcases Nat.lt_or_ge i j with hlt | hge
  · have := hp i j i1 j1 hlt
    rw [i2, j2] at this
    exact this hxp
  · have := hp j i j1 i1 (by omega)
    rw [i2, j2] at this
    intro e
    exact this (by rw [← e]; exact hxp) e.symm
/-- A thing has turned. -/
theorem S0.turn (h : S0 W ts c w) {i : Nat} (hi : ts[i]? = some t) (hp : t.π ≠ []) (hp' : t'.π = t.π) (st : Stp (· = t.π) c w c' w') (ht : t'.R c' w') : S0 W (ts.set i t') c' w' where
  stp := h.stp.trans (st.mono fun x hx => by subst hx; exact hp)
  own x hx := by
    obtain ⟨j, hj⟩ := List.mem_iff_getElem?.1 hx
    rw [List.getElem?_set] at hj
    by_cases hij : i = j
    · rw [if_pos hij] at hj
      split at hj
      · injection hj with hj; subst hj; exact ht
      · cases hj
    · rw [if_neg hij] at hj
      exact x.keep (h.get hj) (Keeps.of_stp st (fun e => h.one hi hj hp hij e.symm) (fun e => hp e.symm))
  apart := by
    rw [List.pairwise_iff_getElem]
    have hpw := List.pairwise_iff_getElem.1 h.apart
    intro j k hj hk hjk
    simp only [List.length_set] at hj hk
    have hpj := hpw j k hj hk hjk
    rw [List.getElem_set, List.getElem_set]
    obtain ⟨i1, i2⟩ := List.getElem?_eq_some_iff.1 hi
    split
    · rename_i e1; subst e1
      rw [if_neg (by omega)]
      rw [hp']; rw [i2] at hpj; exact hpj
    · split
      · rename_i e1 e2; subst e2
        rw [hp']; rw [i2] at hpj; exact hpj
      · exact hpj
theorem Sta.turn (h : S0 W ts c w) {i : Nat} (hi : ts[i]? = some t) (hp : t.π ≠ []) (hp' : t'.π = t.π) (st : Stp (· = t.π) c w c' w') (ht : t'.R c' w') (hts : ts.set i t' = ts') : Sta W ts' w' := hts ▸ ⟨c', h.turn hi hp hp' st ht⟩
/-- A thing more, of a colour of its own. -/
theorem S0.add (h : S0 W ts c w) (hp : t.π ≠ []) (ho : ∀ x ∈ ts, x.π ≠ t.π) (st : Stp (· = t.π) c w c' w') (ht : t.R c' w') : S0 W (ts ++ [t]) c' w' where
  stp := h.stp.trans (st.mono fun x hx => by subst hx; exact hp)
  own x hx := by
    rcases List.mem_append.1 hx with hx | hx
    · exact x.keep (h.own x hx) (Keeps.of_stp st (ho x hx) (fun e => hp e.symm))
    · simp only [List.mem_singleton] at hx; subst hx; exact ht
  apart := by
    rw [List.pairwise_append]
    exact ⟨h.apart, by simp, fun a ha b hb hn => by simp only [List.mem_singleton] at hb; subst hb; exact ho a ha⟩
/-- Data more. -/
theorem S0.addData (h : S0 W ts c w) (hp : t.π = []) (ht : t.R c w) : S0 W (ts ++ [t]) c w where
  stp := h.stp
  own x hx := by
    rcases List.mem_append.1 hx with hx | hx
    · exact h.own x hx
    · simp only [List.mem_singleton] at hx; subst hx; exact ht
  apart := by
    rw [List.pairwise_append]
    exact ⟨h.apart, by simp, fun a ha b hb hn => by simp only [List.mem_singleton] at hb; subst hb; rw [hp]; exact hn⟩
theorem Sta.addData (h : Sta W ts w) (hp : t.π = []) (ht : ∀ c, Stp (· ≠ []) (fun _ => []) W c w → t.R c w) : Sta W (ts ++ [t]) w := by
  obtain ⟨c, h⟩ := h
  exact ⟨c, h.addData hp (ht c h.stp)⟩
/-- Fewer things. -/
theorem S0.pick (h : S0 W ts c w) (hs : ts'.Sublist ts) : S0 W ts' c w := ⟨h.stp, fun t ht => h.own t (hs.subset ht), h.apart.sublist hs⟩
theorem Sta.pick (h : Sta W ts w) (hs : ts'.Sublist ts) : Sta W ts' w := by
  obtain ⟨c, h⟩ := h
  exact ⟨c, h.pick hs⟩
/-- A thing that turns no more is data. -/
theorem S0.freeze (h : S0 W ts c w) {i : Nat} (hi : ts[i]? = some t) (hp : t.π ≠ []) (hp' : t'.π = []) (ht : ∀ c', (∀ b, b < w.heap.size → (c b = [] ∨ c b = t.π) → c' b = []) → Fresh c' w → t'.R c' w) : Sta W (ts.set i t') w := by
  have k0 : ∀ k, c k = [] → (if c k = t.π then [] else c k) = [] := fun k hk => by rw [hk, if_neg (fun e => hp e.symm)]
  refine ⟨fun k => if c k = t.π then [] else c k, ⟨h.stp.only, fun k hk => k0 k (h.stp.col k hk), fun k hk => k0 k (h.stp.fresh k hk)⟩, fun x hx => ?_, ?_⟩
  · obtain ⟨j, hj⟩ := List.mem_iff_getElem?.1 hx
    rw [List.getElem?_set] at hj
    by_cases hij : i = j
    · rw [if_pos hij] at hj
      split at hj
      · injection hj with hj; subst hj
        exact ht _ (fun b hb hc => by rcases hc with hc | hc; exact k0 b hc; exact if_pos hc) (fun k hk => k0 k (h.stp.fresh k hk))
      · cases hj
    · rw [if_neg hij] at hj
      refine x.keep (h.get hj) ⟨Only.refl _ _, fun b hb hc => ?_⟩
      rcases hc with hc | hc
      · rw [hc]; exact if_neg fun e => hp e.symm
      · exact if_neg (by rw [hc]; exact fun e => h.one hi hj hp hij e.symm)
  · rw [List.pairwise_iff_getElem]
    have hpw := List.pairwise_iff_getElem.1 h.apart
    intro j k hj hk hjk
    simp only [List.length_set] at hj hk
    have hpj := hpw j k hj hk hjk
    rw [List.getElem_set, List.getElem_set]
    split
    · intro hn; exact absurd hp' hn
    · split
      · intro hn; rw [hp']; exact hn
      · exact hpj
end

section
variable {P : Program} {α : Type} {W w w' : World} {ts ts' : List Thing} {c c' : Col}
/-- A block of cells that nobody turns. -/
def tBox (b : Nat) (C : Array Value) : Thing := ⟨[], fun c w => Box w b C ∧ c b = [], fun {c c' w w'} h hk => ⟨h.1.only hk.only (fun hn => hn.1 h.2), (hk.col b h.1.lt (.inl h.2)).trans h.2⟩⟩
/-- A slice that is read. -/
def tAt (E : Elt P α) (A : Option Addr) (n cap : Nat) (l : List α) : Thing := ⟨[], fun c w => E.At w (Quiet c w) A n cap l, fun h hk => h.move hk.quiet⟩
/-- A row of one's own. -/
def tRow (E : Elt P α) (π : List Int) (v : Value) (l : List α) : Thing := ⟨π, fun c w => E.Row c π w v l, fun h hk => h.keep hk.only (fun b hb e => (hk.col b hb (.inl e)).trans e) (fun b hb e => (hk.col b hb (.inr e)).trans e)⟩
theorem Sta.addBox (h : Sta W ts w) (C : Array Value) (T : TypeId) : Sta W (ts ++ [tBox w.heap.size C]) (w.alloc (.cells C T)) := by
  obtain ⟨c, h⟩ := h
  exact ⟨c, (h.later (below_a1 w (.cells C T))).addData rfl ⟨Box.new _ _ _, h.fresh _ (Nat.le_refl _)⟩⟩
theorem Sta.box {i b : Nat} {C : Array Value} (h : Sta W ts w) (hi : ts[i]? = some (tBox b C)) : Box w b C := by
  obtain ⟨c, h⟩ := h
  exact (h.get hi).1
theorem Sta.at {E : Elt P α} {i : Nat} {A : Option Addr} {n cap : Nat} {l : List α} (h : Sta W ts w) (hi : ts[i]? = some (tAt E A n cap l)) : E.At w (· < w.heap.size) A n cap l := by
  obtain ⟨c, h⟩ := h
  exact Elt.At.imp (h.get hi) fun b hb => hb.2
theorem Sta.row {E : Elt P α} {i : Nat} {π : List Int} {v : Value} {l : List α} (h : Sta W ts w) (hi : ts[i]? = some (tRow E π v l)) : ∃ c, E.Row c π w v l := by
  obtain ⟨c, h⟩ := h
  exact ⟨c, h.get hi⟩
theorem Sta.rowNil (h : Sta W ts w) (E : Elt P α) (π : List Int) (hp : π ≠ []) (ho : ∀ x ∈ ts, x.π ≠ π) : Sta W (ts ++ [tRow E π (.slice none 0 0) []]) w := by
  obtain ⟨c, h⟩ := h
  exact ⟨c, h.add (t := tRow E π _ _) hp ho (Stp.refl _ h.fresh) (Elt.Row.nil _ _ _)⟩
/-- A row becomes data. -/
theorem Sta.freeze {E : Elt P α} {i : Nat} {π : List Int} {A : Option Addr} {n cap : Nat} {l : List α} (h : Sta W ts w) (hi : ts[i]? = some (tRow E π (.slice A n cap) l)) (hp : π ≠ []) (hts : ts.set i (tAt E A n cap l) = ts') : Sta W ts' w := by
  obtain ⟨c, h⟩ := h
  subst hts
  refine h.freeze hi hp rfl fun c' hc _ => ?_
  have hr : E.Row c π w (.slice A n cap) l := h.get hi
  exact hr.reads.move fun b hb hlt => ⟨rfl, hc b hlt (hb.1.symm), hb.2⟩
theorem Sta.addAt {E : Elt P α} {A : Option Addr} {n cap : Nat} {l : List α} (h : Sta W ts w) (hl : E.At W (· < W.heap.size) A n cap l) : Sta W (ts ++ [tAt E A n cap l]) w := by
  obtain ⟨c, h⟩ := h
  exact ⟨c, h.addData rfl (hl.move h.first)⟩
/-- What a call has made is data. -/
theorem Sta.addNew {E : Elt P α} {A : Option Addr} {n cap : Nat} {l : List α} {B : Nat} (h : Sta W ts w) (hb : Below w.heap.size w w') (hl : E.At w' (B ≤ ·) A n cap l) (hB : w.heap.size ≤ B) : Sta W (ts ++ [tAt E A n cap l]) w' := by
  obtain ⟨c, h⟩ := h
  exact ⟨c, (h.later hb).addData rfl (hl.move fun b hb' hlt => ⟨rfl, h.fresh b (Nat.le_trans hB hb'), hlt⟩)⟩
end
end Go.Proofs.YtdpamikobmefeaaGreat
