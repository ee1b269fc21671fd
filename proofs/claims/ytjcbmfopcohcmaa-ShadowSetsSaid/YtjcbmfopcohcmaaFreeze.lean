/- A row that is not turned any more is data; a row of entries whose elements are exchanged. Conditions: none. -/
import Derived.Test.YtjcbmfopcohcmaaEntApp
namespace Go.Proofs.Ytjcbmfopcohcmaa
open Go.RowKit Go.ChangeShapes Go.Maps
set_option maxRecDepth 100000
set_option linter.unusedVariables false
set_option linter.unusedSimpArgs false

theorem EntNew.imp {w : World} {D D' : Nat → Prop} {m : EntC} {e : Ent} (h : EntNew w D m e) (hD : ∀ b, D b → D' b) : EntNew w D' m e := h.move fun b hb hlt => ⟨rfl, hD b hb⟩
theorem EntRow.recolor {c c' : Col} {π π' : List Int} {w : World} {v : Value} {L : List Ent} (h : EntRow c π w v L) (h0 : ∀ k, c k = [] → c' k = []) (h1 : ∀ k, c k = π → c' k = π') : EntRow c' π' w v L := by
  obtain ⟨M, ho, hg, hl, hd⟩ := h
  exact ⟨M, ho, fun g hg' => h1 g (hg g hg'), hl, fun j m e hm he => (hd j m e hm he).imp fun b hb => ⟨h0 b hb.1, hb.2⟩⟩
theorem Ob.Rep.recolor {c c' : Col} {w : World} {o : Ob} (h : o.Rep c w) (h0 : ∀ k, c k = [] → c' k = []) (h1 : ∀ k, c k = o.π → c' k = o.π) : o.Rep c' w := by
  unfold Ob.Rep at *
  split
  · rename_i hr
    rw [if_pos hr] at h
    obtain ⟨⟨v, a1, a2, a3⟩, a4⟩ := h
    exact ⟨⟨v, a1, h1 _ a2, a3.recolor h0 h1⟩, a4⟩
  · rename_i hr
    rw [if_neg hr] at h
    obtain ⟨mb, D, a1, a2, a3, a4, a5⟩ := h
    exact ⟨mb, D, a1, h1 _ a2, h1 _ a3, a4, a5.imp fun e he v hv => by
      obtain ⟨s, l, cp, b1, b2, b3⟩ := hv
      exact ⟨s, l, cp, b1, b2, b3.move fun b hb hlt => ⟨rfl, h0 b hb.1, hb.2⟩⟩⟩
theorem EntsAt.imp {w : World} {D D' : Nat → Prop} {A : Option Addr} {n cap : Nat} {l : List Ent} (h : EntsAt w D A n cap l) (hD : ∀ b, D b → D' b) : EntsAt w D' A n cap l := h.move fun b hb hlt => ⟨rfl, hD b hb⟩
theorem StR.freeze {W w : World} {obs : List Ob} {rows : List Rw} {π : List Int} {A : Option Addr} {n cap : Nat} {l : List Ent} (h : StR W obs rows π (.slice A n cap) l w) : St W obs (rows ++ [⟨A, n, cap, l, none⟩]) w := by
  obtain ⟨c, h, hr, hp, ho⟩ := h
  have k0 : ∀ k, c k = [] → (if c k = π then [] else c k) = [] := fun k hk => by rw [hk, if_neg (fun e => hp e.symm)]
  refine ⟨fun k => if c k = π then [] else c k, ⟨h.stp.only, fun k hk => k0 k (h.stp.col k hk), fun k hk => k0 k (h.stp.fresh k hk)⟩, fun o hob => ?_, h.apart, fun r hr' => ?_⟩
  · exact ⟨(h.own o hob).1, (h.own o hob).2.1, (h.own o hob).2.2.recolor k0 fun k hk => by show (if c k = π then [] else c k) = o.π; rw [hk, if_neg (ho o hob)]⟩
  · rcases List.mem_append.1 hr' with hr' | hr'
    · exact (h.reads r hr').recolor k0
    · simp only [List.mem_singleton] at hr'
      subst hr'
      exact (hr.recolor (c' := fun k => if c k = π then [] else c k) (π' := []) k0 fun k hk => by show (if c k = π then [] else c k) = []; rw [hk, if_pos rfl]).at
theorem St0.freeze' {W w : World} {obs : List Ob} {rows : List Rw} (h : St W obs rows w) {o : Ob} {obs' : List Ob} (hs : ∀ x ∈ obs', x ∈ obs) (ha : obs'.Pairwise (fun a b => a.π ≠ b.π)) : St W obs' rows w := by
  obtain ⟨c, h⟩ := h
  exact ⟨c, h.stp, fun x hx => h.own x (hs x hx), ha, h.reads⟩

/-- Five cells, from j * 5 on. -/
def put5 (cur : Array Value) (j : Nat) (m : EntC) : Array Value :=
  ((((cur.setIfInBounds (j * 5) (.int .u32 m.x)).setIfInBounds (j * 5 + 1) (.int .u64 m.id)).setIfInBounds (j * 5 + 2) (.int .u64 m.ver)).setIfInBounds (j * 5 + 3) (.slice m.s m.l m.c)).setIfInBounds (j * 5 + 4) (.bool m.g)
theorem put5_size (cur : Array Value) (j : Nat) (m : EntC) : (put5 cur j m).size = cur.size := by simp [put5]
theorem put5_take {cur : Array Value} {M : List EntC} {j : Nat} {m : EntC} (hs : M.length * 5 ≤ cur.size) (hj : j < M.length) (h : cur.toList.take (M.length * 5) = ecCells M) : (put5 cur j m).toList.take (M.length * 5) = ecCells (M.set j m) := by
  apply List.ext_getElem?
  intro t
  by_cases ht : t < M.length * 5
  · have hM : ∀ (M : List EntC) (c : EntC), M[t / 5]? = some c → (ecCells M)[t]? = (encE c)[t % 5]? := fun M c hc => by
      have := ecCells_at hc (t % 5) (by omega)
      rwa [show t / 5 * 5 + t % 5 = t by omega] at this
    rw [List.getElem?_take_of_lt ht, Array.getElem?_toList]
    have h0 : cur[t]? = (ecCells M)[t]? := by rw [← h, List.getElem?_take_of_lt ht, Array.getElem?_toList]
    have hc : (M.set j m)[t / 5]? = some (if j = t / 5 then m else M[t / 5]'(by omega)) := by
      rw [List.getElem?_set]
      split
      · rfl
      · exact List.getElem?_eq_getElem (by omega)
    rw [hM _ _ hc]
    unfold put5
    by_cases hjt : j = t / 5
    · rw [if_pos hjt]
      obtain ⟨r, hr, rfl⟩ : ∃ r, r < 5 ∧ t = j * 5 + r := ⟨t % 5, by omega, by omega⟩
      rw [show (j * 5 + r) % 5 = r by omega]
      have hsz : j * 5 + r < cur.size := by omega
      rcases (by omega : r = 0 ∨ r = 1 ∨ r = 2 ∨ r = 3 ∨ r = 4) with rfl | rfl | rfl | rfl | rfl
      all_goals simp [Array.getElem?_setIfInBounds, encE, hsz]
      all_goals try omega
    · rw [if_neg hjt]
      rw [Array.getElem?_setIfInBounds, if_neg (by omega), Array.getElem?_setIfInBounds, if_neg (by omega), Array.getElem?_setIfInBounds, if_neg (by omega), Array.getElem?_setIfInBounds, if_neg (by omega), Array.getElem?_setIfInBounds, if_neg (by omega), h0]
      exact hM _ _ (List.getElem?_eq_getElem (by omega))
  · rw [List.getElem?_eq_none (by have := List.length_take_le (M.length * 5) (put5 cur j m).toList; omega), List.getElem?_eq_none (by rw [ecCells_len, List.length_set]; omega)]
theorem set_some {w : World} {g : Nat} {cur : Array Value} (hb : Box w g cur) (i j : Nat) (v : Value) (hj : j < cur.size) : ∃ u, (w.setCell ⟨g, i, none⟩ v).cell? ⟨g, j, none⟩ = some u := by
  rw [(hb.set (i := i) v).cell j]
  exact ⟨_, Array.getElem?_eq_getElem (by simpa using hj)⟩
theorem box_some {w : World} {g : Nat} {cur : Array Value} (hb : Box w g cur) (j : Nat) (hj : j < cur.size) : ∃ u, w.cell? ⟨g, j, none⟩ = some u := ⟨_, (hb.cell j).trans (Array.getElem?_eq_getElem hj)⟩
/-- What two stores leave of a block. -/
theorem BoxT.put5 {w : World} {T g : Nat} {cur : Array Value} (h : BoxT w T g cur) (j : Nat) (m : EntC) : BoxT (((((w.setCell ⟨g, j * 5, none⟩ (.int .u32 m.x)).setCell ⟨g, j * 5 + 1, none⟩ (.int .u64 m.id)).setCell ⟨g, j * 5 + 2, none⟩ (.int .u64 m.ver)).setCell ⟨g, j * 5 + 3, none⟩ (.slice m.s m.l m.c)).setCell ⟨g, j * 5 + 4, none⟩ (.bool m.g)) T g (put5 cur j m) :=
  ((((h.set _).set _).set _).set _).set _
theorem Only.put5 {S : Nat → Prop} {w0 w : World} (h : Only S w0 w) {g : Nat} (hg : S g) (j : Nat) (m : EntC) : Only S w0 (((((w.setCell ⟨g, j * 5, none⟩ (.int .u32 m.x)).setCell ⟨g, j * 5 + 1, none⟩ (.int .u64 m.id)).setCell ⟨g, j * 5 + 2, none⟩ (.int .u64 m.ver)).setCell ⟨g, j * 5 + 3, none⟩ (.slice m.s m.l m.c)).setCell ⟨g, j * 5 + 4, none⟩ (.bool m.g)) :=
  ((((h.setCell (.inl hg) _).setCell (.inl hg) _).setCell (.inl hg) _).setCell (.inl hg) _).setCell (.inl hg) _
theorem list_set2 {α : Type} {l : List α} {a k : Nat} {x y : α} (j : Nat) : ((l.set a y).set k x)[j]? = if k = j ∧ j < l.length then some x else if a = j ∧ j < l.length then some y else l[j]? := by
  rw [List.getElem?_set, List.getElem?_set]
  simp only [List.length_set]
  by_cases h1 : k = j <;> by_cases h2 : a = j <;> by_cases h3 : j < l.length <;> simp [h1, h2, h3] <;> omega
/-- A row, behind an exchange of two of its entries. -/
theorem EntRow.swap {c : Col} {π : List Int} {w w' : World} {g n cap : Nat} {L : List Ent} {a k : Nat} {ea ek : Ent} {ma mk : EntC} {T : Nat} {cur : Array Value} (h : EntRow c π w (.slice (some ⟨g, 0, none⟩) n cap) L) (hf : Fresh c w) (hπ : π ≠ [])
    (ha : L[a]? = some ea) (hk : L[k]? = some ek) (hma : ∀ t u, (encE ma)[t]? = some u → w.cell? ⟨g, a * 5 + t, none⟩ = some u) (hmk : ∀ t u, (encE mk)[t]? = some u → w.cell? ⟨g, k * 5 + t, none⟩ = some u)
    (hea : EntNew w (Still c w) ma ea) (hek : EntNew w (Still c w) mk ek) (hb : BoxT w T g cur)
    (hb' : BoxT w' T g (put5 (put5 cur a mk) k ma)) (ho : Only (· = g) w w') : Stp (· = π) c w c w' ∧ EntRow c π w' (.slice (some ⟨g, 0, none⟩) n cap) ((L.set a ek).set k ea) := by
  obtain ⟨M, hown, hg, hl, hd⟩ := h
  have hcg : c g = π := hg g rfl
  have hst : Stp (· = π) c w c w' := ⟨ho.mono (fun k _ hk => by subst hk; exact hcg), fun _ _ => rfl, fun b hb => hf b (Nat.le_trans ho.size hb)⟩
  refine ⟨hst, (M.set a mk).set k ma, ?_, hg, by simp [hl], fun j m e hm he => ?_⟩
  · rcases hown with ⟨hlen, hown⟩
    refine ⟨by rw [ecCells_len, List.length_set, List.length_set], ?_⟩
    rcases hown with ⟨hv, _⟩ | ⟨g', cap', cur', hv, hbase, hh, hn, hc, hs, htk⟩
    · cases hv
    · have hv' := hv
      injection hv with hv hnn hcc
      injection hv with hv
      injection hv with hv
      subst hv
      unfold BoxT at hb
      rw [hh] at hb
      injection hb with hb
      injection hb with hb1 hb2
      subst hb1 hb2
      refine .inr ⟨g, cap', put5 (put5 cur' a mk) k ma, ?_, hbase, hb', ?_, hc, ?_, ?_⟩
      · rw [hv']; simp
      · simpa using hn
      · rw [put5_size, put5_size]; exact hs
      · have al := (List.getElem?_eq_some_iff.1 ha).1
        have kl := (List.getElem?_eq_some_iff.1 hk).1
        have hsz : M.length * 5 ≤ cur'.size := by rw [hs]; exact Nat.mul_le_mul_right 5 hn
        have h1 := put5_take (m := mk) hsz (by omega) htk (j := a)
        have h2 := put5_take (m := ma) (M := M.set a mk) (cur := put5 cur' a mk) (j := k) (by rw [List.length_set, put5_size]; exact hsz) (by rw [List.length_set]; omega) (by rw [List.length_set]; exact h1)
        rw [List.length_set] at h2
        rw [List.length_set, List.length_set]
        exact h2
  · have mv : ∀ {m e}, EntNew w (Still c w) m e → EntNew w' (Still c w') m e := fun h => h.move fun b hb hlt => ⟨hst.only.block b hlt (by show ¬ c b = π; rw [hb.1]; exact fun e => hπ e.symm), hb.1, Nat.lt_of_lt_of_le hlt hst.only.size⟩
    refine mv ?_
    have jl := (List.getElem?_eq_some_iff.1 he).1
    simp only [List.length_set] at jl
    rw [list_set2] at hm he
    by_cases h1 : k = j
    · rw [if_pos ⟨h1, by omega⟩] at hm he
      injection hm with hm; injection he with he
      subst hm he
      exact hea
    · rw [if_neg (fun h => h1 h.1)] at hm he
      by_cases h2 : a = j
      · rw [if_pos ⟨h2, by omega⟩] at hm he
        injection hm with hm; injection he with he
        subst hm he
        exact hek
      · rw [if_neg (fun h => h2 h.1)] at hm he
        exact hd j m e hm he
theorem put5_comm {cur : Array Value} {M : List EntC} {a k : Nat} (ma mk : EntC) (h : a ≠ k) : put5 (put5 cur a mk) k ma = put5 (put5 cur k ma) a mk := by
  apply Array.ext_getElem?
  intro t
  have key : ∀ (c : Array Value) (j : Nat) (m : EntC), (put5 c j m)[t]? = if t / 5 = j then (if t < c.size then (encE m)[t % 5]? else none) else c[t]? := by
    intro c j m
    unfold put5
    by_cases hj : t / 5 = j
    · rw [if_pos hj]
      obtain ⟨r, hr, rfl⟩ : ∃ r, r < 5 ∧ t = j * 5 + r := ⟨t % 5, by omega, by omega⟩
      rw [show (j * 5 + r) % 5 = r by omega]
      by_cases hsz : j * 5 + r < c.size
      · rw [if_pos hsz]
        rcases (by omega : r = 0 ∨ r = 1 ∨ r = 2 ∨ r = 3 ∨ r = 4) with rfl | rfl | rfl | rfl | rfl
        all_goals simp [Array.getElem?_setIfInBounds, encE, hsz]
        all_goals try omega
      · rw [if_neg hsz, Array.getElem?_eq_none (by simpa using hsz)]
    · rw [if_neg hj]
      rw [Array.getElem?_setIfInBounds, if_neg (by omega), Array.getElem?_setIfInBounds, if_neg (by omega), Array.getElem?_setIfInBounds, if_neg (by omega), Array.getElem?_setIfInBounds, if_neg (by omega), Array.getElem?_setIfInBounds, if_neg (by omega)]
  rw [key (put5 cur a mk) k ma, key cur a mk, key (put5 cur k ma) a mk, key cur k ma, put5_size, put5_size]
  generalize (if t < cur.size then (encE ma)[t % 5]? else none) = X1
  generalize (if t < cur.size then (encE mk)[t % 5]? else none) = X2
  generalize t / 5 = z
  by_cases h1 : z = k
  · subst h1
    rw [if_pos rfl, if_neg (fun e => h e.symm), if_pos rfl]
  · rw [if_neg h1, if_neg h1]
end Go.Proofs.Ytjcbmfopcohcmaa
