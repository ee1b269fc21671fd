/- Arguments that are slices of records, of ranges, opened. Conditions: none. -/
import Derived.Test.YtdpamikobmefeaaGreatRecElt
import Derived.Test.YtdpamikobmefeaaGreatLaw
namespace Go.Proofs.YtdpamikobmefeaaGreat
open Go.RowKit Go.ChangeShapes
set_option maxRecDepth 100000
set_option linter.unusedVariables false
set_option linter.unusedSimpArgs false

theorem Elt.open {P : Program} {α : Type} {E : Elt P α} {w : World} {D : Nat → Prop} {s : Sh} {bytes : Nat} {cs : List Value} {y : List s.T} (hk : s.size = E.k) (h : Sh.Rep w D (.sl s bytes) cs y) (he : ∀ cl (x : s.T), Sh.Rep w D s cl x → ∃ z : α, E.rd w D cl z) :
    ∃ A n cap l, cs = [.slice A n cap] ∧ n * bytes ≤ 140737488351232 ∧ E.At w D A n cap l := by
  have hp := E.pos
  obtain ⟨A, n, cap, rfl, h2, h3, h4, h5, h6, h7⟩ := structs_of (by omega) h
  by_cases hn : 0 < n
  · obtain ⟨b, off, rfl, hd, hc⟩ := h7 hn
    obtain ⟨l, hl, hp⟩ := list_of_each (n := n) (p := fun j (z : α) => ∃ cs, (∀ (t : Nat) u, cs[t]? = some u → w.cell? ⟨b, off + j * E.k + t, none⟩ = some u) ∧ E.rd w D cs z) fun j hj => by
      obtain ⟨cl, x, hx, hl, hcell, hr⟩ := hc j hj
      obtain ⟨z, hz⟩ := he cl x hr
      refine ⟨z, cl, fun t u hu => ?_, hz⟩
      have ht : t < s.size := by rw [← hl]; exact (List.getElem?_eq_some_iff.1 hu).1
      have h9 := hcell t ht
      rw [hu] at h9
      rw [← hk, Nat.add_assoc]; exact h9
    exact ⟨_, n, cap, l, rfl, h5, hl, h3, h4, h6, fun _ => ⟨b, off, rfl, hd, fun j x hj => hp j x hj⟩⟩
  · obtain rfl : n = 0 := by omega
    exact ⟨A, 0, cap, [], rfl, h5, rfl, h3, h4, h6, fun h => absurd h hn⟩
theorem recs_open {w : World} {D : Nat → Prop} {v : Value} {y : (Sh.sl (.st shRecC) 40).T} (h : Sh.Val w D (.sl (.st shRecC) 40) v y) : ∃ A n cap l, v = .slice A n cap ∧ n * 40 ≤ 140737488351232 ∧ recE.At w D A n cap l := by
  obtain ⟨A, n, cap, l, h1, h2, h3⟩ := Elt.open (E := recE) (s := .st shRecC) rfl h fun cl x hx => by
    obtain ⟨r, s, l, c, rfl, hr, hi⟩ := rec_cells hx
    exact ⟨r, s, l, c, rfl, hr, hi⟩
  simp only [List.cons.injEq, and_true] at h1
  exact ⟨A, n, cap, l, h1, h2, h3⟩
abbrev shRngC : Sh := .pair (.int .i64) (.pair (.int .u32) (.pair (.int .u32) .unit))
theorem rng_info : ∃ i : TypeInfo, Tryz.prog.info? 29 = some i ∧ i.zero = some (.agg #[.int .i64 0, .int .u32 0, .int .u32 0]) ∧ i.size = 3 ∧ i.bytes = 16 := by
  obtain ⟨j0, jii, jz0, jz1, jz2⟩ := info_parts (show (Tryz.prog.info? 29).map (fun i => (i.zero, i.size, i.bytes)) = some (some (.agg #[.int .i64 0, .int .u32 0, .int .u32 0]), 3, 16) by kernel_rfl)
  exact ⟨j0, jii, jz0, jz1, jz2⟩
def rngE : Elt Tryz.prog Rng where
  T := 29
  ST := 30
  k := 3
  bytes := 16
  zero := .agg #[.int .i64 0, .int .u32 0, .int .u32 0]
  rd := fun w D cs r => cs = encR r ∧ r.ok
  pos := by omega
  len := fun ⟨h, _⟩ => by rw [h]; rfl
  one := fun ⟨h, _⟩ u hu => by subst h; simp only [encR, List.mem_cons, List.not_mem_nil, or_false] at hu; rcases hu with rfl | rfl | rfl <;> rfl
  move := fun h _ => h
  und := Tryz.underlying30
  info := rng_info
  zlen := rfl
  blim := by omega
theorem rngsAt {w : World} {D : Nat → Prop} {A : Option Addr} {n cap : Nat} {l : List Rng} (h : rngE.At w D A n cap l) (hn : n * 16 ≤ 140737488351232) : RngsAt w D A n cap l := by
  obtain ⟨h1, h2, h3, h4, h5⟩ := h
  refine ⟨h1, h2, h3, hn, h4, fun r hr => ?_, fun hn => ?_⟩
  · obtain ⟨j, hj⟩ := List.mem_iff_getElem?.1 hr
    have hjl := (List.getElem?_eq_some_iff.1 hj).1
    obtain ⟨b, off, _, _, hc⟩ := h5 (by omega)
    obtain ⟨cs, _, _, hok⟩ := hc j r hj
    exact hok
  · obtain ⟨b, off, rfl, hd, hc⟩ := h5 hn
    refine ⟨b, off, rfl, hd, fun j r hj => ?_⟩
    obtain ⟨cs, q0, rfl, _⟩ := hc j r hj
    exact q0
theorem rngs_open {w : World} {D : Nat → Prop} {v : Value} {y : (Sh.sl (.st shRngC) 16).T} (h : Sh.Val w D (.sl (.st shRngC) 16) v y) : ∃ A n cap l, v = .slice A n cap ∧ RngsAt w D A n cap l := by
  obtain ⟨A, n, cap, l, h1, h2, h3⟩ := Elt.open (E := rngE) (s := .st shRngC) rfl h fun cl x hx => by
    obtain ⟨c1, c2, rfl, ⟨rfl, w1⟩, c3, c4, rfl, ⟨rfl, w2⟩, c5, c6, rfl, ⟨rfl, w3⟩, h4⟩ := hx
    cases h4
    exact ⟨⟨_, _, _⟩, rfl, u32_of w2, u32_of w3⟩
  simp only [List.cons.injEq, and_true] at h1
  exact ⟨A, n, cap, l, h1, rngsAt h3 h2⟩
end Go.Proofs.YtdpamikobmefeaaGreat
