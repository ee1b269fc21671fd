/- The law's operations, opened. Conditions: none. -/
import Derived.Test.YtmohkfihfkcpdaaEntsOpen
namespace Go.Proofs.Ytmohkfihfkcpdaa
open Go.RowKit Go.ChangeShapes
set_option linter.unusedVariables false

abbrev shSpanC : Sh := .pair (.int .u32) (.pair (.int .u32) .unit)
abbrev shOpC : Sh := .pair (.int .i64) (.pair (.st shEntC) (.pair (.st shSpanC) (.pair (.sl (.st shEntC) 56) .unit)))
structure OpC where
  kind : Int
  m : EntC
  f : Int
  t : Int
  A : Option Addr
  n : Nat
  cap : Nat
def encOp (o : OpC) : List Value := [.int .i64 o.kind, .int .u32 o.m.x, .int .u64 o.m.id, .int .u64 o.m.ver, .slice o.m.s o.m.l o.m.c, .bool o.m.g, .int .u32 o.f, .int .u32 o.t, .slice o.A o.n o.cap]
def OpOk (w : World) (o : OpC) (e : Ent) (l : List Ent) : Prop := EntNew w (· < w.heap.size) o.m e ∧ U32 o.f ∧ U32 o.t ∧ EntsAt w (· < w.heap.size) o.A o.n o.cap l ∧ o.n ≤ 140737488351232
theorem ops_at {w : World} {v : Value} {y : (Sh.sl (.st shOpC) 96).T} (h : Sh.Rep w (· < w.heap.size) (.sl (.st shOpC) 96) [v] y) : ∃ A n cap, v = .slice A n cap ∧ n ≤ 140737488351232 ∧
    (0 < n → ∃ b off, A = some ⟨b, off, none⟩ ∧ b < w.heap.size ∧ ∀ j, j < n → ∃ o e l, (∀ t u, (encOp o)[t]? = some u → w.cell? ⟨b, off + j * 9 + t, none⟩ = some u) ∧ OpOk w o e l) := by
  obtain ⟨A, n, cap, h1, h2, h3, h4, h5, h6, h7⟩ := structs_of (s := .st shOpC) (by decide) h
  simp only [List.cons.injEq, and_true] at h1
  refine ⟨A, n, cap, h1, by omega, fun hn => ?_⟩
  obtain ⟨b, off, hA, hd, hc⟩ := h7 hn
  refine ⟨b, off, hA, hd, fun j hj => ?_⟩
  obtain ⟨cl, z, hz, hl, hcell, hr⟩ := hc j hj
  obtain ⟨c1, c2, hcl, ⟨rfl, w1⟩, c3, c4, rfl, hE, c5, c6, rfl, hS, c7, c8, rfl, hL, hU⟩ := hr
  cases hU
  obtain ⟨e, s, l, c, rfl, hok, hi⟩ := ent_cells hE
  obtain ⟨d1, d2, rfl, ⟨rfl, v1⟩, d3, d4, rfl, ⟨rfl, v2⟩, hu⟩ := hS
  cases hu
  obtain ⟨A0, n0, cap0, rfl, _⟩ := id hL
  obtain ⟨A', n', cap', l', hv, q1, q2, q3⟩ := ents_at hL
  injection hv with e1 e2 e3
  subst e1 e2 e3
  refine ⟨⟨z.1, ⟨e.value, e.rc.id, e.rc.ver, s, l, c, e.gone⟩, _, _, A0, n0, cap0⟩, e, l', fun t u hu => ?_, ⟨rfl, rfl, rfl, rfl, hok, hi⟩, u32_of v1, u32_of v2, q3, by show n0 ≤ _; omega⟩
  have ht : t < 9 := (List.getElem?_eq_some_iff.1 hu).1
  have h9 := hcell t ht
  rw [hcl] at h9
  rw [show off + j * 9 + t = off + (j * (Sh.st shOpC).size + t) by show _ = off + (j * 9 + t); omega, h9]
  exact hu
end Go.Proofs.Ytmohkfihfkcpdaa
