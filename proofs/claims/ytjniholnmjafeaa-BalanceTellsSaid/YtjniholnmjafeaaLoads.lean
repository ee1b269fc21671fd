/- Loads of nodes: plain data, how they are read, and what is asked of them. Conditions: none. -/
import Derived.Test.YtjniholnmjafeaaStructs
set_option linter.unusedVariables false
namespace Go.Proofs.Ytjniholnmjafeaa
open Go.RowKit Go.ChangeShapes

theorem Box.setAs {w : World} {b i : Nat} {C C' : Array Value} {v : Value} (h : Box w b C) (e : C.setIfInBounds i v = C') : Box (w.setCell ⟨b, i, none⟩ v) b C' := by subst e; exact h.set v
def I64 (n : Int) : Prop := -9223372036854775808 ≤ n ∧ n ≤ 9223372036854775807
structure Ld where
  pt : Int
  en : Int
deriving DecidableEq
def Ld.ok (x : Ld) : Prop := U32 x.pt ∧ I64 x.en

/-- A slice of loads that is read. -/
def Lds (w : World) (A : Option Addr) (n cap : Nat) (l : List Ld) : Prop :=
  l.length = n ∧ n ≤ cap ∧ cap ≤ 9223372036854775807 ∧ n * 16 ≤ 140737488351232 ∧ (A = none → cap = 0) ∧ (∀ x ∈ l, x.ok) ∧
    (0 < n → ∃ b off, A = some ⟨b, off, none⟩ ∧ b < w.heap.size ∧ ∀ j x, l[j]? = some x → w.cell? ⟨b, off + j * 2, none⟩ = some (.int .u32 x.pt) ∧ w.cell? ⟨b, off + j * 2 + 1, none⟩ = some (.int .i64 x.en))
theorem Lds.below {w w' : World} {A : Option Addr} {n cap : Nat} {l : List Ld} {B : Nat} (h : Lds w A n cap l) (hb : Below B w w') (hB : w.heap.size ≤ B) : Lds w' A n cap l := by
  obtain ⟨h1, h2, h3, h4, h5, h6, h7⟩ := h
  refine ⟨h1, h2, h3, h4, h5, h6, fun hn => ?_⟩
  obtain ⟨b, off, rfl, hd, hc⟩ := h7 hn
  refine ⟨b, off, rfl, Nat.lt_of_lt_of_le hd hb.size, fun j x hx => ?_⟩
  obtain ⟨c0, c1⟩ := hc j x hx
  exact ⟨(hb.cell (p := ⟨b, off + j * 2, none⟩) (Nat.lt_of_lt_of_le hd hB)).trans c0, (hb.cell (p := ⟨b, off + j * 2 + 1, none⟩) (Nat.lt_of_lt_of_le hd hB)).trans c1⟩
theorem Lds.same {w w' : World} {A : Option Addr} {n cap : Nat} {l : List Ld} (h : Lds w A n cap l) (hb : Below w.heap.size w w') : Lds w' A n cap l := h.below hb (Nat.le_refl _)

abbrev shLdC : Sh := .pair (.int .u32) (.pair (.int .i64) .unit)
theorem lds_open {w : World} {v : Value} {y : List (Int × Int × Unit)} (h' : Sh.Rep w (· < w.heap.size) (.sl (.st shLdC) 16) [v] y) : ∃ (l : List Ld) (A : Option Addr) (n cap : Nat), v = .slice A n cap ∧ Lds w A n cap l := by
  obtain ⟨A, n, cap, h1, h2, h3, h4, h5, h6, h7⟩ := structs_of (s := .st shLdC) (by decide) h'
  simp only [List.cons.injEq, and_true] at h1
  have h2 : List.length (α := Int × Int × Unit) y = n := h2
  refine ⟨y.map (fun x => ⟨x.1, x.2.1⟩), A, n, cap, h1, by rw [List.length_map]; exact h2, h3, h4, h5, h6, ?_, fun hn => ?_⟩
  · intro x hx
    obtain ⟨z, hz, rfl⟩ := List.mem_map.1 hx
    obtain ⟨j, hj⟩ := List.getElem?_of_mem hz
    have hjn : j < n := by have := (List.getElem?_eq_some_iff.1 hj).1; omega
    obtain ⟨b, off, hA, hd, hc⟩ := h7 (by omega)
    obtain ⟨cl, x', hx', hl, hcell, hr⟩ := hc j hjn
    have hx' := Option.some.inj (hj.symm.trans hx'); subst hx'
    obtain ⟨c1, c2, rfl, ⟨rfl, w1⟩, c3, c4, rfl, ⟨rfl, w2⟩, hr4⟩ := hr
    exact ⟨u32_of w1, bounds_i64 w2⟩
  · obtain ⟨b, off, hA, hd, hc⟩ := h7 hn
    refine ⟨b, off, hA, hd, fun j x hx => ?_⟩
    rw [List.getElem?_map] at hx
    obtain ⟨z, hz, rfl⟩ := Option.map_eq_some_iff.1 hx
    have hjn : j < n := by have := (List.getElem?_eq_some_iff.1 hz).1; omega
    obtain ⟨cl, x', hx', hl, hcell, hr⟩ := hc j hjn
    have hx' := Option.some.inj (hz.symm.trans hx'); subst hx'
    obtain ⟨c1, c2, rfl, ⟨rfl, w1⟩, c3, c4, rfl, ⟨rfl, w2⟩, hr4⟩ := hr
    cases hr4
    have c0 := hcell 0 (by decide)
    have c1 := hcell 1 (by decide)
    exact ⟨c0, c1⟩

/-! ### what is asked -/
def okAt (pre : List Ld) (x : Ld) : Bool := decide (0 ≤ x.en) && decide (x.en ≤ 2147483647) && !(pre.any fun y => y.pt == x.pt)
def mayGo (pre : List Ld) : List Ld → Bool
  | [] => true
  | x :: r => okAt pre x && mayGo (pre ++ [x]) r
def mayF (l : List Ld) : Bool := mayGo [] l
/-- The load that stands ahead of all others. -/
def bestF (ahead : Ld → Ld → Bool) : List Ld → Ld
  | [] => ⟨0, 0⟩
  | x :: r => r.foldl (fun best y => if ahead y best then y else best) x
def firstF (ahead : Ld → Ld → Bool) (l : List Ld) : Ld × Bool := if l = [] ∨ mayF l = false then (⟨0, 0⟩, false) else (bestF ahead l, true)
def moreF (a b : Ld) : Bool := decide (b.en < a.en) || (decide (a.en = b.en) && decide (a.pt < b.pt))
def lessF (a b : Ld) : Bool := decide (a.en < b.en) || (decide (a.en = b.en) && decide (a.pt < b.pt))
def clampF (n : Int) : Int := min (max n 0) 2147483647
def sumF (l : List Ld) : Int := (l.map fun x => clampF x.en).sum
def meanF (l : List Ld) : Int := if l = [] then 0 else sumF l * 256 / (l.length : Int)
def heavyF (l : List Ld) : Ld × Bool := let r := firstF moreF l; if r.2 = false ∨ r.1.en * 256 ≤ 2 * meanF l then (⟨0, 0⟩, false) else (r.1, true)
def lightF (l : List Ld) : Ld × Bool := let r := firstF lessF l; if r.2 = false ∨ meanF l ≤ r.1.en * 512 then (⟨0, 0⟩, false) else (r.1, true)
/-- Who moves where (from, to, reason), of the loads and the values of the shelf. -/
def planF (l : List Ld) (vs : List Int) : Int × Int × Int :=
  if mayF l = false then (0, 0, 1) else
  if (heavyF l).2 = false ∨ (lightF l).2 = false ∨ vs.length < 2 then (0, 0, 20) else
  if vs.getD (vs.length / 2) 0 = (heavyF l).1.pt then (0, 0, 20) else ((lightF l).1.pt, vs.getD (vs.length / 2) 0, 0)

theorem mayGo_step {pre r : List Ld} {x : Ld} : mayGo pre (x :: r) = (okAt pre x && mayGo (pre ++ [x]) r) := rfl
theorem drop_cons {l : List Ld} {k : Nat} {x : Ld} (h : l[k]? = some x) : l.drop k = x :: l.drop (k + 1) := by
  obtain ⟨hk, rfl⟩ := List.getElem?_eq_some_iff.1 h
  exact List.drop_eq_getElem_cons hk
theorem take_snocL {l : List Ld} {k : Nat} {x : Ld} (h : l[k]? = some x) : l.take (k + 1) = l.take k ++ [x] := by
  obtain ⟨hk, rfl⟩ := List.getElem?_eq_some_iff.1 h
  exact List.take_succ_eq_append_getElem hk
theorem may_at {l : List Ld} {k : Nat} {x : Ld} (hx : l[k]? = some x) (h : mayF l = mayGo (l.take k) (l.drop k)) : mayF l = (okAt (l.take k) x && mayGo (l.take (k + 1)) (l.drop (k + 1))) := by
  rw [h, drop_cons hx, mayGo_step, ← take_snocL hx]
theorem may_start (l : List Ld) : mayF l = mayGo (l.take 0) (l.drop 0) := rfl
theorem may_end {l : List Ld} {k : Nat} (hk : l.length ≤ k) (h : mayF l = mayGo (l.take k) (l.drop k)) : mayF l = true := by
  rw [h, List.drop_of_length_le hk]; rfl
end Go.Proofs.Ytjniholnmjafeaa
