/- The row that a scan makes: entries with values in new memory; what an append makes of it. Conditions: none. -/
import Derived.Test.YtjcbmfopcohcmaaSortLay
import Derived.Test.YtjcbmfopcohcmaaApp
import Derived.Test.YtjcbmfopcohcmaaShelfGet
namespace Go.Proofs.Ytjcbmfopcohcmaa
open Go.RowKit Go.ChangeShapes Go.Maps
set_option maxRecDepth 100000
set_option linter.unusedVariables false
set_option linter.unusedSimpArgs false

def ecCells (M : List EntC) : List Value := M.flatMap encE
theorem ecCells_len (M : List EntC) : (ecCells M).length = M.length * 5 := by
  induction M with
  | nil => rfl
  | cons c M ih => rw [ecCells, List.flatMap_cons, List.length_append]; show 5 + (ecCells M).length = _; rw [ih, List.length_cons]; omega
theorem ecCells_snoc (M : List EntC) (c : EntC) : ecCells (M ++ [c]) = ecCells M ++ encE c := by simp [ecCells]
theorem ecCells_at : ∀ {M : List EntC} {j : Nat} {c : EntC}, M[j]? = some c → ∀ t, t < 5 → (ecCells M)[j * 5 + t]? = (encE c)[t]?
  | [], j, c, h, t, ht => by simp at h
  | y :: r, 0, c, h, t, ht => by
    simp only [List.getElem?_cons_zero, Option.some.injEq] at h
    subst h
    rw [ecCells, List.flatMap_cons, List.getElem?_append_left (by show _ < 5; omega), Nat.zero_mul, Nat.zero_add]
  | y :: r, j + 1, c, h, t, ht => by
    rw [List.getElem?_cons_succ] at h
    have := ecCells_at h t ht
    rw [ecCells, List.flatMap_cons, List.getElem?_append_right (by show 5 ≤ _; omega)]
    rw [show (j + 1) * 5 + t - (encE y).length = j * 5 + t by show (j + 1) * 5 + t - 5 = _; omega]
    exact this

/-- The entry that a value shows, its values being in D. -/
def EntNew (w : World) (D : Nat → Prop) (c : EntC) (e : Ent) : Prop :=
  c.x = e.value ∧ c.id = e.rc.id ∧ c.ver = e.rc.ver ∧ c.g = e.gone ∧ e.ok ∧ Ints w D .u32 4 c.s c.l c.c e.rc.vals
/-- New memory beside a row's own block. -/
def Beside (base : Nat) (w : World) (v : Value) (b : Nat) : Prop := base ≤ b ∧ b < w.heap.size ∧ v.ownBlock ≠ some b
theorem EntNew.move {w w' : World} {D D' : Nat → Prop} {c : EntC} {e : Ent} (h : EntNew w D c e) (hw : ∀ b, D b → b < w.heap.size → w'.heap[b]? = w.heap[b]? ∧ D' b) : EntNew w' D' c e :=
  ⟨h.1, h.2.1, h.2.2.1, h.2.2.2.1, h.2.2.2.2.1, h.2.2.2.2.2.move hw⟩

/-- A row of entries of one's own: each shows what f tells. -/
structure ScanRow (base : Nat) (f : EntC → Ent) (w : World) (v : Value) (M : List EntC) : Prop where
  row : w.ownsRow base 36 5 v M.length (ecCells M)
  ents : ∀ c ∈ M, EntNew w (Beside base w v) c (f c)
theorem ScanRow.nil (base : Nat) (f : EntC → Ent) (w : World) : ScanRow base f w (.slice none 0 0) [] := ⟨⟨rfl, .inl ⟨rfl, rfl⟩⟩, fun c hc => by simp at hc⟩
theorem ScanRow.below {base : Nat} {f : EntC → Ent} {w w' : World} {v : Value} {M : List EntC} (h : ScanRow base f w v M) (hb : Below w.heap.size w w') : ScanRow base f w' v M where
  row := ownsRow_only h.row (Only.of_below (S := fun _ => False) hb) (fun _ _ h => h)
  ents c hc := (h.ents c hc).move fun b hb' hlt => ⟨hb.block b hlt, hb'.1, Nat.lt_of_lt_of_le hlt hb.size, hb'.2.2⟩
theorem ownBlock_lt {w : World} {base e size n g : Nat} {v : Value} {xs : List Value} (h : w.ownsRow base e size v n xs) (hg : v.ownBlock = some g) : base ≤ g ∧ g < w.heap.size := by
  rcases h.2 with ⟨rfl, _⟩ | ⟨g', cap, cur, rfl, hb, hh, _⟩
  · cases hg
  · have : g' = g := by simpa [Value.ownBlock] using hg
    subst this
    exact ⟨hb, (Array.getElem?_eq_some_iff.1 hh).1⟩
/-- One more entry. -/
theorem ScanRow.app {base : Nat} {f : EntC → Ent} {w w1 w2 w3 : World} {v : Value} {M : List EntC} {c : EntC} {B : Option Addr} {cap : Nat} (h : ScanRow base f w v M) (h1 : Below w.heap.size w w1) (h2 : Below w1.heap.size w1 w2) (hbase : base ≤ w.heap.size)
    (hc : EntNew w1 (w.heap.size ≤ ·) c (f c)) (ha : Appd w2 base 36 5 M.length 1 (ecCells M) (encE c) v B cap w3) : ScanRow base f w3 (.slice B (M.length + 1) cap) (M ++ [c]) := by
  obtain ⟨ho, hg, hbl⟩ := ha
  have s1 := h1.size; have s2 := h2.size; have s3 := hg.size
  refine ⟨by rw [List.length_append, ecCells_snoc]; exact ho, fun y hy => ?_⟩
  rcases List.mem_append.1 hy with hy | hy
  · refine (h.ents y hy).move fun b hb hlt => ⟨?_, hb.1, by omega, ?_⟩
    · rw [hg.block b (by omega) (fun e => hb.2.2 e.symm), h2.block b (by omega), h1.block b hlt]
    · rcases hbl with e | e
      · rw [e]; exact hb.2.2
      · rw [e]; intro e2; injection e2 with e2; omega
  · simp only [List.mem_singleton] at hy
    subst hy
    refine hc.move fun b hb hlt => ?_
    have hne : v.ownBlock ≠ some b := fun e => by have := (ownBlock_lt h.row e).2; omega
    refine ⟨?_, by omega, by omega, ?_⟩
    · rw [hg.block b (by omega) (fun e => hne e.symm), h2.block b hlt]
    · rcases hbl with e | e
      · rw [e]; exact hne
      · rw [e]; intro e2; injection e2 with e2; omega
end Go.Proofs.Ytjcbmfopcohcmaa
