/- A row of records of one's own, with values in new memory; what an append makes of it. Conditions: none. -/
import Derived.Test.YtdpamikobmefeaaGreatGatherAdd
namespace Go.Proofs.YtdpamikobmefeaaGreat
open Go.RowKit Go.ChangeShapes Go.Maps
set_option maxRecDepth 100000
set_option linter.unusedVariables false
set_option linter.unusedSimpArgs false

/-- The cells of a record. -/
structure RecC where
  id : Int
  ver : Int
  s : Option Addr
  l : Nat
  c : Nat
def encRC (c : RecC) : List Value := [.int .u64 c.id, .int .u64 c.ver, .slice c.s c.l c.c]
def rcCells (M : List RecC) : List Value := M.flatMap encRC
theorem rcCells_len (M : List RecC) : (rcCells M).length = M.length * 3 := flat_len encRC 3 (fun _ => rfl) M
theorem rcCells_snoc (M : List RecC) (c : RecC) : rcCells (M ++ [c]) = rcCells M ++ encRC c := by simp [rcCells]
theorem rcCells_at {M : List RecC} {j : Nat} {c : RecC} (h : M[j]? = some c) (t : Nat) (ht : t < 3) : (rcCells M)[j * 3 + t]? = (encRC c)[t]? := by
  have h1 := flat_at encRC 3 (by omega) (fun _ => rfl) M (j * 3 + t)
  rw [show (j * 3 + t) / 3 = j by omega, show (j * 3 + t) % 3 = t by omega, h] at h1
  exact h1
/-- What a record's cells show. -/
def RecNew (w : World) (D : Nat → Prop) (c : RecC) (r : Rec) : Prop := c.id = r.id ∧ c.ver = r.ver ∧ r.ok ∧ Ints w D .u32 4 c.s c.l c.c r.vals
/-- New memory beside a row's own block. -/
def BesideR (base : Nat) (w : World) (v : Value) (b : Nat) : Prop := base ≤ b ∧ b < w.heap.size ∧ v.ownBlock ≠ some b
theorem RecNew.move {w w' : World} {D D' : Nat → Prop} {c : RecC} {r : Rec} (h : RecNew w D c r) (hw : ∀ b, D b → b < w.heap.size → w'.heap[b]? = w.heap[b]? ∧ D' b) : RecNew w' D' c r :=
  ⟨h.1, h.2.1, h.2.2.1, h.2.2.2.move hw⟩
/-- A row of records of one's own. -/
structure RecRow (base : Nat) (w : World) (v : Value) (M : List RecC) (l : List Rec) : Prop where
  row : w.ownsRow base 52 3 v M.length (rcCells M)
  len : M.length = l.length
  recs : ∀ (i : Nat) c r, M[i]? = some c → l[i]? = some r → RecNew w (BesideR base w v) c r
theorem RecRow.nil (base : Nat) (w : World) : RecRow base w (.slice none 0 0) [] [] := ⟨⟨rfl, .inl ⟨rfl, rfl⟩⟩, rfl, fun i c r hc => by simp at hc⟩
theorem RecRow.below {base : Nat} {w w' : World} {v : Value} {M : List RecC} {l : List Rec} (h : RecRow base w v M l) (hb : Below w.heap.size w w') : RecRow base w' v M l where
  row := ownsRow_only h.row (Only.of_below (S := fun _ => False) hb) (fun _ _ h => h)
  len := h.len
  recs i c r hc hr := (h.recs i c r hc hr).move fun b hb' hlt => ⟨hb.block b hlt, hb'.1, Nat.lt_of_lt_of_le hlt hb.size, hb'.2.2⟩
theorem rown_lt {w : World} {base e size n g : Nat} {v : Value} {xs : List Value} (h : w.ownsRow base e size v n xs) (hg : v.ownBlock = some g) : base ≤ g ∧ g < w.heap.size := by
  rcases h.2 with ⟨rfl, _⟩ | ⟨g', cap, cur, rfl, hb, hh, _⟩
  · cases hg
  · have : g' = g := by simpa [Value.ownBlock] using hg
    subst this
    exact ⟨hb, (Array.getElem?_eq_some_iff.1 hh).1⟩
/-- One more record. -/
theorem RecRow.app {base : Nat} {w w1 w2 w3 : World} {v : Value} {M : List RecC} {l : List Rec} {c : RecC} {r : Rec} {B : Option Addr} {cap : Nat} (h : RecRow base w v M l) (h1 : Below w.heap.size w w1) (h2 : Below w1.heap.size w1 w2) (hbase : base ≤ w.heap.size)
    (hc : RecNew w1 (w.heap.size ≤ ·) c r) (ha : Appd w2 base 52 3 M.length 1 (rcCells M) (encRC c) v B cap w3) : RecRow base w3 (.slice B (M.length + 1) cap) (M ++ [c]) (l ++ [r]) := by
  obtain ⟨ho, hg, hbl⟩ := ha
  have s1 := h1.size; have s2 := h2.size; have s3 := hg.size
  refine ⟨by rw [List.length_append, rcCells_snoc]; exact ho, by simp [h.len], fun i y x hy hx => ?_⟩
  by_cases hi : i < M.length
  · rw [List.getElem?_append_left hi] at hy
    rw [List.getElem?_append_left (by rw [← h.len]; exact hi)] at hx
    refine (h.recs i y x hy hx).move fun b hb hlt => ⟨?_, hb.1, by omega, ?_⟩
    · rw [hg.block b (by omega) (fun e => hb.2.2 e.symm), h2.block b (by omega), h1.block b hlt]
    · rcases hbl with e | e
      · rw [e]; exact hb.2.2
      · rw [e]; intro e2; injection e2 with e2; omega
  · have hi2 : i = M.length := by
      have := (List.getElem?_eq_some_iff.1 hy).1
      simp at this; omega
    subst hi2
    rw [List.getElem?_append_right (Nat.le_refl _)] at hy
    rw [h.len, List.getElem?_append_right (Nat.le_refl _)] at hx
    simp only [Nat.sub_self, List.getElem?_cons_zero, Option.some.injEq] at hy hx
    subst hy hx
    refine hc.move fun b hb hlt => ?_
    have hne : v.ownBlock ≠ some b := fun e => by have := (rown_lt h.row e).2; omega
    refine ⟨?_, by omega, by omega, ?_⟩
    · rw [hg.block b (by omega) (fun e => hne e.symm), h2.block b hlt]
    · rcases hbl with e | e
      · rw [e]; exact hne
      · rw [e]; intro e2; injection e2 with e2; omega
end Go.Proofs.YtdpamikobmefeaaGreat
