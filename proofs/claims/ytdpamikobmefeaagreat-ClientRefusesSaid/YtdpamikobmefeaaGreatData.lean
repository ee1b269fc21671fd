/- The plain data of the program (records, entries, slices of whole numbers) and how they are read off Go values. Conditions: none. -/
import Derived.Test.YtdpamikobmefeaaGreatLaw
import Derived.Test.YtdpamikobmefeaaGreatBase
set_option linter.unusedVariables false
namespace Go.Proofs.YtdpamikobmefeaaGreat
open Go.RowKit Go.ChangeShapes

def U32 (n : Int) : Prop := 0 ≤ n ∧ n ≤ 4294967295
def U64 (n : Int) : Prop := 0 ≤ n ∧ n ≤ 18446744073709551615

structure Rec where
  id : Int
  ver : Int
  vals : List Int
deriving DecidableEq
structure Ent where
  value : Int
  rc : Rec
  gone : Bool
deriving DecidableEq
/-- Whether two records, entries, are the same (a word that a walk does not open). -/
def eqR (a b : Rec) : Bool := decide (a = b)
def eqE (a b : Ent) : Bool := decide (a = b)
theorem eqR_iff {a b : Rec} : eqR a b = true ↔ a = b := by simp [eqR]
theorem eqE_iff {a b : Ent} : eqE a b = true ↔ a = b := by simp [eqE]
theorem eqR_self (a : Rec) : eqR a a = true := by simp [eqR]
theorem eqE_self (a : Ent) : eqE a a = true := by simp [eqE]
def Rec.ok (r : Rec) : Prop := U64 r.id ∧ U64 r.ver ∧ ∀ x ∈ r.vals, U32 x
def Ent.ok (e : Ent) : Prop := U32 e.value ∧ e.rc.ok

/-- A slice of whole numbers that is read: its numbers, its cells in D. -/
def Ints (w : World) (D : Nat → Prop) (k : IntKind) (bytes : Nat) (A : Option Addr) (n cap : Nat) (xs : List Int) : Prop :=
  xs.length = n ∧ n ≤ cap ∧ cap ≤ 9223372036854775807 ∧ n * bytes ≤ 140737488351232 ∧ (A = none → cap = 0) ∧ (∀ x ∈ xs, (Lit.int k x).wf = true) ∧
    (0 < n → ∃ b off, A = some ⟨b, off, none⟩ ∧ D b ∧ ∀ j, j < n → w.cell? ⟨b, off + j, none⟩ = some (.int k (xs.getD j 0)))

theorem Ints.stays {w w' : World} {D D' : Nat → Prop} {k : IntKind} {bytes : Nat} {A : Option Addr} {n cap : Nat} {xs : List Int} (hw : ∀ b, D b → w'.heap[b]? = w.heap[b]?) (hD : ∀ b, D b → D' b)
    (h : Ints w D k bytes A n cap xs) : Ints w' D' k bytes A n cap xs := by
  obtain ⟨h1, h2, h3, h4, h5, h6, h7⟩ := h
  refine ⟨h1, h2, h3, h4, h5, h6, fun hn => ?_⟩
  obtain ⟨b, off, rfl, hd, hc⟩ := h7 hn
  exact ⟨b, off, rfl, hD b hd, fun j hj => by rw [← hc j hj]; exact World.cell?_of_block (hw b hd)⟩

theorem Ints.same {w w' : World} {k : IntKind} {bytes : Nat} {A : Option Addr} {n cap : Nat} {xs : List Int} (h : Ints w (· < w.heap.size) k bytes A n cap xs) (hb : Below w.heap.size w w') :
    Ints w' (· < w'.heap.size) k bytes A n cap xs :=
  h.stays (fun b hb' => hb.block b hb') (fun b hb' => Nat.lt_of_lt_of_le hb' hb.size)

theorem Ints.below {w w' : World} {D : Nat → Prop} {k : IntKind} {bytes : Nat} {A : Option Addr} {n cap : Nat} {xs : List Int} {B : Nat} (h : Ints w D k bytes A n cap xs) (hb : Below B w w') (hD : ∀ b, D b → b < B) : Ints w' D k bytes A n cap xs :=
  h.stays (fun b hb' => hb.block b (hD b hb')) (fun b hb' => hb')

theorem ints_of {w : World} {D : Nat → Prop} {k : IntKind} {bytes : Nat} {cs : List Value} {y : List Int} (h : Sh.Rep w D (.sl (.int k) bytes) cs y) :
    ∃ A n cap, cs = [.slice A n cap] ∧ Ints w D k bytes A n cap y := by
  obtain ⟨A, n, cap, rfl, h1, h2, h3, h4, h5, h6⟩ := h
  have hcell : ∀ ad, A = some ad → ∀ i (x : Int), y[i]? = some x → D ad.block ∧ (Lit.int k x).wf = true ∧ w.cell? (ad.add i) = some (.int k x) := by
    intro ad ha i x hx
    obtain ⟨hd, c, hc, hcc, hr⟩ := h6 ad ha i x hx
    obtain ⟨rfl, hwf⟩ := hr
    have := hcc 0 Nat.one_pos
    simp only [Sh.size, Nat.mul_one, Nat.add_zero] at this
    exact ⟨hd, hwf, this⟩
  have hl : y.length = n := h1
  refine ⟨A, n, cap, rfl, hl, h2, by unfold maxLen at h3; omega, h4, h5, ?_, ?_⟩
  · intro x hx
    obtain ⟨i, hi⟩ := List.getElem?_of_mem hx
    rcases A with _ | ad
    · have := h5 rfl
      have := (List.getElem?_eq_some_iff.1 hi).1
      omega
    · exact (hcell ad rfl i x hi).2.1
  · intro hn
    rcases A with _ | ad
    · have := h5 rfl; omega
    · have h0 := (hcell ad rfl 0 (y[0]'(by omega)) (List.getElem?_eq_getElem (by omega)))
      have hs : ad.spot = none := by
        have := World.cell?_spot h0.2.2
        simpa [Addr.add] using this
      refine ⟨ad.block, ad.off, by cases ad; simp_all, h0.1, fun j hj => ?_⟩
      have hj' := (hcell ad rfl j (y[j]'(by omega)) (List.getElem?_eq_getElem (by omega))).2.2
      have e1 : ad.add j = ⟨ad.block, ad.off + j, none⟩ := by
        unfold Addr.add; split
        · rename_i h; subst h; cases ad; simp_all
        · rfl
      rw [e1] at hj'
      rw [hj', List.getD_eq_getElem?_getD, List.getElem?_eq_getElem (by omega)]; rfl

/-- A Go record, an entry, by value. -/
def RecVal (w : World) (D : Nat → Prop) (v : Value) (r : Rec) : Prop :=
  ∃ s l c, v = .agg #[.int .u64 r.id, .int .u64 r.ver, .slice s l c] ∧ r.ok ∧ Ints w D .u32 4 s l c r.vals
def EntVal (w : World) (D : Nat → Prop) (v : Value) (e : Ent) : Prop :=
  ∃ s l c, v = .agg #[.int .u32 e.value, .int .u64 e.rc.id, .int .u64 e.rc.ver, .slice s l c, .bool e.gone] ∧ e.ok ∧ Ints w D .u32 4 s l c e.rc.vals

theorem u32_of {n : Int} (h : (Lit.int .u32 n).wf = true) : U32 n := bounds_u32 h
theorem u64_of {n : Int} (h : (Lit.int .u64 n).wf = true) : U64 n := bounds_u64 h

abbrev shU32s : Sh := .sl (.int .u32) 4
abbrev shRecC : Sh := .pair (.int .u64) (.pair (.int .u64) (.pair shU32s .unit))
abbrev shEntC : Sh := .pair (.int .u32) (.pair (.st shRecC) (.pair .bool .unit))

theorem rec_cells {w : World} {D : Nat → Prop} {cs : List Value} {y : shRecC.T} (h : Sh.Rep w D shRecC cs y) :
    ∃ (r : Rec) (s : Option Addr) (l c : Nat), cs = [.int .u64 r.id, .int .u64 r.ver, .slice s l c] ∧ r.ok ∧ Ints w D .u32 4 s l c r.vals := by
  obtain ⟨c1, c2, rfl, ⟨rfl, w1⟩, c3, c4, rfl, ⟨rfl, w2⟩, c5, c6, rfl, h3, h4⟩ := h
  cases h4
  obtain ⟨s, l, c, rfl, hi⟩ := ints_of h3
  exact ⟨⟨y.1, y.2.1, y.2.2.1⟩, s, l, c, rfl, ⟨u64_of w1, u64_of w2, fun x hx => u32_of (hi.2.2.2.2.2.1 x hx)⟩, hi⟩

theorem ent_cells {w : World} {D : Nat → Prop} {cs : List Value} {y : shEntC.T} (h : Sh.Rep w D shEntC cs y) :
    ∃ (e : Ent) (s : Option Addr) (l c : Nat), cs = [.int .u32 e.value, .int .u64 e.rc.id, .int .u64 e.rc.ver, .slice s l c, .bool e.gone] ∧ e.ok ∧ Ints w D .u32 4 s l c e.rc.vals := by
  obtain ⟨c1, c2, rfl, ⟨rfl, w1⟩, c3, c4, rfl, h2, c5, c6, rfl, h5, h6⟩ := h
  cases h6
  cases h5
  obtain ⟨r, s, l, c, rfl, hr, hi⟩ := rec_cells h2
  exact ⟨⟨y.1, r, y.2.2.1⟩, s, l, c, rfl, ⟨u32_of w1, hr⟩, hi⟩

theorem rec_open {w : World} {D : Nat → Prop} {v : Value} {y : (Sh.st shRecC).T} (h : Sh.Val w D (.st shRecC) v y) : ∃ r, RecVal w D v r := by
  obtain ⟨cs, rfl, h⟩ := h
  obtain ⟨r, s, l, c, rfl, hr, hi⟩ := rec_cells h
  exact ⟨r, s, l, c, rfl, hr, hi⟩

theorem ent_open {w : World} {D : Nat → Prop} {v : Value} {y : (Sh.st shEntC).T} (h : Sh.Val w D (.st shEntC) v y) : ∃ e, EntVal w D v e := by
  obtain ⟨cs, rfl, h⟩ := h
  obtain ⟨e, s, l, c, rfl, hr, hi⟩ := ent_cells h
  exact ⟨e, s, l, c, rfl, hr, hi⟩
theorem int_open {w : World} {D : Nat → Prop} {k : IntKind} {v : Value} {y : (Sh.int k).T} (h : Sh.Val w D (.int k) v y) : ∃ n : Int, v = .int k n ∧ (Lit.int k n).wf = true := by
  obtain ⟨h1, h2⟩ := h
  simp only [List.cons.injEq, and_true] at h1
  exact ⟨y, h1, h2⟩
theorem ints_open {w : World} {D : Nat → Prop} {k : IntKind} {b : Nat} {v : Value} {y : (Sh.sl (.int k) b).T} (h : Sh.Val w D (.sl (.int k) b) v y) : ∃ (xs : List Int) (A : Option Addr) (n cap : Nat), v = .slice A n cap ∧ Ints w D k b A n cap xs := by
  obtain ⟨A, n, cap, h1, hi⟩ := ints_of h
  simp only [List.cons.injEq, and_true] at h1
  exact ⟨y, A, n, cap, h1, hi⟩
end Go.Proofs.YtdpamikobmefeaaGreat
