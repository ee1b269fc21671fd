/- Blocks and rows of numbers among the things of a walk. Conditions: none. -/
import Derived.Test.YtdpamikobmefeaaGreatGathSta
import Derived.Test.YtdpamikobmefeaaGreatStaMore
import Derived.Test.YtdpamikobmefeaaGreatRegs
namespace Go.Proofs.YtdpamikobmefeaaGreat
open Go.RowKit Go.ChangeShapes
set_option maxRecDepth 100000
set_option linter.unusedVariables false
set_option linter.unusedSimpArgs false

/-- A block of one's own. -/
def tBlk (π : List Int) (b : Nat) (C : Array Value) : Thing := ⟨π, fun c w => Box w b C ∧ c b = π, fun {c c' w w'} h hk => ⟨h.1.only hk.only (fun hn => hn.2 h.2), (hk.col b h.1.lt (.inr h.2)).trans h.2⟩⟩
section
variable {W w w' : World} {ts ts' : List Thing} {π : List Int} {c c' : Col} {i b : Nat} {C : Array Value}
theorem Sta.blk (h : Sta W ts w) (hi : ts[i]? = some (tBlk π b C)) : Box w b C := by
  obtain ⟨c, h⟩ := h
  exact (h.get hi).1
theorem Sta.addBlk (h : Sta W ts w) (π : List Int) (hπ : π ≠ []) (ho : ∀ x ∈ ts, x.π ≠ π) (C : Array Value) (T : TypeId) : Sta W (ts ++ [tBlk π w.heap.size C]) (w.alloc (.cells C T)) := by
  obtain ⟨c, h⟩ := h
  have st : Stp (· = π) c w (fun k => if k = w.heap.size then π else c k) (w.alloc (.cells C T)) := by
    refine ⟨(Only.refl _ _).alloc _, fun k hk => if_neg (by omega), fun k hk => ?_⟩
    rw [size_alloc] at hk
    rw [if_neg (by omega)]
    exact h.fresh k (by omega)
  exact ⟨_, h.add (t := tBlk π w.heap.size C) hπ ho st ⟨Box.new _ _ _, if_pos rfl⟩⟩
theorem Sta.store (j : Nat) (v : Value) (h : Sta W ts w) (hi : ts[i]? = some (tBlk π b C)) (hπ : π ≠ []) (hts : ts.set i (tBlk π b (C.setIfInBounds j v)) = ts') : Sta W ts' (w.setCell ⟨b, j, none⟩ v) := by
  obtain ⟨c, h⟩ := h
  obtain ⟨h1, h2⟩ := h.get hi
  have st : Stp (· = π) c w c (w.setCell ⟨b, j, none⟩ v) := ⟨(Only.refl _ _).setCell (p := ⟨b, j, none⟩) (.inl h2) _, fun _ _ => rfl, fun k hk => h.fresh k (by rw [size_setCell] at hk; exact hk)⟩
  exact Sta.turn h hi hπ (t' := tBlk π b (C.setIfInBounds j v)) rfl st ⟨h1.set v, h2⟩ hts
end
theorem u64_infoE : ∃ i : TypeInfo, Tryz.prog.info? 50 = some i ∧ i.zero = some (.int .u64 0) ∧ i.size = 1 ∧ i.bytes = 8 := by
  obtain ⟨j0, jii, jz0, jz1, jz2⟩ := info_parts (show (Tryz.prog.info? 50).map (fun i => (i.zero, i.size, i.bytes)) = some (some (.int .u64 0), 1, 8) by kernel_rfl)
  exact ⟨j0, jii, jz0, jz1, jz2⟩
def u64E : Elt Tryz.prog Int where
  T := 50
  ST := 166
  k := 1
  bytes := 8
  zero := .int .u64 0
  rd := fun w D cs b => cs = [.int .u64 b]
  pos := by omega
  len := fun h => by rw [h]; rfl
  one := fun h u hu => by subst h; simp only [List.mem_cons, List.not_mem_nil, or_false] at hu; rw [hu]; rfl
  move := fun h _ => h
  und := Tryz.underlying166
  info := u64_infoE
  zlen := rfl
  blim := by omega
theorem u64_at {w : World} {D : Nat → Prop} {A : Option Addr} {n cap i : Nat} {l : List Int} (h : u64E.At w D A n cap l) (hi : i < n) : ∃ (b off : Nat) (x : Int), A = some ⟨b, off, none⟩ ∧ D b ∧ l[i]? = some x ∧ w.cell? ⟨b, off + i, none⟩ = some (.int .u64 x) := by
  obtain ⟨h1, h2, h3, h4, h5⟩ := h
  obtain ⟨b, off, rfl, hd, hc⟩ := h5 (by omega)
  obtain ⟨x, hx⟩ : ∃ x, l[i]? = some x := ⟨_, List.getElem?_eq_getElem (by omega)⟩
  obtain ⟨cs, q0, rfl⟩ := hc i x hx
  have := q0 0 _ rfl
  rw [show off + i * u64E.k + 0 = off + i by show off + i * 1 + 0 = _; omega] at this
  exact ⟨b, off, x, rfl, hd, hx, this⟩
section
variable {W w w' : World} {ts ts' : List Thing} {π : List Int} {c c' : Col} {i g n cap : Nat} {l : List Int}
/-- A number of a row is set. -/
theorem Sta.setU (j : Nat) (x : Int) (h : Sta W ts w) (hi : ts[i]? = some (tRow u64E π (.slice (some ⟨g, 0, none⟩) n cap) l)) (hπ : π ≠ []) (hj : j < l.length) (hts : ts.set i (tRow u64E π (.slice (some ⟨g, 0, none⟩) n cap) (l.set j x)) = ts') : Sta W ts' (w.setCell ⟨g, j, none⟩ (.int .u64 x)) := by
  obtain ⟨c, h⟩ := h
  have hr : u64E.Row c π w (.slice (some ⟨g, 0, none⟩) n cap) l := h.get hi
  obtain ⟨cur, b1, b2, b3, b4⟩ := hr.cur
  have hk : u64E.k = 1 := rfl
  have b3' : l.length ≤ cur.size := by simpa [hk] using b3
  have he : ∀ (q : Nat) y, (l.set j x)[q]? = some y → ∃ cs, (∀ (t : Nat) u, cs[t]? = some u → (cur.setIfInBounds j (.int .u64 x))[q * u64E.k + t]? = some u) ∧ u64E.rd w (Quiet c w) cs y := fun q y hq => by
    rw [List.getElem?_set] at hq
    refine ⟨[.int .u64 y], fun t u hu => ?_, rfl⟩
    have ht : t = 0 := by
      rcases t with _ | t
      · rfl
      · simp at hu
    subst ht
    simp only [List.getElem?_cons_zero, Option.some.injEq] at hu
    subst hu
    rw [hk, Nat.mul_one, Nat.add_zero, Array.getElem?_setIfInBounds]
    by_cases hjq : j = q
    · subst hjq
      rw [if_pos rfl, if_pos (by omega)]
      rw [if_pos rfl, if_pos hj] at hq
      injection hq with hq
      rw [hq]
    · rw [if_neg hjq] at hq ⊢
      obtain ⟨cs, c1, rfl⟩ := hr.cells hq
      have := c1 0 _ rfl
      rw [hk, Nat.mul_one, Nat.add_zero] at this
      have bc := (show Box w g cur from ⟨_, b1⟩).cell q
      rw [← bc]; exact this
  obtain ⟨st, hr'⟩ := hr.edit (L' := l.set j x) (cur' := cur.setIfInBounds j (.int .u64 x)) (w' := w.setCell ⟨g, j, none⟩ (.int .u64 x)) h.fresh hπ (by simp) b1 (b1.set _) (by simp) ((Only.refl (· = g) w).setCell (p := ⟨g, j, none⟩) (.inl rfl) _) he
  exact Sta.turn h hi hπ (t' := tRow u64E π (.slice (some ⟨g, 0, none⟩) n cap) (l.set j x)) rfl st hr' hts
/-- The block of a row. -/
theorem Sta.rowAt {α : Type} {E : Elt Tryz.prog α} {v : Value} {l : List α} (h : Sta W ts w) (hi : ts[i]? = some (tRow E π v l)) : ∃ A cap, v = .slice A l.length cap ∧ l.length ≤ cap ∧ cap ≤ 9223372036854775807 ∧ (A = none → l.length = 0 ∧ cap = 0) ∧ (∀ ad, A = some ad → ∃ g, ad = ⟨g, 0, none⟩ ∧ g < w.heap.size) ∧ E.At w (· < w.heap.size) A l.length cap l := by
  obtain ⟨c, hr⟩ := h.row hi
  obtain ⟨A, cap, rfl, q1, q2, q3, q4⟩ := hr.shape
  exact ⟨A, cap, rfl, q1, q2, q3, fun ad had => (by obtain ⟨g, e, _, hlt⟩ := q4 ad had; exact ⟨g, e, hlt⟩), hr.any⟩
end
/-- The document's records, less one; what is had of an id; where an id lies. -/
theorem no_intsR (w : World) (D : Nat → Prop) : Ints w D .u32 4 none 0 0 [] := ⟨rfl, Nat.le_refl _, by omega, by omega, (fun _ => rfl), (fun x hx => by simp at hx), fun h => by omega⟩
/-- Numbers that are data. -/
def tInts (A : Option Addr) (n cap : Nat) (xs : List Int) : Thing := ⟨[], fun c w => Ints w (Quiet c w) .u32 4 A n cap xs, fun h hk => h.move hk.quiet⟩
theorem Sta.addInts {W w w' : World} {ts : List Thing} {A : Option Addr} {n cap : Nat} {xs : List Int} (h : Sta W ts w) (hb : Below w.heap.size w w') (hl : Ints w' (w.heap.size ≤ ·) .u32 4 A n cap xs) : Sta W (ts ++ [tInts A n cap xs]) w' := by
  obtain ⟨c, h⟩ := h
  exact ⟨c, (h.later hb).addData rfl (hl.move fun b hb' hlt => ⟨rfl, h.fresh b hb', hlt⟩)⟩
set_option linter.unusedSimpArgs false

/-- Data in the place of data. -/
theorem S0.setData {W w : World} {ts : List Thing} {t t' : Thing} {c : Col} (i : Nat) (h : S0 W ts c w) (hi : ts[i]? = some t) (hp : t'.π = t.π) (ht : t'.R c w) : S0 W (ts.set i t') c w := by
  refine ⟨h.stp, fun x hx => ?_, ?_⟩
  · rcases List.mem_or_eq_of_mem_set hx with hx | rfl
    · exact h.own x hx
    · exact ht
  · have key : ∀ l : List Thing, l.Pairwise (fun a b => a.π ≠ [] → a.π ≠ b.π) ↔ (l.map Thing.π).Pairwise (fun a b => a ≠ [] → a ≠ b) := fun l => by rw [List.pairwise_map]
    rw [key]
    have e : (ts.set i t').map Thing.π = ts.map Thing.π := by
      rw [List.map_set, hp]
      obtain ⟨i1, i2⟩ := List.getElem?_eq_some_iff.1 hi
      apply List.ext_getElem?
      intro j
      rw [List.getElem?_set]
      by_cases hij : i = j
      · subst hij
        rw [if_pos rfl, if_pos (by simpa using i1), List.getElem?_map, hi]; rfl
      · rw [if_neg hij]
    rw [e, ← key]
    exact h.apart
/-- A block just made in the place of data. -/
theorem Sta.boxIn {W w : World} {ts ts' : List Thing} {t : Thing} (i : Nat) (C : Array Value) (T : TypeId) (h : Sta W ts w) (hi : ts[i]? = some t) (hp : t.π = []) (hts : ts.set i (tBox w.heap.size C) = ts') : Sta W ts' (w.alloc (.cells C T)) := by
  obtain ⟨c, h⟩ := h
  subst hts
  exact ⟨c, (h.later (below_a1 w (.cells C T))).setData (t := t) (t' := tBox w.heap.size C) i hi hp.symm ⟨Box.new _ _ _, h.fresh _ (Nat.le_refl _)⟩⟩
def tNone : Thing := ⟨[], fun _ _ => True, fun _ _ => trivial⟩
theorem getD_ff {l : Array Bool} {i : Nat} (h : l.getD i true = false) : l.getD i false = false := by
  by_cases hi : i < l.size
  · simp [hi] at h ⊢; exact h
  · simp [hi] at h
theorem three_only (w : World) (a : Nat) (u0 u1 u2 : Value) : Only (· = a) w (((w.setCell ⟨a, 0, none⟩ u0).setCell ⟨a, 1, none⟩ u1).setCell ⟨a, 2, none⟩ u2) := (((Only.refl (· = a) w).setCell (p := ⟨a, 0, none⟩) (.inl rfl) _).setCell (p := ⟨a, 1, none⟩) (.inl rfl) _).setCell (p := ⟨a, 2, none⟩) (.inl rfl) _
theorem three_below {w w2 : World} {B a : Nat} (h : Below B w w2) (hB : B ≤ a) (u0 u1 u2 : Value) : Below B w (((w2.setCell ⟨a, 0, none⟩ u0).setCell ⟨a, 1, none⟩ u1).setCell ⟨a, 2, none⟩ u2) := ((h.setCell (p := ⟨a, 0, none⟩) hB _).setCell (p := ⟨a, 1, none⟩) hB _).setCell (p := ⟨a, 2, none⟩) hB _
theorem run_u32_info_R : ∃ i : TypeInfo, Tryz.prog.info? 27 = some i ∧ i.zero = some (.int .u32 0) ∧ i.size = 1 ∧ i.bytes = 4 := by
  have hinfo' : (Tryz.prog.info? 27).map (fun i => (i.zero, i.size, i.bytes)) = some (some (.int .u32 0), 1, 4) := by kernel_rfl
  obtain ⟨j0, jii, jz0, jz1, jz2⟩ := info_parts hinfo'
  exact ⟨j0, jii, jz0, jz1, jz2⟩
end Go.Proofs.YtdpamikobmefeaaGreat
