/- Shapes of data (whole numbers, bools, strings, slices, structs): how a Go value reads as plain Lean data, by one inductive word; and that whatever a row reads is read so. Condition: the shape fits the type (a closed fact). -/
import Derived.Deep.Slices
import Derived.SizedLaws
import Derived.WideShapes
import Derived.Below
import Derived.Carry
import Derived.RowKit3
set_option linter.unusedVariables false
namespace Go.Proofs.YtdpamikobmefeaaGreat
open Go.Deep

inductive Sh where
  | int (k : IntKind)
  | bool
  | str
  | sl (s : Sh) (bytes : Nat)
  | st (c : Sh)
  | unit
  | pair (a b : Sh)

def Sh.T : Sh → Type
  | .int _ => Int
  | .bool => Bool
  | .str => ByteArray
  | .sl s _ => List s.T
  | .st c => c.T
  | .unit => Unit
  | .pair a b => a.T × b.T

def Sh.size : Sh → Nat
  | .int _ => 1
  | .bool => 1
  | .str => 1
  | .sl _ _ => 1
  | .st c => c.size
  | .unit => 0
  | .pair a b => a.size + b.size

def List.get?Sh {α : Type} (l : List α) (i : Nat) : Option α := l[i]?

/-- The cells cs read, in w, as y; every block that is read lies in D. -/
def Sh.Rep (w : World) (D : Nat → Prop) : (s : Sh) → List Value → s.T → Prop
  | .int k, cs, y => cs = [.int k y] ∧ (Lit.int k y).wf = true
  | .bool, cs, y => cs = [.bool y]
  | .str, cs, y => cs = [.string y] ∧ y.size ≤ 140737488351232
  | .sl s bytes, cs, y => ∃ (A : Option Addr) (n cap : Nat), cs = [.slice A n cap] ∧ List.length (α := s.T) y = n ∧ n ≤ cap ∧ cap ≤ maxLen ∧ n * bytes ≤ 140737488351232 ∧ (A = none → cap = 0) ∧
      ∀ ad, A = some ad → ∀ (i : Nat) (x : s.T), List.get?Sh y i = some x → D ad.block ∧ ∃ c : List Value, c.length = s.size ∧ (∀ j, j < s.size → w.cell? (ad.add (i * s.size + j)) = c[j]?) ∧ Sh.Rep w D s c x
  | .st c, cs, y => Sh.Rep w D c cs y
  | .unit, cs, _ => cs = []
  | .pair a b, cs, y => ∃ c1 c2, cs = c1 ++ c2 ∧ Sh.Rep w D a c1 y.1 ∧ Sh.Rep w D b c2 y.2

mutual
def Sh.fits (P : Program) : Sh → TypeId → Bool
  | .int k, t => match P.underlying t with | some (.int k') => decide (k' = k) | _ => false
  | .bool, t => match P.underlying t with | some .bool => true | _ => false
  | .str, t => match P.underlying t with | some .string => true | _ => false
  | .sl s b, t => match P.underlying t with | some (.slice e) => P.cellsOf e == s.size && s.size != 0 && P.bytesOf e == b && Sh.fits P s e | _ => false
  | .st c, t => match P.underlying t with | some (.struct fs) => P.cellsOf t == c.size && Sh.fitsC P c fs.toList 0 | _ => false
  | .unit, _ => false
  | .pair _ _, _ => false
def Sh.fitsC (P : Program) : Sh → List Field → Nat → Bool
  | .unit, [], _ => true
  | .pair a b, f :: fs, off => f.offset == off && P.cellsOf f.type == a.size && Sh.fits P a f.type && Sh.fitsC P b fs (off + a.size)
  | _, _, _ => false
end

theorem Sh.Rep.len {w : World} {D : Nat → Prop} : ∀ {s : Sh} {cs : List Value} {y : s.T}, Sh.Rep w D s cs y → cs.length = s.size
  | .int _, cs, y, h => by obtain ⟨rfl, _⟩ := h; rfl
  | .bool, cs, y, h => by cases h; rfl
  | .str, cs, y, h => by obtain ⟨rfl, _⟩ := h; rfl
  | .sl _ _, cs, y, h => by obtain ⟨A, n, cap, rfl, _⟩ := h; rfl
  | .st c, cs, y, h => Sh.Rep.len (s := c) h
  | .unit, cs, y, h => by cases h; rfl
  | .pair a b, cs, y, h => by
    obtain ⟨c1, c2, rfl, h1, h2⟩ := h
    rw [List.length_append, Sh.Rep.len h1, Sh.Rep.len h2]; rfl

/-- What is read stays read where no block of D has turned. -/
theorem Sh.Rep.stays {w w' : World} {D D' : Nat → Prop} (hw : ∀ b, D b → w'.heap[b]? = w.heap[b]?) (hD : ∀ b, D b → D' b) : ∀ {s : Sh} {cs : List Value} {y : s.T}, Sh.Rep w D s cs y → Sh.Rep w' D' s cs y
  | .int _, cs, y, h => h
  | .bool, cs, y, h => h
  | .str, cs, y, h => h
  | .sl s _, cs, y, h => by
    obtain ⟨A, n, cap, h1, h2, h3, h4, h5, h6, h7⟩ := h
    refine ⟨A, n, cap, h1, h2, h3, h4, h5, h6, fun ad ha => fun i x hi => ?_⟩
    obtain ⟨hd, c, hc, hcell, hr⟩ := h7 ad ha i x hi
    refine ⟨hD _ hd, c, hc, fun j hj => ?_, Sh.Rep.stays hw hD hr⟩
    rw [← hcell j hj]
    refine World.cell?_of_block ?_
    have : (ad.add (i * s.size + j)).block = ad.block := by unfold Addr.add; split <;> rfl
    rw [this]
    exact hw _ hd
  | .st c, cs, y, h => Sh.Rep.stays (s := c) hw hD h
  | .unit, cs, y, h => h
  | .pair a b, cs, y, h => by
    obtain ⟨c1, c2, h1, h2, h3⟩ := h
    exact ⟨c1, c2, h1, Sh.Rep.stays hw hD h2, Sh.Rep.stays hw hD h3⟩

section
variable {H : Type} {enc : TypeId × Value → H} {P : Program} {w : World} {base : Nat} {spare : Nat → Bool} {held : Bool}

theorem weights_of_all {e : TypeId} : ∀ {l : List (DataW H)} {d : DataW H}, d ∈ l → ∀ n ∈ d.weights P e, n ∈ DataW.weightsAll P e l
  | d0 :: l, d, hd, n, hn => by
    simp only [DataW.weightsAll, List.mem_append]
    rcases List.mem_cons.1 hd with rfl | hd
    · exact .inl hn
    · exact .inr (weights_of_all hd n hn)

theorem list_of_each {α : Type} {p : Nat → α → Prop} : ∀ {n : Nat}, (∀ i, i < n → ∃ y, p i y) → ∃ ys : List α, ys.length = n ∧ ∀ i x, ys[i]? = some x → p i x
  | 0, _ => ⟨[], rfl, fun i x hx => by simp at hx⟩
  | k + 1, h => by
    obtain ⟨ys, hy, hy2⟩ := list_of_each (n := k) (fun i hi => h i (by omega))
    obtain ⟨y, hy3⟩ := h k (by omega)
    refine ⟨ys ++ [y], by simp [hy], fun i x hx => ?_⟩
    by_cases hik : i < k
    · rw [List.getElem?_append_left (by omega)] at hx
      exact hy2 i x hx
    · obtain rfl : i = k := by
        have := (List.getElem?_eq_some_iff.1 hx).1
        simp [hy] at this; omega
      rw [List.getElem?_append_right (by omega), hy, Nat.sub_self] at hx
      simp at hx; subst hx
      exact hy3

mutual
theorem Sh.open : ∀ (s : Sh) (t : TypeId) (fuel : Nat) (cs : List Value) (x : DataW H × List MemPlace), Sh.fits P s t = true → DataW.trod enc P w base spare held fuel t cs = some x →
    (∀ n ∈ x.1.weights P t, n ≤ reachBytes) → ∃ y : s.T, Sh.Rep w (· < w.heap.size) s cs y
  | .int k, t, fuel, cs, x, hf, h, hw => by
    unfold Sh.fits at hf
    split at hf
    · rename_i k' hu
      obtain rfl : k' = k := by simpa using hf
      obtain ⟨n, rfl, _, hwf⟩ := DataW.trod_int hu h
      exact ⟨n, rfl, hwf⟩
    · cases hf
  | .bool, t, fuel, cs, x, hf, h, hw => by
    unfold Sh.fits at hf
    split at hf
    · rename_i hu
      obtain ⟨b, rfl, _⟩ := DataW.trod_bool hu h
      exact ⟨b, rfl⟩
    · cases hf
  | .str, t, fuel, cs, x, hf, h, hw => by
    unfold Sh.fits at hf
    split at hf
    · rename_i hu
      obtain ⟨b, rfl, rfl, hb⟩ := DataW.trod_string hu h
      refine ⟨b, rfl, ?_⟩
      have := hw b.data.toList.length (by simp [DataW.weights])
      unfold reachBytes at this
      simpa using this
    · cases hf
  | .sl s bytes, t, fuel, cs, x, hf, h, hw => by
    unfold Sh.fits at hf
    split at hf
    · rename_i e hu
      simp only [Bool.and_eq_true, beq_iff_eq, bne_iff_ne] at hf
      obtain ⟨⟨⟨hc, hpos⟩, hby⟩, hfe⟩ := hf
      rcases DataW.trod_slice hu h with ⟨rfl, _⟩ | ⟨a, len, cap, elems, rest, n, _, rfl, rfl, hb, hl, hm, hlen, hel, _, _⟩
      · exact ⟨[], none, 0, 0, rfl, rfl, by omega, by unfold maxLen; omega, by omega, (fun _ => rfl), (fun ad ha => by cases ha)⟩
      · simp only [DataW.weights, hu, List.mem_cons, List.mem_append, List.length_map] at hw
        have hwt : ∀ i, i < len → ∃ y : s.T, ∃ c : List Value, w.cells? base (a.add (i * s.size)) s.size = some c ∧ Sh.Rep w (· < w.heap.size) s c y := fun i hi => by
          have h1 := hel i hi
          obtain ⟨z, hz⟩ : ∃ z, elems[i]? = some z := ⟨elems[i]'(by omega), List.getElem?_eq_getElem (by omega)⟩
          rw [hz, hc] at h1
          obtain ⟨c, h2, h3⟩ := Option.bind_eq_some_iff.1 h1
          obtain ⟨y, hy⟩ := Sh.open s e n c z hfe h3 (fun m hm' => hw m (.inr (.inl (weights_of_all (List.mem_map_of_mem (List.mem_of_getElem? hz)) m hm'))))
          exact ⟨y, c, h2, hy⟩
        have hbytes := hw _ (.inl rfl)
        rw [hby] at hbytes
        have hle : len * bytes ≤ 140737488351232 := by
          have h1 : len * bytes ≤ (elems.length + rest.length) * bytes := Nat.mul_le_mul_right _ (by omega)
          unfold reachBytes at hbytes
          omega
        obtain ⟨ys, hy, hy2⟩ := list_of_each hwt
        refine ⟨ys, some a, len, cap, rfl, hy, hl, hm, hle, (fun h => by cases h), fun ad ha i x hi => ?_⟩
        obtain rfl : a = ad := by simpa using ha
        obtain ⟨c, h2, h3⟩ := hy2 i x hi
        obtain ⟨_, hcl, hcc⟩ := World.cells?_some h2
        refine ⟨?_, c, hcl, fun j hj => ?_, h3⟩
        · have h0 := hcc 0 (by omega)
          rw [List.getElem?_eq_getElem (show 0 < c.length by omega)] at h0
          have hb0 := World.block_lt_of_cell? w _ h0
          have hbl : ∀ (m k : Nat), ((a.add m).add k).block = a.block := fun m k => by
            unfold Addr.add; split <;> split <;> rfl
          rwa [hbl] at hb0
        · rw [← Deep.add_add]; exact hcc j (by omega)
    · cases hf
  | .st c, t, fuel, cs, x, hf, h, hw => by
    unfold Sh.fits at hf
    split at hf
    · rename_i fs hu
      simp only [Bool.and_eq_true, beq_iff_eq] at hf
      obtain ⟨hc, hfc⟩ := hf
      obtain ⟨xs, n, _, rfl, hcl, hxs, hx⟩ := DataW.trod_struct hu h
      simp only [DataW.weights, hu] at hw
      obtain ⟨y, hy⟩ := Sh.openC c fs.toList 0 n cs xs hfc (by rw [hcl, hc]; simp) (by simpa using hxs) (fun i f hi => hx i f (by simpa using hi)) hw
      rw [List.drop_zero] at hy
      exact ⟨y, hy⟩
    · cases hf
  | .unit, t, fuel, cs, x, hf, h, hw => by simp [Sh.fits] at hf
  | .pair a b, t, fuel, cs, x, hf, h, hw => by simp [Sh.fits] at hf
theorem Sh.openC : ∀ (s : Sh) (fs : List Field) (off n : Nat) (cs : List Value) (xs : List (DataW H × List MemPlace)), Sh.fitsC P s fs off = true → cs.length = off + s.size → xs.length = fs.length →
    (∀ (i : Nat) (f : Field), fs[i]? = some f → DataW.trod enc P w base spare held n f.type ((cs.drop f.offset).take (P.cellsOf f.type)) = xs[i]?) →
    (∀ n ∈ DataW.weightsEach P (fs.map (·.type)) (xs.map (·.1)), n ≤ reachBytes) → ∃ y : s.T, Sh.Rep w (· < w.heap.size) s (cs.drop off) y
  | .unit, fs, off, n, cs, xs, hf, hl, _, _, _ => by
    refine ⟨(), ?_⟩
    show cs.drop off = []
    rw [List.drop_eq_nil_iff]
    have : Sh.unit.size = 0 := rfl
    omega
  | .pair a b, [], off, n, cs, xs, hf, hl, _, _, _ => by simp [Sh.fitsC] at hf
  | .pair a b, f :: fs, off, n, cs, [], hf, hl, hxl, _, _ => by simp at hxl
  | .pair a b, f :: fs, off, n, cs, x :: xs, hf, hl, hxl, hx, hw => by
    simp only [Sh.fitsC, Bool.and_eq_true, beq_iff_eq] at hf
    obtain ⟨⟨⟨hoff, hcell⟩, hfa⟩, hfb⟩ := hf
    have h0 := hx 0 f rfl
    rw [hoff, hcell] at h0
    simp only [List.map_cons, DataW.weightsEach, List.mem_append] at hw
    obtain ⟨y1, hy1⟩ := Sh.open a f.type n _ x hfa (by simpa using h0) (fun m hm => hw m (.inl hm))
    have hs : (Sh.pair a b).size = a.size + b.size := rfl
    obtain ⟨y2, hy2⟩ := Sh.openC b fs (off + a.size) n cs xs hfb (by omega) (by simpa using hxl) (fun i g hi => by simpa using hx (i + 1) g (by simpa using hi)) (fun m hm => hw m (.inr hm))
    refine ⟨(y1, y2), (cs.drop off).take a.size, cs.drop (off + a.size), ?_, hy1, hy2⟩
    rw [← List.drop_drop, List.take_append_drop]
  | .int _, _, _, _, _, _, hf, _, _, _, _ => by simp [Sh.fitsC] at hf
  | .bool, _, _, _, _, _, hf, _, _, _, _ => by simp [Sh.fitsC] at hf
  | .str, _, _, _, _, _, hf, _, _, _, _ => by simp [Sh.fitsC] at hf
  | .sl _ _, _, _, _, _, _, hf, _, _, _, _ => by simp [Sh.fitsC] at hf
  | .st _, _, _, _, _, _, hf, _, _, _, _ => by simp [Sh.fitsC] at hf
end
end
end Go.Proofs.YtdpamikobmefeaaGreat
