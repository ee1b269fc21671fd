/- Words on worlds, over any program: a block known whole ('Box'), and how a walk is cut from a written-out world to one of which only facts are known. Conditions: none. -/
import Derived.WalkKit
import Derived.Below
import Derived.OpenShut
import Derived.Deep.Draws
import Derived.Laws.Rows
import Derived.Laws.MakeOwn
import Derived.Laws.OwnMore
import Derived.Deep.OwnRows
set_option linter.unusedVariables false
namespace Go.Proofs.YtdpamikobmefeaaGreat
open Go.RowKit

theorem belowN {B : Nat} {w W : World} (h : Below B w W) (n : Nat) : Below B w (W.drewN n) := ⟨h.os, h.tape, h.output, h.size, h.block⟩

/-- The walk goes on from any world of which K is known. -/
theorem wp_abs {P : Program} {c : Code} {Q : Exit → Act → World → Prop} {a : Act} {W : World} (K : World → Prop) (hK : K W) (h : ∀ w, K w → c.wp P Q a w) : c.wp P Q a W := h W hK

/-- Block b holds just the cells C, none frozen. -/
def Box (w : World) (b : Nat) (C : Array Value) : Prop := ∃ T, w.heap[b]? = some (.cells C T (0, 0))
theorem Box.cell {w : World} {b : Nat} {C : Array Value} (h : Box w b C) : ∀ i, w.cell? ⟨b, i, none⟩ = C[i]? := by
  obtain ⟨T, h⟩ := h
  intro i; simp [World.cell?, h]
theorem Box.free {w : World} {b : Nat} {C : Array Value} (h : Box w b C) : ∀ i, w.frozen? ⟨b, i, none⟩ = false := by
  obtain ⟨T, h⟩ := h
  intro i; simp [World.frozen?, h]
theorem Box.lt {w : World} {b : Nat} {C : Array Value} (h : Box w b C) : b < w.heap.size := by
  obtain ⟨T, h⟩ := h
  exact (Array.getElem?_eq_some_iff.1 h).1
theorem Box.new (w : World) (C : Array Value) (T : TypeId) : Box (w.alloc (.cells C T)) w.heap.size C := ⟨T, by show (w.heap.push _)[w.heap.size]? = _; simp⟩
theorem Box.newAt (w : World) (C : Array Value) (T : TypeId) (n : Nat) (h : n = w.heap.size) : Box (w.alloc (.cells C T)) n C := by subst h; exact Box.new w C T
theorem Box.alloc {w : World} {b : Nat} {C : Array Value} (h : Box w b C) (o : Obj) : Box (w.alloc o) b C := by
  have hl := h.lt
  obtain ⟨T, h⟩ := h
  exact ⟨T, by rw [Below.heap_alloc w o b hl]; exact h⟩
theorem Box.below {w w' : World} {b B : Nat} {C : Array Value} (h : Box w b C) (hb : Below B w w') (hB : b < B) : Box w' b C := by
  obtain ⟨T, h⟩ := h
  exact ⟨T, by rw [hb.block b hB]; exact h⟩
theorem Box.drewN {w : World} {b : Nat} {C : Array Value} (h : Box w b C) (n : Nat) : Box (w.drewN n) b C := h
theorem Box.drew {w : World} {b : Nat} {C : Array Value} (h : Box w b C) : Box w.drew b C := h
theorem Box.set {w : World} {b i : Nat} {C : Array Value} (h : Box w b C) (v : Value) : Box (w.setCell ⟨b, i, none⟩ v) b (C.setIfInBounds i v) := by
  obtain ⟨T, h⟩ := h
  exact ⟨T, by simp [World.setCell, Array.getElem?_modify, h]⟩
theorem Box.setOther {w : World} {b : Nat} {C : Array Value} (h : Box w b C) {a : Addr} (ha : b ≠ a.block) (v : Value) : Box (w.setCell a v) b C := by
  obtain ⟨T, h⟩ := h
  exact ⟨T, by rw [Below.heap_setCell w a v b ha]; exact h⟩
theorem size_alloc (w : World) (o : Obj) : (w.alloc o).heap.size = w.heap.size + 1 := by show (w.heap.push _).size = _; simp
theorem size_setCell (w : World) (a : Addr) (v : Value) : (w.setCell a v).heap.size = w.heap.size := by simp [World.setCell]
theorem bcell {W w1 : World} (hb : Below W.heap.size W w1) : (∀ b o, b < W.heap.size → w1.cell? ⟨b, o, none⟩ = W.cell? ⟨b, o, none⟩) ∧ (∀ b o, b < W.heap.size → w1.frozen? ⟨b, o, none⟩ = W.frozen? ⟨b, o, none⟩) :=
  ⟨fun b o h => hb.cell (p := ⟨b, o, none⟩) h, fun b o h => hb.frozen (p := ⟨b, o, none⟩) h⟩
/-- w' is w with new blocks; said so that a walk reads w's cells in w' too. -/
abbrev Same (w w' : World) : Prop := Below w.heap.size w w' ∧ ∀ b o, b < w.heap.size → w'.cell? ⟨b, o, none⟩ = w.cell? ⟨b, o, none⟩
theorem Same.of {w w' : World} (h : Below w.heap.size w w') : Same w w' := ⟨h, (bcell h).1⟩
theorem Same.drew (w : World) : Same w w.drew := .of (Below.refl _ _).drew
theorem below_from {w w1 w2 : World} {B : Nat} (h : Below B w w1) (hb : Below w1.heap.size w1 w2) (hB : B ≤ w1.heap.size) : Below B w w2 := h.trans (hb.mono hB)
theorem Same.step {w w1 w2 : World} (h : Same w w1) (hb : Below w1.heap.size w1 w2) : Same w w2 := .of (below_from h.1 hb h.1.size)
theorem Box.same {w w' : World} {b : Nat} {C : Array Value} (h : Box w b C) (hb : Same w w') : Box w' b C := h.below hb.1 h.lt

/-- Of the old blocks only those of S may have turned. -/
structure Only (S : Nat → Prop) (w w' : World) : Prop where
  os : w'.os = w.os
  tape : w'.tape = w.tape
  output : w'.output = w.output
  size : w.heap.size ≤ w'.heap.size
  block : ∀ k, k < w.heap.size → ¬ S k → w'.heap[k]? = w.heap[k]?
theorem Only.refl (S : Nat → Prop) (w : World) : Only S w w := ⟨rfl, rfl, rfl, Nat.le_refl _, fun _ _ _ => rfl⟩
theorem Only.trans {S : Nat → Prop} {a b c : World} (h : Only S a b) (k : Only S b c) : Only S a c :=
  ⟨k.os.trans h.os, k.tape.trans h.tape, k.output.trans h.output, Nat.le_trans h.size k.size, fun i hi hs => (k.block i (Nat.lt_of_lt_of_le hi h.size) hs).trans (h.block i hi hs)⟩
theorem Only.mono {S S' : Nat → Prop} {w w' : World} (h : Only S w w') (hs : ∀ k, k < w.heap.size → S k → S' k) : Only S' w w' :=
  ⟨h.os, h.tape, h.output, h.size, fun i hi hn => h.block i hi (fun hk => hn (hs i hi hk))⟩
theorem Only.of_below {S : Nat → Prop} {w w' : World} (h : Below w.heap.size w w') : Only S w w' := ⟨h.os, h.tape, h.output, h.size, fun i hi _ => h.block i hi⟩
theorem Only.below {S : Nat → Prop} {w w' : World} {B : Nat} (h : Only S w w') (hB : B ≤ w.heap.size) (hs : ∀ k, S k → B ≤ k) : Below B w w' :=
  ⟨h.os, h.tape, h.output, h.size, fun i hi => h.block i (Nat.lt_of_lt_of_le hi hB) (fun hk => by have := hs i hk; omega)⟩
theorem Only.drew {S : Nat → Prop} {w w' : World} (h : Only S w w') : Only S w w'.drew := ⟨h.os, h.tape, h.output, h.size, h.block⟩
theorem Only.drewN {S : Nat → Prop} {w w' : World} (h : Only S w w') (n : Nat) : Only S w (w'.drewN n) := ⟨h.os, h.tape, h.output, h.size, h.block⟩
theorem Only.alloc {S : Nat → Prop} {w w' : World} (h : Only S w w') (o : Obj) : Only S w (w'.alloc o) :=
  ⟨h.os, h.tape, h.output, by rw [size_alloc]; have := h.size; omega, fun i hi hn => (Below.heap_alloc w' o i (Nat.lt_of_lt_of_le hi h.size)).trans (h.block i hi hn)⟩
theorem Only.setCell {S : Nat → Prop} {w w' : World} (h : Only S w w') {p : Addr} (hp : S p.block ∨ w.heap.size ≤ p.block) (u : Value) : Only S w (w'.setCell p u) :=
  ⟨h.os, h.tape, h.output, by rw [size_setCell]; exact h.size, fun i hi hn => (Below.heap_setCell w' p u i (fun e => by subst e; rcases hp with hp | hp; exact hn hp; omega)).trans (h.block i hi hn)⟩
theorem Only.cell {S : Nat → Prop} {w w' : World} (h : Only S w w') : ∀ b o, b < w.heap.size → ¬ S b → w'.cell? ⟨b, o, none⟩ = w.cell? ⟨b, o, none⟩ := fun b o hb hn => World.cell?_of_block (w := w) (a := ⟨b, o, none⟩) (h.block b hb hn)
theorem Only.frozen {S : Nat → Prop} {w w' : World} (h : Only S w w') : ∀ b o, b < w.heap.size → ¬ S b → w'.frozen? ⟨b, o, none⟩ = w.frozen? ⟨b, o, none⟩ := fun b o hb hn => World.frozen?_of_block (w := w) (a := ⟨b, o, none⟩) (h.block b hb hn)
theorem Box.only {S : Nat → Prop} {w w' : World} {b : Nat} {C : Array Value} (h : Box w b C) (ho : Only S w w') (hn : ¬ S b) : Box w' b C := by
  have hl := h.lt
  obtain ⟨T, h⟩ := h
  exact ⟨T, by rw [ho.block b hl hn]; exact h⟩
theorem below_a1 (w : World) (o : Obj) : Below w.heap.size w (w.alloc o) := (Below.refl _ _).alloc (Nat.le_refl _) o
theorem below_a2 (w : World) (o o' : Obj) : Below w.heap.size w ((w.alloc o).alloc o') := (below_a1 w o).alloc (by rw [size_alloc]; omega) o'
/-- make([]T, n, c), T a whole number: a new block of zeros. -/
theorem run_mk {P : Program} {t e : TypeId} {k : IntKind} {bytes : Nat} (ht : P.underlying t = some (.slice e)) (hinfo : (P.info? e).map (fun i => (i.zero, i.size, i.bytes)) = some (some (.int k 0), 1, bytes)) (hb0 : 0 < bytes)
    (n : Int) (m : Nat) (hn : n = (m : Int)) (hm : m * bytes ≤ 140737488355328) :
    ∀ W : World, (Instr.makeSlice t (.int .i64 n) (.int .i64 n)).run P W = .ok (.slice (some ⟨W.heap.size, 0, none⟩) m m) (W.alloc (.cells (madeCells #[.int k 0] m) e)) := by
  intro W
  subst hn
  have hm' : m ≤ 140737488355328 := Nat.le_trans (Nat.le_mul_of_pos_right _ hb0) hm
  exact run_make_row' t e (.int k 0) bytes ht hinfo rfl .i64 .i64 m (by rw [Nat.mul_comm]; omega) (by omega) W
/-- make([]T, n, c), T a whole number. -/
theorem run_mkcap {P : Program} {t e : TypeId} {k : IntKind} {bytes : Nat} (ht : P.underlying t = some (.slice e)) (hinfo : (P.info? e).map (fun i => (i.zero, i.size, i.bytes)) = some (some (.int k 0), 1, bytes)) (hb0 : 0 < bytes)
    (nI cI : Int) (n c : Nat) (hc : cI = (c : Int)) (hnn : nI = (n : Int)) (hn : n ≤ c) (hm : c * bytes ≤ 140737488355328) :
    ∀ W : World, (Instr.makeSlice t (.int .i64 nI) (.int .i64 cI)).run P W = .ok (.slice (some ⟨W.heap.size, 0, none⟩) n c) (W.alloc (.cells (madeCells #[.int k 0] c) e)) := by
  intro W
  subst hc; subst hnn
  obtain ⟨i, hi, hzz⟩ := Option.map_eq_some_iff.1 hinfo
  simp only [Prod.mk.injEq] at hzz
  obtain ⟨hz, hs, hb⟩ := hzz
  have hm' : c ≤ 140737488355328 := Nat.le_trans (Nat.le_mul_of_pos_right _ hb0) hm
  have hm2 : bytes * c ≤ 140737488355328 := by rw [Nat.mul_comm]; exact hm
  have h := run_make (P := P) W t e i (.int k 0) ht hi hz .i64 .i64 (n : Int) (c : Int) (by omega) (by omega) (by rw [hb, ← Int.natCast_mul]; omega) (by omega)
  have hz : (Value.int k 0).cells = #[.int k 0] := rfl
  simpa [hs, hz] using h

/-- Block b is the cells C of element type T, none frozen. -/
def BoxT (w : World) (T : TypeId) (b : Nat) (C : Array Value) : Prop := w.heap[b]? = some (.cells C T (0, 0))
theorem BoxT.box {w : World} {T : TypeId} {b : Nat} {C : Array Value} (h : BoxT w T b C) : Box w b C := ⟨T, h⟩
theorem BoxT.lt {w : World} {T : TypeId} {b : Nat} {C : Array Value} (h : BoxT w T b C) : b < w.heap.size := h.box.lt
theorem BoxT.below {w w' : World} {T : TypeId} {b B : Nat} {C : Array Value} (h : BoxT w T b C) (hb : Below B w w') (hB : b < B) : BoxT w' T b C := by
  unfold BoxT at *; rw [hb.block b hB]; exact h
theorem BoxT.only {S : Nat → Prop} {w w' : World} {T : TypeId} {b : Nat} {C : Array Value} (h : BoxT w T b C) (ho : Only S w w') (hn : ¬ S b) : BoxT w' T b C := by
  have hl := h.lt
  unfold BoxT at *; rw [ho.block b hl hn]; exact h
theorem BoxT.set {w : World} {T : TypeId} {b i : Nat} {C : Array Value} (h : BoxT w T b C) (v : Value) : BoxT (w.setCell ⟨b, i, none⟩ v) T b (C.setIfInBounds i v) := by
  unfold BoxT at *; simp [World.setCell, Array.getElem?_modify, h]
theorem BoxT.new (w : World) (C : Array Value) (T : TypeId) : BoxT (w.alloc (.cells C T)) T w.heap.size C := by
  show (w.heap.push _)[w.heap.size]? = _; simp
theorem BoxT.alloc {w : World} {T : TypeId} {b : Nat} {C : Array Value} (h : BoxT w T b C) (o : Obj) : BoxT (w.alloc o) T b C := by
  have hl := h.lt
  unfold BoxT at *; rw [Below.heap_alloc w o b hl]; exact h
theorem owns_box {w : World} {base e size n g cap : Nat} {xs : List Value} (h : w.ownsRow base e size (.slice (some ⟨g, 0, none⟩) n cap) n xs) :
    ∃ cur : Array Value, BoxT w e g cur ∧ cur.size = cap * size ∧ cur.toList.take (n * size) = xs ∧ n ≤ cap ∧ base ≤ g := by
  rcases h.2 with ⟨h1, _⟩ | ⟨g', cap', cur, h1, hb, hh, hn, _, hs, ht⟩
  · cases h1
  · injection h1 with h1 h2 h3
    injection h1 with h1
    injection h1 with h1
    subst h1; subst h3
    exact ⟨cur, hh, hs, ht, hn, hb⟩
theorem box_owns {w : World} {base e size n g cap : Nat} {cur : Array Value} (h : BoxT w e g cur) (hs : cur.size = cap * size) (hn : n ≤ cap) (hc : cap ≤ 9223372036854775807) (hb : base ≤ g) :
    w.ownsRow base e size (.slice (some ⟨g, 0, none⟩) n cap) n (cur.toList.take (n * size)) :=
  ⟨by simp only [List.length_take, Array.length_toList, hs]; exact Nat.min_eq_left (Nat.mul_le_mul_right _ hn), .inr ⟨g, cap, cur, rfl, hb, h, hn, by unfold maxLen; omega, hs, rfl⟩⟩
theorem grown_only {w w' : World} {g : Nat} (h : w.grownBy w' (some g)) : Only (· = g) w w' :=
  ⟨h.os, h.tape, h.output, h.size, fun k hk hn => h.block k hk (by intro e; injection e with e; exact hn e)⟩
theorem grown_none {w w' : World} (h : w.grownBy w' none) : Below w.heap.size w w' := ⟨h.os, h.tape, h.output, h.size, fun k hk => h.block k hk (by simp)⟩
end Go.Proofs.YtdpamikobmefeaaGreat
