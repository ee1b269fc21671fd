/- The shelf: its map, and what its methods do: New, key, Len, Put, Get. Conditions: the shelf is one. -/
import Derived.Test.YtjcbmfopcohcmaaHeldIf
import Derived.Test.YtjcbmfopcohcmaaEntry
import Derived.Test.YtjcbmfopcohcmaaNewer
import Derived.DeepKeys4
import Derived.Deep.DeepCutAuto
import Derived.Deep.RegionHeld3
import Derived.WalkSpells
namespace Go.Proofs.Ytjcbmfopcohcmaa
open Go.RowKit Go.ChangeShapes Go.Maps
set_option maxRecDepth 100000
set_option linter.unusedVariables false
set_option linter.unusedSimpArgs false

theorem key_keyed : Keyed Try.prog 96 := Keyed.of_law (deep_law_laid (m := 8) (by kernel_rfl) (by omega) (of_decide_eq_true (by kernel_rfl)) (by kernel_rfl) (by kernel_rfl))
/-- The key's datum. -/
def KL (x id : Int) : Lit := .string (keyBytes [.int .u32 x, .int .u64 id])
theorem keyOf_key {x id : Int} (hx : U32 x) (hi : U64 id) : keyOf Try.prog 96 (.agg #[.int .u32 x, .int .u64 id]) = some (KL x id) := by
  have w1 : (Lit.int .u32 x).wf = true := by
    have := hx.1; have := hx.2
    simp [Lit.wf, IntKind.min, IntKind.max, IntKind.bits, IntKind.signed]; omega
  have w2 : (Lit.int .u64 id).wf = true := by
    have := hi.1; have := hi.2
    simp [Lit.wf, IntKind.min, IntKind.max, IntKind.bits, IntKind.signed]; omega
  obtain ⟨m, hm⟩ : ∃ m, Try.prog.types.size = m + 1 := ⟨Try.prog.types.size - 1, by kernel_rfl⟩
  have hu := Try.underlying96
  have h1 : Try.prog.keyType 96 = true := by kernel_rfl
  have h2 : ∀ a b : Value, (Value.agg #[a, b]).formed Try.prog 96 = true := fun a b => by kernel_rfl
  have hc : Try.prog.cellsOf 96 = 2 := by kernel_rfl
  have hc1 : Try.prog.cellsOf 22 = 1 := by kernel_rfl
  have hc2 : Try.prog.cellsOf 31 = 1 := by kernel_rfl
  have hcells : (Value.agg #[.int .u32 x, .int .u64 id]).cells.toList = [.int .u32 x, .int .u64 id] := rfl
  unfold keyOf
  simp only [hu, h1, h2, Bool.and_self, if_true, hcells, hm]
  simp [Program.keyLits, hu, hc, hc1, hc2, Try.underlying22, Try.underlying31, w1, w2, KL]

theorem keyOf_key_inv {v : Value} {l : Lit} (h : keyOf Try.prog 96 v = some l) : ∃ x id, U32 x ∧ U64 id ∧ v = .agg #[.int .u32 x, .int .u64 id] ∧ l = KL x id := by
  obtain ⟨m, hm⟩ : ∃ m, Try.prog.types.size = m + 1 := ⟨Try.prog.types.size - 1, by kernel_rfl⟩
  have hu := Try.underlying96
  have h1 : Try.prog.keyType 96 = true := by kernel_rfl
  have hc : Try.prog.cellsOf 96 = 2 := by kernel_rfl
  have hc1 : Try.prog.cellsOf 22 = 1 := by kernel_rfl
  have hc2 : Try.prog.cellsOf 31 = 1 := by kernel_rfl
  unfold keyOf at h
  simp only [hu, h1, Bool.true_and] at h
  by_cases hf : v.formed Try.prog 96 = true
  · rw [if_pos hf] at h
    cases v with
    | agg cs =>
      simp only [Value.formed, hu, hc, beq_iff_eq] at hf
      obtain ⟨a, b, rfl⟩ : ∃ a b, cs = #[a, b] := by
        obtain ⟨l⟩ := cs
        match l, hf with
        | [a, b], _ => exact ⟨a, b, rfl⟩
      have hcells : (Value.agg #[a, b]).cells.toList = [a, b] := rfl
      simp only [hcells, hm] at h
      have q1 : ∀ (a : Value) (la : List Lit), Try.prog.keyLits (m + 1) 22 [a] = some la → ∃ x, a = .int .u32 x ∧ la = [.int .u32 x] ∧ (Lit.int .u32 x).wf = true := by
        intro a la h
        cases a <;> simp [Program.keyLits, Try.underlying22] at h
        obtain ⟨⟨rfl, w1⟩, rfl⟩ := h
        exact ⟨_, rfl, rfl, w1⟩
      have q2 : ∀ (a : Value) (la : List Lit), Try.prog.keyLits (m + 1) 31 [a] = some la → ∃ x, a = .int .u64 x ∧ la = [.int .u64 x] ∧ (Lit.int .u64 x).wf = true := by
        intro a la h
        cases a <;> simp [Program.keyLits, Try.underlying31] at h
        obtain ⟨⟨rfl, w1⟩, rfl⟩ := h
        exact ⟨_, rfl, rfl, w1⟩
      have e : Try.prog.keyLits (m + 1 + 1) 96 [a, b] = (Try.prog.keyLits (m + 1) 22 [a]).bind fun la => (Try.prog.keyLits (m + 1) 31 [b]).bind fun lb => some (la ++ lb) := by
        conv => lhs; unfold Program.keyLits
        simp only [hu, hc]
        simp [hc1, hc2]
        cases Try.prog.keyLits (m + 1) 22 [a] with
        | none => rfl
        | some la =>
          cases Try.prog.keyLits (m + 1) 31 [b] with
          | none => rfl
          | some lb => simp
      rw [e] at h
      cases ha : Try.prog.keyLits (m + 1) 22 [a] with
      | none => rw [ha] at h; simp at h
      | some la =>
        cases hb : Try.prog.keyLits (m + 1) 31 [b] with
        | none => rw [ha, hb] at h; simp at h
        | some lb =>
          obtain ⟨x, rfl, rfl, w1⟩ := q1 _ _ ha
          obtain ⟨id, rfl, rfl, w2⟩ := q2 _ _ hb
          rw [ha, hb] at h
          simp at h
          exact ⟨x, id, u32_of w1, u64_of w2, rfl, by rw [← h]; rfl⟩
    | _ => simp [Value.formed, hu] at hf
  · rw [if_neg hf] at h; cases h
theorem KL_inj {x id x' id' : Int} (h1 : U32 x) (h2 : U64 id) (h3 : U32 x') (h4 : U64 id') (h : KL x id = KL x' id') : x = x' ∧ id = id' := by
  have := key_keyed.inj (keyOf_key h1 h2) (by rw [h]; exact keyOf_key h3 h4)
  simp only [Value.agg.injEq, Array.mk.injEq, List.cons.injEq, Value.int.injEq, true_and, and_true] at this
  exact this
theorem KL_key (x id : Int) : WideAt.IsKeyLit (KL x id) := trivial

/-- A value that is an entry. -/
def isEnt : Value → Bool
  | .agg ⟨[.int .u32 _, .int .u64 _, .int .u64 _, .slice _ _ _, .bool _]⟩ => true
  | _ => false
theorem isEnt_inv {v : Value} (h : isEnt v = true) : ∃ (x id ver : Int) (s : Option Addr) (l c : Nat) (g : Bool), v = .agg #[.int .u32 x, .int .u64 id, .int .u64 ver, .slice s l c, .bool g] := by
  unfold isEnt at h
  split at h
  · exact ⟨_, _, _, _, _, _, _, rfl⟩
  · cases h

/-- The value of an entry whose values nobody turns. -/
def EVal (c : Col) (w : World) (e : Ent) (v : Value) : Prop := EntVal w (fun b => c b = [] ∧ b < w.heap.size) v e
theorem EVal.step {C : List Int → Prop} {c c' : Col} {w w' : World} {e : Ent} {v : Value} (h : EVal c w e v) (hs : Stp C c w c' w') (hC : ¬ C []) : EVal c' w' e v := by
  obtain ⟨s, l, cp, rfl, hok, hi⟩ := h
  exact ⟨s, l, cp, rfl, hok, hi.move fun b hb hlt => ⟨hs.only.block b hlt (by show ¬ C (c b); rw [hb.1]; exact hC), (hs.col b hlt).trans hb.1, Nat.lt_of_lt_of_le hlt hs.only.size⟩⟩
theorem EVal.ent {c : Col} {w : World} {e : Ent} {v : Value} (h : EVal c w e v) : isEnt v = true := by obtain ⟨s, l, cp, rfl, _⟩ := h; rfl
theorem EVal.ok {c : Col} {w : World} {e : Ent} {v : Value} (h : EVal c w e v) : e.ok := by obtain ⟨s, l, cp, rfl, hok, _⟩ := h; exact hok

def kE (e : Ent) : Lit := KL e.value e.rc.id
/-- A shelf: a block with a map of entries, by their keys. -/
def ShelfR (c : Col) (π : List Int) (w : World) (b : Nat) (L : List Ent) : Prop :=
  ∃ (mb : Nat) (D : DataW Value), BoxT w 141 b #[.map (some mb)] ∧ c b = π ∧ c mb = π ∧ w.ownsMap Try.prog 96 (heldIf isEnt) mb L.length D ∧ MapOf kE (EVal c w) D L
theorem ShelfR.step {C : List Int → Prop} {c c' : Col} {w w' : World} {π : List Int} {b : Nat} {L : List Ent} (h : ShelfR c π w b L) (hs : Stp C c w c' w') (hπ : ¬ C π) (hC : ¬ C []) : ShelfR c' π w' b L := by
  obtain ⟨mb, D, hb, h1, h2, hm, hd⟩ := h
  exact ⟨mb, D, hb.only hs.only (by show ¬ C (c b); rw [h1]; exact hπ), (hs.col b hb.lt).trans h1, (hs.col mb hm.lt).trans h2, ownsMap_only hm hs.only (by show ¬ C (c mb); rw [h2]; exact hπ), hd.imp fun x hx v hv => hv.step hs hC⟩
theorem ShelfR.later {c : Col} {w w' : World} {π : List Int} {b : Nat} {L : List Ent} (h : ShelfR c π w b L) (hf : Fresh c w) (hb : Below w.heap.size w w') : ShelfR c π w' b L :=
  h.step (C := fun _ => False) (Stp.of_below _ hf hb) id id
/-- Whatever blocks of cells were there are as they were. -/
def Boxes (w w' : World) : Prop := ∀ k C, Box w k C → Box w' k C
theorem Boxes.below {w w' : World} (h : Below w.heap.size w w') : Boxes w w' := fun k C hb => hb.below h hb.lt
theorem Boxes.trans {a b c : World} (h : Boxes a b) (k : Boxes b c) : Boxes a c := fun i C hb => k i C (h i C hb)
def ShelfTo (π : List Int) (b : Nat) (L : List Ent) (c : Col) (w : World) (w' : World) : Prop := ∃ c', Stp (· = π) c w c' w' ∧ ShelfR c' π w' b L ∧ Boxes w w'

/-- A new shelf. -/
theorem shelf_new {c : Col} (π : List Int) (w : World) (hf : Fresh c w) : Calls Try.prog 37 #[] w fun e w' => e = .returned (.pointer (some ⟨w.heap.size + 1, 0, none⟩)) ∧ ShelfTo π (w.heap.size + 1) [] c w w' ∧ Below w.heap.size w w' := by
  have hmm := @run_makeMap Try.prog
  go_enter Try.func37, Try.ntmps37
  go_wp2
  go_ret
  have hB : Below w.heap.size w ((w.alloc (.map #[] 0)).alloc (.cells #[.map (some w.heap.size)] 141)) := below_a2 w _ _
  refine ⟨rfl, ⟨fun k => if k = w.heap.size ∨ k = w.heap.size + 1 then π else c k, ⟨Only.of_below hB, fun k hk => if_neg (by omega), fun k hk => ?_⟩, ⟨w.heap.size, .map [], ?_, if_pos (.inr rfl), if_pos (.inl rfl), (World.ownsMap_made _ _ _ _).alloc _, MapOf.empty⟩, Boxes.below hB⟩, hB⟩
  · simp only [size_alloc] at hk
    show (if _ then _ else _) = _
    rw [if_neg (by omega)]; exact hf k (by omega)
  · have := BoxT.new (w.alloc (.map #[] 0)) #[.map (some w.heap.size)] 141
    rwa [size_alloc] at this

theorem key_any (x id ver : Int) (s : Option Addr) (l cp : Nat) (g : Bool) (w : World) : Calls Try.prog 77 #[.agg #[.int .u32 x, .int .u64 id, .int .u64 ver, .slice s l cp, .bool g]] w fun e w' => e = .returned (.agg #[.int .u32 x, .int .u64 id]) ∧ Below w.heap.size w w' := by
  go_enter Try.func77, Try.ntmps77
  go_wp2
  exact bodyPost_ret (v := .agg #[.int .u32 x, .int .u64 id]) (by simp [results, Try.results77, go_sem]) rfl ⟨rfl, (by repeat (first | exact Below.refl _ _ | assumption | apply Below.drew | apply belowN | (refine Below.alloc ?_ (by first | exact Nat.le_refl _ | (simp; done) | (simp; omega)) _) | (refine Below.setCell ?_ (by first | exact Nat.le_refl _ | (simp; done) | (simp; omega)) _)))⟩

theorem shelf_len {c : Col} {π : List Int} {w : World} {b : Nat} {L : List Ent} (h : ShelfR c π w b L) :
    Calls Try.prog 49 #[.pointer (some ⟨b, 0, none⟩)] w fun e w' => e = .returned (.int .i64 L.length) ∧ w = w' := by
  obtain ⟨mb, D, hb, _, _, hm, hd⟩ := h
  have hc := hb.box.cell
  have hlen := hm.len Try.underlying139 3
  rw [hd.size] at hlen
  clear hd hm hb
  generalize L.length = n at *
  go_enter Try.func49, Try.ntmps49
  go_wp2
  go_ret
  exact ⟨rfl, rfl⟩
end Go.Proofs.Ytjcbmfopcohcmaa
