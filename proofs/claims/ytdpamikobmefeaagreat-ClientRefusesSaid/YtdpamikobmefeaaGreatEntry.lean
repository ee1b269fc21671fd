/- record.Copy, record.Entry: a record, an entry, in memory of its own. Conditions: the values read so. -/
import Derived.Test.YtdpamikobmefeaaGreatCol
import Derived.Test.YtdpamikobmefeaaGreatStructs
namespace Go.Proofs.YtdpamikobmefeaaGreat
open Go.RowKit Go.ChangeShapes
set_option maxRecDepth 100000
set_option linter.unusedVariables false
set_option linter.unusedSimpArgs false

/-- A slice of whole numbers whose cells are newer than block B. -/
def NewD (B : Nat) (k : IntKind) (bytes : Nat) (xs : List Int) (w : World) (v : Value) : Prop := ∃ A n c, v = .slice A n c ∧ Ints w (B ≤ ·) k bytes A n c xs
theorem NewD.down {B B' : Nat} {k : IntKind} {bytes : Nat} {xs : List Int} {w : World} {v : Value} (h : NewD B k bytes xs w v) (hB : B' ≤ B) : NewD B' k bytes xs w v := by
  obtain ⟨A, n, c, rfl, hi⟩ := h
  exact ⟨A, n, c, rfl, hi.stays (fun _ _ => rfl) (fun b hb => Nat.le_trans hB hb)⟩
theorem NewD.only {B : Nat} {k : IntKind} {bytes : Nat} {xs : List Int} {w w' : World} {v : Value} {S : Nat → Prop} (h : NewD B k bytes xs w v) (ho : Only S w w') (hS : ∀ b, B ≤ b → ¬ S b) : NewD B k bytes xs w' v := by
  obtain ⟨A, n, c, rfl, hi⟩ := h
  exact ⟨A, n, c, rfl, hi.move fun b hb hlt => ⟨ho.block b hlt (hS b hb), hb⟩⟩
theorem NewD.data {c : Col} {w w' : World} {B : Nat} {k : IntKind} {bytes : Nat} {xs : List Int} {v : Value} (h : NewD B k bytes xs w' v) (hf : ∀ b, B ≤ b → c b = []) : DInts c w' k bytes v xs := by
  obtain ⟨A, n, cap, rfl, hi⟩ := h
  exact ⟨A, n, cap, rfl, hi.move fun b hb hlt => ⟨rfl, hf b hb, hlt⟩⟩

set_option maxHeartbeats 1000000 in
theorem copy_any {D : Nat → Prop} {A : Option Addr} {n c : Nat} {xs : List Int} (id ver : Int) (w : World) (hx : Ints w D .u32 4 A n c xs) (hD : ∀ b, D b → b < w.heap.size) :
    Calls Tryz.prog 93 #[.agg #[.int .u64 id, .int .u64 ver, .slice A n c]] w fun e w' => ∃ v, e = .returned (.agg #[.int .u64 id, .int .u64 ver, v]) ∧ NewD w.heap.size .u32 4 xs w' v ∧ Below w.heap.size w w' := by
  have h2 := Lib.hid ((hx.below (below_a1 w (.cells #[.int .u64 id, .int .u64 ver, .slice A n c] 52)) hD).below (below_a1 _ (.cells #[.int .u64 0, .int .u64 0, .slice none 0 0] 52)) (by intro b hb; have := hD b hb; simp; omega))
  have d2 := Lib.hid (show ∀ b, D b → b < ((w.alloc (.cells #[.int .u64 id, .int .u64 ver, .slice A n c] 52)).alloc (.cells #[.int .u64 0, .int .u64 0, .slice none 0 0] 52)).heap.size from by intro b hb; have := hD b hb; simp; omega)
  clear hx hD
  go_enter Tryz.func93, Tryz.ntmps93
  go_wp2_with (go_at_call 25; go_loud ((with_reducible refine (clone_u32 _ h2.out d2.out).mono ?_); rintro e1 w1 hn; obtain ⟨v1, rfl, B, m, cap, rfl, hi, hb, _⟩ := hn; simp only [size_alloc] at hi; have X1 := ((Box.new w #[.int .u64 id, .int .u64 ver, .slice A n c] 52).alloc (.cells #[.int .u64 0, .int .u64 0, .slice none 0 0] 52)).below hb (by simp only [size_alloc]; omega); have X2 := (Box.newAt (w.alloc (.cells #[.int .u64 id, .int .u64 ver, .slice A n c] 52)) #[.int .u64 0, .int .u64 0, .slice none 0 0] 52 (w.heap.size + 1) (by rw [size_alloc])).below hb (by simp only [size_alloc]; omega); have c1 := X1.cell; have f1 := X1.free; have c2 := X2.cell; have f2 := X2.free; have z1 := X1.lt; have z2 := X2.lt; have HI := Lib.hid hi; have HB := Lib.hid ((below_a2 w _ _).trans (hb.mono (by simp only [size_alloc]; omega))); clear hi hb X1 X2))
  refine bodyPost_ret (v := .agg #[.int .u64 id, .int .u64 ver, .slice B m cap]) (by simp [results, Tryz.results93, go_sem, c1, f1, c2, f2]) rfl ?_
  refine ⟨.slice B m cap, rfl, ?_, ?_⟩
  · exact (NewD.only (B := w.heap.size + 1 + 1) (S := fun k => k = w.heap.size ∨ k = w.heap.size + 1) (w := w1) ⟨B, m, cap, rfl, HI.out⟩ ((((((Only.refl _ _).setCell (.inl (.inl rfl)) _).setCell (.inl (.inr rfl)) _).setCell (.inl (.inr rfl)) _).setCell (.inl (.inr rfl)) _)) (fun b hb => by omega)).down (by omega)
  · exact ((((HB.out.setCell (by exact Nat.le_refl _) _).setCell (by exact Nat.le_succ _) _).setCell (by exact Nat.le_succ _) _).setCell (by exact Nat.le_succ _) _)

set_option maxHeartbeats 1000000 in
theorem entry_any {D : Nat → Prop} {A : Option Addr} {n c : Nat} {xs : List Int} (x id ver : Int) (g : Bool) (w : World) (hx : Ints w D .u32 4 A n c xs) (hD : ∀ b, D b → b < w.heap.size) :
    Calls Tryz.prog 73 #[.agg #[.int .u32 x, .int .u64 id, .int .u64 ver, .slice A n c, .bool g]] w fun e w' => ∃ v, e = .returned (.agg #[.int .u32 x, .int .u64 id, .int .u64 ver, v, .bool g]) ∧ NewD w.heap.size .u32 4 xs w' v ∧ Below w.heap.size w w' := by
  have h2 := Lib.hid ((hx.below (below_a1 w (.cells #[.int .u32 x, .int .u64 id, .int .u64 ver, .slice A n c, .bool g] 54)) hD).below (below_a1 _ (.cells #[.int .u32 0, .int .u64 0, .int .u64 0, .slice none 0 0, .bool false] 54)) (by intro b hb; have := hD b hb; simp; omega))
  have d2 := Lib.hid (show ∀ b, D b → b < ((w.alloc (.cells #[.int .u32 x, .int .u64 id, .int .u64 ver, .slice A n c, .bool g] 54)).alloc (.cells #[.int .u32 0, .int .u64 0, .int .u64 0, .slice none 0 0, .bool false] 54)).heap.size from by intro b hb; have := hD b hb; simp; omega)
  clear hx hD
  go_enter Tryz.func73, Tryz.ntmps73
  go_wp2_with (go_at_call 93; go_loud ((with_reducible refine (copy_any id ver _ h2.out d2.out).mono ?_); rintro e1 w1 hn; obtain ⟨v1, rfl, hi, hb⟩ := hn; simp only [size_alloc] at hi; have X1 := ((Box.new w #[.int .u32 x, .int .u64 id, .int .u64 ver, .slice A n c, .bool g] 54).alloc (.cells #[.int .u32 0, .int .u64 0, .int .u64 0, .slice none 0 0, .bool false] 54)).below hb (by simp only [size_alloc]; omega); have X2 := (Box.newAt (w.alloc (.cells #[.int .u32 x, .int .u64 id, .int .u64 ver, .slice A n c, .bool g] 54)) #[.int .u32 0, .int .u64 0, .int .u64 0, .slice none 0 0, .bool false] 54 (w.heap.size + 1) (by rw [size_alloc])).below hb (by simp only [size_alloc]; omega); have c1 := X1.cell; have f1 := X1.free; have c2 := X2.cell; have f2 := X2.free; have z1 := X1.lt; have z2 := X2.lt; obtain ⟨B, m, cap, rfl, hi⟩ := hi; have HI := Lib.hid hi; have HB := Lib.hid ((below_a2 w _ _).trans (hb.mono (by simp only [size_alloc]; omega))); clear hi hb X1 X2))
  refine bodyPost_ret (v := .agg #[.int .u32 x, .int .u64 id, .int .u64 ver, .slice B m cap, .bool g]) (by simp [results, Tryz.results73, go_sem, c1, f1, c2, f2]) rfl ?_
  refine ⟨.slice B m cap, rfl, ?_, ?_⟩
  · exact (NewD.only (B := w.heap.size + 1 + 1) (S := fun k => k = w.heap.size ∨ k = w.heap.size + 1) (w := w1) ⟨B, m, cap, rfl, HI.out⟩ ((((((((((Only.refl _ _).setCell (.inl (.inl rfl)) _).setCell (.inl (.inl rfl)) _).setCell (.inl (.inl rfl)) _).setCell (.inl (.inr rfl)) _).setCell (.inl (.inr rfl)) _).setCell (.inl (.inr rfl)) _).setCell (.inl (.inr rfl)) _).setCell (.inl (.inr rfl)) _)) (fun b hb => by omega)).down (by omega)
  · exact ((((((((HB.out.setCell (by exact Nat.le_refl _) _).setCell (by exact Nat.le_refl _) _).setCell (by exact Nat.le_refl _) _).setCell (by exact Nat.le_succ _) _).setCell (by exact Nat.le_succ _) _).setCell (by exact Nat.le_succ _) _).setCell (by exact Nat.le_succ _) _).setCell (by exact Nat.le_succ _) _)
end Go.Proofs.YtdpamikobmefeaaGreat
