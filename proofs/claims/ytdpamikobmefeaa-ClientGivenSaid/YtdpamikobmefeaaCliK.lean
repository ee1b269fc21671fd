/- The client: what a write waits for: a map by spots. Conditions: none. -/
import Derived.Test.YtdpamikobmefeaaCliF
namespace Go.Proofs.Ytdpamikobmefeaa
open Go.RowKit Go.ChangeShapes Go.Maps
set_option maxRecDepth 100000
set_option linter.unusedVariables false
set_option linter.unusedSimpArgs false

theorem spot_keyed : Keyed Try.prog 168 := Keyed.of_law (deep_law_laid (m := 8) (by kernel_rfl) (by omega) (of_decide_eq_true (by kernel_rfl)) (by kernel_rfl) (by kernel_rfl))
def KS (x y : Int) : Lit := .string (keyBytes [.int .i64 x, .int .u32 y])
theorem keyOf_spot {x y : Int} (h1 : -9223372036854775808 ≤ x) (h2 : x < 9223372036854775808) (hy : U32 y) : keyOf Try.prog 168 (.agg #[.int .i64 x, .int .u32 y]) = some (KS x y) := by
  have w1 : (Lit.int .u32 y).wf = true := u32_wfC hy
  have w0 : (Lit.int .i64 x).wf = true := by simp [Lit.wf, IntKind.min, IntKind.max, IntKind.bits, IntKind.signed]; omega
  obtain ⟨m, hm⟩ : ∃ m, Try.prog.types.size = m + 1 := ⟨Try.prog.types.size - 1, by kernel_rfl⟩
  have hu := Try.underlying168
  have q1 : Try.prog.keyType 168 = true := by kernel_rfl
  have q2 : ∀ a b : Value, (Value.agg #[a, b]).formed Try.prog 168 = true := fun a b => by kernel_rfl
  have hc : Try.prog.cellsOf 168 = 2 := by kernel_rfl
  have hc1 : Try.prog.cellsOf 47 = 1 := by kernel_rfl
  have hc0 : Try.prog.cellsOf 3 = 1 := by kernel_rfl
  have hcells : (Value.agg #[.int .i64 x, .int .u32 y]).cells.toList = [.int .i64 x, .int .u32 y] := rfl
  unfold keyOf
  simp only [hu, q1, q2, Bool.and_self, if_true, hcells, hm]
  simp [Program.keyLits, hu, hc, hc1, hc0, Try.underlying47, Try.underlying3, w1, w0, KS]
def isBoolV : Value → Bool
  | .bool _ => true
  | _ => false
/-- A map by spots, of at most so many. -/
def tMapN (π : List Int) (mb N : Nat) : Thing := ⟨π, fun c w => c mb = π ∧ ∃ (n : Nat) (D : DataW Value), n ≤ N ∧ w.ownsMap Try.prog 168 (heldIf isBoolV) mb n D, fun {c c' w w'} h hk => by
  obtain ⟨h1, n, D, h2, h3⟩ := h
  exact ⟨(hk.col mb h3.lt (.inr h1)).trans h1, n, D, h2, ownsMap_only h3 hk.only (fun hn => hn.2 h1)⟩⟩
theorem Sta.mapSet {W w : World} {ts : List Thing} {π : List Int} {mb N : Nat} {x y : Int} (i : Nat) (h : Sta W ts w) (hi : ts[i]? = some (tMapN π mb N)) (hπ : π ≠ []) (hN : N < 1000000) (h1 : -9223372036854775808 ≤ x) (h2 : x < 9223372036854775808) (hy : U32 y) :
    ∃ w', (Instr.mapUpdate 139 (.map (some mb)) (.agg #[.int .i64 x, .int .u32 y]) (.bool true)).run Try.prog w = .ok () w' ∧ Sta W (ts.set i (tMapN π mb (N + 1))) w' := by
  obtain ⟨c, h⟩ := h
  obtain ⟨hc, n, D, hn, hm⟩ := h.get hi
  obtain ⟨upd, hupd⟩ := heldIf_upd hm spot_keyed Try.underlying139 (by unfold maxLen; omega) (keyOf_spot h1 h2 hy)
  obtain ⟨u1, u2, u3⟩ := hupd w (.bool true) (Below.refl _ _) rfl
  have st : Stp (· = π) c w c (upd w (.bool true)) := ⟨u3.mono fun k _ hk => by subst hk; exact hc, fun _ _ => rfl, fun k hk => h.fresh k (Nat.le_trans u3.size hk)⟩
  exact ⟨_, u1, Sta.turn h hi hπ (t' := tMapN π mb (N + 1)) rfl st ⟨hc, n + 1, _, by omega, u2⟩ rfl⟩
end Go.Proofs.Ytdpamikobmefeaa
