/- Maps whose elements are kept as they are: the element's datum is the value itself. Look-up and store at the operation. Conditions: the key's type is served. -/
import Derived.Test.YtjniholnmjafeaaBase
import Derived.Maps.OwnSet
import Derived.Maps.Views
set_option linter.unusedVariables false
namespace Go.Proofs.Ytjniholnmjafeaa
open Go.RowKit Go.Maps

/-- Each element reads as itself. -/
def heldR (v : Value) : Option (DataW Value × List MemPlace) := some (.held v, [])

section
variable {P : Program} {ops : Array Oper} {rest : List Oper} {o : Oper} {a : Act} {Q : Exit → Act → World → Prop} {t k e : TypeId} {b n : Nat} {D : DataW Value} {w : World}

theorem held_run (h : w.ownsMap P k heldR b n D) (K : Keyed P k) (ht : P.underlying t = some (.map k e)) {z : Value} (hz : (zeroValue e).run P w = .ok z w) {key : Value} {kl : Lit} (hkey : keyOf P k key = some kl)
    {v : Value} (hv : D.atKey kl (.held z) = .held v) : (Instr.lookup t (.map (some b)) key false).run P w = .ok v w := by
  obtain ⟨v', ps, hrun, hR⟩ := h.lookup K ht hz (zd := .held z) (zp := []) rfl hkey
  rw [hv] at hR
  simp only [heldR, Option.some.injEq, Prod.mk.injEq, DataW.held.injEq] at hR
  rw [← hR.1]; exact hrun

theorem held_run_ok (h : w.ownsMap P k heldR b n D) (K : Keyed P k) (ht : P.underlying t = some (.map k e)) {z : Value} (hz : (zeroValue e).run P w = .ok z w) {key : Value} {kl : Lit} (hkey : keyOf P k key = some kl)
    {v : Value} {c : Bool} (hv : D.atKey kl (.held z) = .held v) (hc : Maps.has D kl = c) : (Instr.lookup t (.map (some b)) key true).run P w = .ok (.tuple #[v, .bool c]) w := by
  obtain ⟨v', ps, hrun, hR⟩ := h.look_ok K ht hz (zd := .held z) (zp := []) rfl hkey
  rw [hv] at hR
  simp only [heldR, Option.some.injEq, Prod.mk.injEq, DataW.held.injEq] at hR
  rw [← hR.1, ← hc]; exact hrun

/-- 'm[k]' at the operation. -/
theorem wpList_lookup_held (hg : o.guard = none ∨ Region.wanted o (yielded ops a.tmps) = true) (m x : Operand) (hop : o.op = Op.lookup t m x false)
    (K : Keyed P k) (ht : P.underlying t = some (.map k e)) {z : Value} (hz : (zeroValue e).run P w = .ok z w) (hm : a.eval m = .map (some b)) (hown : w.ownsMap P k heldR b n D)
    (key : Value) (hx : a.eval x = key) (kl : Lit) (hkey : keyOf P k key = some kl) (v : Value) (hv : D.atKey kl (.held z) = .held v)
    (hK : wpList P ops Q rest (a.put o.dst v) w) : wpList P ops Q (o :: rest) a w := by
  have hw : Region.wanted o (yielded ops a.tmps) = true := by
    rcases hg with hg | hg
    · simp [Region.wanted, hg]
    · exact hg
  unfold wpList
  rw [if_pos hw]
  left
  have hrun := held_run hown K ht hz hkey hv
  unfold Oper.wp
  simp [execOp, hop, hm, hx, hrun, Result.andThen]
  exact hK
end
end Go.Proofs.Ytjniholnmjafeaa
