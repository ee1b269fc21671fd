/- The law's few. Conditions: the entries read so. -/
import Derived.Test.YtjcbmfopcohcmaaEntsOpen
namespace Go.Proofs.Ytjcbmfopcohcmaa
open Go.RowKit Go.ChangeShapes
set_option maxRecDepth 100000
set_option linter.unusedVariables false
set_option linter.unusedSimpArgs false

def fewF (l : List Ent) : Bool := l.all (fun e => decide (e.rc.vals.length ≤ 20)) && decide (l.length ≤ 30)
theorem all_step {l : List Ent} {k : Nat} {e : Ent} (he : l[k]? = some e) (h : (l.take k).all (fun e => decide (e.rc.vals.length ≤ 20)) = true) (hl : e.rc.vals.length ≤ 20) : (l.take (k + 1)).all (fun e => decide (e.rc.vals.length ≤ 20)) = true := by
  rw [List.take_add_one, he, Option.toList_some, List.all_append, h]
  simp [hl]
theorem few_false {l : List Ent} {k : Nat} {e : Ent} (he : l[k]? = some e) (hl : ¬ e.rc.vals.length ≤ 20) : fewF l = false := by
  unfold fewF
  rw [show l.all (fun e => decide (e.rc.vals.length ≤ 20)) = false from by
    rw [Bool.eq_false_iff]; intro h
    rw [List.all_eq_true] at h
    exact hl (of_decide_eq_true (h e (List.mem_of_getElem? he)))]
  rfl

end Go.Proofs.Ytjcbmfopcohcmaa
