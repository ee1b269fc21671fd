/-
  No cell of these rows narrows 'for every input' (looked for: loops, veiled, ifaces, maps, wideKeys, modest, calm, conditions, laid).
  DERIVED. THE GIVEN ROWS OF THIS SEAT. 4 by the template 'for every input the law returns true; each argument reads behind the call as it read before'; 0 by the template 'total and deterministic' (their statements: YtdpamikobmefeaaGreatTotals.lean).
  GIVEN WITH THE SEED: the statements are not yours to turn. If you find one false, say at which input.
  Laid BY PROGRAM, IN A SANDBOX (cutbox-rows.mjs): the forced cells as the released guide's own fill.sh prints them over the translation 84eafc104c194907… (all of the seat's roots in one cut). By AI agents, Wed Nov 11 2026. No macro, syntax, notation, axiom, sorry.
-/
import Derived.Test.YtdpamikobmefeaaGreatChecked
import GoSem.Claim
import GoSem.ClaimJoined
import GoSem.ClaimMapViews
import Derived.JoinedTies
import Derived.KernelRfl
namespace Go.Proofs.YtdpamikobmefeaaGreat
/- THE CELL 'sum', in the pinned program and in every row, IS THE sha256 OF THE DUMP (.gsa) THAT YtdpamikobmefeaaGreatProg.lean LOADS. Nothing in Lean hashes anything: it is a label: what it is worth is what the hold of that sum in a sandbox is worth. -/
noncomputable def Tryz.pinned : Pinned := { name := "ytdpamikobmefeaagreat", sum := "84eafc104c194907cef73b4209226b35f2cc0be69f6d84b416b17a48f9417cfc", checked := Tryz.checked }
namespace Rows
def none {H : Type} : Left H := { results := [], args := [] }

/-- 'petasoslaw22.ClientRefuses': WHATEVER THE INPUT: true; the input reads as it did. -/
def clientRefusesSpec : ChangeSpec := { name := "clientRefuses", fn := fun _ => fun
  | [d] => { results := [.lit (.bool true)], args := [d] }
  | _ => none }
def clientRefusesRow : OpenClaim := { program := "ytdpamikobmefeaagreat", sum := "84eafc104c194907cef73b4209226b35f2cc0be69f6d84b416b17a48f9417cfc", func := "petasos/petasoslaw22.ClientRefuses", spec := "clientRefuses", inPlace := ["slices.overlaps[uint32]", "slices.overlaps[petasos/circle.Run]", "maps.clone"], unfollowed := true, recurses := true, plainKeys := false, apart := false }
def ClientRefusesSaid : Prop := clientRefusesRow.holds Tryz.pinned (OpenSpec.ofChange clientRefusesSpec)

/-- ITS FALSE NEIGHBOUR: 'it returns false'. Refute it at one input. -/
def clientRefusesWrong : ChangeSpec := { name := "clientRefuses", fn := fun _ => fun
  | [d] => { results := [.lit (.bool false)], args := [d] }
  | _ => none }
def ClientRefusesWrongFalsely : Prop := clientRefusesRow.holds Tryz.pinned (OpenSpec.ofChange clientRefusesWrong)

/-- 'petasoslaw22.ClientPages': WHATEVER THE INPUT: true; the input reads as it did. -/
def clientPagesSpec : ChangeSpec := { name := "clientPages", fn := fun _ => fun
  | [d1, d2] => { results := [.lit (.bool true)], args := [d1, d2] }
  | _ => none }
def clientPagesRow : OpenClaim := { program := "ytdpamikobmefeaagreat", sum := "84eafc104c194907cef73b4209226b35f2cc0be69f6d84b416b17a48f9417cfc", func := "petasos/petasoslaw22.ClientPages", spec := "clientPages", inPlace := ["slices.overlaps[uint32]", "slices.overlaps[petasos/circle.Run]"], unfollowed := true, recurses := true, plainKeys := false, apart := false }
def ClientPagesSaid : Prop := clientPagesRow.holds Tryz.pinned (OpenSpec.ofChange clientPagesSpec)

/-- ITS FALSE NEIGHBOUR: 'it returns false'. Refute it at one input. -/
def clientPagesWrong : ChangeSpec := { name := "clientPages", fn := fun _ => fun
  | [d1, d2] => { results := [.lit (.bool false)], args := [d1, d2] }
  | _ => none }
def ClientPagesWrongFalsely : Prop := clientPagesRow.holds Tryz.pinned (OpenSpec.ofChange clientPagesWrong)

/-- 'petasoslaw22.ClientWrites': WHATEVER THE INPUT: true; the input reads as it did. -/
def clientWritesSpec : ChangeSpec := { name := "clientWrites", fn := fun _ => fun
  | [d1, d2, d3, d4, d5] => { results := [.lit (.bool true)], args := [d1, d2, d3, d4, d5] }
  | _ => none }
def clientWritesRow : OpenClaim := { program := "ytdpamikobmefeaagreat", sum := "84eafc104c194907cef73b4209226b35f2cc0be69f6d84b416b17a48f9417cfc", func := "petasos/petasoslaw22.ClientWrites", spec := "clientWrites", inPlace := ["slices.overlaps[uint32]", "slices.overlaps[petasos/circle.Run]"], unfollowed := true, recurses := true, plainKeys := false, apart := false }
def ClientWritesSaid : Prop := clientWritesRow.holds Tryz.pinned (OpenSpec.ofChange clientWritesSpec)

/-- ITS FALSE NEIGHBOUR: 'it returns false'. Refute it at one input. -/
def clientWritesWrong : ChangeSpec := { name := "clientWrites", fn := fun _ => fun
  | [d1, d2, d3, d4, d5] => { results := [.lit (.bool false)], args := [d1, d2, d3, d4, d5] }
  | _ => none }
def ClientWritesWrongFalsely : Prop := clientWritesRow.holds Tryz.pinned (OpenSpec.ofChange clientWritesWrong)

/-- 'petasoslaw22.ClientQueries': WHATEVER THE INPUT: true; the input reads as it did. -/
def clientQueriesSpec : ChangeSpec := { name := "clientQueries", fn := fun _ => fun
  | [d1, d2, d3] => { results := [.lit (.bool true)], args := [d1, d2, d3] }
  | _ => none }
def clientQueriesRow : OpenClaim := { program := "ytdpamikobmefeaagreat", sum := "84eafc104c194907cef73b4209226b35f2cc0be69f6d84b416b17a48f9417cfc", func := "petasos/petasoslaw22.ClientQueries", spec := "clientQueries", inPlace := ["slices.overlaps[uint32]", "slices.overlaps[petasos/circle.Run]"], unfollowed := true, recurses := true, plainKeys := false, apart := false }
def ClientQueriesSaid : Prop := clientQueriesRow.holds Tryz.pinned (OpenSpec.ofChange clientQueriesSpec)

/-- ITS FALSE NEIGHBOUR: 'it returns false'. Refute it at one input. -/
def clientQueriesWrong : ChangeSpec := { name := "clientQueries", fn := fun _ => fun
  | [d1, d2, d3] => { results := [.lit (.bool false)], args := [d1, d2, d3] }
  | _ => none }
def ClientQueriesWrongFalsely : Prop := clientQueriesRow.holds Tryz.pinned (OpenSpec.ofChange clientQueriesWrong)

/- THE SECOND FORM. 'bulk': how many values and letters a reading holds, each counted each time it is reached (what is shared counts as often as it is met; a slice's spare places count too). A statement '..UptoSaid' is the law's where the arguments, and the package variables that the reading takes, are together of bulk at most 1048576: NARROWER than '..Said'. Prove '..Said' where nothing that the law and all that it calls make is longer than what came in: it says more and counts as full. Else prove '..UptoSaid'. A law counts once. -/
mutual
def uptoBulk {H : Type} : DataW H → Nat
  | .lit (.string bytes) => bytes.length + 1
  | .lit _ => 1
  | .nil => 1
  | .ptr d => uptoBulk d + 1
  | .slice elems spare => uptoBulkAll elems + uptoBulkAll spare + 1
  | .agg parts => uptoBulkAll parts + 1
  | .iface _ d => uptoBulk d + 1
  | .map entries => uptoBulkEntries entries + 1
  | .held _ => 1
def uptoBulkAll {H : Type} : List (DataW H) → Nat
  | [] => 0
  | d :: r => uptoBulk d + uptoBulkAll r
def uptoBulkEntries {H : Type} : List (Lit × DataW H) → Nat
  | [] => 0
  | x :: r => uptoBulkEntry x + uptoBulkEntries r
def uptoBulkEntry {H : Type} : Lit × DataW H → Nat
  | (.string bytes, d) => bytes.length + uptoBulk d + 1
  | (_, d) => uptoBulk d + 1
 end
def uptoSmall : (H : Type) → List (DataW H) → Bool := fun _ ds => decide (uptoBulkAll ds ≤ 1048576)
def OpenSpec.upto (s : _root_.Go.ChangeSpec) : _root_.Go.OpenSpec := { _root_.Go.OpenSpec.ofChange s with cond := some uptoSmall }

/-- 'petasoslaw22.ClientRefuses', WHERE WHAT IT READS IS OF BULK AT MOST 1048576: true; the input reads as it did. -/
def clientRefusesUptoRow : OpenClaim := { program := "ytdpamikobmefeaagreat", sum := "84eafc104c194907cef73b4209226b35f2cc0be69f6d84b416b17a48f9417cfc", func := "petasos/petasoslaw22.ClientRefuses", spec := "clientRefuses", inPlace := ["slices.overlaps[uint32]", "slices.overlaps[petasos/circle.Run]", "maps.clone"], unfollowed := true, recurses := true, plainKeys := false, apart := false, narrowed := true }
def ClientRefusesUptoSaid : Prop := clientRefusesUptoRow.holds Tryz.pinned (OpenSpec.upto clientRefusesSpec)

/-- 'petasoslaw22.ClientPages', WHERE WHAT IT READS IS OF BULK AT MOST 1048576: true; the input reads as it did. -/
def clientPagesUptoRow : OpenClaim := { program := "ytdpamikobmefeaagreat", sum := "84eafc104c194907cef73b4209226b35f2cc0be69f6d84b416b17a48f9417cfc", func := "petasos/petasoslaw22.ClientPages", spec := "clientPages", inPlace := ["slices.overlaps[uint32]", "slices.overlaps[petasos/circle.Run]"], unfollowed := true, recurses := true, plainKeys := false, apart := false, narrowed := true }
def ClientPagesUptoSaid : Prop := clientPagesUptoRow.holds Tryz.pinned (OpenSpec.upto clientPagesSpec)

/-- 'petasoslaw22.ClientWrites', WHERE WHAT IT READS IS OF BULK AT MOST 1048576: true; the input reads as it did. -/
def clientWritesUptoRow : OpenClaim := { program := "ytdpamikobmefeaagreat", sum := "84eafc104c194907cef73b4209226b35f2cc0be69f6d84b416b17a48f9417cfc", func := "petasos/petasoslaw22.ClientWrites", spec := "clientWrites", inPlace := ["slices.overlaps[uint32]", "slices.overlaps[petasos/circle.Run]"], unfollowed := true, recurses := true, plainKeys := false, apart := false, narrowed := true }
def ClientWritesUptoSaid : Prop := clientWritesUptoRow.holds Tryz.pinned (OpenSpec.upto clientWritesSpec)

/-- 'petasoslaw22.ClientQueries', WHERE WHAT IT READS IS OF BULK AT MOST 1048576: true; the input reads as it did. -/
def clientQueriesUptoRow : OpenClaim := { program := "ytdpamikobmefeaagreat", sum := "84eafc104c194907cef73b4209226b35f2cc0be69f6d84b416b17a48f9417cfc", func := "petasos/petasoslaw22.ClientQueries", spec := "clientQueries", inPlace := ["slices.overlaps[uint32]", "slices.overlaps[petasos/circle.Run]"], unfollowed := true, recurses := true, plainKeys := false, apart := false, narrowed := true }
def ClientQueriesUptoSaid : Prop := clientQueriesUptoRow.holds Tryz.pinned (OpenSpec.upto clientQueriesSpec)

end Rows
end Go.Proofs.YtdpamikobmefeaaGreat
