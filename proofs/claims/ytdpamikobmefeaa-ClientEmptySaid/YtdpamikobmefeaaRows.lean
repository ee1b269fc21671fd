/-
  No cell of these rows narrows 'for every input' (looked for: loops, veiled, ifaces, maps, wideKeys, modest, calm, conditions, laid).
  DERIVED. THE GIVEN ROWS OF THIS SEAT. 7 by the template 'for every input the law returns true; each argument reads behind the call as it read before'; 0 by the template 'total and deterministic' (their statements: YtdpamikobmefeaaTotals.lean).
  GIVEN WITH THE SEED: the statements are not yours to turn. If you find one false, say at which input.
  Laid BY PROGRAM, IN A SANDBOX (cutbox-rows.mjs): the forced cells as the released guide's own fill.sh prints them over the translation 47002e3b71cf5fe6… (all of the seat's roots in one cut). By AI agents, Wed Nov 11 2026. No macro, syntax, notation, axiom, sorry.
-/
import Derived.Test.YtdpamikobmefeaaChecked
import GoSem.Claim
import GoSem.ClaimJoined
import GoSem.ClaimMapViews
import Derived.JoinedTies
import Derived.KernelRfl
namespace Go.Proofs.Ytdpamikobmefeaa
/- THE CELL 'sum', in the pinned program and in every row, IS THE sha256 OF THE DUMP (.gsa) THAT YtdpamikobmefeaaProg.lean LOADS. Nothing in Lean hashes anything: it is a label: what it is worth is what the hold of that sum in a sandbox is worth. -/
noncomputable def Try.pinned : Pinned := { name := "ytdpamikobmefeaa", sum := "47002e3b71cf5fe6e0aafb9ca63266936ff0439519c4867d90c8352ba0db9b7b", checked := Try.checked }
namespace Rows
def none {H : Type} : Left H := { results := [], args := [] }

/-- 'petasoslaw18.GatherPlays': WHATEVER THE INPUT: true; the input reads as it did. -/
def gatherPlaysSpec : ChangeSpec := { name := "gatherPlays", fn := fun _ => fun
  | [d1, d2, d3, d4, d5, d6] => { results := [.lit (.bool true)], args := [d1, d2, d3, d4, d5, d6] }
  | _ => none }
def gatherPlaysRow : OpenClaim := { program := "ytdpamikobmefeaa", sum := "47002e3b71cf5fe6e0aafb9ca63266936ff0439519c4867d90c8352ba0db9b7b", func := "petasos/petasoslaw18.GatherPlays", spec := "gatherPlays", inPlace := ["maps.clone"], unfollowed := true, recurses := true, plainKeys := false, apart := false }
def GatherPlaysSaid : Prop := gatherPlaysRow.holds Try.pinned (OpenSpec.ofChange gatherPlaysSpec)

/-- ITS FALSE NEIGHBOUR: 'it returns false'. Refute it at one input. -/
def gatherPlaysWrong : ChangeSpec := { name := "gatherPlays", fn := fun _ => fun
  | [d1, d2, d3, d4, d5, d6] => { results := [.lit (.bool false)], args := [d1, d2, d3, d4, d5, d6] }
  | _ => none }
def GatherPlaysWrongFalsely : Prop := gatherPlaysRow.holds Try.pinned (OpenSpec.ofChange gatherPlaysWrong)

/-- 'petasoslaw18.GatherNil': WHATEVER THE INPUT: true; the input reads as it did. -/
def gatherNilSpec : ChangeSpec := { name := "gatherNil", fn := fun _ => fun
  | [d1, d2] => { results := [.lit (.bool true)], args := [d1, d2] }
  | _ => none }
def gatherNilRow : OpenClaim := { program := "ytdpamikobmefeaa", sum := "47002e3b71cf5fe6e0aafb9ca63266936ff0439519c4867d90c8352ba0db9b7b", func := "petasos/petasoslaw18.GatherNil", spec := "gatherNil", inPlace := ["maps.clone"], unfollowed := true, recurses := true, plainKeys := false, apart := false }
def GatherNilSaid : Prop := gatherNilRow.holds Try.pinned (OpenSpec.ofChange gatherNilSpec)

/-- ITS FALSE NEIGHBOUR: 'it returns false'. Refute it at one input. -/
def gatherNilWrong : ChangeSpec := { name := "gatherNil", fn := fun _ => fun
  | [d1, d2] => { results := [.lit (.bool false)], args := [d1, d2] }
  | _ => none }
def GatherNilWrongFalsely : Prop := gatherNilRow.holds Try.pinned (OpenSpec.ofChange gatherNilWrong)

/-- 'petasoslaw24.ModelFinds': WHATEVER THE INPUT: true; the input reads as it did. -/
def modelFindsSpec : ChangeSpec := { name := "modelFinds", fn := fun _ => fun
  | [d1, d2] => { results := [.lit (.bool true)], args := [d1, d2] }
  | _ => none }
def modelFindsRow : OpenClaim := { program := "ytdpamikobmefeaa", sum := "47002e3b71cf5fe6e0aafb9ca63266936ff0439519c4867d90c8352ba0db9b7b", func := "petasos/petasoslaw24.ModelFinds", spec := "modelFinds", unfollowed := true, recurses := true, plainKeys := false, apart := false }
def ModelFindsSaid : Prop := modelFindsRow.holds Try.pinned (OpenSpec.ofChange modelFindsSpec)

/-- ITS FALSE NEIGHBOUR: 'it returns false'. Refute it at one input. -/
def modelFindsWrong : ChangeSpec := { name := "modelFinds", fn := fun _ => fun
  | [d1, d2] => { results := [.lit (.bool false)], args := [d1, d2] }
  | _ => none }
def ModelFindsWrongFalsely : Prop := modelFindsRow.holds Try.pinned (OpenSpec.ofChange modelFindsWrong)

/-- 'petasoslaw24.ModelPlays': WHATEVER THE INPUT: true; the input reads as it did. -/
def modelPlaysSpec : ChangeSpec := { name := "modelPlays", fn := fun _ => fun
  | [d1, d2, d3, d4] => { results := [.lit (.bool true)], args := [d1, d2, d3, d4] }
  | _ => none }
def modelPlaysRow : OpenClaim := { program := "ytdpamikobmefeaa", sum := "47002e3b71cf5fe6e0aafb9ca63266936ff0439519c4867d90c8352ba0db9b7b", func := "petasos/petasoslaw24.ModelPlays", spec := "modelPlays", unfollowed := true, recurses := true, plainKeys := false, apart := false }
def ModelPlaysSaid : Prop := modelPlaysRow.holds Try.pinned (OpenSpec.ofChange modelPlaysSpec)

/-- ITS FALSE NEIGHBOUR: 'it returns false'. Refute it at one input. -/
def modelPlaysWrong : ChangeSpec := { name := "modelPlays", fn := fun _ => fun
  | [d1, d2, d3, d4] => { results := [.lit (.bool false)], args := [d1, d2, d3, d4] }
  | _ => none }
def ModelPlaysWrongFalsely : Prop := modelPlaysRow.holds Try.pinned (OpenSpec.ofChange modelPlaysWrong)

/-- 'petasoslaw24.ModelAll': WHATEVER THE INPUT: true; the input reads as it did. -/
def modelAllSpec : ChangeSpec := { name := "modelAll", fn := fun _ => fun
  | [d1, d2] => { results := [.lit (.bool true)], args := [d1, d2] }
  | _ => none }
def modelAllRow : OpenClaim := { program := "ytdpamikobmefeaa", sum := "47002e3b71cf5fe6e0aafb9ca63266936ff0439519c4867d90c8352ba0db9b7b", func := "petasos/petasoslaw24.ModelAll", spec := "modelAll", unfollowed := true, recurses := true, plainKeys := false, apart := false }
def ModelAllSaid : Prop := modelAllRow.holds Try.pinned (OpenSpec.ofChange modelAllSpec)

/-- ITS FALSE NEIGHBOUR: 'it returns false'. Refute it at one input. -/
def modelAllWrong : ChangeSpec := { name := "modelAll", fn := fun _ => fun
  | [d1, d2] => { results := [.lit (.bool false)], args := [d1, d2] }
  | _ => none }
def ModelAllWrongFalsely : Prop := modelAllRow.holds Try.pinned (OpenSpec.ofChange modelAllWrong)

/-- 'petasoslaw22.ClientGiven': WHATEVER THE INPUT: true; the input reads as it did. -/
def clientGivenSpec : ChangeSpec := { name := "clientGiven", fn := fun _ => fun
  | [d1, d2, d3] => { results := [.lit (.bool true)], args := [d1, d2, d3] }
  | _ => none }
def clientGivenRow : OpenClaim := { program := "ytdpamikobmefeaa", sum := "47002e3b71cf5fe6e0aafb9ca63266936ff0439519c4867d90c8352ba0db9b7b", func := "petasos/petasoslaw22.ClientGiven", spec := "clientGiven", inPlace := ["slices.overlaps[uint32]"], unfollowed := true, recurses := true, plainKeys := false, apart := false }
def ClientGivenSaid : Prop := clientGivenRow.holds Try.pinned (OpenSpec.ofChange clientGivenSpec)

/-- ITS FALSE NEIGHBOUR: 'it returns false'. Refute it at one input. -/
def clientGivenWrong : ChangeSpec := { name := "clientGiven", fn := fun _ => fun
  | [d1, d2, d3] => { results := [.lit (.bool false)], args := [d1, d2, d3] }
  | _ => none }
def ClientGivenWrongFalsely : Prop := clientGivenRow.holds Try.pinned (OpenSpec.ofChange clientGivenWrong)

/-- 'petasoslaw22.ClientEmpty': WHATEVER THE INPUT: true; the input reads as it did. -/
def clientEmptySpec : ChangeSpec := { name := "clientEmpty", fn := fun _ => fun
  | [d1, d2, d3] => { results := [.lit (.bool true)], args := [d1, d2, d3] }
  | _ => none }
def clientEmptyRow : OpenClaim := { program := "ytdpamikobmefeaa", sum := "47002e3b71cf5fe6e0aafb9ca63266936ff0439519c4867d90c8352ba0db9b7b", func := "petasos/petasoslaw22.ClientEmpty", spec := "clientEmpty", inPlace := ["slices.overlaps[uint32]"], unfollowed := true, recurses := true, plainKeys := false, apart := false }
def ClientEmptySaid : Prop := clientEmptyRow.holds Try.pinned (OpenSpec.ofChange clientEmptySpec)

/-- ITS FALSE NEIGHBOUR: 'it returns false'. Refute it at one input. -/
def clientEmptyWrong : ChangeSpec := { name := "clientEmpty", fn := fun _ => fun
  | [d1, d2, d3] => { results := [.lit (.bool false)], args := [d1, d2, d3] }
  | _ => none }
def ClientEmptyWrongFalsely : Prop := clientEmptyRow.holds Try.pinned (OpenSpec.ofChange clientEmptyWrong)

/- THE SECOND FORM. 'bulk': how many values and letters a reading holds, each counted each time it is reached (what is shared counts as often as it is met; a slice's spare places count too). A statement '..UptoSaid' is the law's where the arguments, and the package variables that the reading takes, are together of bulk at most 1048576: NARROWER than '..Said'. Prove '..Said' where nothing that the law and all that it calls make is longer than what came in: it says more and counts as full. Else prove '..UptoSaid'. A law counts once. -/
mutual
def uptoBulk {H : Type} : DataW H → Nat
  | .lit (.string bytes) => bytes.length + 1
  | .lit _ => 1
  | .nil => 1
  | .ptr d => uptoBulk d + 1
  | .slice elems spare => uptoBulkAll elems + uptoBulkAll spare + 1
  | .agg parts => uptoBulkAll parts + 1
  | .iface _ d => uptoBulk d + 1
  | .map entries => uptoBulkEntries entries + 1
  | .held _ => 1
def uptoBulkAll {H : Type} : List (DataW H) → Nat
  | [] => 0
  | d :: r => uptoBulk d + uptoBulkAll r
def uptoBulkEntries {H : Type} : List (Lit × DataW H) → Nat
  | [] => 0
  | x :: r => uptoBulkEntry x + uptoBulkEntries r
def uptoBulkEntry {H : Type} : Lit × DataW H → Nat
  | (.string bytes, d) => bytes.length + uptoBulk d + 1
  | (_, d) => uptoBulk d + 1
 end
def uptoSmall : (H : Type) → List (DataW H) → Bool := fun _ ds => decide (uptoBulkAll ds ≤ 1048576)
def OpenSpec.upto (s : _root_.Go.ChangeSpec) : _root_.Go.OpenSpec := { _root_.Go.OpenSpec.ofChange s with cond := some uptoSmall }

/-- 'petasoslaw18.GatherPlays', WHERE WHAT IT READS IS OF BULK AT MOST 1048576: true; the input reads as it did. -/
def gatherPlaysUptoRow : OpenClaim := { program := "ytdpamikobmefeaa", sum := "47002e3b71cf5fe6e0aafb9ca63266936ff0439519c4867d90c8352ba0db9b7b", func := "petasos/petasoslaw18.GatherPlays", spec := "gatherPlays", inPlace := ["maps.clone"], unfollowed := true, recurses := true, plainKeys := false, apart := false, narrowed := true }
def GatherPlaysUptoSaid : Prop := gatherPlaysUptoRow.holds Try.pinned (OpenSpec.upto gatherPlaysSpec)

/-- 'petasoslaw18.GatherNil', WHERE WHAT IT READS IS OF BULK AT MOST 1048576: true; the input reads as it did. -/
def gatherNilUptoRow : OpenClaim := { program := "ytdpamikobmefeaa", sum := "47002e3b71cf5fe6e0aafb9ca63266936ff0439519c4867d90c8352ba0db9b7b", func := "petasos/petasoslaw18.GatherNil", spec := "gatherNil", inPlace := ["maps.clone"], unfollowed := true, recurses := true, plainKeys := false, apart := false, narrowed := true }
def GatherNilUptoSaid : Prop := gatherNilUptoRow.holds Try.pinned (OpenSpec.upto gatherNilSpec)

/-- 'petasoslaw24.ModelFinds', WHERE WHAT IT READS IS OF BULK AT MOST 1048576: true; the input reads as it did. -/
def modelFindsUptoRow : OpenClaim := { program := "ytdpamikobmefeaa", sum := "47002e3b71cf5fe6e0aafb9ca63266936ff0439519c4867d90c8352ba0db9b7b", func := "petasos/petasoslaw24.ModelFinds", spec := "modelFinds", unfollowed := true, recurses := true, plainKeys := false, apart := false, narrowed := true }
def ModelFindsUptoSaid : Prop := modelFindsUptoRow.holds Try.pinned (OpenSpec.upto modelFindsSpec)

/-- 'petasoslaw24.ModelPlays', WHERE WHAT IT READS IS OF BULK AT MOST 1048576: true; the input reads as it did. -/
def modelPlaysUptoRow : OpenClaim := { program := "ytdpamikobmefeaa", sum := "47002e3b71cf5fe6e0aafb9ca63266936ff0439519c4867d90c8352ba0db9b7b", func := "petasos/petasoslaw24.ModelPlays", spec := "modelPlays", unfollowed := true, recurses := true, plainKeys := false, apart := false, narrowed := true }
def ModelPlaysUptoSaid : Prop := modelPlaysUptoRow.holds Try.pinned (OpenSpec.upto modelPlaysSpec)

/-- 'petasoslaw24.ModelAll', WHERE WHAT IT READS IS OF BULK AT MOST 1048576: true; the input reads as it did. -/
def modelAllUptoRow : OpenClaim := { program := "ytdpamikobmefeaa", sum := "47002e3b71cf5fe6e0aafb9ca63266936ff0439519c4867d90c8352ba0db9b7b", func := "petasos/petasoslaw24.ModelAll", spec := "modelAll", unfollowed := true, recurses := true, plainKeys := false, apart := false, narrowed := true }
def ModelAllUptoSaid : Prop := modelAllUptoRow.holds Try.pinned (OpenSpec.upto modelAllSpec)

/-- 'petasoslaw22.ClientGiven', WHERE WHAT IT READS IS OF BULK AT MOST 1048576: true; the input reads as it did. -/
def clientGivenUptoRow : OpenClaim := { program := "ytdpamikobmefeaa", sum := "47002e3b71cf5fe6e0aafb9ca63266936ff0439519c4867d90c8352ba0db9b7b", func := "petasos/petasoslaw22.ClientGiven", spec := "clientGiven", inPlace := ["slices.overlaps[uint32]"], unfollowed := true, recurses := true, plainKeys := false, apart := false, narrowed := true }
def ClientGivenUptoSaid : Prop := clientGivenUptoRow.holds Try.pinned (OpenSpec.upto clientGivenSpec)

/-- 'petasoslaw22.ClientEmpty', WHERE WHAT IT READS IS OF BULK AT MOST 1048576: true; the input reads as it did. -/
def clientEmptyUptoRow : OpenClaim := { program := "ytdpamikobmefeaa", sum := "47002e3b71cf5fe6e0aafb9ca63266936ff0439519c4867d90c8352ba0db9b7b", func := "petasos/petasoslaw22.ClientEmpty", spec := "clientEmpty", inPlace := ["slices.overlaps[uint32]"], unfollowed := true, recurses := true, plainKeys := false, apart := false, narrowed := true }
def ClientEmptyUptoSaid : Prop := clientEmptyUptoRow.holds Try.pinned (OpenSpec.upto clientEmptySpec)

end Rows
end Go.Proofs.Ytdpamikobmefeaa
