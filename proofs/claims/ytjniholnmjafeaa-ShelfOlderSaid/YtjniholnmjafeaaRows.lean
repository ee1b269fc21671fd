/-
  No cell of these rows narrows 'for every input' (looked for: loops, veiled, ifaces, maps, wideKeys, modest, calm, conditions, laid).
  DERIVED. THE GIVEN ROWS OF THIS SEAT. 14 by the template 'for every input the law returns true; each argument reads behind the call as it read before'; 0 by the template 'total and deterministic' (their statements: YtjniholnmjafeaaTotals.lean).
  GIVEN WITH THE SEED: the statements are not yours to turn. If you find one false, say at which input.
  Laid BY PROGRAM, IN A SANDBOX (cutbox-rows.mjs): the forced cells as the released guide's own fill.sh prints them over the translation d2bb63d6f1b7b985… (all of the seat's roots in one cut). By AI agents, Wed Nov 11 2026. No macro, syntax, notation, axiom, sorry.
-/
import Derived.Test.YtjniholnmjafeaaChecked
import GoSem.Claim
import GoSem.ClaimJoined
import GoSem.ClaimMapViews
import Derived.JoinedTies
import Derived.KernelRfl
namespace Go.Proofs.Ytjniholnmjafeaa
/- THE CELL 'sum', in the pinned program and in every row, IS THE sha256 OF THE DUMP (.gsa) THAT YtjniholnmjafeaaProg.lean LOADS. Nothing in Lean hashes anything: it is a label: what it is worth is what the hold of that sum in a sandbox is worth. -/
noncomputable def Try.pinned : Pinned := { name := "ytjniholnmjafeaa", sum := "d2bb63d6f1b7b9852c2e29accd1d0828c78e9ab196f3487faa5b3d60891d60da", checked := Try.checked }
namespace Rows
def none {H : Type} : Left H := { results := [], args := [] }

/-- 'petasoslaw04.RecordOwn': WHATEVER THE INPUT: true; the input reads as it did. -/
def recordOwnSpec : ChangeSpec := { name := "recordOwn", fn := fun _ => fun
  | [d1, d2, d3, d4] => { results := [.lit (.bool true)], args := [d1, d2, d3, d4] }
  | _ => none }
def recordOwnRow : OpenClaim := { program := "ytjniholnmjafeaa", sum := "d2bb63d6f1b7b9852c2e29accd1d0828c78e9ab196f3487faa5b3d60891d60da", func := "petasos/petasoslaw04.RecordOwn", spec := "recordOwn", plainKeys := false, apart := false }
def RecordOwnSaid : Prop := recordOwnRow.holds Try.pinned (OpenSpec.ofChange recordOwnSpec)

/-- ITS FALSE NEIGHBOUR: 'it returns false'. Refute it at one input. -/
def recordOwnWrong : ChangeSpec := { name := "recordOwn", fn := fun _ => fun
  | [d1, d2, d3, d4] => { results := [.lit (.bool false)], args := [d1, d2, d3, d4] }
  | _ => none }
def RecordOwnWrongFalsely : Prop := recordOwnRow.holds Try.pinned (OpenSpec.ofChange recordOwnWrong)

/-- 'petasoslaw04.RecordNewer': WHATEVER THE INPUT: true; the input reads as it did. -/
def recordNewerSpec : ChangeSpec := { name := "recordNewer", fn := fun _ => fun
  | [d1, d2, d3] => { results := [.lit (.bool true)], args := [d1, d2, d3] }
  | _ => none }
def recordNewerRow : OpenClaim := { program := "ytjniholnmjafeaa", sum := "d2bb63d6f1b7b9852c2e29accd1d0828c78e9ab196f3487faa5b3d60891d60da", func := "petasos/petasoslaw04.RecordNewer", spec := "recordNewer", plainKeys := false, apart := false }
def RecordNewerSaid : Prop := recordNewerRow.holds Try.pinned (OpenSpec.ofChange recordNewerSpec)

/-- ITS FALSE NEIGHBOUR: 'it returns false'. Refute it at one input. -/
def recordNewerWrong : ChangeSpec := { name := "recordNewer", fn := fun _ => fun
  | [d1, d2, d3] => { results := [.lit (.bool false)], args := [d1, d2, d3] }
  | _ => none }
def RecordNewerWrongFalsely : Prop := recordNewerRow.holds Try.pinned (OpenSpec.ofChange recordNewerWrong)

/-- 'petasoslaw12.LinksFar': WHATEVER THE INPUT: true; the input reads as it did. -/
def linksFarSpec : ChangeSpec := { name := "linksFar", fn := fun _ => fun
  | [d] => { results := [.lit (.bool true)], args := [d] }
  | _ => none }
def linksFarRow : OpenClaim := { program := "ytjniholnmjafeaa", sum := "d2bb63d6f1b7b9852c2e29accd1d0828c78e9ab196f3487faa5b3d60891d60da", func := "petasos/petasoslaw12.LinksFar", spec := "linksFar", plainKeys := false, apart := false }
def LinksFarSaid : Prop := linksFarRow.holds Try.pinned (OpenSpec.ofChange linksFarSpec)

/-- ITS FALSE NEIGHBOUR: 'it returns false'. Refute it at one input. -/
def linksFarWrong : ChangeSpec := { name := "linksFar", fn := fun _ => fun
  | [d] => { results := [.lit (.bool false)], args := [d] }
  | _ => none }
def LinksFarWrongFalsely : Prop := linksFarRow.holds Try.pinned (OpenSpec.ofChange linksFarWrong)

/-- 'petasoslaw04.RecordWrong': WHATEVER THE INPUT: true; the input reads as it did. -/
def recordWrongSpec : ChangeSpec := { name := "recordWrong", fn := fun _ => fun
  | [d1, d2] => { results := [.lit (.bool true)], args := [d1, d2] }
  | _ => none }
def recordWrongRow : OpenClaim := { program := "ytjniholnmjafeaa", sum := "d2bb63d6f1b7b9852c2e29accd1d0828c78e9ab196f3487faa5b3d60891d60da", func := "petasos/petasoslaw04.RecordWrong", spec := "recordWrong", plainKeys := false, apart := false }
def RecordWrongSaid : Prop := recordWrongRow.holds Try.pinned (OpenSpec.ofChange recordWrongSpec)

/-- ITS FALSE NEIGHBOUR: 'it returns false'. Refute it at one input. -/
def recordWrongWrong : ChangeSpec := { name := "recordWrong", fn := fun _ => fun
  | [d1, d2] => { results := [.lit (.bool false)], args := [d1, d2] }
  | _ => none }
def RecordWrongWrongFalsely : Prop := recordWrongRow.holds Try.pinned (OpenSpec.ofChange recordWrongWrong)

/-- 'petasoslaw04.RecordTells': WHATEVER THE INPUT: true; the input reads as it did. -/
def recordTellsSpec : ChangeSpec := { name := "recordTells", fn := fun _ => fun
  | [d1, d2, d3, d4, d5] => { results := [.lit (.bool true)], args := [d1, d2, d3, d4, d5] }
  | _ => none }
def recordTellsRow : OpenClaim := { program := "ytjniholnmjafeaa", sum := "d2bb63d6f1b7b9852c2e29accd1d0828c78e9ab196f3487faa5b3d60891d60da", func := "petasos/petasoslaw04.RecordTells", spec := "recordTells", unfollowed := true, recurses := true, plainKeys := false, apart := false }
def RecordTellsSaid : Prop := recordTellsRow.holds Try.pinned (OpenSpec.ofChange recordTellsSpec)

/-- ITS FALSE NEIGHBOUR: 'it returns false'. Refute it at one input. -/
def recordTellsWrong : ChangeSpec := { name := "recordTells", fn := fun _ => fun
  | [d1, d2, d3, d4, d5] => { results := [.lit (.bool false)], args := [d1, d2, d3, d4, d5] }
  | _ => none }
def RecordTellsWrongFalsely : Prop := recordTellsRow.holds Try.pinned (OpenSpec.ofChange recordTellsWrong)

/-- 'petasoslaw08.PoolOwn': WHATEVER THE INPUT: true; the input reads as it did. -/
def poolOwnSpec : ChangeSpec := { name := "poolOwn", fn := fun _ => fun
  | [d] => { results := [.lit (.bool true)], args := [d] }
  | _ => none }
def poolOwnRow : OpenClaim := { program := "ytjniholnmjafeaa", sum := "d2bb63d6f1b7b9852c2e29accd1d0828c78e9ab196f3487faa5b3d60891d60da", func := "petasos/petasoslaw08.PoolOwn", spec := "poolOwn", plainKeys := false, apart := false }
def PoolOwnSaid : Prop := poolOwnRow.holds Try.pinned (OpenSpec.ofChange poolOwnSpec)

/-- ITS FALSE NEIGHBOUR: 'it returns false'. Refute it at one input. -/
def poolOwnWrong : ChangeSpec := { name := "poolOwn", fn := fun _ => fun
  | [d] => { results := [.lit (.bool false)], args := [d] }
  | _ => none }
def PoolOwnWrongFalsely : Prop := poolOwnRow.holds Try.pinned (OpenSpec.ofChange poolOwnWrong)

/-- 'petasoslaw08.PoolOrder': WHATEVER THE INPUT: true; the input reads as it did. -/
def poolOrderSpec : ChangeSpec := { name := "poolOrder", fn := fun _ => fun
  | [d1, d2] => { results := [.lit (.bool true)], args := [d1, d2] }
  | _ => none }
def poolOrderRow : OpenClaim := { program := "ytjniholnmjafeaa", sum := "d2bb63d6f1b7b9852c2e29accd1d0828c78e9ab196f3487faa5b3d60891d60da", func := "petasos/petasoslaw08.PoolOrder", spec := "poolOrder", plainKeys := false, apart := false }
def PoolOrderSaid : Prop := poolOrderRow.holds Try.pinned (OpenSpec.ofChange poolOrderSpec)

/-- ITS FALSE NEIGHBOUR: 'it returns false'. Refute it at one input. -/
def poolOrderWrong : ChangeSpec := { name := "poolOrder", fn := fun _ => fun
  | [d1, d2] => { results := [.lit (.bool false)], args := [d1, d2] }
  | _ => none }
def PoolOrderWrongFalsely : Prop := poolOrderRow.holds Try.pinned (OpenSpec.ofChange poolOrderWrong)

/-- 'petasoslaw09.ShelfOlder': WHATEVER THE INPUT: true; the input reads as it did. -/
def shelfOlderSpec : ChangeSpec := { name := "shelfOlder", fn := fun _ => fun
  | [d1, d2] => { results := [.lit (.bool true)], args := [d1, d2] }
  | _ => none }
def shelfOlderRow : OpenClaim := { program := "ytjniholnmjafeaa", sum := "d2bb63d6f1b7b9852c2e29accd1d0828c78e9ab196f3487faa5b3d60891d60da", func := "petasos/petasoslaw09.ShelfOlder", spec := "shelfOlder", unfollowed := true, recurses := true, plainKeys := false, apart := false }
def ShelfOlderSaid : Prop := shelfOlderRow.holds Try.pinned (OpenSpec.ofChange shelfOlderSpec)

/-- ITS FALSE NEIGHBOUR: 'it returns false'. Refute it at one input. -/
def shelfOlderWrong : ChangeSpec := { name := "shelfOlder", fn := fun _ => fun
  | [d1, d2] => { results := [.lit (.bool false)], args := [d1, d2] }
  | _ => none }
def ShelfOlderWrongFalsely : Prop := shelfOlderRow.holds Try.pinned (OpenSpec.ofChange shelfOlderWrong)

/-- 'petasoslaw17.BalanceTells': WHATEVER THE INPUT: true; the input reads as it did. -/
def balanceTellsSpec : ChangeSpec := { name := "balanceTells", fn := fun _ => fun
  | [d1, d2] => { results := [.lit (.bool true)], args := [d1, d2] }
  | _ => none }
def balanceTellsRow : OpenClaim := { program := "ytjniholnmjafeaa", sum := "d2bb63d6f1b7b9852c2e29accd1d0828c78e9ab196f3487faa5b3d60891d60da", func := "petasos/petasoslaw17.BalanceTells", spec := "balanceTells", unfollowed := true, recurses := true, plainKeys := false, apart := false }
def BalanceTellsSaid : Prop := balanceTellsRow.holds Try.pinned (OpenSpec.ofChange balanceTellsSpec)

/-- ITS FALSE NEIGHBOUR: 'it returns false'. Refute it at one input. -/
def balanceTellsWrong : ChangeSpec := { name := "balanceTells", fn := fun _ => fun
  | [d1, d2] => { results := [.lit (.bool false)], args := [d1, d2] }
  | _ => none }
def BalanceTellsWrongFalsely : Prop := balanceTellsRow.holds Try.pinned (OpenSpec.ofChange balanceTellsWrong)

/-- 'petasoslaw17.BalanceHalf': WHATEVER THE INPUT: true; the input reads as it did. -/
def balanceHalfSpec : ChangeSpec := { name := "balanceHalf", fn := fun _ => fun
  | [d1, d2, d3] => { results := [.lit (.bool true)], args := [d1, d2, d3] }
  | _ => none }
def balanceHalfRow : OpenClaim := { program := "ytjniholnmjafeaa", sum := "d2bb63d6f1b7b9852c2e29accd1d0828c78e9ab196f3487faa5b3d60891d60da", func := "petasos/petasoslaw17.BalanceHalf", spec := "balanceHalf", unfollowed := true, recurses := true, plainKeys := false, apart := false }
def BalanceHalfSaid : Prop := balanceHalfRow.holds Try.pinned (OpenSpec.ofChange balanceHalfSpec)

/-- ITS FALSE NEIGHBOUR: 'it returns false'. Refute it at one input. -/
def balanceHalfWrong : ChangeSpec := { name := "balanceHalf", fn := fun _ => fun
  | [d1, d2, d3] => { results := [.lit (.bool false)], args := [d1, d2, d3] }
  | _ => none }
def BalanceHalfWrongFalsely : Prop := balanceHalfRow.holds Try.pinned (OpenSpec.ofChange balanceHalfWrong)

/-- 'petasoslaw17.BalanceMiddle': WHATEVER THE INPUT: true; the input reads as it did. -/
def balanceMiddleSpec : ChangeSpec := { name := "balanceMiddle", fn := fun _ => fun
  | [d1, d2] => { results := [.lit (.bool true)], args := [d1, d2] }
  | _ => none }
def balanceMiddleRow : OpenClaim := { program := "ytjniholnmjafeaa", sum := "d2bb63d6f1b7b9852c2e29accd1d0828c78e9ab196f3487faa5b3d60891d60da", func := "petasos/petasoslaw17.BalanceMiddle", spec := "balanceMiddle", unfollowed := true, recurses := true, plainKeys := false, apart := false }
def BalanceMiddleSaid : Prop := balanceMiddleRow.holds Try.pinned (OpenSpec.ofChange balanceMiddleSpec)

/-- ITS FALSE NEIGHBOUR: 'it returns false'. Refute it at one input. -/
def balanceMiddleWrong : ChangeSpec := { name := "balanceMiddle", fn := fun _ => fun
  | [d1, d2] => { results := [.lit (.bool false)], args := [d1, d2] }
  | _ => none }
def BalanceMiddleWrongFalsely : Prop := balanceMiddleRow.holds Try.pinned (OpenSpec.ofChange balanceMiddleWrong)

/-- 'petasoslaw17.BalanceRefuses': WHATEVER THE INPUT: true; the input reads as it did. -/
def balanceRefusesSpec : ChangeSpec := { name := "balanceRefuses", fn := fun _ => fun
  | [d1, d2, d3] => { results := [.lit (.bool true)], args := [d1, d2, d3] }
  | _ => none }
def balanceRefusesRow : OpenClaim := { program := "ytjniholnmjafeaa", sum := "d2bb63d6f1b7b9852c2e29accd1d0828c78e9ab196f3487faa5b3d60891d60da", func := "petasos/petasoslaw17.BalanceRefuses", spec := "balanceRefuses", unfollowed := true, recurses := true, plainKeys := false, apart := false }
def BalanceRefusesSaid : Prop := balanceRefusesRow.holds Try.pinned (OpenSpec.ofChange balanceRefusesSpec)

/-- ITS FALSE NEIGHBOUR: 'it returns false'. Refute it at one input. -/
def balanceRefusesWrong : ChangeSpec := { name := "balanceRefuses", fn := fun _ => fun
  | [d1, d2, d3] => { results := [.lit (.bool false)], args := [d1, d2, d3] }
  | _ => none }
def BalanceRefusesWrongFalsely : Prop := balanceRefusesRow.holds Try.pinned (OpenSpec.ofChange balanceRefusesWrong)

/-- 'petasoslaw08.PoolPlays': WHATEVER THE INPUT: true; the input reads as it did. -/
def poolPlaysSpec : ChangeSpec := { name := "poolPlays", fn := fun _ => fun
  | [d] => { results := [.lit (.bool true)], args := [d] }
  | _ => none }
def poolPlaysRow : OpenClaim := { program := "ytjniholnmjafeaa", sum := "d2bb63d6f1b7b9852c2e29accd1d0828c78e9ab196f3487faa5b3d60891d60da", func := "petasos/petasoslaw08.PoolPlays", spec := "poolPlays", unfollowed := true, recurses := true, plainKeys := false, apart := false }
def PoolPlaysSaid : Prop := poolPlaysRow.holds Try.pinned (OpenSpec.ofChange poolPlaysSpec)

/-- ITS FALSE NEIGHBOUR: 'it returns false'. Refute it at one input. -/
def poolPlaysWrong : ChangeSpec := { name := "poolPlays", fn := fun _ => fun
  | [d] => { results := [.lit (.bool false)], args := [d] }
  | _ => none }
def PoolPlaysWrongFalsely : Prop := poolPlaysRow.holds Try.pinned (OpenSpec.ofChange poolPlaysWrong)

/-- 'petasoslaw08.PoolFull': WHATEVER THE INPUT: true; the input reads as it did. -/
def poolFullSpec : ChangeSpec := { name := "poolFull", fn := fun _ => fun
  | [d] => { results := [.lit (.bool true)], args := [d] }
  | _ => none }
def poolFullRow : OpenClaim := { program := "ytjniholnmjafeaa", sum := "d2bb63d6f1b7b9852c2e29accd1d0828c78e9ab196f3487faa5b3d60891d60da", func := "petasos/petasoslaw08.PoolFull", spec := "poolFull", plainKeys := false, apart := false }
def PoolFullSaid : Prop := poolFullRow.holds Try.pinned (OpenSpec.ofChange poolFullSpec)

/-- ITS FALSE NEIGHBOUR: 'it returns false'. Refute it at one input. -/
def poolFullWrong : ChangeSpec := { name := "poolFull", fn := fun _ => fun
  | [d] => { results := [.lit (.bool false)], args := [d] }
  | _ => none }
def PoolFullWrongFalsely : Prop := poolFullRow.holds Try.pinned (OpenSpec.ofChange poolFullWrong)

/- THE SECOND FORM. 'bulk': how many values and letters a reading holds, each counted each time it is reached (what is shared counts as often as it is met; a slice's spare places count too). A statement '..UptoSaid' is the law's where the arguments, and the package variables that the reading takes, are together of bulk at most 1048576: NARROWER than '..Said'. Prove '..Said' where nothing that the law and all that it calls make is longer than what came in: it says more and counts as full. Else prove '..UptoSaid'. A law counts once. -/
mutual
def uptoBulk {H : Type} : DataW H → Nat
  | .lit (.string bytes) => bytes.length + 1
  | .lit _ => 1
  | .nil => 1
  | .ptr d => uptoBulk d + 1
  | .slice elems spare => uptoBulkAll elems + uptoBulkAll spare + 1
  | .agg parts => uptoBulkAll parts + 1
  | .iface _ d => uptoBulk d + 1
  | .map entries => uptoBulkEntries entries + 1
  | .held _ => 1
def uptoBulkAll {H : Type} : List (DataW H) → Nat
  | [] => 0
  | d :: r => uptoBulk d + uptoBulkAll r
def uptoBulkEntries {H : Type} : List (Lit × DataW H) → Nat
  | [] => 0
  | x :: r => uptoBulkEntry x + uptoBulkEntries r
def uptoBulkEntry {H : Type} : Lit × DataW H → Nat
  | (.string bytes, d) => bytes.length + uptoBulk d + 1
  | (_, d) => uptoBulk d + 1
 end
def uptoSmall : (H : Type) → List (DataW H) → Bool := fun _ ds => decide (uptoBulkAll ds ≤ 1048576)
def OpenSpec.upto (s : _root_.Go.ChangeSpec) : _root_.Go.OpenSpec := { _root_.Go.OpenSpec.ofChange s with cond := some uptoSmall }

/-- 'petasoslaw04.RecordOwn', WHERE WHAT IT READS IS OF BULK AT MOST 1048576: true; the input reads as it did. -/
def recordOwnUptoRow : OpenClaim := { program := "ytjniholnmjafeaa", sum := "d2bb63d6f1b7b9852c2e29accd1d0828c78e9ab196f3487faa5b3d60891d60da", func := "petasos/petasoslaw04.RecordOwn", spec := "recordOwn", plainKeys := false, apart := false, narrowed := true }
def RecordOwnUptoSaid : Prop := recordOwnUptoRow.holds Try.pinned (OpenSpec.upto recordOwnSpec)

/-- 'petasoslaw04.RecordNewer', WHERE WHAT IT READS IS OF BULK AT MOST 1048576: true; the input reads as it did. -/
def recordNewerUptoRow : OpenClaim := { program := "ytjniholnmjafeaa", sum := "d2bb63d6f1b7b9852c2e29accd1d0828c78e9ab196f3487faa5b3d60891d60da", func := "petasos/petasoslaw04.RecordNewer", spec := "recordNewer", plainKeys := false, apart := false, narrowed := true }
def RecordNewerUptoSaid : Prop := recordNewerUptoRow.holds Try.pinned (OpenSpec.upto recordNewerSpec)

/-- 'petasoslaw12.LinksFar', WHERE WHAT IT READS IS OF BULK AT MOST 1048576: true; the input reads as it did. -/
def linksFarUptoRow : OpenClaim := { program := "ytjniholnmjafeaa", sum := "d2bb63d6f1b7b9852c2e29accd1d0828c78e9ab196f3487faa5b3d60891d60da", func := "petasos/petasoslaw12.LinksFar", spec := "linksFar", plainKeys := false, apart := false, narrowed := true }
def LinksFarUptoSaid : Prop := linksFarUptoRow.holds Try.pinned (OpenSpec.upto linksFarSpec)

/-- 'petasoslaw04.RecordWrong', WHERE WHAT IT READS IS OF BULK AT MOST 1048576: true; the input reads as it did. -/
def recordWrongUptoRow : OpenClaim := { program := "ytjniholnmjafeaa", sum := "d2bb63d6f1b7b9852c2e29accd1d0828c78e9ab196f3487faa5b3d60891d60da", func := "petasos/petasoslaw04.RecordWrong", spec := "recordWrong", plainKeys := false, apart := false, narrowed := true }
def RecordWrongUptoSaid : Prop := recordWrongUptoRow.holds Try.pinned (OpenSpec.upto recordWrongSpec)

/-- 'petasoslaw04.RecordTells', WHERE WHAT IT READS IS OF BULK AT MOST 1048576: true; the input reads as it did. -/
def recordTellsUptoRow : OpenClaim := { program := "ytjniholnmjafeaa", sum := "d2bb63d6f1b7b9852c2e29accd1d0828c78e9ab196f3487faa5b3d60891d60da", func := "petasos/petasoslaw04.RecordTells", spec := "recordTells", unfollowed := true, recurses := true, plainKeys := false, apart := false, narrowed := true }
def RecordTellsUptoSaid : Prop := recordTellsUptoRow.holds Try.pinned (OpenSpec.upto recordTellsSpec)

/-- 'petasoslaw08.PoolOwn', WHERE WHAT IT READS IS OF BULK AT MOST 1048576: true; the input reads as it did. -/
def poolOwnUptoRow : OpenClaim := { program := "ytjniholnmjafeaa", sum := "d2bb63d6f1b7b9852c2e29accd1d0828c78e9ab196f3487faa5b3d60891d60da", func := "petasos/petasoslaw08.PoolOwn", spec := "poolOwn", plainKeys := false, apart := false, narrowed := true }
def PoolOwnUptoSaid : Prop := poolOwnUptoRow.holds Try.pinned (OpenSpec.upto poolOwnSpec)

/-- 'petasoslaw08.PoolOrder', WHERE WHAT IT READS IS OF BULK AT MOST 1048576: true; the input reads as it did. -/
def poolOrderUptoRow : OpenClaim := { program := "ytjniholnmjafeaa", sum := "d2bb63d6f1b7b9852c2e29accd1d0828c78e9ab196f3487faa5b3d60891d60da", func := "petasos/petasoslaw08.PoolOrder", spec := "poolOrder", plainKeys := false, apart := false, narrowed := true }
def PoolOrderUptoSaid : Prop := poolOrderUptoRow.holds Try.pinned (OpenSpec.upto poolOrderSpec)

/-- 'petasoslaw09.ShelfOlder', WHERE WHAT IT READS IS OF BULK AT MOST 1048576: true; the input reads as it did. -/
def shelfOlderUptoRow : OpenClaim := { program := "ytjniholnmjafeaa", sum := "d2bb63d6f1b7b9852c2e29accd1d0828c78e9ab196f3487faa5b3d60891d60da", func := "petasos/petasoslaw09.ShelfOlder", spec := "shelfOlder", unfollowed := true, recurses := true, plainKeys := false, apart := false, narrowed := true }
def ShelfOlderUptoSaid : Prop := shelfOlderUptoRow.holds Try.pinned (OpenSpec.upto shelfOlderSpec)

/-- 'petasoslaw17.BalanceTells', WHERE WHAT IT READS IS OF BULK AT MOST 1048576: true; the input reads as it did. -/
def balanceTellsUptoRow : OpenClaim := { program := "ytjniholnmjafeaa", sum := "d2bb63d6f1b7b9852c2e29accd1d0828c78e9ab196f3487faa5b3d60891d60da", func := "petasos/petasoslaw17.BalanceTells", spec := "balanceTells", unfollowed := true, recurses := true, plainKeys := false, apart := false, narrowed := true }
def BalanceTellsUptoSaid : Prop := balanceTellsUptoRow.holds Try.pinned (OpenSpec.upto balanceTellsSpec)

/-- 'petasoslaw17.BalanceHalf', WHERE WHAT IT READS IS OF BULK AT MOST 1048576: true; the input reads as it did. -/
def balanceHalfUptoRow : OpenClaim := { program := "ytjniholnmjafeaa", sum := "d2bb63d6f1b7b9852c2e29accd1d0828c78e9ab196f3487faa5b3d60891d60da", func := "petasos/petasoslaw17.BalanceHalf", spec := "balanceHalf", unfollowed := true, recurses := true, plainKeys := false, apart := false, narrowed := true }
def BalanceHalfUptoSaid : Prop := balanceHalfUptoRow.holds Try.pinned (OpenSpec.upto balanceHalfSpec)

/-- 'petasoslaw17.BalanceMiddle', WHERE WHAT IT READS IS OF BULK AT MOST 1048576: true; the input reads as it did. -/
def balanceMiddleUptoRow : OpenClaim := { program := "ytjniholnmjafeaa", sum := "d2bb63d6f1b7b9852c2e29accd1d0828c78e9ab196f3487faa5b3d60891d60da", func := "petasos/petasoslaw17.BalanceMiddle", spec := "balanceMiddle", unfollowed := true, recurses := true, plainKeys := false, apart := false, narrowed := true }
def BalanceMiddleUptoSaid : Prop := balanceMiddleUptoRow.holds Try.pinned (OpenSpec.upto balanceMiddleSpec)

/-- 'petasoslaw17.BalanceRefuses', WHERE WHAT IT READS IS OF BULK AT MOST 1048576: true; the input reads as it did. -/
def balanceRefusesUptoRow : OpenClaim := { program := "ytjniholnmjafeaa", sum := "d2bb63d6f1b7b9852c2e29accd1d0828c78e9ab196f3487faa5b3d60891d60da", func := "petasos/petasoslaw17.BalanceRefuses", spec := "balanceRefuses", unfollowed := true, recurses := true, plainKeys := false, apart := false, narrowed := true }
def BalanceRefusesUptoSaid : Prop := balanceRefusesUptoRow.holds Try.pinned (OpenSpec.upto balanceRefusesSpec)

/-- 'petasoslaw08.PoolPlays', WHERE WHAT IT READS IS OF BULK AT MOST 1048576: true; the input reads as it did. -/
def poolPlaysUptoRow : OpenClaim := { program := "ytjniholnmjafeaa", sum := "d2bb63d6f1b7b9852c2e29accd1d0828c78e9ab196f3487faa5b3d60891d60da", func := "petasos/petasoslaw08.PoolPlays", spec := "poolPlays", unfollowed := true, recurses := true, plainKeys := false, apart := false, narrowed := true }
def PoolPlaysUptoSaid : Prop := poolPlaysUptoRow.holds Try.pinned (OpenSpec.upto poolPlaysSpec)

/-- 'petasoslaw08.PoolFull', WHERE WHAT IT READS IS OF BULK AT MOST 1048576: true; the input reads as it did. -/
def poolFullUptoRow : OpenClaim := { program := "ytjniholnmjafeaa", sum := "d2bb63d6f1b7b9852c2e29accd1d0828c78e9ab196f3487faa5b3d60891d60da", func := "petasos/petasoslaw08.PoolFull", spec := "poolFull", plainKeys := false, apart := false, narrowed := true }
def PoolFullUptoSaid : Prop := poolFullUptoRow.holds Try.pinned (OpenSpec.upto poolFullSpec)

end Rows
end Go.Proofs.Ytjniholnmjafeaa
