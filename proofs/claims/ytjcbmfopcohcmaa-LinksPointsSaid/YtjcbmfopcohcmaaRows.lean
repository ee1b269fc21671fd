/-
  No cell of these rows narrows 'for every input' (looked for: loops, veiled, ifaces, maps, wideKeys, modest, calm, conditions, laid).
  DERIVED. THE GIVEN ROWS OF THIS SEAT. 6 by the template 'for every input the law returns true; each argument reads behind the call as it read before'; 0 by the template 'total and deterministic' (their statements: YtjcbmfopcohcmaaTotals.lean).
  GIVEN WITH THE SEED: the statements are not yours to turn. If you find one false, say at which input.
  Laid BY PROGRAM, IN A SANDBOX (cutbox-rows.mjs): the forced cells as the released guide's own fill.sh prints them over the translation dd137b583ca29d8a… (all of the seat's roots in one cut). By AI agents, Wed Nov 11 2026. No macro, syntax, notation, axiom, sorry.
-/
import Derived.Test.YtjcbmfopcohcmaaChecked
import GoSem.Claim
import GoSem.ClaimJoined
import GoSem.ClaimMapViews
import Derived.JoinedTies
import Derived.KernelRfl
namespace Go.Proofs.Ytjcbmfopcohcmaa
/- THE CELL 'sum', in the pinned program and in every row, IS THE sha256 OF THE DUMP (.gsa) THAT YtjcbmfopcohcmaaProg.lean LOADS. Nothing in Lean hashes anything: it is a label: what it is worth is what the hold of that sum in a sandbox is worth. -/
noncomputable def Try.pinned : Pinned := { name := "ytjcbmfopcohcmaa", sum := "dd137b583ca29d8a8c7686a9647fbc2bb571e9098172ddf4c07190397640563a", checked := Try.checked }
namespace Rows
def none {H : Type} : Left H := { results := [], args := [] }

/-- 'petasoslaw10.ShadowApart': WHATEVER THE INPUT: true; the input reads as it did. -/
def shadowApartSpec : ChangeSpec := { name := "shadowApart", fn := fun _ => fun
  | [d1, d2, d3, d4] => { results := [.lit (.bool true)], args := [d1, d2, d3, d4] }
  | _ => none }
def shadowApartRow : OpenClaim := { program := "ytjcbmfopcohcmaa", sum := "dd137b583ca29d8a8c7686a9647fbc2bb571e9098172ddf4c07190397640563a", func := "petasos/petasoslaw10.ShadowApart", spec := "shadowApart", unfollowed := true, recurses := true, plainKeys := false, apart := false }
def ShadowApartSaid : Prop := shadowApartRow.holds Try.pinned (OpenSpec.ofChange shadowApartSpec)

/-- ITS FALSE NEIGHBOUR: 'it returns false'. Refute it at one input. -/
def shadowApartWrong : ChangeSpec := { name := "shadowApart", fn := fun _ => fun
  | [d1, d2, d3, d4] => { results := [.lit (.bool false)], args := [d1, d2, d3, d4] }
  | _ => none }
def ShadowApartWrongFalsely : Prop := shadowApartRow.holds Try.pinned (OpenSpec.ofChange shadowApartWrong)

/-- 'petasoslaw10.ShadowSets': WHATEVER THE INPUT: true; the input reads as it did. -/
def shadowSetsSpec : ChangeSpec := { name := "shadowSets", fn := fun _ => fun
  | [d1, d2, d3] => { results := [.lit (.bool true)], args := [d1, d2, d3] }
  | _ => none }
def shadowSetsRow : OpenClaim := { program := "ytjcbmfopcohcmaa", sum := "dd137b583ca29d8a8c7686a9647fbc2bb571e9098172ddf4c07190397640563a", func := "petasos/petasoslaw10.ShadowSets", spec := "shadowSets", unfollowed := true, recurses := true, plainKeys := false, apart := false }
def ShadowSetsSaid : Prop := shadowSetsRow.holds Try.pinned (OpenSpec.ofChange shadowSetsSpec)

/-- ITS FALSE NEIGHBOUR: 'it returns false'. Refute it at one input. -/
def shadowSetsWrong : ChangeSpec := { name := "shadowSets", fn := fun _ => fun
  | [d1, d2, d3] => { results := [.lit (.bool false)], args := [d1, d2, d3] }
  | _ => none }
def ShadowSetsWrongFalsely : Prop := shadowSetsRow.holds Try.pinned (OpenSpec.ofChange shadowSetsWrong)

/-- 'petasoslaw10.ShadowNil': WHATEVER THE INPUT: true; the input reads as it did. -/
def shadowNilSpec : ChangeSpec := { name := "shadowNil", fn := fun _ => fun
  | [d1, d2] => { results := [.lit (.bool true)], args := [d1, d2] }
  | _ => none }
def shadowNilRow : OpenClaim := { program := "ytjcbmfopcohcmaa", sum := "dd137b583ca29d8a8c7686a9647fbc2bb571e9098172ddf4c07190397640563a", func := "petasos/petasoslaw10.ShadowNil", spec := "shadowNil", inPlace := ["maps.clone"], unfollowed := true, recurses := true, plainKeys := false, apart := false }
def ShadowNilSaid : Prop := shadowNilRow.holds Try.pinned (OpenSpec.ofChange shadowNilSpec)

/-- ITS FALSE NEIGHBOUR: 'it returns false'. Refute it at one input. -/
def shadowNilWrong : ChangeSpec := { name := "shadowNil", fn := fun _ => fun
  | [d1, d2] => { results := [.lit (.bool false)], args := [d1, d2] }
  | _ => none }
def ShadowNilWrongFalsely : Prop := shadowNilRow.holds Try.pinned (OpenSpec.ofChange shadowNilWrong)

/-- 'petasoslaw22.ClientGiven': WHATEVER THE INPUT: true; the input reads as it did. -/
def clientGivenSpec : ChangeSpec := { name := "clientGiven", fn := fun _ => fun
  | [d1, d2, d3] => { results := [.lit (.bool true)], args := [d1, d2, d3] }
  | _ => none }
def clientGivenRow : OpenClaim := { program := "ytjcbmfopcohcmaa", sum := "dd137b583ca29d8a8c7686a9647fbc2bb571e9098172ddf4c07190397640563a", func := "petasos/petasoslaw22.ClientGiven", spec := "clientGiven", inPlace := ["slices.overlaps[uint32]"], unfollowed := true, recurses := true, plainKeys := false, apart := false }
def ClientGivenSaid : Prop := clientGivenRow.holds Try.pinned (OpenSpec.ofChange clientGivenSpec)

/-- ITS FALSE NEIGHBOUR: 'it returns false'. Refute it at one input. -/
def clientGivenWrong : ChangeSpec := { name := "clientGiven", fn := fun _ => fun
  | [d1, d2, d3] => { results := [.lit (.bool false)], args := [d1, d2, d3] }
  | _ => none }
def ClientGivenWrongFalsely : Prop := clientGivenRow.holds Try.pinned (OpenSpec.ofChange clientGivenWrong)

/-- 'petasoslaw12.LinksTell': WHATEVER THE INPUT: true; the input reads as it did. -/
def linksTellSpec : ChangeSpec := { name := "linksTell", fn := fun _ => fun
  | [d1, d2, d3, d4] => { results := [.lit (.bool true)], args := [d1, d2, d3, d4] }
  | _ => none }
def linksTellRow : OpenClaim := { program := "ytjcbmfopcohcmaa", sum := "dd137b583ca29d8a8c7686a9647fbc2bb571e9098172ddf4c07190397640563a", func := "petasos/petasoslaw12.LinksTell", spec := "linksTell", inPlace := ["slices.overlaps[uint32]"], unfollowed := true, recurses := true, plainKeys := false, apart := false }
def LinksTellSaid : Prop := linksTellRow.holds Try.pinned (OpenSpec.ofChange linksTellSpec)

/-- ITS FALSE NEIGHBOUR: 'it returns false'. Refute it at one input. -/
def linksTellWrong : ChangeSpec := { name := "linksTell", fn := fun _ => fun
  | [d1, d2, d3, d4] => { results := [.lit (.bool false)], args := [d1, d2, d3, d4] }
  | _ => none }
def LinksTellWrongFalsely : Prop := linksTellRow.holds Try.pinned (OpenSpec.ofChange linksTellWrong)

/-- 'petasoslaw12.LinksPoints': WHATEVER THE INPUT: true; the input reads as it did. -/
def linksPointsSpec : ChangeSpec := { name := "linksPoints", fn := fun _ => fun
  | [d1, d2, d3, d4] => { results := [.lit (.bool true)], args := [d1, d2, d3, d4] }
  | _ => none }
def linksPointsRow : OpenClaim := { program := "ytjcbmfopcohcmaa", sum := "dd137b583ca29d8a8c7686a9647fbc2bb571e9098172ddf4c07190397640563a", func := "petasos/petasoslaw12.LinksPoints", spec := "linksPoints", inPlace := ["slices.overlaps[uint32]"], unfollowed := true, recurses := true, plainKeys := false, apart := false }
def LinksPointsSaid : Prop := linksPointsRow.holds Try.pinned (OpenSpec.ofChange linksPointsSpec)

/-- ITS FALSE NEIGHBOUR: 'it returns false'. Refute it at one input. -/
def linksPointsWrong : ChangeSpec := { name := "linksPoints", fn := fun _ => fun
  | [d1, d2, d3, d4] => { results := [.lit (.bool false)], args := [d1, d2, d3, d4] }
  | _ => none }
def LinksPointsWrongFalsely : Prop := linksPointsRow.holds Try.pinned (OpenSpec.ofChange linksPointsWrong)

/- THE SECOND FORM. 'bulk': how many values and letters a reading holds, each counted each time it is reached (what is shared counts as often as it is met; a slice's spare places count too). A statement '..UptoSaid' is the law's where the arguments, and the package variables that the reading takes, are together of bulk at most 1048576: NARROWER than '..Said'. Prove '..Said' where nothing that the law and all that it calls make is longer than what came in: it says more and counts as full. Else prove '..UptoSaid'. A law counts once. -/
mutual
def uptoBulk {H : Type} : DataW H → Nat
  | .lit (.string bytes) => bytes.length + 1
  | .lit _ => 1
  | .nil => 1
  | .ptr d => uptoBulk d + 1
  | .slice elems spare => uptoBulkAll elems + uptoBulkAll spare + 1
  | .agg parts => uptoBulkAll parts + 1
  | .iface _ d => uptoBulk d + 1
  | .map entries => uptoBulkEntries entries + 1
  | .held _ => 1
def uptoBulkAll {H : Type} : List (DataW H) → Nat
  | [] => 0
  | d :: r => uptoBulk d + uptoBulkAll r
def uptoBulkEntries {H : Type} : List (Lit × DataW H) → Nat
  | [] => 0
  | x :: r => uptoBulkEntry x + uptoBulkEntries r
def uptoBulkEntry {H : Type} : Lit × DataW H → Nat
  | (.string bytes, d) => bytes.length + uptoBulk d + 1
  | (_, d) => uptoBulk d + 1
 end
def uptoSmall : (H : Type) → List (DataW H) → Bool := fun _ ds => decide (uptoBulkAll ds ≤ 1048576)
def OpenSpec.upto (s : _root_.Go.ChangeSpec) : _root_.Go.OpenSpec := { _root_.Go.OpenSpec.ofChange s with cond := some uptoSmall }

/-- 'petasoslaw10.ShadowApart', WHERE WHAT IT READS IS OF BULK AT MOST 1048576: true; the input reads as it did. -/
def shadowApartUptoRow : OpenClaim := { program := "ytjcbmfopcohcmaa", sum := "dd137b583ca29d8a8c7686a9647fbc2bb571e9098172ddf4c07190397640563a", func := "petasos/petasoslaw10.ShadowApart", spec := "shadowApart", unfollowed := true, recurses := true, plainKeys := false, apart := false, narrowed := true }
def ShadowApartUptoSaid : Prop := shadowApartUptoRow.holds Try.pinned (OpenSpec.upto shadowApartSpec)

/-- 'petasoslaw10.ShadowSets', WHERE WHAT IT READS IS OF BULK AT MOST 1048576: true; the input reads as it did. -/
def shadowSetsUptoRow : OpenClaim := { program := "ytjcbmfopcohcmaa", sum := "dd137b583ca29d8a8c7686a9647fbc2bb571e9098172ddf4c07190397640563a", func := "petasos/petasoslaw10.ShadowSets", spec := "shadowSets", unfollowed := true, recurses := true, plainKeys := false, apart := false, narrowed := true }
def ShadowSetsUptoSaid : Prop := shadowSetsUptoRow.holds Try.pinned (OpenSpec.upto shadowSetsSpec)

/-- 'petasoslaw10.ShadowNil', WHERE WHAT IT READS IS OF BULK AT MOST 1048576: true; the input reads as it did. -/
def shadowNilUptoRow : OpenClaim := { program := "ytjcbmfopcohcmaa", sum := "dd137b583ca29d8a8c7686a9647fbc2bb571e9098172ddf4c07190397640563a", func := "petasos/petasoslaw10.ShadowNil", spec := "shadowNil", inPlace := ["maps.clone"], unfollowed := true, recurses := true, plainKeys := false, apart := false, narrowed := true }
def ShadowNilUptoSaid : Prop := shadowNilUptoRow.holds Try.pinned (OpenSpec.upto shadowNilSpec)

/-- 'petasoslaw22.ClientGiven', WHERE WHAT IT READS IS OF BULK AT MOST 1048576: true; the input reads as it did. -/
def clientGivenUptoRow : OpenClaim := { program := "ytjcbmfopcohcmaa", sum := "dd137b583ca29d8a8c7686a9647fbc2bb571e9098172ddf4c07190397640563a", func := "petasos/petasoslaw22.ClientGiven", spec := "clientGiven", inPlace := ["slices.overlaps[uint32]"], unfollowed := true, recurses := true, plainKeys := false, apart := false, narrowed := true }
def ClientGivenUptoSaid : Prop := clientGivenUptoRow.holds Try.pinned (OpenSpec.upto clientGivenSpec)

/-- 'petasoslaw12.LinksTell', WHERE WHAT IT READS IS OF BULK AT MOST 1048576: true; the input reads as it did. -/
def linksTellUptoRow : OpenClaim := { program := "ytjcbmfopcohcmaa", sum := "dd137b583ca29d8a8c7686a9647fbc2bb571e9098172ddf4c07190397640563a", func := "petasos/petasoslaw12.LinksTell", spec := "linksTell", inPlace := ["slices.overlaps[uint32]"], unfollowed := true, recurses := true, plainKeys := false, apart := false, narrowed := true }
def LinksTellUptoSaid : Prop := linksTellUptoRow.holds Try.pinned (OpenSpec.upto linksTellSpec)

/-- 'petasoslaw12.LinksPoints', WHERE WHAT IT READS IS OF BULK AT MOST 1048576: true; the input reads as it did. -/
def linksPointsUptoRow : OpenClaim := { program := "ytjcbmfopcohcmaa", sum := "dd137b583ca29d8a8c7686a9647fbc2bb571e9098172ddf4c07190397640563a", func := "petasos/petasoslaw12.LinksPoints", spec := "linksPoints", inPlace := ["slices.overlaps[uint32]"], unfollowed := true, recurses := true, plainKeys := false, apart := false, narrowed := true }
def LinksPointsUptoSaid : Prop := linksPointsUptoRow.holds Try.pinned (OpenSpec.upto linksPointsSpec)

end Rows
end Go.Proofs.Ytjcbmfopcohcmaa
