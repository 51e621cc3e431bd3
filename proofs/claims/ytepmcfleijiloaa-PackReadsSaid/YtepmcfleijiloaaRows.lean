/-
  No cell of these rows narrows 'for every input' (looked for: loops, veiled, ifaces, maps, wideKeys, modest, calm, conditions, laid).
  DERIVED. THE GIVEN ROWS OF THIS SEAT. 19 by the template 'for every input the law returns true; each argument reads behind the call as it read before'; 0 by the template 'total and deterministic' (their statements: YtepmcfleijiloaaTotals.lean).
  GIVEN WITH THE SEED: the statements are not yours to turn. If you find one false, say at which input.
  Laid BY PROGRAM, IN A SANDBOX (cutbox-rows.mjs): the forced cells as the released guide's own fill.sh prints them over the translation 7618ae2b515ea083… (all of the seat's roots in one cut). By AI agents, Wed Nov 11 2026. No macro, syntax, notation, axiom, sorry.
-/
import Derived.Test.YtepmcfleijiloaaChecked
import GoSem.Claim
import GoSem.ClaimJoined
import GoSem.ClaimMapViews
import Derived.JoinedTies
import Derived.KernelRfl
namespace Go.Proofs.Ytepmcfleijiloaa
/- THE CELL 'sum', in the pinned program and in every row, IS THE sha256 OF THE DUMP (.gsa) THAT YtepmcfleijiloaaProg.lean LOADS. Nothing in Lean hashes anything: it is a label: what it is worth is what the hold of that sum in a sandbox is worth. -/
noncomputable def Try.pinned : Pinned := { name := "ytepmcfleijiloaa", sum := "7618ae2b515ea08385808b20bd26799634d9a8df4007969dffe7df172223109c", checked := Try.checked }
namespace Rows
def none {H : Type} : Left H := { results := [], args := [] }

/-- 'inkhornlaw8.GraphBuilds': WHATEVER THE INPUT: true; the input reads as it did. -/
def graphBuildsSpec : ChangeSpec := { name := "graphBuilds", fn := fun _ => fun
  | [d] => { results := [.lit (.bool true)], args := [d] }
  | _ => none }
def graphBuildsRow : OpenClaim := { program := "ytepmcfleijiloaa", sum := "7618ae2b515ea08385808b20bd26799634d9a8df4007969dffe7df172223109c", func := "inkhorn/inkhornlaw8.GraphBuilds", spec := "graphBuilds", inPlace := ["internal/bytealg.abigen_runtime_cmpstring", "internal/abi.NoEscape", "internal/bytealg.MakeNoZero"], recurses := true, apart := false }
def GraphBuildsSaid : Prop := graphBuildsRow.holds Try.pinned (OpenSpec.ofChange graphBuildsSpec)

/-- ITS FALSE NEIGHBOUR: 'it returns false'. Refute it at one input. -/
def graphBuildsWrong : ChangeSpec := { name := "graphBuilds", fn := fun _ => fun
  | [d] => { results := [.lit (.bool false)], args := [d] }
  | _ => none }
def GraphBuildsWrongFalsely : Prop := graphBuildsRow.holds Try.pinned (OpenSpec.ofChange graphBuildsWrong)

/-- 'inkhornlaw8.GraphOne': WHATEVER THE INPUT: true; the input reads as it did. -/
def graphOneSpec : ChangeSpec := { name := "graphOne", fn := fun _ => fun
  | [d] => { results := [.lit (.bool true)], args := [d] }
  | _ => none }
def graphOneRow : OpenClaim := { program := "ytepmcfleijiloaa", sum := "7618ae2b515ea08385808b20bd26799634d9a8df4007969dffe7df172223109c", func := "inkhorn/inkhornlaw8.GraphOne", spec := "graphOne", inPlace := ["internal/bytealg.abigen_runtime_cmpstring", "internal/abi.NoEscape", "internal/bytealg.MakeNoZero"], recurses := true, apart := false }
def GraphOneSaid : Prop := graphOneRow.holds Try.pinned (OpenSpec.ofChange graphOneSpec)

/-- ITS FALSE NEIGHBOUR: 'it returns false'. Refute it at one input. -/
def graphOneWrong : ChangeSpec := { name := "graphOne", fn := fun _ => fun
  | [d] => { results := [.lit (.bool false)], args := [d] }
  | _ => none }
def GraphOneWrongFalsely : Prop := graphOneRow.holds Try.pinned (OpenSpec.ofChange graphOneWrong)

/-- 'inkhornlaw8.GraphLeast': WHATEVER THE INPUT: true; the input reads as it did. -/
def graphLeastSpec : ChangeSpec := { name := "graphLeast", fn := fun _ => fun
  | [d] => { results := [.lit (.bool true)], args := [d] }
  | _ => none }
def graphLeastRow : OpenClaim := { program := "ytepmcfleijiloaa", sum := "7618ae2b515ea08385808b20bd26799634d9a8df4007969dffe7df172223109c", func := "inkhorn/inkhornlaw8.GraphLeast", spec := "graphLeast", inPlace := ["internal/bytealg.abigen_runtime_cmpstring", "internal/abi.NoEscape", "internal/bytealg.MakeNoZero"], recurses := true, apart := false }
def GraphLeastSaid : Prop := graphLeastRow.holds Try.pinned (OpenSpec.ofChange graphLeastSpec)

/-- ITS FALSE NEIGHBOUR: 'it returns false'. Refute it at one input. -/
def graphLeastWrong : ChangeSpec := { name := "graphLeast", fn := fun _ => fun
  | [d] => { results := [.lit (.bool false)], args := [d] }
  | _ => none }
def GraphLeastWrongFalsely : Prop := graphLeastRow.holds Try.pinned (OpenSpec.ofChange graphLeastWrong)

/-- 'inkhornlaw8.GraphPaths': WHATEVER THE INPUT: true; the input reads as it did. -/
def graphPathsSpec : ChangeSpec := { name := "graphPaths", fn := fun _ => fun
  | [d1, d2] => { results := [.lit (.bool true)], args := [d1, d2] }
  | _ => none }
def graphPathsRow : OpenClaim := { program := "ytepmcfleijiloaa", sum := "7618ae2b515ea08385808b20bd26799634d9a8df4007969dffe7df172223109c", func := "inkhorn/inkhornlaw8.GraphPaths", spec := "graphPaths", inPlace := ["internal/bytealg.abigen_runtime_cmpstring", "internal/abi.NoEscape", "internal/bytealg.MakeNoZero"], unfollowed := true, recurses := true, apart := false }
def GraphPathsSaid : Prop := graphPathsRow.holds Try.pinned (OpenSpec.ofChange graphPathsSpec)

/-- ITS FALSE NEIGHBOUR: 'it returns false'. Refute it at one input. -/
def graphPathsWrong : ChangeSpec := { name := "graphPaths", fn := fun _ => fun
  | [d1, d2] => { results := [.lit (.bool false)], args := [d1, d2] }
  | _ => none }
def GraphPathsWrongFalsely : Prop := graphPathsRow.holds Try.pinned (OpenSpec.ofChange graphPathsWrong)

/-- 'inkhornlaw8.GraphPieces': WHATEVER THE INPUT: true; the input reads as it did. -/
def graphPiecesSpec : ChangeSpec := { name := "graphPieces", fn := fun _ => fun
  | [d1, d2, d3, d4] => { results := [.lit (.bool true)], args := [d1, d2, d3, d4] }
  | _ => none }
def graphPiecesRow : OpenClaim := { program := "ytepmcfleijiloaa", sum := "7618ae2b515ea08385808b20bd26799634d9a8df4007969dffe7df172223109c", func := "inkhorn/inkhornlaw8.GraphPieces", spec := "graphPieces", inPlace := ["internal/bytealg.abigen_runtime_cmpstring", "internal/abi.NoEscape", "internal/bytealg.MakeNoZero"], unfollowed := true, recurses := true, apart := false }
def GraphPiecesSaid : Prop := graphPiecesRow.holds Try.pinned (OpenSpec.ofChange graphPiecesSpec)

/-- ITS FALSE NEIGHBOUR: 'it returns false'. Refute it at one input. -/
def graphPiecesWrong : ChangeSpec := { name := "graphPieces", fn := fun _ => fun
  | [d1, d2, d3, d4] => { results := [.lit (.bool false)], args := [d1, d2, d3, d4] }
  | _ => none }
def GraphPiecesWrongFalsely : Prop := graphPiecesRow.holds Try.pinned (OpenSpec.ofChange graphPiecesWrong)

/-- 'inkhornlaw8.GraphNone': WHATEVER THE INPUT: true; the input reads as it did. -/
def graphNoneSpec : ChangeSpec := { name := "graphNone", fn := fun _ => fun
  | [d1, d2, d3] => { results := [.lit (.bool true)], args := [d1, d2, d3] }
  | _ => none }
def graphNoneRow : OpenClaim := { program := "ytepmcfleijiloaa", sum := "7618ae2b515ea08385808b20bd26799634d9a8df4007969dffe7df172223109c", func := "inkhorn/inkhornlaw8.GraphNone", spec := "graphNone", inPlace := ["internal/bytealg.abigen_runtime_cmpstring", "internal/abi.NoEscape", "internal/bytealg.MakeNoZero"], unfollowed := true, recurses := true, apart := false }
def GraphNoneSaid : Prop := graphNoneRow.holds Try.pinned (OpenSpec.ofChange graphNoneSpec)

/-- ITS FALSE NEIGHBOUR: 'it returns false'. Refute it at one input. -/
def graphNoneWrong : ChangeSpec := { name := "graphNone", fn := fun _ => fun
  | [d1, d2, d3] => { results := [.lit (.bool false)], args := [d1, d2, d3] }
  | _ => none }
def GraphNoneWrongFalsely : Prop := graphNoneRow.holds Try.pinned (OpenSpec.ofChange graphNoneWrong)

/-- 'inkhornlaw8.GraphAsks': WHATEVER THE INPUT: true; the input reads as it did. -/
def graphAsksSpec : ChangeSpec := { name := "graphAsks", fn := fun _ => fun
  | [d1, d2, d3, d4, d5] => { results := [.lit (.bool true)], args := [d1, d2, d3, d4, d5] }
  | _ => none }
def graphAsksRow : OpenClaim := { program := "ytepmcfleijiloaa", sum := "7618ae2b515ea08385808b20bd26799634d9a8df4007969dffe7df172223109c", func := "inkhorn/inkhornlaw8.GraphAsks", spec := "graphAsks", inPlace := ["internal/bytealg.abigen_runtime_cmpstring", "internal/abi.NoEscape", "internal/bytealg.MakeNoZero"], unfollowed := true, recurses := true, apart := false }
def GraphAsksSaid : Prop := graphAsksRow.holds Try.pinned (OpenSpec.ofChange graphAsksSpec)

/-- ITS FALSE NEIGHBOUR: 'it returns false'. Refute it at one input. -/
def graphAsksWrong : ChangeSpec := { name := "graphAsks", fn := fun _ => fun
  | [d1, d2, d3, d4, d5] => { results := [.lit (.bool false)], args := [d1, d2, d3, d4, d5] }
  | _ => none }
def GraphAsksWrongFalsely : Prop := graphAsksRow.holds Try.pinned (OpenSpec.ofChange graphAsksWrong)

/-- 'inkhornlaw9.PackLays': WHATEVER THE INPUT: true; the input reads as it did. -/
def packLaysSpec : ChangeSpec := { name := "packLays", fn := fun _ => fun
  | [d] => { results := [.lit (.bool true)], args := [d] }
  | _ => none }
def packLaysRow : OpenClaim := { program := "ytepmcfleijiloaa", sum := "7618ae2b515ea08385808b20bd26799634d9a8df4007969dffe7df172223109c", func := "inkhorn/inkhornlaw9.PackLays", spec := "packLays", inPlace := ["internal/bytealg.abigen_runtime_cmpstring", "internal/abi.NoEscape", "internal/bytealg.MakeNoZero"], unfollowed := true, recurses := true, apart := false }
def PackLaysSaid : Prop := packLaysRow.holds Try.pinned (OpenSpec.ofChange packLaysSpec)

/-- ITS FALSE NEIGHBOUR: 'it returns false'. Refute it at one input. -/
def packLaysWrong : ChangeSpec := { name := "packLays", fn := fun _ => fun
  | [d] => { results := [.lit (.bool false)], args := [d] }
  | _ => none }
def PackLaysWrongFalsely : Prop := packLaysRow.holds Try.pinned (OpenSpec.ofChange packLaysWrong)

/-- 'inkhornlaw9.PackTurned': WHATEVER THE INPUT: true; the input reads as it did. -/
def packTurnedSpec : ChangeSpec := { name := "packTurned", fn := fun _ => fun
  | [d1, d2, d3] => { results := [.lit (.bool true)], args := [d1, d2, d3] }
  | _ => none }
def packTurnedRow : OpenClaim := { program := "ytepmcfleijiloaa", sum := "7618ae2b515ea08385808b20bd26799634d9a8df4007969dffe7df172223109c", func := "inkhorn/inkhornlaw9.PackTurned", spec := "packTurned", inPlace := ["internal/bytealg.abigen_runtime_cmpstring", "internal/abi.NoEscape", "internal/bytealg.MakeNoZero"], unfollowed := true, recurses := true, apart := false }
def PackTurnedSaid : Prop := packTurnedRow.holds Try.pinned (OpenSpec.ofChange packTurnedSpec)

/-- ITS FALSE NEIGHBOUR: 'it returns false'. Refute it at one input. -/
def packTurnedWrong : ChangeSpec := { name := "packTurned", fn := fun _ => fun
  | [d1, d2, d3] => { results := [.lit (.bool false)], args := [d1, d2, d3] }
  | _ => none }
def PackTurnedWrongFalsely : Prop := packTurnedRow.holds Try.pinned (OpenSpec.ofChange packTurnedWrong)

/-- 'inkhornlaw9.PackReads': WHATEVER THE INPUT: true; the input reads as it did. -/
def packReadsSpec : ChangeSpec := { name := "packReads", fn := fun _ => fun
  | [d] => { results := [.lit (.bool true)], args := [d] }
  | _ => none }
def packReadsRow : OpenClaim := { program := "ytepmcfleijiloaa", sum := "7618ae2b515ea08385808b20bd26799634d9a8df4007969dffe7df172223109c", func := "inkhorn/inkhornlaw9.PackReads", spec := "packReads", inPlace := ["internal/bytealg.abigen_runtime_cmpstring", "internal/abi.NoEscape", "internal/bytealg.MakeNoZero"], unfollowed := true, recurses := true, apart := false }
def PackReadsSaid : Prop := packReadsRow.holds Try.pinned (OpenSpec.ofChange packReadsSpec)

/-- ITS FALSE NEIGHBOUR: 'it returns false'. Refute it at one input. -/
def packReadsWrong : ChangeSpec := { name := "packReads", fn := fun _ => fun
  | [d] => { results := [.lit (.bool false)], args := [d] }
  | _ => none }
def PackReadsWrongFalsely : Prop := packReadsRow.holds Try.pinned (OpenSpec.ofChange packReadsWrong)

/-- 'inkhornlaw9.PackBack': WHATEVER THE INPUT: true; the input reads as it did. -/
def packBackSpec : ChangeSpec := { name := "packBack", fn := fun _ => fun
  | [d] => { results := [.lit (.bool true)], args := [d] }
  | _ => none }
def packBackRow : OpenClaim := { program := "ytepmcfleijiloaa", sum := "7618ae2b515ea08385808b20bd26799634d9a8df4007969dffe7df172223109c", func := "inkhorn/inkhornlaw9.PackBack", spec := "packBack", inPlace := ["internal/bytealg.abigen_runtime_cmpstring", "internal/abi.NoEscape", "internal/bytealg.MakeNoZero"], unfollowed := true, recurses := true, apart := false }
def PackBackSaid : Prop := packBackRow.holds Try.pinned (OpenSpec.ofChange packBackSpec)

/-- ITS FALSE NEIGHBOUR: 'it returns false'. Refute it at one input. -/
def packBackWrong : ChangeSpec := { name := "packBack", fn := fun _ => fun
  | [d] => { results := [.lit (.bool false)], args := [d] }
  | _ => none }
def PackBackWrongFalsely : Prop := packBackRow.holds Try.pinned (OpenSpec.ofChange packBackWrong)

/-- 'inkhornlaw4.ListGood': WHATEVER THE INPUT: true; the input reads as it did. -/
def listGoodSpec : ChangeSpec := { name := "listGood", fn := fun _ => fun
  | [d] => { results := [.lit (.bool true)], args := [d] }
  | _ => none }
def listGoodRow : OpenClaim := { program := "ytepmcfleijiloaa", sum := "7618ae2b515ea08385808b20bd26799634d9a8df4007969dffe7df172223109c", func := "inkhorn/inkhornlaw4.ListGood", spec := "listGood", inPlace := ["internal/bytealg.abigen_runtime_cmpstring"], unfollowed := true, recurses := true, apart := false }
def ListGoodSaid : Prop := listGoodRow.holds Try.pinned (OpenSpec.ofChange listGoodSpec)

/-- ITS FALSE NEIGHBOUR: 'it returns false'. Refute it at one input. -/
def listGoodWrong : ChangeSpec := { name := "listGood", fn := fun _ => fun
  | [d] => { results := [.lit (.bool false)], args := [d] }
  | _ => none }
def ListGoodWrongFalsely : Prop := listGoodRow.holds Try.pinned (OpenSpec.ofChange listGoodWrong)

/-- 'inkhornlaw4.ListSorted': WHATEVER THE INPUT: true; the input reads as it did. -/
def listSortedSpec : ChangeSpec := { name := "listSorted", fn := fun _ => fun
  | [d] => { results := [.lit (.bool true)], args := [d] }
  | _ => none }
def listSortedRow : OpenClaim := { program := "ytepmcfleijiloaa", sum := "7618ae2b515ea08385808b20bd26799634d9a8df4007969dffe7df172223109c", func := "inkhorn/inkhornlaw4.ListSorted", spec := "listSorted", inPlace := ["internal/bytealg.abigen_runtime_cmpstring"], unfollowed := true, recurses := true, apart := false }
def ListSortedSaid : Prop := listSortedRow.holds Try.pinned (OpenSpec.ofChange listSortedSpec)

/-- ITS FALSE NEIGHBOUR: 'it returns false'. Refute it at one input. -/
def listSortedWrong : ChangeSpec := { name := "listSorted", fn := fun _ => fun
  | [d] => { results := [.lit (.bool false)], args := [d] }
  | _ => none }
def ListSortedWrongFalsely : Prop := listSortedRow.holds Try.pinned (OpenSpec.ofChange listSortedWrong)

/-- 'inkhornlaw4.ListAt': WHATEVER THE INPUT: true; the input reads as it did. -/
def listAtSpec : ChangeSpec := { name := "listAt", fn := fun _ => fun
  | [d1, d2] => { results := [.lit (.bool true)], args := [d1, d2] }
  | _ => none }
def listAtRow : OpenClaim := { program := "ytepmcfleijiloaa", sum := "7618ae2b515ea08385808b20bd26799634d9a8df4007969dffe7df172223109c", func := "inkhorn/inkhornlaw4.ListAt", spec := "listAt", inPlace := ["internal/bytealg.abigen_runtime_cmpstring"], unfollowed := true, recurses := true, apart := false }
def ListAtSaid : Prop := listAtRow.holds Try.pinned (OpenSpec.ofChange listAtSpec)

/-- ITS FALSE NEIGHBOUR: 'it returns false'. Refute it at one input. -/
def listAtWrong : ChangeSpec := { name := "listAt", fn := fun _ => fun
  | [d1, d2] => { results := [.lit (.bool false)], args := [d1, d2] }
  | _ => none }
def ListAtWrongFalsely : Prop := listAtRow.holds Try.pinned (OpenSpec.ofChange listAtWrong)

/-- 'inkhornlaw4.ListJoins': WHATEVER THE INPUT: true; the input reads as it did. -/
def listJoinsSpec : ChangeSpec := { name := "listJoins", fn := fun _ => fun
  | [d1, d2, d3] => { results := [.lit (.bool true)], args := [d1, d2, d3] }
  | _ => none }
def listJoinsRow : OpenClaim := { program := "ytepmcfleijiloaa", sum := "7618ae2b515ea08385808b20bd26799634d9a8df4007969dffe7df172223109c", func := "inkhorn/inkhornlaw4.ListJoins", spec := "listJoins", inPlace := ["internal/bytealg.abigen_runtime_cmpstring"], unfollowed := true, recurses := true, apart := false }
def ListJoinsSaid : Prop := listJoinsRow.holds Try.pinned (OpenSpec.ofChange listJoinsSpec)

/-- ITS FALSE NEIGHBOUR: 'it returns false'. Refute it at one input. -/
def listJoinsWrong : ChangeSpec := { name := "listJoins", fn := fun _ => fun
  | [d1, d2, d3] => { results := [.lit (.bool false)], args := [d1, d2, d3] }
  | _ => none }
def ListJoinsWrongFalsely : Prop := listJoinsRow.holds Try.pinned (OpenSpec.ofChange listJoinsWrong)

/-- 'inkhornlaw4.ListParts': WHATEVER THE INPUT: true; the input reads as it did. -/
def listPartsSpec : ChangeSpec := { name := "listParts", fn := fun _ => fun
  | [d1, d2, d3] => { results := [.lit (.bool true)], args := [d1, d2, d3] }
  | _ => none }
def listPartsRow : OpenClaim := { program := "ytepmcfleijiloaa", sum := "7618ae2b515ea08385808b20bd26799634d9a8df4007969dffe7df172223109c", func := "inkhorn/inkhornlaw4.ListParts", spec := "listParts", inPlace := ["internal/bytealg.abigen_runtime_cmpstring"], unfollowed := true, recurses := true, apart := false }
def ListPartsSaid : Prop := listPartsRow.holds Try.pinned (OpenSpec.ofChange listPartsSpec)

/-- ITS FALSE NEIGHBOUR: 'it returns false'. Refute it at one input. -/
def listPartsWrong : ChangeSpec := { name := "listParts", fn := fun _ => fun
  | [d1, d2, d3] => { results := [.lit (.bool false)], args := [d1, d2, d3] }
  | _ => none }
def ListPartsWrongFalsely : Prop := listPartsRow.holds Try.pinned (OpenSpec.ofChange listPartsWrong)

/-- 'inkhornlaw4.ListThree': WHATEVER THE INPUT: true; the input reads as it did. -/
def listThreeSpec : ChangeSpec := { name := "listThree", fn := fun _ => fun
  | [d1, d2, d3] => { results := [.lit (.bool true)], args := [d1, d2, d3] }
  | _ => none }
def listThreeRow : OpenClaim := { program := "ytepmcfleijiloaa", sum := "7618ae2b515ea08385808b20bd26799634d9a8df4007969dffe7df172223109c", func := "inkhorn/inkhornlaw4.ListThree", spec := "listThree", inPlace := ["internal/bytealg.abigen_runtime_cmpstring"], unfollowed := true, recurses := true, apart := false }
def ListThreeSaid : Prop := listThreeRow.holds Try.pinned (OpenSpec.ofChange listThreeSpec)

/-- ITS FALSE NEIGHBOUR: 'it returns false'. Refute it at one input. -/
def listThreeWrong : ChangeSpec := { name := "listThree", fn := fun _ => fun
  | [d1, d2, d3] => { results := [.lit (.bool false)], args := [d1, d2, d3] }
  | _ => none }
def ListThreeWrongFalsely : Prop := listThreeRow.holds Try.pinned (OpenSpec.ofChange listThreeWrong)

/-- 'inkhornlaw8.GraphPut': WHATEVER THE INPUT: true; the input reads as it did. -/
def graphPutSpec : ChangeSpec := { name := "graphPut", fn := fun _ => fun
  | [d1, d2] => { results := [.lit (.bool true)], args := [d1, d2] }
  | _ => none }
def graphPutRow : OpenClaim := { program := "ytepmcfleijiloaa", sum := "7618ae2b515ea08385808b20bd26799634d9a8df4007969dffe7df172223109c", func := "inkhorn/inkhornlaw8.GraphPut", spec := "graphPut", inPlace := ["internal/bytealg.abigen_runtime_cmpstring", "internal/abi.NoEscape", "internal/bytealg.MakeNoZero"], unfollowed := true, recurses := true, apart := false }
def GraphPutSaid : Prop := graphPutRow.holds Try.pinned (OpenSpec.ofChange graphPutSpec)

/-- ITS FALSE NEIGHBOUR: 'it returns false'. Refute it at one input. -/
def graphPutWrong : ChangeSpec := { name := "graphPut", fn := fun _ => fun
  | [d1, d2] => { results := [.lit (.bool false)], args := [d1, d2] }
  | _ => none }
def GraphPutWrongFalsely : Prop := graphPutRow.holds Try.pinned (OpenSpec.ofChange graphPutWrong)

/-- 'inkhornlaw9.PackSize': WHATEVER THE INPUT: true; the input reads as it did. -/
def packSizeSpec : ChangeSpec := { name := "packSize", fn := fun _ => fun
  | [d] => { results := [.lit (.bool true)], args := [d] }
  | _ => none }
def packSizeRow : OpenClaim := { program := "ytepmcfleijiloaa", sum := "7618ae2b515ea08385808b20bd26799634d9a8df4007969dffe7df172223109c", func := "inkhorn/inkhornlaw9.PackSize", spec := "packSize", inPlace := ["internal/bytealg.abigen_runtime_cmpstring", "internal/abi.NoEscape", "internal/bytealg.MakeNoZero"], unfollowed := true, recurses := true, apart := false }
def PackSizeSaid : Prop := packSizeRow.holds Try.pinned (OpenSpec.ofChange packSizeSpec)

/-- ITS FALSE NEIGHBOUR: 'it returns false'. Refute it at one input. -/
def packSizeWrong : ChangeSpec := { name := "packSize", fn := fun _ => fun
  | [d] => { results := [.lit (.bool false)], args := [d] }
  | _ => none }
def PackSizeWrongFalsely : Prop := packSizeRow.holds Try.pinned (OpenSpec.ofChange packSizeWrong)

/- THE SECOND FORM. 'bulk': how many values and letters a reading holds, each counted each time it is reached (what is shared counts as often as it is met; a slice's spare places count too). A statement '..UptoSaid' is the law's where the arguments, and the package variables that the reading takes, are together of bulk at most 1048576: NARROWER than '..Said'. Prove '..Said' where nothing that the law and all that it calls make is longer than what came in: it says more and counts as full. Else prove '..UptoSaid'. A law counts once. -/
mutual
def uptoBulk {H : Type} : DataW H → Nat
  | .lit (.string bytes) => bytes.length + 1
  | .lit _ => 1
  | .nil => 1
  | .ptr d => uptoBulk d + 1
  | .slice elems spare => uptoBulkAll elems + uptoBulkAll spare + 1
  | .agg parts => uptoBulkAll parts + 1
  | .iface _ d => uptoBulk d + 1
  | .map entries => uptoBulkEntries entries + 1
  | .held _ => 1
def uptoBulkAll {H : Type} : List (DataW H) → Nat
  | [] => 0
  | d :: r => uptoBulk d + uptoBulkAll r
def uptoBulkEntries {H : Type} : List (Lit × DataW H) → Nat
  | [] => 0
  | x :: r => uptoBulkEntry x + uptoBulkEntries r
def uptoBulkEntry {H : Type} : Lit × DataW H → Nat
  | (.string bytes, d) => bytes.length + uptoBulk d + 1
  | (_, d) => uptoBulk d + 1
 end
def uptoSmall : (H : Type) → List (DataW H) → Bool := fun _ ds => decide (uptoBulkAll ds ≤ 1048576)
def OpenSpec.upto (s : _root_.Go.ChangeSpec) : _root_.Go.OpenSpec := { _root_.Go.OpenSpec.ofChange s with cond := some uptoSmall }

/-- 'inkhornlaw8.GraphBuilds', WHERE WHAT IT READS IS OF BULK AT MOST 1048576: true; the input reads as it did. -/
def graphBuildsUptoRow : OpenClaim := { program := "ytepmcfleijiloaa", sum := "7618ae2b515ea08385808b20bd26799634d9a8df4007969dffe7df172223109c", func := "inkhorn/inkhornlaw8.GraphBuilds", spec := "graphBuilds", inPlace := ["internal/bytealg.abigen_runtime_cmpstring", "internal/abi.NoEscape", "internal/bytealg.MakeNoZero"], recurses := true, apart := false, narrowed := true }
def GraphBuildsUptoSaid : Prop := graphBuildsUptoRow.holds Try.pinned (OpenSpec.upto graphBuildsSpec)

/-- 'inkhornlaw8.GraphOne', WHERE WHAT IT READS IS OF BULK AT MOST 1048576: true; the input reads as it did. -/
def graphOneUptoRow : OpenClaim := { program := "ytepmcfleijiloaa", sum := "7618ae2b515ea08385808b20bd26799634d9a8df4007969dffe7df172223109c", func := "inkhorn/inkhornlaw8.GraphOne", spec := "graphOne", inPlace := ["internal/bytealg.abigen_runtime_cmpstring", "internal/abi.NoEscape", "internal/bytealg.MakeNoZero"], recurses := true, apart := false, narrowed := true }
def GraphOneUptoSaid : Prop := graphOneUptoRow.holds Try.pinned (OpenSpec.upto graphOneSpec)

/-- 'inkhornlaw8.GraphLeast', WHERE WHAT IT READS IS OF BULK AT MOST 1048576: true; the input reads as it did. -/
def graphLeastUptoRow : OpenClaim := { program := "ytepmcfleijiloaa", sum := "7618ae2b515ea08385808b20bd26799634d9a8df4007969dffe7df172223109c", func := "inkhorn/inkhornlaw8.GraphLeast", spec := "graphLeast", inPlace := ["internal/bytealg.abigen_runtime_cmpstring", "internal/abi.NoEscape", "internal/bytealg.MakeNoZero"], recurses := true, apart := false, narrowed := true }
def GraphLeastUptoSaid : Prop := graphLeastUptoRow.holds Try.pinned (OpenSpec.upto graphLeastSpec)

/-- 'inkhornlaw8.GraphPaths', WHERE WHAT IT READS IS OF BULK AT MOST 1048576: true; the input reads as it did. -/
def graphPathsUptoRow : OpenClaim := { program := "ytepmcfleijiloaa", sum := "7618ae2b515ea08385808b20bd26799634d9a8df4007969dffe7df172223109c", func := "inkhorn/inkhornlaw8.GraphPaths", spec := "graphPaths", inPlace := ["internal/bytealg.abigen_runtime_cmpstring", "internal/abi.NoEscape", "internal/bytealg.MakeNoZero"], unfollowed := true, recurses := true, apart := false, narrowed := true }
def GraphPathsUptoSaid : Prop := graphPathsUptoRow.holds Try.pinned (OpenSpec.upto graphPathsSpec)

/-- 'inkhornlaw8.GraphPieces', WHERE WHAT IT READS IS OF BULK AT MOST 1048576: true; the input reads as it did. -/
def graphPiecesUptoRow : OpenClaim := { program := "ytepmcfleijiloaa", sum := "7618ae2b515ea08385808b20bd26799634d9a8df4007969dffe7df172223109c", func := "inkhorn/inkhornlaw8.GraphPieces", spec := "graphPieces", inPlace := ["internal/bytealg.abigen_runtime_cmpstring", "internal/abi.NoEscape", "internal/bytealg.MakeNoZero"], unfollowed := true, recurses := true, apart := false, narrowed := true }
def GraphPiecesUptoSaid : Prop := graphPiecesUptoRow.holds Try.pinned (OpenSpec.upto graphPiecesSpec)

/-- 'inkhornlaw8.GraphNone', WHERE WHAT IT READS IS OF BULK AT MOST 1048576: true; the input reads as it did. -/
def graphNoneUptoRow : OpenClaim := { program := "ytepmcfleijiloaa", sum := "7618ae2b515ea08385808b20bd26799634d9a8df4007969dffe7df172223109c", func := "inkhorn/inkhornlaw8.GraphNone", spec := "graphNone", inPlace := ["internal/bytealg.abigen_runtime_cmpstring", "internal/abi.NoEscape", "internal/bytealg.MakeNoZero"], unfollowed := true, recurses := true, apart := false, narrowed := true }
def GraphNoneUptoSaid : Prop := graphNoneUptoRow.holds Try.pinned (OpenSpec.upto graphNoneSpec)

/-- 'inkhornlaw8.GraphAsks', WHERE WHAT IT READS IS OF BULK AT MOST 1048576: true; the input reads as it did. -/
def graphAsksUptoRow : OpenClaim := { program := "ytepmcfleijiloaa", sum := "7618ae2b515ea08385808b20bd26799634d9a8df4007969dffe7df172223109c", func := "inkhorn/inkhornlaw8.GraphAsks", spec := "graphAsks", inPlace := ["internal/bytealg.abigen_runtime_cmpstring", "internal/abi.NoEscape", "internal/bytealg.MakeNoZero"], unfollowed := true, recurses := true, apart := false, narrowed := true }
def GraphAsksUptoSaid : Prop := graphAsksUptoRow.holds Try.pinned (OpenSpec.upto graphAsksSpec)

/-- 'inkhornlaw9.PackLays', WHERE WHAT IT READS IS OF BULK AT MOST 1048576: true; the input reads as it did. -/
def packLaysUptoRow : OpenClaim := { program := "ytepmcfleijiloaa", sum := "7618ae2b515ea08385808b20bd26799634d9a8df4007969dffe7df172223109c", func := "inkhorn/inkhornlaw9.PackLays", spec := "packLays", inPlace := ["internal/bytealg.abigen_runtime_cmpstring", "internal/abi.NoEscape", "internal/bytealg.MakeNoZero"], unfollowed := true, recurses := true, apart := false, narrowed := true }
def PackLaysUptoSaid : Prop := packLaysUptoRow.holds Try.pinned (OpenSpec.upto packLaysSpec)

/-- 'inkhornlaw9.PackTurned', WHERE WHAT IT READS IS OF BULK AT MOST 1048576: true; the input reads as it did. -/
def packTurnedUptoRow : OpenClaim := { program := "ytepmcfleijiloaa", sum := "7618ae2b515ea08385808b20bd26799634d9a8df4007969dffe7df172223109c", func := "inkhorn/inkhornlaw9.PackTurned", spec := "packTurned", inPlace := ["internal/bytealg.abigen_runtime_cmpstring", "internal/abi.NoEscape", "internal/bytealg.MakeNoZero"], unfollowed := true, recurses := true, apart := false, narrowed := true }
def PackTurnedUptoSaid : Prop := packTurnedUptoRow.holds Try.pinned (OpenSpec.upto packTurnedSpec)

/-- 'inkhornlaw9.PackReads', WHERE WHAT IT READS IS OF BULK AT MOST 1048576: true; the input reads as it did. -/
def packReadsUptoRow : OpenClaim := { program := "ytepmcfleijiloaa", sum := "7618ae2b515ea08385808b20bd26799634d9a8df4007969dffe7df172223109c", func := "inkhorn/inkhornlaw9.PackReads", spec := "packReads", inPlace := ["internal/bytealg.abigen_runtime_cmpstring", "internal/abi.NoEscape", "internal/bytealg.MakeNoZero"], unfollowed := true, recurses := true, apart := false, narrowed := true }
def PackReadsUptoSaid : Prop := packReadsUptoRow.holds Try.pinned (OpenSpec.upto packReadsSpec)

/-- 'inkhornlaw9.PackBack', WHERE WHAT IT READS IS OF BULK AT MOST 1048576: true; the input reads as it did. -/
def packBackUptoRow : OpenClaim := { program := "ytepmcfleijiloaa", sum := "7618ae2b515ea08385808b20bd26799634d9a8df4007969dffe7df172223109c", func := "inkhorn/inkhornlaw9.PackBack", spec := "packBack", inPlace := ["internal/bytealg.abigen_runtime_cmpstring", "internal/abi.NoEscape", "internal/bytealg.MakeNoZero"], unfollowed := true, recurses := true, apart := false, narrowed := true }
def PackBackUptoSaid : Prop := packBackUptoRow.holds Try.pinned (OpenSpec.upto packBackSpec)

/-- 'inkhornlaw4.ListGood', WHERE WHAT IT READS IS OF BULK AT MOST 1048576: true; the input reads as it did. -/
def listGoodUptoRow : OpenClaim := { program := "ytepmcfleijiloaa", sum := "7618ae2b515ea08385808b20bd26799634d9a8df4007969dffe7df172223109c", func := "inkhorn/inkhornlaw4.ListGood", spec := "listGood", inPlace := ["internal/bytealg.abigen_runtime_cmpstring"], unfollowed := true, recurses := true, apart := false, narrowed := true }
def ListGoodUptoSaid : Prop := listGoodUptoRow.holds Try.pinned (OpenSpec.upto listGoodSpec)

/-- 'inkhornlaw4.ListSorted', WHERE WHAT IT READS IS OF BULK AT MOST 1048576: true; the input reads as it did. -/
def listSortedUptoRow : OpenClaim := { program := "ytepmcfleijiloaa", sum := "7618ae2b515ea08385808b20bd26799634d9a8df4007969dffe7df172223109c", func := "inkhorn/inkhornlaw4.ListSorted", spec := "listSorted", inPlace := ["internal/bytealg.abigen_runtime_cmpstring"], unfollowed := true, recurses := true, apart := false, narrowed := true }
def ListSortedUptoSaid : Prop := listSortedUptoRow.holds Try.pinned (OpenSpec.upto listSortedSpec)

/-- 'inkhornlaw4.ListAt', WHERE WHAT IT READS IS OF BULK AT MOST 1048576: true; the input reads as it did. -/
def listAtUptoRow : OpenClaim := { program := "ytepmcfleijiloaa", sum := "7618ae2b515ea08385808b20bd26799634d9a8df4007969dffe7df172223109c", func := "inkhorn/inkhornlaw4.ListAt", spec := "listAt", inPlace := ["internal/bytealg.abigen_runtime_cmpstring"], unfollowed := true, recurses := true, apart := false, narrowed := true }
def ListAtUptoSaid : Prop := listAtUptoRow.holds Try.pinned (OpenSpec.upto listAtSpec)

/-- 'inkhornlaw4.ListJoins', WHERE WHAT IT READS IS OF BULK AT MOST 1048576: true; the input reads as it did. -/
def listJoinsUptoRow : OpenClaim := { program := "ytepmcfleijiloaa", sum := "7618ae2b515ea08385808b20bd26799634d9a8df4007969dffe7df172223109c", func := "inkhorn/inkhornlaw4.ListJoins", spec := "listJoins", inPlace := ["internal/bytealg.abigen_runtime_cmpstring"], unfollowed := true, recurses := true, apart := false, narrowed := true }
def ListJoinsUptoSaid : Prop := listJoinsUptoRow.holds Try.pinned (OpenSpec.upto listJoinsSpec)

/-- 'inkhornlaw4.ListParts', WHERE WHAT IT READS IS OF BULK AT MOST 1048576: true; the input reads as it did. -/
def listPartsUptoRow : OpenClaim := { program := "ytepmcfleijiloaa", sum := "7618ae2b515ea08385808b20bd26799634d9a8df4007969dffe7df172223109c", func := "inkhorn/inkhornlaw4.ListParts", spec := "listParts", inPlace := ["internal/bytealg.abigen_runtime_cmpstring"], unfollowed := true, recurses := true, apart := false, narrowed := true }
def ListPartsUptoSaid : Prop := listPartsUptoRow.holds Try.pinned (OpenSpec.upto listPartsSpec)

/-- 'inkhornlaw4.ListThree', WHERE WHAT IT READS IS OF BULK AT MOST 1048576: true; the input reads as it did. -/
def listThreeUptoRow : OpenClaim := { program := "ytepmcfleijiloaa", sum := "7618ae2b515ea08385808b20bd26799634d9a8df4007969dffe7df172223109c", func := "inkhorn/inkhornlaw4.ListThree", spec := "listThree", inPlace := ["internal/bytealg.abigen_runtime_cmpstring"], unfollowed := true, recurses := true, apart := false, narrowed := true }
def ListThreeUptoSaid : Prop := listThreeUptoRow.holds Try.pinned (OpenSpec.upto listThreeSpec)

/-- 'inkhornlaw8.GraphPut', WHERE WHAT IT READS IS OF BULK AT MOST 1048576: true; the input reads as it did. -/
def graphPutUptoRow : OpenClaim := { program := "ytepmcfleijiloaa", sum := "7618ae2b515ea08385808b20bd26799634d9a8df4007969dffe7df172223109c", func := "inkhorn/inkhornlaw8.GraphPut", spec := "graphPut", inPlace := ["internal/bytealg.abigen_runtime_cmpstring", "internal/abi.NoEscape", "internal/bytealg.MakeNoZero"], unfollowed := true, recurses := true, apart := false, narrowed := true }
def GraphPutUptoSaid : Prop := graphPutUptoRow.holds Try.pinned (OpenSpec.upto graphPutSpec)

/-- 'inkhornlaw9.PackSize', WHERE WHAT IT READS IS OF BULK AT MOST 1048576: true; the input reads as it did. -/
def packSizeUptoRow : OpenClaim := { program := "ytepmcfleijiloaa", sum := "7618ae2b515ea08385808b20bd26799634d9a8df4007969dffe7df172223109c", func := "inkhorn/inkhornlaw9.PackSize", spec := "packSize", inPlace := ["internal/bytealg.abigen_runtime_cmpstring", "internal/abi.NoEscape", "internal/bytealg.MakeNoZero"], unfollowed := true, recurses := true, apart := false, narrowed := true }
def PackSizeUptoSaid : Prop := packSizeUptoRow.holds Try.pinned (OpenSpec.upto packSizeSpec)

end Rows
end Go.Proofs.Ytepmcfleijiloaa
