/-
  No cell of these rows narrows 'for every input' (looked for: loops, veiled, ifaces, maps, wideKeys, modest, calm, conditions, laid).
  DERIVED. THE GIVEN ROWS OF THIS SEAT. 11 by the template 'for every input the law returns true; each argument reads behind the call as it read before'; 0 by the template 'total and deterministic' (their statements: YtmdnmknmniabeaaTotals.lean).
  GIVEN WITH THE SEED: the statements are not yours to turn. If you find one false, say at which input.
  Laid BY PROGRAM, IN A SANDBOX (cutbox-rows.mjs): the forced cells as the released guide's own fill.sh prints them over the translation 7b55ec9432b6a92a… (all of the seat's roots in one cut). By AI agents, Wed Nov 11 2026. No macro, syntax, notation, axiom, sorry.
-/
import Derived.Test.YtmdnmknmniabeaaChecked
import GoSem.Claim
import GoSem.ClaimJoined
import GoSem.ClaimMapViews
import Derived.JoinedTies
import Derived.KernelRfl
namespace Go.Proofs.Ytmdnmknmniabeaa
/- THE CELL 'sum', in the pinned program and in every row, IS THE sha256 OF THE DUMP (.gsa) THAT YtmdnmknmniabeaaProg.lean LOADS. Nothing in Lean hashes anything: it is a label: what it is worth is what the hold of that sum in a sandbox is worth. -/
noncomputable def Try.pinned : Pinned := { name := "ytmdnmknmniabeaa", sum := "7b55ec9432b6a92a5d7ee6d6e0bf8fc2bc0f99b5c9a93fc97d0d93ba66b3bd03", checked := Try.checked }
namespace Rows
def none {H : Type} : Left H := { results := [], args := [] }

/-- 'pglaw6.TableTells': WHATEVER THE INPUT: true; the input reads as it did. -/
def tableTellsSpec : ChangeSpec := { name := "tableTells", fn := fun _ => fun
  | [d1, d2, d3] => { results := [.lit (.bool true)], args := [d1, d2, d3] }
  | _ => none }
def tableTellsRow : OpenClaim := { program := "ytmdnmknmniabeaa", sum := "7b55ec9432b6a92a5d7ee6d6e0bf8fc2bc0f99b5c9a93fc97d0d93ba66b3bd03", func := "pagewright/pglaw6.TableTells", spec := "tableTells", unfollowed := true, recurses := true, apart := false }
def TableTellsSaid : Prop := tableTellsRow.holds Try.pinned (OpenSpec.ofChange tableTellsSpec)

/-- ITS FALSE NEIGHBOUR: 'it returns false'. Refute it at one input. -/
def tableTellsWrong : ChangeSpec := { name := "tableTells", fn := fun _ => fun
  | [d1, d2, d3] => { results := [.lit (.bool false)], args := [d1, d2, d3] }
  | _ => none }
def TableTellsWrongFalsely : Prop := tableTellsRow.holds Try.pinned (OpenSpec.ofChange tableTellsWrong)

/-- 'pglaw6.TableSets': WHATEVER THE INPUT: true; the input reads as it did. -/
def tableSetsSpec : ChangeSpec := { name := "tableSets", fn := fun _ => fun
  | [d1, d2, d3, d4] => { results := [.lit (.bool true)], args := [d1, d2, d3, d4] }
  | _ => none }
def tableSetsRow : OpenClaim := { program := "ytmdnmknmniabeaa", sum := "7b55ec9432b6a92a5d7ee6d6e0bf8fc2bc0f99b5c9a93fc97d0d93ba66b3bd03", func := "pagewright/pglaw6.TableSets", spec := "tableSets", unfollowed := true, recurses := true, apart := false }
def TableSetsSaid : Prop := tableSetsRow.holds Try.pinned (OpenSpec.ofChange tableSetsSpec)

/-- ITS FALSE NEIGHBOUR: 'it returns false'. Refute it at one input. -/
def tableSetsWrong : ChangeSpec := { name := "tableSets", fn := fun _ => fun
  | [d1, d2, d3, d4] => { results := [.lit (.bool false)], args := [d1, d2, d3, d4] }
  | _ => none }
def TableSetsWrongFalsely : Prop := tableSetsRow.holds Try.pinned (OpenSpec.ofChange tableSetsWrong)

/-- 'pglaw6.TableHalves': WHATEVER THE INPUT: true; the input reads as it did. -/
def tableHalvesSpec : ChangeSpec := { name := "tableHalves", fn := fun _ => fun
  | [d1, d2] => { results := [.lit (.bool true)], args := [d1, d2] }
  | _ => none }
def tableHalvesRow : OpenClaim := { program := "ytmdnmknmniabeaa", sum := "7b55ec9432b6a92a5d7ee6d6e0bf8fc2bc0f99b5c9a93fc97d0d93ba66b3bd03", func := "pagewright/pglaw6.TableHalves", spec := "tableHalves", unfollowed := true, recurses := true, apart := false }
def TableHalvesSaid : Prop := tableHalvesRow.holds Try.pinned (OpenSpec.ofChange tableHalvesSpec)

/-- ITS FALSE NEIGHBOUR: 'it returns false'. Refute it at one input. -/
def tableHalvesWrong : ChangeSpec := { name := "tableHalves", fn := fun _ => fun
  | [d1, d2] => { results := [.lit (.bool false)], args := [d1, d2] }
  | _ => none }
def TableHalvesWrongFalsely : Prop := tableHalvesRow.holds Try.pinned (OpenSpec.ofChange tableHalvesWrong)

/-- 'pglaw5.StoreTells': WHATEVER THE INPUT: true; the input reads as it did. -/
def storeTellsSpec : ChangeSpec := { name := "storeTells", fn := fun _ => fun
  | [d1, d2, d3, d4] => { results := [.lit (.bool true)], args := [d1, d2, d3, d4] }
  | _ => none }
def storeTellsRow : OpenClaim := { program := "ytmdnmknmniabeaa", sum := "7b55ec9432b6a92a5d7ee6d6e0bf8fc2bc0f99b5c9a93fc97d0d93ba66b3bd03", func := "pagewright/pglaw5.StoreTells", spec := "storeTells", unfollowed := true, recurses := true, apart := false }
def StoreTellsSaid : Prop := storeTellsRow.holds Try.pinned (OpenSpec.ofChange storeTellsSpec)

/-- ITS FALSE NEIGHBOUR: 'it returns false'. Refute it at one input. -/
def storeTellsWrong : ChangeSpec := { name := "storeTells", fn := fun _ => fun
  | [d1, d2, d3, d4] => { results := [.lit (.bool false)], args := [d1, d2, d3, d4] }
  | _ => none }
def StoreTellsWrongFalsely : Prop := storeTellsRow.holds Try.pinned (OpenSpec.ofChange storeTellsWrong)

/-- 'pglaw5.StoreBlock': WHATEVER THE INPUT: true; the input reads as it did. -/
def storeBlockSpec : ChangeSpec := { name := "storeBlock", fn := fun _ => fun
  | [d1, d2, d3] => { results := [.lit (.bool true)], args := [d1, d2, d3] }
  | _ => none }
def storeBlockRow : OpenClaim := { program := "ytmdnmknmniabeaa", sum := "7b55ec9432b6a92a5d7ee6d6e0bf8fc2bc0f99b5c9a93fc97d0d93ba66b3bd03", func := "pagewright/pglaw5.StoreBlock", spec := "storeBlock", unfollowed := true, recurses := true, apart := false }
def StoreBlockSaid : Prop := storeBlockRow.holds Try.pinned (OpenSpec.ofChange storeBlockSpec)

/-- ITS FALSE NEIGHBOUR: 'it returns false'. Refute it at one input. -/
def storeBlockWrong : ChangeSpec := { name := "storeBlock", fn := fun _ => fun
  | [d1, d2, d3] => { results := [.lit (.bool false)], args := [d1, d2, d3] }
  | _ => none }
def StoreBlockWrongFalsely : Prop := storeBlockRow.holds Try.pinned (OpenSpec.ofChange storeBlockWrong)

/-- 'pglaw5.StoreSize': WHATEVER THE INPUT: true; the input reads as it did. -/
def storeSizeSpec : ChangeSpec := { name := "storeSize", fn := fun _ => fun
  | [d1, d2, d3, d4] => { results := [.lit (.bool true)], args := [d1, d2, d3, d4] }
  | _ => none }
def storeSizeRow : OpenClaim := { program := "ytmdnmknmniabeaa", sum := "7b55ec9432b6a92a5d7ee6d6e0bf8fc2bc0f99b5c9a93fc97d0d93ba66b3bd03", func := "pagewright/pglaw5.StoreSize", spec := "storeSize", unfollowed := true, recurses := true, apart := false }
def StoreSizeSaid : Prop := storeSizeRow.holds Try.pinned (OpenSpec.ofChange storeSizeSpec)

/-- ITS FALSE NEIGHBOUR: 'it returns false'. Refute it at one input. -/
def storeSizeWrong : ChangeSpec := { name := "storeSize", fn := fun _ => fun
  | [d1, d2, d3, d4] => { results := [.lit (.bool false)], args := [d1, d2, d3, d4] }
  | _ => none }
def StoreSizeWrongFalsely : Prop := storeSizeRow.holds Try.pinned (OpenSpec.ofChange storeSizeWrong)

/-- 'pglaw7.AreasTells': WHATEVER THE INPUT: true; the input reads as it did. -/
def areasTellsSpec : ChangeSpec := { name := "areasTells", fn := fun _ => fun
  | [d1, d2, d3, d4, d5, d6] => { results := [.lit (.bool true)], args := [d1, d2, d3, d4, d5, d6] }
  | _ => none }
def areasTellsRow : OpenClaim := { program := "ytmdnmknmniabeaa", sum := "7b55ec9432b6a92a5d7ee6d6e0bf8fc2bc0f99b5c9a93fc97d0d93ba66b3bd03", func := "pagewright/pglaw7.AreasTells", spec := "areasTells", inPlace := ["slices.overlaps[pagewright/api.Area]"], unfollowed := true, recurses := true, apart := false }
def AreasTellsSaid : Prop := areasTellsRow.holds Try.pinned (OpenSpec.ofChange areasTellsSpec)

/-- ITS FALSE NEIGHBOUR: 'it returns false'. Refute it at one input. -/
def areasTellsWrong : ChangeSpec := { name := "areasTells", fn := fun _ => fun
  | [d1, d2, d3, d4, d5, d6] => { results := [.lit (.bool false)], args := [d1, d2, d3, d4, d5, d6] }
  | _ => none }
def AreasTellsWrongFalsely : Prop := areasTellsRow.holds Try.pinned (OpenSpec.ofChange areasTellsWrong)

/-- 'pglaw7.AreasBack': WHATEVER THE INPUT: true; the input reads as it did. -/
def areasBackSpec : ChangeSpec := { name := "areasBack", fn := fun _ => fun
  | [d1, d2] => { results := [.lit (.bool true)], args := [d1, d2] }
  | _ => none }
def areasBackRow : OpenClaim := { program := "ytmdnmknmniabeaa", sum := "7b55ec9432b6a92a5d7ee6d6e0bf8fc2bc0f99b5c9a93fc97d0d93ba66b3bd03", func := "pagewright/pglaw7.AreasBack", spec := "areasBack", inPlace := ["slices.overlaps[pagewright/api.Area]"], unfollowed := true, recurses := true, apart := false }
def AreasBackSaid : Prop := areasBackRow.holds Try.pinned (OpenSpec.ofChange areasBackSpec)

/-- ITS FALSE NEIGHBOUR: 'it returns false'. Refute it at one input. -/
def areasBackWrong : ChangeSpec := { name := "areasBack", fn := fun _ => fun
  | [d1, d2] => { results := [.lit (.bool false)], args := [d1, d2] }
  | _ => none }
def AreasBackWrongFalsely : Prop := areasBackRow.holds Try.pinned (OpenSpec.ofChange areasBackWrong)

/-- 'pglaw7.AreasSplit': WHATEVER THE INPUT: true; the input reads as it did. -/
def areasSplitSpec : ChangeSpec := { name := "areasSplit", fn := fun _ => fun
  | [d1, d2, d3, d4, d5, d6] => { results := [.lit (.bool true)], args := [d1, d2, d3, d4, d5, d6] }
  | _ => none }
def areasSplitRow : OpenClaim := { program := "ytmdnmknmniabeaa", sum := "7b55ec9432b6a92a5d7ee6d6e0bf8fc2bc0f99b5c9a93fc97d0d93ba66b3bd03", func := "pagewright/pglaw7.AreasSplit", spec := "areasSplit", inPlace := ["slices.overlaps[pagewright/api.Area]"], unfollowed := true, recurses := true, apart := false }
def AreasSplitSaid : Prop := areasSplitRow.holds Try.pinned (OpenSpec.ofChange areasSplitSpec)

/-- ITS FALSE NEIGHBOUR: 'it returns false'. Refute it at one input. -/
def areasSplitWrong : ChangeSpec := { name := "areasSplit", fn := fun _ => fun
  | [d1, d2, d3, d4, d5, d6] => { results := [.lit (.bool false)], args := [d1, d2, d3, d4, d5, d6] }
  | _ => none }
def AreasSplitWrongFalsely : Prop := areasSplitRow.holds Try.pinned (OpenSpec.ofChange areasSplitWrong)

/-- 'pglaw7.AreasTwice': WHATEVER THE INPUT: true; the input reads as it did. -/
def areasTwiceSpec : ChangeSpec := { name := "areasTwice", fn := fun _ => fun
  | [d1, d2, d3, d4, d5] => { results := [.lit (.bool true)], args := [d1, d2, d3, d4, d5] }
  | _ => none }
def areasTwiceRow : OpenClaim := { program := "ytmdnmknmniabeaa", sum := "7b55ec9432b6a92a5d7ee6d6e0bf8fc2bc0f99b5c9a93fc97d0d93ba66b3bd03", func := "pagewright/pglaw7.AreasTwice", spec := "areasTwice", inPlace := ["slices.overlaps[pagewright/api.Area]"], unfollowed := true, recurses := true, apart := false }
def AreasTwiceSaid : Prop := areasTwiceRow.holds Try.pinned (OpenSpec.ofChange areasTwiceSpec)

/-- ITS FALSE NEIGHBOUR: 'it returns false'. Refute it at one input. -/
def areasTwiceWrong : ChangeSpec := { name := "areasTwice", fn := fun _ => fun
  | [d1, d2, d3, d4, d5] => { results := [.lit (.bool false)], args := [d1, d2, d3, d4, d5] }
  | _ => none }
def AreasTwiceWrongFalsely : Prop := areasTwiceRow.holds Try.pinned (OpenSpec.ofChange areasTwiceWrong)

/-- 'pglaw7.AreasRoom': WHATEVER THE INPUT: true; the input reads as it did. -/
def areasRoomSpec : ChangeSpec := { name := "areasRoom", fn := fun _ => fun
  | [d1, d2] => { results := [.lit (.bool true)], args := [d1, d2] }
  | _ => none }
def areasRoomRow : OpenClaim := { program := "ytmdnmknmniabeaa", sum := "7b55ec9432b6a92a5d7ee6d6e0bf8fc2bc0f99b5c9a93fc97d0d93ba66b3bd03", func := "pagewright/pglaw7.AreasRoom", spec := "areasRoom", inPlace := ["slices.overlaps[pagewright/api.Area]"], unfollowed := true, recurses := true, apart := false }
def AreasRoomSaid : Prop := areasRoomRow.holds Try.pinned (OpenSpec.ofChange areasRoomSpec)

/-- ITS FALSE NEIGHBOUR: 'it returns false'. Refute it at one input. -/
def areasRoomWrong : ChangeSpec := { name := "areasRoom", fn := fun _ => fun
  | [d1, d2] => { results := [.lit (.bool false)], args := [d1, d2] }
  | _ => none }
def AreasRoomWrongFalsely : Prop := areasRoomRow.holds Try.pinned (OpenSpec.ofChange areasRoomWrong)

/- THE SECOND FORM. 'bulk': how many values and letters a reading holds, each counted each time it is reached (what is shared counts as often as it is met; a slice's spare places count too). A statement '..UptoSaid' is the law's where the arguments, and the package variables that the reading takes, are together of bulk at most 1048576: NARROWER than '..Said'. Prove '..Said' where nothing that the law and all that it calls make is longer than what came in: it says more and counts as full. Else prove '..UptoSaid'. A law counts once. -/
mutual
def uptoBulk {H : Type} : DataW H → Nat
  | .lit (.string bytes) => bytes.length + 1
  | .lit _ => 1
  | .nil => 1
  | .ptr d => uptoBulk d + 1
  | .slice elems spare => uptoBulkAll elems + uptoBulkAll spare + 1
  | .agg parts => uptoBulkAll parts + 1
  | .iface _ d => uptoBulk d + 1
  | .map entries => uptoBulkEntries entries + 1
  | .held _ => 1
def uptoBulkAll {H : Type} : List (DataW H) → Nat
  | [] => 0
  | d :: r => uptoBulk d + uptoBulkAll r
def uptoBulkEntries {H : Type} : List (Lit × DataW H) → Nat
  | [] => 0
  | x :: r => uptoBulkEntry x + uptoBulkEntries r
def uptoBulkEntry {H : Type} : Lit × DataW H → Nat
  | (.string bytes, d) => bytes.length + uptoBulk d + 1
  | (_, d) => uptoBulk d + 1
 end
def uptoSmall : (H : Type) → List (DataW H) → Bool := fun _ ds => decide (uptoBulkAll ds ≤ 1048576)
def OpenSpec.upto (s : _root_.Go.ChangeSpec) : _root_.Go.OpenSpec := { _root_.Go.OpenSpec.ofChange s with cond := some uptoSmall }

/-- 'pglaw6.TableTells', WHERE WHAT IT READS IS OF BULK AT MOST 1048576: true; the input reads as it did. -/
def tableTellsUptoRow : OpenClaim := { program := "ytmdnmknmniabeaa", sum := "7b55ec9432b6a92a5d7ee6d6e0bf8fc2bc0f99b5c9a93fc97d0d93ba66b3bd03", func := "pagewright/pglaw6.TableTells", spec := "tableTells", unfollowed := true, recurses := true, apart := false, narrowed := true }
def TableTellsUptoSaid : Prop := tableTellsUptoRow.holds Try.pinned (OpenSpec.upto tableTellsSpec)

/-- 'pglaw6.TableSets', WHERE WHAT IT READS IS OF BULK AT MOST 1048576: true; the input reads as it did. -/
def tableSetsUptoRow : OpenClaim := { program := "ytmdnmknmniabeaa", sum := "7b55ec9432b6a92a5d7ee6d6e0bf8fc2bc0f99b5c9a93fc97d0d93ba66b3bd03", func := "pagewright/pglaw6.TableSets", spec := "tableSets", unfollowed := true, recurses := true, apart := false, narrowed := true }
def TableSetsUptoSaid : Prop := tableSetsUptoRow.holds Try.pinned (OpenSpec.upto tableSetsSpec)

/-- 'pglaw6.TableHalves', WHERE WHAT IT READS IS OF BULK AT MOST 1048576: true; the input reads as it did. -/
def tableHalvesUptoRow : OpenClaim := { program := "ytmdnmknmniabeaa", sum := "7b55ec9432b6a92a5d7ee6d6e0bf8fc2bc0f99b5c9a93fc97d0d93ba66b3bd03", func := "pagewright/pglaw6.TableHalves", spec := "tableHalves", unfollowed := true, recurses := true, apart := false, narrowed := true }
def TableHalvesUptoSaid : Prop := tableHalvesUptoRow.holds Try.pinned (OpenSpec.upto tableHalvesSpec)

/-- 'pglaw5.StoreTells', WHERE WHAT IT READS IS OF BULK AT MOST 1048576: true; the input reads as it did. -/
def storeTellsUptoRow : OpenClaim := { program := "ytmdnmknmniabeaa", sum := "7b55ec9432b6a92a5d7ee6d6e0bf8fc2bc0f99b5c9a93fc97d0d93ba66b3bd03", func := "pagewright/pglaw5.StoreTells", spec := "storeTells", unfollowed := true, recurses := true, apart := false, narrowed := true }
def StoreTellsUptoSaid : Prop := storeTellsUptoRow.holds Try.pinned (OpenSpec.upto storeTellsSpec)

/-- 'pglaw5.StoreBlock', WHERE WHAT IT READS IS OF BULK AT MOST 1048576: true; the input reads as it did. -/
def storeBlockUptoRow : OpenClaim := { program := "ytmdnmknmniabeaa", sum := "7b55ec9432b6a92a5d7ee6d6e0bf8fc2bc0f99b5c9a93fc97d0d93ba66b3bd03", func := "pagewright/pglaw5.StoreBlock", spec := "storeBlock", unfollowed := true, recurses := true, apart := false, narrowed := true }
def StoreBlockUptoSaid : Prop := storeBlockUptoRow.holds Try.pinned (OpenSpec.upto storeBlockSpec)

/-- 'pglaw5.StoreSize', WHERE WHAT IT READS IS OF BULK AT MOST 1048576: true; the input reads as it did. -/
def storeSizeUptoRow : OpenClaim := { program := "ytmdnmknmniabeaa", sum := "7b55ec9432b6a92a5d7ee6d6e0bf8fc2bc0f99b5c9a93fc97d0d93ba66b3bd03", func := "pagewright/pglaw5.StoreSize", spec := "storeSize", unfollowed := true, recurses := true, apart := false, narrowed := true }
def StoreSizeUptoSaid : Prop := storeSizeUptoRow.holds Try.pinned (OpenSpec.upto storeSizeSpec)

/-- 'pglaw7.AreasTells', WHERE WHAT IT READS IS OF BULK AT MOST 1048576: true; the input reads as it did. -/
def areasTellsUptoRow : OpenClaim := { program := "ytmdnmknmniabeaa", sum := "7b55ec9432b6a92a5d7ee6d6e0bf8fc2bc0f99b5c9a93fc97d0d93ba66b3bd03", func := "pagewright/pglaw7.AreasTells", spec := "areasTells", inPlace := ["slices.overlaps[pagewright/api.Area]"], unfollowed := true, recurses := true, apart := false, narrowed := true }
def AreasTellsUptoSaid : Prop := areasTellsUptoRow.holds Try.pinned (OpenSpec.upto areasTellsSpec)

/-- 'pglaw7.AreasBack', WHERE WHAT IT READS IS OF BULK AT MOST 1048576: true; the input reads as it did. -/
def areasBackUptoRow : OpenClaim := { program := "ytmdnmknmniabeaa", sum := "7b55ec9432b6a92a5d7ee6d6e0bf8fc2bc0f99b5c9a93fc97d0d93ba66b3bd03", func := "pagewright/pglaw7.AreasBack", spec := "areasBack", inPlace := ["slices.overlaps[pagewright/api.Area]"], unfollowed := true, recurses := true, apart := false, narrowed := true }
def AreasBackUptoSaid : Prop := areasBackUptoRow.holds Try.pinned (OpenSpec.upto areasBackSpec)

/-- 'pglaw7.AreasSplit', WHERE WHAT IT READS IS OF BULK AT MOST 1048576: true; the input reads as it did. -/
def areasSplitUptoRow : OpenClaim := { program := "ytmdnmknmniabeaa", sum := "7b55ec9432b6a92a5d7ee6d6e0bf8fc2bc0f99b5c9a93fc97d0d93ba66b3bd03", func := "pagewright/pglaw7.AreasSplit", spec := "areasSplit", inPlace := ["slices.overlaps[pagewright/api.Area]"], unfollowed := true, recurses := true, apart := false, narrowed := true }
def AreasSplitUptoSaid : Prop := areasSplitUptoRow.holds Try.pinned (OpenSpec.upto areasSplitSpec)

/-- 'pglaw7.AreasTwice', WHERE WHAT IT READS IS OF BULK AT MOST 1048576: true; the input reads as it did. -/
def areasTwiceUptoRow : OpenClaim := { program := "ytmdnmknmniabeaa", sum := "7b55ec9432b6a92a5d7ee6d6e0bf8fc2bc0f99b5c9a93fc97d0d93ba66b3bd03", func := "pagewright/pglaw7.AreasTwice", spec := "areasTwice", inPlace := ["slices.overlaps[pagewright/api.Area]"], unfollowed := true, recurses := true, apart := false, narrowed := true }
def AreasTwiceUptoSaid : Prop := areasTwiceUptoRow.holds Try.pinned (OpenSpec.upto areasTwiceSpec)

/-- 'pglaw7.AreasRoom', WHERE WHAT IT READS IS OF BULK AT MOST 1048576: true; the input reads as it did. -/
def areasRoomUptoRow : OpenClaim := { program := "ytmdnmknmniabeaa", sum := "7b55ec9432b6a92a5d7ee6d6e0bf8fc2bc0f99b5c9a93fc97d0d93ba66b3bd03", func := "pagewright/pglaw7.AreasRoom", spec := "areasRoom", inPlace := ["slices.overlaps[pagewright/api.Area]"], unfollowed := true, recurses := true, apart := false, narrowed := true }
def AreasRoomUptoSaid : Prop := areasRoomUptoRow.holds Try.pinned (OpenSpec.upto areasRoomSpec)

end Rows
end Go.Proofs.Ytmdnmknmniabeaa
