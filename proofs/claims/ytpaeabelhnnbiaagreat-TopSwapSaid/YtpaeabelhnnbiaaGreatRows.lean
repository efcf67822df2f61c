/-
  No cell of these rows narrows 'for every input' (looked for: loops, veiled, ifaces, maps, wideKeys, modest, calm, conditions, laid).
  DERIVED. THE GIVEN ROWS OF THIS SEAT. 10 by the template 'for every input the law returns true; each argument reads behind the call as it read before'; 0 by the template 'total and deterministic' (their statements: YtpaeabelhnnbiaaGreatTotals.lean).
  GIVEN WITH THE SEED: the statements are not yours to turn. If you find one false, say at which input.
  Laid BY PROGRAM, IN A SANDBOX (cutbox-rows.mjs): the forced cells as the released guide's own fill.sh prints them over the translation ae818508f0a43e7a… (all of the seat's roots in one cut). By AI agents, Wed Nov 11 2026. No macro, syntax, notation, axiom, sorry.
-/
import Derived.Test.YtpaeabelhnnbiaaGreatChecked
import GoSem.Claim
import GoSem.ClaimJoined
import GoSem.ClaimMapViews
import Derived.JoinedTies
import Derived.KernelRfl
namespace Go.Proofs.YtpaeabelhnnbiaaGreat
/- THE CELL 'sum', in the pinned program and in every row, IS THE sha256 OF THE DUMP (.gsa) THAT YtpaeabelhnnbiaaGreatProg.lean LOADS. Nothing in Lean hashes anything: it is a label: what it is worth is what the hold of that sum in a sandbox is worth. -/
noncomputable def Tryz.pinned : Pinned := { name := "ytpaeabelhnnbiaagreat", sum := "ae818508f0a43e7a192526beab8b18f702ee3bc87fd86f58ca8e8d328ade525a", checked := Tryz.checked }
namespace Rows
def none {H : Type} : Left H := { results := [], args := [] }

/-- 'pgtop.TopSwap': WHATEVER THE INPUT: true; the input reads as it did. -/
def topSwapSpec : ChangeSpec := { name := "topSwap", fn := fun _ => fun
  | [d1, d2, d3] => { results := [.lit (.bool true)], args := [d1, d2, d3] }
  | _ => none }
def topSwapRow : OpenClaim := { program := "ytpaeabelhnnbiaagreat", sum := "ae818508f0a43e7a192526beab8b18f702ee3bc87fd86f58ca8e8d328ade525a", func := "pagewright/pgtop.TopSwap", spec := "topSwap", inPlace := ["slices.overlaps[pagewright/api.Area]", "slices.overlaps[pagewright/api.Cached]"], unfollowed := true, recurses := true, apart := false }
def TopSwapSaid : Prop := topSwapRow.holds Tryz.pinned (OpenSpec.ofChange topSwapSpec)

/-- ITS FALSE NEIGHBOUR: 'it returns false'. Refute it at one input. -/
def topSwapWrong : ChangeSpec := { name := "topSwap", fn := fun _ => fun
  | [d1, d2, d3] => { results := [.lit (.bool false)], args := [d1, d2, d3] }
  | _ => none }
def TopSwapWrongFalsely : Prop := topSwapRow.holds Tryz.pinned (OpenSpec.ofChange topSwapWrong)

/-- 'pgtop.TopFork': WHATEVER THE INPUT: true; the input reads as it did. -/
def topForkSpec : ChangeSpec := { name := "topFork", fn := fun _ => fun
  | [d1, d2, d3, d4, d5] => { results := [.lit (.bool true)], args := [d1, d2, d3, d4, d5] }
  | _ => none }
def topForkRow : OpenClaim := { program := "ytpaeabelhnnbiaagreat", sum := "ae818508f0a43e7a192526beab8b18f702ee3bc87fd86f58ca8e8d328ade525a", func := "pagewright/pgtop.TopFork", spec := "topFork", inPlace := ["slices.overlaps[pagewright/api.Area]", "slices.overlaps[pagewright/api.Cached]"], unfollowed := true, recurses := true, apart := false }
def TopForkSaid : Prop := topForkRow.holds Tryz.pinned (OpenSpec.ofChange topForkSpec)

/-- ITS FALSE NEIGHBOUR: 'it returns false'. Refute it at one input. -/
def topForkWrong : ChangeSpec := { name := "topFork", fn := fun _ => fun
  | [d1, d2, d3, d4, d5] => { results := [.lit (.bool false)], args := [d1, d2, d3, d4, d5] }
  | _ => none }
def TopForkWrongFalsely : Prop := topForkRow.holds Tryz.pinned (OpenSpec.ofChange topForkWrong)

/-- 'pglaw12.KernelFlat': WHATEVER THE INPUT: true; the input reads as it did. -/
def kernelFlatSpec : ChangeSpec := { name := "kernelFlat", fn := fun _ => fun
  | [d1, d2] => { results := [.lit (.bool true)], args := [d1, d2] }
  | _ => none }
def kernelFlatRow : OpenClaim := { program := "ytpaeabelhnnbiaagreat", sum := "ae818508f0a43e7a192526beab8b18f702ee3bc87fd86f58ca8e8d328ade525a", func := "pagewright/pglaw12.KernelFlat", spec := "kernelFlat", inPlace := ["slices.overlaps[pagewright/api.Area]", "slices.overlaps[pagewright/api.Cached]"], unfollowed := true, recurses := true, apart := false }
def KernelFlatSaid : Prop := kernelFlatRow.holds Tryz.pinned (OpenSpec.ofChange kernelFlatSpec)

/-- ITS FALSE NEIGHBOUR: 'it returns false'. Refute it at one input. -/
def kernelFlatWrong : ChangeSpec := { name := "kernelFlat", fn := fun _ => fun
  | [d1, d2] => { results := [.lit (.bool false)], args := [d1, d2] }
  | _ => none }
def KernelFlatWrongFalsely : Prop := kernelFlatRow.holds Tryz.pinned (OpenSpec.ofChange kernelFlatWrong)

/-- 'pglaw12.KernelUpTo': WHATEVER THE INPUT: true; the input reads as it did. -/
def kernelUpToSpec : ChangeSpec := { name := "kernelUpTo", fn := fun _ => fun
  | [d1, d2] => { results := [.lit (.bool true)], args := [d1, d2] }
  | _ => none }
def kernelUpToRow : OpenClaim := { program := "ytpaeabelhnnbiaagreat", sum := "ae818508f0a43e7a192526beab8b18f702ee3bc87fd86f58ca8e8d328ade525a", func := "pagewright/pglaw12.KernelUpTo", spec := "kernelUpTo", inPlace := ["slices.overlaps[pagewright/api.Area]", "slices.overlaps[pagewright/api.Cached]"], unfollowed := true, recurses := true, apart := false }
def KernelUpToSaid : Prop := kernelUpToRow.holds Tryz.pinned (OpenSpec.ofChange kernelUpToSpec)

/-- ITS FALSE NEIGHBOUR: 'it returns false'. Refute it at one input. -/
def kernelUpToWrong : ChangeSpec := { name := "kernelUpTo", fn := fun _ => fun
  | [d1, d2] => { results := [.lit (.bool false)], args := [d1, d2] }
  | _ => none }
def KernelUpToWrongFalsely : Prop := kernelUpToRow.holds Tryz.pinned (OpenSpec.ofChange kernelUpToWrong)

/-- 'pglaw12.KernelFew': WHATEVER THE INPUT: true; the input reads as it did. -/
def kernelFewSpec : ChangeSpec := { name := "kernelFew", fn := fun _ => fun
  | [d1, d2, d3, d4] => { results := [.lit (.bool true)], args := [d1, d2, d3, d4] }
  | _ => none }
def kernelFewRow : OpenClaim := { program := "ytpaeabelhnnbiaagreat", sum := "ae818508f0a43e7a192526beab8b18f702ee3bc87fd86f58ca8e8d328ade525a", func := "pagewright/pglaw12.KernelFew", spec := "kernelFew", inPlace := ["slices.overlaps[pagewright/api.Area]", "slices.overlaps[pagewright/api.Cached]"], unfollowed := true, recurses := true, apart := false }
def KernelFewSaid : Prop := kernelFewRow.holds Tryz.pinned (OpenSpec.ofChange kernelFewSpec)

/-- ITS FALSE NEIGHBOUR: 'it returns false'. Refute it at one input. -/
def kernelFewWrong : ChangeSpec := { name := "kernelFew", fn := fun _ => fun
  | [d1, d2, d3, d4] => { results := [.lit (.bool false)], args := [d1, d2, d3, d4] }
  | _ => none }
def KernelFewWrongFalsely : Prop := kernelFewRow.holds Tryz.pinned (OpenSpec.ofChange kernelFewWrong)

/-- 'pglaw12.KernelCrash': WHATEVER THE INPUT: true; the input reads as it did. -/
def kernelCrashSpec : ChangeSpec := { name := "kernelCrash", fn := fun _ => fun
  | [d1, d2, d3] => { results := [.lit (.bool true)], args := [d1, d2, d3] }
  | _ => none }
def kernelCrashRow : OpenClaim := { program := "ytpaeabelhnnbiaagreat", sum := "ae818508f0a43e7a192526beab8b18f702ee3bc87fd86f58ca8e8d328ade525a", func := "pagewright/pglaw12.KernelCrash", spec := "kernelCrash", inPlace := ["slices.overlaps[pagewright/api.Area]", "slices.overlaps[pagewright/api.Cached]"], unfollowed := true, recurses := true, apart := false }
def KernelCrashSaid : Prop := kernelCrashRow.holds Tryz.pinned (OpenSpec.ofChange kernelCrashSpec)

/-- ITS FALSE NEIGHBOUR: 'it returns false'. Refute it at one input. -/
def kernelCrashWrong : ChangeSpec := { name := "kernelCrash", fn := fun _ => fun
  | [d1, d2, d3] => { results := [.lit (.bool false)], args := [d1, d2, d3] }
  | _ => none }
def KernelCrashWrongFalsely : Prop := kernelCrashRow.holds Tryz.pinned (OpenSpec.ofChange kernelCrashWrong)

/-- 'pglaw12.KernelSync': WHATEVER THE INPUT: true; the input reads as it did. -/
def kernelSyncSpec : ChangeSpec := { name := "kernelSync", fn := fun _ => fun
  | [d1, d2, d3, d4] => { results := [.lit (.bool true)], args := [d1, d2, d3, d4] }
  | _ => none }
def kernelSyncRow : OpenClaim := { program := "ytpaeabelhnnbiaagreat", sum := "ae818508f0a43e7a192526beab8b18f702ee3bc87fd86f58ca8e8d328ade525a", func := "pagewright/pglaw12.KernelSync", spec := "kernelSync", inPlace := ["slices.overlaps[pagewright/api.Area]", "slices.overlaps[pagewright/api.Cached]"], unfollowed := true, recurses := true, apart := false }
def KernelSyncSaid : Prop := kernelSyncRow.holds Tryz.pinned (OpenSpec.ofChange kernelSyncSpec)

/-- ITS FALSE NEIGHBOUR: 'it returns false'. Refute it at one input. -/
def kernelSyncWrong : ChangeSpec := { name := "kernelSync", fn := fun _ => fun
  | [d1, d2, d3, d4] => { results := [.lit (.bool false)], args := [d1, d2, d3, d4] }
  | _ => none }
def KernelSyncWrongFalsely : Prop := kernelSyncRow.holds Tryz.pinned (OpenSpec.ofChange kernelSyncWrong)

/-- 'pgtop.TopCut': WHATEVER THE INPUT: true; the input reads as it did. -/
def topCutSpec : ChangeSpec := { name := "topCut", fn := fun _ => fun
  | [d1, d2, d3, d4, d5] => { results := [.lit (.bool true)], args := [d1, d2, d3, d4, d5] }
  | _ => none }
def topCutRow : OpenClaim := { program := "ytpaeabelhnnbiaagreat", sum := "ae818508f0a43e7a192526beab8b18f702ee3bc87fd86f58ca8e8d328ade525a", func := "pagewright/pgtop.TopCut", spec := "topCut", inPlace := ["slices.overlaps[pagewright/api.Area]", "slices.overlaps[pagewright/api.Cached]"], unfollowed := true, recurses := true, apart := false }
def TopCutSaid : Prop := topCutRow.holds Tryz.pinned (OpenSpec.ofChange topCutSpec)

/-- ITS FALSE NEIGHBOUR: 'it returns false'. Refute it at one input. -/
def topCutWrong : ChangeSpec := { name := "topCut", fn := fun _ => fun
  | [d1, d2, d3, d4, d5] => { results := [.lit (.bool false)], args := [d1, d2, d3, d4, d5] }
  | _ => none }
def TopCutWrongFalsely : Prop := topCutRow.holds Tryz.pinned (OpenSpec.ofChange topCutWrong)

/-- 'pgtop.TopMapped': WHATEVER THE INPUT: true; the input reads as it did. -/
def topMappedSpec : ChangeSpec := { name := "topMapped", fn := fun _ => fun
  | [d1, d2, d3, d4] => { results := [.lit (.bool true)], args := [d1, d2, d3, d4] }
  | _ => none }
def topMappedRow : OpenClaim := { program := "ytpaeabelhnnbiaagreat", sum := "ae818508f0a43e7a192526beab8b18f702ee3bc87fd86f58ca8e8d328ade525a", func := "pagewright/pgtop.TopMapped", spec := "topMapped", inPlace := ["slices.overlaps[pagewright/api.Area]", "slices.overlaps[pagewright/api.Cached]"], unfollowed := true, recurses := true, apart := false }
def TopMappedSaid : Prop := topMappedRow.holds Tryz.pinned (OpenSpec.ofChange topMappedSpec)

/-- ITS FALSE NEIGHBOUR: 'it returns false'. Refute it at one input. -/
def topMappedWrong : ChangeSpec := { name := "topMapped", fn := fun _ => fun
  | [d1, d2, d3, d4] => { results := [.lit (.bool false)], args := [d1, d2, d3, d4] }
  | _ => none }
def TopMappedWrongFalsely : Prop := topMappedRow.holds Tryz.pinned (OpenSpec.ofChange topMappedWrong)

/-- 'pgtop.TopProcs': WHATEVER THE INPUT: true; the input reads as it did. -/
def topProcsSpec : ChangeSpec := { name := "topProcs", fn := fun _ => fun
  | [d] => { results := [.lit (.bool true)], args := [d] }
  | _ => none }
def topProcsRow : OpenClaim := { program := "ytpaeabelhnnbiaagreat", sum := "ae818508f0a43e7a192526beab8b18f702ee3bc87fd86f58ca8e8d328ade525a", func := "pagewright/pgtop.TopProcs", spec := "topProcs", inPlace := ["slices.overlaps[pagewright/api.Area]", "slices.overlaps[pagewright/api.Cached]"], unfollowed := true, recurses := true, apart := false }
def TopProcsSaid : Prop := topProcsRow.holds Tryz.pinned (OpenSpec.ofChange topProcsSpec)

/-- ITS FALSE NEIGHBOUR: 'it returns false'. Refute it at one input. -/
def topProcsWrong : ChangeSpec := { name := "topProcs", fn := fun _ => fun
  | [d] => { results := [.lit (.bool false)], args := [d] }
  | _ => none }
def TopProcsWrongFalsely : Prop := topProcsRow.holds Tryz.pinned (OpenSpec.ofChange topProcsWrong)

/- THE SECOND FORM. 'bulk': how many values and letters a reading holds, each counted each time it is reached (what is shared counts as often as it is met; a slice's spare places count too). A statement '..UptoSaid' is the law's where the arguments, and the package variables that the reading takes, are together of bulk at most 1048576: NARROWER than '..Said'. Prove '..Said' where nothing that the law and all that it calls make is longer than what came in: it says more and counts as full. Else prove '..UptoSaid'. A law counts once. -/
mutual
def uptoBulk {H : Type} : DataW H → Nat
  | .lit (.string bytes) => bytes.length + 1
  | .lit _ => 1
  | .nil => 1
  | .ptr d => uptoBulk d + 1
  | .slice elems spare => uptoBulkAll elems + uptoBulkAll spare + 1
  | .agg parts => uptoBulkAll parts + 1
  | .iface _ d => uptoBulk d + 1
  | .map entries => uptoBulkEntries entries + 1
  | .held _ => 1
def uptoBulkAll {H : Type} : List (DataW H) → Nat
  | [] => 0
  | d :: r => uptoBulk d + uptoBulkAll r
def uptoBulkEntries {H : Type} : List (Lit × DataW H) → Nat
  | [] => 0
  | x :: r => uptoBulkEntry x + uptoBulkEntries r
def uptoBulkEntry {H : Type} : Lit × DataW H → Nat
  | (.string bytes, d) => bytes.length + uptoBulk d + 1
  | (_, d) => uptoBulk d + 1
 end
def uptoSmall : (H : Type) → List (DataW H) → Bool := fun _ ds => decide (uptoBulkAll ds ≤ 1048576)
def OpenSpec.upto (s : _root_.Go.ChangeSpec) : _root_.Go.OpenSpec := { _root_.Go.OpenSpec.ofChange s with cond := some uptoSmall }

/-- 'pgtop.TopSwap', WHERE WHAT IT READS IS OF BULK AT MOST 1048576: true; the input reads as it did. -/
def topSwapUptoRow : OpenClaim := { program := "ytpaeabelhnnbiaagreat", sum := "ae818508f0a43e7a192526beab8b18f702ee3bc87fd86f58ca8e8d328ade525a", func := "pagewright/pgtop.TopSwap", spec := "topSwap", inPlace := ["slices.overlaps[pagewright/api.Area]", "slices.overlaps[pagewright/api.Cached]"], unfollowed := true, recurses := true, apart := false, narrowed := true }
def TopSwapUptoSaid : Prop := topSwapUptoRow.holds Tryz.pinned (OpenSpec.upto topSwapSpec)

/-- 'pgtop.TopFork', WHERE WHAT IT READS IS OF BULK AT MOST 1048576: true; the input reads as it did. -/
def topForkUptoRow : OpenClaim := { program := "ytpaeabelhnnbiaagreat", sum := "ae818508f0a43e7a192526beab8b18f702ee3bc87fd86f58ca8e8d328ade525a", func := "pagewright/pgtop.TopFork", spec := "topFork", inPlace := ["slices.overlaps[pagewright/api.Area]", "slices.overlaps[pagewright/api.Cached]"], unfollowed := true, recurses := true, apart := false, narrowed := true }
def TopForkUptoSaid : Prop := topForkUptoRow.holds Tryz.pinned (OpenSpec.upto topForkSpec)

/-- 'pglaw12.KernelFlat', WHERE WHAT IT READS IS OF BULK AT MOST 1048576: true; the input reads as it did. -/
def kernelFlatUptoRow : OpenClaim := { program := "ytpaeabelhnnbiaagreat", sum := "ae818508f0a43e7a192526beab8b18f702ee3bc87fd86f58ca8e8d328ade525a", func := "pagewright/pglaw12.KernelFlat", spec := "kernelFlat", inPlace := ["slices.overlaps[pagewright/api.Area]", "slices.overlaps[pagewright/api.Cached]"], unfollowed := true, recurses := true, apart := false, narrowed := true }
def KernelFlatUptoSaid : Prop := kernelFlatUptoRow.holds Tryz.pinned (OpenSpec.upto kernelFlatSpec)

/-- 'pglaw12.KernelUpTo', WHERE WHAT IT READS IS OF BULK AT MOST 1048576: true; the input reads as it did. -/
def kernelUpToUptoRow : OpenClaim := { program := "ytpaeabelhnnbiaagreat", sum := "ae818508f0a43e7a192526beab8b18f702ee3bc87fd86f58ca8e8d328ade525a", func := "pagewright/pglaw12.KernelUpTo", spec := "kernelUpTo", inPlace := ["slices.overlaps[pagewright/api.Area]", "slices.overlaps[pagewright/api.Cached]"], unfollowed := true, recurses := true, apart := false, narrowed := true }
def KernelUpToUptoSaid : Prop := kernelUpToUptoRow.holds Tryz.pinned (OpenSpec.upto kernelUpToSpec)

/-- 'pglaw12.KernelFew', WHERE WHAT IT READS IS OF BULK AT MOST 1048576: true; the input reads as it did. -/
def kernelFewUptoRow : OpenClaim := { program := "ytpaeabelhnnbiaagreat", sum := "ae818508f0a43e7a192526beab8b18f702ee3bc87fd86f58ca8e8d328ade525a", func := "pagewright/pglaw12.KernelFew", spec := "kernelFew", inPlace := ["slices.overlaps[pagewright/api.Area]", "slices.overlaps[pagewright/api.Cached]"], unfollowed := true, recurses := true, apart := false, narrowed := true }
def KernelFewUptoSaid : Prop := kernelFewUptoRow.holds Tryz.pinned (OpenSpec.upto kernelFewSpec)

/-- 'pglaw12.KernelCrash', WHERE WHAT IT READS IS OF BULK AT MOST 1048576: true; the input reads as it did. -/
def kernelCrashUptoRow : OpenClaim := { program := "ytpaeabelhnnbiaagreat", sum := "ae818508f0a43e7a192526beab8b18f702ee3bc87fd86f58ca8e8d328ade525a", func := "pagewright/pglaw12.KernelCrash", spec := "kernelCrash", inPlace := ["slices.overlaps[pagewright/api.Area]", "slices.overlaps[pagewright/api.Cached]"], unfollowed := true, recurses := true, apart := false, narrowed := true }
def KernelCrashUptoSaid : Prop := kernelCrashUptoRow.holds Tryz.pinned (OpenSpec.upto kernelCrashSpec)

/-- 'pglaw12.KernelSync', WHERE WHAT IT READS IS OF BULK AT MOST 1048576: true; the input reads as it did. -/
def kernelSyncUptoRow : OpenClaim := { program := "ytpaeabelhnnbiaagreat", sum := "ae818508f0a43e7a192526beab8b18f702ee3bc87fd86f58ca8e8d328ade525a", func := "pagewright/pglaw12.KernelSync", spec := "kernelSync", inPlace := ["slices.overlaps[pagewright/api.Area]", "slices.overlaps[pagewright/api.Cached]"], unfollowed := true, recurses := true, apart := false, narrowed := true }
def KernelSyncUptoSaid : Prop := kernelSyncUptoRow.holds Tryz.pinned (OpenSpec.upto kernelSyncSpec)

/-- 'pgtop.TopCut', WHERE WHAT IT READS IS OF BULK AT MOST 1048576: true; the input reads as it did. -/
def topCutUptoRow : OpenClaim := { program := "ytpaeabelhnnbiaagreat", sum := "ae818508f0a43e7a192526beab8b18f702ee3bc87fd86f58ca8e8d328ade525a", func := "pagewright/pgtop.TopCut", spec := "topCut", inPlace := ["slices.overlaps[pagewright/api.Area]", "slices.overlaps[pagewright/api.Cached]"], unfollowed := true, recurses := true, apart := false, narrowed := true }
def TopCutUptoSaid : Prop := topCutUptoRow.holds Tryz.pinned (OpenSpec.upto topCutSpec)

/-- 'pgtop.TopMapped', WHERE WHAT IT READS IS OF BULK AT MOST 1048576: true; the input reads as it did. -/
def topMappedUptoRow : OpenClaim := { program := "ytpaeabelhnnbiaagreat", sum := "ae818508f0a43e7a192526beab8b18f702ee3bc87fd86f58ca8e8d328ade525a", func := "pagewright/pgtop.TopMapped", spec := "topMapped", inPlace := ["slices.overlaps[pagewright/api.Area]", "slices.overlaps[pagewright/api.Cached]"], unfollowed := true, recurses := true, apart := false, narrowed := true }
def TopMappedUptoSaid : Prop := topMappedUptoRow.holds Tryz.pinned (OpenSpec.upto topMappedSpec)

/-- 'pgtop.TopProcs', WHERE WHAT IT READS IS OF BULK AT MOST 1048576: true; the input reads as it did. -/
def topProcsUptoRow : OpenClaim := { program := "ytpaeabelhnnbiaagreat", sum := "ae818508f0a43e7a192526beab8b18f702ee3bc87fd86f58ca8e8d328ade525a", func := "pagewright/pgtop.TopProcs", spec := "topProcs", inPlace := ["slices.overlaps[pagewright/api.Area]", "slices.overlaps[pagewright/api.Cached]"], unfollowed := true, recurses := true, apart := false, narrowed := true }
def TopProcsUptoSaid : Prop := topProcsUptoRow.holds Tryz.pinned (OpenSpec.upto topProcsSpec)

end Rows
end Go.Proofs.YtpaeabelhnnbiaaGreat
