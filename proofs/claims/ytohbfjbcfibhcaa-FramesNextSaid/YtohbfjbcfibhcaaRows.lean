/-
  No cell of these rows narrows 'for every input' (looked for: loops, veiled, ifaces, maps, wideKeys, modest, calm, conditions, laid).
  DERIVED. THE GIVEN ROWS OF THIS SEAT. 14 by the template 'for every input the law returns true; each argument reads behind the call as it read before'; 0 by the template 'total and deterministic' (their statements: YtohbfjbcfibhcaaTotals.lean).
  GIVEN WITH THE SEED: the statements are not yours to turn. If you find one false, say at which input.
  Laid BY PROGRAM, IN A SANDBOX (cutbox-rows.mjs): the forced cells as the released guide's own fill.sh prints them over the translation ae976c90674014b9… (all of the seat's roots in one cut). By AI agents, Wed Nov 11 2026. No macro, syntax, notation, axiom, sorry.
-/
import Derived.Test.YtohbfjbcfibhcaaChecked
import GoSem.Claim
import GoSem.ClaimJoined
import GoSem.ClaimMapViews
import Derived.JoinedTies
import Derived.KernelRfl
namespace Go.Proofs.Ytohbfjbcfibhcaa
/- THE CELL 'sum', in the pinned program and in every row, IS THE sha256 OF THE DUMP (.gsa) THAT YtohbfjbcfibhcaaProg.lean LOADS. Nothing in Lean hashes anything: it is a label: what it is worth is what the hold of that sum in a sandbox is worth. -/
noncomputable def Try.pinned : Pinned := { name := "ytohbfjbcfibhcaa", sum := "ae976c90674014b91c4f4356a4c60eb1e33ace23e55c3ff39e569a247f9c09c2", checked := Try.checked }
namespace Rows
def none {H : Type} : Left H := { results := [], args := [] }

/-- 'pglaw1.PageTells': WHATEVER THE INPUT: true; the input reads as it did. -/
def pageTellsSpec : ChangeSpec := { name := "pageTells", fn := fun _ => fun
  | [d1, d2, d3, d4] => { results := [.lit (.bool true)], args := [d1, d2, d3, d4] }
  | _ => none }
def pageTellsRow : OpenClaim := { program := "ytohbfjbcfibhcaa", sum := "ae976c90674014b91c4f4356a4c60eb1e33ace23e55c3ff39e569a247f9c09c2", func := "pagewright/pglaw1.PageTells", spec := "pageTells", apart := false }
def PageTellsSaid : Prop := pageTellsRow.holds Try.pinned (OpenSpec.ofChange pageTellsSpec)

/-- ITS FALSE NEIGHBOUR: 'it returns false'. Refute it at one input. -/
def pageTellsWrong : ChangeSpec := { name := "pageTells", fn := fun _ => fun
  | [d1, d2, d3, d4] => { results := [.lit (.bool false)], args := [d1, d2, d3, d4] }
  | _ => none }
def PageTellsWrongFalsely : Prop := pageTellsRow.holds Try.pinned (OpenSpec.ofChange pageTellsWrong)

/-- 'pglaw1.PageSets': WHATEVER THE INPUT: true; the input reads as it did. -/
def pageSetsSpec : ChangeSpec := { name := "pageSets", fn := fun _ => fun
  | [d1, d2, d3, d4] => { results := [.lit (.bool true)], args := [d1, d2, d3, d4] }
  | _ => none }
def pageSetsRow : OpenClaim := { program := "ytohbfjbcfibhcaa", sum := "ae976c90674014b91c4f4356a4c60eb1e33ace23e55c3ff39e569a247f9c09c2", func := "pagewright/pglaw1.PageSets", spec := "pageSets", apart := false }
def PageSetsSaid : Prop := pageSetsRow.holds Try.pinned (OpenSpec.ofChange pageSetsSpec)

/-- ITS FALSE NEIGHBOUR: 'it returns false'. Refute it at one input. -/
def pageSetsWrong : ChangeSpec := { name := "pageSets", fn := fun _ => fun
  | [d1, d2, d3, d4] => { results := [.lit (.bool false)], args := [d1, d2, d3, d4] }
  | _ => none }
def PageSetsWrongFalsely : Prop := pageSetsRow.holds Try.pinned (OpenSpec.ofChange pageSetsWrong)

/-- 'pglaw2.DiskReads': WHATEVER THE INPUT: true; the input reads as it did. -/
def diskReadsSpec : ChangeSpec := { name := "diskReads", fn := fun _ => fun
  | [d1, d2, d3, d4] => { results := [.lit (.bool true)], args := [d1, d2, d3, d4] }
  | _ => none }
def diskReadsRow : OpenClaim := { program := "ytohbfjbcfibhcaa", sum := "ae976c90674014b91c4f4356a4c60eb1e33ace23e55c3ff39e569a247f9c09c2", func := "pagewright/pglaw2.DiskReads", spec := "diskReads", unfollowed := true, recurses := true, apart := false }
def DiskReadsSaid : Prop := diskReadsRow.holds Try.pinned (OpenSpec.ofChange diskReadsSpec)

/-- ITS FALSE NEIGHBOUR: 'it returns false'. Refute it at one input. -/
def diskReadsWrong : ChangeSpec := { name := "diskReads", fn := fun _ => fun
  | [d1, d2, d3, d4] => { results := [.lit (.bool false)], args := [d1, d2, d3, d4] }
  | _ => none }
def DiskReadsWrongFalsely : Prop := diskReadsRow.holds Try.pinned (OpenSpec.ofChange diskReadsWrong)

/-- 'pglaw2.DiskCrash': WHATEVER THE INPUT: true; the input reads as it did. -/
def diskCrashSpec : ChangeSpec := { name := "diskCrash", fn := fun _ => fun
  | [d1, d2, d3] => { results := [.lit (.bool true)], args := [d1, d2, d3] }
  | _ => none }
def diskCrashRow : OpenClaim := { program := "ytohbfjbcfibhcaa", sum := "ae976c90674014b91c4f4356a4c60eb1e33ace23e55c3ff39e569a247f9c09c2", func := "pagewright/pglaw2.DiskCrash", spec := "diskCrash", unfollowed := true, recurses := true, apart := false }
def DiskCrashSaid : Prop := diskCrashRow.holds Try.pinned (OpenSpec.ofChange diskCrashSpec)

/-- ITS FALSE NEIGHBOUR: 'it returns false'. Refute it at one input. -/
def diskCrashWrong : ChangeSpec := { name := "diskCrash", fn := fun _ => fun
  | [d1, d2, d3] => { results := [.lit (.bool false)], args := [d1, d2, d3] }
  | _ => none }
def DiskCrashWrongFalsely : Prop := diskCrashRow.holds Try.pinned (OpenSpec.ofChange diskCrashWrong)

/-- 'pglaw2.DiskFlush': WHATEVER THE INPUT: true; the input reads as it did. -/
def diskFlushSpec : ChangeSpec := { name := "diskFlush", fn := fun _ => fun
  | [d1, d2, d3] => { results := [.lit (.bool true)], args := [d1, d2, d3] }
  | _ => none }
def diskFlushRow : OpenClaim := { program := "ytohbfjbcfibhcaa", sum := "ae976c90674014b91c4f4356a4c60eb1e33ace23e55c3ff39e569a247f9c09c2", func := "pagewright/pglaw2.DiskFlush", spec := "diskFlush", unfollowed := true, recurses := true, apart := false }
def DiskFlushSaid : Prop := diskFlushRow.holds Try.pinned (OpenSpec.ofChange diskFlushSpec)

/-- ITS FALSE NEIGHBOUR: 'it returns false'. Refute it at one input. -/
def diskFlushWrong : ChangeSpec := { name := "diskFlush", fn := fun _ => fun
  | [d1, d2, d3] => { results := [.lit (.bool false)], args := [d1, d2, d3] }
  | _ => none }
def DiskFlushWrongFalsely : Prop := diskFlushRow.holds Try.pinned (OpenSpec.ofChange diskFlushWrong)

/-- 'pglaw4.SlotsTells': WHATEVER THE INPUT: true; the input reads as it did. -/
def slotsTellsSpec : ChangeSpec := { name := "slotsTells", fn := fun _ => fun
  | [d1, d2, d3] => { results := [.lit (.bool true)], args := [d1, d2, d3] }
  | _ => none }
def slotsTellsRow : OpenClaim := { program := "ytohbfjbcfibhcaa", sum := "ae976c90674014b91c4f4356a4c60eb1e33ace23e55c3ff39e569a247f9c09c2", func := "pagewright/pglaw4.SlotsTells", spec := "slotsTells", unfollowed := true, recurses := true, apart := false }
def SlotsTellsSaid : Prop := slotsTellsRow.holds Try.pinned (OpenSpec.ofChange slotsTellsSpec)

/-- ITS FALSE NEIGHBOUR: 'it returns false'. Refute it at one input. -/
def slotsTellsWrong : ChangeSpec := { name := "slotsTells", fn := fun _ => fun
  | [d1, d2, d3] => { results := [.lit (.bool false)], args := [d1, d2, d3] }
  | _ => none }
def SlotsTellsWrongFalsely : Prop := slotsTellsRow.holds Try.pinned (OpenSpec.ofChange slotsTellsWrong)

/-- 'pglaw4.SlotsTake': WHATEVER THE INPUT: true; the input reads as it did. -/
def slotsTakeSpec : ChangeSpec := { name := "slotsTake", fn := fun _ => fun
  | [d1, d2] => { results := [.lit (.bool true)], args := [d1, d2] }
  | _ => none }
def slotsTakeRow : OpenClaim := { program := "ytohbfjbcfibhcaa", sum := "ae976c90674014b91c4f4356a4c60eb1e33ace23e55c3ff39e569a247f9c09c2", func := "pagewright/pglaw4.SlotsTake", spec := "slotsTake", unfollowed := true, recurses := true, apart := false }
def SlotsTakeSaid : Prop := slotsTakeRow.holds Try.pinned (OpenSpec.ofChange slotsTakeSpec)

/-- ITS FALSE NEIGHBOUR: 'it returns false'. Refute it at one input. -/
def slotsTakeWrong : ChangeSpec := { name := "slotsTake", fn := fun _ => fun
  | [d1, d2] => { results := [.lit (.bool false)], args := [d1, d2] }
  | _ => none }
def SlotsTakeWrongFalsely : Prop := slotsTakeRow.holds Try.pinned (OpenSpec.ofChange slotsTakeWrong)

/-- 'pglaw2.DiskTrim': WHATEVER THE INPUT: true; the input reads as it did. -/
def diskTrimSpec : ChangeSpec := { name := "diskTrim", fn := fun _ => fun
  | [d1, d2, d3, d4] => { results := [.lit (.bool true)], args := [d1, d2, d3, d4] }
  | _ => none }
def diskTrimRow : OpenClaim := { program := "ytohbfjbcfibhcaa", sum := "ae976c90674014b91c4f4356a4c60eb1e33ace23e55c3ff39e569a247f9c09c2", func := "pagewright/pglaw2.DiskTrim", spec := "diskTrim", unfollowed := true, recurses := true, apart := false }
def DiskTrimSaid : Prop := diskTrimRow.holds Try.pinned (OpenSpec.ofChange diskTrimSpec)

/-- ITS FALSE NEIGHBOUR: 'it returns false'. Refute it at one input. -/
def diskTrimWrong : ChangeSpec := { name := "diskTrim", fn := fun _ => fun
  | [d1, d2, d3, d4] => { results := [.lit (.bool false)], args := [d1, d2, d3, d4] }
  | _ => none }
def DiskTrimWrongFalsely : Prop := diskTrimRow.holds Try.pinned (OpenSpec.ofChange diskTrimWrong)

/-- 'pglaw3.FramesTells': WHATEVER THE INPUT: true; the input reads as it did. -/
def framesTellsSpec : ChangeSpec := { name := "framesTells", fn := fun _ => fun
  | [d1, d2, d3, d4, d5, d6] => { results := [.lit (.bool true)], args := [d1, d2, d3, d4, d5, d6] }
  | _ => none }
def framesTellsRow : OpenClaim := { program := "ytohbfjbcfibhcaa", sum := "ae976c90674014b91c4f4356a4c60eb1e33ace23e55c3ff39e569a247f9c09c2", func := "pagewright/pglaw3.FramesTells", spec := "framesTells", unfollowed := true, recurses := true, apart := false }
def FramesTellsSaid : Prop := framesTellsRow.holds Try.pinned (OpenSpec.ofChange framesTellsSpec)

/-- ITS FALSE NEIGHBOUR: 'it returns false'. Refute it at one input. -/
def framesTellsWrong : ChangeSpec := { name := "framesTells", fn := fun _ => fun
  | [d1, d2, d3, d4, d5, d6] => { results := [.lit (.bool false)], args := [d1, d2, d3, d4, d5, d6] }
  | _ => none }
def FramesTellsWrongFalsely : Prop := framesTellsRow.holds Try.pinned (OpenSpec.ofChange framesTellsWrong)

/-- 'pglaw3.FramesTake': WHATEVER THE INPUT: true; the input reads as it did. -/
def framesTakeSpec : ChangeSpec := { name := "framesTake", fn := fun _ => fun
  | [d1, d2, d3, d4] => { results := [.lit (.bool true)], args := [d1, d2, d3, d4] }
  | _ => none }
def framesTakeRow : OpenClaim := { program := "ytohbfjbcfibhcaa", sum := "ae976c90674014b91c4f4356a4c60eb1e33ace23e55c3ff39e569a247f9c09c2", func := "pagewright/pglaw3.FramesTake", spec := "framesTake", unfollowed := true, recurses := true, apart := false }
def FramesTakeSaid : Prop := framesTakeRow.holds Try.pinned (OpenSpec.ofChange framesTakeSpec)

/-- ITS FALSE NEIGHBOUR: 'it returns false'. Refute it at one input. -/
def framesTakeWrong : ChangeSpec := { name := "framesTake", fn := fun _ => fun
  | [d1, d2, d3, d4] => { results := [.lit (.bool false)], args := [d1, d2, d3, d4] }
  | _ => none }
def FramesTakeWrongFalsely : Prop := framesTakeRow.holds Try.pinned (OpenSpec.ofChange framesTakeWrong)

/-- 'pglaw3.FramesHold': WHATEVER THE INPUT: true; the input reads as it did. -/
def framesHoldSpec : ChangeSpec := { name := "framesHold", fn := fun _ => fun
  | [d1, d2, d3] => { results := [.lit (.bool true)], args := [d1, d2, d3] }
  | _ => none }
def framesHoldRow : OpenClaim := { program := "ytohbfjbcfibhcaa", sum := "ae976c90674014b91c4f4356a4c60eb1e33ace23e55c3ff39e569a247f9c09c2", func := "pagewright/pglaw3.FramesHold", spec := "framesHold", unfollowed := true, recurses := true, apart := false }
def FramesHoldSaid : Prop := framesHoldRow.holds Try.pinned (OpenSpec.ofChange framesHoldSpec)

/-- ITS FALSE NEIGHBOUR: 'it returns false'. Refute it at one input. -/
def framesHoldWrong : ChangeSpec := { name := "framesHold", fn := fun _ => fun
  | [d1, d2, d3] => { results := [.lit (.bool false)], args := [d1, d2, d3] }
  | _ => none }
def FramesHoldWrongFalsely : Prop := framesHoldRow.holds Try.pinned (OpenSpec.ofChange framesHoldWrong)

/-- 'pglaw3.FramesNext': WHATEVER THE INPUT: true; the input reads as it did. -/
def framesNextSpec : ChangeSpec := { name := "framesNext", fn := fun _ => fun
  | [d] => { results := [.lit (.bool true)], args := [d] }
  | _ => none }
def framesNextRow : OpenClaim := { program := "ytohbfjbcfibhcaa", sum := "ae976c90674014b91c4f4356a4c60eb1e33ace23e55c3ff39e569a247f9c09c2", func := "pagewright/pglaw3.FramesNext", spec := "framesNext", unfollowed := true, recurses := true, apart := false }
def FramesNextSaid : Prop := framesNextRow.holds Try.pinned (OpenSpec.ofChange framesNextSpec)

/-- ITS FALSE NEIGHBOUR: 'it returns false'. Refute it at one input. -/
def framesNextWrong : ChangeSpec := { name := "framesNext", fn := fun _ => fun
  | [d] => { results := [.lit (.bool false)], args := [d] }
  | _ => none }
def FramesNextWrongFalsely : Prop := framesNextRow.holds Try.pinned (OpenSpec.ofChange framesNextWrong)

/-- 'pglaw2.DiskTells': WHATEVER THE INPUT: true; the input reads as it did. -/
def diskTellsSpec : ChangeSpec := { name := "diskTells", fn := fun _ => fun
  | [d1, d2, d3, d4, d5] => { results := [.lit (.bool true)], args := [d1, d2, d3, d4, d5] }
  | _ => none }
def diskTellsRow : OpenClaim := { program := "ytohbfjbcfibhcaa", sum := "ae976c90674014b91c4f4356a4c60eb1e33ace23e55c3ff39e569a247f9c09c2", func := "pagewright/pglaw2.DiskTells", spec := "diskTells", unfollowed := true, recurses := true, apart := false }
def DiskTellsSaid : Prop := diskTellsRow.holds Try.pinned (OpenSpec.ofChange diskTellsSpec)

/-- ITS FALSE NEIGHBOUR: 'it returns false'. Refute it at one input. -/
def diskTellsWrong : ChangeSpec := { name := "diskTells", fn := fun _ => fun
  | [d1, d2, d3, d4, d5] => { results := [.lit (.bool false)], args := [d1, d2, d3, d4, d5] }
  | _ => none }
def DiskTellsWrongFalsely : Prop := diskTellsRow.holds Try.pinned (OpenSpec.ofChange diskTellsWrong)

/-- 'pgtop.Names': WHATEVER THE INPUT: true; the input reads as it did. -/
def namesSpec : ChangeSpec := { name := "names", fn := fun _ => fun
  | [] => { results := [.lit (.bool true)], args := [] }
  | _ => none }
def namesRow : OpenClaim := { program := "ytohbfjbcfibhcaa", sum := "ae976c90674014b91c4f4356a4c60eb1e33ace23e55c3ff39e569a247f9c09c2", func := "pagewright/pgtop.Names", spec := "names", apart := false }
def NamesSaid : Prop := namesRow.holds Try.pinned (OpenSpec.ofChange namesSpec)

/-- ITS FALSE NEIGHBOUR: 'it returns false'. Refute it at one input. -/
def namesWrong : ChangeSpec := { name := "names", fn := fun _ => fun
  | [] => { results := [.lit (.bool false)], args := [] }
  | _ => none }
def NamesWrongFalsely : Prop := namesRow.holds Try.pinned (OpenSpec.ofChange namesWrong)

/- THE SECOND FORM. 'bulk': how many values and letters a reading holds, each counted each time it is reached (what is shared counts as often as it is met; a slice's spare places count too). A statement '..UptoSaid' is the law's where the arguments, and the package variables that the reading takes, are together of bulk at most 1048576: NARROWER than '..Said'. Prove '..Said' where nothing that the law and all that it calls make is longer than what came in: it says more and counts as full. Else prove '..UptoSaid'. A law counts once. -/
mutual
def uptoBulk {H : Type} : DataW H → Nat
  | .lit (.string bytes) => bytes.length + 1
  | .lit _ => 1
  | .nil => 1
  | .ptr d => uptoBulk d + 1
  | .slice elems spare => uptoBulkAll elems + uptoBulkAll spare + 1
  | .agg parts => uptoBulkAll parts + 1
  | .iface _ d => uptoBulk d + 1
  | .map entries => uptoBulkEntries entries + 1
  | .held _ => 1
def uptoBulkAll {H : Type} : List (DataW H) → Nat
  | [] => 0
  | d :: r => uptoBulk d + uptoBulkAll r
def uptoBulkEntries {H : Type} : List (Lit × DataW H) → Nat
  | [] => 0
  | x :: r => uptoBulkEntry x + uptoBulkEntries r
def uptoBulkEntry {H : Type} : Lit × DataW H → Nat
  | (.string bytes, d) => bytes.length + uptoBulk d + 1
  | (_, d) => uptoBulk d + 1
 end
def uptoSmall : (H : Type) → List (DataW H) → Bool := fun _ ds => decide (uptoBulkAll ds ≤ 1048576)
def OpenSpec.upto (s : _root_.Go.ChangeSpec) : _root_.Go.OpenSpec := { _root_.Go.OpenSpec.ofChange s with cond := some uptoSmall }

/-- 'pglaw1.PageTells', WHERE WHAT IT READS IS OF BULK AT MOST 1048576: true; the input reads as it did. -/
def pageTellsUptoRow : OpenClaim := { program := "ytohbfjbcfibhcaa", sum := "ae976c90674014b91c4f4356a4c60eb1e33ace23e55c3ff39e569a247f9c09c2", func := "pagewright/pglaw1.PageTells", spec := "pageTells", apart := false, narrowed := true }
def PageTellsUptoSaid : Prop := pageTellsUptoRow.holds Try.pinned (OpenSpec.upto pageTellsSpec)

/-- 'pglaw1.PageSets', WHERE WHAT IT READS IS OF BULK AT MOST 1048576: true; the input reads as it did. -/
def pageSetsUptoRow : OpenClaim := { program := "ytohbfjbcfibhcaa", sum := "ae976c90674014b91c4f4356a4c60eb1e33ace23e55c3ff39e569a247f9c09c2", func := "pagewright/pglaw1.PageSets", spec := "pageSets", apart := false, narrowed := true }
def PageSetsUptoSaid : Prop := pageSetsUptoRow.holds Try.pinned (OpenSpec.upto pageSetsSpec)

/-- 'pglaw2.DiskReads', WHERE WHAT IT READS IS OF BULK AT MOST 1048576: true; the input reads as it did. -/
def diskReadsUptoRow : OpenClaim := { program := "ytohbfjbcfibhcaa", sum := "ae976c90674014b91c4f4356a4c60eb1e33ace23e55c3ff39e569a247f9c09c2", func := "pagewright/pglaw2.DiskReads", spec := "diskReads", unfollowed := true, recurses := true, apart := false, narrowed := true }
def DiskReadsUptoSaid : Prop := diskReadsUptoRow.holds Try.pinned (OpenSpec.upto diskReadsSpec)

/-- 'pglaw2.DiskCrash', WHERE WHAT IT READS IS OF BULK AT MOST 1048576: true; the input reads as it did. -/
def diskCrashUptoRow : OpenClaim := { program := "ytohbfjbcfibhcaa", sum := "ae976c90674014b91c4f4356a4c60eb1e33ace23e55c3ff39e569a247f9c09c2", func := "pagewright/pglaw2.DiskCrash", spec := "diskCrash", unfollowed := true, recurses := true, apart := false, narrowed := true }
def DiskCrashUptoSaid : Prop := diskCrashUptoRow.holds Try.pinned (OpenSpec.upto diskCrashSpec)

/-- 'pglaw2.DiskFlush', WHERE WHAT IT READS IS OF BULK AT MOST 1048576: true; the input reads as it did. -/
def diskFlushUptoRow : OpenClaim := { program := "ytohbfjbcfibhcaa", sum := "ae976c90674014b91c4f4356a4c60eb1e33ace23e55c3ff39e569a247f9c09c2", func := "pagewright/pglaw2.DiskFlush", spec := "diskFlush", unfollowed := true, recurses := true, apart := false, narrowed := true }
def DiskFlushUptoSaid : Prop := diskFlushUptoRow.holds Try.pinned (OpenSpec.upto diskFlushSpec)

/-- 'pglaw4.SlotsTells', WHERE WHAT IT READS IS OF BULK AT MOST 1048576: true; the input reads as it did. -/
def slotsTellsUptoRow : OpenClaim := { program := "ytohbfjbcfibhcaa", sum := "ae976c90674014b91c4f4356a4c60eb1e33ace23e55c3ff39e569a247f9c09c2", func := "pagewright/pglaw4.SlotsTells", spec := "slotsTells", unfollowed := true, recurses := true, apart := false, narrowed := true }
def SlotsTellsUptoSaid : Prop := slotsTellsUptoRow.holds Try.pinned (OpenSpec.upto slotsTellsSpec)

/-- 'pglaw4.SlotsTake', WHERE WHAT IT READS IS OF BULK AT MOST 1048576: true; the input reads as it did. -/
def slotsTakeUptoRow : OpenClaim := { program := "ytohbfjbcfibhcaa", sum := "ae976c90674014b91c4f4356a4c60eb1e33ace23e55c3ff39e569a247f9c09c2", func := "pagewright/pglaw4.SlotsTake", spec := "slotsTake", unfollowed := true, recurses := true, apart := false, narrowed := true }
def SlotsTakeUptoSaid : Prop := slotsTakeUptoRow.holds Try.pinned (OpenSpec.upto slotsTakeSpec)

/-- 'pglaw2.DiskTrim', WHERE WHAT IT READS IS OF BULK AT MOST 1048576: true; the input reads as it did. -/
def diskTrimUptoRow : OpenClaim := { program := "ytohbfjbcfibhcaa", sum := "ae976c90674014b91c4f4356a4c60eb1e33ace23e55c3ff39e569a247f9c09c2", func := "pagewright/pglaw2.DiskTrim", spec := "diskTrim", unfollowed := true, recurses := true, apart := false, narrowed := true }
def DiskTrimUptoSaid : Prop := diskTrimUptoRow.holds Try.pinned (OpenSpec.upto diskTrimSpec)

/-- 'pglaw3.FramesTells', WHERE WHAT IT READS IS OF BULK AT MOST 1048576: true; the input reads as it did. -/
def framesTellsUptoRow : OpenClaim := { program := "ytohbfjbcfibhcaa", sum := "ae976c90674014b91c4f4356a4c60eb1e33ace23e55c3ff39e569a247f9c09c2", func := "pagewright/pglaw3.FramesTells", spec := "framesTells", unfollowed := true, recurses := true, apart := false, narrowed := true }
def FramesTellsUptoSaid : Prop := framesTellsUptoRow.holds Try.pinned (OpenSpec.upto framesTellsSpec)

/-- 'pglaw3.FramesTake', WHERE WHAT IT READS IS OF BULK AT MOST 1048576: true; the input reads as it did. -/
def framesTakeUptoRow : OpenClaim := { program := "ytohbfjbcfibhcaa", sum := "ae976c90674014b91c4f4356a4c60eb1e33ace23e55c3ff39e569a247f9c09c2", func := "pagewright/pglaw3.FramesTake", spec := "framesTake", unfollowed := true, recurses := true, apart := false, narrowed := true }
def FramesTakeUptoSaid : Prop := framesTakeUptoRow.holds Try.pinned (OpenSpec.upto framesTakeSpec)

/-- 'pglaw3.FramesHold', WHERE WHAT IT READS IS OF BULK AT MOST 1048576: true; the input reads as it did. -/
def framesHoldUptoRow : OpenClaim := { program := "ytohbfjbcfibhcaa", sum := "ae976c90674014b91c4f4356a4c60eb1e33ace23e55c3ff39e569a247f9c09c2", func := "pagewright/pglaw3.FramesHold", spec := "framesHold", unfollowed := true, recurses := true, apart := false, narrowed := true }
def FramesHoldUptoSaid : Prop := framesHoldUptoRow.holds Try.pinned (OpenSpec.upto framesHoldSpec)

/-- 'pglaw3.FramesNext', WHERE WHAT IT READS IS OF BULK AT MOST 1048576: true; the input reads as it did. -/
def framesNextUptoRow : OpenClaim := { program := "ytohbfjbcfibhcaa", sum := "ae976c90674014b91c4f4356a4c60eb1e33ace23e55c3ff39e569a247f9c09c2", func := "pagewright/pglaw3.FramesNext", spec := "framesNext", unfollowed := true, recurses := true, apart := false, narrowed := true }
def FramesNextUptoSaid : Prop := framesNextUptoRow.holds Try.pinned (OpenSpec.upto framesNextSpec)

/-- 'pglaw2.DiskTells', WHERE WHAT IT READS IS OF BULK AT MOST 1048576: true; the input reads as it did. -/
def diskTellsUptoRow : OpenClaim := { program := "ytohbfjbcfibhcaa", sum := "ae976c90674014b91c4f4356a4c60eb1e33ace23e55c3ff39e569a247f9c09c2", func := "pagewright/pglaw2.DiskTells", spec := "diskTells", unfollowed := true, recurses := true, apart := false, narrowed := true }
def DiskTellsUptoSaid : Prop := diskTellsUptoRow.holds Try.pinned (OpenSpec.upto diskTellsSpec)

/-- 'pgtop.Names', WHERE WHAT IT READS IS OF BULK AT MOST 1048576: true; the input reads as it did. -/
def namesUptoRow : OpenClaim := { program := "ytohbfjbcfibhcaa", sum := "ae976c90674014b91c4f4356a4c60eb1e33ace23e55c3ff39e569a247f9c09c2", func := "pagewright/pgtop.Names", spec := "names", apart := false, narrowed := true }
def NamesUptoSaid : Prop := namesUptoRow.holds Try.pinned (OpenSpec.upto namesSpec)

end Rows
end Go.Proofs.Ytohbfjbcfibhcaa
