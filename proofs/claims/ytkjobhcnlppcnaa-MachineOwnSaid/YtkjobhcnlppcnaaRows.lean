/-
  No cell of these rows narrows 'for every input' (looked for: loops, veiled, ifaces, maps, wideKeys, modest, calm, conditions, laid).
  DERIVED. THE GIVEN ROWS OF THIS SEAT. 5 by the template 'for every input the law returns true; each argument reads behind the call as it read before'; 0 by the template 'total and deterministic' (their statements: YtkjobhcnlppcnaaTotals.lean).
  GIVEN WITH THE SEED: the statements are not yours to turn. If you find one false, say at which input.
  Laid BY PROGRAM, IN A SANDBOX (cutbox-rows.mjs): the forced cells as the released guide's own fill.sh prints them over the translation 2fbf7c5a603abac3… (all of the seat's roots in one cut). By AI agents, Wed Nov 11 2026. No macro, syntax, notation, axiom, sorry.
-/
import Derived.Test.YtkjobhcnlppcnaaChecked
import GoSem.Claim
import GoSem.ClaimJoined
import GoSem.ClaimMapViews
import Derived.JoinedTies
import Derived.KernelRfl
namespace Go.Proofs.Ytkjobhcnlppcnaa
/- THE CELL 'sum', in the pinned program and in every row, IS THE sha256 OF THE DUMP (.gsa) THAT YtkjobhcnlppcnaaProg.lean LOADS. Nothing in Lean hashes anything: it is a label: what it is worth is what the hold of that sum in a sandbox is worth. -/
noncomputable def Try.pinned : Pinned := { name := "ytkjobhcnlppcnaa", sum := "2fbf7c5a603abac319c8602d25120a4bb259db9e1d14c73e40fc194cf0c07170", checked := Try.checked }
namespace Rows
def none {H : Type} : Left H := { results := [], args := [] }

/-- 'pglaw8.MachineTells': WHATEVER THE INPUT: true; the input reads as it did. -/
def machineTellsSpec : ChangeSpec := { name := "machineTells", fn := fun _ => fun
  | [d1, d2, d3, d4, d5, d6, d7] => { results := [.lit (.bool true)], args := [d1, d2, d3, d4, d5, d6, d7] }
  | _ => none }
def machineTellsRow : OpenClaim := { program := "ytkjobhcnlppcnaa", sum := "2fbf7c5a603abac319c8602d25120a4bb259db9e1d14c73e40fc194cf0c07170", func := "pagewright/pglaw8.MachineTells", spec := "machineTells", unfollowed := true, recurses := true, apart := false }
def MachineTellsSaid : Prop := machineTellsRow.holds Try.pinned (OpenSpec.ofChange machineTellsSpec)

/-- ITS FALSE NEIGHBOUR: 'it returns false'. Refute it at one input. -/
def machineTellsWrong : ChangeSpec := { name := "machineTells", fn := fun _ => fun
  | [d1, d2, d3, d4, d5, d6, d7] => { results := [.lit (.bool false)], args := [d1, d2, d3, d4, d5, d6, d7] }
  | _ => none }
def MachineTellsWrongFalsely : Prop := machineTellsRow.holds Try.pinned (OpenSpec.ofChange machineTellsWrong)

/-- 'pglaw8.MachineOwn': WHATEVER THE INPUT: true; the input reads as it did. -/
def machineOwnSpec : ChangeSpec := { name := "machineOwn", fn := fun _ => fun
  | [d1, d2] => { results := [.lit (.bool true)], args := [d1, d2] }
  | _ => none }
def machineOwnRow : OpenClaim := { program := "ytkjobhcnlppcnaa", sum := "2fbf7c5a603abac319c8602d25120a4bb259db9e1d14c73e40fc194cf0c07170", func := "pagewright/pglaw8.MachineOwn", spec := "machineOwn", unfollowed := true, recurses := true, apart := false }
def MachineOwnSaid : Prop := machineOwnRow.holds Try.pinned (OpenSpec.ofChange machineOwnSpec)

/-- ITS FALSE NEIGHBOUR: 'it returns false'. Refute it at one input. -/
def machineOwnWrong : ChangeSpec := { name := "machineOwn", fn := fun _ => fun
  | [d1, d2] => { results := [.lit (.bool false)], args := [d1, d2] }
  | _ => none }
def MachineOwnWrongFalsely : Prop := machineOwnRow.holds Try.pinned (OpenSpec.ofChange machineOwnWrong)

/-- 'pglaw8.MachineCounts': WHATEVER THE INPUT: true; the input reads as it did. -/
def machineCountsSpec : ChangeSpec := { name := "machineCounts", fn := fun _ => fun
  | [d1, d2, d3, d4] => { results := [.lit (.bool true)], args := [d1, d2, d3, d4] }
  | _ => none }
def machineCountsRow : OpenClaim := { program := "ytkjobhcnlppcnaa", sum := "2fbf7c5a603abac319c8602d25120a4bb259db9e1d14c73e40fc194cf0c07170", func := "pagewright/pglaw8.MachineCounts", spec := "machineCounts", unfollowed := true, recurses := true, apart := false }
def MachineCountsSaid : Prop := machineCountsRow.holds Try.pinned (OpenSpec.ofChange machineCountsSpec)

/-- ITS FALSE NEIGHBOUR: 'it returns false'. Refute it at one input. -/
def machineCountsWrong : ChangeSpec := { name := "machineCounts", fn := fun _ => fun
  | [d1, d2, d3, d4] => { results := [.lit (.bool false)], args := [d1, d2, d3, d4] }
  | _ => none }
def MachineCountsWrongFalsely : Prop := machineCountsRow.holds Try.pinned (OpenSpec.ofChange machineCountsWrong)

/-- 'pglaw10.ForkCheap': WHATEVER THE INPUT: true; the input reads as it did. -/
def forkCheapSpec : ChangeSpec := { name := "forkCheap", fn := fun _ => fun
  | [d1, d2, d3] => { results := [.lit (.bool true)], args := [d1, d2, d3] }
  | _ => none }
def forkCheapRow : OpenClaim := { program := "ytkjobhcnlppcnaa", sum := "2fbf7c5a603abac319c8602d25120a4bb259db9e1d14c73e40fc194cf0c07170", func := "pagewright/pglaw10.ForkCheap", spec := "forkCheap", unfollowed := true, recurses := true, apart := false }
def ForkCheapSaid : Prop := forkCheapRow.holds Try.pinned (OpenSpec.ofChange forkCheapSpec)

/-- ITS FALSE NEIGHBOUR: 'it returns false'. Refute it at one input. -/
def forkCheapWrong : ChangeSpec := { name := "forkCheap", fn := fun _ => fun
  | [d1, d2, d3] => { results := [.lit (.bool false)], args := [d1, d2, d3] }
  | _ => none }
def ForkCheapWrongFalsely : Prop := forkCheapRow.holds Try.pinned (OpenSpec.ofChange forkCheapWrong)

/-- 'pglaw10.ForkExit': WHATEVER THE INPUT: true; the input reads as it did. -/
def forkExitSpec : ChangeSpec := { name := "forkExit", fn := fun _ => fun
  | [d1, d2, d3] => { results := [.lit (.bool true)], args := [d1, d2, d3] }
  | _ => none }
def forkExitRow : OpenClaim := { program := "ytkjobhcnlppcnaa", sum := "2fbf7c5a603abac319c8602d25120a4bb259db9e1d14c73e40fc194cf0c07170", func := "pagewright/pglaw10.ForkExit", spec := "forkExit", unfollowed := true, recurses := true, apart := false }
def ForkExitSaid : Prop := forkExitRow.holds Try.pinned (OpenSpec.ofChange forkExitSpec)

/-- ITS FALSE NEIGHBOUR: 'it returns false'. Refute it at one input. -/
def forkExitWrong : ChangeSpec := { name := "forkExit", fn := fun _ => fun
  | [d1, d2, d3] => { results := [.lit (.bool false)], args := [d1, d2, d3] }
  | _ => none }
def ForkExitWrongFalsely : Prop := forkExitRow.holds Try.pinned (OpenSpec.ofChange forkExitWrong)

/- THE SECOND FORM. 'bulk': how many values and letters a reading holds, each counted each time it is reached (what is shared counts as often as it is met; a slice's spare places count too). A statement '..UptoSaid' is the law's where the arguments, and the package variables that the reading takes, are together of bulk at most 1048576: NARROWER than '..Said'. Prove '..Said' where nothing that the law and all that it calls make is longer than what came in: it says more and counts as full. Else prove '..UptoSaid'. A law counts once. -/
mutual
def uptoBulk {H : Type} : DataW H → Nat
  | .lit (.string bytes) => bytes.length + 1
  | .lit _ => 1
  | .nil => 1
  | .ptr d => uptoBulk d + 1
  | .slice elems spare => uptoBulkAll elems + uptoBulkAll spare + 1
  | .agg parts => uptoBulkAll parts + 1
  | .iface _ d => uptoBulk d + 1
  | .map entries => uptoBulkEntries entries + 1
  | .held _ => 1
def uptoBulkAll {H : Type} : List (DataW H) → Nat
  | [] => 0
  | d :: r => uptoBulk d + uptoBulkAll r
def uptoBulkEntries {H : Type} : List (Lit × DataW H) → Nat
  | [] => 0
  | x :: r => uptoBulkEntry x + uptoBulkEntries r
def uptoBulkEntry {H : Type} : Lit × DataW H → Nat
  | (.string bytes, d) => bytes.length + uptoBulk d + 1
  | (_, d) => uptoBulk d + 1
 end
def uptoSmall : (H : Type) → List (DataW H) → Bool := fun _ ds => decide (uptoBulkAll ds ≤ 1048576)
def OpenSpec.upto (s : _root_.Go.ChangeSpec) : _root_.Go.OpenSpec := { _root_.Go.OpenSpec.ofChange s with cond := some uptoSmall }

/-- 'pglaw8.MachineTells', WHERE WHAT IT READS IS OF BULK AT MOST 1048576: true; the input reads as it did. -/
def machineTellsUptoRow : OpenClaim := { program := "ytkjobhcnlppcnaa", sum := "2fbf7c5a603abac319c8602d25120a4bb259db9e1d14c73e40fc194cf0c07170", func := "pagewright/pglaw8.MachineTells", spec := "machineTells", unfollowed := true, recurses := true, apart := false, narrowed := true }
def MachineTellsUptoSaid : Prop := machineTellsUptoRow.holds Try.pinned (OpenSpec.upto machineTellsSpec)

/-- 'pglaw8.MachineOwn', WHERE WHAT IT READS IS OF BULK AT MOST 1048576: true; the input reads as it did. -/
def machineOwnUptoRow : OpenClaim := { program := "ytkjobhcnlppcnaa", sum := "2fbf7c5a603abac319c8602d25120a4bb259db9e1d14c73e40fc194cf0c07170", func := "pagewright/pglaw8.MachineOwn", spec := "machineOwn", unfollowed := true, recurses := true, apart := false, narrowed := true }
def MachineOwnUptoSaid : Prop := machineOwnUptoRow.holds Try.pinned (OpenSpec.upto machineOwnSpec)

/-- 'pglaw8.MachineCounts', WHERE WHAT IT READS IS OF BULK AT MOST 1048576: true; the input reads as it did. -/
def machineCountsUptoRow : OpenClaim := { program := "ytkjobhcnlppcnaa", sum := "2fbf7c5a603abac319c8602d25120a4bb259db9e1d14c73e40fc194cf0c07170", func := "pagewright/pglaw8.MachineCounts", spec := "machineCounts", unfollowed := true, recurses := true, apart := false, narrowed := true }
def MachineCountsUptoSaid : Prop := machineCountsUptoRow.holds Try.pinned (OpenSpec.upto machineCountsSpec)

/-- 'pglaw10.ForkCheap', WHERE WHAT IT READS IS OF BULK AT MOST 1048576: true; the input reads as it did. -/
def forkCheapUptoRow : OpenClaim := { program := "ytkjobhcnlppcnaa", sum := "2fbf7c5a603abac319c8602d25120a4bb259db9e1d14c73e40fc194cf0c07170", func := "pagewright/pglaw10.ForkCheap", spec := "forkCheap", unfollowed := true, recurses := true, apart := false, narrowed := true }
def ForkCheapUptoSaid : Prop := forkCheapUptoRow.holds Try.pinned (OpenSpec.upto forkCheapSpec)

/-- 'pglaw10.ForkExit', WHERE WHAT IT READS IS OF BULK AT MOST 1048576: true; the input reads as it did. -/
def forkExitUptoRow : OpenClaim := { program := "ytkjobhcnlppcnaa", sum := "2fbf7c5a603abac319c8602d25120a4bb259db9e1d14c73e40fc194cf0c07170", func := "pagewright/pglaw10.ForkExit", spec := "forkExit", unfollowed := true, recurses := true, apart := false, narrowed := true }
def ForkExitUptoSaid : Prop := forkExitUptoRow.holds Try.pinned (OpenSpec.upto forkExitSpec)

end Rows
end Go.Proofs.Ytkjobhcnlppcnaa
