/-
  No cell of these rows narrows 'for every input' (looked for: loops, veiled, ifaces, maps, wideKeys, modest, calm, conditions, laid).
  DERIVED. THE GIVEN ROWS OF THIS SEAT. 6 by the template 'for every input the law returns true; each argument reads behind the call as it read before'; 0 by the template 'total and deterministic' (their statements: YthihaopabbpalaaGreatTotals.lean).
  GIVEN WITH THE SEED: the statements are not yours to turn. If you find one false, say at which input.
  Laid BY PROGRAM, IN A SANDBOX (cutbox-rows.mjs): the forced cells as the released guide's own fill.sh prints them over the translation 8c5d2864d9d04a48… (all of the seat's roots in one cut). By AI agents, Wed Nov 11 2026. No macro, syntax, notation, axiom, sorry.
-/
import Derived.Test.YthihaopabbpalaaGreatChecked
import GoSem.Claim
import GoSem.ClaimJoined
import GoSem.ClaimMapViews
import Derived.JoinedTies
import Derived.KernelRfl
namespace Go.Proofs.YthihaopabbpalaaGreat
/- THE CELL 'sum', in the pinned program and in every row, IS THE sha256 OF THE DUMP (.gsa) THAT YthihaopabbpalaaGreatProg.lean LOADS. Nothing in Lean hashes anything: it is a label: what it is worth is what the hold of that sum in a sandbox is worth. -/
noncomputable def Tryz.pinned : Pinned := { name := "ythihaopabbpalaagreat", sum := "8c5d2864d9d04a484345a573dd2bd7198147f73ea365b15ac864d1701118a598", checked := Tryz.checked }
namespace Rows
def none {H : Type} : Left H := { results := [], args := [] }

/-- 'pgtop.TopFork': WHATEVER THE INPUT: true; the input reads as it did. -/
def topForkSpec : ChangeSpec := { name := "topFork", fn := fun _ => fun
  | [d1, d2, d3, d4, d5] => { results := [.lit (.bool true)], args := [d1, d2, d3, d4, d5] }
  | _ => none }
def topForkRow : OpenClaim := { program := "ythihaopabbpalaagreat", sum := "8c5d2864d9d04a484345a573dd2bd7198147f73ea365b15ac864d1701118a598", func := "pagewright/pgtop.TopFork", spec := "topFork", inPlace := ["slices.overlaps[pagewright/api.Area]", "slices.overlaps[pagewright/api.Cached]"], unfollowed := true, recurses := true, apart := false }
def TopForkSaid : Prop := topForkRow.holds Tryz.pinned (OpenSpec.ofChange topForkSpec)

/-- ITS FALSE NEIGHBOUR: 'it returns false'. Refute it at one input. -/
def topForkWrong : ChangeSpec := { name := "topFork", fn := fun _ => fun
  | [d1, d2, d3, d4, d5] => { results := [.lit (.bool false)], args := [d1, d2, d3, d4, d5] }
  | _ => none }
def TopForkWrongFalsely : Prop := topForkRow.holds Tryz.pinned (OpenSpec.ofChange topForkWrong)

/-- 'pglaw9.FaultSame': WHATEVER THE INPUT: true; the input reads as it did. -/
def faultSameSpec : ChangeSpec := { name := "faultSame", fn := fun _ => fun
  | [d1, d2, d3, d4, d5] => { results := [.lit (.bool true)], args := [d1, d2, d3, d4, d5] }
  | _ => none }
def faultSameRow : OpenClaim := { program := "ythihaopabbpalaagreat", sum := "8c5d2864d9d04a484345a573dd2bd7198147f73ea365b15ac864d1701118a598", func := "pagewright/pglaw9.FaultSame", spec := "faultSame", inPlace := ["slices.overlaps[pagewright/api.Cached]"], unfollowed := true, recurses := true, apart := false }
def FaultSameSaid : Prop := faultSameRow.holds Tryz.pinned (OpenSpec.ofChange faultSameSpec)

/-- ITS FALSE NEIGHBOUR: 'it returns false'. Refute it at one input. -/
def faultSameWrong : ChangeSpec := { name := "faultSame", fn := fun _ => fun
  | [d1, d2, d3, d4, d5] => { results := [.lit (.bool false)], args := [d1, d2, d3, d4, d5] }
  | _ => none }
def FaultSameWrongFalsely : Prop := faultSameRow.holds Tryz.pinned (OpenSpec.ofChange faultSameWrong)

/-- 'pglaw9.FaultRefused': WHATEVER THE INPUT: true; the input reads as it did. -/
def faultRefusedSpec : ChangeSpec := { name := "faultRefused", fn := fun _ => fun
  | [d1, d2, d3, d4, d5] => { results := [.lit (.bool true)], args := [d1, d2, d3, d4, d5] }
  | _ => none }
def faultRefusedRow : OpenClaim := { program := "ythihaopabbpalaagreat", sum := "8c5d2864d9d04a484345a573dd2bd7198147f73ea365b15ac864d1701118a598", func := "pagewright/pglaw9.FaultRefused", spec := "faultRefused", inPlace := ["slices.overlaps[pagewright/api.Cached]"], unfollowed := true, recurses := true, apart := false }
def FaultRefusedSaid : Prop := faultRefusedRow.holds Tryz.pinned (OpenSpec.ofChange faultRefusedSpec)

/-- ITS FALSE NEIGHBOUR: 'it returns false'. Refute it at one input. -/
def faultRefusedWrong : ChangeSpec := { name := "faultRefused", fn := fun _ => fun
  | [d1, d2, d3, d4, d5] => { results := [.lit (.bool false)], args := [d1, d2, d3, d4, d5] }
  | _ => none }
def FaultRefusedWrongFalsely : Prop := faultRefusedRow.holds Tryz.pinned (OpenSpec.ofChange faultRefusedWrong)

/-- 'pglaw9.FaultRoom': WHATEVER THE INPUT: true; the input reads as it did. -/
def faultRoomSpec : ChangeSpec := { name := "faultRoom", fn := fun _ => fun
  | [d1, d2, d3, d4, d5] => { results := [.lit (.bool true)], args := [d1, d2, d3, d4, d5] }
  | _ => none }
def faultRoomRow : OpenClaim := { program := "ythihaopabbpalaagreat", sum := "8c5d2864d9d04a484345a573dd2bd7198147f73ea365b15ac864d1701118a598", func := "pagewright/pglaw9.FaultRoom", spec := "faultRoom", inPlace := ["slices.overlaps[pagewright/api.Cached]"], unfollowed := true, recurses := true, apart := false }
def FaultRoomSaid : Prop := faultRoomRow.holds Tryz.pinned (OpenSpec.ofChange faultRoomSpec)

/-- ITS FALSE NEIGHBOUR: 'it returns false'. Refute it at one input. -/
def faultRoomWrong : ChangeSpec := { name := "faultRoom", fn := fun _ => fun
  | [d1, d2, d3, d4, d5] => { results := [.lit (.bool false)], args := [d1, d2, d3, d4, d5] }
  | _ => none }
def FaultRoomWrongFalsely : Prop := faultRoomRow.holds Tryz.pinned (OpenSpec.ofChange faultRoomWrong)

/-- 'pglaw9.FaultAlone': WHATEVER THE INPUT: true; the input reads as it did. -/
def faultAloneSpec : ChangeSpec := { name := "faultAlone", fn := fun _ => fun
  | [d1, d2, d3, d4, d5] => { results := [.lit (.bool true)], args := [d1, d2, d3, d4, d5] }
  | _ => none }
def faultAloneRow : OpenClaim := { program := "ythihaopabbpalaagreat", sum := "8c5d2864d9d04a484345a573dd2bd7198147f73ea365b15ac864d1701118a598", func := "pagewright/pglaw9.FaultAlone", spec := "faultAlone", inPlace := ["slices.overlaps[pagewright/api.Cached]"], unfollowed := true, recurses := true, apart := false }
def FaultAloneSaid : Prop := faultAloneRow.holds Tryz.pinned (OpenSpec.ofChange faultAloneSpec)

/-- ITS FALSE NEIGHBOUR: 'it returns false'. Refute it at one input. -/
def faultAloneWrong : ChangeSpec := { name := "faultAlone", fn := fun _ => fun
  | [d1, d2, d3, d4, d5] => { results := [.lit (.bool false)], args := [d1, d2, d3, d4, d5] }
  | _ => none }
def FaultAloneWrongFalsely : Prop := faultAloneRow.holds Tryz.pinned (OpenSpec.ofChange faultAloneWrong)

/-- 'pglaw10.ForkApart': WHATEVER THE INPUT: true; the input reads as it did. -/
def forkApartSpec : ChangeSpec := { name := "forkApart", fn := fun _ => fun
  | [d1, d2, d3, d4, d5] => { results := [.lit (.bool true)], args := [d1, d2, d3, d4, d5] }
  | _ => none }
def forkApartRow : OpenClaim := { program := "ythihaopabbpalaagreat", sum := "8c5d2864d9d04a484345a573dd2bd7198147f73ea365b15ac864d1701118a598", func := "pagewright/pglaw10.ForkApart", spec := "forkApart", inPlace := ["slices.overlaps[pagewright/api.Cached]"], unfollowed := true, recurses := true, apart := false }
def ForkApartSaid : Prop := forkApartRow.holds Tryz.pinned (OpenSpec.ofChange forkApartSpec)

/-- ITS FALSE NEIGHBOUR: 'it returns false'. Refute it at one input. -/
def forkApartWrong : ChangeSpec := { name := "forkApart", fn := fun _ => fun
  | [d1, d2, d3, d4, d5] => { results := [.lit (.bool false)], args := [d1, d2, d3, d4, d5] }
  | _ => none }
def ForkApartWrongFalsely : Prop := forkApartRow.holds Tryz.pinned (OpenSpec.ofChange forkApartWrong)

/- THE SECOND FORM. 'bulk': how many values and letters a reading holds, each counted each time it is reached (what is shared counts as often as it is met; a slice's spare places count too). A statement '..UptoSaid' is the law's where the arguments, and the package variables that the reading takes, are together of bulk at most 1048576: NARROWER than '..Said'. Prove '..Said' where nothing that the law and all that it calls make is longer than what came in: it says more and counts as full. Else prove '..UptoSaid'. A law counts once. -/
mutual
def uptoBulk {H : Type} : DataW H → Nat
  | .lit (.string bytes) => bytes.length + 1
  | .lit _ => 1
  | .nil => 1
  | .ptr d => uptoBulk d + 1
  | .slice elems spare => uptoBulkAll elems + uptoBulkAll spare + 1
  | .agg parts => uptoBulkAll parts + 1
  | .iface _ d => uptoBulk d + 1
  | .map entries => uptoBulkEntries entries + 1
  | .held _ => 1
def uptoBulkAll {H : Type} : List (DataW H) → Nat
  | [] => 0
  | d :: r => uptoBulk d + uptoBulkAll r
def uptoBulkEntries {H : Type} : List (Lit × DataW H) → Nat
  | [] => 0
  | x :: r => uptoBulkEntry x + uptoBulkEntries r
def uptoBulkEntry {H : Type} : Lit × DataW H → Nat
  | (.string bytes, d) => bytes.length + uptoBulk d + 1
  | (_, d) => uptoBulk d + 1
 end
def uptoSmall : (H : Type) → List (DataW H) → Bool := fun _ ds => decide (uptoBulkAll ds ≤ 1048576)
def OpenSpec.upto (s : _root_.Go.ChangeSpec) : _root_.Go.OpenSpec := { _root_.Go.OpenSpec.ofChange s with cond := some uptoSmall }

/-- 'pgtop.TopFork', WHERE WHAT IT READS IS OF BULK AT MOST 1048576: true; the input reads as it did. -/
def topForkUptoRow : OpenClaim := { program := "ythihaopabbpalaagreat", sum := "8c5d2864d9d04a484345a573dd2bd7198147f73ea365b15ac864d1701118a598", func := "pagewright/pgtop.TopFork", spec := "topFork", inPlace := ["slices.overlaps[pagewright/api.Area]", "slices.overlaps[pagewright/api.Cached]"], unfollowed := true, recurses := true, apart := false, narrowed := true }
def TopForkUptoSaid : Prop := topForkUptoRow.holds Tryz.pinned (OpenSpec.upto topForkSpec)

/-- 'pglaw9.FaultSame', WHERE WHAT IT READS IS OF BULK AT MOST 1048576: true; the input reads as it did. -/
def faultSameUptoRow : OpenClaim := { program := "ythihaopabbpalaagreat", sum := "8c5d2864d9d04a484345a573dd2bd7198147f73ea365b15ac864d1701118a598", func := "pagewright/pglaw9.FaultSame", spec := "faultSame", inPlace := ["slices.overlaps[pagewright/api.Cached]"], unfollowed := true, recurses := true, apart := false, narrowed := true }
def FaultSameUptoSaid : Prop := faultSameUptoRow.holds Tryz.pinned (OpenSpec.upto faultSameSpec)

/-- 'pglaw9.FaultRefused', WHERE WHAT IT READS IS OF BULK AT MOST 1048576: true; the input reads as it did. -/
def faultRefusedUptoRow : OpenClaim := { program := "ythihaopabbpalaagreat", sum := "8c5d2864d9d04a484345a573dd2bd7198147f73ea365b15ac864d1701118a598", func := "pagewright/pglaw9.FaultRefused", spec := "faultRefused", inPlace := ["slices.overlaps[pagewright/api.Cached]"], unfollowed := true, recurses := true, apart := false, narrowed := true }
def FaultRefusedUptoSaid : Prop := faultRefusedUptoRow.holds Tryz.pinned (OpenSpec.upto faultRefusedSpec)

/-- 'pglaw9.FaultRoom', WHERE WHAT IT READS IS OF BULK AT MOST 1048576: true; the input reads as it did. -/
def faultRoomUptoRow : OpenClaim := { program := "ythihaopabbpalaagreat", sum := "8c5d2864d9d04a484345a573dd2bd7198147f73ea365b15ac864d1701118a598", func := "pagewright/pglaw9.FaultRoom", spec := "faultRoom", inPlace := ["slices.overlaps[pagewright/api.Cached]"], unfollowed := true, recurses := true, apart := false, narrowed := true }
def FaultRoomUptoSaid : Prop := faultRoomUptoRow.holds Tryz.pinned (OpenSpec.upto faultRoomSpec)

/-- 'pglaw9.FaultAlone', WHERE WHAT IT READS IS OF BULK AT MOST 1048576: true; the input reads as it did. -/
def faultAloneUptoRow : OpenClaim := { program := "ythihaopabbpalaagreat", sum := "8c5d2864d9d04a484345a573dd2bd7198147f73ea365b15ac864d1701118a598", func := "pagewright/pglaw9.FaultAlone", spec := "faultAlone", inPlace := ["slices.overlaps[pagewright/api.Cached]"], unfollowed := true, recurses := true, apart := false, narrowed := true }
def FaultAloneUptoSaid : Prop := faultAloneUptoRow.holds Tryz.pinned (OpenSpec.upto faultAloneSpec)

/-- 'pglaw10.ForkApart', WHERE WHAT IT READS IS OF BULK AT MOST 1048576: true; the input reads as it did. -/
def forkApartUptoRow : OpenClaim := { program := "ythihaopabbpalaagreat", sum := "8c5d2864d9d04a484345a573dd2bd7198147f73ea365b15ac864d1701118a598", func := "pagewright/pglaw10.ForkApart", spec := "forkApart", inPlace := ["slices.overlaps[pagewright/api.Cached]"], unfollowed := true, recurses := true, apart := false, narrowed := true }
def ForkApartUptoSaid : Prop := forkApartUptoRow.holds Tryz.pinned (OpenSpec.upto forkApartSpec)

end Rows
end Go.Proofs.YthihaopabbpalaaGreat
