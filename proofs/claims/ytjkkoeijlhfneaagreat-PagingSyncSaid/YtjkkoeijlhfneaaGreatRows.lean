/-
  No cell of these rows narrows 'for every input' (looked for: loops, veiled, ifaces, maps, wideKeys, modest, calm, conditions, laid).
  DERIVED. THE GIVEN ROWS OF THIS SEAT. 6 by the template 'for every input the law returns true; each argument reads behind the call as it read before'; 0 by the template 'total and deterministic' (their statements: YtjkkoeijlhfneaaGreatTotals.lean).
  GIVEN WITH THE SEED: the statements are not yours to turn. If you find one false, say at which input.
  Laid BY PROGRAM, IN A SANDBOX (cutbox-rows.mjs): the forced cells as the released guide's own fill.sh prints them over the translation f77a9b8362597706… (all of the seat's roots in one cut). By AI agents, Wed Nov 11 2026. No macro, syntax, notation, axiom, sorry.
-/
import Derived.Test.YtjkkoeijlhfneaaGreatChecked
import GoSem.Claim
import GoSem.ClaimJoined
import GoSem.ClaimMapViews
import Derived.JoinedTies
import Derived.KernelRfl
namespace Go.Proofs.YtjkkoeijlhfneaaGreat
/- THE CELL 'sum', in the pinned program and in every row, IS THE sha256 OF THE DUMP (.gsa) THAT YtjkkoeijlhfneaaGreatProg.lean LOADS. Nothing in Lean hashes anything: it is a label: what it is worth is what the hold of that sum in a sandbox is worth. -/
noncomputable def Tryz.pinned : Pinned := { name := "ytjkkoeijlhfneaagreat", sum := "f77a9b8362597706e9f4cf9fdefd6deceebab090af8f71da9a29f882cf6e5dbb", checked := Tryz.checked }
namespace Rows
def none {H : Type} : Left H := { results := [], args := [] }

/-- 'pglaw10.ForkSame': WHATEVER THE INPUT: true; the input reads as it did. -/
def forkSameSpec : ChangeSpec := { name := "forkSame", fn := fun _ => fun
  | [d1, d2, d3] => { results := [.lit (.bool true)], args := [d1, d2, d3] }
  | _ => none }
def forkSameRow : OpenClaim := { program := "ytjkkoeijlhfneaagreat", sum := "f77a9b8362597706e9f4cf9fdefd6deceebab090af8f71da9a29f882cf6e5dbb", func := "pagewright/pglaw10.ForkSame", spec := "forkSame", unfollowed := true, recurses := true, apart := false }
def ForkSameSaid : Prop := forkSameRow.holds Tryz.pinned (OpenSpec.ofChange forkSameSpec)

/-- ITS FALSE NEIGHBOUR: 'it returns false'. Refute it at one input. -/
def forkSameWrong : ChangeSpec := { name := "forkSame", fn := fun _ => fun
  | [d1, d2, d3] => { results := [.lit (.bool false)], args := [d1, d2, d3] }
  | _ => none }
def ForkSameWrongFalsely : Prop := forkSameRow.holds Tryz.pinned (OpenSpec.ofChange forkSameWrong)

/-- 'pglaw11.PagingSame': WHATEVER THE INPUT: true; the input reads as it did. -/
def pagingSameSpec : ChangeSpec := { name := "pagingSame", fn := fun _ => fun
  | [d1, d2, d3] => { results := [.lit (.bool true)], args := [d1, d2, d3] }
  | _ => none }
def pagingSameRow : OpenClaim := { program := "ytjkkoeijlhfneaagreat", sum := "f77a9b8362597706e9f4cf9fdefd6deceebab090af8f71da9a29f882cf6e5dbb", func := "pagewright/pglaw11.PagingSame", spec := "pagingSame", unfollowed := true, recurses := true, apart := false }
def PagingSameSaid : Prop := pagingSameRow.holds Tryz.pinned (OpenSpec.ofChange pagingSameSpec)

/-- ITS FALSE NEIGHBOUR: 'it returns false'. Refute it at one input. -/
def pagingSameWrong : ChangeSpec := { name := "pagingSame", fn := fun _ => fun
  | [d1, d2, d3] => { results := [.lit (.bool false)], args := [d1, d2, d3] }
  | _ => none }
def PagingSameWrongFalsely : Prop := pagingSameRow.holds Tryz.pinned (OpenSpec.ofChange pagingSameWrong)

/-- 'pglaw11.PagingEvict': WHATEVER THE INPUT: true; the input reads as it did. -/
def pagingEvictSpec : ChangeSpec := { name := "pagingEvict", fn := fun _ => fun
  | [d1, d2] => { results := [.lit (.bool true)], args := [d1, d2] }
  | _ => none }
def pagingEvictRow : OpenClaim := { program := "ytjkkoeijlhfneaagreat", sum := "f77a9b8362597706e9f4cf9fdefd6deceebab090af8f71da9a29f882cf6e5dbb", func := "pagewright/pglaw11.PagingEvict", spec := "pagingEvict", unfollowed := true, recurses := true, apart := false }
def PagingEvictSaid : Prop := pagingEvictRow.holds Tryz.pinned (OpenSpec.ofChange pagingEvictSpec)

/-- ITS FALSE NEIGHBOUR: 'it returns false'. Refute it at one input. -/
def pagingEvictWrong : ChangeSpec := { name := "pagingEvict", fn := fun _ => fun
  | [d1, d2] => { results := [.lit (.bool false)], args := [d1, d2] }
  | _ => none }
def PagingEvictWrongFalsely : Prop := pagingEvictRow.holds Tryz.pinned (OpenSpec.ofChange pagingEvictWrong)

/-- 'pglaw11.PagingClean': WHATEVER THE INPUT: true; the input reads as it did. -/
def pagingCleanSpec : ChangeSpec := { name := "pagingClean", fn := fun _ => fun
  | [d1, d2] => { results := [.lit (.bool true)], args := [d1, d2] }
  | _ => none }
def pagingCleanRow : OpenClaim := { program := "ytjkkoeijlhfneaagreat", sum := "f77a9b8362597706e9f4cf9fdefd6deceebab090af8f71da9a29f882cf6e5dbb", func := "pagewright/pglaw11.PagingClean", spec := "pagingClean", unfollowed := true, recurses := true, apart := false }
def PagingCleanSaid : Prop := pagingCleanRow.holds Tryz.pinned (OpenSpec.ofChange pagingCleanSpec)

/-- ITS FALSE NEIGHBOUR: 'it returns false'. Refute it at one input. -/
def pagingCleanWrong : ChangeSpec := { name := "pagingClean", fn := fun _ => fun
  | [d1, d2] => { results := [.lit (.bool false)], args := [d1, d2] }
  | _ => none }
def PagingCleanWrongFalsely : Prop := pagingCleanRow.holds Tryz.pinned (OpenSpec.ofChange pagingCleanWrong)

/-- 'pglaw11.PagingSync': WHATEVER THE INPUT: true; the input reads as it did. -/
def pagingSyncSpec : ChangeSpec := { name := "pagingSync", fn := fun _ => fun
  | [d1, d2, d3, d4, d5] => { results := [.lit (.bool true)], args := [d1, d2, d3, d4, d5] }
  | _ => none }
def pagingSyncRow : OpenClaim := { program := "ytjkkoeijlhfneaagreat", sum := "f77a9b8362597706e9f4cf9fdefd6deceebab090af8f71da9a29f882cf6e5dbb", func := "pagewright/pglaw11.PagingSync", spec := "pagingSync", unfollowed := true, recurses := true, apart := false }
def PagingSyncSaid : Prop := pagingSyncRow.holds Tryz.pinned (OpenSpec.ofChange pagingSyncSpec)

/-- ITS FALSE NEIGHBOUR: 'it returns false'. Refute it at one input. -/
def pagingSyncWrong : ChangeSpec := { name := "pagingSync", fn := fun _ => fun
  | [d1, d2, d3, d4, d5] => { results := [.lit (.bool false)], args := [d1, d2, d3, d4, d5] }
  | _ => none }
def PagingSyncWrongFalsely : Prop := pagingSyncRow.holds Tryz.pinned (OpenSpec.ofChange pagingSyncWrong)

/-- 'pglaw11.PagingCrash': WHATEVER THE INPUT: true; the input reads as it did. -/
def pagingCrashSpec : ChangeSpec := { name := "pagingCrash", fn := fun _ => fun
  | [d1, d2, d3] => { results := [.lit (.bool true)], args := [d1, d2, d3] }
  | _ => none }
def pagingCrashRow : OpenClaim := { program := "ytjkkoeijlhfneaagreat", sum := "f77a9b8362597706e9f4cf9fdefd6deceebab090af8f71da9a29f882cf6e5dbb", func := "pagewright/pglaw11.PagingCrash", spec := "pagingCrash", unfollowed := true, recurses := true, apart := false }
def PagingCrashSaid : Prop := pagingCrashRow.holds Tryz.pinned (OpenSpec.ofChange pagingCrashSpec)

/-- ITS FALSE NEIGHBOUR: 'it returns false'. Refute it at one input. -/
def pagingCrashWrong : ChangeSpec := { name := "pagingCrash", fn := fun _ => fun
  | [d1, d2, d3] => { results := [.lit (.bool false)], args := [d1, d2, d3] }
  | _ => none }
def PagingCrashWrongFalsely : Prop := pagingCrashRow.holds Tryz.pinned (OpenSpec.ofChange pagingCrashWrong)

/- THE SECOND FORM. 'bulk': how many values and letters a reading holds, each counted each time it is reached (what is shared counts as often as it is met; a slice's spare places count too). A statement '..UptoSaid' is the law's where the arguments, and the package variables that the reading takes, are together of bulk at most 1048576: NARROWER than '..Said'. Prove '..Said' where nothing that the law and all that it calls make is longer than what came in: it says more and counts as full. Else prove '..UptoSaid'. A law counts once. -/
mutual
def uptoBulk {H : Type} : DataW H → Nat
  | .lit (.string bytes) => bytes.length + 1
  | .lit _ => 1
  | .nil => 1
  | .ptr d => uptoBulk d + 1
  | .slice elems spare => uptoBulkAll elems + uptoBulkAll spare + 1
  | .agg parts => uptoBulkAll parts + 1
  | .iface _ d => uptoBulk d + 1
  | .map entries => uptoBulkEntries entries + 1
  | .held _ => 1
def uptoBulkAll {H : Type} : List (DataW H) → Nat
  | [] => 0
  | d :: r => uptoBulk d + uptoBulkAll r
def uptoBulkEntries {H : Type} : List (Lit × DataW H) → Nat
  | [] => 0
  | x :: r => uptoBulkEntry x + uptoBulkEntries r
def uptoBulkEntry {H : Type} : Lit × DataW H → Nat
  | (.string bytes, d) => bytes.length + uptoBulk d + 1
  | (_, d) => uptoBulk d + 1
 end
def uptoSmall : (H : Type) → List (DataW H) → Bool := fun _ ds => decide (uptoBulkAll ds ≤ 1048576)
def OpenSpec.upto (s : _root_.Go.ChangeSpec) : _root_.Go.OpenSpec := { _root_.Go.OpenSpec.ofChange s with cond := some uptoSmall }

/-- 'pglaw10.ForkSame', WHERE WHAT IT READS IS OF BULK AT MOST 1048576: true; the input reads as it did. -/
def forkSameUptoRow : OpenClaim := { program := "ytjkkoeijlhfneaagreat", sum := "f77a9b8362597706e9f4cf9fdefd6deceebab090af8f71da9a29f882cf6e5dbb", func := "pagewright/pglaw10.ForkSame", spec := "forkSame", unfollowed := true, recurses := true, apart := false, narrowed := true }
def ForkSameUptoSaid : Prop := forkSameUptoRow.holds Tryz.pinned (OpenSpec.upto forkSameSpec)

/-- 'pglaw11.PagingSame', WHERE WHAT IT READS IS OF BULK AT MOST 1048576: true; the input reads as it did. -/
def pagingSameUptoRow : OpenClaim := { program := "ytjkkoeijlhfneaagreat", sum := "f77a9b8362597706e9f4cf9fdefd6deceebab090af8f71da9a29f882cf6e5dbb", func := "pagewright/pglaw11.PagingSame", spec := "pagingSame", unfollowed := true, recurses := true, apart := false, narrowed := true }
def PagingSameUptoSaid : Prop := pagingSameUptoRow.holds Tryz.pinned (OpenSpec.upto pagingSameSpec)

/-- 'pglaw11.PagingEvict', WHERE WHAT IT READS IS OF BULK AT MOST 1048576: true; the input reads as it did. -/
def pagingEvictUptoRow : OpenClaim := { program := "ytjkkoeijlhfneaagreat", sum := "f77a9b8362597706e9f4cf9fdefd6deceebab090af8f71da9a29f882cf6e5dbb", func := "pagewright/pglaw11.PagingEvict", spec := "pagingEvict", unfollowed := true, recurses := true, apart := false, narrowed := true }
def PagingEvictUptoSaid : Prop := pagingEvictUptoRow.holds Tryz.pinned (OpenSpec.upto pagingEvictSpec)

/-- 'pglaw11.PagingClean', WHERE WHAT IT READS IS OF BULK AT MOST 1048576: true; the input reads as it did. -/
def pagingCleanUptoRow : OpenClaim := { program := "ytjkkoeijlhfneaagreat", sum := "f77a9b8362597706e9f4cf9fdefd6deceebab090af8f71da9a29f882cf6e5dbb", func := "pagewright/pglaw11.PagingClean", spec := "pagingClean", unfollowed := true, recurses := true, apart := false, narrowed := true }
def PagingCleanUptoSaid : Prop := pagingCleanUptoRow.holds Tryz.pinned (OpenSpec.upto pagingCleanSpec)

/-- 'pglaw11.PagingSync', WHERE WHAT IT READS IS OF BULK AT MOST 1048576: true; the input reads as it did. -/
def pagingSyncUptoRow : OpenClaim := { program := "ytjkkoeijlhfneaagreat", sum := "f77a9b8362597706e9f4cf9fdefd6deceebab090af8f71da9a29f882cf6e5dbb", func := "pagewright/pglaw11.PagingSync", spec := "pagingSync", unfollowed := true, recurses := true, apart := false, narrowed := true }
def PagingSyncUptoSaid : Prop := pagingSyncUptoRow.holds Tryz.pinned (OpenSpec.upto pagingSyncSpec)

/-- 'pglaw11.PagingCrash', WHERE WHAT IT READS IS OF BULK AT MOST 1048576: true; the input reads as it did. -/
def pagingCrashUptoRow : OpenClaim := { program := "ytjkkoeijlhfneaagreat", sum := "f77a9b8362597706e9f4cf9fdefd6deceebab090af8f71da9a29f882cf6e5dbb", func := "pagewright/pglaw11.PagingCrash", spec := "pagingCrash", unfollowed := true, recurses := true, apart := false, narrowed := true }
def PagingCrashUptoSaid : Prop := pagingCrashUptoRow.holds Tryz.pinned (OpenSpec.upto pagingCrashSpec)

end Rows
end Go.Proofs.YtjkkoeijlhfneaaGreat
