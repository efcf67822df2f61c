/- A memory that is an argument, read as data. -/
import Derived.Test.YtohbfjbcfibhcaaFrame2
import Derived.Test.YtohbfjbcfibhcaaDiskOpen
namespace Go.Proofs.Ytohbfjbcfibhcaa
open Go.ChangeShapes Go.WideShapes Go.ChangeAt Go.RowKit Pw
set_option linter.unusedSimpArgs false
set_option linter.unusedVariables false

theorem opens_bl : OpensW Try.prog 4 (fun b : Bool => [.bool b]) (fun _ _ => True) := (opens_bool Try.underlying4).w
def frGood (_ : World) (f : Fr) : Prop := i64 f.r ∧ i64 f.f ∧ i64 f.i
theorem opens_frame : OpensW Try.prog 72 frL frGood :=
  (opens_struct Try.underlying72 (opensFrom_cons rfl 8 rfl (by kernel_rfl) opens_pg (opensFrom_cons rfl 9 rfl (by kernel_rfl) opens_nt (opensFrom_cons rfl 10 rfl (by kernel_rfl) opens_bl (opensFrom_cons rfl 11 rfl (by kernel_rfl) opens_bl (opensFrom_cons rfl 12 rfl (by kernel_rfl) opens_nt (opensFrom_cons rfl 13 rfl (by kernel_rfl) opens_nt (opensFrom_nil (by kernel_rfl))))))))).of (fun x => ⟨x.1, x.2.1, x.2.2.1, x.2.2.2.1, x.2.2.2.2.1, x.2.2.2.2.2.1⟩) (fun _ => rfl) (fun _ _ h => ⟨h.2.1, h.2.2.2.2.1, h.2.2.2.2.2.1⟩)
theorem opens_frames : OpensW Try.prog 62 Sl.enc (Sl.good frL frGood) := opens_sl Try.underlying62 opens_frame (fun _ => (by kernel_rfl : 13 = Try.prog.cellsOf 72))
theorem opens_mem : OpensW Try.prog 64 (fun x : Sl Fr × Int => x.1.enc ++ [.int .i64 x.2]) (fun w x => Sl.good frL frGood w x.1 ∧ i64 x.2) :=
  (opens_struct Try.underlying64 (opensFrom_cons rfl 1 rfl (by kernel_rfl) opens_frames (opensFrom_cons rfl 2 rfl (by kernel_rfl) opens_nt (opensFrom_nil (by kernel_rfl))))).of (fun x => (x.1, x.2.1)) (fun _ => rfl) (fun _ _ h => ⟨h.1, h.2.1⟩)
set_option maxRecDepth 100000 in
/-- A memory that is an argument. -/
theorem mem_arg {W : World} {base base' : Nat} {H : Type} {en : TypeId × Value → H} {spare : Nat → Bool} {held : Bool} {fuel : Nat} {v : Value} {x : DataW H × List MemPlace} (hv : Value.okWide Try.prog W .any base 64 v) (h : DataW.trod en Try.prog W base' spare held fuel 64 v.cells.toList = some x) :
    ∃ (m : Mem) (a : Option Addr) (c : Nat), v = .agg #[.slice a m.fs.length c, .int .i64 m.hand] ∧ MRd W a c m ∧ (∀ f ∈ m.fs, frGood W f) ∧ i64 m.hand := by
  obtain ⟨cs, rfl, _⟩ := okWide_struct Try.underlying64 hv
  obtain ⟨⟨⟨a, l, c⟩, n⟩, hcs, ⟨g1, g2, g3, g4, g5⟩, gn⟩ := opens_mem _ _ _ _ _ _ _ _ _ h
  refine ⟨⟨l, n⟩, a, c, ?_, ⟨g1, g2, g3, g4⟩, g5, gn⟩
  congr 1
  apply Array.ext'
  simpa [Value.cells, Sl.enc] using hcs
end Go.Proofs.Ytohbfjbcfibhcaa
