/- A disk that is an argument, read as data. -/
import Derived.Test.YtohbfjbcfibhcaaDisk
import Derived.Test.YtohbfjbcfibhcaaOpen2
namespace Go.Proofs.Ytohbfjbcfibhcaa
open Go.ChangeShapes Go.WideShapes Go.ChangeAt Go.RowKit Pw
set_option linter.unusedSimpArgs false
set_option linter.unusedVariables false

theorem opens_pg : OpensW Try.prog 23 pgL (fun _ _ => True) := (opens_page Try.underlying23 Try.underlying5 (by kernel_rfl) (by kernel_rfl)).w
theorem opens_nt : OpensW Try.prog 3 (fun n : Int => [.int .i64 n]) (fun _ => i64) := (opens_int Try.underlying3).w
theorem opens_put : OpensW Try.prog 45 puL (fun _ q => i64 q.1) :=
  (opens_struct Try.underlying45 (opensFrom_cons rfl 1 rfl (by kernel_rfl) opens_nt (opensFrom_cons rfl 9 rfl (by kernel_rfl) opens_pg (opensFrom_nil (by kernel_rfl))))).of (fun x => (x.1, x.2.1)) (fun _ => rfl) (fun _ _ h => h.1)
theorem opens_pages : OpensW Try.prog 33 Sl.enc (Sl.good pgL (fun _ _ => True)) := opens_sl Try.underlying33 opens_pg (fun _ => (by kernel_rfl : 8 = Try.prog.cellsOf 23))
theorem opens_puts : OpensW Try.prog 34 Sl.enc (Sl.good puL (fun _ q => i64 q.1)) := opens_sl Try.underlying34 opens_put (fun _ => (by kernel_rfl : 9 = Try.prog.cellsOf 45))
theorem opens_disk : OpensW Try.prog 36 (fun x : Sl Page × Sl (Int × Page) => x.1.enc ++ x.2.enc) (fun w x => Sl.good pgL (fun _ _ => True) w x.1 ∧ Sl.good puL (fun _ q => i64 q.1) w x.2) :=
  (opens_struct Try.underlying36 (opensFrom_cons rfl 1 rfl (by kernel_rfl) opens_pages (opensFrom_cons rfl 2 rfl (by kernel_rfl) opens_puts (opensFrom_nil (by kernel_rfl))))).of (fun x => (x.1, x.2.1)) (fun _ => rfl) (fun _ _ h => ⟨h.1, h.2.1⟩)
set_option maxRecDepth 100000 in
/-- A disk that is an argument. -/
theorem disk_arg {W : World} {base base' : Nat} {H : Type} {en : TypeId × Value → H} {spare : Nat → Bool} {held : Bool} {fuel : Nat} {v : Value} {x : DataW H × List MemPlace} (hv : Value.okWide Try.prog W .any base 36 v) (h : DataW.trod en Try.prog W base' spare held fuel 36 v.cells.toList = some x) :
    ∃ (d : Dsk) (ab : Option Addr) (cb : Nat) (aq : Option Addr) (cq : Nat), v = .agg #[.slice ab d.blocks.length cb, .slice aq d.queue.length cq] ∧ DRd W ab cb aq cq d ∧ ∀ q ∈ d.queue, i64 q.1 := by
  obtain ⟨cs, rfl, _⟩ := okWide_struct Try.underlying36 hv
  obtain ⟨⟨⟨ab, B, cb⟩, ⟨aq, Q, cq⟩⟩, hcs, ⟨g1, g2, g3, g4, _⟩, ⟨k1, k2, k3, k4, k5⟩⟩ := opens_disk _ _ _ _ _ _ _ _ _ h
  refine ⟨⟨B, Q⟩, ab, cb, aq, cq, ?_, ⟨g1, k1, g2, k2, g3, k3, g4, k4⟩, k5⟩
  congr 1
  apply Array.ext'
  simpa [Value.cells, Sl.enc] using hcs
end Go.Proofs.Ytohbfjbcfibhcaa
