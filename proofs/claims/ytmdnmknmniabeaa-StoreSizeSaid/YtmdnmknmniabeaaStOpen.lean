/- Stores that are arguments, read as data. -/
import Derived.Test.YtmdnmknmniabeaaSt
import Derived.Test.YtmdnmknmniabeaaOpen3
namespace Go.Proofs.Ytmdnmknmniabeaa
open Go.ChangeShapes Go.WideShapes Go.ChangeAt Go.RowKit Pw
set_option linter.unusedSimpArgs false
set_option linter.unusedVariables false

theorem opens_ntS : OpensZ Try.prog 3 (fun n : Int => [.int .i64 n]) (fun _ => i64) := (opens_int Try.underlying3).w.z
theorem opens_intsS : OpensZ Try.prog 36 Sl.enc (Sl.goodZ 8 (fun n : Int => [Value.int .i64 n]) (fun _ => i64)) := opens_slZ 8 (by kernel_rfl) Try.underlying36 opens_ntS (fun _ => (by kernel_rfl : 1 = Try.prog.cellsOf 3))
def pfGood (w : World) (p : PF) : Prop := p.good w ∧ i64 p.n ∧ (∀ x ∈ p.l, i64 x) ∧ p.l.length * 8 ≤ 140737488355328
theorem opens_file : OpensZ Try.prog 61 pfL pfGood :=
  (opens_structZ Try.underlying61 (opensFromZ_cons rfl 1 rfl (by kernel_rfl) opens_ntS (opensFromZ_cons rfl 2 rfl (by kernel_rfl) opens_intsS (opensFromZ_nil (by kernel_rfl))))).of (fun x => ⟨x.1, x.2.1.a, x.2.1.l, x.2.1.c⟩) (fun _ => rfl)
    (fun _ x h => by
      obtain ⟨h1, ⟨⟨g1, g2, g3, g4, g5⟩, g6⟩, _⟩ := h
      rw [flat_one] at g4
      exact ⟨⟨g1, g2, g3, g4⟩, h1, g5, g6⟩)
theorem opens_files : OpensZ Try.prog 45 Sl.enc (Sl.goodZ 32 pfL pfGood) := opens_slZ 32 (by kernel_rfl) Try.underlying45 opens_file (fun _ => (by kernel_rfl : 2 = Try.prog.cellsOf 61))
set_option maxRecDepth 100000 in
theorem store_arg {W : World} {base base' : Nat} {H : Type} {en : TypeId × Value → H} {spare : Nat → Bool} {held : Bool} {fuel : Nat} {v : Value} {x : DataW H × List MemPlace} (hv : Value.okWide Try.prog W .any base 47 v) (h : DataW.trod en Try.prog W base' spare held fuel 47 v.cells.toList = some x)
    (hw : ∀ n ∈ x.1.weights Try.prog 47, n ≤ reachBytes) :
    ∃ (ps : List PF) (a : Option Addr) (c : Nat) (k : Int), v = .agg (stC a ps.length c k) ∧ FsR W a c ps ∧ (-9223372036854775808 ≤ k ∧ k ≤ 9223372036854775807) ∧ (∀ p ∈ ps, pfGood W p) ∧ ps.length * 32 ≤ 140737488355328 := by
  obtain ⟨cs, rfl, _⟩ := okWide_struct Try.underlying47 hv
  obtain ⟨⟨s, k, _⟩, hcs, ⟨⟨g1, g2, g3, g4, g5⟩, g6⟩, gk, _⟩ := opens_structZ Try.underlying47 (opensFromZ_cons rfl 1 rfl (by kernel_rfl) opens_files (opensFromZ_cons rfl 2 rfl (by kernel_rfl) opens_ntS (opensFromZ_nil (by kernel_rfl)))) _ _ _ _ _ _ _ _ _ h hw
  refine ⟨s.l, s.a, s.c, k, ?_, ⟨g1, g2, g3, g4, fun p hp => (g5 p hp).1⟩, gk, g5, g6⟩
  congr 1
  apply Array.ext'
  exact hcs
end Go.Proofs.Ytmdnmknmniabeaa
