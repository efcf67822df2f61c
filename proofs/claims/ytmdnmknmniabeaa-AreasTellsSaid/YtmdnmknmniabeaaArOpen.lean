/- Areas that are arguments, read as data. -/
import Derived.Test.YtmdnmknmniabeaaAr5
import Derived.Test.YtmdnmknmniabeaaOpen3
namespace Go.Proofs.Ytmdnmknmniabeaa
open Go.ChangeShapes Go.WideShapes Go.ChangeAt Go.RowKit Pw
set_option linter.unusedSimpArgs false
set_option linter.unusedVariables false

theorem opens_ntA : OpensZ Try.prog 3 (fun n : Int => [.int .i64 n]) (fun _ => i64) := (opens_int Try.underlying3).w.z
theorem opens_blA : OpensZ Try.prog 4 (fun b : Bool => [.bool b]) (fun _ _ => True) := (opens_bool Try.underlying4).w.z
def arGood (_ : World) (a : Ar) : Prop := i64 a.fr ∧ i64 a.en ∧ i64 a.fi ∧ i64 a.ba
theorem opens_area : OpensZ Try.prog 66 arL arGood :=
  (opens_structZ Try.underlying66 (opensFromZ_cons rfl 1 rfl (by kernel_rfl) opens_ntA (opensFromZ_cons rfl 2 rfl (by kernel_rfl) opens_ntA (opensFromZ_cons rfl 3 rfl (by kernel_rfl) opens_blA (opensFromZ_cons rfl 4 rfl (by kernel_rfl) opens_blA
    (opensFromZ_cons rfl 5 rfl (by kernel_rfl) opens_blA (opensFromZ_cons rfl 6 rfl (by kernel_rfl) opens_ntA (opensFromZ_cons rfl 7 rfl (by kernel_rfl) opens_ntA (opensFromZ_nil (by kernel_rfl)))))))))).of
    (fun x => ⟨x.1, x.2.1, x.2.2.1, x.2.2.2.1, x.2.2.2.2.1, x.2.2.2.2.2.1, x.2.2.2.2.2.2.1⟩) (fun _ => rfl) (fun _ _ h => ⟨h.1, h.2.1, h.2.2.2.2.2.1, h.2.2.2.2.2.2.1⟩)
theorem opens_areas : OpensZ Try.prog 64 Sl.enc (Sl.goodZ 40 arL arGood) := opens_slZ 40 (by kernel_rfl) Try.underlying64 opens_area (fun _ => (by kernel_rfl : 7 = Try.prog.cellsOf 66))
set_option maxRecDepth 100000 in
theorem area_arg {W : World} {base base' : Nat} {H : Type} {en : TypeId × Value → H} {spare : Nat → Bool} {held : Bool} {fuel : Nat} {v : Value} {x : DataW H × List MemPlace} (hv : Value.okWide Try.prog W .any base 66 v) (h : DataW.trod en Try.prog W base' spare held fuel 66 v.cells.toList = some x)
    (hw : ∀ n ∈ x.1.weights Try.prog 66, n ≤ reachBytes) : ∃ a : Ar, v = .agg (arC a) ∧ arGood W a := by
  obtain ⟨cs, rfl, _⟩ := okWide_struct Try.underlying66 hv
  obtain ⟨a, hcs, hg⟩ := opens_area _ _ _ _ _ _ _ _ _ h hw
  refine ⟨a, ?_, hg⟩
  congr 1
  apply Array.ext'
  exact hcs
set_option maxRecDepth 100000 in
theorem areas_arg {W : World} {base base' : Nat} {H : Type} {en : TypeId × Value → H} {spare : Nat → Bool} {held : Bool} {fuel : Nat} {v : Value} {x : DataW H × List MemPlace} (hv : Value.okWide Try.prog W .any base 64 v) (h : DataW.trod en Try.prog W base' spare held fuel 64 v.cells.toList = some x)
    (hw : ∀ n ∈ x.1.weights Try.prog 64, n ≤ reachBytes) : ∃ (l : List Ar) (a : Option Addr) (c : Nat), v = .slice a l.length c ∧ AsR W a c l ∧ (∀ a ∈ l, arGood W a) ∧ l.length * 40 ≤ 140737488355328 := by
  obtain ⟨a, len, cap, rfl⟩ := okWide_slice Try.underlying64 hv
  obtain ⟨s, hcs, ⟨⟨g1, g2, g3, g4, g5⟩, g6⟩⟩ := opens_areas _ _ _ _ _ _ _ _ _ h hw
  simp only [Value.cells, Sl.enc, List.cons.injEq, Value.slice.injEq, and_true] at hcs
  obtain ⟨rfl, rfl, rfl⟩ := hcs
  exact ⟨s.l, s.a, s.c, rfl, ⟨g1, g2, g3, g4⟩, g5, g6⟩
end Go.Proofs.Ytmdnmknmniabeaa
