/- Tables, entries that are arguments, read as data. -/
import Derived.Test.YtmdnmknmniabeaaTab2
import Derived.Test.YtmdnmknmniabeaaOpen3
namespace Go.Proofs.Ytmdnmknmniabeaa
open Go.ChangeShapes Go.WideShapes Go.ChangeAt Go.RowKit Pw
set_option linter.unusedSimpArgs false
set_option linter.unusedVariables false

theorem opens_nt : OpensZ Try.prog 3 (fun n : Int => [.int .i64 n]) (fun _ => i64) := (opens_int Try.underlying3).w.z
theorem opens_bl : OpensZ Try.prog 4 (fun b : Bool => [.bool b]) (fun _ _ => True) := (opens_bool Try.underlying4).w.z
def enGood (_ : World) (e : En) : Prop := i64 e.k ∧ i64 e.n
theorem opens_entry : OpensZ Try.prog 26 enL enGood :=
  (opens_structZ Try.underlying26 (opensFromZ_cons rfl 1 rfl (by kernel_rfl) opens_nt (opensFromZ_cons rfl 2 rfl (by kernel_rfl) opens_nt (opensFromZ_cons rfl 3 rfl (by kernel_rfl) opens_bl (opensFromZ_nil (by kernel_rfl)))))).of (fun x => ⟨x.1, x.2.1, x.2.2.1⟩) (fun _ => rfl) (fun _ _ h => ⟨h.1, h.2.1⟩)
theorem opens_entries : OpensZ Try.prog 22 Sl.enc (Sl.goodZ 24 enL enGood) := opens_slZ 24 (by kernel_rfl) Try.underlying22 opens_entry (fun _ => (by kernel_rfl : 3 = Try.prog.cellsOf 26))
theorem opens_table : OpensZ Try.prog 24 (fun l : List (Sl En) => l.flatMap Sl.enc) (fun w l => l.length = 8 ∧ ∀ y ∈ l, Sl.goodZ 24 enL enGood w y) :=
  opens_arrZ Try.underlying24 opens_entries (fun _ => (by kernel_rfl : 1 = Try.prog.cellsOf 22)) (by kernel_rfl)
theorem sl_flat {α : Type} (l : List (Sl α)) : l.flatMap Sl.enc = l.map fun s => Value.slice s.a s.l.length s.c := flat_one _ l
set_option maxRecDepth 100000 in
theorem tab_arg {W : World} {base base' : Nat} {H : Type} {en : TypeId × Value → H} {spare : Nat → Bool} {held : Bool} {fuel : Nat} {v : Value} {x : DataW H × List MemPlace} (hv : Value.okWide Try.prog W .any base 24 v) (h : DataW.trod en Try.prog W base' spare held fuel 24 v.cells.toList = some x)
    (hw : ∀ n ∈ x.1.weights Try.prog 24, n ≤ reachBytes) :
    ∃ (t : Tb) (cs : Array Value), v = .agg cs ∧ TbR W cs t ∧ TbSz t ∧ ∀ k (h : k < 8), ∀ e ∈ t[k], enGood W e := by
  obtain ⟨cs, rfl, _⟩ := okWide_array Try.underlying24 hv
  obtain ⟨l, hcs, hl, hg⟩ := opens_table _ _ _ _ _ _ _ _ _ h hw
  simp only [sl_flat] at hcs
  have hcs' : cs = (l.map fun s => Value.slice s.a s.l.length s.c).toArray := by
    apply Array.ext'
    simpa [Value.cells] using hcs
  have hget : ∀ k (hk : k < 8), (⟨(l.map (·.l)).toArray, by simp [hl]⟩ : Tb)[k] = (l[k]'(by omega)).l := by
    intro k hk
    simp
  refine ⟨⟨(l.map (·.l)).toArray, by simp [hl]⟩, cs, rfl, ⟨by rw [hcs']; simp [hl], fun k hk => ?_⟩, fun k hk => ?_, fun k hk e he => ?_⟩
  · obtain ⟨⟨g1, g2, g3, g4, _⟩, _⟩ := hg l[k] (List.getElem_mem _)
    refine ⟨l[k].a, l[k].c, ?_, ?_⟩
    · rw [hcs', hget k hk]
      simp [show k < l.length from by omega]
    · rw [hget k hk]
      exact ⟨g1, g2, g3, g4⟩
  · rw [hget k hk]
    exact (hg l[k] (List.getElem_mem _)).2
  · rw [hget k hk] at he
    exact (hg l[k] (List.getElem_mem _)).1.2.2.2.2 e he
set_option maxRecDepth 100000 in
theorem entry_arg {W : World} {base base' : Nat} {H : Type} {en : TypeId × Value → H} {spare : Nat → Bool} {held : Bool} {fuel : Nat} {v : Value} {x : DataW H × List MemPlace} (hv : Value.okWide Try.prog W .any base 26 v) (h : DataW.trod en Try.prog W base' spare held fuel 26 v.cells.toList = some x)
    (hw : ∀ n ∈ x.1.weights Try.prog 26, n ≤ reachBytes) : ∃ e : En, v = .agg (enC e) ∧ enGood W e := by
  obtain ⟨cs, rfl, _⟩ := okWide_struct Try.underlying26 hv
  obtain ⟨e, hcs, hg⟩ := opens_entry _ _ _ _ _ _ _ _ _ h hw
  refine ⟨e, ?_, hg⟩
  congr 1
  apply Array.ext'
  exact hcs
end Go.Proofs.Ytmdnmknmniabeaa
