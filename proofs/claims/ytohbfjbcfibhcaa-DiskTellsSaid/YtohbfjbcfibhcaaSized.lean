/- The form's own reach, at a slice that is a struct's field. -/
import Derived.Test.YtohbfjbcfibhcaaFrameOpen
import Derived.SizedLaws
namespace Go.Proofs.Ytohbfjbcfibhcaa
open Go.ChangeShapes Go.WideShapes Go.ChangeAt Go.RowKit Pw
set_option linter.unusedSimpArgs false
set_option linter.unusedVariables false

theorem sized_field {P : Program} {t : TypeId} {fs : Array Field} (ht : P.underlying t = some (.struct fs)) {H : Type} {en : TypeId × Value → H} {w : World} {base : Nat} {spare : Nat → Bool} {held : Bool} {fuel : Nat} {cs : List Value} {x : DataW H × List MemPlace} (h : DataW.trod en P w base spare held fuel t cs = some x)
    (hw : ∀ n ∈ x.1.weights P t, n ≤ reachBytes) {i : Nat} {f : Field} (hf : fs[i]? = some f) {e : TypeId} (hu : P.underlying f.type = some (.slice e)) {a : Option Addr} {len cap : Nat} (hc : (cs.drop f.offset).take (P.cellsOf f.type) = [.slice a len cap]) : len * P.bytesOf e ≤ reachBytes := by
  obtain ⟨xs, n, _, hx, _, hn, hel⟩ := DataW.trod_struct ht h
  have h1 := hel i f hf
  rw [hc] at h1
  have hi : i < fs.size := by
    rcases Nat.lt_or_ge i fs.size with h | h
    · exact h
    · rw [Array.getElem?_eq_none h] at hf; cases hf
  have hix : i < xs.length := by omega
  rw [List.getElem?_eq_getElem hix] at h1
  rcases DataW.trod_slice hu h1 with ⟨h2, _⟩ | ⟨a', len', cap', elems, rest, _, _, h2, h3, _, _, _, h4, _⟩
  · cases h2; rw [Nat.zero_mul]; exact Nat.zero_le _
  · cases h2
    have h5 : (elems.length + rest.length) * P.bytesOf e ∈ (xs[i].1).weights P f.type := by
      rw [h3]
      simp [DataW.weights, hu]
    have h6 : (elems.length + rest.length) * P.bytesOf e ∈ x.1.weights P t := by
      rw [hx]
      simp only [DataW.weights, ht]
      refine DataW.weights_mem_each (j := i) (t := f.type) (d := xs[i].1) ?_ ?_ _ h5
      · simp [hf]
      · simp [hix]
    have h7 := hw _ h6
    rw [h4] at h7
    exact Nat.le_trans (Nat.mul_le_mul_right _ (Nat.le_add_right _ _)) h7
theorem sized_arg {H : Type} {P : Program} {ts : List TypeId} {ds : List (DataW H)} (h : (DataW.weightsEach P ts ds).all (· ≤ reachBytes) = true) (j : Nat) {t : TypeId} {d : DataW H} (ht : ts[j]? = some t) (hd : ds[j]? = some d) : ∀ n ∈ d.weights P t, n ≤ reachBytes := by
  intro n hn
  simpa using List.all_eq_true.1 h n (DataW.weights_mem_each ht hd n hn)
theorem reach47 : reachBytes ≤ 140737488355328 := by decide
set_option maxRecDepth 100000 in
theorem mem_sized {W : World} {base' : Nat} {H : Type} {en : TypeId × Value → H} {spare : Nat → Bool} {held : Bool} {fuel : Nat} {a : Option Addr} {n c : Nat} {k : Int} {x : DataW H × List MemPlace} (h : DataW.trod en Try.prog W base' spare held fuel 64 (Value.agg #[.slice a n c, .int .i64 k]).cells.toList = some x) (hw : ∀ n ∈ x.1.weights Try.prog 64, n ≤ reachBytes) : n * 40 ≤ 140737488355328 := by
  have := sized_field Try.underlying64 h hw (i := 0) rfl Try.underlying62 (a := a) (len := n) (cap := c) rfl
  rw [show Try.prog.bytesOf 72 = 40 from by kernel_rfl] at this
  exact Nat.le_trans this reach47
set_option maxRecDepth 100000 in
theorem disk_sized {W : World} {base' : Nat} {H : Type} {en : TypeId × Value → H} {spare : Nat → Bool} {held : Bool} {fuel : Nat} {a b : Option Addr} {n c k l : Nat} {x : DataW H × List MemPlace} (h : DataW.trod en Try.prog W base' spare held fuel 36 (Value.agg #[.slice a n c, .slice b k l]).cells.toList = some x) (hw : ∀ n ∈ x.1.weights Try.prog 36, n ≤ reachBytes) : n * 8 ≤ 140737488355328 ∧ k * 16 ≤ 140737488355328 := by
  have h1 := sized_field Try.underlying36 h hw (i := 0) rfl Try.underlying33 (a := a) (len := n) (cap := c) rfl
  have h2 := sized_field Try.underlying36 h hw (i := 1) rfl Try.underlying34 (a := b) (len := k) (cap := l) rfl
  rw [show Try.prog.bytesOf 23 = 8 from by kernel_rfl] at h1
  rw [show Try.prog.bytesOf 45 = 16 from by kernel_rfl] at h2
  exact ⟨Nat.le_trans h1 reach47, Nat.le_trans h2 reach47⟩
end Go.Proofs.Ytohbfjbcfibhcaa
