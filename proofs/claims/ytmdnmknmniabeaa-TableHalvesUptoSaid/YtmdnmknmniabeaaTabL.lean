/- Plain laws of tables for TableTells: what is flat, guarded; elements of arrays by value. -/
import Derived.Test.YtmdnmknmniabeaaTabJ
import Derived.Test.YtmdnmknmniabeaaApp
namespace Go.Proofs.Ytmdnmknmniabeaa
open Go.RowKit Pw
set_option linter.unusedSimpArgs false
set_option linter.unusedVariables false

/-- An element of an array by value: a struct. -/
theorem run_index_agg {P : Program} {t e : TypeId} {n : Nat} {d : TypeDesc} (ht : P.underlying t = some (.array n e)) (he : P.underlying e = some d) (hd : aggB d = true) {sz : Nat} (hs : (P.info? e).map (·.size) = some sz)
    (cs : Array Value) (k : Nat) (vs : Array Value) (hk : k < n) (hv : cs.extract (k * sz) (k * sz + sz) = vs) (kk : IntKind) (w : World) : (Instr.index t (.agg cs) (.int kk k)).run P w = .ok (.agg vs) w := by
  have hsz : ∀ w, (Go.sizeOf e).run P w = .ok sz w := by
    intro w
    cases hq : P.info? e with
    | none => simp [hq] at hs
    | some i =>
      have hz : i.size = sz := by simpa [hq] using hs
      simp [Go.sizeOf, typeInfo, run_program, hq, hz]
  have ha : ∀ w, (isAgg e).run P w = .ok true w := by
    intro w
    unfold isAgg
    simp [run_underlying he]
    cases d <;> simp_all [aggB]
  simp [Instr.index, part, asIntOf, run_underlying ht, hsz, hk, ha, go_sem, hv]
theorem flC_part (l : List En) (k : Nat) (E : En) (hE : l[k]? = some E) : (flC l).extract (k * 3) (k * 3 + 3) = enC E := by
  have hk : k < l.length := (List.getElem?_eq_some_iff.1 hE).1
  have hl : l[k] = E := (List.getElem?_eq_some_iff.1 hE).2
  apply Array.ext_getElem?
  intro i
  by_cases hi : i < 3
  · rw [Array.getElem?_extract, if_pos (by rw [flC_size]; omega)]
    have := flat_cell enL 3 enL_len l k hk i hi
    have e : (flC l)[k * 3 + i]? = (l.flatMap enL)[k * 3 + i]? := by simp [flC]
    rw [e, this, hl]
    simp [enL]
  · rw [Array.getElem?_eq_none (by simp; omega), Array.getElem?_eq_none (by simp [enC]; omega)]
theorem idx_flat {l : List En} {k : Nat} {E : En} (hk : k < 64) (hE : l[k]? = some E) (w : World) : (Instr.index 33 (.agg (flC l)) (.int .i64 k)).run Try.prog w = .ok (.agg (enC E)) w :=
  run_index_agg Try.underlying33 Try.underlying26 rfl entry_size _ k _ hk (flC_part l k E hE) _ w
theorem flC_unw (l : List En) (k : Nat) (E : En) (hE : l[k]? = some E) : putAt (flC l) (k * 3 + 2) [.bool false] = flC (l.set k (unW E)) := by
  have hk : k < l.length := (List.getElem?_eq_some_iff.1 hE).1
  have hl : l[k] = E := (List.getElem?_eq_some_iff.1 hE).2
  rw [← flC_set l k hk (unW E)]
  apply Array.ext_getElem?
  intro i
  have h0 : (flC l)[k * 3]? = some (.int .i64 E.k) := by
    have := flat_cell enL 3 enL_len l k hk 0 (by omega)
    rw [hl] at this
    simpa [flC, enL, enC] using this
  have h1 : (flC l)[k * 3 + 1]? = some (.int .i64 E.n) := by
    have := flat_cell enL 3 enL_len l k hk 1 (by omega)
    rw [hl] at this
    simpa [flC, enL, enC] using this
  have hs := flC_size l
  show ((flC l).setIfInBounds (k * 3 + 2) (.bool false))[i]? = ((((flC l).setIfInBounds (k * 3) (.int .i64 E.k)).setIfInBounds (k * 3 + 1) (.int .i64 E.n)).setIfInBounds (k * 3 + 1 + 1) (.bool false))[i]?
  simp only [Array.getElem?_setIfInBounds, Array.size_setIfInBounds, hs]
  by_cases e2 : k * 3 + 2 = i
  · rw [if_pos e2, if_pos (by omega), if_pos (by omega)]
  · rw [if_neg e2, if_neg (by omega)]
    by_cases e1 : k * 3 + 1 = i
    · rw [if_pos e1, if_pos (by omega), ← e1, h1]
    · rw [if_neg e1]
      by_cases e0 : k * 3 = i
      · rw [if_pos e0, if_pos (by omega), ← e0, h0]
      · rw [if_neg e0]
theorem flat_at (t : Tb) (k : Nat) (h : k < 64) : (flatL t)[k]? = some (getT t (k : Int)) := by
  unfold flatL; simp [h]
theorem flat_len64 (t : Tb) : (flatL t).length = 64 := by simp [flatL]
theorem sameT_self (t : Tb) : sameT t t = true := sameT_all fun _ _ => rfl
theorem getT_ent {t : Tb} (h : wrongT t = 0) (n : Int) : entE (getT t n) = 0 := by
  by_cases hn : 0 ≤ n ∧ n < 64
  · obtain ⟨q, r, hq, hr, rfl, _, _⟩ := split64 hn
    rw [getT_in hq hr]
    split
    · rename_i hl
      rw [List.getD_eq_getElem?_getD, List.getElem?_eq_getElem (by omega)]
      exact half_ent (wrongT_half h q hq) _ (List.getElem_mem _)
    · rfl
  · rw [getT_out (by omega)]; rfl
theorem getT_pos {t : Tb} (h : wrongT t = 0) (n : Int) : hasK (getT t n) = decide (0 < (getT t n).k) := entE_pos (getT_ent h n)
theorem part_map (l : List En) (i : Nat) : partL (l.map unW) i = (partL l i).map unW := by
  unfold partL; rw [← List.map_drop, ← List.map_take]
theorem guard_tab {t : Tb} (h : wrongT t = 0) : tabOf ((flatL t).map unW) = guardT t := by
  apply Vector.ext
  intro i hi
  have e : ∀ l : List En, (l.map unW).any posK = l.any posK := by
    intro l; rw [List.any_map]; rfl
  have h1 := halfOf_flat hi (wrongT_half h i hi)
  simp only [tabOf, guardT, Vector.getElem_ofFn, Vector.getElem_map]
  unfold halfOf at h1 ⊢
  rw [part_map, e]
  by_cases hp : (partL (flatL t) i).any posK = true
  · rw [if_pos hp] at h1 ⊢; rw [h1]
  · rw [if_neg hp] at h1 ⊢; rw [← h1]; rfl
/-- In the midst of the law's loop. -/
def midW (l : List En) (j : Nat) : List En := (l.take j).map unW ++ l.drop j
theorem midW_len (l : List En) (j : Nat) : (midW l j).length = l.length := by simp [midW]; omega
theorem midW_at (l : List En) (j : Nat) (hj : j < l.length) : (midW l j)[j]? = l[j]? := by
  unfold midW
  rw [List.getElem?_append_right (by simp; omega)]
  simp [show min j l.length = j from by omega]
theorem midW_step (l : List En) (j : Nat) (hj : j < l.length) {E : En} (hE : l[j]? = some E) : (midW l j).set j (unW E) = midW l (j + 1) := by
  have h' : j < (midW l j).length := by rw [midW_len]; exact hj
  have := list_mid unW l j hj h'
  have e : ((l.take j).map unW ++ l.drop j)[j]'h' = E := by
    have := midW_at l j hj
    rw [hE, List.getElem?_eq_getElem h'] at this
    exact Option.some.inj this
  rw [e] at this
  exact this
theorem midW_end (l : List En) (j : Nat) (hj : l.length ≤ j) : midW l j = l.map unW := by
  unfold midW
  rw [List.take_of_length_le hj, List.drop_eq_nil_of_le hj, List.append_nil]
def foundTo (t : Tb) (kind k : Int) (j : Nat) : List Int := (pagesTo t j).filter fun n => !otherF t kind k n
theorem foundTo_le (t : Tb) (kind k : Int) (j : Nat) : (foundTo t kind k j).length ≤ j := Nat.le_trans (List.length_filter_le _ _) (pagesTo_le t j)
theorem foundTo_skip {t : Tb} {kind k : Int} {j : Nat} (h : hasK (getT t (j : Int)) = false) : foundTo t kind k (j + 1) = foundTo t kind k j := by
  unfold foundTo; rw [pagesTo_no h]
theorem foundTo_no {t : Tb} {kind k : Int} {j : Nat} (h : hasK (getT t (j : Int)) = true) (h2 : ((getT t (j : Int)).k == kind && (getT t (j : Int)).n == k) = false) : foundTo t kind k (j + 1) = foundTo t kind k j := by
  unfold foundTo
  rw [pagesTo_yes h, List.filter_append]
  have : otherF t kind k (j : Int) = true := by
    unfold otherF
    simp only [Bool.and_eq_false_iff, beq_eq_false_iff_ne] at h2
    simpa using h2
  simp [this]
theorem foundTo_yes {t : Tb} {kind k : Int} {j : Nat} (h : hasK (getT t (j : Int)) = true) (h2 : ((getT t (j : Int)).k == kind && (getT t (j : Int)).n == k) = true) : foundTo t kind k (j + 1) = foundTo t kind k j ++ [(j : Int)] := by
  unfold foundTo
  rw [pagesTo_yes h, List.filter_append]
  have : otherF t kind k (j : Int) = false := by
    unfold otherF
    simp only [Bool.and_eq_true, beq_iff_eq] at h2
    simp [h2.1, h2.2]
  simp [this]
end Go.Proofs.Ytmdnmknmniabeaa
