/- What package slices' DeleteFunc does on a slice of puts of the call's own. -/
import Derived.Test.YtohbfjbcfibhcaaDisk5
import Derived.Maps.Range
namespace Go.Proofs.Ytohbfjbcfibhcaa
open Go.RowKit Pw
set_option linter.unusedSimpArgs false
set_option linter.unusedVariables false

theorem grown_but {a c : World} (h : a.grownBy c none) (row : Option Nat) : a.grownBy c row := ⟨h.os, h.tape, h.output, h.size, fun i hi _ => h.block i hi (by simp)⟩
theorem grown_then {a b c : World} {row : Option Nat} (h : a.grownBy b row) (k : b.grownBy c row) : a.grownBy c row :=
  World.grownBy.andThen h k (fun j hj => .inr hj)
theorem grown_alloc (w : World) (o : Obj) (row : Option Nat) : w.grownBy (w.alloc o) row := World.grownBy_alloc w o row
theorem own_stay {w w' : World} {B : Nat} {e : TypeId} {sz : Nat} {v : Value} {n : Nat} {xs : List Value} (h : Own w B e sz v n xs) (hg : w.grownBy w' none) : Own w' B e sz v n xs := h.grown hg (by simp)
theorem blk_stay {w w' : World} {b : Nat} {cs : Array Value} {T : TypeId} (h : Blk w b cs T) (hg : w.grownBy w' none) : Blk w' b cs T := h.grown hg (by simp)

set_option maxHeartbeats 400000 in
set_option maxRecDepth 100000 in
theorem trim1_any (q : Int × Page) (k : Int) (b : Nat) (w : World) (hb : Blk w b #[.int .i64 k] 3) : Calls Try.prog 73 #[.agg (puC q), .pointer (some ⟨b, 0, none⟩)] w fun e w' => e = .returned (.bool (q.1 == k)) ∧ w.grownBy w' none := by
  have hc := fun o => (hb.alloc o).cell
  go_enter Try.func73, Try.ntmps73
  unfold puC
  go_wp2
  go_ret
  exact ⟨rfl, grown_alloc _ _ _⟩

/-- 'clear' of a slice whose block is known. -/
theorem run_clear_own {P : Program} (w : World) (t e ty : TypeId) (z : Value) (sz bytes : Nat) (ht : P.underlying t = some (.slice e)) (hi : (P.info? e).map (fun i => (i.zero, i.size, i.bytes)) = some (some z, sz, bytes)) (h1 : ∀ u ∈ z.cells.toList, u.oneCell' = true) (h0 : 0 < z.cells.size)
    (b o n c : Nat) (hn : 0 < n) (cur : Array Value) (T : TypeId) (hg : Blk w b cur T) (hfit : o + n * z.cells.size ≤ cur.size) :
    (Builtin.clear_ #[t] ty #[.slice (some ⟨b, o, none⟩) n c]).run P w = .ok (.tuple #[]) (w.setCells b o (Builtin.zeroCells z.cells n).toList) := by
  have hl : (Builtin.zeroCells z.cells n).toList.length = n * z.cells.size := by simp [Builtin.zeroCells]
  have hst := run_storeCells_cells (P := P) b o (Builtin.zeroCells z.cells n).toList 0 w
    (fun j hj => by rw [Nat.add_zero, hg.cell]; simp [show o + j < cur.size by omega]) (fun j hj => hg.free _)
    (fun v hv => by
      simp only [Builtin.zeroCells, Array.toList_map, List.mem_map] at hv
      obtain ⟨i, _, rfl⟩ := hv
      have : i % z.cells.size < z.cells.size := Nat.mod_lt _ h0
      rw [getElem!_pos z.cells _ this]
      exact h1 _ (by simp))
  simp only [Nat.add_zero] at hst
  obtain ⟨m, rfl⟩ : ∃ m, n = m + 1 := ⟨n - 1, by omega⟩
  have hv : ∀ w, (zeroValue e).run P w = .ok z w := by
    intro w
    cases hq : P.info? e with
    | none => simp [hq] at hi
    | some i =>
      have hz : i.zero = some z := by simp [hq] at hi; exact hi.1
      simp [zeroValue, typeInfo, run_program, hq, hz]
  simp [Builtin.clear_, run_underlying ht, hv, hst]

set_option maxHeartbeats 400000 in
set_option maxRecDepth 100000 in
theorem idxput_any (l : List (Int × Page)) (a : Option Addr) (c : Nat) (k : Int) (b : Nat) (w : World) (hrd : RdV w a (l.flatMap puL)) (hl : l.length ≤ 9223372036854775807) (hb : Blk w b #[.int .i64 k] 3) :
    Calls Try.prog 83 #[.slice a l.length c, .func (.func 73) #[] #[.pointer (some ⟨b, 0, none⟩)]] w fun e w' => w.grownBy w' none ∧ ((e = .returned (.int .i64 (-1)) ∧ ∀ i (h : i < l.length), i < l.length → ¬ l[i].1 = k) ∨ ∃ i, ∃ h : i < l.length, e = .returned (.int .i64 i) ∧ l[i].1 = k ∧ ∀ j (h : j < l.length), j < i → ¬ l[j].1 = k) := by
  go_enter Try.func83, Try.ntmps83
  go_wp2
  go_loopw [8] (fun i wr => ∃ j : Nat, j ≤ l.length ∧ i = .int .i64 j ∧ w.grownBy wr none ∧ ∀ i (h : i < l.length), i < j → ¬ l[i].1 = k) (fun i _ => l.length - (intOf i).toNat)
  case atStart => exact ⟨0, Nat.zero_le _, rfl, World.grownBy.refl _ _, fun i _ h => absurd h (Nat.not_lt_zero _)⟩
  case round =>
    obtain ⟨j, hj, rfl, hg, hno⟩ := hrel
    have hno' := Lib.hid hno
    clear hno
    by_cases hlt : j < l.length
    · have hbr := blk_stay hb hg
      obtain ⟨b', off, rfl, hc⟩ := put_at hrd j hlt
      have c0 := hc 0 (by decide); have c1 := hc 1 (by decide); have c2 := hc 2 (by decide); have c3 := hc 3 (by decide); have c4 := hc 4 (by decide)
      have c5 := hc 5 (by decide); have c6 := hc 6 (by decide); have c7 := hc 7 (by decide); have c8 := hc 8 (by decide)
      simp only [puC, List.getElem?_toArray, List.getElem?_cons_zero, List.getElem?_cons_succ, Nat.add_zero] at c0 c1 c2 c3 c4 c5 c6 c7 c8
      have far : ∀ o v, w.cell? ⟨b', o, none⟩ = some v → (wr : World).cell? ⟨b', o, none⟩ = some v := fun o v h => hg.cell h (by simp)
      replace c0 := far _ _ c0; replace c1 := far _ _ c1; replace c2 := far _ _ c2; replace c3 := far _ _ c3; replace c4 := far _ _ c4
      replace c5 := far _ _ c5; replace c6 := far _ _ c6; replace c7 := far _ _ c7; replace c8 := far _ _ c8
      clear hc far
      have hcall := trim1_any l[j] k b _ hbr
      unfold puC at hcall
      by_cases he : l[j].1 = k
      · rw [beq_iff_eq.2 he] at hcall
        have he' := Lib.hid he
        clear he
        go_wp2_with fail
        refine hcall.mono ?_
        rintro e w2 ⟨rfl, hg2⟩
        go_wp2
        go_ret
        exact ⟨grown_then hg hg2, .inr ⟨j, hlt, rfl, he'.out, hno'.out⟩⟩
      · rw [beq_eq_false_iff_ne.2 he] at hcall
        have he' := Lib.hid he
        clear he
        go_wp2_with fail
        refine hcall.mono ?_
        rintro e w2 ⟨rfl, hg2⟩
        go_wp2
        go_roundw
        case rel => exact ⟨j + 1, by omega, by go_num, grown_then hg hg2, upto' hno'.out hlt he'.out⟩
        case measure => simp [intOf]; omega
    · go_wp2
      go_ret
      exact ⟨hg, .inl ⟨rfl, fun i h _ => hno'.out i h (by omega)⟩⟩
end Go.Proofs.Ytohbfjbcfibhcaa
