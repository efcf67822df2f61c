/- Regions that draw their order: operations that make memory (a slice written out, an append to an empty slice of one's own). -/
import Derived.Test.YtmdnmknmniabeaaMem
import Derived.Test.YtmdnmknmniabeaaGrow
import Derived.ArgAppend
namespace Pw
open Go Go.RowKit
set_option linter.unusedSimpArgs false
set_option linter.unusedVariables false

theorem asked_new {P : Program} {ops : Array Oper} {ρ : Operand → Value} {o : Oper} {w w' : World} {l : List Rel} {i : Nat} (v : Value) (hw : Region.wanted o (says ρ ops) = true) (hrun : (execOp ρ o).run P w = .ok (.value v) w') (hb : Below w.heap.size w w') (hR : rl l i v w') :
    if Region.wanted o (says ρ ops) = true then GivesR P o ρ w (fun v w' => Below w.heap.size w w' ∧ rl l i v w') else rl l i undef w := by
  rw [if_pos hw]
  unfold GivesR
  rw [hrun]
  exact ⟨hb, hR⟩
theorem grown_below {w w' : World} (h : w.grownBy w' none) : Below w.heap.size w w' := (Below.refl _ _).grown h (Nat.le_refl _) (fun k hk => by cases hk)
/-- 'append' to an empty slice of one's own that has no room. -/
theorem asked_app {P : Program} {ops : Array Oper} {ρ : Operand → Value} {o : Oper} {w : World} {l : List Rel} {i : Nat} (s x : Operand) (t : TypeId) (ho : o.op = Op.call { callee := Callee.builtin Builtin.append, args := #[s, x], argTypes := #[t, t] }) (hw : Region.wanted o (says ρ ops) = true)
    (B : Nat) (e : TypeId) (z : Value) (size bytes : Nat) (h1 : P.underlying t = some (.slice e)) (h2 : (P.info? e).map (fun i => (i.zero, i.size, i.bytes)) = some (some z, size, bytes)) (h6 : z.cells.size = size) (h7 : 0 < size)
    (g : Nat) (hs : ρ s = .slice (some ⟨g, 0, none⟩) 0 0) (hown : Own w B e size (.slice (some ⟨g, 0, none⟩) 0 0) 0 [])
    (ao : Option Addr) (m c : Nat) (news : List Value) (hx : ρ x = .slice ao m c) (hnone : ao = none → c = 0) (hmc : m ≤ c) (hn : news.length = m * size) (hrd : RdV w ao news)
    (b1 : m ≤ maxLen) (b2 : m * bytes ≤ 140737488355328) (hB : B ≤ w.heap.size)
    (hR : ∀ v' w', Below w.heap.size w w' → Own w' B e size v' m news → rl l i v' w') :
    if Region.wanted o (says ρ ops) = true then GivesR P o ρ w (fun v w' => Below w.heap.size w w' ∧ rl l i v w') else rl l i undef w := by
  obtain ⟨ii, hi, hz, hsz, hby⟩ := info_parts h2
  rcases Nat.eq_zero_or_pos m with h0 | h0
  · subst h0
    obtain rfl : news = [] := List.eq_nil_of_length_eq_zero (by simpa using hn)
    refine asked_new (.slice (some ⟨g, 0, none⟩) 0 0) hw ?_ (Below.refl _ _) (hR _ _ (Below.refl _ _) hown)
    cases ao with
    | none => simp [execOp, ho, resolve, invoke, builtin, hs, hx, Builtin.append_, run_underlying h1, Go.sizeOf, typeInfo, hi, Builtin.lenOf, Builtin.firstCells, storeCells, Result.andThen]
    | some ad => simp [execOp, ho, resolve, invoke, builtin, hs, hx, Builtin.append_, run_underlying h1, Go.sizeOf, typeInfo, hi, Builtin.lenOf, Builtin.firstCells, storeCells, loadCells, loadCellsFrom, Result.andThen]
  · obtain ⟨b, off, rfl, hc⟩ := hrd.at (by rw [hn]; exact Nat.mul_pos h0 h7)
    obtain ⟨v', w', hr, how, hgr⟩ := run_append_arg_grows (P := P) w t o.type e ii z size bytes h1 hi hz hsz hby h6 h7 ⟨g, 0, none⟩ 0 0 [] (by simp) (fun j u h => by simp at h) ⟨b, off, none⟩ m c news hn (fun j u hj => by rw [Addr.add_lit]; exact hc j u hj) (by omega) (by omega) (by rw [Nat.zero_add]; exact b2)
    have ho' : Own w' B e size v' m news := by
      have := (Own.of_owns how).mono hB
      simpa using this
    refine asked_new v' hw ?_ (grown_below hgr) (hR _ _ (grown_below hgr) ho')
    simp [execOp, ho, resolve, invoke, builtin, hs, hx, hr, Result.andThen]
/-- An empty slice that is not nil. -/
theorem Own.empty (w : World) {B : Nat} (T : TypeId) {sz : Nat} (hB : B ≤ w.heap.size) : Own (w.alloc (.cells #[] T)) B T sz (.slice (some ⟨w.heap.size, 0, none⟩) 0 0) 0 [] :=
  ⟨by simp, .inr ⟨w.heap.size, 0, 0, #[], rfl, hB, Blk.new _ _ _, Nat.le_refl _, Nat.zero_le _, by simp, fun j u h => by simp at h⟩⟩
def emptyR (B : Nat) (T : TypeId) (sz : Nat) : Rel := ⟨fun v w => ∃ g, v = .slice (some ⟨g, 0, none⟩) 0 0 ∧ Own w B T sz (.slice (some ⟨g, 0, none⟩) 0 0) 0 [], fun _ _ _ hb ⟨g, h1, h2⟩ => ⟨g, h1, h2.below hb⟩⟩
end Pw
