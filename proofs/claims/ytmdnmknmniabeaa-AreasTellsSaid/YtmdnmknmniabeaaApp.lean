/- append to a slice of the call's own: the slice stays in its block, or gets a new one; two such slices stay apart. No program in sight. -/
import Derived.Test.YtmdnmknmniabeaaArr
namespace Pw
open Go Go.ChangeShapes Go.WideShapes Go.ChangeAt Go.RowKit
set_option linter.unusedSimpArgs false
set_option linter.unusedVariables false

def SameOrNew (w : World) (v v' : Value) : Prop := v'.ownBlock = v.ownBlock ∨ ∀ g, v'.ownBlock = some g → w.heap.size ≤ g
theorem wpList_appC {P : Program} {w : World} {ops : Array Oper} {rest : List Oper} {o : Oper} {a : Act} {Q : Exit → Act → World → Prop} (hg : o.guard = none) (s x : Operand) (t : TypeId)
    (hop : o.op = Op.call { callee := Callee.builtin Builtin.append, args := #[s, x], argTypes := #[t, t] })
    (B : Nat) (e : TypeId) (z : Value) (size bytes : Nat) (h1 : P.underlying t = some (.slice e)) (h2 : (P.info? e).map (fun i => (i.zero, i.size, i.bytes)) = some (some z, size, bytes)) (h6 : z.cells.size = size) (h7 : 0 < size)
    (v : Value) (n : Nat) (xs : List Value) (hs : a.eval s = v) (hown : Own w B e size v n xs)
    (ao : Option Addr) (m c : Nat) (news : List Value) (hx : a.eval x = .slice ao m c) (hnone : ao = none → c = 0) (hmc : m ≤ c) (hn : news.length = m * size) (hrd : RdV w ao news) (h1c : ∀ u ∈ news, u.oneCell' = true)
    (b1 : n + m ≤ maxLen) (b2 : (n + m) * bytes ≤ 140737488355328) (hB : B ≤ w.heap.size)
    (hK : ∀ v' w', Own w' B e size v' (n + m) (xs ++ news) → w.grownBy w' v.ownBlock → SameOrNew w v v' → wpList P ops Q rest (a.put o.dst v') w') :
    wpList P ops Q (o :: rest) a w := by
  obtain ⟨v', w', hrun, k1, k2, k3⟩ := run_app (P := P) (ρ := a.eval) (o := o) (w := w) s x t hop B e z size bytes h1 h2 h6 h7 v n xs hs hown ao m c news hx hnone hmc hn hrd h1c b1 b2 hB
  refine wpList_plain hg fun K hK' => ?_
  unfold Oper.wp
  rw [hrun]
  exact hK' _ _ (hK v' w' k1 k2 k3)
/-- Two slices of the call's own lie apart. -/
def Apart (v u : Value) : Prop := ∀ g, v.ownBlock = some g → u.ownBlock ≠ some g
theorem Apart.symm {v u : Value} (h : Apart v u) : Apart u v := fun g h1 h2 => h g h2 h1
theorem Apart.nil {u : Value} : Apart (.slice none 0 0) u := fun g h => by cases h
theorem Apart.nil' {u : Value} : Apart u (.slice none 0 0) := fun g _ h => by cases h
theorem own_lt' {w : World} {B : Nat} {e : TypeId} {sz : Nat} {v : Value} {n : Nat} {xs : List Value} (h : Own w B e sz v n xs) (g : Nat) (hg : v.ownBlock = some g) : g < w.heap.size := by
  rcases h.2 with ⟨rfl, _⟩ | ⟨g2, off, cap, cur, rfl, _, hb, _⟩
  · cases hg
  · cases hg
    exact hb.lt
/-- v has grown to v'; u lay apart from it, and still does. -/
theorem Apart.grown {w : World} {B : Nat} {e : TypeId} {sz n : Nat} {xs : List Value} {v v' u : Value} (h : Apart v u) (hu : Own w B e sz u n xs) (hc : SameOrNew w v v') : Apart v' u := by
  intro g hg hgu
  rcases hc with hc | hc
  · rw [hc] at hg; exact h g hg hgu
  · have h1 := hc g hg
    have h2 := own_lt' hu g hgu
    omega
theorem Own.apart {w w' : World} {B : Nat} {e : TypeId} {sz : Nat} {v u : Value} {n : Nat} {xs : List Value} (hu : Own w B e sz u n xs) (h : Apart v u) (hgr : w.grownBy w' v.ownBlock) : Own w' B e sz u n xs :=
  hu.grown hgr fun g hg he => h g he hg
/-- A struct, or an array, stored into a block that was just made: all that was there is as it was. -/
theorem wpList_stn {P : Program} {w : World} {ops : Array Oper} {rest : List Oper} {op : Oper} {a : Act} {Q : Exit → Act → World → Prop} {cur : Array Value} {T : TypeId} (hgd : op.guard = none) (ty : TypeId) (x y : Operand) (ho : op.op = .store ty x y)
    (cells : Array Value) (hx : a.eval x = .pointer (some ⟨w.heap.size, 0, none⟩)) (hy : a.eval y = .agg cells)
    (hfit : cells.size = cur.size) (hi : (P.info? ty).map (·.size) = some cells.size) (h1 : cells.all (·.oneCell') = true)
    (h : ∀ w', Below w.heap.size w w' → Blk w' w.heap.size cells T → wpList P ops Q rest (a.put op.dst undef) w') : wpList P ops Q (op :: rest) a (w.alloc (.cells cur T)) := by
  refine wpList_stw hgd ty x y ho w.heap.size cells hx hy cur T (Blk.new _ _ _) hfit hi h1 fun w' hb hgr => h w' ?_ hb
  exact ((Below.refl _ _).alloc (Nat.le_refl _) _).grown hgr (le_alloc _ _) (fun k hk => by cases hk; exact Nat.le_refl _)
/-- The same, of a value of one cell. -/
theorem wpList_stn1 {P : Program} {w : World} {ops : Array Oper} {rest : List Oper} {op : Oper} {a : Act} {Q : Exit → Act → World → Prop} {c0 : Value} {T : TypeId} (hgd : op.guard = none) (ty : TypeId) (x y : Operand) (ho : op.op = .store ty x y)
    (v : Value) (hx : a.eval x = .pointer (some ⟨w.heap.size, 0, none⟩)) (hy : a.eval y = v) (hc : v.cells.toList = [v])
    (hi : (P.info? ty).map (·.size) = some 1) (h1 : v.oneCell' = true)
    (h : ∀ w', Below w.heap.size w w' → Blk w' w.heap.size #[v] T → wpList P ops Q rest (a.put op.dst undef) w') : wpList P ops Q (op :: rest) a (w.alloc (.cells #[c0] T)) := by
  refine wpList_stv hgd ty x y ho w.heap.size 0 v [v] hx hy hc #[c0] T (Blk.new _ _ _) (show 0 + 1 ≤ 1 from Nat.le_refl 1) hi (fun u hu => by cases List.mem_singleton.1 hu; exact h1) fun w' hb hgr => h w' ?_ hb
  exact ((Below.refl _ _).alloc (Nat.le_refl _) _).grown hgr (le_alloc _ _) (fun k hk => by cases hk; exact Nat.le_refl _)
theorem wpList_want {P : Program} {ops : Array Oper} {rest : List Oper} {o : Oper} {a : Act} {w : World} {Q : Exit → Act → World → Prop} (hw : Region.wanted o (yielded ops a.tmps) = true)
    (h : ∀ K : Act → World → Prop, (∀ a w, wpList P ops Q rest a w → K a w) → o.wp P a w K Q) : wpList P ops Q (o :: rest) a w :=
  wpList_step fun K hK => by rw [if_pos hw]; exact h K hK
/-- A struct, or an array, loaded, guarded or not. -/
theorem wpList_ldg {P : Program} {ops : Array Oper} {rest : List Oper} {o : Oper} {a : Act} {w : World} {Q : Exit → Act → World → Prop} (ty : TypeId) (x : Operand) (ho : o.op = .load ty x)
    (b off : Nat) (hx : a.eval x = .pointer (some ⟨b, off, none⟩)) (hgd : Region.wanted o (yielded ops a.tmps) = true) (vs : List Value) (hrd : RdV w (some ⟨b, off, none⟩) vs) (d : TypeDesc)
    (hu : P.underlying ty = some d) (hd : aggB d = true) (hi : (P.info? ty).map (·.size) = some vs.length)
    (h : wpList P ops Q rest (a.put o.dst (.agg vs.toArray)) w) : wpList P ops Q (o :: rest) a w :=
  wpList_want hgd fun K hK => by
    unfold Oper.wp execOp
    simp only [ho, hx, Instr.loadAt, Instr.sureAddr, Sem.run_bind, Sem.run_pure, Result.andThen_ok, run_loadVar_rd hrd hu hd hi]
    exact hK _ _ h
end Pw
