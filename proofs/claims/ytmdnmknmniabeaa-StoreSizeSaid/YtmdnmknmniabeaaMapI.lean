/- A map from whole numbers to truth values that the call made. -/
import Derived.Test.YtmdnmknmniabeaaGen
import Derived.Test.YtmdnmknmniabeaaRows
namespace Go.Proofs.Ytmdnmknmniabeaa
open Go.RowKit Go.Maps Pw
set_option linter.unusedSimpArgs false
set_option linter.unusedVariables false

theorem int_key : Keyed Try.prog 3 := int_keyed Try.underlying3
theorem mbool_zero (w : World) : (zeroValue 4).run Try.prog w = .ok (.bool false) w := by kernel_rfl
set_option maxRecDepth 100000 in
theorem plainElem_bool_inv {H : Type} {v : Value} {x : Bool} {ps : List MemPlace} (h : plainElem (H := H) Try.prog 4 v = some (.lit (.bool x), ps)) : v = .bool x := by
  unfold plainElem at h
  rw [Try.underlying4] at h
  split at h <;> simp_all
/-- What the map has. -/
structure Had (D : DataW Unit) (f : Int → Bool) : Prop where
  is : IsMap D
  at_ : ∀ j : Int, D.atKey (.int .i64 j) (.lit (.bool false)) = .lit (.bool (f j))
theorem Had.empty : Had (.map []) (fun _ => false) := ⟨isMap_empty, fun j => rfl⟩
theorem Had.put {D : DataW Unit} {f : Int → Bool} (h : Had D f) (k : Int) : Had (D.put (.int .i64 k) (.lit (.bool true))) (fun j => f j || decide (j = k)) := by
  refine ⟨h.is.put _ _, fun j => ?_⟩
  by_cases e : j = k
  · subst e
    rw [atKey_put_same h.is (by trivial)]
    simp
  · rw [atKey_put_other (by intro e2; exact e (by cases e2; rfl)), h.at_ j]
    simp [e]
/-- A map of the call's own, in block b: at most n entries; f tells what it has. -/
def MapO (w : World) (b n : Nat) (f : Int → Bool) : Prop := ∃ D : DataW Unit, w.ownsMap Try.prog 3 (plainElem Try.prog 4) b n D ∧ Had D f
theorem MapO.made (w : World) : MapO (w.alloc (.map #[] 0)) w.heap.size 0 (fun _ => false) := ⟨_, World.ownsMap_made (H := Unit) w Try.prog 3 (plainElem Try.prog 4), Had.empty⟩
theorem MapO.lt {w : World} {b n : Nat} {f : Int → Bool} (h : MapO w b n f) : b < w.heap.size := by
  obtain ⟨D, h1, _⟩ := h
  exact h1.lt
theorem MapO.below {w w' : World} {b n : Nat} {f : Int → Bool} (h : MapO w b n f) (hb : Below w.heap.size w w') : MapO w' b n f := by
  obtain ⟨D, h1, h2⟩ := h
  exact ⟨D, owns_below h1 hb, h2⟩
theorem MapO.grown {w w' : World} {b n : Nat} {f : Int → Bool} {row : Option Nat} (h : MapO w b n f) (hg : w.grownBy w' row) (hne : row ≠ some b) : MapO w' b n f := by
  have hl := h.lt
  obtain ⟨D, ⟨es, clock, h1, r⟩, h2⟩ := h
  exact ⟨D, ⟨es, clock, (hg.block b hl (fun e => hne e.symm)).trans h1, r⟩, h2⟩
theorem MapO.look {w : World} {b n : Nat} {f : Int → Bool} (h : MapO w b n f) (j : Int) (hj : -9223372036854775808 ≤ j ∧ j ≤ 9223372036854775807) : (Instr.lookup 44 (.map (some b)) (.int .i64 j) false).run Try.prog w = .ok (.bool (f j)) w := by
  obtain ⟨D, h0, hf⟩ := h
  obtain ⟨v, ps, h1, h2⟩ := h0.lookup int_key Try.underlying44 (mbool_zero w) (plainElem_bool Try.underlying4 false) (keyOf_int_mk Try.underlying3 (a := j) (WalkArith.wf_i64 hj))
  rw [hf.at_ j] at h2
  rw [plainElem_bool_inv h2] at h1
  exact h1
/-- 'm[k] = true' -/
theorem wpList_mark {ops : Array Oper} {rest : List Oper} {o : Oper} {a : Act} {w : World} {Q : Exit → Act → World → Prop} {b n : Nat} {f : Int → Bool} (hown : MapO w b n f) (hn : n < 1000000000) (hg : o.guard = none) (m x v : Operand) (hop : o.op = Op.mapUpdate 44 m x v)
    (hm : a.eval m = .map (some b)) (j : Int) (hx : a.eval x = .int .i64 j) (hv : a.eval v = .bool true) (hj : -9223372036854775808 ≤ j ∧ j ≤ 9223372036854775807)
    (hK : ∀ w', MapO w' b (n + 1) (fun i => f i || decide (i = j)) → w.grownBy w' (some b) → wpList Try.prog ops Q rest (a.put o.dst undef) w') : wpList Try.prog ops Q (o :: rest) a w := by
  obtain ⟨D, h0, hf⟩ := hown
  exact wpList_mapUpdate_own _ hg m x v 44 hop 3 4 int_key Try.underlying44 _ b n D hm h0 (by unfold maxLen; omega) _ _ _ hx hv (keyOf_int_mk Try.underlying3 (WalkArith.wf_i64 hj)) _ [] (plainElem_bool Try.underlying4 true) fun w' h1 h2 => hK w' ⟨_, h1, hf.put j⟩ h2
theorem MapO.ne {w : World} {b n : Nat} {f : Int → Bool} (h : MapO w b n f) {g : Nat} {cs : Array Value} {T : TypeId} (hk : Blk w g cs T) : g ≠ b := by
  rintro rfl
  obtain ⟨D, ⟨es, clock, h1, _⟩, _⟩ := h
  unfold Blk at hk
  rw [hk] at h1
  cases h1
theorem MapO.rdv {w w' : World} {b n : Nat} {f : Int → Bool} (h : MapO w b n f) {a : Option Addr} {vs : List Value} (hr : RdV w a vs) (hg : w.grownBy w' (some b)) : RdV w' a vs := by
  intro i u hi
  obtain ⟨b', off, ha, hc⟩ := hr i u hi
  refine ⟨b', off, ha, hg.cell hc ?_⟩
  intro e
  cases e
  obtain ⟨D, ⟨es, clock, hb, _⟩, _⟩ := h
  simp [World.cell?, hb] at hc
theorem MapO.own {w w' : World} {b n : Nat} {f : Int → Bool} (h : MapO w b n f) {B : Nat} {e : TypeId} {sz : Nat} {v : Value} {m : Nat} {xs : List Value} (ho : Own w B e sz v m xs) (hg : w.grownBy w' (some b)) : Own w' B e sz v m xs :=
  ho.grown hg fun g hv he => by
    obtain ⟨cs, hk⟩ := own_blk ho g hv
    exact h.ne hk (Option.some.inj he).symm
/-- A new map, and the world behind it by a name. -/
theorem absM {w : World} (m : World → Prop) (h : ∀ W, Below w.heap.size w W → MapO W w.heap.size 0 (fun _ => false) → m W) : m (w.alloc (.map #[] 0)) :=
  h _ ((Below.refl _ _).alloc (Nat.le_refl _) _) (MapO.made w)
end Go.Proofs.Ytmdnmknmniabeaa
