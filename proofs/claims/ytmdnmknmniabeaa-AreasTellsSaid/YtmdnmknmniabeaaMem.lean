/- More of memory: what is owned stays so; new blocks named; parts of slices. No program in sight. -/
import Derived.Test.YtmdnmknmniabeaaElem
import Derived.Test.YtmdnmknmniabeaaGrow
namespace Pw
open Go Go.RowKit
set_option linter.unusedSimpArgs false
set_option linter.unusedVariables false

theorem own_ne {w : World} {B : Nat} {e : TypeId} {sz : Nat} {v : Value} {n : Nat} {xs : List Value} (h : Own w B e sz v n xs) {g : Nat} {cs : Array Value} {T : TypeId} (hk : Blk w g cs T) (hT : T ≠ e) : ∀ g', v.ownBlock = some g' → some g ≠ some g' := by
  intro g' hg' he
  cases he
  rcases h.2 with ⟨rfl, _⟩ | ⟨g2, off, cap, cur, rfl, _, hb, _⟩
  · cases hg'
  · cases hg'
    unfold Blk at hk hb
    rw [hk] at hb
    simp only [Option.some.injEq, Obj.cells.injEq] at hb
    exact hT hb.2.1
/-- What is owned stays so while a block of another type is written. -/
theorem own_keep {w w' : World} {B : Nat} {e : TypeId} {sz : Nat} {v : Value} {n : Nat} {xs : List Value} (h : Own w B e sz v n xs) {g : Nat} {cs : Array Value} {T : TypeId} (hk : Blk w g cs T) (hT : T ≠ e) (hgr : w.grownBy w' (some g)) : Own w' B e sz v n xs :=
  h.grown hgr (own_ne h hk hT)
/-- A slice of the call's own. -/
def ownR (B : Nat) (e : TypeId) (sz n : Nat) (xs : List Value) : Rel := ⟨fun v w => Own w B e sz v n xs, fun _ _ _ hb h => h.below hb⟩

/-- New blocks, one, two, three or four, and the world behind them by a name. -/
theorem abs1 {w : World} {X : Array Value} {TX : TypeId} (m : World → Prop) (h : ∀ W, Below w.heap.size w W → Blk W w.heap.size X TX → W.heap.size = w.heap.size + 1 → m W) : m (w.alloc (.cells X TX)) :=
  h _ ((Below.refl _ _).alloc (Nat.le_refl _) _) (Blk.new _ _ _) (by simp)
theorem abs2 {w : World} {X Y : Array Value} {TX TY : TypeId} (m : World → Prop) (h : ∀ W, Below w.heap.size w W → Blk W w.heap.size X TX → Blk W (w.heap.size + 1) Y TY → W.heap.size = w.heap.size + 2 → m W) :
    m ((w.alloc (.cells X TX)).alloc (.cells Y TY)) := by
  refine abs1 (fun W => m (W.alloc (.cells Y TY))) fun W1 hb hx hs => ?_
  refine abs1 m fun W2 hb2 hy hs2 => ?_
  rw [hs] at hy hs2
  exact h W2 (below_next hb hb2) (hx.ext hb2) hy (by omega)
theorem abs3 {w : World} {X Y Z : Array Value} {TX TY TZ : TypeId} (m : World → Prop) (h : ∀ W, Below w.heap.size w W → Blk W w.heap.size X TX → Blk W (w.heap.size + 1) Y TY → Blk W (w.heap.size + 2) Z TZ → W.heap.size = w.heap.size + 3 → m W) :
    m (((w.alloc (.cells X TX)).alloc (.cells Y TY)).alloc (.cells Z TZ)) := by
  refine abs2 (fun W => m (W.alloc (.cells Z TZ))) fun W1 hb hx hy hs => ?_
  refine abs1 m fun W2 hb2 hz hs2 => ?_
  rw [hs] at hz hs2
  exact h W2 (below_next hb hb2) (hx.ext hb2) (hy.ext hb2) hz (by omega)
theorem abs4 {w : World} {X Y Z V : Array Value} {TX TY TZ TV : TypeId} (m : World → Prop) (h : ∀ W, Below w.heap.size w W → Blk W w.heap.size X TX → Blk W (w.heap.size + 1) Y TY → Blk W (w.heap.size + 2) Z TZ → Blk W (w.heap.size + 3) V TV → W.heap.size = w.heap.size + 4 → m W) :
    m ((((w.alloc (.cells X TX)).alloc (.cells Y TY)).alloc (.cells Z TZ)).alloc (.cells V TV)) := by
  refine abs3 (fun W => m (W.alloc (.cells V TV))) fun W1 hb hx hy hz hs => ?_
  refine abs1 m fun W2 hb2 hv hs2 => ?_
  rw [hs] at hv hs2
  exact h W2 (below_next hb hb2) (hx.ext hb2) (hy.ext hb2) (hz.ext hb2) hv (by omega)
/-- A part of a slice of the call's own, from its first elements on. -/
theorem Own.drop {α : Type} {enc : α → List Value} {sz : Nat} (hsz : ∀ x, (enc x).length = sz) {w : World} {B : Nat} {e : TypeId} {l : List α} {g off cap : Nat} (h : Own w B e sz (.slice (some ⟨g, off, none⟩) l.length cap) l.length (l.flatMap enc)) (k : Nat) (hk : k ≤ l.length) :
    Own w B e sz (.slice (some ⟨g, off + k * sz, none⟩) (l.drop k).length (cap - k)) (l.drop k).length ((l.drop k).flatMap enc) := by
  obtain ⟨hl, h⟩ := h
  rcases h with ⟨h1, _⟩ | ⟨g', off', cap', cur, hv, hB, hg, hc, hm, hs, ht⟩
  · cases h1
  · cases hv
    refine ⟨flat_len enc sz hsz _, .inr ⟨g, off + k * sz, cap - k, cur, rfl, hB, hg, by simp; omega, by omega, ?_, fun j u hj => ?_⟩⟩
    · have : (cap - k) * sz + k * sz = cap * sz := by rw [← Nat.add_mul]; congr 1; omega
      omega
    · rw [Nat.add_assoc]
      refine ht _ _ ?_
      have e : l.flatMap enc = (l.take k).flatMap enc ++ (l.drop k).flatMap enc := by rw [← List.flatMap_append, List.take_append_drop]
      rw [e, List.getElem?_append_right (by rw [flat_len enc sz hsz, List.length_take, Nat.min_eq_left hk]; omega), flat_len enc sz hsz, List.length_take, Nat.min_eq_left hk, Nat.add_sub_cancel_left]
      exact hj
end Pw
