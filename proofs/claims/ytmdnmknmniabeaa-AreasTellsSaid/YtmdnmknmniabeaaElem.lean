/- Slices of things of several cells each: an element of one's own slice is written; a slice of noughts is made. No program in sight. -/
import Derived.Test.YtmdnmknmniabeaaRep
import Derived.OwnWalk
import Derived.Laws.OwnMore
namespace Pw
open Go Go.RowKit
set_option linter.unusedSimpArgs false
set_option linter.unusedVariables false

theorem flat_cell {α : Type} (enc : α → List Value) (sz : Nat) (hsz : ∀ x, (enc x).length = sz) (l : List α) (i : Nat) (h : i < l.length) (j : Nat) (hj : j < sz) : (l.flatMap enc)[i * sz + j]? = (enc l[i])[j]? := by
  have e : (enc l[i])[j]? = some ((enc l[i])[j]'(by rw [hsz]; exact hj)) := List.getElem?_eq_getElem _
  rw [e]
  exact flat_get enc sz hsz l i h j _ e
theorem flat_ext {α : Type} (enc : α → List Value) (sz : Nat) (hsz : ∀ x, (enc x).length = sz) (hp : 0 < sz) (l : List α) (m : Nat) (u : Value) (h : (l.flatMap enc)[m]? = some u) :
    ∃ i j, ∃ hi : i < l.length, m = i * sz + j ∧ j < sz ∧ (enc l[i])[j]? = some u := by
  have hm : m < l.length * sz := by
    rcases Nat.lt_or_ge m (l.flatMap enc).length with h1 | h1
    · rwa [flat_len enc sz hsz] at h1
    · rw [List.getElem?_eq_none h1] at h; cases h
  have hj := Nat.mod_lt m hp
  have hd := Nat.div_add_mod m sz
  have hi : m / sz < l.length := Nat.div_lt_of_lt_mul (by rw [Nat.mul_comm]; exact hm)
  refine ⟨m / sz, m % sz, hi, by rw [Nat.mul_comm]; exact hd.symm, hj, ?_⟩
  rw [← flat_cell enc sz hsz l _ hi _ hj, Nat.mul_comm, hd]
  exact h
theorem flat_set {α : Type} (enc : α → List Value) (sz : Nat) (hsz : ∀ x, (enc x).length = sz) (hp : 0 < sz) (l : List α) (k : Nat) (hk : k < l.length) (x : α) (off : Nat) (cur : Array Value) (hfit : off + l.length * sz ≤ cur.size)
    (h : ∀ j u, (l.flatMap enc)[j]? = some u → cur[off + j]? = some u) : ∀ j u, ((l.set k x).flatMap enc)[j]? = some u → (putAt cur (off + k * sz) (enc x))[off + j]? = some u := by
  intro m u hm
  obtain ⟨i, j, hi, rfl, hj, e⟩ := flat_ext enc sz hsz hp _ m u hm
  have hi' : i < l.length := by simpa using hi
  by_cases hik : i = k
  · subst hik
    rw [show off + (i * sz + j) = (off + i * sz) + j from by omega]
    have h1 : (i + 1) * sz ≤ l.length * sz := Nat.mul_le_mul_right _ hk
    rw [Nat.add_mul] at h1
    exact putAt_in _ _ _ _ _ (by rw [hsz]; omega) (by simpa using e)
  · have hne : off + (i * sz + j) < off + k * sz ∨ off + k * sz + (enc x).length ≤ off + (i * sz + j) := by
      rw [hsz]
      rcases Nat.lt_or_gt_of_ne hik with h1 | h1
      · have := Nat.mul_le_mul_right sz h1
        rw [Nat.succ_mul] at this
        omega
      · have := Nat.mul_le_mul_right sz h1
        rw [Nat.succ_mul] at this
        omega
    rw [putAt_out _ _ _ _ hne]
    refine h _ _ ?_
    rw [flat_cell enc sz hsz l i hi' j hj]
    rw [List.getElem_set_ne (fun e => hik e.symm)] at e
    exact e
/-- An element of a slice of the call's own: where it lies, and what the slice is once it was written. -/
theorem Own.put {α : Type} {enc : α → List Value} {sz : Nat} (hsz : ∀ x, (enc x).length = sz) (hp : 0 < sz) {w : World} {B : Nat} {e : TypeId} {v : Value} {l : List α} (h : Own w B e sz v l.length (l.flatMap enc)) (k : Nat) (hk : k < l.length) :
    ∃ g off cap cur, v = .slice (some ⟨g, off, none⟩) l.length cap ∧ B ≤ g ∧ Blk w g cur e ∧ off + k * sz + sz ≤ cur.size ∧ (∀ j u, (enc l[k])[j]? = some u → w.cell? ⟨g, off + k * sz + j, none⟩ = some u) ∧
      ∀ w' x, Blk w' g (putAt cur (off + k * sz) (enc x)) e → Own w' B e sz v l.length ((l.set k x).flatMap enc) := by
  obtain ⟨hl, h⟩ := h
  rcases h with ⟨_, h0⟩ | ⟨g, off, cap, cur, rfl, hB, hg, hc, hm, hs, ht⟩
  · omega
  · have h1 : (k + 1) * sz ≤ l.length * sz := Nat.mul_le_mul_right _ hk
    have h2 : l.length * sz ≤ cap * sz := Nat.mul_le_mul_right _ hc
    rw [Nat.add_mul] at h1
    refine ⟨g, off, cap, cur, rfl, hB, hg, by omega, fun j u hj => ?_, fun w' x hw => ⟨?_, .inr ⟨g, off, cap, _, rfl, hB, hw, hc, hm, by rw [size_putAt]; exact hs, ?_⟩⟩⟩
    · rw [hg.cell, Nat.add_assoc]
      refine ht _ _ ?_
      have hj' : j < sz := by
        rcases Nat.lt_or_ge j sz with h | h
        · exact h
        · rw [List.getElem?_eq_none (by rw [hsz]; exact h)] at hj; cases hj
      rw [flat_cell enc sz hsz l k hk j hj']
      exact hj
    · rw [flat_len enc sz hsz, List.length_set]
    · exact flat_set enc sz hsz hp l k hk x off cur (by omega) ht
/-- The same of elements of one cell. -/
theorem Own.put1 {f : Int → Value} {w : World} {B : Nat} {e : TypeId} {v : Value} {l : List Int} (h : Own w B e 1 v l.length (l.map f)) (k : Nat) (hk : k < l.length) :
    ∃ g off cap, v = .slice (some ⟨g, off, none⟩) l.length cap ∧ B ≤ g ∧ g < w.heap.size ∧ w.cell? ⟨g, off + k, none⟩ = some (f l[k]) ∧ w.frozen? ⟨g, off + k, none⟩ = false ∧
      ∀ x, Own (w.setCell ⟨g, off + k, none⟩ (f x)) B e 1 v l.length ((l.set k x).map f) := by
  rw [← flat_one] at h
  obtain ⟨g, off, cap, cur, rfl, hB, hg, hs, hc, hw⟩ := h.put (sz := 1) (fun _ => rfl) Nat.one_pos k hk
  rw [Nat.mul_one] at hs hc hw
  refine ⟨g, off, cap, rfl, hB, hg.lt, by simpa using hc 0 _ rfl, hg.free _, fun x => ?_⟩
  rw [← flat_one]
  exact hw _ x (by simpa [putAt] using hg.setCell (off + k) (f x))
theorem made_flat {α : Type} (enc : α → List Value) (sz : Nat) (hsz : ∀ x, (enc x).length = sz) (hp : 0 < sz) (z : Array Value) (x : α) (hz : z.toList = enc x) (n : Nat) : (madeCells z (n * sz)).toList = (List.replicate n x).flatMap enc := by
  have hzs : z.size = sz := by rw [← hsz x, ← hz]; simp
  apply List.ext_getElem
  · rw [flat_len enc sz hsz]; simp [size_madeCells]
  intro m h1 h2
  have hm : m < n * sz := by simpa [size_madeCells] using h1
  have h3 : ((List.replicate n x).flatMap enc)[m]? = some ((List.replicate n x).flatMap enc)[m] := List.getElem?_eq_getElem h2
  obtain ⟨i, j, hi, e, hj, he⟩ := flat_ext enc sz hsz hp _ m _ h3
  rw [List.getElem_replicate] at he
  have hmod : m % z.size = j := by rw [hzs, e, Nat.mul_comm, Nat.mul_add_mod, Nat.mod_eq_of_lt hj]
  simp only [madeCells, Array.toList_map, List.getElem_map, Array.toList_range, List.getElem_range, hmod]
  rw [← hz, Array.getElem?_toList] at he
  rw [Array.getElem!_eq_getD, Array.getD_eq_getD_getElem?, he]
  rfl
/-- 'make([]T, n)', n a variable. -/
theorem wpList_mk {P : Program} (w : World) {ops : Array Oper} {rest : List Oper} {o : Oper} {a : Act} {Q : Exit → Act → World → Prop}
    (hg : o.guard = none) (l c : Operand) (t : TypeId) (hop : o.op = Op.makeSlice t l c)
    {α : Type} (enc : α → List Value) (e : TypeId) (z : Value) (size bytes : Nat) (x : α) (hsz : ∀ x, (enc x).length = size) (hp : 0 < size) (h1 : P.underlying t = some (.slice e)) (h2 : (P.info? e).map (fun i => (i.zero, i.size, i.bytes)) = some (some z, size, bytes)) (hz : z.cells.toList = enc x)
    (kl kc : IntKind) (L C : Int) (n : Nat) (hl : a.eval l = .int kl L) (hc : a.eval c = .int kc C) (hL : L = (n : Int)) (hC : C = (n : Int)) (b2 : bytes * n ≤ 281474976710656) (b3 : n ≤ maxLen)
    (hK : ∀ w', Own w' w.heap.size e size (.slice (some ⟨w.heap.size, 0, none⟩) n n) n ((List.replicate n x).flatMap enc) → w.grownBy w' none → wpList P ops Q rest (a.put o.dst (.slice (some ⟨w.heap.size, 0, none⟩) n n)) w') :
    wpList P ops Q (o :: rest) a w := by
  obtain ⟨i, hi, hzz, hs, hb⟩ := info_parts h2
  refine wpList_make_full w hg l c t hop w.heap.size e i z size h1 hi hzz hs kl kc L C n hl hc hL hC (by rw [hb]; exact b2) b3 (Nat.le_refl _) fun w' ho hgr => hK w' ?_ hgr
  rw [made_flat enc size hsz hp z.cells x hz] at ho
  exact Own.of_owns ho
end Pw
