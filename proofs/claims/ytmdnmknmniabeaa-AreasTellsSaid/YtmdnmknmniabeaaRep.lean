/- Pages, disks, memories, slots as plain data; how they lie in memory; growth of memory. No program in sight. -/
import Derived.WalkKit
import Derived.WalkSpells
import Derived.WalkLawsBesides
import Derived.Lib.Hide
import Derived.Laws.AppendOwnNone
import Derived.Laws.CopyOwn
import Derived.Deep.MidRow
namespace Pw
open Go Go.RowKit
set_option linter.unusedSimpArgs false
set_option linter.unusedVariables false

theorem ret_int {k : IntKind} {a b : Int} (h : a = b) : Ending.returned (.int k a) = .returned (.int k b) := by rw [h]
theorem ret_bool {a b : Bool} (h : a = b) : Ending.returned (.bool a) = .returned (.bool b) := by rw [h]
/-! ### growth -/
theorem below_cell {W w1 : World} (hb : Below W.heap.size W w1) : ∀ b o, b < W.heap.size → w1.cell? ⟨b, o, none⟩ = W.cell? ⟨b, o, none⟩ :=
  fun b o h => hb.cell (p := ⟨b, o, none⟩) h
theorem below_frozen {W w1 : World} (hb : Below W.heap.size W w1) : ∀ b o, b < W.heap.size → w1.frozen? ⟨b, o, none⟩ = W.frozen? ⟨b, o, none⟩ :=
  fun b o h => hb.frozen (p := ⟨b, o, none⟩) h
/-- From a call made in a later world back to the first one. -/
theorem below_next {w W w1 : World} (h : Below w.heap.size w W) (hb : Below W.heap.size W w1) : Below w.heap.size w w1 :=
  h.trans (hb.mono h.size)

theorem le_alloc (w : World) (o : Obj) : w.heap.size ≤ (w.alloc o).heap.size := ((Below.refl 0 w).alloc (Nat.zero_le _) o).size
theorem le_alloc' {w : World} {B : Nat} (h : B ≤ w.heap.size) (o : Obj) : B ≤ (w.alloc o).heap.size := Nat.le_trans h (le_alloc w o)
/-- Block b is just these cells, and may be written. -/
def Blk (w : World) (b : Nat) (cs : Array Value) (T : TypeId) : Prop := w.heap[b]? = some (.cells cs T (0, 0))
theorem Blk.cell {w : World} {b : Nat} {cs : Array Value} {T : TypeId} (h : Blk w b cs T) : ∀ o, w.cell? ⟨b, o, none⟩ = cs[o]? := by
  intro o; unfold Blk at h; simp [World.cell?, h]
theorem Blk.free {w : World} {b : Nat} {cs : Array Value} {T : TypeId} (h : Blk w b cs T) : ∀ o, w.frozen? ⟨b, o, none⟩ = false := by
  intro o; unfold Blk at h; simp [World.frozen?, h]
theorem Blk.lt {w : World} {b : Nat} {cs : Array Value} {T : TypeId} (h : Blk w b cs T) : b < w.heap.size := lt_of_block h
theorem Blk.below {w w' : World} {b B : Nat} {cs : Array Value} {T : TypeId} (h : Blk w b cs T) (hb : Below B w w') (hB : b < B) : Blk w' b cs T :=
  (hb.block b hB).trans h
theorem Blk.ext {w w' : World} {b : Nat} {cs : Array Value} {T : TypeId} (h : Blk w b cs T) (hb : Below w.heap.size w w') : Blk w' b cs T := h.below hb h.lt
theorem Blk.new (w : World) (cs : Array Value) (T : TypeId) : Blk (w.alloc (.cells cs T)) w.heap.size cs T := heap_alloc_new w _
theorem Blk.alloc {w : World} {b : Nat} {cs : Array Value} {T : TypeId} (h : Blk w b cs T) (o : Obj) : Blk (w.alloc o) b cs T := (Below.heap_alloc w o b h.lt).trans h

theorem Blk.drewN {w : World} {b : Nat} {cs : Array Value} {T : TypeId} (h : Blk w b cs T) (n : Nat) : Blk (w.drewN n) b cs T := h
theorem Blk.drew {w : World} {b : Nat} {cs : Array Value} {T : TypeId} (h : Blk w b cs T) : Blk w.drew b cs T := h
/-! ### a row of cells that lies in memory, to be read; lists of things of so many cells each -/
/-- At the address a (none only where there is nothing) lie the cells vs. -/
def RdV (w : World) (a : Option Addr) (vs : List Value) : Prop :=
  ∀ i u, vs[i]? = some u → ∃ b off, a = some ⟨b, off, none⟩ ∧ w.cell? ⟨b, off + i, none⟩ = some u
theorem RdV.below {w w' : World} {a : Option Addr} {vs : List Value} (h : RdV w a vs) (hb : Below w.heap.size w w') : RdV w' a vs := by
  intro i u hi
  obtain ⟨b, off, ha, hc⟩ := h i u hi
  exact ⟨b, off, ha, cell_later hb hc⟩
theorem RdV.nil {w : World} {a : Option Addr} : RdV w a [] := fun i u h => by simp at h
theorem RdV.at {w : World} {a : Option Addr} {vs : List Value} (h : RdV w a vs) (hn : 0 < vs.length) : ∃ b off, a = some ⟨b, off, none⟩ ∧ ∀ i u, vs[i]? = some u → w.cell? ⟨b, off + i, none⟩ = some u := by
  obtain ⟨b, off, rfl, hc⟩ := h 0 _ (List.getElem?_eq_getElem hn)
  refine ⟨b, off, rfl, fun i u hi => ?_⟩
  obtain ⟨b', off', e, hc'⟩ := h i u hi
  simp only [Option.some.injEq, Addr.mk.injEq, and_true] at e
  obtain ⟨rfl, rfl⟩ := e
  exact hc'
/-- Element i of a list of things of sz cells each. -/
theorem flat_get {α : Type} (enc : α → List Value) (sz : Nat) (hsz : ∀ x, (enc x).length = sz) : ∀ (l : List α) (i : Nat) (h : i < l.length) (j : Nat) (u : Value), (enc l[i])[j]? = some u → (l.flatMap enc)[i * sz + j]? = some u
  | [], i, h, _, _, _ => absurd h (Nat.not_lt_zero _)
  | x :: l, 0, _, j, u, hj => by
    simp only [List.flatMap_cons, Nat.zero_mul, Nat.zero_add]
    simp only [List.getElem_cons_zero] at hj
    have hl : j < (enc x).length := by
      rcases Nat.lt_or_ge j (enc x).length with h | h
      · exact h
      · simp [List.getElem?_eq_none h] at hj
    rw [List.getElem?_append_left hl]; exact hj
  | x :: l, i + 1, h, j, u, hj => by
    simp only [List.flatMap_cons]
    have e : (i + 1) * sz + j = (enc x).length + (i * sz + j) := by rw [hsz x, Nat.add_mul]; omega
    rw [e, List.getElem?_append_right (by omega), Nat.add_sub_cancel_left]
    exact flat_get enc sz hsz l i (by simpa using h) j u (by simpa using hj)
theorem flat_len {α : Type} (enc : α → List Value) (sz : Nat) (hsz : ∀ x, (enc x).length = sz) (l : List α) : (l.flatMap enc).length = l.length * sz := by
  induction l with
  | nil => simp
  | cons x l ih => simp [List.flatMap_cons, ih, hsz x, Nat.add_mul, Nat.add_comm]
theorem RdV.elem {α : Type} {enc : α → List Value} {sz : Nat} (hsz : ∀ x, (enc x).length = sz) (hp : 0 < sz) {w : World} {a : Option Addr} {l : List α} (h : RdV w a (l.flatMap enc)) (i : Nat) (hi : i < l.length) :
    ∃ b off, a = some ⟨b, off, none⟩ ∧ ∀ j u, (enc l[i])[j]? = some u → w.cell? ⟨b, off + i * sz + j, none⟩ = some u := by
  obtain ⟨b, off, ha, hc⟩ := h.at (by rw [flat_len enc sz hsz]; exact Nat.mul_pos (by omega) hp)
  exact ⟨b, off, ha, fun j u hj => by rw [Nat.add_assoc]; exact hc _ _ (flat_get enc sz hsz l i hi j u hj)⟩
/-- What is owned can be read. -/
theorem owns_rd {w : World} {B : Nat} {e : TypeId} {sz : Nat} {v : Value} {n : Nat} {xs : List Value} (h : w.ownsRow B e sz v n xs) : ∃ a c, v = .slice a n c ∧ n ≤ c ∧ RdV w a xs := by
  obtain ⟨hl, h⟩ := h
  rcases h with ⟨rfl, rfl⟩ | ⟨g, cap, cur, rfl, _, hg, hc, _, _, ht⟩
  · have : xs = [] := List.eq_nil_of_length_eq_zero (by simpa using hl)
    subst this
    exact ⟨none, 0, rfl, Nat.le_refl _, RdV.nil⟩
  · refine ⟨_, cap, rfl, hc, fun i u hi => ⟨g, 0, rfl, ?_⟩⟩
    rw [cell_of_row w g (0 + i) cur e (0, 0) hg, Nat.zero_add, ← Array.getElem?_toList]
    rw [← ht, List.getElem?_take] at hi
    split at hi
    · exact hi
    · cases hi

/-! ### cells written into a block -/
def putAt (cur : Array Value) : Nat → List Value → Array Value
  | _, [] => cur
  | o, v :: r => putAt (cur.setIfInBounds o v) (o + 1) r
theorem size_putAt : ∀ (vs : List Value) (cur : Array Value) (o : Nat), (putAt cur o vs).size = cur.size
  | [], _, _ => rfl
  | v :: r, cur, o => by simp [putAt, size_putAt r]
theorem putAt_out : ∀ (vs : List Value) (cur : Array Value) (o k : Nat), (k < o ∨ o + vs.length ≤ k) → (putAt cur o vs)[k]? = cur[k]?
  | [], _, _, _, _ => rfl
  | v :: r, cur, o, k, h => by
    simp only [List.length_cons] at h
    simp only [putAt]
    rw [putAt_out r _ _ _ (by omega), Array.getElem?_setIfInBounds_ne (by omega)]
theorem putAt_in : ∀ (vs : List Value) (cur : Array Value) (o j : Nat) (u : Value), o + vs.length ≤ cur.size → vs[j]? = some u → (putAt cur o vs)[o + j]? = some u
  | [], _, _, _, _, _, h => by simp at h
  | v :: r, cur, o, 0, u, hs, h => by
    simp only [List.length_cons] at hs
    simp only [putAt]
    rw [putAt_out r _ _ _ (by omega)]
    simp at h; subst h
    simp [show o < cur.size by omega]
  | v :: r, cur, o, j + 1, u, hs, h => by
    simp only [List.length_cons] at hs
    simp only [putAt]
    rw [show o + (j + 1) = o + 1 + j by omega]
    exact putAt_in r _ _ _ u (by simp; omega) (by simpa using h)
theorem Blk.setCell {w : World} {b : Nat} {cs : Array Value} {T : TypeId} (h : Blk w b cs T) (o : Nat) (v : Value) : Blk (w.setCell ⟨b, o, none⟩ v) b (cs.setIfInBounds o v) T :=
  heap_setCell_same w b o cs T v h
theorem Blk.setCell_other {w : World} {b : Nat} {cs : Array Value} {T : TypeId} (h : Blk w b cs T) (a : Addr) (v : Value) (hne : b ≠ a.block) : Blk (w.setCell a v) b cs T :=
  (heap_setCell_other w a b v hne).trans h
theorem Blk.setCells {T : TypeId} {b : Nat} : ∀ (vs : List Value) (o : Nat) {w : World} {cs : Array Value}, Blk w b cs T → Blk (w.setCells b o vs) b (putAt cs o vs) T
  | [], _, _, _, h => h
  | v :: r, o, _, _, h => Blk.setCells r (o + 1) (h.setCell o v)
theorem heap_setCells_other (b : Nat) : ∀ (vs : List Value) (o : Nat) (w : World) (k : Nat), k ≠ b → (w.setCells b o vs).heap[k]? = w.heap[k]?
  | [], _, _, _, _ => rfl
  | v :: r, o, w, k, h => (heap_setCells_other b r (o + 1) _ k h).trans (heap_setCell_other w ⟨b, o, none⟩ k v h)
theorem size_setCells (b : Nat) : ∀ (vs : List Value) (o : Nat) (w : World), (w.setCells b o vs).heap.size = w.heap.size
  | [], _, _ => rfl
  | v :: r, o, w => (size_setCells b r (o + 1) _).trans (by simp [World.setCell])
theorem keep_setCells (b : Nat) : ∀ (vs : List Value) (o : Nat) (w : World), (w.setCells b o vs).os = w.os ∧ (w.setCells b o vs).tape = w.tape ∧ (w.setCells b o vs).output = w.output
  | [], _, _ => ⟨rfl, rfl, rfl⟩
  | _ :: r, o, _ => keep_setCells b r (o + 1) _
theorem grownBy_setCells (w : World) (b o : Nat) (vs : List Value) : w.grownBy (w.setCells b o vs) (some b) :=
  ⟨(keep_setCells b vs o w).1, (keep_setCells b vs o w).2.1, (keep_setCells b vs o w).2.2, Nat.le_of_eq (size_setCells b vs o w).symm,
    fun k _ hk => heap_setCells_other b vs o w k (fun e => hk (by rw [e]))⟩

/-! ### a slice that the call itself made: nil, or a part of a block of its own -/
def Own (w : World) (B : Nat) (e : TypeId) (sz : Nat) (v : Value) (n : Nat) (xs : List Value) : Prop :=
  xs.length = n * sz ∧ ((v = .slice none 0 0 ∧ n = 0) ∨
    ∃ g off cap cur, v = .slice (some ⟨g, off, none⟩) n cap ∧ B ≤ g ∧ Blk w g cur e ∧ n ≤ cap ∧ cap ≤ maxLen ∧ off + cap * sz ≤ cur.size ∧ ∀ j u, xs[j]? = some u → cur[off + j]? = some u)
theorem Own.nil (w : World) (B : Nat) (e : TypeId) (sz : Nat) : Own w B e sz (.slice none 0 0) 0 [] := ⟨by simp, .inl ⟨rfl, rfl⟩⟩
theorem Own.of_owns {w : World} {B : Nat} {e : TypeId} {sz : Nat} {v : Value} {n : Nat} {xs : List Value} (h : w.ownsRow B e sz v n xs) : Own w B e sz v n xs := by
  obtain ⟨hl, h⟩ := h
  refine ⟨hl, h.imp id fun ⟨g, cap, cur, hv, hB, hg, hc, hm, hs, ht⟩ => ⟨g, 0, cap, cur, hv, hB, hg, hc, hm, by omega, fun j u hj => ?_⟩⟩
  rw [Nat.zero_add, ← Array.getElem?_toList]
  rw [← ht, List.getElem?_take] at hj
  split at hj
  · exact hj
  · cases hj
theorem Own.mono {w : World} {B B' : Nat} {e : TypeId} {sz : Nat} {v : Value} {n : Nat} {xs : List Value} (h : Own w B e sz v n xs) (hB : B' ≤ B) : Own w B' e sz v n xs :=
  ⟨h.1, h.2.imp id fun ⟨g, off, cap, cur, hv, hg, r⟩ => ⟨g, off, cap, cur, hv, Nat.le_trans hB hg, r⟩⟩
theorem Own.below {w w' : World} {B : Nat} {e : TypeId} {sz : Nat} {v : Value} {n : Nat} {xs : List Value} (h : Own w B e sz v n xs) (hb : Below w.heap.size w w') : Own w' B e sz v n xs :=
  ⟨h.1, h.2.imp id fun ⟨g, off, cap, cur, hv, hg, hk, r⟩ => ⟨g, off, cap, cur, hv, hg, hk.ext hb, r⟩⟩
theorem Own.grown {w w' : World} {row : Option Nat} {B : Nat} {e : TypeId} {sz : Nat} {v : Value} {n : Nat} {xs : List Value} (h : Own w B e sz v n xs) (hg : w.grownBy w' row) (hne : ∀ g, v.ownBlock = some g → row ≠ some g) : Own w' B e sz v n xs :=
  ⟨h.1, h.2.imp id fun ⟨g, off, cap, cur, hv, hB, hk, r⟩ => ⟨g, off, cap, cur, hv, hB, (hg.block g hk.lt (fun e => hne g (by rw [hv]; rfl) e.symm)).trans hk, r⟩⟩
theorem Own.rd {w : World} {B : Nat} {e : TypeId} {sz : Nat} {v : Value} {n : Nat} {xs : List Value} (h : Own w B e sz v n xs) : ∃ a c, v = .slice a n c ∧ n ≤ c ∧ c ≤ maxLen ∧ (a = none → c = 0) ∧ RdV w a xs := by
  obtain ⟨hl, h⟩ := h
  rcases h with ⟨rfl, rfl⟩ | ⟨g, off, cap, cur, rfl, _, hg, hc, hm, hs, ht⟩
  · have : xs = [] := List.eq_nil_of_length_eq_zero (by simpa using hl)
    subst this
    exact ⟨none, 0, rfl, Nat.le_refl _, Nat.zero_le _, fun _ => rfl, RdV.nil⟩
  · exact ⟨_, cap, rfl, hc, hm, fun e => (Option.some_ne_none _ e).elim, fun i u hi => ⟨g, off, rfl, by rw [hg.cell]; exact ht i u hi⟩⟩
theorem below_grown {B : Nat} {a w w' : World} {row : Option Nat} (h : Below B a w) (hg : w.grownBy w' row) (hB : B ≤ w.heap.size) (hr : ∀ k, row = some k → B ≤ k) : Below B a w' := h.grown hg hB hr
theorem Own.ge {w : World} {B : Nat} {e : TypeId} {sz : Nat} {v : Value} {n : Nat} {xs : List Value} (h : Own w B e sz v n xs) : ∀ k, v.ownBlock = some k → B ≤ k := by
  rcases h.2 with ⟨rfl, _⟩ | ⟨g, off, cap, cur, rfl, hB, _⟩
  · intro k hk; cases hk
  · intro k hk; cases hk; exact hB

theorem Blk.grown {w w' : World} {row : Option Nat} {b : Nat} {cs : Array Value} {T : TypeId} (h : Blk w b cs T) (hg : w.grownBy w' row) (hne : row ≠ some b) : Blk w' b cs T :=
  (hg.block b h.lt (fun e => hne e.symm)).trans h
/-- A block below those of the call's own is untouched by an append to them. -/
theorem Blk.app {w w' : World} {B : Nat} {e : TypeId} {sz : Nat} {v : Value} {n : Nat} {xs : List Value} {b : Nat} {cs : Array Value} {T : TypeId} (h : Blk w b cs T) (ho : Own w B e sz v n xs) (hg : w.grownBy w' v.ownBlock) (hb : b < B) : Blk w' b cs T :=
  h.grown hg (fun e => by have := ho.ge b e; omega)
theorem Own.alloc {w : World} {B : Nat} {e : TypeId} {sz : Nat} {v : Value} {n : Nat} {xs : List Value} (h : Own w B e sz v n xs) (o : Obj) : Own (w.alloc o) B e sz v n xs :=
  h.below ((Below.refl _ _).alloc (Nat.le_refl _) _)
theorem RdV.one (w : World) (v : Value) (T : TypeId) : RdV (w.alloc (.cells #[v] T)) (some ⟨w.heap.size, 0, none⟩) [v] := by
  intro i u hi
  refine ⟨_, _, rfl, ?_⟩
  rw [(Blk.new w #[v] T).cell]
  cases i with
  | zero => simpa using hi
  | succ i => simp at hi
theorem RdV.new (w : World) (cs : Array Value) (T : TypeId) : RdV (w.alloc (.cells cs T)) (some ⟨w.heap.size, 0, none⟩) cs.toList := by
  intro i u hi
  refine ⟨_, _, rfl, ?_⟩
  rw [(Blk.new w cs T).cell, Nat.zero_add]
  simpa using hi
theorem one_int (k : IntKind) (n : Int) : ∀ u ∈ [Value.int k n], u.oneCell' = true := by
  intro u hu
  cases List.mem_singleton.1 hu
  rfl
/-- 'append' to a slice of the call's own: whatever is appended. -/
theorem wpList_app {P : Program} {w : World} {ops : Array Oper} {rest : List Oper} {o : Oper} {a : Act} {Q : Exit → Act → World → Prop} (hg : o.guard = none) (s x : Operand) (t : TypeId)
    (hop : o.op = Op.call { callee := Callee.builtin Builtin.append, args := #[s, x], argTypes := #[t, t] })
    (B : Nat) (e : TypeId) (z : Value) (size bytes : Nat) (h1 : P.underlying t = some (.slice e)) (h2 : (P.info? e).map (fun i => (i.zero, i.size, i.bytes)) = some (some z, size, bytes)) (h6 : z.cells.size = size) (h7 : 0 < size)
    (v : Value) (n : Nat) (xs : List Value) (hs : a.eval s = v) (hown : Own w B e size v n xs)
    (ao : Option Addr) (m c : Nat) (news : List Value) (hx : a.eval x = .slice ao m c) (hnone : ao = none → c = 0) (hmc : m ≤ c) (hn : news.length = m * size) (hrd : RdV w ao news) (h1c : ∀ u ∈ news, u.oneCell' = true)
    (b1 : n + m ≤ maxLen) (b2 : (n + m) * bytes ≤ 140737488355328) (hB : B ≤ w.heap.size)
    (hK : ∀ v' w', Own w' B e size v' (n + m) (xs ++ news) → w.grownBy w' v.ownBlock → wpList P ops Q rest (a.put o.dst v') w') :
    wpList P ops Q (o :: rest) a w := by
  obtain ⟨i, hi, hz, hsz, hby⟩ := info_parts h2
  cases ao with
  | none =>
    obtain rfl := hnone rfl
    obtain rfl : m = 0 := by omega
    obtain rfl : news = [] := List.eq_nil_of_length_eq_zero (by simpa using hn)
    have key : wpList P ops Q rest (a.put o.dst v) w := by
      have := hK v w (by simpa using hown) (World.grownBy.refl _ _)
      exact this
    rcases hown with ⟨hl, ⟨rfl, rfl⟩ | ⟨g, off, cap, cur, rfl, hBg, hk, hc, hm, hsize, hcell⟩⟩
    · obtain rfl : xs = [] := List.eq_nil_of_length_eq_zero (by simpa using hl)
      exact wpList_append_own_none hg s x t hop B e i size h1 hi _ 0 [] hs (World.ownsRow_nil w B e size) hx key
    · refine wpList_plain hg fun K hK' => ?_
      unfold Oper.wp
      simp [execOp, hop, resolve, invoke, builtin, hs, hx, Builtin.append_, run_underlying h1, Go.sizeOf, typeInfo, hi, Builtin.lenOf, Builtin.firstCells, hc, storeCells, Result.andThen]
      exact hK' _ _ key
  | some ad =>
    have hnews : ∀ j u, news[j]? = some u → w.cell? (ad.add j) = some u := by
      intro j u hj
      obtain ⟨b, off, e', hc⟩ := hrd j u hj
      cases e'
      rw [Addr.add_lit]; exact hc
    rcases hown with ⟨hl, ⟨rfl, rfl⟩ | ⟨g, off, cap, cur, rfl, hBg, hk, hc, hm, hsize, hcell⟩⟩
    · obtain rfl : xs = [] := List.eq_nil_of_length_eq_zero (by simpa using hl)
      exact wpList_append_own w hg s x t hop B e i z size bytes h1 hi hz hsz hby h6 h7 _ 0 [] hs (World.ownsRow_nil w B e size) ad m c news hx hn hnews h1c b1 b2 hB
        fun v' w' r1 r2 _ => hK v' w' (.of_owns r1) r2
    · have hcap : n * size ≤ cap * size := Nat.mul_le_mul_right _ hc
      refine wpList_append_arg w hg s x t hop e i z size bytes h1 hi hz hsz hby h6 h7 g off n cap xs hs hl (fun j u hj => by rw [hk.cell]; exact hcell j u hj) ad m c news hx hn hnews h1c (fun hr j hj => ?_) b1 b2 (fun hr => ?_) (fun hr v' w' r1 r2 => ?_)
      · have h3 : (n + m) * size ≤ cap * size := Nat.mul_le_mul_right _ hr
        rw [Nat.add_mul] at h3
        have : off + n * size + j < cur.size := by omega
        exact ⟨by rw [hk.cell]; simp [this], hk.free _⟩
      · have h3 : (n + m) * size ≤ cap * size := Nat.mul_le_mul_right _ hr
        rw [Nat.add_mul] at h3
        refine hK _ _ ⟨by rw [List.length_append, hl, hn, Nat.add_mul], .inr ⟨g, off, cap, _, rfl, hBg, hk.setCells news (off + n * size), hr, hm, by rw [size_putAt]; exact hsize, fun j u hj => ?_⟩⟩ (grownBy_setCells _ _ _ _)
        by_cases hjl : j < xs.length
        · rw [List.getElem?_append_left hjl] at hj
          rw [putAt_out _ _ _ _ (.inl (by omega))]; exact hcell j u hj
        · rw [List.getElem?_append_right (by omega)] at hj
          have := putAt_in news cur (off + n * size) (j - xs.length) u (by omega) hj
          rwa [show off + n * size + (j - xs.length) = off + j by omega] at this
      · have r2' : w.grownBy w' (Value.ownBlock (.slice (some ⟨g, off, none⟩) n cap)) := ⟨r2.os, r2.tape, r2.output, r2.size, fun k hk' _ => r2.block k hk' (by simp)⟩
        exact hK v' w' ((Own.of_owns r1).mono hB) r2'

/-- The builtin 'copy' into a part of a block of one's own: whatever is copied; the cells of the rest of memory are as they were. -/
theorem wpList_cpy {P : Program} {w : World} {ops : Array Oper} {rest : List Oper} {o : Oper} {a : Act} {Q : Exit → Act → World → Prop} (hgd : o.guard = none) (d s : Operand) (dT sT : TypeId)
    (ho : o.op = .call { callee := .builtin .copy, args := #[d, s], argTypes := #[dT, sT] }) (elem : TypeId) (hu : P.underlying dT = some (.slice elem)) (hsz : (P.info? elem).map (·.size) = some 1)
    (g off dLen dCap : Nat) (sp : Option Addr) (sLen sCap : Nat) (hd : a.eval d = .slice (some ⟨g, off, none⟩) dLen dCap) (hs : a.eval s = .slice sp sLen sCap)
    (cur : List Value) (T : TypeId) (hg : Blk w g cur.toArray T) (vs : List Value) (hn : vs.length = sLen) (hrd : RdV w sp vs)
    (hfit : off + dLen ≤ cur.length) (h1 : ∀ v ∈ vs, v.oneCell' = true)
    (h : ∀ w', Blk w' g (splice cur off (vs.take dLen)).toArray T → w.grownBy w' (some g) → wpList P ops Q rest (a.put o.dst (goInt (Nat.min sLen dLen))) w') :
    wpList P ops Q (o :: rest) a w := by
  have hlen : (vs.take dLen).length = Nat.min sLen dLen := by rw [List.length_take, hn]; exact Nat.min_comm _ _
  have hle : Nat.min sLen dLen ≤ dLen := Nat.min_le_right _ _
  by_cases h0 : (vs.take dLen).length = 0
  · have e : vs.take dLen = [] := List.eq_nil_of_length_eq_zero h0
    have hm : Nat.min sLen dLen = 0 := by rw [← hlen]; exact h0
    refine wpList_copy_nothing hgd d s dT sT ho elem hu hsz _ sp dLen dCap sLen sCap hd hs hm ?_
    have := h w (by rw [e]; simpa [splice] using hg) (World.grownBy.refl _ _)
    rw [hm] at this
    exact this
  · have hpos : 0 < vs.length := by
      rw [List.length_take] at h0
      have : min dLen vs.length ≤ vs.length := Nat.min_le_right _ _
      omega
    obtain ⟨b, so, rfl, hc⟩ := hrd.at hpos
    refine wpList_copy_own hgd d s dT sT ho elem hu hsz g off dLen dCap _ sLen sCap hd hs cur.toArray T hg (vs.take dLen) hlen (fun j v hj => ?_) (by rw [hlen, List.size_toArray]; omega) (fun v hv => h1 v (List.mem_of_mem_take hv)) ?_
    · rw [Addr.add_lit]
      rw [List.getElem?_take] at hj
      split at hj
      · exact hc j v hj
      · cases hj
    · have := h (w.setRow g (splice cur off (vs.take dLen)).toArray) (setRow_heap w g _ _ T _ hg) ⟨rfl, rfl, rfl, by simp, fun k _ hk => setRow_other w g k _ (fun e => hk (by rw [e]))⟩
      rw [hlen]
      simpa [splice, hlen, hn, Nat.min_comm] using this

theorem putAt_whole (cur cs : Array Value) (h : cs.size = cur.size) : putAt cur 0 cs.toList = cs := by
  apply Array.ext_getElem?
  intro i
  by_cases hi : i < cs.size
  · have := putAt_in cs.toList cur 0 i cs[i] (by simp; omega) (by simp [hi])
    rw [Nat.zero_add] at this
    rw [this]
    simp [hi]
  · rw [Array.getElem?_eq_none (by rw [size_putAt]; omega), Array.getElem?_eq_none (by omega)]
/-- A store of a struct, or an array, into a part of a block. -/
theorem wpList_st {P : Program} {w : World} {ops : Array Oper} {rest : List Oper} {op : Oper} {a : Act} {Q : Exit → Act → World → Prop} (hgd : op.guard = none) (ty : TypeId) (x y : Operand) (ho : op.op = .store ty x y)
    (b o : Nat) (cells : Array Value) (hx : a.eval x = .pointer (some ⟨b, o, none⟩)) (hy : a.eval y = .agg cells) (cur : Array Value) (T : TypeId) (hg : Blk w b cur T)
    (hfit : o + cells.size ≤ cur.size) (hi : (P.info? ty).map (·.size) = some cells.size) (h1 : cells.all (·.oneCell') = true)
    (h : ∀ w', Blk w' b (putAt cur o cells.toList) T → w.grownBy w' (some b) → wpList P ops Q rest (a.put op.dst undef) w') : wpList P ops Q (op :: rest) a w := by
  refine wpList_store_mid hgd ty x y ho b o cells hx hy (fun j hj => ⟨?_, hg.free _⟩) hi h1 (h _ (hg.setCells _ _) (grownBy_setCells _ _ _ _))
  rw [hg.cell]
  simp [show o + j < cur.size by omega]
/-- The same, of the whole block. -/
theorem wpList_stw {P : Program} {w : World} {ops : Array Oper} {rest : List Oper} {op : Oper} {a : Act} {Q : Exit → Act → World → Prop} (hgd : op.guard = none) (ty : TypeId) (x y : Operand) (ho : op.op = .store ty x y)
    (b : Nat) (cells : Array Value) (hx : a.eval x = .pointer (some ⟨b, 0, none⟩)) (hy : a.eval y = .agg cells) (cur : Array Value) (T : TypeId) (hg : Blk w b cur T)
    (hfit : cells.size = cur.size) (hi : (P.info? ty).map (·.size) = some cells.size) (h1 : cells.all (·.oneCell') = true)
    (h : ∀ w', Blk w' b cells T → w.grownBy w' (some b) → wpList P ops Q rest (a.put op.dst undef) w') : wpList P ops Q (op :: rest) a w := by
  refine wpList_st hgd ty x y ho b 0 cells hx hy cur T hg (by omega) hi h1 fun w' hb hgr => ?_
  rw [putAt_whole cur cells hfit] at hb
  exact h w' hb hgr

theorem flat_one {α : Type} (f : α → Value) (l : List α) : l.flatMap (fun x => [f x]) = l.map f := by
  induction l with
  | nil => rfl
  | cons x l ih => simp [ih]
/-! ### bytes, whole numbers -/
def byV (b : UInt8) : Value := .int .u8 b.toNat
def inV (n : Int) : Value := .int .i64 n
/-- A slice of bytes as a string. -/
theorem conv_bytes {P : Program} {w : World} {src e : TypeId} (hs : P.underlying src = some (.slice e)) (he : P.underlying e = some (.int .u8)) {a : Option Addr} {l : List UInt8} (c : Nat) (h : RdV w a (l.map byV)) :
    ∀ dst, P.underlying dst = some .string → (convert src dst (.slice a l.length c)).run P w = .ok (.string ⟨l.toArray⟩) w := by
  intro dst hd
  by_cases hn : l = []
  · subst hn
    have := run_convert_bytes_string w src dst e a 0 c hs he hd
    simp only [List.length_nil]
    rw [this]
    cases a with
    | none => rfl
    | some a =>
      rw [run_bytesToString w a 0 c [] (by simpa using run_loadCells_list (P := P) w a [] (by simp))]
      rfl
  · obtain ⟨b, off, rfl, hc⟩ := h.at (by simpa using List.length_pos_iff.2 hn)
    rw [run_convert_bytes_arg w src e hs he b off l.length c (l.map fun x => (x.toNat : Int)) (by simp) (fun i hi => by
      rw [hc i (byV l[i]) (by simp [hi])]
      simp [byV, List.getD, hi]) dst hd]
    congr 2
    apply ByteArray.ext
    apply Array.ext'
    rw [strOfNums_data]
    simp [List.map_map, Function.comp_def]

/-! ### pages -/
abbrev Page := Vector UInt8 8
def pgC (p : Page) : Array Value := #[Value.int .u8 p[0].toNat, Value.int .u8 p[1].toNat, Value.int .u8 p[2].toNat, Value.int .u8 p[3].toNat, Value.int .u8 p[4].toNat, Value.int .u8 p[5].toNat, Value.int .u8 p[6].toNat, Value.int .u8 p[7].toNat]
theorem pgC_size (p : Page) : (pgC p).size = 8 := rfl
theorem pgC_get (p : Page) (k : Nat) (h : k < 8) : (pgC p)[k]? = some (Value.int .u8 p[k].toNat) := by
  match k, h with
  | 0, _ => rfl
  | 1, _ => rfl
  | 2, _ => rfl
  | 3, _ => rfl
  | 4, _ => rfl
  | 5, _ => rfl
  | 6, _ => rfl
  | 7, _ => rfl
  | n + 8, h => omega
theorem pgC_set (p : Page) (k : Nat) (h : k < 8) (b : UInt8) : (pgC p).setIfInBounds k (.int .u8 b.toNat) = pgC (p.set k b) := by
  match k, h with
  | 0, _ => simp [pgC]
  | 1, _ => simp [pgC]
  | 2, _ => simp [pgC]
  | 3, _ => simp [pgC]
  | 4, _ => simp [pgC]
  | 5, _ => simp [pgC]
  | 6, _ => simp [pgC]
  | 7, _ => simp [pgC]
  | n + 8, h => omega
theorem pgC_all (p : Page) : (pgC p)[0]? = some (Value.int .u8 p[0].toNat) ∧ (pgC p)[1]? = some (Value.int .u8 p[1].toNat) ∧ (pgC p)[2]? = some (Value.int .u8 p[2].toNat) ∧ (pgC p)[3]? = some (Value.int .u8 p[3].toNat) ∧ (pgC p)[4]? = some (Value.int .u8 p[4].toNat) ∧ (pgC p)[5]? = some (Value.int .u8 p[5].toNat) ∧ (pgC p)[6]? = some (Value.int .u8 p[6].toNat) ∧ (pgC p)[7]? = some (Value.int .u8 p[7].toNat) :=
  ⟨rfl, rfl, rfl, rfl, rfl, rfl, rfl, rfl⟩
theorem pgC_one (p : Page) : (pgC p).all (·.oneCell') = true := by simp [pgC, Value.oneCell']
theorem pgC_list (p : Page) : (pgC p).toList = p.toList.map byV := by
  apply List.ext_getElem?
  intro i
  by_cases h : i < 8
  · rw [Array.getElem?_toList, pgC_get p i h]
    simp [h, byV]
  · rw [Array.getElem?_toList, Array.getElem?_eq_none (by rw [pgC_size]; omega), List.getElem?_eq_none (by simp; omega)]
theorem pg_rd {w : World} {b : Nat} {p : Page} {T : TypeId} (h : Blk w b (pgC p) T) (a n : Nat) : RdV w (some ⟨b, a, none⟩) (((p.toList.drop a).take n).map byV) := by
  intro i u hi
  refine ⟨b, a, rfl, ?_⟩
  rw [h.cell, ← Array.getElem?_toList, pgC_list]
  rw [List.map_take, List.map_drop, List.getElem?_take] at hi
  split at hi
  · rw [List.getElem?_drop] at hi; exact hi
  · cases hi
theorem by_one (l : List UInt8) : ∀ u ∈ l.map byV, u.oneCell' = true := by
  intro u hu
  obtain ⟨_, _, rfl⟩ := List.mem_map.1 hu
  rfl
theorem pgC_arr (p : Page) : pgC p = (p.toList.map byV).toArray := by rw [← pgC_list]
/-- p with b from byte a on; what would lie behind its end is left out. -/
def setPage (p : Page) (a : Int) (b : List UInt8) : Page := if 0 ≤ a ∧ a < 8 then Vector.ofFn fun i : Fin 8 => if a.toNat ≤ i.val then b.getD (i.val - a.toNat) p[i.val] else p[i.val] else p
theorem set_splice (p : Page) (a : Nat) (b : List UInt8) (ha : a < 8) : (splice (p.toList.map byV) a ((b.map byV).take (8 - a))).toArray = pgC (setPage p a b) := by
  rw [pgC_arr]
  congr 1
  unfold splice
  rw [← List.map_take, ← List.map_take, ← List.map_drop, ← List.map_append, ← List.map_append]
  congr 1
  apply List.ext_getElem?
  intro i
  simp only [List.length_take, List.length_map]
  by_cases h : i < 8
  · have e : (setPage p a b).toList[i]? = some (if a ≤ i then b.getD (i - a) p[i] else p[i]) := by
      simp [setPage, h, show (a : Int) < 8 by omega]
    rw [e]
    have hl : (List.take a p.toList).length = a := by simp; omega
    by_cases h1 : i < a
    · rw [List.getElem?_append_left (by omega), if_neg (by omega)]
      simp [h1, h]
    · rw [List.getElem?_append_right (by omega), if_pos (by omega), hl]
      by_cases h2 : i - a < min (8 - a) b.length
      · rw [List.getElem?_append_left (by simpa using h2), List.getElem?_take, if_pos (by omega)]
        simp [List.getD, show i - a < b.length by omega]
      · rw [List.getElem?_append_right (by simp; omega), List.getElem?_drop]
        have hm : (List.take (8 - a) b).length = min (8 - a) b.length := by simp
        rw [hm, show a + min (8 - a) b.length + (i - a - min (8 - a) b.length) = i by omega]
        simp [List.getD, h, List.getElem?_eq_none (show b.length ≤ i - a by omega)]
  · rw [List.getElem?_eq_none (by simp; omega), List.getElem?_eq_none (by simp; omega)]
theorem setPage_get (p : Page) (a : Nat) (b : List UInt8) (ha : a < 8) (i : Nat) (hi : i < 8) : (setPage p a b)[i] = if a ≤ i then (b[i - a]?).getD p[i] else p[i] := by
  have h : setPage p a b = Vector.ofFn fun i : Fin 8 => if a ≤ i.val then b.getD (i.val - a) p[i.val] else p[i.val] := by
    unfold setPage
    rw [if_pos (by omega)]
    rfl
  rw [h, Vector.getElem_ofFn]
  simp [List.getD]
theorem setPage_take (p : Page) (a : Nat) (b : List UInt8) (k : Nat) (ha : a + k < 8) (hk : k < b.length) : (setPage p a (b.take k)).set (a + k) b[k] = setPage p a (b.take (k + 1)) := by
  ext i hi
  rw [Vector.getElem_set, setPage_get _ _ _ (by omega), setPage_get _ _ _ (by omega)]
  by_cases e : a + k = i
  · subst e
    rw [if_pos rfl, if_pos (by omega), show a + k - a = k by omega]
    simp [hk]
  · rw [if_neg e]
    by_cases h1 : a ≤ i
    · rw [if_pos h1, if_pos h1]
      by_cases h2 : i - a < k
      · simp [h2, show i - a < k + 1 by omega]
      · rw [List.getElem?_eq_none (by simp; omega), List.getElem?_eq_none (by simp; omega)]
    · rw [if_neg h1, if_neg h1]
theorem setPage_stop (p : Page) (a : Nat) (b : List UInt8) (k : Nat) (h : b.length ≤ k ∨ 8 ≤ a + k) : setPage p a (b.take k) = setPage p a b := by
  by_cases h0 : a < 8
  · ext i hi
    rw [setPage_get _ _ _ h0, setPage_get _ _ _ h0]
    by_cases h1 : a ≤ i
    · rw [if_pos h1, if_pos h1]
      by_cases h2 : i - a < k
      · simp [h2]
      · rw [List.getElem?_eq_none (by simp; omega), List.getElem?_eq_none (by omega)]
    · rw [if_neg h1, if_neg h1]
  · unfold setPage
    rw [if_neg (by omega), if_neg (by omega)]
theorem setPage_nil (p : Page) (a : Int) : setPage p a [] = p := by
  unfold setPage
  split
  · ext i hi; simp
  · rfl
theorem run_part_cell {P : Program} (w : World) (e : TypeId) (k : IntKind) (cs : Array Value) (off : Nat) (v : Value) (he : P.underlying e = some (.int k)) (hv : cs[off]? = some v) :
    (part e cs off).run P w = .ok v w := by
  simp [part, isAgg, run_underlying he, hv]
theorem page_beq (p q : Page) : (p == q) = ((p[0] == q[0]) && (p[1] == q[1]) && (p[2] == q[2]) && (p[3] == q[3]) && (p[4] == q[4]) && (p[5] == q[5]) && (p[6] == q[6]) && (p[7] == q[7])) := by
  rw [Bool.eq_iff_iff]
  simp only [beq_iff_eq, Bool.and_eq_true]
  constructor
  · rintro rfl; simp
  · rintro ⟨⟨⟨⟨⟨⟨⟨h0, h1⟩, h2⟩, h3⟩, h4⟩, h5⟩, h6⟩, h7⟩
    ext i hi
    match i, hi with
    | 0, _ => rw [h0]
    | 1, _ => rw [h1]
    | 2, _ => rw [h2]
    | 3, _ => rw [h3]
    | 4, _ => rw [h4]
    | 5, _ => rw [h5]
    | 6, _ => rw [h6]
    | 7, _ => rw [h7]
    | n + 8, h => omega
theorem u8_beq (a b : UInt8) : ((a.toNat : Int) == (b.toNat : Int)) = (a == b) := by
  rw [Bool.eq_iff_iff]
  simp only [beq_iff_eq, Int.natCast_inj, UInt8.toNat_inj]
theorem run_eq_page {P : Program} (w : World) (d : Nat) (t e : TypeId) (ht : P.underlying t = some (.array 8 e)) (he : P.underlying e = some (.int .u8)) (hsz : (P.info? e).map (·.size) = some 1) (p q : Page) :
    (Op.equalIn (d + 2) t (.agg (pgC p)) (.agg (pgC q))).run P w = .ok (p == q) w := by
  cases hq : P.info? e with
  | none => simp [hq] at hsz
  | some i =>
  have hi : i.size = 1 := by simpa [hq] using hsz
  rw [page_beq]
  unfold Op.equalIn
  simp only [Sem.run_bind, run_underlying ht, Result.andThen_ok, Go.sizeOf, typeInfo, run_program, hq, hi, Sem.run_pure]
  simp only [Std.Legacy.Range.forIn_eq_forIn_range', List.range', Std.Legacy.Range.size]
  have g : ∀ (r : Page) (k : Nat) (h : k < 8) (w : World), (part e (pgC r) k).run P w = .ok (.int .u8 r[k].toNat) w := fun r k h w => run_part_cell w e .u8 _ _ _ he (pgC_get r k h)
  have c : ∀ (a b : UInt8) (w : World), (Op.equalIn (d + 1) e (.int .u8 a.toNat) (.int .u8 b.toNat)).run P w = .ok (a == b) w := fun a b w => by
    rw [run_equalIn_int w d e .u8 .u8 _ _ he, u8_beq]
  simp [g, c]
  repeat' split
  all_goals simp_all
/-- Cut, up to (not with) byte k. -/
def cutTo (p : Page) (a : Int) (k : Nat) : Page := Vector.ofFn fun i : Fin 8 => if a ≤ (i.val : Int) ∧ i.val < k then 0 else p[i.val]
def cutPage (p : Page) (a : Int) : Page := Vector.ofFn fun i : Fin 8 => if a ≤ (i.val : Int) then 0 else p[i.val]
theorem cutTo_end (p : Page) (a : Int) (k : Nat) (h : 8 ≤ k) : cutTo p a k = cutPage p a := by
  ext i hi
  simp only [cutTo, cutPage, Vector.getElem_ofFn]
  have hk : i < k := by omega
  simp [hk]
theorem cutTo_start (p : Page) (a : Int) (k : Nat) (h : k = a.toNat) : cutTo p a k = p := by
  ext i hi
  simp only [cutTo, Vector.getElem_ofFn]
  rw [if_neg (by omega)]
theorem cutTo_set (p : Page) (a : Int) (k : Nat) (h : k < 8) (ha : a ≤ k) : (cutTo p a k).set k 0 = cutTo p a (k + 1) := by
  ext i hi
  simp only [cutTo, Vector.getElem_ofFn, Vector.getElem_set]
  by_cases e : k = i
  · subst e; simp [ha]
  · simp only [e, if_false]
    by_cases c : a ≤ (i : Int) ∧ i < k
    · rw [if_pos c, if_pos ⟨c.1, by omega⟩]
    · rw [if_neg c, if_neg (by omega)]

end Pw
