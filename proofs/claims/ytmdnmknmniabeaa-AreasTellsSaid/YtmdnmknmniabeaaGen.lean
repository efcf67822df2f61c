/- Lemmas of no program: slices and blocks of one's own, kept and cut; sizes; maps. (For a new seat: gathered from the texts of the first one.) -/
import Derived.Test.YtmdnmknmniabeaaMem
import Derived.Test.YtmdnmknmniabeaaGrowT
import Derived.Test.YtmdnmknmniabeaaOpen2
import Derived.SizedLaws
import Derived.Maps.Own
import Derived.Maps.Views
import Derived.Maps.Range
namespace Go.Proofs.Ytmdnmknmniabeaa
open Go.ChangeShapes Go.WideShapes Go.ChangeAt Go.RowKit Go.Maps Pw
set_option linter.unusedSimpArgs false
set_option linter.unusedVariables false

theorem own_blk {w : World} {B : Nat} {e : TypeId} {sz : Nat} {v : Value} {n : Nat} {xs : List Value} (h : Own w B e sz v n xs) (g : Nat) (hg : v.ownBlock = some g) : ∃ cs, Blk w g cs e := by
  rcases h.2 with ⟨rfl, _⟩ | ⟨g2, off, cap, cur, rfl, _, hb, _⟩
  · cases hg
  · cases hg
    exact ⟨_, hb⟩
/-- A block of another type, and a slice of another type, while a slice of the call's own grows. -/
theorem blk_own {w w' : World} {B : Nat} {e : TypeId} {sz : Nat} {v : Value} {n : Nat} {xs : List Value} {b : Nat} {cs : Array Value} {T : TypeId} (h : Blk w b cs T) (ho : Own w B e sz v n xs) (hT : T ≠ e) (hg : w.grownBy w' v.ownBlock) : Blk w' b cs T :=
  h.grown hg (fun he => own_ne ho h hT b he rfl)
theorem own_own {w w' : World} {B B' : Nat} {e e' : TypeId} {sz sz' : Nat} {v v' : Value} {n n' : Nat} {xs xs' : List Value} (h : Own w B e sz v n xs) (ho : Own w B' e' sz' v' n' xs') (hT : e' ≠ e) (hg : w.grownBy w' v'.ownBlock) : Own w' B e sz v n xs :=
  h.grown hg (fun g hv he => by
    obtain ⟨cs, hk⟩ := own_blk ho g he
    exact own_ne h hk hT g hv rfl)
theorem own_set {w : World} {B : Nat} {e : TypeId} {sz : Nat} {v : Value} {n : Nat} {xs : List Value} (h : Own w B e sz v n xs) {g : Nat} {cs : Array Value} {T : TypeId} (hk : Blk w g cs T) (hT : T ≠ e) (o : Nat) (u : Value) : Own (w.setCell ⟨g, o, none⟩ u) B e sz v n xs :=
  own_keep h hk hT (grownBy_setCells w g o [u])
theorem blk_keep {w w' : World} {b g : Nat} {cs cs' : Array Value} {T T' : TypeId} (h : Blk w b cs T) (hk : Blk w g cs' T') (hT : T' ≠ T) (hgr : w.grownBy w' (some g)) : Blk w' b cs T :=
  h.grown hgr (fun he => by
    cases he
    unfold Blk at h hk
    rw [hk] at h
    simp only [Option.some.injEq, Obj.cells.injEq] at h
    exact hT h.2.1)
theorem sl_one (a b : Option Addr) (n c m e : Nat) : (#[Value.slice a n c, Value.slice b m e] : Array Value).all (·.oneCell') = true := by simp [Value.oneCell']
theorem own_putn {α : Type} {enc : α → List Value} {sz : Nat} (hsz : ∀ x, (enc x).length = sz) (hp : 0 < sz) {w : World} {B n : Nat} {e : TypeId} {v : Value} {l : List α} (hl : l.length = n) (h : Own w B e sz v n (l.flatMap enc)) (k : Nat) (hk : k < n) :
    ∃ g off cap cur, v = .slice (some ⟨g, off, none⟩) n cap ∧ B ≤ g ∧ Blk w g cur e ∧ off + k * sz + sz ≤ cur.size ∧
      ∀ w' x, Blk w' g (putAt cur (off + k * sz) (enc x)) e → Own w' B e sz v n ((l.set k x).flatMap enc) := by
  subst hl
  obtain ⟨g, off, cap, cur, h1, h2, h3, h4, _, h6⟩ := h.put hsz hp k hk
  exact ⟨g, off, cap, cur, h1, h2, h3, h4, h6⟩
theorem upto' {n k : Nat} {P : ∀ i, i < n → Prop} (hp : ∀ i (h : i < n), i < k → P i h) (hlt : k < n) (hk : P k hlt) : ∀ i (h : i < n), i < k + 1 → P i h := by
  intro i h hi
  by_cases e : i = k
  · subst e; exact hk
  · exact hp i h (by omega)
theorem ne_at {α : Type} {l m : List α} (k : Nat) (h : k < l.length) (h' : k < m.length) (hne : l[k] ≠ m[k]) : l ≠ m := by rintro rfl; exact hne rfl
theorem all_eq {α : Type} {l m : List α} (hl : l.length = m.length) (k : Nat) (hk : ¬ k < l.length) (h : ∀ i (h : i < l.length), i < k → l[i] = m[i]'(by omega)) : l = m :=
  List.ext_getElem hl fun i h1 h2 => h i h1 (by omega)
theorem upto2 {α : Type} {l m : List α} (hl : l.length = m.length) {k : Nat} (hk : k < l.length) (h : ∀ i (h : i < l.length), i < k → l[i] = m[i]'(by omega)) (he : l[k] = m[k]'(by omega)) : ∀ i (h : i < l.length), i < k + 1 → l[i] = m[i]'(by omega) := by
  intro i h1 h2
  by_cases e : i = k
  · subst e; exact he
  · exact h i h1 (by omega)
theorem grown_but {a c : World} (h : a.grownBy c none) (row : Option Nat) : a.grownBy c row := ⟨h.os, h.tape, h.output, h.size, fun i hi _ => h.block i hi (by simp)⟩
theorem grown_then {a b c : World} {row : Option Nat} (h : a.grownBy b row) (k : b.grownBy c row) : a.grownBy c row :=
  World.grownBy.andThen h k (fun j hj => .inr hj)
theorem grown_alloc (w : World) (o : Obj) (row : Option Nat) : w.grownBy (w.alloc o) row := World.grownBy_alloc w o row
theorem own_stay {w w' : World} {B : Nat} {e : TypeId} {sz : Nat} {v : Value} {n : Nat} {xs : List Value} (h : Own w B e sz v n xs) (hg : w.grownBy w' none) : Own w' B e sz v n xs := h.grown hg (by simp)
theorem blk_stay {w w' : World} {b : Nat} {cs : Array Value} {T : TypeId} (h : Blk w b cs T) (hg : w.grownBy w' none) : Blk w' b cs T := h.grown hg (by simp)
/-- 'clear' of a slice whose block is known. -/
theorem run_clear_own {P : Program} (w : World) (t e ty : TypeId) (z : Value) (sz bytes : Nat) (ht : P.underlying t = some (.slice e)) (hi : (P.info? e).map (fun i => (i.zero, i.size, i.bytes)) = some (some z, sz, bytes)) (h1 : ∀ u ∈ z.cells.toList, u.oneCell' = true) (h0 : 0 < z.cells.size)
    (b o n c : Nat) (hn : 0 < n) (cur : Array Value) (T : TypeId) (hg : Blk w b cur T) (hfit : o + n * z.cells.size ≤ cur.size) :
    (Builtin.clear_ #[t] ty #[.slice (some ⟨b, o, none⟩) n c]).run P w = .ok (.tuple #[]) (w.setCells b o (Builtin.zeroCells z.cells n).toList) := by
  have hl : (Builtin.zeroCells z.cells n).toList.length = n * z.cells.size := by simp [Builtin.zeroCells]
  have hst := run_storeCells_cells (P := P) b o (Builtin.zeroCells z.cells n).toList 0 w
    (fun j hj => by rw [Nat.add_zero, hg.cell]; simp [show o + j < cur.size by omega]) (fun j hj => hg.free _)
    (fun v hv => by
      simp only [Builtin.zeroCells, Array.toList_map, List.mem_map] at hv
      obtain ⟨i, _, rfl⟩ := hv
      have : i % z.cells.size < z.cells.size := Nat.mod_lt _ h0
      rw [getElem!_pos z.cells _ this]
      exact h1 _ (by simp))
  simp only [Nat.add_zero] at hst
  obtain ⟨m, rfl⟩ : ∃ m, n = m + 1 := ⟨n - 1, by omega⟩
  have hv : ∀ w, (zeroValue e).run P w = .ok z w := by
    intro w
    cases hq : P.info? e with
    | none => simp [hq] at hi
    | some i =>
      have hz : i.zero = some z := by simp [hq] at hi; exact hi.1
      simp [zeroValue, typeInfo, run_program, hq, hz]
  simp [Builtin.clear_, run_underlying ht, hv, hst]
/-- The first elements of a slice of one's own, what lies behind them written over. -/
theorem own_takes {α : Type} {enc : α → List Value} {sz : Nat} (hsz : ∀ x, (enc x).length = sz) {w w' : World} {B : Nat} {e : TypeId} {l : List α} {g off cap n : Nat} {vs : List Value} (h : Own w B e sz (.slice (some ⟨g, off, none⟩) n cap) n (l.flatMap enc)) (i : Nat) (hl : l.length = n) (hi : i ≤ n)
    (hw : ∀ cur, Blk w g cur e → Blk w' g (putAt cur (off + i * sz) vs) e) : Own w' B e sz (.slice (some ⟨g, off, none⟩) (l.take i).length cap) (l.take i).length ((l.take i).flatMap enc) := by
  subst hl
  obtain ⟨hl, h⟩ := h
  rcases h with ⟨h1, _⟩ | ⟨g', off', cap', cur, hv, hB, hg, hc, hm, hs, ht⟩
  · cases h1
  · cases hv
    have hlen : (l.take i).length = i := by simp; omega
    refine ⟨by rw [flat_len enc sz hsz], .inr ⟨g, off, cap, _, rfl, hB, hw cur hg, by omega, hm, by rw [size_putAt]; exact hs, fun j u hj => ?_⟩⟩
    have hj' : j < i * sz := by
      rcases Nat.lt_or_ge j (i * sz) with h | h
      · exact h
      · rw [List.getElem?_eq_none (by rw [flat_len enc sz hsz, hlen]; exact h)] at hj
        cases hj
    rw [putAt_out _ _ _ _ (.inl (by omega))]
    refine ht j u ?_
    have hsplit : l.flatMap enc = (l.take i).flatMap enc ++ (l.drop i).flatMap enc := by rw [← List.flatMap_append, List.take_append_drop]
    rw [hsplit, List.getElem?_append_left (by rw [flat_len enc sz hsz, hlen]; exact hj')]
    exact hj
theorem absg {w : World} {X : Array Value} {TX : TypeId} (m : World → Prop) (h : ∀ W, w.grownBy W none → Below w.heap.size w W → Blk W w.heap.size X TX → m W) : m (w.alloc (.cells X TX)) :=
  h _ (grown_alloc _ _ _) ((Below.refl _ _).alloc (Nat.le_refl _) _) (Blk.new _ _ _)
/-- One cell of an element of a slice of one's own. -/
theorem own_cell {α : Type} {enc : α → List Value} {sz : Nat} (hsz : ∀ x, (enc x).length = sz) (hp : 0 < sz) {w : World} {B n : Nat} {e : TypeId} {v : Value} {l : List α} (hl : l.length = n) (h : Own w B e sz v n (l.flatMap enc)) (k : Nat) (hk : k < n) (j : Nat) (hj : j < sz) (u : Value) (x : α)
    (hx : enc x = (enc (l[k]'(by omega))).set j u) :
    ∃ g off cap, v = .slice (some ⟨g, off, none⟩) n cap ∧ B ≤ g ∧ g < w.heap.size ∧ (∃ cs, Blk w g cs e) ∧ (∀ i y, (enc (l[k]'(by omega)))[i]? = some y → w.cell? ⟨g, off + k * sz + i, none⟩ = some y) ∧ w.frozen? ⟨g, off + k * sz + j, none⟩ = false ∧
      Own (w.setCell ⟨g, off + k * sz + j, none⟩ u) B e sz v n ((l.set k x).flatMap enc) := by
  subst hl
  obtain ⟨g, off, cap, cur, h1, h2, h3, h4, h5, h6⟩ := h.put hsz hp k hk
  refine ⟨g, off, cap, h1, h2, h3.lt, ⟨_, h3⟩, h5, h3.free _, h6 _ x ?_⟩
  have he : putAt cur (off + k * sz) (enc x) = cur.setIfInBounds (off + k * sz + j) u := by
    apply Array.ext_getElem?
    intro i
    by_cases hi : off + k * sz ≤ i ∧ i < off + k * sz + sz
    · obtain ⟨m, rfl⟩ : ∃ m, i = off + k * sz + m := ⟨i - (off + k * sz), by omega⟩
      have hm : m < (enc x).length := by rw [hsz]; omega
      rw [putAt_in _ _ _ m (enc x)[m] (by rw [hsz]; omega) (List.getElem?_eq_getElem hm)]
      by_cases hmj : m = j
      · subst hmj
        rw [Array.getElem?_setIfInBounds_self_of_lt (by omega)]
        simp [hx]
      · rw [Array.getElem?_setIfInBounds_ne (by omega)]
        have hm' : m < (enc l[k]).length := by rw [hsz]; omega
        have := h5 m (enc l[k])[m] (List.getElem?_eq_getElem hm')
        rw [h3.cell] at this
        rw [this]
        simp [hx, List.getElem_set_ne (fun e => hmj e.symm)]
    · rw [putAt_out _ _ _ _ (by rw [hsz]; omega), Array.getElem?_setIfInBounds_ne (by omega)]
  rw [he]
  exact h3.setCell _ _
theorem cell_lt {w : World} {b o : Nat} {v : Value} (h : w.cell? ⟨b, o, none⟩ = some v) : b < w.heap.size := by
  rcases Nat.lt_or_ge b w.heap.size with h1 | h1
  · exact h1
  · simp [World.cell?, Array.getElem?_eq_none h1] at h
theorem abs2d {w : World} {X Y : Array Value} {TX TY : TypeId} (m : World → Prop) (h : ∀ W, Below w.heap.size w W → Blk W w.heap.size X TX → Blk W (w.heap.size + 1) Y TY → m W) : m (((w.alloc (.cells X TX)).alloc (.cells Y TY)).drew) :=
  h _ (below_drewN (((Below.refl _ _).alloc (Nat.le_refl _) _).alloc (le_alloc _ _) _) 1) ((Blk.new _ _ _).alloc _) (by have h1 := Blk.new (w.alloc (.cells X TX)) Y TY; have h2 : Blk ((w.alloc (.cells X TX)).alloc (.cells Y TY)) (w.heap.size + 1) Y TY := (by simpa using h1); exact h2)
theorem sized_field {P : Program} {t : TypeId} {fs : Array Field} (ht : P.underlying t = some (.struct fs)) {H : Type} {en : TypeId × Value → H} {w : World} {base : Nat} {spare : Nat → Bool} {held : Bool} {fuel : Nat} {cs : List Value} {x : DataW H × List MemPlace} (h : DataW.trod en P w base spare held fuel t cs = some x)
    (hw : ∀ n ∈ x.1.weights P t, n ≤ reachBytes) {i : Nat} {f : Field} (hf : fs[i]? = some f) {e : TypeId} (hu : P.underlying f.type = some (.slice e)) {a : Option Addr} {len cap : Nat} (hc : (cs.drop f.offset).take (P.cellsOf f.type) = [.slice a len cap]) : len * P.bytesOf e ≤ reachBytes := by
  obtain ⟨xs, n, _, hx, _, hn, hel⟩ := DataW.trod_struct ht h
  have h1 := hel i f hf
  rw [hc] at h1
  have hi : i < fs.size := by
    rcases Nat.lt_or_ge i fs.size with h | h
    · exact h
    · rw [Array.getElem?_eq_none h] at hf; cases hf
  have hix : i < xs.length := by omega
  rw [List.getElem?_eq_getElem hix] at h1
  rcases DataW.trod_slice hu h1 with ⟨h2, _⟩ | ⟨a', len', cap', elems, rest, _, _, h2, h3, _, _, _, h4, _⟩
  · cases h2; rw [Nat.zero_mul]; exact Nat.zero_le _
  · cases h2
    have h5 : (elems.length + rest.length) * P.bytesOf e ∈ (xs[i].1).weights P f.type := by
      rw [h3]
      simp [DataW.weights, hu]
    have h6 : (elems.length + rest.length) * P.bytesOf e ∈ x.1.weights P t := by
      rw [hx]
      simp only [DataW.weights, ht]
      refine DataW.weights_mem_each (j := i) (t := f.type) (d := xs[i].1) ?_ ?_ _ h5
      · simp [hf]
      · simp [hix]
    have h7 := hw _ h6
    rw [h4] at h7
    exact Nat.le_trans (Nat.mul_le_mul_right _ (Nat.le_add_right _ _)) h7
theorem sized_arg {H : Type} {P : Program} {ts : List TypeId} {ds : List (DataW H)} (h : (DataW.weightsEach P ts ds).all (· ≤ reachBytes) = true) (j : Nat) {t : TypeId} {d : DataW H} (ht : ts[j]? = some t) (hd : ds[j]? = some d) : ∀ n ∈ d.weights P t, n ≤ reachBytes := by
  intro n hn
  simpa using List.all_eq_true.1 h n (DataW.weights_mem_each ht hd n hn)
theorem reach47 : reachBytes ≤ 140737488355328 := by decide
theorem wpList_insert_own {H : Type} {P : Program} (w : World) {ops : Array Oper} {rest : List Oper} {o : Oper} {a : Act} {Q : Exit → Act → World → Prop}
    (hg : o.guard = none) (m x v : Operand) (t : TypeId) (hop : o.op = Op.insert t m x v)
    (k e : TypeId) (K : Keyed P k) (ht : P.underlying t = some (.map k e)) (R : Value → Option (DataW H × List MemPlace)) (b n : Nat) (D : DataW H)
    (hm : a.eval m = .map (some b)) (hown : w.ownsMap P k R b n D) (hn : n < maxLen) (key val : Value) (kl : Lit) (hx : a.eval x = key) (hv : a.eval v = val) (hkey : keyOf P k key = some kl)
    (d : DataW H) (ps : List MemPlace) (hval : R val = some (d, ps))
    (hK : ∀ w', w'.ownsMap P k R b (n + 1) (D.put kl d) → w.grownBy w' (some b) → wpList P ops Q rest (a.put o.dst undef) w') :
    wpList P ops Q (o :: rest) a w := by
  refine wpList_plain hg fun K' hK' => ?_
  obtain ⟨w', hrun, r1, r2⟩ := hown.update K ht hn hkey hval
  unfold Oper.wp
  simp [execOp, hop, hm, hx, hv, hrun, Result.andThen]
  exact hK' _ _ (hK w' r1 r2)
theorem owns_below {H : Type} {P : Program} {w w' : World} {k : TypeId} {R : Value → Option (DataW H × List MemPlace)} {b n : Nat} {D : DataW H} (h : w.ownsMap P k R b n D) (hb : Below w.heap.size w w') : w'.ownsMap P k R b n D := by
  have hl := h.lt
  obtain ⟨es, clock, h1, r⟩ := h
  exact ⟨es, clock, (hb.block b hl).trans h1, r⟩
end Go.Proofs.Ytmdnmknmniabeaa
