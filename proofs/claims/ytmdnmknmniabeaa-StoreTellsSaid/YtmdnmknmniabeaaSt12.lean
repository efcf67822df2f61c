/- Appends to slices of the call's own in regions that draw their order. -/
import Derived.Test.YtmdnmknmniabeaaSt7
import Derived.Test.YtmdnmknmniabeaaGrowY
import Derived.Test.YtmdnmknmniabeaaGrow2
import Derived.Test.YtmdnmknmniabeaaGrowC
namespace Go.Proofs.Ytmdnmknmniabeaa
open Go.RowKit Go.Maps Pw
set_option linter.unusedSimpArgs false
set_option linter.unusedVariables false

/-- As asked_app; and where nothing is appended, the empty slice itself comes back. -/
theorem asked_app0 {P : Program} {ops : Array Oper} {ρ : Operand → Value} {o : Oper} {w : World} {l : List Rel} {i : Nat} (s x : Operand) (t : TypeId) (ho : o.op = Op.call { callee := Callee.builtin Builtin.append, args := #[s, x], argTypes := #[t, t] }) (hw : Region.wanted o (says ρ ops) = true)
    (B : Nat) (e : TypeId) (z : Value) (size bytes : Nat) (h1 : P.underlying t = some (.slice e)) (h2 : (P.info? e).map (fun i => (i.zero, i.size, i.bytes)) = some (some z, size, bytes)) (h6 : z.cells.size = size) (h7 : 0 < size)
    (g : Nat) (hs : ρ s = .slice (some ⟨g, 0, none⟩) 0 0) (hown : Own w B e size (.slice (some ⟨g, 0, none⟩) 0 0) 0 [])
    (ao : Option Addr) (m c : Nat) (news : List Value) (hx : ρ x = .slice ao m c) (hnone : ao = none → c = 0) (hmc : m ≤ c) (hn : news.length = m * size) (hrd : RdV w ao news)
    (b1 : m ≤ maxLen) (b2 : m * bytes ≤ 140737488355328) (hB : B ≤ w.heap.size)
    (hR : ∀ v' w', Below w.heap.size w w' → Own w' B e size v' m news → (m = 0 → v' = .slice (some ⟨g, 0, none⟩) 0 0) → rl l i v' w') :
    if Region.wanted o (says ρ ops) = true then GivesR P o ρ w (fun v w' => Below w.heap.size w w' ∧ rl l i v w') else rl l i undef w := by
  obtain ⟨ii, hi, hz, hsz, hby⟩ := info_parts h2
  rcases Nat.eq_zero_or_pos m with h0 | h0
  · subst h0
    obtain rfl : news = [] := List.eq_nil_of_length_eq_zero (by simpa using hn)
    refine asked_new (.slice (some ⟨g, 0, none⟩) 0 0) hw ?_ (Below.refl _ _) (hR _ _ (Below.refl _ _) hown (fun _ => rfl))
    cases ao with
    | none => simp [execOp, ho, resolve, invoke, builtin, hs, hx, Builtin.append_, run_underlying h1, Go.sizeOf, typeInfo, hi, Builtin.lenOf, Builtin.firstCells, storeCells, Result.andThen]
    | some ad => simp [execOp, ho, resolve, invoke, builtin, hs, hx, Builtin.append_, run_underlying h1, Go.sizeOf, typeInfo, hi, Builtin.lenOf, Builtin.firstCells, storeCells, loadCells, loadCellsFrom, Result.andThen]
  · obtain ⟨b, off, rfl, hc⟩ := hrd.at (by rw [hn]; exact Nat.mul_pos h0 h7)
    obtain ⟨v', w', hr, how, hgr⟩ := run_append_arg_grows (P := P) w t o.type e ii z size bytes h1 hi hz hsz hby h6 h7 ⟨g, 0, none⟩ 0 0 [] (by simp) (fun j u h => by simp at h) ⟨b, off, none⟩ m c news hn (fun j u hj => by rw [Addr.add_lit]; exact hc j u hj) (by omega) (by omega) (by rw [Nat.zero_add]; exact b2)
    have ho' : Own w' B e size v' m news := by
      have := (Own.of_owns how).mono hB
      simpa using this
    refine asked_new v' hw ?_ (grown_below hgr) (hR _ _ (grown_below hgr) ho' (fun h => by omega))
    simp [execOp, ho, resolve, invoke, builtin, hs, hx, hr, Result.andThen]
/-- Append to a slice of one's own that is not nil: it grows, or the room behind it is written. -/
theorem run_app2 {P : Program} {ρ : Operand → Value} {o : Oper} {w : World} (s x : Operand) (t : TypeId) (hop : o.op = Op.call { callee := Callee.builtin Builtin.append, args := #[s, x], argTypes := #[t, t] })
    (B : Nat) (e : TypeId) (z : Value) (size bytes : Nat) (h1 : P.underlying t = some (.slice e)) (h2 : (P.info? e).map (fun i => (i.zero, i.size, i.bytes)) = some (some z, size, bytes)) (h6 : z.cells.size = size) (h7 : 0 < size)
    (g off cap n : Nat) (cur : Array Value) (xs : List Value) (hs : ρ s = .slice (some ⟨g, off, none⟩) n cap) (hl : xs.length = n * size) (hBg : B ≤ g) (hk : Blk w g cur e) (hc : n ≤ cap) (hm : cap ≤ maxLen) (hsize : off + cap * size ≤ cur.size) (hcell : ∀ j u, xs[j]? = some u → cur[off + j]? = some u)
    (ad : Addr) (m c : Nat) (news : List Value) (hx : ρ x = .slice (some ad) m c) (hn : news.length = m * size) (hrd : RdV w (some ad) news) (h1c : ∀ u ∈ news, u.oneCell' = true)
    (b1 : n + m ≤ maxLen) (b2 : (n + m) * bytes ≤ 140737488355328) (hB : B ≤ w.heap.size) :
    ∃ v' w', (execOp ρ o).run P w = .ok (.value v') w' ∧ Own w' B e size v' (n + m) (xs ++ news) ∧ (w.grownBy w' none ∨ (n + m ≤ cap ∧ w' = w.setCells g (off + n * size) news)) := by
  obtain ⟨i, hi, hz, hsz, hby⟩ := info_parts h2
  have hnews : ∀ j u, news[j]? = some u → w.cell? (ad.add j) = some u := by
    intro j u hj
    obtain ⟨b, off, e', hc⟩ := hrd j u hj
    cases e'
    rw [Addr.add_lit]; exact hc
  have hcap : n * size ≤ cap * size := Nat.mul_le_mul_right _ hc
  rcases Nat.lt_or_ge cap (n + m) with hr | hr
  · obtain ⟨v', w', hrun, r1, r2⟩ := run_append_arg_grows (P := P) w t o.type e i z size bytes h1 hi hz hsz hby h6 h7 ⟨g, off, none⟩ n cap xs hl (fun j u hj => by rw [Addr.add_lit, hk.cell]; exact hcell j u hj) ad m c news hn hnews hr b1 b2
    refine ⟨v', w', ?_, (Own.of_owns r1).mono hB, .inl r2⟩
    simp [execOp, hop, resolve, invoke, builtin, hs, hx, hrun, Result.andThen]
  · have h3 : (n + m) * size ≤ cap * size := Nat.mul_le_mul_right _ hr
    rw [Nat.add_mul] at h3
    have hrun := run_append_room_cells (P := P) w t o.type e i h1 hi g off n cap ad m c news (by rw [hsz]; exact hn) hnews h1c hr (fun j hj => by rw [hsz, hk.cell]; simp [show off + n * size + j < cur.size by omega]) (fun j hj => hk.free _)
    rw [hsz] at hrun
    refine ⟨_, _, ?_, ⟨by rw [List.length_append, hl, hn, Nat.add_mul], .inr ⟨g, off, cap, _, rfl, hBg, hk.setCells news (off + n * size), hr, hm, by rw [size_putAt]; exact hsize, fun j u hj => ?_⟩⟩, .inr ⟨hr, rfl⟩⟩
    · simp [execOp, hop, resolve, invoke, builtin, hs, hx, hrun, Result.andThen]
    · by_cases hjl : j < xs.length
      · rw [List.getElem?_append_left hjl] at hj
        rw [putAt_out _ _ _ _ (.inl (by omega))]; exact hcell j u hj
      · rw [List.getElem?_append_right (by omega)] at hj
        have := putAt_in news cur (off + n * size) (j - xs.length) u (by omega) hj
        rwa [show off + n * size + (j - xs.length) = off + j by omega] at this
theorem askY_app2 {P : Program} {ops : Array Oper} {ρ : Operand → Value} {o : Oper} {w : World} {F : Value → World → Prop} (s x : Operand) (t : TypeId) (hop : o.op = Op.call { callee := Callee.builtin Builtin.append, args := #[s, x], argTypes := #[t, t] }) (hw : Region.wanted o (says ρ ops) = true)
    (B : Nat) (e : TypeId) (z : Value) (size bytes : Nat) (h1 : P.underlying t = some (.slice e)) (h2 : (P.info? e).map (fun i => (i.zero, i.size, i.bytes)) = some (some z, size, bytes)) (h6 : z.cells.size = size) (h7 : 0 < size)
    (g off cap n : Nat) (cur : Array Value) (xs : List Value) (hs : ρ s = .slice (some ⟨g, off, none⟩) n cap) (hl : xs.length = n * size) (hBg : B ≤ g) (hk : Blk w g cur e) (hc : n ≤ cap) (hm : cap ≤ maxLen) (hsize : off + cap * size ≤ cur.size) (hcell : ∀ j u, xs[j]? = some u → cur[off + j]? = some u)
    (ad : Addr) (m c : Nat) (news : List Value) (hx : ρ x = .slice (some ad) m c) (hn : news.length = m * size) (hrd : RdV w (some ad) news) (h1c : ∀ u ∈ news, u.oneCell' = true)
    (b1 : n + m ≤ maxLen) (b2 : (n + m) * bytes ≤ 140737488355328) (hB : B ≤ w.heap.size) {G : Prop}
    (hF : ∀ v' w', Own w' B e size v' (n + m) (xs ++ news) → (w.grownBy w' none ∨ (n + m ≤ cap ∧ w' = w.setCells g (off + n * size) news)) → F v' w') :
    if Region.wanted o (says ρ ops) = true then GivesR P o ρ w F else G := by
  rw [if_pos hw]
  obtain ⟨v', w', hrun, h3, h4⟩ := run_app2 s x t hop B e z size bytes h1 h2 h6 h7 g off cap n cur xs hs hl hBg hk hc hm hsize hcell ad m c news hx hn hrd h1c b1 b2 hB
  unfold GivesR
  rw [hrun]
  exact hF _ _ h3 h4
theorem askY_val {P : Program} {ops : Array Oper} {ρ : Operand → Value} {o : Oper} {w : World} {F : Value → World → Prop} {G : Prop} (v : Value) (hw : Region.wanted o (says ρ ops) = true) (hrun : (execOp ρ o).run P w = .ok (.value v) w) (hF : F v w) : if Region.wanted o (says ρ ops) = true then GivesR P o ρ w F else G := by
  rw [if_pos hw]
  unfold GivesR
  rw [hrun]
  exact hF
/-- Files of the call's own: where there is room behind them, the block is larger than one file. -/
def filsR (B n : Nat) (vs : List Value) : Rel := ⟨fun v w => ∃ g off cap cur, v = .slice (some ⟨g, off, none⟩) n cap ∧ B ≤ g ∧ Blk w g cur 61 ∧ n ≤ cap ∧ cap ≤ maxLen ∧ off + cap * 2 ≤ cur.size ∧ (n < cap → 2 < cur.size) ∧ vs.length = n * 2 ∧ ∀ j u, vs[j]? = some u → cur[off + j]? = some u,
  fun _ _ _ hb ⟨g, off, cap, cur, h1, h2, h3, h4⟩ => ⟨g, off, cap, cur, h1, h2, h3.ext hb, h4⟩⟩
/-- One file in a block of its own. -/
def onfR (cs : Array Value) : Rel := ⟨fun v w => ∃ g, v = .slice (some ⟨g, 0, none⟩) 1 1 ∧ Blk w g cs 61, fun _ _ _ hb ⟨g, h1, h2⟩ => ⟨g, h1, h2.ext hb⟩⟩
def bldY (k : Int) : RelY := ⟨fun y _ => y 9 = .agg #[y 6, .int .i64 k], [9, 6], fun _ _ _ _ h => h, fun y y' w h h1 => by rw [← h 9 (by simp), ← h 6 (by simp)]; exact h1⟩
def stoY (b : Nat) (k : Int) : RelY := ⟨fun y w => Blk w b #[y 6, .int .i64 k] 47, [6], fun _ _ _ hb h => h.ext hb, fun y y' w h h1 => by rw [← h 6 (by simp)]; exact h1⟩
/-- The ground: the store by value, and room for the result. -/
def crB (w : World) (v : Value) (k : Int) : World → Prop := fun W => Below w.heap.size w W ∧ Blk W w.heap.size #[v, .int .i64 k] 47 ∧ ∃ cur, Blk W (w.heap.size + 1) cur 47 ∧ cur.size = 2
theorem crB_next {w : World} {v : Value} {k : Int} : ∀ W W', Below W.heap.size W W' → crB w v k W → crB w v k W' := fun W W' hb ⟨h1, h2, cur, h3, h4⟩ => ⟨below_next h1 hb, h2.ext hb, cur, h3.ext hb, h4⟩
theorem filsR.of {B n : Nat} {vs : List Value} {v : Value} {w : World} {g : Nat} (h : Own w B 61 2 v n vs) (h0 : n = 0 → v = .slice (some ⟨g, 0, none⟩) 0 0) : (filsR B n vs).r v w := by
  obtain ⟨hl, ⟨rfl, rfl⟩ | ⟨g', off, cap, cur, rfl, hBg, hk, hc, hm, hs, ht⟩⟩ := h
  · cases h0 rfl
  · refine ⟨g', off, cap, cur, rfl, hBg, hk, hc, hm, hs, fun hlt => ?_, hl, ht⟩
    have : n ≠ 0 := by
      rintro rfl
      have := h0 rfl
      simp only [Value.slice.injEq] at this
      omega
    omega
theorem empty_keep {w w' : World} {B g g3 : Nat} {T : TypeId} {sz : Nat} {cur cur' : Array Value} (h : Own w B T sz (.slice (some ⟨g, 0, none⟩) 0 0) 0 []) (hk : Blk w g3 cur T) (hgr : w.grownBy w' (some g3)) (hk' : Blk w' g3 cur' T) : Own w' B T sz (.slice (some ⟨g, 0, none⟩) 0 0) 0 [] := by
  obtain ⟨hl, ⟨h1, _⟩ | ⟨g', off, cap, c, hv, hBg, hb, hc, hm, hs, ht⟩⟩ := h
  · cases h1
  · cases hv
    by_cases e : g = g3
    · subst e
      exact ⟨by simp, .inr ⟨g, 0, 0, cur', rfl, hBg, hk', Nat.le_refl _, Nat.zero_le _, by simp, fun j u h => by simp at h⟩⟩
    · exact ⟨by simp, .inr ⟨g, 0, 0, c, rfl, hBg, hb.grown hgr (fun e2 => e (Option.some.inj e2).symm), hc, hm, hs, ht⟩⟩
theorem onf_keep {w w' : World} {cs : Array Value} {v : Value} {g3 : Nat} {cur : Array Value} (hsz : cs.size = 2) (hk : Blk w g3 cur 61) (h2 : 2 < cur.size) (hgr : w.grownBy w' (some g3)) (h : (onfR cs).r v w) : (onfR cs).r v w' := by
  obtain ⟨g, h1, hb⟩ := h
  refine ⟨g, h1, hb.grown hgr (fun e => ?_)⟩
  cases Option.some.inj e
  unfold Blk at hk hb
  rw [hk] at hb
  simp only [Option.some.injEq, Obj.cells.injEq] at hb
  rw [hb.1] at h2
  omega
end Go.Proofs.Ytmdnmknmniabeaa
