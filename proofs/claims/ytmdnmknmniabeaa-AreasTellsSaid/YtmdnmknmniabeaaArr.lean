/- Arrays by value whose cells nobody looks into: loaded, indexed, stored. -/
import Derived.Test.YtmdnmknmniabeaaGen
import Derived.Test.YtmdnmknmniabeaaGrowC
namespace Pw
open Go Go.ChangeShapes Go.WideShapes Go.ChangeAt Go.RowKit
set_option linter.unusedSimpArgs false
set_option linter.unusedVariables false

/-- An element of an array by value: of one cell. -/
theorem run_index_cell {P : Program} {t e : TypeId} {n : Nat} {d : TypeDesc} (ht : P.underlying t = some (.array n e)) (he : P.underlying e = some d) (hd : (∀ m f, d ≠ .array m f) ∧ (∀ fs, d ≠ .struct fs)) (hs : (P.info? e).map (·.size) = some 1)
    (cs : Array Value) (k : Nat) (v : Value) (hk : k < n) (hv : cs[k]? = some v) (kk : IntKind) (w : World) : (Instr.index t (.agg cs) (.int kk k)).run P w = .ok v w := by
  have hsz : ∀ w, (Go.sizeOf e).run P w = .ok 1 w := by
    intro w
    cases hq : P.info? e with
    | none => simp [hq] at hs
    | some i =>
      have hz : i.size = 1 := by simpa [hq] using hs
      simp [Go.sizeOf, typeInfo, run_program, hq, hz]
  have ha : ∀ w, (isAgg e).run P w = .ok false w := by
    intro w
    unfold isAgg
    simp [run_underlying he]
    cases d <;> simp_all
  simp [Instr.index, part, asIntOf, run_underlying ht, hsz, hk, ha, hv, go_sem]
theorem sl_desc {e : TypeId} : (∀ m f, TypeDesc.slice e ≠ .array m f) ∧ (∀ fs, TypeDesc.slice e ≠ .struct fs) := ⟨fun _ _ h => (by cases h), fun _ h => (by cases h)⟩
def aggB : TypeDesc → Bool
  | .struct _ => true
  | .array _ _ => true
  | _ => false
/-- A struct, or an array, loaded from where its cells can be read. -/
theorem run_loadVar_rd {P : Program} {w : World} {ty : TypeId} {b off : Nat} {vs : List Value} {d : TypeDesc} (hrd : RdV w (some ⟨b, off, none⟩) vs)
    (hu : P.underlying ty = some d) (hd : aggB d = true) (hi : (P.info? ty).map (·.size) = some vs.length) :
    (loadVar ty ⟨b, off, none⟩).run P w = .ok (.agg vs.toArray) w := by
  have hl : (loadCells ⟨b, off, none⟩ vs.length).run P w = .ok vs.toArray w :=
    run_loadCells_list (P := P) w ⟨b, off, none⟩ vs (fun j v hv => by
      obtain ⟨b', off', h1, h2⟩ := hrd.at (by
        rcases Nat.lt_or_ge 0 vs.length with h | h
        · exact h
        · rw [List.getElem?_eq_none (by omega)] at hv; cases hv)
      cases h1
      have hadd : (⟨b, off, none⟩ : Addr).add j = ⟨b, off + j, none⟩ := by unfold Addr.add; split <;> simp_all
      rw [hadd]
      exact h2 j v hv)
  cases hq : P.info? ty with
  | none => simp [hq] at hi
  | some i =>
    have hs : i.size = vs.length := by simpa [hq] using hi
    have hagg : (isAgg ty).run P w = .ok true w := by
      unfold isAgg
      rw [Sem.run_bind, run_underlying hu w]
      cases d <;> simp_all [aggB]
    simp [loadVar, Sem.run_bind, hagg, Go.sizeOf, typeInfo, hq, hs, hl]
theorem wpList_ld {P : Program} {ops : Array Oper} {rest : List Oper} {o : Oper} {a : Act} {w : World} {Q : Exit → Act → World → Prop} (hgd : o.guard = none) (ty : TypeId) (x : Operand) (ho : o.op = .load ty x)
    (b off : Nat) (hx : a.eval x = .pointer (some ⟨b, off, none⟩)) (vs : List Value) (hrd : RdV w (some ⟨b, off, none⟩) vs) (d : TypeDesc)
    (hu : P.underlying ty = some d) (hd : aggB d = true) (hi : (P.info? ty).map (·.size) = some vs.length)
    (h : wpList P ops Q rest (a.put o.dst (.agg vs.toArray)) w) : wpList P ops Q (o :: rest) a w :=
  wpList_plain hgd fun K hK => by
    unfold Oper.wp execOp
    simp only [ho, hx, Instr.loadAt, Instr.sureAddr, Sem.run_bind, Sem.run_pure, Result.andThen_ok, run_loadVar_rd hrd hu hd hi]
    exact hK _ _ h
theorem Blk.rd {w : World} {b : Nat} {cs : Array Value} {T : TypeId} (h : Blk w b cs T) : RdV w (some ⟨b, 0, none⟩) cs.toList := by
  intro i u hi
  exact ⟨b, 0, rfl, by rw [h.cell, Nat.zero_add]; simpa using hi⟩
/-- A store of any value into a part of a block. -/
theorem wpList_stv {P : Program} {w : World} {ops : Array Oper} {rest : List Oper} {op : Oper} {a : Act} {Q : Exit → Act → World → Prop} (hgd : op.guard = none) (ty : TypeId) (x y : Operand) (ho : op.op = .store ty x y)
    (b o : Nat) (v : Value) (cells : List Value) (hx : a.eval x = .pointer (some ⟨b, o, none⟩)) (hy : a.eval y = v) (hc : v.cells.toList = cells) (cur : Array Value) (T : TypeId) (hg : Blk w b cur T)
    (hfit : o + cells.length ≤ cur.size) (hi : (P.info? ty).map (·.size) = some cells.length) (h1 : ∀ u ∈ cells, u.oneCell' = true)
    (h : ∀ w', Blk w' b (putAt cur o cells) T → w.grownBy w' (some b) → wpList P ops Q rest (a.put op.dst undef) w') : wpList P ops Q (op :: rest) a w :=
  wpList_plain hgd fun K hK => by
    have hst := run_storeCells_cells (P := P) b o cells 0 w
      (fun j hj => by rw [Nat.add_zero, hg.cell]; simp [show o + j < cur.size by omega]) (fun j hj => hg.free _) h1
    simp only [Nat.add_zero] at hst
    have hsv : (storeVar ty ⟨b, o, none⟩ v).run P w = .ok () (w.setCells b o cells) := by
      cases hq : P.info? ty with
      | none => simp [hq] at hi
      | some i =>
        have hs : i.size = cells.length := by simpa [hq] using hi
        have hv : v.cells.size = cells.length := by rw [← hc]; simp
        simp [storeVar, Go.sizeOf, typeInfo, hq, hs, hv, hc, hst]
    unfold Oper.wp execOp
    simp only [ho, hx, hy, Instr.storeAt, Instr.sureAddr, Sem.run_bind, Sem.run_pure, Result.andThen_ok, hsv]
    exact hK _ _ (h _ (hg.setCells _ _) (grownBy_setCells _ _ _ _))
theorem putAt_one (cur : Array Value) (o : Nat) (v : Value) : putAt cur o [v] = cur.setIfInBounds o v := rfl
/-- Results of which the first lies in a cell. -/
theorem results_ct {P : Program} {fn : Func} {p q : Tmp} {ty : TypeId} (h : fn.results = #[.cell p ty, .tmp q]) (tmps : Array Value) (w : World) (g : Nat) (t : TypeId) (cs : Array Value) (d : TypeDesc) (v : Value)
    (hp : tmps.getD p undef = .pointer (some ⟨g, 0, none⟩)) (hv : tmps.getD q undef = v) (hg : Blk w g cs t) (hu : P.underlying ty = some d) (hd : aggB d = true) (hi : (P.info? ty).map (·.size) = some cs.size) :
    (results fn tmps).run P w = .ok (.tuple #[.agg cs, v]) w := by
  have hp' : tmps[p]?.getD undef = .pointer (some ⟨g, 0, none⟩) := by simpa using hp
  have hl := run_loadVar_rd (P := P) hg.rd hu hd (by rw [Array.length_toList]; exact hi)
  have hv' : tmps[q]?.getD undef = v := by simpa using hv
  simp [results, h, hp', hv', asAddr, hl]
theorem results_ctt {P : Program} {fn : Func} {p q r : Tmp} {ty : TypeId} (h : fn.results = #[.cell p ty, .tmp q, .tmp r]) (tmps : Array Value) (w : World) (g : Nat) (t : TypeId) (cs : Array Value) (d : TypeDesc) (v u : Value)
    (hp : tmps.getD p undef = .pointer (some ⟨g, 0, none⟩)) (hv : tmps.getD q undef = v) (hu' : tmps.getD r undef = u) (hg : Blk w g cs t) (hu : P.underlying ty = some d) (hd : aggB d = true) (hi : (P.info? ty).map (·.size) = some cs.size) :
    (results fn tmps).run P w = .ok (.tuple #[.agg cs, v, u]) w := by
  have hp' : tmps[p]?.getD undef = .pointer (some ⟨g, 0, none⟩) := by simpa using hp
  have hl := run_loadVar_rd (P := P) hg.rd hu hd (by rw [Array.length_toList]; exact hi)
  have hv' : tmps[q]?.getD undef = v := by simpa using hv
  have hu'' : tmps[r]?.getD undef = u := by simpa using hu'
  simp [results, h, hp', hv', hu'', asAddr, hl]
theorem results_c {P : Program} {fn : Func} {p : Tmp} {ty : TypeId} (h : fn.results = #[.cell p ty]) (tmps : Array Value) (w : World) (g : Nat) (t : TypeId) (cs : Array Value) (d : TypeDesc)
    (hp : tmps.getD p undef = .pointer (some ⟨g, 0, none⟩)) (hg : Blk w g cs t) (hu : P.underlying ty = some d) (hd : aggB d = true) (hi : (P.info? ty).map (·.size) = some cs.size) :
    (results fn tmps).run P w = .ok (.agg cs) w := by
  have hp' : tmps[p]?.getD undef = .pointer (some ⟨g, 0, none⟩) := by simpa using hp
  have hl := run_loadVar_rd (P := P) hg.rd hu hd (by rw [Array.length_toList]; exact hi)
  simp [results, h, hp', asAddr, hl]
/-- First of these that is not nought. -/
def firstE : List Int → Int
  | [] => 0
  | x :: r => if x = 0 then firstE r else x
theorem firstE_none {l : List Int} (h : ∀ i (hi : i < l.length), l[i] = 0) : firstE l = 0 := by
  induction l with
  | nil => rfl
  | cons x r ih =>
    have h0 := h 0 (by simp)
    simp at h0
    simp only [firstE, h0, if_true]
    exact ih fun i hi => by have := h (i + 1) (by simpa using hi); simpa using this
theorem firstE_at {l : List Int} (k : Nat) (hk : k < l.length) (h : ∀ i (hi : i < l.length), i < k → l[i] = 0) (hne : l[k] ≠ 0) : firstE l = l[k] := by
  induction l generalizing k with
  | nil => simp at hk
  | cons x r ih =>
    cases k with
    | zero => simp at hne; simp [firstE, hne]
    | succ k =>
      have h0 := h 0 (by simp) (by omega)
      simp at h0
      simp only [firstE, h0, if_true, List.getElem_cons_succ]
      exact ih k (by simpa using hk) (fun i hi hik => by have := h (i + 1) (by simpa using hi) (by omega); simpa using this) (by simpa using hne)
end Pw
