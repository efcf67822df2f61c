/- The document's WrongArea, span, Areas. -/
import Derived.Test.YtmdnmknmniabeaaAo
namespace Go.Proofs.Ytmdnmknmniabeaa
open Go.RowKit Pw
set_option linter.unusedSimpArgs false
set_option linter.unusedVariables false

set_option maxHeartbeats 4000000 in
set_option maxRecDepth 100000 in
theorem warea_any (a : Ar) (w : World) : Calls Try.prog 69 #[.agg (arC a)] w fun r w' => r = .returned (.int .i64 (areaE a)) ∧ Below w.heap.size w w' := by
  unfold arC
  go_enter Try.func69, Try.ntmps69
  go_upto_region 1 with (fail)
  refine abs1 (fun W => Code.wp _ _ _ _ W) fun W0 hb0 hx0 hs0 => ?_
  clear hs0
  have hcx := hx0.cell
  by_cases g1 : a.fr < 0
  · have hz : Hid (areaE a = 3) := Lib.hid (by unfold areaE; rw [if_pos (by omega)])
    go_wp2
    go_ret
    exact ⟨ret_int hz.out.symm, hb0⟩
  · by_cases g2 : 64 < a.en
    · have hz : Hid (areaE a = 3) := Lib.hid (by unfold areaE; rw [if_pos (by omega)])
      go_wp2
      go_ret
      exact ⟨ret_int hz.out.symm, hb0⟩
    · by_cases g3 : a.en ≤ a.fr
      · have hz : Hid (areaE a = 3) := Lib.hid (by unfold areaE; rw [if_pos (by omega)])
        go_wp2
        go_ret
        exact ⟨ret_int hz.out.symm, hb0⟩
      · by_cases g4 : a.fi < -1
        · have hz : Hid (areaE a = 3) := Lib.hid (by unfold areaE; rw [if_pos (by omega)])
          go_wp2
          go_ret
          exact ⟨ret_int hz.out.symm, hb0⟩
        · by_cases g5 : 4 < a.fi
          · have hz : Hid (areaE a = 3) := Lib.hid (by unfold areaE; rw [if_pos (by omega)])
            go_wp2
            go_ret
            exact ⟨ret_int hz.out.symm, hb0⟩
          · by_cases g6 : a.ba < 0
            · have hz : Hid (areaE a = 3) := Lib.hid (by unfold areaE; rw [if_pos (by omega)])
              go_wp2
              go_ret
              exact ⟨ret_int hz.out.symm, hb0⟩
            · have hn1 : ¬ (a.fr < 0 ∨ a.en ≤ a.fr ∨ 64 < a.en ∨ a.fi < -1 ∨ 5 ≤ a.fi ∨ a.ba < 0) := by omega
              have hw1 : IntKind.i64.wrap (a.en - a.fr) = a.en - a.fr := IntWalk.i64_in _ (by omega)
              have hw2 : IntKind.i64.wrap (12 - (a.en - a.fr)) = 12 - (a.en - a.fr) := IntWalk.i64_in _ (by omega)
              by_cases f1 : a.fi = -1
              · have f1' : (a.fi == -1) = true := by simpa using f1
                by_cases f2 : a.ba = 0
                · have f2' : ¬ 0 < a.ba := by omega
                  cases f3 : a.sh
                  · have hz : Hid (areaE a = 0) := Lib.hid (by unfold areaE; rw [if_neg hn1, if_neg (by rw [f3]; simp; omega)])
                    have f4 : ¬ 0 ≤ a.fi := by omega
                    clear hn1 f1 f2
                    rw [f3] at hcx
                    go_wp2
                    go_ret
                    exact ⟨ret_int hz.out.symm, hb0⟩
                  · have hz : Hid (areaE a = 7) := Lib.hid (by unfold areaE; rw [if_neg hn1, if_pos (.inl ⟨by omega, .inr f3⟩)])
                    clear hn1 f1 f2
                    rw [f3] at hcx
                    go_wp2
                    go_ret
                    exact ⟨ret_int hz.out.symm, hb0⟩
                · have hz : Hid (areaE a = 7) := Lib.hid (by unfold areaE; rw [if_neg hn1, if_pos (.inl ⟨by omega, .inl f2⟩)])
                  have f2' : 0 < a.ba := by omega
                  clear hn1 f1 f2
                  go_wp2
                  go_ret
                  exact ⟨ret_int hz.out.symm, hb0⟩
              · have f1' : 0 ≤ a.fi := by omega
                have f1'' : (a.fi == -1) = false := by simpa using f1
                by_cases f2 : 12 - (a.en - a.fr) < a.ba
                · have hz : Hid (areaE a = 7) := Lib.hid (by unfold areaE; rw [if_neg hn1, if_pos (.inr ⟨f1', f2⟩)])
                  clear hn1 f1
                  go_wp2
                  go_ret
                  exact ⟨ret_int hz.out.symm, hb0⟩
                · have hz : Hid (areaE a = 0) := Lib.hid (by unfold areaE; rw [if_neg hn1, if_neg (by omega)])
                  clear hn1 f1
                  go_wp2
                  go_ret
                  exact ⟨ret_int hz.out.symm, hb0⟩
theorem rspan_any (s n : Int) (w : World) (hs : -9223372036854775808 ≤ s ∧ s ≤ 9223372036854775807) :
    Calls Try.prog 82 #[.int .i64 s, .int .i64 n] w fun r w' => r = .returned (.bool (decide (spanE s n = 0))) ∧ w = w' := by
  go_enter Try.func82, Try.ntmps82
  by_cases h1 : 0 ≤ s
  · by_cases h2 : s < 64
    · by_cases h3 : 1 ≤ n
      · have hw : IntKind.i64.wrap (64 - s) = 64 - s := IntWalk.i64_in _ (by omega)
        by_cases h4 : n ≤ 64 - s
        · have hz := Lib.hid (show decide (spanE s n = 0) = true from decide_eq_true (span_iff.2 (by omega)))
          go_wp2
          go_ret
          exact ⟨ret_bool hz.out.symm, rfl⟩
        · have hz := Lib.hid (show decide (spanE s n = 0) = false from decide_eq_false (fun h => by have := span_iff.1 h; omega))
          go_wp2
          go_ret
          exact ⟨ret_bool hz.out.symm, rfl⟩
      · have hz := Lib.hid (show decide (spanE s n = 0) = false from decide_eq_false (fun h => by have := span_iff.1 h; omega))
        go_wp2
        go_ret
        exact ⟨ret_bool hz.out.symm, rfl⟩
    · have hz := Lib.hid (show decide (spanE s n = 0) = false from decide_eq_false (fun h => by have := span_iff.1 h; omega))
      go_wp2
      go_ret
      exact ⟨ret_bool hz.out.symm, rfl⟩
  · have hz := Lib.hid (show decide (spanE s n = 0) = false from decide_eq_false (fun h => by have := span_iff.1 h; omega))
    go_wp2
    go_ret
    exact ⟨ret_bool hz.out.symm, rfl⟩
/-- A page that only goes on with the one ahead. -/
def nextPg (p q : Pg) : Pg := if 0 ≤ p.fi then { q with pg := q.pg + 1 } else q
def stepOn (f : Nat → Option Pg) (k : Nat) (p : Pg) : Bool := match k with
  | 0 => false
  | m + 1 => match f m with
    | some q => nextPg p q == p
    | none => false
def oneAr (k : Nat) (p : Pg) : Ar := ⟨k, (k : Int) + 1, p.rd, p.wr, p.sh, p.fi, p.pg⟩
def setEn (l : List Ar) (e : Int) : List Ar := match l.getLast? with
  | some q => l.set (l.length - 1) { q with en := e }
  | none => l
/-- Areas of pages: as few as can be. -/
def toA (f : Nat → Option Pg) : Nat → List Ar
  | 0 => []
  | k + 1 => match f k with
    | none => toA f k
    | some p => if stepOn f k p then setEn (toA f k) ((k : Int) + 1) else toA f k ++ [oneAr k p]
theorem setEn_len (l : List Ar) (e : Int) : (setEn l e).length = l.length := by unfold setEn; split <;> simp
theorem toA_len (f : Nat → Option Pg) : ∀ k, (toA f k).length ≤ k
  | 0 => Nat.le_refl _
  | k + 1 => by
    have ih := toA_len f k
    unfold toA
    split
    · omega
    · split
      · rw [setEn_len]; omega
      · rw [List.length_append, List.length_singleton]; omega
theorem toA_ne (f : Nat → Option Pg) {m : Nat} {q : Pg} (h : f m = some q) : 0 < (toA f (m + 1)).length := by
  have hall : ∀ k (q : Pg), f k = some q → 0 < (toA f (k + 1)).length := by
    intro k
    induction k with
    | zero => intro q h; unfold toA; rw [h]; simp [stepOn]
    | succ k ih =>
      intro q h
      rw [toA, h]
      simp only []
      by_cases hs : stepOn f (k + 1) q = true
      · rw [if_pos hs, setEn_len]
        cases hf : f k with
        | none =>
          have h2 : stepOn f (k + 1) q = false := by simp only [stepOn, hf]
          rw [h2] at hs
          cases hs
        | some z => exact ih z hf
      · rw [if_neg hs, List.length_append, List.length_singleton]; omega
  exact hall m q h
theorem pg_beq (p q : Pg) : (p == q) = (p.rd == q.rd && (p.wr == q.wr && (p.sh == q.sh && (p.fi == q.fi && p.pg == q.pg)))) := by
  cases p; cases q
  rw [Bool.eq_iff_iff]
  simp
set_option maxHeartbeats 1000000 in
set_option maxRecDepth 100000 in
theorem eqOne (p q : Pg) (b : Bool) (h : (p == q) = b) (W : World) : (Op.equalIn 10000 77 (.agg #[.bool true, .bool p.rd, .bool p.wr, .bool p.sh, .int .i64 p.fi, .int .i64 p.pg]) (.agg #[.bool true, .bool q.rd, .bool q.wr, .bool q.sh, .int .i64 q.fi, .int .i64 q.pg])).run Try.prog W = .ok b W := by
  rw [← h, pg_beq]
  by_cases h3 : p.rd = q.rd
  · by_cases h4 : p.wr = q.wr
    · by_cases h5 : p.sh = q.sh
      · by_cases h6 : (p.fi == q.fi) = true
        · by_cases h7 : p.pg = q.pg <;> simp [go_sem, h3, h4, h5, h6, h7]
        · simp [go_sem, h3, h4, h5, h6]
      · simp [go_sem, h3, h4, h5]
    · simp [go_sem, h3, h4]
  · simp [go_sem, h3]
set_option maxRecDepth 100000 in
theorem eqOne0 (q : Pg) (x : Int) (W : World) : (Op.equalIn 10000 77 (.agg #[.bool false, .bool false, .bool false, .bool false, .int .i64 0, .int .i64 x]) (.agg #[.bool true, .bool q.rd, .bool q.wr, .bool q.sh, .int .i64 q.fi, .int .i64 q.pg])).run Try.prog W = .ok false W := by
  simp [go_sem]
theorem fC_part (f : Nat → Option Pg) (k : Nat) (hk : k < 64) : (fC f).extract (k * 6) (k * 6 + 6) = oneC (f k) := by
  apply Array.ext_getElem?
  intro i
  by_cases hi : i < 6
  · rw [Array.getElem?_extract, if_pos (by rw [fC_size]; omega)]
    have := flat_cell oneL 6 oneL_len (pgs f) k (by rw [pgs_len]; exact hk) i hi
    have e : (fC f)[k * 6 + i]? = ((pgs f).flatMap oneL)[k * 6 + i]? := by simp [fC, vsC]
    have e2 : (pgs f)[k]'(by rw [pgs_len]; exact hk) = f k := by simp [pgs]
    rw [e, this, e2]
    simp [oneL]
  · rw [Array.getElem?_eq_none (by simp; omega), Array.getElem?_eq_none (by simp [oneC]; omega)]
theorem fC_cell (f : Nat → Option Pg) (k j : Nat) (hk : k < 64) (u : Value) (h : (oneL (f k))[j]? = some u) (hj : j < 6) : (fC f)[k * 6 + j]? = some u := by
  have := flat_cell oneL 6 oneL_len (pgs f) k (by rw [pgs_len]; exact hk) j hj
  have e : (fC f)[k * 6 + j]? = ((pgs f).flatMap oneL)[k * 6 + j]? := by simp [fC, vsC]
  have e2 : (pgs f)[k]'(by rw [pgs_len]; exact hk) = f k := by simp [pgs]
  rw [e, this, e2]
  exact h
theorem idx_one (f : Nat → Option Pg) (k : Nat) (hk : k < 64) (o : Option Pg) (ho : f k = o) (w : World) : (Instr.index 78 (.agg (fC f)) (.int .i64 k)).run Try.prog w = .ok (.agg (oneC o)) w :=
  run_index_agg' Try.underlying78 Try.underlying77 rfl one_size _ k _ hk (by rw [← ho]; exact fC_part f k hk) _ w
theorem wpList_eqS {P : Program} {ops : Array Oper} {rest : List Oper} {o : Oper} {a : Act} {w : World} {Q : Exit → Act → World → Prop} (hg : o.guard = none) (t t' : TypeId) (x y : Operand) (ho : o.op = .binOp .eql t x y t') (vx vy : Value) (hx : a.eval x = vx) (hy : a.eval y = vy) (B : Bool)
    (hr : (do eqGuard .eql t x y vx vy; binOp .eql t vx vy : Sem Value).run P w = .ok (.bool B) w) (h : wpList P ops Q rest (a.put o.dst (.bool B)) w) : wpList P ops Q (o :: rest) a w :=
  wpList_plain hg fun K hK => by
    unfold Oper.wp
    rw [run_bin ho hx hy hr]
    exact hK _ _ h
theorem eqOneR (p q : Pg) (b : Bool) (h : (p == q) = b) (x y : Operand) (W : World) : (do eqGuard .eql 77 x y (.agg #[.bool true, .bool p.rd, .bool p.wr, .bool p.sh, .int .i64 p.fi, .int .i64 p.pg]) (.agg #[.bool true, .bool q.rd, .bool q.wr, .bool q.sh, .int .i64 q.fi, .int .i64 q.pg]); binOp .eql 77 (.agg #[.bool true, .bool p.rd, .bool p.wr, .bool p.sh, .int .i64 p.fi, .int .i64 p.pg]) (.agg #[.bool true, .bool q.rd, .bool q.wr, .bool q.sh, .int .i64 q.fi, .int .i64 q.pg]) : Sem Value).run Try.prog W = .ok (.bool b) W := by
  have hE := eqOne p q b h
  simp [go_sem, hE]
theorem eqOneR0 (q : Pg) (z : Int) (x y : Operand) (W : World) : (do eqGuard .eql 77 x y (.agg #[.bool false, .bool false, .bool false, .bool false, .int .i64 0, .int .i64 z]) (.agg #[.bool true, .bool q.rd, .bool q.wr, .bool q.sh, .int .i64 q.fi, .int .i64 q.pg]); binOp .eql 77 (.agg #[.bool false, .bool false, .bool false, .bool false, .int .i64 0, .int .i64 z]) (.agg #[.bool true, .bool q.rd, .bool q.wr, .bool q.sh, .int .i64 q.fi, .int .i64 q.pg]) : Sem Value).run Try.prog W = .ok (.bool false) W := by
  have hE := eqOne0 q z
  simp [go_sem, hE]
end Go.Proofs.Ytmdnmknmniabeaa
