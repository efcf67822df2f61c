/- The document's Few, WrongAreas. -/
import Derived.Test.YtmdnmknmniabeaaAo3
import Derived.Test.YtmdnmknmniabeaaAo4
namespace Go.Proofs.Ytmdnmknmniabeaa
open Go.RowKit Pw
set_option linter.unusedSimpArgs false
set_option linter.unusedVariables false

theorem fold_on : ∀ {l : List Ar} {lo : Int} (g : Nat → Option Pg), srtF lo l → ∀ i : Nat, (l.foldl (fun f A => ovr A A.en f) g) i = (onA l i).or (g i)
  | [], _, g, _, i => by simp [onA]
  | a :: r, lo, g, h, i => by
    rw [List.foldl_cons, fold_on _ h.2.2, onA_cons]
    by_cases c : inA (i : Int) a = true
    · rw [if_pos c, on_low h.2.2 (inA_iff.1 c).2]
      unfold ovr
      rw [if_pos (inA_iff.1 c)]
      rfl
    · rw [if_neg c]
      unfold ovr
      rw [if_neg (fun h => c (inA_iff.2 h))]
theorem onesF_on {l : List Ar} {lo : Int} (h : srtF lo l) (i : Nat) : onesF l i = onA l i := by
  unfold onesF
  rw [fold_on _ h]
  simp [f0]
theorem pgOf_ok {a : Ar} (ha : areaE a = 0) {n : Int} (hn : inA n a = true) : pgOk (pgOf a n) := by
  have e := areaE_few ha
  unfold arFew at e
  rw [inA_iff] at hn
  have e5 := e.2.2.2.2.1
  have e6 := e.2.2.2.2.2
  unfold pgOk pgOf
  simp only []
  refine ⟨by omega, by omega, by split <;> omega, fun h => ⟨by rw [if_neg (by omega)], (e5 h).2⟩, fun h => by rw [if_pos h]; have := e6 h; omega⟩
theorem onA_ok {l : List Ar} {lo : Int} (h : srtF lo l) {n : Int} {p : Pg} (hp : onA l n = some p) : pgOk p := by
  induction l generalizing lo with
  | nil => cases hp
  | cons a r ih =>
    rw [onA_cons] at hp
    split at hp
    · rename_i hn; cases hp; exact pgOf_ok h.1 hn
    · exact ih h.2.2 hp
/-- Areas of pages that are those of right areas. -/
theorem toA_eq {f : Nat → Option Pg} {m : List Ar} (hm : okF none m) (hf : ∀ i : Nat, i < 64 → f i = onA m i) : toA f 64 = m := by
  have hs := okF_srt0 hm
  obtain ⟨h1, h2⟩ := toA_right (f := f) (fun i p hi hp => onA_ok hs (by rw [← hf i hi]; exact hp))
  refine on_uniq h1 hm fun n => ?_
  rw [h2]
  by_cases hn : 0 ≤ n ∧ n < 64
  · rw [if_pos hn, hf _ (by omega), show ((n.toNat : Nat) : Int) = n by omega]
  · rw [if_neg hn]
    symm
    cases ho : onA m n with
    | none => rfl
    | some p =>
      exfalso
      have : ∃ a ∈ m, inA n a = true := by
        have hh := (find_on m n).2 (by rw [ho]; simp)
        have := idx_any (inA n) m
        rw [show decide (0 ≤ idx (inA n) m) = true from decide_eq_true hh] at this
        exact List.any_eq_true.1 this.symm
      obtain ⟨a, ha, hin⟩ := this
      have := area_low (srtF_ok hs a ha).1 hin
      omega
theorem pair_len {a b : Ar} (ha : areaE a = 0) (hb : areaE b = 0) (h : a.en ≤ b.fr) : (toA (onesF [a, b]) 64).length = if joinsB a b = true then 1 else 2 := by
  have hs : srtF 0 [a, b] := ⟨ha, (areaE_few ha).1.2.1.1, hb, h, trivial⟩
  have e : toA (onesF [a, b]) 64 = tidyL [a, b] := toA_eq (tidy_ok hs) fun i _ => by rw [onesF_on hs, tidy_on hs]
  rw [e, tidyL_cons]
  unfold tidyGo
  split <;> rfl
theorem onesF_ok {l : List Ar} {lo : Int} (h : srtF lo l) : ∀ i p, onesF l i = some p → 0 ≤ p.pg ∧ p.pg ≤ 100 := by
  intro i p hp
  rw [onesF_on h] at hp
  obtain ⟨_, _, h3, h4, h5⟩ := onA_ok h hp
  refine ⟨h3, ?_⟩
  by_cases hf : p.fi < 0
  · rw [(h4 hf).1]; decide
  · have := h5 (by omega); omega
set_option maxHeartbeats 1000000 in
set_option maxRecDepth 100000 in
theorem few_any (f : Nat → Option Pg) (m : List Ar) (hm : okF none m) (hf : ∀ i : Nat, i < 64 → f i = onA m i) (hf' : ∀ i p, f i = some p → 0 ≤ p.pg ∧ p.pg ≤ 100) (w : World) :
    Calls Try.prog 79 #[.agg (fC f)] w fun r w' => ∃ v, r = .returned (.tuple #[v, .int .i64 (doneE m.length)]) ∧ Own w' w.heap.size 66 7 v (if 16 < m.length then [] else m).length ((if 16 < m.length then [] else m).flatMap arL) ∧ Below w.heap.size w w' := by
  have hs384 := Lib.hid (fC_size f)
  have hl64 := toA_len f 64
  rw [toA_eq hm hf] at hl64
  go_enter Try.func79, Try.ntmps79
  go_upto_region 1 with (fail)
  refine abs1 (fun W => Code.wp _ _ _ _ W) fun W0 hb0 hx0 hs0 => ?_
  clear hs0
  go_wp2_with (refine wpList_ldg _ _ rfl _ 0 rfl rfl _ hx0.rd _ Try.underlying78 rfl (by rw [Array.length_toList, hs384.out]; exact ones_size) ?_)
  refine (areas_any f _ hf').mono ?_
  rintro r w1 ⟨v1, rfl, hO1, hb1⟩
  rw [toA_eq hm hf] at hO1
  have hbel := below_next hb0 hb1
  replace hO1 := hO1.mono hb0.size
  obtain ⟨a1, c1, rfl, _⟩ := hO1.rd
  clear hb0 hx0 hb1
  by_cases h : 16 < m.length
  · have hi : (16 : Int) < (m.length : Int) := by omega
    have hd : Hid (doneE m.length = 4) := Lib.hid (by unfold doneE; rw [if_pos h])
    go_wp2
    go_ret2
    exact ⟨.slice none 0 0, by first | (rw [hd.out]; done) | (rw [hd.out]; rfl), by first | exact Own.nil _ _ _ _ | (rw [if_pos h]; exact Own.nil _ _ _ _), hbel⟩
  · have hi : ¬ (16 : Int) < (m.length : Int) := by omega
    have hd : Hid (doneE m.length = 0) := Lib.hid (by unfold doneE; rw [if_neg h])
    go_wp2
    go_ret2
    exact ⟨.slice a1 m.length c1, by first | (rw [hd.out]; done) | (rw [hd.out]; rfl), by first | exact hO1 | (rw [if_neg h]; exact hO1), hbel⟩
/-- A slice of a slice, from O to O + 2. -/
theorem run_slice_two {P : Program} {ρ : Operand → Value} {o : Oper} {w : World} {t : TypeId} {x l h : Operand} {b off n c O sz : Nat} (ho : o.op = .slice t x (some l) (some h) none) (hx : ρ x = .slice (some ⟨b, off, none⟩) n c) (hl : ρ l = .int .i64 O) (hh : ρ h = .int .i64 ((O : Int) + 2))
    (ht : P.underlying t = some (.slice (P.elem t))) (hs : (P.info? (P.elem t)).map (·.size) = some sz) (hO : O + 1 < n) (hn : n ≤ c) :
    (execOp ρ o).run P w = .ok (.value (.slice (some ⟨b, off + O * sz, none⟩) 2 (c - O))) w := by
  have hsz : (Go.sizeOf (P.elem t)).run P w = .ok sz w := by
    cases hq : P.info? (P.elem t) with
    | none => simp [hq] at hs
    | some i =>
      have hz : i.size = sz := by simpa [hq] using hs
      simp [Go.sizeOf, typeInfo, run_program, hq, hz]
  unfold execOp
  simp only [ho, hx, hl, hh, Option.map]
  rw [Sem.run_bind, run_sliceAt_slice w t _ _ _ _ ht, run_slice_lh w t _ n c ht .i64 .i64 O (O + 2) (by omega) (by omega) (by omega), hsz]
  have e1 : ((O : Int) + 2).toNat - (O : Int).toNat = 2 := by omega
  have e2 : ((O : Int) + 2).toNat - O = 2 := by omega
  simp [sliced, e1, e2, Addr.add, show ¬ c = O by omega, go_sem]
theorem two_at {w : World} {b off : Nat} {l : List Ar} (h : RdV w (some ⟨b, off, none⟩) (l.flatMap arL)) {m : Nat} (hm : m + 1 < l.length) : RdV w (some ⟨b, off + m * 7, none⟩) ([l[m], l[m + 1]].flatMap arL) := by
  have h1 := ar_at' h m (by omega)
  have h2 := ar_at' h (m + 1) hm
  intro j u hj
  refine ⟨b, off + m * 7, rfl, ?_⟩
  simp only [List.flatMap_cons, List.flatMap_nil, List.append_nil] at hj
  by_cases c : j < 7
  · rw [List.getElem?_append_left (by rw [arL_len]; exact c)] at hj
    exact h1 j u hj
  · rw [List.getElem?_append_right (by rw [arL_len]; omega), arL_len] at hj
    have := h2 _ u hj
    rwa [show off + (m + 1) * 7 + (j - 7) = off + m * 7 + j by omega] at this
end Go.Proofs.Ytmdnmknmniabeaa
