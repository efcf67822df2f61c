/- Plain laws of areas of pages: they are right, and have the same pages. -/
import Derived.Test.YtmdnmknmniabeaaAo2
namespace Go.Proofs.Ytmdnmknmniabeaa
open Go.RowKit Pw
set_option linter.unusedSimpArgs false
set_option linter.unusedVariables false

theorem toA_none' {f : Nat → Option Pg} {k : Nat} (h : f k = none) : toA f (k + 1) = toA f k := by rw [toA, h]
theorem toA_on' {f : Nat → Option Pg} {k : Nat} {p : Pg} (h : f k = some p) (hs : stepOn f k p = true) : toA f (k + 1) = setEn (toA f k) ((k : Int) + 1) := by
  rw [toA, h]; simp only []; rw [if_pos hs]
theorem toA_new' {f : Nat → Option Pg} {k : Nat} {p : Pg} (h : f k = some p) (hs : stepOn f k p = false) : toA f (k + 1) = toA f k ++ [oneAr k p] := by
  rw [toA, h]; simp only []; rw [hs]; rfl
def pgOk (p : Pg) : Prop := -1 ≤ p.fi ∧ p.fi < 5 ∧ 0 ≤ p.pg ∧ (p.fi < 0 → p.pg = 0 ∧ p.sh = false) ∧ (0 ≤ p.fi → p.pg ≤ 11)
theorem on_high {l : List Ar} {n : Int} (h : ∀ a ∈ l, a.en ≤ n) : onA l n = none := by
  induction l with
  | nil => rfl
  | cons a r ih =>
    have := h a List.mem_cons_self
    rw [onA_cons, if_neg (by rw [inA_iff]; omega), ih (fun b hb => h b (List.mem_cons_of_mem _ hb))]
theorem on_mem {l : List Ar} {a : Ar} {n : Int} (h : a ∈ l) (hn : inA n a = true) : onA l n ≠ none := by
  induction l with
  | nil => cases h
  | cons b r ih =>
    rw [onA_cons]
    split
    · simp
    · rename_i hb
      rcases List.mem_cons.1 h with rfl | h
      · exact absurd hn hb
      · exact ih h
theorem okF_last {x y : Ar} (hy : areaE y = 0) (hb : ∀ p, badOn p x = false → badOn p y = false) : ∀ {l : List Ar} {p : Option Ar}, okF p (l ++ [x]) → okF p (l ++ [y])
  | [], p, h => ⟨hy, hb p h.2.1, trivial⟩
  | a :: r, p, h => ⟨h.1, h.2.1, okF_last hy hb h.2.2⟩
theorem okF_snoc {x y : Ar} (hy : areaE y = 0) (hb : badOn (some x) y = false) : ∀ {l : List Ar} {p : Option Ar}, okF p (l ++ [x]) → okF p (l ++ [x] ++ [y])
  | [], p, h => ⟨h.1, h.2.1, hy, hb, trivial⟩
  | a :: r, p, h => ⟨h.1, h.2.1, okF_snoc hy hb h.2.2⟩
theorem okF_lastE {x : Ar} : ∀ {l : List Ar} {p : Option Ar}, okF p (l ++ [x]) → areaE x = 0
  | [], p, h => h.1
  | a :: r, p, h => okF_lastE h.2.2
theorem one_right {k : Nat} (hk : k < 64) {p : Pg} (hp : pgOk p) : areaE (oneAr k p) = 0 := by
  obtain ⟨h1, h2, h3, h4, h5⟩ := hp
  unfold areaE oneAr
  simp only []
  rw [if_neg (by omega), if_neg]
  rintro (⟨a, b⟩ | ⟨a, b⟩)
  · have := h4 a
    rcases b with b | b
    · exact b this.1
    · rw [this.2] at b; cases b
  · have := h5 a; omega
theorem pgOf_next {a : Ar} {m : Nat} {p : Pg} (h : nextPg p (pgOf a m) = p) : pgOf a ((m : Int) + 1) = p := by
  unfold nextPg at h
  by_cases hf : 0 ≤ p.fi
  · rw [if_pos hf] at h
    have hfi : a.fi = p.fi := by rw [← h]; rfl
    rw [← h]
    unfold pgOf
    simp only []
    rw [if_pos (by omega), if_pos (by omega)]
    congr 1; omega
  · rw [if_neg hf] at h
    have hfi : a.fi = p.fi := by rw [← h]; rfl
    rw [← h]
    unfold pgOf
    rw [if_neg (by omega), if_neg (by omega)]
structure ToInv (f : Nat → Option Pg) (k : Nat) : Prop where
  ok : okF none (toA f k)
  en : ∀ a ∈ toA f k, a.en ≤ (k : Int)
  on : ∀ i : Nat, i < k → onA (toA f k) i = f i
  last : ∀ m q, k = m + 1 → f m = some q → ∃ init a, toA f k = init ++ [a] ∧ a.en = (k : Int) ∧ a.fr ≤ (m : Int) ∧ pgOf a m = q
theorem to_inv {f : Nat → Option Pg} (hf : ∀ i p, i < 64 → f i = some p → pgOk p) : ∀ k, k ≤ 64 → ToInv f k
  | 0, _ => ⟨trivial, fun a ha => (by cases ha), fun i hi => absurd hi (Nat.not_lt_zero _), fun m q h => (by cases h)⟩
  | k + 1, hk => by
    have ih := to_inv hf k (by omega)
    have he := ih.en
    cases hfk : f k with
    | none =>
      have hst := toA_none' hfk
      refine ⟨by rw [hst]; exact ih.ok, fun a ha => by rw [hst] at ha; have := he a ha; omega, fun i hi => ?_, fun m q hm hq => ?_⟩
      · rw [hst]
        by_cases hik : i = k
        · subst hik; rw [hfk]; exact on_high he
        · exact ih.on i (by omega)
      · obtain rfl : m = k := by omega
        rw [hfk] at hq; cases hq
    | some p =>
      have hp := hf k p (by omega) hfk
      cases hs : stepOn f k p
      · have hst := toA_new' hfk hs
        have hx := one_right (by omega : k < 64) hp
        have hok : okF none (toA f (k + 1)) := by
          rw [hst]
          rcases List.eq_nil_or_concat (toA f k) with h0 | ⟨init, a, h0⟩
          · rw [h0]; exact ⟨hx, rfl, trivial⟩
          · rw [List.concat_eq_append] at h0
            have hoka := ih.ok
            have hon := ih.on
            rw [h0] at hoka hon he ⊢
            have hae := he a (List.mem_append_right _ List.mem_cons_self)
            refine okF_snoc hx (bad_some.2 ⟨hae, ?_⟩) hoka
            cases hj : joinsB a (oneAr k p)
            · rfl
            · exfalso
              obtain ⟨j1, j2, j3, j4, j5, j6⟩ := joins_iff.1 hj
              have j1' : a.en = (k : Int) := j1
              have ha0 := okF_lastE hoka
              have hfr := (areaE_few ha0).1.2.1.1
              have hlt := (areaE_few ha0).2.1
              obtain ⟨m, rfl⟩ : ∃ m, k = m + 1 := ⟨k - 1, by omega⟩
              have hin : inA (m : Int) a = true := inA_iff.2 ⟨by omega, by omega⟩
              cases hfm : f m with
              | none =>
                have h1 := hon m (by omega)
                rw [hfm] at h1
                exact on_mem (List.mem_append_right _ List.mem_cons_self) hin h1
              | some q =>
                obtain ⟨init', a', e1, e2, e3, e4⟩ := ih.last m q rfl hfm
                rw [h0] at e1
                have haa : a = a' := by
                  have := congrArg List.getLast? e1
                  rw [List.getLast?_concat, List.getLast?_concat] at this
                  exact Option.some.inj this
                subst haa
                have hsn : stepOn f (m + 1) p = (nextPg p q == p) := by simp only [stepOn, hfm]
                rw [hsn] at hs
                have : nextPg p q = p := by
                  rw [← e4]
                  have k2 : a.rd = p.rd := j2
                  have k3 : a.wr = p.wr := j3
                  have k4 : a.sh = p.sh := j4
                  have k5 : a.fi = p.fi := j5
                  have k6 : p.pg = baseOn a := j6
                  unfold baseOn at k6
                  clear hx hfk hp hst hj hs e4 j2 j3 j4 j5 j6 hsn
                  cases p with
                  | mk prd pwr psh pfi ppg =>
                    have k2 : a.rd = prd := k2
                    have k3 : a.wr = pwr := k3
                    have k4 : a.sh = psh := k4
                    have k5 : a.fi = pfi := k5
                    have k6 : ppg = if 0 ≤ a.fi then a.ba + a.en - a.fr else 0 := k6
                    subst k2 k3 k4 k5 k6
                    unfold nextPg pgOf
                    show (if 0 ≤ a.fi then (⟨a.rd, a.wr, a.sh, a.fi, (if 0 ≤ a.fi then a.ba + (m : Int) - a.fr else 0) + 1⟩ : Pg) else ⟨a.rd, a.wr, a.sh, a.fi, if 0 ≤ a.fi then a.ba + (m : Int) - a.fr else 0⟩) = _
                    by_cases hfi : 0 ≤ a.fi
                    · rw [if_pos hfi, if_pos hfi, if_pos hfi]
                      congr 1
                      omega
                    · rw [if_neg hfi, if_neg hfi, if_neg hfi]
                rw [this] at hs
                simp at hs
        refine ⟨hok, fun a ha => ?_, fun i hi => ?_, fun m q hm hq => ?_⟩
        · rw [hst] at ha
          rcases List.mem_append.1 ha with ha | ha
          · have := he a ha; omega
          · rw [List.mem_singleton.1 ha]; show (k : Int) + 1 ≤ _; omega
        · rw [hst, onA_app]
          have hone : onA [oneAr k p] (i : Int) = if i = k then some p else none := by
            rw [onA_cons]
            by_cases hik : i = k
            · subst hik
              rw [if_pos rfl, if_pos (show inA (i : Int) (oneAr i p) = true from inA_iff.2 ⟨Int.le_refl _, by show (i : Int) < i + 1; omega⟩)]
              unfold pgOf oneAr
              simp only []
              congr 1
              obtain ⟨_, _, _, h4, _⟩ := hp
              cases p with
              | mk rd wr sh fi pg =>
                simp only [Pg.mk.injEq, true_and]
                simp only [] at h4
                split
                · omega
                · exact (h4 (by omega)).1.symm
            · rw [if_neg hik, if_neg]
              · rfl
              · rw [inA_iff]
                show ¬ ((k : Int) ≤ i ∧ (i : Int) < k + 1)
                omega
          rw [hone]
          by_cases hik : i = k
          · subst hik
            rw [if_pos rfl, on_high he, hfk]; rfl
          · rw [if_neg hik, ih.on i (by omega), Option.or_none]
        · obtain rfl : m = k := by omega
          rw [hfk] at hq
          cases hq
          refine ⟨toA f m, oneAr m p, hst, by show (m : Int) + 1 = _; omega, Int.le_refl _, ?_⟩
          unfold pgOf oneAr
          simp only []
          obtain ⟨_, _, _, h4, _⟩ := hp
          cases p with
          | mk rd wr sh fi pg =>
            simp only [Pg.mk.injEq, true_and]
            simp only [] at h4
            split
            · omega
            · exact (h4 (by omega)).1.symm
      · have hst := toA_on' hfk hs
        obtain ⟨m, rfl⟩ : ∃ m, k = m + 1 := by
          cases k with
          | zero => cases hs
          | succ m => exact ⟨m, rfl⟩
        have hsn : stepOn f (m + 1) p = (match f m with | some q => nextPg p q == p | none => false) := rfl
        rw [hsn] at hs
        cases hfm : f m with
        | none => rw [hfm] at hs; cases hs
        | some q =>
          rw [hfm] at hs
          have hnx : nextPg p q = p := by simpa using hs
          obtain ⟨init, a, e1, e2, e3, e4⟩ := ih.last m q rfl hfm
          have hok := ih.ok
          have hon := ih.on
          rw [e1] at hok hon he hst
          have ha0 := okF_lastE hok
          have ef := areaE_few ha0
          rw [← e4] at hnx
          have hpk := pgOf_next hnx
          have hset : setEn (init ++ [a]) (((m + 1 : Nat) : Int) + 1) = init ++ [{ a with en := ((m + 1 : Nat) : Int) + 1 }] := by
            unfold setEn
            rw [List.getLast?_concat]
            simp
          rw [hset] at hst
          have hy : areaE { a with en := ((m + 1 : Nat) : Int) + 1 } = 0 := by
            unfold arFew at ef
            have e5 := ef.2.2.2.2.1
            unfold areaE
            simp only []
            rw [if_neg (by omega), if_neg]
            rintro (⟨b1, b2⟩ | ⟨b1, b2⟩)
            · have := e5 b1
              rcases b2 with b2 | b2
              · exact b2 this.1
              · rw [this.2] at b2; cases b2
            · have h5 := hp.2.2.2.2
              rw [← hpk] at h5
              have h6 := h5 b1
              unfold pgOf at h6
              simp only [] at h6
              rw [if_pos b1] at h6
              omega
          have hinit : ∀ b ∈ init, b.en ≤ ((m + 1 : Nat) : Int) := fun b hb => he b (List.mem_append_left _ hb)
          have hfi : ∀ n, pgOf { a with en := ((m + 1 : Nat) : Int) + 1 } n = pgOf a n := fun n => rfl
          refine ⟨?_, fun b hb => ?_, fun i hi => ?_, fun m' q' hm' hq' => ?_⟩
          · rw [hst]
            refine okF_last hy (fun z hz => ?_) hok
            cases z with
            | none => rfl
            | some z => exact hz
          · rw [hst] at hb
            rcases List.mem_append.1 hb with hb | hb
            · have := hinit b hb; omega
            · rw [List.mem_singleton.1 hb]; show ((m + 1 : Nat) : Int) + 1 ≤ _; omega
          · rw [hst, onA_app]
            by_cases hik : i = m + 1
            · subst hik
              rw [on_high hinit, onA_cons, if_pos (inA_iff.2 ⟨by show a.fr ≤ ((m + 1 : Nat) : Int); omega, by show ((m + 1 : Nat) : Int) < ((m + 1 : Nat) : Int) + 1; omega⟩), hfi, hfk]
              show some (pgOf a ((m + 1 : Nat) : Int)) = some p
              rw [show ((m + 1 : Nat) : Int) = (m : Int) + 1 by omega, hpk]
            · have h1 := hon i (by omega)
              rw [onA_app] at h1
              rw [← h1]
              congr 1
              rw [onA_cons, onA_cons, hfi]
              by_cases c : inA (i : Int) a = true
              · rw [if_pos c, if_pos (by rw [inA_iff] at c ⊢; show a.fr ≤ (i : Int) ∧ (i : Int) < ((m + 1 : Nat) : Int) + 1; omega)]
              · rw [if_neg c, if_neg (by rw [inA_iff] at c ⊢; show ¬ (a.fr ≤ (i : Int) ∧ (i : Int) < ((m + 1 : Nat) : Int) + 1); omega)]
          · obtain rfl : m' = m + 1 := by omega
            rw [hfk] at hq'
            cases hq'
            refine ⟨init, _, hst, by show ((m + 1 : Nat) : Int) + 1 = _; omega, by show a.fr ≤ _; omega, ?_⟩
            rw [hfi, show ((m + 1 : Nat) : Int) = (m : Int) + 1 by omega, hpk]
/-- AREAS OF PAGES ARE RIGHT, AND HAVE THE SAME PAGES. -/
theorem toA_right {f : Nat → Option Pg} (hf : ∀ i p, i < 64 → f i = some p → pgOk p) : okF none (toA f 64) ∧ ∀ n : Int, onA (toA f 64) n = if 0 ≤ n ∧ n < 64 then f n.toNat else none := by
  have h := to_inv hf 64 (Nat.le_refl _)
  refine ⟨h.ok, fun n => ?_⟩
  by_cases hn : 0 ≤ n ∧ n < 64
  · rw [if_pos hn]
    have := h.on n.toNat (by omega)
    rwa [show ((n.toNat : Nat) : Int) = n by omega] at this
  · rw [if_neg hn]
    cases ho : onA (toA f 64) n with
    | none => rfl
    | some p =>
      exfalso
      have hs := okF_srt0 h.ok
      by_cases h0 : n < 0
      · rw [on_low hs h0] at ho; cases ho
      · rw [on_high (fun a ha => by have := h.en a ha; omega)] at ho; cases ho
end Go.Proofs.Ytmdnmknmniabeaa
