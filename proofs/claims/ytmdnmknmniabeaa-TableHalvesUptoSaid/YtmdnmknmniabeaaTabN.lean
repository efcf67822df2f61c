/- Plain laws of tables: what is set is got. -/
import Derived.Test.YtmdnmknmniabeaaTabL
namespace Go.Proofs.Ytmdnmknmniabeaa
open Go.RowKit Pw
set_option linter.unusedSimpArgs false
set_option linter.unusedVariables false

theorem ent_zero {e : En} (h : entE e = 0) (h2 : posK e = false) : e = zEn := by
  have h3 := entE_pos h
  rw [h2] at h3
  have hk : e.k = 0 := by simpa [hasK] using h3
  unfold entE at h
  obtain ⟨k, n, w⟩ := e
  simp only at hk
  subst hk
  simp at h
  by_cases h4 : n < 0 ∨ 60 ≤ n
  · rw [if_pos h4] at h; cases h
  · rw [if_neg h4] at h
    by_cases h5 : ¬ n = 0 ∨ w = true
    · rw [if_pos h5] at h; cases h
    · simp only [not_or, Classical.not_not, Bool.not_eq_true] at h5
      obtain ⟨rfl, rfl⟩ := h5
      rfl
theorem part_mem {l : List En} {i : Nat} {x : En} (h : x ∈ partL l i) : x ∈ l := List.mem_of_mem_drop (List.mem_of_mem_take h)
theorem halfOf_right {l : List En} (h : ∀ x ∈ l, entE x = 0) (hl : l.length = 64) {i : Nat} (hi : i < 8) : halfE (halfOf l i) = 0 := by
  unfold halfOf
  by_cases hp : (partL l i).any posK = true
  · rw [if_pos hp]
    have hlen : (partL l i).length = 8 := part_len hl hi (by omega)
    rw [halfE_end (.inr hlen) (fun j hj => h _ (part_mem (List.getElem_mem hj))), if_neg]
    rintro ⟨_, h2⟩
    have h3 := any_pos (h := partL l i) (fun x hx => h x (part_mem hx))
    rw [hp] at h3
    have h4 : (partL l i).any hasK = false := h2
    rw [h4] at h3
    cases h3
  · rw [if_neg hp]; rfl
theorem tabOf_right {l : List En} (h : ∀ x ∈ l, entE x = 0) (hl : l.length = 64) : wrongT (tabOf l) = 0 :=
  wrongT_none fun i hi => by simp only [tabOf, Vector.getElem_ofFn]; exact halfOf_right h hl hi
theorem getT_tabOf {l : List En} (h : ∀ x ∈ l, entE x = 0) (hl : l.length = 64) {n : Nat} (hn : n < 64) : getT (tabOf l) (n : Int) = l[n]'(by omega) := by
  obtain ⟨q, r, hq, hr, hnn, _, _⟩ := split64 (n := (n : Int)) (by omega)
  have hn' : n = 8 * q + r := by omega
  subst hn'
  rw [getT_in hq hr]
  simp only [tabOf, Vector.getElem_ofFn]
  unfold halfOf
  have hlen : (partL l q).length = 8 := part_len hl hq (by omega)
  have hget : (partL l q)[r]'(by omega) = l[8 * q + r]'(by omega) := by simp [partL]
  by_cases hp : (partL l q).any posK = true
  · simp only [if_pos hp, if_pos hlen]
    rw [List.getD_eq_getElem?_getD, List.getElem?_eq_getElem (by omega), ← hget]
    rfl
  · simp only [if_neg hp]
    rw [if_neg (by decide), ← hget]
    symm
    refine ent_zero (h _ (part_mem (List.getElem_mem _))) ?_
    simp only [List.any_eq_true, not_exists, not_and, Bool.not_eq_true] at hp
    exact hp _ (List.getElem_mem _)
theorem tabOf_flat {t : Tb} (h : wrongT t = 0) : tabOf (flatL t) = t := by
  apply Vector.ext
  intro i hi
  simp only [tabOf, Vector.getElem_ofFn]
  exact halfOf_flat hi (wrongT_half h i hi)
theorem flat_tabOf {l : List En} (h : ∀ x ∈ l, entE x = 0) (hl : l.length = 64) : flatL (tabOf l) = l := by
  apply List.ext_getElem
  · rw [flat_len64, hl]
  · intro i h1 h2
    have := flat_at (tabOf l) i (by omega)
    rw [getT_tabOf h hl (by omega), List.getElem?_eq_getElem h1] at this
    exact Option.some.inj this
theorem flat_ent {t : Tb} (h : wrongT t = 0) : ∀ x ∈ flatL t, entE x = 0 := by
  intro x hx
  obtain ⟨i, hi, rfl⟩ := List.mem_map.1 hx
  exact getT_ent h _
theorem setE_parts {t : Tb} {n : Int} {e : En} (h : setE t n e = 0) : wrongT t = 0 ∧ (0 ≤ n ∧ n < 64) ∧ entE e = 0 := by
  unfold setE at h
  by_cases hw : wrongT t = 0
  · rw [if_neg (by rw [hw]; simp)] at h
    by_cases hn : n < 0 ∨ 64 ≤ n
    · rw [if_pos hn] at h; cases h
    · rw [if_neg hn] at h
      exact ⟨hw, by omega, h⟩
  · rw [if_pos hw] at h; exact absurd h hw
theorem setE_ok {t : Tb} {n : Int} {e : En} (h1 : wrongT t = 0) (h2 : 0 ≤ n ∧ n < 64) (h3 : entE e = 0) : setE t n e = 0 := by
  unfold setE; rw [if_neg (by rw [h1]; simp), if_neg (by omega), h3]
theorem set_ent {t : Tb} {n : Nat} {e : En} (h1 : wrongT t = 0) (h3 : entE e = 0) : ∀ x ∈ (flatL t).set n e, entE x = 0 := by
  intro x hx
  rcases List.mem_or_eq_of_mem_set hx with hx | rfl
  · exact flat_ent h1 x hx
  · exact h3
theorem setT_right {t : Tb} {n : Int} {e : En} (h : setE t n e = 0) : wrongT (setT t n e) = 0 := by
  obtain ⟨h1, h2, h3⟩ := setE_parts h
  rw [setT_tab h]
  exact tabOf_right (set_ent h1 h3) (by rw [List.length_set, flat_len64])
theorem setT_get {t : Tb} {n : Int} {e : En} (h : setE t n e = 0) (k : Int) : getT (setT t n e) k = if k = n then e else getT t k := by
  obtain ⟨h1, h2, h3⟩ := setE_parts h
  rw [setT_tab h]
  by_cases hk : 0 ≤ k ∧ k < 64
  · obtain ⟨j, rfl⟩ := Int.eq_ofNat_of_zero_le hk.1
    rw [getT_tabOf (set_ent h1 h3) (by rw [List.length_set, flat_len64]) (by omega)]
    rw [List.getElem_set]
    by_cases e0 : (j : Int) = n
    · rw [if_pos (by omega), if_pos e0]
    · rw [if_neg (by omega), if_neg e0]
      have := flat_at t j (by omega)
      rw [List.getElem?_eq_getElem (by rw [flat_len64]; omega)] at this
      exact Option.some.inj this
  · rw [if_neg (by omega), getT_out (by omega), getT_out (by omega)]
theorem setT_back {t : Tb} {n : Int} {e : En} (h : setE t n e = 0) : setE (setT t n e) n (getT t n) = 0 ∧ setT (setT t n e) n (getT t n) = t := by
  obtain ⟨h1, h2, h3⟩ := setE_parts h
  have hr := setT_right h
  have h4 := setE_ok hr h2 (getT_ent h1 n)
  refine ⟨h4, ?_⟩
  rw [setT_tab h4, setT_tab h, flat_tabOf (set_ent h1 h3) (by rw [List.length_set, flat_len64])]
  rw [List.set_set]
  have : (flatL t).set n.toNat (getT t n) = flatL t := by
    apply List.ext_getElem?
    intro i
    rw [List.getElem?_set]
    by_cases e0 : n.toNat = i
    · rw [if_pos e0, if_pos (by rw [flat_len64]; omega), ← e0, flat_at t _ (by omega), Int.toNat_of_nonneg h2.1]
    · rw [if_neg e0]
  rw [this]
  exact tabOf_flat h1
end Go.Proofs.Ytmdnmknmniabeaa
