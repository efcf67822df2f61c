/- The document's SetEntry. -/
import Derived.Test.YtmdnmknmniabeaaTabG
import Derived.Test.YtmdnmknmniabeaaTabR
namespace Go.Proofs.Ytmdnmknmniabeaa
open Go.RowKit Pw
set_option linter.unusedSimpArgs false
set_option linter.unusedVariables false

theorem own_of_blk {α : Type} {enc : α → List Value} {sz : Nat} (hsz : ∀ x, (enc x).length = sz) {w : World} {B g : Nat} {e : TypeId} {l : List α} (h : Blk w g (l.flatMap enc).toArray e) (hB : B ≤ g) (hm : l.length ≤ maxLen) : Own w B e sz (.slice (some ⟨g, 0, none⟩) l.length l.length) l.length (l.flatMap enc) :=
  ⟨flat_len enc sz hsz l, .inr ⟨g, 0, l.length, _, rfl, hB, h, Nat.le_refl _, hm, by rw [List.size_toArray, flat_len enc sz hsz, Nat.zero_add]; exact Nat.le_refl _, fun j u hj => by rw [Nat.zero_add]; simpa using hj⟩⟩
/-- What is wrong with an entry alone. -/
def oneL (e : En) : List En := [e, ⟨1, 0, false⟩, zEn, zEn, zEn, zEn, zEn, zEn]
theorem wrong_one (e : En) : wrongT (zTb.set 0 (oneL e)) = entE e := by
  have h0 : halfE (oneL e) = entE e := by
    by_cases he : entE e = 0
    · rw [halfE_end (.inr rfl) (fun i hi => by
        match i, hi with
        | 0, _ => exact he
        | 1, _ => rfl
        | 2, _ => rfl
        | 3, _ => rfl
        | 4, _ => rfl
        | 5, _ => rfl
        | 6, _ => rfl
        | 7, _ => rfl), he, if_neg]
      intro h
      have := List.any_eq_false.1 h.2 ⟨1, 0, false⟩ (by simp [oneL])
      simp at this
    · exact halfE_at (.inr rfl) 0 (by simp [oneL]) (fun i _ h => absurd h (Nat.not_lt_zero _)) he
  by_cases he : entE e = 0
  · rw [he]
    refine wrongT_none fun i hi => ?_
    by_cases e0 : i = 0
    · subst e0
      rw [Vector.getElem_set_self, h0, he]
    · rw [Vector.getElem_set_ne _ hi (fun h => e0 h.symm)]
      simp [zTb, halfE, firstE]
  · rw [wrongT_at 0 (by decide) (fun i _ h => absurd h (Nat.not_lt_zero _)) (by rw [Vector.getElem_set_self, h0]; exact he), Vector.getElem_set_self, h0]
theorem entE_pos {e : En} (h : entE e = 0) : hasK e = posK e := by
  unfold entE at h
  unfold hasK posK
  split at h
  · cases h
  · rename_i h1
    rw [Bool.eq_iff_iff]
    simp
    omega
theorem half_ent {h : List En} (h0 : halfE h = 0) : ∀ e ∈ h, entE e = 0 := by
  intro e he
  obtain ⟨i, hi, rfl⟩ := List.mem_iff_getElem.1 he
  have hl := halfE_len h0
  by_cases hne : ∀ j (hj : j < h.length), entE h[j] = 0
  · exact hne i hi
  · exfalso
    have hf : firstE (h.map entE) ≠ 0 := by
      intro hf
      apply hne
      intro j hj
      have key : ∀ (l : List Int), firstE l = 0 → ∀ x ∈ l, x = 0 := by
        intro l
        induction l with
        | nil => intro _ x hx; cases hx
        | cons y r ih =>
          intro h x hx
          by_cases e : y = 0
          · simp only [firstE, e, if_true] at h
            rcases List.mem_cons.1 hx with rfl | hx
            · exact e
            · exact ih h x hx
          · simp only [firstE, e, if_false] at h
      exact key _ hf _ (List.mem_map.2 ⟨h[j], List.getElem_mem hj, rfl⟩)
    unfold halfE at h0
    rw [if_neg (by omega), if_pos hf] at h0
    exact hf h0
/-- The halves of what is flat. -/
theorem flat_part {t : Tb} {i : Nat} (hi : i < 8) (h : halfE t[i] = 0) : partL (flatL t) i = if t[i].length = 0 then List.replicate 8 zEn else t[i] := by
  have hl := halfE_len h
  apply List.ext_getElem?
  intro r
  unfold partL flatL
  rw [List.getElem?_take]
  by_cases hr : r < 8
  · rw [if_pos hr, List.getElem?_drop, List.getElem?_map, List.getElem?_range (by omega)]
    simp only [Option.map_some]
    rcases hl with hl | hl
    · rw [if_pos hl, List.getElem?_replicate, if_pos hr, getT_none hi hr hl]
    · rw [if_neg (by omega), List.getElem?_eq_getElem (by omega), getT_some hi hr hl (List.getElem?_eq_getElem (by omega))]
  · rw [if_neg hr, List.getElem?_eq_none]
    split
    · simp; omega
    · omega
theorem any_pos {h : List En} (h0 : ∀ e ∈ h, entE e = 0) : h.any posK = h.any hasK := by
  rw [Bool.eq_iff_iff]
  simp only [List.any_eq_true]
  constructor
  · rintro ⟨e, he, h1⟩; exact ⟨e, he, by rw [entE_pos (h0 e he)]; exact h1⟩
  · rintro ⟨e, he, h1⟩; exact ⟨e, he, by rw [← entE_pos (h0 e he)]; exact h1⟩
theorem half_any {h : List En} (h0 : halfE h = 0) (hl : h.length ≠ 0) : h.any hasK = true := by
  have h1 := halfE_end (halfE_len h0) (fun i hi => half_ent h0 _ (List.getElem_mem hi))
  rw [h0] at h1
  by_cases hh : h.any (fun e => decide (e.k ≠ 0)) = false
  · rw [if_pos ⟨by omega, hh⟩] at h1; cases h1
  · simpa [hasK] using hh
theorem halfOf_flat {t : Tb} {i : Nat} (hi : i < 8) (h : halfE t[i] = 0) : halfOf (flatL t) i = t[i] := by
  unfold halfOf
  rw [flat_part hi h]
  by_cases hl : t[i].length = 0
  · rw [if_pos hl]
    have : t[i] = [] := List.eq_nil_of_length_eq_zero hl
    rw [this]
    decide
  · rw [if_neg hl, any_pos (half_ent h), half_any h hl]
    rfl
theorem setT_tab {t : Tb} {n : Int} {e : En} (h : setE t n e = 0) : setT t n e = tabOf ((flatL t).set n.toNat e) := by
  have h0 : wrongT t = 0 := by
    unfold setE at h
    by_cases hw : wrongT t = 0
    · exact hw
    · rw [if_pos hw] at h; exact h
  have hn : 0 ≤ n ∧ n < 64 := by
    unfold setE at h
    rw [if_neg (by rw [h0]; simp)] at h
    by_cases hn : n < 0 ∨ 64 ≤ n
    · rw [if_pos hn] at h; cases h
    · omega
  have he : entE e = 0 := by
    unfold setE at h
    rwa [if_neg (by rw [h0]; simp), if_neg (by omega)] at h
  obtain ⟨q, r, hq, hr, hnn, _, _⟩ := split64 hn
  have hN : n.toNat = 8 * q + r := by omega
  rw [setT_ok h hq hr hnn, hN]
  apply Vector.ext
  intro i hi
  simp only [tabOf, Vector.getElem_ofFn]
  have hh := wrongT_half h0 i hi
  by_cases ei : i = q
  · subst ei
    rw [Vector.getElem_set_self]
    have hp : partL ((flatL t).set (8 * i + r) e) i = (partL (flatL t) i).set r e := by
      apply List.ext_getElem?
      intro k
      have hlen : (flatL t).length = 64 := by simp [flatL]
      by_cases hk : k < 8
      · unfold partL
        rw [List.getElem?_take, if_pos hk, List.getElem?_drop]
        by_cases ek : k = r
        · subst ek
          rw [List.getElem?_set_self (by omega), List.getElem?_set_self (by simp; omega)]
        · rw [List.getElem?_set_ne (by omega), List.getElem?_set_ne (fun h => ek h.symm), List.getElem?_take, if_pos hk, List.getElem?_drop]
      · rw [List.getElem?_eq_none (by simp [partL]; omega), List.getElem?_eq_none (by simp [partL]; omega)]
    unfold halfOf
    rw [hp, flat_part hi hh]
    unfold setH tidyH
    rw [any_pos]
    intro x hx
    rcases List.mem_or_eq_of_mem_set hx with hx | rfl
    · split at hx
      · rw [(List.mem_replicate.1 hx).2]; rfl
      · exact half_ent hh x hx
    · exact he
  · rw [Vector.getElem_set_ne hq hi (fun h => ei h.symm)]
    have hp : partL ((flatL t).set (8 * q + r) e) i = partL (flatL t) i := by
      apply List.ext_getElem?
      intro k
      unfold partL
      rw [List.getElem?_take, List.getElem?_take]
      by_cases hk : k < 8
      · rw [if_pos hk, if_pos hk, List.getElem?_drop, List.getElem?_drop, List.getElem?_set_ne (by omega)]
      · rw [if_neg hk, if_neg hk]
    have : halfOf ((flatL t).set (8 * q + r) e) i = halfOf (flatL t) i := by unfold halfOf; rw [hp]
    rw [this, halfOf_flat hi hh]
end Go.Proofs.Ytmdnmknmniabeaa
