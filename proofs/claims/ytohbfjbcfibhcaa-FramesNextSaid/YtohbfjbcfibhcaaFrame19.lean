/- Once around: the hand comes by each frame that is held, each once. In plain Lean. -/
import Derived.Test.YtohbfjbcfibhcaaFrame18
namespace Go.Proofs.Ytohbfjbcfibhcaa
open Go.RowKit Pw
set_option linter.unusedSimpArgs false
set_option linter.unusedVariables false

def heldC (l : List Fr) : Nat := (l.filter (fun f => decide (0 < f.r))).length
theorem heldC_app (a b : List Fr) : heldC (a ++ b) = heldC a + heldC b := by simp [heldC]
theorem heldC_take (l : List Fr) (k : Nat) (hk : k < l.length) : heldC (l.take (k + 1)) = heldC (l.take k) + (if 0 < l[k].r then 1 else 0) := by
  unfold heldC
  rw [List.take_add_one, List.getElem?_eq_getElem hk, Option.toList, List.filter_append]
  by_cases h : 0 < l[k].r <;> simp [h]
theorem heldC_free : ∀ (l : List Fr), (∀ f ∈ l, 0 ≤ f.r) → heldC l + freeN l = l.length
  | [], _ => rfl
  | f :: r, h => by
    have ih := heldC_free r (fun g hg => h g (List.mem_cons_of_mem _ hg))
    have h0 := h f (List.mem_cons_self ..)
    have e : heldC (f :: r) = (if 0 < f.r then 1 else 0) + heldC r := by
      unfold heldC
      rw [List.filter_cons]
      by_cases h : 0 < f.r
      · simp [h]; omega
      · simp [h]
    rw [e, freeN_cons, List.length_cons]
    by_cases h1 : f.r = 0
    · rw [if_neg (by omega), if_pos h1]; omega
    · rw [if_pos (by omega), if_neg h1]; omega
/-- The frames, from the hand on. -/
def turned (F : List Fr) (H : Nat) : List Fr := F.drop H ++ F.take H
theorem turned_len (F : List Fr) {H : Nat} (h : H ≤ F.length) : (turned F H).length = F.length := by simp [turned]; omega
theorem turned_at (F : List Fr) {H : Nat} (h : H < F.length) (t : Nat) (ht : t < F.length) : (turned F H)[t]'(by rw [turned_len F (by omega)]; exact ht) = F[(H + t) % F.length]'(Nat.mod_lt _ (by omega)) := by
  unfold turned
  rcases Nat.lt_or_ge (H + t) F.length with h1 | h1
  · rw [List.getElem_append_left (by simp; omega), List.getElem_drop]
    congr 1
    rw [Nat.mod_eq_of_lt h1]
  · rw [List.getElem_append_right (by simp; omega), List.getElem_take]
    congr 1
    rw [Nat.mod_eq_sub_mod h1, Nat.mod_eq_of_lt (by omega)]
    simp
    omega
theorem turned_held (F : List Fr) (H : Nat) : heldC (turned F H) = heldC F := by
  unfold turned
  rw [heldC_app, Nat.add_comm, ← heldC_app, List.take_append_drop]

/-- A memory in which no frame is used, its hand so far on. -/
def atHand (F : List Fr) (H p : Nat) : Mem := ⟨F, ((H + p) % F.length : Nat)⟩
theorem atHand_idx (F : List Fr) (H p s : Nat) : idxM (atHand F H p) s = (H + p + s) % F.length := by
  unfold idxM atHand
  simp only [Int.toNat_natCast, Nat.mod_add_mod]
theorem clr_unused {F : List Fr} (hu : ∀ f ∈ F, f.u = false) (h : Int) (s : Nat) : clrM ⟨F, h⟩ s = F := by
  apply List.ext_getElem
  · rw [clr_len]
  · intro i h1 h2
    rw [clr_get _ s i h2]
    split
    · exact unused_same (hu _ (List.getElem_mem h2))
    · rfl
structure Calm (F : List Fr) : Prop where
  le : F.length ≤ 40
  ok : ∀ f ∈ F, frameE f = 0
  un : ∀ f ∈ F, f.u = false
theorem Calm.wrong {F : List Fr} (h : Calm F) (H p : Nat) (hp : 0 < F.length) : wrongM (atHand F H p) = 0 := by
  rw [wrongM_iff]
  have := Nat.mod_lt (H + p) hp
  exact ⟨h.le, h.ok, by show (0 : Int) ≤ (((H + p) % F.length : Nat) : Int); omega, .inr (by show ((_ : Nat) : Int) < (F.length : Int); omega)⟩
theorem Calm.next {F : List Fr} (h : Calm F) {H p t : Nat} (hH : H < F.length) (hpt : p ≤ t) (ht : t < F.length) (hr : 0 < ((turned F H)[t]'(by rw [turned_len F (by omega)]; exact ht)).r) (hno : ∀ q (hq : q < F.length), p ≤ q → q < t → ¬ 0 < ((turned F H)[q]'(by rw [turned_len F (by omega)]; exact hq)).r) :
    nextM (atHand F H p) = atHand F H (t + 1) ∧ nextK (atHand F H p) = ((H + t) % F.length : Nat) := by
  have hp0 : 0 < F.length := by omega
  have hw := h.wrong H p hp0
  have hst : ∀ s, p + s < F.length → stopM (atHand F H p) s = decide (0 < ((turned F H).getD (p + s) fr0).r) := by
    intro s hs
    unfold stopM
    rw [atHand_idx]
    have e1 : (atHand F H p).fs.getD ((H + p + s) % F.length) fr0 = F[(H + p + s) % F.length]'(Nat.mod_lt _ hp0) := by
      simp [atHand, Nat.mod_lt _ hp0]
    have e2 : (turned F H).getD (p + s) fr0 = F[(H + p + s) % F.length]'(Nat.mod_lt _ hp0) := by
      rw [List.getD_eq_getElem?_getD, List.getElem?_eq_getElem (by rw [turned_len F (by omega)]; exact hs), Option.getD_some, turned_at F hH (p + s) hs]
      congr 2
      omega
    rw [e1, e2, h.un _ (List.getElem_mem _)]
    simp
  have hfree : freeN (atHand F H p).fs ≠ (atHand F H p).fs.length := by
    rw [Ne, free_full]
    intro hall
    have := hall (F[(H + t) % F.length]'(Nat.mod_lt _ hp0)) (List.getElem_mem _)
    rw [turned_at F hH t ht] at hr
    omega
  have hS : nextS (atHand F H p) = t - p := by
    refine next_is _ hw hfree _ ?_ ?_
    · rw [hst _ (by omega), show p + (t - p) = t from by omega, List.getD_eq_getElem?_getD, List.getElem?_eq_getElem (by rw [turned_len F (by omega)]; exact ht)]
      simpa using hr
    · intro q hq
      rw [hst _ (by omega), List.getD_eq_getElem?_getD, List.getElem?_eq_getElem (by rw [turned_len F (by omega)]; omega)]
      have := hno (p + q) (by omega) (by omega) (by omega)
      simpa using this
  constructor
  · unfold nextM
    rw [if_neg (fun e => e hw), if_neg hfree, hS, atHand_idx]
    have : clrM (atHand F H p) (t - p) = F := clr_unused h.un _ _
    rw [this]
    unfold atHand
    rw [show H + p + (t - p + 1) = H + (t + 1) from by omega]
  · unfold nextK
    rw [if_neg (fun e => e hw), if_neg hfree, hS, atHand_idx, show H + p + (t - p) = H + t from by omega]
/-- There is one more, as long as not all were there. -/
theorem one_more (L : List Fr) (p i : Nat) (hp : p ≤ L.length - 1) (hc : heldC (L.take p) = i) (hlt : i < heldC (L.take (L.length - 1))) : ∃ t, ∃ h : t < L.length, p ≤ t ∧ t < L.length - 1 ∧ 0 < L[t].r ∧ (∀ q (hq : q < L.length), p ≤ q → q < t → ¬ 0 < L[q].r) ∧ heldC (L.take (t + 1)) = i + 1 := by
  have key : ∀ d q, L.length - 1 - q = d → p ≤ q → q ≤ L.length - 1 → heldC (L.take q) = i → (∀ r (hr : r < L.length), p ≤ r → r < q → ¬ 0 < L[r].r) → ∃ t, ∃ h : t < L.length, p ≤ t ∧ t < L.length - 1 ∧ 0 < L[t].r ∧ (∀ q (hq : q < L.length), p ≤ q → q < t → ¬ 0 < L[q].r) ∧ heldC (L.take (t + 1)) = i + 1 := by
    intro d
    induction d with
    | zero =>
      intro q hd hpq hq hcq _
      have : q = L.length - 1 := by omega
      subst this
      omega
    | succ d ih =>
      intro q hd hpq hq hcq hno
      have hql : q < L.length := by omega
      have ht := heldC_take L q hql
      by_cases hr : 0 < L[q].r
      · rw [if_pos hr, hcq] at ht
        exact ⟨q, hql, hpq, by omega, hr, hno, ht⟩
      · rw [if_neg hr, hcq] at ht
        refine ih (q + 1) (by omega) (by omega) (by omega) (by omega) (fun r hr' h1 h2 => ?_)
        by_cases e : r = q
        · subst e; exact hr
        · exact hno r hr' h1 (by omega)
  exact key _ p rfl (Nat.le_refl _) hp hc (fun r _ h1 h2 => by omega)
end Go.Proofs.Ytohbfjbcfibhcaa
