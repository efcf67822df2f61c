/- Disks: plain laws: what is written is read; what was not written reads as before. -/
import Derived.Test.YtohbfjbcfibhcaaDisk4
namespace Go.Proofs.Ytohbfjbcfibhcaa
open Go.RowKit Pw
set_option linter.unusedSimpArgs false
set_option linter.unusedVariables false

theorem over_cons (k : Int) (p : Page) (q : Int × Page) (r : List (Int × Page)) : over k p (q :: r) = over k (if q.1 = k then q.2 else p) r := rfl
theorem wrongD_iff (d : Dsk) : wrongD d = 0 ↔ d.blocks.length ≤ 80 ∧ d.queue.length ≤ 400 ∧ ∀ x ∈ d.queue, 0 ≤ x.1 ∧ x.1 < d.blocks.length := by
  unfold wrongD
  constructor
  · intro h
    split at h
    · omega
    split at h
    · omega
    rename_i h1 h2
    refine ⟨by omega, by omega, fun x hx => ?_⟩
    have := List.any_eq_false.1 (by simpa using h2) x hx
    simp [badW] at this
    omega
  · rintro ⟨h1, h2, h3⟩
    rw [if_neg (by omega), if_neg]
    simp only [List.any_eq_true, not_exists, not_and]
    intro x hx
    have := h3 x hx
    simp [badW]
    omega
theorem wrong_or_ok {d : Dsk} {k : Int} : wrong_or d k = 0 ↔ wrongD d = 0 ∧ 0 ≤ k ∧ k < d.blocks.length := by
  unfold wrong_or
  constructor
  · intro h
    split at h
    · omega
    split at h
    · omega
    · omega
  · rintro ⟨h1, h2, h3⟩
    rw [if_neg (by omega), if_neg (by omega)]
theorem push_len (d : Dsk) (x : Int × Page) : (pushW d x).blocks.length = d.blocks.length := by
  unfold pushW
  split
  · rfl
  · split
    · simp
    · rfl
theorem push_wrong {d : Dsk} {x : Int × Page} (h : wrongD d = 0) (h0 : 0 ≤ x.1) (h1 : x.1 < d.blocks.length) : wrongD (pushW d x) = 0 := by
  obtain ⟨h2, h3, h4⟩ := (wrongD_iff d).1 h
  rw [wrongD_iff, push_len]
  refine ⟨h2, ?_, ?_⟩
  · unfold pushW
    split
    · simp
    · rename_i q r e
      rw [e] at h3
      split
      · rename_i e4; simp at e4 ⊢; omega
      · rename_i e4; simp at e4 h3 ⊢; omega
  · intro y hy
    have : y = x ∨ y ∈ d.queue := by
      unfold pushW at hy
      split at hy
      · simp at hy; exact .inl hy
      · rename_i q r e
        rw [e]
        split at hy
        · simp at hy ⊢; rcases hy with h | h
          · exact .inr (.inr h)
          · exact .inl h
        · simp at hy ⊢; rcases hy with h | h | h
          · exact .inr (.inl h)
          · exact .inr (.inr h)
          · exact .inl h
    rcases this with rfl | h
    · exact ⟨h0, h1⟩
    · exact h4 y h
/-- What a block reads as behind a write. -/
theorem push_over (d : Dsk) (x : Int × Page) (o : Int) (hq : ∀ y ∈ d.queue, 0 ≤ y.1 ∧ y.1 < d.blocks.length) (ho : 0 ≤ o) (ho' : o < d.blocks.length) :
    over o ((pushW d x).blocks.getD o.toNat zPg) (pushW d x).queue = if x.1 = o then x.2 else over o (d.blocks.getD o.toNat zPg) d.queue := by
  unfold pushW
  split
  · rename_i e
    rw [e]
    rfl
  · rename_i q r e
    split
    · have hq' := hq q (by rw [e]; exact List.mem_cons_self ..)
      rw [over_snoc]
      congr 1
      rw [e, over_cons]
      congr 1
      simp only [List.getD_eq_getElem?_getD, List.getElem?_set]
      by_cases hqo : q.1 = o
      · rw [if_pos hqo, if_pos (by rw [hqo]), if_pos (by rw [hqo]; omega)]
        rfl
      · rw [if_neg hqo, if_neg (by omega)]
    · rw [e, over_snoc]
theorem push_or {d : Dsk} {x : Int × Page} (h : wrongD d = 0) (h0 : 0 ≤ x.1) (h1 : x.1 < d.blocks.length) (o : Int) : wrong_or (pushW d x) o = wrong_or d o := by
  unfold wrong_or
  rw [push_wrong h h0 h1, h, push_len]
theorem push_read {d : Dsk} {x : Int × Page} (h : wrongD d = 0) (h0 : 0 ≤ x.1) (h1 : x.1 < d.blocks.length) (o : Int) : readP (pushW d x) o = if wrong_or d o = 0 ∧ x.1 = o then x.2 else readP d o := by
  unfold readP
  rw [push_or h h0 h1]
  by_cases ho : wrong_or d o = 0
  · obtain ⟨_, g0, g1⟩ := wrong_or_ok.1 ho
    rw [if_pos ho, if_pos ho, push_over d x o ((wrongD_iff d).1 h).2.2 g0 g1]
    simp [ho]
  · rw [if_neg ho, if_neg ho, if_neg (fun h => ho h.1)]
end Go.Proofs.Ytohbfjbcfibhcaa
