/- Stores, plain: a full store has no block left. No program in sight. -/
import Derived.Test.YtmdnmknmniabeaaSt18
namespace Go.Proofs.Ytmdnmknmniabeaa
open Go.RowKit Go.Maps Pw
set_option linter.unusedSimpArgs false
set_option linter.unusedVariables false

/-- Numbers below c, each once, and all of them: c. -/
theorem all_once : ∀ (c : Nat) (l : List Int), l.Nodup → (∀ x ∈ l, 0 ≤ x ∧ x < (c : Int)) → (∀ b : Nat, b < c → (b : Int) ∈ l) → l.length = c
  | 0, l, _, h, _ => by
    match l with
    | [] => rfl
    | x :: r => have := h x List.mem_cons_self; omega
  | c + 1, l, hn, h, ha => by
    have hm := ha c (by omega)
    have hl := List.length_erase_of_mem hm
    have hpos := List.length_pos_of_mem hm
    have := all_once c (l.erase (c : Int)) (hn.erase _) (fun x hx => by
      have h1 := h x (List.mem_of_mem_erase hx)
      have h2 : x ≠ (c : Int) := fun e => by
        subst e
        exact hn.not_mem_erase hx
      omega) (fun b hb => by
      have h1 := ha b (by omega)
      exact (List.mem_erase_of_ne (by omega)).2 h1)
    omega
theorem scanB_ne {c : Int} : ∀ {l seen : List Int}, scanB c seen l ≠ 10
  | [], seen => by simp [scanB]
  | x :: r, seen => by
    rw [scanB_cons]
    split
    · decide
    · split
      · decide
      · exact scanB_ne
theorem scanF_ne {c : Int} : ∀ {l : List Fi} {seen : List Int}, scanF c seen l ≠ 10
  | [], seen => by simp [scanF]
  | x :: r, seen => by
    unfold scanF
    split
    · decide
    · split
      · decide
      · split
        · exact scanB_ne
        · exact scanF_ne
theorem wrongSt_ne (s : St) : wrongSt s ≠ 10 := by
  unfold wrongSt
  split
  · decide
  · exact scanF_ne
theorem left_count {s : St} (h : wrongSt s = 0) (hf : freeSt s < 0) : leftSt s = 0 := by
  obtain ⟨h1, h2, h3⟩ := wrongSt_iff.1 h
  have := all_once s.count.toNat (posB (blks s)) h3 (fun x hx => by
    obtain ⟨hx, h0⟩ := mem_posB.1 hx
    unfold blks at hx
    obtain ⟨f, hfm, hxf⟩ := List.mem_flatMap.1 hx
    have := (h2 f hfm).2.2.2 x hxf
    omega) (fun b hb => by
    have := freeSt_all hf b (by omega)
    unfold usedSt at this
    exact mem_posB.2 ⟨by simpa using this, by omega⟩)
  unfold leftSt
  rw [cntB_posB, this]
  omega
theorem block_full {s : St} {k i : Int} (h : blockE s k i = 10) : wrongSt s = 0 ∧ leftSt s = 0 := by
  unfold blockE at h
  by_cases g1 : wrongSt s ≠ 0
  · rw [if_pos g1] at h; exact absurd h (wrongSt_ne s)
  rw [if_neg g1] at h
  by_cases g2 : k < 0 ∨ (s.fs.length : Int) ≤ k
  · rw [if_pos g2] at h; cases h
  rw [if_neg g2] at h
  by_cases g3 : i < 0 ∨ ((fileAt s k).b.length : Int) ≤ i
  · rw [if_pos g3] at h; cases h
  rw [if_neg g3] at h
  by_cases g4 : blockAt s k i < 0 ∧ freeSt s < 0
  · exact ⟨Classical.not_not.1 g1, left_count (Classical.not_not.1 g1) g4.2⟩
  · rw [if_neg g4] at h; cases h
end Go.Proofs.Ytmdnmknmniabeaa
