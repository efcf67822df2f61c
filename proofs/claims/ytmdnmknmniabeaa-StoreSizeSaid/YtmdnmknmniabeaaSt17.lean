/- Stores, plain: what is not wrong. No program in sight. -/
import Derived.Test.YtmdnmknmniabeaaSt10
namespace Go.Proofs.Ytmdnmknmniabeaa
open Go.RowKit Go.Maps Pw
set_option linter.unusedSimpArgs false
set_option linter.unusedVariables false

def posB (l : List Int) : List Int := l.filter fun x => decide (0 ≤ x)
theorem posB_app (l m : List Int) : posB (l ++ m) = posB l ++ posB m := List.filter_append _ _
theorem mem_posB {l : List Int} {x : Int} : x ∈ posB l ↔ x ∈ l ∧ 0 ≤ x := by unfold posB; simp
theorem scanB_iff {c : Int} : ∀ {l seen : List Int}, scanB c seen l = 0 ↔ (∀ b ∈ l, -1 ≤ b ∧ b < c) ∧ (posB l).Nodup ∧ ∀ b ∈ l, 0 ≤ b → ¬ b ∈ seen
  | [], seen => by simp [scanB, posB]
  | x :: r, seen => by
    rw [scanB_cons]
    by_cases k1 : x < -1 ∨ c ≤ x
    · rw [if_pos k1]
      refine ⟨fun h => (by cases h), fun h => ?_⟩
      have := h.1 x List.mem_cons_self
      omega
    · rw [if_neg k1]
      by_cases k2 : 0 ≤ x ∧ x ∈ seen
      · rw [if_pos k2]
        refine ⟨fun h => (by cases h), fun h => absurd k2.2 (h.2.2 x List.mem_cons_self k2.1)⟩
      · rw [if_neg k2, scanB_iff (l := r)]
        have hp : posB (x :: r) = if 0 ≤ x then x :: posB r else posB r := by unfold posB; rw [List.filter_cons]; simp
        rw [hp]
        constructor
        · intro ⟨h1, h2, h3⟩
          refine ⟨fun b hb => ?_, ?_, fun b hb h0 hs => ?_⟩
          · rcases List.mem_cons.1 hb with rfl | hb
            · omega
            · exact h1 b hb
          · by_cases hx : 0 ≤ x
            · rw [if_pos hx]
              refine List.nodup_cons.2 ⟨fun hm => ?_, h2⟩
              exact h3 x (mem_posB.1 hm).1 hx (List.mem_append_right _ (List.mem_singleton.2 rfl))
            · rw [if_neg hx]; exact h2
          · rcases List.mem_cons.1 hb with rfl | hb
            · exact k2 ⟨h0, hs⟩
            · exact h3 b hb h0 (List.mem_append_left _ hs)
        · intro ⟨h1, h2, h3⟩
          refine ⟨fun b hb => h1 b (List.mem_cons_of_mem _ hb), ?_, fun b hb h0 hs => ?_⟩
          · by_cases hx : 0 ≤ x
            · rw [if_pos hx] at h2; exact (List.nodup_cons.1 h2).2
            · rw [if_neg hx] at h2; exact h2
          · rcases List.mem_append.1 hs with hs | hs
            · exact h3 b (List.mem_cons_of_mem _ hb) h0 hs
            · rw [List.mem_singleton.1 hs] at hb h0
              rw [if_pos h0] at h2
              exact (List.nodup_cons.1 h2).1 (mem_posB.2 ⟨hb, h0⟩)
def fileOk (c : Int) (f : Fi) : Prop := 0 ≤ f.n ∧ f.n ≤ 96 ∧ (f.b.length : Int) = countS f.n ∧ ∀ b ∈ f.b, -1 ≤ b ∧ b < c
theorem scanF_iff {c : Int} : ∀ {fs : List Fi} {seen : List Int}, scanF c seen fs = 0 ↔ (∀ f ∈ fs, fileOk c f) ∧ (posB (fs.flatMap Fi.b)).Nodup ∧ ∀ b ∈ fs.flatMap Fi.b, 0 ≤ b → ¬ b ∈ seen
  | [], seen => by simp [scanF, posB]
  | f :: r, seen => by
    unfold scanF
    by_cases g1 : f.n < 0 ∨ 96 < f.n
    · rw [if_pos g1]
      refine ⟨fun h => (by cases h), fun h => ?_⟩
      have := h.1 f List.mem_cons_self
      unfold fileOk at this
      omega
    · rw [if_neg g1]
      by_cases g2 : (f.b.length : Int) ≠ countS f.n
      · rw [if_pos g2]
        exact ⟨fun h => (by cases h), fun h => absurd (h.1 f List.mem_cons_self).2.2.1 g2⟩
      · rw [if_neg g2, List.flatMap_cons, posB_app]
        by_cases g3 : scanB c seen f.b ≠ 0
        · rw [if_pos g3]
          refine ⟨fun h => absurd h g3, fun h => absurd (scanB_iff.2 ⟨(h.1 f List.mem_cons_self).2.2.2, (List.nodup_append.1 h.2.1).1, fun b hb => h.2.2 b (List.mem_append_left _ hb)⟩) g3⟩
        · rw [if_neg g3, scanF_iff (fs := r)]
          have g3' := scanB_iff.1 (Classical.not_not.1 g3)
          constructor
          · intro ⟨h1, h2, h3⟩
            refine ⟨fun x hx => ?_, List.nodup_append.2 ⟨g3'.2.1, h2, fun a ha b hb e => ?_⟩, fun b hb h0 hs => ?_⟩
            · rcases List.mem_cons.1 hx with rfl | hx
              · exact ⟨by omega, by omega, Classical.not_not.1 g2, g3'.1⟩
              · exact h1 x hx
            · subst e
              exact h3 a (mem_posB.1 hb).1 (mem_posB.1 hb).2 (List.mem_append_right _ (mem_posB.1 ha).1)
            · rcases List.mem_append.1 hb with hb | hb
              · exact g3'.2.2 b hb h0 hs
              · exact h3 b hb h0 (List.mem_append_left _ hs)
          · intro ⟨h1, h2, h3⟩
            obtain ⟨n1, n2, n3⟩ := List.nodup_append.1 h2
            refine ⟨fun x hx => h1 x (List.mem_cons_of_mem _ hx), n2, fun b hb h0 hs => ?_⟩
            rcases List.mem_append.1 hs with hs | hs
            · exact h3 b (List.mem_append_right _ hb) h0 hs
            · exact n3 b (mem_posB.2 ⟨hs, h0⟩) b (mem_posB.2 ⟨hb, h0⟩) rfl
theorem wrongSt_iff {s : St} : wrongSt s = 0 ↔ (s.fs.length ≤ 5 ∧ 0 ≤ s.count ∧ s.count ≤ 80) ∧ (∀ f ∈ s.fs, fileOk s.count f) ∧ (posB (blks s)).Nodup := by
  unfold wrongSt
  by_cases g : 5 < s.fs.length ∨ s.count < 0 ∨ 80 < s.count
  · rw [if_pos g]
    exact ⟨fun h => (by cases h), fun h => by omega⟩
  · rw [if_neg g, scanF_iff]
    exact ⟨fun h => ⟨by omega, h.1, h.2.1⟩, fun h => ⟨h.2.1, h.2.2, fun b _ _ hm => by cases hm⟩⟩
end Go.Proofs.Ytmdnmknmniabeaa
