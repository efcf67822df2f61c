/- Plain laws of stores for StoreTells and StoreSize: what is left is what no page has; a file's size set. -/
import Derived.Test.YtmdnmknmniabeaaSt19
namespace Go.Proofs.Ytmdnmknmniabeaa
open Go.RowKit Pw
set_option linter.unusedSimpArgs false
set_option linter.unusedVariables false

/-- How many of the first c blocks no page has. -/
def unusedN (s : St) (c : Nat) : Nat := ((List.range c).filter fun b : Nat => !usedSt s b).length
theorem unusedN_next (s : St) (c : Nat) : unusedN s (c + 1) = unusedN s c + (if usedSt s c then 0 else 1) := by
  unfold unusedN
  rw [List.range_succ, List.filter_append, List.length_append, List.filter_cons, List.filter_nil]
  cases usedSt s (c : Int) <;> simp
theorem unusedN_le (s : St) : ∀ c : Nat, unusedN s c ≤ c
  | 0 => by simp [unusedN]
  | c + 1 => by have := unusedN_le s c; rw [unusedN_next]; split <;> omega
theorem count_once : ∀ (c : Nat) (l : List Int), l.Nodup → (∀ x ∈ l, 0 ≤ x ∧ x < (c : Int)) → l.length + ((List.range c).filter fun b : Nat => !decide ((b : Int) ∈ l)).length = c
  | 0, l, _, h => by
    match l with
    | [] => rfl
    | x :: r => have := h x List.mem_cons_self; omega
  | c + 1, l, hn, h => by
    rw [List.range_succ, List.filter_append, List.length_append, List.filter_cons, List.filter_nil]
    by_cases hm : (c : Int) ∈ l
    · have hl := List.length_erase_of_mem hm
      have hpos := List.length_pos_of_mem hm
      have ih := count_once c (l.erase (c : Int)) (hn.erase _) (fun x hx => by
        have h1 := h x (List.mem_of_mem_erase hx)
        have h2 : x ≠ (c : Int) := fun e => by
          subst e
          exact hn.not_mem_erase hx
        omega)
      have e : ((List.range c).filter fun b : Nat => !decide ((b : Int) ∈ l.erase (c : Int))) = (List.range c).filter fun b : Nat => !decide ((b : Int) ∈ l) := by
        apply List.filter_congr
        intro b hb
        have hb := List.mem_range.1 hb
        have : ((b : Int) ∈ l.erase (c : Int)) ↔ (b : Int) ∈ l := List.mem_erase_of_ne (by omega)
        simp only [this]
      rw [e] at ih
      simp only [hm, decide_true, Bool.not_true, Bool.false_eq_true, if_false, List.length_nil]
      omega
    · have ih := count_once c l hn (fun x hx => by
        have h1 := h x hx
        have h2 : x ≠ (c : Int) := fun e => hm (by rw [← e]; exact hx)
        omega)
      simp only [hm, decide_false, Bool.not_false, if_true, List.length_cons, List.length_nil]
      omega
theorem left_all {s : St} (h : wrongSt s = 0) : leftSt s = (unusedN s s.count.toNat : Int) := by
  obtain ⟨h1, h2, h3⟩ := wrongSt_iff.1 h
  have := count_once s.count.toNat (posB (blks s)) h3 (fun x hx => by
    obtain ⟨hx, h0⟩ := mem_posB.1 hx
    unfold blks at hx
    obtain ⟨f, hfm, hxf⟩ := List.mem_flatMap.1 hx
    have := (h2 f hfm).2.2.2 x hxf
    omega)
  have e : ((List.range s.count.toNat).filter fun b : Nat => !decide ((b : Int) ∈ posB (blks s))) = (List.range s.count.toNat).filter fun b : Nat => !usedSt s b := by
    apply List.filter_congr
    intro b hb
    have : ((b : Int) ∈ posB (blks s)) ↔ (b : Int) ∈ blks s := by rw [mem_posB]; exact ⟨fun h => h.1, fun h => ⟨h, by omega⟩⟩
    simp only [usedSt, this]
  rw [e] at this
  unfold leftSt unusedN
  rw [cntB_posB]
  omega
theorem posB_all_neg {l : List Int} (h : ∀ x ∈ l, x < 0) : posB l = [] := by
  unfold posB
  rw [List.filter_eq_nil_iff]
  intro x hx
  have := h x hx
  simp; omega
theorem size_parts {s : St} {k n : Int} (h : sizeE s k n = 0) : wrongSt s = 0 ∧ ∃ (F : Nat) (f : Fi), k = F ∧ s.fs[F]? = some f ∧ 0 ≤ n ∧ n ≤ 96 ∧ sizeS s k n = ⟨s.fs.set F ⟨n, resized f.b (countS n).toNat⟩, s.count⟩ := by
  have h0 := h
  unfold sizeE at h
  split at h
  · exact absurd h (by assumption)
  · rename_i hw
    split at h
    · omega
    · rename_i hk
      split at h
      · omega
      · rename_i hn
        obtain ⟨F, rfl⟩ : ∃ F : Nat, k = F := ⟨k.toNat, by omega⟩
        have hF : F < s.fs.length := by omega
        refine ⟨by omega, F, s.fs[F], rfl, List.getElem?_eq_getElem hF, by omega, by omega, ?_⟩
        unfold sizeS
        rw [if_neg (by omega)]
        unfold withFile fileAt
        rw [if_pos (by omega)]
        simp [List.getElem?_eq_getElem hF]
theorem size_right {s : St} {k n : Int} (h : sizeE s k n = 0) : wrongSt (sizeS s k n) = 0 := by
  obtain ⟨hw, F, f, rfl, hf, h0, h96, hs⟩ := size_parts h
  obtain ⟨h1, h2, h3⟩ := wrongSt_iff.1 hw
  rw [hs]
  have hk := countS_nn n
  have hfm := h2 f (List.mem_of_getElem? hf)
  apply wrongSt_iff.2
  obtain ⟨e1, e2⟩ := set_split hf ⟨n, resized f.b (countS n).toNat⟩
  refine ⟨⟨by simpa using h1.1, h1.2.1, h1.2.2⟩, fun g hg => ?_, ?_⟩
  · rcases List.mem_or_eq_of_mem_set hg with hg | rfl
    · exact h2 g hg
    · refine ⟨h0, h96, by simp only [resized_len]; omega, fun b hb => ?_⟩
      rcases List.mem_append.1 hb with hb | hb
      · exact hfm.2.2.2 b (List.mem_of_mem_take hb)
      · have := (List.mem_replicate.1 hb).2
        have := h1.2.1
        show -1 ≤ b ∧ b < s.count
        omega
  · unfold blks at h3 ⊢
    rw [show (⟨s.fs.set F ⟨n, resized f.b (countS n).toNat⟩, s.count⟩ : St).fs = s.fs.set F ⟨n, resized f.b (countS n).toNat⟩ from rfl, e2]
    rw [e1] at h3
    simp only [List.flatMap_append, List.flatMap_cons, posB_app] at h3 ⊢
    refine h3.sublist ?_
    refine List.Sublist.append (List.Sublist.refl _) (List.Sublist.append ?_ (List.Sublist.refl _))
    show (posB (resized f.b (countS n).toNat)).Sublist (posB f.b)
    unfold resized
    rw [posB_app, posB_all_neg (l := List.replicate _ (-1)) (fun x hx => by have := (List.mem_replicate.1 hx).2; omega), List.append_nil]
    exact (List.take_sublist _ _).filter _
/-- What a file's blocks are, cut or grown. -/
theorem resized_at {b : List Int} {kk i : Nat} (hi : i < kk) : (resized b kk)[i]? = some (b.getD i (-1)) := by
  unfold resized
  by_cases hb : i < b.length
  · rw [List.getElem?_append_left (by simp; omega)]
    simp [List.getElem?_eq_getElem hb, hi]
  · rw [List.getElem?_append_right (by simp; omega)]
    rw [List.getElem?_replicate, if_pos (by simp; omega)]
    simp [List.getElem?_eq_none (show b.length ≤ i by omega)]
end Go.Proofs.Ytmdnmknmniabeaa
