/- Plain laws of areas: tidied, cut, put in: what each page is then. -/
import Derived.Test.YtmdnmknmniabeaaAr9
namespace Go.Proofs.Ytmdnmknmniabeaa
open Go.RowKit Pw
set_option linter.unusedSimpArgs false
set_option linter.unusedVariables false

/-- Tidied, from the front. -/
def tidyGo (q : Ar) : List Ar → List Ar
  | [] => [q]
  | a :: r => if joinsB q a then tidyGo { q with en := a.en } r else q :: tidyGo a r
theorem tidyStep_at (init : List Ar) (q a : Ar) : tidyStep (init ++ [q]) a = if joinsB q a then init ++ [{ q with en := a.en }] else init ++ [q] ++ [a] := by
  unfold tidyStep
  rw [List.getLast?_concat]
  simp only []
  split
  · simp
  · rfl
theorem tidy_go : ∀ (r : List Ar) (init : List Ar) (q : Ar), r.foldl tidyStep (init ++ [q]) = init ++ tidyGo q r
  | [], init, q => rfl
  | a :: r, init, q => by
    rw [List.foldl_cons, tidyStep_at]
    unfold tidyGo
    split
    · exact tidy_go r init _
    · rw [tidy_go r (init ++ [q]) a, List.append_assoc]; rfl
theorem tidyL_cons (a : Ar) (r : List Ar) : tidyL (a :: r) = tidyGo a r := by
  unfold tidyL
  rw [List.foldl_cons]
  exact tidy_go r [] a
theorem joins_right {q a : Ar} (hq : areaE q = 0) (ha : areaE a = 0) (h : joinsB q a = true) : areaE { q with en := a.en } = 0 := by
  obtain ⟨h1, h2, h3, h4, h5, h6⟩ := joins_iff.1 h
  have eq := areaE_few hq
  have ea := areaE_few ha
  unfold arFew at eq ea
  unfold areaE
  rw [if_neg (by simp only []; omega), if_neg]
  simp only []
  rintro (⟨k1, k2⟩ | ⟨k1, k2⟩)
  · have := eq.2.2.2.2.1 k1
    rcases k2 with k2 | k2
    · exact k2 this.1
    · rw [this.2] at k2; cases k2
  · have h7 := ea.2.2.2.2.2 (by omega)
    unfold baseOn at h6
    rw [if_pos k1] at h6
    omega
theorem joins_on {q a : Ar} {r : List Ar} (hq : areaE q = 0) (ha : areaE a = 0) (h : joinsB q a = true) (n : Int) : onA ({ q with en := a.en } :: r) n = onA (q :: a :: r) n := by
  have hp := joins_pg h n
  obtain ⟨h1, _⟩ := joins_iff.1 h
  have h2 := (areaE_few hq).2.1
  have h3 := (areaE_few ha).2.1
  rw [onA_cons, onA_cons, onA_cons]
  have hpp : pgOf { q with en := a.en } n = pgOf q n := rfl
  by_cases c1 : inA n q = true
  · rw [if_pos c1, if_pos (by rw [inA_iff] at c1 ⊢; simp only []; omega), hpp]
  · rw [if_neg c1]
    by_cases c2 : inA n a = true
    · rw [if_pos c2, if_pos (by rw [inA_iff] at c2 ⊢; simp only []; omega), hpp, hp]
    · rw [if_neg c2, if_neg]
      rw [inA_iff] at c1 c2 ⊢
      simp only []
      omega
theorem go_on : ∀ {r : List Ar} {q : Ar}, areaE q = 0 → srtF q.en r → ∀ n, onA (tidyGo q r) n = onA (q :: r) n
  | [], q, _, _, n => rfl
  | a :: r, q, hq, h, n => by
    unfold tidyGo
    split
    · rename_i hj
      rw [go_on (joins_right hq h.1 hj) (by simpa using h.2.2) n, joins_on hq h.1 hj]
    · rw [onA_cons, go_on h.1 h.2.2 n, ← onA_cons]
theorem go_ok : ∀ {r : List Ar} {q : Ar} {p : Option Ar}, areaE q = 0 → srtF q.en r → badOn p q = false → okF p (tidyGo q r)
  | [], q, p, hq, _, hb => ⟨hq, hb, trivial⟩
  | a :: r, q, p, hq, h, hb => by
    unfold tidyGo
    split
    · rename_i hj
      refine go_ok (joins_right hq h.1 hj) (by simpa using h.2.2) ?_
      cases p with
      | none => rfl
      | some z => exact hb
    · rename_i hj
      exact ⟨hq, hb, go_ok h.1 h.2.2 (bad_some.2 ⟨h.2.1, by simpa using hj⟩)⟩
theorem tidy_on {l : List Ar} {lo : Int} (h : srtF lo l) (n : Int) : onA (tidyL l) n = onA l n := by
  match l, h with
  | [], _ => rfl
  | a :: r, h => rw [tidyL_cons, go_on h.1 h.2.2]
theorem tidy_ok {l : List Ar} {lo : Int} (h : srtF lo l) : okF none (tidyL l) := by
  match l, h with
  | [], _ => trivial
  | a :: r, h => rw [tidyL_cons]; exact go_ok h.1 h.2.2 rfl

/-- Put in, from the front. -/
def insR (x : Ar) : List Ar → List Ar
  | [] => [x]
  | a :: r => if x.fr < a.fr then x :: a :: r else a :: insR x r
theorem insA_eq (x : Ar) : ∀ l : List Ar, insA l x = insR x l
  | [] => rfl
  | a :: r => by
    have ih := insA_eq x r
    unfold insA posA at ih ⊢
    unfold insR
    rw [List.findIdx?_cons]
    by_cases h : x.fr < a.fr
    · rw [if_pos h, if_pos (show behindA x a = true from decide_eq_true h)]
      rfl
    · rw [if_neg h, if_neg (show ¬ behindA x a = true by unfold behindA; simpa using h)]
      cases hq : r.findIdx? (behindA x) with
      | none => rw [hq] at ih; simp only [Option.map_none] at *; rw [← ih]; simp
      | some k => rw [hq] at ih; simp only [Option.map_some] at *; rw [← ih]; simp
theorem insR_on {x : Ar} (hx : areaE x = 0) (n : Int) : ∀ {l : List Ar} {lo : Int}, srtF lo l → (∀ a ∈ l, meetsA x a = false) → onA (insR x l) n = if inA n x then some (pgOf x n) else onA l n
  | [], _, _, _ => rfl
  | a :: r, lo, h, hm => by
    unfold insR
    split
    · rfl
    · rename_i hlt
      rw [onA_cons, onA_cons, insR_on hx n h.2.2 (fun b hb => hm b (List.mem_cons_of_mem _ hb))]
      by_cases c1 : inA n a = true
      · rw [if_pos c1, if_pos c1]
        rw [if_neg]
        rw [inA_iff] at c1 ⊢
        have hm1 := hm a List.mem_cons_self
        unfold meetsA at hm1
        have h2 := (areaE_few hx).2.1
        have h3 := (areaE_few h.1).2.1
        simp only [Bool.and_eq_false_iff, decide_eq_false_iff_not] at hm1
        omega
      · rw [if_neg c1, if_neg c1]
theorem insR_srt {x : Ar} (hx : areaE x = 0) : ∀ {l : List Ar} {lo : Int}, srtF lo l → lo ≤ x.fr → (∀ a ∈ l, meetsA x a = false) → srtF lo (insR x l)
  | [], lo, _, hl, _ => ⟨hx, hl, trivial⟩
  | a :: r, lo, h, hl, hm => by
    have hm1 := hm a List.mem_cons_self
    unfold meetsA at hm1
    have h2 := (areaE_few hx).2.1
    have h3 := (areaE_few h.1).2.1
    simp only [Bool.and_eq_false_iff, decide_eq_false_iff_not] at hm1
    unfold insR
    split
    · exact ⟨hx, hl, h.1, by omega, h.2.2⟩
    · rename_i hlt
      exact ⟨h.1, h.2.1, insR_srt hx h.2.2 (by omega) (fun b hb => hm b (List.mem_cons_of_mem _ hb))⟩

/-- A part of an area. -/
theorem part_some {a x : Ar} {f t : Int} (ha : areaE a = 0) (h : partA a f t = some x) : areaE x = 0 ∧ (x.fr = a.fr ∨ x.fr = f) ∧ a.fr ≤ x.fr ∧ f ≤ x.fr ∧ x.en ≤ a.en ∧ x.en ≤ t ∧ (x.en = a.en ∨ x.en = t) ∧ ∀ n, pgOf x n = pgOf a n := by
  have e := areaE_few ha
  unfold arFew at e
  have e5 := e.2.2.2.2.1
  have e6 := e.2.2.2.2.2
  unfold partA at h
  split at h
  · cases h
  · rename_i hlt
    cases h
    have l1 : a.fr ≤ loA a f ∧ f ≤ loA a f ∧ (loA a f = a.fr ∨ loA a f = f) := by unfold loA; split <;> omega
    have l2 : hiA a t ≤ a.en ∧ hiA a t ≤ t ∧ (hiA a t = a.en ∨ hiA a t = t) := by unfold hiA; split <;> omega
    refine ⟨?_, l1.2.2, l1.1, l1.2.1, l2.1, l2.2.1, l2.2.2, fun n => ?_⟩
    · unfold areaE
      simp only []
      by_cases hf : 0 ≤ a.fi
      · have e6 := e6 hf
        rw [if_pos hf, if_neg (by omega), if_neg (by omega)]
      · have e5 := e5 (by omega)
        rw [if_neg hf, if_neg (by omega), if_neg]
        rintro (⟨_, k2 | k2⟩ | ⟨k1, _⟩)
        · exact k2 e5.1
        · rw [e5.2] at k2; cases k2
        · exact hf k1
    · unfold pgOf
      simp only []
      by_cases hf : 0 ≤ a.fi
      · rw [if_pos hf, if_pos hf, if_pos hf]; congr 1; omega
      · rw [if_neg hf, if_neg hf]
theorem part_on {a : Ar} {f t : Int} (ha : areaE a = 0) (n : Int) : onA (partA a f t).toList n = if inA n a = true ∧ f ≤ n ∧ n < t then some (pgOf a n) else none := by
  cases h : partA a f t with
  | none =>
    rw [if_neg]
    · rfl
    · unfold partA at h
      split at h
      · rename_i hle
        rw [inA_iff]
        unfold loA hiA at hle
        split at hle <;> split at hle <;> omega
      · cases h
  | some x =>
    obtain ⟨h1, h2, h3, h4, h5, h6, h7, h8⟩ := part_some ha h
    rw [Option.toList_some, onA_cons, h8]
    by_cases c : inA n x = true
    · rw [if_pos c, if_pos]
      rw [inA_iff] at c ⊢
      omega
    · rw [if_neg c, if_neg]
      · rfl
      · rw [inA_iff] at c ⊢
        omega
end Go.Proofs.Ytmdnmknmniabeaa
