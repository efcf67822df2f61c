/- Plain laws of areas: unmapped, protected, mapped; where there is room. -/
import Derived.Test.YtmdnmknmniabeaaAr10
namespace Go.Proofs.Ytmdnmknmniabeaa
open Go.RowKit Pw
set_option linter.unusedSimpArgs false
set_option linter.unusedVariables false

theorem fm_on {g : Ar → List Ar} {k : Int} {T : Option Pg → Option Pg} (hT : T none = none) : ∀ {l : List Ar} {lo : Int}, srtF lo l → (∀ a ∈ l, onA (g a) k = if inA k a = true then T (some (pgOf a k)) else none) → onA (l.flatMap g) k = T (onA l k)
  | [], _, _, _ => by rw [List.flatMap_nil]; exact hT.symm
  | a :: r, lo, hs, h => by
    rw [List.flatMap_cons, onA_app, h a List.mem_cons_self, fm_on hT hs.2.2 (fun b hb => h b (List.mem_cons_of_mem _ hb)), onA_cons]
    by_cases c : inA k a = true
    · rw [if_pos c, if_pos c, on_low hs.2.2 (inA_iff.1 c).2, hT]
      cases T (some (pgOf a k)) <;> rfl
    · rw [if_neg c, if_neg c]; rfl
theorem fm_srt {g : Ar → List Ar} : ∀ {l : List Ar} {lo : Int}, srtF lo l → (∀ a ∈ l, srtF a.fr (g a) ∧ ∀ x ∈ g a, x.en ≤ a.en) → srtF lo (l.flatMap g)
  | [], _, _, _ => trivial
  | a :: r, lo, hs, h => by
    rw [List.flatMap_cons]
    have h1 := h a List.mem_cons_self
    have h2 := (areaE_few hs.1).2.1
    have h3 := hs.2.1
    exact srtF_app (srtF_mono h1.1 hs.2.1) h1.2 (by omega) (fm_srt hs.2.2 (fun b hb => h b (List.mem_cons_of_mem _ hb)))
theorem part_srt {a : Ar} (ha : areaE a = 0) {f t lo : Int} (hl : lo ≤ a.fr ∨ lo ≤ f) : srtF lo (partA a f t).toList ∧ ∀ x ∈ (partA a f t).toList, x.en ≤ a.en ∧ x.en ≤ t := by
  cases h : partA a f t with
  | none => exact ⟨trivial, fun x hx => by cases hx⟩
  | some x =>
    obtain ⟨h1, h2, h3, h4, h5, h6, h7, h8⟩ := part_some ha h
    refine ⟨⟨h1, by omega, trivial⟩, fun y hy => ?_⟩
    rw [Option.toList_some, List.mem_singleton] at hy
    subst hy
    exact ⟨h5, h6⟩
theorem area_low {a : Ar} (h : areaE a = 0) {k : Int} (hk : inA k a = true) : 0 ≤ k ∧ k < 64 := by
  have := (areaE_few h).1
  unfold arFew at this
  rw [inA_iff] at hk
  omega
/-- Unmapped: what each page is. -/
theorem outU_on {l : List Ar} (h : okF none l) {s n : Int} (hs : 0 ≤ s ∧ 1 ≤ n ∧ s + n ≤ 64) (k : Int) : onA (outU l s n) k = if s ≤ k ∧ k < s + n then none else onA l k := by
  have := fm_on (g := cutU s n) (k := k) (T := fun o => if s ≤ k ∧ k < s + n then none else o) (by simp) (okF_srt0 h) (fun a ha => by
    have ha0 := (srtF_ok (okF_srt0 h) a ha).1
    unfold cutU
    rw [onA_app, part_on ha0, part_on ha0]
    by_cases c : inA k a = true
    · have hk := area_low ha0 c
      rw [if_pos c]
      by_cases c1 : s ≤ k ∧ k < s + n
      · rw [if_pos c1, if_neg (by omega), if_neg (by omega)]; rfl
      · rw [if_neg c1]
        by_cases c2 : k < s
        · rw [if_pos ⟨c, hk.1, c2⟩]; rfl
        · rw [if_neg (by omega), if_pos ⟨c, by omega, hk.2⟩]; rfl
    · rw [if_neg c, if_neg (fun h => c h.1), if_neg (fun h => c h.1)]; rfl)
  exact this
def Tail (x a : Ar) : Prop := x.en ≤ a.en ∧ (x.en < a.en ∨ ∃ f t, partA a f t = some x)
theorem far_bad {x y : Ar} (h : x.en < y.fr) : badOn (some x) y = false := by
  refine bad_some.2 ⟨by omega, ?_⟩
  cases hj : joinsB x y
  · rfl
  · have := (joins_iff.1 hj).1
    omega
theorem tail_bad {x a b y : Ar} {f t : Int} (ha : areaE a = 0) (hb : areaE b = 0) (ht : Tail x a) (hab : badOn (some a) b = false) (hy : partA b f t = some y) : badOn (some x) y = false := by
  obtain ⟨y1, y2, y3, y4, y5, y6, y7, y8⟩ := part_some hb hy
  obtain ⟨b1, b2⟩ := bad_some.1 hab
  rcases ht with ⟨h0, h1 | ⟨f', t', hx⟩⟩
  · exact far_bad (by omega)
  · obtain ⟨x1, x2, x3, x4, x5, x6, x7, x8⟩ := part_some ha hx
    refine bad_some.2 ⟨by omega, ?_⟩
    cases hj : joinsB x y
    · rfl
    · exfalso
      have hp := joins_pg hj b.fr
      have h3 := (joins_iff.1 hj).1
      rw [y8, x8] at hp
      unfold pgOf at hp
      simp only [Pg.mk.injEq] at hp
      obtain ⟨g1, g2, g3, g4, g5⟩ := hp
      have : joinsB a b = true := by
        rw [joins_iff]
        refine ⟨by omega, g1.symm, g2.symm, g3.symm, g4.symm, ?_⟩
        unfold baseOn
        by_cases hf : 0 ≤ a.fi
        · rw [if_pos (by omega), if_pos hf] at g5
          rw [if_pos hf]; omega
        · rw [if_neg hf]
          exact ((areaE_few hb).2.2.2.2.1 (by omega)).1
      rw [b2] at this
      cases this
theorem tail_next {x a b : Ar} (hb : areaE b = 0) (ht : Tail x a) (hab : badOn (some a) b = false) : Tail x b := by
  have h1 := (bad_some.1 hab).1
  have h2 := (areaE_few hb).2.1
  have h3 := ht.1
  exact ⟨by omega, .inl (by omega)⟩
theorem tail_part {b y : Ar} (hb : areaE b = 0) {f t : Int} (hy : partA b f t = some y) : Tail y b := ⟨(part_some hb hy).2.2.2.2.1, .inr ⟨f, t, hy⟩⟩
theorem outU_okT {s n : Int} (hn : 1 ≤ n) : ∀ {l : List Ar} {x a : Ar}, areaE a = 0 → okF (some a) l → Tail x a → okF (some x) (outU l s n)
  | [], _, _, _, _, _ => trivial
  | b :: r, x, a, ha, hl, ht => by
    have hb := hl.1
    have hrest : ∀ z, Tail z b → okF (some z) (outU r s n) := fun z hz => outU_okT hn hb hl.2.2 hz
    show okF (some x) (cutU s n b ++ outU r s n)
    unfold cutU
    cases h1 : partA b 0 s with
    | none =>
      cases h2 : partA b (s + n) 64 with
      | none => exact hrest x (tail_next hb ht hl.2.1)
      | some y2 => exact ⟨(part_some hb h2).1, tail_bad ha hb ht hl.2.1 h2, hrest y2 (tail_part hb h2)⟩
    | some y1 =>
      cases h2 : partA b (s + n) 64 with
      | none => exact ⟨(part_some hb h1).1, tail_bad ha hb ht hl.2.1 h1, hrest y1 (tail_part hb h1)⟩
      | some y2 =>
        have e1 := (part_some hb h1).2.2.2.2.2.1
        have e2 := (part_some hb h2).2.2.2.1
        exact ⟨(part_some hb h1).1, tail_bad ha hb ht hl.2.1 h1, (part_some hb h2).1, far_bad (by omega), hrest y2 (tail_part hb h2)⟩
theorem outU_ok {s n : Int} (hn : 1 ≤ n) : ∀ {l : List Ar}, okF none l → okF none (outU l s n)
  | [], _ => trivial
  | b :: r, hl => by
    have hb := hl.1
    have hrest : ∀ z, Tail z b → okF (some z) (outU r s n) := fun z hz => outU_okT hn hb hl.2.2 hz
    show okF none (cutU s n b ++ outU r s n)
    unfold cutU
    cases h1 : partA b 0 s with
    | none =>
      cases h2 : partA b (s + n) 64 with
      | none => exact outU_ok hn (okF_none hl.2.2)
      | some y2 => exact ⟨(part_some hb h2).1, rfl, hrest y2 (tail_part hb h2)⟩
    | some y1 =>
      cases h2 : partA b (s + n) 64 with
      | none => exact ⟨(part_some hb h1).1, rfl, hrest y1 (tail_part hb h1)⟩
      | some y2 =>
        have e1 := (part_some hb h1).2.2.2.2.2.1
        have e2 := (part_some hb h2).2.2.2.1
        exact ⟨(part_some hb h1).1, rfl, (part_some hb h2).1, far_bad (by omega), hrest y2 (tail_part hb h2)⟩
/-- Protected: what each page is. -/
def setPg (rd wr : Bool) (p : Pg) : Pg := { p with rd := rd, wr := wr }
theorem setRW_E {a : Ar} {rd wr : Bool} : areaE (setRW rd wr a) = areaE a := rfl
theorem setRW_on (rd wr : Bool) (l : List Ar) (n : Int) : onA (l.map (setRW rd wr)) n = (onA l n).map (setPg rd wr) := by
  induction l with
  | nil => rfl
  | cons a r ih => rw [List.map_cons, onA_cons, onA_cons, ih, show inA n (setRW rd wr a) = inA n a from rfl]; split <;> rfl
theorem toList_map {α β : Type} (o : Option α) (f : α → β) : (o.map f).toList = o.toList.map f := by cases o <;> rfl
theorem outP_on {l : List Ar} (h : okF none l) {s n : Int} (hs : 0 ≤ s ∧ 1 ≤ n ∧ s + n ≤ 64) (rd wr : Bool) (k : Int) : onA (outP l s n rd wr) k = if s ≤ k ∧ k < s + n then (onA l k).map (setPg rd wr) else onA l k := by
  have := fm_on (g := cutP s n rd wr) (k := k) (T := fun o => if s ≤ k ∧ k < s + n then o.map (setPg rd wr) else o) (by simp) (okF_srt0 h) (fun a ha => by
    have ha0 := (srtF_ok (okF_srt0 h) a ha).1
    unfold cutP midP
    rw [toList_map, onA_app, onA_app, setRW_on, part_on ha0, part_on ha0, part_on ha0]
    by_cases c : inA k a = true
    · have hk := area_low ha0 c
      rw [if_pos c]
      by_cases c1 : s ≤ k ∧ k < s + n
      · rw [if_pos c1, if_neg (by omega), if_pos ⟨c, c1⟩, if_neg (by omega)]; rfl
      · rw [if_neg c1]
        by_cases c2 : k < s
        · rw [if_pos ⟨c, hk.1, c2⟩]; rfl
        · rw [if_neg (by omega), if_neg (by omega), if_pos ⟨c, by omega, hk.2⟩]; rfl
    · rw [if_neg c, if_neg (fun h => c h.1), if_neg (fun h => c h.1), if_neg (fun h => c h.1)]; rfl)
  exact this
theorem outP_srt {l : List Ar} (h : okF none l) {s n : Int} (hs : 0 ≤ s ∧ 1 ≤ n ∧ s + n ≤ 64) (rd wr : Bool) : srtF 0 (outP l s n rd wr) := by
  refine fm_srt (okF_srt0 h) fun a ha => ?_
  have ha0 := (srtF_ok (okF_srt0 h) a ha).1
  have hm : srtF (max a.fr s) (midP s n rd wr a) ∧ ∀ x ∈ midP s n rd wr a, x.en ≤ a.en ∧ x.en ≤ s + n ∧ s ≤ x.fr := by
    unfold midP
    cases hp : partA a s (s + n) with
    | none => exact ⟨trivial, fun x hx => by cases hx⟩
    | some x =>
      obtain ⟨h1, h2, h3, h4, h5, h6, h7, h8⟩ := part_some ha0 hp
      refine ⟨⟨h1, by show max a.fr s ≤ x.fr; omega, trivial⟩, fun y hy => ?_⟩
      rw [Option.map_some, Option.toList_some, List.mem_singleton] at hy
      subst hy
      exact ⟨h5, h6, h4⟩
  have e0 := part_srt ha0 (f := 0) (t := s) (lo := a.fr) (.inl (Int.le_refl _))
  have hfr := (areaE_few ha0).2.1
  unfold cutP
  refine ⟨?_, fun x hx => ?_⟩
  · refine srtF_app (mid := max a.fr (s + n)) (srtF_app (mid := max a.fr s) e0.1 (fun x hx => by have := (e0.2 x hx).2; omega) (by omega) hm.1) (fun x hx => ?_) (by omega) (part_srt ha0 (f := s + n) (t := 64) ?_).1
    · rcases List.mem_append.1 hx with hx | hx
      · have := (e0.2 x hx).2; omega
      · have := (hm.2 x hx).2.1; omega
    · by_cases hc : a.fr ≤ s + n
      · right; omega
      · left; omega
  · rcases List.mem_append.1 hx with hx | hx
    · rcases List.mem_append.1 hx with hx | hx
      · exact (e0.2 x hx).1
      · exact (hm.2 x hx).1
    · exact ((part_srt ha0 (f := s + n) (t := 64) (lo := s + n) (.inr (Int.le_refl _))).2 x hx).1
theorem find_on (l : List Ar) (n : Int) : (0 ≤ findA l n) ↔ onA l n ≠ none := by
  have h := idx_any (inA n) l
  have h2 : l.any (inA n) = true ↔ onA l n ≠ none := by
    induction l with
    | nil => simp [onA]
    | cons a r ih => rw [List.any_cons, onA_cons]; cases inA n a <;> simp [ih (idx_any _ _)]
  rw [← h2, ← h, decide_eq_true_eq]
  exact Iff.rfl
theorem noneP_iff {l : List Ar} {s n : Int} : noneP l s n = false ↔ ∀ k, s ≤ k → k < s + n → onA l k ≠ none := by
  unfold noneP
  rw [List.any_eq_false]
  constructor
  · intro h k h1 h2
    have h3 := h (k - s).toNat (List.mem_range.2 (by omega))
    rw [← find_on]
    rw [decide_eq_true_eq, show s + ((k - s).toNat : Int) = k by omega] at h3
    omega
  · intro h i hi
    have := List.mem_range.1 hi
    have h3 := (find_on l (s + (i : Int))).2 (h (s + i) (by omega) (by omega))
    rw [decide_eq_true_eq]
    omega
end Go.Proofs.Ytmdnmknmniabeaa
