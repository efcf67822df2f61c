/- Plain laws of areas for the statements: back, split, twice, room. -/
import Derived.Test.YtmdnmknmniabeaaAr11
namespace Go.Proofs.Ytmdnmknmniabeaa
open Go.RowKit Pw
set_option linter.unusedSimpArgs false
set_option linter.unusedVariables false

theorem span_iff {s n : Int} : spanE s n = 0 ↔ 0 ≤ s ∧ 1 ≤ n ∧ s + n ≤ 64 := by
  unfold spanE
  constructor
  · intro h
    split at h
    · omega
    · omega
  · intro h
    rw [if_neg (by omega)]
theorem doneE_zero {n : Nat} : doneE n = 0 ↔ n ≤ 16 := by
  unfold doneE
  split <;> omega
theorem map_zero {l : List Ar} {x : Ar} (h : mapE l x = 0) : (l.length ≤ 16 ∧ okF none l) ∧ areaE x = 0 ∧ (∀ a ∈ l, meetsA x a = false) ∧ (tidyL (insA l x)).length ≤ 16 ∧ mapL l x = tidyL (insA l x) := by
  have h0 := h
  unfold mapE at h
  by_cases hw : (wrongA l).1 = 0
  · rw [if_neg (by omega)] at h
    by_cases he : areaE x = 0
    · rw [if_neg (by omega)] at h
      cases hm : l.any (meetsA x)
      · rw [hm, if_neg (by simp)] at h
        refine ⟨wrongA_iff.1 hw, he, fun a ha => ?_, ?_, ?_⟩
        · have := List.any_eq_false.1 hm a ha
          simpa using this
        · split at h
          · omega
          · omega
        · unfold mapL; rw [if_neg (by omega)]
      · rw [hm, if_pos rfl] at h; omega
    · rw [if_pos he] at h; exact absurd h he
  · rw [if_pos hw] at h; exact absurd h hw
theorem map_right {l : List Ar} {x : Ar} (h : mapE l x = 0) : (mapL l x).length ≤ 16 ∧ okF none (mapL l x) ∧ ∀ n, onA (mapL l x) n = if inA n x then some (pgOf x n) else onA l n := by
  obtain ⟨⟨h1, h2⟩, h3, h4, h5, h6⟩ := map_zero h
  have hs := okF_srt0 h2
  have hx := (areaE_few h3).1.2.1.1
  have hi := insR_srt h3 hs hx h4
  rw [h6]
  rw [insA_eq] at h5 ⊢
  exact ⟨h5, tidy_ok hi, fun n => by rw [tidy_on hi, insR_on h3 n hs h4]⟩
theorem unm_val {l : List Ar} {s n : Int} (h1 : l.length ≤ 16) (h2 : okF none l) (h3 : 0 ≤ s ∧ 1 ≤ n ∧ s + n ≤ 64) : unmE l s n = doneE (outU l s n).length := by
  unfold unmE
  rw [if_neg (by rw [wrongA_iff.2 ⟨h1, h2⟩]; simp), if_neg (by rw [span_iff.2 h3]; simp)]
theorem unm_zero {l : List Ar} {s n : Int} (h : unmE l s n = 0) : (l.length ≤ 16 ∧ okF none l) ∧ (0 ≤ s ∧ 1 ≤ n ∧ s + n ≤ 64) ∧ (outU l s n).length ≤ 16 ∧ unmL l s n = outU l s n := by
  have h0 := h
  unfold unmE at h
  by_cases hw : (wrongA l).1 = 0
  · rw [if_neg (by omega)] at h
    by_cases he : spanE s n = 0
    · rw [if_neg (by omega)] at h
      exact ⟨wrongA_iff.1 hw, span_iff.1 he, doneE_zero.1 h, by unfold unmL; rw [if_neg (by omega)]⟩
    · rw [if_pos he] at h; exact absurd h he
  · rw [if_pos hw] at h; exact absurd h hw
theorem pro_zero {l : List Ar} {s n : Int} {rd wr : Bool} (h : proE l s n rd wr = 0) : (l.length ≤ 16 ∧ okF none l) ∧ (0 ≤ s ∧ 1 ≤ n ∧ s + n ≤ 64) ∧ noneP l s n = false ∧ (tidyL (outP l s n rd wr)).length ≤ 16 ∧ proL l s n rd wr = tidyL (outP l s n rd wr) := by
  have h0 := h
  unfold proE at h
  by_cases hw : (wrongA l).1 = 0
  · rw [if_neg (by omega)] at h
    by_cases he : spanE s n = 0
    · rw [if_neg (by omega)] at h
      cases hm : noneP l s n
      · rw [hm, if_neg (by simp)] at h
        exact ⟨wrongA_iff.1 hw, span_iff.1 he, rfl, doneE_zero.1 h, by unfold proL; rw [if_neg (by omega)]⟩
      · rw [hm, if_pos rfl] at h; omega
    · rw [if_pos he] at h; exact absurd h he
  · rw [if_pos hw] at h; exact absurd h hw
theorem pro_val {l : List Ar} {s n : Int} {rd wr : Bool} (h1 : l.length ≤ 16) (h2 : okF none l) (h3 : 0 ≤ s ∧ 1 ≤ n ∧ s + n ≤ 64) (h4 : noneP l s n = false) : proE l s n rd wr = doneE (tidyL (outP l s n rd wr)).length := by
  unfold proE
  rw [if_neg (by rw [wrongA_iff.2 ⟨h1, h2⟩]; simp), if_neg (by rw [span_iff.2 h3]; simp), if_neg (by rw [h4]; simp)]
theorem pro_right {l : List Ar} {s n : Int} {rd wr : Bool} (h : proE l s n rd wr = 0) : (proL l s n rd wr).length ≤ 16 ∧ okF none (proL l s n rd wr) ∧ ∀ k, onA (proL l s n rd wr) k = if s ≤ k ∧ k < s + n then (onA l k).map (setPg rd wr) else onA l k := by
  obtain ⟨⟨h1, h2⟩, h3, h4, h5, h6⟩ := pro_zero h
  have hs := outP_srt h2 h3 rd wr
  rw [h6]
  exact ⟨h5, tidy_ok hs, fun k => by rw [tidy_on hs, outP_on h2 h3]⟩
theorem unm_right {l : List Ar} {s n : Int} (h : unmE l s n = 0) : (unmL l s n).length ≤ 16 ∧ okF none (unmL l s n) ∧ ∀ k, onA (unmL l s n) k = if s ≤ k ∧ k < s + n then none else onA l k := by
  obtain ⟨⟨h1, h2⟩, h3, h4, h5⟩ := unm_zero h
  rw [h5]
  exact ⟨h4, outU_ok h3.2.1 h2, fun k => outU_on h2 h3 k⟩
/-- AreasBack. -/
theorem back_law {l : List Ar} {x : Ar} (h : mapE l x = 0) : (wrongA (mapL l x)).1 = 0 ∧ (unmE (mapL l x) x.fr (x.en - x.fr) = 4 ∨ unmE (mapL l x) x.fr (x.en - x.fr) = 0 ∧ unmL (mapL l x) x.fr (x.en - x.fr) = l) := by
  obtain ⟨⟨h1, h2⟩, h3, h4, h5, h6⟩ := map_zero h
  obtain ⟨m1, m2, m3⟩ := map_right h
  refine ⟨wrongA_iff.2 ⟨m1, m2⟩, ?_⟩
  have e := areaE_few h3
  unfold arFew at e
  have hv := unm_val m1 m2 (s := x.fr) (n := x.en - x.fr) (by omega)
  by_cases hd : (outU (mapL l x) x.fr (x.en - x.fr)).length ≤ 16
  · right
    have h0 : unmE (mapL l x) x.fr (x.en - x.fr) = 0 := by rw [hv]; exact doneE_zero.2 hd
    refine ⟨h0, ?_⟩
    obtain ⟨u1, u2, u3⟩ := unm_right h0
    refine on_uniq u2 h2 fun n => ?_
    rw [u3, m3]
    by_cases c : inA n x = true
    · have c' := inA_iff.1 c
      rw [if_pos (by omega)]
      symm
      cases ho : onA l n with
      | none => rfl
      | some p =>
        exfalso
        have : ∃ a ∈ l, inA n a = true := by
          have hh := (find_on l n).2 (by rw [ho]; simp)
          have := idx_any (inA n) l
          rw [show decide (0 ≤ idx (inA n) l) = true from decide_eq_true hh] at this
          exact List.any_eq_true.1 this.symm
        obtain ⟨a, ha, hin⟩ := this
        have hm := h4 a ha
        unfold meetsA at hm
        obtain ⟨q1, q2⟩ := inA_iff.1 hin
        rw [decide_eq_true (show a.fr < x.en by omega), decide_eq_true (show x.fr < a.en by omega)] at hm
        cases hm
    · have c' : ¬ (x.fr ≤ n ∧ n < x.en) := fun h => c (inA_iff.2 h)
      rw [if_neg (by omega), if_neg c]
  · left
    rw [hv]
    unfold doneE
    rw [if_pos (by omega)]
/-- AreasSplit: unmapped. -/
theorem split_unm {l : List Ar} {s n k : Int} (hk : 1 ≤ k ∧ k < n) (h : unmE l s n = 0) (h' : unmE l s k = 0) : unmE (unmL l s k) (s + k) (n - k) = 0 ∧ unmL l s n = unmL (unmL l s k) (s + k) (n - k) := by
  obtain ⟨_, hs, _, _⟩ := unm_zero h
  obtain ⟨a1, a2, a3⟩ := unm_right h
  obtain ⟨b1, b2, b3⟩ := unm_right h'
  have hs' : 0 ≤ s + k ∧ 1 ≤ n - k ∧ s + k + (n - k) ≤ 64 := by omega
  have he : unmL l s n = outU (unmL l s k) (s + k) (n - k) := by
    refine on_uniq a2 (outU_ok hs'.2.1 b2) fun i => ?_
    rw [a3, outU_on b2 hs', b3]
    by_cases c : s ≤ i ∧ i < s + n
    · rw [if_pos c]
      by_cases c1 : s + k ≤ i ∧ i < s + k + (n - k)
      · rw [if_pos c1]
      · rw [if_neg c1, if_pos (by omega)]
    · rw [if_neg c, if_neg (by omega), if_neg (by omega)]
  have hv := unm_val b1 b2 hs'
  rw [← he] at hv
  have h0 : unmE (unmL l s k) (s + k) (n - k) = 0 := by rw [hv]; exact doneE_zero.2 a1
  refine ⟨h0, ?_⟩
  rw [(unm_zero h0).2.2.2]
  exact he
/-- AreasSplit: protected. -/
theorem split_pro {l : List Ar} {s n k : Int} {rd wr : Bool} (hk : 1 ≤ k ∧ k < n) (h : proE l s n rd wr = 0) (h' : proE l s k rd wr = 0) : proE (proL l s k rd wr) (s + k) (n - k) rd wr = 0 ∧ proL l s n rd wr = proL (proL l s k rd wr) (s + k) (n - k) rd wr := by
  obtain ⟨_, hs, hnn, _, _⟩ := pro_zero h
  obtain ⟨a1, a2, a3⟩ := pro_right h
  obtain ⟨b1, b2, b3⟩ := pro_right h'
  have hs' : 0 ≤ s + k ∧ 1 ≤ n - k ∧ s + k + (n - k) ≤ 64 := by omega
  have hn2 : noneP (proL l s k rd wr) (s + k) (n - k) = false := by
    rw [noneP_iff] at hnn ⊢
    intro i h1 h2
    rw [b3, if_neg (by omega)]
    exact hnn i (by omega) (by omega)
  have hsr := outP_srt b2 hs' rd wr
  have he : proL l s n rd wr = tidyL (outP (proL l s k rd wr) (s + k) (n - k) rd wr) := by
    refine on_uniq a2 (tidy_ok hsr) fun i => ?_
    rw [a3, tidy_on hsr, outP_on b2 hs', b3]
    by_cases c : s ≤ i ∧ i < s + n
    · rw [if_pos c]
      by_cases c1 : s + k ≤ i ∧ i < s + k + (n - k)
      · rw [if_pos c1, if_neg (by omega)]
      · rw [if_neg c1, if_pos (by omega)]
    · rw [if_neg c, if_neg (by omega), if_neg (by omega)]
  have hv := pro_val (rd := rd) (wr := wr) b1 b2 hs' hn2
  rw [← he] at hv
  have h0 : proE (proL l s k rd wr) (s + k) (n - k) rd wr = 0 := by rw [hv]; exact doneE_zero.2 a1
  refine ⟨h0, ?_⟩
  rw [(pro_zero h0).2.2.2.2]
  exact he
theorem setPg_twice (a b c d : Bool) (p : Pg) : setPg c d (setPg a b p) = setPg c d p := rfl
/-- AreasTwice. -/
theorem twice_any {l : List Ar} {s n : Int} {rd wr : Bool} (h : proE l s n rd wr = 0) (rd' wr' : Bool) : ∀ m : List Ar, okF none m → (∀ k, onA m k = if s ≤ k ∧ k < s + n then (onA l k).map (setPg rd' wr') else onA l k) → m.length ≤ 16 → proE (proL l s n rd wr) s n rd' wr' = 0 ∧ proL (proL l s n rd wr) s n rd' wr' = m := by
  intro m hm hon hlen
  obtain ⟨_, hs, hnn, _, _⟩ := pro_zero h
  obtain ⟨a1, a2, a3⟩ := pro_right h
  have hn2 : noneP (proL l s n rd wr) s n = false := by
    rw [noneP_iff] at hnn ⊢
    intro i h1 h2
    rw [a3, if_pos ⟨h1, h2⟩]
    have := hnn i h1 h2
    cases ho : onA l i with
    | none => exact absurd ho this
    | some p => simp
  have hsr := outP_srt a2 hs rd' wr'
  have he : m = tidyL (outP (proL l s n rd wr) s n rd' wr') := by
    refine on_uniq hm (tidy_ok hsr) fun i => ?_
    rw [hon, tidy_on hsr, outP_on a2 hs, a3]
    by_cases c : s ≤ i ∧ i < s + n
    · rw [if_pos c, if_pos c, if_pos c, Option.map_map]
      congr 1
    · rw [if_neg c, if_neg c, if_neg c]
  have hv := pro_val (rd := rd') (wr := wr') a1 a2 hs hn2
  rw [← he] at hv
  have h0 : proE (proL l s n rd wr) s n rd' wr' = 0 := by rw [hv]; exact doneE_zero.2 hlen
  refine ⟨h0, ?_⟩
  rw [(pro_zero h0).2.2.2.2]
  exact he.symm
theorem twice_same {l : List Ar} {s n : Int} {rd wr : Bool} (h : proE l s n rd wr = 0) : proE (proL l s n rd wr) s n rd wr = 0 ∧ proL (proL l s n rd wr) s n rd wr = proL l s n rd wr := by
  obtain ⟨a1, a2, a3⟩ := pro_right h
  exact twice_any h rd wr _ a2 a3 a1
theorem twice_not {l : List Ar} {s n : Int} {rd wr : Bool} (h : proE l s n rd wr = 0) (rd' wr' : Bool) (h' : proE l s n rd' wr' = 0) : proL (proL l s n rd wr) s n rd' wr' = proL l s n rd' wr' := by
  obtain ⟨a1, a2, a3⟩ := pro_right h'
  exact (twice_any h rd' wr' _ a2 a3 a1).2
/-- AreasRoom. -/
def holeA (k n : Int) : Ar := ⟨k, k + n, false, false, false, -1, 0⟩
theorem room_go (n : Int) : ∀ {l : List Ar} {t : Int}, srtF t l → t ≤ roomGo n t l ∧ (∀ a ∈ l, meetsA (holeA (roomGo n t l) n) a = false) ∧ ∀ k, t ≤ k → k < roomGo n t l → ∃ a ∈ l, meetsA (holeA k n) a = true
  | [], t, _ => by
    refine ⟨Int.le_refl _, fun a ha => (by cases ha), fun k h1 h2 => ?_⟩
    have h3 : k < t := h2
    omega
  | a :: r, t, h => by
    have h1 := h.2.1
    have h2 := (areaE_few h.1).2.1
    rw [roomGo_cons]
    by_cases c : n ≤ a.fr - t
    · rw [if_pos c]
      refine ⟨Int.le_refl _, fun b hb => ?_, fun k h3 h4 => by omega⟩
      have h5 : a.fr ≤ b.fr := by
        rcases List.mem_cons.1 hb with rfl | hb
        · exact Int.le_refl _
        · have := (srtF_ok h.2.2 b hb).2; omega
      show (decide (b.fr < t + n) && decide (t < b.en)) = false
      rw [decide_eq_false (by omega), Bool.false_and]
    · rw [if_neg c, if_pos (by omega)]
      obtain ⟨g1, g2, g3⟩ := room_go n h.2.2
      refine ⟨by omega, fun b hb => ?_, fun k h3 h4 => ?_⟩
      · rcases List.mem_cons.1 hb with rfl | hb
        · show (decide (b.fr < roomGo n b.en r + n) && decide (roomGo n b.en r < b.en)) = false
          rw [decide_eq_false (show ¬ roomGo n b.en r < b.en by omega), Bool.and_false]
        · exact g2 b hb
      · by_cases hk : k < a.en
        · refine ⟨a, List.mem_cons_self, ?_⟩
          show (decide (a.fr < k + n) && decide (k < a.en)) = true
          rw [decide_eq_true (show a.fr < k + n by omega), decide_eq_true hk]; rfl
        · obtain ⟨b, hb, hm⟩ := g3 k (by omega) h4
          exact ⟨b, List.mem_cons_of_mem _ hb, hm⟩
theorem hole_right {k n : Int} (h : 0 ≤ k ∧ 1 ≤ n ∧ k + n ≤ 64) : areaE (holeA k n) = 0 := by
  unfold areaE holeA
  simp only []
  rw [if_neg (by omega), if_neg]
  rintro (⟨_, h2 | h2⟩ | ⟨h1, _⟩)
  · exact h2 rfl
  · cases h2
  · omega
theorem room_law {l : List Ar} (h : (wrongA l).1 = 0) {n k : Int} (hn : 1 ≤ n) (hk : 0 ≤ k ∧ k + n ≤ 64) :
    (roomA l n = k → mapE l (holeA k n) = 0 ∨ mapE l (holeA k n) = 4) ∧ ((k < roomA l n ∨ roomA l n < 0) → mapE l (holeA k n) = 6) := by
  obtain ⟨h1, h2⟩ := wrongA_iff.1 h
  obtain ⟨g1, g2, g3⟩ := room_go n (okF_srt0 h2)
  have hr := hole_right (k := k) (n := n) ⟨hk.1, hn, hk.2⟩
  have hE : mapE l (holeA k n) = if l.any (meetsA (holeA k n)) = true then 6 else doneE (tidyL (insA l (holeA k n))).length := by
    unfold mapE
    rw [if_neg (by rw [h]; simp), if_neg (by rw [hr]; simp)]
    rfl
  unfold roomA
  refine ⟨fun he => ?_, fun hlt => ?_⟩
  · split at he
    · omega
    · subst he
      rw [hE, if_neg]
      · unfold doneE; split <;> simp
      · intro hany
        obtain ⟨a, ha, hm⟩ := List.any_eq_true.1 hany
        rw [g2 a ha] at hm
        cases hm
  · have hkr : k < roomGo n 0 l := by
      split at hlt
      · omega
      · omega
    obtain ⟨a, ha, hm⟩ := g3 k hk.1 hkr
    rw [hE, if_pos (List.any_eq_true.2 ⟨a, ha, hm⟩)]
theorem room_bound {l : List Ar} {n : Int} (h : (wrongA l).1 = 0) : roomA l n = -1 ∨ 0 ≤ roomA l n ∧ roomA l n + n ≤ 64 := by
  obtain ⟨h1, h2⟩ := wrongA_iff.1 h
  obtain ⟨g1, _, _⟩ := room_go n (okF_srt0 h2)
  unfold roomA
  split
  · exact .inl rfl
  · right; omega
end Go.Proofs.Ytmdnmknmniabeaa
