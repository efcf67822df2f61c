/- The law SlotsTake, walked. -/
import Derived.Test.YtohbfjbcfibhcaaSlotsLaw
namespace Go.Proofs.Ytohbfjbcfibhcaa
open Go.RowKit Pw
set_option linter.unusedSimpArgs false
set_option linter.unusedVariables false

theorem wrongS_mem {l : List Int} (h : wrongS l = 0) : ∀ x ∈ l, badN x = false := by
  unfold wrongS at h
  split at h
  · omega
  split at h
  · omega
  · rename_i h1
    intro x hx
    have := List.any_eq_false.1 (by simpa using h1) x hx
    simpa using this
theorem wrongS_of {l : List Int} (hl : l.length ≤ 60) (h : ∀ x ∈ l, badN x = false) : wrongS l = 0 := by
  unfold wrongS
  rw [if_neg (by omega), if_neg]
  simp only [List.any_eq_true, not_exists, not_and]
  intro x hx
  simp [h x hx]
theorem wrongS_set {l : List Int} (k : Nat) (x : Int) (h : wrongS l = 0) (h0 : 0 ≤ x) (h1 : x ≤ 1000) : wrongS (l.set k x) = 0 := by
  refine wrongS_of (by rw [List.length_set]; exact wrongS_len h) fun y hy => ?_
  rcases List.mem_or_eq_of_mem_set hy with hm | rfl
  · exact wrongS_mem h _ hm
  · simp [badN]; omega
theorem wrongS_cases (l : List Int) : wrongS l = 0 ∨ wrongS l = 3 ∨ wrongS l = 4 := by
  unfold wrongS
  split
  · exact .inr (.inr rfl)
  split
  · exact .inr (.inl rfl)
  · exact .inl rfl
/-- What comes of a Take: nothing, with a reason; or a slot that was free. -/
theorem take_cases (l : List Int) (n : Int) : (takeE l n = 10 ∧ takeL l n = [] ∧ l.countP isZ = 0) ∨ (takeE l n ≠ 0 ∧ takeE l n ≠ 10 ∧ takeL l n = []) ∨
    ∃ k : Nat, ∃ h : k < l.length, takeE l n = 0 ∧ takeK l n = k ∧ takeL l n = l.set k n ∧ l[k] = 0 ∧ wrongS l = 0 ∧ 1 ≤ n ∧ n ≤ 1000 := by
  by_cases h0 : wrongS l = 0
  · by_cases hn : n < 1 ∨ 1000 < n
    · obtain ⟨q1, _, q3⟩ := take_range h0 hn
      exact .inr (.inl ⟨by omega, by omega, q3⟩)
    · rcases idx_cases isZ l with ⟨hi, hp⟩ | ⟨k, hk, hi, hz, _⟩
      · obtain ⟨q1, _, q3⟩ := take_full h0 (show 1 ≤ n ∧ n ≤ 1000 from ⟨by omega, by omega⟩) hi
        refine .inl ⟨q1, q3, List.countP_eq_zero.2 fun x hx => ?_⟩
        obtain ⟨i, hi, rfl⟩ := List.mem_iff_getElem.1 hx
        simp [hp i hi]
      · obtain ⟨q1, q2, q3⟩ := take_some h0 (show 1 ≤ n ∧ n ≤ 1000 from ⟨by omega, by omega⟩) hi
        exact .inr (.inr ⟨k, hk, q1, q2, q3, by simpa [isZ] using hz, h0, by omega, by omega⟩)
  · obtain ⟨q1, _, q3⟩ := take_wrong n h0
    have := wrongS_cases l
    exact .inr (.inl ⟨by omega, by omega, q3⟩)
theorem count_set {l : List Int} {k : Nat} (h : k < l.length) (hz : l[k] = 0) {n : Int} (hn : n ≠ 0) : ((l.set k n).countP isZ : Int) = (l.countP isZ : Int) - 1 := by
  have h1 : 0 < l.countP isZ := List.countP_pos_iff.2 ⟨_, List.getElem_mem h, by simp [isZ, hz]⟩
  rw [List.countP_set (h := h)]
  have e1 : isZ l[k] = true := by simp [isZ, hz]
  have e2 : isZ n = false := by simpa [isZ] using hn
  rw [e1, e2]
  simp
  omega
theorem set_get {l : List Int} {k : Nat} (h : k < l.length) (x : Int) : atI (l.set k x) k = x := by simp [atI, h]
theorem hold_step {l : List Int} {k : Nat} (h : k < l.length) (h0 : wrongS l = 0) (m : Int) (h1 : 1 ≤ m) (h2 : m ≤ 1000) : holdE (l.set k m) k (-1) = 0 ∧ holdL (l.set k m) k (-1) = l.set k (m - 1) := by
  have hw := wrongS_set k m h0 (by omega) h2
  obtain ⟨q1, q2⟩ := hold_some (l := l.set k m) (k := k) (n := -1) hw (by rw [set_get h, List.length_set]; omega) (by rw [set_get h]; omega)
  refine ⟨q1, ?_⟩
  rw [q2, set_get h, Int.toNat_natCast, List.set_set]
  rfl

set_option maxHeartbeats 2000000 in
set_option maxRecDepth 100000 in
theorem slots_take (l : List Int) (a : Option Addr) (c : Nat) (n : Int) (w : World) (hle : l.length ≤ c) (hnil : a = none → c = 0) (hrd : RdV w a (l.map inV)) (hl : l.length ≤ 9223372036854775807) :
    Calls Try.prog 9 #[.slice a l.length c, .int .i64 n] w fun e w' => e = .returned (.bool true) ∧ Below w.heap.size w w' := by
  go_enter Try.func9, Try.ntmps9
  go_wp2_with fail
  refine (alive4 _).mono ?_
  rintro e w1 ⟨rfl, hbel1⟩
  have hrd1 := hrd.below hbel1
  go_wp2_with fail
  refine (take_any l a c n _ hle hnil hrd1 hl).mono ?_
  rintro e w2 ⟨v2, rfl, ho2, hb2⟩
  have hrd2 := hrd1.below hb2
  have hbel2 := below_next hbel1 hb2
  rcases take_cases l n with ⟨q1, q2, q3⟩ | ⟨q1, q1', q2⟩ | ⟨k, hk, q1, q2, q3, hz, h0, n1, n2⟩
  · rw [q1]
    clear ho2
    go_wp2_with fail
    refine (free_any l a c _ hrd2 hl).mono ?_
    rintro e w3 ⟨rfl, rfl⟩
    rw [q3]
    go_wp2
    go_ret
    exact ⟨rfl, hbel2⟩
  · obtain ⟨a2, c2, rfl, _⟩ := ho2.rd
    clear ho2
    rw [q2]
    have e1 : (takeE l n == 10) = false := by simpa using q1'
    have e2 : (takeE l n != 0) = true := by simpa using q1
    go_wp2
    go_ret
    exact ⟨rfl, hbel2⟩
  · rw [q1, q2]
    rw [q3, List.length_set] at ho2
    have hlen := wrongS_len h0
    obtain ⟨a2, c2, rfl, hle2, hmx2, hnil2, hr2⟩ := ho2.rd
    obtain ⟨b, off, rfl, hc⟩ := elem_at hrd2 k hk
    have hc' : w2.cell? ⟨b, off + k, none⟩ = some (.int .i64 0) := by rw [hc, hz]
    clear hc
    have hd : decide (l.length ≤ k) = false := by simp; omega
    have hd2 : decide ((k : Int) < 0) = false := by simp
    have hf1 := free_any (l.set k n) a2 c2 w2 hr2 (by simp; omega)
    have hf2 := free_any l _ c w2 hrd2 hl
    have hw1 := wrong_any (l.set k n) a2 c2 w2 hr2 (by simp; omega)
    rw [List.length_set] at hf1 hw1
    rw [count_set hk hz (by omega)] at hf1
    rw [wrongS_set k n h0 (by omega) n2] at hw1
    have hcm : (l.countP isZ : Int) ≤ 60 := by
      have := List.countP_le_length (p := isZ) (l := l)
      omega
    go_wp2_with fail
    refine hf1.mono ?_
    rintro e w3 ⟨rfl, h⟩
    subst h
    go_wp2_with fail
    refine hf2.mono ?_
    rintro e w4 ⟨rfl, h⟩
    subst h
    go_wp2_with fail
    refine hw1.mono ?_
    rintro e w5 ⟨rfl, h⟩
    subst h
    clear hf1 hf2 hw1 hr2
    go_wp2
    obtain ⟨N, rfl⟩ := Int.eq_ofNat_of_zero_le (show 0 ≤ n by omega)
    go_loopw [58, 5] (fun i x wr => ∃ j : Nat, j ≤ N ∧ i = .int .i64 j ∧ Own wr w.heap.size 3 1 x l.length ((l.set k ((N : Int) - j)).map inV) ∧ Below w.heap.size w wr) (fun i _ _ => N - (intOf i).toNat)
    case atStart => exact ⟨0, Nat.zero_le _, rfl, by simpa using ho2.mono hbel1.size, hbel2⟩
    case round =>
      obtain ⟨j, hj, rfl, ho, hbel⟩ := hrel
      obtain ⟨a3, c3, rfl, hle3, hmx3, hnil3, hr3⟩ := ho.rd
      by_cases hlt : j < N
      · have hh := hold_any (l.set k ((N : Int) - j)) a3 c3 k (-1) wr (by rw [List.length_set]; exact hle3) hnil3 hr3 (by rw [List.length_set]; exact hl)
        obtain ⟨g1, g2⟩ := hold_step hk h0 ((N : Int) - j) (by omega) (by omega)
        rw [g1, g2, List.length_set] at hh
        go_wp2_with fail
        refine hh.mono ?_
        rintro e w6 ⟨v6, rfl, ho6, hb6⟩
        have hbel6 := below_next hbel hb6
        have hge := hbel.size
        go_wp2
        go_roundw
        case rel => exact ⟨j + 1, by omega, by go_num, by rw [show ((N : Int) - ((j + 1 : Nat) : Int)) = (N : Int) - j - 1 from by omega]; simpa using ho6.mono hge, hbel6⟩
        case measure => simp [intOf]; omega
      · have hj' : j = N := by omega
        subst hj'
        have hset : l.set k 0 = l := by
          rw [← hz]
          exact List.set_getElem_self hk
        rw [Int.sub_self, hset] at ho hr3
        obtain ⟨g1, g2⟩ := hold_none (l := l) (k := k) (n := -1) h0 (.inr (.inr (by rw [atI_nat hk]; exact hz)))
        have hh := hold_any l a3 c3 k (-1) wr hle3 hnil3 hr3 hl
        rw [g1, g2] at hh
        go_wp2_with fail
        refine hh.mono ?_
        rintro e w6 ⟨v6, rfl, ho6, hb6⟩
        have hbel6 := below_next hbel hb6
        clear hh ho
        go_wp2_with fail
        refine (same_any l l _ _ c3 c w6 (hr3.below hb6) (hrd.below hbel6) hl hl).mono ?_
        rintro e w7 ⟨rfl, hb7⟩
        rw [beq_self_eq_true]
        go_wp2
        go_ret
        exact ⟨rfl, below_next hbel6 hb7⟩
end Go.Proofs.Ytohbfjbcfibhcaa
