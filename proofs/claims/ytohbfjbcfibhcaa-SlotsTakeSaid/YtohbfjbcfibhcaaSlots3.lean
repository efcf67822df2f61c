/- The document's HoldSlot and SameSlots; the closed fact; the laws of chapter 4, walked. -/
import Derived.Test.YtohbfjbcfibhcaaSlots2
namespace Go.Proofs.Ytohbfjbcfibhcaa
open Go.RowKit Pw
set_option linter.unusedSimpArgs false
set_option linter.unusedVariables false

set_option maxHeartbeats 800000 in
set_option maxRecDepth 100000 in
theorem rhold_any (l : List Int) (a : Option Addr) (c : Nat) (k n : Int) (w : World) (hle : l.length ≤ c) (hrd : RdV w a (l.map inV)) (hl : l.length ≤ 9223372036854775807) :
    Calls Try.prog 40 #[.slice a l.length c, .int .i64 k, .int .i64 n] w fun e w' => ∃ v, e = .returned (.tuple #[v, .int .i64 (holdE l k n)]) ∧ Own w' w.heap.size 3 1 v (holdL l k n).length ((holdL l k n).map inV) ∧ Below w.heap.size w w' := by
  go_enter Try.func40, Try.ntmps40
  go_wp2_with fail
  refine (rwrong_any l a c _ hrd (by omega)).mono ?_
  rintro e w1 ⟨rfl, rfl⟩
  by_cases h0 : wrongS l = 0
  · rw [h0]
    have hlen := wrongS_len h0
    by_cases hk : k < 0 ∨ (l.length : Int) ≤ k
    · obtain ⟨q1, q2⟩ := hold_none (n := n) h0 (show k < 0 ∨ (l.length : Int) ≤ k ∨ atI l k = 0 from by omega)
      rcases hk with hk | hk <;>
      · go_wp2
        all_goals
          go_ret2
          try simp only [q1, q2]
          exact ⟨_, rfl, Own.nil _ _ _ _, Below.refl _ _⟩
    · obtain ⟨k, rfl⟩ := Int.eq_ofNat_of_zero_le (show 0 ≤ k by omega)
      have hlt : k < l.length := by omega
      have hlt1 : ¬ (l.length : Int) ≤ (k : Int) := by omega
      obtain ⟨b, off, rfl, hc⟩ := elem_at hrd k hlt
      obtain ⟨b1, b2⟩ := hold_ok l k hlt h0
      have hat := atI_nat hlt
      by_cases hz : l[k] = 0
      · obtain ⟨q1, q2⟩ := hold_none (n := n) h0 (show (k : Int) < 0 ∨ (l.length : Int) ≤ k ∨ atI l k = 0 from by omega)
        rw [hz] at hc
        clear hk hat b1 b2
        go_wp2
        all_goals
          go_ret2
          try simp only [q1, q2]
          exact ⟨_, rfl, Own.nil _ _ _ _, Below.refl _ _⟩
      · have hz' : (l[k] == (0 : Int)) = false := by simp; omega
        have hnn : ¬ ((k : Int) < 0 ∨ (l.length : Int) ≤ k ∨ atI l k = 0) := by omega
        by_cases hr : n < -atI l k ∨ 1000 - atI l k < n
        · obtain ⟨q1, q2⟩ := hold_range h0 hnn hr
          rw [hat] at hr
          clear hat hnn hk
          by_cases s1 : n < -1000
          · go_wp2
            all_goals
              go_ret2
              try simp only [q1, q2]
              exact ⟨_, rfl, Own.nil _ _ _ _, Below.refl _ _⟩
          by_cases s2 : 1000 < n
          · go_wp2
            all_goals
              go_ret2
              try simp only [q1, q2]
              exact ⟨_, rfl, Own.nil _ _ _ _, Below.refl _ _⟩
          by_cases s3 : l[k] + n < 0
          · go_wp2
            all_goals
              go_ret2
              try simp only [q1, q2]
              exact ⟨_, rfl, Own.nil _ _ _ _, Below.refl _ _⟩
          have s4 : 1000 < l[k] + n := by omega
          go_wp2
          all_goals
            go_ret2
            try simp only [q1, q2]
            exact ⟨_, rfl, Own.nil _ _ _ _, Below.refl _ _⟩
        · obtain ⟨q1, q2⟩ := hold_some h0 hnn hr
          rw [hat] at hr q2
          rw [Int.toNat_natCast] at q2
          have r1 : ¬ n < -1000 := by omega
          have r2 : ¬ 1000 < n := by omega
          have r3 : ¬ l[k] + n < 0 := by omega
          have r4 : ¬ 1000 < l[k] + n := by omega
          clear hat hnn hk hr
          go_wp2_with fail
          refine (slot_any l _ c k _ _ hle hrd hlen hlt).mono ?_
          rintro e w3 ⟨v, rfl, ho, hb⟩
          go_wp2
          go_ret2
          try simp only [q1, q2]
          exact ⟨_, rfl, by rw [List.length_set]; exact ho, hb⟩
  · obtain ⟨q1, q2⟩ := hold_wrong k n h0
    have hw : (wrongS l != 0) = true := by simpa using h0
    go_wp2
    go_ret2
    try simp only [q1, q2]
    exact ⟨_, rfl, Own.nil _ _ _ _, Below.refl _ _⟩

theorem same_end {l m : List Int} (hlm : l.length = m.length) (h : ∀ i (hi : i < l.length), l[i] = m[i]'(by omega)) : (l == m) = true := by
  rw [beq_iff_eq]
  exact List.ext_getElem hlm fun i h1 h2 => h i h1
theorem same_not {l m : List Int} (k : Nat) (h1 : k < l.length) (h2 : k < m.length) (h : l[k] ≠ m[k]) : (l == m) = false := by
  rw [beq_eq_false_iff_ne]
  rintro rfl
  exact h rfl
set_option maxHeartbeats 400000 in
theorem same_any (l m : List Int) (a a' : Option Addr) (c c' : Nat) (w : World) (hrd : RdV w a (l.map inV)) (hrd' : RdV w a' (m.map inV)) (hl : l.length ≤ 9223372036854775807) (hl' : m.length ≤ 9223372036854775807) :
    Calls Try.prog 38 #[.slice a l.length c, .slice a' m.length c'] w fun e w' => e = .returned (.bool (l == m)) ∧ Below w.heap.size w w' := by
  go_enter Try.func38, Try.ntmps38
  by_cases hlm : l.length = m.length
  · have hne : ((l.length : Int) != (m.length : Int)) = false := by simp [hlm]
    go_wp2
    go_loopw [13] (fun i wr => ∃ k : Nat, k ≤ l.length ∧ i = .int .i64 k ∧ Below w.heap.size w wr ∧ ∀ i (h : i < l.length), i < k → l[i] = m[i]'(by omega)) (fun i _ => l.length - (intOf i).toNat)
    case atStart => exact ⟨0, Nat.zero_le _, rfl, Below.refl _ _, fun i _ h => absurd h (Nat.not_lt_zero _)⟩
    case round =>
      obtain ⟨k, hk, rfl, hbel, hp⟩ := hrel
      by_cases hlt : k < l.length
      · obtain ⟨b, off, rfl, hc⟩ := elem_at (hrd.below hbel) k hlt
        obtain ⟨b', off', rfl, hc'⟩ := elem_at (hrd'.below hbel) k (by omega)
        have k1 : (k : Int) < (m.length : Int) := by omega
        go_wp2_with fail
        go_quiet (fail)
        by_cases he : l[k] = m[k]'(by omega)
        · have hz : (l[k] != m[k]'(by omega)) = false := by simp [he]
          go_wp2
          go_roundw
          case rel => exact ⟨k + 1, by omega, by go_num, below_drewN hbel _, upto hp hlt he⟩
          case measure => simp [intOf]; omega
        · have hz : (l[k] != m[k]'(by omega)) = true := by simp [he]
          go_wp2
          go_ret
          exact ⟨ret_bool (same_not k hlt (by omega) he).symm, below_drewN hbel _⟩
      · go_wp2
        all_goals
          go_ret
          exact ⟨ret_bool (same_end hlm fun i h => hp i h (by omega)).symm, hbel⟩
  · have hne : ((l.length : Int) != (m.length : Int)) = true := by simp; omega
    go_wp2
    go_ret
    refine ⟨ret_bool ?_, Below.refl _ _⟩
    symm
    rw [beq_eq_false_iff_ne]
    rintro rfl
    exact hlm rfl
end Go.Proofs.Ytohbfjbcfibhcaa
