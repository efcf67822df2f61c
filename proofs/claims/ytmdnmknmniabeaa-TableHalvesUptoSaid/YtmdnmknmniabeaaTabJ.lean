/- Whole numbers held against each other (pglaw6). -/
import Derived.Test.YtmdnmknmniabeaaTabI
import Derived.Test.YtmdnmknmniabeaaTab7
import Derived.Test.YtmdnmknmniabeaaTab8
namespace Go.Proofs.Ytmdnmknmniabeaa
open Go.RowKit Pw
set_option linter.unusedSimpArgs false
set_option linter.unusedVariables false

theorem samei_end {l m : List Int} (hlm : l.length = m.length) (h : ∀ i (hi : i < l.length), l[i] = m[i]'(by omega)) : (l == m) = true := by
  rw [beq_iff_eq]
  exact List.ext_getElem hlm fun i h1 h2 => h i h1
theorem samei_not {l m : List Int} (k : Nat) (h1 : k < l.length) (h2 : k < m.length) (h : l[k] ≠ m[k]) : (l == m) = false := by
  rw [beq_eq_false_iff_ne]
  rintro rfl
  exact h rfl
set_option maxHeartbeats 400000 in
theorem tsamei_any (l m : List Int) (a a' : Option Addr) (c c' : Nat) (w : World) (hrd : RdV w a (l.map inV)) (hrd' : RdV w a' (m.map inV)) (hl : l.length ≤ 9223372036854775807) (hl' : m.length ≤ 9223372036854775807) :
    Calls Try.prog 22 #[.slice a l.length c, .slice a' m.length c'] w fun e w' => e = .returned (.bool (l == m)) ∧ Below w.heap.size w w' := by
  go_enter Try.func22, Try.ntmps22
  by_cases hlm : l.length = m.length
  · have hne : ((l.length : Int) != (m.length : Int)) = false := by simp [hlm]
    go_wp2
    go_loopw [13] (fun i wr => ∃ k : Nat, k ≤ l.length ∧ i = .int .i64 k ∧ Below w.heap.size w wr ∧ ∀ i (h : i < l.length), i < k → l[i] = m[i]'(by omega)) (fun i _ => l.length - (intOf i).toNat)
    case atStart => exact ⟨0, Nat.zero_le _, rfl, Below.refl _ _, fun i _ h => absurd h (Nat.not_lt_zero _)⟩
    case round =>
      obtain ⟨k, hk, rfl, hbel, hp⟩ := hrel
      by_cases hlt : k < l.length
      · obtain ⟨b, off, rfl, hc⟩ := elem_at (hrd.below hbel) k hlt
        obtain ⟨b', off', rfl, hc'⟩ := elem_at (hrd'.below hbel) k (by omega)
        have k1 : (k : Int) < (m.length : Int) := by omega
        go_wp2_with fail
        go_quiet (fail)
        by_cases he : l[k] = m[k]'(by omega)
        · have hz : (l[k] != m[k]'(by omega)) = false := by simp [he]
          go_wp2
          go_roundw
          case rel => exact ⟨k + 1, by omega, by go_num, below_drewN hbel _, upto hp hlt he⟩
          case measure => simp [intOf]; omega
        · have hz : (l[k] != m[k]'(by omega)) = true := by simp [he]
          go_wp2
          go_ret
          exact ⟨ret_bool (samei_not k hlt (by omega) he).symm, below_drewN hbel _⟩
      · go_wp2
        all_goals
          go_ret
          exact ⟨ret_bool (samei_end hlm fun i h => hp i h (by omega)).symm, hbel⟩
  · have hne : ((l.length : Int) != (m.length : Int)) = true := by simp; omega
    go_wp2
    go_ret
    refine ⟨ret_bool ?_, Below.refl _ _⟩
    symm
    rw [beq_eq_false_iff_ne]
    rintro rfl
    exact hlm rfl
end Go.Proofs.Ytmdnmknmniabeaa
