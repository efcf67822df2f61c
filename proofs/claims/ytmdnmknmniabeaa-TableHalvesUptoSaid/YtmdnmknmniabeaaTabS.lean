/- The document's SameTable. -/
import Derived.Test.YtmdnmknmniabeaaTab8
namespace Go.Proofs.Ytmdnmknmniabeaa
open Go.RowKit Pw
set_option linter.unusedSimpArgs false
set_option linter.unusedVariables false

theorem en_beq (f g : En) : (f == g) = (f.k == g.k && (f.n == g.n && f.w == g.w)) := by
  cases f; cases g
  rw [Bool.eq_iff_iff]
  simp
theorem eqEn (f g : En) (b : Bool) (h : (f == g) = b) (W : World) : (Op.equalIn 10000 26 (.agg #[.int .i64 f.k, .int .i64 f.n, .bool f.w]) (.agg #[.int .i64 g.k, .int .i64 g.n, .bool g.w])).run Try.prog W = .ok b W := by
  rw [← h, en_beq]
  by_cases h1 : (f.k == g.k) = true
  · by_cases h2 : (f.n == g.n) = true
    · by_cases h3 : f.w = g.w <;> simp [go_sem, h1, h2, h3]
    · simp [go_sem, h1, h2]
  · simp [go_sem, h1]
def sameT (t u : Tb) : Bool := decide (t = u)
theorem sameT_not {t u : Tb} (k : Nat) (hk : k < 8) (h : t[k] ≠ u[k]) : sameT t u = false := by
  unfold sameT
  rw [decide_eq_false_iff_not]
  rintro rfl
  exact h rfl
theorem sameT_all {t u : Tb} (h : ∀ i (hi : i < 8), t[i] = u[i]) : sameT t u = true := by
  unfold sameT
  rw [decide_eq_true_eq]
  exact Vector.ext h
set_option maxHeartbeats 4000000 in
set_option maxRecDepth 100000 in
theorem tsame_any (t u : Tb) (cs ds : Array Value) (w : World) (h : TbR w cs t) (h' : TbR w ds u) : Calls Try.prog 16 #[.agg cs, .agg ds] w fun r w' => r = .returned (.bool (sameT t u)) ∧ Below w.heap.size w w' := by
  go_enter Try.func16, Try.ntmps16
  go_upto_region 1 with (fail)
  refine abs2 (fun W => Code.wp _ _ _ _ W) fun W0 hb0 hx0 hy0 hs0 => ?_
  clear hs0
  go_wp2
  go_loopw [7] (fun i wr => ∃ k : Nat, k ≤ 8 ∧ i = .int .i64 k ∧ Below w.heap.size w wr ∧ Blk wr w.heap.size cs 24 ∧ Blk wr (w.heap.size + 1) ds 24 ∧ ∀ i (hi : i < 8), i < k → t[i] = u[i]) (fun i _ => 8 - (intOf i).toNat)
  case atStart => exact ⟨0, Nat.zero_le _, rfl, hb0, hx0, hy0, fun i _ h => absurd h (Nat.not_lt_zero _)⟩
  case round =>
    obtain ⟨k, hk, rfl, hbr, hx, hy, hp0⟩ := hrel
    have hp := Lib.hid hp0
    clear hp0 hb0 hx0 hy0
    by_cases hlt : k < 8
    · obtain ⟨a, c, hcs, hle, hmx, hnil, hrd⟩ := h.at' k hlt
      obtain ⟨a', c', hds, hle', hmx', hnil', hrd'⟩ := h'.at' k hlt
      have hd8 : decide ((k : Int) < 8) = true := by simp; omega
      have hk8 : (k : Int) < 8 := by omega
      unfold maxLen at hmx hmx'
      have HC := Lib.hid hcs
      have HD := Lib.hid hds
      have hcx := (hx.cell k).trans hcs
      have hcy := (hy.cell k).trans hds
      clear hcs hds
      by_cases hl : t[k].length = u[k].length
      · have hl' := Lib.hid hl
        have hne : ((t[k].length : Int) != (u[k].length : Int)) = false := by simp [hl]
        clear hl
        go_wp2_with fail
        go_quiet (fail)
        go_wp2
        clear hcx hcy
        generalize hW1 : wr.drewN _ = w1
        have hbr1 : Below w.heap.size w w1 := by rw [← hW1]; exact below_drewN hbr _
        have hx1 : Blk w1 w.heap.size cs 24 := by rw [← hW1]; exact hx.drewN _
        have hy1 : Blk w1 (w.heap.size + 1) ds 24 := by rw [← hW1]; exact hy.drewN _
        clear hW1 hbr hx hy
        go_loopw [23] (fun i wr => ∃ j : Nat, j ≤ t[k].length ∧ i = .int .i64 j ∧ Below w.heap.size w wr ∧ Blk wr w.heap.size cs 24 ∧ Blk wr (w.heap.size + 1) ds 24 ∧ ∀ i (hi : i < t[k].length), i < j → t[k][i] = u[k][i]'(by have := hl'.out; omega)) (fun i _ => t[k].length - (intOf i).toNat)
        case atStart => exact ⟨0, Nat.zero_le _, rfl, hbr1, hx1, hy1, fun i _ h => absurd h (Nat.not_lt_zero _)⟩
        case round =>
          obtain ⟨j, hj, rfl, hbr, hx, hy, hq0⟩ := hrel
          have hq := Lib.hid hq0
          clear hq0 hbr1 hx1 hy1
          have hcx := (hx.cell k).trans HC.out
          have hcy := (hy.cell k).trans HD.out
          by_cases hjl : j < t[k].length
          · have hjl' : j < u[k].length := by have := hl'.out; omega
            have k1 : (j : Int) < (u[k].length : Int) := by omega
            obtain ⟨b, off, rfl, c0, c1, c2⟩ := en_at (hrd.below hbr) j hjl
            obtain ⟨b', off', rfl, d0, d1, d2⟩ := en_at (hrd'.below hbr) j hjl'
            by_cases he : t[k][j] = u[k][j]
            · have hE := eqEn t[k][j] u[k][j] true (beq_iff_eq.2 he)
              have he' := Lib.hid he
              clear he
              go_wp2_with fail
              go_quiet (fail)
              go_wp2
              go_roundw
              case rel => exact ⟨j + 1, by omega, by go_num, below_drewN hbr _, hx.drewN _, hy.drewN _, upto2 hl'.out hjl hq.out he'.out⟩
              case measure => simp [intOf]; omega
            · have hE := eqEn t[k][j] u[k][j] false (beq_eq_false_iff_ne.2 he)
              have hfin := Lib.hid (sameT_not k hlt (ne_at j hjl hjl' he))
              clear he
              go_wp2_with fail
              go_quiet (fail)
              go_wp2
              go_ret
              exact ⟨ret_bool hfin.out.symm, below_drewN hbr _⟩
          · have hall := Lib.hid (upto' hp.out hlt (all_eq hl'.out j hjl hq.out))
            go_wp2
            go_roundw
            case rel => exact ⟨k + 1, by omega, by go_num, hbr, hx, hy, hall.out⟩
            case measure => simp [intOf]; omega
      · have hne : ((t[k].length : Int) != (u[k].length : Int)) = true := by rw [bne_iff_ne]; omega
        have hfin := Lib.hid (sameT_not k hlt (fun e => hl (by rw [e])))
        clear hl
        go_wp2_with fail
        go_quiet (fail)
        go_wp2
        go_ret
        exact ⟨ret_bool hfin.out.symm, below_drewN hbr _⟩
    · have hfin := Lib.hid (sameT_all fun i hi => hp.out i hi (by omega))
      go_wp2
      go_ret
      exact ⟨ret_bool hfin.out.symm, hbr⟩
end Go.Proofs.Ytmdnmknmniabeaa
