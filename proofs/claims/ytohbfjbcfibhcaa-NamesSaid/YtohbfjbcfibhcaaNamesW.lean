/- The law Names, walked. -/
import Derived.Test.YtohbfjbcfibhcaaDisk2
import Derived.Test.YtohbfjbcfibhcaaMem
import Derived.Deep.QuietTactic
import Derived.BigQuiet
namespace Go.Proofs.Ytohbfjbcfibhcaa
open Go.RowKit Pw
set_option linter.unusedSimpArgs false
set_option linter.unusedVariables false

def eleven : Array Value := #[.int .i64 0, .int .i64 1, .int .i64 2, .int .i64 3, .int .i64 4, .int .i64 5, .int .i64 6, .int .i64 7, .int .i64 8, .int .i64 9, .int .i64 10]
def thirty : Array Value := #[.int .i64 80, .int .i64 400, .int .i64 5, .int .i64 12, .int .i64 0, .int .i64 1, .int .i64 2, .int .i64 8, .int .i64 64, .int .i64 1, .int .i64 2, .int .i64 3, .int .i64 4, .int .i64 5, .int .i64 6, .int .i64 7, .int .i64 8, .int .i64 9, .int .i64 10, .int .i64 11, .int .i64 12, .int .i64 13, .int .i64 14, .int .i64 15, .int .i64 8, .int .i64 40, .int .i64 60, .int .i64 16, .int .i64 4, .int .i64 80]
theorem eleven_at : ∀ k : Nat, k < 11 → eleven[k]? = some (.int .i64 k)
  | 0, _ => rfl
  | 1, _ => rfl
  | 2, _ => rfl
  | 3, _ => rfl
  | 4, _ => rfl
  | 5, _ => rfl
  | 6, _ => rfl
  | 7, _ => rfl
  | 8, _ => rfl
  | 9, _ => rfl
  | 10, _ => rfl
  | n + 11, h => by omega
def nth (k : Nat) : Int := [80, 400, 5, 12, 0, 1, 2, 8, 64, 1, 2, 3, 4, 5, 6, 7, 8, 9, 10, 11, 12, 13, 14, 15, 8, 40, 60, 16, 4, 80].getD k 0
theorem thirty_at : ∀ k : Nat, k < 30 → thirty[k]? = some (.int .i64 (nth k))
  | 0, _ => rfl
  | 1, _ => rfl
  | 2, _ => rfl
  | 3, _ => rfl
  | 4, _ => rfl
  | 5, _ => rfl
  | 6, _ => rfl
  | 7, _ => rfl
  | 8, _ => rfl
  | 9, _ => rfl
  | 10, _ => rfl
  | 11, _ => rfl
  | 12, _ => rfl
  | 13, _ => rfl
  | 14, _ => rfl
  | 15, _ => rfl
  | 16, _ => rfl
  | 17, _ => rfl
  | 18, _ => rfl
  | 19, _ => rfl
  | 20, _ => rfl
  | 21, _ => rfl
  | 22, _ => rfl
  | 23, _ => rfl
  | 24, _ => rfl
  | 25, _ => rfl
  | 26, _ => rfl
  | 27, _ => rfl
  | 28, _ => rfl
  | 29, _ => rfl
  | n + 30, h => by omega

set_option maxHeartbeats 1000000 in
set_option maxRecDepth 100000 in
theorem names_any (w : World) :
    Calls Try.prog 16 #[] w fun e w' => e = .returned (.bool true) ∧ Below w.heap.size w w' := by
  go_enter Try.func16, Try.ntmps16
  go_upto_region 2 with (fail)
  refine abs1 (fun W => Code.wp _ _ _ _ W) fun W0 hb0 hx0 hs0 => ?_
  clear hs0
  have hx0' : Blk W0 w.heap.size eleven _ := hx0
  clear hx0
  go_wp2
  go_loopw [10] (fun i wr => ∃ k : Nat, k ≤ 11 ∧ i = .int .i64 k ∧ W0 = wr) (fun i _ => 11 - (intOf i).toNat)
  case atStart => exact ⟨0, Nat.zero_le _, rfl, rfl⟩
  case round =>
    obtain ⟨k, hk, rfl, rfl⟩ := hrel
    by_cases hlt : k < 11
    · have c := (hx0'.cell k).trans (eleven_at k hlt)
      go_wp2
      go_roundw
      case rel => exact ⟨k + 1, by omega, by go_num, trivial⟩
      case measure => simp [intOf]; omega
    · clear hx0'
      go_upto_region 10 with (fail)
      refine abs2 (fun W => Code.wp _ _ _ _ W) fun W1 hb1 hx1 hy1 hs1 => ?_
      clear hs1
      have hbel1 := below_next hb0 hb1
      have hx : Blk W1 W0.heap.size thirty _ := hx1
      have hy : Blk W1 (W0.heap.size + 1) thirty _ := hy1
      clear hx1 hy1
      go_wp2
      go_loopw [23] (fun i wr => ∃ k : Nat, k ≤ 30 ∧ i = .int .i64 k ∧ Below w.heap.size w wr ∧ Blk wr W0.heap.size thirty 3 ∧ Blk wr (W0.heap.size + 1) thirty 3) (fun i _ => 30 - (intOf i).toNat)
      case atStart => exact ⟨0, Nat.zero_le _, rfl, hbel1, hx, hy⟩
      case round =>
        clear hk hlt hx hy hbel1
        obtain ⟨k, hk, rfl, hbel, hx, hy⟩ := hrel
        by_cases hlt : k < 30
        · have c := (hx.cell k).trans (thirty_at k hlt)
          have c' := (hy.cell k).trans (thirty_at k hlt)
          have kz : (k : Int) < 30 := by omega
          go_wp2_with fail
          go_quiet (fail)
          go_wp2
          go_roundw
          case rel => exact ⟨k + 1, by omega, by go_num, below_drewN hbel _, hx.drewN _, hy.drewN _⟩
          case measure => simp [intOf]; omega
        · go_wp2
          go_ret
          exact ⟨rfl, hbel⟩
end Go.Proofs.Ytohbfjbcfibhcaa
