/- What the document's WrongFrame, WrongMemory and With do. -/
import Derived.Test.YtohbfjbcfibhcaaFrame12
namespace Go.Proofs.Ytohbfjbcfibhcaa
open Go.RowKit Pw
set_option linter.unusedSimpArgs false
set_option linter.unusedVariables false

set_option maxHeartbeats 2000000 in
set_option maxRecDepth 100000 in
theorem rframe_any (f : Fr) (w : World) : Calls Try.prog 75 #[.agg (frC f)] w fun e w' => e = .returned (.int .i64 (frameE f)) ∧ Below w.heap.size w w' := by
  have hE : ∀ W, (Op.equalIn 10000 23 (.agg #[.int .u8 f.p[0].toNat, .int .u8 f.p[1].toNat, .int .u8 f.p[2].toNat, .int .u8 f.p[3].toNat, .int .u8 f.p[4].toNat, .int .u8 f.p[5].toNat, .int .u8 f.p[6].toNat, .int .u8 f.p[7].toNat]) (.agg #[.int .u8 0, .int .u8 0, .int .u8 0, .int .u8 0, .int .u8 0, .int .u8 0, .int .u8 0, .int .u8 0])).run Try.prog W = .ok (f.p == zPg) W := eqP f.p zPg
  have hE9 : ∀ W, (Op.equalIn 9999 23 (.agg #[.int .u8 f.p[0].toNat, .int .u8 f.p[1].toNat, .int .u8 f.p[2].toNat, .int .u8 f.p[3].toNat, .int .u8 f.p[4].toNat, .int .u8 f.p[5].toNat, .int .u8 f.p[6].toNat, .int .u8 f.p[7].toNat]) (.agg #[.int .u8 0, .int .u8 0, .int .u8 0, .int .u8 0, .int .u8 0, .int .u8 0, .int .u8 0, .int .u8 0])).run Try.prog W = .ok (f.p == zPg) W := eqP9 f.p zPg
  go_enter Try.func75, Try.ntmps75
  unfold frC
  cases hp : (f.p == zPg)
  all_goals rw [hp] at hE hE9
  all_goals have hp' := Lib.hid hp
  all_goals clear hp
  all_goals go_wp2
  all_goals go_ret
  all_goals refine ⟨?_, (Below.refl _ _).alloc (Nat.le_refl _) _⟩
  all_goals have hp := hp'.out
  all_goals clear hE hE9 hp'
  all_goals go_light
  all_goals refine congrArg (fun z => Ending.returned (.int .i64 z)) ?_
  all_goals simp only [frameE, badFr, unfit, unfile, Bool.or_eq_true, Bool.and_eq_true, decide_eq_true_eq, ne_eq, bne_iff_ne]
  all_goals simp_all
  all_goals omega
end Go.Proofs.Ytohbfjbcfibhcaa
