/- Frames as data; what is wrong with one. -/
import Derived.Test.YtohbfjbcfibhcaaDisk5
import Derived.Deep.QuietTactic
import Derived.BigQuiet
import Derived.Deep.Light
namespace Go.Proofs.Ytohbfjbcfibhcaa
open Go.RowKit Pw
set_option linter.unusedSimpArgs false
set_option linter.unusedVariables false

structure Fr where
  p : Page
  r : Int
  u : Bool
  d : Bool
  f : Int
  i : Int
  deriving DecidableEq
def frC (f : Fr) : Array Value := #[.int .u8 f.p[0].toNat, .int .u8 f.p[1].toNat, .int .u8 f.p[2].toNat, .int .u8 f.p[3].toNat, .int .u8 f.p[4].toNat, .int .u8 f.p[5].toNat, .int .u8 f.p[6].toNat, .int .u8 f.p[7].toNat, .int .i64 f.r, .bool f.u, .bool f.d, .int .i64 f.f, .int .i64 f.i]
def frL (f : Fr) : List Value := (frC f).toList
theorem frL_len (f : Fr) : (frL f).length = 13 := rfl
structure FrAt (w : World) (b off : Nat) (f : Fr) : Prop where
  c0 : w.cell? ⟨b, off, none⟩ = some (.int .u8 f.p[0].toNat)
  c1 : w.cell? ⟨b, off + 1, none⟩ = some (.int .u8 f.p[1].toNat)
  c2 : w.cell? ⟨b, off + 2, none⟩ = some (.int .u8 f.p[2].toNat)
  c3 : w.cell? ⟨b, off + 3, none⟩ = some (.int .u8 f.p[3].toNat)
  c4 : w.cell? ⟨b, off + 4, none⟩ = some (.int .u8 f.p[4].toNat)
  c5 : w.cell? ⟨b, off + 5, none⟩ = some (.int .u8 f.p[5].toNat)
  c6 : w.cell? ⟨b, off + 6, none⟩ = some (.int .u8 f.p[6].toNat)
  c7 : w.cell? ⟨b, off + 7, none⟩ = some (.int .u8 f.p[7].toNat)
  c8 : w.cell? ⟨b, off + 8, none⟩ = some (.int .i64 f.r)
  c9 : w.cell? ⟨b, off + 9, none⟩ = some (.bool f.u)
  ca : w.cell? ⟨b, off + 10, none⟩ = some (.bool f.d)
  cb : w.cell? ⟨b, off + 11, none⟩ = some (.int .i64 f.f)
  cc : w.cell? ⟨b, off + 12, none⟩ = some (.int .i64 f.i)
theorem fr_at {w : World} {a : Option Addr} {l : List Fr} (h : RdV w a (l.flatMap frL)) (k : Nat) (hk : k < l.length) : ∃ b off, a = some ⟨b, off, none⟩ ∧ FrAt w b (off + k * 13) l[k] := by
  obtain ⟨b, off, ha, hc⟩ := h.elem frL_len (by decide) k hk
  exact ⟨b, off, ha, hc 0 _ rfl, hc 1 _ rfl, hc 2 _ rfl, hc 3 _ rfl, hc 4 _ rfl, hc 5 _ rfl, hc 6 _ rfl, hc 7 _ rfl, hc 8 _ rfl, hc 9 _ rfl, hc 10 _ rfl, hc 11 _ rfl, hc 12 _ rfl⟩
theorem fr_blk {w : World} {b : Nat} {f : Fr} {T : TypeId} (h : Blk w b (frC f) T) : FrAt w b 0 f :=
  ⟨h.cell 0, h.cell 1, h.cell 2, h.cell 3, h.cell 4, h.cell 5, h.cell 6, h.cell 7, h.cell 8, h.cell 9, h.cell 10, h.cell 11, h.cell 12⟩

def badFr (f : Fr) : Bool := decide (f.r < 0) || decide (1000 < f.r) || decide (f.f < -1) || decide (5 ≤ f.f) || decide (f.i < 0) || decide (12 ≤ f.i)
def unfit (f : Fr) : Bool := decide (f.r = 0) && (f.u || f.d || decide (0 ≤ f.f) || f.p != zPg)
def unfile (f : Fr) : Bool := decide (f.f < 0) && decide (f.i ≠ 0)
def frameE (f : Fr) : Int := if badFr f = true then 3 else if unfit f = true ∨ unfile f = true then 7 else 0
set_option maxHeartbeats 2000000 in
set_option maxRecDepth 100000 in
theorem frame_any (f : Fr) (b off : Nat) (w : World) (h : FrAt w b off f) : Calls Try.prog 74 #[.pointer (some ⟨b, off, none⟩)] w fun e w' => e = .returned (.int .i64 (frameE f)) ∧ w' = w := by
  obtain ⟨c0, c1, c2, c3, c4, c5, c6, c7, c8, c9, ca, cb, cc⟩ := h
  have hE : ∀ W, (Op.equalIn 10000 23 (.agg #[.int .u8 f.p[0].toNat, .int .u8 f.p[1].toNat, .int .u8 f.p[2].toNat, .int .u8 f.p[3].toNat, .int .u8 f.p[4].toNat, .int .u8 f.p[5].toNat, .int .u8 f.p[6].toNat, .int .u8 f.p[7].toNat]) (.agg #[.int .u8 0, .int .u8 0, .int .u8 0, .int .u8 0, .int .u8 0, .int .u8 0, .int .u8 0, .int .u8 0])).run Try.prog W = .ok (f.p == zPg) W := eqP f.p zPg
  go_enter Try.func74, Try.ntmps74
  go_wp2
  all_goals go_ret
  all_goals refine ⟨?_, rfl⟩
  all_goals clear c0 c1 c2 c3 c4 c5 c6 c7 c8 c9 ca cb cc hE
  all_goals go_light
  all_goals refine congrArg (fun z => Ending.returned (.int .i64 z)) ?_
  all_goals simp only [frameE, badFr, unfit, unfile, Bool.or_eq_true, Bool.and_eq_true, decide_eq_true_eq, ne_eq, bne_iff_ne]
  all_goals simp_all
  all_goals omega
end Go.Proofs.Ytohbfjbcfibhcaa
