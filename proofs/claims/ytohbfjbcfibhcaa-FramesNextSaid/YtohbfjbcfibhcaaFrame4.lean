/- Frames compared; what SameMemory tells. -/
import Derived.Test.YtohbfjbcfibhcaaFrame3
namespace Go.Proofs.Ytohbfjbcfibhcaa
open Go.RowKit Pw
set_option linter.unusedSimpArgs false
set_option linter.unusedVariables false

theorem fr_beq (f g : Fr) : (f == g) = (f.p == g.p && (f.r == g.r && (f.u == g.u && (f.d == g.d && (f.f == g.f && f.i == g.i))))) := by
  cases f; cases g
  rw [Bool.eq_iff_iff]
  simp
set_option maxRecDepth 100000 in
theorem eqFr (f g : Fr) (W : World) : (Op.equalIn 10000 72 (.agg (frC f)) (.agg (frC g))).run Try.prog W = .ok (f == g) W := by
  have e := eqP9 f.p g.p W
  rw [fr_beq]
  simp only [frC]
  by_cases h0 : (f.p == g.p) = true
  · rw [h0] at e ⊢
    by_cases h1 : (f.r == g.r) = true
    · by_cases h2 : (f.u == g.u) = true
      · by_cases h3 : (f.d == g.d) = true
        · by_cases h4 : (f.f == g.f) = true
          · by_cases h5 : (f.i == g.i) = true
            · simp [go_sem, e, h1, h2, h3, h4, h5]
            · simp [go_sem, e, h1, h2, h3, h4, h5]
          · simp [go_sem, e, h1, h2, h3, h4]
        · simp [go_sem, e, h1, h2, h3]
      · simp [go_sem, e, h1, h2]
    · simp [go_sem, e, h1]
  · rw [Bool.not_eq_true] at h0
    rw [h0] at e ⊢
    simp [go_sem, e]
theorem eqFr' (f g : Fr) (b : Bool) (h : (f == g) = b) (W : World) : (Op.equalIn 10000 72 (.agg #[.int .u8 f.p[0].toNat, .int .u8 f.p[1].toNat, .int .u8 f.p[2].toNat, .int .u8 f.p[3].toNat, .int .u8 f.p[4].toNat, .int .u8 f.p[5].toNat, .int .u8 f.p[6].toNat, .int .u8 f.p[7].toNat, .int .i64 f.r, .bool f.u, .bool f.d, .int .i64 f.f, .int .i64 f.i]) (.agg #[.int .u8 g.p[0].toNat, .int .u8 g.p[1].toNat, .int .u8 g.p[2].toNat, .int .u8 g.p[3].toNat, .int .u8 g.p[4].toNat, .int .u8 g.p[5].toNat, .int .u8 g.p[6].toNat, .int .u8 g.p[7].toNat, .int .i64 g.r, .bool g.u, .bool g.d, .int .i64 g.f, .int .i64 g.i])).run Try.prog W = .ok b W := by
  rw [← h]; exact eqFr f g W
def sameM (m n : Mem) : Bool := m.hand == n.hand && m.fs == n.fs
theorem sameM_iff {m n : Mem} : sameM m n = true ↔ m = n := by
  obtain ⟨B, Q⟩ := m
  obtain ⟨B', Q'⟩ := n
  simp [sameM, and_comm]
theorem sameM_not {m n : Mem} (h : m.hand ≠ n.hand ∨ m.fs ≠ n.fs) : sameM m n = false := by
  rw [← Bool.not_eq_true, sameM_iff]
  rintro rfl
  rcases h with h | h <;> exact h rfl
set_option maxHeartbeats 2000000 in
set_option maxRecDepth 100000 in
theorem msame_any (m n : Mem) (a : Option Addr) (c : Nat) (a' : Option Addr) (c' : Nat) (w : World) (h : MRd w a c m) (h' : MRd w a' c' n) :
    Calls Try.prog 45 #[.agg #[.slice a m.fs.length c, .int .i64 m.hand], .agg #[.slice a' n.fs.length c', .int .i64 n.hand]] w fun e w' => e = .returned (.bool (sameM m n)) ∧ Below w.heap.size w w' := by
  go_enter Try.func45, Try.ntmps45
  go_upto_region 1 with (fail)
  refine abs2 (fun W => Code.wp _ _ _ _ W) fun W0 hb0 hx0 hy0 hs0 => ?_
  clear hs0
  have hcx := hx0.cell
  have hcy := hy0.cell
  by_cases hh : m.hand = n.hand
  · have hhb : (m.hand != n.hand) = false := by simp [hh]
    have hh' := Lib.hid hh
    clear hh
    by_cases hl : m.fs.length = n.fs.length
    · have hne : ((m.fs.length : Int) != (n.fs.length : Int)) = false := by simp [hl]
      have lb := Nat.le_trans h.le h.mx
      unfold maxLen at lb
      have hl' := Lib.hid hl
      clear hl
      go_wp2
      clear hcx hcy
      go_loopw [23] (fun i wr => ∃ k : Nat, k ≤ m.fs.length ∧ i = .int .i64 k ∧ Below w.heap.size w wr ∧ Blk wr w.heap.size #[.slice a m.fs.length c, .int .i64 m.hand] 64 ∧ Blk wr (w.heap.size + 1) #[.slice a' n.fs.length c', .int .i64 n.hand] 64 ∧ ∀ i (h : i < m.fs.length), i < k → m.fs[i] = n.fs[i]'(by have := hl'.out; omega)) (fun i _ => m.fs.length - (intOf i).toNat)
      case atStart => exact ⟨0, Nat.zero_le _, rfl, hb0, hx0, hy0, fun i _ h => absurd h (Nat.not_lt_zero _)⟩
      case round =>
        obtain ⟨k, hk, rfl, hbel, hx, hy, hp⟩ := hrel
        clear hx0 hy0 hb0
        have hp' := Lib.hid hp
        clear hp
        have hcx := hx.cell
        have hcy := hy.cell
        by_cases hlt : k < m.fs.length
        · have hlt' : k < n.fs.length := by have := hl'.out; omega
          obtain ⟨b, off, rfl, hc⟩ := fr_at (h.below hbel).rd k hlt
          obtain ⟨b', off', rfl, hc'⟩ := fr_at (h'.below hbel).rd k hlt'
          obtain ⟨c0, c1, c2, c3, c4, c5, c6, c7, c8, c9, ca, cb, cc⟩ := hc
          obtain ⟨d0, d1, d2, d3, d4, d5, d6, d7, d8, d9, da, db, dc⟩ := hc'
          have k1 : (k : Int) < (n.fs.length : Int) := by omega
          by_cases he : m.fs[k] = n.fs[k]
          · have hE := eqFr' m.fs[k] n.fs[k] true (beq_iff_eq.2 he)
            have he' := Lib.hid he
            clear he
            go_wp2_with fail
            go_quiet (fail)
            go_wp2
            go_roundw
            case rel => exact ⟨k + 1, by omega, by go_num, below_drewN hbel _, hx.drewN _, hy.drewN _, upto2 hl'.out hlt hp'.out he'.out⟩
            case measure => simp [intOf]; omega
          · have hE := eqFr' m.fs[k] n.fs[k] false (beq_eq_false_iff_ne.2 he)
            have he' := Lib.hid he
            clear he
            go_wp2_with fail
            go_quiet (fail)
            go_wp2
            go_ret
            exact ⟨by rw [sameM_not (.inr (ne_at k hlt hlt' he'.out))]; rfl, below_drewN hbel _⟩
        · have hall := Lib.hid (all_eq hl'.out k hlt hp'.out)
          go_wp2
          go_ret
          exact ⟨by rw [sameM_iff.2 (by cases m; cases n; simp only [Mem.mk.injEq]; exact ⟨hall.out, hh'.out⟩)]; rfl, hbel⟩
    · have hne : ((m.fs.length : Int) != (n.fs.length : Int)) = true := by simp; omega
      go_wp2
      go_ret
      exact ⟨by rw [sameM_not (.inr (fun e => hl (by rw [e])))]; rfl, hb0⟩
  · have hhb : (m.hand != n.hand) = true := by simpa using hh
    go_wp2
    go_ret
    exact ⟨by rw [sameM_not (.inl hh)]; rfl, hb0⟩
end Go.Proofs.Ytohbfjbcfibhcaa
