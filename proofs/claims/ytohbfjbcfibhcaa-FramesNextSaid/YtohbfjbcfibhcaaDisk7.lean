/- What SameDisk tells. -/
import Derived.Test.YtohbfjbcfibhcaaDisk5
import Derived.Deep.QuietTactic
import Derived.BigQuiet
namespace Go.Proofs.Ytohbfjbcfibhcaa
open Go.RowKit Pw
set_option linter.unusedSimpArgs false
set_option linter.unusedVariables false

theorem eqP9 (p q : Page) (W : World) : (Op.equalIn 9999 23 (.agg #[.int .u8 p[0].toNat, .int .u8 p[1].toNat, .int .u8 p[2].toNat, .int .u8 p[3].toNat, .int .u8 p[4].toNat, .int .u8 p[5].toNat, .int .u8 p[6].toNat, .int .u8 p[7].toNat]) (.agg #[.int .u8 q[0].toNat, .int .u8 q[1].toNat, .int .u8 q[2].toNat, .int .u8 q[3].toNat, .int .u8 q[4].toNat, .int .u8 q[5].toNat, .int .u8 q[6].toNat, .int .u8 q[7].toNat])).run Try.prog W = .ok (p == q) W :=
  run_eq_page W 9997 _ _ Try.underlying23 Try.underlying5 byte_size p q
def sameD (d d' : Dsk) : Bool := d.blocks == d'.blocks && d.queue == d'.queue
theorem sameD_iff {d d' : Dsk} : sameD d d' = true ↔ d = d' := by
  obtain ⟨B, Q⟩ := d
  obtain ⟨B', Q'⟩ := d'
  simp [sameD]
theorem ne_at {α : Type} {l m : List α} (k : Nat) (h : k < l.length) (h' : k < m.length) (hne : l[k] ≠ m[k]) : l ≠ m := by rintro rfl; exact hne rfl
theorem sameD_not {d d' : Dsk} (h : d.blocks ≠ d'.blocks ∨ d.queue ≠ d'.queue) : sameD d d' = false := by
  rw [← Bool.not_eq_true, sameD_iff]
  rintro rfl
  rcases h with h | h <;> exact h rfl
theorem all_eq {α : Type} {l m : List α} (hl : l.length = m.length) (k : Nat) (hk : ¬ k < l.length) (h : ∀ i (h : i < l.length), i < k → l[i] = m[i]'(by omega)) : l = m :=
  List.ext_getElem hl fun i h1 h2 => h i h1 (by omega)
theorem upto2 {α : Type} {l m : List α} (hl : l.length = m.length) {k : Nat} (hk : k < l.length) (h : ∀ i (h : i < l.length), i < k → l[i] = m[i]'(by omega)) (he : l[k] = m[k]'(by omega)) : ∀ i (h : i < l.length), i < k + 1 → l[i] = m[i]'(by omega) := by
  intro i h1 h2
  by_cases e : i = k
  · subst e; exact he
  · exact h i h1 (by omega)

set_option maxHeartbeats 2000000 in
set_option maxRecDepth 100000 in
theorem dsame_any (d d' : Dsk) (ab : Option Addr) (cb : Nat) (aq : Option Addr) (cq : Nat) (ab' : Option Addr) (cb' : Nat) (aq' : Option Addr) (cq' : Nat) (w : World) (h : DRd w ab cb aq cq d) (h' : DRd w ab' cb' aq' cq' d') :
    Calls Try.prog 31 #[.agg #[.slice ab d.blocks.length cb, .slice aq d.queue.length cq], .agg #[.slice ab' d'.blocks.length cb', .slice aq' d'.queue.length cq']] w fun e w' => e = .returned (.bool (sameD d d')) ∧ Below w.heap.size w w' := by
  go_enter Try.func31, Try.ntmps31
  go_upto_region 1 with (fail)
  refine abs2 (fun W => Code.wp _ _ _ _ W) fun W0 hb0 hx0 hy0 _ => ?_
  have hcx := hx0.cell
  have hcy := hy0.cell
  by_cases hl : d.blocks.length = d'.blocks.length
  · have hne : ((d.blocks.length : Int) != (d'.blocks.length : Int)) = false := by simp [hl]
    by_cases hq : d.queue.length = d'.queue.length
    · have hne' : ((d.queue.length : Int) != (d'.queue.length : Int)) = false := by simp [hq]
      have lb := Nat.le_trans h.lb h.mb
      have lq := Nat.le_trans h.lq h.mq
      unfold maxLen at lb lq
      have hl' := Lib.hid hl
      have hq' := Lib.hid hq
      clear hl hq
      go_wp2
      clear hcx hcy
      go_loopw [26] (fun i wr => ∃ k : Nat, k ≤ d.blocks.length ∧ i = .int .i64 k ∧ Below w.heap.size w wr ∧ Blk wr w.heap.size #[.slice ab d.blocks.length cb, .slice aq d.queue.length cq] 36 ∧ Blk wr (w.heap.size + 1) #[.slice ab' d'.blocks.length cb', .slice aq' d'.queue.length cq'] 36 ∧ ∀ i (h : i < d.blocks.length), i < k → d.blocks[i] = d'.blocks[i]'(by have := hl'.out; omega)) (fun i _ => d.blocks.length - (intOf i).toNat)
      case atStart => exact ⟨0, Nat.zero_le _, rfl, hb0, hx0, hy0, fun i _ h => absurd h (Nat.not_lt_zero _)⟩
      case round =>
        obtain ⟨k, hk, rfl, hbel, hx, hy, hp⟩ := hrel
        clear hx0 hy0 hb0
        have hp' := Lib.hid hp
        clear hp
        have hcx := hx.cell
        have hcy := hy.cell
        by_cases hlt : k < d.blocks.length
        · have hlt' : k < d'.blocks.length := by have := hl'.out; omega
          obtain ⟨b, off, rfl, hc⟩ := page_at (h.below hbel).rb k hlt
          obtain ⟨b', off', rfl, hc'⟩ := page_at (h'.below hbel).rb k hlt'
          have c0 := hc 0 (by decide); have c1 := hc 1 (by decide); have c2 := hc 2 (by decide); have c3 := hc 3 (by decide)
          have c4 := hc 4 (by decide); have c5 := hc 5 (by decide); have c6 := hc 6 (by decide); have c7 := hc 7 (by decide)
          have g0 := hc' 0 (by decide); have g1 := hc' 1 (by decide); have g2 := hc' 2 (by decide); have g3 := hc' 3 (by decide)
          have g4 := hc' 4 (by decide); have g5 := hc' 5 (by decide); have g6 := hc' 6 (by decide); have g7 := hc' 7 (by decide)
          simp only [pgC, List.getElem?_toArray, List.getElem?_cons_zero, List.getElem?_cons_succ, Nat.add_zero] at c0 c1 c2 c3 c4 c5 c6 c7 g0 g1 g2 g3 g4 g5 g6 g7
          clear hc hc'
          have k1 : (k : Int) < (d'.blocks.length : Int) := by omega
          have hE := eqP d.blocks[k] d'.blocks[k]
          by_cases he : d.blocks[k] = d'.blocks[k]
          · rw [beq_iff_eq.2 he] at hE
            have he' := Lib.hid he
            clear he
            go_wp2_with fail
            go_quiet (fail)
            go_wp2
            go_roundw
            case rel => exact ⟨k + 1, by omega, by go_num, below_drewN hbel _, hx.drewN _, hy.drewN _, upto2 hl'.out hlt hp'.out he'.out⟩
            case measure => simp [intOf]; omega
          · rw [beq_eq_false_iff_ne.2 he] at hE
            have he' := Lib.hid he
            clear he
            go_wp2_with fail
            go_quiet (fail)
            go_wp2
            go_ret
            exact ⟨by rw [sameD_not (.inl (ne_at k hlt hlt' he'.out))]; rfl, below_drewN hbel _⟩
        · have hall := Lib.hid (all_eq hl'.out k hlt hp'.out)
          clear hp'
          go_wp2
          clear hcx hcy
          go_loopw [44] (fun i wr => ∃ k : Nat, k ≤ d.queue.length ∧ i = .int .i64 k ∧ Below w.heap.size w wr ∧ Blk wr w.heap.size #[.slice ab d.blocks.length cb, .slice aq d.queue.length cq] 36 ∧ Blk wr (w.heap.size + 1) #[.slice ab' d'.blocks.length cb', .slice aq' d'.queue.length cq'] 36 ∧ ∀ i (h : i < d.queue.length), i < k → d.queue[i] = d'.queue[i]'(by have := hq'.out; omega)) (fun i _ => d.queue.length - (intOf i).toNat)
          case atStart => exact ⟨0, Nat.zero_le _, rfl, hbel, hx, hy, fun i _ h => absurd h (Nat.not_lt_zero _)⟩
          case round =>
            clear hbel hx hy
            obtain ⟨k, hk, rfl, hbel, hx, hy, hp⟩ := hrel
            have hp' := Lib.hid hp
            clear hp
            have hcx := hx.cell
            have hcy := hy.cell
            by_cases hlt : k < d.queue.length
            · have hlt' : k < d'.queue.length := by have := hq'.out; omega
              obtain ⟨b, off, rfl, hc⟩ := put_at (h.below hbel).rq k hlt
              obtain ⟨b', off', rfl, hc'⟩ := put_at (h'.below hbel).rq k hlt'
              have c0 := hc 0 (by decide); have c1 := hc 1 (by decide); have c2 := hc 2 (by decide); have c3 := hc 3 (by decide)
              have c4 := hc 4 (by decide); have c5 := hc 5 (by decide); have c6 := hc 6 (by decide); have c7 := hc 7 (by decide); have c8 := hc 8 (by decide)
              have g0 := hc' 0 (by decide); have g1 := hc' 1 (by decide); have g2 := hc' 2 (by decide); have g3 := hc' 3 (by decide)
              have g4 := hc' 4 (by decide); have g5 := hc' 5 (by decide); have g6 := hc' 6 (by decide); have g7 := hc' 7 (by decide); have g8 := hc' 8 (by decide)
              simp only [puC, List.getElem?_toArray, List.getElem?_cons_zero, List.getElem?_cons_succ, Nat.add_zero] at c0 c1 c2 c3 c4 c5 c6 c7 c8 g0 g1 g2 g3 g4 g5 g6 g7 g8
              clear hc hc'
              have k1 : (k : Int) < (d'.queue.length : Int) := by omega
              have hE := eqP9 d.queue[k].2 d'.queue[k].2
              by_cases he : d.queue[k] = d'.queue[k]
              · rw [← he] at hE g0 g1 g2 g3 g4 g5 g6 g7 g8
                rw [beq_self_eq_true] at hE
                have he' := Lib.hid he
                clear he
                go_wp2_with fail
                go_quiet (fail)
                go_wp2
                go_roundw
                case rel => exact ⟨k + 1, by omega, by go_num, below_drewN hbel _, hx.drewN _, hy.drewN _, upto2 hq'.out hlt hp'.out he'.out⟩
                case measure => simp [intOf]; omega
              · have he' := Lib.hid he
                by_cases hn : d.queue[k].1 = d'.queue[k].1
                · have hpn : ¬ d.queue[k].2 = d'.queue[k].2 := fun hh => he (Prod.ext hn hh)
                  rw [beq_eq_false_iff_ne.2 hpn] at hE
                  rw [← hn] at g0
                  clear he hn hpn
                  go_wp2_with fail
                  go_quiet (fail)
                  go_wp2
                  go_ret
                  exact ⟨by rw [sameD_not (.inr (ne_at k hlt hlt' he'.out))]; rfl, below_drewN hbel _⟩
                · have hz : (d.queue[k].1 == d'.queue[k].1) = false := by simpa using hn
                  clear he hn hE
                  go_wp2_with fail
                  go_quiet (fail)
                  go_wp2
                  go_ret
                  exact ⟨by rw [sameD_not (.inr (ne_at k hlt hlt' he'.out))]; rfl, below_drewN hbel _⟩
            · have hall2 := Lib.hid (all_eq hq'.out k hlt hp'.out)
              go_wp2
              go_ret
              exact ⟨by rw [sameD_iff.2 (by cases d; cases d'; simp only [Dsk.mk.injEq]; exact ⟨hall.out, hall2.out⟩)]; rfl, hbel⟩
    · have hne' : ((d.queue.length : Int) != (d'.queue.length : Int)) = true := by simp; omega
      go_wp2
      go_ret
      exact ⟨by rw [sameD_not (.inr (fun e => hq (by rw [e])))]; rfl, hb0⟩
  · have hne : ((d.blocks.length : Int) != (d'.blocks.length : Int)) = true := by simp; omega
    go_wp2
    go_ret
    exact ⟨by rw [sameD_not (.inl (fun e => hl (by rw [e])))]; rfl, hb0⟩
end Go.Proofs.Ytohbfjbcfibhcaa
