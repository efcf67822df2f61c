/- The law DiskCrash, walked. -/
import Derived.Test.YtohbfjbcfibhcaaDisk5
import Derived.Deep.QuietTactic
import Derived.BigQuiet
namespace Go.Proofs.Ytohbfjbcfibhcaa
open Go.RowKit Pw
set_option linter.unusedSimpArgs false
set_option linter.unusedVariables false

/-- A block that is kept is old, or one that was written. -/
theorem keepN_is (f : Nat → Bool) (B : List Page) (Q : List (Int × Page)) (hq : ∀ x ∈ Q, 0 ≤ x.1) (n i : Nat) (hi : i < B.length) : (keepN f B Q n)[i]? = some B[i] ∨ ∃ x ∈ Q, x.1 = (i : Int) ∧ (keepN f B Q n)[i]? = some x.2 := by
  induction n with
  | zero => exact .inl (List.getElem?_eq_getElem hi)
  | succ n ih =>
    by_cases hn : n < Q.length
    · cases hf : f n with
      | false => rw [keepN_not hn hf]; exact ih
      | true =>
        rw [keepN_put hn hf, List.getElem?_set]
        by_cases he : Q[n].1.toNat = i
        · have h0 := hq _ (List.getElem_mem hn)
          rw [if_pos he, if_pos (by rw [keepN_len]; omega)]
          exact .inr ⟨Q[n], List.getElem_mem hn, by omega, rfl⟩
        · rw [if_neg he]; exact ih
    · have : keepN f B Q (n + 1) = keepN f B Q n := by rw [keepN, List.getElem?_eq_none (by omega)]
      rw [this]; exact ih
theorem kept_or (f : Nat → Bool) {d : Dsk} (hw : wrongD d = 0) {k : Int} (h0 : 0 ≤ k) (h1 : k < d.blocks.length) : wrong_or (keptD f d) k = 0 := by
  obtain ⟨h2, h3, h4⟩ := (wrongD_iff d).1 hw
  rw [wrong_or_ok, wrongD_iff]
  unfold keptD
  rw [if_pos hw]
  simp only [keepN_len]
  exact ⟨⟨h2, by simp, by simp⟩, h0, h1⟩
theorem kept_read (f : Nat → Bool) {d : Dsk} (hw : wrongD d = 0) {k : Nat} (h1 : k < d.blocks.length) : readP (keptD f d) k = d.blocks[k] ∨ ∃ (j : Nat) (h : j < d.queue.length), d.queue[j].1 = (k : Int) ∧ d.queue[j].2 = readP (keptD f d) k := by
  obtain ⟨h2, h3, h4⟩ := (wrongD_iff d).1 hw
  have hr : readP (keptD f d) k = (keepN f d.blocks d.queue d.queue.length).getD k zPg := by
    unfold readP
    rw [if_pos (kept_or f hw (by omega) (by omega))]
    unfold keptD
    rw [if_pos hw]
    rfl
  rw [hr, List.getD_eq_getElem?_getD]
  rcases keepN_is f d.blocks d.queue (fun x hx => (h4 x hx).1) d.queue.length k h1 with h | ⟨x, hx, he, h⟩
  · rw [h]; exact .inl rfl
  · obtain ⟨j, hj, rfl⟩ := List.mem_iff_getElem.1 hx
    rw [h]; exact .inr ⟨j, hj, he, rfl⟩

set_option maxHeartbeats 2000000 in
set_option maxRecDepth 100000 in
theorem disk_crash (d : Dsk) (bits k : Int) (ab : Option Addr) (cb : Nat) (aq : Option Addr) (cq : Nat) (w : World) (h : DRd w ab cb aq cq d) :
    Calls Try.prog 6 #[.agg #[.slice ab d.blocks.length cb, .slice aq d.queue.length cq], .int .i64 bits, .int .i64 k] w fun e w' => e = .returned (.bool true) ∧ Below w.heap.size w w' := by
  go_enter Try.func6, Try.ntmps6
  go_wp2_with fail
  refine abs1 (fun W => Calls _ _ _ W _) fun W0 hb0 hx0 _ => ?_
  refine (alive2 _).mono ?_
  rintro e w1 ⟨rfl, hb1⟩
  have hbel1 := below_next hb0 hb1
  have hx1 := hx0.ext hb1
  have hd1 := h.below hbel1
  clear hx0 hb0 hb1
  have hc1 := hx1.cell
  go_wp2_with fail
  refine (dcrash_any d ab cb aq cq bits _ hd1).mono ?_
  rintro e w2 ⟨vb, vq, rfl, ho2, hb2⟩
  have hbel2 := below_next hbel1 hb2
  have hx2 := hx1.ext hb2
  have hd2 := hd1.below hb2
  obtain ⟨ab2, cb2, aq2, cq2, rfl, rfl, hy2⟩ := ho2.rd
  clear hx1 hd1 hb2 ho2 hc1
  by_cases hw : wrongD d = 0
  · rw [hw]
    have hcx := fun o => (hx2.alloc o).cell
    by_cases hk0 : k < 0
    · clear hy2
      go_wp2
      go_ret
      exact ⟨rfl, hbel2.alloc hbel2.size _⟩
    · by_cases hk1 : (d.blocks.length : Int) ≤ k
      · clear hy2
        go_wp2
        go_ret
        exact ⟨rfl, hbel2.alloc hbel2.size _⟩
      · obtain ⟨k, rfl⟩ := Int.eq_ofNat_of_zero_le (show 0 ≤ k by omega)
        have hkl : k < d.blocks.length := by omega
        have hor := kept_or (crashF bits) hw (k := (k : Int)) (by omega) (by omega)
        have hrd := kept_read (crashF bits) hw hkl
        have hql : ((keptD (crashF bits) d).queue.length : Int) = 0 := by unfold keptD; rw [if_pos hw]; rfl
        clear hcx
        go_upto_region 4 with (fail)
        refine abs1 (fun W => Code.wp _ _ _ _ W) fun w3 hb3 hz3 _ => ?_
        have hbel3 := below_next hbel2 hb3
        have hx3 := hx2.ext hb3
        have hd3 := hd2.below hb3
        have hy3 := hy2.below hb3
        clear hx2 hd2 hy2 hb3
        have hcx := hx3.cell
        have hcz := hz3.cell
        go_wp2_with fail
        refine (dread_any _ k ab2 cb2 aq2 cq2 _ hy3).mono ?_
        rintro e w4 ⟨rfl, hb4⟩
        rw [hor]
        obtain ⟨P, hP⟩ : ∃ P, P = readP (keptD (crashF bits) d) (k : Int) := ⟨_, rfl⟩
        rw [← hP, pgC_lit]
        rw [← hP] at hrd
        clear hP hor
        have hbel4 := below_next hbel3 hb4
        have hx4 := hx3.ext hb4
        have hz4 := hz3.ext hb4
        have hd4 := hd3.below hb4
        clear hx3 hz3 hd3 hy3 hb4 hcx hcz
        have hcz := fun o => (hz4.alloc o).cell
        go_upto_region 9 with (fail)
        refine abs1 (fun W => Code.wp _ _ _ _ W) fun w5 hb5 hp5 _ => ?_
        have hbel5 := below_next hbel4 hb5
        have hx5 := hx4.ext hb5
        have hd5 := hd4.below hb5
        clear hx4 hz4 hd4 hb5 hcz
        have hcx := hx5.cell
        have hcp := hp5.cell
        have p0 := hcp 0; have p1 := hcp 1; have p2 := hcp 2; have p3 := hcp 3; have p4 := hcp 4; have p5 := hcp 5; have p6 := hcp 6; have p7 := hcp 7
        simp only [List.getElem?_toArray, List.getElem?_cons_zero, List.getElem?_cons_succ] at p0 p1 p2 p3 p4 p5 p6 p7
        have hE1 := eqP P d.blocks[k]
        obtain ⟨b, off, rfl, hc⟩ := page_at hd5.rb k hkl
        have c0 := hc 0 (by decide); have c1 := hc 1 (by decide); have c2 := hc 2 (by decide); have c3 := hc 3 (by decide)
        have c4 := hc 4 (by decide); have c5 := hc 5 (by decide); have c6 := hc 6 (by decide); have c7 := hc 7 (by decide)
        simp only [pgC, List.getElem?_toArray, List.getElem?_cons_zero, List.getElem?_cons_succ, Nat.add_zero] at c0 c1 c2 c3 c4 c5 c6 c7
        clear hc
        have hkl' : (k : Int) < (d.blocks.length : Int) := by omega
        by_cases hold : P = d.blocks[k]
        · subst hold
          rw [beq_self_eq_true] at hE1
          clear hrd
          go_quiet (fail)
          go_wp2
          go_ret
          exact ⟨rfl, below_drewN hbel5 _⟩
        · rw [beq_eq_false_iff_ne.2 hold] at hE1
          have hex' := Lib.hid (hrd.resolve_left hold)
          have hq5 := hd5.rq
          clear hrd hold
          go_quiet (fail)
          have hx6 := hx5.drewN nq
          have hp6 := hp5.drewN nq
          have hbel6 := below_drewN hbel5 nq
          have hlq := Nat.le_trans hd5.lq hd5.mq
          unfold maxLen at hlq
          have hrq : ∀ {w' : World}, Below w.heap.size w w' → RdV w' aq (d.queue.flatMap puL) := fun hb => (h.below hb).rq
          clear hcp hcx p0 p1 p2 p3 p4 p5 p6 p7 hx5 hp5 hq5 hbel5 hE1 c0 c1 c2 c3 c4 c5 c6 c7 hd5
          generalize w5.drewN nq = w6 at hx6 hp6 hbel6 ⊢
          have hcx := hx6.cell
          go_wp2
          go_loopw [57] (fun i wr => ∃ j : Nat, j ≤ d.queue.length ∧ i = .int .i64 j ∧ Below w.heap.size w wr ∧ Blk wr w4.heap.size #[.int .u8 P[0].toNat, .int .u8 P[1].toNat, .int .u8 P[2].toNat, .int .u8 P[3].toNat, .int .u8 P[4].toNat, .int .u8 P[5].toNat, .int .u8 P[6].toNat, .int .u8 P[7].toNat] 23 ∧ ∀ i (h : i < d.queue.length), i < j → ¬ (d.queue[i].1 = (k : Int) ∧ d.queue[i].2 = P)) (fun i _ => d.queue.length - (intOf i).toNat)
          case atStart => exact ⟨0, Nat.zero_le _, rfl, hbel6, hp6, fun i _ h => absurd h (Nat.not_lt_zero _)⟩
          case round =>
            obtain ⟨j, hj, rfl, hbel, hp, hno⟩ := hrel
            clear hcx hx6 hp6 hbel6
            by_cases hlt : j < d.queue.length
            · obtain ⟨b', off', haq, hc⟩ := put_at (hrq hbel) j hlt
              subst haq
              have c0 := hc 0 (by decide); have c1 := hc 1 (by decide); have c2 := hc 2 (by decide); have c3 := hc 3 (by decide); have c4 := hc 4 (by decide)
              have c5 := hc 5 (by decide); have c6 := hc 6 (by decide); have c7 := hc 7 (by decide); have c8 := hc 8 (by decide)
              simp only [puC, List.getElem?_toArray, List.getElem?_cons_zero, List.getElem?_cons_succ, Nat.add_zero] at c0 c1 c2 c3 c4 c5 c6 c7 c8
              have hno' := Lib.hid hno
              clear hc hno
              have hcp := fun o => (hp.alloc o).cell
              have hE := eqP d.queue[j].2 P
              by_cases ha : d.queue[j].1 = (k : Int)
              · have haa : (d.queue[j].1 == (k : Int)) = true := by simpa using ha
                rw [ha] at c0
                by_cases hpp : d.queue[j].2 = P
                · rw [beq_iff_eq.2 hpp] at hE
                  clear hpp
                  go_wp2
                  go_ret
                  exact ⟨rfl, hbel.alloc hbel.size _⟩
                · rw [beq_eq_false_iff_ne.2 hpp] at hE
                  go_wp2
                  go_roundw
                  case rel => exact ⟨j + 1, by omega, by go_num, hbel.alloc hbel.size _, hp.alloc _, upto' hno'.out hlt (fun hh => hpp hh.2)⟩
                  case measure => simp [intOf]; omega
              · have haa : (d.queue[j].1 == (k : Int)) = false := by simpa using ha
                go_wp2
                go_roundw
                case rel => exact ⟨j + 1, by omega, by go_num, hbel.alloc hbel.size _, hp.alloc _, upto' hno'.out hlt (fun hh => ha hh.1)⟩
                case measure => simp [intOf]; omega
            · obtain ⟨i, hi, h1, h2⟩ := hex'.out
              exact absurd ⟨h1, h2⟩ (hno i hi (by omega))
  · have hn : (wrongD d != 0) = true := by simpa using hw
    go_wp2
    go_ret
    exact ⟨rfl, hbel2.alloc hbel2.size _⟩
end Go.Proofs.Ytohbfjbcfibhcaa
