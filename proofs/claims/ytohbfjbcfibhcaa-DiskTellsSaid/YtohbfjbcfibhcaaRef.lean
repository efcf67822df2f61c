/- What the document's ReadDisk does. -/
import Derived.Test.YtohbfjbcfibhcaaDisk8
namespace Go.Proofs.Ytohbfjbcfibhcaa
open Go.RowKit Pw
set_option linter.unusedSimpArgs false
set_option linter.unusedVariables false

set_option maxHeartbeats 1000000 in
set_option maxRecDepth 100000 in
theorem rread_any (d : Dsk) (k : Int) (ab : Option Addr) (cb : Nat) (aq : Option Addr) (cq : Nat) (w : World) (h : DRd w ab cb aq cq d) :
    Calls Try.prog 60 #[.agg #[.slice ab d.blocks.length cb, .slice aq d.queue.length cq], .int .i64 k] w fun e w' => e = .returned (.tuple #[.agg (pgC (readP d k)), .int .i64 (wrong_or d k)]) ∧ Below w.heap.size w w' := by
  go_enter Try.func60, Try.ntmps60
  go_wp2_with fail
  refine abs2 (fun W => Calls _ _ _ W _) fun W0 hb0 hx0 hr0 hs0 => ?_
  refine (rdwrong_any d ab cb aq cq _ (h.below hb0)).mono ?_
  rintro e w1 ⟨rfl, hb1⟩
  have hbel1 := below_next hb0 hb1
  have hx1 := hx0.ext hb1
  have hres1 := hr0.ext hb1
  have h1 := h.below hbel1
  clear hx0 hr0 hb1 hb0 hs0
  have lq := Nat.le_trans h1.lq h1.mq
  unfold maxLen at lq
  have hc1 := hx1.cell
  by_cases hw : wrongD d = 0
  · rw [hw]
    by_cases hk : k < 0 ∨ (d.blocks.length : Int) ≤ k
    · have q1 : wrong_or d k = 3 := by unfold wrong_or; rw [if_neg (by omega), if_pos hk]
      have q2 : pgC (readP d k) = #[.int .u8 0, .int .u8 0, .int .u8 0, .int .u8 0, .int .u8 0, .int .u8 0, .int .u8 0, .int .u8 0] := by unfold readP; rw [q1]; rfl
      rcases hk with hk | hk
      all_goals
        go_wp2_with (refine wpList_stw rfl _ (.tmp 4) (.tmp 25) rfl (w.heap.size + 1) #[.int .u8 0, .int .u8 0, .int .u8 0, .int .u8 0, .int .u8 0, .int .u8 0, .int .u8 0, .int .u8 0] rfl rfl _ _ hres1 zz_fit zz_info zz_one ?_)
        all_goals
          intro w2 hr2 hgr
          have hbel2 := hbel1.grown hgr hbel1.size (fun k hk => by cases hk; omega)
          have hcr := hr2.cell
          go_wp2
          simp [bodyPost, results, go_sem, Try.results60, hcr, q1, q2]
          exact hbel2
    · obtain ⟨k, rfl⟩ := Int.eq_ofNat_of_zero_le (show 0 ≤ k by omega)
      have hkl : k < d.blocks.length := by omega
      have k1 : ¬ (d.blocks.length : Int) ≤ (k : Int) := by omega
      have kz : (k : Int) < (d.blocks.length : Int) := by omega
      have q1 : wrong_or d k = 0 := by unfold wrong_or; rw [if_neg (by omega), if_neg hk]
      have q2 : readP d k = over k d.blocks[k] d.queue := by unfold readP; rw [q1, if_pos rfl]; simp [hkl]
      have Q := Lib.hid (And.intro q1 q2)
      have hgx : w.heap.size + 2 ≤ w1.heap.size := by have := hres1.lt; omega
      clear hk q1 q2
      have hd : decide (d.blocks.length ≤ k) = false := by simp; omega
      obtain ⟨b, off, rfl, hc⟩ := page_at h1.rb k hkl
      have c0 := hc 0 (by decide); have c1 := hc 1 (by decide); have c2 := hc 2 (by decide); have c3 := hc 3 (by decide)
      have c4 := hc 4 (by decide); have c5 := hc 5 (by decide); have c6 := hc 6 (by decide); have c7 := hc 7 (by decide)
      simp only [pgC, List.getElem?_toArray, List.getElem?_cons_zero, List.getElem?_cons_succ, Nat.add_zero] at c0 c1 c2 c3 c4 c5 c6 c7
      clear hc
      go_upto_region 7 with (fail)
      refine abs1 (fun W => Code.wp _ _ _ _ W) fun w2 hb2 hp2 hs2 => ?_
      have hbel2 := below_next hbel1 hb2
      have hx2 := hx1.ext hb2
      have hres2 := hres1.ext hb2
      have hp2' : Blk w2 w1.heap.size (pgC d.blocks[k]) 23 := hp2
      clear hbel1 hx1 hres1 h1 hb2 hp2 hs2 hc1 c0 c1 c2 c3 c4 c5 c6 c7
      have hc2 := hx2.cell
      go_wp2
      clear hc2 hx2
      go_loopw [34] (fun i wr => ∃ j : Nat, j ≤ d.queue.length ∧ i = .int .i64 j ∧ Below w.heap.size w wr ∧ Blk wr (w.heap.size + 1) #[.int .u8 0, .int .u8 0, .int .u8 0, .int .u8 0, .int .u8 0, .int .u8 0, .int .u8 0, .int .u8 0] 23 ∧ Blk wr w1.heap.size (pgC (over k d.blocks[k] (d.queue.take j))) 23) (fun i _ => d.queue.length - (intOf i).toNat)
      case atStart => exact ⟨0, Nat.zero_le _, rfl, hbel2, hres2, hp2'⟩
      case round =>
        clear hbel2 hres2 hp2'
        obtain ⟨j, hj, rfl, hbel, hres, hp⟩ := hrel
        by_cases hlt : j < d.queue.length
        · obtain ⟨b', off', rfl, hc⟩ := put_at (h.below hbel).rq j hlt
          have c0 := hc 0 (by decide); have c1 := hc 1 (by decide); have c2 := hc 2 (by decide); have c3 := hc 3 (by decide); have c4 := hc 4 (by decide)
          have c5 := hc 5 (by decide); have c6 := hc 6 (by decide); have c7 := hc 7 (by decide); have c8 := hc 8 (by decide)
          simp only [puC, List.getElem?_toArray, List.getElem?_cons_zero, List.getElem?_cons_succ, Nat.add_zero] at c0 c1 c2 c3 c4 c5 c6 c7 c8
          clear hc
          have hot := Lib.hid (over_take (k : Int) d.blocks[k] d.queue j hlt)
          by_cases he : d.queue[j].1 = (k : Int)
          · have hot' : Hid (over (k : Int) d.blocks[k] (d.queue.take (j + 1)) = d.queue[j].2) := by have := hot.out; rw [if_pos he] at this; exact this
            rw [he] at c0
            clear hot he
            have hpa := hp.alloc (.cells #[.int .i64 k, .int .u8 d.queue[j].2[0].toNat, .int .u8 d.queue[j].2[1].toNat, .int .u8 d.queue[j].2[2].toNat, .int .u8 d.queue[j].2[3].toNat, .int .u8 d.queue[j].2[4].toNat, .int .u8 d.queue[j].2[5].toNat, .int .u8 d.queue[j].2[6].toNat, .int .u8 d.queue[j].2[7].toNat] 45)
            go_wp2_with (refine wpList_stw rfl _ (.tmp 7) (.tmp 43) rfl w1.heap.size (pgC d.queue[j].2) rfl rfl _ _ hpa (pg_fit2 _ _) (pg_info _) (pgC_one _) ?_)
            intro w4 hp4 hgr
            have hbel4 := (hbel.alloc hbel.size _).grown hgr (le_alloc' hbel.size _) (fun k hk => by cases hk; omega)
            have hres4 := (hres.alloc _).grown hgr (fun he => by have := Option.some.inj he; omega)
            clear hpa hp hbel hres hgr c0 c1 c2 c3 c4 c5 c6 c7 c8
            go_wp2
            go_roundw
            case rel => exact ⟨j + 1, by omega, by go_num, hbel4, hres4, by rw [hot'.out]; exact hp4⟩
            case measure => simp [intOf]; omega
          · have hot' : Hid (over (k : Int) d.blocks[k] (d.queue.take (j + 1)) = over (k : Int) d.blocks[k] (d.queue.take j)) := by have := hot.out; rw [if_neg he] at this; exact this
            have hne : (d.queue[j].1 == (k : Int)) = false := by simpa using he
            clear hot he
            go_wp2
            go_roundw
            case rel => exact ⟨j + 1, by omega, by go_num, hbel.alloc hbel.size _, hres.alloc _, by rw [hot'.out]; exact hp.alloc _⟩
            case measure => simp [intOf]; omega
        · rw [List.take_of_length_le (show d.queue.length ≤ j by omega)] at hp
          have hq2 := Q.out.2
          rw [← hq2] at hp
          have hcp := hp.cell
          rw [pgC_lit] at hcp
          clear hq2
          go_wp2_with (refine wpList_stw rfl _ (.tmp 4) (.tmp 45) rfl (w.heap.size + 1) (pgC (readP d k)) rfl rfl _ _ hres (pg_fit _) (pg_info _) (pgC_one _) ?_)
          intro w4 hr4 hgr
          have hbel4 := hbel.grown hgr hbel.size (fun k hk => by cases hk; omega)
          have hcr := hr4.cell
          obtain ⟨e0, e1, e2, e3, e4, e5, e6, e7⟩ := pgC_all (readP d k)
          clear hcp
          go_wp2
          simp [bodyPost, results, go_sem, Try.results60, hcr, e0, e1, e2, e3, e4, e5, e6, e7, Q.out.1]
          exact ⟨rfl, hbel4⟩
  · have q1 : wrong_or d k = wrongD d := by unfold wrong_or; rw [if_pos hw]
    have q2 : pgC (readP d k) = #[.int .u8 0, .int .u8 0, .int .u8 0, .int .u8 0, .int .u8 0, .int .u8 0, .int .u8 0, .int .u8 0] := by unfold readP; rw [q1, if_neg hw]; rfl
    have hw' : (wrongD d != 0) = true := by simpa using hw
    go_wp2_with (refine wpList_stw rfl _ (.tmp 4) (.tmp 14) rfl (w.heap.size + 1) #[.int .u8 0, .int .u8 0, .int .u8 0, .int .u8 0, .int .u8 0, .int .u8 0, .int .u8 0, .int .u8 0] rfl rfl _ _ hres1 zz_fit zz_info zz_one ?_)
    intro w2 hr2 hgr
    have hbel2 := hbel1.grown hgr hbel1.size (fun k hk => by cases hk; omega)
    have hcr := hr2.cell
    go_wp2
    simp [bodyPost, results, go_sem, Try.results60, hcr, q1, q2]
    exact hbel2
end Go.Proofs.Ytohbfjbcfibhcaa
