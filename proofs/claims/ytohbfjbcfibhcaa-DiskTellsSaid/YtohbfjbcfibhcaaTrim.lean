/- What package disk's Trim does. -/
import Derived.Test.YtohbfjbcfibhcaaDel2
namespace Go.Proofs.Ytohbfjbcfibhcaa
open Go.RowKit Pw
set_option linter.unusedSimpArgs false
set_option linter.unusedVariables false

def trimW (d : Dsk) (k : Int) : Dsk := ⟨d.blocks.set k.toNat zPg, keepF k d.queue⟩
def trimD (d : Dsk) (k : Int) : Dsk := if wrong_or d k = 0 then trimW d k else ⟨[], []⟩
set_option maxHeartbeats 2000000 in
set_option maxRecDepth 100000 in
theorem dtrim_any (d : Dsk) (k : Int) (ab : Option Addr) (cb : Nat) (aq : Option Addr) (cq : Nat) (w : World) (h : DRd w ab cb aq cq d) :
    Calls Try.prog 42 #[.agg #[.slice ab d.blocks.length cb, .slice aq d.queue.length cq], .int .i64 k] w fun e w' => ∃ vb vq, e = .returned (.tuple #[.agg #[vb, vq], .int .i64 (wrong_or d k)]) ∧ DOwn w' w.heap.size vb vq (trimD d k) ∧ Below w.heap.size w w' := by
  go_enter Try.func42, Try.ntmps42
  go_wp2_with fail
  refine abs3 (fun W => Calls _ _ _ W _) fun W0 hb0 hbox0 hat0 hres0 hs0 => ?_
  refine (dwrong_any d ab cb aq cq _ (h.below hb0)).mono ?_
  rintro e w1 ⟨rfl, hb1⟩
  have hbel1 := below_next hb0 hb1
  have hbox1 := hbox0.ext hb1
  have hat1 := hat0.ext hb1
  have hres1 := hres0.ext hb1
  have h1 := h.below hbel1
  clear hbox0 hat0 hres0 hb1 hb0 h hs0
  have hc1 := hbox1.cell
  have hca := hat1.cell
  by_cases hw : wrongD d = 0
  · rw [hw]
    obtain ⟨l80, l400⟩ := wrongD_le hw
    by_cases hk : k < 0 ∨ (d.blocks.length : Int) ≤ k
    · have q1 : wrong_or d k = 3 := by unfold wrong_or; rw [if_neg (by omega), if_pos hk]
      have q2 : trimD d k = ⟨[], []⟩ := by unfold trimD; rw [if_neg (by omega)]
      rcases hk with hk | hk
      all_goals
        go_wp2_with (refine wpList_stw rfl _ (.tmp 4) (.tmp 23) rfl (w.heap.size + 2) #[.slice none 0 0, .slice none 0 0] rfl rfl _ _ hres1 rfl disk_size (sl_one _ _ _ _ _ _) ?_)
        all_goals
          intro w2 hr2 hgr
          have hbel2 := hbel1.grown hgr hbel1.size (fun k hk => by cases hk; omega)
          have hcr := hr2.cell
          go_wp2
          simp [bodyPost, results, go_sem, Try.results42, hcr, q1]
          exact ⟨_, _, ⟨rfl, rfl⟩, by rw [q2]; exact DOwn.nil _ _, hbel2⟩
    · obtain ⟨k, rfl⟩ := Int.eq_ofNat_of_zero_le (show 0 ≤ k by omega)
      have hkl : k < d.blocks.length := by omega
      have k1 : ¬ (d.blocks.length : Int) ≤ (k : Int) := by omega
      have q1 : wrong_or d k = 0 := by unfold wrong_or; rw [if_neg (by omega), if_neg hk]
      have q2 : trimD d k = trimW d k := by unfold trimD; rw [if_pos q1]
      have Q2 := Lib.hid q2
      clear hk q2
      go_wp2_with fail
      refine (down_any d ab cb aq cq _ h1 (by omega) (by omega)).mono ?_
      rintro e w2 ⟨vb, vq, rfl, ho, hb2⟩
      have hbel2 := below_next hbel1 hb2
      have hat2 := hat1.ext hb2
      have hres2 := hres1.ext hb2
      have hge1 : w.heap.size + 3 ≤ w1.heap.size := by have := hres1.lt; omega
      have hge2 : w.heap.size + 3 ≤ w2.heap.size := Nat.le_trans (show w.heap.size + 3 ≤ w1.heap.size by have := hres1.lt; omega) hb2.size
      clear hbox1 hat1 hres1 hb2 h1 hc1 hca
      obtain ⟨xb, cb', xq, cq', rfl, rfl, hrd2⟩ := ho.rd
      go_upto_region 7 with (fail)
      refine abs1 (fun W => Code.wp _ _ _ _ W) fun w3 hb3 hout3 hs3 => ?_
      have ho3 := ho.below hb3
      have hbel3 := below_next hbel2 hb3
      have hat3 := hat2.ext hb3
      have hres3 := hres2.ext hb3
      clear ho hrd2 hat2 hres2 hb3
      have hlt3 : w2.heap.size < w3.heap.size := by omega
      clear hs3
      have hc9 := hout3.cell
      have hca := hat3.cell
      obtain ⟨gb, offb, capb, curb, hvb, hBb, hgb, hfb, hcb, hsetb⟩ := ho3.b.put pgL_len (by decide) k hkl
      cases hvb
      have n2 : (k : Int) < (d.blocks.length : Int) := by omega
      clear hcb
      go_wp2_with (refine wpList_st rfl _ (.tmp 30) (.tmp 29) rfl gb (offb + k * 8) (pgC zPg) rfl rfl curb 23 hgb (by rw [pgC_size]; omega) (pg_info _) (pgC_one _) ?_)
      intro w5 hq5 hgr5
      have hB5 := hsetb w5 zPg hq5
      have hQ5 := own_keep ho3.q hgb (by decide) hgr5
      have hout5 := blk_keep hout3 hgb (by decide) hgr5
      have hres5 := blk_keep hres3 hgb (by decide) hgr5
      have hat5 := blk_keep hat3 hgb (by decide) hgr5
      have hbel5 : Below w.heap.size w w5 := hbel3.grown hgr5 hbel3.size (fun k hk => by cases hk; omega)
      clear hq5 hgr5 hsetb hgb hout3 hres3 hat3 ho3 hbel3 hc9 hca
      have hc9 := hout5.cell
      go_wp2_with fail
      refine (del_any d.queue _ _ k _ _ (hQ5.mono hbel1.size) (by omega) hat5).mono ?_
      rintro e w6 ⟨v, rfl, hq6, hgr6⟩
      have hqq := hQ5.mono hbel1.size
      have hb6 := own_own (hB5.mono hbel1.size) hqq (by decide) hgr6
      have hout6 := blk_own hout5 hqq (by decide) hgr6
      have hres6 := blk_own hres5 hqq (by decide) hgr6
      have hbel6 : Below w.heap.size w w6 := hbel5.grown hgr6 hbel5.size hqq.ge
      have hlt6 := hout6.lt
      obtain ⟨x4, c4, rfl, _⟩ := hq6.rd
      clear hQ5 hB5 hout5 hres5 hat5 hqq hgr6 hbel5 hc9
      have hc9 := hout6.cell
      have hf9 := hout6.free
      go_wp2_with (refine wpList_stw rfl _ (.tmp 4) (.tmp 36) rfl (w.heap.size + 2) #[.slice (some ⟨gb, offb, none⟩) d.blocks.length cb', .slice x4 (keepF k d.queue).length c4] rfl rfl _ _ (hres6.setCell_other _ _ (by simp; omega)) (disk_fit _ _ _ _) (disk_info _ _) (sl_one _ _ _ _ _ _) ?_)
      intro w7 hr7 hgr7
      have hres6' := hres6.setCell_other ⟨w2.heap.size, 1, none⟩ (.slice x4 (keepF k d.queue).length c4) (by simp; omega)
      have hb7 := own_keep (own_set hb6 hout6 (by decide) 1 (.slice x4 (keepF k d.queue).length c4)) hres6' (by decide) hgr7
      have hq7 := own_keep (own_set hq6 hout6 (by decide) 1 (.slice x4 (keepF k d.queue).length c4)) hres6' (by decide) hgr7
      have hbs : Below w.heap.size w (w6.setCell ⟨w2.heap.size, 1, none⟩ (.slice x4 (keepF k d.queue).length c4)) := hbel6.setCell (by simp; omega) _
      have hbel7 : Below w.heap.size w w7 := hbs.grown hgr7 hbs.size (fun k hk => by cases hk; omega)
      have hcr := hr7.cell
      clear hb6 hq6 hout6 hres6 hres6' hgr7 hbel6 hbs hc9 hf9
      go_wp2
      simp [bodyPost, results, go_sem, Try.results42, hcr, q1]
      refine ⟨_, _, ⟨rfl, rfl⟩, ?_, hbel7⟩
      rw [Q2.out]
      exact ⟨by simpa [trimW] using hb7, hq7⟩
  · have q1 : wrong_or d k = wrongD d := by unfold wrong_or; rw [if_pos hw]
    have q2 : trimD d k = ⟨[], []⟩ := by unfold trimD; rw [if_neg (by omega)]
    have hw' : (wrongD d != 0) = true := by simpa using hw
    go_wp2_with (refine wpList_stw rfl _ (.tmp 4) (.tmp 12) rfl (w.heap.size + 2) #[.slice none 0 0, .slice none 0 0] rfl rfl _ _ hres1 rfl disk_size (sl_one _ _ _ _ _ _) ?_)
    intro w2 hr2 hgr
    have hbel2 := hbel1.grown hgr hbel1.size (fun k hk => by cases hk; omega)
    have hcr := hr2.cell
    go_wp2
    simp [bodyPost, results, go_sem, Try.results42, hcr, q1]
    exact ⟨_, _, ⟨rfl, rfl⟩, by rw [q2]; exact DOwn.nil _ _, hbel2⟩
end Go.Proofs.Ytohbfjbcfibhcaa
