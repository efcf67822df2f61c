/- What the document's TrimDisk does. -/
import Derived.Test.YtohbfjbcfibhcaaRef2
import Derived.Test.YtohbfjbcfibhcaaTrim2
namespace Go.Proofs.Ytohbfjbcfibhcaa
open Go.RowKit Pw
set_option linter.unusedSimpArgs false
set_option linter.unusedVariables false

theorem keepF_take (k : Int) (q : List (Int × Page)) (j : Nat) (hj : j < q.length) : keepF k (q.take (j + 1)) = if q[j].1 = k then keepF k (q.take j) else keepF k (q.take j) ++ [q[j]] := by
  unfold keepF
  rw [List.take_add_one, List.getElem?_eq_getElem hj, Option.toList, List.filter_append]
  by_cases h : q[j].1 = k <;> simp [h]
theorem keepF_lt (k : Int) (q : List (Int × Page)) (j : Nat) : (keepF k (q.take j)).length ≤ j := Nat.le_trans (keepF_le _ _) (by simp; omega)
set_option maxHeartbeats 2000000 in
set_option maxRecDepth 100000 in
theorem rtrim_any (d : Dsk) (k : Int) (ab : Option Addr) (cb : Nat) (aq : Option Addr) (cq : Nat) (w : World) (h : DRd w ab cb aq cq d) :
    Calls Try.prog 62 #[.agg #[.slice ab d.blocks.length cb, .slice aq d.queue.length cq], .int .i64 k] w fun e w' => ∃ vb vq, e = .returned (.tuple #[.agg #[vb, vq], .int .i64 (wrong_or d k)]) ∧ DOwn w' w.heap.size vb vq (trimD d k) ∧ Below w.heap.size w w' := by
  go_enter Try.func62, Try.ntmps62
  go_wp2_with fail
  refine abs2 (fun W => Calls _ _ _ W _) fun W0 hb0 hx0 hr0 hs0 => ?_
  refine (rdwrong_any d ab cb aq cq _ (h.below hb0)).mono ?_
  rintro e w1 ⟨rfl, hb1⟩
  have hbel1 := below_next hb0 hb1
  have hx1 := hx0.ext hb1
  have hres1 := hr0.ext hb1
  have h1 := h.below hbel1
  clear hx0 hr0 hb1 hb0 hs0
  have hc1 := hx1.cell
  by_cases hw : wrongD d = 0
  · rw [hw]
    obtain ⟨l80, l400⟩ := wrongD_le hw
    by_cases hk : k < 0 ∨ (d.blocks.length : Int) ≤ k
    · have q1 : wrong_or d k = 3 := by unfold wrong_or; rw [if_neg (by omega), if_pos hk]
      have q2 : trimD d k = ⟨[], []⟩ := by unfold trimD; rw [if_neg (by omega)]
      rcases hk with hk | hk
      all_goals
        go_wp2_with (refine wpList_stw rfl _ (.tmp 4) (.tmp 25) rfl (w.heap.size + 1) #[.slice none 0 0, .slice none 0 0] rfl rfl _ _ hres1 rfl disk_size (sl_one _ _ _ _ _ _) ?_)
        all_goals
          intro w2 hr2 hgr
          have hbel2 := hbel1.grown hgr hbel1.size (fun k hk => by cases hk; omega)
          have hcr := hr2.cell
          go_wp2
          simp [bodyPost, results, go_sem, Try.results62, hcr, q1]
          exact ⟨_, _, ⟨rfl, rfl⟩, by rw [q2]; exact DOwn.nil _ _, hbel2⟩
    · obtain ⟨k, rfl⟩ := Int.eq_ofNat_of_zero_le (show 0 ≤ k by omega)
      have hkl : k < d.blocks.length := by omega
      have k1 : ¬ (d.blocks.length : Int) ≤ (k : Int) := by omega
      have kz : (k : Int) < (d.blocks.length : Int) := by omega
      have q1 : wrong_or d k = 0 := by unfold wrong_or; rw [if_neg (by omega), if_neg hk]
      have q2 : trimD d k = trimW d k := by unfold trimD; rw [if_pos q1]
      have Q := Lib.hid (And.intro q1 q2)
      have hgx : w.heap.size + 2 ≤ w1.heap.size := by have := hres1.lt; omega
      clear hk q1 q2
      have hd : decide (d.blocks.length ≤ k) = false := by simp; omega
      obtain ⟨ad, rfl⟩ : ∃ ad, ab = some ad := by obtain ⟨b, off, rfl, _⟩ := page_at h.rb k hkl; exact ⟨_, rfl⟩
      clear hc1
      have hcx := fun o => (hx1.alloc o).cell
      have hc1 := hx1.cell
      go_wp2_with (at_builtin; go_must (refine wpList_app rfl _ _ 33 rfl w.heap.size 23 _ 8 8 Try.underlying33 page_info rfl (by decide) _ 0 [] rfl ?own2 (some ad) d.blocks.length cb (d.blocks.flatMap pgL) rfl (fun h => (by cases h)) h.lb (pages_len d.blocks) ?rd2 (pages_one d.blocks) (by unfold maxLen; omega) (by omega) ?bb2 ?k2))
      case own2 => exact Own.empty _ _ hbel1.size
      case rd2 => exact h1.rb.below ((Below.refl _ _).alloc (Nat.le_refl _) _)
      case bb2 => exact le_alloc' hbel1.size _
      intro vb w2 hob hgr
      have hbel2 : Below w.heap.size w w2 := (hbel1.alloc hbel1.size _).grown hgr (le_alloc' hbel1.size _) (fun k hk => by cases hk; exact hbel1.size)
      have hres2 := (hres1.alloc (.cells #[] 23)).grown hgr (fun he => by have h1 := Option.some.inj he; simp at h1; omega)
      have hx2 := (hx1.alloc (.cells #[] 23)).grown hgr (fun he => by have h1 := Option.some.inj he; simp at h1; omega)
      have hob2 : Own w2 w.heap.size 23 8 vb d.blocks.length (d.blocks.flatMap pgL) := by simpa using hob
      clear hob hgr hbel1 hx1 hres1 h1 hcx hc1
      obtain ⟨gb, offb, cb', rfl⟩ : ∃ gb offb cb', vb = .slice (some ⟨gb, offb, none⟩) d.blocks.length cb' := by
        obtain ⟨g, off, cap, _, hv, _⟩ := own_putn pgL_len (by decide) rfl hob2 k hkl
        exact ⟨g, off, cap, hv⟩
      go_upto_region 7 with (fail)
      refine abs1 (fun W => Code.wp _ _ _ _ W) fun w3 hb3 hy3 hs3 => ?_
      have hbel3 := below_next hbel2 hb3
      have hres3 := hres2.ext hb3
      have hx3 := hx2.ext hb3
      have hob3 := hob2.below hb3
      have hg2 : w.heap.size + 2 ≤ w2.heap.size := by have := hres2.lt; omega
      clear hbel2 hres2 hx2 hob2 hb3 hs3
      have hcy := hy3.cell
      obtain ⟨_, _, _, curb, hv, hBb, hgb, hfb, hsetb⟩ := own_putn pgL_len (by decide) rfl hob3 k hkl
      cases hv
      go_wp2_with (refine wpList_st rfl _ (.tmp 35) (.tmp 34) rfl gb (offb + k * 8) (pgC zPg) rfl rfl curb 23 hgb (by rw [pgC_size]; omega) (pg_info _) (pgC_one _) ?_)
      intro w4 hq4 hgr4
      have hob4 := hsetb w4 zPg hq4
      have hy4 := blk_keep hy3 hgb (by decide) hgr4
      have hx4 := blk_keep hx3 hgb (by decide) hgr4
      have hres4 := blk_keep hres3 hgb (by decide) hgr4
      have hbel4 : Below w.heap.size w w4 := hbel3.grown hgr4 hbel3.size (fun k hk => by cases hk; exact hBb)
      clear hq4 hsetb hgb hy3 hx3 hres3 hbel3 hob3 hgr4 hcy
      have hcx := hx4.cell
      have lq := Nat.le_trans h.lq h.mq
      unfold maxLen at lq
      go_wp2
      clear hcx hx4
      go_loopw [39] (fun i wr => ∃ (j : Nat) (vq : Value), j ≤ d.queue.length ∧ i = .int .i64 j ∧ Below w.heap.size w wr ∧ Blk wr (w.heap.size + 1) #[.slice none 0 0, .slice none 0 0] 36 ∧ Blk wr w2.heap.size #[.slice (some ⟨gb, offb, none⟩) d.blocks.length cb', vq] 36 ∧ Own wr w.heap.size 23 8 (.slice (some ⟨gb, offb, none⟩) d.blocks.length cb') d.blocks.length ((d.blocks.set k zPg).flatMap pgL) ∧ Own wr w.heap.size 45 9 vq (keepF k (d.queue.take j)).length ((keepF k (d.queue.take j)).flatMap puL)) (fun i _ => d.queue.length - (intOf i).toNat)
      case atStart => exact ⟨0, _, Nat.zero_le _, rfl, hbel4, hres4, hy4, hob4, Own.nil _ _ _ _⟩
      case round =>
        clear hbel4 hres4 hy4 hob4
        obtain ⟨j, vq, hj, rfl, hbel, hres, hy, hob, hoq⟩ := hrel
        obtain ⟨a9, c9, rfl, hle9, hmx9, _, _⟩ := hoq.rd
        have hkf := keepF_lt k d.queue j
        by_cases hlt : j < d.queue.length
        · obtain ⟨b', off', rfl, hc⟩ := put_at (h.below hbel).rq j hlt
          have c0 := hc 0 (by decide); have c1 := hc 1 (by decide); have c2 := hc 2 (by decide); have c3 := hc 3 (by decide); have c4 := hc 4 (by decide)
          have c5 := hc 5 (by decide); have c6 := hc 6 (by decide); have c7 := hc 7 (by decide); have c8 := hc 8 (by decide)
          simp only [puC, List.getElem?_toArray, List.getElem?_cons_zero, List.getElem?_cons_succ, Nat.add_zero] at c0 c1 c2 c3 c4 c5 c6 c7 c8
          have ht := Lib.hid (keepF_take k d.queue j hlt)
          clear hc
          by_cases he : d.queue[j].1 = (k : Int)
          · have ht' : Hid (keepF k (d.queue.take (j + 1)) = keepF k (d.queue.take j)) := by have := ht.out; rw [if_pos he] at this; exact this
            have hne : (d.queue[j].1 != (k : Int)) = false := by simp [he]
            clear ht he
            go_wp2
            go_roundw
            case rel => exact ⟨j + 1, _, by omega, by go_num, hbel.alloc hbel.size _, hres.alloc _, hy.alloc _, hob.alloc _, by rw [ht'.out]; exact hoq.alloc _⟩
            case measure => simp [intOf]; omega
          · have ht' : Hid (keepF k (d.queue.take (j + 1)) = keepF k (d.queue.take j) ++ [d.queue[j]]) := by have := ht.out; rw [if_neg he] at this; exact this
            have hne : (d.queue[j].1 != (k : Int)) = true := by simpa using he
            clear ht he
            go_upto_region 12 with (fail)
            refine abs1 (fun W => Code.wp _ _ _ _ W) fun w5 hb5 hz5 hs5 => ?_
            have hbel5 := below_next hbel hb5
            have hres5 := hres.ext hb5
            have hy5 := hy.ext hb5
            have hob5 := hob.below hb5
            have hoq5 := hoq.below hb5
            clear hbel hres hy hob hoq hb5 hs5 c0 c1 c2 c3 c4 c5 c6 c7 c8
            have hcy := hy5.cell
            have hcz := hz5.cell
            go_wp2_with (at_builtin; (refine wpList_app rfl _ _ 34 rfl w.heap.size 45 _ 9 16 Try.underlying34 put_info rfl (by decide) _ (keepF k (d.queue.take j)).length ((keepF k (d.queue.take j)).flatMap puL) rfl ?own3 (some ⟨w5.heap.size, 0, none⟩) 1 1 (puL d.queue[j]) rfl (fun h => (by cases h)) (Nat.le_refl _) rfl ?rd3 (fun u hu => puts_one [d.queue[j]] u (by simpa using hu)) (by unfold maxLen; omega) (by omega) ?bb3 ?k3))
            case own3 => exact hoq5.alloc _
            case rd3 => exact RdV.new _ (puC d.queue[j]) _
            case bb3 => exact le_alloc' hbel5.size _
            intro v w6 hown hgr
            have hoa := hoq5.alloc (.cells (puC d.queue[j]) 45)
            have hob6 := own_own (hob5.alloc (.cells (puC d.queue[j]) 45)) hoa (by decide) hgr
            have hy6 := blk_own (hy5.alloc (.cells (puC d.queue[j]) 45)) hoa (by decide) hgr
            have hres6 := blk_own (hres5.alloc (.cells (puC d.queue[j]) 45)) hoa (by decide) hgr
            have hbel6 : Below w.heap.size w w6 := (hbel5.alloc hbel5.size _).grown hgr (le_alloc' hbel5.size _) hoa.ge
            obtain ⟨x6, c6, rfl, _⟩ := hown.rd
            clear hoa hob5 hy5 hres5 hbel5 hoq5 hcy hcz hgr hz5
            have hcy := hy6.cell
            have hfy := hy6.free
            have hly := hy6.lt
            have hl6 : (keepF k (d.queue.take j) ++ [d.queue[j]]).length = (keepF k (d.queue.take j)).length + 1 := by simp
            have hown6 : Own w6 w.heap.size 45 9 (.slice x6 ((keepF k (d.queue.take j)).length + 1) c6) (keepF k (d.queue.take (j + 1))).length ((keepF k (d.queue.take (j + 1))).flatMap puL) := by
              rw [ht'.out, List.flatMap_append, hl6]; simpa using hown
            clear hown hl6
            go_wp2
            go_roundw
            case rel => exact ⟨j + 1, _, by omega, by go_num, hbel6.setCell (by simp; omega) _, hres6.setCell_other _ _ (by simp; omega), hy6.setCell 1 _, own_set hob6 hy6 (by decide) 1 _, own_set hown6 hy6 (by decide) 1 _⟩
            case measure => simp [intOf]; omega
        · rw [List.take_of_length_le (show d.queue.length ≤ j by omega)] at hoq hy
          have hcy := hy.cell
          clear hkf
          go_wp2_with (refine wpList_stw rfl _ (.tmp 4) (.tmp 54) rfl (w.heap.size + 1) #[.slice (some ⟨gb, offb, none⟩) d.blocks.length cb', .slice a9 (keepF k d.queue).length c9] rfl rfl _ _ hres (disk_fit _ _ _ _) (disk_info _ _) (sl_one _ _ _ _ _ _) ?_)
          intro w8 hr8 hgr8
          have hb8 := own_keep hob hres (by decide) hgr8
          have hq8 := own_keep hoq hres (by decide) hgr8
          have hbel8 := hbel.grown hgr8 hbel.size (fun k hk => by cases hk; omega)
          have hcr := hr8.cell
          clear hob hoq hres hbel hgr8 hcy
          go_wp2
          simp [bodyPost, results, go_sem, Try.results62, hcr, Q.out.1]
          refine ⟨_, _, ⟨rfl, rfl⟩, ?_, hbel8⟩
          rw [Q.out.2]
          exact ⟨by simpa [trimW] using hb8, hq8⟩
  · have q1 : wrong_or d k = wrongD d := by unfold wrong_or; rw [if_pos hw]
    have q2 : trimD d k = ⟨[], []⟩ := by unfold trimD; rw [if_neg (by omega)]
    have hw' : (wrongD d != 0) = true := by simpa using hw
    go_wp2_with (refine wpList_stw rfl _ (.tmp 4) (.tmp 14) rfl (w.heap.size + 1) #[.slice none 0 0, .slice none 0 0] rfl rfl _ _ hres1 rfl disk_size (sl_one _ _ _ _ _ _) ?_)
    intro w2 hr2 hgr
    have hbel2 := hbel1.grown hgr hbel1.size (fun k hk => by cases hk; omega)
    have hcr := hr2.cell
    go_wp2
    simp [bodyPost, results, go_sem, Try.results62, hcr, q1]
    exact ⟨_, _, ⟨rfl, rfl⟩, by rw [q2]; exact DOwn.nil _ _, hbel2⟩
end Go.Proofs.Ytohbfjbcfibhcaa
