/- What package disk's Write does. -/
import Derived.Test.YtohbfjbcfibhcaaDisk2
namespace Go.Proofs.Ytohbfjbcfibhcaa
open Go.RowKit Pw
set_option linter.unusedSimpArgs false
set_option linter.unusedVariables false

/-- A disk with one more write; the oldest is there for good if 400 wait. -/
def pushW (d : Dsk) (x : Int × Page) : Dsk :=
  match d.queue with
  | [] => ⟨d.blocks, [x]⟩
  | q :: r => if (q :: r).length = 400 then ⟨d.blocks.set q.1.toNat q.2, r ++ [x]⟩ else ⟨d.blocks, (q :: r) ++ [x]⟩
theorem push_less (d : Dsk) (x : Int × Page) (h : d.queue.length ≠ 400) : pushW d x = ⟨d.blocks, d.queue ++ [x]⟩ := by
  unfold pushW
  split
  · rename_i e; rw [e]; rfl
  · rename_i q r e; rw [e] at h; rw [if_neg h, e]
theorem push_full (d : Dsk) (x : Int × Page) (h : d.queue.length = 400) : pushW d x = ⟨d.blocks.set (d.queue[0]'(by omega)).1.toNat (d.queue[0]'(by omega)).2, d.queue.drop 1 ++ [x]⟩ := by
  obtain ⟨B, Q⟩ := d
  unfold pushW
  cases Q with
  | nil => simp at h
  | cons q r => simp only [if_pos h]; rfl
def writeD (d : Dsk) (k : Int) (p : Page) : Dsk := if wrong_or d k = 0 then pushW d (k, p) else ⟨[], []⟩
theorem wrongD_le {d : Dsk} (h : wrongD d = 0) : d.blocks.length ≤ 80 ∧ d.queue.length ≤ 400 := by
  unfold wrongD at h
  split at h
  · omega
  · omega
theorem wrongD_in {d : Dsk} (h : wrongD d = 0) (i : Nat) (hi : i < d.queue.length) : 0 ≤ d.queue[i].1 ∧ d.queue[i].1 < d.blocks.length := by
  unfold wrongD at h
  split at h
  · omega
  split at h
  · omega
  rename_i h1
  have := List.any_eq_false.1 (by simpa using h1) _ (List.getElem_mem hi)
  simp [badW] at this
  omega
theorem disk_fit (a b c d : Value) : (#[a, b] : Array Value).size = (#[c, d] : Array Value).size := rfl
theorem disk_info (a b : Value) : (Try.prog.info? 36).map (·.size) = some (#[a, b] : Array Value).size := disk_size
theorem sl_one (a b : Option Addr) (n c m e : Nat) : (#[Value.slice a n c, Value.slice b m e] : Array Value).all (·.oneCell') = true := by simp [Value.oneCell']

theorem own_blk {w : World} {B : Nat} {e : TypeId} {sz : Nat} {v : Value} {n : Nat} {xs : List Value} (h : Own w B e sz v n xs) (g : Nat) (hg : v.ownBlock = some g) : ∃ cs, Blk w g cs e := by
  rcases h.2 with ⟨rfl, _⟩ | ⟨g2, off, cap, cur, rfl, _, hb, _⟩
  · cases hg
  · cases hg
    exact ⟨_, hb⟩
/-- A block of another type, and a slice of another type, while a slice of the call's own grows. -/
theorem blk_own {w w' : World} {B : Nat} {e : TypeId} {sz : Nat} {v : Value} {n : Nat} {xs : List Value} {b : Nat} {cs : Array Value} {T : TypeId} (h : Blk w b cs T) (ho : Own w B e sz v n xs) (hT : T ≠ e) (hg : w.grownBy w' v.ownBlock) : Blk w' b cs T :=
  h.grown hg (fun he => own_ne ho h hT b he rfl)
theorem own_own {w w' : World} {B B' : Nat} {e e' : TypeId} {sz sz' : Nat} {v v' : Value} {n n' : Nat} {xs xs' : List Value} (h : Own w B e sz v n xs) (ho : Own w B' e' sz' v' n' xs') (hT : e' ≠ e) (hg : w.grownBy w' v'.ownBlock) : Own w' B e sz v n xs :=
  h.grown hg (fun g hv he => by
    obtain ⟨cs, hk⟩ := own_blk ho g he
    exact own_ne h hk hT g hv rfl)
theorem own_set {w : World} {B : Nat} {e : TypeId} {sz : Nat} {v : Value} {n : Nat} {xs : List Value} (h : Own w B e sz v n xs) {g : Nat} {cs : Array Value} {T : TypeId} (hk : Blk w g cs T) (hT : T ≠ e) (o : Nat) (u : Value) : Own (w.setCell ⟨g, o, none⟩ u) B e sz v n xs :=
  own_keep h hk hT (grownBy_setCells w g o [u])
theorem blk_keep {w w' : World} {b g : Nat} {cs cs' : Array Value} {T T' : TypeId} (h : Blk w b cs T) (hk : Blk w g cs' T') (hT : T' ≠ T) (hgr : w.grownBy w' (some g)) : Blk w' b cs T :=
  h.grown hgr (fun he => by
    cases he
    unfold Blk at h hk
    rw [hk] at h
    simp only [Option.some.injEq, Obj.cells.injEq] at h
    exact hT h.2.1)

set_option maxHeartbeats 2000000 in
set_option maxRecDepth 100000 in
theorem dwrite_any (d : Dsk) (k : Int) (p : Page) (ab : Option Addr) (cb : Nat) (aq : Option Addr) (cq : Nat) (w : World) (h : DRd w ab cb aq cq d) :
    Calls Try.prog 27 #[.agg #[.slice ab d.blocks.length cb, .slice aq d.queue.length cq], .int .i64 k, .agg (pgC p)] w fun e w' => ∃ vb vq, e = .returned (.tuple #[.agg #[vb, vq], .int .i64 (wrong_or d k)]) ∧ DOwn w' w.heap.size vb vq (writeD d k p) ∧ Below w.heap.size w w' := by
  go_enter Try.func27, Try.ntmps27
  go_wp2_with fail
  refine abs3 (fun W => Calls _ _ _ W _) fun W0 hb0 hbox0 hpg0 hres0 hs0 => ?_
  refine (dwrong_any d ab cb aq cq _ (h.below hb0)).mono ?_
  rintro e w1 ⟨rfl, hb1⟩
  have hbel1 := below_next hb0 hb1
  have hbox1 := hbox0.ext hb1
  have hpg1 := hpg0.ext hb1
  have hres1 := hres0.ext hb1
  have h1 := h.below hbel1
  clear hbox0 hpg0 hres0 hb1 hb0 h hs0
  have hc1 := hbox1.cell
  by_cases hw : wrongD d = 0
  · rw [hw]
    obtain ⟨l80, l400⟩ := wrongD_le hw
    by_cases hk : k < 0 ∨ (d.blocks.length : Int) ≤ k
    · have q1 : wrong_or d k = 3 := by unfold wrong_or; rw [if_neg (by omega), if_pos hk]
      have q2 : writeD d k p = ⟨[], []⟩ := by unfold writeD; rw [if_neg (by omega)]
      rcases hk with hk | hk
      all_goals
        go_wp2_with (refine wpList_stw rfl _ (.tmp 6) (.tmp 26) rfl (w.heap.size + 2) #[.slice none 0 0, .slice none 0 0] rfl rfl _ _ hres1 rfl disk_size (sl_one _ _ _ _ _ _) ?_)
        all_goals
          intro w2 hr2 hgr
          have hbel2 := hbel1.grown hgr hbel1.size (fun k hk => by cases hk; omega)
          have hcr := hr2.cell
          go_wp2
          simp [bodyPost, results, go_sem, Try.results27, hcr, q1]
          exact ⟨_, _, ⟨rfl, rfl⟩, by rw [q2]; exact DOwn.nil _ _, hbel2⟩
    · obtain ⟨k, rfl⟩ := Int.eq_ofNat_of_zero_le (show 0 ≤ k by omega)
      have hkl : k < d.blocks.length := by omega
      have k1 : ¬ (d.blocks.length : Int) ≤ (k : Int) := by omega
      have q1 : wrong_or d k = 0 := by unfold wrong_or; rw [if_neg (by omega), if_neg hk]
      have q2 : writeD d k p = pushW d (k, p) := by unfold writeD; rw [if_pos q1]
      have Q2 := Lib.hid q2
      clear hk q2
      go_wp2_with fail
      refine (down_any d ab cb aq cq _ h1 (by omega) (by omega)).mono ?_
      rintro e w2 ⟨vb, vq, rfl, ho, hb2⟩
      have hbel2 := below_next hbel1 hb2
      have hpg2 := hpg1.ext hb2
      have hres2 := hres1.ext hb2
      have hge1 : w.heap.size + 3 ≤ w1.heap.size := by have := hres1.lt; omega
      have hge2 : w.heap.size + 3 ≤ w2.heap.size := Nat.le_trans (show w.heap.size + 3 ≤ w1.heap.size by have := hres1.lt; omega) hb2.size
      clear hbox1 hpg1 hres1 hb2 h1 hc1
      obtain ⟨xb, cb', xq, cq', rfl, rfl, hrd2⟩ := ho.rd
      have hlq := hrd2.lq
      go_upto_region 7 with (fail)
      refine abs1 (fun W => Code.wp _ _ _ _ W) fun w3 hb3 hout3 hs3 => ?_
      have ho3 := ho.below hb3
      have hbel3 := below_next hbel2 hb3
      have hpg3 := hpg2.ext hb3
      have hres3 := hres2.ext hb3
      have hge3 : w.heap.size + 3 ≤ w2.heap.size := hge2
      clear ho hrd2 hpg2 hres2 hb3
      have hlt3 : w2.heap.size < w3.heap.size := by omega
      clear hs3
      have hc9 := hout3.cell
      by_cases h4 : d.queue.length = 400
      · have Q3 := Lib.hid (push_full d ((k : Int), p) h4)
        have h4' : ((d.queue.length : Int) == 400) = true := by rw [h4]; rfl
        have hqn : 0 < d.queue.length := by omega
        obtain ⟨hin1, hin2⟩ := wrongD_in hw 0 hqn
        generalize hq0 : d.queue[0] = q0 at *
        obtain ⟨i0, hi0⟩ := Int.eq_ofNat_of_zero_le hin1
        have hi0' : i0 < d.blocks.length := by omega
        obtain ⟨gq, offq, capq, curq, hvq, hBq, hgq, hfq, hcq, hsetq⟩ := ho3.q.put puL_len (by decide) 0 hqn
        obtain ⟨gb, offb, capb, curb, hvb, hBb, hgb, hfb, hcb, hsetb⟩ := ho3.b.put pgL_len (by decide) i0 hi0'
        cases hvq
        cases hvb
        rw [hq0] at hcq
        have c0 := hcq 0 _ rfl; have c1 := hcq 1 _ rfl; have c2 := hcq 2 _ rfl; have c3 := hcq 3 _ rfl; have c4 := hcq 4 _ rfl
        have c5 := hcq 5 _ rfl; have c6 := hcq 6 _ rfl; have c7 := hcq 7 _ rfl; have c8 := hcq 8 _ rfl
        simp only [Nat.zero_mul, Nat.add_zero, hi0] at c0 c1 c2 c3 c4 c5 c6 c7 c8
        have n1 : (0 : Int) < (d.queue.length : Int) := by omega
        have n2 : (i0 : Int) < (d.blocks.length : Int) := by omega
        have hcd := fun o => (hout3.alloc o).cell
        clear hcq hcb hsetq hin1 hin2
        go_wp2_with (refine wpList_st rfl _ (.tmp 43) (.tmp 42) rfl gb (offb + i0 * 8) (pgC q0.2) rfl rfl curb 23 (hgb.alloc _) (by rw [pgC_size]; omega) (pg_info _) (pgC_one _) ?_)
        intro w5 hq5 hgr5
        have hB5 := hsetb w5 q0.2 hq5
        have hQ5 := own_keep (ho3.q.alloc _) (hgb.alloc _) (by decide) hgr5
        have hout5 := blk_keep (hout3.alloc _) (hgb.alloc _) (by decide) hgr5
        have hres5 := blk_keep (hres3.alloc _) (hgb.alloc _) (by decide) hgr5
        have hpg5 := (hpg3.alloc _).grown hgr5 (by intro he; cases he; omega)
        have hbel5 : Below w.heap.size w w5 := (hbel3.alloc hbel3.size _).grown hgr5 (le_alloc' hbel3.size _) (fun k hk => by cases hk; omega)
        clear hq5 hgr5 hsetb hgb hcd hout3 hres3 hpg3 ho3 c0 c1 c2 c3 c4 c5 c6 c7 c8 hbel3 hc9 hgq
        have hc9 := hout5.cell
        have hf9 := hout5.free
        have hcne : ¬ cq' = 1 := by omega
        go_upto_region 11 with (fail)
        have hl : (d.queue.drop 1).length = 399 := by simp; omega
        have hQ5' := (hQ5.drop puL_len 1 hqn).mono hbel1.size
        rw [hl, Nat.one_mul] at hQ5'
        have hQ6 := own_set hQ5' hout5 (by decide) 1 (.slice (some ⟨gq, offq + 9, none⟩) 399 (cq' - 1))
        have hB6 := own_set (hB5.mono hbel1.size) hout5 (by decide) 1 (.slice (some ⟨gq, offq + 9, none⟩) 399 (cq' - 1))
        have hout6 := hout5.setCell 1 (.slice (some ⟨gq, offq + 9, none⟩) 399 (cq' - 1))
        have hres6 := hres5.setCell_other ⟨w2.heap.size, 1, none⟩ (.slice (some ⟨gq, offq + 9, none⟩) 399 (cq' - 1)) (by simp; omega)
        have hpg6 := hpg5.setCell_other ⟨w2.heap.size, 1, none⟩ (.slice (some ⟨gq, offq + 9, none⟩) 399 (cq' - 1)) (by simp; omega)
        have hbel6 : Below w.heap.size w (w5.setCell ⟨w2.heap.size, 1, none⟩ (.slice (some ⟨gq, offq + 9, none⟩) 399 (cq' - 1))) := hbel5.setCell (by simp; omega) _
        have hlt6 : w2.heap.size < (w5.setCell ⟨w2.heap.size, 1, none⟩ (.slice (some ⟨gq, offq + 9, none⟩) 399 (cq' - 1))).heap.size := hout6.lt
        clear hQ5 hQ5' hB5 hout5 hres5 hpg5 hbel5 hf9 hc9
        generalize w5.setCell ⟨w2.heap.size, 1, none⟩ (.slice (some ⟨gq, offq + 9, none⟩) 399 (cq' - 1)) = w6 at *
        have hc9 := hout6.cell
        have hcp := hpg6.cell
        obtain ⟨e0, e1, e2, e3, e4, e5, e6, e7⟩ := pgC_all p
        have hpp : #[Value.int .u8 p[0].toNat, Value.int .u8 p[1].toNat, Value.int .u8 p[2].toNat, Value.int .u8 p[3].toNat, Value.int .u8 p[4].toNat, Value.int .u8 p[5].toNat, Value.int .u8 p[6].toNat, Value.int .u8 p[7].toNat] = pgC p := rfl
        clear hpp
        go_wp2_with (at_builtin; (refine wpList_app rfl _ _ 34 rfl w.heap.size 45 _ 9 16 Try.underlying34 put_info rfl (by decide) _ 399 ((d.queue.drop 1).flatMap puL) rfl ?own (some ⟨w6.heap.size, 0, none⟩) 1 1 (puL ((k : Int), p)) rfl (fun h => (by cases h)) (Nat.le_refl _) rfl ?rd (fun u hu => puts_one [((k : Int), p)] u (by simpa using hu)) (by unfold maxLen; omega) (by omega) ?bb ?app))
        case own => exact hQ6.alloc _
        case rd => exact RdV.new _ (puC ((k : Int), p)) _
        case bb => exact le_alloc' hbel6.size _
        intro v w4 hown hgr
        have hq3 := hQ6.alloc (.cells #[.int .i64 k, .int .u8 p[0].toNat, .int .u8 p[1].toNat, .int .u8 p[2].toNat, .int .u8 p[3].toNat, .int .u8 p[4].toNat, .int .u8 p[5].toNat, .int .u8 p[6].toNat, .int .u8 p[7].toNat] 45)
        have hb4 := own_own (hB6.alloc _) hq3 (by decide) hgr
        have hout4 := blk_own (hout6.alloc _) hq3 (by decide) hgr
        have hres4 := blk_own (hres6.alloc _) hq3 (by decide) hgr
        have hbel4 : Below w.heap.size w w4 := (hbel6.alloc hbel6.size _).grown hgr (le_alloc' hbel6.size _) hq3.ge
        obtain ⟨x4, c4, rfl, _⟩ := hown.rd
        clear e0 e1 e2 e3 e4 e5 e6 e7 hcp hgr hq3 hB6 hQ6 hout6 hres6 hpg6 hc9
        have hc9 := hout4.cell
        have hf9 := hout4.free
        go_wp2_with (refine wpList_stw rfl _ (.tmp 6) (.tmp 56) rfl (w.heap.size + 2) #[.slice (some ⟨gb, offb, none⟩) d.blocks.length cb', .slice x4 (399 + 1) c4] rfl rfl _ _ (hres4.setCell_other _ _ (by simp; omega)) (disk_fit _ _ _ _) (disk_info _ _) (sl_one _ _ _ _ _ _) ?_)
        intro w7 hr5 hgr5
        have hres4' := hres4.setCell_other ⟨w2.heap.size, 1, none⟩ (.slice x4 (399 + 1) c4) (by simp; omega)
        have hb5 := own_keep (own_set hb4 hout4 (by decide) 1 (.slice x4 (399 + 1) c4)) hres4' (by decide) hgr5
        have hq5 := own_keep (own_set hown hout4 (by decide) 1 (.slice x4 (399 + 1) c4)) hres4' (by decide) hgr5
        have hbs : Below w.heap.size w (w4.setCell ⟨w2.heap.size, 1, none⟩ (.slice x4 (399 + 1) c4)) := hbel4.setCell (by simp; omega) _
        have hbel7 : Below w.heap.size w w7 := hbs.grown hgr5 hbs.size (fun k hk => by cases hk; omega)
        have hcr := hr5.cell
        clear hb4 hown hout4 hres4 hres4' hgr5 hbel4 hbs hc9 hf9
        go_wp2
        simp [bodyPost, results, go_sem, Try.results27, hcr, q1]
        refine ⟨_, _, ⟨rfl, rfl⟩, ?_, hbel7⟩
        rw [Q2.out, Q3.out]
        rw [hi0, Int.toNat_natCast]
        have e9 : (d.queue.drop 1 ++ [((k : Int), p)]).length = 399 + 1 := by simp; omega
        exact ⟨by rw [List.length_set]; exact hb5, by rw [e9, List.flatMap_append]; simpa using hq5⟩
      · have Q3 := Lib.hid (push_less d ((k : Int), p) h4)
        have h4' : ((d.queue.length : Int) == 400) = false := by simp; omega
        have hcp := hpg3.cell
        obtain ⟨e0, e1, e2, e3, e4, e5, e6, e7⟩ := pgC_all p
        have hpp : #[Value.int .u8 p[0].toNat, Value.int .u8 p[1].toNat, Value.int .u8 p[2].toNat, Value.int .u8 p[3].toNat, Value.int .u8 p[4].toNat, Value.int .u8 p[5].toNat, Value.int .u8 p[6].toNat, Value.int .u8 p[7].toNat] = pgC p := rfl
        clear hpp
        go_wp2_with (at_builtin; (refine wpList_app rfl _ _ 34 rfl w.heap.size 45 _ 9 16 Try.underlying34 put_info rfl (by decide) _ d.queue.length (d.queue.flatMap puL) rfl ?own2 (some ⟨w3.heap.size, 0, none⟩) 1 1 (puL ((k : Int), p)) rfl (fun h => (by cases h)) (Nat.le_refl _) rfl ?rd2 (fun u hu => puts_one [((k : Int), p)] u (by simpa using hu)) (by unfold maxLen; omega) (by omega) ?bb2 ?app2))
        case own2 => exact (ho3.q.mono hbel1.size).alloc _
        case rd2 => exact RdV.new _ (puC ((k : Int), p)) _
        case bb2 => exact le_alloc' hbel3.size _
        intro v w4 hown hgr
        have hq3 := (ho3.q.mono hbel1.size).alloc (.cells #[.int .i64 k, .int .u8 p[0].toNat, .int .u8 p[1].toNat, .int .u8 p[2].toNat, .int .u8 p[3].toNat, .int .u8 p[4].toNat, .int .u8 p[5].toNat, .int .u8 p[6].toNat, .int .u8 p[7].toNat] 45)
        have hb4 := own_own ((ho3.b.mono hbel1.size).alloc _) hq3 (by decide) hgr
        have hout4 := blk_own (hout3.alloc _) hq3 (by decide) hgr
        have hres4 := blk_own (hres3.alloc _) hq3 (by decide) hgr
        have hbel4 : Below w.heap.size w w4 := (hbel3.alloc hbel3.size _).grown hgr (le_alloc' hbel3.size _) hq3.ge
        obtain ⟨x4, c4, rfl, _⟩ := hown.rd
        clear e0 e1 e2 e3 e4 e5 e6 e7 hcp hgr hq3 ho3 hout3 hres3 hpg3 hc9
        have hc9 := hout4.cell
        have hf9 := hout4.free
        go_wp2_with (refine wpList_stw rfl _ (.tmp 6) (.tmp 56) rfl (w.heap.size + 2) #[.slice xb d.blocks.length cb', .slice x4 (d.queue.length + 1) c4] rfl rfl _ _ (hres4.setCell_other _ _ (by simp; omega)) (disk_fit _ _ _ _) (disk_info _ _) (sl_one _ _ _ _ _ _) ?_)
        intro w5 hr5 hgr5
        have hres4' := hres4.setCell_other ⟨w2.heap.size, 1, none⟩ (.slice x4 (d.queue.length + 1) c4) (by simp; omega)
        have hb5 := own_keep (own_set hb4 hout4 (by decide) 1 (.slice x4 (d.queue.length + 1) c4)) hres4' (by decide) hgr5
        have hq5 := own_keep (own_set hown hout4 (by decide) 1 (.slice x4 (d.queue.length + 1) c4)) hres4' (by decide) hgr5
        have hbs : Below w.heap.size w (w4.setCell ⟨w2.heap.size, 1, none⟩ (.slice x4 (d.queue.length + 1) c4)) := hbel4.setCell (by simp; omega) _
        have hbel5 : Below w.heap.size w w5 := hbs.grown hgr5 hbs.size (fun k hk => by cases hk; omega)
        have hcr := hr5.cell
        clear hb4 hown hout4 hres4 hres4' hgr5 hbel4 hbs hc9 hf9
        go_wp2
        simp [bodyPost, results, go_sem, Try.results27, hcr, q1]
        refine ⟨_, _, ⟨rfl, rfl⟩, ?_, hbel5⟩
        rw [Q2.out, Q3.out]
        exact ⟨hb5, by simpa [List.flatMap_append] using hq5⟩
  · have q1 : wrong_or d k = wrongD d := by unfold wrong_or; rw [if_pos hw]
    have q2 : writeD d k p = ⟨[], []⟩ := by unfold writeD; rw [if_neg (by omega)]
    have hw' : (wrongD d != 0) = true := by simpa using hw
    go_wp2_with (refine wpList_stw rfl _ (.tmp 6) (.tmp 15) rfl (w.heap.size + 2) #[.slice none 0 0, .slice none 0 0] rfl rfl _ _ hres1 rfl disk_size (sl_one _ _ _ _ _ _) ?_)
    intro w2 hr2 hgr
    have hbel2 := hbel1.grown hgr hbel1.size (fun k hk => by cases hk; omega)
    have hcr := hr2.cell
    go_wp2
    simp [bodyPost, results, go_sem, Try.results27, hcr, q1]
    exact ⟨_, _, ⟨rfl, rfl⟩, by rw [q2]; exact DOwn.nil _ _, hbel2⟩
end Go.Proofs.Ytohbfjbcfibhcaa
