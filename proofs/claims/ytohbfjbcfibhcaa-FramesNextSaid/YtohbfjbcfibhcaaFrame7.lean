/- What package frames' Hold does. -/
import Derived.Test.YtohbfjbcfibhcaaFrame6
namespace Go.Proofs.Ytohbfjbcfibhcaa
open Go.RowKit Pw
set_option linter.unusedSimpArgs false
set_option linter.unusedVariables false

theorem firstE_all : ∀ (l : List Fr), firstE l = 0 → ∀ f ∈ l, frameE f = 0
  | [], _, _, h => by cases h
  | g :: r, h, f, hf => by
    unfold firstE at h
    by_cases hg : frameE g = 0
    · rw [if_neg (fun e => e hg)] at h
      rcases List.mem_cons.1 hf with rfl | hf
      · exact hg
      · exact firstE_all r h f hf
    · rw [if_pos hg] at h
      exact absurd h hg
theorem wrongM_iff (m : Mem) : wrongM m = 0 ↔ m.fs.length ≤ 40 ∧ (∀ f ∈ m.fs, frameE f = 0) ∧ 0 ≤ m.hand ∧ (m.hand = 0 ∨ m.hand < m.fs.length) := by
  unfold wrongM
  constructor
  · intro h
    by_cases h1 : 40 < m.fs.length
    · rw [if_pos h1] at h; cases h
    · rw [if_neg h1] at h
      by_cases h2 : firstE m.fs = 0
      · rw [if_neg (fun e => e h2)] at h
        by_cases h3 : m.hand < 0 ∨ (0 < m.hand ∧ (m.fs.length : Int) ≤ m.hand)
        · rw [if_pos h3] at h; cases h
        · exact ⟨by omega, firstE_all _ h2, by omega, by omega⟩
      · rw [if_pos h2] at h; exact absurd h h2
  · rintro ⟨h1, h2, h3, h4⟩
    rw [if_neg (by omega)]
    have h5 : firstE m.fs = 0 := firstE_none _ (fun i hi => h2 _ (List.getElem_mem hi))
    rw [h5, if_neg (fun e => e rfl), if_neg (by omega)]
theorem frameE_iff (f : Fr) : frameE f = 0 ↔ (0 ≤ f.r ∧ f.r ≤ 1000 ∧ -1 ≤ f.f ∧ f.f < 5 ∧ 0 ≤ f.i ∧ f.i < 12) ∧ (f.r = 0 → f.u = false ∧ f.d = false ∧ f.f < 0 ∧ f.p = zPg) ∧ (f.f < 0 → f.i = 0) := by
  unfold frameE
  have hb : badFr f = false ↔ (0 ≤ f.r ∧ f.r ≤ 1000 ∧ -1 ≤ f.f ∧ f.f < 5 ∧ 0 ≤ f.i ∧ f.i < 12) := by
    simp only [badFr, Bool.or_eq_false_iff, decide_eq_false_iff_not, Int.not_lt, Int.not_le]
    omega
  have hu : unfit f = false ↔ (f.r = 0 → f.u = false ∧ f.d = false ∧ f.f < 0 ∧ f.p = zPg) := by
    unfold unfit
    by_cases h : f.r = 0
    · simp [h, and_assoc]
    · simp [h]
  have hf : unfile f = false ↔ (f.f < 0 → f.i = 0) := by
    unfold unfile
    by_cases h : f.f < 0
    · simp [h]
    · simp [h]
  rw [← hb, ← hu, ← hf]
  cases badFr f <;> cases unfit f <;> cases unfile f <;> simp

def holdE (m : Mem) (k n : Int) : Int := if wrongM m ≠ 0 then wrongM m else if k < 0 ∨ (m.fs.length : Int) ≤ k ∨ (m.fs.getD k.toNat fr0).r = 0 then 5 else if n < -(m.fs.getD k.toNat fr0).r ∨ 1000 - (m.fs.getD k.toNat fr0).r < n then 3 else 0
def heldF (f : Fr) (n : Int) : Fr := if f.r + n = 0 then frZ else { f with r := f.r + n }
def holdM (m : Mem) (k n : Int) : Mem := if holdE m k n = 0 then ⟨m.fs.set k.toNat (heldF (m.fs.getD k.toNat fr0) n), m.hand⟩ else noM
set_option maxHeartbeats 2000000 in
set_option maxRecDepth 100000 in
theorem mhold_any (m : Mem) (k n : Int) (a : Option Addr) (c : Nat) (w : World) (h : MRd w a c m) :
    Calls Try.prog 51 #[.agg #[.slice a m.fs.length c, .int .i64 m.hand], .int .i64 k, .int .i64 n] w fun e w' => ∃ vb, e = .returned (.tuple #[.agg #[vb, .int .i64 (holdM m k n).hand], .int .i64 (holdE m k n)]) ∧ Own w' w.heap.size 72 13 vb (holdM m k n).fs.length ((holdM m k n).fs.flatMap frL) ∧ Below w.heap.size w w' := by
  go_enter Try.func51, Try.ntmps51
  go_wp2_with fail
  refine abs2 (fun W => Calls _ _ _ W _) fun W0 hb0 hbox0 hres0 hs0 => ?_
  refine (mwrong_any m a c _ (h.below hb0)).mono ?_
  rintro e w1 ⟨rfl, hb1⟩
  have hbel1 := below_next hb0 hb1
  have hbox1 := hbox0.ext hb1
  have hres1 := hres0.ext hb1
  have h1 := h.below hbel1
  clear hbox0 hres0 hb1 hb0 hs0
  have hcb := hbox1.cell
  by_cases hw : wrongM m = 0
  · obtain ⟨hl40, hall, _, _⟩ := (wrongM_iff m).1 hw
    rw [hw]
    by_cases hk : k < 0 ∨ (m.fs.length : Int) ≤ k
    · have q1 : holdE m k n = 5 := by unfold holdE; rw [if_neg (by omega), if_pos (by omega)]
      have q3 : holdM m k n = noM := by unfold holdM; rw [if_neg (by omega)]
      clear hall
      rcases hk with hk | hk
      all_goals
        go_wp2_with (refine wpList_stw rfl _ (.tmp 6) (.tmp 35) rfl (w.heap.size + 1) #[.slice none 0 0, .int .i64 0] rfl rfl _ _ hres1 rfl mem_size (mem_one _ _ _ _) ?_)
        all_goals
          intro w5 hr5 hgr
          have hbel5 := (hbel1).grown hgr (hbel1).size (fun k hk => by cases hk; omega)
          have hcr := hr5.cell
          go_wp2
          simp [bodyPost, results, go_sem, Try.results51, hcr, q1, q3, noM]
          exact ⟨Own.nil _ _ _ _, hbel5⟩
    · obtain ⟨k, rfl⟩ := Int.eq_ofNat_of_zero_le (show 0 ≤ k by omega)
      have hkl : k < m.fs.length := by omega
      have hk1 : ¬ (m.fs.length : Int) ≤ (k : Int) := by omega
      have hkz : (k : Int) < (m.fs.length : Int) := by omega
      obtain ⟨⟨hr0, hr1, _⟩, _, _⟩ := (frameE_iff m.fs[k]).1 (hall _ (List.getElem_mem hkl))
      have hg : m.fs.getD (k : Int).toNat fr0 = m.fs[k] := by simp [hkl]
      clear hall hk
      obtain ⟨b, off, rfl, hc⟩ := fr_at h1.rd k hkl
      have c8 := hc.c8
      by_cases hr : m.fs[k].r = 0
      · have q1 : holdE m k n = 5 := by unfold holdE; rw [if_neg (by omega), hg, if_pos (.inr (.inr hr))]
        have q3 : holdM m k n = noM := by unfold holdM; rw [if_neg (by omega)]
        have hrb : (m.fs[k].r == 0) = true := by simpa using hr
        clear hg
        go_wp2_with (refine wpList_stw rfl _ (.tmp 6) (.tmp 35) rfl (w.heap.size + 1) #[.slice none 0 0, .int .i64 0] rfl rfl _ _ hres1 rfl mem_size (mem_one _ _ _ _) ?_)
        all_goals
          intro w5 hr5 hgr
          have hbel5 := (hbel1).grown hgr (hbel1).size (fun k hk => by cases hk; omega)
          have hcr := hr5.cell
          go_wp2
          simp [bodyPost, results, go_sem, Try.results51, hcr, q1, q3, noM]
          exact ⟨Own.nil _ _ _ _, hbel5⟩
      · have hrb : (m.fs[k].r == 0) = false := by simpa using hr
        by_cases hn : n < -m.fs[k].r ∨ 1000 - m.fs[k].r < n
        · have q1 : holdE m k n = 3 := by unfold holdE; rw [if_neg (by omega), hg, if_neg (by omega), if_pos hn]
          have q3 : holdM m k n = noM := by unfold holdM; rw [if_neg (by omega)]
          clear hg
          rcases hn with hn | hn
          all_goals
            go_wp2_with (refine wpList_stw rfl _ (.tmp 6) (.tmp 56) rfl (w.heap.size + 1) #[.slice none 0 0, .int .i64 0] rfl rfl _ _ hres1 rfl mem_size (mem_one _ _ _ _) ?_)
            all_goals
              intro w5 hr5 hgr
              have hbel5 := (hbel1).grown hgr (hbel1).size (fun k hk => by cases hk; omega)
              have hcr := hr5.cell
              go_wp2
              simp [bodyPost, results, go_sem, Try.results51, hcr, q1, q3, noM]
              exact ⟨Own.nil _ _ _ _, hbel5⟩
        · have q1 : holdE m k n = 0 := by unfold holdE; rw [if_neg (by omega), hg, if_neg (by omega), if_neg hn]
          have q3 : holdM m k n = ⟨m.fs.set k (heldF m.fs[k] n), m.hand⟩ := by unfold holdM; rw [if_pos q1, hg]; rfl
          have Q1 := Lib.hid q1
          have Q3 := Lib.hid q3
          have n1 : ¬ n < -m.fs[k].r := by omega
          have n2 : ¬ 1000 - m.fs[k].r < n := by omega
          clear hg q1 q3 hn hr
          go_wp2_with fail
          refine (mown_any m _ c _ h1 (by omega)).mono ?_
          rintro e w2 ⟨vb, rfl, ho, hb2⟩
          have hbel2 := below_next hbel1 hb2
          have hres2 := hres1.ext hb2
          have hge1 := hbel1.size
          have hgx : w.heap.size + 2 ≤ w1.heap.size := by have := hres1.lt; omega
          obtain ⟨xb, cb', rfl, _⟩ := mown_rd ho
          clear hcb hbox1 hres1 h1 hb2 hc c8
          go_upto_region 9 with (fail)
          refine abs1 (fun W => Code.wp _ _ _ _ W) fun w3 hb3 hm3 hs3 => ?_
          have hbel3 := below_next hbel2 hb3
          have hres3 := hres2.ext hb3
          have ho3 := ho.below hb3
          have hgy : w.heap.size + 2 ≤ w2.heap.size := by have := hbel2.size; have := hres2.lt; omega
          clear hres2 ho hb3 hs3
          obtain ⟨gb, offb, capb, hvb, hBb, hgl, ⟨csg, hgb⟩, hcc, hfz, hset⟩ := own_cell frL_len (by decide) rfl ho3 k hkl 8 (by decide) (.int .i64 (m.fs[k].r + n)) { m.fs[k] with r := m.fs[k].r + n } rfl
          cases hvb
          have hc8 := hcc 8 (.int .i64 m.fs[k].r) rfl
          have hcm := hm3.cell
          clear hcc
          have hlt3 := hm3.lt
          have hgm : w2.heap.size ≠ gb := by
            intro e; subst e
            unfold Blk at hm3 hgb
            rw [hm3] at hgb
            cases hgb
          go_upto_region 11 with (fail)
          have hm4 := hm3.setCell_other ⟨gb, offb + k * 13 + 8, none⟩ (.int .i64 (m.fs[k].r + n)) (by simpa using hgm)
          have hres4 := hres3.setCell_other ⟨gb, offb + k * 13 + 8, none⟩ (.int .i64 (m.fs[k].r + n)) (by simp; omega)
          have hbel4 : Below w.heap.size w (w3.setCell ⟨gb, offb + k * 13 + 8, none⟩ (.int .i64 (m.fs[k].r + n))) := hbel3.setCell (by simp; omega) _
          generalize w3.setCell ⟨gb, offb + k * 13 + 8, none⟩ (.int .i64 (m.fs[k].r + n)) = w4 at *
          clear hm3 hres3 hbel3 ho3 hgb hfz hc8 hcm hgl hlt3
          have hls : (m.fs.set k { m.fs[k] with r := m.fs[k].r + n }).length = m.fs.length := by simp
          have hkl' : k < (m.fs.set k { m.fs[k] with r := m.fs[k].r + n }).length := by omega
          obtain ⟨_, _, hv, _, _, _, hrd4⟩ := hset.rd
          cases hv
          obtain ⟨_, _, hv, hc4⟩ := fr_at hrd4 k hkl'
          cases hv
          rw [List.getElem_set_self] at hc4
          have c8 := hc4.c8
          simp only at c8
          clear hc4 hrd4
          have hcm := hm4.cell
          by_cases hz : m.fs[k].r + n = 0
          · have hhf : Hid (heldF m.fs[k] n = frZ) := by unfold heldF; exact if_pos hz
            obtain ⟨_, _, _, curb, hv, _, hgb4, hfb, hsetb⟩ := own_putn frL_len (by decide) hls hset k hkl
            cases hv
            rw [hz] at c8
            clear hz hset
            go_wp2_with (refine wpList_st rfl _ (.tmp 78) (.tmp 77) rfl gb (offb + k * 13) (frC frZ) rfl rfl curb 72 hgb4 (by show _ + 13 ≤ _; omega) frame_size (frC_one _) ?_)
            intro w5 hq5 hgr5
            have hB5 := hsetb w5 frZ hq5
            rw [List.set_set] at hB5
            have hm5 := blk_keep hm4 hgb4 (by decide) hgr5
            have hres5 := blk_keep hres4 hgb4 (by decide) hgr5
            have hbel5 : Below w.heap.size w w5 := hbel4.grown hgr5 hbel4.size (fun k hk => by cases hk; omega)
            clear hq5 hsetb hgb4 hm4 hres4 hcm c8 hgr5 hbel4
            have hcm := hm5.cell
            go_wp2_with (refine wpList_stw rfl _ (.tmp 6) (.tmp 79) rfl (w.heap.size + 1) #[.slice (some ⟨gb, offb, none⟩) m.fs.length cb', .int .i64 m.hand] rfl rfl _ _ hres5 (mem_fit _ _ _ _ _ _ _ _) mem_size (mem_one _ _ _ _) ?_)
            intro w8 hr8 hgr8
            have hB8 := own_keep hB5 hres5 (by decide) hgr8
            have hbel8 := hbel5.grown hgr8 hbel5.size (fun k hk => by cases hk; omega)
            have hcr := hr8.cell
            clear hcm
            go_wp2
            simp [bodyPost, results, go_sem, Try.results51, hcr, Q1.out, Q3.out, hhf.out]
            exact ⟨by have := hB8.mono (show w.heap.size ≤ w1.heap.size from hge1); simpa using this, hbel8⟩
          · have hhf : Hid (heldF m.fs[k] n = { m.fs[k] with r := m.fs[k].r + n }) := by unfold heldF; exact if_neg hz
            have hzb : (m.fs[k].r + n == 0) = false := by simpa using hz
            clear hz
            go_wp2_with (refine wpList_stw rfl _ (.tmp 6) (.tmp 79) rfl (w.heap.size + 1) #[.slice (some ⟨gb, offb, none⟩) m.fs.length cb', .int .i64 m.hand] rfl rfl _ _ hres4 (mem_fit _ _ _ _ _ _ _ _) mem_size (mem_one _ _ _ _) ?_)
            intro w8 hr8 hgr8
            have hB8 := own_keep hset hres4 (by decide) hgr8
            have hbel8 := hbel4.grown hgr8 hbel4.size (fun k hk => by cases hk; omega)
            have hcr := hr8.cell
            clear hcm
            go_wp2
            simp [bodyPost, results, go_sem, Try.results51, hcr, Q1.out, Q3.out, hhf.out]
            exact ⟨by have := hB8.mono (show w.heap.size ≤ w1.heap.size from hge1); simpa using this, hbel8⟩
  · have q1 : holdE m k n = wrongM m := by unfold holdE; rw [if_pos hw]
    have q3 : holdM m k n = noM := by unfold holdM; rw [if_neg (by omega)]
    have hn : (wrongM m != 0) = true := by simpa using hw
    go_wp2_with (refine wpList_stw rfl _ (.tmp 6) (.tmp 15) rfl (w.heap.size + 1) #[.slice none 0 0, .int .i64 0] rfl rfl _ _ hres1 rfl mem_size (mem_one _ _ _ _) ?_)
    all_goals
      intro w5 hr5 hgr
      have hbel5 := (hbel1).grown hgr (hbel1).size (fun k hk => by cases hk; omega)
      have hcr := hr5.cell
      go_wp2
      simp [bodyPost, results, go_sem, Try.results51, hcr, q1, q3, noM]
      exact ⟨Own.nil _ _ _ _, hbel5⟩
end Go.Proofs.Ytohbfjbcfibhcaa
