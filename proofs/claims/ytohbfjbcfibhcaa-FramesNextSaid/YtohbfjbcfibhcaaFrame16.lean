/- What the document's HoldFrame does. -/
import Derived.Test.YtohbfjbcfibhcaaFrame14
namespace Go.Proofs.Ytohbfjbcfibhcaa
open Go.RowKit Pw
set_option linter.unusedSimpArgs false
set_option linter.unusedVariables false

set_option maxHeartbeats 2000000 in
set_option maxRecDepth 100000 in
theorem rmhold_any (m : Mem) (k n : Int) (a : Option Addr) (c : Nat) (w : World) (h : MRd w a c m) :
    Calls Try.prog 52 #[.agg #[.slice a m.fs.length c, .int .i64 m.hand], .int .i64 k, .int .i64 n] w fun e w' => ∃ vb, e = .returned (.tuple #[.agg #[vb, .int .i64 (holdM m k n).hand], .int .i64 (holdE m k n)]) ∧ Own w' w.heap.size 72 13 vb (holdM m k n).fs.length ((holdM m k n).fs.flatMap frL) ∧ Below w.heap.size w w' := by
  go_enter Try.func52, Try.ntmps52
  go_wp2_with fail
  refine abs2 (fun W => Calls _ _ _ W _) fun W0 hb0 hbox0 hres0 hs0 => ?_
  refine (rmwrong_any m a c _ (h.below hb0)).mono ?_
  rintro e w1 ⟨rfl, hb1⟩
  have hbel1 := below_next hb0 hb1
  have hbox1 := hbox0.ext hb1
  have hres1 := hres0.ext hb1
  have h1 := h.below hbel1
  clear hbox0 hres0 hb1 hb0 hs0
  have hcb := hbox1.cell
  by_cases hw : wrongM m = 0
  · obtain ⟨hl40, hall, _, _⟩ := (wrongM_iff m).1 hw
    rw [hw]
    by_cases hk : k < 0 ∨ (m.fs.length : Int) ≤ k
    · have q1 : holdE m k n = 5 := by unfold holdE; rw [if_neg (by omega), if_pos (by omega)]
      have q3 : holdM m k n = noM := by unfold holdM; rw [if_neg (by omega)]
      clear hall
      rcases hk with hk | hk
      all_goals
        go_wp2_with (refine wpList_stw rfl _ (.tmp 6) (.tmp 34) rfl (w.heap.size + 1) #[.slice none 0 0, .int .i64 0] rfl rfl _ _ hres1 rfl mem_size (mem_one _ _ _ _) ?_)
        all_goals
          intro w5 hr5 hgr
          have hbel5 := (hbel1).grown hgr (hbel1).size (fun k hk => by cases hk; omega)
          have hcr := hr5.cell
          go_wp2
          simp [bodyPost, results, go_sem, Try.results52, hcr, q1, q3, noM]
          exact ⟨Own.nil _ _ _ _, hbel5⟩
    · obtain ⟨k, rfl⟩ := Int.eq_ofNat_of_zero_le (show 0 ≤ k by omega)
      have hkl : k < m.fs.length := by omega
      have hk1 : ¬ (m.fs.length : Int) ≤ (k : Int) := by omega
      have hkz : (k : Int) < (m.fs.length : Int) := by omega
      obtain ⟨⟨hr0, hr1, _⟩, _, _⟩ := (frameE_iff m.fs[k]).1 (hall _ (List.getElem_mem hkl))
      have hg : m.fs.getD (k : Int).toNat fr0 = m.fs[k] := by simp [hkl]
      clear hall hk
      obtain ⟨b, off, rfl, hc⟩ := fr_at h1.rd k hkl
      by_cases hr : m.fs[k].r = 0
      · have q1 : holdE m k n = 5 := by unfold holdE; rw [if_neg (by omega), hg, if_pos (.inr (.inr hr))]
        have q3 : holdM m k n = noM := by unfold holdM; rw [if_neg (by omega)]
        have hrb : (m.fs[k].r == 0) = true := by simpa using hr
        have c8 := hc.c8
        clear hg hc
        go_wp2_with (refine wpList_stw rfl _ (.tmp 6) (.tmp 34) rfl (w.heap.size + 1) #[.slice none 0 0, .int .i64 0] rfl rfl _ _ hres1 rfl mem_size (mem_one _ _ _ _) ?_)
        all_goals
          intro w5 hr5 hgr
          have hbel5 := (hbel1).grown hgr (hbel1).size (fun k hk => by cases hk; omega)
          have hcr := hr5.cell
          go_wp2
          simp [bodyPost, results, go_sem, Try.results52, hcr, q1, q3, noM]
          exact ⟨Own.nil _ _ _ _, hbel5⟩
      · have hrb : (m.fs[k].r == 0) = false := by simpa using hr
        obtain ⟨c0, c1, c2, c3, c4, c5, c6, c7, c8, c9, ca, cb, cc⟩ := hc
        have hgb : (b : Nat) < w1.heap.size ∨ True := .inr trivial
        go_upto_region 7 with (fail)
        refine abs1 (fun W => Code.wp _ _ _ _ W) fun w2 hb2 hy2 hs2 => ?_
        have hbel2 := below_next hbel1 hb2
        have hbox2 := hbox1.ext hb2
        have hres2 := hres1.ext hb2
        have h2 := h1.below hb2
        have hgx : w.heap.size + 2 ≤ w1.heap.size := by have := hres1.lt; omega
        clear hcb hbox1 hres1 h1 hb2 hs2 c0 c1 c2 c3 c4 c5 c6 c7 c8 c9 ca cb cc hgb
        have hcy := hy2.cell
        by_cases hn : n < -m.fs[k].r ∨ 1000 - m.fs[k].r < n
        · have q1 : holdE m k n = 3 := by unfold holdE; rw [if_neg (by omega), hg, if_neg (by omega), if_pos hn]
          have q3 : holdM m k n = noM := by unfold holdM; rw [if_neg (by omega)]
          clear hg
          by_cases hn1 : n < -1000
          · clear hn
            go_wp2_with (refine wpList_stw rfl _ (.tmp 6) (.tmp 60) rfl (w.heap.size + 1) #[.slice none 0 0, .int .i64 0] rfl rfl _ _ hres2 rfl mem_size (mem_one _ _ _ _) ?_)
            all_goals
              intro w5 hr5 hgr
              have hbel5 := (hbel2).grown hgr (hbel2).size (fun k hk => by cases hk; omega)
              have hcr := hr5.cell
              go_wp2
              simp [bodyPost, results, go_sem, Try.results52, hcr, q1, q3, noM]
              exact ⟨Own.nil _ _ _ _, hbel5⟩
          · by_cases hn2 : 1000 < n
            · clear hn
              go_wp2_with (refine wpList_stw rfl _ (.tmp 6) (.tmp 60) rfl (w.heap.size + 1) #[.slice none 0 0, .int .i64 0] rfl rfl _ _ hres2 rfl mem_size (mem_one _ _ _ _) ?_)
              all_goals
                intro w5 hr5 hgr
                have hbel5 := (hbel2).grown hgr (hbel2).size (fun k hk => by cases hk; omega)
                have hcr := hr5.cell
                go_wp2
                simp [bodyPost, results, go_sem, Try.results52, hcr, q1, q3, noM]
                exact ⟨Own.nil _ _ _ _, hbel5⟩
            · rcases hn with hn | hn
              · have hn3 : m.fs[k].r + n < 0 := by omega
                clear hn
                go_wp2_with (refine wpList_stw rfl _ (.tmp 6) (.tmp 60) rfl (w.heap.size + 1) #[.slice none 0 0, .int .i64 0] rfl rfl _ _ hres2 rfl mem_size (mem_one _ _ _ _) ?_)
                all_goals
                  intro w5 hr5 hgr
                  have hbel5 := (hbel2).grown hgr (hbel2).size (fun k hk => by cases hk; omega)
                  have hcr := hr5.cell
                  go_wp2
                  simp [bodyPost, results, go_sem, Try.results52, hcr, q1, q3, noM]
                  exact ⟨Own.nil _ _ _ _, hbel5⟩
              · have hn3 : ¬ m.fs[k].r + n < 0 := by omega
                have hn4 : 1000 < m.fs[k].r + n := by omega
                clear hn
                go_wp2_with (refine wpList_stw rfl _ (.tmp 6) (.tmp 60) rfl (w.heap.size + 1) #[.slice none 0 0, .int .i64 0] rfl rfl _ _ hres2 rfl mem_size (mem_one _ _ _ _) ?_)
                all_goals
                  intro w5 hr5 hgr
                  have hbel5 := (hbel2).grown hgr (hbel2).size (fun k hk => by cases hk; omega)
                  have hcr := hr5.cell
                  go_wp2
                  simp [bodyPost, results, go_sem, Try.results52, hcr, q1, q3, noM]
                  exact ⟨Own.nil _ _ _ _, hbel5⟩
        · have q1 : holdE m k n = 0 := by unfold holdE; rw [if_neg (by omega), hg, if_neg (by omega), if_neg hn]
          have q3 : holdM m k n = ⟨m.fs.set k (heldF m.fs[k] n), m.hand⟩ := by unfold holdM; rw [if_pos q1, hg]; rfl
          have Q1 := Lib.hid q1
          have Q3 := Lib.hid q3
          have n1 : ¬ n < -1000 := by omega
          have n2 : ¬ 1000 < n := by omega
          have n3 : ¬ m.fs[k].r + n < 0 := by omega
          have n4 : ¬ 1000 < m.fs[k].r + n := by omega
          have hfy := hy2.free
          have hly := hy2.lt
          clear hg q1 q3 hn hr
          go_upto_region 10 with (fail)
          have hy3 := hy2.setCell 8 (.int .i64 (m.fs[k].r + n))
          have hbox3 := hbox2.setCell_other ⟨w1.heap.size, 8, none⟩ (.int .i64 (m.fs[k].r + n)) (by simp; omega)
          have hres3 := hres2.setCell_other ⟨w1.heap.size, 8, none⟩ (.int .i64 (m.fs[k].r + n)) (by simp; omega)
          have hbel3 : Below w.heap.size w (w2.setCell ⟨w1.heap.size, 8, none⟩ (.int .i64 (m.fs[k].r + n))) := hbel2.setCell (by simp; omega) _
          generalize w2.setCell ⟨w1.heap.size, 8, none⟩ (.int .i64 (m.fs[k].r + n)) = w3 at *
          have hy3' : Blk w3 w1.heap.size (frC { m.fs[k] with r := m.fs[k].r + n }) 72 := hy3
          clear hy2 hbox2 hres2 hbel2 h2 hcy hfy hy3 hly
          have hcy := hy3'.cell
          simp only [frC] at hcy
          by_cases hz : m.fs[k].r + n = 0
          · have hhf : Hid (heldF m.fs[k] n = frZ) := by unfold heldF; exact if_pos hz
            rw [hz] at hcy
            clear hz
            go_wp2_with (refine wpList_stw rfl _ (.tmp 9) (.tmp 69) rfl w1.heap.size (frC frZ) rfl rfl _ _ hy3' rfl frame_size (frC_one _) ?_)
            intro w4 hy4 hgr4
            have hbox4 := blk_keep hbox3 hy3' (by decide) hgr4
            have hres4 := blk_keep hres3 hy3' (by decide) hgr4
            have hbel4 : Below w.heap.size w w4 := hbel3.grown hgr4 hbel3.size (fun k hk => by cases hk; omega)
            clear hbox3 hres3 hbel3 hcy hy3' hgr4
            have hcy := hy4.cell
            have hcb := hbox4.cell
            simp only [frC, frZ] at hcy
            have hwi := mwith_any m k frZ _ c w4 (h.below hbel4) hkl hl40
            simp only [frC, frZ] at hwi
            go_wp2_with fail
            refine hwi.mono ?_
            rintro e w5 ⟨vb, rfl, ho5, hb5⟩
            have hbel5 := below_next hbel4 hb5
            have hres5 := hres4.ext hb5
            have hgw := hbel4.size
            have ho5' : Own w5 w4.heap.size 72 13 vb m.fs.length ((m.fs.set k frZ).flatMap frL) := ho5
            obtain ⟨a5, c5', rfl, _⟩ := ho5'.rd
            clear hcy hcb hwi hbox4 hres4 hy4 hb5 ho5
            go_wp2_with (refine wpList_stw rfl _ (.tmp 6) (.tmp 73) rfl (w.heap.size + 1) #[.slice a5 m.fs.length c5', .int .i64 m.hand] rfl rfl _ _ hres5 (mem_fit _ _ _ _ _ _ _ _) mem_size (mem_one _ _ _ _) ?_)
            intro w8 hr8 hgr8
            have hB8 := own_keep ho5' hres5 (by decide) hgr8
            have hbel8 := hbel5.grown hgr8 hbel5.size (fun k hk => by cases hk; omega)
            have hcr := hr8.cell
            go_wp2
            simp [bodyPost, results, go_sem, Try.results52, hcr, Q1.out, Q3.out, hhf.out]
            exact ⟨hB8.mono (by omega), hbel8⟩
          · have hhf : Hid (heldF m.fs[k] n = { m.fs[k] with r := m.fs[k].r + n }) := by unfold heldF; exact if_neg hz
            have hzb : (m.fs[k].r + n == 0) = false := by simpa using hz
            have hcb := hbox3.cell
            have hwi := mwith_any m k { m.fs[k] with r := m.fs[k].r + n } _ c w3 (h.below hbel3) hkl hl40
            simp only [frC] at hwi
            clear hz
            go_wp2_with fail
            refine hwi.mono ?_
            rintro e w5 ⟨vb, rfl, ho5, hb5⟩
            have hbel5 := below_next hbel3 hb5
            have hres5 := hres3.ext hb5
            have hgw := hbel3.size
            have ho5' : Own w5 w3.heap.size 72 13 vb m.fs.length ((m.fs.set k { m.fs[k] with r := m.fs[k].r + n }).flatMap frL) := ho5
            obtain ⟨a5, c5', rfl, _⟩ := ho5'.rd
            clear hcy hcb hwi hbox3 hres3 hy3' hb5 ho5
            go_wp2_with (refine wpList_stw rfl _ (.tmp 6) (.tmp 73) rfl (w.heap.size + 1) #[.slice a5 m.fs.length c5', .int .i64 m.hand] rfl rfl _ _ hres5 (mem_fit _ _ _ _ _ _ _ _) mem_size (mem_one _ _ _ _) ?_)
            intro w8 hr8 hgr8
            have hB8 := own_keep ho5' hres5 (by decide) hgr8
            have hbel8 := hbel5.grown hgr8 hbel5.size (fun k hk => by cases hk; omega)
            have hcr := hr8.cell
            go_wp2
            simp [bodyPost, results, go_sem, Try.results52, hcr, Q1.out, Q3.out, hhf.out]
            exact ⟨hB8.mono (by omega), hbel8⟩
  · have q1 : holdE m k n = wrongM m := by unfold holdE; rw [if_pos hw]
    have q3 : holdM m k n = noM := by unfold holdM; rw [if_neg (by omega)]
    have hn : (wrongM m != 0) = true := by simpa using hw
    go_wp2_with (refine wpList_stw rfl _ (.tmp 6) (.tmp 14) rfl (w.heap.size + 1) #[.slice none 0 0, .int .i64 0] rfl rfl _ _ hres1 rfl mem_size (mem_one _ _ _ _) ?_)
    all_goals
      intro w5 hr5 hgr
      have hbel5 := (hbel1).grown hgr (hbel1).size (fun k hk => by cases hk; omega)
      have hcr := hr5.cell
      go_wp2
      simp [bodyPost, results, go_sem, Try.results52, hcr, q1, q3, noM]
      exact ⟨Own.nil _ _ _ _, hbel5⟩
end Go.Proofs.Ytohbfjbcfibhcaa
