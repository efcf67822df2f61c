/- What the document's TakeFrame and HoldFrame do. -/
import Derived.Test.YtohbfjbcfibhcaaFrame14
namespace Go.Proofs.Ytohbfjbcfibhcaa
open Go.RowKit Pw
set_option linter.unusedSimpArgs false
set_option linter.unusedVariables false

set_option maxHeartbeats 2000000 in
set_option maxRecDepth 100000 in
theorem rmtake_any (m : Mem) (p : Page) (file index : Int) (a : Option Addr) (c : Nat) (w : World) (h : MRd w a c m) :
    Calls Try.prog 50 #[.agg #[.slice a m.fs.length c, .int .i64 m.hand], .agg (pgC p), .int .i64 file, .int .i64 index] w fun e w' => ∃ vb, e = .returned (.tuple #[.agg #[vb, .int .i64 (takeM m p file index).hand], .int .i64 (takeK m p file index), .int .i64 (takeE m p file index)]) ∧ Own w' w.heap.size 72 13 vb (takeM m p file index).fs.length ((takeM m p file index).fs.flatMap frL) ∧ Below w.heap.size w w' := by
  go_enter Try.func50, Try.ntmps50
  rw [pgC_lit]
  go_wp2_with fail
  refine abs3 (fun W => Calls _ _ _ W _) fun W0 hb0 hbox0 hpg0 hres0 hs0 => ?_
  refine (rmwrong_any m a c _ (h.below hb0)).mono ?_
  rintro e w1 ⟨rfl, hb1⟩
  have hbel1 := below_next hb0 hb1
  have hbox1 := hbox0.ext hb1
  have hpg1 := hpg0.ext hb1
  have hres1 := hres0.ext hb1
  have h1 := h.below hbel1
  clear hbox0 hpg0 hres0 hb1 hb0 hs0
  by_cases hw : wrongM m = 0
  · rw [hw]
    have hl40 : m.fs.length ≤ 40 := ((wrongM_iff m).1 hw).1
    have hcp := hpg1.cell
    go_upto_region 5 with (fail)
    refine abs1 (fun W => Code.wp _ _ _ _ W) fun w2 hb2 hx2 hs2 => ?_
    have hbel2 := below_next hbel1 hb2
    have hbox2 := hbox1.ext hb2
    have hres2 := hres1.ext hb2
    have h2 := h1.below hb2
    have hgx : w.heap.size + 3 ≤ w1.heap.size := by have := hres1.lt; omega
    clear hcp hpg1 hbox1 hres1 h1 hb2 hs2
    have hcx := hx2.cell
    have hf := rframe_any (takenF p file index) w2
    simp only [frC, takenF] at hf
    by_cases hE : frameE (takenF p file index) = 0
    · have hE' : frameE ⟨p, 1, true, false, file, index⟩ = 0 := hE
      rw [hE'] at hf
      clear hE'
      go_wp2_with fail
      refine hf.mono ?_
      rintro e w3 ⟨rfl, hb3⟩
      have hbel3 := below_next hbel2 hb3
      have hbox3 := hbox2.ext hb3
      have hres3 := hres2.ext hb3
      have hx3 := hx2.ext hb3
      clear hf hcx hbox2 hres2 h2 hb3 hx2
      have hcb := hbox3.cell
      go_wp2
      clear hcb
      go_loopw [35] (fun i wr => ∃ k : Nat, k ≤ m.fs.length ∧ i = .int .i64 k ∧ Below w.heap.size w wr ∧ Blk wr w.heap.size #[.slice a m.fs.length c, .int .i64 m.hand] 64 ∧ Blk wr (w.heap.size + 2) #[.slice none 0 0, .int .i64 0] 64 ∧ Blk wr w1.heap.size (frC (takenF p file index)) 72 ∧ ∀ i (h : i < m.fs.length), i < k → ¬ m.fs[i].r = 0) (fun i _ => m.fs.length - (intOf i).toNat)
      case atStart => exact ⟨0, Nat.zero_le _, rfl, hbel3, hbox3, hres3, hx3, fun i _ h => absurd h (Nat.not_lt_zero _)⟩
      case round =>
        clear hbel3 hbox3 hres3 hx3
        obtain ⟨k, hk, rfl, hbel, hbox, hres, hx, hno⟩ := hrel
        have hno' := Lib.hid hno
        clear hno
        by_cases hlt : k < m.fs.length
        · obtain ⟨b, off, rfl, hc⟩ := fr_at (h.below hbel).rd k hlt
          obtain ⟨c0, c1, c2, c3, c4, c5, c6, c7, c8, c9, ca, cb, cc⟩ := hc
          by_cases hr : m.fs[k].r = 0
          · have hff := ffree_some hlt hr hno'.out
            have q1 : takeE m p file index = 0 := by unfold takeE; rw [if_neg (by omega), if_neg (by omega), if_neg (by rw [hff]; simp)]
            have q2 : takeK m p file index = k := by unfold takeK; rw [if_pos q1, hff]; rfl
            have q3 : takeM m p file index = ⟨m.fs.set k (takenF p file index), m.hand⟩ := by unfold takeM; rw [if_pos q1, q2]
            have Q3 := Lib.hid q3
            have Q2 := Lib.hid q2
            have Q1 := Lib.hid q1
            have hrb : (m.fs[k].r == 0) = true := by simpa using hr
            clear hr hff q1 q2 q3
            go_upto_region 11 with (fail)
            refine abs1 (fun W => Code.wp _ _ _ _ W) fun w4 hb4 hy4 hs4 => ?_
            have hbel4 := below_next hbel hb4
            have hbox4 := hbox.ext hb4
            have hres4 := hres.ext hb4
            have hx4 := hx.ext hb4
            clear hbel hbox hres hx hb4 hs4 c0 c1 c2 c3 c4 c5 c6 c7 c8 c9 ca cb cc
            have hcy := hy4.cell
            have hcb := hbox4.cell
            have hcx := hx4.cell
            simp only [frC, takenF] at hcx
            have hwi := mwith_any m k (takenF p file index) _ c w4 (h.below hbel4) hlt hl40
            simp only [frC, takenF] at hwi
            go_wp2_with fail
            refine hwi.mono ?_
            rintro e w5 ⟨vb, rfl, ho5, hb5⟩
            have hbel5 := below_next hbel4 hb5
            have hres5 := hres4.ext hb5
            have hgw := hbel4.size
            have ho5' : Own w5 w4.heap.size 72 13 vb m.fs.length ((m.fs.set k (takenF p file index)).flatMap frL) := ho5
            obtain ⟨a5, c5', rfl, _⟩ := ho5'.rd
            clear hcy hcb hcx hwi hbox4 hres4 hx4 hy4 hb5 ho5
            go_wp2_with (refine wpList_stw rfl _ (.tmp 8) (.tmp 46) rfl (w.heap.size + 2) #[.slice a5 m.fs.length c5', .int .i64 m.hand] rfl rfl _ _ hres5 (mem_fit _ _ _ _ _ _ _ _) mem_size (mem_one _ _ _ _) ?_)
            intro w8 hr8 hgr8
            have hB8 := own_keep ho5' hres5 (by decide) hgr8
            have hbel8 := hbel5.grown hgr8 hbel5.size (fun k hk => by cases hk; omega)
            have hcr := hr8.cell
            go_wp2
            simp [bodyPost, results, go_sem, Try.results50, hcr, Q1.out, Q2.out, Q3.out]
            exact ⟨hB8.mono (by omega), hbel8⟩
          · have hrb : (m.fs[k].r == 0) = false := by simpa using hr
            have hr' := Lib.hid hr
            clear hr
            go_wp2
            go_roundw
            case rel => exact ⟨k + 1, by omega, by go_num, hbel.alloc hbel.size _, hbox.alloc _, hres.alloc _, hx.alloc _, upto' hno'.out hlt hr'.out⟩
            case measure => simp [intOf]; omega
        · have hall : ∀ i (h : i < m.fs.length), i < m.fs.length → ¬ m.fs[i].r = 0 := fun i h _ => hno'.out i h (by omega)
          have q1 : takeE m p file index = 10 := by unfold takeE; rw [if_neg (by omega), if_neg (by omega), if_pos (ffree_none hall)]
          have q2 : takeK m p file index = 0 := by unfold takeK; rw [if_neg (by omega)]
          have q3 : takeM m p file index = noM := by unfold takeM; rw [if_neg (by omega)]
          clear hall
          go_wp2_with (refine wpList_stw rfl _ (.tmp 8) (.tmp 49) rfl (w.heap.size + 2) #[.slice none 0 0, .int .i64 0] rfl rfl _ _ hres rfl mem_size (mem_one _ _ _ _) ?_)
          all_goals
            intro w5 hr5 hgr
            have hbel5 := (hbel).grown hgr (hbel).size (fun k hk => by cases hk; omega)
            have hcr := hr5.cell
            go_wp2
            simp [bodyPost, results, go_sem, Try.results50, hcr, q1, q2, q3, noM]
            exact ⟨Own.nil _ _ _ _, hbel5⟩
    · have q1 : takeE m p file index = frameE (takenF p file index) := by unfold takeE; rw [if_neg (by omega), if_pos hE]
      have q2 : takeK m p file index = 0 := by unfold takeK; rw [if_neg (by omega)]
      have q3 : takeM m p file index = noM := by unfold takeM; rw [if_neg (by omega)]
      have hn : (frameE ⟨p, 1, true, false, file, index⟩ != 0) = true := by simpa using (show ¬ frameE ⟨p, 1, true, false, file, index⟩ = 0 from hE)
      go_wp2_with fail
      refine hf.mono ?_
      rintro e w3 ⟨rfl, hb3⟩
      have hbel3 := below_next hbel2 hb3
      have hres3 := hres2.ext hb3
      clear hf hcx hx2
      rw [show takenF p file index = ⟨p, 1, true, false, file, index⟩ from rfl] at q1
      go_wp2_with (refine wpList_stw rfl _ (.tmp 8) (.tmp 30) rfl (w.heap.size + 2) #[.slice none 0 0, .int .i64 0] rfl rfl _ _ hres3 rfl mem_size (mem_one _ _ _ _) ?_)
      all_goals
        intro w5 hr5 hgr
        have hbel5 := (hbel3).grown hgr (hbel3).size (fun k hk => by cases hk; omega)
        have hcr := hr5.cell
        go_wp2
        simp [bodyPost, results, go_sem, Try.results50, hcr, q1, q2, q3, noM]
        exact ⟨Own.nil _ _ _ _, hbel5⟩
  · have q1 : takeE m p file index = wrongM m := by unfold takeE; rw [if_pos hw]
    have q2 : takeK m p file index = 0 := by unfold takeK; rw [if_neg (by omega)]
    have q3 : takeM m p file index = noM := by unfold takeM; rw [if_neg (by omega)]
    have hn : (wrongM m != 0) = true := by simpa using hw
    go_wp2_with (refine wpList_stw rfl _ (.tmp 8) (.tmp 20) rfl (w.heap.size + 2) #[.slice none 0 0, .int .i64 0] rfl rfl _ _ hres1 rfl mem_size (mem_one _ _ _ _) ?_)
    all_goals
      intro w5 hr5 hgr
      have hbel5 := (hbel1).grown hgr (hbel1).size (fun k hk => by cases hk; omega)
      have hcr := hr5.cell
      go_wp2
      simp [bodyPost, results, go_sem, Try.results50, hcr, q1, q2, q3, noM]
      exact ⟨Own.nil _ _ _ _, hbel5⟩
end Go.Proofs.Ytohbfjbcfibhcaa
