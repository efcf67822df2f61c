/- What package frames' Take does. -/
import Derived.Test.YtohbfjbcfibhcaaFrame5
namespace Go.Proofs.Ytohbfjbcfibhcaa
open Go.RowKit Pw
set_option linter.unusedSimpArgs false
set_option linter.unusedVariables false

def ffree (l : List Fr) : Option Nat := l.findIdx? (fun f => decide (f.r = 0))
theorem ffree_none {l : List Fr} (h : ∀ i (h : i < l.length), i < l.length → ¬ l[i].r = 0) : ffree l = none := by
  unfold ffree
  rw [List.findIdx?_eq_none_iff]
  intro x hx
  obtain ⟨i, hi, rfl⟩ := List.mem_iff_getElem.1 hx
  simpa using h i hi hi
theorem ffree_some {l : List Fr} {i : Nat} (hi : i < l.length) (h : l[i].r = 0) (hno : ∀ j (h : j < l.length), j < i → ¬ l[j].r = 0) : ffree l = some i := by
  unfold ffree
  rw [List.findIdx?_eq_some_iff_getElem]
  exact ⟨hi, by simpa using h, fun j hj => by simpa using hno j (by omega) hj⟩
def noM : Mem := ⟨[], 0⟩
def takenF (p : Page) (file index : Int) : Fr := ⟨p, 1, true, false, file, index⟩
def takeE (m : Mem) (p : Page) (file index : Int) : Int := if wrongM m ≠ 0 then wrongM m else if frameE (takenF p file index) ≠ 0 then frameE (takenF p file index) else if ffree m.fs = none then 10 else 0
def takeK (m : Mem) (p : Page) (file index : Int) : Nat := if takeE m p file index = 0 then (ffree m.fs).getD 0 else 0
def takeM (m : Mem) (p : Page) (file index : Int) : Mem := if takeE m p file index = 0 then ⟨m.fs.set (takeK m p file index) (takenF p file index), m.hand⟩ else noM
set_option maxHeartbeats 2000000 in
set_option maxRecDepth 100000 in
theorem mtake_any (m : Mem) (p : Page) (file index : Int) (a : Option Addr) (c : Nat) (w : World) (h : MRd w a c m) :
    Calls Try.prog 49 #[.agg #[.slice a m.fs.length c, .int .i64 m.hand], .agg (pgC p), .int .i64 file, .int .i64 index] w fun e w' => ∃ vb, e = .returned (.tuple #[.agg #[vb, .int .i64 (takeM m p file index).hand], .int .i64 (takeK m p file index), .int .i64 (takeE m p file index)]) ∧ Own w' w.heap.size 72 13 vb (takeM m p file index).fs.length ((takeM m p file index).fs.flatMap frL) ∧ Below w.heap.size w w' := by
  go_enter Try.func49, Try.ntmps49
  rw [pgC_lit]
  go_wp2_with fail
  refine abs3 (fun W => Calls _ _ _ W _) fun W0 hb0 hbox0 hpg0 hres0 hs0 => ?_
  refine (mwrong_any m a c _ (h.below hb0)).mono ?_
  rintro e w1 ⟨rfl, hb1⟩
  have hbel1 := below_next hb0 hb1
  have hbox1 := hbox0.ext hb1
  have hpg1 := hpg0.ext hb1
  have hres1 := hres0.ext hb1
  have h1 := h.below hbel1
  clear hbox0 hpg0 hres0 hb1 hb0 hs0
  by_cases hw : wrongM m = 0
  · rw [hw]
    have hl40 : m.fs.length ≤ 40 := by
      unfold wrongM at hw
      split at hw
      · cases hw
      · omega
    have hcp := hpg1.cell
    go_upto_region 5 with (fail)
    refine abs1 (fun W => Code.wp _ _ _ _ W) fun w2 hb2 hx2 hs2 => ?_
    have hbel2 := below_next hbel1 hb2
    have hbox2 := hbox1.ext hb2
    have hres2 := hres1.ext hb2
    have h2 := h1.below hb2
    have hgx : w.heap.size + 3 ≤ w1.heap.size := by have := hres1.lt; omega
    have hx2' : Blk w2 w1.heap.size (frC (takenF p file index)) 72 := hx2
    clear hcp hpg1 hbox1 hres1 h1 hb2 hs2
    have hf := frame_any (takenF p file index) w1.heap.size 0 _ (fr_blk hx2')
    by_cases hE : frameE (takenF p file index) = 0
    · rw [hE] at hf
      go_wp2_with fail
      refine hf.mono ?_
      rintro e w3 ⟨rfl, rfl⟩
      have hcb := hbox2.cell
      clear hf
      go_wp2_with fail
      refine (idxfr_any m.fs a c _ h2.rd (by omega)).mono ?_
      rintro e w4 ⟨hb4, hcase⟩
      have hbel4 := below_next hbel2 hb4
      have hbox4 := hbox2.ext hb4
      have hres4 := hres2.ext hb4
      have hx4 := hx2'.ext hb4
      have h4 := h2.below hb4
      clear hcb hbox2 hres2 hx2 hx2' h2 hb4
      rcases hcase with ⟨rfl, hall⟩ | ⟨i, hi, rfl, hr, hno⟩
      · have q1 : takeE m p file index = 10 := by unfold takeE; rw [if_neg (by omega), if_neg (by omega), if_pos (ffree_none hall)]
        have q2 : takeK m p file index = 0 := by unfold takeK; rw [if_neg (by omega)]
        have q3 : takeM m p file index = noM := by unfold takeM; rw [if_neg (by omega)]
        clear hall
        go_wp2_with (refine wpList_stw rfl _ (.tmp 8) (.tmp 36) rfl (w.heap.size + 2) #[.slice none 0 0, .int .i64 0] rfl rfl _ _ hres4 rfl mem_size (mem_one _ _ _ _) ?_)
        intro w5 hr5 hgr
        have hbel5 := hbel4.grown hgr hbel4.size (fun k hk => by cases hk; omega)
        have hcr := hr5.cell
        go_wp2
        simp [bodyPost, results, go_sem, Try.results49, hcr, q1, q2, q3, noM]
        exact ⟨Own.nil _ _ _ _, hbel5⟩
      · have hff := ffree_some hi hr hno
        have q1 : takeE m p file index = 0 := by unfold takeE; rw [if_neg (by omega), if_neg (by omega), if_neg (by rw [hff]; simp)]
        have q2 : takeK m p file index = i := by unfold takeK; rw [if_pos q1, hff]; rfl
        have q3 : takeM m p file index = ⟨m.fs.set i (takenF p file index), m.hand⟩ := by unfold takeM; rw [if_pos q1, q2]
        have Q3 := Lib.hid q3
        have Q2 := Lib.hid q2
        have Q1 := Lib.hid q1
        clear hno hr hff q1 q2 q3
        have hcb := hbox4.cell
        go_wp2_with fail
        refine (mown_any m a c _ h4 (by omega)).mono ?_
        rintro e w5 ⟨vb, rfl, ho, hb5⟩
        have hbel5 := below_next hbel4 hb5
        have hres5 := hres4.ext hb5
        have hx5 := hx4.ext hb5
        have hge4 := hbel4.size
        obtain ⟨xb, cb', rfl, _⟩ := mown_rd ho
        clear hcb hbox4 hres4 hx4 h4 hb5
        go_upto_region 12 with (fail)
        refine abs1 (fun W => Code.wp _ _ _ _ W) fun w6 hb6 hm6 hs6 => ?_
        have hbel6 := below_next hbel5 hb6
        have hres6 := hres5.ext hb6
        have hx6 := hx5.ext hb6
        have ho6 := ho.below hb6
        clear hres5 hx5 ho hb6 hs6
        obtain ⟨gb, offb, capb, curb, hvb, hBb, hgb, hfb, hcb, hsetb⟩ := ho6.put frL_len (by decide) i hi
        cases hvb
        have hcm := hm6.cell
        have hcx := hx6.cell
        unfold frC takenF at hcx
        simp only at hcx
        have hiz : (i : Int) < (m.fs.length : Int) := by omega
        clear hcb
        go_wp2_with (refine wpList_st rfl _ (.tmp 43) (.tmp 42) rfl gb (offb + i * 13) (frC (takenF p file index)) rfl rfl curb 72 hgb (by show _ + 13 ≤ _; omega) frame_size (frC_one _) ?_)
        intro w7 hq7 hgr7
        have hB7 := hsetb w7 (takenF p file index) hq7
        have hm7 := blk_keep hm6 hgb (by decide) hgr7
        have hres7 := blk_keep hres6 hgb (by decide) hgr7
        have hbel7 : Below w.heap.size w w7 := hbel6.grown hgr7 hbel6.size (fun k hk => by cases hk; omega)
        clear hq7 hsetb hgb hm6 hres6 ho6 hcm hcx hgr7 hbel6 hx6
        have hcm := hm7.cell
        go_wp2_with (refine wpList_stw rfl _ (.tmp 8) (.tmp 44) rfl (w.heap.size + 2) #[.slice (some ⟨gb, offb, none⟩) m.fs.length cb', .int .i64 m.hand] rfl rfl _ _ hres7 (mem_fit _ _ _ _ _ _ _ _) mem_size (mem_one _ _ _ _) ?_)
        intro w8 hr8 hgr8
        have hB8 := own_keep hB7 hres7 (by decide) hgr8
        have hbel8 := hbel7.grown hgr8 hbel7.size (fun k hk => by cases hk; omega)
        have hcr := hr8.cell
        clear hcm
        go_wp2
        simp [bodyPost, results, go_sem, Try.results49, hcr, Q1.out, Q2.out, Q3.out]
        exact ⟨by have := hB8.mono (show w.heap.size ≤ w4.heap.size from hge4); simpa using this, hbel8⟩
    · have q1 : takeE m p file index = frameE (takenF p file index) := by unfold takeE; rw [if_neg (by omega), if_pos hE]
      have q2 : takeK m p file index = 0 := by unfold takeK; rw [if_neg (by omega)]
      have q3 : takeM m p file index = noM := by unfold takeM; rw [if_neg (by omega)]
      have hn : (frameE (takenF p file index) != 0) = true := by simpa using hE
      go_wp2_with fail
      refine hf.mono ?_
      rintro e w3 ⟨rfl, rfl⟩
      clear hf
      go_wp2_with (refine wpList_stw rfl _ (.tmp 8) (.tmp 29) rfl (w.heap.size + 2) #[.slice none 0 0, .int .i64 0] rfl rfl _ _ hres2 rfl mem_size (mem_one _ _ _ _) ?_)
      intro w5 hr5 hgr
      have hbel5 := hbel2.grown hgr hbel2.size (fun k hk => by cases hk; omega)
      have hcr := hr5.cell
      go_wp2
      simp [bodyPost, results, go_sem, Try.results49, hcr, q1, q2, q3, noM]
      exact ⟨Own.nil _ _ _ _, hbel5⟩
  · have q1 : takeE m p file index = wrongM m := by unfold takeE; rw [if_pos hw]
    have q2 : takeK m p file index = 0 := by unfold takeK; rw [if_neg (by omega)]
    have q3 : takeM m p file index = noM := by unfold takeM; rw [if_neg (by omega)]
    have hn : (wrongM m != 0) = true := by simpa using hw
    go_wp2_with (refine wpList_stw rfl _ (.tmp 8) (.tmp 20) rfl (w.heap.size + 2) #[.slice none 0 0, .int .i64 0] rfl rfl _ _ hres1 rfl mem_size (mem_one _ _ _ _) ?_)
    intro w5 hr5 hgr
    have hbel5 := hbel1.grown hgr hbel1.size (fun k hk => by cases hk; omega)
    have hcr := hr5.cell
    go_wp2
    simp [bodyPost, results, go_sem, Try.results49, hcr, q1, q2, q3, noM]
    exact ⟨Own.nil _ _ _ _, hbel5⟩
end Go.Proofs.Ytohbfjbcfibhcaa
