/- What package frames' Next does. -/
import Derived.Test.YtohbfjbcfibhcaaFrame8
namespace Go.Proofs.Ytohbfjbcfibhcaa
open Go.RowKit Pw
set_option linter.unusedSimpArgs false
set_option linter.unusedVariables false

set_option maxHeartbeats 2000000 in
set_option maxRecDepth 100000 in
theorem mnext_any (m : Mem) (a : Option Addr) (c : Nat) (w : World) (h : MRd w a c m) :
    Calls Try.prog 53 #[.agg #[.slice a m.fs.length c, .int .i64 m.hand]] w fun e w' => ∃ vb, e = .returned (.tuple #[.agg #[vb, .int .i64 (nextM m).hand], .int .i64 (nextK m), .int .i64 (wrongM m)]) ∧ Own w' w.heap.size 72 13 vb (nextM m).fs.length ((nextM m).fs.flatMap frL) ∧ Below w.heap.size w w' := by
  go_enter Try.func53, Try.ntmps53
  go_wp2_with fail
  refine abs2 (fun W => Calls _ _ _ W _) fun W0 hb0 hbox0 hres0 hs0 => ?_
  refine (mwrong_any m a c _ (h.below hb0)).mono ?_
  rintro e w1 ⟨rfl, hb1⟩
  have hbel1 := below_next hb0 hb1
  have hbox1 := hbox0.ext hb1
  have hres1 := hres0.ext hb1
  have h1 := h.below hbel1
  clear hbox0 hres0 hb1 hb0 hs0
  have hcb := hbox1.cell
  by_cases hw : wrongM m = 0
  · obtain ⟨hl40, hall, hh0, hh1⟩ := (wrongM_iff m).1 hw
    rw [hw]
    go_wp2_with fail
    refine (mown_any m _ c _ h1 (by omega)).mono ?_
    rintro e w2 ⟨vb, rfl, ho, hb2⟩
    have hbel2 := below_next hbel1 hb2
    have hbox2 := hbox1.ext hb2
    have hres2 := hres1.ext hb2
    have h2 := h1.below hb2
    have hge1 := hbel1.size
    have hgx : w.heap.size + 2 ≤ w1.heap.size := by have := hres1.lt; omega
    have hgy : w.heap.size + 2 ≤ w2.heap.size := by have := hb2.size; omega
    obtain ⟨xb, cb', rfl, _⟩ := mown_rd ho
    clear hcb hbox1 hres1 h1 hb2
    go_upto_region 5 with (fail)
    refine abs1 (fun W => Code.wp _ _ _ _ W) fun w3 hb3 hm3 hs3 => ?_
    have hbel3 := below_next hbel2 hb3
    have hbox3 := hbox2.ext hb3
    have hres3 := hres2.ext hb3
    have h3 := h2.below hb3
    have ho3 := ho.below hb3
    clear hbox2 hres2 h2 ho hb3 hs3
    by_cases hf : freeN m.fs = m.fs.length
    · have q2 : nextM m = m := by unfold nextM; rw [if_neg (by omega), if_pos hf]
      have q3 : nextK m = -1 := by unfold nextK; rw [if_neg (by omega), if_pos hf]
      have hfb : ((freeN m.fs : Int) == (m.fs.length : Int)) = true := by simp [hf]
      have Q := Lib.hid (And.intro q2 q3)
      clear q2 q3 hf hall
      refine wp_grow 6 [isV (.agg #[.slice a m.fs.length c, .int .i64 m.hand]), isV (.int .i64 (freeN m.fs)), isV (.pointer (some ⟨w.heap.size, 0, none⟩)), isV (.slice a m.fs.length c), isV (.int .i64 (m.fs.length : Int)), isV (.bool true)] (by kernel_rfl) (by kernel_rfl) (by kernel_rfl) (by decide) _ rfl (by kernel_rfl) (all_cons ?_ (all_cons ?_ (all_cons ?_ (all_cons ?_ (all_cons ?_ (all_cons ?_ (all_nil))))))) ?_
      · intro ρ y W hw hn hb hd
        have E1 : ρ (.tmp 1) = .pointer (some ⟨w.heap.size, 0, none⟩) := (hn (.tmp 1) rfl).trans rfl
        refine asked_val (.agg #[.slice a m.fs.length c, .int .i64 m.hand]) (want_free rfl) (by simp [execOp, go_sem, E1, (hbox3.ext hb).cell]) rfl
      · intro ρ y W hw hn hb hd
        have E17 := hw 17 0 rfl
        have h0 : y 0 = .agg #[.slice a m.fs.length c, .int .i64 m.hand] := hd 0 rfl
        have EF : ∀ f, ρ (.func f) = .func (.func f) #[] #[] := fun f => hn (.func f) trivial
        refine asked_call _ _ (want_free rfl) (run_call rfl (EF _) Try.func48 (by kernel_rfl) (by kernel_rfl) (by simp only [List.map_toArray, List.map_cons, List.map_nil, E17, h0, EF]; rfl)) ?_
        refine (mfree_any m a c W (h3.below hb)).mono ?_
        rintro e w1 ⟨rfl, hb1⟩
        exact ⟨_, rfl, hb1, rfl⟩
      · intro ρ y W hw hn hb hd
        have E1 : ρ (.tmp 1) = .pointer (some ⟨w.heap.size, 0, none⟩) := (hn (.tmp 1) rfl).trans rfl
        refine asked_val (.pointer (some ⟨w.heap.size, 0, none⟩)) (want_free rfl) (by simp [execOp, go_sem, E1]) rfl
      · intro ρ y W hw hn hb hd
        have E19 := hw 19 2 rfl
        have h2 : y 2 = .pointer (some ⟨w.heap.size, 0, none⟩) := hd 2 rfl
        refine asked_val (.slice a m.fs.length c) (want_free rfl) (by simp [execOp, go_sem, E19, h2, (hbox3.ext hb).cell, Try.underlying62]) rfl
      · intro ρ y W hw hn hb hd
        have E20 := hw 20 3 rfl
        have h3 : y 3 = .slice a m.fs.length c := hd 3 rfl
        refine asked_val (.int .i64 (m.fs.length : Int)) (want_free rfl) (run_lenS rfl (E20.trans h3) Try.underlying62) rfl
      · intro ρ y W hw hn hb hd
        have E18 := hw 18 1 rfl
        have h1 : y 1 = .int .i64 (freeN m.fs) := hd 1 rfl
        have E21 := hw 21 4 rfl
        have h4 : y 4 = .int .i64 (m.fs.length : Int) := hd 4 rfl
        refine asked_val (.bool true) (want_free rfl) (run_bin rfl (E18.trans h1) (E21.trans h4) (by simp [go_sem, hfb])) rfl
      intro y WA hbWA hRWA
      have hy0 : y 0 = .agg #[.slice a m.fs.length c, .int .i64 m.hand] := hRWA 0 (by decide)
      have hy1 : y 1 = .int .i64 (freeN m.fs) := hRWA 1 (by decide)
      have hy2 : y 2 = .pointer (some ⟨w.heap.size, 0, none⟩) := hRWA 2 (by decide)
      have hy3 : y 3 = .slice a m.fs.length c := hRWA 3 (by decide)
      have hy4 : y 4 = .int .i64 (m.fs.length : Int) := hRWA 4 (by decide)
      have hy5 : y 5 = .bool true := hRWA 5 (by decide)
      clear hRWA
      simp only [lay, Nat.reduceAdd, Nat.reduceLT, decide_true, decide_false, if_true, Bool.false_eq_true, if_false, List.setIfInBounds_toArray, List.set_cons_zero, List.set_cons_succ, List.drop_succ_cons, List.drop_zero, List.drop_nil, hy0, hy1, hy2, hy3, hy4, hy5]
      clear hy0 hy1 hy2 hy3 hy4 hy5
      have hbelA := below_next hbel3 hbWA
      have hresA := hres3.ext hbWA
      have hmA := hm3.ext hbWA
      have hoA := ho3.below hbWA
      clear hbox3 hres3 hm3 ho3 h3 hbWA
      have hcm := hmA.cell
      go_wp2_with (refine wpList_stw rfl _ (.tmp 2) (.tmp 23) rfl (w.heap.size + 1) #[.slice xb m.fs.length cb', .int .i64 m.hand] rfl rfl _ _ hresA (mem_fit _ _ _ _ _ _ _ _) mem_size (mem_one _ _ _ _) ?_)
      intro w8 hr8 hgr8
      have hB8 := own_keep hoA hresA (by decide) hgr8
      have hbel8 := hbelA.grown hgr8 hbelA.size (fun k hk => by cases hk; omega)
      have hcr := hr8.cell
      clear hcm
      go_wp2
      simp [bodyPost, results, go_sem, Try.results53, hcr, Q.out.1, Q.out.2]
      first
        | exact ⟨hB8.mono hge1, hbel8⟩
        | exact ⟨_, ⟨rfl, rfl⟩, hB8.mono hge1, hbel8⟩
        | exact ⟨_, ⟨rfl, hw.symm⟩, hB8.mono hge1, hbel8⟩
    · obtain ⟨hS1, hS2, hS3⟩ := next_s m hw hf
      have q2 : nextM m = ⟨clrM m (nextS m), (idxM m (nextS m + 1) : Nat)⟩ := by unfold nextM; rw [if_neg (by omega), if_neg hf]
      have q3 : nextK m = (idxM m (nextS m) : Nat) := by unfold nextK; rw [if_neg (by omega), if_neg hf]
      have hfb : ((freeN m.fs : Int) == (m.fs.length : Int)) = false := by simpa using (by omega : ¬ (freeN m.fs : Int) = m.fs.length)
      have hpos : 0 < m.fs.length := by
        rcases Nat.eq_zero_or_pos m.fs.length with h0 | h0
        · exact absurd (by have := freeN_le m.fs; omega) hf
        · exact h0
      have Q := Lib.hid (And.intro q2 (And.intro q3 (And.intro hS1 (And.intro hS2 hS3))))
      clear q2 q3 hf hall hS1 hS2 hS3
      refine wp_grow 6 [isV (.agg #[.slice a m.fs.length c, .int .i64 m.hand]), isV (.int .i64 (freeN m.fs)), isV (.pointer (some ⟨w.heap.size, 0, none⟩)), isV (.slice a m.fs.length c), isV (.int .i64 (m.fs.length : Int)), isV (.bool false)] (by kernel_rfl) (by kernel_rfl) (by kernel_rfl) (by decide) _ rfl (by kernel_rfl) (all_cons ?_ (all_cons ?_ (all_cons ?_ (all_cons ?_ (all_cons ?_ (all_cons ?_ (all_nil))))))) ?_
      · intro ρ y W hw hn hb hd
        have E1 : ρ (.tmp 1) = .pointer (some ⟨w.heap.size, 0, none⟩) := (hn (.tmp 1) rfl).trans rfl
        refine asked_val (.agg #[.slice a m.fs.length c, .int .i64 m.hand]) (want_free rfl) (by simp [execOp, go_sem, E1, (hbox3.ext hb).cell]) rfl
      · intro ρ y W hw hn hb hd
        have E17 := hw 17 0 rfl
        have h0 : y 0 = .agg #[.slice a m.fs.length c, .int .i64 m.hand] := hd 0 rfl
        have EF : ∀ f, ρ (.func f) = .func (.func f) #[] #[] := fun f => hn (.func f) trivial
        refine asked_call _ _ (want_free rfl) (run_call rfl (EF _) Try.func48 (by kernel_rfl) (by kernel_rfl) (by simp only [List.map_toArray, List.map_cons, List.map_nil, E17, h0, EF]; rfl)) ?_
        refine (mfree_any m a c W (h3.below hb)).mono ?_
        rintro e w1 ⟨rfl, hb1⟩
        exact ⟨_, rfl, hb1, rfl⟩
      · intro ρ y W hw hn hb hd
        have E1 : ρ (.tmp 1) = .pointer (some ⟨w.heap.size, 0, none⟩) := (hn (.tmp 1) rfl).trans rfl
        refine asked_val (.pointer (some ⟨w.heap.size, 0, none⟩)) (want_free rfl) (by simp [execOp, go_sem, E1]) rfl
      · intro ρ y W hw hn hb hd
        have E19 := hw 19 2 rfl
        have h2 : y 2 = .pointer (some ⟨w.heap.size, 0, none⟩) := hd 2 rfl
        refine asked_val (.slice a m.fs.length c) (want_free rfl) (by simp [execOp, go_sem, E19, h2, (hbox3.ext hb).cell, Try.underlying62]) rfl
      · intro ρ y W hw hn hb hd
        have E20 := hw 20 3 rfl
        have h3 : y 3 = .slice a m.fs.length c := hd 3 rfl
        refine asked_val (.int .i64 (m.fs.length : Int)) (want_free rfl) (run_lenS rfl (E20.trans h3) Try.underlying62) rfl
      · intro ρ y W hw hn hb hd
        have E18 := hw 18 1 rfl
        have h1 : y 1 = .int .i64 (freeN m.fs) := hd 1 rfl
        have E21 := hw 21 4 rfl
        have h4 : y 4 = .int .i64 (m.fs.length : Int) := hd 4 rfl
        refine asked_val (.bool false) (want_free rfl) (run_bin rfl (E18.trans h1) (E21.trans h4) (by simp [go_sem, hfb])) rfl
      intro y WA hbWA hRWA
      have hy0 : y 0 = .agg #[.slice a m.fs.length c, .int .i64 m.hand] := hRWA 0 (by decide)
      have hy1 : y 1 = .int .i64 (freeN m.fs) := hRWA 1 (by decide)
      have hy2 : y 2 = .pointer (some ⟨w.heap.size, 0, none⟩) := hRWA 2 (by decide)
      have hy3 : y 3 = .slice a m.fs.length c := hRWA 3 (by decide)
      have hy4 : y 4 = .int .i64 (m.fs.length : Int) := hRWA 4 (by decide)
      have hy5 : y 5 = .bool false := hRWA 5 (by decide)
      clear hRWA
      simp only [lay, Nat.reduceAdd, Nat.reduceLT, decide_true, decide_false, if_true, Bool.false_eq_true, if_false, List.setIfInBounds_toArray, List.set_cons_zero, List.set_cons_succ, List.drop_succ_cons, List.drop_zero, List.drop_nil, hy0, hy1, hy2, hy3, hy4, hy5]
      clear hy0 hy1 hy2 hy3 hy4 hy5
      have hbelA := below_next hbel3 hbWA
      have hresA := hres3.ext hbWA
      have hmA := hm3.ext hbWA
      have hoA := ho3.below hbWA
      clear hbox3 hres3 hm3 ho3 h3 hbWA
      have hst : Hid (m.hand = (idxM m 0 : Nat)) := by
        show m.hand = (idxM m 0 : Nat)
        unfold idxM
        rw [Nat.add_zero, Nat.mod_eq_of_lt (by omega)]
        omega
      rw [hst.out] at hmA
      clear hst
      go_wp2
      go_loopg [7] (2 * m.fs.length) (fun gg s7 wr => ∃ s : Nat, Hid (s ≤ nextS m) ∧ 2 * m.fs.length - s ≤ gg ∧ Below w.heap.size w wr ∧ Blk wr w2.heap.size #[.slice xb m.fs.length cb', .int .i64 (idxM m s)] 64 ∧ Blk wr (w.heap.size + 1) #[.slice none 0 0, .int .i64 0] 64 ∧ Own wr w.heap.size 72 13 (.slice xb m.fs.length cb') m.fs.length ((clrM m s).flatMap frL))
      case atStart => exact ⟨0, Lib.hid (Nat.zero_le _), by omega, hbelA, hmA, hresA, by rw [clr_zero]; exact hoA.mono hge1⟩
      case round =>
        clear hbelA hmA hresA hoA
        obtain ⟨s, hs, hgg, hbel, hm, hres, ho⟩ := hrel
        obtain ⟨k, hk⟩ : ∃ k, k = idxM m s := ⟨_, rfl⟩
        have hkl : k < m.fs.length := by rw [hk]; exact idx_lt hpos s
        have hnx : ((k : Int) + 1) % (m.fs.length : Int) = (idxM m (s + 1) : Nat) := by
          have h1 : idxM m (s + 1) = (k + 1) % m.fs.length := by
            rw [hk]
            unfold idxM
            rw [Nat.mod_add_mod, Nat.add_assoc]
          rw [h1, show (k : Int) + 1 = ((k + 1 : Nat) : Int) from by simp, ← Int.natCast_emod]
        have hlk : k < (clrM m s).length := by rw [clr_len]; exact hkl
        have hstop : stopM m s = (decide (0 < ((clrM m s)[k]'hlk).r) && !((clrM m s)[k]'hlk).u) := by subst hk; exact stop_eq m s hpos
        have hsucc : Hid ((clrM m s).set k (unused ((clrM m s)[k]'hlk)) = clrM m (s + 1)) := by subst hk; exact clr_succ m s hpos
        rw [← hk] at hm
        have hk' := Lib.hid hk
        clear hk
        have hcm := hm.cell
        have hfm := hm.free
        have hl0 : ((m.fs.length : Int) == 0) = false := beq_eq_false_iff_ne.2 (by omega)
        have hl1 : ¬ (m.fs.length : Int) = 0 := by omega
        have hlm := hm.lt
        have hst' := Lib.hid hstop
        clear hstop
        go_upto_region 9 with (fail)
        have hm5 := hm.setCell 1 (.int .i64 (idxM m (s + 1) : Nat))
        have hres5 := hres.setCell_other ⟨w2.heap.size, 1, none⟩ (.int .i64 (idxM m (s + 1) : Nat)) (by simp; omega)
        have ho5 := own_set ho hm (by decide) 1 (.int .i64 (idxM m (s + 1) : Nat))
        have hbel5 : Below w.heap.size w (wr.setCell ⟨w2.heap.size, 1, none⟩ (.int .i64 (idxM m (s + 1) : Nat))) := hbel.setCell (by simp; omega) _
        generalize wr.setCell ⟨w2.heap.size, 1, none⟩ (.int .i64 (idxM m (s + 1) : Nat)) = w5 at *
        have hm5' : Blk w5 w2.heap.size #[.slice xb m.fs.length cb', .int .i64 (idxM m (s + 1) : Nat)] 64 := hm5
        clear hm hcm hfm hres ho hbel hm5 hlm hnx hl0 hl1
        have hcm := hm5'.cell
        obtain ⟨g, off, cap, hv, hBg, hgl, ⟨csg, hgb⟩, hcc, hfz, hset⟩ := own_cell frL_len (by decide) (clr_len m s) ho5 k hkl 9 (by decide) (.bool false) (unused ((clrM m s)[k]'hlk)) rfl
        cases hv
        generalize hF : (clrM m s)[k]'hlk = F at *
        have c8 := hcc 8 (.int .i64 F.r) rfl
        have c9 := hcc 9 (.bool F.u) rfl
        have hkz : (k : Int) < (m.fs.length : Int) := by omega
        clear hcc hF
        have hgm : w2.heap.size ≠ g := by
          intro e; subst e
          unfold Blk at hm5' hgb
          rw [hm5'] at hgb
          cases hgb
        have hgw : g ≠ w.heap.size + 1 := by
          intro e; subst e
          unfold Blk at hres5 hgb
          rw [hres5] at hgb
          cases hgb
        by_cases hr : 0 < F.r
        · cases hu : F.u with
          | true =>
            rw [hu] at c9
            have hnot : Hid (s + 1 ≤ nextS m) := by
              have h1 := hst'.out
              rw [hu] at h1
              have h2 : s ≠ nextS m := by
                intro e
                rw [e, Q.out.2.2.2.1] at h1
                simp at h1
              have := hs.out
              show s + 1 ≤ nextS m
              omega
            clear hu
            go_wp2
            go_roundg (2 * m.fs.length - (s + 1))
            case measure => have := hnot.out; have := Q.out.2.2.1; omega
            case rel => exact ⟨s + 1, hnot, Nat.le_refl _, hbel5.setCell (by simp; omega) _, hm5'.setCell_other _ _ (by simpa using hgm), hres5.setCell_other _ _ (by simp; omega), by rw [← hsucc.out]; exact hset⟩
          | false =>
            rw [hu] at c9
            have hS : Hid (s = nextS m) := by
              have h1 := hst'.out
              rw [hu] at h1
              have h2 : stopM m s = true := by rw [h1]; simp [hr]
              have := hs.out
              rcases Nat.lt_or_ge s (nextS m) with h | h
              · rw [Q.out.2.2.2.2 s h] at h2; cases h2
              · show s = nextS m; omega
            clear hu hset hsucc
            go_wp2_with (refine wpList_stw rfl _ (.tmp 2) (.tmp 50) rfl (w.heap.size + 1) #[.slice (some ⟨g, off, none⟩) m.fs.length cb', .int .i64 (idxM m (s + 1) : Nat)] rfl rfl _ _ hres5 (mem_fit _ _ _ _ _ _ _ _) mem_size (mem_one _ _ _ _) ?_)
            intro w8 hr8 hgr8
            have hB8 := own_keep ho5 hres5 (by decide) hgr8
            have hbel8 := hbel5.grown hgr8 hbel5.size (fun k hk => by cases hk; omega)
            have hcr := hr8.cell
            clear hcm
            go_wp2
            have hS' := hS.out
            rw [← hS'] at Q
            simp [bodyPost, results, go_sem, Try.results53, hcr, Q.out.1, Q.out.2.1, hw, hk'.out]
            exact ⟨by rw [clr_len]; exact hB8, hbel8⟩
        · have hnot : Hid (s + 1 ≤ nextS m) := by
            have h1 := hst'.out
            have h2 : s ≠ nextS m := by
              intro e
              rw [e, Q.out.2.2.2.1] at h1
              simp [hr] at h1
            have := hs.out
            show s + 1 ≤ nextS m
            omega
          go_wp2
          go_roundg (2 * m.fs.length - (s + 1))
          case measure => have := hnot.out; have := Q.out.2.2.1; omega
          case rel => exact ⟨s + 1, hnot, Nat.le_refl _, hbel5.setCell (by simp; omega) _, hm5'.setCell_other _ _ (by simpa using hgm), hres5.setCell_other _ _ (by simp; omega), by rw [← hsucc.out]; exact hset⟩
  · have q2 : nextM m = noM := by unfold nextM; rw [if_pos hw]
    have q3 : nextK m = 0 := by unfold nextK; rw [if_pos hw]
    have hn : (wrongM m != 0) = true := by simpa using hw
    go_wp2_with (refine wpList_stw rfl _ (.tmp 2) (.tmp 13) rfl (w.heap.size + 1) #[.slice none 0 0, .int .i64 0] rfl rfl _ _ hres1 rfl mem_size (mem_one _ _ _ _) ?_)
    intro w5 hr5 hgr
    have hbel5 := hbel1.grown hgr hbel1.size (fun k hk => by cases hk; omega)
    have hcr := hr5.cell
    go_wp2
    simp [bodyPost, results, go_sem, Try.results53, hcr, q2, q3, noM]
    exact ⟨Own.nil _ _ _ _, hbel5⟩
end Go.Proofs.Ytohbfjbcfibhcaa
