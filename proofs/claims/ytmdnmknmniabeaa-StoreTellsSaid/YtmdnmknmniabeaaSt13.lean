/- The document's Create. -/
import Derived.Test.YtmdnmknmniabeaaSt11
import Derived.Test.YtmdnmknmniabeaaSt12
namespace Go.Proofs.Ytmdnmknmniabeaa
open Go.RowKit Go.Maps Pw
set_option linter.unusedSimpArgs false
set_option linter.unusedVariables false

theorem pf0_good (w : World) : pf0.good w := ⟨Nat.le_refl _, Nat.zero_le _, fun _ => rfl, fun j u h => by simp [pf0] at h⟩
set_option maxHeartbeats 4000000 in
set_option maxRecDepth 100000 in
theorem rcreate_any (ps : List PF) (k : Int) (a : Option Addr) (c : Nat) (w : World) (h : FsR w a c ps) (hk64 : -9223372036854775808 ≤ k ∧ k ≤ 9223372036854775807) :
    Calls Try.prog 34 #[.agg (stC a ps.length c k)] w fun r w' => ∃ a' c' k' ps', r = .returned (.tuple #[.agg (stC a' ps'.length c' k'), .int .i64 (createN (stOf ps k)), .int .i64 (createE (stOf ps k))]) ∧ FsR w' a' c' ps' ∧ stOf ps' k' = createS (stOf ps k) ∧ Below w.heap.size w w' := by
  have hlc := Nat.le_trans h.le h.mx
  unfold maxLen at hlc
  unfold stC
  go_enter Try.func34, Try.ntmps34
  go_upto_region 1 with (fail)
  refine abs2 (fun W => Code.wp _ _ _ _ W) fun W0 hb0 hx0 hr0 hs0 => ?_
  clear hs0
  go_wp2_with (refine wpList_ldg _ _ rfl _ 0 rfl rfl _ hx0.rd _ Try.underlying47 rfl store_size ?_)
  refine (rswrong_any ps k a c _ (h.below hb0) hk64).mono ?_
  rintro r w1 ⟨rfl, hb1⟩
  have hbel := below_next hb0 hb1
  have hx := hx0.ext hb1
  have hres := hr0.ext hb1
  clear hb0 hx0 hr0 hb1
  by_cases h0 : wrongSt (stOf ps k) = 0
  · have H0 := Lib.hid h0
    rw [h0]
    clear h0
    have hcx := hx.cell
    have hlp : ps.length ≤ 5 := by simpa [stOf] using (wrongSt_few H0.out).1
    by_cases h5 : ps.length = 5
    · have q0 : Hid _ := Lib.hid (create_err (s := stOf ps k) (e := 4) (by unfold createE; rw [if_neg (by rw [H0.out]; simp), if_pos (by simpa [stOf] using h5)]) (by decide))
      have h5' : (5 : Int) ≤ (ps.length : Int) := by omega
      clear h5
      go_wp2_with (refine wpList_stw rfl _ _ _ rfl (w.heap.size + 1) #[.slice none 0 0, .int .i64 0] rfl rfl _ _ hres rfl store_size (sl_in none 0 0 0) ?_)
      all_goals
        intro w5 hr5 hgr5
        have hbel5 : Below w.heap.size w w5 := hbel.grown hgr5 hbel.size (fun k hk => by cases hk; omega)
        go_wp2
        refine bodyPost_ret (v := .tuple #[.agg #[.slice none 0 0, .int .i64 0], .int .i64 0, .int .i64 (4)]) (results_ctt Try.results34 _ _ (w.heap.size + 1) _ _ _ _ _ rfl rfl rfl hr5 Try.underlying47 rfl store_size) rfl ?_
        have q := q0.out
        exact ⟨_, _, _, [], by rw [q.1, q.2.1]; rfl, ⟨Nat.le_refl _, Nat.zero_le _, fun _ => rfl, fun j u h => by simp at h, fun p h => by simp at h⟩, by rw [q.2.2]; rfl, hbel5⟩
    · have h5' : ¬ (5 : Int) ≤ (ps.length : Int) := by omega
      have hE : Hid (createE (stOf ps k) = 0) := Lib.hid (by unfold createE; rw [if_neg (by rw [H0.out]; simp), if_neg (by simpa [stOf] using h5)])
      clear h5
      go_upto_region 6 with (fail)
      have hgs : w.heap.size + 2 ≤ w1.heap.size := by have := hres.lt; omega
      refine wp_growY 14 [ofR 0 ((emptyR w.heap.size 61 2)), ofR 1 (isV (.pointer (some ⟨w.heap.size, 0, none⟩))), ofR 2 (isV (.slice a ps.length c)), ofR 3 ((filsR w.heap.size ps.length (ps.flatMap pfL))), ofR 4 (isV (.agg (pfC pf0))), ofR 5 ((onfR (pfC pf0))), (ofR 6 (ownR w.heap.size 61 2 (ps.length + 1) (ps.flatMap pfL ++ pfL pf0))), ofR 7 (isV (.pointer (some ⟨w.heap.size, 1, none⟩))), ofR 8 (isV (.int .i64 k)), (bldY k), ofR 10 (isV (.pointer (some ⟨w.heap.size, 0, none⟩))), ofR 11 (isV (.slice a ps.length c)), ofR 12 (isV (.int .i64 ps.length)), (stoY (w.heap.size + 1) k)] (crB w (.slice a ps.length c) k) (crB_next) (⟨hbel, hx, _, hres, rfl⟩) (by kernel_rfl) _ rfl (by kernel_rfl) (by kernel_rfl) (by decide) (by kernel_rfl) _ rfl (by kernel_rfl) (all_cons ?_ (all_cons ?_ (all_cons ?_ (all_cons ?_ (all_cons ?_ (all_cons ?_ (all_cons ?_ (all_cons ?_ (all_cons ?_ (all_cons ?_ (all_cons ?_ (all_cons ?_ (all_cons ?_ (all_cons ?_ (all_nil))))))))))))))) ?_
      · intro ρ y W hw hn hb hd
        refine askY (crB_next) hb ((emptyR w.heap.size 61 2)) (fun _ _ h => h) ?_
        refine asked_new (.slice (some ⟨W.heap.size, 0, none⟩) 0 0) (want_free rfl) (by simp [execOp, go_sem, stripO]) ((Below.refl _ _).alloc (Nat.le_refl _) (.cells #[] 61)) ?_
        exact ⟨_, rfl, Own.empty _ _ hb.1.size⟩
      · intro ρ y W hw hn hb hd
        refine askY (crB_next) hb (isV (.pointer (some ⟨w.heap.size, 0, none⟩))) (fun _ _ h => h) ?_
        have E1 : ρ (.tmp 1) = .pointer (some ⟨w.heap.size, 0, none⟩) := (hn (.tmp 1) rfl).trans rfl
        refine asked_val (.pointer (some ⟨w.heap.size, 0, none⟩)) (want_free rfl) (by simp [execOp, go_sem, stripO, E1]) rfl
      · intro ρ y W hw hn hb hd
        refine askY (crB_next) hb (isV (.slice a ps.length c)) (fun _ _ h => h) ?_
        have E18 := hw 18 1 rfl
        have h1 : y 1 = .pointer (some ⟨w.heap.size, 0, none⟩) := hd 1 rfl
        refine asked_val (.slice a ps.length c) (want_free rfl) (by simp [execOp, go_sem, stripO, E18, h1, hb.2.1.cell, Try.underlying45]) rfl
      · intro ρ y W hw hn hb hd
        refine askY (crB_next) hb ((filsR w.heap.size ps.length (ps.flatMap pfL))) (fun _ _ h => h) ?_
        have E17 := hw 17 0 rfl
        have h0 := hd 0 rfl
        have E19 := hw 19 2 rfl
        have h2 : y 2 = .slice a ps.length c := hd 2 rfl
        obtain ⟨g0, e0, ho0⟩ := h0
        rw [e0] at E17
        refine asked_app0 (.tmp 17) (.tmp 19) 45 rfl (want_free rfl) w.heap.size 61 _ 2 32 Try.underlying45 file_info rfl (by decide) g0 E17 ho0 a ps.length c (ps.flatMap pfL) (E19.trans h2) h.nl h.le (files_len ps) (h.rd.below hb.1) (by unfold maxLen; omega) (by omega) hb.1.size (fun v w2 hb2 hov h9 => ?_)
        show rl (List.replicate 4 (filsR w.heap.size ps.length (ps.flatMap pfL))) 3 v w2
        exact filsR.of hov h9
      · intro ρ y W hw hn hb hd
        refine askY (crB_next) hb (isV (.agg (pfC pf0))) (fun _ _ h => h) ?_
        refine asked_val (.agg (pfC pf0)) (want_free rfl) (by simp [execOp, go_sem, stripO, pfC, pf0]) rfl
      · intro ρ y W hw hn hb hd
        refine askY (crB_next) hb ((onfR (pfC pf0))) (fun _ _ h => h) ?_
        have E21 := hw 21 4 rfl
        have h4 : y 4 = .agg (pfC pf0) := hd 4 rfl
        refine asked_new (.slice (some ⟨W.heap.size, 0, none⟩) 1 1) (want_free rfl) (by simp [execOp, go_sem, stripO, E21, h4, pfC]) ((Below.refl _ _).alloc (Nat.le_refl _) (.cells (pfC pf0) 61)) ?_
        exact ⟨_, rfl, Blk.new _ _ _⟩
      · intro ρ y W hw hn hb hd
        have E20 := hw 20 3 rfl
        have h3 := hd 3 rfl
        have E22 := hw 22 5 rfl
        have h5 := hd 5 rfl
        obtain ⟨g3, off3, cap3, cur3, e3, hg3, hb3, hc3, hm3, hs3, hz3, hl3, ht3⟩ := h3
        obtain ⟨g5, e5, hb5⟩ := h5
        refine askY_app2 (.tmp 20) (.tmp 22) 45 rfl (want_free rfl) w.heap.size 61 _ 2 32 Try.underlying45 file_info rfl (by decide) g3 off3 cap3 ps.length cur3 (ps.flatMap pfL) (E20.trans e3) hl3 hg3 hb3 hc3 hm3 hs3 ht3 ⟨g5, 0, none⟩ 1 1 (pfL pf0) (E22.trans e5) rfl hb5.rd (pfL_one _) (by unfold maxLen; omega) (by omega) hb.1.size ?_
        intro v9 w9 ho9 hcase
        rcases hcase with hgr | ⟨hroom, rfl⟩
        · exact stepY_grow crB_next hb (grown_below hgr) (by show Own _ _ _ _ (upd y 6 v9 6) _ _; rw [upd_self]; exact ho9)
        have hgr := grownBy_setCells W g3 (off3 + ps.length * 2) (pfL pf0)
        have hk9 := hb3.setCells (pfL pf0) (off3 + ps.length * 2)
        have hz9 := hz3 (by omega)
        refine ⟨⟨hb.1.grown hgr hb.1.size (fun k hk => by cases hk; exact hg3), blk_keep hb.2.1 hb3 (by decide) hgr, hb.2.2.elim fun cR hR => ⟨cR, blk_keep hR.1 hb3 (by decide) hgr, hR.2⟩⟩, (by show Own _ _ _ _ (upd y 6 v9 6) _ _; rw [upd_self]; exact ho9), ?_⟩
        intro k hk hne
        match k, hk, hne with
        | 0, _, _ => exact fun ⟨g, q1, q2⟩ => ⟨g, q1, empty_keep q2 hb3 hgr hk9⟩
        | 1, _, _ => exact fun h => h
        | 2, _, _ => exact fun h => h
        | 3, _, _ => exact fun _ => ⟨g3, off3, cap3, _, e3, hg3, hk9, hc3, hm3, by rw [size_putAt]; exact hs3, fun _ => by rw [size_putAt]; exact hz9, hl3, fun j u hj => by rw [putAt_out _ _ _ _ (.inl (by have := (List.getElem?_eq_some_iff.1 hj).1; omega))]; exact ht3 j u hj⟩
        | 4, _, _ => exact fun h => h
        | 5, _, _ => exact onf_keep rfl hb3 hz9 hgr
        | 6, _, h => exact absurd rfl h
        | 7, _, _ => exact fun h => h
        | 8, _, _ => exact fun h => h
        | 9, _, _ => exact fun h => h
        | 10, _, _ => exact fun h => h
        | 11, _, _ => exact fun h => h
        | 12, _, _ => exact fun h => h
        | 13, _, _ => exact fun q => blk_keep q hb3 (by decide) hgr
        | n + 14, h, _ => exact absurd h (by omega)
      · intro ρ y W hw hn hb hd
        refine askY (crB_next) hb (isV (.pointer (some ⟨w.heap.size, 1, none⟩))) (fun _ _ h => h) ?_
        have E1 : ρ (.tmp 1) = .pointer (some ⟨w.heap.size, 0, none⟩) := (hn (.tmp 1) rfl).trans rfl
        refine asked_val (.pointer (some ⟨w.heap.size, 1, none⟩)) (want_free rfl) (by simp [execOp, go_sem, stripO, E1]) rfl
      · intro ρ y W hw hn hb hd
        refine askY (crB_next) hb (isV (.int .i64 k)) (fun _ _ h => h) ?_
        have E24 := hw 24 7 rfl
        have h7 : y 7 = .pointer (some ⟨w.heap.size, 1, none⟩) := hd 7 rfl
        refine asked_val (.int .i64 k) (want_free rfl) (by simp [execOp, go_sem, stripO, E24, h7, hb.2.1.cell]) rfl
      · intro ρ y W hw hn hb hd
        have E23 := hw 23 6 rfl
        have h6 := hd 6 rfl
        have E25 := hw 25 8 rfl
        have h8 : y 8 = .int .i64 k := hd 8 rfl
        obtain ⟨a6, c6, e6, _⟩ := Own.rd (show Own _ _ _ _ (y 6) _ _ from h6)
        refine askY_val (.agg #[.slice a6 (ps.length + 1) c6, .int .i64 k]) (want_free rfl) (by simp [execOp, go_sem, stripO, E23, E25, h8, e6]) (stepY_grow crB_next hb (Below.refl _ _) ?_)
        show Value.agg _ = .agg #[y 6, _]
        rw [e6]
      · intro ρ y W hw hn hb hd
        refine askY (crB_next) hb (isV (.pointer (some ⟨w.heap.size, 0, none⟩))) (fun _ _ h => h) ?_
        have E1 : ρ (.tmp 1) = .pointer (some ⟨w.heap.size, 0, none⟩) := (hn (.tmp 1) rfl).trans rfl
        refine asked_val (.pointer (some ⟨w.heap.size, 0, none⟩)) (want_free rfl) (by simp [execOp, go_sem, stripO, E1]) rfl
      · intro ρ y W hw hn hb hd
        refine askY (crB_next) hb (isV (.slice a ps.length c)) (fun _ _ h => h) ?_
        have E27 := hw 27 10 rfl
        have h10 : y 10 = .pointer (some ⟨w.heap.size, 0, none⟩) := hd 10 rfl
        refine asked_val (.slice a ps.length c) (want_free rfl) (by simp [execOp, go_sem, stripO, E27, h10, hb.2.1.cell, Try.underlying45]) rfl
      · intro ρ y W hw hn hb hd
        refine askY (crB_next) hb (isV (.int .i64 ps.length)) (fun _ _ h => h) ?_
        have E28 := hw 28 11 rfl
        have h11 : y 11 = .slice a ps.length c := hd 11 rfl
        refine asked_val (.int .i64 ps.length) (want_free rfl) (run_lenS rfl (E28.trans h11) Try.underlying45) rfl
      · intro ρ y W hw hn hb hd
        have E2 : ρ (.tmp 2) = .pointer (some ⟨w.heap.size + 1, 0, none⟩) := (hn (.tmp 2) rfl).trans rfl
        have E26 := hw 26 9 rfl
        have h9 := hd 9 rfl
        have h6 := hd 6 rfl
        obtain ⟨curR, hbR, hszR⟩ := hb.2.2
        obtain ⟨a6, c6, e6, _⟩ := Own.rd (show Own _ _ _ _ (y 6) _ _ from h6)
        refine askY_store (want_free rfl) _ _ _ rfl (w.heap.size + 1) 0 (.agg #[y 6, .int .i64 k]) [y 6, .int .i64 k] E2 (E26.trans h9) rfl curR _ hbR (by rw [hszR]; exact Nat.le_refl _) store_size (by rw [e6]; simp [Value.oneCell']) ?_
        intro w9 hw9 hgr
        rw [show putAt curR 0 [y 6, .int .i64 k] = #[y 6, .int .i64 k] from putAt_whole curR #[y 6, .int .i64 k] hszR.symm] at hw9
        refine ⟨⟨hb.1.grown hgr hb.1.size (fun k hk => by cases hk; omega), hb.2.1.grown hgr (fun e => by have := Option.some.inj e; omega), _, hw9, rfl⟩, hw9, ?_⟩
        intro k hk hne
        match k, hk, hne with
        | 0, _, _ => exact fun ⟨g, q1, q2⟩ => ⟨g, q1, own_keep q2 hbR (by decide) hgr⟩
        | 1, _, _ => exact fun h => h
        | 2, _, _ => exact fun h => h
        | 3, _, _ => exact fun ⟨g, off, cap, cur, q1, q2, q3, q4⟩ => ⟨g, off, cap, cur, q1, q2, blk_keep q3 hbR (by decide) hgr, q4⟩
        | 4, _, _ => exact fun h => h
        | 5, _, _ => exact fun ⟨g, q1, q2⟩ => ⟨g, q1, blk_keep q2 hbR (by decide) hgr⟩
        | 6, _, _ => exact fun q => own_keep q hbR (by decide) hgr
        | 7, _, _ => exact fun h => h
        | 8, _, _ => exact fun h => h
        | 9, _, _ => exact fun h => h
        | 10, _, _ => exact fun h => h
        | 11, _, _ => exact fun h => h
        | 12, _, _ => exact fun h => h
        | 13, _, h => exact absurd rfl h
        | n + 14, h, _ => exact absurd h (by omega)
      intro y WB hbWB hRWB
      have hy1 : y 1 = .pointer (some ⟨w.heap.size, 0, none⟩) := hRWB 1 (by decide)
      have hy2 : y 2 = .slice a ps.length c := hRWB 2 (by decide)
      have hy4 : y 4 = .agg (pfC pf0) := hRWB 4 (by decide)
      have hy7 : y 7 = .pointer (some ⟨w.heap.size, 1, none⟩) := hRWB 7 (by decide)
      have hy8 : y 8 = .int .i64 k := hRWB 8 (by decide)
      have hy10 : y 10 = .pointer (some ⟨w.heap.size, 0, none⟩) := hRWB 10 (by decide)
      have hy11 : y 11 = .slice a ps.length c := hRWB 11 (by decide)
      have hy12 : y 12 = .int .i64 ps.length := hRWB 12 (by decide)
      have hy0 : ((emptyR w.heap.size 61 2)).r (y 0) WB := hRWB 0 (by decide)
      have hy3 : ((filsR w.heap.size ps.length (ps.flatMap pfL))).r (y 3) WB := hRWB 3 (by decide)
      have hy5 : ((onfR (pfC pf0))).r (y 5) WB := hRWB 5 (by decide)
      have hy6 := hRWB 6 (by decide)
      have hy9 := hRWB 9 (by decide)
      have hy13 := hRWB 13 (by decide)
      clear hRWB
      simp only [lay, strip, stripO, List.map_cons, List.map_nil, Nat.reduceAdd, Nat.reduceLT, decide_true, decide_false, if_true, Bool.false_eq_true, if_false, List.setIfInBounds_toArray, List.set_cons_zero, List.set_cons_succ, List.drop_succ_cons, List.drop_zero, List.drop_nil, hy1, hy2, hy4, hy7, hy8, hy10, hy11, hy12]
      clear hy1 hy2 hy4 hy7 hy8 hy10 hy11 hy12
      have hb6 : Own WB w.heap.size 61 2 (y 6) (ps.length + 1) (ps.flatMap pfL ++ pfL pf0) := hy6
      have hb13 : Blk WB (w.heap.size + 1) #[y 6, .int .i64 k] 47 := hy13
      have hbelB : Below w.heap.size w WB := hbWB.1
      have hfl : (ps ++ [pf0]).flatMap pfL = ps.flatMap pfL ++ pfL pf0 := by simp
      rw [← hfl] at hb6
      obtain ⟨a6, c6, e6, hle6, hmx6, hnl6, hrd6⟩ := Own.rd hb6
      rw [e6] at hb13
      clear hy0 hy3 hy5 hy6 hy9 hy13 hbel hx hres hcx hbWB hb6 e6 hfl
      go_wp2
      refine bodyPost_ret (v := .tuple #[.agg #[.slice a6 (ps.length + 1) c6, .int .i64 k], .int .i64 ps.length, .int .i64 0]) (results_ctt Try.results34 _ _ (w.heap.size + 1) _ _ _ _ _ rfl rfl rfl hb13 Try.underlying47 rfl store_size) rfl ?_
      have e1 : createN (stOf ps k) = ps.length := by unfold createN; rw [if_pos hE.out]; simp [stOf]
      have e2 : stOf (ps ++ [pf0]) k = createS (stOf ps k) := by unfold createS; rw [if_pos hE.out]; simp [stOf, pf0, PF.fi]
      have e3 : (ps ++ [pf0]).length = ps.length + 1 := by simp
      refine ⟨a6, c6, k, ps ++ [pf0], by rw [e1, hE.out, e3], ⟨by rw [e3]; exact hle6, hmx6, hnl6, hrd6, fun p hp => ?_⟩, e2, hbelB⟩
      rcases List.mem_append.1 hp with hp | hp
      · exact (h.good p hp).below hbelB
      · rw [List.mem_singleton.1 hp]
        exact pf0_good _
  · have q0 : Hid _ := Lib.hid (create_err (s := stOf ps k) (e := wrongSt (stOf ps k)) (by unfold createE; rw [if_pos h0]) h0)
    have h0' : (wrongSt (stOf ps k) != 0) = true := by simpa using h0
    clear h0
    go_wp2_with (refine wpList_stw rfl _ _ _ rfl (w.heap.size + 1) #[.slice none 0 0, .int .i64 0] rfl rfl _ _ hres rfl store_size (sl_in none 0 0 0) ?_)
    all_goals
      intro w5 hr5 hgr5
      have hbel5 : Below w.heap.size w w5 := hbel.grown hgr5 hbel.size (fun k hk => by cases hk; omega)
      go_wp2
      refine bodyPost_ret (v := .tuple #[.agg #[.slice none 0 0, .int .i64 0], .int .i64 0, .int .i64 (wrongSt (stOf ps k))]) (results_ctt Try.results34 _ _ (w.heap.size + 1) _ _ _ _ _ rfl rfl rfl hr5 Try.underlying47 rfl store_size) rfl ?_
      have q := q0.out
      exact ⟨_, _, _, [], by rw [q.1, q.2.1]; rfl, ⟨Nat.le_refl _, Nat.zero_le _, fun _ => rfl, fun j u h => by simp at h, fun p h => by simp at h⟩, by rw [q.2.2]; rfl, hbel5⟩
end Go.Proofs.Ytmdnmknmniabeaa
