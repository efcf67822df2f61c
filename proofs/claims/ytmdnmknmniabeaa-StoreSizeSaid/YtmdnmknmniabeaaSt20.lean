/- The law StoreBlock, walked. -/
import Derived.Test.YtmdnmknmniabeaaSt5
import Derived.Test.YtmdnmknmniabeaaSt16
import Derived.Test.YtmdnmknmniabeaaSt19
namespace Go.Proofs.Ytmdnmknmniabeaa
open Go.RowKit Go.Maps Pw
set_option linter.unusedSimpArgs false
set_option linter.unusedVariables false

/-- An operation whose guard's own operation was left out is left out. -/
theorem want_undef {ρ : Operand → Value} {ops : Array Oper} {o : Oper} (g d : Nat) (want : Bool) (hg : o.guard = some (g, want)) (hd : (ops[g]?).bind (·.dst) = some d) (hv : ρ (.tmp d) = undef) : Region.wanted o (says ρ ops) = false := by
  simp only [Region.wanted, hg, says, hd, hv, undef]
  rfl
set_option maxHeartbeats 4000000 in
set_option maxRecDepth 100000 in
theorem store_block (ps : List PF) (k file index : Int) (a : Option Addr) (c : Nat) (w : World) (h : FsR w a c ps) (hk64 : -9223372036854775808 ≤ k ∧ k ≤ 9223372036854775807) :
    Calls Try.prog 7 #[.agg (stC a ps.length c k), .int .i64 file, .int .i64 index] w fun r w' => r = .returned (.bool true) ∧ Below w.heap.size w w' := by
  have hlc := Nat.le_trans h.le h.mx
  unfold maxLen at hlc
  unfold stC
  go_enter Try.func7, Try.ntmps7
  go_upto_region 1 with (fail)
  refine abs1 (fun W => Code.wp _ _ _ _ W) fun W0 hb0 hx0 hs0 => ?_
  clear hs0
  go_wp2_with fail
  refine (salive_any _).mono ?_
  rintro r w1 ⟨rfl, hb1⟩
  have hbel1 := below_next hb0 hb1
  have hx1 := hx0.ext hb1
  clear hb0 hx0 hb1
  go_wp2_with (refine wpList_ldg _ _ rfl _ 0 rfl rfl _ hx1.rd _ Try.underlying47 rfl store_size ?_)
  refine (sblock_any ps k file index a c _ (h.below hbel1) hk64).mono ?_
  rintro r w2 ⟨v2, qs, k2, rfl, hO2, hst0, hb2⟩
  have hst := Lib.hid hst0
  obtain ⟨a2, c2, rfl, hR2⟩ := hO2.rd
  have hbel2 := below_next hbel1 hb2
  have hx2 := hx1.ext hb2
  clear hst0 hbel1 hx1 hb2 hO2
  go_wp2_with (refine wpList_stn rfl _ _ _ rfl #[.slice a2 qs.length c2, .int .i64 k2] rfl rfl rfl store_size (sl_in _ _ _ _) ?_)
  intro w3 hb3 ho3
  have hbel3 := below_next hbel2 hb3
  have hx3 := hx2.ext hb3
  have hR3 := hR2.below hb3
  clear hbel2 hx2 hb3 hR2
  by_cases h0 : blockE (stOf ps k) file index = 0
  · have H0 := Lib.hid h0
    have haft := Lib.hid (block_after h0)
    rw [h0]
    clear h0
    go_wp2_with (refine wpList_ldg _ _ rfl _ 0 rfl rfl _ ho3.rd _ Try.underlying47 rfl store_size ?_)
    have hw2 : Hid (wrongSt (stOf qs k2) = 0) := Lib.hid (by rw [hst.out]; exact haft.out.1)
    have hk2 : 0 ≤ k2 ∧ k2 ≤ 80 := (wrongSt_few hw2.out).2
    refine (sblock_any qs k2 file index a2 c2 _ hR3 (by omega)).mono ?_
    rintro r w4 ⟨v4, rs, k4, rfl, hO4, hst4, hb4⟩
    rw [hst.out, haft.out.2.1, haft.out.2.2.1]
    have hst4' : Hid (stOf rs k4 = blockS (stOf ps k) file index) := Lib.hid (by rw [hst4, hst.out, haft.out.2.2.2.1])
    obtain ⟨a4, c4, rfl, hR4⟩ := hO4.rd
    have hbel4 := below_next hbel3 hb4
    have hx4 := hx3.ext hb4
    have ho4 := ho3.ext hb4
    have hS4 := hR3.below hb4
    clear hst4 hO4 hbel3 hx3 ho3 hR3 hb4
    go_wp2_with (refine wpList_stn rfl _ _ _ rfl #[.slice a4 rs.length c4, .int .i64 k4] rfl rfl rfl store_size (sl_in _ _ _ _) ?_)
    intro w5 hb5 hp5
    have hbel5 := below_next hbel4 hb5
    have hx5 := hx4.ext hb5
    have ho5 := ho4.ext hb5
    have hS5 := hS4.below hb5
    have hR5 := hR4.below hb5
    clear hbel4 hx4 ho4 hS4 hR4 hb5
    go_wp2_with (refine wpList_ldg _ _ rfl _ 0 rfl rfl _ ho5.rd _ Try.underlying47 rfl store_size ?_)
    refine (swrong_any qs k2 a2 c2 _ hS5 (by omega)).mono ?_
    rintro r w6 ⟨rfl, hb6⟩
    rw [hw2.out]
    have hbel6 := below_next hbel5 hb6
    have hx6 := hx5.ext hb6
    have ho6 := ho5.ext hb6
    have hp6 := hp5.ext hb6
    have hS6 := hS5.below hb6
    have hR6 := hR5.below hb6
    clear hbel5 hx5 ho5 hp5 hS5 hR5 hb6
    go_wp2_with (first | (refine wpList_ldg _ _ rfl _ 0 rfl rfl _ ho6.rd _ Try.underlying47 rfl store_size ?_) | (refine wpList_ldg _ _ rfl _ 0 rfl rfl _ hp6.rd _ Try.underlying47 rfl store_size ?_))
    refine (ssame_any qs rs k2 k4 a2 a4 c2 c4 _ hS6 hR6).mono ?_
    rintro r w7 ⟨rfl, hb7⟩
    rw [hst.out, hst4'.out, show sameSt (blockS (stOf ps k) file index) (blockS (stOf ps k) file index) = true from decide_eq_true rfl]
    have hbel7 := below_next hbel6 hb7
    have hx7 := hx6.ext hb7
    have ho7 := ho6.ext hb7
    have hS7 := hS6.below hb7
    clear hbel6 hx6 ho6 hp6 hS6 hR6 hb7
    obtain ⟨hw, F, I, f, v, rfl, rfl, hf, hv, hfa, hba, hc⟩ := block_parts H0.out
    have hF : F < ps.length := by have := (List.getElem?_eq_some_iff.1 hf).1; simpa [stOf] using this
    obtain ⟨b, off, p, rfl, hp, c0, c1⟩ := pf_at (h.below hbel7).rd F hF
    have hpf : p.fi = f := by
      have : (stOf ps k).fs[F]? = some p.fi := by simp [stOf, hp]
      rw [this] at hf
      exact Option.some.inj hf
    have hI : I < p.l.length := by
      have := (List.getElem?_eq_some_iff.1 hv).1
      rw [← hpf] at this
      exact this
    have hvl : p.l[I] = v := by
      have h1 := hv
      rw [← hpf] at h1
      have h2 : p.l[I]? = some v := h1
      rw [List.getElem?_eq_getElem hI] at h2
      exact Option.some.inj h2
    obtain ⟨b9, off9, hpa, hc9⟩ := elem_at ((h.good p (List.mem_of_getElem? hp)).rd.below hbel7) I hI
    rw [hpa] at c1
    rw [hvl] at hc9
    have hFi : (F : Int) < (ps.length : Int) := by omega
    have hIi : (I : Int) < (p.l.length : Int) := by omega
    have hcx := hx7.cell
    have hlast := Lib.hid haft.out.2.2.2.2
    have hbah := Lib.hid hba
    clear hf hv hfa hba hc hpf hvl hpa hp
    go_upto_region 10 with (fail)
    have hk1 := (wrongSt_few hw).2
    have hp1 : (pblks ps).length ≤ 1000 := by have := right_blks hw; omega
    have hq1 : (pblks qs).length ≤ 1000 := by have := right_blks hw2.out; omega
    clear c0 c1 hc9 hcx hFi hIi hw
    by_cases hneg : v < 0
    · have hfresh : Hid (usedSt (stOf ps k) (blockN (stOf ps k) F I) = false ∧ leftSt (blockS (stOf ps k) F I) = leftSt (stOf ps k) - 1) := Lib.hid (by
        rcases hlast.out with ⟨h1, _⟩ | ⟨_, h1⟩
        · rw [hbah.out] at h1; omega
        · exact h1)
      have hwrap : IntKind.i64.wrap (leftSt (stOf ps k) - 1) = leftSt (stOf ps k) - 1 := IntWalk.i64_in _ (by
        have h1 := cntB_le (blks (stOf ps k))
        rw [blks_of] at h1
        have h2 : leftSt (stOf ps k) = k - cntB (pblks ps) := by unfold leftSt; rw [blks_of]; rfl
        have h3 : 0 ≤ k ∧ k ≤ 80 := hk1
        omega)
      simp only [decide_eq_true hneg]
      refine wp_grow 24 [isV (.bool true), isV (.bool true), isV (.agg #[.slice (some ⟨b, off, none⟩) ps.length c, .int .i64 k]), isV (.int .i64 (blockN (stOf ps k) F I)), isV (.bool false), isV (.bool true), isV (.bool true), isV (.bool true), isV (.agg #[.slice a2 qs.length c2, .int .i64 k2]), isV (.int .i64 (leftSt (stOf ps k) - 1)), isV (.agg #[.slice (some ⟨b, off, none⟩) ps.length c, .int .i64 k]), isV (.int .i64 (leftSt (stOf ps k))), isV (.int .i64 (leftSt (stOf ps k) - 1)), isV (.bool true), isV (.bool true), isV (.bool true), isV (undef), isV (undef), isV (undef), isV (undef), isV (undef), isV (undef), isV (undef), isV (.bool true)] (by kernel_rfl) (by kernel_rfl) (by kernel_rfl) (by decide) _ rfl (by kernel_rfl) (all_cons ?_ (all_cons ?_ (all_cons ?_ (all_cons ?_ (all_cons ?_ (all_cons ?_ (all_cons ?_ (all_cons ?_ (all_cons ?_ (all_cons ?_ (all_cons ?_ (all_cons ?_ (all_cons ?_ (all_cons ?_ (all_cons ?_ (all_cons ?_ (all_cons ?_ (all_cons ?_ (all_cons ?_ (all_cons ?_ (all_cons ?_ (all_cons ?_ (all_cons ?_ (all_cons ?_ (all_nil))))))))))))))))))))))))) ?_
      · intro ρ y W hw hn hb hd
        have E13 : ρ (.tmp 13) = .bool true := (hn (.tmp 13) rfl).trans rfl
        refine asked_val (.bool true) (want_free rfl) (run_move (.inl rfl) E13) rfl
      · intro ρ y W hw hn hb hd
        have E74 := hw 74 0 rfl
        have h0 : y 0 = .bool true := hd 0 rfl
        refine asked_val (.bool true) (want_free rfl) (run_move (.inl rfl) (E74.trans h0)) rfl
      · intro ρ y W hw hn hb hd
        have E3 : ρ (.tmp 3) = .pointer (some ⟨w.heap.size, 0, none⟩) := (hn (.tmp 3) rfl).trans rfl
        refine asked_val (.agg #[.slice (some ⟨b, off, none⟩) ps.length c, .int .i64 k]) (want_at 1 75 true true rfl rfl ((hw 75 1 rfl).trans (hd 1 rfl))) (run_load_blk rfl E3 (hx7.ext hb) Try.underlying47 rfl store_size) rfl
      · intro ρ y W hw hn hb hd
        have E8 : ρ (.tmp 8) = .int .i64 (blockN (stOf ps k) F I) := (hn (.tmp 8) rfl).trans rfl
        refine asked_val (.int .i64 (blockN (stOf ps k) F I)) (want_at 1 75 true true rfl rfl ((hw 75 1 rfl).trans (hd 1 rfl))) (run_move (.inl rfl) E8) rfl
      · intro ρ y W hw hn hb hd
        have E76 := hw 76 2 rfl
        have h2 : y 2 = .agg #[.slice (some ⟨b, off, none⟩) ps.length c, .int .i64 k] := hd 2 rfl
        have E77 := hw 77 3 rfl
        have h3 : y 3 = .int .i64 (blockN (stOf ps k) F I) := hd 3 rfl
        have EF : ∀ f, ρ (.func f) = .func (.func f) #[] #[] := fun f => hn (.func f) trivial
        refine asked_call _ _ (want_at 1 75 true true rfl rfl ((hw 75 1 rfl).trans (hd 1 rfl))) (run_call rfl (EF _) Try.func39 (by kernel_rfl) (by kernel_rfl) (by simp only [List.map_toArray, List.map_cons, List.map_nil, E76, h2, E77, h3, EF]; rfl)) ?_
        refine (sused_any ps k (blockN (stOf ps k) F I) _ c W (h.below (below_next hbel7 hb))).mono ?_
        rintro r w1 ⟨rfl, hb1⟩
        rw [hfresh.out.1]
        exact ⟨_, rfl, hb1, rfl⟩
      · intro ρ y W hw hn hb hd
        have E78 := hw 78 4 rfl
        have h4 : y 4 = .bool false := hd 4 rfl
        refine asked_val (.bool true) (want_at 1 75 true true rfl rfl ((hw 75 1 rfl).trans (hd 1 rfl))) (run_not rfl (E78.trans h4)) rfl
      · intro ρ y W hw hn hb hd
        have E75 := hw 75 1 rfl
        have h1 : y 1 = .bool true := hd 1 rfl
        have E79 := hw 79 5 rfl
        have h5 : y 5 = .bool true := hd 5 rfl
        refine asked_val (.bool true) (want_free rfl) (run_pick rfl (E75.trans h1) (by first | simpa using (E79.trans h5) | exact (hn (.const _) trivial).trans rfl)) rfl
      · intro ρ y W hw hn hb hd
        have E80 := hw 80 6 rfl
        have h6 : y 6 = .bool true := hd 6 rfl
        refine asked_val (.bool true) (want_free rfl) (run_move (.inl rfl) (E80.trans h6)) rfl
      · intro ρ y W hw hn hb hd
        have E7 : ρ (.tmp 7) = .pointer (some ⟨w2.heap.size, 0, none⟩) := (hn (.tmp 7) rfl).trans rfl
        refine asked_val (.agg #[.slice a2 qs.length c2, .int .i64 k2]) (want_at 7 81 true true rfl rfl ((hw 81 7 rfl).trans (hd 7 rfl))) (run_load_blk rfl E7 (ho7.ext hb) Try.underlying47 rfl store_size) rfl
      · intro ρ y W hw hn hb hd
        have E82 := hw 82 8 rfl
        have h8 : y 8 = .agg #[.slice a2 qs.length c2, .int .i64 k2] := hd 8 rfl
        have EF : ∀ f, ρ (.func f) = .func (.func f) #[] #[] := fun f => hn (.func f) trivial
        refine asked_call _ _ (want_at 7 81 true true rfl rfl ((hw 81 7 rfl).trans (hd 7 rfl))) (run_call rfl (EF _) Try.func40 (by kernel_rfl) (by kernel_rfl) (by simp only [List.map_toArray, List.map_cons, List.map_nil, E82, h8, EF]; rfl)) ?_
        refine (sleft_any qs k2 a2 c2 W (hS7.below hb) hk2 hq1).mono ?_
        rintro r w1 ⟨rfl, hb1⟩
        rw [hst.out, hfresh.out.2]
        exact ⟨_, rfl, hb1, rfl⟩
      · intro ρ y W hw hn hb hd
        have E3 : ρ (.tmp 3) = .pointer (some ⟨w.heap.size, 0, none⟩) := (hn (.tmp 3) rfl).trans rfl
        refine asked_val (.agg #[.slice (some ⟨b, off, none⟩) ps.length c, .int .i64 k]) (want_at 7 81 true true rfl rfl ((hw 81 7 rfl).trans (hd 7 rfl))) (run_load_blk rfl E3 (hx7.ext hb) Try.underlying47 rfl store_size) rfl
      · intro ρ y W hw hn hb hd
        have E84 := hw 84 10 rfl
        have h10 : y 10 = .agg #[.slice (some ⟨b, off, none⟩) ps.length c, .int .i64 k] := hd 10 rfl
        have EF : ∀ f, ρ (.func f) = .func (.func f) #[] #[] := fun f => hn (.func f) trivial
        refine asked_call _ _ (want_at 7 81 true true rfl rfl ((hw 81 7 rfl).trans (hd 7 rfl))) (run_call rfl (EF _) Try.func40 (by kernel_rfl) (by kernel_rfl) (by simp only [List.map_toArray, List.map_cons, List.map_nil, E84, h10, EF]; rfl)) ?_
        refine (sleft_any ps k _ c W (h.below (below_next hbel7 hb)) hk1 hp1).mono ?_
        rintro r w1 ⟨rfl, hb1⟩
        exact ⟨_, rfl, hb1, rfl⟩
      · intro ρ y W hw hn hb hd
        have E85 := hw 85 11 rfl
        have h11 : y 11 = .int .i64 (leftSt (stOf ps k)) := hd 11 rfl
        refine asked_val (.int .i64 (leftSt (stOf ps k) - 1)) (want_at 7 81 true true rfl rfl ((hw 81 7 rfl).trans (hd 7 rfl))) (run_bin rfl (E85.trans h11) (hn (.const _) trivial) (by simp [go_sem, hwrap])) rfl
      · intro ρ y W hw hn hb hd
        have E83 := hw 83 9 rfl
        have h9 : y 9 = .int .i64 (leftSt (stOf ps k) - 1) := hd 9 rfl
        have E86 := hw 86 12 rfl
        have h12 : y 12 = .int .i64 (leftSt (stOf ps k) - 1) := hd 12 rfl
        refine asked_val (.bool true) (want_at 7 81 true true rfl rfl ((hw 81 7 rfl).trans (hd 7 rfl))) (run_bin rfl (E83.trans h9) (E86.trans h12) (by simp [go_sem])) rfl
      · intro ρ y W hw hn hb hd
        have E81 := hw 81 7 rfl
        have h7 : y 7 = .bool true := hd 7 rfl
        have E87 := hw 87 13 rfl
        have h13 : y 13 = .bool true := hd 13 rfl
        refine asked_val (.bool true) (want_free rfl) (run_pick rfl (E81.trans h7) (by first | simpa using (E87.trans h13) | exact (hn (.const _) trivial).trans rfl)) rfl
      · intro ρ y W hw hn hb hd
        have E88 := hw 88 14 rfl
        have h14 : y 14 = .bool true := hd 14 rfl
        refine asked_val (.bool true) (want_free rfl) (run_move (.inl rfl) (E88.trans h14)) rfl
      · intro ρ y W hw hn hb hd
        exact asked_skip (want_at 15 89 true false rfl rfl ((hw 89 15 rfl).trans (hd 15 rfl))) rfl
      · intro ρ y W hw hn hb hd
        exact asked_skip (want_at 15 89 true false rfl rfl ((hw 89 15 rfl).trans (hd 15 rfl))) rfl
      · intro ρ y W hw hn hb hd
        exact asked_skip (want_at 15 89 true false rfl rfl ((hw 89 15 rfl).trans (hd 15 rfl))) rfl
      · intro ρ y W hw hn hb hd
        exact asked_skip (want_undef 18 92 true rfl rfl ((hw 92 18 rfl).trans (hd 18 rfl))) rfl
      · intro ρ y W hw hn hb hd
        exact asked_skip (want_undef 18 92 true rfl rfl ((hw 92 18 rfl).trans (hd 18 rfl))) rfl
      · intro ρ y W hw hn hb hd
        exact asked_skip (want_undef 18 92 true rfl rfl ((hw 92 18 rfl).trans (hd 18 rfl))) rfl
      · intro ρ y W hw hn hb hd
        exact asked_skip (want_at 15 89 true false rfl rfl ((hw 89 15 rfl).trans (hd 15 rfl))) rfl
      · intro ρ y W hw hn hb hd
        have E89 := hw 89 15 rfl
        have h15 : y 15 = .bool true := hd 15 rfl
        have E96 := hw 96 22 rfl
        have h22 : y 22 = undef := hd 22 rfl
        refine asked_val (.bool true) (want_free rfl) (run_pick rfl (E89.trans h15) (by first | simpa using (hn (.const _) trivial) | exact (hn (.const _) trivial).trans rfl)) rfl
      intro y WA hbWA hRWA
      have hy0 : y 0 = .bool true := hRWA 0 (by decide)
      have hy1 : y 1 = .bool true := hRWA 1 (by decide)
      have hy2 : y 2 = .agg #[.slice (some ⟨b, off, none⟩) ps.length c, .int .i64 k] := hRWA 2 (by decide)
      have hy3 : y 3 = .int .i64 (blockN (stOf ps k) F I) := hRWA 3 (by decide)
      have hy4 : y 4 = .bool false := hRWA 4 (by decide)
      have hy5 : y 5 = .bool true := hRWA 5 (by decide)
      have hy6 : y 6 = .bool true := hRWA 6 (by decide)
      have hy7 : y 7 = .bool true := hRWA 7 (by decide)
      have hy8 : y 8 = .agg #[.slice a2 qs.length c2, .int .i64 k2] := hRWA 8 (by decide)
      have hy9 : y 9 = .int .i64 (leftSt (stOf ps k) - 1) := hRWA 9 (by decide)
      have hy10 : y 10 = .agg #[.slice (some ⟨b, off, none⟩) ps.length c, .int .i64 k] := hRWA 10 (by decide)
      have hy11 : y 11 = .int .i64 (leftSt (stOf ps k)) := hRWA 11 (by decide)
      have hy12 : y 12 = .int .i64 (leftSt (stOf ps k) - 1) := hRWA 12 (by decide)
      have hy13 : y 13 = .bool true := hRWA 13 (by decide)
      have hy14 : y 14 = .bool true := hRWA 14 (by decide)
      have hy15 : y 15 = .bool true := hRWA 15 (by decide)
      have hy16 : y 16 = undef := hRWA 16 (by decide)
      have hy17 : y 17 = undef := hRWA 17 (by decide)
      have hy18 : y 18 = undef := hRWA 18 (by decide)
      have hy19 : y 19 = undef := hRWA 19 (by decide)
      have hy20 : y 20 = undef := hRWA 20 (by decide)
      have hy21 : y 21 = undef := hRWA 21 (by decide)
      have hy22 : y 22 = undef := hRWA 22 (by decide)
      have hy23 : y 23 = .bool true := hRWA 23 (by decide)
      clear hRWA
      simp only [lay, Nat.reduceAdd, Nat.reduceLT, decide_true, decide_false, if_true, Bool.false_eq_true, if_false, List.setIfInBounds_toArray, List.set_cons_zero, List.set_cons_succ, List.drop_succ_cons, List.drop_zero, List.drop_nil, hy0, hy1, hy2, hy3, hy4, hy5, hy6, hy7, hy8, hy9, hy10, hy11, hy12, hy13, hy14, hy15, hy16, hy17, hy18, hy19, hy20, hy21, hy22, hy23]
      clear hy0 hy1 hy2 hy3 hy4 hy5 hy6 hy7 hy8 hy9 hy10 hy11 hy12 hy13 hy14 hy15 hy16 hy17 hy18 hy19 hy20 hy21 hy22 hy23
      have hbelA := below_next hbel7 hbWA
      clear hbel7 hx7 ho7 hS7
      go_wp2
      go_ret
      exact ⟨rfl, hbelA⟩
    · have hold : Hid (blockS (stOf ps k) F I = stOf ps k) := Lib.hid (by
        rcases hlast.out with ⟨_, h1⟩ | ⟨h1, _⟩
        · exact h1
        · rw [hbah.out] at h1; omega)
      simp only [decide_eq_false hneg]
      refine wp_grow 24 [isV (.bool false), isV (.bool false), isV (undef), isV (undef), isV (undef), isV (undef), isV (.bool false), isV (.bool false), isV (undef), isV (undef), isV (undef), isV (undef), isV (undef), isV (undef), isV (.bool false), isV (.bool false), isV (.bool false), isV (.bool true), isV (.bool true), isV (.agg #[.slice a2 qs.length c2, .int .i64 k2]), isV (.agg #[.slice (some ⟨b, off, none⟩) ps.length c, .int .i64 k]), isV (.bool true), isV (.bool true), isV (.bool true)] (by kernel_rfl) (by kernel_rfl) (by kernel_rfl) (by decide) _ rfl (by kernel_rfl) (all_cons ?_ (all_cons ?_ (all_cons ?_ (all_cons ?_ (all_cons ?_ (all_cons ?_ (all_cons ?_ (all_cons ?_ (all_cons ?_ (all_cons ?_ (all_cons ?_ (all_cons ?_ (all_cons ?_ (all_cons ?_ (all_cons ?_ (all_cons ?_ (all_cons ?_ (all_cons ?_ (all_cons ?_ (all_cons ?_ (all_cons ?_ (all_cons ?_ (all_cons ?_ (all_cons ?_ (all_nil))))))))))))))))))))))))) ?_
      · intro ρ y W hw hn hb hd
        have E13 : ρ (.tmp 13) = .bool false := (hn (.tmp 13) rfl).trans rfl
        refine asked_val (.bool false) (want_free rfl) (run_move (.inl rfl) E13) rfl
      · intro ρ y W hw hn hb hd
        have E74 := hw 74 0 rfl
        have h0 : y 0 = .bool false := hd 0 rfl
        refine asked_val (.bool false) (want_free rfl) (run_move (.inl rfl) (E74.trans h0)) rfl
      · intro ρ y W hw hn hb hd
        exact asked_skip (want_at 1 75 false true rfl rfl ((hw 75 1 rfl).trans (hd 1 rfl))) rfl
      · intro ρ y W hw hn hb hd
        exact asked_skip (want_at 1 75 false true rfl rfl ((hw 75 1 rfl).trans (hd 1 rfl))) rfl
      · intro ρ y W hw hn hb hd
        exact asked_skip (want_at 1 75 false true rfl rfl ((hw 75 1 rfl).trans (hd 1 rfl))) rfl
      · intro ρ y W hw hn hb hd
        exact asked_skip (want_at 1 75 false true rfl rfl ((hw 75 1 rfl).trans (hd 1 rfl))) rfl
      · intro ρ y W hw hn hb hd
        have E75 := hw 75 1 rfl
        have h1 : y 1 = .bool false := hd 1 rfl
        have E79 := hw 79 5 rfl
        have h5 : y 5 = undef := hd 5 rfl
        refine asked_val (.bool false) (want_free rfl) (run_pick rfl (E75.trans h1) (by first | simpa using (hn (.const _) trivial) | exact (hn (.const _) trivial).trans rfl)) rfl
      · intro ρ y W hw hn hb hd
        have E80 := hw 80 6 rfl
        have h6 : y 6 = .bool false := hd 6 rfl
        refine asked_val (.bool false) (want_free rfl) (run_move (.inl rfl) (E80.trans h6)) rfl
      · intro ρ y W hw hn hb hd
        exact asked_skip (want_at 7 81 false true rfl rfl ((hw 81 7 rfl).trans (hd 7 rfl))) rfl
      · intro ρ y W hw hn hb hd
        exact asked_skip (want_at 7 81 false true rfl rfl ((hw 81 7 rfl).trans (hd 7 rfl))) rfl
      · intro ρ y W hw hn hb hd
        exact asked_skip (want_at 7 81 false true rfl rfl ((hw 81 7 rfl).trans (hd 7 rfl))) rfl
      · intro ρ y W hw hn hb hd
        exact asked_skip (want_at 7 81 false true rfl rfl ((hw 81 7 rfl).trans (hd 7 rfl))) rfl
      · intro ρ y W hw hn hb hd
        exact asked_skip (want_at 7 81 false true rfl rfl ((hw 81 7 rfl).trans (hd 7 rfl))) rfl
      · intro ρ y W hw hn hb hd
        exact asked_skip (want_at 7 81 false true rfl rfl ((hw 81 7 rfl).trans (hd 7 rfl))) rfl
      · intro ρ y W hw hn hb hd
        have E81 := hw 81 7 rfl
        have h7 : y 7 = .bool false := hd 7 rfl
        have E87 := hw 87 13 rfl
        have h13 : y 13 = undef := hd 13 rfl
        refine asked_val (.bool false) (want_free rfl) (run_pick rfl (E81.trans h7) (by first | simpa using (hn (.const _) trivial) | exact (hn (.const _) trivial).trans rfl)) rfl
      · intro ρ y W hw hn hb hd
        have E88 := hw 88 14 rfl
        have h14 : y 14 = .bool false := hd 14 rfl
        refine asked_val (.bool false) (want_free rfl) (run_move (.inl rfl) (E88.trans h14)) rfl
      · intro ρ y W hw hn hb hd
        have E13 : ρ (.tmp 13) = .bool false := (hn (.tmp 13) rfl).trans rfl
        refine asked_val (.bool false) (want_at 15 89 false false rfl rfl ((hw 89 15 rfl).trans (hd 15 rfl))) (run_move (.inl rfl) E13) rfl
      · intro ρ y W hw hn hb hd
        have E90 := hw 90 16 rfl
        have h16 : y 16 = .bool false := hd 16 rfl
        refine asked_val (.bool true) (want_at 15 89 false false rfl rfl ((hw 89 15 rfl).trans (hd 15 rfl))) (run_not rfl (E90.trans h16)) rfl
      · intro ρ y W hw hn hb hd
        have E91 := hw 91 17 rfl
        have h17 : y 17 = .bool true := hd 17 rfl
        refine asked_val (.bool true) (want_at 15 89 false false rfl rfl ((hw 89 15 rfl).trans (hd 15 rfl))) (run_move (.inl rfl) (E91.trans h17)) rfl
      · intro ρ y W hw hn hb hd
        have E7 : ρ (.tmp 7) = .pointer (some ⟨w2.heap.size, 0, none⟩) := (hn (.tmp 7) rfl).trans rfl
        refine asked_val (.agg #[.slice a2 qs.length c2, .int .i64 k2]) (want_at 18 92 true true rfl rfl ((hw 92 18 rfl).trans (hd 18 rfl))) (run_load_blk rfl E7 (ho7.ext hb) Try.underlying47 rfl store_size) rfl
      · intro ρ y W hw hn hb hd
        have E3 : ρ (.tmp 3) = .pointer (some ⟨w.heap.size, 0, none⟩) := (hn (.tmp 3) rfl).trans rfl
        refine asked_val (.agg #[.slice (some ⟨b, off, none⟩) ps.length c, .int .i64 k]) (want_at 18 92 true true rfl rfl ((hw 92 18 rfl).trans (hd 18 rfl))) (run_load_blk rfl E3 (hx7.ext hb) Try.underlying47 rfl store_size) rfl
      · intro ρ y W hw hn hb hd
        have E93 := hw 93 19 rfl
        have h19 : y 19 = .agg #[.slice a2 qs.length c2, .int .i64 k2] := hd 19 rfl
        have E94 := hw 94 20 rfl
        have h20 : y 20 = .agg #[.slice (some ⟨b, off, none⟩) ps.length c, .int .i64 k] := hd 20 rfl
        have EF : ∀ f, ρ (.func f) = .func (.func f) #[] #[] := fun f => hn (.func f) trivial
        refine asked_call _ _ (want_at 18 92 true true rfl rfl ((hw 92 18 rfl).trans (hd 18 rfl))) (run_call rfl (EF _) Try.func31 (by kernel_rfl) (by kernel_rfl) (by simp only [List.map_toArray, List.map_cons, List.map_nil, E93, h19, E94, h20, EF]; rfl)) ?_
        refine (ssame_any qs ps k2 k a2 _ c2 c W (hS7.below hb) (h.below (below_next hbel7 hb))).mono ?_
        rintro r w1 ⟨rfl, hb1⟩
        rw [hst.out, hold.out, show sameSt (stOf ps k) (stOf ps k) = true from decide_eq_true rfl]
        exact ⟨_, rfl, hb1, rfl⟩
      · intro ρ y W hw hn hb hd
        have E92 := hw 92 18 rfl
        have h18 : y 18 = .bool true := hd 18 rfl
        have E95 := hw 95 21 rfl
        have h21 : y 21 = .bool true := hd 21 rfl
        refine asked_val (.bool true) (want_at 15 89 false false rfl rfl ((hw 89 15 rfl).trans (hd 15 rfl))) (run_pick rfl (E92.trans h18) (by first | simpa using (E95.trans h21) | exact (hn (.const _) trivial).trans rfl)) rfl
      · intro ρ y W hw hn hb hd
        have E89 := hw 89 15 rfl
        have h15 : y 15 = .bool false := hd 15 rfl
        have E96 := hw 96 22 rfl
        have h22 : y 22 = .bool true := hd 22 rfl
        refine asked_val (.bool true) (want_free rfl) (run_pick rfl (E89.trans h15) (by first | simpa using (E96.trans h22) | exact (hn (.const _) trivial).trans rfl)) rfl
      intro y WA hbWA hRWA
      have hy0 : y 0 = .bool false := hRWA 0 (by decide)
      have hy1 : y 1 = .bool false := hRWA 1 (by decide)
      have hy2 : y 2 = undef := hRWA 2 (by decide)
      have hy3 : y 3 = undef := hRWA 3 (by decide)
      have hy4 : y 4 = undef := hRWA 4 (by decide)
      have hy5 : y 5 = undef := hRWA 5 (by decide)
      have hy6 : y 6 = .bool false := hRWA 6 (by decide)
      have hy7 : y 7 = .bool false := hRWA 7 (by decide)
      have hy8 : y 8 = undef := hRWA 8 (by decide)
      have hy9 : y 9 = undef := hRWA 9 (by decide)
      have hy10 : y 10 = undef := hRWA 10 (by decide)
      have hy11 : y 11 = undef := hRWA 11 (by decide)
      have hy12 : y 12 = undef := hRWA 12 (by decide)
      have hy13 : y 13 = undef := hRWA 13 (by decide)
      have hy14 : y 14 = .bool false := hRWA 14 (by decide)
      have hy15 : y 15 = .bool false := hRWA 15 (by decide)
      have hy16 : y 16 = .bool false := hRWA 16 (by decide)
      have hy17 : y 17 = .bool true := hRWA 17 (by decide)
      have hy18 : y 18 = .bool true := hRWA 18 (by decide)
      have hy19 : y 19 = .agg #[.slice a2 qs.length c2, .int .i64 k2] := hRWA 19 (by decide)
      have hy20 : y 20 = .agg #[.slice (some ⟨b, off, none⟩) ps.length c, .int .i64 k] := hRWA 20 (by decide)
      have hy21 : y 21 = .bool true := hRWA 21 (by decide)
      have hy22 : y 22 = .bool true := hRWA 22 (by decide)
      have hy23 : y 23 = .bool true := hRWA 23 (by decide)
      clear hRWA
      simp only [lay, Nat.reduceAdd, Nat.reduceLT, decide_true, decide_false, if_true, Bool.false_eq_true, if_false, List.setIfInBounds_toArray, List.set_cons_zero, List.set_cons_succ, List.drop_succ_cons, List.drop_zero, List.drop_nil, hy0, hy1, hy2, hy3, hy4, hy5, hy6, hy7, hy8, hy9, hy10, hy11, hy12, hy13, hy14, hy15, hy16, hy17, hy18, hy19, hy20, hy21, hy22, hy23]
      clear hy0 hy1 hy2 hy3 hy4 hy5 hy6 hy7 hy8 hy9 hy10 hy11 hy12 hy13 hy14 hy15 hy16 hy17 hy18 hy19 hy20 hy21 hy22 hy23
      have hbelA := below_next hbel7 hbWA
      clear hbel7 hx7 ho7 hS7
      go_wp2
      go_ret
      exact ⟨rfl, hbelA⟩
  · have hz : Hid (stOf qs k2 = zSt) := Lib.hid (by rw [hst.out, (block_err rfl h0).2.2])
    have hk2 : k2 = 0 := congrArg St.count hz.out
    subst hk2
    have h0' : (blockE (stOf ps k) file index != 0) = true := by simpa using h0
    have hco := ho3.cell
    by_cases h10 : blockE (stOf ps k) file index = 10
    · have hfull := block_full h10
      have hfew := wrongSt_few hfull.1
      have hblk := right_blks hfull.1
      have hl0 := Lib.hid hfull.2
      rw [h10]
      clear h10 h0 h0' hfull
      go_wp2_with (refine wpList_ldg _ _ rfl _ 0 rfl rfl _ hx3.rd _ Try.underlying47 rfl store_size ?_)
      refine (sleft_any ps k a c _ (h.below hbel3) hfew.2 (by omega)).mono ?_
      rintro r w4 ⟨rfl, hb4⟩
      rw [hl0.out]
      have hbel4 := below_next hbel3 hb4
      have ho4 := ho3.ext hb4
      have hco := ho4.cell
      clear hbel3 ho3 hx3 hb4
      go_wp2
      go_ret
      exact ⟨rfl, hbel4⟩
    · have h10' : (blockE (stOf ps k) file index != 10) = true := by simpa using h10
      clear h10 h0
      go_wp2
      go_ret
      exact ⟨rfl, hbel3⟩
end Go.Proofs.Ytmdnmknmniabeaa
