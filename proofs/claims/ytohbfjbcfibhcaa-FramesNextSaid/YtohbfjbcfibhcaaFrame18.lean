/- The law FramesTells, walked. -/
import Derived.Test.YtohbfjbcfibhcaaFrame15
import Derived.Test.YtohbfjbcfibhcaaFrame16
import Derived.Test.YtohbfjbcfibhcaaFrame17
namespace Go.Proofs.Ytohbfjbcfibhcaa
open Go.RowKit Pw
set_option linter.unusedSimpArgs false
set_option linter.unusedVariables false

theorem new_len {n : Int} (h : 0 ≤ n ∧ n ≤ 40) : ((newM n).fs.length : Int) = n := by
  unfold newM
  rw [if_pos h]
  simp
  omega
theorem frZ_ok : frameE frZ = 0 := by decide
theorem new_free {n : Int} (h : 0 ≤ n ∧ n ≤ 40) : (freeN (newM n).fs : Int) = n := by
  have h1 : freeN (newM n).fs = (newM n).fs.length := by
    rw [free_full]
    unfold newM
    rw [if_pos h]
    intro f hf
    rw [List.eq_of_mem_replicate hf]
    rfl
  rw [h1, new_len h]
theorem new_wrong {n : Int} (h : 0 ≤ n ∧ n ≤ 40) : wrongM (newM n) = 0 := by
  have hl := new_len h
  rw [wrongM_iff]
  refine ⟨by omega, fun f hf => ?_, ?_, ?_⟩
  · unfold newM at hf
    rw [if_pos h] at hf
    rw [List.eq_of_mem_replicate hf]
    exact frZ_ok
  · unfold newM; rw [if_pos h]; exact Int.le_refl _
  · unfold newM; rw [if_pos h]; exact .inl rfl

theorem mrd_kept {w w' : World} {a : Option Addr} {c : Nat} {m : Mem} (h : MRd w a c m) {g : Nat} {x : Option Addr} {n c' : Nat} {z : Int} {T : TypeId} (hk : Blk w g #[.slice x n c', .int .i64 z] T) (hgr : w.grownBy w' (some g)) : MRd w' a c m := by
  refine { h with rd := fun i u hi => ?_ }
  obtain ⟨b, off, ha, hc⟩ := h.rd i u hi
  refine ⟨b, off, ha, hgr.cell hc ?_⟩
  intro e
  cases e
  have hlt : i < m.fs.length * 13 := by
    rw [← frames_len]
    rcases Nat.lt_or_ge i (m.fs.flatMap frL).length with h | h
    · exact h
    · rw [List.getElem?_eq_none h] at hi; cases hi
  have hk' : i / 13 < m.fs.length := by omega
  obtain ⟨b', off', ha', hf⟩ := fr_at h.rd (i / 13) hk'
  rw [ha] at ha'
  cases ha'
  have h0 := hf.c0
  rw [hk.cell] at h0
  generalize off + i / 13 * 13 = o at h0
  match o, h0 with
  | 0, h0 => simp at h0
  | 1, h0 => simp at h0
  | o + 2, h0 => simp at h0
set_option maxHeartbeats 4000000 in
set_option maxRecDepth 100000 in
theorem frames_tells (m : Mem) (p : Page) (file index k n : Int) (a : Option Addr) (c : Nat) (w : World) (h : MRd w a c m) (h40 : m.fs.length * 40 ≤ 140737488355328) :
    Calls Try.prog 11 #[.agg #[.slice a m.fs.length c, .int .i64 m.hand], .agg (pgC p), .int .i64 file, .int .i64 index, .int .i64 k, .int .i64 n] w fun e w' => e = .returned (.bool true) ∧ Below w.heap.size w w' := by
  have hlm := Nat.le_trans h.le h.mx
  unfold maxLen at hlm
  go_enter Try.func11, Try.ntmps11
  rw [pgC_lit]
  go_upto_region 1 with (fail)
  refine abs2 (fun W => Code.wp _ _ _ _ W) fun w0 hb0 hx0 hp0 hs0 => ?_
  have hbel0 := hb0
  have hM0 := h.below hb0
  clear hs0 hb0
  refine wp_grow 12 [isV (.agg #[.slice a m.fs.length c, .int .i64 m.hand]), isV (.int .i64 (wrongM m)), isV (.agg #[.slice a m.fs.length c, .int .i64 m.hand]), isV (.int .i64 (wrongM m)), isV (.bool false), isV (.bool false), isV (.agg #[.slice a m.fs.length c, .int .i64 m.hand]), (memR 0 m), isV (.agg #[.slice a m.fs.length c, .int .i64 m.hand]), isV (.bool true), isV (.bool false), isV (.bool false)] (by kernel_rfl) (by kernel_rfl) (by kernel_rfl) (by decide) _ rfl (by kernel_rfl) (all_cons ?_ (all_cons ?_ (all_cons ?_ (all_cons ?_ (all_cons ?_ (all_cons ?_ (all_cons ?_ (all_cons ?_ (all_cons ?_ (all_cons ?_ (all_cons ?_ (all_cons ?_ (all_nil))))))))))))) ?_
  · intro ρ y W hw hn hb hd
    have E6 : ρ (.tmp 6) = .pointer (some ⟨w.heap.size, 0, none⟩) := (hn (.tmp 6) rfl).trans rfl
    refine asked_val (.agg #[.slice a m.fs.length c, .int .i64 m.hand]) (want_free rfl) (by simp [execOp, go_sem, E6, (hx0.ext hb).cell]) rfl
  · intro ρ y W hw hn hb hd
    have E23 := hw 23 0 rfl
    have h0 : y 0 = .agg #[.slice a m.fs.length c, .int .i64 m.hand] := hd 0 rfl
    have EF : ∀ f, ρ (.func f) = .func (.func f) #[] #[] := fun f => hn (.func f) trivial
    refine asked_call _ _ (want_free rfl) (run_call rfl (EF _) Try.func43 (by kernel_rfl) (by kernel_rfl) (by simp only [List.map_toArray, List.map_cons, List.map_nil, E23, h0, EF]; rfl)) ?_
    refine (mwrong_any m a c W (hM0.below hb)).mono ?_
    rintro e w1 ⟨rfl, hb1⟩
    exact ⟨_, rfl, hb1, rfl⟩
  · intro ρ y W hw hn hb hd
    have E6 : ρ (.tmp 6) = .pointer (some ⟨w.heap.size, 0, none⟩) := (hn (.tmp 6) rfl).trans rfl
    refine asked_val (.agg #[.slice a m.fs.length c, .int .i64 m.hand]) (want_free rfl) (by simp [execOp, go_sem, E6, (hx0.ext hb).cell]) rfl
  · intro ρ y W hw hn hb hd
    have E25 := hw 25 2 rfl
    have h2 : y 2 = .agg #[.slice a m.fs.length c, .int .i64 m.hand] := hd 2 rfl
    have EF : ∀ f, ρ (.func f) = .func (.func f) #[] #[] := fun f => hn (.func f) trivial
    refine asked_call _ _ (want_free rfl) (run_call rfl (EF _) Try.func44 (by kernel_rfl) (by kernel_rfl) (by simp only [List.map_toArray, List.map_cons, List.map_nil, E25, h2, EF]; rfl)) ?_
    refine (rmwrong_any m a c W (hM0.below hb)).mono ?_
    rintro e w1 ⟨rfl, hb1⟩
    exact ⟨_, rfl, hb1, rfl⟩
  · intro ρ y W hw hn hb hd
    have E24 := hw 24 1 rfl
    have h1 : y 1 = .int .i64 (wrongM m) := hd 1 rfl
    have E26 := hw 26 3 rfl
    have h3 : y 3 = .int .i64 (wrongM m) := hd 3 rfl
    refine asked_val (.bool false) (want_free rfl) (run_bin rfl (E24.trans h1) (E26.trans h3) (by simp [go_sem])) rfl
  · intro ρ y W hw hn hb hd
    have E27 := hw 27 4 rfl
    have h4 : y 4 = .bool false := hd 4 rfl
    refine asked_val (.bool false) (want_free rfl) (run_move (.inl rfl) (E27.trans h4)) rfl
  · intro ρ y W hw hn hb hd
    have E6 : ρ (.tmp 6) = .pointer (some ⟨w.heap.size, 0, none⟩) := (hn (.tmp 6) rfl).trans rfl
    refine asked_val (.agg #[.slice a m.fs.length c, .int .i64 m.hand]) (want_at 5 28 false false rfl rfl ((hw 28 5 rfl).trans (hd 5 rfl))) (by simp [execOp, go_sem, E6, (hx0.ext hb).cell]) rfl
  · intro ρ y W hw hn hb hd
    have E29 := hw 29 6 rfl
    have h6 : y 6 = .agg #[.slice a m.fs.length c, .int .i64 m.hand] := hd 6 rfl
    have EF : ∀ f, ρ (.func f) = .func (.func f) #[] #[] := fun f => hn (.func f) trivial
    refine asked_call _ _ (want_at 5 28 false false rfl rfl ((hw 28 5 rfl).trans (hd 5 rfl))) (run_call rfl (EF _) Try.func46 (by kernel_rfl) (by kernel_rfl) (by simp only [List.map_toArray, List.map_cons, List.map_nil, E29, h6, EF]; rfl)) ?_
    refine (mown_any m a c W (hM0.below hb) h40).mono ?_
    rintro e w1 ⟨vb, rfl, ho, hb1⟩
    exact ⟨_, rfl, hb1, ⟨_, rfl, ho.mono (Nat.zero_le _)⟩⟩
  · intro ρ y W hw hn hb hd
    have E6 : ρ (.tmp 6) = .pointer (some ⟨w.heap.size, 0, none⟩) := (hn (.tmp 6) rfl).trans rfl
    refine asked_val (.agg #[.slice a m.fs.length c, .int .i64 m.hand]) (want_at 5 28 false false rfl rfl ((hw 28 5 rfl).trans (hd 5 rfl))) (by simp [execOp, go_sem, E6, (hx0.ext hb).cell]) rfl
  · intro ρ y W hw hn hb hd
    have E30 := hw 30 7 rfl
    have h7 := hd 7 rfl
    have E31 := hw 31 8 rfl
    have h8 : y 8 = .agg #[.slice a m.fs.length c, .int .i64 m.hand] := hd 8 rfl
    have EF : ∀ f, ρ (.func f) = .func (.func f) #[] #[] := fun f => hn (.func f) trivial
    refine asked_call _ _ (want_at 5 28 false false rfl rfl ((hw 28 5 rfl).trans (hd 5 rfl))) (run_call rfl (EF _) Try.func45 (by kernel_rfl) (by kernel_rfl) (by simp only [List.map_toArray, List.map_cons, List.map_nil, E30, E31, h8, EF]; rfl)) ?_
    obtain ⟨vb, e7, ho7⟩ := h7
    rw [e7]
    obtain ⟨xa, xc, rfl, hd7⟩ := mown_rd ho7
    refine (msame_any m m xa xc a c W hd7 (hM0.below hb)).mono ?_
    rintro e w1 ⟨rfl, hb1⟩
    rw [sameM_iff.2 rfl]
    exact ⟨_, rfl, hb1, rfl⟩
  · intro ρ y W hw hn hb hd
    have E32 := hw 32 9 rfl
    have h9 : y 9 = .bool true := hd 9 rfl
    refine asked_val (.bool false) (want_at 5 28 false false rfl rfl ((hw 28 5 rfl).trans (hd 5 rfl))) (run_not rfl (E32.trans h9)) rfl
  · intro ρ y W hw hn hb hd
    have E28 := hw 28 5 rfl
    have h5 : y 5 = .bool false := hd 5 rfl
    have E33 := hw 33 10 rfl
    have h10 : y 10 = .bool false := hd 10 rfl
    refine asked_val (.bool false) (want_free rfl) (run_pick rfl (E28.trans h5) (by simpa using (E33.trans h10))) rfl
  intro y WA hbWA hRWA
  have hy0 : y 0 = .agg #[.slice a m.fs.length c, .int .i64 m.hand] := hRWA 0 (by decide)
  have hy1 : y 1 = .int .i64 (wrongM m) := hRWA 1 (by decide)
  have hy2 : y 2 = .agg #[.slice a m.fs.length c, .int .i64 m.hand] := hRWA 2 (by decide)
  have hy3 : y 3 = .int .i64 (wrongM m) := hRWA 3 (by decide)
  have hy4 : y 4 = .bool false := hRWA 4 (by decide)
  have hy5 : y 5 = .bool false := hRWA 5 (by decide)
  have hy6 : y 6 = .agg #[.slice a m.fs.length c, .int .i64 m.hand] := hRWA 6 (by decide)
  have hy8 : y 8 = .agg #[.slice a m.fs.length c, .int .i64 m.hand] := hRWA 8 (by decide)
  have hy9 : y 9 = .bool true := hRWA 9 (by decide)
  have hy10 : y 10 = .bool false := hRWA 10 (by decide)
  have hy11 : y 11 = .bool false := hRWA 11 (by decide)
  have hy7 : ((memR 0 m)).r (y 7) WA := hRWA 7 (by decide)
  clear hRWA
  simp only [lay, Nat.reduceAdd, Nat.reduceLT, decide_true, decide_false, if_true, Bool.false_eq_true, if_false, List.setIfInBounds_toArray, List.set_cons_zero, List.set_cons_succ, List.drop_succ_cons, List.drop_zero, List.drop_nil, hy0, hy1, hy2, hy3, hy4, hy5, hy6, hy8, hy9, hy10, hy11]
  clear hy0 hy1 hy2 hy3 hy4 hy5 hy6 hy8 hy9 hy10 hy11
  clear hy7
  have hbelA := below_next hbel0 hbWA
  have hxA := hx0.ext hbWA
  have hpA := hp0.ext hbWA
  clear hbel0 hx0 hp0 hbWA hM0
  go_wp2_with fail
  refine (mnew_any n _).mono ?_
  rintro e w1 ⟨vb, rfl, ho1, hb1⟩
  have hbel1 := below_next hbelA hb1
  have hx1 := hxA.ext hb1
  have hp1 := hpA.ext hb1
  obtain ⟨a1, c1, rfl, hn1⟩ := mown_rd ho1
  clear hbelA hxA hpA hb1 ho1
  go_upto_region 4 with (fail)
  by_cases hn : 0 ≤ n ∧ n ≤ 40
  · have e1 : newME n = 0 := by unfold newME; rw [if_pos hn]
    have e2 : (newM n).hand = 0 := by unfold newM; rw [if_pos hn]
    have e3 : (((newM n).fs.length : Int) != n) = false := by rw [new_len hn]; simp
    have e4 : ((freeN (newM n).fs : Int) != n) = false := by rw [new_free hn]; simp
    have e5 := new_wrong hn
    have n1 : 0 ≤ n := hn.1
    have n2 : n ≤ 40 := hn.2
    rw [e1]
    clear e1 hn
    refine abs1 (fun W => Code.wp _ _ _ _ W) fun w2 hb2 hy2 hs2 => ?_
    have hbel2 := below_next hbel1 hb2
    have hx2 := hx1.ext hb2
    have hp2 := hp1.ext hb2
    have hn2 := hn1.below hb2
    clear hbel1 hx1 hp1 hn1 hb2 hs2
    have hcy := hy2.cell
    have hf := mfree_any (newM n) a1 c1 w2 hn2
    rw [e2] at hf
    go_wp2_with fail
    refine hf.mono ?_
    rintro e w3 ⟨rfl, hb3⟩
    have hbel3' := below_next hbel2 hb3
    have hx3' := hx2.ext hb3
    have hp3' := hp2.ext hb3
    have hy3 := hy2.ext hb3
    have hn3 := hn2.below hb3
    clear hcy hf hbel2 hx2 hp2 hy2 hn2 hb3
    have hcy := hy3.cell
    have hg := mwrong_any (newM n) a1 c1 w3 hn3
    rw [e2, e5] at hg
    clear e2 e5
    go_wp2_with fail
    refine hg.mono ?_
    rintro e w4 ⟨rfl, hb4⟩
    have hbel3 := below_next hbel3' hb4
    have hx3 := hx3'.ext hb4
    have hp3 := hp3'.ext hb4
    clear hcy hg hbel3' hx3' hp3' hy3 hn3 hb4 e3 e4 n1 n2
    have hcx := hx3.cell
    go_wp2
    clear hcx
    go_loopw [15, 74] (fun s i wr => ∃ (j q : Nat), j ≤ m.fs.length ∧ i = .int .i64 j ∧ s = .int .i64 q ∧ q ≤ j ∧ Below w.heap.size w wr ∧ Blk wr w.heap.size #[.slice a m.fs.length c, .int .i64 m.hand] 64 ∧ Blk wr (w.heap.size + 1) #[.int .u8 p[0].toNat, .int .u8 p[1].toNat, .int .u8 p[2].toNat, .int .u8 p[3].toNat, .int .u8 p[4].toNat, .int .u8 p[5].toNat, .int .u8 p[6].toNat, .int .u8 p[7].toNat] 23 ∧ Hid (freeN (m.fs.take j) = q)) (fun _ i _ => m.fs.length - (intOf i).toNat)
    case atStart => exact ⟨0, 0, Nat.zero_le _, rfl, rfl, Nat.le_refl _, hbel3, hx3, hp3, Lib.hid rfl⟩
    case round =>
      clear hbel3 hx3 hp3
      obtain ⟨j, q, hj, rfl, rfl, hq, hbel, hx, hp, hf⟩ := hrel
      by_cases hlt : j < m.fs.length
      · obtain ⟨b, off, rfl, hc⟩ := fr_at (h.below hbel).rd j hlt
        obtain ⟨c0, c1, c2, c3, c4, c5, c6, c7, c8, c9, ca, cb, cc⟩ := hc
        have ht := freeN_take m.fs j hlt
        rw [hf.out] at ht
        by_cases hr : m.fs[j].r = 0
        · rw [if_pos hr] at ht
          have ht' := Lib.hid ht
          have hrb : (m.fs[j].r == 0) = true := by simpa using hr
          clear ht hr
          go_wp2
          go_roundw
          case rel => exact ⟨j + 1, q + 1, by omega, by go_num, by go_num, by omega, hbel.alloc hbel.size _, hx.alloc _, hp.alloc _, ht'⟩
          case measure => simp [intOf]; omega
        · rw [if_neg hr] at ht
          have ht' := Lib.hid ht
          have hrb : (m.fs[j].r == 0) = false := by simpa using hr
          clear ht hr
          go_wp2
          go_roundw
          case rel => exact ⟨j + 1, q, by omega, by go_num, rfl, by omega, hbel.alloc hbel.size _, hx.alloc _, hp.alloc _, ht'⟩
          case measure => simp [intOf]; omega
      · have hfin : freeN m.fs = q := by
          have := hf.out
          rw [List.take_of_length_le (by omega)] at this
          exact this
        subst hfin
        clear hf hq
        have hcx := hx.cell
        have hcp := hp.cell
        go_wp2_with fail
        refine (mtake_any m p file index a c _ (h.below hbel)).mono ?_
        rintro e w5 ⟨vb, rfl, ho5, hb5⟩
        have hbel5 := below_next hbel hb5
        have hx5 := hx.ext hb5
        have hp5 := hp.ext hb5
        obtain ⟨a5, c5, rfl, hA5⟩ := mown_rd ho5
        clear hcx hcp hbel hx hp hb5 ho5
        go_upto_region 14 with (fail)
        refine abs1 (fun W => Code.wp _ _ _ _ W) fun w6 hb6 hq6 hs6 => ?_
        have hbel6 := below_next hbel5 hb6
        have hx6 := hx5.ext hb6
        have hp6 := hp5.ext hb6
        have hA6 := hA5.below hb6
        have hg6 : w.heap.size + 2 ≤ w5.heap.size := by have := hp5.lt; omega
        clear hbel5 hx5 hp5 hA5 hb6 hs6
        have hcx := hx6.cell
        have hcp := hp6.cell
        go_wp2_with fail
        refine (rmtake_any m p file index a c _ (h.below hbel6)).mono ?_
        rintro e w7 ⟨vb, rfl, ho7, hb7⟩
        have hbel7 := below_next hbel6 hb7
        have hx7 := hx6.ext hb7
        have hq7 := hq6.ext hb7
        have hA7 := hA6.below hb7
        have hg7 : w5.heap.size < w7.heap.size := hq7.lt
        obtain ⟨a7, c7, rfl, hB7⟩ := mown_rd ho7
        clear hcx hcp hbel6 hx6 hp6 hq6 hA6 hb7 ho7
        go_upto_region 15 with (fail)
        refine abs1 (fun W => Code.wp _ _ _ _ W) fun w8 hb8 hr8 hs8 => ?_
        have hbel8 := below_next hbel7 hb8
        have hx8 := hx7.ext hb8
        have hq8 := hq7.ext hb8
        have hA8 := hA7.below hb8
        have hB8 := hB7.below hb8
        clear hbel7 hx7 hq7 hA7 hB7 hb8 hs8
        have hcx := hx8.cell
        go_wp2_with fail
        refine (mfree_any m a c _ (h.below hbel8)).mono ?_
        rintro e w9 ⟨rfl, hb9⟩
        have hbel9 := below_next hbel8 hb9
        have hx9 := hx8.ext hb9
        have hq9 := hq8.ext hb9
        have hr9 := hr8.ext hb9
        have hA9 := hA8.below hb9
        have hB9 := hB8.below hb9
        clear hcx hbel8 hx8 hq8 hr8 hA8 hB8 hb9
        have hcq := hq9.cell
        have hcr := hr9.cell
        go_wp2_with fail
        refine (msame_any _ _ a5 c5 a7 c7 _ hA9 hB9).mono ?_
        rintro e w10 ⟨rfl, hb10⟩
        rw [sameM_iff.2 rfl]
        have hbel10 := below_next hbel9 hb10
        have hx10 := hx9.ext hb10
        have hq10 := hq9.ext hb10
        have hr10 := hr9.ext hb10
        clear hcq hcr hbel9 hx9 hq9 hr9 hA9 hB9 hb10
        have hcx := hx10.cell
        go_wp2_with fail
        refine (mhold_any m k n a c _ (h.below hbel10)).mono ?_
        rintro e w11 ⟨vb, rfl, ho11, hb11⟩
        have hbel11 := below_next hbel10 hb11
        have hx11 := hx10.ext hb11
        have hq11 := hq10.ext hb11
        have hr11 := hr10.ext hb11
        obtain ⟨a11, c11, rfl, _⟩ := mown_rd ho11
        clear hcx hbel10 hx10 hq10 hr10 hb11
        go_wp2_with (refine wpList_stw rfl _ (.tmp 18) (.tmp 127) rfl w5.heap.size #[.slice a11 (holdM m k n).fs.length c11, .int .i64 (holdM m k n).hand] rfl rfl _ _ hq11 (mem_fit _ _ _ _ _ _ _ _) mem_size (mem_one _ _ _ _) ?_)
        intro w12 hq12 hgr12
        have hbel12 := hbel11.grown hgr12 hbel11.size (fun k hk => by cases hk; omega)
        have hx12 := hx11.grown hgr12 (fun he => by have := Option.some.inj he; omega)
        have hr12 := hr11.grown hgr12 (fun he => by have := Option.some.inj he; omega)
        have ho12 := own_keep ho11 hq11 (by decide) hgr12
        obtain ⟨_, _, e12, hA12⟩ := mown_rd ho12
        cases e12
        clear hbel11 hx11 hq11 hr11 ho11 ho12 hgr12
        have hcx := hx12.cell
        go_wp2_with fail
        refine (rmhold_any m k n a c _ (h.below hbel12)).mono ?_
        rintro e w13 ⟨vb, rfl, ho13, hb13⟩
        have hbel13 := below_next hbel12 hb13
        have hx13 := hx12.ext hb13
        have hq13 := hq12.ext hb13
        have hr13 := hr12.ext hb13
        have hA13 := hA12.below hb13
        obtain ⟨a13, c13, rfl, _⟩ := mown_rd ho13
        clear hcx hbel12 hx12 hq12 hr12 hA12 hb13
        go_wp2_with (refine wpList_stw rfl _ (.tmp 20) (.tmp 134) rfl w7.heap.size #[.slice a13 (holdM m k n).fs.length c13, .int .i64 (holdM m k n).hand] rfl rfl _ _ hr13 (mem_fit _ _ _ _ _ _ _ _) mem_size (mem_one _ _ _ _) ?_)
        intro w14 hr14 hgr14
        have hbel14 := hbel13.grown hgr14 hbel13.size (fun k hk => by cases hk; omega)
        have hx14 := hx13.grown hgr14 (fun he => by have := Option.some.inj he; omega)
        have hq14 := hq13.grown hgr14 (fun he => by have := Option.some.inj he; omega)
        have ho14 := own_keep ho13 hr13 (by decide) hgr14
        obtain ⟨_, _, e14, hB14⟩ := mown_rd ho14
        cases e14
        have hA14 := mrd_kept hA13 hr13 hgr14
        clear hbel13 hx13 hq13 hr13 ho13 ho14 hA13 hgr14
        have hcq := hq14.cell
        have hcr := hr14.cell
        go_wp2_with fail
        refine (msame_any _ _ a11 c11 a13 c13 _ hA14 hB14).mono ?_
        rintro e w15 ⟨rfl, hb15⟩
        rw [sameM_iff.2 rfl]
        have hbel15 := below_next hbel14 hb15
        have hx15 := hx14.ext hb15
        have hq15 := hq14.ext hb15
        have hr15 := hr14.ext hb15
        clear hcq hcr hbel14 hx14 hq14 hr14 hA14 hB14 hb15
        have hcx := hx15.cell
        go_wp2_with fail
        refine (mnext_any m a c _ (h.below hbel15)).mono ?_
        rintro e w16 ⟨vb, rfl, ho16, hb16⟩
        have hbel16 := below_next hbel15 hb16
        have hx16 := hx15.ext hb16
        have hq16 := hq15.ext hb16
        have hr16 := hr15.ext hb16
        obtain ⟨a16, c16, rfl, _⟩ := mown_rd ho16
        clear hcx hbel15 hx15 hq15 hr15 hb16
        go_wp2_with (refine wpList_stw rfl _ (.tmp 18) (.tmp 148) rfl w5.heap.size #[.slice a16 (nextM m).fs.length c16, .int .i64 (nextM m).hand] rfl rfl _ _ hq16 (mem_fit _ _ _ _ _ _ _ _) mem_size (mem_one _ _ _ _) ?_)
        intro w17 hq17 hgr17
        have hbel17 := hbel16.grown hgr17 hbel16.size (fun k hk => by cases hk; omega)
        have hx17 := hx16.grown hgr17 (fun he => by have := Option.some.inj he; omega)
        have hr17 := hr16.grown hgr17 (fun he => by have := Option.some.inj he; omega)
        have ho17 := own_keep ho16 hq16 (by decide) hgr17
        obtain ⟨_, _, e17, hA17⟩ := mown_rd ho17
        cases e17
        clear hbel16 hx16 hq16 hr16 ho16 ho17 hgr17
        have hcx := hx17.cell
        go_wp2_with fail
        refine (rmnext_any m a c _ (h.below hbel17)).mono ?_
        rintro e w18 ⟨vb, rfl, ⟨a18, c18, rfl, hB18⟩, hb18⟩
        have hbel18 := below_next hbel17 hb18
        have hq18 := hq17.ext hb18
        have hr18 := hr17.ext hb18
        have hA18 := hA17.below hb18
        clear hcx hbel17 hx17 hq17 hr17 hA17 hb18
        go_wp2_with (refine wpList_stw rfl _ (.tmp 20) (.tmp 154) rfl w7.heap.size #[.slice a18 (nextM m).fs.length c18, .int .i64 (nextM m).hand] rfl rfl _ _ hr18 (mem_fit _ _ _ _ _ _ _ _) mem_size (mem_one _ _ _ _) ?_)
        intro w19 hr19 hgr19
        have hbel19 := hbel18.grown hgr19 hbel18.size (fun k hk => by cases hk; omega)
        have hq19 := hq18.grown hgr19 (fun he => by have := Option.some.inj he; omega)
        have hA19 := mrd_kept hA18 hr18 hgr19
        have hB19 := mrd_kept hB18 hr18 hgr19
        clear hbel18 hq18 hr18 hA18 hB18 hgr19
        have hcq := hq19.cell
        have hcr := hr19.cell
        go_wp2_with fail
        refine (msame_any _ _ a16 c16 a18 c18 _ hA19 hB19).mono ?_
        rintro e w20 ⟨rfl, hb20⟩
        rw [sameM_iff.2 rfl]
        go_wp2
        go_ret
        exact ⟨rfl, below_next hbel19 hb20⟩
  · have e1 : newME n = 4 := by unfold newME; rw [if_neg hn]
    rw [e1]
    refine abs1 (fun W => Code.wp _ _ _ _ W) fun w2 hb2 hy2 hs2 => ?_
    have hbel3 := below_next hbel1 hb2
    have hx3 := hx1.ext hb2
    have hp3 := hp1.ext hb2
    clear hbel1 hx1 hp1 hn1 hb2 hs2 hy2 e1
    have hcx := hx3.cell
    have h' : n < 0 ∨ 40 < n := by omega
    clear hn
    rcases h' with hn | hn
    · have n1 : ¬ 0 ≤ n := by omega
      go_wp2
      clear hcx n1 hn
      go_loopw [15, 74] (fun s i wr => ∃ (j q : Nat), j ≤ m.fs.length ∧ i = .int .i64 j ∧ s = .int .i64 q ∧ q ≤ j ∧ Below w.heap.size w wr ∧ Blk wr w.heap.size #[.slice a m.fs.length c, .int .i64 m.hand] 64 ∧ Blk wr (w.heap.size + 1) #[.int .u8 p[0].toNat, .int .u8 p[1].toNat, .int .u8 p[2].toNat, .int .u8 p[3].toNat, .int .u8 p[4].toNat, .int .u8 p[5].toNat, .int .u8 p[6].toNat, .int .u8 p[7].toNat] 23 ∧ Hid (freeN (m.fs.take j) = q)) (fun _ i _ => m.fs.length - (intOf i).toNat)
      case atStart => exact ⟨0, 0, Nat.zero_le _, rfl, rfl, Nat.le_refl _, hbel3, hx3, hp3, Lib.hid rfl⟩
      case round =>
        clear hbel3 hx3 hp3
        obtain ⟨j, q, hj, rfl, rfl, hq, hbel, hx, hp, hf⟩ := hrel
        by_cases hlt : j < m.fs.length
        · obtain ⟨b, off, rfl, hc⟩ := fr_at (h.below hbel).rd j hlt
          obtain ⟨c0, c1, c2, c3, c4, c5, c6, c7, c8, c9, ca, cb, cc⟩ := hc
          have ht := freeN_take m.fs j hlt
          rw [hf.out] at ht
          by_cases hr : m.fs[j].r = 0
          · rw [if_pos hr] at ht
            have ht' := Lib.hid ht
            have hrb : (m.fs[j].r == 0) = true := by simpa using hr
            clear ht hr
            go_wp2
            go_roundw
            case rel => exact ⟨j + 1, q + 1, by omega, by go_num, by go_num, by omega, hbel.alloc hbel.size _, hx.alloc _, hp.alloc _, ht'⟩
            case measure => simp [intOf]; omega
          · rw [if_neg hr] at ht
            have ht' := Lib.hid ht
            have hrb : (m.fs[j].r == 0) = false := by simpa using hr
            clear ht hr
            go_wp2
            go_roundw
            case rel => exact ⟨j + 1, q, by omega, by go_num, rfl, by omega, hbel.alloc hbel.size _, hx.alloc _, hp.alloc _, ht'⟩
            case measure => simp [intOf]; omega
        · have hfin : freeN m.fs = q := by
            have := hf.out
            rw [List.take_of_length_le (by omega)] at this
            exact this
          subst hfin
          clear hf hq
          have hcx := hx.cell
          have hcp := hp.cell
          go_wp2_with fail
          refine (mtake_any m p file index a c _ (h.below hbel)).mono ?_
          rintro e w5 ⟨vb, rfl, ho5, hb5⟩
          have hbel5 := below_next hbel hb5
          have hx5 := hx.ext hb5
          have hp5 := hp.ext hb5
          obtain ⟨a5, c5, rfl, hA5⟩ := mown_rd ho5
          clear hcx hcp hbel hx hp hb5 ho5
          go_upto_region 14 with (fail)
          refine abs1 (fun W => Code.wp _ _ _ _ W) fun w6 hb6 hq6 hs6 => ?_
          have hbel6 := below_next hbel5 hb6
          have hx6 := hx5.ext hb6
          have hp6 := hp5.ext hb6
          have hA6 := hA5.below hb6
          have hg6 : w.heap.size + 2 ≤ w5.heap.size := by have := hp5.lt; omega
          clear hbel5 hx5 hp5 hA5 hb6 hs6
          have hcx := hx6.cell
          have hcp := hp6.cell
          go_wp2_with fail
          refine (rmtake_any m p file index a c _ (h.below hbel6)).mono ?_
          rintro e w7 ⟨vb, rfl, ho7, hb7⟩
          have hbel7 := below_next hbel6 hb7
          have hx7 := hx6.ext hb7
          have hq7 := hq6.ext hb7
          have hA7 := hA6.below hb7
          have hg7 : w5.heap.size < w7.heap.size := hq7.lt
          obtain ⟨a7, c7, rfl, hB7⟩ := mown_rd ho7
          clear hcx hcp hbel6 hx6 hp6 hq6 hA6 hb7 ho7
          go_upto_region 15 with (fail)
          refine abs1 (fun W => Code.wp _ _ _ _ W) fun w8 hb8 hr8 hs8 => ?_
          have hbel8 := below_next hbel7 hb8
          have hx8 := hx7.ext hb8
          have hq8 := hq7.ext hb8
          have hA8 := hA7.below hb8
          have hB8 := hB7.below hb8
          clear hbel7 hx7 hq7 hA7 hB7 hb8 hs8
          have hcx := hx8.cell
          go_wp2_with fail
          refine (mfree_any m a c _ (h.below hbel8)).mono ?_
          rintro e w9 ⟨rfl, hb9⟩
          have hbel9 := below_next hbel8 hb9
          have hx9 := hx8.ext hb9
          have hq9 := hq8.ext hb9
          have hr9 := hr8.ext hb9
          have hA9 := hA8.below hb9
          have hB9 := hB8.below hb9
          clear hcx hbel8 hx8 hq8 hr8 hA8 hB8 hb9
          have hcq := hq9.cell
          have hcr := hr9.cell
          go_wp2_with fail
          refine (msame_any _ _ a5 c5 a7 c7 _ hA9 hB9).mono ?_
          rintro e w10 ⟨rfl, hb10⟩
          rw [sameM_iff.2 rfl]
          have hbel10 := below_next hbel9 hb10
          have hx10 := hx9.ext hb10
          have hq10 := hq9.ext hb10
          have hr10 := hr9.ext hb10
          clear hcq hcr hbel9 hx9 hq9 hr9 hA9 hB9 hb10
          have hcx := hx10.cell
          go_wp2_with fail
          refine (mhold_any m k n a c _ (h.below hbel10)).mono ?_
          rintro e w11 ⟨vb, rfl, ho11, hb11⟩
          have hbel11 := below_next hbel10 hb11
          have hx11 := hx10.ext hb11
          have hq11 := hq10.ext hb11
          have hr11 := hr10.ext hb11
          obtain ⟨a11, c11, rfl, _⟩ := mown_rd ho11
          clear hcx hbel10 hx10 hq10 hr10 hb11
          go_wp2_with (refine wpList_stw rfl _ (.tmp 18) (.tmp 127) rfl w5.heap.size #[.slice a11 (holdM m k n).fs.length c11, .int .i64 (holdM m k n).hand] rfl rfl _ _ hq11 (mem_fit _ _ _ _ _ _ _ _) mem_size (mem_one _ _ _ _) ?_)
          intro w12 hq12 hgr12
          have hbel12 := hbel11.grown hgr12 hbel11.size (fun k hk => by cases hk; omega)
          have hx12 := hx11.grown hgr12 (fun he => by have := Option.some.inj he; omega)
          have hr12 := hr11.grown hgr12 (fun he => by have := Option.some.inj he; omega)
          have ho12 := own_keep ho11 hq11 (by decide) hgr12
          obtain ⟨_, _, e12, hA12⟩ := mown_rd ho12
          cases e12
          clear hbel11 hx11 hq11 hr11 ho11 ho12 hgr12
          have hcx := hx12.cell
          go_wp2_with fail
          refine (rmhold_any m k n a c _ (h.below hbel12)).mono ?_
          rintro e w13 ⟨vb, rfl, ho13, hb13⟩
          have hbel13 := below_next hbel12 hb13
          have hx13 := hx12.ext hb13
          have hq13 := hq12.ext hb13
          have hr13 := hr12.ext hb13
          have hA13 := hA12.below hb13
          obtain ⟨a13, c13, rfl, _⟩ := mown_rd ho13
          clear hcx hbel12 hx12 hq12 hr12 hA12 hb13
          go_wp2_with (refine wpList_stw rfl _ (.tmp 20) (.tmp 134) rfl w7.heap.size #[.slice a13 (holdM m k n).fs.length c13, .int .i64 (holdM m k n).hand] rfl rfl _ _ hr13 (mem_fit _ _ _ _ _ _ _ _) mem_size (mem_one _ _ _ _) ?_)
          intro w14 hr14 hgr14
          have hbel14 := hbel13.grown hgr14 hbel13.size (fun k hk => by cases hk; omega)
          have hx14 := hx13.grown hgr14 (fun he => by have := Option.some.inj he; omega)
          have hq14 := hq13.grown hgr14 (fun he => by have := Option.some.inj he; omega)
          have ho14 := own_keep ho13 hr13 (by decide) hgr14
          obtain ⟨_, _, e14, hB14⟩ := mown_rd ho14
          cases e14
          have hA14 := mrd_kept hA13 hr13 hgr14
          clear hbel13 hx13 hq13 hr13 ho13 ho14 hA13 hgr14
          have hcq := hq14.cell
          have hcr := hr14.cell
          go_wp2_with fail
          refine (msame_any _ _ a11 c11 a13 c13 _ hA14 hB14).mono ?_
          rintro e w15 ⟨rfl, hb15⟩
          rw [sameM_iff.2 rfl]
          have hbel15 := below_next hbel14 hb15
          have hx15 := hx14.ext hb15
          have hq15 := hq14.ext hb15
          have hr15 := hr14.ext hb15
          clear hcq hcr hbel14 hx14 hq14 hr14 hA14 hB14 hb15
          have hcx := hx15.cell
          go_wp2_with fail
          refine (mnext_any m a c _ (h.below hbel15)).mono ?_
          rintro e w16 ⟨vb, rfl, ho16, hb16⟩
          have hbel16 := below_next hbel15 hb16
          have hx16 := hx15.ext hb16
          have hq16 := hq15.ext hb16
          have hr16 := hr15.ext hb16
          obtain ⟨a16, c16, rfl, _⟩ := mown_rd ho16
          clear hcx hbel15 hx15 hq15 hr15 hb16
          go_wp2_with (refine wpList_stw rfl _ (.tmp 18) (.tmp 148) rfl w5.heap.size #[.slice a16 (nextM m).fs.length c16, .int .i64 (nextM m).hand] rfl rfl _ _ hq16 (mem_fit _ _ _ _ _ _ _ _) mem_size (mem_one _ _ _ _) ?_)
          intro w17 hq17 hgr17
          have hbel17 := hbel16.grown hgr17 hbel16.size (fun k hk => by cases hk; omega)
          have hx17 := hx16.grown hgr17 (fun he => by have := Option.some.inj he; omega)
          have hr17 := hr16.grown hgr17 (fun he => by have := Option.some.inj he; omega)
          have ho17 := own_keep ho16 hq16 (by decide) hgr17
          obtain ⟨_, _, e17, hA17⟩ := mown_rd ho17
          cases e17
          clear hbel16 hx16 hq16 hr16 ho16 ho17 hgr17
          have hcx := hx17.cell
          go_wp2_with fail
          refine (rmnext_any m a c _ (h.below hbel17)).mono ?_
          rintro e w18 ⟨vb, rfl, ⟨a18, c18, rfl, hB18⟩, hb18⟩
          have hbel18 := below_next hbel17 hb18
          have hq18 := hq17.ext hb18
          have hr18 := hr17.ext hb18
          have hA18 := hA17.below hb18
          clear hcx hbel17 hx17 hq17 hr17 hA17 hb18
          go_wp2_with (refine wpList_stw rfl _ (.tmp 20) (.tmp 154) rfl w7.heap.size #[.slice a18 (nextM m).fs.length c18, .int .i64 (nextM m).hand] rfl rfl _ _ hr18 (mem_fit _ _ _ _ _ _ _ _) mem_size (mem_one _ _ _ _) ?_)
          intro w19 hr19 hgr19
          have hbel19 := hbel18.grown hgr19 hbel18.size (fun k hk => by cases hk; omega)
          have hq19 := hq18.grown hgr19 (fun he => by have := Option.some.inj he; omega)
          have hA19 := mrd_kept hA18 hr18 hgr19
          have hB19 := mrd_kept hB18 hr18 hgr19
          clear hbel18 hq18 hr18 hA18 hB18 hgr19
          have hcq := hq19.cell
          have hcr := hr19.cell
          go_wp2_with fail
          refine (msame_any _ _ a16 c16 a18 c18 _ hA19 hB19).mono ?_
          rintro e w20 ⟨rfl, hb20⟩
          rw [sameM_iff.2 rfl]
          go_wp2
          go_ret
          exact ⟨rfl, below_next hbel19 hb20⟩
    · have n1 : 0 ≤ n := by omega
      have n2 : ¬ n ≤ 40 := by omega
      go_wp2
      clear hcx n1 n2 hn
      go_loopw [15, 74] (fun s i wr => ∃ (j q : Nat), j ≤ m.fs.length ∧ i = .int .i64 j ∧ s = .int .i64 q ∧ q ≤ j ∧ Below w.heap.size w wr ∧ Blk wr w.heap.size #[.slice a m.fs.length c, .int .i64 m.hand] 64 ∧ Blk wr (w.heap.size + 1) #[.int .u8 p[0].toNat, .int .u8 p[1].toNat, .int .u8 p[2].toNat, .int .u8 p[3].toNat, .int .u8 p[4].toNat, .int .u8 p[5].toNat, .int .u8 p[6].toNat, .int .u8 p[7].toNat] 23 ∧ Hid (freeN (m.fs.take j) = q)) (fun _ i _ => m.fs.length - (intOf i).toNat)
      case atStart => exact ⟨0, 0, Nat.zero_le _, rfl, rfl, Nat.le_refl _, hbel3, hx3, hp3, Lib.hid rfl⟩
      case round =>
        clear hbel3 hx3 hp3
        obtain ⟨j, q, hj, rfl, rfl, hq, hbel, hx, hp, hf⟩ := hrel
        by_cases hlt : j < m.fs.length
        · obtain ⟨b, off, rfl, hc⟩ := fr_at (h.below hbel).rd j hlt
          obtain ⟨c0, c1, c2, c3, c4, c5, c6, c7, c8, c9, ca, cb, cc⟩ := hc
          have ht := freeN_take m.fs j hlt
          rw [hf.out] at ht
          by_cases hr : m.fs[j].r = 0
          · rw [if_pos hr] at ht
            have ht' := Lib.hid ht
            have hrb : (m.fs[j].r == 0) = true := by simpa using hr
            clear ht hr
            go_wp2
            go_roundw
            case rel => exact ⟨j + 1, q + 1, by omega, by go_num, by go_num, by omega, hbel.alloc hbel.size _, hx.alloc _, hp.alloc _, ht'⟩
            case measure => simp [intOf]; omega
          · rw [if_neg hr] at ht
            have ht' := Lib.hid ht
            have hrb : (m.fs[j].r == 0) = false := by simpa using hr
            clear ht hr
            go_wp2
            go_roundw
            case rel => exact ⟨j + 1, q, by omega, by go_num, rfl, by omega, hbel.alloc hbel.size _, hx.alloc _, hp.alloc _, ht'⟩
            case measure => simp [intOf]; omega
        · have hfin : freeN m.fs = q := by
            have := hf.out
            rw [List.take_of_length_le (by omega)] at this
            exact this
          subst hfin
          clear hf hq
          have hcx := hx.cell
          have hcp := hp.cell
          go_wp2_with fail
          refine (mtake_any m p file index a c _ (h.below hbel)).mono ?_
          rintro e w5 ⟨vb, rfl, ho5, hb5⟩
          have hbel5 := below_next hbel hb5
          have hx5 := hx.ext hb5
          have hp5 := hp.ext hb5
          obtain ⟨a5, c5, rfl, hA5⟩ := mown_rd ho5
          clear hcx hcp hbel hx hp hb5 ho5
          go_upto_region 14 with (fail)
          refine abs1 (fun W => Code.wp _ _ _ _ W) fun w6 hb6 hq6 hs6 => ?_
          have hbel6 := below_next hbel5 hb6
          have hx6 := hx5.ext hb6
          have hp6 := hp5.ext hb6
          have hA6 := hA5.below hb6
          have hg6 : w.heap.size + 2 ≤ w5.heap.size := by have := hp5.lt; omega
          clear hbel5 hx5 hp5 hA5 hb6 hs6
          have hcx := hx6.cell
          have hcp := hp6.cell
          go_wp2_with fail
          refine (rmtake_any m p file index a c _ (h.below hbel6)).mono ?_
          rintro e w7 ⟨vb, rfl, ho7, hb7⟩
          have hbel7 := below_next hbel6 hb7
          have hx7 := hx6.ext hb7
          have hq7 := hq6.ext hb7
          have hA7 := hA6.below hb7
          have hg7 : w5.heap.size < w7.heap.size := hq7.lt
          obtain ⟨a7, c7, rfl, hB7⟩ := mown_rd ho7
          clear hcx hcp hbel6 hx6 hp6 hq6 hA6 hb7 ho7
          go_upto_region 15 with (fail)
          refine abs1 (fun W => Code.wp _ _ _ _ W) fun w8 hb8 hr8 hs8 => ?_
          have hbel8 := below_next hbel7 hb8
          have hx8 := hx7.ext hb8
          have hq8 := hq7.ext hb8
          have hA8 := hA7.below hb8
          have hB8 := hB7.below hb8
          clear hbel7 hx7 hq7 hA7 hB7 hb8 hs8
          have hcx := hx8.cell
          go_wp2_with fail
          refine (mfree_any m a c _ (h.below hbel8)).mono ?_
          rintro e w9 ⟨rfl, hb9⟩
          have hbel9 := below_next hbel8 hb9
          have hx9 := hx8.ext hb9
          have hq9 := hq8.ext hb9
          have hr9 := hr8.ext hb9
          have hA9 := hA8.below hb9
          have hB9 := hB8.below hb9
          clear hcx hbel8 hx8 hq8 hr8 hA8 hB8 hb9
          have hcq := hq9.cell
          have hcr := hr9.cell
          go_wp2_with fail
          refine (msame_any _ _ a5 c5 a7 c7 _ hA9 hB9).mono ?_
          rintro e w10 ⟨rfl, hb10⟩
          rw [sameM_iff.2 rfl]
          have hbel10 := below_next hbel9 hb10
          have hx10 := hx9.ext hb10
          have hq10 := hq9.ext hb10
          have hr10 := hr9.ext hb10
          clear hcq hcr hbel9 hx9 hq9 hr9 hA9 hB9 hb10
          have hcx := hx10.cell
          go_wp2_with fail
          refine (mhold_any m k n a c _ (h.below hbel10)).mono ?_
          rintro e w11 ⟨vb, rfl, ho11, hb11⟩
          have hbel11 := below_next hbel10 hb11
          have hx11 := hx10.ext hb11
          have hq11 := hq10.ext hb11
          have hr11 := hr10.ext hb11
          obtain ⟨a11, c11, rfl, _⟩ := mown_rd ho11
          clear hcx hbel10 hx10 hq10 hr10 hb11
          go_wp2_with (refine wpList_stw rfl _ (.tmp 18) (.tmp 127) rfl w5.heap.size #[.slice a11 (holdM m k n).fs.length c11, .int .i64 (holdM m k n).hand] rfl rfl _ _ hq11 (mem_fit _ _ _ _ _ _ _ _) mem_size (mem_one _ _ _ _) ?_)
          intro w12 hq12 hgr12
          have hbel12 := hbel11.grown hgr12 hbel11.size (fun k hk => by cases hk; omega)
          have hx12 := hx11.grown hgr12 (fun he => by have := Option.some.inj he; omega)
          have hr12 := hr11.grown hgr12 (fun he => by have := Option.some.inj he; omega)
          have ho12 := own_keep ho11 hq11 (by decide) hgr12
          obtain ⟨_, _, e12, hA12⟩ := mown_rd ho12
          cases e12
          clear hbel11 hx11 hq11 hr11 ho11 ho12 hgr12
          have hcx := hx12.cell
          go_wp2_with fail
          refine (rmhold_any m k n a c _ (h.below hbel12)).mono ?_
          rintro e w13 ⟨vb, rfl, ho13, hb13⟩
          have hbel13 := below_next hbel12 hb13
          have hx13 := hx12.ext hb13
          have hq13 := hq12.ext hb13
          have hr13 := hr12.ext hb13
          have hA13 := hA12.below hb13
          obtain ⟨a13, c13, rfl, _⟩ := mown_rd ho13
          clear hcx hbel12 hx12 hq12 hr12 hA12 hb13
          go_wp2_with (refine wpList_stw rfl _ (.tmp 20) (.tmp 134) rfl w7.heap.size #[.slice a13 (holdM m k n).fs.length c13, .int .i64 (holdM m k n).hand] rfl rfl _ _ hr13 (mem_fit _ _ _ _ _ _ _ _) mem_size (mem_one _ _ _ _) ?_)
          intro w14 hr14 hgr14
          have hbel14 := hbel13.grown hgr14 hbel13.size (fun k hk => by cases hk; omega)
          have hx14 := hx13.grown hgr14 (fun he => by have := Option.some.inj he; omega)
          have hq14 := hq13.grown hgr14 (fun he => by have := Option.some.inj he; omega)
          have ho14 := own_keep ho13 hr13 (by decide) hgr14
          obtain ⟨_, _, e14, hB14⟩ := mown_rd ho14
          cases e14
          have hA14 := mrd_kept hA13 hr13 hgr14
          clear hbel13 hx13 hq13 hr13 ho13 ho14 hA13 hgr14
          have hcq := hq14.cell
          have hcr := hr14.cell
          go_wp2_with fail
          refine (msame_any _ _ a11 c11 a13 c13 _ hA14 hB14).mono ?_
          rintro e w15 ⟨rfl, hb15⟩
          rw [sameM_iff.2 rfl]
          have hbel15 := below_next hbel14 hb15
          have hx15 := hx14.ext hb15
          have hq15 := hq14.ext hb15
          have hr15 := hr14.ext hb15
          clear hcq hcr hbel14 hx14 hq14 hr14 hA14 hB14 hb15
          have hcx := hx15.cell
          go_wp2_with fail
          refine (mnext_any m a c _ (h.below hbel15)).mono ?_
          rintro e w16 ⟨vb, rfl, ho16, hb16⟩
          have hbel16 := below_next hbel15 hb16
          have hx16 := hx15.ext hb16
          have hq16 := hq15.ext hb16
          have hr16 := hr15.ext hb16
          obtain ⟨a16, c16, rfl, _⟩ := mown_rd ho16
          clear hcx hbel15 hx15 hq15 hr15 hb16
          go_wp2_with (refine wpList_stw rfl _ (.tmp 18) (.tmp 148) rfl w5.heap.size #[.slice a16 (nextM m).fs.length c16, .int .i64 (nextM m).hand] rfl rfl _ _ hq16 (mem_fit _ _ _ _ _ _ _ _) mem_size (mem_one _ _ _ _) ?_)
          intro w17 hq17 hgr17
          have hbel17 := hbel16.grown hgr17 hbel16.size (fun k hk => by cases hk; omega)
          have hx17 := hx16.grown hgr17 (fun he => by have := Option.some.inj he; omega)
          have hr17 := hr16.grown hgr17 (fun he => by have := Option.some.inj he; omega)
          have ho17 := own_keep ho16 hq16 (by decide) hgr17
          obtain ⟨_, _, e17, hA17⟩ := mown_rd ho17
          cases e17
          clear hbel16 hx16 hq16 hr16 ho16 ho17 hgr17
          have hcx := hx17.cell
          go_wp2_with fail
          refine (rmnext_any m a c _ (h.below hbel17)).mono ?_
          rintro e w18 ⟨vb, rfl, ⟨a18, c18, rfl, hB18⟩, hb18⟩
          have hbel18 := below_next hbel17 hb18
          have hq18 := hq17.ext hb18
          have hr18 := hr17.ext hb18
          have hA18 := hA17.below hb18
          clear hcx hbel17 hx17 hq17 hr17 hA17 hb18
          go_wp2_with (refine wpList_stw rfl _ (.tmp 20) (.tmp 154) rfl w7.heap.size #[.slice a18 (nextM m).fs.length c18, .int .i64 (nextM m).hand] rfl rfl _ _ hr18 (mem_fit _ _ _ _ _ _ _ _) mem_size (mem_one _ _ _ _) ?_)
          intro w19 hr19 hgr19
          have hbel19 := hbel18.grown hgr19 hbel18.size (fun k hk => by cases hk; omega)
          have hq19 := hq18.grown hgr19 (fun he => by have := Option.some.inj he; omega)
          have hA19 := mrd_kept hA18 hr18 hgr19
          have hB19 := mrd_kept hB18 hr18 hgr19
          clear hbel18 hq18 hr18 hA18 hB18 hgr19
          have hcq := hq19.cell
          have hcr := hr19.cell
          go_wp2_with fail
          refine (msame_any _ _ a16 c16 a18 c18 _ hA19 hB19).mono ?_
          rintro e w20 ⟨rfl, hb20⟩
          rw [sameM_iff.2 rfl]
          go_wp2
          go_ret
          exact ⟨rfl, below_next hbel19 hb20⟩
end Go.Proofs.Ytohbfjbcfibhcaa
