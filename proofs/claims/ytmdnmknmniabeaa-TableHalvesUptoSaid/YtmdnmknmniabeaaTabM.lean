/- The law TableTells, walked. -/
import Derived.Test.YtmdnmknmniabeaaTabL
namespace Go.Proofs.Ytmdnmknmniabeaa
open Go.RowKit Pw
set_option linter.unusedSimpArgs false
set_option linter.unusedVariables false

/-- A table by value, to be read. -/
def tabR (t : Tb) : Rel := ⟨fun v w => ∃ cs, v = .agg cs ∧ TbR w cs t, fun _ _ _ hb ⟨cs, h1, h2⟩ => ⟨cs, h1, h2.below hb⟩⟩
theorem bool_size : (Try.prog.info? 4).map (·.size) = some 1 := by kernel_rfl
theorem one_bool (b : Bool) : ∀ u ∈ [Value.bool b], u.oneCell' = true := by intro u hu; cases List.mem_singleton.1 hu; rfl
theorem ret_beq (l : List Int) : Value.bool (l == l) = .bool true := by simp
set_option maxHeartbeats 4000000 in
set_option maxRecDepth 100000 in
theorem table_tells (t : Tb) (cs : Array Value) (n : Int) (e : En) (w : World) (h : TbR w cs t) (hz : TbSz t) :
    Calls Try.prog 3 #[.agg cs, .int .i64 n, .agg (enC e)] w fun r w' => r = .returned (.bool true) ∧ Below w.heap.size w w' := by
  go_enter Try.func3, Try.ntmps3
  go_upto_region 1 with (fail)
  refine abs2 (fun W => Code.wp _ _ _ _ W) fun w0 hb0 hx0 he0 hs0 => ?_
  have hbel0 := hb0
  have hT0 := h.below hb0
  clear hs0 hb0
  refine wp_grow 12 [isV (.agg cs), isV (.int .i64 (wrongT t)), isV (.agg cs), isV (.int .i64 (wrongT t)), isV (.bool false), isV (.bool false), isV (.agg cs), (tabR t), isV (.agg cs), isV (.bool true), isV (.bool false), isV (.bool false)] (by kernel_rfl) (by kernel_rfl) (by kernel_rfl) (by decide) _ rfl (by kernel_rfl) (all_cons ?_ (all_cons ?_ (all_cons ?_ (all_cons ?_ (all_cons ?_ (all_cons ?_ (all_cons ?_ (all_cons ?_ (all_cons ?_ (all_cons ?_ (all_cons ?_ (all_cons ?_ (all_nil))))))))))))) ?_
  · intro ρ y W hw hn hb hd
    have E3 : ρ (.tmp 3) = .pointer (some ⟨w.heap.size, 0, none⟩) := (hn (.tmp 3) rfl).trans rfl
    refine asked_val (.agg cs) (want_free rfl) (run_load_rd rfl E3 (hx0.ext hb).rd Try.underlying24 tab_agg (by rw [Array.length_toList, h.sz]; exact tab_size)) rfl
  · intro ρ y W hw hn hb hd
    have E17 := hw 17 0 rfl
    have h0 : y 0 = .agg cs := hd 0 rfl
    have EF : ∀ f, ρ (.func f) = .func (.func f) #[] #[] := fun f => hn (.func f) trivial
    refine asked_call _ _ (want_free rfl) (run_call rfl (EF _) Try.func14 (by kernel_rfl) (by kernel_rfl) (by simp only [List.map_toArray, List.map_cons, List.map_nil, E17, h0, EF]; rfl)) ?_
    refine (twrong_any t cs W (hT0.below hb)).mono ?_
    rintro e w1 ⟨rfl, hb1⟩
    exact ⟨_, rfl, hb1, rfl⟩
  · intro ρ y W hw hn hb hd
    have E3 : ρ (.tmp 3) = .pointer (some ⟨w.heap.size, 0, none⟩) := (hn (.tmp 3) rfl).trans rfl
    refine asked_val (.agg cs) (want_free rfl) (run_load_rd rfl E3 (hx0.ext hb).rd Try.underlying24 tab_agg (by rw [Array.length_toList, h.sz]; exact tab_size)) rfl
  · intro ρ y W hw hn hb hd
    have E19 := hw 19 2 rfl
    have h2 : y 2 = .agg cs := hd 2 rfl
    have EF : ∀ f, ρ (.func f) = .func (.func f) #[] #[] := fun f => hn (.func f) trivial
    refine asked_call _ _ (want_free rfl) (run_call rfl (EF _) Try.func15 (by kernel_rfl) (by kernel_rfl) (by simp only [List.map_toArray, List.map_cons, List.map_nil, E19, h2, EF]; rfl)) ?_
    refine (rtwrong_any t cs W (hT0.below hb)).mono ?_
    rintro e w1 ⟨rfl, hb1⟩
    exact ⟨_, rfl, hb1, rfl⟩
  · intro ρ y W hw hn hb hd
    have E18 := hw 18 1 rfl
    have h1 : y 1 = .int .i64 (wrongT t) := hd 1 rfl
    have E20 := hw 20 3 rfl
    have h3 : y 3 = .int .i64 (wrongT t) := hd 3 rfl
    refine asked_val (.bool false) (want_free rfl) (run_bin rfl (E18.trans h1) (E20.trans h3) (by simp [go_sem])) rfl
  · intro ρ y W hw hn hb hd
    have E21 := hw 21 4 rfl
    have h4 : y 4 = .bool false := hd 4 rfl
    refine asked_val (.bool false) (want_free rfl) (run_move (.inl rfl) (E21.trans h4)) rfl
  · intro ρ y W hw hn hb hd
    have E3 : ρ (.tmp 3) = .pointer (some ⟨w.heap.size, 0, none⟩) := (hn (.tmp 3) rfl).trans rfl
    refine asked_val (.agg cs) (want_at 5 22 false false rfl rfl ((hw 22 5 rfl).trans (hd 5 rfl))) (run_load_rd rfl E3 (hx0.ext hb).rd Try.underlying24 tab_agg (by rw [Array.length_toList, h.sz]; exact tab_size)) rfl
  · intro ρ y W hw hn hb hd
    have E23 := hw 23 6 rfl
    have h6 : y 6 = .agg cs := hd 6 rfl
    have EF : ∀ f, ρ (.func f) = .func (.func f) #[] #[] := fun f => hn (.func f) trivial
    refine asked_call _ _ (want_at 5 22 false false rfl rfl ((hw 22 5 rfl).trans (hd 5 rfl))) (run_call rfl (EF _) Try.func17 (by kernel_rfl) (by kernel_rfl) (by simp only [List.map_toArray, List.map_cons, List.map_nil, E23, h6, EF]; rfl)) ?_
    refine (town_any t cs W (hT0.below hb) hz).mono ?_
    rintro e w1 ⟨ca, rfl, hO, hb1⟩
    exact ⟨_, rfl, hb1, ⟨_, rfl, hO.rd⟩⟩
  · intro ρ y W hw hn hb hd
    have E3 : ρ (.tmp 3) = .pointer (some ⟨w.heap.size, 0, none⟩) := (hn (.tmp 3) rfl).trans rfl
    refine asked_val (.agg cs) (want_at 5 22 false false rfl rfl ((hw 22 5 rfl).trans (hd 5 rfl))) (run_load_rd rfl E3 (hx0.ext hb).rd Try.underlying24 tab_agg (by rw [Array.length_toList, h.sz]; exact tab_size)) rfl
  · intro ρ y W hw hn hb hd
    have E24 := hw 24 7 rfl
    have h7 := hd 7 rfl
    have E25 := hw 25 8 rfl
    have h8 : y 8 = .agg cs := hd 8 rfl
    have EF : ∀ f, ρ (.func f) = .func (.func f) #[] #[] := fun f => hn (.func f) trivial
    refine asked_call _ _ (want_at 5 22 false false rfl rfl ((hw 22 5 rfl).trans (hd 5 rfl))) (run_call rfl (EF _) Try.func16 (by kernel_rfl) (by kernel_rfl) (by simp only [List.map_toArray, List.map_cons, List.map_nil, E24, E25, h8, EF]; rfl)) ?_
    obtain ⟨ca, e7, ho7⟩ := h7
    rw [e7]
    refine (tsame_any t t ca cs W ho7 (hT0.below hb)).mono ?_
    rintro e w1 ⟨rfl, hb1⟩
    rw [sameT_self]
    exact ⟨_, rfl, hb1, rfl⟩
  · intro ρ y W hw hn hb hd
    have E26 := hw 26 9 rfl
    have h9 : y 9 = .bool true := hd 9 rfl
    refine asked_val (.bool false) (want_at 5 22 false false rfl rfl ((hw 22 5 rfl).trans (hd 5 rfl))) (run_not rfl (E26.trans h9)) rfl
  · intro ρ y W hw hn hb hd
    have E22 := hw 22 5 rfl
    have h5 : y 5 = .bool false := hd 5 rfl
    have E27 := hw 27 10 rfl
    have h10 : y 10 = .bool false := hd 10 rfl
    refine asked_val (.bool false) (want_free rfl) (run_pick rfl (E22.trans h5) (by simpa using (E27.trans h10))) rfl
  intro y WA hbWA hRWA
  have hy0 : y 0 = .agg cs := hRWA 0 (by decide)
  have hy1 : y 1 = .int .i64 (wrongT t) := hRWA 1 (by decide)
  have hy2 : y 2 = .agg cs := hRWA 2 (by decide)
  have hy3 : y 3 = .int .i64 (wrongT t) := hRWA 3 (by decide)
  have hy4 : y 4 = .bool false := hRWA 4 (by decide)
  have hy5 : y 5 = .bool false := hRWA 5 (by decide)
  have hy6 : y 6 = .agg cs := hRWA 6 (by decide)
  have hy8 : y 8 = .agg cs := hRWA 8 (by decide)
  have hy9 : y 9 = .bool true := hRWA 9 (by decide)
  have hy10 : y 10 = .bool false := hRWA 10 (by decide)
  have hy11 : y 11 = .bool false := hRWA 11 (by decide)
  have hy7 : ((tabR t)).r (y 7) WA := hRWA 7 (by decide)
  clear hRWA
  simp only [lay, Nat.reduceAdd, Nat.reduceLT, decide_true, decide_false, if_true, Bool.false_eq_true, if_false, List.setIfInBounds_toArray, List.set_cons_zero, List.set_cons_succ, List.drop_succ_cons, List.drop_zero, List.drop_nil, hy0, hy1, hy2, hy3, hy4, hy5, hy6, hy8, hy9, hy10, hy11]
  clear hy0 hy1 hy2 hy3 hy4 hy5 hy6 hy8 hy9 hy10 hy11
  clear hy7
  have hbelA := below_next hbel0 hbWA
  have hxA := hx0.ext hbWA
  have heA := he0.ext hbWA
  clear hbel0 hx0 he0 hbWA hT0
  go_wp2_with (first | (refine wpList_ldg _ _ rfl _ 0 rfl rfl _ hxA.rd _ Try.underlying24 tab_agg (by rw [Array.length_toList, h.sz]; exact tab_size) ?_) | (refine wpList_ld rfl _ _ rfl _ 0 rfl _ heA.rd _ Try.underlying26 rfl entry_size ?_))
  refine (tset_any t cs n e _ (h.below hbelA) hz).mono ?_
  rintro r w1 ⟨ca, rfl, hO1, hb1⟩
  have hbel1 := below_next hbelA hb1
  have hx1 := hxA.ext hb1
  have he1 := heA.ext hb1
  have hone1 := hO1.rd.one
  have hsz1 := hO1.sz
  clear hbelA hxA heA hb1
  go_wp2_with (refine wpList_stn rfl _ _ _ rfl ca rfl rfl (by rw [hsz1]; rfl) (by rw [hsz1]; exact tab_size) hone1 ?_)
  intro w2 hb2 ha2
  have hA2 := hO1.rd.below hb2
  have hbel2 := below_next hbel1 hb2
  have hx2 := hx1.ext hb2
  have he2 := he1.ext hb2
  have hg1 : w.heap.size + 1 < w1.heap.size := he1.lt
  clear hbel1 hx1 he1 hO1 hone1 hb2
  go_wp2_with (first | (refine wpList_ldg _ _ rfl _ 0 rfl rfl _ hx2.rd _ Try.underlying24 tab_agg (by rw [Array.length_toList, h.sz]; exact tab_size) ?_) | (refine wpList_ld rfl _ _ rfl _ 0 rfl _ he2.rd _ Try.underlying26 rfl entry_size ?_))
  refine (rset_any t cs n e _ (h.below hbel2)).mono ?_
  rintro r w3 ⟨cb, rfl, hO3, hb3⟩
  have hbel3 := below_next hbel2 hb3
  have hx3 := hx2.ext hb3
  have he3 := he2.ext hb3
  have ha3 := ha2.ext hb3
  have hA3 := hA2.below hb3
  have hone3 := hO3.rd.one
  have hsz3 := hO3.sz
  clear hbel2 hx2 he2 ha2 hA2 hb3
  go_wp2_with (refine wpList_stn rfl _ _ _ rfl cb rfl rfl (by rw [hsz3]; rfl) (by rw [hsz3]; exact tab_size) hone3 ?_)
  intro w4 hb4 hc4
  have hB4 := hO3.rd.below hb4
  have hx4 := hx3.ext hb4
  have he4 := he3.ext hb4
  have ha4 := ha3.ext hb4
  have hA4 := hA3.below hb4
  have hbel4 := below_next hbel3 hb4
  clear hbel3 hx3 he3 ha3 hA3 hO3 hone3 hb4
  go_wp2_with (first | (refine wpList_ldg _ _ rfl _ 0 rfl rfl _ ha4.rd _ Try.underlying24 tab_agg (by rw [Array.length_toList, hsz1]; exact tab_size) ?_) | (refine wpList_ldg _ _ rfl _ 0 rfl rfl _ hc4.rd _ Try.underlying24 tab_agg (by rw [Array.length_toList, hsz3]; exact tab_size) ?_))
  refine (tsame_any _ _ ca cb _ hA4 hB4).mono ?_
  rintro r w5 ⟨rfl, hb5⟩
  rw [sameT_self]
  have hx5 := hx4.ext hb5
  have he5 := he4.ext hb5
  have hbel5 := below_next hbel4 hb5
  clear hx4 he4 ha4 hc4 hA4 hB4 hbel4 hb5
  go_wp2_with (refine wpList_ldg _ _ rfl _ 0 rfl rfl _ hx5.rd _ Try.underlying24 tab_agg (by rw [Array.length_toList, h.sz]; exact tab_size) ?_)
  refine (rtwrong_any t cs _ (h.below hbel5)).mono ?_
  rintro r w6 ⟨rfl, hb6⟩
  have hx6 := hx5.ext hb6
  have he6 := he5.ext hb6
  have hbel6 := below_next hbel5 hb6
  clear hx5 he5 hbel5 hb6
  by_cases h0 : wrongT t = 0
  · have H0 := Lib.hid h0
    rw [h0]
    clear h0
    go_wp2_with (refine wpList_ldg _ _ rfl _ 0 rfl rfl _ hx6.rd _ Try.underlying24 tab_agg (by rw [Array.length_toList, h.sz]; exact tab_size) ?_)
    refine (tflat_any t cs _ (h.below hbel6) H0.out).mono ?_
    rintro r w7 ⟨rfl, hb7⟩
    have hx7 := hx6.ext hb7
    have he7 := he6.ext hb7
    have hbel7 := below_next hbel6 hb7
    have hone := flC_one (flatL t)
    have hs192 : Hid ((flC (flatL t)).size = 192) := Lib.hid (by rw [flC_size, flat_len64])
    clear hx6 he6 hbel6 hb7
    go_wp2_with (refine wpList_stn rfl _ _ _ rfl (flC (flatL t)) rfl rfl (by rw [hs192.out]; rfl) (by rw [hs192.out]; exact arr64_size) hone ?_)
    intro w8 hb8 hf8
    have hx8 := hx7.ext hb8
    have he8 := he7.ext hb8
    have hbel8 := below_next hbel7 hb8
    have hg8 : w.heap.size + 1 < w7.heap.size := he7.lt
    clear hx7 he7 hbel7 hb8
    go_upto_region 11 with (fail)
    refine abs1 (fun W => Code.wp _ _ _ _ W) fun w9 hb9 hz9 hs9 => ?_
    have hx9 := hx8.ext hb9
    have he9 := he8.ext hb9
    have hf9 := hf8.ext hb9
    have hbel9 := below_next hbel8 hb9
    have hg9 : w7.heap.size < w8.heap.size := hf8.lt
    clear hx8 he8 hf8 hbel8 hb9 hs9
    by_cases hn : 0 ≤ n ∧ n < 64
    · obtain ⟨m, rfl⟩ := Int.eq_ofNat_of_zero_le hn.1
      have hm : m < 64 := by omega
      have hm' : (m : Int) < 64 := hn.2
      have hrE := flC_rd hf9 (flat_at t m hm)
      clear hn
      go_wp2_with (first | (refine wpList_ldg _ _ rfl _ _ rfl rfl _ hrE _ Try.underlying26 rfl entry_size ?_) | (refine wpList_stw rfl _ _ _ rfl w8.heap.size (enC (getT t (m : Int))) rfl rfl _ _ hz9 rfl entry_size (enC_one _) ?_))
      intro wB hzB hgrB
      have hxB : Blk wB w.heap.size _ _ := hx9.grown hgrB (fun e => by have := Option.some.inj e; omega)
      have heB : Blk wB (w.heap.size + 1) _ _ := he9.grown hgrB (fun e => by have := Option.some.inj e; omega)
      have hfB : Blk wB w7.heap.size _ _ := hf9.grown hgrB (fun e => by have := Option.some.inj e; omega)
      have hbelB : Below w.heap.size w wB := hbel9.grown hgrB hbel9.size (fun k hk => by cases hk; omega)
      clear hx9 he9 hf9 hz9 hbel9 hgrB hrE
      go_upto_region 13 with (fail)
      refine wp_grow 5 [isV (.agg cs), isV (.int .i64 (m : Int)), isV (.agg (enC (getT t (m : Int)))), isV (.agg (enC (getT t (m : Int)))), isV (.bool false)] (by kernel_rfl) (by kernel_rfl) (by kernel_rfl) (by decide) _ rfl (by kernel_rfl) (all_cons ?_ (all_cons ?_ (all_cons ?_ (all_cons ?_ (all_cons ?_ (all_nil)))))) ?_
      · intro ρ y W hw hn hb hd
        have E3 : ρ (.tmp 3) = .pointer (some ⟨w.heap.size, 0, none⟩) := (hn (.tmp 3) rfl).trans rfl
        refine asked_val (.agg cs) (want_free rfl) (run_load_rd rfl E3 (hxB.ext hb).rd Try.underlying24 tab_agg (by rw [Array.length_toList, h.sz]; exact tab_size)) rfl
      · intro ρ y W hw hn hb hd
        have E1 : ρ (.tmp 1) = .int .i64 (m : Int) := (hn (.tmp 1) rfl).trans rfl
        refine asked_val (.int .i64 (m : Int)) (want_free rfl) (run_move (.inl rfl) E1) rfl
      · intro ρ y W hw hn hb hd
        have E67 := hw 67 0 rfl
        have h0 : y 0 = .agg cs := hd 0 rfl
        have E68 := hw 68 1 rfl
        have h1 : y 1 = .int .i64 (m : Int) := hd 1 rfl
        have EF : ∀ f, ρ (.func f) = .func (.func f) #[] #[] := fun f => hn (.func f) trivial
        refine asked_call _ _ (want_free rfl) (run_call rfl (EF _) Try.func21 (by kernel_rfl) (by kernel_rfl) (by simp only [List.map_toArray, List.map_cons, List.map_nil, E67, h0, E68, h1, EF]; rfl)) ?_
        refine (tget_any t cs (m : Int) W (h.below (below_next hbelB hb))).mono ?_
        rintro e w1 ⟨rfl, hb1⟩
        exact ⟨_, rfl, hb1, rfl⟩
      · intro ρ y W hw hn hb hd
        have E12 : ρ (.tmp 12) = .pointer (some ⟨w8.heap.size, 0, none⟩) := (hn (.tmp 12) rfl).trans rfl
        refine asked_val (.agg (enC (getT t (m : Int)))) (want_free rfl) (run_load_blk rfl E12 (hzB.ext hb) Try.underlying26 rfl entry_size) rfl
      · intro ρ y W hw hn hb hd
        have E69 := hw 69 2 rfl
        have h2 : y 2 = .agg (enC (getT t (m : Int))) := hd 2 rfl
        have E70 := hw 70 3 rfl
        have h3 : y 3 = .agg (enC (getT t (m : Int))) := hd 3 rfl
        refine asked_val (.bool false) (want_free rfl) (run_bin rfl (E69.trans h2) (E70.trans h3) (by simp [go_sem, enC])) rfl
      intro y WC hbWC hRWC
      have hy0 : y 0 = .agg cs := hRWC 0 (by decide)
      have hy1 : y 1 = .int .i64 (m : Int) := hRWC 1 (by decide)
      have hy2 : y 2 = .agg (enC (getT t (m : Int))) := hRWC 2 (by decide)
      have hy3 : y 3 = .agg (enC (getT t (m : Int))) := hRWC 3 (by decide)
      have hy4 : y 4 = .bool false := hRWC 4 (by decide)
      clear hRWC
      simp only [lay, Nat.reduceAdd, Nat.reduceLT, decide_true, decide_false, if_true, Bool.false_eq_true, if_false, List.setIfInBounds_toArray, List.set_cons_zero, List.set_cons_succ, List.drop_succ_cons, List.drop_zero, List.drop_nil, hy0, hy1, hy2, hy3, hy4]
      clear hy0 hy1 hy2 hy3 hy4
      have hbelC := below_next hbelB hbWC
      have hxC := hxB.ext hbWC
      have heC := heB.ext hbWC
      have hfC := hfB.ext hbWC
      clear hbelB hxB heB hfB hzB hbWC
      go_wp2_with (refine wpList_ldg _ _ rfl w7.heap.size 0 rfl rfl (flC (flatL t)).toList hfC.rd _ Try.underlying33 rfl (by rw [Array.length_toList, hs192.out]; exact arr64_size) ?_)
      go_loopw [73, 13, 14] (fun i v u wr => ∃ k : Nat, k ≤ 64 ∧ i = .int .i64 k ∧ Below w.heap.size w wr ∧ Blk wr w.heap.size cs 24 ∧ Blk wr (w.heap.size + 1) (enC e) 26 ∧ Blk wr w7.heap.size (flC (midW (flatL t) k)) 33 ∧ Own wr w.heap.size 3 1 v (pagesTo t k).length ((pagesTo t k).map inV) ∧ Own wr w.heap.size 3 1 u (foundTo t e.k e.n k).length ((foundTo t e.k e.n k).map inV) ∧ Hid (Apart v u)) (fun i _ _ _ => 64 - (intOf i).toNat)
      case atStart => exact ⟨0, Nat.zero_le _, rfl, hbelC, hxC, heC, hfC, Own.nil _ _ _ _, Own.nil _ _ _ _, Lib.hid Apart.nil⟩
      case round =>
        obtain ⟨k, hk, rfl, hbr, hx, he, hf, hv, hu, hap⟩ := hrel
        clear hbelC hxC heC hfC
        by_cases hlt : k < 64
        · have hd : decide ((k : Int) < 64) = true := by simp; omega
          have hk64 : (k : Int) < 64 := by omega
          have hE := flat_at t k hlt
          have hix := fun W => idx_flat hlt hE W
          have hpos := getT_pos H0.out (k : Int)
          have hfk := Lib.hid (And.intro (foundTo_skip (t := t) (kind := e.k) (k := e.n) (j := k)) (And.intro (foundTo_no (t := t) (kind := e.k) (k := e.n) (j := k)) (foundTo_yes (t := t) (kind := e.k) (k := e.n) (j := k))))
          have hpk := Lib.hid (And.intro (pagesTo_no (t := t) (k := k)) (pagesTo_yes (t := t) (k := k)))
          have hl1 := pagesTo_le t k
          have hl2 := foundTo_le t e.k e.n k
          have hset : Hid (putAt (flC (midW (flatL t) k)) (k * 3 + 2) [.bool false] = flC (midW (flatL t) (k + 1))) := Lib.hid (by
            rw [flC_unw _ k (getT t (k : Int)) (by rw [midW_at _ _ (by rw [flat_len64]; exact hlt)]; exact hE), midW_step _ _ (by rw [flat_len64]; exact hlt) hE])
          have hfit : Hid (k * 3 + 2 + 1 ≤ (flC (midW (flatL t) k)).size) := Lib.hid (by rw [flC_size, midW_len, flat_len64]; omega)
          clear hE
          generalize hgE : getT t (k : Int) = E at hix hpos hfk hpk
          clear hgE
          go_wp2_with (refine wpList_stn rfl _ _ _ rfl (enC E) rfl rfl rfl entry_size (enC_one _) ?_)
          intro w1' hb1 hz1
          have hbel1 := below_next hbr hb1
          have hx1 := hx.ext hb1
          have he1 := he.ext hb1
          have hf1 := hf.ext hb1
          have hv1 := hv.below hb1
          have hu1 := hu.below hb1
          have hl7 := hf.lt
          clear hbr hx he hf hv hu hb1 hix
          have hcz := hz1.cell
          have z0 : (enC E)[0]? = some (.int .i64 E.k) := rfl
          have z1 : (enC E)[1]? = some (.int .i64 E.n) := rfl
          have hce := he1.cell
          have e0 : (enC e)[0]? = some (.int .i64 e.k) := rfl
          have e1 : (enC e)[1]? = some (.int .i64 e.n) := rfl
          cases hKK : hasK E
          · have hk0 : decide (0 < E.k) = false := by rw [← hpos]; exact hKK
            have hp2 := Lib.hid (hpk.out.1 hKK)
            have hf2 := Lib.hid (hfk.out.1 hKK)
            clear hpos hKK hpk hfk
            go_wp2_with (refine wpList_stv rfl _ _ _ rfl w7.heap.size (k * 3 + 2) (.bool false) [.bool false] rfl rfl rfl _ _ hf1 hfit.out bool_size (one_bool false) ?_)
            intro wz hfz hgrz
            rw [hset.out] at hfz
            have hxz := blk_keep hx1 hf1 (by decide) hgrz
            have hez := blk_keep he1 hf1 (by decide) hgrz
            have hvz := own_keep hv1 hf1 (by decide) hgrz
            have huz := own_keep hu1 hf1 (by decide) hgrz
            have hbelz := hbel1.grown hgrz hbel1.size (fun k hk => by cases hk; omega)
            clear hx1 he1 hf1 hv1 hu1 hbel1 hgrz
            go_wp2
            go_roundw
            case rel => exact ⟨k + 1, by omega, by go_num, hbelz, hxz, hez, hfz, (by first | exact hvz | (rw [hp2.out]; exact hvz)), (by first | exact huz | (rw [hf2.out]; exact huz)), hap⟩
            case measure => simp [intOf]; omega
          · have hk0 : decide (0 < E.k) = true := by rw [← hpos]; exact hKK
            have hp2 := Lib.hid (hpk.out.2 hKK)
            have hfn := Lib.hid (hfk.out.2.1 hKK)
            have hfy := Lib.hid (hfk.out.2.2 hKK)
            clear hpos hKK hpk hfk
            go_upto_region 21 with (at_builtin; go_must (refine wpList_appC rfl _ _ 36 rfl w.heap.size 3 (.int .i64 0) 1 8 Try.underlying36 int_info rfl (by decide) _ _ _ rfl (hv1.alloc _) (some ⟨w1'.heap.size, 0, none⟩) 1 1 [inV k] rfl (fun h => (by cases h)) (Nat.le_refl _) rfl (RdV.one _ _ _) (one_int _ _) (by unfold maxLen; omega) (by omega) (le_alloc' hbel1.size _) ?_))
            intro v2 w2' hv2 hgr2 hsn2
            have hbel2 : Below w.heap.size w w2' := (hbel1.alloc hbel1.size _).grown hgr2 (le_alloc' hbel1.size _) (fun k hk => (hv1.ge k hk))
            have hx2 : Blk w2' w.heap.size cs 24 := blk_own (hx1.alloc _) (hv1.alloc _) (by decide) hgr2
            have he2 : Blk w2' (w.heap.size + 1) (enC e) 26 := blk_own (he1.alloc _) (hv1.alloc _) (by decide) hgr2
            have hf2 := blk_own (hf1.alloc _) (hv1.alloc _) (by decide) hgr2
            have hz2 := blk_own (hz1.alloc _) (hv1.alloc _) (by decide) hgr2
            have hu2 := (hu1.alloc (.cells #[.int .i64 k] 3)).apart hap.out hgr2
            have hap2 := Lib.hid (hap.out.grown (hu1.alloc (.cells #[.int .i64 k] 3)) hsn2)
            have hcz := hz2.cell
            have hce := he2.cell
            clear hbel1 hx1 he1 hf1 hz1 hu1 hgr2 hsn2 hap hv1
            have hv2' : Own w2' w.heap.size 3 1 v2 (pagesTo t (k + 1)).length ((pagesTo t (k + 1)).map inV) := by rw [hp2.out, List.map_append, List.length_append]; exact hv2
            clear hv2
            cases q1 : (E.k == e.k)
            · have hf2' := Lib.hid (hfn.out (by rw [q1]; rfl))
              clear hfn hfy
              go_wp2_with (refine wpList_stv rfl _ _ _ rfl w7.heap.size (k * 3 + 2) (.bool false) [.bool false] rfl rfl rfl _ _ hf2 hfit.out bool_size (one_bool false) ?_)
              intro wz hfz hgrz
              rw [hset.out] at hfz
              have hxz := blk_keep hx2 hf2 (by decide) hgrz
              have hez := blk_keep he2 hf2 (by decide) hgrz
              have hvz := own_keep hv2' hf2 (by decide) hgrz
              have huz := own_keep hu2 hf2 (by decide) hgrz
              have hbelz := hbel2.grown hgrz hbel2.size (fun k hk => by cases hk; omega)
              clear hx2 he2 hf2 hv2' hu2 hbel2 hgrz
              go_wp2
              go_roundw
              case rel => exact ⟨k + 1, by omega, by go_num, hbelz, hxz, hez, hfz, (by first | exact hvz | (rw [rfl]; exact hvz)), (by first | exact huz | (rw [hf2'.out]; exact huz)), hap2⟩
              case measure => simp [intOf]; omega
            · cases q2 : (E.n == e.n)
              · have hf2' := Lib.hid (hfn.out (by rw [q1, q2]; rfl))
                clear hfn hfy
                go_wp2_with (refine wpList_stv rfl _ _ _ rfl w7.heap.size (k * 3 + 2) (.bool false) [.bool false] rfl rfl rfl _ _ hf2 hfit.out bool_size (one_bool false) ?_)
                intro wz hfz hgrz
                rw [hset.out] at hfz
                have hxz := blk_keep hx2 hf2 (by decide) hgrz
                have hez := blk_keep he2 hf2 (by decide) hgrz
                have hvz := own_keep hv2' hf2 (by decide) hgrz
                have huz := own_keep hu2 hf2 (by decide) hgrz
                have hbelz := hbel2.grown hgrz hbel2.size (fun k hk => by cases hk; omega)
                clear hx2 he2 hf2 hv2' hu2 hbel2 hgrz
                go_wp2
                go_roundw
                case rel => exact ⟨k + 1, by omega, by go_num, hbelz, hxz, hez, hfz, (by first | exact hvz | (rw [rfl]; exact hvz)), (by first | exact huz | (rw [hf2'.out]; exact huz)), hap2⟩
                case measure => simp [intOf]; omega
              · have hf2' := Lib.hid (hfy.out (by rw [q1, q2]; rfl))
                clear hfn hfy
                go_upto_region 23 with (at_builtin; go_must (refine wpList_appC rfl _ _ 36 rfl w.heap.size 3 (.int .i64 0) 1 8 Try.underlying36 int_info rfl (by decide) _ _ _ rfl (hu2.alloc _) (some ⟨w2'.heap.size, 0, none⟩) 1 1 [inV k] rfl (fun h => (by cases h)) (Nat.le_refl _) rfl (RdV.one _ _ _) (one_int _ _) (by unfold maxLen; omega) (by omega) (le_alloc' hbel2.size _) ?_))
                intro v3 w3' hu3 hgr3 hsn3
                have hbel3 : Below w.heap.size w w3' := (hbel2.alloc hbel2.size _).grown hgr3 (le_alloc' hbel2.size _) (fun k hk => (hu2.ge k hk))
                have hx3 : Blk w3' w.heap.size cs 24 := blk_own (hx2.alloc _) (hu2.alloc _) (by decide) hgr3
                have he3 : Blk w3' (w.heap.size + 1) (enC e) 26 := blk_own (he2.alloc _) (hu2.alloc _) (by decide) hgr3
                have hf3 := blk_own (hf2.alloc _) (hu2.alloc _) (by decide) hgr3
                have hv3 := (hv2'.alloc (.cells #[.int .i64 k] 3)).apart hap2.out.symm hgr3
                have hap3 := Lib.hid (hap2.out.symm.grown (hv2'.alloc (.cells #[.int .i64 k] 3)) hsn3).symm
                have hu3' : Own w3' w.heap.size 3 1 v3 (foundTo t e.k e.n (k + 1)).length ((foundTo t e.k e.n (k + 1)).map inV) := by rw [hf2'.out, List.map_append, List.length_append]; exact hu3
                clear hbel2 hx2 he2 hf2 hz2 hv2' hu2 hgr3 hsn3 hap2 hcz hce hu3
                go_wp2_with (refine wpList_stv rfl _ _ _ rfl w7.heap.size (k * 3 + 2) (.bool false) [.bool false] rfl rfl rfl _ _ hf3 hfit.out bool_size (one_bool false) ?_)
                intro wz hfz hgrz
                rw [hset.out] at hfz
                have hxz := blk_keep hx3 hf3 (by decide) hgrz
                have hez := blk_keep he3 hf3 (by decide) hgrz
                have hvz := own_keep hv3 hf3 (by decide) hgrz
                have huz := own_keep hu3' hf3 (by decide) hgrz
                have hbelz := hbel3.grown hgrz hbel3.size (fun k hk => by cases hk; omega)
                clear hx3 he3 hf3 hv3 hu3' hbel3 hgrz
                go_wp2
                go_roundw
                case rel => exact ⟨k + 1, by omega, by go_num, hbelz, hxz, hez, hfz, (by first | exact hvz | (rw [rfl]; exact hvz)), (by first | exact huz | (rw [rfl]; exact huz)), hap3⟩
                case measure => simp [intOf]; omega
        · obtain rfl : k = 64 := by omega
          have hd : decide (((64 : Nat) : Int) < 64) = false := by decide
          rw [midW_end _ _ (by rw [flat_len64]; exact Nat.le_refl _)] at hf
          have hsg : Hid ((flC ((flatL t).map unW)).size = 192) := Lib.hid (by rw [flC_size, List.length_map, flat_len64])
          have hgt := Lib.hid (guard_tab H0.out)
          have hl1 := pagesTo_le t 64
          have hl2 := foundTo_le t e.k e.n 64
          obtain ⟨va, vc, rfl, vle, vmx, vnil, vrd⟩ := hv.rd
          obtain ⟨ua, uc, rfl, ule, umx, unil, urd⟩ := hu.rd
          clear hv hu hap
          go_upto_region 25 with (fail)
          refine wp_grow 21 [isV (.agg cs), (slR (pagesL t).length ((pagesL t).map inV)), isV (.slice va (pagesTo t 64).length vc), isV (.bool true), isV (.bool true), isV (.agg cs), isV (.pointer (some ⟨w.heap.size + 1, 0, none⟩)), isV (.int .i64 e.k), isV (.pointer (some ⟨w.heap.size + 1, 1, none⟩)), isV (.int .i64 e.n), (slR (findL t e.k e.n).length ((findL t e.k e.n).map inV)), isV (.slice ua (foundTo t e.k e.n 64).length uc), isV (.bool true), isV (.bool true), isV (.bool true), isV (.agg cs), (tabR (guardT t)), isV (.agg (flC ((flatL t).map unW))), (tabR (guardT t)), isV (.bool true), isV (.bool true)] (by kernel_rfl) (by kernel_rfl) (by kernel_rfl) (by decide) _ rfl (by kernel_rfl) (all_cons ?_ (all_cons ?_ (all_cons ?_ (all_cons ?_ (all_cons ?_ (all_cons ?_ (all_cons ?_ (all_cons ?_ (all_cons ?_ (all_cons ?_ (all_cons ?_ (all_cons ?_ (all_cons ?_ (all_cons ?_ (all_cons ?_ (all_cons ?_ (all_cons ?_ (all_cons ?_ (all_cons ?_ (all_cons ?_ (all_cons ?_ (all_nil)))))))))))))))))))))) ?_
          · intro ρ y W hw hn hb hd
            have E3 : ρ (.tmp 3) = .pointer (some ⟨w.heap.size, 0, none⟩) := (hn (.tmp 3) rfl).trans rfl
            refine asked_val (.agg cs) (want_free rfl) (run_load_rd rfl E3 (hx.ext hb).rd Try.underlying24 tab_agg (by rw [Array.length_toList, h.sz]; exact tab_size)) rfl
          · intro ρ y W hw hn hb hd
            have E104 := hw 104 0 rfl
            have h0 : y 0 = .agg cs := hd 0 rfl
            have EF : ∀ f, ρ (.func f) = .func (.func f) #[] #[] := fun f => hn (.func f) trivial
            refine asked_call _ _ (want_free rfl) (run_call rfl (EF _) Try.func23 (by kernel_rfl) (by kernel_rfl) (by simp only [List.map_toArray, List.map_cons, List.map_nil, E104, h0, EF]; rfl)) ?_
            refine (tpages_any t cs W (h.below (below_next hbr hb))).mono ?_
            rintro r w1 ⟨v, rfl, ho, hb1⟩
            exact ⟨v, rfl, hb1, ho.rd⟩
          · intro ρ y W hw hn hb hd
            have E13 : ρ (.tmp 13) = .slice va (pagesTo t 64).length vc := (hn (.tmp 13) rfl).trans rfl
            refine asked_val (.slice va (pagesTo t 64).length vc) (want_free rfl) (run_move (.inl rfl) E13) rfl
          · intro ρ y W hw hn hb hd
            have E105 := hw 105 1 rfl
            obtain ⟨a1, c1, h1, hle1, hmx1, hnil1, hrd1⟩ := hd 1 rfl
            have E106 := hw 106 2 rfl
            have h2 : y 2 = .slice va (pagesTo t 64).length vc := hd 2 rfl
            have EF : ∀ f, ρ (.func f) = .func (.func f) #[] #[] := fun f => hn (.func f) trivial
            refine asked_call _ _ (want_free rfl) (run_call rfl (EF _) Try.func22 (by kernel_rfl) (by kernel_rfl) (by simp only [List.map_toArray, List.map_cons, List.map_nil, E105, h1, E106, h2, EF]; rfl)) ?_
            refine (tsamei_any (pagesL t) (pagesTo t 64) _ _ _ _ W (hrd1.below (Below.refl _ _)) (vrd.below hb) (Nat.le_trans (pagesTo_le t 64) (by decide)) (Nat.le_trans hl1 (by decide))).mono ?_
            rintro r w1 ⟨rfl, hb1⟩
            exact ⟨_, rfl, hb1, ret_beq _⟩
          · intro ρ y W hw hn hb hd
            have E107 := hw 107 3 rfl
            have h3 : y 3 = .bool true := hd 3 rfl
            refine asked_val (.bool true) (want_free rfl) (run_move (.inl rfl) (E107.trans h3)) rfl
          · intro ρ y W hw hn hb hd
            have E3 : ρ (.tmp 3) = .pointer (some ⟨w.heap.size, 0, none⟩) := (hn (.tmp 3) rfl).trans rfl
            refine asked_val (.agg cs) (want_at 4 108 true true rfl rfl ((hw 108 4 rfl).trans (hd 4 rfl))) (run_load_rd rfl E3 (hx.ext hb).rd Try.underlying24 tab_agg (by rw [Array.length_toList, h.sz]; exact tab_size)) rfl
          · intro ρ y W hw hn hb hd
            have E5 : ρ (.tmp 5) = .pointer (some ⟨w.heap.size + 1, 0, none⟩) := (hn (.tmp 5) rfl).trans rfl
            refine asked_val (.pointer (some ⟨w.heap.size + 1, 0, none⟩)) (want_at 4 108 true true rfl rfl ((hw 108 4 rfl).trans (hd 4 rfl))) (by simp [execOp, go_sem, E5]) rfl
          · intro ρ y W hw hn hb hd
            have E110 := hw 110 6 rfl
            have h6 : y 6 = .pointer (some ⟨w.heap.size + 1, 0, none⟩) := hd 6 rfl
            refine asked_val (.int .i64 e.k) (want_at 4 108 true true rfl rfl ((hw 108 4 rfl).trans (hd 4 rfl))) (by simp [execOp, go_sem, E110, h6, (he.ext hb).cell, enC]) rfl
          · intro ρ y W hw hn hb hd
            have E5 : ρ (.tmp 5) = .pointer (some ⟨w.heap.size + 1, 0, none⟩) := (hn (.tmp 5) rfl).trans rfl
            refine asked_val (.pointer (some ⟨w.heap.size + 1, 1, none⟩)) (want_at 4 108 true true rfl rfl ((hw 108 4 rfl).trans (hd 4 rfl))) (by simp [execOp, go_sem, E5]) rfl
          · intro ρ y W hw hn hb hd
            have E112 := hw 112 8 rfl
            have h8 : y 8 = .pointer (some ⟨w.heap.size + 1, 1, none⟩) := hd 8 rfl
            refine asked_val (.int .i64 e.n) (want_at 4 108 true true rfl rfl ((hw 108 4 rfl).trans (hd 4 rfl))) (by simp [execOp, go_sem, E112, h8, (he.ext hb).cell, enC]) rfl
          · intro ρ y W hw hn hb hd
            have E109 := hw 109 5 rfl
            have h5 : y 5 = .agg cs := hd 5 rfl
            have E111 := hw 111 7 rfl
            have h7 : y 7 = .int .i64 e.k := hd 7 rfl
            have E113 := hw 113 9 rfl
            have h9 : y 9 = .int .i64 e.n := hd 9 rfl
            have EF : ∀ f, ρ (.func f) = .func (.func f) #[] #[] := fun f => hn (.func f) trivial
            refine asked_call _ _ (want_at 4 108 true true rfl rfl ((hw 108 4 rfl).trans (hd 4 rfl))) (run_call rfl (EF _) Try.func24 (by kernel_rfl) (by kernel_rfl) (by simp only [List.map_toArray, List.map_cons, List.map_nil, E109, h5, E111, h7, E113, h9, EF]; rfl)) ?_
            refine (tfind_any t cs e.k e.n W (h.below (below_next hbr hb))).mono ?_
            rintro r w1 ⟨v, rfl, ho, hb1⟩
            exact ⟨v, rfl, hb1, ho.rd⟩
          · intro ρ y W hw hn hb hd
            have E14 : ρ (.tmp 14) = .slice ua (foundTo t e.k e.n 64).length uc := (hn (.tmp 14) rfl).trans rfl
            refine asked_val (.slice ua (foundTo t e.k e.n 64).length uc) (want_at 4 108 true true rfl rfl ((hw 108 4 rfl).trans (hd 4 rfl))) (run_move (.inl rfl) E14) rfl
          · intro ρ y W hw hn hb hd
            have E114 := hw 114 10 rfl
            obtain ⟨a10, c10, h10, hle10, hmx10, hnil10, hrd10⟩ := hd 10 rfl
            have E115 := hw 115 11 rfl
            have h11 : y 11 = .slice ua (foundTo t e.k e.n 64).length uc := hd 11 rfl
            have EF : ∀ f, ρ (.func f) = .func (.func f) #[] #[] := fun f => hn (.func f) trivial
            refine asked_call _ _ (want_at 4 108 true true rfl rfl ((hw 108 4 rfl).trans (hd 4 rfl))) (run_call rfl (EF _) Try.func22 (by kernel_rfl) (by kernel_rfl) (by simp only [List.map_toArray, List.map_cons, List.map_nil, E114, h10, E115, h11, EF]; rfl)) ?_
            refine (tsamei_any (findL t e.k e.n) (foundTo t e.k e.n 64) _ _ _ _ W hrd10 (urd.below hb) (Nat.le_trans (foundTo_le t e.k e.n 64) (by decide)) (Nat.le_trans hl2 (by decide))).mono ?_
            rintro r w1 ⟨rfl, hb1⟩
            exact ⟨_, rfl, hb1, ret_beq _⟩
          · intro ρ y W hw hn hb hd
            have E108 := hw 108 4 rfl
            have h4 : y 4 = .bool true := hd 4 rfl
            have E116 := hw 116 12 rfl
            have h12 : y 12 = .bool true := hd 12 rfl
            refine asked_val (.bool true) (want_free rfl) (run_pick rfl (E108.trans h4) (by simpa using (E116.trans h12))) rfl
          · intro ρ y W hw hn hb hd
            have E117 := hw 117 13 rfl
            have h13 : y 13 = .bool true := hd 13 rfl
            refine asked_val (.bool true) (want_free rfl) (run_move (.inl rfl) (E117.trans h13)) rfl
          · intro ρ y W hw hn hb hd
            have E3 : ρ (.tmp 3) = .pointer (some ⟨w.heap.size, 0, none⟩) := (hn (.tmp 3) rfl).trans rfl
            refine asked_val (.agg cs) (want_at 14 118 true true rfl rfl ((hw 118 14 rfl).trans (hd 14 rfl))) (run_load_rd rfl E3 (hx.ext hb).rd Try.underlying24 tab_agg (by rw [Array.length_toList, h.sz]; exact tab_size)) rfl
          · intro ρ y W hw hn hb hd
            have E119 := hw 119 15 rfl
            have h15 : y 15 = .agg cs := hd 15 rfl
            have EF : ∀ f, ρ (.func f) = .func (.func f) #[] #[] := fun f => hn (.func f) trivial
            refine asked_call _ _ (want_at 14 118 true true rfl rfl ((hw 118 14 rfl).trans (hd 14 rfl))) (run_call rfl (EF _) Try.func25 (by kernel_rfl) (by kernel_rfl) (by simp only [List.map_toArray, List.map_cons, List.map_nil, E119, h15, EF]; rfl)) ?_
            refine (tguard_any t cs W (h.below (below_next hbr hb)) hz).mono ?_
            rintro e w1 ⟨ca, rfl, hO, hb1⟩
            exact ⟨_, rfl, hb1, ⟨_, rfl, hO.rd⟩⟩
          · intro ρ y W hw hn hb hd
            have E11 : ρ (.tmp 11) = .pointer (some ⟨w7.heap.size, 0, none⟩) := (hn (.tmp 11) rfl).trans rfl
            refine asked_val (.agg (flC ((flatL t).map unW))) (want_at 14 118 true true rfl rfl ((hw 118 14 rfl).trans (hd 14 rfl))) (run_load_rd rfl E11 (hf.ext hb).rd Try.underlying33 rfl (arr64_size.trans (congrArg some hsg.out.symm))) rfl
          · intro ρ y W hw hn hb hd
            have E121 := hw 121 17 rfl
            have h17 : y 17 = .agg (flC ((flatL t).map unW)) := hd 17 rfl
            have EF : ∀ f, ρ (.func f) = .func (.func f) #[] #[] := fun f => hn (.func f) trivial
            refine asked_call _ _ (want_at 14 118 true true rfl rfl ((hw 118 14 rfl).trans (hd 14 rfl))) (run_call rfl (EF _) Try.func26 (by kernel_rfl) (by kernel_rfl) (by simp only [List.map_toArray, List.map_cons, List.map_nil, E121, h17, EF]; rfl)) ?_
            refine (ttable_any _ W (by rw [List.length_map, flat_len64])).mono ?_
            rintro e w1 ⟨ca, rfl, hO, hb1⟩
            rw [hgt.out] at hO
            exact ⟨_, rfl, hb1, ⟨_, rfl, hO.rd⟩⟩
          · intro ρ y W hw hn hb hd
            have E120 := hw 120 16 rfl
            have h16 := hd 16 rfl
            have E122 := hw 122 18 rfl
            have h18 := hd 18 rfl
            have EF : ∀ f, ρ (.func f) = .func (.func f) #[] #[] := fun f => hn (.func f) trivial
            refine asked_call _ _ (want_at 14 118 true true rfl rfl ((hw 118 14 rfl).trans (hd 14 rfl))) (run_call rfl (EF _) Try.func16 (by kernel_rfl) (by kernel_rfl) (by simp only [List.map_toArray, List.map_cons, List.map_nil, E120, E122, EF]; rfl)) ?_
            obtain ⟨c1, e16, ho16⟩ := h16
            obtain ⟨c2, e18, ho18⟩ := h18
            rw [e16, e18]
            refine (tsame_any _ _ c1 c2 W ho16 ho18).mono ?_
            rintro e w1 ⟨rfl, hb1⟩
            rw [sameT_self]
            exact ⟨_, rfl, hb1, rfl⟩
          · intro ρ y W hw hn hb hd
            have E118 := hw 118 14 rfl
            have h14 : y 14 = .bool true := hd 14 rfl
            have E123 := hw 123 19 rfl
            have h19 : y 19 = .bool true := hd 19 rfl
            refine asked_val (.bool true) (want_free rfl) (run_pick rfl (E118.trans h14) (by simpa using (E123.trans h19))) rfl
          intro y WD hbWD hRWD
          have hy0 : y 0 = .agg cs := hRWD 0 (by decide)
          have hy2 : y 2 = .slice va (pagesTo t 64).length vc := hRWD 2 (by decide)
          have hy3 : y 3 = .bool true := hRWD 3 (by decide)
          have hy4 : y 4 = .bool true := hRWD 4 (by decide)
          have hy5 : y 5 = .agg cs := hRWD 5 (by decide)
          have hy6 : y 6 = .pointer (some ⟨w.heap.size + 1, 0, none⟩) := hRWD 6 (by decide)
          have hy7 : y 7 = .int .i64 e.k := hRWD 7 (by decide)
          have hy8 : y 8 = .pointer (some ⟨w.heap.size + 1, 1, none⟩) := hRWD 8 (by decide)
          have hy9 : y 9 = .int .i64 e.n := hRWD 9 (by decide)
          have hy11 : y 11 = .slice ua (foundTo t e.k e.n 64).length uc := hRWD 11 (by decide)
          have hy12 : y 12 = .bool true := hRWD 12 (by decide)
          have hy13 : y 13 = .bool true := hRWD 13 (by decide)
          have hy14 : y 14 = .bool true := hRWD 14 (by decide)
          have hy15 : y 15 = .agg cs := hRWD 15 (by decide)
          have hy17 : y 17 = .agg (flC ((flatL t).map unW)) := hRWD 17 (by decide)
          have hy19 : y 19 = .bool true := hRWD 19 (by decide)
          have hy20 : y 20 = .bool true := hRWD 20 (by decide)
          obtain ⟨ya1, yc1, hy1, yle1, ymx1, ynil1, yrd1⟩ := hRWD 1 (by decide)
          obtain ⟨ya10, yc10, hy10, yle10, ymx10, ynil10, yrd10⟩ := hRWD 10 (by decide)
          have hy16 : ((tabR (guardT t))).r (y 16) WD := hRWD 16 (by decide)
          have hy18 : ((tabR (guardT t))).r (y 18) WD := hRWD 18 (by decide)
          clear hRWD
          simp only [lay, Nat.reduceAdd, Nat.reduceLT, decide_true, decide_false, if_true, Bool.false_eq_true, if_false, List.setIfInBounds_toArray, List.set_cons_zero, List.set_cons_succ, List.drop_succ_cons, List.drop_zero, List.drop_nil, hy0, hy1, hy2, hy3, hy4, hy5, hy6, hy7, hy8, hy9, hy10, hy11, hy12, hy13, hy14, hy15, hy17, hy19, hy20]
          clear hy0 hy1 hy2 hy3 hy4 hy5 hy6 hy7 hy8 hy9 hy10 hy11 hy12 hy13 hy14 hy15 hy17 hy19 hy20
          have hbelD := below_next hbr hbWD
          clear hbr hx he hf hbWD
          go_wp2
          go_ret
          exact ⟨rfl, hbelD⟩
    · have hzB : Blk w9 w8.heap.size (enC (getT t n)) 26 := by rw [getT_out (by omega)]; exact hz9
      have hxB := hx9
      have heB := he9
      have hfB := hf9
      have hbelB := hbel9
      clear hx9 he9 hf9 hz9 hbel9
      by_cases hn0 : 0 ≤ n
      · have hn1 : ¬ n < 64 := by omega
        clear hn
        go_upto_region 13 with (fail)
        refine wp_grow 5 [isV (.agg cs), isV (.int .i64 n), isV (.agg (enC (getT t n))), isV (.agg (enC (getT t n))), isV (.bool false)] (by kernel_rfl) (by kernel_rfl) (by kernel_rfl) (by decide) _ rfl (by kernel_rfl) (all_cons ?_ (all_cons ?_ (all_cons ?_ (all_cons ?_ (all_cons ?_ (all_nil)))))) ?_
        · intro ρ y W hw hn hb hd
          have E3 : ρ (.tmp 3) = .pointer (some ⟨w.heap.size, 0, none⟩) := (hn (.tmp 3) rfl).trans rfl
          refine asked_val (.agg cs) (want_free rfl) (run_load_rd rfl E3 (hxB.ext hb).rd Try.underlying24 tab_agg (by rw [Array.length_toList, h.sz]; exact tab_size)) rfl
        · intro ρ y W hw hn hb hd
          have E1 : ρ (.tmp 1) = .int .i64 n := (hn (.tmp 1) rfl).trans rfl
          refine asked_val (.int .i64 n) (want_free rfl) (run_move (.inl rfl) E1) rfl
        · intro ρ y W hw hn hb hd
          have E67 := hw 67 0 rfl
          have h0 : y 0 = .agg cs := hd 0 rfl
          have E68 := hw 68 1 rfl
          have h1 : y 1 = .int .i64 n := hd 1 rfl
          have EF : ∀ f, ρ (.func f) = .func (.func f) #[] #[] := fun f => hn (.func f) trivial
          refine asked_call _ _ (want_free rfl) (run_call rfl (EF _) Try.func21 (by kernel_rfl) (by kernel_rfl) (by simp only [List.map_toArray, List.map_cons, List.map_nil, E67, h0, E68, h1, EF]; rfl)) ?_
          refine (tget_any t cs n W (h.below (below_next hbelB hb))).mono ?_
          rintro e w1 ⟨rfl, hb1⟩
          exact ⟨_, rfl, hb1, rfl⟩
        · intro ρ y W hw hn hb hd
          have E12 : ρ (.tmp 12) = .pointer (some ⟨w8.heap.size, 0, none⟩) := (hn (.tmp 12) rfl).trans rfl
          refine asked_val (.agg (enC (getT t n))) (want_free rfl) (run_load_blk rfl E12 (hzB.ext hb) Try.underlying26 rfl entry_size) rfl
        · intro ρ y W hw hn hb hd
          have E69 := hw 69 2 rfl
          have h2 : y 2 = .agg (enC (getT t n)) := hd 2 rfl
          have E70 := hw 70 3 rfl
          have h3 : y 3 = .agg (enC (getT t n)) := hd 3 rfl
          refine asked_val (.bool false) (want_free rfl) (run_bin rfl (E69.trans h2) (E70.trans h3) (by simp [go_sem, enC])) rfl
        intro y WC hbWC hRWC
        have hy0 : y 0 = .agg cs := hRWC 0 (by decide)
        have hy1 : y 1 = .int .i64 n := hRWC 1 (by decide)
        have hy2 : y 2 = .agg (enC (getT t n)) := hRWC 2 (by decide)
        have hy3 : y 3 = .agg (enC (getT t n)) := hRWC 3 (by decide)
        have hy4 : y 4 = .bool false := hRWC 4 (by decide)
        clear hRWC
        simp only [lay, Nat.reduceAdd, Nat.reduceLT, decide_true, decide_false, if_true, Bool.false_eq_true, if_false, List.setIfInBounds_toArray, List.set_cons_zero, List.set_cons_succ, List.drop_succ_cons, List.drop_zero, List.drop_nil, hy0, hy1, hy2, hy3, hy4]
        clear hy0 hy1 hy2 hy3 hy4
        have hbelC := below_next hbelB hbWC
        have hxC := hxB.ext hbWC
        have heC := heB.ext hbWC
        have hfC := hfB.ext hbWC
        clear hbelB hxB heB hfB hzB hbWC
        go_wp2_with (refine wpList_ldg _ _ rfl w7.heap.size 0 rfl rfl (flC (flatL t)).toList hfC.rd _ Try.underlying33 rfl (by rw [Array.length_toList, hs192.out]; exact arr64_size) ?_)
        go_loopw [73, 13, 14] (fun i v u wr => ∃ k : Nat, k ≤ 64 ∧ i = .int .i64 k ∧ Below w.heap.size w wr ∧ Blk wr w.heap.size cs 24 ∧ Blk wr (w.heap.size + 1) (enC e) 26 ∧ Blk wr w7.heap.size (flC (midW (flatL t) k)) 33 ∧ Own wr w.heap.size 3 1 v (pagesTo t k).length ((pagesTo t k).map inV) ∧ Own wr w.heap.size 3 1 u (foundTo t e.k e.n k).length ((foundTo t e.k e.n k).map inV) ∧ Hid (Apart v u)) (fun i _ _ _ => 64 - (intOf i).toNat)
        case atStart => exact ⟨0, Nat.zero_le _, rfl, hbelC, hxC, heC, hfC, Own.nil _ _ _ _, Own.nil _ _ _ _, Lib.hid Apart.nil⟩
        case round =>
          obtain ⟨k, hk, rfl, hbr, hx, he, hf, hv, hu, hap⟩ := hrel
          clear hbelC hxC heC hfC
          by_cases hlt : k < 64
          · have hd : decide ((k : Int) < 64) = true := by simp; omega
            have hk64 : (k : Int) < 64 := by omega
            have hE := flat_at t k hlt
            have hix := fun W => idx_flat hlt hE W
            have hpos := getT_pos H0.out (k : Int)
            have hfk := Lib.hid (And.intro (foundTo_skip (t := t) (kind := e.k) (k := e.n) (j := k)) (And.intro (foundTo_no (t := t) (kind := e.k) (k := e.n) (j := k)) (foundTo_yes (t := t) (kind := e.k) (k := e.n) (j := k))))
            have hpk := Lib.hid (And.intro (pagesTo_no (t := t) (k := k)) (pagesTo_yes (t := t) (k := k)))
            have hl1 := pagesTo_le t k
            have hl2 := foundTo_le t e.k e.n k
            have hset : Hid (putAt (flC (midW (flatL t) k)) (k * 3 + 2) [.bool false] = flC (midW (flatL t) (k + 1))) := Lib.hid (by
              rw [flC_unw _ k (getT t (k : Int)) (by rw [midW_at _ _ (by rw [flat_len64]; exact hlt)]; exact hE), midW_step _ _ (by rw [flat_len64]; exact hlt) hE])
            have hfit : Hid (k * 3 + 2 + 1 ≤ (flC (midW (flatL t) k)).size) := Lib.hid (by rw [flC_size, midW_len, flat_len64]; omega)
            clear hE
            generalize hgE : getT t (k : Int) = E at hix hpos hfk hpk
            clear hgE
            go_wp2_with (refine wpList_stn rfl _ _ _ rfl (enC E) rfl rfl rfl entry_size (enC_one _) ?_)
            intro w1' hb1 hz1
            have hbel1 := below_next hbr hb1
            have hx1 := hx.ext hb1
            have he1 := he.ext hb1
            have hf1 := hf.ext hb1
            have hv1 := hv.below hb1
            have hu1 := hu.below hb1
            have hl7 := hf.lt
            clear hbr hx he hf hv hu hb1 hix
            have hcz := hz1.cell
            have z0 : (enC E)[0]? = some (.int .i64 E.k) := rfl
            have z1 : (enC E)[1]? = some (.int .i64 E.n) := rfl
            have hce := he1.cell
            have e0 : (enC e)[0]? = some (.int .i64 e.k) := rfl
            have e1 : (enC e)[1]? = some (.int .i64 e.n) := rfl
            cases hKK : hasK E
            · have hk0 : decide (0 < E.k) = false := by rw [← hpos]; exact hKK
              have hp2 := Lib.hid (hpk.out.1 hKK)
              have hf2 := Lib.hid (hfk.out.1 hKK)
              clear hpos hKK hpk hfk
              go_wp2_with (refine wpList_stv rfl _ _ _ rfl w7.heap.size (k * 3 + 2) (.bool false) [.bool false] rfl rfl rfl _ _ hf1 hfit.out bool_size (one_bool false) ?_)
              intro wz hfz hgrz
              rw [hset.out] at hfz
              have hxz := blk_keep hx1 hf1 (by decide) hgrz
              have hez := blk_keep he1 hf1 (by decide) hgrz
              have hvz := own_keep hv1 hf1 (by decide) hgrz
              have huz := own_keep hu1 hf1 (by decide) hgrz
              have hbelz := hbel1.grown hgrz hbel1.size (fun k hk => by cases hk; omega)
              clear hx1 he1 hf1 hv1 hu1 hbel1 hgrz
              go_wp2
              go_roundw
              case rel => exact ⟨k + 1, by omega, by go_num, hbelz, hxz, hez, hfz, (by first | exact hvz | (rw [hp2.out]; exact hvz)), (by first | exact huz | (rw [hf2.out]; exact huz)), hap⟩
              case measure => simp [intOf]; omega
            · have hk0 : decide (0 < E.k) = true := by rw [← hpos]; exact hKK
              have hp2 := Lib.hid (hpk.out.2 hKK)
              have hfn := Lib.hid (hfk.out.2.1 hKK)
              have hfy := Lib.hid (hfk.out.2.2 hKK)
              clear hpos hKK hpk hfk
              go_upto_region 21 with (at_builtin; go_must (refine wpList_appC rfl _ _ 36 rfl w.heap.size 3 (.int .i64 0) 1 8 Try.underlying36 int_info rfl (by decide) _ _ _ rfl (hv1.alloc _) (some ⟨w1'.heap.size, 0, none⟩) 1 1 [inV k] rfl (fun h => (by cases h)) (Nat.le_refl _) rfl (RdV.one _ _ _) (one_int _ _) (by unfold maxLen; omega) (by omega) (le_alloc' hbel1.size _) ?_))
              intro v2 w2' hv2 hgr2 hsn2
              have hbel2 : Below w.heap.size w w2' := (hbel1.alloc hbel1.size _).grown hgr2 (le_alloc' hbel1.size _) (fun k hk => (hv1.ge k hk))
              have hx2 : Blk w2' w.heap.size cs 24 := blk_own (hx1.alloc _) (hv1.alloc _) (by decide) hgr2
              have he2 : Blk w2' (w.heap.size + 1) (enC e) 26 := blk_own (he1.alloc _) (hv1.alloc _) (by decide) hgr2
              have hf2 := blk_own (hf1.alloc _) (hv1.alloc _) (by decide) hgr2
              have hz2 := blk_own (hz1.alloc _) (hv1.alloc _) (by decide) hgr2
              have hu2 := (hu1.alloc (.cells #[.int .i64 k] 3)).apart hap.out hgr2
              have hap2 := Lib.hid (hap.out.grown (hu1.alloc (.cells #[.int .i64 k] 3)) hsn2)
              have hcz := hz2.cell
              have hce := he2.cell
              clear hbel1 hx1 he1 hf1 hz1 hu1 hgr2 hsn2 hap hv1
              have hv2' : Own w2' w.heap.size 3 1 v2 (pagesTo t (k + 1)).length ((pagesTo t (k + 1)).map inV) := by rw [hp2.out, List.map_append, List.length_append]; exact hv2
              clear hv2
              cases q1 : (E.k == e.k)
              · have hf2' := Lib.hid (hfn.out (by rw [q1]; rfl))
                clear hfn hfy
                go_wp2_with (refine wpList_stv rfl _ _ _ rfl w7.heap.size (k * 3 + 2) (.bool false) [.bool false] rfl rfl rfl _ _ hf2 hfit.out bool_size (one_bool false) ?_)
                intro wz hfz hgrz
                rw [hset.out] at hfz
                have hxz := blk_keep hx2 hf2 (by decide) hgrz
                have hez := blk_keep he2 hf2 (by decide) hgrz
                have hvz := own_keep hv2' hf2 (by decide) hgrz
                have huz := own_keep hu2 hf2 (by decide) hgrz
                have hbelz := hbel2.grown hgrz hbel2.size (fun k hk => by cases hk; omega)
                clear hx2 he2 hf2 hv2' hu2 hbel2 hgrz
                go_wp2
                go_roundw
                case rel => exact ⟨k + 1, by omega, by go_num, hbelz, hxz, hez, hfz, (by first | exact hvz | (rw [rfl]; exact hvz)), (by first | exact huz | (rw [hf2'.out]; exact huz)), hap2⟩
                case measure => simp [intOf]; omega
              · cases q2 : (E.n == e.n)
                · have hf2' := Lib.hid (hfn.out (by rw [q1, q2]; rfl))
                  clear hfn hfy
                  go_wp2_with (refine wpList_stv rfl _ _ _ rfl w7.heap.size (k * 3 + 2) (.bool false) [.bool false] rfl rfl rfl _ _ hf2 hfit.out bool_size (one_bool false) ?_)
                  intro wz hfz hgrz
                  rw [hset.out] at hfz
                  have hxz := blk_keep hx2 hf2 (by decide) hgrz
                  have hez := blk_keep he2 hf2 (by decide) hgrz
                  have hvz := own_keep hv2' hf2 (by decide) hgrz
                  have huz := own_keep hu2 hf2 (by decide) hgrz
                  have hbelz := hbel2.grown hgrz hbel2.size (fun k hk => by cases hk; omega)
                  clear hx2 he2 hf2 hv2' hu2 hbel2 hgrz
                  go_wp2
                  go_roundw
                  case rel => exact ⟨k + 1, by omega, by go_num, hbelz, hxz, hez, hfz, (by first | exact hvz | (rw [rfl]; exact hvz)), (by first | exact huz | (rw [hf2'.out]; exact huz)), hap2⟩
                  case measure => simp [intOf]; omega
                · have hf2' := Lib.hid (hfy.out (by rw [q1, q2]; rfl))
                  clear hfn hfy
                  go_upto_region 23 with (at_builtin; go_must (refine wpList_appC rfl _ _ 36 rfl w.heap.size 3 (.int .i64 0) 1 8 Try.underlying36 int_info rfl (by decide) _ _ _ rfl (hu2.alloc _) (some ⟨w2'.heap.size, 0, none⟩) 1 1 [inV k] rfl (fun h => (by cases h)) (Nat.le_refl _) rfl (RdV.one _ _ _) (one_int _ _) (by unfold maxLen; omega) (by omega) (le_alloc' hbel2.size _) ?_))
                  intro v3 w3' hu3 hgr3 hsn3
                  have hbel3 : Below w.heap.size w w3' := (hbel2.alloc hbel2.size _).grown hgr3 (le_alloc' hbel2.size _) (fun k hk => (hu2.ge k hk))
                  have hx3 : Blk w3' w.heap.size cs 24 := blk_own (hx2.alloc _) (hu2.alloc _) (by decide) hgr3
                  have he3 : Blk w3' (w.heap.size + 1) (enC e) 26 := blk_own (he2.alloc _) (hu2.alloc _) (by decide) hgr3
                  have hf3 := blk_own (hf2.alloc _) (hu2.alloc _) (by decide) hgr3
                  have hv3 := (hv2'.alloc (.cells #[.int .i64 k] 3)).apart hap2.out.symm hgr3
                  have hap3 := Lib.hid (hap2.out.symm.grown (hv2'.alloc (.cells #[.int .i64 k] 3)) hsn3).symm
                  have hu3' : Own w3' w.heap.size 3 1 v3 (foundTo t e.k e.n (k + 1)).length ((foundTo t e.k e.n (k + 1)).map inV) := by rw [hf2'.out, List.map_append, List.length_append]; exact hu3
                  clear hbel2 hx2 he2 hf2 hz2 hv2' hu2 hgr3 hsn3 hap2 hcz hce hu3
                  go_wp2_with (refine wpList_stv rfl _ _ _ rfl w7.heap.size (k * 3 + 2) (.bool false) [.bool false] rfl rfl rfl _ _ hf3 hfit.out bool_size (one_bool false) ?_)
                  intro wz hfz hgrz
                  rw [hset.out] at hfz
                  have hxz := blk_keep hx3 hf3 (by decide) hgrz
                  have hez := blk_keep he3 hf3 (by decide) hgrz
                  have hvz := own_keep hv3 hf3 (by decide) hgrz
                  have huz := own_keep hu3' hf3 (by decide) hgrz
                  have hbelz := hbel3.grown hgrz hbel3.size (fun k hk => by cases hk; omega)
                  clear hx3 he3 hf3 hv3 hu3' hbel3 hgrz
                  go_wp2
                  go_roundw
                  case rel => exact ⟨k + 1, by omega, by go_num, hbelz, hxz, hez, hfz, (by first | exact hvz | (rw [rfl]; exact hvz)), (by first | exact huz | (rw [rfl]; exact huz)), hap3⟩
                  case measure => simp [intOf]; omega
          · obtain rfl : k = 64 := by omega
            have hd : decide (((64 : Nat) : Int) < 64) = false := by decide
            rw [midW_end _ _ (by rw [flat_len64]; exact Nat.le_refl _)] at hf
            have hsg : Hid ((flC ((flatL t).map unW)).size = 192) := Lib.hid (by rw [flC_size, List.length_map, flat_len64])
            have hgt := Lib.hid (guard_tab H0.out)
            have hl1 := pagesTo_le t 64
            have hl2 := foundTo_le t e.k e.n 64
            obtain ⟨va, vc, rfl, vle, vmx, vnil, vrd⟩ := hv.rd
            obtain ⟨ua, uc, rfl, ule, umx, unil, urd⟩ := hu.rd
            clear hv hu hap
            go_upto_region 25 with (fail)
            refine wp_grow 21 [isV (.agg cs), (slR (pagesL t).length ((pagesL t).map inV)), isV (.slice va (pagesTo t 64).length vc), isV (.bool true), isV (.bool true), isV (.agg cs), isV (.pointer (some ⟨w.heap.size + 1, 0, none⟩)), isV (.int .i64 e.k), isV (.pointer (some ⟨w.heap.size + 1, 1, none⟩)), isV (.int .i64 e.n), (slR (findL t e.k e.n).length ((findL t e.k e.n).map inV)), isV (.slice ua (foundTo t e.k e.n 64).length uc), isV (.bool true), isV (.bool true), isV (.bool true), isV (.agg cs), (tabR (guardT t)), isV (.agg (flC ((flatL t).map unW))), (tabR (guardT t)), isV (.bool true), isV (.bool true)] (by kernel_rfl) (by kernel_rfl) (by kernel_rfl) (by decide) _ rfl (by kernel_rfl) (all_cons ?_ (all_cons ?_ (all_cons ?_ (all_cons ?_ (all_cons ?_ (all_cons ?_ (all_cons ?_ (all_cons ?_ (all_cons ?_ (all_cons ?_ (all_cons ?_ (all_cons ?_ (all_cons ?_ (all_cons ?_ (all_cons ?_ (all_cons ?_ (all_cons ?_ (all_cons ?_ (all_cons ?_ (all_cons ?_ (all_cons ?_ (all_nil)))))))))))))))))))))) ?_
            · intro ρ y W hw hn hb hd
              have E3 : ρ (.tmp 3) = .pointer (some ⟨w.heap.size, 0, none⟩) := (hn (.tmp 3) rfl).trans rfl
              refine asked_val (.agg cs) (want_free rfl) (run_load_rd rfl E3 (hx.ext hb).rd Try.underlying24 tab_agg (by rw [Array.length_toList, h.sz]; exact tab_size)) rfl
            · intro ρ y W hw hn hb hd
              have E104 := hw 104 0 rfl
              have h0 : y 0 = .agg cs := hd 0 rfl
              have EF : ∀ f, ρ (.func f) = .func (.func f) #[] #[] := fun f => hn (.func f) trivial
              refine asked_call _ _ (want_free rfl) (run_call rfl (EF _) Try.func23 (by kernel_rfl) (by kernel_rfl) (by simp only [List.map_toArray, List.map_cons, List.map_nil, E104, h0, EF]; rfl)) ?_
              refine (tpages_any t cs W (h.below (below_next hbr hb))).mono ?_
              rintro r w1 ⟨v, rfl, ho, hb1⟩
              exact ⟨v, rfl, hb1, ho.rd⟩
            · intro ρ y W hw hn hb hd
              have E13 : ρ (.tmp 13) = .slice va (pagesTo t 64).length vc := (hn (.tmp 13) rfl).trans rfl
              refine asked_val (.slice va (pagesTo t 64).length vc) (want_free rfl) (run_move (.inl rfl) E13) rfl
            · intro ρ y W hw hn hb hd
              have E105 := hw 105 1 rfl
              obtain ⟨a1, c1, h1, hle1, hmx1, hnil1, hrd1⟩ := hd 1 rfl
              have E106 := hw 106 2 rfl
              have h2 : y 2 = .slice va (pagesTo t 64).length vc := hd 2 rfl
              have EF : ∀ f, ρ (.func f) = .func (.func f) #[] #[] := fun f => hn (.func f) trivial
              refine asked_call _ _ (want_free rfl) (run_call rfl (EF _) Try.func22 (by kernel_rfl) (by kernel_rfl) (by simp only [List.map_toArray, List.map_cons, List.map_nil, E105, h1, E106, h2, EF]; rfl)) ?_
              refine (tsamei_any (pagesL t) (pagesTo t 64) _ _ _ _ W (hrd1.below (Below.refl _ _)) (vrd.below hb) (Nat.le_trans (pagesTo_le t 64) (by decide)) (Nat.le_trans hl1 (by decide))).mono ?_
              rintro r w1 ⟨rfl, hb1⟩
              exact ⟨_, rfl, hb1, ret_beq _⟩
            · intro ρ y W hw hn hb hd
              have E107 := hw 107 3 rfl
              have h3 : y 3 = .bool true := hd 3 rfl
              refine asked_val (.bool true) (want_free rfl) (run_move (.inl rfl) (E107.trans h3)) rfl
            · intro ρ y W hw hn hb hd
              have E3 : ρ (.tmp 3) = .pointer (some ⟨w.heap.size, 0, none⟩) := (hn (.tmp 3) rfl).trans rfl
              refine asked_val (.agg cs) (want_at 4 108 true true rfl rfl ((hw 108 4 rfl).trans (hd 4 rfl))) (run_load_rd rfl E3 (hx.ext hb).rd Try.underlying24 tab_agg (by rw [Array.length_toList, h.sz]; exact tab_size)) rfl
            · intro ρ y W hw hn hb hd
              have E5 : ρ (.tmp 5) = .pointer (some ⟨w.heap.size + 1, 0, none⟩) := (hn (.tmp 5) rfl).trans rfl
              refine asked_val (.pointer (some ⟨w.heap.size + 1, 0, none⟩)) (want_at 4 108 true true rfl rfl ((hw 108 4 rfl).trans (hd 4 rfl))) (by simp [execOp, go_sem, E5]) rfl
            · intro ρ y W hw hn hb hd
              have E110 := hw 110 6 rfl
              have h6 : y 6 = .pointer (some ⟨w.heap.size + 1, 0, none⟩) := hd 6 rfl
              refine asked_val (.int .i64 e.k) (want_at 4 108 true true rfl rfl ((hw 108 4 rfl).trans (hd 4 rfl))) (by simp [execOp, go_sem, E110, h6, (he.ext hb).cell, enC]) rfl
            · intro ρ y W hw hn hb hd
              have E5 : ρ (.tmp 5) = .pointer (some ⟨w.heap.size + 1, 0, none⟩) := (hn (.tmp 5) rfl).trans rfl
              refine asked_val (.pointer (some ⟨w.heap.size + 1, 1, none⟩)) (want_at 4 108 true true rfl rfl ((hw 108 4 rfl).trans (hd 4 rfl))) (by simp [execOp, go_sem, E5]) rfl
            · intro ρ y W hw hn hb hd
              have E112 := hw 112 8 rfl
              have h8 : y 8 = .pointer (some ⟨w.heap.size + 1, 1, none⟩) := hd 8 rfl
              refine asked_val (.int .i64 e.n) (want_at 4 108 true true rfl rfl ((hw 108 4 rfl).trans (hd 4 rfl))) (by simp [execOp, go_sem, E112, h8, (he.ext hb).cell, enC]) rfl
            · intro ρ y W hw hn hb hd
              have E109 := hw 109 5 rfl
              have h5 : y 5 = .agg cs := hd 5 rfl
              have E111 := hw 111 7 rfl
              have h7 : y 7 = .int .i64 e.k := hd 7 rfl
              have E113 := hw 113 9 rfl
              have h9 : y 9 = .int .i64 e.n := hd 9 rfl
              have EF : ∀ f, ρ (.func f) = .func (.func f) #[] #[] := fun f => hn (.func f) trivial
              refine asked_call _ _ (want_at 4 108 true true rfl rfl ((hw 108 4 rfl).trans (hd 4 rfl))) (run_call rfl (EF _) Try.func24 (by kernel_rfl) (by kernel_rfl) (by simp only [List.map_toArray, List.map_cons, List.map_nil, E109, h5, E111, h7, E113, h9, EF]; rfl)) ?_
              refine (tfind_any t cs e.k e.n W (h.below (below_next hbr hb))).mono ?_
              rintro r w1 ⟨v, rfl, ho, hb1⟩
              exact ⟨v, rfl, hb1, ho.rd⟩
            · intro ρ y W hw hn hb hd
              have E14 : ρ (.tmp 14) = .slice ua (foundTo t e.k e.n 64).length uc := (hn (.tmp 14) rfl).trans rfl
              refine asked_val (.slice ua (foundTo t e.k e.n 64).length uc) (want_at 4 108 true true rfl rfl ((hw 108 4 rfl).trans (hd 4 rfl))) (run_move (.inl rfl) E14) rfl
            · intro ρ y W hw hn hb hd
              have E114 := hw 114 10 rfl
              obtain ⟨a10, c10, h10, hle10, hmx10, hnil10, hrd10⟩ := hd 10 rfl
              have E115 := hw 115 11 rfl
              have h11 : y 11 = .slice ua (foundTo t e.k e.n 64).length uc := hd 11 rfl
              have EF : ∀ f, ρ (.func f) = .func (.func f) #[] #[] := fun f => hn (.func f) trivial
              refine asked_call _ _ (want_at 4 108 true true rfl rfl ((hw 108 4 rfl).trans (hd 4 rfl))) (run_call rfl (EF _) Try.func22 (by kernel_rfl) (by kernel_rfl) (by simp only [List.map_toArray, List.map_cons, List.map_nil, E114, h10, E115, h11, EF]; rfl)) ?_
              refine (tsamei_any (findL t e.k e.n) (foundTo t e.k e.n 64) _ _ _ _ W hrd10 (urd.below hb) (Nat.le_trans (foundTo_le t e.k e.n 64) (by decide)) (Nat.le_trans hl2 (by decide))).mono ?_
              rintro r w1 ⟨rfl, hb1⟩
              exact ⟨_, rfl, hb1, ret_beq _⟩
            · intro ρ y W hw hn hb hd
              have E108 := hw 108 4 rfl
              have h4 : y 4 = .bool true := hd 4 rfl
              have E116 := hw 116 12 rfl
              have h12 : y 12 = .bool true := hd 12 rfl
              refine asked_val (.bool true) (want_free rfl) (run_pick rfl (E108.trans h4) (by simpa using (E116.trans h12))) rfl
            · intro ρ y W hw hn hb hd
              have E117 := hw 117 13 rfl
              have h13 : y 13 = .bool true := hd 13 rfl
              refine asked_val (.bool true) (want_free rfl) (run_move (.inl rfl) (E117.trans h13)) rfl
            · intro ρ y W hw hn hb hd
              have E3 : ρ (.tmp 3) = .pointer (some ⟨w.heap.size, 0, none⟩) := (hn (.tmp 3) rfl).trans rfl
              refine asked_val (.agg cs) (want_at 14 118 true true rfl rfl ((hw 118 14 rfl).trans (hd 14 rfl))) (run_load_rd rfl E3 (hx.ext hb).rd Try.underlying24 tab_agg (by rw [Array.length_toList, h.sz]; exact tab_size)) rfl
            · intro ρ y W hw hn hb hd
              have E119 := hw 119 15 rfl
              have h15 : y 15 = .agg cs := hd 15 rfl
              have EF : ∀ f, ρ (.func f) = .func (.func f) #[] #[] := fun f => hn (.func f) trivial
              refine asked_call _ _ (want_at 14 118 true true rfl rfl ((hw 118 14 rfl).trans (hd 14 rfl))) (run_call rfl (EF _) Try.func25 (by kernel_rfl) (by kernel_rfl) (by simp only [List.map_toArray, List.map_cons, List.map_nil, E119, h15, EF]; rfl)) ?_
              refine (tguard_any t cs W (h.below (below_next hbr hb)) hz).mono ?_
              rintro e w1 ⟨ca, rfl, hO, hb1⟩
              exact ⟨_, rfl, hb1, ⟨_, rfl, hO.rd⟩⟩
            · intro ρ y W hw hn hb hd
              have E11 : ρ (.tmp 11) = .pointer (some ⟨w7.heap.size, 0, none⟩) := (hn (.tmp 11) rfl).trans rfl
              refine asked_val (.agg (flC ((flatL t).map unW))) (want_at 14 118 true true rfl rfl ((hw 118 14 rfl).trans (hd 14 rfl))) (run_load_rd rfl E11 (hf.ext hb).rd Try.underlying33 rfl (arr64_size.trans (congrArg some hsg.out.symm))) rfl
            · intro ρ y W hw hn hb hd
              have E121 := hw 121 17 rfl
              have h17 : y 17 = .agg (flC ((flatL t).map unW)) := hd 17 rfl
              have EF : ∀ f, ρ (.func f) = .func (.func f) #[] #[] := fun f => hn (.func f) trivial
              refine asked_call _ _ (want_at 14 118 true true rfl rfl ((hw 118 14 rfl).trans (hd 14 rfl))) (run_call rfl (EF _) Try.func26 (by kernel_rfl) (by kernel_rfl) (by simp only [List.map_toArray, List.map_cons, List.map_nil, E121, h17, EF]; rfl)) ?_
              refine (ttable_any _ W (by rw [List.length_map, flat_len64])).mono ?_
              rintro e w1 ⟨ca, rfl, hO, hb1⟩
              rw [hgt.out] at hO
              exact ⟨_, rfl, hb1, ⟨_, rfl, hO.rd⟩⟩
            · intro ρ y W hw hn hb hd
              have E120 := hw 120 16 rfl
              have h16 := hd 16 rfl
              have E122 := hw 122 18 rfl
              have h18 := hd 18 rfl
              have EF : ∀ f, ρ (.func f) = .func (.func f) #[] #[] := fun f => hn (.func f) trivial
              refine asked_call _ _ (want_at 14 118 true true rfl rfl ((hw 118 14 rfl).trans (hd 14 rfl))) (run_call rfl (EF _) Try.func16 (by kernel_rfl) (by kernel_rfl) (by simp only [List.map_toArray, List.map_cons, List.map_nil, E120, E122, EF]; rfl)) ?_
              obtain ⟨c1, e16, ho16⟩ := h16
              obtain ⟨c2, e18, ho18⟩ := h18
              rw [e16, e18]
              refine (tsame_any _ _ c1 c2 W ho16 ho18).mono ?_
              rintro e w1 ⟨rfl, hb1⟩
              rw [sameT_self]
              exact ⟨_, rfl, hb1, rfl⟩
            · intro ρ y W hw hn hb hd
              have E118 := hw 118 14 rfl
              have h14 : y 14 = .bool true := hd 14 rfl
              have E123 := hw 123 19 rfl
              have h19 : y 19 = .bool true := hd 19 rfl
              refine asked_val (.bool true) (want_free rfl) (run_pick rfl (E118.trans h14) (by simpa using (E123.trans h19))) rfl
            intro y WD hbWD hRWD
            have hy0 : y 0 = .agg cs := hRWD 0 (by decide)
            have hy2 : y 2 = .slice va (pagesTo t 64).length vc := hRWD 2 (by decide)
            have hy3 : y 3 = .bool true := hRWD 3 (by decide)
            have hy4 : y 4 = .bool true := hRWD 4 (by decide)
            have hy5 : y 5 = .agg cs := hRWD 5 (by decide)
            have hy6 : y 6 = .pointer (some ⟨w.heap.size + 1, 0, none⟩) := hRWD 6 (by decide)
            have hy7 : y 7 = .int .i64 e.k := hRWD 7 (by decide)
            have hy8 : y 8 = .pointer (some ⟨w.heap.size + 1, 1, none⟩) := hRWD 8 (by decide)
            have hy9 : y 9 = .int .i64 e.n := hRWD 9 (by decide)
            have hy11 : y 11 = .slice ua (foundTo t e.k e.n 64).length uc := hRWD 11 (by decide)
            have hy12 : y 12 = .bool true := hRWD 12 (by decide)
            have hy13 : y 13 = .bool true := hRWD 13 (by decide)
            have hy14 : y 14 = .bool true := hRWD 14 (by decide)
            have hy15 : y 15 = .agg cs := hRWD 15 (by decide)
            have hy17 : y 17 = .agg (flC ((flatL t).map unW)) := hRWD 17 (by decide)
            have hy19 : y 19 = .bool true := hRWD 19 (by decide)
            have hy20 : y 20 = .bool true := hRWD 20 (by decide)
            obtain ⟨ya1, yc1, hy1, yle1, ymx1, ynil1, yrd1⟩ := hRWD 1 (by decide)
            obtain ⟨ya10, yc10, hy10, yle10, ymx10, ynil10, yrd10⟩ := hRWD 10 (by decide)
            have hy16 : ((tabR (guardT t))).r (y 16) WD := hRWD 16 (by decide)
            have hy18 : ((tabR (guardT t))).r (y 18) WD := hRWD 18 (by decide)
            clear hRWD
            simp only [lay, Nat.reduceAdd, Nat.reduceLT, decide_true, decide_false, if_true, Bool.false_eq_true, if_false, List.setIfInBounds_toArray, List.set_cons_zero, List.set_cons_succ, List.drop_succ_cons, List.drop_zero, List.drop_nil, hy0, hy1, hy2, hy3, hy4, hy5, hy6, hy7, hy8, hy9, hy10, hy11, hy12, hy13, hy14, hy15, hy17, hy19, hy20]
            clear hy0 hy1 hy2 hy3 hy4 hy5 hy6 hy7 hy8 hy9 hy10 hy11 hy12 hy13 hy14 hy15 hy17 hy19 hy20
            have hbelD := below_next hbr hbWD
            clear hbr hx he hf hbWD
            go_wp2
            go_ret
            exact ⟨rfl, hbelD⟩
      · clear hn
        go_upto_region 13 with (fail)
        refine wp_grow 5 [isV (.agg cs), isV (.int .i64 n), isV (.agg (enC (getT t n))), isV (.agg (enC (getT t n))), isV (.bool false)] (by kernel_rfl) (by kernel_rfl) (by kernel_rfl) (by decide) _ rfl (by kernel_rfl) (all_cons ?_ (all_cons ?_ (all_cons ?_ (all_cons ?_ (all_cons ?_ (all_nil)))))) ?_
        · intro ρ y W hw hn hb hd
          have E3 : ρ (.tmp 3) = .pointer (some ⟨w.heap.size, 0, none⟩) := (hn (.tmp 3) rfl).trans rfl
          refine asked_val (.agg cs) (want_free rfl) (run_load_rd rfl E3 (hxB.ext hb).rd Try.underlying24 tab_agg (by rw [Array.length_toList, h.sz]; exact tab_size)) rfl
        · intro ρ y W hw hn hb hd
          have E1 : ρ (.tmp 1) = .int .i64 n := (hn (.tmp 1) rfl).trans rfl
          refine asked_val (.int .i64 n) (want_free rfl) (run_move (.inl rfl) E1) rfl
        · intro ρ y W hw hn hb hd
          have E67 := hw 67 0 rfl
          have h0 : y 0 = .agg cs := hd 0 rfl
          have E68 := hw 68 1 rfl
          have h1 : y 1 = .int .i64 n := hd 1 rfl
          have EF : ∀ f, ρ (.func f) = .func (.func f) #[] #[] := fun f => hn (.func f) trivial
          refine asked_call _ _ (want_free rfl) (run_call rfl (EF _) Try.func21 (by kernel_rfl) (by kernel_rfl) (by simp only [List.map_toArray, List.map_cons, List.map_nil, E67, h0, E68, h1, EF]; rfl)) ?_
          refine (tget_any t cs n W (h.below (below_next hbelB hb))).mono ?_
          rintro e w1 ⟨rfl, hb1⟩
          exact ⟨_, rfl, hb1, rfl⟩
        · intro ρ y W hw hn hb hd
          have E12 : ρ (.tmp 12) = .pointer (some ⟨w8.heap.size, 0, none⟩) := (hn (.tmp 12) rfl).trans rfl
          refine asked_val (.agg (enC (getT t n))) (want_free rfl) (run_load_blk rfl E12 (hzB.ext hb) Try.underlying26 rfl entry_size) rfl
        · intro ρ y W hw hn hb hd
          have E69 := hw 69 2 rfl
          have h2 : y 2 = .agg (enC (getT t n)) := hd 2 rfl
          have E70 := hw 70 3 rfl
          have h3 : y 3 = .agg (enC (getT t n)) := hd 3 rfl
          refine asked_val (.bool false) (want_free rfl) (run_bin rfl (E69.trans h2) (E70.trans h3) (by simp [go_sem, enC])) rfl
        intro y WC hbWC hRWC
        have hy0 : y 0 = .agg cs := hRWC 0 (by decide)
        have hy1 : y 1 = .int .i64 n := hRWC 1 (by decide)
        have hy2 : y 2 = .agg (enC (getT t n)) := hRWC 2 (by decide)
        have hy3 : y 3 = .agg (enC (getT t n)) := hRWC 3 (by decide)
        have hy4 : y 4 = .bool false := hRWC 4 (by decide)
        clear hRWC
        simp only [lay, Nat.reduceAdd, Nat.reduceLT, decide_true, decide_false, if_true, Bool.false_eq_true, if_false, List.setIfInBounds_toArray, List.set_cons_zero, List.set_cons_succ, List.drop_succ_cons, List.drop_zero, List.drop_nil, hy0, hy1, hy2, hy3, hy4]
        clear hy0 hy1 hy2 hy3 hy4
        have hbelC := below_next hbelB hbWC
        have hxC := hxB.ext hbWC
        have heC := heB.ext hbWC
        have hfC := hfB.ext hbWC
        clear hbelB hxB heB hfB hzB hbWC
        go_wp2_with (refine wpList_ldg _ _ rfl w7.heap.size 0 rfl rfl (flC (flatL t)).toList hfC.rd _ Try.underlying33 rfl (by rw [Array.length_toList, hs192.out]; exact arr64_size) ?_)
        go_loopw [73, 13, 14] (fun i v u wr => ∃ k : Nat, k ≤ 64 ∧ i = .int .i64 k ∧ Below w.heap.size w wr ∧ Blk wr w.heap.size cs 24 ∧ Blk wr (w.heap.size + 1) (enC e) 26 ∧ Blk wr w7.heap.size (flC (midW (flatL t) k)) 33 ∧ Own wr w.heap.size 3 1 v (pagesTo t k).length ((pagesTo t k).map inV) ∧ Own wr w.heap.size 3 1 u (foundTo t e.k e.n k).length ((foundTo t e.k e.n k).map inV) ∧ Hid (Apart v u)) (fun i _ _ _ => 64 - (intOf i).toNat)
        case atStart => exact ⟨0, Nat.zero_le _, rfl, hbelC, hxC, heC, hfC, Own.nil _ _ _ _, Own.nil _ _ _ _, Lib.hid Apart.nil⟩
        case round =>
          obtain ⟨k, hk, rfl, hbr, hx, he, hf, hv, hu, hap⟩ := hrel
          clear hbelC hxC heC hfC
          by_cases hlt : k < 64
          · have hd : decide ((k : Int) < 64) = true := by simp; omega
            have hk64 : (k : Int) < 64 := by omega
            have hE := flat_at t k hlt
            have hix := fun W => idx_flat hlt hE W
            have hpos := getT_pos H0.out (k : Int)
            have hfk := Lib.hid (And.intro (foundTo_skip (t := t) (kind := e.k) (k := e.n) (j := k)) (And.intro (foundTo_no (t := t) (kind := e.k) (k := e.n) (j := k)) (foundTo_yes (t := t) (kind := e.k) (k := e.n) (j := k))))
            have hpk := Lib.hid (And.intro (pagesTo_no (t := t) (k := k)) (pagesTo_yes (t := t) (k := k)))
            have hl1 := pagesTo_le t k
            have hl2 := foundTo_le t e.k e.n k
            have hset : Hid (putAt (flC (midW (flatL t) k)) (k * 3 + 2) [.bool false] = flC (midW (flatL t) (k + 1))) := Lib.hid (by
              rw [flC_unw _ k (getT t (k : Int)) (by rw [midW_at _ _ (by rw [flat_len64]; exact hlt)]; exact hE), midW_step _ _ (by rw [flat_len64]; exact hlt) hE])
            have hfit : Hid (k * 3 + 2 + 1 ≤ (flC (midW (flatL t) k)).size) := Lib.hid (by rw [flC_size, midW_len, flat_len64]; omega)
            clear hE
            generalize hgE : getT t (k : Int) = E at hix hpos hfk hpk
            clear hgE
            go_wp2_with (refine wpList_stn rfl _ _ _ rfl (enC E) rfl rfl rfl entry_size (enC_one _) ?_)
            intro w1' hb1 hz1
            have hbel1 := below_next hbr hb1
            have hx1 := hx.ext hb1
            have he1 := he.ext hb1
            have hf1 := hf.ext hb1
            have hv1 := hv.below hb1
            have hu1 := hu.below hb1
            have hl7 := hf.lt
            clear hbr hx he hf hv hu hb1 hix
            have hcz := hz1.cell
            have z0 : (enC E)[0]? = some (.int .i64 E.k) := rfl
            have z1 : (enC E)[1]? = some (.int .i64 E.n) := rfl
            have hce := he1.cell
            have e0 : (enC e)[0]? = some (.int .i64 e.k) := rfl
            have e1 : (enC e)[1]? = some (.int .i64 e.n) := rfl
            cases hKK : hasK E
            · have hk0 : decide (0 < E.k) = false := by rw [← hpos]; exact hKK
              have hp2 := Lib.hid (hpk.out.1 hKK)
              have hf2 := Lib.hid (hfk.out.1 hKK)
              clear hpos hKK hpk hfk
              go_wp2_with (refine wpList_stv rfl _ _ _ rfl w7.heap.size (k * 3 + 2) (.bool false) [.bool false] rfl rfl rfl _ _ hf1 hfit.out bool_size (one_bool false) ?_)
              intro wz hfz hgrz
              rw [hset.out] at hfz
              have hxz := blk_keep hx1 hf1 (by decide) hgrz
              have hez := blk_keep he1 hf1 (by decide) hgrz
              have hvz := own_keep hv1 hf1 (by decide) hgrz
              have huz := own_keep hu1 hf1 (by decide) hgrz
              have hbelz := hbel1.grown hgrz hbel1.size (fun k hk => by cases hk; omega)
              clear hx1 he1 hf1 hv1 hu1 hbel1 hgrz
              go_wp2
              go_roundw
              case rel => exact ⟨k + 1, by omega, by go_num, hbelz, hxz, hez, hfz, (by first | exact hvz | (rw [hp2.out]; exact hvz)), (by first | exact huz | (rw [hf2.out]; exact huz)), hap⟩
              case measure => simp [intOf]; omega
            · have hk0 : decide (0 < E.k) = true := by rw [← hpos]; exact hKK
              have hp2 := Lib.hid (hpk.out.2 hKK)
              have hfn := Lib.hid (hfk.out.2.1 hKK)
              have hfy := Lib.hid (hfk.out.2.2 hKK)
              clear hpos hKK hpk hfk
              go_upto_region 21 with (at_builtin; go_must (refine wpList_appC rfl _ _ 36 rfl w.heap.size 3 (.int .i64 0) 1 8 Try.underlying36 int_info rfl (by decide) _ _ _ rfl (hv1.alloc _) (some ⟨w1'.heap.size, 0, none⟩) 1 1 [inV k] rfl (fun h => (by cases h)) (Nat.le_refl _) rfl (RdV.one _ _ _) (one_int _ _) (by unfold maxLen; omega) (by omega) (le_alloc' hbel1.size _) ?_))
              intro v2 w2' hv2 hgr2 hsn2
              have hbel2 : Below w.heap.size w w2' := (hbel1.alloc hbel1.size _).grown hgr2 (le_alloc' hbel1.size _) (fun k hk => (hv1.ge k hk))
              have hx2 : Blk w2' w.heap.size cs 24 := blk_own (hx1.alloc _) (hv1.alloc _) (by decide) hgr2
              have he2 : Blk w2' (w.heap.size + 1) (enC e) 26 := blk_own (he1.alloc _) (hv1.alloc _) (by decide) hgr2
              have hf2 := blk_own (hf1.alloc _) (hv1.alloc _) (by decide) hgr2
              have hz2 := blk_own (hz1.alloc _) (hv1.alloc _) (by decide) hgr2
              have hu2 := (hu1.alloc (.cells #[.int .i64 k] 3)).apart hap.out hgr2
              have hap2 := Lib.hid (hap.out.grown (hu1.alloc (.cells #[.int .i64 k] 3)) hsn2)
              have hcz := hz2.cell
              have hce := he2.cell
              clear hbel1 hx1 he1 hf1 hz1 hu1 hgr2 hsn2 hap hv1
              have hv2' : Own w2' w.heap.size 3 1 v2 (pagesTo t (k + 1)).length ((pagesTo t (k + 1)).map inV) := by rw [hp2.out, List.map_append, List.length_append]; exact hv2
              clear hv2
              cases q1 : (E.k == e.k)
              · have hf2' := Lib.hid (hfn.out (by rw [q1]; rfl))
                clear hfn hfy
                go_wp2_with (refine wpList_stv rfl _ _ _ rfl w7.heap.size (k * 3 + 2) (.bool false) [.bool false] rfl rfl rfl _ _ hf2 hfit.out bool_size (one_bool false) ?_)
                intro wz hfz hgrz
                rw [hset.out] at hfz
                have hxz := blk_keep hx2 hf2 (by decide) hgrz
                have hez := blk_keep he2 hf2 (by decide) hgrz
                have hvz := own_keep hv2' hf2 (by decide) hgrz
                have huz := own_keep hu2 hf2 (by decide) hgrz
                have hbelz := hbel2.grown hgrz hbel2.size (fun k hk => by cases hk; omega)
                clear hx2 he2 hf2 hv2' hu2 hbel2 hgrz
                go_wp2
                go_roundw
                case rel => exact ⟨k + 1, by omega, by go_num, hbelz, hxz, hez, hfz, (by first | exact hvz | (rw [rfl]; exact hvz)), (by first | exact huz | (rw [hf2'.out]; exact huz)), hap2⟩
                case measure => simp [intOf]; omega
              · cases q2 : (E.n == e.n)
                · have hf2' := Lib.hid (hfn.out (by rw [q1, q2]; rfl))
                  clear hfn hfy
                  go_wp2_with (refine wpList_stv rfl _ _ _ rfl w7.heap.size (k * 3 + 2) (.bool false) [.bool false] rfl rfl rfl _ _ hf2 hfit.out bool_size (one_bool false) ?_)
                  intro wz hfz hgrz
                  rw [hset.out] at hfz
                  have hxz := blk_keep hx2 hf2 (by decide) hgrz
                  have hez := blk_keep he2 hf2 (by decide) hgrz
                  have hvz := own_keep hv2' hf2 (by decide) hgrz
                  have huz := own_keep hu2 hf2 (by decide) hgrz
                  have hbelz := hbel2.grown hgrz hbel2.size (fun k hk => by cases hk; omega)
                  clear hx2 he2 hf2 hv2' hu2 hbel2 hgrz
                  go_wp2
                  go_roundw
                  case rel => exact ⟨k + 1, by omega, by go_num, hbelz, hxz, hez, hfz, (by first | exact hvz | (rw [rfl]; exact hvz)), (by first | exact huz | (rw [hf2'.out]; exact huz)), hap2⟩
                  case measure => simp [intOf]; omega
                · have hf2' := Lib.hid (hfy.out (by rw [q1, q2]; rfl))
                  clear hfn hfy
                  go_upto_region 23 with (at_builtin; go_must (refine wpList_appC rfl _ _ 36 rfl w.heap.size 3 (.int .i64 0) 1 8 Try.underlying36 int_info rfl (by decide) _ _ _ rfl (hu2.alloc _) (some ⟨w2'.heap.size, 0, none⟩) 1 1 [inV k] rfl (fun h => (by cases h)) (Nat.le_refl _) rfl (RdV.one _ _ _) (one_int _ _) (by unfold maxLen; omega) (by omega) (le_alloc' hbel2.size _) ?_))
                  intro v3 w3' hu3 hgr3 hsn3
                  have hbel3 : Below w.heap.size w w3' := (hbel2.alloc hbel2.size _).grown hgr3 (le_alloc' hbel2.size _) (fun k hk => (hu2.ge k hk))
                  have hx3 : Blk w3' w.heap.size cs 24 := blk_own (hx2.alloc _) (hu2.alloc _) (by decide) hgr3
                  have he3 : Blk w3' (w.heap.size + 1) (enC e) 26 := blk_own (he2.alloc _) (hu2.alloc _) (by decide) hgr3
                  have hf3 := blk_own (hf2.alloc _) (hu2.alloc _) (by decide) hgr3
                  have hv3 := (hv2'.alloc (.cells #[.int .i64 k] 3)).apart hap2.out.symm hgr3
                  have hap3 := Lib.hid (hap2.out.symm.grown (hv2'.alloc (.cells #[.int .i64 k] 3)) hsn3).symm
                  have hu3' : Own w3' w.heap.size 3 1 v3 (foundTo t e.k e.n (k + 1)).length ((foundTo t e.k e.n (k + 1)).map inV) := by rw [hf2'.out, List.map_append, List.length_append]; exact hu3
                  clear hbel2 hx2 he2 hf2 hz2 hv2' hu2 hgr3 hsn3 hap2 hcz hce hu3
                  go_wp2_with (refine wpList_stv rfl _ _ _ rfl w7.heap.size (k * 3 + 2) (.bool false) [.bool false] rfl rfl rfl _ _ hf3 hfit.out bool_size (one_bool false) ?_)
                  intro wz hfz hgrz
                  rw [hset.out] at hfz
                  have hxz := blk_keep hx3 hf3 (by decide) hgrz
                  have hez := blk_keep he3 hf3 (by decide) hgrz
                  have hvz := own_keep hv3 hf3 (by decide) hgrz
                  have huz := own_keep hu3' hf3 (by decide) hgrz
                  have hbelz := hbel3.grown hgrz hbel3.size (fun k hk => by cases hk; omega)
                  clear hx3 he3 hf3 hv3 hu3' hbel3 hgrz
                  go_wp2
                  go_roundw
                  case rel => exact ⟨k + 1, by omega, by go_num, hbelz, hxz, hez, hfz, (by first | exact hvz | (rw [rfl]; exact hvz)), (by first | exact huz | (rw [rfl]; exact huz)), hap3⟩
                  case measure => simp [intOf]; omega
          · obtain rfl : k = 64 := by omega
            have hd : decide (((64 : Nat) : Int) < 64) = false := by decide
            rw [midW_end _ _ (by rw [flat_len64]; exact Nat.le_refl _)] at hf
            have hsg : Hid ((flC ((flatL t).map unW)).size = 192) := Lib.hid (by rw [flC_size, List.length_map, flat_len64])
            have hgt := Lib.hid (guard_tab H0.out)
            have hl1 := pagesTo_le t 64
            have hl2 := foundTo_le t e.k e.n 64
            obtain ⟨va, vc, rfl, vle, vmx, vnil, vrd⟩ := hv.rd
            obtain ⟨ua, uc, rfl, ule, umx, unil, urd⟩ := hu.rd
            clear hv hu hap
            go_upto_region 25 with (fail)
            refine wp_grow 21 [isV (.agg cs), (slR (pagesL t).length ((pagesL t).map inV)), isV (.slice va (pagesTo t 64).length vc), isV (.bool true), isV (.bool true), isV (.agg cs), isV (.pointer (some ⟨w.heap.size + 1, 0, none⟩)), isV (.int .i64 e.k), isV (.pointer (some ⟨w.heap.size + 1, 1, none⟩)), isV (.int .i64 e.n), (slR (findL t e.k e.n).length ((findL t e.k e.n).map inV)), isV (.slice ua (foundTo t e.k e.n 64).length uc), isV (.bool true), isV (.bool true), isV (.bool true), isV (.agg cs), (tabR (guardT t)), isV (.agg (flC ((flatL t).map unW))), (tabR (guardT t)), isV (.bool true), isV (.bool true)] (by kernel_rfl) (by kernel_rfl) (by kernel_rfl) (by decide) _ rfl (by kernel_rfl) (all_cons ?_ (all_cons ?_ (all_cons ?_ (all_cons ?_ (all_cons ?_ (all_cons ?_ (all_cons ?_ (all_cons ?_ (all_cons ?_ (all_cons ?_ (all_cons ?_ (all_cons ?_ (all_cons ?_ (all_cons ?_ (all_cons ?_ (all_cons ?_ (all_cons ?_ (all_cons ?_ (all_cons ?_ (all_cons ?_ (all_cons ?_ (all_nil)))))))))))))))))))))) ?_
            · intro ρ y W hw hn hb hd
              have E3 : ρ (.tmp 3) = .pointer (some ⟨w.heap.size, 0, none⟩) := (hn (.tmp 3) rfl).trans rfl
              refine asked_val (.agg cs) (want_free rfl) (run_load_rd rfl E3 (hx.ext hb).rd Try.underlying24 tab_agg (by rw [Array.length_toList, h.sz]; exact tab_size)) rfl
            · intro ρ y W hw hn hb hd
              have E104 := hw 104 0 rfl
              have h0 : y 0 = .agg cs := hd 0 rfl
              have EF : ∀ f, ρ (.func f) = .func (.func f) #[] #[] := fun f => hn (.func f) trivial
              refine asked_call _ _ (want_free rfl) (run_call rfl (EF _) Try.func23 (by kernel_rfl) (by kernel_rfl) (by simp only [List.map_toArray, List.map_cons, List.map_nil, E104, h0, EF]; rfl)) ?_
              refine (tpages_any t cs W (h.below (below_next hbr hb))).mono ?_
              rintro r w1 ⟨v, rfl, ho, hb1⟩
              exact ⟨v, rfl, hb1, ho.rd⟩
            · intro ρ y W hw hn hb hd
              have E13 : ρ (.tmp 13) = .slice va (pagesTo t 64).length vc := (hn (.tmp 13) rfl).trans rfl
              refine asked_val (.slice va (pagesTo t 64).length vc) (want_free rfl) (run_move (.inl rfl) E13) rfl
            · intro ρ y W hw hn hb hd
              have E105 := hw 105 1 rfl
              obtain ⟨a1, c1, h1, hle1, hmx1, hnil1, hrd1⟩ := hd 1 rfl
              have E106 := hw 106 2 rfl
              have h2 : y 2 = .slice va (pagesTo t 64).length vc := hd 2 rfl
              have EF : ∀ f, ρ (.func f) = .func (.func f) #[] #[] := fun f => hn (.func f) trivial
              refine asked_call _ _ (want_free rfl) (run_call rfl (EF _) Try.func22 (by kernel_rfl) (by kernel_rfl) (by simp only [List.map_toArray, List.map_cons, List.map_nil, E105, h1, E106, h2, EF]; rfl)) ?_
              refine (tsamei_any (pagesL t) (pagesTo t 64) _ _ _ _ W (hrd1.below (Below.refl _ _)) (vrd.below hb) (Nat.le_trans (pagesTo_le t 64) (by decide)) (Nat.le_trans hl1 (by decide))).mono ?_
              rintro r w1 ⟨rfl, hb1⟩
              exact ⟨_, rfl, hb1, ret_beq _⟩
            · intro ρ y W hw hn hb hd
              have E107 := hw 107 3 rfl
              have h3 : y 3 = .bool true := hd 3 rfl
              refine asked_val (.bool true) (want_free rfl) (run_move (.inl rfl) (E107.trans h3)) rfl
            · intro ρ y W hw hn hb hd
              have E3 : ρ (.tmp 3) = .pointer (some ⟨w.heap.size, 0, none⟩) := (hn (.tmp 3) rfl).trans rfl
              refine asked_val (.agg cs) (want_at 4 108 true true rfl rfl ((hw 108 4 rfl).trans (hd 4 rfl))) (run_load_rd rfl E3 (hx.ext hb).rd Try.underlying24 tab_agg (by rw [Array.length_toList, h.sz]; exact tab_size)) rfl
            · intro ρ y W hw hn hb hd
              have E5 : ρ (.tmp 5) = .pointer (some ⟨w.heap.size + 1, 0, none⟩) := (hn (.tmp 5) rfl).trans rfl
              refine asked_val (.pointer (some ⟨w.heap.size + 1, 0, none⟩)) (want_at 4 108 true true rfl rfl ((hw 108 4 rfl).trans (hd 4 rfl))) (by simp [execOp, go_sem, E5]) rfl
            · intro ρ y W hw hn hb hd
              have E110 := hw 110 6 rfl
              have h6 : y 6 = .pointer (some ⟨w.heap.size + 1, 0, none⟩) := hd 6 rfl
              refine asked_val (.int .i64 e.k) (want_at 4 108 true true rfl rfl ((hw 108 4 rfl).trans (hd 4 rfl))) (by simp [execOp, go_sem, E110, h6, (he.ext hb).cell, enC]) rfl
            · intro ρ y W hw hn hb hd
              have E5 : ρ (.tmp 5) = .pointer (some ⟨w.heap.size + 1, 0, none⟩) := (hn (.tmp 5) rfl).trans rfl
              refine asked_val (.pointer (some ⟨w.heap.size + 1, 1, none⟩)) (want_at 4 108 true true rfl rfl ((hw 108 4 rfl).trans (hd 4 rfl))) (by simp [execOp, go_sem, E5]) rfl
            · intro ρ y W hw hn hb hd
              have E112 := hw 112 8 rfl
              have h8 : y 8 = .pointer (some ⟨w.heap.size + 1, 1, none⟩) := hd 8 rfl
              refine asked_val (.int .i64 e.n) (want_at 4 108 true true rfl rfl ((hw 108 4 rfl).trans (hd 4 rfl))) (by simp [execOp, go_sem, E112, h8, (he.ext hb).cell, enC]) rfl
            · intro ρ y W hw hn hb hd
              have E109 := hw 109 5 rfl
              have h5 : y 5 = .agg cs := hd 5 rfl
              have E111 := hw 111 7 rfl
              have h7 : y 7 = .int .i64 e.k := hd 7 rfl
              have E113 := hw 113 9 rfl
              have h9 : y 9 = .int .i64 e.n := hd 9 rfl
              have EF : ∀ f, ρ (.func f) = .func (.func f) #[] #[] := fun f => hn (.func f) trivial
              refine asked_call _ _ (want_at 4 108 true true rfl rfl ((hw 108 4 rfl).trans (hd 4 rfl))) (run_call rfl (EF _) Try.func24 (by kernel_rfl) (by kernel_rfl) (by simp only [List.map_toArray, List.map_cons, List.map_nil, E109, h5, E111, h7, E113, h9, EF]; rfl)) ?_
              refine (tfind_any t cs e.k e.n W (h.below (below_next hbr hb))).mono ?_
              rintro r w1 ⟨v, rfl, ho, hb1⟩
              exact ⟨v, rfl, hb1, ho.rd⟩
            · intro ρ y W hw hn hb hd
              have E14 : ρ (.tmp 14) = .slice ua (foundTo t e.k e.n 64).length uc := (hn (.tmp 14) rfl).trans rfl
              refine asked_val (.slice ua (foundTo t e.k e.n 64).length uc) (want_at 4 108 true true rfl rfl ((hw 108 4 rfl).trans (hd 4 rfl))) (run_move (.inl rfl) E14) rfl
            · intro ρ y W hw hn hb hd
              have E114 := hw 114 10 rfl
              obtain ⟨a10, c10, h10, hle10, hmx10, hnil10, hrd10⟩ := hd 10 rfl
              have E115 := hw 115 11 rfl
              have h11 : y 11 = .slice ua (foundTo t e.k e.n 64).length uc := hd 11 rfl
              have EF : ∀ f, ρ (.func f) = .func (.func f) #[] #[] := fun f => hn (.func f) trivial
              refine asked_call _ _ (want_at 4 108 true true rfl rfl ((hw 108 4 rfl).trans (hd 4 rfl))) (run_call rfl (EF _) Try.func22 (by kernel_rfl) (by kernel_rfl) (by simp only [List.map_toArray, List.map_cons, List.map_nil, E114, h10, E115, h11, EF]; rfl)) ?_
              refine (tsamei_any (findL t e.k e.n) (foundTo t e.k e.n 64) _ _ _ _ W hrd10 (urd.below hb) (Nat.le_trans (foundTo_le t e.k e.n 64) (by decide)) (Nat.le_trans hl2 (by decide))).mono ?_
              rintro r w1 ⟨rfl, hb1⟩
              exact ⟨_, rfl, hb1, ret_beq _⟩
            · intro ρ y W hw hn hb hd
              have E108 := hw 108 4 rfl
              have h4 : y 4 = .bool true := hd 4 rfl
              have E116 := hw 116 12 rfl
              have h12 : y 12 = .bool true := hd 12 rfl
              refine asked_val (.bool true) (want_free rfl) (run_pick rfl (E108.trans h4) (by simpa using (E116.trans h12))) rfl
            · intro ρ y W hw hn hb hd
              have E117 := hw 117 13 rfl
              have h13 : y 13 = .bool true := hd 13 rfl
              refine asked_val (.bool true) (want_free rfl) (run_move (.inl rfl) (E117.trans h13)) rfl
            · intro ρ y W hw hn hb hd
              have E3 : ρ (.tmp 3) = .pointer (some ⟨w.heap.size, 0, none⟩) := (hn (.tmp 3) rfl).trans rfl
              refine asked_val (.agg cs) (want_at 14 118 true true rfl rfl ((hw 118 14 rfl).trans (hd 14 rfl))) (run_load_rd rfl E3 (hx.ext hb).rd Try.underlying24 tab_agg (by rw [Array.length_toList, h.sz]; exact tab_size)) rfl
            · intro ρ y W hw hn hb hd
              have E119 := hw 119 15 rfl
              have h15 : y 15 = .agg cs := hd 15 rfl
              have EF : ∀ f, ρ (.func f) = .func (.func f) #[] #[] := fun f => hn (.func f) trivial
              refine asked_call _ _ (want_at 14 118 true true rfl rfl ((hw 118 14 rfl).trans (hd 14 rfl))) (run_call rfl (EF _) Try.func25 (by kernel_rfl) (by kernel_rfl) (by simp only [List.map_toArray, List.map_cons, List.map_nil, E119, h15, EF]; rfl)) ?_
              refine (tguard_any t cs W (h.below (below_next hbr hb)) hz).mono ?_
              rintro e w1 ⟨ca, rfl, hO, hb1⟩
              exact ⟨_, rfl, hb1, ⟨_, rfl, hO.rd⟩⟩
            · intro ρ y W hw hn hb hd
              have E11 : ρ (.tmp 11) = .pointer (some ⟨w7.heap.size, 0, none⟩) := (hn (.tmp 11) rfl).trans rfl
              refine asked_val (.agg (flC ((flatL t).map unW))) (want_at 14 118 true true rfl rfl ((hw 118 14 rfl).trans (hd 14 rfl))) (run_load_rd rfl E11 (hf.ext hb).rd Try.underlying33 rfl (arr64_size.trans (congrArg some hsg.out.symm))) rfl
            · intro ρ y W hw hn hb hd
              have E121 := hw 121 17 rfl
              have h17 : y 17 = .agg (flC ((flatL t).map unW)) := hd 17 rfl
              have EF : ∀ f, ρ (.func f) = .func (.func f) #[] #[] := fun f => hn (.func f) trivial
              refine asked_call _ _ (want_at 14 118 true true rfl rfl ((hw 118 14 rfl).trans (hd 14 rfl))) (run_call rfl (EF _) Try.func26 (by kernel_rfl) (by kernel_rfl) (by simp only [List.map_toArray, List.map_cons, List.map_nil, E121, h17, EF]; rfl)) ?_
              refine (ttable_any _ W (by rw [List.length_map, flat_len64])).mono ?_
              rintro e w1 ⟨ca, rfl, hO, hb1⟩
              rw [hgt.out] at hO
              exact ⟨_, rfl, hb1, ⟨_, rfl, hO.rd⟩⟩
            · intro ρ y W hw hn hb hd
              have E120 := hw 120 16 rfl
              have h16 := hd 16 rfl
              have E122 := hw 122 18 rfl
              have h18 := hd 18 rfl
              have EF : ∀ f, ρ (.func f) = .func (.func f) #[] #[] := fun f => hn (.func f) trivial
              refine asked_call _ _ (want_at 14 118 true true rfl rfl ((hw 118 14 rfl).trans (hd 14 rfl))) (run_call rfl (EF _) Try.func16 (by kernel_rfl) (by kernel_rfl) (by simp only [List.map_toArray, List.map_cons, List.map_nil, E120, E122, EF]; rfl)) ?_
              obtain ⟨c1, e16, ho16⟩ := h16
              obtain ⟨c2, e18, ho18⟩ := h18
              rw [e16, e18]
              refine (tsame_any _ _ c1 c2 W ho16 ho18).mono ?_
              rintro e w1 ⟨rfl, hb1⟩
              rw [sameT_self]
              exact ⟨_, rfl, hb1, rfl⟩
            · intro ρ y W hw hn hb hd
              have E118 := hw 118 14 rfl
              have h14 : y 14 = .bool true := hd 14 rfl
              have E123 := hw 123 19 rfl
              have h19 : y 19 = .bool true := hd 19 rfl
              refine asked_val (.bool true) (want_free rfl) (run_pick rfl (E118.trans h14) (by simpa using (E123.trans h19))) rfl
            intro y WD hbWD hRWD
            have hy0 : y 0 = .agg cs := hRWD 0 (by decide)
            have hy2 : y 2 = .slice va (pagesTo t 64).length vc := hRWD 2 (by decide)
            have hy3 : y 3 = .bool true := hRWD 3 (by decide)
            have hy4 : y 4 = .bool true := hRWD 4 (by decide)
            have hy5 : y 5 = .agg cs := hRWD 5 (by decide)
            have hy6 : y 6 = .pointer (some ⟨w.heap.size + 1, 0, none⟩) := hRWD 6 (by decide)
            have hy7 : y 7 = .int .i64 e.k := hRWD 7 (by decide)
            have hy8 : y 8 = .pointer (some ⟨w.heap.size + 1, 1, none⟩) := hRWD 8 (by decide)
            have hy9 : y 9 = .int .i64 e.n := hRWD 9 (by decide)
            have hy11 : y 11 = .slice ua (foundTo t e.k e.n 64).length uc := hRWD 11 (by decide)
            have hy12 : y 12 = .bool true := hRWD 12 (by decide)
            have hy13 : y 13 = .bool true := hRWD 13 (by decide)
            have hy14 : y 14 = .bool true := hRWD 14 (by decide)
            have hy15 : y 15 = .agg cs := hRWD 15 (by decide)
            have hy17 : y 17 = .agg (flC ((flatL t).map unW)) := hRWD 17 (by decide)
            have hy19 : y 19 = .bool true := hRWD 19 (by decide)
            have hy20 : y 20 = .bool true := hRWD 20 (by decide)
            obtain ⟨ya1, yc1, hy1, yle1, ymx1, ynil1, yrd1⟩ := hRWD 1 (by decide)
            obtain ⟨ya10, yc10, hy10, yle10, ymx10, ynil10, yrd10⟩ := hRWD 10 (by decide)
            have hy16 : ((tabR (guardT t))).r (y 16) WD := hRWD 16 (by decide)
            have hy18 : ((tabR (guardT t))).r (y 18) WD := hRWD 18 (by decide)
            clear hRWD
            simp only [lay, Nat.reduceAdd, Nat.reduceLT, decide_true, decide_false, if_true, Bool.false_eq_true, if_false, List.setIfInBounds_toArray, List.set_cons_zero, List.set_cons_succ, List.drop_succ_cons, List.drop_zero, List.drop_nil, hy0, hy1, hy2, hy3, hy4, hy5, hy6, hy7, hy8, hy9, hy10, hy11, hy12, hy13, hy14, hy15, hy17, hy19, hy20]
            clear hy0 hy1 hy2 hy3 hy4 hy5 hy6 hy7 hy8 hy9 hy10 hy11 hy12 hy13 hy14 hy15 hy17 hy19 hy20
            have hbelD := below_next hbr hbWD
            clear hbr hx he hf hbWD
            go_wp2
            go_ret
            exact ⟨rfl, hbelD⟩
  · have h0' : (wrongT t != 0) = true := by simpa using h0
    clear h0
    go_wp2
    go_ret
    exact ⟨rfl, hbel6⟩
end Go.Proofs.Ytmdnmknmniabeaa
