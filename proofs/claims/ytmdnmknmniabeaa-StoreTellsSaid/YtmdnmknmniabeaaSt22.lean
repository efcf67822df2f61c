/- The law StoreTells, walked. -/
import Derived.Test.YtmdnmknmniabeaaSt20
import Derived.Test.YtmdnmknmniabeaaSt21
import Derived.Test.YtmdnmknmniabeaaSt13
import Derived.Test.YtmdnmknmniabeaaSt14
import Derived.Test.YtmdnmknmniabeaaSt15
namespace Go.Proofs.Ytmdnmknmniabeaa
open Go.RowKit Go.Maps Pw
set_option linter.unusedSimpArgs false
set_option linter.unusedVariables false

def stoR (s : St) : Rel := ⟨fun v w => ∃ (a : Option Addr) (c : Nat) (k : Int) (ps : List PF), v = .agg (stC a ps.length c k) ∧ FsR w a c ps ∧ stOf ps k = s, by
  rintro v w w' hb ⟨a, c, k, ps, h1, h2, h3⟩
  exact ⟨a, c, k, ps, h1, h2.below hb, h3⟩⟩
theorem sameSt_self (s : St) : sameSt s s = true := decide_eq_true rfl
set_option maxHeartbeats 4000000 in
set_option maxRecDepth 100000 in
theorem store_tells (ps : List PF) (k file index n : Int) (a : Option Addr) (c : Nat) (w : World) (h : FsR w a c ps) (hz : FsSz ps) (hk64 : -9223372036854775808 ≤ k ∧ k ≤ 9223372036854775807) :
    Calls Try.prog 6 #[.agg (stC a ps.length c k), .int .i64 file, .int .i64 index, .int .i64 n] w fun r w' => r = .returned (.bool true) ∧ Below w.heap.size w w' := by
  have hlc := Nat.le_trans h.le h.mx
  unfold maxLen at hlc
  unfold stC
  go_enter Try.func6, Try.ntmps6
  go_upto_region 1 with (fail)
  refine abs1 (fun W => Code.wp _ _ _ _ W) fun W0 hb0 hx0 hs0 => ?_
  clear hs0
  go_wp2_with fail
  refine (snew_any n _).mono ?_
  rintro r w1 ⟨rfl, hb1⟩
  have hbel1 := below_next hb0 hb1
  have hx1 := hx0.ext hb1
  clear hb0 hx0 hb1
  go_wp2_with (refine wpList_stn rfl _ _ _ rfl #[.slice none 0 0, .int .i64 (newC n)] rfl rfl rfl store_size (sl_in _ _ _ _) ?_)
  intro w2 hb2 ho2
  have hbel2 := below_next hbel1 hb2
  have hx2 := hx1.ext hb2
  clear hbel1 hx1 hb2
  go_upto_region 2 with (fail)
  by_cases hn0 : 0 ≤ n
  · by_cases hn80 : n ≤ 80
    · have hnE : newE n = 0 := by unfold newE; rw [if_neg (by omega)]
      have hnC : newC n = n := by unfold newC; rw [if_neg (by omega)]
      refine wp_grow 39 [isV (.agg #[.slice a ps.length c, .int .i64 k]), isV (.int .i64 (wrongSt (stOf ps k))), isV (.agg #[.slice a ps.length c, .int .i64 k]), isV (.int .i64 (wrongSt (stOf ps k))), isV (.bool false), isV (.bool false), isV (.agg #[.slice a ps.length c, .int .i64 k]), stoR (stOf ps k), isV (.agg #[.slice a ps.length c, .int .i64 k]), isV (.bool true), isV (.bool false), isV (.bool false), isV (.bool false), isV (.int .i64 (newE n)), isV (.bool true), isV (.int .i64 n), isV (.bool true), isV (.bool true), isV (.int .i64 n), isV (.bool true), isV (.bool true), isV (.bool false), isV (.bool false), isV (.bool false), isV (.int .i64 (newE n)), isV (.bool true), isV (.bool true), isV (.pointer (some ⟨w1.heap.size, 1, none⟩)), isV (.int .i64 n), isV (.int .i64 n), isV (.bool false), isV (.bool false), isV (.pointer (some ⟨w1.heap.size, 0, none⟩)), isV (.slice none 0 0), isV (.int .i64 0), isV (.bool false), isV (.bool false), isV (.bool false), isV (.bool false)] (by kernel_rfl) (by kernel_rfl) (by kernel_rfl) (by decide) _ rfl (by kernel_rfl) (all_cons ?_ (all_cons ?_ (all_cons ?_ (all_cons ?_ (all_cons ?_ (all_cons ?_ (all_cons ?_ (all_cons ?_ (all_cons ?_ (all_cons ?_ (all_cons ?_ (all_cons ?_ (all_cons ?_ (all_cons ?_ (all_cons ?_ (all_cons ?_ (all_cons ?_ (all_cons ?_ (all_cons ?_ (all_cons ?_ (all_cons ?_ (all_cons ?_ (all_cons ?_ (all_cons ?_ (all_cons ?_ (all_cons ?_ (all_cons ?_ (all_cons ?_ (all_cons ?_ (all_cons ?_ (all_cons ?_ (all_cons ?_ (all_cons ?_ (all_cons ?_ (all_cons ?_ (all_cons ?_ (all_cons ?_ (all_cons ?_ (all_cons ?_ (all_nil)))))))))))))))))))))))))))))))))))))))) ?_
      · intro ρ y W hw hn hb hd
        have E4 : ρ (.tmp 4) = .pointer (some ⟨w.heap.size, 0, none⟩) := (hn (.tmp 4) rfl).trans rfl
        refine asked_val (.agg #[.slice a ps.length c, .int .i64 k]) (want_free rfl) (run_load_blk rfl E4 (hx2.ext hb) Try.underlying47 rfl store_size) rfl
      · intro ρ y W hw hn hb hd
        have E23 := hw 23 0 rfl
        have h0 : y 0 = .agg #[.slice a ps.length c, .int .i64 k] := hd 0 rfl
        have EF : ∀ f, ρ (.func f) = .func (.func f) #[] #[] := fun f => hn (.func f) trivial
        refine asked_call _ _ (want_free rfl) (run_call rfl (EF _) Try.func29 (by kernel_rfl) (by kernel_rfl) (by simp only [List.map_toArray, List.map_cons, List.map_nil, E23, h0, EF]; rfl)) ?_
        refine (swrong_any ps k a c W (h.below (below_next hbel2 hb)) hk64).mono ?_
        rintro r w1 ⟨rfl, hb1⟩
        exact ⟨_, rfl, hb1, rfl⟩
      · intro ρ y W hw hn hb hd
        have E4 : ρ (.tmp 4) = .pointer (some ⟨w.heap.size, 0, none⟩) := (hn (.tmp 4) rfl).trans rfl
        refine asked_val (.agg #[.slice a ps.length c, .int .i64 k]) (want_free rfl) (run_load_blk rfl E4 (hx2.ext hb) Try.underlying47 rfl store_size) rfl
      · intro ρ y W hw hn hb hd
        have E25 := hw 25 2 rfl
        have h2 : y 2 = .agg #[.slice a ps.length c, .int .i64 k] := hd 2 rfl
        have EF : ∀ f, ρ (.func f) = .func (.func f) #[] #[] := fun f => hn (.func f) trivial
        refine asked_call _ _ (want_free rfl) (run_call rfl (EF _) Try.func30 (by kernel_rfl) (by kernel_rfl) (by simp only [List.map_toArray, List.map_cons, List.map_nil, E25, h2, EF]; rfl)) ?_
        refine (rswrong_any ps k a c W (h.below (below_next hbel2 hb)) hk64).mono ?_
        rintro r w1 ⟨rfl, hb1⟩
        exact ⟨_, rfl, hb1, rfl⟩
      · intro ρ y W hw hn hb hd
        have E24 := hw 24 1 rfl
        have h1 : y 1 = .int .i64 (wrongSt (stOf ps k)) := hd 1 rfl
        have E26 := hw 26 3 rfl
        have h3 : y 3 = .int .i64 (wrongSt (stOf ps k)) := hd 3 rfl
        refine asked_val (.bool false) (want_free rfl) (run_bin rfl (E24.trans h1) (E26.trans h3) (by simp [go_sem])) rfl
      · intro ρ y W hw hn hb hd
        have E27 := hw 27 4 rfl
        have h4 : y 4 = .bool false := hd 4 rfl
        refine asked_val (.bool false) (want_free rfl) (run_move (.inl rfl) (E27.trans h4)) rfl
      · intro ρ y W hw hn hb hd
        have E4 : ρ (.tmp 4) = .pointer (some ⟨w.heap.size, 0, none⟩) := (hn (.tmp 4) rfl).trans rfl
        refine asked_val (.agg #[.slice a ps.length c, .int .i64 k]) (want_at 5 28 false false rfl rfl ((hw 28 5 rfl).trans (hd 5 rfl))) (run_load_blk rfl E4 (hx2.ext hb) Try.underlying47 rfl store_size) rfl
      · intro ρ y W hw hn hb hd
        have E29 := hw 29 6 rfl
        have h6 : y 6 = .agg #[.slice a ps.length c, .int .i64 k] := hd 6 rfl
        have EF : ∀ f, ρ (.func f) = .func (.func f) #[] #[] := fun f => hn (.func f) trivial
        refine asked_call _ _ (want_at 5 28 false false rfl rfl ((hw 28 5 rfl).trans (hd 5 rfl))) (run_call rfl (EF _) Try.func32 (by kernel_rfl) (by kernel_rfl) (by simp only [List.map_toArray, List.map_cons, List.map_nil, E29, h6, EF]; rfl)) ?_
        refine (sown_any ps k a c W (h.below (below_next hbel2 hb)) hz).mono ?_
        rintro r w1 ⟨v, qs, rfl, hO, hq, hb1⟩
        obtain ⟨a1, c1, rfl, hR⟩ := hO.rd
        exact ⟨_, rfl, hb1, a1, c1, k, qs, rfl, hR, by unfold stOf; rw [hq]⟩
      · intro ρ y W hw hn hb hd
        have E4 : ρ (.tmp 4) = .pointer (some ⟨w.heap.size, 0, none⟩) := (hn (.tmp 4) rfl).trans rfl
        refine asked_val (.agg #[.slice a ps.length c, .int .i64 k]) (want_at 5 28 false false rfl rfl ((hw 28 5 rfl).trans (hd 5 rfl))) (run_load_blk rfl E4 (hx2.ext hb) Try.underlying47 rfl store_size) rfl
      · intro ρ y W hw hn hb hd
        have E30 := hw 30 7 rfl
        have h7 := hd 7 rfl
        have E31 := hw 31 8 rfl
        have h8 : y 8 = .agg #[.slice a ps.length c, .int .i64 k] := hd 8 rfl
        have EF : ∀ f, ρ (.func f) = .func (.func f) #[] #[] := fun f => hn (.func f) trivial
        obtain ⟨a1, c1, k1, qs, h7v, hR, hq⟩ := h7
        refine asked_call _ _ (want_at 5 28 false false rfl rfl ((hw 28 5 rfl).trans (hd 5 rfl))) (run_call rfl (EF _) Try.func31 (by kernel_rfl) (by kernel_rfl) (by simp only [List.map_toArray, List.map_cons, List.map_nil, E30, E31, h8, EF, h7v, stC]; rfl)) ?_
        refine (ssame_any qs ps k1 k a1 a c1 c W hR (h.below (below_next hbel2 hb))).mono ?_
        rintro r w1 ⟨rfl, hb1⟩
        rw [hq, sameSt_self]
        exact ⟨_, rfl, hb1, rfl⟩
      · intro ρ y W hw hn hb hd
        have E32 := hw 32 9 rfl
        have h9 : y 9 = .bool true := hd 9 rfl
        refine asked_val (.bool false) (want_at 5 28 false false rfl rfl ((hw 28 5 rfl).trans (hd 5 rfl))) (run_not rfl (E32.trans h9)) rfl
      · intro ρ y W hw hn hb hd
        have E28 := hw 28 5 rfl
        have h5 : y 5 = .bool false := hd 5 rfl
        have E33 := hw 33 10 rfl
        have h10 : y 10 = .bool false := hd 10 rfl
        refine asked_val (.bool false) (want_free rfl) (run_pick rfl (E28.trans h5) (by first | simpa using (E33.trans h10) | exact (hn (.const _) trivial).trans rfl)) rfl
      · intro ρ y W hw hn hb hd
        have E34 := hw 34 11 rfl
        have h11 : y 11 = .bool false := hd 11 rfl
        refine asked_val (.bool false) (want_free rfl) (run_move (.inl rfl) (E34.trans h11)) rfl
      · intro ρ y W hw hn hb hd
        have E10 : ρ (.tmp 10) = .int .i64 (newE n) := (hn (.tmp 10) rfl).trans rfl
        refine asked_val (.int .i64 (newE n)) (want_at 12 35 false false rfl rfl ((hw 35 12 rfl).trans (hd 12 rfl))) (run_move (.inl rfl) E10) rfl
      · intro ρ y W hw hn hb hd
        have E36 := hw 36 13 rfl
        have h13 : y 13 = .int .i64 (newE n) := hd 13 rfl
        refine asked_val (.bool true) (want_at 12 35 false false rfl rfl ((hw 35 12 rfl).trans (hd 12 rfl))) (run_bin rfl (E36.trans h13) (hn (.const _) trivial) (by simp [go_sem, hnE])) rfl
      · intro ρ y W hw hn hb hd
        have E3 : ρ (.tmp 3) = .int .i64 n := (hn (.tmp 3) rfl).trans rfl
        refine asked_val (.int .i64 n) (want_at 12 35 false false rfl rfl ((hw 35 12 rfl).trans (hd 12 rfl))) (run_move (.inl rfl) E3) rfl
      · intro ρ y W hw hn hb hd
        have E38 := hw 38 15 rfl
        have h15 : y 15 = .int .i64 n := hd 15 rfl
        refine asked_val (.bool true) (want_at 12 35 false false rfl rfl ((hw 35 12 rfl).trans (hd 12 rfl))) (run_bin rfl (E38.trans h15) (hn (.const _) trivial) (by simp [go_sem, hn0])) rfl
      · intro ρ y W hw hn hb hd
        have E39 := hw 39 16 rfl
        have h16 : y 16 = .bool true := hd 16 rfl
        refine asked_val (.bool true) (want_at 12 35 false false rfl rfl ((hw 35 12 rfl).trans (hd 12 rfl))) (run_move (.inl rfl) (E39.trans h16)) rfl
      · intro ρ y W hw hn hb hd
        have E3 : ρ (.tmp 3) = .int .i64 n := (hn (.tmp 3) rfl).trans rfl
        refine asked_val (.int .i64 n) (want_at 17 40 true true rfl rfl ((hw 40 17 rfl).trans (hd 17 rfl))) (run_move (.inl rfl) E3) rfl
      · intro ρ y W hw hn hb hd
        have E41 := hw 41 18 rfl
        have h18 : y 18 = .int .i64 n := hd 18 rfl
        refine asked_val (.bool true) (want_at 17 40 true true rfl rfl ((hw 40 17 rfl).trans (hd 17 rfl))) (run_bin rfl (E41.trans h18) (hn (.const _) trivial) (by simp [go_sem, hn80])) rfl
      · intro ρ y W hw hn hb hd
        have E40 := hw 40 17 rfl
        have h17 : y 17 = .bool true := hd 17 rfl
        have E42 := hw 42 19 rfl
        have h19 : y 19 = .bool true := hd 19 rfl
        refine asked_val (.bool true) (want_at 12 35 false false rfl rfl ((hw 35 12 rfl).trans (hd 12 rfl))) (run_pick rfl (E40.trans h17) (by first | simpa using (E42.trans h19) | exact (hn (.const _) trivial).trans rfl)) rfl
      · intro ρ y W hw hn hb hd
        have E37 := hw 37 14 rfl
        have h14 : y 14 = .bool true := hd 14 rfl
        have E43 := hw 43 20 rfl
        have h20 : y 20 = .bool true := hd 20 rfl
        refine asked_val (.bool false) (want_at 12 35 false false rfl rfl ((hw 35 12 rfl).trans (hd 12 rfl))) (run_bin rfl (E37.trans h14) (E43.trans h20) (by simp [go_sem])) rfl
      · intro ρ y W hw hn hb hd
        have E35 := hw 35 12 rfl
        have h12 : y 12 = .bool false := hd 12 rfl
        have E44 := hw 44 21 rfl
        have h21 : y 21 = .bool false := hd 21 rfl
        refine asked_val (.bool false) (want_free rfl) (run_pick rfl (E35.trans h12) (by first | simpa using (E44.trans h21) | exact (hn (.const _) trivial).trans rfl)) rfl
      · intro ρ y W hw hn hb hd
        have E45 := hw 45 22 rfl
        have h22 : y 22 = .bool false := hd 22 rfl
        refine asked_val (.bool false) (want_free rfl) (run_move (.inl rfl) (E45.trans h22)) rfl
      · intro ρ y W hw hn hb hd
        have E10 : ρ (.tmp 10) = .int .i64 (newE n) := (hn (.tmp 10) rfl).trans rfl
        refine asked_val (.int .i64 (newE n)) (want_at 23 46 false false rfl rfl ((hw 46 23 rfl).trans (hd 23 rfl))) (run_move (.inl rfl) E10) rfl
      · intro ρ y W hw hn hb hd
        have E47 := hw 47 24 rfl
        have h24 : y 24 = .int .i64 (newE n) := hd 24 rfl
        refine asked_val (.bool true) (want_at 23 46 false false rfl rfl ((hw 46 23 rfl).trans (hd 23 rfl))) (run_bin rfl (E47.trans h24) (hn (.const _) trivial) (by simp [go_sem, hnE])) rfl
      · intro ρ y W hw hn hb hd
        have E48 := hw 48 25 rfl
        have h25 : y 25 = .bool true := hd 25 rfl
        refine asked_val (.bool true) (want_at 23 46 false false rfl rfl ((hw 46 23 rfl).trans (hd 23 rfl))) (run_move (.inl rfl) (E48.trans h25)) rfl
      · intro ρ y W hw hn hb hd
        have E9 : ρ (.tmp 9) = .pointer (some ⟨w1.heap.size, 0, none⟩) := (hn (.tmp 9) rfl).trans rfl
        refine asked_val (.pointer (some ⟨w1.heap.size, 1, none⟩)) (want_at 26 49 true true rfl rfl ((hw 49 26 rfl).trans (hd 26 rfl))) (by simp [execOp, go_sem, E9]) rfl
      · intro ρ y W hw hn hb hd
        have E50 := hw 50 27 rfl
        have h27 : y 27 = .pointer (some ⟨w1.heap.size, 1, none⟩) := hd 27 rfl
        have hc1 := (ho2.ext hb).cell 1
        simp at hc1
        refine asked_val (.int .i64 n) (want_at 26 49 true true rfl rfl ((hw 49 26 rfl).trans (hd 26 rfl))) (by simp [execOp, go_sem, E50, h27, hc1, hnC]) rfl
      · intro ρ y W hw hn hb hd
        have E3 : ρ (.tmp 3) = .int .i64 n := (hn (.tmp 3) rfl).trans rfl
        refine asked_val (.int .i64 n) (want_at 26 49 true true rfl rfl ((hw 49 26 rfl).trans (hd 26 rfl))) (run_move (.inl rfl) E3) rfl
      · intro ρ y W hw hn hb hd
        have E51 := hw 51 28 rfl
        have h28 : y 28 = .int .i64 n := hd 28 rfl
        have E52 := hw 52 29 rfl
        have h29 : y 29 = .int .i64 n := hd 29 rfl
        refine asked_val (.bool false) (want_at 26 49 true true rfl rfl ((hw 49 26 rfl).trans (hd 26 rfl))) (run_bin rfl (E51.trans h28) (E52.trans h29) (by simp [go_sem])) rfl
      · intro ρ y W hw hn hb hd
        have E53 := hw 53 30 rfl
        have h30 : y 30 = .bool false := hd 30 rfl
        refine asked_val (.bool false) (want_at 26 49 true true rfl rfl ((hw 49 26 rfl).trans (hd 26 rfl))) (run_move (.inl rfl) (E53.trans h30)) rfl
      · intro ρ y W hw hn hb hd
        have E9 : ρ (.tmp 9) = .pointer (some ⟨w1.heap.size, 0, none⟩) := (hn (.tmp 9) rfl).trans rfl
        refine asked_val (.pointer (some ⟨w1.heap.size, 0, none⟩)) (want_at 31 54 false false rfl rfl ((hw 54 31 rfl).trans (hd 31 rfl))) (by simp [execOp, go_sem, E9]) rfl
      · intro ρ y W hw hn hb hd
        have E55 := hw 55 32 rfl
        have h32 : y 32 = .pointer (some ⟨w1.heap.size, 0, none⟩) := hd 32 rfl
        have hc0 := (ho2.ext hb).cell 0
        simp at hc0
        refine asked_val (.slice none 0 0) (want_at 31 54 false false rfl rfl ((hw 54 31 rfl).trans (hd 31 rfl))) (by simp [execOp, go_sem, E55, h32, hc0]) rfl
      · intro ρ y W hw hn hb hd
        have E56 := hw 56 33 rfl
        have h33 : y 33 = .slice none 0 0 := hd 33 rfl
        refine asked_val (.int .i64 0) (want_at 31 54 false false rfl rfl ((hw 54 31 rfl).trans (hd 31 rfl))) (run_lenS rfl (E56.trans h33) rfl) rfl
      · intro ρ y W hw hn hb hd
        have E57 := hw 57 34 rfl
        have h34 : y 34 = .int .i64 0 := hd 34 rfl
        refine asked_val (.bool false) (want_at 31 54 false false rfl rfl ((hw 54 31 rfl).trans (hd 31 rfl))) (run_bin rfl (E57.trans h34) (hn (.const _) trivial) (by simp [go_sem])) rfl
      · intro ρ y W hw hn hb hd
        have E54 := hw 54 31 rfl
        have h31 : y 31 = .bool false := hd 31 rfl
        have E58 := hw 58 35 rfl
        have h35 : y 35 = .bool false := hd 35 rfl
        refine asked_val (.bool false) (want_at 26 49 true true rfl rfl ((hw 49 26 rfl).trans (hd 26 rfl))) (run_pick rfl (E54.trans h31) (by first | simpa using (E58.trans h35) | exact (hn (.const _) trivial).trans rfl)) rfl
      · intro ρ y W hw hn hb hd
        have E49 := hw 49 26 rfl
        have h26 : y 26 = .bool true := hd 26 rfl
        have E59 := hw 59 36 rfl
        have h36 : y 36 = .bool false := hd 36 rfl
        refine asked_val (.bool false) (want_at 23 46 false false rfl rfl ((hw 46 23 rfl).trans (hd 23 rfl))) (run_pick rfl (E49.trans h26) (by first | simpa using (E59.trans h36) | exact (hn (.const _) trivial).trans rfl)) rfl
      · intro ρ y W hw hn hb hd
        have E46 := hw 46 23 rfl
        have h23 : y 23 = .bool false := hd 23 rfl
        have E60 := hw 60 37 rfl
        have h37 : y 37 = .bool false := hd 37 rfl
        refine asked_val (.bool false) (want_free rfl) (run_pick rfl (E46.trans h23) (by first | simpa using (E60.trans h37) | exact (hn (.const _) trivial).trans rfl)) rfl
      intro y WA hbWA hRWA
      have hy0 : y 0 = .agg #[.slice a ps.length c, .int .i64 k] := hRWA 0 (by decide)
      have hy1 : y 1 = .int .i64 (wrongSt (stOf ps k)) := hRWA 1 (by decide)
      have hy2 : y 2 = .agg #[.slice a ps.length c, .int .i64 k] := hRWA 2 (by decide)
      have hy3 : y 3 = .int .i64 (wrongSt (stOf ps k)) := hRWA 3 (by decide)
      have hy4 : y 4 = .bool false := hRWA 4 (by decide)
      have hy5 : y 5 = .bool false := hRWA 5 (by decide)
      have hy6 : y 6 = .agg #[.slice a ps.length c, .int .i64 k] := hRWA 6 (by decide)
      have hy8 : y 8 = .agg #[.slice a ps.length c, .int .i64 k] := hRWA 8 (by decide)
      have hy9 : y 9 = .bool true := hRWA 9 (by decide)
      have hy10 : y 10 = .bool false := hRWA 10 (by decide)
      have hy11 : y 11 = .bool false := hRWA 11 (by decide)
      have hy12 : y 12 = .bool false := hRWA 12 (by decide)
      have hy13 : y 13 = .int .i64 (newE n) := hRWA 13 (by decide)
      have hy14 : y 14 = .bool true := hRWA 14 (by decide)
      have hy15 : y 15 = .int .i64 n := hRWA 15 (by decide)
      have hy16 : y 16 = .bool true := hRWA 16 (by decide)
      have hy17 : y 17 = .bool true := hRWA 17 (by decide)
      have hy18 : y 18 = .int .i64 n := hRWA 18 (by decide)
      have hy19 : y 19 = .bool true := hRWA 19 (by decide)
      have hy20 : y 20 = .bool true := hRWA 20 (by decide)
      have hy21 : y 21 = .bool false := hRWA 21 (by decide)
      have hy22 : y 22 = .bool false := hRWA 22 (by decide)
      have hy23 : y 23 = .bool false := hRWA 23 (by decide)
      have hy24 : y 24 = .int .i64 (newE n) := hRWA 24 (by decide)
      have hy25 : y 25 = .bool true := hRWA 25 (by decide)
      have hy26 : y 26 = .bool true := hRWA 26 (by decide)
      have hy27 : y 27 = .pointer (some ⟨w1.heap.size, 1, none⟩) := hRWA 27 (by decide)
      have hy28 : y 28 = .int .i64 n := hRWA 28 (by decide)
      have hy29 : y 29 = .int .i64 n := hRWA 29 (by decide)
      have hy30 : y 30 = .bool false := hRWA 30 (by decide)
      have hy31 : y 31 = .bool false := hRWA 31 (by decide)
      have hy32 : y 32 = .pointer (some ⟨w1.heap.size, 0, none⟩) := hRWA 32 (by decide)
      have hy33 : y 33 = .slice none 0 0 := hRWA 33 (by decide)
      have hy34 : y 34 = .int .i64 0 := hRWA 34 (by decide)
      have hy35 : y 35 = .bool false := hRWA 35 (by decide)
      have hy36 : y 36 = .bool false := hRWA 36 (by decide)
      have hy37 : y 37 = .bool false := hRWA 37 (by decide)
      have hy38 : y 38 = .bool false := hRWA 38 (by decide)
      have hy7 := hRWA 7 (by decide)
      clear hRWA
      simp only [lay, Nat.reduceAdd, Nat.reduceLT, decide_true, decide_false, if_true, Bool.false_eq_true, if_false, List.setIfInBounds_toArray, List.set_cons_zero, List.set_cons_succ, List.drop_succ_cons, List.drop_zero, List.drop_nil, hy0, hy1, hy2, hy3, hy4, hy5, hy6, hy8, hy9, hy10, hy11, hy12, hy13, hy14, hy15, hy16, hy17, hy18, hy19, hy20, hy21, hy22, hy23, hy24, hy25, hy26, hy27, hy28, hy29, hy30, hy31, hy32, hy33, hy34, hy35, hy36, hy37, hy38]
      clear hy0 hy1 hy2 hy3 hy4 hy5 hy6 hy8 hy9 hy10 hy11 hy12 hy13 hy14 hy15 hy16 hy17 hy18 hy19 hy20 hy21 hy22 hy23 hy24 hy25 hy26 hy27 hy28 hy29 hy30 hy31 hy32 hy33 hy34 hy35 hy36 hy37 hy38
      clear hnE hnC
      have hbelA := below_next hbel2 hbWA
      have hxA := hx2.ext hbWA
      clear hbel2 hx2 ho2 hbWA
      go_wp2_with (refine wpList_ldg _ _ rfl _ 0 rfl rfl _ hxA.rd _ Try.underlying47 rfl store_size ?_)
      refine (screate_any ps k a c _ (h.below hbelA) hk64).mono ?_
      rintro r w3 ⟨v3, qs3, k3, rfl, hO3, hst30, hb3⟩
      have hst3 := Lib.hid hst30
      obtain ⟨a3, c3, rfl, hR3⟩ := hO3.rd
      have hbel3 := below_next hbelA hb3
      have hx3 := hxA.ext hb3
      clear hst30 hbelA hxA hb3 hO3
      go_wp2_with (first | (refine wpList_stn rfl _ _ _ rfl #[.slice a3 qs3.length c3, .int .i64 k3] rfl rfl rfl store_size (sl_in _ _ _ _) ?_) | (refine wpList_ldg _ _ rfl _ 0 rfl rfl _ hx3.rd _ Try.underlying47 rfl store_size ?_))
      intro w4 hb4 ho4
      have hbel4 := below_next hbel3 hb4
      have hx4 := hx3.ext hb4
      have hR4 := hR3.below hb4
      have hB30 := hbel3.size
      have hL30 := hx3.lt
      clear hbel3 hx3 hb4 hR3
      go_wp2_with (refine wpList_ldg _ _ rfl _ 0 rfl rfl _ hx4.rd _ Try.underlying47 rfl store_size ?_)
      refine (rcreate_any ps k a c _ (h.below hbel4) hk64).mono ?_
      rintro r w5 ⟨a5, c5, k5, qs5, rfl, hR5, hst50, hb5⟩
      have hst5 := Lib.hid hst50
      have hbel5 := below_next hbel4 hb5
      have hx5 := hx4.ext hb5
      have ho5 := ho4.ext hb5
      have hS5 := hR4.below hb5
      clear hst50 hbel4 hx4 hb5 ho4 hR4
      unfold stC
      go_wp2_with (refine wpList_stn rfl _ _ _ rfl #[.slice a5 qs5.length c5, .int .i64 k5] rfl rfl rfl store_size (sl_in _ _ _ _) ?_)
      intro w6 hb6 hp6
      have hbel6 := below_next hbel5 hb6
      have hx6 := hx5.ext hb6
      have ho6 := ho5.ext hb6
      have hS6 := hS5.below hb6
      have hR6 := hR5.below hb6
      have hB50 := hbel5.size
      have hL50 := ho5.lt
      clear hbel5 hx5 ho5 hb6 hS5 hR5
      go_wp2_with (first | (refine wpList_ldg _ _ rfl _ 0 rfl rfl _ ho6.rd _ Try.underlying47 rfl store_size ?_) | (refine wpList_ldg _ _ rfl _ 0 rfl rfl _ hp6.rd _ Try.underlying47 rfl store_size ?_))
      refine (ssame_any qs3 qs5 k3 k5 a3 a5 c3 c5 _ hS6 hR6).mono ?_
      rintro r w7 ⟨rfl, hb7⟩
      rw [hst3.out, hst5.out, sameSt_self]
      have hbel7 := below_next hbel6 hb7
      have hx7 := hx6.ext hb7
      have ho7 := ho6.ext hb7
      have hp7 := hp6.ext hb7
      have hB3 := Lib.hid hB30
      have hB5 := Lib.hid hB50
      have hL3 := Lib.hid hL30
      have hL5 := Lib.hid hL50
      clear hbel6 hx6 ho6 hp6 hb7 hS6 hR6 hst3 hst5 hB30 hB50 hL30 hL50
      go_wp2_with (refine wpList_ldg _ _ rfl _ 0 rfl rfl _ hx7.rd _ Try.underlying47 rfl store_size ?_)
      refine (ssize_any ps k file n a c _ (h.below hbel7) hk64).mono ?_
      rintro r w8 ⟨v8, qs8, k8, rfl, hO8, hst80, hb8⟩
      have hst8 := Lib.hid hst80
      have hbel8 := below_next hbel7 hb8
      have hx8 := hx7.ext hb8
      have ho8 := ho7.ext hb8
      have hp8 := hp7.ext hb8
      clear hst80 hbel7 hx7 ho7 hp7 hb8
      obtain ⟨a80, c80, rfl, _⟩ := hO8.rd
      go_wp2_with (first | (refine wpList_stw rfl _ _ _ rfl w3.heap.size #[.slice a80 qs8.length c80, .int .i64 k8] rfl rfl _ _ ho8 rfl store_size (sl_in _ _ _ _) ?_) | (refine wpList_ldg _ _ rfl _ 0 rfl rfl _ hx8.rd _ Try.underlying47 rfl store_size ?_))
      intro w9 ho9 hgr9
      have hO9 := hO8.keep ho8 (by decide) (by decide) hgr9
      have hbel9 := hbel8.grown hgr9 hbel8.size (fun k hk => by cases hk; exact hB3.out)
      have hx9 := hx8.grown hgr9 (fun he => by have := Option.some.inj he; have := hL3.out; omega)
      have hp9 := hp8.grown hgr9 (fun he => by have := Option.some.inj he; have := hL5.out; omega)
      clear hO8 hbel8 hx8 hp8 ho8 hgr9
      go_wp2_with (refine wpList_ldg _ _ rfl _ 0 rfl rfl _ hx9.rd _ Try.underlying47 rfl store_size ?_)
      refine (rsize_any ps k file n a c _ (h.below hbel9) hk64).mono ?_
      rintro r w10 ⟨a10, c10, k10, qs10, rfl, hR10, hst100, hb10, hsty0⟩
      have hst10 := Lib.hid hst100
      have hsty := Lib.hid hsty0
      have hlt9 := Lib.hid hp9.lt
      have hbel10 := below_next hbel9 hb10
      have hx10 := hx9.ext hb10
      have ho10 := ho9.ext hb10
      have hp10 := hp9.ext hb10
      have hO10 := hO9.below hb10
      clear hst100 hsty0 hbel9 hx9 ho9 hp9 hO9 hb10
      unfold stC
      go_wp2_with (refine wpList_stw rfl _ _ _ rfl w5.heap.size #[.slice a10 qs10.length c10, .int .i64 k10] rfl rfl _ _ hp10 rfl store_size (sl_in _ _ _ _) ?_)
      intro w11 hp11 hgr11
      have hO11 := hO10.keep hp10 (by decide) (by decide) hgr11
      have hbel11 := hbel10.grown hgr11 hbel10.size (fun k hk => by cases hk; exact hB5.out)
      have hx11 := hx10.grown hgr11 (fun he => by have := Option.some.inj he; have := hL3.out; have := hL5.out; omega)
      have ho11 := ho10.grown hgr11 (fun he => by have := Option.some.inj he; have := hL5.out; omega)
      have hR11 := hsty.out w w11 _ h hbel11 hlt9.out hgr11
      obtain ⟨a11, c11, e11, hS11⟩ := hO11.rd
      replace hS11 : FsR w11 a80 c80 qs8 := by
        simp only [Value.slice.injEq, true_and] at e11
        rw [e11.1, e11.2]
        exact hS11
      clear hO10 hbel10 hx10 ho10 hp10 hgr11 hsty hlt9 hO11 e11 hR10
      go_wp2_with (first | (refine wpList_ldg _ _ rfl _ 0 rfl rfl _ ho11.rd _ Try.underlying47 rfl store_size ?_) | (refine wpList_ldg _ _ rfl _ 0 rfl rfl _ hp11.rd _ Try.underlying47 rfl store_size ?_))
      refine (ssame_any qs8 qs10 k8 k10 a80 a10 c80 c10 _ hS11 hR11).mono ?_
      rintro r w12 ⟨rfl, hb12⟩
      rw [hst8.out, hst10.out, sameSt_self]
      have hbelA := below_next hbel11 hb12
      have hxA := hx11.ext hb12
      have hoA := ho11.ext hb12
      have hpA := hp11.ext hb12
      clear hbel11 hx11 ho11 hp11 hb12 hS11 hR11 hst8 hst10
      go_wp2_with (refine wpList_ldg _ _ rfl _ 0 rfl rfl _ hxA.rd _ Try.underlying47 rfl store_size ?_)
      refine (sblock_any ps k file index a c _ (h.below hbelA) hk64).mono ?_
      rintro r w8 ⟨v8, qs8, k8, rfl, hO8, hst80, hb8⟩
      have hst8 := Lib.hid hst80
      have hbel8 := below_next hbelA hb8
      have hx8 := hxA.ext hb8
      have ho8 := hoA.ext hb8
      have hp8 := hpA.ext hb8
      clear hst80 hbelA hxA hoA hpA hb8
      obtain ⟨a80, c80, rfl, _⟩ := hO8.rd
      go_wp2_with (first | (refine wpList_stw rfl _ _ _ rfl w3.heap.size #[.slice a80 qs8.length c80, .int .i64 k8] rfl rfl _ _ ho8 rfl store_size (sl_in _ _ _ _) ?_) | (refine wpList_ldg _ _ rfl _ 0 rfl rfl _ hx8.rd _ Try.underlying47 rfl store_size ?_))
      intro w9 ho9 hgr9
      have hO9 := hO8.keep ho8 (by decide) (by decide) hgr9
      have hbel9 := hbel8.grown hgr9 hbel8.size (fun k hk => by cases hk; exact hB3.out)
      have hx9 := hx8.grown hgr9 (fun he => by have := Option.some.inj he; have := hL3.out; omega)
      have hp9 := hp8.grown hgr9 (fun he => by have := Option.some.inj he; have := hL5.out; omega)
      clear hO8 hbel8 hx8 hp8 ho8 hgr9
      go_wp2_with (refine wpList_ldg _ _ rfl _ 0 rfl rfl _ hx9.rd _ Try.underlying47 rfl store_size ?_)
      refine (rblock_any ps k file index a c _ (h.below hbel9) hk64).mono ?_
      rintro r w10 ⟨a10, c10, k10, qs10, rfl, hR10, hst100, hb10, hsty0⟩
      have hst10 := Lib.hid hst100
      have hsty := Lib.hid hsty0
      have hlt9 := Lib.hid hp9.lt
      have hbel10 := below_next hbel9 hb10
      have hx10 := hx9.ext hb10
      have ho10 := ho9.ext hb10
      have hp10 := hp9.ext hb10
      have hO10 := hO9.below hb10
      clear hst100 hsty0 hbel9 hx9 ho9 hp9 hO9 hb10
      unfold stC
      go_wp2_with (refine wpList_stw rfl _ _ _ rfl w5.heap.size #[.slice a10 qs10.length c10, .int .i64 k10] rfl rfl _ _ hp10 rfl store_size (sl_in _ _ _ _) ?_)
      intro w11 hp11 hgr11
      have hO11 := hO10.keep hp10 (by decide) (by decide) hgr11
      have hbel11 := hbel10.grown hgr11 hbel10.size (fun k hk => by cases hk; exact hB5.out)
      have hx11 := hx10.grown hgr11 (fun he => by have := Option.some.inj he; have := hL3.out; have := hL5.out; omega)
      have ho11 := ho10.grown hgr11 (fun he => by have := Option.some.inj he; have := hL5.out; omega)
      have hR11 := hsty.out w w11 _ h hbel11 hlt9.out hgr11
      obtain ⟨a11, c11, e11, hS11⟩ := hO11.rd
      replace hS11 : FsR w11 a80 c80 qs8 := by
        simp only [Value.slice.injEq, true_and] at e11
        rw [e11.1, e11.2]
        exact hS11
      clear hO10 hbel10 hx10 ho10 hp10 hgr11 hsty hlt9 hO11 e11 hR10
      go_wp2_with (first | (refine wpList_ldg _ _ rfl _ 0 rfl rfl _ ho11.rd _ Try.underlying47 rfl store_size ?_) | (refine wpList_ldg _ _ rfl _ 0 rfl rfl _ hp11.rd _ Try.underlying47 rfl store_size ?_))
      refine (ssame_any qs8 qs10 k8 k10 a80 a10 c80 c10 _ hS11 hR11).mono ?_
      rintro r w12 ⟨rfl, hb12⟩
      rw [hst8.out, hst10.out, sameSt_self]
      have hbelB := below_next hbel11 hb12
      have hxB := hx11.ext hb12
      have hoB := ho11.ext hb12
      have hpB := hp11.ext hb12
      clear hbel11 hx11 ho11 hp11 hb12 hS11 hR11 hst8 hst10
      go_wp2_with (refine wpList_ldg _ _ rfl _ 0 rfl rfl _ hxB.rd _ Try.underlying47 rfl store_size ?_)
      refine (rswrong_any ps k a c _ (h.below hbelB) hk64).mono ?_
      rintro r w20 ⟨rfl, hb20⟩
      have hbel20 := below_next hbelB hb20
      have hx20 := hxB.ext hb20
      clear hbelB hxB hoB hpB hb20
      by_cases hw : wrongSt (stOf ps k) = 0
      · have hright := Lib.hid (left_all hw)
        have hk1 := (wrongSt_few hw).2
        have hk2 : 0 ≤ k ∧ k ≤ 80 := hk1
        have hp1 : (pblks ps).length ≤ 1000 := by have := right_blks hw; omega
        rw [hw]
        clear hw
        have hcx := hx20.cell
        go_upto_region 20 with (fail)
        clear hcx
        go_loopw [146, 16] (fun i s wr => ∃ q : Nat, (q : Int) ≤ k ∧ i = .int .i64 q ∧ s = .int .i64 (unusedN (stOf ps k) q) ∧ Below w.heap.size w wr ∧ Blk wr w.heap.size #[.slice a ps.length c, .int .i64 k] 47) (fun i _ _ => (k - intOf i).toNat)
        case atStart => exact ⟨0, hk2.1, rfl, by simp [unusedN], hbel20, hx20⟩
        case round =>
          clear hbel20 hx20
          obtain ⟨q, hq, rfl, rfl, hbr, hxr⟩ := hrel
          have hnext := Lib.hid (unusedN_next (stOf ps k) q)
          have hule := unusedN_le (stOf ps k) q
          by_cases hlt : (q : Int) < k
          · go_wp2_with (refine wpList_ldg _ _ rfl _ 0 rfl rfl _ hxr.rd _ Try.underlying47 rfl store_size ?_)
            refine (sused_any ps k q a c _ (h.below hbr)).mono ?_
            rintro r w21 ⟨rfl, hb21⟩
            have hbel21 := below_next hbr hb21
            have hx21 := hxr.ext hb21
            clear hbr hxr hb21
            by_cases hu : usedSt (stOf ps k) q = true
            · have hnx : Hid (unusedN (stOf ps k) (q + 1) = unusedN (stOf ps k) q) := Lib.hid (by rw [hnext.out, if_pos hu]; rfl)
              rw [hu]
              clear hu hnext
              go_wp2
              go_roundw
              case measure => simp [intOf]; omega
              case rel => exact ⟨q + 1, by omega, by go_num, by rw [hnx.out], hbel21, hx21⟩
            · have hu := eq_false_of_ne_true hu
              have hnx : Hid (unusedN (stOf ps k) (q + 1) = unusedN (stOf ps k) q + 1) := Lib.hid (by rw [hnext.out, if_neg (by rw [hu]; simp)])
              rw [hu]
              clear hu hnext
              go_wp2
              go_roundw
              case measure => simp [intOf]; omega
              case rel => exact ⟨q + 1, by omega, by go_num, by rw [hnx.out]; go_num, hbel21, hx21⟩
          · obtain rfl : (q : Int) = k := by omega
            have hrq : Hid (leftSt (stOf ps q) = (unusedN (stOf ps q) q : Int)) := Lib.hid hright.out
            go_wp2_with (refine wpList_ldg _ _ rfl _ 0 rfl rfl _ hxr.rd _ Try.underlying47 rfl store_size ?_)
            refine (sleft_any ps q a c _ (h.below hbr) hk2 hp1).mono ?_
            rintro r w22 ⟨rfl, hb22⟩
            rw [hrq.out]
            have hbel22 := below_next hbr hb22
            clear hbr hxr hb22 hright hnext
            go_wp2
            go_ret
            exact ⟨rfl, hbel22⟩
      · have hw' : (wrongSt (stOf ps k) != 0) = true := by simpa using hw
        clear hw
        go_wp2
        go_ret
        exact ⟨rfl, hbel20⟩
    · have hnE : newE n = 4 := by unfold newE; rw [if_pos (by omega)]
      have hnC : True := trivial
      refine wp_grow 39 [isV (.agg #[.slice a ps.length c, .int .i64 k]), isV (.int .i64 (wrongSt (stOf ps k))), isV (.agg #[.slice a ps.length c, .int .i64 k]), isV (.int .i64 (wrongSt (stOf ps k))), isV (.bool false), isV (.bool false), isV (.agg #[.slice a ps.length c, .int .i64 k]), stoR (stOf ps k), isV (.agg #[.slice a ps.length c, .int .i64 k]), isV (.bool true), isV (.bool false), isV (.bool false), isV (.bool false), isV (.int .i64 (newE n)), isV (.bool false), isV (.int .i64 n), isV (.bool true), isV (.bool true), isV (.int .i64 n), isV (.bool false), isV (.bool false), isV (.bool false), isV (.bool false), isV (.bool false), isV (.int .i64 (newE n)), isV (.bool false), isV (.bool false), isV (undef), isV (undef), isV (undef), isV (undef), isV (undef), isV (undef), isV (undef), isV (undef), isV (undef), isV (undef), isV (.bool false), isV (.bool false)] (by kernel_rfl) (by kernel_rfl) (by kernel_rfl) (by decide) _ rfl (by kernel_rfl) (all_cons ?_ (all_cons ?_ (all_cons ?_ (all_cons ?_ (all_cons ?_ (all_cons ?_ (all_cons ?_ (all_cons ?_ (all_cons ?_ (all_cons ?_ (all_cons ?_ (all_cons ?_ (all_cons ?_ (all_cons ?_ (all_cons ?_ (all_cons ?_ (all_cons ?_ (all_cons ?_ (all_cons ?_ (all_cons ?_ (all_cons ?_ (all_cons ?_ (all_cons ?_ (all_cons ?_ (all_cons ?_ (all_cons ?_ (all_cons ?_ (all_cons ?_ (all_cons ?_ (all_cons ?_ (all_cons ?_ (all_cons ?_ (all_cons ?_ (all_cons ?_ (all_cons ?_ (all_cons ?_ (all_cons ?_ (all_cons ?_ (all_cons ?_ (all_nil)))))))))))))))))))))))))))))))))))))))) ?_
      · intro ρ y W hw hn hb hd
        have E4 : ρ (.tmp 4) = .pointer (some ⟨w.heap.size, 0, none⟩) := (hn (.tmp 4) rfl).trans rfl
        refine asked_val (.agg #[.slice a ps.length c, .int .i64 k]) (want_free rfl) (run_load_blk rfl E4 (hx2.ext hb) Try.underlying47 rfl store_size) rfl
      · intro ρ y W hw hn hb hd
        have E23 := hw 23 0 rfl
        have h0 : y 0 = .agg #[.slice a ps.length c, .int .i64 k] := hd 0 rfl
        have EF : ∀ f, ρ (.func f) = .func (.func f) #[] #[] := fun f => hn (.func f) trivial
        refine asked_call _ _ (want_free rfl) (run_call rfl (EF _) Try.func29 (by kernel_rfl) (by kernel_rfl) (by simp only [List.map_toArray, List.map_cons, List.map_nil, E23, h0, EF]; rfl)) ?_
        refine (swrong_any ps k a c W (h.below (below_next hbel2 hb)) hk64).mono ?_
        rintro r w1 ⟨rfl, hb1⟩
        exact ⟨_, rfl, hb1, rfl⟩
      · intro ρ y W hw hn hb hd
        have E4 : ρ (.tmp 4) = .pointer (some ⟨w.heap.size, 0, none⟩) := (hn (.tmp 4) rfl).trans rfl
        refine asked_val (.agg #[.slice a ps.length c, .int .i64 k]) (want_free rfl) (run_load_blk rfl E4 (hx2.ext hb) Try.underlying47 rfl store_size) rfl
      · intro ρ y W hw hn hb hd
        have E25 := hw 25 2 rfl
        have h2 : y 2 = .agg #[.slice a ps.length c, .int .i64 k] := hd 2 rfl
        have EF : ∀ f, ρ (.func f) = .func (.func f) #[] #[] := fun f => hn (.func f) trivial
        refine asked_call _ _ (want_free rfl) (run_call rfl (EF _) Try.func30 (by kernel_rfl) (by kernel_rfl) (by simp only [List.map_toArray, List.map_cons, List.map_nil, E25, h2, EF]; rfl)) ?_
        refine (rswrong_any ps k a c W (h.below (below_next hbel2 hb)) hk64).mono ?_
        rintro r w1 ⟨rfl, hb1⟩
        exact ⟨_, rfl, hb1, rfl⟩
      · intro ρ y W hw hn hb hd
        have E24 := hw 24 1 rfl
        have h1 : y 1 = .int .i64 (wrongSt (stOf ps k)) := hd 1 rfl
        have E26 := hw 26 3 rfl
        have h3 : y 3 = .int .i64 (wrongSt (stOf ps k)) := hd 3 rfl
        refine asked_val (.bool false) (want_free rfl) (run_bin rfl (E24.trans h1) (E26.trans h3) (by simp [go_sem])) rfl
      · intro ρ y W hw hn hb hd
        have E27 := hw 27 4 rfl
        have h4 : y 4 = .bool false := hd 4 rfl
        refine asked_val (.bool false) (want_free rfl) (run_move (.inl rfl) (E27.trans h4)) rfl
      · intro ρ y W hw hn hb hd
        have E4 : ρ (.tmp 4) = .pointer (some ⟨w.heap.size, 0, none⟩) := (hn (.tmp 4) rfl).trans rfl
        refine asked_val (.agg #[.slice a ps.length c, .int .i64 k]) (want_at 5 28 false false rfl rfl ((hw 28 5 rfl).trans (hd 5 rfl))) (run_load_blk rfl E4 (hx2.ext hb) Try.underlying47 rfl store_size) rfl
      · intro ρ y W hw hn hb hd
        have E29 := hw 29 6 rfl
        have h6 : y 6 = .agg #[.slice a ps.length c, .int .i64 k] := hd 6 rfl
        have EF : ∀ f, ρ (.func f) = .func (.func f) #[] #[] := fun f => hn (.func f) trivial
        refine asked_call _ _ (want_at 5 28 false false rfl rfl ((hw 28 5 rfl).trans (hd 5 rfl))) (run_call rfl (EF _) Try.func32 (by kernel_rfl) (by kernel_rfl) (by simp only [List.map_toArray, List.map_cons, List.map_nil, E29, h6, EF]; rfl)) ?_
        refine (sown_any ps k a c W (h.below (below_next hbel2 hb)) hz).mono ?_
        rintro r w1 ⟨v, qs, rfl, hO, hq, hb1⟩
        obtain ⟨a1, c1, rfl, hR⟩ := hO.rd
        exact ⟨_, rfl, hb1, a1, c1, k, qs, rfl, hR, by unfold stOf; rw [hq]⟩
      · intro ρ y W hw hn hb hd
        have E4 : ρ (.tmp 4) = .pointer (some ⟨w.heap.size, 0, none⟩) := (hn (.tmp 4) rfl).trans rfl
        refine asked_val (.agg #[.slice a ps.length c, .int .i64 k]) (want_at 5 28 false false rfl rfl ((hw 28 5 rfl).trans (hd 5 rfl))) (run_load_blk rfl E4 (hx2.ext hb) Try.underlying47 rfl store_size) rfl
      · intro ρ y W hw hn hb hd
        have E30 := hw 30 7 rfl
        have h7 := hd 7 rfl
        have E31 := hw 31 8 rfl
        have h8 : y 8 = .agg #[.slice a ps.length c, .int .i64 k] := hd 8 rfl
        have EF : ∀ f, ρ (.func f) = .func (.func f) #[] #[] := fun f => hn (.func f) trivial
        obtain ⟨a1, c1, k1, qs, h7v, hR, hq⟩ := h7
        refine asked_call _ _ (want_at 5 28 false false rfl rfl ((hw 28 5 rfl).trans (hd 5 rfl))) (run_call rfl (EF _) Try.func31 (by kernel_rfl) (by kernel_rfl) (by simp only [List.map_toArray, List.map_cons, List.map_nil, E30, E31, h8, EF, h7v, stC]; rfl)) ?_
        refine (ssame_any qs ps k1 k a1 a c1 c W hR (h.below (below_next hbel2 hb))).mono ?_
        rintro r w1 ⟨rfl, hb1⟩
        rw [hq, sameSt_self]
        exact ⟨_, rfl, hb1, rfl⟩
      · intro ρ y W hw hn hb hd
        have E32 := hw 32 9 rfl
        have h9 : y 9 = .bool true := hd 9 rfl
        refine asked_val (.bool false) (want_at 5 28 false false rfl rfl ((hw 28 5 rfl).trans (hd 5 rfl))) (run_not rfl (E32.trans h9)) rfl
      · intro ρ y W hw hn hb hd
        have E28 := hw 28 5 rfl
        have h5 : y 5 = .bool false := hd 5 rfl
        have E33 := hw 33 10 rfl
        have h10 : y 10 = .bool false := hd 10 rfl
        refine asked_val (.bool false) (want_free rfl) (run_pick rfl (E28.trans h5) (by first | simpa using (E33.trans h10) | exact (hn (.const _) trivial).trans rfl)) rfl
      · intro ρ y W hw hn hb hd
        have E34 := hw 34 11 rfl
        have h11 : y 11 = .bool false := hd 11 rfl
        refine asked_val (.bool false) (want_free rfl) (run_move (.inl rfl) (E34.trans h11)) rfl
      · intro ρ y W hw hn hb hd
        have E10 : ρ (.tmp 10) = .int .i64 (newE n) := (hn (.tmp 10) rfl).trans rfl
        refine asked_val (.int .i64 (newE n)) (want_at 12 35 false false rfl rfl ((hw 35 12 rfl).trans (hd 12 rfl))) (run_move (.inl rfl) E10) rfl
      · intro ρ y W hw hn hb hd
        have E36 := hw 36 13 rfl
        have h13 : y 13 = .int .i64 (newE n) := hd 13 rfl
        refine asked_val (.bool false) (want_at 12 35 false false rfl rfl ((hw 35 12 rfl).trans (hd 12 rfl))) (run_bin rfl (E36.trans h13) (hn (.const _) trivial) (by simp [go_sem, hnE])) rfl
      · intro ρ y W hw hn hb hd
        have E3 : ρ (.tmp 3) = .int .i64 n := (hn (.tmp 3) rfl).trans rfl
        refine asked_val (.int .i64 n) (want_at 12 35 false false rfl rfl ((hw 35 12 rfl).trans (hd 12 rfl))) (run_move (.inl rfl) E3) rfl
      · intro ρ y W hw hn hb hd
        have E38 := hw 38 15 rfl
        have h15 : y 15 = .int .i64 n := hd 15 rfl
        refine asked_val (.bool true) (want_at 12 35 false false rfl rfl ((hw 35 12 rfl).trans (hd 12 rfl))) (run_bin rfl (E38.trans h15) (hn (.const _) trivial) (by simp [go_sem, hn0])) rfl
      · intro ρ y W hw hn hb hd
        have E39 := hw 39 16 rfl
        have h16 : y 16 = .bool true := hd 16 rfl
        refine asked_val (.bool true) (want_at 12 35 false false rfl rfl ((hw 35 12 rfl).trans (hd 12 rfl))) (run_move (.inl rfl) (E39.trans h16)) rfl
      · intro ρ y W hw hn hb hd
        have E3 : ρ (.tmp 3) = .int .i64 n := (hn (.tmp 3) rfl).trans rfl
        refine asked_val (.int .i64 n) (want_at 17 40 true true rfl rfl ((hw 40 17 rfl).trans (hd 17 rfl))) (run_move (.inl rfl) E3) rfl
      · intro ρ y W hw hn hb hd
        have E41 := hw 41 18 rfl
        have h18 : y 18 = .int .i64 n := hd 18 rfl
        refine asked_val (.bool false) (want_at 17 40 true true rfl rfl ((hw 40 17 rfl).trans (hd 17 rfl))) (run_bin rfl (E41.trans h18) (hn (.const _) trivial) (by simp [go_sem, hn80])) rfl
      · intro ρ y W hw hn hb hd
        have E40 := hw 40 17 rfl
        have h17 : y 17 = .bool true := hd 17 rfl
        have E42 := hw 42 19 rfl
        have h19 : y 19 = .bool false := hd 19 rfl
        refine asked_val (.bool false) (want_at 12 35 false false rfl rfl ((hw 35 12 rfl).trans (hd 12 rfl))) (run_pick rfl (E40.trans h17) (by first | simpa using (E42.trans h19) | exact (hn (.const _) trivial).trans rfl)) rfl
      · intro ρ y W hw hn hb hd
        have E37 := hw 37 14 rfl
        have h14 : y 14 = .bool false := hd 14 rfl
        have E43 := hw 43 20 rfl
        have h20 : y 20 = .bool false := hd 20 rfl
        refine asked_val (.bool false) (want_at 12 35 false false rfl rfl ((hw 35 12 rfl).trans (hd 12 rfl))) (run_bin rfl (E37.trans h14) (E43.trans h20) (by simp [go_sem])) rfl
      · intro ρ y W hw hn hb hd
        have E35 := hw 35 12 rfl
        have h12 : y 12 = .bool false := hd 12 rfl
        have E44 := hw 44 21 rfl
        have h21 : y 21 = .bool false := hd 21 rfl
        refine asked_val (.bool false) (want_free rfl) (run_pick rfl (E35.trans h12) (by first | simpa using (E44.trans h21) | exact (hn (.const _) trivial).trans rfl)) rfl
      · intro ρ y W hw hn hb hd
        have E45 := hw 45 22 rfl
        have h22 : y 22 = .bool false := hd 22 rfl
        refine asked_val (.bool false) (want_free rfl) (run_move (.inl rfl) (E45.trans h22)) rfl
      · intro ρ y W hw hn hb hd
        have E10 : ρ (.tmp 10) = .int .i64 (newE n) := (hn (.tmp 10) rfl).trans rfl
        refine asked_val (.int .i64 (newE n)) (want_at 23 46 false false rfl rfl ((hw 46 23 rfl).trans (hd 23 rfl))) (run_move (.inl rfl) E10) rfl
      · intro ρ y W hw hn hb hd
        have E47 := hw 47 24 rfl
        have h24 : y 24 = .int .i64 (newE n) := hd 24 rfl
        refine asked_val (.bool false) (want_at 23 46 false false rfl rfl ((hw 46 23 rfl).trans (hd 23 rfl))) (run_bin rfl (E47.trans h24) (hn (.const _) trivial) (by simp [go_sem, hnE])) rfl
      · intro ρ y W hw hn hb hd
        have E48 := hw 48 25 rfl
        have h25 : y 25 = .bool false := hd 25 rfl
        refine asked_val (.bool false) (want_at 23 46 false false rfl rfl ((hw 46 23 rfl).trans (hd 23 rfl))) (run_move (.inl rfl) (E48.trans h25)) rfl
      · intro ρ y W hw hn hb hd
        exact asked_skip (want_at 26 49 false true rfl rfl ((hw 49 26 rfl).trans (hd 26 rfl))) rfl
      · intro ρ y W hw hn hb hd
        exact asked_skip (want_at 26 49 false true rfl rfl ((hw 49 26 rfl).trans (hd 26 rfl))) rfl
      · intro ρ y W hw hn hb hd
        exact asked_skip (want_at 26 49 false true rfl rfl ((hw 49 26 rfl).trans (hd 26 rfl))) rfl
      · intro ρ y W hw hn hb hd
        exact asked_skip (want_at 26 49 false true rfl rfl ((hw 49 26 rfl).trans (hd 26 rfl))) rfl
      · intro ρ y W hw hn hb hd
        exact asked_skip (want_at 26 49 false true rfl rfl ((hw 49 26 rfl).trans (hd 26 rfl))) rfl
      · intro ρ y W hw hn hb hd
        exact asked_skip (want_undef 31 54 false rfl rfl ((hw 54 31 rfl).trans (hd 31 rfl))) rfl
      · intro ρ y W hw hn hb hd
        exact asked_skip (want_undef 31 54 false rfl rfl ((hw 54 31 rfl).trans (hd 31 rfl))) rfl
      · intro ρ y W hw hn hb hd
        exact asked_skip (want_undef 31 54 false rfl rfl ((hw 54 31 rfl).trans (hd 31 rfl))) rfl
      · intro ρ y W hw hn hb hd
        exact asked_skip (want_undef 31 54 false rfl rfl ((hw 54 31 rfl).trans (hd 31 rfl))) rfl
      · intro ρ y W hw hn hb hd
        exact asked_skip (want_at 26 49 false true rfl rfl ((hw 49 26 rfl).trans (hd 26 rfl))) rfl
      · intro ρ y W hw hn hb hd
        have E49 := hw 49 26 rfl
        have h26 : y 26 = .bool false := hd 26 rfl
        have E59 := hw 59 36 rfl
        have h36 : y 36 = undef := hd 36 rfl
        refine asked_val (.bool false) (want_at 23 46 false false rfl rfl ((hw 46 23 rfl).trans (hd 23 rfl))) (run_pick rfl (E49.trans h26) (by first | simpa using (hn (.const _) trivial) | exact (hn (.const _) trivial).trans rfl)) rfl
      · intro ρ y W hw hn hb hd
        have E46 := hw 46 23 rfl
        have h23 : y 23 = .bool false := hd 23 rfl
        have E60 := hw 60 37 rfl
        have h37 : y 37 = .bool false := hd 37 rfl
        refine asked_val (.bool false) (want_free rfl) (run_pick rfl (E46.trans h23) (by first | simpa using (E60.trans h37) | exact (hn (.const _) trivial).trans rfl)) rfl
      intro y WA hbWA hRWA
      have hy0 : y 0 = .agg #[.slice a ps.length c, .int .i64 k] := hRWA 0 (by decide)
      have hy1 : y 1 = .int .i64 (wrongSt (stOf ps k)) := hRWA 1 (by decide)
      have hy2 : y 2 = .agg #[.slice a ps.length c, .int .i64 k] := hRWA 2 (by decide)
      have hy3 : y 3 = .int .i64 (wrongSt (stOf ps k)) := hRWA 3 (by decide)
      have hy4 : y 4 = .bool false := hRWA 4 (by decide)
      have hy5 : y 5 = .bool false := hRWA 5 (by decide)
      have hy6 : y 6 = .agg #[.slice a ps.length c, .int .i64 k] := hRWA 6 (by decide)
      have hy8 : y 8 = .agg #[.slice a ps.length c, .int .i64 k] := hRWA 8 (by decide)
      have hy9 : y 9 = .bool true := hRWA 9 (by decide)
      have hy10 : y 10 = .bool false := hRWA 10 (by decide)
      have hy11 : y 11 = .bool false := hRWA 11 (by decide)
      have hy12 : y 12 = .bool false := hRWA 12 (by decide)
      have hy13 : y 13 = .int .i64 (newE n) := hRWA 13 (by decide)
      have hy14 : y 14 = .bool false := hRWA 14 (by decide)
      have hy15 : y 15 = .int .i64 n := hRWA 15 (by decide)
      have hy16 : y 16 = .bool true := hRWA 16 (by decide)
      have hy17 : y 17 = .bool true := hRWA 17 (by decide)
      have hy18 : y 18 = .int .i64 n := hRWA 18 (by decide)
      have hy19 : y 19 = .bool false := hRWA 19 (by decide)
      have hy20 : y 20 = .bool false := hRWA 20 (by decide)
      have hy21 : y 21 = .bool false := hRWA 21 (by decide)
      have hy22 : y 22 = .bool false := hRWA 22 (by decide)
      have hy23 : y 23 = .bool false := hRWA 23 (by decide)
      have hy24 : y 24 = .int .i64 (newE n) := hRWA 24 (by decide)
      have hy25 : y 25 = .bool false := hRWA 25 (by decide)
      have hy26 : y 26 = .bool false := hRWA 26 (by decide)
      have hy27 : y 27 = undef := hRWA 27 (by decide)
      have hy28 : y 28 = undef := hRWA 28 (by decide)
      have hy29 : y 29 = undef := hRWA 29 (by decide)
      have hy30 : y 30 = undef := hRWA 30 (by decide)
      have hy31 : y 31 = undef := hRWA 31 (by decide)
      have hy32 : y 32 = undef := hRWA 32 (by decide)
      have hy33 : y 33 = undef := hRWA 33 (by decide)
      have hy34 : y 34 = undef := hRWA 34 (by decide)
      have hy35 : y 35 = undef := hRWA 35 (by decide)
      have hy36 : y 36 = undef := hRWA 36 (by decide)
      have hy37 : y 37 = .bool false := hRWA 37 (by decide)
      have hy38 : y 38 = .bool false := hRWA 38 (by decide)
      have hy7 := hRWA 7 (by decide)
      clear hRWA
      simp only [lay, Nat.reduceAdd, Nat.reduceLT, decide_true, decide_false, if_true, Bool.false_eq_true, if_false, List.setIfInBounds_toArray, List.set_cons_zero, List.set_cons_succ, List.drop_succ_cons, List.drop_zero, List.drop_nil, hy0, hy1, hy2, hy3, hy4, hy5, hy6, hy8, hy9, hy10, hy11, hy12, hy13, hy14, hy15, hy16, hy17, hy18, hy19, hy20, hy21, hy22, hy23, hy24, hy25, hy26, hy27, hy28, hy29, hy30, hy31, hy32, hy33, hy34, hy35, hy36, hy37, hy38]
      clear hy0 hy1 hy2 hy3 hy4 hy5 hy6 hy8 hy9 hy10 hy11 hy12 hy13 hy14 hy15 hy16 hy17 hy18 hy19 hy20 hy21 hy22 hy23 hy24 hy25 hy26 hy27 hy28 hy29 hy30 hy31 hy32 hy33 hy34 hy35 hy36 hy37 hy38
      clear hnE hnC
      have hbelA := below_next hbel2 hbWA
      have hxA := hx2.ext hbWA
      clear hbel2 hx2 ho2 hbWA
      go_wp2_with (refine wpList_ldg _ _ rfl _ 0 rfl rfl _ hxA.rd _ Try.underlying47 rfl store_size ?_)
      refine (screate_any ps k a c _ (h.below hbelA) hk64).mono ?_
      rintro r w3 ⟨v3, qs3, k3, rfl, hO3, hst30, hb3⟩
      have hst3 := Lib.hid hst30
      obtain ⟨a3, c3, rfl, hR3⟩ := hO3.rd
      have hbel3 := below_next hbelA hb3
      have hx3 := hxA.ext hb3
      clear hst30 hbelA hxA hb3 hO3
      go_wp2_with (first | (refine wpList_stn rfl _ _ _ rfl #[.slice a3 qs3.length c3, .int .i64 k3] rfl rfl rfl store_size (sl_in _ _ _ _) ?_) | (refine wpList_ldg _ _ rfl _ 0 rfl rfl _ hx3.rd _ Try.underlying47 rfl store_size ?_))
      intro w4 hb4 ho4
      have hbel4 := below_next hbel3 hb4
      have hx4 := hx3.ext hb4
      have hR4 := hR3.below hb4
      have hB30 := hbel3.size
      have hL30 := hx3.lt
      clear hbel3 hx3 hb4 hR3
      go_wp2_with (refine wpList_ldg _ _ rfl _ 0 rfl rfl _ hx4.rd _ Try.underlying47 rfl store_size ?_)
      refine (rcreate_any ps k a c _ (h.below hbel4) hk64).mono ?_
      rintro r w5 ⟨a5, c5, k5, qs5, rfl, hR5, hst50, hb5⟩
      have hst5 := Lib.hid hst50
      have hbel5 := below_next hbel4 hb5
      have hx5 := hx4.ext hb5
      have ho5 := ho4.ext hb5
      have hS5 := hR4.below hb5
      clear hst50 hbel4 hx4 hb5 ho4 hR4
      unfold stC
      go_wp2_with (refine wpList_stn rfl _ _ _ rfl #[.slice a5 qs5.length c5, .int .i64 k5] rfl rfl rfl store_size (sl_in _ _ _ _) ?_)
      intro w6 hb6 hp6
      have hbel6 := below_next hbel5 hb6
      have hx6 := hx5.ext hb6
      have ho6 := ho5.ext hb6
      have hS6 := hS5.below hb6
      have hR6 := hR5.below hb6
      have hB50 := hbel5.size
      have hL50 := ho5.lt
      clear hbel5 hx5 ho5 hb6 hS5 hR5
      go_wp2_with (first | (refine wpList_ldg _ _ rfl _ 0 rfl rfl _ ho6.rd _ Try.underlying47 rfl store_size ?_) | (refine wpList_ldg _ _ rfl _ 0 rfl rfl _ hp6.rd _ Try.underlying47 rfl store_size ?_))
      refine (ssame_any qs3 qs5 k3 k5 a3 a5 c3 c5 _ hS6 hR6).mono ?_
      rintro r w7 ⟨rfl, hb7⟩
      rw [hst3.out, hst5.out, sameSt_self]
      have hbel7 := below_next hbel6 hb7
      have hx7 := hx6.ext hb7
      have ho7 := ho6.ext hb7
      have hp7 := hp6.ext hb7
      have hB3 := Lib.hid hB30
      have hB5 := Lib.hid hB50
      have hL3 := Lib.hid hL30
      have hL5 := Lib.hid hL50
      clear hbel6 hx6 ho6 hp6 hb7 hS6 hR6 hst3 hst5 hB30 hB50 hL30 hL50
      go_wp2_with (refine wpList_ldg _ _ rfl _ 0 rfl rfl _ hx7.rd _ Try.underlying47 rfl store_size ?_)
      refine (ssize_any ps k file n a c _ (h.below hbel7) hk64).mono ?_
      rintro r w8 ⟨v8, qs8, k8, rfl, hO8, hst80, hb8⟩
      have hst8 := Lib.hid hst80
      have hbel8 := below_next hbel7 hb8
      have hx8 := hx7.ext hb8
      have ho8 := ho7.ext hb8
      have hp8 := hp7.ext hb8
      clear hst80 hbel7 hx7 ho7 hp7 hb8
      obtain ⟨a80, c80, rfl, _⟩ := hO8.rd
      go_wp2_with (first | (refine wpList_stw rfl _ _ _ rfl w3.heap.size #[.slice a80 qs8.length c80, .int .i64 k8] rfl rfl _ _ ho8 rfl store_size (sl_in _ _ _ _) ?_) | (refine wpList_ldg _ _ rfl _ 0 rfl rfl _ hx8.rd _ Try.underlying47 rfl store_size ?_))
      intro w9 ho9 hgr9
      have hO9 := hO8.keep ho8 (by decide) (by decide) hgr9
      have hbel9 := hbel8.grown hgr9 hbel8.size (fun k hk => by cases hk; exact hB3.out)
      have hx9 := hx8.grown hgr9 (fun he => by have := Option.some.inj he; have := hL3.out; omega)
      have hp9 := hp8.grown hgr9 (fun he => by have := Option.some.inj he; have := hL5.out; omega)
      clear hO8 hbel8 hx8 hp8 ho8 hgr9
      go_wp2_with (refine wpList_ldg _ _ rfl _ 0 rfl rfl _ hx9.rd _ Try.underlying47 rfl store_size ?_)
      refine (rsize_any ps k file n a c _ (h.below hbel9) hk64).mono ?_
      rintro r w10 ⟨a10, c10, k10, qs10, rfl, hR10, hst100, hb10, hsty0⟩
      have hst10 := Lib.hid hst100
      have hsty := Lib.hid hsty0
      have hlt9 := Lib.hid hp9.lt
      have hbel10 := below_next hbel9 hb10
      have hx10 := hx9.ext hb10
      have ho10 := ho9.ext hb10
      have hp10 := hp9.ext hb10
      have hO10 := hO9.below hb10
      clear hst100 hsty0 hbel9 hx9 ho9 hp9 hO9 hb10
      unfold stC
      go_wp2_with (refine wpList_stw rfl _ _ _ rfl w5.heap.size #[.slice a10 qs10.length c10, .int .i64 k10] rfl rfl _ _ hp10 rfl store_size (sl_in _ _ _ _) ?_)
      intro w11 hp11 hgr11
      have hO11 := hO10.keep hp10 (by decide) (by decide) hgr11
      have hbel11 := hbel10.grown hgr11 hbel10.size (fun k hk => by cases hk; exact hB5.out)
      have hx11 := hx10.grown hgr11 (fun he => by have := Option.some.inj he; have := hL3.out; have := hL5.out; omega)
      have ho11 := ho10.grown hgr11 (fun he => by have := Option.some.inj he; have := hL5.out; omega)
      have hR11 := hsty.out w w11 _ h hbel11 hlt9.out hgr11
      obtain ⟨a11, c11, e11, hS11⟩ := hO11.rd
      replace hS11 : FsR w11 a80 c80 qs8 := by
        simp only [Value.slice.injEq, true_and] at e11
        rw [e11.1, e11.2]
        exact hS11
      clear hO10 hbel10 hx10 ho10 hp10 hgr11 hsty hlt9 hO11 e11 hR10
      go_wp2_with (first | (refine wpList_ldg _ _ rfl _ 0 rfl rfl _ ho11.rd _ Try.underlying47 rfl store_size ?_) | (refine wpList_ldg _ _ rfl _ 0 rfl rfl _ hp11.rd _ Try.underlying47 rfl store_size ?_))
      refine (ssame_any qs8 qs10 k8 k10 a80 a10 c80 c10 _ hS11 hR11).mono ?_
      rintro r w12 ⟨rfl, hb12⟩
      rw [hst8.out, hst10.out, sameSt_self]
      have hbelA := below_next hbel11 hb12
      have hxA := hx11.ext hb12
      have hoA := ho11.ext hb12
      have hpA := hp11.ext hb12
      clear hbel11 hx11 ho11 hp11 hb12 hS11 hR11 hst8 hst10
      go_wp2_with (refine wpList_ldg _ _ rfl _ 0 rfl rfl _ hxA.rd _ Try.underlying47 rfl store_size ?_)
      refine (sblock_any ps k file index a c _ (h.below hbelA) hk64).mono ?_
      rintro r w8 ⟨v8, qs8, k8, rfl, hO8, hst80, hb8⟩
      have hst8 := Lib.hid hst80
      have hbel8 := below_next hbelA hb8
      have hx8 := hxA.ext hb8
      have ho8 := hoA.ext hb8
      have hp8 := hpA.ext hb8
      clear hst80 hbelA hxA hoA hpA hb8
      obtain ⟨a80, c80, rfl, _⟩ := hO8.rd
      go_wp2_with (first | (refine wpList_stw rfl _ _ _ rfl w3.heap.size #[.slice a80 qs8.length c80, .int .i64 k8] rfl rfl _ _ ho8 rfl store_size (sl_in _ _ _ _) ?_) | (refine wpList_ldg _ _ rfl _ 0 rfl rfl _ hx8.rd _ Try.underlying47 rfl store_size ?_))
      intro w9 ho9 hgr9
      have hO9 := hO8.keep ho8 (by decide) (by decide) hgr9
      have hbel9 := hbel8.grown hgr9 hbel8.size (fun k hk => by cases hk; exact hB3.out)
      have hx9 := hx8.grown hgr9 (fun he => by have := Option.some.inj he; have := hL3.out; omega)
      have hp9 := hp8.grown hgr9 (fun he => by have := Option.some.inj he; have := hL5.out; omega)
      clear hO8 hbel8 hx8 hp8 ho8 hgr9
      go_wp2_with (refine wpList_ldg _ _ rfl _ 0 rfl rfl _ hx9.rd _ Try.underlying47 rfl store_size ?_)
      refine (rblock_any ps k file index a c _ (h.below hbel9) hk64).mono ?_
      rintro r w10 ⟨a10, c10, k10, qs10, rfl, hR10, hst100, hb10, hsty0⟩
      have hst10 := Lib.hid hst100
      have hsty := Lib.hid hsty0
      have hlt9 := Lib.hid hp9.lt
      have hbel10 := below_next hbel9 hb10
      have hx10 := hx9.ext hb10
      have ho10 := ho9.ext hb10
      have hp10 := hp9.ext hb10
      have hO10 := hO9.below hb10
      clear hst100 hsty0 hbel9 hx9 ho9 hp9 hO9 hb10
      unfold stC
      go_wp2_with (refine wpList_stw rfl _ _ _ rfl w5.heap.size #[.slice a10 qs10.length c10, .int .i64 k10] rfl rfl _ _ hp10 rfl store_size (sl_in _ _ _ _) ?_)
      intro w11 hp11 hgr11
      have hO11 := hO10.keep hp10 (by decide) (by decide) hgr11
      have hbel11 := hbel10.grown hgr11 hbel10.size (fun k hk => by cases hk; exact hB5.out)
      have hx11 := hx10.grown hgr11 (fun he => by have := Option.some.inj he; have := hL3.out; have := hL5.out; omega)
      have ho11 := ho10.grown hgr11 (fun he => by have := Option.some.inj he; have := hL5.out; omega)
      have hR11 := hsty.out w w11 _ h hbel11 hlt9.out hgr11
      obtain ⟨a11, c11, e11, hS11⟩ := hO11.rd
      replace hS11 : FsR w11 a80 c80 qs8 := by
        simp only [Value.slice.injEq, true_and] at e11
        rw [e11.1, e11.2]
        exact hS11
      clear hO10 hbel10 hx10 ho10 hp10 hgr11 hsty hlt9 hO11 e11 hR10
      go_wp2_with (first | (refine wpList_ldg _ _ rfl _ 0 rfl rfl _ ho11.rd _ Try.underlying47 rfl store_size ?_) | (refine wpList_ldg _ _ rfl _ 0 rfl rfl _ hp11.rd _ Try.underlying47 rfl store_size ?_))
      refine (ssame_any qs8 qs10 k8 k10 a80 a10 c80 c10 _ hS11 hR11).mono ?_
      rintro r w12 ⟨rfl, hb12⟩
      rw [hst8.out, hst10.out, sameSt_self]
      have hbelB := below_next hbel11 hb12
      have hxB := hx11.ext hb12
      have hoB := ho11.ext hb12
      have hpB := hp11.ext hb12
      clear hbel11 hx11 ho11 hp11 hb12 hS11 hR11 hst8 hst10
      go_wp2_with (refine wpList_ldg _ _ rfl _ 0 rfl rfl _ hxB.rd _ Try.underlying47 rfl store_size ?_)
      refine (rswrong_any ps k a c _ (h.below hbelB) hk64).mono ?_
      rintro r w20 ⟨rfl, hb20⟩
      have hbel20 := below_next hbelB hb20
      have hx20 := hxB.ext hb20
      clear hbelB hxB hoB hpB hb20
      by_cases hw : wrongSt (stOf ps k) = 0
      · have hright := Lib.hid (left_all hw)
        have hk1 := (wrongSt_few hw).2
        have hk2 : 0 ≤ k ∧ k ≤ 80 := hk1
        have hp1 : (pblks ps).length ≤ 1000 := by have := right_blks hw; omega
        rw [hw]
        clear hw
        have hcx := hx20.cell
        go_upto_region 20 with (fail)
        clear hcx
        go_loopw [146, 16] (fun i s wr => ∃ q : Nat, (q : Int) ≤ k ∧ i = .int .i64 q ∧ s = .int .i64 (unusedN (stOf ps k) q) ∧ Below w.heap.size w wr ∧ Blk wr w.heap.size #[.slice a ps.length c, .int .i64 k] 47) (fun i _ _ => (k - intOf i).toNat)
        case atStart => exact ⟨0, hk2.1, rfl, by simp [unusedN], hbel20, hx20⟩
        case round =>
          clear hbel20 hx20
          obtain ⟨q, hq, rfl, rfl, hbr, hxr⟩ := hrel
          have hnext := Lib.hid (unusedN_next (stOf ps k) q)
          have hule := unusedN_le (stOf ps k) q
          by_cases hlt : (q : Int) < k
          · go_wp2_with (refine wpList_ldg _ _ rfl _ 0 rfl rfl _ hxr.rd _ Try.underlying47 rfl store_size ?_)
            refine (sused_any ps k q a c _ (h.below hbr)).mono ?_
            rintro r w21 ⟨rfl, hb21⟩
            have hbel21 := below_next hbr hb21
            have hx21 := hxr.ext hb21
            clear hbr hxr hb21
            by_cases hu : usedSt (stOf ps k) q = true
            · have hnx : Hid (unusedN (stOf ps k) (q + 1) = unusedN (stOf ps k) q) := Lib.hid (by rw [hnext.out, if_pos hu]; rfl)
              rw [hu]
              clear hu hnext
              go_wp2
              go_roundw
              case measure => simp [intOf]; omega
              case rel => exact ⟨q + 1, by omega, by go_num, by rw [hnx.out], hbel21, hx21⟩
            · have hu := eq_false_of_ne_true hu
              have hnx : Hid (unusedN (stOf ps k) (q + 1) = unusedN (stOf ps k) q + 1) := Lib.hid (by rw [hnext.out, if_neg (by rw [hu]; simp)])
              rw [hu]
              clear hu hnext
              go_wp2
              go_roundw
              case measure => simp [intOf]; omega
              case rel => exact ⟨q + 1, by omega, by go_num, by rw [hnx.out]; go_num, hbel21, hx21⟩
          · obtain rfl : (q : Int) = k := by omega
            have hrq : Hid (leftSt (stOf ps q) = (unusedN (stOf ps q) q : Int)) := Lib.hid hright.out
            go_wp2_with (refine wpList_ldg _ _ rfl _ 0 rfl rfl _ hxr.rd _ Try.underlying47 rfl store_size ?_)
            refine (sleft_any ps q a c _ (h.below hbr) hk2 hp1).mono ?_
            rintro r w22 ⟨rfl, hb22⟩
            rw [hrq.out]
            have hbel22 := below_next hbr hb22
            clear hbr hxr hb22 hright hnext
            go_wp2
            go_ret
            exact ⟨rfl, hbel22⟩
      · have hw' : (wrongSt (stOf ps k) != 0) = true := by simpa using hw
        clear hw
        go_wp2
        go_ret
        exact ⟨rfl, hbel20⟩
  · have hnE : newE n = 4 := by unfold newE; rw [if_pos (by omega)]
    have hnC : True := trivial
    have hn80 : True := trivial
    refine wp_grow 39 [isV (.agg #[.slice a ps.length c, .int .i64 k]), isV (.int .i64 (wrongSt (stOf ps k))), isV (.agg #[.slice a ps.length c, .int .i64 k]), isV (.int .i64 (wrongSt (stOf ps k))), isV (.bool false), isV (.bool false), isV (.agg #[.slice a ps.length c, .int .i64 k]), stoR (stOf ps k), isV (.agg #[.slice a ps.length c, .int .i64 k]), isV (.bool true), isV (.bool false), isV (.bool false), isV (.bool false), isV (.int .i64 (newE n)), isV (.bool false), isV (.int .i64 n), isV (.bool false), isV (.bool false), isV (undef), isV (undef), isV (.bool false), isV (.bool false), isV (.bool false), isV (.bool false), isV (.int .i64 (newE n)), isV (.bool false), isV (.bool false), isV (undef), isV (undef), isV (undef), isV (undef), isV (undef), isV (undef), isV (undef), isV (undef), isV (undef), isV (undef), isV (.bool false), isV (.bool false)] (by kernel_rfl) (by kernel_rfl) (by kernel_rfl) (by decide) _ rfl (by kernel_rfl) (all_cons ?_ (all_cons ?_ (all_cons ?_ (all_cons ?_ (all_cons ?_ (all_cons ?_ (all_cons ?_ (all_cons ?_ (all_cons ?_ (all_cons ?_ (all_cons ?_ (all_cons ?_ (all_cons ?_ (all_cons ?_ (all_cons ?_ (all_cons ?_ (all_cons ?_ (all_cons ?_ (all_cons ?_ (all_cons ?_ (all_cons ?_ (all_cons ?_ (all_cons ?_ (all_cons ?_ (all_cons ?_ (all_cons ?_ (all_cons ?_ (all_cons ?_ (all_cons ?_ (all_cons ?_ (all_cons ?_ (all_cons ?_ (all_cons ?_ (all_cons ?_ (all_cons ?_ (all_cons ?_ (all_cons ?_ (all_cons ?_ (all_cons ?_ (all_nil)))))))))))))))))))))))))))))))))))))))) ?_
    · intro ρ y W hw hn hb hd
      have E4 : ρ (.tmp 4) = .pointer (some ⟨w.heap.size, 0, none⟩) := (hn (.tmp 4) rfl).trans rfl
      refine asked_val (.agg #[.slice a ps.length c, .int .i64 k]) (want_free rfl) (run_load_blk rfl E4 (hx2.ext hb) Try.underlying47 rfl store_size) rfl
    · intro ρ y W hw hn hb hd
      have E23 := hw 23 0 rfl
      have h0 : y 0 = .agg #[.slice a ps.length c, .int .i64 k] := hd 0 rfl
      have EF : ∀ f, ρ (.func f) = .func (.func f) #[] #[] := fun f => hn (.func f) trivial
      refine asked_call _ _ (want_free rfl) (run_call rfl (EF _) Try.func29 (by kernel_rfl) (by kernel_rfl) (by simp only [List.map_toArray, List.map_cons, List.map_nil, E23, h0, EF]; rfl)) ?_
      refine (swrong_any ps k a c W (h.below (below_next hbel2 hb)) hk64).mono ?_
      rintro r w1 ⟨rfl, hb1⟩
      exact ⟨_, rfl, hb1, rfl⟩
    · intro ρ y W hw hn hb hd
      have E4 : ρ (.tmp 4) = .pointer (some ⟨w.heap.size, 0, none⟩) := (hn (.tmp 4) rfl).trans rfl
      refine asked_val (.agg #[.slice a ps.length c, .int .i64 k]) (want_free rfl) (run_load_blk rfl E4 (hx2.ext hb) Try.underlying47 rfl store_size) rfl
    · intro ρ y W hw hn hb hd
      have E25 := hw 25 2 rfl
      have h2 : y 2 = .agg #[.slice a ps.length c, .int .i64 k] := hd 2 rfl
      have EF : ∀ f, ρ (.func f) = .func (.func f) #[] #[] := fun f => hn (.func f) trivial
      refine asked_call _ _ (want_free rfl) (run_call rfl (EF _) Try.func30 (by kernel_rfl) (by kernel_rfl) (by simp only [List.map_toArray, List.map_cons, List.map_nil, E25, h2, EF]; rfl)) ?_
      refine (rswrong_any ps k a c W (h.below (below_next hbel2 hb)) hk64).mono ?_
      rintro r w1 ⟨rfl, hb1⟩
      exact ⟨_, rfl, hb1, rfl⟩
    · intro ρ y W hw hn hb hd
      have E24 := hw 24 1 rfl
      have h1 : y 1 = .int .i64 (wrongSt (stOf ps k)) := hd 1 rfl
      have E26 := hw 26 3 rfl
      have h3 : y 3 = .int .i64 (wrongSt (stOf ps k)) := hd 3 rfl
      refine asked_val (.bool false) (want_free rfl) (run_bin rfl (E24.trans h1) (E26.trans h3) (by simp [go_sem])) rfl
    · intro ρ y W hw hn hb hd
      have E27 := hw 27 4 rfl
      have h4 : y 4 = .bool false := hd 4 rfl
      refine asked_val (.bool false) (want_free rfl) (run_move (.inl rfl) (E27.trans h4)) rfl
    · intro ρ y W hw hn hb hd
      have E4 : ρ (.tmp 4) = .pointer (some ⟨w.heap.size, 0, none⟩) := (hn (.tmp 4) rfl).trans rfl
      refine asked_val (.agg #[.slice a ps.length c, .int .i64 k]) (want_at 5 28 false false rfl rfl ((hw 28 5 rfl).trans (hd 5 rfl))) (run_load_blk rfl E4 (hx2.ext hb) Try.underlying47 rfl store_size) rfl
    · intro ρ y W hw hn hb hd
      have E29 := hw 29 6 rfl
      have h6 : y 6 = .agg #[.slice a ps.length c, .int .i64 k] := hd 6 rfl
      have EF : ∀ f, ρ (.func f) = .func (.func f) #[] #[] := fun f => hn (.func f) trivial
      refine asked_call _ _ (want_at 5 28 false false rfl rfl ((hw 28 5 rfl).trans (hd 5 rfl))) (run_call rfl (EF _) Try.func32 (by kernel_rfl) (by kernel_rfl) (by simp only [List.map_toArray, List.map_cons, List.map_nil, E29, h6, EF]; rfl)) ?_
      refine (sown_any ps k a c W (h.below (below_next hbel2 hb)) hz).mono ?_
      rintro r w1 ⟨v, qs, rfl, hO, hq, hb1⟩
      obtain ⟨a1, c1, rfl, hR⟩ := hO.rd
      exact ⟨_, rfl, hb1, a1, c1, k, qs, rfl, hR, by unfold stOf; rw [hq]⟩
    · intro ρ y W hw hn hb hd
      have E4 : ρ (.tmp 4) = .pointer (some ⟨w.heap.size, 0, none⟩) := (hn (.tmp 4) rfl).trans rfl
      refine asked_val (.agg #[.slice a ps.length c, .int .i64 k]) (want_at 5 28 false false rfl rfl ((hw 28 5 rfl).trans (hd 5 rfl))) (run_load_blk rfl E4 (hx2.ext hb) Try.underlying47 rfl store_size) rfl
    · intro ρ y W hw hn hb hd
      have E30 := hw 30 7 rfl
      have h7 := hd 7 rfl
      have E31 := hw 31 8 rfl
      have h8 : y 8 = .agg #[.slice a ps.length c, .int .i64 k] := hd 8 rfl
      have EF : ∀ f, ρ (.func f) = .func (.func f) #[] #[] := fun f => hn (.func f) trivial
      obtain ⟨a1, c1, k1, qs, h7v, hR, hq⟩ := h7
      refine asked_call _ _ (want_at 5 28 false false rfl rfl ((hw 28 5 rfl).trans (hd 5 rfl))) (run_call rfl (EF _) Try.func31 (by kernel_rfl) (by kernel_rfl) (by simp only [List.map_toArray, List.map_cons, List.map_nil, E30, E31, h8, EF, h7v, stC]; rfl)) ?_
      refine (ssame_any qs ps k1 k a1 a c1 c W hR (h.below (below_next hbel2 hb))).mono ?_
      rintro r w1 ⟨rfl, hb1⟩
      rw [hq, sameSt_self]
      exact ⟨_, rfl, hb1, rfl⟩
    · intro ρ y W hw hn hb hd
      have E32 := hw 32 9 rfl
      have h9 : y 9 = .bool true := hd 9 rfl
      refine asked_val (.bool false) (want_at 5 28 false false rfl rfl ((hw 28 5 rfl).trans (hd 5 rfl))) (run_not rfl (E32.trans h9)) rfl
    · intro ρ y W hw hn hb hd
      have E28 := hw 28 5 rfl
      have h5 : y 5 = .bool false := hd 5 rfl
      have E33 := hw 33 10 rfl
      have h10 : y 10 = .bool false := hd 10 rfl
      refine asked_val (.bool false) (want_free rfl) (run_pick rfl (E28.trans h5) (by first | simpa using (E33.trans h10) | exact (hn (.const _) trivial).trans rfl)) rfl
    · intro ρ y W hw hn hb hd
      have E34 := hw 34 11 rfl
      have h11 : y 11 = .bool false := hd 11 rfl
      refine asked_val (.bool false) (want_free rfl) (run_move (.inl rfl) (E34.trans h11)) rfl
    · intro ρ y W hw hn hb hd
      have E10 : ρ (.tmp 10) = .int .i64 (newE n) := (hn (.tmp 10) rfl).trans rfl
      refine asked_val (.int .i64 (newE n)) (want_at 12 35 false false rfl rfl ((hw 35 12 rfl).trans (hd 12 rfl))) (run_move (.inl rfl) E10) rfl
    · intro ρ y W hw hn hb hd
      have E36 := hw 36 13 rfl
      have h13 : y 13 = .int .i64 (newE n) := hd 13 rfl
      refine asked_val (.bool false) (want_at 12 35 false false rfl rfl ((hw 35 12 rfl).trans (hd 12 rfl))) (run_bin rfl (E36.trans h13) (hn (.const _) trivial) (by simp [go_sem, hnE])) rfl
    · intro ρ y W hw hn hb hd
      have E3 : ρ (.tmp 3) = .int .i64 n := (hn (.tmp 3) rfl).trans rfl
      refine asked_val (.int .i64 n) (want_at 12 35 false false rfl rfl ((hw 35 12 rfl).trans (hd 12 rfl))) (run_move (.inl rfl) E3) rfl
    · intro ρ y W hw hn hb hd
      have E38 := hw 38 15 rfl
      have h15 : y 15 = .int .i64 n := hd 15 rfl
      refine asked_val (.bool false) (want_at 12 35 false false rfl rfl ((hw 35 12 rfl).trans (hd 12 rfl))) (run_bin rfl (E38.trans h15) (hn (.const _) trivial) (by simp [go_sem, hn0])) rfl
    · intro ρ y W hw hn hb hd
      have E39 := hw 39 16 rfl
      have h16 : y 16 = .bool false := hd 16 rfl
      refine asked_val (.bool false) (want_at 12 35 false false rfl rfl ((hw 35 12 rfl).trans (hd 12 rfl))) (run_move (.inl rfl) (E39.trans h16)) rfl
    · intro ρ y W hw hn hb hd
      exact asked_skip (want_at 17 40 false true rfl rfl ((hw 40 17 rfl).trans (hd 17 rfl))) rfl
    · intro ρ y W hw hn hb hd
      exact asked_skip (want_at 17 40 false true rfl rfl ((hw 40 17 rfl).trans (hd 17 rfl))) rfl
    · intro ρ y W hw hn hb hd
      have E40 := hw 40 17 rfl
      have h17 : y 17 = .bool false := hd 17 rfl
      have E42 := hw 42 19 rfl
      have h19 : y 19 = undef := hd 19 rfl
      refine asked_val (.bool false) (want_at 12 35 false false rfl rfl ((hw 35 12 rfl).trans (hd 12 rfl))) (run_pick rfl (E40.trans h17) (by first | simpa using (hn (.const _) trivial) | exact (hn (.const _) trivial).trans rfl)) rfl
    · intro ρ y W hw hn hb hd
      have E37 := hw 37 14 rfl
      have h14 : y 14 = .bool false := hd 14 rfl
      have E43 := hw 43 20 rfl
      have h20 : y 20 = .bool false := hd 20 rfl
      refine asked_val (.bool false) (want_at 12 35 false false rfl rfl ((hw 35 12 rfl).trans (hd 12 rfl))) (run_bin rfl (E37.trans h14) (E43.trans h20) (by simp [go_sem])) rfl
    · intro ρ y W hw hn hb hd
      have E35 := hw 35 12 rfl
      have h12 : y 12 = .bool false := hd 12 rfl
      have E44 := hw 44 21 rfl
      have h21 : y 21 = .bool false := hd 21 rfl
      refine asked_val (.bool false) (want_free rfl) (run_pick rfl (E35.trans h12) (by first | simpa using (E44.trans h21) | exact (hn (.const _) trivial).trans rfl)) rfl
    · intro ρ y W hw hn hb hd
      have E45 := hw 45 22 rfl
      have h22 : y 22 = .bool false := hd 22 rfl
      refine asked_val (.bool false) (want_free rfl) (run_move (.inl rfl) (E45.trans h22)) rfl
    · intro ρ y W hw hn hb hd
      have E10 : ρ (.tmp 10) = .int .i64 (newE n) := (hn (.tmp 10) rfl).trans rfl
      refine asked_val (.int .i64 (newE n)) (want_at 23 46 false false rfl rfl ((hw 46 23 rfl).trans (hd 23 rfl))) (run_move (.inl rfl) E10) rfl
    · intro ρ y W hw hn hb hd
      have E47 := hw 47 24 rfl
      have h24 : y 24 = .int .i64 (newE n) := hd 24 rfl
      refine asked_val (.bool false) (want_at 23 46 false false rfl rfl ((hw 46 23 rfl).trans (hd 23 rfl))) (run_bin rfl (E47.trans h24) (hn (.const _) trivial) (by simp [go_sem, hnE])) rfl
    · intro ρ y W hw hn hb hd
      have E48 := hw 48 25 rfl
      have h25 : y 25 = .bool false := hd 25 rfl
      refine asked_val (.bool false) (want_at 23 46 false false rfl rfl ((hw 46 23 rfl).trans (hd 23 rfl))) (run_move (.inl rfl) (E48.trans h25)) rfl
    · intro ρ y W hw hn hb hd
      exact asked_skip (want_at 26 49 false true rfl rfl ((hw 49 26 rfl).trans (hd 26 rfl))) rfl
    · intro ρ y W hw hn hb hd
      exact asked_skip (want_at 26 49 false true rfl rfl ((hw 49 26 rfl).trans (hd 26 rfl))) rfl
    · intro ρ y W hw hn hb hd
      exact asked_skip (want_at 26 49 false true rfl rfl ((hw 49 26 rfl).trans (hd 26 rfl))) rfl
    · intro ρ y W hw hn hb hd
      exact asked_skip (want_at 26 49 false true rfl rfl ((hw 49 26 rfl).trans (hd 26 rfl))) rfl
    · intro ρ y W hw hn hb hd
      exact asked_skip (want_at 26 49 false true rfl rfl ((hw 49 26 rfl).trans (hd 26 rfl))) rfl
    · intro ρ y W hw hn hb hd
      exact asked_skip (want_undef 31 54 false rfl rfl ((hw 54 31 rfl).trans (hd 31 rfl))) rfl
    · intro ρ y W hw hn hb hd
      exact asked_skip (want_undef 31 54 false rfl rfl ((hw 54 31 rfl).trans (hd 31 rfl))) rfl
    · intro ρ y W hw hn hb hd
      exact asked_skip (want_undef 31 54 false rfl rfl ((hw 54 31 rfl).trans (hd 31 rfl))) rfl
    · intro ρ y W hw hn hb hd
      exact asked_skip (want_undef 31 54 false rfl rfl ((hw 54 31 rfl).trans (hd 31 rfl))) rfl
    · intro ρ y W hw hn hb hd
      exact asked_skip (want_at 26 49 false true rfl rfl ((hw 49 26 rfl).trans (hd 26 rfl))) rfl
    · intro ρ y W hw hn hb hd
      have E49 := hw 49 26 rfl
      have h26 : y 26 = .bool false := hd 26 rfl
      have E59 := hw 59 36 rfl
      have h36 : y 36 = undef := hd 36 rfl
      refine asked_val (.bool false) (want_at 23 46 false false rfl rfl ((hw 46 23 rfl).trans (hd 23 rfl))) (run_pick rfl (E49.trans h26) (by first | simpa using (hn (.const _) trivial) | exact (hn (.const _) trivial).trans rfl)) rfl
    · intro ρ y W hw hn hb hd
      have E46 := hw 46 23 rfl
      have h23 : y 23 = .bool false := hd 23 rfl
      have E60 := hw 60 37 rfl
      have h37 : y 37 = .bool false := hd 37 rfl
      refine asked_val (.bool false) (want_free rfl) (run_pick rfl (E46.trans h23) (by first | simpa using (E60.trans h37) | exact (hn (.const _) trivial).trans rfl)) rfl
    intro y WA hbWA hRWA
    have hy0 : y 0 = .agg #[.slice a ps.length c, .int .i64 k] := hRWA 0 (by decide)
    have hy1 : y 1 = .int .i64 (wrongSt (stOf ps k)) := hRWA 1 (by decide)
    have hy2 : y 2 = .agg #[.slice a ps.length c, .int .i64 k] := hRWA 2 (by decide)
    have hy3 : y 3 = .int .i64 (wrongSt (stOf ps k)) := hRWA 3 (by decide)
    have hy4 : y 4 = .bool false := hRWA 4 (by decide)
    have hy5 : y 5 = .bool false := hRWA 5 (by decide)
    have hy6 : y 6 = .agg #[.slice a ps.length c, .int .i64 k] := hRWA 6 (by decide)
    have hy8 : y 8 = .agg #[.slice a ps.length c, .int .i64 k] := hRWA 8 (by decide)
    have hy9 : y 9 = .bool true := hRWA 9 (by decide)
    have hy10 : y 10 = .bool false := hRWA 10 (by decide)
    have hy11 : y 11 = .bool false := hRWA 11 (by decide)
    have hy12 : y 12 = .bool false := hRWA 12 (by decide)
    have hy13 : y 13 = .int .i64 (newE n) := hRWA 13 (by decide)
    have hy14 : y 14 = .bool false := hRWA 14 (by decide)
    have hy15 : y 15 = .int .i64 n := hRWA 15 (by decide)
    have hy16 : y 16 = .bool false := hRWA 16 (by decide)
    have hy17 : y 17 = .bool false := hRWA 17 (by decide)
    have hy18 : y 18 = undef := hRWA 18 (by decide)
    have hy19 : y 19 = undef := hRWA 19 (by decide)
    have hy20 : y 20 = .bool false := hRWA 20 (by decide)
    have hy21 : y 21 = .bool false := hRWA 21 (by decide)
    have hy22 : y 22 = .bool false := hRWA 22 (by decide)
    have hy23 : y 23 = .bool false := hRWA 23 (by decide)
    have hy24 : y 24 = .int .i64 (newE n) := hRWA 24 (by decide)
    have hy25 : y 25 = .bool false := hRWA 25 (by decide)
    have hy26 : y 26 = .bool false := hRWA 26 (by decide)
    have hy27 : y 27 = undef := hRWA 27 (by decide)
    have hy28 : y 28 = undef := hRWA 28 (by decide)
    have hy29 : y 29 = undef := hRWA 29 (by decide)
    have hy30 : y 30 = undef := hRWA 30 (by decide)
    have hy31 : y 31 = undef := hRWA 31 (by decide)
    have hy32 : y 32 = undef := hRWA 32 (by decide)
    have hy33 : y 33 = undef := hRWA 33 (by decide)
    have hy34 : y 34 = undef := hRWA 34 (by decide)
    have hy35 : y 35 = undef := hRWA 35 (by decide)
    have hy36 : y 36 = undef := hRWA 36 (by decide)
    have hy37 : y 37 = .bool false := hRWA 37 (by decide)
    have hy38 : y 38 = .bool false := hRWA 38 (by decide)
    have hy7 := hRWA 7 (by decide)
    clear hRWA
    simp only [lay, Nat.reduceAdd, Nat.reduceLT, decide_true, decide_false, if_true, Bool.false_eq_true, if_false, List.setIfInBounds_toArray, List.set_cons_zero, List.set_cons_succ, List.drop_succ_cons, List.drop_zero, List.drop_nil, hy0, hy1, hy2, hy3, hy4, hy5, hy6, hy8, hy9, hy10, hy11, hy12, hy13, hy14, hy15, hy16, hy17, hy18, hy19, hy20, hy21, hy22, hy23, hy24, hy25, hy26, hy27, hy28, hy29, hy30, hy31, hy32, hy33, hy34, hy35, hy36, hy37, hy38]
    clear hy0 hy1 hy2 hy3 hy4 hy5 hy6 hy8 hy9 hy10 hy11 hy12 hy13 hy14 hy15 hy16 hy17 hy18 hy19 hy20 hy21 hy22 hy23 hy24 hy25 hy26 hy27 hy28 hy29 hy30 hy31 hy32 hy33 hy34 hy35 hy36 hy37 hy38
    clear hnE hnC
    have hbelA := below_next hbel2 hbWA
    have hxA := hx2.ext hbWA
    clear hbel2 hx2 ho2 hbWA
    go_wp2_with (refine wpList_ldg _ _ rfl _ 0 rfl rfl _ hxA.rd _ Try.underlying47 rfl store_size ?_)
    refine (screate_any ps k a c _ (h.below hbelA) hk64).mono ?_
    rintro r w3 ⟨v3, qs3, k3, rfl, hO3, hst30, hb3⟩
    have hst3 := Lib.hid hst30
    obtain ⟨a3, c3, rfl, hR3⟩ := hO3.rd
    have hbel3 := below_next hbelA hb3
    have hx3 := hxA.ext hb3
    clear hst30 hbelA hxA hb3 hO3
    go_wp2_with (first | (refine wpList_stn rfl _ _ _ rfl #[.slice a3 qs3.length c3, .int .i64 k3] rfl rfl rfl store_size (sl_in _ _ _ _) ?_) | (refine wpList_ldg _ _ rfl _ 0 rfl rfl _ hx3.rd _ Try.underlying47 rfl store_size ?_))
    intro w4 hb4 ho4
    have hbel4 := below_next hbel3 hb4
    have hx4 := hx3.ext hb4
    have hR4 := hR3.below hb4
    have hB30 := hbel3.size
    have hL30 := hx3.lt
    clear hbel3 hx3 hb4 hR3
    go_wp2_with (refine wpList_ldg _ _ rfl _ 0 rfl rfl _ hx4.rd _ Try.underlying47 rfl store_size ?_)
    refine (rcreate_any ps k a c _ (h.below hbel4) hk64).mono ?_
    rintro r w5 ⟨a5, c5, k5, qs5, rfl, hR5, hst50, hb5⟩
    have hst5 := Lib.hid hst50
    have hbel5 := below_next hbel4 hb5
    have hx5 := hx4.ext hb5
    have ho5 := ho4.ext hb5
    have hS5 := hR4.below hb5
    clear hst50 hbel4 hx4 hb5 ho4 hR4
    unfold stC
    go_wp2_with (refine wpList_stn rfl _ _ _ rfl #[.slice a5 qs5.length c5, .int .i64 k5] rfl rfl rfl store_size (sl_in _ _ _ _) ?_)
    intro w6 hb6 hp6
    have hbel6 := below_next hbel5 hb6
    have hx6 := hx5.ext hb6
    have ho6 := ho5.ext hb6
    have hS6 := hS5.below hb6
    have hR6 := hR5.below hb6
    have hB50 := hbel5.size
    have hL50 := ho5.lt
    clear hbel5 hx5 ho5 hb6 hS5 hR5
    go_wp2_with (first | (refine wpList_ldg _ _ rfl _ 0 rfl rfl _ ho6.rd _ Try.underlying47 rfl store_size ?_) | (refine wpList_ldg _ _ rfl _ 0 rfl rfl _ hp6.rd _ Try.underlying47 rfl store_size ?_))
    refine (ssame_any qs3 qs5 k3 k5 a3 a5 c3 c5 _ hS6 hR6).mono ?_
    rintro r w7 ⟨rfl, hb7⟩
    rw [hst3.out, hst5.out, sameSt_self]
    have hbel7 := below_next hbel6 hb7
    have hx7 := hx6.ext hb7
    have ho7 := ho6.ext hb7
    have hp7 := hp6.ext hb7
    have hB3 := Lib.hid hB30
    have hB5 := Lib.hid hB50
    have hL3 := Lib.hid hL30
    have hL5 := Lib.hid hL50
    clear hbel6 hx6 ho6 hp6 hb7 hS6 hR6 hst3 hst5 hB30 hB50 hL30 hL50
    go_wp2_with (refine wpList_ldg _ _ rfl _ 0 rfl rfl _ hx7.rd _ Try.underlying47 rfl store_size ?_)
    refine (ssize_any ps k file n a c _ (h.below hbel7) hk64).mono ?_
    rintro r w8 ⟨v8, qs8, k8, rfl, hO8, hst80, hb8⟩
    have hst8 := Lib.hid hst80
    have hbel8 := below_next hbel7 hb8
    have hx8 := hx7.ext hb8
    have ho8 := ho7.ext hb8
    have hp8 := hp7.ext hb8
    clear hst80 hbel7 hx7 ho7 hp7 hb8
    obtain ⟨a80, c80, rfl, _⟩ := hO8.rd
    go_wp2_with (first | (refine wpList_stw rfl _ _ _ rfl w3.heap.size #[.slice a80 qs8.length c80, .int .i64 k8] rfl rfl _ _ ho8 rfl store_size (sl_in _ _ _ _) ?_) | (refine wpList_ldg _ _ rfl _ 0 rfl rfl _ hx8.rd _ Try.underlying47 rfl store_size ?_))
    intro w9 ho9 hgr9
    have hO9 := hO8.keep ho8 (by decide) (by decide) hgr9
    have hbel9 := hbel8.grown hgr9 hbel8.size (fun k hk => by cases hk; exact hB3.out)
    have hx9 := hx8.grown hgr9 (fun he => by have := Option.some.inj he; have := hL3.out; omega)
    have hp9 := hp8.grown hgr9 (fun he => by have := Option.some.inj he; have := hL5.out; omega)
    clear hO8 hbel8 hx8 hp8 ho8 hgr9
    go_wp2_with (refine wpList_ldg _ _ rfl _ 0 rfl rfl _ hx9.rd _ Try.underlying47 rfl store_size ?_)
    refine (rsize_any ps k file n a c _ (h.below hbel9) hk64).mono ?_
    rintro r w10 ⟨a10, c10, k10, qs10, rfl, hR10, hst100, hb10, hsty0⟩
    have hst10 := Lib.hid hst100
    have hsty := Lib.hid hsty0
    have hlt9 := Lib.hid hp9.lt
    have hbel10 := below_next hbel9 hb10
    have hx10 := hx9.ext hb10
    have ho10 := ho9.ext hb10
    have hp10 := hp9.ext hb10
    have hO10 := hO9.below hb10
    clear hst100 hsty0 hbel9 hx9 ho9 hp9 hO9 hb10
    unfold stC
    go_wp2_with (refine wpList_stw rfl _ _ _ rfl w5.heap.size #[.slice a10 qs10.length c10, .int .i64 k10] rfl rfl _ _ hp10 rfl store_size (sl_in _ _ _ _) ?_)
    intro w11 hp11 hgr11
    have hO11 := hO10.keep hp10 (by decide) (by decide) hgr11
    have hbel11 := hbel10.grown hgr11 hbel10.size (fun k hk => by cases hk; exact hB5.out)
    have hx11 := hx10.grown hgr11 (fun he => by have := Option.some.inj he; have := hL3.out; have := hL5.out; omega)
    have ho11 := ho10.grown hgr11 (fun he => by have := Option.some.inj he; have := hL5.out; omega)
    have hR11 := hsty.out w w11 _ h hbel11 hlt9.out hgr11
    obtain ⟨a11, c11, e11, hS11⟩ := hO11.rd
    replace hS11 : FsR w11 a80 c80 qs8 := by
      simp only [Value.slice.injEq, true_and] at e11
      rw [e11.1, e11.2]
      exact hS11
    clear hO10 hbel10 hx10 ho10 hp10 hgr11 hsty hlt9 hO11 e11 hR10
    go_wp2_with (first | (refine wpList_ldg _ _ rfl _ 0 rfl rfl _ ho11.rd _ Try.underlying47 rfl store_size ?_) | (refine wpList_ldg _ _ rfl _ 0 rfl rfl _ hp11.rd _ Try.underlying47 rfl store_size ?_))
    refine (ssame_any qs8 qs10 k8 k10 a80 a10 c80 c10 _ hS11 hR11).mono ?_
    rintro r w12 ⟨rfl, hb12⟩
    rw [hst8.out, hst10.out, sameSt_self]
    have hbelA := below_next hbel11 hb12
    have hxA := hx11.ext hb12
    have hoA := ho11.ext hb12
    have hpA := hp11.ext hb12
    clear hbel11 hx11 ho11 hp11 hb12 hS11 hR11 hst8 hst10
    go_wp2_with (refine wpList_ldg _ _ rfl _ 0 rfl rfl _ hxA.rd _ Try.underlying47 rfl store_size ?_)
    refine (sblock_any ps k file index a c _ (h.below hbelA) hk64).mono ?_
    rintro r w8 ⟨v8, qs8, k8, rfl, hO8, hst80, hb8⟩
    have hst8 := Lib.hid hst80
    have hbel8 := below_next hbelA hb8
    have hx8 := hxA.ext hb8
    have ho8 := hoA.ext hb8
    have hp8 := hpA.ext hb8
    clear hst80 hbelA hxA hoA hpA hb8
    obtain ⟨a80, c80, rfl, _⟩ := hO8.rd
    go_wp2_with (first | (refine wpList_stw rfl _ _ _ rfl w3.heap.size #[.slice a80 qs8.length c80, .int .i64 k8] rfl rfl _ _ ho8 rfl store_size (sl_in _ _ _ _) ?_) | (refine wpList_ldg _ _ rfl _ 0 rfl rfl _ hx8.rd _ Try.underlying47 rfl store_size ?_))
    intro w9 ho9 hgr9
    have hO9 := hO8.keep ho8 (by decide) (by decide) hgr9
    have hbel9 := hbel8.grown hgr9 hbel8.size (fun k hk => by cases hk; exact hB3.out)
    have hx9 := hx8.grown hgr9 (fun he => by have := Option.some.inj he; have := hL3.out; omega)
    have hp9 := hp8.grown hgr9 (fun he => by have := Option.some.inj he; have := hL5.out; omega)
    clear hO8 hbel8 hx8 hp8 ho8 hgr9
    go_wp2_with (refine wpList_ldg _ _ rfl _ 0 rfl rfl _ hx9.rd _ Try.underlying47 rfl store_size ?_)
    refine (rblock_any ps k file index a c _ (h.below hbel9) hk64).mono ?_
    rintro r w10 ⟨a10, c10, k10, qs10, rfl, hR10, hst100, hb10, hsty0⟩
    have hst10 := Lib.hid hst100
    have hsty := Lib.hid hsty0
    have hlt9 := Lib.hid hp9.lt
    have hbel10 := below_next hbel9 hb10
    have hx10 := hx9.ext hb10
    have ho10 := ho9.ext hb10
    have hp10 := hp9.ext hb10
    have hO10 := hO9.below hb10
    clear hst100 hsty0 hbel9 hx9 ho9 hp9 hO9 hb10
    unfold stC
    go_wp2_with (refine wpList_stw rfl _ _ _ rfl w5.heap.size #[.slice a10 qs10.length c10, .int .i64 k10] rfl rfl _ _ hp10 rfl store_size (sl_in _ _ _ _) ?_)
    intro w11 hp11 hgr11
    have hO11 := hO10.keep hp10 (by decide) (by decide) hgr11
    have hbel11 := hbel10.grown hgr11 hbel10.size (fun k hk => by cases hk; exact hB5.out)
    have hx11 := hx10.grown hgr11 (fun he => by have := Option.some.inj he; have := hL3.out; have := hL5.out; omega)
    have ho11 := ho10.grown hgr11 (fun he => by have := Option.some.inj he; have := hL5.out; omega)
    have hR11 := hsty.out w w11 _ h hbel11 hlt9.out hgr11
    obtain ⟨a11, c11, e11, hS11⟩ := hO11.rd
    replace hS11 : FsR w11 a80 c80 qs8 := by
      simp only [Value.slice.injEq, true_and] at e11
      rw [e11.1, e11.2]
      exact hS11
    clear hO10 hbel10 hx10 ho10 hp10 hgr11 hsty hlt9 hO11 e11 hR10
    go_wp2_with (first | (refine wpList_ldg _ _ rfl _ 0 rfl rfl _ ho11.rd _ Try.underlying47 rfl store_size ?_) | (refine wpList_ldg _ _ rfl _ 0 rfl rfl _ hp11.rd _ Try.underlying47 rfl store_size ?_))
    refine (ssame_any qs8 qs10 k8 k10 a80 a10 c80 c10 _ hS11 hR11).mono ?_
    rintro r w12 ⟨rfl, hb12⟩
    rw [hst8.out, hst10.out, sameSt_self]
    have hbelB := below_next hbel11 hb12
    have hxB := hx11.ext hb12
    have hoB := ho11.ext hb12
    have hpB := hp11.ext hb12
    clear hbel11 hx11 ho11 hp11 hb12 hS11 hR11 hst8 hst10
    go_wp2_with (refine wpList_ldg _ _ rfl _ 0 rfl rfl _ hxB.rd _ Try.underlying47 rfl store_size ?_)
    refine (rswrong_any ps k a c _ (h.below hbelB) hk64).mono ?_
    rintro r w20 ⟨rfl, hb20⟩
    have hbel20 := below_next hbelB hb20
    have hx20 := hxB.ext hb20
    clear hbelB hxB hoB hpB hb20
    by_cases hw : wrongSt (stOf ps k) = 0
    · have hright := Lib.hid (left_all hw)
      have hk1 := (wrongSt_few hw).2
      have hk2 : 0 ≤ k ∧ k ≤ 80 := hk1
      have hp1 : (pblks ps).length ≤ 1000 := by have := right_blks hw; omega
      rw [hw]
      clear hw
      have hcx := hx20.cell
      go_upto_region 20 with (fail)
      clear hcx
      go_loopw [146, 16] (fun i s wr => ∃ q : Nat, (q : Int) ≤ k ∧ i = .int .i64 q ∧ s = .int .i64 (unusedN (stOf ps k) q) ∧ Below w.heap.size w wr ∧ Blk wr w.heap.size #[.slice a ps.length c, .int .i64 k] 47) (fun i _ _ => (k - intOf i).toNat)
      case atStart => exact ⟨0, hk2.1, rfl, by simp [unusedN], hbel20, hx20⟩
      case round =>
        clear hbel20 hx20
        obtain ⟨q, hq, rfl, rfl, hbr, hxr⟩ := hrel
        have hnext := Lib.hid (unusedN_next (stOf ps k) q)
        have hule := unusedN_le (stOf ps k) q
        by_cases hlt : (q : Int) < k
        · go_wp2_with (refine wpList_ldg _ _ rfl _ 0 rfl rfl _ hxr.rd _ Try.underlying47 rfl store_size ?_)
          refine (sused_any ps k q a c _ (h.below hbr)).mono ?_
          rintro r w21 ⟨rfl, hb21⟩
          have hbel21 := below_next hbr hb21
          have hx21 := hxr.ext hb21
          clear hbr hxr hb21
          by_cases hu : usedSt (stOf ps k) q = true
          · have hnx : Hid (unusedN (stOf ps k) (q + 1) = unusedN (stOf ps k) q) := Lib.hid (by rw [hnext.out, if_pos hu]; rfl)
            rw [hu]
            clear hu hnext
            go_wp2
            go_roundw
            case measure => simp [intOf]; omega
            case rel => exact ⟨q + 1, by omega, by go_num, by rw [hnx.out], hbel21, hx21⟩
          · have hu := eq_false_of_ne_true hu
            have hnx : Hid (unusedN (stOf ps k) (q + 1) = unusedN (stOf ps k) q + 1) := Lib.hid (by rw [hnext.out, if_neg (by rw [hu]; simp)])
            rw [hu]
            clear hu hnext
            go_wp2
            go_roundw
            case measure => simp [intOf]; omega
            case rel => exact ⟨q + 1, by omega, by go_num, by rw [hnx.out]; go_num, hbel21, hx21⟩
        · obtain rfl : (q : Int) = k := by omega
          have hrq : Hid (leftSt (stOf ps q) = (unusedN (stOf ps q) q : Int)) := Lib.hid hright.out
          go_wp2_with (refine wpList_ldg _ _ rfl _ 0 rfl rfl _ hxr.rd _ Try.underlying47 rfl store_size ?_)
          refine (sleft_any ps q a c _ (h.below hbr) hk2 hp1).mono ?_
          rintro r w22 ⟨rfl, hb22⟩
          rw [hrq.out]
          have hbel22 := below_next hbr hb22
          clear hbr hxr hb22 hright hnext
          go_wp2
          go_ret
          exact ⟨rfl, hbel22⟩
    · have hw' : (wrongSt (stOf ps k) != 0) = true := by simpa using hw
      clear hw
      go_wp2
      go_ret
      exact ⟨rfl, hbel20⟩
end Go.Proofs.Ytmdnmknmniabeaa
