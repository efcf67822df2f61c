/- The document's WrongAreas. -/
import Derived.Test.YtmdnmknmniabeaaAo5
namespace Go.Proofs.Ytmdnmknmniabeaa
open Go.RowKit Pw
set_option linter.unusedSimpArgs false
set_option linter.unusedVariables false

set_option maxHeartbeats 4000000 in
set_option maxRecDepth 100000 in
theorem rwrong_any (l : List Ar) (a : Option Addr) (c : Nat) (w : World) (h : AsR w a c l) :
    Calls Try.prog 44 #[.slice a l.length c] w fun e w' => e = .returned (.agg (fauC (wrongA l))) ∧ Below w.heap.size w w' := by
  have hlc := h.le
  have hlm := Nat.le_trans h.le h.mx
  unfold maxLen at hlm
  have hrd := h.rd
  go_enter Try.func44, Try.ntmps44
  go_upto_region 1 with (fail)
  refine abs1 (fun W => Code.wp _ _ _ _ W) fun W0 hbel hres hs0 => ?_
  clear hs0
  by_cases h16 : 16 < l.length
  · have h16' : (16 : Int) < (l.length : Int) := by omega
    have hz : Hid (wrongA l = (4, 0)) := Lib.hid (by unfold wrongA; rw [if_pos h16])
    go_wp2_with (refine wpList_stw rfl _ _ _ rfl w.heap.size #[.int .i64 (4), .int .i64 (0)] rfl rfl _ _ hres rfl fau_size (fau_one _ _) ?_)
    intro w5 hr5 hgr5
    have hbel5 : Below w.heap.size w w5 := hbel.grown hgr5 hbel.size (fun k hk => by cases hk; exact Nat.le_refl _)
    go_wp2
    refine bodyPost_ret (v := .agg #[.int .i64 (4), .int .i64 (0)]) (results_c Try.results44 _ _ w.heap.size _ _ _ rfl hr5 Try.underlying68 rfl fau_size) rfl ?_
    exact ⟨by rw [hz.out]; rfl, hbel5⟩
  · have h16' : ¬ (16 : Int) < (l.length : Int) := by omega
    have h0 : Hid (wrongA l = wrongAt (prevA l 0) 0 (l.drop 0)) := Lib.hid (by unfold wrongA; rw [if_neg h16]; rfl)
    go_upto_region 4 with (fail)
    go_loopw [12] (fun i wr => ∃ k : Nat, k ≤ l.length ∧ i = .int .i64 k ∧ Below w.heap.size w wr ∧ Blk wr w.heap.size #[.int .i64 0, .int .i64 0] 68 ∧ (∀ i (h : i < l.length), i < k → areaE l[i] = 0) ∧ Hid (wrongA l = wrongAt (prevA l k) k (l.drop k))) (fun i _ => l.length - (intOf i).toNat)
    case atStart => exact ⟨0, Nat.zero_le _, rfl, hbel, hres, fun i _ h => absurd h (Nat.not_lt_zero _), h0⟩
    case round =>
      clear hbel hres h0
      obtain ⟨k, hk, rfl, hbel, hres, hp0, hst⟩ := hrel
      have hp := Lib.hid hp0
      clear hp0
      by_cases hlt : k < l.length
      · obtain ⟨b, off, rfl, c0, c1, c2, c3, c4, c5, c6⟩ := ar_at7 (hrd.below hbel) k hlt
        have hki : (k : Int) < (l.length : Int) := by omega
        go_upto_region 6 with (fail)
        refine abs1 (fun W => Code.wp _ _ _ _ W) fun W1 hb1 hx1 hs1 => ?_
        have hbel := below_next hbel hb1
        have hres := hres.ext hb1
        clear hs1 hb1 c0 c1 c2 c3 c4 c5 c6
        obtain ⟨gx, hgx⟩ : ∃ g, g = wr.heap.size := ⟨_, rfl⟩
        rw [← hgx] at hx1 ⊢
        clear hgx
        go_wp2_with (refine wpList_ldg _ _ rfl _ 0 rfl rfl _ hx1.rd _ Try.underlying66 rfl area_size ?_)
        refine (warea_any l[k] _).mono ?_
        rintro r w2 ⟨rfl, hb2⟩
        have hbel2 := below_next hbel hb2
        have hres2 := hres.ext hb2
        have hx2 := hx1.ext hb2
        clear hbel hres hb2 hx1
        by_cases he : areaE l[k] = 0
        · have he' := Lib.hid he
          rw [he]
          clear he
          go_upto_region 9 with (fail)
          by_cases hk0 : k = 0
          · subst hk0
            have hd0 : decide ((0 : Int) < ((0 : Nat) : Int)) = false := rfl
            have hnx : Hid (wrongA l = wrongAt (prevA l (0 + 1)) (0 + 1) (l.drop (0 + 1))) := Lib.hid (by rw [hst.out]; exact wrong_next hlt he'.out rfl)
            go_quiet (fail)
            go_wp2
            go_roundw
            case rel => exact ⟨0 + 1, by omega, by go_num, below_drewN hbel2 _, hres2.drewN _, upto' hp.out hlt he'.out, hnx⟩
            case measure => simp [intOf]; omega
          · obtain ⟨m, rfl⟩ : ∃ m, k = m + 1 := ⟨k - 1, by omega⟩
            have hm1 : IntKind.i64.wrap (((m + 1 : Nat) : Int) - 1) = (m : Int) := by rw [IntWalk.i64_in _ (by omega)]; omega
            have hml : m < l.length := by omega
            have hm2 : IntKind.i64.wrap (m : Int) = (m : Int) := IntWalk.i64_in _ (by omega)
            have hm3 : IntKind.i64.wrap ((m : Int) + 1 + 1) = (m : Int) + 2 := by rw [IntWalk.i64_in _ (by omega)]; omega
            have hm4 : IntKind.i64.wrap (((m + 1 : Nat) : Int) + 1) = (m : Int) + 2 := by rw [IntWalk.i64_in _ (by omega)]; omega
            have hbp := Lib.hid (bad_prev hlt)
            have hE0 := hp.out m hml (by omega)
            have hRd := hrd.below hbel2
            have hPm := ar_at' hRd m hml
            have hT := two_at hrd hlt
            have hpr : ∀ x ∈ [l[m], l[m + 1]], areaE x = 0 := fun x hx => by
              rcases List.mem_cons.1 hx with rfl | hx
              · exact hE0
              · rw [List.mem_singleton.1 hx]; exact he'.out
            have hup : Hid (∀ i (h : i < l.length), i < m + 1 + 1 → areaE l[i] = 0) := Lib.hid (upto' hp.out hlt he'.out)
            generalize hA1 : l[m + 1] = A1 at *
            generalize hA0 : l[m] = A0 at *
            by_cases hov : A1.fr < A0.en
            · have hz : Hid (wrongA l = (2, ((m + 1 : Nat) : Int))) := Lib.hid (by rw [hst.out]; exact wrong_stop hlt (by rw [hA1]; exact he'.out) (by rw [hA1, hbp.out, decide_eq_true hov]; rfl))
              have hpo : True := trivial
              have hpl : True := trivial
              refine wp_grow 25 [isV (.int .i64 ((m + 1 : Nat) : Int)), isV (.bool true), isV (.bool true), isV (.slice (some ⟨b, off, none⟩) l.length c), isV (.int .i64 ((m + 1 : Nat) : Int)), isV (.int .i64 (m : Int)), isV (.pointer (some ⟨b, off + m * 7, none⟩)), isV (.pointer (some ⟨b, off + m * 7 + 1, none⟩)), isV (.int .i64 A0.en), isV (.pointer (some ⟨gx, 0, none⟩)), isV (.int .i64 A1.fr), isV (.bool true), isV (.bool true), isV (undef), isV (undef), isV (undef), isV (undef), isV (undef), isV (undef), isV (undef), isV (undef), isV (undef), isV (undef), isV (.bool true), isV (.bool true)] (by kernel_rfl) (by kernel_rfl) (by kernel_rfl) (by decide) _ rfl (by kernel_rfl) (all_cons ?_ (all_cons ?_ (all_cons ?_ (all_cons ?_ (all_cons ?_ (all_cons ?_ (all_cons ?_ (all_cons ?_ (all_cons ?_ (all_cons ?_ (all_cons ?_ (all_cons ?_ (all_cons ?_ (all_cons ?_ (all_cons ?_ (all_cons ?_ (all_cons ?_ (all_cons ?_ (all_cons ?_ (all_cons ?_ (all_cons ?_ (all_cons ?_ (all_cons ?_ (all_cons ?_ (all_cons ?_ (all_nil)))))))))))))))))))))))))) ?_
              · intro ρ y W hw hn hb hd
                have E3 : ρ (.tmp 3) = .int .i64 ((m + 1 : Nat) : Int) := (hn (.tmp 3) rfl).trans rfl
                refine asked_val (.int .i64 ((m + 1 : Nat) : Int)) (want_free rfl) (run_move (.inl rfl) E3) rfl
              · intro ρ y W hw hn hb hd
                have E24 := hw 24 0 rfl
                have h0 : y 0 = .int .i64 ((m + 1 : Nat) : Int) := hd 0 rfl
                refine asked_val (.bool true) (want_free rfl) (run_bin rfl (E24.trans h0) (hn (.const _) trivial) (by simp [go_sem])) rfl
              · intro ρ y W hw hn hb hd
                have E25 := hw 25 1 rfl
                have h1 : y 1 = .bool true := hd 1 rfl
                refine asked_val (.bool true) (want_free rfl) (run_move (.inl rfl) (E25.trans h1)) rfl
              · intro ρ y W hw hn hb hd
                have E0 : ρ (.tmp 0) = .slice (some ⟨b, off, none⟩) l.length c := (hn (.tmp 0) rfl).trans rfl
                refine asked_val (.slice (some ⟨b, off, none⟩) l.length c) (want_at 2 26 true true rfl rfl ((hw 26 2 rfl).trans (hd 2 rfl))) (run_move (.inl rfl) E0) rfl
              · intro ρ y W hw hn hb hd
                have E3 : ρ (.tmp 3) = .int .i64 ((m + 1 : Nat) : Int) := (hn (.tmp 3) rfl).trans rfl
                refine asked_val (.int .i64 ((m + 1 : Nat) : Int)) (want_at 2 26 true true rfl rfl ((hw 26 2 rfl).trans (hd 2 rfl))) (run_move (.inl rfl) E3) rfl
              · intro ρ y W hw hn hb hd
                have E28 := hw 28 4 rfl
                have h4 : y 4 = .int .i64 ((m + 1 : Nat) : Int) := hd 4 rfl
                refine asked_val (.int .i64 (m : Int)) (want_at 2 26 true true rfl rfl ((hw 26 2 rfl).trans (hd 2 rfl))) (run_bin rfl (E28.trans h4) (hn (.const _) trivial) (by simp [go_sem, hm1, hm2])) rfl
              · intro ρ y W hw hn hb hd
                have E27 := hw 27 3 rfl
                have h3 : y 3 = .slice (some ⟨b, off, none⟩) l.length c := hd 3 rfl
                have E29 := hw 29 5 rfl
                have h5 : y 5 = .int .i64 (m : Int) := hd 5 rfl
                refine asked_val (.pointer (some ⟨b, off + m * 7, none⟩)) (want_at 2 26 true true rfl rfl ((hw 26 2 rfl).trans (hd 2 rfl))) (by simp [execOp, go_sem, E27, h3, E29, h5, hml]) rfl
              · intro ρ y W hw hn hb hd
                have E30 := hw 30 6 rfl
                have h6 : y 6 = .pointer (some ⟨b, off + m * 7, none⟩) := hd 6 rfl
                refine asked_val (.pointer (some ⟨b, off + m * 7 + 1, none⟩)) (want_at 2 26 true true rfl rfl ((hw 26 2 rfl).trans (hd 2 rfl))) (by simp [execOp, go_sem, E30, h6]) rfl
              · intro ρ y W hw hn hb hd
                have E31 := hw 31 7 rfl
                have h7 : y 7 = .pointer (some ⟨b, off + m * 7 + 1, none⟩) := hd 7 rfl
                have hc0 := (hPm.below hb).cells.2.1
                refine asked_val (.int .i64 A0.en) (want_at 2 26 true true rfl rfl ((hw 26 2 rfl).trans (hd 2 rfl))) (by simp [execOp, go_sem, E31, h7, hc0]) rfl
              · intro ρ y W hw hn hb hd
                have E4 : ρ (.tmp 4) = .pointer (some ⟨gx, 0, none⟩) := (hn (.tmp 4) rfl).trans rfl
                refine asked_val (.pointer (some ⟨gx, 0, none⟩)) (want_at 2 26 true true rfl rfl ((hw 26 2 rfl).trans (hd 2 rfl))) (by simp [execOp, go_sem, E4]) rfl
              · intro ρ y W hw hn hb hd
                have E33 := hw 33 9 rfl
                have h9 : y 9 = .pointer (some ⟨gx, 0, none⟩) := hd 9 rfl
                have hc0 := (hx2.ext hb).cell 0
                simp at hc0
                refine asked_val (.int .i64 A1.fr) (want_at 2 26 true true rfl rfl ((hw 26 2 rfl).trans (hd 2 rfl))) (by simp [execOp, go_sem, E33, h9, hc0]) rfl
              · intro ρ y W hw hn hb hd
                have E32 := hw 32 8 rfl
                have h8 : y 8 = .int .i64 A0.en := hd 8 rfl
                have E34 := hw 34 10 rfl
                have h10 : y 10 = .int .i64 A1.fr := hd 10 rfl
                refine asked_val (.bool true) (want_at 2 26 true true rfl rfl ((hw 26 2 rfl).trans (hd 2 rfl))) (run_bin rfl (E32.trans h8) (E34.trans h10) (by simp [go_sem, hov])) rfl
              · intro ρ y W hw hn hb hd
                have E35 := hw 35 11 rfl
                have h11 : y 11 = .bool true := hd 11 rfl
                refine asked_val (.bool true) (want_at 2 26 true true rfl rfl ((hw 26 2 rfl).trans (hd 2 rfl))) (run_move (.inl rfl) (E35.trans h11)) rfl
              · intro ρ y W hw hn hb hd
                exact asked_skip (want_at 12 36 true false rfl rfl ((hw 36 12 rfl).trans (hd 12 rfl))) rfl
              · intro ρ y W hw hn hb hd
                exact asked_skip (want_at 12 36 true false rfl rfl ((hw 36 12 rfl).trans (hd 12 rfl))) rfl
              · intro ρ y W hw hn hb hd
                exact asked_skip (want_at 12 36 true false rfl rfl ((hw 36 12 rfl).trans (hd 12 rfl))) rfl
              · intro ρ y W hw hn hb hd
                exact asked_skip (want_at 12 36 true false rfl rfl ((hw 36 12 rfl).trans (hd 12 rfl))) rfl
              · intro ρ y W hw hn hb hd
                exact asked_skip (want_at 12 36 true false rfl rfl ((hw 36 12 rfl).trans (hd 12 rfl))) rfl
              · intro ρ y W hw hn hb hd
                exact asked_skip (want_at 12 36 true false rfl rfl ((hw 36 12 rfl).trans (hd 12 rfl))) rfl
              · intro ρ y W hw hn hb hd
                exact asked_skip (want_at 12 36 true false rfl rfl ((hw 36 12 rfl).trans (hd 12 rfl))) rfl
              · intro ρ y W hw hn hb hd
                exact asked_skip (want_at 12 36 true false rfl rfl ((hw 36 12 rfl).trans (hd 12 rfl))) rfl
              · intro ρ y W hw hn hb hd
                exact asked_skip (want_at 12 36 true false rfl rfl ((hw 36 12 rfl).trans (hd 12 rfl))) rfl
              · intro ρ y W hw hn hb hd
                exact asked_skip (want_at 12 36 true false rfl rfl ((hw 36 12 rfl).trans (hd 12 rfl))) rfl
              · intro ρ y W hw hn hb hd
                have E36 := hw 36 12 rfl
                have h12 : y 12 = .bool true := hd 12 rfl
                have E46 := hw 46 22 rfl
                have h22 : y 22 = undef := hd 22 rfl
                refine asked_val (.bool true) (want_at 2 26 true true rfl rfl ((hw 26 2 rfl).trans (hd 2 rfl))) (run_pick rfl (E36.trans h12) (by first | simpa using (hn (.const _) trivial) | exact (hn (.const _) trivial).trans rfl)) rfl
              · intro ρ y W hw hn hb hd
                have E26 := hw 26 2 rfl
                have h2 : y 2 = .bool true := hd 2 rfl
                have E47 := hw 47 23 rfl
                have h23 : y 23 = .bool true := hd 23 rfl
                refine asked_val (.bool true) (want_free rfl) (run_pick rfl (E26.trans h2) (by first | simpa using (E47.trans h23) | exact (hn (.const _) trivial).trans rfl)) rfl
              intro y WA hbWA hRWA
              have hy0 : y 0 = .int .i64 ((m + 1 : Nat) : Int) := hRWA 0 (by decide)
              have hy1 : y 1 = .bool true := hRWA 1 (by decide)
              have hy2 : y 2 = .bool true := hRWA 2 (by decide)
              have hy3 : y 3 = .slice (some ⟨b, off, none⟩) l.length c := hRWA 3 (by decide)
              have hy4 : y 4 = .int .i64 ((m + 1 : Nat) : Int) := hRWA 4 (by decide)
              have hy5 : y 5 = .int .i64 (m : Int) := hRWA 5 (by decide)
              have hy6 : y 6 = .pointer (some ⟨b, off + m * 7, none⟩) := hRWA 6 (by decide)
              have hy7 : y 7 = .pointer (some ⟨b, off + m * 7 + 1, none⟩) := hRWA 7 (by decide)
              have hy8 : y 8 = .int .i64 A0.en := hRWA 8 (by decide)
              have hy9 : y 9 = .pointer (some ⟨gx, 0, none⟩) := hRWA 9 (by decide)
              have hy10 : y 10 = .int .i64 A1.fr := hRWA 10 (by decide)
              have hy11 : y 11 = .bool true := hRWA 11 (by decide)
              have hy12 : y 12 = .bool true := hRWA 12 (by decide)
              have hy13 : y 13 = undef := hRWA 13 (by decide)
              have hy14 : y 14 = undef := hRWA 14 (by decide)
              have hy15 : y 15 = undef := hRWA 15 (by decide)
              have hy16 : y 16 = undef := hRWA 16 (by decide)
              have hy17 : y 17 = undef := hRWA 17 (by decide)
              have hy18 : y 18 = undef := hRWA 18 (by decide)
              have hy19 : y 19 = undef := hRWA 19 (by decide)
              have hy20 : y 20 = undef := hRWA 20 (by decide)
              have hy21 : y 21 = undef := hRWA 21 (by decide)
              have hy22 : y 22 = undef := hRWA 22 (by decide)
              have hy23 : y 23 = .bool true := hRWA 23 (by decide)
              have hy24 : y 24 = .bool true := hRWA 24 (by decide)
              clear hRWA
              simp only [lay, Nat.reduceAdd, Nat.reduceLT, decide_true, decide_false, if_true, Bool.false_eq_true, if_false, List.setIfInBounds_toArray, List.set_cons_zero, List.set_cons_succ, List.drop_succ_cons, List.drop_zero, List.drop_nil, hy0, hy1, hy2, hy3, hy4, hy5, hy6, hy7, hy8, hy9, hy10, hy11, hy12, hy13, hy14, hy15, hy16, hy17, hy18, hy19, hy20, hy21, hy22, hy23, hy24]
              clear hy0 hy1 hy2 hy3 hy4 hy5 hy6 hy7 hy8 hy9 hy10 hy11 hy12 hy13 hy14 hy15 hy16 hy17 hy18 hy19 hy20 hy21 hy22 hy23 hy24
              have hbel := below_next hbel2 hbWA
              have hres := hres2.ext hbWA
              clear hbel2 hres2
              go_wp2_with (refine wpList_stw rfl _ _ _ rfl w.heap.size #[.int .i64 (2), .int .i64 (((m + 1 : Nat) : Int))] rfl rfl _ _ hres rfl fau_size (fau_one _ _) ?_)
              intro w5 hr5 hgr5
              have hbel5 : Below w.heap.size w w5 := hbel.grown hgr5 hbel.size (fun k hk => by cases hk; exact Nat.le_refl _)
              go_wp2
              refine bodyPost_ret (v := .agg #[.int .i64 (2), .int .i64 (((m + 1 : Nat) : Int))]) (results_c Try.results44 _ _ w.heap.size _ _ _ rfl hr5 Try.underlying68 rfl fau_size) rfl ?_
              exact ⟨by rw [hz.out]; rfl, hbel5⟩
            · have hs : srtF 0 [A0, A1] := ⟨hE0, (areaE_few hE0).1.2.1.1, he'.out, by omega, trivial⟩
              have hpo := onesF_ok hs
              have hpl0 := pair_len hE0 he'.out (by omega : A0.en ≤ A1.fr)
              cases hj : joinsB A0 A1
              · have hpl : (toA (onesF [A0, A1]) 64).length = 2 := by rw [hpl0, hj]; rfl
                have hnx : Hid (wrongA l = wrongAt (prevA l (m + 1 + 1)) (m + 1 + 1) (l.drop (m + 1 + 1))) := Lib.hid (by rw [hst.out]; exact wrong_next hlt (by rw [hA1]; exact he'.out) (by rw [hA1, hbp.out, decide_eq_false hov, hj]; rfl))
                clear hpl0 hs
                refine wp_grow 25 [isV (.int .i64 ((m + 1 : Nat) : Int)), isV (.bool true), isV (.bool true), isV (.slice (some ⟨b, off, none⟩) l.length c), isV (.int .i64 ((m + 1 : Nat) : Int)), isV (.int .i64 (m : Int)), isV (.pointer (some ⟨b, off + m * 7, none⟩)), isV (.pointer (some ⟨b, off + m * 7 + 1, none⟩)), isV (.int .i64 A0.en), isV (.pointer (some ⟨gx, 0, none⟩)), isV (.int .i64 A1.fr), isV (.bool false), isV (.bool false), isV (.slice (some ⟨b, off, none⟩) l.length c), isV (.int .i64 ((m + 1 : Nat) : Int)), isV (.int .i64 (m : Int)), isV (.int .i64 ((m + 1 : Nat) : Int)), isV (.int .i64 ((m : Int) + 2)), isV (.slice (some ⟨b, off + m * 7, none⟩) 2 (c - m)), isV (.agg (fC (onesF [A0, A1]))), (ownR w.heap.size 66 7 (toA (onesF [A0, A1]) 64).length ((toA (onesF [A0, A1]) 64).flatMap arL)), isV (.int .i64 (2)), isV (.bool false), isV (.bool false), isV (.bool false)] (by kernel_rfl) (by kernel_rfl) (by kernel_rfl) (by decide) _ rfl (by kernel_rfl) (all_cons ?_ (all_cons ?_ (all_cons ?_ (all_cons ?_ (all_cons ?_ (all_cons ?_ (all_cons ?_ (all_cons ?_ (all_cons ?_ (all_cons ?_ (all_cons ?_ (all_cons ?_ (all_cons ?_ (all_cons ?_ (all_cons ?_ (all_cons ?_ (all_cons ?_ (all_cons ?_ (all_cons ?_ (all_cons ?_ (all_cons ?_ (all_cons ?_ (all_cons ?_ (all_cons ?_ (all_cons ?_ (all_nil)))))))))))))))))))))))))) ?_
                · intro ρ y W hw hn hb hd
                  have E3 : ρ (.tmp 3) = .int .i64 ((m + 1 : Nat) : Int) := (hn (.tmp 3) rfl).trans rfl
                  refine asked_val (.int .i64 ((m + 1 : Nat) : Int)) (want_free rfl) (run_move (.inl rfl) E3) rfl
                · intro ρ y W hw hn hb hd
                  have E24 := hw 24 0 rfl
                  have h0 : y 0 = .int .i64 ((m + 1 : Nat) : Int) := hd 0 rfl
                  refine asked_val (.bool true) (want_free rfl) (run_bin rfl (E24.trans h0) (hn (.const _) trivial) (by simp [go_sem])) rfl
                · intro ρ y W hw hn hb hd
                  have E25 := hw 25 1 rfl
                  have h1 : y 1 = .bool true := hd 1 rfl
                  refine asked_val (.bool true) (want_free rfl) (run_move (.inl rfl) (E25.trans h1)) rfl
                · intro ρ y W hw hn hb hd
                  have E0 : ρ (.tmp 0) = .slice (some ⟨b, off, none⟩) l.length c := (hn (.tmp 0) rfl).trans rfl
                  refine asked_val (.slice (some ⟨b, off, none⟩) l.length c) (want_at 2 26 true true rfl rfl ((hw 26 2 rfl).trans (hd 2 rfl))) (run_move (.inl rfl) E0) rfl
                · intro ρ y W hw hn hb hd
                  have E3 : ρ (.tmp 3) = .int .i64 ((m + 1 : Nat) : Int) := (hn (.tmp 3) rfl).trans rfl
                  refine asked_val (.int .i64 ((m + 1 : Nat) : Int)) (want_at 2 26 true true rfl rfl ((hw 26 2 rfl).trans (hd 2 rfl))) (run_move (.inl rfl) E3) rfl
                · intro ρ y W hw hn hb hd
                  have E28 := hw 28 4 rfl
                  have h4 : y 4 = .int .i64 ((m + 1 : Nat) : Int) := hd 4 rfl
                  refine asked_val (.int .i64 (m : Int)) (want_at 2 26 true true rfl rfl ((hw 26 2 rfl).trans (hd 2 rfl))) (run_bin rfl (E28.trans h4) (hn (.const _) trivial) (by simp [go_sem, hm1, hm2])) rfl
                · intro ρ y W hw hn hb hd
                  have E27 := hw 27 3 rfl
                  have h3 : y 3 = .slice (some ⟨b, off, none⟩) l.length c := hd 3 rfl
                  have E29 := hw 29 5 rfl
                  have h5 : y 5 = .int .i64 (m : Int) := hd 5 rfl
                  refine asked_val (.pointer (some ⟨b, off + m * 7, none⟩)) (want_at 2 26 true true rfl rfl ((hw 26 2 rfl).trans (hd 2 rfl))) (by simp [execOp, go_sem, E27, h3, E29, h5, hml]) rfl
                · intro ρ y W hw hn hb hd
                  have E30 := hw 30 6 rfl
                  have h6 : y 6 = .pointer (some ⟨b, off + m * 7, none⟩) := hd 6 rfl
                  refine asked_val (.pointer (some ⟨b, off + m * 7 + 1, none⟩)) (want_at 2 26 true true rfl rfl ((hw 26 2 rfl).trans (hd 2 rfl))) (by simp [execOp, go_sem, E30, h6]) rfl
                · intro ρ y W hw hn hb hd
                  have E31 := hw 31 7 rfl
                  have h7 : y 7 = .pointer (some ⟨b, off + m * 7 + 1, none⟩) := hd 7 rfl
                  have hc0 := (hPm.below hb).cells.2.1
                  refine asked_val (.int .i64 A0.en) (want_at 2 26 true true rfl rfl ((hw 26 2 rfl).trans (hd 2 rfl))) (by simp [execOp, go_sem, E31, h7, hc0]) rfl
                · intro ρ y W hw hn hb hd
                  have E4 : ρ (.tmp 4) = .pointer (some ⟨gx, 0, none⟩) := (hn (.tmp 4) rfl).trans rfl
                  refine asked_val (.pointer (some ⟨gx, 0, none⟩)) (want_at 2 26 true true rfl rfl ((hw 26 2 rfl).trans (hd 2 rfl))) (by simp [execOp, go_sem, E4]) rfl
                · intro ρ y W hw hn hb hd
                  have E33 := hw 33 9 rfl
                  have h9 : y 9 = .pointer (some ⟨gx, 0, none⟩) := hd 9 rfl
                  have hc0 := (hx2.ext hb).cell 0
                  simp at hc0
                  refine asked_val (.int .i64 A1.fr) (want_at 2 26 true true rfl rfl ((hw 26 2 rfl).trans (hd 2 rfl))) (by simp [execOp, go_sem, E33, h9, hc0]) rfl
                · intro ρ y W hw hn hb hd
                  have E32 := hw 32 8 rfl
                  have h8 : y 8 = .int .i64 A0.en := hd 8 rfl
                  have E34 := hw 34 10 rfl
                  have h10 : y 10 = .int .i64 A1.fr := hd 10 rfl
                  refine asked_val (.bool false) (want_at 2 26 true true rfl rfl ((hw 26 2 rfl).trans (hd 2 rfl))) (run_bin rfl (E32.trans h8) (E34.trans h10) (by simp [go_sem, hov])) rfl
                · intro ρ y W hw hn hb hd
                  have E35 := hw 35 11 rfl
                  have h11 : y 11 = .bool false := hd 11 rfl
                  refine asked_val (.bool false) (want_at 2 26 true true rfl rfl ((hw 26 2 rfl).trans (hd 2 rfl))) (run_move (.inl rfl) (E35.trans h11)) rfl
                · intro ρ y W hw hn hb hd
                  have E0 : ρ (.tmp 0) = .slice (some ⟨b, off, none⟩) l.length c := (hn (.tmp 0) rfl).trans rfl
                  refine asked_val (.slice (some ⟨b, off, none⟩) l.length c) (want_at 12 36 false false rfl rfl ((hw 36 12 rfl).trans (hd 12 rfl))) (run_move (.inl rfl) E0) rfl
                · intro ρ y W hw hn hb hd
                  have E3 : ρ (.tmp 3) = .int .i64 ((m + 1 : Nat) : Int) := (hn (.tmp 3) rfl).trans rfl
                  refine asked_val (.int .i64 ((m + 1 : Nat) : Int)) (want_at 12 36 false false rfl rfl ((hw 36 12 rfl).trans (hd 12 rfl))) (run_move (.inl rfl) E3) rfl
                · intro ρ y W hw hn hb hd
                  have E38 := hw 38 14 rfl
                  have h14 : y 14 = .int .i64 ((m + 1 : Nat) : Int) := hd 14 rfl
                  refine asked_val (.int .i64 (m : Int)) (want_at 12 36 false false rfl rfl ((hw 36 12 rfl).trans (hd 12 rfl))) (run_bin rfl (E38.trans h14) (hn (.const _) trivial) (by simp [go_sem, hm1, hm2])) rfl
                · intro ρ y W hw hn hb hd
                  have E3 : ρ (.tmp 3) = .int .i64 ((m + 1 : Nat) : Int) := (hn (.tmp 3) rfl).trans rfl
                  refine asked_val (.int .i64 ((m + 1 : Nat) : Int)) (want_at 12 36 false false rfl rfl ((hw 36 12 rfl).trans (hd 12 rfl))) (run_move (.inl rfl) E3) rfl
                · intro ρ y W hw hn hb hd
                  have E40 := hw 40 16 rfl
                  have h16 : y 16 = .int .i64 ((m + 1 : Nat) : Int) := hd 16 rfl
                  refine asked_val (.int .i64 ((m : Int) + 2)) (want_at 12 36 false false rfl rfl ((hw 36 12 rfl).trans (hd 12 rfl))) (run_bin rfl (E40.trans h16) (hn (.const _) trivial) (by simp [go_sem, hm3, hm4])) rfl
                · intro ρ y W hw hn hb hd
                  have E37 := hw 37 13 rfl
                  have h13 : y 13 = .slice (some ⟨b, off, none⟩) l.length c := hd 13 rfl
                  have E39 := hw 39 15 rfl
                  have h15 : y 15 = .int .i64 (m : Int) := hd 15 rfl
                  have E41 := hw 41 17 rfl
                  have h17 : y 17 = .int .i64 ((m : Int) + 2) := hd 17 rfl
                  refine asked_val (.slice (some ⟨b, off + m * 7, none⟩) 2 (c - m)) (want_at 12 36 false false rfl rfl ((hw 36 12 rfl).trans (hd 12 rfl))) (run_slice_two rfl (E37.trans h13) (E39.trans h15) (E41.trans h17) Try.underlying64 area_size hlt hlc) rfl
                · intro ρ y W hw hn hb hd
                  have E42 := hw 42 18 rfl
                  have h18 : y 18 = .slice (some ⟨b, off + m * 7, none⟩) 2 (c - m) := hd 18 rfl
                  have EF : ∀ f, ρ (.func f) = .func (.func f) #[] #[] := fun f => hn (.func f) trivial
                  refine asked_call _ _ (want_at 12 36 false false rfl rfl ((hw 36 12 rfl).trans (hd 12 rfl))) (run_call rfl (EF _) Try.func53 (by kernel_rfl) (by kernel_rfl) (by simp only [List.map_toArray, List.map_cons, List.map_nil, E42, h18, EF]; rfl)) ?_
                  refine (ones_any [A0, A1] _ (c - m) W (hT.below (below_next hbel2 hb)) (by simp) hpr).mono ?_
                  rintro r w1 ⟨rfl, hb1⟩
                  exact ⟨_, rfl, hb1, rfl⟩
                · intro ρ y W hw hn hb hd
                  have E43 := hw 43 19 rfl
                  have h19 : y 19 = .agg (fC (onesF [A0, A1])) := hd 19 rfl
                  have EF : ∀ f, ρ (.func f) = .func (.func f) #[] #[] := fun f => hn (.func f) trivial
                  refine asked_call _ _ (want_at 12 36 false false rfl rfl ((hw 36 12 rfl).trans (hd 12 rfl))) (run_call rfl (EF _) Try.func70 (by kernel_rfl) (by kernel_rfl) (by simp only [List.map_toArray, List.map_cons, List.map_nil, E43, h19, EF]; rfl)) ?_
                  refine (areas_any (onesF [A0, A1]) W hpo).mono ?_
                  rintro r w1 ⟨v1, rfl, ho, hb1⟩
                  exact ⟨v1, rfl, hb1, ho.mono (Nat.le_trans hbel2.size hb.size)⟩
                · intro ρ y W hw hn hb hd
                  have E44 := hw 44 20 rfl
                  have h20 := hd 20 rfl
                  obtain ⟨a20, c20, h20v, _⟩ := Own.rd h20
                  refine asked_val (.int .i64 (2)) (want_at 12 36 false false rfl rfl ((hw 36 12 rfl).trans (hd 12 rfl))) (by simp [execOp, go_sem, E44, h20v, hpl]) rfl
                · intro ρ y W hw hn hb hd
                  have E45 := hw 45 21 rfl
                  have h21 : y 21 = .int .i64 (2) := hd 21 rfl
                  refine asked_val (.bool false) (want_at 12 36 false false rfl rfl ((hw 36 12 rfl).trans (hd 12 rfl))) (run_bin rfl (E45.trans h21) (hn (.const _) trivial) (by simp [go_sem])) rfl
                · intro ρ y W hw hn hb hd
                  have E36 := hw 36 12 rfl
                  have h12 : y 12 = .bool false := hd 12 rfl
                  have E46 := hw 46 22 rfl
                  have h22 : y 22 = .bool false := hd 22 rfl
                  refine asked_val (.bool false) (want_at 2 26 true true rfl rfl ((hw 26 2 rfl).trans (hd 2 rfl))) (run_pick rfl (E36.trans h12) (by first | simpa using (E46.trans h22) | exact (hn (.const _) trivial).trans rfl)) rfl
                · intro ρ y W hw hn hb hd
                  have E26 := hw 26 2 rfl
                  have h2 : y 2 = .bool true := hd 2 rfl
                  have E47 := hw 47 23 rfl
                  have h23 : y 23 = .bool false := hd 23 rfl
                  refine asked_val (.bool false) (want_free rfl) (run_pick rfl (E26.trans h2) (by first | simpa using (E47.trans h23) | exact (hn (.const _) trivial).trans rfl)) rfl
                intro y WA hbWA hRWA
                have hy0 : y 0 = .int .i64 ((m + 1 : Nat) : Int) := hRWA 0 (by decide)
                have hy1 : y 1 = .bool true := hRWA 1 (by decide)
                have hy2 : y 2 = .bool true := hRWA 2 (by decide)
                have hy3 : y 3 = .slice (some ⟨b, off, none⟩) l.length c := hRWA 3 (by decide)
                have hy4 : y 4 = .int .i64 ((m + 1 : Nat) : Int) := hRWA 4 (by decide)
                have hy5 : y 5 = .int .i64 (m : Int) := hRWA 5 (by decide)
                have hy6 : y 6 = .pointer (some ⟨b, off + m * 7, none⟩) := hRWA 6 (by decide)
                have hy7 : y 7 = .pointer (some ⟨b, off + m * 7 + 1, none⟩) := hRWA 7 (by decide)
                have hy8 : y 8 = .int .i64 A0.en := hRWA 8 (by decide)
                have hy9 : y 9 = .pointer (some ⟨gx, 0, none⟩) := hRWA 9 (by decide)
                have hy10 : y 10 = .int .i64 A1.fr := hRWA 10 (by decide)
                have hy11 : y 11 = .bool false := hRWA 11 (by decide)
                have hy12 : y 12 = .bool false := hRWA 12 (by decide)
                have hy13 : y 13 = .slice (some ⟨b, off, none⟩) l.length c := hRWA 13 (by decide)
                have hy14 : y 14 = .int .i64 ((m + 1 : Nat) : Int) := hRWA 14 (by decide)
                have hy15 : y 15 = .int .i64 (m : Int) := hRWA 15 (by decide)
                have hy16 : y 16 = .int .i64 ((m + 1 : Nat) : Int) := hRWA 16 (by decide)
                have hy17 : y 17 = .int .i64 ((m : Int) + 2) := hRWA 17 (by decide)
                have hy18 : y 18 = .slice (some ⟨b, off + m * 7, none⟩) 2 (c - m) := hRWA 18 (by decide)
                have hy19 : y 19 = .agg (fC (onesF [A0, A1])) := hRWA 19 (by decide)
                have hy21 : y 21 = .int .i64 (2) := hRWA 21 (by decide)
                have hy22 : y 22 = .bool false := hRWA 22 (by decide)
                have hy23 : y 23 = .bool false := hRWA 23 (by decide)
                have hy24 : y 24 = .bool false := hRWA 24 (by decide)
                have hy20 : ((ownR w.heap.size 66 7 (toA (onesF [A0, A1]) 64).length ((toA (onesF [A0, A1]) 64).flatMap arL))).r (y 20) WA := hRWA 20 (by decide)
                clear hRWA
                simp only [lay, Nat.reduceAdd, Nat.reduceLT, decide_true, decide_false, if_true, Bool.false_eq_true, if_false, List.setIfInBounds_toArray, List.set_cons_zero, List.set_cons_succ, List.drop_succ_cons, List.drop_zero, List.drop_nil, hy0, hy1, hy2, hy3, hy4, hy5, hy6, hy7, hy8, hy9, hy10, hy11, hy12, hy13, hy14, hy15, hy16, hy17, hy18, hy19, hy21, hy22, hy23, hy24]
                clear hy0 hy1 hy2 hy3 hy4 hy5 hy6 hy7 hy8 hy9 hy10 hy11 hy12 hy13 hy14 hy15 hy16 hy17 hy18 hy19 hy21 hy22 hy23 hy24
                have hbel := below_next hbel2 hbWA
                have hres := hres2.ext hbWA
                clear hbel2 hres2 hm1 hm2 hm3 hm4 hpl
                go_wp2
                go_roundw
                case rel => exact ⟨m + 1 + 1, by omega, by go_num, hbel, hres, hup.out, hnx⟩
                case measure => simp [intOf]; omega
              · have hpl : (toA (onesF [A0, A1]) 64).length = 1 := by rw [hpl0, hj]; rfl
                have hz : Hid (wrongA l = (2, ((m + 1 : Nat) : Int))) := Lib.hid (by rw [hst.out]; exact wrong_stop hlt (by rw [hA1]; exact he'.out) (by rw [hA1, hbp.out, hj, Bool.or_true]))
                clear hpl0 hs
                refine wp_grow 25 [isV (.int .i64 ((m + 1 : Nat) : Int)), isV (.bool true), isV (.bool true), isV (.slice (some ⟨b, off, none⟩) l.length c), isV (.int .i64 ((m + 1 : Nat) : Int)), isV (.int .i64 (m : Int)), isV (.pointer (some ⟨b, off + m * 7, none⟩)), isV (.pointer (some ⟨b, off + m * 7 + 1, none⟩)), isV (.int .i64 A0.en), isV (.pointer (some ⟨gx, 0, none⟩)), isV (.int .i64 A1.fr), isV (.bool false), isV (.bool false), isV (.slice (some ⟨b, off, none⟩) l.length c), isV (.int .i64 ((m + 1 : Nat) : Int)), isV (.int .i64 (m : Int)), isV (.int .i64 ((m + 1 : Nat) : Int)), isV (.int .i64 ((m : Int) + 2)), isV (.slice (some ⟨b, off + m * 7, none⟩) 2 (c - m)), isV (.agg (fC (onesF [A0, A1]))), (ownR w.heap.size 66 7 (toA (onesF [A0, A1]) 64).length ((toA (onesF [A0, A1]) 64).flatMap arL)), isV (.int .i64 (1)), isV (.bool true), isV (.bool true), isV (.bool true)] (by kernel_rfl) (by kernel_rfl) (by kernel_rfl) (by decide) _ rfl (by kernel_rfl) (all_cons ?_ (all_cons ?_ (all_cons ?_ (all_cons ?_ (all_cons ?_ (all_cons ?_ (all_cons ?_ (all_cons ?_ (all_cons ?_ (all_cons ?_ (all_cons ?_ (all_cons ?_ (all_cons ?_ (all_cons ?_ (all_cons ?_ (all_cons ?_ (all_cons ?_ (all_cons ?_ (all_cons ?_ (all_cons ?_ (all_cons ?_ (all_cons ?_ (all_cons ?_ (all_cons ?_ (all_cons ?_ (all_nil)))))))))))))))))))))))))) ?_
                · intro ρ y W hw hn hb hd
                  have E3 : ρ (.tmp 3) = .int .i64 ((m + 1 : Nat) : Int) := (hn (.tmp 3) rfl).trans rfl
                  refine asked_val (.int .i64 ((m + 1 : Nat) : Int)) (want_free rfl) (run_move (.inl rfl) E3) rfl
                · intro ρ y W hw hn hb hd
                  have E24 := hw 24 0 rfl
                  have h0 : y 0 = .int .i64 ((m + 1 : Nat) : Int) := hd 0 rfl
                  refine asked_val (.bool true) (want_free rfl) (run_bin rfl (E24.trans h0) (hn (.const _) trivial) (by simp [go_sem])) rfl
                · intro ρ y W hw hn hb hd
                  have E25 := hw 25 1 rfl
                  have h1 : y 1 = .bool true := hd 1 rfl
                  refine asked_val (.bool true) (want_free rfl) (run_move (.inl rfl) (E25.trans h1)) rfl
                · intro ρ y W hw hn hb hd
                  have E0 : ρ (.tmp 0) = .slice (some ⟨b, off, none⟩) l.length c := (hn (.tmp 0) rfl).trans rfl
                  refine asked_val (.slice (some ⟨b, off, none⟩) l.length c) (want_at 2 26 true true rfl rfl ((hw 26 2 rfl).trans (hd 2 rfl))) (run_move (.inl rfl) E0) rfl
                · intro ρ y W hw hn hb hd
                  have E3 : ρ (.tmp 3) = .int .i64 ((m + 1 : Nat) : Int) := (hn (.tmp 3) rfl).trans rfl
                  refine asked_val (.int .i64 ((m + 1 : Nat) : Int)) (want_at 2 26 true true rfl rfl ((hw 26 2 rfl).trans (hd 2 rfl))) (run_move (.inl rfl) E3) rfl
                · intro ρ y W hw hn hb hd
                  have E28 := hw 28 4 rfl
                  have h4 : y 4 = .int .i64 ((m + 1 : Nat) : Int) := hd 4 rfl
                  refine asked_val (.int .i64 (m : Int)) (want_at 2 26 true true rfl rfl ((hw 26 2 rfl).trans (hd 2 rfl))) (run_bin rfl (E28.trans h4) (hn (.const _) trivial) (by simp [go_sem, hm1, hm2])) rfl
                · intro ρ y W hw hn hb hd
                  have E27 := hw 27 3 rfl
                  have h3 : y 3 = .slice (some ⟨b, off, none⟩) l.length c := hd 3 rfl
                  have E29 := hw 29 5 rfl
                  have h5 : y 5 = .int .i64 (m : Int) := hd 5 rfl
                  refine asked_val (.pointer (some ⟨b, off + m * 7, none⟩)) (want_at 2 26 true true rfl rfl ((hw 26 2 rfl).trans (hd 2 rfl))) (by simp [execOp, go_sem, E27, h3, E29, h5, hml]) rfl
                · intro ρ y W hw hn hb hd
                  have E30 := hw 30 6 rfl
                  have h6 : y 6 = .pointer (some ⟨b, off + m * 7, none⟩) := hd 6 rfl
                  refine asked_val (.pointer (some ⟨b, off + m * 7 + 1, none⟩)) (want_at 2 26 true true rfl rfl ((hw 26 2 rfl).trans (hd 2 rfl))) (by simp [execOp, go_sem, E30, h6]) rfl
                · intro ρ y W hw hn hb hd
                  have E31 := hw 31 7 rfl
                  have h7 : y 7 = .pointer (some ⟨b, off + m * 7 + 1, none⟩) := hd 7 rfl
                  have hc0 := (hPm.below hb).cells.2.1
                  refine asked_val (.int .i64 A0.en) (want_at 2 26 true true rfl rfl ((hw 26 2 rfl).trans (hd 2 rfl))) (by simp [execOp, go_sem, E31, h7, hc0]) rfl
                · intro ρ y W hw hn hb hd
                  have E4 : ρ (.tmp 4) = .pointer (some ⟨gx, 0, none⟩) := (hn (.tmp 4) rfl).trans rfl
                  refine asked_val (.pointer (some ⟨gx, 0, none⟩)) (want_at 2 26 true true rfl rfl ((hw 26 2 rfl).trans (hd 2 rfl))) (by simp [execOp, go_sem, E4]) rfl
                · intro ρ y W hw hn hb hd
                  have E33 := hw 33 9 rfl
                  have h9 : y 9 = .pointer (some ⟨gx, 0, none⟩) := hd 9 rfl
                  have hc0 := (hx2.ext hb).cell 0
                  simp at hc0
                  refine asked_val (.int .i64 A1.fr) (want_at 2 26 true true rfl rfl ((hw 26 2 rfl).trans (hd 2 rfl))) (by simp [execOp, go_sem, E33, h9, hc0]) rfl
                · intro ρ y W hw hn hb hd
                  have E32 := hw 32 8 rfl
                  have h8 : y 8 = .int .i64 A0.en := hd 8 rfl
                  have E34 := hw 34 10 rfl
                  have h10 : y 10 = .int .i64 A1.fr := hd 10 rfl
                  refine asked_val (.bool false) (want_at 2 26 true true rfl rfl ((hw 26 2 rfl).trans (hd 2 rfl))) (run_bin rfl (E32.trans h8) (E34.trans h10) (by simp [go_sem, hov])) rfl
                · intro ρ y W hw hn hb hd
                  have E35 := hw 35 11 rfl
                  have h11 : y 11 = .bool false := hd 11 rfl
                  refine asked_val (.bool false) (want_at 2 26 true true rfl rfl ((hw 26 2 rfl).trans (hd 2 rfl))) (run_move (.inl rfl) (E35.trans h11)) rfl
                · intro ρ y W hw hn hb hd
                  have E0 : ρ (.tmp 0) = .slice (some ⟨b, off, none⟩) l.length c := (hn (.tmp 0) rfl).trans rfl
                  refine asked_val (.slice (some ⟨b, off, none⟩) l.length c) (want_at 12 36 false false rfl rfl ((hw 36 12 rfl).trans (hd 12 rfl))) (run_move (.inl rfl) E0) rfl
                · intro ρ y W hw hn hb hd
                  have E3 : ρ (.tmp 3) = .int .i64 ((m + 1 : Nat) : Int) := (hn (.tmp 3) rfl).trans rfl
                  refine asked_val (.int .i64 ((m + 1 : Nat) : Int)) (want_at 12 36 false false rfl rfl ((hw 36 12 rfl).trans (hd 12 rfl))) (run_move (.inl rfl) E3) rfl
                · intro ρ y W hw hn hb hd
                  have E38 := hw 38 14 rfl
                  have h14 : y 14 = .int .i64 ((m + 1 : Nat) : Int) := hd 14 rfl
                  refine asked_val (.int .i64 (m : Int)) (want_at 12 36 false false rfl rfl ((hw 36 12 rfl).trans (hd 12 rfl))) (run_bin rfl (E38.trans h14) (hn (.const _) trivial) (by simp [go_sem, hm1, hm2])) rfl
                · intro ρ y W hw hn hb hd
                  have E3 : ρ (.tmp 3) = .int .i64 ((m + 1 : Nat) : Int) := (hn (.tmp 3) rfl).trans rfl
                  refine asked_val (.int .i64 ((m + 1 : Nat) : Int)) (want_at 12 36 false false rfl rfl ((hw 36 12 rfl).trans (hd 12 rfl))) (run_move (.inl rfl) E3) rfl
                · intro ρ y W hw hn hb hd
                  have E40 := hw 40 16 rfl
                  have h16 : y 16 = .int .i64 ((m + 1 : Nat) : Int) := hd 16 rfl
                  refine asked_val (.int .i64 ((m : Int) + 2)) (want_at 12 36 false false rfl rfl ((hw 36 12 rfl).trans (hd 12 rfl))) (run_bin rfl (E40.trans h16) (hn (.const _) trivial) (by simp [go_sem, hm3, hm4])) rfl
                · intro ρ y W hw hn hb hd
                  have E37 := hw 37 13 rfl
                  have h13 : y 13 = .slice (some ⟨b, off, none⟩) l.length c := hd 13 rfl
                  have E39 := hw 39 15 rfl
                  have h15 : y 15 = .int .i64 (m : Int) := hd 15 rfl
                  have E41 := hw 41 17 rfl
                  have h17 : y 17 = .int .i64 ((m : Int) + 2) := hd 17 rfl
                  refine asked_val (.slice (some ⟨b, off + m * 7, none⟩) 2 (c - m)) (want_at 12 36 false false rfl rfl ((hw 36 12 rfl).trans (hd 12 rfl))) (run_slice_two rfl (E37.trans h13) (E39.trans h15) (E41.trans h17) Try.underlying64 area_size hlt hlc) rfl
                · intro ρ y W hw hn hb hd
                  have E42 := hw 42 18 rfl
                  have h18 : y 18 = .slice (some ⟨b, off + m * 7, none⟩) 2 (c - m) := hd 18 rfl
                  have EF : ∀ f, ρ (.func f) = .func (.func f) #[] #[] := fun f => hn (.func f) trivial
                  refine asked_call _ _ (want_at 12 36 false false rfl rfl ((hw 36 12 rfl).trans (hd 12 rfl))) (run_call rfl (EF _) Try.func53 (by kernel_rfl) (by kernel_rfl) (by simp only [List.map_toArray, List.map_cons, List.map_nil, E42, h18, EF]; rfl)) ?_
                  refine (ones_any [A0, A1] _ (c - m) W (hT.below (below_next hbel2 hb)) (by simp) hpr).mono ?_
                  rintro r w1 ⟨rfl, hb1⟩
                  exact ⟨_, rfl, hb1, rfl⟩
                · intro ρ y W hw hn hb hd
                  have E43 := hw 43 19 rfl
                  have h19 : y 19 = .agg (fC (onesF [A0, A1])) := hd 19 rfl
                  have EF : ∀ f, ρ (.func f) = .func (.func f) #[] #[] := fun f => hn (.func f) trivial
                  refine asked_call _ _ (want_at 12 36 false false rfl rfl ((hw 36 12 rfl).trans (hd 12 rfl))) (run_call rfl (EF _) Try.func70 (by kernel_rfl) (by kernel_rfl) (by simp only [List.map_toArray, List.map_cons, List.map_nil, E43, h19, EF]; rfl)) ?_
                  refine (areas_any (onesF [A0, A1]) W hpo).mono ?_
                  rintro r w1 ⟨v1, rfl, ho, hb1⟩
                  exact ⟨v1, rfl, hb1, ho.mono (Nat.le_trans hbel2.size hb.size)⟩
                · intro ρ y W hw hn hb hd
                  have E44 := hw 44 20 rfl
                  have h20 := hd 20 rfl
                  obtain ⟨a20, c20, h20v, _⟩ := Own.rd h20
                  refine asked_val (.int .i64 (1)) (want_at 12 36 false false rfl rfl ((hw 36 12 rfl).trans (hd 12 rfl))) (by simp [execOp, go_sem, E44, h20v, hpl]) rfl
                · intro ρ y W hw hn hb hd
                  have E45 := hw 45 21 rfl
                  have h21 : y 21 = .int .i64 (1) := hd 21 rfl
                  refine asked_val (.bool true) (want_at 12 36 false false rfl rfl ((hw 36 12 rfl).trans (hd 12 rfl))) (run_bin rfl (E45.trans h21) (hn (.const _) trivial) (by simp [go_sem])) rfl
                · intro ρ y W hw hn hb hd
                  have E36 := hw 36 12 rfl
                  have h12 : y 12 = .bool false := hd 12 rfl
                  have E46 := hw 46 22 rfl
                  have h22 : y 22 = .bool true := hd 22 rfl
                  refine asked_val (.bool true) (want_at 2 26 true true rfl rfl ((hw 26 2 rfl).trans (hd 2 rfl))) (run_pick rfl (E36.trans h12) (by first | simpa using (E46.trans h22) | exact (hn (.const _) trivial).trans rfl)) rfl
                · intro ρ y W hw hn hb hd
                  have E26 := hw 26 2 rfl
                  have h2 : y 2 = .bool true := hd 2 rfl
                  have E47 := hw 47 23 rfl
                  have h23 : y 23 = .bool true := hd 23 rfl
                  refine asked_val (.bool true) (want_free rfl) (run_pick rfl (E26.trans h2) (by first | simpa using (E47.trans h23) | exact (hn (.const _) trivial).trans rfl)) rfl
                intro y WA hbWA hRWA
                have hy0 : y 0 = .int .i64 ((m + 1 : Nat) : Int) := hRWA 0 (by decide)
                have hy1 : y 1 = .bool true := hRWA 1 (by decide)
                have hy2 : y 2 = .bool true := hRWA 2 (by decide)
                have hy3 : y 3 = .slice (some ⟨b, off, none⟩) l.length c := hRWA 3 (by decide)
                have hy4 : y 4 = .int .i64 ((m + 1 : Nat) : Int) := hRWA 4 (by decide)
                have hy5 : y 5 = .int .i64 (m : Int) := hRWA 5 (by decide)
                have hy6 : y 6 = .pointer (some ⟨b, off + m * 7, none⟩) := hRWA 6 (by decide)
                have hy7 : y 7 = .pointer (some ⟨b, off + m * 7 + 1, none⟩) := hRWA 7 (by decide)
                have hy8 : y 8 = .int .i64 A0.en := hRWA 8 (by decide)
                have hy9 : y 9 = .pointer (some ⟨gx, 0, none⟩) := hRWA 9 (by decide)
                have hy10 : y 10 = .int .i64 A1.fr := hRWA 10 (by decide)
                have hy11 : y 11 = .bool false := hRWA 11 (by decide)
                have hy12 : y 12 = .bool false := hRWA 12 (by decide)
                have hy13 : y 13 = .slice (some ⟨b, off, none⟩) l.length c := hRWA 13 (by decide)
                have hy14 : y 14 = .int .i64 ((m + 1 : Nat) : Int) := hRWA 14 (by decide)
                have hy15 : y 15 = .int .i64 (m : Int) := hRWA 15 (by decide)
                have hy16 : y 16 = .int .i64 ((m + 1 : Nat) : Int) := hRWA 16 (by decide)
                have hy17 : y 17 = .int .i64 ((m : Int) + 2) := hRWA 17 (by decide)
                have hy18 : y 18 = .slice (some ⟨b, off + m * 7, none⟩) 2 (c - m) := hRWA 18 (by decide)
                have hy19 : y 19 = .agg (fC (onesF [A0, A1])) := hRWA 19 (by decide)
                have hy21 : y 21 = .int .i64 (1) := hRWA 21 (by decide)
                have hy22 : y 22 = .bool true := hRWA 22 (by decide)
                have hy23 : y 23 = .bool true := hRWA 23 (by decide)
                have hy24 : y 24 = .bool true := hRWA 24 (by decide)
                have hy20 : ((ownR w.heap.size 66 7 (toA (onesF [A0, A1]) 64).length ((toA (onesF [A0, A1]) 64).flatMap arL))).r (y 20) WA := hRWA 20 (by decide)
                clear hRWA
                simp only [lay, Nat.reduceAdd, Nat.reduceLT, decide_true, decide_false, if_true, Bool.false_eq_true, if_false, List.setIfInBounds_toArray, List.set_cons_zero, List.set_cons_succ, List.drop_succ_cons, List.drop_zero, List.drop_nil, hy0, hy1, hy2, hy3, hy4, hy5, hy6, hy7, hy8, hy9, hy10, hy11, hy12, hy13, hy14, hy15, hy16, hy17, hy18, hy19, hy21, hy22, hy23, hy24]
                clear hy0 hy1 hy2 hy3 hy4 hy5 hy6 hy7 hy8 hy9 hy10 hy11 hy12 hy13 hy14 hy15 hy16 hy17 hy18 hy19 hy21 hy22 hy23 hy24
                have hbel := below_next hbel2 hbWA
                have hres := hres2.ext hbWA
                clear hbel2 hres2
                go_wp2_with (refine wpList_stw rfl _ _ _ rfl w.heap.size #[.int .i64 (2), .int .i64 (((m + 1 : Nat) : Int))] rfl rfl _ _ hres rfl fau_size (fau_one _ _) ?_)
                intro w5 hr5 hgr5
                have hbel5 : Below w.heap.size w w5 := hbel.grown hgr5 hbel.size (fun k hk => by cases hk; exact Nat.le_refl _)
                go_wp2
                refine bodyPost_ret (v := .agg #[.int .i64 (2), .int .i64 (((m + 1 : Nat) : Int))]) (results_c Try.results44 _ _ w.heap.size _ _ _ rfl hr5 Try.underlying68 rfl fau_size) rfl ?_
                exact ⟨by rw [hz.out]; rfl, hbel5⟩
        · have hz : Hid (wrongA l = (areaE l[k], (k : Int))) := Lib.hid (by rw [hst.out]; exact wrong_bad hlt he)
          have he' : (areaE l[k] != 0) = true := by simpa using he
          have hbel := hbel2
          have hres := hres2
          clear he hbel2 hres2
          go_wp2_with (refine wpList_stw rfl _ _ _ rfl w.heap.size #[.int .i64 (areaE l[k]), .int .i64 (k)] rfl rfl _ _ hres rfl fau_size (fau_one _ _) ?_)
          intro w5 hr5 hgr5
          have hbel5 : Below w.heap.size w w5 := hbel.grown hgr5 hbel.size (fun k hk => by cases hk; exact Nat.le_refl _)
          go_wp2
          refine bodyPost_ret (v := .agg #[.int .i64 (areaE l[k]), .int .i64 (k)]) (results_c Try.results44 _ _ w.heap.size _ _ _ rfl hr5 Try.underlying68 rfl fau_size) rfl ?_
          exact ⟨by rw [hz.out]; rfl, hbel5⟩
      · have hz : Hid (wrongA l = (0, 0)) := Lib.hid (by rw [hst.out, List.drop_eq_nil_of_le (by omega)]; rfl)
        go_wp2_with (refine wpList_stw rfl _ _ _ rfl w.heap.size #[.int .i64 (0), .int .i64 (0)] rfl rfl _ _ hres rfl fau_size (fau_one _ _) ?_)
        intro w5 hr5 hgr5
        have hbel5 : Below w.heap.size w w5 := hbel.grown hgr5 hbel.size (fun k hk => by cases hk; exact Nat.le_refl _)
        go_wp2
        refine bodyPost_ret (v := .agg #[.int .i64 (0), .int .i64 (0)]) (results_c Try.results44 _ _ w.heap.size _ _ _ rfl hr5 Try.underlying68 rfl fau_size) rfl ?_
        exact ⟨by rw [hz.out]; rfl, hbel5⟩
end Go.Proofs.Ytmdnmknmniabeaa
