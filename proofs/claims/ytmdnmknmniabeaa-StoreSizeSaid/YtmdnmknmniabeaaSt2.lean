/- The document's WrongStore. -/
import Derived.Test.YtmdnmknmniabeaaSt
namespace Go.Proofs.Ytmdnmknmniabeaa
open Go.RowKit Go.Maps Pw
set_option linter.unusedSimpArgs false
set_option linter.unusedVariables false

def blL (b : Bool) : List Value := [.bool b]
theorem blL_len (b : Bool) : (blL b).length = 1 := rfl
theorem bool_info : (Try.prog.info? 4).map (fun i => (i.zero, i.size, i.bytes)) = some (some (.bool false), 1, 1) := by kernel_rfl
theorem bool_sz : (Try.prog.info? 4).map (·.size) = some 1 := by kernel_rfl
theorem one_bl (b : Bool) : ∀ u ∈ [Value.bool b], u.oneCell' = true := by intro u hu; cases List.mem_singleton.1 hu; rfl
/-- Which blocks are some page's. -/
def hadL (N : Nat) (seen : List Int) : List Bool := (List.range N).map fun i : Nat => decide ((i : Int) ∈ seen)
theorem hadL_len (N : Nat) (seen : List Int) : (hadL N seen).length = N := by simp [hadL]
theorem hadL_nil (N : Nat) : hadL N [] = List.replicate N false := by
  apply List.ext_getElem?
  intro i
  unfold hadL
  by_cases hi : i < N
  · simp [hi, List.getElem?_replicate]
  · rw [List.getElem?_eq_none (by simp; omega), List.getElem?_eq_none (by simp; omega)]
theorem hadL_at (N : Nat) (seen : List Int) (i : Nat) (hi : i < N) : (hadL N seen)[i]? = some (decide ((i : Int) ∈ seen)) := by simp [hadL, hi]
theorem hadL_neg (N : Nat) (seen : List Int) (x : Int) (hx : x < 0) : hadL N (seen ++ [x]) = hadL N seen := by
  unfold hadL
  apply List.map_congr_left
  intro i _
  have : ¬ (i : Int) = x := by omega
  simp [this]
theorem hadL_set (N : Nat) (seen : List Int) (X : Nat) (hX : X < N) : (hadL N seen).set X true = hadL N (seen ++ [(X : Int)]) := by
  apply List.ext_getElem?
  intro i
  by_cases hi : i < N
  · rw [hadL_at N _ i hi, List.getElem?_set]
    by_cases e : X = i
    · subst e
      rw [if_pos rfl, if_pos (by rw [hadL_len]; exact hi)]
      simp
    · rw [if_neg e, hadL_at N _ i hi]
      have : ¬ (i : Int) = (X : Int) := by omega
      simp [this]
  · rw [List.getElem?_eq_none (by simp [hadL_len]; omega), List.getElem?_eq_none (by simp [hadL_len]; omega)]
theorem bl_at {w : World} {b off : Nat} {l : List Bool} (h : RdV w (some ⟨b, off, none⟩) (l.flatMap blL)) (i : Nat) (x : Bool) (hx : l[i]? = some x) : w.cell? ⟨b, off + i, none⟩ = some (.bool x) := by
  have hi := (List.getElem?_eq_some_iff.1 hx).1
  obtain ⟨b', off', e, hc⟩ := h.elem blL_len (by decide) i hi
  cases e
  have := hc 0 (.bool x) (by rw [(List.getElem?_eq_some_iff.1 hx).2]; rfl)
  simpa using this
set_option maxHeartbeats 4000000 in
set_option maxRecDepth 100000 in
theorem rswrong_any (ps : List PF) (k : Int) (a : Option Addr) (c : Nat) (w : World) (h : FsR w a c ps) (hk64 : -9223372036854775808 ≤ k ∧ k ≤ 9223372036854775807) :
    Calls Try.prog 30 #[.agg (stC a ps.length c k)] w fun r w' => r = .returned (.int .i64 (wrongSt (stOf ps k))) ∧ Below w.heap.size w w' := by
  have hlc := Nat.le_trans h.le h.mx
  unfold maxLen at hlc
  unfold stC
  go_enter Try.func30, Try.ntmps30
  go_upto_region 1 with (fail)
  refine abs1 (fun W => Code.wp _ _ _ _ W) fun W0 hb0 hx0 hs0 => ?_
  clear hs0
  by_cases h4 : 5 < ps.length ∨ k < 0 ∨ 80 < k
  · have hfin : Hid (wrongSt (stOf ps k) = 4) := Lib.hid (by unfold wrongSt stOf; rw [if_pos (by simpa using h4)])
    have hcx := hx0.cell
    have h4' : 5 < ps.length ∨ (¬ 5 < ps.length ∧ k < 0) ∨ (¬ 5 < ps.length ∧ ¬ k < 0 ∧ 80 < k) := by omega
    clear h4
    rcases h4' with g | ⟨g, g2⟩ | ⟨g, g2, g3⟩
    all_goals
      go_wp2
      go_ret
      exact ⟨ret_int hfin.out.symm, hb0⟩
  · have hres : Hid (wrongSt (stOf ps k) = scanF k (((ps.take 0).map PF.fi).flatMap Fi.b) ((ps.drop 0).map PF.fi)) := Lib.hid (by unfold wrongSt stOf; rw [if_neg (by simpa using h4)]; rfl)
    have g1 : ¬ 5 < ps.length := by omega
    have g2 : ¬ k < 0 := by omega
    have g3 : ¬ 80 < k := by omega
    have hcx := hx0.cell
    clear h4
    obtain ⟨N, hN⟩ : ∃ N : Nat, k = (N : Int) := ⟨k.toNat, by omega⟩
    subst hN
    have hN80 : N ≤ 80 := by omega
    go_upto_region 4 with (refine wpList_mk _ rfl _ _ _ rfl blL 4 _ 1 1 false blL_len (by decide) Try.underlying92 bool_info rfl .i64 .i64 N N N rfl rfl rfl rfl (by omega) (by unfold maxLen; omega) ?_)
    clear hcx
    intro W1 hM1 hgr1
    have hb1 : Below W0.heap.size W0 W1 := grown_below hgr1
    have hbel1 := below_next hb0 hb1
    have hx1 := hx0.ext hb1
    have hM1' : Own W1 w.heap.size 4 1 (.slice (some ⟨W0.heap.size, 0, none⟩) N N) N ((hadL N (((ps.take 0).map PF.fi).flatMap Fi.b)).flatMap blL) := by simp only [List.take_zero, List.map_nil, List.flatMap_nil]; rw [hadL_nil]; exact hM1.mono hb0.size
    obtain ⟨gm, hGM⟩ : ∃ g, g = W0.heap.size := ⟨_, rfl⟩
    rw [← hGM] at hM1' ⊢
    clear hGM hb0 hx0 hb1 hM1 hgr1
    have hcx := hx1.cell
    go_upto_region 5 with (fail)
    clear hcx
    go_loopw [28] (fun i wr => ∃ (q : Nat), q ≤ ps.length ∧ i = .int .i64 q ∧ Below w.heap.size w wr ∧ Blk wr w.heap.size #[.slice a ps.length c, .int .i64 (N : Int)] 47 ∧ Own wr w.heap.size 4 1 (.slice (some ⟨gm, 0, none⟩) N N) N ((hadL N (((ps.take q).map PF.fi).flatMap Fi.b)).flatMap blL) ∧ Hid (wrongSt (stOf ps N) = scanF N (((ps.take q).map PF.fi).flatMap Fi.b) ((ps.drop q).map PF.fi))) (fun i _ => ps.length - (intOf i).toNat)
    case atStart => exact ⟨0, Nat.zero_le _, rfl, hbel1, hx1, hM1', hres⟩
    case round =>
      clear hbel1 hx1 hM1' hres
      obtain ⟨q, hq, rfl, hbr, hx, hM, hres⟩ := hrel
      by_cases hlt : q < ps.length
      · obtain ⟨b, off, p, rfl, hp, c0, c1⟩ := pf_at (h.below hbr).rd q hlt
        have hgw := h.good p (List.mem_of_getElem? hp)
        have hgood := hgw.below hbr
        have hdr := drop_at hp
        have htk := take_at hp
        rw [hdr, List.map_cons] at hres
        have htk' := Lib.hid htk
        clear hdr htk
        generalize hseen : ((ps.take q).map PF.fi).flatMap Fi.b = seen at hM hres
        have hseen' := Lib.hid hseen
        clear hseen hp
        go_wp2_with (refine wpList_stn rfl _ _ _ rfl (pfC p) rfl rfl rfl file_size (pfC_one _) ?_)
        intro w2 hb2 hf2
        have hbel2 := below_next hbr hb2
        have hx2 := hx.ext hb2
        have hM2 := hM.below hb2
        have hgood2 := hgood.below hb2
        clear hbr hx hM hgood hb2 c0 c1
        have hcf := hf2.cell
        have f0 : (pfC p)[0]? = some (.int .i64 p.n) := rfl
        have f1 : (pfC p)[1]? = some (.slice p.a p.l.length p.c) := rfl
        by_cases hn96 : p.n < 0 ∨ 96 < p.n
        · have hfin : Hid (wrongSt (stOf ps N) = 3) := Lib.hid (by rw [hres.out, scanF_cons, if_pos hn96])
          have hn' : p.n < 0 ∨ (¬ p.n < 0 ∧ 96 < p.n) := by omega
          clear hn96
          rcases hn' with g | ⟨g, g2⟩
          all_goals
            go_wp2
            go_ret
            exact ⟨ret_int hfin.out.symm, hbel2⟩
        · have hres2 : Hid (wrongSt (stOf ps N) = if (p.l.length : Int) ≠ countS p.n then 2 else if scanB N seen p.l ≠ 0 then scanB N seen p.l else scanF N (seen ++ p.l) ((ps.drop (q + 1)).map PF.fi)) := Lib.hid (by rw [hres.out, scanF_cons, if_neg hn96])
          have g4 : ¬ p.n < 0 := by omega
          have g5 : ¬ 96 < p.n := by omega
          clear hn96 hres
          by_cases hcnt : (p.l.length : Int) = countS p.n
          · have hres3 : Hid (wrongSt (stOf ps N) = if scanB N seen p.l ≠ 0 then scanB N seen p.l else scanF N (seen ++ p.l) ((ps.drop (q + 1)).map PF.fi)) := Lib.hid (by rw [hres2.out, if_neg (fun hh => hh hcnt)])
            have hl12 : p.l.length ≤ 12 := by
              have := countS_le (n := p.n) (by omega)
              omega
            have hcc := Lib.hid hcnt
            clear hres2 hcnt
            go_upto_region 9 with (fail)
            refine wp_grow 7 [isV (.pointer (some ⟨wr.heap.size, 1, none⟩)), isV (.slice p.a p.l.length p.c), isV (.int .i64 (p.l.length : Int)), isV (.pointer (some ⟨wr.heap.size, 0, none⟩)), isV (.int .i64 p.n), isV (.int .i64 (countS p.n)), isV (.bool false)] (by kernel_rfl) (by kernel_rfl) (by kernel_rfl) (by decide) _ rfl (by kernel_rfl) (all_cons ?_ (all_cons ?_ (all_cons ?_ (all_cons ?_ (all_cons ?_ (all_cons ?_ (all_cons ?_ (all_nil)))))))) ?_
            · intro ρ y W hw hn hb hd
              have E5 : ρ (.tmp 5) = .pointer (some ⟨wr.heap.size, 0, none⟩) := (hn (.tmp 5) rfl).trans rfl
              refine asked_val (.pointer (some ⟨wr.heap.size, 1, none⟩)) (want_free rfl) (by simp [execOp, go_sem, E5]) rfl
            · intro ρ y W hw hn hb hd
              have E40 := hw 40 0 rfl
              have h0 : y 0 = .pointer (some ⟨wr.heap.size, 1, none⟩) := hd 0 rfl
              refine asked_val (.slice p.a p.l.length p.c) (want_free rfl) (by simp [execOp, go_sem, E40, h0, (hf2.ext hb).cell, f1, Try.underlying36]) rfl
            · intro ρ y W hw hn hb hd
              have E41 := hw 41 1 rfl
              have h1 : y 1 = .slice p.a p.l.length p.c := hd 1 rfl
              refine asked_val (.int .i64 (p.l.length : Int)) (want_free rfl) (run_lenS rfl (E41.trans h1) Try.underlying36) rfl
            · intro ρ y W hw hn hb hd
              have E5 : ρ (.tmp 5) = .pointer (some ⟨wr.heap.size, 0, none⟩) := (hn (.tmp 5) rfl).trans rfl
              refine asked_val (.pointer (some ⟨wr.heap.size, 0, none⟩)) (want_free rfl) (by simp [execOp, go_sem, E5]) rfl
            · intro ρ y W hw hn hb hd
              have E43 := hw 43 3 rfl
              have h3 : y 3 = .pointer (some ⟨wr.heap.size, 0, none⟩) := hd 3 rfl
              refine asked_val (.int .i64 p.n) (want_free rfl) (by simp [execOp, go_sem, E43, h3, (hf2.ext hb).cell, f0]) rfl
            · intro ρ y W hw hn hb hd
              have E44 := hw 44 4 rfl
              have h4 : y 4 = .int .i64 p.n := hd 4 rfl
              have EF : ∀ f, ρ (.func f) = .func (.func f) #[] #[] := fun f => hn (.func f) trivial
              refine asked_call _ _ (want_free rfl) (run_call rfl (EF _) Try.func63 (by kernel_rfl) (by kernel_rfl) (by simp only [List.map_toArray, List.map_cons, List.map_nil, E44, h4, EF]; rfl)) ?_
              refine (rcount_any p.n W (by omega)).mono ?_
              rintro e w1 ⟨rfl, rfl⟩
              exact ⟨_, rfl, Below.refl _ _, rfl⟩
            · intro ρ y W hw hn hb hd
              have E42 := hw 42 2 rfl
              have h2 : y 2 = .int .i64 (p.l.length : Int) := hd 2 rfl
              have E45 := hw 45 5 rfl
              have h5 : y 5 = .int .i64 (countS p.n) := hd 5 rfl
              refine asked_val (.bool false) (want_free rfl) (run_bin rfl (E42.trans h2) (E45.trans h5) (by simp [go_sem, hcc.out])) rfl
            intro y WA hbWA hRWA
            have hy0 : y 0 = .pointer (some ⟨wr.heap.size, 1, none⟩) := hRWA 0 (by decide)
            have hy1 : y 1 = .slice p.a p.l.length p.c := hRWA 1 (by decide)
            have hy2 : y 2 = .int .i64 (p.l.length : Int) := hRWA 2 (by decide)
            have hy3 : y 3 = .pointer (some ⟨wr.heap.size, 0, none⟩) := hRWA 3 (by decide)
            have hy4 : y 4 = .int .i64 p.n := hRWA 4 (by decide)
            have hy5 : y 5 = .int .i64 (countS p.n) := hRWA 5 (by decide)
            have hy6 : y 6 = .bool false := hRWA 6 (by decide)
            clear hRWA
            simp only [lay, Nat.reduceAdd, Nat.reduceLT, decide_true, decide_false, if_true, Bool.false_eq_true, if_false, List.setIfInBounds_toArray, List.set_cons_zero, List.set_cons_succ, List.drop_succ_cons, List.drop_zero, List.drop_nil, hy0, hy1, hy2, hy3, hy4, hy5, hy6]
            clear hy0 hy1 hy2 hy3 hy4 hy5 hy6
            have hbelA := below_next hbel2 hbWA
            have hxA := hx2.ext hbWA
            have hMA := hM2.below hbWA
            have hfA := hf2.ext hbWA
            have hgA := hgood2.below hbWA
            clear hbel2 hx2 hM2 hf2 hgood2 hbWA hcf
            have hcf := hfA.cell
            have hB0 : Hid (scanB N seen p.l = scanB N (seen ++ p.l.take 0) (p.l.drop 0)) := Lib.hid (by simp)
            have hM0 : Own WA w.heap.size 4 1 (.slice (some ⟨gm, 0, none⟩) N N) N ((hadL N (seen ++ p.l.take 0)).flatMap blL) := by simpa using hMA
            have hle := hgA.le
            have hmx := hgA.mx
            have hrdp := hgA.rd
            unfold maxLen at hmx
            clear hMA hgA
            go_upto_region 12 with (fail)
            clear hcf f0 f1 hfA
            go_loopw [50] (fun i wr => ∃ (j : Nat), j ≤ p.l.length ∧ i = .int .i64 j ∧ Below w.heap.size w wr ∧ Blk wr w.heap.size #[.slice (some ⟨b, off, none⟩) ps.length c, .int .i64 (N : Int)] 47 ∧ Own wr w.heap.size 4 1 (.slice (some ⟨gm, 0, none⟩) N N) N ((hadL N (seen ++ p.l.take j)).flatMap blL) ∧ RdV wr p.a (p.l.map inV) ∧ Hid (scanB N seen p.l = scanB N (seen ++ p.l.take j) (p.l.drop j))) (fun i _ => p.l.length - (intOf i).toNat)
            case atStart => exact ⟨0, Nat.zero_le _, rfl, hbelA, hxA, hM0, hrdp, hB0⟩
            case round =>
              clear hbelA hxA hM0 hrdp hB0
              obtain ⟨j, hj, rfl, hbr, hx, hM, hrp, hB⟩ := hrel
              by_cases hjl : j < p.l.length
              · obtain ⟨x, hX⟩ : ∃ x, p.l[j]? = some x := ⟨p.l[j], List.getElem?_eq_getElem hjl⟩
                obtain ⟨b2, off2, hpa, hc⟩ := elem_at hrp j hjl
                rw [show p.l[j] = x from (List.getElem?_eq_some_iff.1 hX).2] at hc
                have hdr := drop_at hX
                have htk := take_at hX
                rw [hdr, scanB_cons] at hB
                rw [hpa]
                generalize hs2 : seen ++ p.l.take j = seen2 at hB hM
                have htk2 : Hid (seen ++ p.l.take (j + 1) = seen2 ++ [x]) := Lib.hid (by rw [htk, ← List.append_assoc, hs2])
                have hrp' := Lib.hid hrp
                have hpa' := Lib.hid hpa
                have hcx := hx.cell
                clear hX hdr htk hs2 hrp hpa
                have hjl' : (j : Int) < (p.l.length : Int) := by omega
                by_cases hr3 : x < -1 ∨ (N : Int) ≤ x
                · have hfin : Hid (wrongSt (stOf ps N) = 3) := Lib.hid (by rw [hres3.out, hB.out, if_pos hr3]; rfl)
                  have hr3' : x < -1 ∨ (¬ x < -1 ∧ (N : Int) ≤ x) := by omega
                  clear hr3
                  rcases hr3' with g6 | ⟨g6, g7⟩
                  all_goals
                    go_wp2
                    go_ret
                    exact ⟨ret_int hfin.out.symm, hbr⟩
                · have g6 : ¬ x < -1 := by omega
                  have g7 : ¬ (N : Int) ≤ x := by omega
                  have hB2 : Hid (scanB N seen p.l = if 0 ≤ x ∧ x ∈ seen2 then 7 else scanB N (seen2 ++ [x]) (p.l.drop (j + 1))) := Lib.hid (by rw [hB.out, if_neg hr3])
                  clear hB hr3
                  by_cases hx0 : x < 0
                  · have e1 : x = -1 := by omega
                    have hB3 : Hid (scanB N seen p.l = scanB N (seen ++ p.l.take (j + 1)) (p.l.drop (j + 1))) := Lib.hid (by rw [hB2.out, if_neg (by omega), htk2.out])
                    have hM3 : Own wr w.heap.size 4 1 (.slice (some ⟨gm, 0, none⟩) N N) N ((hadL N (seen ++ p.l.take (j + 1))).flatMap blL) := by rw [htk2.out, hadL_neg _ _ _ hx0]; exact hM
                    have hrp3 : RdV wr (some ⟨b2, off2, none⟩) (p.l.map inV) := by rw [← hpa'.out]; exact hrp'.out
                    clear hB2 hM
                    go_wp2
                    go_roundw
                    case rel => exact ⟨j + 1, by omega, by go_num, hbr, hx, hM3, hrp3, hB3⟩
                    case measure => simp [intOf]; omega
                  · obtain ⟨X, hXX⟩ : ∃ X : Nat, x = (X : Int) := ⟨x.toNat, by omega⟩
                    subst hXX
                    have hXN : X < N := by omega
                    have hXN' : (X : Int) < (N : Int) := by omega
                    obtain ⟨_, _, hve, _, _, _, hMr⟩ := hM.rd
                    simp only [Value.slice.injEq] at hve
                    obtain ⟨rfl, _, rfl⟩ := hve
                    have hcb := bl_at hMr X (decide ((X : Int) ∈ seen2)) (hadL_at N seen2 X hXN)
                    rw [Nat.zero_add] at hcb
                    clear hMr
                    by_cases h7 : (X : Int) ∈ seen2
                    · have hfin : Hid (wrongSt (stOf ps N) = 7) := Lib.hid (by rw [hres3.out, hB2.out, if_pos (show 0 ≤ (X : Int) ∧ (X : Int) ∈ seen2 from ⟨by omega, h7⟩)]; rfl)
                      rw [decide_eq_true h7] at hcb
                      clear h7 hB2
                      go_wp2
                      go_ret
                      exact ⟨ret_int hfin.out.symm, hbr⟩
                    · have hB3 : Hid (scanB N seen p.l = scanB N (seen ++ p.l.take (j + 1)) (p.l.drop (j + 1))) := Lib.hid (by rw [hB2.out, if_neg (fun hh => h7 hh.2), htk2.out])
                      rw [decide_eq_false h7] at hcb
                      clear h7 hB2
                      obtain ⟨g3, off3, cap3, cur3, hve, hBg3, hbg3, hfit3, hset3⟩ := own_putn blL_len (by decide) (hadL_len N seen2) hM X hXN
                      cases hve
                      go_wp2_with (refine wpList_stv rfl _ _ _ rfl gm X _ [.bool true] rfl rfl rfl cur3 4 hbg3 (by simpa using hfit3) bool_sz (one_bl true) ?_)
                      intro w6 hb6 hgr6
                      have hM6 := hset3 w6 true (by rw [Nat.zero_add, Nat.mul_one]; exact hb6)
                      rw [hadL_set _ _ _ hXN, ← htk2.out] at hM6
                      have hbel6 := hbr.grown hgr6 hbr.size (fun k hk => by cases hk; exact hBg3)
                      have hx6 := blk_keep hx hbg3 (by decide) hgr6
                      have hrp6 : RdV w6 (some ⟨b2, off2, none⟩) (p.l.map inV) := by
                        have h9 := hgw.rd.below hbel6
                        rw [hpa'.out] at h9
                        exact h9
                      clear hbr hx hM hgr6 hcx hc hset3 hbg3 hb6 hcb hfit3
                      go_wp2
                      go_roundw
                      case rel => exact ⟨j + 1, by omega, by go_num, hbel6, hx6, hM6, hrp6, hB3⟩
                      case measure => simp [intOf]; omega
              · have hfin : Hid (wrongSt (stOf ps N) = scanF N (((ps.take (q + 1)).map PF.fi).flatMap Fi.b) ((ps.drop (q + 1)).map PF.fi)) := Lib.hid (by
                  have e0 : scanB N seen p.l = 0 := by rw [hB.out, List.drop_eq_nil_of_le (by omega)]; rfl
                  rw [hres3.out, if_neg (fun hh => hh e0), htk'.out, List.map_append, List.flatMap_append, hseen'.out]
                  simp [PF.fi])
                have hMq : Own wr w.heap.size 4 1 (.slice (some ⟨gm, 0, none⟩) N N) N ((hadL N (((ps.take (q + 1)).map PF.fi).flatMap Fi.b)).flatMap blL) := by
                  rw [List.take_of_length_le (by omega)] at hM
                  rw [htk'.out, List.map_append, List.flatMap_append, hseen'.out]
                  simpa [PF.fi] using hM
                have hjl' : ¬ (j : Int) < (p.l.length : Int) := by omega
                clear hM hB hres3
                go_wp2
                go_roundw
                case rel => exact ⟨q + 1, by omega, by go_num, hbr, hx, hMq, hfin⟩
                case measure => simp [intOf]; omega
          · have hfin : Hid (wrongSt (stOf ps N) = 2) := Lib.hid (by rw [hres2.out, if_pos hcnt])
            have hcc : ((p.l.length : Int) != countS p.n) = true := by rw [bne_iff_ne]; exact hcnt
            clear hres2 hcnt
            go_upto_region 9 with (fail)
            refine wp_grow 7 [isV (.pointer (some ⟨wr.heap.size, 1, none⟩)), isV (.slice p.a p.l.length p.c), isV (.int .i64 (p.l.length : Int)), isV (.pointer (some ⟨wr.heap.size, 0, none⟩)), isV (.int .i64 p.n), isV (.int .i64 (countS p.n)), isV (.bool true)] (by kernel_rfl) (by kernel_rfl) (by kernel_rfl) (by decide) _ rfl (by kernel_rfl) (all_cons ?_ (all_cons ?_ (all_cons ?_ (all_cons ?_ (all_cons ?_ (all_cons ?_ (all_cons ?_ (all_nil)))))))) ?_
            · intro ρ y W hw hn hb hd
              have E5 : ρ (.tmp 5) = .pointer (some ⟨wr.heap.size, 0, none⟩) := (hn (.tmp 5) rfl).trans rfl
              refine asked_val (.pointer (some ⟨wr.heap.size, 1, none⟩)) (want_free rfl) (by simp [execOp, go_sem, E5]) rfl
            · intro ρ y W hw hn hb hd
              have E40 := hw 40 0 rfl
              have h0 : y 0 = .pointer (some ⟨wr.heap.size, 1, none⟩) := hd 0 rfl
              refine asked_val (.slice p.a p.l.length p.c) (want_free rfl) (by simp [execOp, go_sem, E40, h0, (hf2.ext hb).cell, f1, Try.underlying36]) rfl
            · intro ρ y W hw hn hb hd
              have E41 := hw 41 1 rfl
              have h1 : y 1 = .slice p.a p.l.length p.c := hd 1 rfl
              refine asked_val (.int .i64 (p.l.length : Int)) (want_free rfl) (run_lenS rfl (E41.trans h1) Try.underlying36) rfl
            · intro ρ y W hw hn hb hd
              have E5 : ρ (.tmp 5) = .pointer (some ⟨wr.heap.size, 0, none⟩) := (hn (.tmp 5) rfl).trans rfl
              refine asked_val (.pointer (some ⟨wr.heap.size, 0, none⟩)) (want_free rfl) (by simp [execOp, go_sem, E5]) rfl
            · intro ρ y W hw hn hb hd
              have E43 := hw 43 3 rfl
              have h3 : y 3 = .pointer (some ⟨wr.heap.size, 0, none⟩) := hd 3 rfl
              refine asked_val (.int .i64 p.n) (want_free rfl) (by simp [execOp, go_sem, E43, h3, (hf2.ext hb).cell, f0]) rfl
            · intro ρ y W hw hn hb hd
              have E44 := hw 44 4 rfl
              have h4 : y 4 = .int .i64 p.n := hd 4 rfl
              have EF : ∀ f, ρ (.func f) = .func (.func f) #[] #[] := fun f => hn (.func f) trivial
              refine asked_call _ _ (want_free rfl) (run_call rfl (EF _) Try.func63 (by kernel_rfl) (by kernel_rfl) (by simp only [List.map_toArray, List.map_cons, List.map_nil, E44, h4, EF]; rfl)) ?_
              refine (rcount_any p.n W (by omega)).mono ?_
              rintro e w1 ⟨rfl, rfl⟩
              exact ⟨_, rfl, Below.refl _ _, rfl⟩
            · intro ρ y W hw hn hb hd
              have E42 := hw 42 2 rfl
              have h2 : y 2 = .int .i64 (p.l.length : Int) := hd 2 rfl
              have E45 := hw 45 5 rfl
              have h5 : y 5 = .int .i64 (countS p.n) := hd 5 rfl
              refine asked_val (.bool true) (want_free rfl) (run_bin rfl (E42.trans h2) (E45.trans h5) (by simp [go_sem, hcc])) rfl
            intro y WA hbWA hRWA
            have hy0 : y 0 = .pointer (some ⟨wr.heap.size, 1, none⟩) := hRWA 0 (by decide)
            have hy1 : y 1 = .slice p.a p.l.length p.c := hRWA 1 (by decide)
            have hy2 : y 2 = .int .i64 (p.l.length : Int) := hRWA 2 (by decide)
            have hy3 : y 3 = .pointer (some ⟨wr.heap.size, 0, none⟩) := hRWA 3 (by decide)
            have hy4 : y 4 = .int .i64 p.n := hRWA 4 (by decide)
            have hy5 : y 5 = .int .i64 (countS p.n) := hRWA 5 (by decide)
            have hy6 : y 6 = .bool true := hRWA 6 (by decide)
            clear hRWA
            simp only [lay, Nat.reduceAdd, Nat.reduceLT, decide_true, decide_false, if_true, Bool.false_eq_true, if_false, List.setIfInBounds_toArray, List.set_cons_zero, List.set_cons_succ, List.drop_succ_cons, List.drop_zero, List.drop_nil, hy0, hy1, hy2, hy3, hy4, hy5, hy6]
            clear hy0 hy1 hy2 hy3 hy4 hy5 hy6
            go_wp2
            go_ret
            exact ⟨ret_int hfin.out.symm, below_next hbel2 hbWA⟩
      · have hfin : Hid (wrongSt (stOf ps N) = 0) := Lib.hid (by rw [hres.out, List.drop_eq_nil_of_le (by omega)]; rfl)
        go_wp2
        go_ret
        exact ⟨ret_int hfin.out.symm, hbr⟩
end Go.Proofs.Ytmdnmknmniabeaa
