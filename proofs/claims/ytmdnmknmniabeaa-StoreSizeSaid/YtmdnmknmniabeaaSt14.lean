/- The document's Size. -/
import Derived.Test.YtmdnmknmniabeaaSt11
import Derived.Test.YtmdnmknmniabeaaSt10
namespace Go.Proofs.Ytmdnmknmniabeaa
open Go.RowKit Go.Maps Pw
set_option linter.unusedSimpArgs false
set_option linter.unusedVariables false

theorem resized_next (l : List Int) (q : Nat) : resized l (q + 1) = resized l q ++ [l.getD q (-1)] := by
  unfold resized
  by_cases h : q < l.length
  · rw [List.take_add_one, show q + 1 - l.length = 0 from by omega, show q - l.length = 0 from by omega]
    simp [List.getD_eq_getElem?_getD, h]
  · rw [List.take_of_length_le (by omega), List.take_of_length_le (by omega), show q + 1 - l.length = (q - l.length) + 1 from by omega, List.replicate_succ', List.append_assoc]
    simp [List.getD_eq_getElem?_getD, h]
set_option maxHeartbeats 4000000 in
set_option maxRecDepth 100000 in
theorem rsize_any (ps : List PF) (k file n : Int) (a : Option Addr) (c : Nat) (w : World) (h : FsR w a c ps) (hk64 : -9223372036854775808 ≤ k ∧ k ≤ 9223372036854775807) :
    Calls Try.prog 36 #[.agg (stC a ps.length c k), .int .i64 file, .int .i64 n] w fun r w' => ∃ a' c' k' ps', r = .returned (.tuple #[.agg (stC a' ps'.length c' k'), .int .i64 (sizeE (stOf ps k) file n)]) ∧ FsR w' a' c' ps' ∧ stOf ps' k' = sizeS (stOf ps k) file n ∧ Below w.heap.size w w' ∧ Stay w w' a c ps a' c' ps' := by
  have hlc := Nat.le_trans h.le h.mx
  unfold maxLen at hlc
  unfold stC
  go_enter Try.func36, Try.ntmps36
  go_upto_region 1 with (fail)
  refine abs2 (fun W => Code.wp _ _ _ _ W) fun W0 hb0 hx0 hr0 hs0 => ?_
  clear hs0
  go_wp2_with (refine wpList_ldg _ _ rfl _ 0 rfl rfl _ hx0.rd _ Try.underlying47 rfl store_size ?_)
  refine (rswrong_any ps k a c _ (h.below hb0) hk64).mono ?_
  rintro r w1 ⟨rfl, hb1⟩
  have hbel := below_next hb0 hb1
  have hx := hx0.ext hb1
  have hres := hr0.ext hb1
  clear hb0 hx0 hr0 hb1
  by_cases h0 : wrongSt (stOf ps k) = 0
  · have H0 := Lib.hid h0
    rw [h0]
    clear h0
    have hcx := hx.cell
    by_cases h5 : file < 0 ∨ (ps.length : Int) ≤ file
    · have q0 : Hid _ := Lib.hid (size_err (s := stOf ps k) (k := file) (n := n) (e := 5) (by unfold sizeE; rw [if_neg (by rw [H0.out]; simp), if_pos (by simpa [stOf] using h5)]) (by decide))
      have h5' : file < 0 ∨ (¬ file < 0 ∧ (ps.length : Int) ≤ file) := by omega
      clear h5
      rcases h5' with g1 | ⟨g1, g2⟩
      · skip
        go_wp2_with (refine wpList_stw rfl _ _ _ rfl (w.heap.size + 1) #[.slice none 0 0, .int .i64 0] rfl rfl _ _ hres rfl store_size (sl_in none 0 0 0) ?_)
        all_goals
          intro w5 hr5 hgr5
          have hbel5 : Below w.heap.size w w5 := hbel.grown hgr5 hbel.size (fun k hk => by cases hk; omega)
          go_wp2
          refine bodyPost_ret (v := .tuple #[.agg #[.slice none 0 0, .int .i64 0], .int .i64 (5)]) (results_ct Try.results36 _ _ (w.heap.size + 1) _ _ _ _ rfl rfl hr5 Try.underlying47 rfl store_size) rfl ?_
          have q := q0.out
          exact ⟨_, _, _, [], by rw [q.1]; rfl, ⟨Nat.le_refl _, Nat.zero_le _, fun _ => rfl, fun j u h => by simp at h, fun p h => by simp at h⟩, by rw [q.2]; rfl, hbel5, stay_nil _ _ _ _ _⟩
      · skip
        go_wp2_with (refine wpList_stw rfl _ _ _ rfl (w.heap.size + 1) #[.slice none 0 0, .int .i64 0] rfl rfl _ _ hres rfl store_size (sl_in none 0 0 0) ?_)
        all_goals
          intro w5 hr5 hgr5
          have hbel5 : Below w.heap.size w w5 := hbel.grown hgr5 hbel.size (fun k hk => by cases hk; omega)
          go_wp2
          refine bodyPost_ret (v := .tuple #[.agg #[.slice none 0 0, .int .i64 0], .int .i64 (5)]) (results_ct Try.results36 _ _ (w.heap.size + 1) _ _ _ _ rfl rfl hr5 Try.underlying47 rfl store_size) rfl ?_
          have q := q0.out
          exact ⟨_, _, _, [], by rw [q.1]; rfl, ⟨Nat.le_refl _, Nat.zero_le _, fun _ => rfl, fun j u h => by simp at h, fun p h => by simp at h⟩, by rw [q.2]; rfl, hbel5, stay_nil _ _ _ _ _⟩
    · obtain ⟨F, rfl⟩ := Int.eq_ofNat_of_zero_le (show 0 ≤ file by omega)
      have hF : F < ps.length := by omega
      have hFi : (F : Int) < (ps.length : Int) := by omega
      have hnl : Hid (¬ ((F : Int) < 0 ∨ (((stOf ps k).fs.length : Nat) : Int) ≤ (F : Int))) := Lib.hid (by simpa [stOf] using hF)
      clear h5
      by_cases h9 : n < 0 ∨ 96 < n
      · have q0 : Hid _ := Lib.hid (size_err (s := stOf ps k) (k := F) (n := n) (e := 3) (by unfold sizeE; rw [if_neg (by rw [H0.out]; simp), if_neg hnl.out, if_pos h9]) (by decide))
        have h9' : n < 0 ∨ (¬ n < 0 ∧ 96 < n) := by omega
        clear h9
        rcases h9' with g1 | ⟨g1, g2⟩
        · skip
          go_wp2_with (refine wpList_stw rfl _ _ _ rfl (w.heap.size + 1) #[.slice none 0 0, .int .i64 0] rfl rfl _ _ hres rfl store_size (sl_in none 0 0 0) ?_)
          all_goals
            intro w5 hr5 hgr5
            have hbel5 : Below w.heap.size w w5 := hbel.grown hgr5 hbel.size (fun k hk => by cases hk; omega)
            go_wp2
            refine bodyPost_ret (v := .tuple #[.agg #[.slice none 0 0, .int .i64 0], .int .i64 (3)]) (results_ct Try.results36 _ _ (w.heap.size + 1) _ _ _ _ rfl rfl hr5 Try.underlying47 rfl store_size) rfl ?_
            have q := q0.out
            exact ⟨_, _, _, [], by rw [q.1]; rfl, ⟨Nat.le_refl _, Nat.zero_le _, fun _ => rfl, fun j u h => by simp at h, fun p h => by simp at h⟩, by rw [q.2]; rfl, hbel5, stay_nil _ _ _ _ _⟩
        · skip
          go_wp2_with (refine wpList_stw rfl _ _ _ rfl (w.heap.size + 1) #[.slice none 0 0, .int .i64 0] rfl rfl _ _ hres rfl store_size (sl_in none 0 0 0) ?_)
          all_goals
            intro w5 hr5 hgr5
            have hbel5 : Below w.heap.size w w5 := hbel.grown hgr5 hbel.size (fun k hk => by cases hk; omega)
            go_wp2
            refine bodyPost_ret (v := .tuple #[.agg #[.slice none 0 0, .int .i64 0], .int .i64 (3)]) (results_ct Try.results36 _ _ (w.heap.size + 1) _ _ _ _ rfl rfl hr5 Try.underlying47 rfl store_size) rfl ?_
            have q := q0.out
            exact ⟨_, _, _, [], by rw [q.1]; rfl, ⟨Nat.le_refl _, Nat.zero_le _, fun _ => rfl, fun j u h => by simp at h, fun p h => by simp at h⟩, by rw [q.2]; rfl, hbel5, stay_nil _ _ _ _ _⟩
      · have hz : Hid (sizeE (stOf ps k) F n = 0) := Lib.hid (by unfold sizeE; rw [if_neg (by rw [H0.out]; simp), if_neg hnl.out, if_neg h9])
        have g1 : ¬ n < 0 := by omega
        have g2 : ¬ 96 < n := by omega
        obtain ⟨b, off, p, rfl, hp, c0, c1⟩ := pf_at (h.below hbel).rd F hF
        have hfi : Hid (fileAt (stOf ps k) F = p.fi) := Lib.hid (by unfold fileAt stOf; rw [if_pos (by omega), Int.toNat_natCast, List.getD_eq_getElem?_getD, List.getElem?_map, hp]; rfl)
        have hgood := h.good p (List.mem_of_getElem? hp)
        have hp' := Lib.hid hp
        have hlp : ps.length ≤ 5 := by simpa [stOf] using (wrongSt_few H0.out).1
        have hKc := countS_le (n := n) (by omega)
        have hKn := countS_nn n
        obtain ⟨K, hK⟩ : ∃ K : Nat, countS n = (K : Int) := ⟨(countS n).toNat, by omega⟩
        have hK12 : K ≤ 12 := by omega
        have hKh := Lib.hid hK
        have hgo : w.heap.size + 1 < w1.heap.size := hres.lt
        clear h9 hKc hKn hK hp c0 c1
        go_upto_region 9 with (fail)
        refine abs1 (fun W => Code.wp _ _ _ _ W) fun w2 hb2 hf2 hs2 => ?_
        clear hs2
        have hbel2 := below_next hbel hb2
        have hx2 := hx.ext hb2
        have hres2 := hres.ext hb2
        obtain ⟨gf, hGG⟩ : ∃ g, g = w1.heap.size := ⟨_, rfl⟩
        rw [← hGG] at hf2 hgo ⊢
        clear hGG hcx hbel hx hres hb2
        go_upto_region 10 with (fail)
        go_loopw [10] (fun i wr => ∃ (q : Nat) (a' : Option Addr) (c' : Nat), q ≤ K ∧ i = .int .i64 q ∧ Below w.heap.size w wr ∧ Blk wr w.heap.size #[.slice (some ⟨b, off, none⟩) ps.length c, .int .i64 k] 47 ∧ Blk wr (w.heap.size + 1) #[.slice none 0 0, .int .i64 0] 47 ∧ Blk wr gf #[.int .i64 n, .slice a' q c'] 61 ∧ Own wr w.heap.size 3 1 (.slice a' q c') q ((resized p.l q).map inV)) (fun i _ => K - (intOf i).toNat)
        case atStart => exact ⟨0, none, 0, Nat.zero_le _, rfl, hbel2, hx2, hres2, hf2, by simpa [resized] using Own.nil _ _ _ _⟩
        case round =>
          clear hbel2 hx2 hres2 hf2
          obtain ⟨q, a', c', hq, rfl, hbr, hxr, hrr, hf, hown⟩ := hrel
          go_wp2_with fail
          refine (rcount_any n _ (by omega)).mono ?_
          rintro r w5 ⟨rfl, rfl⟩
          rw [hKh.out]
          have hcx := hxr.cell
          have hcf := hf.cell
          by_cases hlt : q < K
          · have hlti : (q : Int) < (K : Int) := by omega
            obtain ⟨b9, off9, p9, hab, hp9, c0, c1⟩ := pf_at (h.below hbr).rd F hF
            cases hab
            obtain rfl : p = p9 := by rw [hp'.out] at hp9; exact Option.some.inj hp9
            clear hp9
            by_cases hql : q < p.l.length
            · obtain ⟨b2, off2, hpa, hc⟩ := elem_at (hgood.rd.below hbr) q hql
              have hgd : Hid (p.l.getD q (-1) = p.l[q]) := Lib.hid (by rw [List.getD_eq_getElem?_getD, List.getElem?_eq_getElem hql]; rfl)
              have hqli : (q : Int) < (p.l.length : Int) := by omega
              rw [hpa] at c1
              generalize p.l[q] = x at hc hgd
              clear hpa
              go_upto_region 11 with (at_builtin; (refine wpList_app rfl (.tmp 62) (.tmp 64) 36 rfl w.heap.size 3 (.int .i64 0) 1 8 Try.underlying36 int_info rfl (by decide) _ _ _ rfl (hown.alloc _) (some ⟨wr.heap.size, 0, none⟩) 1 1 [inV (x)] rfl (fun h => (by cases h)) (Nat.le_refl _) rfl (RdV.one _ _ _) (one_int _ _) (by unfold maxLen; omega) (by omega) (le_alloc' hbr.size _) ?_))
              intro v9 w9 ho9 hgr9
              have hownA := hown.alloc (.cells #[.int .i64 (x)] 3)
              have hbelA := hbr.alloc hbr.size (.cells #[.int .i64 (x)] 3)
              have hfA := blk_own (hf.alloc (.cells #[.int .i64 (x)] 3)) hownA (by decide) hgr9
              have hxA := blk_own (hxr.alloc (.cells #[.int .i64 (x)] 3)) hownA (by decide) hgr9
              have hrA := blk_own (hrr.alloc (.cells #[.int .i64 (x)] 3)) hownA (by decide) hgr9
              have hbel9 := hbelA.grown hgr9 hbelA.size (fun k hk => hownA.ge k hk)
              obtain ⟨a9, c9, rfl, _⟩ := ho9.rd
              clear hcx hcf hown hbr hf hxr hrr hownA hbelA hgr9
              go_upto_region 11 with (refine wpList_stv rfl _ _ _ rfl gf 1 _ [.slice a9 (q + 1) c9] rfl rfl rfl _ _ hfA (by show 2 ≤ 2; decide) slint_size (fun u hu => by cases List.mem_singleton.1 hu; rfl) ?_)
              intro wA hfB hgrA
              have hoB := own_keep ho9 hfA (by decide) hgrA
              have hxB := blk_keep hxA hfA (by decide) hgrA
              have hrB := blk_keep hrA hfA (by decide) hgrA
              have hbelB := hbel9.grown hgrA hbel9.size (fun k hk => by cases hk; omega)
              have hnx : (resized p.l q).map inV ++ [inV (x)] = (resized p.l (q + 1)).map inV := by rw [resized_next, hgd.out]; simp
              rw [hnx] at hoB
              clear hfA hxA hrA hbel9 ho9 hgrA hnx
              go_wp2
              go_roundw
              case rel => exact ⟨q + 1, a9, c9, by omega, by go_num, hbelB, hxB, hrB, hfB, hoB⟩
              case measure => simp [intOf]; omega
            · have hgd : Hid (p.l.getD q (-1) = -1) := Lib.hid (by rw [List.getD_eq_getElem?_getD, List.getElem?_eq_none (by omega)]; rfl)
              have hqli : ¬ (q : Int) < (p.l.length : Int) := by omega
              go_upto_region 11 with (at_builtin; (refine wpList_app rfl (.tmp 62) (.tmp 64) 36 rfl w.heap.size 3 (.int .i64 0) 1 8 Try.underlying36 int_info rfl (by decide) _ _ _ rfl (hown.alloc _) (some ⟨wr.heap.size, 0, none⟩) 1 1 [inV (-1)] rfl (fun h => (by cases h)) (Nat.le_refl _) rfl (RdV.one _ _ _) (one_int _ _) (by unfold maxLen; omega) (by omega) (le_alloc' hbr.size _) ?_))
              intro v9 w9 ho9 hgr9
              have hownA := hown.alloc (.cells #[.int .i64 (-1)] 3)
              have hbelA := hbr.alloc hbr.size (.cells #[.int .i64 (-1)] 3)
              have hfA := blk_own (hf.alloc (.cells #[.int .i64 (-1)] 3)) hownA (by decide) hgr9
              have hxA := blk_own (hxr.alloc (.cells #[.int .i64 (-1)] 3)) hownA (by decide) hgr9
              have hrA := blk_own (hrr.alloc (.cells #[.int .i64 (-1)] 3)) hownA (by decide) hgr9
              have hbel9 := hbelA.grown hgr9 hbelA.size (fun k hk => hownA.ge k hk)
              obtain ⟨a9, c9, rfl, _⟩ := ho9.rd
              clear hcx hcf hown hbr hf hxr hrr hownA hbelA hgr9
              go_upto_region 11 with (refine wpList_stv rfl _ _ _ rfl gf 1 _ [.slice a9 (q + 1) c9] rfl rfl rfl _ _ hfA (by show 2 ≤ 2; decide) slint_size (fun u hu => by cases List.mem_singleton.1 hu; rfl) ?_)
              intro wA hfB hgrA
              have hoB := own_keep ho9 hfA (by decide) hgrA
              have hxB := blk_keep hxA hfA (by decide) hgrA
              have hrB := blk_keep hrA hfA (by decide) hgrA
              have hbelB := hbel9.grown hgrA hbel9.size (fun k hk => by cases hk; omega)
              have hnx : (resized p.l q).map inV ++ [inV (-1)] = (resized p.l (q + 1)).map inV := by rw [resized_next, hgd.out]; simp
              rw [hnx] at hoB
              clear hfA hxA hrA hbel9 ho9 hgrA hnx
              go_wp2
              go_roundw
              case rel => exact ⟨q + 1, a9, c9, by omega, by go_num, hbelB, hxB, hrB, hfB, hoB⟩
              case measure => simp [intOf]; omega
          · have hlti : ¬ (q : Int) < (K : Int) := by omega
            have hqK : q = K := by omega
            obtain ⟨P, hP0⟩ : ∃ P : PF, P = ⟨n, a', resized p.l q, c'⟩ := ⟨_, rfl⟩
            have hP := Lib.hid hP0
            clear hP0
            have hfin : Hid (stOf (ps.set F P) k = sizeS (stOf ps k) F n) := Lib.hid (by
              unfold sizeS withFile
              rw [if_neg (by rw [hz.out]; simp), hfi.out, hKh.out, Int.toNat_natCast, Int.toNat_natCast]
              unfold stOf
              simp only
              rw [List.map_set, hP.out, hqK]
              rfl)
            have hgq : PF.good wr P := by
              rw [hP.out]
              obtain ⟨_, _, e, h1, h2, h3, h4⟩ := hown.rd
              simp only [Value.slice.injEq] at e
              obtain ⟨rfl, _, rfl⟩ := e
              exact ⟨by rw [resized_len]; exact h1, h2, h3, h4⟩
            have hPl : P.l.length = q := by rw [hP.out]; exact resized_len _ _
            have hPa : P.a = a' := by rw [hP.out]
            have hPc : P.c = c' := by rw [hP.out]
            have hPn : P.n = n := by rw [hP.out]
            rw [← hPl, ← hPa, ← hPc, ← hPn] at hf
            have hownP : Hid (Own wr w.heap.size 3 1 (.slice P.a P.l.length P.c) P.l.length (P.l.map inV)) := Lib.hid (by rw [hP.out]; simp only [resized_len]; exact hown)
            clear hown hPl hPa hPc hPn hcf hqK hlt hq
            go_wp2_with (first | (refine wpList_ldg _ _ rfl _ 0 rfl rfl _ hxr.rd _ Try.underlying47 rfl store_size ?_) | (refine wpList_ldg _ _ rfl _ 0 rfl rfl _ hf.rd _ Try.underlying61 rfl file_size ?_))
            refine (rwith_any ps k (some ⟨b, off, none⟩) c F P wr (h.below hbr) hF hgq hlp).mono ?_
            rintro r w6 ⟨a6, c6, rfl, _, hO6, hb6⟩
            have hbel6 := below_next hbr hb6
            have hr6 := hrr.ext hb6
            have hb6' := hb6
            have hB6 : w.heap.size ≤ wr.heap.size := hbr.size
            clear hcx hbr hxr hrr hf hb6 hgq
            go_wp2_with (refine wpList_stw rfl _ _ _ rfl (w.heap.size + 1) _ rfl rfl _ _ hr6 rfl store_size (sl_in _ _ _ _) ?_)
            intro wf hrf hgrf
            have hOf := own_keep hO6 hr6 (by decide) hgrf
            have hPo := own_keep (hownP.out.below hb6') hr6 (by decide) hgrf
            have hPf := hPo.rd
            have hsty := Lib.hid (stay_set (w := w) (a := some ⟨b, off, none⟩) (c := c) rfl hOf hB6 hPo (Nat.le_refl _))
            clear hPo hB6
            have hbelf := hbel6.grown hgrf hbel6.size (fun k hk => by cases hk; omega)
            clear hO6 hr6 hbel6 hgrf hownP
            go_wp2
            refine bodyPost_ret (v := .tuple #[.agg #[.slice a6 ps.length c6, .int .i64 k], .int .i64 0]) (results_ct Try.results36 _ _ (w.heap.size + 1) _ _ _ _ rfl rfl hrf Try.underlying47 rfl store_size) rfl ?_
            obtain ⟨a7, c7, e7, hle7, hmx7, hnl7, hrd7⟩ := hOf.rd
            cases e7
            obtain ⟨a8, c8, e8, hle8, hmx8, hnl8, hrd8⟩ := hPf
            simp only [Value.slice.injEq, true_and] at e8
            obtain ⟨e81, e82⟩ := e8
            rw [← e81] at hnl8 hrd8
            rw [← e82] at hle8 hmx8 hnl8
            refine ⟨a6, c6, k, ps.set F P, by rw [hz.out, List.length_set], ⟨by rw [List.length_set]; exact hle7, hmx7, hnl7, hrd7, fun q hq => ?_⟩, hfin.out, hbelf, hsty.out⟩
            rcases List.mem_or_eq_of_mem_set hq with hq | rfl
            · exact (h.good q hq).below hbelf
            · exact ⟨hle8, hmx8, hnl8, hrd8⟩
  · have q0 : Hid _ := Lib.hid (size_err (s := stOf ps k) (k := file) (n := n) (e := wrongSt (stOf ps k)) (by unfold sizeE; rw [if_pos h0]) h0)
    have h0' : (wrongSt (stOf ps k) != 0) = true := by simpa using h0
    clear h0
    go_wp2_with (refine wpList_stw rfl _ _ _ rfl (w.heap.size + 1) #[.slice none 0 0, .int .i64 0] rfl rfl _ _ hres rfl store_size (sl_in none 0 0 0) ?_)
    all_goals
      intro w5 hr5 hgr5
      have hbel5 : Below w.heap.size w w5 := hbel.grown hgr5 hbel.size (fun k hk => by cases hk; omega)
      go_wp2
      refine bodyPost_ret (v := .tuple #[.agg #[.slice none 0 0, .int .i64 0], .int .i64 (wrongSt (stOf ps k))]) (results_ct Try.results36 _ _ (w.heap.size + 1) _ _ _ _ rfl rfl hr5 Try.underlying47 rfl store_size) rfl ?_
      have q := q0.out
      exact ⟨_, _, _, [], by rw [q.1]; rfl, ⟨Nat.le_refl _, Nat.zero_le _, fun _ => rfl, fun j u h => by simp at h, fun p h => by simp at h⟩, by rw [q.2]; rfl, hbel5, stay_nil _ _ _ _ _⟩
end Go.Proofs.Ytmdnmknmniabeaa
