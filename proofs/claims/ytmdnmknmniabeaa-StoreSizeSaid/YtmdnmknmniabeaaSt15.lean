/- The document's Block. -/
import Derived.Test.YtmdnmknmniabeaaSt14
namespace Go.Proofs.Ytmdnmknmniabeaa
open Go.RowKit Go.Maps Pw
set_option linter.unusedSimpArgs false
set_option linter.unusedVariables false

theorem own_puti {w : World} {B n : Nat} {e : TypeId} {v : Value} {l : List Int} (hl : l.length = n) (h : Own w B e 1 v n (l.map inV)) (k : Nat) (hk : k < n) :
    ∃ g off cap cur, v = .slice (some ⟨g, off, none⟩) n cap ∧ B ≤ g ∧ Blk w g cur e ∧ off + k + 1 ≤ cur.size ∧ ∀ w' x, Blk w' g (putAt cur (off + k) [inV x]) e → Own w' B e 1 v n ((l.set k x).map inV) := by
  rw [← flat_one] at h
  obtain ⟨g, off, cap, cur, hv, hB, hblk, hfit, hset⟩ := own_putn (fun x : Int => (rfl : [inV x].length = 1)) (by decide) hl h k hk
  refine ⟨g, off, cap, cur, hv, hB, hblk, by simpa using hfit, fun w' x hb => ?_⟩
  rw [← flat_one]
  exact hset w' x (by simpa using hb)
theorem cell_below {w w' : World} {b o : Nat} {v : Value} (hb : Below w.heap.size w w') (h : w.cell? ⟨b, o, none⟩ = some v) : w'.cell? ⟨b, o, none⟩ = some v := by
  have h1 : RdV w (some ⟨b, o, none⟩) [v] := fun j u hj => by
    cases j with
    | zero => simp at hj; subst hj; exact ⟨b, o, rfl, h⟩
    | succ j => simp at hj
  obtain ⟨b', o', e, hc⟩ := h1.below hb 0 v rfl
  cases e
  exact hc
set_option maxHeartbeats 4000000 in
set_option maxRecDepth 100000 in
theorem rblock_any (ps : List PF) (k file index : Int) (a : Option Addr) (c : Nat) (w : World) (h : FsR w a c ps) (hk64 : -9223372036854775808 ≤ k ∧ k ≤ 9223372036854775807) :
    Calls Try.prog 38 #[.agg (stC a ps.length c k), .int .i64 file, .int .i64 index] w fun r w' => ∃ a' c' k' ps', r = .returned (.tuple #[.agg (stC a' ps'.length c' k'), .int .i64 (blockN (stOf ps k) file index), .int .i64 (blockE (stOf ps k) file index)]) ∧ FsR w' a' c' ps' ∧ stOf ps' k' = blockS (stOf ps k) file index ∧ Below w.heap.size w w' ∧ Stay w w' a c ps a' c' ps' := by
  have hlc := Nat.le_trans h.le h.mx
  unfold maxLen at hlc
  unfold stC
  go_enter Try.func38, Try.ntmps38
  go_upto_region 1 with (fail)
  refine abs2 (fun W => Code.wp _ _ _ _ W) fun W0 hb0 hx0 hr0 hs0 => ?_
  clear hs0
  go_wp2_with (refine wpList_ldg _ _ rfl _ 0 rfl rfl _ hx0.rd _ Try.underlying47 rfl store_size ?_)
  refine (rswrong_any ps k a c _ (h.below hb0) hk64).mono ?_
  rintro r w1 ⟨rfl, hb1⟩
  have hbel := below_next hb0 hb1
  have hx := hx0.ext hb1
  have hres := hr0.ext hb1
  clear hb0 hx0 hr0 hb1
  by_cases h0 : wrongSt (stOf ps k) = 0
  · have H0 := Lib.hid h0
    rw [h0]
    clear h0
    have hcx := hx.cell
    by_cases h5 : file < 0 ∨ (ps.length : Int) ≤ file
    · have q0 : Hid _ := Lib.hid (block_err (s := stOf ps k) (k := file) (i := index) (e := 5) (by unfold blockE; rw [if_neg (by rw [H0.out]; simp), if_pos (by simpa [stOf] using h5)]) (by decide))
      have h5' : file < 0 ∨ (¬ file < 0 ∧ (ps.length : Int) ≤ file) := by omega
      clear h5
      rcases h5' with g1 | ⟨g1, g2⟩
      · skip
        go_wp2_with (refine wpList_stw rfl _ _ _ rfl (w.heap.size + 1) #[.slice none 0 0, .int .i64 0] rfl rfl _ _ hres rfl store_size (sl_in none 0 0 0) ?_)
        all_goals
          intro w5 hr5 hgr5
          have hbel5 : Below w.heap.size w w5 := hbel.grown hgr5 hbel.size (fun k hk => by cases hk; omega)
          go_wp2
          refine bodyPost_ret (v := .tuple #[.agg #[.slice none 0 0, .int .i64 0], .int .i64 0, .int .i64 (5)]) (results_ctt Try.results38 _ _ (w.heap.size + 1) _ _ _ _ _ rfl rfl rfl hr5 Try.underlying47 rfl store_size) rfl ?_
          have q := q0.out
          exact ⟨_, _, _, [], by rw [q.1, q.2.1]; rfl, ⟨Nat.le_refl _, Nat.zero_le _, fun _ => rfl, fun j u h => by simp at h, fun p h => by simp at h⟩, by rw [q.2.2]; rfl, hbel5, stay_nil _ _ _ _ _⟩
      · skip
        go_wp2_with (refine wpList_stw rfl _ _ _ rfl (w.heap.size + 1) #[.slice none 0 0, .int .i64 0] rfl rfl _ _ hres rfl store_size (sl_in none 0 0 0) ?_)
        all_goals
          intro w5 hr5 hgr5
          have hbel5 : Below w.heap.size w w5 := hbel.grown hgr5 hbel.size (fun k hk => by cases hk; omega)
          go_wp2
          refine bodyPost_ret (v := .tuple #[.agg #[.slice none 0 0, .int .i64 0], .int .i64 0, .int .i64 (5)]) (results_ctt Try.results38 _ _ (w.heap.size + 1) _ _ _ _ _ rfl rfl rfl hr5 Try.underlying47 rfl store_size) rfl ?_
          have q := q0.out
          exact ⟨_, _, _, [], by rw [q.1, q.2.1]; rfl, ⟨Nat.le_refl _, Nat.zero_le _, fun _ => rfl, fun j u h => by simp at h, fun p h => by simp at h⟩, by rw [q.2.2]; rfl, hbel5, stay_nil _ _ _ _ _⟩
    · obtain ⟨F, rfl⟩ := Int.eq_ofNat_of_zero_le (show 0 ≤ file by omega)
      have hF : F < ps.length := by omega
      have hFi : (F : Int) < (ps.length : Int) := by omega
      obtain ⟨b, off, p, rfl, hp, c0, c1⟩ := pf_at (h.below hbel).rd F hF
      have hgood := h.good p (List.mem_of_getElem? hp)
      have hfi : Hid (fileAt (stOf ps k) F = p.fi) := Lib.hid (by unfold fileAt stOf; rw [if_pos (by omega), Int.toNat_natCast, List.getD_eq_getElem?_getD, List.getElem?_map, hp]; rfl)
      have hnl : Hid (¬ ((F : Int) < 0 ∨ (((stOf ps k).fs.length : Nat) : Int) ≤ (F : Int))) := Lib.hid (by simpa [stOf] using hF)
      have hlp : ps.length ≤ 5 := by simpa [stOf] using (wrongSt_few H0.out).1
      have hk80 : k ≤ 80 := (wrongSt_few H0.out).2.2
      have hk0 : 0 ≤ k := (wrongSt_few H0.out).2.1
      have hp12 : p.l.length ≤ 12 := by
        have h3 := wrongSt_file H0.out p.fi (by simpa [stOf] using List.mem_map_of_mem (List.mem_of_getElem? hp))
        have h4 := countS_le h3.2.1
        have h5 : (p.l.length : Int) = countS p.n := h3.2.2.1
        have h6 : countS p.n ≤ 12 := h4
        omega
      have hgo : w.heap.size + 1 < w1.heap.size := hres.lt
      clear h5 hp
      go_wp2_with (refine wpList_stn rfl _ _ _ rfl (pfC p) rfl rfl rfl file_size (pfC_one _) ?_)
      intro w2 hb2 hf2
      have hbel2 := below_next hbel hb2
      have hx2 := hx.ext hb2
      have hres2 := hres.ext hb2
      obtain ⟨gf, hGG⟩ : ∃ g, g = w1.heap.size := ⟨_, rfl⟩
      rw [← hGG] at hf2 hgo ⊢
      clear hGG hcx hbel hx hres hb2 c0 c1
      have hcf := hf2.cell
      have f0 : (pfC p)[0]? = some (.int .i64 p.n) := rfl
      have f1 : (pfC p)[1]? = some (.slice p.a p.l.length p.c) := rfl
      by_cases h9 : index < 0 ∨ (p.l.length : Int) ≤ index
      · have q0 : Hid _ := Lib.hid (block_err (s := stOf ps k) (k := F) (i := index) (e := 9) (by unfold blockE; rw [if_neg (by rw [H0.out]; simp), if_neg hnl.out, if_pos (by rw [hfi.out]; exact h9)]) (by decide))
        have h9' : index < 0 ∨ (¬ index < 0 ∧ (p.l.length : Int) ≤ index) := by omega
        have hbel := hbel2
        have hres := hres2
        clear h9 hbel2 hx2 hf2 hres2
        rcases h9' with g1 | ⟨g1, g2⟩
        · skip
          go_wp2_with (refine wpList_stw rfl _ _ _ rfl (w.heap.size + 1) #[.slice none 0 0, .int .i64 0] rfl rfl _ _ hres rfl store_size (sl_in none 0 0 0) ?_)
          all_goals
            intro w5 hr5 hgr5
            have hbel5 : Below w.heap.size w w5 := hbel.grown hgr5 hbel.size (fun k hk => by cases hk; omega)
            go_wp2
            refine bodyPost_ret (v := .tuple #[.agg #[.slice none 0 0, .int .i64 0], .int .i64 0, .int .i64 (9)]) (results_ctt Try.results38 _ _ (w.heap.size + 1) _ _ _ _ _ rfl rfl rfl hr5 Try.underlying47 rfl store_size) rfl ?_
            have q := q0.out
            exact ⟨_, _, _, [], by rw [q.1, q.2.1]; rfl, ⟨Nat.le_refl _, Nat.zero_le _, fun _ => rfl, fun j u h => by simp at h, fun p h => by simp at h⟩, by rw [q.2.2]; rfl, hbel5, stay_nil _ _ _ _ _⟩
        · skip
          go_wp2_with (refine wpList_stw rfl _ _ _ rfl (w.heap.size + 1) #[.slice none 0 0, .int .i64 0] rfl rfl _ _ hres rfl store_size (sl_in none 0 0 0) ?_)
          all_goals
            intro w5 hr5 hgr5
            have hbel5 : Below w.heap.size w w5 := hbel.grown hgr5 hbel.size (fun k hk => by cases hk; omega)
            go_wp2
            refine bodyPost_ret (v := .tuple #[.agg #[.slice none 0 0, .int .i64 0], .int .i64 0, .int .i64 (9)]) (results_ctt Try.results38 _ _ (w.heap.size + 1) _ _ _ _ _ rfl rfl rfl hr5 Try.underlying47 rfl store_size) rfl ?_
            have q := q0.out
            exact ⟨_, _, _, [], by rw [q.1, q.2.1]; rfl, ⟨Nat.le_refl _, Nat.zero_le _, fun _ => rfl, fun j u h => by simp at h, fun p h => by simp at h⟩, by rw [q.2.2]; rfl, hbel5, stay_nil _ _ _ _ _⟩
      · obtain ⟨I, rfl⟩ := Int.eq_ofNat_of_zero_le (show 0 ≤ index by omega)
        have hI : I < p.l.length := by omega
        have hIi : (I : Int) < (p.l.length : Int) := by omega
        have hil : Hid (¬ ((I : Int) < 0 ∨ (((fileAt (stOf ps k) F).b.length : Nat) : Int) ≤ (I : Int))) := Lib.hid (by rw [hfi.out]; exact h9)
        have hba : Hid (blockAt (stOf ps k) F I = p.l[I]) := Lib.hid (by
          unfold blockAt
          rw [hfi.out, Int.toNat_natCast]
          show p.l.getD I 0 = _
          rw [List.getD_eq_getElem?_getD, List.getElem?_eq_getElem hI]
          rfl)
        obtain ⟨b9, off9, hpa, hc9w⟩ := elem_at hgood.rd I hI
        have hb9 : b9 < w.heap.size := cell_lt hc9w
        have hc9 := cell_below hbel2 hc9w
        have hne : b9 ≠ w.heap.size + 1 := by omega
        have hne' : ¬ w.heap.size + 1 = b9 := by omega
        clear hc9w
        have hpa' := Lib.hid hpa
        rw [hpa] at f1
        clear h9 hpa
        generalize p.l[I] = B0 at hc9 hba
        by_cases hneg : B0 < 0
        · obtain ⟨K, rfl⟩ := Int.eq_ofNat_of_zero_le hk0
          have hbE : Hid (blockE (stOf ps K) F I = if freeSt (stOf ps K) < 0 then 10 else 0) := Lib.hid (by
            unfold blockE; rw [if_neg (by rw [H0.out]; simp), if_neg hnl.out, if_neg hil.out, hba.out]
            by_cases z : freeSt (stOf ps K) < 0
            · rw [if_pos ⟨hneg, z⟩, if_pos z]
            · rw [if_neg (fun hh => z hh.2), if_neg z])
          have hcx := hx2.cell
          go_upto_region 12 with (fail)
          clear hcx hcf f0 f1 hc9
          have hde : decide (p.l.length ≤ I) = false := decide_eq_false (by omega)
          simp only [hde, Bool.or_false]
          clear hde
          go_loopw [11] (fun i wr => ∃ (q : Nat), q ≤ K ∧ i = .int .i64 q ∧ (∀ j : Nat, j < q → usedSt (stOf ps K) j = true) ∧ Below w.heap.size w wr ∧ Blk wr w.heap.size #[.slice (some ⟨b, off, none⟩) ps.length c, .int .i64 K] 47 ∧ Blk wr (w.heap.size + 1) #[.slice none 0 0, .int .i64 0] 47 ∧ Blk wr gf (pfC p) 61) (fun i _ => K - (intOf i).toNat)
          case atStart => exact ⟨0, Nat.zero_le _, rfl, fun j hj => by omega, hbel2, hx2, hres2, hf2⟩
          case round =>
            clear hbel2 hx2 hres2 hf2
            obtain ⟨q, hq, rfl, hu0, hbr, hxr, hrr, hf⟩ := hrel
            have hu := Lib.hid hu0
            clear hu0
            have hcx := hxr.cell
            by_cases hlt : q < K
            · have hlti : (q : Int) < (K : Int) := by omega
              go_wp2_with (refine wpList_ldg _ _ rfl _ 0 rfl rfl _ hxr.rd _ Try.underlying47 rfl store_size ?_)
              refine (sused_any ps K q _ c wr (h.below hbr)).mono ?_
              rintro r w5 ⟨rfl, hb5⟩
              have hbel5 := below_next hbr hb5
              have hx5 := hxr.ext hb5
              have hr5 := hrr.ext hb5
              have hf5 := hf.ext hb5
              clear hcx hbr hxr hrr hf hb5
              by_cases hus : usedSt (stOf ps K) q = true
              · have hu' : Hid (∀ j : Nat, j < q + 1 → usedSt (stOf ps K) j = true) := Lib.hid (fun j hj => by
                  rcases Nat.lt_or_ge j q with h1 | h1
                  · exact hu.out j h1
                  · rw [show j = q by omega]; exact hus)
                rw [hus]
                clear hus
                go_wp2
                go_roundw
                case rel => exact ⟨q + 1, by omega, by go_num, hu'.out, hbel5, hx5, hr5, hf5⟩
                case measure => simp [intOf]; omega
              · have husf : usedSt (stOf ps K) q = false := by simpa using hus
                have hfr := freeSt_at (s := stOf ps K) hlti hu.out husf
                rw [husf]
                clear hus husf
                have hz : blockE (stOf ps K) F I = 0 := by rw [hbE.out, hfr, if_neg (by omega)]
                have hfin : Hid (blockN (stOf ps K) F I = q ∧ blockE (stOf ps K) F I = 0 ∧ blockS (stOf ps K) F I = withFile (stOf ps K) F ⟨p.n, p.l.set I q⟩) := Lib.hid (by
                  refine ⟨?_, hz, ?_⟩
                  · unfold blockN; rw [if_neg (by rw [hz]; simp), hba.out, if_pos hneg, hfr]
                  · unfold blockS; rw [if_neg (by rw [hz]; simp), hba.out, if_pos hneg, hfr, hfi.out, Int.toNat_natCast]; rfl)
                clear hz hfr hlti
                have hcx := (hf5.alloc (.cells #[] 3)).cell
                have f1 : (pfC p)[1]? = some (.slice p.a p.l.length p.c) := rfl
                have f0 : (pfC p)[0]? = some (.int .i64 p.n) := rfl
                go_upto_region 16 with (at_builtin; (refine wpList_app rfl (.tmp 66) (.tmp 68) 36 rfl w.heap.size 3 (.int .i64 0) 1 8 Try.underlying36 int_info rfl (by decide) _ _ _ rfl (Own.empty _ _ hbel5.size) p.a p.l.length p.c (p.l.map inV) rfl hgood.nl hgood.le (by simp) (hgood.rd.below (hbel5.alloc hbel5.size _)) (ints_one p.l) (by unfold maxLen; omega) (by omega) (le_alloc' hbel5.size _) ?_))
                intro v6 w6 ho6 hgr6
                have hb6 : Below w5.heap.size w5 w6 := ((Below.refl _ _).alloc (Nat.le_refl _) _).grown hgr6 (le_alloc _ _) (fun k hk => by cases hk; exact Nat.le_refl _)
                have hbel6 := below_next hbel5 hb6
                have hx6 := hx5.ext hb6
                have hr6 := hr5.ext hb6
                have hf6 := hf5.ext hb6
                have ho6' : Own w6 w.heap.size 3 1 v6 p.l.length (p.l.map inV) := by simpa using ho6
                obtain ⟨g, offg, cap, cur, rfl, hBg, hblk, hfit, hset⟩ := own_puti rfl ho6' I hI
                clear hcx hbel5 hx5 hr5 hf5 hb6 hgr6 ho6 ho6'
                have hci := hblk.cell
                go_upto_region 17 with (refine wpList_stv rfl _ _ _ rfl g (offg + I) _ [.int .i64 q] rfl rfl rfl _ _ hblk hfit int_size (one_int _ _) ?_)
                intro w7 hb7 hgr7
                have ho7 := hset w7 q hb7
                have hx7 := blk_keep hx6 hblk (by decide) hgr7
                have hr7 := blk_keep hr6 hblk (by decide) hgr7
                have hf7 := blk_keep hf6 hblk (by decide) hgr7
                have hbel7 := hbel6.grown hgr7 hbel6.size (fun k hk => by cases hk; exact hBg)
                clear hci hbel6 hx6 hr6 hf6 hblk hset hb7 hgr7 hfit
                obtain ⟨P, hP0⟩ : ∃ P : PF, P = ⟨p.n, some ⟨g, offg, none⟩, p.l.set I q, cap⟩ := ⟨_, rfl⟩
                have hP := Lib.hid hP0
                clear hP0
                have hgq : PF.good w7 P := by
                  rw [hP.out]
                  obtain ⟨_, _, e, h1, h2, h3, h4⟩ := ho7.rd
                  simp only [Value.slice.injEq] at e
                  obtain ⟨rfl, _, rfl⟩ := e
                  exact ⟨by rw [List.length_set]; exact h1, h2, h3, h4⟩
                have hownP : Hid (Own w7 w.heap.size 3 1 (.slice P.a P.l.length P.c) P.l.length (P.l.map inV)) := Lib.hid (by rw [hP.out]; simp only [List.length_set]; exact ho7)
                have hst : Hid (stOf (ps.set F P) K = blockS (stOf ps K) F I) := Lib.hid (by
                  rw [hfin.out.2.2, hP.out]
                  unfold withFile stOf
                  simp only
                  rw [List.map_set, Int.toNat_natCast]
                  rfl)
                have hPl : p.l.length = P.l.length := by rw [hP.out]; simp
                have hPa : some ⟨g, offg, none⟩ = P.a := by rw [hP.out]
                have hPc : cap = P.c := by rw [hP.out]
                have hPn : p.n = P.n := by rw [hP.out]
                have hcf := hf7.cell
                have hval : (Value.slice (some ⟨g, offg, none⟩) p.l.length cap) = .slice P.a P.l.length P.c := by rw [hPa, hPl, hPc]
                rw [hval]
                clear hval hPl hPa hPc f1 ho7
                go_wp2_with (refine wpList_ldg _ _ rfl _ 0 rfl rfl _ hx7.rd _ Try.underlying47 rfl store_size ?_)
                refine (rwith_any ps K (some ⟨b, off, none⟩) c F P w7 (h.below hbel7) hF hgq hlp).mono ?_
                rintro r w8 ⟨a6, c6, rfl, _, hO8, hb8⟩
                have hbel8 := below_next hbel7 hb8
                have hr8 := hr7.ext hb8
                have hownP8 := Lib.hid (hownP.out.below hb8)
                have hB8 : w.heap.size ≤ w7.heap.size := hbel7.size
                clear hcf f0 hx7 hr7 hf7 hbel7 hgq hownP hb8
                go_wp2_with (refine wpList_stw rfl _ _ _ rfl (w.heap.size + 1) _ rfl rfl _ _ hr8 rfl store_size (sl_in _ _ _ _) ?_)
                intro wf hrf hgrf
                have hOf := own_keep hO8 hr8 (by decide) hgrf
                have hPo := own_keep hownP8.out hr8 (by decide) hgrf
                have hPf := hPo.rd
                have hsty := Lib.hid (stay_set (w := w) (a := some ⟨b, off, none⟩) (c := c) rfl hOf hB8 hPo (Nat.le_refl _))
                clear hPo hB8
                have hbelf := hbel8.grown hgrf hbel8.size (fun k hk => by cases hk; omega)
                clear hO8 hr8 hbel8 hgrf hownP8
                go_wp2
                refine bodyPost_ret (v := .tuple #[.agg #[.slice a6 ps.length c6, .int .i64 K], .int .i64 q, .int .i64 0]) (results_ctt Try.results38 _ _ (w.heap.size + 1) _ _ _ _ _ rfl rfl rfl hrf Try.underlying47 rfl store_size) rfl ?_
                obtain ⟨a7, c7, e7, hle7, hmx7, hnl7, hrd7⟩ := hOf.rd
                cases e7
                obtain ⟨a8, c8, e8, hle8, hmx8, hnl8, hrd8⟩ := hPf
                simp only [Value.slice.injEq, true_and] at e8
                obtain ⟨e81, e82⟩ := e8
                rw [← e81] at hnl8 hrd8
                rw [← e82] at hle8 hmx8 hnl8
                refine ⟨a6, c6, K, ps.set F P, by rw [hfin.out.1, hfin.out.2.1, List.length_set], ⟨by rw [List.length_set]; exact hle7, hmx7, hnl7, hrd7, fun q hq => ?_⟩, hst.out, hbelf, hsty.out⟩
                rcases List.mem_or_eq_of_mem_set hq with hq | rfl
                · exact (h.good q hq).below hbelf
                · exact ⟨hle8, hmx8, hnl8, hrd8⟩
            · have hlti : ¬ (q : Int) < (K : Int) := by omega
              have hfr := freeSt_none (s := stOf ps K) (fun i hi => hu.out i (by
                have : (stOf ps K).count = (K : Int) := rfl
                omega))
              have q0 : Hid _ := Lib.hid (block_err (s := stOf ps K) (k := F) (i := I) (e := 10) (by rw [hbE.out, hfr]; rfl) (by decide))
              have hbel := hbr
              have hres := hrr
              clear hbr hrr hxr hf
              go_wp2_with (refine wpList_stw rfl _ _ _ rfl (w.heap.size + 1) #[.slice none 0 0, .int .i64 0] rfl rfl _ _ hres rfl store_size (sl_in none 0 0 0) ?_)
              all_goals
                intro w5 hr5 hgr5
                have hbel5 : Below w.heap.size w w5 := hbel.grown hgr5 hbel.size (fun k hk => by cases hk; omega)
                go_wp2
                refine bodyPost_ret (v := .tuple #[.agg #[.slice none 0 0, .int .i64 0], .int .i64 0, .int .i64 (10)]) (results_ctt Try.results38 _ _ (w.heap.size + 1) _ _ _ _ _ rfl rfl rfl hr5 Try.underlying47 rfl store_size) rfl ?_
                have q := q0.out
                exact ⟨_, _, _, [], by rw [q.1, q.2.1]; rfl, ⟨Nat.le_refl _, Nat.zero_le _, fun _ => rfl, fun j u h => by simp at h, fun p h => by simp at h⟩, by rw [q.2.2]; rfl, hbel5, stay_nil _ _ _ _ _⟩
        · have hz : blockE (stOf ps k) F I = 0 := by unfold blockE; rw [if_neg (by rw [H0.out]; simp), if_neg hnl.out, if_neg hil.out, if_neg (by rw [hba.out]; omega)]
          have hfin : Hid (blockN (stOf ps k) F I = B0 ∧ blockE (stOf ps k) F I = 0 ∧ stOf ps k = blockS (stOf ps k) F I) := Lib.hid (by
            refine ⟨?_, hz, ?_⟩
            · unfold blockN; rw [if_neg (by rw [hz]; simp), hba.out, if_neg hneg]
            · unfold blockS; rw [if_neg (by rw [hz]; simp), hba.out, if_neg hneg])
          clear hz
          have hcx := hx2.cell
          have hcr := hres2.cell
          have hfr := hres2.free
          go_upto_region 10 with (fail)
          go_region
          refine abs_set2 (fun W => Exit.then _ _ _ _ W) hres2 fun w6 hgr6 hr6 => ?_
          have hbel6 := hbel2.grown hgr6 hbel2.size (fun k hk => by cases hk; omega)
          clear hcx hcr hfr hcf hx2 hres2 hf2 hbel2 hgr6 hc9
          go_wp2
          refine bodyPost_ret (v := .tuple #[.agg #[.slice (some ⟨b, off, none⟩) ps.length c, .int .i64 k], .int .i64 B0, .int .i64 0]) (results_ctt Try.results38 _ _ (w.heap.size + 1) _ _ _ _ _ rfl rfl rfl hr6 Try.underlying47 rfl store_size) rfl ?_
          exact ⟨_, c, k, ps, by rw [hfin.out.1, hfin.out.2.1], h.below hbel6, hfin.out.2.2, hbel6, stay_same _ _ _ _ _⟩
  · have q0 : Hid _ := Lib.hid (block_err (s := stOf ps k) (k := file) (i := index) (e := wrongSt (stOf ps k)) (by unfold blockE; rw [if_pos h0]) h0)
    have h0' : (wrongSt (stOf ps k) != 0) = true := by simpa using h0
    clear h0
    go_wp2_with (refine wpList_stw rfl _ _ _ rfl (w.heap.size + 1) #[.slice none 0 0, .int .i64 0] rfl rfl _ _ hres rfl store_size (sl_in none 0 0 0) ?_)
    all_goals
      intro w5 hr5 hgr5
      have hbel5 : Below w.heap.size w w5 := hbel.grown hgr5 hbel.size (fun k hk => by cases hk; omega)
      go_wp2
      refine bodyPost_ret (v := .tuple #[.agg #[.slice none 0 0, .int .i64 0], .int .i64 0, .int .i64 (wrongSt (stOf ps k))]) (results_ctt Try.results38 _ _ (w.heap.size + 1) _ _ _ _ _ rfl rfl rfl hr5 Try.underlying47 rfl store_size) rfl ?_
      have q := q0.out
      exact ⟨_, _, _, [], by rw [q.1, q.2.1]; rfl, ⟨Nat.le_refl _, Nat.zero_le _, fun _ => rfl, fun j u h => by simp at h, fun p h => by simp at h⟩, by rw [q.2.2]; rfl, hbel5, stay_nil _ _ _ _ _⟩
end Go.Proofs.Ytmdnmknmniabeaa
