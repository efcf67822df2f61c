/- The document's SetEntry: the walk. -/
import Derived.Test.YtmdnmknmniabeaaTabH
namespace Go.Proofs.Ytmdnmknmniabeaa
open Go.RowKit Pw
set_option linter.unusedSimpArgs false
set_option linter.unusedVariables false

theorem flC_one (l : List En) : (flC l).all (·.oneCell') = true := by
  rw [← Array.all_toList, List.all_eq_true]
  intro u hu
  exact entries_one l u (by simpa [flC] using hu)
set_option maxHeartbeats 4000000 in
set_option maxRecDepth 100000 in
theorem rset_any (t : Tb) (cs : Array Value) (n : Int) (e : En) (w : World) (h : TbR w cs t) : Calls Try.prog 19 #[.agg cs, .int .i64 n, .agg (enC e)] w fun r w' => ∃ cs', r = .returned (.tuple #[.agg cs', .int .i64 (setE t n e)]) ∧ TbO w' w.heap.size cs' (setT t n e) ∧ Below w.heap.size w w' := by
  go_enter Try.func19, Try.ntmps19
  go_upto_region 1 with (fail)
  refine abs3 (fun W => Code.wp _ _ _ _ W) fun W0 hb0 hx0 he0 hres0 hs0 => ?_
  clear hs0
  go_wp2_with (refine wpList_ld rfl 24 (.tmp 3) rfl w.heap.size 0 rfl cs.toList hx0.rd _ Try.underlying24 tab_agg (by rw [Array.length_toList, h.sz]; exact tab_size) ?_)
  refine (rtwrong_any t cs _ (h.below hb0)).mono ?_
  rintro r w1 ⟨rfl, hb1⟩
  have hbel := below_next hb0 hb1
  have hx := hx0.ext hb1
  have he := he0.ext hb1
  have hres := hres0.ext hb1
  clear hb0 hx0 he0 hres0 hb1
  by_cases h0 : wrongT t = 0
  · have H0 := Lib.hid h0
    rw [h0]
    clear h0
    by_cases hn : 0 ≤ n ∧ n < 64
    · obtain ⟨m, rfl⟩ := Int.eq_ofNat_of_zero_le hn.1
      have hm : m < 64 := by omega
      have hm' : (m : Int) < 64 := hn.2
      have hm2 : ¬ 63 < (m : Int) := by omega
      have hn0 : ¬ (m : Int) < 0 := by omega
      clear hn
      go_wp2_with (refine wpList_ld rfl 24 (.tmp 3) rfl w.heap.size 0 rfl cs.toList hx.rd _ Try.underlying24 tab_agg (by rw [Array.length_toList, h.sz]; exact tab_size) ?_)
      refine (tflat_any t cs _ (h.below hbel) H0.out).mono ?_
      rintro r w2 ⟨rfl, hb2⟩
      have hbel2 := below_next hbel hb2
      have he2 := he.ext hb2
      have hres2 := hres.ext hb2
      have hlen : (flatL t).length = 64 := by simp [flatL]
      have hone := flC_one (flatL t)
      have hs192 : Hid ((flC (flatL t)).size = 192) := Lib.hid (by rw [flC_size, hlen])
      have hge : w.heap.size + 2 < w2.heap.size := hres2.lt
      clear hbel hx he hres hb2
      go_wp2_with (refine wpList_stw rfl _ (.tmp 9) (.tmp 26) rfl w2.heap.size (flC (flatL t)) rfl rfl _ _ (Blk.new _ _ _) (by rw [hs192.out]; rfl) (by rw [hs192.out]; exact arr64_size) hone ?_)
      intro w3 hf3 hgr3
      have he3 : Blk w3 (w.heap.size + 1) _ _ := (he2.alloc _).grown hgr3 (fun e => by have := Option.some.inj e; omega)
      have hres3 : Blk w3 (w.heap.size + 2) _ _ := (hres2.alloc _).grown hgr3 (fun e => by have := Option.some.inj e; omega)
      have hbel3 : Below w.heap.size w w3 := (hbel2.alloc hbel2.size _).grown hgr3 (le_alloc' hbel2.size _) (fun k hk => by cases hk; exact hbel2.size)
      have hfit : Hid (m * 3 + 3 ≤ (flC (flatL t)).size) := Lib.hid (by rw [hs192.out]; omega)
      have hset : Hid (putAt (flC (flatL t)) (m * 3) (enL e) = flC ((flatL t).set m e)) := Lib.hid (flC_set _ _ (by rw [hlen]; exact hm) e)
      clear hbel2 he2 hres2 hgr3
      go_wp2_with (first | (refine wpList_ld rfl 26 (.tmp 5) rfl (w.heap.size + 1) 0 rfl (enL e) he3.rd _ Try.underlying26 rfl entry_size ?_) | (refine wpList_stv rfl _ (.tmp 29) (.tmp 28) rfl w2.heap.size (m * 3) _ (enL e) rfl rfl rfl _ _ hf3 hfit.out entry_size (en_one e) ?_))
      intro w4 hf4 hgr4
      rw [hset.out] at hf4
      have he4 : Blk w4 (w.heap.size + 1) _ _ := he3.grown hgr4 (fun e => by have := Option.some.inj e; omega)
      have hres4 : Blk w4 (w.heap.size + 2) _ _ := hres3.grown hgr4 (fun e => by have := Option.some.inj e; omega)
      have hbel4 : Below w.heap.size w w4 := hbel3.grown hgr4 hbel3.size (fun k hk => by cases hk; omega)
      generalize hfl : (flatL t).set m e = fl at hf4
      have HFL := Lib.hid hfl
      have hge4 := hf4.lt
      clear hfl hf3 he3 hres3 hbel3 hgr4 hone hlen hfit hset hs192
      go_upto_region 9 with (fail)
      refine abs1 (fun W => Code.wp _ _ _ _ W) fun w5 hb5 ho5 hs5 => ?_
      have hbel5 := below_next hbel4 hb5
      have he5 := he4.ext hb5
      have hres5 := hres4.ext hb5
      have hf5 := hf4.ext hb5
      clear hs5 hbel4 he4 hres4 hf4 hb5
      have hce := he5.cell
      have e0 : (enC e)[0]? = some (.int .i64 e.k) := rfl
      have e1 : (enC e)[1]? = some (.int .i64 e.n) := rfl
      have e2 : (enC e)[2]? = some (.bool e.w) := rfl
      go_wp2_with (refine wpList_stv rfl _ (.tmp 39) (.tmp 38) rfl w4.heap.size 0 _ [.slice (some ⟨w5.heap.size, 0, none⟩) 8 8] rfl rfl rfl _ _ (ho5.alloc _) (show 0 + 1 ≤ 8 by decide) slent_size (fun u hu => by cases List.mem_singleton.1 hu; rfl) ?_)
      intro w6 ho6 hgr6
      rw [putAt_one] at ho6
      have hlt5 := ho5.lt
      have hlt5r := hres5.lt
      have hlt5f := hf5.lt
      have hL6 : Blk w6 w5.heap.size ((oneL e).flatMap enL).toArray 26 := (Blk.new _ _ _).grown hgr6 (fun e => by have := Option.some.inj e; omega)
      have hres6 : Blk w6 (w.heap.size + 2) _ _ := (hres5.alloc _).grown hgr6 (fun e => by have := Option.some.inj e; omega)
      have hf6 : Blk w6 w2.heap.size _ _ := (hf5.alloc _).grown hgr6 (fun e => by have := Option.some.inj e; omega)
      have hbel6 : Below w.heap.size w w6 := (hbel5.alloc hbel5.size _).grown hgr6 (le_alloc' hbel5.size _) (fun k hk => by cases hk; omega)
      have hOne : TbO w6 w.heap.size (#[.slice none 0 0, .slice none 0 0, .slice none 0 0, .slice none 0 0, .slice none 0 0, .slice none 0 0, .slice none 0 0, .slice none 0 0].setIfInBounds 0 (.slice (some ⟨w5.heap.size, 0, none⟩) 8 8)) (zTb.set 0 (oneL e)) :=
        (zTb_O w6 w.heap.size).put (by decide) (own_of_blk enL_len hL6 (by omega) (show (8:Nat) ≤ maxLen by decide)) (by
          intro g hg j u hj hu hgu
          obtain ⟨v, h1, h2⟩ := (zTb_O w6 (w5.heap.size + 1)).own j (by
            rcases Nat.lt_or_ge j 8 with h | h
            · exact h
            · rw [Array.getElem?_eq_none h] at hu; cases hu)
          rw [hu] at h1
          cases h1
          have h3 := h2.ge g hgu
          cases hg
          exact absurd h3 (by simp))
      generalize hcs1 : (#[.slice none 0 0, .slice none 0 0, .slice none 0 0, .slice none 0 0, .slice none 0 0, .slice none 0 0, .slice none 0 0, .slice none 0 0].setIfInBounds 0 (.slice (some ⟨w5.heap.size, 0, none⟩) 8 8) : Array Value) = cs1 at ho6 hOne
      have hsz1 := hOne.sz
      clear hcs1 hL6 ho5 hres5 hf5 hbel5 hgr6 hce he5 e0 e1 e2
      go_wp2_with (refine wpList_ld rfl 24 (.tmp 10) rfl w4.heap.size 0 rfl cs1.toList ho6.rd _ Try.underlying24 tab_agg (by rw [Array.length_toList, hsz1]; exact tab_size) ?_)
      refine (rtwrong_any (zTb.set 0 (oneL e)) cs1 _ hOne.rd).mono ?_
      rintro r w7 ⟨rfl, hb7⟩
      rw [wrong_one]
      have hbel7 := below_next hbel6 hb7
      have hres7 := hres6.ext hb7
      have hf7 := hf6.ext hb7
      clear hbel6 hres6 hf6 hb7 ho6 hOne
      by_cases h1 : entE e = 0
      · have hs0 : setE t (m : Int) e = 0 := by unfold setE; rw [if_neg (by rw [H0.out]; simp), if_neg (by omega), h1]
        have HS := Lib.hid hs0
        have hset := Lib.hid (setT_tab hs0)
        have hlf : fl.length = 64 := by rw [← HFL.out]; simp [flatL]
        have hsf : Hid (fl.length = 64) := Lib.hid hlf
        rw [h1]
        clear h1 hs0 hlf
        go_wp2_with (refine wpList_ld rfl 33 (.tmp 9) rfl w2.heap.size 0 rfl (flC fl).toList hf7.rd _ Try.underlying33 rfl (by rw [Array.length_toList, flC_size, hsf.out]; exact arr64_size) ?_)
        refine (ttable_any fl _ hsf.out).mono ?_
        rintro r w8 ⟨ca, rfl, hO8, hb8⟩
        have hbel8 := below_next hbel7 hb8
        have hres8 := hres7.ext hb8
        have hO8' := hO8.mono hbel7.size
        have honea := hO8.rd.one
        have hsza := hO8.sz
        clear hbel7 hres7 hf7 hb8 hO8
        go_wp2_with (refine wpList_stw rfl _ (.tmp 6) (.tmp 47) rfl (w.heap.size + 2) ca rfl rfl _ _ hres8 (by rw [hsza]; rfl) (by rw [hsza]; exact tab_size) honea ?_)
        intro wb hrb hgrb
        have hOb := hO8'.keep hres8 (by decide) hgrb
        have hbelb := hbel8.grown hgrb hbel8.size (fun k hk => by cases hk; omega)
        go_wp2
        refine bodyPost_ret (v := .tuple #[.agg ca, .int .i64 0]) (results_ct Try.results19 _ _ (w.heap.size + 2) _ _ _ _ rfl rfl hrb Try.underlying24 rfl (by rw [hsza]; exact tab_size)) rfl ?_
        exact ⟨_, by rw [HS.out], by rw [hset.out, Int.toNat_natCast, HFL.out]; exact hOb, hbelb⟩
      · have q0 : Hid (setE t (m : Int) e = entE e ∧ entE e ≠ 0) := Lib.hid ⟨by unfold setE; rw [if_neg (by rw [H0.out]; simp), if_neg (by omega)], h1⟩
        have h1' : (entE e != 0) = true := by simpa using h1
        have hbel := hbel7
        have hres := hres7
        clear h1 hbel7 hres7
        go_wp2_with (refine wpList_stw rfl _ (.tmp 6) (.tmp 44) rfl (w.heap.size + 2) #[.slice none 0 0, .slice none 0 0, .slice none 0 0, .slice none 0 0, .slice none 0 0, .slice none 0 0, .slice none 0 0, .slice none 0 0] rfl rfl _ _ hres rfl tab_size (by simp [Value.oneCell']) ?_)
        all_goals
          intro w5 hr5 hgr5
          have hbel5 : Below w.heap.size w w5 := hbel.grown hgr5 hbel.size (fun k hk => by cases hk; omega)
          go_wp2
          refine bodyPost_ret (v := .tuple #[.agg #[.slice none 0 0, .slice none 0 0, .slice none 0 0, .slice none 0 0, .slice none 0 0, .slice none 0 0, .slice none 0 0, .slice none 0 0], .int .i64 (entE e)]) (results_ct Try.results19 _ _ (w.heap.size + 2) _ _ _ _ rfl rfl hr5 Try.underlying24 rfl tab_size) rfl ?_
          have q := q0.out
          exact ⟨_, by rw [q.1], by rw [setT_err (by rw [q.1]; exact q.2)]; exact zTb_O _ _, hbel5⟩
    · have q0 : Hid (setE t n e = 3 ∧ (3 : Int) ≠ 0) := Lib.hid ⟨by unfold setE; rw [if_neg (by rw [H0.out]; simp), if_pos (by omega)], by decide⟩
      have hn' : n < 0 ∨ 63 < n := by omega
      clear hn
      by_cases hn0 : n < 0
      · skip
        go_wp2_with (refine wpList_stw rfl _ (.tmp 6) (.tmp 24) rfl (w.heap.size + 2) #[.slice none 0 0, .slice none 0 0, .slice none 0 0, .slice none 0 0, .slice none 0 0, .slice none 0 0, .slice none 0 0, .slice none 0 0] rfl rfl _ _ hres rfl tab_size (by simp [Value.oneCell']) ?_)
        all_goals
          intro w5 hr5 hgr5
          have hbel5 : Below w.heap.size w w5 := hbel.grown hgr5 hbel.size (fun k hk => by cases hk; omega)
          go_wp2
          refine bodyPost_ret (v := .tuple #[.agg #[.slice none 0 0, .slice none 0 0, .slice none 0 0, .slice none 0 0, .slice none 0 0, .slice none 0 0, .slice none 0 0, .slice none 0 0], .int .i64 (3)]) (results_ct Try.results19 _ _ (w.heap.size + 2) _ _ _ _ rfl rfl hr5 Try.underlying24 rfl tab_size) rfl ?_
          have q := q0.out
          exact ⟨_, by rw [q.1], by rw [setT_err (by rw [q.1]; exact q.2)]; exact zTb_O _ _, hbel5⟩
      · have hn1 : 63 < n := by omega
        have hn0' : decide (n < 0) = false := by simp; omega
        go_wp2_with (refine wpList_stw rfl _ (.tmp 6) (.tmp 24) rfl (w.heap.size + 2) #[.slice none 0 0, .slice none 0 0, .slice none 0 0, .slice none 0 0, .slice none 0 0, .slice none 0 0, .slice none 0 0, .slice none 0 0] rfl rfl _ _ hres rfl tab_size (by simp [Value.oneCell']) ?_)
        all_goals
          intro w5 hr5 hgr5
          have hbel5 : Below w.heap.size w w5 := hbel.grown hgr5 hbel.size (fun k hk => by cases hk; omega)
          go_wp2
          refine bodyPost_ret (v := .tuple #[.agg #[.slice none 0 0, .slice none 0 0, .slice none 0 0, .slice none 0 0, .slice none 0 0, .slice none 0 0, .slice none 0 0, .slice none 0 0], .int .i64 (3)]) (results_ct Try.results19 _ _ (w.heap.size + 2) _ _ _ _ rfl rfl hr5 Try.underlying24 rfl tab_size) rfl ?_
          have q := q0.out
          exact ⟨_, by rw [q.1], by rw [setT_err (by rw [q.1]; exact q.2)]; exact zTb_O _ _, hbel5⟩
  · have q0 : Hid (setE t n e = wrongT t ∧ wrongT t ≠ 0) := Lib.hid ⟨by unfold setE; rw [if_pos h0], h0⟩
    have h0' : (wrongT t != 0) = true := by simpa using h0
    clear h0
    go_wp2_with (refine wpList_stw rfl _ (.tmp 6) (.tmp 16) rfl (w.heap.size + 2) #[.slice none 0 0, .slice none 0 0, .slice none 0 0, .slice none 0 0, .slice none 0 0, .slice none 0 0, .slice none 0 0, .slice none 0 0] rfl rfl _ _ hres rfl tab_size (by simp [Value.oneCell']) ?_)
    all_goals
      intro w5 hr5 hgr5
      have hbel5 : Below w.heap.size w w5 := hbel.grown hgr5 hbel.size (fun k hk => by cases hk; omega)
      go_wp2
      refine bodyPost_ret (v := .tuple #[.agg #[.slice none 0 0, .slice none 0 0, .slice none 0 0, .slice none 0 0, .slice none 0 0, .slice none 0 0, .slice none 0 0, .slice none 0 0], .int .i64 (wrongT t)]) (results_ct Try.results19 _ _ (w.heap.size + 2) _ _ _ _ rfl rfl hr5 Try.underlying24 rfl tab_size) rfl ?_
      have q := q0.out
      exact ⟨_, by rw [q.1], by rw [setT_err (by rw [q.1]; exact q.2)]; exact zTb_O _ _, hbel5⟩
end Go.Proofs.Ytmdnmknmniabeaa
