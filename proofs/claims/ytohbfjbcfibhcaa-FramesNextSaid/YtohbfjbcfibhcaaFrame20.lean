/- The law FramesNext, walked: up to the second loop. -/
import Derived.Test.YtohbfjbcfibhcaaMaps
import Derived.Test.YtohbfjbcfibhcaaGrowT
import Derived.BigRegion
namespace Go.Proofs.Ytohbfjbcfibhcaa
open Go.RowKit Go.Maps Pw
set_option linter.unusedSimpArgs false
set_option linter.unusedVariables false

theorem cell_lt {w : World} {b o : Nat} {v : Value} (h : w.cell? ⟨b, o, none⟩ = some v) : b < w.heap.size := by
  rcases Nat.lt_or_ge b w.heap.size with h1 | h1
  · exact h1
  · simp [World.cell?, Array.getElem?_eq_none h1] at h
theorem abs2d {w : World} {X Y : Array Value} {TX TY : TypeId} (m : World → Prop) (h : ∀ W, Below w.heap.size w W → Blk W w.heap.size X TX → Blk W (w.heap.size + 1) Y TY → m W) : m (((w.alloc (.cells X TX)).alloc (.cells Y TY)).drew) :=
  h _ (below_drewN (((Below.refl _ _).alloc (Nat.le_refl _) _).alloc (le_alloc _ _) _) 1) ((Blk.new _ _ _).alloc _) (by have h1 := Blk.new (w.alloc (.cells X TX)) Y TY; have h2 : Blk ((w.alloc (.cells X TX)).alloc (.cells Y TY)) (w.heap.size + 1) Y TY := (by simpa using h1); exact h2)
set_option maxHeartbeats 4000000 in
set_option maxRecDepth 100000 in
theorem frames_next (m : Mem) (a : Option Addr) (c : Nat) (w : World) (h : MRd w a c m) :
    Calls Try.prog 14 #[.agg #[.slice a m.fs.length c, .int .i64 m.hand]] w fun e w' => e = .returned (.bool true) ∧ Below w.heap.size w w' := by
  have hmm := @run_makeMap Try.prog
  go_enter Try.func14, Try.ntmps14
  go_wp2_with fail
  refine abs1 (fun W => Calls _ _ _ W _) fun W0 hb0 hx0 _ => ?_
  refine (alive3 _).mono ?_
  rintro e w1 ⟨rfl, hb1⟩
  have hbel1 := below_next hb0 hb1
  have hx1 := hx0.ext hb1
  have hd1 := h.below hbel1
  clear hx0 hb0 hb1
  have hc1 := hx1.cell
  go_wp2_with fail
  refine (mnext_any m a c _ hd1).mono ?_
  rintro e w2 ⟨vb, rfl, ho2, hb2⟩
  have hbel2 := below_next hbel1 hb2
  have hx2 := hx1.ext hb2
  have hge2 := hbel1.size
  have ho2' := ho2.mono hge2
  obtain ⟨a2, c2, rfl, _⟩ := mown_rd ho2
  clear hx1 hd1 hb2 ho2 hc1
  by_cases hw : wrongM m = 0
  · rw [hw]
    by_cases hf : freeN m.fs = m.fs.length
    · have q3 : nextK m = -1 := by unfold nextK; rw [if_neg (fun e => e hw), if_pos hf]
      have hfb : ((freeN m.fs : Int) == (m.fs.length : Int)) = true := by simp [hf]
      rw [q3]
      clear q3 ho2'
      go_upto_region 5 with (fail)
      refine abs1 (fun W => Code.wp _ _ _ _ W) fun w3 hb3 _ hs3 => ?_
      have hbel3 := below_next hbel2 hb3
      have hx3 := hx2.ext hb3
      have hd3 := h.below hbel3
      clear hx2 hb3 hs3
      refine wp_growT 10 [isV (.int .i64 0), isV (.bool false), isV (.bool false), isV (.agg #[.slice a m.fs.length c, .int .i64 m.hand]), isV (.int .i64 (freeN m.fs)), isV (.pointer (some ⟨w.heap.size, 0, none⟩)), isV (.slice a m.fs.length c), isV (.int .i64 (m.fs.length : Int)), isV (.bool true), isV (.bool true)] (by kernel_rfl) (by kernel_rfl) (by kernel_rfl) (by decide) _ rfl (by kernel_rfl) (all_cons ?_ (all_cons ?_ (all_cons ?_ (all_cons ?_ (all_cons ?_ (all_cons ?_ (all_cons ?_ (all_cons ?_ (all_cons ?_ (all_cons ?_ (all_nil))))))))))) ?_
      · intro ρ y W hw hn hb hd
        have E5 : ρ (.tmp 5) = .int .i64 0 := (hn (.tmp 5) rfl).trans rfl
        refine asked_val (.int .i64 0) (want_free rfl) (run_move (.inl rfl) E5) rfl
      · intro ρ y W hw hn hb hd
        have E27 := hw 27 0 rfl
        have h0 : y 0 = .int .i64 0 := hd 0 rfl
        refine asked_val (.bool false) (want_free rfl) (run_bin rfl (E27.trans h0) (hn (.const _) trivial) (by simp [go_sem])) rfl
      · intro ρ y W hw hn hb hd
        have E28 := hw 28 1 rfl
        have h1 : y 1 = .bool false := hd 1 rfl
        refine asked_val (.bool false) (want_free rfl) (run_move (.inl rfl) (E28.trans h1)) rfl
      · intro ρ y W hw hn hb hd
        have E1 : ρ (.tmp 1) = .pointer (some ⟨w.heap.size, 0, none⟩) := (hn (.tmp 1) rfl).trans rfl
        refine asked_val (.agg #[.slice a m.fs.length c, .int .i64 m.hand]) (want_at 2 29 false false rfl rfl ((hw 29 2 rfl).trans (hd 2 rfl))) (by simp [execOp, go_sem, E1, (hx3.ext hb).cell]) rfl
      · intro ρ y W hw hn hb hd
        have E30 := hw 30 3 rfl
        have h3 : y 3 = .agg #[.slice a m.fs.length c, .int .i64 m.hand] := hd 3 rfl
        have EF : ∀ f, ρ (.func f) = .func (.func f) #[] #[] := fun f => hn (.func f) trivial
        refine asked_call _ _ (want_at 2 29 false false rfl rfl ((hw 29 2 rfl).trans (hd 2 rfl))) (run_call rfl (EF _) Try.func48 (by kernel_rfl) (by kernel_rfl) (by simp only [List.map_toArray, List.map_cons, List.map_nil, E30, h3, EF]; rfl)) ?_
        refine (mfree_any m a c W (hd3.below hb)).mono ?_
        rintro e w1 ⟨rfl, hb1⟩
        exact ⟨_, rfl, hb1, rfl⟩
      · intro ρ y W hw hn hb hd
        have E1 : ρ (.tmp 1) = .pointer (some ⟨w.heap.size, 0, none⟩) := (hn (.tmp 1) rfl).trans rfl
        refine asked_val (.pointer (some ⟨w.heap.size, 0, none⟩)) (want_at 2 29 false false rfl rfl ((hw 29 2 rfl).trans (hd 2 rfl))) (by simp [execOp, go_sem, E1]) rfl
      · intro ρ y W hw hn hb hd
        have E32 := hw 32 5 rfl
        have h5 : y 5 = .pointer (some ⟨w.heap.size, 0, none⟩) := hd 5 rfl
        refine asked_val (.slice a m.fs.length c) (want_at 2 29 false false rfl rfl ((hw 29 2 rfl).trans (hd 2 rfl))) (by simp [execOp, go_sem, E32, h5, (hx3.ext hb).cell, Try.underlying62]) rfl
      · intro ρ y W hw hn hb hd
        have E33 := hw 33 6 rfl
        have h6 : y 6 = .slice a m.fs.length c := hd 6 rfl
        refine asked_val (.int .i64 (m.fs.length : Int)) (want_at 2 29 false false rfl rfl ((hw 29 2 rfl).trans (hd 2 rfl))) (run_lenS rfl (E33.trans h6) Try.underlying62) rfl
      · intro ρ y W hw hn hb hd
        have E31 := hw 31 4 rfl
        have h4 : y 4 = .int .i64 (freeN m.fs) := hd 4 rfl
        have E34 := hw 34 7 rfl
        have h7 : y 7 = .int .i64 (m.fs.length : Int) := hd 7 rfl
        refine asked_val (.bool true) (want_at 2 29 false false rfl rfl ((hw 29 2 rfl).trans (hd 2 rfl))) (run_bin rfl (E31.trans h4) (E34.trans h7) (by simp [go_sem, hfb])) rfl
      · intro ρ y W hw hn hb hd
        have E29 := hw 29 2 rfl
        have h2 : y 2 = .bool false := hd 2 rfl
        have E35 := hw 35 8 rfl
        have h8 : y 8 = .bool true := hd 8 rfl
        refine asked_val (.bool true) (want_free rfl) (run_pick rfl (E29.trans h2) (by simpa using (E35.trans h8))) rfl
      intro y WA hbWA hRWA
      have hy0 : y 0 = .int .i64 0 := hRWA 0 (by decide)
      have hy1 : y 1 = .bool false := hRWA 1 (by decide)
      have hy2 : y 2 = .bool false := hRWA 2 (by decide)
      have hy3 : y 3 = .agg #[.slice a m.fs.length c, .int .i64 m.hand] := hRWA 3 (by decide)
      have hy4 : y 4 = .int .i64 (freeN m.fs) := hRWA 4 (by decide)
      have hy5 : y 5 = .pointer (some ⟨w.heap.size, 0, none⟩) := hRWA 5 (by decide)
      have hy6 : y 6 = .slice a m.fs.length c := hRWA 6 (by decide)
      have hy7 : y 7 = .int .i64 (m.fs.length : Int) := hRWA 7 (by decide)
      have hy8 : y 8 = .bool true := hRWA 8 (by decide)
      have hy9 : y 9 = .bool true := hRWA 9 (by decide)
      clear hRWA
      simp only [lay, Nat.reduceAdd, Nat.reduceLT, decide_true, decide_false, if_true, Bool.false_eq_true, if_false, List.setIfInBounds_toArray, List.set_cons_zero, List.set_cons_succ, List.drop_succ_cons, List.drop_zero, List.drop_nil, hy0, hy1, hy2, hy3, hy4, hy5, hy6, hy7, hy8, hy9]
      clear hy0 hy1 hy2 hy3 hy4 hy5 hy6 hy7 hy8 hy9
      go_wp2
      go_ret
      exact ⟨rfl, below_next hbel3 hbWA⟩
    · obtain ⟨hS1, hS2, hS3⟩ := next_s m hw hf
      have q2 : nextM m = ⟨clrM m (nextS m), (idxM m (nextS m + 1) : Nat)⟩ := by unfold nextM; rw [if_neg (fun e => e hw), if_neg hf]
      have q3 : nextK m = (idxM m (nextS m) : Nat) := by unfold nextK; rw [if_neg (fun e => e hw), if_neg hf]
      have hpos : 0 < m.fs.length := by
        rcases Nat.eq_zero_or_pos m.fs.length with h0 | h0
        · exact absurd (by have := freeN_le m.fs; omega) hf
        · exact h0
      have hkl := idx_lt hpos (nextS m)
      have hst := (stop_eq m (nextS m) hpos).symm.trans hS2
      have hca := clr_at m (nextS m) hpos
      obtain ⟨k, hk⟩ : ∃ k, k = idxM m (nextS m) := ⟨_, rfl⟩
      rw [← hk] at q3 hkl
      have hks : idxM m (nextS m + 1) = (k + 1) % m.fs.length := by
        rw [hk]; unfold idxM; rw [Nat.mod_add_mod, Nat.add_assoc]
      obtain ⟨X, hX⟩ : ∃ X, X = clrM m (nextS m) := ⟨_, rfl⟩
      have hXl : X.length = m.fs.length := by rw [hX, clr_len]
      have hXk : ∃ hh : k < X.length, X[k].u = false ∧ 0 < m.fs[k].r := by
        refine ⟨by omega, ?_⟩
        subst hk hX
        rw [Bool.and_eq_true, decide_eq_true_eq, Bool.not_eq_true'] at hst
        refine ⟨hst.2, ?_⟩
        have := hst.1
        rw [hca] at this
        split at this
        · exact this
        · exact this
      have hXi : Hid (∀ i (hi : i < m.fs.length), X[i]? = some m.fs[i] ∨ X[i]? = some (unused m.fs[i])) := by
        intro i hi
        subst hX
        rw [List.getElem?_eq_getElem (by rw [clr_len]; exact hi), clr_get m _ i hi]
        split
        · exact .inr rfl
        · exact .inl rfl
      rw [q3]
      have e1 : (nextM m).fs.length = m.fs.length := by rw [q2]; show (clrM m (nextS m)).length = _; rw [clr_len]
      have e2 : (nextM m).hand = ((k + 1) % m.fs.length : Nat) := by rw [q2, ← hks]
      have e3 : (nextM m).fs = X := by rw [q2, hX]
      rw [e1, e3] at ho2'
      rw [e1, e2]
      obtain ⟨hkX, hXu, hmr⟩ := hXk
      have hXl' := Lib.hid hXl
      have ho2'' := ho2'
      clear ho2' e1 e2 e3 q2 q3 hst hca hX hk hks hS1 hS2 hS3
      have hXk := Lib.hid (And.intro hXu hmr)
      have hX8 := Lib.hid hXl
      obtain ⟨b2, off2, cap2, _, hv2, _⟩ := own_putn frL_len (by decide) hXl ho2'' k hkl
      cases hv2
      clear hXu hXl
      go_upto_region 6 with (fail)
      refine abs1 (fun W => Code.wp _ _ _ _ W) fun w3 hb3 hy3 hs3 => ?_
      have hbel3 := below_next hbel2 hb3
      have hx3 := hx2.ext hb3
      have hd3 := h.below hbel3
      have ho3 := ho2''.below hb3
      have hg20 := hx2.lt
      clear hx2 hb3 hs3 hbel2 ho2''
      have hcx := hx3.cell
      have hcy := hy3.cell
      obtain ⟨b, off, rfl, hc⟩ := fr_at hd3.rd k hkl
      have c8 := hc.c8
      have hrb : (m.fs[k].r == 0) = false := by simp; omega
      obtain ⟨_, _, hv, _, _, _, hrd3⟩ := ho3.rd
      cases hv
      obtain ⟨_, _, hv, hc'⟩ := fr_at hrd3 k hkX
      cases hv
      have c9 := hc'.c9
      rw [hXk.out.1] at c9
      have hkz : (k : Int) < (m.fs.length : Int) := by omega
      have hkz' : ¬ (m.fs.length : Int) ≤ (k : Int) := by omega
      have lb := Nat.le_trans h.le h.mx
      unfold maxLen at lb
      have hg2 : w.heap.size < w2.heap.size := hg20
      clear hc hc' hrd3
      go_wp2
      clear hcx hcy c8 c9
      go_loopw [62] (fun i wr => ∃ (j : Nat) (cur : List Fr), j ≤ m.fs.length ∧ i = .int .i64 j ∧ Below w.heap.size w wr ∧ Blk wr w.heap.size #[.slice (some ⟨b, off, none⟩) m.fs.length c, .int .i64 m.hand] 64 ∧ Blk wr w2.heap.size #[.slice (some ⟨b2, off2, none⟩) m.fs.length c2, .int .i64 ((k + 1) % m.fs.length : Nat)] 64 ∧ Own wr w.heap.size 72 13 (.slice (some ⟨b2, off2, none⟩) m.fs.length c2) m.fs.length (cur.flatMap frL) ∧ Hid (cur.length = m.fs.length ∧ ∀ q, q < m.fs.length → cur[q]? = if q < j then (m.fs[q]?).map unused else X[q]?)) (fun i _ => m.fs.length - (intOf i).toNat)
      case atStart => exact ⟨0, X, Nat.zero_le _, rfl, hbel3, hx3, hy3, ho3, Lib.hid ⟨hXl'.out, fun q _ => by simp⟩⟩
      case round =>
        clear hbel3 hx3 hy3 ho3
        obtain ⟨j, cur, hj, rfl, hbel, hx, hy, ho, hcur⟩ := hrel
        by_cases hlt : j < m.fs.length
        · obtain ⟨_, _, hv, hc⟩ := fr_at (h.below hbel).rd j hlt
          cases hv
          obtain ⟨c0, c1, c2', c3, c4, c5, c6, c7, c8, c9, ca, cb, cc⟩ := hc
          have hjc : j < cur.length := by have := hcur.out.1; omega
          obtain ⟨_, _, hv, _, _, _, hrdo⟩ := ho.rd
          cases hv
          obtain ⟨_, _, hv, hc'⟩ := fr_at hrdo j hjc
          cases hv
          have hF : cur[j] = m.fs[j] ∨ cur[j] = unused m.fs[j] := by
            have h1 := hcur.out.2 j hlt
            rw [List.getElem?_eq_getElem hjc, if_neg (by omega)] at h1
            rcases hXi.out j hlt with h2 | h2
            · rw [h2] at h1; exact .inl (Option.some.inj h1)
            · rw [h2] at h1; exact .inr (Option.some.inj h1)
          have hjz : (j : Int) < (m.fs.length : Int) := by omega
          generalize hG : cur[j] = G at hc' hF
          have hG' := Lib.hid hG
          have hF' := Lib.hid hF
          obtain ⟨d0, d1, d2, d3, d4, d5, d6, d7, d8, d9, da, db, dc⟩ := hc'
          clear hG hF hrdo
          have hcx := hx.cell
          have hcy := hy.cell
          have hal : ∀ (W : World) (O : Obj) (A : Addr), A.block < W.heap.size → (W.alloc O).cell? A = W.cell? A := fun W O A hA => World.cell?_of_block ((Below.heap_alloc W O A.block hA))
          have l1 := hx.lt
          have l2 := hy.lt
          have l3 : b < wr.heap.size := cell_lt c0
          have l4 : b2 < wr.heap.size := cell_lt d0
          have l5 := Nat.lt_succ_of_lt l1
          have l6 := Nat.lt_succ_of_lt l2
          have l7 := Nat.lt_succ_of_lt l3
          have l8 := Nat.lt_succ_of_lt l4
          go_upto_region 11 with (fail)
          go_region
          · refine abs2d (fun W => Exit.then _ _ _ _ W) fun W hbW hA hB => ?_
            clear c0 c1 c2' c3 c4 c5 c6 c7 c8 c9 ca cb cc d0 d1 d2 d3 d4 d5 d6 d7 d8 d9 da db dc hcx hcy hal l3 l4 l5 l6 l7 l8
            have hA8 : Blk W (wr.heap.size) (frC m.fs[j]) 72 := hA
            have hB8 : Blk W (wr.heap.size + 1) (frC G) 72 := hB
            clear hA hB
            have huu : Hid (unused G = unused m.fs[j]) := by
              rcases hF'.out with e | e
              · show unused G = _; rw [e]
              · show unused G = _; rw [e]; rfl
            have hgu : Hid (G.u = true → m.fs[j].u = true) := by
              intro e
              rcases hF'.out with e2 | e2
              · rw [← e2]; exact e
              · rw [e2] at e; cases e
            have hcA := hA8.cell
            have hcB := hB8.cell
            have hfA := hA8.free
            have hfB := hB8.free
            have hlA := hA8.lt
            have hlB := hB8.lt
            simp only [frC] at hcA hcB
            cases hGu : G.u with
            | true =>
              have hmu := hgu.out hGu
              rw [hGu] at hcB
              rw [hmu] at hcA
              clear hGu hmu
              go_upto_region 15 with (fail)
              have hA9 := (hA8.setCell 9 (.bool false)).setCell_other ⟨wr.heap.size + 1, 9, none⟩ (.bool false) (by simp)
              have hB9 := (hB8.setCell_other ⟨wr.heap.size, 9, none⟩ (.bool false) (by simp)).setCell 9 (.bool false)
              have hbW9 : Below wr.heap.size wr ((W.setCell ⟨wr.heap.size, 9, none⟩ (.bool false)).setCell ⟨wr.heap.size + 1, 9, none⟩ (.bool false)) := (hbW.setCell (by simp) _).setCell (by simp) _
              generalize (W.setCell ⟨wr.heap.size, 9, none⟩ (.bool false)).setCell ⟨wr.heap.size + 1, 9, none⟩ (.bool false) = W9 at *
              have hA9' : Blk W9 (wr.heap.size) (frC (unused m.fs[j])) 72 := hA9
              have hB9' : Blk W9 (wr.heap.size + 1) (frC (unused m.fs[j])) 72 := by rw [← huu.out]; exact hB9
              have hbel9 := below_next hbel hbW9
              have hx9 := hx.ext hbW9
              have hy9 := hy.ext hbW9
              have ho9 := ho.below hbW9
              clear hA9 hB9 hA8 hB8 hbW hbW9 hcA hcB hfA hfB hlA hlB l1 l2 hbel hx hy ho
              have hcA := hA9'.cell
              have hcB := hB9'.cell
              have hcy := hy9.cell
              have hE := eqFr' (unused m.fs[j]) (unused m.fs[j]) true (beq_self_eq_true _)
              simp only [frC, unused] at hcA hcB hE
              obtain ⟨_, _, _, hv, hBg, hgl, ⟨csg, hgb⟩, hcc, hfz, hset⟩ := own_cell frL_len (by decide) hcur.out.1 ho9 j hlt 9 (by decide) (.bool false) (unused m.fs[j]) (by rw [hG'.out, ← huu.out]; rfl)
              cases hv
              have hc9 := hcc 9 (.bool G.u) (by rw [hG'.out]; rfl)
              have hb2x : b2 ≠ w.heap.size := by
                intro e; rw [e] at hgb
                unfold Blk at hx9 hgb
                rw [hx9] at hgb
                cases hgb
              have hb2y : b2 ≠ w2.heap.size := by
                intro e; rw [e] at hgb
                unfold Blk at hy9 hgb
                rw [hy9] at hgb
                cases hgb
              have hnew : Hid ((cur.set j (unused m.fs[j])).length = m.fs.length ∧ ∀ q, q < m.fs.length → (cur.set j (unused m.fs[j]))[q]? = if q < j + 1 then (m.fs[q]?).map unused else X[q]?) := by
                refine ⟨by rw [List.length_set]; exact hcur.out.1, fun q hq => ?_⟩
                rw [List.getElem?_set]
                by_cases e : j = q
                · subst e
                  rw [if_pos rfl, if_pos hjc, if_pos (by omega), List.getElem?_eq_getElem hlt]
                  rfl
                · rw [if_neg e, hcur.out.2 q hq]
                  by_cases h : q < j
                  · rw [if_pos h, if_pos (by omega)]
                  · rw [if_neg h, if_neg (by omega)]
              clear hcc hgb
              go_wp2
              go_roundw
              case rel => exact ⟨j + 1, cur.set j (unused m.fs[j]), by omega, by go_num, hbel9.setCell hBg _, hx9.setCell_other _ _ (by simpa using hb2x.symm), hy9.setCell_other _ _ (by simpa using hb2y.symm), hset, hnew⟩
              case measure => simp [intOf]; omega
            | false =>
              rw [hGu] at hcB
              clear hGu
              go_upto_region 15 with (fail)
              have hA9 := (hA8.setCell 9 (.bool false)).setCell_other ⟨wr.heap.size + 1, 9, none⟩ (.bool false) (by simp)
              have hB9 := (hB8.setCell_other ⟨wr.heap.size, 9, none⟩ (.bool false) (by simp)).setCell 9 (.bool false)
              have hbW9 : Below wr.heap.size wr ((W.setCell ⟨wr.heap.size, 9, none⟩ (.bool false)).setCell ⟨wr.heap.size + 1, 9, none⟩ (.bool false)) := (hbW.setCell (by simp) _).setCell (by simp) _
              generalize (W.setCell ⟨wr.heap.size, 9, none⟩ (.bool false)).setCell ⟨wr.heap.size + 1, 9, none⟩ (.bool false) = W9 at *
              have hA9' : Blk W9 (wr.heap.size) (frC (unused m.fs[j])) 72 := hA9
              have hB9' : Blk W9 (wr.heap.size + 1) (frC (unused m.fs[j])) 72 := by rw [← huu.out]; exact hB9
              have hbel9 := below_next hbel hbW9
              have hx9 := hx.ext hbW9
              have hy9 := hy.ext hbW9
              have ho9 := ho.below hbW9
              clear hA9 hB9 hA8 hB8 hbW hbW9 hcA hcB hfA hfB hlA hlB l1 l2 hbel hx hy ho
              have hcA := hA9'.cell
              have hcB := hB9'.cell
              have hcy := hy9.cell
              have hE := eqFr' (unused m.fs[j]) (unused m.fs[j]) true (beq_self_eq_true _)
              simp only [frC, unused] at hcA hcB hE
              obtain ⟨_, _, _, hv, hBg, hgl, ⟨csg, hgb⟩, hcc, hfz, hset⟩ := own_cell frL_len (by decide) hcur.out.1 ho9 j hlt 9 (by decide) (.bool false) (unused m.fs[j]) (by rw [hG'.out, ← huu.out]; rfl)
              cases hv
              have hc9 := hcc 9 (.bool G.u) (by rw [hG'.out]; rfl)
              have hb2x : b2 ≠ w.heap.size := by
                intro e; rw [e] at hgb
                unfold Blk at hx9 hgb
                rw [hx9] at hgb
                cases hgb
              have hb2y : b2 ≠ w2.heap.size := by
                intro e; rw [e] at hgb
                unfold Blk at hy9 hgb
                rw [hy9] at hgb
                cases hgb
              have hnew : Hid ((cur.set j (unused m.fs[j])).length = m.fs.length ∧ ∀ q, q < m.fs.length → (cur.set j (unused m.fs[j]))[q]? = if q < j + 1 then (m.fs[q]?).map unused else X[q]?) := by
                refine ⟨by rw [List.length_set]; exact hcur.out.1, fun q hq => ?_⟩
                rw [List.getElem?_set]
                by_cases e : j = q
                · subst e
                  rw [if_pos rfl, if_pos hjc, if_pos (by omega), List.getElem?_eq_getElem hlt]
                  rfl
                · rw [if_neg e, hcur.out.2 q hq]
                  by_cases h : q < j
                  · rw [if_pos h, if_pos (by omega)]
                  · rw [if_neg h, if_neg (by omega)]
              clear hcc hgb
              go_wp2
              go_roundw
              case rel => exact ⟨j + 1, cur.set j (unused m.fs[j]), by omega, by go_num, hbel9.setCell hBg _, hx9.setCell_other _ _ (by simpa using hb2x.symm), hy9.setCell_other _ _ (by simpa using hb2y.symm), hset, hnew⟩
              case measure => simp [intOf]; omega
          · refine abs2d (fun W => Exit.then _ _ _ _ W) fun W hbW hB hA => ?_
            clear c0 c1 c2' c3 c4 c5 c6 c7 c8 c9 ca cb cc d0 d1 d2 d3 d4 d5 d6 d7 d8 d9 da db dc hcx hcy hal l3 l4 l5 l6 l7 l8
            have hA8 : Blk W (wr.heap.size + 1) (frC m.fs[j]) 72 := hA
            have hB8 : Blk W (wr.heap.size) (frC G) 72 := hB
            clear hA hB
            have huu : Hid (unused G = unused m.fs[j]) := by
              rcases hF'.out with e | e
              · show unused G = _; rw [e]
              · show unused G = _; rw [e]; rfl
            have hgu : Hid (G.u = true → m.fs[j].u = true) := by
              intro e
              rcases hF'.out with e2 | e2
              · rw [← e2]; exact e
              · rw [e2] at e; cases e
            have hcA := hA8.cell
            have hcB := hB8.cell
            have hfA := hA8.free
            have hfB := hB8.free
            have hlA := hA8.lt
            have hlB := hB8.lt
            simp only [frC] at hcA hcB
            cases hGu : G.u with
            | true =>
              have hmu := hgu.out hGu
              rw [hGu] at hcB
              rw [hmu] at hcA
              clear hGu hmu
              go_upto_region 15 with (fail)
              have hA9 := (hA8.setCell 9 (.bool false)).setCell_other ⟨wr.heap.size, 9, none⟩ (.bool false) (by simp)
              have hB9 := (hB8.setCell_other ⟨wr.heap.size + 1, 9, none⟩ (.bool false) (by simp)).setCell 9 (.bool false)
              have hbW9 : Below wr.heap.size wr ((W.setCell ⟨wr.heap.size + 1, 9, none⟩ (.bool false)).setCell ⟨wr.heap.size, 9, none⟩ (.bool false)) := (hbW.setCell (by simp) _).setCell (by simp) _
              generalize (W.setCell ⟨wr.heap.size + 1, 9, none⟩ (.bool false)).setCell ⟨wr.heap.size, 9, none⟩ (.bool false) = W9 at *
              have hA9' : Blk W9 (wr.heap.size + 1) (frC (unused m.fs[j])) 72 := hA9
              have hB9' : Blk W9 (wr.heap.size) (frC (unused m.fs[j])) 72 := by rw [← huu.out]; exact hB9
              have hbel9 := below_next hbel hbW9
              have hx9 := hx.ext hbW9
              have hy9 := hy.ext hbW9
              have ho9 := ho.below hbW9
              clear hA9 hB9 hA8 hB8 hbW hbW9 hcA hcB hfA hfB hlA hlB l1 l2 hbel hx hy ho
              have hcA := hA9'.cell
              have hcB := hB9'.cell
              have hcy := hy9.cell
              have hE := eqFr' (unused m.fs[j]) (unused m.fs[j]) true (beq_self_eq_true _)
              simp only [frC, unused] at hcA hcB hE
              obtain ⟨_, _, _, hv, hBg, hgl, ⟨csg, hgb⟩, hcc, hfz, hset⟩ := own_cell frL_len (by decide) hcur.out.1 ho9 j hlt 9 (by decide) (.bool false) (unused m.fs[j]) (by rw [hG'.out, ← huu.out]; rfl)
              cases hv
              have hc9 := hcc 9 (.bool G.u) (by rw [hG'.out]; rfl)
              have hb2x : b2 ≠ w.heap.size := by
                intro e; rw [e] at hgb
                unfold Blk at hx9 hgb
                rw [hx9] at hgb
                cases hgb
              have hb2y : b2 ≠ w2.heap.size := by
                intro e; rw [e] at hgb
                unfold Blk at hy9 hgb
                rw [hy9] at hgb
                cases hgb
              have hnew : Hid ((cur.set j (unused m.fs[j])).length = m.fs.length ∧ ∀ q, q < m.fs.length → (cur.set j (unused m.fs[j]))[q]? = if q < j + 1 then (m.fs[q]?).map unused else X[q]?) := by
                refine ⟨by rw [List.length_set]; exact hcur.out.1, fun q hq => ?_⟩
                rw [List.getElem?_set]
                by_cases e : j = q
                · subst e
                  rw [if_pos rfl, if_pos hjc, if_pos (by omega), List.getElem?_eq_getElem hlt]
                  rfl
                · rw [if_neg e, hcur.out.2 q hq]
                  by_cases h : q < j
                  · rw [if_pos h, if_pos (by omega)]
                  · rw [if_neg h, if_neg (by omega)]
              clear hcc hgb
              go_wp2
              go_roundw
              case rel => exact ⟨j + 1, cur.set j (unused m.fs[j]), by omega, by go_num, hbel9.setCell hBg _, hx9.setCell_other _ _ (by simpa using hb2x.symm), hy9.setCell_other _ _ (by simpa using hb2y.symm), hset, hnew⟩
              case measure => simp [intOf]; omega
            | false =>
              rw [hGu] at hcB
              clear hGu
              go_upto_region 15 with (fail)
              have hA9 := (hA8.setCell 9 (.bool false)).setCell_other ⟨wr.heap.size, 9, none⟩ (.bool false) (by simp)
              have hB9 := (hB8.setCell_other ⟨wr.heap.size + 1, 9, none⟩ (.bool false) (by simp)).setCell 9 (.bool false)
              have hbW9 : Below wr.heap.size wr ((W.setCell ⟨wr.heap.size + 1, 9, none⟩ (.bool false)).setCell ⟨wr.heap.size, 9, none⟩ (.bool false)) := (hbW.setCell (by simp) _).setCell (by simp) _
              generalize (W.setCell ⟨wr.heap.size + 1, 9, none⟩ (.bool false)).setCell ⟨wr.heap.size, 9, none⟩ (.bool false) = W9 at *
              have hA9' : Blk W9 (wr.heap.size + 1) (frC (unused m.fs[j])) 72 := hA9
              have hB9' : Blk W9 (wr.heap.size) (frC (unused m.fs[j])) 72 := by rw [← huu.out]; exact hB9
              have hbel9 := below_next hbel hbW9
              have hx9 := hx.ext hbW9
              have hy9 := hy.ext hbW9
              have ho9 := ho.below hbW9
              clear hA9 hB9 hA8 hB8 hbW hbW9 hcA hcB hfA hfB hlA hlB l1 l2 hbel hx hy ho
              have hcA := hA9'.cell
              have hcB := hB9'.cell
              have hcy := hy9.cell
              have hE := eqFr' (unused m.fs[j]) (unused m.fs[j]) true (beq_self_eq_true _)
              simp only [frC, unused] at hcA hcB hE
              obtain ⟨_, _, _, hv, hBg, hgl, ⟨csg, hgb⟩, hcc, hfz, hset⟩ := own_cell frL_len (by decide) hcur.out.1 ho9 j hlt 9 (by decide) (.bool false) (unused m.fs[j]) (by rw [hG'.out, ← huu.out]; rfl)
              cases hv
              have hc9 := hcc 9 (.bool G.u) (by rw [hG'.out]; rfl)
              have hb2x : b2 ≠ w.heap.size := by
                intro e; rw [e] at hgb
                unfold Blk at hx9 hgb
                rw [hx9] at hgb
                cases hgb
              have hb2y : b2 ≠ w2.heap.size := by
                intro e; rw [e] at hgb
                unfold Blk at hy9 hgb
                rw [hy9] at hgb
                cases hgb
              have hnew : Hid ((cur.set j (unused m.fs[j])).length = m.fs.length ∧ ∀ q, q < m.fs.length → (cur.set j (unused m.fs[j]))[q]? = if q < j + 1 then (m.fs[q]?).map unused else X[q]?) := by
                refine ⟨by rw [List.length_set]; exact hcur.out.1, fun q hq => ?_⟩
                rw [List.getElem?_set]
                by_cases e : j = q
                · subst e
                  rw [if_pos rfl, if_pos hjc, if_pos (by omega), List.getElem?_eq_getElem hlt]
                  rfl
                · rw [if_neg e, hcur.out.2 q hq]
                  by_cases h : q < j
                  · rw [if_pos h, if_pos (by omega)]
                  · rw [if_neg h, if_neg (by omega)]
              clear hcc hgb
              go_wp2
              go_roundw
              case rel => exact ⟨j + 1, cur.set j (unused m.fs[j]), by omega, by go_num, hbel9.setCell hBg _, hx9.setCell_other _ _ (by simpa using hb2x.symm), hy9.setCell_other _ _ (by simpa using hb2y.symm), hset, hnew⟩
              case measure => simp [intOf]; omega
        · have hU : cur = m.fs.map unused := by
            apply List.ext_getElem?
            intro q
            by_cases hq : q < m.fs.length
            · rw [hcur.out.2 q hq, if_pos (by omega), List.getElem?_map]
            · rw [List.getElem?_eq_none (by have := hcur.out.1; omega), List.getElem?_eq_none (by simp; omega)]
          subst hU
          clear hcur
          have hjn : ¬ (j : Int) < (m.fs.length : Int) := by omega
          have hcx := hx.cell
          have hmade := World.ownsMap_made (H := Unit) wr Try.prog 3 (plainElem Try.prog 4)
          go_wp2_with (refine wpList_insert_own _ rfl (.tmp 93) (.tmp 94) _ 80 rfl 3 4 int_key Try.underlying80 _ wr.heap.size 0 _ rfl hmade (by unfold maxLen; omega) _ _ _ rfl rfl (keyOf_int_mk Try.underlying3 (WalkArith.wf_i64 (by omega))) _ [] (plainElem_bool Try.underlying4 true) ?_)
          intro w5 hmap hgr5
          have hbel5 : Below w.heap.size w w5 := (hbel.alloc hbel.size _).grown hgr5 (le_alloc' hbel.size _) (fun q hq => by cases hq; exact hbel.size)
          have l1 := hx.lt
          have l2 := hy.lt
          have hx5 := (hx.alloc (.map #[] 0)).grown hgr5 (fun he => by have := Option.some.inj he; omega)
          have hy5 := (hy.alloc (.map #[] 0)).grown hgr5 (fun he => by have := Option.some.inj he; omega)
          have ho5 : Own w5 w.heap.size 72 13 (.slice (some ⟨b2, off2, none⟩) m.fs.length c2) m.fs.length ((m.fs.map unused).flatMap frL) := by
            have h1 := ho.alloc (.map #[] 0)
            refine h1.grown hgr5 (fun g hg he => ?_)
            obtain ⟨cs, hk⟩ := own_blk ho g hg
            have h2 := hk.lt
            have h3 := Option.some.inj he
            omega
          obtain ⟨bm, hbm⟩ : ∃ bm, bm = wr.heap.size := ⟨_, rfl⟩
          rw [← hbm] at hmap ⊢
          have hbm1 : w.heap.size < bm := by omega
          have hbm2 : w2.heap.size < bm := by omega
          clear hmade hgr5 hbel hx hy ho hcx hmm hbm l1 l2
          have hd5 := h.below hbel5
          have hfl := freeN_le m.fs
          have hall0 : ∀ f ∈ m.fs, 0 ≤ f.r := fun f hf => ((frameE_iff f).1 (((wrongM_iff m).1 hw).2.1 f hf)).1.1
          have hU := Calm.of (m := m) hw
          have hUl : (m.fs.map unused).length = m.fs.length := by simp
          have hH0 : (k + 1) % m.fs.length < m.fs.length := Nat.mod_lt _ hpos
          have hhc : heldC (m.fs.map unused) + freeN m.fs = m.fs.length := by rw [held_unused]; exact heldC_free m.fs hall0
          have hC : ∃ C : Nat, ((m.fs.length : Int) - (freeN m.fs : Int)) - 1 = (C : Int) ∧ heldC ((turned (m.fs.map unused) ((k + 1) % m.fs.length)).take (m.fs.length - 1)) = C := by
            have hlast := held_last (U := m.fs.map unused) (k := k) (n := m.fs.length) hUl hkl (by rw [List.getElem_map]; exact hXk.out.2)
            have h1 := heldC_take (turned (m.fs.map unused) ((k + 1) % m.fs.length)) (m.fs.length - 1) (by rw [turned_len _ (by omega)]; omega)
            rw [show m.fs.length - 1 + 1 = m.fs.length from by omega, List.take_of_length_le (by rw [turned_len _ (by omega)]; omega), turned_held, if_pos hlast] at h1
            exact ⟨heldC ((turned (m.fs.map unused) ((k + 1) % m.fs.length)).take (m.fs.length - 1)), by omega, rfl⟩
          obtain ⟨C, hC1, hC2⟩ := hC
          have hC2' := Lib.hid hC2
          have hCn : C ≤ m.fs.length := by omega
          have hl40 := ((wrongM_iff m).1 hw).1
          clear hC2 hall0 hhc
          go_upto_region 20 with (fail)
          refine wp_growT 8 [isV (.pointer (some ⟨w.heap.size, 0, none⟩)), isV (.slice (some ⟨b, off, none⟩) m.fs.length c), isV (.int .i64 (m.fs.length : Int)), isV (.agg #[.slice (some ⟨b, off, none⟩) m.fs.length c, .int .i64 m.hand]), isV (.int .i64 (freeN m.fs)), isV (.int .i64 ((m.fs.length : Int) - (freeN m.fs : Int))), isV (.int .i64 (C : Int)), isV (.int .i64 0)] (by kernel_rfl) (by kernel_rfl) (by kernel_rfl) (by decide) _ rfl (by kernel_rfl) (all_cons ?_ (all_cons ?_ (all_cons ?_ (all_cons ?_ (all_cons ?_ (all_cons ?_ (all_cons ?_ (all_cons ?_ (all_nil))))))))) ?_
          · intro ρ y W hw hn hb hd
            have E1 : ρ (.tmp 1) = .pointer (some ⟨w.heap.size, 0, none⟩) := (hn (.tmp 1) rfl).trans rfl
            refine asked_val (.pointer (some ⟨w.heap.size, 0, none⟩)) (want_free rfl) (by simp [execOp, go_sem, E1]) rfl
          · intro ρ y W hw hn hb hd
            have E96 := hw 96 0 rfl
            have h0 : y 0 = .pointer (some ⟨w.heap.size, 0, none⟩) := hd 0 rfl
            refine asked_val (.slice (some ⟨b, off, none⟩) m.fs.length c) (want_free rfl) (by simp [execOp, go_sem, E96, h0, (hx5.ext hb).cell, Try.underlying62]) rfl
          · intro ρ y W hw hn hb hd
            have E97 := hw 97 1 rfl
            have h1 : y 1 = .slice (some ⟨b, off, none⟩) m.fs.length c := hd 1 rfl
            refine asked_val (.int .i64 (m.fs.length : Int)) (want_free rfl) (run_lenS rfl (E97.trans h1) Try.underlying62) rfl
          · intro ρ y W hw hn hb hd
            have E1 : ρ (.tmp 1) = .pointer (some ⟨w.heap.size, 0, none⟩) := (hn (.tmp 1) rfl).trans rfl
            refine asked_val (.agg #[.slice (some ⟨b, off, none⟩) m.fs.length c, .int .i64 m.hand]) (want_free rfl) (by simp [execOp, go_sem, E1, (hx5.ext hb).cell]) rfl
          · intro ρ y W hw hn hb hd
            have E99 := hw 99 3 rfl
            have h3 : y 3 = .agg #[.slice (some ⟨b, off, none⟩) m.fs.length c, .int .i64 m.hand] := hd 3 rfl
            have EF : ∀ f, ρ (.func f) = .func (.func f) #[] #[] := fun f => hn (.func f) trivial
            refine asked_call _ _ (want_free rfl) (run_call rfl (EF _) Try.func48 (by kernel_rfl) (by kernel_rfl) (by simp only [List.map_toArray, List.map_cons, List.map_nil, E99, h3, EF]; rfl)) ?_
            refine (mfree_any m _ c W (hd5.below hb)).mono ?_
            rintro e w1 ⟨rfl, hb1⟩
            exact ⟨_, rfl, hb1, rfl⟩
          · intro ρ y W hw hn hb hd
            have E98 := hw 98 2 rfl
            have h2 : y 2 = .int .i64 (m.fs.length : Int) := hd 2 rfl
            have E100 := hw 100 4 rfl
            have h4 : y 4 = .int .i64 (freeN m.fs) := hd 4 rfl
            refine asked_val (.int .i64 ((m.fs.length : Int) - (freeN m.fs : Int))) (want_free rfl) (run_bin rfl (E98.trans h2) (E100.trans h4) (by simp [go_sem, IntKind.wrap, IntKind.bits, IntKind.signed]; omega)) rfl
          · intro ρ y W hw hn hb hd
            have E101 := hw 101 5 rfl
            have h5 : y 5 = .int .i64 ((m.fs.length : Int) - (freeN m.fs : Int)) := hd 5 rfl
            refine asked_val (.int .i64 (C : Int)) (want_free rfl) (run_bin rfl (E101.trans h5) (hn (.const _) trivial) (by simp [go_sem, IntKind.wrap, IntKind.bits, IntKind.signed]; omega)) rfl
          · intro ρ y W hw hn hb hd
            refine asked_val (.int .i64 0) (want_free rfl) (run_move (.inl rfl) (hn (.const _) trivial)) rfl
          intro y WA hbWA hRWA
          have hy0 : y 0 = .pointer (some ⟨w.heap.size, 0, none⟩) := hRWA 0 (by decide)
          have hy1 : y 1 = .slice (some ⟨b, off, none⟩) m.fs.length c := hRWA 1 (by decide)
          have hy2 : y 2 = .int .i64 (m.fs.length : Int) := hRWA 2 (by decide)
          have hy3 : y 3 = .agg #[.slice (some ⟨b, off, none⟩) m.fs.length c, .int .i64 m.hand] := hRWA 3 (by decide)
          have hy4 : y 4 = .int .i64 (freeN m.fs) := hRWA 4 (by decide)
          have hy5 : y 5 = .int .i64 ((m.fs.length : Int) - (freeN m.fs : Int)) := hRWA 5 (by decide)
          have hy6 : y 6 = .int .i64 (C : Int) := hRWA 6 (by decide)
          have hy7 : y 7 = .int .i64 0 := hRWA 7 (by decide)
          clear hRWA
          simp only [lay, Nat.reduceAdd, Nat.reduceLT, decide_true, decide_false, if_true, Bool.false_eq_true, if_false, List.setIfInBounds_toArray, List.set_cons_zero, List.set_cons_succ, List.drop_succ_cons, List.drop_zero, List.drop_nil, hy0, hy1, hy2, hy3, hy4, hy5, hy6, hy7]
          clear hy0 hy1 hy2 hy3 hy4 hy5 hy6 hy7
          have hbelA := below_next hbel5 hbWA
          have hyA := hy5.ext hbWA
          have hoA := ho5.below hbWA
          have hmapA := owns_below hmap hbWA
          clear hbel5 hx5 hy5 ho5 hmap hbWA hd5 hC1
          obtain ⟨_, _, hv, hle0, hmx0, hnl0, hrdA⟩ := hoA.rd
          cases hv
          have hmA : MRd WA (some ⟨b2, off2, none⟩) c2 (atHand (m.fs.map unused) ((k + 1) % m.fs.length) 0) := ⟨by simpa [atHand] using hle0, hmx0, hnl0, hrdA⟩
          have hh0 : Hid ((((k + 1) % m.fs.length : Nat) : Int) = ((((k + 1) % m.fs.length) + 0) % m.fs.length : Nat)) := by
            have e : (k + 1) % m.fs.length = ((k + 1) % m.fs.length + 0) % m.fs.length := by simp
            exact congrArg (fun x : Nat => (x : Int)) e
          rw [hh0.out] at hyA
          go_wp2
          go_loopw [103] (fun i wr => ∃ (q p : Nat) (a9 : Option Addr) (c9 cnt : Nat) (D : DataW Unit), q ≤ C ∧ i = .int .i64 q ∧ p ≤ m.fs.length - 1 ∧ Below w.heap.size w wr ∧ Blk wr w2.heap.size #[.slice a9 m.fs.length c9, .int .i64 ((((k + 1) % m.fs.length) + p) % m.fs.length : Nat)] 64 ∧ MRd wr a9 c9 (atHand (m.fs.map unused) ((k + 1) % m.fs.length) p) ∧ wr.ownsMap Try.prog 3 (plainElem Try.prog 4) bm cnt D ∧ cnt ≤ q + 1 ∧ Hid (heldC ((turned (m.fs.map unused) ((k + 1) % m.fs.length)).take p) = q ∧ Had D (visM (m.fs.map unused) ((k + 1) % m.fs.length) k p))) (fun i _ => C - (intOf i).toNat)
          case atStart => exact ⟨0, 0, _, _, 1, _, Nat.zero_le _, rfl, Nat.zero_le _, hbelA, hyA, hmA, hmapA, Nat.le_refl _, Lib.hid ⟨rfl, had_first k _ _⟩⟩
          case round =>
            clear hbelA hyA hmA hmapA hoA hrdA hle0 hmx0 hnl0
            obtain ⟨q, p, a9, c9, cnt, D, hq, rfl, hp, hbel, hy, hm9, hmap, hcnt, hI⟩ := hrel
            by_cases hqc : q < C
            · obtain ⟨t, htl, hpt, htn, htr, htno, htc⟩ := one_more (turned (m.fs.map unused) ((k + 1) % m.fs.length)) p q (by rw [turned_len _ (by omega), hUl]; exact hp) hI.out.1 (by rw [turned_len _ (by omega), hUl, hC2'.out]; exact hqc)
              have hLl : (turned (m.fs.map unused) ((k + 1) % m.fs.length)).length = m.fs.length := by rw [turned_len _ (by omega), hUl]
              rw [hLl] at htl htn
              have hnx := hU.next (H := (k + 1) % m.fs.length) (p := p) (t := t) (by rw [hUl]; exact hH0) hpt (by rw [hUl]; exact htl) htr (fun x hx h1 h2 => htno x (by rw [hLl, ← hUl]; exact hx) h1 h2)
              have hvn := fun jj => vis_next (U := m.fs.map unused) (H := (k + 1) % m.fs.length) (k := k) (p := p) (t := t) hpt (by rw [hUl]; exact htl) (by rw [hUl]; exact hH0) htr (fun x hx h1 h2 => htno x (by rw [hLl, ← hUl]; exact hx) h1 h2) jj
              have hvz := vis_not (U := m.fs.map unused) (H := (k + 1) % m.fs.length) (k := k) (p := p) (t := t) hpt (by rw [hUl]; exact htn) (by rw [hUl]; exact hkl) (by rw [hUl])
              rw [hUl] at hvz
              simp only [hUl] at hvn
              have hw0 := hU.wrong ((k + 1) % m.fs.length) p (by rw [hUl]; exact hpos)
              have eL : ∀ x, (atHand (m.fs.map unused) ((k + 1) % m.fs.length) x).fs.length = m.fs.length := fun x => hUl
              have eH : ∀ x, (atHand (m.fs.map unused) ((k + 1) % m.fs.length) x).hand = ((((k + 1) % m.fs.length) + x) % m.fs.length : Nat) := fun x => by unfold atHand; simp only [hUl]
              have hN := fun W hd => mnext_any (atHand (m.fs.map unused) ((k + 1) % m.fs.length) p) a9 c9 W hd
              rw [hnx.1, hnx.2, hw0, eL, eL, eH, eH, hUl] at hN
              have hjlt : ((k + 1) % m.fs.length + t) % m.fs.length < m.fs.length := Nat.mod_lt _ hpos
              obtain ⟨J, hJ⟩ : ∃ J, J = ((k + 1) % m.fs.length + t) % m.fs.length := ⟨_, rfl⟩
              rw [← hJ] at hN hvz hjlt
              rw [← hJ] at hvn
              obtain ⟨P0, hP0⟩ : ∃ P0, P0 = ((k + 1) % m.fs.length + p) % m.fs.length := ⟨_, rfl⟩
              obtain ⟨P1, hP1⟩ : ∃ P1, P1 = ((k + 1) % m.fs.length + (t + 1)) % m.fs.length := ⟨_, rfl⟩
              rw [← hP0] at hN hy
              rw [← hP1] at hN
              have hP1' := Lib.hid hP1
              clear hP0 hP1
              have hvn' := Lib.hid (funext hvn)
              have hvz' := Lib.hid hvz
              have htc' := Lib.hid htc
              clear hnx hvn hvz hw0 eL eH htr htno htc hJ hLl
              have hcy := hy.cell
              go_wp2_with fail
              refine (hN _ hm9).mono ?_
              rintro e w6 ⟨vb, rfl, ho6, hb6⟩
              have hbel6 := below_next hbel hb6
              have hy6 := hy.ext hb6
              have hmap6 := owns_below hmap hb6
              obtain ⟨a6, c6, rfl, g1, g2, g3, g4⟩ := ho6.rd
              have hm6 : MRd w6 a6 c6 (atHand (m.fs.map unused) ((k + 1) % m.fs.length) (t + 1)) := ⟨by simpa [atHand] using g1, g2, g3, g4⟩
              clear hN hcy hbel hy hmap hm9 hb6 ho6 g1 g2 g3 g4
              go_upto_region 23 with (fail)
              refine abs1 (fun W => Code.wp _ _ _ _ W) fun w7 hb7 hz7 hs7 => ?_
              have hbel7 := below_next hbel6 hb7
              have hy7 := hy6.ext hb7
              have hmap7 := owns_below hmap6 hb7
              have hm7 := hm6.below hb7
              have hl6 := hmap6.lt
              have hl6y := hy6.lt
              clear hbel6 hy6 hmap6 hm6 hb7 hs7
              have hlook := had_look hmap7 hI.out.2 J (by omega)
              rw [hvz'.out] at hlook
              have hzc := hz7.cell
              go_wp2_with (refine wpList_mapUpdate_own _ rfl (.tmp 122) (.tmp 123) _ 80 rfl 3 4 int_key Try.underlying80 _ bm cnt D rfl hmap7 (by unfold maxLen; omega) _ _ _ rfl rfl (keyOf_int_mk Try.underlying3 (WalkArith.wf_i64 (by omega))) _ [] (plainElem_bool Try.underlying4 true) ?_)
              intro w8 hmap8 hgr8
              have hbel8 : Below w.heap.size w w8 := hbel7.grown hgr8 hbel7.size (fun x hx => by cases hx; omega)
              have hy8 := hy7.grown hgr8 (fun he => by have := Option.some.inj he; omega)
              have hz8 := hz7.grown hgr8 (fun he => by have := Option.some.inj he; omega)
              have hm8 := mrd_map hm7 hmap7 hgr8
              clear hlook hzc hbel7 hy7 hz7 hmap7 hm7 hgr8
              have hzc := hz8.cell
              go_wp2_with (refine wpList_stw rfl _ (.tmp 3) (.tmp 124) rfl w2.heap.size #[.slice a6 m.fs.length c6, .int .i64 P1] rfl rfl _ _ hy8 (mem_fit _ _ _ _ _ _ _ _) mem_size (mem_one _ _ _ _) ?_)
              intro w9 hy9 hgr9
              have hbel9 : Below w.heap.size w w9 := hbel8.grown hgr9 hbel8.size (fun x hx => by cases hx; omega)
              have hmap9 := hmap8.kept hgr9 (fun he => by have := Option.some.inj he; omega)
              have hm9 := mrd_kept hm8 hy8 hgr9
              clear hzc hbel8 hy8 hz8 hmap8 hm8 hgr9
              go_wp2
              go_roundw
              case rel => exact ⟨q + 1, t + 1, a6, c6, cnt + 1, _, by omega, by go_num, by omega, hbel9, (by rw [← hP1'.out]; exact hy9), hm9, hmap9, by omega, Lib.hid ⟨htc'.out, by rw [hvn'.out]; exact hI.out.2.put J⟩⟩
              case measure => simp [intOf]; omega
            · go_wp2
              go_ret
              exact ⟨rfl, hbel⟩
  · have hn : (wrongM m != 0) = true := by simpa using hw
    clear hw ho2'
    go_upto_region 5 with (fail)
    refine abs1 (fun W => Code.wp _ _ _ _ W) fun w3 hb3 _ hs3 => ?_
    clear hs3 hmm
    go_quiet (fail)
    go_wp2
    go_ret
    exact ⟨rfl, below_drewN (below_next hbel2 hb3) _⟩
end Go.Proofs.Ytohbfjbcfibhcaa
