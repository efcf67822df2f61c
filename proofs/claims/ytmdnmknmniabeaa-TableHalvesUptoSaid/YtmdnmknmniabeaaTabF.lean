/- The document's Flat. -/
import Derived.Test.YtmdnmknmniabeaaTabS
namespace Go.Proofs.Ytmdnmknmniabeaa
open Go.RowKit Pw
set_option linter.unusedSimpArgs false
set_option linter.unusedVariables false

/-- Entries in a row. -/
def flC (l : List En) : Array Value := (l.flatMap enL).toArray
theorem flC_size (l : List En) : (flC l).size = l.length * 3 := by
  unfold flC; rw [List.size_toArray, entries_len]
theorem flC_set (l : List En) (k : Nat) (hk : k < l.length) (x : En) : putAt (flC l) (k * 3) (enL x) = flC (l.set k x) := by
  apply Array.ext_getElem?
  intro i
  have hl := entries_len l
  have hl' := entries_len (l.set k x)
  rw [List.length_set] at hl'
  by_cases hi : i < l.length * 3
  · have hq : i / 3 < l.length := by omega
    have hir : i = i / 3 * 3 + i % 3 := by omega
    have h2 := flat_cell enL 3 enL_len (l.set k x) (i / 3) (by simpa using hq) (i % 3) (by omega)
    rw [← hir] at h2
    have h3 := flat_cell enL 3 enL_len l (i / 3) hq (i % 3) (by omega)
    rw [← hir] at h3
    have e2 : (flC (l.set k x))[i]? = ((l.set k x).flatMap enL)[i]? := by simp [flC]
    have e3 : (flC l)[i]? = (l.flatMap enL)[i]? := by simp [flC]
    by_cases e : i / 3 = k
    · have hik : i = k * 3 + i % 3 := by omega
      have hlt : i % 3 < (enL x).length := by rw [enL_len]; omega
      have h1 := putAt_in (enL x) (flC l) (k * 3) (i % 3) (enL x)[i % 3] (by rw [enL_len, flC_size]; omega) (List.getElem?_eq_getElem hlt)
      rw [← hik] at h1
      rw [h1, e2, h2]
      simp only [e, List.getElem_set_self]
      exact (List.getElem?_eq_getElem hlt).symm
    · rw [putAt_out _ _ _ _ (by rw [enL_len]; omega), e2, h2, e3, h3]
      congr 2
      rw [List.getElem_set_ne (fun h => e h.symm)]
  · rw [Array.getElem?_eq_none (by rw [size_putAt, flC_size]; omega), Array.getElem?_eq_none (by rw [flC_size, List.length_set]; omega)]
def flatL (t : Tb) : List En := (List.range 64).map fun n : Nat => getT t (n : Int)
/-- In the midst: the first m entries are there. -/
structure FlI (t : Tb) (m : Nat) (l : List En) : Prop where
  len : l.length = 64
  at' : ∀ n (h : n < 64), l[n]? = some (if n < m then getT t (n : Int) else zEn)
theorem FlI.start {t : Tb} : FlI t 0 (List.replicate 64 zEn) := ⟨List.length_replicate, fun n h => by rw [List.getElem?_replicate, if_pos h, if_neg (Nat.not_lt_zero _)]⟩
theorem FlI.step {t : Tb} {m : Nat} {l : List En} (h : FlI t m l) (hm : m < 64) {E : En} (hE : getT t (m : Int) = E) : FlI t (m + 1) (l.set m E) := by
  refine ⟨by simp [h.len], fun n hn => ?_⟩
  by_cases e : n = m
  · subst e
    rw [List.getElem?_set_self (by rw [h.len]; exact hn), if_pos (by omega), hE]
  · rw [List.getElem?_set_ne (fun e2 => e e2.symm), h.at' n hn]
    congr 1
    by_cases e2 : n < m
    · rw [if_pos e2, if_pos (by omega)]
    · rw [if_neg e2, if_neg (by omega)]
theorem getT_none {t : Tb} {q r : Nat} (hq : q < 8) (hr : r < 8) (h : t[q].length = 0) : getT t ((8 * q + r : Nat) : Int) = zEn := by
  rw [getT_in hq hr, if_neg (by omega)]
theorem getT_some {t : Tb} {q r : Nat} (hq : q < 8) (hr : r < 8) (h : t[q].length = 8) {E : En} (hE : t[q][r]? = some E) : getT t ((8 * q + r : Nat) : Int) = E := by
  rw [getT_in hq hr, if_pos h, List.getD_eq_getElem?_getD, hE]; rfl
theorem FlI.skip {t : Tb} {q : Nat} {l : List En} (h : FlI t (8 * q) l) (hq : q < 8) (h0 : t[q].length = 0) : FlI t (8 * (q + 1)) l := by
  refine ⟨h.len, fun n hn => ?_⟩
  rw [h.at' n hn]
  congr 1
  by_cases e2 : n < 8 * q
  · rw [if_pos e2, if_pos (by omega)]
  · rw [if_neg e2]
    by_cases e3 : n < 8 * (q + 1)
    · rw [if_pos e3]
      obtain ⟨r, rfl⟩ : ∃ r, n = 8 * q + r := ⟨n - 8 * q, by omega⟩
      exact (getT_none hq (by omega) h0).symm
    · rw [if_neg e3]
theorem FlI.fin {t : Tb} {l : List En} (h : FlI t 64 l) : l = flatL t := by
  apply List.ext_getElem?
  intro n
  unfold flatL
  by_cases hn : n < 64
  · rw [h.at' n hn, if_pos hn]; simp [hn]
  · rw [List.getElem?_eq_none (by rw [h.len]; omega), List.getElem?_eq_none (by simp; omega)]
theorem arr64_size : (Try.prog.info? 33).map (·.size) = some 192 := by kernel_rfl
theorem en_size3 (E : En) : (enL E).length = 3 := rfl
theorem enC_blk {w : World} {b : Nat} {cur : Array Value} {E : En} {T : TypeId} (h : Blk w b (putAt cur 0 (enL E)) T) (hc : cur.size = 3) : Blk w b (enC E) T := by
  have : putAt cur 0 (enC E).toList = enC E := putAt_whole cur (enC E) (by rw [hc]; rfl)
  have h2 : Blk w b (putAt cur 0 (enC E).toList) T := h
  rwa [this] at h2
set_option maxHeartbeats 4000000 in
set_option maxRecDepth 100000 in
theorem tflat_any (t : Tb) (cs : Array Value) (w : World) (h : TbR w cs t) (h0 : wrongT t = 0) : Calls Try.prog 20 #[.agg cs] w fun r w' => r = .returned (.agg (flC (flatL t))) ∧ Below w.heap.size w w' := by
  have H0 := Lib.hid h0
  clear h0
  go_enter Try.func20, Try.ntmps20
  go_upto_region 2 with (fail)
  refine abs3 (fun W => Code.wp _ _ _ _ W) fun W0 hb0 hx0 hres0 ho0 hs0 => ?_
  clear hs0
  replace ho0 : Blk W0 (w.heap.size + 2) (flC (List.replicate 64 zEn)) 33 := ho0
  replace hres0 : Blk W0 (w.heap.size + 1) (flC (List.replicate 64 zEn)) 33 := hres0
  go_wp2_with (refine wpList_ld rfl 24 (.tmp 1) rfl w.heap.size 0 rfl cs.toList hx0.rd _ Try.underlying24 tab_agg (by rw [Array.length_toList, h.sz]; exact tab_size) ?_)
  have hF0 : Hid (FlI t (8 * 0) (List.replicate 64 zEn)) := Lib.hid FlI.start
  clear hx0
  have hF0' := hF0
  rw [Nat.mul_zero] at hF0
  go_loopw [9] (fun i wr => ∃ (k : Nat) (l : List En), k ≤ 8 ∧ i = .int .i64 k ∧ Below w.heap.size w wr ∧ Blk wr (w.heap.size + 2) (flC l) 33 ∧ Blk wr (w.heap.size + 1) (flC (List.replicate 64 zEn)) 33 ∧ Hid (FlI t (8 * k) l)) (fun i _ => 8 - (intOf i).toNat)
  case atStart => exact ⟨0, _, Nat.zero_le _, rfl, hb0, ho0, hres0, hF0'⟩
  case round =>
    obtain ⟨k, l, hk, rfl, hbr, ho, hres, hF⟩ := hrel
    clear hb0 ho0 hres0 hF0 hF0'
    by_cases hlt : k < 8
    · obtain ⟨a, c, hcs, hle, hmx, hnil, hrd⟩ := h.at' k hlt
      have hix := fun W => idx_tab hlt hcs W
      have hd8 : decide ((k : Int) < 8) = true := by simp; omega
      have hl8 := Lib.hid (halfE_len (wrongT_half H0.out k hlt))
      have hl9 : t[k].length ≤ 8 := by have := hl8.out; omega
      unfold maxLen at hmx
      clear hcs
      go_wp2
      clear hix
      go_loopw [15] (fun i wr' => ∃ (j : Nat) (l' : List En), j ≤ t[k].length ∧ i = .int .i64 j ∧ Below w.heap.size w wr' ∧ Blk wr' (w.heap.size + 2) (flC l') 33 ∧ Blk wr' (w.heap.size + 1) (flC (List.replicate 64 zEn)) 33 ∧ Hid (FlI t (8 * k + j) l')) (fun i _ => t[k].length - (intOf i).toNat)
      case atStart => exact ⟨0, l, Nat.zero_le _, rfl, hbr, ho, hres, hF⟩
      case round =>
        obtain ⟨j, l', hj, rfl, hbq, ho2, hres2, hF2⟩ := hrel
        clear hbr ho hres
        by_cases hjl : j < t[k].length
        · obtain ⟨b, off, E, rfl, hE, c0, c1, c2⟩ := en_get (hrd.below hbq) j hjl
          have hgE := Lib.hid (getT_some hlt (by omega) (by have := hl8.out; omega) hE)
          have hm1 : (8 : Int) * (k : Int) + (j : Int) < 64 := by omega
          have hF3 := Lib.hid (hF2.out.step (by omega) hgE.out)
          have hfit : Hid ((8 * k + j) * 3 + 3 ≤ (flC l').size) := Lib.hid (by rw [flC_size, hF2.out.len]; omega)
          have hset : Hid (putAt (flC l') ((8 * k + j) * 3) (enL E) = flC (l'.set (8 * k + j) E)) := Lib.hid (flC_set l' _ (by rw [hF2.out.len]; omega) E)
          clear hE hgE hF2
          go_wp2_with (refine wpList_stv rfl _ (.tmp 7) (.tmp 19) rfl wr.heap.size 0 _ (enL E) rfl rfl rfl _ _ (Blk.new _ _ _) (Nat.le_refl 3) entry_size (en_one E) ?_)
          intro w4 hx4 hgr4
          have hx4' := enC_blk hx4 rfl
          have hlt0 := ho2.lt
          have ho4 : Blk w4 (w.heap.size + 2) _ _ := (ho2.alloc _).grown hgr4 (fun e => by have := Option.some.inj e; omega)
          have hres4 : Blk w4 (w.heap.size + 1) _ _ := (hres2.alloc _).grown hgr4 (fun e => by have := Option.some.inj e; omega)
          have hbel4 : Below w.heap.size w w4 := (hbq.alloc hbq.size _).grown hgr4 (le_alloc' hbq.size _) (fun k hk => by cases hk; exact hbq.size)
          clear hx4 ho2 hres2 hbq hgr4
          go_wp2_with (first | (refine wpList_ld rfl 26 (.tmp 7) rfl wr.heap.size 0 rfl (enL E) hx4'.rd _ Try.underlying26 rfl entry_size ?_) | (refine wpList_stv rfl _ (.tmp 25) (.tmp 24) rfl (w.heap.size + 2) ((8 * k + j) * 3) _ (enL E) rfl rfl rfl _ _ ho4 hfit.out entry_size (en_one E) ?_))
          intro w5 ho5 hgr5
          rw [hset.out] at ho5
          have hres5 : Blk w5 (w.heap.size + 1) _ _ := hres4.grown hgr5 (fun e => by have := Option.some.inj e; omega)
          have hbel5 : Below w.heap.size w w5 := hbel4.grown hgr5 hbel4.size (fun k hk => by cases hk; omega)
          clear ho4 hres4 hbel4 hgr5 hset hfit hx4' c0 c1 c2
          go_wp2
          go_roundw
          case rel => exact ⟨j + 1, _, by omega, by go_num, hbel5, ho5, hres5, hF3⟩
          case measure => simp [intOf]; omega
        · have hF3 : Hid (FlI t (8 * (k + 1)) l') := by
            rcases hl8.out with e | e
            · have e0 : j = 0 := by omega
              subst e0
              exact Lib.hid (FlI.skip hF2.out hlt e)
            · have e8 : j = 8 := by omega
              subst e8
              exact hF2
          go_wp2
          go_roundw
          case rel => exact ⟨k + 1, l', by omega, by go_num, hbq, ho2, hres2, hF3⟩
          case measure => simp [intOf]; omega
    · obtain rfl : k = 8 := by omega
      obtain rfl : l = flatL t := hF.out.fin
      have hlen : (flatL t).length = 64 := by simp [flatL]
      have hs192 : Hid ((flC (flatL t)).size = 192) := Lib.hid (by rw [flC_size, hlen])
      have hone : (flC (flatL t)).all (·.oneCell') = true := by
        rw [← Array.all_toList, List.all_eq_true]
        intro u hu
        exact entries_one (flatL t) u (by simpa [flC] using hu)
      clear hF hlen
      go_wp2_with (first | (refine wpList_ld rfl 33 (.tmp 3) rfl (w.heap.size + 2) 0 rfl (flC (flatL t)).toList ho.rd _ Try.underlying33 rfl (by rw [Array.length_toList, hs192.out]; exact arr64_size) ?_) | (refine wpList_stw rfl _ (.tmp 2) (.tmp 28) rfl (w.heap.size + 1) (flC (flatL t)) rfl rfl _ _ hres (by rw [hs192.out]; rfl) (by rw [hs192.out]; exact arr64_size) hone ?_))
      intro w5 hr5 hgr5
      have hbel5 : Below w.heap.size w w5 := hbr.grown hgr5 hbr.size (fun k hk => by cases hk; omega)
      go_wp2
      refine bodyPost_ret (v := .agg (flC (flatL t))) (results_c Try.results20 _ _ (w.heap.size + 1) _ _ _ rfl hr5 Try.underlying33 rfl (by rw [hs192.out]; exact arr64_size)) rfl ?_
      exact ⟨rfl, hbel5⟩
end Go.Proofs.Ytmdnmknmniabeaa
