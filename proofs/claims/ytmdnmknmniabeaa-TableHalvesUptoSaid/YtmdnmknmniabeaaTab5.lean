/- Package table's Pages, Find and Guard. -/
import Derived.Test.YtmdnmknmniabeaaTab4
namespace Go.Proofs.Ytmdnmknmniabeaa
open Go.RowKit Pw
set_option linter.unusedSimpArgs false
set_option linter.unusedVariables false

theorem tget_lit (t : Tb) (cs : Array Value) (n : Int) (w : World) (h : TbR w cs t) : Calls Try.prog 21 #[.agg cs, .int .i64 n] w fun r w' => r = .returned (.agg #[.int .i64 (getT t n).k, .int .i64 (getT t n).n, .bool (getT t n).w]) ∧ Below w.heap.size w w' := tget_any t cs n w h
theorem fld_k (E : En) (W : World) : (Instr.field 26 (.agg #[.int .i64 E.k, .int .i64 E.n, .bool E.w]) 0).run Try.prog W = .ok (.int .i64 E.k) W := by
  simp [Instr.field, go_sem]
  rfl
def pagesTo (t : Tb) (k : Nat) : List Int := ((List.range k).filter fun n : Nat => hasK (getT t (n : Int))).map fun n : Nat => (n : Int)
def pagesL (t : Tb) : List Int := pagesTo t 64
theorem pagesTo_le (t : Tb) (k : Nat) : (pagesTo t k).length ≤ k := by
  unfold pagesTo
  rw [List.length_map]
  exact Nat.le_trans (List.length_filter_le _ _) (by simp)
theorem pagesTo_yes {t : Tb} {k : Nat} (h : hasK (getT t (k : Int)) = true) : pagesTo t (k + 1) = pagesTo t k ++ [(k : Int)] := by
  unfold pagesTo
  rw [List.range_succ, List.filter_append, List.map_append]
  simp [h]
theorem pagesTo_no {t : Tb} {k : Nat} (h : hasK (getT t (k : Int)) = false) : pagesTo t (k + 1) = pagesTo t k := by
  unfold pagesTo
  rw [List.range_succ, List.filter_append, List.map_append]
  simp [h]
set_option maxHeartbeats 2000000 in
set_option maxRecDepth 100000 in
theorem tpages_any (t : Tb) (cs : Array Value) (w : World) (h : TbR w cs t) : Calls Try.prog 23 #[.agg cs] w fun r w' => ∃ v, r = .returned v ∧ Own w' w.heap.size 3 1 v (pagesL t).length ((pagesL t).map inV) ∧ Below w.heap.size w w' := by
  go_enter Try.func23, Try.ntmps23
  go_upto_region 1 with (fail)
  refine abs1 (fun W => Code.wp _ _ _ _ W) fun W0 hb0 hx0 hs0 => ?_
  clear hs0
  go_wp2
  have hown0 : Own W0 w.heap.size 3 1 (.slice none 0 0) (pagesTo t 0).length ((pagesTo t 0).map inV) := Own.nil _ _ _ _
  go_loopw [5, 3] (fun i v wr => ∃ k : Nat, k ≤ 64 ∧ i = .int .i64 k ∧ Below w.heap.size w wr ∧ Blk wr w.heap.size cs 24 ∧ Own wr w.heap.size 3 1 v (pagesTo t k).length ((pagesTo t k).map inV)) (fun i _ _ => 64 - (intOf i).toNat)
  case atStart => exact ⟨0, Nat.zero_le _, rfl, hb0, hx0, hown0⟩
  case round =>
    obtain ⟨k, hk, rfl, hbr, hx, hown⟩ := hrel
    clear hb0 hx0 hown0
    have hle := pagesTo_le t k
    by_cases hlt : k < 64
    · have hd : decide ((k : Int) < 64) = true := by simp; omega
      go_wp2_with (refine wpList_ld rfl 24 (.tmp 1) rfl w.heap.size 0 rfl cs.toList hx.rd _ Try.underlying24 tab_agg (by rw [Array.length_toList, h.sz]; exact tab_size) ?_)
      refine (tget_lit t cs k _ (h.below hbr)).mono ?_
      rintro r w1 ⟨rfl, hb1⟩
      have hbel1 := below_next hbr hb1
      have hx1 := hx.ext hb1
      have hfk := fld_k (getT t k)
      have hown1 := hown.below hb1
      clear hb1 hbr hx hown
      cases hk2 : hasK (getT t k)
      · have hkk : ((getT t k).k != 0) = false := by simpa [hasK] using hk2
        have hn := Lib.hid (pagesTo_no hk2)
        clear hk2
        go_wp2
        go_roundw
        case rel => exact ⟨k + 1, by omega, by go_num, hbel1, hx1, by rw [hn.out]; exact hown1⟩
        case measure => simp [intOf]; omega
      · have hkk : ((getT t k).k != 0) = true := by simpa [hasK] using hk2
        have hn := Lib.hid (pagesTo_yes hk2)
        clear hk2
        go_wp2_with (at_builtin; go_must (refine wpList_app rfl _ _ 36 rfl w.heap.size 3 (.int .i64 0) 1 8 Try.underlying36 int_info rfl (by decide) _ _ _ rfl (hown1.alloc _) (some ⟨w1.heap.size, 0, none⟩) 1 1 [inV k] rfl (fun h => (by cases h)) (Nat.le_refl _) rfl (RdV.one _ _ _) (one_int _ _) (by unfold maxLen; omega) (by omega) ?bb ?k))
        case bb => exact le_alloc' hbel1.size _
        intro v2 w2 hown2 hgr2
        have hbel2 : Below w.heap.size w w2 := (hbel1.alloc hbel1.size _).grown hgr2 (le_alloc' hbel1.size _) (fun k hk => (hown1.ge k hk))
        have hx2 : Blk w2 w.heap.size cs 24 := blk_own (hx1.alloc _) (hown1.alloc _) (by decide) hgr2
        go_wp2
        go_roundw
        case rel => exact ⟨k + 1, by omega, by go_num, hbel2, hx2, by rw [hn.out, List.map_append, List.length_append]; exact hown2⟩
        case measure => simp [intOf]; omega
    · obtain rfl : k = 64 := by omega
      go_wp2
      go_ret
      exact ⟨_, rfl, hown, hbr⟩
end Go.Proofs.Ytmdnmknmniabeaa
