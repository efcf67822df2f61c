/- Package store's New and Left; the document's Used and SameStore. -/
import Derived.Test.YtmdnmknmniabeaaSt3
namespace Go.Proofs.Ytmdnmknmniabeaa
open Go.RowKit Go.Maps Pw
set_option linter.unusedSimpArgs false
set_option linter.unusedVariables false

def newE (n : Int) : Int := if n < 0 ∨ 80 < n then 4 else 0
def newC (n : Int) : Int := if n < 0 ∨ 80 < n then 0 else n
set_option maxRecDepth 100000 in
theorem snew_any (n : Int) (w : World) : Calls Try.prog 28 #[.int .i64 n] w fun r w' => r = .returned (.tuple #[.agg #[.slice none 0 0, .int .i64 (newC n)], .int .i64 (newE n)]) ∧ Below w.heap.size w w' := by
  go_enter Try.func28, Try.ntmps28
  by_cases h : n < 0 ∨ 80 < n
  · have e1 : newE n = 4 := if_pos h
    have e2 : newC n = 0 := if_pos h
    rw [e1, e2]
    have h' : n < 0 ∨ (¬ n < 0 ∧ 80 < n) := by omega
    clear h e1 e2
    rcases h' with g | ⟨g, g2⟩
    all_goals
      go_wp2_with (refine wpList_stn rfl _ _ _ rfl #[.slice none 0 0, .int .i64 0] rfl rfl rfl store_size (sl_in none 0 0 0) ?_)
      intro w1 hb1 hr1
      go_wp2
      refine bodyPost_ret (v := .tuple #[.agg #[.slice none 0 0, .int .i64 0], .int .i64 4]) (results_ct Try.results28 _ _ w.heap.size _ _ _ _ rfl rfl hr1 Try.underlying47 rfl store_size) rfl ?_
      exact ⟨rfl, hb1⟩
  · have e1 : newE n = 0 := if_neg h
    have e2 : newC n = n := if_neg h
    rw [e1, e2]
    have g : ¬ n < 0 := by omega
    have g2 : ¬ 80 < n := by omega
    clear h e1 e2
    go_wp2_with (refine wpList_stn rfl _ _ _ rfl #[.slice none 0 0, .int .i64 n] rfl rfl rfl store_size (sl_in none 0 0 n) ?_)
    intro w1 hb1 hr1
    go_wp2
    refine bodyPost_ret (v := .tuple #[.agg #[.slice none 0 0, .int .i64 n], .int .i64 0]) (results_ct Try.results28 _ _ w.heap.size _ _ _ _ rfl rfl hr1 Try.underlying47 rfl store_size) rfl ?_
    exact ⟨rfl, hb1⟩

/-- All blocks, file by file. -/
def blks (s : St) : List Int := s.fs.flatMap Fi.b
def cntB (l : List Int) : Nat := (l.filter fun x => decide (0 ≤ x)).length
def leftSt (s : St) : Int := s.count - cntB (blks s)
def pblks (ps : List PF) : List Int := ps.flatMap PF.l
theorem blks_of (ps : List PF) (k : Int) : blks (stOf ps k) = pblks ps := by
  unfold blks stOf pblks
  rw [List.flatMap_map]
  rfl
theorem pblks_step {ps : List PF} {q : Nat} {p : PF} (hp : ps[q]? = some p) : pblks (ps.take (q + 1)) = pblks (ps.take q) ++ p.l := by
  unfold pblks
  rw [take_at hp, List.flatMap_append]
  simp
theorem cntB_app (l m : List Int) : cntB (l ++ m) = cntB l + cntB m := by unfold cntB; rw [List.filter_append, List.length_append]
theorem cntB_le (l : List Int) : cntB l ≤ l.length := List.length_filter_le _ _
theorem pblks_take_le (ps : List PF) (q : Nat) : (pblks (ps.take q)).length ≤ (pblks ps).length := by
  conv => rhs; rw [← List.take_append_drop q ps]
  unfold pblks
  rw [List.flatMap_append, List.length_append]
  omega
set_option maxHeartbeats 2000000 in
set_option maxRecDepth 100000 in
theorem sleft_any (ps : List PF) (k : Int) (a : Option Addr) (c : Nat) (w : World) (h : FsR w a c ps) (hk : 0 ≤ k ∧ k ≤ 80) (hl : (pblks ps).length ≤ 1000) :
    Calls Try.prog 40 #[.agg (stC a ps.length c k)] w fun r w' => r = .returned (.int .i64 (leftSt (stOf ps k))) ∧ Below w.heap.size w w' := by
  have hlc := Nat.le_trans h.le h.mx
  unfold maxLen at hlc
  unfold stC
  go_enter Try.func40, Try.ntmps40
  go_upto_region 1 with (fail)
  refine abs1 (fun W => Code.wp _ _ _ _ W) fun W0 hb0 hx0 hs0 => ?_
  clear hs0
  have hcx := hx0.cell
  go_upto_region 3 with (fail)
  clear hcx hx0
  go_loopw [13, 3] (fun i s wr => ∃ (q m : Nat), q ≤ ps.length ∧ i = .int .i64 q ∧ s = .int .i64 (k - m) ∧ m = cntB (pblks (ps.take q)) ∧ Below w.heap.size w wr) (fun i _ _ => ps.length - (intOf i).toNat)
  case atStart => exact ⟨0, 0, Nat.zero_le _, rfl, by simp, rfl, hb0⟩
  case round =>
    clear hb0
    obtain ⟨q, m, hq, rfl, rfl, hm0, hbr⟩ := hrel
    have hm := Lib.hid hm0
    have hm1 : m ≤ 1000 := by
      have h1 := cntB_le (pblks (ps.take q))
      have h2 := pblks_take_le ps q
      omega
    clear hm0
    by_cases hlt : q < ps.length
    · obtain ⟨b, off, p, rfl, hp, c0, c1⟩ := pf_at (h.below hbr).rd q hlt
      have hgw := h.good p (List.mem_of_getElem? hp)
      have hst := Lib.hid (pblks_step hp)
      have hle := Nat.le_trans hgw.le hgw.mx
      unfold maxLen at hle
      have hpl : p.l.length ≤ 1000 := by
        have h2 := pblks_take_le ps (q + 1)
        rw [hst.out, List.length_append] at h2
        omega
      clear hp
      go_wp2_with (refine wpList_stn rfl _ _ _ rfl (pfC p) rfl rfl rfl file_size (pfC_one _) ?_)
      intro w2 hb2 hf2
      have hbel2 := below_next hbr hb2
      have hcf := hf2.cell
      have f0 : (pfC p)[0]? = some (.int .i64 p.n) := rfl
      have f1 : (pfC p)[1]? = some (.slice p.a p.l.length p.c) := rfl
      clear hbr hb2 c0 c1
      go_upto_region 6 with (fail)
      clear hcf f0 f1 hf2
      go_loopw [20, 3] (fun i s wr => ∃ (j x : Nat), j ≤ p.l.length ∧ i = .int .i64 j ∧ s = .int .i64 (k - x) ∧ x = m + cntB (p.l.take j) ∧ x ≤ m + j ∧ Below w.heap.size w wr) (fun i _ _ => p.l.length - (intOf i).toNat)
      case atStart => exact ⟨0, m, Nat.zero_le _, rfl, rfl, by simp [cntB], Nat.le_refl _, hbel2⟩
      case round =>
        clear hbel2
        obtain ⟨j, x, hj, rfl, rfl, hx0, hx1, hbr⟩ := hrel
        have hx := Lib.hid hx0
        clear hx0
        by_cases hjl : j < p.l.length
        · obtain ⟨b2, off2, hpa, hc⟩ := elem_at (hgw.rd.below hbr) j hjl
          have htk : p.l.take (j + 1) = p.l.take j ++ [p.l[j]] := take_at (List.getElem?_eq_getElem hjl)
          have htk' : Hid (cntB (p.l.take (j + 1)) = cntB (p.l.take j) + cntB [p.l[j]]) := Lib.hid (by rw [htk, cntB_app])
          rw [hpa]
          clear htk hpa
          generalize p.l[j] = y at hc htk'
          by_cases hy : 0 ≤ y
          · have hnx : Hid (x + 1 = m + cntB (p.l.take (j + 1))) := Lib.hid (by rw [htk'.out, hx.out]; simp [cntB, hy]; omega)
            go_wp2
            go_roundw
            case rel => exact ⟨j + 1, x + 1, by omega, by go_num, by go_num, hnx.out, by omega, hbr⟩
            case measure => simp [intOf]; omega
          · have hnx : Hid (x = m + cntB (p.l.take (j + 1))) := Lib.hid (by rw [htk'.out, hx.out]; simp [cntB, hy])
            go_wp2
            go_roundw
            case rel => exact ⟨j + 1, x, by omega, by go_num, rfl, hnx.out, by omega, hbr⟩
            case measure => simp [intOf]; omega
        · have hnx : Hid (x = cntB (pblks (ps.take (q + 1)))) := Lib.hid (by
            rw [hst.out, cntB_app, ← hm.out, hx.out, List.take_of_length_le (by omega)])
          go_wp2
          go_roundw
          case rel => exact ⟨q + 1, x, by omega, by go_num, rfl, hnx.out, hbr⟩
          case measure => simp [intOf]; omega
    · have hfin : Hid (leftSt (stOf ps k) = k - m) := Lib.hid (by
        unfold leftSt
        rw [blks_of, hm.out, List.take_of_length_le (by omega)]
        rfl)
      go_wp2
      go_ret
      exact ⟨ret_int hfin.out.symm, hbr⟩
def usedSt (s : St) (b : Int) : Bool := decide (b ∈ blks s)
set_option maxHeartbeats 2000000 in
set_option maxRecDepth 100000 in
theorem sused_any (ps : List PF) (k x : Int) (a : Option Addr) (c : Nat) (w : World) (h : FsR w a c ps) :
    Calls Try.prog 39 #[.agg (stC a ps.length c k), .int .i64 x] w fun r w' => r = .returned (.bool (usedSt (stOf ps k) x)) ∧ Below w.heap.size w w' := by
  have hlc := Nat.le_trans h.le h.mx
  unfold maxLen at hlc
  unfold stC
  go_enter Try.func39, Try.ntmps39
  go_upto_region 1 with (fail)
  refine abs1 (fun W => Code.wp _ _ _ _ W) fun W0 hb0 hx0 hs0 => ?_
  clear hs0
  have hcx := hx0.cell
  go_upto_region 2 with (fail)
  clear hcx hx0
  go_loopw [12] (fun i wr => ∃ (q : Nat), q ≤ ps.length ∧ i = .int .i64 q ∧ ¬ x ∈ pblks (ps.take q) ∧ Below w.heap.size w wr) (fun i _ => ps.length - (intOf i).toNat)
  case atStart => exact ⟨0, Nat.zero_le _, rfl, by simp [pblks], hb0⟩
  case round =>
    clear hb0
    obtain ⟨q, hq, rfl, hm0, hbr⟩ := hrel
    have hm := Lib.hid hm0
    clear hm0
    by_cases hlt : q < ps.length
    · obtain ⟨b, off, p, rfl, hp, c0, c1⟩ := pf_at (h.below hbr).rd q hlt
      have hgw := h.good p (List.mem_of_getElem? hp)
      have hst := Lib.hid (pblks_step hp)
      have hin : Hid (∀ y ∈ p.l, y ∈ pblks ps) := Lib.hid (fun y hy => List.mem_flatMap.2 ⟨p, List.mem_of_getElem? hp, hy⟩)
      have hle := Nat.le_trans hgw.le hgw.mx
      unfold maxLen at hle
      clear hp
      go_wp2_with (refine wpList_stn rfl _ _ _ rfl (pfC p) rfl rfl rfl file_size (pfC_one _) ?_)
      intro w2 hb2 hf2
      have hbel2 := below_next hbr hb2
      have hcf := hf2.cell
      have f0 : (pfC p)[0]? = some (.int .i64 p.n) := rfl
      have f1 : (pfC p)[1]? = some (.slice p.a p.l.length p.c) := rfl
      clear hbr hb2 c0 c1
      go_upto_region 5 with (fail)
      clear hcf f0 f1 hf2
      go_loopw [19] (fun i wr => ∃ (j : Nat), j ≤ p.l.length ∧ i = .int .i64 j ∧ ¬ x ∈ p.l.take j ∧ Below w.heap.size w wr) (fun i _ => p.l.length - (intOf i).toNat)
      case atStart => exact ⟨0, Nat.zero_le _, rfl, by simp, hbel2⟩
      case round =>
        clear hbel2
        obtain ⟨j, hj, rfl, hx0, hbr⟩ := hrel
        have hx := Lib.hid hx0
        clear hx0
        by_cases hjl : j < p.l.length
        · obtain ⟨b2, off2, hpa, hc⟩ := elem_at (hgw.rd.below hbr) j hjl
          have htk : p.l.take (j + 1) = p.l.take j ++ [p.l[j]] := take_at (List.getElem?_eq_getElem hjl)
          have hyin := Lib.hid (hin.out _ (List.getElem_mem hjl))
          have htk' := Lib.hid htk
          rw [hpa]
          clear htk hpa
          generalize p.l[j] = y at hc htk' hyin
          by_cases hy : y = x
          · have hfin : Hid (usedSt (stOf ps k) x = true) := Lib.hid (by
              unfold usedSt
              rw [blks_of, ← hy]
              exact decide_eq_true hyin.out)
            subst hy
            go_wp2
            go_ret
            exact ⟨ret_bool hfin.out.symm, hbr⟩
          · have hnx : Hid (¬ x ∈ p.l.take (j + 1)) := Lib.hid (by
              rw [htk'.out]
              intro hh
              rcases List.mem_append.1 hh with hh | hh
              · exact hx.out hh
              · exact hy (List.mem_singleton.1 hh).symm)
            have hyb : (y == x) = false := beq_eq_false_iff_ne.2 hy
            clear hy
            go_wp2
            go_roundw
            case rel => exact ⟨j + 1, by omega, by go_num, hnx.out, hbr⟩
            case measure => simp [intOf]; omega
        · have hnx : Hid (¬ x ∈ pblks (ps.take (q + 1))) := Lib.hid (by
            have h9 := hx.out
            rw [List.take_of_length_le (by omega)] at h9
            rw [hst.out]
            intro hh
            rcases List.mem_append.1 hh with hh | hh
            · exact hm.out hh
            · exact h9 hh)
          go_wp2
          go_roundw
          case rel => exact ⟨q + 1, by omega, by go_num, hnx.out, hbr⟩
          case measure => simp [intOf]; omega
    · have hfin : Hid (usedSt (stOf ps k) x = false) := Lib.hid (by
        have h9 := hm.out
        rw [List.take_of_length_le (by omega)] at h9
        unfold usedSt
        rw [blks_of]
        exact decide_eq_false h9)
      go_wp2
      go_ret
      exact ⟨ret_bool hfin.out.symm, hbr⟩
end Go.Proofs.Ytmdnmknmniabeaa
