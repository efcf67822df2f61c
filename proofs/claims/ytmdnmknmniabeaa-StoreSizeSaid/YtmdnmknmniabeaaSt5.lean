/- The document's SameStore. -/
import Derived.Test.YtmdnmknmniabeaaSt4
import Derived.BigRegion
namespace Go.Proofs.Ytmdnmknmniabeaa
open Go.RowKit Go.Maps Pw
set_option linter.unusedSimpArgs false
set_option linter.unusedVariables false

def sameSt (s t : St) : Bool := decide (s = t)
theorem sameSt_count {s t : St} (h : s.count ≠ t.count) : sameSt s t = false := decide_eq_false fun e => h (by rw [e])
theorem sameSt_len {s t : St} (h : s.fs.length ≠ t.fs.length) : sameSt s t = false := decide_eq_false fun e => h (by rw [e])
theorem sameSt_file {s t : St} (k : Nat) (h : s.fs[k]? ≠ t.fs[k]?) : sameSt s t = false := decide_eq_false fun e => h (by rw [e])
theorem sameSt_all {s t : St} (h1 : s.count = t.count) (h2 : s.fs.length = t.fs.length) (h : ∀ i, i < s.fs.length → s.fs[i]? = t.fs[i]?) : sameSt s t = true := by
  refine decide_eq_true ?_
  obtain ⟨f, c⟩ := s
  obtain ⟨g, d⟩ := t
  simp only at h1 h2 h
  subst h1
  congr 1
  apply List.ext_getElem?
  intro i
  by_cases hi : i < f.length
  · exact h i hi
  · rw [List.getElem?_eq_none (by omega), List.getElem?_eq_none (by omega)]
set_option maxHeartbeats 8000000 in
set_option maxRecDepth 100000 in
theorem ssame_any (ps rs : List PF) (k k' : Int) (a a' : Option Addr) (c c' : Nat) (w : World) (h : FsR w a c ps) (h' : FsR w a' c' rs) :
    Calls Try.prog 31 #[.agg (stC a ps.length c k), .agg (stC a' rs.length c' k')] w fun r w' => r = .returned (.bool (sameSt (stOf ps k) (stOf rs k'))) ∧ Below w.heap.size w w' := by
  have hlc := Nat.le_trans h.le h.mx
  have hlc' := Nat.le_trans h'.le h'.mx
  unfold maxLen at hlc hlc'
  unfold stC
  go_enter Try.func31, Try.ntmps31
  go_upto_region 1 with (fail)
  refine abs2 (fun W => Code.wp _ _ _ _ W) fun W0 hb0 hx0 hy0 hs0 => ?_
  clear hs0
  have hcx := hx0.cell
  have hcy := hy0.cell
  by_cases hk : k = k'
  · subst hk
    have hkb : (k != k) = false := by simp
    by_cases hl : ps.length = rs.length
    · have hlb : ((ps.length : Int) != (rs.length : Int)) = false := by simp [hl]
      have hL0 := Lib.hid hl
      clear hl
      go_upto_region 4 with (fail)
      clear hcx hcy
      go_loopw [26] (fun i wr => ∃ (q : Nat), q ≤ ps.length ∧ i = .int .i64 q ∧ Below w.heap.size w wr ∧ Blk wr w.heap.size #[.slice a ps.length c, .int .i64 k] 47 ∧ Blk wr (w.heap.size + 1) #[.slice a' rs.length c', .int .i64 k] 47 ∧ ∀ i, i < q → (stOf ps k).fs[i]? = (stOf rs k).fs[i]?) (fun i _ => ps.length - (intOf i).toNat)
      case atStart => exact ⟨0, Nat.zero_le _, rfl, hb0, hx0, hy0, fun i hi => absurd hi (Nat.not_lt_zero _)⟩
      case round =>
        clear hb0 hx0 hy0
        obtain ⟨q, hq, rfl, hbr, hx, hy, hall0⟩ := hrel
        have hall := Lib.hid hall0
        clear hall0
        by_cases hlt : q < ps.length
        · obtain ⟨b, off, p, rfl, hp, c0, c1⟩ := pf_at (h.below hbr).rd q hlt
          obtain ⟨b2, off2, r, rfl, hr, d0, d1⟩ := pf_at (h'.below hbr).rd q (by have := hL0.out; omega)
          have hgw := h.good p (List.mem_of_getElem? hp)
          have hgv := h'.good r (List.mem_of_getElem? hr)
          have hpf : Hid ((stOf ps k).fs[q]? = some p.fi) := Lib.hid (by simp [stOf, hp])
          have hrf : Hid ((stOf rs k).fs[q]? = some r.fi) := Lib.hid (by simp [stOf, hr])
          have hqr : (q : Int) < (rs.length : Int) := by have := hL0.out; omega
          have hqp : (q : Int) < (ps.length : Int) := by omega
          clear hp hr
          have hcx := hx.cell
          have hcy := hy.cell
          have hal : ∀ (W : World) (O : Obj) (A : Addr), A.block < W.heap.size → (W.alloc O).cell? A = W.cell? A := fun W O A hA => World.cell?_of_block ((Below.heap_alloc W O A.block hA))
          have l1 := hx.lt
          have l2 := hy.lt
          have l3 : b < wr.heap.size := cell_lt c0
          have l4 : b2 < wr.heap.size := cell_lt d0
          have l5 := Nat.lt_succ_of_lt l1
          have l6 := Nat.lt_succ_of_lt l2
          have l7 := Nat.lt_succ_of_lt l3
          have l8 := Nat.lt_succ_of_lt l4
          go_upto_region 6 with (fail)
          obtain ⟨gw, hGW⟩ : ∃ g, g = wr.heap.size := ⟨_, rfl⟩
          go_region
          · refine abs2d (fun W => Exit.then _ _ _ _ W) fun W hbW hP0 hQ0 => ?_
            simp only [← hGW] at hP0 hQ0 ⊢
            have hP : Blk W (gw) (pfC p) 61 := hP0
            have hQ : Blk W (gw + 1) (pfC r) 61 := hQ0
            clear hP0 hQ0
            have hbel2 := below_next hbr hbW
            have hx2 := hx.ext hbW
            have hy2 := hy.ext hbW
            have hgA := hgw.below hbel2
            have hgB := hgv.below hbel2
            clear hbr hx hy hbW c0 c1 d0 d1 l1 l2 l3 l4 l5 l6 l7 l8 hal hcx hcy
            have hcp := hP.cell
            have hcq := hQ.cell
            have p0 : (pfC p)[0]? = some (.int .i64 p.n) := rfl
            have p1 : (pfC p)[1]? = some (.slice p.a p.l.length p.c) := rfl
            have q0 : (pfC r)[0]? = some (.int .i64 r.n) := rfl
            have q1 : (pfC r)[1]? = some (.slice r.a r.l.length r.c) := rfl
            clear hGW
            go_upto_region 7 with (fail)
            by_cases hnn : p.n = r.n
            · have hN := Lib.hid hnn
              rw [hnn] at p0
              have hnb : (r.n != r.n) = false := by simp
              clear hnn
              by_cases hll : p.l.length = r.l.length
              · have hL := Lib.hid hll
                have hlb2 : ((p.l.length : Int) != (r.l.length : Int)) = false := by simp [hll]
                have hle := Nat.le_trans hgw.le hgw.mx
                unfold maxLen at hle
                clear hll
                go_upto_region 10 with (fail)
                clear hcp hcq p0 p1 q0 q1
                go_loopw [56] (fun i wr => ∃ (j : Nat), j ≤ p.l.length ∧ i = .int .i64 j ∧ Below w.heap.size w wr ∧ Blk wr (gw) (pfC p) 61 ∧ Blk wr (gw + 1) (pfC r) 61 ∧ Blk wr w.heap.size #[.slice (some ⟨b, off, none⟩) ps.length c, .int .i64 k] 47 ∧ Blk wr (w.heap.size + 1) #[.slice (some ⟨b2, off2, none⟩) rs.length c', .int .i64 k] 47 ∧ ∀ i, i < j → p.l[i]? = r.l[i]?) (fun i _ => p.l.length - (intOf i).toNat)
                case atStart => exact ⟨0, Nat.zero_le _, rfl, hbel2, hP, hQ, hx2, hy2, fun i hi => absurd hi (Nat.not_lt_zero _)⟩
                case round =>
                  clear hbel2 hP hQ hx2 hy2
                  obtain ⟨j, hj, rfl, hbr, hP, hQ, hx, hy, hin0⟩ := hrel
                  have hin := Lib.hid hin0
                  clear hin0
                  by_cases hjl : j < p.l.length
                  · have hjl' : j < r.l.length := by have := hL.out; omega
                    have k1 : (j : Int) < (r.l.length : Int) := by omega
                    obtain ⟨b3, off3, hpa, hc⟩ := elem_at (hgw.rd.below hbr) j hjl
                    obtain ⟨b4, off4, hra, hd⟩ := elem_at (hgv.rd.below hbr) j hjl'
                    have hcp := hP.cell
                    have hcq := hQ.cell
                    have p1 : (pfC p)[1]? = some (.slice (some ⟨b3, off3, none⟩) p.l.length p.c) := by rw [← hpa]; rfl
                    have q1 : (pfC r)[1]? = some (.slice (some ⟨b4, off4, none⟩) r.l.length r.c) := by rw [← hra]; rfl
                    have hxe : p.l[j]? = some p.l[j] := List.getElem?_eq_getElem hjl
                    have hye : r.l[j]? = some r.l[j] := List.getElem?_eq_getElem hjl'
                    have hxe' := Lib.hid hxe
                    have hye' := Lib.hid hye
                    clear hpa hra hxe hye
                    generalize p.l[j] = xx at hc hxe'
                    generalize r.l[j] = yy at hd hye'
                    go_wp2_with fail
                    go_quiet (fail)
                    by_cases he : xx = yy
                    · have hz : (xx != yy) = false := by simp [he]
                      have hnx : Hid (∀ i, i < j + 1 → p.l[i]? = r.l[i]?) := Lib.hid (fun i hi => by
                        by_cases e : i = j
                        · subst e; rw [hxe'.out, hye'.out, he]
                        · exact hin.out i (by omega))
                      clear he
                      go_wp2
                      go_roundw
                      case rel => exact ⟨j + 1, by omega, by go_num, below_drewN hbr _, hP.drewN _, hQ.drewN _, hx.drewN _, hy.drewN _, hnx.out⟩
                      case measure => simp [intOf]; omega
                    · have hz : (xx != yy) = true := by rw [bne_iff_ne]; exact he
                      have hfin : Hid (sameSt (stOf ps k) (stOf rs k) = false) := Lib.hid (sameSt_file q (by
                        rw [hpf.out, hrf.out]
                        intro e
                        have e2 : p.l = r.l := congrArg Fi.b (Option.some.inj e)
                        have e3 := hxe'.out
                        rw [e2, hye'.out] at e3
                        exact he (Option.some.inj e3).symm))
                      clear he
                      go_wp2
                      go_ret
                      exact ⟨ret_bool hfin.out.symm, below_drewN hbr _⟩
                  · have hnx : Hid (∀ i, i < q + 1 → (stOf ps k).fs[i]? = (stOf rs k).fs[i]?) := Lib.hid (fun i hi => by
                      by_cases e : i = q
                      · subst e
                        rw [hpf.out, hrf.out]
                        have e1 : p.l = r.l := by
                          apply List.ext_getElem?
                          intro i
                          by_cases hi : i < p.l.length
                          · exact hin.out i (by omega)
                          · rw [List.getElem?_eq_none (by omega), List.getElem?_eq_none (by have := hL.out; omega)]
                        unfold PF.fi
                        rw [hN.out, e1]
                      · exact hall.out i (by omega))
                    go_wp2
                    go_roundw
                    case rel => exact ⟨q + 1, by omega, by go_num, hbr, hx, hy, hnx.out⟩
                    case measure => simp [intOf]; omega
              · have hlb2 : ((p.l.length : Int) != (r.l.length : Int)) = true := by rw [bne_iff_ne]; omega
                have hfin : Hid (sameSt (stOf ps k) (stOf rs k) = false) := Lib.hid (sameSt_file q (by rw [hpf.out, hrf.out]; intro e; exact hll (congrArg List.length (congrArg Fi.b (Option.some.inj e)))))
                clear hll
                go_wp2
                go_ret
                exact ⟨ret_bool hfin.out.symm, hbel2⟩
            · have hnb : (p.n != r.n) = true := by rw [bne_iff_ne]; exact hnn
              have hfin : Hid (sameSt (stOf ps k) (stOf rs k) = false) := Lib.hid (sameSt_file q (by rw [hpf.out, hrf.out]; intro e; exact hnn (congrArg Fi.n (Option.some.inj e))))
              clear hnn
              go_wp2
              go_ret
              exact ⟨ret_bool hfin.out.symm, hbel2⟩
          · refine abs2d (fun W => Exit.then _ _ _ _ W) fun W hbW hQ0 hP0 => ?_
            simp only [← hGW] at hP0 hQ0 ⊢
            have hP : Blk W (gw + 1) (pfC p) 61 := hP0
            have hQ : Blk W (gw) (pfC r) 61 := hQ0
            clear hP0 hQ0
            have hbel2 := below_next hbr hbW
            have hx2 := hx.ext hbW
            have hy2 := hy.ext hbW
            have hgA := hgw.below hbel2
            have hgB := hgv.below hbel2
            clear hbr hx hy hbW c0 c1 d0 d1 l1 l2 l3 l4 l5 l6 l7 l8 hal hcx hcy
            have hcp := hP.cell
            have hcq := hQ.cell
            have p0 : (pfC p)[0]? = some (.int .i64 p.n) := rfl
            have p1 : (pfC p)[1]? = some (.slice p.a p.l.length p.c) := rfl
            have q0 : (pfC r)[0]? = some (.int .i64 r.n) := rfl
            have q1 : (pfC r)[1]? = some (.slice r.a r.l.length r.c) := rfl
            clear hGW
            go_upto_region 7 with (fail)
            by_cases hnn : p.n = r.n
            · have hN := Lib.hid hnn
              rw [hnn] at p0
              have hnb : (r.n != r.n) = false := by simp
              clear hnn
              by_cases hll : p.l.length = r.l.length
              · have hL := Lib.hid hll
                have hlb2 : ((p.l.length : Int) != (r.l.length : Int)) = false := by simp [hll]
                have hle := Nat.le_trans hgw.le hgw.mx
                unfold maxLen at hle
                clear hll
                go_upto_region 10 with (fail)
                clear hcp hcq p0 p1 q0 q1
                go_loopw [56] (fun i wr => ∃ (j : Nat), j ≤ p.l.length ∧ i = .int .i64 j ∧ Below w.heap.size w wr ∧ Blk wr (gw + 1) (pfC p) 61 ∧ Blk wr (gw) (pfC r) 61 ∧ Blk wr w.heap.size #[.slice (some ⟨b, off, none⟩) ps.length c, .int .i64 k] 47 ∧ Blk wr (w.heap.size + 1) #[.slice (some ⟨b2, off2, none⟩) rs.length c', .int .i64 k] 47 ∧ ∀ i, i < j → p.l[i]? = r.l[i]?) (fun i _ => p.l.length - (intOf i).toNat)
                case atStart => exact ⟨0, Nat.zero_le _, rfl, hbel2, hP, hQ, hx2, hy2, fun i hi => absurd hi (Nat.not_lt_zero _)⟩
                case round =>
                  clear hbel2 hP hQ hx2 hy2
                  obtain ⟨j, hj, rfl, hbr, hP, hQ, hx, hy, hin0⟩ := hrel
                  have hin := Lib.hid hin0
                  clear hin0
                  by_cases hjl : j < p.l.length
                  · have hjl' : j < r.l.length := by have := hL.out; omega
                    have k1 : (j : Int) < (r.l.length : Int) := by omega
                    obtain ⟨b3, off3, hpa, hc⟩ := elem_at (hgw.rd.below hbr) j hjl
                    obtain ⟨b4, off4, hra, hd⟩ := elem_at (hgv.rd.below hbr) j hjl'
                    have hcp := hP.cell
                    have hcq := hQ.cell
                    have p1 : (pfC p)[1]? = some (.slice (some ⟨b3, off3, none⟩) p.l.length p.c) := by rw [← hpa]; rfl
                    have q1 : (pfC r)[1]? = some (.slice (some ⟨b4, off4, none⟩) r.l.length r.c) := by rw [← hra]; rfl
                    have hxe : p.l[j]? = some p.l[j] := List.getElem?_eq_getElem hjl
                    have hye : r.l[j]? = some r.l[j] := List.getElem?_eq_getElem hjl'
                    have hxe' := Lib.hid hxe
                    have hye' := Lib.hid hye
                    clear hpa hra hxe hye
                    generalize p.l[j] = xx at hc hxe'
                    generalize r.l[j] = yy at hd hye'
                    go_wp2_with fail
                    go_quiet (fail)
                    by_cases he : xx = yy
                    · have hz : (xx != yy) = false := by simp [he]
                      have hnx : Hid (∀ i, i < j + 1 → p.l[i]? = r.l[i]?) := Lib.hid (fun i hi => by
                        by_cases e : i = j
                        · subst e; rw [hxe'.out, hye'.out, he]
                        · exact hin.out i (by omega))
                      clear he
                      go_wp2
                      go_roundw
                      case rel => exact ⟨j + 1, by omega, by go_num, below_drewN hbr _, hP.drewN _, hQ.drewN _, hx.drewN _, hy.drewN _, hnx.out⟩
                      case measure => simp [intOf]; omega
                    · have hz : (xx != yy) = true := by rw [bne_iff_ne]; exact he
                      have hfin : Hid (sameSt (stOf ps k) (stOf rs k) = false) := Lib.hid (sameSt_file q (by
                        rw [hpf.out, hrf.out]
                        intro e
                        have e2 : p.l = r.l := congrArg Fi.b (Option.some.inj e)
                        have e3 := hxe'.out
                        rw [e2, hye'.out] at e3
                        exact he (Option.some.inj e3).symm))
                      clear he
                      go_wp2
                      go_ret
                      exact ⟨ret_bool hfin.out.symm, below_drewN hbr _⟩
                  · have hnx : Hid (∀ i, i < q + 1 → (stOf ps k).fs[i]? = (stOf rs k).fs[i]?) := Lib.hid (fun i hi => by
                      by_cases e : i = q
                      · subst e
                        rw [hpf.out, hrf.out]
                        have e1 : p.l = r.l := by
                          apply List.ext_getElem?
                          intro i
                          by_cases hi : i < p.l.length
                          · exact hin.out i (by omega)
                          · rw [List.getElem?_eq_none (by omega), List.getElem?_eq_none (by have := hL.out; omega)]
                        unfold PF.fi
                        rw [hN.out, e1]
                      · exact hall.out i (by omega))
                    go_wp2
                    go_roundw
                    case rel => exact ⟨q + 1, by omega, by go_num, hbr, hx, hy, hnx.out⟩
                    case measure => simp [intOf]; omega
              · have hlb2 : ((p.l.length : Int) != (r.l.length : Int)) = true := by rw [bne_iff_ne]; omega
                have hfin : Hid (sameSt (stOf ps k) (stOf rs k) = false) := Lib.hid (sameSt_file q (by rw [hpf.out, hrf.out]; intro e; exact hll (congrArg List.length (congrArg Fi.b (Option.some.inj e)))))
                clear hll
                go_wp2
                go_ret
                exact ⟨ret_bool hfin.out.symm, hbel2⟩
            · have hnb : (p.n != r.n) = true := by rw [bne_iff_ne]; exact hnn
              have hfin : Hid (sameSt (stOf ps k) (stOf rs k) = false) := Lib.hid (sameSt_file q (by rw [hpf.out, hrf.out]; intro e; exact hnn (congrArg Fi.n (Option.some.inj e))))
              clear hnn
              go_wp2
              go_ret
              exact ⟨ret_bool hfin.out.symm, hbel2⟩
        · have hfin : Hid (sameSt (stOf ps k) (stOf rs k) = true) := Lib.hid (sameSt_all rfl (by simpa [stOf] using hL0.out) (fun i hi => hall.out i (Nat.lt_of_lt_of_le (show i < ps.length by simpa [stOf] using hi) (by omega))))
          go_wp2
          go_ret
          exact ⟨ret_bool hfin.out.symm, hbr⟩
    · have hlb : ((ps.length : Int) != (rs.length : Int)) = true := by rw [bne_iff_ne]; omega
      have hfin : Hid (sameSt (stOf ps k) (stOf rs k) = false) := Lib.hid (sameSt_len (by simpa [stOf] using hl))
      clear hl
      go_wp2
      go_ret
      exact ⟨ret_bool hfin.out.symm, hb0⟩
  · have hkb : (k != k') = true := by rw [bne_iff_ne]; exact hk
    have hfin : Hid (sameSt (stOf ps k) (stOf rs k') = false) := Lib.hid (sameSt_count hk)
    clear hk
    go_wp2
    go_ret
    exact ⟨ret_bool hfin.out.symm, hb0⟩
end Go.Proofs.Ytmdnmknmniabeaa
