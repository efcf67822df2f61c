/- What the document's KeepDisk does. -/
import Derived.Test.YtohbfjbcfibhcaaRef3
namespace Go.Proofs.Ytohbfjbcfibhcaa
open Go.RowKit Pw
set_option linter.unusedSimpArgs false
set_option linter.unusedVariables false

def allF (al : Bool) (bits : Int) (i : Nat) : Bool := al || crashF bits i
theorem halves (b : Int) (s : Nat) : b / 2 ^ s / 2 = b / 2 ^ (s + 1) := by
  rw [Int.ediv_ediv_of_nonneg (Int.le_of_lt (Int.pow_pos (by decide))), Int.pow_succ]
set_option maxHeartbeats 2000000 in
set_option maxRecDepth 100000 in
theorem rkeep_any (d : Dsk) (bits : Int) (al : Bool) (ab : Option Addr) (cb : Nat) (aq : Option Addr) (cq : Nat) (w : World) (h : DRd w ab cb aq cq d) :
    Calls Try.prog 63 #[.agg #[.slice ab d.blocks.length cb, .slice aq d.queue.length cq], .int .i64 bits, .bool al] w fun e w' => ∃ vb vq, e = .returned (.tuple #[.agg #[vb, vq], .int .i64 (wrongD d)]) ∧ DOwn w' w.heap.size vb vq (keptD (allF al bits) d) ∧ Below w.heap.size w w' := by
  go_enter Try.func63, Try.ntmps63
  go_wp2_with fail
  refine abs2 (fun W => Calls _ _ _ W _) fun W0 hb0 hx0 hr0 hs0 => ?_
  refine (rdwrong_any d ab cb aq cq _ (h.below hb0)).mono ?_
  rintro e w1 ⟨rfl, hb1⟩
  have hbel1 := below_next hb0 hb1
  have hx1 := hx0.ext hb1
  have hres1 := hr0.ext hb1
  have h1 := h.below hbel1
  clear hx0 hr0 hb1 hb0 hs0
  by_cases hw : wrongD d = 0
  · obtain ⟨l80, l400⟩ := wrongD_le hw
    have hin := wrongD_in hw
    have hin' := Lib.hid hin
    have Q : Hid (keptD (allF al bits) d = ⟨keepN (allF al bits) d.blocks d.queue d.queue.length, []⟩) := by unfold keptD; exact if_pos hw
    rw [hw]
    have hgx : w.heap.size + 2 ≤ w1.heap.size := by have := hres1.lt; omega
    clear hin
    have hcx := fun o => (hx1.alloc o).cell
    go_wp2_with (at_builtin; go_must (refine wpList_app rfl _ _ 33 rfl w.heap.size 23 _ 8 8 Try.underlying33 page_info rfl (by decide) _ 0 [] rfl ?own2 ab d.blocks.length cb (d.blocks.flatMap pgL) rfl h1.nb h1.lb (pages_len d.blocks) ?rd2 (pages_one d.blocks) (by unfold maxLen; omega) (by omega) ?bb2 ?k2))
    case own2 => exact Own.empty _ _ hbel1.size
    case rd2 => exact h1.rb.below ((Below.refl _ _).alloc (Nat.le_refl _) _)
    case bb2 => exact le_alloc' hbel1.size _
    intro vb w2 hob hgr
    have hbel2 : Below w.heap.size w w2 := (hbel1.alloc hbel1.size _).grown hgr (le_alloc' hbel1.size _) (fun k hk => by cases hk; exact hbel1.size)
    have hres2 := (hres1.alloc (.cells #[] 23)).grown hgr (fun he => by have h1 := Option.some.inj he; simp at h1; omega)
    have hx2 := (hx1.alloc (.cells #[] 23)).grown hgr (fun he => by have h1 := Option.some.inj he; simp at h1; omega)
    have hob2 : Own w2 w.heap.size 23 8 vb d.blocks.length (d.blocks.flatMap pgL) := by simpa using hob
    clear hob hgr hbel1 hx1 hres1 h1 hcx
    obtain ⟨xb, cb', rfl, _⟩ := hob2.rd
    have lq := Nat.le_trans h.lq h.mq
    unfold maxLen at lq
    have hcx := hx2.cell
    go_wp2
    clear hcx hx2
    go_loopw [27] (fun i wr => ∃ j : Nat, j ≤ d.queue.length ∧ i = .int .i64 j ∧ Below w.heap.size w wr ∧ Blk wr (w.heap.size + 1) #[.slice none 0 0, .slice none 0 0] 36 ∧ Own wr w.heap.size 23 8 (.slice xb d.blocks.length cb') d.blocks.length ((keepN (allF al bits) d.blocks d.queue j).flatMap pgL)) (fun i _ => d.queue.length - (intOf i).toNat)
    case atStart => exact ⟨0, Nat.zero_le _, rfl, hbel2, hres2, hob2⟩
    case round =>
      clear hbel2 hres2 hob2
      obtain ⟨j, hj, rfl, hbel, hres, hob⟩ := hrel
      by_cases hlt : j < d.queue.length
      · obtain ⟨b', off', rfl, hc⟩ := put_at (h.below hbel).rq j hlt
        have c0 := hc 0 (by decide); have c1 := hc 1 (by decide); have c2 := hc 2 (by decide); have c3 := hc 3 (by decide); have c4 := hc 4 (by decide)
        have c5 := hc 5 (by decide); have c6 := hc 6 (by decide); have c7 := hc 7 (by decide); have c8 := hc 8 (by decide)
        simp only [puC, List.getElem?_toArray, List.getElem?_cons_zero, List.getElem?_cons_succ, Nat.add_zero] at c0 c1 c2 c3 c4 c5 c6 c7 c8
        clear hc
        obtain ⟨i1, i2⟩ := hin'.out j hlt
        obtain ⟨i0, hi0⟩ := Int.eq_ofNat_of_zero_le i1
        have hi0' : i0 < d.blocks.length := by omega
        rw [hi0] at c0
        have hi0h := Lib.hid hi0
        clear i1 i2 hi0
        go_upto_region 9 with (fail)
        refine abs1 (fun W => Code.wp _ _ _ _ W) fun w4 hb4 hz4 hs4 => ?_
        have hbel4 := below_next hbel hb4
        have hres4 := hres.ext hb4
        have hob4 := hob.below hb4
        clear hbel hres hob hb4 hs4 c0 c1 c2 c3 c4 c5 c6 c7 c8
        have hjm : j % 60 < 60 := Nat.mod_lt _ (by decide)
        go_wp2
        go_loopw [12, 13] (fun s12 s13 wr => ∃ s : Nat, s ≤ j % 60 ∧ s13 = .int .i64 s ∧ s12 = .int .i64 (bits / 2 ^ s) ∧ w4 = wr) (fun _ s13 _ => 60 - (intOf s13).toNat)
        case atStart => exact ⟨0, Nat.zero_le _, rfl, by simp, rfl⟩
        case round =>
          obtain ⟨s, hs, rfl, rfl, rfl⟩ := hrel
          by_cases hsl : s < j % 60
          · have hh := halves bits s
            go_wp2
            go_roundw
            case rel => exact ⟨s + 1, by omega, by go_num, rfl, trivial⟩
            case measure => simp [intOf]; omega
          · have hse : s = j % 60 := by omega
            subst hse
            clear hsl hs
            have hcz := hz4.cell
            cases al with
            | true =>
              have hkn := Lib.hid (keepN_put (f := allF true bits) (B := d.blocks) hlt (by simp [allF]))
              obtain ⟨gb, offb, capb, curb, hvb, hBb, hgb, hfb, hsetb⟩ := own_putn pgL_len (by decide) (keepN_len _ d.blocks d.queue j) hob4 i0 hi0'
              cases hvb
              have hi0z : (i0 : Int) < (d.blocks.length : Int) := by omega
              go_wp2_with (refine wpList_st rfl _ (.tmp 52) (.tmp 51) rfl gb (offb + i0 * 8) (pgC d.queue[j].2) rfl rfl curb 23 hgb (by rw [pgC_size]; omega) (pg_info _) (pgC_one _) ?_)
              intro w5 hq5 hgr5
              have hB5 := hsetb w5 d.queue[j].2 hq5
              have hres5 := blk_keep hres4 hgb (by decide) hgr5
              have hbel5 : Below w.heap.size w w5 := hbel4.grown hgr5 hbel4.size (fun k hk => by cases hk; exact hBb)
              clear hq5 hsetb hgb hres4 hob4 hbel4 hcz hz4 hgr5
              go_wp2
              go_roundw
              case rel => exact ⟨j + 1, by omega, by go_num, hbel5, hres5, by rw [hkn.out, hi0h.out, Int.toNat_natCast]; exact hB5⟩
              case measure => simp [intOf]; omega
            | false =>
              cases hcf : crashF bits j with
              | true =>
                have hkn := Lib.hid (keepN_put (f := allF false bits) (B := d.blocks) hlt (by simp [allF, hcf]))
                have hcf' : (Go.bits BinOp.and IntKind.i64 (bits / 2 ^ (j % 60)) 1 == 1) = true := hcf
                clear hcf
                obtain ⟨gb, offb, capb, curb, hvb, hBb, hgb, hfb, hsetb⟩ := own_putn pgL_len (by decide) (keepN_len _ d.blocks d.queue j) hob4 i0 hi0'
                cases hvb
                have hi0z : (i0 : Int) < (d.blocks.length : Int) := by omega
                go_wp2_with (refine wpList_st rfl _ (.tmp 52) (.tmp 51) rfl gb (offb + i0 * 8) (pgC d.queue[j].2) rfl rfl curb 23 hgb (by rw [pgC_size]; omega) (pg_info _) (pgC_one _) ?_)
                intro w5 hq5 hgr5
                have hB5 := hsetb w5 d.queue[j].2 hq5
                have hres5 := blk_keep hres4 hgb (by decide) hgr5
                have hbel5 : Below w.heap.size w w5 := hbel4.grown hgr5 hbel4.size (fun k hk => by cases hk; exact hBb)
                clear hq5 hsetb hgb hres4 hob4 hbel4 hcz hz4 hgr5
                go_wp2
                go_roundw
                case rel => exact ⟨j + 1, by omega, by go_num, hbel5, hres5, by rw [hkn.out, hi0h.out, Int.toNat_natCast]; exact hB5⟩
                case measure => simp [intOf]; omega
              | false =>
                have hkn := Lib.hid (keepN_not (f := allF false bits) (B := d.blocks) hlt (by simp [allF, hcf]))
                have hcf' : (Go.bits BinOp.and IntKind.i64 (bits / 2 ^ (j % 60)) 1 == 1) = false := hcf
                clear hcf hcz
                go_wp2
                go_roundw
                case rel => exact ⟨j + 1, by omega, by go_num, hbel4, hres4, by rw [hkn.out]; exact hob4⟩
                case measure => simp [intOf]; omega
      · have htk : j = d.queue.length := by omega
        have htk' := Lib.hid htk
        clear htk
        go_wp2_with (refine wpList_stw rfl _ (.tmp 6) (.tmp 55) rfl (w.heap.size + 1) #[.slice xb d.blocks.length cb', .slice none 0 0] rfl rfl _ _ hres (disk_fit _ _ _ _) (disk_info _ _) (sl_one _ _ _ _ _ _) ?_)
        intro w8 hr8 hgr8
        have hb8 := own_keep hob hres (by decide) hgr8
        have hbel8 := hbel.grown hgr8 hbel.size (fun k hk => by cases hk; omega)
        have hcr := hr8.cell
        clear hob hres hbel hgr8
        go_wp2
        simp [bodyPost, results, go_sem, Try.results63, hcr]
        refine ⟨_, _, ⟨⟨rfl, rfl⟩, hw.symm⟩, ?_, hbel8⟩
        rw [Q.out]
        rw [htk'.out] at hb8
        exact ⟨by rw [keepN_len]; exact hb8, Own.nil _ _ _ _⟩
  · have q2 : keptD (allF al bits) d = ⟨[], []⟩ := by unfold keptD; rw [if_neg hw]
    have hw' : (wrongD d != 0) = true := by simpa using hw
    go_wp2_with (refine wpList_stw rfl _ (.tmp 6) (.tmp 18) rfl (w.heap.size + 1) #[.slice none 0 0, .slice none 0 0] rfl rfl _ _ hres1 rfl disk_size (sl_one _ _ _ _ _ _) ?_)
    intro w2 hr2 hgr
    have hbel2 := hbel1.grown hgr hbel1.size (fun k hk => by cases hk; omega)
    have hcr := hr2.cell
    go_wp2
    simp [bodyPost, results, go_sem, Try.results63, hcr]
    exact ⟨_, _, ⟨rfl, rfl⟩, by rw [q2]; exact DOwn.nil _ _, hbel2⟩
end Go.Proofs.Ytohbfjbcfibhcaa
