/- The closed fact of package pglaw2; the law DiskReads, walked. -/
import Derived.Test.YtohbfjbcfibhcaaDiskPlain
namespace Go.Proofs.Ytohbfjbcfibhcaa
open Go.RowKit Pw
set_option linter.unusedSimpArgs false
set_option linter.unusedVariables false

def pg5 : Page := #v[5, 0, 0, 0, 0, 0, 0, 0]
def d3 : Dsk := ⟨[zPg, zPg, zPg], []⟩
def d31 : Dsk := ⟨[zPg, zPg, zPg], [(1, pg5)]⟩
theorem d3_new : newD 3 = d3 := rfl
theorem d3_write : writeD d3 1 pg5 = d31 := by
  unfold writeD
  rw [if_pos (by decide)]
  rfl
theorem d3_or : wrong_or d3 1 = 0 := by decide
theorem d31_or : wrong_or d31 1 = 0 := by decide
theorem d31_read : readP d31 1 = pg5 := by
  unfold readP
  rw [if_pos d31_or]
  rfl
theorem d31_wrong : wrongD d31 = 0 := by decide
theorem d31_crash : keptD (crashF 0) d31 = d3 := by
  unfold keptD
  rw [if_pos d31_wrong]
  have : crashF 0 0 = false := by decide
  simp [d31, d3, keepN, this]
theorem d3_read : readP d3 1 = zPg := by
  unfold readP
  rw [if_pos d3_or]
  rfl

theorem byte_size : (Try.prog.info? 5).map (·.size) = some 1 := by kernel_rfl
theorem eqP (p q : Page) (W : World) : (Op.equalIn 10000 23 (.agg #[.int .u8 p[0].toNat, .int .u8 p[1].toNat, .int .u8 p[2].toNat, .int .u8 p[3].toNat, .int .u8 p[4].toNat, .int .u8 p[5].toNat, .int .u8 p[6].toNat, .int .u8 p[7].toNat]) (.agg #[.int .u8 q[0].toNat, .int .u8 q[1].toNat, .int .u8 q[2].toNat, .int .u8 q[3].toNat, .int .u8 q[4].toNat, .int .u8 q[5].toNat, .int .u8 q[6].toNat, .int .u8 q[7].toNat])).run Try.prog W = .ok (p == q) W :=
  run_eq_page W 9998 _ _ Try.underlying23 Try.underlying5 byte_size p q
theorem pgC_lit (p : Page) : pgC p = #[.int .u8 p[0].toNat, .int .u8 p[1].toNat, .int .u8 p[2].toNat, .int .u8 p[3].toNat, .int .u8 p[4].toNat, .int .u8 p[5].toNat, .int .u8 p[6].toNat, .int .u8 p[7].toNat] := rfl
theorem lit5 : pgC pg5 = #[.int .u8 5, .int .u8 0, .int .u8 0, .int .u8 0, .int .u8 0, .int .u8 0, .int .u8 0, .int .u8 0] := rfl
theorem lit0 : pgC zPg = #[.int .u8 0, .int .u8 0, .int .u8 0, .int .u8 0, .int .u8 0, .int .u8 0, .int .u8 0, .int .u8 0] := rfl
set_option maxHeartbeats 1000000 in
set_option maxRecDepth 100000 in
theorem alive2 (w : World) : Calls Try.prog 26 #[] w fun e w' => e = .returned (.bool true) ∧ Below w.heap.size w w' := by
  go_enter Try.func26, Try.ntmps26
  go_wp2_with fail
  refine (dnew_any 3 _).mono ?_
  rintro e w1 ⟨vb, vq, rfl, ho1, hb1⟩
  rw [show newDE 3 = 0 from by decide]
  rw [d3_new] at ho1
  obtain ⟨ab, cb, aq, cq, rfl, rfl, hd1⟩ := ho1.rd
  clear ho1
  go_wp2_with fail
  refine abs1 (fun W => Calls _ _ _ W _) fun W1 hbA hx1 _ => ?_
  have hbelA := below_next hb1 hbA
  have hw := dwrite_any d3 1 pg5 ab cb aq cq W1 (hd1.below hbA)
  rw [d3_or, d3_write] at hw
  refine hw.mono ?_
  rintro e w2 ⟨vb, vq, rfl, ho2, hb2⟩
  have hbel2 := below_next hbelA hb2
  have hx2 := hx1.ext hb2
  obtain ⟨ab2, cb2, aq2, cq2, rfl, rfl, hd2⟩ := ho2.rd
  have hgA := hbelA.size
  have hgx := hx1.lt
  clear hw hd1 hbA hb2 hx1
  go_wp2_with (refine wpList_stw rfl _ (.tmp 1) (.tmp 18) rfl w1.heap.size #[.slice ab2 d31.blocks.length cb2, .slice aq2 d31.queue.length cq2] rfl rfl _ _ hx2 (disk_fit _ _ _ _) (disk_info _ _) (sl_one _ _ _ _ _ _) ?_)
  intro w3 hx3 hgr
  have hbel3 : Below w.heap.size w w3 := hbel2.grown hgr hbel2.size (fun k hk => by cases hk; exact hb1.size)
  have ho3 := (ho2.mono hgA).keep hx2 (by decide) (by decide) hgr
  obtain ⟨_, _, _, _, e1, e2, hd3⟩ := ho3.rd
  cases e1
  cases e2
  clear ho2 ho3 hd2 hx2 hgr hbel2
  have hc3 := hx3.cell
  go_wp2_with fail
  refine (dread_any d31 1 ab2 cb2 aq2 cq2 _ hd3).mono ?_
  rintro e w4 ⟨rfl, hb4⟩
  rw [d31_or, d31_read, lit5]
  have hbel4 := below_next hbel3 hb4
  have hx4 := hx3.ext hb4
  have hd4 := hd3.below hb4
  clear hc3 hx3 hd3 hb4
  have hc4 := fun o => (hx4.alloc o).cell
  go_wp2_with fail
  clear hc4
  refine abs1 (fun W => Calls _ _ _ W _) fun W4 hbB hp4 _ => ?_
  have hbelB := below_next hbel4 hbB
  have hx5 := hx4.ext hbB
  have hd5 := hd4.below hbB
  have hk := dcrash_any d31 ab2 cb2 aq2 cq2 0 W4 hd5
  rw [d31_wrong, d31_crash] at hk
  refine hk.mono ?_
  rintro e w5 ⟨vb, vq, rfl, ho5, hb5⟩
  have hbel5 := below_next hbelB hb5
  have hx6 := hx5.ext hb5
  have hp6 := hp4.ext hb5
  obtain ⟨ab5, cb5, aq5, cq5, rfl, rfl, hd6⟩ := ho5.rd
  have hd7 := hd5.below hb5
  clear ho5 hk hx4 hd4 hbB hp4 hb5 hd5 hx5
  go_wp2_with fail
  refine abs1 (fun W => Calls _ _ _ W _) fun W5 hbC hz5 _ => ?_
  have hbelC := below_next hbel5 hbC
  have hx8 := hx6.ext hbC
  have hp8 := hp6.ext hbC
  refine (dread_any d3 1 ab5 cb5 aq5 cq5 _ (hd6.below hbC)).mono ?_
  rintro e w6 ⟨rfl, hb6⟩
  rw [d3_or, d3_read, lit0]
  have hbel6 := below_next hbelC hb6
  have hx9 := hx8.ext hb6
  have hp9 := hp8.ext hb6
  have hd9 := (hd7.below hbC).below hb6
  clear hx8 hp8 hb6 hbC hz5 hd6 hx6 hp6 hd7
  have hc9 := fun o => (hx9.alloc o).cell
  have hcp := fun o => (hp9.alloc o).cell
  have hq1 : (d31.queue.length : Int) = 1 := rfl
  go_wp2_with fail
  clear hc9 hcp
  refine abs1 (fun W => Calls _ _ _ W _) fun W6 hbD _ _ => ?_
  refine (dwrong_any d31 ab2 cb2 aq2 cq2 _ (hd9.below hbD)).mono ?_
  rintro e w7 ⟨rfl, hb7⟩
  rw [d31_wrong]
  go_wp2
  go_ret
  exact ⟨rfl, below_next (below_next hbel6 hbD) hb7⟩

set_option maxHeartbeats 2000000 in
set_option maxRecDepth 100000 in
theorem disk_reads (d : Dsk) (k : Int) (p : Page) (o : Int) (ab : Option Addr) (cb : Nat) (aq : Option Addr) (cq : Nat) (w : World) (h : DRd w ab cb aq cq d) :
    Calls Try.prog 5 #[.agg #[.slice ab d.blocks.length cb, .slice aq d.queue.length cq], .int .i64 k, .agg (pgC p), .int .i64 o] w fun e w' => e = .returned (.bool true) ∧ Below w.heap.size w w' := by
  go_enter Try.func5, Try.ntmps5
  go_wp2_with fail
  refine abs2 (fun W => Calls _ _ _ W _) fun W0 hb0 hx0 hp0 _ => ?_
  refine (alive2 _).mono ?_
  rintro e w1 ⟨rfl, hb1⟩
  have hbel1 := below_next hb0 hb1
  have hx1 := hx0.ext hb1
  have hp1 := hp0.ext hb1
  have hd1 := h.below hbel1
  clear hx0 hp0 hb0 hb1
  have hc1 := hx1.cell
  have hcp := hp1.cell
  obtain ⟨e0, e1, e2, e3, e4, e5, e6, e7⟩ := pgC_all p
  go_wp2_with fail
  refine (dwrite_any d k p ab cb aq cq _ hd1).mono ?_
  rintro e w2 ⟨vb, vq, rfl, ho2, hb2⟩
  have hbel2 := below_next hbel1 hb2
  have hx2 := hx1.ext hb2
  have hp2 := hp1.ext hb2
  have hd2 := hd1.below hb2
  obtain ⟨ab2, cb2, aq2, cq2, rfl, rfl, hy2⟩ := ho2.rd
  clear hx1 hp1 hd1 hb2 ho2 hc1 hcp e0 e1 e2 e3 e4 e5 e6 e7
  by_cases hw : wrong_or d k = 0
  · obtain ⟨hw1, hk0, hk1⟩ := wrong_or_ok.1 hw
    have hwd : writeD d k p = pushW d (k, p) := by unfold writeD; rw [if_pos hw]
    rw [hw]
    rw [hwd] at hy2
    have hro : wrong_or (pushW d (k, p)) k = 0 := by rw [push_or hw1 hk0 hk1]; exact hw
    have hrp : readP (pushW d (k, p)) k = p := by rw [push_read hw1 hk0 hk1, if_pos ⟨hw, rfl⟩]
    have hoo : wrong_or (pushW d (k, p)) o = wrong_or d o := push_or hw1 hk0 hk1 o
    go_upto_region 4 with (fail)
    refine abs1 (fun W => Code.wp _ _ _ _ W) fun w3 hb3 hz3 _ => ?_
    have hbel3 := below_next hbel2 hb3
    have hx3 := hx2.ext hb3
    have hp3 := hp2.ext hb3
    have hd3 := hd2.below hb3
    have hy3 := hy2.below hb3
    clear hx2 hp2 hd2 hy2 hb3
    have hcz := hz3.cell
    go_wp2_with fail
    refine (dread_any _ k ab2 cb2 aq2 cq2 _ hy3).mono ?_
    rintro e w4 ⟨rfl, hb4⟩
    rw [hro, hrp, pgC_lit]
    have hbel4 := below_next hbel3 hb4
    have hx4 := hx3.ext hb4
    have hp4 := hp3.ext hb4
    have hz4 := hz3.ext hb4
    have hd4 := hd3.below hb4
    have hy4 := hy3.below hb4
    clear hx3 hp3 hz3 hd3 hy3 hb4 hcz
    have hcx := fun o => (hx4.alloc o).cell
    go_wp2_with fail
    clear hcx
    refine abs1 (fun W => Calls _ _ _ W _) fun w5 hb5 ha5 _ => ?_
    have hbel5 := below_next hbel4 hb5
    refine (dread_any d o ab cb aq cq _ (hd4.below hb5)).mono ?_
    rintro e w6 ⟨rfl, hb6⟩
    have hbel6 := below_next hbel5 hb6
    have hp6 := (hp4.ext hb5).ext hb6
    have hz6 := (hz4.ext hb5).ext hb6
    have ha6 := ha5.ext hb6
    have hy6 := (hy4.below hb5).below hb6
    rw [pgC_lit]
    clear hx4 hp4 hz4 hd4 hy4 hb5 ha5 hb6
    have hcz := fun o => (hz6.alloc o).cell
    go_wp2_with fail
    clear hcz
    refine abs1 (fun W => Calls _ _ _ W _) fun w7 hb7 hB7 _ => ?_
    have hbel7 := below_next hbel6 hb7
    refine (dread_any _ o ab2 cb2 aq2 cq2 _ (hy6.below hb7)).mono ?_
    rintro e w8 ⟨rfl, hb8⟩
    rw [hoo, pgC_lit]
    have hbel8 := below_next hbel7 hb8
    have hp8 := (hp6.ext hb7).ext hb8
    have ha8 := (ha6.ext hb7).ext hb8
    have hB8 := hB7.ext hb8
    clear hp6 hz6 ha6 hy6 hb7 hB7 hb8
    go_upto_region 9 with (fail)
    refine abs1 (fun W => Code.wp _ _ _ _ W) fun w9 hb9 hC9 _ => ?_
    have hbel9 := below_next hbel8 hb9
    have hcp := (hp8.ext hb9).cell
    have hca := (ha8.ext hb9).cell
    have hcb := (hB8.ext hb9).cell
    have hcc := hC9.cell
    obtain ⟨e0, e1, e2, e3, e4, e5, e6, e7⟩ := pgC_all p
    have hE1 := eqP p p
    rw [beq_self_eq_true] at hE1
    have hE2 := eqP (readP d o) (readP (pushW d (k, p)) o)
    by_cases hok : o = k
    · subst hok
      clear hE2
      go_wp2
      go_ret
      exact ⟨rfl, hbel9⟩
    · have hok' : (o == k) = false := by simpa using hok
      rw [push_read hw1 hk0 hk1, if_neg (fun hh => hok hh.2.symm), beq_self_eq_true] at hE2
      rw [push_read hw1 hk0 hk1, if_neg (fun hh => hok hh.2.symm)] at hcc
      go_wp2
      go_ret
      exact ⟨rfl, hbel9⟩
  · have hwd : writeD d k p = ⟨[], []⟩ := by unfold writeD; rw [if_neg hw]
    rw [hwd] at hy2
    have hn : (wrong_or d k != 0) = true := by simpa using hw
    have hl : (writeD d k p).blocks.length = 0 := by rw [hwd]; rfl
    have hl0 : ((0 : Nat) : Int) = 0 := rfl
    go_wp2
    go_ret
    exact ⟨rfl, hbel2.alloc hbel2.size _⟩
end Go.Proofs.Ytohbfjbcfibhcaa
