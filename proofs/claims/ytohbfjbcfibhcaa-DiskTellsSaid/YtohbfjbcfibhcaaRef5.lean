/- The law DiskTells, walked. -/
import Derived.Test.YtohbfjbcfibhcaaRef4
namespace Go.Proofs.Ytohbfjbcfibhcaa
open Go.RowKit Pw
set_option linter.unusedSimpArgs false
set_option linter.unusedVariables false

theorem newD_len {n : Int} (h : 0 ≤ n ∧ n ≤ 80) : ((newD n).blocks.length : Int) = n := by
  unfold newD
  rw [if_pos h]
  simp
  omega
theorem newD_q (n : Int) : (newD n).queue.length = 0 := by
  unfold newD
  split <;> rfl
theorem allF_all (b : Int) : allF true b = fun _ => true := by funext i; simp [allF]
theorem allF_bits (b : Int) : allF false b = crashF b := by funext i; simp [allF]
set_option maxHeartbeats 4000000 in
set_option maxRecDepth 100000 in
theorem disk_tells (d : Dsk) (k : Int) (p : Page) (bits n : Int) (ab : Option Addr) (cb : Nat) (aq : Option Addr) (cq : Nat) (w : World) (h : DRd w ab cb aq cq d) (h80 : d.blocks.length * 8 ≤ 140737488355328) (h400 : d.queue.length * 16 ≤ 140737488355328) :
    Calls Try.prog 15 #[.agg #[.slice ab d.blocks.length cb, .slice aq d.queue.length cq], .int .i64 k, .agg (pgC p), .int .i64 bits, .int .i64 n] w fun e w' => e = .returned (.bool true) ∧ Below w.heap.size w w' := by
  have hkf := fun W hd => rkeep_any d 0 true ab cb aq cq W hd
  rw [allF_all] at hkf
  have hkc := fun W hd => rkeep_any d bits false ab cb aq cq W hd
  rw [allF_bits] at hkc
  have hKF := Lib.hid hkf
  have hKC := Lib.hid hkc
  clear hkf hkc
  go_enter Try.func15, Try.ntmps15
  rw [pgC_lit]
  go_upto_region 1 with (fail)
  refine abs2 (fun W => Code.wp _ _ _ _ W) fun w0 hbel hx hp hs0 => ?_
  have hM0 := h.below hbel
  clear hs0
  refine wp_grow 12 [isV (.agg #[.slice ab d.blocks.length cb, .slice aq d.queue.length cq]), isV (.int .i64 (wrongD d)), isV (.agg #[.slice ab d.blocks.length cb, .slice aq d.queue.length cq]), isV (.int .i64 (wrongD d)), isV (.bool false), isV (.bool false), isV (.agg #[.slice ab d.blocks.length cb, .slice aq d.queue.length cq]), (dskR 0 d), isV (.agg #[.slice ab d.blocks.length cb, .slice aq d.queue.length cq]), isV (.bool true), isV (.bool false), isV (.bool false)] (by kernel_rfl) (by kernel_rfl) (by kernel_rfl) (by decide) _ rfl (by kernel_rfl) (all_cons ?_ (all_cons ?_ (all_cons ?_ (all_cons ?_ (all_cons ?_ (all_cons ?_ (all_cons ?_ (all_cons ?_ (all_cons ?_ (all_cons ?_ (all_cons ?_ (all_cons ?_ (all_nil))))))))))))) ?_
  · intro ρ y W hw hn hb hd
    have E5 : ρ (.tmp 5) = .pointer (some ⟨w.heap.size, 0, none⟩) := (hn (.tmp 5) rfl).trans rfl
    refine asked_val (.agg #[.slice ab d.blocks.length cb, .slice aq d.queue.length cq]) (want_free rfl) (by simp [execOp, go_sem, E5, (hx.ext hb).cell]) rfl
  · intro ρ y W hw hn hb hd
    have E17 := hw 17 0 rfl
    have h0 : y 0 = .agg #[.slice ab d.blocks.length cb, .slice aq d.queue.length cq] := hd 0 rfl
    have EF : ∀ f, ρ (.func f) = .func (.func f) #[] #[] := fun f => hn (.func f) trivial
    refine asked_call _ _ (want_free rfl) (run_call rfl (EF _) Try.func56 (by kernel_rfl) (by kernel_rfl) (by simp only [List.map_toArray, List.map_cons, List.map_nil, E17, h0, EF]; rfl)) ?_
    refine (dwrong_any d ab cb aq cq W (hM0.below hb)).mono ?_
    rintro e w1 ⟨rfl, hb1⟩
    exact ⟨_, rfl, hb1, rfl⟩
  · intro ρ y W hw hn hb hd
    have E5 : ρ (.tmp 5) = .pointer (some ⟨w.heap.size, 0, none⟩) := (hn (.tmp 5) rfl).trans rfl
    refine asked_val (.agg #[.slice ab d.blocks.length cb, .slice aq d.queue.length cq]) (want_free rfl) (by simp [execOp, go_sem, E5, (hx.ext hb).cell]) rfl
  · intro ρ y W hw hn hb hd
    have E19 := hw 19 2 rfl
    have h2 : y 2 = .agg #[.slice ab d.blocks.length cb, .slice aq d.queue.length cq] := hd 2 rfl
    have EF : ∀ f, ρ (.func f) = .func (.func f) #[] #[] := fun f => hn (.func f) trivial
    refine asked_call _ _ (want_free rfl) (run_call rfl (EF _) Try.func57 (by kernel_rfl) (by kernel_rfl) (by simp only [List.map_toArray, List.map_cons, List.map_nil, E19, h2, EF]; rfl)) ?_
    refine (rdwrong_any d ab cb aq cq W (hM0.below hb)).mono ?_
    rintro e w1 ⟨rfl, hb1⟩
    exact ⟨_, rfl, hb1, rfl⟩
  · intro ρ y W hw hn hb hd
    have E18 := hw 18 1 rfl
    have h1 : y 1 = .int .i64 (wrongD d) := hd 1 rfl
    have E20 := hw 20 3 rfl
    have h3 : y 3 = .int .i64 (wrongD d) := hd 3 rfl
    refine asked_val (.bool false) (want_free rfl) (run_bin rfl (E18.trans h1) (E20.trans h3) (by simp [go_sem])) rfl
  · intro ρ y W hw hn hb hd
    have E21 := hw 21 4 rfl
    have h4 : y 4 = .bool false := hd 4 rfl
    refine asked_val (.bool false) (want_free rfl) (run_move (.inl rfl) (E21.trans h4)) rfl
  · intro ρ y W hw hn hb hd
    have E5 : ρ (.tmp 5) = .pointer (some ⟨w.heap.size, 0, none⟩) := (hn (.tmp 5) rfl).trans rfl
    refine asked_val (.agg #[.slice ab d.blocks.length cb, .slice aq d.queue.length cq]) (want_at 5 22 false false rfl rfl ((hw 22 5 rfl).trans (hd 5 rfl))) (by simp [execOp, go_sem, E5, (hx.ext hb).cell]) rfl
  · intro ρ y W hw hn hb hd
    have E23 := hw 23 6 rfl
    have h6 : y 6 = .agg #[.slice ab d.blocks.length cb, .slice aq d.queue.length cq] := hd 6 rfl
    have EF : ∀ f, ρ (.func f) = .func (.func f) #[] #[] := fun f => hn (.func f) trivial
    refine asked_call _ _ (want_at 5 22 false false rfl rfl ((hw 22 5 rfl).trans (hd 5 rfl))) (run_call rfl (EF _) Try.func58 (by kernel_rfl) (by kernel_rfl) (by simp only [List.map_toArray, List.map_cons, List.map_nil, E23, h6, EF]; rfl)) ?_
    refine (down_any d ab cb aq cq W (hM0.below hb) h80 h400).mono ?_
    rintro e w1 ⟨vb, vq, rfl, ho, hb1⟩
    exact ⟨_, rfl, hb1, ⟨_, _, rfl, ho.mono (Nat.zero_le _)⟩⟩
  · intro ρ y W hw hn hb hd
    have E5 : ρ (.tmp 5) = .pointer (some ⟨w.heap.size, 0, none⟩) := (hn (.tmp 5) rfl).trans rfl
    refine asked_val (.agg #[.slice ab d.blocks.length cb, .slice aq d.queue.length cq]) (want_at 5 22 false false rfl rfl ((hw 22 5 rfl).trans (hd 5 rfl))) (by simp [execOp, go_sem, E5, (hx.ext hb).cell]) rfl
  · intro ρ y W hw hn hb hd
    have E24 := hw 24 7 rfl
    have h7 := hd 7 rfl
    have E25 := hw 25 8 rfl
    have h8 : y 8 = .agg #[.slice ab d.blocks.length cb, .slice aq d.queue.length cq] := hd 8 rfl
    have EF : ∀ f, ρ (.func f) = .func (.func f) #[] #[] := fun f => hn (.func f) trivial
    refine asked_call _ _ (want_at 5 22 false false rfl rfl ((hw 22 5 rfl).trans (hd 5 rfl))) (run_call rfl (EF _) Try.func31 (by kernel_rfl) (by kernel_rfl) (by simp only [List.map_toArray, List.map_cons, List.map_nil, E24, E25, h8, EF]; rfl)) ?_
    obtain ⟨vb, vq, e7, ho7⟩ := h7
    rw [e7]
    obtain ⟨xa, xc, xq, xd, rfl, rfl, hd7⟩ := ho7.rd
    refine (dsame_any d d xa xc xq xd ab cb aq cq W hd7 (hM0.below hb)).mono ?_
    rintro e w1 ⟨rfl, hb1⟩
    rw [sameD_iff.2 rfl]
    exact ⟨_, rfl, hb1, rfl⟩
  · intro ρ y W hw hn hb hd
    have E26 := hw 26 9 rfl
    have h9 : y 9 = .bool true := hd 9 rfl
    refine asked_val (.bool false) (want_at 5 22 false false rfl rfl ((hw 22 5 rfl).trans (hd 5 rfl))) (run_not rfl (E26.trans h9)) rfl
  · intro ρ y W hw hn hb hd
    have E22 := hw 22 5 rfl
    have h5 : y 5 = .bool false := hd 5 rfl
    have E27 := hw 27 10 rfl
    have h10 : y 10 = .bool false := hd 10 rfl
    refine asked_val (.bool false) (want_free rfl) (run_pick rfl (E22.trans h5) (by simpa using (E27.trans h10))) rfl
  intro y WA hbWA hRWA
  have hy0 : y 0 = .agg #[.slice ab d.blocks.length cb, .slice aq d.queue.length cq] := hRWA 0 (by decide)
  have hy1 : y 1 = .int .i64 (wrongD d) := hRWA 1 (by decide)
  have hy2 : y 2 = .agg #[.slice ab d.blocks.length cb, .slice aq d.queue.length cq] := hRWA 2 (by decide)
  have hy3 : y 3 = .int .i64 (wrongD d) := hRWA 3 (by decide)
  have hy4 : y 4 = .bool false := hRWA 4 (by decide)
  have hy5 : y 5 = .bool false := hRWA 5 (by decide)
  have hy6 : y 6 = .agg #[.slice ab d.blocks.length cb, .slice aq d.queue.length cq] := hRWA 6 (by decide)
  have hy8 : y 8 = .agg #[.slice ab d.blocks.length cb, .slice aq d.queue.length cq] := hRWA 8 (by decide)
  have hy9 : y 9 = .bool true := hRWA 9 (by decide)
  have hy10 : y 10 = .bool false := hRWA 10 (by decide)
  have hy11 : y 11 = .bool false := hRWA 11 (by decide)
  have hy7 : ((dskR 0 d)).r (y 7) WA := hRWA 7 (by decide)
  clear hRWA
  simp only [lay, Nat.reduceAdd, Nat.reduceLT, decide_true, decide_false, if_true, Bool.false_eq_true, if_false, List.setIfInBounds_toArray, List.set_cons_zero, List.set_cons_succ, List.drop_succ_cons, List.drop_zero, List.drop_nil, hy0, hy1, hy2, hy3, hy4, hy5, hy6, hy8, hy9, hy10, hy11]
  clear hy0 hy1 hy2 hy3 hy4 hy5 hy6 hy8 hy9 hy10 hy11
  clear hy7
  replace hbel := below_next hbel hbWA
  replace hx := hx.ext hbWA
  replace hp := hp.ext hbWA
  clear hbWA hM0
  go_wp2_with fail
  refine (dnew_any n _).mono ?_
  rintro e w1 ⟨vb, vq, rfl, ho1, hb1⟩
  replace hbel := below_next hbel hb1
  replace hx := hx.ext hb1
  replace hp := hp.ext hb1
  have hg1 : w.heap.size + 2 ≤ w1.heap.size := by have := hp.lt; omega
  obtain ⟨a1, c1, b1, d1, rfl, rfl, _⟩ := ho1.rd
  clear hb1 ho1
  have hkf := hKF.out
  have hkc := hKC.out
  by_cases hn : 0 ≤ n ∧ n ≤ 80
  · have e1 : newDE n = 0 := by unfold newDE; rw [if_pos hn]
    have e3 : (((newD n).blocks.length : Int) != n) = false := by rw [newD_len hn]; simp
    have e4 := newD_q n
    have n1 : 0 ≤ n := hn.1
    have n2 : n ≤ 80 := hn.2
    rw [e1]
    clear e1 hn hkf hkc
    go_upto_region 4 with (fail)
    refine abs1 (fun W => Code.wp _ _ _ _ W) fun w2 hb2 hq hs2 => ?_
    replace hbel := below_next hbel hb2
    replace hx := hx.ext hb2
    replace hp := hp.ext hb2
    clear hb2 hs2
    have hcq := hq.cell
    go_upto_region 6 with (fail)
    clear hcq e3 e4 n1 n2
    have hkf := hKF.out
    have hkc := hKC.out
    have hcx := hx.cell
    go_wp2_with fail
    refine (dread_any d k ab cb aq cq _ (h.below hbel)).mono ?_
    rintro e w3 ⟨rfl, hb3⟩
    rw [pgC_lit]
    replace hbel := below_next hbel hb3
    replace hx := hx.ext hb3
    replace hp := hp.ext hb3
    replace hq := hq.ext hb3
    clear hcx hb3
    go_upto_region 7 with (fail)
    refine abs1 (fun W => Code.wp _ _ _ _ W) fun w4 hb4 hs hs4 => ?_
    clear hs4
    replace hbel := below_next hbel hb4
    replace hx := hx.ext hb4
    replace hp := hp.ext hb4
    replace hq := hq.ext hb4
    clear hb4
    have hcx := hx.cell
    go_wp2_with fail
    refine (rread_any d k ab cb aq cq _ (h.below hbel)).mono ?_
    rintro e w5 ⟨rfl, hb5⟩
    rw [pgC_lit]
    replace hbel := below_next hbel hb5
    replace hx := hx.ext hb5
    replace hp := hp.ext hb5
    replace hq := hq.ext hb5
    replace hs := hs.ext hb5
    clear hcx hb5
    go_upto_region 8 with (fail)
    refine abs1 (fun W => Code.wp _ _ _ _ W) fun w6 hb6 ht hs6 => ?_
    clear hs6
    replace hbel := below_next hbel hb6
    replace hx := hx.ext hb6
    replace hp := hp.ext hb6
    replace hq := hq.ext hb6
    replace hs := hs.ext hb6
    clear hb6
    have hcs := hs.cell
    have hct := ht.cell
    have hcx := hx.cell
    have hcp := hp.cell
    have hE := eqP (readP d k) (readP d k)
    rw [beq_self_eq_true] at hE
    go_wp2_with fail
    refine (dwrite_any d k p ab cb aq cq _ (h.below hbel)).mono ?_
    rintro e wA ⟨vb, vq, rfl, hoA, hbA⟩
    clear hcs hct hcx hcp hE hs ht
    replace hbel := below_next hbel hbA
    replace hx := hx.ext hbA
    replace hp := hp.ext hbA
    replace hq := hq.ext hbA
    obtain ⟨ba, ca, qa, da, rfl, rfl, _⟩ := hoA.rd
    clear hbA
    go_wp2_with (refine wpList_stw rfl _ (.tmp 11) (.tmp 85) rfl w1.heap.size #[.slice ba (writeD d k p).blocks.length ca, .slice qa (writeD d k p).queue.length da] rfl rfl _ _ hq (disk_fit _ _ _ _) (disk_info _ _) (sl_one _ _ _ _ _ _) ?_)
    intro wB hqB hgr
    replace hbel := hbel.grown hgr hbel.size (fun k hk => by cases hk; omega)
    replace hx := hx.grown hgr (fun he => by have := Option.some.inj he; omega)
    replace hp := hp.grown hgr (fun he => by have := Option.some.inj he; omega)
    replace hoA := hoA.keep hq (by decide) (by decide) hgr
    clear hq hgr
    have hcx := hx.cell
    have hcp := hp.cell
    go_wp2_with fail
    refine (rwrite_any d k p ab cb aq cq _ (h.below hbel)).mono ?_
    rintro e wR ⟨vb, vq, rfl, hoB, hbC⟩
    replace hbel := below_next hbel hbC
    replace hx := hx.ext hbC
    replace hqB := hqB.ext hbC
    replace hoA := hoA.below hbC
    have hgR : w1.heap.size < wR.heap.size := hqB.lt
    obtain ⟨bb, cc, qb, db, rfl, rfl, _⟩ := hoB.rd
    clear hcx hcp hp hbC
    go_upto_region 12 with (fail)
    refine abs1 (fun W => Code.wp _ _ _ _ W) fun wS hbS hr hsS => ?_
    clear hsS
    replace hbel := below_next hbel hbS
    replace hx := hx.ext hbS
    replace hqB := hqB.ext hbS
    replace hoA := hoA.below hbS
    replace hoB := hoB.below hbS
    clear hbS
    obtain ⟨_, _, _, _, e1, e2, hdA⟩ := hoA.rd
    cases e1
    cases e2
    obtain ⟨_, _, _, _, e1, e2, hdB⟩ := hoB.rd
    cases e1
    cases e2
    have hcq := hqB.cell
    have hcr := hr.cell
    go_wp2_with fail
    refine (dsame_any (writeD d k p) (writeD d k p) ba ca qa da bb cc qb db _ hdA hdB).mono ?_
    rintro e wE ⟨rfl, hbE⟩
    rw [sameD_iff.2 rfl]
    replace hbel := below_next hbel hbE
    replace hx := hx.ext hbE
    have hq := hqB.ext hbE
    replace hr := hr.ext hbE
    clear hcq hcr hqB hoA hoB hdA hdB hbE
    have hcx := hx.cell
    go_wp2_with fail
    refine (dtrim_any d k ab cb aq cq _ (h.below hbel)).mono ?_
    rintro e wA ⟨vb, vq, rfl, hoA, hbA⟩
    replace hbel := below_next hbel hbA
    replace hx := hx.ext hbA
    replace hq := hq.ext hbA
    replace hr := hr.ext hbA
    obtain ⟨ba, ca, qa, da, rfl, rfl, _⟩ := hoA.rd
    clear hcx hbA
    go_wp2_with (refine wpList_stw rfl _ (.tmp 11) (.tmp 107) rfl w1.heap.size #[.slice ba (trimD d k).blocks.length ca, .slice qa (trimD d k).queue.length da] rfl rfl _ _ hq (disk_fit _ _ _ _) (disk_info _ _) (sl_one _ _ _ _ _ _) ?_)
    intro wB hqB hgr
    replace hbel := hbel.grown hgr hbel.size (fun k hk => by cases hk; omega)
    replace hx := hx.grown hgr (fun he => by have := Option.some.inj he; omega)
    replace hr := hr.grown hgr (fun he => by have := Option.some.inj he; omega)
    replace hoA := hoA.keep hq (by decide) (by decide) hgr
    clear hq hgr
    have hcx := hx.cell
    go_wp2_with fail
    refine (rtrim_any d k ab cb aq cq _ (h.below hbel)).mono ?_
    rintro e wC ⟨vb, vq, rfl, hoB, hbC⟩
    replace hbel := below_next hbel hbC
    replace hx := hx.ext hbC
    replace hqB := hqB.ext hbC
    replace hr := hr.ext hbC
    replace hoA := hoA.below hbC
    obtain ⟨bb, cc, qb, db, rfl, rfl, _⟩ := hoB.rd
    clear hcx hbC
    go_wp2_with (refine wpList_stw rfl _ (.tmp 16) (.tmp 113) rfl wR.heap.size #[.slice bb (trimD d k).blocks.length cc, .slice qb (trimD d k).queue.length db] rfl rfl _ _ hr (disk_fit _ _ _ _) (disk_info _ _) (sl_one _ _ _ _ _ _) ?_)
    intro wD hrD hgr
    replace hbel := hbel.grown hgr hbel.size (fun k hk => by cases hk; omega)
    replace hx := hx.grown hgr (fun he => by have := Option.some.inj he; omega)
    replace hqB := hqB.grown hgr (fun he => by have := Option.some.inj he; omega)
    replace hoA := hoA.keep hr (by decide) (by decide) hgr
    replace hoB := hoB.keep hr (by decide) (by decide) hgr
    clear hr hgr
    obtain ⟨_, _, _, _, e1, e2, hdA⟩ := hoA.rd
    cases e1
    cases e2
    obtain ⟨_, _, _, _, e1, e2, hdB⟩ := hoB.rd
    cases e1
    cases e2
    have hcq := hqB.cell
    have hcr := hrD.cell
    go_wp2_with fail
    refine (dsame_any (trimD d k) (trimD d k) ba ca qa da bb cc qb db _ hdA hdB).mono ?_
    rintro e wE ⟨rfl, hbE⟩
    rw [sameD_iff.2 rfl]
    replace hbel := below_next hbel hbE
    replace hx := hx.ext hbE
    have hq := hqB.ext hbE
    have hr := hrD.ext hbE
    clear hcq hcr hqB hrD hoA hoB hdA hdB hbE
    have hcx := hx.cell
    go_wp2_with fail
    refine (dflush_any d ab cb aq cq _ (h.below hbel)).mono ?_
    rintro e wA ⟨vb, vq, rfl, hoA, hbA⟩
    replace hbel := below_next hbel hbA
    replace hx := hx.ext hbA
    replace hq := hq.ext hbA
    replace hr := hr.ext hbA
    obtain ⟨ba, ca, qa, da, rfl, rfl, _⟩ := hoA.rd
    clear hcx hbA
    go_wp2_with (refine wpList_stw rfl _ (.tmp 11) (.tmp 127) rfl w1.heap.size #[.slice ba (keptD (fun _ => true) d).blocks.length ca, .slice qa (keptD (fun _ => true) d).queue.length da] rfl rfl _ _ hq (disk_fit _ _ _ _) (disk_info _ _) (sl_one _ _ _ _ _ _) ?_)
    intro wB hqB hgr
    replace hbel := hbel.grown hgr hbel.size (fun k hk => by cases hk; omega)
    replace hx := hx.grown hgr (fun he => by have := Option.some.inj he; omega)
    replace hr := hr.grown hgr (fun he => by have := Option.some.inj he; omega)
    replace hoA := hoA.keep hq (by decide) (by decide) hgr
    clear hq hgr
    have hcx := hx.cell
    go_wp2_with fail
    refine (hkf _ (h.below hbel)).mono ?_
    rintro e wC ⟨vb, vq, rfl, hoB, hbC⟩
    replace hbel := below_next hbel hbC
    replace hx := hx.ext hbC
    replace hqB := hqB.ext hbC
    replace hr := hr.ext hbC
    replace hoA := hoA.below hbC
    obtain ⟨bb, cc, qb, db, rfl, rfl, _⟩ := hoB.rd
    clear hcx hbC
    go_wp2_with (refine wpList_stw rfl _ (.tmp 16) (.tmp 132) rfl wR.heap.size #[.slice bb (keptD (fun _ => true) d).blocks.length cc, .slice qb (keptD (fun _ => true) d).queue.length db] rfl rfl _ _ hr (disk_fit _ _ _ _) (disk_info _ _) (sl_one _ _ _ _ _ _) ?_)
    intro wD hrD hgr
    replace hbel := hbel.grown hgr hbel.size (fun k hk => by cases hk; omega)
    replace hx := hx.grown hgr (fun he => by have := Option.some.inj he; omega)
    replace hqB := hqB.grown hgr (fun he => by have := Option.some.inj he; omega)
    replace hoA := hoA.keep hr (by decide) (by decide) hgr
    replace hoB := hoB.keep hr (by decide) (by decide) hgr
    clear hr hgr
    obtain ⟨_, _, _, _, e1, e2, hdA⟩ := hoA.rd
    cases e1
    cases e2
    obtain ⟨_, _, _, _, e1, e2, hdB⟩ := hoB.rd
    cases e1
    cases e2
    have hcq := hqB.cell
    have hcr := hrD.cell
    go_wp2_with fail
    refine (dsame_any (keptD (fun _ => true) d) (keptD (fun _ => true) d) ba ca qa da bb cc qb db _ hdA hdB).mono ?_
    rintro e wE ⟨rfl, hbE⟩
    rw [sameD_iff.2 rfl]
    replace hbel := below_next hbel hbE
    replace hx := hx.ext hbE
    have hq := hqB.ext hbE
    have hr := hrD.ext hbE
    clear hcq hcr hqB hrD hoA hoB hdA hdB hbE
    have hcx := hx.cell
    go_wp2_with fail
    refine (dcrash_any d ab cb aq cq bits _ (h.below hbel)).mono ?_
    rintro e wA ⟨vb, vq, rfl, hoA, hbA⟩
    replace hbel := below_next hbel hbA
    replace hx := hx.ext hbA
    replace hq := hq.ext hbA
    replace hr := hr.ext hbA
    obtain ⟨ba, ca, qa, da, rfl, rfl, _⟩ := hoA.rd
    clear hcx hbA
    go_wp2_with (refine wpList_stw rfl _ (.tmp 11) (.tmp 147) rfl w1.heap.size #[.slice ba (keptD (crashF bits) d).blocks.length ca, .slice qa (keptD (crashF bits) d).queue.length da] rfl rfl _ _ hq (disk_fit _ _ _ _) (disk_info _ _) (sl_one _ _ _ _ _ _) ?_)
    intro wB hqB hgr
    replace hbel := hbel.grown hgr hbel.size (fun k hk => by cases hk; omega)
    replace hx := hx.grown hgr (fun he => by have := Option.some.inj he; omega)
    replace hr := hr.grown hgr (fun he => by have := Option.some.inj he; omega)
    replace hoA := hoA.keep hq (by decide) (by decide) hgr
    clear hq hgr
    have hcx := hx.cell
    go_wp2_with fail
    refine (hkc _ (h.below hbel)).mono ?_
    rintro e wC ⟨vb, vq, rfl, hoB, hbC⟩
    replace hbel := below_next hbel hbC
    replace hx := hx.ext hbC
    replace hqB := hqB.ext hbC
    replace hr := hr.ext hbC
    replace hoA := hoA.below hbC
    obtain ⟨bb, cc, qb, db, rfl, rfl, _⟩ := hoB.rd
    clear hcx hbC
    go_wp2_with (refine wpList_stw rfl _ (.tmp 16) (.tmp 153) rfl wR.heap.size #[.slice bb (keptD (crashF bits) d).blocks.length cc, .slice qb (keptD (crashF bits) d).queue.length db] rfl rfl _ _ hr (disk_fit _ _ _ _) (disk_info _ _) (sl_one _ _ _ _ _ _) ?_)
    intro wD hrD hgr
    replace hbel := hbel.grown hgr hbel.size (fun k hk => by cases hk; omega)
    replace hx := hx.grown hgr (fun he => by have := Option.some.inj he; omega)
    replace hqB := hqB.grown hgr (fun he => by have := Option.some.inj he; omega)
    replace hoA := hoA.keep hr (by decide) (by decide) hgr
    replace hoB := hoB.keep hr (by decide) (by decide) hgr
    clear hr hgr
    obtain ⟨_, _, _, _, e1, e2, hdA⟩ := hoA.rd
    cases e1
    cases e2
    obtain ⟨_, _, _, _, e1, e2, hdB⟩ := hoB.rd
    cases e1
    cases e2
    have hcq := hqB.cell
    have hcr := hrD.cell
    go_wp2_with fail
    refine (dsame_any (keptD (crashF bits) d) (keptD (crashF bits) d) ba ca qa da bb cc qb db _ hdA hdB).mono ?_
    rintro e wE ⟨rfl, hbE⟩
    rw [sameD_iff.2 rfl]
    replace hbel := below_next hbel hbE
    replace hx := hx.ext hbE
    have hq := hqB.ext hbE
    have hr := hrD.ext hbE
    clear hcq hcr hqB hrD hoA hoB hdA hdB hbE
    go_wp2
    go_ret
    exact ⟨rfl, hbel⟩
  · have e1 : newDE n = 4 := by unfold newDE; rw [if_neg hn]
    rw [e1]
    clear hkf hkc
    go_upto_region 4 with (fail)
    refine abs1 (fun W => Code.wp _ _ _ _ W) fun w2 hb2 hq hs2 => ?_
    replace hbel := below_next hbel hb2
    replace hx := hx.ext hb2
    replace hp := hp.ext hb2
    clear hb2 hs2 e1
    have h' : n < 0 ∨ 80 < n := by omega
    clear hn
    rcases h' with hn | hn
    · have n1 : ¬ 0 ≤ n := by omega
      go_upto_region 6 with (fail)
      clear n1 hn
      have hkf := hKF.out
      have hkc := hKC.out
      have hcx := hx.cell
      go_wp2_with fail
      refine (dread_any d k ab cb aq cq _ (h.below hbel)).mono ?_
      rintro e w3 ⟨rfl, hb3⟩
      rw [pgC_lit]
      replace hbel := below_next hbel hb3
      replace hx := hx.ext hb3
      replace hp := hp.ext hb3
      replace hq := hq.ext hb3
      clear hcx hb3
      go_upto_region 7 with (fail)
      refine abs1 (fun W => Code.wp _ _ _ _ W) fun w4 hb4 hs hs4 => ?_
      clear hs4
      replace hbel := below_next hbel hb4
      replace hx := hx.ext hb4
      replace hp := hp.ext hb4
      replace hq := hq.ext hb4
      clear hb4
      have hcx := hx.cell
      go_wp2_with fail
      refine (rread_any d k ab cb aq cq _ (h.below hbel)).mono ?_
      rintro e w5 ⟨rfl, hb5⟩
      rw [pgC_lit]
      replace hbel := below_next hbel hb5
      replace hx := hx.ext hb5
      replace hp := hp.ext hb5
      replace hq := hq.ext hb5
      replace hs := hs.ext hb5
      clear hcx hb5
      go_upto_region 8 with (fail)
      refine abs1 (fun W => Code.wp _ _ _ _ W) fun w6 hb6 ht hs6 => ?_
      clear hs6
      replace hbel := below_next hbel hb6
      replace hx := hx.ext hb6
      replace hp := hp.ext hb6
      replace hq := hq.ext hb6
      replace hs := hs.ext hb6
      clear hb6
      have hcs := hs.cell
      have hct := ht.cell
      have hcx := hx.cell
      have hcp := hp.cell
      have hE := eqP (readP d k) (readP d k)
      rw [beq_self_eq_true] at hE
      go_wp2_with fail
      refine (dwrite_any d k p ab cb aq cq _ (h.below hbel)).mono ?_
      rintro e wA ⟨vb, vq, rfl, hoA, hbA⟩
      clear hcs hct hcx hcp hE hs ht
      replace hbel := below_next hbel hbA
      replace hx := hx.ext hbA
      replace hp := hp.ext hbA
      replace hq := hq.ext hbA
      obtain ⟨ba, ca, qa, da, rfl, rfl, _⟩ := hoA.rd
      clear hbA
      go_wp2_with (refine wpList_stw rfl _ (.tmp 11) (.tmp 85) rfl w1.heap.size #[.slice ba (writeD d k p).blocks.length ca, .slice qa (writeD d k p).queue.length da] rfl rfl _ _ hq (disk_fit _ _ _ _) (disk_info _ _) (sl_one _ _ _ _ _ _) ?_)
      intro wB hqB hgr
      replace hbel := hbel.grown hgr hbel.size (fun k hk => by cases hk; omega)
      replace hx := hx.grown hgr (fun he => by have := Option.some.inj he; omega)
      replace hp := hp.grown hgr (fun he => by have := Option.some.inj he; omega)
      replace hoA := hoA.keep hq (by decide) (by decide) hgr
      clear hq hgr
      have hcx := hx.cell
      have hcp := hp.cell
      go_wp2_with fail
      refine (rwrite_any d k p ab cb aq cq _ (h.below hbel)).mono ?_
      rintro e wR ⟨vb, vq, rfl, hoB, hbC⟩
      replace hbel := below_next hbel hbC
      replace hx := hx.ext hbC
      replace hqB := hqB.ext hbC
      replace hoA := hoA.below hbC
      have hgR : w1.heap.size < wR.heap.size := hqB.lt
      obtain ⟨bb, cc, qb, db, rfl, rfl, _⟩ := hoB.rd
      clear hcx hcp hp hbC
      go_upto_region 12 with (fail)
      refine abs1 (fun W => Code.wp _ _ _ _ W) fun wS hbS hr hsS => ?_
      clear hsS
      replace hbel := below_next hbel hbS
      replace hx := hx.ext hbS
      replace hqB := hqB.ext hbS
      replace hoA := hoA.below hbS
      replace hoB := hoB.below hbS
      clear hbS
      obtain ⟨_, _, _, _, e1, e2, hdA⟩ := hoA.rd
      cases e1
      cases e2
      obtain ⟨_, _, _, _, e1, e2, hdB⟩ := hoB.rd
      cases e1
      cases e2
      have hcq := hqB.cell
      have hcr := hr.cell
      go_wp2_with fail
      refine (dsame_any (writeD d k p) (writeD d k p) ba ca qa da bb cc qb db _ hdA hdB).mono ?_
      rintro e wE ⟨rfl, hbE⟩
      rw [sameD_iff.2 rfl]
      replace hbel := below_next hbel hbE
      replace hx := hx.ext hbE
      have hq := hqB.ext hbE
      replace hr := hr.ext hbE
      clear hcq hcr hqB hoA hoB hdA hdB hbE
      have hcx := hx.cell
      go_wp2_with fail
      refine (dtrim_any d k ab cb aq cq _ (h.below hbel)).mono ?_
      rintro e wA ⟨vb, vq, rfl, hoA, hbA⟩
      replace hbel := below_next hbel hbA
      replace hx := hx.ext hbA
      replace hq := hq.ext hbA
      replace hr := hr.ext hbA
      obtain ⟨ba, ca, qa, da, rfl, rfl, _⟩ := hoA.rd
      clear hcx hbA
      go_wp2_with (refine wpList_stw rfl _ (.tmp 11) (.tmp 107) rfl w1.heap.size #[.slice ba (trimD d k).blocks.length ca, .slice qa (trimD d k).queue.length da] rfl rfl _ _ hq (disk_fit _ _ _ _) (disk_info _ _) (sl_one _ _ _ _ _ _) ?_)
      intro wB hqB hgr
      replace hbel := hbel.grown hgr hbel.size (fun k hk => by cases hk; omega)
      replace hx := hx.grown hgr (fun he => by have := Option.some.inj he; omega)
      replace hr := hr.grown hgr (fun he => by have := Option.some.inj he; omega)
      replace hoA := hoA.keep hq (by decide) (by decide) hgr
      clear hq hgr
      have hcx := hx.cell
      go_wp2_with fail
      refine (rtrim_any d k ab cb aq cq _ (h.below hbel)).mono ?_
      rintro e wC ⟨vb, vq, rfl, hoB, hbC⟩
      replace hbel := below_next hbel hbC
      replace hx := hx.ext hbC
      replace hqB := hqB.ext hbC
      replace hr := hr.ext hbC
      replace hoA := hoA.below hbC
      obtain ⟨bb, cc, qb, db, rfl, rfl, _⟩ := hoB.rd
      clear hcx hbC
      go_wp2_with (refine wpList_stw rfl _ (.tmp 16) (.tmp 113) rfl wR.heap.size #[.slice bb (trimD d k).blocks.length cc, .slice qb (trimD d k).queue.length db] rfl rfl _ _ hr (disk_fit _ _ _ _) (disk_info _ _) (sl_one _ _ _ _ _ _) ?_)
      intro wD hrD hgr
      replace hbel := hbel.grown hgr hbel.size (fun k hk => by cases hk; omega)
      replace hx := hx.grown hgr (fun he => by have := Option.some.inj he; omega)
      replace hqB := hqB.grown hgr (fun he => by have := Option.some.inj he; omega)
      replace hoA := hoA.keep hr (by decide) (by decide) hgr
      replace hoB := hoB.keep hr (by decide) (by decide) hgr
      clear hr hgr
      obtain ⟨_, _, _, _, e1, e2, hdA⟩ := hoA.rd
      cases e1
      cases e2
      obtain ⟨_, _, _, _, e1, e2, hdB⟩ := hoB.rd
      cases e1
      cases e2
      have hcq := hqB.cell
      have hcr := hrD.cell
      go_wp2_with fail
      refine (dsame_any (trimD d k) (trimD d k) ba ca qa da bb cc qb db _ hdA hdB).mono ?_
      rintro e wE ⟨rfl, hbE⟩
      rw [sameD_iff.2 rfl]
      replace hbel := below_next hbel hbE
      replace hx := hx.ext hbE
      have hq := hqB.ext hbE
      have hr := hrD.ext hbE
      clear hcq hcr hqB hrD hoA hoB hdA hdB hbE
      have hcx := hx.cell
      go_wp2_with fail
      refine (dflush_any d ab cb aq cq _ (h.below hbel)).mono ?_
      rintro e wA ⟨vb, vq, rfl, hoA, hbA⟩
      replace hbel := below_next hbel hbA
      replace hx := hx.ext hbA
      replace hq := hq.ext hbA
      replace hr := hr.ext hbA
      obtain ⟨ba, ca, qa, da, rfl, rfl, _⟩ := hoA.rd
      clear hcx hbA
      go_wp2_with (refine wpList_stw rfl _ (.tmp 11) (.tmp 127) rfl w1.heap.size #[.slice ba (keptD (fun _ => true) d).blocks.length ca, .slice qa (keptD (fun _ => true) d).queue.length da] rfl rfl _ _ hq (disk_fit _ _ _ _) (disk_info _ _) (sl_one _ _ _ _ _ _) ?_)
      intro wB hqB hgr
      replace hbel := hbel.grown hgr hbel.size (fun k hk => by cases hk; omega)
      replace hx := hx.grown hgr (fun he => by have := Option.some.inj he; omega)
      replace hr := hr.grown hgr (fun he => by have := Option.some.inj he; omega)
      replace hoA := hoA.keep hq (by decide) (by decide) hgr
      clear hq hgr
      have hcx := hx.cell
      go_wp2_with fail
      refine (hkf _ (h.below hbel)).mono ?_
      rintro e wC ⟨vb, vq, rfl, hoB, hbC⟩
      replace hbel := below_next hbel hbC
      replace hx := hx.ext hbC
      replace hqB := hqB.ext hbC
      replace hr := hr.ext hbC
      replace hoA := hoA.below hbC
      obtain ⟨bb, cc, qb, db, rfl, rfl, _⟩ := hoB.rd
      clear hcx hbC
      go_wp2_with (refine wpList_stw rfl _ (.tmp 16) (.tmp 132) rfl wR.heap.size #[.slice bb (keptD (fun _ => true) d).blocks.length cc, .slice qb (keptD (fun _ => true) d).queue.length db] rfl rfl _ _ hr (disk_fit _ _ _ _) (disk_info _ _) (sl_one _ _ _ _ _ _) ?_)
      intro wD hrD hgr
      replace hbel := hbel.grown hgr hbel.size (fun k hk => by cases hk; omega)
      replace hx := hx.grown hgr (fun he => by have := Option.some.inj he; omega)
      replace hqB := hqB.grown hgr (fun he => by have := Option.some.inj he; omega)
      replace hoA := hoA.keep hr (by decide) (by decide) hgr
      replace hoB := hoB.keep hr (by decide) (by decide) hgr
      clear hr hgr
      obtain ⟨_, _, _, _, e1, e2, hdA⟩ := hoA.rd
      cases e1
      cases e2
      obtain ⟨_, _, _, _, e1, e2, hdB⟩ := hoB.rd
      cases e1
      cases e2
      have hcq := hqB.cell
      have hcr := hrD.cell
      go_wp2_with fail
      refine (dsame_any (keptD (fun _ => true) d) (keptD (fun _ => true) d) ba ca qa da bb cc qb db _ hdA hdB).mono ?_
      rintro e wE ⟨rfl, hbE⟩
      rw [sameD_iff.2 rfl]
      replace hbel := below_next hbel hbE
      replace hx := hx.ext hbE
      have hq := hqB.ext hbE
      have hr := hrD.ext hbE
      clear hcq hcr hqB hrD hoA hoB hdA hdB hbE
      have hcx := hx.cell
      go_wp2_with fail
      refine (dcrash_any d ab cb aq cq bits _ (h.below hbel)).mono ?_
      rintro e wA ⟨vb, vq, rfl, hoA, hbA⟩
      replace hbel := below_next hbel hbA
      replace hx := hx.ext hbA
      replace hq := hq.ext hbA
      replace hr := hr.ext hbA
      obtain ⟨ba, ca, qa, da, rfl, rfl, _⟩ := hoA.rd
      clear hcx hbA
      go_wp2_with (refine wpList_stw rfl _ (.tmp 11) (.tmp 147) rfl w1.heap.size #[.slice ba (keptD (crashF bits) d).blocks.length ca, .slice qa (keptD (crashF bits) d).queue.length da] rfl rfl _ _ hq (disk_fit _ _ _ _) (disk_info _ _) (sl_one _ _ _ _ _ _) ?_)
      intro wB hqB hgr
      replace hbel := hbel.grown hgr hbel.size (fun k hk => by cases hk; omega)
      replace hx := hx.grown hgr (fun he => by have := Option.some.inj he; omega)
      replace hr := hr.grown hgr (fun he => by have := Option.some.inj he; omega)
      replace hoA := hoA.keep hq (by decide) (by decide) hgr
      clear hq hgr
      have hcx := hx.cell
      go_wp2_with fail
      refine (hkc _ (h.below hbel)).mono ?_
      rintro e wC ⟨vb, vq, rfl, hoB, hbC⟩
      replace hbel := below_next hbel hbC
      replace hx := hx.ext hbC
      replace hqB := hqB.ext hbC
      replace hr := hr.ext hbC
      replace hoA := hoA.below hbC
      obtain ⟨bb, cc, qb, db, rfl, rfl, _⟩ := hoB.rd
      clear hcx hbC
      go_wp2_with (refine wpList_stw rfl _ (.tmp 16) (.tmp 153) rfl wR.heap.size #[.slice bb (keptD (crashF bits) d).blocks.length cc, .slice qb (keptD (crashF bits) d).queue.length db] rfl rfl _ _ hr (disk_fit _ _ _ _) (disk_info _ _) (sl_one _ _ _ _ _ _) ?_)
      intro wD hrD hgr
      replace hbel := hbel.grown hgr hbel.size (fun k hk => by cases hk; omega)
      replace hx := hx.grown hgr (fun he => by have := Option.some.inj he; omega)
      replace hqB := hqB.grown hgr (fun he => by have := Option.some.inj he; omega)
      replace hoA := hoA.keep hr (by decide) (by decide) hgr
      replace hoB := hoB.keep hr (by decide) (by decide) hgr
      clear hr hgr
      obtain ⟨_, _, _, _, e1, e2, hdA⟩ := hoA.rd
      cases e1
      cases e2
      obtain ⟨_, _, _, _, e1, e2, hdB⟩ := hoB.rd
      cases e1
      cases e2
      have hcq := hqB.cell
      have hcr := hrD.cell
      go_wp2_with fail
      refine (dsame_any (keptD (crashF bits) d) (keptD (crashF bits) d) ba ca qa da bb cc qb db _ hdA hdB).mono ?_
      rintro e wE ⟨rfl, hbE⟩
      rw [sameD_iff.2 rfl]
      replace hbel := below_next hbel hbE
      replace hx := hx.ext hbE
      have hq := hqB.ext hbE
      have hr := hrD.ext hbE
      clear hcq hcr hqB hrD hoA hoB hdA hdB hbE
      go_wp2
      go_ret
      exact ⟨rfl, hbel⟩
    · have n1 : 0 ≤ n := by omega
      have n2 : ¬ n ≤ 80 := by omega
      go_upto_region 6 with (fail)
      clear n1 n2 hn
      have hkf := hKF.out
      have hkc := hKC.out
      have hcx := hx.cell
      go_wp2_with fail
      refine (dread_any d k ab cb aq cq _ (h.below hbel)).mono ?_
      rintro e w3 ⟨rfl, hb3⟩
      rw [pgC_lit]
      replace hbel := below_next hbel hb3
      replace hx := hx.ext hb3
      replace hp := hp.ext hb3
      replace hq := hq.ext hb3
      clear hcx hb3
      go_upto_region 7 with (fail)
      refine abs1 (fun W => Code.wp _ _ _ _ W) fun w4 hb4 hs hs4 => ?_
      clear hs4
      replace hbel := below_next hbel hb4
      replace hx := hx.ext hb4
      replace hp := hp.ext hb4
      replace hq := hq.ext hb4
      clear hb4
      have hcx := hx.cell
      go_wp2_with fail
      refine (rread_any d k ab cb aq cq _ (h.below hbel)).mono ?_
      rintro e w5 ⟨rfl, hb5⟩
      rw [pgC_lit]
      replace hbel := below_next hbel hb5
      replace hx := hx.ext hb5
      replace hp := hp.ext hb5
      replace hq := hq.ext hb5
      replace hs := hs.ext hb5
      clear hcx hb5
      go_upto_region 8 with (fail)
      refine abs1 (fun W => Code.wp _ _ _ _ W) fun w6 hb6 ht hs6 => ?_
      clear hs6
      replace hbel := below_next hbel hb6
      replace hx := hx.ext hb6
      replace hp := hp.ext hb6
      replace hq := hq.ext hb6
      replace hs := hs.ext hb6
      clear hb6
      have hcs := hs.cell
      have hct := ht.cell
      have hcx := hx.cell
      have hcp := hp.cell
      have hE := eqP (readP d k) (readP d k)
      rw [beq_self_eq_true] at hE
      go_wp2_with fail
      refine (dwrite_any d k p ab cb aq cq _ (h.below hbel)).mono ?_
      rintro e wA ⟨vb, vq, rfl, hoA, hbA⟩
      clear hcs hct hcx hcp hE hs ht
      replace hbel := below_next hbel hbA
      replace hx := hx.ext hbA
      replace hp := hp.ext hbA
      replace hq := hq.ext hbA
      obtain ⟨ba, ca, qa, da, rfl, rfl, _⟩ := hoA.rd
      clear hbA
      go_wp2_with (refine wpList_stw rfl _ (.tmp 11) (.tmp 85) rfl w1.heap.size #[.slice ba (writeD d k p).blocks.length ca, .slice qa (writeD d k p).queue.length da] rfl rfl _ _ hq (disk_fit _ _ _ _) (disk_info _ _) (sl_one _ _ _ _ _ _) ?_)
      intro wB hqB hgr
      replace hbel := hbel.grown hgr hbel.size (fun k hk => by cases hk; omega)
      replace hx := hx.grown hgr (fun he => by have := Option.some.inj he; omega)
      replace hp := hp.grown hgr (fun he => by have := Option.some.inj he; omega)
      replace hoA := hoA.keep hq (by decide) (by decide) hgr
      clear hq hgr
      have hcx := hx.cell
      have hcp := hp.cell
      go_wp2_with fail
      refine (rwrite_any d k p ab cb aq cq _ (h.below hbel)).mono ?_
      rintro e wR ⟨vb, vq, rfl, hoB, hbC⟩
      replace hbel := below_next hbel hbC
      replace hx := hx.ext hbC
      replace hqB := hqB.ext hbC
      replace hoA := hoA.below hbC
      have hgR : w1.heap.size < wR.heap.size := hqB.lt
      obtain ⟨bb, cc, qb, db, rfl, rfl, _⟩ := hoB.rd
      clear hcx hcp hp hbC
      go_upto_region 12 with (fail)
      refine abs1 (fun W => Code.wp _ _ _ _ W) fun wS hbS hr hsS => ?_
      clear hsS
      replace hbel := below_next hbel hbS
      replace hx := hx.ext hbS
      replace hqB := hqB.ext hbS
      replace hoA := hoA.below hbS
      replace hoB := hoB.below hbS
      clear hbS
      obtain ⟨_, _, _, _, e1, e2, hdA⟩ := hoA.rd
      cases e1
      cases e2
      obtain ⟨_, _, _, _, e1, e2, hdB⟩ := hoB.rd
      cases e1
      cases e2
      have hcq := hqB.cell
      have hcr := hr.cell
      go_wp2_with fail
      refine (dsame_any (writeD d k p) (writeD d k p) ba ca qa da bb cc qb db _ hdA hdB).mono ?_
      rintro e wE ⟨rfl, hbE⟩
      rw [sameD_iff.2 rfl]
      replace hbel := below_next hbel hbE
      replace hx := hx.ext hbE
      have hq := hqB.ext hbE
      replace hr := hr.ext hbE
      clear hcq hcr hqB hoA hoB hdA hdB hbE
      have hcx := hx.cell
      go_wp2_with fail
      refine (dtrim_any d k ab cb aq cq _ (h.below hbel)).mono ?_
      rintro e wA ⟨vb, vq, rfl, hoA, hbA⟩
      replace hbel := below_next hbel hbA
      replace hx := hx.ext hbA
      replace hq := hq.ext hbA
      replace hr := hr.ext hbA
      obtain ⟨ba, ca, qa, da, rfl, rfl, _⟩ := hoA.rd
      clear hcx hbA
      go_wp2_with (refine wpList_stw rfl _ (.tmp 11) (.tmp 107) rfl w1.heap.size #[.slice ba (trimD d k).blocks.length ca, .slice qa (trimD d k).queue.length da] rfl rfl _ _ hq (disk_fit _ _ _ _) (disk_info _ _) (sl_one _ _ _ _ _ _) ?_)
      intro wB hqB hgr
      replace hbel := hbel.grown hgr hbel.size (fun k hk => by cases hk; omega)
      replace hx := hx.grown hgr (fun he => by have := Option.some.inj he; omega)
      replace hr := hr.grown hgr (fun he => by have := Option.some.inj he; omega)
      replace hoA := hoA.keep hq (by decide) (by decide) hgr
      clear hq hgr
      have hcx := hx.cell
      go_wp2_with fail
      refine (rtrim_any d k ab cb aq cq _ (h.below hbel)).mono ?_
      rintro e wC ⟨vb, vq, rfl, hoB, hbC⟩
      replace hbel := below_next hbel hbC
      replace hx := hx.ext hbC
      replace hqB := hqB.ext hbC
      replace hr := hr.ext hbC
      replace hoA := hoA.below hbC
      obtain ⟨bb, cc, qb, db, rfl, rfl, _⟩ := hoB.rd
      clear hcx hbC
      go_wp2_with (refine wpList_stw rfl _ (.tmp 16) (.tmp 113) rfl wR.heap.size #[.slice bb (trimD d k).blocks.length cc, .slice qb (trimD d k).queue.length db] rfl rfl _ _ hr (disk_fit _ _ _ _) (disk_info _ _) (sl_one _ _ _ _ _ _) ?_)
      intro wD hrD hgr
      replace hbel := hbel.grown hgr hbel.size (fun k hk => by cases hk; omega)
      replace hx := hx.grown hgr (fun he => by have := Option.some.inj he; omega)
      replace hqB := hqB.grown hgr (fun he => by have := Option.some.inj he; omega)
      replace hoA := hoA.keep hr (by decide) (by decide) hgr
      replace hoB := hoB.keep hr (by decide) (by decide) hgr
      clear hr hgr
      obtain ⟨_, _, _, _, e1, e2, hdA⟩ := hoA.rd
      cases e1
      cases e2
      obtain ⟨_, _, _, _, e1, e2, hdB⟩ := hoB.rd
      cases e1
      cases e2
      have hcq := hqB.cell
      have hcr := hrD.cell
      go_wp2_with fail
      refine (dsame_any (trimD d k) (trimD d k) ba ca qa da bb cc qb db _ hdA hdB).mono ?_
      rintro e wE ⟨rfl, hbE⟩
      rw [sameD_iff.2 rfl]
      replace hbel := below_next hbel hbE
      replace hx := hx.ext hbE
      have hq := hqB.ext hbE
      have hr := hrD.ext hbE
      clear hcq hcr hqB hrD hoA hoB hdA hdB hbE
      have hcx := hx.cell
      go_wp2_with fail
      refine (dflush_any d ab cb aq cq _ (h.below hbel)).mono ?_
      rintro e wA ⟨vb, vq, rfl, hoA, hbA⟩
      replace hbel := below_next hbel hbA
      replace hx := hx.ext hbA
      replace hq := hq.ext hbA
      replace hr := hr.ext hbA
      obtain ⟨ba, ca, qa, da, rfl, rfl, _⟩ := hoA.rd
      clear hcx hbA
      go_wp2_with (refine wpList_stw rfl _ (.tmp 11) (.tmp 127) rfl w1.heap.size #[.slice ba (keptD (fun _ => true) d).blocks.length ca, .slice qa (keptD (fun _ => true) d).queue.length da] rfl rfl _ _ hq (disk_fit _ _ _ _) (disk_info _ _) (sl_one _ _ _ _ _ _) ?_)
      intro wB hqB hgr
      replace hbel := hbel.grown hgr hbel.size (fun k hk => by cases hk; omega)
      replace hx := hx.grown hgr (fun he => by have := Option.some.inj he; omega)
      replace hr := hr.grown hgr (fun he => by have := Option.some.inj he; omega)
      replace hoA := hoA.keep hq (by decide) (by decide) hgr
      clear hq hgr
      have hcx := hx.cell
      go_wp2_with fail
      refine (hkf _ (h.below hbel)).mono ?_
      rintro e wC ⟨vb, vq, rfl, hoB, hbC⟩
      replace hbel := below_next hbel hbC
      replace hx := hx.ext hbC
      replace hqB := hqB.ext hbC
      replace hr := hr.ext hbC
      replace hoA := hoA.below hbC
      obtain ⟨bb, cc, qb, db, rfl, rfl, _⟩ := hoB.rd
      clear hcx hbC
      go_wp2_with (refine wpList_stw rfl _ (.tmp 16) (.tmp 132) rfl wR.heap.size #[.slice bb (keptD (fun _ => true) d).blocks.length cc, .slice qb (keptD (fun _ => true) d).queue.length db] rfl rfl _ _ hr (disk_fit _ _ _ _) (disk_info _ _) (sl_one _ _ _ _ _ _) ?_)
      intro wD hrD hgr
      replace hbel := hbel.grown hgr hbel.size (fun k hk => by cases hk; omega)
      replace hx := hx.grown hgr (fun he => by have := Option.some.inj he; omega)
      replace hqB := hqB.grown hgr (fun he => by have := Option.some.inj he; omega)
      replace hoA := hoA.keep hr (by decide) (by decide) hgr
      replace hoB := hoB.keep hr (by decide) (by decide) hgr
      clear hr hgr
      obtain ⟨_, _, _, _, e1, e2, hdA⟩ := hoA.rd
      cases e1
      cases e2
      obtain ⟨_, _, _, _, e1, e2, hdB⟩ := hoB.rd
      cases e1
      cases e2
      have hcq := hqB.cell
      have hcr := hrD.cell
      go_wp2_with fail
      refine (dsame_any (keptD (fun _ => true) d) (keptD (fun _ => true) d) ba ca qa da bb cc qb db _ hdA hdB).mono ?_
      rintro e wE ⟨rfl, hbE⟩
      rw [sameD_iff.2 rfl]
      replace hbel := below_next hbel hbE
      replace hx := hx.ext hbE
      have hq := hqB.ext hbE
      have hr := hrD.ext hbE
      clear hcq hcr hqB hrD hoA hoB hdA hdB hbE
      have hcx := hx.cell
      go_wp2_with fail
      refine (dcrash_any d ab cb aq cq bits _ (h.below hbel)).mono ?_
      rintro e wA ⟨vb, vq, rfl, hoA, hbA⟩
      replace hbel := below_next hbel hbA
      replace hx := hx.ext hbA
      replace hq := hq.ext hbA
      replace hr := hr.ext hbA
      obtain ⟨ba, ca, qa, da, rfl, rfl, _⟩ := hoA.rd
      clear hcx hbA
      go_wp2_with (refine wpList_stw rfl _ (.tmp 11) (.tmp 147) rfl w1.heap.size #[.slice ba (keptD (crashF bits) d).blocks.length ca, .slice qa (keptD (crashF bits) d).queue.length da] rfl rfl _ _ hq (disk_fit _ _ _ _) (disk_info _ _) (sl_one _ _ _ _ _ _) ?_)
      intro wB hqB hgr
      replace hbel := hbel.grown hgr hbel.size (fun k hk => by cases hk; omega)
      replace hx := hx.grown hgr (fun he => by have := Option.some.inj he; omega)
      replace hr := hr.grown hgr (fun he => by have := Option.some.inj he; omega)
      replace hoA := hoA.keep hq (by decide) (by decide) hgr
      clear hq hgr
      have hcx := hx.cell
      go_wp2_with fail
      refine (hkc _ (h.below hbel)).mono ?_
      rintro e wC ⟨vb, vq, rfl, hoB, hbC⟩
      replace hbel := below_next hbel hbC
      replace hx := hx.ext hbC
      replace hqB := hqB.ext hbC
      replace hr := hr.ext hbC
      replace hoA := hoA.below hbC
      obtain ⟨bb, cc, qb, db, rfl, rfl, _⟩ := hoB.rd
      clear hcx hbC
      go_wp2_with (refine wpList_stw rfl _ (.tmp 16) (.tmp 153) rfl wR.heap.size #[.slice bb (keptD (crashF bits) d).blocks.length cc, .slice qb (keptD (crashF bits) d).queue.length db] rfl rfl _ _ hr (disk_fit _ _ _ _) (disk_info _ _) (sl_one _ _ _ _ _ _) ?_)
      intro wD hrD hgr
      replace hbel := hbel.grown hgr hbel.size (fun k hk => by cases hk; omega)
      replace hx := hx.grown hgr (fun he => by have := Option.some.inj he; omega)
      replace hqB := hqB.grown hgr (fun he => by have := Option.some.inj he; omega)
      replace hoA := hoA.keep hr (by decide) (by decide) hgr
      replace hoB := hoB.keep hr (by decide) (by decide) hgr
      clear hr hgr
      obtain ⟨_, _, _, _, e1, e2, hdA⟩ := hoA.rd
      cases e1
      cases e2
      obtain ⟨_, _, _, _, e1, e2, hdB⟩ := hoB.rd
      cases e1
      cases e2
      have hcq := hqB.cell
      have hcr := hrD.cell
      go_wp2_with fail
      refine (dsame_any (keptD (crashF bits) d) (keptD (crashF bits) d) ba ca qa da bb cc qb db _ hdA hdB).mono ?_
      rintro e wE ⟨rfl, hbE⟩
      rw [sameD_iff.2 rfl]
      replace hbel := below_next hbel hbE
      replace hx := hx.ext hbE
      have hq := hqB.ext hbE
      have hr := hrD.ext hbE
      clear hcq hcr hqB hrD hoA hoB hdA hdB hbE
      go_wp2
      go_ret
      exact ⟨rfl, hbel⟩
end Go.Proofs.Ytohbfjbcfibhcaa
