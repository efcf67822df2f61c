/- The law DiskFlush, walked. -/
import Derived.Test.YtohbfjbcfibhcaaDisk6
import Derived.Test.YtohbfjbcfibhcaaDisk7
namespace Go.Proofs.Ytohbfjbcfibhcaa
open Go.RowKit Pw
set_option linter.unusedSimpArgs false
set_option linter.unusedVariables false

theorem keepN_all (B : List Page) (Q : List (Int × Page)) (hq : ∀ x ∈ Q, 0 ≤ x.1) (n i : Nat) (hn : n ≤ Q.length) (hi : i < B.length) : (keepN (fun _ => true) B Q n)[i]? = some (over (i : Int) B[i] (Q.take n)) := by
  induction n with
  | zero => simp [keepN, over, hi]
  | succ n ih =>
    have hn' : n < Q.length := by omega
    rw [keepN_put hn' rfl, List.getElem?_set, over_take _ _ _ _ hn']
    have h0 := hq _ (List.getElem_mem hn')
    by_cases he : Q[n].1.toNat = i
    · rw [if_pos he, if_pos (by rw [keepN_len]; omega), if_pos (by omega)]
    · rw [if_neg he, if_neg (by omega)]; exact ih (by omega)
theorem kept_wrong (f : Nat → Bool) {d : Dsk} (hw : wrongD d = 0) : wrongD (keptD f d) = 0 := by
  obtain ⟨h2, h3, h4⟩ := (wrongD_iff d).1 hw
  rw [wrongD_iff]
  unfold keptD
  rw [if_pos hw]
  simp only [keepN_len]
  exact ⟨h2, by simp, by simp⟩
theorem kept_orr (f : Nat → Bool) {d : Dsk} (hw : wrongD d = 0) (k : Int) : wrong_or (keptD f d) k = wrong_or d k := by
  unfold wrong_or
  rw [kept_wrong f hw, hw]
  unfold keptD
  rw [if_pos hw]
  simp only [keepN_len]
theorem kept_reads {d : Dsk} (hw : wrongD d = 0) (k : Int) : readP (keptD (fun _ => true) d) k = readP d k := by
  unfold readP
  rw [kept_orr _ hw]
  by_cases h : wrong_or d k = 0
  · obtain ⟨_, h0, h1⟩ := wrong_or_ok.1 h
    obtain ⟨h2, h3, h4⟩ := (wrongD_iff d).1 hw
    rw [if_pos h, if_pos h]
    unfold keptD
    rw [if_pos hw]
    obtain ⟨k, rfl⟩ := Int.eq_ofNat_of_zero_le h0
    have := keepN_all d.blocks d.queue (fun x hx => (h4 x hx).1) d.queue.length k (Nat.le_refl _) (by omega)
    simp only [Int.toNat_natCast, over, List.foldl_nil, List.getD_eq_getElem?_getD]
    rw [this, List.take_length, List.getElem?_eq_getElem (by omega)]
    rfl
  · rw [if_neg h, if_neg h]
theorem kept_kept (f g : Nat → Bool) {d : Dsk} (hw : wrongD d = 0) : keptD f (keptD g d) = keptD g d := by
  have h1 : keptD f (keptD g d) = ⟨keepN f (keptD g d).blocks (keptD g d).queue (keptD g d).queue.length, []⟩ := by
    rw [keptD, if_pos (kept_wrong g hw)]
  rw [h1]
  unfold keptD
  rw [if_pos hw]
  rfl

set_option maxHeartbeats 2000000 in
set_option maxRecDepth 100000 in
theorem disk_flush (d : Dsk) (bits k : Int) (ab : Option Addr) (cb : Nat) (aq : Option Addr) (cq : Nat) (w : World) (h : DRd w ab cb aq cq d) :
    Calls Try.prog 7 #[.agg #[.slice ab d.blocks.length cb, .slice aq d.queue.length cq], .int .i64 bits, .int .i64 k] w fun e w' => e = .returned (.bool true) ∧ Below w.heap.size w w' := by
  go_enter Try.func7, Try.ntmps7
  go_wp2_with fail
  refine abs1 (fun W => Calls _ _ _ W _) fun W0 hb0 hx0 _ => ?_
  refine (alive2 _).mono ?_
  rintro e w1 ⟨rfl, hb1⟩
  have hbel1 := below_next hb0 hb1
  have hx1 := hx0.ext hb1
  have hd1 := h.below hbel1
  clear hx0 hb0 hb1
  have hc1 := hx1.cell
  go_wp2_with fail
  refine (dflush_any d ab cb aq cq _ hd1).mono ?_
  rintro e w2 ⟨vb, vq, rfl, ho2, hb2⟩
  have hbel2 := below_next hbel1 hb2
  have hx2 := hx1.ext hb2
  obtain ⟨ab2, cb2, aq2, cq2, rfl, rfl, hy2⟩ := ho2.rd
  clear hx1 hd1 hb2 ho2 hc1
  by_cases hw : wrongD d = 0
  · rw [hw]
    have hwx := kept_wrong (fun _ => true) hw
    have hkk := kept_kept (crashF bits) (fun _ => true) hw
    have hor := kept_orr (fun _ => true) hw k
    have hrd := kept_reads hw k
    obtain ⟨X, hX⟩ : ∃ X, X = keptD (fun _ => true) d := ⟨_, rfl⟩
    rw [← hX] at hwx hkk hor hrd hy2 ⊢
    clear hX
    go_upto_region 4 with (fail)
    refine abs1 (fun W => Code.wp _ _ _ _ W) fun w3 hb3 hz3 _ => ?_
    have hbel3 := below_next hbel2 hb3
    have hx3 := hx2.ext hb3
    have hy3 := hy2.below hb3
    clear hx2 hy2 hb3
    have hcz := hz3.cell
    go_wp2_with fail
    have hk := dcrash_any X ab2 cb2 aq2 cq2 bits _ hy3
    rw [hkk, hwx] at hk
    refine hk.mono ?_
    rintro e w4 ⟨vb, vq, rfl, ho4, hb4⟩
    have hbel4 := below_next hbel3 hb4
    have hx4 := hx3.ext hb4
    have hy4 := hy3.below hb4
    have hz4 := hz3.ext hb4
    obtain ⟨ab4, cb4, aq4, cq4, rfl, rfl, hv4⟩ := ho4.rd
    clear hx3 hy3 hb4 ho4 hk hz3 hcz hkk hwx
    go_upto_region 7 with (fail)
    refine abs1 (fun W => Code.wp _ _ _ _ W) fun w5 hb5 hu5 _ => ?_
    have hbel5 := below_next hbel4 hb5
    have hx5 := hx4.ext hb5
    have hy5 := hy4.below hb5
    have hv5 := hv4.below hb5
    have hz5 := hz4.ext hb5
    clear hx4 hy4 hv4 hb5 hz4
    have hcx := hx5.cell
    go_wp2_with fail
    refine (dread_any d k ab cb aq cq _ (h.below hbel5)).mono ?_
    rintro e w6 ⟨rfl, hb6⟩
    have hbel6 := below_next hbel5 hb6
    have hy6 := hy5.below hb6
    have hv6 := hv5.below hb6
    have hz6 := hz5.ext hb6
    have hu6 := hu5.ext hb6
    clear hcx hx5 hy5 hv5 hz5 hu5 hb6
    rw [pgC_lit]
    go_upto_region 8 with (fail)
    refine abs1 (fun W => Code.wp _ _ _ _ W) fun w7 hb7 hp7 _ => ?_
    have hbel7 := below_next hbel6 hb7
    have hy7 := hy6.below hb7
    have hv7 := hv6.below hb7
    have hz7 := hz6.ext hb7
    have hu7 := hu6.ext hb7
    clear hy6 hv6 hz6 hu6 hb7
    have hcu := hu7.cell
    go_wp2_with fail
    refine (dread_any X k ab4 cb4 aq4 cq4 _ hv7).mono ?_
    rintro e w8 ⟨rfl, hb8⟩
    rw [hor, hrd]
    have hbel8 := below_next hbel7 hb8
    have hy8 := hy7.below hb8
    have hv8 := hv7.below hb8
    have hz8 := hz7.ext hb8
    have hu8 := hu7.ext hb8
    have hp8 := hp7.ext hb8
    clear hcu hy7 hv7 hz7 hu7 hp7 hb8
    rw [pgC_lit]
    go_upto_region 9 with (fail)
    refine abs1 (fun W => Code.wp _ _ _ _ W) fun w9 hb9 hq9 _ => ?_
    have hbel9 := below_next hbel8 hb9
    have hy9 := hy8.below hb9
    have hv9 := hv8.below hb9
    have hcz := (hz8.ext hb9).cell
    have hcu := (hu8.ext hb9).cell
    have hcp := (hp8.ext hb9).cell
    have hcq := hq9.cell
    have hE := eqP (readP d k) (readP d k)
    rw [beq_self_eq_true] at hE
    clear hy8 hv8 hz8 hu8 hp8 hb9 hor hrd
    go_wp2_with fail
    refine (dsame_any X X ab2 cb2 aq2 cq2 ab4 cb4 aq4 cq4 _ hy9 hv9).mono ?_
    rintro e w10 ⟨rfl, hb10⟩
    rw [sameD_iff.2 rfl]
    go_wp2
    go_ret
    exact ⟨rfl, below_next hbel9 hb10⟩
  · have hn : (wrongD d != 0) = true := by simpa using hw
    go_wp2
    go_ret
    exact ⟨rfl, hbel2.alloc hbel2.size _⟩
end Go.Proofs.Ytohbfjbcfibhcaa
