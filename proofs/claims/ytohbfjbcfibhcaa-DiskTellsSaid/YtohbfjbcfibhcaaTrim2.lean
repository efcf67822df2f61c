/- The law DiskTrim, walked. -/
import Derived.Test.YtohbfjbcfibhcaaTrim
import Derived.Test.YtohbfjbcfibhcaaDisk8
namespace Go.Proofs.Ytohbfjbcfibhcaa
open Go.RowKit Pw
set_option linter.unusedSimpArgs false
set_option linter.unusedVariables false

theorem keepF_mem {k : Int} {l : List (Int × Page)} {x : Int × Page} (h : x ∈ keepF k l) : x ∈ l ∧ x.1 ≠ k := by
  unfold keepF at h
  rw [List.mem_filter] at h
  exact ⟨h.1, by simpa using h.2⟩
theorem keepF_le (k : Int) (l : List (Int × Page)) : (keepF k l).length ≤ l.length := List.length_filter_le _ _
theorem trim_wrong {d : Dsk} {k : Int} (h : wrong_or d k = 0) : wrongD (trimW d k) = 0 := by
  obtain ⟨hw, h0, h1⟩ := wrong_or_ok.1 h
  obtain ⟨h2, h3, h4⟩ := (wrongD_iff d).1 hw
  rw [wrongD_iff]
  simp only [trimW, List.length_set]
  exact ⟨h2, Nat.le_trans (keepF_le _ _) h3, fun x hx => h4 x (keepF_mem hx).1⟩
theorem trim_or {d : Dsk} {k : Int} (h : wrong_or d k = 0) (o : Int) : wrong_or (trimW d k) o = wrong_or d o := by
  unfold wrong_or
  rw [trim_wrong h, (wrong_or_ok.1 h).1]
  simp only [trimW, List.length_set]
theorem over_keepF {k o : Int} (h : o ≠ k) : ∀ (q : List (Int × Page)) (p : Page), over o p (keepF k q) = over o p q
  | [], _ => rfl
  | x :: r, p => by
    unfold keepF
    rw [over_cons, List.filter_cons]
    by_cases he : x.1 = k
    · have hne : ¬ x.1 = o := by rw [he]; exact fun e => h e.symm
      simp only [he, beq_self_eq_true, Bool.not_true, Bool.false_eq_true, if_false]
      rw [if_neg (by rw [← he]; exact hne)]
      exact over_keepF h r p
    · have : (!(x.1 == k)) = true := by simpa using he
      rw [if_pos this, over_cons]
      exact over_keepF h r _
theorem trim_read {d : Dsk} {k : Int} (h : wrong_or d k = 0) {o : Int} (hne : ¬ o = k) : readP (trimW d k) o = readP d o := by
  unfold readP
  rw [trim_or h]
  by_cases ho : wrong_or d o = 0
  · rw [if_pos ho, if_pos ho]
    obtain ⟨_, h0, h1⟩ := wrong_or_ok.1 ho
    obtain ⟨_, k0, k1⟩ := wrong_or_ok.1 h
    simp only [trimW]
    rw [over_keepF hne, List.getD_eq_getElem?_getD, List.getD_eq_getElem?_getD, List.getElem?_set_ne (by omega)]
  · rw [if_neg ho, if_neg ho]
theorem trim_kept {d : Dsk} {k : Int} (h : wrong_or d k = 0) (f : Nat → Bool) : readP (keptD f (trimW d k)) k = zPg := by
  obtain ⟨hw, h0, h1⟩ := wrong_or_ok.1 h
  obtain ⟨h2, h3, h4⟩ := (wrongD_iff d).1 hw
  have hT := trim_wrong h
  have hr : readP (keptD f (trimW d k)) k = (keepN f (trimW d k).blocks (trimW d k).queue (trimW d k).queue.length).getD k.toNat zPg := by
    unfold readP
    rw [kept_orr f hT, trim_or h, if_pos h]
    unfold keptD
    rw [if_pos hT]
    rfl
  rw [hr, List.getD_eq_getElem?_getD]
  have hi : k.toNat < (trimW d k).blocks.length := by simp only [trimW, List.length_set]; omega
  rcases keepN_is f (trimW d k).blocks (trimW d k).queue (fun x hx => (h4 x (keepF_mem hx).1).1) (trimW d k).queue.length k.toNat hi with h | ⟨x, hx, he, h⟩
  · rw [h]; simp [trimW]
  · exact absurd (he.trans (by omega)) (keepF_mem hx).2

set_option maxHeartbeats 2000000 in
set_option maxRecDepth 100000 in
theorem disk_trim (d : Dsk) (k bits o : Int) (ab : Option Addr) (cb : Nat) (aq : Option Addr) (cq : Nat) (w : World) (h : DRd w ab cb aq cq d) :
    Calls Try.prog 10 #[.agg #[.slice ab d.blocks.length cb, .slice aq d.queue.length cq], .int .i64 k, .int .i64 bits, .int .i64 o] w fun e w' => e = .returned (.bool true) ∧ Below w.heap.size w w' := by
  go_enter Try.func10, Try.ntmps10
  go_wp2_with fail
  refine abs1 (fun W => Calls _ _ _ W _) fun W0 hb0 hx0 _ => ?_
  refine (alive2 _).mono ?_
  rintro e w1 ⟨rfl, hb1⟩
  have hbel1 := below_next hb0 hb1
  have hx1 := hx0.ext hb1
  have hd1 := h.below hbel1
  clear hx0 hb0 hb1
  have hc1 := hx1.cell
  go_wp2_with fail
  refine (dtrim_any d k ab cb aq cq _ hd1).mono ?_
  rintro e w2 ⟨vb, vq, rfl, ho2, hb2⟩
  have hbel2 := below_next hbel1 hb2
  have hx2 := hx1.ext hb2
  obtain ⟨ab2, cb2, aq2, cq2, rfl, rfl, hy2⟩ := ho2.rd
  clear hx1 hd1 hb2 ho2 hc1
  by_cases hw : wrong_or d k = 0
  · rw [hw]
    have hwx := trim_wrong hw
    have hkk := trim_kept hw (crashF bits)
    have hko := (kept_orr (crashF bits) hwx k).trans ((trim_or hw k).trans hw)
    have hor := trim_or hw o
    have hrd := fun hne => trim_read hw (o := o) hne
    have hT : trimD d k = trimW d k := by unfold trimD; rw [if_pos hw]
    rw [hT] at hy2 ⊢
    obtain ⟨X, hX⟩ : ∃ X, X = trimW d k := ⟨_, rfl⟩
    rw [← hX] at hwx hkk hko hor hrd hy2 ⊢
    clear hX hT
    go_upto_region 4 with (fail)
    refine abs1 (fun W => Code.wp _ _ _ _ W) fun w3 hb3 hz3 _ => ?_
    have hbel3 := below_next hbel2 hb3
    have hx3 := hx2.ext hb3
    have hy3 := hy2.below hb3
    clear hx2 hy2 hb3
    have hcz := hz3.cell
    go_wp2_with fail
    have hk := dcrash_any X ab2 cb2 aq2 cq2 bits _ hy3
    rw [hwx] at hk
    refine hk.mono ?_
    rintro e w4 ⟨vb, vq, rfl, ho4, hb4⟩
    have hbel4 := below_next hbel3 hb4
    have hx4 := hx3.ext hb4
    have hy4 := hy3.below hb4
    have hz4 := hz3.ext hb4
    obtain ⟨ab4, cb4, aq4, cq4, rfl, rfl, hv4⟩ := ho4.rd
    clear hx3 hy3 hb4 ho4 hk hz3 hcz hwx
    go_upto_region 7 with (fail)
    refine abs1 (fun W => Code.wp _ _ _ _ W) fun w5 hb5 hu5 _ => ?_
    have hbel5 := below_next hbel4 hb5
    have hx5 := hx4.ext hb5
    have hy5 := hy4.below hb5
    have hv5 := hv4.below hb5
    have hz5 := hz4.ext hb5
    clear hx4 hy4 hv4 hb5 hz4
    have hcu := hu5.cell
    go_wp2_with fail
    refine (dread_any _ k ab4 cb4 aq4 cq4 _ hv5).mono ?_
    rintro e w6 ⟨rfl, hb6⟩
    rw [hkk, hko, lit0]
    have hbel6 := below_next hbel5 hb6
    have hx6 := hx5.ext hb6
    have hy6 := hy5.below hb6
    have hz6 := hz5.ext hb6
    clear hcu hx5 hy5 hv5 hz5 hu5 hb6 hkk hko
    go_upto_region 8 with (fail)
    refine abs1 (fun W => Code.wp _ _ _ _ W) fun w7 hb7 hp7 _ => ?_
    have hbel7 := below_next hbel6 hb7
    have hx7 := hx6.ext hb7
    have hy7 := hy6.below hb7
    have hz7 := hz6.ext hb7
    clear hx6 hy6 hz6 hb7
    have hcx := hx7.cell
    go_wp2_with fail
    refine (dread_any d o ab cb aq cq _ (h.below hbel7)).mono ?_
    rintro e w8 ⟨rfl, hb8⟩
    rw [pgC_lit]
    have hbel8 := below_next hbel7 hb8
    have hy8 := hy7.below hb8
    have hz8 := hz7.ext hb8
    have hp8 := hp7.ext hb8
    clear hcx hx7 hy7 hz7 hp7 hb8
    go_upto_region 9 with (fail)
    refine abs1 (fun W => Code.wp _ _ _ _ W) fun w9 hb9 hq9 _ => ?_
    have hbel9 := below_next hbel8 hb9
    have hy9 := hy8.below hb9
    have hz9 := hz8.ext hb9
    have hp9 := hp8.ext hb9
    clear hy8 hz8 hp8 hb9
    have hcz := hz9.cell
    go_wp2_with fail
    refine (dread_any X o ab2 cb2 aq2 cq2 _ hy9).mono ?_
    rintro e w10 ⟨rfl, hb10⟩
    rw [hor, pgC_lit]
    have hbel10 := below_next hbel9 hb10
    have hp10 := hp9.ext hb10
    have hq10 := hq9.ext hb10
    clear hcz hy9 hz9 hp9 hq9 hb10 hor
    go_upto_region 10 with (fail)
    refine abs1 (fun W => Code.wp _ _ _ _ W) fun w11 hb11 hr11 _ => ?_
    have hbel11 := below_next hbel10 hb11
    have hcp := (hp10.ext hb11).cell
    have hcq := (hq10.ext hb11).cell
    have hcr := hr11.cell
    have hE0 := eqP zPg zPg
    rw [beq_self_eq_true] at hE0
    have hE0' : ∀ W, (Op.equalIn 10000 23 (.agg #[.int .u8 0, .int .u8 0, .int .u8 0, .int .u8 0, .int .u8 0, .int .u8 0, .int .u8 0, .int .u8 0]) (.agg #[.int .u8 0, .int .u8 0, .int .u8 0, .int .u8 0, .int .u8 0, .int .u8 0, .int .u8 0, .int .u8 0])).run Try.prog W = .ok true W := hE0
    clear hE0
    by_cases hok : o = k
    · have hok' : (o == k) = true := by simpa using hok
      clear hrd hok
      go_wp2
      go_ret
      exact ⟨rfl, hbel11⟩
    · have hok' : (o == k) = false := by simpa using hok
      rw [hrd hok] at hcr
      have hE := eqP (readP d o) (readP d o)
      rw [beq_self_eq_true] at hE
      clear hrd
      go_wp2
      go_ret
      exact ⟨rfl, hbel11⟩
  · have hT : trimD d k = ⟨[], []⟩ := by unfold trimD; rw [if_neg hw]
    have hn : (wrong_or d k != 0) = true := by simpa using hw
    have hl : (trimD d k).blocks.length = 0 := by rw [hT]; rfl
    have hl0 : ((0 : Nat) : Int) = 0 := rfl
    clear hT
    go_wp2
    go_ret
    exact ⟨rfl, hbel2.alloc hbel2.size _⟩
end Go.Proofs.Ytohbfjbcfibhcaa
