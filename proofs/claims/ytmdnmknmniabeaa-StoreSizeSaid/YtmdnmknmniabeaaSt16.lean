/- pglaw5's alive. -/
import Derived.Test.YtmdnmknmniabeaaSt15
namespace Go.Proofs.Ytmdnmknmniabeaa
open Go.RowKit Go.Maps Pw
set_option linter.unusedSimpArgs false
set_option linter.unusedVariables false

def sa1 : St := ⟨[], 3⟩
def sa2 : St := ⟨[⟨0, []⟩], 3⟩
def sa3 : St := ⟨[⟨9, [-1, -1]⟩], 3⟩
def sa4 : St := ⟨[⟨9, [-1, 0]⟩], 3⟩
theorem sa_create : createE sa1 = 0 ∧ createN sa1 = 0 ∧ createS sa1 = sa2 := ⟨by decide +kernel, by decide +kernel, by kernel_rfl⟩
theorem sa_size : sizeE sa2 0 9 = 0 ∧ sizeS sa2 0 9 = sa3 := ⟨by decide +kernel, by kernel_rfl⟩
theorem sa_block : blockE sa3 0 1 = 0 ∧ blockN sa3 0 1 = 0 ∧ blockS sa3 0 1 = sa4 := ⟨by decide +kernel, by decide +kernel, by kernel_rfl⟩
theorem sa_left : leftSt sa4 = 2 := by decide +kernel
theorem sa_right : wrongSt sa4 = 0 := by decide +kernel
theorem fsR_nil (w : World) : FsR w none 0 [] := ⟨Nat.le_refl _, Nat.zero_le _, fun _ => rfl, fun j u h => by simp at h, fun p h => by simp at h⟩
theorem stOf_one {ps : List PF} {k : Int} {f : Fi} {n : Int} (h : stOf ps k = ⟨[f], n⟩) : k = n ∧ ∃ p, ps = [p] ∧ p.fi = f := by
  unfold stOf at h
  simp only [St.mk.injEq] at h
  obtain ⟨h1, h2⟩ := h
  refine ⟨h2, ?_⟩
  match ps, h1 with
  | [], h1 => cases h1
  | [p], h1 => exact ⟨p, rfl, by simpa using h1⟩
  | p :: q :: r, h1 => simp at h1
set_option maxHeartbeats 4000000 in
set_option maxRecDepth 100000 in
theorem salive_any (w : World) : Calls Try.prog 41 #[] w fun r w' => r = .returned (.bool true) ∧ Below w.heap.size w w' := by
  go_enter Try.func41, Try.ntmps41
  go_wp2_with fail
  refine (snew_any 3 w).mono ?_
  rintro r w1 ⟨rfl, hb1⟩
  rw [show newC 3 = 3 from rfl, show newE 3 = 0 from rfl]
  go_upto_region 2 with (fail)
  refine abs1 (fun W => Code.wp _ _ _ _ W) fun w2 hb2 ho2 hs2 => ?_
  have hbel2 := below_next hb1 hb2
  have hgs := hb1.size
  obtain ⟨gs, hG⟩ : ∃ g, g = w1.heap.size := ⟨_, rfl⟩
  rw [← hG] at ho2 hgs ⊢
  clear hs2 hG hb1 hb2
  go_wp2_with (refine wpList_ldg _ _ rfl _ 0 rfl rfl _ ho2.rd _ Try.underlying47 rfl store_size ?_)
  refine (screate_any [] 3 none 0 w2 (fsR_nil _) (by omega)).mono ?_
  rintro r w3 ⟨v3, ps3, k3, rfl, hO3, hst3, hb3⟩
  rw [show stOf [] 3 = sa1 from rfl, sa_create.1, sa_create.2.1]
  rw [show stOf [] 3 = sa1 from rfl, sa_create.2.2] at hst3
  obtain ⟨rfl, p3, rfl, hp3⟩ := stOf_one hst3
  have hst3' := Lib.hid hst3
  obtain ⟨a3, c3, rfl, _⟩ := hO3.rd
  have ho3 := ho2.ext hb3
  have hbel3 := below_next hbel2 hb3
  clear hst3 hp3 ho2 hbel2 hb3
  go_wp2_with (refine wpList_stw rfl _ _ _ rfl gs _ rfl rfl _ _ ho3 rfl store_size (sl_in _ _ _ _) ?_)
  intro w4 ho4 hgr4
  have hO4 := hO3.keep ho3 (by decide) (by decide) hgr4
  have hbel4 := hbel3.grown hgr4 hbel3.size (fun k hk => by cases hk; exact hgs)
  clear hO3 ho3 hbel3 hgr4
  obtain ⟨_, _, e, hR4⟩ := hO4.rd
  cases e
  go_wp2_with (refine wpList_ldg _ _ rfl _ 0 rfl rfl _ ho4.rd _ Try.underlying47 rfl store_size ?_)
  refine (ssize_any [p3] 3 0 9 a3 c3 w4 hR4 (by omega)).mono ?_
  rintro r w5 ⟨v5, ps5, k5, rfl, hO5, hst5, hb5⟩
  rw [hst3'.out, sa_size.1]
  rw [hst3'.out, sa_size.2] at hst5
  obtain ⟨rfl, p5, rfl, hp5⟩ := stOf_one hst5
  have hst5' := Lib.hid hst5
  obtain ⟨a5, c5, rfl, _⟩ := hO5.rd
  have ho5 := ho4.ext hb5
  have hbel5 := below_next hbel4 hb5
  clear hst5 hp5 ho4 hbel4 hb5 hO4 hR4 hst3'
  go_wp2_with (refine wpList_stw rfl _ _ _ rfl gs _ rfl rfl _ _ ho5 rfl store_size (sl_in _ _ _ _) ?_)
  intro w6 ho6 hgr6
  have hO6 := hO5.keep ho5 (by decide) (by decide) hgr6
  have hbel6 := hbel5.grown hgr6 hbel5.size (fun k hk => by cases hk; exact hgs)
  clear hO5 ho5 hbel5 hgr6
  obtain ⟨_, _, e, hR6⟩ := hO6.rd
  cases e
  go_wp2_with (refine wpList_ldg _ _ rfl _ 0 rfl rfl _ ho6.rd _ Try.underlying47 rfl store_size ?_)
  refine (sblock_any [p5] 3 0 1 a5 c5 w6 hR6 (by omega)).mono ?_
  rintro r w7 ⟨v7, ps7, k7, rfl, hO7, hst7, hb7⟩
  rw [hst5'.out, sa_block.1, sa_block.2.1]
  rw [hst5'.out, sa_block.2.2] at hst7
  obtain ⟨rfl, p7, rfl, hp7⟩ := stOf_one hst7
  have hst7' := Lib.hid hst7
  have hp7' := Lib.hid hp7
  obtain ⟨a7, c7, rfl, _⟩ := hO7.rd
  have ho7 := ho6.ext hb7
  have hbel7 := below_next hbel6 hb7
  clear hst7 hp7 ho6 hbel6 hb7 hO6 hR6 hst5'
  go_wp2_with (refine wpList_stw rfl _ _ _ rfl gs _ rfl rfl _ _ ho7 rfl store_size (sl_in _ _ _ _) ?_)
  intro w8 ho8 hgr8
  have hO8 := hO7.keep ho7 (by decide) (by decide) hgr8
  have hbel8 := hbel7.grown hgr8 hbel7.size (fun k hk => by cases hk; exact hgs)
  clear hO7 ho7 hbel7 hgr8
  obtain ⟨_, _, e, hR8⟩ := hO8.rd
  cases e
  clear hO8
  go_wp2_with (refine wpList_ldg _ _ rfl _ 0 rfl rfl _ ho8.rd _ Try.underlying47 rfl store_size ?_)
  refine (sleft_any [p7] 3 a7 c7 w8 hR8 (by omega) (by
    have h9 : p7.l = [-1, 0] := congrArg Fi.b hp7'.out
    simp [pblks, h9])).mono ?_
  rintro r w9 ⟨rfl, hb9⟩
  rw [hst7'.out, sa_left]
  have ho9 := ho8.ext hb9
  have hR9 := hR8.below hb9
  have hbel9 := below_next hbel8 hb9
  clear ho8 hR8 hbel8 hb9
  go_wp2_with (refine wpList_ldg _ _ rfl _ 0 rfl rfl _ ho9.rd _ Try.underlying47 rfl store_size ?_)
  refine (swrong_any [p7] 3 a7 c7 w9 hR9 (by omega)).mono ?_
  rintro r w10 ⟨rfl, hb10⟩
  rw [hst7'.out, sa_right]
  have ho10 := ho9.ext hb10
  have hR10 := hR9.below hb10
  have hbel10 := below_next hbel9 hb10
  clear ho9 hR9 hbel9 hb10
  obtain ⟨b, off, q, rfl, hq, c0, c1⟩ := pf_at hR10.rd 0 (by simp)
  obtain rfl : p7 = q := by simpa using hq
  have hl7 : p7.l.length = 2 := by rw [show p7.l = [-1, 0] from congrArg Fi.b hp7'.out]; rfl
  rw [hl7] at c1
  have hcx := ho10.cell
  clear hq hl7 hst7' hp7'
  go_wp2
  go_ret
  exact ⟨rfl, hbel10⟩
end Go.Proofs.Ytmdnmknmniabeaa
