/- The laws of chapter 4, walked. -/
import Derived.Test.YtohbfjbcfibhcaaSlots3
namespace Go.Proofs.Ytohbfjbcfibhcaa
open Go.RowKit Pw
set_option linter.unusedSimpArgs false
set_option linter.unusedVariables false

set_option maxHeartbeats 800000 in
set_option maxRecDepth 100000 in
theorem alive4 (w : World) : Calls Try.prog 41 #[] w fun e w' => e = .returned (.bool true) ∧ Below w.heap.size w w' := by
  go_enter Try.func41, Try.ntmps41
  go_wp2_with fail
  refine (new_any 2 _).mono ?_
  rintro e w1 ⟨v1, rfl, ho1, hb1⟩
  rw [show newE 2 = 0 from by decide]
  rw [show newS 2 = [0, 0] from by decide] at ho1
  obtain ⟨a1, c1, rfl, hle1, hmx1, hnil1, hrd1⟩ := ho1.rd
  go_wp2_with fail
  refine (take_any [0, 0] a1 c1 3 _ hle1 hnil1 hrd1 (by decide)).mono ?_
  rintro e w2 ⟨v2, rfl, ho2, hb2⟩
  rw [show takeE [0, 0] 3 = 0 from by decide, show takeK [0, 0] 3 = 0 from by decide]
  rw [show takeL [0, 0] 3 = [3, 0] from by decide] at ho2
  have hbel2 := below_next hb1 hb2
  obtain ⟨a2, c2, rfl, hle2, hmx2, hnil2, hrd2⟩ := ho2.rd
  clear hrd1 ho1
  go_wp2_with fail
  refine (hold_any [3, 0] a2 c2 0 (-3) _ hle2 hnil2 hrd2 (by decide)).mono ?_
  rintro e w3 ⟨v3, rfl, ho3, hb3⟩
  rw [show holdE [3, 0] 0 (-3) = 0 from by decide]
  rw [show holdL [3, 0] 0 (-3) = [0, 0] from by decide] at ho3
  have hbel3 := below_next hbel2 hb3
  have hrd2' := hrd2.below hb3
  obtain ⟨a3, c3, rfl, hle3, hmx3, hnil3, hrd3⟩ := ho3.rd
  go_wp2_with fail
  refine (free_any [3, 0] a2 c2 _ hrd2' (by decide)).mono ?_
  rintro e w4 ⟨rfl, rfl⟩
  rw [show (([3, 0] : List Int).countP isZ : Int) = 1 from by decide]
  go_wp2_with fail
  refine (free_any [0, 0] a3 c3 _ hrd3 (by decide)).mono ?_
  rintro e w4 ⟨rfl, rfl⟩
  rw [show (([0, 0] : List Int).countP isZ : Int) = 2 from by decide]
  go_wp2_with fail
  refine (wrong_any [3, 0] a2 c2 _ hrd2' (by decide)).mono ?_
  rintro e w4 ⟨rfl, rfl⟩
  rw [show wrongS [3, 0] = 0 from by decide]
  go_wp2
  go_ret
  exact ⟨rfl, hbel3⟩

theorem free_new (m : Nat) : (List.replicate m (0 : Int)).countP isZ = m := by
  rw [List.countP_replicate]; rfl

theorem takeL_len (l : List Int) (n : Int) (h : l.length ≤ 9223372036854775807) : (takeL l n).length ≤ 9223372036854775807 := by
  unfold takeL; split <;> simp <;> omega
theorem holdL_len (l : List Int) (k n : Int) (h : l.length ≤ 9223372036854775807) : (holdL l k n).length ≤ 9223372036854775807 := by
  unfold holdL; split <;> simp <;> omega

set_option maxHeartbeats 2000000 in
set_option maxRecDepth 100000 in
theorem slots_tells (l : List Int) (a : Option Addr) (c : Nat) (k n : Int) (w : World) (hle : l.length ≤ c) (hnil : a = none → c = 0) (hrd : RdV w a (l.map inV)) (hl : l.length ≤ 9223372036854775807) :
    Calls Try.prog 8 #[.slice a l.length c, .int .i64 k, .int .i64 n] w fun e w' => e = .returned (.bool true) ∧ Below w.heap.size w w' := by
  go_enter Try.func8, Try.ntmps8
  go_wp2_with fail
  refine (new_any n _).mono ?_
  rintro e W ⟨v1, rfl, ho1, hbel⟩
  have hrdW := hrd.below hbel
  clear hrd
  go_wp2_with fail
  refine (wrong_any l a c _ hrdW (by omega)).mono ?_
  rintro e W ⟨rfl, rfl⟩
  go_wp2_with fail
  refine (rwrong_any l a c _ hrdW (by omega)).mono ?_
  rintro e W ⟨rfl, rfl⟩
  by_cases hn : 0 ≤ n ∧ n ≤ 60
  · have e1 : newE n = 0 := by unfold newE; rw [if_pos hn]
    have e2 : newS n = List.replicate n.toNat 0 := by unfold newS; rw [if_pos hn]
    rw [e2] at ho1
    have e3 : (List.replicate n.toNat (0 : Int)).length = n.toNat := by simp
    rw [e3] at ho1
    obtain ⟨m, rfl⟩ := Int.eq_ofNat_of_zero_le hn.1
    rw [Int.toNat_natCast] at ho1
    obtain ⟨a1, c1, rfl, hle1, hmx1, hnil1, hr1⟩ := ho1.rd
    have n1 : (m : Int) ≤ 60 := hn.2
    clear e2 e3 ho1
    rw [e1]
    have hf := free_any (List.replicate m 0) a1 c1 W hr1 (by simp; omega)
    rw [List.length_replicate, free_new] at hf
    go_wp2_with fail
    refine hf.mono ?_
    rintro e W ⟨rfl, rfl⟩
    clear hf hr1
    clear hn
    go_wp2
    go_loopw [56, 9] (fun i u wr => ∃ j : Nat, j ≤ l.length ∧ i = .int .i64 j ∧ u = .int .i64 ((l.take j).countP isZ) ∧ wr = W) (fun i _ _ => l.length - (intOf i).toNat)
    case atStart => exact ⟨0, Nat.zero_le _, rfl, rfl, rfl⟩
    case round =>
      obtain ⟨j, hj, rfl, rfl, rfl⟩ := hrel
      have hle' : (l.take j).countP isZ ≤ j := Nat.le_trans List.countP_le_length (by simp; omega)
      by_cases hlt : j < l.length
      · obtain ⟨b, off, rfl, hc⟩ := elem_at hrdW j hlt
        have hct := count_take hlt
        by_cases hz : l[j] = 0
        · have hbk : isZ l[j] = true := by simp [isZ, hz]
          rw [hz] at hc
          rw [hbk] at hct
          go_wp2
          go_roundw
          case rel => exact ⟨j + 1, by omega, by go_num, by rw [hct]; rfl, trivial⟩
          case measure => simp [intOf]; omega
        · have hbk : isZ l[j] = false := by simp [isZ, hz]
          have hz' : (l[j] == (0 : Int)) = false := by simp; omega
          rw [hbk] at hct
          go_wp2
          go_roundw
          case rel => exact ⟨j + 1, by omega, by go_num, by rw [hct]; simp, trivial⟩
          case measure => simp [intOf]; omega
      · have : j = l.length := by omega
        subst this
        rw [List.take_length]
        go_wp2_with fail
        refine (take_any l a c (m : Int) _ hle hnil hrdW (by omega)).mono ?_
        rintro e w2 ⟨v2, rfl, ho2, hb2⟩
        have hrd2 := hrdW.below hb2
        have hbel2 := below_next hbel hb2
        go_wp2_with fail
        refine (rtake_any l a c (m : Int) _ hle hrd2 (by omega)).mono ?_
        rintro e w3 ⟨v3, rfl, ho3, hb3⟩
        have ho2' := ho2.below hb3
        have hrd3 := hrd2.below hb3
        have hbel3 := below_next hbel2 hb3
        have htl := takeL_len l (m : Int) (by omega)
        obtain ⟨a2, c2, rfl, hle2, hmx2, hnil2, hr2⟩ := ho2'.rd
        obtain ⟨a3, c3, rfl, hle3, hmx3, hnil3, hr3⟩ := ho3.rd
        clear ho2 ho2' ho3 hrd2 hb2 hb3 hrdW hbel hbel2
        go_wp2_with fail
        refine (free_any l a c _ hrd3 (by omega)).mono ?_
        rintro e w4 ⟨rfl, rfl⟩
        go_wp2_with fail
        refine (same_any (takeL l (m : Int)) (takeL l (m : Int)) a2 a3 c2 c3 _ hr2 hr3 (by omega) (by omega)).mono ?_
        rintro e w5 ⟨rfl, hb5⟩
        have hrd5 := hrd3.below hb5
        have hbel5 := below_next hbel3 hb5
        clear hr2 hr3 hrd3 hb5 hbel3
        rw [beq_self_eq_true]
        go_wp2_with fail
        refine (hold_any l a c k (m : Int) _ hle hnil hrd5 (by omega)).mono ?_
        rintro e w6 ⟨v6, rfl, ho6, hb6⟩
        have hrd6 := hrd5.below hb6
        have hbel6 := below_next hbel5 hb6
        go_wp2_with fail
        refine (rhold_any l a c k (m : Int) _ hle hrd6 (by omega)).mono ?_
        rintro e w7 ⟨v7, rfl, ho7, hb7⟩
        have ho6' := ho6.below hb7
        have hbel7 := below_next hbel6 hb7
        have hhl := holdL_len l k (m : Int) (by omega)
        obtain ⟨a6, c6, rfl, hle6, hmx6, hnil6, hr6⟩ := ho6'.rd
        obtain ⟨a7, c7, rfl, hle7, hmx7, hnil7, hr7⟩ := ho7.rd
        clear ho6 ho6' ho7 hrd5 hrd6 hb6 hb7 hbel5 hbel6
        go_wp2_with fail
        refine (same_any (holdL l k (m : Int)) (holdL l k (m : Int)) a6 a7 c6 c7 _ hr6 hr7 (by omega) (by omega)).mono ?_
        rintro e w8 ⟨rfl, hb8⟩
        rw [beq_self_eq_true]
        go_wp2
        go_ret
        exact ⟨rfl, below_next hbel7 hb8⟩
  · have e1 : newE n = 4 := by unfold newE; rw [if_neg hn]
    rw [e1]
    clear ho1
    by_cases n1 : n < 0
    · have n2 : ¬ 0 ≤ n := by omega
      clear hn
      go_wp2
      go_loopw [56, 9] (fun i u wr => ∃ j : Nat, j ≤ l.length ∧ i = .int .i64 j ∧ u = .int .i64 ((l.take j).countP isZ) ∧ wr = W) (fun i _ _ => l.length - (intOf i).toNat)
      case atStart => exact ⟨0, Nat.zero_le _, rfl, rfl, rfl⟩
      case round =>
        obtain ⟨j, hj, rfl, rfl, rfl⟩ := hrel
        have hle' : (l.take j).countP isZ ≤ j := Nat.le_trans List.countP_le_length (by simp; omega)
        by_cases hlt : j < l.length
        · obtain ⟨b, off, rfl, hc⟩ := elem_at hrdW j hlt
          have hct := count_take hlt
          by_cases hz : l[j] = 0
          · have hbk : isZ l[j] = true := by simp [isZ, hz]
            rw [hz] at hc
            rw [hbk] at hct
            go_wp2
            go_roundw
            case rel => exact ⟨j + 1, by omega, by go_num, by rw [hct]; rfl, trivial⟩
            case measure => simp [intOf]; omega
          · have hbk : isZ l[j] = false := by simp [isZ, hz]
            have hz' : (l[j] == (0 : Int)) = false := by simp; omega
            rw [hbk] at hct
            go_wp2
            go_roundw
            case rel => exact ⟨j + 1, by omega, by go_num, by rw [hct]; simp, trivial⟩
            case measure => simp [intOf]; omega
        · have : j = l.length := by omega
          subst this
          rw [List.take_length]
          go_wp2_with fail
          refine (take_any l a c n _ hle hnil hrdW (by omega)).mono ?_
          rintro e w2 ⟨v2, rfl, ho2, hb2⟩
          have hrd2 := hrdW.below hb2
          have hbel2 := below_next hbel hb2
          go_wp2_with fail
          refine (rtake_any l a c n _ hle hrd2 (by omega)).mono ?_
          rintro e w3 ⟨v3, rfl, ho3, hb3⟩
          have ho2' := ho2.below hb3
          have hrd3 := hrd2.below hb3
          have hbel3 := below_next hbel2 hb3
          have htl := takeL_len l n (by omega)
          obtain ⟨a2, c2, rfl, hle2, hmx2, hnil2, hr2⟩ := ho2'.rd
          obtain ⟨a3, c3, rfl, hle3, hmx3, hnil3, hr3⟩ := ho3.rd
          clear ho2 ho2' ho3 hrd2 hb2 hb3 hrdW hbel hbel2
          go_wp2_with fail
          refine (free_any l a c _ hrd3 (by omega)).mono ?_
          rintro e w4 ⟨rfl, rfl⟩
          go_wp2_with fail
          refine (same_any (takeL l n) (takeL l n) a2 a3 c2 c3 _ hr2 hr3 (by omega) (by omega)).mono ?_
          rintro e w5 ⟨rfl, hb5⟩
          have hrd5 := hrd3.below hb5
          have hbel5 := below_next hbel3 hb5
          clear hr2 hr3 hrd3 hb5 hbel3
          rw [beq_self_eq_true]
          go_wp2_with fail
          refine (hold_any l a c k n _ hle hnil hrd5 (by omega)).mono ?_
          rintro e w6 ⟨v6, rfl, ho6, hb6⟩
          have hrd6 := hrd5.below hb6
          have hbel6 := below_next hbel5 hb6
          go_wp2_with fail
          refine (rhold_any l a c k n _ hle hrd6 (by omega)).mono ?_
          rintro e w7 ⟨v7, rfl, ho7, hb7⟩
          have ho6' := ho6.below hb7
          have hbel7 := below_next hbel6 hb7
          have hhl := holdL_len l k n (by omega)
          obtain ⟨a6, c6, rfl, hle6, hmx6, hnil6, hr6⟩ := ho6'.rd
          obtain ⟨a7, c7, rfl, hle7, hmx7, hnil7, hr7⟩ := ho7.rd
          clear ho6 ho6' ho7 hrd5 hrd6 hb6 hb7 hbel5 hbel6
          go_wp2_with fail
          refine (same_any (holdL l k n) (holdL l k n) a6 a7 c6 c7 _ hr6 hr7 (by omega) (by omega)).mono ?_
          rintro e w8 ⟨rfl, hb8⟩
          rw [beq_self_eq_true]
          go_wp2
          go_ret
          exact ⟨rfl, below_next hbel7 hb8⟩
    · have n2 : 0 ≤ n := by omega
      have n3 : ¬ n ≤ 60 := by omega
      clear hn
      go_wp2
      go_loopw [56, 9] (fun i u wr => ∃ j : Nat, j ≤ l.length ∧ i = .int .i64 j ∧ u = .int .i64 ((l.take j).countP isZ) ∧ wr = W) (fun i _ _ => l.length - (intOf i).toNat)
      case atStart => exact ⟨0, Nat.zero_le _, rfl, rfl, rfl⟩
      case round =>
        obtain ⟨j, hj, rfl, rfl, rfl⟩ := hrel
        have hle' : (l.take j).countP isZ ≤ j := Nat.le_trans List.countP_le_length (by simp; omega)
        by_cases hlt : j < l.length
        · obtain ⟨b, off, rfl, hc⟩ := elem_at hrdW j hlt
          have hct := count_take hlt
          by_cases hz : l[j] = 0
          · have hbk : isZ l[j] = true := by simp [isZ, hz]
            rw [hz] at hc
            rw [hbk] at hct
            go_wp2
            go_roundw
            case rel => exact ⟨j + 1, by omega, by go_num, by rw [hct]; rfl, trivial⟩
            case measure => simp [intOf]; omega
          · have hbk : isZ l[j] = false := by simp [isZ, hz]
            have hz' : (l[j] == (0 : Int)) = false := by simp; omega
            rw [hbk] at hct
            go_wp2
            go_roundw
            case rel => exact ⟨j + 1, by omega, by go_num, by rw [hct]; simp, trivial⟩
            case measure => simp [intOf]; omega
        · have : j = l.length := by omega
          subst this
          rw [List.take_length]
          go_wp2_with fail
          refine (take_any l a c n _ hle hnil hrdW (by omega)).mono ?_
          rintro e w2 ⟨v2, rfl, ho2, hb2⟩
          have hrd2 := hrdW.below hb2
          have hbel2 := below_next hbel hb2
          go_wp2_with fail
          refine (rtake_any l a c n _ hle hrd2 (by omega)).mono ?_
          rintro e w3 ⟨v3, rfl, ho3, hb3⟩
          have ho2' := ho2.below hb3
          have hrd3 := hrd2.below hb3
          have hbel3 := below_next hbel2 hb3
          have htl := takeL_len l n (by omega)
          obtain ⟨a2, c2, rfl, hle2, hmx2, hnil2, hr2⟩ := ho2'.rd
          obtain ⟨a3, c3, rfl, hle3, hmx3, hnil3, hr3⟩ := ho3.rd
          clear ho2 ho2' ho3 hrd2 hb2 hb3 hrdW hbel hbel2
          go_wp2_with fail
          refine (free_any l a c _ hrd3 (by omega)).mono ?_
          rintro e w4 ⟨rfl, rfl⟩
          go_wp2_with fail
          refine (same_any (takeL l n) (takeL l n) a2 a3 c2 c3 _ hr2 hr3 (by omega) (by omega)).mono ?_
          rintro e w5 ⟨rfl, hb5⟩
          have hrd5 := hrd3.below hb5
          have hbel5 := below_next hbel3 hb5
          clear hr2 hr3 hrd3 hb5 hbel3
          rw [beq_self_eq_true]
          go_wp2_with fail
          refine (hold_any l a c k n _ hle hnil hrd5 (by omega)).mono ?_
          rintro e w6 ⟨v6, rfl, ho6, hb6⟩
          have hrd6 := hrd5.below hb6
          have hbel6 := below_next hbel5 hb6
          go_wp2_with fail
          refine (rhold_any l a c k n _ hle hrd6 (by omega)).mono ?_
          rintro e w7 ⟨v7, rfl, ho7, hb7⟩
          have ho6' := ho6.below hb7
          have hbel7 := below_next hbel6 hb7
          have hhl := holdL_len l k n (by omega)
          obtain ⟨a6, c6, rfl, hle6, hmx6, hnil6, hr6⟩ := ho6'.rd
          obtain ⟨a7, c7, rfl, hle7, hmx7, hnil7, hr7⟩ := ho7.rd
          clear ho6 ho6' ho7 hrd5 hrd6 hb6 hb7 hbel5 hbel6
          go_wp2_with fail
          refine (same_any (holdL l k n) (holdL l k n) a6 a7 c6 c7 _ hr6 hr7 (by omega) (by omega)).mono ?_
          rintro e w8 ⟨rfl, hb8⟩
          rw [beq_self_eq_true]
          go_wp2
          go_ret
          exact ⟨rfl, below_next hbel7 hb8⟩
end Go.Proofs.Ytohbfjbcfibhcaa
