/- The law AreasTells, walked. -/
import Derived.Test.YtmdnmknmniabeaaAr13
import Derived.Test.YtmdnmknmniabeaaAo8
import Derived.Test.YtmdnmknmniabeaaAo10
namespace Go.Proofs.Ytmdnmknmniabeaa
open Go.RowKit Pw
set_option linter.unusedSimpArgs false
set_option linter.unusedVariables false

theorem one_some (b r w h : Bool) (f p : Int) (W : World) : (Instr.field 77 (.agg #[.bool b, .bool r, .bool w, .bool h, .int .i64 f, .int .i64 p]) 0).run Try.prog W = .ok (.bool b) W := by
  simp [Instr.field, run_underlying Try.underlying77, go_sem, asAgg]
theorem find_at {l : List Ar} {n : Int} {p : Pg} (h : onA l n = some p) : ∃ (K : Nat) (hK : K < l.length), findA l n = K ∧ l[K].fr ≤ n ∧ n < l[K].en := by
  have h1 := (find_on l n).2 (by rw [h]; simp)
  unfold findA idx at h1 ⊢
  cases hq : l.findIdx? (inA n) with
  | none => rw [hq] at h1; exact absurd h1 (by decide)
  | some K =>
    obtain ⟨hK, hin, _⟩ := List.findIdx?_eq_some_iff_getElem.1 hq
    exact ⟨K, hK, rfl, (inA_iff.1 hin).1, (inA_iff.1 hin).2⟩
theorem find_no {l : List Ar} {n : Int} (h : onA l n = none) : findA l n < 0 := by
  have := (find_on l n).1
  by_cases c : 0 ≤ findA l n
  · exact absurd h (this c)
  · omega
set_option maxHeartbeats 4000000 in
set_option maxRecDepth 100000 in
theorem areas_tells (l : List Ar) (x : Ar) (s n : Int) (pr pw : Bool) (a : Option Addr) (c : Nat) (w : World) (h : AsR w a c l) (hs64 : -9223372036854775808 ≤ s ∧ s ≤ 9223372036854775807) :
    Calls Try.prog 9 #[.slice a l.length c, .agg (arC x), .int .i64 s, .int .i64 n, .bool pr, .bool pw] w fun r w' => r = .returned (.bool true) ∧ Below w.heap.size w w' := by
  have hlc := Nat.le_trans h.le h.mx
  unfold maxLen at hlc
  go_enter Try.func9, Try.ntmps9
  go_upto_region 1 with (fail)
  refine abs1 (fun W => Code.wp _ _ _ _ W) fun W0 hb0 hx0 hs0 => ?_
  clear hs0
  go_wp2_with fail
  refine (awrong_any l a c _ (h.below hb0).rd hlc).mono ?_
  rintro r w1 ⟨rfl, hb1⟩
  have hbel1 := below_next hb0 hb1
  have hx1 := hx0.ext hb1
  clear hb0 hx0 hb1
  go_wp2_with fail
  refine (rwrong_any l a c _ (h.below hbel1)).mono ?_
  rintro r w2 ⟨rfl, hb2⟩
  have hbel2 := below_next hbel1 hb2
  have hx2 := hx1.ext hb2
  clear hbel1 hx1 hb2
  unfold fauC
  go_wp2_with (refine wpList_ldg _ _ rfl _ 0 rfl rfl _ hx2.rd _ Try.underlying66 rfl area_size ?_)
  refine (map_any l x a c _ (h.below hbel2)).mono ?_
  rintro r w8 ⟨v8, rfl, hO8, hb8⟩
  obtain ⟨a8, c8, rfl, hR8⟩ := AsR.of hO8
  have hbel8 := below_next hbel2 hb8
  have hx8 := hx2.ext hb8
  clear hbel2 hb8 hO8 hx2
  go_wp2_with (refine wpList_ldg _ _ rfl _ 0 rfl rfl _ hx8.rd _ Try.underlying66 rfl area_size ?_)
  refine (rmap_any l x a c _ (h.below hbel8)).mono ?_
  rintro r w9 ⟨v9, rfl, hO9, hb9⟩
  obtain ⟨a9, c9, rfl, hR9⟩ := AsR.of hO9
  have hbel9 := below_next hbel8 hb9
  have hS8 := hR8.below hb9
  clear hbel8 hb9 hO9 hx8 hR8
  go_wp2_with fail
  refine (asame_any _ _ _ _ _ _ _ hS8 hR9).mono ?_
  rintro r w10 ⟨rfl, hb10⟩
  rw [sameA_self]
  have hbelA := below_next hbel9 hb10
  clear hbel9 hS8 hR9 hb10
  go_wp2_with fail
  refine (unmap_any l s n a c _ (h.below hbelA) hs64).mono ?_
  rintro r w8 ⟨v8, rfl, hO8, hb8⟩
  obtain ⟨a8, c8, rfl, hR8⟩ := AsR.of hO8
  have hbel8 := below_next hbelA hb8
  clear hbelA hb8 hO8
  go_wp2_with fail
  refine (runmap_any l s n a c _ (h.below hbel8) hs64).mono ?_
  rintro r w9 ⟨v9, rfl, hO9, hb9⟩
  obtain ⟨a9, c9, rfl, hR9⟩ := AsR.of hO9
  have hbel9 := below_next hbel8 hb9
  have hS8 := hR8.below hb9
  clear hbel8 hb9 hO9 hR8
  go_wp2_with fail
  refine (asame_any _ _ _ _ _ _ _ hS8 hR9).mono ?_
  rintro r w10 ⟨rfl, hb10⟩
  rw [sameA_self]
  have hbelB := below_next hbel9 hb10
  clear hbel9 hS8 hR9 hb10
  go_wp2_with fail
  refine (protect_any l s n pr pw a c _ (h.below hbelB) hs64).mono ?_
  rintro r w8 ⟨v8, rfl, hO8, hb8⟩
  obtain ⟨a8, c8, rfl, hR8⟩ := AsR.of hO8
  have hbel8 := below_next hbelB hb8
  clear hbelB hb8 hO8
  go_wp2_with fail
  refine (rprotect_any l s n pr pw a c _ (h.below hbel8) hs64).mono ?_
  rintro r w9 ⟨v9, rfl, hO9, hb9⟩
  obtain ⟨a9, c9, rfl, hR9⟩ := AsR.of hO9
  have hbel9 := below_next hbel8 hb9
  have hS8 := hR8.below hb9
  clear hbel8 hb9 hO9 hR8
  go_wp2_with fail
  refine (asame_any _ _ _ _ _ _ _ hS8 hR9).mono ?_
  rintro r w10 ⟨rfl, hb10⟩
  rw [sameA_self]
  have hbelC := below_next hbel9 hb10
  clear hbel9 hS8 hR9 hb10
  go_wp2_with fail
  refine (rwrong_any l a c _ (h.below hbelC)).mono ?_
  rintro r w11 ⟨rfl, hb11⟩
  have hbelD := below_next hbelC hb11
  clear hbelC hb11
  unfold fauC
  have hfl := fau_err (wrongA l).1 (wrongA l).2
  by_cases hw : (wrongA l).1 = 0
  · have hw0 := Lib.hid hw
    have hall := wrongA_iff.1 hw
    have hsr := okF_srt0 hall.2
    have hfew : ∀ x ∈ l, arFew x := fun x hx => (areaE_few (srtF_ok hsr x hx).1).1
    have hl16 := hall.1
    rw [hw] at hfl ⊢
    clear hw hall
    go_wp2_with fail
    refine (afind_any l s a c _ (h.below hbelD).rd hlc).mono ?_
    rintro r w12 ⟨rfl, hb12⟩
    have hbelE := below_next hbelD hb12
    clear hbelD hb12 hfl
    cases hon : onA l s with
    | none =>
      have hneg := find_no hon
      have hneg' : decide (0 ≤ findA l s) = false := decide_eq_false (by omega)
      have hneg2 : ¬ 0 ≤ findA l s := by omega
      by_cases s0 : s < 0
      · have s0' : ¬ 0 ≤ s := by omega
        go_wp2_with fail
        refine (room_any l n a c _ (h.below hbelE).rd (by omega) hfew).mono ?_
        rintro r w14 ⟨rfl, hb14⟩
        have hbelG := below_next hbelE hb14
        clear hbelE hb14
        go_wp2_with fail
        refine (rroom_any l n a c _ (h.below hbelG) hw0.out).mono ?_
        rintro r w15 ⟨rfl, hb15⟩
        have hbelH := below_next hbelG hb15
        clear hbelG hb15
        go_wp2
        go_ret
        exact ⟨rfl, hbelH⟩
      · by_cases s1 : s < 64
        · obtain ⟨S, rfl⟩ : ∃ S : Nat, s = (S : Int) := ⟨s.toNat, by omega⟩
          have hS : S < 64 := by omega
          have hS0 : (0 : Int) ≤ (S : Int) := by omega
          have hix := idx_one (onesF l) S hS none (by rw [onesF_on hsr]; exact hon)
          unfold oneC oR oW oH oF oP at hix
          have hfo := one_some false false false false 0 0
          simp only [Option.isSome] at hix
          clear hon
          go_wp2_with fail
          refine (ones_any l a c _ (h.below hbelE).rd (by omega) (fun x hx => (srtF_ok hsr x hx).1)).mono ?_
          rintro r w13 ⟨rfl, hb13⟩
          have hbelF := below_next hbelE hb13
          clear hbelE hb13
          go_wp2_with fail
          refine (room_any l n a c _ (h.below hbelF).rd (by omega) hfew).mono ?_
          rintro r w14 ⟨rfl, hb14⟩
          have hbelG := below_next hbelF hb14
          clear hbelF hb14
          go_wp2_with fail
          refine (rroom_any l n a c _ (h.below hbelG) hw0.out).mono ?_
          rintro r w15 ⟨rfl, hb15⟩
          have hbelH := below_next hbelG hb15
          clear hbelG hb15
          go_wp2
          go_ret
          exact ⟨rfl, hbelH⟩
        · have s1' : 64 ≤ s := by omega
          go_wp2_with fail
          refine (room_any l n a c _ (h.below hbelE).rd (by omega) hfew).mono ?_
          rintro r w14 ⟨rfl, hb14⟩
          have hbelG := below_next hbelE hb14
          clear hbelE hb14
          go_wp2_with fail
          refine (rroom_any l n a c _ (h.below hbelG) hw0.out).mono ?_
          rintro r w15 ⟨rfl, hb15⟩
          have hbelH := below_next hbelG hb15
          clear hbelG hb15
          go_wp2
          go_ret
          exact ⟨rfl, hbelH⟩
    | some p =>
      obtain ⟨K, hK, hfK, hf1, hf2⟩ := find_at hon
      have hrg := area_low (srtF_ok hsr l[K] (List.getElem_mem _)).1 (inA_iff.2 ⟨hf1, hf2⟩)
      obtain ⟨S, rfl⟩ : ∃ S : Nat, s = (S : Int) := ⟨s.toNat, by omega⟩
      have hS : S < 64 := by omega
      have hS0 : (0 : Int) ≤ (S : Int) := by omega
      have hix := idx_one (onesF l) S hS (some p) (by rw [onesF_on hsr]; exact hon)
      unfold oneC oR oW oH oF oP at hix
      have hfo := one_some true p.rd p.wr p.sh p.fi p.pg
      simp only [Option.isSome] at hix
      have hrg2 := hrg.2
      clear hon hrg
      rw [hfK]
      clear hfK
      go_wp2_with fail
      refine (ones_any l a c _ (h.below hbelE).rd (by omega) (fun x hx => (srtF_ok hsr x hx).1)).mono ?_
      rintro r w13 ⟨rfl, hb13⟩
      have hbelF := below_next hbelE hb13
      clear hbelE hb13
      go_wp2_with fail
      refine (room_any l n a c _ (h.below hbelF).rd (by omega) hfew).mono ?_
      rintro r w14 ⟨rfl, hb14⟩
      have hbelG := below_next hbelF hb14
      clear hbelF hb14
      go_wp2_with fail
      refine (rroom_any l n a c _ (h.below hbelG) hw0.out).mono ?_
      rintro r w15 ⟨rfl, hb15⟩
      have hbelH := below_next hbelG hb15
      clear hbelG hb15
      have hKi : (K : Int) < (l.length : Int) := by omega
      obtain ⟨b, off, rfl, c0, c1, c2, c3, c4, c5, c6⟩ := ar_at7 (h.rd.below hbelH) K hK
      go_wp2
      go_ret
      exact ⟨rfl, hbelH⟩
  · have hw' : ((wrongA l).1 != 0) = true := by simpa using hw
    clear hw
    go_wp2
    go_ret
    exact ⟨rfl, hbelD⟩
end Go.Proofs.Ytmdnmknmniabeaa
