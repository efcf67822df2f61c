/- The laws AreasBack, AreasSplit, AreasTwice, AreasRoom, walked. -/
import Derived.Test.YtmdnmknmniabeaaAr8
import Derived.Test.YtmdnmknmniabeaaAr12
namespace Go.Proofs.Ytmdnmknmniabeaa
open Go.RowKit Pw
set_option linter.unusedSimpArgs false
set_option linter.unusedVariables false

set_option maxHeartbeats 4000000 in
set_option maxRecDepth 100000 in
theorem areas_back (l : List Ar) (x : Ar) (a : Option Addr) (c : Nat) (w : World) (h : AsR w a c l) :
    Calls Try.prog 10 #[.slice a l.length c, .agg (arC x)] w fun r w' => r = .returned (.bool true) ∧ Below w.heap.size w w' := by
  have hlc := Nat.le_trans h.le h.mx
  unfold maxLen at hlc
  go_enter Try.func10, Try.ntmps10
  go_upto_region 1 with (fail)
  refine abs1 (fun W => Code.wp _ _ _ _ W) fun W0 hb0 hx0 hs0 => ?_
  clear hs0
  go_wp2_with fail
  refine (aalive_any _).mono ?_
  rintro r w1 ⟨rfl, hb1⟩
  have hbel1 := below_next hb0 hb1
  have hx1 := hx0.ext hb1
  clear hb0 hx0 hb1
  go_wp2_with (refine wpList_ldg _ _ rfl _ 0 rfl rfl _ hx1.rd _ Try.underlying66 rfl area_size ?_)
  refine (map_any l x a c _ (h.below hbel1)).mono ?_
  rintro r w2 ⟨v2, rfl, hO2, hb2⟩
  have hbel2 := below_next hbel1 hb2
  have hx2 := hx1.ext hb2
  obtain ⟨a2, c2, rfl, hR2⟩ := AsR.of hO2
  clear hbel1 hx1 hb2 hO2
  by_cases h0 : mapE l x = 0
  · have hbk := Lib.hid (back_law h0)
    have hfx := areaE_few (map_zero h0).2.1
    obtain ⟨⟨_, f2, f3⟩, f4, _⟩ := hfx
    have hwr : IntKind.i64.wrap (x.en - x.fr) = x.en - x.fr := IntWalk.i64_in _ (by omega)
    have hcx := hx2.cell
    unfold arC at hcx
    rw [h0]
    clear h0
    go_wp2_with fail
    refine (unmap_any (mapL l x) x.fr (x.en - x.fr) a2 c2 _ hR2 (by omega)).mono ?_
    rintro r w3 ⟨v3, rfl, hO3, hb3⟩
    have hbel3 := below_next hbel2 hb3
    have hR3 := hR2.below hb3
    obtain ⟨a3, c3, rfl, hS3⟩ := AsR.of hO3
    clear hbel2 hR2 hb3 hO3 hcx hx2
    go_wp2_with fail
    refine (awrong_any (mapL l x) a2 c2 _ hR3.rd (Nat.le_trans (Nat.le_trans hR3.le hR3.mx) (by decide))).mono ?_
    rintro r w4 ⟨rfl, hb4⟩
    have hbel4 := below_next hbel3 hb4
    have hS4 := hS3.below hb4
    clear hbel3 hR3 hb4 hS3
    unfold fauC
    rw [hbk.out.1]
    have hfl := fau_err 0 (wrongA (mapL l x)).2
    rcases hbk.out.2 with h4 | ⟨h4, h5⟩
    · rw [h4]
      clear h4
      go_wp2
      go_ret
      exact ⟨rfl, hbel4⟩
    · rw [h4]
      have h5' := Lib.hid h5
      clear h4 h5
      go_wp2_with fail
      refine (asame_any (unmL (mapL l x) x.fr (x.en - x.fr)) l a3 a c3 c _ hS4 (h.below hbel4)).mono ?_
      rintro r w5 ⟨rfl, hb5⟩
      rw [h5'.out, sameA_self]
      have hbel5 := below_next hbel4 hb5
      clear hbel4 hb5
      go_wp2
      go_ret
      exact ⟨rfl, hbel5⟩
  · have hml : Hid (mapL l x = []) := Lib.hid (map_err rfl h0).2
    have h0' : (mapE l x != 0) = true := by simpa using h0
    clear h0
    rw [hml.out]
    go_wp2
    go_ret
    exact ⟨rfl, hbel2⟩
set_option maxHeartbeats 4000000 in
set_option maxRecDepth 100000 in
theorem areas_twice (l : List Ar) (s n : Int) (pr pw : Bool) (a : Option Addr) (c : Nat) (w : World) (h : AsR w a c l) (hs64 : -9223372036854775808 ≤ s ∧ s ≤ 9223372036854775807) :
    Calls Try.prog 12 #[.slice a l.length c, .int .i64 s, .int .i64 n, .bool pr, .bool pw] w fun r w' => r = .returned (.bool true) ∧ Below w.heap.size w w' := by
  have hlc := Nat.le_trans h.le h.mx
  unfold maxLen at hlc
  go_enter Try.func12, Try.ntmps12
  go_wp2_with fail
  refine (aalive_any _).mono ?_
  rintro r w1 ⟨rfl, hb1⟩
  go_wp2_with fail
  refine (protect_any l s n pr pw a c _ (h.below hb1) hs64).mono ?_
  rintro r w2 ⟨v2, rfl, hO2, hb2⟩
  have hbel2 := below_next hb1 hb2
  obtain ⟨a2, c2, rfl, hR2⟩ := AsR.of hO2
  clear hb1 hb2 hO2
  by_cases h0 : proE l s n pr pw = 0
  · have H0 := Lib.hid h0
    have hsm := Lib.hid (twice_same h0)
    have hri := Lib.hid (pro_right h0)
    rw [h0]
    clear h0
    go_wp2_with fail
    refine (protect_any (proL l s n pr pw) s n pr pw a2 c2 _ hR2 hs64).mono ?_
    rintro r w3 ⟨v3, rfl, hO3, hb3⟩
    rw [hsm.out.1]
    obtain ⟨a3, c3, rfl, hR3⟩ := AsR.of hO3
    rw [hsm.out.2] at hR3 ⊢
    have hbel3 := below_next hbel2 hb3
    have hQ3 := hR2.below hb3
    clear hbel2 hR2 hb3 hO3
    go_wp2_with fail
    refine (protect_any (proL l s n pr pw) s n (!pr) (!pw) a2 c2 _ hQ3 hs64).mono ?_
    rintro r w4 ⟨v4, rfl, hO4, hb4⟩
    obtain ⟨a4, c4, rfl, hR4⟩ := AsR.of hO4
    have hbel4 := below_next hbel3 hb4
    have hQ4 := hQ3.below hb4
    have hT4 := hR3.below hb4
    clear hbel3 hQ3 hR3 hb4 hO4
    go_wp2_with fail
    refine (protect_any l s n (!pr) (!pw) a c _ (h.below hbel4) hs64).mono ?_
    rintro r w5 ⟨v5, rfl, hO5, hb5⟩
    obtain ⟨a5, c5, rfl, hR5⟩ := AsR.of hO5
    have hbel5 := below_next hbel4 hb5
    have hQ5 := hQ4.below hb5
    have hT5 := hT4.below hb5
    have hU5 := hR4.below hb5
    clear hbel4 hQ4 hT4 hR4 hb5 hO5
    go_wp2_with fail
    refine (asame_any (proL l s n pr pw) (proL l s n pr pw) a2 a3 c2 c3 _ hQ5 hT5).mono ?_
    rintro r w6 ⟨rfl, hb6⟩
    rw [sameA_self]
    have hbel6 := below_next hbel5 hb6
    have hQ6 := hQ5.below hb6
    have hU6 := hU5.below hb6
    have hV6 := hR5.below hb6
    clear hbel5 hQ5 hT5 hU5 hR5 hb6
    go_wp2_with fail
    refine (awrong_any (proL l s n pr pw) a2 c2 _ hQ6.rd (Nat.le_trans (Nat.le_trans hQ6.le hQ6.mx) (by decide))).mono ?_
    rintro r w7 ⟨rfl, hb7⟩
    unfold fauC
    rw [wrongA_iff.2 ⟨hri.out.1, hri.out.2.1⟩]
    have hfl := fau_err 0 (wrongA (proL l s n pr pw)).2
    have hbel7 := below_next hbel6 hb7
    have hU7 := hU6.below hb7
    have hV7 := hV6.below hb7
    clear hbel6 hQ6 hU6 hV6 hb7
    generalize hz : proE (proL l s n pr pw) s n (!pr) (!pw) = Z
    by_cases hu : proE l s n (!pr) (!pw) = Z
    · rw [hu]
      by_cases hZ : Z = 0
      · subst hZ
        have hq := Lib.hid (twice_not H0.out (!pr) (!pw) hu)
        clear hz hu
        go_wp2_with fail
        refine (asame_any (proL (proL l s n pr pw) s n (!pr) (!pw)) (proL l s n (!pr) (!pw)) a4 a5 c4 c5 _ hU7 hV7).mono ?_
        rintro r w8 ⟨rfl, hb8⟩
        rw [hq.out, sameA_self]
        have hbel8 := below_next hbel7 hb8
        clear hbel7 hb8
        go_wp2
        go_ret
        exact ⟨rfl, hbel8⟩
      · have hZ' : (Z != 0) = true := by simpa using hZ
        clear hz hu hZ
        go_wp2
        go_ret
        exact ⟨rfl, hbel7⟩
    · generalize proE l s n (!pr) (!pw) = Y at *
      have hne : (Z != Y) = true := by simpa using (fun e => hu (Eq.symm e))
      clear hz hu
      go_wp2
      go_ret
      exact ⟨rfl, hbel7⟩
  · have h0' : (proE l s n pr pw != 0) = true := by simpa using h0
    clear h0
    go_wp2
    go_ret
    exact ⟨rfl, hbel2⟩
set_option maxHeartbeats 4000000 in
set_option maxRecDepth 100000 in
theorem areas_split (l : List Ar) (s n k : Int) (pr pw : Bool) (a : Option Addr) (c : Nat) (w : World) (h : AsR w a c l) :
    Calls Try.prog 11 #[.slice a l.length c, .int .i64 s, .int .i64 n, .int .i64 k, .bool pr, .bool pw] w fun r w' => r = .returned (.bool true) ∧ Below w.heap.size w w' := by
  have hlc := Nat.le_trans h.le h.mx
  unfold maxLen at hlc
  go_enter Try.func11, Try.ntmps11
  go_wp2_with fail
  refine (aalive_any _).mono ?_
  rintro r w1 ⟨rfl, hb1⟩
  by_cases g1 : n < 2
  · skip
    go_wp2
    go_ret
    exact ⟨rfl, hb1⟩
  · by_cases g2 : 64 < n
    · skip
      go_wp2
      go_ret
      exact ⟨rfl, hb1⟩
    · by_cases g3 : k < 1
      · skip
        go_wp2
        go_ret
        exact ⟨rfl, hb1⟩
      · by_cases g4 : n ≤ k
        · skip
          go_wp2
          go_ret
          exact ⟨rfl, hb1⟩
        · by_cases g5 : s < 0
          · skip
            go_wp2
            go_ret
            exact ⟨rfl, hb1⟩
          · by_cases g6 : 64 < s
            · skip
              go_wp2
              go_ret
              exact ⟨rfl, hb1⟩
            · have hkn : 1 ≤ k ∧ k < n := by omega
              have hw1 : IntKind.i64.wrap (s + k) = s + k := IntWalk.i64_in _ (by omega)
              have hw2 : IntKind.i64.wrap (n - k) = n - k := IntWalk.i64_in _ (by omega)
              go_wp2_with fail
              refine (unmap_any l s n a c _ (h.below hb1) (by omega)).mono ?_
              rintro r w2 ⟨v2, rfl, hO2, hb2⟩
              obtain ⟨a2, c2, rfl, hR2⟩ := AsR.of hO2
              have hbel2 := below_next hb1 hb2
              clear hb1 hb2 hO2
              go_wp2_with fail
              refine (unmap_any l s k a c _ (h.below hbel2) (by omega)).mono ?_
              rintro r w3 ⟨v3, rfl, hO3, hb3⟩
              obtain ⟨a3, c3, rfl, hR3⟩ := AsR.of hO3
              have hbel3 := below_next hbel2 hb3
              have hQ3 := hR2.below hb3
              clear hbel2 hR2 hb3 hO3
              by_cases e0 : unmE l s n = 0
              · by_cases e1 : unmE l s k = 0
                · have hsu := Lib.hid (split_unm hkn e0 e1)
                  rw [e0, e1]
                  clear e0 e1
                  go_wp2_with fail
                  refine (unmap_any (unmL l s k) (s + k) (n - k) a3 c3 _ hR3 (by omega)).mono ?_
                  rintro r w4 ⟨v4, rfl, hO4, hb4⟩
                  obtain ⟨a4, c4, rfl, hR4⟩ := AsR.of hO4
                  have hbel4 := below_next hbel3 hb4
                  have hQ4 := hQ3.below hb4
                  rw [hsu.out.1]
                  clear hbel3 hQ3 hR3 hb4 hO4
                  go_wp2_with fail
                  refine (asame_any (unmL l s n) (unmL (unmL l s k) (s + k) (n - k)) a2 a4 c2 c4 _ hQ4 hR4).mono ?_
                  rintro r w9 ⟨rfl, hb9⟩
                  rw [← hsu.out.2, sameA_self]
                  have hbel9 := below_next hbel4 hb9
                  clear hbel4 hQ4 hR4 hb9 hsu
                  go_wp2_with fail
                  refine (protect_any l s n pr pw a c _ (h.below hbel9) (by omega)).mono ?_
                  rintro r w5 ⟨v5, rfl, hO5, hb5⟩
                  obtain ⟨a5, c5, rfl, hR5⟩ := AsR.of hO5
                  have hbel5 := below_next hbel9 hb5
                  clear hbel9 hb5 hO5
                  go_wp2_with fail
                  refine (protect_any l s k pr pw a c _ (h.below hbel5) (by omega)).mono ?_
                  rintro r w6 ⟨v6, rfl, hO6, hb6⟩
                  obtain ⟨a6, c6, rfl, hR6⟩ := AsR.of hO6
                  have hbel6 := below_next hbel5 hb6
                  have hQ6 := hR5.below hb6
                  clear hbel5 hR5 hb6 hO6
                  by_cases p0 : proE l s n pr pw = 0
                  · by_cases p1 : proE l s k pr pw = 0
                    · have hsp := Lib.hid (split_pro hkn p0 p1)
                      rw [p0, p1]
                      clear p0 p1
                      go_wp2_with fail
                      refine (protect_any (proL l s k pr pw) (s + k) (n - k) pr pw a6 c6 _ hR6 (by omega)).mono ?_
                      rintro r w7 ⟨v7, rfl, hO7, hb7⟩
                      obtain ⟨a7, c7, rfl, hR7⟩ := AsR.of hO7
                      have hbel7 := below_next hbel6 hb7
                      have hQ7 := hQ6.below hb7
                      rw [hsp.out.1]
                      clear hbel6 hQ6 hR6 hb7 hO7
                      go_wp2_with fail
                      refine (asame_any (proL l s n pr pw) (proL (proL l s k pr pw) (s + k) (n - k) pr pw) a5 a7 c5 c7 _ hQ7 hR7).mono ?_
                      rintro r w8 ⟨rfl, hb8⟩
                      rw [← hsp.out.2, sameA_self]
                      have hbel8 := below_next hbel7 hb8
                      clear hbel7 hb8
                      go_wp2
                      go_ret
                      exact ⟨rfl, hbel8⟩
                    · have p1' : (proE l s k pr pw != 0) = true := by simpa using p1
                      rw [p0]
                      clear p0 p1
                      go_wp2
                      go_ret
                      exact ⟨rfl, hbel6⟩
                  · have p0' : (proE l s n pr pw != 0) = true := by simpa using p0
                    clear p0
                    go_wp2
                    go_ret
                    exact ⟨rfl, hbel6⟩
                · have e1' : (unmE l s k == 0) = false := by simpa using e1
                  rw [e0]
                  clear e0 e1 hQ3 hR3
                  go_wp2_with fail
                  refine (protect_any l s n pr pw a c _ (h.below hbel3) (by omega)).mono ?_
                  rintro r w5 ⟨v5, rfl, hO5, hb5⟩
                  obtain ⟨a5, c5, rfl, hR5⟩ := AsR.of hO5
                  have hbel5 := below_next hbel3 hb5
                  clear hbel3 hb5 hO5
                  go_wp2_with fail
                  refine (protect_any l s k pr pw a c _ (h.below hbel5) (by omega)).mono ?_
                  rintro r w6 ⟨v6, rfl, hO6, hb6⟩
                  obtain ⟨a6, c6, rfl, hR6⟩ := AsR.of hO6
                  have hbel6 := below_next hbel5 hb6
                  have hQ6 := hR5.below hb6
                  clear hbel5 hR5 hb6 hO6
                  by_cases p0 : proE l s n pr pw = 0
                  · by_cases p1 : proE l s k pr pw = 0
                    · have hsp := Lib.hid (split_pro hkn p0 p1)
                      rw [p0, p1]
                      clear p0 p1
                      go_wp2_with fail
                      refine (protect_any (proL l s k pr pw) (s + k) (n - k) pr pw a6 c6 _ hR6 (by omega)).mono ?_
                      rintro r w7 ⟨v7, rfl, hO7, hb7⟩
                      obtain ⟨a7, c7, rfl, hR7⟩ := AsR.of hO7
                      have hbel7 := below_next hbel6 hb7
                      have hQ7 := hQ6.below hb7
                      rw [hsp.out.1]
                      clear hbel6 hQ6 hR6 hb7 hO7
                      go_wp2_with fail
                      refine (asame_any (proL l s n pr pw) (proL (proL l s k pr pw) (s + k) (n - k) pr pw) a5 a7 c5 c7 _ hQ7 hR7).mono ?_
                      rintro r w8 ⟨rfl, hb8⟩
                      rw [← hsp.out.2, sameA_self]
                      have hbel8 := below_next hbel7 hb8
                      clear hbel7 hb8
                      go_wp2
                      go_ret
                      exact ⟨rfl, hbel8⟩
                    · have p1' : (proE l s k pr pw != 0) = true := by simpa using p1
                      rw [p0]
                      clear p0 p1
                      go_wp2
                      go_ret
                      exact ⟨rfl, hbel6⟩
                  · have p0' : (proE l s n pr pw != 0) = true := by simpa using p0
                    clear p0
                    go_wp2
                    go_ret
                    exact ⟨rfl, hbel6⟩
              · have e0' : (unmE l s n == 0) = false := by simpa using e0
                clear e0 hQ3 hR3
                go_wp2_with fail
                refine (protect_any l s n pr pw a c _ (h.below hbel3) (by omega)).mono ?_
                rintro r w5 ⟨v5, rfl, hO5, hb5⟩
                obtain ⟨a5, c5, rfl, hR5⟩ := AsR.of hO5
                have hbel5 := below_next hbel3 hb5
                clear hbel3 hb5 hO5
                go_wp2_with fail
                refine (protect_any l s k pr pw a c _ (h.below hbel5) (by omega)).mono ?_
                rintro r w6 ⟨v6, rfl, hO6, hb6⟩
                obtain ⟨a6, c6, rfl, hR6⟩ := AsR.of hO6
                have hbel6 := below_next hbel5 hb6
                have hQ6 := hR5.below hb6
                clear hbel5 hR5 hb6 hO6
                by_cases p0 : proE l s n pr pw = 0
                · by_cases p1 : proE l s k pr pw = 0
                  · have hsp := Lib.hid (split_pro hkn p0 p1)
                    rw [p0, p1]
                    clear p0 p1
                    go_wp2_with fail
                    refine (protect_any (proL l s k pr pw) (s + k) (n - k) pr pw a6 c6 _ hR6 (by omega)).mono ?_
                    rintro r w7 ⟨v7, rfl, hO7, hb7⟩
                    obtain ⟨a7, c7, rfl, hR7⟩ := AsR.of hO7
                    have hbel7 := below_next hbel6 hb7
                    have hQ7 := hQ6.below hb7
                    rw [hsp.out.1]
                    clear hbel6 hQ6 hR6 hb7 hO7
                    go_wp2_with fail
                    refine (asame_any (proL l s n pr pw) (proL (proL l s k pr pw) (s + k) (n - k) pr pw) a5 a7 c5 c7 _ hQ7 hR7).mono ?_
                    rintro r w8 ⟨rfl, hb8⟩
                    rw [← hsp.out.2, sameA_self]
                    have hbel8 := below_next hbel7 hb8
                    clear hbel7 hb8
                    go_wp2
                    go_ret
                    exact ⟨rfl, hbel8⟩
                  · have p1' : (proE l s k pr pw != 0) = true := by simpa using p1
                    rw [p0]
                    clear p0 p1
                    go_wp2
                    go_ret
                    exact ⟨rfl, hbel6⟩
                · have p0' : (proE l s n pr pw != 0) = true := by simpa using p0
                  clear p0
                  go_wp2
                  go_ret
                  exact ⟨rfl, hbel6⟩
set_option maxHeartbeats 4000000 in
set_option maxRecDepth 100000 in
theorem areas_room (l : List Ar) (n : Int) (a : Option Addr) (c : Nat) (w : World) (h : AsR w a c l) :
    Calls Try.prog 13 #[.slice a l.length c, .int .i64 n] w fun r w' => r = .returned (.bool true) ∧ Below w.heap.size w w' := by
  have hlc := Nat.le_trans h.le h.mx
  unfold maxLen at hlc
  go_enter Try.func13, Try.ntmps13
  go_wp2_with fail
  refine (aalive_any _).mono ?_
  rintro r w1 ⟨rfl, hb1⟩
  go_wp2_with fail
  refine (awrong_any l a c _ (h.below hb1).rd hlc).mono ?_
  rintro r w2 ⟨rfl, hb2⟩
  have hbel2 := below_next hb1 hb2
  clear hb1 hb2
  unfold fauC
  by_cases hw : (wrongA l).1 = 0
  · have hw0 := Lib.hid hw
    have hall := wrong_all hw
    have hfew : ∀ x ∈ l, arFew x := fun x hx => (areaE_few (hall.2 x hx)).1
    have hl16 := hall.1
    have hfl := fau_err 0 (wrongA l).2
    rw [hw]
    clear hw hall
    by_cases g1 : n < 1
    · go_wp2
      go_ret
      exact ⟨rfl, hbel2⟩
    · by_cases g2 : 64 < n
      · go_wp2
        go_ret
        exact ⟨rfl, hbel2⟩
      · go_wp2_with fail
        refine (room_any l n a c _ (h.below hbel2).rd (by omega) hfew).mono ?_
        rintro r w3 ⟨rfl, hb3⟩
        have hbel3 := below_next hbel2 hb3
        clear hbel2 hb3
        have hrl := Lib.hid (fun k hk => room_law hw0.out (n := n) (k := k) (by omega) hk)
        have hbd := room_bound (n := n) hw0.out
        generalize roomA l n = R at *
        have hw1 : IntKind.i64.wrap (64 - n) = 64 - n := IntWalk.i64_in _ (by omega)
        have hw2 : IntKind.i64.wrap (64 - n + 1) = 64 - n + 1 := IntWalk.i64_in _ (by omega)
        go_upto_region 7 with (fail)
        go_loopw [30] (fun i wr => ∃ k : Nat, (k : Int) ≤ 64 - n + 1 ∧ i = .int .i64 k ∧ Below w.heap.size w wr ∧ (0 ≤ R → (k : Int) ≤ R)) (fun i _ => (65 - intOf i).toNat)
        case atStart => exact ⟨0, by omega, rfl, hbel3, fun h => h⟩
        case round =>
          clear hbel3
          obtain ⟨k, hk, rfl, hbr, hkR⟩ := hrel
          by_cases hlt : (k : Int) < 64 - n + 1
          · have hwk : IntKind.i64.wrap ((k : Int) + n) = (k : Int) + n := IntWalk.i64_in _ (by omega)
            go_wp2_with fail
            refine (map_any l (holeA k n) a c _ (h.below hbr)).mono ?_
            rintro r w4 ⟨v4, rfl, hO4, hb4⟩
            obtain ⟨a4, c4, rfl, _⟩ := AsR.of hO4
            have hbel4 := below_next hbr hb4
            have hrk := hrl.out k (by omega)
            clear hbr hO4 hb4
            by_cases h1 : 0 ≤ R
            · have hkR' := hkR h1
              by_cases h2 : (k : Int) = R
              · have hRk : R = (k : Int) := h2.symm
                subst hRk
                rcases hrk.1 rfl with h3 | h3
                · rw [h3]
                  clear h3 hrk hrl hbd hkR
                  go_wp2
                  go_ret
                  exact ⟨rfl, hbel4⟩
                · rw [h3]
                  clear h3 hrk hrl hbd hkR
                  go_wp2
                  go_ret
                  exact ⟨rfl, hbel4⟩
              · have h3 := hrk.2 (by omega)
                have h2' : ((k : Int) == R) = false := by simpa using h2
                have hlt2 : (k : Int) + 1 ≤ R := by omega
                rw [h3]
                clear h3 hrk hrl hbd hkR h2
                go_wp2
                go_roundw
                case rel => exact ⟨k + 1, by omega, by go_num, hbel4, fun _ => by omega⟩
                case measure => simp [intOf]; omega
            · have h3 := hrk.2 (by omega)
              rw [h3]
              clear h3 hrk hrl hbd hkR
              go_wp2
              go_roundw
              case rel => exact ⟨k + 1, by omega, by go_num, hbel4, fun h => by omega⟩
              case measure => simp [intOf]; omega
          · have hneg : R < 0 := by
              rcases hbd with h1 | h1
              · omega
              · have := hkR h1.1; omega
            clear hrl hbd hkR
            go_wp2
            go_ret
            exact ⟨rfl, hbr⟩
  · have hw' : ((wrongA l).1 != 0) = true := by simpa using hw
    have hfl := fau_err (wrongA l).1 (wrongA l).2
    clear hw
    go_wp2
    go_ret
    exact ⟨rfl, hbel2⟩
end Go.Proofs.Ytmdnmknmniabeaa
