/- The document's Protect. -/
import Derived.Test.YtmdnmknmniabeaaAo7
namespace Go.Proofs.Ytmdnmknmniabeaa
open Go.RowKit Pw
set_option linter.unusedSimpArgs false
set_option linter.unusedVariables false

def rwF (s K : Int) (rd wr : Bool) (f : Nat → Option Pg) : Nat → Option Pg := fun i => if s ≤ (i : Int) ∧ (i : Int) < K then (f i).map (setPg rd wr) else f i
theorem rwF_start (s : Int) (rd wr : Bool) (f : Nat → Option Pg) : rwF s s rd wr f = f := by funext i; unfold rwF; rw [if_neg (by omega)]
theorem rwF_next {s : Int} {K : Nat} (hK : s ≤ (K : Int)) (rd wr : Bool) (f : Nat → Option Pg) : (fun i => if i = K then (f K).map (setPg rd wr) else rwF s K rd wr f i) = rwF s ((K : Int) + 1) rd wr f := by
  funext i
  unfold rwF
  by_cases h : i = K
  · subst h; rw [if_pos rfl, if_pos (by omega)]
  · rw [if_neg h]
    by_cases c : s ≤ (i : Int) ∧ (i : Int) < K
    · rw [if_pos c, if_pos (by omega)]
    · rw [if_neg c, if_neg (by omega)]
theorem rwF_at (s : Int) (K : Nat) (rd wr : Bool) (f : Nat → Option Pg) : rwF s K rd wr f K = f K := by unfold rwF; rw [if_neg (by omega)]
theorem rwF_some {s K : Int} {rd wr : Bool} {f : Nat → Option Pg} {i : Nat} {p : Pg} (h : rwF s K rd wr f i = some p) : ∃ q, f i = some q ∧ q.pg = p.pg := by
  unfold rwF at h
  split at h
  · obtain ⟨q, h1, h2⟩ := Option.map_eq_some_iff.1 h
    exact ⟨q, h1, by rw [← h2]; rfl⟩
  · exact ⟨p, h, rfl⟩
theorem put_two (cur : Array Value) (o : Nat) (a b c d e f b' c' : Value) (h0 : cur[o]? = some a) (h3 : cur[o + 3]? = some d) (h4 : cur[o + 4]? = some e) (h5 : cur[o + 5]? = some f) : putAt (putAt cur (o + 1) [b']) (o + 2) [c'] = putAt cur o [a, b', c', d, e, f] := by
  have hl : o + 5 < cur.size := (Array.getElem?_eq_some_iff.1 h5).1
  apply Array.ext_getElem?
  intro i
  by_cases k : o ≤ i ∧ i < o + 6
  · obtain ⟨j, rfl⟩ : ∃ j, i = o + j := ⟨i - o, by omega⟩
    have hr : ∀ u, [a, b', c', d, e, f][j]? = some u → (putAt cur o [a, b', c', d, e, f])[o + j]? = some u := fun u hu => putAt_in _ _ _ j u (by simp; omega) hu
    match j, k with
    | 0, _ => rw [hr a rfl, putAt_out _ _ _ _ (by simp), putAt_out _ _ _ _ (by simp)]; exact h0
    | 1, _ => rw [hr b' rfl, putAt_out _ _ _ _ (by simp)]; exact putAt_in [b'] cur (o + 1) 0 b' (by simp; omega) rfl
    | 2, _ => rw [hr c' rfl]; exact putAt_in [c'] _ (o + 2) 0 c' (by rw [size_putAt]; simp; omega) rfl
    | 3, _ => rw [hr d rfl, putAt_out _ _ _ _ (by simp), putAt_out _ _ _ _ (by simp)]; exact h3
    | 4, _ => rw [hr e rfl, putAt_out _ _ _ _ (by simp), putAt_out _ _ _ _ (by simp)]; exact h4
    | 5, _ => rw [hr f rfl, putAt_out _ _ _ _ (by simp), putAt_out _ _ _ _ (by simp)]; exact h5
    | n + 6, k => omega
  · rw [putAt_out _ _ _ _ (by simp; omega), putAt_out _ _ _ _ (by simp; omega), putAt_out _ _ _ _ (by simp; omega)]
set_option maxHeartbeats 4000000 in
set_option maxRecDepth 100000 in
theorem rprotect_any (l : List Ar) (s n : Int) (pr pw : Bool) (a : Option Addr) (c : Nat) (w : World) (h : AsR w a c l) (hs64 : -9223372036854775808 ≤ s ∧ s ≤ 9223372036854775807) :
    Calls Try.prog 51 #[.slice a l.length c, .int .i64 s, .int .i64 n, .bool pr, .bool pw] w fun r w' => ∃ v, r = .returned (.tuple #[v, .int .i64 (proE l s n pr pw)]) ∧ Own w' w.heap.size 66 7 v (proL l s n pr pw).length ((proL l s n pr pw).flatMap arL) ∧ Below w.heap.size w w' := by
  go_enter Try.func51, Try.ntmps51
  go_wp2_with fail
  refine (rwrong_any l a c _ h).mono ?_
  rintro r w1 ⟨rfl, hb1⟩
  unfold fauC
  go_wp2_with (refine wpList_stn rfl _ _ _ rfl #[.int .i64 (wrongA l).1, .int .i64 (wrongA l).2] rfl rfl rfl fau_size (fau_one _ _) ?_)
  intro w2 hb2 hf2
  have hbel := below_next hb1 hb2
  clear hb1 hb2
  by_cases hw : (wrongA l).1 = 0
  · have hall := wrongA_iff.1 hw
    have hw0 := Lib.hid hw
    have hsr := okF_srt0 hall.2
    rw [hw] at hf2
    have hcf := hf2.cell
    clear hw
    go_wp2_with fail
    refine (rspan_any s n _ hs64).mono ?_
    rintro r w3 ⟨rfl, rfl⟩
    by_cases he : spanE s n = 0
    · have he0 := Lib.hid he
      have hsp := span_iff.1 he
      rw [show decide (spanE s n = 0) = true from decide_eq_true he]
      clear he hcf hf2
      have hwr : IntKind.i64.wrap (s + n) = s + n := IntWalk.i64_in _ (by omega)
      go_wp2_with fail
      refine (ones_any l a c _ (h.below hbel).rd (by omega) (fun x hx => (srtF_ok hsr x hx).1)).mono ?_
      rintro r w4 ⟨rfl, hb4⟩
      have hbel4 := below_next hbel hb4
      have hfC := Lib.hid (fC_size (onesF l))
      clear hbel hb4
      go_upto_region 7 with (refine wpList_stn rfl _ _ _ rfl (fC (onesF l)) rfl rfl (by rw [fC_size]; rfl) (by rw [fC_size]; exact ones_size) (vsC_one _) ?_)
      intro w5 hb5 ho5
      have hbel5 := below_next hbel4 hb5
      have hgB := hbel4.size
      clear hbel4 hb5
      obtain ⟨go, hgo⟩ : ∃ g, g = w4.heap.size := ⟨_, rfl⟩
      rw [← hgo] at ho5 hgB ⊢
      clear hgo
      obtain ⟨S, hS0⟩ : ∃ S : Nat, s = (S : Int) := ⟨s.toNat, by omega⟩
      have hS := Lib.hid hS0
      clear hS0
      go_upto_region 8 with (fail)
      go_loopw [14] (fun i wr => ∃ K : Nat, s ≤ (K : Int) ∧ (K : Int) ≤ s + n ∧ i = .int .i64 K ∧ Below w.heap.size w wr ∧ Blk wr go (fC (rwF s K pr pw (onesF l))) 78 ∧ ∀ k : Int, s ≤ k → k < K → onA l k ≠ none) (fun i _ => (s + n - intOf i).toNat)
      case atStart => exact ⟨S, by have := hS.out; omega, by have := hS.out; omega, by rw [hS.out], hbel5, by rw [← hS.out, rwF_start]; exact ho5, fun k h1 h2 => by have := hS.out; omega⟩
      case round =>
        clear hbel5 ho5
        obtain ⟨K, hK0, hK1, rfl, hbr, ho, hnn0⟩ := hrel
        have hnn := Lib.hid hnn0
        clear hnn0
        by_cases hlt : (K : Int) < s + n
        · have hK64 : K < 64 := by omega
          have hK64i : (K : Int) < 64 := by omega
          have hfit : Hid (K * 6 + 6 ≤ (fC (rwF s K pr pw (onesF l))).size) := Lib.hid (by rw [fC_size]; omega)
          have hat : rwF s K pr pw (onesF l) K = onA l K := by rw [rwF_at, onesF_on hsr]
          have hcell : ∀ j u, (oneL (onA l K))[j]? = some u → j < 6 → wr.cell? ⟨go, K * 6 + j, none⟩ = some u := fun j u hu hj => by rw [ho.cell]; exact fC_cell _ K j hK64 u (by rw [hat]; exact hu) hj
          cases hon : onA l (K : Int) with
          | none =>
            rw [hon] at hcell
            have d0 := hcell 0 _ rfl (by decide)
            simp only [Nat.add_zero, Option.isSome] at d0
            have q0 : Hid _ := Lib.hid (pro_err (l := l) (s := s) (n := n) (rd := pr) (wr := pw) (e := 5) (by
              unfold proE
              rw [if_neg (by rw [hw0.out]; simp), if_neg (by rw [he0.out]; simp), if_pos ?_]
              cases hq : noneP l s n
              · exact absurd hon (noneP_iff.1 hq K hK0 hlt)
              · rfl) (by decide))
            have hbel := hbr
            clear hcell hat hfit hon
            go_wp2
            go_ret2
            have q := q0.out
            exact ⟨.slice none 0 0, by first | (rw [q.1]; done) | (rw [q.1]; rfl), by rw [q.2]; exact Own.nil _ _ _ _, hbel⟩
          | some p =>
            rw [hon] at hcell
            have d0 := hcell 0 _ rfl (by decide)
            simp only [Nat.add_zero, Option.isSome] at d0
            have hset : Hid (putAt (putAt (fC (rwF s K pr pw (onesF l))) (K * 6 + 1) [.bool pr]) (K * 6 + 2) [.bool pw] = fC (rwF s ((K : Int) + 1) pr pw (onesF l))) := Lib.hid (by
              rw [put_two _ _ _ (.bool p.rd) (.bool p.wr) _ _ _ _ _ (fC_cell _ K 0 hK64 (.bool true) (by rw [hat, hon]; rfl) (by decide)) (fC_cell _ K 3 hK64 (.bool p.sh) (by rw [hat, hon]; rfl) (by decide)) (fC_cell _ K 4 hK64 (.int .i64 p.fi) (by rw [hat, hon]; rfl) (by decide)) (fC_cell _ K 5 hK64 (.int .i64 p.pg) (by rw [hat, hon]; rfl) (by decide)),
                ← rwF_next hK0, ← fC_set _ K hK64, onesF_on hsr, hon]; rfl)
            have hup : Hid (∀ k : Int, s ≤ k → k < ((K : Int) + 1) → onA l k ≠ none) := Lib.hid (fun k h1 h2 => by
              by_cases hk : k = (K : Int)
              · rw [hk, hon]; simp
              · exact hnn.out k h1 (by omega))
            clear hcell hat hon
            go_upto_region 9 with (refine wpList_stv rfl _ _ _ rfl go (K * 6 + 1) (.bool pr) [.bool pr] rfl rfl rfl _ _ ho (by have := hfit.out; simp; omega) bool_size1 (by simp [Value.oneCell']) ?_)
            intro W2 ho2 hgr2
            have hbel2 : Below w.heap.size w W2 := hbr.grown hgr2 hbr.size (fun k hk => by cases hk; omega)
            clear hbr ho hgr2 d0
            go_upto_region 9 with (refine wpList_stv rfl _ _ _ rfl go (K * 6 + 2) (.bool pw) [.bool pw] rfl rfl rfl _ _ ho2 (by have := hfit.out; rw [size_putAt]; simp; omega) bool_size1 (by simp [Value.oneCell']) ?_)
            intro W3 ho3 hgr3
            have hbel3 : Below w.heap.size w W3 := hbel2.grown hgr3 hbel2.size (fun k hk => by cases hk; omega)
            have ho4 : Blk W3 go (fC (rwF s ((K : Int) + 1) pr pw (onesF l))) 78 := by rw [← hset.out]; exact ho3
            clear ho2 hgr3 hbel2 ho3 hset hfit
            go_wp2
            go_roundw
            case rel => exact ⟨K + 1, by omega, by omega, by go_num, hbel3, ho4, fun k h1 h2 => hup.out k h1 (by omega)⟩
            case measure => simp [intOf]; omega
        · have hKe := Lib.hid (show (K : Int) = s + n by omega)
          have hnp : noneP l s n = false := noneP_iff.2 (fun k h1 h2 => hnn.out k h1 (by have := hKe.out; omega))
          have hsrP := outP_srt hall.2 hsp pr pw
          have hfin : Hid (proE l s n pr pw = doneE (tidyL (outP l s n pr pw)).length) := Lib.hid (pro_val hall.1 hall.2 hsp hnp)
          have hml : Hid (proL l s n pr pw = if 16 < (tidyL (outP l s n pr pw)).length then [] else tidyL (outP l s n pr pw)) := Lib.hid (by
            unfold proL
            rw [hfin.out]
            unfold doneE
            by_cases h16 : 16 < (tidyL (outP l s n pr pw)).length
            · rw [if_pos h16, if_pos h16]; rfl
            · rw [if_neg h16, if_neg h16]; rfl)
          have hs384 : Hid ((fC (rwF s K pr pw (onesF l))).size = 384) := Lib.hid (fC_size _)
          go_wp2_with (refine wpList_ldg _ _ rfl _ 0 rfl rfl _ ho.rd _ Try.underlying78 rfl (by rw [Array.length_toList, hs384.out]; exact ones_size) ?_)
          refine (few_any (rwF s K pr pw (onesF l)) (tidyL (outP l s n pr pw)) (tidy_ok hsrP) (fun i hi => ?_) (fun i p hp => by obtain ⟨q, h1, h2⟩ := rwF_some hp; rw [← h2]; exact onesF_ok hsr i q h1) _).mono ?_
          · rw [tidy_on hsrP, outP_on hall.2 hsp]
            unfold rwF
            rw [hKe.out, onesF_on hsr]
          · rintro r w6 ⟨v6, rfl, hO6, hb6⟩
            have hbel6 := below_next hbr hb6
            replace hO6 := hO6.mono hbr.size
            rw [← hml.out] at hO6
            rw [← hfin.out]
            clear hbr ho hb6 hml
            go_wp2
            go_ret2
            exact ⟨v6, rfl, hO6, hbel6⟩
    · have q0 : Hid _ := Lib.hid (pro_err (l := l) (s := s) (n := n) (rd := pr) (wr := pw) (e := 3) (by unfold proE; rw [if_neg (by rw [hw0.out]; simp), if_pos he, spanE_ne he]) (by decide))
      rw [show decide (spanE s n = 0) = false from decide_eq_false he]
      clear he hall
      go_wp2
      go_ret2
      have q := q0.out
      exact ⟨.slice none 0 0, by first | (rw [q.1]; done) | (rw [q.1]; rfl), by rw [q.2]; exact Own.nil _ _ _ _, hbel⟩
  · have q0 : Hid _ := Lib.hid (pro_err (l := l) (s := s) (n := n) (rd := pr) (wr := pw) (e := (wrongA l).1) (by unfold proE; rw [if_pos hw]) hw)
    have hw' : ((wrongA l).1 != 0) = true := by simpa using hw
    have hcf := hf2.cell
    clear hw
    go_upto_region 3 with (fail)
    go_quiet (fail)
    rename_i nq
    have hbel := below_drewN hbel nq
    go_wp2
    go_ret2
    have q := q0.out
    exact ⟨.slice none 0 0, by first | (rw [q.1]; done) | (rw [q.1]; rfl), by rw [q.2]; exact Own.nil _ _ _ _, hbel⟩
end Go.Proofs.Ytmdnmknmniabeaa
