/- The document's Unmap. -/
import Derived.Test.YtmdnmknmniabeaaAo6
namespace Go.Proofs.Ytmdnmknmniabeaa
open Go.RowKit Pw
set_option linter.unusedSimpArgs false
set_option linter.unusedVariables false

def cutF (s : Int) (K : Int) (f : Nat → Option Pg) : Nat → Option Pg := fun i => if s ≤ (i : Int) ∧ (i : Int) < K then none else f i
theorem cutF_start (s : Int) (f : Nat → Option Pg) : cutF s s f = f := by funext i; unfold cutF; rw [if_neg (by omega)]
theorem cutF_next {s : Int} {K : Nat} (hK : s ≤ (K : Int)) (f : Nat → Option Pg) : (fun i => if i = K then none else cutF s K f i) = cutF s ((K : Int) + 1) f := by
  funext i
  unfold cutF
  by_cases h : i = K
  · subst h; rw [if_pos rfl, if_pos (by omega)]
  · rw [if_neg h]
    by_cases c : s ≤ (i : Int) ∧ (i : Int) < K
    · rw [if_pos c, if_pos (by omega)]
    · rw [if_neg c, if_neg (by omega)]
theorem cutF_some {s K : Int} {f : Nat → Option Pg} {i : Nat} {p : Pg} (h : cutF s K f i = some p) : f i = some p := by
  unfold cutF at h
  split at h
  · cases h
  · exact h
theorem spanE_ne {s n : Int} (h : spanE s n ≠ 0) : spanE s n = 3 := by
  unfold spanE at h ⊢
  split
  · rfl
  · rename_i hn; rw [if_neg hn] at h; exact absurd rfl h
theorem zero384 (F : Nat → Option Pg) {cur : Array Value} (h : cur.size = 384) : (fC F).size = cur.size := by rw [fC_size, h]
set_option maxHeartbeats 4000000 in
set_option maxRecDepth 100000 in
theorem runmap_any (l : List Ar) (s n : Int) (a : Option Addr) (c : Nat) (w : World) (h : AsR w a c l) (hs64 : -9223372036854775808 ≤ s ∧ s ≤ 9223372036854775807) :
    Calls Try.prog 49 #[.slice a l.length c, .int .i64 s, .int .i64 n] w fun r w' => ∃ v, r = .returned (.tuple #[v, .int .i64 (unmE l s n)]) ∧ Own w' w.heap.size 66 7 v (unmL l s n).length ((unmL l s n).flatMap arL) ∧ Below w.heap.size w w' := by
  go_enter Try.func49, Try.ntmps49
  go_wp2_with fail
  refine (rwrong_any l a c _ h).mono ?_
  rintro r w1 ⟨rfl, hb1⟩
  unfold fauC
  go_wp2_with (refine wpList_stn rfl _ _ _ rfl #[.int .i64 (wrongA l).1, .int .i64 (wrongA l).2] rfl rfl rfl fau_size (fau_one _ _) ?_)
  intro w2 hb2 hf2
  have hbel := below_next hb1 hb2
  clear hb1 hb2
  by_cases hw : (wrongA l).1 = 0
  · have hall := wrongA_iff.1 hw
    have hw0 := Lib.hid hw
    have hsr := okF_srt0 hall.2
    rw [hw] at hf2
    have hcf := hf2.cell
    clear hw
    go_wp2_with fail
    refine (rspan_any s n _ hs64).mono ?_
    rintro r w3 ⟨rfl, rfl⟩
    by_cases he : spanE s n = 0
    · have he0 := Lib.hid he
      have hsp := span_iff.1 he
      rw [show decide (spanE s n = 0) = true from decide_eq_true he]
      clear he hcf hf2
      have hwr : IntKind.i64.wrap (s + n) = s + n := IntWalk.i64_in _ (by omega)
      go_wp2_with fail
      refine (ones_any l a c _ (h.below hbel).rd (by omega) (fun x hx => (srtF_ok hsr x hx).1)).mono ?_
      rintro r w4 ⟨rfl, hb4⟩
      have hbel4 := below_next hbel hb4
      have hfC := Lib.hid (fC_size (onesF l))
      clear hbel hb4
      go_upto_region 7 with (refine wpList_stn rfl _ _ _ rfl (fC (onesF l)) rfl rfl (by rw [fC_size]; rfl) (by rw [fC_size]; exact ones_size) (vsC_one _) ?_)
      intro w5 hb5 ho5
      have hbel5 := below_next hbel4 hb5
      have hgB := hbel4.size
      clear hbel4 hb5
      obtain ⟨go, hgo⟩ : ∃ g, g = w4.heap.size := ⟨_, rfl⟩
      rw [← hgo] at ho5 hgB ⊢
      clear hgo
      obtain ⟨S, hS0⟩ : ∃ S : Nat, s = (S : Int) := ⟨s.toNat, by omega⟩
      have hS := Lib.hid hS0
      clear hS0
      go_upto_region 8 with (fail)
      go_loopw [10] (fun i wr => ∃ K : Nat, s ≤ (K : Int) ∧ (K : Int) ≤ s + n ∧ i = .int .i64 K ∧ Below w.heap.size w wr ∧ Blk wr go (fC (cutF s K (onesF l))) 78) (fun i _ => (s + n - intOf i).toNat)
      case atStart => exact ⟨S, by have := hS.out; omega, by have := hS.out; omega, by rw [hS.out], hbel5, by rw [← hS.out, cutF_start]; exact ho5⟩
      case round =>
        clear hbel5 ho5
        obtain ⟨K, hK0, hK1, rfl, hbr, ho⟩ := hrel
        by_cases hlt : (K : Int) < s + n
        · have hK64 : K < 64 := by omega
          have hK64i : (K : Int) < 64 := by omega
          have hfit : Hid (K * 6 + 6 ≤ (fC (cutF s K (onesF l))).size) := Lib.hid (by rw [fC_size]; omega)
          have hset : Hid (putAt (fC (cutF s K (onesF l))) (K * 6) [.bool false, .bool false, .bool false, .bool false, .int .i64 0, .int .i64 0] = fC (cutF s ((K : Int) + 1) (onesF l))) := Lib.hid (by
            rw [← cutF_next hK0, ← fC_set _ K hK64]; rfl)
          go_upto_region 9 with (refine wpList_st rfl _ _ _ rfl go (K * 6) #[.bool false, .bool false, .bool false, .bool false, .int .i64 0, .int .i64 0] rfl rfl _ _ ho hfit.out one_size (by simp [Value.oneCell']) ?_)
          intro W2 ho2 hgr2
          have hbel2 : Below w.heap.size w W2 := hbr.grown hgr2 hbr.size (fun k hk => by cases hk; omega)
          have ho4 : Blk W2 go (fC (cutF s ((K : Int) + 1) (onesF l))) 78 := by rw [← hset.out]; exact ho2
          clear ho2 hgr2 hbr ho hset hfit
          go_wp2
          go_roundw
          case rel => exact ⟨K + 1, by omega, by omega, by go_num, hbel2, ho4⟩
          case measure => simp [intOf]; omega
        · have hKe := Lib.hid (show (K : Int) = s + n by omega)
          have hfin : Hid (unmE l s n = doneE (outU l s n).length) := Lib.hid (unm_val hall.1 hall.2 hsp)
          have hml : Hid (unmL l s n = if 16 < (outU l s n).length then [] else outU l s n) := Lib.hid (by
            unfold unmL
            rw [hfin.out]
            unfold doneE
            by_cases h16 : 16 < (outU l s n).length
            · rw [if_pos h16, if_pos h16]; rfl
            · rw [if_neg h16, if_neg h16]; rfl)
          have hs384 : Hid ((fC (cutF s K (onesF l))).size = 384) := Lib.hid (fC_size _)
          go_wp2_with (refine wpList_ldg _ _ rfl _ 0 rfl rfl _ ho.rd _ Try.underlying78 rfl (by rw [Array.length_toList, hs384.out]; exact ones_size) ?_)
          refine (few_any (cutF s K (onesF l)) (outU l s n) (outU_ok hsp.2.1 hall.2) (fun i hi => ?_) (fun i p hp => onesF_ok hsr i p (cutF_some hp)) _).mono ?_
          · rw [outU_on hall.2 hsp]
            unfold cutF
            rw [hKe.out, onesF_on hsr]
          · rintro r w6 ⟨v6, rfl, hO6, hb6⟩
            have hbel6 := below_next hbr hb6
            replace hO6 := hO6.mono hbr.size
            rw [← hml.out] at hO6
            rw [← hfin.out]
            clear hbr ho hb6 hml
            go_wp2
            go_ret2
            exact ⟨v6, rfl, hO6, hbel6⟩
    · have q0 : Hid _ := Lib.hid (unm_err (l := l) (s := s) (n := n) (e := 3) (by unfold unmE; rw [if_neg (by rw [hw0.out]; simp), if_pos he, spanE_ne he]) (by decide))
      rw [show decide (spanE s n = 0) = false from decide_eq_false he]
      clear he hall
      go_wp2
      go_ret2
      have q := q0.out
      exact ⟨.slice none 0 0, by first | (rw [q.1]; done) | (rw [q.1]; rfl), by rw [q.2]; exact Own.nil _ _ _ _, hbel⟩
  · have q0 : Hid _ := Lib.hid (unm_err (l := l) (s := s) (n := n) (e := (wrongA l).1) (by unfold unmE; rw [if_pos hw]) hw)
    have hw' : ((wrongA l).1 != 0) = true := by simpa using hw
    have hcf := hf2.cell
    clear hw
    go_upto_region 3 with (fail)
    go_quiet (fail)
    rename_i nq
    have hbel := below_drewN hbel nq
    go_wp2
    go_ret2
    have q := q0.out
    exact ⟨.slice none 0 0, by first | (rw [q.1]; done) | (rw [q.1]; rfl), by rw [q.2]; exact Own.nil _ _ _ _, hbel⟩
end Go.Proofs.Ytmdnmknmniabeaa
