/- The document's SameAreas; what pglaw7 asks first. -/
import Derived.Test.YtmdnmknmniabeaaAr7
namespace Go.Proofs.Ytmdnmknmniabeaa
open Go.RowKit Pw
set_option linter.unusedSimpArgs false
set_option linter.unusedVariables false

theorem ar_beq (f g : Ar) : (f == g) = (f.fr == g.fr && (f.en == g.en && (f.rd == g.rd && (f.wr == g.wr && (f.sh == g.sh && (f.fi == g.fi && f.ba == g.ba)))))) := by
  cases f; cases g
  rw [Bool.eq_iff_iff]
  simp
set_option maxHeartbeats 1000000 in
set_option maxRecDepth 100000 in
theorem eqAr (f g : Ar) (b : Bool) (h : (f == g) = b) (W : World) : (Op.equalIn 10000 66 (.agg #[.int .i64 f.fr, .int .i64 f.en, .bool f.rd, .bool f.wr, .bool f.sh, .int .i64 f.fi, .int .i64 f.ba]) (.agg #[.int .i64 g.fr, .int .i64 g.en, .bool g.rd, .bool g.wr, .bool g.sh, .int .i64 g.fi, .int .i64 g.ba])).run Try.prog W = .ok b W := by
  rw [← h, ar_beq]
  by_cases h1 : (f.fr == g.fr) = true
  · by_cases h2 : (f.en == g.en) = true
    · by_cases h3 : f.rd = g.rd
      · by_cases h4 : f.wr = g.wr
        · by_cases h5 : f.sh = g.sh
          · by_cases h6 : (f.fi == g.fi) = true
            · by_cases h7 : f.ba = g.ba <;> simp [go_sem, h1, h2, h3, h4, h5, h6, h7]
            · simp [go_sem, h1, h2, h3, h4, h5, h6]
          · simp [go_sem, h1, h2, h3, h4, h5]
        · simp [go_sem, h1, h2, h3, h4]
      · simp [go_sem, h1, h2, h3]
    · simp [go_sem, h1, h2]
  · simp [go_sem, h1]
def sameA (l m : List Ar) : Bool := decide (l = m)
theorem sameA_not {l m : List Ar} (k : Nat) (h : l[k]? ≠ m[k]?) : sameA l m = false := decide_eq_false fun e => h (by rw [e])
theorem sameA_all {l m : List Ar} (h1 : l.length = m.length) (h : ∀ i (hi : i < l.length), l[i] = m[i]'(by omega)) : sameA l m = true := decide_eq_true (List.ext_getElem h1 fun i hi _ => h i hi)
theorem sameA_self (l : List Ar) : sameA l l = true := decide_eq_true rfl
set_option maxHeartbeats 2000000 in
set_option maxRecDepth 100000 in
theorem asame_any (l m : List Ar) (a a' : Option Addr) (c c' : Nat) (w : World) (h : AsR w a c l) (h' : AsR w a' c' m) :
    Calls Try.prog 47 #[.slice a l.length c, .slice a' m.length c'] w fun r w' => r = .returned (.bool (sameA l m)) ∧ Below w.heap.size w w' := by
  have hlc := Nat.le_trans h.le h.mx
  have hlc' := Nat.le_trans h'.le h'.mx
  unfold maxLen at hlc hlc'
  go_enter Try.func47, Try.ntmps47
  by_cases hlm : l.length = m.length
  · have hlm' := Lib.hid hlm
    have hne : ((l.length : Int) != (m.length : Int)) = false := by simp [hlm]
    clear hlm
    go_upto_region 4 with (fail)
    go_loopw [13] (fun i wr => ∃ k : Nat, k ≤ l.length ∧ i = .int .i64 k ∧ Below w.heap.size w wr ∧ ∀ i (h : i < l.length), i < k → l[i] = m[i]'(by have := hlm'.out; omega)) (fun i _ => l.length - (intOf i).toNat)
    case atStart => exact ⟨0, Nat.zero_le _, rfl, Below.refl _ _, fun i _ h => absurd h (Nat.not_lt_zero _)⟩
    case round =>
      obtain ⟨k, hk, rfl, hbr, hp0⟩ := hrel
      have hp := Lib.hid hp0
      clear hp0
      by_cases hlt : k < l.length
      · have hlt' : k < m.length := by have := hlm'.out; omega
        obtain ⟨b, off, rfl, c0, c1, c2, c3, c4, c5, c6⟩ := ar_at7 (h.rd.below hbr) k hlt
        obtain ⟨b', off', rfl, d0, d1, d2, d3, d4, d5, d6⟩ := ar_at7 (h'.rd.below hbr) k hlt'
        have k1 : (k : Int) < (m.length : Int) := by omega
        by_cases he : l[k] = m[k]
        · have hE := eqAr l[k] m[k] true (beq_iff_eq.2 he)
          have hup := Lib.hid (upto2 hlm'.out hlt hp.out he)
          clear he
          go_upto_region 6 with (fail)
          go_quiet (fail)
          go_wp2
          go_roundw
          case rel => exact ⟨k + 1, by omega, by go_num, below_drewN hbr _, hup.out⟩
          case measure => simp [intOf]; omega
        · have hE := eqAr l[k] m[k] false (beq_eq_false_iff_ne.2 he)
          have hfin := Lib.hid (sameA_not (l := l) (m := m) k (by rw [List.getElem?_eq_getElem hlt, List.getElem?_eq_getElem hlt']; exact fun e => he (Option.some.inj e)))
          clear he
          go_upto_region 6 with (fail)
          go_quiet (fail)
          go_wp2
          go_ret
          exact ⟨ret_bool hfin.out.symm, below_drewN hbr _⟩
      · have hfin := Lib.hid (sameA_all hlm'.out fun i hi => hp.out i hi (by omega))
        go_wp2
        go_ret
        exact ⟨ret_bool hfin.out.symm, hbr⟩
  · have hne : ((l.length : Int) != (m.length : Int)) = true := by rw [bne_iff_ne]; omega
    have hfin : Hid (sameA l m = false) := Lib.hid (decide_eq_false fun e => hlm (by rw [e]))
    clear hlm
    go_wp2
    go_ret
    exact ⟨ret_bool hfin.out.symm, Below.refl _ _⟩
def aa : Ar := ⟨2, 8, true, false, false, -1, 0⟩
theorem aa_map : mapE [] aa = 0 ∧ mapL [] aa = [aa] := ⟨by decide +kernel, by kernel_rfl⟩
theorem aa_unm : unmE [aa] 4 1 = 0 ∧ (unmL [aa] 4 1).length = 2 := ⟨by decide +kernel, by decide +kernel⟩
theorem aa_pro : proE [aa] 2 2 true true = 0 ∧ (proL [aa] 2 2 true true).length = 2 := ⟨by decide +kernel, by decide +kernel⟩
theorem aa_find : findA [aa] 7 = 0 ∧ findA [aa] 8 = -1 := ⟨by decide +kernel, by decide +kernel⟩
theorem aa_room : roomA [aa] 3 = 8 := by decide +kernel
theorem aa_right : wrongA [aa] = (0, 0) := by decide +kernel
theorem asR_nil (w : World) : AsR w none 0 [] := ⟨Nat.le_refl _, Nat.zero_le _, fun _ => rfl, fun j u h => by simp at h⟩
theorem fau_err (x y : Int) (w : World) : (Instr.field 68 (.agg #[.int .i64 x, .int .i64 y]) 0).run Try.prog w = .ok (.int .i64 x) w := by
  simp [Instr.field, run_underlying Try.underlying68, go_sem, asAgg]
set_option maxHeartbeats 2000000 in
set_option maxRecDepth 100000 in
theorem aalive_any (w : World) : Calls Try.prog 56 #[] w fun r w' => r = .returned (.bool true) ∧ Below w.heap.size w w' := by
  go_enter Try.func56, Try.ntmps56
  go_wp2_with fail
  refine (map_any [] aa none 0 w (asR_nil w)).mono ?_
  rintro r w1 ⟨v1, rfl, hO1, hb1⟩
  rw [aa_map.1]
  rw [aa_map.2] at hO1
  obtain ⟨a1, c1, rfl, hR1⟩ := AsR.of hO1
  clear hO1
  go_wp2_with fail
  refine (unmap_any [aa] 4 1 a1 c1 w1 hR1 (by omega)).mono ?_
  rintro r w2 ⟨v2, rfl, hO2, hb2⟩
  rw [aa_unm.1]
  obtain ⟨a2, c2, rfl, _⟩ := AsR.of hO2
  rw [aa_unm.2]
  have hbel2 := below_next hb1 hb2
  have hR2 := hR1.below hb2
  clear hO2 hR1 hb1 hb2
  go_wp2_with fail
  refine (protect_any [aa] 2 2 true true a1 c1 w2 hR2 (by omega)).mono ?_
  rintro r w3 ⟨v3, rfl, hO3, hb3⟩
  rw [aa_pro.1]
  obtain ⟨a3, c3, rfl, _⟩ := AsR.of hO3
  rw [aa_pro.2]
  have hbel3 := below_next hbel2 hb3
  have hR3 := hR2.below hb3
  clear hO3 hR2 hbel2 hb3
  go_wp2_with fail
  refine (afind_any [aa] 7 a1 c1 w3 hR3.rd (by decide)).mono ?_
  rintro r w4 ⟨rfl, hb4⟩
  rw [aa_find.1]
  have hbel4 := below_next hbel3 hb4
  have hR4 := hR3.below hb4
  clear hR3 hbel3 hb4
  go_wp2_with fail
  refine (afind_any [aa] 8 a1 c1 w4 hR4.rd (by decide)).mono ?_
  rintro r w5 ⟨rfl, hb5⟩
  rw [aa_find.2]
  have hbel5 := below_next hbel4 hb5
  have hR5 := hR4.below hb5
  clear hR4 hbel4 hb5
  go_wp2_with fail
  refine (room_any [aa] 3 a1 c1 w5 hR5.rd (by decide) (by unfold aa arFew; simp)).mono ?_
  rintro r w6 ⟨rfl, hb6⟩
  rw [aa_room]
  have hbel6 := below_next hbel5 hb6
  have hR6 := hR5.below hb6
  clear hR5 hbel5 hb6
  go_wp2_with fail
  refine (awrong_any [aa] a1 c1 w6 hR6.rd (by decide)).mono ?_
  rintro r w7 ⟨rfl, hb7⟩
  rw [show fauC (wrongA [aa]) = #[.int .i64 0, .int .i64 0] from by rw [aa_right]; rfl]
  have hbel7 := below_next hbel6 hb7
  have hfl := fau_err 0 0
  go_wp2
  go_ret
  exact ⟨rfl, hbel7⟩
end Go.Proofs.Ytmdnmknmniabeaa
