/- The document's WrongTable, SameTable. -/
import Derived.Test.YtmdnmknmniabeaaTab8
namespace Go.Proofs.Ytmdnmknmniabeaa
open Go.RowKit Pw
set_option linter.unusedSimpArgs false
set_option linter.unusedVariables false

theorem anyN_iff {h : List En} {j c : Nat} (hj : j < h.length) (hc : c = 0 ↔ anyN h j = false) (h0 : 0 ≤ h[j].k) : ((0 < h[j].k) → (c + 1 = 0 ↔ anyN h (j + 1) = false)) ∧ (¬ 0 < h[j].k → (c = 0 ↔ anyN h (j + 1) = false)) := by
  rw [anyN_succ h j hj]
  constructor
  · intro hp
    have : decide (h[j].k ≠ 0) = true := by simp; omega
    simp [this]
  · intro hp
    have : decide (h[j].k ≠ 0) = false := by simp; omega
    simp [this, hc]
set_option maxHeartbeats 4000000 in
set_option maxRecDepth 100000 in
theorem rtwrong_any (t : Tb) (cs : Array Value) (w : World) (h : TbR w cs t) : Calls Try.prog 15 #[.agg cs] w fun r w' => r = .returned (.int .i64 (wrongT t)) ∧ Below w.heap.size w w' := by
  go_enter Try.func15, Try.ntmps15
  go_upto_region 1 with (fail)
  refine abs1 (fun W => Code.wp _ _ _ _ W) fun W0 hb0 hx0 hs0 => ?_
  clear hs0
  go_wp2_with (refine wpList_ld rfl 24 (.tmp 1) rfl w.heap.size 0 rfl cs.toList hx0.rd _ Try.underlying24 tab_agg (by rw [Array.length_toList, h.sz]; exact tab_size) ?_)
  clear hx0
  go_loopw [9] (fun i wr => ∃ k : Nat, k ≤ 8 ∧ i = .int .i64 k ∧ Below w.heap.size w wr ∧ ∀ i (hi : i < 8), i < k → halfE t[i] = 0) (fun i _ => 8 - (intOf i).toNat)
  case atStart => exact ⟨0, Nat.zero_le _, rfl, hb0, fun i _ h => absurd h (Nat.not_lt_zero _)⟩
  case round =>
    obtain ⟨k, hk, rfl, hbr, hp0⟩ := hrel
    have hp := Lib.hid hp0
    clear hp0 hb0
    by_cases hlt : k < 8
    · obtain ⟨a, c, hcs, hle, hmx, hnil, hrd⟩ := h.at' k hlt
      have hix := fun W => idx_tab hlt hcs W
      have hd8 : decide ((k : Int) < 8) = true := by simp; omega
      unfold maxLen at hmx
      clear hcs
      by_cases h08 : t[k].length = 0 ∨ t[k].length = 8
      · have H08 := Lib.hid h08
        have hl8 : t[k].length ≤ 8 := by omega
        have q1 : ((t[k].length : Int) != 0) = true ∧ ((t[k].length : Int) != 8) = false ∨ ((t[k].length : Int) != 0) = false ∧ ((t[k].length : Int) != 8) = true := by
          rcases h08 with e | e <;> simp [e]
        clear h08
        rcases q1 with ⟨q1, q2⟩ | ⟨q1, q2⟩
        all_goals
          go_wp2
          clear hix
          go_loopw [22, 5] (fun i s wr' => ∃ j c : Nat, j ≤ t[k].length ∧ c ≤ j ∧ i = .int .i64 j ∧ s = .int .i64 c ∧ Below w.heap.size w wr' ∧ Hid (c = 0 ↔ anyN t[k] j = false) ∧ ∀ i (hi : i < t[k].length), i < j → entE t[k][i] = 0) (fun i _ _ => t[k].length - (intOf i).toNat)
          case atStart => exact ⟨0, 0, Nat.zero_le _, Nat.le_refl _, rfl, rfl, hbr, Lib.hid (by simp [anyN_zero]), fun i _ h => absurd h (Nat.not_lt_zero _)⟩
          case round =>
            obtain ⟨j, n, hj, hnj, rfl, rfl, hbq, hn0, hq0⟩ := hrel
            have hq := Lib.hid hq0
            clear hq0 hbr
            by_cases hjl : j < t[k].length
            · obtain ⟨b, off, rfl, c0, c1, c2⟩ := en_at (hrd.below hbq) j hjl
              go_upto_region 10 with (fail)
              refine abs1 (fun W => Code.wp _ _ _ _ W) fun W3 hb3 hx3 hs3 => ?_
              have hbel3 := below_next hbq hb3
              have hx4 := hx3.cell
              have hfin : Hid (entE t[k][j] ≠ 0 → wrongT t = entE t[k][j]) := Lib.hid (fun he => (wrongT_at k hlt hp.out (by rw [halfE_at H08.out j hjl hq.out he]; exact he)).trans (halfE_at H08.out j hjl hq.out he))
              have hok : Hid (entE t[k][j] = 0 → ∀ i (hi : i < t[k].length), i < j + 1 → entE t[k][i] = 0) := Lib.hid (fun he => upto' hq.out hjl he)
              have hai : Hid (0 ≤ t[k][j].k → ((0 < t[k][j].k) → (n + 1 = 0 ↔ anyN t[k] (j + 1) = false)) ∧ (¬ 0 < t[k][j].k → (n = 0 ↔ anyN t[k] (j + 1) = false))) := Lib.hid (anyN_iff hjl hn0.out)
              clear hbq hs3 c0 c1 c2 hb3 hx3 hq hp hn0
              generalize t[k][j] = E at hx4 hfin hok hai
              go_wp2
              all_goals first
                | (go_ret
                   refine ⟨ret_int ?_, hbel3⟩
                   clear hx4 hok hai
                   go_light
                   have he : entE E ≠ 0 → wrongT t = entE E := hfin.out
                   clear hfin
                   unfold entE at he
                   simp_all <;> omega)
                | (have he : entE E = 0 := by
                     clear hx4 hok hai hfin
                     go_light
                     unfold entE
                     simp_all <;> omega
                   have hk0 : 0 ≤ E.k := by
                     clear hx4 hok hai hfin he
                     go_light
                     omega
                   have hq2 := Lib.hid (hok.out he)
                   have ha2 := Lib.hid (hai.out hk0)
                   clear hai hok hfin he hx4
                   have hkp : 0 < E.k := by
                     go_light
                     omega
                   have ha3 := Lib.hid (ha2.out.1 hkp)
                   clear ha2
                   go_roundw
                   case rel => exact ⟨j + 1, n + 1, by omega, by omega, by go_num, by go_num, hbel3, ha3, hq2.out⟩
                   case measure => simp [intOf]; omega)
                | (have he : entE E = 0 := by
                     clear hx4 hok hai hfin
                     go_light
                     unfold entE
                     simp_all <;> omega
                   have hk0 : 0 ≤ E.k := by
                     clear hx4 hok hai hfin he
                     go_light
                     omega
                   have hq2 := Lib.hid (hok.out he)
                   have ha2 := Lib.hid (hai.out hk0)
                   clear hai hok hfin he hx4
                   have hkp : ¬ 0 < E.k := by
                     go_light
                     omega
                   have ha3 := Lib.hid (ha2.out.2 hkp)
                   clear ha2
                   go_roundw
                   case rel => exact ⟨j + 1, n, by omega, by omega, by go_num, rfl, hbel3, ha3, hq2.out⟩
                   case measure => simp [intOf]; omega)
            · have hend := Lib.hid (halfE_end H08.out fun i hi => hq.out i hi (by omega))
              have hall := anyN_all t[k] j (by omega)
              by_cases hgo : t[k].length = 8 ∧ n = 0
              · obtain ⟨g1, g2⟩ := hgo
                have hfin2 := Lib.hid (hend.out.trans (if_pos ⟨by omega, by rw [← hall]; exact hn0.out.1 g2⟩))
                have hfin := Lib.hid (wrongT_at k hlt hp.out (by rw [hfin2.out]; decide))
                have g3 : ((t[k].length : Int) == 8) = true := by rw [beq_iff_eq]; omega
                subst g2
                clear hall g1
                go_wp2
                go_ret
                exact ⟨ret_int (hfin.out.trans hfin2.out).symm, hbq⟩
              · have hfin2 := Lib.hid (hend.out.trans (if_neg (fun h => hgo ⟨by have := H08.out; omega, hn0.out.2 (hall.trans h.2)⟩)))
                have hgo2 : ((t[k].length : Int) == 8) = false ∨ ((t[k].length : Int) == 8) = true ∧ ((n : Int) == 0) = false := by
                  by_cases hz : t[k].length = 8
                  · exact .inr ⟨by rw [beq_iff_eq]; omega, by rw [beq_eq_false_iff_ne]; omega⟩
                  · exact .inl (by rw [beq_eq_false_iff_ne]; omega)
                clear hgo hall
                rcases hgo2 with g1 | ⟨g1, g2⟩
                all_goals
                  go_wp2
                  go_roundw
                  case rel => exact ⟨k + 1, by omega, by go_num, hbq, upto' hp.out hlt hfin2.out⟩
                  case measure => simp [intOf]; omega
      · have q1 : ((t[k].length : Int) != 0) = true := by rw [bne_iff_ne]; omega
        have q2 : ((t[k].length : Int) != 8) = true := by rw [bne_iff_ne]; omega
        have hfin2 := Lib.hid (halfE_form (h := t[k]) (by omega))
        have hfin := Lib.hid (wrongT_at k hlt hp.out (by rw [hfin2.out]; decide))
        go_wp2
        go_ret
        exact ⟨ret_int (hfin.out.trans hfin2.out).symm, hbr⟩
    · have hfin := Lib.hid (wrongT_none fun i hi => hp.out i hi (by omega))
      go_wp2
      go_ret
      exact ⟨ret_int hfin.out.symm, hbr⟩
end Go.Proofs.Ytmdnmknmniabeaa
