/- Package table's Get. -/
import Derived.Test.YtmdnmknmniabeaaTab2
namespace Go.Proofs.Ytmdnmknmniabeaa
open Go.RowKit Pw
set_option linter.unusedSimpArgs false
set_option linter.unusedVariables false

def getT (t : Tb) (n : Int) : En := if h : 0 ≤ n ∧ n < 64 then (if (t[n.toNat / 8]'(by omega)).length = 8 then (t[n.toNat / 8]'(by omega)).getD (n.toNat % 8) zEn else zEn) else zEn
theorem getT_out {t : Tb} {n : Int} (h : n < 0 ∨ 64 ≤ n) : getT t n = zEn := by unfold getT; rw [dif_neg (by omega)]
theorem getT_in {t : Tb} {q r : Nat} (hq : q < 8) (hr : r < 8) : getT t ((8 * q + r : Nat) : Int) = if t[q].length = 8 then t[q].getD r zEn else zEn := by
  unfold getT
  rw [dif_pos (by omega)]
  have e1 : (((8 * q + r : Nat) : Int).toNat / 8) = q := by rw [Int.toNat_natCast]; omega
  have e2 : (((8 * q + r : Nat) : Int).toNat % 8) = r := by rw [Int.toNat_natCast]; omega
  simp only [e1, e2]
/-- A number below 64: which half, and which entry. -/
theorem split64 {n : Int} (h : 0 ≤ n ∧ n < 64) : ∃ q r : Nat, q < 8 ∧ r < 8 ∧ n = ((8 * q + r : Nat) : Int) ∧ n / 8 = (q : Int) ∧ n % 8 = (r : Int) := by
  refine ⟨(n / 8).toNat, (n % 8).toNat, by omega, by omega, by omega, by omega, by omega⟩
theorem entry_size : (Try.prog.info? 26).map (·.size) = some 3 := by kernel_rfl
theorem en_get {w : World} {a : Option Addr} {l : List En} (h : RdV w a (l.flatMap enL)) (k : Nat) (hk : k < l.length) : ∃ b off E, a = some ⟨b, off, none⟩ ∧ l[k]? = some E ∧ w.cell? ⟨b, off + k * 3, none⟩ = some (.int .i64 E.k) ∧ w.cell? ⟨b, off + k * 3 + 1, none⟩ = some (.int .i64 E.n) ∧ w.cell? ⟨b, off + k * 3 + 2, none⟩ = some (.bool E.w) := by
  obtain ⟨b, off, ha, h0, h1, h2⟩ := en_at h k hk
  exact ⟨b, off, l[k], ha, List.getElem?_eq_getElem hk, h0, h1, h2⟩
set_option maxHeartbeats 2000000 in
set_option maxRecDepth 100000 in
theorem tget_any (t : Tb) (cs : Array Value) (n : Int) (w : World) (h : TbR w cs t) : Calls Try.prog 21 #[.agg cs, .int .i64 n] w fun r w' => r = .returned (.agg (enC (getT t n))) ∧ Below w.heap.size w w' := by
  by_cases hn : 0 ≤ n ∧ n < 64
  · obtain ⟨q, r, hq, hr, hnn, hdq, hdr⟩ := split64 hn
    have hg := getT_in (t := t) hq hr
    rw [← hnn] at hg
    have HG := Lib.hid hg
    have HN := Lib.hid hnn
    obtain ⟨n0, n1⟩ := hn
    have hn0 : decide (n < 0) = false := by simp; omega
    have hn1 : decide (64 ≤ n) = false := by simp; omega
    obtain ⟨a, c, hcs, hle, hmx, hnil, hrd⟩ := h.at' q hq
    unfold maxLen at hmx
    clear hg hnn
    go_enter Try.func21, Try.ntmps21
    go_upto_region 1 with (fail)
    refine abs2 (fun W => Code.wp _ _ _ _ W) fun W0 hb0 hx0 hres0 hs0 => ?_
    clear hs0
    have hc0 := (hx0.cell q).trans hcs
    have hrd0 := hrd.below hb0
    have hq' : (q : Int) < 8 := by omega
    by_cases h8 : t[q].length = 8
    · obtain ⟨b, off, E, rfl, hE, c0, c1, c2⟩ := en_get hrd0 r (by omega)
      have hfin : getT t n = E := by rw [HG.out, if_pos h8, List.getD_eq_getElem?_getD, hE]; rfl
      have HF := Lib.hid hfin
      have hr' : (r : Int) < 8 := by omega
      rw [h8] at hc0
      clear h8 hcs hE h hfin
      go_wp2_with (refine wpList_stw rfl _ (.tmp 4) (.tmp 27) rfl (w.heap.size + 1) (enC E) rfl rfl _ _ hres0 rfl entry_size (enC_one _) ?_)
      all_goals
        intro w5 hr5 hgr5
        have hbel5 : Below w.heap.size w w5 := hb0.grown hgr5 hb0.size (fun k hk => by cases hk; omega)
        go_wp2
        refine bodyPost_ret (v := .agg (enC E)) (results_cell_row Try.results21 _ _ (w.heap.size + 1) _ _ _ _ rfl hr5 Try.underlying26 rfl entry_size) rfl ?_
        exact ⟨by rw [HF.out], hbel5⟩
    · have hne : ((t[q].length : Int) != 8) = true := by rw [bne_iff_ne]; omega
      have hfin : getT t n = zEn := by rw [HG.out, if_neg h8]
      have HF := Lib.hid hfin
      clear hfin
      go_wp2_with (refine wpList_stw rfl _ (.tmp 4) (.tmp 19) rfl (w.heap.size + 1) (enC zEn) rfl rfl _ _ hres0 rfl entry_size (enC_one _) ?_)
      all_goals
        intro w5 hr5 hgr5
        have hbel5 : Below w.heap.size w w5 := hb0.grown hgr5 hb0.size (fun k hk => by cases hk; omega)
        go_wp2
        refine bodyPost_ret (v := .agg (enC zEn)) (results_cell_row Try.results21 _ _ (w.heap.size + 1) _ _ _ _ rfl hr5 Try.underlying26 rfl entry_size) rfl ?_
        exact ⟨by rw [HF.out], hbel5⟩
  · have hfin : getT t n = zEn := getT_out (by omega)
    have HF := Lib.hid hfin
    have hn' : n < 0 ∨ 64 ≤ n := by omega
    clear hfin hn
    go_enter Try.func21, Try.ntmps21
    go_upto_region 1 with (fail)
    refine abs2 (fun W => Code.wp _ _ _ _ W) fun W0 hb0 hx0 hres0 hs0 => ?_
    clear hs0
    by_cases hn0 : n < 0
    · skip
      go_wp2_with (refine wpList_stw rfl _ (.tmp 4) (.tmp 19) rfl (w.heap.size + 1) (enC zEn) rfl rfl _ _ hres0 rfl entry_size (enC_one _) ?_)
      all_goals
        intro w5 hr5 hgr5
        have hbel5 : Below w.heap.size w w5 := hb0.grown hgr5 hb0.size (fun k hk => by cases hk; omega)
        go_wp2
        refine bodyPost_ret (v := .agg (enC zEn)) (results_cell_row Try.results21 _ _ (w.heap.size + 1) _ _ _ _ rfl hr5 Try.underlying26 rfl entry_size) rfl ?_
        exact ⟨by rw [HF.out], hbel5⟩
    · have hn1 : 64 ≤ n := by omega
      have hn0' : decide (n < 0) = false := by simp; omega
      go_wp2_with (refine wpList_stw rfl _ (.tmp 4) (.tmp 19) rfl (w.heap.size + 1) (enC zEn) rfl rfl _ _ hres0 rfl entry_size (enC_one _) ?_)
      all_goals
        intro w5 hr5 hgr5
        have hbel5 : Below w.heap.size w w5 := hb0.grown hgr5 hb0.size (fun k hk => by cases hk; omega)
        go_wp2
        refine bodyPost_ret (v := .agg (enC zEn)) (results_cell_row Try.results21 _ _ (w.heap.size + 1) _ _ _ _ rfl hr5 Try.underlying26 rfl entry_size) rfl ?_
        exact ⟨by rw [HF.out], hbel5⟩
end Go.Proofs.Ytmdnmknmniabeaa
