/- What the document's NextFrame does. -/
import Derived.Test.YtohbfjbcfibhcaaFrame14
namespace Go.Proofs.Ytohbfjbcfibhcaa
open Go.RowKit Pw
set_option linter.unusedSimpArgs false
set_option linter.unusedVariables false

def someR (l : List Fr) : Bool := l.any (fun f => decide (0 < f.r))
theorem someR_take (l : List Fr) (k : Nat) (hk : k < l.length) : someR (l.take (k + 1)) = (someR (l.take k) || decide (0 < l[k].r)) := by
  unfold someR
  rw [List.take_add_one, List.getElem?_eq_getElem hk, Option.toList, List.any_append]
  simp
theorem someR_free {m : Mem} (hw : wrongM m = 0) : someR m.fs = !decide (freeN m.fs = m.fs.length) := by
  obtain ⟨_, hall, _, _⟩ := (wrongM_iff m).1 hw
  rw [Bool.eq_iff_iff]
  simp only [someR, List.any_eq_true, decide_eq_true_eq, Bool.not_eq_true', decide_eq_false_iff_not, free_full]
  constructor
  · rintro ⟨f, hf, h⟩ h2
    have := h2 f hf
    omega
  · intro h
    obtain ⟨f, hff⟩ := Classical.not_forall.1 h
    obtain ⟨hm, hr⟩ := Classical.not_imp.1 hff
    have := ((frameE_iff f).1 (hall f hm)).1.1
    exact ⟨f, hm, by omega⟩
theorem unused_same {f : Fr} (h : f.u = false) : unused f = f := by
  cases f
  simp only at h
  subst h
  rfl
theorem clr_stop (m : Mem) (s : Nat) (h : 0 < m.fs.length) (hu : ((clrM m s)[idxM m s]'(by rw [clr_len]; exact idx_lt h s)).u = false) : clrM m (s + 1) = clrM m s := by
  rw [← clr_succ m s h, unused_same hu, List.set_getElem_self]

theorem mrd_nil (w : World) : MRd w none 0 ⟨[], 0⟩ := ⟨Nat.le_refl _, by unfold maxLen; omega, fun _ => rfl, fun i u h => by simp at h⟩
set_option maxHeartbeats 4000000 in
set_option maxRecDepth 100000 in
theorem rmnext_any (m : Mem) (a : Option Addr) (c : Nat) (w : World) (h : MRd w a c m) :
    Calls Try.prog 54 #[.agg #[.slice a m.fs.length c, .int .i64 m.hand]] w fun e w' => ∃ vb, e = .returned (.tuple #[.agg #[vb, .int .i64 (nextM m).hand], .int .i64 (nextK m), .int .i64 (wrongM m)]) ∧ (∃ a' c', vb = .slice a' (nextM m).fs.length c' ∧ MRd w' a' c' (nextM m)) ∧ Below w.heap.size w w' := by
  go_enter Try.func54, Try.ntmps54
  go_wp2_with fail
  refine abs2 (fun W => Calls _ _ _ W _) fun W0 hb0 hbox0 hres0 hs0 => ?_
  refine (rmwrong_any m a c _ (h.below hb0)).mono ?_
  rintro e w1 ⟨rfl, hb1⟩
  have hbel1 := below_next hb0 hb1
  have hbox1 := hbox0.ext hb1
  have hres1 := hres0.ext hb1
  have hgx : w.heap.size + 2 ≤ w1.heap.size := by have := hres1.lt; omega
  clear hbox0 hres0 hb1 hb0 hs0
  by_cases hw : wrongM m = 0
  · obtain ⟨hl40, hall, hh0, hh1⟩ := (wrongM_iff m).1 hw
    have hsf := Lib.hid (someR_free hw)
    have hw' := Lib.hid hw
    rw [hw]
    clear hall hw
    have hcb := hbox1.cell
    go_wp2
    clear hcb
    go_loopw [6, 21] (fun s6 i wr => ∃ (k : Nat) (b : Bool), k ≤ m.fs.length ∧ i = .int .i64 k ∧ s6 = .bool b ∧ Below w.heap.size w wr ∧ Blk wr w.heap.size #[.slice a m.fs.length c, .int .i64 m.hand] 64 ∧ Blk wr (w.heap.size + 1) #[.slice none 0 0, .int .i64 0] 64 ∧ Hid (someR (m.fs.take k) = b)) (fun _ i _ => m.fs.length - (intOf i).toNat)
    case atStart => exact ⟨0, false, Nat.zero_le _, rfl, rfl, hbel1, hbox1, hres1, Lib.hid rfl⟩
    case round =>
      clear hbel1 hbox1 hres1
      obtain ⟨k, b, hk, rfl, rfl, hbel, hbox, hres, hsm⟩ := hrel
      by_cases hlt : k < m.fs.length
      · obtain ⟨bb, off, rfl, hc⟩ := fr_at (h.below hbel).rd k hlt
        obtain ⟨c0, c1, c2, c3, c4, c5, c6, c7, c8, c9, ca, cb, cc⟩ := hc
        have ht := someR_take m.fs k hlt
        rw [hsm.out] at ht
        have ht' := Lib.hid ht
        clear ht hsm
        cases b with
        | true =>
          go_wp2
          go_roundw
          case rel => exact ⟨k + 1, true, by omega, by go_num, rfl, hbel.alloc hbel.size _, hbox.alloc _, hres.alloc _, Lib.hid (by have := ht'.out; simpa using this)⟩
          case measure => simp [intOf]; omega
        | false =>
          go_wp2
          go_roundw
          case rel => exact ⟨k + 1, decide (0 < m.fs[k].r), by omega, by go_num, rfl, hbel.alloc hbel.size _, hbox.alloc _, hres.alloc _, Lib.hid (by have := ht'.out; simpa using this)⟩
          case measure => simp [intOf]; omega
      · have hsb : Hid (b = !decide (freeN m.fs = m.fs.length)) := by
          have h1 := hsm.out
          rw [List.take_of_length_le (by omega)] at h1
          exact h1.symm.trans hsf.out
        clear hsm hsf
        have hcb := hbox.cell
        by_cases hf : freeN m.fs = m.fs.length
        · have q2 : nextM m = m := by unfold nextM; rw [if_neg (fun e => e hw'.out), if_pos hf]
          have q3 : nextK m = -1 := by unfold nextK; rw [if_neg (fun e => e hw'.out), if_pos hf]
          have hbf : b = false := by rw [hsb.out]; simp [hf]
          subst hbf
          clear hf
          go_wp2_with (refine wpList_stw rfl _ (.tmp 2) (.tmp 34) rfl (w.heap.size + 1) #[.slice a m.fs.length c, .int .i64 m.hand] rfl rfl _ _ hres (mem_fit _ _ _ _ _ _ _ _) mem_size (mem_one _ _ _ _) ?_)
          intro w8 hr8 hgr8
          have hbel8 := hbel.grown hgr8 hbel.size (fun k hk => by cases hk; omega)
          have hcr := hr8.cell
          clear hcb
          go_wp2
          simp [bodyPost, results, go_sem, Try.results54, hcr, q2, q3, hw'.out]
          exact ⟨⟨_, _, ⟨rfl, rfl⟩, h.below hbel8⟩, hbel8⟩
        · have hbf : b = true := by rw [hsb.out]; simp [hf]
          subst hbf
          obtain ⟨hS1, hS2, hS3⟩ := next_s m hw'.out hf
          have q2 : nextM m = ⟨clrM m (nextS m), (idxM m (nextS m + 1) : Nat)⟩ := by unfold nextM; rw [if_neg (fun e => e hw'.out), if_neg hf]
          have q3 : nextK m = (idxM m (nextS m) : Nat) := by unfold nextK; rw [if_neg (fun e => e hw'.out), if_neg hf]
          have hpos : 0 < m.fs.length := by
            rcases Nat.eq_zero_or_pos m.fs.length with h0 | h0
            · exact absurd (by have := freeN_le m.fs; omega) hf
            · exact h0
          have Q := Lib.hid (And.intro q2 (And.intro q3 (And.intro hS1 (And.intro hS2 hS3))))
          clear q2 q3 hf hS1 hS2 hS3 hsb
          have hst : Hid (m.hand = (idxM m 0 : Nat)) := by
            show m.hand = (idxM m 0 : Nat)
            unfold idxM
            rw [Nat.add_zero, Nat.mod_eq_of_lt (by omega)]
            omega
          go_wp2
          clear hcb
          rw [hst.out] at hbox
          clear hst
          go_loopw [39] (fun i wr => ∃ (s : Nat) (sa : Option Addr) (sc : Nat), i = .int .i64 s ∧ Hid (s ≤ nextS m) ∧ Below w.heap.size w wr ∧ Blk wr w.heap.size #[.slice sa m.fs.length sc, .int .i64 (idxM m s)] 64 ∧ Blk wr (w.heap.size + 1) #[.slice none 0 0, .int .i64 0] 64 ∧ MRd wr sa sc ⟨clrM m s, (idxM m s : Nat)⟩) (fun i _ => 2 * m.fs.length - (intOf i).toNat)
          case atStart => exact ⟨0, a, c, rfl, Lib.hid (Nat.zero_le _), hbel, hbox, hres, by rw [clr_zero]; exact { h.below hbel with }⟩
          case round =>
            clear hbel hbox hres hlt hk
            obtain ⟨s, sa, sc, rfl, hs, hbel, hbox, hres, hm⟩ := hrel
            have hs2 : s < 2 * m.fs.length := by have := hs.out; have := Q.out.2.2.1; omega
            obtain ⟨k, hk⟩ : ∃ k, k = idxM m s := ⟨_, rfl⟩
            have hkl : k < m.fs.length := by rw [hk]; exact idx_lt hpos s
            have hnx : Hid (idxM m (s + 1) = if k + 1 = m.fs.length then 0 else k + 1) := by
              show idxM m (s + 1) = _
              have h1 : idxM m (s + 1) = (k + 1) % m.fs.length := by
                rw [hk]
                unfold idxM
                rw [Nat.mod_add_mod, Nat.add_assoc]
              rw [h1]
              split
              · rename_i h2; rw [h2, Nat.mod_self]
              · rw [Nat.mod_eq_of_lt (by omega)]
            have hlk : k < (clrM m s).length := by rw [clr_len]; exact hkl
            have hstop : stopM m s = (decide (0 < ((clrM m s)[k]'hlk).r) && !((clrM m s)[k]'hlk).u) := by subst hk; exact stop_eq m s hpos
            have hsucc : Hid ((clrM m s).set k (unused ((clrM m s)[k]'hlk)) = clrM m (s + 1)) := by subst hk; exact clr_succ m s hpos
            have hsame : Hid (((clrM m s)[k]'hlk).u = false → clrM m (s + 1) = clrM m s) := by subst hk; exact clr_stop m s hpos
            have hle := hm.le
            simp only [clr_len] at hle
            rw [← hk] at hbox hm
            have hk' := Lib.hid hk
            have hst' := Lib.hid hstop
            have hkz : (k : Int) < (m.fs.length : Int) := by omega
            have hs2z : (s : Int) < 2 * (m.fs.length : Int) := by omega
            clear hk hstop
            obtain ⟨bb, off, rfl, hc⟩ := fr_at hm.rd k hlk
            obtain ⟨F, hF⟩ : ∃ F, F = (clrM m s)[k]'hlk := ⟨_, rfl⟩
            rw [← hF] at hc
            obtain ⟨c0, c1, c2, c3, c4, c5, c6, c7, c8, c9, ca, cb, cc⟩ := hc
            have hF' := Lib.hid hF
            clear hF
            have hcb := hbox.cell
            go_upto_region 16 with (fail)
            refine abs1 (fun W => Code.wp _ _ _ _ W) fun w3 hb3 hy3 hs3 => ?_
            have hbel3 := below_next hbel hb3
            have hbox3 := hbox.ext hb3
            have hres3 := hres.ext hb3
            have hm3 := hm.below hb3
            have hgr00 := hres.lt
            clear hbel hbox hres hs3 hcb c0 c1 c2 c3 c4 c5 c6 c7 c8 c9 ca cb cc
            have hcy := hy3.cell
            have hfy := hy3.free
            have hly := hy3.lt
            have hgr0 : w.heap.size + 2 ≤ wr.heap.size := by have := hgr00; omega
            by_cases hr : 0 < F.r
            · cases hu : F.u with
              | true =>
                have hnot : Hid (s + 1 ≤ nextS m) := by
                  have h1 := hst'.out
                  rw [← hF'.out, hu] at h1
                  have h2 : s ≠ nextS m := by
                    intro e
                    rw [e, Q.out.2.2.2.1] at h1
                    simp at h1
                  have := hs.out
                  show s + 1 ≤ nextS m
                  omega
                rw [hu] at hcy hy3
                go_upto_region 18 with (fail)
                have hy4 := hy3.setCell 9 (.bool false)
                have hbox4 := hbox3.setCell_other ⟨wr.heap.size, 9, none⟩ (.bool false) (by simp; omega)
                have hres4 := hres3.setCell_other ⟨wr.heap.size, 9, none⟩ (.bool false) (by simp; omega)
                have hbel4 : Below w.heap.size w (w3.setCell ⟨wr.heap.size, 9, none⟩ (.bool false)) := hbel3.setCell (by simp; omega) _
                have hbw : Below wr.heap.size wr (w3.setCell ⟨wr.heap.size, 9, none⟩ (.bool false)) := hb3.setCell (Nat.le_refl _) _
                have hm4 := hm.below hbw
                clear hbw
                generalize w3.setCell ⟨wr.heap.size, 9, none⟩ (.bool false) = w4 at *
                have hy4' : Blk w4 wr.heap.size (frC (unused F)) 72 := hy4
                clear hy3 hbox3 hres3 hbel3 hm hb3 hcy hfy hy4 hly
                have hcy := hy4'.cell
                have hcb := hbox4.cell
                simp only [frC, unused] at hcy
                have hwi := mwith_any ⟨clrM m s, (k : Nat)⟩ k (unused F) _ sc w4 hm4 hlk (by rw [clr_len]; exact hl40)
                simp only [frC, unused, clr_len] at hwi
                go_wp2_with fail
                refine hwi.mono ?_
                rintro e w5 ⟨vb, rfl, ho5, hb5⟩
                have hbel5 := below_next hbel4 hb5
                have hbox5 := hbox4.ext hb5
                have hres5 := hres4.ext hb5
                have hgw := hbel4.size
                have ho5' : Own w5 w4.heap.size 72 13 vb m.fs.length ((clrM m (s + 1)).flatMap frL) := by
                  rw [← hsucc.out, ← hF'.out]; exact ho5
                obtain ⟨a5, c5', rfl, _⟩ := ho5'.rd
                clear hcy hcb hwi hbox4 hres4 hy4' hb5 ho5 hm4 hbel4
                go_wp2_with (refine wpList_stw rfl _ (.tmp 1) (.tmp 60) rfl w.heap.size #[.slice a5 m.fs.length c5', .int .i64 k] rfl rfl _ _ hbox5 (mem_fit _ _ _ _ _ _ _ _) mem_size (mem_one _ _ _ _) ?_)
                intro w6 hbox6 hgr6
                have ho6 := own_keep ho5' hbox5 (by decide) hgr6
                have hres6 := hres5.grown hgr6 (by simp)
                have hbel6 := hbel5.grown hgr6 hbel5.size (fun k hk => by cases hk; omega)
                clear hbox5 hres5 hgr6 ho5' hbel5
                have hcb := hbox6.cell
                have hfb := hbox6.free
                have hlb := hbox6.lt
                by_cases hkk : k + 1 = m.fs.length
                · have hkb : ((k : Int) + 1 == (m.fs.length : Int)) = true := beq_iff_eq.2 (by omega)
                  have hnx' : Hid (idxM m (s + 1) = 0) := by have := hnx.out; rw [if_pos hkk] at this; exact this
                  have hkk' := Lib.hid hkk
                  clear hkk
                  go_upto_region 20 with (fail)
                  have hbox7 := hbox6.setCell 1 (.int .i64 ((k : Int) + 1))
                  have ho7 := own_set ho6 hbox6 (by decide) 1 (.int .i64 ((k : Int) + 1))
                  have hres7 := hres6.setCell_other ⟨w.heap.size, 1, none⟩ (.int .i64 ((k : Int) + 1)) (by simp)
                  have hbel7 : Below w.heap.size w (w6.setCell ⟨w.heap.size, 1, none⟩ (.int .i64 ((k : Int) + 1))) := hbel6.setCell (by simp) _
                  generalize w6.setCell ⟨w.heap.size, 1, none⟩ (.int .i64 ((k : Int) + 1)) = w7 at *
                  have hbox7' : Blk w7 w.heap.size #[.slice a5 m.fs.length c5', .int .i64 ((k : Int) + 1)] 64 := hbox7
                  clear hbox6 ho6 hres6 hbel6 hcb hfb hlb hbox7
                  have hcb := hbox7'.cell
                  have hfb := hbox7'.free
                  have hlb := hbox7'.lt
                  go_upto_region 22 with (fail)
                  have hbox8 := hbox7'.setCell 1 (.int .i64 0)
                  have ho8 := own_set ho7 hbox7' (by decide) 1 (.int .i64 0)
                  have hres8 := hres7.setCell_other ⟨w.heap.size, 1, none⟩ (.int .i64 0) (by simp)
                  have hbel8 : Below w.heap.size w (w7.setCell ⟨w.heap.size, 1, none⟩ (.int .i64 0)) := hbel7.setCell (by simp) _
                  generalize w7.setCell ⟨w.heap.size, 1, none⟩ (.int .i64 0) = w8 at *
                  have hbox8' : Blk w8 w.heap.size #[.slice a5 m.fs.length c5', .int .i64 (idxM m (s + 1))] 64 := by rw [hnx'.out]; exact hbox8
                  clear hbox7' ho7 hres7 hbel7 hcb hfb hlb hbox8
                  go_wp2
                  go_roundw
                  case rel =>
                    obtain ⟨_, _, e9, h91, h92, h93, h94⟩ := ho8.rd
                    cases e9
                    exact ⟨s + 1, _, _, by go_num, hnot, hbel8, hbox8', hres8, by show (clrM m (s + 1)).length ≤ _; rw [clr_len]; exact h91, h92, h93, h94⟩
                  case measure => simp [intOf]; omega
                · have hkb : ((k : Int) + 1 == (m.fs.length : Int)) = false := beq_eq_false_iff_ne.2 (by omega)
                  have hnx' : Hid (idxM m (s + 1) = k + 1) := by have := hnx.out; rw [if_neg hkk] at this; exact this
                  clear hkk
                  go_upto_region 20 with (fail)
                  have hbox7 := hbox6.setCell 1 (.int .i64 ((k : Int) + 1))
                  have ho8 := own_set ho6 hbox6 (by decide) 1 (.int .i64 ((k : Int) + 1))
                  have hres8 := hres6.setCell_other ⟨w.heap.size, 1, none⟩ (.int .i64 ((k : Int) + 1)) (by simp)
                  have hbel8 : Below w.heap.size w (w6.setCell ⟨w.heap.size, 1, none⟩ (.int .i64 ((k : Int) + 1))) := hbel6.setCell (by simp) _
                  generalize w6.setCell ⟨w.heap.size, 1, none⟩ (.int .i64 ((k : Int) + 1)) = w8 at *
                  have hbox7' : Blk w8 w.heap.size #[.slice a5 m.fs.length c5', .int .i64 ((k : Int) + 1)] 64 := hbox7
                  clear hbox6 ho6 hres6 hbel6 hcb hfb hlb hbox7
                  have hcb := hbox7'.cell
                  go_upto_region 22 with (fail)
                  clear hcb
                  have hbox8' : Blk w8 w.heap.size #[.slice a5 m.fs.length c5', .int .i64 (idxM m (s + 1))] 64 := by rw [hnx'.out]; exact hbox7'
                  clear hbox7'
                  go_wp2
                  go_roundw
                  case rel =>
                    obtain ⟨_, _, e9, h91, h92, h93, h94⟩ := ho8.rd
                    cases e9
                    exact ⟨s + 1, _, _, by go_num, hnot, hbel8, hbox8', hres8, by show (clrM m (s + 1)).length ≤ _; rw [clr_len]; exact h91, h92, h93, h94⟩
                  case measure => simp [intOf]; omega
              | false =>
                have hS : Hid (s = nextS m) := by
                  have h1 := hst'.out
                  rw [← hF'.out, hu] at h1
                  have h2 : stopM m s = true := by rw [h1]; simp [hr]
                  have := hs.out
                  rcases Nat.lt_or_ge s (nextS m) with h | h
                  · rw [Q.out.2.2.2.2 s h] at h2; cases h2
                  · show s = nextS m; omega
                have hsm' : Hid (clrM m (s + 1) = clrM m s) := hsame.out (by rw [← hF'.out]; exact hu)
                rw [hu] at hcy hy3
                go_upto_region 18 with (fail)
                have hy4 := hy3.setCell 9 (.bool false)
                have hbox4 := hbox3.setCell_other ⟨wr.heap.size, 9, none⟩ (.bool false) (by simp; omega)
                have hres4 := hres3.setCell_other ⟨wr.heap.size, 9, none⟩ (.bool false) (by simp; omega)
                have hbel4 : Below w.heap.size w (w3.setCell ⟨wr.heap.size, 9, none⟩ (.bool false)) := hbel3.setCell (by simp; omega) _
                have hbw : Below wr.heap.size wr (w3.setCell ⟨wr.heap.size, 9, none⟩ (.bool false)) := hb3.setCell (Nat.le_refl _) _
                have hm4 := hm.below hbw
                clear hbw
                generalize w3.setCell ⟨wr.heap.size, 9, none⟩ (.bool false) = w4 at *
                have hy4' : Blk w4 wr.heap.size (frC (unused F)) 72 := hy4
                clear hy3 hbox3 hres3 hbel3 hm hb3 hcy hfy hy4 hly
                have hcy := hy4'.cell
                have hcb := hbox4.cell
                simp only [frC, unused] at hcy
                have hwi := mwith_any ⟨clrM m s, (k : Nat)⟩ k (unused F) _ sc w4 hm4 hlk (by rw [clr_len]; exact hl40)
                simp only [frC, unused, clr_len] at hwi
                go_wp2_with fail
                refine hwi.mono ?_
                rintro e w5 ⟨vb, rfl, ho5, hb5⟩
                have hbel5 := below_next hbel4 hb5
                have hbox5 := hbox4.ext hb5
                have hres5 := hres4.ext hb5
                have hgw := hbel4.size
                have ho5' : Own w5 w4.heap.size 72 13 vb m.fs.length ((clrM m (s + 1)).flatMap frL) := by
                  rw [← hsucc.out, ← hF'.out]; exact ho5
                obtain ⟨a5, c5', rfl, _⟩ := ho5'.rd
                clear hcy hcb hwi hbox4 hres4 hy4' hb5 ho5 hm4 hbel4
                go_wp2_with (refine wpList_stw rfl _ (.tmp 1) (.tmp 60) rfl w.heap.size #[.slice a5 m.fs.length c5', .int .i64 k] rfl rfl _ _ hbox5 (mem_fit _ _ _ _ _ _ _ _) mem_size (mem_one _ _ _ _) ?_)
                intro w6 hbox6 hgr6
                have ho6 := own_keep ho5' hbox5 (by decide) hgr6
                have hres6 := hres5.grown hgr6 (by simp)
                have hbel6 := hbel5.grown hgr6 hbel5.size (fun k hk => by cases hk; omega)
                clear hbox5 hres5 hgr6 ho5' hbel5
                have hcb := hbox6.cell
                have hfb := hbox6.free
                have hlb := hbox6.lt
                by_cases hkk : k + 1 = m.fs.length
                · have hkb : ((k : Int) + 1 == (m.fs.length : Int)) = true := beq_iff_eq.2 (by omega)
                  have hnx' : Hid (idxM m (s + 1) = 0) := by have := hnx.out; rw [if_pos hkk] at this; exact this
                  have hkk' := Lib.hid hkk
                  clear hkk
                  go_upto_region 20 with (fail)
                  have hbox7 := hbox6.setCell 1 (.int .i64 ((k : Int) + 1))
                  have ho7 := own_set ho6 hbox6 (by decide) 1 (.int .i64 ((k : Int) + 1))
                  have hres7 := hres6.setCell_other ⟨w.heap.size, 1, none⟩ (.int .i64 ((k : Int) + 1)) (by simp)
                  have hbel7 : Below w.heap.size w (w6.setCell ⟨w.heap.size, 1, none⟩ (.int .i64 ((k : Int) + 1))) := hbel6.setCell (by simp) _
                  generalize w6.setCell ⟨w.heap.size, 1, none⟩ (.int .i64 ((k : Int) + 1)) = w7 at *
                  have hbox7' : Blk w7 w.heap.size #[.slice a5 m.fs.length c5', .int .i64 ((k : Int) + 1)] 64 := hbox7
                  clear hbox6 ho6 hres6 hbel6 hcb hfb hlb hbox7
                  have hcb := hbox7'.cell
                  have hfb := hbox7'.free
                  have hlb := hbox7'.lt
                  go_upto_region 22 with (fail)
                  have hbox8 := hbox7'.setCell 1 (.int .i64 0)
                  have ho8 := own_set ho7 hbox7' (by decide) 1 (.int .i64 0)
                  have hres8 := hres7.setCell_other ⟨w.heap.size, 1, none⟩ (.int .i64 0) (by simp)
                  have hbel8 : Below w.heap.size w (w7.setCell ⟨w.heap.size, 1, none⟩ (.int .i64 0)) := hbel7.setCell (by simp) _
                  generalize w7.setCell ⟨w.heap.size, 1, none⟩ (.int .i64 0) = w8 at *
                  have hbox8' : Blk w8 w.heap.size #[.slice a5 m.fs.length c5', .int .i64 (idxM m (s + 1))] 64 := by rw [hnx'.out]; exact hbox8
                  clear hbox7' ho7 hres7 hbel7 hcb hfb hlb hbox8
                  have hcb := hbox8'.cell
                  go_wp2_with (refine wpList_stw rfl _ (.tmp 2) (.tmp 72) rfl (w.heap.size + 1) #[.slice a5 m.fs.length c5', .int .i64 (idxM m (s + 1))] rfl rfl _ _ hres8 (mem_fit _ _ _ _ _ _ _ _) mem_size (mem_one _ _ _ _) ?_)
                  intro w9 hr9 hgr9
                  have hB9 := own_keep ho8 hres8 (by decide) hgr9
                  have hbel9 := hbel8.grown hgr9 hbel8.size (fun k hk => by cases hk; omega)
                  have hcr := hr9.cell
                  clear hcb
                  go_wp2
                  have hS' := hS.out
                  rw [← hS'] at Q
                  simp [bodyPost, results, go_sem, Try.results54, hcr, Q.out.1, Q.out.2.1, hw'.out, hk'.out]
                  obtain ⟨_, _, e9, h91, h92, h93, h94⟩ := hB9.rd
                  cases e9
                  exact ⟨⟨_, _, ⟨rfl, by rw [clr_len], rfl⟩, by show (clrM m s).length ≤ _; rw [clr_len]; exact h91, h92, h93, by rw [hsm'.out] at h94; exact h94⟩, hbel9⟩
                · have hkb : ((k : Int) + 1 == (m.fs.length : Int)) = false := beq_eq_false_iff_ne.2 (by omega)
                  have hnx' : Hid (idxM m (s + 1) = k + 1) := by have := hnx.out; rw [if_neg hkk] at this; exact this
                  clear hkk
                  go_upto_region 20 with (fail)
                  have hbox7 := hbox6.setCell 1 (.int .i64 ((k : Int) + 1))
                  have ho8 := own_set ho6 hbox6 (by decide) 1 (.int .i64 ((k : Int) + 1))
                  have hres8 := hres6.setCell_other ⟨w.heap.size, 1, none⟩ (.int .i64 ((k : Int) + 1)) (by simp)
                  have hbel8 : Below w.heap.size w (w6.setCell ⟨w.heap.size, 1, none⟩ (.int .i64 ((k : Int) + 1))) := hbel6.setCell (by simp) _
                  generalize w6.setCell ⟨w.heap.size, 1, none⟩ (.int .i64 ((k : Int) + 1)) = w8 at *
                  have hbox7' : Blk w8 w.heap.size #[.slice a5 m.fs.length c5', .int .i64 ((k : Int) + 1)] 64 := hbox7
                  clear hbox6 ho6 hres6 hbel6 hcb hfb hlb hbox7
                  have hcb := hbox7'.cell
                  go_upto_region 22 with (fail)
                  clear hcb
                  have hbox8' : Blk w8 w.heap.size #[.slice a5 m.fs.length c5', .int .i64 (idxM m (s + 1))] 64 := by rw [hnx'.out]; exact hbox7'
                  clear hbox7'
                  have hcb := hbox8'.cell
                  go_wp2_with (refine wpList_stw rfl _ (.tmp 2) (.tmp 72) rfl (w.heap.size + 1) #[.slice a5 m.fs.length c5', .int .i64 (idxM m (s + 1))] rfl rfl _ _ hres8 (mem_fit _ _ _ _ _ _ _ _) mem_size (mem_one _ _ _ _) ?_)
                  intro w9 hr9 hgr9
                  have hB9 := own_keep ho8 hres8 (by decide) hgr9
                  have hbel9 := hbel8.grown hgr9 hbel8.size (fun k hk => by cases hk; omega)
                  have hcr := hr9.cell
                  clear hcb
                  go_wp2
                  have hS' := hS.out
                  rw [← hS'] at Q
                  simp [bodyPost, results, go_sem, Try.results54, hcr, Q.out.1, Q.out.2.1, hw'.out, hk'.out]
                  obtain ⟨_, _, e9, h91, h92, h93, h94⟩ := hB9.rd
                  cases e9
                  exact ⟨⟨_, _, ⟨rfl, by rw [clr_len], rfl⟩, by show (clrM m s).length ≤ _; rw [clr_len]; exact h91, h92, h93, by rw [hsm'.out] at h94; exact h94⟩, hbel9⟩
            · have hnot : Hid (s + 1 ≤ nextS m) := by
                have h1 := hst'.out
                rw [← hF'.out] at h1
                have h2 : s ≠ nextS m := by
                  intro e
                  rw [e, Q.out.2.2.2.1] at h1
                  simp [hr] at h1
                have := hs.out
                show s + 1 ≤ nextS m
                omega
              go_upto_region 18 with (fail)
              have hy4 := hy3.setCell 9 (.bool false)
              have hbox4 := hbox3.setCell_other ⟨wr.heap.size, 9, none⟩ (.bool false) (by simp; omega)
              have hres4 := hres3.setCell_other ⟨wr.heap.size, 9, none⟩ (.bool false) (by simp; omega)
              have hbel4 : Below w.heap.size w (w3.setCell ⟨wr.heap.size, 9, none⟩ (.bool false)) := hbel3.setCell (by simp; omega) _
              have hbw : Below wr.heap.size wr (w3.setCell ⟨wr.heap.size, 9, none⟩ (.bool false)) := hb3.setCell (Nat.le_refl _) _
              have hm4 := hm.below hbw
              clear hbw
              generalize w3.setCell ⟨wr.heap.size, 9, none⟩ (.bool false) = w4 at *
              have hy4' : Blk w4 wr.heap.size (frC (unused F)) 72 := hy4
              clear hy3 hbox3 hres3 hbel3 hm hb3 hcy hfy hy4 hly
              have hcy := hy4'.cell
              have hcb := hbox4.cell
              simp only [frC, unused] at hcy
              have hwi := mwith_any ⟨clrM m s, (k : Nat)⟩ k (unused F) _ sc w4 hm4 hlk (by rw [clr_len]; exact hl40)
              simp only [frC, unused, clr_len] at hwi
              go_wp2_with fail
              refine hwi.mono ?_
              rintro e w5 ⟨vb, rfl, ho5, hb5⟩
              have hbel5 := below_next hbel4 hb5
              have hbox5 := hbox4.ext hb5
              have hres5 := hres4.ext hb5
              have hgw := hbel4.size
              have ho5' : Own w5 w4.heap.size 72 13 vb m.fs.length ((clrM m (s + 1)).flatMap frL) := by
                rw [← hsucc.out, ← hF'.out]; exact ho5
              obtain ⟨a5, c5', rfl, _⟩ := ho5'.rd
              clear hcy hcb hwi hbox4 hres4 hy4' hb5 ho5 hm4 hbel4
              go_wp2_with (refine wpList_stw rfl _ (.tmp 1) (.tmp 60) rfl w.heap.size #[.slice a5 m.fs.length c5', .int .i64 k] rfl rfl _ _ hbox5 (mem_fit _ _ _ _ _ _ _ _) mem_size (mem_one _ _ _ _) ?_)
              intro w6 hbox6 hgr6
              have ho6 := own_keep ho5' hbox5 (by decide) hgr6
              have hres6 := hres5.grown hgr6 (by simp)
              have hbel6 := hbel5.grown hgr6 hbel5.size (fun k hk => by cases hk; omega)
              clear hbox5 hres5 hgr6 ho5' hbel5
              have hcb := hbox6.cell
              have hfb := hbox6.free
              have hlb := hbox6.lt
              by_cases hkk : k + 1 = m.fs.length
              · have hkb : ((k : Int) + 1 == (m.fs.length : Int)) = true := beq_iff_eq.2 (by omega)
                have hnx' : Hid (idxM m (s + 1) = 0) := by have := hnx.out; rw [if_pos hkk] at this; exact this
                have hkk' := Lib.hid hkk
                clear hkk
                go_upto_region 20 with (fail)
                have hbox7 := hbox6.setCell 1 (.int .i64 ((k : Int) + 1))
                have ho7 := own_set ho6 hbox6 (by decide) 1 (.int .i64 ((k : Int) + 1))
                have hres7 := hres6.setCell_other ⟨w.heap.size, 1, none⟩ (.int .i64 ((k : Int) + 1)) (by simp)
                have hbel7 : Below w.heap.size w (w6.setCell ⟨w.heap.size, 1, none⟩ (.int .i64 ((k : Int) + 1))) := hbel6.setCell (by simp) _
                generalize w6.setCell ⟨w.heap.size, 1, none⟩ (.int .i64 ((k : Int) + 1)) = w7 at *
                have hbox7' : Blk w7 w.heap.size #[.slice a5 m.fs.length c5', .int .i64 ((k : Int) + 1)] 64 := hbox7
                clear hbox6 ho6 hres6 hbel6 hcb hfb hlb hbox7
                have hcb := hbox7'.cell
                have hfb := hbox7'.free
                have hlb := hbox7'.lt
                go_upto_region 22 with (fail)
                have hbox8 := hbox7'.setCell 1 (.int .i64 0)
                have ho8 := own_set ho7 hbox7' (by decide) 1 (.int .i64 0)
                have hres8 := hres7.setCell_other ⟨w.heap.size, 1, none⟩ (.int .i64 0) (by simp)
                have hbel8 : Below w.heap.size w (w7.setCell ⟨w.heap.size, 1, none⟩ (.int .i64 0)) := hbel7.setCell (by simp) _
                generalize w7.setCell ⟨w.heap.size, 1, none⟩ (.int .i64 0) = w8 at *
                have hbox8' : Blk w8 w.heap.size #[.slice a5 m.fs.length c5', .int .i64 (idxM m (s + 1))] 64 := by rw [hnx'.out]; exact hbox8
                clear hbox7' ho7 hres7 hbel7 hcb hfb hlb hbox8
                go_wp2
                go_roundw
                case rel =>
                  obtain ⟨_, _, e9, h91, h92, h93, h94⟩ := ho8.rd
                  cases e9
                  exact ⟨s + 1, _, _, by go_num, hnot, hbel8, hbox8', hres8, by show (clrM m (s + 1)).length ≤ _; rw [clr_len]; exact h91, h92, h93, h94⟩
                case measure => simp [intOf]; omega
              · have hkb : ((k : Int) + 1 == (m.fs.length : Int)) = false := beq_eq_false_iff_ne.2 (by omega)
                have hnx' : Hid (idxM m (s + 1) = k + 1) := by have := hnx.out; rw [if_neg hkk] at this; exact this
                clear hkk
                go_upto_region 20 with (fail)
                have hbox7 := hbox6.setCell 1 (.int .i64 ((k : Int) + 1))
                have ho8 := own_set ho6 hbox6 (by decide) 1 (.int .i64 ((k : Int) + 1))
                have hres8 := hres6.setCell_other ⟨w.heap.size, 1, none⟩ (.int .i64 ((k : Int) + 1)) (by simp)
                have hbel8 : Below w.heap.size w (w6.setCell ⟨w.heap.size, 1, none⟩ (.int .i64 ((k : Int) + 1))) := hbel6.setCell (by simp) _
                generalize w6.setCell ⟨w.heap.size, 1, none⟩ (.int .i64 ((k : Int) + 1)) = w8 at *
                have hbox7' : Blk w8 w.heap.size #[.slice a5 m.fs.length c5', .int .i64 ((k : Int) + 1)] 64 := hbox7
                clear hbox6 ho6 hres6 hbel6 hcb hfb hlb hbox7
                have hcb := hbox7'.cell
                go_upto_region 22 with (fail)
                clear hcb
                have hbox8' : Blk w8 w.heap.size #[.slice a5 m.fs.length c5', .int .i64 (idxM m (s + 1))] 64 := by rw [hnx'.out]; exact hbox7'
                clear hbox7'
                go_wp2
                go_roundw
                case rel =>
                  obtain ⟨_, _, e9, h91, h92, h93, h94⟩ := ho8.rd
                  cases e9
                  exact ⟨s + 1, _, _, by go_num, hnot, hbel8, hbox8', hres8, by show (clrM m (s + 1)).length ≤ _; rw [clr_len]; exact h91, h92, h93, h94⟩
                case measure => simp [intOf]; omega
  · have q2 : nextM m = noM := by unfold nextM; rw [if_pos hw]
    have q3 : nextK m = 0 := by unfold nextK; rw [if_pos hw]
    have hn : (wrongM m != 0) = true := by simpa using hw
    go_wp2_with (refine wpList_stw rfl _ (.tmp 2) (.tmp 16) rfl (w.heap.size + 1) #[.slice none 0 0, .int .i64 0] rfl rfl _ _ hres1 rfl mem_size (mem_one _ _ _ _) ?_)
    intro w5 hr5 hgr
    have hbel5 := hbel1.grown hgr hbel1.size (fun k hk => by cases hk; omega)
    have hcr := hr5.cell
    go_wp2
    simp [bodyPost, results, go_sem, Try.results54, hcr, q2, q3, noM]
    first
      | exact ⟨mrd_nil _, hbel5⟩
      | exact ⟨⟨_, _, ⟨rfl, rfl⟩, mrd_nil _⟩, hbel5⟩
end Go.Proofs.Ytohbfjbcfibhcaa
