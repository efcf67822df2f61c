/- The law FramesHold, walked. -/
import Derived.Test.YtohbfjbcfibhcaaFrame10
namespace Go.Proofs.Ytohbfjbcfibhcaa
open Go.RowKit Pw
set_option linter.unusedSimpArgs false
set_option linter.unusedVariables false

theorem hold_ok {m : Mem} {k n : Int} (h : holdE m k n = 0) : wrongM m = 0 ∧ 0 ≤ k ∧ k < m.fs.length ∧ (m.fs.getD k.toNat fr0).r ≠ 0 ∧ -(m.fs.getD k.toNat fr0).r ≤ n ∧ n ≤ 1000 - (m.fs.getD k.toNat fr0).r := by
  unfold holdE at h
  split at h
  · exact absurd h ‹_›
  · rename_i h1
    split at h
    · cases h
    · rename_i h2
      split at h
      · cases h
      · rename_i h3
        refine ⟨by omega, by omega, by omega, fun e => h2 (.inr (.inr e)), by omega, by omega⟩
theorem set_ok {m : Mem} {k : Nat} {f : Fr} (hw : wrongM m = 0) (hf : frameE f = 0) : wrongM ⟨m.fs.set k f, m.hand⟩ = 0 := by
  obtain ⟨h1, h2, h3, h4⟩ := (wrongM_iff m).1 hw
  rw [wrongM_iff]
  simp only [List.length_set]
  refine ⟨h1, fun g hg => ?_, h3, h4⟩
  rcases List.mem_or_eq_of_mem_set hg with h | rfl
  · exact h2 g h
  · exact hf
theorem hold_back {m : Mem} {k n : Int} (h : holdE m k n = 0) (hn : 0 ≤ n) : wrongM (holdM m k n) = 0 ∧ holdE (holdM m k n) k (-n) = 0 ∧ holdM (holdM m k n) k (-n) = m ∧ n ≤ 1000 := by
  obtain ⟨hw, h0, h1, h2, h3, h4⟩ := hold_ok h
  obtain ⟨k, rfl⟩ := Int.eq_ofNat_of_zero_le h0
  have hk : k < m.fs.length := by omega
  have hg : m.fs.getD (k : Int).toNat fr0 = m.fs[k] := by simp [hk]
  rw [hg] at h2 h3 h4
  have hE := (frameE_iff _).1 (((wrongM_iff m).1 hw).2.1 _ (List.getElem_mem hk))
  obtain ⟨⟨r0, r1, r2, r3, r4, r5⟩, _, r6⟩ := hE
  have hX : holdM m k n = ⟨m.fs.set k { m.fs[k] with r := m.fs[k].r + n }, m.hand⟩ := by
    unfold holdM
    rw [if_pos h, hg]
    unfold heldF
    rw [if_neg (by omega)]
    rfl
  have hF : frameE { m.fs[k] with r := m.fs[k].r + n } = 0 := by
    rw [frameE_iff]
    exact ⟨⟨by show 0 ≤ m.fs[k].r + n; omega, by show m.fs[k].r + n ≤ 1000; omega, r2, r3, r4, r5⟩, fun e => absurd (show m.fs[k].r + n = 0 from e) (by omega), r6⟩
  have hWX : wrongM (holdM m k n) = 0 := by rw [hX]; exact set_ok hw hF
  have hgX : (holdM m k n).fs.getD (k : Int).toNat fr0 = { m.fs[k] with r := m.fs[k].r + n } := by rw [hX]; simp [hk]
  have hlX : (holdM m k n).fs.length = m.fs.length := by rw [hX]; simp
  have hEX : holdE (holdM m k n) k (-n) = 0 := by
    unfold holdE
    rw [if_neg (by omega), hgX, hlX, if_neg, if_neg]
    · show ¬ (-n < -(m.fs[k].r + n) ∨ 1000 - (m.fs[k].r + n) < -n)
      omega
    · rintro (h | h | h)
      · omega
      · omega
      · exact absurd (show m.fs[k].r + n = 0 from h) (by omega)
  refine ⟨hWX, hEX, ?_, by omega⟩
  have hM : ∀ X, holdE X k (-n) = 0 → holdM X k (-n) = ⟨X.fs.set (k : Int).toNat (heldF (X.fs.getD (k : Int).toNat fr0) (-n)), X.hand⟩ := fun X h => by unfold holdM; rw [if_pos h]
  have hb : heldF { m.fs[k] with r := m.fs[k].r + n } (-n) = m.fs[k] := by
    unfold heldF
    rw [if_neg (by show ¬ (m.fs[k].r + n + -n = 0); omega)]
    show ({ m.fs[k] with r := m.fs[k].r + n + -n } : Fr) = _
    rw [show m.fs[k].r + n + -n = m.fs[k].r from by omega]
  rw [hM _ hEX, hgX, hb, hX]
  simp only [Int.toNat_natCast, List.set_set]
  rw [List.set_getElem_self]

set_option maxHeartbeats 2000000 in
set_option maxRecDepth 100000 in
theorem frames_hold (m : Mem) (k n : Int) (a : Option Addr) (c : Nat) (w : World) (h : MRd w a c m) :
    Calls Try.prog 13 #[.agg #[.slice a m.fs.length c, .int .i64 m.hand], .int .i64 k, .int .i64 n] w fun e w' => e = .returned (.bool true) ∧ Below w.heap.size w w' := by
  go_enter Try.func13, Try.ntmps13
  go_wp2_with fail
  refine abs1 (fun W => Calls _ _ _ W _) fun W0 hb0 hx0 _ => ?_
  refine (alive3 _).mono ?_
  rintro e w1 ⟨rfl, hb1⟩
  have hbel1 := below_next hb0 hb1
  have hx1 := hx0.ext hb1
  have hd1 := h.below hbel1
  clear hx0 hb0 hb1
  have hc1 := hx1.cell
  go_wp2_with fail
  refine (mhold_any m k n a c _ hd1).mono ?_
  rintro e w2 ⟨vb, rfl, ho2, hb2⟩
  have hbel2 := below_next hbel1 hb2
  have hx2 := hx1.ext hb2
  obtain ⟨a2, c2, rfl, hy2⟩ := mown_rd ho2
  clear hx1 hd1 hb2 ho2 hc1
  by_cases hw : holdE m k n = 0
  · rw [hw]
    by_cases hn : n < 0
    · go_wp2
      go_ret
      exact ⟨rfl, hbel2.alloc hbel2.size _⟩
    · obtain ⟨p1, p2, p3, p4⟩ := hold_back hw (by omega)
      have hnn : -(9223372036854775808 : Int) ≤ -n := by omega
      obtain ⟨X, hX⟩ : ∃ X, X = holdM m k n := ⟨_, rfl⟩
      rw [← hX] at p1 p2 p3 hy2 ⊢
      clear hX
      go_upto_region 6 with (fail)
      refine abs1 (fun W => Code.wp _ _ _ _ W) fun w3 hb3 hz3 hs3 => ?_
      have hbel3 := below_next hbel2 hb3
      have hx3 := hx2.ext hb3
      have hy3 := hy2.below hb3
      clear hx2 hy2 hb3 hs3
      have hcz := hz3.cell
      have hh := mhold_any X k (-n) a2 c2 w3 hy3
      rw [p2, p3] at hh
      have p1' := Lib.hid p1
      clear p1 p2 p3
      go_wp2_with fail
      refine hh.mono ?_
      rintro e w4 ⟨vb, rfl, ho4, hb4⟩
      have hbel4 := below_next hbel3 hb4
      have hx4 := hx3.ext hb4
      have hz4 := hz3.ext hb4
      have hy4 := hy3.below hb4
      obtain ⟨a4, c4, rfl, hv4⟩ := mown_rd ho4
      clear hx3 hy3 hb4 ho4 hz3 hcz hh
      go_upto_region 7 with (fail)
      refine abs1 (fun W => Code.wp _ _ _ _ W) fun w5 hb5 hu5 hs5 => ?_
      have hbel5 := below_next hbel4 hb5
      have hx5 := hx4.ext hb5
      have hz5 := hz4.ext hb5
      have hy5 := hy4.below hb5
      have hv5 := hv4.below hb5
      clear hx4 hz4 hy4 hv4 hb5 hs5
      have hcz := hz5.cell
      go_wp2_with fail
      refine (mwrong_any X a2 c2 _ hy5).mono ?_
      rintro e w6 ⟨rfl, hb6⟩
      rw [p1'.out]
      have hbel6 := below_next hbel5 hb6
      have hx6 := hx5.ext hb6
      have hu6 := hu5.ext hb6
      have hv6 := hv5.below hb6
      clear hx5 hz5 hy5 hv5 hu5 hb6 hcz
      have hcx := hx6.cell
      have hcu := hu6.cell
      go_wp2_with fail
      refine (msame_any m m a c a4 c4 _ (h.below hbel6) hv6).mono ?_
      rintro e w7 ⟨rfl, hb7⟩
      rw [sameM_iff.2 rfl]
      go_wp2
      go_ret
      exact ⟨rfl, below_next hbel6 hb7⟩
  · have hn : (holdE m k n != 0) = true := by simpa using hw
    go_wp2
    go_ret
    exact ⟨rfl, hbel2.alloc hbel2.size _⟩
end Go.Proofs.Ytohbfjbcfibhcaa
