/- What the document's WrongMemory and With do. -/
import Derived.Test.YtohbfjbcfibhcaaFrame13
namespace Go.Proofs.Ytohbfjbcfibhcaa
open Go.RowKit Pw
set_option linter.unusedSimpArgs false
set_option linter.unusedVariables false

set_option maxHeartbeats 1000000 in
set_option maxRecDepth 100000 in
theorem rmwrong_any (m : Mem) (a : Option Addr) (c : Nat) (w : World) (h : MRd w a c m) :
    Calls Try.prog 44 #[.agg #[.slice a m.fs.length c, .int .i64 m.hand]] w fun e w' => e = .returned (.int .i64 (wrongM m)) ∧ Below w.heap.size w w' := by
  have hl := Nat.le_trans h.le h.mx
  unfold maxLen at hl
  go_enter Try.func44, Try.ntmps44
  go_upto_region 1 with (fail)
  refine abs1 (fun W => Code.wp _ _ _ _ W) fun W0 hb0 hx0 hs0 => ?_
  clear hs0
  have hcx := hx0.cell
  by_cases h4 : 40 < m.fs.length
  · have hW : wrongM m = 4 := by unfold wrongM; rw [if_pos h4]
    have h4' : (40 : Int) < (m.fs.length : Int) := by omega
    go_wp2
    go_ret
    rw [hW]
    exact ⟨rfl, hb0⟩
  · have h4' : ¬ (40 : Int) < (m.fs.length : Int) := by omega
    go_wp2
    clear hcx
    go_loopw [13] (fun i wr => ∃ k : Nat, k ≤ m.fs.length ∧ i = .int .i64 k ∧ Below w.heap.size w wr ∧ Blk wr w.heap.size #[.slice a m.fs.length c, .int .i64 m.hand] 64 ∧ ∀ i (h : i < m.fs.length), i < k → frameE m.fs[i] = 0) (fun i _ => m.fs.length - (intOf i).toNat)
    case atStart => exact ⟨0, Nat.zero_le _, rfl, hb0, hx0, fun i _ h => absurd h (Nat.not_lt_zero _)⟩
    case round =>
      clear hx0 hb0
      obtain ⟨k, hk, rfl, hbel, hx, hno⟩ := hrel
      have hno' := Lib.hid hno
      clear hno
      by_cases hlt : k < m.fs.length
      · obtain ⟨b, off, rfl, hc⟩ := fr_at (h.below hbel).rd k hlt
        obtain ⟨c0, c1, c2, c3, c4, c5, c6, c7, c8, c9, ca, cb, cc⟩ := hc
        have hkz : (k : Int) < (m.fs.length : Int) := by omega
        have hf := fun w => rframe_any m.fs[k] w
        unfold frC at hf
        by_cases he : frameE m.fs[k] = 0
        · have he' := Lib.hid he
          rw [he] at hf
          clear he
          go_upto_region 6 with (fail)
          refine abs1 (fun W => Code.wp _ _ _ _ W) fun w1 hb1 hy1 hs1 => ?_
          have hbel1 := below_next hbel hb1
          have hx1 := hx.ext hb1
          clear hs1 hbel hx hb1
          have hcy := hy1.cell
          go_wp2_with fail
          refine (hf _).mono ?_
          rintro e w2 ⟨rfl, hb2⟩
          go_wp2
          go_roundw
          case rel => exact ⟨k + 1, by omega, by go_num, below_next hbel1 hb2, hx1.ext hb2, upto' hno'.out hlt he'.out⟩
          case measure => simp [intOf]; omega
        · have hW : wrongM m = frameE m.fs[k] := by
            have := firstE_at _ k hlt hno'.out he
            unfold wrongM; rw [if_neg h4, this, if_pos he]
          have hn : (frameE m.fs[k] != 0) = true := by simpa using he
          have hW' := Lib.hid hW
          clear hW
          go_upto_region 6 with (fail)
          refine abs1 (fun W => Code.wp _ _ _ _ W) fun w1 hb1 hy1 hs1 => ?_
          have hbel1 := below_next hbel hb1
          clear hs1 hbel hx hb1
          have hcy := hy1.cell
          go_wp2_with fail
          refine (hf _).mono ?_
          rintro e w2 ⟨rfl, hb2⟩
          go_wp2
          go_ret
          rw [hW'.out]
          exact ⟨rfl, below_next hbel1 hb2⟩
      · have h0 : firstE m.fs = 0 := firstE_none _ (fun i hi => hno'.out i hi (by omega))
        have hW : wrongM m = if m.hand < 0 ∨ (0 < m.hand ∧ (m.fs.length : Int) ≤ m.hand) then 3 else 0 := by
          unfold wrongM; rw [if_neg h4, h0]; rfl
        have hW' := Lib.hid hW
        have hcx := hx.cell
        clear hW h0
        by_cases n0 : m.hand = 0
        · have nb : (m.hand != 0) = false := by simp [n0]
          have n0' := Lib.hid n0
          clear n0
          go_wp2
          all_goals
            go_ret
            rw [hW'.out, if_neg (by have := n0'.out; omega)]
            exact ⟨rfl, hbel⟩
        · have nb : (m.hand != 0) = true := by simpa using n0
          by_cases n1 : m.hand < 0
          · go_wp2
            all_goals
              go_ret
              rw [hW'.out, if_pos (.inl n1)]
              exact ⟨rfl, hbel⟩
          · by_cases n3 : (m.fs.length : Int) ≤ m.hand
            · go_wp2
              all_goals
                go_ret
                rw [hW'.out, if_pos (.inr ⟨by omega, n3⟩)]
                exact ⟨rfl, hbel⟩
            · go_wp2
              all_goals
                go_ret
                rw [hW'.out, if_neg (by omega)]
                exact ⟨rfl, hbel⟩

set_option maxHeartbeats 1000000 in
set_option maxRecDepth 100000 in
theorem mwith_any (m : Mem) (k : Nat) (f : Fr) (a : Option Addr) (c : Nat) (w : World) (h : MRd w a c m) (hk : k < m.fs.length) (h40 : m.fs.length ≤ 40) :
    Calls Try.prog 79 #[.agg #[.slice a m.fs.length c, .int .i64 m.hand], .int .i64 k, .agg (frC f)] w fun e w' => ∃ vb, e = .returned (.agg #[vb, .int .i64 m.hand]) ∧ Own w' w.heap.size 72 13 vb m.fs.length ((m.fs.set k f).flatMap frL) ∧ Below w.heap.size w w' := by
  obtain ⟨ad, rfl⟩ : ∃ ad, a = some ad := by obtain ⟨b, off, rfl, _⟩ := fr_at h.rd k hk; exact ⟨_, rfl⟩
  go_enter Try.func79, Try.ntmps79
  unfold frC
  go_upto_region 1 with (fail)
  refine abs3 (fun W => Code.wp _ _ _ _ W) fun W0 hb0 hx0 hf0 hr0 hs0 => ?_
  have hg0 : w.heap.size + 3 ≤ W0.heap.size := by omega
  clear hs0
  have h0 := h.below hb0
  have hcx := fun o => (hx0.alloc o).cell
  have hf0' : Blk W0 (w.heap.size + 1) (frC f) 72 := hf0
  go_wp2_with (at_builtin; go_must (refine wpList_app rfl _ _ 62 rfl W0.heap.size 72 _ 13 40 Try.underlying62 frame_info rfl (by decide) _ 0 [] rfl ?own (some ad) m.fs.length c (m.fs.flatMap frL) rfl (fun h => (by cases h)) h.le (frames_len m.fs) ?rd (frames_one m.fs) (by unfold maxLen; omega) (by simp; omega) ?bb ?k))
  case own => exact ⟨rfl, .inr ⟨W0.heap.size, 0, 0, #[], rfl, Nat.le_refl _, Blk.new _ _ _, Nat.le_refl _, Nat.zero_le _, by simp, fun j u h => by simp at h⟩⟩
  case rd => exact h0.rd.below ((Below.refl _ _).alloc (Nat.le_refl _) _)
  case bb => exact le_alloc _ _
  intro v w1 hown hgr
  have hbel : Below W0.heap.size W0 w1 := ((Below.refl _ _).alloc (Nat.le_refl _) _).grown hgr (le_alloc _ _) (fun k hk => by cases hk; exact Nat.le_refl _)
  have ho : Own w1 W0.heap.size 72 13 v m.fs.length (m.fs.flatMap frL) := by simpa using hown
  have hbel1 := below_next hb0 hbel
  have hx1 := hx0.ext hbel
  have hf1 := hf0'.ext hbel
  have hr1 := hr0.ext hbel
  clear hown hgr hbel hb0 hx0 hf0 hf0' hr0 hcx h0
  obtain ⟨g, off, cap, cur, rfl, hB, hgb, hfit, _, hset⟩ := ho.put frL_len (by decide) k hk
  have hcf := hf1.cell
  have hkz : (k : Int) < (m.fs.length : Int) := by omega
  unfold frC at hcf
  go_wp2_with (refine wpList_st rfl _ (.tmp 15) (.tmp 14) rfl g (off + k * 13) (frC f) rfl rfl cur 72 hgb (by show _ + 13 ≤ _; omega) frame_size (frC_one _) ?_)
  intro w7 hq7 hgr7
  have hB7 := hset w7 f hq7
  have hx7 := blk_keep hx1 hgb (by decide) hgr7
  have hr7 := blk_keep hr1 hgb (by decide) hgr7
  have hbel7 : Below w.heap.size w w7 := hbel1.grown hgr7 hbel1.size (fun k hk => by cases hk; omega)
  clear hq7 hset hgb hx1 hr1 hcf hf1 hgr7 hbel1 ho
  have hcx := hx7.cell
  go_wp2_with (refine wpList_stw rfl _ (.tmp 6) (.tmp 19) rfl (w.heap.size + 2) #[.slice (some ⟨g, off, none⟩) m.fs.length cap, .int .i64 m.hand] rfl rfl _ _ hr7 (mem_fit _ _ _ _ _ _ _ _) mem_size (mem_one _ _ _ _) ?_)
  intro w8 hr8 hgr8
  have hB8 := own_keep hB7 hr7 (by decide) hgr8
  have hbel8 := hbel7.grown hgr8 hbel7.size (fun k hk => by cases hk; omega)
  have hcr := hr8.cell
  clear hcx
  go_wp2
  simp [bodyPost, results, go_sem, Try.results79, hcr]
  exact ⟨hB8.mono (by omega), hbel8⟩
end Go.Proofs.Ytohbfjbcfibhcaa
