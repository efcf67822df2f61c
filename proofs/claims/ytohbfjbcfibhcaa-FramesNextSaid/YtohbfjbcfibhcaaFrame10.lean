/- The closed fact of package pglaw3. -/
import Derived.Test.YtohbfjbcfibhcaaFrame9
namespace Go.Proofs.Ytohbfjbcfibhcaa
open Go.RowKit Pw
set_option linter.unusedSimpArgs false
set_option linter.unusedVariables false

def pg9 : Page := #v[9, 0, 0, 0, 0, 0, 0, 0]
def m2 : Mem := ⟨[frZ, frZ], 0⟩
def m29 : Mem := ⟨[⟨pg9, 1, true, false, -1, 0⟩, frZ], 0⟩
theorem lit9 : pgC pg9 = #[.int .u8 9, .int .u8 0, .int .u8 0, .int .u8 0, .int .u8 0, .int .u8 0, .int .u8 0, .int .u8 0] := rfl
theorem m2_new : newM 2 = m2 := by decide
theorem m2_newE : newME 2 = 0 := by decide
theorem m29_E : takeE m2 pg9 (-1) 0 = 0 := by decide
theorem m29_K : takeK m2 pg9 (-1) 0 = 0 := by decide
theorem m29_M : takeM m2 pg9 (-1) 0 = m29 := by decide
theorem h29_E : holdE m29 0 (-1) = 0 := by decide
theorem h29_M : holdM m29 0 (-1) = m2 := by decide
theorem n29_E : wrongM m29 = 0 := by decide
theorem n29_K : nextK m29 = 0 := by decide
theorem f29 : freeN m29.fs = 1 := by decide
theorem f2 : freeN m2.fs = 2 := by decide
theorem mem_next {w : World} {B : Nat} {v : Value} {m : Mem} (h : Own w B 72 13 v m.fs.length (m.fs.flatMap frL)) : ∃ a c, v = .slice a m.fs.length c ∧ MRd w a c m := mown_rd h
theorem one_z : ((1 : Nat) : Int) = 1 := rfl
set_option maxHeartbeats 1000000 in
set_option maxRecDepth 100000 in
theorem alive3 (w : World) : Calls Try.prog 55 #[] w fun e w' => e = .returned (.bool true) ∧ Below w.heap.size w w' := by
  go_enter Try.func55, Try.ntmps55
  go_wp2_with fail
  refine (mnew_any 2 _).mono ?_
  rintro e w1 ⟨vb, rfl, ho1, hb1⟩
  rw [m2_newE]
  rw [m2_new] at ho1
  obtain ⟨a1, c1, rfl, hd1⟩ := mown_rd ho1
  clear ho1
  go_wp2_with fail
  refine abs1 (fun W => Calls _ _ _ W _) fun W1 hbA hx1 hs1 => ?_
  have hbelA := below_next hb1 hbA
  have ht := mtake_any m2 pg9 (-1) 0 a1 c1 W1 (hd1.below hbA)
  rw [m29_E, m29_K, m29_M] at ht
  refine ht.mono ?_
  rintro e w2 ⟨vb, rfl, ho2, hb2⟩
  have hbel2 := below_next hbelA hb2
  have hx2 := hx1.ext hb2
  obtain ⟨a2, c2, rfl, hd2⟩ := mown_rd ho2
  have hgA := hbelA.size
  have hgx := hx1.lt
  clear ht hd1 hbA hb2 hx1 hs1
  go_wp2_with (refine wpList_stw rfl _ (.tmp 1) (.tmp 18) rfl w1.heap.size #[.slice a2 m29.fs.length c2, .int .i64 m29.hand] rfl rfl _ _ hx2 (mem_fit _ _ _ _ _ _ _ _) (mem_info _ _) (mem_one _ _ _ _) ?_)
  intro w3 hx3 hgr
  have hbel3 := hbel2.grown hgr hbel2.size (fun k hk => by cases hk; exact hb1.size)
  have ho3 := own_keep ho2 hx2 (by decide) hgr
  obtain ⟨_, _, e1, hd3⟩ := mown_rd ho3
  cases e1
  clear ho2 ho3 hd2 hx2 hgr hbel2
  have hc3 := hx3.cell
  have hh := mhold_any m29 0 (-1) a2 c2 w3 hd3
  rw [h29_E, h29_M] at hh
  go_wp2_with fail
  refine hh.mono ?_
  rintro e w4 ⟨vb, rfl, ho4, hb4⟩
  have hbel4 := below_next hbel3 hb4
  have hx4 := hx3.ext hb4
  have hd4 := hd3.below hb4
  obtain ⟨a4, c4, rfl, hn4⟩ := mown_rd ho4
  clear hc3 hx3 hd3 hb4 hh ho4
  go_upto_region 4 with (fail)
  refine abs1 (fun W => Code.wp _ _ _ _ W) fun w5 hb5 hy5 hs5 => ?_
  have hbel5 := below_next hbel4 hb5
  have hx5 := hx4.ext hb5
  have hd5 := hd4.below hb5
  have hn5 := hn4.below hb5
  clear hx4 hd4 hn4 hb5 hs5
  have hc5 := hx5.cell
  have hh := mnext_any m29 a2 c2 w5 hd5
  rw [n29_E, n29_K] at hh
  go_wp2_with fail
  refine hh.mono ?_
  rintro e w6 ⟨vb, rfl, ho6, hb6⟩
  have hbel6 := below_next hbel5 hb6
  have hx6 := hx5.ext hb6
  have hy6 := hy5.ext hb6
  have hd6 := hd5.below hb6
  have hn6 := hn5.below hb6
  obtain ⟨a6, c6, rfl, _⟩ := mown_rd ho6
  clear hc5 hx5 hy5 hd5 hn5 hb6 hh ho6
  go_upto_region 5 with (fail)
  refine abs1 (fun W => Code.wp _ _ _ _ W) fun w7 hb7 _ hs7 => ?_
  have hbel7 := below_next hbel6 hb7
  have hx7 := hx6.ext hb7
  have hy7 := hy6.ext hb7
  have hd7 := hd6.below hb7
  have hn7 := hn6.below hb7
  clear hx6 hy6 hd6 hn6 hb7 hs7
  have hc7 := hx7.cell
  have hf1 := mfree_any m29 a2 c2 w7 hd7
  rw [f29] at hf1
  go_wp2_with fail
  refine hf1.mono ?_
  rintro e w8 ⟨rfl, hb8⟩
  have hbel8 := below_next hbel7 hb8
  have hx8 := hx7.ext hb8
  have hy8 := hy7.ext hb8
  have hd8 := hd7.below hb8
  have hn8 := hn7.below hb8
  clear hc7 hx7 hy7 hd7 hn7 hb8 hf1
  have hcy := hy8.cell
  have hf2 := mfree_any m2 a4 c4 w8 hn8
  rw [f2] at hf2
  go_wp2_with fail
  refine hf2.mono ?_
  rintro e w9 ⟨rfl, hb9⟩
  have hbel9 := below_next hbel8 hb9
  have hx9 := hx8.ext hb9
  have hd9 := hd8.below hb9
  clear hcy hx8 hy8 hd8 hn8 hb9 hf2
  have hcx := hx9.cell
  have hl : ((m29.fs.length : Nat) : Int) = 2 := rfl
  obtain ⟨b, off, rfl, hc⟩ := fr_at hd9.rd 0 (by decide)
  have c0 := hc.c0
  rw [Nat.zero_mul, Nat.add_zero] at c0
  have c0' : w9.cell? ⟨b, off, none⟩ = some (.int .u8 9) := c0
  clear c0 hc
  go_wp2
  go_ret
  exact ⟨rfl, hbel9⟩
end Go.Proofs.Ytohbfjbcfibhcaa
