/- The law TableHalves, walked. -/
import Derived.Test.YtmdnmknmniabeaaTabO
import Derived.Test.YtmdnmknmniabeaaMapI
import Derived.Test.YtmdnmknmniabeaaGrow2
namespace Go.Proofs.Ytmdnmknmniabeaa
open Go.RowKit Go.Maps Pw
set_option linter.unusedSimpArgs false
set_option linter.unusedVariables false

def halfTo (ps : List Int) (k : Nat) (i : Int) : Bool := (ps.take k).any fun n => decide (i = n.tdiv 8)
theorem halfTo_step (ps : List Int) (k : Nat) (h : k < ps.length) : halfTo ps (k + 1) = fun i => halfTo ps k i || decide (i = ps[k].tdiv 8) := by
  funext i
  unfold halfTo
  rw [List.take_add_one, List.any_append, List.getElem?_eq_getElem h]
  simp
theorem halves_law {t : Tb} (h : wrongT t = 0) (i : Nat) (hi : i < 8) : halfTo (pagesL t) (pagesL t).length (i : Int) = decide (0 < t[i].length) := by
  unfold halfTo
  rw [List.take_length, Bool.eq_iff_iff, List.any_eq_true, decide_eq_true_eq]
  have hh := wrongT_half h i hi
  have hl := halfE_len hh
  constructor
  · rintro ⟨n, hn, h1⟩
    unfold pagesL pagesTo at hn
    obtain ⟨m, hm, rfl⟩ := List.mem_map.1 hn
    obtain ⟨hm1, hm2⟩ := List.mem_filter.1 hm
    have hm3 := List.mem_range.1 hm1
    have h2 : (i : Int) = ((m / 8 : Nat) : Int) := by
      have := of_decide_eq_true h1
      rw [this, Int.tdiv_eq_ediv_of_nonneg (by omega)]
      omega
    have h3 : i = m / 8 := by omega
    rcases hl with hl | hl
    · exfalso
      have := getT_none (t := t) (q := i) (r := m % 8) hi (by omega) hl
      rw [show 8 * i + m % 8 = m from by omega] at this
      rw [this] at hm2
      cases hm2
    · omega
  · intro h1
    have h8 : t[i].length = 8 := by omega
    have ha := half_any hh (by omega)
    obtain ⟨e, he, hk⟩ := List.any_eq_true.1 ha
    obtain ⟨r, hr, rfl⟩ := List.mem_iff_getElem.1 he
    refine ⟨((8 * i + r : Nat) : Int), ?_, ?_⟩
    · unfold pagesL pagesTo
      refine List.mem_map.2 ⟨8 * i + r, List.mem_filter.2 ⟨List.mem_range.2 (by omega), ?_⟩, rfl⟩
      rw [getT_some hi (by omega) h8 (List.getElem?_eq_getElem hr)]
      exact hk
    · rw [decide_eq_true_eq, Int.tdiv_eq_ediv_of_nonneg (by omega)]
      omega
theorem pages_in (t : Tb) : ∀ n ∈ pagesL t, 0 ≤ n ∧ n < 64 := by
  intro n hn
  unfold pagesL pagesTo at hn
  obtain ⟨m, hm, rfl⟩ := List.mem_map.1 hn
  have := List.mem_range.1 (List.mem_filter.1 hm).1
  omega
theorem right_sz {t : Tb} (h : wrongT t = 0) : TbSz t := fun k hk => by
  have := halfE_len (wrongT_half h k hk)
  omega
theorem zTb_right : wrongT zTb = 0 := by decide
set_option maxHeartbeats 4000000 in
set_option maxRecDepth 100000 in
theorem table_halves (l d : List Int) (a a' : Option Addr) (c c' : Nat) (w : World) (hrd : RdV w a (l.map inV)) (hrd' : RdV w a' (d.map inV)) (hle : l.length ≤ c) (hle' : d.length ≤ c') (hnil : a = none → c = 0) (hnil' : a' = none → c' = 0) (h1 : l.length ≤ 1048576) (h2 : d.length ≤ 1048576) :
    Calls Try.prog 5 #[.slice a l.length c, .slice a' d.length c'] w fun r w' => r = .returned (.bool true) ∧ Below w.heap.size w w' := by
  have hmm := @run_makeMap Try.prog
  go_enter Try.func5, Try.ntmps5
  go_wp2_with fail
  refine (talive_any _).mono ?_
  rintro r w1 ⟨rfl, hb1⟩
  go_upto_region 4 with (fail)
  refine abs1 (fun W => Code.wp _ _ _ _ W) fun w2 hb2 hx2 hs2 => ?_
  have hbel2 := below_next hb1 hb2
  have hbel2' := hbel2
  clear hs2 hb2
  go_upto_region 5 with (at_builtin; first | (refine wpList_app rfl (.tmp 18) (.tmp 19) 36 rfl w.heap.size 3 (.int .i64 0) 1 8 Try.underlying36 int_info rfl (by decide) _ _ _ rfl (Own.empty _ _ hbel2.size) a l.length c (l.map inV) rfl hnil hle (ints_len l) (hrd.below (below_next hbel2' ((Below.refl _ _).alloc (Nat.le_refl _) _))) (ints_one l) (by unfold maxLen; omega) (by omega) (le_alloc' hbel2.size _) ?_))
  intro v3 w3 hv3 hgr3
  have hb3 : Below w2.heap.size w2 w3 := ((Below.refl _ _).alloc (Nat.le_refl _) _).grown hgr3 (le_alloc _ _) (fun k hk => by cases hk; exact Nat.le_refl _)
  have hx3 := hx2.ext hb3
  have hbel3 := below_next hbel2 hb3
  have hG1 : w.heap.size ≤ w1.heap.size := hb1.size
  clear hbel2' hb3 hgr3 hbel2 hx2 hb1
  go_upto_region 5 with (at_builtin; (refine wpList_app rfl (.tmp 20) (.tmp 21) 36 rfl w.heap.size 3 (.int .i64 0) 1 8 Try.underlying36 int_info rfl (by decide) _ _ _ rfl hv3 a' d.length c' (d.map inV) rfl hnil' hle' (ints_len d) (hrd'.below hbel3) (ints_one d) (by unfold maxLen; omega) (by omega) hbel3.size ?_))
  intro v4 w4 hv4 hgr4
  have hx4 : Blk w4 w1.heap.size #[.slice none 0 0, .slice none 0 0, .slice none 0 0, .slice none 0 0, .slice none 0 0, .slice none 0 0, .slice none 0 0, .slice none 0 0] 24 := blk_own hx3 hv3 (by decide) hgr4
  have hbel4 : Below w.heap.size w w4 := hbel3.grown hgr4 hbel3.size (fun k hk => hv3.ge k hk)
  rw [← List.map_append] at hv4
  obtain ⟨a4, c4, rfl, hle4, hmx4, hnil4, hrd4⟩ := hv4.rd
  have hlen4 : Hid ((l ++ d).length = l.length + d.length) := Lib.hid List.length_append
  have hget : Hid (∀ k, k < l.length + d.length → ∃ x, (l ++ d)[k]? = some x) := Lib.hid (fun k hk => ⟨(l ++ d)[k]'(by rw [hlen4.out]; exact hk), List.getElem?_eq_getElem _⟩)
  generalize hL : l ++ d = L at hrd4 hv4 hlen4 hget
  clear hL hx3 hbel3 hgr4 hv3 hrd4
  go_upto_region 5 with (fail)
  go_loopw [24] (fun i wr => ∃ (k : Nat) (t : Tb) (cs : Array Value), k ≤ l.length + d.length ∧ i = .int .i64 k ∧ Below w.heap.size w wr ∧ Own wr w.heap.size 3 1 (.slice a4 (l.length + d.length) c4) (l.length + d.length) (L.map inV) ∧ Blk wr w1.heap.size cs 24 ∧ TbO wr w.heap.size cs t ∧ Hid (wrongT t = 0)) (fun i _ => l.length + d.length - (intOf i).toNat)
  case atStart => exact ⟨0, zTb, _, Nat.zero_le _, rfl, hbel4, hv4, hx4, zTb_O _ _, Lib.hid zTb_right⟩
  case round =>
    obtain ⟨k, t, cs, hk, rfl, hbr, hv, hx, hT, h0⟩ := hrel
    clear hbel4 hv4 hx4
    have hsz := hT.sz
    by_cases hlt : k < l.length + d.length
    · have hkl : (k : Int) < (l.length : Int) + (d.length : Int) := by omega
      obtain ⟨x, hX⟩ := hget.out k hlt
      have hkL : k < L.length := by rw [hlen4.out]; exact hlt
      obtain ⟨_, _, hve, _, _, _, hr⟩ := hv.rd
      simp only [Value.slice.injEq] at hve
      obtain ⟨rfl, _, rfl⟩ := hve
      obtain ⟨b, off, rfl, hc⟩ := elem_at hr k hkL
      rw [show L[k] = x from (List.getElem?_eq_some_iff.1 hX).2] at hc
      clear hX hkL hr
      go_wp2_with (refine wpList_stn rfl _ _ _ rfl (enC ⟨1, 1, false⟩) rfl rfl rfl entry_size (enC_one _) ?_)
      intro w5 hb5 he5
      have hg5 : w1.heap.size < wr.heap.size := hx.lt
      clear hc
      by_cases hkge : l.length ≤ k
      · have hkg : (l.length : Int) ≤ (k : Int) := by omega
        go_wp2_with (refine wpList_stw rfl _ _ _ rfl wr.heap.size (enC zEn) rfl rfl _ _ he5 rfl entry_size (enC_one _) ?_)
        intro w6 he6 hgr6
        have hb6 := hb5.grown hgr6 hb5.size (fun k hk => by cases hk; exact Nat.le_refl _)
        have hbel6 := below_next hbr hb6
        have hv6 := hv.below hb6
        have hx6 := hx.ext hb6
        have hT6 := hT.below hb6
        clear hbr hv hx hT hb5 he5 hgr6 hb6
        go_wp2_with (first | (refine wpList_ldg _ _ rfl _ 0 rfl rfl _ hx6.rd _ Try.underlying24 tab_agg (by rw [Array.length_toList, hsz]; exact tab_size) ?_) | (refine wpList_ldg _ _ rfl _ 0 rfl rfl _ he6.rd _ Try.underlying26 rfl entry_size ?_))
        refine (tset_any t cs x zEn _ hT6.rd (right_sz h0.out)).mono ?_
        rintro r w7 ⟨ca, rfl, hO7, hb7⟩
        have hbel7 := below_next hbel6 hb7
        have hv7 := hv6.below hb7
        have hx7 := hx6.ext hb7
        have hT7 := hT6.below hb7
        have hone7 := hO7.rd.one
        have hsz7 := hO7.sz
        have hO7' := hO7.mono hbel6.size
        clear hbel6 hv6 hx6 hT6 he6 hb7 hO7
        go_wp2_with (refine wpList_stn rfl _ _ _ rfl ca rfl rfl (by rw [hsz7]; rfl) (by rw [hsz7]; exact tab_size) hone7 ?_)
        intro w8 hb8 ha8
        have hbel8 := below_next hbel7 hb8
        have hv8 := hv7.below hb8
        have hx8 := hx7.ext hb8
        have hT8 := hT7.below hb8
        have hO8 := hO7'.below hb8
        clear hbel7 hv7 hx7 hT7 hb8 hO7'
        by_cases hs : setE t x zEn = 0
        · have hs' := Lib.hid (setT_right hs)
          rw [hs]
          clear hs
          go_wp2_with (first | (refine wpList_ldg _ _ rfl _ 0 rfl rfl _ ha8.rd _ Try.underlying24 tab_agg (by rw [Array.length_toList, hsz7]; exact tab_size) ?_) | (refine wpList_stw rfl _ _ _ rfl w1.heap.size ca rfl rfl _ _ hx8 (by rw [hsz, hsz7]) (by rw [hsz7]; exact tab_size) hone7 ?_))
          intro w9 hx9 hgr9
          have hbel9 := hbel8.grown hgr9 hbel8.size (fun k hk => by cases hk; exact hG1)
          have hv9 := own_keep hv8 hx8 (by decide) hgr9
          have hO9 := hO8.keep hx8 (by decide) hgr9
          clear hbel8 hv8 hx8 hT8 hO8 ha8 hgr9
          go_wp2
          go_roundw
          case rel => exact ⟨k + 1, _, _, by omega, by go_num, hbel9, hv9, hx9, hO9, hs'⟩
          case measure => simp [intOf]; omega
        · have hs' : (setE t x zEn == 0) = false := by simpa using hs
          clear hs
          go_wp2
          go_roundw
          case rel => exact ⟨k + 1, _, _, by omega, by go_num, hbel8, hv8, hx8, hT8, h0⟩
          case measure => simp [intOf]; omega
      · have hkg : ¬ (l.length : Int) ≤ (k : Int) := by omega
        have hbel5 := below_next hbr hb5
        have hv5 := hv.below hb5
        have hx5 := hx.ext hb5
        have hT5 := hT.below hb5
        clear hbr hv hx hT hb5
        go_upto_region 10 with (fail)
        go_wp2_with (first | (refine wpList_ldg _ _ rfl _ 0 rfl rfl _ hx5.rd _ Try.underlying24 tab_agg (by rw [Array.length_toList, hsz]; exact tab_size) ?_) | (refine wpList_ldg _ _ rfl _ 0 rfl rfl _ he5.rd _ Try.underlying26 rfl entry_size ?_))
        refine (tset_any t cs x ⟨1, 1, false⟩ _ hT5.rd (right_sz h0.out)).mono ?_
        rintro r w7 ⟨ca, rfl, hO7, hb7⟩
        have hbel7 := below_next hbel5 hb7
        have hv7 := hv5.below hb7
        have hx7 := hx5.ext hb7
        have hT7 := hT5.below hb7
        have hone7 := hO7.rd.one
        have hsz7 := hO7.sz
        have hO7' := hO7.mono hbel5.size
        clear hbel5 hv5 hx5 hT5 he5 hb7 hO7
        go_wp2_with (refine wpList_stn rfl _ _ _ rfl ca rfl rfl (by rw [hsz7]; rfl) (by rw [hsz7]; exact tab_size) hone7 ?_)
        intro w8 hb8 ha8
        have hbel8 := below_next hbel7 hb8
        have hv8 := hv7.below hb8
        have hx8 := hx7.ext hb8
        have hT8 := hT7.below hb8
        have hO8 := hO7'.below hb8
        clear hbel7 hv7 hx7 hT7 hb8 hO7'
        by_cases hs : setE t x ⟨1, 1, false⟩ = 0
        · have hs' := Lib.hid (setT_right hs)
          rw [hs]
          clear hs
          go_wp2_with (first | (refine wpList_ldg _ _ rfl _ 0 rfl rfl _ ha8.rd _ Try.underlying24 tab_agg (by rw [Array.length_toList, hsz7]; exact tab_size) ?_) | (refine wpList_stw rfl _ _ _ rfl w1.heap.size ca rfl rfl _ _ hx8 (by rw [hsz, hsz7]) (by rw [hsz7]; exact tab_size) hone7 ?_))
          intro w9 hx9 hgr9
          have hbel9 := hbel8.grown hgr9 hbel8.size (fun k hk => by cases hk; exact hG1)
          have hv9 := own_keep hv8 hx8 (by decide) hgr9
          have hO9 := hO8.keep hx8 (by decide) hgr9
          clear hbel8 hv8 hx8 hT8 hO8 ha8 hgr9
          go_wp2
          go_roundw
          case rel => exact ⟨k + 1, _, _, by omega, by go_num, hbel9, hv9, hx9, hO9, hs'⟩
          case measure => simp [intOf]; omega
        · have hs' : (setE t x ⟨1, 1, false⟩ == 0) = false := by simpa using hs
          clear hs
          go_wp2
          go_roundw
          case rel => exact ⟨k + 1, _, _, by omega, by go_num, hbel8, hv8, hx8, hT8, h0⟩
          case measure => simp [intOf]; omega
    · have hkl : ¬ (k : Int) < (l.length : Int) + (d.length : Int) := by omega
      have hlaw := Lib.hid (halves_law h0.out)
      have hp64 := pagesTo_le t 64
      clear hv hget hlen4 h0
      go_upto_region 16 with (refine wpList_ldg _ _ rfl _ 0 rfl rfl _ (hx.alloc (.map #[] 0)).rd _ Try.underlying24 tab_agg (by rw [Array.length_toList, hsz]; exact tab_size) ?_)
      refine (tpages_any t cs _ (hT.rd.below ((Below.refl _ _).alloc (Nat.le_refl _) _))).mono ?_
      rintro r w5 ⟨vp, rfl, hop, hb5⟩
      have hbA : Below wr.heap.size wr w5 := ((Below.refl _ _).alloc (Nat.le_refl _) _).trans (hb5.mono (le_alloc _ _))
      have hM5 : MapO w5 wr.heap.size 0 (halfTo (pagesL t) 0) := (MapO.made wr).below hb5
      have hx5 := hx.ext hbA
      have hT5 := hT.below hbA
      have hbel5 := below_next hbr hbA
      have hgm : w1.heap.size < wr.heap.size := hx.lt
      obtain ⟨ap, cp, rfl, hlep, hmxp, hnilp, hrdp⟩ := hop.rd
      have hlp : (pagesL t).length ≤ 64 := hp64
      clear hbr hx hT hb5 hbA hop hmm
      go_upto_region 16 with (fail)
      obtain ⟨gm, hGM⟩ : ∃ g, g = wr.heap.size := ⟨_, rfl⟩
      rw [← hGM] at hM5 hgm ⊢
      clear hGM
      go_loopw [50] (fun i wr' => ∃ (q : Nat), q ≤ (pagesL t).length ∧ i = .int .i64 q ∧ Below w.heap.size w wr' ∧ RdV wr' ap ((pagesL t).map inV) ∧ Blk wr' w1.heap.size cs 24 ∧ TbO wr' w.heap.size cs t ∧ MapO wr' gm q (halfTo (pagesL t) q)) (fun i _ => (pagesL t).length - (intOf i).toNat)
      case atStart => exact ⟨0, Nat.zero_le _, rfl, hbel5, hrdp, hx5, hT5, hM5⟩
      case round =>
        obtain ⟨q, hq, rfl, hbr, hrp, hx, hT, hM⟩ := hrel
        clear hbel5 hrdp hx5 hT5 hM5
        by_cases hql : q < (pagesL t).length
        · obtain ⟨b, off, rfl, hc⟩ := elem_at hrp q hql
          have hin : 0 ≤ (pagesL t)[q] ∧ (pagesL t)[q] < 64 := pages_in t _ (List.getElem_mem hql)
          have hst := Lib.hid (halfTo_step (pagesL t) q hql)
          generalize hx0 : (pagesL t)[q] = x at hc hin hst
          have hq' := hql
          have hdiv : -9223372036854775808 ≤ x.tdiv 8 ∧ x.tdiv 8 ≤ 9223372036854775807 := by
            rw [Int.tdiv_eq_ediv_of_nonneg hin.1]; omega
          clear hx0
          go_wp2_with (refine wpList_mark hM (by omega) rfl _ _ _ rfl rfl (x.tdiv 8) rfl rfl hdiv ?_)
          intro w6 hM6 hgr6
          have hbel6 := hbr.grown hgr6 hbr.size (fun k hk => by cases hk; omega)
          have hrp6 := hM.rdv hrp hgr6
          have hx6 := hx.grown hgr6 (fun e => by have := Option.some.inj e; omega)
          have hT6 : TbO w6 w.heap.size cs t := ⟨hT.sz, fun k hk => by obtain ⟨v, q1, q2⟩ := hT.own k hk; exact ⟨v, q1, hM.own q2 hgr6⟩, hT.apart⟩
          rw [← hst.out] at hM6
          clear hbr hrp hx hT hM hgr6 hst hdiv hin
          go_wp2
          go_roundw
          case rel => exact ⟨q + 1, by omega, by go_num, hbel6, hrp6, hx6, hT6, hM6⟩
          case measure => simp [intOf]; omega
        · obtain rfl : q = (pagesL t).length := by omega
          clear hrp
          go_wp2_with (refine wpList_ldg _ _ rfl _ 0 rfl rfl _ hx.rd _ Try.underlying24 tab_agg (by rw [Array.length_toList, hsz]; exact tab_size) ?_)
          go_loopw [59] (fun i wr2 => ∃ (j : Nat), j ≤ 8 ∧ i = .int .i64 j ∧ Below w.heap.size w wr2 ∧ TbO wr2 w.heap.size cs t ∧ MapO wr2 gm (pagesL t).length (halfTo (pagesL t) (pagesL t).length)) (fun i _ => 8 - (intOf i).toNat)
          case atStart => exact ⟨0, Nat.zero_le _, rfl, hbr, hT, hM⟩
          case round =>
            obtain ⟨j, hj, rfl, hbr', hT', hM'⟩ := hrel
            clear hbr hT hM hx
            by_cases hj8 : j < 8
            · have hj8' : (j : Int) < 8 := by omega
              obtain ⟨v, hv1, hv2⟩ := hT'.own j hj8
              obtain ⟨av, cv, rfl, _, hvm, _, _⟩ := hv2.rd
              have hix := fun W => idx_tab hj8 hv1 W
              have hlook := hM'.look (j : Int) (by omega)
              rw [hlaw.out j hj8] at hlook
              unfold maxLen at hvm
              clear hv1 hv2
              generalize t[j].length = len at hix hlook hvm
              by_cases hz : 0 < len
              · have hz1 : decide (0 < len) = true := decide_eq_true hz
                rw [hz1] at hlook
                clear hz1
                go_wp2
                go_roundw
                case rel => exact ⟨j + 1, by omega, by go_num, hbr', hT', hM'⟩
                case measure => simp [intOf]; omega
              · have hz1 : decide (0 < len) = false := decide_eq_false hz
                obtain rfl : len = 0 := by omega
                rw [hz1] at hlook
                clear hz hz1
                go_wp2
                go_roundw
                case rel => exact ⟨j + 1, by omega, by go_num, hbr', hT', hM'⟩
                case measure => simp [intOf]; omega
            · have hj8' : ¬ (j : Int) < 8 := by omega
              go_wp2
              go_ret
              exact ⟨rfl, hbr'⟩
end Go.Proofs.Ytmdnmknmniabeaa
