/- The document's Map. -/
import Derived.Test.YtmdnmknmniabeaaAo9
import Derived.Test.YtmdnmknmniabeaaGrowN
namespace Go.Proofs.Ytmdnmknmniabeaa
open Go.RowKit Pw
set_option linter.unusedSimpArgs false
set_option linter.unusedVariables false

/-- In the midst of Map: an area laid over pages, up to page n. -/
def midF (x : Ar) (n : Nat) (f : Nat → Option Pg) : Nat → Option Pg := fun i => if inA (i : Int) x = true ∧ i < n then some (pgOf x i) else f i
theorem midF_start (x : Ar) (f : Nat → Option Pg) : midF x 0 f = f := by funext i; unfold midF; rw [if_neg (by omega)]
theorem midF_at (x : Ar) (n : Nat) (f : Nat → Option Pg) : midF x n f n = f n := by unfold midF; rw [if_neg (by omega)]
theorem midF_skip {x : Ar} {n : Nat} (h : ¬ inA (n : Int) x = true) (f : Nat → Option Pg) : midF x (n + 1) f = midF x n f := by
  funext i
  unfold midF
  by_cases c : i = n
  · subst c; rw [if_neg (fun q => h q.1), if_neg (fun q => h q.1)]
  · by_cases d : inA (i : Int) x = true ∧ i < n
    · rw [if_pos d, if_pos ⟨d.1, by omega⟩]
    · rw [if_neg d, if_neg (fun q => d ⟨q.1, by omega⟩)]
theorem midF_put {x : Ar} {n : Nat} (h : inA (n : Int) x = true) (f : Nat → Option Pg) : (fun i => if i = n then some (pgOf x n) else midF x n f i) = midF x (n + 1) f := by
  funext i
  unfold midF
  by_cases c : i = n
  · subst c; rw [if_pos rfl, if_pos ⟨h, by omega⟩]
  · rw [if_neg c]
    by_cases d : inA (i : Int) x = true ∧ i < n
    · rw [if_pos d, if_pos ⟨d.1, by omega⟩]
    · rw [if_neg d, if_neg (fun q => d ⟨q.1, by omega⟩)]
theorem one_at (x : Ar) (i : Nat) : onesF [x] i = if inA (i : Int) x = true then some (pgOf x i) else none := by
  unfold onesF
  simp only [List.foldl_cons, List.foldl_nil]
  unfold ovr f0
  by_cases c : inA (i : Int) x = true
  · rw [if_pos c, if_pos (inA_iff.1 c)]
  · rw [if_neg c, if_neg (fun h => c (inA_iff.2 h))]
theorem any_page {l : List Ar} {x : Ar} {i : Int} (hx : inA i x = true) (hl : onA l i ≠ none) : l.any (meetsA x) = true := by
  have hh := (find_on l i).2 hl
  have := idx_any (inA i) l
  rw [show decide (0 ≤ idx (inA i) l) = true from decide_eq_true hh] at this
  obtain ⟨a, ha, hin⟩ := List.any_eq_true.1 this.symm
  refine List.any_eq_true.2 ⟨a, ha, ?_⟩
  rw [inA_iff] at hx hin
  unfold meetsA
  rw [decide_eq_true (by omega), decide_eq_true (by omega)]; rfl
theorem no_page {l : List Ar} {x : Ar} (hok : okF none l) (hx : areaE x = 0) (h : ∀ i : Nat, i < 64 → ¬ (inA (i : Int) x = true ∧ onA l i ≠ none)) : l.any (meetsA x) = false := by
  rw [List.any_eq_false]
  intro a ha hm
  have ha0 := (srtF_ok (okF_srt0 hok) a ha).1
  have e1 := areaE_few ha0
  have e2 := areaE_few hx
  unfold arFew at e1 e2
  unfold meetsA at hm
  rw [Bool.and_eq_true, decide_eq_true_eq, decide_eq_true_eq] at hm
  refine h (max a.fr x.fr).toNat (by omega) ⟨inA_iff.2 (by omega), on_mem ha (inA_iff.2 (by omega))⟩
def zonR (B : Nat) : Rel := ⟨fun v w => ∃ g, v = .pointer (some ⟨g, 0, none⟩) ∧ Blk w g (fC f0) 78 ∧ B ≤ g, fun _ _ _ hb ⟨g, h1, h2, h3⟩ => ⟨g, h1, h2.ext hb, h3⟩⟩
theorem zon_not {l : List Rel} {p q i B : Nat} {w : World} (hp : l.getD q anyR = zonR B) (hq : l.getD p anyR = zonR B) : NotIt (rl l) p q i (.pointer (some ⟨w.heap.size, 0, none⟩)) w := by
  refine alloc_notIt (fun u hu => ?_) (fun u hu => ?_)
  · unfold rl at hu
    rw [hp] at hu
    obtain ⟨g, h1, h2, _⟩ := hu
    exact ⟨g, _, _, h1, h2⟩
  · unfold rl at hu
    rw [hq] at hu
    obtain ⟨g, h1, h2, _⟩ := hu
    exact ⟨g, _, _, h1, h2⟩
theorem asked_newN {P : Program} {ops : Array Oper} {ρ : Operand → Value} {o : Oper} {w w' : World} {l : List Rel} {p q i : Nat} (v : Value) (hw : Region.wanted o (says ρ ops) = true) (hrun : (execOp ρ o).run P w = .ok (.value v) w') (hb : Below w.heap.size w w') (hR : rl l i v w') (hN : NotIt (rl l) p q i v w) :
    if Region.wanted o (says ρ ops) = true then GivesR P o ρ w (fun v w' => (Below w.heap.size w w' ∧ rl l i v w') ∧ NotIt (rl l) p q i v w) else rl l i undef w ∧ i ≠ p ∧ i ≠ q := by
  rw [if_pos hw]
  unfold GivesR
  rw [hrun]
  exact ⟨⟨hb, hR⟩, hN⟩

set_option maxHeartbeats 4000000 in
set_option maxRecDepth 100000 in
theorem rmap_any (l : List Ar) (x : Ar) (a : Option Addr) (c : Nat) (w : World) (h : AsR w a c l) :
    Calls Try.prog 46 #[.slice a l.length c, .agg (arC x)] w fun r w' => ∃ v, r = .returned (.tuple #[v, .int .i64 (mapE l x)]) ∧ Own w' w.heap.size 66 7 v (mapL l x).length ((mapL l x).flatMap arL) ∧ Below w.heap.size w w' := by
  go_enter Try.func46, Try.ntmps46
  go_upto_region 1 with (fail)
  refine abs1 (fun W => Code.wp _ _ _ _ W) fun W0 hb0 hx0 hs0 => ?_
  clear hs0
  go_wp2_with fail
  refine (rwrong_any l a c _ (h.below hb0)).mono ?_
  rintro r w1 ⟨rfl, hb1⟩
  have hbel1 := below_next hb0 hb1
  have hx1 := hx0.ext hb1
  clear hb0 hx0 hb1
  unfold fauC
  go_wp2_with (refine wpList_stn rfl _ _ _ rfl #[.int .i64 (wrongA l).1, .int .i64 (wrongA l).2] rfl rfl rfl fau_size (fau_one _ _) ?_)
  intro w2 hb2 hf2
  have hbel := below_next hbel1 hb2
  have hx2 := hx1.ext hb2
  clear hbel1 hx1 hb2
  by_cases hw : (wrongA l).1 = 0
  · have hall := wrongA_iff.1 hw
    have hw0 := Lib.hid hw
    have hsr := okF_srt0 hall.2
    rw [hw] at hf2
    have hcf := hf2.cell
    clear hw
    go_wp2_with (refine wpList_ldg _ _ rfl _ 0 rfl rfl _ hx2.rd _ Try.underlying66 rfl area_size ?_)
    refine (warea_any x _).mono ?_
    rintro r w3 ⟨rfl, hb3⟩
    have hbel := below_next hbel hb3
    have hx3 := hx2.ext hb3
    clear hcf hf2 hx2 hb3
    by_cases he : areaE x = 0
    · have he0 := Lib.hid he
      rw [he]
      clear he
      go_upto_region 7 with (fail)
      refine wp_growN 7 5 6 [isV (.slice a l.length c), isV (.agg (fC (onesF l))), isV (.agg (arC x)), (oneA x), isV (.agg (fC (onesF [x]))), (zonR w.heap.size), (zonR w.heap.size)] (by kernel_rfl) (by decide) (by decide) (by decide) _ rfl (by kernel_rfl) (by kernel_rfl) (by decide) _ rfl (by kernel_rfl) (all_cons ?_ (all_cons ?_ (all_cons ?_ (all_cons ?_ (all_cons ?_ (all_cons ?_ (all_cons ?_ (all_nil)))))))) ?_
      · refine askedN_of (by decide) (by decide) ?_
        intro ρ y W hw hn hb hd
        have E0 : ρ (.tmp 0) = .slice a l.length c := (hn (.tmp 0) rfl).trans rfl
        refine asked_val (.slice a l.length c) (want_free rfl) (run_move (.inl rfl) E0) rfl
      · refine askedN_of (by decide) (by decide) ?_
        intro ρ y W hw hn hb hd
        have E23 := hw 23 0 rfl
        have h0 : y 0 = .slice a l.length c := hd 0 rfl
        have EF : ∀ f, ρ (.func f) = .func (.func f) #[] #[] := fun f => hn (.func f) trivial
        refine asked_call _ _ (want_free rfl) (run_call rfl (EF _) Try.func53 (by kernel_rfl) (by kernel_rfl) (by simp only [List.map_toArray, List.map_cons, List.map_nil, E23, h0, EF]; rfl)) ?_
        refine (ones_any l a c W (h.below (below_next hbel hb)).rd (by omega) (fun x hx => (srtF_ok hsr x hx).1)).mono ?_
        rintro r w1 ⟨rfl, hb1⟩
        exact ⟨_, rfl, hb1, rfl⟩
      · refine askedN_of (by decide) (by decide) ?_
        intro ρ y W hw hn hb hd
        have E3 : ρ (.tmp 3) = .pointer (some ⟨w.heap.size, 0, none⟩) := (hn (.tmp 3) rfl).trans rfl
        refine asked_val (.agg (arC x)) (want_free rfl) (run_load_blk rfl E3 (hx3.ext hb) Try.underlying66 rfl area_size) rfl
      · refine askedN_of (by decide) (by decide) ?_
        intro ρ y W hw hn hb hd
        have E25 := hw 25 2 rfl
        have h2 : y 2 = .agg (arC x) := hd 2 rfl
        refine asked_new (.slice (some ⟨W.heap.size, 0, none⟩) 1 1) (want_free rfl) (by simp [execOp, go_sem, stripO, E25, h2, arC]) ((Below.refl _ _).alloc (Nat.le_refl _) (.cells (arC x) 66)) ?_
        exact ⟨_, rfl, Blk.new _ _ _⟩
      · refine askedN_of (by decide) (by decide) ?_
        intro ρ y W hw hn hb hd
        have E26 := hw 26 3 rfl
        have h3 := hd 3 rfl
        have EF : ∀ f, ρ (.func f) = .func (.func f) #[] #[] := fun f => hn (.func f) trivial
        obtain ⟨gq, hq3, hqb⟩ := h3
        refine asked_call _ _ (want_free rfl) (run_call rfl (EF _) Try.func53 (by kernel_rfl) (by kernel_rfl) (by simp only [List.map_toArray, List.map_cons, List.map_nil, E26, EF, hq3]; rfl)) ?_
        refine (ones_any [x] _ 1 W (fun j u hj => hqb.rd j u (by simpa [arL] using hj)) (by simp) (fun z hz => by rw [List.mem_singleton.1 hz]; exact he0.out)).mono ?_
        rintro r w1 ⟨rfl, hb1⟩
        exact ⟨_, rfl, hb1, rfl⟩
      · intro ρ y W hw hn hb hd
        refine asked_newN (.pointer (some ⟨W.heap.size, 0, none⟩)) (want_free rfl) (w' := W.alloc (.cells (fC f0) 78)) ?_ ((Below.refl _ _).alloc (Nat.le_refl _) _) ⟨_, rfl, Blk.new _ _ _, (below_next hbel hb).size⟩ (zon_not rfl rfl)
        simp [execOp, go_sem, stripO, stripO]
        rfl
      · intro ρ y W hw hn hb hd
        refine asked_newN (.pointer (some ⟨W.heap.size, 0, none⟩)) (want_free rfl) (w' := W.alloc (.cells (fC f0) 78)) ?_ ((Below.refl _ _).alloc (Nat.le_refl _) _) ⟨_, rfl, Blk.new _ _ _, (below_next hbel hb).size⟩ (zon_not rfl rfl)
        simp [execOp, go_sem, stripO, stripO]
        rfl
      intro y WA hbWA hRWA hyne
      have hy0 : y 0 = .slice a l.length c := hRWA 0 (by decide)
      have hy1 : y 1 = .agg (fC (onesF l)) := hRWA 1 (by decide)
      have hy2 : y 2 = .agg (arC x) := hRWA 2 (by decide)
      have hy4 : y 4 = .agg (fC (onesF [x])) := hRWA 4 (by decide)
      have hy3 := hRWA 3 (by decide)
      have hy5 : ((zonR w.heap.size)).r (y 5) WA := hRWA 5 (by decide)
      have hy6 : ((zonR w.heap.size)).r (y 6) WA := hRWA 6 (by decide)
      clear hRWA
      simp only [lay, strip, stripO, List.map_cons, List.map_nil, Nat.reduceAdd, Nat.reduceLT, decide_true, decide_false, if_true, Bool.false_eq_true, if_false, List.setIfInBounds_toArray, List.set_cons_zero, List.set_cons_succ, List.drop_succ_cons, List.drop_zero, List.drop_nil, hy0, hy1, hy2, hy4]
      clear hy0 hy1 hy2 hy4
      obtain ⟨gX, hyX, hbX, hgX⟩ : ∃ g, y 5 = .pointer (some ⟨g, 0, none⟩) ∧ Blk WA g (fC f0) 78 ∧ w.heap.size ≤ g := hy5
      obtain ⟨gY, hyY, hbY, hgY⟩ : ∃ g, y 6 = .pointer (some ⟨g, 0, none⟩) ∧ Blk WA g (fC f0) 78 ∧ w.heap.size ≤ g := hy6
      have hXY : gX ≠ gY := fun e => hyne (by rw [hyX, hyY, e])
      simp only [hyX, hyY]
      have hbelA := below_next hbel hbWA
      clear hy3 hyX hyY hyne hbel hx3 hbWA
      go_upto_region 8 with (refine wpList_stw rfl _ _ _ rfl gX (fC (onesF l)) rfl rfl _ _ hbX (by rw [fC_size, fC_size]) (by rw [fC_size]; exact ones_size) (vsC_one _) ?_)
      intro W5 hX5 hgr5
      have hbel5 := hbelA.grown hgr5 hbelA.size (fun k hk => by cases hk; exact hgX)
      have hY5 : Blk W5 gY (fC f0) 78 := hbY.grown hgr5 (fun e => hXY (Option.some.inj e))
      clear hbelA hbX hbY hgr5
      go_upto_region 8 with (refine wpList_stw rfl _ _ _ rfl gY (fC (onesF [x])) rfl rfl _ _ hY5 (by rw [fC_size, fC_size]) (by rw [fC_size]; exact ones_size) (vsC_one _) ?_)
      intro W6 hY6 hgr6
      have hbel6 := hbel5.grown hgr6 hbel5.size (fun k hk => by cases hk; exact hgY)
      have hX6 : Blk W6 gX (fC (onesF l)) 78 := hX5.grown hgr6 (fun e => hXY (Option.some.inj e).symm)
      clear hbel5 hX5 hY5 hgr6
      go_upto_region 9 with (fail)
      go_loopw [28] (fun i wr => ∃ n : Nat, n ≤ 64 ∧ i = .int .i64 n ∧ Below w.heap.size w wr ∧ Blk wr gX (fC (midF x n (onesF l))) 78 ∧ Blk wr gY (fC (onesF [x])) 78 ∧ ∀ i : Nat, i < n → ¬ (inA (i : Int) x = true ∧ onA l i ≠ none)) (fun i _ => 64 - (intOf i).toNat)
      case atStart => exact ⟨0, by omega, rfl, hbel6, by rw [midF_start]; exact hX6, hY6, fun i hi => absurd hi (Nat.not_lt_zero _)⟩
      case round =>
        clear hbel6 hX6 hY6
        obtain ⟨n, hn, rfl, hbr, hX, hY, hno0⟩ := hrel
        have hno := Lib.hid hno0
        clear hno0
        by_cases hlt : n < 64
        · have hlti : (n : Int) < 64 := by omega
          have dX : wr.cell? ⟨gX, n * 6, none⟩ = some (.bool (onA l n).isSome) := by
            rw [hX.cell]
            exact fC_cell (midF x n (onesF l)) n 0 hlt _ (by rw [midF_at, onesF_on hsr]; rfl) (by decide)
          have dY : wr.cell? ⟨gY, n * 6, none⟩ = some (.bool (onesF [x] n).isSome) := by
            rw [hY.cell]
            exact fC_cell (onesF [x]) n 0 hlt _ rfl (by decide)
          rw [one_at] at dY
          by_cases hin : inA (n : Int) x = true
          · rw [if_pos hin] at dY
            cases hon : onA l (n : Int) with
            | some p =>
              rw [hon] at dX
              simp only [Option.isSome] at dX dY
              have q0 : Hid _ := Lib.hid (map_err (l := l) (x := x) (e := 6) (by unfold mapE; rw [if_neg (by rw [hw0.out]; simp), if_neg (by rw [he0.out]; simp), if_pos (any_page hin (by rw [hon]; simp))]) (by decide))
              have hbel := hbr
              clear hin hon
              go_wp2
              go_ret2
              have q := q0.out
              exact ⟨.slice none 0 0, by first | (rw [q.1]; done) | (rw [q.1]; rfl), by rw [q.2]; exact Own.nil _ _ _ _, hbel⟩
            | none =>
              rw [hon] at dX
              simp only [Option.isSome] at dX dY
              have hset : Hid (putAt (fC (midF x n (onesF l))) (n * 6) (oneL (some (pgOf x n))) = fC (midF x (n + 1) (onesF l))) := Lib.hid (by
                rw [fC_set _ n hlt, midF_put hin])
              have hrdY : RdV wr (some ⟨gY, n * 6, none⟩) (oneL (some (pgOf x n))) := fun j u hj => ⟨gY, n * 6, rfl, by
                rw [hY.cell]
                exact fC_cell (onesF [x]) n j hlt u (by rw [one_at, if_pos hin]; exact hj) (by have := (List.getElem?_eq_some_iff.1 hj).1; rwa [oneL_len] at this)⟩
              have hup : Hid (∀ i : Nat, i < n + 1 → ¬ (inA (i : Int) x = true ∧ onA l i ≠ none)) := Lib.hid (fun i hi hq => by
                by_cases c : i = n
                · subst c; exact hq.2 hon
                · exact hno.out i (by omega) hq)
              have hfit : Hid (n * 6 + 6 ≤ (fC (midF x n (onesF l))).size) := Lib.hid (by rw [fC_size]; omega)
              clear hin hon
              go_upto_region 15 with (first | (refine wpList_ldg _ _ rfl _ (n * 6) rfl rfl _ hrdY _ Try.underlying77 rfl one_size ?_) | (refine wpList_st rfl _ _ _ rfl gX (n * 6) (oneC (some (pgOf x n))) rfl rfl _ _ hX hfit.out one_size (oneC_one _) ?_))
              intro W7 hX7 hgr7
              have hX8 : Blk W7 gX (fC (midF x (n + 1) (onesF l))) 78 := by rw [← hset.out]; exact hX7
              have hbel7 := hbr.grown hgr7 hbr.size (fun k hk => by cases hk; exact hgX)
              have hY7 : Blk W7 gY (fC (onesF [x])) 78 := hY.grown hgr7 (fun e => hXY (Option.some.inj e))
              clear hX hY hbr hX7 hgr7 dX dY hrdY hset hfit
              go_wp2
              go_roundw
              case rel => exact ⟨n + 1, by omega, by go_num, hbel7, hX8, hY7, hup.out⟩
              case measure => simp [intOf]; omega
          · rw [if_neg hin] at dY
            simp only [Option.isSome] at dY
            have hup : Hid (∀ i : Nat, i < n + 1 → ¬ (inA (i : Int) x = true ∧ onA l i ≠ none)) := Lib.hid (fun i hi hq => by
              by_cases c : i = n
              · subst c; exact hin hq.1
              · exact hno.out i (by omega) hq)
            have hX8 : Blk wr gX (fC (midF x (n + 1) (onesF l))) 78 := by rw [midF_skip hin]; exact hX
            clear hin hX
            cases hsX : (onA l (n : Int)).isSome
            · rw [hsX] at dX
              clear hsX
              go_wp2
              go_roundw
              case rel => exact ⟨n + 1, by omega, by go_num, hbr, hX8, hY, hup.out⟩
              case measure => simp [intOf]; omega
            · rw [hsX] at dX
              clear hsX
              go_wp2
              go_roundw
              case rel => exact ⟨n + 1, by omega, by go_num, hbr, hX8, hY, hup.out⟩
              case measure => simp [intOf]; omega
        · have hn64 : n = 64 := by omega
          subst hn64
          have hany := no_page hall.2 he0.out hno.out
          have hmt : ∀ z ∈ l, meetsA x z = false := fun z hz => by have := List.any_eq_false.1 hany z hz; simpa using this
          have hins := insR_srt he0.out hsr (areaE_few he0.out).1.2.1.1 hmt
          rw [← insA_eq] at hins
          have hfin : Hid (mapE l x = doneE (tidyL (insA l x)).length) := Lib.hid (by unfold mapE; rw [if_neg (by rw [hw0.out]; simp), if_neg (by rw [he0.out]; simp), if_neg (by rw [hany]; simp)]; rfl)
          have hml : Hid (mapL l x = if 16 < (tidyL (insA l x)).length then [] else tidyL (insA l x)) := Lib.hid (by
            unfold mapL
            rw [hfin.out]
            unfold doneE
            by_cases h16 : 16 < (tidyL (insA l x)).length
            · rw [if_pos h16, if_pos h16]; rfl
            · rw [if_neg h16, if_neg h16]; rfl)
          have hs384 : Hid ((fC (midF x 64 (onesF l))).size = 384) := Lib.hid (fC_size _)
          clear hlt
          go_wp2_with (refine wpList_ldg _ _ rfl _ 0 rfl rfl _ hX.rd _ Try.underlying78 rfl (by rw [Array.length_toList, hs384.out]; exact ones_size) ?_)
          refine (few_any (midF x 64 (onesF l)) (tidyL (insA l x)) (tidy_ok hins) (fun i hi => ?_) (fun i p hp => ?_) _).mono ?_
          · rw [tidy_on hins, insA_eq, insR_on he0.out _ hsr hmt]
            unfold midF
            rw [onesF_on hsr]
            by_cases c : inA (i : Int) x = true
            · rw [if_pos ⟨c, hi⟩, if_pos c]
            · rw [if_neg (fun q => c q.1), if_neg c]
          · unfold midF at hp
            split at hp
            · rename_i hq
              cases hp
              have h1 := pgOf_ok he0.out hq.1
              refine ⟨h1.2.2.1, ?_⟩
              by_cases hf : (pgOf x i).fi < 0
              · rw [(h1.2.2.2.1 hf).1]; decide
              · have := h1.2.2.2.2 (by omega); omega
            · exact onesF_ok hsr i p hp
          · rintro r w9 ⟨v9, rfl, hO9, hb9⟩
            have hbel9 := below_next hbr hb9
            replace hO9 := hO9.mono hbr.size
            rw [← hml.out] at hO9
            rw [← hfin.out]
            clear hbr hX hY hb9 hml
            go_wp2
            go_ret2
            exact ⟨v9, rfl, hO9, hbel9⟩
    · have q0 : Hid _ := Lib.hid (map_err (l := l) (x := x) (e := areaE x) (by unfold mapE; rw [if_neg (by rw [hw0.out]; simp), if_pos he]) he)
      have he' : (areaE x != 0) = true := by simpa using he
      clear he hall
      go_wp2
      go_ret2
      have q := q0.out
      exact ⟨.slice none 0 0, by first | (rw [q.1]; done) | (rw [q.1]; rfl), by rw [q.2]; exact Own.nil _ _ _ _, hbel⟩
  · have q0 : Hid _ := Lib.hid (map_err (l := l) (x := x) (e := (wrongA l).1) (by unfold mapE; rw [if_pos hw]) hw)
    have hw' : ((wrongA l).1 != 0) = true := by simpa using hw
    have hcf := hf2.cell
    clear hw
    go_upto_region 3 with (fail)
    go_quiet (fail)
    rename_i nq
    have hbel := below_drewN hbel nq
    go_wp2
    go_ret2
    have q := q0.out
    exact ⟨.slice none 0 0, by first | (rw [q.1]; done) | (rw [q.1]; rfl), by rw [q.2]; exact Own.nil _ _ _ _, hbel⟩
end Go.Proofs.Ytmdnmknmniabeaa
