/- The document's Areas. -/
import Derived.Test.YtmdnmknmniabeaaAo2
namespace Go.Proofs.Ytmdnmknmniabeaa
open Go.RowKit Pw
set_option linter.unusedSimpArgs false
set_option linter.unusedVariables false

theorem toA_none {f : Nat → Option Pg} {k : Nat} (h : f k = none) : toA f (k + 1) = toA f k := by rw [toA, h]
theorem toA_on {f : Nat → Option Pg} {k : Nat} {p : Pg} (h : f k = some p) (hs : stepOn f k p = true) : toA f (k + 1) = setEn (toA f k) ((k : Int) + 1) := by
  rw [toA, h]; simp only []; rw [if_pos hs]
theorem toA_new {f : Nat → Option Pg} {k : Nat} {p : Pg} (h : f k = some p) (hs : stepOn f k p = false) : toA f (k + 1) = toA f k ++ [oneAr k p] := by
  rw [toA, h]; simp only []; rw [hs]; rfl
theorem setEn_at {l : List Ar} {n : Nat} (hn : l.length = n + 1) (e : Int) : setEn l e = l.set n { (l[n]'(by omega)) with en := e } := by
  unfold setEn
  have : l.getLast? = some (l[n]'(by omega)) := by rw [List.getLast?_eq_getElem?, List.getElem?_eq_getElem (by omega)]; simp [hn]
  rw [this]; simp [hn]
set_option maxHeartbeats 4000000 in
set_option maxRecDepth 100000 in
theorem areas_any (f : Nat → Option Pg) (w : World) (hf : ∀ i p, f i = some p → 0 ≤ p.pg ∧ p.pg ≤ 100) :
    Calls Try.prog 70 #[.agg (fC f)] w fun r w' => ∃ v, r = .returned v ∧ Own w' w.heap.size 66 7 v (toA f 64).length ((toA f 64).flatMap arL) ∧ Below w.heap.size w w' := by
  have hs384 := Lib.hid (fC_size f)
  go_enter Try.func70, Try.ntmps70
  go_upto_region 1 with (fail)
  refine abs1 (fun W => Code.wp _ _ _ _ W) fun W0 hb0 hx0 hs0 => ?_
  clear hs0
  go_upto_region 3 with (refine wpList_ldg _ _ rfl _ 0 rfl rfl _ hx0.rd _ Try.underlying78 rfl (by rw [Array.length_toList, hs384.out]; exact ones_size) ?_)
  go_loopw [9, 3] (fun i u wr => ∃ k : Nat, k ≤ 64 ∧ i = .int .i64 k ∧ Below w.heap.size w wr ∧ Blk wr w.heap.size (fC f) 78 ∧ Own wr w.heap.size 66 7 u (toA f k).length ((toA f k).flatMap arL)) (fun i _ _ => 64 - (intOf i).toNat)
  case atStart => exact ⟨0, Nat.zero_le _, rfl, hb0, hx0, by simpa [toA] using Own.nil _ _ _ _⟩
  case round =>
    clear hb0 hx0
    obtain ⟨k, hk, rfl, hbel, hbx, hown⟩ := hrel
    by_cases hlt : k < 64
    · have hlti : (k : Int) < 64 := by omega
      have htl := toA_len f k
      cases hfk : f k with
      | none =>
        have hix := idx_one f k hlt none hfk
        unfold oneC oR oW oH oF oP at hix
        have hst := Lib.hid (toA_none hfk)
        go_upto_region 5 with (fail)
        refine abs1 (fun W => Code.wp _ _ _ _ W) fun W1 hb1 hx1 hs1 => ?_
        have hcx := hx1.cell
        have hbel1 := below_next hbel hb1
        have hbx1 := hbx.ext hb1
        have hown1 := hown.below hb1
        clear hs1 hb1 hbel hbx hown
        rw [← hst.out] at hown1
        go_wp2
        go_roundw
        case rel => exact ⟨k + 1, by omega, by go_num, hbel1, hbx1, hown1⟩
        case measure => simp [intOf]; omega
      | some p =>
        have hix := idx_one f k hlt (some p) hfk
        unfold oneC oR oW oH oF oP at hix
        go_upto_region 5 with (fail)
        refine abs1 (fun W => Code.wp _ _ _ _ W) fun W1 hb1 hx1 hs1 => ?_
        have hbel := below_next hbel hb1
        have hbx := hbx.ext hb1
        have hown := hown.below hb1
        clear hs1 hb1
        obtain ⟨gx, hgx⟩ : ∃ g, g = wr.heap.size := ⟨_, rfl⟩
        rw [← hgx] at hx1 ⊢
        clear hgx
        generalize hacc : toA f k = acc at *
        obtain ⟨au, cu, rfl, _⟩ := hown.rd
        have hcx := hx1.cell
        have hwk : IntKind.i64.wrap ((k : Int) + 1) = (k : Int) + 1 := IntWalk.i64_in _ (by omega)
        by_cases hk0 : k = 0
        · have hs0 : stepOn f k p = false := by rw [hk0]; rfl
          have hst : Hid (toA f (k + 1) = acc ++ [oneAr k p]) := Lib.hid (by rw [toA_new hfk hs0, hacc])
          have hk0i : ¬ (0 : Int) < (k : Int) := by omega
          have hk0n : ¬ 0 < k := by omega
          clear hk0 hs0 hfk hacc
          go_upto_region 14 with (fail)
          go_wp2_with (at_builtin; refine wpList_app rfl _ _ 64 rfl w.heap.size 66 _ 7 40 Try.underlying64 area_info rfl (by decide) _ acc.length (acc.flatMap arL) rfl (hown.alloc _) (some ⟨W1.heap.size, 0, none⟩) 1 1 (arL (oneAr k p)) rfl (fun h => (by cases h)) (Nat.le_refl _) rfl (RdV.new _ (arC (oneAr k p)) _) (fun u hu => areas_one [oneAr k p] u (by simpa using hu)) (by unfold maxLen; omega) (by omega) (le_alloc' hbel.size _) ?_)
          intro v W6 hown6 hgr6
          have hbel6 : Below w.heap.size w W6 := (hbel.alloc hbel.size _).grown hgr6 (le_alloc' hbel.size _) (hown.alloc (.cells (arC (oneAr k p)) 66)).ge
          have hbx6 : Blk W6 w.heap.size (fC f) 78 := blk_own (hbx.alloc (.cells (arC (oneAr k p)) 66)) (hown.alloc (.cells (arC (oneAr k p)) 66)) (by decide) hgr6
          have hown7 : Own W6 w.heap.size 66 7 v (toA f (k + 1)).length ((toA f (k + 1)).flatMap arL) := by
            rw [hst.out, List.flatMap_append, List.length_append]; simpa using hown6
          clear hown6 hgr6
          go_wp2
          go_roundw
          case rel => exact ⟨k + 1, by omega, by go_num, hbel6, hbx6, hown7⟩
          case measure => simp [intOf]; omega
        · obtain ⟨m, hm⟩ : ∃ m, k = m + 1 := ⟨k - 1, by omega⟩
          have hk0i : (0 : Int) < (k : Int) := by omega
          have hk0n : 0 < k := by omega
          have hwm : IntKind.i64.wrap ((k : Int) - 1) = (m : Int) := by rw [IntWalk.i64_in _ (by omega)]; omega
          have hm64 : m < 64 := by omega
          have hm64i : (m : Int) < 64 := by omega
          have hm1 : ∀ z, stepOn f k z = (match f m with | some q => nextPg z q == z | none => false) := fun z => by subst hm; rfl
          have hcell : ∀ j u, (oneL (f m))[j]? = some u → j < 6 → W1.cell? ⟨w.heap.size, m * 6 + j, none⟩ = some u := fun j u h hj => by rw [hbx.cell]; exact fC_cell f m j hm64 u h hj
          have hmm := Lib.hid hm
          clear hm hk0
          cases hfm : f m with
          | none =>
            have hs0 : stepOn f k p = false := by rw [hm1, hfm]
            have hst : Hid (toA f (k + 1) = acc ++ [oneAr k p]) := Lib.hid (by rw [toA_new hfk hs0, hacc])
            rw [hfm] at hcell
            have d0 := hcell 0 _ rfl (by decide)
            have d1 := hcell 1 _ rfl (by decide)
            have d2 := hcell 2 _ rfl (by decide)
            have d3 := hcell 3 _ rfl (by decide)
            have d4 := hcell 4 _ rfl (by decide)
            have d5 := hcell 5 _ rfl (by decide)
            simp only [Nat.add_zero, Option.isSome, oR, oW, oH, oF, oP] at d0 d1 d2 d3 d4 d5
            clear hm1 hcell hs0 hfk hacc
            have hw1p : IntKind.i64.wrap (0 + 1) = 1 := by rw [IntWalk.i64_in _ (by omega)]; try rfl
            go_upto_region 9 with (fail)
            refine abs1 (fun W => Code.wp _ _ _ _ W) fun W2 hb2 hy2 hs2 => ?_
            have hbel := below_next hbel hb2
            have hbx2 := hbx.ext hb2
            have hown2 := hown.below hb2
            have hx2 := hx1.ext hb2
            have hgxy : gx < W1.heap.size := hx1.lt
            have hgy : w.heap.size < W1.heap.size := hbx.lt
            have hgB := hbel.size
            clear hs2 hb2 hbx hown hx1 hcx d0 d1 d2 d3 d4 d5
            have hcx := hx2.cell
            by_cases hfi : 0 ≤ p.fi
            · obtain ⟨gy, hgyE⟩ : ∃ g, g = W1.heap.size := ⟨_, rfl⟩
              rw [← hgyE] at hy2 hgxy hgy ⊢
              clear hgyE
              have hcy := hy2.cell
              go_upto_region 11 with (refine wpList_stv rfl _ _ _ rfl gy 5 (.int .i64 (1)) [.int .i64 (1)] rfl rfl rfl _ _ hy2 (by simp) int_size (by simp [Value.oneCell']) ?_)
              intro W3 hy3 hgr3
              have hy4 : Blk W3 gy #[.bool false, .bool (false), .bool (false), .bool (false), .int .i64 (0), .int .i64 (1)] 77 := hy3
              have hbel := hbel.grown hgr3 hbel.size (fun k hk => by cases hk; omega)
              have hbx3 : Blk W3 w.heap.size (fC f) 78 := hbx2.grown hgr3 (fun e => by have := Option.some.inj e; omega)
              have hx3 : Blk W3 gx #[.bool true, .bool p.rd, .bool p.wr, .bool p.sh, .int .i64 p.fi, .int .i64 p.pg] 77 := hx2.grown hgr3 (fun e => by have := Option.some.inj e; omega)
              have hown := own_keep hown2 hy2 (by decide) hgr3
              have hbx := hbx3
              clear hy2 hy3 hbx2 hx2 hown2 hgr3 hcx hcy hbx3 hgB
              have hE := eqOneR0 p 1
              go_upto_region 12 with (first | (refine wpList_ldg _ _ rfl _ 0 rfl rfl _ hy4.rd _ Try.underlying77 rfl one_size ?_) | (refine wpList_ldg _ _ rfl _ 0 rfl rfl _ hx3.rd _ Try.underlying77 rfl one_size ?_) | (refine wpList_eqS rfl _ _ _ _ rfl _ _ rfl rfl _ (hE _ _ _) ?_))
              clear hE hy4
              have hcx := hx3.cell
              go_upto_region 14 with (fail)
              go_wp2_with (at_builtin; refine wpList_app rfl _ _ 64 rfl w.heap.size 66 _ 7 40 Try.underlying64 area_info rfl (by decide) _ acc.length (acc.flatMap arL) rfl (hown.alloc _) (some ⟨W3.heap.size, 0, none⟩) 1 1 (arL (oneAr k p)) rfl (fun h => (by cases h)) (Nat.le_refl _) rfl (RdV.new _ (arC (oneAr k p)) _) (fun u hu => areas_one [oneAr k p] u (by simpa using hu)) (by unfold maxLen; omega) (by omega) (le_alloc' hbel.size _) ?_)
              intro v W6 hown6 hgr6
              have hbel6 : Below w.heap.size w W6 := (hbel.alloc hbel.size _).grown hgr6 (le_alloc' hbel.size _) (hown.alloc (.cells (arC (oneAr k p)) 66)).ge
              have hbx6 : Blk W6 w.heap.size (fC f) 78 := blk_own (hbx.alloc (.cells (arC (oneAr k p)) 66)) (hown.alloc (.cells (arC (oneAr k p)) 66)) (by decide) hgr6
              have hown7 : Own W6 w.heap.size 66 7 v (toA f (k + 1)).length ((toA f (k + 1)).flatMap arL) := by
                rw [hst.out, List.flatMap_append, List.length_append]; simpa using hown6
              clear hown6 hgr6
              go_wp2
              go_roundw
              case rel => exact ⟨k + 1, by omega, by go_num, hbel6, hbx6, hown7⟩
              case measure => simp [intOf]; omega
            · have hbx := hbx2
              have hown := hown2
              clear hbx2 hown2
              have hfi' : ¬ 0 ≤ p.fi := hfi
              have hE := eqOneR0 p 0
              go_upto_region 12 with (first | (refine wpList_ldg _ _ rfl _ 0 rfl rfl _ hy2.rd _ Try.underlying77 rfl one_size ?_) | (refine wpList_ldg _ _ rfl _ 0 rfl rfl _ hx2.rd _ Try.underlying77 rfl one_size ?_) | (refine wpList_eqS rfl _ _ _ _ rfl _ _ rfl rfl _ (hE _ _ _) ?_))
              clear hE hy2
              have hcx := hx2.cell
              go_upto_region 14 with (fail)
              go_wp2_with (at_builtin; refine wpList_app rfl _ _ 64 rfl w.heap.size 66 _ 7 40 Try.underlying64 area_info rfl (by decide) _ acc.length (acc.flatMap arL) rfl (hown.alloc _) (some ⟨W2.heap.size, 0, none⟩) 1 1 (arL (oneAr k p)) rfl (fun h => (by cases h)) (Nat.le_refl _) rfl (RdV.new _ (arC (oneAr k p)) _) (fun u hu => areas_one [oneAr k p] u (by simpa using hu)) (by unfold maxLen; omega) (by omega) (le_alloc' hbel.size _) ?_)
              intro v W6 hown6 hgr6
              have hbel6 : Below w.heap.size w W6 := (hbel.alloc hbel.size _).grown hgr6 (le_alloc' hbel.size _) (hown.alloc (.cells (arC (oneAr k p)) 66)).ge
              have hbx6 : Blk W6 w.heap.size (fC f) 78 := blk_own (hbx.alloc (.cells (arC (oneAr k p)) 66)) (hown.alloc (.cells (arC (oneAr k p)) 66)) (by decide) hgr6
              have hown7 : Own W6 w.heap.size 66 7 v (toA f (k + 1)).length ((toA f (k + 1)).flatMap arL) := by
                rw [hst.out, List.flatMap_append, List.length_append]; simpa using hown6
              clear hown6 hgr6
              go_wp2
              go_roundw
              case rel => exact ⟨k + 1, by omega, by go_num, hbel6, hbx6, hown7⟩
              case measure => simp [intOf]; omega
          | some q =>
            have hqb := hf m q hfm
            have hstp0 := hm1 p
            rw [hfm] at hstp0 hcell
            simp only [] at hstp0
            have d0 := hcell 0 _ rfl (by decide)
            have d1 := hcell 1 _ rfl (by decide)
            have d2 := hcell 2 _ rfl (by decide)
            have d3 := hcell 3 _ rfl (by decide)
            have d4 := hcell 4 _ rfl (by decide)
            have d5 := hcell 5 _ rfl (by decide)
            simp only [Nat.add_zero, Option.isSome, oR, oW, oH, oF, oP] at d0 d1 d2 d3 d4 d5
            generalize hBe : (nextPg p q == p) = B at hstp0
            have hstp := Lib.hid hstp0
            clear hm1 hcell hstp0
            have hN1 : 0 ≤ p.fi → ((⟨q.rd, q.wr, q.sh, q.fi, q.pg + 1⟩ : Pg) == p) = B := fun h => by rw [← hBe]; unfold nextPg; rw [if_pos h]
            have hN0 : ¬ 0 ≤ p.fi → (q == p) = B := fun h => by rw [← hBe]; unfold nextPg; rw [if_neg h]
            clear hBe
            have hw1p : IntKind.i64.wrap (q.pg + 1) = (q.pg + 1) := by rw [IntWalk.i64_in _ (by omega)]; try rfl
            go_upto_region 9 with (fail)
            refine abs1 (fun W => Code.wp _ _ _ _ W) fun W2 hb2 hy2 hs2 => ?_
            have hbel := below_next hbel hb2
            have hbx2 := hbx.ext hb2
            have hown2 := hown.below hb2
            have hx2 := hx1.ext hb2
            have hgxy : gx < W1.heap.size := hx1.lt
            have hgy : w.heap.size < W1.heap.size := hbx.lt
            have hgB := hbel.size
            clear hs2 hb2 hbx hown hx1 hcx d0 d1 d2 d3 d4 d5
            have hcx := hx2.cell
            by_cases hfi : 0 ≤ p.fi
            · obtain ⟨gy, hgyE⟩ : ∃ g, g = W1.heap.size := ⟨_, rfl⟩
              rw [← hgyE] at hy2 hgxy hgy ⊢
              clear hgyE
              have hcy := hy2.cell
              go_upto_region 11 with (refine wpList_stv rfl _ _ _ rfl gy 5 (.int .i64 ((q.pg + 1))) [.int .i64 ((q.pg + 1))] rfl rfl rfl _ _ hy2 (by simp) int_size (by simp [Value.oneCell']) ?_)
              intro W3 hy3 hgr3
              have hy4 : Blk W3 gy #[.bool true, .bool (q.rd), .bool (q.wr), .bool (q.sh), .int .i64 (q.fi), .int .i64 ((q.pg + 1))] 77 := hy3
              have hbel := hbel.grown hgr3 hbel.size (fun k hk => by cases hk; omega)
              have hbx3 : Blk W3 w.heap.size (fC f) 78 := hbx2.grown hgr3 (fun e => by have := Option.some.inj e; omega)
              have hx3 : Blk W3 gx #[.bool true, .bool p.rd, .bool p.wr, .bool p.sh, .int .i64 p.fi, .int .i64 p.pg] 77 := hx2.grown hgr3 (fun e => by have := Option.some.inj e; omega)
              have hown := own_keep hown2 hy2 (by decide) hgr3
              have hbx := hbx3
              clear hy2 hy3 hbx2 hx2 hown2 hgr3 hcx hcy hbx3 hgB
              have hE := eqOneR ⟨q.rd, q.wr, q.sh, q.fi, q.pg + 1⟩ p B (hN1 hfi)
              go_upto_region 12 with (first | (refine wpList_ldg _ _ rfl _ 0 rfl rfl _ hy4.rd _ Try.underlying77 rfl one_size ?_) | (refine wpList_ldg _ _ rfl _ 0 rfl rfl _ hx3.rd _ Try.underlying77 rfl one_size ?_) | (refine wpList_eqS rfl _ _ _ _ rfl _ _ rfl rfl _ (hE _ _ _) ?_))
              clear hE hy4
              have hcx := hx3.cell
              by_cases hB : B = true
              · subst hB
                have hst := Lib.hid (toA_on hfk hstp.out)
                rw [hacc] at hst
                have hne : 0 < acc.length := by
                  have := toA_ne f hfm
                  rw [← hmm.out, hacc] at this
                  exact this
                obtain ⟨n, hn0⟩ : ∃ n, acc.length = n + 1 := ⟨acc.length - 1, by omega⟩
                have hna : n < acc.length := by omega
                have hse : Hid (setEn acc ((k : Int) + 1) = acc.set n { acc[n] with en := (k : Int) + 1 }) := Lib.hid (setEn_at hn0 _)
                have hni : (n : Int) < (acc.length : Int) := by omega
                have hwn : IntKind.i64.wrap ((acc.length : Int) - 1) = (n : Int) := by rw [IntWalk.i64_in _ (by omega)]; omega
                obtain ⟨g, off1, cap1, hv1, hBg, hgl, ⟨csg, hgb⟩, hcc, hfz, hset⟩ := own_cell arL_len (by decide) rfl hown n hna 1 (by decide) (.int .i64 ((k : Int) + 1)) { acc[n] with en := (k : Int) + 1 } rfl
                cases hv1
                have hc1 := hcc 1 _ rfl
                have hbxg : w.heap.size ≠ g := by
                  intro e; subst e
                  unfold Blk at hbx hgb
                  rw [hbx] at hgb
                  simp at hgb
                clear hcc hn0 hfk hacc hfm
                go_upto_region 15 with (fail)
                have hbel6 : Below w.heap.size w (W3.setCell ⟨g, off1 + n * 7 + 1, none⟩ (.int .i64 ((k : Int) + 1))) := hbel.setCell hBg _
                have hbx6 : Blk (W3.setCell ⟨g, off1 + n * 7 + 1, none⟩ (.int .i64 ((k : Int) + 1))) w.heap.size (fC f) 78 := hbx.setCell_other _ _ (by simpa using hbxg)
                have hown7 : Own (W3.setCell ⟨g, off1 + n * 7 + 1, none⟩ (.int .i64 ((k : Int) + 1))) w.heap.size 66 7 (.slice (some ⟨g, off1, none⟩) acc.length cu) (toA f (k + 1)).length ((toA f (k + 1)).flatMap arL) := by
                  rw [hst.out, hse.out, List.length_set]; exact hset
                clear hset hown hbel hbx hfz hc1 hgb hcx
                go_wp2
                go_roundw
                case rel => exact ⟨k + 1, by omega, by go_num, hbel6, hbx6, hown7⟩
                case measure => simp [intOf]; omega
              · have hBf : B = false := by simpa using hB
                subst hBf
                have hst : Hid (toA f (k + 1) = acc ++ [oneAr k p]) := Lib.hid (by rw [toA_new hfk hstp.out, hacc])
                clear hfk hacc hfm hB
                go_upto_region 14 with (fail)
                go_wp2_with (at_builtin; refine wpList_app rfl _ _ 64 rfl w.heap.size 66 _ 7 40 Try.underlying64 area_info rfl (by decide) _ acc.length (acc.flatMap arL) rfl (hown.alloc _) (some ⟨W3.heap.size, 0, none⟩) 1 1 (arL (oneAr k p)) rfl (fun h => (by cases h)) (Nat.le_refl _) rfl (RdV.new _ (arC (oneAr k p)) _) (fun u hu => areas_one [oneAr k p] u (by simpa using hu)) (by unfold maxLen; omega) (by omega) (le_alloc' hbel.size _) ?_)
                intro v W6 hown6 hgr6
                have hbel6 : Below w.heap.size w W6 := (hbel.alloc hbel.size _).grown hgr6 (le_alloc' hbel.size _) (hown.alloc (.cells (arC (oneAr k p)) 66)).ge
                have hbx6 : Blk W6 w.heap.size (fC f) 78 := blk_own (hbx.alloc (.cells (arC (oneAr k p)) 66)) (hown.alloc (.cells (arC (oneAr k p)) 66)) (by decide) hgr6
                have hown7 : Own W6 w.heap.size 66 7 v (toA f (k + 1)).length ((toA f (k + 1)).flatMap arL) := by
                  rw [hst.out, List.flatMap_append, List.length_append]; simpa using hown6
                clear hown6 hgr6
                go_wp2
                go_roundw
                case rel => exact ⟨k + 1, by omega, by go_num, hbel6, hbx6, hown7⟩
                case measure => simp [intOf]; omega
            · have hbx := hbx2
              have hown := hown2
              clear hbx2 hown2
              have hfi' : ¬ 0 ≤ p.fi := hfi
              have hE := eqOneR q p B (hN0 hfi')
              go_upto_region 12 with (first | (refine wpList_ldg _ _ rfl _ 0 rfl rfl _ hy2.rd _ Try.underlying77 rfl one_size ?_) | (refine wpList_ldg _ _ rfl _ 0 rfl rfl _ hx2.rd _ Try.underlying77 rfl one_size ?_) | (refine wpList_eqS rfl _ _ _ _ rfl _ _ rfl rfl _ (hE _ _ _) ?_))
              clear hE hy2
              have hcx := hx2.cell
              by_cases hB : B = true
              · subst hB
                have hst := Lib.hid (toA_on hfk hstp.out)
                rw [hacc] at hst
                have hne : 0 < acc.length := by
                  have := toA_ne f hfm
                  rw [← hmm.out, hacc] at this
                  exact this
                obtain ⟨n, hn0⟩ : ∃ n, acc.length = n + 1 := ⟨acc.length - 1, by omega⟩
                have hna : n < acc.length := by omega
                have hse : Hid (setEn acc ((k : Int) + 1) = acc.set n { acc[n] with en := (k : Int) + 1 }) := Lib.hid (setEn_at hn0 _)
                have hni : (n : Int) < (acc.length : Int) := by omega
                have hwn : IntKind.i64.wrap ((acc.length : Int) - 1) = (n : Int) := by rw [IntWalk.i64_in _ (by omega)]; omega
                obtain ⟨g, off1, cap1, hv1, hBg, hgl, ⟨csg, hgb⟩, hcc, hfz, hset⟩ := own_cell arL_len (by decide) rfl hown n hna 1 (by decide) (.int .i64 ((k : Int) + 1)) { acc[n] with en := (k : Int) + 1 } rfl
                cases hv1
                have hc1 := hcc 1 _ rfl
                have hbxg : w.heap.size ≠ g := by
                  intro e; subst e
                  unfold Blk at hbx hgb
                  rw [hbx] at hgb
                  simp at hgb
                clear hcc hn0 hfk hacc hfm
                go_upto_region 15 with (fail)
                have hbel6 : Below w.heap.size w (W2.setCell ⟨g, off1 + n * 7 + 1, none⟩ (.int .i64 ((k : Int) + 1))) := hbel.setCell hBg _
                have hbx6 : Blk (W2.setCell ⟨g, off1 + n * 7 + 1, none⟩ (.int .i64 ((k : Int) + 1))) w.heap.size (fC f) 78 := hbx.setCell_other _ _ (by simpa using hbxg)
                have hown7 : Own (W2.setCell ⟨g, off1 + n * 7 + 1, none⟩ (.int .i64 ((k : Int) + 1))) w.heap.size 66 7 (.slice (some ⟨g, off1, none⟩) acc.length cu) (toA f (k + 1)).length ((toA f (k + 1)).flatMap arL) := by
                  rw [hst.out, hse.out, List.length_set]; exact hset
                clear hset hown hbel hbx hfz hc1 hgb hcx
                go_wp2
                go_roundw
                case rel => exact ⟨k + 1, by omega, by go_num, hbel6, hbx6, hown7⟩
                case measure => simp [intOf]; omega
              · have hBf : B = false := by simpa using hB
                subst hBf
                have hst : Hid (toA f (k + 1) = acc ++ [oneAr k p]) := Lib.hid (by rw [toA_new hfk hstp.out, hacc])
                clear hfk hacc hfm hB
                go_upto_region 14 with (fail)
                go_wp2_with (at_builtin; refine wpList_app rfl _ _ 64 rfl w.heap.size 66 _ 7 40 Try.underlying64 area_info rfl (by decide) _ acc.length (acc.flatMap arL) rfl (hown.alloc _) (some ⟨W2.heap.size, 0, none⟩) 1 1 (arL (oneAr k p)) rfl (fun h => (by cases h)) (Nat.le_refl _) rfl (RdV.new _ (arC (oneAr k p)) _) (fun u hu => areas_one [oneAr k p] u (by simpa using hu)) (by unfold maxLen; omega) (by omega) (le_alloc' hbel.size _) ?_)
                intro v W6 hown6 hgr6
                have hbel6 : Below w.heap.size w W6 := (hbel.alloc hbel.size _).grown hgr6 (le_alloc' hbel.size _) (hown.alloc (.cells (arC (oneAr k p)) 66)).ge
                have hbx6 : Blk W6 w.heap.size (fC f) 78 := blk_own (hbx.alloc (.cells (arC (oneAr k p)) 66)) (hown.alloc (.cells (arC (oneAr k p)) 66)) (by decide) hgr6
                have hown7 : Own W6 w.heap.size 66 7 v (toA f (k + 1)).length ((toA f (k + 1)).flatMap arL) := by
                  rw [hst.out, List.flatMap_append, List.length_append]; simpa using hown6
                clear hown6 hgr6
                go_wp2
                go_roundw
                case rel => exact ⟨k + 1, by omega, by go_num, hbel6, hbx6, hown7⟩
                case measure => simp [intOf]; omega
    · have hk64 : k = 64 := by omega
      subst hk64
      go_wp2
      go_ret
      exact ⟨_, rfl, hown, hbel⟩
end Go.Proofs.Ytmdnmknmniabeaa
