/- Package areas: Unmap. -/
import Derived.Test.YtmdnmknmniabeaaAr5
namespace Go.Proofs.Ytmdnmknmniabeaa
open Go.RowKit Pw
set_option linter.unusedSimpArgs false
set_option linter.unusedVariables false

/-- An element of an array by value: a struct, or an array. -/
theorem run_index_agg' {P : Program} {t e : TypeId} {n : Nat} {d : TypeDesc} (ht : P.underlying t = some (.array n e)) (he : P.underlying e = some d) (hd : aggB d = true) {sz : Nat} (hs : (P.info? e).map (·.size) = some sz)
    (cs : Array Value) (k : Nat) (vs : Array Value) (hk : k < n) (hv : cs.extract (k * sz) (k * sz + sz) = vs) (kk : IntKind) (w : World) : (Instr.index t (.agg cs) (.int kk k)).run P w = .ok (.agg vs) w := by
  have hsz : ∀ w, (Go.sizeOf e).run P w = .ok sz w := by
    intro w
    cases hq : P.info? e with
    | none => simp [hq] at hs
    | some i =>
      have hz : i.size = sz := by simpa [hq] using hs
      simp [Go.sizeOf, typeInfo, run_program, hq, hz]
  have ha : ∀ w, (isAgg e).run P w = .ok true w := by
    intro w
    unfold isAgg
    simp [run_underlying he]
    cases d <;> simp_all [aggB]
  simp [Instr.index, part, asIntOf, run_underlying ht, hsz, hk, ha, go_sem, hv]
theorem two_size : (Try.prog.info? 111).map (·.size) = some 2 := by kernel_rfl
/-- What is left of an area, without so many pages from one on. -/
def cutU (s n : Int) (a : Ar) : List Ar := (partA a 0 s).toList ++ (partA a (s + n) 64).toList
def outU (l : List Ar) (s n : Int) : List Ar := l.flatMap (cutU s n)
def unmE (l : List Ar) (s n : Int) : Int := if (wrongA l).1 ≠ 0 then (wrongA l).1 else if spanE s n ≠ 0 then spanE s n else doneE (outU l s n).length
def unmL (l : List Ar) (s n : Int) : List Ar := if unmE l s n ≠ 0 then [] else outU l s n
theorem unm_err {l : List Ar} {s n : Int} {e : Int} (h : unmE l s n = e) (he : e ≠ 0) : unmE l s n = e ∧ unmL l s n = [] := by
  refine ⟨h, ?_⟩
  unfold unmL; rw [if_pos (by rw [h]; exact he)]
theorem opt_len {α : Type} (o : Option α) : o.toList.length ≤ 1 := by cases o <;> simp
theorem cutU_len (s n : Int) (a : Ar) : (cutU s n a).length ≤ 2 := by
  have h1 := opt_len (partA a 0 s)
  have h2 := opt_len (partA a (s + n) 64)
  unfold cutU; simp; omega
theorem outU_len (l : List Ar) (s n : Int) : ∀ k, k ≤ l.length → (outU (l.take k) s n).length ≤ 2 * k
  | 0, _ => by simp [outU]
  | k + 1, hk => by
    have ih := outU_len l s n k (by omega)
    have h1 := cutU_len s n (l[k]'(by omega))
    unfold outU at ih ⊢
    rw [List.take_add_one, List.getElem?_eq_getElem (show k < l.length by omega), Option.toList_some, List.flatMap_append, List.length_append, List.flatMap_cons, List.flatMap_nil, List.append_nil]
    omega
theorem outU_next {l : List Ar} {k : Nat} (hk : k < l.length) (s n : Int) : outU (l.take (k + 1)) s n = outU (l.take k) s n ++ cutU s n l[k] := by
  unfold outU
  rw [List.take_add_one, List.getElem?_eq_getElem hk, Option.toList_some, List.flatMap_append]
  simp
/-- What has come of an area's first parts. -/
def curU (acc : List Ar) (s n : Int) (A : Ar) : Nat → List Ar
  | 0 => acc
  | 1 => acc ++ (partA A 0 s).toList
  | _ + 2 => acc ++ (partA A 0 s).toList ++ (partA A (s + n) 64).toList
theorem curU_len (acc : List Ar) (s n : Int) (A : Ar) (j : Nat) (hj : j ≤ 2) : (curU acc s n A j).length ≤ acc.length + j := by
  have h1 := opt_len (partA A 0 s)
  have h2 := opt_len (partA A (s + n) 64)
  match j, hj with
  | 0, _ => exact Nat.le_refl _
  | 1, _ => unfold curU; rw [List.length_append]; omega
  | 2, _ => unfold curU; rw [List.length_append, List.length_append]; omega
theorem curU_two (acc : List Ar) (s n : Int) (A : Ar) : curU acc s n A 2 = acc ++ cutU s n A := by unfold curU cutU; rw [List.append_assoc]
set_option maxHeartbeats 4000000 in
set_option maxRecDepth 100000 in
theorem unmap_any (l : List Ar) (s n : Int) (a : Option Addr) (c : Nat) (w : World) (h : AsR w a c l) (hs64 : -9223372036854775808 ≤ s ∧ s ≤ 9223372036854775807) :
    Calls Try.prog 48 #[.slice a l.length c, .int .i64 s, .int .i64 n] w fun r w' => ∃ v, r = .returned (.tuple #[v, .int .i64 (unmE l s n)]) ∧ Own w' w.heap.size 66 7 v (unmL l s n).length ((unmL l s n).flatMap arL) ∧ Below w.heap.size w w' := by
  have hlc := Nat.le_trans h.le h.mx
  unfold maxLen at hlc
  go_enter Try.func48, Try.ntmps48
  go_wp2_with fail
  refine (awrong_any l a c _ h.rd hlc).mono ?_
  rintro r w1 ⟨rfl, hb1⟩
  unfold fauC
  go_wp2_with (refine wpList_stn rfl _ _ _ rfl #[.int .i64 (wrongA l).1, .int .i64 (wrongA l).2] rfl rfl rfl fau_size (fau_one _ _) ?_)
  intro w2 hb2 hf2
  have hbel := below_next hb1 hb2
  clear hb1 hb2
  by_cases hw : (wrongA l).1 = 0
  · have hall := wrong_all hw
    have hw0 := Lib.hid hw
    rw [hw] at hf2
    have hcf := hf2.cell
    clear hw
    go_wp2_with fail
    refine (span_any s n _ hs64).mono ?_
    rintro r w3 ⟨rfl, rfl⟩
    by_cases he : spanE s n = 0
    · have he0 := Lib.hid he
      have hsp : 0 ≤ s ∧ 1 ≤ n ∧ s < 64 ∧ n ≤ 64 - s := by
        unfold spanE at he
        split at he
        · omega
        · omega
      rw [he]
      clear he hcf hf2
      have hfin : Hid (unmE l s n = doneE (outU l s n).length) := Lib.hid (by unfold unmE; rw [if_neg (by rw [hw0.out]; simp), if_neg (by rw [he0.out]; simp)])
      have hwr : IntKind.i64.wrap (s + n) = s + n := IntWalk.i64_in _ (by omega)
      have hl16 := hall.1
      go_upto_region 9 with (fail)
      go_loopw [32, 10] (fun i u wr => ∃ k : Nat, k ≤ l.length ∧ i = .int .i64 k ∧ Below w.heap.size w wr ∧ Own wr w.heap.size 66 7 u (outU (l.take k) s n).length ((outU (l.take k) s n).flatMap arL)) (fun i _ _ => l.length - (intOf i).toNat)
      case atStart => exact ⟨0, Nat.zero_le _, rfl, hbel, by simpa [outU] using Own.nil _ _ _ _⟩
      case round =>
        clear hbel
        obtain ⟨k, hk, rfl, hbr, hown⟩ := hrel
        by_cases hlt : k < l.length
        · have hnx := Lib.hid (outU_next hlt s n)
          have hfA := (areaE_few (hall.2 l[k] (List.getElem_mem _))).1
          have hol := outU_len l s n k hk
          generalize hacc : outU (l.take k) s n = acc at *
          obtain ⟨b, off, rfl, c0, c1, c2, c3, c4, c5, c6⟩ := ar_at7 (h.rd.below hbr) k hlt
          generalize l[k] = A at *
          have hlto := own_lt' hown
          go_upto_region 11 with (fail)
          refine abs1 (fun W => Code.wp _ _ _ _ W) fun W0 hb0 hx0 hs0 => ?_
          clear hs0 c0 c1 c2 c3 c4 c5 c6
          have hbel0 := below_next hbr hb0
          have hown0 := hown.below hb0
          clear hbr hown hb0
          go_upto_region 12 with (fail)
          have hix0 : ∀ w, (Instr.index 112 (.agg #[.int .i64 0, .int .i64 s, .int .i64 (s + n), .int .i64 64]) (.int .i64 0)).run Try.prog w = .ok (.agg #[.int .i64 0, .int .i64 s]) w := fun w => run_index_agg' Try.underlying112 Try.underlying111 rfl two_size _ 0 _ (by decide) rfl _ w
          have hix1 : ∀ w, (Instr.index 112 (.agg #[.int .i64 0, .int .i64 s, .int .i64 (s + n), .int .i64 64]) (.int .i64 1)).run Try.prog w = .ok (.agg #[.int .i64 (s + n), .int .i64 64]) w := fun w => run_index_agg' Try.underlying112 Try.underlying111 rfl two_size _ 1 _ (by decide) rfl _ w
          obtain ⟨gx, hgx⟩ : ∃ g, g = wr.heap.size := ⟨_, rfl⟩
          rw [← hgx] at hx0 ⊢
          rw [← hgx] at hlto
          have hneo : ∀ g, u10.ownBlock = some g → g ≠ gx := fun g hg => by have := hlto g hg; omega
          clear hgx hlto
          go_loopw [43, 10] (fun i u wr => ∃ j : Nat, j ≤ 2 ∧ i = .int .i64 j ∧ Below w.heap.size w wr ∧ Blk wr gx (arC A) 66 ∧ Own wr w.heap.size 66 7 u (curU acc s n A j).length ((curU acc s n A j).flatMap arL) ∧ ∀ g, u.ownBlock = some g → g ≠ gx) (fun i _ _ => 2 - (intOf i).toNat)
          case atStart => exact ⟨0, by omega, rfl, hbel0, hx0, hown0, hneo⟩
          case round =>
            clear hbel0 hx0 hown0
            obtain ⟨j, hj, rfl, hbel1, hx1, hown1, hne⟩ := hrel
            match j, hj with
            | 0, _ =>
              have hcl := curU_len acc s n A 0 (by omega)
              have hstep : ∀ o, partA A (0) (s) = o → curU acc s n A (0 + 1) = curU acc s n A 0 ++ o.toList := fun o ho => by rw [← ho]; rfl
              have hstep' := Lib.hid hstep
              clear hstep
              generalize hcur : curU acc s n A 0 = cur at hown1 hcl hstep'
              clear hcur
              obtain ⟨au, cu, rfl, _⟩ := hown1.rd
              go_upto_region 14 with (fail)
              refine abs1 (fun W => Code.wp _ _ _ _ W) fun W2 hb2 hr2 hs2 => ?_
              have hbel2 := below_next hbel1 hb2
              have hx2 := hx1.ext hb2
              have hown2 := hown1.below hb2
              clear hbel1 hx1 hown1 hb2 hs2
              have hcr := hr2.cell
              go_wp2_with (first | (refine wpList_ldg _ _ rfl _ 0 rfl rfl _ hx2.rd _ Try.underlying66 rfl area_size ?_))
              refine (part_any A (0) (s) _ hfA (by omega)).mono ?_
              rintro r W3 ⟨rfl, hb3⟩
              have hbel3 := below_next hbel2 hb3
              have hx3 := hx2.ext hb3
              have hown3 := hown2.below hb3
              clear hbel2 hx2 hown2 hb3 hcr hr2
              cases hp : partA A (0) (s) with
              | none =>
                have hnxt := Lib.hid (hstep'.out none hp)
                clear hp
                go_wp2_with (refine wpList_stn rfl _ _ _ rfl (arC zAr) rfl rfl rfl area_size (arC_one _) ?_)
                intro W4 hb4 hp4
                have hbel4 := below_next hbel3 hb4
                have hx4 := hx3.ext hb4
                have hown4 := hown3.below hb4
                clear hbel3 hx3 hown3 hb4
                go_wp2
                go_roundw
                case rel => exact ⟨0 + 1, by omega, by go_num, hbel4, hx4, by rw [hnxt.out, Option.toList_none, List.append_nil]; exact hown4, hne⟩
                case measure => simp [intOf]
              | some Z =>
                have hnxt := Lib.hid (hstep'.out (some Z) hp)
                clear hp
                go_upto_region 16 with (refine wpList_stn rfl _ _ _ rfl (arC Z) rfl rfl rfl area_size (arC_one _) ?_)
                intro W4 hb4 hp4
                have hbel4 := below_next hbel3 hb4
                have hx4 := hx3.ext hb4
                have hown4 := hown3.below hb4
                clear hbel3 hx3 hown3 hb4
                have hp5 : Blk W4 W3.heap.size #[.int .i64 Z.fr, .int .i64 Z.en, .bool Z.rd, .bool Z.wr, .bool Z.sh, .int .i64 Z.fi, .int .i64 Z.ba] 66 := hp4
                clear hp4
                go_upto_region 16 with (fail)
                go_wp2_with (first | (refine wpList_ldg _ _ rfl _ 0 rfl rfl _ hp5.rd _ Try.underlying66 rfl area_size ?_) | (at_builtin; refine wpList_appC rfl _ _ 64 rfl w.heap.size 66 _ 7 40 Try.underlying64 area_info rfl (by decide) _ cur.length (cur.flatMap arL) rfl (hown4.alloc _) (some ⟨W4.heap.size, 0, none⟩) 1 1 (arL Z) rfl (fun h => (by cases h)) (Nat.le_refl _) rfl (RdV.new _ (arC Z) _) (fun u hu => areas_one [Z] u (by simpa using hu)) (by unfold maxLen; omega) (by omega) (le_alloc' hbel4.size _) ?_))
                intro v W6 hown6 hgr6 hcase6
                have hbel6 : Below w.heap.size w W6 := (hbel4.alloc hbel4.size _).grown hgr6 (le_alloc' hbel4.size _) (hown4.alloc (.cells (arC Z) 66)).ge
                have hne6 : ∀ g, v.ownBlock = some g → g ≠ gx := by
                  intro g hg
                  rcases hcase6 with h1 | h1
                  · exact hne g (by rw [← h1]; exact hg)
                  · exact Nat.ne_of_gt (Nat.lt_of_lt_of_le hx4.lt (Nat.le_trans (le_alloc W4 _) (h1 g hg)))
                have hx6 : Blk W6 gx (arC A) 66 := (hx4.alloc (.cells (arC Z) 66)).grown hgr6 (fun e => hne gx e rfl)
                have hown7 : Own W6 w.heap.size 66 7 v (curU acc s n A (0 + 1)).length ((curU acc s n A (0 + 1)).flatMap arL) := by
                  rw [hnxt.out, List.flatMap_append, List.length_append]; simpa using hown6
                clear hown6 hgr6 hcase6 hx4 hown4 hbel4 hp5 hne
                go_wp2
                go_roundw
                case rel => exact ⟨0 + 1, by omega, by go_num, hbel6, hx6, hown7, hne6⟩
                case measure => simp [intOf]
            | 1, _ =>
              have hcl := curU_len acc s n A 1 (by omega)
              have hstep : ∀ o, partA A (s + n) (64) = o → curU acc s n A (1 + 1) = curU acc s n A 1 ++ o.toList := fun o ho => by rw [← ho]; rfl
              have hstep' := Lib.hid hstep
              clear hstep
              generalize hcur : curU acc s n A 1 = cur at hown1 hcl hstep'
              clear hcur
              obtain ⟨au, cu, rfl, _⟩ := hown1.rd
              go_upto_region 14 with (fail)
              refine abs1 (fun W => Code.wp _ _ _ _ W) fun W2 hb2 hr2 hs2 => ?_
              have hbel2 := below_next hbel1 hb2
              have hx2 := hx1.ext hb2
              have hown2 := hown1.below hb2
              clear hbel1 hx1 hown1 hb2 hs2
              have hcr := hr2.cell
              go_wp2_with (first | (refine wpList_ldg _ _ rfl _ 0 rfl rfl _ hx2.rd _ Try.underlying66 rfl area_size ?_))
              refine (part_any A (s + n) (64) _ hfA (by omega)).mono ?_
              rintro r W3 ⟨rfl, hb3⟩
              have hbel3 := below_next hbel2 hb3
              have hx3 := hx2.ext hb3
              have hown3 := hown2.below hb3
              clear hbel2 hx2 hown2 hb3 hcr hr2
              cases hp : partA A (s + n) (64) with
              | none =>
                have hnxt := Lib.hid (hstep'.out none hp)
                clear hp
                go_wp2_with (refine wpList_stn rfl _ _ _ rfl (arC zAr) rfl rfl rfl area_size (arC_one _) ?_)
                intro W4 hb4 hp4
                have hbel4 := below_next hbel3 hb4
                have hx4 := hx3.ext hb4
                have hown4 := hown3.below hb4
                clear hbel3 hx3 hown3 hb4
                go_wp2
                go_roundw
                case rel => exact ⟨1 + 1, by omega, by go_num, hbel4, hx4, by rw [hnxt.out, Option.toList_none, List.append_nil]; exact hown4, hne⟩
                case measure => simp [intOf]
              | some Z =>
                have hnxt := Lib.hid (hstep'.out (some Z) hp)
                clear hp
                go_upto_region 16 with (refine wpList_stn rfl _ _ _ rfl (arC Z) rfl rfl rfl area_size (arC_one _) ?_)
                intro W4 hb4 hp4
                have hbel4 := below_next hbel3 hb4
                have hx4 := hx3.ext hb4
                have hown4 := hown3.below hb4
                clear hbel3 hx3 hown3 hb4
                have hp5 : Blk W4 W3.heap.size #[.int .i64 Z.fr, .int .i64 Z.en, .bool Z.rd, .bool Z.wr, .bool Z.sh, .int .i64 Z.fi, .int .i64 Z.ba] 66 := hp4
                clear hp4
                go_upto_region 16 with (fail)
                go_wp2_with (first | (refine wpList_ldg _ _ rfl _ 0 rfl rfl _ hp5.rd _ Try.underlying66 rfl area_size ?_) | (at_builtin; refine wpList_appC rfl _ _ 64 rfl w.heap.size 66 _ 7 40 Try.underlying64 area_info rfl (by decide) _ cur.length (cur.flatMap arL) rfl (hown4.alloc _) (some ⟨W4.heap.size, 0, none⟩) 1 1 (arL Z) rfl (fun h => (by cases h)) (Nat.le_refl _) rfl (RdV.new _ (arC Z) _) (fun u hu => areas_one [Z] u (by simpa using hu)) (by unfold maxLen; omega) (by omega) (le_alloc' hbel4.size _) ?_))
                intro v W6 hown6 hgr6 hcase6
                have hbel6 : Below w.heap.size w W6 := (hbel4.alloc hbel4.size _).grown hgr6 (le_alloc' hbel4.size _) (hown4.alloc (.cells (arC Z) 66)).ge
                have hne6 : ∀ g, v.ownBlock = some g → g ≠ gx := by
                  intro g hg
                  rcases hcase6 with h1 | h1
                  · exact hne g (by rw [← h1]; exact hg)
                  · exact Nat.ne_of_gt (Nat.lt_of_lt_of_le hx4.lt (Nat.le_trans (le_alloc W4 _) (h1 g hg)))
                have hx6 : Blk W6 gx (arC A) 66 := (hx4.alloc (.cells (arC Z) 66)).grown hgr6 (fun e => hne gx e rfl)
                have hown7 : Own W6 w.heap.size 66 7 v (curU acc s n A (1 + 1)).length ((curU acc s n A (1 + 1)).flatMap arL) := by
                  rw [hnxt.out, List.flatMap_append, List.length_append]; simpa using hown6
                clear hown6 hgr6 hcase6 hx4 hown4 hbel4 hp5 hne
                go_wp2
                go_roundw
                case rel => exact ⟨1 + 1, by omega, by go_num, hbel6, hx6, hown7, hne6⟩
                case measure => simp [intOf]
            | 2, _ =>
              rw [curU_two, ← hnx.out] at hown1
              clear hne hx1
              go_wp2
              go_roundw
              case rel => exact ⟨k + 1, by omega, by go_num, hbel1, hown1⟩
              case measure => simp [intOf]; omega
        · have hkl : k = l.length := by omega
          subst hkl
          have hol := outU_len l s n l.length (Nat.le_refl _)
          rw [List.take_length] at hown hol
          obtain ⟨au, cu, rfl, hru⟩ := AsR.of hown
          have hml : Hid (unmL l s n = if 16 < (outU l s n).length then [] else outU l s n) := Lib.hid (by
            unfold unmL
            rw [hfin.out]
            unfold doneE
            by_cases h16 : 16 < (outU l s n).length
            · rw [if_pos h16, if_pos h16]; rfl
            · rw [if_neg h16, if_neg h16]; rfl)
          go_wp2_with fail
          refine (done_any au (outU l s n).length cu _ (by omega)).mono ?_
          rintro r w9 ⟨rfl, rfl⟩
          have hq := own_done hown
          rw [← hml.out] at hq
          have hfin2 := hfin.out
          unfold doneE at hfin2
          have hfin3 := Lib.hid hfin2
          clear hfin2 hown
          generalize hE : (if 16 < (outU l s n).length then (4 : Int) else 0) = E at *
          generalize hV : (if 16 < (outU l s n).length then Value.slice none 0 0 else .slice au (outU l s n).length cu) = V at *
          clear hE hV hml hru
          go_wp2
          go_ret2
          exact ⟨V, by rw [hfin3.out]; rfl, hq, hbr⟩
    · have q0 : Hid _ := Lib.hid (unm_err (l := l) (s := s) (n := n) (e := spanE s n) (by unfold unmE; rw [if_neg (by rw [hw0.out]; simp), if_pos he]) he)
      have he' : (spanE s n != 0) = true := by simpa using he
      clear he hall
      go_wp2
      go_ret2
      have q := q0.out
      exact ⟨.slice none 0 0, by first | (rw [q.1]; done) | (rw [q.1]; rfl), by rw [q.2]; exact Own.nil _ _ _ _, hbel⟩
  · have q0 : Hid _ := Lib.hid (unm_err (l := l) (s := s) (n := n) (e := (wrongA l).1) (by unfold unmE; rw [if_pos hw]) hw)
    have hw' : ((wrongA l).1 != 0) = true := by simpa using hw
    have hcf := hf2.cell
    clear hw
    go_upto_region 3 with (fail)
    go_quiet (fail)
    rename_i nq
    have hbel := below_drewN hbel nq
    go_wp2
    go_ret2
    have q := q0.out
    exact ⟨.slice none 0 0, by first | (rw [q.1]; done) | (rw [q.1]; rfl), by rw [q.2]; exact Own.nil _ _ _ _, hbel⟩
end Go.Proofs.Ytmdnmknmniabeaa
