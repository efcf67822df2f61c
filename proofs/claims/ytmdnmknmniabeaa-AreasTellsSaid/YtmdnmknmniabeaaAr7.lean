/- Package areas: Protect. -/
import Derived.Test.YtmdnmknmniabeaaAr6
namespace Go.Proofs.Ytmdnmknmniabeaa
open Go.RowKit Pw
set_option linter.unusedSimpArgs false
set_option linter.unusedVariables false

/-- What comes of an area, some of whose pages may be read, and written, or not. -/
def setRW (rd wr : Bool) (a : Ar) : Ar := { a with rd := rd, wr := wr }
def midP (s n : Int) (rd wr : Bool) (a : Ar) : List Ar := ((partA a s (s + n)).map (setRW rd wr)).toList
def cutP (s n : Int) (rd wr : Bool) (a : Ar) : List Ar := (partA a 0 s).toList ++ midP s n rd wr a ++ (partA a (s + n) 64).toList
def outP (l : List Ar) (s n : Int) (rd wr : Bool) : List Ar := l.flatMap (cutP s n rd wr)
def noneP (l : List Ar) (s n : Int) : Bool := (List.range n.toNat).any fun k : Nat => decide (findA l (s + k) < 0)
def proE (l : List Ar) (s n : Int) (rd wr : Bool) : Int := if (wrongA l).1 ≠ 0 then (wrongA l).1 else if spanE s n ≠ 0 then spanE s n else if noneP l s n = true then 5 else doneE (tidyL (outP l s n rd wr)).length
def proL (l : List Ar) (s n : Int) (rd wr : Bool) : List Ar := if proE l s n rd wr ≠ 0 then [] else tidyL (outP l s n rd wr)
theorem pro_err {l : List Ar} {s n : Int} {rd wr : Bool} {e : Int} (h : proE l s n rd wr = e) (he : e ≠ 0) : proE l s n rd wr = e ∧ proL l s n rd wr = [] := by
  refine ⟨h, ?_⟩
  unfold proL; rw [if_pos (by rw [h]; exact he)]
theorem cutP_len (s n : Int) (rd wr : Bool) (a : Ar) : (cutP s n rd wr a).length ≤ 3 := by
  have h1 := opt_len (partA a 0 s)
  have h2 := opt_len (partA a (s + n) 64)
  have h3 := opt_len ((partA a s (s + n)).map (setRW rd wr))
  unfold cutP midP; rw [List.length_append, List.length_append]; omega
theorem outP_len (l : List Ar) (s n : Int) (rd wr : Bool) : ∀ k, k ≤ l.length → (outP (l.take k) s n rd wr).length ≤ 3 * k
  | 0, _ => by simp [outP]
  | k + 1, hk => by
    have ih := outP_len l s n rd wr k (by omega)
    have h1 := cutP_len s n rd wr (l[k]'(by omega))
    unfold outP at ih ⊢
    rw [List.take_add_one, List.getElem?_eq_getElem (show k < l.length by omega), Option.toList_some, List.flatMap_append, List.length_append, List.flatMap_cons, List.flatMap_nil, List.append_nil]
    omega
theorem outP_next {l : List Ar} {k : Nat} (hk : k < l.length) (s n : Int) (rd wr : Bool) : outP (l.take (k + 1)) s n rd wr = outP (l.take k) s n rd wr ++ cutP s n rd wr l[k] := by
  unfold outP
  rw [List.take_add_one, List.getElem?_eq_getElem hk, Option.toList_some, List.flatMap_append]
  simp
def curP (acc : List Ar) (s n : Int) (rd wr : Bool) (A : Ar) : Nat → List Ar
  | 0 => acc
  | 1 => acc ++ (partA A 0 s).toList
  | 2 => acc ++ (partA A 0 s).toList ++ midP s n rd wr A
  | _ + 3 => acc ++ (partA A 0 s).toList ++ midP s n rd wr A ++ (partA A (s + n) 64).toList
theorem curP_len (acc : List Ar) (s n : Int) (rd wr : Bool) (A : Ar) (j : Nat) (hj : j ≤ 3) : (curP acc s n rd wr A j).length ≤ acc.length + j := by
  have h1 := opt_len (partA A 0 s)
  have h2 := opt_len (partA A (s + n) 64)
  have h3 : (midP s n rd wr A).length ≤ 1 := opt_len _
  match j, hj with
  | 0, _ => exact Nat.le_refl _
  | 1, _ => unfold curP; rw [List.length_append]; omega
  | 2, _ => unfold curP; rw [List.length_append, List.length_append]; omega
  | 3, _ => unfold curP; rw [List.length_append, List.length_append, List.length_append]; omega
theorem curP_three (acc : List Ar) (s n : Int) (rd wr : Bool) (A : Ar) : curP acc s n rd wr A 3 = acc ++ cutP s n rd wr A := by unfold curP cutP; simp only [List.append_assoc]
theorem part_few {a x : Ar} {f t : Int} (h : partA a f t = some x) (ha : arFew a) (h1 : 0 ≤ f ∧ f ≤ 64) (h2 : 0 ≤ t ∧ t ≤ 64) (hb : a.ba ≤ 12 - (a.en - a.fr) ∨ a.fi < 0) : arFew x := by
  obtain ⟨s1, s2, s3⟩ := ha
  unfold partA at h
  split at h
  · cases h
  · rename_i hlt
    cases h
    have l1 : 0 ≤ loA a f ∧ loA a f ≤ 64 ∧ a.fr ≤ loA a f := by unfold loA; split <;> omega
    have l2 : 0 ≤ hiA a t ∧ hiA a t ≤ 64 ∧ hiA a t ≤ a.en := by unfold hiA; split <;> omega
    refine ⟨?_, ⟨l1.1, l1.2.1⟩, l2.1, l2.2.1⟩
    show 0 ≤ (if 0 ≤ a.fi then a.ba + (loA a f - a.fr) else a.ba) ∧ (if 0 ≤ a.fi then a.ba + (loA a f - a.fr) else a.ba) ≤ 12
    split <;> omega
theorem bool_size1 : (Try.prog.info? 4).map (·.size) = some 1 := by kernel_rfl
theorem outP_few {l : List Ar} (h : ∀ a ∈ l, areaE a = 0) {s n : Int} (hs : 0 ≤ s ∧ 1 ≤ n ∧ s < 64 ∧ n ≤ 64 - s) (pr pw : Bool) : ∀ x ∈ outP l s n pr pw, arFew x := by
  intro x hx
  obtain ⟨a, ha, hx⟩ := List.mem_flatMap.1 hx
  have he := areaE_few (h a ha)
  have hb : a.ba ≤ 12 - (a.en - a.fr) ∨ a.fi < 0 := by
    by_cases hf : a.fi < 0
    · exact .inr hf
    · exact .inl (he.2.2.2.2.2 (by omega))
  unfold cutP midP at hx
  rcases List.mem_append.1 hx with hx | hx
  · rcases List.mem_append.1 hx with hx | hx
    · have hx' : partA a 0 s = some x := Option.mem_toList.1 hx
      exact part_few hx' he.1 (by omega) (by omega) hb
    · have hx' : (partA a s (s + n)).map (setRW pr pw) = some x := Option.mem_toList.1 hx
      obtain ⟨z, hz, rfl⟩ := Option.map_eq_some_iff.1 hx'
      have h1 : arFew z := part_few hz he.1 (by omega) (by omega) hb
      exact h1
  · have hx' : partA a (s + n) 64 = some x := Option.mem_toList.1 hx
    exact part_few hx' he.1 (by omega) (by omega) hb
set_option maxHeartbeats 4000000 in
set_option maxRecDepth 100000 in
theorem protect_any (l : List Ar) (s n : Int) (pr pw : Bool) (a : Option Addr) (c : Nat) (w : World) (h : AsR w a c l) (hs64 : -9223372036854775808 ≤ s ∧ s ≤ 9223372036854775807) :
    Calls Try.prog 50 #[.slice a l.length c, .int .i64 s, .int .i64 n, .bool pr, .bool pw] w fun r w' => ∃ v, r = .returned (.tuple #[v, .int .i64 (proE l s n pr pw)]) ∧ Own w' w.heap.size 66 7 v (proL l s n pr pw).length ((proL l s n pr pw).flatMap arL) ∧ Below w.heap.size w w' := by
  have hlc := Nat.le_trans h.le h.mx
  unfold maxLen at hlc
  go_enter Try.func50, Try.ntmps50
  go_wp2_with fail
  refine (awrong_any l a c _ h.rd hlc).mono ?_
  rintro r w1 ⟨rfl, hb1⟩
  unfold fauC
  go_wp2_with (refine wpList_stn rfl _ _ _ rfl #[.int .i64 (wrongA l).1, .int .i64 (wrongA l).2] rfl rfl rfl fau_size (fau_one _ _) ?_)
  intro w2 hb2 hf2
  have hbel := below_next hb1 hb2
  clear hb1 hb2
  by_cases hw : (wrongA l).1 = 0
  · have hall := wrong_all hw
    have hw0 := Lib.hid hw
    rw [hw] at hf2
    have hcf := hf2.cell
    clear hw
    go_wp2_with fail
    refine (span_any s n _ hs64).mono ?_
    rintro r w3 ⟨rfl, rfl⟩
    by_cases he : spanE s n = 0
    · have he0 := Lib.hid he
      have hsp : 0 ≤ s ∧ 1 ≤ n ∧ s < 64 ∧ n ≤ 64 - s := by
        unfold spanE at he
        split at he
        · omega
        · omega
      rw [he]
      clear he hcf hf2
      have hwr : IntKind.i64.wrap (s + n) = s + n := IntWalk.i64_in _ (by omega)
      have hl16 := hall.1
      obtain ⟨N, hN0⟩ : ∃ N : Nat, n = (N : Int) := ⟨n.toNat, by omega⟩
      have hN := Lib.hid hN0
      clear hN0
      go_upto_region 8 with (fail)
      go_loopw [36] (fun i wr => ∃ k : Nat, k ≤ N ∧ i = .int .i64 k ∧ Below w.heap.size w wr ∧ ∀ i : Nat, i < k → 0 ≤ findA l (s + i)) (fun i _ => N - (intOf i).toNat)
      case atStart => exact ⟨0, Nat.zero_le _, rfl, hbel, fun i hi => absurd hi (Nat.not_lt_zero _)⟩
      case round =>
        clear hbel
        obtain ⟨k, hk, rfl, hbel, hp0⟩ := hrel
        have hp := Lib.hid hp0
        clear hp0
        by_cases hlt : k < N
        · have hkn : (k : Int) < n := by have := hN.out; omega
          have hwk : IntKind.i64.wrap (s + (k : Int)) = s + (k : Int) := IntWalk.i64_in _ (by omega)
          go_wp2_with fail
          refine (afind_any l (s + (k : Int)) a c _ (h.rd.below hbel) hlc).mono ?_
          rintro r w4 ⟨rfl, hb4⟩
          have hbel := below_next hbel hb4
          clear hb4
          by_cases hneg : findA l (s + (k : Int)) < 0
          · have q0 : Hid _ := Lib.hid (pro_err (l := l) (s := s) (n := n) (rd := pr) (wr := pw) (e := 5) (by
              unfold proE
              rw [if_neg (by rw [hw0.out]; simp), if_neg (by rw [he0.out]; simp), if_pos ?_]
              exact List.any_eq_true.2 ⟨k, List.mem_range.2 (by have := hN.out; omega), decide_eq_true hneg⟩) (by decide))
            go_wp2
            go_ret2
            have q := q0.out
            exact ⟨.slice none 0 0, by first | (rw [q.1]; done) | (rw [q.1]; rfl), by rw [q.2]; exact Own.nil _ _ _ _, hbel⟩
          · have hup : Hid (∀ i : Nat, i < k + 1 → 0 ≤ findA l (s + i)) := Lib.hid (fun i hi => by
              rcases Nat.lt_or_ge i k with h1 | h1
              · exact hp.out i h1
              · rw [show i = k by omega]; omega)
            go_wp2
            go_roundw
            case rel => exact ⟨k + 1, by omega, by go_num, hbel, hup.out⟩
            case measure => simp [intOf]; omega
        · have hkN : ¬ (k : Int) < n := by have := hN.out; omega
          have hfin : Hid (proE l s n pr pw = doneE (tidyL (outP l s n pr pw)).length) := Lib.hid (by
            unfold proE
            rw [if_neg (by rw [hw0.out]; simp), if_neg (by rw [he0.out]; simp), if_neg ?_]
            intro h1
            obtain ⟨i, hi, h2⟩ := List.any_eq_true.1 h1
            have h3 := hp.out i (by have := List.mem_range.1 hi; have := hN.out; omega)
            have h4 := of_decide_eq_true h2
            omega)
          clear hp hlt
          go_upto_region 15 with (fail)
          clear hkN
          go_loopw [48, 15] (fun i u wr => ∃ k : Nat, k ≤ l.length ∧ i = .int .i64 k ∧ Below w.heap.size w wr ∧ Own wr w.heap.size 66 7 u (outP (l.take k) s n pr pw).length ((outP (l.take k) s n pr pw).flatMap arL)) (fun i _ _ => l.length - (intOf i).toNat)
          case atStart => exact ⟨0, Nat.zero_le _, rfl, hbel, by simpa [outP] using Own.nil _ _ _ _⟩
          case round =>
            clear hbel
            obtain ⟨k, hk, rfl, hbr, hown⟩ := hrel
            by_cases hlt : k < l.length
            · have hnx := Lib.hid (outP_next hlt s n pr pw)
              have hfA := (areaE_few (hall.2 l[k] (List.getElem_mem _))).1
              have hol := outP_len l s n pr pw k hk
              generalize hacc : outP (l.take k) s n pr pw = acc at *
              obtain ⟨b, off, rfl, c0, c1, c2, c3, c4, c5, c6⟩ := ar_at7 (h.rd.below hbr) k hlt
              generalize l[k] = A at *
              have hlto := own_lt' hown
              go_upto_region 17 with (fail)
              refine abs1 (fun W => Code.wp _ _ _ _ W) fun W0 hb0 hx0 hs0 => ?_
              clear hs0 c0 c1 c2 c3 c4 c5 c6
              have hbel0 := below_next hbr hb0
              have hown0 := hown.below hb0
              clear hbr hown hb0
              go_upto_region 18 with (fail)
              have hix0 : ∀ w, (Instr.index 116 (.agg #[.int .i64 0, .int .i64 s, .int .i64 s, .int .i64 (s + n), .int .i64 (s + n), .int .i64 64]) (.int .i64 0)).run Try.prog w = .ok (.agg #[.int .i64 0, .int .i64 s]) w := fun w => run_index_agg' Try.underlying116 Try.underlying111 rfl two_size _ 0 _ (by decide) rfl _ w
              have hix1 : ∀ w, (Instr.index 116 (.agg #[.int .i64 0, .int .i64 s, .int .i64 s, .int .i64 (s + n), .int .i64 (s + n), .int .i64 64]) (.int .i64 1)).run Try.prog w = .ok (.agg #[.int .i64 s, .int .i64 (s + n)]) w := fun w => run_index_agg' Try.underlying116 Try.underlying111 rfl two_size _ 1 _ (by decide) rfl _ w
              have hix2 : ∀ w, (Instr.index 116 (.agg #[.int .i64 0, .int .i64 s, .int .i64 s, .int .i64 (s + n), .int .i64 (s + n), .int .i64 64]) (.int .i64 2)).run Try.prog w = .ok (.agg #[.int .i64 (s + n), .int .i64 64]) w := fun w => run_index_agg' Try.underlying116 Try.underlying111 rfl two_size _ 2 _ (by decide) rfl _ w
              obtain ⟨gx, hgx⟩ : ∃ g, g = wr.heap.size := ⟨_, rfl⟩
              rw [← hgx] at hx0 ⊢
              rw [← hgx] at hlto
              have hneo : ∀ g, u15.ownBlock = some g → g ≠ gx := fun g hg => by have := hlto g hg; omega
              clear hgx hlto
              go_loopw [64, 15] (fun i u wr => ∃ j : Nat, j ≤ 3 ∧ i = .int .i64 j ∧ Below w.heap.size w wr ∧ Blk wr gx (arC A) 66 ∧ Own wr w.heap.size 66 7 u (curP acc s n pr pw A j).length ((curP acc s n pr pw A j).flatMap arL) ∧ ∀ g, u.ownBlock = some g → g ≠ gx) (fun i _ _ => 3 - (intOf i).toNat)
              case atStart => exact ⟨0, by omega, rfl, hbel0, hx0, hown0, hneo⟩
              case round =>
                clear hbel0 hx0 hown0 hneo
                obtain ⟨j, hj, rfl, hbel1, hx1, hown1, hne⟩ := hrel
                match j, hj with
                | 0, _ =>
                  have hcl := curP_len acc s n pr pw A 0 (by omega)
                  have hstep : ∀ o : Option Ar, partA A 0 s = o → curP acc s n pr pw A (0 + 1) = curP acc s n pr pw A 0 ++ (o.map (fun z : Ar => z)).toList := fun o ho => by rw [← ho]; simp [curP]
                  have hstep' := Lib.hid hstep
                  clear hstep
                  generalize hcur : curP acc s n pr pw A 0 = cur at hown1 hcl hstep'
                  clear hcur
                  obtain ⟨au, cu, rfl, _⟩ := hown1.rd
                  go_upto_region 20 with (fail)
                  refine abs1 (fun W => Code.wp _ _ _ _ W) fun W2 hb2 hr2 hs2 => ?_
                  have hbel2 := below_next hbel1 hb2
                  have hx2 := hx1.ext hb2
                  have hown2 := hown1.below hb2
                  clear hbel1 hx1 hown1 hb2 hs2
                  have hcr := hr2.cell
                  go_wp2_with (first | (refine wpList_ldg _ _ rfl _ 0 rfl rfl _ hx2.rd _ Try.underlying66 rfl area_size ?_))
                  refine (part_any A (0) (s) _ hfA (by omega)).mono ?_
                  rintro r W3 ⟨rfl, hb3⟩
                  have hbel3 := below_next hbel2 hb3
                  have hx3 := hx2.ext hb3
                  have hown3 := hown2.below hb3
                  clear hbel2 hx2 hown2 hb3 hcr hr2
                  cases hp : partA A (0) (s) with
                  | none =>
                    have hnxt := Lib.hid (hstep'.out none hp)
                    clear hp
                    go_wp2_with (refine wpList_stn rfl _ _ _ rfl (arC zAr) rfl rfl rfl area_size (arC_one _) ?_)
                    intro W4 hb4 hp4
                    have hbel4 := below_next hbel3 hb4
                    have hx4 := hx3.ext hb4
                    have hown4 := hown3.below hb4
                    clear hbel3 hx3 hown3 hb4
                    go_wp2
                    go_roundw
                    case rel => exact ⟨0 + 1, by omega, by go_num, hbel4, hx4, by rw [hnxt.out]; simpa using hown4, hne⟩
                    case measure => simp [intOf]
                  | some Z0 =>
                    have hnxt := Lib.hid (hstep'.out (some Z0) hp)
                    have hBW := Lib.hid hbel3.size
                    have hgW := Lib.hid hx3.lt
                    have hoW := Lib.hid (own_lt' hown3)
                    clear hp
                    go_upto_region 22 with (refine wpList_stn rfl _ _ _ rfl (arC Z0) rfl rfl rfl area_size (arC_one _) ?_)
                    intro W4 hb4 hp4
                    have hbel4 := below_next hbel3 hb4
                    have hx4 := hx3.ext hb4
                    have hown4 := hown3.below hb4
                    clear hbel3 hx3 hown3 hb4
                    obtain ⟨Z, hZ0⟩ : ∃ Z, Z = Z0 := ⟨_, rfl⟩
                    subst hZ0
                    have hZ : Hid ((some Z).map (fun z : Ar => z) = some Z) := Lib.hid rfl
                    have hp5 : Blk W4 W3.heap.size #[.int .i64 Z.fr, .int .i64 Z.en, .bool Z.rd, .bool Z.wr, .bool Z.sh, .int .i64 Z.fi, .int .i64 Z.ba] 66 := hp4
                    clear hp4
                    go_wp2_with (first | (refine wpList_ldg _ _ rfl _ 0 rfl rfl _ hp5.rd _ Try.underlying66 rfl area_size ?_) | (at_builtin; refine wpList_appC rfl _ _ 64 rfl w.heap.size 66 _ 7 40 Try.underlying64 area_info rfl (by decide) _ cur.length (cur.flatMap arL) rfl (hown4.alloc _) (some ⟨W4.heap.size, 0, none⟩) 1 1 (arL Z) rfl (fun h => (by cases h)) (Nat.le_refl _) rfl (RdV.new _ (arC Z) _) (fun u hu => areas_one [Z] u (by simpa using hu)) (by unfold maxLen; omega) (by omega) (le_alloc' hbel4.size _) ?_))
                    intro v W6 hown6 hgr6 hcase6
                    have hbel6 : Below w.heap.size w W6 := (hbel4.alloc hbel4.size _).grown hgr6 (le_alloc' hbel4.size _) (hown4.alloc (.cells (arC Z) 66)).ge
                    have hne6 : ∀ g, v.ownBlock = some g → g ≠ gx := by
                      intro g hg
                      rcases hcase6 with h1 | h1
                      · exact hne g (by rw [← h1]; exact hg)
                      · exact Nat.ne_of_gt (Nat.lt_of_lt_of_le hx4.lt (Nat.le_trans (le_alloc W4 _) (h1 g hg)))
                    have hx6 : Blk W6 gx (arC A) 66 := (hx4.alloc (.cells (arC Z) 66)).grown hgr6 (fun e => hne gx e rfl)
                    have hown7 : Own W6 w.heap.size 66 7 v (curP acc s n pr pw A (0 + 1)).length ((curP acc s n pr pw A (0 + 1)).flatMap arL) := by
                      rw [hnxt.out, hZ.out, List.flatMap_append, List.length_append]; simpa using hown6
                    clear hown6 hgr6 hcase6 hx4 hown4 hbel4 hp5 hne
                    go_wp2
                    go_roundw
                    case rel => exact ⟨0 + 1, by omega, by go_num, hbel6, hx6, hown7, hne6⟩
                    case measure => simp [intOf]
                | 1, _ =>
                  have hcl := curP_len acc s n pr pw A 1 (by omega)
                  have hstep : ∀ o : Option Ar, partA A s (s + n) = o → curP acc s n pr pw A (1 + 1) = curP acc s n pr pw A 1 ++ (o.map (setRW pr pw)).toList := fun o ho => by rw [← ho]; rfl
                  have hstep' := Lib.hid hstep
                  clear hstep
                  generalize hcur : curP acc s n pr pw A 1 = cur at hown1 hcl hstep'
                  clear hcur
                  obtain ⟨au, cu, rfl, _⟩ := hown1.rd
                  go_upto_region 20 with (fail)
                  refine abs1 (fun W => Code.wp _ _ _ _ W) fun W2 hb2 hr2 hs2 => ?_
                  have hbel2 := below_next hbel1 hb2
                  have hx2 := hx1.ext hb2
                  have hown2 := hown1.below hb2
                  clear hbel1 hx1 hown1 hb2 hs2
                  have hcr := hr2.cell
                  go_wp2_with (first | (refine wpList_ldg _ _ rfl _ 0 rfl rfl _ hx2.rd _ Try.underlying66 rfl area_size ?_))
                  refine (part_any A (s) (s + n) _ hfA (by omega)).mono ?_
                  rintro r W3 ⟨rfl, hb3⟩
                  have hbel3 := below_next hbel2 hb3
                  have hx3 := hx2.ext hb3
                  have hown3 := hown2.below hb3
                  clear hbel2 hx2 hown2 hb3 hcr hr2
                  cases hp : partA A (s) (s + n) with
                  | none =>
                    have hnxt := Lib.hid (hstep'.out none hp)
                    clear hp
                    go_wp2_with (refine wpList_stn rfl _ _ _ rfl (arC zAr) rfl rfl rfl area_size (arC_one _) ?_)
                    intro W4 hb4 hp4
                    have hbel4 := below_next hbel3 hb4
                    have hx4 := hx3.ext hb4
                    have hown4 := hown3.below hb4
                    clear hbel3 hx3 hown3 hb4
                    go_wp2
                    go_roundw
                    case rel => exact ⟨1 + 1, by omega, by go_num, hbel4, hx4, by rw [hnxt.out]; simpa using hown4, hne⟩
                    case measure => simp [intOf]
                  | some Z0 =>
                    have hnxt := Lib.hid (hstep'.out (some Z0) hp)
                    have hBW := Lib.hid hbel3.size
                    have hgW := Lib.hid hx3.lt
                    have hoW := Lib.hid (own_lt' hown3)
                    clear hp
                    go_upto_region 22 with (refine wpList_stn rfl _ _ _ rfl (arC Z0) rfl rfl rfl area_size (arC_one _) ?_)
                    intro W4 hb4 hp4
                    have hbel4 := below_next hbel3 hb4
                    have hx4 := hx3.ext hb4
                    have hown4 := hown3.below hb4
                    clear hbel3 hx3 hown3 hb4
                    go_upto_region 24 with (refine wpList_stv rfl _ _ _ rfl W3.heap.size 2 (.bool pr) [.bool pr] rfl rfl rfl _ _ hp4 (by simp [arC]) bool_size1 (by simp [Value.oneCell']) ?_)
                    intro W5 hp6 hgr6
                    have hbel5 := hbel4.grown hgr6 hbel4.size (fun k hk => by cases hk; exact hBW.out)
                    have hx5 : Blk W5 gx (arC A) 66 := hx4.grown hgr6 (fun e => by have := Option.some.inj e; have := hgW.out; omega)
                    have hown5 := hown4.grown hgr6 (fun g hg e => by have := Option.some.inj e; have := hoW.out g hg; omega)
                    have hp7 : Blk W5 W3.heap.size (arC ⟨Z0.fr, Z0.en, pr, Z0.wr, Z0.sh, Z0.fi, Z0.ba⟩) 66 := hp6
                    clear hp4 hp6 hbel4 hx4 hown4 hgr6
                    go_upto_region 24 with (refine wpList_stv rfl _ _ _ rfl W3.heap.size 3 (.bool pw) [.bool pw] rfl rfl rfl _ _ hp7 (by simp [arC]) bool_size1 (by simp [Value.oneCell']) ?_)
                    intro W4 hp8 hgr8
                    have hbel4 := hbel5.grown hgr8 hbel5.size (fun k hk => by cases hk; exact hBW.out)
                    have hx4 : Blk W4 gx (arC A) 66 := hx5.grown hgr8 (fun e => by have := Option.some.inj e; have := hgW.out; omega)
                    have hown4 := hown5.grown hgr8 (fun g hg e => by have := Option.some.inj e; have := hoW.out g hg; omega)
                    obtain ⟨Z, hZ0⟩ : ∃ Z, Z = setRW pr pw Z0 := ⟨_, rfl⟩
                    have hZ : Hid ((some Z0).map (setRW pr pw) = some Z) := Lib.hid (by rw [hZ0]; rfl)
                    have hp4 : Blk W4 W3.heap.size (arC Z) 66 := by rw [hZ0]; exact hp8
                    clear hp7 hp8 hbel5 hx5 hown5 hgr8 hZ0
                    have hp5 : Blk W4 W3.heap.size #[.int .i64 Z.fr, .int .i64 Z.en, .bool Z.rd, .bool Z.wr, .bool Z.sh, .int .i64 Z.fi, .int .i64 Z.ba] 66 := hp4
                    clear hp4
                    go_wp2_with (first | (refine wpList_ldg _ _ rfl _ 0 rfl rfl _ hp5.rd _ Try.underlying66 rfl area_size ?_) | (at_builtin; refine wpList_appC rfl _ _ 64 rfl w.heap.size 66 _ 7 40 Try.underlying64 area_info rfl (by decide) _ cur.length (cur.flatMap arL) rfl (hown4.alloc _) (some ⟨W4.heap.size, 0, none⟩) 1 1 (arL Z) rfl (fun h => (by cases h)) (Nat.le_refl _) rfl (RdV.new _ (arC Z) _) (fun u hu => areas_one [Z] u (by simpa using hu)) (by unfold maxLen; omega) (by omega) (le_alloc' hbel4.size _) ?_))
                    intro v W6 hown6 hgr6 hcase6
                    have hbel6 : Below w.heap.size w W6 := (hbel4.alloc hbel4.size _).grown hgr6 (le_alloc' hbel4.size _) (hown4.alloc (.cells (arC Z) 66)).ge
                    have hne6 : ∀ g, v.ownBlock = some g → g ≠ gx := by
                      intro g hg
                      rcases hcase6 with h1 | h1
                      · exact hne g (by rw [← h1]; exact hg)
                      · exact Nat.ne_of_gt (Nat.lt_of_lt_of_le hx4.lt (Nat.le_trans (le_alloc W4 _) (h1 g hg)))
                    have hx6 : Blk W6 gx (arC A) 66 := (hx4.alloc (.cells (arC Z) 66)).grown hgr6 (fun e => hne gx e rfl)
                    have hown7 : Own W6 w.heap.size 66 7 v (curP acc s n pr pw A (1 + 1)).length ((curP acc s n pr pw A (1 + 1)).flatMap arL) := by
                      rw [hnxt.out, hZ.out, List.flatMap_append, List.length_append]; simpa using hown6
                    clear hown6 hgr6 hcase6 hx4 hown4 hbel4 hp5 hne
                    go_wp2
                    go_roundw
                    case rel => exact ⟨1 + 1, by omega, by go_num, hbel6, hx6, hown7, hne6⟩
                    case measure => simp [intOf]
                | 2, _ =>
                  have hcl := curP_len acc s n pr pw A 2 (by omega)
                  have hstep : ∀ o : Option Ar, partA A (s + n) 64 = o → curP acc s n pr pw A (2 + 1) = curP acc s n pr pw A 2 ++ (o.map (fun z : Ar => z)).toList := fun o ho => by rw [← ho]; simp [curP]
                  have hstep' := Lib.hid hstep
                  clear hstep
                  generalize hcur : curP acc s n pr pw A 2 = cur at hown1 hcl hstep'
                  clear hcur
                  obtain ⟨au, cu, rfl, _⟩ := hown1.rd
                  go_upto_region 20 with (fail)
                  refine abs1 (fun W => Code.wp _ _ _ _ W) fun W2 hb2 hr2 hs2 => ?_
                  have hbel2 := below_next hbel1 hb2
                  have hx2 := hx1.ext hb2
                  have hown2 := hown1.below hb2
                  clear hbel1 hx1 hown1 hb2 hs2
                  have hcr := hr2.cell
                  go_wp2_with (first | (refine wpList_ldg _ _ rfl _ 0 rfl rfl _ hx2.rd _ Try.underlying66 rfl area_size ?_))
                  refine (part_any A (s + n) (64) _ hfA (by omega)).mono ?_
                  rintro r W3 ⟨rfl, hb3⟩
                  have hbel3 := below_next hbel2 hb3
                  have hx3 := hx2.ext hb3
                  have hown3 := hown2.below hb3
                  clear hbel2 hx2 hown2 hb3 hcr hr2
                  cases hp : partA A (s + n) (64) with
                  | none =>
                    have hnxt := Lib.hid (hstep'.out none hp)
                    clear hp
                    go_wp2_with (refine wpList_stn rfl _ _ _ rfl (arC zAr) rfl rfl rfl area_size (arC_one _) ?_)
                    intro W4 hb4 hp4
                    have hbel4 := below_next hbel3 hb4
                    have hx4 := hx3.ext hb4
                    have hown4 := hown3.below hb4
                    clear hbel3 hx3 hown3 hb4
                    go_wp2
                    go_roundw
                    case rel => exact ⟨2 + 1, by omega, by go_num, hbel4, hx4, by rw [hnxt.out]; simpa using hown4, hne⟩
                    case measure => simp [intOf]
                  | some Z0 =>
                    have hnxt := Lib.hid (hstep'.out (some Z0) hp)
                    have hBW := Lib.hid hbel3.size
                    have hgW := Lib.hid hx3.lt
                    have hoW := Lib.hid (own_lt' hown3)
                    clear hp
                    go_upto_region 22 with (refine wpList_stn rfl _ _ _ rfl (arC Z0) rfl rfl rfl area_size (arC_one _) ?_)
                    intro W4 hb4 hp4
                    have hbel4 := below_next hbel3 hb4
                    have hx4 := hx3.ext hb4
                    have hown4 := hown3.below hb4
                    clear hbel3 hx3 hown3 hb4
                    obtain ⟨Z, hZ0⟩ : ∃ Z, Z = Z0 := ⟨_, rfl⟩
                    subst hZ0
                    have hZ : Hid ((some Z).map (fun z : Ar => z) = some Z) := Lib.hid rfl
                    have hp5 : Blk W4 W3.heap.size #[.int .i64 Z.fr, .int .i64 Z.en, .bool Z.rd, .bool Z.wr, .bool Z.sh, .int .i64 Z.fi, .int .i64 Z.ba] 66 := hp4
                    clear hp4
                    go_wp2_with (first | (refine wpList_ldg _ _ rfl _ 0 rfl rfl _ hp5.rd _ Try.underlying66 rfl area_size ?_) | (at_builtin; refine wpList_appC rfl _ _ 64 rfl w.heap.size 66 _ 7 40 Try.underlying64 area_info rfl (by decide) _ cur.length (cur.flatMap arL) rfl (hown4.alloc _) (some ⟨W4.heap.size, 0, none⟩) 1 1 (arL Z) rfl (fun h => (by cases h)) (Nat.le_refl _) rfl (RdV.new _ (arC Z) _) (fun u hu => areas_one [Z] u (by simpa using hu)) (by unfold maxLen; omega) (by omega) (le_alloc' hbel4.size _) ?_))
                    intro v W6 hown6 hgr6 hcase6
                    have hbel6 : Below w.heap.size w W6 := (hbel4.alloc hbel4.size _).grown hgr6 (le_alloc' hbel4.size _) (hown4.alloc (.cells (arC Z) 66)).ge
                    have hne6 : ∀ g, v.ownBlock = some g → g ≠ gx := by
                      intro g hg
                      rcases hcase6 with h1 | h1
                      · exact hne g (by rw [← h1]; exact hg)
                      · exact Nat.ne_of_gt (Nat.lt_of_lt_of_le hx4.lt (Nat.le_trans (le_alloc W4 _) (h1 g hg)))
                    have hx6 : Blk W6 gx (arC A) 66 := (hx4.alloc (.cells (arC Z) 66)).grown hgr6 (fun e => hne gx e rfl)
                    have hown7 : Own W6 w.heap.size 66 7 v (curP acc s n pr pw A (2 + 1)).length ((curP acc s n pr pw A (2 + 1)).flatMap arL) := by
                      rw [hnxt.out, hZ.out, List.flatMap_append, List.length_append]; simpa using hown6
                    clear hown6 hgr6 hcase6 hx4 hown4 hbel4 hp5 hne
                    go_wp2
                    go_roundw
                    case rel => exact ⟨2 + 1, by omega, by go_num, hbel6, hx6, hown7, hne6⟩
                    case measure => simp [intOf]
                | 3, _ =>
                  rw [curP_three, ← hnx.out] at hown1
                  clear hne hx1
                  go_wp2
                  go_roundw
                  case rel => exact ⟨k + 1, by omega, by go_num, hbel1, hown1⟩
                  case measure => simp [intOf]; omega
            · have hkl : k = l.length := by omega
              subst hkl
              have hol := outP_len l s n pr pw l.length (Nat.le_refl _)
              rw [List.take_length] at hown hol
              obtain ⟨au, cu, rfl, hru⟩ := AsR.of hown
              have hfew := outP_few hall.2 hsp pr pw
              have hml : Hid (proL l s n pr pw = if 16 < (tidyL (outP l s n pr pw)).length then [] else tidyL (outP l s n pr pw)) := Lib.hid (by
                unfold proL
                rw [hfin.out]
                unfold doneE
                by_cases h16 : 16 < (tidyL (outP l s n pr pw)).length
                · rw [if_pos h16, if_pos h16]; rfl
                · rw [if_neg h16, if_neg h16]; rfl)
              go_wp2_with fail
              refine (tidy_any (outP l s n pr pw) au cu _ hru.rd (by omega) hfew).mono ?_
              rintro r w8 ⟨v8, rfl, hown8, hb8⟩
              have hbel8 := below_next hbr hb8
              replace hown8 := hown8.mono hbr.size
              obtain ⟨a8, c8, rfl, hr8⟩ := AsR.of hown8
              have htl : (tidyL (outP l s n pr pw)).length ≤ 48 := by
                have h1 := tidy_len (outP l s n pr pw) (outP l s n pr pw).length (Nat.le_refl _)
                rw [List.take_length] at h1
                omega
              clear hown hru hbr hb8 hfew hr8
              go_wp2_with fail
              refine (done_any a8 (tidyL (outP l s n pr pw)).length c8 _ (by omega)).mono ?_
              rintro r w9 ⟨rfl, rfl⟩
              have hq := own_done hown8
              rw [← hml.out] at hq
              have hfin2 := hfin.out
              unfold doneE at hfin2
              have hfin3 := Lib.hid hfin2
              clear hfin2 hown8
              generalize hE : (if 16 < (tidyL (outP l s n pr pw)).length then (4 : Int) else 0) = E at *
              generalize hV : (if 16 < (tidyL (outP l s n pr pw)).length then Value.slice none 0 0 else .slice a8 (tidyL (outP l s n pr pw)).length c8) = V at *
              clear hE hV hml
              go_wp2
              go_ret2
              exact ⟨V, by rw [hfin3.out]; rfl, hq, hbel8⟩
    · have q0 : Hid _ := Lib.hid (pro_err (l := l) (s := s) (n := n) (rd := pr) (wr := pw) (e := spanE s n) (by unfold proE; rw [if_neg (by rw [hw0.out]; simp), if_pos he]) he)
      have he' : (spanE s n != 0) = true := by simpa using he
      clear he hall
      go_wp2
      go_ret2
      have q := q0.out
      exact ⟨.slice none 0 0, by first | (rw [q.1]; done) | (rw [q.1]; rfl), by rw [q.2]; exact Own.nil _ _ _ _, hbel⟩
  · have q0 : Hid _ := Lib.hid (pro_err (l := l) (s := s) (n := n) (rd := pr) (wr := pw) (e := (wrongA l).1) (by unfold proE; rw [if_pos hw]) hw)
    have hw' : ((wrongA l).1 != 0) = true := by simpa using hw
    have hcf := hf2.cell
    clear hw
    go_upto_region 3 with (fail)
    go_quiet (fail)
    rename_i nq
    have hbel := below_drewN hbel nq
    go_wp2
    go_ret2
    have q := q0.out
    exact ⟨.slice none 0 0, by first | (rw [q.1]; done) | (rw [q.1]; rfl), by rw [q.2]; exact Own.nil _ _ _ _, hbel⟩
end Go.Proofs.Ytmdnmknmniabeaa
