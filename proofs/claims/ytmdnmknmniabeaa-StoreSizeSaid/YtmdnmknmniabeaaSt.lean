/- Stores as data: files are placed in memory; page.Count; what is wrong with a store. -/
import Derived.Test.YtmdnmknmniabeaaRows
import Derived.Test.YtmdnmknmniabeaaIdx
import Derived.Test.YtmdnmknmniabeaaApp
import Derived.Test.YtmdnmknmniabeaaMapI
import Derived.Lib.LazyBuf
import Derived.BigQuiet
import Derived.IntWalk
import Derived.Deep.QuietTactic
import Derived.Deep.DeepCutAuto
import Derived.Deep.Light
namespace Go.Proofs.Ytmdnmknmniabeaa
open Go.RowKit Go.Maps Pw
set_option linter.unusedSimpArgs false
set_option linter.unusedVariables false

structure Fi where
  n : Int
  b : List Int
  deriving DecidableEq
structure St where
  fs : List Fi
  count : Int
  deriving DecidableEq
/-- A file that lies in memory. -/
structure PF where
  n : Int
  a : Option Addr
  l : List Int
  c : Nat
def PF.fi (p : PF) : Fi := ⟨p.n, p.l⟩
def pfC (p : PF) : Array Value := #[.int .i64 p.n, .slice p.a p.l.length p.c]
def pfL (p : PF) : List Value := (pfC p).toList
theorem pfL_len (p : PF) : (pfL p).length = 2 := rfl
theorem pfC_one (p : PF) : (pfC p).all (·.oneCell') = true := by simp [pfC, Value.oneCell']
structure PF.good (w : World) (p : PF) : Prop where
  le : p.l.length ≤ p.c
  mx : p.c ≤ maxLen
  nl : p.a = none → p.c = 0
  rd : RdV w p.a (p.l.map inV)
theorem PF.good.below {w w' : World} {p : PF} (h : p.good w) (hb : Below w.heap.size w w') : p.good w' := ⟨h.le, h.mx, h.nl, h.rd.below hb⟩
structure FsR (w : World) (a : Option Addr) (c : Nat) (ps : List PF) : Prop where
  le : ps.length ≤ c
  mx : c ≤ maxLen
  nl : a = none → c = 0
  rd : RdV w a (ps.flatMap pfL)
  good : ∀ p ∈ ps, p.good w
theorem FsR.below {w w' : World} {a : Option Addr} {c : Nat} {ps : List PF} (h : FsR w a c ps) (hb : Below w.heap.size w w') : FsR w' a c ps :=
  ⟨h.le, h.mx, h.nl, h.rd.below hb, fun p hp => (h.good p hp).below hb⟩
theorem pf_at {w : World} {a : Option Addr} {ps : List PF} (h : RdV w a (ps.flatMap pfL)) (k : Nat) (hk : k < ps.length) : ∃ b off p, a = some ⟨b, off, none⟩ ∧ ps[k]? = some p ∧ w.cell? ⟨b, off + k * 2, none⟩ = some (.int .i64 p.n) ∧ w.cell? ⟨b, off + k * 2 + 1, none⟩ = some (.slice p.a p.l.length p.c) := by
  obtain ⟨b, off, ha, hc⟩ := h.elem pfL_len (by decide) k hk
  exact ⟨b, off, ps[k], ha, List.getElem?_eq_getElem hk, hc 0 _ rfl, hc 1 _ rfl⟩
def stOf (ps : List PF) (k : Int) : St := ⟨ps.map PF.fi, k⟩
def stC (a : Option Addr) (n c : Nat) (k : Int) : Array Value := #[.slice a n c, .int .i64 k]
theorem file_size : (Try.prog.info? 61).map (·.size) = some 2 := by kernel_rfl
theorem store_size : (Try.prog.info? 47).map (·.size) = some 2 := by kernel_rfl

def countS (n : Int) : Int := if n ≤ 0 then 0 else (n - 1) / 8 + 1
theorem count_any (n : Int) (w : World) (h : n ≤ 9223372036854775807) :
    Calls Try.prog 42 #[.int .i64 n] w fun e w' => e = .returned (.int .i64 (countS n)) ∧ w = w' := by
  by_cases h0 : n ≤ 0
  · go_enter Try.func42, Try.ntmps42
    go_wp2
    go_ret
    exact ⟨by simp [countS, h0], rfl⟩
  · go_enter Try.func42, Try.ntmps42
    go_wp2
    go_ret
    exact ⟨ret_int (by unfold countS; rw [if_neg (by omega)]), rfl⟩
theorem rcount_any (n : Int) (w : World) (h : n ≤ 9223372036854775807) :
    Calls Try.prog 63 #[.int .i64 n] w fun e w' => e = .returned (.int .i64 (countS n)) ∧ w = w' := by
  by_cases h0 : n ≤ 0
  · go_enter Try.func63, Try.ntmps63
    go_wp2
    go_ret
    exact ⟨by simp [countS, h0], rfl⟩
  · go_enter Try.func63, Try.ntmps63
    go_wp2
    all_goals
      go_ret
      exact ⟨ret_int (by unfold countS; rw [if_neg (by omega)]; omega), rfl⟩
theorem countS_le {n : Int} (h : n ≤ 96) : countS n ≤ 12 := by unfold countS; split <;> omega
theorem countS_nn (n : Int) : 0 ≤ countS n := by unfold countS; split <;> omega

/-- What is wrong with blocks, one behind the other; what is wrong with files. -/
def scanB (c : Int) : List Int → List Int → Int
  | _, [] => 0
  | seen, b :: r => if b < -1 ∨ c ≤ b then 3 else if 0 ≤ b ∧ b ∈ seen then 7 else scanB c (seen ++ [b]) r
def scanF (c : Int) : List Int → List Fi → Int
  | _, [] => 0
  | seen, f :: r => if f.n < 0 ∨ 96 < f.n then 3 else if (f.b.length : Int) ≠ countS f.n then 2 else if scanB c seen f.b ≠ 0 then scanB c seen f.b else scanF c (seen ++ f.b) r
theorem scanF_cons (c : Int) (seen : List Int) (p : PF) (r : List Fi) : scanF c seen (p.fi :: r) = if p.n < 0 ∨ 96 < p.n then 3 else if (p.l.length : Int) ≠ countS p.n then 2 else if scanB c seen p.l ≠ 0 then scanB c seen p.l else scanF c (seen ++ p.l) r := rfl
theorem scanB_cons (c : Int) (seen : List Int) (b : Int) (r : List Int) : scanB c seen (b :: r) = if b < -1 ∨ c ≤ b then 3 else if 0 ≤ b ∧ b ∈ seen then 7 else scanB c (seen ++ [b]) r := rfl
def wrongSt (s : St) : Int := if 5 < s.fs.length ∨ s.count < 0 ∨ 80 < s.count then 4 else scanF s.count [] s.fs
def memF (l : List Int) (j : Int) : Bool := decide (j ∈ l)
theorem memF_put (l : List Int) (b : Int) : (fun i => memF l i || decide (i = b)) = memF (l ++ [b]) := by
  funext i
  unfold memF
  rw [Bool.eq_iff_iff]
  simp
theorem drop_at {α : Type} {l : List α} {k : Nat} {x : α} (h : l[k]? = some x) : l.drop k = x :: l.drop (k + 1) := by
  have hk := (List.getElem?_eq_some_iff.1 h).1
  rw [List.drop_eq_getElem_cons hk, (List.getElem?_eq_some_iff.1 h).2]
theorem take_at {α : Type} {l : List α} {k : Nat} {x : α} (h : l[k]? = some x) : l.take (k + 1) = l.take k ++ [x] := by
  rw [List.take_add_one, h]
  rfl
set_option maxHeartbeats 4000000 in
set_option maxRecDepth 100000 in
theorem swrong_any (ps : List PF) (k : Int) (a : Option Addr) (c : Nat) (w : World) (h : FsR w a c ps) (hk64 : -9223372036854775808 ≤ k ∧ k ≤ 9223372036854775807) :
    Calls Try.prog 29 #[.agg (stC a ps.length c k)] w fun r w' => r = .returned (.int .i64 (wrongSt (stOf ps k))) ∧ Below w.heap.size w w' := by
  have hmm := @run_makeMap Try.prog
  have hlc := Nat.le_trans h.le h.mx
  unfold maxLen at hlc
  unfold stC
  go_enter Try.func29, Try.ntmps29
  go_upto_region 1 with (fail)
  refine abs1 (fun W => Code.wp _ _ _ _ W) fun W0 hb0 hx0 hs0 => ?_
  clear hs0
  by_cases h4 : 5 < ps.length ∨ k < 0 ∨ 80 < k
  · have hfin : Hid (wrongSt (stOf ps k) = 4) := Lib.hid (by unfold wrongSt stOf; rw [if_pos (by simpa using h4)])
    have hcx := hx0.cell
    have h4' : 5 < ps.length ∨ (¬ 5 < ps.length ∧ k < 0) ∨ (¬ 5 < ps.length ∧ ¬ k < 0 ∧ 80 < k) := by omega
    clear h4
    rcases h4' with g | ⟨g, g2⟩ | ⟨g, g2, g3⟩
    all_goals
      go_wp2
      go_ret
      exact ⟨ret_int hfin.out.symm, hb0⟩
  · have hres : Hid (wrongSt (stOf ps k) = scanF k (((ps.take 0).map PF.fi).flatMap Fi.b) ((ps.drop 0).map PF.fi)) := Lib.hid (by unfold wrongSt stOf; rw [if_neg (by simpa using h4)]; rfl)
    have g1 : ¬ 5 < ps.length := by omega
    have g2 : ¬ k < 0 := by omega
    have g3 : ¬ 80 < k := by omega
    have hcx := hx0.cell
    clear h4
    go_upto_region 4 with (fail)
    clear hcx hmm
    refine absM (fun W => Code.wp _ _ _ _ W) fun W1 hb1 hM1 => ?_
    have hbel1 := below_next hb0 hb1
    have hx1 := hx0.ext hb1
    have hgm : w.heap.size < W0.heap.size := hx0.lt
    obtain ⟨gm, hGM⟩ : ∃ g, g = W0.heap.size := ⟨_, rfl⟩
    rw [← hGM] at hM1 hgm ⊢
    clear hGM hb0 hx0 hb1
    have hM1' : MapO W1 gm 0 (memF (((ps.take 0).map PF.fi).flatMap Fi.b)) := hM1
    have hcx := hx1.cell
    go_upto_region 5 with (fail)
    clear hcx hM1
    go_loopw [26] (fun i wr => ∃ (q n : Nat), q ≤ ps.length ∧ i = .int .i64 q ∧ n ≤ 12 * q ∧ Below w.heap.size w wr ∧ Blk wr w.heap.size #[.slice a ps.length c, .int .i64 k] 47 ∧ MapO wr gm n (memF (((ps.take q).map PF.fi).flatMap Fi.b)) ∧ Hid (wrongSt (stOf ps k) = scanF k (((ps.take q).map PF.fi).flatMap Fi.b) ((ps.drop q).map PF.fi))) (fun i _ => ps.length - (intOf i).toNat)
    case atStart => exact ⟨0, 0, Nat.zero_le _, rfl, Nat.le_refl _, hbel1, hx1, hM1', hres⟩
    case round =>
      clear hbel1 hx1 hM1' hres
      obtain ⟨q, n, hq, rfl, hn, hbr, hx, hM, hres⟩ := hrel
      by_cases hlt : q < ps.length
      · obtain ⟨b, off, p, rfl, hp, c0, c1⟩ := pf_at (h.below hbr).rd q hlt
        have hgood := (h.good p (List.mem_of_getElem? hp)).below hbr
        have hdr := drop_at hp
        have htk := take_at hp
        rw [hdr, List.map_cons] at hres
        have htk' := Lib.hid htk
        clear hdr htk
        generalize hseen : ((ps.take q).map PF.fi).flatMap Fi.b = seen at hM hres
        have hseen' := Lib.hid hseen
        clear hseen hp
        go_wp2_with (refine wpList_stn rfl _ _ _ rfl (pfC p) rfl rfl rfl file_size (pfC_one _) ?_)
        intro w2 hb2 hf2
        have hbel2 := below_next hbr hb2
        have hx2 := hx.ext hb2
        have hM2 := hM.below hb2
        have hgood2 := hgood.below hb2
        clear hbr hx hM hgood hb2 c0 c1
        have hcf := hf2.cell
        have f0 : (pfC p)[0]? = some (.int .i64 p.n) := rfl
        have f1 : (pfC p)[1]? = some (.slice p.a p.l.length p.c) := rfl
        by_cases hn96 : p.n < 0 ∨ 96 < p.n
        · have hfin : Hid (wrongSt (stOf ps k) = 3) := Lib.hid (by rw [hres.out, scanF_cons, if_pos hn96])
          have hn' : p.n < 0 ∨ (¬ p.n < 0 ∧ 96 < p.n) := by omega
          clear hn96
          rcases hn' with g | ⟨g, g2⟩
          all_goals
            go_wp2
            go_ret
            exact ⟨ret_int hfin.out.symm, hbel2⟩
        · have hres2 : Hid (wrongSt (stOf ps k) = if (p.l.length : Int) ≠ countS p.n then 2 else if scanB k seen p.l ≠ 0 then scanB k seen p.l else scanF k (seen ++ p.l) ((ps.drop (q + 1)).map PF.fi)) := Lib.hid (by rw [hres.out, scanF_cons, if_neg hn96])
          have g4 : ¬ p.n < 0 := by omega
          have g5 : ¬ 96 < p.n := by omega
          clear hn96 hres
          by_cases hcnt : (p.l.length : Int) = countS p.n
          · have hres3 : Hid (wrongSt (stOf ps k) = if scanB k seen p.l ≠ 0 then scanB k seen p.l else scanF k (seen ++ p.l) ((ps.drop (q + 1)).map PF.fi)) := Lib.hid (by rw [hres2.out, if_neg (fun hh => hh hcnt)])
            have hl12 : p.l.length ≤ 12 := by
              have := countS_le (n := p.n) (by omega)
              omega
            have hcc := Lib.hid hcnt
            clear hres2 hcnt
            go_upto_region 9 with (fail)
            refine wp_grow 7 [isV (.pointer (some ⟨wr.heap.size, 1, none⟩)), isV (.slice p.a p.l.length p.c), isV (.int .i64 (p.l.length : Int)), isV (.pointer (some ⟨wr.heap.size, 0, none⟩)), isV (.int .i64 p.n), isV (.int .i64 (countS p.n)), isV (.bool false)] (by kernel_rfl) (by kernel_rfl) (by kernel_rfl) (by decide) _ rfl (by kernel_rfl) (all_cons ?_ (all_cons ?_ (all_cons ?_ (all_cons ?_ (all_cons ?_ (all_cons ?_ (all_cons ?_ (all_nil)))))))) ?_
            · intro ρ y W hw hn hb hd
              have E5 : ρ (.tmp 5) = .pointer (some ⟨wr.heap.size, 0, none⟩) := (hn (.tmp 5) rfl).trans rfl
              refine asked_val (.pointer (some ⟨wr.heap.size, 1, none⟩)) (want_free rfl) (by simp [execOp, go_sem, E5]) rfl
            · intro ρ y W hw hn hb hd
              have E38 := hw 38 0 rfl
              have h0 : y 0 = .pointer (some ⟨wr.heap.size, 1, none⟩) := hd 0 rfl
              refine asked_val (.slice p.a p.l.length p.c) (want_free rfl) (by simp [execOp, go_sem, E38, h0, (hf2.ext hb).cell, f1, Try.underlying36]) rfl
            · intro ρ y W hw hn hb hd
              have E39 := hw 39 1 rfl
              have h1 : y 1 = .slice p.a p.l.length p.c := hd 1 rfl
              refine asked_val (.int .i64 (p.l.length : Int)) (want_free rfl) (run_lenS rfl (E39.trans h1) Try.underlying36) rfl
            · intro ρ y W hw hn hb hd
              have E5 : ρ (.tmp 5) = .pointer (some ⟨wr.heap.size, 0, none⟩) := (hn (.tmp 5) rfl).trans rfl
              refine asked_val (.pointer (some ⟨wr.heap.size, 0, none⟩)) (want_free rfl) (by simp [execOp, go_sem, E5]) rfl
            · intro ρ y W hw hn hb hd
              have E41 := hw 41 3 rfl
              have h3 : y 3 = .pointer (some ⟨wr.heap.size, 0, none⟩) := hd 3 rfl
              refine asked_val (.int .i64 p.n) (want_free rfl) (by simp [execOp, go_sem, E41, h3, (hf2.ext hb).cell, f0]) rfl
            · intro ρ y W hw hn hb hd
              have E42 := hw 42 4 rfl
              have h4 : y 4 = .int .i64 p.n := hd 4 rfl
              have EF : ∀ f, ρ (.func f) = .func (.func f) #[] #[] := fun f => hn (.func f) trivial
              refine asked_call _ _ (want_free rfl) (run_call rfl (EF _) Try.func42 (by kernel_rfl) (by kernel_rfl) (by simp only [List.map_toArray, List.map_cons, List.map_nil, E42, h4, EF]; rfl)) ?_
              refine (count_any p.n W (by omega)).mono ?_
              rintro e w1 ⟨rfl, rfl⟩
              exact ⟨_, rfl, Below.refl _ _, rfl⟩
            · intro ρ y W hw hn hb hd
              have E40 := hw 40 2 rfl
              have h2 : y 2 = .int .i64 (p.l.length : Int) := hd 2 rfl
              have E43 := hw 43 5 rfl
              have h5 : y 5 = .int .i64 (countS p.n) := hd 5 rfl
              refine asked_val (.bool false) (want_free rfl) (run_bin rfl (E40.trans h2) (E43.trans h5) (by simp [go_sem, hcc.out])) rfl
            intro y WA hbWA hRWA
            have hy0 : y 0 = .pointer (some ⟨wr.heap.size, 1, none⟩) := hRWA 0 (by decide)
            have hy1 : y 1 = .slice p.a p.l.length p.c := hRWA 1 (by decide)
            have hy2 : y 2 = .int .i64 (p.l.length : Int) := hRWA 2 (by decide)
            have hy3 : y 3 = .pointer (some ⟨wr.heap.size, 0, none⟩) := hRWA 3 (by decide)
            have hy4 : y 4 = .int .i64 p.n := hRWA 4 (by decide)
            have hy5 : y 5 = .int .i64 (countS p.n) := hRWA 5 (by decide)
            have hy6 : y 6 = .bool false := hRWA 6 (by decide)
            clear hRWA
            simp only [lay, Nat.reduceAdd, Nat.reduceLT, decide_true, decide_false, if_true, Bool.false_eq_true, if_false, List.setIfInBounds_toArray, List.set_cons_zero, List.set_cons_succ, List.drop_succ_cons, List.drop_zero, List.drop_nil, hy0, hy1, hy2, hy3, hy4, hy5, hy6]
            clear hy0 hy1 hy2 hy3 hy4 hy5 hy6
            have hbelA := below_next hbel2 hbWA
            have hxA := hx2.ext hbWA
            have hMA := hM2.below hbWA
            have hfA := hf2.ext hbWA
            have hgA := hgood2.below hbWA
            clear hbel2 hx2 hM2 hf2 hgood2 hbWA hcf
            have hcf := hfA.cell
            have hB0 : Hid (scanB k seen p.l = scanB k (seen ++ p.l.take 0) (p.l.drop 0)) := Lib.hid (by simp)
            have hM0 : MapO WA gm n (memF (seen ++ p.l.take 0)) := by simpa using hMA
            have hle := hgA.le
            have hmx := hgA.mx
            have hrdp := hgA.rd
            unfold maxLen at hmx
            clear hMA hgA
            go_upto_region 12 with (fail)
            clear hcf f0 f1 hfA
            go_loopw [48] (fun i wr => ∃ (j m : Nat), j ≤ p.l.length ∧ i = .int .i64 j ∧ m ≤ n + j ∧ Below w.heap.size w wr ∧ Blk wr w.heap.size #[.slice (some ⟨b, off, none⟩) ps.length c, .int .i64 k] 47 ∧ MapO wr gm m (memF (seen ++ p.l.take j)) ∧ RdV wr p.a (p.l.map inV) ∧ Hid (scanB k seen p.l = scanB k (seen ++ p.l.take j) (p.l.drop j))) (fun i _ => p.l.length - (intOf i).toNat)
            case atStart => exact ⟨0, n, Nat.zero_le _, rfl, Nat.le_refl _, hbelA, hxA, hM0, hrdp, hB0⟩
            case round =>
              clear hbelA hxA hM0 hrdp hB0
              obtain ⟨j, m, hj, rfl, hm, hbr, hx, hM, hrp, hB⟩ := hrel
              by_cases hjl : j < p.l.length
              · obtain ⟨x, hX⟩ : ∃ x, p.l[j]? = some x := ⟨p.l[j], List.getElem?_eq_getElem hjl⟩
                obtain ⟨b2, off2, hpa, hc⟩ := elem_at hrp j hjl
                rw [show p.l[j] = x from (List.getElem?_eq_some_iff.1 hX).2] at hc
                have hdr := drop_at hX
                have htk := take_at hX
                rw [hdr, scanB_cons] at hB
                rw [hpa]
                generalize hs2 : seen ++ p.l.take j = seen2 at hB hM
                have htk2 : Hid (seen ++ p.l.take (j + 1) = seen2 ++ [x]) := Lib.hid (by rw [htk, ← List.append_assoc, hs2])
                have hrp' := Lib.hid hrp
                have hpa' := Lib.hid hpa
                have hcx := hx.cell
                clear hX hdr htk hs2 hrp hpa
                have hjl' : (j : Int) < (p.l.length : Int) := by omega
                by_cases hr3 : x < -1 ∨ k ≤ x
                · have hfin : Hid (wrongSt (stOf ps k) = 3) := Lib.hid (by rw [hres3.out, hB.out, if_pos hr3]; rfl)
                  have hr3' : x < -1 ∨ (¬ x < -1 ∧ k ≤ x) := by omega
                  clear hr3
                  rcases hr3' with g6 | ⟨g6, g7⟩
                  all_goals
                    go_wp2
                    go_ret
                    exact ⟨ret_int hfin.out.symm, hbr⟩
                · have g6 : ¬ x < -1 := by omega
                  have g7 : ¬ k ≤ x := by omega
                  have hB2 : Hid (scanB k seen p.l = if 0 ≤ x ∧ x ∈ seen2 then 7 else scanB k (seen2 ++ [x]) (p.l.drop (j + 1))) := Lib.hid (by rw [hB.out, if_neg hr3])
                  clear hB hr3
                  have hlook := hM.look x (by omega)
                  by_cases h7 : 0 ≤ x ∧ x ∈ seen2
                  · have hfin : Hid (wrongSt (stOf ps k) = 7) := Lib.hid (by rw [hres3.out, hB2.out, if_pos h7]; rfl)
                    rw [show memF seen2 x = true from decide_eq_true h7.2] at hlook
                    have g8 : 0 ≤ x := h7.1
                    clear h7
                    go_wp2
                    go_ret
                    exact ⟨ret_int hfin.out.symm, hbr⟩
                  · have hB3 : Hid (scanB k seen p.l = scanB k (seen ++ p.l.take (j + 1)) (p.l.drop (j + 1))) := Lib.hid (by rw [hB2.out, if_neg h7, htk2.out])
                    have h7' : ¬ 0 ≤ x ∨ (0 ≤ x ∧ memF seen2 x = false) := by
                      by_cases g8 : 0 ≤ x
                      · exact .inr ⟨g8, decide_eq_false fun hh => h7 ⟨g8, hh⟩⟩
                      · exact .inl g8
                    clear h7 hB2
                    rcases h7' with g8 | ⟨g8, g9⟩
                    · clear hlook
                      go_wp2_with (refine wpList_mark hM (by omega) rfl _ _ _ rfl rfl x rfl rfl (by omega) ?_)
                      intro w6 hM6 hgr6
                      rw [memF_put, ← htk2.out] at hM6
                      have hbel6 := hbr.grown hgr6 hbr.size (fun k hk => by cases hk; omega)
                      have hx6 := hx.grown hgr6 (fun e => by have := Option.some.inj e; omega)
                      have hrp6 := hM.rdv hrp'.out hgr6
                      clear hbr hx hM hgr6 hcx hc
                      go_wp2
                      go_roundw
                      case rel => exact ⟨j + 1, m + 1, by omega, by go_num, by omega, hbel6, hx6, hM6, (by rw [← hpa'.out]; exact hrp6), hB3⟩
                      case measure => simp [intOf]; omega
                    · rw [g9] at hlook
                      go_wp2_with (refine wpList_mark hM (by omega) rfl _ _ _ rfl rfl x rfl rfl (by omega) ?_)
                      intro w6 hM6 hgr6
                      rw [memF_put, ← htk2.out] at hM6
                      have hbel6 := hbr.grown hgr6 hbr.size (fun k hk => by cases hk; omega)
                      have hx6 := hx.grown hgr6 (fun e => by have := Option.some.inj e; omega)
                      have hrp6 := hM.rdv hrp'.out hgr6
                      clear hbr hx hM hgr6 hcx hc
                      go_wp2
                      go_roundw
                      case rel => exact ⟨j + 1, m + 1, by omega, by go_num, by omega, hbel6, hx6, hM6, (by rw [← hpa'.out]; exact hrp6), hB3⟩
                      case measure => simp [intOf]; omega
              · have hfin : Hid (wrongSt (stOf ps k) = scanF k (((ps.take (q + 1)).map PF.fi).flatMap Fi.b) ((ps.drop (q + 1)).map PF.fi)) := Lib.hid (by
                  have e0 : scanB k seen p.l = 0 := by rw [hB.out, List.drop_eq_nil_of_le (by omega)]; rfl
                  rw [hres3.out, if_neg (fun hh => hh e0), htk'.out, List.map_append, List.flatMap_append, hseen'.out]
                  simp [PF.fi])
                have hMq : MapO wr gm m (memF (((ps.take (q + 1)).map PF.fi).flatMap Fi.b)) := by
                  rw [List.take_of_length_le (by omega)] at hM
                  rw [htk'.out, List.map_append, List.flatMap_append, hseen'.out]
                  simpa [PF.fi] using hM
                have hjl' : ¬ (j : Int) < (p.l.length : Int) := by omega
                clear hM hB hres3
                go_wp2
                go_roundw
                case rel => exact ⟨q + 1, m, by omega, by go_num, by omega, hbr, hx, hMq, hfin⟩
                case measure => simp [intOf]; omega
          · have hfin : Hid (wrongSt (stOf ps k) = 2) := Lib.hid (by rw [hres2.out, if_pos hcnt])
            have hcc : ((p.l.length : Int) != countS p.n) = true := by rw [bne_iff_ne]; exact hcnt
            clear hres2 hcnt
            go_upto_region 9 with (fail)
            refine wp_grow 7 [isV (.pointer (some ⟨wr.heap.size, 1, none⟩)), isV (.slice p.a p.l.length p.c), isV (.int .i64 (p.l.length : Int)), isV (.pointer (some ⟨wr.heap.size, 0, none⟩)), isV (.int .i64 p.n), isV (.int .i64 (countS p.n)), isV (.bool true)] (by kernel_rfl) (by kernel_rfl) (by kernel_rfl) (by decide) _ rfl (by kernel_rfl) (all_cons ?_ (all_cons ?_ (all_cons ?_ (all_cons ?_ (all_cons ?_ (all_cons ?_ (all_cons ?_ (all_nil)))))))) ?_
            · intro ρ y W hw hn hb hd
              have E5 : ρ (.tmp 5) = .pointer (some ⟨wr.heap.size, 0, none⟩) := (hn (.tmp 5) rfl).trans rfl
              refine asked_val (.pointer (some ⟨wr.heap.size, 1, none⟩)) (want_free rfl) (by simp [execOp, go_sem, E5]) rfl
            · intro ρ y W hw hn hb hd
              have E38 := hw 38 0 rfl
              have h0 : y 0 = .pointer (some ⟨wr.heap.size, 1, none⟩) := hd 0 rfl
              refine asked_val (.slice p.a p.l.length p.c) (want_free rfl) (by simp [execOp, go_sem, E38, h0, (hf2.ext hb).cell, f1, Try.underlying36]) rfl
            · intro ρ y W hw hn hb hd
              have E39 := hw 39 1 rfl
              have h1 : y 1 = .slice p.a p.l.length p.c := hd 1 rfl
              refine asked_val (.int .i64 (p.l.length : Int)) (want_free rfl) (run_lenS rfl (E39.trans h1) Try.underlying36) rfl
            · intro ρ y W hw hn hb hd
              have E5 : ρ (.tmp 5) = .pointer (some ⟨wr.heap.size, 0, none⟩) := (hn (.tmp 5) rfl).trans rfl
              refine asked_val (.pointer (some ⟨wr.heap.size, 0, none⟩)) (want_free rfl) (by simp [execOp, go_sem, E5]) rfl
            · intro ρ y W hw hn hb hd
              have E41 := hw 41 3 rfl
              have h3 : y 3 = .pointer (some ⟨wr.heap.size, 0, none⟩) := hd 3 rfl
              refine asked_val (.int .i64 p.n) (want_free rfl) (by simp [execOp, go_sem, E41, h3, (hf2.ext hb).cell, f0]) rfl
            · intro ρ y W hw hn hb hd
              have E42 := hw 42 4 rfl
              have h4 : y 4 = .int .i64 p.n := hd 4 rfl
              have EF : ∀ f, ρ (.func f) = .func (.func f) #[] #[] := fun f => hn (.func f) trivial
              refine asked_call _ _ (want_free rfl) (run_call rfl (EF _) Try.func42 (by kernel_rfl) (by kernel_rfl) (by simp only [List.map_toArray, List.map_cons, List.map_nil, E42, h4, EF]; rfl)) ?_
              refine (count_any p.n W (by omega)).mono ?_
              rintro e w1 ⟨rfl, rfl⟩
              exact ⟨_, rfl, Below.refl _ _, rfl⟩
            · intro ρ y W hw hn hb hd
              have E40 := hw 40 2 rfl
              have h2 : y 2 = .int .i64 (p.l.length : Int) := hd 2 rfl
              have E43 := hw 43 5 rfl
              have h5 : y 5 = .int .i64 (countS p.n) := hd 5 rfl
              refine asked_val (.bool true) (want_free rfl) (run_bin rfl (E40.trans h2) (E43.trans h5) (by simp [go_sem, hcc])) rfl
            intro y WA hbWA hRWA
            have hy0 : y 0 = .pointer (some ⟨wr.heap.size, 1, none⟩) := hRWA 0 (by decide)
            have hy1 : y 1 = .slice p.a p.l.length p.c := hRWA 1 (by decide)
            have hy2 : y 2 = .int .i64 (p.l.length : Int) := hRWA 2 (by decide)
            have hy3 : y 3 = .pointer (some ⟨wr.heap.size, 0, none⟩) := hRWA 3 (by decide)
            have hy4 : y 4 = .int .i64 p.n := hRWA 4 (by decide)
            have hy5 : y 5 = .int .i64 (countS p.n) := hRWA 5 (by decide)
            have hy6 : y 6 = .bool true := hRWA 6 (by decide)
            clear hRWA
            simp only [lay, Nat.reduceAdd, Nat.reduceLT, decide_true, decide_false, if_true, Bool.false_eq_true, if_false, List.setIfInBounds_toArray, List.set_cons_zero, List.set_cons_succ, List.drop_succ_cons, List.drop_zero, List.drop_nil, hy0, hy1, hy2, hy3, hy4, hy5, hy6]
            clear hy0 hy1 hy2 hy3 hy4 hy5 hy6
            go_wp2
            go_ret
            exact ⟨ret_int hfin.out.symm, below_next hbel2 hbWA⟩
      · have hfin : Hid (wrongSt (stOf ps k) = 0) := Lib.hid (by rw [hres.out, List.drop_eq_nil_of_le (by omega)]; rfl)
        go_wp2
        go_ret
        exact ⟨ret_int hfin.out.symm, hbr⟩
end Go.Proofs.Ytmdnmknmniabeaa
