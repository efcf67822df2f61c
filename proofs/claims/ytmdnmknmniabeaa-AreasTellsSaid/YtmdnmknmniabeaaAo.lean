/- The document's pages of areas as data; Ones, WrongArea, span. -/
import Derived.Test.YtmdnmknmniabeaaAr8
import Derived.Test.YtmdnmknmniabeaaAr12
namespace Go.Proofs.Ytmdnmknmniabeaa
open Go.RowKit Pw
set_option linter.unusedSimpArgs false
set_option linter.unusedVariables false

def oR (o : Option Pg) : Bool := match o with | some p => p.rd | none => false
def oW (o : Option Pg) : Bool := match o with | some p => p.wr | none => false
def oH (o : Option Pg) : Bool := match o with | some p => p.sh | none => false
def oF (o : Option Pg) : Int := match o with | some p => p.fi | none => 0
def oP (o : Option Pg) : Int := match o with | some p => p.pg | none => 0
def oneC (o : Option Pg) : Array Value := #[.bool o.isSome, .bool (oR o), .bool (oW o), .bool (oH o), .int .i64 (oF o), .int .i64 (oP o)]
def oneL (o : Option Pg) : List Value := (oneC o).toList
theorem oneL_len (o : Option Pg) : (oneL o).length = 6 := rfl
theorem oneL_one (o : Option Pg) : ∀ u ∈ oneL o, u.oneCell' = true := by
  intro u hu
  simp only [oneL, oneC, List.mem_cons, List.not_mem_nil, or_false] at hu
  rcases hu with rfl | rfl | rfl | rfl | rfl | rfl <;> rfl
theorem oneC_one (o : Option Pg) : (oneC o).all (·.oneCell') = true := by simp [oneC, Value.oneCell']
def vsC (l : List (Option Pg)) : Array Value := (l.flatMap oneL).toArray
theorem vs_len (l : List (Option Pg)) : (l.flatMap oneL).length = l.length * 6 := flat_len oneL 6 oneL_len l
theorem vsC_size (l : List (Option Pg)) : (vsC l).size = l.length * 6 := by
  unfold vsC; rw [List.size_toArray, vs_len]
theorem vsC_one (l : List (Option Pg)) : (vsC l).all (·.oneCell') = true := by
  rw [← Array.all_toList, List.all_eq_true]
  intro u hu
  obtain ⟨o, _, h⟩ := List.mem_flatMap.1 (show u ∈ l.flatMap oneL by simpa [vsC] using hu)
  exact oneL_one o u h
theorem vsC_set (l : List (Option Pg)) (k : Nat) (hk : k < l.length) (x : Option Pg) : putAt (vsC l) (k * 6) (oneL x) = vsC (l.set k x) := by
  apply Array.ext_getElem?
  intro i
  by_cases hi : i < l.length * 6
  · have hq : i / 6 < l.length := by omega
    have hir : i = i / 6 * 6 + i % 6 := by omega
    have h2 := flat_cell oneL 6 oneL_len (l.set k x) (i / 6) (by simpa using hq) (i % 6) (by omega)
    rw [← hir] at h2
    have h3 := flat_cell oneL 6 oneL_len l (i / 6) hq (i % 6) (by omega)
    rw [← hir] at h3
    have e2 : (vsC (l.set k x))[i]? = ((l.set k x).flatMap oneL)[i]? := by simp [vsC]
    have e3 : (vsC l)[i]? = (l.flatMap oneL)[i]? := by simp [vsC]
    by_cases e : i / 6 = k
    · have hik : i = k * 6 + i % 6 := by omega
      have hlt : i % 6 < (oneL x).length := by rw [oneL_len]; omega
      have h1 := putAt_in (oneL x) (vsC l) (k * 6) (i % 6) (oneL x)[i % 6] (by rw [oneL_len, vsC_size]; omega) (List.getElem?_eq_getElem hlt)
      rw [← hik] at h1
      rw [h1, e2, h2]
      simp only [e, List.getElem_set_self]
      exact (List.getElem?_eq_getElem hlt).symm
    · rw [putAt_out _ _ _ _ (by rw [oneL_len]; omega), e2, h2, e3, h3]
      congr 2
      rw [List.getElem_set_ne (fun h => e h.symm)]
  · rw [Array.getElem?_eq_none (by rw [size_putAt, vsC_size]; omega), Array.getElem?_eq_none (by rw [vsC_size, List.length_set]; omega)]
/-- Pages by their numbers. -/
def pgs (f : Nat → Option Pg) : List (Option Pg) := (List.range 64).map f
theorem pgs_len (f : Nat → Option Pg) : (pgs f).length = 64 := by simp [pgs]
theorem pgs_set (f : Nat → Option Pg) (k : Nat) (x : Option Pg) : (pgs f).set k x = pgs (fun i => if i = k then x else f i) := by
  unfold pgs
  apply List.ext_getElem?
  intro i
  rw [List.getElem?_set]
  by_cases h : k = i
  · subst h
    by_cases hk : k < 64
    · simp [hk]
    · simp [hk]
  · rw [if_neg h]
    by_cases hi : i < 64
    · simp [hi, Ne.symm h]
    · simp [hi]
def fC (f : Nat → Option Pg) : Array Value := vsC (pgs f)
theorem fC_size (f : Nat → Option Pg) : (fC f).size = 384 := by unfold fC; rw [vsC_size, pgs_len]
theorem fC_set (f : Nat → Option Pg) (k : Nat) (hk : k < 64) (x : Option Pg) : putAt (fC f) (k * 6) (oneL x) = fC (fun i => if i = k then x else f i) := by
  unfold fC
  rw [vsC_set _ _ (by rw [pgs_len]; exact hk), pgs_set]
theorem put_last (cur : Array Value) (o : Nat) (a b c d e x y : Value) : putAt (putAt cur o [a, b, c, d, e, x]) (o + 5) [y] = putAt cur o [a, b, c, d, e, y] := by
  simp [putAt]
theorem one_size : (Try.prog.info? 77).map (·.size) = some 6 := by kernel_rfl
theorem ones_size : (Try.prog.info? 78).map (·.size) = some 384 := by kernel_rfl
def f0 : Nat → Option Pg := fun _ => none
/-- With an area laid over it, up to page K. -/
def ovr (A : Ar) (K : Int) (f : Nat → Option Pg) : Nat → Option Pg := fun i => if A.fr ≤ (i : Int) ∧ (i : Int) < K then some (pgOf A i) else f i
theorem ovr_start (A : Ar) (f : Nat → Option Pg) : ovr A A.fr f = f := by funext i; unfold ovr; rw [if_neg (by omega)]
theorem ovr_next {A : Ar} {K : Nat} (hK : A.fr ≤ (K : Int)) (f : Nat → Option Pg) : (fun i => if i = K then some (pgOf A K) else ovr A K f i) = ovr A ((K : Int) + 1) f := by
  funext i
  unfold ovr
  by_cases h : i = K
  · subst h; rw [if_pos rfl, if_pos (by omega)]
  · rw [if_neg h]
    by_cases c : A.fr ≤ (i : Int) ∧ (i : Int) < K
    · rw [if_pos c, if_pos (by omega)]
    · rw [if_neg c, if_neg (by omega)]
def onesF (l : List Ar) : Nat → Option Pg := l.foldl (fun f A => ovr A A.en f) f0
theorem onesF_next {l : List Ar} {k : Nat} (hk : k < l.length) : onesF (l.take (k + 1)) = ovr l[k] l[k].en (onesF (l.take k)) := by
  unfold onesF
  rw [List.take_add_one, List.getElem?_eq_getElem hk, Option.toList_some, List.foldl_append]
  rfl
set_option maxHeartbeats 4000000 in
set_option maxRecDepth 100000 in
theorem ones_any (l : List Ar) (a : Option Addr) (c : Nat) (w : World) (h : RdV w a (l.flatMap arL)) (hl : l.length ≤ 1000) (hok : ∀ x ∈ l, areaE x = 0) :
    Calls Try.prog 53 #[.slice a l.length c] w fun r w' => r = .returned (.agg (fC (onesF l))) ∧ Below w.heap.size w w' := by
  go_enter Try.func53, Try.ntmps53
  go_upto_region 2 with (fail)
  refine abs2 (fun W => Code.wp _ _ _ _ W) fun W0 hb0 hres0 ho0 hs0 => ?_
  clear hs0
  replace ho0 : Blk W0 (w.heap.size + 1) (fC f0) 78 := ho0
  replace hres0 : Blk W0 w.heap.size (fC f0) 78 := hres0
  go_upto_region 3 with (fail)
  go_loopw [9] (fun i wr => ∃ k : Nat, k ≤ l.length ∧ i = .int .i64 k ∧ Below w.heap.size w wr ∧ Blk wr (w.heap.size + 1) (fC (onesF (l.take k))) 78 ∧ Blk wr w.heap.size (fC f0) 78) (fun i _ => l.length - (intOf i).toNat)
  case atStart => exact ⟨0, Nat.zero_le _, rfl, hb0, ho0, hres0⟩
  case round =>
    clear hb0 ho0 hres0
    obtain ⟨k, hk, rfl, hbr, hor, hrr⟩ := hrel
    by_cases hlt : k < l.length
    · have hnx := Lib.hid (onesF_next hlt)
      have hA := areaE_few (hok l[k] (List.getElem_mem _))
      obtain ⟨⟨f1, f2, f3⟩, f4, f5, f6, _, _⟩ := hA
      generalize hF : onesF (l.take k) = F at *
      obtain ⟨b, off, rfl, c0, c1, c2, c3, c4, c5, c6⟩ := ar_at7 (h.below hbr) k hlt
      generalize l[k] = A at *
      go_upto_region 5 with (fail)
      refine abs1 (fun W => Code.wp _ _ _ _ W) fun W1 hb1 hx1 hs1 => ?_
      clear hs1 c0 c1 c2 c3 c4 c5 c6
      have hbel1 := below_next hbr hb1
      have ho1 := hor.ext hb1
      have hr1 := hrr.ext hb1
      have hgx : w.heap.size + 1 < wr.heap.size := hor.lt
      clear hbr hor hrr hb1
      obtain ⟨gx, hg⟩ : ∃ g, g = wr.heap.size := ⟨_, rfl⟩
      rw [← hg] at hx1 hgx ⊢
      clear hg
      obtain ⟨N, hN⟩ : ∃ N : Nat, A.fr = (N : Int) := ⟨A.fr.toNat, by omega⟩
      have hN' := Lib.hid hN
      clear hN
      have hcx := hx1.cell
      go_upto_region 6 with (fail)
      clear hcx
      go_loopw [6] (fun i wr => ∃ K : Nat, A.fr ≤ (K : Int) ∧ (K : Int) ≤ A.en ∧ i = .int .i64 K ∧ Below w.heap.size w wr ∧ Blk wr gx (arC A) 66 ∧ Blk wr (w.heap.size + 1) (fC (ovr A K F)) 78 ∧ Blk wr w.heap.size (fC f0) 78) (fun i _ => (A.en - intOf i).toNat)
      case atStart => exact ⟨N, by have := hN'.out; omega, by have := hN'.out; omega, by rw [hN'.out], hbel1, hx1, by rw [← hN'.out, ovr_start]; exact ho1, hr1⟩
      case round =>
        clear hbel1 hx1 ho1 hr1
        obtain ⟨K, hK0, hK1, rfl, hbr, hx, ho, hr⟩ := hrel
        have hcx := hx.cell
        unfold arC at hcx
        by_cases hKe : (K : Int) < A.en
        · have hK64 : K < 64 := by omega
          have hK64i : (K : Int) < 64 := by omega
          have hfit : Hid (K * 6 + 6 ≤ (fC (ovr A K F)).size) := Lib.hid (by rw [fC_size]; omega)
          have hwa : IntKind.i64.wrap (A.ba + (K : Int)) = A.ba + (K : Int) := IntWalk.i64_in _ (by omega)
          have hwb : IntKind.i64.wrap (A.ba + (K : Int) - A.fr) = A.ba + (K : Int) - A.fr := IntWalk.i64_in _ (by omega)
          have hfin : Hid (∀ q : Int, q = (if 0 ≤ A.fi then A.ba + (K : Int) - A.fr else 0) → putAt (fC (ovr A K F)) (K * 6) [.bool true, .bool A.rd, .bool A.wr, .bool A.sh, .int .i64 A.fi, .int .i64 q] = fC (ovr A ((K : Int) + 1) F)) := Lib.hid (fun q hq => by
            rw [← ovr_next hK0, ← fC_set _ K hK64, hq]; rfl)
          go_upto_region 9 with (refine wpList_st rfl _ _ _ rfl (w.heap.size + 1) (K * 6) #[.bool true, .bool A.rd, .bool A.wr, .bool A.sh, .int .i64 A.fi, .int .i64 0] rfl rfl _ _ ho hfit.out one_size (by simp [Value.oneCell']) ?_)
          intro W2 ho2 hgr2
          have hbel2 : Below w.heap.size w W2 := hbr.grown hgr2 hbr.size (fun k hk => by cases hk; omega)
          have hx2 : Blk W2 gx (arC A) 66 := hx.grown hgr2 (fun e => by have := Option.some.inj e; omega)
          have hr2 : Blk W2 w.heap.size (fC f0) 78 := hr.grown hgr2 (fun e => by have := Option.some.inj e; omega)
          clear hbr hx ho hr hgr2 hcx
          have hcx := hx2.cell
          unfold arC at hcx
          by_cases hfi : 0 ≤ A.fi
          · go_upto_region 7 with (refine wpList_stv rfl _ _ _ rfl (w.heap.size + 1) (K * 6 + 5) (.int .i64 (A.ba + (K : Int) - A.fr)) [.int .i64 (A.ba + (K : Int) - A.fr)] rfl rfl rfl _ _ ho2 (by rw [size_putAt]; exact hfit.out) int_size (by simp [Value.oneCell']) ?_)
            intro W3 ho3 hgr3
            have hbel3 : Below w.heap.size w W3 := hbel2.grown hgr3 hbel2.size (fun k hk => by cases hk; omega)
            have hx3 : Blk W3 gx (arC A) 66 := hx2.grown hgr3 (fun e => by have := Option.some.inj e; omega)
            have hr3 : Blk W3 w.heap.size (fC f0) 78 := hr2.grown hgr3 (fun e => by have := Option.some.inj e; omega)
            have ho4 : Blk W3 (w.heap.size + 1) (fC (ovr A ((K : Int) + 1) F)) 78 := by
              rw [← hfin.out _ (by rw [if_pos hfi]), ← put_last]; exact ho3
            clear hbel2 hx2 ho2 hr2 ho3 hgr3 hcx hfin
            go_wp2
            go_roundw
            case rel => exact ⟨K + 1, by omega, by omega, by go_num, hbel3, hx3, ho4, hr3⟩
            case measure => simp [intOf]; omega
          · have ho4 : Blk W2 (w.heap.size + 1) (fC (ovr A ((K : Int) + 1) F)) 78 := by
              rw [← hfin.out 0 (by rw [if_neg hfi])]; exact ho2
            clear ho2 hfin
            go_wp2
            go_roundw
            case rel => exact ⟨K + 1, by omega, by omega, by go_num, hbel2, hx2, ho4, hr2⟩
            case measure => simp [intOf]; omega
        · have hKA : (K : Int) = A.en := by omega
          have ho4 : Blk wr (w.heap.size + 1) (fC (onesF (l.take (k + 1)))) 78 := by
            rw [hnx.out, ← hKA]; exact ho
          clear ho hKA
          go_wp2
          go_roundw
          case rel => exact ⟨k + 1, by omega, by go_num, hbr, ho4, hr⟩
          case measure => simp [intOf]; omega
    · have hkl : k = l.length := by omega
      subst hkl
      rw [List.take_length] at hor
      have hs384 : Hid ((fC (onesF l)).size = 384) := Lib.hid (fC_size _)
      have hr384 : Hid ((fC f0).size = 384) := Lib.hid (fC_size _)
      have hone : (fC (onesF l)).all (·.oneCell') = true := vsC_one _
      go_wp2_with (first | (refine wpList_ld rfl 78 (.tmp 3) rfl (w.heap.size + 1) 0 rfl (fC (onesF l)).toList hor.rd _ Try.underlying78 rfl (by rw [Array.length_toList, hs384.out]; exact ones_size) ?_) | (refine wpList_stw rfl _ (.tmp 2) (.tmp 46) rfl w.heap.size (fC (onesF l)) rfl rfl _ _ hrr (by rw [hs384.out, hr384.out]) (by rw [hs384.out]; exact ones_size) hone ?_))
      intro w5 hr5 hgr5
      have hbel5 : Below w.heap.size w w5 := hbr.grown hgr5 hbr.size (fun k hk => by cases hk; omega)
      go_wp2
      refine bodyPost_ret (v := .agg (fC (onesF l))) (results_c Try.results53 _ _ w.heap.size _ _ _ rfl hr5 Try.underlying78 rfl (by rw [hs384.out]; exact ones_size)) rfl ?_
      exact ⟨rfl, hbel5⟩
end Go.Proofs.Ytmdnmknmniabeaa
