/- What package frames' New does; the first free frame. -/
import Derived.Test.YtohbfjbcfibhcaaFrame4
namespace Go.Proofs.Ytohbfjbcfibhcaa
open Go.RowKit Pw
set_option linter.unusedSimpArgs false
set_option linter.unusedVariables false

def fr0 : Fr := ⟨zPg, 0, false, false, 0, 0⟩
def frZ : Fr := ⟨zPg, 0, false, false, -1, 0⟩
def newM (n : Int) : Mem := if 0 ≤ n ∧ n ≤ 40 then ⟨List.replicate n.toNat frZ, 0⟩ else ⟨[], 0⟩
def newME (n : Int) : Int := if 0 ≤ n ∧ n ≤ 40 then 0 else 4
set_option maxHeartbeats 1000000 in
set_option maxRecDepth 100000 in
theorem mnew_any (n : Int) (w : World) :
    Calls Try.prog 47 #[.int .i64 n] w fun e w' => ∃ vb, e = .returned (.tuple #[.agg #[vb, .int .i64 0], .int .i64 (newME n)]) ∧ Own w' w.heap.size 72 13 vb (newM n).fs.length ((newM n).fs.flatMap frL) ∧ Below w.heap.size w w' := by
  have hres0 := Blk.new w #[.slice none 0 0, .int .i64 0] 64
  have hbel0 : Below w.heap.size w (w.alloc (.cells #[.slice none 0 0, .int .i64 0] 64)) := (Below.refl _ _).alloc (Nat.le_refl _) _
  unfold newM newME
  go_enter Try.func47, Try.ntmps47
  by_cases hn : 0 ≤ n ∧ n ≤ 40
  · obtain ⟨n, rfl⟩ := Int.eq_ofNat_of_zero_le hn.1
    rw [if_pos hn, if_pos hn]
    have n1 : ¬ (40 : Int) < (n : Int) := by omega
    have n2 : n ≤ 40 := by omega
    clear hn
    go_wp2_with (refine wpList_mk _ rfl (.tmp 13) (.tmp 13) 62 rfl frL 72 _ 13 40 fr0 frL_len (by decide) Try.underlying62 frame_info rfl .i64 .i64 n n n rfl rfl rfl rfl (by omega) (by unfold maxLen; omega) ?_)
    intro w2 ho hgr
    have hres2 := hres0.grown hgr (by intro he; cases he)
    have hbel2 := hbel0.grown hgr hbel0.size (fun k hk => by cases hk)
    clear hres0 hgr hbel0
    have hlt2 : w.heap.size + 1 < w2.heap.size := by obtain ⟨cs, hk⟩ := own_blk ho _ rfl; simpa using hk.lt
    go_upto_region 4 with (fail)
    refine abs1 (fun W => Code.wp _ _ _ _ W) fun w3 hb3 hm3 hs3 => ?_
    clear hs3
    have hbel3 := below_next hbel2 hb3
    have hres3 := hres2.ext hb3
    have ho3 := ho.below hb3
    have hcm := hm3.cell
    clear hres2 ho hb3
    go_wp2
    clear hcm
    go_loopw [19] (fun i wr => ∃ (k : Nat) (cur : List Fr), k ≤ n ∧ i = .int .i64 k ∧ Below w.heap.size w wr ∧ Blk wr w.heap.size #[.slice none 0 0, .int .i64 0] 64 ∧ Blk wr w2.heap.size #[.slice (some ⟨w.heap.size + 1, 0, none⟩) n n, .int .i64 0] 64 ∧ Own wr w.heap.size 72 13 (.slice (some ⟨w.heap.size + 1, 0, none⟩) n n) n (cur.flatMap frL) ∧ Hid (cur.length = n ∧ ∀ i, i < n → cur[i]? = some (if i < k then frZ else fr0))) (fun i _ => n - (intOf i).toNat)
    case atStart => exact ⟨0, List.replicate n fr0, Nat.zero_le _, rfl, hbel3, hres3, hm3, ho3.mono (by simp), Lib.hid ⟨by simp, fun i hi => by simp [hi]⟩⟩
    case round =>
      clear hres3 hm3 ho3 hbel3
      obtain ⟨k, cur, hk, rfl, hbel, hres, hm, ho, hcur⟩ := hrel
      have hcm := hm.cell
      by_cases hlt : k < n
      · have hlen := hcur.out.1
        have hkc : k < cur.length := by omega
        have hk0 : cur[k]'hkc = fr0 := by
          have := hcur.out.2 k hlt
          rw [List.getElem?_eq_getElem hkc] at this
          simpa using this
        obtain ⟨g, off, cap, hv, hBg, hgl, ⟨csg, hgb⟩, hcc, hfz, hset⟩ := own_cell frL_len (by decide) hlen ho k hlt 11 (by decide) (.int .i64 (-1)) frZ (by rw [hk0]; rfl)
        cases hv
        have hcb := hcc 11 (.int .i64 0) (by rw [hk0]; rfl)
        simp only [Nat.zero_add] at hcb hfz hset
        have hnew : Hid ((cur.set k frZ).length = n ∧ ∀ i, i < n → (cur.set k frZ)[i]? = some (if i < k + 1 then frZ else fr0)) := by
          refine ⟨by simp [hlen], fun i hi => ?_⟩
          rw [List.getElem?_set]
          by_cases e : k = i
          · subst e; simp [hkc]
          · rw [if_neg e, hcur.out.2 i hi]
            by_cases h : i < k
            · rw [if_pos h, if_pos (by omega)]
            · rw [if_neg h, if_neg (by omega)]
        have hkz : (k : Int) < (n : Int) := by omega
        clear hk0 hcc hcur hlen ho
        go_wp2
        go_roundw
        case rel => exact ⟨k + 1, cur.set k frZ, by omega, by go_num, hbel.setCell (by simp) _, hres.setCell_other _ _ (by simp), hm.setCell_other _ _ (by simp; omega), hset, hnew⟩
        case measure => simp [intOf]; omega
      · have hcurn : Hid (cur = List.replicate n frZ) := by
          apply List.ext_getElem?
          intro i
          by_cases hi : i < n
          · rw [hcur.out.2 i hi, if_pos (by omega)]; simp [hi]
          · rw [List.getElem?_eq_none (by have := hcur.out.1; omega), List.getElem?_eq_none (by simp; omega)]
        go_wp2_with (refine wpList_stw rfl _ (.tmp 2) (.tmp 28) rfl w.heap.size #[.slice (some ⟨w.heap.size + 1, 0, none⟩) n n, .int .i64 0] rfl rfl _ _ hres (mem_fit _ _ _ _ _ _ _ _) (mem_info _ _) (mem_one _ _ _ _) ?_)
        intro w5 hr5 hgr5
        have ho5 := own_keep ho hres (by decide) hgr5
        have hbel5 := hbel.grown hgr5 hbel.size (fun k hk => by cases hk; exact Nat.le_refl _)
        have hcr := hr5.cell
        go_wp2
        simp [bodyPost, results, go_sem, Try.results47, hcr]
        rw [hcurn.out] at ho5
        exact ⟨ho5, hbel5⟩
  · rw [if_neg hn, if_neg hn]
    have h' : n < 0 ∨ 40 < n := by omega
    clear hn
    rcases h' with h | h
    all_goals
      go_wp2_with (refine wpList_stw rfl _ (.tmp 2) (.tmp 12) rfl w.heap.size #[.slice none 0 0, .int .i64 0] rfl rfl _ _ hres0 rfl mem_size (mem_one _ _ _ _) ?_)
      all_goals
        intro w2 hr2 hgr
        have hbel2 := hbel0.grown hgr hbel0.size (fun k hk => by cases hk; exact Nat.le_refl _)
        have hcr := hr2.cell
        go_wp2
        simp [bodyPost, results, go_sem, Try.results47, hcr]
        exact ⟨Own.nil _ _ _ _, hbel2⟩

set_option maxHeartbeats 400000 in
set_option maxRecDepth 100000 in
theorem take1_any (f : Fr) (w : World) : Calls Try.prog 78 #[.agg (frC f)] w fun e w' => e = .returned (.bool (f.r == 0)) ∧ Below w.heap.size w w' := by
  go_enter Try.func78, Try.ntmps78
  unfold frC
  go_wp2
  go_ret
  exact ⟨rfl, (Below.refl _ _).alloc (Nat.le_refl _) _⟩
set_option maxHeartbeats 400000 in
set_option maxRecDepth 100000 in
theorem idxfr_any (l : List Fr) (a : Option Addr) (c : Nat) (w : World) (hrd : RdV w a (l.flatMap frL)) (hl : l.length ≤ 9223372036854775807) :
    Calls Try.prog 77 #[.slice a l.length c, .func (.func 78) #[] #[]] w fun e w' => Below w.heap.size w w' ∧ ((e = .returned (.int .i64 (-1)) ∧ ∀ i (h : i < l.length), i < l.length → ¬ l[i].r = 0) ∨ ∃ i, ∃ h : i < l.length, e = .returned (.int .i64 i) ∧ l[i].r = 0 ∧ ∀ j (h : j < l.length), j < i → ¬ l[j].r = 0) := by
  go_enter Try.func77, Try.ntmps77
  go_wp2
  go_loopw [8] (fun i wr => ∃ j : Nat, j ≤ l.length ∧ i = .int .i64 j ∧ Below w.heap.size w wr ∧ ∀ i (h : i < l.length), i < j → ¬ l[i].r = 0) (fun i _ => l.length - (intOf i).toNat)
  case atStart => exact ⟨0, Nat.zero_le _, rfl, Below.refl _ _, fun i _ h => absurd h (Nat.not_lt_zero _)⟩
  case round =>
    obtain ⟨j, hj, rfl, hbel, hno⟩ := hrel
    have hno' := Lib.hid hno
    clear hno
    by_cases hlt : j < l.length
    · obtain ⟨b', off, rfl, hc⟩ := fr_at (hrd.below hbel) j hlt
      obtain ⟨c0, c1, c2, c3, c4, c5, c6, c7, c8, c9, ca, cb, cc⟩ := hc
      have hcall := fun w => take1_any l[j] w
      unfold frC at hcall
      by_cases he : l[j].r = 0
      · rw [beq_iff_eq.2 he] at hcall
        have he' := Lib.hid he
        clear he
        go_wp2_with fail
        refine (hcall _).mono ?_
        rintro e w2 ⟨rfl, hb2⟩
        go_wp2
        go_ret
        exact ⟨below_next hbel hb2, .inr ⟨j, hlt, rfl, he'.out, hno'.out⟩⟩
      · rw [beq_eq_false_iff_ne.2 he] at hcall
        have he' := Lib.hid he
        clear he
        go_wp2_with fail
        refine (hcall _).mono ?_
        rintro e w2 ⟨rfl, hb2⟩
        go_wp2
        go_roundw
        case rel => exact ⟨j + 1, by omega, by go_num, below_next hbel hb2, upto' hno'.out hlt he'.out⟩
        case measure => simp [intOf]; omega
    · go_wp2
      go_ret
      exact ⟨hbel, .inl ⟨rfl, fun i h _ => hno'.out i h (by omega)⟩⟩
end Go.Proofs.Ytohbfjbcfibhcaa
