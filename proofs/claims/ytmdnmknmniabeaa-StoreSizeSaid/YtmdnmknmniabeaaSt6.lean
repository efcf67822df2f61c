/- slices' Index and Contains on whole numbers; package store's free. -/
import Derived.Test.YtmdnmknmniabeaaSt4
namespace Go.Proofs.Ytmdnmknmniabeaa
open Go.RowKit Go.Maps Pw
set_option linter.unusedSimpArgs false
set_option linter.unusedVariables false

set_option maxHeartbeats 1000000 in
set_option maxRecDepth 100000 in
theorem index_any (l : List Int) (x : Int) (a : Option Addr) (c : Nat) (w : World) (hrd : RdV w a (l.map inV)) (hl : l.length ≤ 9223372036854775807) :
    Calls Try.prog 92 #[.slice a l.length c, .int .i64 x] w fun e w' => e = .returned (.int .i64 (idx (fun y => decide (x = y)) l)) ∧ Below w.heap.size w w' := by
  go_enter Try.func92, Try.ntmps92
  go_wp2
  go_loopw [8] (fun i wr => ∃ k : Nat, k ≤ l.length ∧ i = .int .i64 k ∧ Below w.heap.size w wr ∧ ∀ i (h : i < l.length), i < k → (fun y => decide (x = y)) l[i] = false) (fun i _ => l.length - (intOf i).toNat)
  case atStart => exact ⟨0, Nat.zero_le _, rfl, Below.refl _ _, fun i _ h => absurd h (Nat.not_lt_zero _)⟩
  case round =>
    obtain ⟨k, hk, rfl, hbr, hp0⟩ := hrel
    have hp := Lib.hid hp0
    clear hp0
    by_cases hlt : k < l.length
    · obtain ⟨b, off, rfl, hc⟩ := elem_at (hrd.below hbr) k hlt
      by_cases he : x = l[k]
      · have hfin := Lib.hid (idx_at (fun y => decide (x = y)) l k hlt hp.out (decide_eq_true he))
        have hb : (x == l[k]) = true := beq_iff_eq.2 he
        clear he
        go_wp2
        go_ret
        exact ⟨ret_int hfin.out.symm, hbr⟩
      · have hpk := Lib.hid (show (fun y => decide (x = y)) l[k] = false from decide_eq_false he)
        have hb : (x == l[k]) = false := beq_eq_false_iff_ne.2 he
        clear he
        go_wp2
        go_roundw
        case rel => exact ⟨k + 1, by omega, by go_num, hbr, upto' hp.out hlt hpk.out⟩
        case measure => simp [intOf]; omega
    · have hfin := Lib.hid (idx_none (fun y => decide (x = y)) l fun i h => hp.out i h (by omega))
      go_wp2
      go_ret
      exact ⟨ret_int hfin.out.symm, hbr⟩
theorem any_mem (l : List Int) (x : Int) : l.any (fun y => decide (x = y)) = decide (x ∈ l) := by
  rw [Bool.eq_iff_iff, List.any_eq_true, decide_eq_true_eq]
  constructor
  · rintro ⟨y, hy, h⟩; rw [of_decide_eq_true h]; exact hy
  · intro h; exact ⟨x, h, decide_eq_true rfl⟩
set_option maxHeartbeats 400000 in
theorem contains_any (l : List Int) (x : Int) (a : Option Addr) (c : Nat) (w : World) (hrd : RdV w a (l.map inV)) (hl : l.length ≤ 9223372036854775807) :
    Calls Try.prog 88 #[.slice a l.length c, .int .i64 x] w fun e w' => e = .returned (.bool (decide (x ∈ l))) ∧ Below w.heap.size w w' := by
  go_enter Try.func88, Try.ntmps88
  go_wp2_with fail
  refine (index_any l x a c _ hrd hl).mono ?_
  rintro e w2 ⟨rfl, hb2⟩
  have hfin := Lib.hid ((idx_any (fun y => decide (x = y)) l).trans (any_mem l x))
  go_wp2
  go_ret
  exact ⟨ret_bool hfin.out, hb2⟩
def hasB (x : Int) (p : PF) : Bool := decide (x ∈ p.l)
set_option maxRecDepth 100000 in
theorem free1_any (p : PF) (g : Nat) (x : Int) (w : World) (hg : Blk w g #[.int .i64 x] 3) (hp : p.good w) :
    Calls Try.prog 87 #[.agg #[.int .i64 p.n, .slice p.a p.l.length p.c], .pointer (some ⟨g, 0, none⟩)] w fun r w' => r = .returned (.bool (hasB x p)) ∧ Below w.heap.size w w' := by
  have hle := Nat.le_trans hp.le hp.mx
  unfold maxLen at hle
  go_enter Try.func87, Try.ntmps87
  go_upto_region 1 with (fail)
  refine abs1 (fun W => Code.wp _ _ _ _ W) fun W0 hb0 hx0 hs0 => ?_
  clear hs0
  have hgx := (hg.ext hb0).cell 0
  have hcx := hx0.cell
  have hp0 := hp.below hb0
  go_wp2_with fail
  refine (contains_any p.l x p.a p.c _ hp0.rd (by omega)).mono ?_
  rintro e w2 ⟨rfl, hb2⟩
  go_wp2
  go_ret
  exact ⟨rfl, below_next hb0 hb2⟩
theorem pf_at' {w : World} {a : Option Addr} {ps : List PF} (h : RdV w a (ps.flatMap pfL)) (k : Nat) (hk : k < ps.length) : ∃ b off, a = some ⟨b, off, none⟩ ∧ w.cell? ⟨b, off + k * 2, none⟩ = some (.int .i64 ps[k].n) ∧ w.cell? ⟨b, off + k * 2 + 1, none⟩ = some (.slice ps[k].a ps[k].l.length ps[k].c) := by
  obtain ⟨b, off, ha, hc⟩ := h.elem pfL_len (by decide) k hk
  exact ⟨b, off, ha, hc 0 _ rfl, hc 1 _ rfl⟩
set_option maxHeartbeats 1000000 in
set_option maxRecDepth 100000 in
theorem idxfi_any (l : List PF) (a : Option Addr) (c : Nat) (w : World) (hrd : RdV w a (l.flatMap pfL)) (hl : l.length ≤ 9223372036854775807) (g : Nat) (x : Int) (hg : Blk w g #[.int .i64 x] 3) (hgood : ∀ p ∈ l, p.good w) :
    Calls Try.prog 91 #[.slice a l.length c, .func (.func 87) #[] #[.pointer (some ⟨g, 0, none⟩)]] w fun e w' => e = .returned (.int .i64 (idx (hasB x) l)) ∧ Below w.heap.size w w' := by
  go_enter Try.func91, Try.ntmps91
  go_wp2
  go_loopw [8] (fun i wr => ∃ k : Nat, k ≤ l.length ∧ i = .int .i64 k ∧ Below w.heap.size w wr ∧ ∀ i (h : i < l.length), i < k → (hasB x) l[i] = false) (fun i _ => l.length - (intOf i).toNat)
  case atStart => exact ⟨0, Nat.zero_le _, rfl, Below.refl _ _, fun i _ h => absurd h (Nat.not_lt_zero _)⟩
  case round =>
    obtain ⟨k, hk, rfl, hbr, hp0⟩ := hrel
    have hp := Lib.hid hp0
    clear hp0
    by_cases hlt : k < l.length
    · obtain ⟨b, off, rfl, c0, c1⟩ := pf_at' (hrd.below hbr) k hlt
      go_wp2_with fail
      refine (free1_any l[k] g x _ (hg.ext hbr) ((hgood _ (List.getElem_mem hlt)).below hbr)).mono ?_
      rintro e w2 ⟨rfl, hb2⟩
      have hbel2 := below_next hbr hb2
      clear hb2
      cases hpk : (hasB x) l[k]
      · have hpk' := Lib.hid hpk
        clear hpk
        go_wp2
        go_roundw
        case rel => exact ⟨k + 1, by omega, by go_num, hbel2, upto' hp.out hlt hpk'.out⟩
        case measure => simp [intOf]; omega
      · have hfin := Lib.hid (idx_at (hasB x) l k hlt hp.out hpk)
        clear hpk
        go_wp2
        go_ret
        exact ⟨ret_int hfin.out.symm, hbel2⟩
    · have hfin := Lib.hid (idx_none (hasB x) l fun i h => hp.out i h (by omega))
      go_wp2
      go_ret
      exact ⟨ret_int hfin.out.symm, hbr⟩
set_option maxHeartbeats 400000 in
theorem confi_any (l : List PF) (a : Option Addr) (c : Nat) (w : World) (hrd : RdV w a (l.flatMap pfL)) (hl : l.length ≤ 9223372036854775807) (g : Nat) (x : Int) (hg : Blk w g #[.int .i64 x] 3) (hgood : ∀ p ∈ l, p.good w) :
    Calls Try.prog 86 #[.slice a l.length c, .func (.func 87) #[] #[.pointer (some ⟨g, 0, none⟩)]] w fun e w' => e = .returned (.bool (l.any (hasB x))) ∧ Below w.heap.size w w' := by
  go_enter Try.func86, Try.ntmps86
  go_wp2_with fail
  refine (idxfi_any l a c _ hrd hl g x hg hgood).mono ?_
  rintro e w2 ⟨rfl, hb2⟩
  go_wp2
  go_ret
  exact ⟨ret_bool (idx_any _ _), hb2⟩
theorem any_used (ps : List PF) (k x : Int) : ps.any (hasB x) = usedSt (stOf ps k) x := by
  unfold usedSt hasB
  rw [blks_of, Bool.eq_iff_iff, List.any_eq_true, decide_eq_true_eq]
  unfold pblks
  rw [List.mem_flatMap]
  constructor
  · rintro ⟨p, hp, h⟩; exact ⟨p, hp, of_decide_eq_true h⟩
  · rintro ⟨p, hp, h⟩; exact ⟨p, hp, decide_eq_true h⟩
/-- The first free block; below 0: there is none. -/
def freeSt (s : St) : Int := match (List.range s.count.toNat).find? (fun b : Nat => !usedSt s b) with
  | some b => b
  | none => -1
theorem freeSt_at {s : St} {b : Nat} (hb : (b : Int) < s.count) (h : ∀ i : Nat, i < b → usedSt s i = true) (hf : usedSt s b = false) : freeSt s = b := by
  unfold freeSt
  have : (List.range s.count.toNat).find? (fun b : Nat => !usedSt s b) = some b := by
    rw [List.find?_range_eq_some]
    exact ⟨by simp [hf], List.mem_range.2 (by omega), fun j hj => by simp [h j hj]⟩
  rw [this]
theorem freeSt_none {s : St} (h : ∀ i : Nat, (i : Int) < s.count → usedSt s i = true) : freeSt s = -1 := by
  unfold freeSt
  have : (List.range s.count.toNat).find? (fun b : Nat => !usedSt s b) = none := by
    rw [List.find?_eq_none]
    intro i hi
    have := List.mem_range.1 hi
    simp [h i (by omega)]
  rw [this]
set_option maxHeartbeats 2000000 in
set_option maxRecDepth 100000 in
theorem sfree_any (ps : List PF) (k : Int) (a : Option Addr) (c g : Nat) (w : World) (h : FsR w a c ps) (hg : Blk w g (stC a ps.length c k) 47) (hk : k ≤ 80) :
    Calls Try.prog 66 #[.pointer (some ⟨g, 0, none⟩)] w fun r w' => r = .returned (.int .i64 (freeSt (stOf ps k))) ∧ Below w.heap.size w w' := by
  have hlc := Nat.le_trans h.le h.mx
  unfold maxLen at hlc
  unfold stC at hg
  go_enter Try.func66, Try.ntmps66
  have hcx := hg.cell
  go_upto_region 2 with (fail)
  clear hcx
  go_loopw [8] (fun i wr => ∃ (q : Nat), ((q : Int) ≤ k ∨ q = 0) ∧ i = .int .i64 q ∧ Below w.heap.size w wr ∧ ∀ i : Nat, i < q → usedSt (stOf ps k) i = true) (fun i _ => k.toNat - (intOf i).toNat)
  case atStart => exact ⟨0, .inr rfl, rfl, Below.refl _ _, fun i hi => absurd hi (Nat.not_lt_zero _)⟩
  case round =>
    obtain ⟨q, hq, rfl, hbr, hu0⟩ := hrel
    have hu := Lib.hid hu0
    clear hu0
    by_cases hlt : (q : Int) < k
    · have hgr := hg.ext hbr
      go_upto_region 4 with (refine wpList_stn1 rfl _ _ _ rfl (.int .i64 q) rfl rfl rfl int_size rfl ?_)
      intro w2 hb2 hq2
      have hbel2 := below_next hbr hb2
      have hx2 := hgr.ext hb2
      have hcx := hx2.cell
      have h2 := h.below hbel2
      clear hbr hb2 hgr
      go_wp2_with fail
      refine (confi_any ps a c _ h2.rd (by omega) wr.heap.size q hq2 h2.good).mono ?_
      rintro e w3 ⟨rfl, hb3⟩
      have hbel3 := below_next hbel2 hb3
      have hq3 := (hq2.ext hb3).cell 0
      rw [any_used ps k]
      clear hcx hbel2 hx2 hb3
      cases hus : usedSt (stOf ps k) q
      · have hfin := Lib.hid (freeSt_at (s := stOf ps k) hlt hu.out hus)
        clear hus
        go_wp2
        go_ret
        exact ⟨ret_int hfin.out.symm, hbel3⟩
      · have hnx : Hid (∀ i : Nat, i < q + 1 → usedSt (stOf ps k) i = true) := Lib.hid (fun i hi => by
          by_cases e : i = q
          · subst e; exact hus
          · exact hu.out i (by omega))
        clear hus
        go_wp2
        go_roundw
        case rel => exact ⟨q + 1, by omega, by go_num, hbel3, hnx.out⟩
        case measure => simp [intOf]; omega
    · have hfin := Lib.hid (freeSt_none (s := stOf ps k) (fun i hi => hu.out i (by
        have : (i : Int) < k := hi
        omega)))
      go_wp2
      go_ret
      exact ⟨ret_int hfin.out.symm, hbr⟩
end Go.Proofs.Ytmdnmknmniabeaa
