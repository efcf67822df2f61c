/- What package disk's New, keep, Flush and Crash do. -/
import Derived.Test.YtohbfjbcfibhcaaDisk3
namespace Go.Proofs.Ytohbfjbcfibhcaa
open Go.RowKit Pw
set_option linter.unusedSimpArgs false
set_option linter.unusedVariables false
set_option linter.unnecessarySimpa false

theorem flush1_any (i : Int) (w : World) : Calls Try.prog 66 #[.int .i64 i] w fun e w' => e = .returned (.bool true) ∧ w' = w := by
  go_enter Try.func66, Try.ntmps66
  go_wp2
  go_ret
  exact ⟨rfl, rfl⟩

/-- Whether a crash leaves write number i. -/
def crashF (b : Int) (i : Nat) : Bool := Go.bits BinOp.and IntKind.i64 (b / 2 ^ (i % 60)) 1 == 1
theorem crash1_any (i : Nat) (bits : Int) (b : Nat) (hi : i ≤ 400) (w : World) (hb : Blk w b #[.int .i64 bits] 3) : Calls Try.prog 65 #[.int .i64 i, .pointer (some ⟨b, 0, none⟩)] w fun e w' => e = .returned (.bool (crashF bits i)) ∧ w' = w := by
  have hc := hb.cell
  go_enter Try.func65, Try.ntmps65
  go_wp2
  go_ret
  exact ⟨rfl, rfl⟩

def newD (n : Int) : Dsk := if 0 ≤ n ∧ n ≤ 80 then ⟨List.replicate n.toNat zPg, []⟩ else ⟨[], []⟩
def newDE (n : Int) : Int := if 0 ≤ n ∧ n ≤ 80 then 0 else 4
set_option maxHeartbeats 800000 in
set_option maxRecDepth 100000 in
theorem dnew_any (n : Int) (w : World) :
    Calls Try.prog 59 #[.int .i64 n] w fun e w' => ∃ vb vq, e = .returned (.tuple #[.agg #[vb, vq], .int .i64 (newDE n)]) ∧ DOwn w' w.heap.size vb vq (newD n) ∧ Below w.heap.size w w' := by
  have hres0 := Blk.new w #[.slice none 0 0, .slice none 0 0] 36
  have hbel0 : Below w.heap.size w (w.alloc (.cells #[.slice none 0 0, .slice none 0 0] 36)) := (Below.refl _ _).alloc (Nat.le_refl _) _
  unfold newD newDE
  by_cases h : 0 ≤ n ∧ n ≤ 80
  · obtain ⟨m, rfl⟩ := Int.eq_ofNat_of_zero_le h.1
    have h1 : (m : Int) ≤ 80 := h.2
    rw [if_pos h, if_pos h]
    go_enter Try.func59, Try.ntmps59
    go_wp2_with (refine wpList_mk _ rfl (.tmp 11) (.tmp 11) 33 rfl pgL 23 _ 8 8 zPg pgL_len (by decide) Try.underlying33 page_info rfl .i64 .i64 m m m rfl rfl rfl rfl (by omega) (by unfold maxLen; omega) ?_)
    intro w2 ho hgr
    have hres2 := hres0.grown hgr (by intro he; cases he)
    have hbel2 := hbel0.grown hgr hbel0.size (fun k hk => by cases hk)
    go_wp2_with (refine wpList_stw rfl _ (.tmp 2) (.tmp 13) rfl w.heap.size #[.slice (some ⟨w.heap.size + 1, 0, none⟩) m m, .slice none 0 0] rfl rfl _ _ hres2 (disk_fit _ _ _ _) (disk_info _ _) (sl_one _ _ _ _ _ _) ?_)
    intro w3 hr3 hgr3
    have ho3 := own_keep ho hres2 (by decide) hgr3
    have hbel3 := hbel2.grown hgr3 hbel2.size (fun k hk => by cases hk; exact Nat.le_refl _)
    have hcr := hr3.cell
    go_wp2
    simp [bodyPost, results, go_sem, Try.results59, hcr]
    exact ⟨_, _, ⟨rfl, rfl⟩, ⟨by simpa using ho3.mono (Nat.le_succ _), Own.nil _ _ _ _⟩, hbel3⟩
  · rw [if_neg h, if_neg h]
    have h' : n < 0 ∨ 80 < n := by omega
    clear h
    rcases h' with h | h
    all_goals
      go_enter Try.func59, Try.ntmps59
      go_wp2_with (refine wpList_stw rfl _ (.tmp 2) (.tmp 10) rfl w.heap.size #[.slice none 0 0, .slice none 0 0] rfl rfl _ _ hres0 rfl disk_size (sl_one _ _ _ _ _ _) ?_)
      all_goals
        intro w2 hr2 hgr
        have hbel2 := hbel0.grown hgr hbel0.size (fun k hk => by cases hk; exact Nat.le_refl _)
        have hcr := hr2.cell
        go_wp2
        simp [bodyPost, results, go_sem, Try.results59, hcr]
        exact ⟨_, _, ⟨rfl, rfl⟩, DOwn.nil _ _, hbel2⟩

/-! ### keep -/
def keepN (f : Nat → Bool) (B : List Page) (Q : List (Int × Page)) : Nat → List Page
  | 0 => B
  | k + 1 => match Q[k]? with
    | some q => if f k then (keepN f B Q k).set q.1.toNat q.2 else keepN f B Q k
    | none => keepN f B Q k
theorem keepN_len (f : Nat → Bool) (B : List Page) (Q : List (Int × Page)) (k : Nat) : (keepN f B Q k).length = B.length := by
  induction k with
  | zero => rfl
  | succ k ih =>
    unfold keepN
    split
    · split
      · rw [List.length_set, ih]
      · exact ih
    · exact ih
theorem keepN_put {f : Nat → Bool} {B : List Page} {Q : List (Int × Page)} {k : Nat} (h : k < Q.length) (hf : f k = true) : keepN f B Q (k + 1) = (keepN f B Q k).set Q[k].1.toNat Q[k].2 := by
  rw [keepN, List.getElem?_eq_getElem h]
  simp [hf]
theorem keepN_not {f : Nat → Bool} {B : List Page} {Q : List (Int × Page)} {k : Nat} (h : k < Q.length) (hf : f k = false) : keepN f B Q (k + 1) = keepN f B Q k := by
  rw [keepN, List.getElem?_eq_getElem h]
  simp [hf]
theorem own_putn {α : Type} {enc : α → List Value} {sz : Nat} (hsz : ∀ x, (enc x).length = sz) (hp : 0 < sz) {w : World} {B n : Nat} {e : TypeId} {v : Value} {l : List α} (hl : l.length = n) (h : Own w B e sz v n (l.flatMap enc)) (k : Nat) (hk : k < n) :
    ∃ g off cap cur, v = .slice (some ⟨g, off, none⟩) n cap ∧ B ≤ g ∧ Blk w g cur e ∧ off + k * sz + sz ≤ cur.size ∧
      ∀ w' x, Blk w' g (putAt cur (off + k * sz) (enc x)) e → Own w' B e sz v n ((l.set k x).flatMap enc) := by
  subst hl
  obtain ⟨g, off, cap, cur, h1, h2, h3, h4, _, h6⟩ := h.put hsz hp k hk
  exact ⟨g, off, cap, cur, h1, h2, h3, h4, h6⟩
set_option maxHeartbeats 2000000 in
set_option maxRecDepth 100000 in
theorem keep_all (d : Dsk) (ab : Option Addr) (cb : Nat) (aq : Option Addr) (cq : Nat) (bd : Nat) (w : World) (hd : Blk w bd #[.slice ab d.blocks.length cb, .slice aq d.queue.length cq] 36) (h : DRd w ab cb aq cq d) (hw : wrongD d = 0)  :
    Calls Try.prog 64 #[.pointer (some ⟨bd, 0, none⟩), .func (.func 66) #[] #[]] w fun e w' => ∃ vb vq, e = .returned (.agg #[vb, vq]) ∧ DOwn w' w.heap.size vb vq ⟨keepN (fun _ => true) d.blocks d.queue d.queue.length, []⟩ ∧ Below w.heap.size w w' := by
  obtain ⟨l80, l400⟩ := wrongD_le hw
  have hin := wrongD_in hw
  go_enter Try.func64, Try.ntmps64
  have hcd := fun o => (hd.alloc o).cell
  go_wp2_with fail
  clear hcd
  refine abs1 (fun W => Calls _ _ _ W _) fun W0 hb0 hres0 hs0 => ?_
  refine (clone_pages d.blocks ab cb W0 h.lb h.nb (h.below hb0).rb (by omega)).mono ?_
  rintro e w1 ⟨v, rfl, ho, hb1⟩
  have hbel1 := below_next hb0 hb1
  have hres1 := hres0.ext hb1
  have hd1 := (hd.ext hb0).ext hb1
  have h1 := h.below hbel1
  have ho1 := ho.mono hb0.size
  obtain ⟨xb, cb', rfl, hle, _⟩ := ho.rd
  clear hres0 hb1 ho
  go_upto_region 2 with (fail)
  refine abs1 (fun W => Code.wp _ _ _ _ W) fun w2 hb2 hout2 hs2 => ?_
  have hbel2 := below_next hbel1 hb2
  have hres2 := hres1.ext hb2
  have hd2 := hd1.ext hb2
  have h2 := h1.below hb2
  have ho2 := ho1.below hb2
  have hgeo : w.heap.size < w1.heap.size := hres1.lt
  
  clear hres1 hd1 h1 ho1 hs2 hs0 hb0
  have hc2 := hd2.cell
  go_wp2
  clear hc2
  go_loopw [19] (fun i wr => ∃ k : Nat, k ≤ d.queue.length ∧ i = .int .i64 k ∧ Below w.heap.size w wr ∧ Blk wr bd #[.slice ab d.blocks.length cb, .slice aq d.queue.length cq] 36 ∧ Blk wr w1.heap.size #[.slice xb d.blocks.length cb', .slice none 0 0] 36 ∧ Blk wr w.heap.size #[.slice none 0 0, .slice none 0 0] 36 ∧ Own wr w.heap.size 23 8 (.slice xb d.blocks.length cb') d.blocks.length ((keepN (fun _ => true) d.blocks d.queue k).flatMap pgL) ) (fun i _ => d.queue.length - (intOf i).toNat)
  case atStart => exact ⟨0, Nat.zero_le _, rfl, hbel2, hd2, hout2, hres2, ho2 ⟩
  case round =>
    obtain ⟨k, hk, rfl, hbel, hdr, houtr, hresr, hor ⟩ := hrel
    clear hd2 hout2 hres2 ho2 hbel2 h2
    by_cases hlt : k < d.queue.length
    · obtain ⟨b, off, rfl, hc⟩ := put_at (h.rq.below hbel) k hlt
      have c0 := hc 0 (by decide); have c1 := hc 1 (by decide); have c2 := hc 2 (by decide); have c3 := hc 3 (by decide); have c4 := hc 4 (by decide)
      have c5 := hc 5 (by decide); have c6 := hc 6 (by decide); have c7 := hc 7 (by decide); have c8 := hc 8 (by decide)
      simp only [puC, List.getElem?_toArray, List.getElem?_cons_zero, List.getElem?_cons_succ, Nat.add_zero] at c0 c1 c2 c3 c4 c5 c6 c7 c8
      obtain ⟨i1, i2⟩ := hin k hlt
      clear hc hin
      go_wp2_with fail
      refine abs1 (fun W => Calls _ _ _ W _) fun w3 hb3 hbox3 hs3 => ?_
      have hbel3 := below_next hbel hb3
      have hd3 := hdr.ext hb3
      have hout3 := houtr.ext hb3
      have hres3 := hresr.ext hb3
      have ho3 := hor.below hb3
      
      clear hdr houtr hresr hor hs3 c0 c1 c2 c3 c4 c5 c6 c7 c8 hbel
      refine (flush1_any _ _).mono ?_
      rintro e w4 ⟨rfl, rfl⟩
      by_cases hfk : (fun _ => true) k = true
      · obtain ⟨i0, hi0⟩ := Int.eq_ofNat_of_zero_le i1
        have hi0' : i0 < d.blocks.length := by omega
        have n2 : (i0 : Int) < (d.blocks.length : Int) := by omega
        obtain ⟨gb, offb, capb, curb, hvb, hBb, hgb, hfb, hsetb⟩ := own_putn pgL_len (by decide) (keepN_len (fun _ => true) d.blocks d.queue k) ho3 i0 hi0'
        cases hvb
        have hkn0 := keepN_put (f := (fun _ => true)) (B := d.blocks) hlt hfk
        rw [hi0, Int.toNat_natCast] at hkn0
        have hkn := Lib.hid hkn0
        clear hkn0
        rw [hi0] at hbox3
        have hcb := hbox3.cell
        have hco := hout3.cell
        clear i1 i2
        go_wp2_with (refine wpList_st rfl _ (.tmp 33) (.tmp 32) rfl gb (offb + i0 * 8) (pgC d.queue[k].2) rfl rfl curb 23 hgb (by rw [pgC_size]; omega) (pg_info _) (pgC_one _) ?_)
        intro w5 hq5 hgr5
        have hB5 := hsetb w5 d.queue[k].2 hq5
        have hd5 := blk_keep hd3 hgb (by decide) hgr5
        have hout5 := blk_keep hout3 hgb (by decide) hgr5
        have hres5 := blk_keep hres3 hgb (by decide) hgr5
        have hbel5 : Below w.heap.size w w5 := hbel3.grown hgr5 hbel3.size (fun k hk => by cases hk; exact hBb)
        
        clear hcb hco hq5 hsetb hgb hd3 hout3 hres3 ho3 hbel3
        go_wp2
        go_roundw
        case rel => exact ⟨k + 1, by omega, by go_num, hbel5, hd5, hout5, hres5, by rw [hkn.out]; exact hB5 ⟩
        case measure => simp [intOf]; omega
      · have hfk' : (fun _ => true) k = false := by simpa using hfk
        have hkn := Lib.hid (keepN_not (f := (fun _ => true)) (B := d.blocks) hlt hfk')
        go_wp2
        go_roundw
        case rel => exact ⟨k + 1, by omega, by go_num, hbel3, hd3, hout3, hres3, by rw [hkn.out]; exact ho3 ⟩
        case measure => simp [intOf]; omega
    · obtain rfl : k = d.queue.length := by omega
      have hco := houtr.cell
      go_wp2_with (refine wpList_stw rfl _ (.tmp 4) (.tmp 35) rfl w.heap.size #[.slice xb d.blocks.length cb', .slice none 0 0] rfl rfl _ _ hresr (disk_fit _ _ _ _) (disk_info _ _) (sl_one _ _ _ _ _ _) ?_)
      intro w3 hr3 hgr3
      have ho3 := own_keep hor hresr (by decide) hgr3
      have hbel3 : Below w.heap.size w w3 := hbel.grown hgr3 hbel.size (fun k hk => by cases hk; exact Nat.le_refl _)
      have hcr := hr3.cell
      go_wp2
      simp [bodyPost, results, go_sem, Try.results64, hcr]
      exact ⟨_, _, ⟨rfl, rfl⟩, ⟨by rw [keepN_len]; exact ho3, Own.nil _ _ _ _⟩, hbel3⟩
set_option maxHeartbeats 2000000 in
set_option maxRecDepth 100000 in
theorem keep_bits (d : Dsk) (ab : Option Addr) (cb : Nat) (aq : Option Addr) (cq : Nat) (bd : Nat) (w : World) (hd : Blk w bd #[.slice ab d.blocks.length cb, .slice aq d.queue.length cq] 36) (h : DRd w ab cb aq cq d) (hw : wrongD d = 0) (bits : Int) (bb : Nat) (hbb : Blk w bb #[.int .i64 bits] 3) :
    Calls Try.prog 64 #[.pointer (some ⟨bd, 0, none⟩), .func (.func 65) #[] #[.pointer (some ⟨bb, 0, none⟩)]] w fun e w' => ∃ vb vq, e = .returned (.agg #[vb, vq]) ∧ DOwn w' w.heap.size vb vq ⟨keepN (crashF bits) d.blocks d.queue d.queue.length, []⟩ ∧ Below w.heap.size w w' := by
  obtain ⟨l80, l400⟩ := wrongD_le hw
  have hin := wrongD_in hw
  go_enter Try.func64, Try.ntmps64
  have hcd := fun o => (hd.alloc o).cell
  go_wp2_with fail
  clear hcd
  refine abs1 (fun W => Calls _ _ _ W _) fun W0 hb0 hres0 hs0 => ?_
  refine (clone_pages d.blocks ab cb W0 h.lb h.nb (h.below hb0).rb (by omega)).mono ?_
  rintro e w1 ⟨v, rfl, ho, hb1⟩
  have hbel1 := below_next hb0 hb1
  have hres1 := hres0.ext hb1
  have hd1 := (hd.ext hb0).ext hb1
  have h1 := h.below hbel1
  have ho1 := ho.mono hb0.size
  obtain ⟨xb, cb', rfl, hle, _⟩ := ho.rd
  clear hres0 hb1 ho
  go_upto_region 2 with (fail)
  refine abs1 (fun W => Code.wp _ _ _ _ W) fun w2 hb2 hout2 hs2 => ?_
  have hbel2 := below_next hbel1 hb2
  have hres2 := hres1.ext hb2
  have hd2 := hd1.ext hb2
  have h2 := h1.below hb2
  have ho2 := ho1.below hb2
  have hgeo : w.heap.size < w1.heap.size := hres1.lt
  have hbb2 := hbb.below hbel2 hbb.lt
  clear hres1 hd1 h1 ho1 hs2 hs0 hb0
  have hc2 := hd2.cell
  go_wp2
  clear hc2
  go_loopw [19] (fun i wr => ∃ k : Nat, k ≤ d.queue.length ∧ i = .int .i64 k ∧ Below w.heap.size w wr ∧ Blk wr bd #[.slice ab d.blocks.length cb, .slice aq d.queue.length cq] 36 ∧ Blk wr w1.heap.size #[.slice xb d.blocks.length cb', .slice none 0 0] 36 ∧ Blk wr w.heap.size #[.slice none 0 0, .slice none 0 0] 36 ∧ Own wr w.heap.size 23 8 (.slice xb d.blocks.length cb') d.blocks.length ((keepN (crashF bits) d.blocks d.queue k).flatMap pgL) ∧ Blk wr bb #[.int .i64 bits] 3) (fun i _ => d.queue.length - (intOf i).toNat)
  case atStart => exact ⟨0, Nat.zero_le _, rfl, hbel2, hd2, hout2, hres2, ho2 , hbb2⟩
  case round =>
    obtain ⟨k, hk, rfl, hbel, hdr, houtr, hresr, hor , hbr⟩ := hrel
    clear hd2 hout2 hres2 ho2 hbel2 h2
    by_cases hlt : k < d.queue.length
    · obtain ⟨b, off, rfl, hc⟩ := put_at (h.rq.below hbel) k hlt
      have c0 := hc 0 (by decide); have c1 := hc 1 (by decide); have c2 := hc 2 (by decide); have c3 := hc 3 (by decide); have c4 := hc 4 (by decide)
      have c5 := hc 5 (by decide); have c6 := hc 6 (by decide); have c7 := hc 7 (by decide); have c8 := hc 8 (by decide)
      simp only [puC, List.getElem?_toArray, List.getElem?_cons_zero, List.getElem?_cons_succ, Nat.add_zero] at c0 c1 c2 c3 c4 c5 c6 c7 c8
      obtain ⟨i1, i2⟩ := hin k hlt
      clear hc hin
      go_wp2_with fail
      refine abs1 (fun W => Calls _ _ _ W _) fun w3 hb3 hbox3 hs3 => ?_
      have hbel3 := below_next hbel hb3
      have hd3 := hdr.ext hb3
      have hout3 := houtr.ext hb3
      have hres3 := hresr.ext hb3
      have ho3 := hor.below hb3
      have hbr3 := hbr.ext hb3
      clear hdr houtr hresr hor hs3 c0 c1 c2 c3 c4 c5 c6 c7 c8 hbel
      refine (crash1_any k bits bb (by omega) _ hbr3).mono ?_
      rintro e w4 ⟨rfl, rfl⟩
      by_cases hfk : (crashF bits) k = true
      · obtain ⟨i0, hi0⟩ := Int.eq_ofNat_of_zero_le i1
        have hi0' : i0 < d.blocks.length := by omega
        have n2 : (i0 : Int) < (d.blocks.length : Int) := by omega
        obtain ⟨gb, offb, capb, curb, hvb, hBb, hgb, hfb, hsetb⟩ := own_putn pgL_len (by decide) (keepN_len (crashF bits) d.blocks d.queue k) ho3 i0 hi0'
        cases hvb
        have hkn0 := keepN_put (f := (crashF bits)) (B := d.blocks) hlt hfk
        rw [hi0, Int.toNat_natCast] at hkn0
        have hkn := Lib.hid hkn0
        clear hkn0
        rw [hi0] at hbox3
        have hcb := hbox3.cell
        have hco := hout3.cell
        clear i1 i2
        go_wp2_with (refine wpList_st rfl _ (.tmp 33) (.tmp 32) rfl gb (offb + i0 * 8) (pgC d.queue[k].2) rfl rfl curb 23 hgb (by rw [pgC_size]; omega) (pg_info _) (pgC_one _) ?_)
        intro w5 hq5 hgr5
        have hB5 := hsetb w5 d.queue[k].2 hq5
        have hd5 := blk_keep hd3 hgb (by decide) hgr5
        have hout5 := blk_keep hout3 hgb (by decide) hgr5
        have hres5 := blk_keep hres3 hgb (by decide) hgr5
        have hbel5 : Below w.heap.size w w5 := hbel3.grown hgr5 hbel3.size (fun k hk => by cases hk; exact hBb)
        have hbr5 := blk_keep hbr3 hgb (by decide) hgr5
        clear hcb hco hq5 hsetb hgb hd3 hout3 hres3 ho3 hbel3
        go_wp2
        go_roundw
        case rel => exact ⟨k + 1, by omega, by go_num, hbel5, hd5, hout5, hres5, by rw [hkn.out]; exact hB5 , hbr5⟩
        case measure => simp [intOf]; omega
      · have hfk' : (crashF bits) k = false := by simpa using hfk
        have hkn := Lib.hid (keepN_not (f := (crashF bits)) (B := d.blocks) hlt hfk')
        go_wp2
        go_roundw
        case rel => exact ⟨k + 1, by omega, by go_num, hbel3, hd3, hout3, hres3, by rw [hkn.out]; exact ho3 , hbr3⟩
        case measure => simp [intOf]; omega
    · obtain rfl : k = d.queue.length := by omega
      have hco := houtr.cell
      go_wp2_with (refine wpList_stw rfl _ (.tmp 4) (.tmp 35) rfl w.heap.size #[.slice xb d.blocks.length cb', .slice none 0 0] rfl rfl _ _ hresr (disk_fit _ _ _ _) (disk_info _ _) (sl_one _ _ _ _ _ _) ?_)
      intro w3 hr3 hgr3
      have ho3 := own_keep hor hresr (by decide) hgr3
      have hbel3 : Below w.heap.size w w3 := hbel.grown hgr3 hbel.size (fun k hk => by cases hk; exact Nat.le_refl _)
      have hcr := hr3.cell
      go_wp2
      simp [bodyPost, results, go_sem, Try.results64, hcr]
      exact ⟨_, _, ⟨rfl, rfl⟩, ⟨by rw [keepN_len]; exact ho3, Own.nil _ _ _ _⟩, hbel3⟩
def keptD (f : Nat → Bool) (d : Dsk) : Dsk := if wrongD d = 0 then ⟨keepN f d.blocks d.queue d.queue.length, []⟩ else ⟨[], []⟩
set_option maxHeartbeats 1000000 in
set_option maxRecDepth 100000 in
theorem dflush_any (d : Dsk) (ab : Option Addr) (cb : Nat) (aq : Option Addr) (cq : Nat)  (w : World) (h : DRd w ab cb aq cq d) :
    Calls Try.prog 30 #[.agg #[.slice ab d.blocks.length cb, .slice aq d.queue.length cq]] w fun e w' => ∃ vb vq, e = .returned (.tuple #[.agg #[vb, vq], .int .i64 (wrongD d)]) ∧ DOwn w' w.heap.size vb vq (keptD (fun _ => true) d) ∧ Below w.heap.size w w' := by
  go_enter Try.func30, Try.ntmps30
  go_wp2_with fail
  refine abs2 (fun W => Calls _ _ _ W _) fun W0 hb0 hbox0 hres0 hs0 => ?_
  refine (dwrong_any d ab cb aq cq _ (h.below hb0)).mono ?_
  rintro e w1 ⟨rfl, hb1⟩
  have hbel1 := below_next hb0 hb1
  have hbox1 := hbox0.ext hb1
  have hres1 := hres0.ext hb1
  skip
  have h1 := h.below hbel1
  have hge1 : w.heap.size + 1 < w1.heap.size := hres1.lt
  clear hbox0 hres0 hb1 hb0 h hs0
  have hc1 := hbox1.cell
  by_cases hw : wrongD d = 0
  · have q2 : keptD (fun _ => true) d = ⟨keepN (fun _ => true) d.blocks d.queue d.queue.length, []⟩ := by unfold keptD; rw [if_pos hw]
    have Q2 := Lib.hid q2
    have HW := Lib.hid hw
    rw [hw]
    clear q2 hw
    go_wp2_with fail
    refine (keep_all d ab cb aq cq _ w1 hbox1 h1 HW.out).mono ?_
    rintro e w2 ⟨vb, vq, rfl, ho, hb2⟩
    have hbel2 := below_next hbel1 hb2
    have hres2 := hres1.ext hb2
    obtain ⟨xb, cb', xq, cq', rfl, rfl, _⟩ := ho.rd
    go_wp2_with (refine wpList_stw rfl _ (.tmp 2) (.tmp 11) rfl (w.heap.size + 1) _ rfl rfl _ _ hres2 (disk_fit _ _ _ _) (disk_info _ _) (sl_one _ _ _ _ _ _) ?_)
    intro w3 hr3 hgr
    have hbel3 := hbel2.grown hgr hbel2.size (fun k hk => by cases hk; omega)
    have ho3 := (ho.mono hbel1.size).keep hres2 (by decide) (by decide) hgr
    have hcr := hr3.cell
    go_wp2
    simp [bodyPost, results, go_sem, Try.results30, hcr, HW.out]
    exact ⟨_, _, ⟨rfl, rfl⟩, by rw [Q2.out]; exact ho3, hbel3⟩
  · have q2 : keptD (fun _ => true) d = ⟨[], []⟩ := by unfold keptD; rw [if_neg hw]
    have hw' : (wrongD d != 0) = true := by simpa using hw
    go_wp2_with (refine wpList_stw rfl _ (.tmp 2) (.tmp 9) rfl (w.heap.size + 1) #[.slice none 0 0, .slice none 0 0] rfl rfl _ _ hres1 rfl disk_size (sl_one _ _ _ _ _ _) ?_)
    intro w2 hr2 hgr
    have hbel2 := hbel1.grown hgr hbel1.size (fun k hk => by cases hk; omega)
    have hcr := hr2.cell
    go_wp2
    simp [bodyPost, results, go_sem, Try.results30, hcr]
    exact ⟨_, _, ⟨rfl, rfl⟩, by rw [q2]; exact DOwn.nil _ _, hbel2⟩

set_option maxHeartbeats 1000000 in
set_option maxRecDepth 100000 in
theorem dcrash_any (d : Dsk) (ab : Option Addr) (cb : Nat) (aq : Option Addr) (cq : Nat) (bits : Int) (w : World) (h : DRd w ab cb aq cq d) :
    Calls Try.prog 29 #[.agg #[.slice ab d.blocks.length cb, .slice aq d.queue.length cq], .int .i64 bits] w fun e w' => ∃ vb vq, e = .returned (.tuple #[.agg #[vb, vq], .int .i64 (wrongD d)]) ∧ DOwn w' w.heap.size vb vq (keptD (crashF bits) d) ∧ Below w.heap.size w w' := by
  go_enter Try.func29, Try.ntmps29
  go_wp2_with fail
  refine abs3 (fun W => Calls _ _ _ W _) fun W0 hb0 hbox0 hbb0 hres0 hs0 => ?_
  refine (dwrong_any d ab cb aq cq _ (h.below hb0)).mono ?_
  rintro e w1 ⟨rfl, hb1⟩
  have hbel1 := below_next hb0 hb1
  have hbox1 := hbox0.ext hb1
  have hres1 := hres0.ext hb1
  have hbb1 := hbb0.ext hb1
  have h1 := h.below hbel1
  have hge1 : w.heap.size + 2 < w1.heap.size := hres1.lt
  clear hbox0 hres0 hb1 hb0 h hs0
  have hc1 := hbox1.cell
  by_cases hw : wrongD d = 0
  · have q2 : keptD (crashF bits) d = ⟨keepN (crashF bits) d.blocks d.queue d.queue.length, []⟩ := by unfold keptD; rw [if_pos hw]
    have Q2 := Lib.hid q2
    have HW := Lib.hid hw
    rw [hw]
    clear q2 hw
    go_wp2_with fail
    refine (keep_bits d ab cb aq cq _ w1 hbox1 h1 HW.out bits _ hbb1).mono ?_
    rintro e w2 ⟨vb, vq, rfl, ho, hb2⟩
    have hbel2 := below_next hbel1 hb2
    have hres2 := hres1.ext hb2
    obtain ⟨xb, cb', xq, cq', rfl, rfl, _⟩ := ho.rd
    go_wp2_with (refine wpList_stw rfl _ (.tmp 4) (.tmp 14) rfl (w.heap.size + 2) _ rfl rfl _ _ hres2 (disk_fit _ _ _ _) (disk_info _ _) (sl_one _ _ _ _ _ _) ?_)
    intro w3 hr3 hgr
    have hbel3 := hbel2.grown hgr hbel2.size (fun k hk => by cases hk; omega)
    have ho3 := (ho.mono hbel1.size).keep hres2 (by decide) (by decide) hgr
    have hcr := hr3.cell
    go_wp2
    simp [bodyPost, results, go_sem, Try.results29, hcr, HW.out]
    exact ⟨_, _, ⟨rfl, rfl⟩, by rw [Q2.out]; exact ho3, hbel3⟩
  · have q2 : keptD (crashF bits) d = ⟨[], []⟩ := by unfold keptD; rw [if_neg hw]
    have hw' : (wrongD d != 0) = true := by simpa using hw
    go_wp2_with (refine wpList_stw rfl _ (.tmp 4) (.tmp 11) rfl (w.heap.size + 2) #[.slice none 0 0, .slice none 0 0] rfl rfl _ _ hres1 rfl disk_size (sl_one _ _ _ _ _ _) ?_)
    intro w2 hr2 hgr
    have hbel2 := hbel1.grown hgr hbel1.size (fun k hk => by cases hk; omega)
    have hcr := hr2.cell
    go_wp2
    simp [bodyPost, results, go_sem, Try.results29, hcr]
    exact ⟨_, _, ⟨rfl, rfl⟩, by rw [q2]; exact DOwn.nil _ _, hbel2⟩
end Go.Proofs.Ytohbfjbcfibhcaa
