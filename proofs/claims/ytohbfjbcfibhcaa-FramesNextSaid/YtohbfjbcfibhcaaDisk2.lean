/- What package disk's Own, Read, Write, Flush, Crash do. -/
import Derived.Test.YtohbfjbcfibhcaaDisk
import Derived.Test.YtohbfjbcfibhcaaMem
namespace Go.Proofs.Ytohbfjbcfibhcaa
open Go.RowKit Pw
set_option linter.unusedSimpArgs false
set_option linter.unusedVariables false

theorem DOwn.keep {w w' : World} {B : Nat} {vb vq : Value} {d : Dsk} (h : DOwn w B vb vq d) {g : Nat} {cs : Array Value} {T : TypeId} (hk : Blk w g cs T) (h1 : T ≠ 23) (h2 : T ≠ 45) (hgr : w.grownBy w' (some g)) : DOwn w' B vb vq d :=
  ⟨own_keep h.b hk h1 hgr, own_keep h.q hk h2 hgr⟩
def dskR (B : Nat) (d : Dsk) : Rel := ⟨fun v w => ∃ vb vq, v = .agg #[vb, vq] ∧ DOwn w B vb vq d, fun _ _ _ hb ⟨vb, vq, h1, h2⟩ => ⟨vb, vq, h1, h2.below hb⟩⟩
theorem psize : (Try.prog.info? 23).map (·.size) = some 8 := by kernel_rfl
theorem zz_fit : (#[.int .u8 0, .int .u8 0, .int .u8 0, .int .u8 0, .int .u8 0, .int .u8 0, .int .u8 0, .int .u8 0] : Array Value).size = (#[.int .u8 0, .int .u8 0, .int .u8 0, .int .u8 0, .int .u8 0, .int .u8 0, .int .u8 0, .int .u8 0] : Array Value).size := rfl
theorem zz_one : (#[.int .u8 0, .int .u8 0, .int .u8 0, .int .u8 0, .int .u8 0, .int .u8 0, .int .u8 0, .int .u8 0] : Array Value).all (·.oneCell') = true := by simp [Value.oneCell']
theorem zz_info : (Try.prog.info? 23).map (·.size) = some (#[.int .u8 0, .int .u8 0, .int .u8 0, .int .u8 0, .int .u8 0, .int .u8 0, .int .u8 0, .int .u8 0] : Array Value).size := psize
theorem pg_fit (p : Page) : (pgC p).size = (#[.int .u8 0, .int .u8 0, .int .u8 0, .int .u8 0, .int .u8 0, .int .u8 0, .int .u8 0, .int .u8 0] : Array Value).size := rfl
theorem pg_fit2 (p q : Page) : (pgC p).size = (pgC q).size := rfl
theorem pg_info (p : Page) : (Try.prog.info? 23).map (·.size) = some (pgC p).size := psize
theorem disk_size : (Try.prog.info? 36).map (·.size) = some 2 := by kernel_rfl
set_option maxHeartbeats 1000000 in
set_option maxRecDepth 100000 in
theorem down_any (d : Dsk) (ab : Option Addr) (cb : Nat) (aq : Option Addr) (cq : Nat) (w : World) (h : DRd w ab cb aq cq d) (h80 : d.blocks.length * 8 ≤ 140737488355328) (h400 : d.queue.length * 16 ≤ 140737488355328) :
    Calls Try.prog 58 #[.agg #[.slice ab d.blocks.length cb, .slice aq d.queue.length cq]] w fun e w' => ∃ vb vq, e = .returned (.agg #[vb, vq]) ∧ DOwn w' w.heap.size vb vq d ∧ Below w.heap.size w w' := by
  go_enter Try.func58, Try.ntmps58
  go_upto_region 1 with (fail)
  have hbel0 : Below w.heap.size w ((w.alloc (.cells #[.slice ab d.blocks.length cb, .slice aq d.queue.length cq] 36)).alloc (.cells #[.slice none 0 0, .slice none 0 0] 36)) := ((Below.refl _ _).alloc (Nat.le_refl _) _).alloc (le_alloc _ _) _
  have hblk : Blk ((w.alloc (.cells #[.slice ab d.blocks.length cb, .slice aq d.queue.length cq] 36)).alloc (.cells #[.slice none 0 0, .slice none 0 0] 36)) w.heap.size #[.slice ab d.blocks.length cb, .slice aq d.queue.length cq] 36 := (Blk.new _ _ _).alloc _
  have hout : Blk ((w.alloc (.cells #[.slice ab d.blocks.length cb, .slice aq d.queue.length cq] 36)).alloc (.cells #[.slice none 0 0, .slice none 0 0] 36)) (w.heap.size + 1) #[.slice none 0 0, .slice none 0 0] 36 := by simpa using Blk.new (w.alloc (.cells #[.slice ab d.blocks.length cb, .slice aq d.queue.length cq] 36)) _ _
  have h0 := h.below hbel0
  refine wp_grow 7 [isV (.pointer (some ⟨w.heap.size, 0, none⟩)), isV (.slice ab d.blocks.length cb), (ownR w.heap.size 23 8 d.blocks.length (d.blocks.flatMap pgL)), isV (.pointer (some ⟨w.heap.size, 1, none⟩)), isV (.slice aq d.queue.length cq), (ownR w.heap.size 45 9 d.queue.length (d.queue.flatMap puL)), (dskR w.heap.size d)] (by kernel_rfl) (by kernel_rfl) (by kernel_rfl) (by decide) _ rfl (by kernel_rfl) (all_cons ?_ (all_cons ?_ (all_cons ?_ (all_cons ?_ (all_cons ?_ (all_cons ?_ (all_cons ?_ (all_nil)))))))) ?_
  · intro ρ y W hw hn hb hd
    have E1 : ρ (.tmp 1) = .pointer (some ⟨w.heap.size, 0, none⟩) := (hn (.tmp 1) rfl).trans rfl
    refine asked_val (.pointer (some ⟨w.heap.size, 0, none⟩)) (want_free rfl) (by simp [execOp, go_sem, E1]) rfl
  · intro ρ y W hw hn hb hd
    have E3 := hw 3 0 rfl
    have h0 : y 0 = .pointer (some ⟨w.heap.size, 0, none⟩) := hd 0 rfl
    refine asked_val (.slice ab d.blocks.length cb) (want_free rfl) (by simp [execOp, go_sem, E3, h0, (hblk.ext hb).cell, Try.underlying33]) rfl
  · intro ρ y W hw hn hb hd
    have E4 := hw 4 1 rfl
    have h1 : y 1 = .slice ab d.blocks.length cb := hd 1 rfl
    have EF : ∀ f, ρ (.func f) = .func (.func f) #[] #[] := fun f => hn (.func f) trivial
    refine asked_call _ _ (want_free rfl) (run_call rfl (EF _) Try.func80 (by kernel_rfl) (by kernel_rfl) (by simp only [List.map_toArray, List.map_cons, List.map_nil, E4, h1, EF]; rfl)) ?_
    refine (clone_pages d.blocks ab cb W h0.lb h0.nb (h0.below hb).rb h80).mono ?_
    rintro e w1 ⟨v, rfl, ho, hb1⟩
    exact ⟨v, rfl, hb1, ho.mono (Nat.le_trans hbel0.size hb.size)⟩
  · intro ρ y W hw hn hb hd
    have E1 : ρ (.tmp 1) = .pointer (some ⟨w.heap.size, 0, none⟩) := (hn (.tmp 1) rfl).trans rfl
    refine asked_val (.pointer (some ⟨w.heap.size, 1, none⟩)) (want_free rfl) (by simp [execOp, go_sem, E1]) rfl
  · intro ρ y W hw hn hb hd
    have E6 := hw 6 3 rfl
    have h3 : y 3 = .pointer (some ⟨w.heap.size, 1, none⟩) := hd 3 rfl
    refine asked_val (.slice aq d.queue.length cq) (want_free rfl) (by simp [execOp, go_sem, E6, h3, (hblk.ext hb).cell, Try.underlying34]) rfl
  · intro ρ y W hw hn hb hd
    have E7 := hw 7 4 rfl
    have h4 : y 4 = .slice aq d.queue.length cq := hd 4 rfl
    have EF : ∀ f, ρ (.func f) = .func (.func f) #[] #[] := fun f => hn (.func f) trivial
    refine asked_call _ _ (want_free rfl) (run_call rfl (EF _) Try.func81 (by kernel_rfl) (by kernel_rfl) (by simp only [List.map_toArray, List.map_cons, List.map_nil, E7, h4, EF]; rfl)) ?_
    refine (clone_puts d.queue aq cq W h0.lq h0.nq (h0.below hb).rq h400).mono ?_
    rintro e w1 ⟨v, rfl, ho, hb1⟩
    exact ⟨v, rfl, hb1, ho.mono (Nat.le_trans hbel0.size hb.size)⟩
  · intro ρ y W hw hn hb hd
    have E5 := hw 5 2 rfl
    have h2 := hd 2 rfl
    have E8 := hw 8 5 rfl
    have h5 := hd 5 rfl
    obtain ⟨x2, c2, e2, _⟩ := Own.rd h2
    obtain ⟨x5, c5, e5, _⟩ := Own.rd h5
    refine asked_val (.agg #[y 2, y 5]) (want_free rfl) (by simp [execOp, go_sem, E5, E8, e2, e5]) ?_
    exact ⟨_, _, rfl, h2, h5⟩
  intro y WA hbWA hRWA
  have hy0 : y 0 = .pointer (some ⟨w.heap.size, 0, none⟩) := hRWA 0 (by decide)
  have hy1 : y 1 = .slice ab d.blocks.length cb := hRWA 1 (by decide)
  have hy3 : y 3 = .pointer (some ⟨w.heap.size, 1, none⟩) := hRWA 3 (by decide)
  have hy4 : y 4 = .slice aq d.queue.length cq := hRWA 4 (by decide)
  have hy2 : ((ownR w.heap.size 23 8 d.blocks.length (d.blocks.flatMap pgL))).r (y 2) WA := hRWA 2 (by decide)
  have hy5 : ((ownR w.heap.size 45 9 d.queue.length (d.queue.flatMap puL))).r (y 5) WA := hRWA 5 (by decide)
  have hy6 : ((dskR w.heap.size d)).r (y 6) WA := hRWA 6 (by decide)
  clear hRWA
  simp only [lay, Nat.reduceAdd, Nat.reduceLT, decide_true, decide_false, if_true, Bool.false_eq_true, if_false, List.setIfInBounds_toArray, List.set_cons_zero, List.set_cons_succ, List.drop_succ_cons, List.drop_zero, List.drop_nil, hy0, hy1, hy3, hy4]
  clear hy0 hy1 hy3 hy4
  obtain ⟨vb, vq, e6, ho⟩ := hy6
  rw [e6]
  clear hy2 hy5 e6
  have hbelA := below_next hbel0 hbWA
  obtain ⟨xb, cb', xq, cq', rfl, rfl, _⟩ := ho.rd
  refine wpList_stw rfl _ (.tmp 2) (.tmp 9) rfl (w.heap.size + 1) _ rfl rfl _ _ (hout.ext hbWA) rfl disk_size (by simp [Value.oneCell']) ?_
  intro w2 hq hgr
  have hbel2 : Below w.heap.size w w2 := hbelA.grown hgr hbelA.size (fun k hk => by cases hk; omega)
  have hc := hq.cell
  go_wp2
  simp [bodyPost, results, go_sem, Try.results58, hc]
  exact ⟨_, _, ⟨rfl, rfl⟩, ho.keep (hout.ext hbWA) (by decide) (by decide) hgr, hbel2⟩

/-! ### Read -/
def wrong_or (d : Dsk) (at_ : Int) : Int := if wrongD d ≠ 0 then wrongD d else if at_ < 0 ∨ d.blocks.length ≤ at_ then 3 else 0
/-- What a block is once writes came over it. -/
def over (k : Int) (p : Page) (q : List (Int × Page)) : Page := q.foldl (fun p x => if x.1 = k then x.2 else p) p
theorem over_snoc (k : Int) (p : Page) (q : List (Int × Page)) (x : Int × Page) : over k p (q ++ [x]) = if x.1 = k then x.2 else over k p q := by simp [over, List.foldl_append]
theorem over_take (k : Int) (p : Page) (q : List (Int × Page)) (i : Nat) (h : i < q.length) : over k p (q.take (i + 1)) = if q[i].1 = k then q[i].2 else over k p (q.take i) := by
  rw [List.take_add_one, List.getElem?_eq_getElem h, Option.toList, over_snoc]
def readP (d : Dsk) (k : Int) : Page := if wrong_or d k = 0 then over k (d.blocks.getD k.toNat zPg) d.queue else zPg
theorem zPg_cells : pgC zPg = #[.int .u8 0, .int .u8 0, .int .u8 0, .int .u8 0, .int .u8 0, .int .u8 0, .int .u8 0, .int .u8 0] := rfl

set_option maxHeartbeats 1000000 in
set_option maxRecDepth 100000 in
theorem dread_any (d : Dsk) (k : Int) (ab : Option Addr) (cb : Nat) (aq : Option Addr) (cq : Nat) (w : World) (h : DRd w ab cb aq cq d) :
    Calls Try.prog 28 #[.agg #[.slice ab d.blocks.length cb, .slice aq d.queue.length cq], .int .i64 k] w fun e w' => e = .returned (.tuple #[.agg (pgC (readP d k)), .int .i64 (wrong_or d k)]) ∧ Below w.heap.size w w' := by
  go_enter Try.func28, Try.ntmps28
  go_wp2_with fail
  have hb0 : Below w.heap.size w ((w.alloc (.cells #[.slice ab d.blocks.length cb, .slice aq d.queue.length cq] 36)).alloc (.cells #[.int .u8 0, .int .u8 0, .int .u8 0, .int .u8 0, .int .u8 0, .int .u8 0, .int .u8 0, .int .u8 0] 23)) := ((Below.refl _ _).alloc (Nat.le_refl _) _).alloc (le_alloc _ _) _
  have hblk0 : Blk ((w.alloc (.cells #[.slice ab d.blocks.length cb, .slice aq d.queue.length cq] 36)).alloc (.cells #[.int .u8 0, .int .u8 0, .int .u8 0, .int .u8 0, .int .u8 0, .int .u8 0, .int .u8 0, .int .u8 0] 23)) w.heap.size #[.slice ab d.blocks.length cb, .slice aq d.queue.length cq] 36 := (Blk.new _ _ _).alloc _
  have hres0 : Blk ((w.alloc (.cells #[.slice ab d.blocks.length cb, .slice aq d.queue.length cq] 36)).alloc (.cells #[.int .u8 0, .int .u8 0, .int .u8 0, .int .u8 0, .int .u8 0, .int .u8 0, .int .u8 0, .int .u8 0] 23)) (w.heap.size + 1) #[.int .u8 0, .int .u8 0, .int .u8 0, .int .u8 0, .int .u8 0, .int .u8 0, .int .u8 0, .int .u8 0] 23 := by simpa using Blk.new (w.alloc (.cells #[.slice ab d.blocks.length cb, .slice aq d.queue.length cq] 36)) _ _
  refine (dwrong_any d ab cb aq cq _ (h.below hb0)).mono ?_
  rintro e w1 ⟨rfl, hb1⟩
  have hbel1 := below_next hb0 hb1
  have hblk1 := hblk0.ext hb1
  have hres1 := hres0.ext hb1
  have h1 := h.below hbel1
  clear hblk0 hres0 hb1 hb0 h
  have hq1 := h1.rq
  have hbb1 := h1.rb
  have lq := Nat.le_trans h1.lq h1.mq
  unfold maxLen at lq
  have hc1 := hblk1.cell
  by_cases hw : wrongD d = 0
  · rw [hw]
    by_cases hk : k < 0 ∨ (d.blocks.length : Int) ≤ k
    · have q1 : wrong_or d k = 3 := by unfold wrong_or; rw [if_neg (by omega), if_pos hk]
      have q2 : pgC (readP d k) = #[.int .u8 0, .int .u8 0, .int .u8 0, .int .u8 0, .int .u8 0, .int .u8 0, .int .u8 0, .int .u8 0] := by unfold readP; rw [q1]; rfl
      rcases hk with hk | hk
      all_goals
        go_wp2_with (refine wpList_stw rfl _ (.tmp 4) (.tmp 23) rfl (w.heap.size + 1) #[.int .u8 0, .int .u8 0, .int .u8 0, .int .u8 0, .int .u8 0, .int .u8 0, .int .u8 0, .int .u8 0] rfl rfl _ _ hres1 zz_fit zz_info zz_one ?_)
        all_goals
          intro w2 hr2 hgr
          have hbel2 := hbel1.grown hgr hbel1.size (fun k hk => by cases hk; omega)
          have hcr := hr2.cell
          go_wp2
          simp [bodyPost, results, go_sem, Try.results28, hcr, q1, q2]
          exact hbel2
    · obtain ⟨k, rfl⟩ := Int.eq_ofNat_of_zero_le (show 0 ≤ k by omega)
      have hkl : k < d.blocks.length := by omega
      have k1 : ¬ (d.blocks.length : Int) ≤ (k : Int) := by omega
      have q1 : wrong_or d k = 0 := by unfold wrong_or; rw [if_neg (by omega), if_neg hk]
      have q2 : readP d k = over k d.blocks[k] d.queue := by unfold readP; rw [q1, if_pos rfl]; simp [hkl]
      clear hk
      have Q2 := Lib.hid q2
      clear q2
      have hd : decide (d.blocks.length ≤ k) = false := by simp; omega
      go_wp2
      go_loopw [7] (fun i wr => ∃ n : Int, -1 ≤ n ∧ n < d.queue.length ∧ i = .int .i64 n ∧ wr = w1 ∧ Hid (over k d.blocks[k] (d.queue.take (n + 1).toNat) = over k d.blocks[k] d.queue)) (fun i _ => (intOf i + 1).toNat)
      case atStart => exact ⟨(d.queue.length : Int) - 1, by omega, by omega, rfl, rfl, Lib.hid (by rw [show ((d.queue.length : Int) - 1 + 1).toNat = d.queue.length from by omega, List.take_length])⟩
      case round =>
        obtain ⟨n, hn1, hn2, rfl, rfl, hov⟩ := hrel
        by_cases hneg : n < 0
        · have : n = -1 := by omega
          subst this
          obtain ⟨b, off, rfl, hc⟩ := page_at hbb1 k hkl
          have c0 := hc 0 (by decide); have c1 := hc 1 (by decide); have c2 := hc 2 (by decide); have c3 := hc 3 (by decide)
          have c4 := hc 4 (by decide); have c5 := hc 5 (by decide); have c6 := hc 6 (by decide); have c7 := hc 7 (by decide)
          simp only [pgC, List.getElem?_toArray, List.getElem?_cons_zero, List.getElem?_cons_succ, Nat.add_zero] at c0 c1 c2 c3 c4 c5 c6 c7
          clear hc
          have hread : readP d k = d.blocks[k] := by rw [Q2.out, ← hov.out]; rfl
          clear Q2 hov
          go_wp2_with (refine wpList_stw rfl _ (.tmp 4) (.tmp 50) rfl (w.heap.size + 1) (pgC d.blocks[k]) rfl rfl _ _ hres1 (pg_fit _) (pg_info _) (pgC_one _) ?_)
          intro w2 hr2 hgr
          have hbel2 := hbel1.grown hgr hbel1.size (fun k hk => by cases hk; omega)
          have hcr := hr2.cell
          obtain ⟨e0, e1, e2, e3, e4, e5, e6, e7⟩ := pgC_all d.blocks[k]
          go_wp2
          simp [bodyPost, results, go_sem, Try.results28, hcr, e0, e1, e2, e3, e4, e5, e6, e7, q1, hread]
          exact ⟨rfl, hbel2⟩
        · obtain ⟨m, rfl⟩ := Int.eq_ofNat_of_zero_le (show 0 ≤ n by omega)
          have hm : m < d.queue.length := by omega
          obtain ⟨b, off, rfl, hc⟩ := put_at hq1 m hm
          have c0 := hc 0 (by decide); have c1 := hc 1 (by decide); have c2 := hc 2 (by decide); have c3 := hc 3 (by decide); have c4 := hc 4 (by decide)
          have c5 := hc 5 (by decide); have c6 := hc 6 (by decide); have c7 := hc 7 (by decide); have c8 := hc 8 (by decide)
          simp only [puC, List.getElem?_toArray, List.getElem?_cons_zero, List.getElem?_cons_succ, Nat.add_zero] at c0 c1 c2 c3 c4 c5 c6 c7 c8
          clear hc
          have hot := over_take (k : Int) d.blocks[k] d.queue m hm
          rw [show ((m : Int) + 1).toNat = m + 1 from by omega] at hov
          have hot' := Lib.hid (hot.symm.trans hov.out)
          clear hov hot
          have hneg' : ¬ ((m : Int) < 0) := by omega
          by_cases he : d.queue[m].1 = (k : Int)
          · have hread : readP d k = d.queue[m].2 := by rw [Q2.out, ← hot'.out, if_pos he]
            rw [he] at c0
            clear Q2 hot'
            have hfold : pgC d.queue[m].2 = #[.int .u8 d.queue[m].2[0].toNat, .int .u8 d.queue[m].2[1].toNat, .int .u8 d.queue[m].2[2].toNat, .int .u8 d.queue[m].2[3].toNat, .int .u8 d.queue[m].2[4].toNat, .int .u8 d.queue[m].2[5].toNat, .int .u8 d.queue[m].2[6].toNat, .int .u8 d.queue[m].2[7].toNat] := rfl
            go_wp2_with (refine wpList_stw rfl _ (.tmp 4) (.tmp 45) rfl (w.heap.size + 1) (pgC d.queue[m].2) rfl rfl _ _ hres1 (pg_fit _) (pg_info _) (pgC_one _) ?_)
            intro w2 hr2 hgr
            have hbel2 := hbel1.grown hgr hbel1.size (fun k hk => by cases hk; omega)
            have hcr := hr2.cell
            obtain ⟨e0, e1, e2, e3, e4, e5, e6, e7⟩ := pgC_all d.queue[m].2
            go_wp2
            simp [bodyPost, results, go_sem, Try.results28, hcr, e0, e1, e2, e3, e4, e5, e6, e7, q1, hread]
            exact ⟨rfl, hbel2⟩
          · have hne : (d.queue[m].1 == (k : Int)) = false := by simpa using he
            have hov : Hid (over k d.blocks[k] (d.queue.take m) = over k d.blocks[k] d.queue) := by
              have := hot'.out
              rw [if_neg he] at this
              exact this
            clear hot'
            go_wp2
            go_roundw
            case rel => exact ⟨(m : Int) - 1, by omega, by omega, by go_num, trivial, by rw [show ((m : Int) - 1 + 1).toNat = m from by omega]; exact hov⟩
            case measure => simp [intOf]
  · have q1 : wrong_or d k = wrongD d := by unfold wrong_or; rw [if_pos hw]
    have q2 : pgC (readP d k) = #[.int .u8 0, .int .u8 0, .int .u8 0, .int .u8 0, .int .u8 0, .int .u8 0, .int .u8 0, .int .u8 0] := by unfold readP; rw [q1, if_neg hw]; rfl
    have hw' : (wrongD d != 0) = true := by simpa using hw
    go_wp2_with (refine wpList_stw rfl _ (.tmp 4) (.tmp 12) rfl (w.heap.size + 1) #[.int .u8 0, .int .u8 0, .int .u8 0, .int .u8 0, .int .u8 0, .int .u8 0, .int .u8 0, .int .u8 0] rfl rfl _ _ hres1 zz_fit zz_info zz_one ?_)
    intro w2 hr2 hgr
    have hbel2 := hbel1.grown hgr hbel1.size (fun k hk => by cases hk; omega)
    have hcr := hr2.cell
    go_wp2
    simp [bodyPost, results, go_sem, Try.results28, hcr, q1, q2]
    exact hbel2
end Go.Proofs.Ytohbfjbcfibhcaa
