/- What the document's WriteDisk does. -/
import Derived.Test.YtohbfjbcfibhcaaRef
import Derived.Test.YtohbfjbcfibhcaaGrowT
import Derived.Test.YtohbfjbcfibhcaaDel
namespace Go.Proofs.Ytohbfjbcfibhcaa
open Go.RowKit Pw
set_option linter.unusedSimpArgs false
set_option linter.unusedVariables false

/-- What stays when more than 400 wait: at most one is over. -/
def shrinkB (B : List Page) (Q : List (Int × Page)) : List Page := if 400 < Q.length then B.set (Q.headD (0, zPg)).1.toNat (Q.headD (0, zPg)).2 else B
def shrinkQ (Q : List (Int × Page)) : List (Int × Page) := if 400 < Q.length then Q.drop 1 else Q
theorem shrink_push {d : Dsk} {x : Int × Page} (hl : d.queue.length ≤ 400) : (⟨shrinkB d.blocks (d.queue ++ [x]), shrinkQ (d.queue ++ [x])⟩ : Dsk) = pushW d x := by
  unfold shrinkB shrinkQ
  by_cases h : d.queue.length = 400
  · rw [push_full d x h, if_pos (by simp; omega), if_pos (by simp; omega)]
    obtain ⟨B, Q⟩ := d
    cases Q with
    | nil => cases h
    | cons a r => rfl
  · rw [push_less d x h, if_neg (by simp; omega), if_neg (by simp; omega)]
def sliceLen : Value → Nat
  | .slice _ n _ => n
  | _ => 0
set_option maxHeartbeats 2000000 in
set_option maxRecDepth 100000 in
theorem rwrite_any (d : Dsk) (k : Int) (p : Page) (ab : Option Addr) (cb : Nat) (aq : Option Addr) (cq : Nat) (w : World) (h : DRd w ab cb aq cq d) :
    Calls Try.prog 61 #[.agg #[.slice ab d.blocks.length cb, .slice aq d.queue.length cq], .int .i64 k, .agg (pgC p)] w fun e w' => ∃ vb vq, e = .returned (.tuple #[.agg #[vb, vq], .int .i64 (wrong_or d k)]) ∧ DOwn w' w.heap.size vb vq (writeD d k p) ∧ Below w.heap.size w w' := by
  go_enter Try.func61, Try.ntmps61
  rw [pgC_lit]
  go_wp2_with fail
  refine abs3 (fun W => Calls _ _ _ W _) fun W0 hb0 hx0 hp0 hr0 hs0 => ?_
  refine (rdwrong_any d ab cb aq cq _ (h.below hb0)).mono ?_
  rintro e w1 ⟨rfl, hb1⟩
  have hbel1 := below_next hb0 hb1
  have hx1 := hx0.ext hb1
  have hp1 := hp0.ext hb1
  have hres1 := hr0.ext hb1
  have h1 := h.below hbel1
  clear hx0 hp0 hr0 hb1 hb0 hs0
  have hc1 := hx1.cell
  by_cases hw : wrongD d = 0
  · rw [hw]
    obtain ⟨l80, l400⟩ := wrongD_le hw
    by_cases hk : k < 0 ∨ (d.blocks.length : Int) ≤ k
    · have q1 : wrong_or d k = 3 := by unfold wrong_or; rw [if_neg (by omega), if_pos hk]
      have q2 : writeD d k p = ⟨[], []⟩ := by unfold writeD; rw [if_neg (by omega)]
      rcases hk with hk | hk
      all_goals
        go_wp2_with (refine wpList_stw rfl _ (.tmp 6) (.tmp 26) rfl (w.heap.size + 2) #[.slice none 0 0, .slice none 0 0] rfl rfl _ _ hres1 rfl disk_size (sl_one _ _ _ _ _ _) ?_)
        all_goals
          intro w2 hr2 hgr
          have hbel2 := hbel1.grown hgr hbel1.size (fun k hk => by cases hk; omega)
          have hcr := hr2.cell
          go_wp2
          simp [bodyPost, results, go_sem, Try.results61, hcr, q1]
          exact ⟨_, _, ⟨rfl, rfl⟩, by rw [q2]; exact DOwn.nil _ _, hbel2⟩
    · obtain ⟨k, rfl⟩ := Int.eq_ofNat_of_zero_le (show 0 ≤ k by omega)
      have hkl : k < d.blocks.length := by omega
      have k1 : ¬ (d.blocks.length : Int) ≤ (k : Int) := by omega
      have q1 : wrong_or d k = 0 := by unfold wrong_or; rw [if_neg (by omega), if_neg hk]
      have q2 : writeD d k p = pushW d (k, p) := by unfold writeD; rw [if_pos q1]
      have Q := Lib.hid (And.intro q1 (q2.trans (shrink_push (x := ((k : Int), p)) l400).symm))
      have hin : Hid (∀ x ∈ d.queue ++ [((k : Int), p)], 0 ≤ x.1 ∧ x.1 < d.blocks.length) := by
        intro x hx
        rcases List.mem_append.1 hx with hx | hx
        · exact ((wrongD_iff d).1 hw).2.2 x hx
        · rw [List.mem_singleton.1 hx]; exact ⟨by simp, by simpa using hkl⟩
      have hgx : w.heap.size + 3 ≤ w1.heap.size := by have := hres1.lt; omega
      clear hk q1 q2
      have hd : decide (d.blocks.length ≤ k) = false := by simp; omega
      go_upto_region 6 with (fail)
      refine wp_growT 8 [(emptyR w.heap.size 45 9), isV (.pointer (some ⟨w.heap.size, 1, none⟩)), isV (.slice aq d.queue.length cq), (ownR w.heap.size 45 9 d.queue.length (d.queue.flatMap puL)), isV (.int .i64 k), isV (.agg (pgC p)), isV (.agg (puC ((k : Int), p))), slR 1 (puL ((k : Int), p))] (by kernel_rfl) (by kernel_rfl) (by kernel_rfl) (by decide) _ rfl (by kernel_rfl) (all_cons ?_ (all_cons ?_ (all_cons ?_ (all_cons ?_ (all_cons ?_ (all_cons ?_ (all_cons ?_ (all_cons ?_ (all_nil))))))))) ?_
      · intro ρ y W hw hn hb hd
        refine asked_new (.slice (some ⟨W.heap.size, 0, none⟩) 0 0) (want_free rfl) (by simp [execOp, go_sem]) ((Below.refl _ _).alloc (Nat.le_refl _) (.cells #[] 45)) ?_
        exact ⟨_, rfl, Own.empty _ _ (Nat.le_trans hbel1.size hb.size)⟩
      · intro ρ y W hw hn hb hd
        have E3 : ρ (.tmp 3) = .pointer (some ⟨w.heap.size, 0, none⟩) := (hn (.tmp 3) rfl).trans rfl
        refine asked_val (.pointer (some ⟨w.heap.size, 1, none⟩)) (want_free rfl) (by simp [execOp, go_sem, E3]) rfl
      · intro ρ y W hw hn hb hd
        have E28 := hw 28 1 rfl
        have h1 : y 1 = .pointer (some ⟨w.heap.size, 1, none⟩) := hd 1 rfl
        refine asked_val (.slice aq d.queue.length cq) (want_free rfl) (by simp [execOp, go_sem, E28, h1, (hx1.ext hb).cell, Try.underlying34]) rfl
      · intro ρ y W hw hn hb hd
        have E27 := hw 27 0 rfl
        have h0 := hd 0 rfl
        have E29 := hw 29 2 rfl
        have h2 : y 2 = .slice aq d.queue.length cq := hd 2 rfl
        obtain ⟨g0, e0, ho0⟩ := h0
        rw [e0] at E27
        refine asked_app (.tmp 27) (.tmp 29) 34 rfl (want_free rfl) w.heap.size 45 _ 9 16 Try.underlying34 put_info rfl (by decide) g0 E27 ho0 aq d.queue.length cq (d.queue.flatMap puL) (E29.trans h2) h1.nq h1.lq (puts_len d.queue) (h1.below hb).rq (by unfold maxLen; omega) (by omega) (Nat.le_trans hbel1.size hb.size) (fun v w2 hb2 hov => hov)
      · intro ρ y W hw hn hb hd
        have E1 : ρ (.tmp 1) = .int .i64 k := (hn (.tmp 1) rfl).trans rfl
        refine asked_val (.int .i64 k) (want_free rfl) (run_move (.inl rfl) E1) rfl
      · intro ρ y W hw hn hb hd
        have E5 : ρ (.tmp 5) = .pointer (some ⟨w.heap.size + 1, 0, none⟩) := (hn (.tmp 5) rfl).trans rfl
        refine asked_val (.agg (pgC p)) (want_free rfl) (run_load_blk rfl E5 (hp1.ext hb) Try.underlying23 rfl (pg_info _)) rfl
      · intro ρ y W hw hn hb hd
        have E31 := hw 31 4 rfl
        have h4 : y 4 = .int .i64 k := hd 4 rfl
        have E32 := hw 32 5 rfl
        have h5 : y 5 = .agg (pgC p) := hd 5 rfl
        refine asked_val (.agg (puC ((k : Int), p))) (want_free rfl) (by simp [execOp, go_sem, E31, h4, E32, h5, pgC, puC]) rfl
      · intro ρ y W hw hn hb hd
        have E33 := hw 33 6 rfl
        have h6 : y 6 = .agg (puC ((k : Int), p)) := hd 6 rfl
        refine asked_new (.slice (some ⟨W.heap.size, 0, none⟩) 1 1) (want_free rfl) (by simp [execOp, go_sem, E33, h6, puC]) ((Below.refl _ _).alloc (Nat.le_refl _) (.cells (puC ((k : Int), p)) 45)) ?_
        exact ⟨_, _, rfl, Nat.le_refl _, by unfold maxLen; omega, fun e => (by cases e), RdV.new _ _ _⟩
      intro y WA hbWA hRWA
      have hy1 : y 1 = .pointer (some ⟨w.heap.size, 1, none⟩) := hRWA 1 (by decide)
      have hy2 : y 2 = .slice aq d.queue.length cq := hRWA 2 (by decide)
      have hy4 : y 4 = .int .i64 k := hRWA 4 (by decide)
      have hy5 : y 5 = .agg (pgC p) := hRWA 5 (by decide)
      have hy6 : y 6 = .agg (puC ((k : Int), p)) := hRWA 6 (by decide)
      have hy0 : ((emptyR w.heap.size 45 9)).r (y 0) WA := hRWA 0 (by decide)
      have hy3 : ((ownR w.heap.size 45 9 d.queue.length (d.queue.flatMap puL))).r (y 3) WA := hRWA 3 (by decide)
      obtain ⟨ya7, yc7, hy7, yle7, ymx7, ynil7, yrd7⟩ := hRWA 7 (by decide)
      clear hRWA
      simp only [lay, Nat.reduceAdd, Nat.reduceLT, decide_true, decide_false, if_true, Bool.false_eq_true, if_false, List.setIfInBounds_toArray, List.set_cons_zero, List.set_cons_succ, List.drop_succ_cons, List.drop_zero, List.drop_nil, hy1, hy2, hy4, hy5, hy6, hy7]
      clear hy1 hy2 hy4 hy5 hy6 hy7
      have hbelA := below_next hbel1 hbWA
      have hxA := hx1.ext hbWA
      have hresA := hres1.ext hbWA
      have hgA : w.heap.size + 3 ≤ WA.heap.size := by have := hresA.lt; omega
      clear hbel1 hx1 hp1 hres1 h1 hbWA hc1 hgx
      go_wp2_with (at_builtin; (refine wpList_app rfl _ _ 34 rfl w.heap.size 45 _ 9 16 Try.underlying34 put_info rfl (by decide) _ d.queue.length (d.queue.flatMap puL) rfl ?own1 ya7 1 yc7 (puL ((k : Int), p)) rfl ynil7 yle7 rfl ?rd1 (fun u hu => puts_one [((k : Int), p)] u (by simpa using hu)) (by unfold maxLen; omega) (by omega) ?bb1 ?k1))
      case own1 => exact hy3
      case rd1 => exact yrd7
      case bb1 => exact hbelA.size
      intro vq w2 hoq hgr
      have hoy : Own WA w.heap.size 45 9 (y 3) d.queue.length (d.queue.flatMap puL) := hy3
      have hbel2 : Below w.heap.size w w2 := hbelA.grown hgr hbelA.size hoy.ge
      have hx2 := blk_own hxA hoy (by decide) hgr
      have hres2 := blk_own hresA hoy (by decide) hgr
      have hoq2 : Own w2 w.heap.size 45 9 vq (d.queue ++ [((k : Int), p)]).length ((d.queue ++ [((k : Int), p)]).flatMap puL) := by
        rw [List.flatMap_append, List.length_append]; simpa using hoq
      have hM2 := h.below hbel2
      clear hy3 hoy hoq hgr hbelA hxA hresA yrd7 ynil7 yle7
      have hcx := fun o => (hx2.alloc o).cell
      obtain ⟨ad, rfl⟩ : ∃ ad, ab = some ad := by obtain ⟨b, off, rfl, _⟩ := page_at h.rb k hkl; exact ⟨_, rfl⟩
      go_wp2_with (at_builtin; go_must (refine wpList_app rfl _ _ 33 rfl w.heap.size 23 _ 8 8 Try.underlying33 page_info rfl (by decide) _ 0 [] rfl ?own2 (some ad) d.blocks.length cb (d.blocks.flatMap pgL) rfl (fun h => (by cases h)) h.lb (pages_len d.blocks) ?rd2 (pages_one d.blocks) (by unfold maxLen; omega) (by omega) ?bb2 ?k2))
      case own2 => exact Own.empty _ _ hbel2.size
      case rd2 => exact hM2.rb.below ((Below.refl _ _).alloc (Nat.le_refl _) _)
      case bb2 => exact le_alloc' hbel2.size _
      intro vb w3 hob hgr
      have hbel3 : Below w.heap.size w w3 := (hbel2.alloc hbel2.size _).grown hgr (le_alloc' hbel2.size _) (fun k hk => by cases hk; exact hbel2.size)
      have hres3 := (hres2.alloc (.cells #[] 23)).grown hgr (fun he => by have h1 := Option.some.inj he; have h2 := hres2.lt; simp at h1; omega)
      have hoq3 := own_own (hoq2.alloc (.cells #[] 23)) (Own.empty w2 23 hbel2.size (sz := 8)) (by decide) hgr
      have hob3 : Own w3 w.heap.size 23 8 vb d.blocks.length (d.blocks.flatMap pgL) := by simpa using hob
      clear hob hgr hbel2 hx2 hres2 hoq2 hM2 hcx
      obtain ⟨gb, offb, cb', rfl⟩ : ∃ gb offb cb', vb = .slice (some ⟨gb, offb, none⟩) d.blocks.length cb' := by
        obtain ⟨g, off, cap, _, hv, _⟩ := own_putn pgL_len (by decide) rfl hob3 k hkl
        exact ⟨g, off, cap, hv⟩
      go_wp2
      go_loopw [9] (fun s9 wr => ∃ (q : List (Int × Page)) (b : List Page), Own wr w.heap.size 45 9 s9 q.length (q.flatMap puL) ∧ Own wr w.heap.size 23 8 (.slice (some ⟨gb, offb, none⟩) d.blocks.length cb') d.blocks.length (b.flatMap pgL) ∧ Below w.heap.size w wr ∧ Blk wr (w.heap.size + 2) #[.slice none 0 0, .slice none 0 0] 36 ∧ Hid (shrinkB b q = shrinkB d.blocks (d.queue ++ [((k : Int), p)]) ∧ shrinkQ q = shrinkQ (d.queue ++ [((k : Int), p)]) ∧ q.length ≤ 401 ∧ b.length = d.blocks.length ∧ ∀ x ∈ q, 0 ≤ x.1 ∧ x.1 < d.blocks.length)) (fun s9 _ => sliceLen s9)
      case atStart => exact ⟨_, _, hoq3, hob3, hbel3, hres3, Lib.hid ⟨rfl, rfl, by simp; omega, rfl, hin.out⟩⟩
      case round =>
        clear hoq3 hob3 hbel3 hres3
        obtain ⟨q, b, hq, hb, hbel, hres, hI⟩ := hrel
        obtain ⟨a9, c9, rfl, hle9, hmx9, _, hrd9⟩ := hq.rd
        by_cases h401 : 400 < q.length
        · have hl401 : q.length = 401 := by have := hI.out.2.2.1; omega
          obtain ⟨bq, offq, rfl, hc⟩ := put_at hrd9 0 (by omega)
          obtain ⟨j0, j1⟩ := hI.out.2.2.2.2 (q[0]'(by omega)) (List.getElem_mem _)
          have hI1 : Hid (shrinkB (b.set (q[0]'(by omega)).1.toNat (q[0]'(by omega)).2) (q.drop 1) = shrinkB d.blocks (d.queue ++ [((k : Int), p)]) ∧ shrinkQ (q.drop 1) = shrinkQ (d.queue ++ [((k : Int), p)])) := by
            have h1 := hI.out.1
            have h2 := hI.out.2.1
            rw [show shrinkB b q = b.set (q.headD (0, zPg)).1.toNat (q.headD (0, zPg)).2 from if_pos h401] at h1
            rw [show shrinkQ q = q.drop 1 from if_pos h401] at h2
            have hd : ¬ 400 < (q.drop 1).length := by simp; omega
            constructor
            · show shrinkB _ _ = _
              rw [show shrinkB (b.set (q[0]'(by omega)).1.toNat (q[0]'(by omega)).2) (q.drop 1) = b.set (q[0]'(by omega)).1.toNat (q[0]'(by omega)).2 from if_neg hd, ← h1]
              cases q with
              | nil => simp at h401
              | cons a r => rfl
            · show shrinkQ _ = _
              rw [show shrinkQ (q.drop 1) = q.drop 1 from if_neg hd]
              exact h2
          have hI2 : Hid (∀ x ∈ q.drop 1, 0 ≤ x.1 ∧ x.1 < d.blocks.length) := fun x hx => hI.out.2.2.2.2 x (List.mem_of_mem_drop hx)
          have hbl := Lib.hid hI.out.2.2.2.1
          generalize hx0 : q[0]'(by omega) = x0 at *
          obtain ⟨n0, x0p⟩ := x0
          obtain ⟨i0, rfl⟩ := Int.eq_ofNat_of_zero_le j0
          have hi0 : i0 < d.blocks.length := by simpa using j1
          have c0 := hc 0 (by decide); have c1 := hc 1 (by decide); have c2 := hc 2 (by decide); have c3 := hc 3 (by decide); have c4 := hc 4 (by decide)
          have c5 := hc 5 (by decide); have c6 := hc 6 (by decide); have c7 := hc 7 (by decide); have c8 := hc 8 (by decide)
          simp only [puC, List.getElem?_toArray, List.getElem?_cons_zero, List.getElem?_cons_succ, Nat.add_zero, Nat.zero_mul] at c0 c1 c2 c3 c4 c5 c6 c7 c8
          have hi0z : (i0 : Int) < (d.blocks.length : Int) := by omega
          have h401z : (400 : Int) < (q.length : Int) := by omega
          have hq0z : (0 : Int) < (q.length : Int) := by omega
          have hqne : ¬ q = [] := by intro e; rw [e] at h401; simp at h401
          have hI' := hI
          clear hc hI j0 j1
          go_upto_region 9 with (fail)
          refine wp_growT 10 [isV (.slice (some ⟨gb, offb, none⟩) d.blocks.length cb'), isV (.slice (some ⟨bq, offq, none⟩) q.length c9), isV (.pointer (some ⟨bq, offq, none⟩)), isV (.pointer (some ⟨bq, offq, none⟩)), isV (.int .i64 i0), isV (.slice (some ⟨bq, offq, none⟩) q.length c9), isV (.pointer (some ⟨bq, offq, none⟩)), isV (.pointer (some ⟨bq, offq + 1, none⟩)), isV (.agg (pgC x0p)), isV (.pointer (some ⟨gb, offb + i0 * 8, none⟩))] (by kernel_rfl) (by kernel_rfl) (by kernel_rfl) (by decide) _ rfl (by kernel_rfl) (all_cons ?_ (all_cons ?_ (all_cons ?_ (all_cons ?_ (all_cons ?_ (all_cons ?_ (all_cons ?_ (all_cons ?_ (all_cons ?_ (all_cons ?_ (all_nil))))))))))) ?_
          · intro ρ y W hw hn hb hd
            have E10 : ρ (.tmp 10) = .slice (some ⟨gb, offb, none⟩) d.blocks.length cb' := (hn (.tmp 10) rfl).trans rfl
            refine asked_val (.slice (some ⟨gb, offb, none⟩) d.blocks.length cb') (want_free rfl) (run_move (.inl rfl) E10) rfl
          · intro ρ y W hw hn hb hd
            have E9 : ρ (.tmp 9) = .slice (some ⟨bq, offq, none⟩) q.length c9 := (hn (.tmp 9) rfl).trans rfl
            refine asked_val (.slice (some ⟨bq, offq, none⟩) q.length c9) (want_free rfl) (run_move (.inl rfl) E9) rfl
          · intro ρ y W hw hn hb hd
            have E44 := hw 44 1 rfl
            have h1 : y 1 = .slice (some ⟨bq, offq, none⟩) q.length c9 := hd 1 rfl
            have EC : ∀ v, ρ (.const v) = v := fun v => hn (.const v) trivial
            refine asked_val (.pointer (some ⟨bq, offq, none⟩)) (want_free rfl) (by simp [execOp, go_sem, E44, h1, EC, hqne]) rfl
          · intro ρ y W hw hn hb hd
            have E45 := hw 45 2 rfl
            have h2 : y 2 = .pointer (some ⟨bq, offq, none⟩) := hd 2 rfl
            refine asked_val (.pointer (some ⟨bq, offq, none⟩)) (want_free rfl) (by simp [execOp, go_sem, E45, h2]) rfl
          · intro ρ y W hw hn hb hd
            have E46 := hw 46 3 rfl
            have h3 : y 3 = .pointer (some ⟨bq, offq, none⟩) := hd 3 rfl
            have d0 := cell_later hb c0
            refine asked_val (.int .i64 i0) (want_free rfl) (by simp [execOp, go_sem, E46, h3, d0]) rfl
          · intro ρ y W hw hn hb hd
            have E9 : ρ (.tmp 9) = .slice (some ⟨bq, offq, none⟩) q.length c9 := (hn (.tmp 9) rfl).trans rfl
            refine asked_val (.slice (some ⟨bq, offq, none⟩) q.length c9) (want_free rfl) (run_move (.inl rfl) E9) rfl
          · intro ρ y W hw hn hb hd
            have E48 := hw 48 5 rfl
            have h5 : y 5 = .slice (some ⟨bq, offq, none⟩) q.length c9 := hd 5 rfl
            have EC : ∀ v, ρ (.const v) = v := fun v => hn (.const v) trivial
            refine asked_val (.pointer (some ⟨bq, offq, none⟩)) (want_free rfl) (by simp [execOp, go_sem, E48, h5, EC, hqne]) rfl
          · intro ρ y W hw hn hb hd
            have E49 := hw 49 6 rfl
            have h6 : y 6 = .pointer (some ⟨bq, offq, none⟩) := hd 6 rfl
            refine asked_val (.pointer (some ⟨bq, offq + 1, none⟩)) (want_free rfl) (by simp [execOp, go_sem, E49, h6]) rfl
          · intro ρ y W hw hn hb hd
            have E50 := hw 50 7 rfl
            have h7 : y 7 = .pointer (some ⟨bq, offq + 1, none⟩) := hd 7 rfl
            have d1 := cell_later hb c1
            have d2 := cell_later hb c2
            have d3 := cell_later hb c3
            have d4 := cell_later hb c4
            have d5 := cell_later hb c5
            have d6 := cell_later hb c6
            have d7 := cell_later hb c7
            have d8 := cell_later hb c8
            refine asked_val (.agg (pgC x0p)) (want_free rfl) (by simp [execOp, go_sem, E50, h7, d1, d2, d3, d4, d5, d6, d7, d8, pgC_lit]) rfl
          · intro ρ y W hw hn hb hd
            have E43 := hw 43 0 rfl
            have h0 : y 0 = .slice (some ⟨gb, offb, none⟩) d.blocks.length cb' := hd 0 rfl
            have E47 := hw 47 4 rfl
            have h4 : y 4 = .int .i64 i0 := hd 4 rfl
            refine asked_val (.pointer (some ⟨gb, offb + i0 * 8, none⟩)) (want_free rfl) (by simp [execOp, go_sem, E43, h0, E47, h4, hi0z]) rfl
          intro y WB hbWB hRWB
          have hy0 : y 0 = .slice (some ⟨gb, offb, none⟩) d.blocks.length cb' := hRWB 0 (by decide)
          have hy1 : y 1 = .slice (some ⟨bq, offq, none⟩) q.length c9 := hRWB 1 (by decide)
          have hy2 : y 2 = .pointer (some ⟨bq, offq, none⟩) := hRWB 2 (by decide)
          have hy3 : y 3 = .pointer (some ⟨bq, offq, none⟩) := hRWB 3 (by decide)
          have hy4 : y 4 = .int .i64 i0 := hRWB 4 (by decide)
          have hy5 : y 5 = .slice (some ⟨bq, offq, none⟩) q.length c9 := hRWB 5 (by decide)
          have hy6 : y 6 = .pointer (some ⟨bq, offq, none⟩) := hRWB 6 (by decide)
          have hy7 : y 7 = .pointer (some ⟨bq, offq + 1, none⟩) := hRWB 7 (by decide)
          have hy8 : y 8 = .agg (pgC x0p) := hRWB 8 (by decide)
          have hy9 : y 9 = .pointer (some ⟨gb, offb + i0 * 8, none⟩) := hRWB 9 (by decide)
          clear hRWB
          simp only [lay, Nat.reduceAdd, Nat.reduceLT, decide_true, decide_false, if_true, Bool.false_eq_true, if_false, List.setIfInBounds_toArray, List.set_cons_zero, List.set_cons_succ, List.drop_succ_cons, List.drop_zero, List.drop_nil, hy0, hy1, hy2, hy3, hy4, hy5, hy6, hy7, hy8, hy9]
          clear hy0 hy1 hy2 hy3 hy4 hy5 hy6 hy7 hy8 hy9
          have hqB := hq.below hbWB
          have hbB := hb.below hbWB
          have hbelB := below_next hbel hbWB
          have hresB := hres.ext hbWB
          clear hq hb hbel hres hbWB c0 c1 c2 c3 c4 c5 c6 c7 c8 hrd9
          obtain ⟨_, _, _, curb, hv, hBb, hgb, hfb, hsetb⟩ := own_putn pgL_len (by decide) hbl.out hbB i0 hi0
          cases hv
          go_wp2_with (refine wpList_st rfl _ (.tmp 52) (.tmp 51) rfl gb (offb + i0 * 8) (pgC x0p) rfl rfl curb 23 hgb (by rw [pgC_size]; omega) (pg_info _) (pgC_one _) ?_)
          intro w7 hq7 hgr7
          have hB7 := hsetb w7 x0p hq7
          have hQ7 := own_keep hqB hgb (by decide) hgr7
          have hres7 := blk_keep hresB hgb (by decide) hgr7
          have hbel7 : Below w.heap.size w w7 := hbelB.grown hgr7 hbelB.size (fun k hk => by cases hk; exact hBb)
          have hQ8 := hQ7.drop puL_len 1 (by omega)
          rw [show offq + 1 * 9 = offq + 9 from by omega] at hQ8
          have hl400 : (q.drop 1).length = 400 := by simp; omega
          have hl400' : q.length - 1 = 400 := by omega
          have hQ9 := hQ8
          clear hq7 hsetb hgb hqB hbB hresB hbelB hgr7 hQ7
          have hcne : ¬ c9 = 1 := by omega
          have h1z : (1 : Int) ≤ (q.length : Int) := by omega
          have hl400h := Lib.hid hl400
          rw [hl400] at hQ9
          clear hl400 hl400'
          have hI3 : Hid (shrinkB (b.set i0 x0p) (q.drop 1) = shrinkB d.blocks (d.queue ++ [((k : Int), p)]) ∧ shrinkQ (q.drop 1) = shrinkQ (d.queue ++ [((k : Int), p)]) ∧ (q.drop 1).length ≤ 401 ∧ (b.set i0 x0p).length = d.blocks.length ∧ ∀ x ∈ q.drop 1, 0 ≤ x.1 ∧ x.1 < d.blocks.length) :=
            ⟨by have := hI1.out.1; simpa using this, hI1.out.2, by rw [hl400h.out]; omega, by rw [List.length_set]; exact hbl.out, hI2.out⟩
          go_wp2
          go_roundw
          case rel => exact ⟨q.drop 1, b.set i0 x0p, by rw [hl400h.out]; exact hQ9, hB7, hbel7, hres7, hI3⟩
          case measure => simp [sliceLen]; omega
        · have e1 : b = shrinkB d.blocks (d.queue ++ [((k : Int), p)]) := by rw [← hI.out.1]; exact (if_neg h401).symm
          have e2 : q = shrinkQ (d.queue ++ [((k : Int), p)]) := by rw [← hI.out.2.1]; exact (if_neg h401).symm
          have E := Lib.hid (And.intro e1 (And.intro e2 hI.out.2.2.2.1))
          have h401z : ¬ (400 : Int) < (q.length : Int) := by omega
          clear e1 e2 hI hrd9 hle9 hmx9
          go_wp2_with (refine wpList_stw rfl _ (.tmp 6) (.tmp 57) rfl (w.heap.size + 2) #[.slice (some ⟨gb, offb, none⟩) d.blocks.length cb', .slice a9 q.length c9] rfl rfl _ _ hres (disk_fit _ _ _ _) (disk_info _ _) (sl_one _ _ _ _ _ _) ?_)
          intro w8 hr8 hgr8
          have hb8 := own_keep hb hres (by decide) hgr8
          have hq8 := own_keep hq hres (by decide) hgr8
          have hbel8 := hbel.grown hgr8 hbel.size (fun k hk => by cases hk; omega)
          have hcr := hr8.cell
          clear hb hq hres hbel hgr8
          go_wp2
          simp [bodyPost, results, go_sem, Try.results61, hcr, Q.out.1]
          refine ⟨_, _, ⟨rfl, rfl⟩, ?_, hbel8⟩
          rw [Q.out.2, ← E.out.1, ← E.out.2.1]
          exact ⟨by show Own _ _ _ _ _ b.length _; rw [E.out.2.2]; exact hb8, hq8⟩
  · have q1 : wrong_or d k = wrongD d := by unfold wrong_or; rw [if_pos hw]
    have q2 : writeD d k p = ⟨[], []⟩ := by unfold writeD; rw [if_neg (by omega)]
    have hw' : (wrongD d != 0) = true := by simpa using hw
    go_wp2_with (refine wpList_stw rfl _ (.tmp 6) (.tmp 15) rfl (w.heap.size + 2) #[.slice none 0 0, .slice none 0 0] rfl rfl _ _ hres1 rfl disk_size (sl_one _ _ _ _ _ _) ?_)
    intro w2 hr2 hgr
    have hbel2 := hbel1.grown hgr hbel1.size (fun k hk => by cases hk; omega)
    have hcr := hr2.cell
    go_wp2
    simp [bodyPost, results, go_sem, Try.results61, hcr, q1]
    exact ⟨_, _, ⟨rfl, rfl⟩, by rw [q2]; exact DOwn.nil _ _, hbel2⟩
end Go.Proofs.Ytohbfjbcfibhcaa
