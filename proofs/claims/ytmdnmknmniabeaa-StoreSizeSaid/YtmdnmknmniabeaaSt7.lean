/- Package store's Create. -/
import Derived.Test.YtmdnmknmniabeaaSt6
import Derived.BigRegion
namespace Go.Proofs.Ytmdnmknmniabeaa
open Go.RowKit Go.Maps Pw
set_option linter.unusedSimpArgs false
set_option linter.unusedVariables false

def zSt : St := ⟨[], 0⟩
def createE (s : St) : Int := if wrongSt s ≠ 0 then wrongSt s else if s.fs.length = 5 then 4 else 0
def createS (s : St) : St := if createE s = 0 then ⟨s.fs ++ [⟨0, []⟩], s.count⟩ else zSt
def createN (s : St) : Int := if createE s = 0 then s.fs.length else 0
theorem wrongSt_few {s : St} (h : wrongSt s = 0) : s.fs.length ≤ 5 ∧ 0 ≤ s.count ∧ s.count ≤ 80 := by
  unfold wrongSt at h
  by_cases g : 5 < s.fs.length ∨ s.count < 0 ∨ 80 < s.count
  · rw [if_pos g] at h; cases h
  · omega
theorem scanF_file {c : Int} : ∀ {fs : List Fi} {seen : List Int}, scanF c seen fs = 0 → ∀ f ∈ fs, 0 ≤ f.n ∧ f.n ≤ 96 ∧ (f.b.length : Int) = countS f.n ∧ ∀ b ∈ f.b, -1 ≤ b ∧ b < c
  | f0 :: r, seen, h, f, hf => by
    unfold scanF at h
    by_cases g1 : f0.n < 0 ∨ 96 < f0.n
    · rw [if_pos g1] at h; cases h
    · rw [if_neg g1] at h
      by_cases g2 : (f0.b.length : Int) ≠ countS f0.n
      · rw [if_pos g2] at h; cases h
      · rw [if_neg g2] at h
        by_cases g3 : scanB c seen f0.b ≠ 0
        · rw [if_pos g3] at h; exact absurd h g3
        · rw [if_neg g3] at h
          rcases List.mem_cons.1 hf with rfl | hf
          · refine ⟨by omega, by omega, Classical.not_not.1 g2, ?_⟩
            have key : ∀ (l : List Int) (sn : List Int), scanB c sn l = 0 → ∀ b ∈ l, -1 ≤ b ∧ b < c := by
              intro l
              induction l with
              | nil => intro _ _ b hb; cases hb
              | cons x r ih =>
                intro sn h b hb
                rw [scanB_cons] at h
                by_cases k1 : x < -1 ∨ c ≤ x
                · rw [if_pos k1] at h; cases h
                · rw [if_neg k1] at h
                  by_cases k2 : 0 ≤ x ∧ x ∈ sn
                  · rw [if_pos k2] at h; cases h
                  · rw [if_neg k2] at h
                    rcases List.mem_cons.1 hb with rfl | hb
                    · omega
                    · exact ih _ h b hb
            exact key _ _ (Classical.not_not.1 g3)
          · exact scanF_file h f hf
theorem wrongSt_file {s : St} (h : wrongSt s = 0) : ∀ f ∈ s.fs, 0 ≤ f.n ∧ f.n ≤ 96 ∧ (f.b.length : Int) = countS f.n ∧ ∀ b ∈ f.b, -1 ≤ b ∧ b < s.count := by
  have h1 := wrongSt_few h
  unfold wrongSt at h
  rw [if_neg (by omega)] at h
  exact scanF_file h
theorem right_fsz {ps : List PF} {k : Int} (h : wrongSt (stOf ps k) = 0) : FsSz ps := by
  have h1 := wrongSt_few h
  have h2 : ps.length ≤ 5 := by simpa [stOf] using h1.1
  refine ⟨by omega, fun p hp => ?_⟩
  have h3 := wrongSt_file h p.fi (by simpa [stOf] using List.mem_map_of_mem hp)
  have h4 := countS_le h3.2.1
  have h5 : (p.l.length : Int) = countS p.n := h3.2.2.1
  have h6 : countS p.n ≤ 12 := h4
  omega
theorem right_blks {ps : List PF} {k : Int} (h : wrongSt (stOf ps k) = 0) : (pblks ps).length ≤ 60 := by
  have h1 := wrongSt_few h
  have h2 : ps.length ≤ 5 := by simpa [stOf] using h1.1
  have key : ∀ l : List PF, (∀ p ∈ l, p.l.length ≤ 12) → (pblks l).length ≤ 12 * l.length := by
    intro l
    induction l with
    | nil => intro _; simp [pblks]
    | cons x r ih =>
      intro hl
      have := ih fun p hp => hl p (List.mem_cons_of_mem _ hp)
      have h3 := hl x List.mem_cons_self
      unfold pblks at this ⊢
      rw [List.flatMap_cons, List.length_append, List.length_cons]
      omega
  have h3 := key ps fun p hp => by
    have h3 := wrongSt_file h p.fi (by simpa [stOf] using List.mem_map_of_mem hp)
    have h4 := countS_le h3.2.1
    have h5 : (p.l.length : Int) = countS p.n := h3.2.2.1
    have h6 : countS p.n ≤ 12 := h4
    omega
  omega
theorem abs_set2 {w : World} {b : Nat} {u v x y : Value} {T : TypeId} (m : World → Prop) (hb : Blk w b #[u, v] T) (h : ∀ W, w.grownBy W (some b) → Blk W b #[x, y] T → m W) : m ((w.setCell ⟨b, 0, none⟩ x).setCell ⟨b, 1, none⟩ y).drew := by
  have h1 := grownBy_setCells w b 0 [x, y]
  have h2 : Blk (w.setCells b 0 [x, y]) b (putAt #[u, v] 0 [x, y]) T := hb.setCells [x, y] 0
  exact h _ ⟨h1.os, h1.tape, h1.output, h1.size, h1.block⟩ h2
def pf0 : PF := ⟨0, none, [], 0⟩
theorem FsO.app0 {w w' : World} {B : Nat} {v v' : Value} {ps : List PF} (h : FsO w B v ps) (ho : Own w' B 61 2 v' (ps.length + 1) (ps.flatMap pfL ++ pfL pf0)) (hgr : w.grownBy w' v.ownBlock) : FsO w' B v' (ps ++ [pf0]) :=
  h.app ho (Own.nil _ _ _ _) hgr fun _ _ _ => Apart.nil'
theorem create_err {s : St} {e : Int} (h : createE s = e) (he : e ≠ 0) : createE s = e ∧ createN s = 0 ∧ createS s = zSt := by
  refine ⟨h, ?_, ?_⟩
  · unfold createN; rw [if_neg (by rw [h]; exact he)]
  · unfold createS; rw [if_neg (by rw [h]; exact he)]
set_option maxHeartbeats 4000000 in
set_option maxRecDepth 100000 in
theorem screate_any (ps : List PF) (k : Int) (a : Option Addr) (c : Nat) (w : World) (h : FsR w a c ps) (hk64 : -9223372036854775808 ≤ k ∧ k ≤ 9223372036854775807) :
    Calls Try.prog 33 #[.agg (stC a ps.length c k)] w fun r w' => ∃ v ps' k', r = .returned (.tuple #[.agg #[v, .int .i64 k'], .int .i64 (createN (stOf ps k)), .int .i64 (createE (stOf ps k))]) ∧ FsO w' w.heap.size v ps' ∧ stOf ps' k' = createS (stOf ps k) ∧ Below w.heap.size w w' := by
  have hlc := Nat.le_trans h.le h.mx
  unfold maxLen at hlc
  unfold stC
  go_enter Try.func33, Try.ntmps33
  go_upto_region 1 with (fail)
  refine abs2 (fun W => Code.wp _ _ _ _ W) fun W0 hb0 hx0 hr0 hs0 => ?_
  clear hs0
  go_wp2_with (refine wpList_ldg _ _ rfl _ 0 rfl rfl _ hx0.rd _ Try.underlying47 rfl store_size ?_)
  refine (swrong_any ps k a c _ (h.below hb0) hk64).mono ?_
  rintro r w1 ⟨rfl, hb1⟩
  have hbel := below_next hb0 hb1
  have hx := hx0.ext hb1
  have hres := hr0.ext hb1
  clear hb0 hx0 hr0 hb1
  by_cases h0 : wrongSt (stOf ps k) = 0
  · have H0 := Lib.hid h0
    rw [h0]
    clear h0
    have hcx := hx.cell
    by_cases h5 : ps.length = 5
    · have q0 : Hid _ := Lib.hid (create_err (s := stOf ps k) (e := 4) (by unfold createE; rw [if_neg (by rw [H0.out]; simp), if_pos (by simpa [stOf] using h5)]) (by decide))
      have h5' : ((ps.length : Int) == 5) = true := by rw [beq_iff_eq]; omega
      clear h5
      go_wp2_with (refine wpList_stw rfl _ _ _ rfl (w.heap.size + 1) #[.slice none 0 0, .int .i64 0] rfl rfl _ _ hres rfl store_size (sl_in none 0 0 0) ?_)
      all_goals
        intro w5 hr5 hgr5
        have hbel5 : Below w.heap.size w w5 := hbel.grown hgr5 hbel.size (fun k hk => by cases hk; omega)
        go_wp2
        refine bodyPost_ret (v := .tuple #[.agg #[.slice none 0 0, .int .i64 0], .int .i64 0, .int .i64 (4)]) (results_ctt Try.results33 _ _ (w.heap.size + 1) _ _ _ _ _ rfl rfl rfl hr5 Try.underlying47 rfl store_size) rfl ?_
        have q := q0.out
        exact ⟨_, _, _, by rw [q.1, q.2.1], FsO.nil _ _, by rw [q.2.2]; rfl, hbel5⟩
    · have h5' : ((ps.length : Int) == 5) = false := by rw [beq_eq_false_iff_ne]; omega
      have hE : Hid (createE (stOf ps k) = 0) := Lib.hid (by unfold createE; rw [if_neg (by rw [H0.out]; simp), if_neg (by simpa [stOf] using h5)])
      have hsz := right_fsz H0.out
      have hlp : ps.length ≤ 5 := by simpa [stOf] using (wrongSt_few H0.out).1
      clear h5
      go_wp2_with (refine wpList_ldg _ _ rfl _ 0 rfl rfl _ hx.rd _ Try.underlying47 rfl store_size ?_)
      refine (sown_any ps k a c _ (h.below hbel) hsz).mono ?_
      rintro r w2 ⟨v2, qs, rfl, hO2, hqs0, hb2⟩
      have hqs := Lib.hid hqs0
      have hql : qs.length ≤ 5 := by
        have := congrArg List.length hqs0
        simp at this
        omega
      have hbel2 := below_next hbel hb2
      have hx2 := hx.ext hb2
      have hres2 := hres.ext hb2
      have hO2' := hO2.mono hbel.size
      obtain ⟨av, cv, rfl, _⟩ := hO2.rd
      clear hqs0 hcx hbel hx hres hb2 hO2
      go_wp2_with (refine wpList_stn rfl _ _ _ rfl #[.slice av qs.length cv, .int .i64 k] rfl rfl rfl store_size (sl_in _ _ _ _) ?_)
      intro w3 hb3 ho3
      have hbel3 := below_next hbel2 hb3
      have hx3 := hx2.ext hb3
      have hres3 := hres2.ext hb3
      have hO3 := hO2'.below hb3
      have hgo : w.heap.size + 1 < w2.heap.size := hres2.lt
      clear hbel2 hx2 hres2 hO2' hb3
      have hco := ho3.cell
      go_upto_region 8 with (at_builtin; (refine wpList_app rfl (.tmp 21) (.tmp 23) 45 rfl w.heap.size 61 _ 2 32 Try.underlying45 file_info rfl (by decide) _ _ _ rfl (hO3.own.alloc _) (some ⟨w3.heap.size, 0, none⟩) 1 1 (pfL pf0) rfl (fun h => (by cases h)) (Nat.le_refl _) rfl (RdV.new w3 (pfC pf0) 61) (pfL_one _) (by unfold maxLen; omega) (by omega) (le_alloc' hbel3.size _) ?_))
      intro v4 w4 hv4 hgr4
      have hO4 : FsO w4 w.heap.size v4 (qs ++ [pf0]) := (hO3.below ((Below.refl _ _).alloc (Nat.le_refl _) _)).app0 hv4 hgr4
      have hx4 := blk_own (hx3.alloc _) (hO3.own.alloc _) (by decide) hgr4
      have hres4 := blk_own (hres3.alloc _) (hO3.own.alloc _) (by decide) hgr4
      have ho4 := blk_own (ho3.alloc _) (hO3.own.alloc _) (by decide) hgr4
      have hbel4 : Below w.heap.size w w4 := (hbel3.alloc hbel3.size _).grown hgr4 (le_alloc' hbel3.size _) (fun k hk => hO3.own.ge k hk)
      have hlen4 : (qs ++ [pf0]).length = qs.length + 1 := by simp
      have hO4a := hO4.own
      obtain ⟨a4, c4, rfl, _⟩ := hO4a.rd
      rw [hlen4] at hO4 ⊢
      clear hco hx3 hres3 hO3 ho3 hbel3 hv4 hgr4 hO4a hlen4
      go_upto_region 8 with (refine wpList_stv rfl _ _ _ rfl w2.heap.size 0 _ [.slice a4 (qs.length + 1) c4] rfl rfl rfl _ _ ho4 (show 0 + 1 ≤ 2 by decide) slfile_size (fun u hu => by cases List.mem_singleton.1 hu; rfl) ?_)
      intro w5 ho5 hgr5
      have hres5 : Blk w5 (w.heap.size + 1) _ _ := hres4.grown hgr5 (fun e => by have := Option.some.inj e; omega)
      have hx5 : Blk w5 w.heap.size _ _ := hx4.grown hgr5 (fun e => by have := Option.some.inj e; omega)
      have hO5 := hO4.keep ho4 (by decide) (by decide) hgr5
      have hbel5 := hbel4.grown hgr5 hbel4.size (fun k hk => by cases hk; omega)
      have ho5' : Blk w5 w2.heap.size #[.slice a4 (qs.length + 1) c4, .int .i64 k] 47 := ho5
      clear ho4 hres4 hx4 hO4 hbel4 hgr5 ho5
      have hco := ho5'.cell
      have hcx := hx5.cell
      have hcr := hres5.cell
      have hfr := hres5.free
      go_upto_region 8 with (fail)
      go_region
      refine abs_set2 (fun W => Exit.then _ _ _ _ W) hres5 fun w6 hgr6 hr6 => ?_
      have hO6 := hO5.keep hres5 (by decide) (by decide) hgr6
      have hbel6 := hbel5.grown hgr6 hbel5.size (fun k hk => by cases hk; omega)
      clear hco hcx hcr hfr
      go_wp2
      refine bodyPost_ret (v := .tuple #[.agg #[.slice a4 (qs.length + 1) c4, .int .i64 k], .int .i64 ps.length, .int .i64 0]) (results_ctt Try.results33 _ _ (w.heap.size + 1) _ _ _ _ _ rfl rfl rfl hr6 Try.underlying47 rfl store_size) rfl ?_
      have e1 : createN (stOf ps k) = ps.length := by unfold createN; rw [if_pos hE.out]; simp [stOf]
      have e2 : stOf (qs ++ [pf0]) k = createS (stOf ps k) := by unfold createS; rw [if_pos hE.out]; simp [stOf, hqs.out, pf0, PF.fi]
      exact ⟨_, _, _, by rw [e1, hE.out], hO6, e2, hbel6⟩
  · have q0 : Hid _ := Lib.hid (create_err (s := stOf ps k) (e := wrongSt (stOf ps k)) (by unfold createE; rw [if_pos h0]) h0)
    have h0' : (wrongSt (stOf ps k) != 0) = true := by simpa using h0
    clear h0
    go_wp2_with (refine wpList_stw rfl _ _ _ rfl (w.heap.size + 1) #[.slice none 0 0, .int .i64 0] rfl rfl _ _ hres rfl store_size (sl_in none 0 0 0) ?_)
    all_goals
      intro w5 hr5 hgr5
      have hbel5 : Below w.heap.size w w5 := hbel.grown hgr5 hbel.size (fun k hk => by cases hk; omega)
      go_wp2
      refine bodyPost_ret (v := .tuple #[.agg #[.slice none 0 0, .int .i64 0], .int .i64 0, .int .i64 (wrongSt (stOf ps k))]) (results_ctt Try.results33 _ _ (w.heap.size + 1) _ _ _ _ _ rfl rfl rfl hr5 Try.underlying47 rfl store_size) rfl ?_
      have q := q0.out
      exact ⟨_, _, _, by rw [q.1, q.2.1], FsO.nil _ _, by rw [q.2.2]; rfl, hbel5⟩
end Go.Proofs.Ytmdnmknmniabeaa
