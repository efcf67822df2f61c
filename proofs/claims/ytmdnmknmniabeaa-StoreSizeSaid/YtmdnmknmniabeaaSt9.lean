/- Package store's Block. -/
import Derived.Test.YtmdnmknmniabeaaSt8
namespace Go.Proofs.Ytmdnmknmniabeaa
open Go.RowKit Go.Maps Pw
set_option linter.unusedSimpArgs false
set_option linter.unusedVariables false

def fileAt (s : St) (k : Int) : Fi := if 0 ≤ k then s.fs.getD k.toNat ⟨0, []⟩ else ⟨0, []⟩
def withFile (s : St) (k : Int) (f : Fi) : St := ⟨s.fs.set k.toNat f, s.count⟩
def blockAt (s : St) (k i : Int) : Int := (fileAt s k).b.getD i.toNat 0
def blockE (s : St) (k i : Int) : Int :=
  if wrongSt s ≠ 0 then wrongSt s else if k < 0 ∨ (s.fs.length : Int) ≤ k then 5 else if i < 0 ∨ ((fileAt s k).b.length : Int) ≤ i then 9
  else if blockAt s k i < 0 ∧ freeSt s < 0 then 10 else 0
def blockN (s : St) (k i : Int) : Int := if blockE s k i ≠ 0 then 0 else if blockAt s k i < 0 then freeSt s else blockAt s k i
def blockS (s : St) (k i : Int) : St := if blockE s k i ≠ 0 then zSt else if blockAt s k i < 0 then withFile s k ⟨(fileAt s k).n, (fileAt s k).b.set i.toNat (freeSt s)⟩ else s
theorem block_err {s : St} {k i e : Int} (h : blockE s k i = e) (he : e ≠ 0) : blockE s k i = e ∧ blockN s k i = 0 ∧ blockS s k i = zSt := by
  refine ⟨h, ?_, ?_⟩
  · unfold blockN; rw [if_pos (by rw [h]; exact he)]
  · unfold blockS; rw [if_pos (by rw [h]; exact he)]
theorem freeSt_lt {s : St} (h : s.count ≤ 80) : freeSt s < 80 ∧ -1 ≤ freeSt s := by
  unfold freeSt
  cases hf : (List.range s.count.toNat).find? (fun b : Nat => !usedSt s b) with
  | none => simp
  | some b =>
    have := List.mem_range.1 (List.mem_of_find?_eq_some hf)
    simp
    omega
set_option maxHeartbeats 4000000 in
set_option maxRecDepth 100000 in
theorem sblock_any (ps : List PF) (k file index : Int) (a : Option Addr) (c : Nat) (w : World) (h : FsR w a c ps) (hk64 : -9223372036854775808 ≤ k ∧ k ≤ 9223372036854775807) :
    Calls Try.prog 37 #[.agg (stC a ps.length c k), .int .i64 file, .int .i64 index] w fun r w' => ∃ v ps' k', r = .returned (.tuple #[.agg #[v, .int .i64 k'], .int .i64 (blockN (stOf ps k) file index), .int .i64 (blockE (stOf ps k) file index)]) ∧ FsO w' w.heap.size v ps' ∧ stOf ps' k' = blockS (stOf ps k) file index ∧ Below w.heap.size w w' := by
  have hlc := Nat.le_trans h.le h.mx
  unfold maxLen at hlc
  unfold stC
  go_enter Try.func37, Try.ntmps37
  go_upto_region 1 with (fail)
  refine abs2 (fun W => Code.wp _ _ _ _ W) fun W0 hb0 hx0 hr0 hs0 => ?_
  clear hs0
  go_wp2_with (refine wpList_ldg _ _ rfl _ 0 rfl rfl _ hx0.rd _ Try.underlying47 rfl store_size ?_)
  refine (swrong_any ps k a c _ (h.below hb0) hk64).mono ?_
  rintro r w1 ⟨rfl, hb1⟩
  have hbel := below_next hb0 hb1
  have hx := hx0.ext hb1
  have hres := hr0.ext hb1
  clear hb0 hx0 hr0 hb1
  by_cases h0 : wrongSt (stOf ps k) = 0
  · have H0 := Lib.hid h0
    rw [h0]
    clear h0
    have hcx := hx.cell
    by_cases h5 : file < 0 ∨ (ps.length : Int) ≤ file
    · have q0 : Hid _ := Lib.hid (block_err (s := stOf ps k) (k := file) (i := index) (e := 5) (by unfold blockE; rw [if_neg (by rw [H0.out]; simp), if_pos (by simpa [stOf] using h5)]) (by decide))
      have h5' : file < 0 ∨ (¬ file < 0 ∧ (ps.length : Int) ≤ file) := by omega
      clear h5
      rcases h5' with g1 | ⟨g1, g2⟩
      · skip
        go_wp2_with (refine wpList_stw rfl _ _ _ rfl (w.heap.size + 1) #[.slice none 0 0, .int .i64 0] rfl rfl _ _ hres rfl store_size (sl_in none 0 0 0) ?_)
        all_goals
          intro w5 hr5 hgr5
          have hbel5 : Below w.heap.size w w5 := hbel.grown hgr5 hbel.size (fun k hk => by cases hk; omega)
          go_wp2
          refine bodyPost_ret (v := .tuple #[.agg #[.slice none 0 0, .int .i64 0], .int .i64 0, .int .i64 (5)]) (results_ctt Try.results37 _ _ (w.heap.size + 1) _ _ _ _ _ rfl rfl rfl hr5 Try.underlying47 rfl store_size) rfl ?_
          have q := q0.out
          exact ⟨_, _, _, by rw [q.1, q.2.1], FsO.nil _ _, by rw [q.2.2]; rfl, hbel5⟩
      · skip
        go_wp2_with (refine wpList_stw rfl _ _ _ rfl (w.heap.size + 1) #[.slice none 0 0, .int .i64 0] rfl rfl _ _ hres rfl store_size (sl_in none 0 0 0) ?_)
        all_goals
          intro w5 hr5 hgr5
          have hbel5 : Below w.heap.size w w5 := hbel.grown hgr5 hbel.size (fun k hk => by cases hk; omega)
          go_wp2
          refine bodyPost_ret (v := .tuple #[.agg #[.slice none 0 0, .int .i64 0], .int .i64 0, .int .i64 (5)]) (results_ctt Try.results37 _ _ (w.heap.size + 1) _ _ _ _ _ rfl rfl rfl hr5 Try.underlying47 rfl store_size) rfl ?_
          have q := q0.out
          exact ⟨_, _, _, by rw [q.1, q.2.1], FsO.nil _ _, by rw [q.2.2]; rfl, hbel5⟩
    · obtain ⟨F, rfl⟩ := Int.eq_ofNat_of_zero_le (show 0 ≤ file by omega)
      have hF : F < ps.length := by omega
      have hFi : (F : Int) < (ps.length : Int) := by omega
      obtain ⟨b, off, p, rfl, hp, c0, c1⟩ := pf_at (h.below hbel).rd F hF
      have hgw := h.good p (List.mem_of_getElem? hp)
      have hp' := Lib.hid hp
      have hfi : Hid (fileAt (stOf ps k) F = p.fi) := Lib.hid (by unfold fileAt stOf; rw [if_pos (by omega), Int.toNat_natCast, List.getD_eq_getElem?_getD, List.getElem?_map, hp]; rfl)
      have hnl : Hid (¬ ((F : Int) < 0 ∨ (((stOf ps k).fs.length : Nat) : Int) ≤ (F : Int))) := Lib.hid (by simpa [stOf] using hF)
      clear h5 hp
      by_cases h9 : index < 0 ∨ (p.l.length : Int) ≤ index
      · have q0 : Hid _ := Lib.hid (block_err (s := stOf ps k) (k := F) (i := index) (e := 9) (by unfold blockE; rw [if_neg (by rw [H0.out]; simp), if_neg hnl.out, if_pos (by rw [hfi.out]; exact h9)]) (by decide))
        have h9' : index < 0 ∨ (¬ index < 0 ∧ (p.l.length : Int) ≤ index) := by omega
        clear h9
        rcases h9' with g1 | ⟨g1, g2⟩
        · skip
          go_wp2_with (refine wpList_stw rfl _ _ _ rfl (w.heap.size + 1) #[.slice none 0 0, .int .i64 0] rfl rfl _ _ hres rfl store_size (sl_in none 0 0 0) ?_)
          all_goals
            intro w5 hr5 hgr5
            have hbel5 : Below w.heap.size w w5 := hbel.grown hgr5 hbel.size (fun k hk => by cases hk; omega)
            go_wp2
            refine bodyPost_ret (v := .tuple #[.agg #[.slice none 0 0, .int .i64 0], .int .i64 0, .int .i64 (9)]) (results_ctt Try.results37 _ _ (w.heap.size + 1) _ _ _ _ _ rfl rfl rfl hr5 Try.underlying47 rfl store_size) rfl ?_
            have q := q0.out
            exact ⟨_, _, _, by rw [q.1, q.2.1], FsO.nil _ _, by rw [q.2.2]; rfl, hbel5⟩
        · skip
          go_wp2_with (refine wpList_stw rfl _ _ _ rfl (w.heap.size + 1) #[.slice none 0 0, .int .i64 0] rfl rfl _ _ hres rfl store_size (sl_in none 0 0 0) ?_)
          all_goals
            intro w5 hr5 hgr5
            have hbel5 : Below w.heap.size w w5 := hbel.grown hgr5 hbel.size (fun k hk => by cases hk; omega)
            go_wp2
            refine bodyPost_ret (v := .tuple #[.agg #[.slice none 0 0, .int .i64 0], .int .i64 0, .int .i64 (9)]) (results_ctt Try.results37 _ _ (w.heap.size + 1) _ _ _ _ _ rfl rfl rfl hr5 Try.underlying47 rfl store_size) rfl ?_
            have q := q0.out
            exact ⟨_, _, _, by rw [q.1, q.2.1], FsO.nil _ _, by rw [q.2.2]; rfl, hbel5⟩
      · obtain ⟨I, rfl⟩ := Int.eq_ofNat_of_zero_le (show 0 ≤ index by omega)
        have hI : I < p.l.length := by omega
        have hIi : (I : Int) < (p.l.length : Int) := by omega
        have hil : Hid (¬ ((I : Int) < 0 ∨ (((fileAt (stOf ps k) F).b.length : Nat) : Int) ≤ (I : Int))) := Lib.hid (by rw [hfi.out]; exact h9)
        have hsz := right_fsz H0.out
        have hlp : ps.length ≤ 5 := by simpa [stOf] using (wrongSt_few H0.out).1
        have hk80 : k ≤ 80 := (wrongSt_few H0.out).2.2
        clear h9
        go_wp2_with (refine wpList_ldg _ _ rfl _ 0 rfl rfl _ hx.rd _ Try.underlying47 rfl store_size ?_)
        refine (sown_any ps k _ c _ (h.below hbel) hsz).mono ?_
        rintro r w2 ⟨v2, qs, rfl, hO2, hqs0, hb2⟩
        have hqs := Lib.hid hqs0
        have hql0 : qs.length = ps.length := by simpa using congrArg List.length hqs0
        have hqF : F < qs.length := by omega
        clear hql0
        obtain ⟨q, hq⟩ : ∃ q, qs[F]? = some q := ⟨qs[F]'hqF, List.getElem?_eq_getElem _⟩
        have hqp : q.fi = p.fi := by
          have h1 := congrArg (fun l => l[F]?) hqs0
          simp only [List.getElem?_map, hq, hp'.out, Option.map_some, Option.some.injEq] at h1
          exact h1
        have hqb := Lib.hid (show q.l = p.l from congrArg Fi.b hqp)
        have hqn := Lib.hid (show q.n = p.n from congrArg Fi.n hqp)
        have hIq0 : I < q.l.length := by rw [hqb.out]; exact hI
        have hbel2 := below_next hbel hb2
        have hx2 := hx.ext hb2
        have hres2 := hres.ext hb2
        have hO2' := hO2.mono hbel.size
        obtain ⟨av, cv, rfl, _⟩ := hO2.rd
        clear hqs0 hcx hbel hx hres hb2 hO2 c0 c1
        go_wp2_with (refine wpList_stn rfl _ _ _ rfl #[.slice av qs.length cv, .int .i64 k] rfl rfl rfl store_size (sl_in _ _ _ _) ?_)
        intro w3 hb3 ho3
        have hbel3 := below_next hbel2 hb3
        have hx3 := hx2.ext hb3
        have hres3 := hres2.ext hb3
        have hO3 := hO2'.below hb3
        have hgo : w.heap.size + 1 < w2.heap.size := hres2.lt
        obtain ⟨gg, hGG⟩ : ∃ g, g = w2.heap.size := ⟨_, rfl⟩
        rw [← hGG] at ho3 hgo ⊢
        clear hGG hbel2 hx2 hres2 hO2' hb3
        obtain ⟨g, off9, cap, cur, hv, hBg, hblk, hfit, e0, e1, _, _⟩ := hO3.file hq
        obtain ⟨g2, off2, cap2, cur2, hqa, hqc, hB2, hblk2, hfit2, hset2⟩ := hO3.num hq (i := I) hIq0
        simp only [Value.slice.injEq] at hv
        obtain ⟨rfl, _, rfl⟩ := hv
        have hFq : (F : Int) < (qs.length : Int) := by omega
        have hIq : (I : Int) < (q.l.length : Int) := by omega
        rw [hqa] at e1
        have hco := ho3.cell
        have hcf := hblk.cell
        have hc2 : w3.cell? ⟨g2, off2 + I, none⟩ = some (.int .i64 q.l[I]) := by
          obtain ⟨_, _, e2, hc⟩ := elem_at ((hO3.rd).elim fun _ hx => hx.elim fun _ hy => (hy.2.good q (List.mem_of_getElem? hq)).rd) I hIq0
          rw [hqa] at e2
          cases e2
          exact hc
        have hba : Hid (blockAt (stOf ps k) F I = q.l[I]) := Lib.hid (by
          unfold blockAt
          rw [hfi.out, Int.toNat_natCast]
          show p.l.getD I 0 = _
          rw [List.getD_eq_getElem?_getD, ← hqb.out, List.getElem?_eq_getElem hIq0]
          rfl)
        generalize hB0 : q.l[I] = B0 at hc2 hba
        clear hB0 hqp
        go_upto_region 10 with (fail)
        by_cases hneg : B0 < 0
        · have hx3' := hx3
          clear hcf hc2 hblk e0 e1
          go_wp2_with fail
          refine (sfree_any ps k _ c w.heap.size _ (h.below hbel3) hx3' hk80).mono ?_
          rintro r w4 ⟨rfl, hb4⟩
          have hfl := freeSt_lt (s := stOf ps k) hk80
          have hbel4 := below_next hbel3 hb4
          have hres4 := hres3.ext hb4
          have ho4 := ho3.ext hb4
          have hO4 := hO3.below hb4
          clear hx3' hbel3 hres3 ho3 hO3 hb4 hco hset2 hblk2 hx3
          have hbE : Hid (blockE (stOf ps k) F I = if freeSt (stOf ps k) < 0 then 10 else 0) := Lib.hid (by
            unfold blockE; rw [if_neg (by rw [H0.out]; simp), if_neg hnl.out, if_neg hil.out, hba.out]
            by_cases z : freeSt (stOf ps k) < 0
            · rw [if_pos ⟨hneg, z⟩, if_pos z]
            · rw [if_neg (fun hh => z hh.2), if_neg z])
          generalize hX : freeSt (stOf ps k) = X at hbE hfl
          have hX' := Lib.hid hX
          clear hX
          by_cases hX0 : X < 0
          · have q0 : Hid _ := Lib.hid (block_err (s := stOf ps k) (k := F) (i := I) (e := 10) (by rw [hbE.out, if_pos hX0]) (by decide))
            have hbel := hbel4
            have hres := hres4
            clear hbel4 hres4 ho4 hO4
            go_wp2_with (refine wpList_stw rfl _ _ _ rfl (w.heap.size + 1) #[.slice none 0 0, .int .i64 0] rfl rfl _ _ hres rfl store_size (sl_in none 0 0 0) ?_)
            all_goals
              intro w5 hr5 hgr5
              have hbel5 : Below w.heap.size w w5 := hbel.grown hgr5 hbel.size (fun k hk => by cases hk; omega)
              go_wp2
              refine bodyPost_ret (v := .tuple #[.agg #[.slice none 0 0, .int .i64 0], .int .i64 0, .int .i64 (10)]) (results_ctt Try.results37 _ _ (w.heap.size + 1) _ _ _ _ _ rfl rfl rfl hr5 Try.underlying47 rfl store_size) rfl ?_
              have q := q0.out
              exact ⟨_, _, _, by rw [q.1, q.2.1], FsO.nil _ _, by rw [q.2.2]; rfl, hbel5⟩
          · have hz : Hid (blockE (stOf ps k) F I = 0) := Lib.hid (by rw [hbE.out, if_neg hX0])
            have hfin : Hid (blockN (stOf ps k) F I = X ∧ blockE (stOf ps k) F I = 0 ∧ stOf (qs.set F ⟨q.n, q.a, q.l.set I X, q.c⟩) k = blockS (stOf ps k) F I) := Lib.hid (by
              refine ⟨?_, hz.out, ?_⟩
              · unfold blockN; rw [if_neg (by rw [hz.out]; simp), hba.out, if_pos hneg, hX'.out]
              · unfold blockS; rw [if_neg (by rw [hz.out]; simp), hba.out, if_pos hneg, hX'.out, hfi.out]
                unfold withFile stOf
                rw [Int.toNat_natCast, Int.toNat_natCast, List.map_set, hqs.out]
                unfold PF.fi
                rw [hqb.out, hqn.out])
            obtain ⟨g3, off3, cap3, cur3, hv3, hBg3, hblk3, _, e03, e13, _, _⟩ := hO4.file hq
            obtain ⟨g4, off4, cap4, cur4, hqa4, hqc4, hB4, hblk4, hfit4, hset4⟩ := hO4.num hq (i := I) hIq0
            simp only [Value.slice.injEq] at hv3
            obtain ⟨e31, _, e33⟩ := hv3
            cases e31
            subst e33
            rw [hqa4] at e13
            have hco := ho4.cell
            have hcf := hblk3.cell
            have hg2 : gg ≠ g4 := fun e => by
              subst e
              unfold Blk at ho4 hblk4
              rw [ho4] at hblk4
              simp at hblk4
            go_wp2_with (refine wpList_stv rfl _ _ _ rfl g4 (off4 + I) _ [.int .i64 X] rfl rfl rfl _ _ hblk4 hfit4 int_size (one_int _ _) ?_)
            intro w5 hb5 hgr5
            have hO9 := hset4 w5 X hb5 hgr5
            have hg9 := blk_keep ho4 hblk4 (by decide) hgr5
            have hr9 := blk_keep hres4 hblk4 (by decide) hgr5
            have hbel9 := hbel4.grown hgr5 hbel4.size (fun k hk => by cases hk; exact hB4)
            clear ho4 hres4 hO4 hbel4 hblk3 hblk4 hset4 hco hcf e03 e13 hb5 hgr5
            have hcg := hg9.cell
            go_wp2_with (first | (refine wpList_ldg _ _ rfl _ 0 rfl rfl _ hg9.rd _ Try.underlying47 rfl store_size ?_) | (refine wpList_stw rfl _ _ _ rfl (w.heap.size + 1) _ rfl rfl _ _ hr9 rfl store_size (sl_in _ _ _ _) ?_))
            intro wf hrf hgrf
            have hOf := hO9.keep hr9 (by decide) (by decide) hgrf
            have hbelf := hbel9.grown hgrf hbel9.size (fun k hk => by cases hk; omega)
            go_wp2
            refine bodyPost_ret (v := .tuple #[.agg #[.slice _ _ _, .int .i64 k], .int .i64 (X), .int .i64 0]) (results_ctt Try.results37 _ _ (w.heap.size + 1) _ _ _ _ _ rfl rfl rfl hrf Try.underlying47 rfl store_size) rfl ?_
            exact ⟨_, _, _, by rw [hfin.out.1, hfin.out.2.1], hOf, hfin.out.2.2, hbelf⟩
        · have hfin : Hid (blockN (stOf ps k) F I = B0 ∧ blockE (stOf ps k) F I = 0 ∧ stOf qs k = blockS (stOf ps k) F I) := Lib.hid (by
            have z : blockE (stOf ps k) F I = 0 := by unfold blockE; rw [if_neg (by rw [H0.out]; simp), if_neg hnl.out, if_neg hil.out, if_neg (by rw [hba.out]; omega)]
            refine ⟨?_, z, ?_⟩
            · unfold blockN; rw [if_neg (by rw [z]; simp), hba.out, if_neg hneg]
            · unfold blockS; rw [if_neg (by rw [z]; simp), hba.out, if_neg hneg]; unfold stOf; rw [hqs.out])
          have hg9 := ho3
          have hr9 := hres3
          have hO9 := hO3
          have hbel9 := hbel3
          clear ho3 hres3 hO3 hbel3 hblk hblk2 hset2 hco hcf hc2 e0 e1
          have hcg := hg9.cell
          go_wp2_with (first | (refine wpList_ldg _ _ rfl _ 0 rfl rfl _ hg9.rd _ Try.underlying47 rfl store_size ?_) | (refine wpList_stw rfl _ _ _ rfl (w.heap.size + 1) _ rfl rfl _ _ hr9 rfl store_size (sl_in _ _ _ _) ?_))
          intro wf hrf hgrf
          have hOf := hO9.keep hr9 (by decide) (by decide) hgrf
          have hbelf := hbel9.grown hgrf hbel9.size (fun k hk => by cases hk; omega)
          go_wp2
          refine bodyPost_ret (v := .tuple #[.agg #[.slice _ _ _, .int .i64 k], .int .i64 (B0), .int .i64 0]) (results_ctt Try.results37 _ _ (w.heap.size + 1) _ _ _ _ _ rfl rfl rfl hrf Try.underlying47 rfl store_size) rfl ?_
          exact ⟨_, _, _, by rw [hfin.out.1, hfin.out.2.1], hOf, hfin.out.2.2, hbelf⟩
  · have q0 : Hid _ := Lib.hid (block_err (s := stOf ps k) (k := file) (i := index) (e := wrongSt (stOf ps k)) (by unfold blockE; rw [if_pos h0]) h0)
    have h0' : (wrongSt (stOf ps k) != 0) = true := by simpa using h0
    clear h0
    go_wp2_with (refine wpList_stw rfl _ _ _ rfl (w.heap.size + 1) #[.slice none 0 0, .int .i64 0] rfl rfl _ _ hres rfl store_size (sl_in none 0 0 0) ?_)
    all_goals
      intro w5 hr5 hgr5
      have hbel5 : Below w.heap.size w w5 := hbel.grown hgr5 hbel.size (fun k hk => by cases hk; omega)
      go_wp2
      refine bodyPost_ret (v := .tuple #[.agg #[.slice none 0 0, .int .i64 0], .int .i64 0, .int .i64 (wrongSt (stOf ps k))]) (results_ctt Try.results37 _ _ (w.heap.size + 1) _ _ _ _ _ rfl rfl rfl hr5 Try.underlying47 rfl store_size) rfl ?_
      have q := q0.out
      exact ⟨_, _, _, by rw [q.1, q.2.1], FsO.nil _ _, by rw [q.2.2]; rfl, hbel5⟩
end Go.Proofs.Ytmdnmknmniabeaa
