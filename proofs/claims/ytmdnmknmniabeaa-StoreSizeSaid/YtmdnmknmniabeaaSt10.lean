/- Package store's Size. -/
import Derived.Test.YtmdnmknmniabeaaSt9
import Derived.BigRegion
import Derived.Deep.LoopGhost
namespace Go.Proofs.Ytmdnmknmniabeaa
open Go.RowKit Go.Maps Pw
set_option linter.unusedSimpArgs false
set_option linter.unusedVariables false
set_option linter.unnecessarySimpa false

def resized (b : List Int) (kk : Nat) : List Int := b.take kk ++ List.replicate (kk - b.length) (-1)
theorem resized_len (b : List Int) (kk : Nat) : (resized b kk).length = kk := by unfold resized; simp; omega
def sizeE (s : St) (k n : Int) : Int :=
  if wrongSt s ≠ 0 then wrongSt s else if k < 0 ∨ (s.fs.length : Int) ≤ k then 5 else if n < 0 ∨ 96 < n then 3 else 0
def sizeS (s : St) (k n : Int) : St := if sizeE s k n ≠ 0 then zSt else withFile s k ⟨n, resized (fileAt s k).b (countS n).toNat⟩
theorem size_err {s : St} {k n e : Int} (h : sizeE s k n = e) (he : e ≠ 0) : sizeE s k n = e ∧ sizeS s k n = zSt := by
  refine ⟨h, ?_⟩
  unfold sizeS; rw [if_pos (by rw [h]; exact he)]
theorem Own.take1 {w : World} {B : Nat} {e : TypeId} {a : Option Addr} {n c m : Nat} {xs : List Value} (h : Own w B e 1 (.slice a n c) n xs) (hm : m ≤ n) : Own w B e 1 (.slice a m c) m (xs.take m) := by
  obtain ⟨hl, h⟩ := h
  refine ⟨by simp [hl]; omega, ?_⟩
  rcases h with ⟨h1, h2⟩ | ⟨g, off, cap, cur, hv, hB, hg, hc, hmx, hs, ht⟩
  · cases h1
    obtain rfl : m = 0 := by omega
    exact .inl ⟨rfl, rfl⟩
  · cases hv
    refine .inr ⟨g, off, c, cur, rfl, hB, hg, by omega, hmx, hs, fun j u hj => ht j u ?_⟩
    rw [List.getElem?_take] at hj
    split at hj
    · exact hj
    · cases hj
/-- File k's blocks have grown; where they lie now is still to be written. -/
theorem FsO.grow {w w1 : World} {B : Nat} {v : Value} {ps : List PF} (h : FsO w B v ps) {k : Nat} {p : PF} (hp : ps[k]? = some p) {a' : Option Addr} {l' : List Int} {c' : Nat} (ho' : Own w1 B 3 1 (.slice a' l'.length c') l'.length (l'.map inV))
    (hgr1 : w.grownBy w1 (pfV p).ownBlock) (hsn : SameOrNew w (pfV p) (.slice a' l'.length c')) :
    ∃ g off cap cur, v = .slice (some ⟨g, off, none⟩) ps.length cap ∧ B ≤ g ∧ Blk w1 g cur 61 ∧ off + k * 2 + 2 ≤ cur.size ∧ cur[off + k * 2]? = some (.int .i64 p.n) ∧ cur[off + k * 2 + 1]? = some (.slice p.a p.l.length p.c) ∧
      ∀ w', Blk w' g (cur.setIfInBounds (off + k * 2 + 1) (.slice a' l'.length c')) 61 → w1.grownBy w' (some g) → FsO w' B v (ps.set k ⟨p.n, a', l', c'⟩) := by
  have hk := (List.getElem?_eq_some_iff.1 hp).1
  have hpe := (List.getElem?_eq_some_iff.1 hp).2
  have hown1 : Own w1 B 61 2 v ps.length (ps.flatMap pfL) := own_own h.own (h.each k p hp) (by decide) hgr1
  obtain ⟨g, off, cap, cur, hv, hB, hblk, hfit, hset⟩ := own_putn pfL_len (by decide) rfl hown1 k hk
  have hcells : ∀ j u, (ps.flatMap pfL)[j]? = some u → cur[off + j]? = some u := by
    rcases hown1.2 with ⟨h1, h2⟩ | ⟨g', off', cap', cur', hv', hB', hblk', _, _, _, hc⟩
    · omega
    · rw [hv] at hv'
      cases hv'
      have : cur = cur' := by
        unfold Blk at hblk hblk'
        rw [hblk] at hblk'
        simpa using hblk'
      subst this
      exact hc
  have c0 : cur[off + k * 2]? = some (.int .i64 p.n) := by
    have := hcells (k * 2) (.int .i64 p.n) (by
      have := flat_get pfL 2 pfL_len ps k hk 0 (.int .i64 p.n) (by rw [hpe]; rfl)
      simpa using this)
    exact this
  have c1 : cur[off + k * 2 + 1]? = some (.slice p.a p.l.length p.c) := by
    have := hcells (k * 2 + 1) (.slice p.a p.l.length p.c) (flat_get pfL 2 pfL_len ps k hk 1 _ (by rw [hpe]; rfl))
    simpa [Nat.add_assoc] using this
  have hap : ∀ (j : Nat) q, j ≠ k → ps[j]? = some q → Apart (pfV p) (pfV q) := fun j q hj hq => by
    rcases Nat.lt_or_gt_of_ne hj with h1 | h1
    · exact (h.apart j k q p h1 hq hp).symm
    · exact h.apart k j p q h1 hp hq
  refine ⟨g, off, cap, cur, hv, hB, hblk, hfit, c0, c1, fun w' hb hgr => ?_⟩
  refine h.set hk (hset w' ⟨p.n, a', l', c'⟩ ?_) (own_keep ho' hblk (by decide) hgr) (fun j q hj hq => own_keep ((h.each j q hq).apart (hap j q hj hq) hgr1) hblk (by decide) hgr) (fun j q hj hq => (hap j q hj hq).grown (h.each j q hq) hsn)
  rw [show pfL ⟨p.n, a', l', c'⟩ = [.int .i64 p.n, .slice a' l'.length c'] from rfl, set_two _ _ _ _ c0]
  exact hb
theorem slint_size : (Try.prog.info? 36).map (·.size) = some 1 := by kernel_rfl
theorem abs_set1 {w : World} {b o : Nat} {v : Value} {cur : Array Value} {T : TypeId} (m : World → Prop) (hb : Blk w b cur T) (h : ∀ W, w.grownBy W (some b) → Blk W b (cur.setIfInBounds o v) T → m W) : m (w.setCell ⟨b, o, none⟩ v).drew := by
  have h1 := grownBy_setCells w b o [v]
  have h2 : Blk (w.setCells b o [v]) b (putAt cur o [v]) T := hb.setCells [v] o
  exact h _ ⟨h1.os, h1.tape, h1.output, h1.size, h1.block⟩ h2
set_option maxHeartbeats 4000000 in
set_option maxRecDepth 100000 in
theorem ssize_any (ps : List PF) (k file n : Int) (a : Option Addr) (c : Nat) (w : World) (h : FsR w a c ps) (hk64 : -9223372036854775808 ≤ k ∧ k ≤ 9223372036854775807) :
    Calls Try.prog 35 #[.agg (stC a ps.length c k), .int .i64 file, .int .i64 n] w fun r w' => ∃ v ps' k', r = .returned (.tuple #[.agg #[v, .int .i64 k'], .int .i64 (sizeE (stOf ps k) file n)]) ∧ FsO w' w.heap.size v ps' ∧ stOf ps' k' = sizeS (stOf ps k) file n ∧ Below w.heap.size w w' := by
  have hlc := Nat.le_trans h.le h.mx
  unfold maxLen at hlc
  unfold stC
  go_enter Try.func35, Try.ntmps35
  go_upto_region 1 with (fail)
  refine abs2 (fun W => Code.wp _ _ _ _ W) fun W0 hb0 hx0 hr0 hs0 => ?_
  clear hs0
  go_wp2_with (refine wpList_ldg _ _ rfl _ 0 rfl rfl _ hx0.rd _ Try.underlying47 rfl store_size ?_)
  refine (swrong_any ps k a c _ (h.below hb0) hk64).mono ?_
  rintro r w1 ⟨rfl, hb1⟩
  have hbel := below_next hb0 hb1
  have hx := hx0.ext hb1
  have hres := hr0.ext hb1
  clear hb0 hx0 hr0 hb1
  by_cases h0 : wrongSt (stOf ps k) = 0
  · have H0 := Lib.hid h0
    rw [h0]
    clear h0
    have hcx := hx.cell
    by_cases h5 : file < 0 ∨ (ps.length : Int) ≤ file
    · have q0 : Hid _ := Lib.hid (size_err (s := stOf ps k) (k := file) (n := n) (e := 5) (by unfold sizeE; rw [if_neg (by rw [H0.out]; simp), if_pos (by simpa [stOf] using h5)]) (by decide))
      have h5' : file < 0 ∨ (¬ file < 0 ∧ (ps.length : Int) ≤ file) := by omega
      clear h5
      rcases h5' with g1 | ⟨g1, g2⟩
      · skip
        go_wp2_with (refine wpList_stw rfl _ _ _ rfl (w.heap.size + 1) #[.slice none 0 0, .int .i64 0] rfl rfl _ _ hres rfl store_size (sl_in none 0 0 0) ?_)
        all_goals
          intro w5 hr5 hgr5
          have hbel5 : Below w.heap.size w w5 := hbel.grown hgr5 hbel.size (fun k hk => by cases hk; omega)
          go_wp2
          refine bodyPost_ret (v := .tuple #[.agg #[.slice none 0 0, .int .i64 0], .int .i64 (5)]) (results_ct Try.results35 _ _ (w.heap.size + 1) _ _ _ _ rfl rfl hr5 Try.underlying47 rfl store_size) rfl ?_
          have q := q0.out
          exact ⟨_, _, _, by rw [q.1], FsO.nil _ _, by rw [q.2]; rfl, hbel5⟩
      · skip
        go_wp2_with (refine wpList_stw rfl _ _ _ rfl (w.heap.size + 1) #[.slice none 0 0, .int .i64 0] rfl rfl _ _ hres rfl store_size (sl_in none 0 0 0) ?_)
        all_goals
          intro w5 hr5 hgr5
          have hbel5 : Below w.heap.size w w5 := hbel.grown hgr5 hbel.size (fun k hk => by cases hk; omega)
          go_wp2
          refine bodyPost_ret (v := .tuple #[.agg #[.slice none 0 0, .int .i64 0], .int .i64 (5)]) (results_ct Try.results35 _ _ (w.heap.size + 1) _ _ _ _ rfl rfl hr5 Try.underlying47 rfl store_size) rfl ?_
          have q := q0.out
          exact ⟨_, _, _, by rw [q.1], FsO.nil _ _, by rw [q.2]; rfl, hbel5⟩
    · obtain ⟨F, rfl⟩ := Int.eq_ofNat_of_zero_le (show 0 ≤ file by omega)
      have hF : F < ps.length := by omega
      have hFi : (F : Int) < (ps.length : Int) := by omega
      have hnl : Hid (¬ ((F : Int) < 0 ∨ (((stOf ps k).fs.length : Nat) : Int) ≤ (F : Int))) := Lib.hid (by simpa [stOf] using hF)
      clear h5
      by_cases h9 : n < 0 ∨ 96 < n
      · have q0 : Hid _ := Lib.hid (size_err (s := stOf ps k) (k := F) (n := n) (e := 3) (by unfold sizeE; rw [if_neg (by rw [H0.out]; simp), if_neg hnl.out, if_pos h9]) (by decide))
        have h9' : n < 0 ∨ (¬ n < 0 ∧ 96 < n) := by omega
        clear h9
        rcases h9' with g1 | ⟨g1, g2⟩
        · skip
          go_wp2_with (refine wpList_stw rfl _ _ _ rfl (w.heap.size + 1) #[.slice none 0 0, .int .i64 0] rfl rfl _ _ hres rfl store_size (sl_in none 0 0 0) ?_)
          all_goals
            intro w5 hr5 hgr5
            have hbel5 : Below w.heap.size w w5 := hbel.grown hgr5 hbel.size (fun k hk => by cases hk; omega)
            go_wp2
            refine bodyPost_ret (v := .tuple #[.agg #[.slice none 0 0, .int .i64 0], .int .i64 (3)]) (results_ct Try.results35 _ _ (w.heap.size + 1) _ _ _ _ rfl rfl hr5 Try.underlying47 rfl store_size) rfl ?_
            have q := q0.out
            exact ⟨_, _, _, by rw [q.1], FsO.nil _ _, by rw [q.2]; rfl, hbel5⟩
        · skip
          go_wp2_with (refine wpList_stw rfl _ _ _ rfl (w.heap.size + 1) #[.slice none 0 0, .int .i64 0] rfl rfl _ _ hres rfl store_size (sl_in none 0 0 0) ?_)
          all_goals
            intro w5 hr5 hgr5
            have hbel5 : Below w.heap.size w w5 := hbel.grown hgr5 hbel.size (fun k hk => by cases hk; omega)
            go_wp2
            refine bodyPost_ret (v := .tuple #[.agg #[.slice none 0 0, .int .i64 0], .int .i64 (3)]) (results_ct Try.results35 _ _ (w.heap.size + 1) _ _ _ _ rfl rfl hr5 Try.underlying47 rfl store_size) rfl ?_
            have q := q0.out
            exact ⟨_, _, _, by rw [q.1], FsO.nil _ _, by rw [q.2]; rfl, hbel5⟩
      · have hz : Hid (sizeE (stOf ps k) F n = 0) := Lib.hid (by unfold sizeE; rw [if_neg (by rw [H0.out]; simp), if_neg hnl.out, if_neg h9])
        have g1 : ¬ n < 0 := by omega
        have g2 : ¬ 96 < n := by omega
        have hp : ps[F]? = some ps[F] := List.getElem?_eq_getElem hF
        have hfi : Hid (fileAt (stOf ps k) F = ps[F].fi) := Lib.hid (by unfold fileAt stOf; rw [if_pos (by omega), Int.toNat_natCast, List.getD_eq_getElem?_getD, List.getElem?_map, hp]; rfl)
        have hsz := right_fsz H0.out
        have hlp : ps.length ≤ 5 := by simpa [stOf] using (wrongSt_few H0.out).1
        clear h9
        go_wp2_with (refine wpList_ldg _ _ rfl _ 0 rfl rfl _ hx.rd _ Try.underlying47 rfl store_size ?_)
        refine (sown_any ps k _ c _ (h.below hbel) hsz).mono ?_
        rintro r w2 ⟨v2, qs, rfl, hO2, hqs0, hb2⟩
        have hqs := Lib.hid hqs0
        have hql0 : qs.length = ps.length := by simpa using congrArg List.length hqs0
        have hqF : F < qs.length := by omega
        have hqF' : (F : Int) < (qs.length : Int) := by omega
        have hq5 : qs.length ≤ 5 := by omega
        clear hql0
        obtain ⟨q, hq⟩ : ∃ q, qs[F]? = some q := ⟨qs[F]'hqF, List.getElem?_eq_getElem _⟩
        have hqp : q.fi = ps[F].fi := by
          have h1 := congrArg (fun l => l[F]?) hqs0
          simp only [List.getElem?_map, hq, hp, Option.map_some, Option.some.injEq] at h1
          exact h1
        have hfq : Hid (fileAt (stOf ps k) F = q.fi) := Lib.hid (by rw [hfi.out, hqp])
        have hq12 : q.l.length ≤ 12 := by
          have h3 := wrongSt_file H0.out ps[F].fi (by simpa [stOf] using List.mem_map_of_mem (List.getElem_mem hF))
          rw [← hqp] at h3
          have h4 := countS_le h3.2.1
          have h5 : (q.l.length : Int) = countS q.n := h3.2.2.1
          have h6 : countS q.n ≤ 12 := h4
          omega
        have hbel2 := below_next hbel hb2
        have hres2 := hres.ext hb2
        have hO2' := hO2.mono hbel.size
        obtain ⟨av, cv, rfl, _⟩ := hO2.rd
        clear hqs0 hqp hcx hbel hx hres hb2 hO2 hp hfi
        go_wp2_with (refine wpList_stn rfl _ _ _ rfl #[.slice av qs.length cv, .int .i64 k] rfl rfl rfl store_size (sl_in _ _ _ _) ?_)
        intro w3 hb3 ho3
        have hbel3 := below_next hbel2 hb3
        have hres3 := hres2.ext hb3
        have hO3 := hO2'.below hb3
        have hgo : w.heap.size + 1 < w2.heap.size := hres2.lt
        obtain ⟨gd, hGG⟩ : ∃ g, g = w2.heap.size := ⟨_, rfl⟩
        rw [← hGG] at ho3 hgo ⊢
        clear hGG hbel2 hres2 hO2' hb3
        obtain ⟨g, off9, cap, cur, hv, hBg, hblk, hfit, e0, e1, hsetn, _⟩ := hO3.file hq
        simp only [Value.slice.injEq] at hv
        obtain ⟨rfl, hle9, rfl⟩ := hv
        clear hle9
        have hgne : gd ≠ g := fun e => by
          subst e
          unfold Blk at ho3 hblk
          rw [ho3] at hblk
          simp at hblk
        have hco := ho3.cell
        go_wp2_with (refine wpList_stv rfl _ _ _ rfl g (off9 + F * 2) _ [.int .i64 n] rfl rfl rfl _ _ hblk (by simp; omega) int_size (one_int _ _) ?_)
        intro w4 hb4 hgr4
        have hO4 := hsetn w4 n hb4 hgr4
        have ho4 := ho3.grown hgr4 (fun e => hgne (Option.some.inj e).symm)
        have hres4 := blk_keep hres3 hblk (by decide) hgr4
        have hbel4 := hbel3.grown hgr4 hbel3.size (fun k hk => by cases hk; exact hBg)
        have hq4 : (qs.set F ⟨n, q.a, q.l, q.c⟩)[F]? = some ⟨n, q.a, q.l, q.c⟩ := by rw [List.getElem?_set_self hqF]
        have hl4 : (qs.set F ⟨n, q.a, q.l, q.c⟩).length = qs.length := List.length_set
        clear hco ho3 hres3 hO3 hbel3 hblk hfit e0 e1 hsetn hb4 hgr4
        have hKc := countS_le (n := n) (by omega)
        have hKn := countS_nn n
        go_wp2_with fail
        refine (count_any n _ (by omega)).mono ?_
        rintro r w5 ⟨rfl, rfl⟩
        obtain ⟨K, hK⟩ : ∃ K : Nat, countS n = (K : Int) := ⟨(countS n).toNat, by omega⟩
        have hK12 : K ≤ 12 := by omega
        have hKh := Lib.hid hK
        rw [hK]
        clear hK hKc hKn
        go_upto_region 12 with (fail)
        obtain ⟨g', off', cap', cur', hv', hBg', hblk, hfit, e0, e1, _, hsetb⟩ := hO4.file hq4
        simp only [Value.slice.injEq, Option.some.injEq, Addr.mk.injEq, and_true] at hv'
        obtain ⟨⟨rfl, rfl⟩, hle9, rfl⟩ := hv'
        clear hle9
        have hownq := hO4.each F _ hq4
        have hcf := hblk.cell
        have hff := hblk.free
        have hqcap : q.l.length ≤ q.c := by
          obtain ⟨_, _, e, h1, _⟩ := hownq.rd
          unfold pfV at e
          simp only [Value.slice.injEq] at e
          obtain ⟨_, _, rfl⟩ := e
          exact h1
        have hqnil : q.a = none → q.c = 0 := by
          obtain ⟨_, _, e, _, _, h1, _⟩ := hownq.rd
          unfold pfV at e
          simp only [Value.slice.injEq] at e
          obtain ⟨rfl, _, rfl⟩ := e
          exact h1
        obtain ⟨qn, qa, ql, qc⟩ := q
        simp only at e1 hq12 hqcap hqnil hownq hsetb
        cases qa with
        | none =>
          obtain rfl : qc = 0 := hqnil rfl
          obtain rfl : ql = [] := List.eq_nil_of_length_eq_zero (by omega)
          simp only [List.length_nil] at e1
          by_cases hK0 : 0 < K
          · go_region
            refine abs_set1 (fun W => Exit.then _ _ _ _ W) hblk fun w6 hgr6 hb6 => ?_
            have hMl := Lib.hid (show ((([] : List Int)).take (0)).length = 0 by rw [List.length_take]; omega)
            have hO6 : FsO w6 w.heap.size (.slice (some ⟨g, off9, none⟩) qs.length cv) ((qs.set F ⟨n, none, ([] : List Int), 0⟩).set F ⟨n, none, (([] : List Int)).take (0), 0⟩) := hsetb w6 (none) ((([] : List Int)).take (0)) 0 (by rw [hMl.out]; exact hb6) hgr6 (by
              have h9 := Own.take1 (m := 0) hownq (by show _ ≤ (([] : List Int)).length; omega)
              rw [hMl.out, List.map_take]
              exact h9) (fun j r hj hr => by
              have hpp : Apart (pfV ⟨n, none, ([] : List Int), 0⟩) (pfV r) := by
                rcases Nat.lt_or_gt_of_ne hj with h1 | h1
                · exact (hO4.apart j F r _ h1 hr hq4).symm
                · exact hO4.apart F j _ r h1 hq4 hr
              intro g' hg' hr'
              exact hpp g' (by simpa [pfV, Value.ownBlock] using hg') hr')
            have hqs6 : Hid (((qs.set F ⟨n, none, ([] : List Int), 0⟩).set F ⟨n, none, (([] : List Int)).take (0), 0⟩).map PF.fi = (qs.map PF.fi).set F ⟨n, (([] : List Int)).take (0) ++ List.replicate 0 (-1)⟩) := Lib.hid (by rw [List.map_set, List.map_set, List.set_set]; simp [PF.fi])
            have hf6 : Hid (((qs.set F ⟨n, none, ([] : List Int), 0⟩).set F ⟨n, none, (([] : List Int)).take (0), 0⟩)[F]? = some ⟨n, none, (([] : List Int)).take (0) ++ List.replicate 0 (-1), 0⟩) := Lib.hid (by rw [List.getElem?_set_self (by rw [List.length_set]; exact hqF)]; simp)
            have ho6 := ho4.grown hgr6 (fun e => hgne (Option.some.inj e).symm)
            have hres6 := blk_keep hres4 hblk (by decide) hgr6
            have hbel6 := hbel4.grown hgr6 hbel4.size (fun k hk => by cases hk; exact hBg')
            generalize (qs.set F ⟨n, none, ([] : List Int), 0⟩).set F ⟨n, none, (([] : List Int)).take (0), 0⟩ = rs at hO6 hqs6 hf6
            clear hblk hO4 ho4 hres4 hbel4 hq4 hl4 hsetb hcf hff e0 e1 hownq hgr6 hb6 hfit
            have hq' := Lib.hid hq
            clear hq
            try clear hqnil
            go_upto_region 13 with (fail)
            go_loopg [62] K (fun gh s62 wr => ∃ (j : Nat) (a' : Option Addr) (c' : Nat) (rs : List PF), K - (0 + j) ≤ gh ∧ 0 + j ≤ K ∧ Below w.heap.size w wr ∧ Blk wr gd #[.slice (some ⟨g, off9, none⟩) qs.length cv, .int .i64 k] 47 ∧ Blk wr (w.heap.size + 1) #[.slice none 0 0, .int .i64 0] 47 ∧ FsO wr w.heap.size (.slice (some ⟨g, off9, none⟩) qs.length cv) rs ∧ Hid (rs.map PF.fi = (qs.map PF.fi).set F ⟨n, (([] : List Int)).take (0) ++ List.replicate j (-1)⟩) ∧ Hid (rs[F]? = some ⟨n, a', (([] : List Int)).take (0) ++ List.replicate j (-1), c'⟩))
            case atStart => exact ⟨0, _, _, rs, by omega, by omega, hbel6, ho6, hres6, hO6, hqs6, hf6⟩
            case round =>
              clear hbel6 ho6 hres6 hO6 hqs6 hf6
              obtain ⟨j, a', c', rs, hgh, hMj, hbr, ho, hr, hO, hqs6, hf⟩ := hrel
              obtain ⟨g8, off8, cap8, cur8, hv8, hBg8, hblk8, hfit8, e08, e18, _, _⟩ := hO.file hf.out
              simp only [Value.slice.injEq, Option.some.injEq, Addr.mk.injEq, and_true] at hv8
              obtain ⟨⟨rfl, rfl⟩, hle9, rfl⟩ := hv8
              clear hle9
              have hln : ((([] : List Int)).take (0) ++ List.replicate j (-1)).length = 0 + j := by rw [List.length_append, hMl.out, List.length_replicate]
              have hown8 := hO.each F _ hf.out
              simp only [hln] at e18
              have hcf := hblk8.cell
              by_cases hlt : 0 + j < K
              · skip
                have hlt' : (((0 + j : Nat) : Int)) < (K : Int) := by omega
                have hown9 : Own wr w.heap.size 3 1 (.slice a' (0 + j) c') (0 + j) (((([] : List Int)).take (0) ++ List.replicate j (-1)).map inV) := by
                  have h9 := hown8
                  unfold pfV at h9
                  simp only [hln] at h9
                  exact h9
                generalize hmj : 0 + j = MJ at e18 hlt hlt' hown9 hMj hgh hln
                have hmj' := Lib.hid hmj
                have hln' := Lib.hid hln
                clear hmj hln
                go_upto_region 15 with (at_builtin; (refine wpList_appC rfl (.tmp 73) (.tmp 74) 36 rfl w.heap.size 3 (.int .i64 0) 1 8 Try.underlying36 int_info rfl (by decide) _ _ _ rfl (hown9.alloc _) (some ⟨wr.heap.size, 0, none⟩) 1 1 [inV (-1)] rfl (fun h => (by cases h)) (Nat.le_refl _) rfl (RdV.one _ _ _) (one_int _ _) (by unfold maxLen; omega) (by omega) (le_alloc' hbr.size _) ?_))
                intro v9 w9 ho9 hgr9 hsn9
                obtain ⟨a9, c9, rfl, _⟩ := ho9.rd
                have hbelA := hbr.alloc hbr.size (.cells #[.int .i64 (-1)] 3)
                have hOA := hO.below ((Below.refl _ _).alloc (Nat.le_refl _) (.cells #[.int .i64 (-1)] 3))
                have hoA := ho.alloc (.cells #[.int .i64 (-1)] 3)
                have hrA := hr.alloc (.cells #[.int .i64 (-1)] 3)
                have hl9 : ((([] : List Int)).take (0) ++ List.replicate (j + 1) (-1)).length = MJ + 1 := by rw [List.length_append, hMl.out, List.length_replicate]; have := hmj'.out; omega
                have hl9' := Lib.hid hl9
                have hls : (([] : List Int)).take (0) ++ List.replicate (j + 1) (-1) = ((([] : List Int)).take (0) ++ List.replicate j (-1)) ++ [-1] := by rw [List.replicate_succ', List.append_assoc]
                have hpv : pfV ⟨n, a', (([] : List Int)).take (0) ++ List.replicate j (-1), c'⟩ = .slice a' MJ c' := by unfold pfV; simp only [hln'.out]
                have hgrow := hOA.grow hf.out (a' := a9) (l' := (([] : List Int)).take (0) ++ List.replicate (j + 1) (-1)) (c' := c9) (by
                  rw [hl9, hls]
                  simpa using ho9) (by rw [hpv]; exact hgr9) (by rw [hpv, hl9]; exact hsn9)
                obtain ⟨g3, off3, cap3, cur3, hv3, hB3, hblk3, hfit3, e03, e13, hset3⟩ := hgrow
                simp only [Value.slice.injEq, Option.some.injEq, Addr.mk.injEq, and_true] at hv3
                obtain ⟨⟨rfl, rfl⟩, hle9, rfl⟩ := hv3
                clear hle9
                have ho9' := blk_own hoA (hown9.alloc (.cells #[.int .i64 (-1)] 3)) (by decide) hgr9
                have hr9 := blk_own hrA (hown9.alloc (.cells #[.int .i64 (-1)] 3)) (by decide) hgr9
                have hbel9 := hbelA.grown hgr9 hbelA.size (fun k hk => hown9.ge k hk)
                have hbr' := hbr
                clear hbelA hOA hoA hrA hO ho hr hbr hcf e08 e18 hblk8 hfit8 hown8 hown9 ho9 hgr9 hsn9
                have hj1 : Hid (0 + (j + 1) ≤ K) := Lib.hid (by have := hmj'.out; omega)
                have hj2 := Lib.hid (Nat.lt_of_lt_of_le (show K - (0 + (j + 1)) < K - MJ by have := hmj'.out; omega) hgh)
                have hcf3 := hblk3.cell
                clear hl9 hls hpv hlt hMj hgh
                go_upto_region 15 with (refine wpList_stv rfl _ _ _ rfl g (off9 + F * 2 + 1) _ [.slice a9 (MJ + 1) c9] rfl rfl rfl _ _ hblk3 (Nat.le_of_lt_succ (Nat.lt_succ_of_le hfit3)) slint_size (fun u hu => by cases List.mem_singleton.1 hu; rfl) ?_)
                intro wA hbA hgrA
                have hOB := hset3 wA (by rw [hl9'.out]; exact hbA) hgrA
                have hoB := ho9'.grown hgrA (fun e => hgne (Option.some.inj e).symm)
                have hrB := blk_keep hr9 hblk3 (by decide) hgrA
                have hbelB := hbel9.grown hgrA hbel9.size (fun k hk => by cases hk; exact hB3)
                have hqsB : Hid ((rs.set F ⟨n, a9, (([] : List Int)).take (0) ++ List.replicate (j + 1) (-1), c9⟩).map PF.fi = (qs.map PF.fi).set F ⟨n, (([] : List Int)).take (0) ++ List.replicate (j + 1) (-1)⟩) := Lib.hid (by
                  rw [List.map_set, hqs6.out, List.set_set]
                  rfl)
                have hfB : Hid ((rs.set F ⟨n, a9, (([] : List Int)).take (0) ++ List.replicate (j + 1) (-1), c9⟩)[F]? = some ⟨n, a9, (([] : List Int)).take (0) ++ List.replicate (j + 1) (-1), c9⟩) := Lib.hid (List.getElem?_set_self (List.getElem?_eq_some_iff.1 hf.out).1)
                clear hcf3 e03 e13 ho9' hr9 hbel9 hblk3 hset3 hbA hgrA hfit3
                go_wp2
                go_roundg (K - (0 + (j + 1)))
                case measure => exact hj2.out
                case rel => exact ⟨j + 1, a9, c9, _, Nat.le_refl _, hj1.out, hbelB, hoB, hrB, hOB, hqsB, hfB⟩
              · have hfin : Hid (stOf rs k = sizeS (stOf ps k) F n) := Lib.hid (by
                  have hjj : j = K - 0 := by omega
                  unfold sizeS withFile
                  rw [if_neg (by rw [hz.out]; simp), hfq.out, hKh.out, Int.toNat_natCast, Int.toNat_natCast]
                  unfold stOf
                  simp only
                  rw [hqs6.out, hqs.out, hjj]
                  congr 2
                  unfold resized PF.fi
                  simp only [Fi.mk.injEq, true_and]
                  all_goals simp)
                have hlt' : ¬ (((0 + j : Nat) : Int)) < (K : Int) := by omega
                generalize hmj : 0 + j = MJ at e18 hlt hlt' hMj hgh hln
                clear hmj hln hlt hMj hgh hown8
                go_upto_region 15 with (fail)
                clear hcf e08 e18 hblk8 hfit8
                have hco := ho.cell
                go_wp2_with (first | (refine wpList_ldg _ _ rfl _ 0 rfl rfl _ ho.rd _ Try.underlying47 rfl store_size ?_) | (refine wpList_stw rfl _ _ _ rfl (w.heap.size + 1) _ rfl rfl _ _ hr rfl store_size (sl_in _ _ _ _) ?_))
                intro wf hrf hgrf
                have hOf := hO.keep hr (by decide) (by decide) hgrf
                have hbelf := hbr.grown hgrf hbr.size (fun k hk => by cases hk; omega)
                go_wp2
                refine bodyPost_ret (v := .tuple #[.agg #[.slice _ _ _, .int .i64 k], .int .i64 0]) (results_ct Try.results35 _ _ (w.heap.size + 1) _ _ _ _ rfl rfl hrf Try.underlying47 rfl store_size) rfl ?_
                exact ⟨_, _, _, by rw [hz.out], hOf, hfin.out, hbelf⟩
          · go_region
            refine abs_set1 (fun W => Exit.then _ _ _ _ W) hblk fun w6 hgr6 hb6 => ?_
            have hMl := Lib.hid (show ((([] : List Int)).take (K)).length = K by rw [List.length_take]; omega)
            have hO6 : FsO w6 w.heap.size (.slice (some ⟨g, off9, none⟩) qs.length cv) ((qs.set F ⟨n, none, ([] : List Int), 0⟩).set F ⟨n, none, (([] : List Int)).take (K), 0⟩) := hsetb w6 (none) ((([] : List Int)).take (K)) 0 (by rw [hMl.out]; exact hb6) hgr6 (by
              have h9 := Own.take1 (m := K) hownq (by show _ ≤ (([] : List Int)).length; omega)
              rw [hMl.out, List.map_take]
              exact h9) (fun j r hj hr => by
              have hpp : Apart (pfV ⟨n, none, ([] : List Int), 0⟩) (pfV r) := by
                rcases Nat.lt_or_gt_of_ne hj with h1 | h1
                · exact (hO4.apart j F r _ h1 hr hq4).symm
                · exact hO4.apart F j _ r h1 hq4 hr
              intro g' hg' hr'
              exact hpp g' (by simpa [pfV, Value.ownBlock] using hg') hr')
            have hqs6 : Hid (((qs.set F ⟨n, none, ([] : List Int), 0⟩).set F ⟨n, none, (([] : List Int)).take (K), 0⟩).map PF.fi = (qs.map PF.fi).set F ⟨n, (([] : List Int)).take (K) ++ List.replicate 0 (-1)⟩) := Lib.hid (by rw [List.map_set, List.map_set, List.set_set]; simp [PF.fi])
            have hf6 : Hid (((qs.set F ⟨n, none, ([] : List Int), 0⟩).set F ⟨n, none, (([] : List Int)).take (K), 0⟩)[F]? = some ⟨n, none, (([] : List Int)).take (K) ++ List.replicate 0 (-1), 0⟩) := Lib.hid (by rw [List.getElem?_set_self (by rw [List.length_set]; exact hqF)]; simp)
            have ho6 := ho4.grown hgr6 (fun e => hgne (Option.some.inj e).symm)
            have hres6 := blk_keep hres4 hblk (by decide) hgr6
            have hbel6 := hbel4.grown hgr6 hbel4.size (fun k hk => by cases hk; exact hBg')
            generalize (qs.set F ⟨n, none, ([] : List Int), 0⟩).set F ⟨n, none, (([] : List Int)).take (K), 0⟩ = rs at hO6 hqs6 hf6
            clear hblk hO4 ho4 hres4 hbel4 hq4 hl4 hsetb hcf hff e0 e1 hownq hgr6 hb6 hfit
            have hq' := Lib.hid hq
            clear hq
            try clear hqnil
            go_upto_region 13 with (fail)
            go_loopg [62] K (fun gh s62 wr => ∃ (j : Nat) (a' : Option Addr) (c' : Nat) (rs : List PF), K - (K + j) ≤ gh ∧ K + j ≤ K ∧ Below w.heap.size w wr ∧ Blk wr gd #[.slice (some ⟨g, off9, none⟩) qs.length cv, .int .i64 k] 47 ∧ Blk wr (w.heap.size + 1) #[.slice none 0 0, .int .i64 0] 47 ∧ FsO wr w.heap.size (.slice (some ⟨g, off9, none⟩) qs.length cv) rs ∧ Hid (rs.map PF.fi = (qs.map PF.fi).set F ⟨n, (([] : List Int)).take (K) ++ List.replicate j (-1)⟩) ∧ Hid (rs[F]? = some ⟨n, a', (([] : List Int)).take (K) ++ List.replicate j (-1), c'⟩))
            case atStart => exact ⟨0, _, _, rs, by omega, by omega, hbel6, ho6, hres6, hO6, hqs6, hf6⟩
            case round =>
              clear hbel6 ho6 hres6 hO6 hqs6 hf6
              obtain ⟨j, a', c', rs, hgh, hMj, hbr, ho, hr, hO, hqs6, hf⟩ := hrel
              obtain ⟨g8, off8, cap8, cur8, hv8, hBg8, hblk8, hfit8, e08, e18, _, _⟩ := hO.file hf.out
              simp only [Value.slice.injEq, Option.some.injEq, Addr.mk.injEq, and_true] at hv8
              obtain ⟨⟨rfl, rfl⟩, hle9, rfl⟩ := hv8
              clear hle9
              have hln : ((([] : List Int)).take (K) ++ List.replicate j (-1)).length = K + j := by rw [List.length_append, hMl.out, List.length_replicate]
              have hown8 := hO.each F _ hf.out
              simp only [hln] at e18
              have hcf := hblk8.cell
              by_cases hlt : K + j < K
              · skip
                exact absurd hlt (by omega)
              · have hfin : Hid (stOf rs k = sizeS (stOf ps k) F n) := Lib.hid (by
                  have hjj : j = K - K := by omega
                  unfold sizeS withFile
                  rw [if_neg (by rw [hz.out]; simp), hfq.out, hKh.out, Int.toNat_natCast, Int.toNat_natCast]
                  unfold stOf
                  simp only
                  rw [hqs6.out, hqs.out, hjj]
                  congr 2
                  unfold resized PF.fi
                  simp only [Fi.mk.injEq, true_and]
                  all_goals (rw [Nat.sub_self]; simp; try omega))
                have hlt' : ¬ (((K + j : Nat) : Int)) < (K : Int) := by omega
                generalize hmj : K + j = MJ at e18 hlt hlt' hMj hgh hln
                clear hmj hln hlt hMj hgh hown8
                go_upto_region 15 with (fail)
                clear hcf e08 e18 hblk8 hfit8
                have hco := ho.cell
                go_wp2_with (first | (refine wpList_ldg _ _ rfl _ 0 rfl rfl _ ho.rd _ Try.underlying47 rfl store_size ?_) | (refine wpList_stw rfl _ _ _ rfl (w.heap.size + 1) _ rfl rfl _ _ hr rfl store_size (sl_in _ _ _ _) ?_))
                intro wf hrf hgrf
                have hOf := hO.keep hr (by decide) (by decide) hgrf
                have hbelf := hbr.grown hgrf hbr.size (fun k hk => by cases hk; omega)
                go_wp2
                refine bodyPost_ret (v := .tuple #[.agg #[.slice _ _ _, .int .i64 k], .int .i64 0]) (results_ct Try.results35 _ _ (w.heap.size + 1) _ _ _ _ rfl rfl hrf Try.underlying47 rfl store_size) rfl ?_
                exact ⟨_, _, _, by rw [hz.out], hOf, hfin.out, hbelf⟩
        | some ad =>
          by_cases hKl : K ≤ ql.length
          · have hmin : min (K : Int) (ql.length : Int) = (K : Int) := by omega
            go_region
            refine abs_set1 (fun W => Exit.then _ _ _ _ W) hblk fun w6 hgr6 hb6 => ?_
            have hMl := Lib.hid (show ((ql).take (K)).length = K by rw [List.length_take]; omega)
            have hO6 : FsO w6 w.heap.size (.slice (some ⟨g, off9, none⟩) qs.length cv) ((qs.set F ⟨n, some ad, ql, qc⟩).set F ⟨n, some ad, (ql).take (K), qc⟩) := hsetb w6 (some ad) ((ql).take (K)) qc (by rw [hMl.out]; exact hb6) hgr6 (by
              have h9 := Own.take1 (m := K) hownq (by show _ ≤ (ql).length; omega)
              rw [hMl.out, List.map_take]
              exact h9) (fun j r hj hr => by
              have hpp : Apart (pfV ⟨n, some ad, ql, qc⟩) (pfV r) := by
                rcases Nat.lt_or_gt_of_ne hj with h1 | h1
                · exact (hO4.apart j F r _ h1 hr hq4).symm
                · exact hO4.apart F j _ r h1 hq4 hr
              intro g' hg' hr'
              exact hpp g' (by simpa [pfV, Value.ownBlock] using hg') hr')
            have hqs6 : Hid (((qs.set F ⟨n, some ad, ql, qc⟩).set F ⟨n, some ad, (ql).take (K), qc⟩).map PF.fi = (qs.map PF.fi).set F ⟨n, (ql).take (K) ++ List.replicate 0 (-1)⟩) := Lib.hid (by rw [List.map_set, List.map_set, List.set_set]; simp [PF.fi])
            have hf6 : Hid (((qs.set F ⟨n, some ad, ql, qc⟩).set F ⟨n, some ad, (ql).take (K), qc⟩)[F]? = some ⟨n, some ad, (ql).take (K) ++ List.replicate 0 (-1), qc⟩) := Lib.hid (by rw [List.getElem?_set_self (by rw [List.length_set]; exact hqF)]; simp)
            have ho6 := ho4.grown hgr6 (fun e => hgne (Option.some.inj e).symm)
            have hres6 := blk_keep hres4 hblk (by decide) hgr6
            have hbel6 := hbel4.grown hgr6 hbel4.size (fun k hk => by cases hk; exact hBg')
            generalize (qs.set F ⟨n, some ad, ql, qc⟩).set F ⟨n, some ad, (ql).take (K), qc⟩ = rs at hO6 hqs6 hf6
            clear hblk hO4 ho4 hres4 hbel4 hq4 hl4 hsetb hcf hff e0 e1 hownq hgr6 hb6 hfit
            have hq' := Lib.hid hq
            clear hq
            try clear hqnil
            go_upto_region 13 with (fail)
            go_loopg [62] K (fun gh s62 wr => ∃ (j : Nat) (a' : Option Addr) (c' : Nat) (rs : List PF), K - (K + j) ≤ gh ∧ K + j ≤ K ∧ Below w.heap.size w wr ∧ Blk wr gd #[.slice (some ⟨g, off9, none⟩) qs.length cv, .int .i64 k] 47 ∧ Blk wr (w.heap.size + 1) #[.slice none 0 0, .int .i64 0] 47 ∧ FsO wr w.heap.size (.slice (some ⟨g, off9, none⟩) qs.length cv) rs ∧ Hid (rs.map PF.fi = (qs.map PF.fi).set F ⟨n, (ql).take (K) ++ List.replicate j (-1)⟩) ∧ Hid (rs[F]? = some ⟨n, a', (ql).take (K) ++ List.replicate j (-1), c'⟩))
            case atStart => exact ⟨0, _, _, rs, by omega, by omega, hbel6, ho6, hres6, hO6, hqs6, hf6⟩
            case round =>
              clear hbel6 ho6 hres6 hO6 hqs6 hf6
              obtain ⟨j, a', c', rs, hgh, hMj, hbr, ho, hr, hO, hqs6, hf⟩ := hrel
              obtain ⟨g8, off8, cap8, cur8, hv8, hBg8, hblk8, hfit8, e08, e18, _, _⟩ := hO.file hf.out
              simp only [Value.slice.injEq, Option.some.injEq, Addr.mk.injEq, and_true] at hv8
              obtain ⟨⟨rfl, rfl⟩, hle9, rfl⟩ := hv8
              clear hle9
              have hln : ((ql).take (K) ++ List.replicate j (-1)).length = K + j := by rw [List.length_append, hMl.out, List.length_replicate]
              have hown8 := hO.each F _ hf.out
              simp only [hln] at e18
              have hcf := hblk8.cell
              by_cases hlt : K + j < K
              · skip
                exact absurd hlt (by omega)
              · have hfin : Hid (stOf rs k = sizeS (stOf ps k) F n) := Lib.hid (by
                  have hjj : j = K - K := by omega
                  unfold sizeS withFile
                  rw [if_neg (by rw [hz.out]; simp), hfq.out, hKh.out, Int.toNat_natCast, Int.toNat_natCast]
                  unfold stOf
                  simp only
                  rw [hqs6.out, hqs.out, hjj]
                  congr 2
                  unfold resized PF.fi
                  simp only [Fi.mk.injEq, true_and]
                  rw [Nat.sub_self, show K - ql.length = 0 from by omega])
                have hlt' : ¬ (((K + j : Nat) : Int)) < (K : Int) := by omega
                generalize hmj : K + j = MJ at e18 hlt hlt' hMj hgh hln
                clear hmj hln hlt hMj hgh hown8
                go_upto_region 15 with (fail)
                clear hcf e08 e18 hblk8 hfit8
                have hco := ho.cell
                go_wp2_with (first | (refine wpList_ldg _ _ rfl _ 0 rfl rfl _ ho.rd _ Try.underlying47 rfl store_size ?_) | (refine wpList_stw rfl _ _ _ rfl (w.heap.size + 1) _ rfl rfl _ _ hr rfl store_size (sl_in _ _ _ _) ?_))
                intro wf hrf hgrf
                have hOf := hO.keep hr (by decide) (by decide) hgrf
                have hbelf := hbr.grown hgrf hbr.size (fun k hk => by cases hk; omega)
                go_wp2
                refine bodyPost_ret (v := .tuple #[.agg #[.slice _ _ _, .int .i64 k], .int .i64 0]) (results_ct Try.results35 _ _ (w.heap.size + 1) _ _ _ _ rfl rfl hrf Try.underlying47 rfl store_size) rfl ?_
                exact ⟨_, _, _, by rw [hz.out], hOf, hfin.out, hbelf⟩
          · have hmin : min (K : Int) (ql.length : Int) = (ql.length : Int) := by omega
            go_region
            refine abs_set1 (fun W => Exit.then _ _ _ _ W) hblk fun w6 hgr6 hb6 => ?_
            have hMl := Lib.hid (show ((ql).take (ql.length)).length = ql.length by rw [List.length_take]; omega)
            have hO6 : FsO w6 w.heap.size (.slice (some ⟨g, off9, none⟩) qs.length cv) ((qs.set F ⟨n, some ad, ql, qc⟩).set F ⟨n, some ad, (ql).take (ql.length), qc⟩) := hsetb w6 (some ad) ((ql).take (ql.length)) qc (by rw [hMl.out]; exact hb6) hgr6 (by
              have h9 := Own.take1 (m := ql.length) hownq (by show _ ≤ (ql).length; omega)
              rw [hMl.out, List.map_take]
              exact h9) (fun j r hj hr => by
              have hpp : Apart (pfV ⟨n, some ad, ql, qc⟩) (pfV r) := by
                rcases Nat.lt_or_gt_of_ne hj with h1 | h1
                · exact (hO4.apart j F r _ h1 hr hq4).symm
                · exact hO4.apart F j _ r h1 hq4 hr
              intro g' hg' hr'
              exact hpp g' (by simpa [pfV, Value.ownBlock] using hg') hr')
            have hqs6 : Hid (((qs.set F ⟨n, some ad, ql, qc⟩).set F ⟨n, some ad, (ql).take (ql.length), qc⟩).map PF.fi = (qs.map PF.fi).set F ⟨n, (ql).take (ql.length) ++ List.replicate 0 (-1)⟩) := Lib.hid (by rw [List.map_set, List.map_set, List.set_set]; simp [PF.fi])
            have hf6 : Hid (((qs.set F ⟨n, some ad, ql, qc⟩).set F ⟨n, some ad, (ql).take (ql.length), qc⟩)[F]? = some ⟨n, some ad, (ql).take (ql.length) ++ List.replicate 0 (-1), qc⟩) := Lib.hid (by rw [List.getElem?_set_self (by rw [List.length_set]; exact hqF)]; simp)
            have ho6 := ho4.grown hgr6 (fun e => hgne (Option.some.inj e).symm)
            have hres6 := blk_keep hres4 hblk (by decide) hgr6
            have hbel6 := hbel4.grown hgr6 hbel4.size (fun k hk => by cases hk; exact hBg')
            generalize (qs.set F ⟨n, some ad, ql, qc⟩).set F ⟨n, some ad, (ql).take (ql.length), qc⟩ = rs at hO6 hqs6 hf6
            clear hblk hO4 ho4 hres4 hbel4 hq4 hl4 hsetb hcf hff e0 e1 hownq hgr6 hb6 hfit
            have hq' := Lib.hid hq
            clear hq
            try clear hqnil
            go_upto_region 13 with (fail)
            go_loopg [62] K (fun gh s62 wr => ∃ (j : Nat) (a' : Option Addr) (c' : Nat) (rs : List PF), K - (ql.length + j) ≤ gh ∧ ql.length + j ≤ K ∧ Below w.heap.size w wr ∧ Blk wr gd #[.slice (some ⟨g, off9, none⟩) qs.length cv, .int .i64 k] 47 ∧ Blk wr (w.heap.size + 1) #[.slice none 0 0, .int .i64 0] 47 ∧ FsO wr w.heap.size (.slice (some ⟨g, off9, none⟩) qs.length cv) rs ∧ Hid (rs.map PF.fi = (qs.map PF.fi).set F ⟨n, (ql).take (ql.length) ++ List.replicate j (-1)⟩) ∧ Hid (rs[F]? = some ⟨n, a', (ql).take (ql.length) ++ List.replicate j (-1), c'⟩))
            case atStart => exact ⟨0, _, _, rs, by omega, by omega, hbel6, ho6, hres6, hO6, hqs6, hf6⟩
            case round =>
              clear hbel6 ho6 hres6 hO6 hqs6 hf6
              obtain ⟨j, a', c', rs, hgh, hMj, hbr, ho, hr, hO, hqs6, hf⟩ := hrel
              obtain ⟨g8, off8, cap8, cur8, hv8, hBg8, hblk8, hfit8, e08, e18, _, _⟩ := hO.file hf.out
              simp only [Value.slice.injEq, Option.some.injEq, Addr.mk.injEq, and_true] at hv8
              obtain ⟨⟨rfl, rfl⟩, hle9, rfl⟩ := hv8
              clear hle9
              have hln : ((ql).take (ql.length) ++ List.replicate j (-1)).length = ql.length + j := by rw [List.length_append, hMl.out, List.length_replicate]
              have hown8 := hO.each F _ hf.out
              simp only [hln] at e18
              have hcf := hblk8.cell
              by_cases hlt : ql.length + j < K
              · skip
                have hlt' : (((ql.length + j : Nat) : Int)) < (K : Int) := by omega
                have hown9 : Own wr w.heap.size 3 1 (.slice a' (ql.length + j) c') (ql.length + j) (((ql).take (ql.length) ++ List.replicate j (-1)).map inV) := by
                  have h9 := hown8
                  unfold pfV at h9
                  simp only [hln] at h9
                  exact h9
                generalize hmj : ql.length + j = MJ at e18 hlt hlt' hown9 hMj hgh hln
                have hmj' := Lib.hid hmj
                have hln' := Lib.hid hln
                clear hmj hln
                go_upto_region 15 with (at_builtin; (refine wpList_appC rfl (.tmp 73) (.tmp 74) 36 rfl w.heap.size 3 (.int .i64 0) 1 8 Try.underlying36 int_info rfl (by decide) _ _ _ rfl (hown9.alloc _) (some ⟨wr.heap.size, 0, none⟩) 1 1 [inV (-1)] rfl (fun h => (by cases h)) (Nat.le_refl _) rfl (RdV.one _ _ _) (one_int _ _) (by unfold maxLen; omega) (by omega) (le_alloc' hbr.size _) ?_))
                intro v9 w9 ho9 hgr9 hsn9
                obtain ⟨a9, c9, rfl, _⟩ := ho9.rd
                have hbelA := hbr.alloc hbr.size (.cells #[.int .i64 (-1)] 3)
                have hOA := hO.below ((Below.refl _ _).alloc (Nat.le_refl _) (.cells #[.int .i64 (-1)] 3))
                have hoA := ho.alloc (.cells #[.int .i64 (-1)] 3)
                have hrA := hr.alloc (.cells #[.int .i64 (-1)] 3)
                have hl9 : ((ql).take (ql.length) ++ List.replicate (j + 1) (-1)).length = MJ + 1 := by rw [List.length_append, hMl.out, List.length_replicate]; have := hmj'.out; omega
                have hl9' := Lib.hid hl9
                have hls : (ql).take (ql.length) ++ List.replicate (j + 1) (-1) = ((ql).take (ql.length) ++ List.replicate j (-1)) ++ [-1] := by rw [List.replicate_succ', List.append_assoc]
                have hpv : pfV ⟨n, a', (ql).take (ql.length) ++ List.replicate j (-1), c'⟩ = .slice a' MJ c' := by unfold pfV; simp only [hln'.out]
                have hgrow := hOA.grow hf.out (a' := a9) (l' := (ql).take (ql.length) ++ List.replicate (j + 1) (-1)) (c' := c9) (by
                  rw [hl9, hls]
                  simpa using ho9) (by rw [hpv]; exact hgr9) (by rw [hpv, hl9]; exact hsn9)
                obtain ⟨g3, off3, cap3, cur3, hv3, hB3, hblk3, hfit3, e03, e13, hset3⟩ := hgrow
                simp only [Value.slice.injEq, Option.some.injEq, Addr.mk.injEq, and_true] at hv3
                obtain ⟨⟨rfl, rfl⟩, hle9, rfl⟩ := hv3
                clear hle9
                have ho9' := blk_own hoA (hown9.alloc (.cells #[.int .i64 (-1)] 3)) (by decide) hgr9
                have hr9 := blk_own hrA (hown9.alloc (.cells #[.int .i64 (-1)] 3)) (by decide) hgr9
                have hbel9 := hbelA.grown hgr9 hbelA.size (fun k hk => hown9.ge k hk)
                have hbr' := hbr
                clear hbelA hOA hoA hrA hO ho hr hbr hcf e08 e18 hblk8 hfit8 hown8 hown9 ho9 hgr9 hsn9
                have hj1 : Hid (ql.length + (j + 1) ≤ K) := Lib.hid (by have := hmj'.out; omega)
                have hj2 := Lib.hid (Nat.lt_of_lt_of_le (show K - (ql.length + (j + 1)) < K - MJ by have := hmj'.out; omega) hgh)
                have hcf3 := hblk3.cell
                clear hl9 hls hpv hlt hMj hgh
                go_upto_region 15 with (refine wpList_stv rfl _ _ _ rfl g (off9 + F * 2 + 1) _ [.slice a9 (MJ + 1) c9] rfl rfl rfl _ _ hblk3 (Nat.le_of_lt_succ (Nat.lt_succ_of_le hfit3)) slint_size (fun u hu => by cases List.mem_singleton.1 hu; rfl) ?_)
                intro wA hbA hgrA
                have hOB := hset3 wA (by rw [hl9'.out]; exact hbA) hgrA
                have hoB := ho9'.grown hgrA (fun e => hgne (Option.some.inj e).symm)
                have hrB := blk_keep hr9 hblk3 (by decide) hgrA
                have hbelB := hbel9.grown hgrA hbel9.size (fun k hk => by cases hk; exact hB3)
                have hqsB : Hid ((rs.set F ⟨n, a9, (ql).take (ql.length) ++ List.replicate (j + 1) (-1), c9⟩).map PF.fi = (qs.map PF.fi).set F ⟨n, (ql).take (ql.length) ++ List.replicate (j + 1) (-1)⟩) := Lib.hid (by
                  rw [List.map_set, hqs6.out, List.set_set]
                  rfl)
                have hfB : Hid ((rs.set F ⟨n, a9, (ql).take (ql.length) ++ List.replicate (j + 1) (-1), c9⟩)[F]? = some ⟨n, a9, (ql).take (ql.length) ++ List.replicate (j + 1) (-1), c9⟩) := Lib.hid (List.getElem?_set_self (List.getElem?_eq_some_iff.1 hf.out).1)
                clear hcf3 e03 e13 ho9' hr9 hbel9 hblk3 hset3 hbA hgrA hfit3
                go_wp2
                go_roundg (K - (ql.length + (j + 1)))
                case measure => exact hj2.out
                case rel => exact ⟨j + 1, a9, c9, _, Nat.le_refl _, hj1.out, hbelB, hoB, hrB, hOB, hqsB, hfB⟩
              · have hfin : Hid (stOf rs k = sizeS (stOf ps k) F n) := Lib.hid (by
                  have hjj : j = K - ql.length := by omega
                  unfold sizeS withFile
                  rw [if_neg (by rw [hz.out]; simp), hfq.out, hKh.out, Int.toNat_natCast, Int.toNat_natCast]
                  unfold stOf
                  simp only
                  rw [hqs6.out, hqs.out, hjj]
                  congr 2
                  unfold resized PF.fi
                  simp only [Fi.mk.injEq, true_and]
                  rw [List.take_of_length_le (Nat.le_refl _), List.take_of_length_le (show ql.length ≤ K by omega)])
                have hlt' : ¬ (((ql.length + j : Nat) : Int)) < (K : Int) := by omega
                generalize hmj : ql.length + j = MJ at e18 hlt hlt' hMj hgh hln
                clear hmj hln hlt hMj hgh hown8
                go_upto_region 15 with (fail)
                clear hcf e08 e18 hblk8 hfit8
                have hco := ho.cell
                go_wp2_with (first | (refine wpList_ldg _ _ rfl _ 0 rfl rfl _ ho.rd _ Try.underlying47 rfl store_size ?_) | (refine wpList_stw rfl _ _ _ rfl (w.heap.size + 1) _ rfl rfl _ _ hr rfl store_size (sl_in _ _ _ _) ?_))
                intro wf hrf hgrf
                have hOf := hO.keep hr (by decide) (by decide) hgrf
                have hbelf := hbr.grown hgrf hbr.size (fun k hk => by cases hk; omega)
                go_wp2
                refine bodyPost_ret (v := .tuple #[.agg #[.slice _ _ _, .int .i64 k], .int .i64 0]) (results_ct Try.results35 _ _ (w.heap.size + 1) _ _ _ _ rfl rfl hrf Try.underlying47 rfl store_size) rfl ?_
                exact ⟨_, _, _, by rw [hz.out], hOf, hfin.out, hbelf⟩
  · have q0 : Hid _ := Lib.hid (size_err (s := stOf ps k) (k := file) (n := n) (e := wrongSt (stOf ps k)) (by unfold sizeE; rw [if_pos h0]) h0)
    have h0' : (wrongSt (stOf ps k) != 0) = true := by simpa using h0
    clear h0
    go_wp2_with (refine wpList_stw rfl _ _ _ rfl (w.heap.size + 1) #[.slice none 0 0, .int .i64 0] rfl rfl _ _ hres rfl store_size (sl_in none 0 0 0) ?_)
    all_goals
      intro w5 hr5 hgr5
      have hbel5 : Below w.heap.size w w5 := hbel.grown hgr5 hbel.size (fun k hk => by cases hk; omega)
      go_wp2
      refine bodyPost_ret (v := .tuple #[.agg #[.slice none 0 0, .int .i64 0], .int .i64 (wrongSt (stOf ps k))]) (results_ct Try.results35 _ _ (w.heap.size + 1) _ _ _ _ rfl rfl hr5 Try.underlying47 rfl store_size) rfl ?_
      have q := q0.out
      exact ⟨_, _, _, by rw [q.1], FsO.nil _ _, by rw [q.2]; rfl, hbel5⟩
end Go.Proofs.Ytmdnmknmniabeaa
