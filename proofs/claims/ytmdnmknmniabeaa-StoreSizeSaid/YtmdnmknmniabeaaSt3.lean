/- Package store's Own. -/
import Derived.Test.YtmdnmknmniabeaaSt
namespace Go.Proofs.Ytmdnmknmniabeaa
open Go.RowKit Go.Maps Pw
set_option linter.unusedSimpArgs false
set_option linter.unusedVariables false

set_option maxHeartbeats 400000 in
set_option maxRecDepth 100000 in
theorem clone_ints (l : List Int) (a : Option Addr) (c : Nat) (w : World) (hle : l.length ≤ c) (hnil : a = none → c = 0) (hrd : RdV w a (l.map inV)) (hb : l.length * 8 ≤ 140737488355328) :
    Calls Try.prog 64 #[.slice a l.length c] w fun e w' => ∃ v, e = .returned v ∧ Own w' w.heap.size 3 1 v l.length (l.map inV) ∧ Below w.heap.size w w' := by
  cases a with
  | none =>
    have h0 := hnil rfl
    have hl : l = [] := List.eq_nil_of_length_eq_zero (by omega)
    subst hl
    subst h0
    have hq := fun W => Lib.run_eql_slice_nil (P := Try.prog) W 36 _ none 0 0 0 0 Try.underlying36
    go_enter Try.func64, Try.ntmps64
    go_wp2
    go_ret
    exact ⟨_, rfl, by simpa using Own.nil _ _ _ _, Below.refl _ _⟩
  | some ad =>
    have hq := fun W => Lib.run_eql_slice_nil (P := Try.prog) W 36 _ (some ad) l.length c 0 0 Try.underlying36
    go_enter Try.func64, Try.ntmps64
    go_wp2_with (at_builtin; go_must (refine wpList_app rfl _ _ 36 rfl w.heap.size 3 (.int .i64 0) 1 8 Try.underlying36 int_info rfl (by decide) _ 0 [] rfl ?own (some ad) l.length c (l.map inV) rfl (fun h => (by cases h)) hle (ints_len l) ?rd (ints_one l) (by unfold maxLen; omega) (by simpa using hb) ?bb ?k))
    case own => exact ⟨rfl, .inr ⟨w.heap.size, 0, 0, #[], rfl, Nat.le_refl _, Blk.new _ _ _, Nat.le_refl _, Nat.zero_le _, by simp, fun j u h => by simp at h⟩⟩
    case rd => exact hrd.below ((Below.refl _ _).alloc (Nat.le_refl _) _)
    case bb => exact le_alloc _ _
    intro v w1 hown hgr
    go_wp2
    go_ret
    exact ⟨v, rfl, by simpa using hown, ((Below.refl _ _).alloc (Nat.le_refl _) _).grown hgr (le_alloc _ _) (fun k hk => by cases hk; exact Nat.le_refl _)⟩
theorem file_info : (Try.prog.info? 61).map (fun i => (i.zero, i.size, i.bytes)) = some (some (.agg #[.int .i64 0, .slice none 0 0]), 2, 32) := by kernel_rfl
theorem files_len (l : List PF) : (l.flatMap pfL).length = l.length * 2 := flat_len pfL 2 pfL_len l
theorem pfL_one (p : PF) : ∀ u ∈ pfL p, u.oneCell' = true := by
  intro u hu
  have := pfC_one p
  rw [← Array.all_toList, List.all_eq_true] at this
  exact this u hu
theorem files_one (l : List PF) : ∀ u ∈ l.flatMap pfL, u.oneCell' = true := by
  intro u hu
  obtain ⟨f, _, hf⟩ := List.mem_flatMap.1 hu
  exact pfL_one f u hf
def pfV (p : PF) : Value := .slice p.a p.l.length p.c
/-- Files of the call's own. -/
structure FsO (w : World) (B : Nat) (v : Value) (ps : List PF) : Prop where
  own : Own w B 61 2 v ps.length (ps.flatMap pfL)
  each : ∀ (i : Nat) p, ps[i]? = some p → Own w B 3 1 (pfV p) p.l.length (p.l.map inV)
  apart : ∀ (i j : Nat) p q, i < j → ps[i]? = some p → ps[j]? = some q → Apart (pfV p) (pfV q)
theorem FsO.rd {w : World} {B : Nat} {v : Value} {ps : List PF} (h : FsO w B v ps) : ∃ a c, v = .slice a ps.length c ∧ FsR w a c ps := by
  obtain ⟨a, c, rfl, h1, h2, h3, h4⟩ := h.own.rd
  refine ⟨a, c, rfl, h1, h2, h3, h4, fun p hp => ?_⟩
  obtain ⟨i, hi, rfl⟩ := List.mem_iff_getElem.1 hp
  obtain ⟨a', c', e, k1, k2, k3, k4⟩ := (h.each i _ (List.getElem?_eq_getElem hi)).rd
  unfold pfV at e
  simp only [Value.slice.injEq] at e
  obtain ⟨rfl, _, rfl⟩ := e
  exact ⟨k1, k2, k3, k4⟩
theorem FsO.below {w w' : World} {B : Nat} {v : Value} {ps : List PF} (h : FsO w B v ps) (hb : Below w.heap.size w w') : FsO w' B v ps :=
  ⟨h.own.below hb, fun i p hp => (h.each i p hp).below hb, h.apart⟩
theorem FsO.mono {w : World} {B B' : Nat} {v : Value} {ps : List PF} (h : FsO w B v ps) (hB : B' ≤ B) : FsO w B' v ps :=
  ⟨h.own.mono hB, fun i p hp => (h.each i p hp).mono hB, h.apart⟩
theorem FsO.keep {w w' : World} {B : Nat} {v : Value} {ps : List PF} (h : FsO w B v ps) {g : Nat} {cs : Array Value} {T : TypeId} (hk : Blk w g cs T) (h1 : T ≠ 61) (h2 : T ≠ 3) (hgr : w.grownBy w' (some g)) : FsO w' B v ps :=
  ⟨own_keep h.own hk h1 hgr, fun i p hp => own_keep (h.each i p hp) hk h2 hgr, h.apart⟩
theorem FsO.nil (w : World) (B : Nat) : FsO w B (.slice none 0 0) [] := ⟨Own.nil _ _ _ _, fun i p h => by simp at h, fun i j p q _ h => by simp at h⟩
def FsSz (ps : List PF) : Prop := ps.length * 32 ≤ 140737488355328 ∧ ∀ p ∈ ps, p.l.length * 8 ≤ 140737488355328
/-- A file more. -/
theorem FsO.app {w w' : World} {B : Nat} {v v' : Value} {ps : List PF} (h : FsO w B v ps) {p : PF} (ho : Own w' B 61 2 v' (ps.length + 1) (ps.flatMap pfL ++ pfL p)) (hp : Own w B 3 1 (pfV p) p.l.length (p.l.map inV)) (hgr : w.grownBy w' v.ownBlock)
    (ha : ∀ (i : Nat) q, ps[i]? = some q → Apart (pfV q) (pfV p)) : FsO w' B v' (ps ++ [p]) where
  own := by rw [List.length_append, List.flatMap_append]; simpa using ho
  each := fun i q hq => by
    by_cases hi : i < ps.length
    · rw [List.getElem?_append_left hi] at hq
      exact own_own (h.each i q hq) h.own (by decide) hgr
    · rw [List.getElem?_append_right (by omega)] at hq
      have hi0 : i - ps.length = 0 := by
        rcases Nat.eq_zero_or_pos (i - ps.length) with e | e
        · exact e
        · rw [List.getElem?_eq_none (by simp; omega)] at hq; cases hq
      rw [hi0] at hq
      cases hq
      exact own_own hp h.own (by decide) hgr
  apart := fun i j q r hij hq hr => by
    have hi : i < ps.length := by
      have := (List.getElem?_eq_some_iff.1 hr).1
      simp at this
      omega
    rw [List.getElem?_append_left hi] at hq
    by_cases hj : j < ps.length
    · rw [List.getElem?_append_left hj] at hr
      exact h.apart i j q r hij hq hr
    · rw [List.getElem?_append_right (by omega)] at hr
      have hj0 : j - ps.length = 0 := by
        rcases Nat.eq_zero_or_pos (j - ps.length) with e | e
        · exact e
        · rw [List.getElem?_eq_none (by simp; omega)] at hr; cases hr
      rw [hj0] at hr
      cases hr
      exact ha i q hq
theorem slfile_size : (Try.prog.info? 45).map (·.size) = some 1 := by kernel_rfl
theorem sl_in (a : Option Addr) (n c : Nat) (k : Int) : (#[Value.slice a n c, Value.int .i64 k] : Array Value).all (·.oneCell') = true := by simp [Value.oneCell']
/-- A file by value. -/
def filR (B : Nat) (n : Int) (l : List Int) : Rel := ⟨fun v w => ∃ u, v = .agg #[.int .i64 n, u] ∧ Own w B 3 1 u l.length (l.map inV), fun _ _ _ hb ⟨u, h1, h2⟩ => ⟨u, h1, h2.below hb⟩⟩
def filS (B : Nat) (n : Int) (l : List Int) : Rel := ⟨fun v w => ∃ g p, v = .slice (some ⟨g, 0, none⟩) 1 1 ∧ p.n = n ∧ p.l = l ∧ RdV w (some ⟨g, 0, none⟩) (pfL p) ∧ Own w B 3 1 (pfV p) p.l.length (p.l.map inV), by
  rintro v w w' hb ⟨g, p, h1, h2, h3, h4, h5⟩
  exact ⟨g, p, h1, h2, h3, h4.below hb, h5.below hb⟩⟩
set_option maxHeartbeats 4000000 in
set_option maxRecDepth 100000 in
theorem sown_any (ps : List PF) (k : Int) (a : Option Addr) (c : Nat) (w : World) (h : FsR w a c ps) (hz : FsSz ps) :
    Calls Try.prog 32 #[.agg (stC a ps.length c k)] w fun r w' => ∃ v ps', r = .returned (.agg #[v, .int .i64 k]) ∧ FsO w' w.heap.size v ps' ∧ ps'.map PF.fi = ps.map PF.fi ∧ Below w.heap.size w w' := by
  have hlc := Nat.le_trans h.le h.mx
  unfold maxLen at hlc
  unfold stC
  go_enter Try.func32, Try.ntmps32
  go_upto_region 1 with (fail)
  refine abs2 (fun W => Code.wp _ _ _ _ W) fun W0 hb0 hx0 hr0 hs0 => ?_
  clear hs0
  have hcx := hx0.cell
  go_upto_region 2 with (refine wpList_stn rfl _ _ _ rfl #[.slice none 0 0, .int .i64 k] rfl rfl rfl store_size (sl_in none 0 0 k) ?_)
  clear hcx
  intro W1 hb1 ho1
  have hbel1 := below_next hb0 hb1
  have hx1 := hx0.ext hb1
  have hr1 := hr0.ext hb1
  have hgo : w.heap.size + 1 < W0.heap.size := hr0.lt
  obtain ⟨go, hGO⟩ : ∃ g, g = W0.heap.size := ⟨_, rfl⟩
  rw [← hGO] at ho1 hgo ⊢
  clear hGO hb0 hx0 hr0 hb1
  have hcx := hx1.cell
  go_upto_region 3 with (fail)
  clear hcx
  go_loopw [12] (fun i wr => ∃ (q : Nat) (v : Value) (qs : List PF), q ≤ ps.length ∧ i = .int .i64 q ∧ Below w.heap.size w wr ∧ Blk wr (w.heap.size + 1) #[.slice none 0 0, .int .i64 0] 47 ∧ Blk wr go #[v, .int .i64 k] 47 ∧ FsO wr w.heap.size v qs ∧ qs.map PF.fi = (ps.take q).map PF.fi) (fun i _ => ps.length - (intOf i).toNat)
  case atStart => exact ⟨0, _, [], Nat.zero_le _, rfl, hbel1, hr1, ho1, FsO.nil _ _, rfl⟩
  case round =>
    clear hbel1 hx1 hr1 ho1
    obtain ⟨q, v, qs, hq, rfl, hbr, hr, ho, hF, hqs0⟩ := hrel
    have hqs := Lib.hid hqs0
    clear hqs0
    by_cases hlt : q < ps.length
    · obtain ⟨b, off, p, rfl, hp, c0, c1⟩ := pf_at (h.below hbr).rd q hlt
      have hgw := h.good p (List.mem_of_getElem? hp)
      have hpz := hz.2 p (List.mem_of_getElem? hp)
      have htk := take_at hp
      have hqs2 : Hid (qs.map PF.fi ++ [p.fi] = (ps.take (q + 1)).map PF.fi) := Lib.hid (by rw [htk, List.map_append, hqs.out]; rfl)
      have hql : qs.length ≤ q := by
        have := congrArg List.length hqs.out
        simp [Nat.min_eq_left hq] at this
        omega
      clear hp htk
      go_wp2_with (refine wpList_stn rfl _ _ _ rfl (pfC p) rfl rfl rfl file_size (pfC_one _) ?_)
      intro w2 hb2 hf2
      have hbel2 := below_next hbr hb2
      have hr2 := hr.ext hb2
      have ho2 := ho.ext hb2
      have hF2 := hF.below hb2
      have hgo2 : go < wr.heap.size := ho.lt
      clear hbr hr ho hF hb2 c0 c1
      obtain ⟨av, cv, rfl, hR2⟩ := hF2.rd
      have hlv := hR2.le
      have hmv := hR2.mx
      unfold maxLen at hmv
      have hsz1 := hz.1
      have hgA := hgw.below hbel2
      go_upto_region 5 with (fail)
      refine wp_growC 9 10 [] [isV (.pointer (some ⟨go, 0, none⟩)), isV (.slice av qs.length cv), isV (.pointer (some ⟨wr.heap.size, 0, none⟩)), isV (.int .i64 p.n), isV (.pointer (some ⟨wr.heap.size, 1, none⟩)), isV (.slice p.a p.l.length p.c), (ownR w2.heap.size 3 1 p.l.length (p.l.map inV)), (filR w2.heap.size p.n p.l), (filS w2.heap.size p.n p.l)] (by kernel_rfl) (by kernel_rfl) (by kernel_rfl) (by kernel_rfl) (by kernel_rfl) (by kernel_rfl) (by decide) (by decide) _ rfl (by kernel_rfl) (all_cons ?_ (all_cons ?_ (all_cons ?_ (all_cons ?_ (all_cons ?_ (all_cons ?_ (all_cons ?_ (all_cons ?_ (all_cons ?_ (all_nil)))))))))) (all_nil) rfl ?_
      · refine askedC_not rfl ?_
        intro ρ y W hw hn hb hd
        have E3 : ρ (.tmp 3) = .pointer (some ⟨go, 0, none⟩) := (hn (.tmp 3) rfl).trans rfl
        refine asked_val (.pointer (some ⟨go, 0, none⟩)) (want_free rfl) (by simp [execOp, go_sem, E3]) rfl
      · refine askedC_not rfl ?_
        intro ρ y W hw hn hb hd
        have E16 := hw 16 0 rfl
        have h0 : y 0 = .pointer (some ⟨go, 0, none⟩) := hd 0 rfl
        refine asked_val (.slice av qs.length cv) (want_free rfl) (by simp [execOp, go_sem, E16, h0, (ho2.ext hb).cell, Try.underlying45]) rfl
      · refine askedC_not rfl ?_
        intro ρ y W hw hn hb hd
        have E5 : ρ (.tmp 5) = .pointer (some ⟨wr.heap.size, 0, none⟩) := (hn (.tmp 5) rfl).trans rfl
        refine asked_val (.pointer (some ⟨wr.heap.size, 0, none⟩)) (want_free rfl) (by simp [execOp, go_sem, E5]) rfl
      · refine askedC_not rfl ?_
        intro ρ y W hw hn hb hd
        have E18 := hw 18 2 rfl
        have h2 : y 2 = .pointer (some ⟨wr.heap.size, 0, none⟩) := hd 2 rfl
        refine asked_val (.int .i64 p.n) (want_free rfl) (by simp [execOp, go_sem, E18, h2, (hf2.ext hb).cell, pfC]) rfl
      · refine askedC_not rfl ?_
        intro ρ y W hw hn hb hd
        have E5 : ρ (.tmp 5) = .pointer (some ⟨wr.heap.size, 0, none⟩) := (hn (.tmp 5) rfl).trans rfl
        refine asked_val (.pointer (some ⟨wr.heap.size, 1, none⟩)) (want_free rfl) (by simp [execOp, go_sem, E5]) rfl
      · refine askedC_not rfl ?_
        intro ρ y W hw hn hb hd
        have E20 := hw 20 4 rfl
        have h4 : y 4 = .pointer (some ⟨wr.heap.size, 1, none⟩) := hd 4 rfl
        refine asked_val (.slice p.a p.l.length p.c) (want_free rfl) (by simp [execOp, go_sem, E20, h4, (hf2.ext hb).cell, pfC]) rfl
      · refine askedC_not rfl ?_
        intro ρ y W hw hn hb hd
        have E21 := hw 21 5 rfl
        have h5 : y 5 = .slice p.a p.l.length p.c := hd 5 rfl
        have EF : ∀ f, ρ (.func f) = .func (.func f) #[] #[] := fun f => hn (.func f) trivial
        refine asked_call _ _ (want_free rfl) (run_call rfl (EF _) Try.func64 (by kernel_rfl) (by kernel_rfl) (by simp only [List.map_toArray, List.map_cons, List.map_nil, E21, h5, EF]; rfl)) ?_
        refine (clone_ints p.l p.a p.c W hgw.le hgw.nl (hgA.below hb).rd hpz).mono ?_
        rintro e w1 ⟨u, rfl, ho, hb1⟩
        exact ⟨u, rfl, hb1, ho.mono hb.size⟩
      · refine askedC_not rfl ?_
        intro ρ y W hw hn hb hd
        have E19 := hw 19 3 rfl
        have h3 : y 3 = .int .i64 p.n := hd 3 rfl
        have E22 := hw 22 6 rfl
        have h6 : ((ownR w2.heap.size 3 1 p.l.length (p.l.map inV))).r (y 6) W := hd 6 rfl
        obtain ⟨x6, c6, e6, _⟩ := Own.rd h6
        refine asked_val (.agg #[.int .i64 p.n, y 6]) (want_free rfl) (by simp [execOp, go_sem, E19, h3, E22, e6]) ?_
        exact ⟨_, rfl, h6⟩
      · refine askedC_not rfl ?_
        intro ρ y W hw hn hb hd
        have E23 := hw 23 7 rfl
        have h7 : ((filR w2.heap.size p.n p.l)).r (y 7) W := hd 7 rfl
        obtain ⟨u, e7, ho7⟩ := h7
        obtain ⟨x7, c7, rfl, _⟩ := Own.rd ho7
        refine asked_new (.slice (some ⟨W.heap.size, 0, none⟩) 1 1) (want_free rfl) (by simp [execOp, go_sem, E23, e7, pfC]) ((Below.refl _ _).alloc (Nat.le_refl _) (.cells (pfC ⟨p.n, x7, p.l, c7⟩) 61)) ?_
        exact ⟨_, ⟨p.n, x7, p.l, c7⟩, rfl, rfl, rfl, RdV.new _ _ _, ho7.alloc _⟩
      intro ρ y WA o ho hw hn hV hbWA hRWA
      cases ho
      have hy0 : y 0 = .pointer (some ⟨go, 0, none⟩) := hRWA 0 (by decide)
      have hy1 : y 1 = .slice av qs.length cv := hRWA 1 (by decide)
      have hy2 : y 2 = .pointer (some ⟨wr.heap.size, 0, none⟩) := hRWA 2 (by decide)
      have hy3 : y 3 = .int .i64 p.n := hRWA 3 (by decide)
      have hy4 : y 4 = .pointer (some ⟨wr.heap.size, 1, none⟩) := hRWA 4 (by decide)
      have hy5 : y 5 = .slice p.a p.l.length p.c := hRWA 5 (by decide)
      have hy6 : ((ownR w2.heap.size 3 1 p.l.length (p.l.map inV))).r (y 6) WA := hRWA 6 (by decide)
      have hy7 : ((filR w2.heap.size p.n p.l)).r (y 7) WA := hRWA 7 (by decide)
      have hy8 : ((filS w2.heap.size p.n p.l)).r (y 8) WA := hRWA 8 (by decide)
      have E17 := hw 17 1 rfl
      rw [hy1] at E17
      have E24 := hw 24 8 rfl
      have EC : ∀ v, ρ (.const v) = v := fun v => hn (.const v) trivial
      have EF : ∀ f, ρ (.func f) = .func (.func f) #[] #[] := fun f => hn (.func f) trivial
      obtain ⟨g8, p8, e8, hn8, hl8, hrd8, hou8⟩ := hy8
      refine giv_app (want_free rfl) (run_app (.tmp 17) (.tmp 24) 45 rfl w.heap.size 61 _ 2 32 Try.underlying45 file_info rfl (by decide) _ _ _ E17 (hF2.own.below hbWA) _ 1 1 (pfL p8) (E24.trans e8) (fun e => by cases e) (Nat.le_refl _) rfl hrd8 (pfL_one _) (by unfold maxLen; omega) (by omega) (Nat.le_trans hbel2.size hbWA.size)) ?_
      rintro v2 w4 ⟨hown4, hgr4, hcase4⟩
      clear hRWA hw hn hV
      simp only [lay, Nat.reduceAdd, Nat.reduceLT, Nat.reduceEqDiff, reduceIte, decide_true, decide_false, if_true, Bool.false_eq_true, if_false, List.setIfInBounds_toArray, List.set_cons_zero, List.set_cons_succ, List.drop_succ_cons, List.drop_zero, List.drop_nil, hy0, hy1, hy2, hy3, hy4, hy5]
      clear hy0 hy1 hy2 hy3 hy4 hy5
      have hbelA := below_next hbel2 hbWA
      have hrA := hr2.ext hbWA
      have hoA := ho2.ext hbWA
      have hFA := hF2.below hbWA
      have hapn : ∀ (i : Nat) r, qs[i]? = some r → Apart (pfV r) (pfV p8) := by
        intro i r hi g hg hg8
        have h1 := own_lt' (hF2.each i r hi) g hg
        have h2 := hou8.ge g hg8
        omega
      have hown4' : Own w4 w.heap.size 61 2 v2 (qs.length + 1) (qs.flatMap pfL ++ pfL p8) := hown4
      have hF4 := hFA.app hown4' (hou8.mono hbel2.size) hgr4 hapn
      have hr4 := blk_own hrA hFA.own (by decide) hgr4
      have ho4 := blk_own hoA hFA.own (by decide) hgr4
      have hbel4 : Below w.heap.size w w4 := hbelA.grown hgr4 hbelA.size (fun k hk => hFA.own.ge k hk)
      have hqs3 : Hid ((qs ++ [p8]).map PF.fi = (ps.take (q + 1)).map PF.fi) := Lib.hid (by
        rw [List.map_append, ← hqs2.out]
        congr 1
        simp [PF.fi, hn8, hl8])
      obtain ⟨a4, c4, rfl, _⟩ := hF4.rd
      rw [List.length_append, List.length_singleton] at hF4 ⊢
      clear hbel2 hr2 ho2 hF2 hbWA hbelA hrA hoA hFA hown4 hown4' hgr4 hapn hou8 hrd8 hf2 hcase4
      go_wp2_with (refine wpList_stv rfl _ _ _ rfl go 0 _ [.slice a4 (qs.length + 1) c4] rfl rfl rfl _ _ ho4 (show 0 + 1 ≤ 2 by decide) slfile_size (fun u hu => by cases List.mem_singleton.1 hu; rfl) ?_)
      intro w5 ho5 hgr5
      have hr5 : Blk w5 (w.heap.size + 1) _ _ := hr4.grown hgr5 (fun e => by have := Option.some.inj e; omega)
      have hF5 := hF4.keep ho4 (by decide) (by decide) hgr5
      have hbel5 := hbel4.grown hgr5 hbel4.size (fun k hk => by cases hk; omega)
      have ho5' : Blk w5 go #[.slice a4 (qs.length + 1) c4, .int .i64 k] 47 := ho5
      clear ho4 hr4 hF4 hbel4 hgr5 ho5
      go_wp2
      go_roundw
      case rel => exact ⟨q + 1, _, _, by omega, by go_num, hbel5, hr5, ho5', hF5, hqs3.out⟩
      case measure => simp [intOf]; omega
    · obtain rfl : q = ps.length := by omega
      have hfin : Hid (qs.map PF.fi = ps.map PF.fi) := Lib.hid (by rw [hqs.out, List.take_length])
      obtain ⟨av, cv, rfl, _⟩ := hF.rd
      have hco := ho.cell
      go_wp2_with (refine wpList_stw rfl _ _ _ rfl (w.heap.size + 1) #[.slice av qs.length cv, .int .i64 k] rfl rfl _ _ hr rfl store_size (sl_in _ _ _ _) ?_)
      intro w5 hr5 hgr5
      have hF5 := hF.keep hr (by decide) (by decide) hgr5
      have hbel5 := hbr.grown hgr5 hbr.size (fun k hk => by cases hk; omega)
      go_wp2
      refine bodyPost_ret (v := .agg #[.slice av qs.length cv, .int .i64 k]) (results_c Try.results32 _ _ (w.heap.size + 1) _ _ _ rfl hr5 Try.underlying47 rfl store_size) rfl ?_
      exact ⟨_, _, rfl, hF5, hfin.out, hbel5⟩
end Go.Proofs.Ytmdnmknmniabeaa
