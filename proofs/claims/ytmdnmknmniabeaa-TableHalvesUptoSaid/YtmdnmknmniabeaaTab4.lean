/- Package table's Set. -/
import Derived.Test.YtmdnmknmniabeaaTab3
import Derived.RegionTactic
import Derived.BigRegion
namespace Go.Proofs.Ytmdnmknmniabeaa
open Go.RowKit Pw
set_option linter.unusedSimpArgs false
set_option linter.unusedVariables false

theorem slent_size : (Try.prog.info? 22).map (·.size) = some 1 := by kernel_rfl
theorem en_one (e : En) : ∀ u ∈ enL e, u.oneCell' = true := by
  intro u hu
  have := enC_one e
  rw [← Array.all_toList, List.all_eq_true] at this
  exact this u hu
def hasK (e : En) : Bool := decide (e.k ≠ 0)
theorem set1_any (e : En) (w : World) : Calls Try.prog 60 #[.agg #[.int .i64 e.k, .int .i64 e.n, .bool e.w]] w fun r w' => r = .returned (.bool (hasK e)) ∧ Below w.heap.size w w' := by
  go_enter Try.func60, Try.ntmps60
  go_wp2
  go_ret
  exact ⟨ret_bool (by unfold hasK; rw [Bool.eq_iff_iff]; simp), (Below.refl _ _).alloc (Nat.le_refl _) _⟩
set_option maxHeartbeats 1000000 in
set_option maxRecDepth 100000 in
theorem idxen_any (l : List En) (a : Option Addr) (c : Nat) (w : World) (hrd : RdV w a (l.flatMap enL)) (hl : l.length ≤ 9223372036854775807)  :
    Calls Try.prog 84 #[.slice a l.length c, .func (.func 60) #[] #[]] w fun e w' => e = .returned (.int .i64 (idx hasK l)) ∧ Below w.heap.size w w' := by
  go_enter Try.func84, Try.ntmps84
  go_wp2
  go_loopw [8] (fun i wr => ∃ k : Nat, k ≤ l.length ∧ i = .int .i64 k ∧ Below w.heap.size w wr ∧ ∀ i (h : i < l.length), i < k → hasK l[i] = false) (fun i _ => l.length - (intOf i).toNat)
  case atStart => exact ⟨0, Nat.zero_le _, rfl, Below.refl _ _, fun i _ h => absurd h (Nat.not_lt_zero _)⟩
  case round =>
    obtain ⟨k, hk, rfl, hbr, hp0⟩ := hrel
    have hp := Lib.hid hp0
    clear hp0
    by_cases hlt : k < l.length
    · obtain ⟨b, off, rfl, c0, c1, c2⟩ := en_at (hrd.below hbr) k hlt
      go_wp2_with fail
      refine (set1_any l[k] _).mono ?_
      rintro e w2 ⟨rfl, hb2⟩
      have hbel2 := below_next hbr hb2
      clear hb2
      cases hpk : hasK l[k]
      · have hpk' := Lib.hid hpk
        clear hpk
        go_wp2
        go_roundw
        case rel => exact ⟨k + 1, by omega, by go_num, hbel2, upto' hp.out hlt hpk'.out⟩
        case measure => simp [intOf]; omega
      · have hfin := Lib.hid (idx_at hasK l k hlt hp.out hpk)
        clear hpk
        go_wp2
        go_ret
        exact ⟨ret_int hfin.out.symm, hbel2⟩
    · have hfin := Lib.hid (idx_none hasK l fun i h => hp.out i h (by omega))
      go_wp2
      go_ret
      exact ⟨ret_int hfin.out.symm, hbr⟩
set_option maxHeartbeats 400000 in
theorem conten_any (l : List En) (a : Option Addr) (c : Nat) (w : World) (hrd : RdV w a (l.flatMap enL)) (hl : l.length ≤ 9223372036854775807)  :
    Calls Try.prog 59 #[.slice a l.length c, .func (.func 60) #[] #[]] w fun e w' => e = .returned (.bool (l.any hasK)) ∧ Below w.heap.size w w' := by
  go_enter Try.func59, Try.ntmps59
  go_wp2_with fail
  refine (idxen_any l a c _ hrd hl).mono ?_
  rintro e w2 ⟨rfl, hb2⟩
  go_wp2
  go_ret
  exact ⟨ret_bool (idx_any _ _), hb2⟩

def setE (t : Tb) (n : Int) (e : En) : Int := if wrongT t ≠ 0 then wrongT t else if n < 0 ∨ 64 ≤ n then 3 else entE e
def tidyH (h : List En) : List En := if h.any hasK then h else []
def setH (h : List En) (r : Nat) (e : En) : List En := tidyH ((if h.length = 0 then List.replicate 8 zEn else h).set r e)
def zTb : Tb := Vector.replicate 8 []
def setT (t : Tb) (n : Int) (e : En) : Tb := if h : (0 ≤ n ∧ n < 64) ∧ setE t n e = 0 then t.set (n.toNat / 8) (setH (t[n.toNat / 8]'(by omega)) (n.toNat % 8) e) (by omega) else zTb
theorem setT_err {t : Tb} {n : Int} {e : En} (h : setE t n e ≠ 0) : setT t n e = zTb := by unfold setT; rw [dif_neg (fun h' => h h'.2)]
theorem setT_ok {t : Tb} {n : Int} {e : En} {q r : Nat} (h : setE t n e = 0) (hq : q < 8) (hr : r < 8) (hn : n = ((8 * q + r : Nat) : Int)) : setT t n e = t.set q (setH t[q] r e) := by
  unfold setT
  subst hn
  rw [dif_pos ⟨by omega, h⟩]
  have e1 : (((8 * q + r : Nat) : Int).toNat / 8) = q := by rw [Int.toNat_natCast]; omega
  have e2 : (((8 * q + r : Nat) : Int).toNat % 8) = r := by rw [Int.toNat_natCast]; omega
  simp only [e1, e2]
theorem zTb_O (w : World) (B : Nat) : TbO w B #[.slice none 0 0, .slice none 0 0, .slice none 0 0, .slice none 0 0, .slice none 0 0, .slice none 0 0, .slice none 0 0, .slice none 0 0] zTb where
  sz := rfl
  own := fun k hk => by
    refine ⟨.slice none 0 0, ?_, by simpa [zTb] using Own.nil w B 26 3⟩
    match k, hk with
    | 0, _ => rfl
    | 1, _ => rfl
    | 2, _ => rfl
    | 3, _ => rfl
    | 4, _ => rfl
    | 5, _ => rfl
    | 6, _ => rfl
    | 7, _ => rfl
  apart := fun j k v u hjk h1 h2 g hg => by
    have : v = .slice none 0 0 := by
      match j with
      | 0 => cases h1; rfl
      | 1 => cases h1; rfl
      | 2 => cases h1; rfl
      | 3 => cases h1; rfl
      | 4 => cases h1; rfl
      | 5 => cases h1; rfl
      | 6 => cases h1; rfl
      | 7 => cases h1; rfl
      | j + 8 => cases h1
    subst this
    cases hg
theorem TbO.put {w : World} {B : Nat} {cs : Array Value} {t : Tb} (h : TbO w B cs t) {q : Nat} (hq : q < 8) {v : Value} {l : List En} (ho : Own w B 26 3 v l.length (l.flatMap enL))
    (hnew : ∀ g, v.ownBlock = some g → ∀ j u, j ≠ q → cs[j]? = some u → u.ownBlock ≠ some g) : TbO w B (cs.setIfInBounds q v) (t.set q l) where
  sz := by simp [h.sz]
  own := fun k hk => by
    by_cases e : k = q
    · subst e
      exact ⟨v, by rw [Array.getElem?_setIfInBounds_self_of_lt (by rw [h.sz]; exact hk)], by simpa using ho⟩
    · obtain ⟨u, h1, h2⟩ := h.own k hk
      exact ⟨u, by rw [Array.getElem?_setIfInBounds_ne (fun e2 => e e2.symm)]; exact h1, by rw [Vector.getElem_set_ne hq hk (fun e2 => e e2.symm)]; exact h2⟩
  apart := fun j k x y hjk hx hy g hgx hgy => by
    by_cases e : j = q
    · subst e
      rw [Array.getElem?_setIfInBounds_self_of_lt (by rw [h.sz]; exact hq)] at hx
      cases hx
      rw [Array.getElem?_setIfInBounds_ne (by omega)] at hy
      exact hnew g hgx k y (by omega) hy hgy
    · rw [Array.getElem?_setIfInBounds_ne (fun e2 => e e2.symm)] at hx
      by_cases e2 : k = q
      · subst e2
        rw [Array.getElem?_setIfInBounds_self_of_lt (by rw [h.sz]; exact hq)] at hy
        cases hy
        exact hnew g hgy j x e hx hgx
      · rw [Array.getElem?_setIfInBounds_ne (fun e3 => e2 e3.symm)] at hy
        exact h.apart j k x y hjk hx hy g hgx hgy
/-- Entry r of half q is written. -/
theorem TbO.wr {w : World} {B : Nat} {cs : Array Value} {t : Tb} (h : TbO w B cs t) {q r : Nat} (hq : q < 8) (hr : r < t[q].length) :
    ∃ g off cap cur, cs[q]? = some (.slice (some ⟨g, off, none⟩) t[q].length cap) ∧ B ≤ g ∧ Blk w g cur 26 ∧ off + r * 3 + 3 ≤ cur.size ∧
      (∀ j y, (enL (t[q][r]))[j]? = some y → w.cell? ⟨g, off + r * 3 + j, none⟩ = some y) ∧
      ∀ w' x, Blk w' g (putAt cur (off + r * 3) (enL x)) 26 → w.grownBy w' (some g) → TbO w' B cs (t.set q (t[q].set r x)) := by
  obtain ⟨v, h1, h2⟩ := h.own q hq
  obtain ⟨g, off, cap, cur, rfl, hB, hb, hfit, hcell, hset⟩ := h2.put enL_len (by decide) r hr
  refine ⟨g, off, cap, cur, h1, hB, hb, hfit, hcell, fun w' x hb' hgr => ⟨h.sz, fun k hk => ?_, h.apart⟩⟩
  by_cases e : k = q
  · subst e
    exact ⟨_, h1, by simpa using hset w' x hb'⟩
  · obtain ⟨u, h3, h4⟩ := h.own k hk
    refine ⟨u, h3, ?_⟩
    rw [Vector.getElem_set_ne hq hk (fun e2 => e e2.symm)]
    refine h4.grown hgr fun g' hg' he => ?_
    cases he
    rcases Nat.lt_or_gt_of_ne e with hlt | hlt
    · exact h.apart k q _ _ hlt h3 h1 g hg' rfl
    · exact h.apart q k _ _ hlt h1 h3 g rfl hg'
theorem halfE_len {h : List En} (h0 : halfE h = 0) : h.length = 0 ∨ h.length = 8 := by
  by_cases e : h.length ≠ 0 ∧ h.length ≠ 8
  · rw [halfE_form e] at h0; cases h0
  · omega
theorem wrongT_half {t : Tb} (h : wrongT t = 0) (k : Nat) (hk : k < 8) : halfE t[k] = 0 := by
  have key : ∀ (l : List Int), firstE l = 0 → ∀ x ∈ l, x = 0 := by
    intro l
    induction l with
    | nil => intro _ x hx; cases hx
    | cons y r ih =>
      intro h x hx
      by_cases e : y = 0
      · simp only [firstE, e, if_true] at h
        rcases List.mem_cons.1 hx with rfl | hx
        · exact e
        · exact ih h x hx
      · simp only [firstE, e, if_false] at h
  exact key _ h _ (List.mem_map.2 ⟨t[k], by simp, rfl⟩)
set_option maxHeartbeats 2000000 in
set_option maxRecDepth 100000 in
theorem tset_any (t : Tb) (cs : Array Value) (n : Int) (e : En) (w : World) (h : TbR w cs t) (hz : TbSz t) : Calls Try.prog 18 #[.agg cs, .int .i64 n, .agg (enC e)] w fun r w' => ∃ cs', r = .returned (.tuple #[.agg cs', .int .i64 (setE t n e)]) ∧ TbO w' w.heap.size cs' (setT t n e) ∧ Below w.heap.size w w' := by
  go_enter Try.func18, Try.ntmps18
  go_upto_region 1 with (fail)
  refine abs3 (fun W => Code.wp _ _ _ _ W) fun W0 hb0 hx0 he0 hres0 hs0 => ?_
  clear hs0
  go_wp2_with (refine wpList_ld rfl 24 (.tmp 3) rfl w.heap.size 0 rfl cs.toList hx0.rd _ Try.underlying24 tab_agg (by rw [Array.length_toList, h.sz]; exact tab_size) ?_)
  refine (twrong_any t cs _ (h.below hb0)).mono ?_
  rintro r w1 ⟨rfl, hb1⟩
  have hbel := below_next hb0 hb1
  have hx := hx0.ext hb1
  have he := he0.ext hb1
  have hres := hres0.ext hb1
  clear hb0 hx0 he0 hres0 hb1
  by_cases h0 : wrongT t = 0
  · have H0 := Lib.hid h0
    rw [h0]
    clear h0
    by_cases hn : 0 ≤ n ∧ n < 64
    · obtain ⟨q, r, hq, hr, hnn, hdq, hdr⟩ := split64 hn
      have HN := Lib.hid hnn
      clear hnn
      obtain ⟨n0, n1⟩ := hn
      have hn0 : decide (n < 0) = false := by simp; omega
      have hn1 : decide (64 ≤ n) = false := by simp; omega
      have hq' : (q : Int) < 8 := by omega
      have hr' : (r : Int) < 8 := by omega
      have hdt : n.tmod 8 = (r : Int) := by rw [Int.tmod_eq_emod_of_nonneg n0]; exact hdr
      go_wp2_with (refine wpList_ld rfl 26 (.tmp 5) rfl (w.heap.size + 1) 0 rfl (enC e).toList he.rd _ Try.underlying26 rfl entry_size ?_)
      refine (entry_any e _).mono ?_
      rintro x w2 ⟨rfl, hb2⟩
      have hbel2 := below_next hbel hb2
      have hx2 := hx.ext hb2
      have he2 := he.ext hb2
      have hres2 := hres.ext hb2
      clear hbel hx he hres hb2
      by_cases h1 : entE e = 0
      · have hs0 : setE t n e = 0 := by unfold setE; rw [if_neg (by rw [H0.out]; simp), if_neg (by omega), h1]
        have HS := Lib.hid hs0
        have hset := Lib.hid (setT_ok hs0 hq hr HN.out)
        rw [h1]
        clear h1 hs0
        go_wp2_with (refine wpList_ld rfl 24 (.tmp 3) rfl w.heap.size 0 rfl cs.toList hx2.rd _ Try.underlying24 tab_agg (by rw [Array.length_toList, h.sz]; exact tab_size) ?_)
        refine (town_any t cs _ (h.below hbel2) hz).mono ?_
        rintro x w3 ⟨ca, rfl, hO3, hb3⟩
        have hbel3 := below_next hbel2 hb3
        have he3 := he2.ext hb3
        have hres3 := hres2.ext hb3
        have hone := hO3.rd.one
        have hsz := hO3.sz
        have hO3' := hO3.mono hbel2.size
        clear hbel2 hx2 he2 hres2 hb3 hO3
        go_wp2_with (refine wpList_stw rfl _ (.tmp 10) (.tmp 32) rfl w3.heap.size ca rfl rfl _ _ (Blk.new _ _ _) (by rw [hsz]; rfl) (by rw [hsz]; exact tab_size) hone ?_)
        intro w4 hx4 hgr4
        have hO4 := (hO3'.below ((Below.refl _ _).alloc (Nat.le_refl _) _)).keep (Blk.new _ _ _) (by decide) hgr4
        have he4 := blk_keep (he3.alloc _) (Blk.new _ _ _) (by decide) hgr4
        have hres4 : Blk w4 (w.heap.size + 2) _ _ := (hres3.alloc _).grown hgr4 (fun e => by have := Option.some.inj e; have := hres3.lt; omega)
        have hbel4 : Below w.heap.size w w4 := (hbel3.alloc hbel3.size _).grown hgr4 (le_alloc' hbel3.size _) (fun k hk => by cases hk; exact hbel3.size)
        have hge : w.heap.size + 2 < w3.heap.size := hres3.lt
        have hg4 : w3.heap.size < w4.heap.size := hx4.lt
        clear he3 hres3 hgr4 hO3' hone
        have hl8 := halfE_len (wrongT_half H0.out q hq)
        obtain ⟨v, hv, hown⟩ := hO4.own q hq
        obtain ⟨av, cv, rfl, hvle, hvmx, _⟩ := hown.rd
        have HV := Lib.hid hv
        have hc4 := (hx4.cell q).trans hv
        rcases hl8 with h0 | h8
        · have H00 := Lib.hid h0
          rw [h0] at hc4
          clear hv hown h0
          go_wp2_with (refine wpList_mk _ rfl (.const (.int .i64 8)) (.const (.int .i64 8)) 22 rfl enL 26 _ 3 24 zEn enL_len (by decide) Try.underlying22 entry_info rfl .i64 .i64 8 8 8 rfl rfl rfl rfl (by omega) (by unfold maxLen; omega) ?_)
          intro w5 ho5 hgr5
          have hx5 := hx4.grown hgr5 (by simp)
          have he5 := he4.grown hgr5 (by simp)
          have hres5 := hres4.grown hgr5 (by simp)
          have hO5 : TbO w5 w.heap.size ca t := hO4.below (grown_below hgr5)
          have hbel5 := below_next hbel4 (grown_below hgr5)
          have hnew : ∀ g, (Value.slice (some ⟨w4.heap.size, 0, none⟩) 8 8).ownBlock = some g → ∀ j u, j ≠ q → ca[j]? = some u → u.ownBlock ≠ some g := by
            intro g hg j u hj hu hgu
            cases hg
            obtain ⟨v', hv', ho'⟩ := hO4.own j (by
              rcases Nat.lt_or_ge j 8 with hk | hk
              · exact hk
              · rw [Array.getElem?_eq_none (by rw [hsz]; exact hk)] at hu; cases hu)
            rw [hu] at hv'
            cases hv'
            exact absurd (own_lt ho' _ hgu) (Nat.lt_irrefl _)
          go_wp2_with (refine wpList_stv rfl _ (.tmp 43) (.tmp 42) rfl w3.heap.size q _ [.slice (some ⟨w4.heap.size, 0, none⟩) 8 8] rfl rfl rfl _ _ hx5 (by rw [hsz]; exact hq) slent_size (fun u hu => by cases List.mem_singleton.1 hu; rfl) ?_)
          intro w6 hx6 hgr6
          rw [putAt_one] at hx6
          have ho5' : Own w5 w.heap.size 26 3 (.slice (some ⟨w4.heap.size, 0, none⟩) 8 8) (List.replicate 8 zEn).length ((List.replicate 8 zEn).flatMap enL) := ho5.mono hbel4.size
          have hO6 := (hO5.keep hx5 (by decide) hgr6).put hq (own_keep ho5' hx5 (by decide) hgr6) hnew
          have he6 := blk_keep he5 hx5 (by decide) hgr6
          have hres6 : Blk w6 (w.heap.size + 2) _ _ := hres5.grown hgr6 (fun e => by have := Option.some.inj e; omega)
          have hbel6 := hbel5.grown hgr6 hbel5.size (fun k hk => by cases hk; exact hbel3.size)
          have hcv : (ca.setIfInBounds q (Value.slice (some ⟨w4.heap.size, 0, none⟩) 8 8))[q]? = some (.slice (some ⟨w4.heap.size, 0, none⟩) 8 8) := Array.getElem?_setIfInBounds_self_of_lt (by rw [hsz]; exact hq)
          have HH : Hid (∀ l, (t.set q (List.replicate 8 zEn)).set q l = t.set q l) := Lib.hid (fun l => by simp)
          have HL : Hid ((t.set q (List.replicate 8 zEn))[q] = (if t[q].length = 0 then List.replicate 8 zEn else t[q])) := Lib.hid (by rw [if_pos H00.out]; simp)
          have HL8 : Hid ((t.set q (List.replicate 8 zEn))[q].length = 8) := Lib.hid (by simp)
          go_upto_region 13 with (fail)
          generalize hT6 : t.set q (List.replicate 8 zEn) = t6 at HH HL HL8 hO6
          generalize hC6 : ca.setIfInBounds q (Value.slice (some ⟨w4.heap.size, 0, none⟩) 8 8) = c6 at hcv hO6 hx6
          have hw6 := hx6.lt
          clear hT6 hC6 hx5 he5 hres5 hO5 hbel5 hgr5 hgr6 hnew ho5 ho5' hx4 he4 hres4 hO4 hbel4 hc4 hn0 hn1
          obtain ⟨g, off, cap, cur, hgv, hBg, hbg, hfit, _, hset⟩ := hO6.wr hq (r := r) (by rw [HL8.out]; exact hr)
          rw [HL8.out] at hgv
          clear hcv
          have HGV := Lib.hid hgv
          clear hgv
          refine wp_grow 7 [isV (.pointer (some ⟨w3.heap.size, q, none⟩)), isV (.pointer (some ⟨w3.heap.size, q, none⟩)), isV (.slice (some ⟨g, off, none⟩) 8 cap), isV (.int .i64 n), isV (.int .i64 r), isV (.agg (enC e)), isV (.pointer (some ⟨g, off + r * 3, none⟩))] (by kernel_rfl) (by kernel_rfl) (by kernel_rfl) (by decide) _ rfl (by kernel_rfl) (all_cons ?_ (all_cons ?_ (all_cons ?_ (all_cons ?_ (all_cons ?_ (all_cons ?_ (all_cons ?_ (all_nil)))))))) ?_
          · intro ρ y W hw hn hb hd
            have E11 : ρ (.tmp 11) = .pointer (some ⟨w3.heap.size, q, none⟩) := (hn (.tmp 11) rfl).trans rfl
            refine asked_val (.pointer (some ⟨w3.heap.size, q, none⟩)) (want_free rfl) (run_move (.inl rfl) E11) rfl
          · intro ρ y W hw hn hb hd
            have E44 := hw 44 0 rfl
            have h0 : y 0 = .pointer (some ⟨w3.heap.size, q, none⟩) := hd 0 rfl
            refine asked_val (.pointer (some ⟨w3.heap.size, q, none⟩)) (want_free rfl) (by simp [execOp, go_sem, E44, h0]) rfl
          · intro ρ y W hw hn hb hd
            have E45 := hw 45 1 rfl
            have h1 : y 1 = .pointer (some ⟨w3.heap.size, q, none⟩) := hd 1 rfl
            refine asked_val (.slice (some ⟨g, off, none⟩) 8 cap) (want_free rfl) (by simp [execOp, go_sem, E45, h1, (((hx6.ext hb).cell q).trans HGV.out), Try.underlying22]) rfl
          · intro ρ y W hw hn hb hd
            have E1 : ρ (.tmp 1) = .int .i64 n := (hn (.tmp 1) rfl).trans rfl
            refine asked_val (.int .i64 n) (want_free rfl) (run_move (.inl rfl) E1) rfl
          · intro ρ y W hw hn hb hd
            have E47 := hw 47 3 rfl
            have h3 : y 3 = .int .i64 n := hd 3 rfl
            refine asked_val (.int .i64 r) (want_free rfl) (run_bin rfl (E47.trans h3) (hn (.const _) trivial) (by simp [go_sem, hdt])) rfl
          · intro ρ y W hw hn hb hd
            have E5 : ρ (.tmp 5) = .pointer (some ⟨w.heap.size + 1, 0, none⟩) := (hn (.tmp 5) rfl).trans rfl
            refine asked_val (.agg (enC e)) (want_free rfl) (run_load_blk rfl E5 (he6.ext hb) Try.underlying26 rfl entry_size) rfl
          · intro ρ y W hw hn hb hd
            have E46 := hw 46 2 rfl
            have h2 : y 2 = .slice (some ⟨g, off, none⟩) 8 cap := hd 2 rfl
            have E48 := hw 48 4 rfl
            have h4 : y 4 = .int .i64 r := hd 4 rfl
            refine asked_val (.pointer (some ⟨g, off + r * 3, none⟩)) (want_free rfl) (by simp [execOp, go_sem, E46, h2, E48, h4, Try.underlying22, hr']) rfl
          intro y WA hbWA hRWA
          have hy0 : y 0 = .pointer (some ⟨w3.heap.size, q, none⟩) := hRWA 0 (by decide)
          have hy1 : y 1 = .pointer (some ⟨w3.heap.size, q, none⟩) := hRWA 1 (by decide)
          have hy2 : y 2 = .slice (some ⟨g, off, none⟩) 8 cap := hRWA 2 (by decide)
          have hy3 : y 3 = .int .i64 n := hRWA 3 (by decide)
          have hy4 : y 4 = .int .i64 r := hRWA 4 (by decide)
          have hy5 : y 5 = .agg (enC e) := hRWA 5 (by decide)
          have hy6 : y 6 = .pointer (some ⟨g, off + r * 3, none⟩) := hRWA 6 (by decide)
          clear hRWA
          simp only [lay, Nat.reduceAdd, Nat.reduceLT, decide_true, decide_false, if_true, Bool.false_eq_true, if_false, List.setIfInBounds_toArray, List.set_cons_zero, List.set_cons_succ, List.drop_succ_cons, List.drop_zero, List.drop_nil, hy0, hy1, hy2, hy3, hy4, hy5, hy6]
          clear hy0 hy1 hy2 hy3 hy4 hy5 hy6
          have hx7 := hx6.ext hbWA
          have hres7 := hres6.ext hbWA
          have hbel7 := below_next hbel6 hbWA
          have hw7 : w3.heap.size < WA.heap.size := hx7.lt
          clear hbg hset
          obtain ⟨g2, off2, cap2, cur2, hgv2, hBg2, hbg2, hfit2, _, hset2⟩ := (hO6.below hbWA).wr hq (r := r) (by rw [HL8.out]; exact hr)
          have hE7 := Option.some.inj (HGV.out.symm.trans hgv2)
          simp only [Value.slice.injEq, Option.some.injEq, Addr.mk.injEq, and_true] at hE7
          obtain ⟨⟨rfl, rfl⟩, hl8', rfl⟩ := hE7
          clear hgv2 hl8' hx6 hres6 hbel6 hbWA
          go_wp2_with (refine wpList_stv rfl _ (.tmp 50) (.tmp 49) rfl g (off + r * 3) _ (enL e) rfl rfl rfl _ _ hbg2 hfit2 entry_size (en_one e) ?_)
          intro w8 hb8 hgr8
          have hO8 := hset2 w8 e hb8 hgr8
          have hx8 := blk_keep hx7 hbg2 (by decide) hgr8
          have hres8 := blk_keep hres7 hbg2 (by decide) hgr8
          have hbel8 := hbel7.grown hgr8 hbel7.size (fun k hk => by cases hk; exact hBg)
          have hc8 := (hx8.cell q).trans HGV.out
          have hset8 : Hid (t6.set q (t6[q].set r e) = t.set q (t6[q].set r e)) := Lib.hid (HH.out _)
          have hl8 : Hid ((t6[q].set r e).length = 8) := Lib.hid (by rw [List.length_set]; exact HL8.out)
          have hrd8 : RdV w8 (some ⟨g, off, none⟩) ((t6[q].set r e).flatMap enL) := by
            obtain ⟨v, h1, h2⟩ := hO8.own q hq
            obtain rfl := Option.some.inj (HGV.out.symm.trans h1)
            obtain ⟨a', c', h3, _, _, _, h4⟩ := h2.rd
            simp only [Value.slice.injEq] at h3
            obtain ⟨rfl, _, _⟩ := h3
            simpa using h4
          have hany : Hid (setH t[q] r e = if (t6[q].set r e).any hasK then t6[q].set r e else []) := Lib.hid (by rw [HL.out]; rfl)
          clear hx7 hres7 hbel7 hbg2 hb8 hgr8 hset2 hO6 he6
          generalize hl8e : t6[q].set r e = l8 at hset8 hl8 hrd8 hany hO8
          clear hl8e
          have HC : ∀ W, RdV W (some ⟨g, off, none⟩) (l8.flatMap enL) → Calls Try.prog 59 #[.slice (some ⟨g, off, none⟩) 8 cap, .func (.func 60) #[] #[]] W fun e w' => e = .returned (.bool (l8.any hasK)) ∧ Below W.heap.size W w' := by
            intro W hW
            have := conten_any l8 (some ⟨g, off, none⟩) cap W hW (by rw [hl8.out]; decide)
            rw [hl8.out] at this
            exact this
          have HC' := Lib.hid HC
          clear HC
          go_wp2_with fail
          refine (HC'.out _ hrd8).mono ?_
          rintro x w9 ⟨rfl, hb9⟩
          have hx9 := hx8.ext hb9
          have hres9 := hres8.ext hb9
          have hbel9 := below_next hbel8 hb9
          have hO9 := hO8.below hb9
          have hz9 := hO9.sz
          clear hx8 hres8 hbel8 hO8 hrd8 hb9 hc8
          cases hk : l8.any hasK
          · have hfin : Hid (t.set q (setH t[q] r e) = t.set q []) := Lib.hid (by rw [hany.out, hk]; rfl)
            have hone1 : ∀ u ∈ [Value.slice none 0 0], u.oneCell' = true := fun u hu => by cases List.mem_singleton.1 hu; rfl
            clear hany
            go_wp2_with (refine wpList_stv rfl _ (.tmp 57) (.const (.slice none 0 0)) rfl w3.heap.size q _ [.slice none 0 0] rfl rfl rfl _ _ hx9 (by rw [hz9]; exact hq) slent_size hone1 ?_)
            intro wa hxa hgra
            rw [putAt_one] at hxa
            have hOa := (hO9.keep hx9 (by decide) hgra).put hq (v := .slice none 0 0) (l := []) (Own.nil _ _ _ _) (fun g hg => by cases hg)
            have hresa : Blk wa (w.heap.size + 2) _ _ := hres9.grown hgra (fun e => by have := Option.some.inj e; omega)
            have hbela := hbel9.grown hgra hbel9.size (fun k hk => by cases hk; exact hbel3.size)
            have hta : Hid ((t6.set q l8).set q [] = t.set q (setH t[q] r e)) := Lib.hid (by rw [hset8.out, hfin.out]; simp)
            clear hx9 hres9 hbel9 hO9 hgra
            generalize hCa : c6.setIfInBounds q (Value.slice none 0 0) = ca2 at hOa hxa
            clear hCa
            have honea := hOa.rd.one
            have hsza := hOa.sz
            go_wp2_with (first | (refine wpList_ld rfl 24 (.tmp 10) rfl w3.heap.size 0 rfl ca2.toList hxa.rd _ Try.underlying24 tab_agg (by rw [Array.length_toList, hsza]; exact tab_size) ?_) | (refine wpList_stw rfl _ (.tmp 6) (.tmp 58) rfl (w.heap.size + 2) ca2 rfl rfl _ _ hresa (by rw [hsza]; rfl) (by rw [hsza]; exact tab_size) honea ?_))
            intro wb hrb hgrb
            have hOb := hOa.keep hresa (by decide) hgrb
            have hbelb := hbela.grown hgrb hbela.size (fun k hk => by cases hk; omega)
            go_wp2
            refine bodyPost_ret (v := .tuple #[.agg ca2, .int .i64 0]) (results_ct Try.results18 _ _ (w.heap.size + 2) _ _ _ _ rfl rfl hrb Try.underlying24 rfl (by rw [hsza]; exact tab_size)) rfl ?_
            exact ⟨_, by rw [HS.out], by rw [hset.out, ← hta.out]; exact hOb, hbelb⟩
          · have hta : Hid (t6.set q l8 = t.set q (setH t[q] r e)) := Lib.hid (by rw [hset8.out, hany.out, hk]; rfl)
            have hOa := hO9
            have hxa := hx9
            have hresa := hres9
            have hbela := hbel9
            clear hx9 hres9 hbel9 hO9 hany
            generalize hCa : c6 = ca2 at hOa hxa
            clear hCa
            have honea := hOa.rd.one
            have hsza := hOa.sz
            go_wp2_with (first | (refine wpList_ld rfl 24 (.tmp 10) rfl w3.heap.size 0 rfl ca2.toList hxa.rd _ Try.underlying24 tab_agg (by rw [Array.length_toList, hsza]; exact tab_size) ?_) | (refine wpList_stw rfl _ (.tmp 6) (.tmp 58) rfl (w.heap.size + 2) ca2 rfl rfl _ _ hresa (by rw [hsza]; rfl) (by rw [hsza]; exact tab_size) honea ?_))
            intro wb hrb hgrb
            have hOb := hOa.keep hresa (by decide) hgrb
            have hbelb := hbela.grown hgrb hbela.size (fun k hk => by cases hk; omega)
            go_wp2
            refine bodyPost_ret (v := .tuple #[.agg ca2, .int .i64 0]) (results_ct Try.results18 _ _ (w.heap.size + 2) _ _ _ _ rfl rfl hrb Try.underlying24 rfl (by rw [hsza]; exact tab_size)) rfl ?_
            exact ⟨_, by rw [HS.out], by rw [hset.out, ← hta.out]; exact hOb, hbelb⟩
        · have hx6 := hx4
          have he6 := he4
          have hres6 := hres4
          have hO6 := hO4
          have hbel6 := hbel4
          have hcv := HV.out
          have hc6 := hc4
          rw [h8] at hc6
          have HL : Hid (t[q] = (if t[q].length = 0 then List.replicate 8 zEn else t[q])) := Lib.hid (by rw [if_neg (by omega)])
          have HL8 : Hid (t[q].length = 8) := Lib.hid h8
          have hl0 : ((8 : Int) == 0) = false := by decide
          clear h8 hv hown hc4
          go_upto_region 13 with (fail)
          generalize hT6 : t[q] = tq at HL HL8
          obtain ⟨t6, hT7⟩ : ∃ t6, t6 = t := ⟨_, rfl⟩
          have HH : Hid (∀ l : List En, t6.set q l hq = t.set q l hq) := Lib.hid (fun l => by rw [hT7])
          have HL : Hid (t6[q] = (if t[q].length = 0 then List.replicate 8 zEn else t[q])) := Lib.hid (by rw [hT7, hT6]; exact HL.out)
          have HL8 : Hid (t6[q].length = 8) := Lib.hid (by rw [hT7, hT6]; exact HL8.out)
          have hO6 : TbO w4 w.heap.size ca t6 := by rw [hT7]; exact hO6
          have hw6 := hx6.lt
          obtain ⟨c6, hC6⟩ : ∃ c6, c6 = ca := ⟨_, rfl⟩
          rw [← hC6] at hcv hO6 hx6
          clear hT6 hT7 hC6 hx4 he4 hres4 hO4 hbel4 hc6 hn0 hn1
          obtain ⟨g, off, cap, cur, hgv, hBg, hbg, hfit, _, hset⟩ := hO6.wr hq (r := r) (by rw [HL8.out]; exact hr)
          rw [HL8.out] at hgv
          clear hcv
          have HGV := Lib.hid hgv
          clear hgv
          refine wp_grow 7 [isV (.pointer (some ⟨w3.heap.size, q, none⟩)), isV (.pointer (some ⟨w3.heap.size, q, none⟩)), isV (.slice (some ⟨g, off, none⟩) 8 cap), isV (.int .i64 n), isV (.int .i64 r), isV (.agg (enC e)), isV (.pointer (some ⟨g, off + r * 3, none⟩))] (by kernel_rfl) (by kernel_rfl) (by kernel_rfl) (by decide) _ rfl (by kernel_rfl) (all_cons ?_ (all_cons ?_ (all_cons ?_ (all_cons ?_ (all_cons ?_ (all_cons ?_ (all_cons ?_ (all_nil)))))))) ?_
          · intro ρ y W hw hn hb hd
            have E11 : ρ (.tmp 11) = .pointer (some ⟨w3.heap.size, q, none⟩) := (hn (.tmp 11) rfl).trans rfl
            refine asked_val (.pointer (some ⟨w3.heap.size, q, none⟩)) (want_free rfl) (run_move (.inl rfl) E11) rfl
          · intro ρ y W hw hn hb hd
            have E44 := hw 44 0 rfl
            have h0 : y 0 = .pointer (some ⟨w3.heap.size, q, none⟩) := hd 0 rfl
            refine asked_val (.pointer (some ⟨w3.heap.size, q, none⟩)) (want_free rfl) (by simp [execOp, go_sem, E44, h0]) rfl
          · intro ρ y W hw hn hb hd
            have E45 := hw 45 1 rfl
            have h1 : y 1 = .pointer (some ⟨w3.heap.size, q, none⟩) := hd 1 rfl
            refine asked_val (.slice (some ⟨g, off, none⟩) 8 cap) (want_free rfl) (by simp [execOp, go_sem, E45, h1, (((hx6.ext hb).cell q).trans HGV.out), Try.underlying22]) rfl
          · intro ρ y W hw hn hb hd
            have E1 : ρ (.tmp 1) = .int .i64 n := (hn (.tmp 1) rfl).trans rfl
            refine asked_val (.int .i64 n) (want_free rfl) (run_move (.inl rfl) E1) rfl
          · intro ρ y W hw hn hb hd
            have E47 := hw 47 3 rfl
            have h3 : y 3 = .int .i64 n := hd 3 rfl
            refine asked_val (.int .i64 r) (want_free rfl) (run_bin rfl (E47.trans h3) (hn (.const _) trivial) (by simp [go_sem, hdt])) rfl
          · intro ρ y W hw hn hb hd
            have E5 : ρ (.tmp 5) = .pointer (some ⟨w.heap.size + 1, 0, none⟩) := (hn (.tmp 5) rfl).trans rfl
            refine asked_val (.agg (enC e)) (want_free rfl) (run_load_blk rfl E5 (he6.ext hb) Try.underlying26 rfl entry_size) rfl
          · intro ρ y W hw hn hb hd
            have E46 := hw 46 2 rfl
            have h2 : y 2 = .slice (some ⟨g, off, none⟩) 8 cap := hd 2 rfl
            have E48 := hw 48 4 rfl
            have h4 : y 4 = .int .i64 r := hd 4 rfl
            refine asked_val (.pointer (some ⟨g, off + r * 3, none⟩)) (want_free rfl) (by simp [execOp, go_sem, E46, h2, E48, h4, Try.underlying22, hr']) rfl
          intro y WA hbWA hRWA
          have hy0 : y 0 = .pointer (some ⟨w3.heap.size, q, none⟩) := hRWA 0 (by decide)
          have hy1 : y 1 = .pointer (some ⟨w3.heap.size, q, none⟩) := hRWA 1 (by decide)
          have hy2 : y 2 = .slice (some ⟨g, off, none⟩) 8 cap := hRWA 2 (by decide)
          have hy3 : y 3 = .int .i64 n := hRWA 3 (by decide)
          have hy4 : y 4 = .int .i64 r := hRWA 4 (by decide)
          have hy5 : y 5 = .agg (enC e) := hRWA 5 (by decide)
          have hy6 : y 6 = .pointer (some ⟨g, off + r * 3, none⟩) := hRWA 6 (by decide)
          clear hRWA
          simp only [lay, Nat.reduceAdd, Nat.reduceLT, decide_true, decide_false, if_true, Bool.false_eq_true, if_false, List.setIfInBounds_toArray, List.set_cons_zero, List.set_cons_succ, List.drop_succ_cons, List.drop_zero, List.drop_nil, hy0, hy1, hy2, hy3, hy4, hy5, hy6]
          clear hy0 hy1 hy2 hy3 hy4 hy5 hy6
          have hx7 := hx6.ext hbWA
          have hres7 := hres6.ext hbWA
          have hbel7 := below_next hbel6 hbWA
          have hw7 : w3.heap.size < WA.heap.size := hx7.lt
          clear hbg hset
          obtain ⟨g2, off2, cap2, cur2, hgv2, hBg2, hbg2, hfit2, _, hset2⟩ := (hO6.below hbWA).wr hq (r := r) (by rw [HL8.out]; exact hr)
          have hE7 := Option.some.inj (HGV.out.symm.trans hgv2)
          simp only [Value.slice.injEq, Option.some.injEq, Addr.mk.injEq, and_true] at hE7
          obtain ⟨⟨rfl, rfl⟩, hl8', rfl⟩ := hE7
          clear hgv2 hl8' hx6 hres6 hbel6 hbWA
          go_wp2_with (refine wpList_stv rfl _ (.tmp 50) (.tmp 49) rfl g (off + r * 3) _ (enL e) rfl rfl rfl _ _ hbg2 hfit2 entry_size (en_one e) ?_)
          intro w8 hb8 hgr8
          have hO8 := hset2 w8 e hb8 hgr8
          have hx8 := blk_keep hx7 hbg2 (by decide) hgr8
          have hres8 := blk_keep hres7 hbg2 (by decide) hgr8
          have hbel8 := hbel7.grown hgr8 hbel7.size (fun k hk => by cases hk; exact hBg)
          have hc8 := (hx8.cell q).trans HGV.out
          have hset8 : Hid (t6.set q (t6[q].set r e) = t.set q (t6[q].set r e)) := Lib.hid (HH.out _)
          have hl8 : Hid ((t6[q].set r e).length = 8) := Lib.hid (by rw [List.length_set]; exact HL8.out)
          have hrd8 : RdV w8 (some ⟨g, off, none⟩) ((t6[q].set r e).flatMap enL) := by
            obtain ⟨v, h1, h2⟩ := hO8.own q hq
            obtain rfl := Option.some.inj (HGV.out.symm.trans h1)
            obtain ⟨a', c', h3, _, _, _, h4⟩ := h2.rd
            simp only [Value.slice.injEq] at h3
            obtain ⟨rfl, _, _⟩ := h3
            simpa using h4
          have hany : Hid (setH t[q] r e = if (t6[q].set r e).any hasK then t6[q].set r e else []) := Lib.hid (by rw [HL.out]; rfl)
          clear hx7 hres7 hbel7 hbg2 hb8 hgr8 hset2 hO6 he6
          generalize hl8e : t6[q].set r e = l8 at hset8 hl8 hrd8 hany hO8
          clear hl8e
          have HC : ∀ W, RdV W (some ⟨g, off, none⟩) (l8.flatMap enL) → Calls Try.prog 59 #[.slice (some ⟨g, off, none⟩) 8 cap, .func (.func 60) #[] #[]] W fun e w' => e = .returned (.bool (l8.any hasK)) ∧ Below W.heap.size W w' := by
            intro W hW
            have := conten_any l8 (some ⟨g, off, none⟩) cap W hW (by rw [hl8.out]; decide)
            rw [hl8.out] at this
            exact this
          have HC' := Lib.hid HC
          clear HC
          go_wp2_with fail
          refine (HC'.out _ hrd8).mono ?_
          rintro x w9 ⟨rfl, hb9⟩
          have hx9 := hx8.ext hb9
          have hres9 := hres8.ext hb9
          have hbel9 := below_next hbel8 hb9
          have hO9 := hO8.below hb9
          have hz9 := hO9.sz
          clear hx8 hres8 hbel8 hO8 hrd8 hb9 hc8
          cases hk : l8.any hasK
          · have hfin : Hid (t.set q (setH t[q] r e) = t.set q []) := Lib.hid (by rw [hany.out, hk]; rfl)
            have hone1 : ∀ u ∈ [Value.slice none 0 0], u.oneCell' = true := fun u hu => by cases List.mem_singleton.1 hu; rfl
            clear hany
            go_wp2_with (refine wpList_stv rfl _ (.tmp 57) (.const (.slice none 0 0)) rfl w3.heap.size q _ [.slice none 0 0] rfl rfl rfl _ _ hx9 (by rw [hz9]; exact hq) slent_size hone1 ?_)
            intro wa hxa hgra
            rw [putAt_one] at hxa
            have hOa := (hO9.keep hx9 (by decide) hgra).put hq (v := .slice none 0 0) (l := []) (Own.nil _ _ _ _) (fun g hg => by cases hg)
            have hresa : Blk wa (w.heap.size + 2) _ _ := hres9.grown hgra (fun e => by have := Option.some.inj e; omega)
            have hbela := hbel9.grown hgra hbel9.size (fun k hk => by cases hk; exact hbel3.size)
            have hta : Hid ((t6.set q l8).set q [] = t.set q (setH t[q] r e)) := Lib.hid (by rw [hset8.out, hfin.out]; simp)
            clear hx9 hres9 hbel9 hO9 hgra
            generalize hCa : c6.setIfInBounds q (Value.slice none 0 0) = ca2 at hOa hxa
            clear hCa
            have honea := hOa.rd.one
            have hsza := hOa.sz
            go_wp2_with (first | (refine wpList_ld rfl 24 (.tmp 10) rfl w3.heap.size 0 rfl ca2.toList hxa.rd _ Try.underlying24 tab_agg (by rw [Array.length_toList, hsza]; exact tab_size) ?_) | (refine wpList_stw rfl _ (.tmp 6) (.tmp 58) rfl (w.heap.size + 2) ca2 rfl rfl _ _ hresa (by rw [hsza]; rfl) (by rw [hsza]; exact tab_size) honea ?_))
            intro wb hrb hgrb
            have hOb := hOa.keep hresa (by decide) hgrb
            have hbelb := hbela.grown hgrb hbela.size (fun k hk => by cases hk; omega)
            go_wp2
            refine bodyPost_ret (v := .tuple #[.agg ca2, .int .i64 0]) (results_ct Try.results18 _ _ (w.heap.size + 2) _ _ _ _ rfl rfl hrb Try.underlying24 rfl (by rw [hsza]; exact tab_size)) rfl ?_
            exact ⟨_, by rw [HS.out], by rw [hset.out, ← hta.out]; exact hOb, hbelb⟩
          · have hta : Hid (t6.set q l8 = t.set q (setH t[q] r e)) := Lib.hid (by rw [hset8.out, hany.out, hk]; rfl)
            have hOa := hO9
            have hxa := hx9
            have hresa := hres9
            have hbela := hbel9
            clear hx9 hres9 hbel9 hO9 hany
            generalize hCa : c6 = ca2 at hOa hxa
            clear hCa
            have honea := hOa.rd.one
            have hsza := hOa.sz
            go_wp2_with (first | (refine wpList_ld rfl 24 (.tmp 10) rfl w3.heap.size 0 rfl ca2.toList hxa.rd _ Try.underlying24 tab_agg (by rw [Array.length_toList, hsza]; exact tab_size) ?_) | (refine wpList_stw rfl _ (.tmp 6) (.tmp 58) rfl (w.heap.size + 2) ca2 rfl rfl _ _ hresa (by rw [hsza]; rfl) (by rw [hsza]; exact tab_size) honea ?_))
            intro wb hrb hgrb
            have hOb := hOa.keep hresa (by decide) hgrb
            have hbelb := hbela.grown hgrb hbela.size (fun k hk => by cases hk; omega)
            go_wp2
            refine bodyPost_ret (v := .tuple #[.agg ca2, .int .i64 0]) (results_ct Try.results18 _ _ (w.heap.size + 2) _ _ _ _ rfl rfl hrb Try.underlying24 rfl (by rw [hsza]; exact tab_size)) rfl ?_
            exact ⟨_, by rw [HS.out], by rw [hset.out, ← hta.out]; exact hOb, hbelb⟩
      · have q0 : Hid (setE t n e = entE e ∧ entE e ≠ 0) := Lib.hid ⟨by unfold setE; rw [if_neg (by rw [H0.out]; simp), if_neg (by omega)], h1⟩
        have h1' : (entE e != 0) = true := by simpa using h1
        have hbel := hbel2
        have hres := hres2
        clear h1 hbel2 hres2
        go_wp2_with (refine wpList_stw rfl _ (.tmp 6) (.tmp 29) rfl (w.heap.size + 2) #[.slice none 0 0, .slice none 0 0, .slice none 0 0, .slice none 0 0, .slice none 0 0, .slice none 0 0, .slice none 0 0, .slice none 0 0] rfl rfl _ _ hres rfl tab_size (by simp [Value.oneCell']) ?_)
        all_goals
          intro w5 hr5 hgr5
          have hbel5 : Below w.heap.size w w5 := hbel.grown hgr5 hbel.size (fun k hk => by cases hk; omega)
          go_wp2
          refine bodyPost_ret (v := .tuple #[.agg #[.slice none 0 0, .slice none 0 0, .slice none 0 0, .slice none 0 0, .slice none 0 0, .slice none 0 0, .slice none 0 0, .slice none 0 0], .int .i64 (entE e)]) (results_ct Try.results18 _ _ (w.heap.size + 2) _ _ _ _ rfl rfl hr5 Try.underlying24 rfl tab_size) rfl ?_
          have q := q0.out
          exact ⟨_, by rw [q.1], by rw [setT_err (by rw [q.1]; exact q.2)]; exact zTb_O _ _, hbel5⟩
    · have q0 : Hid (setE t n e = 3 ∧ (3 : Int) ≠ 0) := Lib.hid ⟨by unfold setE; rw [if_neg (by rw [H0.out]; simp), if_pos (by omega)], by decide⟩
      have hn' : n < 0 ∨ 64 ≤ n := by omega
      clear hn
      by_cases hn0 : n < 0
      · skip
        go_wp2_with (refine wpList_stw rfl _ (.tmp 6) (.tmp 24) rfl (w.heap.size + 2) #[.slice none 0 0, .slice none 0 0, .slice none 0 0, .slice none 0 0, .slice none 0 0, .slice none 0 0, .slice none 0 0, .slice none 0 0] rfl rfl _ _ hres rfl tab_size (by simp [Value.oneCell']) ?_)
        all_goals
          intro w5 hr5 hgr5
          have hbel5 : Below w.heap.size w w5 := hbel.grown hgr5 hbel.size (fun k hk => by cases hk; omega)
          go_wp2
          refine bodyPost_ret (v := .tuple #[.agg #[.slice none 0 0, .slice none 0 0, .slice none 0 0, .slice none 0 0, .slice none 0 0, .slice none 0 0, .slice none 0 0, .slice none 0 0], .int .i64 (3)]) (results_ct Try.results18 _ _ (w.heap.size + 2) _ _ _ _ rfl rfl hr5 Try.underlying24 rfl tab_size) rfl ?_
          have q := q0.out
          exact ⟨_, by rw [q.1], by rw [setT_err (by rw [q.1]; exact q.2)]; exact zTb_O _ _, hbel5⟩
      · have hn1 : 64 ≤ n := by omega
        have hn0' : decide (n < 0) = false := by simp; omega
        go_wp2_with (refine wpList_stw rfl _ (.tmp 6) (.tmp 24) rfl (w.heap.size + 2) #[.slice none 0 0, .slice none 0 0, .slice none 0 0, .slice none 0 0, .slice none 0 0, .slice none 0 0, .slice none 0 0, .slice none 0 0] rfl rfl _ _ hres rfl tab_size (by simp [Value.oneCell']) ?_)
        all_goals
          intro w5 hr5 hgr5
          have hbel5 : Below w.heap.size w w5 := hbel.grown hgr5 hbel.size (fun k hk => by cases hk; omega)
          go_wp2
          refine bodyPost_ret (v := .tuple #[.agg #[.slice none 0 0, .slice none 0 0, .slice none 0 0, .slice none 0 0, .slice none 0 0, .slice none 0 0, .slice none 0 0, .slice none 0 0], .int .i64 (3)]) (results_ct Try.results18 _ _ (w.heap.size + 2) _ _ _ _ rfl rfl hr5 Try.underlying24 rfl tab_size) rfl ?_
          have q := q0.out
          exact ⟨_, by rw [q.1], by rw [setT_err (by rw [q.1]; exact q.2)]; exact zTb_O _ _, hbel5⟩
  · have q0 : Hid (setE t n e = wrongT t ∧ wrongT t ≠ 0) := Lib.hid ⟨by unfold setE; rw [if_pos h0], h0⟩
    have h0' : (wrongT t != 0) = true := by simpa using h0
    clear h0
    go_wp2_with (refine wpList_stw rfl _ (.tmp 6) (.tmp 16) rfl (w.heap.size + 2) #[.slice none 0 0, .slice none 0 0, .slice none 0 0, .slice none 0 0, .slice none 0 0, .slice none 0 0, .slice none 0 0, .slice none 0 0] rfl rfl _ _ hres rfl tab_size (by simp [Value.oneCell']) ?_)
    all_goals
      intro w5 hr5 hgr5
      have hbel5 : Below w.heap.size w w5 := hbel.grown hgr5 hbel.size (fun k hk => by cases hk; omega)
      go_wp2
      refine bodyPost_ret (v := .tuple #[.agg #[.slice none 0 0, .slice none 0 0, .slice none 0 0, .slice none 0 0, .slice none 0 0, .slice none 0 0, .slice none 0 0, .slice none 0 0], .int .i64 (wrongT t)]) (results_ct Try.results18 _ _ (w.heap.size + 2) _ _ _ _ rfl rfl hr5 Try.underlying24 rfl tab_size) rfl ?_
      have q := q0.out
      exact ⟨_, by rw [q.1], by rw [setT_err (by rw [q.1]; exact q.2)]; exact zTb_O _ _, hbel5⟩
end Go.Proofs.Ytmdnmknmniabeaa
