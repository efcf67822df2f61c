/- What package slices' DeleteFunc does on a slice of puts of the call's own: the walk. -/
import Derived.Test.YtohbfjbcfibhcaaDel
namespace Go.Proofs.Ytohbfjbcfibhcaa
open Go.RowKit Pw
set_option linter.unusedSimpArgs false
set_option linter.unusedVariables false

def keepF (k : Int) (l : List (Int × Page)) : List (Int × Page) := l.filter (fun q => !(q.1 == k))
structure DelI (l : List (Int × Page)) (k : Int) (j i : Nat) (cur : List (Int × Page)) : Prop where
  len : cur.length = l.length
  lt : i < j
  le : j ≤ l.length
  done : cur.take i = keepF k (l.take j)
  rest : ∀ t, j ≤ t → cur[t]? = l[t]?
theorem DelI.start {l : List (Int × Page)} {k : Int} {i : Nat} (hi : i < l.length) (he : l[i].1 = k) (hno : ∀ j (h : j < l.length), j < i → ¬ l[j].1 = k) : DelI l k (i + 1) i l := by
  refine ⟨rfl, by omega, by omega, ?_, fun _ _ => rfl⟩
  unfold keepF
  rw [List.take_add_one, List.filter_append, List.getElem?_eq_getElem hi, Option.toList]
  have h1 : (l.take i).filter (fun q => !(q.1 == k)) = l.take i := by
    rw [List.filter_eq_self]
    intro q hq
    obtain ⟨j, hj, rfl⟩ := List.mem_iff_getElem.1 hq
    simp only [List.length_take] at hj
    rw [List.getElem_take]
    simpa using hno j (by omega) (by omega)
  simp [h1, he]
theorem DelI.keep {l : List (Int × Page)} {k : Int} {j i : Nat} {cur : List (Int × Page)} (h : DelI l k j i cur) (hj : j < l.length) (hne : ¬ l[j].1 = k) : DelI l k (j + 1) (i + 1) (cur.set i l[j]) := by
  have h1 := h.lt
  have h2 := h.len
  refine ⟨by simp [h.len], by omega, by omega, ?_, fun t ht => ?_⟩
  · have hi : i < cur.length := by omega
    rw [List.take_add_one, List.getElem?_set_self hi, Option.toList, List.take_set_of_le (Nat.le_refl _), h.done]
    unfold keepF
    rw [List.take_add_one, List.filter_append, List.getElem?_eq_getElem hj, Option.toList]
    simp [hne]
  · rw [List.getElem?_set_ne (by omega)]
    exact h.rest t (by omega)
theorem DelI.skip {l : List (Int × Page)} {k : Int} {j i : Nat} {cur : List (Int × Page)} (h : DelI l k j i cur) (hj : j < l.length) (he : l[j].1 = k) : DelI l k (j + 1) i cur := by
  have h1 := h.lt
  refine ⟨h.len, by omega, by omega, ?_, fun t ht => h.rest t (by omega)⟩
  rw [h.done]
  unfold keepF
  rw [List.take_add_one, List.filter_append, List.getElem?_eq_getElem hj, Option.toList]
  simp [he]
theorem keepF_all {l : List (Int × Page)} {k : Int} (h : ∀ i (h : i < l.length), i < l.length → ¬ l[i].1 = k) : keepF k l = l := by
  unfold keepF
  rw [List.filter_eq_self]
  intro q hq
  obtain ⟨j, hj, rfl⟩ := List.mem_iff_getElem.1 hq
  simpa using h j hj hj
/-- The first elements of a slice of one's own, what lies behind them written over. -/
theorem own_takes {α : Type} {enc : α → List Value} {sz : Nat} (hsz : ∀ x, (enc x).length = sz) {w w' : World} {B : Nat} {e : TypeId} {l : List α} {g off cap n : Nat} {vs : List Value} (h : Own w B e sz (.slice (some ⟨g, off, none⟩) n cap) n (l.flatMap enc)) (i : Nat) (hl : l.length = n) (hi : i ≤ n)
    (hw : ∀ cur, Blk w g cur e → Blk w' g (putAt cur (off + i * sz) vs) e) : Own w' B e sz (.slice (some ⟨g, off, none⟩) (l.take i).length cap) (l.take i).length ((l.take i).flatMap enc) := by
  subst hl
  obtain ⟨hl, h⟩ := h
  rcases h with ⟨h1, _⟩ | ⟨g', off', cap', cur, hv, hB, hg, hc, hm, hs, ht⟩
  · cases h1
  · cases hv
    have hlen : (l.take i).length = i := by simp; omega
    refine ⟨by rw [flat_len enc sz hsz], .inr ⟨g, off, cap, _, rfl, hB, hw cur hg, by omega, hm, by rw [size_putAt]; exact hs, fun j u hj => ?_⟩⟩
    have hj' : j < i * sz := by
      rcases Nat.lt_or_ge j (i * sz) with h | h
      · exact h
      · rw [List.getElem?_eq_none (by rw [flat_len enc sz hsz, hlen]; exact h)] at hj
        cases hj
    rw [putAt_out _ _ _ _ (.inl (by omega))]
    refine ht j u ?_
    have hsplit : l.flatMap enc = (l.take i).flatMap enc ++ (l.drop i).flatMap enc := by rw [← List.flatMap_append, List.take_append_drop]
    rw [hsplit, List.getElem?_append_left (by rw [flat_len enc sz hsz, hlen]; exact hj')]
    exact hj

theorem puC_size (q : Int × Page) : (puC q).size = 9 := rfl
theorem put_size : (Try.prog.info? 45).map (·.size) = some 9 := by kernel_rfl
theorem puC_one (q : Int × Page) : (puC q).all (·.oneCell') = true := by simp [puC, Value.oneCell']
theorem absg {w : World} {X : Array Value} {TX : TypeId} (m : World → Prop) (h : ∀ W, w.grownBy W none → Below w.heap.size w W → Blk W w.heap.size X TX → m W) : m (w.alloc (.cells X TX)) :=
  h _ (grown_alloc _ _ _) ((Below.refl _ _).alloc (Nat.le_refl _) _) (Blk.new _ _ _)
set_option maxHeartbeats 1000000 in
set_option maxRecDepth 100000 in
theorem del_any (l : List (Int × Page)) (v : Value) (B : Nat) (k : Int) (b : Nat) (w : World) (ho : Own w B 45 9 v l.length (l.flatMap puL)) (hl : l.length ≤ 100000) (hb : Blk w b #[.int .i64 k] 3) :
    Calls Try.prog 72 #[v, .func (.func 73) #[] #[.pointer (some ⟨b, 0, none⟩)]] w fun e w' => ∃ v', e = .returned v' ∧ Own w' B 45 9 v' (keepF k l).length ((keepF k l).flatMap puL) ∧ w.grownBy w' v.ownBlock := by
  obtain ⟨a, c, rfl, hle, hm, hnil, hrd⟩ := ho.rd
  unfold maxLen at hm
  go_enter Try.func72, Try.ntmps72
  go_wp2_with fail
  refine (idxput_any l a c k b _ hrd (by omega) hb).mono ?_
  rintro e w1 ⟨hg1, hcase⟩
  have ho1 := own_stay ho hg1
  have hb1 := blk_stay hb hg1
  have hG1 := grown_but hg1 (Value.slice a l.length c).ownBlock
  clear ho hg1 hb
  rcases hcase with ⟨rfl, hall⟩ | ⟨i0, hi0, rfl, he0, hno⟩
  · have hk := Lib.hid (keepF_all hall)
    clear hall
    go_wp2
    go_ret
    rw [hk.out]
    exact ⟨_, rfl, ho1, hG1⟩
  · have hI0 := Lib.hid (DelI.start hi0 he0 hno)
    clear he0 hno
    have hm1 : ((i0 : Int) == -1) = false := beq_eq_false_iff_ne.2 (by omega)
    cases a with
    | none => have := hnil rfl; omega
    | some ad =>
      obtain ⟨g, off, _⟩ : ∃ g off, ad = ⟨g, off, none⟩ := by
        rcases ho1.2 with ⟨h, _⟩ | ⟨g, off, cap, cur, h, _⟩
        · cases h
        · exact ⟨g, off, by cases h; rfl⟩
      subst ad
      clear hrd hnil
      go_wp2
      go_loopw [5, 6] (fun s5 s6 wr => ∃ (i j : Nat) (cur : List (Int × Page)), s5 = .int .i64 i ∧ s6 = .int .i64 j ∧ Hid (DelI l k j i cur) ∧ Own wr B 45 9 (.slice (some ⟨g, off, none⟩) l.length c) l.length (cur.flatMap puL) ∧ Blk wr b #[.int .i64 k] 3 ∧ w.grownBy wr (some g)) (fun _ s6 _ => l.length - (intOf s6).toNat)
      case atStart => exact ⟨i0, i0 + 1, l, rfl, by go_num, hI0, ho1, hb1, hG1⟩
      case round =>
        clear hI0 ho1 hb1 hG1 hi0 hm1
        obtain ⟨i, j, cur, rfl, rfl, hI, hor, hbr, hG⟩ := hrel
        have hil := hI.out.lt
        have hjl := hI.out.le
        have hcl := hI.out.len
        by_cases hlt : j < l.length
        · have hjc : j < cur.length := by omega
          have hlj : cur[j] = l[j] := by
            have := hI.out.rest j (Nat.le_refl _)
            rw [List.getElem?_eq_getElem hjc, List.getElem?_eq_getElem hlt] at this
            exact Option.some.inj this
          obtain ⟨_, _, e2, _, _, _, hrr⟩ := hor.rd
          cases e2
          obtain ⟨_, _, e3, hc⟩ := put_at hrr j hjc
          cases e3
          rw [hlj] at hc
          have c0 := hc 0 (by decide); have c1 := hc 1 (by decide); have c2 := hc 2 (by decide); have c3 := hc 3 (by decide); have c4 := hc 4 (by decide)
          have c5 := hc 5 (by decide); have c6 := hc 6 (by decide); have c7 := hc 7 (by decide); have c8 := hc 8 (by decide)
          simp only [puC, List.getElem?_toArray, List.getElem?_cons_zero, List.getElem?_cons_succ, Nat.add_zero] at c0 c1 c2 c3 c4 c5 c6 c7 c8
          have hcl' := Lib.hid hcl
          clear hc hlj hrr hcl
          go_upto_region 8 with (fail)
          refine absg (fun W => Code.wp _ _ _ _ W) fun w2 hg2 hb2 hx2 => ?_
          have hcall := trim1_any l[j] k b _ (blk_stay hbr hg2)
          unfold puC at hcall
          have ho2 := own_stay hor hg2
          have hG2 := grown_then hG (grown_but hg2 _)
          have hcx := hx2.cell
          clear c0 c1 c2 c3 c4 c5 c6 c7 c8 hor hG hb2
          by_cases he : l[j].1 = k
          · have hI2 := Lib.hid (hI.out.skip hlt he)
            rw [beq_iff_eq.2 he] at hcall
            clear he hI
            go_wp2_with fail
            refine hcall.mono ?_
            rintro e w3 ⟨rfl, hg3⟩
            have ho3 := own_stay ho2 hg3
            have hb3 := blk_stay (blk_stay hbr hg2) hg3
            have hG3 := grown_then hG2 (grown_but hg3 _)
            clear hcx hx2 ho2 hbr hg2 hG2 hcall
            go_wp2
            go_roundw
            case rel => exact ⟨i, j + 1, cur, rfl, by go_num, hI2, ho3, hb3, hG3⟩
            case measure => simp [intOf]; omega
          · have hI2 := Lib.hid (hI.out.keep hlt he)
            rw [beq_eq_false_iff_ne.2 he] at hcall
            clear he hI
            go_wp2_with fail
            refine hcall.mono ?_
            rintro e w3 ⟨rfl, hg3⟩
            have ho3 := own_stay ho2 hg3
            have hb3 := blk_stay (blk_stay hbr hg2) hg3
            have hG3 := grown_then hG2 (grown_but hg3 _)
            have hx3 := blk_stay hx2 hg3
            clear hcx hx2 ho2 hbr hg2 hG2 hcall
            obtain ⟨gb, offb, capb, curb, hvb, hBb, hgb, hfb, hsetb⟩ := own_putn puL_len (by decide) hcl'.out ho3 i (by omega)
            cases hvb
            have hcx := hx3.cell
            have hi0 : (i : Int) < (l.length : Int) := by omega
            go_wp2_with (refine wpList_st rfl _ (.tmp 33) (.tmp 32) rfl g (off + i * 9) (puC l[j]) rfl rfl curb 45 hgb (by rw [puC_size]; omega) put_size (puC_one _) ?_)
            intro w5 hq5 hgr5
            have hB5 := hsetb w5 l[j] hq5
            have hb5 := blk_keep hb3 hgb (by decide) hgr5
            have hG5 := grown_then hG3 hgr5
            clear hcx hq5 hsetb hgb ho3 hb3 hG3 hgr5 hfb hx3 hg3
            go_wp2
            go_roundw
            case rel => exact ⟨i + 1, j + 1, cur.set i l[j], by go_num, by go_num, hI2, hB5, hb5, hG5⟩
            case measure => simp [intOf]; omega
        · have hi0 : i < l.length := by omega
          have hfin : Hid (cur.take i = keepF k l) := by
            have := hI.out.done
            rw [List.take_of_length_le (l := l) (by omega)] at this
            exact this
          have hcl' := Lib.hid hcl
          have hic : (i : Int) ≤ (c : Int) := by omega
          have hil' : (i : Int) ≤ (l.length : Int) := by omega
          obtain ⟨cs, hgb, hfb⟩ : ∃ cs, Blk wr g cs 45 ∧ off + l.length * 9 ≤ cs.size := by
            rcases hor.2 with ⟨h, _⟩ | ⟨g', off', cap', cur', h, _, h2, h3, _, h4, _⟩
            · cases h
            · cases h; exact ⟨cur', h2, by omega⟩
          have hcl0 := fun ty => run_clear_own (P := Try.prog) wr 34 45 ty _ 9 16 Try.underlying34 put_info (by decide) (by decide) g (off + i * 9) (l.length - i) (c - i) (by omega) cs _ hgb (by simp [Value.cells]; omega)
          clear hI hcl hbr
          have htk := fun w' vs => own_takes puL_len (w' := w') (vs := vs) hor i hcl'.out (by omega)
          rw [hfin.out] at htk
          have hlen : Hid ((keepF k l).length = i) := by show (keepF k l).length = i; rw [← hfin.out, List.length_take, hcl'.out]; omega
          go_wp2
          go_ret
          have hh := fun vs => htk (wr.setCells g (off + i * 9) vs) vs (fun cur hc => hc.setCells vs _)
          rw [hlen.out] at hh ⊢
          exact ⟨_, rfl, hh _, grown_then hG (grownBy_setCells _ _ _ _)⟩
end Go.Proofs.Ytohbfjbcfibhcaa
