/- slices' DeleteFunc on whole numbers of the call's own; package table's Find. -/
import Derived.Test.YtmdnmknmniabeaaTab5
namespace Go.Proofs.Ytmdnmknmniabeaa
open Go.RowKit Pw
set_option linter.unusedSimpArgs false
set_option linter.unusedVariables false

theorem one_int1 : ∀ x : Int, ([inV x] : List Value).length = 1 := fun _ => rfl
/-- In the midst of a deletion. -/
structure DelI (p : Int → Bool) (l : List Int) (j i : Nat) (cur : List Int) : Prop where
  len : cur.length = l.length
  lt : i < j
  le : j ≤ l.length
  done : cur.take i = (l.take j).filter (fun x => !p x)
  rest : ∀ t, j ≤ t → cur[t]? = l[t]?
theorem DelI.start {p : Int → Bool} {l : List Int} {i : Nat} (hi : i < l.length) (he : p l[i] = true) (hno : ∀ j (h : j < l.length), j < i → p l[j] = false) : DelI p l (i + 1) i l := by
  refine ⟨rfl, by omega, by omega, ?_, fun _ _ => rfl⟩
  rw [List.take_add_one, List.filter_append, List.getElem?_eq_getElem hi, Option.toList]
  have h1 : (l.take i).filter (fun q => !p q) = l.take i := by
    rw [List.filter_eq_self]
    intro q hq
    obtain ⟨j, hj, rfl⟩ := List.mem_iff_getElem.1 hq
    simp only [List.length_take] at hj
    rw [List.getElem_take]
    simpa using hno j (by omega) (by omega)
  simp [h1, he]
theorem DelI.keep {p : Int → Bool} {l : List Int} {j i : Nat} {cur : List Int} (h : DelI p l j i cur) (hj : j < l.length) (hne : p l[j] = false) : DelI p l (j + 1) (i + 1) (cur.set i l[j]) := by
  have h1 := h.lt
  have h2 := h.len
  refine ⟨by simp [h.len], by omega, by omega, ?_, fun t ht => ?_⟩
  · have hi : i < cur.length := by omega
    rw [List.take_add_one, List.getElem?_set_self hi, Option.toList, List.take_set_of_le (Nat.le_refl _), h.done]
    rw [List.take_add_one, List.filter_append, List.getElem?_eq_getElem hj, Option.toList]
    simp [hne]
  · rw [List.getElem?_set_ne (by omega)]
    exact h.rest t (by omega)
theorem DelI.skip {p : Int → Bool} {l : List Int} {j i : Nat} {cur : List Int} (h : DelI p l j i cur) (hj : j < l.length) (he : p l[j] = true) : DelI p l (j + 1) i cur := by
  have h1 := h.lt
  refine ⟨h.len, by omega, by omega, ?_, fun t ht => h.rest t (by omega)⟩
  rw [h.done]
  rw [List.take_add_one, List.filter_append, List.getElem?_eq_getElem hj, Option.toList]
  simp [he]
theorem DelI.all {p : Int → Bool} {l : List Int} (h : ∀ i (h : i < l.length), p l[i] = false) : l.filter (fun x => !p x) = l := by
  rw [List.filter_eq_self]
  intro q hq
  obtain ⟨j, hj, rfl⟩ := List.mem_iff_getElem.1 hq
  simpa using h j hj
def TellF (B : Nat) (w0 : World) (c1 c2 c3 : Value) (p : Int → Bool) : Prop := ∀ (n : Int) (W : World), Below B w0 W → B ≤ W.heap.size → Calls Try.prog 62 #[.int .i64 n, c1, c2, c3] W fun e w' => e = .returned (.bool (p n)) ∧ Below W.heap.size W w'
theorem below_more {B : Nat} {w0 w w' : World} (h : Below B w0 w) (hB : B ≤ w.heap.size) (hb : Below w.heap.size w w') : Below B w0 w' := h.trans (hb.mono hB)
set_option maxHeartbeats 1000000 in
set_option maxRecDepth 100000 in
theorem idxint_any (l : List Int) (a : Option Addr) (c : Nat) (w : World) (hrd : RdV w a (l.map inV)) (hl : l.length ≤ 9223372036854775807) (B : Nat) (w0 : World) (c1 c2 c3 : Value) (p : Int → Bool) (hT : TellF B w0 c1 c2 c3 p) (hB0 : Below B w0 w) (hBs : B ≤ w.heap.size) :
    Calls Try.prog 85 #[.slice a l.length c, .func (.func 62) #[] #[c1, c2, c3]] w fun e w' => e = .returned (.int .i64 (idx p l)) ∧ Below w.heap.size w w' := by
  go_enter Try.func85, Try.ntmps85
  go_wp2
  go_loopw [8] (fun i wr => ∃ k : Nat, k ≤ l.length ∧ i = .int .i64 k ∧ Below w.heap.size w wr ∧ ∀ i (h : i < l.length), i < k → p l[i] = false) (fun i _ => l.length - (intOf i).toNat)
  case atStart => exact ⟨0, Nat.zero_le _, rfl, Below.refl _ _, fun i _ h => absurd h (Nat.not_lt_zero _)⟩
  case round =>
    obtain ⟨k, hk, rfl, hbr, hp0⟩ := hrel
    have hp := Lib.hid hp0
    clear hp0
    by_cases hlt : k < l.length
    · obtain ⟨b, off, rfl, c0⟩ := elem_at (hrd.below hbr) k hlt
      go_wp2_with fail
      refine (hT l[k] _ (below_more hB0 hBs hbr) (Nat.le_trans hBs hbr.size)).mono ?_
      rintro e w2 ⟨rfl, hb2⟩
      have hbel2 := below_next hbr hb2
      clear hb2
      cases hpk : p l[k]
      · have hpk' := Lib.hid hpk
        clear hpk
        go_wp2
        go_roundw
        case rel => exact ⟨k + 1, by omega, by go_num, hbel2, upto' hp.out hlt hpk'.out⟩
        case measure => simp [intOf]; omega
      · have hfin := Lib.hid (idx_at p l k hlt hp.out hpk)
        clear hpk
        go_wp2
        go_ret
        exact ⟨ret_int hfin.out.symm, hbel2⟩
    · have hfin := Lib.hid (idx_none p l fun i h => hp.out i h (by omega))
      go_wp2
      go_ret
      exact ⟨ret_int hfin.out.symm, hbr⟩
set_option maxHeartbeats 1000000 in
set_option maxRecDepth 100000 in
theorem delint_any (l : List Int) (v : Value) (B : Nat) (w0 w : World) (c1 c2 c3 : Value) (p : Int → Bool) (ho : Own w B 3 1 v l.length (l.map inV)) (hl : l.length ≤ 100000) (hT : TellF B w0 c1 c2 c3 p) (hB0 : Below B w0 w) (hBs : B ≤ w.heap.size) :
    Calls Try.prog 61 #[v, .func (.func 62) #[] #[c1, c2, c3]] w fun e w' => ∃ v', e = .returned v' ∧ Own w' B 3 1 v' (l.filter (fun x => !p x)).length ((l.filter (fun x => !p x)).map inV) ∧ Below B w w' := by
  obtain ⟨a, c, rfl, hle, hm, hnil, hrd⟩ := ho.rd
  unfold maxLen at hm
  go_enter Try.func61, Try.ntmps61
  go_wp2_with fail
  refine (idxint_any l a c _ hrd (by omega) B w0 c1 c2 c3 p hT hB0 hBs).mono ?_
  rintro e w1 ⟨rfl, hb1⟩
  have ho1 := ho.below hb1
  have hG1 : Below B w w1 := hb1.mono hBs
  have hBs1 : B ≤ w1.heap.size := Nat.le_trans hBs hb1.size
  clear ho
  rcases idx_cases p l with ⟨hi, hall⟩ | ⟨i0, hi0, hi, he0, hno⟩
  · have hk := Lib.hid (DelI.all hall)
    rw [hi]
    clear hall hi hb1
    go_wp2
    go_ret
    rw [hk.out]
    exact ⟨_, rfl, ho1, hG1⟩
  · have hI0 := Lib.hid (DelI.start hi0 he0 hno)
    rw [hi]
    clear he0 hno hi hb1
    have hm1 : ((i0 : Int) == -1) = false := beq_eq_false_iff_ne.2 (by omega)
    cases a with
    | none => have := hnil rfl; omega
    | some ad =>
      obtain ⟨g, off, had⟩ : ∃ g off, ad = ⟨g, off, none⟩ := by
        rcases ho1.2 with ⟨h, _⟩ | ⟨g, off, cap, cur, h, _⟩
        · cases h
        · exact ⟨g, off, by cases h; rfl⟩
      subst had
      clear hrd hnil
      go_wp2
      go_loopw [5, 6] (fun s5 s6 wr => ∃ (i j : Nat) (cur : List Int), s5 = .int .i64 i ∧ s6 = .int .i64 j ∧ Hid (DelI p l j i cur) ∧ Own wr B 3 1 (.slice (some ⟨g, off, none⟩) l.length c) l.length (cur.map inV) ∧ Below B w wr ∧ B ≤ wr.heap.size) (fun _ s6 _ => l.length - (intOf s6).toNat)
      case atStart => exact ⟨i0, i0 + 1, l, rfl, by go_num, hI0, ho1, hG1, hBs1⟩
      case round =>
        clear hI0 ho1 hG1 hBs1 hi0 hm1
        obtain ⟨i, j, cur, rfl, rfl, hI, hor, hG, hBr⟩ := hrel
        have hil := hI.out.lt
        have hjl := hI.out.le
        have hcl := hI.out.len
        by_cases hlt : j < l.length
        · have hjc : j < cur.length := by omega
          have hlj : cur[j] = l[j] := by
            have := hI.out.rest j (Nat.le_refl _)
            rw [List.getElem?_eq_getElem hjc, List.getElem?_eq_getElem hlt] at this
            exact Option.some.inj this
          obtain ⟨_, _, e2, _, _, _, hrr⟩ := hor.rd
          simp only [Value.slice.injEq] at e2
          obtain ⟨rfl, _, rfl⟩ := e2
          obtain ⟨_, _, e3, hc⟩ := elem_at hrr j hjc
          simp only [Option.some.injEq, Addr.mk.injEq, and_true] at e3
          obtain ⟨rfl, rfl⟩ := e3
          rw [hlj] at hc
          have hcl' := Lib.hid hcl
          clear hlj hrr hcl
          have hcall := hT l[j] wr (hB0.trans hG) hBr
          go_upto_region 8 with (fail)
          clear hc
          by_cases he : p l[j] = true
          · have hI2 := Lib.hid (hI.out.skip hlt he)
            rw [he] at hcall
            clear he hI
            go_wp2_with fail
            refine hcall.mono ?_
            rintro e w3 ⟨rfl, hb3⟩
            have ho3 := hor.below hb3
            have hG3 := below_more hG hBr hb3
            have hBr3 := Nat.le_trans hBr hb3.size
            clear hor hG hBr hcall hb3
            go_wp2
            go_roundw
            case rel => exact ⟨i, j + 1, cur, rfl, by go_num, hI2, ho3, hG3, hBr3⟩
            case measure => simp [intOf]; omega
          · have he' : p l[j] = false := by simpa using he
            have hI2 := Lib.hid (hI.out.keep hlt he')
            rw [he'] at hcall
            clear he hI he'
            go_wp2_with fail
            refine hcall.mono ?_
            rintro e w3 ⟨rfl, hb3⟩
            have ho3 := hor.below hb3
            have hG3 := below_more hG hBr hb3
            have hBr3 := Nat.le_trans hBr hb3.size
            clear hor hG hBr hcall hb3
            rw [← flat_one] at ho3
            obtain ⟨gb, offb, capb, curb, hvb, hBb, hgb, hfb, hsetb⟩ := own_putn one_int1 (by decide) hcl'.out ho3 i (by omega)
            cases hvb
            have hi0 : (i : Int) < (l.length : Int) := by omega
            go_wp2_with (refine wpList_stv rfl _ (.tmp 33) (.tmp 32) rfl g (off + i) _ [inV l[j]] rfl rfl rfl curb 3 hgb (by simp; omega) int_size (one_int _ _) ?_)
            intro w5 hq5 hgr5
            have hB5 := hsetb w5 l[j] (by rw [Nat.mul_one]; exact hq5)
            rw [flat_one] at hB5
            have hG5 := hG3.grown hgr5 hBr3 (fun k hk => by cases hk; exact hBb)
            have hBr5 : B ≤ w5.heap.size := by have := hgr5.size; omega
            clear hq5 hsetb hgb ho3 hG3 hgr5 hfb
            go_wp2
            go_roundw
            case rel => exact ⟨i + 1, j + 1, cur.set i l[j], by go_num, by go_num, hI2, hB5, hG5, hBr5⟩
            case measure => simp [intOf]; omega
        · have hi0 : i < l.length := by omega
          have hfin : Hid (cur.take i = l.filter (fun x => !p x)) := by
            have := hI.out.done
            rw [List.take_of_length_le (l := l) (by omega)] at this
            exact this
          have hcl' := Lib.hid hcl
          have hic : (i : Int) ≤ (c : Int) := by omega
          have hil' : (i : Int) ≤ (l.length : Int) := by omega
          obtain ⟨cs, hgb, hfb, hBg⟩ : ∃ cs, Blk wr g cs 3 ∧ off + l.length * 1 ≤ cs.size ∧ B ≤ g := by
            rcases hor.2 with ⟨h, _⟩ | ⟨g', off', cap', cur', h, h0, h2, h3, _, h4, _⟩
            · cases h
            · cases h; exact ⟨cur', h2, by omega, h0⟩
          have hcl0 := fun ty => run_clear_own (P := Try.prog) wr 36 3 ty _ 1 8 Try.underlying36 int_info (by decide) (by decide) g (off + i) (l.length - i) (c - i) (by omega) cs _ hgb (by simp [Value.cells]; omega)
          rw [← flat_one] at hor
          have htk := fun w' vs => own_takes one_int1 (w' := w') (vs := vs) hor i hcl'.out (by omega)
          simp only [flat_one] at htk
          rw [hfin.out] at htk
          have hlen : Hid ((l.filter (fun x => !p x)).length = i) := by show (l.filter (fun x => !p x)).length = i; rw [← hfin.out, List.length_take, hcl'.out]; omega
          clear hI hcl hor
          go_wp2
          go_ret
          have hh := fun vs => htk (wr.setCells g (off + i) vs) vs (fun cur hc => by rw [Nat.mul_one]; exact hc.setCells vs _)
          rw [hlen.out] at hh ⊢
          exact ⟨_, rfl, hh _, hG.grown (grownBy_setCells _ _ _ _) hBr (fun k hk => by cases hk; exact hBg)⟩
end Go.Proofs.Ytmdnmknmniabeaa
