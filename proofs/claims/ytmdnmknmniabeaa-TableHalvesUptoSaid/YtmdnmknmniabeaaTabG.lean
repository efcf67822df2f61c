/- The document's Table. -/
import Derived.Test.YtmdnmknmniabeaaTabF
namespace Go.Proofs.Ytmdnmknmniabeaa
open Go.RowKit Pw
set_option linter.unusedSimpArgs false
set_option linter.unusedVariables false

def posK (e : En) : Bool := decide (0 < e.k)
def partL (l : List En) (i : Nat) : List En := (l.drop (8 * i)).take 8
def halfOf (l : List En) (i : Nat) : List En := if (partL l i).any posK then partL l i else []
def tabOf (l : List En) : Tb := Vector.ofFn fun i : Fin 8 => halfOf l i.val
def someK (l : List En) (i k : Nat) : Bool := ((l.drop (8 * i)).take k).any posK
theorem part_get {l : List En} (hl : l.length = 64) {i k : Nat} (hi : i < 8) (hk : k < 8) : ∃ E, l[8 * i + k]? = some E ∧ (l.drop (8 * i)).take (k + 1) = (l.drop (8 * i)).take k ++ [E] := by
  refine ⟨l[8 * i + k]'(by omega), List.getElem?_eq_getElem (by omega), ?_⟩
  rw [List.take_add_one, List.getElem?_drop, List.getElem?_eq_getElem (by omega)]
  rfl
theorem part_len {l : List En} (hl : l.length = 64) {i k : Nat} (hi : i < 8) (hk : k ≤ 8) : ((l.drop (8 * i)).take k).length = k := by
  simp; omega
/-- In the midst: the first i halves are made. -/
structure TaI (l : List En) (i : Nat) (h : List En) (t : Tb) : Prop where
  lo : ∀ j (hj : j < 8), j < i → t[j] = halfOf l j
  at' : ∀ (hi : i < 8), t[i] = h
  hi : ∀ j (hj : j < 8), i < j → t[j] = []
theorem TaI.start {l : List En} : TaI l 0 [] zTb := ⟨fun _ _ h => absurd h (Nat.not_lt_zero _), fun _ => by simp [zTb], fun j hj _ => by simp [zTb]⟩
theorem TaI.next {l : List En} {i : Nat} {t : Tb} (h : TaI l i (halfOf l i) t) (hi : i < 8) : TaI l (i + 1) [] t := by
  refine ⟨fun j hj hji => ?_, fun h2 => h.hi _ h2 (by omega), fun j hj hji => h.hi j hj (by omega)⟩
  by_cases e : j = i
  · subst e; exact h.at' hj
  · exact h.lo j hj (by omega)
theorem TaI.set {l : List En} {i : Nat} {h h2 : List En} {t : Tb} (hh : TaI l i h t) (hi : i < 8) : TaI l i h2 (t.set i h2) :=
  ⟨fun j hj hji => by rw [Vector.getElem_set_ne hi hj (by omega)]; exact hh.lo j hj hji, fun _ => by simp, fun j hj hji => by rw [Vector.getElem_set_ne hi hj (by omega)]; exact hh.hi j hj hji⟩
theorem TaI.fin {l : List En} {h : List En} {t : Tb} (hh : TaI l 8 h t) : t = tabOf l := by
  apply Vector.ext
  intro i hi
  rw [hh.lo i hi hi]
  simp [tabOf]
theorem half_no {l : List En} {i : Nat} (h : someK l i 8 = false) : halfOf l i = [] := by
  unfold halfOf partL
  unfold someK at h
  rw [h]; rfl
theorem half_yes {l : List En} {i : Nat} (h : someK l i 8 = true) : halfOf l i = (l.drop (8 * i)).take 8 := by
  unfold halfOf partL
  unfold someK at h
  rw [h]; rfl
/-- A half has grown. -/
theorem TbO.app {w w' : World} {B : Nat} {cs : Array Value} {t : Tb} (h : TbO w B cs t) {q : Nat} (hq : q < 8) {v v' : Value} {l : List En} (hv : cs[q]? = some v) (ho : Own w' B 26 3 v' l.length (l.flatMap enL)) (hgr : w.grownBy w' v.ownBlock)
    (hc : v'.ownBlock = v.ownBlock ∨ ∀ g, v'.ownBlock = some g → w.heap.size ≤ g) : TbO w' B (cs.setIfInBounds q v') (t.set q l) where
  sz := by simp [h.sz]
  own := fun k hk => by
    by_cases e : k = q
    · subst e
      exact ⟨v', by rw [Array.getElem?_setIfInBounds_self_of_lt (by rw [h.sz]; exact hk)], by simpa using ho⟩
    · obtain ⟨u, h1, h2⟩ := h.own k hk
      refine ⟨u, by rw [Array.getElem?_setIfInBounds_ne (fun e2 => e e2.symm)]; exact h1, ?_⟩
      rw [Vector.getElem_set_ne hq hk (fun e2 => e e2.symm)]
      refine h2.grown hgr fun g hg he => ?_
      rcases Nat.lt_or_gt_of_ne e with hlt | hlt
      · exact h.apart k q u v hlt h1 hv g hg he
      · exact h.apart q k v u hlt hv h1 g he hg
  apart := fun j k x y hjk hx hy g hgx hgy => by
    have key : ∀ j u, j ≠ q → cs[j]? = some u → v'.ownBlock = some g → u.ownBlock = some g → False := by
      intro j u hjq hu hg hgu
      have hj8 : j < 8 := by
        rcases Nat.lt_or_ge j 8 with hk | hk
        · exact hk
        · rw [Array.getElem?_eq_none (by rw [h.sz]; exact hk)] at hu; cases hu
      obtain ⟨u', h1, h2⟩ := h.own j hj8
      rw [hu] at h1
      cases h1
      rcases hc with hc | hc
      · rw [hc] at hg
        rcases Nat.lt_or_gt_of_ne hjq with hlt | hlt
        · exact h.apart j q u v hlt hu hv g hgu hg
        · exact h.apart q j v u hlt hv hu g hg hgu
      · have h3 := hc g hg
        have h4 := own_lt h2 g hgu
        omega
    by_cases e : j = q
    · subst e
      rw [Array.getElem?_setIfInBounds_self_of_lt (by rw [h.sz]; exact hq)] at hx
      cases hx
      rw [Array.getElem?_setIfInBounds_ne (by omega)] at hy
      exact key k y (by omega) hy hgx hgy
    · rw [Array.getElem?_setIfInBounds_ne (fun e2 => e e2.symm)] at hx
      by_cases e2 : k = q
      · subst e2
        rw [Array.getElem?_setIfInBounds_self_of_lt (by rw [h.sz]; exact hq)] at hy
        cases hy
        exact key j x e hx hgy hgx
      · rw [Array.getElem?_setIfInBounds_ne (fun e3 => e2 e3.symm)] at hy
        exact h.apart j k x y hjk hx hy g hgx hgy
theorem flC_rd {w : World} {b : Nat} {l : List En} {T : TypeId} (h : Blk w b (flC l) T) {k : Nat} {E : En} (hE : l[k]? = some E) : RdV w (some ⟨b, k * 3, none⟩) (enL E) := by
  intro i u hi
  refine ⟨b, k * 3, rfl, ?_⟩
  rw [h.cell]
  have hk : k < l.length := (List.getElem?_eq_some_iff.1 hE).1
  have hl : l[k] = E := (List.getElem?_eq_some_iff.1 hE).2
  have := flat_get enL 3 enL_len l k hk i u (by rw [hl]; exact hi)
  simpa [flC] using this
/-- A struct, or an array, loaded: in a drawn region. -/
theorem run_load_rd {P : Program} {ρ : Operand → Value} {o : Oper} {w : World} {ty : TypeId} {x : Operand} {b off : Nat} {vs : List Value} {d : TypeDesc} (ho : o.op = .load ty x) (hx : ρ x = .pointer (some ⟨b, off, none⟩)) (hrd : RdV w (some ⟨b, off, none⟩) vs)
    (hu : P.underlying ty = some d) (hd : aggB d = true) (hi : (P.info? ty).map (·.size) = some vs.length) : (execOp ρ o).run P w = .ok (.value (.agg vs.toArray)) w := by
  unfold execOp
  simp only [ho, hx, Instr.loadAt, Instr.sureAddr, Sem.run_bind, Sem.run_pure, Result.andThen_ok, run_loadVar_rd hrd hu hd hi]
set_option maxHeartbeats 4000000 in
set_option maxRecDepth 100000 in
theorem ttable_any (l : List En) (w : World) (hl : l.length = 64) : Calls Try.prog 26 #[.agg (flC l)] w fun r w' => ∃ cs, r = .returned (.agg cs) ∧ TbO w' w.heap.size cs (tabOf l) ∧ Below w.heap.size w w' := by
  have HLEN := Lib.hid hl
  clear hl
  go_enter Try.func26, Try.ntmps26
  go_upto_region 2 with (fail)
  refine abs3 (fun W => Code.wp _ _ _ _ W) fun W0 hb0 hx0 hres0 ho0 hs0 => ?_
  clear hs0
  have hO0 : TbO W0 w.heap.size #[.slice none 0 0, .slice none 0 0, .slice none 0 0, .slice none 0 0, .slice none 0 0, .slice none 0 0, .slice none 0 0, .slice none 0 0] zTb := zTb_O _ _
  have hT0 : Hid (TaI l 0 [] zTb) := Lib.hid TaI.start
  go_wp2
  go_loopw [8] (fun i wr => ∃ (k : Nat) (ca : Array Value) (t : Tb), k ≤ 8 ∧ i = .int .i64 k ∧ Below w.heap.size w wr ∧ Blk wr w.heap.size (flC l) 33 ∧ Blk wr (w.heap.size + 1) #[.slice none 0 0, .slice none 0 0, .slice none 0 0, .slice none 0 0, .slice none 0 0, .slice none 0 0, .slice none 0 0, .slice none 0 0] 24 ∧ Blk wr (w.heap.size + 2) ca 24 ∧ TbO wr w.heap.size ca t ∧ Hid (TaI l k [] t)) (fun i _ => 8 - (intOf i).toNat)
  case atStart => exact ⟨0, _, _, Nat.zero_le _, rfl, hb0, hx0, hres0, ho0, hO0, hT0⟩
  case round =>
    obtain ⟨k, ca, t, hk, rfl, hbr, hx, hres, ho, hO, hT⟩ := hrel
    clear hb0 hx0 hres0 ho0 hO0 hT0
    by_cases hlt : k < 8
    · have hd8 : decide ((k : Int) < 8) = true := by simp; omega
      go_wp2
      go_loopw [6, 5] (fun i s wr' => ∃ (j : Nat), j ≤ 8 ∧ i = .int .i64 j ∧ s = .bool (someK l k j) ∧ wr' = wr) (fun i _ _ => 8 - (intOf i).toNat)
      case atStart => exact ⟨0, Nat.zero_le _, rfl, rfl, rfl⟩
      case round =>
        obtain ⟨j, hj, rfl, rfl, rfl⟩ := hrel
        by_cases hjl : j < 8
        · have hd9 : decide ((j : Int) < 8) = true := by simp; omega
          obtain ⟨E, hE, hP⟩ := part_get HLEN.out hlt hjl
          have hcE := (flC_rd hx hE) 0 (.int .i64 E.k) rfl
          obtain ⟨_, _, e1, hc0⟩ := hcE
          simp only [Option.some.injEq, Addr.mk.injEq, and_true] at e1
          obtain ⟨rfl, rfl⟩ := e1
          rw [Nat.add_zero] at hc0
          have hm1 : (8 : Int) * (k : Int) + (j : Int) < 64 := by omega
          have hst : Hid (someK l k (j + 1) = (someK l k j || decide (0 < E.k))) := Lib.hid (by unfold someK; rw [hP, List.any_append]; simp [posK])
          clear hE hP
          cases hs : someK l k j
          all_goals
            rw [hs] at hst
            go_wp2
            go_roundw
            case rel => exact ⟨j + 1, by omega, by go_num, by rw [hst.out]; first | rfl | (congr 1; rw [Bool.eq_iff_iff]; simp), trivial⟩
            case measure => simp [intOf]; omega
        · obtain rfl : j = 8 := by omega
          rw [show ((8 : Nat) : Int) = 8 from rfl]
          cases hsome : someK l k 8
          · have hhalf := Lib.hid (half_no hsome)
            clear hsome
            go_wp2
            go_loopw [7] (fun i wr' => i = .int .i64 0 ∧ wr' = wr) (fun _ _ => 0)
            case atStart => exact ⟨rfl, rfl⟩
            case round =>
              obtain ⟨rfl, rfl⟩ := hrel
              have hTn : Hid (TaI l (k + 1) [] t) := Lib.hid (TaI.next (by rw [hhalf.out]; exact hT.out) hlt)
              go_wp2
              go_roundw
              case rel => exact ⟨k + 1, ca, t, by omega, by go_num, hbr, hx, hres, ho, hO, hTn⟩
              case measure => simp [intOf]; omega
          · have hhalf := Lib.hid (half_yes hsome)
            clear hsome
            have hT0 : Hid (TaI l k ((l.drop (8 * k)).take 0) t) := hT
            go_wp2
            go_loopw [7] (fun i wr' => ∃ (j : Nat) (ca' : Array Value) (t' : Tb), j ≤ 8 ∧ i = .int .i64 j ∧ Below w.heap.size w wr' ∧ Blk wr' w.heap.size (flC l) 33 ∧ Blk wr' (w.heap.size + 1) #[.slice none 0 0, .slice none 0 0, .slice none 0 0, .slice none 0 0, .slice none 0 0, .slice none 0 0, .slice none 0 0, .slice none 0 0] 24 ∧ Blk wr' (w.heap.size + 2) ca' 24 ∧ TbO wr' w.heap.size ca' t' ∧ Hid (TaI l k ((l.drop (8 * k)).take j) t')) (fun i _ => 8 - (intOf i).toNat)
            case atStart => exact ⟨0, ca, t, Nat.zero_le _, rfl, hbr, hx, hres, ho, hO, hT0⟩
            case round =>
              obtain ⟨j, ca', t', hj, rfl, hbr2, hx2, hres2, ho2, hO2, hT2⟩ := hrel
              clear hbr hx hres ho hO hT hT0
              by_cases hjl : j < 8
              · have hd9 : decide ((j : Int) < 8) = true := by simp; omega
                obtain ⟨E, hE, hP⟩ := part_get HLEN.out hlt hjl
                have hrE := flC_rd hx2 hE
                have hm1 : (8 : Int) * (k : Int) + (j : Int) < 64 := by omega
                have hm0 : ¬ (8 : Int) * (k : Int) + (j : Int) < 0 := by omega
                have hk8 : (k : Int) < 8 := by omega
                have hmul : IntKind.i64.wrap (8 * (k : Int)) = 8 * (k : Int) := IntWalk.i64_in _ (by omega)
                have hadd : IntKind.i64.wrap (8 * (k : Int) + (j : Int)) = 8 * (k : Int) + (j : Int) := IntWalk.i64_in _ (by omega)
                have hnn : (8 * (k : Int) + (j : Int)).toNat = 8 * k + j := by omega
                have hP' := Lib.hid hP
                obtain ⟨v, hv, hown⟩ := hO2.own k hlt
                have hv' := Lib.hid hv
                have hpl : t'[k].length = j := by rw [hT2.out.at' hlt]; exact part_len HLEN.out hlt (by omega)
                obtain ⟨xa, xc, rfl, hxle, hxmx, hxnil, hxrd⟩ := hown.rd
                have HE := Lib.hid hE
                clear hE hP hv
                go_upto_region 13 with (fail)
                refine wp_growC 11 12 [(0, .int .i64 k)] [anyR, isV (.int .i64 k), isV (.pointer (some ⟨w.heap.size + 2, k, none⟩)), isV (.slice xa t'[k].length xc), isV (.int .i64 k), isV (.int .i64 (8 * (k : Int))), isV (.int .i64 j), isV (.int .i64 (8 * (k : Int) + (j : Int))), isV (.pointer (some ⟨w.heap.size, (8 * k + j) * 3, none⟩)), isV (.agg (enC E)), (slR 1 (enL E))] (by kernel_rfl) (by kernel_rfl) (by kernel_rfl) (by kernel_rfl) (by kernel_rfl) (by kernel_rfl) (by decide) (by decide) _ rfl (by kernel_rfl) (all_cons ?_ (all_cons ?_ (all_cons ?_ (all_cons ?_ (all_cons ?_ (all_cons ?_ (all_cons ?_ (all_cons ?_ (all_cons ?_ (all_cons ?_ (all_cons ?_ (all_nil)))))))))))) (all_nil) rfl ?_
                · refine askedC_pu rfl ?_
                  intro ρ y W hw hn hV
                  have E4 : ρ (.tmp 4) = .int .i64 k := (hn (.tmp 4) rfl).trans rfl
                  exact ⟨(want_free rfl), (run_move (.inl rfl) E4)⟩
                · refine askedC_not rfl ?_
                  intro ρ y W hw hn hb hd
                  have E4 : ρ (.tmp 4) = .int .i64 k := (hn (.tmp 4) rfl).trans rfl
                  refine asked_val (.int .i64 k) (want_free rfl) (run_move (.inl rfl) E4) rfl
                · refine askedC_not rfl ?_
                  intro ρ y W hw hn hb hd
                  have E3 : ρ (.tmp 3) = .pointer (some ⟨w.heap.size + 2, 0, none⟩) := (hn (.tmp 3) rfl).trans rfl
                  have E34 := hw 34 1 rfl
                  have h1 : y 1 = .int .i64 k := hd 1 rfl
                  refine asked_val (.pointer (some ⟨w.heap.size + 2, k, none⟩)) (want_free rfl) (by simp [execOp, go_sem, E3, E34, h1, Try.underlying24, hk8]) rfl
                · refine askedC_not rfl ?_
                  intro ρ y W hw hn hb hd
                  have E35 := hw 35 2 rfl
                  have h2 : y 2 = .pointer (some ⟨w.heap.size + 2, k, none⟩) := hd 2 rfl
                  refine asked_val (.slice xa t'[k].length xc) (want_free rfl) (by simp [execOp, go_sem, E35, h2, (((ho2.ext hb).cell k).trans hv'.out), Try.underlying22]) rfl
                · refine askedC_not rfl ?_
                  intro ρ y W hw hn hb hd
                  have E4 : ρ (.tmp 4) = .int .i64 k := (hn (.tmp 4) rfl).trans rfl
                  refine asked_val (.int .i64 k) (want_free rfl) (run_move (.inl rfl) E4) rfl
                · refine askedC_not rfl ?_
                  intro ρ y W hw hn hb hd
                  have E37 := hw 37 4 rfl
                  have h4 : y 4 = .int .i64 k := hd 4 rfl
                  have EC : ∀ v, ρ (.const v) = v := fun v => hn (.const v) trivial
                  refine asked_val (.int .i64 (8 * (k : Int))) (want_free rfl) (by simp [execOp, go_sem, E37, h4, EC, hmul]) rfl
                · refine askedC_not rfl ?_
                  intro ρ y W hw hn hb hd
                  have E7 : ρ (.tmp 7) = .int .i64 j := (hn (.tmp 7) rfl).trans rfl
                  refine asked_val (.int .i64 j) (want_free rfl) (run_move (.inl rfl) E7) rfl
                · refine askedC_not rfl ?_
                  intro ρ y W hw hn hb hd
                  have E38 := hw 38 5 rfl
                  have h5 : y 5 = .int .i64 (8 * (k : Int)) := hd 5 rfl
                  have E39 := hw 39 6 rfl
                  have h6 : y 6 = .int .i64 j := hd 6 rfl
                  refine asked_val (.int .i64 (8 * (k : Int) + (j : Int))) (want_free rfl) (by simp [execOp, go_sem, E38, h5, E39, h6, hadd]) rfl
                · refine askedC_not rfl ?_
                  intro ρ y W hw hn hb hd
                  have E1 : ρ (.tmp 1) = .pointer (some ⟨w.heap.size, 0, none⟩) := (hn (.tmp 1) rfl).trans rfl
                  have E40 := hw 40 7 rfl
                  have h7 : y 7 = .int .i64 (8 * (k : Int) + (j : Int)) := hd 7 rfl
                  refine asked_val (.pointer (some ⟨w.heap.size, (8 * k + j) * 3, none⟩)) (want_free rfl) (by simp [execOp, go_sem, E1, E40, h7, Try.underlying33, hm1, hm0, hnn]) rfl
                · refine askedC_not rfl ?_
                  intro ρ y W hw hn hb hd
                  have E41 := hw 41 8 rfl
                  have h8 : y 8 = .pointer (some ⟨w.heap.size, (8 * k + j) * 3, none⟩) := hd 8 rfl
                  refine asked_val (.agg (enC E)) (want_free rfl) (run_load_rd rfl (E41.trans h8) (vs := enL E) (hrE.below hb) Try.underlying26 rfl entry_size) rfl
                · refine askedC_not rfl ?_
                  intro ρ y W hw hn hb hd
                  have E42 := hw 42 9 rfl
                  have h9 : y 9 = .agg (enC E) := hd 9 rfl
                  refine asked_new (.slice (some ⟨W.heap.size, 0, none⟩) 1 1) (want_free rfl) (by simp [execOp, go_sem, E42, h9, enC]) ((Below.refl _ _).alloc (Nat.le_refl _) (.cells (enC E) 26)) ?_
                  exact ⟨_, _, rfl, Nat.le_refl _, by unfold maxLen; omega, fun e => (by cases e), RdV.new _ _ _⟩
                intro ρ y WA o ho hw hn hV hbWA hRWA
                cases ho
                have hy0 : y 0 = .int .i64 k := hV 0 _ rfl
                have hy1 : y 1 = .int .i64 k := hRWA 1 (by decide)
                have hy2 : y 2 = .pointer (some ⟨w.heap.size + 2, k, none⟩) := hRWA 2 (by decide)
                have hy3 : y 3 = .slice xa t'[k].length xc := hRWA 3 (by decide)
                have hy4 : y 4 = .int .i64 k := hRWA 4 (by decide)
                have hy5 : y 5 = .int .i64 (8 * (k : Int)) := hRWA 5 (by decide)
                have hy6 : y 6 = .int .i64 j := hRWA 6 (by decide)
                have hy7 : y 7 = .int .i64 (8 * (k : Int) + (j : Int)) := hRWA 7 (by decide)
                have hy8 : y 8 = .pointer (some ⟨w.heap.size, (8 * k + j) * 3, none⟩) := hRWA 8 (by decide)
                have hy9 : y 9 = .agg (enC E) := hRWA 9 (by decide)
                obtain ⟨ya10, yc10, hy10, yle10, ymx10, ynil10, yrd10⟩ := hRWA 10 (by decide)
                have E36 := hw 36 3 rfl
                rw [hy3] at E36
                have E43 := hw 43 10 rfl
                rw [hy10] at E43
                have EC : ∀ v, ρ (.const v) = v := fun v => hn (.const v) trivial
                have EF : ∀ f, ρ (.func f) = .func (.func f) #[] #[] := fun f => hn (.func f) trivial
                refine giv_app (want_free rfl) (run_app (.tmp 36) (.tmp 43) 22 rfl w.heap.size 26 _ 3 24 Try.underlying22 entry_info rfl (by decide) _ _ _ E36 (hown.below hbWA) ya10 1 yc10 (enL E) E43 ynil10 yle10 rfl yrd10 (en_one E) (by unfold maxLen; omega) (by omega) (Nat.le_trans hbr2.size hbWA.size)) ?_
                rintro v2 w4 ⟨hown4, hgr4, hcase4⟩
                clear hRWA hw hn hV
                simp only [lay, Nat.reduceAdd, Nat.reduceLT, Nat.reduceEqDiff, reduceIte, decide_true, decide_false, if_true, Bool.false_eq_true, if_false, List.setIfInBounds_toArray, List.set_cons_zero, List.set_cons_succ, List.drop_succ_cons, List.drop_zero, List.drop_nil, hy0, hy1, hy2, hy3, hy4, hy5, hy6, hy7, hy8, hy9, hy10]
                clear hy0 hy1 hy2 hy3 hy4 hy5 hy6 hy7 hy8 hy9 hy10
                have hbelA := below_next hbr2 hbWA
                have hownA := hown.below hbWA
                have ho4 := blk_own (ho2.ext hbWA) hownA (by decide) hgr4
                have hx4 := blk_own (hx2.ext hbWA) hownA (by decide) hgr4
                have hres4 := blk_own (hres2.ext hbWA) hownA (by decide) hgr4
                have hbel4 := hbelA.grown hgr4 hbelA.size (fun k hk => hownA.ge k hk)
                have hown5 : Own w4 w.heap.size 26 3 v2 (t'[k] ++ [E]).length ((t'[k] ++ [E]).flatMap enL) := by
                  rw [List.length_append, List.flatMap_append]
                  simpa using hown4
                have hO4 := (hO2.below hbWA).app hlt hv'.out hown5 hgr4 hcase4
                have hT3 : Hid (TaI l k ((l.drop (8 * k)).take (j + 1)) (t'.set k (t'[k] ++ [E]))) := Lib.hid (by
                  have := hT2.out.set (h2 := (l.drop (8 * k)).take (j + 1)) hlt
                  have e : t'[k] ++ [E] = (l.drop (8 * k)).take (j + 1) := by rw [hP'.out, hT2.out.at' hlt]
                  rw [e]
                  exact this)
                have hsz2 := hO2.sz
                have hone2 : ∀ u ∈ [v2], u.oneCell' = true := by
                  obtain ⟨_, _, rfl, _⟩ := hown4.rd
                  intro u hu
                  cases List.mem_singleton.1 hu
                  rfl
                have hcv2 : (v2.cells.toList : List Value) = [v2] := by
                  obtain ⟨_, _, rfl, _⟩ := hown4.rd
                  rfl
                clear hbelA hownA hown4 hown5 hcase4 hgr4 hbWA hx2 hres2 ho2 hO2 hT2 hown hrE hbr2 yrd10
                go_wp2_with (refine wpList_stv rfl _ (.tmp 45) (.tmp 44) rfl (w.heap.size + 2) k _ [v2] rfl rfl hcv2 _ _ ho4 (by rw [hsz2]; exact hlt) slent_size hone2 ?_)
                intro w5 ho5 hgr5
                rw [putAt_one] at ho5
                have hO5 := hO4.keep ho4 (by decide) hgr5
                have hx5 := blk_keep hx4 ho4 (by decide) hgr5
                have hres5 : Blk w5 (w.heap.size + 1) _ _ := hres4.grown hgr5 (fun e => by have := Option.some.inj e; omega)
                have hbel5 := hbel4.grown hgr5 hbel4.size (fun k hk => by cases hk; omega)
                clear ho4 hx4 hres4 hbel4 hO4 hgr5
                go_wp2
                go_roundw
                case rel => exact ⟨j + 1, _, _, by omega, by go_num, hbel5, hx5, hres5, ho5, hO5, hT3⟩
                case measure => simp [intOf]; omega
              · obtain rfl : j = 8 := by omega
                have hTn : Hid (TaI l (k + 1) [] t') := Lib.hid (TaI.next (by rw [hhalf.out]; exact hT2.out) hlt)
                go_wp2
                go_roundw
                case rel => exact ⟨k + 1, ca', t', by omega, by go_num, hbr2, hx2, hres2, ho2, hO2, hTn⟩
                case measure => simp [intOf]; omega
    · obtain rfl : k = 8 := by omega
      have hfin := hT.out.fin
      have hone := hO.rd.one
      have hsz := hO.sz
      rw [hfin] at hO
      clear hfin
      go_wp2_with (first | (refine wpList_ld rfl 24 (.tmp 3) rfl (w.heap.size + 2) 0 rfl ca.toList ho.rd _ Try.underlying24 tab_agg (by rw [Array.length_toList, hsz]; exact tab_size) ?_) | (refine wpList_stw rfl _ (.tmp 2) (.tmp 47) rfl (w.heap.size + 1) ca rfl rfl _ _ hres (by rw [hsz]; rfl) (by rw [hsz]; exact tab_size) hone ?_))
      intro w5 hr5 hgr5
      have hO5 := hO.keep hres (by decide) hgr5
      have hbel5 : Below w.heap.size w w5 := hbr.grown hgr5 hbr.size (fun k hk => by cases hk; omega)
      go_wp2
      refine bodyPost_ret (v := .agg ca) (results_c Try.results26 _ _ (w.heap.size + 1) _ _ _ rfl hr5 Try.underlying24 rfl (by rw [hsz]; exact tab_size)) rfl ?_
      exact ⟨_, rfl, hO5, hbel5⟩
end Go.Proofs.Ytmdnmknmniabeaa
