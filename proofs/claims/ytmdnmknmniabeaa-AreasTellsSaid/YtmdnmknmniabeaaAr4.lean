/- slices.Insert of one area. -/
import Derived.Test.YtmdnmknmniabeaaAr3
import Derived.Lib.AppendZerosOnto
import Derived.Lib.Overlaps
import Derived.Lib.SliceRun
import Derived.Laws.Externs
import Derived.Laws.IdiomCopy
import Derived.Deep.RegionLaw
namespace Go.Proofs.Ytmdnmknmniabeaa
open Go.RowKit Pw
set_option linter.unusedSimpArgs false
set_option linter.unusedVariables false

/-- 'copy' of whole elements: all is read before anything is written. -/
theorem run_copy_sz {P : Program} (w : World) (dT sT ty elem : TypeId) (sz g o dLen dCap : Nat) (a : Addr) (sLen sCap n : Nat) (cs : List Value) (cur : Array Value) (T : TypeId)
    (hu : P.underlying dT = some (.slice elem)) (hs : (P.info? elem).map (·.size) = some sz) (hn : Nat.min sLen dLen = n) (hl : cs.length = n * sz) (hg : Blk w g cur T)
    (hsrc : ∀ j v, cs[j]? = some v → w.cell? (a.add j) = some v) (hfit : o + cs.length ≤ cur.size) (h1 : ∀ v ∈ cs, v.oneCell' = true) :
    (Builtin.copy_ #[dT, sT] ty #[.slice (some ⟨g, o, none⟩) dLen dCap, .slice (some a) sLen sCap]).run P w = .ok (goInt n) (w.setCells g o cs) := by
  have hld := run_loadCells_list (P := P) w a cs hsrc
  have hst := run_storeCells_cells (P := P) g o cs 0 w (fun j hj => by rw [Nat.add_zero, hg.cell]; simp [show o + j < cur.size by omega]) (fun j hj => hg.free _) h1
  cases hq : P.info? elem with
  | none => simp [hq] at hs
  | some i =>
    have hi : i.size = sz := by simpa [hq] using hs
    simp [Builtin.copy_, run_underlying hu, Builtin.lenOf, Builtin.firstCells, sizeOf, typeInfo, hq, hi, hn, ← hl, hld, hst]
theorem wp_cpy {P : Program} (w : World) {ops : Array Oper} {rest : List Oper} {o : Oper} {a : Act} {Q : Exit → Act → World → Prop} (hgd : o.guard = none) (d s : Operand) (t t' : TypeId)
    (ho : o.op = .call { callee := .builtin .copy, args := #[d, s], argTypes := #[t, t'] }) (v u : Value) (hd : a.eval d = v) (hs : a.eval s = u) {v' : Value} {w' : World}
    (hr : (Builtin.copy_ #[t, t'] o.type #[v, u]).run P w = .ok v' w') (h : wpList P ops Q rest (a.put o.dst v') w') : wpList P ops Q (o :: rest) a w :=
  wpList_plain hgd fun K hK => by
    unfold Oper.wp execOp
    simp only [ho, resolve, invoke, builtin, Sem.run_bind, Sem.run_pure, Result.andThen_ok, List.map_toArray, List.map_cons, List.map_nil, hd, hs, hr]
    exact hK _ _ h
theorem step_cpy {P : Program} {ops : Array Oper} {o : Oper} {a : Act} {w : World} {K : Act → World → Prop} {Q : Exit → Act → World → Prop} {E : Prop}
    (hg : o.guard = none) (d x : Operand) (dT sT : TypeId) (hop : o.op = Op.call { callee := Callee.builtin Builtin.copy, args := #[d, x], argTypes := #[dT, sT] })
    (v u : Value) (hd : a.eval d = v) (hx : a.eval x = u) {v' : Value} {w' : World} (hr : (Builtin.copy_ #[dT, sT] o.type #[v, u]).run P w = .ok v' w') (hK : K (a.put o.dst v') w') :
    if Region.wanted o (yielded ops a.tmps) = true then Oper.wp P o a w K Q else E := by
  have hw : Region.wanted o (yielded ops a.tmps) = true := by simp [Region.wanted, hg]
  rw [if_pos hw]
  unfold Oper.wp
  simp [execOp, hop, resolve, invoke, builtin, hd, hx, hr, Result.andThen]
  exact hK
theorem ins_flat (l : List Ar) (x : Ar) (k : Nat) : (l.take k ++ x :: l.drop k).flatMap arL = (l.take k).flatMap arL ++ (arL x ++ (l.drop k).flatMap arL) := by simp [List.flatMap_append]
/-- A block holds what was put into it. -/
theorem ins_cells {l : List Ar} {x : Ar} {k o : Nat} (hk : k ≤ l.length) {cur : Array Value} (h1 : ∀ j u, ((l.take k).flatMap arL)[j]? = some u → cur[o + j]? = some u) (h2 : ∀ j u, (arL x)[j]? = some u → cur[o + k * 7 + j]? = some u)
    (h3 : ∀ j u, ((l.drop k).flatMap arL)[j]? = some u → cur[o + (k + 1) * 7 + j]? = some u) : ∀ j u, ((l.take k ++ x :: l.drop k).flatMap arL)[j]? = some u → cur[o + j]? = some u := by
  intro j u hj
  have hl1 : ((l.take k).flatMap arL).length = k * 7 := by rw [areas_len, List.length_take, Nat.min_eq_left hk]
  rw [ins_flat] at hj
  by_cases c1 : j < k * 7
  · rw [List.getElem?_append_left (by omega)] at hj
    exact h1 j u hj
  · rw [List.getElem?_append_right (by omega), hl1] at hj
    by_cases c2 : j - k * 7 < 7
    · rw [List.getElem?_append_left (by rw [arL_len]; exact c2)] at hj
      have := h2 _ u hj
      rwa [show o + k * 7 + (j - k * 7) = o + j by omega] at this
    · rw [List.getElem?_append_right (by rw [arL_len]; omega), arL_len] at hj
      have := h3 _ u hj
      rwa [show o + (k + 1) * 7 + (j - k * 7 - 7) = o + j by omega] at this
theorem take_cells {l : List Ar} {k : Nat} {cur : Array Value} {o : Nat} (h : ∀ j u, (l.flatMap arL)[j]? = some u → cur[o + j]? = some u) : ∀ j u, ((l.take k).flatMap arL)[j]? = some u → cur[o + j]? = some u := by
  intro j u hj
  refine h j u ?_
  conv => lhs; rw [← List.take_append_drop k l, List.flatMap_append]
  rw [List.getElem?_append_left (by have := (List.getElem?_eq_some_iff.1 hj).1; exact this)]
  exact hj
theorem drop_cells {l : List Ar} {k : Nat} (hk : k ≤ l.length) {cur : Array Value} {o : Nat} (h : ∀ j u, (l.flatMap arL)[j]? = some u → cur[o + j]? = some u) : ∀ j u, ((l.drop k).flatMap arL)[j]? = some u → cur[o + k * 7 + j]? = some u := by
  intro j u hj
  rw [Nat.add_assoc]
  refine h _ u ?_
  conv => lhs; rw [← List.take_append_drop k l, List.flatMap_append]
  have hl1 : ((l.take k).flatMap arL).length = k * 7 := by rw [areas_len, List.length_take, Nat.min_eq_left hk]
  rw [List.getElem?_append_right (by omega), hl1, Nat.add_sub_cancel_left]
  exact hj
set_option maxHeartbeats 4000000 in
set_option maxRecDepth 100000 in
theorem insert_any (l : List Ar) (x : Ar) (k : Nat) (hk : k ≤ l.length) (v : Value) (B g : Nat) (w : World) (hown : Own w B 66 7 v l.length (l.flatMap arL)) (hB : B ≤ w.heap.size) (hl : l.length ≤ 1000) (hg : Blk w g (arC x) 66) (hne : k < l.length → ∀ b, v.ownBlock = some b → g ≠ b) :
    Calls Try.prog 77 #[v, .int .i64 k, .slice (some ⟨g, 0, none⟩) 1 1] w fun e w' => ∃ v', e = .returned v' ∧ Own w' B 66 7 v' (l.length + 1) ((l.take k ++ x :: l.drop k).flatMap arL) ∧ w.grownBy w' v.ownBlock := by
  obtain ⟨a0, c0, hv0, hle0, hmx0, hnl0, _⟩ := hown.rd
  unfold maxLen at hmx0
  by_cases hkl : k = l.length
  · subst hkl
    have hins : (l.take l.length ++ x :: l.drop l.length).flatMap arL = l.flatMap arL ++ arL x := by simp [List.flatMap_append]
    have hins' := Lib.hid hins
    clear hins
    subst hv0
    go_enter Try.func77, Try.ntmps77
    go_wp2_with (at_builtin; refine wpList_app rfl _ _ 64 rfl B 66 _ 7 40 Try.underlying64 area_info rfl (by decide) _ l.length (l.flatMap arL) rfl hown (some ⟨g, 0, none⟩) 1 1 (arL x) rfl (fun h => (by cases h)) (Nat.le_refl _) rfl hg.rd (fun u hu => areas_one [x] u (by simpa using hu)) (by unfold maxLen; omega) (by omega) hB ?_)
    all_goals
      intro v' w' hown' hgr
      go_wp2
      go_ret
      exact ⟨_, rfl, by rw [hins'.out]; exact hown', by cases a0 <;> exact hgr⟩
  · have hkn : k < l.length := by omega
    rcases hown with ⟨hlen, ⟨_, hz⟩ | ⟨b, off, c, cur, rfl, hBb, hb, hnc, hmx, hsz, hcell⟩⟩
    · omega
    · have hgb : g ≠ b := hne hkn b rfl
      clear hv0 hle0 hmx0 hnl0
      have hbw := hb.lt
      have hgw := hg.lt
      have hz2 : ¬ ((k : Int) = (l.length : Int)) := by omega
      have hki : (k : Int) ≤ (l.length : Int) := by omega
      have hmx' := hmx
      unfold maxLen at hmx'
      have hw1 : IntKind.i64.wrap ((k : Int) + 1) = (k : Int) + 1 := IntWalk.i64_in _ (by omega)
      have hw2 : IntKind.i64.wrap ((l.length : Int) + 1) = (l.length : Int) + 1 := IntWalk.i64_in _ (by omega)
      have htn : ((k : Int) + 1).toNat = k + 1 := by omega
      have hdl : ((l.drop k).flatMap arL).length = (l.length - k) * 7 := by rw [areas_len, List.length_drop]
      have hck : ¬ (c = k) := by omega
      have hdc := drop_cells hk hcell
      have htc := take_cells (k := k) hcell
      by_cases hroom : l.length + 1 ≤ c
      · have hr1 : ¬ ((c : Int) < (l.length : Int) + 1) := by omega
        have hck1 : ¬ (c = k + 1) := by omega
        have hk0 : (0 : Int) ≤ (k : Int) + 1 := by omega
        have hb3 : (k : Int) ≤ (l.length : Int) + 1 := by omega
        have hov : ∀ lb cb W, W = w → (callFunc 89 #[.slice (some ⟨g, 0, none⟩) 1 1, .slice (some ⟨b, off + (k + 1) * 7, none⟩) lb cb]).run Try.prog W = .ok (.value (.bool false)) W := by
          intro lb cb W hW
          subst hW
          have hsz7 : ∀ w, (Go.sizeOf 66).run Try.prog w = .ok 7 w := by
            intro w
            cases hq : Try.prog.info? 66 with
            | none => have := area_size; simp [hq] at this
            | some i =>
              have hz : i.size = 7 := by have := area_size; simpa [hq] using this
              simp [Go.sizeOf, typeInfo, run_program, hq, hz]
          rw [run_callFunc_extern Try.func89 (by kernel_rfl) (by kernel_rfl) (by kernel_rfl) (e := Extern.SlicesOverlaps.overlaps #[64, 64] #[4]) (by kernel_rfl),
            Lib.run_overlaps_apart W 64 4 66 Try.underlying64 7 hsz7 ⟨g, 0, none⟩ ⟨b, off + (k + 1) * 7, none⟩ 1 1 lb cb hgb 66 66 7 cur.size (by unfold Blk at hg; simp [World.shape?, hg, arC]) (by unfold Blk at hb; simp [World.shape?, hb]) (by omega) (hg.free _) (hg.free _)]
          rfl
        have hcp1 : ∀ W ty dc sc, Blk W b cur 66 → (Builtin.copy_ #[64, 64] ty #[.slice (some ⟨b, off + (k + 1) * 7, none⟩) (l.length - k) dc, .slice (some ⟨b, off + k * 7, none⟩) (l.length + 1 - k) sc]).run Try.prog W = .ok (goInt (l.length - k : Nat)) (W.setCells b (off + (k + 1) * 7) ((l.drop k).flatMap arL)) := fun W ty dc sc hW =>
          run_copy_sz W _ _ ty 66 7 b (off + (k + 1) * 7) (l.length - k) dc ⟨b, off + k * 7, none⟩ (l.length + 1 - k) sc (l.length - k) _ cur _ Try.underlying64 area_size (by simp only [Nat.min_def]; split <;> omega) hdl hW (fun j v hj => by rw [Addr.add_lit, hW.cell]; exact hdc j v hj) (by omega) (fun v hv => areas_one _ v hv)
        have hcp2 : ∀ W ty dc, Blk W b (putAt cur (off + (k + 1) * 7) ((l.drop k).flatMap arL)) 66 → Blk W g (arC x) 66 → (Builtin.copy_ #[64, 64] ty #[.slice (some ⟨b, off + k * 7, none⟩) (l.length + 1 - k) dc, .slice (some ⟨g, 0, none⟩) 1 1]).run Try.prog W = .ok (goInt (1 : Nat)) (W.setCells b (off + k * 7) (arL x)) := fun W ty dc hW hWg =>
          run_copy_sz W _ _ ty 66 7 b (off + k * 7) (l.length + 1 - k) dc ⟨g, 0, none⟩ 1 1 1 _ _ _ Try.underlying64 area_size (by simp only [Nat.min_def]; split <;> omega) rfl hW (fun j v hj => by rw [Addr.add_lit, hWg.cell, Nat.zero_add]; simpa [arL] using hj) (by rw [size_putAt, arL_len]; omega) (fun v hv => arL_one x v hv)
        have hov' := fun lb cb => hov lb cb w rfl
        clear hov
        go_enter Try.func77, Try.ntmps77
        go_wp2_with (simp only [hov'])
        go_region_law (refine step_cpy rfl _ _ 64 64 rfl (.slice (some ⟨b, off + (k + 1) * 7, none⟩) (l.length - k) (c - (k + 1))) (.slice (some ⟨b, off + k * 7, none⟩) (l.length + 1 - k) (c - k)) (by simp [Act.eval, Act.put]) (by simp [Act.eval, Act.put]) (hcp1 _ _ _ _ hb.drew) ?_)
        have hb1 := (hb.drew).setCells ((l.drop k).flatMap arL) (off + (k + 1) * 7)
        have hg1 : Blk (w.drew.setCells b (off + (k + 1) * 7) ((l.drop k).flatMap arL)) g (arC x) 66 := hg.drew.grown (grownBy_setCells _ _ _ _) (fun e => hgb (Option.some.inj e).symm)
        have hgr1 : w.grownBy (w.drew.setCells b (off + (k + 1) * 7) ((l.drop k).flatMap arL)) (some b) := grown_then (a := w) (b := w.drew) (row := some b) ⟨rfl, rfl, rfl, Nat.le_refl _, fun _ _ _ => rfl⟩ (grownBy_setCells w.drew _ _ _)
        generalize w.drew.setCells b (off + (k + 1) * 7) ((l.drop k).flatMap arL) = W1 at *
        go_wp2_with (at_builtin; refine wp_cpy _ rfl _ _ 64 64 rfl _ _ rfl rfl (hcp2 _ _ _ hb1 hg1) ?_)
        have hb2 := hb1.setCells (arL x) (off + k * 7)
        have hgr2 : w.grownBy (W1.setCells b (off + k * 7) (arL x)) (some b) := grown_then hgr1 (grownBy_setCells _ _ _ _)
        go_wp2
        go_ret
        refine ⟨_, rfl, ⟨by rw [ins_flat]; simp only [List.length_append, areas_len, arL_len, List.length_take, List.length_drop]; omega, .inr ⟨b, off, c, _, rfl, hBb, hb2, hroom, hmx, by rw [size_putAt, size_putAt]; exact hsz, ins_cells hk ?_ ?_ ?_⟩⟩, hgr2⟩
        · intro j u hj
          have hjl : j < k * 7 := by have := (List.getElem?_eq_some_iff.1 hj).1; rw [areas_len, List.length_take] at this; omega
          rw [putAt_out _ _ _ _ (by omega), putAt_out _ _ _ _ (by omega)]
          exact htc j u hj
        · intro j u hj
          exact putAt_in _ _ _ j u (by rw [size_putAt, arL_len]; omega) hj
        · intro j u hj
          rw [putAt_out _ _ _ _ (by rw [arL_len]; omega)]
          exact putAt_in _ _ _ j u (by omega) hj
      · have hc : c = l.length := by omega
        subst hc
        obtain ⟨i0, hi0, hz0, hzs, hzb⟩ := info_parts area_info
        have hr1 : (l.length : Int) < (l.length : Int) + 1 := by omega
        have hgr0 : ¬ ((l.length : Int) + 1 ≤ (l.length : Int)) := by omega
        have hck1 : k + 1 ≤ l.length := by omega
        have hkk : IntKind.i64.wrap ((l.length : Int) + 1 - (k : Int)) = ((l.length + 1 - k : Nat) : Int) := by rw [IntWalk.i64_in _ (by omega)]; omega
        have hkk' : (l.length : Int) + 1 - (k : Int) = ((l.length + 1 - k : Nat) : Int) := by omega
        have hik : k + (l.length + 1 - k) = l.length + 1 := by omega
        have htl : ((l.take k).flatMap arL).length = k * 7 := by rw [areas_len, List.length_take, Nat.min_eq_left hk]
        have hold : (Builtin.firstCells i0.size k (.slice (some ⟨b, off, none⟩) k l.length)).run Try.prog w.drew = .ok ((l.take k).flatMap arL).toArray w.drew := by
          rw [hzs]
          exact run_firstCells_some w.drew 7 k ⟨b, off, none⟩ k l.length _ htl (fun j v hj => by rw [Addr.add_lit, hb.drew.cell]; exact htc j v hj)
        have hrz : ∀ ty, (Builtin.append_ #[64, 3] ty #[.slice (some ⟨b, off, none⟩) k l.length, .int .i64 ((l.length + 1 - k : Nat) : Int)]).run Try.prog w =
            .ok (.slice (some ⟨w.heap.size, 0, none⟩) (l.length + 1) (grownCap w (l.length + 1) l.length 66)) (w.drew.alloc (.cells (((l.take k).flatMap arL).toArray ++ Builtin.zeroCells (arC zAr) (l.length + 1 - k) ++ Builtin.zeroCells (arC zAr) (grownCap w (l.length + 1) l.length 66 - (l.length + 1))) 66)) := fun ty => by
          have h := Lib.run_append_grow_zeros w 64 3 ty 66 i0 _ .i64 .i64 Try.underlying64 Try.underlying3 hi0 hz0 (some ⟨b, off, none⟩) k l.length ((l.take k).flatMap arL) hold (l.length + 1 - k) (by omega) (by omega) (by omega) (by omega) (by rw [hzb]; omega) (by rw [hzb, hik]; exact growslice_fits (by omega) (by omega))
          rw [hik] at h
          exact h
        obtain ⟨G, hG⟩ : ∃ G, G = grownCap w (l.length + 1) l.length 66 := ⟨_, rfl⟩
        have hGn : l.length + 1 ≤ G := by rw [hG]; exact grownCap_ge w _ _ _
        have hG63 : G ≤ maxLen := by
          rw [hG]
          exact grownCap_le_maxLen w _ _ _ (by unfold maxLen; omega)
        obtain ⟨ROW, hROW⟩ : ∃ ROW : Array Value, ROW = ((l.take k).flatMap arL).toArray ++ Builtin.zeroCells (arC zAr) (l.length + 1 - k) ++ Builtin.zeroCells (arC zAr) (G - (l.length + 1)) := ⟨_, rfl⟩
        rw [← hG, ← hROW] at hrz
        have hRl : ROW.size = G * 7 := by
          rw [hROW]
          simp [Builtin.zeroCells, arC, htl]
          omega
        have hRc : ∀ (j : Nat) (u : Value), ((l.take k).flatMap arL)[j]? = some u → ROW[j]? = some u := by
          intro j u hj
          have hjl := (List.getElem?_eq_some_iff.1 hj).1
          rw [hROW, Array.append_assoc, Array.getElem?_append_left (by simpa using hjl)]
          simpa using hj
        clear hold hROW hG
        obtain ⟨W1, hW1⟩ : ∃ W1, W1 = w.drew.alloc (.cells ROW 66) := ⟨_, rfl⟩
        rw [← hW1] at hrz
        have hn1 : Blk W1 w.heap.size ROW 66 := by rw [hW1]; exact Blk.new w.drew ROW _
        have hgr1 : w.grownBy W1 (some b) := by rw [hW1]; exact grown_then (a := w) (b := w.drew) (row := some b) ⟨rfl, rfl, rfl, Nat.le_refl _, fun _ _ _ => rfl⟩ (World.grownBy_alloc _ _ _)
        have hb1 : Blk W1 b cur 66 := by rw [hW1]; exact hb.drew.alloc _
        have hg1 : Blk W1 g (arC x) 66 := by rw [hW1]; exact hg.drew.alloc _
        clear hW1
        have hbN : w.heap.size ≠ b := by omega
        have hgN : w.heap.size ≠ g := by omega
        have hcpA : ∀ W ty dc, Blk W w.heap.size ROW 66 → Blk W g (arC x) 66 → (Builtin.copy_ #[64, 64] ty #[.slice (some ⟨w.heap.size, k * 7, none⟩) (l.length + 1 - k) dc, .slice (some ⟨g, 0, none⟩) 1 1]).run Try.prog W = .ok (goInt (1 : Nat)) (W.setCells w.heap.size (k * 7) (arL x)) := fun W ty dc hW hWg =>
          run_copy_sz W _ _ ty 66 7 w.heap.size (k * 7) (l.length + 1 - k) dc ⟨g, 0, none⟩ 1 1 1 _ _ _ Try.underlying64 area_size (by simp only [Nat.min_def]; split <;> omega) rfl hW (fun j v hj => by rw [Addr.add_lit, hWg.cell, Nat.zero_add]; simpa [arL] using hj) (by rw [arL_len]; omega) (fun v hv => arL_one x v hv)
        have hcpB : ∀ W ty dc sc, Blk W w.heap.size (putAt ROW (k * 7) (arL x)) 66 → Blk W b cur 66 → (Builtin.copy_ #[64, 64] ty #[.slice (some ⟨w.heap.size, (k + 1) * 7, none⟩) (l.length - k) dc, .slice (some ⟨b, off + k * 7, none⟩) (l.length - k) sc]).run Try.prog W = .ok (goInt (l.length - k : Nat)) (W.setCells w.heap.size ((k + 1) * 7) ((l.drop k).flatMap arL)) := fun W ty dc sc hW hWb =>
          run_copy_sz W _ _ ty 66 7 w.heap.size ((k + 1) * 7) (l.length - k) dc ⟨b, off + k * 7, none⟩ (l.length - k) sc (l.length - k) _ _ _ Try.underlying64 area_size (by simp only [Nat.min_def]; split <;> omega) hdl hW (fun j v hj => by rw [Addr.add_lit, hWb.cell]; exact hdc j v hj) (by rw [size_putAt]; omega) (fun v hv => areas_one _ v hv)
        have hGi : ¬ (G = k) := by omega
        have hGim : ¬ (G = k + 1) := by omega
        have hk0 : (0 : Int) ≤ (k : Int) + 1 := by omega
        have hb3 : (k : Int) ≤ (l.length : Int) + 1 := by omega
        have hmxG := hG63
        unfold maxLen at hmxG
        go_enter Try.func77, Try.ntmps77
        go_wp2_with (at_builtin; refine Lib.wpList_append_run _ rfl _ _ _ _ rfl _ _ rfl rfl _ _ (hrz _) ?_)
        have hn2 := hn1.setCells (arL x) (k * 7)
        have hb2 : Blk (W1.setCells w.heap.size (k * 7) (arL x)) b cur 66 := hb1.grown (grownBy_setCells _ _ _ _) (fun e => hbN (Option.some.inj e))
        have hgr2 : ∀ q, q < w.heap.size → q ≠ b → (W1.setCells w.heap.size (k * 7) (arL x)).heap[q]? = w.heap[q]? := fun q hq hqb =>
          ((grownBy_setCells W1 w.heap.size (k * 7) (arL x)).block q (Nat.lt_of_lt_of_le hq hgr1.size) (fun e => by have := Option.some.inj e; omega)).trans (hgr1.block q hq (fun e => hqb (Option.some.inj e)))
        have hos := (grownBy_setCells W1 w.heap.size (k * 7) (arL x)).os.trans hgr1.os
        have htp := (grownBy_setCells W1 w.heap.size (k * 7) (arL x)).tape.trans hgr1.tape
        have hou := (grownBy_setCells W1 w.heap.size (k * 7) (arL x)).output.trans hgr1.output
        have hsz2 := Nat.le_trans hgr1.size (grownBy_setCells W1 w.heap.size (k * 7) (arL x)).size
        generalize W1.setCells w.heap.size (k * 7) (arL x) = W2 at *
        clear hn1 hg1 hb1 hrz hcpA
        go_region_law (refine step_cpy rfl _ _ 64 64 rfl (.slice (some ⟨w.heap.size, (k + 1) * 7, none⟩) (l.length - k) (G - (k + 1))) (.slice (some ⟨b, off + k * 7, none⟩) (l.length - k) (l.length - k)) (by simp [Act.eval, Act.put]) (by simp [Act.eval, Act.put]) (hcpB _ _ _ _ hn2.drew hb2.drew) ?_)
        have hn3 := hn2.drew.setCells ((l.drop k).flatMap arL) ((k + 1) * 7)
        have hgr3 := grownBy_setCells W2.drew w.heap.size ((k + 1) * 7) ((l.drop k).flatMap arL)
        have hgrF : w.grownBy (W2.drew.setCells w.heap.size ((k + 1) * 7) ((l.drop k).flatMap arL)) (some b) :=
          ⟨hgr3.os.trans hos, hgr3.tape.trans htp, hgr3.output.trans hou, Nat.le_trans hsz2 hgr3.size, fun q hq hqb => (hgr3.block q (Nat.lt_of_lt_of_le hq hsz2) (fun e => by have := Option.some.inj e; omega)).trans (hgr2 q hq (fun e => hqb (by rw [e])))⟩
        go_wp2
        go_ret
        refine ⟨_, rfl, ⟨by rw [ins_flat]; simp only [List.length_append, areas_len, arL_len, List.length_take, List.length_drop]; omega, .inr ⟨w.heap.size, 0, G, _, rfl, hB, hn3, hGn, hG63, by rw [size_putAt, size_putAt]; omega, ins_cells hk ?_ ?_ ?_⟩⟩, hgrF⟩
        · intro j u hj
          have hjl : j < k * 7 := by have := (List.getElem?_eq_some_iff.1 hj).1; rw [areas_len, List.length_take] at this; omega
          rw [Nat.zero_add, putAt_out _ _ _ _ (by omega), putAt_out _ _ _ _ (by omega)]
          exact hRc j u hj
        · intro j u hj
          have hjl : j < 7 := by have := (List.getElem?_eq_some_iff.1 hj).1; rwa [arL_len] at this
          rw [Nat.zero_add, putAt_out _ _ _ _ (by omega)]
          exact putAt_in _ _ _ j u (by rw [arL_len]; omega) hj
        · intro j u hj
          rw [Nat.zero_add]
          exact putAt_in _ _ _ j u (by rw [size_putAt]; omega) hj
end Go.Proofs.Ytmdnmknmniabeaa
