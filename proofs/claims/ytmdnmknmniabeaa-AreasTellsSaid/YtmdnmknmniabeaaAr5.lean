/- Package areas: Room, Map. -/
import Derived.Test.YtmdnmknmniabeaaAr4
import Derived.Test.YtmdnmknmniabeaaGrowD
import Derived.Test.YtmdnmknmniabeaaGrow2
namespace Go.Proofs.Ytmdnmknmniabeaa
open Go.RowKit Pw
set_option linter.unusedSimpArgs false
set_option linter.unusedVariables false

structure AsR (w : World) (a : Option Addr) (c : Nat) (l : List Ar) : Prop where
  le : l.length ≤ c
  mx : c ≤ maxLen
  nl : a = none → c = 0
  rd : RdV w a (l.flatMap arL)
theorem AsR.below {w w' : World} {a : Option Addr} {c : Nat} {l : List Ar} (h : AsR w a c l) (hb : Below w.heap.size w w') : AsR w' a c l := ⟨h.le, h.mx, h.nl, h.rd.below hb⟩
theorem AsR.of {w : World} {B : Nat} {v : Value} {l : List Ar} (h : Own w B 66 7 v l.length (l.flatMap arL)) : ∃ a c, v = .slice a l.length c ∧ AsR w a c l := by
  obtain ⟨a, c, h1, h2, h3, h4, h5⟩ := h.rd
  exact ⟨a, c, h1, h2, h3, h4, h5⟩
theorem wrong_all {l : List Ar} (h : (wrongA l).1 = 0) : l.length ≤ 16 ∧ ∀ a ∈ l, areaE a = 0 := by
  unfold wrongA at h
  split at h
  · exact absurd h (by decide)
  · refine ⟨by omega, ?_⟩
    have key : ∀ (l : List Ar) (p : Option Ar) (i : Nat), (wrongAt p i l).1 = 0 → ∀ a ∈ l, areaE a = 0 := by
      intro l
      induction l with
      | nil => intro p i _ a ha; cases ha
      | cons b r ih =>
        intro p i h a ha
        rw [wrongAt_cons] at h
        split at h
        · rename_i hb; exact absurd h hb
        · rename_i hb
          split at h
          · exact absurd (show (2 : Int) = 0 from h) (by decide)
          · rcases List.mem_cons.1 ha with rfl | ha
            · exact Decidable.byContradiction hb
            · exact ih _ _ h a ha
    exact key l none 0 h
/-- The first page from which so many are in no area. -/
def roomGo (n : Int) : Int → List Ar → Int
  | t, [] => t
  | t, a :: r => if n ≤ a.fr - t then t else roomGo n (if t < a.en then a.en else t) r
def roomA (l : List Ar) (n : Int) : Int := if n < 1 ∨ 64 - roomGo n 0 l < n then -1 else roomGo n 0 l
theorem roomGo_cons (n t : Int) (a : Ar) (r : List Ar) : roomGo n t (a :: r) = if n ≤ a.fr - t then t else roomGo n (if t < a.en then a.en else t) r := rfl
set_option maxHeartbeats 2000000 in
set_option maxRecDepth 100000 in
theorem room_any (l : List Ar) (n : Int) (a : Option Addr) (c : Nat) (w : World) (hrd : RdV w a (l.flatMap arL)) (hl : l.length ≤ 1000) (hf : ∀ x ∈ l, arFew x) :
    Calls Try.prog 54 #[.slice a l.length c, .int .i64 n] w fun r w' => r = .returned (.int .i64 (roomA l n)) ∧ Below w.heap.size w w' := by
  go_enter Try.func54, Try.ntmps54
  go_upto_region 3 with (fail)
  go_loopw [10, 5] (fun i s wr => ∃ (k : Nat) (t : Int), k ≤ l.length ∧ i = .int .i64 k ∧ s = .int .i64 t ∧ 0 ≤ t ∧ t ≤ 64 ∧ Below w.heap.size w wr ∧ Hid (roomGo n 0 l = roomGo n t (l.drop k))) (fun i _ _ => l.length - (intOf i).toNat)
  case atStart => exact ⟨0, 0, Nat.zero_le _, rfl, rfl, by decide, by decide, Below.refl _ _, Lib.hid rfl⟩
  case round =>
    obtain ⟨k, t, hk, rfl, rfl, ht0, ht1, hbr, hst⟩ := hrel
    by_cases hlt : k < l.length
    · obtain ⟨b, off, rfl, c0, c1, c2, c3, c4, c5, c6⟩ := ar_at7 (hrd.below hbr) k hlt
      obtain ⟨f1, f2, f3⟩ := hf l[k] (List.getElem_mem _)
      have hst' : Hid (roomGo n 0 l = if n ≤ l[k].fr - t then t else roomGo n (if t < l[k].en then l[k].en else t) (l.drop (k + 1))) := Lib.hid (by rw [hst.out, List.drop_eq_getElem_cons hlt, roomGo_cons])
      generalize l[k] = A at *
      have hw1 : IntKind.i64.wrap (A.fr - t) = A.fr - t := IntWalk.i64_in _ (by omega)
      clear hst
      go_upto_region 5 with (fail)
      refine abs1 (fun W => Code.wp _ _ _ _ W) fun W0 hb0 hx0 hs0 => ?_
      clear hs0 c0 c1 c2 c3 c4 c5 c6
      have hbr := below_next hbr hb0
      have hcx := hx0.cell
      clear hb0
      by_cases hn : n ≤ A.fr - t
      · have hq : Hid (roomGo n 0 l = t) := Lib.hid (by rw [hst'.out, if_pos hn])
        clear hst'
        by_cases h1 : n < 1
        · have hz : Hid (roomA l n = -1) := Lib.hid (by unfold roomA; rw [if_pos (.inl h1)])
          go_wp2
          go_ret
          exact ⟨ret_int hz.out.symm, hbr⟩
        · have hw : IntKind.i64.wrap (64 - t) = 64 - t := IntWalk.i64_in _ (by omega)
          by_cases h2 : 64 - t < n
          · first
            | (exfalso; omega)
            | (have hz : Hid (roomA l n = -1) := Lib.hid (by unfold roomA; rw [hq.out, if_pos (.inr h2)])
               go_wp2
               go_ret
               exact ⟨ret_int hz.out.symm, hbr⟩)
          · have hz : Hid (roomA l n = t) := Lib.hid (by unfold roomA; rw [hq.out, if_neg (by omega)])
            go_wp2
            go_ret
            exact ⟨ret_int hz.out.symm, hbr⟩
      · by_cases hm : t < A.en
        · have hq : Hid (roomGo n 0 l = roomGo n A.en (l.drop (k + 1))) := Lib.hid (by rw [hst'.out, if_neg hn, if_pos hm])
          clear hst'
          go_wp2
          go_roundw
          case rel => exact ⟨k + 1, A.en, by omega, by go_num, rfl, by omega, by omega, hbr, hq⟩
          case measure => simp [intOf]; omega
        · have hq : Hid (roomGo n 0 l = roomGo n t (l.drop (k + 1))) := Lib.hid (by rw [hst'.out, if_neg hn, if_neg hm])
          clear hst'
          go_wp2
          go_roundw
          case rel => exact ⟨k + 1, t, by omega, by go_num, rfl, by omega, by omega, hbr, hq⟩
          case measure => simp [intOf]; omega
    · have hq : Hid (roomGo n 0 l = t) := Lib.hid (by rw [hst.out, List.drop_eq_nil_of_le (by omega)]; rfl)
      clear hst
      by_cases h1 : n < 1
      · have hz : Hid (roomA l n = -1) := Lib.hid (by unfold roomA; rw [if_pos (.inl h1)])
        go_wp2
        go_ret
        exact ⟨ret_int hz.out.symm, hbr⟩
      · have hw : IntKind.i64.wrap (64 - t) = 64 - t := IntWalk.i64_in _ (by omega)
        by_cases h2 : 64 - t < n
        · first
          | (exfalso; omega)
          | (have hz : Hid (roomA l n = -1) := Lib.hid (by unfold roomA; rw [hq.out, if_pos (.inr h2)])
             go_wp2
             go_ret
             exact ⟨ret_int hz.out.symm, hbr⟩)
        · have hz : Hid (roomA l n = t) := Lib.hid (by unfold roomA; rw [hq.out, if_neg (by omega)])
          go_wp2
          go_ret
          exact ⟨ret_int hz.out.symm, hbr⟩
/-- Where an area comes to lie. -/
def posA (l : List Ar) (x : Ar) : Nat := match l.findIdx? (behindA x) with
  | some k => k
  | none => l.length
theorem posA_le (l : List Ar) (x : Ar) : posA l x ≤ l.length := by
  unfold posA
  split
  · rename_i k hk
    exact Nat.le_of_lt (List.findIdx?_eq_some_iff_getElem.1 hk).1
  · exact Nat.le_refl _
def insA (l : List Ar) (x : Ar) : List Ar := l.take (posA l x) ++ x :: l.drop (posA l x)
theorem insA_len (l : List Ar) (x : Ar) : (insA l x).length = l.length + 1 := by
  have := posA_le l x
  unfold insA; simp; omega
theorem insA_mem {l : List Ar} {x y : Ar} (h : y ∈ insA l x) : y = x ∨ y ∈ l := by
  unfold insA at h
  rcases List.mem_append.1 h with h | h
  · exact .inr (List.mem_of_mem_take h)
  · rcases List.mem_cons.1 h with h | h
    · exact .inl h
    · exact .inr (List.mem_of_mem_drop h)
def mapE (l : List Ar) (x : Ar) : Int := if (wrongA l).1 ≠ 0 then (wrongA l).1 else if areaE x ≠ 0 then areaE x else if l.any (meetsA x) = true then 6 else if 16 < (tidyL (insA l x)).length then 4 else 0
def mapL (l : List Ar) (x : Ar) : List Ar := if mapE l x ≠ 0 then [] else tidyL (insA l x)
theorem map_err {l : List Ar} {x : Ar} {e : Int} (h : mapE l x = e) (he : e ≠ 0) : mapE l x = e ∧ mapL l x = [] := by
  refine ⟨h, ?_⟩
  unfold mapL; rw [if_pos (by rw [h]; exact he)]
def doneE (n : Nat) : Int := if 16 < n then 4 else 0
def doneR (B : Nat) (m : List Ar) : Rel := ⟨fun v w => ∃ u, v = .tuple #[if 16 < m.length then .slice none 0 0 else u, .int .i64 (doneE m.length)] ∧ Own w B 66 7 u m.length (m.flatMap arL), fun _ _ _ hb ⟨u, h1, h2⟩ => ⟨u, h1, h2.below hb⟩⟩
def oneA (x : Ar) : Rel := ⟨fun v w => ∃ g, v = .slice (some ⟨g, 0, none⟩) 1 1 ∧ Blk w g (arC x) 66, fun _ _ _ hb ⟨g, h1, h2⟩ => ⟨g, h1, h2.ext hb⟩⟩
theorem own_not {w : World} {B g : Nat} {v : Value} {l : List Ar} {x : Ar} (h : Own w B 66 7 v l.length (l.flatMap arL)) (hg : Blk w g (arC x) 66) (hx : ¬ x ∈ l) (h0 : 0 < l.length) : ∀ b, v.ownBlock = some b → g ≠ b := by
  rintro b hb rfl
  rcases h with ⟨hlen, ⟨rfl, _⟩ | ⟨b', off, cap, cur, rfl, hB, hk, hc, hm, hs, ht⟩⟩
  · cases hb
  · cases hb
    unfold Blk at hk hg
    rw [hk] at hg
    simp only [Option.some.injEq, Obj.cells.injEq, and_true] at hg
    subst hg
    have h7 : (arC x).size = 7 := rfl
    have ho : off = 0 := by omega
    subst ho
    match l, h0 with
    | y :: r, _ =>
      have hc : ∀ (j : Nat) (u : Value), (arL y)[j]? = some u → (arC x)[j]? = some u := by
        intro j u hj
        have := ht j u (by rw [List.flatMap_cons, List.getElem?_append_left (by have := (List.getElem?_eq_some_iff.1 hj).1; exact this)]; exact hj)
        rwa [Nat.zero_add] at this
      have e0 := hc 0 _ rfl
      have e1 := hc 1 _ rfl
      have e2 := hc 2 _ rfl
      have e3 := hc 3 _ rfl
      have e4 := hc 4 _ rfl
      have e5 := hc 5 _ rfl
      have e6 := hc 6 _ rfl
      simp [arC] at e0 e1 e2 e3 e4 e5 e6
      refine hx (List.mem_cons.2 (.inl ?_))
      cases x
      cases y
      simp_all
theorem own_done {w : World} {B : Nat} {u : Value} {m : List Ar} (h : Own w B 66 7 u m.length (m.flatMap arL)) : Own w B 66 7 (if 16 < m.length then .slice none 0 0 else u) (if 16 < m.length then [] else m).length ((if 16 < m.length then [] else m).flatMap arL) := by
  split
  · exact Own.nil _ _ _ _
  · exact h
set_option maxHeartbeats 4000000 in
set_option maxRecDepth 100000 in
theorem map_any (l : List Ar) (x : Ar) (a : Option Addr) (c : Nat) (w : World) (h : AsR w a c l) :
    Calls Try.prog 45 #[.slice a l.length c, .agg (arC x)] w fun r w' => ∃ v, r = .returned (.tuple #[v, .int .i64 (mapE l x)]) ∧ Own w' w.heap.size 66 7 v (mapL l x).length ((mapL l x).flatMap arL) ∧ Below w.heap.size w w' := by
  have hlc := Nat.le_trans h.le h.mx
  unfold maxLen at hlc
  go_enter Try.func45, Try.ntmps45
  go_upto_region 1 with (fail)
  refine abs1 (fun W => Code.wp _ _ _ _ W) fun W0 hb0 hx0 hs0 => ?_
  clear hs0
  go_wp2_with fail
  refine (awrong_any l a c _ (h.below hb0).rd hlc).mono ?_
  rintro r w1 ⟨rfl, hb1⟩
  have hbel1 := below_next hb0 hb1
  have hx1 := hx0.ext hb1
  clear hb0 hx0 hb1
  unfold fauC
  go_wp2_with (refine wpList_stn rfl _ _ _ rfl #[.int .i64 (wrongA l).1, .int .i64 (wrongA l).2] rfl rfl rfl fau_size (fau_one _ _) ?_)
  intro w2 hb2 hf2
  have hbel := below_next hbel1 hb2
  have hx2 := hx1.ext hb2
  clear hbel1 hx1 hb2
  by_cases hw : (wrongA l).1 = 0
  · have hall := wrong_all hw
    have hw0 := Lib.hid hw
    rw [hw] at hf2
    have hcf := hf2.cell
    clear hw
    go_wp2_with fail
    refine (area_any w.heap.size 0 x _ (ArAt.blk hx2)).mono ?_
    rintro r w3 ⟨rfl, hb3⟩
    have hbel := below_next hbel hb3
    have hx3 := hx2.ext hb3
    clear hcf hf2 hx2 hb3
    by_cases he : areaE x = 0
    · have he0 := Lib.hid he
      rw [he]
      clear he
      go_wp2_with fail
      refine (conmeet_any l a c _ (h.below hbel).rd hlc w.heap.size x hx3).mono ?_
      rintro r w4 ⟨rfl, hb4⟩
      have hbel := below_next hbel hb4
      have hx4 := hx3.ext hb4
      clear hx3 hb4
      cases hm : l.any (meetsA x)
      · have hlt16 := hall.1
        have hfx := areaE_few he0.out
        have hxl : Hid (¬ x ∈ l) := Lib.hid (fun hx => by
          have h1 : meetsA x x = true := by unfold meetsA; rw [decide_eq_true hfx.2.1]; rfl
          have h2 := List.any_eq_true.2 ⟨x, hx, h1⟩
          rw [hm] at h2
          cases h2)
        have hfew : Hid (∀ y ∈ insA l x, arFew y) := Lib.hid (fun y hy => by
          rcases insA_mem hy with rfl | hy
          · exact hfx.1
          · exact (areaE_few (hall.2 y hy)).1)
        have hfin : Hid (mapE l x = doneE (tidyL (insA l x)).length) := Lib.hid (by unfold mapE; rw [if_neg (by rw [hw0.out]; simp), if_neg (by rw [he0.out]; simp), if_neg (by rw [hm]; simp)]; rfl)
        clear hm hfx hall
        go_wp2_with fail
        refine (idxbehind_any l a c _ (h.below hbel).rd hlc w.heap.size x hx4).mono ?_
        rintro r w5 ⟨rfl, hb5⟩
        have hbel := below_next hbel hb5
        have hx5 := hx4.ext hb5
        clear hx4 hb5
        cases hq : l.findIdx? (behindA x) with
        | none =>
          have hK : l.length ≤ l.length := Nat.le_refl _
          have hpos : Hid (posA l x = l.length) := Lib.hid (by unfold posA; rw [hq])
          have hix : idx (behindA x) l = -1 := by unfold idx; rw [hq]
          rw [hix]
          clear hix hq
          go_upto_region 12 with (fail)
          refine wp_growD 5 10 [isV (.slice a l.length c), (ownR w.heap.size 66 7 l.length (l.flatMap arL)), isV (.int .i64 (l.length : Int)), isV (.agg (arC x)), (oneA x), ownR w.heap.size 66 7 (insA l x).length ((insA l x).flatMap arL), (ownR w.heap.size 66 7 (tidyL (insA l x)).length ((tidyL (insA l x)).flatMap arL)), (doneR w.heap.size (tidyL (insA l x))), (ownR w.heap.size 66 7 (if 16 < (tidyL (insA l x)).length then [] else tidyL (insA l x)).length ((if 16 < (tidyL (insA l x)).length then [] else tidyL (insA l x)).flatMap arL)), isV (.int .i64 (doneE (tidyL (insA l x)).length))] (fun W => Below w.heap.size w W) (fun _ _ h hB => below_next hB h) (fun _ hb => below_next hbel hb) (by kernel_rfl) (by kernel_rfl) (by kernel_rfl) (by kernel_rfl) (by decide) (by decide) _ rfl (by kernel_rfl) (all_cons ?_ (all_cons ?_ (all_cons ?_ (all_cons ?_ (all_cons ?_ (all_nil)))))) (all_cons ?_ (all_cons ?_ (all_cons ?_ (all_cons ?_ (all_nil))))) ?_ ?_
          · intro ρ y W hw hn hb hd
            have E0 : ρ (.tmp 0) = .slice a l.length c := (hn (.tmp 0) rfl).trans rfl
            refine asked_val (.slice a l.length c) (want_free rfl) (run_move (.inl rfl) E0) rfl
          · intro ρ y W hw hn hb hd
            have E30 := hw 30 0 rfl
            have h0 : y 0 = .slice a l.length c := hd 0 rfl
            have EF : ∀ f, ρ (.func f) = .func (.func f) #[] #[] := fun f => hn (.func f) trivial
            refine asked_call _ _ (want_free rfl) (run_call rfl (EF _) Try.func78 (by kernel_rfl) (by kernel_rfl) (by simp only [List.map_toArray, List.map_cons, List.map_nil, E30, h0, EF]; rfl)) ?_
            refine (clone_areas l a c W h.le h.nl (h.below (below_next hbel hb)).rd (by omega)).mono ?_
            rintro e w1 ⟨u, rfl, ho, hb1⟩
            exact ⟨u, rfl, hb1, ho.mono (Nat.le_trans hbel.size hb.size)⟩
          · intro ρ y W hw hn hb hd
            have E8 : ρ (.tmp 8) = .int .i64 (l.length : Int) := (hn (.tmp 8) rfl).trans rfl
            refine asked_val (.int .i64 (l.length : Int)) (want_free rfl) (run_move (.inl rfl) E8) rfl
          · intro ρ y W hw hn hb hd
            have E3 : ρ (.tmp 3) = .pointer (some ⟨w.heap.size, 0, none⟩) := (hn (.tmp 3) rfl).trans rfl
            refine asked_val (.agg (arC x)) (want_free rfl) (run_load_blk rfl E3 (hx5.ext hb) Try.underlying66 rfl area_size) rfl
          · intro ρ y W hw hn hb hd
            have E33 := hw 33 3 rfl
            have h3 : y 3 = .agg (arC x) := hd 3 rfl
            refine asked_new (.slice (some ⟨W.heap.size, 0, none⟩) 1 1) (want_free rfl) (by simp [execOp, go_sem, E33, h3, arC]) ((Below.refl _ _).alloc (Nat.le_refl _) (.cells (arC x) 66)) ?_
            exact ⟨_, rfl, Blk.new _ _ _⟩
          · intro ρ y W hw hn hB hd
            have E35 := hw 35 5 rfl
            have h5 : (ownR w.heap.size 66 7 (insA l x).length ((insA l x).flatMap arL)).r (y 5) W := hd 5 rfl
            have EF : ∀ f, ρ (.func f) = .func (.func f) #[] #[] := fun f => hn (.func f) trivial
            obtain ⟨a5, c5, h5v, h5⟩ := AsR.of h5
            refine asked_call _ _ (want_free rfl) (run_call rfl (EF _) Try.func76 (by kernel_rfl) (by kernel_rfl) (by simp only [List.map_toArray, List.map_cons, List.map_nil, E35, EF, h5v]; rfl)) ?_
            refine (tidy_any (insA l x) a5 c5 W h5.rd (by rw [insA_len]; omega) hfew.out).mono ?_
            rintro e w1 ⟨u, rfl, ho, hb1⟩
            exact ⟨u, rfl, hb1, ho.mono hB.size⟩
          · intro ρ y W hw hn hB hd
            have E36 := hw 36 6 rfl
            have h6 : ((ownR w.heap.size 66 7 (tidyL (insA l x)).length ((tidyL (insA l x)).flatMap arL))).r (y 6) W := hd 6 rfl
            have EF : ∀ f, ρ (.func f) = .func (.func f) #[] #[] := fun f => hn (.func f) trivial
            obtain ⟨a6, c6, h6v, h6r⟩ := AsR.of h6
            refine asked_call _ _ (want_free rfl) (run_call rfl (EF _) Try.func75 (by kernel_rfl) (by kernel_rfl) (by simp only [List.map_toArray, List.map_cons, List.map_nil, E36, EF, h6v]; rfl)) ?_
            refine (done_any a6 (tidyL (insA l x)).length c6 W (Nat.le_trans (Nat.le_trans h6r.le h6r.mx) (by decide))).mono ?_
            rintro e w1 ⟨rfl, rfl⟩
            exact ⟨_, rfl, Below.refl _ _, _, rfl, by rw [← h6v]; exact h6⟩
          · intro ρ y W hw hn hB hd
            have E37 := hw 37 7 rfl
            have h7 : ((doneR w.heap.size (tidyL (insA l x)))).r (y 7) W := hd 7 rfl
            obtain ⟨v7, h7v, h7o⟩ := h7
            refine asked_val _ (want_free rfl) (by simp [execOp, go_sem, E37, h7v] <;> rfl) ?_
            exact own_done h7o
          · intro ρ y W hw hn hB hd
            have E37 := hw 37 7 rfl
            have h7 : ((doneR w.heap.size (tidyL (insA l x)))).r (y 7) W := hd 7 rfl
            obtain ⟨v7, h7v, h7o⟩ := h7
            refine asked_val _ (want_free rfl) (by simp [execOp, go_sem, E37, h7v] <;> rfl) rfl
          · intro ρ y WA o ho hw hn hbWA hRWA
            cases ho
            have hy0 : y 0 = .slice a l.length c := hRWA 0 (by decide)
            have hy1 : ((ownR w.heap.size 66 7 l.length (l.flatMap arL))).r (y 1) WA := hRWA 1 (by decide)
            have hy2 : y 2 = .int .i64 (l.length : Int) := hRWA 2 (by decide)
            have hy3 : y 3 = .agg (arC x) := hRWA 3 (by decide)
            have hy4 : ((oneA x)).r (y 4) WA := hRWA 4 (by decide)
            have E31 := hw 31 1 rfl
            have E32 := hw 32 2 rfl
            rw [hy2] at E32
            have E34 := hw 34 4 rfl
            have EC : ∀ v, ρ (.const v) = v := fun v => hn (.const v) trivial
            have EF : ∀ f, ρ (.func f) = .func (.func f) #[] #[] := fun f => hn (.func f) trivial
            refine giv_call _ _ (want_free rfl) (run_call rfl (EF _) Try.func77 (by kernel_rfl) (by kernel_rfl) (by simp only [List.map_toArray, List.map_cons, List.map_nil, E31, E32, E34, EC, EF]; rfl)) ?_
            obtain ⟨g, e4, hg⟩ := hy4
            rw [e4]
            refine (insert_any l x (l.length) hK (y 1) w.heap.size g WA hy1 (Nat.le_trans hbel.size hbWA.size) (by omega) hg (fun hkl => own_not hy1 hg hxl.out (by omega))).mono ?_
            rintro r w6 ⟨v6, rfl, hown6, hgr6⟩
            refine ⟨v6, rfl, (below_next hbel hbWA).grown hgr6 (Nat.le_trans hbel.size hbWA.size) hy1.ge, ?_⟩
            show Own w6 w.heap.size _ 7 v6 (insA l x).length ((insA l x).flatMap arL)
            rw [insA_len]; unfold insA; rw [hpos.out]; exact hown6
          intro y WA hBWA hRWA
          have hy5 : (ownR w.heap.size 66 7 (insA l x).length ((insA l x).flatMap arL)).r (y 5) WA := hRWA 5 (by decide) (by decide)
          have hy6 : ((ownR w.heap.size 66 7 (tidyL (insA l x)).length ((tidyL (insA l x)).flatMap arL))).r (y 6) WA := hRWA 6 (by decide) (by decide)
          have hy7 : ((doneR w.heap.size (tidyL (insA l x)))).r (y 7) WA := hRWA 7 (by decide) (by decide)
          have hy8 : ((ownR w.heap.size 66 7 (if 16 < (tidyL (insA l x)).length then [] else tidyL (insA l x)).length ((if 16 < (tidyL (insA l x)).length then [] else tidyL (insA l x)).flatMap arL))).r (y 8) WA := hRWA 8 (by decide) (by decide)
          have hy9 : y 9 = .int .i64 (doneE (tidyL (insA l x)).length) := hRWA 9 (by decide) (by decide)
          clear hRWA
          simp only [lay, Nat.reduceAdd, Nat.reduceLT, Nat.reduceEqDiff, reduceIte, decide_true, decide_false, if_true, Bool.false_eq_true, if_false, List.setIfInBounds_toArray, List.set_cons_zero, List.set_cons_succ, List.drop_succ_cons, List.drop_zero, List.drop_nil, hy9]
          clear hy9
          replace hBWA : Below w.heap.size w WA := hBWA
          have hml : Hid (mapL l x = if 16 < (tidyL (insA l x)).length then [] else tidyL (insA l x)) := Lib.hid (by
            unfold mapL
            rw [hfin.out]
            unfold doneE
            by_cases h16 : 16 < (tidyL (insA l x)).length
            · rw [if_pos h16, if_pos h16]; rfl
            · rw [if_neg h16, if_neg h16]; rfl)
          replace hy8 : Own WA w.heap.size 66 7 (y 8) (mapL l x).length ((mapL l x).flatMap arL) := by rw [hml.out]; exact hy8
          clear hy5 hy6 hy7 hml
          go_wp2
          go_ret2
          exact ⟨y 8, by rw [hfin.out]; rfl, hy8, hBWA⟩
        | some K =>
          have hK : K ≤ l.length := Nat.le_of_lt (List.findIdx?_eq_some_iff_getElem.1 hq).1
          have hpos : Hid (posA l x = K) := Lib.hid (by unfold posA; rw [hq])
          have hix : idx (behindA x) l = (K : Int) := by unfold idx; rw [hq]
          rw [hix]
          clear hix hq
          go_upto_region 12 with (fail)
          refine wp_growD 5 10 [isV (.slice a l.length c), (ownR w.heap.size 66 7 l.length (l.flatMap arL)), isV (.int .i64 (K : Int)), isV (.agg (arC x)), (oneA x), ownR w.heap.size 66 7 (insA l x).length ((insA l x).flatMap arL), (ownR w.heap.size 66 7 (tidyL (insA l x)).length ((tidyL (insA l x)).flatMap arL)), (doneR w.heap.size (tidyL (insA l x))), (ownR w.heap.size 66 7 (if 16 < (tidyL (insA l x)).length then [] else tidyL (insA l x)).length ((if 16 < (tidyL (insA l x)).length then [] else tidyL (insA l x)).flatMap arL)), isV (.int .i64 (doneE (tidyL (insA l x)).length))] (fun W => Below w.heap.size w W) (fun _ _ h hB => below_next hB h) (fun _ hb => below_next hbel hb) (by kernel_rfl) (by kernel_rfl) (by kernel_rfl) (by kernel_rfl) (by decide) (by decide) _ rfl (by kernel_rfl) (all_cons ?_ (all_cons ?_ (all_cons ?_ (all_cons ?_ (all_cons ?_ (all_nil)))))) (all_cons ?_ (all_cons ?_ (all_cons ?_ (all_cons ?_ (all_nil))))) ?_ ?_
          · intro ρ y W hw hn hb hd
            have E0 : ρ (.tmp 0) = .slice a l.length c := (hn (.tmp 0) rfl).trans rfl
            refine asked_val (.slice a l.length c) (want_free rfl) (run_move (.inl rfl) E0) rfl
          · intro ρ y W hw hn hb hd
            have E30 := hw 30 0 rfl
            have h0 : y 0 = .slice a l.length c := hd 0 rfl
            have EF : ∀ f, ρ (.func f) = .func (.func f) #[] #[] := fun f => hn (.func f) trivial
            refine asked_call _ _ (want_free rfl) (run_call rfl (EF _) Try.func78 (by kernel_rfl) (by kernel_rfl) (by simp only [List.map_toArray, List.map_cons, List.map_nil, E30, h0, EF]; rfl)) ?_
            refine (clone_areas l a c W h.le h.nl (h.below (below_next hbel hb)).rd (by omega)).mono ?_
            rintro e w1 ⟨u, rfl, ho, hb1⟩
            exact ⟨u, rfl, hb1, ho.mono (Nat.le_trans hbel.size hb.size)⟩
          · intro ρ y W hw hn hb hd
            have E8 : ρ (.tmp 8) = .int .i64 (K : Int) := (hn (.tmp 8) rfl).trans rfl
            refine asked_val (.int .i64 (K : Int)) (want_free rfl) (run_move (.inl rfl) E8) rfl
          · intro ρ y W hw hn hb hd
            have E3 : ρ (.tmp 3) = .pointer (some ⟨w.heap.size, 0, none⟩) := (hn (.tmp 3) rfl).trans rfl
            refine asked_val (.agg (arC x)) (want_free rfl) (run_load_blk rfl E3 (hx5.ext hb) Try.underlying66 rfl area_size) rfl
          · intro ρ y W hw hn hb hd
            have E33 := hw 33 3 rfl
            have h3 : y 3 = .agg (arC x) := hd 3 rfl
            refine asked_new (.slice (some ⟨W.heap.size, 0, none⟩) 1 1) (want_free rfl) (by simp [execOp, go_sem, E33, h3, arC]) ((Below.refl _ _).alloc (Nat.le_refl _) (.cells (arC x) 66)) ?_
            exact ⟨_, rfl, Blk.new _ _ _⟩
          · intro ρ y W hw hn hB hd
            have E35 := hw 35 5 rfl
            have h5 : (ownR w.heap.size 66 7 (insA l x).length ((insA l x).flatMap arL)).r (y 5) W := hd 5 rfl
            have EF : ∀ f, ρ (.func f) = .func (.func f) #[] #[] := fun f => hn (.func f) trivial
            obtain ⟨a5, c5, h5v, h5⟩ := AsR.of h5
            refine asked_call _ _ (want_free rfl) (run_call rfl (EF _) Try.func76 (by kernel_rfl) (by kernel_rfl) (by simp only [List.map_toArray, List.map_cons, List.map_nil, E35, EF, h5v]; rfl)) ?_
            refine (tidy_any (insA l x) a5 c5 W h5.rd (by rw [insA_len]; omega) hfew.out).mono ?_
            rintro e w1 ⟨u, rfl, ho, hb1⟩
            exact ⟨u, rfl, hb1, ho.mono hB.size⟩
          · intro ρ y W hw hn hB hd
            have E36 := hw 36 6 rfl
            have h6 : ((ownR w.heap.size 66 7 (tidyL (insA l x)).length ((tidyL (insA l x)).flatMap arL))).r (y 6) W := hd 6 rfl
            have EF : ∀ f, ρ (.func f) = .func (.func f) #[] #[] := fun f => hn (.func f) trivial
            obtain ⟨a6, c6, h6v, h6r⟩ := AsR.of h6
            refine asked_call _ _ (want_free rfl) (run_call rfl (EF _) Try.func75 (by kernel_rfl) (by kernel_rfl) (by simp only [List.map_toArray, List.map_cons, List.map_nil, E36, EF, h6v]; rfl)) ?_
            refine (done_any a6 (tidyL (insA l x)).length c6 W (Nat.le_trans (Nat.le_trans h6r.le h6r.mx) (by decide))).mono ?_
            rintro e w1 ⟨rfl, rfl⟩
            exact ⟨_, rfl, Below.refl _ _, _, rfl, by rw [← h6v]; exact h6⟩
          · intro ρ y W hw hn hB hd
            have E37 := hw 37 7 rfl
            have h7 : ((doneR w.heap.size (tidyL (insA l x)))).r (y 7) W := hd 7 rfl
            obtain ⟨v7, h7v, h7o⟩ := h7
            refine asked_val _ (want_free rfl) (by simp [execOp, go_sem, E37, h7v] <;> rfl) ?_
            exact own_done h7o
          · intro ρ y W hw hn hB hd
            have E37 := hw 37 7 rfl
            have h7 : ((doneR w.heap.size (tidyL (insA l x)))).r (y 7) W := hd 7 rfl
            obtain ⟨v7, h7v, h7o⟩ := h7
            refine asked_val _ (want_free rfl) (by simp [execOp, go_sem, E37, h7v] <;> rfl) rfl
          · intro ρ y WA o ho hw hn hbWA hRWA
            cases ho
            have hy0 : y 0 = .slice a l.length c := hRWA 0 (by decide)
            have hy1 : ((ownR w.heap.size 66 7 l.length (l.flatMap arL))).r (y 1) WA := hRWA 1 (by decide)
            have hy2 : y 2 = .int .i64 (K : Int) := hRWA 2 (by decide)
            have hy3 : y 3 = .agg (arC x) := hRWA 3 (by decide)
            have hy4 : ((oneA x)).r (y 4) WA := hRWA 4 (by decide)
            have E31 := hw 31 1 rfl
            have E32 := hw 32 2 rfl
            rw [hy2] at E32
            have E34 := hw 34 4 rfl
            have EC : ∀ v, ρ (.const v) = v := fun v => hn (.const v) trivial
            have EF : ∀ f, ρ (.func f) = .func (.func f) #[] #[] := fun f => hn (.func f) trivial
            refine giv_call _ _ (want_free rfl) (run_call rfl (EF _) Try.func77 (by kernel_rfl) (by kernel_rfl) (by simp only [List.map_toArray, List.map_cons, List.map_nil, E31, E32, E34, EC, EF]; rfl)) ?_
            obtain ⟨g, e4, hg⟩ := hy4
            rw [e4]
            refine (insert_any l x (K) hK (y 1) w.heap.size g WA hy1 (Nat.le_trans hbel.size hbWA.size) (by omega) hg (fun hkl => own_not hy1 hg hxl.out (by omega))).mono ?_
            rintro r w6 ⟨v6, rfl, hown6, hgr6⟩
            refine ⟨v6, rfl, (below_next hbel hbWA).grown hgr6 (Nat.le_trans hbel.size hbWA.size) hy1.ge, ?_⟩
            show Own w6 w.heap.size _ 7 v6 (insA l x).length ((insA l x).flatMap arL)
            rw [insA_len]; unfold insA; rw [hpos.out]; exact hown6
          intro y WA hBWA hRWA
          have hy5 : (ownR w.heap.size 66 7 (insA l x).length ((insA l x).flatMap arL)).r (y 5) WA := hRWA 5 (by decide) (by decide)
          have hy6 : ((ownR w.heap.size 66 7 (tidyL (insA l x)).length ((tidyL (insA l x)).flatMap arL))).r (y 6) WA := hRWA 6 (by decide) (by decide)
          have hy7 : ((doneR w.heap.size (tidyL (insA l x)))).r (y 7) WA := hRWA 7 (by decide) (by decide)
          have hy8 : ((ownR w.heap.size 66 7 (if 16 < (tidyL (insA l x)).length then [] else tidyL (insA l x)).length ((if 16 < (tidyL (insA l x)).length then [] else tidyL (insA l x)).flatMap arL))).r (y 8) WA := hRWA 8 (by decide) (by decide)
          have hy9 : y 9 = .int .i64 (doneE (tidyL (insA l x)).length) := hRWA 9 (by decide) (by decide)
          clear hRWA
          simp only [lay, Nat.reduceAdd, Nat.reduceLT, Nat.reduceEqDiff, reduceIte, decide_true, decide_false, if_true, Bool.false_eq_true, if_false, List.setIfInBounds_toArray, List.set_cons_zero, List.set_cons_succ, List.drop_succ_cons, List.drop_zero, List.drop_nil, hy9]
          clear hy9
          replace hBWA : Below w.heap.size w WA := hBWA
          have hml : Hid (mapL l x = if 16 < (tidyL (insA l x)).length then [] else tidyL (insA l x)) := Lib.hid (by
            unfold mapL
            rw [hfin.out]
            unfold doneE
            by_cases h16 : 16 < (tidyL (insA l x)).length
            · rw [if_pos h16, if_pos h16]; rfl
            · rw [if_neg h16, if_neg h16]; rfl)
          replace hy8 : Own WA w.heap.size 66 7 (y 8) (mapL l x).length ((mapL l x).flatMap arL) := by rw [hml.out]; exact hy8
          clear hy5 hy6 hy7 hml
          go_wp2
          go_ret2
          exact ⟨y 8, by rw [hfin.out]; rfl, hy8, hBWA⟩
      · have q0 : Hid _ := Lib.hid (map_err (l := l) (x := x) (e := 6) (by unfold mapE; rw [if_neg (by rw [hw0.out]; simp), if_neg (by rw [he0.out]; simp), if_pos hm]) (by decide))
        clear hm hall
        go_wp2
        go_ret2
        have q := q0.out
        exact ⟨.slice none 0 0, by first | (rw [q.1]; done) | (rw [q.1]; rfl), by rw [q.2]; exact Own.nil _ _ _ _, hbel⟩
    · have q0 : Hid _ := Lib.hid (map_err (l := l) (x := x) (e := areaE x) (by unfold mapE; rw [if_neg (by rw [hw0.out]; simp), if_pos he]) he)
      have he' : (areaE x != 0) = true := by simpa using he
      clear he hall
      go_wp2
      go_ret2
      have q := q0.out
      exact ⟨.slice none 0 0, by first | (rw [q.1]; done) | (rw [q.1]; rfl), by rw [q.2]; exact Own.nil _ _ _ _, hbel⟩
  · have q0 : Hid _ := Lib.hid (map_err (l := l) (x := x) (e := (wrongA l).1) (by unfold mapE; rw [if_pos hw]) hw)
    have hw' : ((wrongA l).1 != 0) = true := by simpa using hw
    have hcf := hf2.cell
    clear hw
    go_upto_region 3 with (fail)
    go_quiet (fail)
    rename_i nq
    have hbel := below_drewN hbel nq
    go_wp2
    go_ret2
    have q := q0.out
    exact ⟨.slice none 0 0, by first | (rw [q.1]; done) | (rw [q.1]; rfl), by rw [q.2]; exact Own.nil _ _ _ _, hbel⟩
end Go.Proofs.Ytmdnmknmniabeaa
