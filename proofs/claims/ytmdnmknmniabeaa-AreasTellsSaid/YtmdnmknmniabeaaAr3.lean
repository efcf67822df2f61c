/- Package areas: done, part, tidy, Room; slices.Clone of areas. -/
import Derived.Test.YtmdnmknmniabeaaAr2
namespace Go.Proofs.Ytmdnmknmniabeaa
open Go.RowKit Pw
set_option linter.unusedSimpArgs false
set_option linter.unusedVariables false

/-- Areas, if they are not too many. -/
theorem done_any (a : Option Addr) (n c : Nat) (w : World) (hn : n ≤ 9223372036854775807) :
    Calls Try.prog 75 #[.slice a n c] w fun r w' => r = .returned (.tuple #[if 16 < n then .slice none 0 0 else .slice a n c, .int .i64 (if 16 < n then 4 else 0)]) ∧ w = w' := by
  go_enter Try.func75, Try.ntmps75
  by_cases h : 16 < n
  · have hi : (16 : Int) < (n : Int) := by omega
    go_wp2
    go_ret2
    exact ⟨rfl, rfl⟩
  · have hi : ¬ (16 : Int) < (n : Int) := by omega
    go_wp2
    go_ret2
    exact ⟨rfl, rfl⟩
/-- What of an area lies from one page on, below another one. -/
def loA (a : Ar) (f : Int) : Int := if a.fr < f then f else a.fr
def hiA (a : Ar) (t : Int) : Int := if t < a.en then t else a.en
def partA (a : Ar) (f t : Int) : Option Ar := if hiA a t ≤ loA a f then none else some { a with fr := loA a f, en := hiA a t, ba := if 0 ≤ a.fi then a.ba + (loA a f - a.fr) else a.ba }
def zAr : Ar := ⟨0, 0, false, false, false, 0, 0⟩
set_option maxHeartbeats 2000000 in
set_option maxRecDepth 100000 in
theorem part_any (a : Ar) (f t : Int) (w : World) (hs : arFew a) (hf : -1000 ≤ f ∧ f ≤ 1000) :
    Calls Try.prog 81 #[.agg (arC a), .int .i64 f, .int .i64 t] w fun r w' => r = .returned (.tuple #[.agg (arC ((partA a f t).getD zAr)), .bool (partA a f t).isSome]) ∧ Below w.heap.size w w' := by
  obtain ⟨s1, s2, s3⟩ := hs
  unfold arC
  go_enter Try.func81, Try.ntmps81
  go_upto_region 1 with (fail)
  refine abs2 (fun W => Code.wp _ _ _ _ W) fun W0 hb0 hx0 hr0 hs0 => ?_
  clear hs0
  have hcx := hx0.cell
  go_region
  have hx1 := hx0.drew
  have hr1 := hr0.drew
  have hb1 : Below w.heap.size w W0.drew := below_drewN hb0 1
  have hzz : ∀ L H : Int, loA a f = L → hiA a t = H → partA a f t = if H ≤ L then none else some { a with fr := L, en := H, ba := if 0 ≤ a.fi then a.ba + (L - a.fr) else a.ba } := fun L H e1 e2 => by subst e1; subst e2; rfl
  have hlo : -1000 ≤ loA a f ∧ loA a f ≤ 1000 := by unfold loA; split <;> omega
  have hzz' := Lib.hid hzz
  clear hzz
  generalize hL : (if a.fr < f then f else a.fr) = L
  generalize hH : (if t < a.en then t else a.en) = H
  have hL' := Lib.hid (show loA a f = L from hL)
  have hH' := Lib.hid (show hiA a t = H from hH)
  rw [hL'.out] at hlo
  clear hL hH hb0 hx0 hr0
  have hwA : IntKind.i64.wrap (L - a.fr) = L - a.fr := IntWalk.i64_in _ (by omega)
  have hwB : IntKind.i64.wrap (a.ba + (L - a.fr)) = a.ba + (L - a.fr) := IntWalk.i64_in _ (by omega)
  generalize W0.drew = W1 at *
  clear hcx
  have hcx := hx1.cell
  by_cases h1 : H ≤ L
  · have hz : Hid (partA a f t = none) := Lib.hid (by rw [hzz'.out L H hL'.out hH'.out, if_pos h1])
    clear hcx
    go_wp2_with (refine wpList_stw rfl _ _ _ rfl (w.heap.size + 1) (arC zAr) rfl rfl _ _ hr1 rfl area_size (arC_one _) ?_)
    intro W2 hr2 hgr2
    have hb2 : Below w.heap.size w W2 := hb1.grown hgr2 hb1.size (fun k hk => by cases hk; omega)
    go_wp2
    refine bodyPost_ret (v := .tuple #[.agg (arC zAr), .bool false]) (results_ct Try.results81 _ _ (w.heap.size + 1) _ _ _ _ rfl rfl hr2 Try.underlying66 rfl area_size) rfl ?_
    exact ⟨by rw [hz.out]; rfl, hb2⟩
  · by_cases h2 : 0 ≤ a.fi
    · have hz : Hid (partA a f t = some ⟨L, H, a.rd, a.wr, a.sh, a.fi, a.ba + (L - a.fr)⟩) := Lib.hid (by rw [hzz'.out L H hL'.out hH'.out, if_neg h1, if_pos h2])
      go_upto_region 6 with (refine wpList_stv rfl _ _ _ rfl w.heap.size 6 (.int .i64 (a.ba + (L - a.fr))) [.int .i64 (a.ba + (L - a.fr))] rfl rfl rfl _ _ hx1 (by simp) int_size (by simp [Value.oneCell']) ?_)
      intro W2 hx2 hgr2
      have hb2 : Below w.heap.size w W2 := hb1.grown hgr2 hb1.size (fun k hk => by cases hk; omega)
      have hr2 := hr1.grown hgr2 (fun he => by have := Option.some.inj he; omega)
      have hx3 : Blk W2 w.heap.size (arC ⟨a.fr, a.en, a.rd, a.wr, a.sh, a.fi, (a.ba + (L - a.fr))⟩) 66 := hx2
      clear hx2 hcx
      go_upto_region 7 with (refine wpList_stv rfl _ _ _ rfl w.heap.size 0 (.int .i64 L) [.int .i64 L] rfl rfl rfl _ _ hx3 (by simp [arC]) int_size (by simp [Value.oneCell']) ?_)
      intro W3 hx4 hgr3
      have hb3 : Below w.heap.size w W3 := hb2.grown hgr3 hb2.size (fun k hk => by cases hk; omega)
      have hr3 := hr2.grown hgr3 (fun he => by have := Option.some.inj he; omega)
      have hx5 : Blk W3 w.heap.size (arC ⟨L, a.en, a.rd, a.wr, a.sh, a.fi, (a.ba + (L - a.fr))⟩) 66 := hx4
      clear hx4 hb2 hr2 hx3
      go_upto_region 7 with (refine wpList_stv rfl _ _ _ rfl w.heap.size 1 (.int .i64 H) [.int .i64 H] rfl rfl rfl _ _ hx5 (by simp [arC]) int_size (by simp [Value.oneCell']) ?_)
      intro W4 hx6 hgr4
      have hb4 : Below w.heap.size w W4 := hb3.grown hgr4 hb3.size (fun k hk => by cases hk; omega)
      have hr4 := hr3.grown hgr4 (fun he => by have := Option.some.inj he; omega)
      have hx7 : Blk W4 w.heap.size (arC ⟨L, H, a.rd, a.wr, a.sh, a.fi, (a.ba + (L - a.fr))⟩) 66 := hx6
      clear hx6 hb3 hr3 hx5
      go_wp2_with (first | (refine wpList_ldg _ _ rfl _ 0 rfl rfl _ hx7.rd _ Try.underlying66 rfl area_size ?_) | (refine wpList_stw rfl _ _ _ rfl (w.heap.size + 1) (arC ⟨L, H, a.rd, a.wr, a.sh, a.fi, (a.ba + (L - a.fr))⟩) rfl rfl _ _ hr4 rfl area_size (arC_one _) ?_))
      intro W5 hr5 hgr5
      have hb5 : Below w.heap.size w W5 := hb4.grown hgr5 hb4.size (fun k hk => by cases hk; omega)
      go_wp2
      refine bodyPost_ret (v := .tuple #[.agg (arC ⟨L, H, a.rd, a.wr, a.sh, a.fi, (a.ba + (L - a.fr))⟩), .bool true]) (results_ct Try.results81 _ _ (w.heap.size + 1) _ _ _ _ rfl rfl hr5 Try.underlying66 rfl area_size) rfl ?_
      exact ⟨by rw [hz.out]; rfl, hb5⟩
    · have hz : Hid (partA a f t = some ⟨L, H, a.rd, a.wr, a.sh, a.fi, a.ba⟩) := Lib.hid (by rw [hzz'.out L H hL'.out hH'.out, if_neg h1, if_neg h2])
      go_upto_region 6 with (fail)
      obtain ⟨W2, hW2⟩ : ∃ W2, W2 = W1 := ⟨_, rfl⟩
      have hx2 := hx1
      have hb2 := hb1
      have hr2 := hr1
      rw [← hW2] at hx2 hb2 hr2
      subst hW2
      have hx3 : Blk W2 w.heap.size (arC ⟨a.fr, a.en, a.rd, a.wr, a.sh, a.fi, a.ba⟩) 66 := hx2
      clear hx2 hcx
      go_upto_region 7 with (refine wpList_stv rfl _ _ _ rfl w.heap.size 0 (.int .i64 L) [.int .i64 L] rfl rfl rfl _ _ hx3 (by simp [arC]) int_size (by simp [Value.oneCell']) ?_)
      intro W3 hx4 hgr3
      have hb3 : Below w.heap.size w W3 := hb2.grown hgr3 hb2.size (fun k hk => by cases hk; omega)
      have hr3 := hr2.grown hgr3 (fun he => by have := Option.some.inj he; omega)
      have hx5 : Blk W3 w.heap.size (arC ⟨L, a.en, a.rd, a.wr, a.sh, a.fi, a.ba⟩) 66 := hx4
      clear hx4 hb2 hr2 hx3
      go_upto_region 7 with (refine wpList_stv rfl _ _ _ rfl w.heap.size 1 (.int .i64 H) [.int .i64 H] rfl rfl rfl _ _ hx5 (by simp [arC]) int_size (by simp [Value.oneCell']) ?_)
      intro W4 hx6 hgr4
      have hb4 : Below w.heap.size w W4 := hb3.grown hgr4 hb3.size (fun k hk => by cases hk; omega)
      have hr4 := hr3.grown hgr4 (fun he => by have := Option.some.inj he; omega)
      have hx7 : Blk W4 w.heap.size (arC ⟨L, H, a.rd, a.wr, a.sh, a.fi, a.ba⟩) 66 := hx6
      clear hx6 hb3 hr3 hx5
      go_wp2_with (first | (refine wpList_ldg _ _ rfl _ 0 rfl rfl _ hx7.rd _ Try.underlying66 rfl area_size ?_) | (refine wpList_stw rfl _ _ _ rfl (w.heap.size + 1) (arC ⟨L, H, a.rd, a.wr, a.sh, a.fi, a.ba⟩) rfl rfl _ _ hr4 rfl area_size (arC_one _) ?_))
      intro W5 hr5 hgr5
      have hb5 : Below w.heap.size w W5 := hb4.grown hgr5 hb4.size (fun k hk => by cases hk; omega)
      go_wp2
      refine bodyPost_ret (v := .tuple #[.agg (arC ⟨L, H, a.rd, a.wr, a.sh, a.fi, a.ba⟩), .bool true]) (results_ct Try.results81 _ _ (w.heap.size + 1) _ _ _ _ rfl rfl hr5 Try.underlying66 rfl area_size) rfl ?_
      exact ⟨by rw [hz.out]; rfl, hb5⟩
theorem areas_len (l : List Ar) : (l.flatMap arL).length = l.length * 7 := flat_len arL 7 arL_len l
theorem arL_one (a : Ar) : ∀ u ∈ arL a, u.oneCell' = true := by
  intro u hu
  simp only [arL, arC, List.mem_cons, List.not_mem_nil, or_false] at hu
  rcases hu with rfl | rfl | rfl | rfl | rfl | rfl | rfl <;> rfl
theorem areas_one (l : List Ar) : ∀ u ∈ l.flatMap arL, u.oneCell' = true := by
  intro u hu
  obtain ⟨a, _, h⟩ := List.mem_flatMap.1 hu
  exact arL_one a u h
set_option maxHeartbeats 400000 in
set_option maxRecDepth 100000 in
theorem clone_areas (l : List Ar) (a : Option Addr) (c : Nat) (w : World) (hle : l.length ≤ c) (hnil : a = none → c = 0) (hrd : RdV w a (l.flatMap arL)) (hb : l.length * 40 ≤ 140737488355328) :
    Calls Try.prog 78 #[.slice a l.length c] w fun e w' => ∃ v, e = .returned v ∧ Own w' w.heap.size 66 7 v l.length (l.flatMap arL) ∧ Below w.heap.size w w' := by
  cases a with
  | none =>
    have h0 := hnil rfl
    have hl : l = [] := List.eq_nil_of_length_eq_zero (by omega)
    subst hl
    subst h0
    have hq := fun W => Lib.run_eql_slice_nil (P := Try.prog) W 64 _ none 0 0 0 0 Try.underlying64
    go_enter Try.func78, Try.ntmps78
    go_wp2
    go_ret
    exact ⟨_, rfl, by simpa using Own.nil _ _ _ _, Below.refl _ _⟩
  | some ad =>
    have hq := fun W => Lib.run_eql_slice_nil (P := Try.prog) W 64 _ (some ad) l.length c 0 0 Try.underlying64
    go_enter Try.func78, Try.ntmps78
    go_wp2_with (at_builtin; go_must (refine wpList_app rfl _ _ 64 rfl w.heap.size 66 (.agg #[.int .i64 0, .int .i64 0, .bool false, .bool false, .bool false, .int .i64 0, .int .i64 0]) 7 40 Try.underlying64 area_info rfl (by decide) _ 0 [] rfl ?own (some ad) l.length c (l.flatMap arL) rfl (fun h => (by cases h)) hle (areas_len l) ?rd (areas_one l) (by unfold maxLen; omega) (by simpa using hb) ?bb ?k))
    case own => exact ⟨rfl, .inr ⟨w.heap.size, 0, 0, #[], rfl, Nat.le_refl _, Blk.new _ _ _, Nat.le_refl _, Nat.zero_le _, by simp, fun j u h => by simp at h⟩⟩
    case rd => exact hrd.below ((Below.refl _ _).alloc (Nat.le_refl _) _)
    case bb => exact le_alloc _ _
    intro v w1 hown hgr
    go_wp2
    go_ret
    exact ⟨v, rfl, by simpa using hown, ((Below.refl _ _).alloc (Nat.le_refl _) _).grown hgr (le_alloc _ _) (fun k hk => by cases hk; exact Nat.le_refl _)⟩
/-- Areas that only go on with each other are one. -/
def tidyStep (acc : List Ar) (a : Ar) : List Ar := match acc.getLast? with
  | some q => if joinsB q a then acc.set (acc.length - 1) { q with en := a.en } else acc ++ [a]
  | none => acc ++ [a]
def tidyL (l : List Ar) : List Ar := l.foldl tidyStep []
theorem tidy_next {l : List Ar} {k : Nat} (hk : k < l.length) : tidyL (l.take (k + 1)) = tidyStep (tidyL (l.take k)) l[k] := by
  have : l.take (k + 1) = l.take k ++ [l[k]] := by rw [List.take_add_one, List.getElem?_eq_getElem hk]; rfl
  unfold tidyL
  rw [this, List.foldl_append]
  rfl
theorem tidy_len (l : List Ar) : ∀ k, k ≤ l.length → (tidyL (l.take k)).length ≤ k
  | 0, _ => by simp [tidyL]
  | k + 1, hk => by
    rw [tidy_next (show k < l.length by omega)]
    have := tidy_len l k (by omega)
    unfold tidyStep
    split
    · split <;> simp <;> omega
    · simp; omega
theorem tidy_few {l : List Ar} (h : ∀ a ∈ l, arFew a) : ∀ k, k ≤ l.length → ∀ a ∈ tidyL (l.take k), arFew a
  | 0, _, a, ha => by simp [tidyL] at ha
  | k + 1, hk, a, ha => by
    have ih := tidy_few h k (by omega)
    have hl := h l[k] (List.getElem_mem _)
    rw [tidy_next (show k < l.length by omega)] at ha
    unfold tidyStep at ha
    split at ha
    · rename_i q hq
      have hfq := ih q (List.mem_of_getLast? hq)
      split at ha
      · rcases List.mem_or_eq_of_mem_set ha with ha | rfl
        · exact ih a ha
        · exact ⟨hfq.1, hfq.2.1, hl.2.2⟩
      · rcases List.mem_append.1 ha with ha | ha
        · exact ih a ha
        · rw [List.mem_singleton.1 ha]; exact hl
    · rcases List.mem_append.1 ha with ha | ha
      · exact ih a ha
      · rw [List.mem_singleton.1 ha]; exact hl
theorem ArAt.blk {w : World} {b : Nat} {a : Ar} {T : TypeId} (h : Blk w b (arC a) T) : ArAt w b 0 a := fun j u hj => by rw [h.cell, Nat.zero_add]; simpa [arL] using hj
set_option maxHeartbeats 4000000 in
set_option maxRecDepth 100000 in
theorem tidy_any (l : List Ar) (a : Option Addr) (c : Nat) (w : World) (hrd : RdV w a (l.flatMap arL)) (hl : l.length ≤ 1000) (hf : ∀ x ∈ l, arFew x) :
    Calls Try.prog 76 #[.slice a l.length c] w fun r w' => ∃ v, r = .returned v ∧ Own w' w.heap.size 66 7 v (tidyL l).length ((tidyL l).flatMap arL) ∧ Below w.heap.size w w' := by
  go_enter Try.func76, Try.ntmps76
  go_upto_region 3 with (fail)
  go_loopw [9, 3] (fun i s wr => ∃ k : Nat, k ≤ l.length ∧ i = .int .i64 k ∧ Below w.heap.size w wr ∧ Own wr w.heap.size 66 7 s (tidyL (l.take k)).length ((tidyL (l.take k)).flatMap arL)) (fun i _ _ => l.length - (intOf i).toNat)
  case atStart => exact ⟨0, Nat.zero_le _, rfl, Below.refl _ _, by simpa [tidyL] using Own.nil _ _ _ _⟩
  case round =>
    obtain ⟨k, hk, rfl, hbr, hown⟩ := hrel
    by_cases hlt : k < l.length
    · have hnx := Lib.hid (tidy_next hlt)
      have hfk := hf l[k] (List.getElem_mem _)
      have hfa := tidy_few hf k hk
      have htl := tidy_len l k hk
      generalize hacc : tidyL (l.take k) = acc at *
      obtain ⟨b, off, rfl, c0, c1, c2, c3, c4, c5, c6⟩ := ar_at7 (hrd.below hbr) k hlt
      generalize l[k] = A at *
      go_upto_region 5 with (fail)
      refine abs1 (fun W => Code.wp _ _ _ _ W) fun W0 hb0 hx0 hs0 => ?_
      clear hs0 c0 c1 c2 c3 c4 c5 c6
      have hbel0 := below_next hbr hb0
      have hown0 := hown.below hb0
      clear hbr hown hb0
      obtain ⟨a1, c1, hu3, _⟩ := hown0.rd
      by_cases h0 : acc.length = 0
      · have hst : Hid (tidyL (l.take (k + 1)) = acc ++ [A]) := Lib.hid (by rw [hnx.out, List.eq_nil_of_length_eq_zero h0]; rfl)
        subst hu3
        have hcx := hx0.cell
        have hm1 : IntKind.i64.wrap ((acc.length : Int) - 1) = -1 := by rw [h0]; rfl
        clear hnx hfa hfk h0
        go_wp2_with (first | (refine wpList_ldg _ _ rfl _ 0 rfl rfl _ hx0.rd _ Try.underlying66 rfl area_size ?_) | (at_builtin; refine wpList_app rfl _ _ 64 rfl w.heap.size 66 _ 7 40 Try.underlying64 area_info rfl (by decide) _ acc.length (acc.flatMap arL) rfl (hown0.alloc _) (some ⟨W0.heap.size, 0, none⟩) 1 1 (arL A) rfl (fun h => (by cases h)) (Nat.le_refl _) rfl (RdV.new _ (arC A) _) (fun u hu => areas_one [A] u (by simpa using hu)) (by unfold maxLen; omega) (by omega) (le_alloc' hbel0.size _) ?_))
        intro v W6 hown6 hgr6
        have hbel6 : Below w.heap.size w W6 := (hbel0.alloc hbel0.size _).grown hgr6 (le_alloc' hbel0.size _) (hown0.alloc (.cells (arC A) 66)).ge
        have hown7 : Own W6 w.heap.size 66 7 v (tidyL (l.take (k + 1))).length ((tidyL (l.take (k + 1))).flatMap arL) := by
          rw [hst.out, List.flatMap_append, List.length_append]; simpa using hown6
        clear hown6 hgr6
        go_wp2
        go_roundw
        case rel => exact ⟨k + 1, by omega, by go_num, hbel6, hown7⟩
        case measure => simp [intOf]; omega
      · obtain ⟨n, hn0⟩ : ∃ n, acc.length = n + 1 := ⟨acc.length - 1, by omega⟩
        have hn := Lib.hid hn0
        have hna : n < acc.length := by omega
        have hni : (n : Int) < (acc.length : Int) := by omega
        have hm1 : IntKind.i64.wrap ((acc.length : Int) - 1) = (n : Int) := by rw [IntWalk.i64_in _ (by omega)]; omega
        have hlast : acc.getLast? = some acc[n] := by rw [List.getLast?_eq_getElem?, List.getElem?_eq_getElem (by omega)]; simp [hn0]
        have hstep : tidyStep acc A = if joinsB acc[n] A then acc.set n { acc[n] with en := A.en } else acc ++ [A] := by unfold tidyStep; rw [hlast]; simp [hn0]
        have hfq := hfa acc[n] (List.getElem_mem _)
        rw [hstep] at hnx
        obtain ⟨g, off1, cap1, hv1, hBg, hgl, ⟨csg, hgb⟩, hcc, hfz, hset⟩ := own_cell arL_len (by decide) rfl hown0 n hna 1 (by decide) (.int .i64 A.en) { acc[n] with en := A.en } rfl
        rw [hu3] at hv1
        simp only [Value.slice.injEq, true_and] at hv1
        obtain ⟨e1, e2⟩ := hv1
        subst e1 e2
        subst hu3
        have hQ : ArAt W0 g (off1 + n * 7) acc[n] := hcc
        have hAA := ArAt.blk hx0
        clear hn0 hlast hstep hcc hset hfz hgb
        generalize hQQ : acc[n] = Q at *
        have hcx := hx0.cell
        go_wp2_with fail
        refine (joins_any g (off1 + n * 7) wr.heap.size 0 Q A _ hQ hAA hfq).mono ?_
        rintro r W2 ⟨rfl, hb2⟩
        have hbel2 := below_next hbel0 hb2
        have hx2 := hx0.ext hb2
        have hown2 := hown0.below hb2
        clear hcx hbel0 hown0 hAA hQ
        have hcx := hx2.cell
        cases hj : joinsB Q A
        · have hst : Hid (tidyL (l.take (k + 1)) = acc ++ [A]) := Lib.hid (by rw [hnx.out, hj]; rfl)
          clear hnx hfa hfk hfq
          go_wp2_with (first | (refine wpList_ldg _ _ rfl _ 0 rfl rfl _ hx2.rd _ Try.underlying66 rfl area_size ?_) | (at_builtin; refine wpList_app rfl _ _ 64 rfl w.heap.size 66 _ 7 40 Try.underlying64 area_info rfl (by decide) _ acc.length (acc.flatMap arL) rfl (hown2.alloc _) (some ⟨W2.heap.size, 0, none⟩) 1 1 (arL A) rfl (fun h => (by cases h)) (Nat.le_refl _) rfl (RdV.new _ (arC A) _) (fun u hu => areas_one [A] u (by simpa using hu)) (by unfold maxLen; omega) (by omega) (le_alloc' hbel2.size _) ?_))
          intro v W6 hown6 hgr6
          have hbel6 : Below w.heap.size w W6 := (hbel2.alloc hbel2.size _).grown hgr6 (le_alloc' hbel2.size _) (hown2.alloc (.cells (arC A) 66)).ge
          have hown7 : Own W6 w.heap.size 66 7 v (tidyL (l.take (k + 1))).length ((tidyL (l.take (k + 1))).flatMap arL) := by
            rw [hst.out, List.flatMap_append, List.length_append]; simpa using hown6
          clear hown6 hgr6
          go_wp2
          go_roundw
          case rel => exact ⟨k + 1, by omega, by go_num, hbel6, hown7⟩
          case measure => simp [intOf]; omega
        · have hst : Hid (tidyL (l.take (k + 1)) = acc.set n { acc[n] with en := A.en }) := Lib.hid (by rw [hnx.out, hj, hQQ]; rfl)
          clear hnx hfa hfk hfq
          obtain ⟨g', off1', cap1', hv1, hBg, hgl, ⟨csg, hgb⟩, hcc, hfz, hset⟩ := own_cell arL_len (by decide) rfl hown2 n hna 1 (by decide) (.int .i64 A.en) { acc[n] with en := A.en } rfl
          cases hv1
          have hc1 := hcc 1 _ rfl
          clear hcc hQQ
          go_upto_region 9 with (fail)
          have hbel6 : Below w.heap.size w (W2.setCell ⟨g, off1 + n * 7 + 1, none⟩ (.int .i64 A.en)) := hbel2.setCell hBg _
          have hown7 : Own (W2.setCell ⟨g, off1 + n * 7 + 1, none⟩ (.int .i64 A.en)) w.heap.size 66 7 (.slice (some ⟨g, off1, none⟩) acc.length c1) (tidyL (l.take (k + 1))).length ((tidyL (l.take (k + 1))).flatMap arL) := by
            rw [hst.out, List.length_set]; exact hset
          clear hset hown2 hx2 hbel2 hcx hfz hc1 hgb
          go_wp2
          go_roundw
          case rel => exact ⟨k + 1, by omega, by go_num, hbel6, hown7⟩
          case measure => simp [intOf]; omega
    · have hkl : k = l.length := by omega
      subst hkl
      rw [List.take_length] at hown
      go_wp2
      go_ret
      exact ⟨_, rfl, hown, hbr⟩
end Go.Proofs.Ytmdnmknmniabeaa
