/- Files of the call's own, written in place. -/
import Derived.Test.YtmdnmknmniabeaaSt7
namespace Go.Proofs.Ytmdnmknmniabeaa
open Go.RowKit Go.Maps Pw
set_option linter.unusedSimpArgs false
set_option linter.unusedVariables false

theorem set_one (cur : Array Value) (o : Nat) (x y : Value) (h : cur[o + 1]? = some y) : putAt cur o [x, y] = cur.setIfInBounds o x := by
  show (cur.setIfInBounds o x).setIfInBounds (o + 1) y = cur.setIfInBounds o x
  apply Array.ext_getElem?
  intro i
  rw [Array.getElem?_setIfInBounds]
  by_cases e : o + 1 = i
  · subst e
    have hlt : o + 1 < cur.size := (Array.getElem?_eq_some_iff.1 h).1
    rw [if_pos rfl, if_pos (by simpa using hlt), Array.getElem?_setIfInBounds_ne (by omega), h]
  · rw [if_neg e]
theorem set_two (cur : Array Value) (o : Nat) (x y : Value) (h : cur[o]? = some x) : putAt cur o [x, y] = cur.setIfInBounds (o + 1) y := by
  show (cur.setIfInBounds o x).setIfInBounds (o + 1) y = cur.setIfInBounds (o + 1) y
  congr 1
  apply Array.ext_getElem?
  intro i
  rw [Array.getElem?_setIfInBounds]
  by_cases e : o = i
  · subst e
    have hlt : o < cur.size := (Array.getElem?_eq_some_iff.1 h).1
    rw [if_pos rfl, if_pos hlt, h]
  · rw [if_neg e]
theorem FsO.set {w w' : World} {B : Nat} {v : Value} {ps : List PF} (h : FsO w B v ps) {k : Nat} (hk : k < ps.length) {p' : PF} (ho : Own w' B 61 2 v ps.length ((ps.set k p').flatMap pfL)) (hp : Own w' B 3 1 (pfV p') p'.l.length (p'.l.map inV))
    (hoth : ∀ (i : Nat) q, i ≠ k → ps[i]? = some q → Own w' B 3 1 (pfV q) q.l.length (q.l.map inV)) (ha : ∀ (i : Nat) q, i ≠ k → ps[i]? = some q → Apart (pfV p') (pfV q)) : FsO w' B v (ps.set k p') where
  own := by rw [List.length_set]; exact ho
  each := fun i q hq => by
    rw [List.getElem?_set] at hq
    by_cases e : k = i
    · rw [if_pos e] at hq
      by_cases hi : i < ps.length
      · rw [if_pos (by omega)] at hq; cases hq; exact hp
      · rw [if_neg (by omega)] at hq; cases hq
    · rw [if_neg e] at hq
      exact hoth i q (fun e2 => e e2.symm) hq
  apart := fun i j q r hij hq hr => by
    rw [List.getElem?_set] at hq hr
    by_cases e : k = i
    · rw [if_pos e, if_pos (by omega)] at hq
      cases hq
      rw [if_neg (by omega)] at hr
      exact ha j r (by omega) hr
    · rw [if_neg e] at hq
      by_cases e2 : k = j
      · rw [if_pos e2, if_pos (by omega)] at hr
        cases hr
        exact (ha i q (by omega) hq).symm
      · rw [if_neg e2] at hr
        exact h.apart i j q r hij hq hr
/-- File k, to be written: its size; where its blocks lie. -/
theorem FsO.file {w : World} {B : Nat} {v : Value} {ps : List PF} (h : FsO w B v ps) {k : Nat} {p : PF} (hp : ps[k]? = some p) :
    ∃ g off cap cur, v = .slice (some ⟨g, off, none⟩) ps.length cap ∧ B ≤ g ∧ Blk w g cur 61 ∧ off + k * 2 + 2 ≤ cur.size ∧ cur[off + k * 2]? = some (.int .i64 p.n) ∧ cur[off + k * 2 + 1]? = some (.slice p.a p.l.length p.c) ∧
      (∀ w' n, Blk w' g (cur.setIfInBounds (off + k * 2) (.int .i64 n)) 61 → w.grownBy w' (some g) → FsO w' B v (ps.set k ⟨n, p.a, p.l, p.c⟩)) ∧
      (∀ w' a l c, Blk w' g (cur.setIfInBounds (off + k * 2 + 1) (.slice a l.length c)) 61 → w.grownBy w' (some g) → Own w B 3 1 (.slice a l.length c) l.length (l.map inV) → (∀ (j : Nat) q, j ≠ k → ps[j]? = some q → Apart (.slice a l.length c) (pfV q)) → FsO w' B v (ps.set k ⟨p.n, a, l, c⟩)) := by
  have hk := (List.getElem?_eq_some_iff.1 hp).1
  have hpe := (List.getElem?_eq_some_iff.1 hp).2
  obtain ⟨g, off, cap, cur, hv, hB, hblk, hfit, hset⟩ := own_putn pfL_len (by decide) rfl h.own k hk
  have hcells : ∀ j u, (ps.flatMap pfL)[j]? = some u → cur[off + j]? = some u := by
    rcases h.own.2 with ⟨h1, h2⟩ | ⟨g', off', cap', cur', hv', hB', hblk', _, _, _, hc⟩
    · omega
    · rw [hv] at hv'
      cases hv'
      have : cur = cur' := by
        unfold Blk at hblk hblk'
        rw [hblk] at hblk'
        simpa using hblk'
      subst this
      exact hc
  have c0 : cur[off + k * 2]? = some (.int .i64 p.n) := by
    have := hcells (k * 2) (.int .i64 p.n) (by
      have := flat_get pfL 2 pfL_len ps k hk 0 (.int .i64 p.n) (by rw [hpe]; rfl)
      simpa using this)
    exact this
  have c1 : cur[off + k * 2 + 1]? = some (.slice p.a p.l.length p.c) := by
    have := hcells (k * 2 + 1) (.slice p.a p.l.length p.c) (flat_get pfL 2 pfL_len ps k hk 1 _ (by rw [hpe]; rfl))
    simpa [Nat.add_assoc] using this
  have hoth : ∀ {w' : World}, w.grownBy w' (some g) → ∀ (i : Nat) q, ps[i]? = some q → Own w' B 3 1 (pfV q) q.l.length (q.l.map inV) := fun hgr i q hq => own_keep (h.each i q hq) hblk (by decide) hgr
  have hap : ∀ (j : Nat) q, j ≠ k → ps[j]? = some q → Apart (pfV p) (pfV q) := fun j q hj hq => by
    rcases Nat.lt_or_gt_of_ne hj with h1 | h1
    · exact (h.apart j k q p h1 hq hp).symm
    · exact h.apart k j p q h1 hp hq
  refine ⟨g, off, cap, cur, hv, hB, hblk, hfit, c0, c1, fun w' n hb hgr => ?_, fun w' a l c hb hgr ho ha => ?_⟩
  · refine h.set hk (hset w' ⟨n, p.a, p.l, p.c⟩ ?_) (hoth hgr k p hp) (fun i q _ hq => hoth hgr i q hq) hap
    rw [show pfL ⟨n, p.a, p.l, p.c⟩ = [.int .i64 n, .slice p.a p.l.length p.c] from rfl, set_one _ _ _ _ c1]
    exact hb
  · refine h.set hk (hset w' ⟨p.n, a, l, c⟩ ?_) (own_keep ho hblk (by decide) hgr) (fun i q _ hq => hoth hgr i q hq) ha
    rw [show pfL ⟨p.n, a, l, c⟩ = [.int .i64 p.n, .slice a l.length c] from rfl, set_two _ _ _ _ c0]
    exact hb
/-- A block's number, written. -/
theorem FsO.num {w : World} {B : Nat} {v : Value} {ps : List PF} (h : FsO w B v ps) {k : Nat} {p : PF} (hp : ps[k]? = some p) {i : Nat} (hi : i < p.l.length) :
    ∃ g off cap cur, p.a = some ⟨g, off, none⟩ ∧ p.c = cap ∧ B ≤ g ∧ Blk w g cur 3 ∧ off + i + 1 ≤ cur.size ∧
      ∀ w' x, Blk w' g (putAt cur (off + i) [.int .i64 x]) 3 → w.grownBy w' (some g) → FsO w' B v (ps.set k ⟨p.n, p.a, p.l.set i x, p.c⟩) := by
  have hk := (List.getElem?_eq_some_iff.1 hp).1
  have hpe := (List.getElem?_eq_some_iff.1 hp).2
  have hown := h.each k p hp
  rw [← flat_one] at hown
  obtain ⟨g, off, cap, cur, hv, hB, hblk, hfit, hset⟩ := own_putn (fun x : Int => (rfl : [inV x].length = 1)) (by decide) rfl hown i hi
  unfold pfV at hv
  simp only [Value.slice.injEq] at hv
  obtain ⟨ha, _, hc⟩ := hv
  refine ⟨g, off, cap, cur, ha, hc, hB, hblk, (by simpa using hfit), fun w' x hb hgr => ?_⟩
  have hap : ∀ (j : Nat) q, j ≠ k → ps[j]? = some q → Apart (pfV p) (pfV q) := fun j q hj hq => by
    rcases Nat.lt_or_gt_of_ne hj with h1 | h1
    · exact (h.apart j k q p h1 hq hp).symm
    · exact h.apart k j p q h1 hp hq
  have hown' : Own w' B 61 2 v ps.length (ps.flatMap pfL) := own_keep h.own hblk (by decide) hgr
  have hsame : (ps.set k ⟨p.n, p.a, p.l.set i x, p.c⟩).flatMap pfL = ps.flatMap pfL := by
    have e1 : pfL ⟨p.n, p.a, p.l.set i x, p.c⟩ = pfL p := by simp [pfL, pfC]
    apply List.ext_getElem?
    intro j
    by_cases hj : j < ps.length * 2
    · have hq : j / 2 < ps.length := by omega
      have f1 := flat_cell pfL 2 pfL_len (ps.set k ⟨p.n, p.a, p.l.set i x, p.c⟩) (j / 2) (by rw [List.length_set]; exact hq) (j % 2) (by omega)
      have f2 := flat_cell pfL 2 pfL_len ps (j / 2) hq (j % 2) (by omega)
      rw [show j / 2 * 2 + j % 2 = j from by omega] at f1 f2
      rw [f1, f2]
      congr 1
      rw [List.getElem_set]
      by_cases e : k = j / 2
      · rw [if_pos e, e1, ← hpe]; congr 1; simp only [e]
      · rw [if_neg e]
    · rw [List.getElem?_eq_none (by rw [flat_len pfL 2 pfL_len, List.length_set]; omega), List.getElem?_eq_none (by rw [flat_len pfL 2 pfL_len]; omega)]
  refine h.set hk (by rw [hsame]; exact hown') ?_ (fun j q hj hq => (h.each j q hq).apart (hap j q hj hq) (by
    have : (pfV p).ownBlock = some g := by unfold pfV; rw [ha]; rfl
    rw [this]; exact hgr)) (fun j q hj hq => by rw [show pfV ⟨p.n, p.a, p.l.set i x, p.c⟩ = pfV p from by simp [pfV]]; exact hap j q hj hq)
  have h9 := hset w' x (by rw [Nat.mul_one]; exact hb)
  rw [flat_one] at h9
  simpa [pfV] using h9
end Go.Proofs.Ytmdnmknmniabeaa
