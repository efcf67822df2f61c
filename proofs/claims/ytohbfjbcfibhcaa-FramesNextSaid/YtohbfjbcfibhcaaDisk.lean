/- Disks as plain data; what package disk's first functions, and the document's WrongDisk, do. -/
import Derived.Test.YtohbfjbcfibhcaaRows
import Derived.Test.YtohbfjbcfibhcaaElem
import Derived.Test.YtohbfjbcfibhcaaGrow
import Derived.Lib.LazyBuf
import Derived.BigQuiet
import Derived.IntWalk
import Derived.Deep.QuietTactic
import Derived.Deep.DeepCutAuto
namespace Go.Proofs.Ytohbfjbcfibhcaa
open Go.RowKit Pw
set_option linter.unusedSimpArgs false
set_option linter.unusedVariables false

structure Dsk where
  blocks : List Page
  queue : List (Int × Page)
def pgL (p : Page) : List Value := (pgC p).toList
def puC (q : Int × Page) : Array Value := #[.int .i64 q.1, .int .u8 q.2[0].toNat, .int .u8 q.2[1].toNat, .int .u8 q.2[2].toNat, .int .u8 q.2[3].toNat, .int .u8 q.2[4].toNat, .int .u8 q.2[5].toNat, .int .u8 q.2[6].toNat, .int .u8 q.2[7].toNat]
def puL (q : Int × Page) : List Value := (puC q).toList
theorem pgL_len (p : Page) : (pgL p).length = 8 := rfl
theorem puL_len (q : Int × Page) : (puL q).length = 9 := rfl
def zPg : Page := #v[0, 0, 0, 0, 0, 0, 0, 0]
theorem page_info : (Try.prog.info? 23).map (fun i => (i.zero, i.size, i.bytes)) = some (some (.agg #[.int .u8 0, .int .u8 0, .int .u8 0, .int .u8 0, .int .u8 0, .int .u8 0, .int .u8 0, .int .u8 0]), 8, 8) := by kernel_rfl
theorem put_info : (Try.prog.info? 45).map (fun i => (i.zero, i.size, i.bytes)) = some (some (.agg #[.int .i64 0, .int .u8 0, .int .u8 0, .int .u8 0, .int .u8 0, .int .u8 0, .int .u8 0, .int .u8 0, .int .u8 0]), 9, 16) := by kernel_rfl
theorem pages_len (l : List Page) : (l.flatMap pgL).length = l.length * 8 := flat_len _ _ pgL_len l
theorem puts_len (l : List (Int × Page)) : (l.flatMap puL).length = l.length * 9 := flat_len _ _ puL_len l
theorem pages_one (l : List Page) : ∀ u ∈ l.flatMap pgL, u.oneCell' = true := by
  intro u hu
  obtain ⟨p, _, hp⟩ := List.mem_flatMap.1 hu
  simp only [pgL, pgC, List.mem_cons, List.not_mem_nil, or_false] at hp
  rcases hp with rfl | rfl | rfl | rfl | rfl | rfl | rfl | rfl <;> rfl
theorem puts_one (l : List (Int × Page)) : ∀ u ∈ l.flatMap puL, u.oneCell' = true := by
  intro u hu
  obtain ⟨p, _, hp⟩ := List.mem_flatMap.1 hu
  simp only [puL, puC, List.mem_cons, List.not_mem_nil, or_false] at hp
  rcases hp with rfl | rfl | rfl | rfl | rfl | rfl | rfl | rfl | rfl <;> rfl
set_option maxHeartbeats 400000 in
set_option maxRecDepth 100000 in
theorem clone_pages (l : List Page) (a : Option Addr) (c : Nat) (w : World) (hle : l.length ≤ c) (hnil : a = none → c = 0) (hrd : RdV w a (l.flatMap pgL)) (hb : l.length * 8 ≤ 140737488355328) :
    Calls Try.prog 80 #[.slice a l.length c] w fun e w' => ∃ v, e = .returned v ∧ Own w' w.heap.size 23 8 v l.length (l.flatMap pgL) ∧ Below w.heap.size w w' := by
  cases a with
  | none =>
    have h0 := hnil rfl
    have hl : l = [] := List.eq_nil_of_length_eq_zero (by omega)
    subst hl
    subst h0
    have hq := fun W => Lib.run_eql_slice_nil (P := Try.prog) W 33 _ none 0 0 0 0 Try.underlying33
    go_enter Try.func80, Try.ntmps80
    go_wp2
    go_ret
    exact ⟨_, rfl, by simpa using Own.nil _ _ _ _, Below.refl _ _⟩
  | some ad =>
    have hq := fun W => Lib.run_eql_slice_nil (P := Try.prog) W 33 _ (some ad) l.length c 0 0 Try.underlying33
    go_enter Try.func80, Try.ntmps80
    go_wp2_with (at_builtin; go_must (refine wpList_app rfl _ _ 33 rfl w.heap.size 23 (.agg #[.int .u8 0, .int .u8 0, .int .u8 0, .int .u8 0, .int .u8 0, .int .u8 0, .int .u8 0, .int .u8 0]) 8 8 Try.underlying33 page_info rfl (by decide) _ 0 [] rfl ?own (some ad) l.length c (l.flatMap pgL) rfl (fun h => (by cases h)) hle (pages_len l) ?rd (pages_one l) (by unfold maxLen; omega) (by simpa using hb) ?bb ?k))
    case own => exact ⟨rfl, .inr ⟨w.heap.size, 0, 0, #[], rfl, Nat.le_refl _, Blk.new _ _ _, Nat.le_refl _, Nat.zero_le _, by simp, fun j u h => by simp at h⟩⟩
    case rd => exact hrd.below ((Below.refl _ _).alloc (Nat.le_refl _) _)
    case bb => exact le_alloc _ _
    intro v w1 hown hgr
    go_wp2
    go_ret
    exact ⟨v, rfl, by simpa using hown, ((Below.refl _ _).alloc (Nat.le_refl _) _).grown hgr (le_alloc _ _) (fun k hk => by cases hk; exact Nat.le_refl _)⟩

set_option maxHeartbeats 400000 in
set_option maxRecDepth 100000 in
theorem clone_puts (l : List (Int × Page)) (a : Option Addr) (c : Nat) (w : World) (hle : l.length ≤ c) (hnil : a = none → c = 0) (hrd : RdV w a (l.flatMap puL)) (hb : l.length * 16 ≤ 140737488355328) :
    Calls Try.prog 81 #[.slice a l.length c] w fun e w' => ∃ v, e = .returned v ∧ Own w' w.heap.size 45 9 v l.length (l.flatMap puL) ∧ Below w.heap.size w w' := by
  cases a with
  | none =>
    have h0 := hnil rfl
    have hl : l = [] := List.eq_nil_of_length_eq_zero (by omega)
    subst hl
    subst h0
    have hq := fun W => Lib.run_eql_slice_nil (P := Try.prog) W 34 _ none 0 0 0 0 Try.underlying34
    go_enter Try.func81, Try.ntmps81
    go_wp2
    go_ret
    exact ⟨_, rfl, by simpa using Own.nil _ _ _ _, Below.refl _ _⟩
  | some ad =>
    have hq := fun W => Lib.run_eql_slice_nil (P := Try.prog) W 34 _ (some ad) l.length c 0 0 Try.underlying34
    go_enter Try.func81, Try.ntmps81
    go_wp2_with (at_builtin; go_must (refine wpList_app rfl _ _ 34 rfl w.heap.size 45 (.agg #[.int .i64 0, .int .u8 0, .int .u8 0, .int .u8 0, .int .u8 0, .int .u8 0, .int .u8 0, .int .u8 0, .int .u8 0]) 9 16 Try.underlying34 put_info rfl (by decide) _ 0 [] rfl ?own (some ad) l.length c (l.flatMap puL) rfl (fun h => (by cases h)) hle (puts_len l) ?rd (puts_one l) (by unfold maxLen; omega) (by simpa using hb) ?bb ?k))
    case own => exact ⟨rfl, .inr ⟨w.heap.size, 0, 0, #[], rfl, Nat.le_refl _, Blk.new _ _ _, Nat.le_refl _, Nat.zero_le _, by simp, fun j u h => by simp at h⟩⟩
    case rd => exact hrd.below ((Below.refl _ _).alloc (Nat.le_refl _) _)
    case bb => exact le_alloc _ _
    intro v w1 hown hgr
    go_wp2
    go_ret
    exact ⟨v, rfl, by simpa using hown, ((Below.refl _ _).alloc (Nat.le_refl _) _).grown hgr (le_alloc _ _) (fun k hk => by cases hk; exact Nat.le_refl _)⟩

/-- A disk that can be read, where its two slices lie. -/
structure DRd (w : World) (ab : Option Addr) (cb : Nat) (aq : Option Addr) (cq : Nat) (d : Dsk) : Prop where
  lb : d.blocks.length ≤ cb
  lq : d.queue.length ≤ cq
  mb : cb ≤ maxLen
  mq : cq ≤ maxLen
  nb : ab = none → cb = 0
  nq : aq = none → cq = 0
  rb : RdV w ab (d.blocks.flatMap pgL)
  rq : RdV w aq (d.queue.flatMap puL)
theorem DRd.below {w w' : World} {ab : Option Addr} {cb : Nat} {aq : Option Addr} {cq : Nat} {d : Dsk} (h : DRd w ab cb aq cq d) (hb : Below w.heap.size w w') : DRd w' ab cb aq cq d :=
  { h with rb := h.rb.below hb, rq := h.rq.below hb }
/-- A disk of the call's own. -/
structure DOwn (w : World) (B : Nat) (vb vq : Value) (d : Dsk) : Prop where
  b : Own w B 23 8 vb d.blocks.length (d.blocks.flatMap pgL)
  q : Own w B 45 9 vq d.queue.length (d.queue.flatMap puL)
theorem DOwn.below {w w' : World} {B : Nat} {vb vq : Value} {d : Dsk} (h : DOwn w B vb vq d) (hb : Below w.heap.size w w') : DOwn w' B vb vq d := ⟨h.b.below hb, h.q.below hb⟩
theorem DOwn.mono {w : World} {B B' : Nat} {vb vq : Value} {d : Dsk} (h : DOwn w B vb vq d) (hB : B' ≤ B) : DOwn w B' vb vq d := ⟨h.b.mono hB, h.q.mono hB⟩
theorem DOwn.rd {w : World} {B : Nat} {vb vq : Value} {d : Dsk} (h : DOwn w B vb vq d) : ∃ ab cb aq cq, vb = .slice ab d.blocks.length cb ∧ vq = .slice aq d.queue.length cq ∧ DRd w ab cb aq cq d := by
  obtain ⟨ab, cb, rfl, h1, h2, h3, h4⟩ := h.b.rd
  obtain ⟨aq, cq, rfl, g1, g2, g3, g4⟩ := h.q.rd
  exact ⟨ab, cb, aq, cq, rfl, rfl, h1, g1, h2, g2, h3, g3, h4, g4⟩
theorem DOwn.nil (w : World) (B : Nat) : DOwn w B (.slice none 0 0) (.slice none 0 0) ⟨[], []⟩ := ⟨Own.nil _ _ _ _, Own.nil _ _ _ _⟩
/-- Where a put lies that is read. -/
theorem put_at {w : World} {a : Option Addr} {l : List (Int × Page)} (h : RdV w a (l.flatMap puL)) (k : Nat) (hk : k < l.length) : ∃ b off, a = some ⟨b, off, none⟩ ∧ ∀ j, j < 9 → w.cell? ⟨b, off + k * 9 + j, none⟩ = (puC l[k])[j]? := by
  obtain ⟨b, off, ha, hc⟩ := h.elem puL_len (by decide) k hk
  refine ⟨b, off, ha, fun j hj => ?_⟩
  have e : (puL l[k])[j]? = some ((puL l[k])[j]'(by rw [puL_len]; exact hj)) := List.getElem?_eq_getElem _
  rw [hc j _ e, ← e]
  simp [puL]
theorem page_at {w : World} {a : Option Addr} {l : List Page} (h : RdV w a (l.flatMap pgL)) (k : Nat) (hk : k < l.length) : ∃ b off, a = some ⟨b, off, none⟩ ∧ ∀ j, j < 8 → w.cell? ⟨b, off + k * 8 + j, none⟩ = (pgC l[k])[j]? := by
  obtain ⟨b, off, ha, hc⟩ := h.elem pgL_len (by decide) k hk
  refine ⟨b, off, ha, fun j hj => ?_⟩
  have e : (pgL l[k])[j]? = some ((pgL l[k])[j]'(by rw [pgL_len]; exact hj)) := List.getElem?_eq_getElem _
  rw [hc j _ e, ← e]
  simp [pgL]

def badW (n : Nat) (q : Int × Page) : Bool := decide (q.1 < 0) || decide ((n : Int) ≤ q.1)
def wrongD (d : Dsk) : Int := if 80 < d.blocks.length ∨ 400 < d.queue.length then 4 else if d.queue.any (badW d.blocks.length) then 3 else 0
theorem upto' {n k : Nat} {P : ∀ i, i < n → Prop} (hp : ∀ i (h : i < n), i < k → P i h) (hlt : k < n) (hk : P k hlt) : ∀ i (h : i < n), i < k + 1 → P i h := by
  intro i h hi
  by_cases e : i = k
  · subst e; exact hk
  · exact hp i h (by omega)

set_option maxHeartbeats 800000 in
set_option maxRecDepth 100000 in
theorem dwrong_any (d : Dsk) (ab : Option Addr) (cb : Nat) (aq : Option Addr) (cq : Nat) (w : World) (h : DRd w ab cb aq cq d) :
    Calls Try.prog 56 #[.agg #[.slice ab d.blocks.length cb, .slice aq d.queue.length cq]] w fun e w' => e = .returned (.int .i64 (wrongD d)) ∧ Below w.heap.size w w' := by
  have lb := Nat.le_trans h.lb h.mb
  have lq := Nat.le_trans h.lq h.mq
  unfold maxLen at lb lq
  have hrq := h.rq
  unfold wrongD
  obtain ⟨B, Q⟩ := d
  simp only at *
  go_enter Try.func56, Try.ntmps56
  have hb0 : Below w.heap.size w (w.alloc (.cells #[.slice ab B.length cb, .slice aq Q.length cq] 36)) := (Below.refl _ _).alloc (Nat.le_refl _) _
  by_cases h4 : 80 < B.length ∨ 400 < Q.length
  · rw [if_pos h4]
    have h4' : (80 : Int) < (B.length : Int) ∨ (400 : Int) < (Q.length : Int) := by omega
    clear h4
    rcases h4' with h4 | h4
    all_goals
      go_wp2
      all_goals
        go_ret
        exact ⟨rfl, hb0⟩
  · rw [if_neg h4]
    have h41 : ¬ (80 : Int) < (B.length : Int) := by omega
    have h42 : ¬ (400 : Int) < (Q.length : Int) := by omega
    clear h4
    go_wp2
    go_loopw [18] (fun i wr => ∃ k : Nat, k ≤ Q.length ∧ i = .int .i64 k ∧ Below w.heap.size w wr ∧ Blk wr w.heap.size #[.slice ab B.length cb, .slice aq Q.length cq] 36 ∧ ∀ i (h : i < Q.length), i < k → badW B.length Q[i] = false) (fun i _ => Q.length - (intOf i).toNat)
    case atStart => exact ⟨0, Nat.zero_le _, rfl, hb0, Blk.new _ _ _, fun i _ h => absurd h (Nat.not_lt_zero _)⟩
    case round =>
      obtain ⟨k, hk, rfl, hbel, hblk, hp⟩ := hrel
      by_cases hlt : k < Q.length
      · obtain ⟨b, off, rfl, hc⟩ := put_at (hrq.below hbel) k hlt
        have c0 := hc 0 (by decide); have c1 := hc 1 (by decide); have c2 := hc 2 (by decide); have c3 := hc 3 (by decide); have c4 := hc 4 (by decide)
        have c5 := hc 5 (by decide); have c6 := hc 6 (by decide); have c7 := hc 7 (by decide); have c8 := hc 8 (by decide)
        simp only [puC, List.getElem?_toArray, List.getElem?_cons_zero, List.getElem?_cons_succ, Nat.add_zero] at c0 c1 c2 c3 c4 c5 c6 c7 c8
        clear hc
        have hcd := fun o => (hblk.alloc o).cell
        by_cases hbad : Q[k].1 < 0 ∨ (B.length : Int) ≤ Q[k].1
        · have hbk : badW B.length Q[k] = true := by simpa [badW] using hbad
          have ha : Q.any (badW B.length) = true := List.any_eq_true.2 ⟨_, List.getElem_mem hlt, hbk⟩
          rcases hbad with hbad | hbad
          all_goals
            go_wp2
            all_goals
              go_ret
              exact ⟨by simp [ha], hbel.alloc hbel.size _⟩
        · have n1 : ¬ Q[k].1 < 0 := by omega
          have n2 : ¬ (B.length : Int) ≤ Q[k].1 := by omega
          have hbk : badW B.length Q[k] = false := by simp [badW]; omega
          clear hbad
          go_wp2
          go_roundw
          case rel => exact ⟨k + 1, by omega, by go_num, hbel.alloc hbel.size _, hblk.alloc _, upto' hp hlt hbk⟩
          case measure => simp [intOf]; omega
      · have ha : Q.any (badW B.length) = false := by
          rw [List.any_eq_false]
          intro x hx
          obtain ⟨i, hi, rfl⟩ := List.mem_iff_getElem.1 hx
          simp [hp i hi (by omega)]
        go_wp2
        all_goals
          go_ret
          exact ⟨by simp [ha], hbel⟩
set_option maxHeartbeats 800000 in
set_option maxRecDepth 100000 in
theorem rdwrong_any (d : Dsk) (ab : Option Addr) (cb : Nat) (aq : Option Addr) (cq : Nat) (w : World) (h : DRd w ab cb aq cq d) :
    Calls Try.prog 57 #[.agg #[.slice ab d.blocks.length cb, .slice aq d.queue.length cq]] w fun e w' => e = .returned (.int .i64 (wrongD d)) ∧ Below w.heap.size w w' := by
  have lb := Nat.le_trans h.lb h.mb
  have lq := Nat.le_trans h.lq h.mq
  unfold maxLen at lb lq
  have hrq := h.rq
  unfold wrongD
  obtain ⟨B, Q⟩ := d
  simp only at *
  go_enter Try.func57, Try.ntmps57
  have hb0 : Below w.heap.size w (w.alloc (.cells #[.slice ab B.length cb, .slice aq Q.length cq] 36)) := (Below.refl _ _).alloc (Nat.le_refl _) _
  by_cases h4 : 80 < B.length ∨ 400 < Q.length
  · rw [if_pos h4]
    have h4' : (80 : Int) < (B.length : Int) ∨ (400 : Int) < (Q.length : Int) := by omega
    clear h4
    rcases h4' with h4 | h4
    all_goals
      go_wp2
      all_goals
        go_ret
        exact ⟨rfl, hb0⟩
  · rw [if_neg h4]
    have h41 : ¬ (80 : Int) < (B.length : Int) := by omega
    have h42 : ¬ (400 : Int) < (Q.length : Int) := by omega
    clear h4
    go_wp2
    go_loopw [18] (fun i wr => ∃ k : Nat, k ≤ Q.length ∧ i = .int .i64 k ∧ Below w.heap.size w wr ∧ Blk wr w.heap.size #[.slice ab B.length cb, .slice aq Q.length cq] 36 ∧ ∀ i (h : i < Q.length), i < k → badW B.length Q[i] = false) (fun i _ => Q.length - (intOf i).toNat)
    case atStart => exact ⟨0, Nat.zero_le _, rfl, hb0, Blk.new _ _ _, fun i _ h => absurd h (Nat.not_lt_zero _)⟩
    case round =>
      obtain ⟨k, hk, rfl, hbel, hblk, hp⟩ := hrel
      by_cases hlt : k < Q.length
      · obtain ⟨b, off, rfl, hc⟩ := put_at (hrq.below hbel) k hlt
        have c0 := hc 0 (by decide); have c1 := hc 1 (by decide); have c2 := hc 2 (by decide); have c3 := hc 3 (by decide); have c4 := hc 4 (by decide)
        have c5 := hc 5 (by decide); have c6 := hc 6 (by decide); have c7 := hc 7 (by decide); have c8 := hc 8 (by decide)
        simp only [puC, List.getElem?_toArray, List.getElem?_cons_zero, List.getElem?_cons_succ, Nat.add_zero] at c0 c1 c2 c3 c4 c5 c6 c7 c8
        clear hc
        have hcd := fun o => (hblk.alloc o).cell
        by_cases hbad : Q[k].1 < 0 ∨ (B.length : Int) ≤ Q[k].1
        · have hbk : badW B.length Q[k] = true := by simpa [badW] using hbad
          have ha : Q.any (badW B.length) = true := List.any_eq_true.2 ⟨_, List.getElem_mem hlt, hbk⟩
          rcases hbad with hbad | hbad
          all_goals
            go_wp2
            all_goals
              go_ret
              exact ⟨by simp [ha], hbel.alloc hbel.size _⟩
        · have n1 : ¬ Q[k].1 < 0 := by omega
          have n2 : ¬ (B.length : Int) ≤ Q[k].1 := by omega
          have hbk : badW B.length Q[k] = false := by simp [badW]; omega
          clear hbad
          go_wp2
          go_roundw
          case rel => exact ⟨k + 1, by omega, by go_num, hbel.alloc hbel.size _, hblk.alloc _, upto' hp hlt hbk⟩
          case measure => simp [intOf]; omega
      · have ha : Q.any (badW B.length) = false := by
          rw [List.any_eq_false]
          intro x hx
          obtain ⟨i, hi, rfl⟩ := List.mem_iff_getElem.1 hx
          simp [hp i hi (by omega)]
        go_wp2
        all_goals
          go_ret
          exact ⟨by simp [ha], hbel⟩
end Go.Proofs.Ytohbfjbcfibhcaa
