/- What package slots, and the document's text of it, do. -/
import Derived.Test.YtohbfjbcfibhcaaRows
import Derived.Test.YtohbfjbcfibhcaaRep
namespace Go.Proofs.Ytohbfjbcfibhcaa
open Go.RowKit Pw
set_option linter.unusedSimpArgs false
set_option linter.unusedVariables false

theorem int_info : (Try.prog.info? 3).map (fun i => (i.zero, i.size, i.bytes)) = some (some (.int .i64 0), 1, 8) := by kernel_rfl
theorem ints_len (l : List Int) : (l.map inV).length = l.length * 1 := by simp
theorem ints_one (l : List Int) : ∀ u ∈ l.map inV, u.oneCell' = true := by
  intro u hu
  obtain ⟨_, _, rfl⟩ := List.mem_map.1 hu
  rfl
set_option maxHeartbeats 400000 in
set_option maxRecDepth 100000 in
theorem clone_slots (l : List Int) (a : Option Addr) (c : Nat) (w : World) (hle : l.length ≤ c) (hnil : a = none → c = 0) (hrd : RdV w a (l.map inV)) (hb : l.length * 8 ≤ 140737488355328) :
    Calls Try.prog 70 #[.slice a l.length c] w fun e w' => ∃ v, e = .returned v ∧ Own w' w.heap.size 3 1 v l.length (l.map inV) ∧ Below w.heap.size w w' := by
  cases a with
  | none =>
    have h0 := hnil rfl
    have hl : l = [] := List.eq_nil_of_length_eq_zero (by omega)
    subst hl
    subst h0
    have hq := fun W => Lib.run_eql_slice_nil (P := Try.prog) W 50 _ none 0 0 0 0 Try.underlying50
    go_enter Try.func70, Try.ntmps70
    go_wp2
    go_ret
    exact ⟨_, rfl, by simpa using Own.nil _ _ _ _, Below.refl _ _⟩
  | some ad =>
    have hq := fun W => Lib.run_eql_slice_nil (P := Try.prog) W 50 _ (some ad) l.length c 0 0 Try.underlying50
    go_enter Try.func70, Try.ntmps70
    go_wp2_with (at_builtin; go_must (refine wpList_app rfl _ _ 50 rfl w.heap.size 3 (.int .i64 0) 1 8 Try.underlying50 int_info rfl (by decide) _ 0 [] rfl ?own (some ad) l.length c (l.map inV) rfl (fun h => (by cases h)) hle (ints_len l) ?rd (ints_one l) (by unfold maxLen; omega) (by simpa using hb) ?bb ?k))
    case own => exact ⟨rfl, .inr ⟨w.heap.size, 0, 0, #[], rfl, Nat.le_refl _, Blk.new _ _ _, Nat.le_refl _, Nat.zero_le _, by simp, fun j u h => by simp at h⟩⟩
    case rd => exact hrd.below ((Below.refl _ _).alloc (Nat.le_refl _) _)
    case bb => exact le_alloc _ _
    intro v w1 hown hgr
    go_wp2
    go_ret
    exact ⟨v, rfl, by simpa using hown, ((Below.refl _ _).alloc (Nat.le_refl _) _).grown hgr (le_alloc _ _) (fun k hk => by cases hk; exact Nat.le_refl _)⟩

/-! ### plain -/
def badN (n : Int) : Bool := decide (n < 0) || decide (1000 < n)
/-- The place of the first thing that a test holds of; -1: there is none. -/
def idx {α : Type} (f : α → Bool) (l : List α) : Int := match l.findIdx? f with
  | some k => k
  | none => -1
theorem idx_at {α : Type} (f : α → Bool) (l : List α) (k : Nat) (h : k < l.length) (hp : ∀ i (h : i < l.length), i < k → f l[i] = false) (hk : f l[k] = true) : idx f l = k := by
  unfold idx
  rw [List.findIdx?_eq_some_iff_getElem.2 ⟨h, hk, fun j hj => by simpa using hp j (by omega) hj⟩]
theorem idx_none {α : Type} (f : α → Bool) (l : List α) (hp : ∀ i (h : i < l.length), f l[i] = false) : idx f l = -1 := by
  unfold idx
  rw [List.findIdx?_eq_none_iff.2 fun x hx => by
    obtain ⟨i, hi, rfl⟩ := List.mem_iff_getElem.1 hx
    exact hp i hi]
theorem idx_cases {α : Type} (f : α → Bool) (l : List α) : (idx f l = -1 ∧ ∀ i (h : i < l.length), f l[i] = false) ∨ ∃ k : Nat, ∃ h : k < l.length, idx f l = k ∧ f l[k] = true ∧ ∀ i (h : i < l.length), i < k → f l[i] = false := by
  unfold idx
  cases e : l.findIdx? f with
  | none => exact .inl ⟨rfl, fun i h => List.findIdx?_eq_none_iff.1 e _ (List.getElem_mem h)⟩
  | some k =>
    obtain ⟨h, hk, hp⟩ := List.findIdx?_eq_some_iff_getElem.1 e
    exact .inr ⟨k, h, rfl, hk, fun i _ hi => by simpa using hp i hi⟩
theorem idx_any {α : Type} (f : α → Bool) (l : List α) : decide (0 ≤ idx f l) = l.any f := by
  rcases idx_cases f l with ⟨e, h⟩ | ⟨k, hk, e, h, _⟩
  · rw [e]
    symm
    simp only [show decide ((0 : Int) ≤ -1) = false from rfl, List.any_eq_false]
    intro x hx
    obtain ⟨i, hi, rfl⟩ := List.mem_iff_getElem.1 hx
    simpa using h i hi
  · rw [e]
    symm
    simp only [show decide ((0 : Int) ≤ (k : Int)) = true from by simp, List.any_eq_true]
    exact ⟨_, List.getElem_mem hk, h⟩
theorem upto {n k : Nat} {P : ∀ i, i < n → Prop} (hp : ∀ i (h : i < n), i < k → P i h) (hlt : k < n) (hk : P k hlt) : ∀ i (h : i < n), i < k + 1 → P i h := by
  intro i h hi
  by_cases e : i = k
  · subst e; exact hk
  · exact hp i h (by omega)
def wrongS (l : List Int) : Int := if 60 < l.length then 4 else if l.any badN then 3 else 0
theorem inV_at (l : List Int) (k : Nat) (h : k < l.length) : (l.map inV)[k]? = some (.int .i64 l[k]) := by simp [h, inV]
theorem elem_at {w : World} {a : Option Addr} {l : List Int} (h : RdV w a (l.map inV)) (k : Nat) (hk : k < l.length) : ∃ b off, a = some ⟨b, off, none⟩ ∧ w.cell? ⟨b, off + k, none⟩ = some (.int .i64 l[k]) := by
  obtain ⟨b, off, ha, hc⟩ := h.at (by simp; omega)
  exact ⟨b, off, ha, hc _ _ (inV_at l k hk)⟩

/-! ### walks -/
theorem bad_any (n : Int) (w : World) : Calls Try.prog 68 #[.int .i64 n] w fun e w' => e = .returned (.bool (badN n)) ∧ w' = w := by
  unfold badN
  go_enter Try.func68, Try.ntmps68
  go_wp2
  all_goals
    go_ret
    refine ⟨ret_bool ?_, rfl⟩
    simp [*]

set_option maxHeartbeats 400000 in
theorem idxf_any (l : List Int) (a : Option Addr) (c : Nat) (w : World) (hrd : RdV w a (l.map inV)) (hl : l.length ≤ 9223372036854775807) :
    Calls Try.prog 82 #[.slice a l.length c, .func (.func 68) #[] #[]] w fun e w' => e = .returned (.int .i64 (idx badN l)) ∧ w' = w := by
  go_enter Try.func82, Try.ntmps82
  go_wp2
  go_loopw [8] (fun i wr => ∃ k : Nat, k ≤ l.length ∧ i = .int .i64 k ∧ wr = w ∧ ∀ i (h : i < l.length), i < k → badN l[i] = false) (fun i _ => l.length - (intOf i).toNat)
  case atStart => exact ⟨0, Nat.zero_le _, rfl, rfl, fun i _ h => absurd h (Nat.not_lt_zero _)⟩
  case round =>
    obtain ⟨k, hk, rfl, rfl, hp⟩ := hrel
    by_cases hlt : k < l.length
    · obtain ⟨b, off, rfl, hc⟩ := elem_at hrd k hlt
      go_wp2_with fail
      refine (bad_any l[k] _).mono ?_
      rintro e w1 ⟨rfl, rfl⟩
      cases hbk : badN l[k] with
      | true =>
        go_wp2
        go_ret
        exact ⟨ret_int (idx_at badN l k hlt hp hbk).symm, rfl⟩
      | false =>
        go_wp2
        go_roundw
        case rel => exact ⟨k + 1, by omega, by go_num, trivial, upto hp hlt hbk⟩
        case measure => simp [intOf]; omega
    · go_wp2
      go_ret
      exact ⟨ret_int (idx_none badN l fun i h => hp i h (by omega)).symm, rfl⟩

theorem contains_any (l : List Int) (a : Option Addr) (c : Nat) (w : World) (hrd : RdV w a (l.map inV)) (hl : l.length ≤ 9223372036854775807) :
    Calls Try.prog 67 #[.slice a l.length c, .func (.func 68) #[] #[]] w fun e w' => e = .returned (.bool (l.any badN)) ∧ w' = w := by
  rw [← idx_any]
  go_enter Try.func67, Try.ntmps67
  go_wp2_with fail
  refine (idxf_any l a c _ hrd hl).mono ?_
  rintro e w1 ⟨rfl, rfl⟩
  go_wp2
  go_ret
  exact ⟨rfl, rfl⟩

theorem wrong_any (l : List Int) (a : Option Addr) (c : Nat) (w : World) (hrd : RdV w a (l.map inV)) (hl : l.length ≤ 9223372036854775807) :
    Calls Try.prog 33 #[.slice a l.length c] w fun e w' => e = .returned (.int .i64 (wrongS l)) ∧ w' = w := by
  unfold wrongS
  go_enter Try.func33, Try.ntmps33
  by_cases h : 60 < l.length
  · have h1 : (60 : Int) < (l.length : Int) := by omega
    go_wp2
    go_ret
    exact ⟨by simp [h], rfl⟩
  · have h1 : ¬ (60 : Int) < (l.length : Int) := by omega
    go_wp2_with fail
    refine (contains_any l a c _ hrd hl).mono ?_
    rintro e w1 ⟨rfl, rfl⟩
    cases hb : l.any badN <;>
    · go_wp2
      go_ret
      exact ⟨by simp [h], rfl⟩

set_option maxHeartbeats 400000 in
theorem rwrong_any (l : List Int) (a : Option Addr) (c : Nat) (w : World) (hrd : RdV w a (l.map inV)) (hl : l.length ≤ 9223372036854775807) :
    Calls Try.prog 34 #[.slice a l.length c] w fun e w' => e = .returned (.int .i64 (wrongS l)) ∧ w' = w := by
  unfold wrongS
  go_enter Try.func34, Try.ntmps34
  by_cases h : 60 < l.length
  · have h1 : (60 : Int) < (l.length : Int) := by omega
    go_wp2
    go_ret
    exact ⟨by simp [h], rfl⟩
  · have h1 : ¬ (60 : Int) < (l.length : Int) := by omega
    rw [if_neg h]
    go_wp2
    go_loopw [10] (fun i wr => ∃ k : Nat, k ≤ l.length ∧ i = .int .i64 k ∧ wr = w ∧ ∀ i (h : i < l.length), i < k → badN l[i] = false) (fun i _ => l.length - (intOf i).toNat)
    case atStart => exact ⟨0, Nat.zero_le _, rfl, rfl, fun i _ h => absurd h (Nat.not_lt_zero _)⟩
    case round =>
      obtain ⟨k, hk, rfl, rfl, hp⟩ := hrel
      by_cases hlt : k < l.length
      · obtain ⟨b, off, rfl, hc⟩ := elem_at hrd k hlt
        by_cases hn : l[k] < 0 ∨ 1000 < l[k]
        · have hbk : badN l[k] = true := by simpa [badN] using hn
          have ha : l.any badN = true := List.any_eq_true.2 ⟨_, List.getElem_mem hlt, hbk⟩
          rcases hn with hn | hn <;>
          · go_wp2
            all_goals
              go_ret
              exact ⟨by simp [ha], rfl⟩
        · have hbk : badN l[k] = false := by simp [badN]; omega
          have n1 : ¬ l[k] < 0 := by omega
          have n2 : ¬ (1000 < l[k]) := by omega
          go_wp2
          go_roundw
          case rel => exact ⟨k + 1, by omega, by go_num, trivial, upto hp hlt hbk⟩
          case measure => simp [intOf]; omega
      · have ha : l.any badN = false := by
          rw [← idx_any, idx_none badN l fun i h => hp i h (by omega)]; rfl
        go_wp2
        all_goals
          go_ret
          exact ⟨by simp [ha], rfl⟩
end Go.Proofs.Ytohbfjbcfibhcaa
