/- What package slots' functions, and the document's text of them, do. -/
import Derived.Test.YtohbfjbcfibhcaaSlots
import Derived.Test.YtohbfjbcfibhcaaElem
import Derived.BigQuiet
import Derived.IntWalk
import Derived.Deep.QuietTactic
import Derived.Deep.DeepCutAuto
namespace Go.Proofs.Ytohbfjbcfibhcaa
open Go.RowKit Pw
set_option linter.unusedSimpArgs false
set_option linter.unusedVariables false

def isZ (n : Int) : Bool := n == 0
set_option maxHeartbeats 400000 in
theorem index_any (l : List Int) (a : Option Addr) (c : Nat) (w : World) (hrd : RdV w a (l.map inV)) (hl : l.length ≤ 9223372036854775807) :
    Calls Try.prog 69 #[.slice a l.length c, .int .i64 0] w fun e w' => e = .returned (.int .i64 (idx isZ l)) ∧ w' = w := by
  go_enter Try.func69, Try.ntmps69
  go_wp2
  go_loopw [8] (fun i wr => ∃ k : Nat, k ≤ l.length ∧ i = .int .i64 k ∧ wr = w ∧ ∀ i (h : i < l.length), i < k → isZ l[i] = false) (fun i _ => l.length - (intOf i).toNat)
  case atStart => exact ⟨0, Nat.zero_le _, rfl, rfl, fun i _ h => absurd h (Nat.not_lt_zero _)⟩
  case round =>
    obtain ⟨k, hk, rfl, rfl, hp⟩ := hrel
    by_cases hlt : k < l.length
    · obtain ⟨b, off, rfl, hc⟩ := elem_at hrd k hlt
      by_cases hz : l[k] = 0
      · have hbk : isZ l[k] = true := by simp [isZ, hz]
        rw [hz] at hc
        go_wp2
        go_ret
        exact ⟨ret_int (idx_at isZ l k hlt hp hbk).symm, rfl⟩
      · have hbk : isZ l[k] = false := by simp [isZ, hz]
        have hz' : ((0 : Int) == l[k]) = false := by simp; omega
        go_wp2
        go_roundw
        case rel => exact ⟨k + 1, by omega, by go_num, trivial, upto hp hlt hbk⟩
        case measure => simp [intOf]; omega
    · go_wp2
      go_ret
      exact ⟨ret_int (idx_none isZ l fun i h => hp i h (by omega)).symm, rfl⟩

theorem count_take {l : List Int} {k : Nat} (h : k < l.length) : ((l.take (k + 1)).countP isZ : Int) = (l.take k).countP isZ + (if isZ l[k] then 1 else 0) := by
  rw [List.take_add_one, List.countP_append, List.getElem?_eq_getElem h]
  cases e : isZ l[k] <;> simp [e, List.countP_cons, List.countP_nil]

set_option maxHeartbeats 400000 in
theorem free_any (l : List Int) (a : Option Addr) (c : Nat) (w : World) (hrd : RdV w a (l.map inV)) (hl : l.length ≤ 9223372036854775807) :
    Calls Try.prog 35 #[.slice a l.length c] w fun e w' => e = .returned (.int .i64 (l.countP isZ)) ∧ w' = w := by
  go_enter Try.func35, Try.ntmps35
  go_wp2
  go_loopw [8, 3] (fun i n wr => ∃ k : Nat, k ≤ l.length ∧ i = .int .i64 k ∧ n = .int .i64 ((l.take k).countP isZ) ∧ wr = w) (fun i _ _ => l.length - (intOf i).toNat)
  case atStart => exact ⟨0, Nat.zero_le _, rfl, rfl, rfl⟩
  case round =>
    obtain ⟨k, hk, rfl, rfl, rfl⟩ := hrel
    have hle : (l.take k).countP isZ ≤ k := Nat.le_trans List.countP_le_length (by simp; omega)
    by_cases hlt : k < l.length
    · obtain ⟨b, off, rfl, hc⟩ := elem_at hrd k hlt
      have hct := count_take hlt
      by_cases hz : l[k] = 0
      · have hbk : isZ l[k] = true := by simp [isZ, hz]
        rw [hz] at hc
        rw [hbk] at hct
        go_wp2
        go_roundw
        case rel => exact ⟨k + 1, by omega, by go_num, by rw [hct]; rfl, trivial⟩
        case measure => simp [intOf]; omega
      · have hbk : isZ l[k] = false := by simp [isZ, hz]
        have hz' : (l[k] == (0 : Int)) = false := by simp; omega
        rw [hbk] at hct
        go_wp2
        go_roundw
        case rel => exact ⟨k + 1, by omega, by go_num, by rw [hct]; simp, trivial⟩
        case measure => simp [intOf]; omega
    · have : k = l.length := by omega
      subst this
      rw [List.take_length]
      go_wp2
      go_ret
      exact ⟨rfl, rfl⟩

def newS (n : Int) : List Int := if 0 ≤ n ∧ n ≤ 60 then List.replicate n.toNat 0 else []
def newE (n : Int) : Int := if 0 ≤ n ∧ n ≤ 60 then 0 else 4
theorem one_cell_int : ∀ x : Int, ([inV x] : List Value).length = 1 := fun _ => rfl
set_option maxHeartbeats 400000 in
theorem new_any (n : Int) (w : World) :
    Calls Try.prog 32 #[.int .i64 n] w fun e w' => ∃ v, e = .returned (.tuple #[v, .int .i64 (newE n)]) ∧ Own w' w.heap.size 3 1 v (newS n).length ((newS n).map inV) ∧ Below w.heap.size w w' := by
  unfold newE newS
  by_cases h : 0 ≤ n ∧ n ≤ 60
  · obtain ⟨m, rfl⟩ := Int.eq_ofNat_of_zero_le h.1
    have h1 : (m : Int) ≤ 60 := h.2
    rw [if_pos h, if_pos h]
    go_enter Try.func32, Try.ntmps32
    go_wp2_with (with_reducible refine wpList_mk _ rfl (.tmp 10) (.tmp 10) 50 rfl (fun x => [inV x]) 3 (.int .i64 0) 1 8 0 one_cell_int (by decide) Try.underlying50 int_info rfl .i64 .i64 m m m rfl rfl rfl rfl (by omega) (by unfold maxLen; omega) ?k)
    intro w' ho hgr
    rw [flat_one] at ho
    go_wp2
    go_ret2
    exact ⟨_, rfl, by simpa using ho, (Below.refl _ _).grown hgr (Nat.le_refl _) (fun k hk => by cases hk)⟩
  · rw [if_neg h, if_neg h]
    go_enter Try.func32, Try.ntmps32
    by_cases h0 : n < 0
    · go_wp2
      go_ret2
      exact ⟨_, rfl, Own.nil _ _ _ _, Below.refl _ _⟩
    · have h1 : 60 < n := by omega
      go_wp2
      go_ret2
      exact ⟨_, rfl, Own.nil _ _ _ _, Below.refl _ _⟩

theorem hold_ok (l : List Int) (k : Nat) (hk : k < l.length) (h0 : wrongS l = 0) : 0 ≤ l[k] ∧ l[k] ≤ 1000 := by
  unfold wrongS at h0
  split at h0
  · omega
  split at h0
  · omega
  rename_i h
  have h1 : badN l[k] = false := by
    have := List.any_eq_false.1 (by simpa using h) _ (List.getElem_mem hk)
    simpa using this
  simp [badN] at h1
  exact h1
theorem wrongS_len {l : List Int} (h : wrongS l = 0) : l.length ≤ 60 := by
  unfold wrongS at h
  split at h
  · omega
  · omega
def takeE (l : List Int) (n : Int) : Int := if wrongS l ≠ 0 then wrongS l else if n < 1 ∨ 1000 < n then 3 else if idx isZ l < 0 then 10 else 0
def takeK (l : List Int) (n : Int) : Int := if takeE l n = 0 then idx isZ l else 0
def takeL (l : List Int) (n : Int) : List Int := if takeE l n = 0 then l.set (idx isZ l).toNat n else []
theorem take_wrong {l : List Int} (n : Int) (h : wrongS l ≠ 0) : takeE l n = wrongS l ∧ takeK l n = 0 ∧ takeL l n = [] := by
  have : takeE l n = wrongS l := by unfold takeE; rw [if_pos h]
  exact ⟨this, by unfold takeK; rw [this, if_neg h], by unfold takeL; rw [this, if_neg h]⟩
theorem take_range {l : List Int} {n : Int} (h0 : wrongS l = 0) (h : n < 1 ∨ 1000 < n) : takeE l n = 3 ∧ takeK l n = 0 ∧ takeL l n = [] := by
  have : takeE l n = 3 := by unfold takeE; rw [if_neg (by omega), if_pos h]
  exact ⟨this, by unfold takeK; rw [this]; rfl, by unfold takeL; rw [this]; rfl⟩
theorem take_full {l : List Int} {n : Int} (h0 : wrongS l = 0) (h : 1 ≤ n ∧ n ≤ 1000) (hf : idx isZ l = -1) : takeE l n = 10 ∧ takeK l n = 0 ∧ takeL l n = [] := by
  have : takeE l n = 10 := by unfold takeE; rw [if_neg (by omega), if_neg (by omega), if_pos (by omega)]
  exact ⟨this, by unfold takeK; rw [this]; rfl, by unfold takeL; rw [this]; rfl⟩
theorem take_some {l : List Int} {n : Int} {k : Nat} (h0 : wrongS l = 0) (h : 1 ≤ n ∧ n ≤ 1000) (hf : idx isZ l = k) : takeE l n = 0 ∧ takeK l n = k ∧ takeL l n = l.set k n := by
  have : takeE l n = 0 := by unfold takeE; rw [if_neg (by omega), if_neg (by omega), if_neg (by omega)]
  exact ⟨this, by unfold takeK; rw [this, if_pos rfl, hf], by unfold takeL; rw [this, if_pos rfl, hf]; rfl⟩

set_option maxHeartbeats 400000 in
set_option maxRecDepth 100000 in
theorem take_any (l : List Int) (a : Option Addr) (c : Nat) (n : Int) (w : World) (hle : l.length ≤ c) (hnil : a = none → c = 0) (hrd : RdV w a (l.map inV)) (hl : l.length ≤ 9223372036854775807) :
    Calls Try.prog 36 #[.slice a l.length c, .int .i64 n] w fun e w' => ∃ v, e = .returned (.tuple #[v, .int .i64 (takeK l n), .int .i64 (takeE l n)]) ∧ Own w' w.heap.size 3 1 v (takeL l n).length ((takeL l n).map inV) ∧ Below w.heap.size w w' := by
  go_enter Try.func36, Try.ntmps36
  go_wp2_with fail
  refine (wrong_any l a c _ hrd (by omega)).mono ?_
  rintro e w1 ⟨rfl, rfl⟩
  by_cases h0 : wrongS l = 0
  · rw [h0]
    have hlen := wrongS_len h0
    by_cases hn : n < 1 ∨ 1000 < n
    · obtain ⟨q1, q2, q3⟩ := take_range h0 hn
      rcases hn with hn | hn <;>
      · go_wp2
        all_goals
          go_ret3
          try simp only [q1, q2, q3]
          exact ⟨_, rfl, Own.nil _ _ _ _, Below.refl _ _⟩
    · have n1 : ¬ n < 1 := by omega
      have n2 : ¬ 1000 < n := by omega
      go_wp2_with fail
      refine (index_any l a c _ hrd (by omega)).mono ?_
      rintro e w2 ⟨rfl, rfl⟩
      rcases idx_cases isZ l with ⟨hi, _⟩ | ⟨k, hk, hi, hz, _⟩
      · obtain ⟨q1, q2, q3⟩ := take_full h0 ⟨by omega, by omega⟩ hi
        rw [hi]
        go_wp2
        go_ret3
        try simp only [q1, q2, q3]
        exact ⟨_, rfl, Own.nil _ _ _ _, Below.refl _ _⟩
      · obtain ⟨q1, q2, q3⟩ := take_some h0 ⟨by omega, by omega⟩ hi
        rw [hi]
        go_wp2_with fail
        refine (clone_slots l a c _ hle hnil hrd (by omega)).mono ?_
        rintro e w3 ⟨v, rfl, ho, hb⟩
        obtain ⟨g, off, cap, rfl, hB, hlt, hc, hf, hset⟩ := ho.put1 k hk
        go_wp2
        go_ret3
        try simp only [q1, q2, q3]
        exact ⟨_, rfl, by rw [List.length_set]; exact hset n, hb.setCell hB _⟩
  · obtain ⟨q1, q2, q3⟩ := take_wrong n h0
    have hw : (wrongS l != 0) = true := by simpa using h0
    go_wp2
    go_ret3
    try simp only [q1, q2, q3]
    exact ⟨_, rfl, Own.nil _ _ _ _, Below.refl _ _⟩

set_option maxHeartbeats 400000 in
set_option maxRecDepth 100000 in
theorem slot_any (l : List Int) (a : Option Addr) (c : Nat) (k : Nat) (n : Int) (w : World) (hle : l.length ≤ c) (hrd : RdV w a (l.map inV)) (hl : l.length ≤ 60) (hk : k < l.length) :
    Calls Try.prog 71 #[.slice a l.length c, .int .i64 k, .int .i64 n] w fun e w' => ∃ v, e = .returned v ∧ Own w' w.heap.size 3 1 v l.length ((l.set k n).map inV) ∧ Below w.heap.size w w' := by
  obtain ⟨ad, rfl⟩ : ∃ ad, a = some ad := by obtain ⟨b, off, rfl, _⟩ := elem_at hrd k hk; exact ⟨_, rfl⟩
  go_enter Try.func71, Try.ntmps71
  go_wp2_with (at_builtin; go_must (refine wpList_app rfl _ _ 50 rfl w.heap.size 3 (.int .i64 0) 1 8 Try.underlying50 int_info rfl (by decide) _ 0 [] rfl ?own (some ad) l.length c (l.map inV) rfl (fun h => (by cases h)) hle (ints_len l) ?rd (ints_one l) (by unfold maxLen; omega) (by simp; omega) ?bb ?k))
  case own => exact ⟨rfl, .inr ⟨w.heap.size, 0, 0, #[], rfl, Nat.le_refl _, Blk.new _ _ _, Nat.le_refl _, Nat.zero_le _, by simp, fun j u h => by simp at h⟩⟩
  case rd => exact hrd.below ((Below.refl _ _).alloc (Nat.le_refl _) _)
  case bb => exact le_alloc _ _
  intro v w1 hown hgr
  have hbel : Below w.heap.size w w1 := ((Below.refl _ _).alloc (Nat.le_refl _) _).grown hgr (le_alloc _ _) (fun k hk => by cases hk; exact Nat.le_refl _)
  have ho : Own w1 w.heap.size 3 1 v l.length (l.map inV) := by simpa using hown
  clear hown hgr
  obtain ⟨g, off, cap, rfl, hB, hlt, hc, hf, hset⟩ := ho.put1 k hk
  go_wp2
  go_ret
  exact ⟨_, rfl, hset n, hbel.setCell hB _⟩

set_option maxHeartbeats 800000 in
set_option maxRecDepth 100000 in
theorem rtake_any (l : List Int) (a : Option Addr) (c : Nat) (n : Int) (w : World) (hle : l.length ≤ c) (hrd : RdV w a (l.map inV)) (hl : l.length ≤ 9223372036854775807) :
    Calls Try.prog 37 #[.slice a l.length c, .int .i64 n] w fun e w' => ∃ v, e = .returned (.tuple #[v, .int .i64 (takeK l n), .int .i64 (takeE l n)]) ∧ Own w' w.heap.size 3 1 v (takeL l n).length ((takeL l n).map inV) ∧ Below w.heap.size w w' := by
  go_enter Try.func37, Try.ntmps37
  go_wp2_with fail
  refine (rwrong_any l a c _ hrd (by omega)).mono ?_
  rintro e w1 ⟨rfl, rfl⟩
  by_cases h0 : wrongS l = 0
  · rw [h0]
    have hlen := wrongS_len h0
    by_cases hn : n < 1 ∨ 1000 < n
    · obtain ⟨q1, q2, q3⟩ := take_range h0 hn
      rcases hn with hn | hn <;>
      · go_wp2
        all_goals
          go_ret3
          try simp only [q1, q2, q3]
          exact ⟨_, rfl, Own.nil _ _ _ _, Below.refl _ _⟩
    · have n1 : ¬ n < 1 := by omega
      have n2 : ¬ 1000 < n := by omega
      go_wp2
      go_loopw [23] (fun i wr => ∃ k : Nat, k ≤ l.length ∧ i = .int .i64 k ∧ wr = w1 ∧ ∀ i (h : i < l.length), i < k → isZ l[i] = false) (fun i _ => l.length - (intOf i).toNat)
      case atStart => exact ⟨0, Nat.zero_le _, rfl, rfl, fun i _ h => absurd h (Nat.not_lt_zero _)⟩
      case round =>
        obtain ⟨k, hk, rfl, rfl, hp⟩ := hrel
        by_cases hlt : k < l.length
        · obtain ⟨b, off, rfl, hc⟩ := elem_at hrd k hlt
          by_cases hz : l[k] = 0
          · have hbk : isZ l[k] = true := by simp [isZ, hz]
            have hi := idx_at isZ l k hlt hp hbk
            obtain ⟨q1, q2, q3⟩ := take_some h0 ⟨by omega, by omega⟩ hi
            rw [hz] at hc
            go_wp2_with fail
            refine (slot_any l _ c k n _ hle hrd hlen hlt).mono ?_
            rintro e w3 ⟨v, rfl, ho, hb⟩
            go_wp2
            go_ret3
            try simp only [q1, q2, q3]
            exact ⟨_, rfl, by rw [List.length_set]; exact ho, hb⟩
          · have hbk : isZ l[k] = false := by simp [isZ, hz]
            have hz' : (l[k] == (0 : Int)) = false := by simp; omega
            go_wp2
            go_roundw
            case rel => exact ⟨k + 1, by omega, by go_num, trivial, upto hp hlt hbk⟩
            case measure => simp [intOf]; omega
        · obtain ⟨q1, q2, q3⟩ := take_full h0 ⟨by omega, by omega⟩ (idx_none isZ l fun i h => hp i h (by omega))
          go_wp2
          all_goals
            go_ret3
            try simp only [q1, q2, q3]
            exact ⟨_, rfl, Own.nil _ _ _ _, Below.refl _ _⟩
  · obtain ⟨q1, q2, q3⟩ := take_wrong n h0
    have hw : (wrongS l != 0) = true := by simpa using h0
    go_wp2
    go_ret3
    try simp only [q1, q2, q3]
    exact ⟨_, rfl, Own.nil _ _ _ _, Below.refl _ _⟩

def atI (l : List Int) (k : Int) : Int := l.getD k.toNat 0
def holdE (l : List Int) (k n : Int) : Int := if wrongS l ≠ 0 then wrongS l else if k < 0 ∨ l.length ≤ k ∨ atI l k = 0 then 5 else if n < -atI l k ∨ 1000 - atI l k < n then 3 else 0
def holdL (l : List Int) (k n : Int) : List Int := if holdE l k n = 0 then l.set k.toNat (atI l k + n) else []
theorem hold_wrong {l : List Int} (k n : Int) (h : wrongS l ≠ 0) : holdE l k n = wrongS l ∧ holdL l k n = [] := by
  have : holdE l k n = wrongS l := by unfold holdE; rw [if_pos h]
  exact ⟨this, by unfold holdL; rw [this, if_neg h]⟩
theorem hold_none {l : List Int} {k n : Int} (h0 : wrongS l = 0) (h : k < 0 ∨ l.length ≤ k ∨ atI l k = 0) : holdE l k n = 5 ∧ holdL l k n = [] := by
  have : holdE l k n = 5 := by unfold holdE; rw [if_neg (by omega), if_pos h]
  exact ⟨this, by unfold holdL; rw [this]; rfl⟩
theorem hold_range {l : List Int} {k n : Int} (h0 : wrongS l = 0) (h : ¬ (k < 0 ∨ l.length ≤ k ∨ atI l k = 0)) (hr : n < -atI l k ∨ 1000 - atI l k < n) : holdE l k n = 3 ∧ holdL l k n = [] := by
  have : holdE l k n = 3 := by unfold holdE; rw [if_neg (by omega), if_neg h, if_pos hr]
  exact ⟨this, by unfold holdL; rw [this]; rfl⟩
theorem hold_some {l : List Int} {k n : Int} (h0 : wrongS l = 0) (h : ¬ (k < 0 ∨ l.length ≤ k ∨ atI l k = 0)) (hr : ¬ (n < -atI l k ∨ 1000 - atI l k < n)) : holdE l k n = 0 ∧ holdL l k n = l.set k.toNat (atI l k + n) := by
  have : holdE l k n = 0 := by unfold holdE; rw [if_neg (by omega), if_neg h, if_neg hr]
  exact ⟨this, by unfold holdL; rw [this, if_pos rfl]⟩
theorem atI_nat {l : List Int} {k : Nat} (h : k < l.length) : atI l k = l[k] := by simp [atI, h]

set_option maxHeartbeats 800000 in
set_option maxRecDepth 100000 in
theorem hold_any (l : List Int) (a : Option Addr) (c : Nat) (k n : Int) (w : World) (hle : l.length ≤ c) (hnil : a = none → c = 0) (hrd : RdV w a (l.map inV)) (hl : l.length ≤ 9223372036854775807) :
    Calls Try.prog 39 #[.slice a l.length c, .int .i64 k, .int .i64 n] w fun e w' => ∃ v, e = .returned (.tuple #[v, .int .i64 (holdE l k n)]) ∧ Own w' w.heap.size 3 1 v (holdL l k n).length ((holdL l k n).map inV) ∧ Below w.heap.size w w' := by
  go_enter Try.func39, Try.ntmps39
  go_wp2_with fail
  refine (wrong_any l a c _ hrd (by omega)).mono ?_
  rintro e w1 ⟨rfl, rfl⟩
  by_cases h0 : wrongS l = 0
  · rw [h0]
    have hlen := wrongS_len h0
    by_cases hk : k < 0 ∨ (l.length : Int) ≤ k
    · obtain ⟨q1, q2⟩ := hold_none (n := n) h0 (show k < 0 ∨ (l.length : Int) ≤ k ∨ atI l k = 0 from by omega)
      rcases hk with hk | hk <;>
      · go_wp2
        all_goals
          go_ret2
          try simp only [q1, q2]
          exact ⟨_, rfl, Own.nil _ _ _ _, Below.refl _ _⟩
    · obtain ⟨k, rfl⟩ := Int.eq_ofNat_of_zero_le (show 0 ≤ k by omega)
      have hlt : k < l.length := by omega
      have hlt1 : ¬ (l.length : Int) ≤ (k : Int) := by omega
      obtain ⟨b, off, rfl, hc⟩ := elem_at hrd k hlt
      obtain ⟨b1, b2⟩ := hold_ok l k hlt h0
      have hat := atI_nat hlt
      by_cases hz : l[k] = 0
      · obtain ⟨q1, q2⟩ := hold_none (n := n) h0 (show (k : Int) < 0 ∨ (l.length : Int) ≤ k ∨ atI l k = 0 from by omega)
        rw [hz] at hc
        clear hk hat b1 b2
        go_wp2
        all_goals
          go_ret2
          try simp only [q1, q2]
          exact ⟨_, rfl, Own.nil _ _ _ _, Below.refl _ _⟩
      · have hz' : (l[k] == (0 : Int)) = false := by simp; omega
        have hnn : ¬ ((k : Int) < 0 ∨ (l.length : Int) ≤ k ∨ atI l k = 0) := by omega
        by_cases hr : n < -atI l k ∨ 1000 - atI l k < n
        · obtain ⟨q1, q2⟩ := hold_range h0 hnn hr
          rw [hat] at hr
          clear hat hnn hk
          rcases hr with hr | hr <;>
          · go_wp2
            all_goals
              go_ret2
              try simp only [q1, q2]
              exact ⟨_, rfl, Own.nil _ _ _ _, Below.refl _ _⟩
        · obtain ⟨q1, q2⟩ := hold_some h0 hnn hr
          rw [hat] at hr q2
          rw [Int.toNat_natCast] at q2
          have r1 : ¬ n < -l[k] := by omega
          have r2 : ¬ 1000 - l[k] < n := by omega
          clear hat hnn hk hr
          go_wp2_with fail
          refine (clone_slots l _ c _ hle hnil hrd (by omega)).mono ?_
          rintro e w3 ⟨v, rfl, ho, hb⟩
          obtain ⟨g, off', cap, rfl, hB, hltg, hc', hf, hset⟩ := ho.put1 k hlt
          unfold inV at hc'
          go_wp2
          go_ret2
          try simp only [q1, q2]
          exact ⟨_, rfl, by rw [List.length_set]; exact hset _, hb.setCell hB _⟩
  · obtain ⟨q1, q2⟩ := hold_wrong k n h0
    have hw : (wrongS l != 0) = true := by simpa using h0
    go_wp2
    go_ret2
    try simp only [q1, q2]
    exact ⟨_, rfl, Own.nil _ _ _ _, Below.refl _ _⟩
end Go.Proofs.Ytohbfjbcfibhcaa
