/- The clock's hand, as data. -/
import Derived.Test.YtohbfjbcfibhcaaFrame7
namespace Go.Proofs.Ytohbfjbcfibhcaa
open Go.RowKit Pw
set_option linter.unusedSimpArgs false
set_option linter.unusedVariables false

/-- Where the hand is after s steps. -/
def idxM (m : Mem) (s : Nat) : Nat := (m.hand.toNat + s) % m.fs.length
def seenM (m : Mem) (s i : Nat) : Bool := (List.range s).any (fun t => idxM m t == i)
def unused (f : Fr) : Fr := { f with u := false }
def clrM (m : Mem) (s : Nat) : List Fr := m.fs.mapIdx (fun i f => if seenM m s i then unused f else f)
def stopM (m : Mem) (s : Nat) : Bool := decide (0 < (m.fs.getD (idxM m s) fr0).r) && (!(m.fs.getD (idxM m s) fr0).u || decide (m.fs.length ≤ s))
def nextS (m : Mem) : Nat := ((List.range (2 * m.fs.length)).find? (stopM m)).getD 0
def nextM (m : Mem) : Mem := if wrongM m ≠ 0 then noM else if freeN m.fs = m.fs.length then m else ⟨clrM m (nextS m), (idxM m (nextS m + 1) : Nat)⟩
def nextK (m : Mem) : Int := if wrongM m ≠ 0 then 0 else if freeN m.fs = m.fs.length then -1 else (idxM m (nextS m) : Nat)
theorem idx_lt {m : Mem} (h : 0 < m.fs.length) (s : Nat) : idxM m s < m.fs.length := Nat.mod_lt _ h
theorem clr_len (m : Mem) (s : Nat) : (clrM m s).length = m.fs.length := by simp [clrM]
theorem clr_get (m : Mem) (s i : Nat) (hi : i < m.fs.length) : (clrM m s)[i]'(by rw [clr_len]; exact hi) = if seenM m s i then unused m.fs[i] else m.fs[i] := by simp [clrM]
theorem seen_succ (m : Mem) (s i : Nat) : seenM m (s + 1) i = (seenM m s i || idxM m s == i) := by simp [seenM, List.range_succ]
theorem clr_zero (m : Mem) : clrM m 0 = m.fs := by
  apply List.ext_getElem
  · rw [clr_len]
  · intro i h1 h2
    rw [clr_get m 0 i h2]
    rfl
theorem clr_succ (m : Mem) (s : Nat) (h : 0 < m.fs.length) : (clrM m s).set (idxM m s) (unused ((clrM m s)[idxM m s]'(by rw [clr_len]; exact idx_lt h s))) = clrM m (s + 1) := by
  apply List.ext_getElem
  · simp [clr_len]
  · intro i h1 h2
    have hi : i < m.fs.length := by rw [clr_len] at h2; exact h2
    rw [List.getElem_set, clr_get m (s + 1) i hi, seen_succ]
    by_cases e : idxM m s = i
    · subst e
      rw [if_pos rfl, clr_get m s _ hi]
      cases seenM m s (idxM m s) <;> simp [unused]
    · rw [if_neg e, clr_get m s i hi]
      have : (idxM m s == i) = false := by simpa using e
      rw [this, Bool.or_false]
theorem seen_idx (m : Mem) (s : Nat) (h : 0 < m.fs.length) : seenM m s (idxM m s) = decide (m.fs.length ≤ s) := by
  rw [Bool.eq_iff_iff]
  simp only [seenM, List.any_eq_true, List.mem_range, beq_iff_eq, decide_eq_true_eq]
  constructor
  · rintro ⟨t, ht, he⟩
    unfold idxM at he
    rcases Nat.lt_or_ge s m.fs.length with hs | hs
    · exfalso
      have h1 : (m.hand.toNat + s) % m.fs.length = (m.hand.toNat + t + (s - t)) % m.fs.length := by congr 1; omega
      rw [h1, Nat.add_mod (m.hand.toNat + t) (s - t)] at he
      have h2 : (s - t) % m.fs.length = s - t := Nat.mod_eq_of_lt (by omega)
      rw [h2] at he
      have h3 := Nat.mod_lt (m.hand.toNat + t) h
      generalize (m.hand.toNat + t) % m.fs.length = x at *
      rcases Nat.lt_or_ge (x + (s - t)) m.fs.length with h4 | h4
      · rw [Nat.mod_eq_of_lt h4] at he; omega
      · rw [Nat.mod_eq_sub_mod h4, Nat.mod_eq_of_lt (by omega)] at he; omega
    · exact hs
  · intro hs
    refine ⟨s - m.fs.length, by omega, ?_⟩
    unfold idxM
    have : m.hand.toNat + s = (m.hand.toNat + (s - m.fs.length)) + m.fs.length := by omega
    rw [this, Nat.add_mod_right]
/-- The frame at which the hand is. -/
theorem clr_at (m : Mem) (s : Nat) (h : 0 < m.fs.length) : (clrM m s)[idxM m s]'(by rw [clr_len]; exact idx_lt h s) = if m.fs.length ≤ s then unused (m.fs[idxM m s]'(idx_lt h s)) else m.fs[idxM m s]'(idx_lt h s) := by
  rw [clr_get m s _ (idx_lt h s), seen_idx m s h]
  simp
theorem stop_eq (m : Mem) (s : Nat) (h : 0 < m.fs.length) : stopM m s = (decide (0 < ((clrM m s)[idxM m s]'(by rw [clr_len]; exact idx_lt h s)).r) && !((clrM m s)[idxM m s]'(by rw [clr_len]; exact idx_lt h s)).u) := by
  rw [clr_at m s h]
  unfold stopM
  rw [show m.fs.getD (idxM m s) fr0 = m.fs[idxM m s]'(idx_lt h s) from by simp [idx_lt h s]]
  by_cases hs : m.fs.length ≤ s
  · rw [if_pos hs]; simp [hs, unused]; rfl
  · rw [if_neg hs]; simp [hs]
theorem free_full (l : List Fr) : freeN l = l.length ↔ ∀ f ∈ l, f.r = 0 := by
  unfold freeN
  rw [List.length_filter_eq_length_iff]
  simp
/-- The hand stops. -/
theorem stops (m : Mem) (hw : wrongM m = 0) (hf : freeN m.fs ≠ m.fs.length) : ∃ s, s < 2 * m.fs.length ∧ stopM m s = true := by
  obtain ⟨_, hall, hh, _⟩ := (wrongM_iff m).1 hw
  rw [Ne, free_full] at hf
  obtain ⟨f, hff⟩ := Classical.not_forall.1 hf
  obtain ⟨hm, hr⟩ := Classical.not_imp.1 hff
  obtain ⟨i, hi, rfl⟩ := List.mem_iff_getElem.1 hm
  have hr0 := ((frameE_iff _).1 (hall _ hm)).1.1
  have hpos : 0 < m.fs.length := by omega
  have hx := Nat.mod_lt m.hand.toNat hpos
  refine ⟨(i + m.fs.length - m.hand.toNat % m.fs.length) % m.fs.length + m.fs.length, by have := Nat.mod_lt (i + m.fs.length - m.hand.toNat % m.fs.length) hpos; omega, ?_⟩
  have hidx : idxM m ((i + m.fs.length - m.hand.toNat % m.fs.length) % m.fs.length + m.fs.length) = i := by
    unfold idxM
    rw [← Nat.add_assoc, Nat.add_mod_right, Nat.add_mod, Nat.mod_mod]
    generalize m.hand.toNat % m.fs.length = x at *
    rcases Nat.lt_or_ge i x with h | h
    · rw [Nat.mod_eq_of_lt (show i + m.fs.length - x < m.fs.length by omega)]
      rw [show x + (i + m.fs.length - x) = i + m.fs.length from by omega, Nat.add_mod_right, Nat.mod_eq_of_lt hi]
    · have h3 : i + m.fs.length - x = (i - x) + m.fs.length := by omega
      rw [h3, Nat.add_mod_right, Nat.mod_eq_of_lt (show i - x < m.fs.length by omega), show x + (i - x) = i from by omega, Nat.mod_eq_of_lt hi]
  unfold stopM
  rw [hidx]
  have : m.fs.getD i fr0 = m.fs[i] := by simp [hi]
  rw [this]
  have h1 : 0 < m.fs[i].r := by omega
  have h2 : m.fs.length ≤ (i + m.fs.length - m.hand.toNat % m.fs.length) % m.fs.length + m.fs.length := by omega
  simp [h1, h2]
theorem next_s (m : Mem) (hw : wrongM m = 0) (hf : freeN m.fs ≠ m.fs.length) : nextS m < 2 * m.fs.length ∧ stopM m (nextS m) = true ∧ ∀ t, t < nextS m → stopM m t = false := by
  obtain ⟨s, hs, hst⟩ := stops m hw hf
  unfold nextS
  cases hfd : (List.range (2 * m.fs.length)).find? (stopM m) with
  | none =>
    rw [List.find?_eq_none] at hfd
    exact absurd hst (hfd s (List.mem_range.2 hs))
  | some r =>
    rw [List.find?_range_eq_some] at hfd
    obtain ⟨h1, h2, h3⟩ := hfd
    exact ⟨List.mem_range.1 h2, h1, fun t ht => by simpa using h3 t ht⟩
/-- The first stop, told by its marks. -/
theorem next_is (m : Mem) (hw : wrongM m = 0) (hf : freeN m.fs ≠ m.fs.length) (s : Nat) (h1 : stopM m s = true) (h2 : ∀ t, t < s → stopM m t = false) : nextS m = s := by
  obtain ⟨_, k1, k2⟩ := next_s m hw hf
  rcases Nat.lt_trichotomy (nextS m) s with h | h | h
  · rw [h2 _ h] at k1; cases k1
  · exact h
  · rw [k2 _ h] at h1; cases h1
end Go.Proofs.Ytohbfjbcfibhcaa
