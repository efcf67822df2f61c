/- Whole numbers in slices; the first of a list of which something holds. -/
import Derived.Test.YtmdnmknmniabeaaRows
import Derived.Test.YtmdnmknmniabeaaArr
import Derived.Lib.LazyBuf
import Derived.BigQuiet
import Derived.IntWalk
import Derived.Deep.QuietTactic
import Derived.Deep.DeepCutAuto
namespace Go.Proofs.Ytmdnmknmniabeaa
open Go.RowKit Pw
set_option linter.unusedSimpArgs false
set_option linter.unusedVariables false

theorem int_info : (Try.prog.info? 3).map (fun i => (i.zero, i.size, i.bytes)) = some (some (.int .i64 0), 1, 8) := by kernel_rfl
theorem int_size : (Try.prog.info? 3).map (·.size) = some 1 := by kernel_rfl
theorem ints_len (l : List Int) : (l.map inV).length = l.length * 1 := by simp
theorem ints_one (l : List Int) : ∀ u ∈ l.map inV, u.oneCell' = true := by
  intro u hu
  obtain ⟨_, _, rfl⟩ := List.mem_map.1 hu
  rfl
def idx {α : Type} (f : α → Bool) (l : List α) : Int := match l.findIdx? f with
  | some k => k
  | none => -1
theorem idx_at {α : Type} (f : α → Bool) (l : List α) (k : Nat) (h : k < l.length) (hp : ∀ i (h : i < l.length), i < k → f l[i] = false) (hk : f l[k] = true) : idx f l = k := by
  unfold idx
  rw [List.findIdx?_eq_some_iff_getElem.2 ⟨h, hk, fun j hj => by simpa using hp j (by omega) hj⟩]
theorem idx_none {α : Type} (f : α → Bool) (l : List α) (hp : ∀ i (h : i < l.length), f l[i] = false) : idx f l = -1 := by
  unfold idx
  rw [List.findIdx?_eq_none_iff.2 fun x hx => by
    obtain ⟨i, hi, rfl⟩ := List.mem_iff_getElem.1 hx
    exact hp i hi]
theorem idx_cases {α : Type} (f : α → Bool) (l : List α) : (idx f l = -1 ∧ ∀ i (h : i < l.length), f l[i] = false) ∨ ∃ k : Nat, ∃ h : k < l.length, idx f l = k ∧ f l[k] = true ∧ ∀ i (h : i < l.length), i < k → f l[i] = false := by
  unfold idx
  cases e : l.findIdx? f with
  | none => exact .inl ⟨rfl, fun i h => List.findIdx?_eq_none_iff.1 e _ (List.getElem_mem h)⟩
  | some k =>
    obtain ⟨h, hk, hp⟩ := List.findIdx?_eq_some_iff_getElem.1 e
    exact .inr ⟨k, h, rfl, hk, fun i _ hi => by simpa using hp i hi⟩
theorem idx_any {α : Type} (f : α → Bool) (l : List α) : decide (0 ≤ idx f l) = l.any f := by
  rcases idx_cases f l with ⟨e, h⟩ | ⟨k, hk, e, h, _⟩
  · rw [e]
    symm
    simp only [show decide ((0 : Int) ≤ -1) = false from rfl, List.any_eq_false]
    intro x hx
    obtain ⟨i, hi, rfl⟩ := List.mem_iff_getElem.1 hx
    simpa using h i hi
  · rw [e]
    symm
    simp only [show decide ((0 : Int) ≤ (k : Int)) = true from by simp, List.any_eq_true]
    exact ⟨_, List.getElem_mem hk, h⟩
theorem upto {n k : Nat} {P : ∀ i, i < n → Prop} (hp : ∀ i (h : i < n), i < k → P i h) (hlt : k < n) (hk : P k hlt) : ∀ i (h : i < n), i < k + 1 → P i h := by
  intro i h hi
  by_cases e : i = k
  · subst e; exact hk
  · exact hp i h (by omega)
theorem inV_at (l : List Int) (k : Nat) (h : k < l.length) : (l.map inV)[k]? = some (.int .i64 l[k]) := by simp [h, inV]
theorem elem_at {w : World} {a : Option Addr} {l : List Int} (h : RdV w a (l.map inV)) (k : Nat) (hk : k < l.length) : ∃ b off, a = some ⟨b, off, none⟩ ∧ w.cell? ⟨b, off + k, none⟩ = some (.int .i64 l[k]) := by
  obtain ⟨b, off, ha, hc⟩ := h.at (by simp; omega)
  exact ⟨b, off, ha, hc _ _ (inV_at l k hk)⟩

/-! ### walks -/
end Go.Proofs.Ytmdnmknmniabeaa
