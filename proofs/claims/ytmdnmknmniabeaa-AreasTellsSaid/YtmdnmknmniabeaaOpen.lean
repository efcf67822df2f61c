/- What a value that is read as data looks like: whole numbers, bools, bytes, pages, slices of things. No program in sight. -/
import Derived.Test.YtmdnmknmniabeaaRep
import Derived.ProofKit
import Derived.OpenShut
import Derived.Deep.Slices
namespace Pw
open Go Go.RowKit
set_option linter.unusedSimpArgs false
set_option linter.unusedVariables false

theorem okWide_array {P : Program} {w : World} {r : Reach} {base : Nat} {t : TypeId} {v : Value} {n : Nat} {e : TypeId} (ht : P.underlying t = some (.array n e)) (h : Value.okWide P w r base t v) : ∃ cs, v = .agg cs ∧ cs.size = P.cellsOf t := by
  unfold Value.okWide at h
  rw [ht] at h
  obtain ⟨cs, hv, hs, _⟩ := h
  exact ⟨cs, hv, hs⟩
/-- Whatever is read at type t is the cells of a thing, and that is good. -/
def Opens {α : Type} (P : Program) (t : TypeId) (enc : α → List Value) (good : α → Prop) : Prop :=
  ∀ (H : Type) (e : TypeId × Value → H) (w : World) (base : Nat) (spare : Nat → Bool) (held : Bool) (fuel : Nat) (cs : List Value) (x : DataW H × List MemPlace),
    DataW.trod e P w base spare held fuel t cs = some x → ∃ a : α, cs = enc a ∧ good a

def i64 (n : Int) : Prop := -9223372036854775808 ≤ n ∧ n ≤ 9223372036854775807
theorem opens_int {P : Program} {t : TypeId} (ht : P.underlying t = some (.int .i64)) : Opens P t (fun n : Int => [.int .i64 n]) i64 := by
  intro H e w base spare held fuel cs x h
  obtain ⟨n, rfl, _, hn⟩ := DataW.trod_int ht h
  exact ⟨n, rfl, bounds_i64 hn⟩
theorem opens_bool {P : Program} {t : TypeId} (ht : P.underlying t = some .bool) : Opens P t (fun b : Bool => [.bool b]) (fun _ => True) := by
  intro H e w base spare held fuel cs x h
  obtain ⟨b, rfl, _⟩ := DataW.trod_bool ht h
  exact ⟨b, rfl, trivial⟩
theorem opens_u8 {P : Program} {t : TypeId} (ht : P.underlying t = some (.int .u8)) : Opens P t (fun b : UInt8 => [byV b]) (fun _ => True) := by
  intro H e w base spare held fuel cs x h
  obtain ⟨n, rfl, _, hn⟩ := DataW.trod_int ht h
  have hb := bounds_u8 hn
  refine ⟨UInt8.ofNat n.toNat, ?_, trivial⟩
  simp [byV]
  omega

theorem opens_page {P : Program} {t e : TypeId} (ht : P.underlying t = some (.array 8 e)) (he : P.underlying e = some (.int .u8)) (hc : P.cellsOf e = 1) (hp : P.cellsOf t = 8) : Opens P t (fun p : Page => (pgC p).toList) (fun _ => True) := by
  intro H enc w base spare held fuel cs x h
  obtain ⟨xs, m, _, _, hl, hn, hel⟩ := DataW.trod_array ht h
  rw [hp] at hl
  have key : ∀ i, i < 8 → ∃ b : UInt8, cs[i]? = some (byV b) := by
    intro i hi
    have h1 := hel i hi
    rw [hc, Nat.mul_one, List.getElem?_eq_getElem (by omega)] at h1
    obtain ⟨b, hb, _⟩ := opens_u8 he H enc w base spare held m _ _ h1
    refine ⟨b, ?_⟩
    have h2 : ((cs.drop i).take 1)[0]? = some (byV b) := by rw [hb]; rfl
    simpa using h2
  obtain ⟨b0, k0⟩ := key 0 (by omega)
  obtain ⟨b1, k1⟩ := key 1 (by omega)
  obtain ⟨b2, k2⟩ := key 2 (by omega)
  obtain ⟨b3, k3⟩ := key 3 (by omega)
  obtain ⟨b4, k4⟩ := key 4 (by omega)
  obtain ⟨b5, k5⟩ := key 5 (by omega)
  obtain ⟨b6, k6⟩ := key 6 (by omega)
  obtain ⟨b7, k7⟩ := key 7 (by omega)
  refine ⟨#v[b0, b1, b2, b3, b4, b5, b6, b7], ?_, trivial⟩
  match cs, hl with
  | [c0, c1, c2, c3, c4, c5, c6, c7], _ =>
    simp at k0 k1 k2 k3 k4 k5 k6 k7
    subst k0 k1 k2 k3 k4 k5 k6 k7
    rfl

theorem choose_list {α : Type} (good : α → Prop) (R : Nat → α → Prop) : ∀ (len : Nat), (∀ i, i < len → ∃ y : α, good y ∧ R i y) → ∃ l : List α, l.length = len ∧ (∀ y ∈ l, good y) ∧ ∀ i (hi : i < l.length), R i l[i]
  | 0, _ => ⟨[], rfl, fun y hy => (by cases hy), fun i hi => absurd hi (Nat.not_lt_zero _)⟩
  | len + 1, key => by
    obtain ⟨l, hl, hg, hr⟩ := choose_list good R len (fun i hi => key i (by omega))
    obtain ⟨y, hy, hyr⟩ := key len (by omega)
    refine ⟨l ++ [y], by simp [hl], ?_, ?_⟩
    · intro z hz
      rcases List.mem_append.1 hz with hz | hz
      · exact hg z hz
      · rw [List.mem_singleton.1 hz]; exact hy
    · intro i hi
      by_cases hil : i < l.length
      · rw [List.getElem_append_left hil]; exact hr i hil
      · have hi' : i = len := by simp at hi; omega
        subst hi'
        rw [List.getElem_append_right (by omega)]
        simpa [hl] using hyr

/-- A slice of things. -/
theorem open_list {α : Type} {P : Program} {t e : TypeId} {enc : α → List Value} {good : α → Prop} (ht : P.underlying t = some (.slice e)) (ho : Opens P e enc good) (hsz : ∀ x, (enc x).length = P.cellsOf e)
    {H : Type} {en : TypeId × Value → H} {w : World} {base : Nat} {spare : Nat → Bool} {held : Bool} {fuel : Nat} {cs : List Value} {x : DataW H × List MemPlace} (h : DataW.trod en P w base spare held fuel t cs = some x) :
    ∃ (a : Option Addr) (l : List α) (c : Nat), cs = [.slice a l.length c] ∧ l.length ≤ c ∧ c ≤ maxLen ∧ (a = none → c = 0) ∧ RdV w a (l.flatMap enc) ∧ ∀ y ∈ l, good y := by
  rcases DataW.trod_slice ht h with ⟨rfl, _⟩ | ⟨a, len, cap, elems, rest, n, _, rfl, _, _, hle, hcap, hlen, hel, _⟩
  · exact ⟨none, [], 0, rfl, Nat.le_refl _, Nat.zero_le _, fun _ => rfl, RdV.nil, fun y hy => (by cases hy)⟩
  · have key : ∀ i, i < len → ∃ y : α, good y ∧ ∀ j u, (enc y)[j]? = some u → w.cell? ((a.add (i * P.cellsOf e)).add j) = some u := by
      intro i hi
      have h1 := hel i hi
      rw [List.getElem?_eq_getElem (by omega)] at h1
      obtain ⟨cs', h2, h3⟩ := Option.bind_eq_some_iff.1 h1
      obtain ⟨y, rfl, hy⟩ := ho H en w base spare held n cs' _ h3
      refine ⟨y, hy, fun j u hj => ?_⟩
      unfold World.cells? at h2
      split at h2
      · have h4 := mapM_some_get h2 j j (by
          have : j < (enc y).length := by
            rcases Nat.lt_or_ge j (enc y).length with h | h
            · exact h
            · simp [List.getElem?_eq_none h] at hj
          rw [hsz y] at this
          simp [this])
        rw [hj] at h4
        exact h4
      · cases h2
    have hall := choose_list good (fun i y => ∀ j u, (enc y)[j]? = some u → w.cell? ((a.add (i * P.cellsOf e)).add j) = some u) len key
    obtain ⟨l, rfl, hg, hr⟩ := hall
    refine ⟨some a, l, cap, rfl, hle, hcap, fun e => (Option.some_ne_none _ e).elim, ?_, hg⟩
    by_cases hz : P.cellsOf e = 0
    · have : l.flatMap enc = [] := by
        apply List.eq_nil_of_length_eq_zero
        rw [flat_len enc (P.cellsOf e) hsz l, hz, Nat.mul_zero]
      rw [this]
      exact RdV.nil
    · intro k u hk
      have hkl : k < l.length * P.cellsOf e := by
        rw [← flat_len enc (P.cellsOf e) hsz l]
        rcases Nat.lt_or_ge k (l.flatMap enc).length with h | h
        · exact h
        · simp [List.getElem?_eq_none h] at hk
      have hi : k / P.cellsOf e < l.length := Nat.div_lt_of_lt_mul (by rw [Nat.mul_comm]; exact hkl)
      have hj : k % P.cellsOf e < P.cellsOf e := Nat.mod_lt _ (Nat.pos_of_ne_zero hz)
      have hk' : k / P.cellsOf e * P.cellsOf e + k % P.cellsOf e = k := by rw [Nat.mul_comm]; exact Nat.div_add_mod k _
      have hget : (enc l[k / P.cellsOf e])[k % P.cellsOf e]? = some u := by
        have h5 : k % P.cellsOf e < (enc l[k / P.cellsOf e]).length := by rw [hsz]; exact hj
        have h6 := flat_get enc (P.cellsOf e) hsz l _ hi _ _ (List.getElem?_eq_getElem h5)
        rw [hk', hk] at h6
        rw [List.getElem?_eq_getElem h5, h6]
      have h7 := hr _ hi _ u hget
      have hspot : a.spot = none := by
        by_cases h8 : a.spot = none
        · exact h8
        · exfalso
          -- the first cell of all is read at the address itself
          have h0 : 0 < l.length := Nat.lt_of_le_of_lt (Nat.zero_le _) hi
          have h9 : 0 < (enc l[0]).length := by rw [hsz]; omega
          have h10 := hr 0 h0 0 _ (List.getElem?_eq_getElem h9)
          simp only [Nat.zero_mul, Addr.add, if_true] at h10
          have := World.cell?_spot h10
          exact h8 this
      obtain ⟨b, off, sp⟩ := a
      subst hspot
      refine ⟨b, off, rfl, ?_⟩
      rw [Addr.add_lit, Addr.add_lit, Nat.add_assoc, hk'] at h7
      exact h7
end Pw
