/- Arguments that are structs, read as data: field by field; slices of whatever is read as data. No program in sight. -/
import Derived.Test.YtmdnmknmniabeaaOpen
namespace Pw
open Go Go.ChangeShapes Go.WideShapes Go.ChangeAt Go.RowKit
set_option linter.unusedSimpArgs false
set_option linter.unusedVariables false

/-- Whatever is read at type t is the cells of a thing, and that is good in that memory. -/
def OpensW {α : Type} (P : Program) (t : TypeId) (enc : α → List Value) (good : World → α → Prop) : Prop :=
  ∀ (H : Type) (e : TypeId × Value → H) (w : World) (base : Nat) (spare : Nat → Bool) (held : Bool) (fuel : Nat) (cs : List Value) (x : DataW H × List MemPlace),
    DataW.trod e P w base spare held fuel t cs = some x → ∃ a : α, cs = enc a ∧ good w a
theorem Opens.w {α : Type} {P : Program} {t : TypeId} {enc : α → List Value} {good : α → Prop} (h : Opens P t enc good) : OpensW P t enc (fun _ => good) := h
/-- The fields from number k on, whose cells begin at off, read as data. -/
def OpensFrom {α : Type} (P : Program) (fs : Array Field) (L k off : Nat) (enc : α → List Value) (good : World → α → Prop) : Prop :=
  ∀ (H : Type) (e : TypeId × Value → H) (w : World) (base : Nat) (spare : Nat → Bool) (held : Bool) (n : Nat) (cs : List Value) (xs : List (DataW H × List MemPlace)), cs.length = L → xs.length = fs.size →
    (∀ (i : Nat) (f : Field), fs[i]? = some f → DataW.trod e P w base spare held n f.type ((cs.drop f.offset).take (P.cellsOf f.type)) = xs[i]?) → ∃ a : α, cs.drop off = enc a ∧ good w a
theorem opensFrom_nil {P : Program} {fs : Array Field} {L k off : Nat} (h : L = off) : OpensFrom P fs L k off (fun _ : Unit => []) (fun _ _ => True) := by
  intro H e w base spare held n cs xs hl _ _
  exact ⟨(), by rw [List.drop_eq_nil_of_le (by omega)], trivial⟩
theorem opensFrom_cons {α β : Type} {P : Program} {fs : Array Field} {L k off : Nat} {f : Field} {enc : α → List Value} {good : World → α → Prop} {enc' : β → List Value} {good' : World → β → Prop} (hf : fs[k]? = some f) (off' : Nat) (ho : f.offset = off) (hn : off + P.cellsOf f.type = off') (h0 : OpensW P f.type enc good)
    (h1 : OpensFrom P fs L (k + 1) off' enc' good') : OpensFrom P fs L k off (fun x : α × β => enc x.1 ++ enc' x.2) (fun w x => good w x.1 ∧ good' w x.2) := by
  intro H e w base spare held n cs xs hl hx h
  subst hn
  obtain ⟨b, hb, gb⟩ := h1 H e w base spare held n cs xs hl hx h
  have hk : k < xs.length := by
    rw [hx]
    exact (Array.getElem?_eq_some_iff.1 hf).1
  have h2 := h k f hf
  rw [List.getElem?_eq_getElem hk, ho] at h2
  obtain ⟨a, ha, ga⟩ := h0 H e w base spare held n _ _ h2
  refine ⟨(a, b), ?_, ga, gb⟩
  show _ = enc a ++ enc' b
  rw [← ha, ← hb, ← List.drop_drop, List.take_append_drop]
theorem opens_struct {α : Type} {P : Program} {t : TypeId} {fs : Array Field} {enc : α → List Value} {good : World → α → Prop} (ht : P.underlying t = some (.struct fs)) (h : OpensFrom P fs (P.cellsOf t) 0 0 enc good) : OpensW P t enc good := by
  intro H e w base spare held fuel cs x hx
  obtain ⟨xs, n, _, _, hl, hn, hel⟩ := DataW.trod_struct ht hx
  exact h H e w base spare held n cs xs hl hn hel
theorem OpensW.of {α β : Type} {P : Program} {t : TypeId} {enc : α → List Value} {good : World → α → Prop} {enc' : β → List Value} {good' : World → β → Prop} (h : OpensW P t enc good) (g : α → β) (he : ∀ a, enc a = enc' (g a)) (hg : ∀ w a, good w a → good' w (g a)) : OpensW P t enc' good' := by
  intro H e w base spare held fuel cs x hx
  obtain ⟨a, ha, ga⟩ := h H e w base spare held fuel cs x hx
  exact ⟨g a, by rw [ha, he], hg w a ga⟩
/-- A slice of things. -/
theorem open_listW {α : Type} {P : Program} {t e : TypeId} {enc : α → List Value} {good : World → α → Prop} (ht : P.underlying t = some (.slice e)) (ho : OpensW P e enc good) (hsz : ∀ x, (enc x).length = P.cellsOf e)
    {H : Type} {en : TypeId × Value → H} {w : World} {base : Nat} {spare : Nat → Bool} {held : Bool} {fuel : Nat} {cs : List Value} {x : DataW H × List MemPlace} (h : DataW.trod en P w base spare held fuel t cs = some x) :
    ∃ (a : Option Addr) (l : List α) (c : Nat), cs = [.slice a l.length c] ∧ l.length ≤ c ∧ c ≤ maxLen ∧ (a = none → c = 0) ∧ RdV w a (l.flatMap enc) ∧ ∀ y ∈ l, good w y := by
  rcases DataW.trod_slice ht h with ⟨rfl, _⟩ | ⟨a, len, cap, elems, rest, n, _, rfl, _, _, hle, hcap, hlen, hel, _⟩
  · exact ⟨none, [], 0, rfl, Nat.le_refl _, Nat.zero_le _, fun _ => rfl, RdV.nil, fun y hy => (by cases hy)⟩
  · have key : ∀ i, i < len → ∃ y : α, good w y ∧ ∀ j u, (enc y)[j]? = some u → w.cell? ((a.add (i * P.cellsOf e)).add j) = some u := by
      intro i hi
      have h1 := hel i hi
      rw [List.getElem?_eq_getElem (by omega)] at h1
      obtain ⟨cs', h2, h3⟩ := Option.bind_eq_some_iff.1 h1
      obtain ⟨y, rfl, hy⟩ := ho H en w base spare held n cs' _ h3
      refine ⟨y, hy, fun j u hj => ?_⟩
      unfold World.cells? at h2
      split at h2
      · have h4 := mapM_some_get h2 j j (by
          have : j < (enc y).length := by
            rcases Nat.lt_or_ge j (enc y).length with h | h
            · exact h
            · simp [List.getElem?_eq_none h] at hj
          rw [hsz y] at this
          simp [this])
        rw [hj] at h4
        exact h4
      · cases h2
    have hall := choose_list (good w) (fun i y => ∀ j u, (enc y)[j]? = some u → w.cell? ((a.add (i * P.cellsOf e)).add j) = some u) len key
    obtain ⟨l, rfl, hg, hr⟩ := hall
    refine ⟨some a, l, cap, rfl, hle, hcap, fun e => (Option.some_ne_none _ e).elim, ?_, hg⟩
    by_cases hz : P.cellsOf e = 0
    · have : l.flatMap enc = [] := by
        apply List.eq_nil_of_length_eq_zero
        rw [flat_len enc (P.cellsOf e) hsz l, hz, Nat.mul_zero]
      rw [this]
      exact RdV.nil
    · intro k u hk
      have hkl : k < l.length * P.cellsOf e := by
        rw [← flat_len enc (P.cellsOf e) hsz l]
        rcases Nat.lt_or_ge k (l.flatMap enc).length with h | h
        · exact h
        · simp [List.getElem?_eq_none h] at hk
      have hi : k / P.cellsOf e < l.length := Nat.div_lt_of_lt_mul (by rw [Nat.mul_comm]; exact hkl)
      have hj : k % P.cellsOf e < P.cellsOf e := Nat.mod_lt _ (Nat.pos_of_ne_zero hz)
      have hk' : k / P.cellsOf e * P.cellsOf e + k % P.cellsOf e = k := by rw [Nat.mul_comm]; exact Nat.div_add_mod k _
      have hget : (enc l[k / P.cellsOf e])[k % P.cellsOf e]? = some u := by
        have h5 : k % P.cellsOf e < (enc l[k / P.cellsOf e]).length := by rw [hsz]; exact hj
        have h6 := flat_get enc (P.cellsOf e) hsz l _ hi _ _ (List.getElem?_eq_getElem h5)
        rw [hk', hk] at h6
        rw [List.getElem?_eq_getElem h5, h6]
      have h7 := hr _ hi _ u hget
      have hspot : a.spot = none := by
        by_cases h8 : a.spot = none
        · exact h8
        · exfalso
          -- the first cell of all is read at the address itself
          have h0 : 0 < l.length := Nat.lt_of_le_of_lt (Nat.zero_le _) hi
          have h9 : 0 < (enc l[0]).length := by rw [hsz]; omega
          have h10 := hr 0 h0 0 _ (List.getElem?_eq_getElem h9)
          simp only [Nat.zero_mul, Addr.add, if_true] at h10
          have := World.cell?_spot h10
          exact h8 this
      obtain ⟨b, off, sp⟩ := a
      subst hspot
      refine ⟨b, off, rfl, ?_⟩
      rw [Addr.add_lit, Addr.add_lit, Nat.add_assoc, hk'] at h7
      exact h7
/-- A slice of things, as a thing: where it lies, its elements, its capacity. -/
structure Sl (α : Type) where
  a : Option Addr
  l : List α
  c : Nat
def Sl.enc {α : Type} (s : Sl α) : List Value := [.slice s.a s.l.length s.c]
def Sl.good {α : Type} (enc : α → List Value) (good : World → α → Prop) (w : World) (s : Sl α) : Prop :=
  s.l.length ≤ s.c ∧ s.c ≤ maxLen ∧ (s.a = none → s.c = 0) ∧ RdV w s.a (s.l.flatMap enc) ∧ ∀ y ∈ s.l, good w y
theorem opens_sl {α : Type} {P : Program} {t e : TypeId} {enc : α → List Value} {good : World → α → Prop} (ht : P.underlying t = some (.slice e)) (ho : OpensW P e enc good) (hsz : ∀ x, (enc x).length = P.cellsOf e) : OpensW P t Sl.enc (Sl.good enc good) := by
  intro H en w base spare held fuel cs x hx
  obtain ⟨a, l, c, rfl, h⟩ := open_listW ht ho hsz hx
  exact ⟨⟨a, l, c⟩, rfl, h⟩
end Pw
