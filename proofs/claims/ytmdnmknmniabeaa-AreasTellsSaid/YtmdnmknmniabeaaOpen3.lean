/- Arguments read as data, with the form's own reach: structs, slices, arrays. No program in sight. -/
import Derived.Test.YtmdnmknmniabeaaOpen2
import Derived.SizedLaws
namespace Pw
open Go Go.ChangeShapes Go.WideShapes Go.ChangeAt Go.RowKit
set_option linter.unusedSimpArgs false
set_option linter.unusedVariables false

/-- Whatever is read at type t, within the form's reach, is the cells of a thing, and that is good in that memory. -/
def OpensZ {α : Type} (P : Program) (t : TypeId) (enc : α → List Value) (good : World → α → Prop) : Prop :=
  ∀ (H : Type) (e : TypeId × Value → H) (w : World) (base : Nat) (spare : Nat → Bool) (held : Bool) (fuel : Nat) (cs : List Value) (x : DataW H × List MemPlace),
    DataW.trod e P w base spare held fuel t cs = some x → (∀ n ∈ x.1.weights P t, n ≤ reachBytes) → ∃ a : α, cs = enc a ∧ good w a
theorem OpensW.z {α : Type} {P : Program} {t : TypeId} {enc : α → List Value} {good : World → α → Prop} (h : OpensW P t enc good) : OpensZ P t enc good := fun H e w b s hd f cs x hx _ => h H e w b s hd f cs x hx
def OpensFromZ {α : Type} (P : Program) (fs : Array Field) (L k off : Nat) (enc : α → List Value) (good : World → α → Prop) : Prop :=
  ∀ (H : Type) (e : TypeId × Value → H) (w : World) (base : Nat) (spare : Nat → Bool) (held : Bool) (n : Nat) (cs : List Value) (xs : List (DataW H × List MemPlace)), cs.length = L → xs.length = fs.size →
    (∀ (i : Nat) (f : Field), fs[i]? = some f → DataW.trod e P w base spare held n f.type ((cs.drop f.offset).take (P.cellsOf f.type)) = xs[i]?) →
    (∀ (i : Nat) (f : Field) d, fs[i]? = some f → xs[i]? = some d → ∀ n ∈ d.1.weights P f.type, n ≤ reachBytes) → ∃ a : α, cs.drop off = enc a ∧ good w a
theorem opensFromZ_nil {P : Program} {fs : Array Field} {L k off : Nat} (h : L = off) : OpensFromZ P fs L k off (fun _ : Unit => []) (fun _ _ => True) := by
  intro H e w base spare held n cs xs hl _ _ _
  exact ⟨(), by rw [List.drop_eq_nil_of_le (by omega)], trivial⟩
theorem opensFromZ_cons {α β : Type} {P : Program} {fs : Array Field} {L k off : Nat} {f : Field} {enc : α → List Value} {good : World → α → Prop} {enc' : β → List Value} {good' : World → β → Prop} (hf : fs[k]? = some f) (off' : Nat) (ho : f.offset = off) (hn : off + P.cellsOf f.type = off') (h0 : OpensZ P f.type enc good)
    (h1 : OpensFromZ P fs L (k + 1) off' enc' good') : OpensFromZ P fs L k off (fun x : α × β => enc x.1 ++ enc' x.2) (fun w x => good w x.1 ∧ good' w x.2) := by
  intro H e w base spare held n cs xs hl hx h hw
  subst hn
  obtain ⟨b, hb, gb⟩ := h1 H e w base spare held n cs xs hl hx h hw
  have hk : k < xs.length := by
    rw [hx]
    exact (Array.getElem?_eq_some_iff.1 hf).1
  have h2 := h k f hf
  rw [List.getElem?_eq_getElem hk, ho] at h2
  obtain ⟨a, ha, ga⟩ := h0 H e w base spare held n _ _ h2 (hw k f _ hf (List.getElem?_eq_getElem hk))
  refine ⟨(a, b), ?_, ga, gb⟩
  show _ = enc a ++ enc' b
  rw [← ha, ← hb, ← List.drop_drop, List.take_append_drop]
theorem opens_structZ {α : Type} {P : Program} {t : TypeId} {fs : Array Field} {enc : α → List Value} {good : World → α → Prop} (ht : P.underlying t = some (.struct fs)) (h : OpensFromZ P fs (P.cellsOf t) 0 0 enc good) : OpensZ P t enc good := by
  intro H e w base spare held fuel cs x hx hw
  obtain ⟨xs, n, _, hx', hl, hn, hel⟩ := DataW.trod_struct ht hx
  refine h H e w base spare held n cs xs hl hn hel fun i f d hf hd m hm => hw m ?_
  rw [hx']
  simp only [DataW.weights, ht]
  exact DataW.weights_mem_each (j := i) (t := f.type) (d := d.1) (by simp [hf]) (by simp [hd]) m hm
theorem OpensZ.of {α β : Type} {P : Program} {t : TypeId} {enc : α → List Value} {good : World → α → Prop} {enc' : β → List Value} {good' : World → β → Prop} (h : OpensZ P t enc good) (g : α → β) (he : ∀ a, enc a = enc' (g a)) (hg : ∀ w a, good w a → good' w (g a)) : OpensZ P t enc' good' := by
  intro H e w base spare held fuel cs x hx hw
  obtain ⟨a, ha, ga⟩ := h H e w base spare held fuel cs x hx hw
  exact ⟨g a, by rw [ha, he], hg w a ga⟩
theorem weights_mem_all {H : Type} {P : Program} {e : TypeId} : ∀ {ds : List (DataW H)} {d : DataW H}, d ∈ ds → ∀ n ∈ d.weights P e, n ∈ DataW.weightsAll P e ds
  | d0 :: ds, d, hd, n, hn => by
    simp only [DataW.weightsAll, List.mem_append]
    rcases List.mem_cons.1 hd with rfl | hd
    · exact Or.inl hn
    · exact Or.inr (weights_mem_all hd n hn)
/-- A slice of things; how many bytes they take. -/
theorem open_listZ {α : Type} {P : Program} {t e : TypeId} {enc : α → List Value} {good : World → α → Prop} (ht : P.underlying t = some (.slice e)) (ho : OpensZ P e enc good) (hsz : ∀ x, (enc x).length = P.cellsOf e)
    {H : Type} {en : TypeId × Value → H} {w : World} {base : Nat} {spare : Nat → Bool} {held : Bool} {fuel : Nat} {cs : List Value} {x : DataW H × List MemPlace} (h : DataW.trod en P w base spare held fuel t cs = some x) (hw : ∀ n ∈ x.1.weights P t, n ≤ reachBytes) :
    ∃ (a : Option Addr) (l : List α) (c : Nat), cs = [.slice a l.length c] ∧ l.length ≤ c ∧ c ≤ maxLen ∧ (a = none → c = 0) ∧ RdV w a (l.flatMap enc) ∧ (∀ y ∈ l, good w y) ∧ l.length * P.bytesOf e ≤ reachBytes := by
  rcases DataW.trod_slice ht h with ⟨rfl, _⟩ | ⟨a, len, cap, elems, rest, n, _, rfl, hx, _, hle, hcap, hlen, hel, _⟩
  · exact ⟨none, [], 0, rfl, Nat.le_refl _, Nat.zero_le _, fun _ => rfl, RdV.nil, fun y hy => (by cases hy), by simp⟩
  · have hwe : ∀ (d : DataW H × List MemPlace), d ∈ elems → ∀ m ∈ d.1.weights P e, m ≤ reachBytes := by
      intro d hd m hm
      refine hw m ?_
      rw [hx]
      simp only [DataW.weights, ht]
      exact List.mem_cons_of_mem _ (List.mem_append_left _ (weights_mem_all (List.mem_map_of_mem hd) m hm))
    have hb : len * P.bytesOf e ≤ reachBytes := by
      have h1 := hw ((elems.length + rest.length) * P.bytesOf e) (by rw [hx]; simp [DataW.weights, ht])
      rw [hlen] at h1
      exact Nat.le_trans (Nat.mul_le_mul_right _ (Nat.le_add_right _ _)) h1
    have key : ∀ i, i < len → ∃ y : α, good w y ∧ ∀ j u, (enc y)[j]? = some u → w.cell? ((a.add (i * P.cellsOf e)).add j) = some u := by
      intro i hi
      have h1 := hel i hi
      rw [List.getElem?_eq_getElem (by omega)] at h1
      obtain ⟨cs', h2, h3⟩ := Option.bind_eq_some_iff.1 h1
      obtain ⟨y, rfl, hy⟩ := ho H en w base spare held n cs' _ h3 (hwe _ (List.getElem_mem _))
      refine ⟨y, hy, fun j u hj => ?_⟩
      unfold World.cells? at h2
      split at h2
      · have h4 := mapM_some_get h2 j j (by
          have : j < (enc y).length := by
            rcases Nat.lt_or_ge j (enc y).length with h | h
            · exact h
            · simp [List.getElem?_eq_none h] at hj
          rw [hsz y] at this
          simp [this])
        rw [hj] at h4
        exact h4
      · cases h2
    have hall := choose_list (good w) (fun i y => ∀ j u, (enc y)[j]? = some u → w.cell? ((a.add (i * P.cellsOf e)).add j) = some u) len key
    obtain ⟨l, rfl, hg, hr⟩ := hall
    refine ⟨some a, l, cap, rfl, hle, hcap, fun e => (Option.some_ne_none _ e).elim, ?_, hg, hb⟩
    by_cases hz : P.cellsOf e = 0
    · have : l.flatMap enc = [] := by
        apply List.eq_nil_of_length_eq_zero
        rw [flat_len enc (P.cellsOf e) hsz l, hz, Nat.mul_zero]
      rw [this]
      exact RdV.nil
    · intro k u hk
      have hkl : k < l.length * P.cellsOf e := by
        rw [← flat_len enc (P.cellsOf e) hsz l]
        rcases Nat.lt_or_ge k (l.flatMap enc).length with h | h
        · exact h
        · simp [List.getElem?_eq_none h] at hk
      have hi : k / P.cellsOf e < l.length := Nat.div_lt_of_lt_mul (by rw [Nat.mul_comm]; exact hkl)
      have hj : k % P.cellsOf e < P.cellsOf e := Nat.mod_lt _ (Nat.pos_of_ne_zero hz)
      have hk' : k / P.cellsOf e * P.cellsOf e + k % P.cellsOf e = k := by rw [Nat.mul_comm]; exact Nat.div_add_mod k _
      have hget : (enc l[k / P.cellsOf e])[k % P.cellsOf e]? = some u := by
        have h5 : k % P.cellsOf e < (enc l[k / P.cellsOf e]).length := by rw [hsz]; exact hj
        have h6 := flat_get enc (P.cellsOf e) hsz l _ hi _ _ (List.getElem?_eq_getElem h5)
        rw [hk', hk] at h6
        rw [List.getElem?_eq_getElem h5, h6]
      have h7 := hr _ hi _ u hget
      have hspot : a.spot = none := by
        by_cases h8 : a.spot = none
        · exact h8
        · exfalso
          have h0 : 0 < l.length := Nat.lt_of_le_of_lt (Nat.zero_le _) hi
          have h9 : 0 < (enc l[0]).length := by rw [hsz]; omega
          have h10 := hr 0 h0 0 _ (List.getElem?_eq_getElem h9)
          simp only [Nat.zero_mul, Addr.add, if_true] at h10
          have := World.cell?_spot h10
          exact h8 this
      obtain ⟨b, off, sp⟩ := a
      subst hspot
      refine ⟨b, off, rfl, ?_⟩
      rw [Addr.add_lit, Addr.add_lit, Nat.add_assoc, hk'] at h7
      exact h7
def Sl.goodZ {α : Type} (B : Nat) (enc : α → List Value) (good : World → α → Prop) (w : World) (s : Sl α) : Prop :=
  Sl.good enc good w s ∧ s.l.length * B ≤ 140737488355328
theorem opens_slZ {α : Type} {P : Program} {t e : TypeId} {enc : α → List Value} {good : World → α → Prop} (B : Nat) (hB : P.bytesOf e = B) (ht : P.underlying t = some (.slice e)) (ho : OpensZ P e enc good) (hsz : ∀ x, (enc x).length = P.cellsOf e) : OpensZ P t Sl.enc (Sl.goodZ B enc good) := by
  intro H en w base spare held fuel cs x hx hw
  obtain ⟨a, l, c, rfl, h1, h2, h3, h4, h5, h6⟩ := open_listZ ht ho hsz hx hw
  exact ⟨⟨a, l, c⟩, rfl, ⟨h1, h2, h3, h4, h5⟩, by rw [← hB]; exact Nat.le_trans h6 (by decide)⟩
/-- An array of things. -/
theorem opens_arrZ {α : Type} {P : Program} {t e : TypeId} {n : Nat} {enc : α → List Value} {good : World → α → Prop} (ht : P.underlying t = some (.array n e)) (ho : OpensZ P e enc good) (hsz : ∀ x, (enc x).length = P.cellsOf e) (hc : P.cellsOf t = n * P.cellsOf e) :
    OpensZ P t (fun l : List α => l.flatMap enc) (fun w l => l.length = n ∧ ∀ y ∈ l, good w y) := by
  intro H en w base spare held fuel cs x hx hw
  obtain ⟨xs, m, _, hx', hl, hn, hel⟩ := DataW.trod_array ht hx
  have key : ∀ i, i < n → ∃ y : α, good w y ∧ (cs.drop (i * P.cellsOf e)).take (P.cellsOf e) = enc y := by
    intro i hi
    have h1 := hel i hi
    rw [List.getElem?_eq_getElem (by omega)] at h1
    obtain ⟨y, hy, gy⟩ := ho H en w base spare held m _ _ h1 (fun k hk => hw k (by
      rw [hx']
      simp only [DataW.weights, ht]
      exact weights_mem_all (List.mem_map_of_mem (List.getElem_mem _)) k hk))
    exact ⟨y, gy, hy⟩
  obtain ⟨l, hll, hg, hr⟩ := choose_list (good w) (fun i y => (cs.drop (i * P.cellsOf e)).take (P.cellsOf e) = enc y) n key
  refine ⟨l, ?_, hll, hg⟩
  have go : ∀ (l : List α) (cs : List Value), cs.length = l.length * P.cellsOf e → (∀ i (hi : i < l.length), (cs.drop (i * P.cellsOf e)).take (P.cellsOf e) = enc l[i]) → cs = l.flatMap enc := by
    intro l
    induction l with
    | nil => intro cs h _; exact List.eq_nil_of_length_eq_zero (by simpa using h)
    | cons y l ih =>
      intro cs h h2
      have h0 := h2 0 (by simp)
      simp only [Nat.zero_mul, List.drop_zero, List.getElem_cons_zero] at h0
      rw [List.flatMap_cons, ← h0, ← ih (cs.drop (P.cellsOf e)) (by rw [List.length_drop, h, List.length_cons, Nat.add_mul]; omega) (fun i hi => by
        have := h2 (i + 1) (by simpa using hi)
        rw [List.drop_drop, show P.cellsOf e + i * P.cellsOf e = (i + 1) * P.cellsOf e from by rw [Nat.add_mul]; omega]
        simpa using this)]
      exact (List.take_append_drop _ _).symm
  exact go l cs (by rw [hl, hc, hll]) hr
end Pw
