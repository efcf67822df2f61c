/- A map from whole numbers to truth values that the call made. -/
import Derived.Test.YtohbfjbcfibhcaaFrame19
import Derived.Maps.Own
import Derived.Maps.Views
namespace Go.Proofs.Ytohbfjbcfibhcaa
open Go.RowKit Go.Maps Pw
set_option linter.unusedSimpArgs false
set_option linter.unusedVariables false

theorem wpList_insert_own {H : Type} {P : Program} (w : World) {ops : Array Oper} {rest : List Oper} {o : Oper} {a : Act} {Q : Exit → Act → World → Prop}
    (hg : o.guard = none) (m x v : Operand) (t : TypeId) (hop : o.op = Op.insert t m x v)
    (k e : TypeId) (K : Keyed P k) (ht : P.underlying t = some (.map k e)) (R : Value → Option (DataW H × List MemPlace)) (b n : Nat) (D : DataW H)
    (hm : a.eval m = .map (some b)) (hown : w.ownsMap P k R b n D) (hn : n < maxLen) (key val : Value) (kl : Lit) (hx : a.eval x = key) (hv : a.eval v = val) (hkey : keyOf P k key = some kl)
    (d : DataW H) (ps : List MemPlace) (hval : R val = some (d, ps))
    (hK : ∀ w', w'.ownsMap P k R b (n + 1) (D.put kl d) → w.grownBy w' (some b) → wpList P ops Q rest (a.put o.dst undef) w') :
    wpList P ops Q (o :: rest) a w := by
  refine wpList_plain hg fun K' hK' => ?_
  obtain ⟨w', hrun, r1, r2⟩ := hown.update K ht hn hkey hval
  unfold Oper.wp
  simp [execOp, hop, hm, hx, hv, hrun, Result.andThen]
  exact hK' _ _ (hK w' r1 r2)
theorem owns_below {H : Type} {P : Program} {w w' : World} {k : TypeId} {R : Value → Option (DataW H × List MemPlace)} {b n : Nat} {D : DataW H} (h : w.ownsMap P k R b n D) (hb : Below w.heap.size w w') : w'.ownsMap P k R b n D := by
  have hl := h.lt
  obtain ⟨es, clock, h1, r⟩ := h
  exact ⟨es, clock, (hb.block b hl).trans h1, r⟩
theorem int_key : Keyed Try.prog 3 := int_keyed Try.underlying3
theorem bool_zero (w : World) : (zeroValue 4).run Try.prog w = .ok (.bool false) w := by kernel_rfl
set_option maxRecDepth 100000 in
theorem plainElem_bool_inv {H : Type} {v : Value} {x : Bool} {ps : List MemPlace} (h : plainElem (H := H) Try.prog 4 v = some (.lit (.bool x), ps)) : v = .bool x := by
  unfold plainElem at h
  rw [Try.underlying4] at h
  split at h <;> simp_all
/-- What the map has. -/
structure Had (D : DataW Unit) (f : Int → Bool) : Prop where
  is : IsMap D
  at_ : ∀ j : Int, D.atKey (.int .i64 j) (.lit (.bool false)) = .lit (.bool (f j))
theorem Had.empty : Had (.map []) (fun _ => false) := ⟨isMap_empty, fun j => rfl⟩
theorem Had.put {D : DataW Unit} {f : Int → Bool} (h : Had D f) (k : Int) : Had (D.put (.int .i64 k) (.lit (.bool true))) (fun j => f j || decide (j = k)) := by
  refine ⟨h.is.put _ _, fun j => ?_⟩
  by_cases e : j = k
  · subst e
    rw [atKey_put_same h.is (by trivial)]
    simp
  · rw [atKey_put_other (by intro e2; exact e (by cases e2; rfl)), h.at_ j]
    simp [e]
theorem had_look {w : World} {b n : Nat} {D : DataW Unit} {f : Int → Bool} (h : w.ownsMap Try.prog 3 (plainElem Try.prog 4) b n D) (hf : Had D f) (j : Nat) (hj : j < 1000) : (Instr.lookup 80 (.map (some b)) (.int .i64 j) false).run Try.prog w = .ok (.bool (f j)) w := by
  obtain ⟨v, ps, h1, h2⟩ := h.lookup int_key Try.underlying80 (bool_zero w) (plainElem_bool Try.underlying4 false) (keyOf_int_mk Try.underlying3 (a := (j : Int)) (WalkArith.wf_i64 (by omega)))
  rw [hf.at_ j] at h2
  rw [plainElem_bool_inv h2] at h1
  exact h1

/-- Where the hand was. -/
def visM (U : List Fr) (H k p : Nat) (j : Int) : Bool := decide (j = k) || (List.range p).any (fun t => decide (0 < ((turned U H).getD t fr0).r) && decide (j = ((H + t) % U.length : Nat)))
theorem vis_step (U : List Fr) (H k p : Nat) (j : Int) : visM U H k (p + 1) j = (visM U H k p j || (decide (0 < ((turned U H).getD p fr0).r) && decide (j = ((H + p) % U.length : Nat)))) := by
  unfold visM
  rw [List.range_succ, List.any_append, ← Bool.or_assoc]
  simp only [List.any_cons, List.any_nil, Bool.or_false]
theorem vis_next {U : List Fr} {H k p t : Nat} (hpt : p ≤ t) (ht : t < U.length) (hH : H < U.length) (hr : 0 < ((turned U H)[t]'(by rw [turned_len U (by omega)]; exact ht)).r) (hno : ∀ q (hq : q < U.length), p ≤ q → q < t → ¬ 0 < ((turned U H)[q]'(by rw [turned_len U (by omega)]; exact hq)).r) (j : Int) :
    visM U H k (t + 1) j = (visM U H k p j || decide (j = ((H + t) % U.length : Nat))) := by
  have hget : ∀ q (hq : q < U.length), (turned U H).getD q fr0 = (turned U H)[q]'(by rw [turned_len U (by omega)]; exact hq) := fun q hq => by
    rw [List.getD_eq_getElem?_getD, List.getElem?_eq_getElem (by rw [turned_len U (by omega)]; exact hq)]
    rfl
  have key : ∀ d, d ≤ t - p → visM U H k (p + d) j = visM U H k p j := by
    intro d
    induction d with
    | zero => intro _; rfl
    | succ d ih =>
      intro hd
      rw [← Nat.add_assoc, vis_step, ih (by omega), hget (p + d) (by omega), decide_eq_false (hno (p + d) (by omega) (by omega) (by omega)), Bool.false_and, Bool.or_false]
  have h1 := key (t - p) (Nat.le_refl _)
  rw [show p + (t - p) = t from by omega] at h1
  rw [vis_step, h1, hget t ht, decide_eq_true hr, Bool.true_and]
theorem vis_not {U : List Fr} {H k p t : Nat} (hpt : p ≤ t) (ht : t < U.length - 1) (hk : k < U.length) (hH : H = (k + 1) % U.length) : visM U H k p ((H + t) % U.length : Nat) = false := by
  have inj : ∀ x y, x < U.length → y < U.length → (H + x) % U.length = (H + y) % U.length → x = y := by
    intro x y hx hy he
    have hHl : H < U.length := by rw [hH]; exact Nat.mod_lt _ (by omega)
    rcases Nat.lt_or_ge (H + x) U.length with h1 | h1 <;> rcases Nat.lt_or_ge (H + y) U.length with h2 | h2
    · rw [Nat.mod_eq_of_lt h1, Nat.mod_eq_of_lt h2] at he; omega
    · rw [Nat.mod_eq_of_lt h1, Nat.mod_eq_sub_mod h2, Nat.mod_eq_of_lt (by omega)] at he; omega
    · rw [Nat.mod_eq_sub_mod h1, Nat.mod_eq_of_lt (by omega), Nat.mod_eq_of_lt h2] at he; omega
    · rw [Nat.mod_eq_sub_mod h1, Nat.mod_eq_of_lt (by omega), Nat.mod_eq_sub_mod h2, Nat.mod_eq_of_lt (by omega)] at he; omega
  have hlast : (H + (U.length - 1)) % U.length = k := by
    rw [hH]
    rcases Nat.lt_or_ge (k + 1) U.length with h1 | h1
    · rw [Nat.mod_eq_of_lt h1, show k + 1 + (U.length - 1) = k + U.length from by omega, Nat.add_mod_right, Nat.mod_eq_of_lt hk]
    · have : k + 1 = U.length := by omega
      rw [this, Nat.mod_self, Nat.zero_add, Nat.mod_eq_of_lt (by omega)]
      omega
  unfold visM
  rw [Bool.or_eq_false_iff]
  constructor
  · rw [decide_eq_false_iff_not]
    intro e
    have e2 : (H + t) % U.length = (H + (U.length - 1)) % U.length := by rw [hlast]; omega
    have := inj _ _ (by omega) (by omega) e2
    omega
  · rw [List.any_eq_false]
    intro q hq
    rw [List.mem_range] at hq
    have : ¬ ((((H + t) % U.length : Nat) : Int) = ((H + q) % U.length : Nat)) := by
      intro e
      have := inj t q (by omega) (by omega) (by omega)
      omega
    rw [Bool.and_eq_true]
    rintro ⟨_, h⟩
    exact this (of_decide_eq_true h)
theorem unused_ok {f : Fr} (h : frameE f = 0) : frameE (unused f) = 0 := by
  rw [frameE_iff] at h ⊢
  obtain ⟨h1, h2, h3⟩ := h
  exact ⟨h1, fun e => ⟨rfl, (h2 e).2.1, (h2 e).2.2.1, (h2 e).2.2.2⟩, h3⟩
theorem Calm.of {m : Mem} (hw : wrongM m = 0) : Calm (m.fs.map unused) := by
  obtain ⟨h1, h2, _, _⟩ := (wrongM_iff m).1 hw
  refine ⟨by simpa using h1, fun f hf => ?_, fun f hf => ?_⟩
  · obtain ⟨g, hg, rfl⟩ := List.mem_map.1 hf
    exact unused_ok (h2 g hg)
  · obtain ⟨g, hg, rfl⟩ := List.mem_map.1 hf
    rfl
theorem held_unused (l : List Fr) : heldC (l.map unused) = heldC l := by
  unfold heldC
  rw [List.filter_map, List.length_map]
  rfl
theorem held_last {U : List Fr} {k n : Nat} (hn : U.length = n) (hk : k < n) (hr : 0 < (U[k]'(by omega)).r) : 0 < ((turned U ((k + 1) % n))[n - 1]'(by rw [turned_len U (by have := Nat.mod_lt (k + 1) (show 0 < n by omega); omega)]; omega)).r := by
  subst hn
  have hH : (k + 1) % U.length < U.length := Nat.mod_lt _ (by omega)
  rw [turned_at U hH (U.length - 1) (by omega)]
  have : ((k + 1) % U.length + (U.length - 1)) % U.length = k := by
    rcases Nat.lt_or_ge (k + 1) U.length with h1 | h1
    · rw [Nat.mod_eq_of_lt h1, show k + 1 + (U.length - 1) = k + U.length from by omega, Nat.add_mod_right, Nat.mod_eq_of_lt hk]
    · have h2 : k + 1 = U.length := by omega
      rw [h2, Nat.mod_self, Nat.zero_add, Nat.mod_eq_of_lt (by omega)]
      omega
  simp only [this]
  exact hr
theorem mrd_map {w w' : World} {a : Option Addr} {c : Nat} {m : Mem} (h : MRd w a c m) {k : TypeId} {R : Value → Option (DataW Unit × List MemPlace)} {b n : Nat} {D : DataW Unit} (hm : w.ownsMap Try.prog k R b n D) (hgr : w.grownBy w' (some b)) : MRd w' a c m := by
  refine { h with rd := fun i u hi => ?_ }
  obtain ⟨b', off, ha, hc⟩ := h.rd i u hi
  refine ⟨b', off, ha, hgr.cell hc ?_⟩
  intro e
  cases e
  obtain ⟨es, clock, hb, _⟩ := hm
  simp [World.cell?, hb] at hc
theorem had_first (k : Nat) (U : List Fr) (H : Nat) : Had ((DataW.map []).put (.int .i64 k) (.lit (.bool true))) (visM U H k 0) := by
  have h := Had.empty.put k
  refine ⟨h.is, fun j => ?_⟩
  rw [h.at_ j]
  simp [visM]
end Go.Proofs.Ytohbfjbcfibhcaa
