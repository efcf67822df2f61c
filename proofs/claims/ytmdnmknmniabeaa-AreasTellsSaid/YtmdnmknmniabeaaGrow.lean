/- A rule for a region that draws its order of evaluation, in which memory only grows: each operation is run once, whatever the order. No program in sight. -/
import Derived.Orders
import Derived.WalkKit
import Derived.Test.YtmdnmknmniabeaaRep
namespace Pw
open Go Go.RowKit
set_option linter.unusedSimpArgs false
set_option linter.unusedVariables false

/-- What the operation gives: a value, behind which F holds. -/
def Gives (P : Program) (o : Oper) (a : Act) (w : World) (F : Value → World → Prop) : Prop :=
  match (execOp a.eval o).run P w with
  | .ok (.value v) w' => F v w'
  | .ok .skip w' => F undef w'
  | .ok (.enter f args) w' => Calls P f args w' fun | .returned v, w'' => F v w'' | _, _ => False
  | _ => False

/-- The frame in which those operations that L tells have written. -/
def lay (L : Nat → Bool) (y : Nat → Value) : List Oper → Nat → Array Value → Array Value
  | [], _, t => t
  | o :: r, i, t => lay L y r (i + 1) (match o.dst with | some d => if L i then t.setIfInBounds d (y i) else t | none => t)

theorem lay_size (L : Nat → Bool) (y : Nat → Value) : ∀ (l : List Oper) (i : Nat) (t : Array Value), (lay L y l i t).size = t.size
  | [], _, _ => rfl
  | o :: r, i, t => by
    simp only [lay]
    rw [lay_size L y r]
    cases o.dst with
    | none => rfl
    | some d => simp only []; split <;> simp
theorem lay_none (L : Nat → Bool) (y : Nat → Value) (s : Nat) : ∀ (l : List Oper) (i : Nat) (t : Array Value), (∀ k o, l[k]? = some o → o.dst = some s → L (i + k) = false) → (lay L y l i t)[s]? = t[s]?
  | [], _, _, _ => rfl
  | o :: r, i, t, h => by
    simp only [lay]
    rw [lay_none L y s r (i + 1) _ (fun k o' hk hd => by have := h (k + 1) o' (by simpa using hk) hd; rwa [show i + (k + 1) = i + 1 + k by omega] at this)]
    cases hd : o.dst with
    | none => rfl
    | some d =>
      simp only []
      split
      · rename_i hL
        have hne : d ≠ s := by
          intro e
          subst e
          have := h 0 o (by simp) hd
          simp [hL] at this
        rw [Array.getElem?_setIfInBounds_ne hne]
      · rfl
theorem lay_some (L : Nat → Bool) (y : Nat → Value) (s : Nat) : ∀ (l : List Oper) (i : Nat) (t : Array Value) (k : Nat) (o : Oper), l[k]? = some o → o.dst = some s → L (i + k) = true →
    (∀ k' o', l[k']? = some o' → o'.dst = some s → k' = k) → s < t.size → (lay L y l i t)[s]? = some (y (i + k))
  | [], _, _, _, _, h, _, _, _, _ => by simp at h
  | o0 :: r, i, t, 0, o, hk, hd, hL, hu, hs => by
    simp at hk
    subst hk
    simp only [lay, hd]
    rw [lay_none L y s r (i + 1) _ (fun k o' hk' hd' => by have := hu (k + 1) o' (by simpa using hk') hd'; omega)]
    rw [Nat.add_zero] at hL
    simp [hL, hs]
  | o0 :: r, i, t, k + 1, o, hk, hd, hL, hu, hs => by
    simp only [lay]
    have := lay_some L y s r (i + 1) (match o0.dst with | some d => if L i then t.setIfInBounds d (y i) else t | none => t) k o (by simpa using hk) hd (by rwa [show i + 1 + k = i + (k + 1) by omega])
      (fun k' o' hk' hd' => by have := hu (k' + 1) o' (by simpa using hk') hd'; omega)
      (by cases o0.dst with
          | none => exact hs
          | some d => simp only []; split <;> simpa using hs)
    rw [this]
    congr 2
    omega

theorem lay_congr (L L' : Nat → Bool) (y : Nat → Value) : ∀ (l : List Oper) (i : Nat) (t : Array Value), (∀ k, k < l.length → L (i + k) = L' (i + k)) → lay L y l i t = lay L' y l i t
  | [], _, _, _ => rfl
  | o :: r, i, t, h => by
    simp only [lay]
    have h0 : L i = L' i := by simpa using h 0 (by simp)
    rw [h0]
    exact lay_congr L L' y r (i + 1) _ fun k hk => by have := h (k + 1) (by simp; omega); rwa [show i + (k + 1) = i + 1 + k by omega] at this

/-- The look at a region by which the rule is allowed: no two operations write one slot; what is looked at is written ahead of it; nothing departs. -/
def growOk (ops : Array Oper) : Bool :=
  (List.range ops.size).all fun i => match ops[i]? with
    | none => true
    | some o =>
      (match o.op with | .select .. => false | _ => true) &&
      o.after.toList.all (fun e => Region.binds .any e && decide (e.on < i)) &&
      (List.range ops.size).all fun j => match ops[j]? with
        | none => true
        | some p => match p.dst with
          | none => true
          | some d => (decide (i = j) || o.dst != some d) && (!(o.looksAt ops).contains d || o.after.toList.any (fun e => decide (e.on = j)))

theorem growOk_at {ops : Array Oper} (h : growOk ops = true) {i : Nat} {o : Oper} (hi : ops[i]? = some o) :
    (∀ cs b, o.op ≠ .select cs b) ∧ (∀ e ∈ o.after, Region.binds .any e = true ∧ e.on < i) ∧
    ∀ j p d, ops[j]? = some p → p.dst = some d → (i = j ∨ o.dst ≠ some d) ∧ (d ∈ o.looksAt ops → ∃ e ∈ o.after, e.on = j) := by
  have hlt : i < ops.size := (Array.getElem?_eq_some_iff.1 hi).1
  have h1 := List.all_eq_true.1 h i (List.mem_range.2 hlt)
  simp only [hi, Bool.and_eq_true] at h1
  obtain ⟨⟨h2, h3⟩, h4⟩ := h1
  refine ⟨?_, ?_, ?_⟩
  · intro cs b e
    simp [e] at h2
  · intro e he
    have := List.all_eq_true.1 h3 e (Array.mem_toList_iff.2 he)
    simpa using this
  · intro j p d hj hd
    have hjl : j < ops.size := (Array.getElem?_eq_some_iff.1 hj).1
    have h5 := List.all_eq_true.1 h4 j (List.mem_range.2 hjl)
    simp only [hj, hd, Bool.and_eq_true, Bool.or_eq_true, decide_eq_true_eq, bne_iff_ne, ne_eq, Bool.not_eq_true', List.any_eq_true] at h5
    refine ⟨h5.1, fun hmem => ?_⟩
    rcases h5.2 with h6 | ⟨e, he, h6⟩
    · have h7 : (o.looksAt ops).contains d = true := List.contains_iff_mem.2 hmem
      rw [h7] at h6; cases h6
    · exact ⟨e, Array.mem_toList_iff.1 he, h6⟩

/-- The state in the midst of a region: those listed have been carried out. -/
def Amid (ops : Array Oper) (m : Nat) (R : Nat → Value → World → Prop) (a0 : Act) (w0 : World) (listed : Array Bool) (a : Act) (w : World) : Prop :=
  (∀ i, m ≤ i → listed.getD i false = false) ∧ ∃ y : Nat → Value, a = { a0 with tmps := lay (fun i => listed.getD i false) y ops.toList 0 a0.tmps } ∧ Below w0.heap.size w0 w ∧ ∀ i, i < ops.size → listed.getD i false = true → R i (y i) w

theorem evals_lay {ops : Array Oper} (hok : growOk ops = true) {a0 : Act} {L : Nat → Bool} {y : Nat → Value} {i : Nat} {o : Oper} (hi : ops[i]? = some o) (hL : ∀ e ∈ o.after, L e.on = true) (t : Nat) (ht : t ∈ o.looksAt ops) :
    (lay L y ops.toList 0 a0.tmps)[t]? = (lay (fun _ => true) y ops.toList 0 a0.tmps)[t]? := by
  obtain ⟨_, _, hw⟩ := growOk_at hok hi
  by_cases hsz : t < a0.tmps.size
  · by_cases hex : ∃ (j : Nat) (p : Oper), ops[j]? = some p ∧ p.dst = some t
    · obtain ⟨j, p, hj, hd⟩ := hex
      obtain ⟨e, he, hej⟩ := (hw j p t hj hd).2 ht
      have hu : ∀ k' o', ops.toList[k']? = some o' → o'.dst = some t → k' = j := by
        intro k' o' hk' hd'
        have := (growOk_at hok (i := k') (o := o') (by simpa using hk')).2.2 j p t hj hd
        rcases this.1 with h | h
        · exact h
        · exact absurd hd' h
      rw [lay_some L y t _ 0 _ j p (by simpa using hj) hd (by rw [Nat.zero_add, ← hej]; exact hL e he) hu hsz,
        lay_some (fun _ => true) y t _ 0 _ j p (by simpa using hj) hd rfl hu hsz]
    · rw [lay_none L y t _ 0 _ (fun k o' hk hd => absurd ⟨k, o', by simpa using hk, hd⟩ hex), lay_none (fun _ => true) y t _ 0 _ (fun k o' hk hd => absurd ⟨k, o', by simpa using hk, hd⟩ hex)]
  · rw [Array.getElem?_eq_none (by rw [lay_size]; omega), Array.getElem?_eq_none (by rw [lay_size]; omega)]

theorem lay_put {ops : Array Oper} (hok : growOk ops = true) {a0 : Act} {listed : Array Bool} {y : Nat → Value} {i : Nat} {o : Oper} (hi : ops[i]? = some o) (hsz : listed.size = ops.size) (v : Value) :
    ({ a0 with tmps := lay (fun i => listed.getD i false) y ops.toList 0 a0.tmps } : Act).put o.dst v =
      { a0 with tmps := lay (fun k => (listed.setIfInBounds i true).getD k false) (fun k => if k = i then v else y k) ops.toList 0 a0.tmps } := by
  have hlt : i < ops.size := (Array.getElem?_eq_some_iff.1 hi).1
  have hLi : (listed.setIfInBounds i true).getD i false = true := by simp [Array.getD_eq_getD_getElem?, show i < listed.size by omega]
  have hLk : ∀ k, k ≠ i → (listed.setIfInBounds i true).getD k false = listed.getD k false := fun k hk => by
    simp [Array.getD_eq_getD_getElem?, Array.getElem?_setIfInBounds_ne (Ne.symm hk)]
  have key : (({ a0 with tmps := lay (fun i => listed.getD i false) y ops.toList 0 a0.tmps } : Act).put o.dst v).tmps = lay (fun k => (listed.setIfInBounds i true).getD k false) (fun k => if k = i then v else y k) ops.toList 0 a0.tmps := by
    apply Array.ext_getElem?
    intro s
    by_cases hs : s < a0.tmps.size
    · by_cases hex : ∃ (j : Nat) (p : Oper), ops[j]? = some p ∧ p.dst = some s
      · obtain ⟨j, p, hj, hd⟩ := hex
        have hu : ∀ k' o', ops.toList[k']? = some o' → o'.dst = some s → k' = j := by
          intro k' o' hk' hd'
          rcases ((growOk_at hok (i := k') (o := o') (by simpa using hk')).2.2 j p s hj hd).1 with h | h
          · exact h
          · exact absurd hd' h
        by_cases hji : j = i
        · subst hji
          obtain rfl : o = p := by rw [hi] at hj; exact Option.some.inj hj
          rw [lay_some (fun k => (listed.setIfInBounds j true).getD k false) _ s _ 0 _ j o (by simpa using hi) hd (by simpa using hLi) hu hs]
          simp only [Act.put, hd, Nat.zero_add, if_true]
          rw [Array.getElem?_setIfInBounds_self_of_lt (by rw [lay_size]; exact hs)]
        · have hod : o.dst ≠ some s := fun e => hji ((hu i o (by simpa using hi) e).symm)
          have e1 : (({ a0 with tmps := lay (fun i => listed.getD i false) y ops.toList 0 a0.tmps } : Act).put o.dst v).tmps[s]? = (lay (fun i => listed.getD i false) y ops.toList 0 a0.tmps)[s]? := by
            cases ho : o.dst with
            | none => rfl
            | some d =>
              have : d ≠ s := fun e => hod (by rw [ho, e])
              simp only [Act.put]
              rw [Array.getElem?_setIfInBounds_ne this]
          rw [e1]
          cases hLj : listed.getD j false with
          | true =>
            rw [lay_some (fun i => listed.getD i false) y s _ 0 _ j p (by simpa using hj) hd (by simpa using hLj) hu hs,
              lay_some (fun k => (listed.setIfInBounds i true).getD k false) _ s _ 0 _ j p (by simpa using hj) hd (by rw [Nat.zero_add, hLk j hji]; exact hLj) hu hs]
            simp [hji]
          | false =>
            rw [lay_none (fun i => listed.getD i false) y s _ 0 _ (fun k o' hk hd' => by rw [Nat.zero_add, hu k o' hk hd']; exact hLj),
              lay_none (fun k => (listed.setIfInBounds i true).getD k false) _ s _ 0 _ (fun k o' hk hd' => by rw [Nat.zero_add, hu k o' hk hd', hLk j hji]; exact hLj)]
      · have hod : o.dst ≠ some s := fun e => hex ⟨i, o, hi, e⟩
        have e1 : (({ a0 with tmps := lay (fun i => listed.getD i false) y ops.toList 0 a0.tmps } : Act).put o.dst v).tmps[s]? = (lay (fun i => listed.getD i false) y ops.toList 0 a0.tmps)[s]? := by
          cases ho : o.dst with
          | none => rfl
          | some d =>
            have : d ≠ s := fun e => hod (by rw [ho, e])
            simp only [Act.put]
            rw [Array.getElem?_setIfInBounds_ne this]
        rw [e1, lay_none _ y s _ 0 _ (fun k o' hk hd => absurd ⟨k, o', by simpa using hk, hd⟩ hex), lay_none _ _ s _ 0 _ (fun k o' hk hd => absurd ⟨k, o', by simpa using hk, hd⟩ hex)]
    · have e1 : (({ a0 with tmps := lay (fun i => listed.getD i false) y ops.toList 0 a0.tmps } : Act).put o.dst v).tmps.size = a0.tmps.size := by
        cases o.dst with
        | none => exact lay_size _ _ _ _ _
        | some d => simp [Act.put, lay_size]
      rw [Array.getElem?_eq_none (by rw [e1]; omega), Array.getElem?_eq_none (by rw [lay_size]; omega)]
  cases hdst : o.dst with
  | none => rw [hdst] at key; simp only [Act.put] at key ⊢; rw [key]
  | some d => rw [hdst] at key; simp only [Act.put] at key ⊢; rw [key]

theorem gives_wpOp {P : Program} {ops : Array Oper} {Q : Exit → Act → World → Prop} {i : Nat} {o : Oper} {a b : Act} {w : World} {F : Value → World → Prop} {K : Act → World → Prop} (hi : ops[i]? = some o)
    (hwant : Region.wanted o (yielded ops a.tmps) = true) (hexec : execOp a.eval o = execOp b.eval o) (h : Gives P o b w F) (hK : ∀ v w', F v w' → K (a.put o.dst v) w') : wpOp P ops Q i K a w := by
  unfold wpOp
  simp only [hi, hwant, if_true]
  refine .inl ?_
  unfold Oper.wp
  rw [hexec]
  unfold Gives at h
  generalize (execOp b.eval o).run P w = r at h ⊢
  cases r with
  | ok n w' =>
    cases n with
    | value v => exact hK _ _ h
    | skip => exact hK _ _ h
    | enter f args =>
      refine Calls.mono h fun e w'' he => ?_
      cases e with
      | returned v => exact hK _ _ he
      | panicked c => exact he.elim
      | outgrown => exact he.elim
    | _ => exact h.elim
  | halt x w' => exact h.elim

/-- From operation m on each one comes behind all that stand ahead of it. -/
def tailOk (ops : Array Oper) (m : Nat) : Bool :=
  (List.range ops.size).all fun i => decide (i < m) || match ops[i]? with
    | none => true
    | some o => (List.range i).all fun j => o.after.toList.any fun e => decide (e.on = j)
theorem tailOk_at {ops : Array Oper} {m : Nat} (h : tailOk ops m = true) {i : Nat} {o : Oper} (hi : ops[i]? = some o) (hm : m ≤ i) (j : Nat) (hj : j < i) : ∃ e ∈ o.after, e.on = j := by
  have hlt : i < ops.size := (Array.getElem?_eq_some_iff.1 hi).1
  have h1 := List.all_eq_true.1 h i (List.mem_range.2 hlt)
  simp only [hi, Bool.or_eq_true, decide_eq_true_eq] at h1
  rcases h1 with h1 | h1
  · omega
  · have h2 := List.all_eq_true.1 h1 j (List.mem_range.2 hj)
    obtain ⟨e, he, hej⟩ := List.any_eq_true.1 h2
    exact ⟨e, Array.mem_toList_iff.1 he, by simpa using hej⟩

theorem tail_any {P : Program} {ops : Array Oper} {Q : Exit → Act → World → Prop} {m : Nat} (hok : growOk ops = true) (ht : tailOk ops m = true) : ∀ (fuel k : Nat) (listed : Array Bool) (a : Act) (w : World),
    m ≤ k → k ≤ ops.size → ops.size - k ≤ fuel → listed.size = ops.size → (∀ i, i < ops.size → listed.getD i false = decide (i < k)) → wpList P ops Q (ops.toList.drop k) a w → wpAny P .any ops Q fuel listed a w := by
  intro fuel
  induction fuel with
  | zero =>
    intro k listed a w hmk hk hf hsz hL h
    obtain rfl : k = ops.size := by omega
    refine ⟨?_, ?_⟩
    · rw [List.eq_nil_iff_forall_not_mem]
      intro i hi
      obtain ⟨h1, o, ho, _⟩ := mem_ready.1 hi
      have hlt : i < ops.size := (Array.getElem?_eq_some_iff.1 ho).1
      have := hL i hlt
      simp [Array.getD_eq_getD_getElem?, show i < listed.size by omega] at h1 this
      rw [h1] at this
      simp [hlt] at this
    · rw [List.drop_eq_nil_of_le (by simp)] at h
      simpa [wpList] using h
  | succ fuel ih =>
    intro k listed a w hmk hk hf hsz hL h
    have only : ∀ i ∈ Region.ready .any ops listed, i = k := by
      intro i hi
      obtain ⟨h1, o, ho, hdeps⟩ := mem_ready.1 hi
      have hlt : i < ops.size := (Array.getElem?_eq_some_iff.1 ho).1
      have h2 := hL i hlt
      have h3 : listed.getD i false = false := by
        simp [Array.getD_eq_getD_getElem?, show i < listed.size by omega] at h1 ⊢
        exact h1
      rw [h3] at h2
      have hki : k ≤ i := by
        have := h2.symm
        simpa using this
      rcases Nat.lt_or_ge k i with hlt' | hge
      · exfalso
        obtain ⟨e, he, hej⟩ := tailOk_at ht ho (by omega) k hlt'
        have hb := (growOk_at hok ho).2.1 e he
        have h4 := hdeps e he hb.1
        rw [hej] at h4
        have h5 := hL k (by omega)
        rw [h4] at h5
        simp at h5
      · omega
    refine ⟨fun hready => ?_, fun i hi => ?_⟩
    · rcases Nat.lt_or_ge k ops.size with hlt | hge
      · exfalso
        have : k ∈ Region.ready .any ops listed := by
          rw [mem_ready]
          refine ⟨?_, ops[k], by simp [hlt], fun e he hb => ?_⟩
          · have := hL k hlt
            simp [Array.getD_eq_getD_getElem?, show k < listed.size by omega] at this ⊢
            exact this
          · have h6 := (growOk_at hok (i := k) (o := ops[k]) (by simp [hlt])).2.1 e he
            rw [hL e.on (by omega)]
            simp [h6.2]
        rw [hready] at this
        cases this
      · rw [List.drop_eq_nil_of_le (by simpa using hge)] at h
        simpa [wpList] using h
    · obtain rfl := only i hi
      obtain ⟨_, o, ho, _⟩ := mem_ready.1 hi
      have hlt : i < ops.size := (Array.getElem?_eq_some_iff.1 ho).1
      have hdrop : ops.toList.drop i = o :: ops.toList.drop (i + 1) := by
        rw [List.drop_eq_getElem_cons (by simpa using hlt)]
        congr 1
        have := (Array.getElem?_eq_some_iff.1 ho).2
        simpa using this
      rw [hdrop] at h
      have hw : wpOp P ops Q i (wpList P ops Q (ops.toList.drop (i + 1))) a w := by
        unfold wpOp
        simp only [ho]
        simpa [wpList] using h
      refine wpOp_mono (fun a' w' h' => ih (i + 1) _ a' w' (by omega) (by omega) (by omega) (by simp [hsz]) (fun j hj => ?_) h') hw
      by_cases hji : j = i
      · subst hji
        simp [Array.getD_eq_getD_getElem?, show j < listed.size by omega]
      · have := hL j hj
        simp only [Array.getD_eq_getD_getElem?, Array.getElem?_setIfInBounds_ne (Ne.symm hji)] at this ⊢
        rw [this]
        congr 1
        simp
        omega

/-- THE RULE. 'R i v w': what is known of the value v of operation i, in the world w, and in each that has grown out of it. The operations from m on stand in one forced order behind all others: they are walked as any list. -/
theorem wp_region_grow {P : Program} {ops : Array Oper} {Q : Exit → Act → World → Prop} {id : Nat} {a0 : Act} {w0 : World} (m : Nat) (hm : P.follows .mixedOrders = true) (hok : growOk ops = true) (ht : tailOk ops m = true) (hmn : m ≤ ops.size)
    (R : Nat → Value → World → Prop) (hstab : ∀ i v w w', Below w.heap.size w w' → R i v w → R i v w')
    (hstep : ∀ i o, i < m → ops[i]? = some o → ∀ y w, Below w0.heap.size w0 w → (∀ j, o.after.toList.any (fun e => e.on == j) = true → R j (y j) w) →
      if Region.wanted o (yielded ops (lay (fun _ => true) y ops.toList 0 a0.tmps)) = true then Gives P o { a0 with tmps := lay (fun _ => true) y ops.toList 0 a0.tmps } w (fun v w' => Below w.heap.size w w' ∧ R i v w') else R i undef w)
    (hend : ∀ y w, Below w0.heap.size w0 w → (∀ i, i < m → R i (y i) w) → wpList P ops Q (ops.toList.drop m) { a0 with tmps := lay (fun i => decide (i < m)) y ops.toList 0 a0.tmps } w) :
    (Code.region id ops true).wp P Q a0 w0 := by
  have hall : ∀ (fuel : Nat) (listed : Array Bool) (a : Act) (w : World), listed.size = ops.size → listed.toList.countP (!·) ≤ fuel → Amid ops m R a0 w0 listed a w → wpAny P .any ops Q fuel listed a w := by
    intro fuel
    induction fuel with
    | zero =>
      intro listed a w hsz hc hA
      have hl : ∀ i, i < ops.size → listed.getD i false = true := by
        intro i hlt
        have h0 : listed.toList.countP (!·) = 0 := by omega
        have := List.countP_eq_zero.1 h0 (listed[i]'(by omega)) (by simp)
        simpa [Array.getD_eq_getD_getElem?, show i < listed.size by omega] using this
      obtain ⟨hno, y, ha, hb, hR⟩ := hA
      have hmn' : m = ops.size := by
        rcases Nat.lt_or_ge m ops.size with h | h
        · have h1 := hl m h
          rw [hno m (Nat.le_refl _)] at h1
          cases h1
        · omega
      refine tail_any (m := m) hok ht 0 ops.size listed a w (by omega) (Nat.le_refl _) (by omega) hsz (fun i hi => by rw [hl i hi]; simp [hi]) ?_
      have := hend y w hb fun i hi => hR i (by omega) (hl i (by omega))
      rw [ha, lay_congr (fun i => listed.getD i false) (fun i => decide (i < m)) y ops.toList 0 a0.tmps (fun k hk => by
        have hk' : k < ops.size := by simpa using hk
        simp only [Nat.zero_add]
        rw [hl k hk']
        simp; omega)]
      rw [hmn'] at this ⊢
      exact this
    | succ fuel ih =>
      intro listed a w hsz hc hA
      by_cases hfull : ∀ i, i < m → listed.getD i false = true
      · obtain ⟨hno, y, ha, hb, hR⟩ := hA
        have hL : ∀ i, i < ops.size → listed.getD i false = decide (i < m) := by
          intro i hi
          by_cases him : i < m
          · rw [hfull i him]; simp [him]
          · rw [hno i (by omega)]; simp [him]
        have hcount : ops.size - m ≤ fuel + 1 := by
          have h1 : listed.toList.countP (!·) = ops.size - m := by
            have e : listed.toList = List.replicate m true ++ List.replicate (ops.size - m) false := by
              apply List.ext_getElem?
              intro i
              by_cases hi : i < ops.size
              · have h2 := hL i hi
                rw [Array.getElem?_toList, Array.getElem?_eq_getElem (show i < listed.size by omega)]
                simp only [Array.getD_eq_getD_getElem?, Array.getElem?_eq_getElem (show i < listed.size by omega), Option.getD_some] at h2
                rw [h2]
                by_cases him : i < m
                · rw [List.getElem?_append_left (by simpa using him)]
                  simp [him]
                · rw [List.getElem?_append_right (by simp; omega)]
                  rw [List.length_replicate, List.getElem?_replicate, if_pos (by omega)]
                  simp [him]
              · rw [List.getElem?_eq_none (by simp; omega), List.getElem?_eq_none (by simp; omega)]
            rw [e]
            simp [List.countP_append, List.countP_replicate]
          omega
        refine tail_any (m := m) hok ht (fuel + 1) m listed a w (Nat.le_refl _) hmn hcount hsz hL ?_
        have := hend y w hb fun i hi => hR i (by omega) (hfull i hi)
        rw [ha, lay_congr (fun i => listed.getD i false) (fun i => decide (i < m)) y ops.toList 0 a0.tmps (fun k hk => by
          simp only [Nat.zero_add]
          exact hL k (by simpa using hk))]
        exact this
      · have hready0 : Region.ready .any ops listed ≠ [] := by
          intro hready
          apply hfull
          intro i
          induction i using Nat.strongRecOn with
          | ind i ih' =>
            intro him
            by_cases hc' : listed.getD i false = true
            · exact hc'
            · exfalso
              have hi : i < ops.size := by omega
              have hmem : i ∈ Region.ready .any ops listed := by
                rw [mem_ready]
                refine ⟨?_, ops[i], by simp [hi], fun e he _ => ?_⟩
                · simpa [Array.getD_eq_getD_getElem?, show i < listed.size by omega] using hc'
                · have := (growOk_at hok (i := i) (o := ops[i]) (by simp [hi])).2.1 e he
                  exact ih' e.on this.2 (by omega)
              rw [hready] at hmem
              cases hmem
        refine ⟨fun h => absurd h hready0, fun i hi => ?_⟩
        obtain ⟨h1, o, ho, hdeps⟩ := mem_ready.1 hi
        have hlt : i < ops.size := (Array.getElem?_eq_some_iff.1 ho).1
        obtain ⟨hsel, hbinds, _⟩ := growOk_at hok ho
        have hL : ∀ e ∈ o.after, listed.getD e.on false = true := fun e he => hdeps e he (hbinds e he).1
        have him : i < m := by
          rcases Nat.lt_or_ge i m with h | h
          · exact h
          · exfalso
            apply hfull
            intro j hj
            obtain ⟨e, he, hej⟩ := tailOk_at ht ho h j (by omega)
            rw [← hej]
            exact hL e he
        obtain ⟨hno, y, ha, hb, hR⟩ := hA
        have hnext : ∀ v w', Below w.heap.size w w' → R i v w' → wpAny P .any ops Q fuel (listed.setIfInBounds i true) (a.put o.dst v) w' := by
          intro v w' hbw hv
          refine ih _ _ _ (by simp [hsz]) ?_ ⟨fun k hk => ?_, fun k => if k = i then v else y k, ?_, hb.trans (hbw.mono hb.size), ?_⟩
          · have hil : i < listed.toList.length := by simp; omega
            have hfalse : listed.toList[i] = false := by
              simpa [Array.getD_eq_getD_getElem?, show i < listed.size by omega] using h1
            have := List.countP_set (p := (!·)) (l := listed.toList) (i := i) (a := true) hil
            rw [hfalse] at this
            have hpos : 0 < listed.toList.countP (!·) := List.countP_pos_iff.2 ⟨listed.toList[i], List.getElem_mem hil, by rw [hfalse]; rfl⟩
            simp only [Array.toList_setIfInBounds]
            simp only [Bool.not_false, Bool.not_true, if_true, Bool.false_eq_true, if_false] at this
            omega
          · have := hno k hk
            simp only [Array.getD_eq_getD_getElem?, Array.getElem?_setIfInBounds_ne (show i ≠ k by omega)] at this ⊢
            exact this
          · rw [ha, lay_put hok ho hsz v]
          · intro k hk hLk
            by_cases hki : k = i
            · subst hki; simpa using hv
            · have : listed.getD k false = true := by
                simpa [Array.getD_eq_getD_getElem?, Array.getElem?_setIfInBounds_ne (Ne.symm hki)] using hLk
              simp only [hki, if_false]
              exact hstab _ _ _ _ hbw (hR k hk this)
        have heval : ∀ t ∈ o.looksAt ops, a.tmps[t]? = (lay (fun _ => true) y ops.toList 0 a0.tmps)[t]? := fun t ht => by
          rw [ha]; exact evals_lay hok ho hL t ht
        have hexec : execOp a.eval o = execOp ({ a0 with tmps := lay (fun _ => true) y ops.toList 0 a0.tmps } : Act).eval o := by
          refine execOp_congr o hsel fun x hx => ?_
          cases x with
          | tmp t =>
            have := heval t (List.mem_append_left _ (List.mem_filterMap.2 ⟨.tmp t, by simpa using hx, rfl⟩))
            simp [Act.eval, this]
          | _ => rfl
        have hwant : Region.wanted o (yielded ops a.tmps) = Region.wanted o (yielded ops (lay (fun _ => true) y ops.toList 0 a0.tmps)) := by
          unfold Region.wanted
          cases hg : o.guard with
          | none => rfl
          | some gw =>
            obtain ⟨g, want⟩ := gw
            have : yielded ops a.tmps g = yielded ops (lay (fun _ => true) y ops.toList 0 a0.tmps) g := by
              unfold yielded
              cases hd : (ops[g]?).bind (·.dst) with
              | none => rfl
              | some t =>
                have := heval t (List.mem_append_right _ (by simp [hg, hd]))
                simp [this]
            simp only [this]
        have hs := hstep i o him ho y w hb (fun j hj => by
          obtain ⟨e, he, hej⟩ := List.any_eq_true.1 hj
          have hej' : e.on = j := by simpa using hej
          subst hej'
          have he' := Array.mem_toList_iff.1 he
          exact hR e.on (by have := (hbinds e he').2; omega) (hL e he'))
        by_cases hwt : Region.wanted o (yielded ops (lay (fun _ => true) y ops.toList 0 a0.tmps)) = true
        · rw [if_pos hwt] at hs
          exact gives_wpOp ho (by rw [hwant]; exact hwt) hexec hs fun v w' h => hnext v w' h.1 h.2
        · rw [if_neg hwt] at hs
          unfold wpOp
          simp only [ho]
          rw [if_neg (by rw [hwant]; exact hwt)]
          exact hnext undef w (Below.refl _ _) hs
  refine wp_region_any hm (hall ops.size _ _ _ (by simp) ?_ ⟨fun i _ => ?_, fun _ => undef, ?_, ?_, ?_⟩)
  · simpa using List.countP_le_length (p := (!·)) (l := List.replicate ops.size false)
  · simp [Array.getD_eq_getD_getElem?, Array.getElem?_replicate]; split <;> rfl
  · have e : lay (fun i => (Array.replicate ops.size false).getD i false) (fun _ => undef) ops.toList 0 a0.tmps = a0.tmps := by
      apply Array.ext_getElem?
      intro s
      exact lay_none _ _ s _ 0 _ fun k o' hk hd => by simp [Array.getD_eq_getD_getElem?, Array.getElem?_replicate]; split <;> rfl
    rw [e]
  · exact ⟨rfl, rfl, rfl, Nat.le_refl _, fun _ _ => rfl⟩
  · intro i hi hL
    simp [Array.getD_eq_getD_getElem?, hi] at hL

/-! ### the rule in the form in which it is used -/
/-- Which operation writes the slot. -/
def writer (ops : Array Oper) (t : Nat) : Option Nat := (List.range ops.size).find? fun i => match ops[i]? with | some o => o.dst == some t | none => false
/-- What the guard's slot says. -/
def says (ρ : Operand → Value) (ops : Array Oper) (g : Nat) : Option Bool :=
  match (ops[g]?).bind (·.dst) with
  | some d => match ρ (.tmp d) with | .bool b => some b | _ => none
  | none => none
def GivesR (P : Program) (o : Oper) (ρ : Operand → Value) (w : World) (F : Value → World → Prop) : Prop :=
  match (execOp ρ o).run P w with
  | .ok (.value v) w' => F v w'
  | .ok .skip w' => F undef w'
  | .ok (.enter f args) w' => Calls P f args w' fun | .returned v, w'' => F v w'' | _, _ => False
  | _ => False
/-- What may be known of a value, and stays so while memory grows. -/
structure Rel where
  r : Value → World → Prop
  st : ∀ v w w', Below w.heap.size w w' → r v w → r v w'
def isV (V : Value) : Rel := ⟨fun v _ => v = V, fun _ _ _ _ h => h⟩
def anyR : Rel := ⟨fun _ _ => True, fun _ _ _ _ _ => trivial⟩
/-- A slice of n things in which these cells lie. -/
def slR (n : Nat) (vs : List Value) : Rel := ⟨fun v w => ∃ a c, v = .slice a n c ∧ n ≤ c ∧ c ≤ maxLen ∧ (a = none → c = 0) ∧ RdV w a vs,
  fun _ _ _ hb ⟨a, c, h1, h2, h3, h4, h5⟩ => ⟨a, c, h1, h2, h3, h4, h5.below hb⟩⟩
def rl (l : List Rel) (i : Nat) (v : Value) (w : World) : Prop := (l.getD i anyR).r v w
/-- Of each of the operations, from number k on, C. -/
def AllFrom (C : Nat → Oper → Prop) : Nat → List Oper → Prop
  | _, [] => True
  | k, o :: r => C k o ∧ AllFrom C (k + 1) r
theorem all_nil {C : Nat → Oper → Prop} {k : Nat} : AllFrom C k [] := trivial
theorem all_cons {C : Nat → Oper → Prop} {k : Nat} {o : Oper} {r : List Oper} (h : C k o) (hr : AllFrom C (k + 1) r) : AllFrom C k (o :: r) := ⟨h, hr⟩
theorem AllFrom.at {C : Nat → Oper → Prop} : ∀ {l : List Oper} {k : Nat}, AllFrom C k l → ∀ i o, l[i]? = some o → C (k + i) o
  | [], _, _, _, _, h => by simp at h
  | o :: r, k, h, 0, o', hi => by simp at hi; subst hi; exact h.1
  | o :: r, k, h, i + 1, o', hi => by
    have := AllFrom.at h.2 i o' (by simpa using hi)
    rwa [show k + (i + 1) = k + 1 + i by omega]
/-- What is asked of operation i. -/
def Asked (P : Program) (ops : Array Oper) (a0 : Act) (w0 : World) (l : List Rel) (i : Nat) (o : Oper) : Prop :=
  ∀ (ρ : Operand → Value) (y : Nat → Value) (w : World), (∀ t j, writer ops t = some j → ρ (.tmp t) = y j) → (∀ x, (match x with | .tmp t => writer ops t = none | _ => True) → ρ x = a0.eval x) →
    Below w0.heap.size w0 w → (∀ j, o.after.toList.any (fun e => e.on == j) = true → rl l j (y j) w) →
    if Region.wanted o (says ρ ops) = true then GivesR P o ρ w (fun v w' => Below w.heap.size w w' ∧ rl l i v w') else rl l i undef w

/-- Each operation writes a slot that the frame has. -/
def growSize (ops : Array Oper) (n : Nat) : Bool := ops.toList.all fun o => match o.dst with | some d => decide (d < n) | none => true
theorem wp_grow {P : Program} {ops : Array Oper} {Q : Exit → Act → World → Prop} {id : Nat} {a0 : Act} {w0 : World} (m : Nat) (l : List Rel) (hm : P.follows .mixedOrders = true) (hok : growOk ops = true) (ht : tailOk ops m = true) (hmn : m ≤ ops.size)
    (n : Nat) (hn : a0.tmps.size = n) (hsz : growSize ops n = true)
    (hstep : AllFrom (Asked P ops a0 w0 l) 0 (ops.toList.take m))
    (hend : ∀ y w, Below w0.heap.size w0 w → (∀ i, i < m → rl l i (y i) w) → wpList P ops Q (ops.toList.drop m) { a0 with tmps := lay (fun i => decide (i < m)) y ops.toList 0 a0.tmps } w) :
    (Code.region id ops true).wp P Q a0 w0 := by
  refine wp_region_grow m hm hok ht hmn (rl l) (fun i v w w' hb h => (l.getD i anyR).st v w w' hb h) (fun i o him hi y w hb hd => ?_) hend
  have hwr : ∀ t j, writer ops t = some j → ({ a0 with tmps := lay (fun _ => true) y ops.toList 0 a0.tmps } : Act).eval (.tmp t) = y j := by
    intro t j hw
    unfold writer at hw
    have h1 := List.find?_some hw
    have h2 := List.mem_range.1 (List.mem_of_find?_eq_some hw)
    cases ho : ops[j]? with
    | none => simp [ho] at h1
    | some p =>
      have hd' : p.dst = some t := by simpa [ho] using h1
      have hlt : t < a0.tmps.size := by
        have := List.all_eq_true.1 hsz p (Array.mem_toList_iff.2 (Array.mem_of_getElem? ho))
        rw [hn]
        simpa [hd'] using this
      have hu : ∀ k' o', ops.toList[k']? = some o' → o'.dst = some t → k' = j := by
        intro k' o' hk' hdk
        rcases ((growOk_at hok (i := k') (o := o') (by simpa using hk')).2.2 j p t ho hd').1 with h | h
        · exact h
        · exact absurd hdk h
      have := lay_some (fun _ => true) y t ops.toList 0 a0.tmps j p (by simpa using ho) hd' rfl hu hlt
      simp [Act.eval, this]
  have hno : ∀ x, (match x with | .tmp t => writer ops t = none | _ => True) → ({ a0 with tmps := lay (fun _ => true) y ops.toList 0 a0.tmps } : Act).eval x = a0.eval x := by
    intro x hx
    cases x with
    | tmp t =>
      have : (lay (fun _ => true) y ops.toList 0 a0.tmps)[t]? = a0.tmps[t]? := by
        refine lay_none _ y t _ 0 _ fun k o' hk hd' => ?_
        exfalso
        simp only [writer] at hx
        have hk' : ops[k]? = some o' := by simpa using hk
        have hklt : k < ops.size := (Array.getElem?_eq_some_iff.1 hk').1
        have := List.find?_eq_none.1 hx k (List.mem_range.2 hklt)
        simp [hk', hd'] at this
      simp [Act.eval, this]
    | _ => rfl
  have hsays : Region.wanted o (yielded ops (lay (fun _ => true) y ops.toList 0 a0.tmps)) = Region.wanted o (says ({ a0 with tmps := lay (fun _ => true) y ops.toList 0 a0.tmps } : Act).eval ops) := by
    congr 1
    funext g
    unfold yielded says
    cases (ops[g]?).bind (·.dst) with
    | none => rfl
    | some d =>
      simp only [Option.bind_some, Act.eval, Array.getD_eq_getD_getElem?]
      generalize (lay (fun _ => true) y ops.toList 0 a0.tmps)[d]? = q
      cases q with
      | none => rfl
      | some v => cases v <;> rfl
  have hi' : (ops.toList.take m)[i]? = some o := by rw [List.getElem?_take, if_pos him]; simpa using hi
  have := AllFrom.at hstep i o hi' _ y w hwr hno hb hd
  rw [Nat.zero_add] at this
  rw [hsays]
  exact this

/-- An operation that nothing guards, and that yields its value without a change of memory. -/
theorem asked_val {P : Program} {ops : Array Oper} {ρ : Operand → Value} {o : Oper} {w : World} {l : List Rel} {i : Nat} (v : Value) (hw : Region.wanted o (says ρ ops) = true) (hrun : (execOp ρ o).run P w = .ok (.value v) w) (hR : rl l i v w) :
    if Region.wanted o (says ρ ops) = true then GivesR P o ρ w (fun v w' => Below w.heap.size w w' ∧ rl l i v w') else rl l i undef w := by
  rw [if_pos hw]
  unfold GivesR
  rw [hrun]
  exact ⟨Below.refl _ _, hR⟩
theorem asked_skip {P : Program} {ops : Array Oper} {ρ : Operand → Value} {o : Oper} {w : World} {l : List Rel} {i : Nat} (hw : Region.wanted o (says ρ ops) = false) (hR : rl l i undef w) :
    if Region.wanted o (says ρ ops) = true then GivesR P o ρ w (fun v w' => Below w.heap.size w w' ∧ rl l i v w') else rl l i undef w := by
  rw [if_neg (by rw [hw]; exact Bool.false_ne_true)]
  exact hR
theorem asked_call {P : Program} {ops : Array Oper} {ρ : Operand → Value} {o : Oper} {w : World} {l : List Rel} {i : Nat} (f : FuncId) (args : Array Value) (hw : Region.wanted o (says ρ ops) = true) (hrun : (execOp ρ o).run P w = .ok (.enter f args) w)
    (hc : Calls P f args w fun e w' => ∃ v, e = .returned v ∧ Below w.heap.size w w' ∧ rl l i v w') :
    if Region.wanted o (says ρ ops) = true then GivesR P o ρ w (fun v w' => Below w.heap.size w w' ∧ rl l i v w') else rl l i undef w := by
  rw [if_pos hw]
  unfold GivesR
  rw [hrun]
  refine hc.mono fun e w' ⟨v, he, h⟩ => ?_
  subst he
  exact h
theorem want_free {o : Oper} {y : Nat → Option Bool} (hg : o.guard = none) : Region.wanted o y = true := by simp [Region.wanted, hg]
theorem want_at {ρ : Operand → Value} {ops : Array Oper} {o : Oper} (g d : Nat) (b want : Bool) (hg : o.guard = some (g, want)) (hd : (ops[g]?).bind (·.dst) = some d) (hv : ρ (.tmp d) = .bool b) : Region.wanted o (says ρ ops) = (b == want) := by
  simp only [Region.wanted, hg, says, hd, hv]
  cases b <;> cases want <;> rfl
/-- A whole block is loaded. -/
theorem run_load_blk {P : Program} {ρ : Operand → Value} {o : Oper} {w : World} {ty : TypeId} {x : Operand} {b : Nat} {cs : Array Value} {T : TypeId} {d : TypeDesc} (ho : o.op = .load ty x) (hx : ρ x = .pointer (some ⟨b, 0, none⟩)) (hb : Blk w b cs T)
    (hu : P.underlying ty = some d) (hd : (match d with | .struct _ | .array _ _ => true | _ => false) = true) (hi : (P.info? ty).map (·.size) = some cs.size) : (execOp ρ o).run P w = .ok (.value (.agg cs)) w := by
  unfold execOp
  simp only [ho, hx, Instr.loadAt, Instr.sureAddr, Sem.run_bind, Sem.run_pure, Result.andThen_ok, run_loadVar_row w b T ty cs (0, 0) d hb hu hd hi]
theorem run_move {P : Program} {ρ : Operand → Value} {o : Oper} {w : World} {x : Operand} {v : Value} (ho : o.op = .move x ∨ o.op = .assign x) (hx : ρ x = v) : (execOp ρ o).run P w = .ok (.value v) w := by
  rcases ho with ho | ho <;> simp [execOp, ho, hx]
theorem run_call {P : Program} {ρ : Operand → Value} {o : Oper} {w : World} {f : FuncId} {xs : Array Operand} {ats : Array TypeId} {fn : Func} {args : Array Value} (ho : o.op = .call { callee := .value (.func f), args := xs, argTypes := ats })
    (hρ : ρ (.func f) = .func (.func f) #[] #[]) (hf : P.funcs[f]? = some fn) (hn : (fn.name == "runtime.NumGoroutine") = false) (hb : fn.body.isNone = false) (ha : xs.map ρ = args) : (execOp ρ o).run P w = .ok (.enter f args) w := by
  have e1 : execOp ρ o = callFunc f args := by
    unfold execOp
    simp only [ho]
    have e2 : resolve ρ { callee := .value (.func f), args := xs, argTypes := ats } o.type = Sem.pure { target := .fn (.func f) #[], args := args } := by
      unfold resolve
      simp only [hρ, ha]
      simp [Deferred.ofValue]
      rfl
    rw [e2]
    show callFunc f (args ++ #[]) = _
    simp
  rw [e1]
  have hn' : ¬ fn.name = "runtime.NumGoroutine" := by simpa using hn
  have hb' : ¬ fn.body = none := fun h => by simp [h] at hb
  unfold callFunc
  simp [hf, hn', hb']
theorem run_bin {P : Program} {ρ : Operand → Value} {o : Oper} {w : World} {op : BinOp} {t t' : TypeId} {x y : Operand} {vx vy v : Value} (ho : o.op = .binOp op t x y t') (hx : ρ x = vx) (hy : ρ y = vy)
    (hr : (do eqGuard op t x y vx vy; binOp op t vx vy : Sem Value).run P w = .ok v w) : (execOp ρ o).run P w = .ok (.value v) w := by
  unfold execOp
  simp only [ho, hx, hy]
  rw [Sem.run_bind, hr]
  rfl
theorem run_conv {P : Program} {ρ : Operand → Value} {o : Oper} {w : World} {a b : TypeId} {x : Operand} {vx v : Value} (ho : o.op = .convert a b x) (hx : ρ x = vx) (hr : (convert a b vx).run P w = .ok v w) : (execOp ρ o).run P w = .ok (.value v) w := by
  unfold execOp
  simp only [ho, hx]
  rw [Sem.run_bind, hr]
  rfl
theorem run_pick {P : Program} {ρ : Operand → Value} {o : Oper} {w : World} {c x y : Operand} {b : Bool} {v : Value} (ho : o.op = .pick c x y) (hc : ρ c = .bool b) (hx : (if b then ρ x else ρ y) = v) : (execOp ρ o).run P w = .ok (.value v) w := by
  unfold execOp
  simp only [ho, hc]
  subst hx
  cases b <;> rfl
theorem run_not {P : Program} {ρ : Operand → Value} {o : Oper} {w : World} {t : TypeId} {x : Operand} {b : Bool} (ho : o.op = .unOp .not t x) (hx : ρ x = .bool b) : (execOp ρ o).run P w = .ok (.value (.bool (!b))) w := by
  unfold execOp
  simp only [ho, hx]
  rfl
theorem run_lenS {P : Program} {ρ : Operand → Value} {o : Oper} {w : World} {t : TypeId} {x : Operand} {a : Option Addr} {n c : Nat} (ho : o.op = .call { callee := .builtin .len, args := #[x], argTypes := #[t] }) (hx : ρ x = .slice a n c) (ht : P.underlying t = some (.slice (P.elem t))) : (execOp ρ o).run P w = .ok (.value (.int .i64 n)) w := by
  unfold execOp
  simp only [ho]
  simp [hx, resolve, invoke, builtin, run_len_slice _ t o.type a n c ht]
  rfl
theorem run_fieldAddr {P : Program} {ρ : Operand → Value} {o : Oper} {w : World} {t : TypeId} {x : Operand} {f : Nat} {v vx : Value} (ho : o.op = .fieldAddr t x f) (hx : ρ x = vx) (hr : (Instr.fieldAt t vx f).run P w = .ok v w) : (execOp ρ o).run P w = .ok (.value v) w := by
  unfold execOp
  simp only [ho, hx]
  rw [Sem.run_bind, hr]
  rfl
theorem run_load {P : Program} {ρ : Operand → Value} {o : Oper} {w : World} {t : TypeId} {x : Operand} {v vx : Value} (ho : o.op = .load t x) (hx : ρ x = vx) (hr : (Instr.loadAt t vx).run P w = .ok v w) : (execOp ρ o).run P w = .ok (.value v) w := by
  unfold execOp
  simp only [ho, hx]
  rw [Sem.run_bind, hr]
  rfl
theorem run_indexAddr {P : Program} {ρ : Operand → Value} {o : Oper} {w : World} {t : TypeId} {x y : Operand} {v vx vy : Value} (ho : o.op = .indexAddr t x y) (hx : ρ x = vx) (hy : ρ y = vy) (hr : (Instr.indexAt t vx vy).run P w = .ok v w) : (execOp ρ o).run P w = .ok (.value v) w := by
  unfold execOp
  simp only [ho, hx, hy]
  rw [Sem.run_bind, hr]
  rfl
theorem run_build {P : Program} {ρ : Operand → Value} {o : Oper} {w : World} {t : TypeId} {ps : Array (Nat × Operand)} {qs : Array (Nat × Value)} {v : Value} (ho : o.op = .build t ps) (hx : (ps.map fun (i, x) => (i, ρ x)) = qs) (hr : (Instr.build t qs).run P w = .ok v w) : (execOp ρ o).run P w = .ok (.value v) w := by
  unfold execOp
  simp only [ho, hx]
  rw [Sem.run_bind, hr]
  rfl
end Pw
