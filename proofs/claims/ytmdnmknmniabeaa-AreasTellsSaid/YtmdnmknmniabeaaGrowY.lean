/- Regions that draw their order, with departures (edges that do not bind) and stores among the operations: one rule. No program in sight. -/
import Derived.Test.YtmdnmknmniabeaaGrowC
import Derived.Test.YtmdnmknmniabeaaArr
namespace Pw
open Go Go.RowKit
set_option linter.unusedSimpArgs false
set_option linter.unusedVariables false

/-- The edges that bind, alone. -/
def stripO (o : Oper) : Oper := { o with after := ⟨o.after.toList.filter (Region.binds .any)⟩ }
def strip (ops : Array Oper) : Array Oper := ⟨ops.toList.map stripO⟩
theorem strip_size (ops : Array Oper) : (strip ops).size = ops.size := by simp [strip]
theorem strip_get (ops : Array Oper) (i : Nat) : (strip ops)[i]? = (ops[i]?).map stripO := by
  unfold strip
  simp
theorem filter_all {α : Type} (p q : α → Bool) (l : List α) : (l.filter p).all (fun e => !p e || q e) = l.all (fun e => !p e || q e) := by
  induction l with
  | nil => rfl
  | cons x l ih =>
    cases hp : p x
    · rw [List.filter_cons_of_neg (by simp [hp]), ih]; simp [hp]
    · rw [List.filter_cons_of_pos (by simp [hp])]; simp [hp, ih]
theorem strip_ready (ops : Array Oper) (listed : Array Bool) : Region.ready .any (strip ops) listed = Region.ready .any ops listed := by
  unfold Region.ready
  rw [strip_size]
  apply List.filter_congr
  intro i _
  congr 1
  rw [strip_get]
  cases ops[i]? with
  | none => rfl
  | some o =>
    simp only [Option.map_some, Option.getD_some]
    rw [← Array.all_toList, ← Array.all_toList]
    exact filter_all _ _ _
theorem strip_yielded (ops : Array Oper) (ts : Array Value) : yielded (strip ops) ts = yielded ops ts := by
  funext g
  unfold yielded
  rw [strip_get]
  cases ops[g]? <;> rfl
theorem strip_wpOp {P : Program} {ops : Array Oper} {Q : Exit → Act → World → Prop} {i : Nat} {K : Act → World → Prop} {a : Act} {w : World} (h : wpOp P (strip ops) Q i K a w) : wpOp P ops Q i K a w := by
  unfold wpOp at h ⊢
  rw [strip_get, strip_yielded] at h
  cases ho : ops[i]? with
  | none => rw [ho] at h; exact h
  | some o =>
    rw [ho] at h
    exact h
theorem strip_any {P : Program} {ops : Array Oper} {Q : Exit → Act → World → Prop} : ∀ (fuel : Nat) (listed : Array Bool) (a : Act) (w : World), wpAny P .any (strip ops) Q fuel listed a w → wpAny P .any ops Q fuel listed a w
  | 0, listed, a, w, h => by
    unfold wpAny at h ⊢
    rw [strip_ready] at h
    exact h
  | fuel + 1, listed, a, w, h => by
    unfold wpAny at h ⊢
    rw [strip_ready] at h
    exact ⟨h.1, fun i hi => wpOp_mono (fun a w => strip_any fuel _ a w) (strip_wpOp (h.2 i hi))⟩

/-- What may be known of values, and stays so while memory grows; at which operations it looks. -/
structure RelY where
  r : (Nat → Value) → World → Prop
  on : List Nat
  st : ∀ y w w', Below w.heap.size w w' → r y w → r y w'
  dep : ∀ y y' w, (∀ j ∈ on, y j = y' j) → r y w → r y' w
def ofR (k : Nat) (R : Rel) : RelY := ⟨fun y w => R.r (y k) w, [k], fun y w w' hb h => R.st _ _ _ hb h, fun y y' w h h1 => by rw [← h k (List.mem_singleton.2 rfl)]; exact h1⟩
def anyY : RelY := ⟨fun _ _ => True, [], fun _ _ _ _ _ => trivial, fun _ _ _ _ _ => trivial⟩
def ry (l : List RelY) (i : Nat) : RelY := l.getD i anyY
def upd (y : Nat → Value) (i : Nat) (v : Value) : Nat → Value := fun k => if k = i then v else y k
def onOk (ops : Array Oper) (m : Nat) (l : List RelY) : Bool :=
  (List.range m).all fun i => match ops[i]? with
    | none => true
    | some o => (ry l i).on.all fun j => decide (j = i) || o.after.toList.any (fun e => e.on == j)
theorem onOk_at {ops : Array Oper} {m : Nat} {l : List RelY} (h : onOk ops m l = true) {i : Nat} (him : i < m) {o : Oper} (ho : ops[i]? = some o) {j : Nat} (hj : j ∈ (ry l i).on) : j = i ∨ ∃ e ∈ o.after, e.on = j := by
  have h1 := List.all_eq_true.1 h i (List.mem_range.2 him)
  simp only [ho] at h1
  have h2 := List.all_eq_true.1 h1 j hj
  simp only [Bool.or_eq_true, decide_eq_true_eq, List.any_eq_true, beq_iff_eq] at h2
  rcases h2 with h2 | ⟨e, he, h3⟩
  · exact .inl h2
  · exact .inr ⟨e, Array.mem_toList_iff.1 he, h3⟩
def AmidY (ops : Array Oper) (m : Nat) (l : List RelY) (B : World → Prop) (a0 : Act) (listed : Array Bool) (a : Act) (w : World) : Prop :=
  (∀ i, m ≤ i → listed.getD i false = false) ∧ (∀ i o, ops[i]? = some o → listed.getD i false = true → ∀ e ∈ o.after, listed.getD e.on false = true) ∧
    ∃ y : Nat → Value, a = { a0 with tmps := lay (fun i => listed.getD i false) y ops.toList 0 a0.tmps } ∧ B w ∧ ∀ i, i < m → listed.getD i false = true → (ry l i).r y w
/-- What an operation does: the ground stays, what is known of the others stays, and of it is known what should be. -/
def StepY (m : Nat) (l : List RelY) (B : World → Prop) (i : Nat) (y : Nat → Value) (w : World) (v : Value) (w' : World) : Prop :=
  B w' ∧ (ry l i).r (upd y i v) w' ∧ ∀ k, k < m → k ≠ i → (ry l k).r y w → (ry l k).r y w'
theorem wp_region_growY {P : Program} {ops : Array Oper} {Q : Exit → Act → World → Prop} {a0 : Act} {w0 : World} (m : Nat) (l : List RelY) (B : World → Prop) (hbst : ∀ w w', Below w.heap.size w w' → B w → B w') (hok : growOk ops = true) (ht : tailOkT ops m = true) (hmn : m ≤ ops.size) (hon : onOk ops m l = true) (hb0 : B w0)
    (hstep : ∀ i o, i < m → ops[i]? = some o → ∀ y w, B w → (∀ j, o.after.toList.any (fun e => e.on == j) = true → (ry l j).r y w) →
      if Region.wanted o (yielded ops (lay (fun _ => true) y ops.toList 0 a0.tmps)) = true then Gives P o { a0 with tmps := lay (fun _ => true) y ops.toList 0 a0.tmps } w (StepY m l B i y w) else StepY m l B i y w undef w)
    (hend : ∀ y w, B w → (∀ i, i < m → (ry l i).r y w) → wpList P ops Q (ops.toList.drop m) { a0 with tmps := lay (fun i => decide (i < m)) y ops.toList 0 a0.tmps } w) :
    wpAny P .any ops Q ops.size (Array.replicate ops.size false) a0 w0 := by
  have hall : ∀ (fuel : Nat) (listed : Array Bool) (a : Act) (w : World), listed.size = ops.size → listed.toList.countP (!·) ≤ fuel → AmidY ops m l B a0 listed a w → wpAny P .any ops Q fuel listed a w := by
    intro fuel
    induction fuel with
    | zero =>
      intro listed a w hsz hc hA
      have hl : ∀ i, i < ops.size → listed.getD i false = true := by
        intro i hlt
        have h0 : listed.toList.countP (!·) = 0 := by omega
        have := List.countP_eq_zero.1 h0 (listed[i]'(by omega)) (by simp)
        simpa [Array.getD_eq_getD_getElem?, show i < listed.size by omega] using this
      obtain ⟨hno, hcl, y, ha, hb, hR⟩ := hA
      have hmn' : m = ops.size := by
        rcases Nat.lt_or_ge m ops.size with h | h
        · have h1 := hl m h
          rw [hno m (Nat.le_refl _)] at h1
          cases h1
        · omega
      refine tail_anyT (m := m) hok ht 0 ops.size listed a w (by omega) (Nat.le_refl _) (by omega) hsz (fun i hi => by rw [hl i hi]; simp [hi]) ?_
      have := hend y w hb fun i hi => hR i (by omega) (hl i (by omega))
      rw [ha, lay_congr (fun i => listed.getD i false) (fun i => decide (i < m)) y ops.toList 0 a0.tmps (fun k hk => by
        have hk' : k < ops.size := by simpa using hk
        simp only [Nat.zero_add]
        rw [hl k hk']
        simp; omega)]
      rw [hmn'] at this ⊢
      exact this
    | succ fuel ih =>
      intro listed a w hsz hc hA
      by_cases hfull : ∀ i, i < m → listed.getD i false = true
      · obtain ⟨hno, hcl, y, ha, hb, hR⟩ := hA
        have hL : ∀ i, i < ops.size → listed.getD i false = decide (i < m) := by
          intro i hi
          by_cases him : i < m
          · rw [hfull i him]; simp [him]
          · rw [hno i (by omega)]; simp [him]
        have hcount : ops.size - m ≤ fuel + 1 := by
          have := count_tail (k1 := m) hsz hmn hL
          omega
        refine tail_anyT (m := m) hok ht (fuel + 1) m listed a w (Nat.le_refl _) hmn hcount hsz hL ?_
        have := hend y w hb fun i hi => hR i (by omega) (hfull i hi)
        rw [ha, lay_congr (fun i => listed.getD i false) (fun i => decide (i < m)) y ops.toList 0 a0.tmps (fun k hk => by
          simp only [Nat.zero_add]
          exact hL k (by simpa using hk))]
        exact this
      · have hready0 : Region.ready .any ops listed ≠ [] := by
          intro hready
          apply hfull
          intro i
          induction i using Nat.strongRecOn with
          | ind i ih' =>
            intro him
            by_cases hc' : listed.getD i false = true
            · exact hc'
            · exfalso
              have hi : i < ops.size := by omega
              have hmem : i ∈ Region.ready .any ops listed := by
                rw [mem_ready]
                refine ⟨?_, ops[i], by simp [hi], fun e he _ => ?_⟩
                · simpa [Array.getD_eq_getD_getElem?, show i < listed.size by omega] using hc'
                · have := (growOk_at hok (i := i) (o := ops[i]) (by simp [hi])).2.1 e he
                  exact ih' e.on this.2 (by omega)
              rw [hready] at hmem
              cases hmem
        refine ⟨fun h => absurd h hready0, fun i hi => ?_⟩
        obtain ⟨h1, o, ho, hdeps⟩ := mem_ready.1 hi
        have hlt : i < ops.size := (Array.getElem?_eq_some_iff.1 ho).1
        obtain ⟨hsel, hbinds, _⟩ := growOk_at hok ho
        have hL : ∀ e ∈ o.after, listed.getD e.on false = true := fun e he => hdeps e he (hbinds e he).1
        have him : i < m := by
          rcases Nat.lt_or_ge i m with h | h
          · exact h
          · exfalso
            apply hfull
            intro j hj
            exact tailOkT_at ht hA.2.1 ho hL h j (by omega)
        obtain ⟨hno, hcl, y, ha, hb, hR⟩ := hA
        have hif : listed.getD i false = false := by
          simpa [Array.getD_eq_getD_getElem?, show i < listed.size by omega] using h1
        have hnext : ∀ v w', StepY m l B i y w v w' → wpAny P .any ops Q fuel (listed.setIfInBounds i true) (a.put o.dst v) w' := by
          intro v w' hst
          refine ih _ _ _ (by simp [hsz]) ?_ ⟨fun k hk => ?_, fun k o' ho' hk e he => ?_, upd y i v, ?_, hst.1, ?_⟩
          · exact count_less (by omega) h1 hc
          · have := hno k hk
            simp only [Array.getD_eq_getD_getElem?, Array.getElem?_setIfInBounds_ne (show i ≠ k by omega)] at this ⊢
            exact this
          · have up : ∀ q, listed.getD q false = true → (listed.setIfInBounds i true).getD q false = true := listed_up (by omega)
            apply up
            by_cases hki : k = i
            · subst hki
              rw [ho] at ho'
              cases ho'
              exact hL e he
            · exact hcl k o' ho' (by simpa [Array.getD_eq_getD_getElem?, Array.getElem?_setIfInBounds_ne (Ne.symm hki)] using hk) e he
          · rw [ha, lay_put hok ho hsz v]
            rfl
          · intro k hk hLk
            by_cases hki : k = i
            · subst hki; exact hst.2.1
            · have hkl : listed.getD k false = true := by
                simpa [Array.getD_eq_getD_getElem?, Array.getElem?_setIfInBounds_ne (Ne.symm hki)] using hLk
              refine (ry l k).dep y (upd y i v) w' (fun j hj => ?_) (hst.2.2 k hk hki (hR k hk hkl))
              have hkk : k < ops.size := by omega
              have hjl : listed.getD j false = true := by
                rcases onOk_at hon hk (o := ops[k]) (by simp [hkk]) hj with rfl | ⟨e, he, rfl⟩
                · exact hkl
                · exact hcl k ops[k] (by simp [hkk]) hkl e he
              have hji : j ≠ i := by
                rintro rfl
                rw [hif] at hjl
                cases hjl
              unfold upd
              rw [if_neg hji]
        have heval : ∀ t ∈ o.looksAt ops, a.tmps[t]? = (lay (fun _ => true) y ops.toList 0 a0.tmps)[t]? := fun t ht => by
          rw [ha]; exact evals_lay hok ho hL t ht
        have hexec : execOp a.eval o = execOp ({ a0 with tmps := lay (fun _ => true) y ops.toList 0 a0.tmps } : Act).eval o := by
          refine execOp_congr o hsel fun x hx => ?_
          cases x with
          | tmp t =>
            have := heval t (List.mem_append_left _ (List.mem_filterMap.2 ⟨.tmp t, by simpa using hx, rfl⟩))
            simp [Act.eval, this]
          | _ => rfl
        have hwant : Region.wanted o (yielded ops a.tmps) = Region.wanted o (yielded ops (lay (fun _ => true) y ops.toList 0 a0.tmps)) := by
          unfold Region.wanted
          cases hg : o.guard with
          | none => rfl
          | some gw =>
            obtain ⟨g, want⟩ := gw
            have : yielded ops a.tmps g = yielded ops (lay (fun _ => true) y ops.toList 0 a0.tmps) g := by
              unfold yielded
              cases hd : (ops[g]?).bind (·.dst) with
              | none => rfl
              | some t =>
                have := heval t (List.mem_append_right _ (by simp [hg, hd]))
                simp [this]
            simp only [this]
        have hs := hstep i o him ho y w hb (fun j hj => by
          obtain ⟨e, he, hej⟩ := List.any_eq_true.1 hj
          have hej' : e.on = j := by simpa using hej
          subst hej'
          have he' := Array.mem_toList_iff.1 he
          exact hR e.on (by have := (hbinds e he').2; omega) (hL e he'))
        by_cases hwt : Region.wanted o (yielded ops (lay (fun _ => true) y ops.toList 0 a0.tmps)) = true
        · rw [if_pos hwt] at hs
          exact gives_wpOp ho (by rw [hwant]; exact hwt) hexec hs fun v w' h => hnext v w' h
        · rw [if_neg hwt] at hs
          unfold wpOp
          simp only [ho]
          rw [if_neg (by rw [hwant]; exact hwt)]
          exact hnext undef w hs
  refine hall ops.size _ _ _ (by simp) ?_ ⟨fun i _ => ?_, fun i o' ho' hi => ?_, fun _ => undef, ?_, hb0, ?_⟩
  · simpa using List.countP_le_length (p := (!·)) (l := List.replicate ops.size false)
  · simp [Array.getD_eq_getD_getElem?, Array.getElem?_replicate]; split <;> rfl
  · exfalso
    have : i < ops.size := (Array.getElem?_eq_some_iff.1 ho').1
    simp [Array.getD_eq_getD_getElem?, this] at hi
  · have e : lay (fun i => (Array.replicate ops.size false).getD i false) (fun _ => undef) ops.toList 0 a0.tmps = a0.tmps := by
      apply Array.ext_getElem?
      intro s
      exact lay_none _ _ s _ 0 _ fun k o' hk hd => by simp [Array.getD_eq_getD_getElem?, Array.getElem?_replicate]; split <;> rfl
    rw [e]
  · intro i hi hL
    exfalso
    have : (Array.replicate ops.size false).getD i false = false := by
      simp [Array.getD_eq_getD_getElem?, Array.getElem?_replicate]; split <;> rfl
    rw [this] at hL
    cases hL

/-! ### the rule in the form in which it is used -/
def AskedY (P : Program) (ops : Array Oper) (a0 : Act) (m : Nat) (l : List RelY) (B : World → Prop) (i : Nat) (o : Oper) : Prop :=
  ∀ (ρ : Operand → Value) (y : Nat → Value) (w : World), (∀ t j, writer ops t = some j → ρ (.tmp t) = y j) → (∀ x, (match x with | .tmp t => writer ops t = none | _ => True) → ρ x = a0.eval x) →
    B w → (∀ j, o.after.toList.any (fun e => e.on == j) = true → (ry l j).r y w) →
    if Region.wanted o (says ρ ops) = true then GivesR P o ρ w (StepY m l B i y w) else StepY m l B i y w undef w
theorem wp_growY0 {P : Program} {ops : Array Oper} {Q : Exit → Act → World → Prop} {a0 : Act} {w0 : World} (m : Nat) (l : List RelY) (B : World → Prop) (hbst : ∀ w w', Below w.heap.size w w' → B w → B w') (hok : growOk ops = true) (ht : tailOkT ops m = true) (hmn : m ≤ ops.size) (hon : onOk ops m l = true) (hb0 : B w0)
    (n : Nat) (hn : a0.tmps.size = n) (hsz : growSize ops n = true)
    (hstep : AllFrom (AskedY P ops a0 m l B) 0 (ops.toList.take m))
    (hend : ∀ y w, B w → (∀ i, i < m → (ry l i).r y w) → wpList P ops Q (ops.toList.drop m) { a0 with tmps := lay (fun i => decide (i < m)) y ops.toList 0 a0.tmps } w) :
    wpAny P .any ops Q ops.size (Array.replicate ops.size false) a0 w0 := by
  refine wp_region_growY m l B hbst hok ht hmn hon hb0 (fun i o him hi y w hb hd => ?_) hend
  have hwr : ∀ t j, writer ops t = some j → ({ a0 with tmps := lay (fun _ => true) y ops.toList 0 a0.tmps } : Act).eval (.tmp t) = y j := by
    intro t j hw
    unfold writer at hw
    have h1 := List.find?_some hw
    have h2 := List.mem_range.1 (List.mem_of_find?_eq_some hw)
    cases ho : ops[j]? with
    | none => simp [ho] at h1
    | some p =>
      have hd' : p.dst = some t := by simpa [ho] using h1
      have hlt : t < a0.tmps.size := by
        have := List.all_eq_true.1 hsz p (Array.mem_toList_iff.2 (Array.mem_of_getElem? ho))
        rw [hn]
        simpa [hd'] using this
      have hu : ∀ k' o', ops.toList[k']? = some o' → o'.dst = some t → k' = j := by
        intro k' o' hk' hdk
        rcases ((growOk_at hok (i := k') (o := o') (by simpa using hk')).2.2 j p t ho hd').1 with h | h
        · exact h
        · exact absurd hdk h
      have := lay_some (fun _ => true) y t ops.toList 0 a0.tmps j p (by simpa using ho) hd' rfl hu hlt
      simp [Act.eval, this]
  have hno : ∀ x, (match x with | .tmp t => writer ops t = none | _ => True) → ({ a0 with tmps := lay (fun _ => true) y ops.toList 0 a0.tmps } : Act).eval x = a0.eval x := by
    intro x hx
    cases x with
    | tmp t =>
      have : (lay (fun _ => true) y ops.toList 0 a0.tmps)[t]? = a0.tmps[t]? := by
        refine lay_none _ y t _ 0 _ fun k o' hk hd' => ?_
        exfalso
        simp only [writer] at hx
        have hk' : ops[k]? = some o' := by simpa using hk
        have hklt : k < ops.size := (Array.getElem?_eq_some_iff.1 hk').1
        have := List.find?_eq_none.1 hx k (List.mem_range.2 hklt)
        simp [hk', hd'] at this
      simp [Act.eval, this]
    | _ => rfl
  have hsays : Region.wanted o (yielded ops (lay (fun _ => true) y ops.toList 0 a0.tmps)) = Region.wanted o (says ({ a0 with tmps := lay (fun _ => true) y ops.toList 0 a0.tmps } : Act).eval ops) := by
    congr 1
    funext g
    unfold yielded says
    cases (ops[g]?).bind (·.dst) with
    | none => rfl
    | some d =>
      simp only [Option.bind_some, Act.eval, Array.getD_eq_getD_getElem?]
      generalize (lay (fun _ => true) y ops.toList 0 a0.tmps)[d]? = q
      cases q with
      | none => rfl
      | some v => cases v <;> rfl
  have hi' : (ops.toList.take m)[i]? = some o := by rw [List.getElem?_take, if_pos him]; simpa using hi
  have := AllFrom.at hstep i o hi' _ y w hwr hno hb hd
  rw [Nat.zero_add] at this
  rw [hsays]
  exact this
/-- THE RULE: of a region that draws, departures and all. 'ops'': the region's operations without the edges that do not bind. -/
theorem wp_growY {P : Program} {ops : Array Oper} {Q : Exit → Act → World → Prop} {id : Nat} {a0 : Act} {w0 : World} (m : Nat) (l : List RelY) (B : World → Prop) (hbst : ∀ w w', Below w.heap.size w w' → B w → B w') (hb0 : B w0) (hm : P.follows .mixedOrders = true)
    (ops' : Array Oper) (hs : strip ops = ops') (hok : growOk ops' = true) (ht : tailOkT ops' m = true) (hmn : m ≤ ops'.size) (hon : onOk ops' m l = true)
    (n : Nat) (hn : a0.tmps.size = n) (hsz : growSize ops' n = true)
    (hstep : AllFrom (AskedY P ops' a0 m l B) 0 (ops'.toList.take m))
    (hend : ∀ y w, B w → (∀ i, i < m → (ry l i).r y w) → wpList P ops' Q (ops'.toList.drop m) { a0 with tmps := lay (fun i => decide (i < m)) y ops'.toList 0 a0.tmps } w) :
    (Code.region id ops true).wp P Q a0 w0 := by
  refine wp_region_any hm (strip_any _ _ _ _ ?_)
  subst hs
  have h2 : B { w0 with drawn := w0.drawn + 1 } := hbst w0 _ ⟨rfl, rfl, rfl, Nat.le_refl _, fun _ _ => rfl⟩ hb0
  have := wp_growY0 m l B hbst hok ht hmn hon h2 n hn hsz hstep hend
  rw [strip_size] at this
  exact this

/-! ### what is asked of an operation, by its kind -/
theorem upd_self (y : Nat → Value) (i : Nat) (v : Value) : upd y i v i = v := by unfold upd; rw [if_pos rfl]
theorem stepY_grow {m : Nat} {l : List RelY} {B : World → Prop} (hbst : ∀ w w', Below w.heap.size w w' → B w → B w') {i : Nat} {y : Nat → Value} {w : World} {v : Value} {w' : World} (hB : B w) (hb : Below w.heap.size w w') (hR : (ry l i).r (upd y i v) w') : StepY m l B i y w v w' :=
  ⟨hbst _ _ hb hB, hR, fun k _ _ h => (ry l k).st _ _ _ hb h⟩
theorem askY {P : Program} {ops : Array Oper} {ρ : Operand → Value} {o : Oper} {w : World} {m : Nat} {l : List RelY} {B : World → Prop} (hbst : ∀ w w', Below w.heap.size w w' → B w → B w') {i : Nat} {y : Nat → Value} (hB : B w) (R : Rel) (hR : ∀ v w', R.r v w' → (ry l i).r (upd y i v) w')
    (h : if Region.wanted o (says ρ ops) = true then GivesR P o ρ w (fun v w' => Below w.heap.size w w' ∧ rl (List.replicate (i + 1) R) i v w') else rl (List.replicate (i + 1) R) i undef w) :
    if Region.wanted o (says ρ ops) = true then GivesR P o ρ w (StepY m l B i y w) else StepY m l B i y w undef w := by
  have e : ∀ v w, rl (List.replicate (i + 1) R) i v w = R.r v w := by
    intro v w
    unfold rl
    rw [List.getD_eq_getElem?_getD, List.getElem?_replicate, if_pos (by omega)]
    rfl
  simp only [e] at h
  by_cases hw : Region.wanted o (says ρ ops) = true
  · rw [if_pos hw] at h ⊢
    unfold GivesR at h ⊢
    generalize (execOp ρ o).run P w = q at h ⊢
    cases q with
    | ok n w' =>
      cases n with
      | value v => exact stepY_grow hbst hB h.1 (hR _ _ h.2)
      | skip => exact stepY_grow hbst hB h.1 (hR _ _ h.2)
      | enter f args =>
        refine Calls.mono h fun e w'' he => ?_
        cases e
        case returned v => exact stepY_grow hbst hB he.1 (hR _ _ he.2)
        all_goals exact he
      | _ => exact h
    | halt x w' => exact h
  · rw [if_neg hw] at h ⊢
    exact stepY_grow hbst hB (Below.refl _ _) (hR _ _ h)
/-- Memory made in the region: where it lies is not known ahead. -/
def allocR (B : Nat) (T : TypeId) (n : Nat) : Rel := ⟨fun v w => ∃ g cs, v = .pointer (some ⟨g, 0, none⟩) ∧ B ≤ g ∧ Blk w g cs T ∧ cs.size = n, fun _ _ _ hb ⟨g, cs, h1, h2, h3, h4⟩ => ⟨g, cs, h1, h2, h3.ext hb, h4⟩⟩
theorem allocR_keep {B : Nat} {T T' : TypeId} {n : Nat} {v : Value} {w w' : World} (h : (allocR B T n).r v w) {g : Nat} {cs : Array Value} (hg : Blk w' g cs T') (hsz : T = T' → cs.size = n) (hold : ∃ cur, Blk w g cur T') (hgr : w.grownBy w' (some g)) : (allocR B T n).r v w' := by
  obtain ⟨g', cs', h1, h2, h3, h4⟩ := h
  by_cases e : g' = g
  · subst e
    obtain ⟨cur, hc⟩ := hold
    have e2 : T = T' := by
      unfold Blk at h3 hc
      rw [hc] at h3
      simp only [Option.some.injEq, Obj.cells.injEq] at h3
      exact h3.2.1.symm
    subst e2
    exact ⟨g', cs, h1, h2, hg, hsz rfl⟩
  · exact ⟨g', cs', h1, h2, h3.grown hgr (fun e2 => e (Option.some.inj e2).symm), h4⟩
/-- A store of a struct, or an array, into a whole block. -/
theorem askY_store {P : Program} {ops : Array Oper} {ρ : Operand → Value} {o : Oper} {w : World} {m : Nat} {l : List RelY} {B : World → Prop} {i : Nat} {y : Nat → Value} (hw : Region.wanted o (says ρ ops) = true) (ty : TypeId) (x z : Operand) (ho : o.op = .store ty x z)
    (g off : Nat) (v : Value) (cells : List Value) (hx : ρ x = .pointer (some ⟨g, off, none⟩)) (hz : ρ z = v) (hc : v.cells.toList = cells) (cur : Array Value) (T : TypeId) (hg : Blk w g cur T)
    (hfit : off + cells.length ≤ cur.size) (hi : (P.info? ty).map (·.size) = some cells.length) (h1 : ∀ u ∈ cells, u.oneCell' = true)
    (h : ∀ w', Blk w' g (putAt cur off cells) T → w.grownBy w' (some g) → StepY m l B i y w undef w') :
    if Region.wanted o (says ρ ops) = true then GivesR P o ρ w (StepY m l B i y w) else StepY m l B i y w undef w := by
  rw [if_pos hw]
  have hst := run_storeCells_cells (P := P) g off cells 0 w
    (fun j hj => by rw [Nat.add_zero, hg.cell]; simp [show off + j < cur.size by omega]) (fun j hj => hg.free _) h1
  simp only [Nat.add_zero] at hst
  have hsv : (storeVar ty ⟨g, off, none⟩ v).run P w = .ok () (w.setCells g off cells) := by
    cases hq : P.info? ty with
    | none => simp [hq] at hi
    | some i =>
      have hs : i.size = cells.length := by simpa [hq] using hi
      have hv : v.cells.size = cells.length := by rw [← hc]; simp
      simp [storeVar, Go.sizeOf, typeInfo, hq, hs, hv, hc, hst]
  unfold GivesR execOp
  simp only [ho, hx, hz, Instr.storeAt, Instr.sureAddr, Sem.run_bind, Sem.run_pure, Result.andThen_ok, hsv]
  exact h _ (hg.setCells _ _) (grownBy_setCells _ _ _ _)
end Pw
