/- The rule of drawn regions (Grow), its tail held back by what stands ahead of it near and far. -/
import Derived.Test.YtmdnmknmniabeaaGrow2
namespace Pw
open Go Go.RowKit
set_option linter.unusedSimpArgs false
set_option linter.unusedVariables false
/-- The state in the midst of a region: those listed have been carried out. -/
def AmidT (ops : Array Oper) (m : Nat) (R : Nat → Value → World → Prop) (a0 : Act) (w0 : World) (listed : Array Bool) (a : Act) (w : World) : Prop :=
  (∀ i, m ≤ i → listed.getD i false = false) ∧ (∀ i o, ops[i]? = some o → listed.getD i false = true → ∀ e ∈ o.after, listed.getD e.on false = true) ∧ ∃ y : Nat → Value, a = { a0 with tmps := lay (fun i => listed.getD i false) y ops.toList 0 a0.tmps } ∧ Below w0.heap.size w0 w ∧ ∀ i, i < ops.size → listed.getD i false = true → R i (y i) w

/-- What stands ahead of operation i, near and far. -/
def aheadOf (ops : Array Oper) : Nat → Nat → List Nat
  | 0, _ => []
  | f + 1, i => match ops[i]? with
    | none => []
    | some o => o.after.toList.flatMap fun e => e.on :: aheadOf ops f e.on
def tailOkT (ops : Array Oper) (m : Nat) : Bool :=
  (List.range ops.size).all fun i => decide (i < m) || (List.range i).all fun j => (aheadOf ops ops.size i).contains j
theorem ahead_listed {ops : Array Oper} {listed : Array Bool} (hc : ∀ i o, ops[i]? = some o → listed.getD i false = true → ∀ e ∈ o.after, listed.getD e.on false = true) : ∀ (f i : Nat), (∀ o, ops[i]? = some o → ∀ e ∈ o.after, listed.getD e.on false = true) → ∀ j ∈ aheadOf ops f i, listed.getD j false = true
  | 0, _, _, j, hj => by simp [aheadOf] at hj
  | f + 1, i, h, j, hj => by
    unfold aheadOf at hj
    cases ho : ops[i]? with
    | none => simp [ho] at hj
    | some o =>
      simp only [ho, List.mem_flatMap] at hj
      obtain ⟨e, he, hj⟩ := hj
      have he' := Array.mem_toList_iff.1 he
      rcases List.mem_cons.1 hj with rfl | hj
      · exact h o ho e he'
      · exact ahead_listed hc f e.on (fun o' ho' => hc e.on o' ho' (h o ho e he')) j hj
theorem tailOkT_at {ops : Array Oper} {m : Nat} (h : tailOkT ops m = true) {listed : Array Bool} (hc : ∀ i o, ops[i]? = some o → listed.getD i false = true → ∀ e ∈ o.after, listed.getD e.on false = true) {i : Nat} {o : Oper} (hi : ops[i]? = some o) (hL : ∀ e ∈ o.after, listed.getD e.on false = true) (hm : m ≤ i) (j : Nat) (hj : j < i) : listed.getD j false = true := by
  have hlt : i < ops.size := (Array.getElem?_eq_some_iff.1 hi).1
  have h1 := List.all_eq_true.1 h i (List.mem_range.2 hlt)
  simp only [Bool.or_eq_true, decide_eq_true_eq] at h1
  rcases h1 with h1 | h1
  · omega
  · have h2 := List.all_eq_true.1 h1 j (List.mem_range.2 hj)
    refine ahead_listed hc ops.size i (fun o' ho' => ?_) j (by simpa using h2)
    rw [hi] at ho'
    cases ho'
    exact hL
theorem tail_anyT {P : Program} {ops : Array Oper} {Q : Exit → Act → World → Prop} {m : Nat} (hok : growOk ops = true) (ht : tailOkT ops m = true) : ∀ (fuel k : Nat) (listed : Array Bool) (a : Act) (w : World),
    m ≤ k → k ≤ ops.size → ops.size - k ≤ fuel → listed.size = ops.size → (∀ i, i < ops.size → listed.getD i false = decide (i < k)) → wpList P ops Q (ops.toList.drop k) a w → wpAny P .any ops Q fuel listed a w := by
  intro fuel
  induction fuel with
  | zero =>
    intro k listed a w hmk hk hf hsz hL h
    obtain rfl : k = ops.size := by omega
    refine ⟨?_, ?_⟩
    · rw [List.eq_nil_iff_forall_not_mem]
      intro i hi
      obtain ⟨h1, o, ho, _⟩ := mem_ready.1 hi
      have hlt : i < ops.size := (Array.getElem?_eq_some_iff.1 ho).1
      have := hL i hlt
      simp [Array.getD_eq_getD_getElem?, show i < listed.size by omega] at h1 this
      rw [h1] at this
      simp [hlt] at this
    · rw [List.drop_eq_nil_of_le (by simp)] at h
      simpa [wpList] using h
  | succ fuel ih =>
    intro k listed a w hmk hk hf hsz hL h
    have only : ∀ i ∈ Region.ready .any ops listed, i = k := by
      intro i hi
      obtain ⟨h1, o, ho, hdeps⟩ := mem_ready.1 hi
      have hlt : i < ops.size := (Array.getElem?_eq_some_iff.1 ho).1
      have h2 := hL i hlt
      have h3 : listed.getD i false = false := by
        simp [Array.getD_eq_getD_getElem?, show i < listed.size by omega] at h1 ⊢
        exact h1
      rw [h3] at h2
      have hki : k ≤ i := by
        have := h2.symm
        simpa using this
      rcases Nat.lt_or_ge k i with hlt' | hge
      · exfalso
        have h4 : listed.getD k false = true := tailOkT_at ht (fun i' o' ho' hl' e he => by
          have hi' : i' < ops.size := (Array.getElem?_eq_some_iff.1 ho').1
          have h8 := (growOk_at hok ho').2.1 e he
          rw [hL i' hi'] at hl'
          have h9 : i' < k := by simpa using hl'
          rw [hL e.on (by omega)]
          simp; omega) ho (fun e he => hdeps e he ((growOk_at hok ho).2.1 e he).1) (by omega) k hlt'
        have h5 := hL k (by omega)
        rw [h4] at h5
        simp at h5
      · omega
    refine ⟨fun hready => ?_, fun i hi => ?_⟩
    · rcases Nat.lt_or_ge k ops.size with hlt | hge
      · exfalso
        have : k ∈ Region.ready .any ops listed := by
          rw [mem_ready]
          refine ⟨?_, ops[k], by simp [hlt], fun e he hb => ?_⟩
          · have := hL k hlt
            simp [Array.getD_eq_getD_getElem?, show k < listed.size by omega] at this ⊢
            exact this
          · have h6 := (growOk_at hok (i := k) (o := ops[k]) (by simp [hlt])).2.1 e he
            rw [hL e.on (by omega)]
            simp [h6.2]
        rw [hready] at this
        cases this
      · rw [List.drop_eq_nil_of_le (by simpa using hge)] at h
        simpa [wpList] using h
    · obtain rfl := only i hi
      obtain ⟨_, o, ho, _⟩ := mem_ready.1 hi
      have hlt : i < ops.size := (Array.getElem?_eq_some_iff.1 ho).1
      have hdrop : ops.toList.drop i = o :: ops.toList.drop (i + 1) := by
        rw [List.drop_eq_getElem_cons (by simpa using hlt)]
        congr 1
        have := (Array.getElem?_eq_some_iff.1 ho).2
        simpa using this
      rw [hdrop] at h
      have hw : wpOp P ops Q i (wpList P ops Q (ops.toList.drop (i + 1))) a w := by
        unfold wpOp
        simp only [ho]
        simpa [wpList] using h
      refine wpOp_mono (fun a' w' h' => ih (i + 1) _ a' w' (by omega) (by omega) (by omega) (by simp [hsz]) (fun j hj => ?_) h') hw
      by_cases hji : j = i
      · subst hji
        simp [Array.getD_eq_getD_getElem?, show j < listed.size by omega]
      · have := hL j hj
        simp only [Array.getD_eq_getD_getElem?, Array.getElem?_setIfInBounds_ne (Ne.symm hji)] at this ⊢
        rw [this]
        congr 1
        simp
        omega

/-- THE RULE. 'R i v w': what is known of the value v of operation i, in the world w, and in each that has grown out of it. The operations from m on stand in one forced order behind all others: they are walked as any list. -/
theorem wp_region_growT {P : Program} {ops : Array Oper} {Q : Exit → Act → World → Prop} {id : Nat} {a0 : Act} {w0 : World} (m : Nat) (hm : P.follows .mixedOrders = true) (hok : growOk ops = true) (ht : tailOkT ops m = true) (hmn : m ≤ ops.size)
    (R : Nat → Value → World → Prop) (hstab : ∀ i v w w', Below w.heap.size w w' → R i v w → R i v w')
    (hstep : ∀ i o, i < m → ops[i]? = some o → ∀ y w, Below w0.heap.size w0 w → (∀ j, o.after.toList.any (fun e => e.on == j) = true → R j (y j) w) →
      if Region.wanted o (yielded ops (lay (fun _ => true) y ops.toList 0 a0.tmps)) = true then Gives P o { a0 with tmps := lay (fun _ => true) y ops.toList 0 a0.tmps } w (fun v w' => Below w.heap.size w w' ∧ R i v w') else R i undef w)
    (hend : ∀ y w, Below w0.heap.size w0 w → (∀ i, i < m → R i (y i) w) → wpList P ops Q (ops.toList.drop m) { a0 with tmps := lay (fun i => decide (i < m)) y ops.toList 0 a0.tmps } w) :
    (Code.region id ops true).wp P Q a0 w0 := by
  have hall : ∀ (fuel : Nat) (listed : Array Bool) (a : Act) (w : World), listed.size = ops.size → listed.toList.countP (!·) ≤ fuel → AmidT ops m R a0 w0 listed a w → wpAny P .any ops Q fuel listed a w := by
    intro fuel
    induction fuel with
    | zero =>
      intro listed a w hsz hc hA
      have hl : ∀ i, i < ops.size → listed.getD i false = true := by
        intro i hlt
        have h0 : listed.toList.countP (!·) = 0 := by omega
        have := List.countP_eq_zero.1 h0 (listed[i]'(by omega)) (by simp)
        simpa [Array.getD_eq_getD_getElem?, show i < listed.size by omega] using this
      obtain ⟨hno, hcl, y, ha, hb, hR⟩ := hA
      have hmn' : m = ops.size := by
        rcases Nat.lt_or_ge m ops.size with h | h
        · have h1 := hl m h
          rw [hno m (Nat.le_refl _)] at h1
          cases h1
        · omega
      refine tail_anyT (m := m) hok ht 0 ops.size listed a w (by omega) (Nat.le_refl _) (by omega) hsz (fun i hi => by rw [hl i hi]; simp [hi]) ?_
      have := hend y w hb fun i hi => hR i (by omega) (hl i (by omega))
      rw [ha, lay_congr (fun i => listed.getD i false) (fun i => decide (i < m)) y ops.toList 0 a0.tmps (fun k hk => by
        have hk' : k < ops.size := by simpa using hk
        simp only [Nat.zero_add]
        rw [hl k hk']
        simp; omega)]
      rw [hmn'] at this ⊢
      exact this
    | succ fuel ih =>
      intro listed a w hsz hc hA
      by_cases hfull : ∀ i, i < m → listed.getD i false = true
      · obtain ⟨hno, hcl, y, ha, hb, hR⟩ := hA
        have hL : ∀ i, i < ops.size → listed.getD i false = decide (i < m) := by
          intro i hi
          by_cases him : i < m
          · rw [hfull i him]; simp [him]
          · rw [hno i (by omega)]; simp [him]
        have hcount : ops.size - m ≤ fuel + 1 := by
          have h1 : listed.toList.countP (!·) = ops.size - m := by
            have e : listed.toList = List.replicate m true ++ List.replicate (ops.size - m) false := by
              apply List.ext_getElem?
              intro i
              by_cases hi : i < ops.size
              · have h2 := hL i hi
                rw [Array.getElem?_toList, Array.getElem?_eq_getElem (show i < listed.size by omega)]
                simp only [Array.getD_eq_getD_getElem?, Array.getElem?_eq_getElem (show i < listed.size by omega), Option.getD_some] at h2
                rw [h2]
                by_cases him : i < m
                · rw [List.getElem?_append_left (by simpa using him)]
                  simp [him]
                · rw [List.getElem?_append_right (by simp; omega)]
                  rw [List.length_replicate, List.getElem?_replicate, if_pos (by omega)]
                  simp [him]
              · rw [List.getElem?_eq_none (by simp; omega), List.getElem?_eq_none (by simp; omega)]
            rw [e]
            simp [List.countP_append, List.countP_replicate]
          omega
        refine tail_anyT (m := m) hok ht (fuel + 1) m listed a w (Nat.le_refl _) hmn hcount hsz hL ?_
        have := hend y w hb fun i hi => hR i (by omega) (hfull i hi)
        rw [ha, lay_congr (fun i => listed.getD i false) (fun i => decide (i < m)) y ops.toList 0 a0.tmps (fun k hk => by
          simp only [Nat.zero_add]
          exact hL k (by simpa using hk))]
        exact this
      · have hready0 : Region.ready .any ops listed ≠ [] := by
          intro hready
          apply hfull
          intro i
          induction i using Nat.strongRecOn with
          | ind i ih' =>
            intro him
            by_cases hc' : listed.getD i false = true
            · exact hc'
            · exfalso
              have hi : i < ops.size := by omega
              have hmem : i ∈ Region.ready .any ops listed := by
                rw [mem_ready]
                refine ⟨?_, ops[i], by simp [hi], fun e he _ => ?_⟩
                · simpa [Array.getD_eq_getD_getElem?, show i < listed.size by omega] using hc'
                · have := (growOk_at hok (i := i) (o := ops[i]) (by simp [hi])).2.1 e he
                  exact ih' e.on this.2 (by omega)
              rw [hready] at hmem
              cases hmem
        refine ⟨fun h => absurd h hready0, fun i hi => ?_⟩
        obtain ⟨h1, o, ho, hdeps⟩ := mem_ready.1 hi
        have hlt : i < ops.size := (Array.getElem?_eq_some_iff.1 ho).1
        obtain ⟨hsel, hbinds, _⟩ := growOk_at hok ho
        have hL : ∀ e ∈ o.after, listed.getD e.on false = true := fun e he => hdeps e he (hbinds e he).1
        have him : i < m := by
          rcases Nat.lt_or_ge i m with h | h
          · exact h
          · exfalso
            apply hfull
            intro j hj
            exact tailOkT_at ht hA.2.1 ho hL h j (by omega)
        obtain ⟨hno, hcl, y, ha, hb, hR⟩ := hA
        have hnext : ∀ v w', Below w.heap.size w w' → R i v w' → wpAny P .any ops Q fuel (listed.setIfInBounds i true) (a.put o.dst v) w' := by
          intro v w' hbw hv
          refine ih _ _ _ (by simp [hsz]) ?_ ⟨fun k hk => ?_, fun k o' ho' hk e he => ?_, fun k => if k = i then v else y k, ?_, hb.trans (hbw.mono hb.size), ?_⟩
          · have hil : i < listed.toList.length := by simp; omega
            have hfalse : listed.toList[i] = false := by
              simpa [Array.getD_eq_getD_getElem?, show i < listed.size by omega] using h1
            have := List.countP_set (p := (!·)) (l := listed.toList) (i := i) (a := true) hil
            rw [hfalse] at this
            have hpos : 0 < listed.toList.countP (!·) := List.countP_pos_iff.2 ⟨listed.toList[i], List.getElem_mem hil, by rw [hfalse]; rfl⟩
            simp only [Array.toList_setIfInBounds]
            simp only [Bool.not_false, Bool.not_true, if_true, Bool.false_eq_true, if_false] at this
            omega
          · have := hno k hk
            simp only [Array.getD_eq_getD_getElem?, Array.getElem?_setIfInBounds_ne (show i ≠ k by omega)] at this ⊢
            exact this
          · have up : ∀ q, listed.getD q false = true → (listed.setIfInBounds i true).getD q false = true := by
              intro q hq
              by_cases hqi : q = i
              · subst hqi; simp [Array.getD_eq_getD_getElem?, show q < listed.size by omega]
              · simpa [Array.getD_eq_getD_getElem?, Array.getElem?_setIfInBounds_ne (Ne.symm hqi)] using hq
            apply up
            by_cases hki : k = i
            · subst hki
              rw [ho] at ho'
              cases ho'
              exact hL e he
            · exact hcl k o' ho' (by simpa [Array.getD_eq_getD_getElem?, Array.getElem?_setIfInBounds_ne (Ne.symm hki)] using hk) e he
          · rw [ha, lay_put hok ho hsz v]
          · intro k hk hLk
            by_cases hki : k = i
            · subst hki; simpa using hv
            · have : listed.getD k false = true := by
                simpa [Array.getD_eq_getD_getElem?, Array.getElem?_setIfInBounds_ne (Ne.symm hki)] using hLk
              simp only [hki, if_false]
              exact hstab _ _ _ _ hbw (hR k hk this)
        have heval : ∀ t ∈ o.looksAt ops, a.tmps[t]? = (lay (fun _ => true) y ops.toList 0 a0.tmps)[t]? := fun t ht => by
          rw [ha]; exact evals_lay hok ho hL t ht
        have hexec : execOp a.eval o = execOp ({ a0 with tmps := lay (fun _ => true) y ops.toList 0 a0.tmps } : Act).eval o := by
          refine execOp_congr o hsel fun x hx => ?_
          cases x with
          | tmp t =>
            have := heval t (List.mem_append_left _ (List.mem_filterMap.2 ⟨.tmp t, by simpa using hx, rfl⟩))
            simp [Act.eval, this]
          | _ => rfl
        have hwant : Region.wanted o (yielded ops a.tmps) = Region.wanted o (yielded ops (lay (fun _ => true) y ops.toList 0 a0.tmps)) := by
          unfold Region.wanted
          cases hg : o.guard with
          | none => rfl
          | some gw =>
            obtain ⟨g, want⟩ := gw
            have : yielded ops a.tmps g = yielded ops (lay (fun _ => true) y ops.toList 0 a0.tmps) g := by
              unfold yielded
              cases hd : (ops[g]?).bind (·.dst) with
              | none => rfl
              | some t =>
                have := heval t (List.mem_append_right _ (by simp [hg, hd]))
                simp [this]
            simp only [this]
        have hs := hstep i o him ho y w hb (fun j hj => by
          obtain ⟨e, he, hej⟩ := List.any_eq_true.1 hj
          have hej' : e.on = j := by simpa using hej
          subst hej'
          have he' := Array.mem_toList_iff.1 he
          exact hR e.on (by have := (hbinds e he').2; omega) (hL e he'))
        by_cases hwt : Region.wanted o (yielded ops (lay (fun _ => true) y ops.toList 0 a0.tmps)) = true
        · rw [if_pos hwt] at hs
          exact gives_wpOp ho (by rw [hwant]; exact hwt) hexec hs fun v w' h => hnext v w' h.1 h.2
        · rw [if_neg hwt] at hs
          unfold wpOp
          simp only [ho]
          rw [if_neg (by rw [hwant]; exact hwt)]
          exact hnext undef w (Below.refl _ _) hs
  refine wp_region_any hm (hall ops.size _ _ _ (by simp) ?_ ⟨fun i _ => ?_, fun i o' ho' hi => ?_, fun _ => undef, ?_, ?_, ?_⟩)
  · simpa using List.countP_le_length (p := (!·)) (l := List.replicate ops.size false)
  · simp [Array.getD_eq_getD_getElem?, Array.getElem?_replicate]; split <;> rfl
  · exfalso
    have : i < ops.size := (Array.getElem?_eq_some_iff.1 ho').1
    simp [Array.getD_eq_getD_getElem?, this] at hi
  · have e : lay (fun i => (Array.replicate ops.size false).getD i false) (fun _ => undef) ops.toList 0 a0.tmps = a0.tmps := by
      apply Array.ext_getElem?
      intro s
      exact lay_none _ _ s _ 0 _ fun k o' hk hd => by simp [Array.getD_eq_getD_getElem?, Array.getElem?_replicate]; split <;> rfl
    rw [e]
  · exact ⟨rfl, rfl, rfl, Nat.le_refl _, fun _ _ => rfl⟩
  · intro i hi hL
    simp [Array.getD_eq_getD_getElem?, hi] at hL

/-! ### the rule in the form in which it is used -/
theorem wp_growT {P : Program} {ops : Array Oper} {Q : Exit → Act → World → Prop} {id : Nat} {a0 : Act} {w0 : World} (m : Nat) (l : List Rel) (hm : P.follows .mixedOrders = true) (hok : growOk ops = true) (ht : tailOkT ops m = true) (hmn : m ≤ ops.size)
    (n : Nat) (hn : a0.tmps.size = n) (hsz : growSize ops n = true)
    (hstep : AllFrom (Asked P ops a0 w0 l) 0 (ops.toList.take m))
    (hend : ∀ y w, Below w0.heap.size w0 w → (∀ i, i < m → rl l i (y i) w) → wpList P ops Q (ops.toList.drop m) { a0 with tmps := lay (fun i => decide (i < m)) y ops.toList 0 a0.tmps } w) :
    (Code.region id ops true).wp P Q a0 w0 := by
  refine wp_region_growT m hm hok ht hmn (rl l) (fun i v w w' hb h => (l.getD i anyR).st v w w' hb h) (fun i o him hi y w hb hd => ?_) hend
  have hwr : ∀ t j, writer ops t = some j → ({ a0 with tmps := lay (fun _ => true) y ops.toList 0 a0.tmps } : Act).eval (.tmp t) = y j := by
    intro t j hw
    unfold writer at hw
    have h1 := List.find?_some hw
    have h2 := List.mem_range.1 (List.mem_of_find?_eq_some hw)
    cases ho : ops[j]? with
    | none => simp [ho] at h1
    | some p =>
      have hd' : p.dst = some t := by simpa [ho] using h1
      have hlt : t < a0.tmps.size := by
        have := List.all_eq_true.1 hsz p (Array.mem_toList_iff.2 (Array.mem_of_getElem? ho))
        rw [hn]
        simpa [hd'] using this
      have hu : ∀ k' o', ops.toList[k']? = some o' → o'.dst = some t → k' = j := by
        intro k' o' hk' hdk
        rcases ((growOk_at hok (i := k') (o := o') (by simpa using hk')).2.2 j p t ho hd').1 with h | h
        · exact h
        · exact absurd hdk h
      have := lay_some (fun _ => true) y t ops.toList 0 a0.tmps j p (by simpa using ho) hd' rfl hu hlt
      simp [Act.eval, this]
  have hno : ∀ x, (match x with | .tmp t => writer ops t = none | _ => True) → ({ a0 with tmps := lay (fun _ => true) y ops.toList 0 a0.tmps } : Act).eval x = a0.eval x := by
    intro x hx
    cases x with
    | tmp t =>
      have : (lay (fun _ => true) y ops.toList 0 a0.tmps)[t]? = a0.tmps[t]? := by
        refine lay_none _ y t _ 0 _ fun k o' hk hd' => ?_
        exfalso
        simp only [writer] at hx
        have hk' : ops[k]? = some o' := by simpa using hk
        have hklt : k < ops.size := (Array.getElem?_eq_some_iff.1 hk').1
        have := List.find?_eq_none.1 hx k (List.mem_range.2 hklt)
        simp [hk', hd'] at this
      simp [Act.eval, this]
    | _ => rfl
  have hsays : Region.wanted o (yielded ops (lay (fun _ => true) y ops.toList 0 a0.tmps)) = Region.wanted o (says ({ a0 with tmps := lay (fun _ => true) y ops.toList 0 a0.tmps } : Act).eval ops) := by
    congr 1
    funext g
    unfold yielded says
    cases (ops[g]?).bind (·.dst) with
    | none => rfl
    | some d =>
      simp only [Option.bind_some, Act.eval, Array.getD_eq_getD_getElem?]
      generalize (lay (fun _ => true) y ops.toList 0 a0.tmps)[d]? = q
      cases q with
      | none => rfl
      | some v => cases v <;> rfl
  have hi' : (ops.toList.take m)[i]? = some o := by rw [List.getElem?_take, if_pos him]; simpa using hi
  have := AllFrom.at hstep i o hi' _ y w hwr hno hb hd
  rw [Nat.zero_add] at this
  rw [hsays]
  exact this

end Pw
