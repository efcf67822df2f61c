/- The rule of drawn regions (Grow) where ONE operation may change what is there: what it needs stands ahead of it; what else there is (an address, reckoned) is the same in each world. -/
import Derived.Test.YtmdnmknmniabeaaGrowT
namespace Pw
open Go Go.RowKit
set_option linter.unusedSimpArgs false
set_option linter.unusedVariables false

theorem grown_but' {a c : World} (h : a.grownBy c none) (row : Option Nat) : a.grownBy c row := ⟨h.os, h.tape, h.output, h.size, fun i hi _ => h.block i hi (by simp)⟩
/-- Operations whose value is the same in each world. -/
def puOf (ps : List (Nat × Value)) (i : Nat) : Option Value := ps.lookup i
/-- Operation m comes behind all that stand ahead of it and are not of those. -/
def cOk (ops : Array Oper) (m : Nat) (ps : List (Nat × Value)) : Bool :=
  (List.range m).all fun j => (puOf ps j).isSome || (aheadOf ops ops.size m).contains j
/-- Between m and k1 there are none but those. -/
def midOk (m k1 : Nat) (ps : List (Nat × Value)) : Bool := (List.range k1).all fun j => decide (j ≤ m) || (puOf ps j).isSome
/-- They look at none but those. -/
def puOk (ops : Array Oper) (m : Nat) (ps : List (Nat × Value)) : Bool :=
  (List.range ops.size).all fun i => (puOf ps i).isNone || (decide (i ≠ m) && match ops[i]? with | some o => o.after.toList.all (fun e => (puOf ps e.on).isSome) | none => true)
theorem cOk_at {ops : Array Oper} {m : Nat} {ps : List (Nat × Value)} (h : cOk ops m ps = true) {listed : Array Bool} (hc : ∀ i o, ops[i]? = some o → listed.getD i false = true → ∀ e ∈ o.after, listed.getD e.on false = true) (hL : ∀ o, ops[m]? = some o → ∀ e ∈ o.after, listed.getD e.on false = true) (j : Nat) (hj : j < m) (hp : puOf ps j = none) : listed.getD j false = true := by
  have h1 := List.all_eq_true.1 h j (List.mem_range.2 hj)
  rw [hp] at h1
  exact ahead_listed hc ops.size m hL j (by simpa using h1)
theorem mid_at {m k1 : Nat} {ps : List (Nat × Value)} (h : midOk m k1 ps = true) (j : Nat) (hj : j < k1) (hm : m < j) : ∃ v, puOf ps j = some v := by
  have h1 := List.all_eq_true.1 h j (List.mem_range.2 hj)
  simp only [Bool.or_eq_true, decide_eq_true_eq] at h1
  rcases h1 with h1 | h1
  · omega
  · exact Option.isSome_iff_exists.1 h1
theorem pu_at {ops : Array Oper} {m : Nat} {ps : List (Nat × Value)} (h : puOk ops m ps = true) {i : Nat} {v : Value} {o : Oper} (hi : ops[i]? = some o) (hp : puOf ps i = some v) : i ≠ m ∧ ∀ e ∈ o.after, ∃ u, puOf ps e.on = some u := by
  have hlt : i < ops.size := (Array.getElem?_eq_some_iff.1 hi).1
  have h1 := List.all_eq_true.1 h i (List.mem_range.2 hlt)
  rw [hp, hi] at h1
  simp only [Option.isNone_some, Bool.false_or, Bool.and_eq_true, decide_eq_true_eq] at h1
  exact ⟨h1.1, fun e he => Option.isSome_iff_exists.1 (List.all_eq_true.1 h1.2 e (Array.mem_toList_iff.2 he))⟩
/-- The state in the midst of such a region. -/
def AmidC (P : Program) (ops : Array Oper) (Q : Exit → Act → World → Prop) (m k1 : Nat) (ps : List (Nat × Value)) (R : Nat → Value → World → Prop) (a0 : Act) (w0 : World) (listed : Array Bool) (a : Act) (w : World) : Prop :=
  (∀ i, k1 ≤ i → listed.getD i false = false) ∧ (∀ i o, ops[i]? = some o → listed.getD i false = true → ∀ e ∈ o.after, listed.getD e.on false = true) ∧
  ∃ y : Nat → Value, (∀ i v, puOf ps i = some v → y i = v) ∧ a = { a0 with tmps := lay (fun i => listed.getD i false) y ops.toList 0 a0.tmps } ∧
    ((listed.getD m false = false ∧ Below w0.heap.size w0 w ∧ ∀ i, i < m → puOf ps i = none → listed.getD i false = true → R i (y i) w) ∨
     (listed.getD m false = true ∧ wpList P ops Q (ops.toList.drop k1) { a0 with tmps := lay (fun i => decide (i < k1)) y ops.toList 0 a0.tmps } w))
theorem listed_up {listed : Array Bool} {i : Nat} (hi : i < listed.size) (q : Nat) (hq : listed.getD q false = true) : (listed.setIfInBounds i true).getD q false = true := by
  by_cases hqi : q = i
  · subst hqi; simp [Array.getD_eq_getD_getElem?, hi]
  · simpa [Array.getD_eq_getD_getElem?, Array.getElem?_setIfInBounds_ne (Ne.symm hqi)] using hq
theorem listed_ne {listed : Array Bool} {i q : Nat} (h : q ≠ i) : (listed.setIfInBounds i true).getD q false = listed.getD q false := by
  simp [Array.getD_eq_getD_getElem?, Array.getElem?_setIfInBounds_ne (Ne.symm h)]
theorem listed_self {listed : Array Bool} {i : Nat} (hi : i < listed.size) : (listed.setIfInBounds i true).getD i false = true := by
  simp [Array.getD_eq_getD_getElem?, hi]
theorem count_less {listed : Array Bool} {i fuel : Nat} (hi : i < listed.size) (h1 : listed.getD i true = false) (hc : listed.toList.countP (!·) ≤ fuel + 1) : (listed.setIfInBounds i true).toList.countP (!·) ≤ fuel := by
  have hil : i < listed.toList.length := by simp; omega
  have hfalse : listed.toList[i] = false := by
    simpa [Array.getD_eq_getD_getElem?, hi] using h1
  have := List.countP_set (p := (!·)) (l := listed.toList) (i := i) (a := true) hil
  rw [hfalse] at this
  have hpos : 0 < listed.toList.countP (!·) := List.countP_pos_iff.2 ⟨listed.toList[i], List.getElem_mem hil, by rw [hfalse]; rfl⟩
  simp only [Array.toList_setIfInBounds]
  simp only [Bool.not_false, Bool.not_true, if_true, Bool.false_eq_true, if_false] at this
  omega
theorem count_tail {ops : Array Oper} {listed : Array Bool} {k1 : Nat} (hsz : listed.size = ops.size) (hk : k1 ≤ ops.size) (hL : ∀ i, i < ops.size → listed.getD i false = decide (i < k1)) : listed.toList.countP (!·) = ops.size - k1 := by
  have e : listed.toList = List.replicate k1 true ++ List.replicate (ops.size - k1) false := by
    apply List.ext_getElem?
    intro i
    by_cases hi : i < ops.size
    · have h2 := hL i hi
      rw [Array.getElem?_toList, Array.getElem?_eq_getElem (show i < listed.size by omega)]
      simp only [Array.getD_eq_getD_getElem?, Array.getElem?_eq_getElem (show i < listed.size by omega), Option.getD_some] at h2
      rw [h2]
      by_cases him : i < k1
      · rw [List.getElem?_append_left (by simpa using him)]
        simp [him]
      · rw [List.getElem?_append_right (by simp; omega)]
        rw [List.length_replicate, List.getElem?_replicate, if_pos (by omega)]
        simp [him]
    · rw [List.getElem?_eq_none (by simp; omega), List.getElem?_eq_none (by simp; omega)]
  rw [e]
  simp [List.countP_append, List.countP_replicate]
theorem wp_region_growC {P : Program} {ops : Array Oper} {Q : Exit → Act → World → Prop} {id : Nat} {a0 : Act} {w0 : World} (m k1 : Nat) (ps : List (Nat × Value)) (hm : P.follows .mixedOrders = true) (hok : growOk ops = true) (ht : tailOkT ops k1 = true) (hcok : cOk ops m ps = true) (hmid : midOk m k1 ps = true) (hpu : puOk ops m ps = true) (hmk : m < k1) (hk1 : k1 ≤ ops.size)
    (R : Nat → Value → World → Prop) (hstab : ∀ i v w w', Below w.heap.size w w' → R i v w → R i v w')
    (hstep : ∀ i o, i < m → puOf ps i = none → ops[i]? = some o → ∀ y w, (∀ i v, puOf ps i = some v → y i = v) → Below w0.heap.size w0 w → (∀ j, o.after.toList.any (fun e => e.on == j) = true → match puOf ps j with | some v => y j = v | none => R j (y j) w) →
      if Region.wanted o (yielded ops (lay (fun _ => true) y ops.toList 0 a0.tmps)) = true then Gives P o { a0 with tmps := lay (fun _ => true) y ops.toList 0 a0.tmps } w (fun v w' => Below w.heap.size w w' ∧ R i v w') else R i undef w)
    (hpure : ∀ i v o, puOf ps i = some v → ops[i]? = some o → ∀ y w, (∀ i v, puOf ps i = some v → y i = v) →
      Region.wanted o (yielded ops (lay (fun _ => true) y ops.toList 0 a0.tmps)) = true ∧ (execOp ({ a0 with tmps := lay (fun _ => true) y ops.toList 0 a0.tmps } : Act).eval o).run P w = .ok (.value v) w)
    (hend : ∀ y w o, ops[m]? = some o → (∀ i v, puOf ps i = some v → y i = v) → Below w0.heap.size w0 w → (∀ i, i < m → match puOf ps i with | some v => y i = v | none => R i (y i) w) →
      Region.wanted o (yielded ops (lay (fun _ => true) y ops.toList 0 a0.tmps)) = true ∧
      Gives P o { a0 with tmps := lay (fun _ => true) y ops.toList 0 a0.tmps } w fun v w' => wpList P ops Q (ops.toList.drop k1) { a0 with tmps := lay (fun i => decide (i < k1)) (fun i => if i = m then v else y i) ops.toList 0 a0.tmps } w') :
    (Code.region id ops true).wp P Q a0 w0 := by
  have hall : ∀ (fuel : Nat) (listed : Array Bool) (a : Act) (w : World), listed.size = ops.size → listed.toList.countP (!·) ≤ fuel → AmidC P ops Q m k1 ps R a0 w0 listed a w → wpAny P .any ops Q fuel listed a w := by
    have hfin : ∀ (fuel : Nat) (listed : Array Bool) (a : Act) (w : World), listed.size = ops.size → listed.toList.countP (!·) ≤ fuel → AmidC P ops Q m k1 ps R a0 w0 listed a w → (∀ i, i < k1 → listed.getD i false = true) → wpAny P .any ops Q fuel listed a w := by
      intro fuel listed a w hsz hc hA hfull
      obtain ⟨hno, hcl, y, hV, ha, hph⟩ := hA
      have hL : ∀ i, i < ops.size → listed.getD i false = decide (i < k1) := by
        intro i hi
        by_cases him : i < k1
        · rw [hfull i him]; simp [him]
        · rw [hno i (by omega)]; simp [him]
      rcases hph with ⟨h1, _⟩ | ⟨_, hw⟩
      · rw [hfull m hmk] at h1; cases h1
      · refine tail_anyT (m := k1) hok ht fuel k1 listed a w (Nat.le_refl _) hk1 (by have := count_tail hsz hk1 hL; omega) hsz hL ?_
        rw [ha, lay_congr (fun i => listed.getD i false) (fun i => decide (i < k1)) y ops.toList 0 a0.tmps (fun k hk => by
          simp only [Nat.zero_add]
          exact hL k (by simpa using hk))]
        exact hw
    intro fuel
    induction fuel with
    | zero =>
      intro listed a w hsz hc hA
      refine hfin 0 listed a w hsz hc hA fun i hi => ?_
      have h0 : listed.toList.countP (!·) = 0 := by omega
      have := List.countP_eq_zero.1 h0 (listed[i]'(by omega)) (by simp)
      simpa [Array.getD_eq_getD_getElem?, show i < listed.size by omega] using this
    | succ fuel ih =>
      intro listed a w hsz hc hA
      by_cases hfull : ∀ i, i < k1 → listed.getD i false = true
      · exact hfin _ listed a w hsz hc hA hfull
      · have hready0 : Region.ready .any ops listed ≠ [] := by
          intro hready
          apply hfull
          intro i
          induction i using Nat.strongRecOn with
          | ind i ih' =>
            intro him
            by_cases hc' : listed.getD i false = true
            · exact hc'
            · exfalso
              have hi : i < ops.size := by omega
              have hmem : i ∈ Region.ready .any ops listed := by
                rw [mem_ready]
                refine ⟨?_, ops[i], by simp [hi], fun e he _ => ?_⟩
                · simpa [Array.getD_eq_getD_getElem?, show i < listed.size by omega] using hc'
                · have := (growOk_at hok (i := i) (o := ops[i]) (by simp [hi])).2.1 e he
                  exact ih' e.on this.2 (by omega)
              rw [hready] at hmem
              cases hmem
        refine ⟨fun h => absurd h hready0, fun i hi => ?_⟩
        obtain ⟨h1, o, ho, hdeps⟩ := mem_ready.1 hi
        have hlt : i < ops.size := (Array.getElem?_eq_some_iff.1 ho).1
        have hls : i < listed.size := by omega
        obtain ⟨hsel, hbinds, _⟩ := growOk_at hok ho
        have hL : ∀ e ∈ o.after, listed.getD e.on false = true := fun e he => hdeps e he (hbinds e he).1
        have hnl : listed.getD i false = false := by simpa [Array.getD_eq_getD_getElem?, hls] using h1
        have him : i < k1 := by
          rcases Nat.lt_or_ge i k1 with h | h
          · exact h
          · exfalso
            apply hfull
            intro j hj
            exact tailOkT_at ht hA.2.1 ho hL h j (by omega)
        obtain ⟨hno, hcl, y, hV, ha, hph⟩ := hA
        have hcl' : ∀ k o', ops[k]? = some o' → (listed.setIfInBounds i true).getD k false = true → ∀ e ∈ o'.after, (listed.setIfInBounds i true).getD e.on false = true := by
          intro k o' ho' hk e he
          apply listed_up hls
          by_cases hki : k = i
          · subst hki
            rw [ho] at ho'
            cases ho'
            exact hL e he
          · rw [listed_ne hki] at hk
            exact hcl k o' ho' hk e he
        have hno' : ∀ k, k1 ≤ k → (listed.setIfInBounds i true).getD k false = false := fun k hk => by rw [listed_ne (by omega)]; exact hno k hk
        have hnext : ∀ v w' y', (∀ k, y' k = if k = i then v else y k) → (∀ i v, puOf ps i = some v → y' i = v) →
            (((listed.setIfInBounds i true).getD m false = false ∧ Below w0.heap.size w0 w' ∧ ∀ k, k < m → puOf ps k = none → (listed.setIfInBounds i true).getD k false = true → R k (y' k) w') ∨
             ((listed.setIfInBounds i true).getD m false = true ∧ wpList P ops Q (ops.toList.drop k1) { a0 with tmps := lay (fun i => decide (i < k1)) y' ops.toList 0 a0.tmps } w')) →
            wpAny P .any ops Q fuel (listed.setIfInBounds i true) (a.put o.dst v) w' := by
          intro v w' y' hy' hV' hph'
          obtain rfl : y' = fun k => if k = i then v else y k := funext hy'
          refine ih _ _ _ (by simp [hsz]) (count_less hls h1 hc) ⟨hno', hcl', _, hV', ?_, hph'⟩
          rw [ha, lay_put hok ho hsz v]
        have heval : ∀ t ∈ o.looksAt ops, a.tmps[t]? = (lay (fun _ => true) y ops.toList 0 a0.tmps)[t]? := fun t ht => by
          rw [ha]; exact evals_lay hok ho hL t ht
        have hexec : execOp a.eval o = execOp ({ a0 with tmps := lay (fun _ => true) y ops.toList 0 a0.tmps } : Act).eval o := by
          refine execOp_congr o hsel fun x hx => ?_
          cases x with
          | tmp t =>
            have := heval t (List.mem_append_left _ (List.mem_filterMap.2 ⟨.tmp t, by simpa using hx, rfl⟩))
            simp [Act.eval, this]
          | _ => rfl
        have hwant : Region.wanted o (yielded ops a.tmps) = Region.wanted o (yielded ops (lay (fun _ => true) y ops.toList 0 a0.tmps)) := by
          unfold Region.wanted
          cases hg : o.guard with
          | none => rfl
          | some gw =>
            obtain ⟨g, want⟩ := gw
            have : yielded ops a.tmps g = yielded ops (lay (fun _ => true) y ops.toList 0 a0.tmps) g := by
              unfold yielded
              cases hd : (ops[g]?).bind (·.dst) with
              | none => rfl
              | some t =>
                have := heval t (List.mem_append_right _ (by simp [hg, hd]))
                simp [this]
            simp only [this]
        cases hp : puOf ps i with
        | some v =>
          have hne := (pu_at hpu ho hp).1
          obtain ⟨hw1, hr1⟩ := hpure i v o hp ho y w hV
          have hg : Gives P o { a0 with tmps := lay (fun _ => true) y ops.toList 0 a0.tmps } w (fun u w' => u = v ∧ w' = w) := by
            unfold Gives
            rw [hr1]
            exact ⟨rfl, rfl⟩
          refine gives_wpOp ho (by rw [hwant]; exact hw1) hexec hg fun u w' hu => ?_
          obtain ⟨rfl, rfl⟩ := hu
          refine hnext u w' y (fun k => ?_) hV ?_
          · by_cases hk : k = i
            · subst hk; rw [if_pos rfl]; exact hV _ _ hp
            · rw [if_neg hk]
          · rcases hph with ⟨h2, h3, h4⟩ | ⟨h2, h3⟩
            · refine .inl ⟨by rw [listed_ne (Ne.symm hne)]; exact h2, h3, fun k hk hpk hLk => ?_⟩
              have hki : k ≠ i := by rintro rfl; rw [hp] at hpk; cases hpk
              rw [listed_ne hki] at hLk
              exact h4 k hk hpk hLk
            · exact .inr ⟨listed_up hls _ h2, h3⟩
        | none =>
          have hile : i ≤ m := by
            rcases Nat.lt_or_ge m i with h | h
            · obtain ⟨v, hv⟩ := mid_at hmid i him h
              rw [hp] at hv
              cases hv
            · exact h
          rcases hph with ⟨h2, h3, h4⟩ | ⟨h2, h3⟩
          · by_cases hic : i = m
            · subst hic
              have hRall : ∀ k, k < i → match puOf ps k with | some v => y k = v | none => R k (y k) w := by
                intro k hk
                cases hpk : puOf ps k with
                | some v => exact hV k v hpk
                | none => exact h4 k hk hpk (cOk_at hcok hcl (fun o' ho' => by rw [ho] at ho'; cases ho'; exact hL) k hk hpk)
              obtain ⟨hw1, hg⟩ := hend y w o ho hV h3 hRall
              refine gives_wpOp ho (by rw [hwant]; exact hw1) hexec hg fun v w' hwp => ?_
              refine hnext v w' (fun k => if k = i then v else y k) (fun _ => rfl) (fun k u hku => ?_) (.inr ⟨listed_self hls, hwp⟩)
              have : k ≠ i := by rintro rfl; rw [hp] at hku; cases hku
              simp only [this, if_false]
              exact hV k u hku
            · have hilt : i < m := by omega
              have hs := hstep i o hilt hp ho y w hV h3 (fun j hj => by
                obtain ⟨e, he, hej⟩ := List.any_eq_true.1 hj
                have hej' : e.on = j := by simpa using hej
                subst hej'
                have he' := Array.mem_toList_iff.1 he
                cases hpj : puOf ps e.on with
                | some v => exact hV _ _ hpj
                | none => exact h4 e.on (by have := (hbinds e he').2; omega) hpj (hL e he'))
              have hgo : ∀ v w', Below w.heap.size w w' → R i v w' → wpAny P .any ops Q fuel (listed.setIfInBounds i true) (a.put o.dst v) w' := by
                intro v w' hbw hv
                refine hnext v w' (fun k => if k = i then v else y k) (fun _ => rfl) (fun k u hku => ?_) (.inl ⟨by rw [listed_ne (Ne.symm hic)]; exact h2, h3.trans (hbw.mono h3.size), fun k hk hpk hLk => ?_⟩)
                · have : k ≠ i := by rintro rfl; rw [hp] at hku; cases hku
                  simp only [this, if_false]
                  exact hV k u hku
                · by_cases hki : k = i
                  · subst hki; simpa using hv
                  · rw [listed_ne hki] at hLk
                    simp only [hki, if_false]
                    exact hstab _ _ _ _ hbw (h4 k hk hpk hLk)
              by_cases hwt : Region.wanted o (yielded ops (lay (fun _ => true) y ops.toList 0 a0.tmps)) = true
              · rw [if_pos hwt] at hs
                exact gives_wpOp ho (by rw [hwant]; exact hwt) hexec hs fun v w' h => hgo v w' h.1 h.2
              · rw [if_neg hwt] at hs
                unfold wpOp
                simp only [ho]
                rw [if_neg (by rw [hwant]; exact hwt)]
                exact hgo undef w (Below.refl _ _) hs
          · exfalso
            by_cases hic : i = m
            · subst hic; rw [hnl] at h2; cases h2
            · have hmo : ∃ om, ops[m]? = some om := ⟨ops[m]'(by omega), by simp [show m < ops.size by omega]⟩
              obtain ⟨om, hom⟩ := hmo
              have := cOk_at hcok hcl (fun o' ho' => hcl m o' ho' h2) i (by omega) hp
              rw [hnl] at this
              cases this
  refine wp_region_any hm (hall ops.size _ _ _ (by simp) ?_ ⟨fun i _ => ?_, fun i o' ho' hi => ?_, fun i => (puOf ps i).getD undef, fun i v h => (by show (puOf ps i).getD undef = v; rw [h]; rfl), ?_, .inl ⟨?_, ?_, ?_⟩⟩)
  · simpa using List.countP_le_length (p := (!·)) (l := List.replicate ops.size false)
  · simp [Array.getD_eq_getD_getElem?, Array.getElem?_replicate]; split <;> rfl
  · exfalso
    have : i < ops.size := (Array.getElem?_eq_some_iff.1 ho').1
    simp [Array.getD_eq_getD_getElem?, this] at hi
  · have e : ∀ y, lay (fun i => (Array.replicate ops.size false).getD i false) y ops.toList 0 a0.tmps = a0.tmps := by
      intro y
      apply Array.ext_getElem?
      intro s
      exact lay_none _ _ s _ 0 _ fun k o' hk hd => by simp [Array.getD_eq_getD_getElem?, Array.getElem?_replicate]; split <;> rfl
    rw [e]
  · simp [Array.getD_eq_getD_getElem?, Array.getElem?_replicate]; split <;> rfl
  · exact ⟨rfl, rfl, rfl, Nat.le_refl _, fun _ _ => rfl⟩
  · intro i hi _ hL
    simp [Array.getD_eq_getD_getElem?, show i < ops.size by omega] at hL

/-! ### the rule in the form in which it is used -/
/-- What is asked of operation i. -/
def AskedC (P : Program) (ops : Array Oper) (a0 : Act) (w0 : World) (ps : List (Nat × Value)) (l : List Rel) (i : Nat) (o : Oper) : Prop :=
  match puOf ps i with
  | some v => ∀ (ρ : Operand → Value) (y : Nat → Value) (w : World), (∀ t j, writer ops t = some j → ρ (.tmp t) = y j) → (∀ x, (match x with | .tmp t => writer ops t = none | _ => True) → ρ x = a0.eval x) → (∀ i v, puOf ps i = some v → y i = v) →
      Region.wanted o (says ρ ops) = true ∧ (execOp ρ o).run P w = .ok (.value v) w
  | none => ∀ (ρ : Operand → Value) (y : Nat → Value) (w : World), (∀ t j, writer ops t = some j → ρ (.tmp t) = y j) → (∀ x, (match x with | .tmp t => writer ops t = none | _ => True) → ρ x = a0.eval x) →
      Below w0.heap.size w0 w → (∀ j, o.after.toList.any (fun e => e.on == j) = true → match puOf ps j with | some v => y j = v | none => rl l j (y j) w) →
      if Region.wanted o (says ρ ops) = true then GivesR P o ρ w (fun v w' => Below w.heap.size w w' ∧ rl l i v w') else rl l i undef w
theorem askedC_pu {P : Program} {ops : Array Oper} {a0 : Act} {w0 : World} {ps : List (Nat × Value)} {l : List Rel} {i : Nat} {o : Oper} {v : Value} (h : puOf ps i = some v)
    (hh : ∀ (ρ : Operand → Value) (y : Nat → Value) (w : World), (∀ t j, writer ops t = some j → ρ (.tmp t) = y j) → (∀ x, (match x with | .tmp t => writer ops t = none | _ => True) → ρ x = a0.eval x) → (∀ i v, puOf ps i = some v → y i = v) → Region.wanted o (says ρ ops) = true ∧ (execOp ρ o).run P w = .ok (.value v) w) : AskedC P ops a0 w0 ps l i o := by
  unfold AskedC; rw [h]; exact hh
theorem askedC_not {P : Program} {ops : Array Oper} {a0 : Act} {w0 : World} {ps : List (Nat × Value)} {l : List Rel} {i : Nat} {o : Oper} (h : puOf ps i = none)
    (hh : ∀ (ρ : Operand → Value) (y : Nat → Value) (w : World), (∀ t j, writer ops t = some j → ρ (.tmp t) = y j) → (∀ x, (match x with | .tmp t => writer ops t = none | _ => True) → ρ x = a0.eval x) →
      Below w0.heap.size w0 w → (∀ j, o.after.toList.any (fun e => e.on == j) = true → match puOf ps j with | some v => y j = v | none => rl l j (y j) w) →
      if Region.wanted o (says ρ ops) = true then GivesR P o ρ w (fun v w' => Below w.heap.size w w' ∧ rl l i v w') else rl l i undef w) : AskedC P ops a0 w0 ps l i o := by
  unfold AskedC; rw [h]; exact hh
theorem wp_growC {P : Program} {ops : Array Oper} {Q : Exit → Act → World → Prop} {id : Nat} {a0 : Act} {w0 : World} (m k1 : Nat) (ps : List (Nat × Value)) (l : List Rel) (hm : P.follows .mixedOrders = true) (hok : growOk ops = true) (ht : tailOkT ops k1 = true) (hcok : cOk ops m ps = true) (hmid : midOk m k1 ps = true) (hpu : puOk ops m ps = true) (hmk : m < k1) (hk1 : k1 ≤ ops.size)
    (n : Nat) (hn : a0.tmps.size = n) (hsz : growSize ops n = true)
    (hstep : AllFrom (AskedC P ops a0 w0 ps l) 0 (ops.toList.take m)) (hmidl : AllFrom (AskedC P ops a0 w0 ps l) (m + 1) ((ops.toList.drop (m + 1)).take (k1 - (m + 1))))
    (hpl : ps.all (fun p => decide (p.1 < k1)) = true)
    (hend : ∀ (ρ : Operand → Value) (y : Nat → Value) (w : World) (o : Oper), ops[m]? = some o → (∀ t j, writer ops t = some j → ρ (.tmp t) = y j) → (∀ x, (match x with | .tmp t => writer ops t = none | _ => True) → ρ x = a0.eval x) → (∀ i v, puOf ps i = some v → y i = v) →
      Below w0.heap.size w0 w → (∀ i, i < m → match puOf ps i with | some v => y i = v | none => rl l i (y i) w) →
      Region.wanted o (says ρ ops) = true ∧ GivesR P o ρ w fun v w' => wpList P ops Q (ops.toList.drop k1) { a0 with tmps := lay (fun i => decide (i < k1)) (fun i => if i = m then v else y i) ops.toList 0 a0.tmps } w') :
    (Code.region id ops true).wp P Q a0 w0 := by
  have hwr : ∀ (y : Nat → Value) t j, writer ops t = some j → ({ a0 with tmps := lay (fun _ => true) y ops.toList 0 a0.tmps } : Act).eval (.tmp t) = y j := by
    intro y t j hw
    unfold writer at hw
    have h1 := List.find?_some hw
    have h2 := List.mem_range.1 (List.mem_of_find?_eq_some hw)
    cases ho : ops[j]? with
    | none => simp [ho] at h1
    | some p =>
      have hd' : p.dst = some t := by simpa [ho] using h1
      have hlt : t < a0.tmps.size := by
        have := List.all_eq_true.1 hsz p (Array.mem_toList_iff.2 (Array.mem_of_getElem? ho))
        rw [hn]
        simpa [hd'] using this
      have hu : ∀ k' o', ops.toList[k']? = some o' → o'.dst = some t → k' = j := by
        intro k' o' hk' hdk
        rcases ((growOk_at hok (i := k') (o := o') (by simpa using hk')).2.2 j p t ho hd').1 with h | h
        · exact h
        · exact absurd hdk h
      have := lay_some (fun _ => true) y t ops.toList 0 a0.tmps j p (by simpa using ho) hd' rfl hu hlt
      simp [Act.eval, this]
  have hno : ∀ (y : Nat → Value) x, (match x with | .tmp t => writer ops t = none | _ => True) → ({ a0 with tmps := lay (fun _ => true) y ops.toList 0 a0.tmps } : Act).eval x = a0.eval x := by
    intro y x hx
    cases x with
    | tmp t =>
      have : (lay (fun _ => true) y ops.toList 0 a0.tmps)[t]? = a0.tmps[t]? := by
        refine lay_none _ y t _ 0 _ fun k o' hk hd' => ?_
        exfalso
        simp only [writer] at hx
        have hk' : ops[k]? = some o' := by simpa using hk
        have hklt : k < ops.size := (Array.getElem?_eq_some_iff.1 hk').1
        have := List.find?_eq_none.1 hx k (List.mem_range.2 hklt)
        simp [hk', hd'] at this
      simp [Act.eval, this]
    | _ => rfl
  have hsays : ∀ (y : Nat → Value) (o : Oper), Region.wanted o (yielded ops (lay (fun _ => true) y ops.toList 0 a0.tmps)) = Region.wanted o (says ({ a0 with tmps := lay (fun _ => true) y ops.toList 0 a0.tmps } : Act).eval ops) := by
    intro y o
    congr 1
    funext g
    unfold yielded says
    cases (ops[g]?).bind (·.dst) with
    | none => rfl
    | some d =>
      simp only [Option.bind_some, Act.eval, Array.getD_eq_getD_getElem?]
      generalize (lay (fun _ => true) y ops.toList 0 a0.tmps)[d]? = q
      cases q with
      | none => rfl
      | some v => cases v <;> rfl
  have hask : ∀ i o, i < k1 → i ≠ m → ops[i]? = some o → AskedC P ops a0 w0 ps l i o := by
    intro i o hi hne ho
    rcases Nat.lt_or_ge i m with h | h
    · have hi' : (ops.toList.take m)[i]? = some o := by rw [List.getElem?_take, if_pos h]; simpa using ho
      have := AllFrom.at hstep i o hi'
      rwa [Nat.zero_add] at this
    · have hi' : ((ops.toList.drop (m + 1)).take (k1 - (m + 1)))[i - (m + 1)]? = some o := by
        rw [List.getElem?_take, if_pos (by omega), List.getElem?_drop, show m + 1 + (i - (m + 1)) = i by omega]
        simpa using ho
      have := AllFrom.at hmidl _ o hi'
      rwa [show m + 1 + (i - (m + 1)) = i by omega] at this
  refine wp_region_growC m k1 ps hm hok ht hcok hmid hpu hmk hk1 (rl l) (fun i v w w' hb h => (l.getD i anyR).st v w w' hb h) (fun i o him hp hi y w hV hb hd => ?_) (fun i v o hp hi y w hV => ?_) (fun y w o hi hV hb hR => ?_)
  · have := hask i o (by omega) (by omega) hi
    unfold AskedC at this
    rw [hp] at this
    have h2 := this _ y w (hwr y) (hno y) hb hd
    rw [hsays]
    exact h2
  · have hik : i < k1 := by
      have h1 : (i, v) ∈ ps := by
        clear hpl hstep hmidl hcok hmid hpu hask hend hV
        unfold puOf at hp
        induction ps with
        | nil => simp at hp
        | cons q r ih =>
          obtain ⟨a, b⟩ := q
          by_cases e : i = a
          · subst e; simp at hp; simp [hp]
          · have : (i == a) = false := beq_eq_false_iff_ne.2 e
            simp [List.lookup, this] at hp
            exact List.mem_cons_of_mem _ (ih hp)
      simpa using List.all_eq_true.1 hpl _ h1
    have := hask i o hik (pu_at hpu hi hp).1 hi
    unfold AskedC at this
    rw [hp] at this
    obtain ⟨h1, h2⟩ := this _ y w (hwr y) (hno y) hV
    exact ⟨by rw [hsays]; exact h1, h2⟩
  · obtain ⟨h1, h2⟩ := hend _ y w o hi (hwr y) (hno y) hV hb hR
    exact ⟨by rw [hsays]; exact h1, h2⟩
/-- The operation that may change what is there: a call. -/
theorem giv_call {P : Program} {ops : Array Oper} {ρ : Operand → Value} {o : Oper} {w : World} {F : Value → World → Prop} (f : FuncId) (args : Array Value) (hw : Region.wanted o (says ρ ops) = true) (hrun : (execOp ρ o).run P w = .ok (.enter f args) w)
    (hc : Calls P f args w fun e w' => ∃ v, e = .returned v ∧ F v w') : Region.wanted o (says ρ ops) = true ∧ GivesR P o ρ w F := by
  refine ⟨hw, ?_⟩
  unfold GivesR
  rw [hrun]
  refine hc.mono fun e w' ⟨v, he, h⟩ => ?_
  subst he
  exact h
/-- 'append' to a slice of the call's own: whatever is appended: the run. -/
theorem run_app {P : Program} {ρ : Operand → Value} {o : Oper} {w : World} (s x : Operand) (t : TypeId) (hop : o.op = Op.call { callee := Callee.builtin Builtin.append, args := #[s, x], argTypes := #[t, t] })
    (B : Nat) (e : TypeId) (z : Value) (size bytes : Nat) (h1 : P.underlying t = some (.slice e)) (h2 : (P.info? e).map (fun i => (i.zero, i.size, i.bytes)) = some (some z, size, bytes)) (h6 : z.cells.size = size) (h7 : 0 < size)
    (v : Value) (n : Nat) (xs : List Value) (hs : ρ s = v) (hown : Own w B e size v n xs)
    (ao : Option Addr) (m c : Nat) (news : List Value) (hx : ρ x = .slice ao m c) (hnone : ao = none → c = 0) (hmc : m ≤ c) (hn : news.length = m * size) (hrd : RdV w ao news) (h1c : ∀ u ∈ news, u.oneCell' = true)
    (b1 : n + m ≤ maxLen) (b2 : (n + m) * bytes ≤ 140737488355328) (hB : B ≤ w.heap.size) :
    ∃ v' w', (execOp ρ o).run P w = .ok (.value v') w' ∧ Own w' B e size v' (n + m) (xs ++ news) ∧ w.grownBy w' v.ownBlock ∧ (v'.ownBlock = v.ownBlock ∨ ∀ g, v'.ownBlock = some g → w.heap.size ≤ g) := by
  obtain ⟨i, hi, hz, hsz, hby⟩ := info_parts h2
  cases ao with
  | none =>
    obtain rfl := hnone rfl
    obtain rfl : m = 0 := by omega
    obtain rfl : news = [] := List.eq_nil_of_length_eq_zero (by simpa using hn)
    refine ⟨v, w, ?_, by simpa using hown, World.grownBy.refl _ _, .inl rfl⟩
    rcases hown with ⟨hl, ⟨rfl, rfl⟩ | ⟨g, off, cap, cur, rfl, hBg, hk, hc, hm, hsize, hcell⟩⟩
    · simp [execOp, hop, resolve, invoke, builtin, hs, hx, Builtin.append_, run_underlying h1, Go.sizeOf, typeInfo, hi, Builtin.lenOf, Builtin.firstCells, storeCells, Result.andThen]
    · simp [execOp, hop, resolve, invoke, builtin, hs, hx, Builtin.append_, run_underlying h1, Go.sizeOf, typeInfo, hi, Builtin.lenOf, Builtin.firstCells, hc, storeCells, Result.andThen]
  | some ad =>
    have hnews : ∀ j u, news[j]? = some u → w.cell? (ad.add j) = some u := by
      intro j u hj
      obtain ⟨b, off, e', hc⟩ := hrd j u hj
      cases e'
      rw [Addr.add_lit]; exact hc
    rcases hown with ⟨hl, ⟨rfl, rfl⟩ | ⟨g, off, cap, cur, rfl, hBg, hk, hc, hm, hsize, hcell⟩⟩
    · obtain rfl : xs = [] := List.eq_nil_of_length_eq_zero (by simpa using hl)
      obtain ⟨v', w', hrun, r1, r2, _⟩ := run_append_own (P := P) w w.heap.size t o.type e i z size bytes h1 hi hz hsz hby h6 h7 (.slice none 0 0) 0 [] (World.ownsRow_nil w _ e size) ad m c news hn hnews h1c b1 b2 (Nat.le_refl _)
      refine ⟨v', w', ?_, (Own.of_owns r1).mono hB, r2, .inr (Own.of_owns r1).ge⟩
      simp [execOp, hop, resolve, invoke, builtin, hs, hx, hrun, Result.andThen]
    · have hcap : n * size ≤ cap * size := Nat.mul_le_mul_right _ hc
      rcases Nat.lt_or_ge cap (n + m) with hr | hr
      · obtain ⟨v', w', hrun, r1, r2⟩ := run_append_arg_grows (P := P) w t o.type e i z size bytes h1 hi hz hsz hby h6 h7 ⟨g, off, none⟩ n cap xs hl (fun j u hj => by rw [Addr.add_lit, hk.cell]; exact hcell j u hj) ad m c news hn hnews hr b1 b2
        refine ⟨v', w', ?_, (Own.of_owns r1).mono hB, grown_but' r2 _, .inr (Own.of_owns r1).ge⟩
        simp [execOp, hop, resolve, invoke, builtin, hs, hx, hrun, Result.andThen]
      · have h3 : (n + m) * size ≤ cap * size := Nat.mul_le_mul_right _ hr
        rw [Nat.add_mul] at h3
        have hrun := run_append_room_cells (P := P) w t o.type e i h1 hi g off n cap ad m c news (by rw [hsz]; exact hn) hnews h1c hr (fun j hj => by rw [hsz, hk.cell]; simp [show off + n * size + j < cur.size by omega]) (fun j hj => hk.free _)
        rw [hsz] at hrun
        refine ⟨_, _, ?_, ⟨by rw [List.length_append, hl, hn, Nat.add_mul], .inr ⟨g, off, cap, _, rfl, hBg, hk.setCells news (off + n * size), hr, hm, by rw [size_putAt]; exact hsize, fun j u hj => ?_⟩⟩, grownBy_setCells _ _ _ _, .inl rfl⟩
        · simp [execOp, hop, resolve, invoke, builtin, hs, hx, hrun, Result.andThen]
        · by_cases hjl : j < xs.length
          · rw [List.getElem?_append_left hjl] at hj
            rw [putAt_out _ _ _ _ (.inl (by omega))]; exact hcell j u hj
          · rw [List.getElem?_append_right (by omega)] at hj
            have := putAt_in news cur (off + n * size) (j - xs.length) u (by omega) hj
            rwa [show off + n * size + (j - xs.length) = off + j by omega] at this
theorem giv_app {P : Program} {ops : Array Oper} {ρ : Operand → Value} {o : Oper} {w : World} {F : Value → World → Prop} (hw : Region.wanted o (says ρ ops) = true) {D : Value → World → Prop} (h : ∃ v' w', (execOp ρ o).run P w = .ok (.value v') w' ∧ D v' w') (hF : ∀ v w', D v w' → F v w') : Region.wanted o (says ρ ops) = true ∧ GivesR P o ρ w F := by
  obtain ⟨v', w', h1, h2⟩ := h
  refine ⟨hw, ?_⟩
  unfold GivesR
  rw [h1]
  exact hF _ _ h2
end Pw
