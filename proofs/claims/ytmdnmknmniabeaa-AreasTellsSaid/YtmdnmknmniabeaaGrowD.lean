/- A rule for a region that draws its order, in which one operation may change what is there: those ahead of it, and those behind it, let memory grow alone. -/
import Derived.Test.YtmdnmknmniabeaaGrowC
namespace Pw
open Go Go.RowKit
set_option linter.unusedSimpArgs false
set_option linter.unusedVariables false

theorem GivesR.mono {P : Program} {o : Oper} {ρ : Operand → Value} {w : World} {F G : Value → World → Prop} (h : GivesR P o ρ w F) (hFG : ∀ v w', F v w' → G v w') : GivesR P o ρ w G := by
  unfold GivesR at h ⊢
  generalize (execOp ρ o).run P w = r at h ⊢
  cases r with
  | ok n w' =>
    cases n with
    | value v => exact hFG _ _ h
    | skip => exact hFG _ _ h
    | enter f args =>
      refine Calls.mono h fun e w'' he => ?_
      cases e with
      | returned v => exact hFG _ _ he
      | panicked c => exact he.elim
      | outgrown => exact he.elim
    | _ => exact h.elim
  | halt x w' => exact h.elim
/-- All ahead of operation m stands ahead of it, near or far; and it stands ahead of all behind it. -/
def dOk (ops : Array Oper) (m : Nat) : Bool :=
  ((List.range m).all fun j => (aheadOf ops ops.size m).contains j) && (List.range ops.size).all fun i => decide (i ≤ m) || (aheadOf ops ops.size i).contains m
def AmidD (ops : Array Oper) (m k1 : Nat) (R : Nat → Value → World → Prop) (B : World → Prop) (a0 : Act) (w0 : World) (listed : Array Bool) (a : Act) (w : World) : Prop :=
  (∀ i, k1 ≤ i → listed.getD i false = false) ∧ (∀ i o, ops[i]? = some o → listed.getD i false = true → ∀ e ∈ o.after, listed.getD e.on false = true) ∧ ∃ y : Nat → Value, a = { a0 with tmps := lay (fun i => listed.getD i false) y ops.toList 0 a0.tmps } ∧ B w ∧ (listed.getD m false = false → Below w0.heap.size w0 w) ∧
    ∀ i, i < ops.size → listed.getD i false = true → (listed.getD m false = true → m ≤ i) → R i (y i) w
/-- THE RULE. Operation m may change what is there; those ahead of it, and those behind it, let memory grow alone. -/
theorem wp_region_growD {P : Program} {ops : Array Oper} {Q : Exit → Act → World → Prop} {id : Nat} {a0 : Act} {w0 : World} (m k1 : Nat) (hm : P.follows .mixedOrders = true) (hok : growOk ops = true) (ht : tailOkT ops k1 = true) (hd : dOk ops m = true) (hmk : m < k1) (hmn : k1 ≤ ops.size)
    (R : Nat → Value → World → Prop) (hstab : ∀ i v w w', Below w.heap.size w w' → R i v w → R i v w') (B : World → Prop) (hbst : ∀ w w', Below w.heap.size w w' → B w → B w') (hb0 : ∀ w, Below w0.heap.size w0 w → B w)
    (hstep : ∀ i o, i < k1 → ops[i]? = some o → ∀ y w, B w → (i ≤ m → Below w0.heap.size w0 w) → (∀ j, o.after.toList.any (fun e => e.on == j) = true → (m < i → m ≤ j) → R j (y j) w) → (i = m → ∀ j, j < m → R j (y j) w) →
      if Region.wanted o (yielded ops (lay (fun _ => true) y ops.toList 0 a0.tmps)) = true then Gives P o { a0 with tmps := lay (fun _ => true) y ops.toList 0 a0.tmps } w (fun v w' => (i = m → B w') ∧ (i ≠ m → Below w.heap.size w w') ∧ R i v w') else i ≠ m ∧ R i undef w)
    (hend : ∀ y w, B w → (∀ i, m ≤ i → i < k1 → R i (y i) w) → wpList P ops Q (ops.toList.drop k1) { a0 with tmps := lay (fun i => decide (i < k1)) y ops.toList 0 a0.tmps } w) :
    (Code.region id ops true).wp P Q a0 w0 := by
  have hdm : ∀ j, j < m → (aheadOf ops ops.size m).contains j = true := fun j hj => by
    unfold dOk at hd
    rw [Bool.and_eq_true] at hd
    exact List.all_eq_true.1 hd.1 j (List.mem_range.2 hj)
  have hdb : ∀ i, i < ops.size → m < i → (aheadOf ops ops.size i).contains m = true := fun i hi hmi => by
    unfold dOk at hd
    rw [Bool.and_eq_true] at hd
    have := List.all_eq_true.1 hd.2 i (List.mem_range.2 hi)
    simp only [Bool.or_eq_true, decide_eq_true_eq] at this
    rcases this with h | h
    · omega
    · exact h
  have hall : ∀ (fuel : Nat) (listed : Array Bool) (a : Act) (w : World), listed.size = ops.size → listed.toList.countP (!·) ≤ fuel → AmidD ops m k1 R B a0 w0 listed a w → wpAny P .any ops Q fuel listed a w := by
    intro fuel
    induction fuel with
    | zero =>
      intro listed a w hsz hc hA
      have hl : ∀ i, i < ops.size → listed.getD i false = true := by
        intro i hlt
        have h0 : listed.toList.countP (!·) = 0 := by omega
        have := List.countP_eq_zero.1 h0 (listed[i]'(by omega)) (by simp)
        simpa [Array.getD_eq_getD_getElem?, show i < listed.size by omega] using this
      obtain ⟨hno, hcl, y, ha, hB, hb, hR⟩ := hA
      have hmn' : k1 = ops.size := by
        rcases Nat.lt_or_ge k1 ops.size with h | h
        · have h1 := hl k1 h
          rw [hno k1 (Nat.le_refl _)] at h1
          cases h1
        · omega
      refine tail_anyT (m := k1) hok ht 0 ops.size listed a w (by omega) (Nat.le_refl _) (by omega) hsz (fun i hi => by rw [hl i hi]; simp [hi]) ?_
      have := hend y w hB fun i hmi hi => hR i (by omega) (hl i (by omega)) (fun _ => hmi)
      rw [ha, lay_congr (fun i => listed.getD i false) (fun i => decide (i < k1)) y ops.toList 0 a0.tmps (fun k hk => by
        have hk' : k < ops.size := by simpa using hk
        simp only [Nat.zero_add]
        rw [hl k hk']
        simp; omega)]
      rw [hmn'] at this ⊢
      exact this
    | succ fuel ih =>
      intro listed a w hsz hc hA
      by_cases hfull : ∀ i, i < k1 → listed.getD i false = true
      · obtain ⟨hno, hcl, y, ha, hB, hb, hR⟩ := hA
        have hL : ∀ i, i < ops.size → listed.getD i false = decide (i < k1) := by
          intro i hi
          by_cases him : i < k1
          · rw [hfull i him]; simp [him]
          · rw [hno i (by omega)]; simp [him]
        have hcount : ops.size - k1 ≤ fuel + 1 := by
          have h1 : listed.toList.countP (!·) = ops.size - k1 := by
            have e : listed.toList = List.replicate k1 true ++ List.replicate (ops.size - k1) false := by
              apply List.ext_getElem?
              intro i
              by_cases hi : i < ops.size
              · have h2 := hL i hi
                rw [Array.getElem?_toList, Array.getElem?_eq_getElem (show i < listed.size by omega)]
                simp only [Array.getD_eq_getD_getElem?, Array.getElem?_eq_getElem (show i < listed.size by omega), Option.getD_some] at h2
                rw [h2]
                by_cases him : i < k1
                · rw [List.getElem?_append_left (by simpa using him)]
                  simp [him]
                · rw [List.getElem?_append_right (by simp; omega)]
                  rw [List.length_replicate, List.getElem?_replicate, if_pos (by omega)]
                  simp [him]
              · rw [List.getElem?_eq_none (by simp; omega), List.getElem?_eq_none (by simp; omega)]
            rw [e]
            simp [List.countP_append, List.countP_replicate]
          omega
        refine tail_anyT (m := k1) hok ht (fuel + 1) k1 listed a w (Nat.le_refl _) hmn hcount hsz hL ?_
        have := hend y w hB fun i hmi hi => hR i (by omega) (hfull i hi) (fun _ => hmi)
        rw [ha, lay_congr (fun i => listed.getD i false) (fun i => decide (i < k1)) y ops.toList 0 a0.tmps (fun k hk => by
          simp only [Nat.zero_add]
          exact hL k (by simpa using hk))]
        exact this
      · have hready0 : Region.ready .any ops listed ≠ [] := by
          intro hready
          apply hfull
          intro i
          induction i using Nat.strongRecOn with
          | ind i ih' =>
            intro him
            by_cases hc' : listed.getD i false = true
            · exact hc'
            · exfalso
              have hi : i < ops.size := by omega
              have hmem : i ∈ Region.ready .any ops listed := by
                rw [mem_ready]
                refine ⟨?_, ops[i], by simp [hi], fun e he _ => ?_⟩
                · simpa [Array.getD_eq_getD_getElem?, show i < listed.size by omega] using hc'
                · have := (growOk_at hok (i := i) (o := ops[i]) (by simp [hi])).2.1 e he
                  exact ih' e.on this.2 (by omega)
              rw [hready] at hmem
              cases hmem
        refine ⟨fun h => absurd h hready0, fun i hi => ?_⟩
        obtain ⟨h1, o, ho, hdeps⟩ := mem_ready.1 hi
        have hlt : i < ops.size := (Array.getElem?_eq_some_iff.1 ho).1
        obtain ⟨hsel, hbinds, _⟩ := growOk_at hok ho
        have hL : ∀ e ∈ o.after, listed.getD e.on false = true := fun e he => hdeps e he (hbinds e he).1
        have him : i < k1 := by
          rcases Nat.lt_or_ge i k1 with h | h
          · exact h
          · exfalso
            apply hfull
            intro j hj
            exact tailOkT_at ht hA.2.1 ho hL h j (by omega)
        obtain ⟨hno, hcl, y, ha, hB, hb, hR⟩ := hA
        have hif : listed.getD i false = false := by simpa [Array.getD_eq_getD_getElem?, show i < listed.size by omega] using h1
        have aheadL : ∀ q, q < ops.size → (∀ o', ops[q]? = some o' → ∀ e ∈ o'.after, listed.getD e.on false = true) → ∀ j, (aheadOf ops ops.size q).contains j = true → listed.getD j false = true := fun q _ hq j hj => ahead_listed hcl ops.size q hq j (by simpa using hj)
        have hLi : ∀ o', ops[i]? = some o' → ∀ e ∈ o'.after, listed.getD e.on false = true := fun o' ho' => by rw [ho] at ho'; cases ho'; exact hL
        have hmf : i ≤ m → listed.getD m false = false := fun him' => by
          by_cases hmi : i = m
          · rw [← hmi]; exact hif
          · cases hlm : listed.getD m false
            · rfl
            · have := aheadL m (by omega) (fun o' ho' => hcl m o' ho' hlm) i (hdm i (by omega))
              rw [hif] at this
              cases this
        have hml : m < i → listed.getD m false = true := fun hmi => aheadL i hlt hLi m (hdb i hlt hmi)
        have hall' : i = m → ∀ j, j < m → listed.getD j false = true := fun him' j hj => by
          subst him'
          exact aheadL i hlt hLi j (hdm j hj)
        have hnol : i = m → ∀ k, m < k → k < ops.size → listed.getD k false = false := fun him' k hk hks => by
          cases hlk : listed.getD k false
          · rfl
          · have := aheadL k hks (fun o' ho' => hcl k o' ho' hlk) m (hdb k hks hk)
            rw [← him', hif] at this
            cases this
        have hnext : ∀ v w', ((i = m → B w') ∧ (i ≠ m → Below w.heap.size w w') ∧ R i v w') → wpAny P .any ops Q fuel (listed.setIfInBounds i true) (a.put o.dst v) w' := by
          rintro v w' ⟨hvB, hbw, hv⟩
          have hmm : i ≠ m → (listed.setIfInBounds i true).getD m false = listed.getD m false := fun hne => by
            simp only [Array.getD_eq_getD_getElem?, Array.getElem?_setIfInBounds_ne hne]
          have hms : i = m → (listed.setIfInBounds i true).getD m false = true := fun he => by
            subst he; simp [Array.getD_eq_getD_getElem?, show i < listed.size by omega]
          refine ih _ _ _ (by simp [hsz]) ?_ ⟨fun k hk => ?_, fun k o' ho' hk e he => ?_, fun k => if k = i then v else y k, ?_, ?_, fun hmn' => ?_, ?_⟩
          · have hil : i < listed.toList.length := by simp; omega
            have hfalse : listed.toList[i] = false := by
              simpa [Array.getD_eq_getD_getElem?, show i < listed.size by omega] using h1
            have := List.countP_set (p := (!·)) (l := listed.toList) (i := i) (a := true) hil
            rw [hfalse] at this
            have hpos : 0 < listed.toList.countP (!·) := List.countP_pos_iff.2 ⟨listed.toList[i], List.getElem_mem hil, by rw [hfalse]; rfl⟩
            simp only [Array.toList_setIfInBounds]
            simp only [Bool.not_false, Bool.not_true, if_true, Bool.false_eq_true, if_false] at this
            omega
          · have := hno k hk
            simp only [Array.getD_eq_getD_getElem?, Array.getElem?_setIfInBounds_ne (show i ≠ k by omega)] at this ⊢
            exact this
          · have up : ∀ q, listed.getD q false = true → (listed.setIfInBounds i true).getD q false = true := by
              intro q hq
              by_cases hqi : q = i
              · subst hqi; simp [Array.getD_eq_getD_getElem?, show q < listed.size by omega]
              · simpa [Array.getD_eq_getD_getElem?, Array.getElem?_setIfInBounds_ne (Ne.symm hqi)] using hq
            apply up
            by_cases hki : k = i
            · subst hki
              rw [ho] at ho'
              cases ho'
              exact hL e he
            · exact hcl k o' ho' (by simpa [Array.getD_eq_getD_getElem?, Array.getElem?_setIfInBounds_ne (Ne.symm hki)] using hk) e he
          · rw [ha, lay_put hok ho hsz v]
          · by_cases him' : i = m
            · exact hvB him'
            · exact hbst _ _ (hbw him') hB
          · by_cases him' : i = m
            · rw [hms him'] at hmn'; cases hmn'
            · rw [hmm him'] at hmn'
              exact (hb hmn').trans ((hbw him').mono (hb hmn').size)
          · intro k hk hLk hmk'
            by_cases hki : k = i
            · subst hki; simpa using hv
            · have hlk : listed.getD k false = true := by
                simpa [Array.getD_eq_getD_getElem?, Array.getElem?_setIfInBounds_ne (Ne.symm hki)] using hLk
              simp only [hki, if_false]
              by_cases him' : i = m
              · exfalso
                have h2 := hmk' (hms him')
                have h3 := hnol him' k (by omega) hk
                rw [hlk] at h3
                cases h3
              · refine hstab _ _ _ _ (hbw him') (hR k hk hlk fun hlm => hmk' ?_)
                rw [hmm him']
                exact hlm
        have heval : ∀ t ∈ o.looksAt ops, a.tmps[t]? = (lay (fun _ => true) y ops.toList 0 a0.tmps)[t]? := fun t ht => by
          rw [ha]; exact evals_lay hok ho hL t ht
        have hexec : execOp a.eval o = execOp ({ a0 with tmps := lay (fun _ => true) y ops.toList 0 a0.tmps } : Act).eval o := by
          refine execOp_congr o hsel fun x hx => ?_
          cases x with
          | tmp t =>
            have := heval t (List.mem_append_left _ (List.mem_filterMap.2 ⟨.tmp t, by simpa using hx, rfl⟩))
            simp [Act.eval, this]
          | _ => rfl
        have hwant : Region.wanted o (yielded ops a.tmps) = Region.wanted o (yielded ops (lay (fun _ => true) y ops.toList 0 a0.tmps)) := by
          unfold Region.wanted
          cases hg : o.guard with
          | none => rfl
          | some gw =>
            obtain ⟨g, want⟩ := gw
            have : yielded ops a.tmps g = yielded ops (lay (fun _ => true) y ops.toList 0 a0.tmps) g := by
              unfold yielded
              cases hd : (ops[g]?).bind (·.dst) with
              | none => rfl
              | some t =>
                have := heval t (List.mem_append_right _ (by simp [hg, hd]))
                simp [this]
            simp only [this]
        have hs := hstep i o him ho y w hB (fun h => hb (hmf h)) (fun j hj hmj => by
          obtain ⟨e, he, hej⟩ := List.any_eq_true.1 hj
          have hej' : e.on = j := by simpa using hej
          subst hej'
          have he' := Array.mem_toList_iff.1 he
          refine hR e.on (by have := (hbinds e he').2; omega) (hL e he') (fun hlm => ?_)
          rcases Nat.lt_or_ge m i with h | h
          · exact hmj h
          · rw [hmf h] at hlm; cases hlm) (fun him' j hj => hR j (by omega) (hall' him' j hj) (fun hlm => by rw [hmf (by omega)] at hlm; cases hlm))
        by_cases hwt : Region.wanted o (yielded ops (lay (fun _ => true) y ops.toList 0 a0.tmps)) = true
        · rw [if_pos hwt] at hs
          exact gives_wpOp ho (by rw [hwant]; exact hwt) hexec hs fun v w' h => hnext v w' h
        · rw [if_neg hwt] at hs
          unfold wpOp
          simp only [ho]
          rw [if_neg (by rw [hwant]; exact hwt)]
          exact hnext undef w ⟨fun h => absurd h hs.1, fun _ => Below.refl _ _, hs.2⟩
  refine wp_region_any hm (hall ops.size _ _ _ (by simp) ?_ ⟨fun i _ => ?_, fun i o' ho' hi => ?_, fun _ => undef, ?_, hb0 _ ⟨rfl, rfl, rfl, Nat.le_refl _, fun _ _ => rfl⟩, fun _ => ?_, ?_⟩)
  · simpa using List.countP_le_length (p := (!·)) (l := List.replicate ops.size false)
  · simp [Array.getD_eq_getD_getElem?, Array.getElem?_replicate]; split <;> rfl
  · exfalso
    have : i < ops.size := (Array.getElem?_eq_some_iff.1 ho').1
    simp [Array.getD_eq_getD_getElem?, this] at hi
  · have e : lay (fun i => (Array.replicate ops.size false).getD i false) (fun _ => undef) ops.toList 0 a0.tmps = a0.tmps := by
      apply Array.ext_getElem?
      intro s
      exact lay_none _ _ s _ 0 _ fun k o' hk hd => by simp [Array.getD_eq_getD_getElem?, Array.getElem?_replicate]; split <;> rfl
    rw [e]
  · exact ⟨rfl, rfl, rfl, Nat.le_refl _, fun _ _ => rfl⟩
  · intro i hi hL _
    simp [Array.getD_eq_getD_getElem?, hi] at hL

/-- What is asked of an operation behind m. -/
def AskedE (P : Program) (ops : Array Oper) (a0 : Act) (l : List Rel) (m : Nat) (B : World → Prop) (i : Nat) (o : Oper) : Prop :=
  ∀ (ρ : Operand → Value) (y : Nat → Value) (w : World), (∀ t j, writer ops t = some j → ρ (.tmp t) = y j) → (∀ x, (match x with | .tmp t => writer ops t = none | _ => True) → ρ x = a0.eval x) →
    B w → (∀ j, (o.after.toList.any (fun e => e.on == j) && decide (m ≤ j)) = true → rl l j (y j) w) →
    if Region.wanted o (says ρ ops) = true then GivesR P o ρ w (fun v w' => Below w.heap.size w w' ∧ rl l i v w') else rl l i undef w
theorem wp_growD {P : Program} {ops : Array Oper} {Q : Exit → Act → World → Prop} {id : Nat} {a0 : Act} {w0 : World} (m k1 : Nat) (l : List Rel) (B : World → Prop) (hbst : ∀ w w', Below w.heap.size w w' → B w → B w') (hb0 : ∀ w, Below w0.heap.size w0 w → B w) (hm : P.follows .mixedOrders = true) (hok : growOk ops = true) (ht : tailOkT ops k1 = true) (hd : dOk ops m = true) (hmk : m < k1) (hmn : k1 ≤ ops.size)
    (n : Nat) (hn : a0.tmps.size = n) (hsz : growSize ops n = true)
    (hstep : AllFrom (Asked P ops a0 w0 l) 0 (ops.toList.take m)) (hstep2 : AllFrom (AskedE P ops a0 l m B) (m + 1) ((ops.toList.drop (m + 1)).take (k1 - (m + 1))))
    (hmid : ∀ (ρ : Operand → Value) (y : Nat → Value) (w : World) (o : Oper), ops[m]? = some o → (∀ t j, writer ops t = some j → ρ (.tmp t) = y j) → (∀ x, (match x with | .tmp t => writer ops t = none | _ => True) → ρ x = a0.eval x) →
      Below w0.heap.size w0 w → (∀ i, i < m → rl l i (y i) w) → Region.wanted o (says ρ ops) = true ∧ GivesR P o ρ w fun v w' => B w' ∧ rl l m v w')
    (hend : ∀ y w, B w → (∀ i, m ≤ i → i < k1 → rl l i (y i) w) → wpList P ops Q (ops.toList.drop k1) { a0 with tmps := lay (fun i => decide (i < k1)) y ops.toList 0 a0.tmps } w) :
    (Code.region id ops true).wp P Q a0 w0 := by
  refine wp_region_growD m k1 hm hok ht hd hmk hmn (rl l) (fun i v w w' hb h => (l.getD i anyR).st v w w' hb h) B hbst hb0 (fun i o him hi y w hB hb hd hdm => ?_) hend
  have hwr : ∀ t j, writer ops t = some j → ({ a0 with tmps := lay (fun _ => true) y ops.toList 0 a0.tmps } : Act).eval (.tmp t) = y j := by
    intro t j hw
    unfold writer at hw
    have h1 := List.find?_some hw
    have h2 := List.mem_range.1 (List.mem_of_find?_eq_some hw)
    cases ho : ops[j]? with
    | none => simp [ho] at h1
    | some p =>
      have hd' : p.dst = some t := by simpa [ho] using h1
      have hlt : t < a0.tmps.size := by
        have := List.all_eq_true.1 hsz p (Array.mem_toList_iff.2 (Array.mem_of_getElem? ho))
        rw [hn]
        simpa [hd'] using this
      have hu : ∀ k' o', ops.toList[k']? = some o' → o'.dst = some t → k' = j := by
        intro k' o' hk' hdk
        rcases ((growOk_at hok (i := k') (o := o') (by simpa using hk')).2.2 j p t ho hd').1 with h | h
        · exact h
        · exact absurd hdk h
      have := lay_some (fun _ => true) y t ops.toList 0 a0.tmps j p (by simpa using ho) hd' rfl hu hlt
      simp [Act.eval, this]
  have hno : ∀ x, (match x with | .tmp t => writer ops t = none | _ => True) → ({ a0 with tmps := lay (fun _ => true) y ops.toList 0 a0.tmps } : Act).eval x = a0.eval x := by
    intro x hx
    cases x with
    | tmp t =>
      have : (lay (fun _ => true) y ops.toList 0 a0.tmps)[t]? = a0.tmps[t]? := by
        refine lay_none _ y t _ 0 _ fun k o' hk hd' => ?_
        exfalso
        simp only [writer] at hx
        have hk' : ops[k]? = some o' := by simpa using hk
        have hklt : k < ops.size := (Array.getElem?_eq_some_iff.1 hk').1
        have := List.find?_eq_none.1 hx k (List.mem_range.2 hklt)
        simp [hk', hd'] at this
      simp [Act.eval, this]
    | _ => rfl
  have hsays : Region.wanted o (yielded ops (lay (fun _ => true) y ops.toList 0 a0.tmps)) = Region.wanted o (says ({ a0 with tmps := lay (fun _ => true) y ops.toList 0 a0.tmps } : Act).eval ops) := by
    congr 1
    funext g
    unfold yielded says
    cases (ops[g]?).bind (·.dst) with
    | none => rfl
    | some d =>
      simp only [Option.bind_some, Act.eval, Array.getD_eq_getD_getElem?]
      generalize (lay (fun _ => true) y ops.toList 0 a0.tmps)[d]? = q
      cases q with
      | none => rfl
      | some v => cases v <;> rfl
  rw [hsays]
  rcases Nat.lt_trichotomy i m with h | h | h
  · have hi' : (ops.toList.take m)[i]? = some o := by rw [List.getElem?_take, if_pos h]; simpa using hi
    have := AllFrom.at hstep i o hi' _ y w hwr hno (hb (by omega)) (fun j hj => hd j hj (fun h' => by omega))
    rw [Nat.zero_add] at this
    split at this
    · rename_i hw
      rw [if_pos hw]
      exact GivesR.mono this fun v w' hv => ⟨fun e => by omega, fun _ => hv.1, hv.2⟩
    · rename_i hw
      rw [if_neg hw]
      exact ⟨by omega, this⟩
  · subst h
    obtain ⟨hw, hg⟩ := hmid _ y w o hi hwr hno (hb (Nat.le_refl _)) (hdm rfl)
    rw [if_pos hw]
    exact GivesR.mono hg fun v w' hv => ⟨fun _ => hv.1, fun e => absurd rfl e, hv.2⟩
  · have hi' : ((ops.toList.drop (m + 1)).take (k1 - (m + 1)))[i - (m + 1)]? = some o := by
      rw [List.getElem?_take, if_pos (by omega), List.getElem?_drop, show m + 1 + (i - (m + 1)) = i by omega]
      simpa using hi
    have := AllFrom.at hstep2 (i - (m + 1)) o hi' _ y w hwr hno hB (fun j hj => by
      rw [Bool.and_eq_true, decide_eq_true_eq] at hj
      exact hd j hj.1 (fun _ => hj.2))
    rw [show m + 1 + (i - (m + 1)) = i by omega] at this
    split at this
    · rename_i hw
      rw [if_pos hw]
      exact GivesR.mono this fun v w' hv => ⟨fun e => by omega, fun _ => hv.1, hv.2⟩
    · rename_i hw
      rw [if_neg hw]
      exact ⟨by omega, this⟩
end Pw
