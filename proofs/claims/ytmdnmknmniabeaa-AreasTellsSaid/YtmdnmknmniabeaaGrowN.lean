/- A rule for a region that draws its order, with edges that do not bind, in which two operations' values differ (two fresh blocks). -/
import Derived.Test.YtmdnmknmniabeaaGrowD
import Derived.Test.YtmdnmknmniabeaaGrowY
namespace Pw
open Go Go.RowKit
set_option linter.unusedSimpArgs false
set_option linter.unusedVariables false

def AmidN (ops : Array Oper) (m p q : Nat) (R : Nat → Value → World → Prop) (a0 : Act) (w0 : World) (listed : Array Bool) (a : Act) (w : World) : Prop :=
  (∀ i, m ≤ i → listed.getD i false = false) ∧ (∀ i o, ops[i]? = some o → listed.getD i false = true → ∀ e ∈ o.after, listed.getD e.on false = true) ∧ ∃ y : Nat → Value, a = { a0 with tmps := lay (fun i => listed.getD i false) y ops.toList 0 a0.tmps } ∧ Below w0.heap.size w0 w ∧ (∀ i, i < ops.size → listed.getD i false = true → R i (y i) w) ∧
    (listed.getD p false = true → listed.getD q false = true → y p ≠ y q)
/-- What an operation's value is not. -/
def NotIt (R : Nat → Value → World → Prop) (p q i : Nat) (v : Value) (w : World) : Prop := (i = p → ∀ u, R q u w → v ≠ u) ∧ (i = q → ∀ u, R p u w → v ≠ u)
/-- THE RULE. As wp_growT; the values of the operations p and q differ. -/
theorem wp_any_growN {P : Program} {ops : Array Oper} {Q : Exit → Act → World → Prop} {a0 : Act} {w0 : World} (m p q : Nat) (hpm : p < m) (hqm : q < m) (hpq : p ≠ q) (hok : growOk ops = true) (ht : tailOkT ops m = true) (hmn : m ≤ ops.size)
    (R : Nat → Value → World → Prop) (hstab : ∀ i v w w', Below w.heap.size w w' → R i v w → R i v w')
    (hstep : ∀ i o, i < m → ops[i]? = some o → ∀ y w, Below w0.heap.size w0 w → (∀ j, o.after.toList.any (fun e => e.on == j) = true → R j (y j) w) →
      if Region.wanted o (yielded ops (lay (fun _ => true) y ops.toList 0 a0.tmps)) = true then Gives P o { a0 with tmps := lay (fun _ => true) y ops.toList 0 a0.tmps } w (fun v w' => (Below w.heap.size w w' ∧ R i v w') ∧ NotIt R p q i v w) else R i undef w ∧ i ≠ p ∧ i ≠ q)
    (hend : ∀ y w, Below w0.heap.size w0 w → (∀ i, i < m → R i (y i) w) → y p ≠ y q → wpList P ops Q (ops.toList.drop m) { a0 with tmps := lay (fun i => decide (i < m)) y ops.toList 0 a0.tmps } w) :
    Below w0.heap.size w0 { w0 with drawn := w0.drawn + 1 } → wpAny P .any ops Q ops.size (Array.replicate ops.size false) a0 { w0 with drawn := w0.drawn + 1 } := by
  intro hdr
  have hall : ∀ (fuel : Nat) (listed : Array Bool) (a : Act) (w : World), listed.size = ops.size → listed.toList.countP (!·) ≤ fuel → AmidN ops m p q R a0 w0 listed a w → wpAny P .any ops Q fuel listed a w := by
    intro fuel
    induction fuel with
    | zero =>
      intro listed a w hsz hc hA
      have hl : ∀ i, i < ops.size → listed.getD i false = true := by
        intro i hlt
        have h0 : listed.toList.countP (!·) = 0 := by omega
        have := List.countP_eq_zero.1 h0 (listed[i]'(by omega)) (by simp)
        simpa [Array.getD_eq_getD_getElem?, show i < listed.size by omega] using this
      obtain ⟨hno, hcl, y, ha, hb, hR, hpn⟩ := hA
      have hmn' : m = ops.size := by
        rcases Nat.lt_or_ge m ops.size with h | h
        · have h1 := hl m h
          rw [hno m (Nat.le_refl _)] at h1
          cases h1
        · omega
      refine tail_anyT (m := m) hok ht 0 ops.size listed a w (by omega) (Nat.le_refl _) (by omega) hsz (fun i hi => by rw [hl i hi]; simp [hi]) ?_
      have := hend y w hb (fun i hi => hR i (by omega) (hl i (by omega))) (hpn (hl p (by omega)) (hl q (by omega)))
      rw [ha, lay_congr (fun i => listed.getD i false) (fun i => decide (i < m)) y ops.toList 0 a0.tmps (fun k hk => by
        have hk' : k < ops.size := by simpa using hk
        simp only [Nat.zero_add]
        rw [hl k hk']
        simp; omega)]
      rw [hmn'] at this ⊢
      exact this
    | succ fuel ih =>
      intro listed a w hsz hc hA
      by_cases hfull : ∀ i, i < m → listed.getD i false = true
      · obtain ⟨hno, hcl, y, ha, hb, hR, hpn⟩ := hA
        have hL : ∀ i, i < ops.size → listed.getD i false = decide (i < m) := by
          intro i hi
          by_cases him : i < m
          · rw [hfull i him]; simp [him]
          · rw [hno i (by omega)]; simp [him]
        have hcount : ops.size - m ≤ fuel + 1 := by
          have h1 : listed.toList.countP (!·) = ops.size - m := by
            have e : listed.toList = List.replicate m true ++ List.replicate (ops.size - m) false := by
              apply List.ext_getElem?
              intro i
              by_cases hi : i < ops.size
              · have h2 := hL i hi
                rw [Array.getElem?_toList, Array.getElem?_eq_getElem (show i < listed.size by omega)]
                simp only [Array.getD_eq_getD_getElem?, Array.getElem?_eq_getElem (show i < listed.size by omega), Option.getD_some] at h2
                rw [h2]
                by_cases him : i < m
                · rw [List.getElem?_append_left (by simpa using him)]
                  simp [him]
                · rw [List.getElem?_append_right (by simp; omega)]
                  rw [List.length_replicate, List.getElem?_replicate, if_pos (by omega)]
                  simp [him]
              · rw [List.getElem?_eq_none (by simp; omega), List.getElem?_eq_none (by simp; omega)]
            rw [e]
            simp [List.countP_append, List.countP_replicate]
          omega
        refine tail_anyT (m := m) hok ht (fuel + 1) m listed a w (Nat.le_refl _) hmn hcount hsz hL ?_
        have := hend y w hb (fun i hi => hR i (by omega) (hfull i hi)) (hpn (hfull p hpm) (hfull q hqm))
        rw [ha, lay_congr (fun i => listed.getD i false) (fun i => decide (i < m)) y ops.toList 0 a0.tmps (fun k hk => by
          simp only [Nat.zero_add]
          exact hL k (by simpa using hk))]
        exact this
      · have hready0 : Region.ready .any ops listed ≠ [] := by
          intro hready
          apply hfull
          intro i
          induction i using Nat.strongRecOn with
          | ind i ih' =>
            intro him
            by_cases hc' : listed.getD i false = true
            · exact hc'
            · exfalso
              have hi : i < ops.size := by omega
              have hmem : i ∈ Region.ready .any ops listed := by
                rw [mem_ready]
                refine ⟨?_, ops[i], by simp [hi], fun e he _ => ?_⟩
                · simpa [Array.getD_eq_getD_getElem?, show i < listed.size by omega] using hc'
                · have := (growOk_at hok (i := i) (o := ops[i]) (by simp [hi])).2.1 e he
                  exact ih' e.on this.2 (by omega)
              rw [hready] at hmem
              cases hmem
        refine ⟨fun h => absurd h hready0, fun i hi => ?_⟩
        obtain ⟨h1, o, ho, hdeps⟩ := mem_ready.1 hi
        have hlt : i < ops.size := (Array.getElem?_eq_some_iff.1 ho).1
        obtain ⟨hsel, hbinds, _⟩ := growOk_at hok ho
        have hL : ∀ e ∈ o.after, listed.getD e.on false = true := fun e he => hdeps e he (hbinds e he).1
        have him : i < m := by
          rcases Nat.lt_or_ge i m with h | h
          · exact h
          · exfalso
            apply hfull
            intro j hj
            exact tailOkT_at ht hA.2.1 ho hL h j (by omega)
        obtain ⟨hno, hcl, y, ha, hb, hR, hpn⟩ := hA
        have hnext : ∀ v w', Below w.heap.size w w' → R i v w' → NotIt R p q i v w → wpAny P .any ops Q fuel (listed.setIfInBounds i true) (a.put o.dst v) w' := by
          intro v w' hbw hv hnv
          refine ih _ _ _ (by simp [hsz]) ?_ ⟨fun k hk => ?_, fun k o' ho' hk e he => ?_, fun k => if k = i then v else y k, ?_, hb.trans (hbw.mono hb.size), ?_, ?_⟩
          · have hil : i < listed.toList.length := by simp; omega
            have hfalse : listed.toList[i] = false := by
              simpa [Array.getD_eq_getD_getElem?, show i < listed.size by omega] using h1
            have := List.countP_set (p := (!·)) (l := listed.toList) (i := i) (a := true) hil
            rw [hfalse] at this
            have hpos : 0 < listed.toList.countP (!·) := List.countP_pos_iff.2 ⟨listed.toList[i], List.getElem_mem hil, by rw [hfalse]; rfl⟩
            simp only [Array.toList_setIfInBounds]
            simp only [Bool.not_false, Bool.not_true, if_true, Bool.false_eq_true, if_false] at this
            omega
          · have := hno k hk
            simp only [Array.getD_eq_getD_getElem?, Array.getElem?_setIfInBounds_ne (show i ≠ k by omega)] at this ⊢
            exact this
          · have up : ∀ q, listed.getD q false = true → (listed.setIfInBounds i true).getD q false = true := by
              intro q hq
              by_cases hqi : q = i
              · subst hqi; simp [Array.getD_eq_getD_getElem?, show q < listed.size by omega]
              · simpa [Array.getD_eq_getD_getElem?, Array.getElem?_setIfInBounds_ne (Ne.symm hqi)] using hq
            apply up
            by_cases hki : k = i
            · subst hki
              rw [ho] at ho'
              cases ho'
              exact hL e he
            · exact hcl k o' ho' (by simpa [Array.getD_eq_getD_getElem?, Array.getElem?_setIfInBounds_ne (Ne.symm hki)] using hk) e he
          · rw [ha, lay_put hok ho hsz v]
          · intro k hk hLk
            by_cases hki : k = i
            · subst hki; simpa using hv
            · have : listed.getD k false = true := by
                simpa [Array.getD_eq_getD_getElem?, Array.getElem?_setIfInBounds_ne (Ne.symm hki)] using hLk
              simp only [hki, if_false]
              exact hstab _ _ _ _ hbw (hR k hk this)
          · intro hp' hq'
            have back : ∀ k, k ≠ i → (listed.setIfInBounds i true).getD k false = true → listed.getD k false = true := fun k hk h => by
              simpa [Array.getD_eq_getD_getElem?, Array.getElem?_setIfInBounds_ne (Ne.symm hk)] using h
            by_cases hip : i = p
            · have hqi : q ≠ i := fun e => hpq (by rw [← hip, e])
              simp only [hip, if_true]
              rw [if_neg (fun e => hpq e.symm)]
              exact hnv.1 hip _ (hR q (by omega) (back q hqi hq'))
            · by_cases hiq : i = q
              · have hpi : p ≠ i := fun e => hip e.symm
                simp only [hiq, if_true]
                rw [if_neg hpq]
                exact fun e => hnv.2 hiq _ (hR p (by omega) (back p hpi hp')) e.symm
              · show (if p = i then v else y p) ≠ (if q = i then v else y q)
                rw [if_neg (fun e => hip e.symm), if_neg (fun e => hiq e.symm)]
                exact hpn (back p (fun e => hip e.symm) hp') (back q (fun e => hiq e.symm) hq')
        have heval : ∀ t ∈ o.looksAt ops, a.tmps[t]? = (lay (fun _ => true) y ops.toList 0 a0.tmps)[t]? := fun t ht => by
          rw [ha]; exact evals_lay hok ho hL t ht
        have hexec : execOp a.eval o = execOp ({ a0 with tmps := lay (fun _ => true) y ops.toList 0 a0.tmps } : Act).eval o := by
          refine execOp_congr o hsel fun x hx => ?_
          cases x with
          | tmp t =>
            have := heval t (List.mem_append_left _ (List.mem_filterMap.2 ⟨.tmp t, by simpa using hx, rfl⟩))
            simp [Act.eval, this]
          | _ => rfl
        have hwant : Region.wanted o (yielded ops a.tmps) = Region.wanted o (yielded ops (lay (fun _ => true) y ops.toList 0 a0.tmps)) := by
          unfold Region.wanted
          cases hg : o.guard with
          | none => rfl
          | some gw =>
            obtain ⟨g, want⟩ := gw
            have : yielded ops a.tmps g = yielded ops (lay (fun _ => true) y ops.toList 0 a0.tmps) g := by
              unfold yielded
              cases hd : (ops[g]?).bind (·.dst) with
              | none => rfl
              | some t =>
                have := heval t (List.mem_append_right _ (by simp [hg, hd]))
                simp [this]
            simp only [this]
        have hs := hstep i o him ho y w hb (fun j hj => by
          obtain ⟨e, he, hej⟩ := List.any_eq_true.1 hj
          have hej' : e.on = j := by simpa using hej
          subst hej'
          have he' := Array.mem_toList_iff.1 he
          exact hR e.on (by have := (hbinds e he').2; omega) (hL e he'))
        by_cases hwt : Region.wanted o (yielded ops (lay (fun _ => true) y ops.toList 0 a0.tmps)) = true
        · rw [if_pos hwt] at hs
          exact gives_wpOp ho (by rw [hwant]; exact hwt) hexec hs fun v w' h => hnext v w' h.1.1 h.1.2 h.2
        · rw [if_neg hwt] at hs
          unfold wpOp
          simp only [ho]
          rw [if_neg (by rw [hwant]; exact hwt)]
          exact hnext undef w (Below.refl _ _) hs.1 ⟨fun e => absurd e hs.2.1, fun e => absurd e hs.2.2⟩
  refine hall ops.size _ _ _ (by simp) ?_ ⟨fun i _ => ?_, fun i o' ho' hi => ?_, fun _ => undef, ?_, hdr, ?_, ?_⟩
  · simpa using List.countP_le_length (p := (!·)) (l := List.replicate ops.size false)
  · simp [Array.getD_eq_getD_getElem?, Array.getElem?_replicate]; split <;> rfl
  · exfalso
    have : i < ops.size := (Array.getElem?_eq_some_iff.1 ho').1
    simp [Array.getD_eq_getD_getElem?, this] at hi
  · have e : lay (fun i => (Array.replicate ops.size false).getD i false) (fun _ => undef) ops.toList 0 a0.tmps = a0.tmps := by
      apply Array.ext_getElem?
      intro s
      exact lay_none _ _ s _ 0 _ fun k o' hk hd => by simp [Array.getD_eq_getD_getElem?, Array.getElem?_replicate]; split <;> rfl
    rw [e]
  · intro i hi hL
    simp [Array.getD_eq_getD_getElem?, hi] at hL
  · intro hp' _
    simp [Array.getD_eq_getD_getElem?, show p < ops.size by omega] at hp'

def AskedN (P : Program) (ops : Array Oper) (a0 : Act) (w0 : World) (l : List Rel) (p q i : Nat) (o : Oper) : Prop :=
  ∀ (ρ : Operand → Value) (y : Nat → Value) (w : World), (∀ t j, writer ops t = some j → ρ (.tmp t) = y j) → (∀ x, (match x with | .tmp t => writer ops t = none | _ => True) → ρ x = a0.eval x) →
    Below w0.heap.size w0 w → (∀ j, o.after.toList.any (fun e => e.on == j) = true → rl l j (y j) w) →
    if Region.wanted o (says ρ ops) = true then GivesR P o ρ w (fun v w' => (Below w.heap.size w w' ∧ rl l i v w') ∧ NotIt (rl l) p q i v w) else rl l i undef w ∧ i ≠ p ∧ i ≠ q
theorem askedN_of {P : Program} {ops : Array Oper} {a0 : Act} {w0 : World} {l : List Rel} {p q i : Nat} {o : Oper} (hp : i ≠ p) (hq : i ≠ q) (h : Asked P ops a0 w0 l i o) : AskedN P ops a0 w0 l p q i o := by
  intro ρ y w h1 h2 h3 h4
  have := h ρ y w h1 h2 h3 h4
  split at this
  · rename_i hw
    rw [if_pos hw]
    exact GivesR.mono this fun v w' hv => ⟨hv, fun e => absurd e hp, fun e => absurd e hq⟩
  · rename_i hw
    rw [if_neg hw]
    exact ⟨this, hp, hq⟩
theorem wp_growN {P : Program} {ops : Array Oper} {Q : Exit → Act → World → Prop} {id : Nat} {a0 : Act} {w0 : World} (m p q : Nat) (l : List Rel) (hm : P.follows .mixedOrders = true) (hpm : p < m) (hqm : q < m) (hpq : p ≠ q)
    (ops' : Array Oper) (hs : strip ops = ops') (hok : growOk ops' = true) (ht : tailOkT ops' m = true) (hmn : m ≤ ops'.size)
    (n : Nat) (hn : a0.tmps.size = n) (hsz : growSize ops' n = true)
    (hstep : AllFrom (AskedN P ops' a0 w0 l p q) 0 (ops'.toList.take m))
    (hend : ∀ y w, Below w0.heap.size w0 w → (∀ i, i < m → rl l i (y i) w) → y p ≠ y q → wpList P ops' Q (ops'.toList.drop m) { a0 with tmps := lay (fun i => decide (i < m)) y ops'.toList 0 a0.tmps } w) :
    (Code.region id ops true).wp P Q a0 w0 := by
  refine wp_region_any hm (strip_any _ _ _ _ ?_)
  subst hs
  have := wp_any_growN m p q hpm hqm hpq hok ht hmn (rl l) (fun i v w w' hb h => (l.getD i anyR).st v w w' hb h) (P := P) (Q := Q) (a0 := a0) (w0 := w0) (fun i o him hi y w hb hd => ?_) hend ⟨rfl, rfl, rfl, Nat.le_refl _, fun _ _ => rfl⟩
  · rw [strip_size] at this
    exact this
  · have hwr : ∀ t j, writer (strip ops) t = some j → ({ a0 with tmps := lay (fun _ => true) y (strip ops).toList 0 a0.tmps } : Act).eval (.tmp t) = y j := by
      intro t j hw
      unfold writer at hw
      have h1 := List.find?_some hw
      have h2 := List.mem_range.1 (List.mem_of_find?_eq_some hw)
      cases ho : (strip ops)[j]? with
      | none => simp [ho] at h1
      | some p =>
        have hd' : p.dst = some t := by simpa [ho] using h1
        have hlt : t < a0.tmps.size := by
          have := List.all_eq_true.1 hsz p (Array.mem_toList_iff.2 (Array.mem_of_getElem? ho))
          rw [hn]
          simpa [hd'] using this
        have hu : ∀ k' o', (strip ops).toList[k']? = some o' → o'.dst = some t → k' = j := by
          intro k' o' hk' hdk
          rcases ((growOk_at hok (i := k') (o := o') (by simpa using hk')).2.2 j p t ho hd').1 with h | h
          · exact h
          · exact absurd hdk h
        have := lay_some (fun _ => true) y t (strip ops).toList 0 a0.tmps j p (by simpa using ho) hd' rfl hu hlt
        simp [Act.eval, this]
    have hno : ∀ x, (match x with | .tmp t => writer (strip ops) t = none | _ => True) → ({ a0 with tmps := lay (fun _ => true) y (strip ops).toList 0 a0.tmps } : Act).eval x = a0.eval x := by
      intro x hx
      cases x with
      | tmp t =>
        have : (lay (fun _ => true) y (strip ops).toList 0 a0.tmps)[t]? = a0.tmps[t]? := by
          refine lay_none _ y t _ 0 _ fun k o' hk hd' => ?_
          exfalso
          simp only [writer] at hx
          have hk' : (strip ops)[k]? = some o' := by simpa using hk
          have hklt : k < (strip ops).size := (Array.getElem?_eq_some_iff.1 hk').1
          have := List.find?_eq_none.1 hx k (List.mem_range.2 hklt)
          simp [hk', hd'] at this
        simp [Act.eval, this]
      | _ => rfl
    have hsays : Region.wanted o (yielded (strip ops) (lay (fun _ => true) y (strip ops).toList 0 a0.tmps)) = Region.wanted o (says ({ a0 with tmps := lay (fun _ => true) y (strip ops).toList 0 a0.tmps } : Act).eval (strip ops)) := by
      congr 1
      funext g
      unfold yielded says
      cases ((strip ops)[g]?).bind (·.dst) with
      | none => rfl
      | some d =>
        simp only [Option.bind_some, Act.eval, Array.getD_eq_getD_getElem?]
        generalize (lay (fun _ => true) y (strip ops).toList 0 a0.tmps)[d]? = q
        cases q with
        | none => rfl
        | some v => cases v <;> rfl
    have hi' : ((strip ops).toList.take m)[i]? = some o := by rw [List.getElem?_take, if_pos him]; simpa using hi
    have := AllFrom.at hstep i o hi' _ y w hwr hno hb hd
    rw [Nat.zero_add] at this
    rw [hsays]
    exact this
/-- A fresh block. -/
theorem alloc_notIt {l : List Rel} {p q i : Nat} {w : World} (hp : ∀ u, rl l q u w → ∃ g cs T, u = .pointer (some ⟨g, 0, none⟩) ∧ Blk w g cs T) (hq : ∀ u, rl l p u w → ∃ g cs T, u = .pointer (some ⟨g, 0, none⟩) ∧ Blk w g cs T) : NotIt (rl l) p q i (.pointer (some ⟨w.heap.size, 0, none⟩)) w := by
  refine ⟨fun _ u hu e => ?_, fun _ u hu e => ?_⟩
  · obtain ⟨g, cs, T, rfl, hb⟩ := hp u hu
    have := hb.lt
    injection e with e; have e := Option.some.inj e; injection e with e1; omega
  · obtain ⟨g, cs, T, rfl, hb⟩ := hq u hu
    have := hb.lt
    injection e with e; have e := Option.some.inj e; injection e with e1; omega
end Pw
