import Derived.Test.YtkjobhcnlppcnaaV1
import Derived.BigQuiet
import Derived.Deep.DeepCutAuto
import Derived.Deep.QuietTactic
import Derived.IntWalk
import Derived.Lib.LazyBuf
import Derived.Test.YtkjobhcnlppcnaaRows
import Derived.Maps.Range
import Derived.Deep.Light
import Derived.BigRegion
import Derived.RegionTactic
import Derived.Deep.LoopGhost
import Derived.Lib.Hide
import Derived.Deep.RegionLaw
import Derived.Laws.Externs
import Derived.Laws.IdiomCopy
import Derived.Lib.AppendZerosOnto
import Derived.Lib.Overlaps
import Derived.Lib.SliceRun
set_option linter.unusedSimpArgs false
set_option linter.unusedVariables false
set_option maxHeartbeats 4000000
set_option maxRecDepth 100000
namespace Pw
open Go Go.RowKit
theorem Ab {a c:World} (h:a.grownBy c none) (row:Option Nat):a.grownBy c row:=⟨h.os,h.tape,h.output,h.size,fun i hi _=>h.block i hi (by simp)⟩
def fT (ps:List (Nat × Value)) (i:Nat):Option Value:=ps.lookup i
def KG (ops:Array Oper) (m:Nat) (ps:List (Nat × Value)):Bool:=
 (List.range m).all fun j=>(fT ps j).isSome||(nQ ops ops.size m).contains j
def Cw (m k1:Nat) (ps:List (Nat × Value)):Bool:=(List.range k1).all fun j=>decide (j≤m)||(fT ps j).isSome
def Ij (ops:Array Oper) (m:Nat) (ps:List (Nat × Value)):Bool:=
 (List.range ops.size).all fun i=>(fT ps i).isNone||(decide (i≠m)&&match ops[i]? with | some o=>o.after.toList.all (fun e=>(fT ps e.on).isSome) | none=>true)
theorem Ff {ops:Array Oper} {m:Nat} {ps:List (Nat × Value)} (h:KG ops m ps=true) {listed:Array Bool} (hc:∀i o,ops[i]?=some o→listed.getD i false=true→∀e∈o.after,listed.getD e.on false=true) (hL:∀o,ops[m]?=some o→∀e∈o.after,listed.getD e.on false=true) (j:Nat) (hj:j<m) (hp:fT ps j=none):listed.getD j false=true:=by
 have h1:=List.all_eq_true.1 h j (List.mem_range.2 hj)
 rw[hp] at h1
 exact lT hc ops.size m hL j (by simpa using h1)
theorem Jv {m k1:Nat} {ps:List (Nat × Value)} (h:Cw m k1 ps=true) (j:Nat) (hj:j<k1) (hm:m<j):∃v,fT ps j=some v:=by
 have h1:=List.all_eq_true.1 h j (List.mem_range.2 hj)
 simp only[Bool.or_eq_true,decide_eq_true_eq] at h1
 rcases h1 with h1|h1
 ·omega
 ·exact Option.isSome_iff_exists.1 h1
theorem IR {ops:Array Oper} {m:Nat} {ps:List (Nat × Value)} (h:Ij ops m ps=true) {i:Nat} {v:Value} {o:Oper} (hi:ops[i]?=some o) (hp:fT ps i=some v):i≠m∧∀e∈o.after,∃u,fT ps e.on=some u:=by
 have hlt:i<ops.size:=(Array.getElem?_eq_some_iff.1 hi).1
 have h1:=List.all_eq_true.1 h i (List.mem_range.2 hlt)
 rw[hp,hi] at h1
 simp only[Option.isNone_some,Bool.false_or,Bool.and_eq_true,decide_eq_true_eq] at h1
 exact⟨h1.1,fun e he=>Option.isSome_iff_exists.1 (List.all_eq_true.1 h1.2 e (Array.mem_toList_iff.2 he))⟩
def IU (P : Program) (ops : Array Oper) (Q : Exit → Act → World → Prop) (m k1 : Nat) (ps : List (Nat × Value)) (R : Nat → Value → World → Prop) (a0 : Act) (w0 : World) (listed : Array Bool) (a : Act) (w : World) : Prop :=
  (∀ i, k1 ≤ i → listed.getD i false = false) ∧ (∀ i o, ops[i]? = some o → listed.getD i false = true → ∀ e ∈ o.after, listed.getD e.on false = true) ∧
  ∃ y : Nat → Value, (∀ i v, fT ps i = some v → y i = v) ∧ a = { a0 with tmps := lay (fun i => listed.getD i false) y ops.toList 0 a0.tmps } ∧
    ((listed.getD m false = false ∧ Below w0.heap.size w0 w ∧ ∀ i, i < m → fT ps i = none → listed.getD i false = true → R i (y i) w) ∨
     (listed.getD m false = true ∧ wpList P ops Q (ops.toList.drop k1) { a0 with tmps := lay (fun i => decide (i < k1)) y ops.toList 0 a0.tmps } w))
theorem tT {ops:Array Oper} {listed:Array Bool} {k1:Nat} (hsz:listed.size=ops.size) (hk:k1≤ops.size) (hL:∀i,i<ops.size→listed.getD i false=decide (i<k1)):listed.toList.countP (!·)=ops.size-k1:=by
 have e:listed.toList=List.replicate k1 true++List.replicate (ops.size-k1) false:=by
  apply List.ext_getElem?
  intro i
  by_cases hi:i<ops.size
  ·have h2:=hL i hi
   rw[Array.getElem?_toList,Array.getElem?_eq_getElem (show i<listed.size by omega)]
   simp only[Array.getD_eq_getD_getElem?,Array.getElem?_eq_getElem (show i<listed.size by omega),Option.getD_some] at h2
   rw[h2]
   by_cases him:i<k1
   ·rw[List.getElem?_append_left (by simpa using him)]
    simp[him]
   ·rw[List.getElem?_append_right (by simp;omega)]
    rw[List.length_replicate,List.getElem?_replicate,if_pos (by omega)]
    simp[him]
  ·rw[List.getElem?_eq_none (by simp;omega),List.getElem?_eq_none (by simp;omega)]
 rw[e]
 simp[List.countP_append,List.countP_replicate]
theorem rH {P : Program} {ops : Array Oper} {Q : Exit → Act → World → Prop} {a0 : Act} {w0 : World} (m k1 : Nat) (ps : List (Nat × Value)) (hok : eP ops = true) (ht : dQ ops k1 = true) (hcok : KG ops m ps = true) (hmid : Cw m k1 ps = true) (hpu : Ij ops m ps = true) (hmk : m < k1) (hk1 : k1 ≤ ops.size)
    (R : Nat → Value → World → Prop) (hstab : ∀ i v w w', Below w.heap.size w w' → R i v w → R i v w')
    (hstep : ∀ i o, i < m → fT ps i = none → ops[i]? = some o → ∀ y w, (∀ i v, fT ps i = some v → y i = v) → Below w0.heap.size w0 w → (∀ j, o.after.toList.any (fun e => e.on == j) = true → match fT ps j with | some v => y j = v | none => R j (y j) w) →
      if Region.wanted o (yielded ops (lay (fun _ => true) y ops.toList 0 a0.tmps)) = true then Gives P o { a0 with tmps := lay (fun _ => true) y ops.toList 0 a0.tmps } w (fun v w' => Below w.heap.size w w' ∧ R i v w') else R i undef w)
    (hpure : ∀ i v o, fT ps i = some v → ops[i]? = some o → ∀ y w, (∀ i v, fT ps i = some v → y i = v) →
      Region.wanted o (yielded ops (lay (fun _ => true) y ops.toList 0 a0.tmps)) = true ∧ (execOp ({ a0 with tmps := lay (fun _ => true) y ops.toList 0 a0.tmps } : Act).eval o).run P w = .ok (.value v) w)
    (hend : ∀ y w o, ops[m]? = some o → (∀ i v, fT ps i = some v → y i = v) → Below w0.heap.size w0 w → (∀ i, i < m → match fT ps i with | some v => y i = v | none => R i (y i) w) →
      Region.wanted o (yielded ops (lay (fun _ => true) y ops.toList 0 a0.tmps)) = true ∧
      Gives P o { a0 with tmps := lay (fun _ => true) y ops.toList 0 a0.tmps } w fun v w' => wpList P ops Q (ops.toList.drop k1) { a0 with tmps := lay (fun i => decide (i < k1)) (fun i => if i = m then v else y i) ops.toList 0 a0.tmps } w') :
    wpAny P .any ops Q ops.size (Array.replicate ops.size false) a0 { w0 with drawn := w0.drawn + 1 } := by
  have hall : ∀ (fuel : Nat) (listed : Array Bool) (a : Act) (w : World), listed.size = ops.size → listed.toList.countP (!·) ≤ fuel → IU P ops Q m k1 ps R a0 w0 listed a w → wpAny P .any ops Q fuel listed a w := by
    have hfin : ∀ (fuel : Nat) (listed : Array Bool) (a : Act) (w : World), listed.size = ops.size → listed.toList.countP (!·) ≤ fuel → IU P ops Q m k1 ps R a0 w0 listed a w → (∀ i, i < k1 → listed.getD i false = true) → wpAny P .any ops Q fuel listed a w := by
      intro fuel listed a w hsz hc hA hfull
      obtain ⟨hno, hcl, y, hV, ha, hph⟩ := hA
      have hL : ∀ i, i < ops.size → listed.getD i false = decide (i < k1) := by
        intro i hi
        by_cases him : i < k1
        · rw [hfull i him]; simp [him]
        · rw [hno i (by omega)]; simp [him]
      rcases hph with ⟨h1, _⟩ | ⟨_, hw⟩
      · rw [hfull m hmk] at h1; cases h1
      · refine gD (m := k1) hok ht fuel k1 listed a w (Nat.le_refl _) hk1 (by have := tT hsz hk1 hL; omega) hsz hL ?_
        rw [ha, fO (fun i => listed.getD i false) (fun i => decide (i < k1)) y ops.toList 0 a0.tmps (fun k hk => by
          simp only [Nat.zero_add]
          exact hL k (by simpa using hk))]
        exact hw
    intro fuel
    induction fuel with
    | zero =>
      intro listed a w hsz hc hA
      refine hfin 0 listed a w hsz hc hA fun i hi => ?_
      have h0 : listed.toList.countP (!·) = 0 := by omega
      have := List.countP_eq_zero.1 h0 (listed[i]'(by omega)) (by simp)
      simpa [Array.getD_eq_getD_getElem?, show i < listed.size by omega] using this
    | succ fuel ih =>
      intro listed a w hsz hc hA
      by_cases hfull : ∀ i, i < k1 → listed.getD i false = true
      · exact hfin _ listed a w hsz hc hA hfull
      · have hready0 : Region.ready .any ops listed ≠ [] := by
          intro hready
          apply hfull
          intro i
          induction i using Nat.strongRecOn with
          | ind i ih' =>
            intro him
            by_cases hc' : listed.getD i false = true
            · exact hc'
            · exfalso
              have hi : i < ops.size := by omega
              have hmem : i ∈ Region.ready .any ops listed := by
                rw [mem_ready]
                refine ⟨?_, ops[i], by simp [hi], fun e he _ => ?_⟩
                · simpa [Array.getD_eq_getD_getElem?, show i < listed.size by omega] using hc'
                · have := (bT hok (i := i) (o := ops[i]) (by simp [hi])).2.1 e he
                  exact ih' e.on this.2 (by omega)
              rw [hready] at hmem
              cases hmem
        refine ⟨fun h => absurd h hready0, fun i hi => ?_⟩
        obtain ⟨h1, o, ho, hdeps⟩ := mem_ready.1 hi
        have hlt : i < ops.size := (Array.getElem?_eq_some_iff.1 ho).1
        have hls : i < listed.size := by omega
        obtain ⟨hsel, hbinds, _⟩ := bT hok ho
        have hL : ∀ e ∈ o.after, listed.getD e.on false = true := fun e he => hdeps e he (hbinds e he).1
        have hnl : listed.getD i false = false := by simpa [Array.getD_eq_getD_getElem?, hls] using h1
        have him : i < k1 := by
          rcases Nat.lt_or_ge i k1 with h | h
          · exact h
          · exfalso
            apply hfull
            intro j hj
            exact iY ht hA.2.1 ho hL h j (by omega)
        obtain ⟨hno, hcl, y, hV, ha, hph⟩ := hA
        have hcl' : ∀ k o', ops[k]? = some o' → (listed.setIfInBounds i true).getD k false = true → ∀ e ∈ o'.after, (listed.setIfInBounds i true).getD e.on false = true := by
          intro k o' ho' hk e he
          apply nR hls
          by_cases hki : k = i
          · subst hki
            rw [ho] at ho'
            cases ho'
            exact hL e he
          · rw [jP hki] at hk
            exact hcl k o' ho' hk e he
        have hno' : ∀ k, k1 ≤ k → (listed.setIfInBounds i true).getD k false = false := fun k hk => by rw [jP (by omega)]; exact hno k hk
        have hnext : ∀ v w' y', (∀ k, y' k = if k = i then v else y k) → (∀ i v, fT ps i = some v → y' i = v) →
            (((listed.setIfInBounds i true).getD m false = false ∧ Below w0.heap.size w0 w' ∧ ∀ k, k < m → fT ps k = none → (listed.setIfInBounds i true).getD k false = true → R k (y' k) w') ∨
             ((listed.setIfInBounds i true).getD m false = true ∧ wpList P ops Q (ops.toList.drop k1) { a0 with tmps := lay (fun i => decide (i < k1)) y' ops.toList 0 a0.tmps } w')) →
            wpAny P .any ops Q fuel (listed.setIfInBounds i true) (a.put o.dst v) w' := by
          intro v w' y' hy' hV' hph'
          obtain rfl : y' = fun k => if k = i then v else y k := funext hy'
          refine ih _ _ _ (by simp [hsz]) (vD hls h1 hc) ⟨hno', hcl', _, hV', ?_, hph'⟩
          rw [ha, qf hok ho hsz v]
        have heval : ∀ t ∈ o.looksAt ops, a.tmps[t]? = (lay (fun _ => true) y ops.toList 0 a0.tmps)[t]? := fun t ht => by
          rw [ha]; exact lm hok ho hL t ht
        have hexec : execOp a.eval o = execOp ({ a0 with tmps := lay (fun _ => true) y ops.toList 0 a0.tmps } : Act).eval o := by
          refine execOp_congr o hsel fun x hx => ?_
          cases x with
          | tmp t =>
            have := heval t (List.mem_append_left _ (List.mem_filterMap.2 ⟨.tmp t, by simpa using hx, rfl⟩))
            simp [Act.eval, this]
          | _ => rfl
        have hwant : Region.wanted o (yielded ops a.tmps) = Region.wanted o (yielded ops (lay (fun _ => true) y ops.toList 0 a0.tmps)) := by
          unfold Region.wanted
          cases hg : o.guard with
          | none => rfl
          | some gw =>
            obtain ⟨g, want⟩ := gw
            have : yielded ops a.tmps g = yielded ops (lay (fun _ => true) y ops.toList 0 a0.tmps) g := by
              unfold yielded
              cases hd : (ops[g]?).bind (·.dst) with
              | none => rfl
              | some t =>
                have := heval t (List.mem_append_right _ (by simp [hg, hd]))
                simp [this]
            simp only [this]
        cases hp : fT ps i with
        | some v =>
          have hne := (IR hpu ho hp).1
          obtain ⟨hw1, hr1⟩ := hpure i v o hp ho y w hV
          have hg : Gives P o { a0 with tmps := lay (fun _ => true) y ops.toList 0 a0.tmps } w (fun u w' => u = v ∧ w' = w) := by
            unfold Gives
            rw [hr1]
            exact ⟨rfl, rfl⟩
          refine iq ho (by rw [hwant]; exact hw1) hexec hg fun u w' hu => ?_
          obtain ⟨rfl, rfl⟩ := hu
          refine hnext u w' y (fun k => ?_) hV ?_
          · by_cases hk : k = i
            · subst hk; rw [if_pos rfl]; exact hV _ _ hp
            · rw [if_neg hk]
          · rcases hph with ⟨h2, h3, h4⟩ | ⟨h2, h3⟩
            · refine .inl ⟨by rw [jP (Ne.symm hne)]; exact h2, h3, fun k hk hpk hLk => ?_⟩
              have hki : k ≠ i := by rintro rfl; rw [hp] at hpk; cases hpk
              rw [jP hki] at hLk
              exact h4 k hk hpk hLk
            · exact .inr ⟨nR hls _ h2, h3⟩
        | none =>
          have hile : i ≤ m := by
            rcases Nat.lt_or_ge m i with h | h
            · obtain ⟨v, hv⟩ := Jv hmid i him h
              rw [hp] at hv
              cases hv
            · exact h
          rcases hph with ⟨h2, h3, h4⟩ | ⟨h2, h3⟩
          · by_cases hic : i = m
            · subst hic
              have hRall : ∀ k, k < i → match fT ps k with | some v => y k = v | none => R k (y k) w := by
                intro k hk
                cases hpk : fT ps k with
                | some v => exact hV k v hpk
                | none => exact h4 k hk hpk (Ff hcok hcl (fun o' ho' => by rw [ho] at ho'; cases ho'; exact hL) k hk hpk)
              obtain ⟨hw1, hg⟩ := hend y w o ho hV h3 hRall
              refine iq ho (by rw [hwant]; exact hw1) hexec hg fun v w' hwp => ?_
              refine hnext v w' (fun k => if k = i then v else y k) (fun _ => rfl) (fun k u hku => ?_) (.inr ⟨zg hls, hwp⟩)
              have : k ≠ i := by rintro rfl; rw [hp] at hku; cases hku
              simp only [this, if_false]
              exact hV k u hku
            · have hilt : i < m := by omega
              have hs := hstep i o hilt hp ho y w hV h3 (fun j hj => by
                obtain ⟨e, he, hej⟩ := List.any_eq_true.1 hj
                have hej' : e.on = j := by simpa using hej
                subst hej'
                have he' := Array.mem_toList_iff.1 he
                cases hpj : fT ps e.on with
                | some v => exact hV _ _ hpj
                | none => exact h4 e.on (by have := (hbinds e he').2; omega) hpj (hL e he'))
              have hgo : ∀ v w', Below w.heap.size w w' → R i v w' → wpAny P .any ops Q fuel (listed.setIfInBounds i true) (a.put o.dst v) w' := by
                intro v w' hbw hv
                refine hnext v w' (fun k => if k = i then v else y k) (fun _ => rfl) (fun k u hku => ?_) (.inl ⟨by rw [jP (Ne.symm hic)]; exact h2, h3.trans (hbw.mono h3.size), fun k hk hpk hLk => ?_⟩)
                · have : k ≠ i := by rintro rfl; rw [hp] at hku; cases hku
                  simp only [this, if_false]
                  exact hV k u hku
                · by_cases hki : k = i
                  · subst hki; simpa using hv
                  · rw [jP hki] at hLk
                    simp only [hki, if_false]
                    exact hstab _ _ _ _ hbw (h4 k hk hpk hLk)
              by_cases hwt : Region.wanted o (yielded ops (lay (fun _ => true) y ops.toList 0 a0.tmps)) = true
              · rw [if_pos hwt] at hs
                exact iq ho (by rw [hwant]; exact hwt) hexec hs fun v w' h => hgo v w' h.1 h.2
              · rw [if_neg hwt] at hs
                unfold wpOp
                simp only [ho]
                rw [if_neg (by rw [hwant]; exact hwt)]
                exact hgo undef w (Below.refl _ _) hs
          · exfalso
            by_cases hic : i = m
            · subst hic; rw [hnl] at h2; cases h2
            · have hmo : ∃ om, ops[m]? = some om := ⟨ops[m]'(by omega), by simp [show m < ops.size by omega]⟩
              obtain ⟨om, hom⟩ := hmo
              have := Ff hcok hcl (fun o' ho' => hcl m o' ho' h2) i (by omega) hp
              rw [hnl] at this
              cases this
  refine (hall ops.size _ _ _ (by simp) ?_ ⟨fun i _ => ?_, fun i o' ho' hi => ?_, fun i => (fT ps i).getD undef, fun i v h => (by show (fT ps i).getD undef = v; rw [h]; rfl), ?_, .inl ⟨?_, ?_, ?_⟩⟩)
  · simpa using List.countP_le_length (p := (!·)) (l := List.replicate ops.size false)
  · simp [Array.getD_eq_getD_getElem?, Array.getElem?_replicate]; split <;> rfl
  · exfalso
    have : i < ops.size := (Array.getElem?_eq_some_iff.1 ho').1
    simp [Array.getD_eq_getD_getElem?, this] at hi
  · have e : ∀ y, lay (fun i => (Array.replicate ops.size false).getD i false) y ops.toList 0 a0.tmps = a0.tmps := by
      intro y
      apply Array.ext_getElem?
      intro s
      exact dN _ _ s _ 0 _ fun k o' hk hd => by simp [Array.getD_eq_getD_getElem?, Array.getElem?_replicate]; split <;> rfl
    rw [e]
  · simp [Array.getD_eq_getD_getElem?, Array.getElem?_replicate]; split <;> rfl
  · exact ⟨rfl, rfl, rfl, Nat.le_refl _, fun _ _ => rfl⟩
  · intro i hi _ hL
    simp [Array.getD_eq_getD_getElem?, show i < ops.size by omega] at hL
def jX (P:Program) (ops:Array Oper) (a0:Act) (w0:World) (ps:List (Nat × Value)) (l:List ig) (i:Nat) (o:Oper):Prop:=
 match fT ps i with
 | some v => ∀(ρ:Operand→Value) (y:Nat→Value) (w:World),(∀t j,writer ops t=some j→ρ (.tmp t)=y j)→(∀x,(match x with | .tmp t=>writer ops t=none | _=>True)→ρ x=a0.eval x)→(∀i v,fT ps i=some v→y i=v) →
   Region.wanted o (says ρ ops)=true∧(execOp ρ o).run P w = .ok (.value v) w
 | none => ∀(ρ:Operand→Value) (y:Nat→Value) (w:World),(∀t j,writer ops t=some j→ρ (.tmp t)=y j)→(∀x,(match x with | .tmp t=>writer ops t=none | _=>True)→ρ x=a0.eval x) →
   Below w0.heap.size w0 w→(∀j,o.after.toList.any (fun e=>e.on==j)=true→match fT ps j with | some v=>y j=v | none=>rl l j (y j) w) →
   if Region.wanted o (says ρ ops)=true then bJ P o ρ w (fun v w'=>Below w.heap.size w w'∧rl l i v w') else rl l i undef w
theorem Dr {P:Program} {ops:Array Oper} {a0:Act} {w0:World} {ps:List (Nat × Value)} {l:List ig} {i:Nat} {o:Oper} {v:Value} (h:fT ps i=some v)
  (hh:∀(ρ:Operand→Value) (y:Nat→Value) (w:World),(∀t j,writer ops t=some j→ρ (.tmp t)=y j)→(∀x,(match x with | .tmp t=>writer ops t=none | _=>True)→ρ x=a0.eval x)→(∀i v,fT ps i=some v→y i=v)→Region.wanted o (says ρ ops)=true∧(execOp ρ o).run P w = .ok (.value v) w):jX P ops a0 w0 ps l i o:=by
 unfold jX;rw[h];exact hh
theorem aV {P:Program} {ops:Array Oper} {a0:Act} {w0:World} {ps:List (Nat × Value)} {l:List ig} {i:Nat} {o:Oper} (h:fT ps i=none)
  (hh:∀(ρ:Operand→Value) (y:Nat→Value) (w:World),(∀t j,writer ops t=some j→ρ (.tmp t)=y j)→(∀x,(match x with | .tmp t=>writer ops t=none | _=>True)→ρ x=a0.eval x) →
   Below w0.heap.size w0 w→(∀j,o.after.toList.any (fun e=>e.on==j)=true→match fT ps j with | some v=>y j=v | none=>rl l j (y j) w) →
   if Region.wanted o (says ρ ops)=true then bJ P o ρ w (fun v w'=>Below w.heap.size w w'∧rl l i v w') else rl l i undef w):jX P ops a0 w0 ps l i o:=by
 unfold jX;rw[h];exact hh
theorem wT {P:Program} {ops:Array Oper} {Q:Exit→Act→World→Prop} {a0:Act} {w0:World} (m k1:Nat) (ps:List (Nat × Value)) (l:List ig) (hok:eP ops=true) (ht:dQ ops k1=true) (hcok:KG ops m ps=true) (hmid:Cw m k1 ps=true) (hpu:Ij ops m ps=true) (hmk:m<k1) (hk1:k1≤ops.size)
  (n:Nat) (hn:a0.tmps.size=n) (hsz:eY ops n=true)
  (hstep:aK (jX P ops a0 w0 ps l) 0 (ops.toList.take m)) (hmidl:aK (jX P ops a0 w0 ps l) (m+1) ((ops.toList.drop (m+1)).take (k1-(m+1))))
  (hpl:ps.all (fun p=>decide (p.1<k1))=true)
  (hend:∀(ρ:Operand→Value) (y:Nat→Value) (w:World) (o:Oper),ops[m]?=some o→(∀t j,writer ops t=some j→ρ (.tmp t)=y j)→(∀x,(match x with | .tmp t=>writer ops t=none | _=>True)→ρ x=a0.eval x)→(∀i v,fT ps i=some v→y i=v) →
   Below w0.heap.size w0 w→(∀i,i<m→match fT ps i with | some v=>y i=v | none=>rl l i (y i) w) →
   Region.wanted o (says ρ ops)=true∧bJ P o ρ w fun v w'=>wpList P ops Q (ops.toList.drop k1) { a0 with tmps:=lay (fun i=>decide (i<k1)) (fun i=>if i=m then v else y i) ops.toList 0 a0.tmps } w') :
  wpAny P .any ops Q ops.size (Array.replicate ops.size false) a0 { w0 with drawn:=w0.drawn+1 }:=by
 have hwr:∀(y:Nat→Value) t j,writer ops t=some j→({ a0 with tmps:=lay (fun _=>true) y ops.toList 0 a0.tmps }:Act).eval (.tmp t)=y j:=by
  intro y t j hw
  unfold writer at hw
  have h1:=List.find?_some hw
  have h2:=List.mem_range.1 (List.mem_of_find?_eq_some hw)
  cases ho:ops[j]? with
  | none=>simp[ho] at h1
  | some p=>
   have hd' : p.dst=some t:=by simpa[ho] using h1
   have hlt:t<a0.tmps.size:=by
    have:=List.all_eq_true.1 hsz p (Array.mem_toList_iff.2 (Array.mem_of_getElem? ho))
    rw[hn]
    simpa[hd'] using this
   have hu:∀k' o',ops.toList[k']?=some o'→o'.dst=some t→k' = j:=by
    intro k' o' hk' hdk
    rcases ((bT hok (i:=k') (o:=o') (by simpa using hk')).2.2 j p t ho hd').1 with h|h
    ·exact h
    ·exact absurd hdk h
   have:=gu (fun _=>true) y t ops.toList 0 a0.tmps j p (by simpa using ho) hd' rfl hu hlt
   simp[Act.eval,this]
 have hno:∀(y:Nat→Value) x,(match x with | .tmp t=>writer ops t=none | _=>True)→({ a0 with tmps:=lay (fun _=>true) y ops.toList 0 a0.tmps }:Act).eval x=a0.eval x:=by
  intro y x hx
  cases x with
  | tmp t=>
   have:(lay (fun _=>true) y ops.toList 0 a0.tmps)[t]?=a0.tmps[t]?:=by
    refine dN _ y t _ 0 _ fun k o' hk hd' => ?_
    exfalso
    simp only[writer] at hx
    have hk' : ops[k]?=some o':=by simpa using hk
    have hklt:k<ops.size:=(Array.getElem?_eq_some_iff.1 hk').1
    have:=List.find?_eq_none.1 hx k (List.mem_range.2 hklt)
    simp[hk',hd'] at this
   simp[Act.eval,this]
  | _=>rfl
 have hsays:∀(y:Nat→Value) (o:Oper),Region.wanted o (yielded ops (lay (fun _=>true) y ops.toList 0 a0.tmps))=Region.wanted o (says ({ a0 with tmps:=lay (fun _=>true) y ops.toList 0 a0.tmps }:Act).eval ops):=by
  intro y o
  congr 1
  funext g
  unfold yielded says
  cases (ops[g]?).bind (·.dst) with
  | none=>rfl
  | some d=>
   simp only[Option.bind_some,Act.eval,Array.getD_eq_getD_getElem?]
   generalize (lay (fun _=>true) y ops.toList 0 a0.tmps)[d]?=q
   cases q with
   | none=>rfl
   | some v=>cases v<;>rfl
 have hask:∀i o,i<k1→i≠m→ops[i]?=some o→jX P ops a0 w0 ps l i o:=by
  intro i o hi hne ho
  rcases Nat.lt_or_ge i m with h|h
  ·have hi' : (ops.toList.take m)[i]?=some o:=by rw[List.getElem?_take,if_pos h];simpa using ho
   have:=aK.at hstep i o hi'
   rwa [Nat.zero_add] at this
  ·have hi' : ((ops.toList.drop (m+1)).take (k1-(m+1)))[i-(m+1)]?=some o:=by
    rw[List.getElem?_take,if_pos (by omega),List.getElem?_drop,show m+1+(i-(m+1))=i by omega]
    simpa using ho
   have:=aK.at hmidl _ o hi'
   rwa [show m+1+(i-(m+1))=i by omega] at this
 refine rH m k1 ps hok ht hcok hmid hpu hmk hk1 (rl l) (fun i v w w' hb h=>(l.getD i anyR).st v w w' hb h) (fun i o him hp hi y w hV hb hd => ?_) (fun i v o hp hi y w hV => ?_) (fun y w o hi hV hb hR => ?_)
 ·have:=hask i o (by omega) (by omega) hi
  unfold jX at this
  rw[hp] at this
  have h2:=this _ y w (hwr y) (hno y) hb hd
  rw[hsays]
  exact h2
 ·have hik:i<k1:=by
   have h1:(i,v)∈ps:=by
    clear hpl hstep hmidl hcok hmid hpu hask hend hV
    unfold fT at hp
    induction ps with
    | nil=>simp at hp
    | cons q r ih=>
     obtain⟨a,b⟩:=q
     by_cases e:i=a
     ·subst e;simp at hp;simp[hp]
     ·have:(i==a)=false:=beq_eq_false_iff_ne.2 e
      simp[List.lookup,this] at hp
      exact List.mem_cons_of_mem _ (ih hp)
   simpa using List.all_eq_true.1 hpl _ h1
  have:=hask i o hik (IR hpu hi hp).1 hi
  unfold jX at this
  rw[hp] at this
  obtain⟨h1,h2⟩:=this _ y w (hwr y) (hno y) hV
  exact⟨by rw[hsays];exact h1,h2⟩
 ·obtain⟨h1,h2⟩:=hend _ y w o hi (hwr y) (hno y) hV hb hR
  exact⟨by rw[hsays];exact h1,h2⟩
theorem zT {P:Program} {ops:Array Oper} {Q:Exit→Act→World→Prop} {id:Nat} {a0:Act} {w0:World} (m k1:Nat) (ps:List (Nat × Value)) (l:List ig) (hm:P.follows .mixedOrders=true) (hok:eP ops=true) (ht:dQ ops k1=true) (hcok:KG ops m ps=true) (hmid:Cw m k1 ps=true) (hpu:Ij ops m ps=true) (hmk:m<k1) (hk1:k1≤ops.size)
  (n:Nat) (hn:a0.tmps.size=n) (hsz:eY ops n=true)
  (hstep:aK (jX P ops a0 w0 ps l) 0 (ops.toList.take m)) (hmidl:aK (jX P ops a0 w0 ps l) (m+1) ((ops.toList.drop (m+1)).take (k1-(m+1))))
  (hpl:ps.all (fun p=>decide (p.1<k1))=true)
  (hend:∀(ρ:Operand→Value) (y:Nat→Value) (w:World) (o:Oper),ops[m]?=some o→(∀t j,writer ops t=some j→ρ (.tmp t)=y j)→(∀x,(match x with | .tmp t=>writer ops t=none | _=>True)→ρ x=a0.eval x)→(∀i v,fT ps i=some v→y i=v) →
   Below w0.heap.size w0 w→(∀i,i<m→match fT ps i with | some v=>y i=v | none=>rl l i (y i) w) →
   Region.wanted o (says ρ ops)=true∧bJ P o ρ w fun v w'=>wpList P ops Q (ops.toList.drop k1) { a0 with tmps:=lay (fun i=>decide (i<k1)) (fun i=>if i=m then v else y i) ops.toList 0 a0.tmps } w') :
  (Code.region id ops true).wp P Q a0 w0:=
 wp_region_any hm (wT m k1 ps l hok ht hcok hmid hpu hmk hk1 n hn hsz hstep hmidl hpl hend)
theorem fH {P:Program} {ρ:Operand→Value} {o:Oper} {w:World} (s x:Operand) (t:TypeId) (hop:o.op=Op.call { callee:=Callee.builtin Builtin.append,args:=#[s,x],argTypes:=#[t,t] })
  (B:Nat) (e:TypeId) (z:Value) (size bytes:Nat) (h1:P.underlying t=some (.slice e)) (h2:(P.info? e).map (fun i=>(i.zero,i.size,i.bytes))=some (some z,size,bytes)) (h6:z.cells.size=size) (h7:0<size)
  (v:Value) (n:Nat) (xs:List Value) (hs:ρ s=v) (hown:Own w B e size v n xs)
  (ao:Option Addr) (m c:Nat) (news:List Value) (hx:ρ x = .slice ao m c) (hnone:ao=none→c=0) (hmc:m≤c) (hn:news.length=m*size) (hrd:bW w ao news) (h1c:∀u∈news,u.oneCell' = true)
  (b1:n+m≤maxLen) (b2:(n+m)*bytes≤140737488355328) (hB:B≤w.heap.size) :
  ∃v' w',(execOp ρ o).run P w = .ok (.value v') w'∧Own w' B e size v' (n+m) (xs++news)∧w.grownBy w' v.ownBlock∧(v'.ownBlock=v.ownBlock∨∀g,v'.ownBlock=some g→w.heap.size≤g):=by
 obtain⟨i,hi,hz,hsz,hby⟩:=info_parts h2
 cases ao with
 | none=>
  obtain rfl:=hnone rfl
  obtain rfl:m=0:=by omega
  obtain rfl:news=[]:=List.eq_nil_of_length_eq_zero (by simpa using hn)
  refine⟨v,w,?_,by simpa using hown,World.grownBy.refl _ _,.inl rfl⟩
  rcases hown with ⟨hl,⟨rfl,rfl⟩|⟨g,off,cap,cur,rfl,hBg,hk,hc,hm,hsize,hcell⟩⟩
  ·simp[execOp,hop,resolve,invoke,builtin,hs,hx,Builtin.append_,run_underlying h1,Go.sizeOf,typeInfo,hi,Builtin.lenOf,Builtin.firstCells,storeCells,Result.andThen]
  ·simp[execOp,hop,resolve,invoke,builtin,hs,hx,Builtin.append_,run_underlying h1,Go.sizeOf,typeInfo,hi,Builtin.lenOf,Builtin.firstCells,hc,storeCells,Result.andThen]
 | some ad=>
  have hnews:∀j u,news[j]?=some u→w.cell? (ad.add j)=some u:=by
   intro j u hj
   obtain⟨b,off,e',hc⟩:=hrd j u hj
   cases e'
   rw[Addr.add_lit];exact hc
  rcases hown with ⟨hl,⟨rfl,rfl⟩|⟨g,off,cap,cur,rfl,hBg,hk,hc,hm,hsize,hcell⟩⟩
  ·obtain rfl:xs=[]:=List.eq_nil_of_length_eq_zero (by simpa using hl)
   obtain⟨v',w',hrun,r1,r2,_⟩:=run_append_own (P:=P) w w.heap.size t o.type e i z size bytes h1 hi hz hsz hby h6 h7 (.slice none 0 0) 0 [] (World.ownsRow_nil w _ e size) ad m c news hn hnews h1c b1 b2 (Nat.le_refl _)
   refine⟨v',w',?_,(Own.of_owns r1).mono hB,r2,.inr (Own.of_owns r1).ge⟩
   simp[execOp,hop,resolve,invoke,builtin,hs,hx,hrun,Result.andThen]
  ·have hcap:n*size≤cap*size:=Nat.mul_le_mul_right _ hc
   rcases Nat.lt_or_ge cap (n+m) with hr|hr
   ·obtain⟨v',w',hrun,r1,r2⟩:=run_append_arg_grows (P:=P) w t o.type e i z size bytes h1 hi hz hsz hby h6 h7 ⟨g,off,none⟩ n cap xs hl (fun j u hj=>by rw[Addr.add_lit,hk.cell];exact hcell j u hj) ad m c news hn hnews hr b1 b2
    refine⟨v',w',?_,(Own.of_owns r1).mono hB,Ab r2 _,.inr (Own.of_owns r1).ge⟩
    simp[execOp,hop,resolve,invoke,builtin,hs,hx,hrun,Result.andThen]
   ·have h3:(n+m)*size≤cap*size:=Nat.mul_le_mul_right _ hr
    rw[Nat.add_mul] at h3
    have hrun:=run_append_room_cells (P:=P) w t o.type e i h1 hi g off n cap ad m c news (by rw[hsz];exact hn) hnews h1c hr (fun j hj=>by rw[hsz,hk.cell];simp[show off+n*size+j<cur.size by omega]) (fun j hj=>hk.free _)
    rw[hsz] at hrun
    refine⟨_,_,?_,⟨by rw[List.length_append,hl,hn,Nat.add_mul],.inr ⟨g,off,cap,_,rfl,hBg,hk.setCells news (off+n*size),hr,hm,by rw[size_putAt];exact hsize,fun j u hj => ?_⟩⟩,aJ _ _ _ _,.inl rfl⟩
    ·simp[execOp,hop,resolve,invoke,builtin,hs,hx,hrun,Result.andThen]
    ·by_cases hjl:j<xs.length
     ·rw[List.getElem?_append_left hjl] at hj
      rw[putAt_out _ _ _ _ (.inl (by omega))];exact hcell j u hj
     ·rw[List.getElem?_append_right (by omega)] at hj
      have:=putAt_in news cur (off+n*size) (j-xs.length) u (by omega) hj
      rwa [show off+n*size+(j-xs.length)=off+j by omega] at this
theorem xH {P:Program} {ops:Array Oper} {ρ:Operand→Value} {o:Oper} {w:World} {F:Value→World→Prop} (hw:Region.wanted o (says ρ ops)=true) {D:Value→World→Prop} (h:∃v' w',(execOp ρ o).run P w = .ok (.value v') w'∧D v' w') (hF:∀v w',D v w'→F v w'):Region.wanted o (says ρ ops)=true∧bJ P o ρ w F:=by
 obtain⟨v',w',h1,h2⟩:=h
 refine⟨hw,?_⟩
 unfold bJ
 rw[h1]
 exact hF _ _ h2
open Go.ChangeShapes Go.WideShapes Go.ChangeAt
theorem uX {P:Program} {t e:TypeId} {n:Nat} {d:TypeDesc} (ht:P.underlying t=some (.array n e)) (he:P.underlying e=some d) (hd:(∀m f,d ≠ .array m f)∧(∀fs,d ≠ .struct fs)) (hs:(P.info? e).map (·.size)=some 1)
  (cs:Array Value) (k:Nat) (v:Value) (hk:k<n) (hv:cs[k]?=some v) (kk:IntKind) (w:World):(Instr.index t (.agg cs) (.int kk k)).run P w = .ok v w:=by
 have hsz:∀w,(Go.sizeOf e).run P w = .ok 1 w:=by
  intro w
  cases hq:P.info? e with
  | none=>simp[hq] at hs
  | some i=>
   have hz:i.size=1:=by simpa[hq] using hs
   simp[Go.sizeOf,typeInfo,run_program,hq,hz]
 have ha:∀w,(isAgg e).run P w = .ok false w:=by
  intro w
  unfold isAgg
  simp[run_underlying he]
  cases d<;>simp_all
 simp[Instr.index,part,asIntOf,run_underlying ht,hsz,hk,ha,hv,go_sem]
theorem IA {e:TypeId}:(∀m f,TypeDesc.slice e ≠ .array m f)∧(∀fs,TypeDesc.slice e ≠ .struct fs):=⟨fun _ _ h=>(by cases h),fun _ h=>(by cases h)⟩
def aggB:TypeDesc→Bool
 | .struct _=>true
 | .array _ _=>true
 | _=>false
theorem fE {P:Program} {w:World} {ty:TypeId} {b off:Nat} {vs:List Value} {d:TypeDesc} (hrd:bW w (some ⟨b,off,none⟩) vs)
  (hu:P.underlying ty=some d) (hd:aggB d=true) (hi:(P.info? ty).map (·.size)=some vs.length) :
  (loadVar ty ⟨b,off,none⟩).run P w = .ok (.agg vs.toArray) w:=by
 have hl:(loadCells ⟨b,off,none⟩ vs.length).run P w = .ok vs.toArray w:=
  run_loadCells_list (P:=P) w ⟨b,off,none⟩ vs (fun j v hv=>by
   obtain⟨b',off',h1,h2⟩:=hrd.at (by
    rcases Nat.lt_or_ge 0 vs.length with h|h
    ·exact h
    ·rw[List.getElem?_eq_none (by omega)] at hv;cases hv)
   cases h1
   have hadd:(⟨b,off,none⟩:Addr).add j=⟨b,off+j,none⟩:=by unfold Addr.add;split<;>simp_all
   rw[hadd]
   exact h2 j v hv)
 cases hq:P.info? ty with
 | none=>simp[hq] at hi
 | some i=>
  have hs:i.size=vs.length:=by simpa[hq] using hi
  have hagg:(isAgg ty).run P w = .ok true w:=by
   unfold isAgg
   rw[Sem.run_bind,run_underlying hu w]
   cases d<;>simp_all[aggB]
  simp[loadVar,Sem.run_bind,hagg,Go.sizeOf,typeInfo,hq,hs,hl]
theorem fM {P:Program} {ops:Array Oper} {rest:List Oper} {o:Oper} {a:Act} {w:World} {Q:Exit→Act→World→Prop} (hgd:o.guard=none) (ty:TypeId) (x:Operand) (ho:o.op = .load ty x)
  (b off:Nat) (hx:a.eval x = .pointer (some ⟨b,off,none⟩)) (vs:List Value) (hrd:bW w (some ⟨b,off,none⟩) vs) (d:TypeDesc)
  (hu:P.underlying ty=some d) (hd:aggB d=true) (hi:(P.info? ty).map (·.size)=some vs.length)
  (h:wpList P ops Q rest (a.put o.dst (.agg vs.toArray)) w):wpList P ops Q (o::rest) a w:=
 wpList_plain hgd fun K hK=>by
  unfold Oper.wp execOp
  simp only[ho,hx,Instr.loadAt,Instr.sureAddr,Sem.run_bind,Sem.run_pure,Result.andThen_ok,fE hrd hu hd hi]
  exact hK _ _ h
theorem aC.rd {w:World} {b:Nat} {cs:Array Value} {T:TypeId} (h:aC w b cs T):bW w (some ⟨b,0,none⟩) cs.toList:=by
 intro i u hi
 exact⟨b,0,rfl,by rw[h.cell,Nat.zero_add];simpa using hi⟩
theorem aA {P:Program} {w:World} {ops:Array Oper} {rest:List Oper} {op:Oper} {a:Act} {Q:Exit→Act→World→Prop} (hgd:op.guard=none) (ty:TypeId) (x y:Operand) (ho:op.op = .store ty x y)
  (b o:Nat) (v:Value) (cells:List Value) (hx:a.eval x = .pointer (some ⟨b,o,none⟩)) (hy:a.eval y=v) (hc:v.cells.toList=cells) (cur:Array Value) (T:TypeId) (hg:aC w b cur T)
  (hfit:o+cells.length≤cur.size) (hi:(P.info? ty).map (·.size)=some cells.length) (h1:∀u∈cells,u.oneCell' = true)
  (h:∀w',aC w' b (putAt cur o cells) T→w.grownBy w' (some b)→wpList P ops Q rest (a.put op.dst undef) w'):wpList P ops Q (op::rest) a w:=
 wpList_plain hgd fun K hK=>by
  have hst:=run_storeCells_cells (P:=P) b o cells 0 w
   (fun j hj=>by rw[Nat.add_zero,hg.cell];simp[show o+j<cur.size by omega]) (fun j hj=>hg.free _) h1
  simp only[Nat.add_zero] at hst
  have hsv:(storeVar ty ⟨b,o,none⟩ v).run P w = .ok () (w.setCells b o cells):=by
   cases hq:P.info? ty with
   | none=>simp[hq] at hi
   | some i=>
    have hs:i.size=cells.length:=by simpa[hq] using hi
    have hv:v.cells.size=cells.length:=by rw[←hc];simp
    simp[storeVar,Go.sizeOf,typeInfo,hq,hs,hv,hc,hst]
  unfold Oper.wp execOp
  simp only[ho,hx,hy,Instr.storeAt,Instr.sureAddr,Sem.run_bind,Sem.run_pure,Result.andThen_ok,hsv]
  exact hK _ _ (h _ (hg.setCells _ _) (aJ _ _ _ _))
theorem lG (cur:Array Value) (o:Nat) (v:Value):putAt cur o [v]=cur.setIfInBounds o v:=rfl
theorem iX {P:Program} {fn:Func} {p q:Tmp} {ty:TypeId} (h:fn.results=#[.cell p ty,.tmp q]) (tmps:Array Value) (w:World) (g:Nat) (t:TypeId) (cs:Array Value) (d:TypeDesc) (v:Value)
  (hp:tmps.getD p undef = .pointer (some ⟨g,0,none⟩)) (hv:tmps.getD q undef=v) (hg:aC w g cs t) (hu:P.underlying ty=some d) (hd:aggB d=true) (hi:(P.info? ty).map (·.size)=some cs.size) :
  (results fn tmps).run P w = .ok (.tuple #[.agg cs,v]) w:=by
 have hp' : tmps[p]?.getD undef = .pointer (some ⟨g,0,none⟩):=by simpa using hp
 have hl:=fE (P:=P) hg.rd hu hd (by rw[Array.length_toList];exact hi)
 have hv' : tmps[q]?.getD undef=v:=by simpa using hv
 simp[results,h,hp',hv',asAddr,hl]
theorem fG {P:Program} {fn:Func} {p q r:Tmp} {ty:TypeId} (h:fn.results=#[.cell p ty,.tmp q,.tmp r]) (tmps:Array Value) (w:World) (g:Nat) (t:TypeId) (cs:Array Value) (d:TypeDesc) (v u:Value)
  (hp:tmps.getD p undef = .pointer (some ⟨g,0,none⟩)) (hv:tmps.getD q undef=v) (hu' : tmps.getD r undef=u) (hg:aC w g cs t) (hu:P.underlying ty=some d) (hd:aggB d=true) (hi:(P.info? ty).map (·.size)=some cs.size) :
  (results fn tmps).run P w = .ok (.tuple #[.agg cs,v,u]) w:=by
 have hp' : tmps[p]?.getD undef = .pointer (some ⟨g,0,none⟩):=by simpa using hp
 have hl:=fE (P:=P) hg.rd hu hd (by rw[Array.length_toList];exact hi)
 have hv' : tmps[q]?.getD undef=v:=by simpa using hv
 have hu'' : tmps[r]?.getD undef=u:=by simpa using hu'
 simp[results,h,hp',hv',hu'',asAddr,hl]
theorem bU {P:Program} {fn:Func} {p:Tmp} {ty:TypeId} (h:fn.results=#[.cell p ty]) (tmps:Array Value) (w:World) (g:Nat) (t:TypeId) (cs:Array Value) (d:TypeDesc)
  (hp:tmps.getD p undef = .pointer (some ⟨g,0,none⟩)) (hg:aC w g cs t) (hu:P.underlying ty=some d) (hd:aggB d=true) (hi:(P.info? ty).map (·.size)=some cs.size) :
  (results fn tmps).run P w = .ok (.agg cs) w:=by
 have hp' : tmps[p]?.getD undef = .pointer (some ⟨g,0,none⟩):=by simpa using hp
 have hl:=fE (P:=P) hg.rd hu hd (by rw[Array.length_toList];exact hi)
 simp[results,h,hp',asAddr,hl]
def ja (w:World) (v v' : Value):Prop:=v'.ownBlock=v.ownBlock∨∀g,v'.ownBlock=some g→w.heap.size≤g
theorem eG {P:Program} {w:World} {ops:Array Oper} {rest:List Oper} {o:Oper} {a:Act} {Q:Exit→Act→World→Prop} (hg:o.guard=none) (s x:Operand) (t:TypeId)
  (hop:o.op=Op.call { callee:=Callee.builtin Builtin.append,args:=#[s,x],argTypes:=#[t,t] })
  (B:Nat) (e:TypeId) (z:Value) (size bytes:Nat) (h1:P.underlying t=some (.slice e)) (h2:(P.info? e).map (fun i=>(i.zero,i.size,i.bytes))=some (some z,size,bytes)) (h6:z.cells.size=size) (h7:0<size)
  (v:Value) (n:Nat) (xs:List Value) (hs:a.eval s=v) (hown:Own w B e size v n xs)
  (ao:Option Addr) (m c:Nat) (news:List Value) (hx:a.eval x = .slice ao m c) (hnone:ao=none→c=0) (hmc:m≤c) (hn:news.length=m*size) (hrd:bW w ao news) (h1c:∀u∈news,u.oneCell' = true)
  (b1:n+m≤maxLen) (b2:(n+m)*bytes≤140737488355328) (hB:B≤w.heap.size)
  (hK:∀v' w',Own w' B e size v' (n+m) (xs++news)→w.grownBy w' v.ownBlock→ja w v v'→wpList P ops Q rest (a.put o.dst v') w') :
  wpList P ops Q (o::rest) a w:=by
 obtain⟨v',w',hrun,k1,k2,k3⟩:=fH (P:=P) (ρ:=a.eval) (o:=o) (w:=w) s x t hop B e z size bytes h1 h2 h6 h7 v n xs hs hown ao m c news hx hnone hmc hn hrd h1c b1 b2 hB
 refine wpList_plain hg fun K hK' => ?_
 unfold Oper.wp
 rw[hrun]
 exact hK' _ _ (hK v' w' k1 k2 k3)
def Apart (v u:Value):Prop:=∀g,v.ownBlock=some g→u.ownBlock≠some g
theorem tC {w:World} {B:Nat} {e:TypeId} {sz:Nat} {v:Value} {n:Nat} {xs:List Value} (h:Own w B e sz v n xs) (g:Nat) (hg:v.ownBlock=some g):g<w.heap.size:=by
 rcases h.2 with ⟨rfl,_⟩|⟨g2,off,cap,cur,rfl,_,hb,_⟩
 ·cases hg
 ·cases hg
  exact hb.lt
theorem aD {P:Program} {w:World} {ops:Array Oper} {rest:List Oper} {op:Oper} {a:Act} {Q:Exit→Act→World→Prop} {cur:Array Value} {T:TypeId} (hgd:op.guard=none) (ty:TypeId) (x y:Operand) (ho:op.op = .store ty x y)
  (cells:Array Value) (hx:a.eval x = .pointer (some ⟨w.heap.size,0,none⟩)) (hy:a.eval y = .agg cells)
  (hfit:cells.size=cur.size) (hi:(P.info? ty).map (·.size)=some cells.size) (h1:cells.all (·.oneCell')=true)
  (h:∀w',Below w.heap.size w w'→aC w' w.heap.size cells T→wpList P ops Q rest (a.put op.dst undef) w'):wpList P ops Q (op::rest) a (w.alloc (.cells cur T)):=by
 refine aB hgd ty x y ho w.heap.size cells hx hy cur T (aC.new _ _ _) hfit hi h1 fun w' hb hgr=>h w' ?_ hb
 exact ((Below.refl _ _).alloc (Nat.le_refl _) _).grown hgr (dI _ _) (fun k hk=>by cases hk;exact Nat.le_refl _)
theorem wpList_want {P:Program} {ops:Array Oper} {rest:List Oper} {o:Oper} {a:Act} {w:World} {Q:Exit→Act→World→Prop} (hw:Region.wanted o (yielded ops a.tmps)=true)
  (h:∀K:Act→World→Prop,(∀a w,wpList P ops Q rest a w→K a w)→o.wp P a w K Q):wpList P ops Q (o::rest) a w:=
 wpList_step fun K hK=>by rw[if_pos hw];exact h K hK
theorem ax {P:Program} {ops:Array Oper} {rest:List Oper} {o:Oper} {a:Act} {w:World} {Q:Exit→Act→World→Prop} (ty:TypeId) (x:Operand) (ho:o.op = .load ty x)
  (b off:Nat) (hx:a.eval x = .pointer (some ⟨b,off,none⟩)) (hgd:Region.wanted o (yielded ops a.tmps)=true) (vs:List Value) (hrd:bW w (some ⟨b,off,none⟩) vs) (d:TypeDesc)
  (hu:P.underlying ty=some d) (hd:aggB d=true) (hi:(P.info? ty).map (·.size)=some vs.length)
  (h:wpList P ops Q rest (a.put o.dst (.agg vs.toArray)) w):wpList P ops Q (o::rest) a w:=
 wpList_want hgd fun K hK=>by
  unfold Oper.wp execOp
  simp only[ho,hx,Instr.loadAt,Instr.sureAddr,Sem.run_bind,Sem.run_pure,Result.andThen_ok,fE hrd hu hd hi]
  exact hK _ _ h
def dn (o:Oper):Oper:={ o with after:=⟨o.after.toList.filter (Region.binds .any)⟩ }
def strip (ops:Array Oper):Array Oper:=⟨ops.toList.map dn⟩
theorem lV (ops:Array Oper):(strip ops).size=ops.size:=by simp[strip]
theorem rD (ops:Array Oper) (i:Nat):(strip ops)[i]?=(ops[i]?).map dn:=by
 unfold strip
 simp
theorem rW (ops:Array Oper) (listed:Array Bool):Region.ready .any (strip ops) listed=Region.ready .any ops listed:=by
 unfold Region.ready
 rw[lV]
 apply List.filter_congr
 intro i _
 congr 1
 rw[rD]
 cases ops[i]? with
 | none=>rfl
 | some o=>
  simp only[Option.map_some,Option.getD_some]
  rw[←Array.all_toList,←Array.all_toList]
  exact filter_all _ _ _
theorem vK (ops:Array Oper) (ts:Array Value):yielded (strip ops) ts=yielded ops ts:=by
 funext g
 unfold yielded
 rw[rD]
 cases ops[g]?<;>rfl
theorem BD {P:Program} {ops:Array Oper} {Q:Exit→Act→World→Prop} {i:Nat} {K:Act→World→Prop} {a:Act} {w:World} (h:wpOp P (strip ops) Q i K a w):wpOp P ops Q i K a w:=by
 unfold wpOp at h ⊢
 rw[rD,vK] at h
 cases ho:ops[i]? with
 | none=>rw[ho] at h;exact h
 | some o=>
  rw[ho] at h
  exact h
theorem nM {P:Program} {ops:Array Oper} {Q:Exit→Act→World→Prop}:∀(fuel:Nat) (listed:Array Bool) (a:Act) (w:World),wpAny P .any (strip ops) Q fuel listed a w→wpAny P .any ops Q fuel listed a w
 | 0,listed,a,w,h=>by
  unfold wpAny at h ⊢
  rw[rW] at h
  exact h
 | fuel+1,listed,a,w,h=>by
  unfold wpAny at h ⊢
  rw[rW] at h
  exact⟨h.1,fun i hi=>wpOp_mono (fun a w=>nM fuel _ a w) (BD (h.2 i hi))⟩
structure mG where
 r:(Nat→Value)→World→Prop
 on:List Nat
 st:∀y w w',Below w.heap.size w w'→r y w→r y w'
 dep:∀y y' w,(∀j∈on,y j=y' j)→r y w→r y' w
def KQ (k:Nat) (R:ig):mG:=⟨fun y w=>R.r (y k) w,[k],fun y w w' hb h=>R.st _ _ _ hb h,fun y y' w h h1=>by rw[←h k (List.mem_singleton.2 rfl)];exact h1⟩
def anyY:mG:=⟨fun _ _=>True,[],fun _ _ _ _ _=>trivial,fun _ _ _ _ _=>trivial⟩
def ry (l:List mG) (i:Nat):mG:=l.getD i anyY
def upd (y:Nat→Value) (i:Nat) (v:Value):Nat→Value:=fun k=>if k=i then v else y k
def Gi (ops:Array Oper) (m:Nat) (l:List mG):Bool:=
 (List.range m).all fun i=>match ops[i]? with
  | none=>true
  | some o=>(ry l i).on.all fun j=>decide (j=i)||o.after.toList.any (fun e=>e.on==j)
theorem Ho {ops:Array Oper} {m:Nat} {l:List mG} (h:Gi ops m l=true) {i:Nat} (him:i<m) {o:Oper} (ho:ops[i]?=some o) {j:Nat} (hj:j∈(ry l i).on):j=i∨∃e∈o.after,e.on=j:=by
 have h1:=List.all_eq_true.1 h i (List.mem_range.2 him)
 simp only[ho] at h1
 have h2:=List.all_eq_true.1 h1 j hj
 simp only[Bool.or_eq_true,decide_eq_true_eq,List.any_eq_true,beq_iff_eq] at h2
 rcases h2 with h2|⟨e,he,h3⟩
 ·exact .inl h2
 ·exact .inr ⟨e,Array.mem_toList_iff.1 he,h3⟩
def KE (ops:Array Oper) (m:Nat) (l:List mG) (B:World→Prop) (a0:Act) (listed:Array Bool) (a:Act) (w:World):Prop:=
 (∀i,m≤i→listed.getD i false=false)∧(∀i o,ops[i]?=some o→listed.getD i false=true→∀e∈o.after,listed.getD e.on false=true) ∧
  ∃y:Nat→Value,a = { a0 with tmps:=lay (fun i=>listed.getD i false) y ops.toList 0 a0.tmps }∧B w∧∀i,i<m→listed.getD i false=true→(ry l i).r y w
def mH (m:Nat) (l:List mG) (B:World→Prop) (i:Nat) (y:Nat→Value) (w:World) (v:Value) (w' : World):Prop:=
 B w'∧(ry l i).r (upd y i v) w'∧∀k,k<m→k≠i→(ry l k).r y w→(ry l k).r y w'
theorem sJ {P:Program} {ops:Array Oper} {Q:Exit→Act→World→Prop} {a0:Act} {w0:World} (m:Nat) (l:List mG) (B:World→Prop) (hbst:∀w w',Below w.heap.size w w'→B w→B w') (hok:eP ops=true) (ht:dQ ops m=true) (hmn:m≤ops.size) (hon:Gi ops m l=true) (hb0:B w0)
  (hstep:∀i o,i<m→ops[i]?=some o→∀y w,B w→(∀j,o.after.toList.any (fun e=>e.on==j)=true→(ry l j).r y w) →
   if Region.wanted o (yielded ops (lay (fun _=>true) y ops.toList 0 a0.tmps))=true then Gives P o { a0 with tmps:=lay (fun _=>true) y ops.toList 0 a0.tmps } w (mH m l B i y w) else mH m l B i y w undef w)
  (hend:∀y w,B w→(∀i,i<m→(ry l i).r y w)→wpList P ops Q (ops.toList.drop m) { a0 with tmps:=lay (fun i=>decide (i<m)) y ops.toList 0 a0.tmps } w) :
  wpAny P .any ops Q ops.size (Array.replicate ops.size false) a0 w0:=by
 have hall:∀(fuel:Nat) (listed:Array Bool) (a:Act) (w:World),listed.size=ops.size→listed.toList.countP (!·)≤fuel→KE ops m l B a0 listed a w→wpAny P .any ops Q fuel listed a w:=by
  intro fuel
  induction fuel with
  | zero=>
   intro listed a w hsz hc hA
   have hl:∀i,i<ops.size→listed.getD i false=true:=by
    intro i hlt
    have h0:listed.toList.countP (!·)=0:=by omega
    have:=List.countP_eq_zero.1 h0 (listed[i]'(by omega)) (by simp)
    simpa[Array.getD_eq_getD_getElem?,show i<listed.size by omega] using this
   obtain⟨hno,hcl,y,ha,hb,hR⟩:=hA
   have hmn' : m=ops.size:=by
    rcases Nat.lt_or_ge m ops.size with h|h
    ·have h1:=hl m h
     rw[hno m (Nat.le_refl _)] at h1
     cases h1
    ·omega
   refine gD (m:=m) hok ht 0 ops.size listed a w (by omega) (Nat.le_refl _) (by omega) hsz (fun i hi=>by rw[hl i hi];simp[hi]) ?_
   have:=hend y w hb fun i hi=>hR i (by omega) (hl i (by omega))
   rw[ha,fO (fun i=>listed.getD i false) (fun i=>decide (i<m)) y ops.toList 0 a0.tmps (fun k hk=>by
    have hk' : k<ops.size:=by simpa using hk
    simp only[Nat.zero_add]
    rw[hl k hk']
    simp;omega)]
   rw[hmn'] at this ⊢
   exact this
  | succ fuel ih=>
   intro listed a w hsz hc hA
   by_cases hfull:∀i,i<m→listed.getD i false=true
   ·obtain⟨hno,hcl,y,ha,hb,hR⟩:=hA
    have hL:∀i,i<ops.size→listed.getD i false=decide (i<m):=by
     intro i hi
     by_cases him:i<m
     ·rw[hfull i him];simp[him]
     ·rw[hno i (by omega)];simp[him]
    have hcount:ops.size-m≤fuel+1:=by
     have:=tT (k1:=m) hsz hmn hL
     omega
    refine gD (m:=m) hok ht (fuel+1) m listed a w (Nat.le_refl _) hmn hcount hsz hL ?_
    have:=hend y w hb fun i hi=>hR i (by omega) (hfull i hi)
    rw[ha,fO (fun i=>listed.getD i false) (fun i=>decide (i<m)) y ops.toList 0 a0.tmps (fun k hk=>by
     simp only[Nat.zero_add]
     exact hL k (by simpa using hk))]
    exact this
   ·have hready0:Region.ready .any ops listed≠[]:=by
     intro hready
     apply hfull
     intro i
     induction i using Nat.strongRecOn with
     | ind i ih'=>
      intro him
      by_cases hc' : listed.getD i false=true
      ·exact hc'
      ·exfalso
       have hi:i<ops.size:=by omega
       have hmem:i∈Region.ready .any ops listed:=by
        rw[mem_ready]
        refine⟨?_,ops[i],by simp[hi],fun e he _ => ?_⟩
        ·simpa[Array.getD_eq_getD_getElem?,show i<listed.size by omega] using hc'
        ·have:=(bT hok (i:=i) (o:=ops[i]) (by simp[hi])).2.1 e he
         exact ih' e.on this.2 (by omega)
       rw[hready] at hmem
       cases hmem
    refine⟨fun h=>absurd h hready0,fun i hi => ?_⟩
    obtain⟨h1,o,ho,hdeps⟩:=mem_ready.1 hi
    have hlt:i<ops.size:=(Array.getElem?_eq_some_iff.1 ho).1
    obtain⟨hsel,hbinds,_⟩:=bT hok ho
    have hL:∀e∈o.after,listed.getD e.on false=true:=fun e he=>hdeps e he (hbinds e he).1
    have him:i<m:=by
     rcases Nat.lt_or_ge i m with h|h
     ·exact h
     ·exfalso
      apply hfull
      intro j hj
      exact iY ht hA.2.1 ho hL h j (by omega)
    obtain⟨hno,hcl,y,ha,hb,hR⟩:=hA
    have hif:listed.getD i false=false:=by
     simpa[Array.getD_eq_getD_getElem?,show i<listed.size by omega] using h1
    have hnext:∀v w',mH m l B i y w v w'→wpAny P .any ops Q fuel (listed.setIfInBounds i true) (a.put o.dst v) w':=by
     intro v w' hst
     refine ih _ _ _ (by simp[hsz]) ?_ ⟨fun k hk => ?_,fun k o' ho' hk e he => ?_,upd y i v,?_,hst.1,?_⟩
     ·exact vD (by omega) h1 hc
     ·have:=hno k hk
      simp only[Array.getD_eq_getD_getElem?,Array.getElem?_setIfInBounds_ne (show i≠k by omega)] at this ⊢
      exact this
     ·have up:∀q,listed.getD q false=true→(listed.setIfInBounds i true).getD q false=true:=nR (by omega)
      apply up
      by_cases hki:k=i
      ·subst hki
       rw[ho] at ho'
       cases ho'
       exact hL e he
      ·exact hcl k o' ho' (by simpa[Array.getD_eq_getD_getElem?,Array.getElem?_setIfInBounds_ne (Ne.symm hki)] using hk) e he
     ·rw[ha,qf hok ho hsz v]
      rfl
     ·intro k hk hLk
      by_cases hki:k=i
      ·subst hki;exact hst.2.1
      ·have hkl:listed.getD k false=true:=by
        simpa[Array.getD_eq_getD_getElem?,Array.getElem?_setIfInBounds_ne (Ne.symm hki)] using hLk
       refine (ry l k).dep y (upd y i v) w' (fun j hj => ?_) (hst.2.2 k hk hki (hR k hk hkl))
       have hkk:k<ops.size:=by omega
       have hjl:listed.getD j false=true:=by
        rcases Ho hon hk (o:=ops[k]) (by simp[hkk]) hj with rfl|⟨e,he,rfl⟩
        ·exact hkl
        ·exact hcl k ops[k] (by simp[hkk]) hkl e he
       have hji:j≠i:=by
        rintro rfl
        rw[hif] at hjl
        cases hjl
       unfold upd
       rw[if_neg hji]
    have heval:∀t∈o.looksAt ops,a.tmps[t]?=(lay (fun _=>true) y ops.toList 0 a0.tmps)[t]?:=fun t ht=>by
     rw[ha];exact lm hok ho hL t ht
    have hexec:execOp a.eval o=execOp ({ a0 with tmps:=lay (fun _=>true) y ops.toList 0 a0.tmps }:Act).eval o:=by
     refine execOp_congr o hsel fun x hx => ?_
     cases x with
     | tmp t=>
      have:=heval t (List.mem_append_left _ (List.mem_filterMap.2 ⟨.tmp t,by simpa using hx,rfl⟩))
      simp[Act.eval,this]
     | _=>rfl
    have hwant:Region.wanted o (yielded ops a.tmps)=Region.wanted o (yielded ops (lay (fun _=>true) y ops.toList 0 a0.tmps)):=by
     unfold Region.wanted
     cases hg:o.guard with
     | none=>rfl
     | some gw=>
      obtain⟨g,want⟩:=gw
      have:yielded ops a.tmps g=yielded ops (lay (fun _=>true) y ops.toList 0 a0.tmps) g:=by
       unfold yielded
       cases hd:(ops[g]?).bind (·.dst) with
       | none=>rfl
       | some t=>
        have:=heval t (List.mem_append_right _ (by simp[hg,hd]))
        simp[this]
      simp only[this]
    have hs:=hstep i o him ho y w hb (fun j hj=>by
     obtain⟨e,he,hej⟩:=List.any_eq_true.1 hj
     have hej' : e.on=j:=by simpa using hej
     subst hej'
     have he':=Array.mem_toList_iff.1 he
     exact hR e.on (by have:=(hbinds e he').2;omega) (hL e he'))
    by_cases hwt:Region.wanted o (yielded ops (lay (fun _=>true) y ops.toList 0 a0.tmps))=true
    ·rw[if_pos hwt] at hs
     exact iq ho (by rw[hwant];exact hwt) hexec hs fun v w' h=>hnext v w' h
    ·rw[if_neg hwt] at hs
     unfold wpOp
     simp only[ho]
     rw[if_neg (by rw[hwant];exact hwt)]
     exact hnext undef w hs
 refine hall ops.size _ _ _ (by simp) ?_ ⟨fun i _ => ?_,fun i o' ho' hi => ?_,fun _=>undef,?_,hb0,?_⟩
 ·simpa using List.countP_le_length (p:=(!·)) (l:=List.replicate ops.size false)
 ·simp[Array.getD_eq_getD_getElem?,Array.getElem?_replicate];split<;>rfl
 ·exfalso
  have:i<ops.size:=(Array.getElem?_eq_some_iff.1 ho').1
  simp[Array.getD_eq_getD_getElem?,this] at hi
 ·have e:lay (fun i=>(Array.replicate ops.size false).getD i false) (fun _=>undef) ops.toList 0 a0.tmps=a0.tmps:=by
   apply Array.ext_getElem?
   intro s
   exact dN _ _ s _ 0 _ fun k o' hk hd=>by simp[Array.getD_eq_getD_getElem?,Array.getElem?_replicate];split<;>rfl
  rw[e]
 ·intro i hi hL
  exfalso
  have:(Array.replicate ops.size false).getD i false=false:=by
   simp[Array.getD_eq_getD_getElem?,Array.getElem?_replicate];split<;>rfl
  rw[this] at hL
  cases hL
def ut (P:Program) (ops:Array Oper) (a0:Act) (m:Nat) (l:List mG) (B:World→Prop) (i:Nat) (o:Oper):Prop:=
 ∀(ρ:Operand→Value) (y:Nat→Value) (w:World),(∀t j,writer ops t=some j→ρ (.tmp t)=y j)→(∀x,(match x with | .tmp t=>writer ops t=none | _=>True)→ρ x=a0.eval x) →
  B w→(∀j,o.after.toList.any (fun e=>e.on==j)=true→(ry l j).r y w) →
  if Region.wanted o (says ρ ops)=true then bJ P o ρ w (mH m l B i y w) else mH m l B i y w undef w
theorem DN {P:Program} {ops:Array Oper} {Q:Exit→Act→World→Prop} {a0:Act} {w0:World} (m:Nat) (l:List mG) (B:World→Prop) (hbst:∀w w',Below w.heap.size w w'→B w→B w') (hok:eP ops=true) (ht:dQ ops m=true) (hmn:m≤ops.size) (hon:Gi ops m l=true) (hb0:B w0)
  (n:Nat) (hn:a0.tmps.size=n) (hsz:eY ops n=true)
  (hstep:aK (ut P ops a0 m l B) 0 (ops.toList.take m))
  (hend:∀y w,B w→(∀i,i<m→(ry l i).r y w)→wpList P ops Q (ops.toList.drop m) { a0 with tmps:=lay (fun i=>decide (i<m)) y ops.toList 0 a0.tmps } w) :
  wpAny P .any ops Q ops.size (Array.replicate ops.size false) a0 w0:=by
 refine sJ m l B hbst hok ht hmn hon hb0 (fun i o him hi y w hb hd => ?_) hend
 have hwr:∀t j,writer ops t=some j→({ a0 with tmps:=lay (fun _=>true) y ops.toList 0 a0.tmps }:Act).eval (.tmp t)=y j:=by
  intro t j hw
  unfold writer at hw
  have h1:=List.find?_some hw
  have h2:=List.mem_range.1 (List.mem_of_find?_eq_some hw)
  cases ho:ops[j]? with
  | none=>simp[ho] at h1
  | some p=>
   have hd' : p.dst=some t:=by simpa[ho] using h1
   have hlt:t<a0.tmps.size:=by
    have:=List.all_eq_true.1 hsz p (Array.mem_toList_iff.2 (Array.mem_of_getElem? ho))
    rw[hn]
    simpa[hd'] using this
   have hu:∀k' o',ops.toList[k']?=some o'→o'.dst=some t→k' = j:=by
    intro k' o' hk' hdk
    rcases ((bT hok (i:=k') (o:=o') (by simpa using hk')).2.2 j p t ho hd').1 with h|h
    ·exact h
    ·exact absurd hdk h
   have:=gu (fun _=>true) y t ops.toList 0 a0.tmps j p (by simpa using ho) hd' rfl hu hlt
   simp[Act.eval,this]
 have hno:∀x,(match x with | .tmp t=>writer ops t=none | _=>True)→({ a0 with tmps:=lay (fun _=>true) y ops.toList 0 a0.tmps }:Act).eval x=a0.eval x:=by
  intro x hx
  cases x with
  | tmp t=>
   have:(lay (fun _=>true) y ops.toList 0 a0.tmps)[t]?=a0.tmps[t]?:=by
    refine dN _ y t _ 0 _ fun k o' hk hd' => ?_
    exfalso
    simp only[writer] at hx
    have hk' : ops[k]?=some o':=by simpa using hk
    have hklt:k<ops.size:=(Array.getElem?_eq_some_iff.1 hk').1
    have:=List.find?_eq_none.1 hx k (List.mem_range.2 hklt)
    simp[hk',hd'] at this
   simp[Act.eval,this]
  | _=>rfl
 have hsays:Region.wanted o (yielded ops (lay (fun _=>true) y ops.toList 0 a0.tmps))=Region.wanted o (says ({ a0 with tmps:=lay (fun _=>true) y ops.toList 0 a0.tmps }:Act).eval ops):=by
  congr 1
  funext g
  unfold yielded says
  cases (ops[g]?).bind (·.dst) with
  | none=>rfl
  | some d=>
   simp only[Option.bind_some,Act.eval,Array.getD_eq_getD_getElem?]
   generalize (lay (fun _=>true) y ops.toList 0 a0.tmps)[d]?=q
   cases q with
   | none=>rfl
   | some v=>cases v<;>rfl
 have hi' : (ops.toList.take m)[i]?=some o:=by rw[List.getElem?_take,if_pos him];simpa using hi
 have:=aK.at hstep i o hi' _ y w hwr hno hb hd
 rw[Nat.zero_add] at this
 rw[hsays]
 exact this
theorem EU {P:Program} {ops:Array Oper} {Q:Exit→Act→World→Prop} {id:Nat} {a0:Act} {w0:World} (m:Nat) (l:List mG) (B:World→Prop) (hbst:∀w w',Below w.heap.size w w'→B w→B w') (hb0:B w0) (hm:P.follows .mixedOrders=true)
  (ops' : Array Oper) (hs:strip ops=ops') (hok:eP ops' = true) (ht:dQ ops' m=true) (hmn:m≤ops'.size) (hon:Gi ops' m l=true)
  (n:Nat) (hn:a0.tmps.size=n) (hsz:eY ops' n=true)
  (hstep:aK (ut P ops' a0 m l B) 0 (ops'.toList.take m))
  (hend:∀y w,B w→(∀i,i<m→(ry l i).r y w)→wpList P ops' Q (ops'.toList.drop m) { a0 with tmps:=lay (fun i=>decide (i<m)) y ops'.toList 0 a0.tmps } w) :
  (Code.region id ops true).wp P Q a0 w0:=by
 refine wp_region_any hm (nM _ _ _ _ ?_)
 subst hs
 have h2:B { w0 with drawn:=w0.drawn+1 }:=hbst w0 _ ⟨rfl,rfl,rfl,Nat.le_refl _,fun _ _=>rfl⟩ hb0
 have:=DN m l B hbst hok ht hmn hon h2 n hn hsz hstep hend
 rw[lV] at this
 exact this
theorem Gp (y:Nat→Value) (i:Nat) (v:Value):upd y i v i=v:=by unfold upd;rw[if_pos rfl]
theorem iW {m:Nat} {l:List mG} {B:World→Prop} (hbst:∀w w',Below w.heap.size w w'→B w→B w') {i:Nat} {y:Nat→Value} {w:World} {v:Value} {w' : World} (hB:B w) (hb:Below w.heap.size w w') (hR:(ry l i).r (upd y i v) w'):mH m l B i y w v w':=
 ⟨hbst _ _ hb hB,hR,fun k _ _ h=>(ry l k).st _ _ _ hb h⟩
theorem Bz {P:Program} {ops:Array Oper} {ρ:Operand→Value} {o:Oper} {w:World} {m:Nat} {l:List mG} {B:World→Prop} (hbst:∀w w',Below w.heap.size w w'→B w→B w') {i:Nat} {y:Nat→Value} (hB:B w) (R:ig) (hR:∀v w',R.r v w'→(ry l i).r (upd y i v) w')
  (h:if Region.wanted o (says ρ ops)=true then bJ P o ρ w (fun v w'=>Below w.heap.size w w'∧rl (List.replicate (i+1) R) i v w') else rl (List.replicate (i+1) R) i undef w) :
  if Region.wanted o (says ρ ops)=true then bJ P o ρ w (mH m l B i y w) else mH m l B i y w undef w:=by
 have e:∀v w,rl (List.replicate (i+1) R) i v w=R.r v w:=by
  intro v w
  unfold rl
  rw[List.getD_eq_getElem?_getD,List.getElem?_replicate,if_pos (by omega)]
  rfl
 simp only[e] at h
 by_cases hw:Region.wanted o (says ρ ops)=true
 ·rw[if_pos hw] at h ⊢
  unfold bJ at h ⊢
  generalize (execOp ρ o).run P w=q at h ⊢
  cases q with
  | ok n w'=>
   cases n with
   | value v=>exact iW hbst hB h.1 (hR _ _ h.2)
   | skip=>exact iW hbst hB h.1 (hR _ _ h.2)
   | enter f args=>
    refine Calls.mono h fun e w'' he => ?_
    cases e
    case returned v=>exact iW hbst hB he.1 (hR _ _ he.2)
    all_goals exact he
   | _=>exact h
  | halt x w'=>exact h
 ·rw[if_neg hw] at h ⊢
  exact iW hbst hB (Below.refl _ _) (hR _ _ h)
def oN (B:Nat) (T:TypeId) (n:Nat):ig:=⟨fun v w => ∃g cs,v = .pointer (some ⟨g,0,none⟩)∧B≤g∧aC w g cs T∧cs.size=n,fun _ _ _ hb ⟨g,cs,h1,h2,h3,h4⟩=>⟨g,cs,h1,h2,h3.ext hb,h4⟩⟩
theorem zF {B:Nat} {T T' : TypeId} {n:Nat} {v:Value} {w w' : World} (h:(oN B T n).r v w) {g:Nat} {cs:Array Value} (hg:aC w' g cs T') (hsz:T=T'→cs.size=n) (hold:∃cur,aC w g cur T') (hgr:w.grownBy w' (some g)):(oN B T n).r v w':=by
 obtain⟨g',cs',h1,h2,h3,h4⟩:=h
 by_cases e:g' = g
 ·subst e
  obtain⟨cur,hc⟩:=hold
  have e2:T=T':=by
   unfold aC at h3 hc
   rw[hc] at h3
   simp only[Option.some.injEq,Obj.cells.injEq] at h3
   exact h3.2.1.symm
  subst e2
  exact⟨g',cs,h1,h2,hg,hsz rfl⟩
 ·exact⟨g',cs',h1,h2,h3.grown hgr (fun e2=>e (Option.some.inj e2).symm),h4⟩
theorem Bv {P:Program} {ops:Array Oper} {ρ:Operand→Value} {o:Oper} {w:World} {m:Nat} {l:List mG} {B:World→Prop} {i:Nat} {y:Nat→Value} (hw:Region.wanted o (says ρ ops)=true) (ty:TypeId) (x z:Operand) (ho:o.op = .store ty x z)
  (g off:Nat) (v:Value) (cells:List Value) (hx:ρ x = .pointer (some ⟨g,off,none⟩)) (hz:ρ z=v) (hc:v.cells.toList=cells) (cur:Array Value) (T:TypeId) (hg:aC w g cur T)
  (hfit:off+cells.length≤cur.size) (hi:(P.info? ty).map (·.size)=some cells.length) (h1:∀u∈cells,u.oneCell' = true)
  (h:∀w',aC w' g (putAt cur off cells) T→w.grownBy w' (some g)→mH m l B i y w undef w') :
  if Region.wanted o (says ρ ops)=true then bJ P o ρ w (mH m l B i y w) else mH m l B i y w undef w:=by
 rw[if_pos hw]
 have hst:=run_storeCells_cells (P:=P) g off cells 0 w
  (fun j hj=>by rw[Nat.add_zero,hg.cell];simp[show off+j<cur.size by omega]) (fun j hj=>hg.free _) h1
 simp only[Nat.add_zero] at hst
 have hsv:(storeVar ty ⟨g,off,none⟩ v).run P w = .ok () (w.setCells g off cells):=by
  cases hq:P.info? ty with
  | none=>simp[hq] at hi
  | some i=>
   have hs:i.size=cells.length:=by simpa[hq] using hi
   have hv:v.cells.size=cells.length:=by rw[←hc];simp
   simp[storeVar,Go.sizeOf,typeInfo,hq,hs,hv,hc,hst]
 unfold bJ execOp
 simp only[ho,hx,hz,Instr.storeAt,Instr.sureAddr,Sem.run_bind,Sem.run_pure,Result.andThen_ok,hsv]
 exact h _ (hg.setCells _ _) (aJ _ _ _ _)
inductive GQ where
 | v (V:Value)
 | r (i:Nat) (R:ig)
 | y (i:Nat) (R:mG)
def rvyN:GQ:=.r 0 anyR
def rvyR:List GQ→Nat→List mG
 | [],_=>[]
 | .v V::l,i=>KQ i (ni V)::rvyR l (i+1)
 | .r _ R::l,i=>KQ i R::rvyR l (i+1)
 | .y _ R::l,i=>R::rvyR l (i+1)
def toRV:List GQ→List RV
 | []=>[]
 | .v V::l => .v V::toRV l
 | .r i _::l => .r i anyR::toRV l
 | .y i _::l => .r i anyR::toRV l
theorem rvy_at:∀(l:List GQ) (i k:Nat) {V:Value},l.getD i rvyN = .v V→(rvyR l k).getD i anyY=KQ (k+i) (ni V)∧(toRV l).getD i rvN = .v V
 | [],_,_,_,h=>by cases h
 | a::l,0,k,V,h=>by
  have h' : a = .v V:=h
  subst h'
  exact⟨rfl,rfl⟩
 | a::l,i+1,k,V,h=>by
  have:=rvy_at l i (k+1) (V:=V) (by simpa using h)
  rw[show k+(i+1)=k+1+i by omega]
  cases a<;>exact⟨by simpa[rvyR] using this.1,by simpa[toRV] using this.2⟩
theorem rvy_rl:∀(l:List GQ) (j k:Nat) {y:Nat→Value} {w:World},((rvyR l k).getD j anyY).r y w→rl (rvs (toRV l)) j (y (k+j)) w
 | [],_,_,_,_,_=>by unfold rl toRV rvs;simp[anyR]
 | a::l,0,k,y,w,h=>by
  cases a with
  | v V=>exact h
  | r i R=>exact trivial
  | y i R=>exact trivial
 | a::l,j+1,k,y,w,h=>by
  have h' : ((rvyR l (k+1)).getD j anyY).r y w:=by cases a<;>simpa[rvyR] using h
  have:=rvy_rl l j (k+1) h'
  rw[show k+(j+1)=k+1+j by omega]
  unfold rl at this ⊢
  cases a<;>simpa[toRV,rvs] using this
section
variable {P:Program} {ops:Array Oper} {a0:Act} {m:Nat} {l:List GQ} {B:World→Prop} {i:Nat} {o:Oper} {r:List Oper}
theorem oG (hbst:∀w w',Below w.heap.size w w'→B w→B w') {V:Value} (hv:l.getD i rvyN = .v V)
  (h:∀ρ y w,B w→Kn ops a0 (toRV l) o ρ y w→(Region.wanted o (says ρ ops)=false∧V=undef)∨(Region.wanted o (says ρ ops)=true∧(execOp ρ o).run P w = .ok (.value V) w)):ut P ops a0 m (rvyR l 0) B i o:=fun ρ y w hw hn hB hd=>by
 have hk:Kn ops a0 (toRV l) o ρ y w:=⟨hw,hn,fun j hj=>by have:=rvy_rl l j 0 (hd j hj);rwa [Nat.zero_add] at this⟩
 have e:∀w',(ry (rvyR l 0) i).r (upd y i V) w':=fun w'=>by
  unfold ry
  rw[(rvy_at l i 0 hv).1,Nat.zero_add]
  exact Gp _ _ _
 rcases h ρ y w hB hk with ⟨h1,h2⟩|⟨h1,h2⟩
 ·rw[if_neg (by rw[h1];exact Bool.false_ne_true),←h2]
  exact iW hbst hB (Below.refl _ _) (e w)
 ·rw[if_pos h1]
  unfold bJ
  rw[h2]
  exact iW hbst hB (Below.refl _ _) (e w)
theorem pJ.runY {V:Value} (hv:l.getD i rvyN = .v V) (h:pJ P ops a0 (toRV l) i o):∀ρ y w,Kn ops a0 (toRV l) o ρ y w→(Region.wanted o (says ρ ops)=false∧V=undef)∨(Region.wanted o (says ρ ops)=true∧(execOp ρ o).run P w = .ok (.value V) w):=fun ρ y w hk=>by
 have e:∀v w,rl (rvs (toRV l)) i v w→v=V:=fun v w hr=>by
  unfold rl at hr
  rw[rvs_at,(rvy_at l i 0 hv).2] at hr
  exact hr
 rcases h ρ y w hk with ⟨h1,h2⟩|⟨h1,v,h2,h3⟩
 ·exact .inl ⟨h1,(e _ _ h2).symm⟩
 ·exact .inr ⟨h1,by rw[←e _ _ h3];exact h2⟩
abbrev AY (P:Program) (ops:Array Oper) (a0:Act) (m:Nat) (l:List GQ) (B:World→Prop) (i:Nat) (r:List Oper):Prop:=aK (ut P ops a0 m (rvyR l 0) B) i r
theorem IP (hbst:∀w w',Below w.heap.size w w'→B w→B w') {V:Value} (hv:l.getD i rvyN = .v V) (h:pJ P ops a0 (toRV l) i o):ut P ops a0 m (rvyR l 0) B i o:=oG hbst hv fun ρ y w _ hk=>h.runY hv ρ y w hk
theorem Yk (hbst:∀w w',Below w.heap.size w w'→B w→B w') (h:(ks ops a0 (toRV l) o).map GQ.v=some (l.getD i rvyN)) (hl:AY P ops a0 m l B (i+1) r):AY P ops a0 m l B i (o::r):=by
 cases hk:ks ops a0 (toRV l) o with
 | none=>rw[hk] at h;cases h
 | some V=>
  rw[hk] at h
  have hv:=(Option.some.inj h).symm
  exact⟨IP hbst hv (Jb hk (rvy_at l i 0 hv).2),hl⟩
theorem Yf (hbst:∀w w',Below w.heap.size w w'→B w→B w') (b k:Nat) {t:TypeId} {v:Value} {f:Nat} (h:Kt ops a0 (toRV l) o=some (t,v,f)) (hv:l.getD i rvyN = .v (.pointer (some ⟨b,k,none⟩))) (hl:AY P ops a0 m l B (i+1) r) (hf:∀w,(Instr.fieldAt t v f).run P w = .ok (.pointer (some ⟨b,k,none⟩)) w:=by intro _;kernel_rfl):AY P ops a0 m l B i (o::r):=
 ⟨(AX (C:=fun i o=>pJ P ops a0 (toRV l) i o) (r:=[]) id b k h (rvy_at l i 0 hv).2 trivial hf).1 |> IP hbst hv,hl⟩
theorem Yr (hbst:∀w w',Below w.heap.size w w'→B w→B w') (V:Value) (h:∀ρ y w,B w→Kn ops a0 (toRV l) o ρ y w→(execOp ρ o).run P w = .ok (.value V) w) (hg:kg ops a0 (toRV l) o=some true) (hv:l.getD i rvyN = .v V) (hl:AY P ops a0 m l B (i+1) r):AY P ops a0 m l B i (o::r):=
 ⟨oG hbst hv fun ρ y w hB hk => .inr ⟨uu hg hk,h ρ y w hB hk⟩,hl⟩
theorem Yc (hbst:∀w w',Below w.heap.size w w'→B w→B w') {b k:Nat} (V:Value) (hc:∀w,B w→w.cell? ⟨b,k,none⟩=some V) {t:TypeId} {x:Operand} (hg:kg ops a0 (toRV l) o=some true) (ho:o.op = .load t x) (hx:kx ops a0 (toRV l) o x=some (.pointer (some ⟨b,k,none⟩))) (hv:l.getD i rvyN = .v V) (hl:AY P ops a0 m l B (i+1) r) (hs:Kq P t=true:=by kernel_rfl):AY P ops a0 m l B i (o::r):=
 ⟨oG hbst hv fun ρ y w hB hk => .inr ⟨uu hg hk,run_load ho (az hx hk) (by
  simp only[Instr.loadAt,Instr.sureAddr,Sem.run_bind,Sem.run_pure,Result.andThen_ok,kv hs (hc w hB)])⟩,hl⟩
end
theorem toRV_len:∀l:List GQ,(toRV l).length=l.length
 | []=>rfl
 | a::l=>by cases a<;>simp[toRV,toRV_len l]
theorem nG {w0:World}:∀w w',Below w.heap.size w w'→Below w0.heap.size w0 w→Below w0.heap.size w0 w':=fun _ _ h h2=>ag h2 h
theorem rF {P:Program} {ops:Array Oper} {Q:Exit→Act→World→Prop} {id:Nat} {t0:Array Value} {df:List Deferred} {w0:World} (m:Nat) (l:List GQ) (B:World→Prop) (hbst:∀w w',Below w.heap.size w w'→B w→B w') (hb0:B w0)
  (hstep:AY P (strip ops) ⟨t0,df⟩ m l B 0 ((strip ops).toList.take m)) {tm:(Nat→Value)→List Value} {rest:List Oper} (hf:∀y,nY y (toRV l) (strip ops).toList t0.toList=some (tm y)) (hd:wr ((strip ops).toList.drop m)=some rest)
  (hend:∀y w,B w→(∀i,i<m→(ry (rvyR l 0) i).r y w)→wpList P (strip ops) Q rest ⟨(tm y).toArray,df⟩ w)
  (hm:P.follows .mixedOrders=true:=by kernel_rfl) (hok:eP (strip ops)=true:=by kernel_rfl) (ht:dQ (strip ops) m=true:=by kernel_rfl) (hmn:m≤(strip ops).size:=by decide) (hon:Gi (strip ops) m (rvyR l 0)=true:=by kernel_rfl) (hll:l.length=m:=by rfl) (hix:idxOk (toRV l) 0=true:=by kernel_rfl)
  (hsz:eY (strip ops) t0.size=true:=by kernel_rfl):(Code.region id ops true).wp P Q ⟨t0,df⟩ w0:=by
 refine EU m (rvyR l 0) B hbst hb0 hm (strip ops) rfl hok ht hmn hon _ rfl hsz hstep fun y w hb hR => ?_
 have h:=hend y w hb hR
 rw[yP hd]
 have e:=lL (m:=m) (y:=y) (w:=w) (toRV l) (strip ops).toList 0 t0 hix (by rw[toRV_len,hll,Nat.zero_add]) (by rw[toRV_len,hll,Array.length_toList];exact hmn) fun i hi=>by
  have:=rvy_rl l i 0 (hR i (by rw[toRV_len,hll] at hi;exact hi))
  rw[Nat.zero_add] at this ⊢
  exact this
 show wpList P (strip ops) Q rest ⟨lay (fun i=>decide (i<m)) y (strip ops).toList 0 t0,df⟩ w
 have e2:=Option.some.inj (e.symm.trans (hf y))
 have e3:lay (fun i=>decide (i<m)) y (strip ops).toList 0 t0=(tm y).toArray:=by rw[←e2]
 rw[e3]
 exact h
theorem bJ.mono {P:Program} {o:Oper} {ρ:Operand→Value} {w:World} {F G:Value→World→Prop} (h:bJ P o ρ w F) (hFG:∀v w',F v w'→G v w'):bJ P o ρ w G:=by
 unfold bJ at h ⊢
 generalize (execOp ρ o).run P w=r at h ⊢
 cases r with
 | ok n w'=>
  cases n with
  | value v=>exact hFG _ _ h
  | skip=>exact hFG _ _ h
  | enter f args=>
   refine Calls.mono h fun e w'' he => ?_
   cases e with
   | returned v=>exact hFG _ _ he
   | panicked c=>exact he.elim
   | outgrown=>exact he.elim
  | _=>exact h.elim
 | halt x w'=>exact h.elim
def Kc (ops:Array Oper) (m p q:Nat) (R:Nat→Value→World→Prop) (a0:Act) (w0:World) (listed:Array Bool) (a:Act) (w:World):Prop:=
 (∀i,m≤i→listed.getD i false=false)∧(∀i o,ops[i]?=some o→listed.getD i false=true→∀e∈o.after,listed.getD e.on false=true)∧∃y:Nat→Value,a = { a0 with tmps:=lay (fun i=>listed.getD i false) y ops.toList 0 a0.tmps }∧Below w0.heap.size w0 w∧(∀i,i<ops.size→listed.getD i false=true→R i (y i) w) ∧
  (listed.getD p false=true→listed.getD q false=true→y p≠y q)
def uG (R:Nat→Value→World→Prop) (p q i:Nat) (v:Value) (w:World):Prop:=(i=p→∀u,R q u w→v≠u)∧(i=q→∀u,R p u w→v≠u)
theorem xO {P:Program} {ops:Array Oper} {Q:Exit→Act→World→Prop} {a0:Act} {w0:World} (m p q:Nat) (hpm:p<m) (hqm:q<m) (hpq:p≠q) (hok:eP ops=true) (ht:dQ ops m=true) (hmn:m≤ops.size)
  (R:Nat→Value→World→Prop) (hstab:∀i v w w',Below w.heap.size w w'→R i v w→R i v w')
  (hstep:∀i o,i<m→ops[i]?=some o→∀y w,Below w0.heap.size w0 w→(∀j,o.after.toList.any (fun e=>e.on==j)=true→R j (y j) w) →
   if Region.wanted o (yielded ops (lay (fun _=>true) y ops.toList 0 a0.tmps))=true then Gives P o { a0 with tmps:=lay (fun _=>true) y ops.toList 0 a0.tmps } w (fun v w'=>(Below w.heap.size w w'∧R i v w')∧uG R p q i v w) else R i undef w∧i≠p∧i≠q)
  (hend:∀y w,Below w0.heap.size w0 w→(∀i,i<m→R i (y i) w)→y p≠y q→wpList P ops Q (ops.toList.drop m) { a0 with tmps:=lay (fun i=>decide (i<m)) y ops.toList 0 a0.tmps } w) :
  Below w0.heap.size w0 { w0 with drawn:=w0.drawn+1 }→wpAny P .any ops Q ops.size (Array.replicate ops.size false) a0 { w0 with drawn:=w0.drawn+1 }:=by
 intro hdr
 have hall:∀(fuel:Nat) (listed:Array Bool) (a:Act) (w:World),listed.size=ops.size→listed.toList.countP (!·)≤fuel→Kc ops m p q R a0 w0 listed a w→wpAny P .any ops Q fuel listed a w:=by
  intro fuel
  induction fuel with
  | zero=>
   intro listed a w hsz hc hA
   have hl:∀i,i<ops.size→listed.getD i false=true:=by
    intro i hlt
    have h0:listed.toList.countP (!·)=0:=by omega
    have:=List.countP_eq_zero.1 h0 (listed[i]'(by omega)) (by simp)
    simpa[Array.getD_eq_getD_getElem?,show i<listed.size by omega] using this
   obtain⟨hno,hcl,y,ha,hb,hR,hpn⟩:=hA
   have hmn' : m=ops.size:=by
    rcases Nat.lt_or_ge m ops.size with h|h
    ·have h1:=hl m h
     rw[hno m (Nat.le_refl _)] at h1
     cases h1
    ·omega
   refine gD (m:=m) hok ht 0 ops.size listed a w (by omega) (Nat.le_refl _) (by omega) hsz (fun i hi=>by rw[hl i hi];simp[hi]) ?_
   have:=hend y w hb (fun i hi=>hR i (by omega) (hl i (by omega))) (hpn (hl p (by omega)) (hl q (by omega)))
   rw[ha,fO (fun i=>listed.getD i false) (fun i=>decide (i<m)) y ops.toList 0 a0.tmps (fun k hk=>by
    have hk' : k<ops.size:=by simpa using hk
    simp only[Nat.zero_add]
    rw[hl k hk']
    simp;omega)]
   rw[hmn'] at this ⊢
   exact this
  | succ fuel ih=>
   intro listed a w hsz hc hA
   by_cases hfull:∀i,i<m→listed.getD i false=true
   ·obtain⟨hno,hcl,y,ha,hb,hR,hpn⟩:=hA
    have hL:∀i,i<ops.size→listed.getD i false=decide (i<m):=by
     intro i hi
     by_cases him:i<m
     ·rw[hfull i him];simp[him]
     ·rw[hno i (by omega)];simp[him]
    have hcount:ops.size-m≤fuel+1:=by
     have h1:listed.toList.countP (!·)=ops.size-m:=by
      have e:listed.toList=List.replicate m true++List.replicate (ops.size-m) false:=by
       apply List.ext_getElem?
       intro i
       by_cases hi:i<ops.size
       ·have h2:=hL i hi
        rw[Array.getElem?_toList,Array.getElem?_eq_getElem (show i<listed.size by omega)]
        simp only[Array.getD_eq_getD_getElem?,Array.getElem?_eq_getElem (show i<listed.size by omega),Option.getD_some] at h2
        rw[h2]
        by_cases him:i<m
        ·rw[List.getElem?_append_left (by simpa using him)]
         simp[him]
        ·rw[List.getElem?_append_right (by simp;omega)]
         rw[List.length_replicate,List.getElem?_replicate,if_pos (by omega)]
         simp[him]
       ·rw[List.getElem?_eq_none (by simp;omega),List.getElem?_eq_none (by simp;omega)]
      rw[e]
      simp[List.countP_append,List.countP_replicate]
     omega
    refine gD (m:=m) hok ht (fuel+1) m listed a w (Nat.le_refl _) hmn hcount hsz hL ?_
    have:=hend y w hb (fun i hi=>hR i (by omega) (hfull i hi)) (hpn (hfull p hpm) (hfull q hqm))
    rw[ha,fO (fun i=>listed.getD i false) (fun i=>decide (i<m)) y ops.toList 0 a0.tmps (fun k hk=>by
     simp only[Nat.zero_add]
     exact hL k (by simpa using hk))]
    exact this
   ·have hready0:Region.ready .any ops listed≠[]:=by
     intro hready
     apply hfull
     intro i
     induction i using Nat.strongRecOn with
     | ind i ih'=>
      intro him
      by_cases hc' : listed.getD i false=true
      ·exact hc'
      ·exfalso
       have hi:i<ops.size:=by omega
       have hmem:i∈Region.ready .any ops listed:=by
        rw[mem_ready]
        refine⟨?_,ops[i],by simp[hi],fun e he _ => ?_⟩
        ·simpa[Array.getD_eq_getD_getElem?,show i<listed.size by omega] using hc'
        ·have:=(bT hok (i:=i) (o:=ops[i]) (by simp[hi])).2.1 e he
         exact ih' e.on this.2 (by omega)
       rw[hready] at hmem
       cases hmem
    refine⟨fun h=>absurd h hready0,fun i hi => ?_⟩
    obtain⟨h1,o,ho,hdeps⟩:=mem_ready.1 hi
    have hlt:i<ops.size:=(Array.getElem?_eq_some_iff.1 ho).1
    obtain⟨hsel,hbinds,_⟩:=bT hok ho
    have hL:∀e∈o.after,listed.getD e.on false=true:=fun e he=>hdeps e he (hbinds e he).1
    have him:i<m:=by
     rcases Nat.lt_or_ge i m with h|h
     ·exact h
     ·exfalso
      apply hfull
      intro j hj
      exact iY ht hA.2.1 ho hL h j (by omega)
    obtain⟨hno,hcl,y,ha,hb,hR,hpn⟩:=hA
    have hnext:∀v w',Below w.heap.size w w'→R i v w'→uG R p q i v w→wpAny P .any ops Q fuel (listed.setIfInBounds i true) (a.put o.dst v) w':=by
     intro v w' hbw hv hnv
     refine ih _ _ _ (by simp[hsz]) ?_ ⟨fun k hk => ?_,fun k o' ho' hk e he => ?_,fun k=>if k=i then v else y k,?_,hb.trans (hbw.mono hb.size),?_,?_⟩
     ·have hil:i<listed.toList.length:=by simp;omega
      have hfalse:listed.toList[i]=false:=by
       simpa[Array.getD_eq_getD_getElem?,show i<listed.size by omega] using h1
      have:=List.countP_set (p:=(!·)) (l:=listed.toList) (i:=i) (a:=true) hil
      rw[hfalse] at this
      have hpos:0<listed.toList.countP (!·):=List.countP_pos_iff.2 ⟨listed.toList[i],List.getElem_mem hil,by rw[hfalse];rfl⟩
      simp only[Array.toList_setIfInBounds]
      simp only[Bool.not_false,Bool.not_true,if_true,Bool.false_eq_true,if_false] at this
      omega
     ·have:=hno k hk
      simp only[Array.getD_eq_getD_getElem?,Array.getElem?_setIfInBounds_ne (show i≠k by omega)] at this ⊢
      exact this
     ·have up:∀q,listed.getD q false=true→(listed.setIfInBounds i true).getD q false=true:=by
       intro q hq
       by_cases hqi:q=i
       ·subst hqi;simp[Array.getD_eq_getD_getElem?,show q<listed.size by omega]
       ·simpa[Array.getD_eq_getD_getElem?,Array.getElem?_setIfInBounds_ne (Ne.symm hqi)] using hq
      apply up
      by_cases hki:k=i
      ·subst hki
       rw[ho] at ho'
       cases ho'
       exact hL e he
      ·exact hcl k o' ho' (by simpa[Array.getD_eq_getD_getElem?,Array.getElem?_setIfInBounds_ne (Ne.symm hki)] using hk) e he
     ·rw[ha,qf hok ho hsz v]
     ·intro k hk hLk
      by_cases hki:k=i
      ·subst hki;simpa using hv
      ·have:listed.getD k false=true:=by
        simpa[Array.getD_eq_getD_getElem?,Array.getElem?_setIfInBounds_ne (Ne.symm hki)] using hLk
       simp only[hki,if_false]
       exact hstab _ _ _ _ hbw (hR k hk this)
     ·intro hp' hq'
      have back:∀k,k≠i→(listed.setIfInBounds i true).getD k false=true→listed.getD k false=true:=fun k hk h=>by
       simpa[Array.getD_eq_getD_getElem?,Array.getElem?_setIfInBounds_ne (Ne.symm hk)] using h
      by_cases hip:i=p
      ·have hqi:q≠i:=fun e=>hpq (by rw[←hip,e])
       simp only[hip,if_true]
       rw[if_neg (fun e=>hpq e.symm)]
       exact hnv.1 hip _ (hR q (by omega) (back q hqi hq'))
      ·by_cases hiq:i=q
       ·have hpi:p≠i:=fun e=>hip e.symm
        simp only[hiq,if_true]
        rw[if_neg hpq]
        exact fun e=>hnv.2 hiq _ (hR p (by omega) (back p hpi hp')) e.symm
       ·show (if p=i then v else y p)≠(if q=i then v else y q)
        rw[if_neg (fun e=>hip e.symm),if_neg (fun e=>hiq e.symm)]
        exact hpn (back p (fun e=>hip e.symm) hp') (back q (fun e=>hiq e.symm) hq')
    have heval:∀t∈o.looksAt ops,a.tmps[t]?=(lay (fun _=>true) y ops.toList 0 a0.tmps)[t]?:=fun t ht=>by
     rw[ha];exact lm hok ho hL t ht
    have hexec:execOp a.eval o=execOp ({ a0 with tmps:=lay (fun _=>true) y ops.toList 0 a0.tmps }:Act).eval o:=by
     refine execOp_congr o hsel fun x hx => ?_
     cases x with
     | tmp t=>
      have:=heval t (List.mem_append_left _ (List.mem_filterMap.2 ⟨.tmp t,by simpa using hx,rfl⟩))
      simp[Act.eval,this]
     | _=>rfl
    have hwant:Region.wanted o (yielded ops a.tmps)=Region.wanted o (yielded ops (lay (fun _=>true) y ops.toList 0 a0.tmps)):=by
     unfold Region.wanted
     cases hg:o.guard with
     | none=>rfl
     | some gw=>
      obtain⟨g,want⟩:=gw
      have:yielded ops a.tmps g=yielded ops (lay (fun _=>true) y ops.toList 0 a0.tmps) g:=by
       unfold yielded
       cases hd:(ops[g]?).bind (·.dst) with
       | none=>rfl
       | some t=>
        have:=heval t (List.mem_append_right _ (by simp[hg,hd]))
        simp[this]
      simp only[this]
    have hs:=hstep i o him ho y w hb (fun j hj=>by
     obtain⟨e,he,hej⟩:=List.any_eq_true.1 hj
     have hej' : e.on=j:=by simpa using hej
     subst hej'
     have he':=Array.mem_toList_iff.1 he
     exact hR e.on (by have:=(hbinds e he').2;omega) (hL e he'))
    by_cases hwt:Region.wanted o (yielded ops (lay (fun _=>true) y ops.toList 0 a0.tmps))=true
    ·rw[if_pos hwt] at hs
     exact iq ho (by rw[hwant];exact hwt) hexec hs fun v w' h=>hnext v w' h.1.1 h.1.2 h.2
    ·rw[if_neg hwt] at hs
     unfold wpOp
     simp only[ho]
     rw[if_neg (by rw[hwant];exact hwt)]
     exact hnext undef w (Below.refl _ _) hs.1 ⟨fun e=>absurd e hs.2.1,fun e=>absurd e hs.2.2⟩
 refine hall ops.size _ _ _ (by simp) ?_ ⟨fun i _ => ?_,fun i o' ho' hi => ?_,fun _=>undef,?_,hdr,?_,?_⟩
 ·simpa using List.countP_le_length (p:=(!·)) (l:=List.replicate ops.size false)
 ·simp[Array.getD_eq_getD_getElem?,Array.getElem?_replicate];split<;>rfl
 ·exfalso
  have:i<ops.size:=(Array.getElem?_eq_some_iff.1 ho').1
  simp[Array.getD_eq_getD_getElem?,this] at hi
 ·have e:lay (fun i=>(Array.replicate ops.size false).getD i false) (fun _=>undef) ops.toList 0 a0.tmps=a0.tmps:=by
   apply Array.ext_getElem?
   intro s
   exact dN _ _ s _ 0 _ fun k o' hk hd=>by simp[Array.getD_eq_getD_getElem?,Array.getElem?_replicate];split<;>rfl
  rw[e]
 ·intro i hi hL
  simp[Array.getD_eq_getD_getElem?,hi] at hL
 ·intro hp' _
  simp[Array.getD_eq_getD_getElem?,show p<ops.size by omega] at hp'
def Fg (P:Program) (ops:Array Oper) (a0:Act) (w0:World) (l:List ig) (p q i:Nat) (o:Oper):Prop:=
 ∀(ρ:Operand→Value) (y:Nat→Value) (w:World),(∀t j,writer ops t=some j→ρ (.tmp t)=y j)→(∀x,(match x with | .tmp t=>writer ops t=none | _=>True)→ρ x=a0.eval x) →
  Below w0.heap.size w0 w→(∀j,o.after.toList.any (fun e=>e.on==j)=true→rl l j (y j) w) →
  if Region.wanted o (says ρ ops)=true then bJ P o ρ w (fun v w'=>(Below w.heap.size w w'∧rl l i v w')∧uG (rl l) p q i v w) else rl l i undef w∧i≠p∧i≠q
theorem lc {P:Program} {ops:Array Oper} {a0:Act} {w0:World} {l:List ig} {p q i:Nat} {o:Oper} (hp:i≠p) (hq:i≠q) (h:iM P ops a0 w0 l i o):Fg P ops a0 w0 l p q i o:=by
 intro ρ y w h1 h2 h3 h4
 have:=h ρ y w h1 h2 h3 h4
 split at this
 ·rename_i hw
  rw[if_pos hw]
  exact bJ.mono this fun v w' hv=>⟨hv,fun e=>absurd e hp,fun e=>absurd e hq⟩
 ·rename_i hw
  rw[if_neg hw]
  exact⟨this,hp,hq⟩
theorem Gd {P:Program} {ops:Array Oper} {Q:Exit→Act→World→Prop} {id:Nat} {a0:Act} {w0:World} (m p q:Nat) (l:List ig) (hm:P.follows .mixedOrders=true) (hpm:p<m) (hqm:q<m) (hpq:p≠q)
  (ops' : Array Oper) (hs:strip ops=ops') (hok:eP ops' = true) (ht:dQ ops' m=true) (hmn:m≤ops'.size)
  (n:Nat) (hn:a0.tmps.size=n) (hsz:eY ops' n=true)
  (hstep:aK (Fg P ops' a0 w0 l p q) 0 (ops'.toList.take m))
  (hend:∀y w,Below w0.heap.size w0 w→(∀i,i<m→rl l i (y i) w)→y p≠y q→wpList P ops' Q (ops'.toList.drop m) { a0 with tmps:=lay (fun i=>decide (i<m)) y ops'.toList 0 a0.tmps } w) :
  (Code.region id ops true).wp P Q a0 w0:=by
 refine wp_region_any hm (nM _ _ _ _ ?_)
 subst hs
 have:=xO m p q hpm hqm hpq hok ht hmn (rl l) (fun i v w w' hb h=>(l.getD i anyR).st v w w' hb h) (P:=P) (Q:=Q) (a0:=a0) (w0:=w0) (fun i o him hi y w hb hd => ?_) hend ⟨rfl,rfl,rfl,Nat.le_refl _,fun _ _=>rfl⟩
 ·rw[lV] at this
  exact this
 ·have hwr:∀t j,writer (strip ops) t=some j→({ a0 with tmps:=lay (fun _=>true) y (strip ops).toList 0 a0.tmps }:Act).eval (.tmp t)=y j:=by
   intro t j hw
   unfold writer at hw
   have h1:=List.find?_some hw
   have h2:=List.mem_range.1 (List.mem_of_find?_eq_some hw)
   cases ho:(strip ops)[j]? with
   | none=>simp[ho] at h1
   | some p=>
    have hd' : p.dst=some t:=by simpa[ho] using h1
    have hlt:t<a0.tmps.size:=by
     have:=List.all_eq_true.1 hsz p (Array.mem_toList_iff.2 (Array.mem_of_getElem? ho))
     rw[hn]
     simpa[hd'] using this
    have hu:∀k' o',(strip ops).toList[k']?=some o'→o'.dst=some t→k' = j:=by
     intro k' o' hk' hdk
     rcases ((bT hok (i:=k') (o:=o') (by simpa using hk')).2.2 j p t ho hd').1 with h|h
     ·exact h
     ·exact absurd hdk h
    have:=gu (fun _=>true) y t (strip ops).toList 0 a0.tmps j p (by simpa using ho) hd' rfl hu hlt
    simp[Act.eval,this]
  have hno:∀x,(match x with | .tmp t=>writer (strip ops) t=none | _=>True)→({ a0 with tmps:=lay (fun _=>true) y (strip ops).toList 0 a0.tmps }:Act).eval x=a0.eval x:=by
   intro x hx
   cases x with
   | tmp t=>
    have:(lay (fun _=>true) y (strip ops).toList 0 a0.tmps)[t]?=a0.tmps[t]?:=by
     refine dN _ y t _ 0 _ fun k o' hk hd' => ?_
     exfalso
     simp only[writer] at hx
     have hk' : (strip ops)[k]?=some o':=by simpa using hk
     have hklt:k<(strip ops).size:=(Array.getElem?_eq_some_iff.1 hk').1
     have:=List.find?_eq_none.1 hx k (List.mem_range.2 hklt)
     simp[hk',hd'] at this
    simp[Act.eval,this]
   | _=>rfl
  have hsays:Region.wanted o (yielded (strip ops) (lay (fun _=>true) y (strip ops).toList 0 a0.tmps))=Region.wanted o (says ({ a0 with tmps:=lay (fun _=>true) y (strip ops).toList 0 a0.tmps }:Act).eval (strip ops)):=by
   congr 1
   funext g
   unfold yielded says
   cases ((strip ops)[g]?).bind (·.dst) with
   | none=>rfl
   | some d=>
    simp only[Option.bind_some,Act.eval,Array.getD_eq_getD_getElem?]
    generalize (lay (fun _=>true) y (strip ops).toList 0 a0.tmps)[d]?=q
    cases q with
    | none=>rfl
    | some v=>cases v<;>rfl
  have hi' : ((strip ops).toList.take m)[i]?=some o:=by rw[List.getElem?_take,if_pos him];simpa using hi
  have:=aK.at hstep i o hi' _ y w hwr hno hb hd
  rw[Nat.zero_add] at this
  rw[hsays]
  exact this
theorem yN {l:List ig} {p q i:Nat} {w:World} (hp:∀u,rl l q u w→∃g cs T,u = .pointer (some ⟨g,0,none⟩)∧aC w g cs T) (hq:∀u,rl l p u w→∃g cs T,u = .pointer (some ⟨g,0,none⟩)∧aC w g cs T):uG (rl l) p q i (.pointer (some ⟨w.heap.size,0,none⟩)) w:=by
 refine⟨fun _ u hu e => ?_,fun _ u hu e => ?_⟩
 ·obtain⟨g,cs,T,rfl,hb⟩:=hp u hu
  have:=hb.lt
  injection e with e;have e:=Option.some.inj e;injection e with e1;omega
 ·obtain⟨g,cs,T,rfl,hb⟩:=hq u hu
  have:=hb.lt
  injection e with e;have e:=Option.some.inj e;injection e with e1;omega
end Pw
namespace Go.Proofs.Ytkjobhcnlppcnaa
open Go.RowKit Pw
theorem int_info:(Try.prog.info? 3).map (fun i=>(i.zero,i.size,i.bytes))=some (some (.int .i64 0),1,8):=by kernel_rfl
theorem int_size:(Try.prog.info? 3).map (·.size)=some 1:=by kernel_rfl
theorem yL (l:List Int):(l.map eU).length=l.length*1:=by simp
theorem yF (l:List Int):∀u∈l.map eU,u.oneCell' = true:=by
 intro u hu
 obtain⟨_,_,rfl⟩:=List.mem_map.1 hu
 rfl
theorem JE (l:List Int) (k:Nat) (h:k<l.length):(l.map eU)[k]?=some (.int .i64 l[k]):=by simp[h,eU]
theorem jk {w:World} {a:Option Addr} {l:List Int} (h:bW w a (l.map eU)) (k:Nat) (hk:k<l.length):∃b off,a=some ⟨b,off,none⟩∧w.cell? ⟨b,off+k,none⟩=some (.int .i64 l[k]):=by
 obtain⟨b,off,ha,hc⟩:=h.at (by simp;omega)
 exact⟨b,off,ha,hc _ _ (JE l k hk)⟩
open Go.Maps
theorem int_key:Keyed Try.prog 3:=int_keyed Try.underlying3
theorem Bn (w:World):(zeroValue 4).run Try.prog w = .ok (.bool false) w:=by kernel_rfl
theorem oJ {H:Type} {v:Value} {x:Bool} {ps:List MemPlace} (h:plainElem (H:=H) Try.prog 4 v=some (.lit (.bool x),ps)):v = .bool x:=by
 unfold plainElem at h
 rw[Try.underlying4] at h
 split at h<;>simp_all
def iD (w:World) (b n:Nat) (f:Int→Bool):Prop:=∃D:DataW Unit,w.ownsMap Try.prog 3 (plainElem Try.prog 4) b n D∧JC D f
theorem iD.made (w:World):iD (w.alloc (.map #[] 0)) w.heap.size 0 (fun _=>false):=⟨_,World.ownsMap_made (H:=Unit) w Try.prog 3 (plainElem Try.prog 4),JC.empty⟩
theorem iD.below {w w' : World} {b n:Nat} {f:Int→Bool} (h:iD w b n f) (hb:Below w.heap.size w w'):iD w' b n f:=by
 obtain⟨D,h1,h2⟩:=h
 exact⟨D,Bw h1 hb,h2⟩
theorem iD.look {w:World} {b n:Nat} {f:Int→Bool} (h:iD w b n f) (j:Int) (hj : -9223372036854775808≤j∧j≤9223372036854775807):(Instr.lookup 178 (.map (some b)) (.int .i64 j) false).run Try.prog w = .ok (.bool (f j)) w:=by
 obtain⟨D,h0,hf⟩:=h
 obtain⟨v,ps,h1,h2⟩:=h0.lookup int_key Try.underlying178 (Bn w) (plainElem_bool Try.underlying4 false) (keyOf_int_mk Try.underlying3 (a:=j) (WalkArith.wf_i64 hj))
 rw[hf.at_ j] at h2
 rw[oJ h2] at h1
 exact h1
theorem mU {ops:Array Oper} {rest:List Oper} {o:Oper} {a:Act} {w:World} {Q:Exit→Act→World→Prop} {b n:Nat} {f:Int→Bool} (hown:iD w b n f) (hn:n<1000000000) (hg:o.guard=none) (m x v:Operand) (hop:o.op=Op.mapUpdate 178 m x v)
  (hm:a.eval m = .map (some b)) (j:Int) (hx:a.eval x = .int .i64 j) (hv:a.eval v = .bool true) (hj : -9223372036854775808≤j∧j≤9223372036854775807)
  (hK:∀w',iD w' b (n+1) (fun i=>f i||decide (i=j))→w.grownBy w' (some b)→wpList Try.prog ops Q rest (a.put o.dst undef) w'):wpList Try.prog ops Q (o::rest) a w:=by
 obtain⟨D,h0,hf⟩:=hown
 exact wpList_mapUpdate_own _ hg m x v 178 hop 3 4 int_key Try.underlying178 _ b n D hm h0 (by unfold maxLen;omega) _ _ _ hx hv (keyOf_int_mk Try.underlying3 (WalkArith.wf_i64 hj)) _ [] (plainElem_bool Try.underlying4 true) fun w' h1 h2=>hK w' ⟨_,h1,hf.put j⟩ h2
theorem iD.rdv {w w' : World} {b n:Nat} {f:Int→Bool} (h:iD w b n f) {a:Option Addr} {vs:List Value} (hr:bW w a vs) (hg:w.grownBy w' (some b)):bW w' a vs:=by
 intro i u hi
 obtain⟨b',off,ha,hc⟩:=hr i u hi
 refine⟨b',off,ha,hg.cell hc ?_⟩
 intro e
 cases e
 obtain⟨D,⟨es,clock,hb,_⟩,_⟩:=h
 simp[World.cell?,hb] at hc
theorem KH {w:World} (m:World→Prop) (h:∀W,Below w.heap.size w W→iD W w.heap.size 0 (fun _=>false)→m W):m (w.alloc (.map #[] 0)):=
 h _ ((Below.refl _ _).alloc (Nat.le_refl _) _) (iD.made w)
theorem byte_info:(Try.prog.info? 5).map (fun i=>(i.zero,i.size,i.bytes))=some (some (.int .u8 0),1,1):=by kernel_rfl
theorem wC (n:Int) (w:World) (h:n≤9223372036854775807) :
  Calls Try.prog 100 #[.int .i64 n] w fun e w'=>e = .returned (.int .i64 (bV n))∧w=w':=by
 by_cases h0:n≤0
 ·go_enter Try.func100,Try.ntmps100
  go_wp2
  go_ret
  exact⟨by simp[bV,h0],rfl⟩
 ·go_enter Try.func100,Try.ntmps100
  go_wp2
  go_ret
  exact⟨aQ (by unfold bV;rw[if_neg (by omega)]),rfl⟩
theorem oD (n:Int) (w:World) (h:n≤9223372036854775807) :
  Calls Try.prog 29 #[.int .i64 n] w fun e w'=>e = .returned (.int .i64 (bV n))∧w=w':=by
 by_cases h0:n≤0
 ·go_enter Try.func29,Try.ntmps29
  go_wp2
  go_ret
  exact⟨by simp[bV,h0],rfl⟩
 ·go_enter Try.func29,Try.ntmps29
  go_wp2
  all_goals
   go_ret
   exact⟨aQ (by unfold bV;rw[if_neg (by omega)];omega),rfl⟩
theorem byte_size:(Try.prog.info? 5).map (·.size)=some 1:=by kernel_rfl
def sI (p:Page):List Value:=(dF p).toList
def yS (q:Int × Page):Array Value:=#[.int .i64 q.1,.int .u8 q.2[0].toNat,.int .u8 q.2[1].toNat,.int .u8 q.2[2].toNat,.int .u8 q.2[3].toNat,.int .u8 q.2[4].toNat,.int .u8 q.2[5].toNat,.int .u8 q.2[6].toNat,.int .u8 q.2[7].toNat]
def rX (q:Int × Page):List Value:=(yS q).toList
theorem ic (p:Page):(sI p).length=8:=rfl
theorem qo (q:Int × Page):(rX q).length=9:=rfl
theorem page_info:(Try.prog.info? 50).map (fun i=>(i.zero,i.size,i.bytes))=some (some (.agg #[.int .u8 0,.int .u8 0,.int .u8 0,.int .u8 0,.int .u8 0,.int .u8 0,.int .u8 0,.int .u8 0]),8,8):=by kernel_rfl
theorem put_info:(Try.prog.info? 93).map (fun i=>(i.zero,i.size,i.bytes))=some (some (.agg #[.int .i64 0,.int .u8 0,.int .u8 0,.int .u8 0,.int .u8 0,.int .u8 0,.int .u8 0,.int .u8 0,.int .u8 0]),9,16):=by kernel_rfl
theorem CL (l:List Page):(l.flatMap sI).length=l.length*8:=Pw.flat_len _ _ ic l
theorem Ez (l:List (Int × Page)):(l.flatMap rX).length=l.length*9:=Pw.flat_len _ _ qo l
theorem Du (l:List Page):∀u∈l.flatMap sI,u.oneCell' = true:=by
 intro u hu
 obtain⟨p,_,hp⟩:=List.mem_flatMap.1 hu
 simp only[sI,dF,List.mem_cons,List.not_mem_nil,or_false] at hp
 rcases hp with rfl|rfl|rfl|rfl|rfl|rfl|rfl|rfl<;>rfl
theorem Fv (l:List (Int × Page)):∀u∈l.flatMap rX,u.oneCell' = true:=by
 intro u hu
 obtain⟨p,_,hp⟩:=List.mem_flatMap.1 hu
 simp only[rX,yS,List.mem_cons,List.not_mem_nil,or_false] at hp
 rcases hp with rfl|rfl|rfl|rfl|rfl|rfl|rfl|rfl|rfl<;>rfl
theorem ze (l:List Page) (a:Option Addr) (c:Nat) (w:World) (hle:l.length≤c) (hnil:a=none→c=0) (hrd:bW w a (l.flatMap sI)) (hb:l.length*8≤140737488355328) :
  Calls Try.prog 92 #[.slice a l.length c] w fun e w' => ∃v,e = .returned v∧Own w' w.heap.size 50 8 v l.length (l.flatMap sI)∧Below w.heap.size w w':=by
 cases a with
 | none=>
  have h0:=hnil rfl
  have hl:l=[]:=List.eq_nil_of_length_eq_zero (by omega)
  subst hl
  subst h0
  have hq:=fun W=>Lib.run_eql_slice_nil (P:=Try.prog) W 30 _ none 0 0 0 0 Try.underlying30
  go_enter Try.func92,Try.ntmps92
  go_wp2
  go_ret
  exact⟨_,rfl,by simpa using Own.nil _ _ _ _,Below.refl _ _⟩
 | some ad=>
  have hq:=fun W=>Lib.run_eql_slice_nil (P:=Try.prog) W 30 _ (some ad) l.length c 0 0 Try.underlying30
  go_enter Try.func92,Try.ntmps92
  go_wp2_with (at_builtin;go_must (refine dJ rfl _ _ 30 rfl w.heap.size 50 (.agg #[.int .u8 0,.int .u8 0,.int .u8 0,.int .u8 0,.int .u8 0,.int .u8 0,.int .u8 0,.int .u8 0]) 8 8 Try.underlying30 page_info rfl (by decide) _ 0 [] rfl ?own (some ad) l.length c (l.flatMap sI) rfl (fun h=>(by cases h)) hle (CL l) ?rd (Du l) (by unfold maxLen;omega) (by simpa using hb) ?bb ?k))
  case own=>exact⟨rfl,.inr ⟨w.heap.size,0,0,#[],rfl,Nat.le_refl _,aC.new _ _ _,Nat.le_refl _,Nat.zero_le _,by simp,fun j u h=>by simp at h⟩⟩
  case rd=>exact hrd.below ((Below.refl _ _).alloc (Nat.le_refl _) _)
  case bb=>exact dI _ _
  intro v w1 hown hgr
  go_wp2
  go_ret
  exact⟨v,rfl,by simpa using hown,((Below.refl _ _).alloc (Nat.le_refl _) _).grown hgr (dI _ _) (fun k hk=>by cases hk;exact Nat.le_refl _)⟩
theorem BG (l:List (Int × Page)) (a:Option Addr) (c:Nat) (w:World) (hle:l.length≤c) (hnil:a=none→c=0) (hrd:bW w a (l.flatMap rX)) (hb:l.length*16≤140737488355328) :
  Calls Try.prog 93 #[.slice a l.length c] w fun e w' => ∃v,e = .returned v∧Own w' w.heap.size 93 9 v l.length (l.flatMap rX)∧Below w.heap.size w w':=by
 cases a with
 | none=>
  have h0:=hnil rfl
  have hl:l=[]:=List.eq_nil_of_length_eq_zero (by omega)
  subst hl
  subst h0
  have hq:=fun W=>Lib.run_eql_slice_nil (P:=Try.prog) W 31 _ none 0 0 0 0 Try.underlying31
  go_enter Try.func93,Try.ntmps93
  go_wp2
  go_ret
  exact⟨_,rfl,by simpa using Own.nil _ _ _ _,Below.refl _ _⟩
 | some ad=>
  have hq:=fun W=>Lib.run_eql_slice_nil (P:=Try.prog) W 31 _ (some ad) l.length c 0 0 Try.underlying31
  go_enter Try.func93,Try.ntmps93
  go_wp2_with (at_builtin;go_must (refine dJ rfl _ _ 31 rfl w.heap.size 93 (.agg #[.int .i64 0,.int .u8 0,.int .u8 0,.int .u8 0,.int .u8 0,.int .u8 0,.int .u8 0,.int .u8 0,.int .u8 0]) 9 16 Try.underlying31 put_info rfl (by decide) _ 0 [] rfl ?own (some ad) l.length c (l.flatMap rX) rfl (fun h=>(by cases h)) hle (Ez l) ?rd (Fv l) (by unfold maxLen;omega) (by simpa using hb) ?bb ?k))
  case own=>exact⟨rfl,.inr ⟨w.heap.size,0,0,#[],rfl,Nat.le_refl _,aC.new _ _ _,Nat.le_refl _,Nat.zero_le _,by simp,fun j u h=>by simp at h⟩⟩
  case rd=>exact hrd.below ((Below.refl _ _).alloc (Nat.le_refl _) _)
  case bb=>exact dI _ _
  intro v w1 hown hgr
  go_wp2
  go_ret
  exact⟨v,rfl,by simpa using hown,((Below.refl _ _).alloc (Nat.le_refl _) _).grown hgr (dI _ _) (fun k hk=>by cases hk;exact Nat.le_refl _)⟩
structure FX (w:World) (ab:Option Addr) (cb:Nat) (aq:Option Addr) (cq:Nat) (d:qm):Prop where
 lb:d.blocks.length≤cb
 lq:d.queue.length≤cq
 mb:cb≤maxLen
 mq:cq≤maxLen
 nb:ab=none→cb=0
 nq:aq=none→cq=0
 rb:bW w ab (d.blocks.flatMap sI)
 rq:bW w aq (d.queue.flatMap rX)
theorem FX.below {w w' : World} {ab:Option Addr} {cb:Nat} {aq:Option Addr} {cq:Nat} {d:qm} (h:FX w ab cb aq cq d) (hb:Below w.heap.size w w'):FX w' ab cb aq cq d:=
 { h with rb:=h.rb.below hb,rq:=h.rq.below hb }
structure fJ (w:World) (B:Nat) (vb vq:Value) (d:qm):Prop where
 b:Own w B 50 8 vb d.blocks.length (d.blocks.flatMap sI)
 q:Own w B 93 9 vq d.queue.length (d.queue.flatMap rX)
theorem fJ.below {w w' : World} {B:Nat} {vb vq:Value} {d:qm} (h:fJ w B vb vq d) (hb:Below w.heap.size w w'):fJ w' B vb vq d:=⟨h.b.below hb,h.q.below hb⟩
theorem fJ.mono {w:World} {B B' : Nat} {vb vq:Value} {d:qm} (h:fJ w B vb vq d) (hB:B'≤B):fJ w B' vb vq d:=⟨h.b.mono hB,h.q.mono hB⟩
theorem fJ.rd {w:World} {B:Nat} {vb vq:Value} {d:qm} (h:fJ w B vb vq d):∃ab cb aq cq,vb = .slice ab d.blocks.length cb∧vq = .slice aq d.queue.length cq∧FX w ab cb aq cq d:=by
 obtain⟨ab,cb,rfl,h1,h2,h3,h4⟩:=h.b.rd
 obtain⟨aq,cq,rfl,g1,g2,g3,g4⟩:=h.q.rd
 exact⟨ab,cb,aq,cq,rfl,rfl,h1,g1,h2,g2,h3,g3,h4,g4⟩
theorem fJ.nil (w:World) (B:Nat):fJ w B (.slice none 0 0) (.slice none 0 0) ⟨[],[]⟩:=⟨Own.nil _ _ _ _,Own.nil _ _ _ _⟩
theorem Bf {w:World} {a:Option Addr} {l:List (Int × Page)} (h:bW w a (l.flatMap rX)) (k:Nat) (hk:k<l.length):∃b off,a=some ⟨b,off,none⟩∧∀j,j<9→w.cell? ⟨b,off+k*9+j,none⟩=(yS l[k])[j]?:=by
 obtain⟨b,off,ha,hc⟩:=h.elem qo (by decide) k hk
 refine⟨b,off,ha,fun j hj => ?_⟩
 have e:(rX l[k])[j]?=some ((rX l[k])[j]'(by rw[qo];exact hj)):=List.getElem?_eq_getElem _
 rw[hc j _ e,←e]
 simp[rX]
theorem Ht {w:World} {a:Option Addr} {l:List Page} (h:bW w a (l.flatMap sI)) (k:Nat) (hk:k<l.length):∃b off,a=some ⟨b,off,none⟩∧∀j,j<8→w.cell? ⟨b,off+k*8+j,none⟩=(dF l[k])[j]?:=by
 obtain⟨b,off,ha,hc⟩:=h.elem ic (by decide) k hk
 refine⟨b,off,ha,fun j hj => ?_⟩
 have e:(sI l[k])[j]?=some ((sI l[k])[j]'(by rw[ic];exact hj)):=List.getElem?_eq_getElem _
 rw[hc j _ e,←e]
 simp[sI]
theorem vk (d:qm) (ab:Option Addr) (cb:Nat) (aq:Option Addr) (cq:Nat) (w:World) (h:FX w ab cb aq cq d) :
  Calls Try.prog 79 #[.agg #[.slice ab d.blocks.length cb,.slice aq d.queue.length cq]] w fun e w'=>e = .returned (.int .i64 (bn d))∧Below w.heap.size w w':=by
 have lb:=Nat.le_trans h.lb h.mb
 have lq:=Nat.le_trans h.lq h.mq
 unfold maxLen at lb lq
 have hrq:=h.rq
 unfold bn
 obtain⟨B,Q⟩:=d
 simp only at *
 go_enter Try.func79,Try.ntmps79
 have hb0:Below w.heap.size w (w.alloc (.cells #[.slice ab B.length cb,.slice aq Q.length cq] 33)):=(Below.refl _ _).alloc (Nat.le_refl _) _
 by_cases h4:80<B.length∨400<Q.length
 ·rw[if_pos h4]
  have h4' : (80:Int)<(B.length:Int)∨(400:Int)<(Q.length:Int):=by omega
  clear h4
  rcases h4' with h4|h4
  all_goals
   go_wp2
   all_goals
    go_ret
    exact⟨rfl,hb0⟩
 ·rw[if_neg h4]
  have h41:¬(80:Int)<(B.length:Int):=by omega
  have h42:¬(400:Int)<(Q.length:Int):=by omega
  clear h4
  go_wp2
  go_loopw [18] (fun i wr => ∃k:Nat,k≤Q.length∧i = .int .i64 k∧Below w.heap.size w wr∧aC wr w.heap.size #[.slice ab B.length cb,.slice aq Q.length cq] 33∧∀i (h:i<Q.length),i<k→mF B.length Q[i]=false) (fun i _=>Q.length-(intOf i).toNat)
  case atStart=>exact⟨0,Nat.zero_le _,rfl,hb0,aC.new _ _ _,fun i _ h=>absurd h (Nat.not_lt_zero _)⟩
  case round=>
   obtain⟨k,hk,rfl,hbel,hblk,hp⟩:=hrel
   by_cases hlt:k<Q.length
   ·obtain⟨b,off,rfl,hc⟩:=Bf (hrq.below hbel) k hlt
    have c0:=hc 0 (by decide);have c1:=hc 1 (by decide);have c2:=hc 2 (by decide);have c3:=hc 3 (by decide);have c4:=hc 4 (by decide)
    have c5:=hc 5 (by decide);have c6:=hc 6 (by decide);have c7:=hc 7 (by decide);have c8:=hc 8 (by decide)
    simp only[yS,List.getElem?_toArray,List.getElem?_cons_zero,List.getElem?_cons_succ,Nat.add_zero] at c0 c1 c2 c3 c4 c5 c6 c7 c8
    clear hc
    have hcd:=fun o=>(hblk.alloc o).cell
    by_cases hbad:Q[k].1<0∨(B.length:Int)≤Q[k].1
    ·have hbk:mF B.length Q[k]=true:=by simpa[mF] using hbad
     have ha:Q.any (mF B.length)=true:=List.any_eq_true.2 ⟨_,List.getElem_mem hlt,hbk⟩
     rcases hbad with hbad|hbad
     all_goals
      go_wp2
      all_goals
       go_ret
       exact⟨by simp[ha],hbel.alloc hbel.size _⟩
    ·have n1:¬Q[k].1<0:=by omega
     have n2:¬(B.length:Int)≤Q[k].1:=by omega
     have hbk:mF B.length Q[k]=false:=by simp[mF];omega
     clear hbad
     go_wp2
     go_roundw
     case rel=>exact⟨k+1,by omega,by go_num,hbel.alloc hbel.size _,hblk.alloc _,jv hp hlt hbk⟩
     case measure=>simp[intOf];omega
   ·have ha:Q.any (mF B.length)=false:=by
     rw[List.any_eq_false]
     intro x hx
     obtain⟨i,hi,rfl⟩:=List.mem_iff_getElem.1 hx
     simp[hp i hi (by omega)]
    go_wp2
    all_goals
     go_ret
     exact⟨by simp[ha],hbel⟩
theorem nk (d:qm) (ab:Option Addr) (cb:Nat) (aq:Option Addr) (cq:Nat) (w:World) (h:FX w ab cb aq cq d) :
  Calls Try.prog 87 #[.agg #[.slice ab d.blocks.length cb,.slice aq d.queue.length cq]] w fun e w'=>e = .returned (.int .i64 (bn d))∧Below w.heap.size w w':=by
 have lb:=Nat.le_trans h.lb h.mb
 have lq:=Nat.le_trans h.lq h.mq
 unfold maxLen at lb lq
 have hrq:=h.rq
 unfold bn
 obtain⟨B,Q⟩:=d
 simp only at *
 go_enter Try.func87,Try.ntmps87
 have hb0:Below w.heap.size w (w.alloc (.cells #[.slice ab B.length cb,.slice aq Q.length cq] 33)):=(Below.refl _ _).alloc (Nat.le_refl _) _
 by_cases h4:80<B.length∨400<Q.length
 ·rw[if_pos h4]
  have h4' : (80:Int)<(B.length:Int)∨(400:Int)<(Q.length:Int):=by omega
  clear h4
  rcases h4' with h4|h4
  all_goals
   go_wp2
   all_goals
    go_ret
    exact⟨rfl,hb0⟩
 ·rw[if_neg h4]
  have h41:¬(80:Int)<(B.length:Int):=by omega
  have h42:¬(400:Int)<(Q.length:Int):=by omega
  clear h4
  go_wp2
  go_loopw [18] (fun i wr => ∃k:Nat,k≤Q.length∧i = .int .i64 k∧Below w.heap.size w wr∧aC wr w.heap.size #[.slice ab B.length cb,.slice aq Q.length cq] 33∧∀i (h:i<Q.length),i<k→mF B.length Q[i]=false) (fun i _=>Q.length-(intOf i).toNat)
  case atStart=>exact⟨0,Nat.zero_le _,rfl,hb0,aC.new _ _ _,fun i _ h=>absurd h (Nat.not_lt_zero _)⟩
  case round=>
   obtain⟨k,hk,rfl,hbel,hblk,hp⟩:=hrel
   by_cases hlt:k<Q.length
   ·obtain⟨b,off,rfl,hc⟩:=Bf (hrq.below hbel) k hlt
    have c0:=hc 0 (by decide);have c1:=hc 1 (by decide);have c2:=hc 2 (by decide);have c3:=hc 3 (by decide);have c4:=hc 4 (by decide)
    have c5:=hc 5 (by decide);have c6:=hc 6 (by decide);have c7:=hc 7 (by decide);have c8:=hc 8 (by decide)
    simp only[yS,List.getElem?_toArray,List.getElem?_cons_zero,List.getElem?_cons_succ,Nat.add_zero] at c0 c1 c2 c3 c4 c5 c6 c7 c8
    clear hc
    have hcd:=fun o=>(hblk.alloc o).cell
    by_cases hbad:Q[k].1<0∨(B.length:Int)≤Q[k].1
    ·have hbk:mF B.length Q[k]=true:=by simpa[mF] using hbad
     have ha:Q.any (mF B.length)=true:=List.any_eq_true.2 ⟨_,List.getElem_mem hlt,hbk⟩
     rcases hbad with hbad|hbad
     all_goals
      go_wp2
      all_goals
       go_ret
       exact⟨by simp[ha],hbel.alloc hbel.size _⟩
    ·have n1:¬Q[k].1<0:=by omega
     have n2:¬(B.length:Int)≤Q[k].1:=by omega
     have hbk:mF B.length Q[k]=false:=by simp[mF];omega
     clear hbad
     go_wp2
     go_roundw
     case rel=>exact⟨k+1,by omega,by go_num,hbel.alloc hbel.size _,hblk.alloc _,jv hp hlt hbk⟩
     case measure=>simp[intOf];omega
   ·have ha:Q.any (mF B.length)=false:=by
     rw[List.any_eq_false]
     intro x hx
     obtain⟨i,hi,rfl⟩:=List.mem_iff_getElem.1 hx
     simp[hp i hi (by omega)]
    go_wp2
    all_goals
     go_ret
     exact⟨by simp[ha],hbel⟩
theorem fJ.keep {w w' : World} {B:Nat} {vb vq:Value} {d:qm} (h:fJ w B vb vq d) {g:Nat} {cs:Array Value} {T:TypeId} (hk:aC w g cs T) (h1:T≠50) (h2:T≠93) (hgr:w.grownBy w' (some g)):fJ w' B vb vq d:=
 ⟨ak h.b hk h1 hgr,ak h.q hk h2 hgr⟩
def yu (B:Nat) (d:qm):ig:=⟨fun v w => ∃vb vq,v = .agg #[vb,vq]∧fJ w B vb vq d,fun _ _ _ hb ⟨vb,vq,h1,h2⟩=>⟨vb,vq,h1,h2.below hb⟩⟩
theorem psize:(Try.prog.info? 50).map (·.size)=some 8:=by kernel_rfl
theorem zz_fit:(#[.int .u8 0,.int .u8 0,.int .u8 0,.int .u8 0,.int .u8 0,.int .u8 0,.int .u8 0,.int .u8 0]:Array Value).size=(#[.int .u8 0,.int .u8 0,.int .u8 0,.int .u8 0,.int .u8 0,.int .u8 0,.int .u8 0,.int .u8 0]:Array Value).size:=rfl
theorem zz_one:(#[.int .u8 0,.int .u8 0,.int .u8 0,.int .u8 0,.int .u8 0,.int .u8 0,.int .u8 0,.int .u8 0]:Array Value).all (·.oneCell')=true:=by simp[Value.oneCell']
theorem zz_info:(Try.prog.info? 50).map (·.size)=some (#[.int .u8 0,.int .u8 0,.int .u8 0,.int .u8 0,.int .u8 0,.int .u8 0,.int .u8 0,.int .u8 0]:Array Value).size:=psize
theorem Jh (p:Page):(dF p).size=(#[.int .u8 0,.int .u8 0,.int .u8 0,.int .u8 0,.int .u8 0,.int .u8 0,.int .u8 0,.int .u8 0]:Array Value).size:=rfl
theorem IE (p q:Page):(dF p).size=(dF q).size:=rfl
theorem Cg (p:Page):(Try.prog.info? 50).map (·.size)=some (dF p).size:=psize
theorem disk_size:(Try.prog.info? 33).map (·.size)=some 2:=by kernel_rfl
theorem zQ (d:qm) (ab:Option Addr) (cb:Nat) (aq:Option Addr) (cq:Nat) (w:World) (h:FX w ab cb aq cq d) (h80:d.blocks.length*8≤140737488355328) (h400:d.queue.length*16≤140737488355328) :
  Calls Try.prog 56 #[.agg #[.slice ab d.blocks.length cb,.slice aq d.queue.length cq]] w fun e w' => ∃vb vq,e = .returned (.agg #[vb,vq])∧fJ w' w.heap.size vb vq d∧Below w.heap.size w w':=by
 go_enter Try.func56,Try.ntmps56
 go_upto_region 1 with (fail)
 have hbel0:Below w.heap.size w ((w.alloc (.cells #[.slice ab d.blocks.length cb,.slice aq d.queue.length cq] 33)).alloc (.cells #[.slice none 0 0,.slice none 0 0] 33)):=((Below.refl _ _).alloc (Nat.le_refl _) _).alloc (dI _ _) _
 have hblk:aC ((w.alloc (.cells #[.slice ab d.blocks.length cb,.slice aq d.queue.length cq] 33)).alloc (.cells #[.slice none 0 0,.slice none 0 0] 33)) w.heap.size #[.slice ab d.blocks.length cb,.slice aq d.queue.length cq] 33:=(aC.new _ _ _).alloc _
 have hout:aC ((w.alloc (.cells #[.slice ab d.blocks.length cb,.slice aq d.queue.length cq] 33)).alloc (.cells #[.slice none 0 0,.slice none 0 0] 33)) (w.heap.size+1) #[.slice none 0 0,.slice none 0 0] 33:=by simpa using aC.new (w.alloc (.cells #[.slice ab d.blocks.length cb,.slice aq d.queue.length cq] 33)) _ _
 have h0:=h.below hbel0
 refine aF 7 [_,_,.r 2 ((kU w.heap.size 50 8 d.blocks.length (d.blocks.flatMap sI))),_,_,.r 5 ((kU w.heap.size 93 9 d.queue.length (d.queue.flatMap rX))),.r 6 ((yu w.heap.size d))] (Gf w.heap.size 0 rfl rfl (Gl hblk (V:=.slice ab d.blocks.length cb) (by simp[Try.underlying30]) rfl rfl rfl rfl (all_cons ?_ (Gf w.heap.size 1 rfl rfl (Gl hblk (V:=.slice aq d.queue.length cq) (by simp[Try.underlying31]) rfl rfl rfl rfl (all_cons ?_ (all_cons ?_ (all_nil)))))))) (fun _=>rfl) rfl ?_
 ·intro ρ y W hw hn hb hd;have E4:=hw 4 1 rfl;have h1:y 1=_:=hd 1 rfl
  have EF:∀f,ρ (.func f) = .func (.func f) #[] #[]:=fun f=>hn (.func f) trivial
  refine aP _ _ (ah rfl) (aN rfl (EF _) Try.func92 (by kernel_rfl) (by kernel_rfl) (by simp only[List.map_toArray,List.map_cons,List.map_nil,E4,h1,EF];rfl)) ?_
  refine (ze d.blocks ab cb W h0.lb h0.nb (h0.below hb).rb h80).mono ?_
  rintro e w1 ⟨v,rfl,ho,hb1⟩
  exact⟨v,rfl,hb1,ho.mono (Nat.le_trans hbel0.size hb.size)⟩
 ·intro ρ y W hw hn hb hd;have E7:=hw 7 4 rfl;have h4:y 4=_:=hd 4 rfl
  have EF:∀f,ρ (.func f) = .func (.func f) #[] #[]:=fun f=>hn (.func f) trivial
  refine aP _ _ (ah rfl) (aN rfl (EF _) Try.func93 (by kernel_rfl) (by kernel_rfl) (by simp only[List.map_toArray,List.map_cons,List.map_nil,E7,h4,EF];rfl)) ?_
  refine (BG d.queue aq cq W h0.lq h0.nq (h0.below hb).rq h400).mono ?_
  rintro e w1 ⟨v,rfl,ho,hb1⟩
  exact⟨v,rfl,hb1,ho.mono (Nat.le_trans hbel0.size hb.size)⟩
 ·intro ρ y W hw hn hb hd;have E5:=hw 5 2 rfl;have h2:=hd 2 rfl;have E8:=hw 8 5 rfl;have h5:=hd 5 rfl
  obtain⟨x2,c2,e2,_⟩:=Own.rd h2
  obtain⟨x5,c5,e5,_⟩:=Own.rd h5
  refine aj (.agg #[y 2,y 5]) (ah rfl) (by simp[execOp,go_sem,E5,E8,e2,e5]) ?_
  exact⟨_,_,rfl,h2,h5⟩
 intro y WA hbWA hRWA
 have hy2:((kU w.heap.size 50 8 d.blocks.length (d.blocks.flatMap sI))).r (y 2) WA:=hRWA 2 (by decide)
 have hy5:((kU w.heap.size 93 9 d.queue.length (d.queue.flatMap rX))).r (y 5) WA:=hRWA 5 (by decide)
 have hy6:((yu w.heap.size d)).r (y 6) WA:=hRWA 6 (by decide)
 clear hRWA
 obtain⟨vb,vq,e6,ho⟩:=hy6
 rw[e6]
 clear hy2 hy5 e6
 have hbelA:=ag hbel0 hbWA
 obtain⟨xb,cb',xq,cq',rfl,rfl,_⟩:=ho.rd
 refine aB rfl _ (.tmp 2) (.tmp 9) rfl (w.heap.size+1) _ rfl rfl _ _ (hout.ext hbWA) rfl disk_size (by simp[Value.oneCell']) ?_
 intro w2 hq hgr
 have hbel2:Below w.heap.size w w2:=hbelA.grown hgr hbelA.size (fun k hk=>by cases hk;omega)
 have hc:=hq.cell
 go_wp2
 simp[bodyPost,results,go_sem,Try.results56,hc]
 exact⟨_,_,⟨rfl,rfl⟩,ho.keep (hout.ext hbWA) (by decide) (by decide) hgr,hbel2⟩
theorem FK (a b c d:Value):(#[a,b]:Array Value).size=(#[c,d]:Array Value).size:=rfl
theorem DV (a b:Value):(Try.prog.info? 33).map (·.size)=some (#[a,b]:Array Value).size:=disk_size
theorem yA (n:Int) (w:World) :
  Calls Try.prog 69 #[.int .i64 n] w fun e w' => ∃vb vq,e = .returned (.tuple #[.agg #[vb,vq],.int .i64 (Ce n)])∧fJ w' w.heap.size vb vq (ny n)∧Below w.heap.size w w':=by
 have hres0:=aC.new w #[.slice none 0 0,.slice none 0 0] 33
 have hbel0:Below w.heap.size w (w.alloc (.cells #[.slice none 0 0,.slice none 0 0] 33)):=(Below.refl _ _).alloc (Nat.le_refl _) _
 unfold ny Ce
 by_cases h:0≤n∧n≤80
 ·obtain⟨m,rfl⟩:=Int.eq_ofNat_of_zero_le h.1
  have h1:(m:Int)≤80:=h.2
  rw[if_pos h,if_pos h]
  go_enter Try.func69,Try.ntmps69
  go_wp2_with (refine nW _ rfl (.tmp 11) (.tmp 11) 30 rfl sI 50 _ 8 8 zPg ic (by decide) Try.underlying30 page_info rfl .i64 .i64 m m m rfl rfl rfl rfl (by omega) (by unfold maxLen;omega) ?_)
  intro w2 ho hgr
  have hres2:=hres0.grown hgr (by intro he;cases he)
  have hbel2:=hbel0.grown hgr hbel0.size (fun k hk=>by cases hk)
  go_wp2_with (refine aB rfl _ (.tmp 2) (.tmp 13) rfl w.heap.size #[.slice (some ⟨w.heap.size+1,0,none⟩) m m,.slice none 0 0] rfl rfl _ _ hres2 (FK _ _ _ _) (DV _ _) (qW _ _ _ _ _ _) ?_)
  intro w3 hr3 hgr3
  have ho3:=ak ho hres2 (by decide) hgr3
  have hbel3:=hbel2.grown hgr3 hbel2.size (fun k hk=>by cases hk;exact Nat.le_refl _)
  have hcr:=hr3.cell
  go_wp2
  simp[bodyPost,results,go_sem,Try.results69,hcr]
  exact⟨_,_,⟨rfl,rfl⟩,⟨by simpa using ho3.mono (Nat.le_succ _),Own.nil _ _ _ _⟩,hbel3⟩
 ·rw[if_neg h,if_neg h]
  have h' : n<0∨80<n:=by omega
  clear h
  rcases h' with h|h
  all_goals
   go_enter Try.func69,Try.ntmps69
   go_wp2_with (refine aB rfl _ (.tmp 2) (.tmp 10) rfl w.heap.size #[.slice none 0 0,.slice none 0 0] rfl rfl _ _ hres0 rfl disk_size (qW _ _ _ _ _ _) ?_)
   all_goals
    intro w2 hr2 hgr
    have hbel2:=hbel0.grown hgr hbel0.size (fun k hk=>by cases hk;exact Nat.le_refl _)
    have hcr:=hr2.cell
    go_wp2
    simp[bodyPost,results,go_sem,Try.results69,hcr]
    exact⟨_,_,⟨rfl,rfl⟩,fJ.nil _ _,hbel2⟩
theorem KF (p q:Page) (W:World):(Op.equalIn 10000 50 (.agg #[.int .u8 p[0].toNat,.int .u8 p[1].toNat,.int .u8 p[2].toNat,.int .u8 p[3].toNat,.int .u8 p[4].toNat,.int .u8 p[5].toNat,.int .u8 p[6].toNat,.int .u8 p[7].toNat]) (.agg #[.int .u8 q[0].toNat,.int .u8 q[1].toNat,.int .u8 q[2].toNat,.int .u8 q[3].toNat,.int .u8 q[4].toNat,.int .u8 q[5].toNat,.int .u8 q[6].toNat,.int .u8 q[7].toNat])).run Try.prog W = .ok (p==q) W:=
 si W 9998 _ _ Try.underlying50 Try.underlying5 byte_size p q
theorem BR (p:Page):dF p=#[.int .u8 p[0].toNat,.int .u8 p[1].toNat,.int .u8 p[2].toNat,.int .u8 p[3].toNat,.int .u8 p[4].toNat,.int .u8 p[5].toNat,.int .u8 p[6].toNat,.int .u8 p[7].toNat]:=rfl
theorem lit0:dF zPg=#[.int .u8 0,.int .u8 0,.int .u8 0,.int .u8 0,.int .u8 0,.int .u8 0,.int .u8 0,.int .u8 0]:=rfl
theorem KI (p q:Page) (W:World):(Op.equalIn 9999 50 (.agg #[.int .u8 p[0].toNat,.int .u8 p[1].toNat,.int .u8 p[2].toNat,.int .u8 p[3].toNat,.int .u8 p[4].toNat,.int .u8 p[5].toNat,.int .u8 p[6].toNat,.int .u8 p[7].toNat]) (.agg #[.int .u8 q[0].toNat,.int .u8 q[1].toNat,.int .u8 q[2].toNat,.int .u8 q[3].toNat,.int .u8 q[4].toNat,.int .u8 q[5].toNat,.int .u8 q[6].toNat,.int .u8 q[7].toNat])).run Try.prog W = .ok (p==q) W:=
 si W 9997 _ _ Try.underlying50 Try.underlying5 byte_size p q
theorem put_size:(Try.prog.info? 93).map (·.size)=some 9:=by kernel_rfl
theorem Ca (q:Int × Page):(yS q).all (·.oneCell')=true:=by simp[yS,Value.oneCell']
def pK (f:Fr):Array Value:=#[.int .u8 f.p[0].toNat,.int .u8 f.p[1].toNat,.int .u8 f.p[2].toNat,.int .u8 f.p[3].toNat,.int .u8 f.p[4].toNat,.int .u8 f.p[5].toNat,.int .u8 f.p[6].toNat,.int .u8 f.p[7].toNat,.int .i64 f.r,.bool f.u,.bool f.d,.int .i64 f.f,.int .i64 f.i]
def mD (f:Fr):List Value:=(pK f).toList
theorem eu (f:Fr):(mD f).length=13:=rfl
structure JO (w:World) (b off:Nat) (f:Fr):Prop where
 c0:w.cell? ⟨b,off,none⟩=some (.int .u8 f.p[0].toNat)
 c1:w.cell? ⟨b,off+1,none⟩=some (.int .u8 f.p[1].toNat)
 c2:w.cell? ⟨b,off+2,none⟩=some (.int .u8 f.p[2].toNat)
 c3:w.cell? ⟨b,off+3,none⟩=some (.int .u8 f.p[3].toNat)
 c4:w.cell? ⟨b,off+4,none⟩=some (.int .u8 f.p[4].toNat)
 c5:w.cell? ⟨b,off+5,none⟩=some (.int .u8 f.p[5].toNat)
 c6:w.cell? ⟨b,off+6,none⟩=some (.int .u8 f.p[6].toNat)
 c7:w.cell? ⟨b,off+7,none⟩=some (.int .u8 f.p[7].toNat)
 c8:w.cell? ⟨b,off+8,none⟩=some (.int .i64 f.r)
 c9:w.cell? ⟨b,off+9,none⟩=some (.bool f.u)
 ca:w.cell? ⟨b,off+10,none⟩=some (.bool f.d)
 cb:w.cell? ⟨b,off+11,none⟩=some (.int .i64 f.f)
 cc:w.cell? ⟨b,off+12,none⟩=some (.int .i64 f.i)
theorem IV {w:World} {a:Option Addr} {l:List Fr} (h:bW w a (l.flatMap mD)) (k:Nat) (hk:k<l.length):∃b off,a=some ⟨b,off,none⟩∧JO w b (off+k*13) l[k]:=by
 obtain⟨b,off,ha,hc⟩:=h.elem eu (by decide) k hk
 exact⟨b,off,ha,hc 0 _ rfl,hc 1 _ rfl,hc 2 _ rfl,hc 3 _ rfl,hc 4 _ rfl,hc 5 _ rfl,hc 6 _ rfl,hc 7 _ rfl,hc 8 _ rfl,hc 9 _ rfl,hc 10 _ rfl,hc 11 _ rfl,hc 12 _ rfl⟩
theorem wR (f:Fr) (b off:Nat) (w:World) (h:JO w b off f):Calls Try.prog 109 #[.pointer (some ⟨b,off,none⟩)] w fun e w'=>e = .returned (.int .i64 (dh f))∧w' = w:=by
 obtain⟨c0,c1,c2,c3,c4,c5,c6,c7,c8,c9,ca,cb,cc⟩:=h
 have hE:∀W,(Op.equalIn 10000 50 (.agg #[.int .u8 f.p[0].toNat,.int .u8 f.p[1].toNat,.int .u8 f.p[2].toNat,.int .u8 f.p[3].toNat,.int .u8 f.p[4].toNat,.int .u8 f.p[5].toNat,.int .u8 f.p[6].toNat,.int .u8 f.p[7].toNat]) (.agg #[.int .u8 0,.int .u8 0,.int .u8 0,.int .u8 0,.int .u8 0,.int .u8 0,.int .u8 0,.int .u8 0])).run Try.prog W = .ok (f.p==zPg) W:=KF f.p zPg
 go_enter Try.func109,Try.ntmps109
 go_wp2
 all_goals go_ret
 all_goals refine⟨?_,rfl⟩
 all_goals clear c0 c1 c2 c3 c4 c5 c6 c7 c8 c9 ca cb cc hE
 all_goals go_light
 all_goals refine congrArg (fun z=>Ending.returned (.int .i64 z)) ?_
 all_goals simp only[dh,uP,vV,rJ,Bool.or_eq_true,Bool.and_eq_true,decide_eq_true_eq,ne_eq,bne_iff_ne]
 all_goals simp_all
 all_goals omega
theorem frame_info:(Try.prog.info? 59).map (fun i=>(i.zero,i.size,i.bytes))=some (some (.agg #[.int .u8 0,.int .u8 0,.int .u8 0,.int .u8 0,.int .u8 0,.int .u8 0,.int .u8 0,.int .u8 0,.int .i64 0,.bool false,.bool false,.int .i64 0,.int .i64 0]),13,40):=by kernel_rfl
theorem frame_size:(Try.prog.info? 59).map (·.size)=some 13:=by kernel_rfl
theorem Ac (l:List Fr):(l.flatMap mD).length=l.length*13:=Pw.flat_len mD 13 eu l
theorem mi (f:Fr):(pK f).all (·.oneCell')=true:=by simp[pK,Value.oneCell']
theorem Bh (l:List Fr):∀u∈l.flatMap mD,u.oneCell' = true:=by
 intro u hu
 obtain⟨p,_,hp⟩:=List.mem_flatMap.1 hu
 simp only[mD,pK,List.mem_cons,List.not_mem_nil,or_false] at hp
 rcases hp with rfl|rfl|rfl|rfl|rfl|rfl|rfl|rfl|rfl|rfl|rfl|rfl|rfl<;>rfl
theorem wU (l:List Fr) (a:Option Addr) (c:Nat) (w:World) (hle:l.length≤c) (hnil:a=none→c=0) (hrd:bW w a (l.flatMap mD)) (hb:l.length*40≤140737488355328) :
  Calls Try.prog 91 #[.slice a l.length c] w fun e w' => ∃v,e = .returned v∧Own w' w.heap.size 59 13 v l.length (l.flatMap mD)∧Below w.heap.size w w':=by
 cases a with
 | none=>
  have h0:=hnil rfl
  have hl:l=[]:=List.eq_nil_of_length_eq_zero (by omega)
  subst hl
  subst h0
  have hq:=fun W=>Lib.run_eql_slice_nil (P:=Try.prog) W 25 _ none 0 0 0 0 Try.underlying25
  go_enter Try.func91,Try.ntmps91
  go_wp2
  go_ret
  exact⟨_,rfl,by simpa using Own.nil _ _ _ _,Below.refl _ _⟩
 | some ad=>
  have hq:=fun W=>Lib.run_eql_slice_nil (P:=Try.prog) W 25 _ (some ad) l.length c 0 0 Try.underlying25
  go_enter Try.func91,Try.ntmps91
  go_wp2_with (at_builtin;go_must (refine dJ rfl _ _ 25 rfl w.heap.size 59 (.agg #[.int .u8 0,.int .u8 0,.int .u8 0,.int .u8 0,.int .u8 0,.int .u8 0,.int .u8 0,.int .u8 0,.int .i64 0,.bool false,.bool false,.int .i64 0,.int .i64 0]) 13 40 Try.underlying25 frame_info rfl (by decide) _ 0 [] rfl ?own (some ad) l.length c (l.flatMap mD) rfl (fun h=>(by cases h)) hle (Ac l) ?rd (Bh l) (by unfold maxLen;omega) (by simpa using hb) ?bb ?k))
  case own=>exact⟨rfl,.inr ⟨w.heap.size,0,0,#[],rfl,Nat.le_refl _,aC.new _ _ _,Nat.le_refl _,Nat.zero_le _,by simp,fun j u h=>by simp at h⟩⟩
  case rd=>exact hrd.below ((Below.refl _ _).alloc (Nat.le_refl _) _)
  case bb=>exact dI _ _
  intro v w1 hown hgr
  go_wp2
  go_ret
  exact⟨v,rfl,by simpa using hown,((Below.refl _ _).alloc (Nat.le_refl _) _).grown hgr (dI _ _) (fun k hk=>by cases hk;exact Nat.le_refl _)⟩
structure JF (w:World) (a:Option Addr) (c:Nat) (m:Mem):Prop where
 le:m.fs.length≤c
 mx:c≤maxLen
 nil:a=none→c=0
 rd:bW w a (m.fs.flatMap mD)
theorem JF.below {w w' : World} {a:Option Addr} {c:Nat} {m:Mem} (h:JF w a c m) (hb:Below w.heap.size w w'):JF w' a c m:={ h with rd:=h.rd.below hb }
theorem Bu (m:Mem) (a:Option Addr) (c:Nat) (w:World) (h:JF w a c m) :
  Calls Try.prog 77 #[.agg #[.slice a m.fs.length c,.int .i64 m.hand]] w fun e w'=>e = .returned (.int .i64 (cZ m))∧Below w.heap.size w w':=by
 have hl:=Nat.le_trans h.le h.mx
 unfold maxLen at hl
 go_enter Try.func77,Try.ntmps77
 go_upto_region 1 with (fail)
 refine eO (fun W=>Code.wp _ _ _ _ W) fun W0 hb0 hx0 hs0 => ?_
 clear hs0
 have hcx:=hx0.cell
 have h0:=h.below hb0
 by_cases h4:40<m.fs.length
 ·have hW:cZ m=4:=by unfold cZ;rw[if_pos h4]
  have h4' : (40:Int)<(m.fs.length:Int):=by omega
  go_wp2
  go_ret
  rw[hW]
  exact⟨rfl,hb0⟩
 ·have h4' : ¬(40:Int)<(m.fs.length:Int):=by omega
  go_wp2
  go_loopw [12] (fun i wr => ∃k:Nat,k≤m.fs.length∧i = .int .i64 k∧W0=wr∧∀i (h:i<m.fs.length),i<k→dh m.fs[i]=0) (fun i _=>m.fs.length-(intOf i).toNat)
  case atStart=>exact⟨0,Nat.zero_le _,rfl,rfl,fun i _ h=>absurd h (Nat.not_lt_zero _)⟩
  case round=>
   obtain⟨k,hk,rfl,rfl,hno⟩:=hrel
   have hno':=Lib.hid hno
   clear hno
   by_cases hlt:k<m.fs.length
   ·obtain⟨b,off,rfl,hc⟩:=IV h0.rd k hlt
    have hkz:(k:Int)<(m.fs.length:Int):=by omega
    by_cases he:dh m.fs[k]=0
    ·have he':=Lib.hid he
     have hf:=wR m.fs[k] b _ _ hc
     rw[he] at hf
     clear he hc
     go_wp2_with fail
     refine hf.mono ?_
     rintro e w2 ⟨rfl,rfl⟩
     go_wp2
     go_roundw
     case rel=>exact⟨k+1,by omega,by go_num,trivial,jv hno'.out hlt he'.out⟩
     case measure=>simp[intOf];omega
    ·have hf:=wR m.fs[k] b _ _ hc
     have hW:cZ m=dh m.fs[k]:=by
      have:=firstEf_at _ k hlt hno'.out he
      unfold cZ;rw[if_neg h4,this,if_pos he]
     have hn:(dh m.fs[k] != 0)=true:=by simpa using he
     clear hc
     have hW':=Lib.hid hW
     clear hW
     go_wp2_with fail
     refine hf.mono ?_
     rintro e w2 ⟨rfl,rfl⟩
     go_wp2
     go_ret
     rw[hW'.out]
     exact⟨rfl,hb0⟩
   ·have h0:firstEf m.fs=0:=firstEf_none _ (fun i hi=>hno'.out i hi (by omega))
    have hW:cZ m=if m.hand<0∨(0<m.hand∧(m.fs.length:Int)≤m.hand) then 3 else 0:=by
     unfold cZ;rw[if_neg h4,h0];rfl
    have hW':=Lib.hid hW
    clear hW h0
    by_cases n1:m.hand<0
    ·go_wp2
     all_goals
      go_ret
      rw[hW'.out,if_pos (.inl n1)]
      exact⟨rfl,hb0⟩
    ·by_cases n2:(0:Int)<m.hand
     ·by_cases n3:(m.fs.length:Int)≤m.hand
      ·go_wp2
       all_goals
        go_ret
        rw[hW'.out,if_pos (.inr ⟨n2,n3⟩)]
        exact⟨rfl,hb0⟩
      ·go_wp2
       all_goals
        go_ret
        rw[hW'.out,if_neg (by omega)]
        exact⟨rfl,hb0⟩
     ·go_wp2
      all_goals
       go_ret
       rw[hW'.out,if_neg (by omega)]
       exact⟨rfl,hb0⟩
theorem mem_size:(Try.prog.info? 27).map (·.size)=some 2:=by kernel_rfl
theorem qw (a:Option Addr) (n c:Nat) (k:Int):(#[Value.slice a n c,.int .i64 k]:Array Value).all (·.oneCell')=true:=by simp[Value.oneCell']
theorem II (a b:Option Addr) (n c m e:Nat) (k l:Int):(#[Value.slice a n c,.int .i64 k]:Array Value).size=(#[Value.slice b m e,.int .i64 l]:Array Value).size:=rfl
theorem EG (v u:Value):(Try.prog.info? 27).map (·.size)=some (#[v,u]:Array Value).size:=mem_size
def Ko (B:Nat) (m:Mem):ig:=⟨fun v w => ∃vb,v = .agg #[vb,.int .i64 m.hand]∧Own w B 59 13 vb m.fs.length (m.fs.flatMap mD),fun _ _ _ hb ⟨vb,h1,h2⟩=>⟨vb,h1,h2.below hb⟩⟩
theorem Gy (m:Mem) (a:Option Addr) (c:Nat) (w:World) (h:JF w a c m) (h40:m.fs.length*40≤140737488355328) :
  Calls Try.prog 54 #[.agg #[.slice a m.fs.length c,.int .i64 m.hand]] w fun e w' => ∃vb,e = .returned (.agg #[vb,.int .i64 m.hand])∧Own w' w.heap.size 59 13 vb m.fs.length (m.fs.flatMap mD)∧Below w.heap.size w w':=by
 go_enter Try.func54,Try.ntmps54
 go_upto_region 1 with (fail)
 refine pz (fun W=>Code.wp _ _ _ _ W) fun w0 hbel0 hblk hout hs0 => ?_
 clear hs0
 have h0:=h.below hbel0
 refine aF 6 [_,_,.r 2 ((kU w.heap.size 59 13 m.fs.length (m.fs.flatMap mD))),_,_,.r 5 ((Ko w.heap.size m))] (Gf w.heap.size 0 rfl rfl (Gl hblk (V:=.slice a m.fs.length c) (by simp[Try.underlying25]) rfl rfl rfl rfl (all_cons ?_ (Gf w.heap.size 1 rfl rfl (Gl hblk (V:=.int .i64 m.hand) (by simp[Try.underlying3]) rfl rfl rfl rfl (all_cons ?_ (all_nil))))))) (fun _=>rfl) rfl ?_
 ·intro ρ y W hw hn hb hd;have E4:=hw 4 1 rfl;have h1:y 1=_:=hd 1 rfl
  have EF:∀f,ρ (.func f) = .func (.func f) #[] #[]:=fun f=>hn (.func f) trivial
  refine aP _ _ (ah rfl) (aN rfl (EF _) Try.func91 (by kernel_rfl) (by kernel_rfl) (by simp only[List.map_toArray,List.map_cons,List.map_nil,E4,h1,EF];rfl)) ?_
  refine (wU m.fs a c W h0.le h0.nil (h0.below hb).rd h40).mono ?_
  rintro e w1 ⟨v,rfl,ho,hb1⟩
  exact⟨v,rfl,hb1,ho.mono (Nat.le_trans hbel0.size hb.size)⟩
 ·intro ρ y W hw hn hb hd;have E5:=hw 5 2 rfl;have h2:=hd 2 rfl;have E7:=hw 7 4 rfl;have h4:y 4=_:=hd 4 rfl
  obtain⟨x2,c2,e2,_⟩:=Own.rd h2
  refine aj (.agg #[y 2,.int .i64 m.hand]) (ah rfl) (by simp[execOp,go_sem,E5,E7,h4,e2]) ?_
  exact⟨_,rfl,h2⟩
 intro y WA hbWA hRWA
 have hy2:((kU w.heap.size 59 13 m.fs.length (m.fs.flatMap mD))).r (y 2) WA:=hRWA 2 (by decide)
 have hy5:((Ko w.heap.size m)).r (y 5) WA:=hRWA 5 (by decide)
 clear hRWA
 obtain⟨vb,e5,ho⟩:=hy5
 rw[e5]
 clear hy2 e5
 have hbelA:=ag hbel0 hbWA
 obtain⟨xb,cb',rfl,_⟩:=ho.rd
 refine aB rfl _ (.tmp 2) (.tmp 8) rfl (w.heap.size+1) _ rfl rfl _ _ (hout.ext hbWA) rfl mem_size (by simp[Value.oneCell']) ?_
 intro w2 hq hgr
 have hbel2:Below w.heap.size w w2:=hbelA.grown hgr hbelA.size (fun k hk=>by cases hk;omega)
 have hc:=hq.cell
 go_wp2
 simp[bodyPost,results,go_sem,Try.results54,hc]
 exact⟨ak ho (hout.ext hbWA) (by decide) hgr,hbel2⟩
theorem FB (n:Int) (w:World) :
  Calls Try.prog 67 #[.int .i64 n] w fun e w' => ∃vb,e = .returned (.tuple #[.agg #[vb,.int .i64 0],.int .i64 (BX n)])∧Own w' w.heap.size 59 13 vb (uI n).fs.length ((uI n).fs.flatMap mD)∧Below w.heap.size w w':=by
 have hres0:=aC.new w #[.slice none 0 0,.int .i64 0] 27
 have hbel0:Below w.heap.size w (w.alloc (.cells #[.slice none 0 0,.int .i64 0] 27)):=(Below.refl _ _).alloc (Nat.le_refl _) _
 unfold uI BX
 go_enter Try.func67,Try.ntmps67
 by_cases hn:0≤n∧n≤40
 ·obtain⟨n,rfl⟩:=Int.eq_ofNat_of_zero_le hn.1
  rw[if_pos hn,if_pos hn]
  have n1:¬(40:Int)<(n:Int):=by omega
  have n2:n≤40:=by omega
  clear hn
  go_wp2_with (refine nW _ rfl (.tmp 13) (.tmp 13) 25 rfl mD 59 _ 13 40 fr0 eu (by decide) Try.underlying25 frame_info rfl .i64 .i64 n n n rfl rfl rfl rfl (by omega) (by unfold maxLen;omega) ?_)
  intro w2 ho hgr
  have hres2:=hres0.grown hgr (by intro he;cases he)
  have hbel2:=hbel0.grown hgr hbel0.size (fun k hk=>by cases hk)
  clear hres0 hgr hbel0
  have hlt2:w.heap.size+1<w2.heap.size:=by obtain⟨cs,hk⟩:=fU ho _ rfl;simpa using hk.lt
  go_upto_region 4 with (fail)
  refine eO (fun W=>Code.wp _ _ _ _ W) fun w3 hb3 hm3 hs3 => ?_
  clear hs3
  have hbel3:=ag hbel2 hb3
  have hres3:=hres2.ext hb3
  have ho3:=ho.below hb3
  have hcm:=hm3.cell
  clear hres2 ho hb3
  go_wp2
  clear hcm
  go_loopw [19] (fun i wr => ∃(k:Nat) (cur:List Fr),k≤n∧i = .int .i64 k∧Below w.heap.size w wr∧aC wr w.heap.size #[.slice none 0 0,.int .i64 0] 27∧aC wr w2.heap.size #[.slice (some ⟨w.heap.size+1,0,none⟩) n n,.int .i64 0] 27∧Own wr w.heap.size 59 13 (.slice (some ⟨w.heap.size+1,0,none⟩) n n) n (cur.flatMap mD)∧Hid (cur.length=n∧∀i,i<n→cur[i]?=some (if i<k then frZ else fr0))) (fun i _=>n-(intOf i).toNat)
  case atStart=>exact⟨0,List.replicate n fr0,Nat.zero_le _,rfl,hbel3,hres3,hm3,ho3.mono (by simp),Lib.hid ⟨by simp,fun i hi=>by simp[hi]⟩⟩
  case round=>
   clear hres3 hm3 ho3 hbel3
   obtain⟨k,cur,hk,rfl,hbel,hres,hm,ho,hcur⟩:=hrel
   have hcm:=hm.cell
   by_cases hlt:k<n
   ·have hlen:=hcur.out.1
    have hkc:k<cur.length:=by omega
    have hk0:cur[k]'hkc=fr0:=by
     have:=hcur.out.2 k hlt
     rw[List.getElem?_eq_getElem hkc] at this
     simpa using this
    obtain⟨g,off,cap,hv,hBg,hgl,⟨csg,hgb⟩,hcc,hfz,hset⟩:=uC eu (by decide) hlen ho k hlt 11 (by decide) (.int .i64 (-1)) frZ (by rw[hk0];rfl)
    cases hv
    have hcb:=hcc 11 (.int .i64 0) (by rw[hk0];rfl)
    simp only[Nat.zero_add] at hcb hfz hset
    have hnew:Hid ((cur.set k frZ).length=n∧∀i,i<n→(cur.set k frZ)[i]?=some (if i<k+1 then frZ else fr0)):=by
     refine⟨by simp[hlen],fun i hi => ?_⟩
     rw[List.getElem?_set]
     by_cases e:k=i
     ·subst e;simp[hkc]
     ·rw[if_neg e,hcur.out.2 i hi]
      by_cases h:i<k
      ·rw[if_pos h,if_pos (by omega)]
      ·rw[if_neg h,if_neg (by omega)]
    have hkz:(k:Int)<(n:Int):=by omega
    clear hk0 hcc hcur hlen ho
    go_wp2
    go_roundw
    case rel=>exact⟨k+1,cur.set k frZ,by omega,by go_num,hbel.setCell (by simp) _,hres.setCell_other _ _ (by simp),hm.setCell_other _ _ (by simp;omega),hset,hnew⟩
    case measure=>simp[intOf];omega
   ·have hcurn:Hid (cur=List.replicate n frZ):=by
     apply List.ext_getElem?
     intro i
     by_cases hi:i<n
     ·rw[hcur.out.2 i hi,if_pos (by omega)];simp[hi]
     ·rw[List.getElem?_eq_none (by have:=hcur.out.1;omega),List.getElem?_eq_none (by simp;omega)]
    go_wp2_with (refine aB rfl _ (.tmp 2) (.tmp 28) rfl w.heap.size #[.slice (some ⟨w.heap.size+1,0,none⟩) n n,.int .i64 0] rfl rfl _ _ hres (II _ _ _ _ _ _ _ _) (EG _ _) (qw _ _ _ _) ?_)
    intro w5 hr5 hgr5
    have ho5:=ak ho hres (by decide) hgr5
    have hbel5:=hbel.grown hgr5 hbel.size (fun k hk=>by cases hk;exact Nat.le_refl _)
    have hcr:=hr5.cell
    go_wp2
    simp[bodyPost,results,go_sem,Try.results67,hcr]
    rw[hcurn.out] at ho5
    exact⟨ho5,hbel5⟩
 ·rw[if_neg hn,if_neg hn]
  have h' : n<0∨40<n:=by omega
  clear hn
  rcases h' with h|h
  all_goals
   go_wp2_with (refine aB rfl _ (.tmp 2) (.tmp 12) rfl w.heap.size #[.slice none 0 0,.int .i64 0] rfl rfl _ _ hres0 rfl mem_size (qw _ _ _ _) ?_)
   all_goals
    intro w2 hr2 hgr
    have hbel2:=hbel0.grown hgr hbel0.size (fun k hk=>by cases hk;exact Nat.le_refl _)
    have hcr:=hr2.cell
    go_wp2
    simp[bodyPost,results,go_sem,Try.results67,hcr]
    exact⟨Own.nil _ _ _ _,hbel2⟩
theorem bM {P:Program} {ρ:Operand→Value} {o:Oper} {w:World} {ty:TypeId} {x:Operand} {b off:Nat} {vs:List Value} {d:TypeDesc} (ho:o.op = .load ty x) (hx:ρ x = .pointer (some ⟨b,off,none⟩)) (hrd:bW w (some ⟨b,off,none⟩) vs)
  (hu:P.underlying ty=some d) (hd:aggB d=true) (hi:(P.info? ty).map (·.size)=some vs.length):(execOp ρ o).run P w = .ok (.value (.agg vs.toArray)) w:=by
 unfold execOp
 simp only[ho,hx,Instr.loadAt,Instr.sureAddr,Sem.run_bind,Sem.run_pure,Result.andThen_ok,fE hrd hu hd hi]
def fK (e:En):Array Value:=#[.int .i64 e.k,.int .i64 e.n,.bool e.w]
def iC (e:En):List Value:=(fK e).toList
theorem di (e:En):(iC e).length=3:=rfl
structure yj (w:World) (cs:Array Value) (t:Tb):Prop where
 sz:cs.size=8
 at' : ∀k (h:k<8),∃a c,cs[k]?=some (.slice a t[k].length c)∧t[k].length≤c∧c≤maxLen∧(a=none→c=0)∧bW w a (t[k].flatMap iC)
theorem yj.below {w w' : World} {cs:Array Value} {t:Tb} (h:yj w cs t) (hb:Below w.heap.size w w'):yj w' cs t:=
 ⟨h.sz,fun k hk=>by obtain⟨a,c,h1,h2,h3,h4,h5⟩:=h.at' k hk;exact⟨a,c,h1,h2,h3,h4,h5.below hb⟩⟩
theorem yj.one {w:World} {cs:Array Value} {t:Tb} (h:yj w cs t):cs.all (·.oneCell')=true:=by
 rw[Array.all_eq_true]
 intro i hi
 obtain⟨a,c,h1,_⟩:=h.at' i (by have:=h.sz;omega)
 rw[Array.getElem?_eq_getElem hi] at h1
 rw[Option.some.inj h1]
 rfl
theorem sU {cs:Array Value} {k:Nat} {v:Value} (h:k<8) (hv:cs[k]?=some v) (w:World):(Instr.index 63 (.agg cs) (.int .i64 k)).run Try.prog w = .ok v w:=
 uX Try.underlying63 Try.underlying61 IA (by kernel_rfl) _ k _ h hv _ w
theorem tab_agg:aggB (.array 8 61)=true:=rfl
theorem tab_size:(Try.prog.info? 63).map (·.size)=some 8:=by kernel_rfl
theorem yO {w:World} {a:Option Addr} {l:List En} (h:bW w a (l.flatMap iC)) (k:Nat) (hk:k<l.length):∃b off,a=some ⟨b,off,none⟩∧w.cell? ⟨b,off+k*3,none⟩=some (.int .i64 l[k].k)∧w.cell? ⟨b,off+k*3+1,none⟩=some (.int .i64 l[k].n)∧w.cell? ⟨b,off+k*3+2,none⟩=some (.bool l[k].w):=by
 obtain⟨b,off,ha,hc⟩:=h.elem di (by decide) k hk
 exact⟨b,off,ha,hc 0 _ rfl,hc 1 _ rfl,hc 2 _ rfl⟩
theorem CZ (e:En) (w:World):Calls Try.prog 116 #[.agg #[.int .i64 e.k,.int .i64 e.n,.bool e.w]] w fun r w'=>r = .returned (.int .i64 (cO e))∧Below w.heap.size w w':=by
 go_enter Try.func116,Try.ntmps116
 go_wp2
 all_goals go_ret
 all_goals refine⟨?_,(Below.refl _ _).alloc (Nat.le_refl _) _⟩
 all_goals go_light
 all_goals refine congrArg (fun z=>Ending.returned (.int .i64 z)) ?_
 all_goals simp only[cO]
 all_goals simp_all
 all_goals omega
theorem Bj (t:Tb) (cs:Array Value) (w:World) (h:yj w cs t):Calls Try.prog 83 #[.agg cs] w fun r w'=>r = .returned (.int .i64 (bB t))∧Below w.heap.size w w':=by
 go_enter Try.func83,Try.ntmps83
 go_upto_region 1 with (fail)
 refine eO (fun W=>Code.wp _ _ _ _ W) fun W0 hb0 hx0 hs0 => ?_
 clear hs0
 go_wp2_with (refine fM rfl 63 (.tmp 1) rfl w.heap.size 0 rfl cs.toList hx0.rd _ Try.underlying63 tab_agg (by rw[Array.length_toList,h.sz];exact tab_size) ?_)
 clear hx0
 go_loopw [10] (fun i wr => ∃k:Nat,k≤8∧i = .int .i64 k∧Below w.heap.size w wr∧∀i (hi:i<8),i<k→gG t[i]=0) (fun i _=>8-(intOf i).toNat)
 case atStart=>exact⟨0,Nat.zero_le _,rfl,hb0,fun i _ h=>absurd h (Nat.not_lt_zero _)⟩
 case round=>
  obtain⟨k,hk,rfl,hbr,hp0⟩:=hrel
  have hp:=Lib.hid hp0
  clear hp0 hb0
  by_cases hlt:k<8
  ·obtain⟨a,c,hcs,hle,hmx,hnil,hrd⟩:=h.at' k hlt
   have hix:=fun W=>sU hlt hcs W
   have hd8:decide ((k:Int)<8)=true:=by simp;omega
   unfold maxLen at hmx
   clear hcs
   by_cases h08:t[k].length=0∨t[k].length=8
   ·have H08:=Lib.hid h08
    have q1:((t[k].length:Int) != 0)=true∧((t[k].length:Int) != 8)=false∨((t[k].length:Int) != 0)=false∧((t[k].length:Int) != 8)=true:=by
     rcases h08 with e|e<;>simp[e]
    clear h08
    rcases q1 with ⟨q1,q2⟩|⟨q1,q2⟩
    all_goals
     go_wp2
     clear hix
     go_loopw [23,5] (fun i s wr' => ∃j:Nat,j≤t[k].length∧i = .int .i64 j∧s = .bool (nZ t[k] j)∧Below w.heap.size w wr'∧∀i (hi:i<t[k].length),i<j→cO t[k][i]=0) (fun i _ _=>t[k].length-(intOf i).toNat)
     case atStart=>exact⟨0,Nat.zero_le _,rfl,rfl,hbr,fun i _ h=>absurd h (Nat.not_lt_zero _)⟩
     case round=>
      obtain⟨j,hj,rfl,rfl,hbq,hq0⟩:=hrel
      have hq:=Lib.hid hq0
      clear hq0 hbr
      by_cases hjl:j<t[k].length
      ·obtain⟨b,off,rfl,c0,c1,c2⟩:=yO (hrd.below hbq) j hjl
       go_wp2_with fail
       refine eO (fun W=>Calls _ _ _ W _) fun W3 hb3 hx3 hs3 => ?_
       have hbel3:=ag hbq hb3
       clear hbq hs3 c0 c1 c2 hb3
       refine (CZ t[k][j] _).mono ?_
       rintro e w4 ⟨rfl,hb4⟩
       have hbel4:=ag hbel3 hb4
       have hx4:=(hx3.ext hb4).cell
       clear hx3 hb4 hbel3
       by_cases he:cO t[k][j]=0
       ·have hen:=vY t[k] j hjl
        have he':=Lib.hid he
        rw[he]
        clear he
        cases hs:nZ t[k] j
        all_goals
         rw[hs] at hen
         go_wp2
         go_roundw
         case rel=>exact⟨j+1,by omega,by go_num,by rw[hen];first | rfl | (congr 1;rw[Bool.eq_iff_iff];simp),hbel4,jv hq.out hjl he'.out⟩
         case measure=>simp[intOf];omega
       ·have he2:(cO t[k][j] != 0)=true:=by simpa using he
        have hfin:=Lib.hid (jS k hlt hp.out (by rw[pU H08.out j hjl hq.out he];exact he))
        have hfin2:=Lib.hid (pU H08.out j hjl hq.out he)
        go_wp2
        go_ret
        exact⟨aQ (hfin.out.trans hfin2.out).symm,hbel4⟩
      ·have hend:=Lib.hid (nT H08.out fun i hi=>hq.out i hi (by omega))
       have hall:=Lib.hid (ym t[k] j (by omega))
       by_cases hgo:0<t[k].length∧nZ t[k] j=false
       ·obtain⟨g1,g2⟩:=hgo
        have hfin2:=Lib.hid (hend.out.trans (if_pos ⟨g1,hall.out▸g2⟩))
        have hfin:=Lib.hid (jS k hlt hp.out (by rw[hfin2.out];decide))
        rw[g2]
        go_wp2
        go_ret
        exact⟨aQ (hfin.out.trans hfin2.out).symm,hbq⟩
       ·have hfin2:=Lib.hid (hend.out.trans (if_neg (fun h=>hgo ⟨h.1,hall.out.trans h.2⟩)))
        have hgo2:¬0<t[k].length∨0<t[k].length∧nZ t[k] j=true:=by
         by_cases hz:0<t[k].length
         ·exact .inr ⟨hz,by simpa[hz] using hgo⟩
         ·exact .inl hz
        clear hgo
        rcases hgo2 with g1|⟨g1,g2⟩
        ·go_wp2
         go_roundw
         case rel=>exact⟨k+1,by omega,by go_num,hbq,jv hp.out hlt hfin2.out⟩
         case measure=>simp[intOf];omega
        ·rw[g2]
         go_wp2
         go_roundw
         case rel=>exact⟨k+1,by omega,by go_num,hbq,jv hp.out hlt hfin2.out⟩
         case measure=>simp[intOf];omega
   ·have q1:((t[k].length:Int) != 0)=true:=by rw[bne_iff_ne];omega
    have q2:((t[k].length:Int) != 8)=true:=by rw[bne_iff_ne];omega
    have hfin2:=Lib.hid (pG (h:=t[k]) (by omega))
    have hfin:=Lib.hid (jS k hlt hp.out (by rw[hfin2.out];decide))
    go_wp2
    go_ret
    exact⟨aQ (hfin.out.trans hfin2.out).symm,hbr⟩
  ·have hfin:=Lib.hid (mV fun i hi=>hp.out i hi (by omega))
   go_wp2
   go_ret
   exact⟨aQ hfin.out.symm,hbr⟩
theorem entry_info:(Try.prog.info? 67).map (fun i=>(i.zero,i.size,i.bytes))=some (some (.agg #[.int .i64 0,.int .i64 0,.bool false]),3,24):=by kernel_rfl
theorem kI (l:List En):(l.flatMap iC).length=l.length*3:=Pw.flat_len iC 3 di l
theorem ed (f:En):(fK f).all (·.oneCell')=true:=by simp[fK,Value.oneCell']
theorem su (l:List En):∀u∈l.flatMap iC,u.oneCell' = true:=by
 intro u hu
 obtain⟨f,_,hf⟩:=List.mem_flatMap.1 hu
 have:=ed f
 rw[←Array.all_toList,List.all_eq_true] at this
 exact this u hf
theorem vI (l:List En) (a:Option Addr) (c:Nat) (w:World) (hle:l.length≤c) (hnil:a=none→c=0) (hrd:bW w a (l.flatMap iC)) (hb:l.length*24≤140737488355328) :
  Calls Try.prog 95 #[.slice a l.length c] w fun e w' => ∃v,e = .returned v∧Own w' w.heap.size 67 3 v l.length (l.flatMap iC)∧Below w.heap.size w w':=by
 cases a with
 | none=>
  have h0:=hnil rfl
  have hl:l=[]:=List.eq_nil_of_length_eq_zero (by omega)
  subst hl
  subst h0
  have hq:=fun W=>Lib.run_eql_slice_nil (P:=Try.prog) W 61 _ none 0 0 0 0 Try.underlying61
  go_enter Try.func95,Try.ntmps95
  go_wp2
  go_ret
  exact⟨_,rfl,by simpa using Own.nil _ _ _ _,Below.refl _ _⟩
 | some ad=>
  have hq:=fun W=>Lib.run_eql_slice_nil (P:=Try.prog) W 61 _ (some ad) l.length c 0 0 Try.underlying61
  go_enter Try.func95,Try.ntmps95
  go_wp2_with (at_builtin;go_must (refine dJ rfl _ _ 61 rfl w.heap.size 67 (.agg #[.int .i64 0,.int .i64 0,.bool false]) 3 24 Try.underlying61 entry_info rfl (by decide) _ 0 [] rfl ?own (some ad) l.length c (l.flatMap iC) rfl (fun h=>(by cases h)) hle (kI l) ?rd (su l) (by unfold maxLen;omega) (by simpa using hb) ?bb ?k))
  case own=>exact⟨rfl,.inr ⟨w.heap.size,0,0,#[],rfl,Nat.le_refl _,aC.new _ _ _,Nat.le_refl _,Nat.zero_le _,by simp,fun j u h=>by simp at h⟩⟩
  case rd=>exact hrd.below ((Below.refl _ _).alloc (Nat.le_refl _) _)
  case bb=>exact dI _ _
  intro v w1 hown hgr
  go_wp2
  go_ret
  exact⟨v,rfl,by simpa using hown,((Below.refl _ _).alloc (Nat.le_refl _) _).grown hgr (dI _ _) (fun k hk=>by cases hk;exact Nat.le_refl _)⟩
structure nO (w:World) (B:Nat) (cs:Array Value) (t:Tb):Prop where
 sz:cs.size=8
 own:∀k (h:k<8),∃v,cs[k]?=some v∧Own w B 67 3 v t[k].length (t[k].flatMap iC)
 apart:∀(j k:Nat) (v u:Value),j<k→cs[j]?=some v→cs[k]?=some u→∀g,v.ownBlock=some g→u.ownBlock≠some g
theorem nO.rd {w:World} {B:Nat} {cs:Array Value} {t:Tb} (h:nO w B cs t):yj w cs t:=
 ⟨h.sz,fun k hk=>by
  obtain⟨v,h1,h2⟩:=h.own k hk
  obtain⟨a,c,rfl,h3,h4,h5,h6⟩:=h2.rd
  exact⟨a,c,h1,h3,h4,h5,h6⟩⟩
theorem nO.below {w w' : World} {B:Nat} {cs:Array Value} {t:Tb} (h:nO w B cs t) (hb:Below w.heap.size w w'):nO w' B cs t:=
 ⟨h.sz,fun k hk=>by obtain⟨v,h1,h2⟩:=h.own k hk;exact⟨v,h1,h2.below hb⟩,h.apart⟩
theorem nO.mono {w:World} {B B' : Nat} {cs:Array Value} {t:Tb} (h:nO w B cs t) (hB:B'≤B):nO w B' cs t:=
 ⟨h.sz,fun k hk=>by obtain⟨v,h1,h2⟩:=h.own k hk;exact⟨v,h1,h2.mono hB⟩,h.apart⟩
theorem nO.keep {w w' : World} {B:Nat} {cs:Array Value} {t:Tb} (h:nO w B cs t) {g:Nat} {cs' : Array Value} {T:TypeId} (hk:aC w g cs' T) (hT:T≠67) (hgr:w.grownBy w' (some g)):nO w' B cs t:=
 ⟨h.sz,fun k hk'=>by obtain⟨v,h1,h2⟩:=h.own k hk'; exact⟨v,h1,ak h2 hk hT hgr⟩,h.apart⟩
structure GM (w:World) (B:Nat) (cs ca:Array Value) (t:Tb) (k:Nat):Prop where
 sz:ca.size=8
 old:∀i,k≤i→ca[i]?=cs[i]?
 own:∀i (h:i<8),i<k→∃v,ca[i]?=some v∧Own w B 67 3 v t[i].length (t[i].flatMap iC)
 apart:∀(j i:Nat) (v u:Value),j<i→i<k→ca[j]?=some v→ca[i]?=some u→∀g,v.ownBlock=some g→u.ownBlock≠some g
theorem GM.start {w:World} {B:Nat} {cs:Array Value} {t:Tb} (h:cs.size=8):GM w B cs cs t 0:=⟨h,fun _ _=>rfl,fun _ _ h=>absurd h (Nat.not_lt_zero _),fun _ _ _ _ _ h=>absurd h (Nat.not_lt_zero _)⟩
theorem Fh {w:World} {B:Nat} {e:TypeId} {sz:Nat} {v:Value} {n:Nat} {xs:List Value} (h:Own w B e sz v n xs) (g:Nat) (hg:v.ownBlock=some g):g<w.heap.size:=by
 obtain⟨cs,hb⟩:=fU h g hg
 exact hb.lt
theorem GM.step {w w4 w5:World} {B b:Nat} {cs ca:Array Value} {t:Tb} {k:Nat} {T:TypeId} (h:GM w B cs ca t k) (hB:B≤w.heap.size) (hk:k<8) {v:Value} (hb:Below w.heap.size w w4) (ho:Own w4 w.heap.size 67 3 v t[k].length (t[k].flatMap iC))
  (hblk:aC w4 b ca T) (hT:T≠67) (hg:w4.grownBy w5 (some b)):GM w5 B cs (ca.setIfInBounds k v) t (k+1) where
 sz:=by simp[h.sz]
 old:=fun i hi=>by rw[Array.getElem?_setIfInBounds_ne (by omega)];exact h.old i (by omega)
 own:=fun i hi hik=>by
  by_cases e:i=k
  ·subst e
   exact⟨v,by rw[Array.getElem?_setIfInBounds_self_of_lt (by rw[h.sz];exact hi)],ak (ho.mono hB) hblk hT hg⟩
  ·obtain⟨u,h1,h2⟩:=h.own i hi (by omega)
   exact⟨u,by rw[Array.getElem?_setIfInBounds_ne (by omega)];exact h1,ak (h2.below hb) hblk hT hg⟩
 apart:=fun j i x y hji hi hx hy g hgx hgy=>by
  have hjk:j≠k:=by omega
  rw[Array.getElem?_setIfInBounds_ne (by omega)] at hx
  by_cases e:i=k
  ·subst e
   rw[Array.getElem?_setIfInBounds_self_of_lt (by rw[h.sz];exact hk)] at hy
   cases hy
   have h1:=ho.ge g hgy
   obtain⟨u,h2,h3⟩:=h.own j (by omega) (by omega)
   rw[h2] at hx
   cases hx
   have:=Fh h3 g hgx
   omega
  ·rw[Array.getElem?_setIfInBounds_ne (by omega)] at hy
   exact h.apart j i x y hji (by omega) hx hy g hgx hgy
theorem GM.fin {w:World} {B:Nat} {cs ca:Array Value} {t:Tb} (h:GM w B cs ca t 8):nO w B ca t:=
 ⟨h.sz,fun k hk=>h.own k hk hk,fun j k v u hjk h1 h2=>h.apart j k v u hjk (by
  rcases Nat.lt_or_ge k 8 with hk|hk
  ·exact hk
  ·rw[Array.getElem?_eq_none (by rw[h.sz];exact hk)] at h2;cases h2) h1 h2⟩
theorem Gg (t:Tb) (cs:Array Value) (w:World) (h:yj w cs t) (hz:EP t):Calls Try.prog 60 #[.agg cs] w fun r w' => ∃cs',r = .returned (.agg cs')∧nO w' w.heap.size cs' t∧Below w.heap.size w w':=by
 go_enter Try.func60,Try.ntmps60
 go_upto_region 1 with (fail)
 refine pz (fun W=>Code.wp _ _ _ _ W) fun W0 hb0 hx0 hres0 hs0 => ?_
 clear hs0
 go_wp2_with (refine fM rfl 63 (.tmp 1) rfl w.heap.size 0 rfl cs.toList hx0.rd _ Try.underlying63 tab_agg (by rw[Array.length_toList,h.sz];exact tab_size) ?_)
 have hM0:GM W0 w.heap.size cs cs t 0:=GM.start h.sz
 go_loopw [6] (fun i wr => ∃(k:Nat) (ca:Array Value),k≤8∧i = .int .i64 k∧Below w.heap.size w wr∧aC wr w.heap.size ca 63∧aC wr (w.heap.size+1) #[.slice none 0 0,.slice none 0 0,.slice none 0 0,.slice none 0 0,.slice none 0 0,.slice none 0 0,.slice none 0 0,.slice none 0 0] 63∧GM wr w.heap.size cs ca t k) (fun i _=>8-(intOf i).toNat)
 case atStart=>exact⟨0,cs,Nat.zero_le _,rfl,hb0,hx0,hres0,hM0⟩
 case round=>
  obtain⟨k,ca,hk,rfl,hbr,hx,hres,hM⟩:=hrel
  clear hb0 hx0 hres0 hM0
  by_cases hlt:k<8
  ·obtain⟨a,c,hcs,hle,hmx,hnil,hrd⟩:=h.at' k hlt
   have hix:=fun W=>sU hlt hcs W
   have hd8:decide ((k:Int)<8)=true:=by simp;omega
   have hca:=(hM.old k (Nat.le_refl _)).trans hcs
   have HCA:=Lib.hid hca
   clear hca hcs
   go_wp2_with fail
   refine (vI t[k] a c _ hle hnil (hrd.below hbr) (hz k hlt)).mono ?_
   rintro e w4 ⟨v,rfl,ho,hb4⟩
   have hbel4:=ag hbr hb4
   have hx4:=hx.ext hb4
   have hres4:=hres.ext hb4
   have hc4:=(hx4.cell k).trans HCA.out
   have hf4:=hx4.free k
   have hgr4:=aJ w4 w.heap.size k [v]
   have hM5:=hM.step hbr.size hlt hb4 ho hx4 (by decide) hgr4
   have hx5:aC (w4.setCell ⟨w.heap.size,k,none⟩ v) w.heap.size (ca.setIfInBounds k v) 63:=hx4.setCell k v
   have hres5:=hres4.setCell_other ⟨w.heap.size,k,none⟩ v (by simp)
   have hbel5:Below w.heap.size w (w4.setCell ⟨w.heap.size,k,none⟩ v):=hbel4.grown hgr4 hbel4.size (fun k hk=>by cases hk;exact Nat.le_refl _)
   obtain⟨xa,xc,rfl,_⟩:=ho.rd
   clear hx4 hres4 hbr hx hres hM hbel4 hb4 ho hgr4 hix
   go_wp2
   go_roundw
   case rel=>exact⟨k+1,_,by omega,by go_num,hbel5,hx5,hres5,hM5⟩
   case measure=>simp[intOf];omega
  ·obtain rfl:k=8:=by omega
   have hO:=hM.fin
   have hone:=hO.rd.one
   have hsz:=hM.sz
   go_wp2_with (first | (refine fM rfl 63 (.tmp 1) rfl w.heap.size 0 rfl ca.toList hx.rd _ Try.underlying63 tab_agg (by rw[Array.length_toList,hsz];exact tab_size) ?_) | (refine aB rfl _ (.tmp 2) (.tmp 15) rfl (w.heap.size+1) ca rfl rfl _ _ hres (by rw[hsz];rfl) (by rw[hsz];exact tab_size) hone ?_))
   intro w5 hr5 hgr5
   have hO5:=hO.keep hres (by decide) hgr5
   have hbel5:Below w.heap.size w w5:=hbr.grown hgr5 hbr.size (fun k hk=>by cases hk;omega)
   go_wp2
   refine bodyPost_ret (v:=.agg ca) (results_cell_row Try.results60 _ _ (w.heap.size+1) _ ca _ _ rfl hr5 Try.underlying63 rfl (by rw[hsz];exact tab_size)) rfl ?_
   exact⟨_,rfl,hO5,hbel5⟩
theorem entry_size:(Try.prog.info? 67).map (·.size)=some 3:=by kernel_rfl
theorem Gs {w:World} {a:Option Addr} {l:List En} (h:bW w a (l.flatMap iC)) (k:Nat) (hk:k<l.length):∃b off E,a=some ⟨b,off,none⟩∧l[k]?=some E∧w.cell? ⟨b,off+k*3,none⟩=some (.int .i64 E.k)∧w.cell? ⟨b,off+k*3+1,none⟩=some (.int .i64 E.n)∧w.cell? ⟨b,off+k*3+2,none⟩=some (.bool E.w):=by
 obtain⟨b,off,ha,h0,h1,h2⟩:=yO h k hk
 exact⟨b,off,l[k],ha,List.getElem?_eq_getElem hk,h0,h1,h2⟩
theorem uQ (t:Tb) (cs:Array Value) (n:Int) (w:World) (h:yj w cs t):Calls Try.prog 39 #[.agg cs,.int .i64 n] w fun r w'=>r = .returned (.agg (fK (bS t n)))∧Below w.heap.size w w':=by
 by_cases hn:0≤n∧n<64
 ·obtain⟨q,r,hq,hr,hnn,hdq,hdr⟩:=pX hn
  have hg:=pW (t:=t) hq hr
  rw[←hnn] at hg
  have HG:=Lib.hid hg
  have HN:=Lib.hid hnn
  obtain⟨n0,n1⟩:=hn
  have hn0:decide (n<0)=false:=by simp;omega
  have hn1:decide (64≤n)=false:=by simp;omega
  obtain⟨a,c,hcs,hle,hmx,hnil,hrd⟩:=h.at' q hq
  unfold maxLen at hmx
  clear hg hnn
  go_enter Try.func39,Try.ntmps39
  go_upto_region 1 with (fail)
  refine pz (fun W=>Code.wp _ _ _ _ W) fun W0 hb0 hx0 hres0 hs0 => ?_
  clear hs0
  have hc0:=(hx0.cell q).trans hcs
  have hrd0:=hrd.below hb0
  have hq' : (q:Int)<8:=by omega
  by_cases h8:t[q].length=8
  ·obtain⟨b,off,E,rfl,hE,c0,c1,c2⟩:=Gs hrd0 r (by omega)
   have hfin:bS t n=E:=by rw[HG.out,if_pos h8,List.getD_eq_getElem?_getD,hE];rfl
   have HF:=Lib.hid hfin
   have hr' : (r:Int)<8:=by omega
   rw[h8] at hc0
   clear h8 hcs hE h hfin
   go_wp2_with (refine aB rfl _ (.tmp 4) (.tmp 27) rfl (w.heap.size+1) (fK E) rfl rfl _ _ hres0 rfl entry_size (ed _) ?_)
   all_goals
    intro w5 hr5 hgr5
    have hbel5:Below w.heap.size w w5:=hb0.grown hgr5 hb0.size (fun k hk=>by cases hk;omega)
    go_wp2
    refine bodyPost_ret (v:=.agg (fK E)) (results_cell_row Try.results39 _ _ (w.heap.size+1) _ _ _ _ rfl hr5 Try.underlying67 rfl entry_size) rfl ?_
    exact⟨by rw[HF.out],hbel5⟩
  ·have hne:((t[q].length:Int) != 8)=true:=by rw[bne_iff_ne];omega
   have hfin:bS t n=zEn:=by rw[HG.out,if_neg h8]
   have HF:=Lib.hid hfin
   clear hfin
   go_wp2_with (refine aB rfl _ (.tmp 4) (.tmp 19) rfl (w.heap.size+1) (fK zEn) rfl rfl _ _ hres0 rfl entry_size (ed _) ?_)
   all_goals
    intro w5 hr5 hgr5
    have hbel5:Below w.heap.size w w5:=hb0.grown hgr5 hb0.size (fun k hk=>by cases hk;omega)
    go_wp2
    refine bodyPost_ret (v:=.agg (fK zEn)) (results_cell_row Try.results39 _ _ (w.heap.size+1) _ _ _ _ rfl hr5 Try.underlying67 rfl entry_size) rfl ?_
    exact⟨by rw[HF.out],hbel5⟩
 ·have hfin:bS t n=zEn:=kr (by omega)
  have HF:=Lib.hid hfin
  have hn' : n<0∨64≤n:=by omega
  clear hfin hn
  go_enter Try.func39,Try.ntmps39
  go_upto_region 1 with (fail)
  refine pz (fun W=>Code.wp _ _ _ _ W) fun W0 hb0 hx0 hres0 hs0 => ?_
  clear hs0
  by_cases hn0:n<0
  ·skip
   go_wp2_with (refine aB rfl _ (.tmp 4) (.tmp 19) rfl (w.heap.size+1) (fK zEn) rfl rfl _ _ hres0 rfl entry_size (ed _) ?_)
   all_goals
    intro w5 hr5 hgr5
    have hbel5:Below w.heap.size w w5:=hb0.grown hgr5 hb0.size (fun k hk=>by cases hk;omega)
    go_wp2
    refine bodyPost_ret (v:=.agg (fK zEn)) (results_cell_row Try.results39 _ _ (w.heap.size+1) _ _ _ _ rfl hr5 Try.underlying67 rfl entry_size) rfl ?_
    exact⟨by rw[HF.out],hbel5⟩
  ·have hn1:64≤n:=by omega
   have hn0' : decide (n<0)=false:=by simp;omega
   go_wp2_with (refine aB rfl _ (.tmp 4) (.tmp 19) rfl (w.heap.size+1) (fK zEn) rfl rfl _ _ hres0 rfl entry_size (ed _) ?_)
   all_goals
    intro w5 hr5 hgr5
    have hbel5:Below w.heap.size w w5:=hb0.grown hgr5 hb0.size (fun k hk=>by cases hk;omega)
    go_wp2
    refine bodyPost_ret (v:=.agg (fK zEn)) (results_cell_row Try.results39 _ _ (w.heap.size+1) _ _ _ _ rfl hr5 Try.underlying67 rfl entry_size) rfl ?_
    exact⟨by rw[HF.out],hbel5⟩
theorem slent_size:(Try.prog.info? 61).map (·.size)=some 1:=by kernel_rfl
theorem Bl (e:En):∀u∈iC e,u.oneCell' = true:=by
 intro u hu
 have:=ed e
 rw[←Array.all_toList,List.all_eq_true] at this
 exact this u hu
theorem zR (w:World) (B:Nat):nO w B #[.slice none 0 0,.slice none 0 0,.slice none 0 0,.slice none 0 0,.slice none 0 0,.slice none 0 0,.slice none 0 0,.slice none 0 0] zTb where
 sz:=rfl
 own:=fun k hk=>by
  refine⟨.slice none 0 0,?_,by simpa[zTb] using Own.nil w B 67 3⟩
  match k,hk with
  | 0,_=>rfl
  | 1,_=>rfl
  | 2,_=>rfl
  | 3,_=>rfl
  | 4,_=>rfl
  | 5,_=>rfl
  | 6,_=>rfl
  | 7,_=>rfl
 apart:=fun j k v u hjk h1 h2 g hg=>by
  have:v = .slice none 0 0:=by
   match j with
   | 0=>cases h1;rfl
   | 1=>cases h1;rfl
   | 2=>cases h1;rfl
   | 3=>cases h1;rfl
   | 4=>cases h1;rfl
   | 5=>cases h1;rfl
   | 6=>cases h1;rfl
   | 7=>cases h1;rfl
   | j+8=>cases h1
  subst this
  cases hg
theorem Eo (t:Tb) (cs:Array Value) (n:Int) (w:World) (h:yj w cs t):Calls Try.prog 39 #[.agg cs,.int .i64 n] w fun r w'=>r = .returned (.agg #[.int .i64 (bS t n).k,.int .i64 (bS t n).n,.bool (bS t n).w])∧Below w.heap.size w w':=uQ t cs n w h
theorem Kv (E:En) (W:World):(Instr.field 67 (.agg #[.int .i64 E.k,.int .i64 E.n,.bool E.w]) 0).run Try.prog W = .ok (.int .i64 E.k) W:=by
 simp[Instr.field,go_sem]
 rfl
theorem uz (t:Tb) (cs:Array Value) (w:World) (h:yj w cs t):Calls Try.prog 37 #[.agg cs] w fun r w' => ∃v,r = .returned v∧Own w' w.heap.size 3 1 v (aI t).length ((aI t).map eU)∧Below w.heap.size w w':=by
 go_enter Try.func37,Try.ntmps37
 go_upto_region 1 with (fail)
 refine eO (fun W=>Code.wp _ _ _ _ W) fun W0 hb0 hx0 hs0 => ?_
 clear hs0
 go_wp2
 have hown0:Own W0 w.heap.size 3 1 (.slice none 0 0) (fw t 0).length ((fw t 0).map eU):=Own.nil _ _ _ _
 go_loopw [5,3] (fun i v wr => ∃k:Nat,k≤64∧i = .int .i64 k∧Below w.heap.size w wr∧aC wr w.heap.size cs 63∧Own wr w.heap.size 3 1 v (fw t k).length ((fw t k).map eU)) (fun i _ _=>64-(intOf i).toNat)
 case atStart=>exact⟨0,Nat.zero_le _,rfl,hb0,hx0,hown0⟩
 case round=>
  obtain⟨k,hk,rfl,hbr,hx,hown⟩:=hrel
  clear hb0 hx0 hown0
  have hle:=oK t k
  by_cases hlt:k<64
  ·have hd:decide ((k:Int)<64)=true:=by simp;omega
   go_wp2_with (refine fM rfl 63 (.tmp 1) rfl w.heap.size 0 rfl cs.toList hx.rd _ Try.underlying63 tab_agg (by rw[Array.length_toList,h.sz];exact tab_size) ?_)
   refine (Eo t cs k _ (h.below hbr)).mono ?_
   rintro r w1 ⟨rfl,hb1⟩
   have hbel1:=ag hbr hb1
   have hx1:=hx.ext hb1
   have hfk:=Kv (bS t k)
   have hown1:=hown.below hb1
   clear hb1 hbr hx hown
   cases hk2:oh (bS t k)
   ·have hkk:((bS t k).k != 0)=false:=by simpa[oh] using hk2
    have hn:=Lib.hid (AV hk2)
    clear hk2
    go_wp2
    go_roundw
    case rel=>exact⟨k+1,by omega,by go_num,hbel1,hx1,by rw[hn.out];exact hown1⟩
    case measure=>simp[intOf];omega
   ·have hkk:((bS t k).k != 0)=true:=by simpa[oh] using hk2
    have hn:=Lib.hid (yQ hk2)
    clear hk2
    go_wp2_with (at_builtin;go_must (refine dJ rfl _ _ 28 rfl w.heap.size 3 (.int .i64 0) 1 8 Try.underlying28 int_info rfl (by decide) _ _ _ rfl (hown1.alloc _) (some ⟨w1.heap.size,0,none⟩) 1 1 [eU k] rfl (fun h=>(by cases h)) (Nat.le_refl _) rfl (bW.one _ _ _) (Hz _ _) (by unfold maxLen;omega) (by omega) ?bb ?k))
    case bb=>exact cz hbel1.size _
    intro v2 w2 hown2 hgr2
    have hbel2:Below w.heap.size w w2:=(hbel1.alloc hbel1.size _).grown hgr2 (cz hbel1.size _) (fun k hk=>(hown1.ge k hk))
    have hx2:aC w2 w.heap.size cs 63:=iO (hx1.alloc _) (hown1.alloc _) (by decide) hgr2
    go_wp2
    go_roundw
    case rel=>exact⟨k+1,by omega,by go_num,hbel2,hx2,by rw[hn.out,List.map_append,List.length_append];exact hown2⟩
    case measure=>simp[intOf];omega
  ·obtain rfl:k=64:=by omega
   go_wp2
   go_ret
   exact⟨_,rfl,hown,hbr⟩
structure PF where
 n:Int
 a:Option Addr
 l:List Int
 c:Nat
def PF.fi (p:PF):Fi:=⟨p.n,p.l⟩
def jd (p:PF):Array Value:=#[.int .i64 p.n,.slice p.a p.l.length p.c]
def mZ (p:PF):List Value:=(jd p).toList
theorem ib (p:PF):(mZ p).length=2:=rfl
theorem ji (p:PF):(jd p).all (·.oneCell')=true:=by simp[jd,Value.oneCell']
structure PF.good (w:World) (p:PF):Prop where
 le:p.l.length≤p.c
 mx:p.c≤maxLen
 nl:p.a=none→p.c=0
 rd:bW w p.a (p.l.map eU)
theorem PF.good.below {w w' : World} {p:PF} (h:p.good w) (hb:Below w.heap.size w w'):p.good w':=⟨h.le,h.mx,h.nl,h.rd.below hb⟩
structure DJ (w:World) (a:Option Addr) (c:Nat) (ps:List PF):Prop where
 le:ps.length≤c
 mx:c≤maxLen
 nl:a=none→c=0
 rd:bW w a (ps.flatMap mZ)
 good:∀p∈ps,p.good w
theorem DJ.below {w w' : World} {a:Option Addr} {c:Nat} {ps:List PF} (h:DJ w a c ps) (hb:Below w.heap.size w w'):DJ w' a c ps:=
 ⟨h.le,h.mx,h.nl,h.rd.below hb,fun p hp=>(h.good p hp).below hb⟩
theorem vW {w:World} {a:Option Addr} {ps:List PF} (h:bW w a (ps.flatMap mZ)) (k:Nat) (hk:k<ps.length):∃b off p,a=some ⟨b,off,none⟩∧ps[k]?=some p∧w.cell? ⟨b,off+k*2,none⟩=some (.int .i64 p.n)∧w.cell? ⟨b,off+k*2+1,none⟩=some (.slice p.a p.l.length p.c):=by
 obtain⟨b,off,ha,hc⟩:=h.elem ib (by decide) k hk
 exact⟨b,off,ps[k],ha,List.getElem?_eq_getElem hk,hc 0 _ rfl,hc 1 _ rfl⟩
def dP (ps:List PF) (k:Int):St:=⟨ps.map PF.fi,k⟩
def GL (a:Option Addr) (n c:Nat) (k:Int):Array Value:=#[.slice a n c,.int .i64 k]
theorem file_size:(Try.prog.info? 71).map (·.size)=some 2:=by kernel_rfl
theorem store_size:(Try.prog.info? 36).map (·.size)=some 2:=by kernel_rfl
theorem lI (c:Int) (seen:List Int) (p:PF) (r:List Fi):iH c seen (p.fi::r)=if p.n<0∨96<p.n then 3 else if (p.l.length:Int)≠bV p.n then 2 else if dG c seen p.l≠0 then dG c seen p.l else iH c (seen++p.l) r:=rfl
theorem Ay (ps:List PF) (k:Int) (a:Option Addr) (c:Nat) (w:World) (h:DJ w a c ps) (hk64 : -9223372036854775808≤k∧k≤9223372036854775807) :
  Calls Try.prog 80 #[.agg (GL a ps.length c k)] w fun r w'=>r = .returned (.int .i64 (aO (dP ps k)))∧Below w.heap.size w w':=by
 have hmm:=@run_makeMap Try.prog
 have hlc:=Nat.le_trans h.le h.mx
 unfold maxLen at hlc
 unfold GL
 go_enter Try.func80,Try.ntmps80
 go_upto_region 1 with (fail)
 refine eO (fun W=>Code.wp _ _ _ _ W) fun W0 hb0 hx0 hs0 => ?_
 clear hs0
 by_cases h4:5<ps.length∨k<0∨80<k
 ·have hfin:Hid (aO (dP ps k)=4):=Lib.hid (by unfold aO dP;rw[if_pos (by simpa using h4)])
  have hcx:=hx0.cell
  have h4' : 5<ps.length∨(¬5<ps.length∧k<0)∨(¬5<ps.length∧¬k<0∧80<k):=by omega
  clear h4
  rcases h4' with g|⟨g,g2⟩|⟨g,g2,g3⟩
  all_goals
   go_wp2
   go_ret
   exact⟨aQ hfin.out.symm,hb0⟩
 ·have hres:Hid (aO (dP ps k)=iH k (((ps.take 0).map PF.fi).flatMap Fi.b) ((ps.drop 0).map PF.fi)):=Lib.hid (by unfold aO dP;rw[if_neg (by simpa using h4)];rfl)
  have g1:¬5<ps.length:=by omega
  have g2:¬k<0:=by omega
  have g3:¬80<k:=by omega
  have hcx:=hx0.cell
  clear h4
  go_upto_region 4 with (fail)
  clear hcx hmm
  refine KH (fun W=>Code.wp _ _ _ _ W) fun W1 hb1 hM1 => ?_
  have hbel1:=ag hb0 hb1
  have hx1:=hx0.ext hb1
  have hgm:w.heap.size<W0.heap.size:=hx0.lt
  obtain⟨gm,hGM⟩:∃g,g=W0.heap.size:=⟨_,rfl⟩
  rw[←hGM] at hM1 hgm ⊢
  clear hGM hb0 hx0 hb1
  have hM1' : iD W1 gm 0 (kH (((ps.take 0).map PF.fi).flatMap Fi.b)):=hM1
  have hcx:=hx1.cell
  go_upto_region 5 with (fail)
  clear hcx hM1
  go_loopw [26] (fun i wr => ∃(q n:Nat),q≤ps.length∧i = .int .i64 q∧n≤12*q∧Below w.heap.size w wr∧aC wr w.heap.size #[.slice a ps.length c,.int .i64 k] 36∧iD wr gm n (kH (((ps.take q).map PF.fi).flatMap Fi.b))∧Hid (aO (dP ps k)=iH k (((ps.take q).map PF.fi).flatMap Fi.b) ((ps.drop q).map PF.fi))) (fun i _=>ps.length-(intOf i).toNat)
  case atStart=>exact⟨0,0,Nat.zero_le _,rfl,Nat.le_refl _,hbel1,hx1,hM1',hres⟩
  case round=>
   clear hbel1 hx1 hM1' hres
   obtain⟨q,n,hq,rfl,hn,hbr,hx,hM,hres⟩:=hrel
   by_cases hlt:q<ps.length
   ·obtain⟨b,off,p,rfl,hp,c0,c1⟩:=vW (h.below hbr).rd q hlt
    have hgood:=(h.good p (List.mem_of_getElem? hp)).below hbr
    have hdr:=drop_at hp
    have htk:=take_at hp
    rw[hdr,List.map_cons] at hres
    have htk':=Lib.hid htk
    clear hdr htk
    generalize hseen:((ps.take q).map PF.fi).flatMap Fi.b=seen at hM hres
    have hseen':=Lib.hid hseen
    clear hseen hp
    go_wp2_with (refine aD rfl _ _ _ rfl (jd p) rfl rfl rfl file_size (ji _) ?_)
    intro w2 hb2 hf2
    have hbel2:=ag hbr hb2
    have hx2:=hx.ext hb2
    have hM2:=hM.below hb2
    have hgood2:=hgood.below hb2
    clear hbr hx hM hgood hb2 c0 c1
    have hcf:=hf2.cell
    have f0:(jd p)[0]?=some (.int .i64 p.n):=rfl
    have f1:(jd p)[1]?=some (.slice p.a p.l.length p.c):=rfl
    by_cases hn96:p.n<0∨96<p.n
    ·have hfin:Hid (aO (dP ps k)=3):=Lib.hid (by rw[hres.out,lI,if_pos hn96])
     have hn' : p.n<0∨(¬p.n<0∧96<p.n):=by omega
     clear hn96
     rcases hn' with g|⟨g,g2⟩
     all_goals
      go_wp2
      go_ret
      exact⟨aQ hfin.out.symm,hbel2⟩
    ·have hres2:Hid (aO (dP ps k)=if (p.l.length:Int)≠bV p.n then 2 else if dG k seen p.l≠0 then dG k seen p.l else iH k (seen++p.l) ((ps.drop (q+1)).map PF.fi)):=Lib.hid (by rw[hres.out,lI,if_neg hn96])
     have g4:¬p.n<0:=by omega
     have g5:¬96<p.n:=by omega
     clear hn96 hres
     by_cases hcnt:(p.l.length:Int)=bV p.n
     ·have hres3:Hid (aO (dP ps k)=if dG k seen p.l≠0 then dG k seen p.l else iH k (seen++p.l) ((ps.drop (q+1)).map PF.fi)):=Lib.hid (by rw[hres2.out,if_neg (fun hh=>hh hcnt)])
      have hl12:p.l.length≤12:=by
       have:=qU (n:=p.n) (by omega)
       omega
      have hcc:=Lib.hid hcnt
      clear hres2 hcnt
      go_upto_region 9 with (fail)
      refine aF 7 [_,_,_,_,_,.v (.int .i64 (bV p.n)),_] (Gf wr.heap.size 1 rfl rfl (Gl hf2 (V:=.slice p.a p.l.length p.c) (by simp[f1,Try.underlying28]) rfl rfl rfl rfl (Gn rfl rfl rfl rfl (Gf wr.heap.size 0 rfl rfl (Gl hf2 (V:=.int .i64 p.n) (by simp[f0]) rfl rfl rfl rfl (all_cons ?_ (Gb (.bool false) (by simp[go_sem,hcc.out]) rfl rfl rfl rfl rfl (all_nil))))) (Try.underlying28)))) (fun _=>rfl) rfl ?_
      ·intro ρ y W hw hn hb hd;have E42:=hw 42 4 rfl;have h4:y 4=_:=hd 4 rfl
       have EF:∀f,ρ (.func f) = .func (.func f) #[] #[]:=fun f=>hn (.func f) trivial
       refine aP _ _ (ah rfl) (aN rfl (EF _) Try.func100 (by kernel_rfl) (by kernel_rfl) (by simp only[List.map_toArray,List.map_cons,List.map_nil,E42,h4,EF];rfl)) ?_
       refine (wC p.n W (by omega)).mono ?_
       rintro e w1 ⟨rfl,rfl⟩
       exact⟨_,rfl,Below.refl _ _,rfl⟩
      intro y WA hbWA _
      have hbelA:=ag hbel2 hbWA
      have hxA:=hx2.ext hbWA
      have hMA:=hM2.below hbWA
      have hfA:=hf2.ext hbWA
      have hgA:=hgood2.below hbWA
      clear hbel2 hx2 hM2 hf2 hgood2 hbWA hcf
      have hcf:=hfA.cell
      have hB0:Hid (dG k seen p.l=dG k (seen++p.l.take 0) (p.l.drop 0)):=Lib.hid (by simp)
      have hM0:iD WA gm n (kH (seen++p.l.take 0)):=by simpa using hMA
      have hle:=hgA.le
      have hmx:=hgA.mx
      have hrdp:=hgA.rd
      unfold maxLen at hmx
      clear hMA hgA
      go_upto_region 12 with (fail)
      clear hcf f0 f1 hfA
      go_loopw [48] (fun i wr => ∃(j m:Nat),j≤p.l.length∧i = .int .i64 j∧m≤n+j∧Below w.heap.size w wr∧aC wr w.heap.size #[.slice (some ⟨b,off,none⟩) ps.length c,.int .i64 k] 36∧iD wr gm m (kH (seen++p.l.take j))∧bW wr p.a (p.l.map eU)∧Hid (dG k seen p.l=dG k (seen++p.l.take j) (p.l.drop j))) (fun i _=>p.l.length-(intOf i).toNat)
      case atStart=>exact⟨0,n,Nat.zero_le _,rfl,Nat.le_refl _,hbelA,hxA,hM0,hrdp,hB0⟩
      case round=>
       clear hbelA hxA hM0 hrdp hB0
       obtain⟨j,m,hj,rfl,hm,hbr,hx,hM,hrp,hB⟩:=hrel
       by_cases hjl:j<p.l.length
       ·obtain⟨x,hX⟩:∃x,p.l[j]?=some x:=⟨p.l[j],List.getElem?_eq_getElem hjl⟩
        obtain⟨b2,off2,hpa,hc⟩:=jk hrp j hjl
        rw[show p.l[j]=x from (List.getElem?_eq_some_iff.1 hX).2] at hc
        have hdr:=drop_at hX
        have htk:=take_at hX
        rw[hdr,lQ] at hB
        rw[hpa]
        generalize hs2:seen++p.l.take j=seen2 at hB hM
        have htk2:Hid (seen++p.l.take (j+1)=seen2++[x]):=Lib.hid (by rw[htk,←List.append_assoc,hs2])
        have hrp':=Lib.hid hrp
        have hpa':=Lib.hid hpa
        have hcx:=hx.cell
        clear hX hdr htk hs2 hrp hpa
        have hjl' : (j:Int)<(p.l.length:Int):=by omega
        by_cases hr3:x < -1∨k≤x
        ·have hfin:Hid (aO (dP ps k)=3):=Lib.hid (by rw[hres3.out,hB.out,if_pos hr3];rfl)
         have hr3' : x < -1∨(¬x < -1∧k≤x):=by omega
         clear hr3
         rcases hr3' with g6|⟨g6,g7⟩
         all_goals
          go_wp2
          go_ret
          exact⟨aQ hfin.out.symm,hbr⟩
        ·have g6:¬x < -1:=by omega
         have g7:¬k≤x:=by omega
         have hB2:Hid (dG k seen p.l=if 0≤x∧x∈seen2 then 7 else dG k (seen2++[x]) (p.l.drop (j+1))):=Lib.hid (by rw[hB.out,if_neg hr3])
         clear hB hr3
         have hlook:=hM.look x (by omega)
         by_cases h7:0≤x∧x∈seen2
         ·have hfin:Hid (aO (dP ps k)=7):=Lib.hid (by rw[hres3.out,hB2.out,if_pos h7];rfl)
          rw[show kH seen2 x=true from decide_eq_true h7.2] at hlook
          have g8:0≤x:=h7.1
          clear h7
          go_wp2
          go_ret
          exact⟨aQ hfin.out.symm,hbr⟩
         ·have hB3:Hid (dG k seen p.l=dG k (seen++p.l.take (j+1)) (p.l.drop (j+1))):=Lib.hid (by rw[hB2.out,if_neg h7,htk2.out])
          have h7' : ¬0≤x∨(0≤x∧kH seen2 x=false):=by
           by_cases g8:0≤x
           ·exact .inr ⟨g8,decide_eq_false fun hh=>h7 ⟨g8,hh⟩⟩
           ·exact .inl g8
          clear h7 hB2
          rcases h7' with g8|⟨g8,g9⟩
          ·clear hlook
           go_wp2_with (refine mU hM (by omega) rfl _ _ _ rfl rfl x rfl rfl (by omega) ?_)
           intro w6 hM6 hgr6
           rw[uk,←htk2.out] at hM6
           have hbel6:=hbr.grown hgr6 hbr.size (fun k hk=>by cases hk;omega)
           have hx6:=hx.grown hgr6 (fun e=>by have:=Option.some.inj e;omega)
           have hrp6:=hM.rdv hrp'.out hgr6
           clear hbr hx hM hgr6 hcx hc
           go_wp2
           go_roundw
           case rel=>exact⟨j+1,m+1,by omega,by go_num,by omega,hbel6,hx6,hM6,(by rw[←hpa'.out];exact hrp6),hB3⟩
           case measure=>simp[intOf];omega
          ·rw[g9] at hlook
           go_wp2_with (refine mU hM (by omega) rfl _ _ _ rfl rfl x rfl rfl (by omega) ?_)
           intro w6 hM6 hgr6
           rw[uk,←htk2.out] at hM6
           have hbel6:=hbr.grown hgr6 hbr.size (fun k hk=>by cases hk;omega)
           have hx6:=hx.grown hgr6 (fun e=>by have:=Option.some.inj e;omega)
           have hrp6:=hM.rdv hrp'.out hgr6
           clear hbr hx hM hgr6 hcx hc
           go_wp2
           go_roundw
           case rel=>exact⟨j+1,m+1,by omega,by go_num,by omega,hbel6,hx6,hM6,(by rw[←hpa'.out];exact hrp6),hB3⟩
           case measure=>simp[intOf];omega
       ·have hfin:Hid (aO (dP ps k)=iH k (((ps.take (q+1)).map PF.fi).flatMap Fi.b) ((ps.drop (q+1)).map PF.fi)):=Lib.hid (by
         have e0:dG k seen p.l=0:=by rw[hB.out,List.drop_eq_nil_of_le (by omega)];rfl
         rw[hres3.out,if_neg (fun hh=>hh e0),htk'.out,List.map_append,List.flatMap_append,hseen'.out]
         simp[PF.fi])
        have hMq:iD wr gm m (kH (((ps.take (q+1)).map PF.fi).flatMap Fi.b)):=by
         rw[List.take_of_length_le (by omega)] at hM
         rw[htk'.out,List.map_append,List.flatMap_append,hseen'.out]
         simpa[PF.fi] using hM
        have hjl' : ¬(j:Int)<(p.l.length:Int):=by omega
        clear hM hB hres3
        go_wp2
        go_roundw
        case rel=>exact⟨q+1,m,by omega,by go_num,by omega,hbr,hx,hMq,hfin⟩
        case measure=>simp[intOf];omega
     ·have hfin:Hid (aO (dP ps k)=2):=Lib.hid (by rw[hres2.out,if_pos hcnt])
      have hcc:((p.l.length:Int) != bV p.n)=true:=by rw[bne_iff_ne];exact hcnt
      clear hres2 hcnt
      go_upto_region 9 with (fail)
      refine aF 7 [_,_,_,_,_,.v (.int .i64 (bV p.n)),_] (Gf wr.heap.size 1 rfl rfl (Gl hf2 (V:=.slice p.a p.l.length p.c) (by simp[f1,Try.underlying28]) rfl rfl rfl rfl (Gn rfl rfl rfl rfl (Gf wr.heap.size 0 rfl rfl (Gl hf2 (V:=.int .i64 p.n) (by simp[f0]) rfl rfl rfl rfl (all_cons ?_ (Gb (.bool true) (by simp[go_sem,hcc]) rfl rfl rfl rfl rfl (all_nil))))) (Try.underlying28)))) (fun _=>rfl) rfl ?_
      ·intro ρ y W hw hn hb hd;have E42:=hw 42 4 rfl;have h4:y 4=_:=hd 4 rfl
       have EF:∀f,ρ (.func f) = .func (.func f) #[] #[]:=fun f=>hn (.func f) trivial
       refine aP _ _ (ah rfl) (aN rfl (EF _) Try.func100 (by kernel_rfl) (by kernel_rfl) (by simp only[List.map_toArray,List.map_cons,List.map_nil,E42,h4,EF];rfl)) ?_
       refine (wC p.n W (by omega)).mono ?_
       rintro e w1 ⟨rfl,rfl⟩
       exact⟨_,rfl,Below.refl _ _,rfl⟩
      intro y WA hbWA _
      go_wp2
      go_ret
      exact⟨aQ hfin.out.symm,ag hbel2 hbWA⟩
   ·have hfin:Hid (aO (dP ps k)=0):=Lib.hid (by rw[hres.out,List.drop_eq_nil_of_le (by omega)];rfl)
    go_wp2
    go_ret
    exact⟨aQ hfin.out.symm,hbr⟩
theorem Be (l:List Int) (a:Option Addr) (c:Nat) (w:World) (hle:l.length≤c) (hnil:a=none→c=0) (hrd:bW w a (l.map eU)) (hb:l.length*8≤140737488355328) :
  Calls Try.prog 94 #[.slice a l.length c] w fun e w' => ∃v,e = .returned v∧Own w' w.heap.size 3 1 v l.length (l.map eU)∧Below w.heap.size w w':=by
 cases a with
 | none=>
  have h0:=hnil rfl
  have hl:l=[]:=List.eq_nil_of_length_eq_zero (by omega)
  subst hl
  subst h0
  have hq:=fun W=>Lib.run_eql_slice_nil (P:=Try.prog) W 28 _ none 0 0 0 0 Try.underlying28
  go_enter Try.func94,Try.ntmps94
  go_wp2
  go_ret
  exact⟨_,rfl,by simpa using Own.nil _ _ _ _,Below.refl _ _⟩
 | some ad=>
  have hq:=fun W=>Lib.run_eql_slice_nil (P:=Try.prog) W 28 _ (some ad) l.length c 0 0 Try.underlying28
  go_enter Try.func94,Try.ntmps94
  go_wp2_with (at_builtin;go_must (refine dJ rfl _ _ 28 rfl w.heap.size 3 (.int .i64 0) 1 8 Try.underlying28 int_info rfl (by decide) _ 0 [] rfl ?own (some ad) l.length c (l.map eU) rfl (fun h=>(by cases h)) hle (yL l) ?rd (yF l) (by unfold maxLen;omega) (by simpa using hb) ?bb ?k))
  case own=>exact⟨rfl,.inr ⟨w.heap.size,0,0,#[],rfl,Nat.le_refl _,aC.new _ _ _,Nat.le_refl _,Nat.zero_le _,by simp,fun j u h=>by simp at h⟩⟩
  case rd=>exact hrd.below ((Below.refl _ _).alloc (Nat.le_refl _) _)
  case bb=>exact dI _ _
  intro v w1 hown hgr
  go_wp2
  go_ret
  exact⟨v,rfl,by simpa using hown,((Below.refl _ _).alloc (Nat.le_refl _) _).grown hgr (dI _ _) (fun k hk=>by cases hk;exact Nat.le_refl _)⟩
theorem file_info:(Try.prog.info? 71).map (fun i=>(i.zero,i.size,i.bytes))=some (some (.agg #[.int .i64 0,.slice none 0 0]),2,32):=by kernel_rfl
theorem Hq (p:PF):∀u∈mZ p,u.oneCell' = true:=by
 intro u hu
 have:=ji p
 rw[←Array.all_toList,List.all_eq_true] at this
 exact this u hu
def kE (p:PF):Value:=.slice p.a p.l.length p.c
structure pV (w:World) (B:Nat) (v:Value) (ps:List PF):Prop where
 own:Own w B 71 2 v ps.length (ps.flatMap mZ)
 each:∀(i:Nat) p,ps[i]?=some p→Own w B 3 1 (kE p) p.l.length (p.l.map eU)
 apart:∀(i j:Nat) p q,i<j→ps[i]?=some p→ps[j]?=some q→Apart (kE p) (kE q)
theorem pV.rd {w:World} {B:Nat} {v:Value} {ps:List PF} (h:pV w B v ps):∃a c,v = .slice a ps.length c∧DJ w a c ps:=by
 obtain⟨a,c,rfl,h1,h2,h3,h4⟩:=h.own.rd
 refine⟨a,c,rfl,h1,h2,h3,h4,fun p hp => ?_⟩
 obtain⟨i,hi,rfl⟩:=List.mem_iff_getElem.1 hp
 obtain⟨a',c',e,k1,k2,k3,k4⟩:=(h.each i _ (List.getElem?_eq_getElem hi)).rd
 unfold kE at e
 simp only[Value.slice.injEq] at e
 obtain⟨rfl,_,rfl⟩:=e
 exact⟨k1,k2,k3,k4⟩
theorem pV.below {w w' : World} {B:Nat} {v:Value} {ps:List PF} (h:pV w B v ps) (hb:Below w.heap.size w w'):pV w' B v ps:=
 ⟨h.own.below hb,fun i p hp=>(h.each i p hp).below hb,h.apart⟩
theorem pV.mono {w:World} {B B' : Nat} {v:Value} {ps:List PF} (h:pV w B v ps) (hB:B'≤B):pV w B' v ps:=
 ⟨h.own.mono hB,fun i p hp=>(h.each i p hp).mono hB,h.apart⟩
theorem pV.keep {w w' : World} {B:Nat} {v:Value} {ps:List PF} (h:pV w B v ps) {g:Nat} {cs:Array Value} {T:TypeId} (hk:aC w g cs T) (h1:T≠71) (h2:T≠3) (hgr:w.grownBy w' (some g)):pV w' B v ps:=
 ⟨ak h.own hk h1 hgr,fun i p hp=>ak (h.each i p hp) hk h2 hgr,h.apart⟩
theorem pV.nil (w:World) (B:Nat):pV w B (.slice none 0 0) []:=⟨Own.nil _ _ _ _,fun i p h=>by simp at h,fun i j p q _ h=>by simp at h⟩
def Kb (ps:List PF):Prop:=ps.length*32≤140737488355328∧∀p∈ps,p.l.length*8≤140737488355328
theorem pV.app {w w' : World} {B:Nat} {v v' : Value} {ps:List PF} (h:pV w B v ps) {p:PF} (ho:Own w' B 71 2 v' (ps.length+1) (ps.flatMap mZ++mZ p)) (hp:Own w B 3 1 (kE p) p.l.length (p.l.map eU)) (hgr:w.grownBy w' v.ownBlock)
  (ha:∀(i:Nat) q,ps[i]?=some q→Apart (kE q) (kE p)):pV w' B v' (ps++[p]) where
 own:=by rw[List.length_append,List.flatMap_append];simpa using ho
 each:=fun i q hq=>by
  by_cases hi:i<ps.length
  ·rw[List.getElem?_append_left hi] at hq
   exact Ck (h.each i q hq) h.own (by decide) hgr
  ·rw[List.getElem?_append_right (by omega)] at hq
   have hi0:i-ps.length=0:=by
    rcases Nat.eq_zero_or_pos (i-ps.length) with e|e
    ·exact e
    ·rw[List.getElem?_eq_none (by simp;omega)] at hq;cases hq
   rw[hi0] at hq
   cases hq
   exact Ck hp h.own (by decide) hgr
 apart:=fun i j q r hij hq hr=>by
  have hi:i<ps.length:=by
   have:=(List.getElem?_eq_some_iff.1 hr).1
   simp at this
   omega
  rw[List.getElem?_append_left hi] at hq
  by_cases hj:j<ps.length
  ·rw[List.getElem?_append_left hj] at hr
   exact h.apart i j q r hij hq hr
  ·rw[List.getElem?_append_right (by omega)] at hr
   have hj0:j-ps.length=0:=by
    rcases Nat.eq_zero_or_pos (j-ps.length) with e|e
    ·exact e
    ·rw[List.getElem?_eq_none (by simp;omega)] at hr;cases hr
   rw[hj0] at hr
   cases hr
   exact ha i q hq
theorem slfile_size:(Try.prog.info? 34).map (·.size)=some 1:=by kernel_rfl
theorem yo (a:Option Addr) (n c:Nat) (k:Int):(#[Value.slice a n c,Value.int .i64 k]:Array Value).all (·.oneCell')=true:=by simp[Value.oneCell']
def Jr (B:Nat) (n:Int) (l:List Int):ig:=⟨fun v w => ∃u,v = .agg #[.int .i64 n,u]∧Own w B 3 1 u l.length (l.map eU),fun _ _ _ hb ⟨u,h1,h2⟩=>⟨u,h1,h2.below hb⟩⟩
def Kk (B:Nat) (n:Int) (l:List Int):ig:=⟨fun v w => ∃g p,v = .slice (some ⟨g,0,none⟩) 1 1∧p.n=n∧p.l=l∧bW w (some ⟨g,0,none⟩) (mZ p)∧Own w B 3 1 (kE p) p.l.length (p.l.map eU),by
 rintro v w w' hb ⟨g,p,h1,h2,h3,h4,h5⟩
 exact⟨g,p,h1,h2,h3,h4.below hb,h5.below hb⟩⟩
theorem Gw (ps:List PF) (k:Int) (a:Option Addr) (c:Nat) (w:World) (h:DJ w a c ps) (hz:Kb ps) :
  Calls Try.prog 57 #[.agg (GL a ps.length c k)] w fun r w' => ∃v ps',r = .returned (.agg #[v,.int .i64 k])∧pV w' w.heap.size v ps'∧ps'.map PF.fi=ps.map PF.fi∧Below w.heap.size w w':=by
 have hlc:=Nat.le_trans h.le h.mx
 unfold maxLen at hlc
 unfold GL
 go_enter Try.func57,Try.ntmps57
 go_upto_region 1 with (fail)
 refine pz (fun W=>Code.wp _ _ _ _ W) fun W0 hb0 hx0 hr0 hs0 => ?_
 clear hs0
 have hcx:=hx0.cell
 go_upto_region 2 with (refine aD rfl _ _ _ rfl #[.slice none 0 0,.int .i64 k] rfl rfl rfl store_size (yo none 0 0 k) ?_)
 clear hcx
 intro W1 hb1 ho1
 have hbel1:=ag hb0 hb1
 have hx1:=hx0.ext hb1
 have hr1:=hr0.ext hb1
 have hgo:w.heap.size+1<W0.heap.size:=hr0.lt
 obtain⟨go,hGO⟩:∃g,g=W0.heap.size:=⟨_,rfl⟩
 rw[←hGO] at ho1 hgo ⊢
 clear hGO hb0 hx0 hr0 hb1
 have hcx:=hx1.cell
 go_upto_region 3 with (fail)
 clear hcx
 go_loopw [12] (fun i wr => ∃(q:Nat) (v:Value) (qs:List PF),q≤ps.length∧i = .int .i64 q∧Below w.heap.size w wr∧aC wr (w.heap.size+1) #[.slice none 0 0,.int .i64 0] 36∧aC wr go #[v,.int .i64 k] 36∧pV wr w.heap.size v qs∧qs.map PF.fi=(ps.take q).map PF.fi) (fun i _=>ps.length-(intOf i).toNat)
 case atStart=>exact⟨0,_,[],Nat.zero_le _,rfl,hbel1,hr1,ho1,pV.nil _ _,rfl⟩
 case round=>
  clear hbel1 hx1 hr1 ho1
  obtain⟨q,v,qs,hq,rfl,hbr,hr,ho,hF,hqs0⟩:=hrel
  have hqs:=Lib.hid hqs0
  clear hqs0
  by_cases hlt:q<ps.length
  ·obtain⟨b,off,p,rfl,hp,c0,c1⟩:=vW (h.below hbr).rd q hlt
   have hgw:=h.good p (List.mem_of_getElem? hp)
   have hpz:=hz.2 p (List.mem_of_getElem? hp)
   have htk:=take_at hp
   have hqs2:Hid (qs.map PF.fi++[p.fi]=(ps.take (q+1)).map PF.fi):=Lib.hid (by rw[htk,List.map_append,hqs.out];rfl)
   have hql:qs.length≤q:=by
    have:=congrArg List.length hqs.out
    simp[Nat.min_eq_left hq] at this
    omega
   clear hp htk
   go_wp2_with (refine aD rfl _ _ _ rfl (jd p) rfl rfl rfl file_size (ji _) ?_)
   intro w2 hb2 hf2
   have hbel2:=ag hbr hb2
   have hr2:=hr.ext hb2
   have ho2:=ho.ext hb2
   have hF2:=hF.below hb2
   have hgo2:go<wr.heap.size:=ho.lt
   clear hbr hr ho hF hb2 c0 c1
   obtain⟨av,cv,rfl,hR2⟩:=hF2.rd
   have hlv:=hR2.le
   have hmv:=hR2.mx
   unfold maxLen at hmv
   have hsz1:=hz.1
   have hgA:=hgw.below hbel2
   go_upto_region 5 with (fail)
   refine zT 9 10 [] [ni (.pointer (some ⟨go,0,none⟩)),ni (.slice av qs.length cv),ni (.pointer (some ⟨wr.heap.size,0,none⟩)),ni (.int .i64 p.n),ni (.pointer (some ⟨wr.heap.size,1,none⟩)),ni (.slice p.a p.l.length p.c),(kU w2.heap.size 3 1 p.l.length (p.l.map eU)),(Jr w2.heap.size p.n p.l),(Kk w2.heap.size p.n p.l)] (by kernel_rfl) (by kernel_rfl) (by kernel_rfl) (by kernel_rfl) (by kernel_rfl) (by kernel_rfl) (by decide) (by decide) _ rfl (by kernel_rfl) (all_cons ?_ (all_cons ?_ (all_cons ?_ (all_cons ?_ (all_cons ?_ (all_cons ?_ (all_cons ?_ (all_cons ?_ (all_cons ?_ (all_nil)))))))))) (all_nil) rfl ?_
   ·refine aV rfl ?_
    intro ρ y W hw hn hb hd
    have E3:ρ (.tmp 3) = .pointer (some ⟨go,0,none⟩):=(hn (.tmp 3) rfl).trans rfl
    refine aj (.pointer (some ⟨go,0,none⟩)) (ah rfl) (by simp[execOp,go_sem,E3]) rfl
   ·refine aV rfl ?_
    intro ρ y W hw hn hb hd
    have E16:=hw 16 0 rfl
    have h0:y 0 = .pointer (some ⟨go,0,none⟩):=hd 0 rfl
    refine aj (.slice av qs.length cv) (ah rfl) (by simp[execOp,go_sem,E16,h0,(ho2.ext hb).cell,Try.underlying34]) rfl
   ·refine aV rfl ?_
    intro ρ y W hw hn hb hd
    have E5:ρ (.tmp 5) = .pointer (some ⟨wr.heap.size,0,none⟩):=(hn (.tmp 5) rfl).trans rfl
    refine aj (.pointer (some ⟨wr.heap.size,0,none⟩)) (ah rfl) (by simp[execOp,go_sem,E5]) rfl
   ·refine aV rfl ?_
    intro ρ y W hw hn hb hd
    have E18:=hw 18 2 rfl
    have h2:y 2 = .pointer (some ⟨wr.heap.size,0,none⟩):=hd 2 rfl
    refine aj (.int .i64 p.n) (ah rfl) (by simp[execOp,go_sem,E18,h2,(hf2.ext hb).cell,jd]) rfl
   ·refine aV rfl ?_
    intro ρ y W hw hn hb hd
    have E5:ρ (.tmp 5) = .pointer (some ⟨wr.heap.size,0,none⟩):=(hn (.tmp 5) rfl).trans rfl
    refine aj (.pointer (some ⟨wr.heap.size,1,none⟩)) (ah rfl) (by simp[execOp,go_sem,E5]) rfl
   ·refine aV rfl ?_
    intro ρ y W hw hn hb hd
    have E20:=hw 20 4 rfl
    have h4:y 4 = .pointer (some ⟨wr.heap.size,1,none⟩):=hd 4 rfl
    refine aj (.slice p.a p.l.length p.c) (ah rfl) (by simp[execOp,go_sem,E20,h4,(hf2.ext hb).cell,jd]) rfl
   ·refine aV rfl ?_
    intro ρ y W hw hn hb hd
    have E21:=hw 21 5 rfl
    have h5:y 5 = .slice p.a p.l.length p.c:=hd 5 rfl
    have EF:∀f,ρ (.func f) = .func (.func f) #[] #[]:=fun f=>hn (.func f) trivial
    refine aP _ _ (ah rfl) (aN rfl (EF _) Try.func94 (by kernel_rfl) (by kernel_rfl) (by simp only[List.map_toArray,List.map_cons,List.map_nil,E21,h5,EF];rfl)) ?_
    refine (Be p.l p.a p.c W hgw.le hgw.nl (hgA.below hb).rd hpz).mono ?_
    rintro e w1 ⟨u,rfl,ho,hb1⟩
    exact⟨u,rfl,hb1,ho.mono hb.size⟩
   ·refine aV rfl ?_
    intro ρ y W hw hn hb hd
    have E19:=hw 19 3 rfl
    have h3:y 3 = .int .i64 p.n:=hd 3 rfl
    have E22:=hw 22 6 rfl
    have h6:((kU w2.heap.size 3 1 p.l.length (p.l.map eU))).r (y 6) W:=hd 6 rfl
    obtain⟨x6,c6,e6,_⟩:=Own.rd h6
    refine aj (.agg #[.int .i64 p.n,y 6]) (ah rfl) (by simp[execOp,go_sem,E19,h3,E22,e6]) ?_
    exact⟨_,rfl,h6⟩
   ·refine aV rfl ?_
    intro ρ y W hw hn hb hd
    have E23:=hw 23 7 rfl
    have h7:((Jr w2.heap.size p.n p.l)).r (y 7) W:=hd 7 rfl
    obtain⟨u,e7,ho7⟩:=h7
    obtain⟨x7,c7,rfl,_⟩:=Own.rd ho7
    refine jb (.slice (some ⟨W.heap.size,0,none⟩) 1 1) (ah rfl) (by simp[execOp,go_sem,E23,e7,jd]) ((Below.refl _ _).alloc (Nat.le_refl _) (.cells (jd ⟨p.n,x7,p.l,c7⟩) 71)) ?_
    exact⟨_,⟨p.n,x7,p.l,c7⟩,rfl,rfl,rfl,bW.new _ _ _,ho7.alloc _⟩
   intro ρ y WA o ho hw hn hV hbWA hRWA
   cases ho
   have hy0:y 0 = .pointer (some ⟨go,0,none⟩):=hRWA 0 (by decide)
   have hy1:y 1 = .slice av qs.length cv:=hRWA 1 (by decide)
   have hy2:y 2 = .pointer (some ⟨wr.heap.size,0,none⟩):=hRWA 2 (by decide)
   have hy3:y 3 = .int .i64 p.n:=hRWA 3 (by decide)
   have hy4:y 4 = .pointer (some ⟨wr.heap.size,1,none⟩):=hRWA 4 (by decide)
   have hy5:y 5 = .slice p.a p.l.length p.c:=hRWA 5 (by decide)
   have hy6:((kU w2.heap.size 3 1 p.l.length (p.l.map eU))).r (y 6) WA:=hRWA 6 (by decide)
   have hy7:((Jr w2.heap.size p.n p.l)).r (y 7) WA:=hRWA 7 (by decide)
   have hy8:((Kk w2.heap.size p.n p.l)).r (y 8) WA:=hRWA 8 (by decide)
   have E17:=hw 17 1 rfl
   rw[hy1] at E17
   have E24:=hw 24 8 rfl
   have EC:∀v,ρ (.const v)=v:=fun v=>hn (.const v) trivial
   have EF:∀f,ρ (.func f) = .func (.func f) #[] #[]:=fun f=>hn (.func f) trivial
   obtain⟨g8,p8,e8,hn8,hl8,hrd8,hou8⟩:=hy8
   refine xH (ah rfl) (fH (.tmp 17) (.tmp 24) 34 rfl w.heap.size 71 _ 2 32 Try.underlying34 file_info rfl (by decide) _ _ _ E17 (hF2.own.below hbWA) _ 1 1 (mZ p8) (E24.trans e8) (fun e=>by cases e) (Nat.le_refl _) rfl hrd8 (Hq _) (by unfold maxLen;omega) (by omega) (Nat.le_trans hbel2.size hbWA.size)) ?_
   rintro v2 w4 ⟨hown4,hgr4,hcase4⟩
   clear hRWA hw hn hV
   simp only[lay,Nat.reduceAdd,Nat.reduceLT,Nat.reduceEqDiff,reduceIte,decide_true,decide_false,if_true,Bool.false_eq_true,if_false,List.setIfInBounds_toArray,List.set_cons_zero,List.set_cons_succ,List.drop_succ_cons,List.drop_zero,List.drop_nil,hy0,hy1,hy2,hy3,hy4,hy5]
   clear hy0 hy1 hy2 hy3 hy4 hy5
   have hbelA:=ag hbel2 hbWA
   have hrA:=hr2.ext hbWA
   have hoA:=ho2.ext hbWA
   have hFA:=hF2.below hbWA
   have hapn:∀(i:Nat) r,qs[i]?=some r→Apart (kE r) (kE p8):=by
    intro i r hi g hg hg8
    have h1:=tC (hF2.each i r hi) g hg
    have h2:=hou8.ge g hg8
    omega
   have hown4' : Own w4 w.heap.size 71 2 v2 (qs.length+1) (qs.flatMap mZ++mZ p8):=hown4
   have hF4:=hFA.app hown4' (hou8.mono hbel2.size) hgr4 hapn
   have hr4:=iO hrA hFA.own (by decide) hgr4
   have ho4:=iO hoA hFA.own (by decide) hgr4
   have hbel4:Below w.heap.size w w4:=hbelA.grown hgr4 hbelA.size (fun k hk=>hFA.own.ge k hk)
   have hqs3:Hid ((qs++[p8]).map PF.fi=(ps.take (q+1)).map PF.fi):=Lib.hid (by
    rw[List.map_append,←hqs2.out]
    congr 1
    simp[PF.fi,hn8,hl8])
   obtain⟨a4,c4,rfl,_⟩:=hF4.rd
   rw[List.length_append,List.length_singleton] at hF4 ⊢
   clear hbel2 hr2 ho2 hF2 hbWA hbelA hrA hoA hFA hown4 hown4' hgr4 hapn hou8 hrd8 hf2 hcase4
   go_wp2_with (refine aA rfl _ _ _ rfl go 0 _ [.slice a4 (qs.length+1) c4] rfl rfl rfl _ _ ho4 (show 0+1≤2 by decide) slfile_size (fun u hu=>by cases List.mem_singleton.1 hu;rfl) ?_)
   intro w5 ho5 hgr5
   have hr5:aC w5 (w.heap.size+1) _ _:=hr4.grown hgr5 (fun e=>by have:=Option.some.inj e;omega)
   have hF5:=hF4.keep ho4 (by decide) (by decide) hgr5
   have hbel5:=hbel4.grown hgr5 hbel4.size (fun k hk=>by cases hk;omega)
   have ho5' : aC w5 go #[.slice a4 (qs.length+1) c4,.int .i64 k] 36:=ho5
   clear ho4 hr4 hF4 hbel4 hgr5 ho5
   go_wp2
   go_roundw
   case rel=>exact⟨q+1,_,_,by omega,by go_num,hbel5,hr5,ho5',hF5,hqs3.out⟩
   case measure=>simp[intOf];omega
  ·obtain rfl:q=ps.length:=by omega
   have hfin:Hid (qs.map PF.fi=ps.map PF.fi):=Lib.hid (by rw[hqs.out,List.take_length])
   obtain⟨av,cv,rfl,_⟩:=hF.rd
   have hco:=ho.cell
   go_wp2_with (refine aB rfl _ _ _ rfl (w.heap.size+1) #[.slice av qs.length cv,.int .i64 k] rfl rfl _ _ hr rfl store_size (yo _ _ _ _) ?_)
   intro w5 hr5 hgr5
   have hF5:=hF.keep hr (by decide) (by decide) hgr5
   have hbel5:=hbr.grown hgr5 hbr.size (fun k hk=>by cases hk;omega)
   go_wp2
   refine bodyPost_ret (v:=.agg #[.slice av qs.length cv,.int .i64 k]) (bU Try.results57 _ _ (w.heap.size+1) _ _ _ rfl hr5 Try.underlying36 rfl store_size) rfl ?_
   exact⟨_,_,rfl,hF5,hfin.out,hbel5⟩
theorem Ey (n:Int) (w:World):Calls Try.prog 70 #[.int .i64 n] w fun r w'=>r = .returned (.tuple #[.agg #[.slice none 0 0,.int .i64 (Ie n)],.int .i64 (newE n)])∧Below w.heap.size w w':=by
 go_enter Try.func70,Try.ntmps70
 by_cases h:n<0∨80<n
 ·have e1:newE n=4:=if_pos h
  have e2:Ie n=0:=if_pos h
  rw[e1,e2]
  have h' : n<0∨(¬n<0∧80<n):=by omega
  clear h e1 e2
  rcases h' with g|⟨g,g2⟩
  all_goals
   go_wp2_with (refine aD rfl _ _ _ rfl #[.slice none 0 0,.int .i64 0] rfl rfl rfl store_size (yo none 0 0 0) ?_)
   intro w1 hb1 hr1
   go_wp2
   refine bodyPost_ret (v:=.tuple #[.agg #[.slice none 0 0,.int .i64 0],.int .i64 4]) (iX Try.results70 _ _ w.heap.size _ _ _ _ rfl rfl hr1 Try.underlying36 rfl store_size) rfl ?_
   exact⟨rfl,hb1⟩
 ·have e1:newE n=0:=if_neg h
  have e2:Ie n=n:=if_neg h
  rw[e1,e2]
  have g:¬n<0:=by omega
  have g2:¬80<n:=by omega
  clear h e1 e2
  go_wp2_with (refine aD rfl _ _ _ rfl #[.slice none 0 0,.int .i64 n] rfl rfl rfl store_size (yo none 0 0 n) ?_)
  intro w1 hb1 hr1
  go_wp2
  refine bodyPost_ret (v:=.tuple #[.agg #[.slice none 0 0,.int .i64 n],.int .i64 0]) (iX Try.results70 _ _ w.heap.size _ _ _ _ rfl rfl hr1 Try.underlying36 rfl store_size) rfl ?_
  exact⟨rfl,hb1⟩
def mQ (ps:List PF):List Int:=ps.flatMap PF.l
theorem sN (ps:List PF) (k:Int):je (dP ps k)=mQ ps:=by
 unfold je dP mQ
 rw[List.flatMap_map]
 rfl
theorem Aw {ps:List PF} {q:Nat} {p:PF} (hp:ps[q]?=some p):mQ (ps.take (q+1))=mQ (ps.take q)++p.l:=by
 unfold mQ
 rw[take_at hp,List.flatMap_append]
 simp
theorem nL (ps:List PF) (k x:Int) (a:Option Addr) (c:Nat) (w:World) (h:DJ w a c ps) :
  Calls Try.prog 30 #[.agg (GL a ps.length c k),.int .i64 x] w fun r w'=>r = .returned (.bool (iZ (dP ps k) x))∧Below w.heap.size w w':=by
 have hlc:=Nat.le_trans h.le h.mx
 unfold maxLen at hlc
 unfold GL
 go_enter Try.func30,Try.ntmps30
 go_upto_region 1 with (fail)
 refine eO (fun W=>Code.wp _ _ _ _ W) fun W0 hb0 hx0 hs0 => ?_
 clear hs0
 have hcx:=hx0.cell
 go_upto_region 2 with (fail)
 clear hcx hx0
 go_loopw [12] (fun i wr => ∃(q:Nat),q≤ps.length∧i = .int .i64 q∧¬x∈mQ (ps.take q)∧Below w.heap.size w wr) (fun i _=>ps.length-(intOf i).toNat)
 case atStart=>exact⟨0,Nat.zero_le _,rfl,by simp[mQ],hb0⟩
 case round=>
  clear hb0
  obtain⟨q,hq,rfl,hm0,hbr⟩:=hrel
  have hm:=Lib.hid hm0
  clear hm0
  by_cases hlt:q<ps.length
  ·obtain⟨b,off,p,rfl,hp,c0,c1⟩:=vW (h.below hbr).rd q hlt
   have hgw:=h.good p (List.mem_of_getElem? hp)
   have hst:=Lib.hid (Aw hp)
   have hin:Hid (∀y∈p.l,y∈mQ ps):=Lib.hid (fun y hy=>List.mem_flatMap.2 ⟨p,List.mem_of_getElem? hp,hy⟩)
   have hle:=Nat.le_trans hgw.le hgw.mx
   unfold maxLen at hle
   clear hp
   go_wp2_with (refine aD rfl _ _ _ rfl (jd p) rfl rfl rfl file_size (ji _) ?_)
   intro w2 hb2 hf2
   have hbel2:=ag hbr hb2
   have hcf:=hf2.cell
   have f0:(jd p)[0]?=some (.int .i64 p.n):=rfl
   have f1:(jd p)[1]?=some (.slice p.a p.l.length p.c):=rfl
   clear hbr hb2 c0 c1
   go_upto_region 5 with (fail)
   clear hcf f0 f1 hf2
   go_loopw [19] (fun i wr => ∃(j:Nat),j≤p.l.length∧i = .int .i64 j∧¬x∈p.l.take j∧Below w.heap.size w wr) (fun i _=>p.l.length-(intOf i).toNat)
   case atStart=>exact⟨0,Nat.zero_le _,rfl,by simp,hbel2⟩
   case round=>
    clear hbel2
    obtain⟨j,hj,rfl,hx0,hbr⟩:=hrel
    have hx:=Lib.hid hx0
    clear hx0
    by_cases hjl:j<p.l.length
    ·obtain⟨b2,off2,hpa,hc⟩:=jk (hgw.rd.below hbr) j hjl
     have htk:p.l.take (j+1)=p.l.take j++[p.l[j]]:=take_at (List.getElem?_eq_getElem hjl)
     have hyin:=Lib.hid (hin.out _ (List.getElem_mem hjl))
     have htk':=Lib.hid htk
     rw[hpa]
     clear htk hpa
     generalize p.l[j]=y at hc htk' hyin
     by_cases hy:y=x
     ·have hfin:Hid (iZ (dP ps k) x=true):=Lib.hid (by
       unfold iZ
       rw[sN,←hy]
       exact decide_eq_true hyin.out)
      subst hy
      go_wp2
      go_ret
      exact⟨bD hfin.out.symm,hbr⟩
     ·have hnx:Hid (¬x∈p.l.take (j+1)):=Lib.hid (by
       rw[htk'.out]
       intro hh
       rcases List.mem_append.1 hh with hh|hh
       ·exact hx.out hh
       ·exact hy (List.mem_singleton.1 hh).symm)
      have hyb:(y==x)=false:=beq_eq_false_iff_ne.2 hy
      clear hy
      go_wp2
      go_roundw
      case rel=>exact⟨j+1,by omega,by go_num,hnx.out,hbr⟩
      case measure=>simp[intOf];omega
    ·have hnx:Hid (¬x∈mQ (ps.take (q+1))):=Lib.hid (by
      have h9:=hx.out
      rw[List.take_of_length_le (by omega)] at h9
      rw[hst.out]
      intro hh
      rcases List.mem_append.1 hh with hh|hh
      ·exact hm.out hh
      ·exact h9 hh)
     go_wp2
     go_roundw
     case rel=>exact⟨q+1,by omega,by go_num,hnx.out,hbr⟩
     case measure=>simp[intOf];omega
  ·have hfin:Hid (iZ (dP ps k) x=false):=Lib.hid (by
    have h9:=hm.out
    rw[List.take_of_length_le (by omega)] at h9
    unfold iZ
    rw[sN]
    exact decide_eq_false h9)
   go_wp2
   go_ret
   exact⟨bD hfin.out.symm,hbr⟩
def iT (a:Ar):Array Value:=#[.int .i64 a.fr,.int .i64 a.en,.bool a.rd,.bool a.wr,.bool a.sh,.int .i64 a.fi,.int .i64 a.ba]
def gV (a:Ar):List Value:=(iT a).toList
theorem kM (a:Ar):(gV a).length=7:=rfl
theorem Iu (a:Ar):(iT a).all (·.oneCell')=true:=by simp[iT,Value.oneCell']
theorem area_size:(Try.prog.info? 69).map (·.size)=some 7:=by kernel_rfl
theorem area_info:(Try.prog.info? 69).map (fun i=>(i.zero,i.size,i.bytes))=some (some (.agg #[.int .i64 0,.int .i64 0,.bool false,.bool false,.bool false,.int .i64 0,.int .i64 0]),7,40):=by kernel_rfl
def vP (w:World) (b o:Nat) (a:Ar):Prop:=∀j u,(gV a)[j]?=some u→w.cell? ⟨b,o+j,none⟩=some u
theorem vP.below {w w' : World} {b o:Nat} {a:Ar} (h:vP w b o a) (hb:Below w.heap.size w w'):vP w' b o a:=fun j u hj=>cell_later hb (h j u hj)
theorem vP.cells {w:World} {b o:Nat} {a:Ar} (h:vP w b o a):w.cell? ⟨b,o,none⟩=some (.int .i64 a.fr)∧w.cell? ⟨b,o+1,none⟩=some (.int .i64 a.en)∧w.cell? ⟨b,o+2,none⟩=some (.bool a.rd)∧w.cell? ⟨b,o+3,none⟩=some (.bool a.wr) ∧
  w.cell? ⟨b,o+4,none⟩=some (.bool a.sh)∧w.cell? ⟨b,o+5,none⟩=some (.int .i64 a.fi)∧w.cell? ⟨b,o+6,none⟩=some (.int .i64 a.ba):=
 ⟨h 0 _ rfl,h 1 _ rfl,h 2 _ rfl,h 3 _ rfl,h 4 _ rfl,h 5 _ rfl,h 6 _ rfl⟩
theorem Ej (b o:Nat) (a:Ar) (w:World) (h:vP w b o a) :
  Calls Try.prog 114 #[.pointer (some ⟨b,o,none⟩)] w fun e w'=>e = .returned (.int .i64 (aH a))∧Below w.heap.size w w':=by
 obtain⟨h0,h1,h2,h3,h4,h5,h6⟩:=h.cells
 go_enter Try.func114,Try.ntmps114
 go_upto_region 1 with (fail)
 by_cases g1:a.fr<0
 ·have hz:Hid (aH a=3):=Lib.hid (by unfold aH;rw[if_pos (by omega)])
  go_quiet (fail)
  go_wp2
  go_ret
  exact⟨aQ hz.out.symm,below_drewN (Below.refl _ _) _⟩
 ·by_cases g2:a.en≤a.fr
  ·have hz:Hid (aH a=3):=Lib.hid (by unfold aH;rw[if_pos (by omega)])
   go_quiet (fail)
   go_wp2
   go_ret
   exact⟨aQ hz.out.symm,below_drewN (Below.refl _ _) _⟩
  ·by_cases g3:64<a.en
   ·have hz:Hid (aH a=3):=Lib.hid (by unfold aH;rw[if_pos (by omega)])
    go_quiet (fail)
    go_wp2
    go_ret
    exact⟨aQ hz.out.symm,below_drewN (Below.refl _ _) _⟩
   ·by_cases g4:a.fi < -1
    ·have hz:Hid (aH a=3):=Lib.hid (by unfold aH;rw[if_pos (by omega)])
     go_quiet (fail)
     go_wp2
     go_ret
     exact⟨aQ hz.out.symm,below_drewN (Below.refl _ _) _⟩
    ·by_cases g5:5≤a.fi
     ·have hz:Hid (aH a=3):=Lib.hid (by unfold aH;rw[if_pos (by omega)])
      go_quiet (fail)
      go_wp2
      go_ret
      exact⟨aQ hz.out.symm,below_drewN (Below.refl _ _) _⟩
     ·by_cases g6:a.ba<0
      ·have hz:Hid (aH a=3):=Lib.hid (by unfold aH;rw[if_pos (by omega)])
       go_quiet (fail)
       go_wp2
       go_ret
       exact⟨aQ hz.out.symm,below_drewN (Below.refl _ _) _⟩
      ·have hn1:¬(a.fr<0∨a.en≤a.fr∨64<a.en∨a.fi < -1∨5≤a.fi∨a.ba<0):=by omega
       have hw1:IntKind.i64.wrap (a.en-a.fr)=a.en-a.fr:=IntWalk.i64_in _ (by omega)
       have hw2:IntKind.i64.wrap (12-(a.en-a.fr))=12-(a.en-a.fr):=IntWalk.i64_in _ (by omega)
       go_quiet (fail)
       by_cases f1:a.fi<0
       ·by_cases f2:a.ba=0
        ·cases f3:a.sh
         ·have hz:Hid (aH a=0):=Lib.hid (by unfold aH;rw[if_neg hn1,if_neg (by rw[f3];simp;omega)])
          go_upto_region 4 with (fail)
          have d0:decide (0≤a.fi)=false:=decide_eq_false (by omega)
          go_quiet (fail)
          go_wp2
          go_ret
          exact⟨aQ hz.out.symm,below_drewN (Below.refl _ _) _⟩
         ·have hz:Hid (aH a=7):=Lib.hid (by unfold aH;rw[if_neg hn1,if_pos (.inl ⟨f1,.inr f3⟩)])
          go_wp2
          go_ret
          exact⟨aQ hz.out.symm,below_drewN (Below.refl _ _) _⟩
        ·have hz:Hid (aH a=7):=Lib.hid (by unfold aH;rw[if_neg hn1,if_pos (.inl ⟨f1,.inl f2⟩)])
         have f2' : (a.ba != 0)=true:=by simpa using f2
         go_wp2
         go_ret
         exact⟨aQ hz.out.symm,below_drewN (Below.refl _ _) _⟩
       ·have f1' : 0≤a.fi:=by omega
        by_cases f2:12-(a.en-a.fr)<a.ba
        ·have hz:Hid (aH a=7):=Lib.hid (by unfold aH;rw[if_neg hn1,if_pos (.inr ⟨f1',f2⟩)])
         go_upto_region 4 with (fail)
         have d0:decide (0≤a.fi)=true:=decide_eq_true (by omega)
         go_quiet (fail)
         go_wp2
         go_ret
         exact⟨aQ hz.out.symm,below_drewN (Below.refl _ _) _⟩
        ·have hz:Hid (aH a=0):=Lib.hid (by unfold aH;rw[if_neg hn1,if_neg (by omega)])
         go_upto_region 4 with (fail)
         have d0:decide (0≤a.fi)=true:=decide_eq_true (by omega)
         go_quiet (fail)
         go_wp2
         go_ret
         exact⟨aQ hz.out.symm,below_drewN (Below.refl _ _) _⟩
theorem wP (p q p' q' : Nat) (a b:Ar) (w:World) (h:vP w p q a) (h' : vP w p' q' b) (hs:sD a) :
  Calls Try.prog 115 #[.pointer (some ⟨p,q,none⟩),.pointer (some ⟨p',q',none⟩)] w fun e w'=>e = .returned (.bool (bv a b))∧Below w.heap.size w w':=by
 obtain⟨h0,h1,h2,h3,h4,h5,h6⟩:=h.cells
 obtain⟨k0,k1,k2,k3,k4,k5,k6⟩:=h'.cells
 obtain⟨s1,s2,s3⟩:=hs
 have hw1:IntKind.i64.wrap (a.ba+a.en)=a.ba+a.en:=IntWalk.i64_in _ (by omega)
 have hw2:IntKind.i64.wrap (a.ba+a.en-a.fr)=a.ba+a.en-a.fr:=IntWalk.i64_in _ (by omega)
 go_enter Try.func115,Try.ntmps115
 by_cases hf:0≤a.fi
 ·go_upto_region 3 with (fail)
  go_quiet (fail)
  go_upto_region 4 with (fail)
  cases g1:(a.en==b.fr)
  ·have hz:Hid (bv a b=false):=Lib.hid (by unfold bv fq;rw[if_pos hf];simp only[g1,Bool.true_and,Bool.false_and,Bool.and_false,Bool.and_true])
   go_quiet (fail)
   go_wp2
   go_ret
   exact⟨bD hz.out.symm,by first | exact below_drewN (Below.refl _ _) _ | exact below_drewN (below_drewN (Below.refl _ _) _) _⟩
  ·cases g2:(a.rd==b.rd)
   ·have hz:Hid (bv a b=false):=Lib.hid (by unfold bv fq;rw[if_pos hf];simp only[g1,g2,Bool.true_and,Bool.false_and,Bool.and_false,Bool.and_true])
    go_quiet (fail)
    go_wp2
    go_ret
    exact⟨bD hz.out.symm,by first | exact below_drewN (Below.refl _ _) _ | exact below_drewN (below_drewN (Below.refl _ _) _) _⟩
   ·cases g3:(a.wr==b.wr)
    ·have hz:Hid (bv a b=false):=Lib.hid (by unfold bv fq;rw[if_pos hf];simp only[g1,g2,g3,Bool.true_and,Bool.false_and,Bool.and_false,Bool.and_true])
     go_quiet (fail)
     go_wp2
     go_ret
     exact⟨bD hz.out.symm,by first | exact below_drewN (Below.refl _ _) _ | exact below_drewN (below_drewN (Below.refl _ _) _) _⟩
    ·cases g4:(a.sh==b.sh)
     ·have hz:Hid (bv a b=false):=Lib.hid (by unfold bv fq;rw[if_pos hf];simp only[g1,g2,g3,g4,Bool.true_and,Bool.false_and,Bool.and_false,Bool.and_true])
      go_quiet (fail)
      go_wp2
      go_ret
      exact⟨bD hz.out.symm,by first | exact below_drewN (Below.refl _ _) _ | exact below_drewN (below_drewN (Below.refl _ _) _) _⟩
     ·cases g5:(a.fi==b.fi)
      ·have hz:Hid (bv a b=false):=Lib.hid (by unfold bv fq;rw[if_pos hf];simp only[g1,g2,g3,g4,g5,Bool.true_and,Bool.false_and,Bool.and_false,Bool.and_true])
       go_quiet (fail)
       go_wp2
       go_ret
       exact⟨bD hz.out.symm,by first | exact below_drewN (Below.refl _ _) _ | exact below_drewN (below_drewN (Below.refl _ _) _) _⟩
      ·cases g6:(b.ba==(a.ba+a.en-a.fr))
       ·have hz:Hid (bv a b=false):=Lib.hid (by unfold bv fq;rw[if_pos hf];simp only[g1,g2,g3,g4,g5,g6,Bool.true_and,Bool.false_and,Bool.and_false,Bool.and_true])
        go_quiet (fail)
        go_wp2
        go_ret
        exact⟨bD hz.out.symm,by first | exact below_drewN (Below.refl _ _) _ | exact below_drewN (below_drewN (Below.refl _ _) _) _⟩
       ·have hz:Hid (bv a b=true):=Lib.hid (by unfold bv fq;rw[if_pos hf];simp only[g1,g2,g3,g4,g5,g6,Bool.true_and,Bool.false_and,Bool.and_false,Bool.and_true])
        go_quiet (fail)
        go_wp2
        go_ret
        exact⟨bD hz.out.symm,by first | exact below_drewN (Below.refl _ _) _ | exact below_drewN (below_drewN (Below.refl _ _) _) _⟩
 ·go_upto_region 4 with (fail)
  cases g1:(a.en==b.fr)
  ·have hz:Hid (bv a b=false):=Lib.hid (by unfold bv fq;rw[if_neg hf];simp only[g1,Bool.true_and,Bool.false_and,Bool.and_false,Bool.and_true])
   go_quiet (fail)
   go_wp2
   go_ret
   exact⟨bD hz.out.symm,by first | exact below_drewN (Below.refl _ _) _ | exact below_drewN (below_drewN (Below.refl _ _) _) _⟩
  ·cases g2:(a.rd==b.rd)
   ·have hz:Hid (bv a b=false):=Lib.hid (by unfold bv fq;rw[if_neg hf];simp only[g1,g2,Bool.true_and,Bool.false_and,Bool.and_false,Bool.and_true])
    go_quiet (fail)
    go_wp2
    go_ret
    exact⟨bD hz.out.symm,by first | exact below_drewN (Below.refl _ _) _ | exact below_drewN (below_drewN (Below.refl _ _) _) _⟩
   ·cases g3:(a.wr==b.wr)
    ·have hz:Hid (bv a b=false):=Lib.hid (by unfold bv fq;rw[if_neg hf];simp only[g1,g2,g3,Bool.true_and,Bool.false_and,Bool.and_false,Bool.and_true])
     go_quiet (fail)
     go_wp2
     go_ret
     exact⟨bD hz.out.symm,by first | exact below_drewN (Below.refl _ _) _ | exact below_drewN (below_drewN (Below.refl _ _) _) _⟩
    ·cases g4:(a.sh==b.sh)
     ·have hz:Hid (bv a b=false):=Lib.hid (by unfold bv fq;rw[if_neg hf];simp only[g1,g2,g3,g4,Bool.true_and,Bool.false_and,Bool.and_false,Bool.and_true])
      go_quiet (fail)
      go_wp2
      go_ret
      exact⟨bD hz.out.symm,by first | exact below_drewN (Below.refl _ _) _ | exact below_drewN (below_drewN (Below.refl _ _) _) _⟩
     ·cases g5:(a.fi==b.fi)
      ·have hz:Hid (bv a b=false):=Lib.hid (by unfold bv fq;rw[if_neg hf];simp only[g1,g2,g3,g4,g5,Bool.true_and,Bool.false_and,Bool.and_false,Bool.and_true])
       go_quiet (fail)
       go_wp2
       go_ret
       exact⟨bD hz.out.symm,by first | exact below_drewN (Below.refl _ _) _ | exact below_drewN (below_drewN (Below.refl _ _) _) _⟩
      ·cases g6:(b.ba==0)
       ·have hz:Hid (bv a b=false):=Lib.hid (by unfold bv fq;rw[if_neg hf];simp only[g1,g2,g3,g4,g5,g6,Bool.true_and,Bool.false_and,Bool.and_false,Bool.and_true])
        go_quiet (fail)
        go_wp2
        go_ret
        exact⟨bD hz.out.symm,by first | exact below_drewN (Below.refl _ _) _ | exact below_drewN (below_drewN (Below.refl _ _) _) _⟩
       ·have hz:Hid (bv a b=true):=Lib.hid (by unfold bv fq;rw[if_neg hf];simp only[g1,g2,g3,g4,g5,g6,Bool.true_and,Bool.false_and,Bool.and_false,Bool.and_true])
        go_quiet (fail)
        go_wp2
        go_ret
        exact⟨bD hz.out.symm,by first | exact below_drewN (Below.refl _ _) _ | exact below_drewN (below_drewN (Below.refl _ _) _) _⟩
theorem FV {w:World} {a:Option Addr} {l:List Ar} (h:bW w a (l.flatMap gV)) (k:Nat) (hk:k<l.length):∃b off,a=some ⟨b,off,none⟩∧vP w b (off+k*7) l[k]:=h.elem kM (by decide) k hk
theorem uT {w:World} {b off:Nat} {l:List Ar} (h:bW w (some ⟨b,off,none⟩) (l.flatMap gV)) (k:Nat) (hk:k<l.length):vP w b (off+k*7) l[k]:=by
 obtain⟨b',off',e,h1⟩:=FV h k hk
 cases e
 exact h1
def zD (e:Int × Int):Array Value:=#[.int .i64 e.1,.int .i64 e.2]
theorem fau_size:(Try.prog.info? 155).map (·.size)=some 2:=by kernel_rfl
theorem gZ (x y:Int):(#[Value.int .i64 x,Value.int .i64 y]:Array Value).all (·.oneCell')=true:=by simp[Value.oneCell']
theorem BB (l:List Ar) (a:Option Addr) (c:Nat) (w:World) (hrd:bW w a (l.flatMap gV)) (hl:l.length≤9223372036854775807) :
  Calls Try.prog 82 #[.slice a l.length c] w fun e w'=>e = .returned (.agg (zD (aR l)))∧Below w.heap.size w w':=by
 go_enter Try.func82,Try.ntmps82
 go_upto_region 1 with (fail)
 refine eO (fun W=>Code.wp _ _ _ _ W) fun W0 hbel hres hs0 => ?_
 clear hs0
 by_cases h16:16<l.length
 ·have h16' : (16:Int)<(l.length:Int):=by omega
  have hz:Hid (aR l=(4,0)):=Lib.hid (by unfold aR;rw[if_pos h16])
  go_wp2_with (refine aB rfl _ _ _ rfl w.heap.size #[.int .i64 (4),.int .i64 (0)] rfl rfl _ _ hres rfl fau_size (gZ _ _) ?_)
  intro w5 hr5 hgr5
  have hbel5:Below w.heap.size w w5:=hbel.grown hgr5 hbel.size (fun k hk=>by cases hk;exact Nat.le_refl _)
  go_wp2
  refine bodyPost_ret (v:=.agg #[.int .i64 (4),.int .i64 (0)]) (bU Try.results82 _ _ w.heap.size _ _ _ rfl hr5 Try.underlying155 rfl fau_size) rfl ?_
  exact⟨by rw[hz.out];rfl,hbel5⟩
 ·have h16' : ¬(16:Int)<(l.length:Int):=by omega
  have h0:Hid (aR l=eQ (jA l 0) 0 (l.drop 0)):=Lib.hid (by unfold aR;rw[if_neg h16];rfl)
  go_upto_region 4 with (fail)
  go_loopw [11] (fun i wr => ∃k:Nat,k≤l.length∧i = .int .i64 k∧Below w.heap.size w wr∧aC wr w.heap.size #[.int .i64 0,.int .i64 0] 155∧(∀i (h:i<l.length),i<k→aH l[i]=0)∧Hid (aR l=eQ (jA l k) k (l.drop k))) (fun i _=>l.length-(intOf i).toNat)
  case atStart=>exact⟨0,Nat.zero_le _,rfl,hbel,hres,fun i _ h=>absurd h (Nat.not_lt_zero _),h0⟩
  case round=>
   clear hbel hres h0
   obtain⟨k,hk,rfl,hbel,hres,hp0,hst⟩:=hrel
   have hp:=Lib.hid hp0
   clear hp0
   by_cases hlt:k<l.length
   ·obtain⟨b,off,rfl,hA⟩:=FV (hrd.below hbel) k hlt
    have hki:(k:Int)<(l.length:Int):=by omega
    go_wp2_with fail
    refine (Ej b (off+k*7) l[k] _ hA).mono ?_
    rintro r w2 ⟨rfl,hb2⟩
    have hbel2:=ag hbel hb2
    have hres2:=hres.ext hb2
    clear hbel hres hb2 hA
    by_cases he:aH l[k]=0
    ·have he':=Lib.hid he
     rw[he]
     clear he
     go_upto_region 9 with (fail)
     by_cases hk0:k=0
     ·subst hk0
      have hd0:decide ((0:Int)<((0:Nat):Int))=false:=rfl
      have hnx:Hid (aR l=eQ (jA l (0+1)) (0+1) (l.drop (0+1))):=Lib.hid (by rw[hst.out];exact lY hlt he'.out rfl)
      go_quiet (fail)
      go_wp2
      go_roundw
      case rel=>exact⟨0+1,by omega,by go_num,below_drewN hbel2 _,hres2.drewN _,jv hp.out hlt he'.out,hnx⟩
      case measure=>simp[intOf];omega
     ·obtain⟨m,rfl⟩:∃m,k=m+1:=⟨k-1,by omega⟩
      have hd0:decide ((0:Int)<((m+1:Nat):Int))=true:=decide_eq_true (by omega)
      have hm1:IntKind.i64.wrap (((m+1:Nat):Int)-1)=(m:Int):=by rw[IntWalk.i64_in _ (by omega)];omega
      have hml:m<l.length:=by omega
      have hm2:IntKind.i64.wrap (m:Int)=(m:Int):=IntWalk.i64_in _ (by omega)
      have hg1:(0:Int)≤(m:Int)+1:=by omega
      have hg2:(m:Int)+1<(l.length:Int):=by omega
      have hg3:((m:Int)+1).toNat=m+1:=by omega
      have hbp:=Lib.hid (zL hlt)
      have hfm:=(aS (hp.out m hml (by omega))).1
      have hf1:=(aS he'.out).1
      have hRd:=hrd.below hbel2
      have hPk:=uT hRd (m+1) hlt
      have hPm:=uT hRd m hml
      generalize hA1:l[m+1]=A1 at *
      generalize hA0:l[m]=A0 at *
      by_cases hov:A1.fr<A0.en
      ·have hz:Hid (aR l=(2,((m+1:Nat):Int))):=Lib.hid (by rw[hst.out];exact lX hlt (by rw[hA1];exact he'.out) (by rw[hA1,hbp.out,decide_eq_true hov];rfl))
       refine aF 26 [_,_,_,_,_,_,.v (.pointer (some ⟨b,off+m*7,none⟩)),_,.v (.int .i64 A0.en),_,_,.v (.pointer (some ⟨b,off+(m+1)*7,none⟩)),_,.v (.int .i64 A1.fr),_,_,_,_,_,_,_,_,_,_,_,.v (.bool true)] (Gk rfl (Gb (.bool true) (by simp[go_sem]) rfl rfl rfl rfl rfl (Gk rfl (Gk rfl (Gk rfl (Gb (.int .i64 (m:Int)) (by simp[go_sem,hm1,hm2]) rfl rfl rfl rfl rfl (all_cons ?_ (Gf b (off+m*7+1) rfl rfl (all_cons ?_ (Gk rfl (Gk rfl (all_cons ?_ (Gf b (off+(m+1)*7) rfl rfl (all_cons ?_ (Gb (.bool true) (by simp[go_sem,hov]) rfl rfl rfl rfl rfl (Gk rfl (Gk rfl (Gk rfl (Gk rfl (Gk rfl (Gk rfl (Gk rfl (Gk rfl (Gk rfl (Gk rfl (Gk rfl (all_nil))))))))))))))))))))))))))) (fun _=>rfl) rfl ?_
       ·intro ρ y W hw hn hb hd;have E26:=hw 26 3 rfl;have h3:y 3=_:=hd 3 rfl;have E28:=hw 28 5 rfl;have h5:y 5=_:=hd 5 rfl
        refine aj (.pointer (some ⟨b,off+m*7,none⟩)) (aL 2 25 true true rfl rfl ((hw 25 2 rfl).trans (hd 2 rfl))) (by simp[execOp,go_sem,E26,h3,E28,h5,hml]) rfl
       ·intro ρ y W hw hn hb hd;have E30:=hw 30 7 rfl;have h7:y 7=_:=hd 7 rfl
        have hc0:=(hPm.below hb).cells.2.1
        refine aj (.int .i64 A0.en) (aL 2 25 true true rfl rfl ((hw 25 2 rfl).trans (hd 2 rfl))) (by simp[execOp,go_sem,E30,h7,hc0]) rfl
       ·intro ρ y W hw hn hb hd;have E32:=hw 32 9 rfl;have h9:y 9=_:=hd 9 rfl;have E33:=hw 33 10 rfl;have h10:y 10=_:=hd 10 rfl
        refine aj (.pointer (some ⟨b,off+(m+1)*7,none⟩)) (aL 2 25 true true rfl rfl ((hw 25 2 rfl).trans (hd 2 rfl))) (by simp[execOp,go_sem,E32,h9,E33,h10,hlt,hg1,hg2,hg3]) rfl
       ·intro ρ y W hw hn hb hd;have E35:=hw 35 12 rfl;have h12:y 12=_:=hd 12 rfl
        have hc0:=(hPk.below hb).cells.1
        refine aj (.int .i64 A1.fr) (aL 2 25 true true rfl rfl ((hw 25 2 rfl).trans (hd 2 rfl))) (by simp[execOp,go_sem,E35,h12,hc0]) rfl
       intro y WA hbWA _
       have hbel:=ag hbel2 hbWA
       have hres:=hres2.ext hbWA
       clear hbel2 hres2
       go_wp2_with (refine aB rfl _ _ _ rfl w.heap.size #[.int .i64 (2),.int .i64 (((m+1:Nat):Int))] rfl rfl _ _ hres rfl fau_size (gZ _ _) ?_)
       intro w5 hr5 hgr5
       have hbel5:Below w.heap.size w w5:=hbel.grown hgr5 hbel.size (fun k hk=>by cases hk;exact Nat.le_refl _)
       go_wp2
       refine bodyPost_ret (v:=.agg #[.int .i64 (2),.int .i64 (((m+1:Nat):Int))]) (bU Try.results82 _ _ w.heap.size _ _ _ rfl hr5 Try.underlying155 rfl fau_size) rfl ?_
       exact⟨by rw[hz.out];rfl,hbel5⟩
      ·cases hj:bv A0 A1
       ·have hnx:Hid (aR l=eQ (jA l (m+1+1)) (m+1+1) (l.drop (m+1+1))):=Lib.hid (by rw[hst.out];exact lY hlt (by rw[hA1];exact he'.out) (by rw[hA1,hbp.out,decide_eq_false hov,hj];rfl))
        refine aF 26 [_,_,_,_,_,_,.v (.pointer (some ⟨b,off+m*7,none⟩)),_,.v (.int .i64 A0.en),_,_,.v (.pointer (some ⟨b,off+(m+1)*7,none⟩)),_,.v (.int .i64 A1.fr),_,_,_,_,_,.v (.pointer (some ⟨b,off+m*7,none⟩)),_,_,.v (.pointer (some ⟨b,off+(m+1)*7,none⟩)),.v (.bool false),_,.v (.bool false)] (Gk rfl (Gb (.bool true) (by simp[go_sem]) rfl rfl rfl rfl rfl (Gk rfl (Gk rfl (Gk rfl (Gb (.int .i64 (m:Int)) (by simp[go_sem,hm1,hm2]) rfl rfl rfl rfl rfl (all_cons ?_ (Gf b (off+m*7+1) rfl rfl (all_cons ?_ (Gk rfl (Gk rfl (all_cons ?_ (Gf b (off+(m+1)*7) rfl rfl (all_cons ?_ (Gb (.bool false) (by simp[go_sem,hov]) rfl rfl rfl rfl rfl (Gk rfl (Gk rfl (Gk rfl (Gb (.int .i64 (m:Int)) (by simp[go_sem,hm1,hm2]) rfl rfl rfl rfl rfl (all_cons ?_ (Gk rfl (Gk rfl (all_cons ?_ (all_cons ?_ (Gk rfl (Gk rfl (all_nil))))))))))))))))))))))))))) (fun _=>rfl) rfl ?_
        ·intro ρ y W hw hn hb hd;have E26:=hw 26 3 rfl;have h3:y 3=_:=hd 3 rfl;have E28:=hw 28 5 rfl;have h5:y 5=_:=hd 5 rfl
         refine aj (.pointer (some ⟨b,off+m*7,none⟩)) (aL 2 25 true true rfl rfl ((hw 25 2 rfl).trans (hd 2 rfl))) (by simp[execOp,go_sem,E26,h3,E28,h5,hml]) rfl
        ·intro ρ y W hw hn hb hd;have E30:=hw 30 7 rfl;have h7:y 7=_:=hd 7 rfl
         have hc0:=(hPm.below hb).cells.2.1
         refine aj (.int .i64 A0.en) (aL 2 25 true true rfl rfl ((hw 25 2 rfl).trans (hd 2 rfl))) (by simp[execOp,go_sem,E30,h7,hc0]) rfl
        ·intro ρ y W hw hn hb hd;have E32:=hw 32 9 rfl;have h9:y 9=_:=hd 9 rfl;have E33:=hw 33 10 rfl;have h10:y 10=_:=hd 10 rfl
         refine aj (.pointer (some ⟨b,off+(m+1)*7,none⟩)) (aL 2 25 true true rfl rfl ((hw 25 2 rfl).trans (hd 2 rfl))) (by simp[execOp,go_sem,E32,h9,E33,h10,hlt,hg1,hg2,hg3]) rfl
        ·intro ρ y W hw hn hb hd;have E35:=hw 35 12 rfl;have h12:y 12=_:=hd 12 rfl
         have hc0:=(hPk.below hb).cells.1
         refine aj (.int .i64 A1.fr) (aL 2 25 true true rfl rfl ((hw 25 2 rfl).trans (hd 2 rfl))) (by simp[execOp,go_sem,E35,h12,hc0]) rfl
        ·intro ρ y W hw hn hb hd;have E39:=hw 39 16 rfl;have h16:y 16=_:=hd 16 rfl;have E41:=hw 41 18 rfl;have h18:y 18=_:=hd 18 rfl
         refine aj (.pointer (some ⟨b,off+m*7,none⟩)) (aL 15 38 false false rfl rfl ((hw 38 15 rfl).trans (hd 15 rfl))) (by simp[execOp,go_sem,E39,h16,E41,h18,hml]) rfl
        ·intro ρ y W hw hn hb hd;have E43:=hw 43 20 rfl;have h20:y 20=_:=hd 20 rfl;have E44:=hw 44 21 rfl;have h21:y 21=_:=hd 21 rfl
         refine aj (.pointer (some ⟨b,off+(m+1)*7,none⟩)) (aL 15 38 false false rfl rfl ((hw 38 15 rfl).trans (hd 15 rfl))) (by simp[execOp,go_sem,E43,h20,E44,h21,hlt,hg1,hg2,hg3]) rfl
        ·intro ρ y W hw hn hb hd;have E42:=hw 42 19 rfl;have h19:y 19=_:=hd 19 rfl;have E45:=hw 45 22 rfl;have h22:y 22=_:=hd 22 rfl
         have EF:∀f,ρ (.func f) = .func (.func f) #[] #[]:=fun f=>hn (.func f) trivial
         refine aP _ _ (aL 15 38 false false rfl rfl ((hw 38 15 rfl).trans (hd 15 rfl))) (aN rfl (EF _) Try.func115 (by kernel_rfl) (by kernel_rfl) (by simp only[List.map_toArray,List.map_cons,List.map_nil,E42,h19,E45,h22,EF];rfl)) ?_
         refine (wP b (off+m*7) b (off+(m+1)*7) A0 A1 W (hPm.below hb) (hPk.below hb) hfm).mono ?_
         rintro r w1 ⟨rfl,hb1⟩
         rw[hj]
         exact⟨_,rfl,hb1,rfl⟩
        intro y WA hbWA _
        have hbel:=ag hbel2 hbWA
        have hres:=hres2.ext hbWA
        have hup:Hid (∀i (h:i<l.length),i<m+1+1→aH l[i]=0):=Lib.hid (jv hp.out hlt (by rw[hA1];exact he'.out))
        clear hbel2 hres2 hg1 hg2 hg3 hm1 hm2
        go_wp2
        go_roundw
        case rel=>exact⟨m+1+1,by omega,by go_num,hbel,hres,hup.out,hnx⟩
        case measure=>simp[intOf];omega
       ·have hz:Hid (aR l=(2,((m+1:Nat):Int))):=Lib.hid (by rw[hst.out];exact lX hlt (by rw[hA1];exact he'.out) (by rw[hA1,hbp.out,hj,Bool.or_true]))
        refine aF 26 [_,_,_,_,_,_,.v (.pointer (some ⟨b,off+m*7,none⟩)),_,.v (.int .i64 A0.en),_,_,.v (.pointer (some ⟨b,off+(m+1)*7,none⟩)),_,.v (.int .i64 A1.fr),_,_,_,_,_,.v (.pointer (some ⟨b,off+m*7,none⟩)),_,_,.v (.pointer (some ⟨b,off+(m+1)*7,none⟩)),.v (.bool true),_,.v (.bool true)] (Gk rfl (Gb (.bool true) (by simp[go_sem]) rfl rfl rfl rfl rfl (Gk rfl (Gk rfl (Gk rfl (Gb (.int .i64 (m:Int)) (by simp[go_sem,hm1,hm2]) rfl rfl rfl rfl rfl (all_cons ?_ (Gf b (off+m*7+1) rfl rfl (all_cons ?_ (Gk rfl (Gk rfl (all_cons ?_ (Gf b (off+(m+1)*7) rfl rfl (all_cons ?_ (Gb (.bool false) (by simp[go_sem,hov]) rfl rfl rfl rfl rfl (Gk rfl (Gk rfl (Gk rfl (Gb (.int .i64 (m:Int)) (by simp[go_sem,hm1,hm2]) rfl rfl rfl rfl rfl (all_cons ?_ (Gk rfl (Gk rfl (all_cons ?_ (all_cons ?_ (Gk rfl (Gk rfl (all_nil))))))))))))))))))))))))))) (fun _=>rfl) rfl ?_
        ·intro ρ y W hw hn hb hd;have E26:=hw 26 3 rfl;have h3:y 3=_:=hd 3 rfl;have E28:=hw 28 5 rfl;have h5:y 5=_:=hd 5 rfl
         refine aj (.pointer (some ⟨b,off+m*7,none⟩)) (aL 2 25 true true rfl rfl ((hw 25 2 rfl).trans (hd 2 rfl))) (by simp[execOp,go_sem,E26,h3,E28,h5,hml]) rfl
        ·intro ρ y W hw hn hb hd;have E30:=hw 30 7 rfl;have h7:y 7=_:=hd 7 rfl
         have hc0:=(hPm.below hb).cells.2.1
         refine aj (.int .i64 A0.en) (aL 2 25 true true rfl rfl ((hw 25 2 rfl).trans (hd 2 rfl))) (by simp[execOp,go_sem,E30,h7,hc0]) rfl
        ·intro ρ y W hw hn hb hd;have E32:=hw 32 9 rfl;have h9:y 9=_:=hd 9 rfl;have E33:=hw 33 10 rfl;have h10:y 10=_:=hd 10 rfl
         refine aj (.pointer (some ⟨b,off+(m+1)*7,none⟩)) (aL 2 25 true true rfl rfl ((hw 25 2 rfl).trans (hd 2 rfl))) (by simp[execOp,go_sem,E32,h9,E33,h10,hlt,hg1,hg2,hg3]) rfl
        ·intro ρ y W hw hn hb hd;have E35:=hw 35 12 rfl;have h12:y 12=_:=hd 12 rfl
         have hc0:=(hPk.below hb).cells.1
         refine aj (.int .i64 A1.fr) (aL 2 25 true true rfl rfl ((hw 25 2 rfl).trans (hd 2 rfl))) (by simp[execOp,go_sem,E35,h12,hc0]) rfl
        ·intro ρ y W hw hn hb hd;have E39:=hw 39 16 rfl;have h16:y 16=_:=hd 16 rfl;have E41:=hw 41 18 rfl;have h18:y 18=_:=hd 18 rfl
         refine aj (.pointer (some ⟨b,off+m*7,none⟩)) (aL 15 38 false false rfl rfl ((hw 38 15 rfl).trans (hd 15 rfl))) (by simp[execOp,go_sem,E39,h16,E41,h18,hml]) rfl
        ·intro ρ y W hw hn hb hd;have E43:=hw 43 20 rfl;have h20:y 20=_:=hd 20 rfl;have E44:=hw 44 21 rfl;have h21:y 21=_:=hd 21 rfl
         refine aj (.pointer (some ⟨b,off+(m+1)*7,none⟩)) (aL 15 38 false false rfl rfl ((hw 38 15 rfl).trans (hd 15 rfl))) (by simp[execOp,go_sem,E43,h20,E44,h21,hlt,hg1,hg2,hg3]) rfl
        ·intro ρ y W hw hn hb hd;have E42:=hw 42 19 rfl;have h19:y 19=_:=hd 19 rfl;have E45:=hw 45 22 rfl;have h22:y 22=_:=hd 22 rfl
         have EF:∀f,ρ (.func f) = .func (.func f) #[] #[]:=fun f=>hn (.func f) trivial
         refine aP _ _ (aL 15 38 false false rfl rfl ((hw 38 15 rfl).trans (hd 15 rfl))) (aN rfl (EF _) Try.func115 (by kernel_rfl) (by kernel_rfl) (by simp only[List.map_toArray,List.map_cons,List.map_nil,E42,h19,E45,h22,EF];rfl)) ?_
         refine (wP b (off+m*7) b (off+(m+1)*7) A0 A1 W (hPm.below hb) (hPk.below hb) hfm).mono ?_
         rintro r w1 ⟨rfl,hb1⟩
         rw[hj]
         exact⟨_,rfl,hb1,rfl⟩
        intro y WA hbWA _
        have hbel:=ag hbel2 hbWA
        have hres:=hres2.ext hbWA
        clear hbel2 hres2
        go_wp2_with (refine aB rfl _ _ _ rfl w.heap.size #[.int .i64 (2),.int .i64 (((m+1:Nat):Int))] rfl rfl _ _ hres rfl fau_size (gZ _ _) ?_)
        intro w5 hr5 hgr5
        have hbel5:Below w.heap.size w w5:=hbel.grown hgr5 hbel.size (fun k hk=>by cases hk;exact Nat.le_refl _)
        go_wp2
        refine bodyPost_ret (v:=.agg #[.int .i64 (2),.int .i64 (((m+1:Nat):Int))]) (bU Try.results82 _ _ w.heap.size _ _ _ rfl hr5 Try.underlying155 rfl fau_size) rfl ?_
        exact⟨by rw[hz.out];rfl,hbel5⟩
    ·have hz:Hid (aR l=(aH l[k],(k:Int))):=Lib.hid (by rw[hst.out];exact wm hlt he)
     have he' : (aH l[k] != 0)=true:=by simpa using he
     have hbel:=hbel2
     have hres:=hres2
     clear he hbel2 hres2
     go_wp2_with (refine aB rfl _ _ _ rfl w.heap.size #[.int .i64 (aH l[k]),.int .i64 (k)] rfl rfl _ _ hres rfl fau_size (gZ _ _) ?_)
     intro w5 hr5 hgr5
     have hbel5:Below w.heap.size w w5:=hbel.grown hgr5 hbel.size (fun k hk=>by cases hk;exact Nat.le_refl _)
     go_wp2
     refine bodyPost_ret (v:=.agg #[.int .i64 (aH l[k]),.int .i64 (k)]) (bU Try.results82 _ _ w.heap.size _ _ _ rfl hr5 Try.underlying155 rfl fau_size) rfl ?_
     exact⟨by rw[hz.out];rfl,hbel5⟩
   ·have hz:Hid (aR l=(0,0)):=Lib.hid (by rw[hst.out,List.drop_eq_nil_of_le (by omega)];rfl)
    go_wp2_with (refine aB rfl _ _ _ rfl w.heap.size #[.int .i64 (0),.int .i64 (0)] rfl rfl _ _ hres rfl fau_size (gZ _ _) ?_)
    intro w5 hr5 hgr5
    have hbel5:Below w.heap.size w w5:=hbel.grown hgr5 hbel.size (fun k hk=>by cases hk;exact Nat.le_refl _)
    go_wp2
    refine bodyPost_ret (v:=.agg #[.int .i64 (0),.int .i64 (0)]) (bU Try.results82 _ _ w.heap.size _ _ _ rfl hr5 Try.underlying155 rfl fau_size) rfl ?_
    exact⟨by rw[hz.out];rfl,hbel5⟩
theorem Aj {w:World} {a:Option Addr} {l:List Ar} (h:bW w a (l.flatMap gV)) (k:Nat) (hk:k<l.length):∃b off,a=some ⟨b,off,none⟩∧w.cell? ⟨b,off+k*7,none⟩=some (.int .i64 l[k].fr)∧w.cell? ⟨b,off+k*7+1,none⟩=some (.int .i64 l[k].en)∧w.cell? ⟨b,off+k*7+2,none⟩=some (.bool l[k].rd)∧w.cell? ⟨b,off+k*7+3,none⟩=some (.bool l[k].wr) ∧
  w.cell? ⟨b,off+k*7+4,none⟩=some (.bool l[k].sh)∧w.cell? ⟨b,off+k*7+5,none⟩=some (.int .i64 l[k].fi)∧w.cell? ⟨b,off+k*7+6,none⟩=some (.int .i64 l[k].ba):=by
 obtain⟨b,off,e,h1⟩:=FV h k hk
 exact⟨b,off,e,h1.cells⟩
theorem Dh (a:Ar) (g:Nat) (n:Int) (w:World) (hg:aC w g #[.int .i64 n] 3) :
  Calls Try.prog 99 #[.agg #[.int .i64 a.fr,.int .i64 a.en,.bool a.rd,.bool a.wr,.bool a.sh,.int .i64 a.fi,.int .i64 a.ba],.pointer (some ⟨g,0,none⟩)] w fun r w'=>r = .returned (.bool (iV n a))∧Below w.heap.size w w':=by
 go_enter Try.func99,Try.ntmps99
 go_upto_region 1 with (fail)
 refine eO (fun W=>Code.wp _ _ _ _ W) fun W0 hb0 hx0 hs0 => ?_
 clear hs0
 have hgx:=(hg.ext hb0).cell 0
 have hcx:=hx0.cell
 by_cases h1:a.fr≤n
 ·by_cases h2:n<a.en
  ·have hz:=Lib.hid (show iV n a=true by unfold iV;rw[decide_eq_true h1,decide_eq_true h2];rfl)
   go_wp2
   go_ret
   exact⟨bD hz.out.symm,hb0⟩
  ·have hz:=Lib.hid (show iV n a=false by unfold iV;rw[decide_eq_false h2,Bool.and_false])
   go_wp2
   go_ret
   exact⟨bD hz.out.symm,hb0⟩
 ·have hz:=Lib.hid (show iV n a=false by unfold iV;rw[decide_eq_false h1,Bool.false_and])
  go_wp2
  go_ret
  exact⟨bD hz.out.symm,hb0⟩
theorem zl (l:List Ar) (a:Option Addr) (c:Nat) (w:World) (hrd:bW w a (l.flatMap gV)) (hl:l.length≤9223372036854775807) (g:Nat) (n:Int) (hg:aC w g #[.int .i64 n] 3) :
  Calls Try.prog 98 #[.slice a l.length c,.func (.func 99) #[] #[.pointer (some ⟨g,0,none⟩)]] w fun e w'=>e = .returned (.int .i64 (idx (iV n) l))∧Below w.heap.size w w':=by
 go_enter Try.func98,Try.ntmps98
 go_wp2
 go_loopw [8] (fun i wr => ∃k:Nat,k≤l.length∧i = .int .i64 k∧Below w.heap.size w wr∧∀i (h:i<l.length),i<k→(iV n) l[i]=false) (fun i _=>l.length-(intOf i).toNat)
 case atStart=>exact⟨0,Nat.zero_le _,rfl,Below.refl _ _,fun i _ h=>absurd h (Nat.not_lt_zero _)⟩
 case round=>
  obtain⟨k,hk,rfl,hbr,hp0⟩:=hrel
  have hp:=Lib.hid hp0
  clear hp0
  by_cases hlt:k<l.length
  ·obtain⟨b,off,rfl,c0,c1,c2,c3,c4,c5,c6⟩:=Aj (hrd.below hbr) k hlt
   go_wp2_with fail
   refine (Dh l[k] g n _ (hg.ext hbr)).mono ?_
   rintro e w2 ⟨rfl,hb2⟩
   have hbel2:=ag hbr hb2
   clear hb2
   cases hpk:(iV n) l[k]
   ·have hpk':=Lib.hid hpk
    clear hpk
    go_wp2
    go_roundw
    case rel=>exact⟨k+1,by omega,by go_num,hbel2,jv hp.out hlt hpk'.out⟩
    case measure=>simp[intOf];omega
   ·have hfin:=Lib.hid (xK (iV n) l k hlt hp.out hpk)
    clear hpk
    go_wp2
    go_ret
    exact⟨aQ hfin.out.symm,hbel2⟩
  ·have hfin:=Lib.hid (mW (iV n) l fun i h=>hp.out i h (by omega))
   go_wp2
   go_ret
   exact⟨aQ hfin.out.symm,hbr⟩
theorem wN (l:List Ar) (n:Int) (a:Option Addr) (c:Nat) (w:World) (hrd:bW w a (l.flatMap gV)) (hl:l.length≤9223372036854775807) :
  Calls Try.prog 63 #[.slice a l.length c,.int .i64 n] w fun r w'=>r = .returned (.int .i64 (fD l n))∧Below w.heap.size w w':=by
 go_enter Try.func63,Try.ntmps63
 go_upto_region 1 with (fail)
 refine eO (fun W=>Code.wp _ _ _ _ W) fun W0 hb0 hx0 hs0 => ?_
 clear hs0
 go_wp2_with fail
 refine (zl l a c _ (hrd.below hb0) hl w.heap.size n hx0).mono ?_
 rintro r w1 ⟨rfl,hb1⟩
 go_wp2
 go_ret
 exact⟨rfl,ag hb0 hb1⟩
theorem CK (l:List Ar):(l.flatMap gV).length=l.length*7:=Pw.flat_len gV 7 kM l
theorem He (a:Ar):∀u∈gV a,u.oneCell' = true:=by
 intro u hu
 simp only[gV,iT,List.mem_cons,List.not_mem_nil,or_false] at hu
 rcases hu with rfl|rfl|rfl|rfl|rfl|rfl|rfl<;>rfl
theorem jQ (l:List Ar):∀u∈l.flatMap gV,u.oneCell' = true:=by
 intro u hu
 obtain⟨a,_,h⟩:=List.mem_flatMap.1 hu
 exact He a u h
theorem yw (l:List Ar) (a:Option Addr) (c:Nat) (w:World) (hle:l.length≤c) (hnil:a=none→c=0) (hrd:bW w a (l.flatMap gV)) (hb:l.length*40≤140737488355328) :
  Calls Try.prog 59 #[.slice a l.length c] w fun e w' => ∃v,e = .returned v∧Own w' w.heap.size 69 7 v l.length (l.flatMap gV)∧Below w.heap.size w w':=by
 cases a with
 | none=>
  have h0:=hnil rfl
  have hl:l=[]:=List.eq_nil_of_length_eq_zero (by omega)
  subst hl
  subst h0
  have hq:=fun W=>Lib.run_eql_slice_nil (P:=Try.prog) W 60 _ none 0 0 0 0 Try.underlying60
  go_enter Try.func59,Try.ntmps59
  go_wp2
  go_ret
  exact⟨_,rfl,by simpa using Own.nil _ _ _ _,Below.refl _ _⟩
 | some ad=>
  have hq:=fun W=>Lib.run_eql_slice_nil (P:=Try.prog) W 60 _ (some ad) l.length c 0 0 Try.underlying60
  go_enter Try.func59,Try.ntmps59
  go_wp2_with (at_builtin;go_must (refine dJ rfl _ _ 60 rfl w.heap.size 69 (.agg #[.int .i64 0,.int .i64 0,.bool false,.bool false,.bool false,.int .i64 0,.int .i64 0]) 7 40 Try.underlying60 area_info rfl (by decide) _ 0 [] rfl ?own (some ad) l.length c (l.flatMap gV) rfl (fun h=>(by cases h)) hle (CK l) ?rd (jQ l) (by unfold maxLen;omega) (by simpa using hb) ?bb ?k))
  case own=>exact⟨rfl,.inr ⟨w.heap.size,0,0,#[],rfl,Nat.le_refl _,aC.new _ _ _,Nat.le_refl _,Nat.zero_le _,by simp,fun j u h=>by simp at h⟩⟩
  case rd=>exact hrd.below ((Below.refl _ _).alloc (Nat.le_refl _) _)
  case bb=>exact dI _ _
  intro v w1 hown hgr
  go_wp2
  go_ret
  exact⟨v,rfl,by simpa using hown,((Below.refl _ _).alloc (Nat.le_refl _) _).grown hgr (dI _ _) (fun k hk=>by cases hk;exact Nat.le_refl _)⟩
structure JL (w:World) (a:Option Addr) (c:Nat) (l:List Ar):Prop where
 le:l.length≤c
 mx:c≤maxLen
 nl:a=none→c=0
 rd:bW w a (l.flatMap gV)
theorem JL.below {w w' : World} {a:Option Addr} {c:Nat} {l:List Ar} (h:JL w a c l) (hb:Below w.heap.size w w'):JL w' a c l:=⟨h.le,h.mx,h.nl,h.rd.below hb⟩
def KL (x:Ar):ig:=⟨fun v w => ∃g,v = .slice (some ⟨g,0,none⟩) 1 1∧aC w g (iT x) 69,fun _ _ _ hb ⟨g,h1,h2⟩=>⟨g,h1,h2.ext hb⟩⟩
theorem own_not {w:World} {B g:Nat} {v:Value} {l:List Ar} {x:Ar} (h:Own w B 69 7 v l.length (l.flatMap gV)) (hg:aC w g (iT x) 69) (hx:¬x∈l) (h0:0<l.length):∀b,v.ownBlock=some b→g≠b:=by
 rintro b hb rfl
 rcases h with ⟨hlen,⟨rfl,_⟩|⟨b',off,cap,cur,rfl,hB,hk,hc,hm,hs,ht⟩⟩
 ·cases hb
 ·cases hb
  unfold aC at hk hg
  rw[hk] at hg
  simp only[Option.some.injEq,Obj.cells.injEq,and_true] at hg
  subst hg
  have h7:(iT x).size=7:=rfl
  have ho:off=0:=by omega
  subst ho
  match l,h0 with
  | y::r,_=>
   have hc:∀(j:Nat) (u:Value),(gV y)[j]?=some u→(iT x)[j]?=some u:=by
    intro j u hj
    have:=ht j u (by rw[List.flatMap_cons,List.getElem?_append_left (by have:=(List.getElem?_eq_some_iff.1 hj).1;exact this)];exact hj)
    rwa [Nat.zero_add] at this
   have e0:=hc 0 _ rfl
   have e1:=hc 1 _ rfl
   have e2:=hc 2 _ rfl
   have e3:=hc 3 _ rfl
   have e4:=hc 4 _ rfl
   have e5:=hc 5 _ rfl
   have e6:=hc 6 _ rfl
   simp[iT] at e0 e1 e2 e3 e4 e5 e6
   refine hx (List.mem_cons.2 (.inl ?_))
   cases x
   cases y
   simp_all
theorem nu {P:Program} {t e:TypeId} {n:Nat} {d:TypeDesc} (ht:P.underlying t=some (.array n e)) (he:P.underlying e=some d) (hd:aggB d=true) {sz:Nat} (hs:(P.info? e).map (·.size)=some sz)
  (cs:Array Value) (k:Nat) (vs:Array Value) (hk:k<n) (hv:cs.extract (k*sz) (k*sz+sz)=vs) (kk:IntKind) (w:World):(Instr.index t (.agg cs) (.int kk k)).run P w = .ok (.agg vs) w:=by
 have hsz:∀w,(Go.sizeOf e).run P w = .ok sz w:=by
  intro w
  cases hq:P.info? e with
  | none=>simp[hq] at hs
  | some i=>
   have hz:i.size=sz:=by simpa[hq] using hs
   simp[Go.sizeOf,typeInfo,run_program,hq,hz]
 have ha:∀w,(isAgg e).run P w = .ok true w:=by
  intro w
  unfold isAgg
  simp[run_underlying he]
  cases d<;>simp_all[aggB]
 simp[Instr.index,part,asIntOf,run_underlying ht,hsz,hk,ha,go_sem,hv]
theorem zU (l:List Int) (a:Option Addr) (c:Nat) (w:World) (hle:l.length≤c) (hnil:a=none→c=0) (hrd:bW w a (l.map eU)) (hb:l.length*8≤140737488355328) :
  Calls Try.prog 55 #[.slice a l.length c] w fun e w' => ∃v,e = .returned v∧Own w' w.heap.size 3 1 v l.length (l.map eU)∧Below w.heap.size w w':=by
 cases a with
 | none=>
  have h0:=hnil rfl
  have hl:l=[]:=List.eq_nil_of_length_eq_zero (by omega)
  subst hl
  subst h0
  have hq:=fun W=>Lib.run_eql_slice_nil (P:=Try.prog) W 29 _ none 0 0 0 0 Try.underlying29
  go_enter Try.func55,Try.ntmps55
  go_wp2
  go_ret
  exact⟨_,rfl,by simpa using Own.nil _ _ _ _,Below.refl _ _⟩
 | some ad=>
  have hq:=fun W=>Lib.run_eql_slice_nil (P:=Try.prog) W 29 _ (some ad) l.length c 0 0 Try.underlying29
  go_enter Try.func55,Try.ntmps55
  go_wp2_with (at_builtin;go_must (refine dJ rfl _ _ 29 rfl w.heap.size 3 (.int .i64 0) 1 8 Try.underlying29 int_info rfl (by decide) _ 0 [] rfl ?own (some ad) l.length c (l.map eU) rfl (fun h=>(by cases h)) hle (yL l) ?rd (yF l) (by unfold maxLen;omega) (by simpa using hb) ?bb ?k))
  case own=>exact⟨rfl,.inr ⟨w.heap.size,0,0,#[],rfl,Nat.le_refl _,aC.new _ _ _,Nat.le_refl _,Nat.zero_le _,by simp,fun j u h=>by simp at h⟩⟩
  case rd=>exact hrd.below ((Below.refl _ _).alloc (Nat.le_refl _) _)
  case bb=>exact dI _ _
  intro v w1 hown hgr
  go_wp2
  go_ret
  exact⟨v,rfl,by simpa using hown,((Below.refl _ _).alloc (Nat.le_refl _) _).grown hgr (dI _ _) (fun k hk=>by cases hk;exact Nat.le_refl _)⟩
theorem IC (n:Int) (w:World):Calls Try.prog 111 #[.int .i64 n] w fun e w'=>e = .returned (.bool (kF n))∧w' = w:=by
 unfold kF
 go_enter Try.func111,Try.ntmps111
 go_wp2
 all_goals
  go_ret
  refine⟨bD ?_,rfl⟩
  simp[*]
theorem GG (l:List Int) (a:Option Addr) (c:Nat) (w:World) (hrd:bW w a (l.map eU)) (hl:l.length≤9223372036854775807) :
  Calls Try.prog 122 #[.slice a l.length c,.func (.func 111) #[] #[]] w fun e w'=>e = .returned (.int .i64 (idx kF l))∧w' = w:=by
 go_enter Try.func122,Try.ntmps122
 go_wp2
 go_loopw [8] (fun i wr => ∃k:Nat,k≤l.length∧i = .int .i64 k∧wr=w∧∀i (h:i<l.length),i<k→kF l[i]=false) (fun i _=>l.length-(intOf i).toNat)
 case atStart=>exact⟨0,Nat.zero_le _,rfl,rfl,fun i _ h=>absurd h (Nat.not_lt_zero _)⟩
 case round=>
  obtain⟨k,hk,rfl,rfl,hp⟩:=hrel
  by_cases hlt:k<l.length
  ·obtain⟨b,off,rfl,hc⟩:=jk hrd k hlt
   go_wp2_with fail
   refine (IC l[k] _).mono ?_
   rintro e w1 ⟨rfl,rfl⟩
   cases hbk:kF l[k] with
   | true=>
    go_wp2
    go_ret
    exact⟨aQ (xK kF l k hlt hp hbk).symm,rfl⟩
   | false=>
    go_wp2
    go_roundw
    case rel=>exact⟨k+1,by omega,by go_num,trivial,upto hp hlt hbk⟩
    case measure=>simp[intOf];omega
  ·go_wp2
   go_ret
   exact⟨aQ (mW kF l fun i h=>hp i h (by omega)).symm,rfl⟩
theorem uA (l:List Int) (a:Option Addr) (c:Nat) (w:World) (hrd:bW w a (l.map eU)) (hl:l.length≤9223372036854775807) :
  Calls Try.prog 110 #[.slice a l.length c,.func (.func 111) #[] #[]] w fun e w'=>e = .returned (.bool (l.any kF))∧w' = w:=by
 rw[←kT]
 go_enter Try.func110,Try.ntmps110
 go_wp2_with fail
 refine (GG l a c _ hrd hl).mono ?_
 rintro e w1 ⟨rfl,rfl⟩
 go_wp2
 go_ret
 exact⟨rfl,rfl⟩
theorem zk (l:List Int) (a:Option Addr) (c:Nat) (w:World) (hrd:bW w a (l.map eU)) (hl:l.length≤9223372036854775807) :
  Calls Try.prog 78 #[.slice a l.length c] w fun e w'=>e = .returned (.int .i64 (dU l))∧w' = w:=by
 unfold dU
 go_enter Try.func78,Try.ntmps78
 by_cases h:60<l.length
 ·have h1:(60:Int)<(l.length:Int):=by omega
  go_wp2
  go_ret
  exact⟨by simp[h],rfl⟩
 ·have h1:¬(60:Int)<(l.length:Int):=by omega
  go_wp2_with fail
  refine (uA l a c _ hrd hl).mono ?_
  rintro e w1 ⟨rfl,rfl⟩
  cases hb:l.any kF <;>
  ·go_wp2
   go_ret
   exact⟨by simp[h],rfl⟩
theorem yJ (l:List Int) (a:Option Addr) (c:Nat) (w:World) (hrd:bW w a (l.map eU)) (hl:l.length≤9223372036854775807) :
  Calls Try.prog 86 #[.slice a l.length c] w fun e w'=>e = .returned (.int .i64 (dU l))∧w' = w:=by
 unfold dU
 go_enter Try.func86,Try.ntmps86
 by_cases h:60<l.length
 ·have h1:(60:Int)<(l.length:Int):=by omega
  go_wp2
  go_ret
  exact⟨by simp[h],rfl⟩
 ·have h1:¬(60:Int)<(l.length:Int):=by omega
  rw[if_neg h]
  go_wp2
  go_loopw [10] (fun i wr => ∃k:Nat,k≤l.length∧i = .int .i64 k∧wr=w∧∀i (h:i<l.length),i<k→kF l[i]=false) (fun i _=>l.length-(intOf i).toNat)
  case atStart=>exact⟨0,Nat.zero_le _,rfl,rfl,fun i _ h=>absurd h (Nat.not_lt_zero _)⟩
  case round=>
   obtain⟨k,hk,rfl,rfl,hp⟩:=hrel
   by_cases hlt:k<l.length
   ·obtain⟨b,off,rfl,hc⟩:=jk hrd k hlt
    by_cases hn:l[k]<0∨1000<l[k]
    ·have hbk:kF l[k]=true:=by simpa[kF] using hn
     have ha:l.any kF=true:=List.any_eq_true.2 ⟨_,List.getElem_mem hlt,hbk⟩
     rcases hn with hn|hn <;>
     ·go_wp2
      all_goals
       go_ret
       exact⟨by simp[ha],rfl⟩
    ·have hbk:kF l[k]=false:=by simp[kF];omega
     have n1:¬l[k]<0:=by omega
     have n2:¬(1000<l[k]):=by omega
     go_wp2
     go_roundw
     case rel=>exact⟨k+1,by omega,by go_num,trivial,upto hp hlt hbk⟩
     case measure=>simp[intOf];omega
   ·have ha:l.any kF=false:=by
     rw[←kT,mW kF l fun i h=>hp i h (by omega)];rfl
    go_wp2
    all_goals
     go_ret
     exact⟨by simp[ha],rfl⟩
theorem one_cell_int:∀x:Int,([eU x]:List Value).length=1:=fun _=>rfl
theorem Dk (n:Int) (w:World) :
  Calls Try.prog 68 #[.int .i64 n] w fun e w' => ∃v,e = .returned (.tuple #[v,.int .i64 (xP n)])∧Own w' w.heap.size 3 1 v (yH n).length ((yH n).map eU)∧Below w.heap.size w w':=by
 unfold xP yH
 by_cases h:0≤n∧n≤60
 ·obtain⟨m,rfl⟩:=Int.eq_ofNat_of_zero_le h.1
  have h1:(m:Int)≤60:=h.2
  rw[if_pos h,if_pos h]
  go_enter Try.func68,Try.ntmps68
  go_wp2_with (with_reducible refine nW _ rfl (.tmp 10) (.tmp 10) 29 rfl (fun x=>[eU x]) 3 (.int .i64 0) 1 8 0 one_cell_int (by decide) Try.underlying29 int_info rfl .i64 .i64 m m m rfl rfl rfl rfl (by omega) (by unfold maxLen;omega) ?k)
  intro w' ho hgr
  rw[ku] at ho
  go_wp2
  go_ret2
  exact⟨_,rfl,by simpa using ho,(Below.refl _ _).grown hgr (Nat.le_refl _) (fun k hk=>by cases hk)⟩
 ·rw[if_neg h,if_neg h]
  go_enter Try.func68,Try.ntmps68
  by_cases h0:n<0
  ·go_wp2
   go_ret2
   exact⟨_,rfl,Own.nil _ _ _ _,Below.refl _ _⟩
  ·have h1:60<n:=by omega
   go_wp2
   go_ret2
   exact⟨_,rfl,Own.nil _ _ _ _,Below.refl _ _⟩
structure PS where
 lv:Bool
 aa:Option Addr
 ac:Nat
 ar:List Ar
 ts:Vector Value 8
 tb:Tb
def PS.sp (p:PS):Sp:=⟨p.lv,p.ar,p.tb⟩
def jG (v:Vector Value 8):Array Value:=#[v[0],v[1],v[2],v[3],v[4],v[5],v[6],v[7]]
theorem EK (v:Vector Value 8):(jG v).size=8:=rfl
theorem IY {cs:Array Value} (h:cs.size=8):∃v:Vector Value 8,cs=jG v:=by
 refine⟨⟨cs,h⟩,?_⟩
 apply Array.ext
 ·rw[h,EK]
 intro i h1 h2
 have hi:i<8:=by omega
 match i,hi with
 | 0,_=>rfl
 | 1,_=>rfl
 | 2,_=>rfl
 | 3,_=>rfl
 | 4,_=>rfl
 | 5,_=>rfl
 | 6,_=>rfl
 | 7,_=>rfl
 | n+8,h=>omega
def lu (p:PS):Array Value:=#[.bool p.lv,.slice p.aa p.ar.length p.ac,p.ts[0],p.ts[1],p.ts[2],p.ts[3],p.ts[4],p.ts[5],p.ts[6],p.ts[7]]
def lS (p:PS):List Value:=(lu p).toList
theorem nN (p:PS):(lS p).length=10:=rfl
theorem lU (c:Cc):(qN c).all (·.oneCell')=true:=by simp[qN,Value.oneCell']
theorem space_size:(Try.prog.info? 65).map (·.size)=some 10:=by kernel_rfl
theorem space_info:(Try.prog.info? 65).map (fun i=>(i.zero,i.size,i.bytes))=some (some (.agg #[.bool false,.slice none 0 0,.slice none 0 0,.slice none 0 0,.slice none 0 0,.slice none 0 0,.slice none 0 0,.slice none 0 0,.slice none 0 0,.slice none 0 0]),10,224):=by kernel_rfl
theorem cached_size:(Try.prog.info? 85).map (·.size)=some 3:=by kernel_rfl
theorem cached_info:(Try.prog.info? 85).map (fun i=>(i.zero,i.size,i.bytes))=some (some (.agg #[.int .i64 0,.int .i64 0,.int .i64 0]),3,24):=by kernel_rfl
theorem machine_size:(Try.prog.info? 40).map (·.size)=some 11:=by kernel_rfl
structure PS.good (w:World) (p:PS):Prop where
 ars:JL w p.aa p.ac p.ar
 tb:yj w (jG p.ts) p.tb
theorem PS.good.below {w w' : World} {p:PS} (h:p.good w) (hb:Below w.heap.size w w'):p.good w':=⟨h.ars.below hb,h.tb.below hb⟩
theorem PS.good.one {w:World} {p:PS} (h:p.good w):∀u∈lS p,u.oneCell' = true:=by
 have h1:∀u∈(jG p.ts).toList,u.oneCell' = true:=by
  have:=h.tb.one
  rw[←Array.all_toList,List.all_eq_true] at this
  exact this
 intro u hu
 simp only[lS,lu,List.mem_cons,List.not_mem_nil,or_false] at hu
 simp only[jG,List.mem_cons,List.not_mem_nil,or_false] at h1
 rcases hu with rfl|rfl|hu
 ·rfl
 ·rfl
 ·exact h1 u hu
structure kD (w:World) (a:Option Addr) (c n:Nat) (vs:List Value):Prop where
 le:n≤c
 mx:c≤maxLen
 nl:a=none→c=0
 rd:bW w a vs
theorem kD.below {w w' : World} {a:Option Addr} {c n:Nat} {vs:List Value} (h:kD w a c n vs) (hb:Below w.heap.size w w'):kD w' a c n vs:={ h with rd:=h.rd.below hb }
theorem kD.of {w:World} {B:Nat} {e:TypeId} {sz:Nat} {v:Value} {n:Nat} {xs:List Value} (h:Own w B e sz v n xs):∃a c,v = .slice a n c∧kD w a c n xs:=by
 obtain⟨a,c,rfl,h1,h2,h3,h4⟩:=h.rd
 exact⟨a,c,rfl,h1,h2,h3,h4⟩
structure MH where
 af:Option Addr
 cf:Nat
 m:Mem
 asl:Option Addr
 csl:Nat
 sl:List Int
 wb:Option Addr
 cwb:Nat
 wq:Option Addr
 cwq:Nat
 sw:qm
 db:Option Addr
 cdb:Nat
 dq:Option Addr
 cdq:Nat
 dk:qm
 ai:Option Addr
 ci:Nat
 fi:List PF
 ct:Int
 ac:Option Addr
 cc:Nat
 ca:List Cc
 ap:Option Addr
 cp:Nat
 sp:List PS
def MH.ma (H:MH):Ma:=⟨H.m,H.sl,H.sw,H.dk,dP H.fi H.ct,H.ca,H.sp.map PS.sp⟩
def bP (H:MH):Array Value:=#[.slice H.af H.m.fs.length H.cf,.int .i64 H.m.hand,.slice H.asl H.sl.length H.csl,.slice H.wb H.sw.blocks.length H.cwb,.slice H.wq H.sw.queue.length H.cwq,
 .slice H.db H.dk.blocks.length H.cdb,.slice H.dq H.dk.queue.length H.cdq,.slice H.ai H.fi.length H.ci,.int .i64 H.ct,.slice H.ac H.ca.length H.cc,.slice H.ap H.sp.length H.cp]
theorem jN (H:MH):(bP H).all (·.oneCell')=true:=by simp[bP,Value.oneCell']
structure sV (w:World) (H:MH):Prop where
 fr:JF w H.af H.cf H.m
 sl:kD w H.asl H.csl H.sl.length (H.sl.map eU)
 sw:FX w H.wb H.cwb H.wq H.cwq H.sw
 dk:FX w H.db H.cdb H.dq H.cdq H.dk
 st:DJ w H.ai H.ci H.fi
 ca:kD w H.ac H.cc H.ca.length (H.ca.flatMap jI)
 sp:kD w H.ap H.cp H.sp.length (H.sp.flatMap lS)
 ps:∀p∈H.sp,p.good w
 c64 : -9223372036854775808≤H.ct∧H.ct≤9223372036854775807
theorem sV.below {w w' : World} {H:MH} (h:sV w H) (hb:Below w.heap.size w w'):sV w' H:=
 ⟨h.fr.below hb,h.sl.below hb,h.sw.below hb,h.dk.below hb,h.st.below hb,h.ca.below hb,h.sp.below hb,fun p hp=>(h.ps p hp).below hb,h.c64⟩
theorem jY {w:World} {a:Option Addr} {ps:List PS} (h:bW w a (ps.flatMap lS)) (k:Nat) (hk:k<ps.length):∃b off p,a=some ⟨b,off,none⟩∧ps[k]?=some p∧bW w (some ⟨b,off+k*10,none⟩) (lS p):=by
 obtain⟨b,off,ha,hc⟩:=h.elem nN (by decide) k hk
 refine⟨b,off,ps[k],ha,List.getElem?_eq_getElem hk,fun j u hj=>⟨b,off+k*10,rfl,hc j u hj⟩⟩
theorem jm {w:World} {H:MH} (h:sV w H) {k:Nat} {p:PS} (hp:H.sp[k]?=some p):p.good w:=h.ps p (List.mem_of_getElem? hp)
theorem JV {w:World} {a:Option Addr} {l:List Cc} (h:bW w a (l.flatMap jI)) (k:Nat) (hk:k<l.length):∃b off c,a=some ⟨b,off,none⟩∧l[k]?=some c∧w.cell? ⟨b,off+k*3,none⟩=some (.int .i64 c.f)∧w.cell? ⟨b,off+k*3+1,none⟩=some (.int .i64 c.i)∧w.cell? ⟨b,off+k*3+2,none⟩=some (.int .i64 c.k):=by
 obtain⟨b,off,ha,hc⟩:=h.elem jg (by decide) k hk
 exact⟨b,off,l[k],ha,List.getElem?_eq_getElem hk,hc 0 _ rfl,hc 1 _ rfl,hc 2 _ rfl⟩
structure JN (m:Ma):Prop where
 fs:m.m.fs.length≤1000
 sl:m.sl.length≤1000
 swb:m.sw.blocks.length≤1000
 swq:m.sw.queue.length≤1000
 dkb:m.dk.blocks.length≤1000
 dkq:m.dk.queue.length≤1000
 st:m.st.fs.length≤1000∧∀f∈m.st.fs,f.b.length≤1000
 ca:m.ca.length≤1000
 sp:m.sp.length≤1000∧∀s∈m.sp,s.ar.length≤1000∧∀k (h:k<8),s.tb[k].length≤1000
structure sG (w:World) (B:Nat) (H:MH):Prop where
 fr:Own w B 59 13 (.slice H.af H.m.fs.length H.cf) H.m.fs.length (H.m.fs.flatMap mD)
 sl:Own w B 3 1 (.slice H.asl H.sl.length H.csl) H.sl.length (H.sl.map eU)
 sw:fJ w B (.slice H.wb H.sw.blocks.length H.cwb) (.slice H.wq H.sw.queue.length H.cwq) H.sw
 dk:fJ w B (.slice H.db H.dk.blocks.length H.cdb) (.slice H.dq H.dk.queue.length H.cdq) H.dk
 st:pV w B (.slice H.ai H.fi.length H.ci) H.fi
 ca:Own w B 85 3 (.slice H.ac H.ca.length H.cc) H.ca.length (H.ca.flatMap jI)
 sp:Own w B 65 10 (.slice H.ap H.sp.length H.cp) H.sp.length (H.sp.flatMap lS)
 ps:∀p∈H.sp,Own w B 69 7 (.slice p.aa p.ar.length p.ac) p.ar.length (p.ar.flatMap gV)∧nO w B (jG p.ts) p.tb
 c64 : -9223372036854775808≤H.ct∧H.ct≤9223372036854775807
theorem sG.below {w w' : World} {B:Nat} {H:MH} (h:sG w B H) (hb:Below w.heap.size w w'):sG w' B H:=
 ⟨h.fr.below hb,h.sl.below hb,h.sw.below hb,h.dk.below hb,h.st.below hb,h.ca.below hb,h.sp.below hb,fun p hp=>⟨(h.ps p hp).1.below hb,(h.ps p hp).2.below hb⟩,h.c64⟩
theorem sG.mono {w:World} {B B' : Nat} {H:MH} (h:sG w B H) (hB:B'≤B):sG w B' H:=
 ⟨h.fr.mono hB,h.sl.mono hB,h.sw.mono hB,h.dk.mono hB,h.st.mono hB,h.ca.mono hB,h.sp.mono hB,fun p hp=>⟨(h.ps p hp).1.mono hB,(h.ps p hp).2.mono hB⟩,h.c64⟩
theorem gI {w:World} {B:Nat} {e:TypeId} {sz:Nat} {a:Option Addr} {n c:Nat} {xs:List Value} (h:Own w B e sz (.slice a n c) n xs):kD w a c n xs:=by
 obtain⟨a',c',e1,h1⟩:=kD.of h
 simp only[Value.slice.injEq,true_and] at e1
 obtain⟨rfl,rfl⟩:=e1
 exact h1
theorem IQ {w:World} {B:Nat} {a b:Option Addr} {c e:Nat} {d:qm} (h:fJ w B (.slice a d.blocks.length c) (.slice b d.queue.length e) d):FX w a c b e d:=
 have h1:=gI h.b
 have h2:=gI h.q
 ⟨h1.le,h2.le,h1.mx,h2.mx,h1.nl,h2.nl,h1.rd,h2.rd⟩
theorem Jc {w:World} {B:Nat} {a:Option Addr} {c:Nat} {ps:List PF} (h:pV w B (.slice a ps.length c) ps):DJ w a c ps:=by
 obtain⟨a',c',e1,h1⟩:=h.rd
 simp only[Value.slice.injEq,true_and] at e1
 obtain⟨rfl,rfl⟩:=e1
 exact h1
theorem sG.rd {w:World} {B:Nat} {H:MH} (h:sG w B H):sV w H:=
 have h1:=gI h.fr
 ⟨⟨h1.le,h1.mx,h1.nl,h1.rd⟩,gI h.sl,IQ h.sw,IQ h.dk,Jc h.st,gI h.ca,gI h.sp,fun p hp=>⟨have h2:=gI (h.ps p hp).1;⟨h2.le,h2.mx,h2.nl,h2.rd⟩,(h.ps p hp).2.rd⟩,h.c64⟩
theorem sG.keep {w w' : World} {B:Nat} {H:MH} (h:sG w B H) {g:Nat} {cs:Array Value} {T:TypeId} (hk:aC w g cs T)
  (hT:T≠59∧T≠3∧T≠50∧T≠93∧T≠71∧T≠85∧T≠65∧T≠69∧T≠67) (hgr:w.grownBy w' (some g)):sG w' B H:=
 have ⟨t1,t2,t3,t4,t5,t6,t7,t8,t9⟩:=hT
 ⟨ak h.fr hk t1 hgr,ak h.sl hk t2 hgr,h.sw.keep hk t3 t4 hgr,h.dk.keep hk t3 t4 hgr,h.st.keep hk t5 t2 hgr,ak h.ca hk t6 hgr,ak h.sp hk t7 hgr,fun p hp=>⟨ak (h.ps p hp).1 hk t8 hgr,(h.ps p hp).2.keep hk t9 hgr⟩,h.c64⟩
theorem fu {α:Type} {enc:α→List Value} {sz:Nat} (hsz:∀x,(enc x).length=sz) (hp:0<sz) {w:World} {a:Option Addr} {l:List α} (h:bW w a (l.flatMap enc)) (k:Nat) (hk:k<l.length) :
  ∃b off,a=some ⟨b,off,none⟩∧bW w (some ⟨b,off+k*sz,none⟩) (enc l[k]):=by
 obtain⟨b,off,ha,hc⟩:=h.elem hsz hp k hk
 exact⟨b,off,ha,fun j u hj=>⟨b,off+k*sz,rfl,hc j u hj⟩⟩
theorem bK {w:World} {b:Nat} {cs:Array Value} {T:TypeId} (h:aC w b cs T) (o n:Nat):bW w (some ⟨b,o,none⟩) ((cs.toList.drop o).take n):=by
 intro i u hi
 refine⟨b,o,rfl,?_⟩
 rw[h.cell,←Array.getElem?_toList]
 rw[List.getElem?_take] at hi
 split at hi
 ·rw[List.getElem?_drop] at hi;exact hi
 ·cases hi
def oB (a:Option Addr):Option Nat:=(Value.slice a 0 0).ownBlock
theorem gF (a:Option Addr) (n c:Nat):(Value.slice a n c).ownBlock=oB a:=by cases a<;>rfl
theorem gJ {w:World} {B:Nat} {e:TypeId} {sz n c:Nat} {a:Option Addr} {xs:List Value} (h:Own w B e sz (.slice a n c) n xs) {x:Nat} (hx:oB a=some x):B≤x∧∃cs,aC w x cs e:=by
 rw[←gF a n c] at hx
 exact⟨h.ge x hx,fU h x hx⟩
def KJ (k B:Nat) (T:TypeId) (R:ig):mG:=⟨fun y w => ∃g cc,y k = .pointer (some ⟨g,0,none⟩)∧B≤g∧aC w g cc T∧R.r (.agg cc) w,[k],
 fun y w w' hb ⟨g,cc,h1,h2,h3,h4⟩=>⟨g,cc,h1,h2,h3.ext hb,R.st _ _ _ hb h4⟩,fun y y' w h ⟨g,cc,h1,h2⟩=>⟨g,cc,by rw[←h k (List.mem_singleton.2 rfl)];exact h1,h2⟩⟩
theorem aZ {cs:Array Value} (h:cs.all (·.oneCell')=true):∀u∈cs.toList,u.oneCell' = true:=by
 rw[←Array.all_toList,List.all_eq_true] at h
 exact h
theorem Dv (H:MH):H.ma.sp.length=H.sp.length:=List.length_map _
theorem CG : (Try.prog.info? 93).map (·.size)=some 9:=by kernel_rfl
def vF (f:Int→Bool) (q:Int × Page):Bool:=!(f q.1)
theorem AU (q:Int × Page) (g gm n:Nat) (f:Int→Bool) (w:World) (hg:aC w g #[.map (some gm)] 178) (hM:iD w gm n f) (hq : -9223372036854775808≤q.1∧q.1≤9223372036854775807) :
  Calls Try.prog 113 #[.agg (yS q),.pointer (some ⟨g,0,none⟩)] w fun r w'=>r = .returned (.bool (vF f q))∧Below w.heap.size w w':=by
 go_enter Try.func113,Try.ntmps113
 go_upto_region 1 with (fail)
 refine eO (fun W=>Code.wp _ _ _ _ W) fun W0 hb0 hx0 hs0 => ?_
 clear hs0
 have hgx:=(hg.ext hb0).cell 0
 have hcx:=hx0.cell
 have hlk:=(hM.below hb0).look q.1 hq
 have q0:(yS q)[0]?=some (.int .i64 q.1):=rfl
 go_wp2
 go_ret
 exact⟨rfl,hb0⟩
theorem FI {w:World} {a:Option Addr} {l:List (Int × Page)} (h:bW w a (l.flatMap rX)) (k:Nat) (hk:k<l.length):∃b off,a=some ⟨b,off,none⟩∧bW w (some ⟨b,off+k*9,none⟩) (rX l[k]):=fu qo (by decide) h k hk
theorem AR (l:List (Int × Page)) (a:Option Addr) (c:Nat) (w:World) (hrd:bW w a (l.flatMap rX)) (hl:l.length≤9223372036854775807) (g gm n:Nat) (f:Int→Bool) (hg:aC w g #[.map (some gm)] 178) (hM:iD w gm n f) (hq:∀q∈l,-9223372036854775808≤q.1∧q.1≤9223372036854775807) :
  Calls Try.prog 123 #[.slice a l.length c,.func (.func 113) #[] #[.pointer (some ⟨g,0,none⟩)]] w fun e w'=>e = .returned (.int .i64 (idx (vF f) l))∧Below w.heap.size w w':=by
 go_enter Try.func123,Try.ntmps123
 go_wp2
 go_loopw [8] (fun i wr => ∃k:Nat,k≤l.length∧i = .int .i64 k∧Below w.heap.size w wr∧∀i (h:i<l.length),i<k→(vF f) l[i]=false) (fun i _=>l.length-(intOf i).toNat)
 case atStart=>exact⟨0,Nat.zero_le _,rfl,Below.refl _ _,fun i _ h=>absurd h (Nat.not_lt_zero _)⟩
 case round=>
  obtain⟨k,hk,rfl,hbr,hp0⟩:=hrel
  have hp:=Lib.hid hp0
  clear hp0
  by_cases hlt:k<l.length
  ·obtain⟨b,off,rfl,hel⟩:=FI (hrd.below hbr) k hlt
   go_wp2_with (refine ax _ _ rfl b (off+k*9) rfl rfl _ hel _ Try.underlying93 rfl CG ?_)
   refine (AU l[k] g gm n f _ (hg.ext hbr) (hM.below hbr) (hq _ (List.getElem_mem hlt))).mono ?_
   rintro e w2 ⟨rfl,hb2⟩
   have hbel2:=ag hbr hb2
   clear hb2
   cases hpk:(vF f) l[k]
   ·have hpk':=Lib.hid hpk
    clear hpk
    go_wp2
    go_roundw
    case rel=>exact⟨k+1,by omega,by go_num,hbel2,jv hp.out hlt hpk'.out⟩
    case measure=>simp[intOf];omega
   ·have hfin:=Lib.hid (xK (vF f) l k hlt hp.out hpk)
    clear hpk
    go_wp2
    go_ret
    exact⟨aQ hfin.out.symm,hbel2⟩
  ·have hfin:=Lib.hid (mW (vF f) l fun i h=>hp.out i h (by omega))
   go_wp2
   go_ret
   exact⟨aQ hfin.out.symm,hbr⟩
theorem BA (l:List (Int × Page)) (a:Option Addr) (c:Nat) (w:World) (hrd:bW w a (l.flatMap rX)) (hl:l.length≤9223372036854775807) (g gm n:Nat) (f:Int→Bool) (hg:aC w g #[.map (some gm)] 178) (hM:iD w gm n f) (hq:∀q∈l,-9223372036854775808≤q.1∧q.1≤9223372036854775807) :
  Calls Try.prog 112 #[.slice a l.length c,.func (.func 113) #[] #[.pointer (some ⟨g,0,none⟩)]] w fun e w'=>e = .returned (.bool (l.any (vF f)))∧Below w.heap.size w w':=by
 go_enter Try.func112,Try.ntmps112
 go_wp2_with fail
 refine (AR l a c _ hrd hl g gm n f hg hM hq).mono ?_
 rintro e w2 ⟨rfl,hb2⟩
 go_wp2
 go_ret
 exact⟨bD (kT _ _),hb2⟩
theorem FL {m:Ma} {k:Nat} (hk:k<m.dk.blocks.length) (h:(decide ((k:Int)∈je m.st)||decide (m.dk.blocks.getD k zPg=zPg))=false):trimB m=false:=by
 unfold trimB
 rw[Bool.and_eq_false_iff]
 refine .inl (List.all_eq_false.2 ⟨k,List.mem_range.2 hk,?_⟩)
 rw[h];decide
theorem EA {m:Ma} (h:∀j:Nat,j<m.dk.blocks.length→(decide ((j:Int)∈je m.st)||decide (m.dk.blocks.getD j zPg=zPg))=true):trimB m = !(m.dk.queue.any (vF (kH (je m.st)))):=by
 unfold trimB
 rw[List.all_eq_true.2 (fun j hj=>h j (List.mem_range.1 hj)),Bool.true_and,List.any_eq_not_all_not,Bool.not_not]
 congr 1
 funext q
 simp[vF,kH]
theorem zt (H:MH) (b:Nat) (w:World) (hb:aC w b (bP H) 40) (h:sV w H) (h0:aO (dP H.fi H.ct)=0) (hd:bn H.dk=0) :
  Calls Try.prog 81 #[.pointer (some ⟨b,0,none⟩)] w fun r w'=>r = .returned (.bool (trimB H.ma))∧Below w.heap.size w w':=by
 have hmm:=@run_makeMap Try.prog
 have hf5:H.fi.length≤5:=by simpa[dP] using (iB h0).1
 have hfl:Hid (∀p∈H.fi,p.l.length≤12∧∀x∈p.l,-1≤x∧x<80):=Lib.hid (fun p hp=>by
  obtain⟨h1,h2,h3,h4⟩:=lH h0 p.fi (List.mem_map.2 ⟨p,hp,rfl⟩)
  have h5:=qU (n:=p.fi.n) h2
  have h6:=(iB h0).2.2
  refine⟨by have h7:(p.l.length:Int)=bV p.fi.n:=h3;omega,fun x hx=>⟨(h4 x hx).1,by have:=(h4 x hx).2;omega⟩⟩)
 obtain⟨hd80,hq400⟩:=DI hd
 have hqb:Hid (∀q∈H.dk.queue,-9223372036854775808≤q.1∧q.1≤9223372036854775807):=Lib.hid (fun q hq=>by
  obtain⟨i,hi,rfl⟩:=List.mem_iff_getElem.1 hq
  have:=DT hd i hi
  omega)
 have H0:=Lib.hid h0
 have HD:=Lib.hid hd
 clear h0 hd
 have hbk:=Lib.hid (sN H.fi H.ct)
 go_enter Try.func81,Try.ntmps81
 go_upto_region 2 with (fail)
 refine eO (fun W=>Code.wp _ _ _ _ W) fun w2 hb2 hx2 hs2 => ?_
 have hbel2:Below w.heap.size w w2:=ag ((Below.refl _ _).alloc (Nat.le_refl _) _) hb2
 have hM2:iD w2 w.heap.size 0 (kH (((H.fi.take 0).map PF.fi).flatMap Fi.b)):=(iD.made w).below hb2
 have hx2' : aC w2 (w.heap.size+1) #[.map (some w.heap.size)] 178:=by
  have e:(w.alloc (Obj.map #[] 0)).heap.size=w.heap.size+1:=Array.size_push _
  rw[e] at hx2;exact hx2
 obtain⟨gm,hGM⟩:∃g,g=w.heap.size:=⟨_,rfl⟩
 have hge:Hid (w.heap.size≤gm):=Lib.hid (by omega)
 rw[←hGM] at hM2 hx2' ⊢
 rw[←hGM] at hge
 have hgs:w.heap.size≤gm:=by omega
 clear hb2 hx2 hs2 hmm hGM hge
 have hbk2:=hb.ext hbel2
 have hcb:=hbk2.cell
 unfold bP at hcb
 have H5:(H.fi.length:Int)≤5:=by omega
 go_upto_region 3 with (fail)
 clear hcb hbk2
 go_loopw [17] (fun i wr => ∃(q n:Nat),q≤H.fi.length∧i = .int .i64 q∧n≤12*q∧Below w.heap.size w wr∧aC wr (gm+1) #[.map (some gm)] 178∧iD wr gm n (kH (((H.fi.take q).map PF.fi).flatMap Fi.b))) (fun i _=>H.fi.length-(intOf i).toNat)
 case atStart=>exact⟨0,0,Nat.zero_le _,rfl,Nat.le_refl _,hbel2,hx2',hM2⟩
 case round=>
  clear hbel2 hx2' hM2
  obtain⟨q,n,hq,rfl,hn,hbr,hx,hM⟩:=hrel
  by_cases hlt:q<H.fi.length
  ·obtain⟨bf,of,hai,hrd⟩:=fu ib (by decide) (h.below hbr).st.rd q hlt
   obtain⟨p,hp⟩:∃p,H.fi[q]?=some p:=⟨_,List.getElem?_eq_getElem hlt⟩
   rw[show H.fi[q]=p from (List.getElem?_eq_some_iff.1 hp).2] at hrd
   have hgood:=(h.below hbr).st.good p (List.mem_of_getElem? hp)
   obtain⟨hp12,hpx⟩:=hfl.out p (List.mem_of_getElem? hp)
   have htk:=Lib.hid (take_at hp)
   have hqi:(q:Int)<(H.fi.length:Int):=by omega
   generalize hseen:((H.fi.take q).map PF.fi).flatMap Fi.b=seen at hM
   have hseen':=Lib.hid hseen
   have hpx':=Lib.hid hpx
   clear hseen hp hpx
   rw[hai]
   go_wp2_with (first | (refine ax _ _ rfl bf (of+q*2) rfl rfl _ hrd _ Try.underlying71 rfl file_size ?_) | (refine aD rfl _ _ _ rfl (jd p) rfl rfl rfl file_size (ji p) ?_))
   intro w3 hb3 fx3
   have hb13:=ag hbr hb3
   have hx3:=hx.ext hb3
   have hM3:=hM.below hb3
   have hg3:=hgood.below hb3
   have hwr:=Lib.hid hbr.size
   have hxl:=Lib.hid hx.lt
   clear hbr hx hM hb3 hrd hgood
   have hcf:=fx3.cell
   unfold jd at hcf
   have hM0:iD w3 gm n (kH (seen++p.l.take 0)):=by simpa using hM3
   have hle:=hg3.le
   have hmx:=hg3.mx
   have hrp:=hg3.rd
   unfold maxLen at hmx
   clear hM3 hg3
   go_upto_region 6 with (fail)
   clear hcf fx3
   go_loopw [24] (fun i wr => ∃(j m:Nat),j≤p.l.length∧i = .int .i64 j∧m≤n+j∧Below w.heap.size w wr∧aC wr (gm+1) #[.map (some gm)] 178∧iD wr gm m (kH (seen++p.l.take j))∧bW wr p.a (p.l.map eU)) (fun i _=>p.l.length-(intOf i).toNat)
   case atStart=>exact⟨0,n,Nat.zero_le _,rfl,Nat.le_refl _,hb13,hx3,hM0,hrp⟩
   case round=>
    clear hb13 hx3 hM0 hrp
    obtain⟨j,m,hj,rfl,hm,hbr,hx,hM,hrp⟩:=hrel
    by_cases hjl:j<p.l.length
    ·obtain⟨x,hX⟩:∃x,p.l[j]?=some x:=⟨p.l[j],List.getElem?_eq_getElem hjl⟩
     obtain⟨b2,off2,hpa,hc⟩:=jk hrp j hjl
     rw[show p.l[j]=x from (List.getElem?_eq_some_iff.1 hX).2] at hc
     have htk2:=Lib.hid (take_at hX)
     have hxb:=hpx'.out x (List.mem_of_getElem? hX)
     have hrp':=Lib.hid hrp
     have hpa':=Lib.hid hpa
     have hjl' : (j:Int)<(p.l.length:Int):=by omega
     have hcx:=hx.cell
     rw[hpa]
     clear hX hrp hpa
     generalize hs2:seen++p.l.take j=seen2 at hM
     have hs2' : Hid (seen++p.l.take (j+1)=seen2++[x]):=Lib.hid (by rw[htk2.out,←List.append_assoc,hs2])
     clear hs2
     go_wp2_with (refine mU hM (by omega) rfl _ _ _ rfl rfl x rfl rfl (by omega) ?_)
     intro w6 hM6 hgr6
     rw[uk,←hs2'.out] at hM6
     have hb6:=hbr.grown hgr6 hbr.size (fun k hk=>by cases hk;omega)
     have hx6:=hx.grown hgr6 (fun e=>by have:=Option.some.inj e;omega)
     have hrp6:=hM.rdv hrp'.out hgr6
     clear hbr hx hM hgr6 hcx hc hrp'
     go_wp2
     go_roundw
     case rel=>exact⟨j+1,m+1,by omega,by go_num,by omega,hb6,hx6,hM6,by rw[←hpa'.out];exact hrp6⟩
     case measure=>simp[intOf];omega
    ·have hjl' : ¬(j:Int)<(p.l.length:Int):=by omega
     rw[List.take_of_length_le (by omega)] at hM
     have hM' : iD wr gm m (kH (((H.fi.take (q+1)).map PF.fi).flatMap Fi.b)):=by
      rw[htk.out,List.map_append,List.flatMap_append,hseen'.out]
      simpa[PF.fi] using hM
     clear hM hrp
     go_wp2
     go_roundw
     case rel=>exact⟨q+1,m,by omega,by go_num,by omega,hbr,hx,hM'⟩
     case measure=>simp[intOf];omega
  ·have hqi:¬(q:Int)<(H.fi.length:Int):=by omega
   rw[List.take_of_length_le (by omega)] at hM
   have hM' : iD wr gm n (kH (je H.ma.st)):=hM
   clear hM
   have hbk:=hb.ext hbr
   have hcb:=hbk.cell
   unfold bP at hcb
   go_upto_region 12 with (fail)
   clear hcb hbk
   go_loopw [38] (fun i wr => ∃(k:Nat),k≤H.dk.blocks.length∧i = .int .i64 k∧Below w.heap.size w wr∧aC wr (gm+1) #[.map (some gm)] 178∧iD wr gm n (kH (je H.ma.st))∧Hid (∀j:Nat,j<k→(decide ((j:Int)∈je H.ma.st)||decide (H.dk.blocks.getD j zPg=zPg))=true)) (fun i _=>H.dk.blocks.length-(intOf i).toNat)
   case atStart=>exact⟨0,Nat.zero_le _,rfl,hbr,hx,hM',Lib.hid fun j hj=>absurd hj (Nat.not_lt_zero _)⟩
   case round=>
    clear hbr hx hM'
    obtain⟨k,hk,rfl,hbr,hx,hM,hall⟩:=hrel
    by_cases hkl:k<H.dk.blocks.length
    ·obtain⟨bd,od,hda,hrd⟩:=fu ic (by decide) (h.below hbr).dk.rb k hkl
     have hki:(k:Int)<(H.dk.blocks.length:Int):=by omega
     have hgd:Hid (H.dk.blocks.getD k zPg=H.dk.blocks[k]):=Lib.hid (by rw[List.getD_eq_getElem?_getD,List.getElem?_eq_getElem hkl];rfl)
     generalize hP:H.dk.blocks[k]=P at hrd hgd
     clear hP
     rw[hda]
     go_wp2_with (first | (refine ax _ _ rfl bd (od+k*8) rfl rfl _ hrd _ Try.underlying50 rfl psize ?_) | (refine aD rfl _ _ _ rfl (dF P) rfl rfl rfl psize (dD _) ?_))
     intro w3 hb3 px3
     have hb13:=ag hbr hb3
     have hx3:=hx.ext hb3
     have hM3:=hM.below hb3
     clear hbr hx hM hb3 hrd
     have hcx:=hx3.cell
     have hlook:=hM3.look k (by omega)
     have hcp:=px3.cell
     rw[BR] at hcp
     cases hu:kH (je H.ma.st) (k:Int) with
     | true=>
      rw[hu] at hlook
      have hall2:Hid (∀j:Nat,j<k+1→(decide ((j:Int)∈je H.ma.st)||decide (H.dk.blocks.getD j zPg=zPg))=true):=Lib.hid fun j hj=>by
       by_cases e:j=k
       ·subst e
        rw[show decide ((j:Int)∈je H.ma.st)=true from hu];rfl
       ·exact hall.out j (by omega)
      clear hu hall
      go_wp2
      go_roundw
      case rel=>exact⟨k+1,by omega,by go_num,hb13,hx3,hM3,hall2⟩
      case measure=>simp[intOf];omega
     | false=>
      rw[hu] at hlook
      have hE:∀W,(Op.equalIn 10000 50 (.agg #[.int .u8 P[0].toNat,.int .u8 P[1].toNat,.int .u8 P[2].toNat,.int .u8 P[3].toNat,.int .u8 P[4].toNat,.int .u8 P[5].toNat,.int .u8 P[6].toNat,.int .u8 P[7].toNat]) (.agg #[.int .u8 0,.int .u8 0,.int .u8 0,.int .u8 0,.int .u8 0,.int .u8 0,.int .u8 0,.int .u8 0])).run Try.prog W = .ok (P==zPg) W:=fun W=>KF P zPg W
      by_cases hp0:P=zPg
      ·have hall2:Hid (∀j:Nat,j<k+1→(decide ((j:Int)∈je H.ma.st)||decide (H.dk.blocks.getD j zPg=zPg))=true):=Lib.hid fun j hj=>by
        by_cases e:j=k
        ·subst e
         rw[hgd.out,decide_eq_true hp0,Bool.or_true]
        ·exact hall.out j (by omega)
       have hpb:(P==zPg)=true:=by rw[hp0];exact beq_self_eq_true _
       rw[hpb] at hE
       clear hu hall hpb hp0 hgd
       go_wp2
       go_roundw
       case rel=>exact⟨k+1,by omega,by go_num,hb13,hx3,hM3,hall2⟩
       case measure=>simp[intOf];omega
      ·have hpb:(P==zPg)=false:=by rw[beq_eq_false_iff_ne];exact hp0
       have hq:Hid (trimB H.ma=false):=Lib.hid (FL (k:=k) hkl (by
        show (decide ((k:Int)∈je H.ma.st)||decide (H.dk.blocks.getD k zPg=zPg))=false
        rw[hgd.out,decide_eq_false hp0,show decide ((k:Int)∈je H.ma.st)=false from hu];rfl))
       rw[hpb] at hE
       clear hu hall hpb hp0 hgd
       go_wp2
       go_ret
       rw[hq.out]
       exact⟨rfl,hb13⟩
    ·have hki:¬(k:Int)<(H.dk.blocks.length:Int):=by omega
     have hq:Hid (trimB H.ma = !(H.dk.queue.any (vF (kH (je H.ma.st))))):=Lib.hid (EA fun j hj=>hall.out j (by have:j<H.dk.blocks.length:=hj;omega))
     have hbk:=hb.ext hbr
     have hcb:=hbk.cell
     unfold bP at hcb
     have hd:=(h.below hbr).dk
     clear hall
     go_wp2_with fail
     refine (BA H.dk.queue H.dq H.cdq _ hd.rq (by omega) (gm+1) gm n (kH (je H.ma.st)) hx hM hqb.out).mono ?_
     rintro r w4 ⟨rfl,hb4⟩
     go_wp2
     go_ret
     rw[hq.out]
     exact⟨rfl,ag hbr hb4⟩
theorem aT {P:Program} {ρ:Operand→Value} {o:Oper} {w:World} {t e:TypeId} {x y:Operand} {b off n c i sz:Nat} {k:IntKind} (ho:o.op = .indexAddr t x y) (hx:ρ x = .slice (some ⟨b,off,none⟩) n c) (hy:ρ y = .int k (i:Int)) (hi:i<n)
  (hu:P.underlying t=some (.slice e)) (hs:(P.info? e).map (·.size)=some sz):(execOp ρ o).run P w = .ok (.value (.pointer (some ⟨b,off+i*sz,none⟩))) w:=by
 obtain⟨inf,hinf,hsz⟩:∃inf,P.info? e=some inf∧inf.size=sz:=by
  cases h:P.info? e with
  | none=>rw[h] at hs;cases hs
  | some inf=>rw[h] at hs;exact⟨inf,rfl,by simpa using hs⟩
 have hso:(Go.sizeOf e).run P w = .ok sz w:=by simp[Go.sizeOf,typeInfo,hinf,go_sem,hsz]
 simp[execOp,go_sem,ho,hx,hy,hu,hso,hi]
theorem pY {w:World} {b o:Nat} {vs:List Value} (h:bW w (some ⟨b,o,none⟩) vs) (d n:Nat):bW w (some ⟨b,o+d,none⟩) ((vs.drop d).take n):=by
 intro i u hi
 rw[List.getElem?_take] at hi
 split at hi
 ·rw[List.getElem?_drop] at hi
  obtain⟨b',o',e,hc⟩:=h (d+i) u hi
  cases e
  exact⟨_,_,rfl,by rw[Nat.add_assoc];exact hc⟩
 ·cases hi
theorem uY {cur:Array Value} {o:Nat} {v:Value} (r:List Value) (h:cur[o]?=some v):putAt cur o (v::r)=putAt cur (o+1) r:=by
 have:cur.setIfInBounds o v=cur:=by
  apply Array.ext_getElem?
  intro i
  rw[Array.getElem?_setIfInBounds]
  by_cases e:o=i
  ·subst e
   rw[if_pos rfl,if_pos (Array.getElem?_eq_some_iff.1 h).1,h]
  ·rw[if_neg e]
 show putAt (cur.setIfInBounds o v) (o+1) r=_
 rw[this]
theorem CP {w:World} {B:Nat} {e:TypeId} {sz n off c g:Nat} {xs:List Value} {cur:Array Value} (h:Own w B e sz (.slice (some ⟨g,off,none⟩) n c) n xs) (hb:aC w g cur e):∀j u,xs[j]?=some u→cur[off+j]?=some u:=by
 rcases h.2 with ⟨h1,_⟩|⟨g',off',cap',cur',hv,_,hk,_,_,_,ht⟩
 ·cases h1
 ·cases hv
  have:cur=cur':=by
   unfold aC at hb hk
   rw[hb] at hk
   simpa using hk
  subst this
  exact ht
theorem uL {H:MH} {p:Nat} {P:PS} (hP:H.sp[p]?=some P):dM H.ma p=P.sp:=by
 unfold dM MH.ma
 simp only
 rw[List.getD_eq_getElem?_getD,List.getElem?_map,hP];rfl
theorem IK {H:MH} {p:Nat} {P:PS} (hP:H.sp[p]?=some P) (v:Vector Value 8) (t:Tb):MH.ma { H with sp:=H.sp.set p { P with ts:=v,tb:=t } }=setTb H.ma p t:=by
 unfold setTb
 rw[uL hP]
 unfold MH.ma
 simp only[List.map_set]
 rfl
theorem JJ {w:World} {v:Vector Value 8} {t:Tb} (h:yj w (jG v) t):∀u∈(jG v).toList,u.oneCell' = true:=by
 have:=h.one
 rw[←Array.all_toList,List.all_eq_true] at this
 exact this
def HZ (B:Nat) (t:Tb):ig:=⟨fun v w => ∃cs,v = .agg cs∧nO w B cs t,fun _ _ _ hb ⟨cs,h1,h2⟩=>⟨cs,h1,h2.below hb⟩⟩
theorem slots_size:(Try.prog.info? 29).map (·.size)=some 1:=by kernel_rfl
def ent (m:Ma) (p:Nat) (n:Int):En:=bS (dM m p).tb n
structure Pt (m:Ma):Prop where
 fr:cZ m.m=0
 sl:dU m.sl=0
 sw:bn m.sw=0
 dk:bn m.dk=0
 st:aO m.st=0
 swl:m.sw.blocks.length=m.sl.length
 dkl:(m.dk.blocks.length:Int)=m.st.count
 spl:m.sp.length≤4
 ar:∀s∈m.sp,(aR s.ar).1=0
 tb:∀s∈m.sp,bB s.tb=0
theorem vB {m:Ma} {p:Nat} (h:p<m.sp.length):m.sp[p]?=some (dM m p):=by
 unfold dM;rw[List.getD_eq_getElem?_getD,List.getElem?_eq_getElem h];rfl
theorem tN {m:Ma} {p:Nat} (h:p<m.sp.length):dM m p∈m.sp:=List.mem_of_getElem? (vB h)
theorem jL {m:Ma} {p:Nat} (h:m.sp.length≤p):dM m p=zSp:=by
 unfold dM;rw[List.getD_eq_getElem?_getD,List.getElem?_eq_none h];rfl
theorem BZ {m:Ma} {s:Sp} (h:s∈m.sp):∃p,p<m.sp.length∧s=dM m p:=by
 obtain⟨i,hi,rfl⟩:=List.mem_iff_getElem.1 h
 refine⟨i,hi,?_⟩
 have:=vB (m:=m) hi
 rw[List.getElem?_eq_getElem hi] at this
 exact Option.some.inj this
theorem Pt.tbN {m:Ma} (h:Pt m) (p:Nat):bB (dM m p).tb=0:=by
 rcases Nat.lt_or_ge p m.sp.length with hp|hp
 ·exact h.tb _ (tN hp)
 ·rw[jL hp];decide
theorem Pt.arN {m:Ma} (h:Pt m) (p:Nat):(aR (dM m p).ar).1=0:=by
 rcases Nat.lt_or_ge p m.sp.length with hp|hp
 ·exact h.ar _ (tN hp)
 ·rw[jL hp];decide
theorem rf {m:Ma} (h:Pt m) (p:Nat) (n:Int):cO (ent m p n)=0:=jr (h.tbN p) n
theorem CE {m:Ma} (p:Nat) {n:Int} (h:n<0∨64≤n):ent m p n=zEn:=kr h
theorem bF (e:En):cO e=0↔(e.k=0∧e.n=0∧e.w=false)∨(e.k=1∧0≤e.n∧e.n<40)∨(e.k=2∧0≤e.n∧e.n<60∧e.w=false):=by
 obtain⟨k,n,w⟩:=e
 unfold cO
 simp only
 cases w
 all_goals
  simp only[Bool.false_eq_true,reduceCtorEq,and_true,and_false,or_false,false_or,or_true]
  constructor
  ·intro h
   split at h
   ·omega
   ·split at h
    ·omega
    ·split at h<;>omega
  ·intro h
   split
   ·omega
   ·split
    ·omega
    ·split
     ·omega
     ·rfl
theorem wD {m:Ma} {p:Nat} {t:Tb} (hp:p<m.sp.length) (q:Nat):dM (setTb m p t) q=if q=p then { dM m p with tb:=t } else dM m q:=by
 unfold setTb
 show (m.sp.set p _).getD q zSp=_
 rw[List.getD_eq_getElem?_getD,List.getElem?_set]
 by_cases e:q=p
 ·subst e;rw[if_pos rfl,if_pos hp,if_pos rfl];rfl
 ·rw[if_neg (fun h=>e h.symm),if_neg e];unfold dM;rw[List.getD_eq_getElem?_getD]
theorem Dz {m:Ma} {p:Nat} {t:Tb} (hp:p<m.sp.length) (q:Nat) (n:Int):ent (setTb m p t) q n=if q=p then bS t n else ent m q n:=by
 unfold ent
 rw[wD hp]
 by_cases e:q=p
 ·rw[if_pos e,if_pos e]
 ·rw[if_neg e,if_neg e]
theorem rG {m:Ma} {p:Nat} {t:Tb}:(setTb m p t).sp.length=m.sp.length:=List.length_set
theorem Pt.setTb {m:Ma} (h:Pt m) {p:Nat} {t:Tb} (ht:bB t=0):Pt (setTb m p t):=by
 by_cases hp:p<m.sp.length
 ·refine { h with spl:=by rw[rG];exact h.spl,ar:=fun s hs => ?_,tb:=fun s hs => ?_ }
  ·rcases List.mem_or_eq_of_mem_set hs with hs|rfl
   ·exact h.ar s hs
   ·exact h.arN p
  ·rcases List.mem_or_eq_of_mem_set hs with hs|rfl
   ·exact h.tb s hs
   ·exact ht
 ·have:Go.Proofs.Ytkjobhcnlppcnaa.setTb m p t=m:=by
   unfold Go.Proofs.Ytkjobhcnlppcnaa.setTb
   rw[List.set_eq_of_length_le (by omega)]
  rw[this];exact h
def kN (kd i:Int) (e:En):Bool:=decide (e.k=kd)&&decide (e.n=i)
def dw (m:Ma) (kd i:Int):Nat:=(m.sp.map fun s=>(bu s.tb).countP (kN kd i)).sum
def rA (b:Bool):Nat:=if b=true then 1 else 0
theorem countP_set {α:Type} (q:α→Bool):∀(l:List α) (k:Nat) (h:k<l.length) (x:α),(l.set k x).countP q+rA (q l[k])=l.countP q+rA (q x)
 | a::l,0,_,x=>by
  simp only[List.set_cons_zero,List.getElem_cons_zero,List.countP_cons,rA]
  omega
 | a::l,k+1,h,x=>by
  have:=countP_set q l k (by simpa using h) x
  simp only[List.set_cons_succ,List.getElem_cons_succ,List.countP_cons]
  omega
theorem sum_set:∀(l:List Nat) (k:Nat) (h:k<l.length) (x:Nat),(l.set k x).sum+l[k]=l.sum+x
 | a::l,0,_,x=>by simp only[List.set_cons_zero,List.getElem_cons_zero,List.sum_cons];omega
 | a::l,k+1,h,x=>by
  have:=sum_set l k (by simpa using h) x
  simp only[List.set_cons_succ,List.getElem_cons_succ,List.sum_cons]
  omega
theorem qA {t:Tb} {n:Int} {e:En} (h:kZ t n e=0):bu (mE t n e)=(bu t).set n.toNat e:=by
 obtain⟨h1,h2,h3⟩:=lJ h
 rw[uB h,uD (xE h1 h3) (by rw[List.length_set,ik])]
theorem Ap {t:Tb} {n:Int} {e:En} (h:kZ t n e=0) (q:En→Bool):(bu (mE t n e)).countP q+rA (q (bS t n))=(bu t).countP q+rA (q e):=by
 obtain⟨h1,h2,h3⟩:=lJ h
 have hl:n.toNat<(bu t).length:=by rw[ik];omega
 have h4:=countP_set q (bu t) n.toNat hl e
 have h5:=qE t n.toNat (by omega)
 rw[List.getElem?_eq_getElem hl,Int.toNat_of_nonneg h2.1] at h5
 rw[Option.some.inj h5] at h4
 rw[qA h];exact h4
theorem qh {m:Ma} {p:Nat} (hp:p<m.sp.length) {n:Int} {x:En} (h:kZ (dM m p).tb n x=0) (kd i:Int) :
  dw (setTb m p (mE (dM m p).tb n x)) kd i+rA (kN kd i (ent m p n))=dw m kd i+rA (kN kd i x):=by
 have h1:=Ap h (kN kd i)
 have h2:=sum_set (m.sp.map fun s=>(bu s.tb).countP (kN kd i)) p (by simpa using hp) ((bu (mE (dM m p).tb n x)).countP (kN kd i))
 unfold dw setTb
 rw[List.map_set]
 have h3:(m.sp.map fun s=>(bu s.tb).countP (kN kd i))[p]'(by simpa using hp)=(bu (dM m p).tb).countP (kN kd i):=by
  rw[List.getElem_map]
  have:=vB hp
  rw[List.getElem?_eq_getElem hp] at this
  rw[Option.some.inj this]
 rw[h3] at h2
 have h4:rA (kN kd i (ent m p n))=rA (kN kd i (bS (dM m p).tb n)):=rfl
 simp only
 omega
theorem Ik {l:List Nat}:0<l.sum↔∃k,∃h:k<l.length,0<l[k]:=by
 induction l with
 | nil=>simp
 | cons a l ih=>
  rw[List.sum_cons]
  constructor
  ·intro h
   by_cases ha:0<a
   ·exact⟨0,by simp,by simpa using ha⟩
   ·obtain⟨k,hk,hx⟩:=ih.1 (by omega)
    exact⟨k+1,by simpa using hk,by simpa using hx⟩
  ·rintro⟨k,hk,hx⟩
   cases k with
   | zero=>simp at hx;omega
   | succ k=>
    have:=ih.2 ⟨k,by simpa using hk,by simpa using hx⟩
    omega
theorem vz {m:Ma} {kd i:Int} (hk:kd≠0):0<dw m kd i↔∃p n,p<m.sp.length∧(0≤n∧n<64)∧(ent m p n).k=kd∧(ent m p n).n=i:=by
 unfold dw
 rw[Ik]
 constructor
 ·rintro⟨p,hp,h⟩
  have hp' : p<m.sp.length:=by simpa using hp
  rw[List.getElem_map] at h
  obtain⟨e,he,hq⟩:=List.countP_pos_iff.1 h
  obtain⟨j,hj,rfl⟩:=List.mem_iff_getElem.1 he
  have hj' : j<64:=by rw[ik] at hj;exact hj
  have hs:m.sp[p]=dM m p:=by
   have:=vB hp'
   rw[List.getElem?_eq_getElem hp'] at this
   exact Option.some.inj this
  have h5:=qE m.sp[p].tb j hj'
  rw[List.getElem?_eq_getElem hj] at h5
  rw[Option.some.inj h5,hs] at hq
  unfold kN at hq
  simp only[Bool.and_eq_true,decide_eq_true_eq] at hq
  exact⟨p,j,hp',by omega,hq.1,hq.2⟩
 ·rintro⟨p,n,hp,hn,h1,h2⟩
  refine⟨p,by simpa using hp,?_⟩
  rw[List.getElem_map,List.countP_pos_iff]
  have hs:m.sp[p]=dM m p:=by
   have:=vB hp
   rw[List.getElem?_eq_getElem hp] at this
   exact Option.some.inj this
  refine⟨ent m p n,?_,by unfold kN;rw[h1,h2];simp⟩
  rw[hs]
  have h5:=qE (dM m p).tb n.toNat (by omega)
  rw[Int.toNat_of_nonneg hn.1] at h5
  exact List.mem_of_getElem? h5
end Go.Proofs.Ytkjobhcnlppcnaa