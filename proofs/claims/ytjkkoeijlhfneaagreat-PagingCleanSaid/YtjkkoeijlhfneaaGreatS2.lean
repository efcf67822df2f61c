import Derived.Test.YtjkkoeijlhfneaaGreatS1
import Derived.BigQuiet
import Derived.Deep.DeepCutAuto
import Derived.Deep.QuietTactic
import Derived.IntWalk
import Derived.Lib.LazyBuf
import Derived.Test.YtjkkoeijlhfneaaGreatRows
import Derived.Maps.Range
import Derived.Deep.Light
import Derived.BigRegion
import Derived.RegionTactic
set_option linter.unusedSimpArgs false
set_option linter.unusedVariables false
set_option maxHeartbeats 4000000
set_option maxRecDepth 100000
namespace Pw
open Go Go.RowKit
variable {B b f g i id j k k1 n off p q sz:Nat} {P:Program} {Q:Exit → Act → World → Prop} {T T' e t ty:TypeId} {V c0 u v:Value} {a0:Act} {cs cur t0:Array Value} {o op:Oper} {ops:Array Oper} {rest:List Oper} {vs xs:List Value} {w w' w0:World} {x:Operand} {y:Nat → Value} {ρ:Operand → Value}
theorem Et {a c:World} (h:a.grownBy c none) (row:Option Nat):a.grownBy c row:=⟨h.os,h.tape,h.output,h.size,fun i hi _=>h.block i hi (by simp)⟩
def ja (ps:List (Nat × Value)) (i:Nat):Option Value:=ps.lookup i
def Qa (ops:Array Oper) (m:Nat) (ps:List (Nat × Value)):Bool:=
 (List.range m).all fun j=>(ja ps j).isSome||(qP ops ops.size m).contains j
def Gj (m k1:Nat) (ps:List (Nat × Value)):Bool:=(List.range k1).all fun j=>decide (j≤m)||(ja ps j).isSome
def NQ (ops:Array Oper) (m:Nat) (ps:List (Nat × Value)):Bool:=
 (List.range ops.size).all fun i=>(ja ps i).isNone||(decide (i≠m)&&match ops[i]? with | some o=>o.after.toList.all (fun e=>(ja ps e.on).isSome) | none=>true)
theorem Ki {m:Nat} {ps:List (Nat × Value)} (h:Qa ops m ps=true) {listed:Array Bool} (hc:∀i o,ops[i]?=some o→listed.getD i false=true→∀e∈o.after,listed.getD e.on false=true) (hL:∀o,ops[m]?=some o→∀e∈o.after,listed.getD e.on false=true) (j:Nat) (hj:j<m) (hp:ja ps j=none):listed.getD j false=true:=by
 have h1:=List.all_eq_true.1 h j (List.mem_range.2 hj)
 rw[hp] at h1
 exact pR hc ops.size m hL j (by simpa using h1)
theorem OV {m:Nat} {ps:List (Nat × Value)} (h:Gj m k1 ps=true) (j:Nat) (hj:j<k1) (hm:m<j):∃v,ja ps j=some v:=by
 have h1:=List.all_eq_true.1 h j (List.mem_range.2 hj)
 simp only[Bool.or_eq_true,decide_eq_true_eq] at h1
 rcases h1 with h1|h1
 ·omega
 ·exact Option.isSome_iff_exists.1 h1
theorem Ow {m:Nat} {ps:List (Nat × Value)} (h:NQ ops m ps=true) (hi:ops[i]?=some o) (hp:ja ps i=some v):i≠m∧∀e∈o.after,∃u,ja ps e.on=some u:=by
 have hlt:i<ops.size:=(Array.getElem?_eq_some_iff.1 hi).1
 have h1:=List.all_eq_true.1 h i (List.mem_range.2 hlt)
 rw[hp,hi] at h1
 simp only[Option.isNone_some,Bool.false_or,Bool.and_eq_true,decide_eq_true_eq] at h1
 exact⟨h1.1,fun e he=>Option.isSome_iff_exists.1 (List.all_eq_true.1 h1.2 e (Array.mem_toList_iff.2 he))⟩
def OE (P : Program) (ops : Array Oper) (Q : Exit → Act → World → Prop) (m k1 : Nat) (ps : List (Nat × Value)) (R : Nat → Value → World → Prop) (a0 : Act) (w0 : World) (listed : Array Bool) (a : Act) (w : World) : Prop :=
  (∀ i, k1 ≤ i → listed.getD i false = false) ∧ (∀ i o, ops[i]? = some o → listed.getD i false = true → ∀ e ∈ o.after, listed.getD e.on false = true) ∧
  ∃ y : Nat → Value, (∀ i v, ja ps i = some v → y i = v) ∧ a = { a0 with tmps := lay (fun i => listed.getD i false) y ops.toList 0 a0.tmps } ∧
    ((listed.getD m false = false ∧ Below w0.heap.size w0 w ∧ ∀ i, i < m → ja ps i = none → listed.getD i false = true → R i (y i) w) ∨
     (listed.getD m false = true ∧ wpList P ops Q (ops.toList.drop k1) { a0 with tmps := lay (fun i => decide (i < k1)) y ops.toList 0 a0.tmps } w))
theorem xL {listed:Array Bool} (hsz:listed.size=ops.size) (hk:k1≤ops.size) (hL:∀i,i<ops.size→listed.getD i false=decide (i<k1)):listed.toList.countP (!·)=ops.size-k1:=by
 have e:listed.toList=List.replicate k1 true++List.replicate (ops.size-k1) false:=by
  apply List.ext_getElem?
  intro i
  by_cases hi:i<ops.size
  ·have h2:=hL i hi
   rw[Array.getElem?_toList,Array.getElem?_eq_getElem (show i<listed.size by omega)]
   simp only[Array.getD_eq_getD_getElem?,Array.getElem?_eq_getElem (show i<listed.size by omega),Option.getD_some] at h2
   rw[h2]
   by_cases him:i<k1
   ·rw[List.getElem?_append_left (by simpa using him)]
    simp[him]
   ·rw[List.getElem?_append_right (by simp;omega)]
    rw[List.length_replicate,List.getElem?_replicate,if_pos (by omega)]
    simp[him]
  ·rw[List.getElem?_eq_none (by simp;omega),List.getElem?_eq_none (by simp;omega)]
 rw[e]
 simp[List.countP_append,List.countP_replicate]
theorem uQ (m k1 : Nat) (ps : List (Nat × Value)) (hok : gZ ops = true) (ht : fK ops k1 = true) (hcok : Qa ops m ps = true) (hmid : Gj m k1 ps = true) (hpu : NQ ops m ps = true) (hmk : m < k1) (hk1 : k1 ≤ ops.size)
 (R : Nat → Value → World → Prop) (hstab : ∀ i v w w', Below w.heap.size w w' → R i v w → R i v w')
 (hstep : ∀ i o, i < m → ja ps i = none → ops[i]? = some o → ∀ y w, (∀ i v, ja ps i = some v → y i = v) → Below w0.heap.size w0 w → (∀ j, o.after.toList.any (fun e => e.on == j) = true → match ja ps j with | some v => y j = v | none => R j (y j) w) →
 if Region.wanted o (yielded ops (lay (fun _ => true) y ops.toList 0 a0.tmps)) = true then Gives P o { a0 with tmps := lay (fun _ => true) y ops.toList 0 a0.tmps } w (fun v w' => Below w.heap.size w w' ∧ R i v w') else R i undef w)
 (hpure : ∀ i v o, ja ps i = some v → ops[i]? = some o → ∀ y w, (∀ i v, ja ps i = some v → y i = v) →
 Region.wanted o (yielded ops (lay (fun _ => true) y ops.toList 0 a0.tmps)) = true ∧ (execOp ({ a0 with tmps := lay (fun _ => true) y ops.toList 0 a0.tmps } : Act).eval o).run P w = .ok (.value v) w)
 (hend : ∀ y w o, ops[m]? = some o → (∀ i v, ja ps i = some v → y i = v) → Below w0.heap.size w0 w → (∀ i, i < m → match ja ps i with | some v => y i = v | none => R i (y i) w) →
 Region.wanted o (yielded ops (lay (fun _ => true) y ops.toList 0 a0.tmps)) = true ∧
 Gives P o { a0 with tmps := lay (fun _ => true) y ops.toList 0 a0.tmps } w fun v w' => wpList P ops Q (ops.toList.drop k1) { a0 with tmps := lay (fun i => decide (i < k1)) (fun i => if i = m then v else y i) ops.toList 0 a0.tmps } w') :
    wpAny P .any ops Q ops.size (Array.replicate ops.size false) a0 { w0 with drawn := w0.drawn + 1 } := by
  have hall : ∀ (fuel : Nat) (listed : Array Bool) (a : Act) (w : World), listed.size = ops.size → listed.toList.countP (!·) ≤ fuel → OE P ops Q m k1 ps R a0 w0 listed a w → wpAny P .any ops Q fuel listed a w := by
    have hfin : ∀ (fuel : Nat) (listed : Array Bool) (a : Act) (w : World), listed.size = ops.size → listed.toList.countP (!·) ≤ fuel → OE P ops Q m k1 ps R a0 w0 listed a w → (∀ i, i < k1 → listed.getD i false = true) → wpAny P .any ops Q fuel listed a w := by
      intro fuel listed a w hsz hc hA hfull
      obtain ⟨hno, hcl, y, hV, ha, hph⟩ := hA
      have hL : ∀ i, i < ops.size → listed.getD i false = decide (i < k1) := by
        intro i hi
        by_cases him : i < k1
        · rw [hfull i him]; simp [him]
        · rw [hno i (by omega)]; simp [him]
      rcases hph with ⟨h1, _⟩ | ⟨_, hw⟩
      · rw [hfull m hmk] at h1; cases h1
      · refine pz (m := k1) hok ht fuel k1 listed a w (Nat.le_refl _) hk1 (by have := xL hsz hk1 hL; omega) hsz hL ?_
        rw [ha, mE (fun i => listed.getD i false) (fun i => decide (i < k1)) y ops.toList 0 a0.tmps (fun k hk => by
          simp only [Nat.zero_add]
          exact hL k (by simpa using hk))]
        exact hw
    intro fuel
    induction fuel with
    | zero =>
      intro listed a w hsz hc hA
      refine hfin 0 listed a w hsz hc hA fun i hi => ?_
      have h0 : listed.toList.countP (!·) = 0 := by omega
      have := List.countP_eq_zero.1 h0 (listed[i]'(by omega)) (by simp)
      simpa [Array.getD_eq_getD_getElem?, show i < listed.size by omega] using this
    | succ fuel ih =>
      intro listed a w hsz hc hA
      by_cases hfull : ∀ i, i < k1 → listed.getD i false = true
      · exact hfin _ listed a w hsz hc hA hfull
      · have hready0 : Region.ready .any ops listed ≠ [] := by
          intro hready
          apply hfull
          intro i
          induction i using Nat.strongRecOn with
          | ind i ih' =>
            intro him
            by_cases hc' : listed.getD i false = true
            · exact hc'
            · exfalso
              have hi : i < ops.size := by omega
              have hmem : i ∈ Region.ready .any ops listed := by
                rw [mem_ready]
                refine ⟨?_, ops[i], by simp [hi], fun e he _ => ?_⟩
                · simpa [Array.getD_eq_getD_getElem?, show i < listed.size by omega] using hc'
                · have := (dV hok (i := i) (o := ops[i]) (by simp [hi])).2.1 e he
                  exact ih' e.on this.2 (by omega)
              rw [hready] at hmem
              cases hmem
        refine ⟨fun h => absurd h hready0, fun i hi => ?_⟩
        obtain ⟨h1, o, ho, hdeps⟩ := mem_ready.1 hi
        have hlt : i < ops.size := (Array.getElem?_eq_some_iff.1 ho).1
        have hls : i < listed.size := by omega
        obtain ⟨hsel, hbinds, _⟩ := dV hok ho
        have hL : ∀ e ∈ o.after, listed.getD e.on false = true := fun e he => hdeps e he (hbinds e he).1
        have hnl : listed.getD i false = false := by simpa [Array.getD_eq_getD_getElem?, hls] using h1
        have him : i < k1 := by
          rcases Nat.lt_or_ge i k1 with h | h
          · exact h
          · exfalso
            apply hfull
            intro j hj
            exact qc ht hA.2.1 ho hL h j (by omega)
        obtain ⟨hno, hcl, y, hV, ha, hph⟩ := hA
        have hcl' : ∀ k o', ops[k]? = some o' → (listed.setIfInBounds i true).getD k false = true → ∀ e ∈ o'.after, (listed.setIfInBounds i true).getD e.on false = true := by
          intro k o' ho' hk e he
          apply rH hls
          by_cases hki : k = i
          · subst hki
            rw [ho] at ho'
            cases ho'
            exact hL e he
          · rw [mJ hki] at hk
            exact hcl k o' ho' hk e he
        have hno' : ∀ k, k1 ≤ k → (listed.setIfInBounds i true).getD k false = false := fun k hk => by rw [mJ (by omega)]; exact hno k hk
        have hnext : ∀ v w' y', (∀ k, y' k = if k = i then v else y k) → (∀ i v, ja ps i = some v → y' i = v) →
            (((listed.setIfInBounds i true).getD m false = false ∧ Below w0.heap.size w0 w' ∧ ∀ k, k < m → ja ps k = none → (listed.setIfInBounds i true).getD k false = true → R k (y' k) w') ∨
             ((listed.setIfInBounds i true).getD m false = true ∧ wpList P ops Q (ops.toList.drop k1) { a0 with tmps := lay (fun i => decide (i < k1)) y' ops.toList 0 a0.tmps } w')) →
            wpAny P .any ops Q fuel (listed.setIfInBounds i true) (a.put o.dst v) w' := by
          intro v w' y' hy' hV' hph'
          obtain rfl : y' = fun k => if k = i then v else y k := funext hy'
          refine ih _ _ _ (by simp [hsz]) (xm hls h1 hc) ⟨hno', hcl', _, hV', ?_, hph'⟩
          rw [ha, AX hok ho hsz v]
        have heval : ∀ t ∈ o.looksAt ops, a.tmps[t]? = (lay (fun _ => true) y ops.toList 0 a0.tmps)[t]? := fun t ht => by
          rw [ha]; exact vk hok ho hL t ht
        have hexec : execOp a.eval o = execOp ({ a0 with tmps := lay (fun _ => true) y ops.toList 0 a0.tmps } : Act).eval o := by
          refine execOp_congr o hsel fun x hx => ?_
          cases x with
          | tmp t =>
            have := heval t (List.mem_append_left _ (List.mem_filterMap.2 ⟨.tmp t, by simpa using hx, rfl⟩))
            simp [Act.eval, this]
          | _ => rfl
        have hwant : Region.wanted o (yielded ops a.tmps) = Region.wanted o (yielded ops (lay (fun _ => true) y ops.toList 0 a0.tmps)) := by
          unfold Region.wanted
          cases hg : o.guard with
          | none => rfl
          | some gw =>
            obtain ⟨g, want⟩ := gw
            have : yielded ops a.tmps g = yielded ops (lay (fun _ => true) y ops.toList 0 a0.tmps) g := by
              unfold yielded
              cases hd : (ops[g]?).bind (·.dst) with
              | none => rfl
              | some t =>
                have := heval t (List.mem_append_right _ (by simp [hg, hd]))
                simp [this]
            simp only [this]
        cases hp : ja ps i with
        | some v =>
          have hne := (Ow hpu ho hp).1
          obtain ⟨hw1, hr1⟩ := hpure i v o hp ho y w hV
          have hg : Gives P o { a0 with tmps := lay (fun _ => true) y ops.toList 0 a0.tmps } w (fun u w' => u = v ∧ w' = w) := by
            unfold Gives
            rw [hr1]
            exact ⟨rfl, rfl⟩
          refine nA ho (by rw [hwant]; exact hw1) hexec hg fun u w' hu => ?_
          obtain ⟨rfl, rfl⟩ := hu
          refine hnext u w' y (fun k => ?_) hV ?_
          · by_cases hk : k = i
            · subst hk; rw [if_pos rfl]; exact hV _ _ hp
            · rw [if_neg hk]
          · rcases hph with ⟨h2, h3, h4⟩ | ⟨h2, h3⟩
            · refine .inl ⟨by rw [mJ (Ne.symm hne)]; exact h2, h3, fun k hk hpk hLk => ?_⟩
              have hki : k ≠ i := by rintro rfl; rw [hp] at hpk; cases hpk
              rw [mJ hki] at hLk
              exact h4 k hk hpk hLk
            · exact .inr ⟨rH hls _ h2, h3⟩
        | none =>
          have hile : i ≤ m := by
            rcases Nat.lt_or_ge m i with h | h
            · obtain ⟨v, hv⟩ := OV hmid i him h
              rw [hp] at hv
              cases hv
            · exact h
          rcases hph with ⟨h2, h3, h4⟩ | ⟨h2, h3⟩
          · by_cases hic : i = m
            · subst hic
              have hRall : ∀ k, k < i → match ja ps k with | some v => y k = v | none => R k (y k) w := by
                intro k hk
                cases hpk : ja ps k with
                | some v => exact hV k v hpk
                | none => exact h4 k hk hpk (Ki hcok hcl (fun o' ho' => by rw [ho] at ho'; cases ho'; exact hL) k hk hpk)
              obtain ⟨hw1, hg⟩ := hend y w o ho hV h3 hRall
              refine nA ho (by rw [hwant]; exact hw1) hexec hg fun v w' hwp => ?_
              refine hnext v w' (fun k => if k = i then v else y k) (fun _ => rfl) (fun k u hku => ?_) (.inr ⟨Dx hls, hwp⟩)
              have : k ≠ i := by rintro rfl; rw [hp] at hku; cases hku
              simp only [this, if_false]
              exact hV k u hku
            · have hilt : i < m := by omega
              have hs := hstep i o hilt hp ho y w hV h3 (fun j hj => by
                obtain ⟨e, he, hej⟩ := List.any_eq_true.1 hj
                have hej' : e.on = j := by simpa using hej
                subst hej'
                have he' := Array.mem_toList_iff.1 he
                cases hpj : ja ps e.on with
                | some v => exact hV _ _ hpj
                | none => exact h4 e.on (by have := (hbinds e he').2; omega) hpj (hL e he'))
              have hgo : ∀ v w', Below w.heap.size w w' → R i v w' → wpAny P .any ops Q fuel (listed.setIfInBounds i true) (a.put o.dst v) w' := by
                intro v w' hbw hv
                refine hnext v w' (fun k => if k = i then v else y k) (fun _ => rfl) (fun k u hku => ?_) (.inl ⟨by rw [mJ (Ne.symm hic)]; exact h2, h3.trans (hbw.mono h3.size), fun k hk hpk hLk => ?_⟩)
                · have : k ≠ i := by rintro rfl; rw [hp] at hku; cases hku
                  simp only [this, if_false]
                  exact hV k u hku
                · by_cases hki : k = i
                  · subst hki; simpa using hv
                  · rw [mJ hki] at hLk
                    simp only [hki, if_false]
                    exact hstab _ _ _ _ hbw (h4 k hk hpk hLk)
              by_cases hwt : Region.wanted o (yielded ops (lay (fun _ => true) y ops.toList 0 a0.tmps)) = true
              · rw [if_pos hwt] at hs
                exact nA ho (by rw [hwant]; exact hwt) hexec hs fun v w' h => hgo v w' h.1 h.2
              · rw [if_neg hwt] at hs
                unfold wpOp
                simp only [ho]
                rw [if_neg (by rw [hwant]; exact hwt)]
                exact hgo undef w (Below.refl _ _) hs
          · exfalso
            by_cases hic : i = m
            · subst hic; rw [hnl] at h2; cases h2
            · have hmo : ∃ om, ops[m]? = some om := ⟨ops[m]'(by omega), by simp [show m < ops.size by omega]⟩
              obtain ⟨om, hom⟩ := hmo
              have := Ki hcok hcl (fun o' ho' => hcl m o' ho' h2) i (by omega) hp
              rw [hnl] at this
              cases this
  refine (hall ops.size _ _ _ (by simp) ?_ ⟨fun i _ => ?_, fun i o' ho' hi => ?_, fun i => (ja ps i).getD undef, fun i v h => (by show (ja ps i).getD undef = v; rw [h]; rfl), ?_, .inl ⟨?_, ?_, ?_⟩⟩)
  · simpa using List.countP_le_length (p := (!·)) (l := List.replicate ops.size false)
  · simp [Array.getD_eq_getD_getElem?, Array.getElem?_replicate]; split <;> rfl
  · exfalso
    have : i < ops.size := (Array.getElem?_eq_some_iff.1 ho').1
    simp [Array.getD_eq_getD_getElem?, this] at hi
  · have e : ∀ y, lay (fun i => (Array.replicate ops.size false).getD i false) y ops.toList 0 a0.tmps = a0.tmps := by
      intro y
      apply Array.ext_getElem?
      intro s
      exact fZ _ _ s _ 0 _ fun k o' hk hd => by simp [Array.getD_eq_getD_getElem?, Array.getElem?_replicate]; split <;> rfl
    rw [e]
  · simp [Array.getD_eq_getD_getElem?, Array.getElem?_replicate]; split <;> rfl
  · exact ⟨rfl, rfl, rfl, Nat.le_refl _, fun _ _ => rfl⟩
  · intro i hi _ hL
    simp [Array.getD_eq_getD_getElem?, show i < ops.size by omega] at hL
def nC (P:Program) (ops:Array Oper) (a0:Act) (w0:World) (ps:List (Nat × Value)) (l:List jJ) (i:Nat) (o:Oper):Prop:=
 match ja ps i with
 | some v => ∀(ρ:Operand→Value) (y:Nat→Value) (w:World),(∀t j,writer ops t=some j→ρ (.tmp t)=y j)→(∀x,(match x with | .tmp t=>writer ops t=none | _=>True)→ρ x=a0.eval x)→(∀i v,ja ps i=some v→y i=v) →
   Region.wanted o (eG ρ ops)=true∧(execOp ρ o).run P w = .ok (.value v) w
 | none => ∀(ρ:Operand→Value) (y:Nat→Value) (w:World),(∀t j,writer ops t=some j→ρ (.tmp t)=y j)→(∀x,(match x with | .tmp t=>writer ops t=none | _=>True)→ρ x=a0.eval x) →
   Below w0.heap.size w0 w→(∀j,o.after.toList.any (fun e=>e.on==j)=true→match ja ps j with | some v=>y j=v | none=>rl l j (y j) w) →
   if Region.wanted o (eG ρ ops)=true then cK P o ρ w (fun v w'=>Below w.heap.size w w'∧rl l i v w') else rl l i undef w
theorem Ij {ps:List (Nat × Value)} {l:List jJ} (h:ja ps i=some v)
 (hh:∀(ρ:Operand→Value) (y:Nat→Value) (w:World),(∀t j,writer ops t=some j→ρ (.tmp t)=y j)→(∀x,(match x with | .tmp t=>writer ops t=none | _=>True)→ρ x=a0.eval x)→(∀i v,ja ps i=some v→y i=v)→Region.wanted o (eG ρ ops)=true∧(execOp ρ o).run P w = .ok (.value v) w):nC P ops a0 w0 ps l i o:=by
 unfold nC;rw[h];exact hh
theorem bn {ps:List (Nat × Value)} {l:List jJ} (h:ja ps i=none)
 (hh:∀(ρ:Operand→Value) (y:Nat→Value) (w:World),(∀t j,writer ops t=some j→ρ (.tmp t)=y j)→(∀x,(match x with | .tmp t=>writer ops t=none | _=>True)→ρ x=a0.eval x) →
 Below w0.heap.size w0 w→(∀j,o.after.toList.any (fun e=>e.on==j)=true→match ja ps j with | some v=>y j=v | none=>rl l j (y j) w) →
 if Region.wanted o (eG ρ ops)=true then cK P o ρ w (fun v w'=>Below w.heap.size w w'∧rl l i v w') else rl l i undef w):nC P ops a0 w0 ps l i o:=by
 unfold nC;rw[h];exact hh
theorem Ah (m k1:Nat) (ps:List (Nat × Value)) (l:List jJ) (hok:gZ ops=true) (ht:fK ops k1=true) (hcok:Qa ops m ps=true) (hmid:Gj m k1 ps=true) (hpu:NQ ops m ps=true) (hmk:m<k1) (hk1:k1≤ops.size)
 (n:Nat) (hn:a0.tmps.size=n) (hsz:iH ops n=true)
 (hstep:aP (nC P ops a0 w0 ps l) 0 (ops.toList.take m)) (hmidl:aP (nC P ops a0 w0 ps l) (m+1) ((ops.toList.drop (m+1)).take (k1-(m+1))))
 (hpl:ps.all (fun p=>decide (p.1<k1))=true)
 (hend:∀(ρ:Operand→Value) (y:Nat→Value) (w:World) (o:Oper),ops[m]?=some o→(∀t j,writer ops t=some j→ρ (.tmp t)=y j)→(∀x,(match x with | .tmp t=>writer ops t=none | _=>True)→ρ x=a0.eval x)→(∀i v,ja ps i=some v→y i=v) →
 Below w0.heap.size w0 w→(∀i,i<m→match ja ps i with | some v=>y i=v | none=>rl l i (y i) w) →
 Region.wanted o (eG ρ ops)=true∧cK P o ρ w fun v w'=>wpList P ops Q (ops.toList.drop k1) { a0 with tmps:=lay (fun i=>decide (i<k1)) (fun i=>if i=m then v else y i) ops.toList 0 a0.tmps } w') :
  wpAny P .any ops Q ops.size (Array.replicate ops.size false) a0 { w0 with drawn:=w0.drawn+1 }:=by
 have hwr:∀(y:Nat→Value) t j,writer ops t=some j→({ a0 with tmps:=lay (fun _=>true) y ops.toList 0 a0.tmps }:Act).eval (.tmp t)=y j:=by
  intro y t j hw
  unfold writer at hw
  have h1:=List.find?_some hw
  have h2:=List.mem_range.1 (List.mem_of_find?_eq_some hw)
  cases ho:ops[j]? with
  | none=>simp[ho] at h1
  | some p=>
   have hd' : p.dst=some t:=by simpa[ho] using h1
   have hlt:t<a0.tmps.size:=by
    have:=List.all_eq_true.1 hsz p (Array.mem_toList_iff.2 (Array.mem_of_getElem? ho))
    rw[hn]
    simpa[hd'] using this
   have hu:∀k' o',ops.toList[k']?=some o'→o'.dst=some t→k' = j:=by
    intro k' o' hk' hdk
    rcases ((dV hok (i:=k') (o:=o') (by simpa using hk')).2.2 j p t ho hd').1 with h|h
    ·exact h
    ·exact absurd hdk h
   have:=jl (fun _=>true) y t ops.toList 0 a0.tmps j p (by simpa using ho) hd' rfl hu hlt
   simp[Act.eval,this]
 have hno:∀(y:Nat→Value) x,(match x with | .tmp t=>writer ops t=none | _=>True)→({ a0 with tmps:=lay (fun _=>true) y ops.toList 0 a0.tmps }:Act).eval x=a0.eval x:=by
  intro y x hx
  cases x with
  | tmp t=>
   have:(lay (fun _=>true) y ops.toList 0 a0.tmps)[t]?=a0.tmps[t]?:=by
    refine fZ _ y t _ 0 _ fun k o' hk hd' => ?_
    exfalso
    simp only[writer] at hx
    have hk' : ops[k]?=some o':=by simpa using hk
    have hklt:k<ops.size:=(Array.getElem?_eq_some_iff.1 hk').1
    have:=List.find?_eq_none.1 hx k (List.mem_range.2 hklt)
    simp[hk',hd'] at this
   simp[Act.eval,this]
  | _=>rfl
 have hsays:∀(y:Nat→Value) (o:Oper),Region.wanted o (yielded ops (lay (fun _=>true) y ops.toList 0 a0.tmps))=Region.wanted o (eG ({ a0 with tmps:=lay (fun _=>true) y ops.toList 0 a0.tmps }:Act).eval ops):=by
  intro y o
  congr 1
  funext g
  unfold yielded eG
  cases (ops[g]?).bind (·.dst) with
  | none=>rfl
  | some d=>
   simp only[Option.bind_some,Act.eval,Array.getD_eq_getD_getElem?]
   generalize (lay (fun _=>true) y ops.toList 0 a0.tmps)[d]?=q
   cases q with
   | none=>rfl
   | some v=>cases v<;>rfl
 have hask:∀i o,i<k1→i≠m→ops[i]?=some o→nC P ops a0 w0 ps l i o:=by
  intro i o hi hne ho
  rcases Nat.lt_or_ge i m with h|h
  ·have hi' : (ops.toList.take m)[i]?=some o:=by rw[List.getElem?_take,if_pos h];simpa using ho
   have:=aP.at hstep i o hi'
   rwa [Nat.zero_add] at this
  ·have hi' : ((ops.toList.drop (m+1)).take (k1-(m+1)))[i-(m+1)]?=some o:=by
    rw[List.getElem?_take,if_pos (by omega),List.getElem?_drop,show m+1+(i-(m+1))=i by omega]
    simpa using ho
   have:=aP.at hmidl _ o hi'
   rwa [show m+1+(i-(m+1))=i by omega] at this
 refine uQ m k1 ps hok ht hcok hmid hpu hmk hk1 (rl l) (fun i v w w' hb h=>(l.getD i anyR).st v w w' hb h) (fun i o him hp hi y w hV hb hd => ?_) (fun i v o hp hi y w hV => ?_) (fun y w o hi hV hb hR => ?_)
 ·have:=hask i o (by omega) (by omega) hi
  unfold nC at this
  rw[hp] at this
  have h2:=this _ y w (hwr y) (hno y) hb hd
  rw[hsays]
  exact h2
 ·have hik:i<k1:=by
   have h1:(i,v)∈ps:=by
    clear hpl hstep hmidl hcok hmid hpu hask hend hV
    unfold ja at hp
    induction ps with
    | nil=>simp at hp
    | cons q r ih=>
     obtain⟨a,b⟩:=q
     by_cases e:i=a
     ·subst e;simp at hp;simp[hp]
     ·have:(i==a)=false:=beq_eq_false_iff_ne.2 e
      simp[List.lookup,this] at hp
      exact List.mem_cons_of_mem _ (ih hp)
   simpa using List.all_eq_true.1 hpl _ h1
  have:=hask i o hik (Ow hpu hi hp).1 hi
  unfold nC at this
  rw[hp] at this
  obtain⟨h1,h2⟩:=this _ y w (hwr y) (hno y) hV
  exact⟨by rw[hsays];exact h1,h2⟩
 ·obtain⟨h1,h2⟩:=hend _ y w o hi (hwr y) (hno y) hV hb hR
  exact⟨by rw[hsays];exact h1,h2⟩
theorem Dr (m k1:Nat) (ps:List (Nat × Value)) (l:List jJ) (hm:P.follows .mixedOrders=true) (hok:gZ ops=true) (ht:fK ops k1=true) (hcok:Qa ops m ps=true) (hmid:Gj m k1 ps=true) (hpu:NQ ops m ps=true) (hmk:m<k1) (hk1:k1≤ops.size)
 (n:Nat) (hn:a0.tmps.size=n) (hsz:iH ops n=true)
 (hstep:aP (nC P ops a0 w0 ps l) 0 (ops.toList.take m)) (hmidl:aP (nC P ops a0 w0 ps l) (m+1) ((ops.toList.drop (m+1)).take (k1-(m+1))))
 (hpl:ps.all (fun p=>decide (p.1<k1))=true)
 (hend:∀(ρ:Operand→Value) (y:Nat→Value) (w:World) (o:Oper),ops[m]?=some o→(∀t j,writer ops t=some j→ρ (.tmp t)=y j)→(∀x,(match x with | .tmp t=>writer ops t=none | _=>True)→ρ x=a0.eval x)→(∀i v,ja ps i=some v→y i=v) →
 Below w0.heap.size w0 w→(∀i,i<m→match ja ps i with | some v=>y i=v | none=>rl l i (y i) w) →
 Region.wanted o (eG ρ ops)=true∧cK P o ρ w fun v w'=>wpList P ops Q (ops.toList.drop k1) { a0 with tmps:=lay (fun i=>decide (i<k1)) (fun i=>if i=m then v else y i) ops.toList 0 a0.tmps } w') :
  (Code.region id ops true).wp P Q a0 w0:=
 wp_region_any hm (Ah m k1 ps l hok ht hcok hmid hpu hmk hk1 n hn hsz hstep hmidl hpl hend)
theorem jq (s x:Operand) (t:TypeId) (hop:o.op=Op.call { callee:=Callee.builtin Builtin.append,args:=#[s,x],argTypes:=#[t,t] })
 (B:Nat) (e:TypeId) (z:Value) (size bytes:Nat) (h1:P.underlying t=some (.slice e)) (h2:(P.info? e).map (fun i=>(i.zero,i.size,i.bytes))=some (some z,size,bytes)) (h6:z.cells.size=size) (h7:0<size)
 (v:Value) (n:Nat) (xs:List Value) (hs:ρ s=v) (hown:Own w B e size v n xs)
 (ao:Option Addr) (m c:Nat) (news:List Value) (hx:ρ x = .slice ao m c) (hnone:ao=none→c=0) (hmc:m≤c) (hn:news.length=m*size) (hrd:dA w ao news) (h1c:∀u∈news,u.oneCell' = true)
 (b1:n+m≤maxLen) (b2:(n+m)*bytes≤140737488355328) (hB:B≤w.heap.size) :
  ∃v' w',(execOp ρ o).run P w = .ok (.value v') w'∧Own w' B e size v' (n+m) (xs++news)∧w.grownBy w' v.ownBlock∧(v'.ownBlock=v.ownBlock∨∀g,v'.ownBlock=some g→w.heap.size≤g):=by
 obtain⟨i,hi,hz,hsz,hby⟩:=info_parts h2
 cases ao with
 | none=>
  obtain rfl:=hnone rfl
  obtain rfl:m=0:=by omega
  obtain rfl:news=[]:=List.eq_nil_of_length_eq_zero (by simpa using hn)
  refine⟨v,w,?_,by simpa using hown,World.grownBy.refl _ _,.inl rfl⟩
  rcases hown with ⟨hl,⟨rfl,rfl⟩|⟨g,off,cap,cur,rfl,hBg,hk,hc,hm,hsize,hcell⟩⟩
  ·simp[execOp,hop,resolve,invoke,builtin,hs,hx,Builtin.append_,run_underlying h1,Go.sizeOf,typeInfo,hi,Builtin.lenOf,Builtin.firstCells,storeCells,Result.andThen]
  ·simp[execOp,hop,resolve,invoke,builtin,hs,hx,Builtin.append_,run_underlying h1,Go.sizeOf,typeInfo,hi,Builtin.lenOf,Builtin.firstCells,hc,storeCells,Result.andThen]
 | some ad=>
  have hnews:∀j u,news[j]?=some u→w.cell? (ad.add j)=some u:=by
   intro j u hj
   obtain⟨b,off,e',hc⟩:=hrd j u hj
   cases e'
   rw[Addr.add_lit];exact hc
  rcases hown with ⟨hl,⟨rfl,rfl⟩|⟨g,off,cap,cur,rfl,hBg,hk,hc,hm,hsize,hcell⟩⟩
  ·obtain rfl:xs=[]:=List.eq_nil_of_length_eq_zero (by simpa using hl)
   obtain⟨v',w',hrun,r1,r2,_⟩:=run_append_own (P:=P) w w.heap.size t o.type e i z size bytes h1 hi hz hsz hby h6 h7 (.slice none 0 0) 0 [] (World.ownsRow_nil w _ e size) ad m c news hn hnews h1c b1 b2 (Nat.le_refl _)
   refine⟨v',w',?_,(Own.of_owns r1).mono hB,r2,.inr (Own.of_owns r1).ge⟩
   simp[execOp,hop,resolve,invoke,builtin,hs,hx,hrun,Result.andThen]
  ·have hcap:n*size≤cap*size:=Nat.mul_le_mul_right _ hc
   rcases Nat.lt_or_ge cap (n+m) with hr|hr
   ·obtain⟨v',w',hrun,r1,r2⟩:=run_append_arg_grows (P:=P) w t o.type e i z size bytes h1 hi hz hsz hby h6 h7 ⟨g,off,none⟩ n cap xs hl (fun j u hj=>by rw[Addr.add_lit,hk.cell];exact hcell j u hj) ad m c news hn hnews hr b1 b2
    refine⟨v',w',?_,(Own.of_owns r1).mono hB,Et r2 _,.inr (Own.of_owns r1).ge⟩
    simp[execOp,hop,resolve,invoke,builtin,hs,hx,hrun,Result.andThen]
   ·have h3:(n+m)*size≤cap*size:=Nat.mul_le_mul_right _ hr
    rw[Nat.add_mul] at h3
    have hrun:=run_append_room_cells (P:=P) w t o.type e i h1 hi g off n cap ad m c news (by rw[hsz];exact hn) hnews h1c hr (fun j hj=>by rw[hsz,hk.cell];simp[show off+n*size+j<cur.size by omega]) (fun j hj=>hk.free _)
    rw[hsz] at hrun
    refine⟨_,_,?_,⟨by rw[List.length_append,hl,hn,Nat.add_mul],.inr ⟨g,off,cap,_,rfl,hBg,hk.setCells news (off+n*size),hr,hm,by rw[size_putAt];exact hsize,fun j u hj => ?_⟩⟩,aA _ _ _ _,.inl rfl⟩
    ·simp[execOp,hop,resolve,invoke,builtin,hs,hx,hrun,Result.andThen]
    ·by_cases hjl:j<xs.length
     ·rw[List.getElem?_append_left hjl] at hj
      rw[putAt_out _ _ _ _ (.inl (by omega))];exact hcell j u hj
     ·rw[List.getElem?_append_right (by omega)] at hj
      have:=putAt_in news cur (off+n*size) (j-xs.length) u (by omega) hj
      rwa [show off+n*size+(j-xs.length)=off+j by omega] at this
theorem Bi {F:Value→World→Prop} (hw:Region.wanted o (eG ρ ops)=true) {D:Value→World→Prop} (h:∃v' w',(execOp ρ o).run P w = .ok (.value v') w'∧D v' w') (hF:∀v w',D v w'→F v w'):Region.wanted o (eG ρ ops)=true∧cK P o ρ w F:=by
 obtain⟨v',w',h1,h2⟩:=h
 refine⟨hw,?_⟩
 unfold cK
 rw[h1]
 exact hF _ _ h2
open Go.ChangeShapes Go.WideShapes Go.ChangeAt
theorem yD {d:TypeDesc} (ht:P.underlying t=some (.array n e)) (he:P.underlying e=some d) (hd:(∀m f,d ≠ .array m f)∧(∀fs,d ≠ .struct fs)) (hs:(P.info? e).map (·.size)=some 1)
 (cs:Array Value) (k:Nat) (v:Value) (hk:k<n) (hv:cs[k]?=some v) (kk:IntKind) (w:World):(Instr.index t (.agg cs) (.int kk k)).run P w = .ok v w:=by
 have hsz:∀w,(Go.sizeOf e).run P w = .ok 1 w:=by
  intro w
  cases hq:P.info? e with
  | none=>simp[hq] at hs
  | some i=>
   have hz:i.size=1:=by simpa[hq] using hs
   simp[Go.sizeOf,typeInfo,run_program,hq,hz]
 have ha:∀w,(isAgg e).run P w = .ok false w:=by
  intro w
  unfold isAgg
  simp[run_underlying he]
  cases d<;>simp_all
 simp[Instr.index,part,asIntOf,run_underlying ht,hsz,hk,ha,hv,go_sem]
theorem Oi :(∀m f,TypeDesc.slice e ≠ .array m f)∧(∀fs,TypeDesc.slice e ≠ .struct fs):=⟨fun _ _ h=>(by cases h),fun _ h=>(by cases h)⟩
def aggB:TypeDesc→Bool
 | .struct _=>true
 | .array _ _=>true
 | _=>false
theorem iI {d:TypeDesc} (hrd:dA w (some ⟨b,off,none⟩) vs)
 (hu:P.underlying ty=some d) (hd:aggB d=true) (hi:(P.info? ty).map (·.size)=some vs.length) :
  (loadVar ty ⟨b,off,none⟩).run P w = .ok (.agg vs.toArray) w:=by
 have hl:(loadCells ⟨b,off,none⟩ vs.length).run P w = .ok vs.toArray w:=
  run_loadCells_list (P:=P) w ⟨b,off,none⟩ vs (fun j v hv=>by
   obtain⟨b',off',h1,h2⟩:=hrd.at (by
    rcases Nat.lt_or_ge 0 vs.length with h|h
    ·exact h
    ·rw[List.getElem?_eq_none (by omega)] at hv;cases hv)
   cases h1
   have hadd:(⟨b,off,none⟩:Addr).add j=⟨b,off+j,none⟩:=by unfold Addr.add;split<;>simp_all
   rw[hadd]
   exact h2 j v hv)
 cases hq:P.info? ty with
 | none=>simp[hq] at hi
 | some i=>
  have hs:i.size=vs.length:=by simpa[hq] using hi
  have hagg:(isAgg ty).run P w = .ok true w:=by
   unfold isAgg
   rw[Sem.run_bind,run_underlying hu w]
   cases d<;>simp_all[aggB]
  simp[loadVar,Sem.run_bind,hagg,Go.sizeOf,typeInfo,hq,hs,hl]
theorem fw {a:Act} (hgd:o.guard=none) (ty:TypeId) (x:Operand) (ho:o.op = .load ty x)
 (b off:Nat) (hx:a.eval x = .pointer (some ⟨b,off,none⟩)) (vs:List Value) (hrd:dA w (some ⟨b,off,none⟩) vs) (d:TypeDesc)
 (hu:P.underlying ty=some d) (hd:aggB d=true) (hi:(P.info? ty).map (·.size)=some vs.length)
 (h:wpList P ops Q rest (a.put o.dst (.agg vs.toArray)) w):wpList P ops Q (o::rest) a w:=
 wpList_plain hgd fun K hK=>by
  unfold Oper.wp execOp
  simp only[ho,hx,Instr.loadAt,Instr.sureAddr,Sem.run_bind,Sem.run_pure,Result.andThen_ok,iI hrd hu hd hi]
  exact hK _ _ h
theorem aD.rd (h:aD w b cs T):dA w (some ⟨b,0,none⟩) cs.toList:=by
 intro i u hi
 exact⟨b,0,rfl,by rw[h.cell,Nat.zero_add];simpa using hi⟩
theorem az {a:Act} (hgd:op.guard=none) (ty:TypeId) (x y:Operand) (ho:op.op = .store ty x y)
 (b o:Nat) (v:Value) (cells:List Value) (hx:a.eval x = .pointer (some ⟨b,o,none⟩)) (hy:a.eval y=v) (hc:v.cells.toList=cells) (cur:Array Value) (T:TypeId) (hg:aD w b cur T)
 (hfit:o+cells.length≤cur.size) (hi:(P.info? ty).map (·.size)=some cells.length) (h1:∀u∈cells,u.oneCell' = true)
 (h:∀w',aD w' b (bq cur o cells) T→w.grownBy w' (some b)→wpList P ops Q rest (a.put op.dst undef) w'):wpList P ops Q (op::rest) a w:=
 wpList_plain hgd fun K hK=>by
  have hst:=run_storeCells_cells (P:=P) b o cells 0 w
   (fun j hj=>by rw[Nat.add_zero,hg.cell];simp[show o+j<cur.size by omega]) (fun j hj=>hg.free _) h1
  simp only[Nat.add_zero] at hst
  have hsv:(storeVar ty ⟨b,o,none⟩ v).run P w = .ok () (w.setCells b o cells):=by
   cases hq:P.info? ty with
   | none=>simp[hq] at hi
   | some i=>
    have hs:i.size=cells.length:=by simpa[hq] using hi
    have hv:v.cells.size=cells.length:=by rw[←hc];simp
    simp[storeVar,Go.sizeOf,typeInfo,hq,hs,hv,hc,hst]
  unfold Oper.wp execOp
  simp only[ho,hx,hy,Instr.storeAt,Instr.sureAddr,Sem.run_bind,Sem.run_pure,Result.andThen_ok,hsv]
  exact hK _ _ (h _ (hg.setCells _ _) (aA _ _ _ _))
theorem putAt_one (cur:Array Value) (o:Nat) (v:Value):bq cur o [v]=cur.setIfInBounds o v:=rfl
theorem dK {fn:Func} {p q:Tmp} (h:fn.results=#[.cell p ty,.tmp q]) (tmps:Array Value) (w:World) (g:Nat) (t:TypeId) (cs:Array Value) (d:TypeDesc) (v:Value)
 (hp:tmps.getD p undef = .pointer (some ⟨g,0,none⟩)) (hv:tmps.getD q undef=v) (hg:aD w g cs t) (hu:P.underlying ty=some d) (hd:aggB d=true) (hi:(P.info? ty).map (·.size)=some cs.size) :
  (results fn tmps).run P w = .ok (.tuple #[.agg cs,v]) w:=by
 have hp' : tmps[p]?.getD undef = .pointer (some ⟨g,0,none⟩):=by simpa using hp
 have hl:=iI (P:=P) hg.rd hu hd (by rw[Array.length_toList];exact hi)
 have hv' : tmps[q]?.getD undef=v:=by simpa using hv
 simp[results,h,hp',hv',asAddr,hl]
theorem fF {fn:Func} {p q r:Tmp} (h:fn.results=#[.cell p ty,.tmp q,.tmp r]) (tmps:Array Value) (w:World) (g:Nat) (t:TypeId) (cs:Array Value) (d:TypeDesc) (v u:Value)
 (hp:tmps.getD p undef = .pointer (some ⟨g,0,none⟩)) (hv:tmps.getD q undef=v) (hu' : tmps.getD r undef=u) (hg:aD w g cs t) (hu:P.underlying ty=some d) (hd:aggB d=true) (hi:(P.info? ty).map (·.size)=some cs.size) :
  (results fn tmps).run P w = .ok (.tuple #[.agg cs,v,u]) w:=by
 have hp' : tmps[p]?.getD undef = .pointer (some ⟨g,0,none⟩):=by simpa using hp
 have hl:=iI (P:=P) hg.rd hu hd (by rw[Array.length_toList];exact hi)
 have hv' : tmps[q]?.getD undef=v:=by simpa using hv
 have hu'' : tmps[r]?.getD undef=u:=by simpa using hu'
 simp[results,h,hp',hv',hu'',asAddr,hl]
theorem dF {fn:Func} {p:Tmp} (h:fn.results=#[.cell p ty]) (tmps:Array Value) (w:World) (g:Nat) (t:TypeId) (cs:Array Value) (d:TypeDesc)
 (hp:tmps.getD p undef = .pointer (some ⟨g,0,none⟩)) (hg:aD w g cs t) (hu:P.underlying ty=some d) (hd:aggB d=true) (hi:(P.info? ty).map (·.size)=some cs.size) :
  (results fn tmps).run P w = .ok (.agg cs) w:=by
 have hp' : tmps[p]?.getD undef = .pointer (some ⟨g,0,none⟩):=by simpa using hp
 have hl:=iI (P:=P) hg.rd hu hd (by rw[Array.length_toList];exact hi)
 simp[results,h,hp',asAddr,hl]
def lc (w:World) (v v' : Value):Prop:=v'.ownBlock=v.ownBlock∨∀g,v'.ownBlock=some g→w.heap.size≤g
theorem qF {a:Act} (hg:o.guard=none) (s x:Operand) (t:TypeId)
 (hop:o.op=Op.call { callee:=Callee.builtin Builtin.append,args:=#[s,x],argTypes:=#[t,t] })
 (B:Nat) (e:TypeId) (z:Value) (size bytes:Nat) (h1:P.underlying t=some (.slice e)) (h2:(P.info? e).map (fun i=>(i.zero,i.size,i.bytes))=some (some z,size,bytes)) (h6:z.cells.size=size) (h7:0<size)
 (v:Value) (n:Nat) (xs:List Value) (hs:a.eval s=v) (hown:Own w B e size v n xs)
 (ao:Option Addr) (m c:Nat) (news:List Value) (hx:a.eval x = .slice ao m c) (hnone:ao=none→c=0) (hmc:m≤c) (hn:news.length=m*size) (hrd:dA w ao news) (h1c:∀u∈news,u.oneCell' = true)
 (b1:n+m≤maxLen) (b2:(n+m)*bytes≤140737488355328) (hB:B≤w.heap.size)
 (hK:∀v' w',Own w' B e size v' (n+m) (xs++news)→w.grownBy w' v.ownBlock→lc w v v'→wpList P ops Q rest (a.put o.dst v') w') :
  wpList P ops Q (o::rest) a w:=by
 obtain⟨v',w',hrun,k1,k2,k3⟩:=jq (P:=P) (ρ:=a.eval) (o:=o) (w:=w) s x t hop B e z size bytes h1 h2 h6 h7 v n xs hs hown ao m c news hx hnone hmc hn hrd h1c b1 b2 hB
 refine wpList_plain hg fun K hK' => ?_
 unfold Oper.wp
 rw[hrun]
 exact hK' _ _ (hK v' w' k1 k2 k3)
def Apart (v u:Value):Prop:=∀g,v.ownBlock=some g→u.ownBlock≠some g
theorem Apart.symm (h:Apart v u):Apart u v:=fun g h1 h2=>h g h2 h1
theorem AR (h:Own w B e sz v n xs) (g:Nat) (hg:v.ownBlock=some g):g<w.heap.size:=by
 rcases h.2 with ⟨rfl,_⟩|⟨g2,off,cap,cur,rfl,_,hb,_⟩
 ·cases hg
 ·cases hg
  exact hb.lt
theorem Own.apart (hu:Own w B e sz u n xs) (h:Apart v u) (hgr:w.grownBy w' v.ownBlock):Own w' B e sz u n xs:=
 hu.grown hgr fun g hg he=>h g he hg
theorem aL {a:Act} (hgd:op.guard=none) (ty:TypeId) (x y:Operand) (ho:op.op = .store ty x y)
 (cells:Array Value) (hx:a.eval x = .pointer (some ⟨w.heap.size,0,none⟩)) (hy:a.eval y = .agg cells)
 (hfit:cells.size=cur.size) (hi:(P.info? ty).map (·.size)=some cells.size) (h1:cells.all (·.oneCell')=true)
 (h:∀w',Below w.heap.size w w'→aD w' w.heap.size cells T→wpList P ops Q rest (a.put op.dst undef) w'):wpList P ops Q (op::rest) a (w.alloc (.cells cur T)):=by
 refine ax hgd ty x y ho w.heap.size cells hx hy cur T (aD.new _ _ _) hfit hi h1 fun w' hb hgr=>h w' ?_ hb
 exact ((Below.refl _ _).alloc (Nat.le_refl _) _).grown hgr (ed _ _) (fun k hk=>by cases hk;exact Nat.le_refl _)
theorem CE {a:Act} (hgd:op.guard=none) (ty:TypeId) (x y:Operand) (ho:op.op = .store ty x y)
 (v:Value) (hx:a.eval x = .pointer (some ⟨w.heap.size,0,none⟩)) (hy:a.eval y=v) (hc:v.cells.toList=[v])
 (hi:(P.info? ty).map (·.size)=some 1) (h1:v.oneCell' = true)
 (h:∀w',Below w.heap.size w w'→aD w' w.heap.size #[v] T→wpList P ops Q rest (a.put op.dst undef) w'):wpList P ops Q (op::rest) a (w.alloc (.cells #[c0] T)):=by
 refine az hgd ty x y ho w.heap.size 0 v [v] hx hy hc #[c0] T (aD.new _ _ _) (show 0+1≤1 from Nat.le_refl 1) hi (fun u hu=>by cases List.mem_singleton.1 hu;exact h1) fun w' hb hgr=>h w' ?_ hb
 exact ((Below.refl _ _).alloc (Nat.le_refl _) _).grown hgr (ed _ _) (fun k hk=>by cases hk;exact Nat.le_refl _)
theorem wpList_want {a:Act} (hw:Region.wanted o (yielded ops a.tmps)=true)
 (h:∀K:Act→World→Prop,(∀a w,wpList P ops Q rest a w→K a w)→o.wp P a w K Q):wpList P ops Q (o::rest) a w:=
 wpList_step fun K hK=>by rw[if_pos hw];exact h K hK
theorem ay {a:Act} (ty:TypeId) (x:Operand) (ho:o.op = .load ty x)
 (b off:Nat) (hx:a.eval x = .pointer (some ⟨b,off,none⟩)) (hgd:Region.wanted o (yielded ops a.tmps)=true) (vs:List Value) (hrd:dA w (some ⟨b,off,none⟩) vs) (d:TypeDesc)
 (hu:P.underlying ty=some d) (hd:aggB d=true) (hi:(P.info? ty).map (·.size)=some vs.length)
 (h:wpList P ops Q rest (a.put o.dst (.agg vs.toArray)) w):wpList P ops Q (o::rest) a w:=
 wpList_want hgd fun K hK=>by
  unfold Oper.wp execOp
  simp only[ho,hx,Instr.loadAt,Instr.sureAddr,Sem.run_bind,Sem.run_pure,Result.andThen_ok,iI hrd hu hd hi]
  exact hK _ _ h
def bC (o:Oper):Oper:={ o with after:=⟨o.after.toList.filter (Region.binds .any)⟩ }
def bH (ops:Array Oper):Array Oper:=⟨ops.toList.map bC⟩
theorem qa (ops:Array Oper):(bH ops).size=ops.size:=by simp[bH]
theorem vH (ops:Array Oper) (i:Nat):(bH ops)[i]?=(ops[i]?).map bC:=by
 unfold bH
 simp
theorem vN (ops:Array Oper) (listed:Array Bool):Region.ready .any (bH ops) listed=Region.ready .any ops listed:=by
 unfold Region.ready
 rw[qa]
 apply List.filter_congr
 intro i _
 congr 1
 rw[vH]
 cases ops[i]? with
 | none=>rfl
 | some o=>
  simp only[Option.map_some,Option.getD_some]
  rw[←Array.all_toList,←Array.all_toList]
  exact filter_all _ _ _
theorem ze (ops:Array Oper) (ts:Array Value):yielded (bH ops) ts=yielded ops ts:=by
 funext g
 unfold yielded
 rw[vH]
 cases ops[g]?<;>rfl
theorem ET {K:Act→World→Prop} {a:Act} (h:wpOp P (bH ops) Q i K a w):wpOp P ops Q i K a w:=by
 unfold wpOp at h ⊢
 rw[vH,ze] at h
 cases ho:ops[i]? with
 | none=>rw[ho] at h;exact h
 | some o=>
  rw[ho] at h
  exact h
theorem qZ {P:Program} {ops:Array Oper} {Q:Exit→Act→World→Prop}:∀(fuel:Nat) (listed:Array Bool) (a:Act) (w:World),wpAny P .any (bH ops) Q fuel listed a w→wpAny P .any ops Q fuel listed a w
 | 0,listed,a,w,h=>by
  unfold wpAny at h ⊢
  rw[vN] at h
  exact h
 | fuel+1,listed,a,w,h=>by
  unfold wpAny at h ⊢
  rw[vN] at h
  exact⟨h.1,fun i hi=>wpOp_mono (fun a w=>qZ fuel _ a w) (ET (h.2 i hi))⟩
structure qo where
 r:(Nat→Value)→World→Prop
 on:List Nat
 st:∀y w w',Below w.heap.size w w'→r y w→r y w'
 dep:∀y y' w,(∀j∈on,y j=y' j)→r y w→r y' w
def Qm (k:Nat) (R:jJ):qo:=⟨fun y w=>R.r (y k) w,[k],fun y w w' hb h=>R.st _ _ _ hb h,fun y y' w h h1=>by rw[←h k (List.mem_singleton.2 rfl)];exact h1⟩
def anyY:qo:=⟨fun _ _=>True,[],fun _ _ _ _ _=>trivial,fun _ _ _ _ _=>trivial⟩
def ry (l:List qo) (i:Nat):qo:=l.getD i anyY
def upd (y:Nat→Value) (i:Nat) (v:Value):Nat→Value:=fun k=>if k=i then v else y k
def Me (ops:Array Oper) (m:Nat) (l:List qo):Bool:=
 (List.range m).all fun i=>match ops[i]? with
  | none=>true
  | some o=>(ry l i).on.all fun j=>decide (j=i)||o.after.toList.any (fun e=>e.on==j)
theorem Od {m:Nat} {l:List qo} (h:Me ops m l=true) (him:i<m) (ho:ops[i]?=some o) (hj:j∈(ry l i).on):j=i∨∃e∈o.after,e.on=j:=by
 have h1:=List.all_eq_true.1 h i (List.mem_range.2 him)
 simp only[ho] at h1
 have h2:=List.all_eq_true.1 h1 j hj
 simp only[Bool.or_eq_true,decide_eq_true_eq,List.any_eq_true,beq_iff_eq] at h2
 rcases h2 with h2|⟨e,he,h3⟩
 ·exact .inl h2
 ·exact .inr ⟨e,Array.mem_toList_iff.1 he,h3⟩
def PU (ops:Array Oper) (m:Nat) (l:List qo) (B:World→Prop) (a0:Act) (listed:Array Bool) (a:Act) (w:World):Prop:=
 (∀i,m≤i→listed.getD i false=false)∧(∀i o,ops[i]?=some o→listed.getD i false=true→∀e∈o.after,listed.getD e.on false=true) ∧
  ∃y:Nat→Value,a = { a0 with tmps:=lay (fun i=>listed.getD i false) y ops.toList 0 a0.tmps }∧B w∧∀i,i<m→listed.getD i false=true→(ry l i).r y w
def qy (m:Nat) (l:List qo) (B:World→Prop) (i:Nat) (y:Nat→Value) (w:World) (v:Value) (w' : World):Prop:=
 B w'∧(ry l i).r (upd y i v) w'∧∀k,k<m→k≠i→(ry l k).r y w→(ry l k).r y w'
theorem wK (m:Nat) (l:List qo) (B:World→Prop) (hbst:∀w w',Below w.heap.size w w'→B w→B w') (hok:gZ ops=true) (ht:fK ops m=true) (hmn:m≤ops.size) (hon:Me ops m l=true) (hb0:B w0)
 (hstep:∀i o,i<m→ops[i]?=some o→∀y w,B w→(∀j,o.after.toList.any (fun e=>e.on==j)=true→(ry l j).r y w) →
 if Region.wanted o (yielded ops (lay (fun _=>true) y ops.toList 0 a0.tmps))=true then Gives P o { a0 with tmps:=lay (fun _=>true) y ops.toList 0 a0.tmps } w (qy m l B i y w) else qy m l B i y w undef w)
 (hend:∀y w,B w→(∀i,i<m→(ry l i).r y w)→wpList P ops Q (ops.toList.drop m) { a0 with tmps:=lay (fun i=>decide (i<m)) y ops.toList 0 a0.tmps } w) :
  wpAny P .any ops Q ops.size (Array.replicate ops.size false) a0 w0:=by
 have hall:∀(fuel:Nat) (listed:Array Bool) (a:Act) (w:World),listed.size=ops.size→listed.toList.countP (!·)≤fuel→PU ops m l B a0 listed a w→wpAny P .any ops Q fuel listed a w:=by
  intro fuel
  induction fuel with
  | zero=>
   intro listed a w hsz hc hA
   have hl:∀i,i<ops.size→listed.getD i false=true:=by
    intro i hlt
    have h0:listed.toList.countP (!·)=0:=by omega
    have:=List.countP_eq_zero.1 h0 (listed[i]'(by omega)) (by simp)
    simpa[Array.getD_eq_getD_getElem?,show i<listed.size by omega] using this
   obtain⟨hno,hcl,y,ha,hb,hR⟩:=hA
   have hmn' : m=ops.size:=by
    rcases Nat.lt_or_ge m ops.size with h|h
    ·have h1:=hl m h
     rw[hno m (Nat.le_refl _)] at h1
     cases h1
    ·omega
   refine pz (m:=m) hok ht 0 ops.size listed a w (by omega) (Nat.le_refl _) (by omega) hsz (fun i hi=>by rw[hl i hi];simp[hi]) ?_
   have:=hend y w hb fun i hi=>hR i (by omega) (hl i (by omega))
   rw[ha,mE (fun i=>listed.getD i false) (fun i=>decide (i<m)) y ops.toList 0 a0.tmps (fun k hk=>by
    have hk' : k<ops.size:=by simpa using hk
    simp only[Nat.zero_add]
    rw[hl k hk']
    simp;omega)]
   rw[hmn'] at this ⊢
   exact this
  | succ fuel ih=>
   intro listed a w hsz hc hA
   by_cases hfull:∀i,i<m→listed.getD i false=true
   ·obtain⟨hno,hcl,y,ha,hb,hR⟩:=hA
    have hL:∀i,i<ops.size→listed.getD i false=decide (i<m):=by
     intro i hi
     by_cases him:i<m
     ·rw[hfull i him];simp[him]
     ·rw[hno i (by omega)];simp[him]
    have hcount:ops.size-m≤fuel+1:=by
     have:=xL (k1:=m) hsz hmn hL
     omega
    refine pz (m:=m) hok ht (fuel+1) m listed a w (Nat.le_refl _) hmn hcount hsz hL ?_
    have:=hend y w hb fun i hi=>hR i (by omega) (hfull i hi)
    rw[ha,mE (fun i=>listed.getD i false) (fun i=>decide (i<m)) y ops.toList 0 a0.tmps (fun k hk=>by
     simp only[Nat.zero_add]
     exact hL k (by simpa using hk))]
    exact this
   ·have hready0:Region.ready .any ops listed≠[]:=by
     intro hready
     apply hfull
     intro i
     induction i using Nat.strongRecOn with
     | ind i ih'=>
      intro him
      by_cases hc' : listed.getD i false=true
      ·exact hc'
      ·exfalso
       have hi:i<ops.size:=by omega
       have hmem:i∈Region.ready .any ops listed:=by
        rw[mem_ready]
        refine⟨?_,ops[i],by simp[hi],fun e he _ => ?_⟩
        ·simpa[Array.getD_eq_getD_getElem?,show i<listed.size by omega] using hc'
        ·have:=(dV hok (i:=i) (o:=ops[i]) (by simp[hi])).2.1 e he
         exact ih' e.on this.2 (by omega)
       rw[hready] at hmem
       cases hmem
    refine⟨fun h=>absurd h hready0,fun i hi => ?_⟩
    obtain⟨h1,o,ho,hdeps⟩:=mem_ready.1 hi
    have hlt:i<ops.size:=(Array.getElem?_eq_some_iff.1 ho).1
    obtain⟨hsel,hbinds,_⟩:=dV hok ho
    have hL:∀e∈o.after,listed.getD e.on false=true:=fun e he=>hdeps e he (hbinds e he).1
    have him:i<m:=by
     rcases Nat.lt_or_ge i m with h|h
     ·exact h
     ·exfalso
      apply hfull
      intro j hj
      exact qc ht hA.2.1 ho hL h j (by omega)
    obtain⟨hno,hcl,y,ha,hb,hR⟩:=hA
    have hif:listed.getD i false=false:=by
     simpa[Array.getD_eq_getD_getElem?,show i<listed.size by omega] using h1
    have hnext:∀v w',qy m l B i y w v w'→wpAny P .any ops Q fuel (listed.setIfInBounds i true) (a.put o.dst v) w':=by
     intro v w' hst
     refine ih _ _ _ (by simp[hsz]) ?_ ⟨fun k hk => ?_,fun k o' ho' hk e he => ?_,upd y i v,?_,hst.1,?_⟩
     ·exact xm (by omega) h1 hc
     ·have:=hno k hk
      simp only[Array.getD_eq_getD_getElem?,Array.getElem?_setIfInBounds_ne (show i≠k by omega)] at this ⊢
      exact this
     ·have up:∀q,listed.getD q false=true→(listed.setIfInBounds i true).getD q false=true:=rH (by omega)
      apply up
      by_cases hki:k=i
      ·subst hki
       rw[ho] at ho'
       cases ho'
       exact hL e he
      ·exact hcl k o' ho' (by simpa[Array.getD_eq_getD_getElem?,Array.getElem?_setIfInBounds_ne (Ne.symm hki)] using hk) e he
     ·rw[ha,AX hok ho hsz v]
      rfl
     ·intro k hk hLk
      by_cases hki:k=i
      ·subst hki;exact hst.2.1
      ·have hkl:listed.getD k false=true:=by
        simpa[Array.getD_eq_getD_getElem?,Array.getElem?_setIfInBounds_ne (Ne.symm hki)] using hLk
       refine (ry l k).dep y (upd y i v) w' (fun j hj => ?_) (hst.2.2 k hk hki (hR k hk hkl))
       have hkk:k<ops.size:=by omega
       have hjl:listed.getD j false=true:=by
        rcases Od hon hk (o:=ops[k]) (by simp[hkk]) hj with rfl|⟨e,he,rfl⟩
        ·exact hkl
        ·exact hcl k ops[k] (by simp[hkk]) hkl e he
       have hji:j≠i:=by
        rintro rfl
        rw[hif] at hjl
        cases hjl
       unfold upd
       rw[if_neg hji]
    have heval:∀t∈o.looksAt ops,a.tmps[t]?=(lay (fun _=>true) y ops.toList 0 a0.tmps)[t]?:=fun t ht=>by
     rw[ha];exact vk hok ho hL t ht
    have hexec:execOp a.eval o=execOp ({ a0 with tmps:=lay (fun _=>true) y ops.toList 0 a0.tmps }:Act).eval o:=by
     refine execOp_congr o hsel fun x hx => ?_
     cases x with
     | tmp t=>
      have:=heval t (List.mem_append_left _ (List.mem_filterMap.2 ⟨.tmp t,by simpa using hx,rfl⟩))
      simp[Act.eval,this]
     | _=>rfl
    have hwant:Region.wanted o (yielded ops a.tmps)=Region.wanted o (yielded ops (lay (fun _=>true) y ops.toList 0 a0.tmps)):=by
     unfold Region.wanted
     cases hg:o.guard with
     | none=>rfl
     | some gw=>
      obtain⟨g,want⟩:=gw
      have:yielded ops a.tmps g=yielded ops (lay (fun _=>true) y ops.toList 0 a0.tmps) g:=by
       unfold yielded
       cases hd:(ops[g]?).bind (·.dst) with
       | none=>rfl
       | some t=>
        have:=heval t (List.mem_append_right _ (by simp[hg,hd]))
        simp[this]
      simp only[this]
    have hs:=hstep i o him ho y w hb (fun j hj=>by
     obtain⟨e,he,hej⟩:=List.any_eq_true.1 hj
     have hej' : e.on=j:=by simpa using hej
     subst hej'
     have he':=Array.mem_toList_iff.1 he
     exact hR e.on (by have:=(hbinds e he').2;omega) (hL e he'))
    by_cases hwt:Region.wanted o (yielded ops (lay (fun _=>true) y ops.toList 0 a0.tmps))=true
    ·rw[if_pos hwt] at hs
     exact nA ho (by rw[hwant];exact hwt) hexec hs fun v w' h=>hnext v w' h
    ·rw[if_neg hwt] at hs
     unfold wpOp
     simp only[ho]
     rw[if_neg (by rw[hwant];exact hwt)]
     exact hnext undef w hs
 refine hall ops.size _ _ _ (by simp) ?_ ⟨fun i _ => ?_,fun i o' ho' hi => ?_,fun _=>undef,?_,hb0,?_⟩
 ·simpa using List.countP_le_length (p:=(!·)) (l:=List.replicate ops.size false)
 ·simp[Array.getD_eq_getD_getElem?,Array.getElem?_replicate];split<;>rfl
 ·exfalso
  have:i<ops.size:=(Array.getElem?_eq_some_iff.1 ho').1
  simp[Array.getD_eq_getD_getElem?,this] at hi
 ·have e:lay (fun i=>(Array.replicate ops.size false).getD i false) (fun _=>undef) ops.toList 0 a0.tmps=a0.tmps:=by
   apply Array.ext_getElem?
   intro s
   exact fZ _ _ s _ 0 _ fun k o' hk hd=>by simp[Array.getD_eq_getD_getElem?,Array.getElem?_replicate];split<;>rfl
  rw[e]
 ·intro i hi hL
  exfalso
  have:(Array.replicate ops.size false).getD i false=false:=by
   simp[Array.getD_eq_getD_getElem?,Array.getElem?_replicate];split<;>rfl
  rw[this] at hL
  cases hL
def xK (P:Program) (ops:Array Oper) (a0:Act) (m:Nat) (l:List qo) (B:World→Prop) (i:Nat) (o:Oper):Prop:=
 ∀(ρ:Operand→Value) (y:Nat→Value) (w:World),(∀t j,writer ops t=some j→ρ (.tmp t)=y j)→(∀x,(match x with | .tmp t=>writer ops t=none | _=>True)→ρ x=a0.eval x) →
  B w→(∀j,o.after.toList.any (fun e=>e.on==j)=true→(ry l j).r y w) →
  if Region.wanted o (eG ρ ops)=true then cK P o ρ w (qy m l B i y w) else qy m l B i y w undef w
theorem JP (m:Nat) (l:List qo) (B:World→Prop) (hbst:∀w w',Below w.heap.size w w'→B w→B w') (hok:gZ ops=true) (ht:fK ops m=true) (hmn:m≤ops.size) (hon:Me ops m l=true) (hb0:B w0)
 (n:Nat) (hn:a0.tmps.size=n) (hsz:iH ops n=true)
 (hstep:aP (xK P ops a0 m l B) 0 (ops.toList.take m))
 (hend:∀y w,B w→(∀i,i<m→(ry l i).r y w)→wpList P ops Q (ops.toList.drop m) { a0 with tmps:=lay (fun i=>decide (i<m)) y ops.toList 0 a0.tmps } w) :
  wpAny P .any ops Q ops.size (Array.replicate ops.size false) a0 w0:=by
 refine wK m l B hbst hok ht hmn hon hb0 (fun i o him hi y w hb hd => ?_) hend
 have hwr:∀t j,writer ops t=some j→({ a0 with tmps:=lay (fun _=>true) y ops.toList 0 a0.tmps }:Act).eval (.tmp t)=y j:=by
  intro t j hw
  unfold writer at hw
  have h1:=List.find?_some hw
  have h2:=List.mem_range.1 (List.mem_of_find?_eq_some hw)
  cases ho:ops[j]? with
  | none=>simp[ho] at h1
  | some p=>
   have hd' : p.dst=some t:=by simpa[ho] using h1
   have hlt:t<a0.tmps.size:=by
    have:=List.all_eq_true.1 hsz p (Array.mem_toList_iff.2 (Array.mem_of_getElem? ho))
    rw[hn]
    simpa[hd'] using this
   have hu:∀k' o',ops.toList[k']?=some o'→o'.dst=some t→k' = j:=by
    intro k' o' hk' hdk
    rcases ((dV hok (i:=k') (o:=o') (by simpa using hk')).2.2 j p t ho hd').1 with h|h
    ·exact h
    ·exact absurd hdk h
   have:=jl (fun _=>true) y t ops.toList 0 a0.tmps j p (by simpa using ho) hd' rfl hu hlt
   simp[Act.eval,this]
 have hno:∀x,(match x with | .tmp t=>writer ops t=none | _=>True)→({ a0 with tmps:=lay (fun _=>true) y ops.toList 0 a0.tmps }:Act).eval x=a0.eval x:=by
  intro x hx
  cases x with
  | tmp t=>
   have:(lay (fun _=>true) y ops.toList 0 a0.tmps)[t]?=a0.tmps[t]?:=by
    refine fZ _ y t _ 0 _ fun k o' hk hd' => ?_
    exfalso
    simp only[writer] at hx
    have hk' : ops[k]?=some o':=by simpa using hk
    have hklt:k<ops.size:=(Array.getElem?_eq_some_iff.1 hk').1
    have:=List.find?_eq_none.1 hx k (List.mem_range.2 hklt)
    simp[hk',hd'] at this
   simp[Act.eval,this]
  | _=>rfl
 have hsays:Region.wanted o (yielded ops (lay (fun _=>true) y ops.toList 0 a0.tmps))=Region.wanted o (eG ({ a0 with tmps:=lay (fun _=>true) y ops.toList 0 a0.tmps }:Act).eval ops):=by
  congr 1
  funext g
  unfold yielded eG
  cases (ops[g]?).bind (·.dst) with
  | none=>rfl
  | some d=>
   simp only[Option.bind_some,Act.eval,Array.getD_eq_getD_getElem?]
   generalize (lay (fun _=>true) y ops.toList 0 a0.tmps)[d]?=q
   cases q with
   | none=>rfl
   | some v=>cases v<;>rfl
 have hi' : (ops.toList.take m)[i]?=some o:=by rw[List.getElem?_take,if_pos him];simpa using hi
 have:=aP.at hstep i o hi' _ y w hwr hno hb hd
 rw[Nat.zero_add] at this
 rw[hsays]
 exact this
theorem Mw (m:Nat) (l:List qo) (B:World→Prop) (hbst:∀w w',Below w.heap.size w w'→B w→B w') (hb0:B w0) (hm:P.follows .mixedOrders=true)
 (ops' : Array Oper) (hs:bH ops=ops') (hok:gZ ops' = true) (ht:fK ops' m=true) (hmn:m≤ops'.size) (hon:Me ops' m l=true)
 (n:Nat) (hn:a0.tmps.size=n) (hsz:iH ops' n=true)
 (hstep:aP (xK P ops' a0 m l B) 0 (ops'.toList.take m))
 (hend:∀y w,B w→(∀i,i<m→(ry l i).r y w)→wpList P ops' Q (ops'.toList.drop m) { a0 with tmps:=lay (fun i=>decide (i<m)) y ops'.toList 0 a0.tmps } w) :
  (Code.region id ops true).wp P Q a0 w0:=by
 refine wp_region_any hm (qZ _ _ _ _ ?_)
 subst hs
 have h2:B { w0 with drawn:=w0.drawn+1 }:=hbst w0 _ ⟨rfl,rfl,rfl,Nat.le_refl _,fun _ _=>rfl⟩ hb0
 have:=JP m l B hbst hok ht hmn hon h2 n hn hsz hstep hend
 rw[qa] at this
 exact this
theorem Kh (y:Nat→Value) (i:Nat) (v:Value):upd y i v i=v:=by unfold upd;rw[if_pos rfl]
theorem kZ {m:Nat} {l:List qo} {B:World→Prop} (hbst:∀w w',Below w.heap.size w w'→B w→B w') (hB:B w) (hb:Below w.heap.size w w') (hR:(ry l i).r (upd y i v) w'):qy m l B i y w v w':=
 ⟨hbst _ _ hb hB,hR,fun k _ _ h=>(ry l k).st _ _ _ hb h⟩
theorem jI {m:Nat} {l:List qo} {B:World→Prop} (hbst:∀w w',Below w.heap.size w w'→B w→B w') (hB:B w) (R:jJ) (hR:∀v w',R.r v w'→(ry l i).r (upd y i v) w')
 (h:if Region.wanted o (eG ρ ops)=true then cK P o ρ w (fun v w'=>Below w.heap.size w w'∧rl (List.replicate (i+1) R) i v w') else rl (List.replicate (i+1) R) i undef w) :
  if Region.wanted o (eG ρ ops)=true then cK P o ρ w (qy m l B i y w) else qy m l B i y w undef w:=by
 have e:∀v w,rl (List.replicate (i+1) R) i v w=R.r v w:=by
  intro v w
  unfold rl
  rw[List.getD_eq_getElem?_getD,List.getElem?_replicate,if_pos (by omega)]
  rfl
 simp only[e] at h
 by_cases hw:Region.wanted o (eG ρ ops)=true
 ·rw[if_pos hw] at h ⊢
  unfold cK at h ⊢
  generalize (execOp ρ o).run P w=q at h ⊢
  cases q with
  | ok n w'=>
   cases n with
   | value v=>exact kZ hbst hB h.1 (hR _ _ h.2)
   | skip=>exact kZ hbst hB h.1 (hR _ _ h.2)
   | enter f args=>
    refine Calls.mono h fun e w'' he => ?_
    cases e
    case returned v=>exact kZ hbst hB he.1 (hR _ _ he.2)
    all_goals exact he
   | _=>exact h
  | halt x w'=>exact h
 ·rw[if_neg hw] at h ⊢
  exact kZ hbst hB (Below.refl _ _) (hR _ _ h)
def iT (B:Nat) (T:TypeId) (n:Nat):jJ:=⟨fun v w => ∃g cs,v = .pointer (some ⟨g,0,none⟩)∧B≤g∧aD w g cs T∧cs.size=n,fun _ _ _ hb ⟨g,cs,h1,h2,h3,h4⟩=>⟨g,cs,h1,h2,h3.ext hb,h4⟩⟩
theorem lK (h:(iT B T n).r v w) (hg:aD w' g cs T') (hsz:T=T'→cs.size=n) (hold:∃cur,aD w g cur T') (hgr:w.grownBy w' (some g)):(iT B T n).r v w':=by
 obtain⟨g',cs',h1,h2,h3,h4⟩:=h
 by_cases e:g' = g
 ·subst e
  obtain⟨cur,hc⟩:=hold
  have e2:T=T':=by
   unfold aD at h3 hc
   rw[hc] at h3
   simp only[Option.some.injEq,Obj.cells.injEq] at h3
   exact h3.2.1.symm
  subst e2
  exact⟨g',cs,h1,h2,hg,hsz rfl⟩
 ·exact⟨g',cs',h1,h2,h3.grown hgr (fun e2=>e (Option.some.inj e2).symm),h4⟩
theorem mV {m:Nat} {l:List qo} {B:World→Prop} (hw:Region.wanted o (eG ρ ops)=true) (ty:TypeId) (x z:Operand) (ho:o.op = .store ty x z)
 (g off:Nat) (v:Value) (cells:List Value) (hx:ρ x = .pointer (some ⟨g,off,none⟩)) (hz:ρ z=v) (hc:v.cells.toList=cells) (cur:Array Value) (T:TypeId) (hg:aD w g cur T)
 (hfit:off+cells.length≤cur.size) (hi:(P.info? ty).map (·.size)=some cells.length) (h1:∀u∈cells,u.oneCell' = true)
 (h:∀w',aD w' g (bq cur off cells) T→w.grownBy w' (some g)→qy m l B i y w undef w') :
  if Region.wanted o (eG ρ ops)=true then cK P o ρ w (qy m l B i y w) else qy m l B i y w undef w:=by
 rw[if_pos hw]
 have hst:=run_storeCells_cells (P:=P) g off cells 0 w
  (fun j hj=>by rw[Nat.add_zero,hg.cell];simp[show off+j<cur.size by omega]) (fun j hj=>hg.free _) h1
 simp only[Nat.add_zero] at hst
 have hsv:(storeVar ty ⟨g,off,none⟩ v).run P w = .ok () (w.setCells g off cells):=by
  cases hq:P.info? ty with
  | none=>simp[hq] at hi
  | some i=>
   have hs:i.size=cells.length:=by simpa[hq] using hi
   have hv:v.cells.size=cells.length:=by rw[←hc];simp
   simp[storeVar,Go.sizeOf,typeInfo,hq,hs,hv,hc,hst]
 unfold cK execOp
 simp only[ho,hx,hz,Instr.storeAt,Instr.sureAddr,Sem.run_bind,Sem.run_pure,Result.andThen_ok,hsv]
 exact h _ (hg.setCells _ _) (aA _ _ _ _)
inductive Na where
 | v (V:Value)
 | r (i:Nat) (R:jJ)
 | y (i:Nat) (R:qo)
def rvyN:Na:=.r 0 anyR
def rvyR:List Na→Nat→List qo
 | [],_=>[]
 | .v V::l,i=>Qm i (oV V)::rvyR l (i+1)
 | .r _ R::l,i=>Qm i R::rvyR l (i+1)
 | .y _ R::l,i=>R::rvyR l (i+1)
def toRV:List Na→List RV
 | []=>[]
 | .v V::l => .v V::toRV l
 | .r i _::l => .r i anyR::toRV l
 | .y i _::l => .r i anyR::toRV l
theorem rvy_at:∀(l:List Na) (i k:Nat) {V:Value},l.getD i rvyN = .v V→(rvyR l k).getD i anyY=Qm (k+i) (oV V)∧(toRV l).getD i rvN = .v V
 | [],_,_,_,h=>by cases h
 | a::l,0,k,V,h=>by
  have h' : a = .v V:=h
  subst h'
  exact⟨rfl,rfl⟩
 | a::l,i+1,k,V,h=>by
  have:=rvy_at l i (k+1) (V:=V) (by simpa using h)
  rw[show k+(i+1)=k+1+i by omega]
  cases a<;>exact⟨by simpa[rvyR] using this.1,by simpa[toRV] using this.2⟩
theorem rvy_rl:∀(l:List Na) (j k:Nat) {y:Nat→Value} {w:World},((rvyR l k).getD j anyY).r y w→rl (rvs (toRV l)) j (y (k+j)) w
 | [],_,_,_,_,_=>by unfold rl toRV rvs;simp[anyR]
 | a::l,0,k,y,w,h=>by
  cases a with
  | v V=>exact h
  | r i R=>exact trivial
  | y i R=>exact trivial
 | a::l,j+1,k,y,w,h=>by
  have h' : ((rvyR l (k+1)).getD j anyY).r y w:=by cases a<;>simpa[rvyR] using h
  have:=rvy_rl l j (k+1) h'
  rw[show k+(j+1)=k+1+j by omega]
  unfold rl at this ⊢
  cases a<;>simpa[toRV,rvs] using this
section
variable {P:Program} {ops:Array Oper} {a0:Act} {m:Nat} {l:List Na} {B:World→Prop} {i:Nat} {o:Oper} {r:List Oper}
theorem sO (hbst:∀w w',Below w.heap.size w w'→B w→B w') (hv:l.getD i rvyN = .v V)
 (h:∀ρ y w,B w→Kn ops a0 (toRV l) o ρ y w→(Region.wanted o (eG ρ ops)=false∧V=undef)∨(Region.wanted o (eG ρ ops)=true∧(execOp ρ o).run P w = .ok (.value V) w)):xK P ops a0 m (rvyR l 0) B i o:=fun ρ y w hw hn hB hd=>by
 have hk:Kn ops a0 (toRV l) o ρ y w:=⟨hw,hn,fun j hj=>by have:=rvy_rl l j 0 (hd j hj);rwa [Nat.zero_add] at this⟩
 have e:∀w',(ry (rvyR l 0) i).r (upd y i V) w':=fun w'=>by
  unfold ry
  rw[(rvy_at l i 0 hv).1,Nat.zero_add]
  exact Kh _ _ _
 rcases h ρ y w hB hk with ⟨h1,h2⟩|⟨h1,h2⟩
 ·rw[if_neg (by rw[h1];exact Bool.false_ne_true),←h2]
  exact kZ hbst hB (Below.refl _ _) (e w)
 ·rw[if_pos h1]
  unfold cK
  rw[h2]
  exact kZ hbst hB (Below.refl _ _) (e w)
theorem tH.runY (hv:l.getD i rvyN = .v V) (h:tH P ops a0 (toRV l) i o):∀ρ y w,Kn ops a0 (toRV l) o ρ y w→(Region.wanted o (eG ρ ops)=false∧V=undef)∨(Region.wanted o (eG ρ ops)=true∧(execOp ρ o).run P w = .ok (.value V) w):=fun ρ y w hk=>by
 have e:∀v w,rl (rvs (toRV l)) i v w→v=V:=fun v w hr=>by
  unfold rl at hr
  rw[rvs_at,(rvy_at l i 0 hv).2] at hr
  exact hr
 rcases h ρ y w hk with ⟨h1,h2⟩|⟨h1,v,h2,h3⟩
 ·exact .inl ⟨h1,(e _ _ h2).symm⟩
 ·exact .inr ⟨h1,by rw[←e _ _ h3];exact h2⟩
abbrev AY (P:Program) (ops:Array Oper) (a0:Act) (m:Nat) (l:List Na) (B:World→Prop) (i:Nat) (r:List Oper):Prop:=aP (xK P ops a0 m (rvyR l 0) B) i r
theorem OI (hbst:∀w w',Below w.heap.size w w'→B w→B w') (hv:l.getD i rvyN = .v V) (h:tH P ops a0 (toRV l) i o):xK P ops a0 m (rvyR l 0) B i o:=sO hbst hv fun ρ y w _ hk=>h.runY hv ρ y w hk
theorem Yk (hbst:∀w w',Below w.heap.size w w'→B w→B w') (h:(ks ops a0 (toRV l) o).map Na.v=some (l.getD i rvyN)) (hl:AY P ops a0 m l B (i+1) r):AY P ops a0 m l B i (o::r):=by
 cases hk:ks ops a0 (toRV l) o with
 | none=>rw[hk] at h;cases h
 | some V=>
  rw[hk] at h
  have hv:=(Option.some.inj h).symm
  exact⟨OI hbst hv (OB hk (rvy_at l i 0 hv).2),hl⟩
theorem Yf (hbst:∀w w',Below w.heap.size w w'→B w→B w') (b k:Nat) (h:PK ops a0 (toRV l) o=some (t,v,f)) (hv:l.getD i rvyN = .v (.pointer (some ⟨b,k,none⟩))) (hl:AY P ops a0 m l B (i+1) r) (hf:∀w,(Instr.fieldAt t v f).run P w = .ok (.pointer (some ⟨b,k,none⟩)) w:=by intro _;kernel_rfl):AY P ops a0 m l B i (o::r):=
 ⟨(EJ (C:=fun i o=>tH P ops a0 (toRV l) i o) (r:=[]) id b k h (rvy_at l i 0 hv).2 trivial hf).1 |> OI hbst hv,hl⟩
theorem Yr (hbst:∀w w',Below w.heap.size w w'→B w→B w') (V:Value) (h:∀ρ y w,B w→Kn ops a0 (toRV l) o ρ y w→(execOp ρ o).run P w = .ok (.value V) w) (hg:kg ops a0 (toRV l) o=some true) (hv:l.getD i rvyN = .v V) (hl:AY P ops a0 m l B (i+1) r):AY P ops a0 m l B i (o::r):=
 ⟨sO hbst hv fun ρ y w hB hk => .inr ⟨yL hg hk,h ρ y w hB hk⟩,hl⟩
theorem Yc (hbst:∀w w',Below w.heap.size w w'→B w→B w') (V:Value) (hc:∀w,B w→w.cell? ⟨b,k,none⟩=some V) (hg:kg ops a0 (toRV l) o=some true) (ho:o.op = .load t x) (hx:kx ops a0 (toRV l) o x=some (.pointer (some ⟨b,k,none⟩))) (hv:l.getD i rvyN = .v V) (hl:AY P ops a0 m l B (i+1) r) (hs:PM P t=true:=by kernel_rfl):AY P ops a0 m l B i (o::r):=
 ⟨sO hbst hv fun ρ y w hB hk => .inr ⟨yL hg hk,run_load ho (aF hx hk) (by
  simp only[Instr.loadAt,Instr.sureAddr,Sem.run_bind,Sem.run_pure,Result.andThen_ok,mQ hs (hc w hB)])⟩,hl⟩
end
theorem toRV_len:∀l:List Na,(toRV l).length=l.length
 | []=>rfl
 | a::l=>by cases a<;>simp[toRV,toRV_len l]
theorem eP :∀w w',Below w.heap.size w w'→Below w0.heap.size w0 w→Below w0.heap.size w0 w':=fun _ _ h h2=>ag h2 h
theorem ko {df:List Deferred} (m:Nat) (l:List Na) (B:World→Prop) (hbst:∀w w',Below w.heap.size w w'→B w→B w') (hb0:B w0)
 (hstep:AY P (bH ops) ⟨t0,df⟩ m l B 0 ((bH ops).toList.take m)) {tm:(Nat→Value)→List Value} (hf:∀y,sG y (toRV l) (bH ops).toList t0.toList=some (tm y)) (hd:wr ((bH ops).toList.drop m)=some rest)
 (hend:∀y w,B w→(∀i,i<m→(ry (rvyR l 0) i).r y w)→wpList P (bH ops) Q rest ⟨(tm y).toArray,df⟩ w)
 (hm:P.follows .mixedOrders=true:=by kernel_rfl) (hok:gZ (bH ops)=true:=by kernel_rfl) (ht:fK (bH ops) m=true:=by kernel_rfl) (hmn:m≤(bH ops).size:=by decide) (hon:Me (bH ops) m (rvyR l 0)=true:=by kernel_rfl) (hll:l.length=m:=by rfl) (hix:idxOk (toRV l) 0=true:=by kernel_rfl)
 (hsz:iH (bH ops) t0.size=true:=by kernel_rfl):(Code.region id ops true).wp P Q ⟨t0,df⟩ w0:=by
 refine Mw m (rvyR l 0) B hbst hb0 hm (bH ops) rfl hok ht hmn hon _ rfl hsz hstep fun y w hb hR => ?_
 have h:=hend y w hb hR
 rw[Gz hd]
 have e:=qU (m:=m) (y:=y) (w:=w) (toRV l) (bH ops).toList 0 t0 hix (by rw[toRV_len,hll,Nat.zero_add]) (by rw[toRV_len,hll,Array.length_toList];exact hmn) fun i hi=>by
  have:=rvy_rl l i 0 (hR i (by rw[toRV_len,hll] at hi;exact hi))
  rw[Nat.zero_add] at this ⊢
  exact this
 show wpList P (bH ops) Q rest ⟨lay (fun i=>decide (i<m)) y (bH ops).toList 0 t0,df⟩ w
 have e2:=Option.some.inj (e.symm.trans (hf y))
 have e3:lay (fun i=>decide (i<m)) y (bH ops).toList 0 t0=(tm y).toArray:=by rw[←e2]
 rw[e3]
 exact h
theorem cK.mono {F G:Value→World→Prop} (h:cK P o ρ w F) (hFG:∀v w',F v w'→G v w'):cK P o ρ w G:=by
 unfold cK at h ⊢
 generalize (execOp ρ o).run P w=r at h ⊢
 cases r with
 | ok n w'=>
  cases n with
  | value v=>exact hFG _ _ h
  | skip=>exact hFG _ _ h
  | enter f args=>
   refine Calls.mono h fun e w'' he => ?_
   cases e with
   | returned v=>exact hFG _ _ he
   | panicked c=>exact he.elim
   | outgrown=>exact he.elim
  | _=>exact h.elim
 | halt x w'=>exact h.elim
def zJ (R:Nat→Value→World→Prop) (p q i:Nat) (v:Value) (w:World):Prop:=(i=p→∀u,R q u w→v≠u)∧(i=q→∀u,R p u w→v≠u)
theorem Bw (m p q:Nat) (hpm:p<m) (hqm:q<m) (hpq:p≠q) (hok:gZ ops=true) (ht:fK ops m=true) (hmn:m≤ops.size)
 (R:Nat→Value→World→Prop) (hstab:∀i v w w',Below w.heap.size w w'→R i v w→R i v w')
 (hstep:∀i o,i<m→ops[i]?=some o→∀y w,Below w0.heap.size w0 w→(∀j,o.after.toList.any (fun e=>e.on==j)=true→R j (y j) w) →
 if Region.wanted o (yielded ops (lay (fun _=>true) y ops.toList 0 a0.tmps))=true then Gives P o { a0 with tmps:=lay (fun _=>true) y ops.toList 0 a0.tmps } w (fun v w'=>(Below w.heap.size w w'∧R i v w')∧zJ R p q i v w) else R i undef w∧i≠p∧i≠q)
 (hend:∀y w,Below w0.heap.size w0 w→(∀i,i<m→R i (y i) w)→y p≠y q→wpList P ops Q (ops.toList.drop m) { a0 with tmps:=lay (fun i=>decide (i<m)) y ops.toList 0 a0.tmps } w) :
  Below w0.heap.size w0 { w0 with drawn:=w0.drawn+1 }→wpAny P .any ops Q ops.size (Array.replicate ops.size false) a0 { w0 with drawn:=w0.drawn+1 }:=
 fun _=>vC m hok ht hmn (fun _ _ _=>True) (fun L y w=>(Below w0.heap.size w0 w∧∀i,L i=true→R i (y i) w)∧(L p=true→L q=true→y p≠y q)) (fun y=>⟨⟨⟨rfl,rfl,rfl,Nat.le_refl _,fun _ _=>rfl⟩,fun i h=>(by cases h)⟩,fun h=>(by cases h)⟩) (fun _ _ _ _ _=>trivial) (fun i o hi ho L y w hL hd hJ _=>by
  have h:=hstep i o hi ho y w hJ.1.1 (fun j hj=>hJ.1.2 j (hd j hj))
  have hup:∀v w',Below w.heap.size w w'→R i v w'→Below w0.heap.size w0 w'∧∀k,bK L i k=true→R k (bZ y i v k) w':=fun v w' hb hr=>⟨ag hJ.1.1 hb,fun k hk=>Gi hJ.1.2 hr (fun k v h=>hstab k v _ _ hb h) k hk⟩
  split at h
  ·rename_i hw
   rw[if_pos hw]
   refine xk h fun v w' hh=>⟨⟨hup v w' hh.1.1 hh.1.2,fun hp hq => ?_⟩,trivial⟩
   unfold bK at hp hq
   unfold bZ
   by_cases e1:p=i
   ·rw[if_pos e1,if_neg (fun e2=>hpq (e1.trans e2.symm))]
    rw[if_neg (fun e2=>hpq (e1.trans e2.symm))] at hq
    exact hh.2.1 e1.symm _ (hJ.1.2 q hq)
   ·rw[if_neg e1] at hp ⊢
    by_cases e2:q=i
    ·rw[if_pos e2]
     exact fun e=>hh.2.2 e2.symm _ (hJ.1.2 p hp) e.symm
    ·rw[if_neg e2] at hq ⊢
     exact hJ.2 hp hq
  ·rename_i hw
   rw[if_neg hw]
   refine⟨⟨hup undef w (Below.refl _ _) h.1,fun hp hq => ?_⟩,trivial⟩
   unfold bK at hp hq
   unfold bZ
   rw[if_neg (fun e=>h.2.1 e.symm)] at hp ⊢
   rw[if_neg (fun e=>h.2.2 e.symm)] at hq ⊢
   exact hJ.2 hp hq) (fun y w hJ _=>hend y w hJ.1.1 (fun i hi=>hJ.1.2 i (decide_eq_true hi)) (hJ.2 (decide_eq_true hpm) (decide_eq_true hqm)))
def KX (P:Program) (ops:Array Oper) (a0:Act) (w0:World) (l:List jJ) (p q i:Nat) (o:Oper):Prop:=
 ∀(ρ:Operand→Value) (y:Nat→Value) (w:World),(∀t j,writer ops t=some j→ρ (.tmp t)=y j)→(∀x,(match x with | .tmp t=>writer ops t=none | _=>True)→ρ x=a0.eval x) →
  Below w0.heap.size w0 w→(∀j,o.after.toList.any (fun e=>e.on==j)=true→rl l j (y j) w) →
  if Region.wanted o (eG ρ ops)=true then cK P o ρ w (fun v w'=>(Below w.heap.size w w'∧rl l i v w')∧zJ (rl l) p q i v w) else rl l i undef w∧i≠p∧i≠q
theorem pu {l:List jJ} (hp:i≠p) (hq:i≠q) (h:kS P ops a0 w0 l i o):KX P ops a0 w0 l p q i o:=by
 intro ρ y w h1 h2 h3 h4
 have:=h ρ y w h1 h2 h3 h4
 split at this
 ·rename_i hw
  rw[if_pos hw]
  exact cK.mono this fun v w' hv=>⟨hv,fun e=>absurd e hp,fun e=>absurd e hq⟩
 ·rename_i hw
  rw[if_neg hw]
  exact⟨this,hp,hq⟩
theorem Ml (m p q:Nat) (l:List jJ) (hm:P.follows .mixedOrders=true) (hpm:p<m) (hqm:q<m) (hpq:p≠q)
 (ops' : Array Oper) (hs:bH ops=ops') (hok:gZ ops' = true) (ht:fK ops' m=true) (hmn:m≤ops'.size)
 (n:Nat) (hn:a0.tmps.size=n) (hsz:iH ops' n=true)
 (hstep:aP (KX P ops' a0 w0 l p q) 0 (ops'.toList.take m))
 (hend:∀y w,Below w0.heap.size w0 w→(∀i,i<m→rl l i (y i) w)→y p≠y q→wpList P ops' Q (ops'.toList.drop m) { a0 with tmps:=lay (fun i=>decide (i<m)) y ops'.toList 0 a0.tmps } w) :
  (Code.region id ops true).wp P Q a0 w0:=by
 refine wp_region_any hm (qZ _ _ _ _ ?_)
 subst hs
 have:=Bw m p q hpm hqm hpq hok ht hmn (rl l) (fun i v w w' hb h=>(l.getD i anyR).st v w w' hb h) (P:=P) (Q:=Q) (a0:=a0) (w0:=w0) (fun i o him hi y w hb hd => ?_) hend ⟨rfl,rfl,rfl,Nat.le_refl _,fun _ _=>rfl⟩
 ·rw[qa] at this
  exact this
 ·have hwr:∀t j,writer (bH ops) t=some j→({ a0 with tmps:=lay (fun _=>true) y (bH ops).toList 0 a0.tmps }:Act).eval (.tmp t)=y j:=by
   intro t j hw
   unfold writer at hw
   have h1:=List.find?_some hw
   have h2:=List.mem_range.1 (List.mem_of_find?_eq_some hw)
   cases ho:(bH ops)[j]? with
   | none=>simp[ho] at h1
   | some p=>
    have hd' : p.dst=some t:=by simpa[ho] using h1
    have hlt:t<a0.tmps.size:=by
     have:=List.all_eq_true.1 hsz p (Array.mem_toList_iff.2 (Array.mem_of_getElem? ho))
     rw[hn]
     simpa[hd'] using this
    have hu:∀k' o',(bH ops).toList[k']?=some o'→o'.dst=some t→k' = j:=by
     intro k' o' hk' hdk
     rcases ((dV hok (i:=k') (o:=o') (by simpa using hk')).2.2 j p t ho hd').1 with h|h
     ·exact h
     ·exact absurd hdk h
    have:=jl (fun _=>true) y t (bH ops).toList 0 a0.tmps j p (by simpa using ho) hd' rfl hu hlt
    simp[Act.eval,this]
  have hno:∀x,(match x with | .tmp t=>writer (bH ops) t=none | _=>True)→({ a0 with tmps:=lay (fun _=>true) y (bH ops).toList 0 a0.tmps }:Act).eval x=a0.eval x:=by
   intro x hx
   cases x with
   | tmp t=>
    have:(lay (fun _=>true) y (bH ops).toList 0 a0.tmps)[t]?=a0.tmps[t]?:=by
     refine fZ _ y t _ 0 _ fun k o' hk hd' => ?_
     exfalso
     simp only[writer] at hx
     have hk' : (bH ops)[k]?=some o':=by simpa using hk
     have hklt:k<(bH ops).size:=(Array.getElem?_eq_some_iff.1 hk').1
     have:=List.find?_eq_none.1 hx k (List.mem_range.2 hklt)
     simp[hk',hd'] at this
    simp[Act.eval,this]
   | _=>rfl
  have hsays:Region.wanted o (yielded (bH ops) (lay (fun _=>true) y (bH ops).toList 0 a0.tmps))=Region.wanted o (eG ({ a0 with tmps:=lay (fun _=>true) y (bH ops).toList 0 a0.tmps }:Act).eval (bH ops)):=by
   congr 1
   funext g
   unfold yielded eG
   cases ((bH ops)[g]?).bind (·.dst) with
   | none=>rfl
   | some d=>
    simp only[Option.bind_some,Act.eval,Array.getD_eq_getD_getElem?]
    generalize (lay (fun _=>true) y (bH ops).toList 0 a0.tmps)[d]?=q
    cases q with
    | none=>rfl
    | some v=>cases v<;>rfl
  have hi' : ((bH ops).toList.take m)[i]?=some o:=by rw[List.getElem?_take,if_pos him];simpa using hi
  have:=aP.at hstep i o hi' _ y w hwr hno hb hd
  rw[Nat.zero_add] at this
  rw[hsays]
  exact this
theorem Cy {l:List jJ} (hp:∀u,rl l q u w→∃g cs T,u = .pointer (some ⟨g,0,none⟩)∧aD w g cs T) (hq:∀u,rl l p u w→∃g cs T,u = .pointer (some ⟨g,0,none⟩)∧aD w g cs T):zJ (rl l) p q i (.pointer (some ⟨w.heap.size,0,none⟩)) w:=by
 refine⟨fun _ u hu e => ?_,fun _ u hu e => ?_⟩
 ·obtain⟨g,cs,T,rfl,hb⟩:=hp u hu
  have:=hb.lt
  injection e with e;have e:=Option.some.inj e;injection e with e1;omega
 ·obtain⟨g,cs,T,rfl,hb⟩:=hq u hu
  have:=hb.lt
  injection e with e;have e:=Option.some.inj e;injection e with e1;omega
end Pw
namespace Go.Proofs.YtjkkoeijlhfneaaGreat
open _root_.Go.Proofs.Tryz
open Go.RowKit Pw
variable {B B' b c cb cq g k n off q r sz:Nat} {P:Program} {Q:Exit → Act → World → Prop} {T e ty:TypeId} {a ab aq:Option Addr} {ca cs cs':Array Value} {d:nT} {l:List Int} {o:Oper} {ops:Array Oper} {rest:List Oper} {v vb vq:Value} {vs xs:List Value} {w w' w0 w4 w5:World} {x:Operand} {ρ:Operand → Value}
theorem int_info:(Tryz.prog.info? 3).map (fun i=>(i.zero,i.size,i.bytes))=some (some (.int .i64 0),1,8):=by kernel_rfl
theorem int_size:(Tryz.prog.info? 3).map (·.size)=some 1:=by kernel_rfl
theorem CP (l:List Int):(l.map eH).length=l.length*1:=by simp
theorem Dg (l:List Int):∀u∈l.map eH,u.oneCell' = true:=by
 intro u hu
 obtain⟨_,_,rfl⟩:=List.mem_map.1 hu
 rfl
theorem OZ (l:List Int) (k:Nat) (h:k<l.length):(l.map eH)[k]?=some (.int .i64 l[k]):=by simp[h,eH]
theorem iA (h:dA w a (l.map eH)) (k:Nat) (hk:k<l.length):∃b off,a=some ⟨b,off,none⟩∧w.cell? ⟨b,off+k,none⟩=some (.int .i64 l[k]):=by
 obtain⟨b,off,ha,hc⟩:=h.at (by simp;omega)
 exact⟨b,off,ha,hc _ _ (OZ l k hk)⟩
open Go.Maps
theorem int_key:Keyed Tryz.prog 3:=int_keyed underlying3
theorem Ed (w:World):(zeroValue 4).run Tryz.prog w = .ok (.bool false) w:=by kernel_rfl
theorem sM {H:Type} {x:Bool} {ps:List MemPlace} (h:plainElem (H:=H) Tryz.prog 4 v=some (.lit (.bool x),ps)):v = .bool x:=by
 unfold plainElem at h
 rw[underlying4] at h
 split at h<;>simp_all
def kE (w:World) (b n:Nat) (f:Int→Bool):Prop:=∃D:DataW Unit,w.ownsMap Tryz.prog 3 (plainElem Tryz.prog 4) b n D∧Pj D f
theorem kE.made (w:World):kE (w.alloc (.map #[] 0)) w.heap.size 0 (fun _=>false):=⟨_,World.ownsMap_made (H:=Unit) w Tryz.prog 3 (plainElem Tryz.prog 4),Pj.empty⟩
theorem kE.below {f:Int→Bool} (h:kE w b n f) (hb:Below w.heap.size w w'):kE w' b n f:=by
 obtain⟨D,h1,h2⟩:=h
 exact⟨D,Fu h1 hb,h2⟩
theorem kE.look {f:Int→Bool} (h:kE w b n f) (j:Int) (hj : -9223372036854775808≤j∧j≤9223372036854775807):(Instr.lookup 203 (.map (some b)) (.int .i64 j) false).run Tryz.prog w = .ok (.bool (f j)) w:=by
 obtain⟨D,h0,hf⟩:=h
 obtain⟨v,ps,h1,h2⟩:=h0.lookup int_key underlying203 (Ed w) (plainElem_bool underlying4 false) (keyOf_int_mk underlying3 (a:=j) (WalkArith.wf_i64 hj))
 rw[hf.at_ j] at h2
 rw[sM h2] at h1
 exact h1
theorem qw {a:Act} {f:Int→Bool} (hown:kE w b n f) (hn:n<1000000000) (hg:o.guard=none) (m x v:Operand) (hop:o.op=Op.mapUpdate 203 m x v)
 (hm:a.eval m = .map (some b)) (j:Int) (hx:a.eval x = .int .i64 j) (hv:a.eval v = .bool true) (hj : -9223372036854775808≤j∧j≤9223372036854775807)
 (hK:∀w',kE w' b (n+1) (fun i=>f i||decide (i=j))→w.grownBy w' (some b)→wpList Tryz.prog ops Q rest (a.put o.dst undef) w'):wpList Tryz.prog ops Q (o::rest) a w:=by
 obtain⟨D,h0,hf⟩:=hown
 exact wpList_mapUpdate_own _ hg m x v 203 hop 3 4 int_key underlying203 _ b n D hm h0 (by unfold maxLen;omega) _ _ _ hx hv (keyOf_int_mk underlying3 (WalkArith.wf_i64 hj)) _ [] (plainElem_bool underlying4 true) fun w' h1 h2=>hK w' ⟨_,h1,hf.put j⟩ h2
theorem kE.rdv {f:Int→Bool} (h:kE w b n f) (hr:dA w a vs) (hg:w.grownBy w' (some b)):dA w' a vs:=by
 intro i u hi
 obtain⟨b',off,ha,hc⟩:=hr i u hi
 refine⟨b',off,ha,hg.cell hc ?_⟩
 intro e
 cases e
 obtain⟨D,⟨es,clock,hb,_⟩,_⟩:=h
 simp[World.cell?,hb] at hc
theorem Qj (m:World→Prop) (h:∀W,Below w.heap.size w W→kE W w.heap.size 0 (fun _=>false)→m W):m (w.alloc (.map #[] 0)):=
 h _ ((Below.refl _ _).alloc (Nat.le_refl _) _) (kE.made w)
theorem Am (n:Int) (w:World) (h:n≤9223372036854775807) :
  Calls Tryz.prog 133 #[.int .i64 n] w fun e w'=>e = .returned (.int .i64 (dO n))∧w=w':=by
 by_cases h0:n≤0
 ·go_enter func133,ntmps133
  go_wp2
  go_ret
  exact⟨by simp[dO,h0],rfl⟩
 ·go_enter func133,ntmps133
  go_wp2
  go_ret
  exact⟨aV (by unfold dO;rw[if_neg (by omega)]),rfl⟩
theorem EN (n:Int) (w:World) (h:n≤9223372036854775807) :
  Calls Tryz.prog 31 #[.int .i64 n] w fun e w'=>e = .returned (.int .i64 (dO n))∧w=w':=by
 by_cases h0:n≤0
 ·go_enter func31,ntmps31
  go_wp2
  go_ret
  exact⟨by simp[dO,h0],rfl⟩
 ·go_enter func31,ntmps31
  go_wp2
  all_goals
   go_ret
   exact⟨aV (by unfold dO;rw[if_neg (by omega)];omega),rfl⟩
theorem byte_size:(Tryz.prog.info? 5).map (·.size)=some 1:=by kernel_rfl
def wz (p:Page):List Value:=(gD p).toList
def BN (q:Int × Page):Array Value:=#[.int .i64 q.1,.int .u8 q.2[0].toNat,.int .u8 q.2[1].toNat,.int .u8 q.2[2].toNat,.int .u8 q.2[3].toNat,.int .u8 q.2[4].toNat,.int .u8 q.2[5].toNat,.int .u8 q.2[6].toNat,.int .u8 q.2[7].toNat]
def tJ (q:Int × Page):List Value:=(BN q).toList
theorem jo (p:Page):(wz p).length=8:=rfl
theorem qQ (q:Int × Page):(tJ q).length=9:=rfl
theorem page_info:(Tryz.prog.info? 79).map (fun i=>(i.zero,i.size,i.bytes))=some (some (.agg #[.int .u8 0,.int .u8 0,.int .u8 0,.int .u8 0,.int .u8 0,.int .u8 0,.int .u8 0,.int .u8 0]),8,8):=by kernel_rfl
theorem put_info:(Tryz.prog.info? 86).map (fun i=>(i.zero,i.size,i.bytes))=some (some (.agg #[.int .i64 0,.int .u8 0,.int .u8 0,.int .u8 0,.int .u8 0,.int .u8 0,.int .u8 0,.int .u8 0,.int .u8 0]),9,16):=by kernel_rfl
theorem Iz (l:List Page):(l.flatMap wz).length=l.length*8:=Pw.flat_len _ _ jo l
theorem Lp (l:List (Int × Page)):(l.flatMap tJ).length=l.length*9:=Pw.flat_len _ _ qQ l
theorem JO (l:List Page):∀u∈l.flatMap wz,u.oneCell' = true:=by
 intro u hu
 obtain⟨p,_,hp⟩:=List.mem_flatMap.1 hu
 simp only[wz,gD,List.mem_cons,List.not_mem_nil,or_false] at hp
 rcases hp with rfl|rfl|rfl|rfl|rfl|rfl|rfl|rfl<;>rfl
theorem xQ (l:List (Int × Page)):∀u∈l.flatMap tJ,u.oneCell' = true:=by
 intro u hu
 obtain⟨p,_,hp⟩:=List.mem_flatMap.1 hu
 simp only[tJ,BN,List.mem_cons,List.not_mem_nil,or_false] at hp
 rcases hp with rfl|rfl|rfl|rfl|rfl|rfl|rfl|rfl|rfl<;>rfl
theorem vV (l:List Page) (a:Option Addr) (c:Nat) (w:World) (hle:l.length≤c) (hnil:a=none→c=0) (hrd:dA w a (l.flatMap wz)) (hb:l.length*8≤140737488355328) :
  Calls Tryz.prog 115 #[.slice a l.length c] w fun e w' => ∃v,e = .returned v∧Own w' w.heap.size 79 8 v l.length (l.flatMap wz)∧Below w.heap.size w w':=by
 cases a with
 | none=>
  have h0:=hnil rfl
  have hl:l=[]:=List.eq_nil_of_length_eq_zero (by omega)
  subst hl
  subst h0
  have hq:=fun W=>Lib.run_eql_slice_nil (P:=Tryz.prog) W 31 _ none 0 0 0 0 underlying31
  go_enter func115,ntmps115
  go_wp2
  go_ret
  exact⟨_,rfl,by simpa using Own.nil _ _ _ _,Below.refl _ _⟩
 | some ad=>
  have hq:=fun W=>Lib.run_eql_slice_nil (P:=Tryz.prog) W 31 _ (some ad) l.length c 0 0 underlying31
  go_enter func115,ntmps115
  go_wp2_with (at_builtin;go_must (refine dI rfl _ _ 31 rfl w.heap.size 79 (.agg #[.int .u8 0,.int .u8 0,.int .u8 0,.int .u8 0,.int .u8 0,.int .u8 0,.int .u8 0,.int .u8 0]) 8 8 underlying31 page_info rfl (by decide) _ 0 [] rfl ?own (some ad) l.length c (l.flatMap wz) rfl (fun h=>(by cases h)) hle (Iz l) ?rd (JO l) (by unfold maxLen;omega) (by simpa using hb) ?bb ?k))
  case own=>exact⟨rfl,.inr ⟨w.heap.size,0,0,#[],rfl,Nat.le_refl _,aD.new _ _ _,Nat.le_refl _,Nat.zero_le _,by simp,fun j u h=>by simp at h⟩⟩
  case rd=>exact hrd.below ((Below.refl _ _).alloc (Nat.le_refl _) _)
  case bb=>exact ed _ _
  intro v w1 hown hgr
  go_wp2
  go_ret
  exact⟨v,rfl,by simpa using hown,((Below.refl _ _).alloc (Nat.le_refl _) _).grown hgr (ed _ _) (fun k hk=>by cases hk;exact Nat.le_refl _)⟩
theorem DY (l:List (Int × Page)) (a:Option Addr) (c:Nat) (w:World) (hle:l.length≤c) (hnil:a=none→c=0) (hrd:dA w a (l.flatMap tJ)) (hb:l.length*16≤140737488355328) :
  Calls Tryz.prog 116 #[.slice a l.length c] w fun e w' => ∃v,e = .returned v∧Own w' w.heap.size 86 9 v l.length (l.flatMap tJ)∧Below w.heap.size w w':=by
 cases a with
 | none=>
  have h0:=hnil rfl
  have hl:l=[]:=List.eq_nil_of_length_eq_zero (by omega)
  subst hl
  subst h0
  have hq:=fun W=>Lib.run_eql_slice_nil (P:=Tryz.prog) W 32 _ none 0 0 0 0 underlying32
  go_enter func116,ntmps116
  go_wp2
  go_ret
  exact⟨_,rfl,by simpa using Own.nil _ _ _ _,Below.refl _ _⟩
 | some ad=>
  have hq:=fun W=>Lib.run_eql_slice_nil (P:=Tryz.prog) W 32 _ (some ad) l.length c 0 0 underlying32
  go_enter func116,ntmps116
  go_wp2_with (at_builtin;go_must (refine dI rfl _ _ 32 rfl w.heap.size 86 (.agg #[.int .i64 0,.int .u8 0,.int .u8 0,.int .u8 0,.int .u8 0,.int .u8 0,.int .u8 0,.int .u8 0,.int .u8 0]) 9 16 underlying32 put_info rfl (by decide) _ 0 [] rfl ?own (some ad) l.length c (l.flatMap tJ) rfl (fun h=>(by cases h)) hle (Lp l) ?rd (xQ l) (by unfold maxLen;omega) (by simpa using hb) ?bb ?k))
  case own=>exact⟨rfl,.inr ⟨w.heap.size,0,0,#[],rfl,Nat.le_refl _,aD.new _ _ _,Nat.le_refl _,Nat.zero_le _,by simp,fun j u h=>by simp at h⟩⟩
  case rd=>exact hrd.below ((Below.refl _ _).alloc (Nat.le_refl _) _)
  case bb=>exact ed _ _
  intro v w1 hown hgr
  go_wp2
  go_ret
  exact⟨v,rfl,by simpa using hown,((Below.refl _ _).alloc (Nat.le_refl _) _).grown hgr (ed _ _) (fun k hk=>by cases hk;exact Nat.le_refl _)⟩
structure GI (w:World) (ab:Option Addr) (cb:Nat) (aq:Option Addr) (cq:Nat) (d:nT):Prop where
 lb:d.blocks.length≤cb
 lq:d.queue.length≤cq
 mb:cb≤maxLen
 mq:cq≤maxLen
 nb:ab=none→cb=0
 nq:aq=none→cq=0
 rb:dA w ab (d.blocks.flatMap wz)
 rq:dA w aq (d.queue.flatMap tJ)
theorem GI.below (h:GI w ab cb aq cq d) (hb:Below w.heap.size w w'):GI w' ab cb aq cq d:=
 { h with rb:=h.rb.below hb,rq:=h.rq.below hb }
structure fQ (w:World) (B:Nat) (vb vq:Value) (d:nT):Prop where
 b:Own w B 79 8 vb d.blocks.length (d.blocks.flatMap wz)
 q:Own w B 86 9 vq d.queue.length (d.queue.flatMap tJ)
theorem fQ.below (h:fQ w B vb vq d) (hb:Below w.heap.size w w'):fQ w' B vb vq d:=⟨h.b.below hb,h.q.below hb⟩
theorem fQ.mono (h:fQ w B vb vq d) (hB:B'≤B):fQ w B' vb vq d:=⟨h.b.mono hB,h.q.mono hB⟩
theorem fQ.rd (h:fQ w B vb vq d):∃ab cb aq cq,vb = .slice ab d.blocks.length cb∧vq = .slice aq d.queue.length cq∧GI w ab cb aq cq d:=by
 obtain⟨ab,cb,rfl,h1,h2,h3,h4⟩:=h.b.rd
 obtain⟨aq,cq,rfl,g1,g2,g3,g4⟩:=h.q.rd
 exact⟨ab,cb,aq,cq,rfl,rfl,h1,g1,h2,g2,h3,g3,h4,g4⟩
theorem fQ.nil (w:World) (B:Nat):fQ w B (.slice none 0 0) (.slice none 0 0) ⟨[],[]⟩:=⟨Own.nil _ _ _ _,Own.nil _ _ _ _⟩
theorem Ay {l:List (Int × Page)} (h:dA w a (l.flatMap tJ)) (k:Nat) (hk:k<l.length):∃b off,a=some ⟨b,off,none⟩∧∀j,j<9→w.cell? ⟨b,off+k*9+j,none⟩=(BN l[k])[j]?:=by
 obtain⟨b,off,ha,hc⟩:=h.elem qQ (by decide) k hk
 refine⟨b,off,ha,fun j hj => ?_⟩
 have e:(tJ l[k])[j]?=some ((tJ l[k])[j]'(by rw[qQ];exact hj)):=List.getElem?_eq_getElem _
 rw[hc j _ e,←e]
 simp[tJ]
theorem Oh {l:List Page} (h:dA w a (l.flatMap wz)) (k:Nat) (hk:k<l.length):∃b off,a=some ⟨b,off,none⟩∧∀j,j<8→w.cell? ⟨b,off+k*8+j,none⟩=(gD l[k])[j]?:=by
 obtain⟨b,off,ha,hc⟩:=h.elem jo (by decide) k hk
 refine⟨b,off,ha,fun j hj => ?_⟩
 have e:(wz l[k])[j]?=some ((wz l[k])[j]'(by rw[jo];exact hj)):=List.getElem?_eq_getElem _
 rw[hc j _ e,←e]
 simp[wz]
theorem pY (d:nT) (ab:Option Addr) (cb:Nat) (aq:Option Addr) (cq:Nat) (w:World) (h:GI w ab cb aq cq d) :
  Calls Tryz.prog 93 #[.agg #[.slice ab d.blocks.length cb,.slice aq d.queue.length cq]] w fun e w'=>e = .returned (.int .i64 (aZ d))∧Below w.heap.size w w':=by
 have lb:=Nat.le_trans h.lb h.mb
 have lq:=Nat.le_trans h.lq h.mq
 unfold maxLen at lb lq
 have hrq:=h.rq
 unfold aZ
 obtain⟨B,Q⟩:=d
 simp only at *
 go_enter func93,ntmps93
 have hb0:Below w.heap.size w (w.alloc (.cells #[.slice ab B.length cb,.slice aq Q.length cq] 34)):=(Below.refl _ _).alloc (Nat.le_refl _) _
 by_cases h4:80<B.length∨400<Q.length
 ·rw[if_pos h4]
  have h4' : (80:Int)<(B.length:Int)∨(400:Int)<(Q.length:Int):=by omega
  clear h4
  rcases h4' with h4|h4
  all_goals
   go_wp2
   all_goals
    go_ret
    exact⟨rfl,hb0⟩
 ·rw[if_neg h4]
  have h41:¬(80:Int)<(B.length:Int):=by omega
  have h42:¬(400:Int)<(Q.length:Int):=by omega
  clear h4
  go_wp2
  go_loopw [18] (fun i wr => ∃k:Nat,k≤Q.length∧i = .int .i64 k∧Below w.heap.size w wr∧aD wr w.heap.size #[.slice ab B.length cb,.slice aq Q.length cq] 34∧∀i (h:i<Q.length),i<k→qm B.length Q[i]=false) (fun i _=>Q.length-(intOf i).toNat)
  case atStart=>exact⟨0,Nat.zero_le _,rfl,hb0,aD.new _ _ _,fun i _ h=>absurd h (Nat.not_lt_zero _)⟩
  case round=>
   obtain⟨k,hk,rfl,hbel,hblk,hp⟩:=hrel
   by_cases hlt:k<Q.length
   ·obtain⟨b,off,rfl,hc⟩:=Ay (hrq.below hbel) k hlt
    have c0:=hc 0 (by decide);have c1:=hc 1 (by decide);have c2:=hc 2 (by decide);have c3:=hc 3 (by decide);have c4:=hc 4 (by decide)
    have c5:=hc 5 (by decide);have c6:=hc 6 (by decide);have c7:=hc 7 (by decide);have c8:=hc 8 (by decide)
    simp only[BN,List.getElem?_toArray,List.getElem?_cons_zero,List.getElem?_cons_succ,Nat.add_zero] at c0 c1 c2 c3 c4 c5 c6 c7 c8
    clear hc
    have hcd:=fun o=>(hblk.alloc o).cell
    by_cases hbad:Q[k].1<0∨(B.length:Int)≤Q[k].1
    ·have hbk:qm B.length Q[k]=true:=by simpa[qm] using hbad
     have ha:Q.any (qm B.length)=true:=List.any_eq_true.2 ⟨_,List.getElem_mem hlt,hbk⟩
     rcases hbad with hbad|hbad
     all_goals
      go_wp2
      all_goals
       go_ret
       exact⟨by simp[ha],hbel.alloc hbel.size _⟩
    ·have n1:¬Q[k].1<0:=by omega
     have n2:¬(B.length:Int)≤Q[k].1:=by omega
     have hbk:qm B.length Q[k]=false:=by simp[qm];omega
     clear hbad
     go_wp2
     go_roundw
     case rel=>exact⟨k+1,by omega,by go_num,hbel.alloc hbel.size _,hblk.alloc _,kV hp hlt hbk⟩
     case measure=>simp[intOf];omega
   ·have ha:Q.any (qm B.length)=false:=by
     rw[List.any_eq_false]
     intro x hx
     obtain⟨i,hi,rfl⟩:=List.mem_iff_getElem.1 hx
     simp[hp i hi (by omega)]
    go_wp2
    all_goals
     go_ret
     exact⟨by simp[ha],hbel⟩
theorem Dw (d:nT) (ab:Option Addr) (cb:Nat) (aq:Option Addr) (cq:Nat) (w:World) (h:GI w ab cb aq cq d) :
  Calls Tryz.prog 62 #[.agg #[.slice ab d.blocks.length cb,.slice aq d.queue.length cq]] w fun e w'=>e = .returned (.int .i64 (aZ d))∧Below w.heap.size w w':=by
 have lb:=Nat.le_trans h.lb h.mb
 have lq:=Nat.le_trans h.lq h.mq
 unfold maxLen at lb lq
 have hrq:=h.rq
 unfold aZ
 obtain⟨B,Q⟩:=d
 simp only at *
 go_enter func62,ntmps62
 have hb0:Below w.heap.size w (w.alloc (.cells #[.slice ab B.length cb,.slice aq Q.length cq] 34)):=(Below.refl _ _).alloc (Nat.le_refl _) _
 by_cases h4:80<B.length∨400<Q.length
 ·rw[if_pos h4]
  have h4' : (80:Int)<(B.length:Int)∨(400:Int)<(Q.length:Int):=by omega
  clear h4
  rcases h4' with h4|h4
  all_goals
   go_wp2
   all_goals
    go_ret
    exact⟨rfl,hb0⟩
 ·rw[if_neg h4]
  have h41:¬(80:Int)<(B.length:Int):=by omega
  have h42:¬(400:Int)<(Q.length:Int):=by omega
  clear h4
  go_wp2
  go_loopw [18] (fun i wr => ∃k:Nat,k≤Q.length∧i = .int .i64 k∧Below w.heap.size w wr∧aD wr w.heap.size #[.slice ab B.length cb,.slice aq Q.length cq] 34∧∀i (h:i<Q.length),i<k→qm B.length Q[i]=false) (fun i _=>Q.length-(intOf i).toNat)
  case atStart=>exact⟨0,Nat.zero_le _,rfl,hb0,aD.new _ _ _,fun i _ h=>absurd h (Nat.not_lt_zero _)⟩
  case round=>
   obtain⟨k,hk,rfl,hbel,hblk,hp⟩:=hrel
   by_cases hlt:k<Q.length
   ·obtain⟨b,off,rfl,hc⟩:=Ay (hrq.below hbel) k hlt
    have c0:=hc 0 (by decide);have c1:=hc 1 (by decide);have c2:=hc 2 (by decide);have c3:=hc 3 (by decide);have c4:=hc 4 (by decide)
    have c5:=hc 5 (by decide);have c6:=hc 6 (by decide);have c7:=hc 7 (by decide);have c8:=hc 8 (by decide)
    simp only[BN,List.getElem?_toArray,List.getElem?_cons_zero,List.getElem?_cons_succ,Nat.add_zero] at c0 c1 c2 c3 c4 c5 c6 c7 c8
    clear hc
    have hcd:=fun o=>(hblk.alloc o).cell
    by_cases hbad:Q[k].1<0∨(B.length:Int)≤Q[k].1
    ·have hbk:qm B.length Q[k]=true:=by simpa[qm] using hbad
     have ha:Q.any (qm B.length)=true:=List.any_eq_true.2 ⟨_,List.getElem_mem hlt,hbk⟩
     rcases hbad with hbad|hbad
     all_goals
      go_wp2
      all_goals
       go_ret
       exact⟨by simp[ha],hbel.alloc hbel.size _⟩
    ·have n1:¬Q[k].1<0:=by omega
     have n2:¬(B.length:Int)≤Q[k].1:=by omega
     have hbk:qm B.length Q[k]=false:=by simp[qm];omega
     clear hbad
     go_wp2
     go_roundw
     case rel=>exact⟨k+1,by omega,by go_num,hbel.alloc hbel.size _,hblk.alloc _,kV hp hlt hbk⟩
     case measure=>simp[intOf];omega
   ·have ha:Q.any (qm B.length)=false:=by
     rw[List.any_eq_false]
     intro x hx
     obtain⟨i,hi,rfl⟩:=List.mem_iff_getElem.1 hx
     simp[hp i hi (by omega)]
    go_wp2
    all_goals
     go_ret
     exact⟨by simp[ha],hbel⟩
theorem fQ.keep (h:fQ w B vb vq d) (hk:aD w g cs T) (h1:T≠79) (h2:T≠86) (hgr:w.grownBy w' (some g)):fQ w' B vb vq d:=
 ⟨ak h.b hk h1 hgr,ak h.q hk h2 hgr⟩
def rJ (B:Nat) (d:nT):jJ:=⟨fun v w => ∃vb vq,v = .agg #[vb,vq]∧fQ w B vb vq d,fun _ _ _ hb ⟨vb,vq,h1,h2⟩=>⟨vb,vq,h1,h2.below hb⟩⟩
theorem psize:(Tryz.prog.info? 79).map (·.size)=some 8:=by kernel_rfl
theorem zz_fit:(#[.int .u8 0,.int .u8 0,.int .u8 0,.int .u8 0,.int .u8 0,.int .u8 0,.int .u8 0,.int .u8 0]:Array Value).size=(#[.int .u8 0,.int .u8 0,.int .u8 0,.int .u8 0,.int .u8 0,.int .u8 0,.int .u8 0,.int .u8 0]:Array Value).size:=rfl
theorem zz_one:(#[.int .u8 0,.int .u8 0,.int .u8 0,.int .u8 0,.int .u8 0,.int .u8 0,.int .u8 0,.int .u8 0]:Array Value).all (·.oneCell')=true:=by simp[Value.oneCell']
theorem zz_info:(Tryz.prog.info? 79).map (·.size)=some (#[.int .u8 0,.int .u8 0,.int .u8 0,.int .u8 0,.int .u8 0,.int .u8 0,.int .u8 0,.int .u8 0]:Array Value).size:=psize
theorem OM (p:Page):(gD p).size=(#[.int .u8 0,.int .u8 0,.int .u8 0,.int .u8 0,.int .u8 0,.int .u8 0,.int .u8 0,.int .u8 0]:Array Value).size:=rfl
theorem NV (p q:Page):(gD p).size=(gD q).size:=rfl
theorem wZ (p:Page):(Tryz.prog.info? 79).map (·.size)=some (gD p).size:=psize
theorem disk_size:(Tryz.prog.info? 34).map (·.size)=some 2:=by kernel_rfl
theorem xn (d:nT) (ab:Option Addr) (cb:Nat) (aq:Option Addr) (cq:Nat) (w:World) (h:GI w ab cb aq cq d) (h80:d.blocks.length*8≤140737488355328) (h400:d.queue.length*16≤140737488355328) :
  Calls Tryz.prog 75 #[.agg #[.slice ab d.blocks.length cb,.slice aq d.queue.length cq]] w fun e w' => ∃vb vq,e = .returned (.agg #[vb,vq])∧fQ w' w.heap.size vb vq d∧Below w.heap.size w w':=by
 go_enter func75,ntmps75
 go_upto_region 1 with (fail)
 have hbel0:Below w.heap.size w ((w.alloc (.cells #[.slice ab d.blocks.length cb,.slice aq d.queue.length cq] 34)).alloc (.cells #[.slice none 0 0,.slice none 0 0] 34)):=((Below.refl _ _).alloc (Nat.le_refl _) _).alloc (ed _ _) _
 have hblk:aD ((w.alloc (.cells #[.slice ab d.blocks.length cb,.slice aq d.queue.length cq] 34)).alloc (.cells #[.slice none 0 0,.slice none 0 0] 34)) w.heap.size #[.slice ab d.blocks.length cb,.slice aq d.queue.length cq] 34:=(aD.new _ _ _).alloc _
 have hout:aD ((w.alloc (.cells #[.slice ab d.blocks.length cb,.slice aq d.queue.length cq] 34)).alloc (.cells #[.slice none 0 0,.slice none 0 0] 34)) (w.heap.size+1) #[.slice none 0 0,.slice none 0 0] 34:=by simpa using aD.new (w.alloc (.cells #[.slice ab d.blocks.length cb,.slice aq d.queue.length cq] 34)) _ _
 have h0:=h.below hbel0
 refine aG 7 [_,_,.r 2 ((lh w.heap.size 79 8 d.blocks.length (d.blocks.flatMap wz))),_,_,.r 5 ((lh w.heap.size 86 9 d.queue.length (d.queue.flatMap tJ))),.r 6 ((rJ w.heap.size d))] (Gf w.heap.size 0 rfl rfl (Gl hblk (V:=.slice ab d.blocks.length cb) (by simp[underlying31]) rfl rfl rfl rfl (ae ?_ (Gf w.heap.size 1 rfl rfl (Gl hblk (V:=.slice aq d.queue.length cq) (by simp[underlying32]) rfl rfl rfl rfl (ae ?_ (ae ?_ (aB)))))))) (fun _=>rfl) rfl ?_
 ·intro ρ y W hw hn hb hd;have E4:=hw 4 1 rfl;have h1:y 1=_:=hd 1 rfl
  have EF:∀f,ρ (.func f) = .func (.func f) #[] #[]:=fun f=>hn (.func f) trivial
  refine aM _ _ (ah rfl) (aN rfl (EF _) func115 (by kernel_rfl) (by kernel_rfl) (by simp only[List.map_toArray,List.map_cons,List.map_nil,E4,h1,EF];rfl)) ?_
  refine (vV d.blocks ab cb W h0.lb h0.nb (h0.below hb).rb h80).mono ?_
  rintro e w1 ⟨v,rfl,ho,hb1⟩
  exact⟨v,rfl,hb1,ho.mono (Nat.le_trans hbel0.size hb.size)⟩
 ·intro ρ y W hw hn hb hd;have E7:=hw 7 4 rfl;have h4:y 4=_:=hd 4 rfl
  have EF:∀f,ρ (.func f) = .func (.func f) #[] #[]:=fun f=>hn (.func f) trivial
  refine aM _ _ (ah rfl) (aN rfl (EF _) func116 (by kernel_rfl) (by kernel_rfl) (by simp only[List.map_toArray,List.map_cons,List.map_nil,E7,h4,EF];rfl)) ?_
  refine (DY d.queue aq cq W h0.lq h0.nq (h0.below hb).rq h400).mono ?_
  rintro e w1 ⟨v,rfl,ho,hb1⟩
  exact⟨v,rfl,hb1,ho.mono (Nat.le_trans hbel0.size hb.size)⟩
 ·intro ρ y W hw hn hb hd;have E5:=hw 5 2 rfl;have h2:=hd 2 rfl;have E8:=hw 8 5 rfl;have h5:=hd 5 rfl
  obtain⟨x2,c2,e2,_⟩:=Own.rd h2
  obtain⟨x5,c5,e5,_⟩:=Own.rd h5
  refine aj (.agg #[y 2,y 5]) (ah rfl) (by simp[execOp,go_sem,E5,E8,e2,e5]) ?_
  exact⟨_,_,rfl,h2,h5⟩
 intro y WA hbWA hRWA
 have hy2:((lh w.heap.size 79 8 d.blocks.length (d.blocks.flatMap wz))).r (y 2) WA:=hRWA 2 (by decide)
 have hy5:((lh w.heap.size 86 9 d.queue.length (d.queue.flatMap tJ))).r (y 5) WA:=hRWA 5 (by decide)
 have hy6:((rJ w.heap.size d)).r (y 6) WA:=hRWA 6 (by decide)
 clear hRWA
 obtain⟨vb,vq,e6,ho⟩:=hy6
 rw[e6]
 clear hy2 hy5 e6
 have hbelA:=ag hbel0 hbWA
 obtain⟨xb,cb',xq,cq',rfl,rfl,_⟩:=ho.rd
 refine ax rfl _ (.tmp 2) (.tmp 9) rfl (w.heap.size+1) _ rfl rfl _ _ (hout.ext hbWA) rfl disk_size (by simp[Value.oneCell']) ?_
 intro w2 hq hgr
 have hbel2:Below w.heap.size w w2:=hbelA.grown hgr hbelA.size (fun k hk=>by cases hk;omega)
 have hc:=hq.cell
 go_wp2
 simp[bodyPost,results,go_sem,results75,hc]
 exact⟨_,_,⟨rfl,rfl⟩,ho.keep (hout.ext hbWA) (by decide) (by decide) hgr,hbel2⟩
theorem qB (a b c d:Value):(#[a,b]:Array Value).size=(#[c,d]:Array Value).size:=rfl
theorem pE (a b:Value):(Tryz.prog.info? 34).map (·.size)=some (#[a,b]:Array Value).size:=disk_size
theorem xD (d:nT) (k:Int) (p:Page) (ab:Option Addr) (cb:Nat) (aq:Option Addr) (cq:Nat) (w:World) (h:GI w ab cb aq cq d) :
  Calls Tryz.prog 92 #[.agg #[.slice ab d.blocks.length cb,.slice aq d.queue.length cq],.int .i64 k,.agg (gD p)] w fun e w' => ∃vb vq,e = .returned (.tuple #[.agg #[vb,vq],.int .i64 (aH d k)])∧fQ w' w.heap.size vb vq (bT d k p)∧Below w.heap.size w w':=by
 go_enter func92,ntmps92
 go_wp2_with fail
 refine KQ (fun W=>Calls _ _ _ W _) fun W0 hb0 hbox0 hpg0 hres0 hs0 => ?_
 refine (pY d ab cb aq cq _ (h.below hb0)).mono ?_
 rintro e w1 ⟨rfl,hb1⟩
 have hbel1:=ag hb0 hb1
 have hbox1:=hbox0.ext hb1
 have hpg1:=hpg0.ext hb1
 have hres1:=hres0.ext hb1
 have h1:=h.below hbel1
 clear hbox0 hpg0 hres0 hb1 hb0 h hs0
 have hc1:=hbox1.cell
 by_cases hw:aZ d=0
 ·rw[hw]
  obtain⟨l80,l400⟩:=vL hw
  by_cases hk:k<0∨(d.blocks.length:Int)≤k
  ·have q1:aH d k=3:=by unfold aH;rw[if_neg (by omega),if_pos hk]
   have q2:bT d k p=⟨[],[]⟩:=by unfold bT;rw[if_neg (by omega)]
   rcases hk with hk|hk
   all_goals
    go_wp2_with (refine ax rfl _ (.tmp 6) (.tmp 26) rfl (w.heap.size+2) #[.slice none 0 0,.slice none 0 0] rfl rfl _ _ hres1 rfl disk_size (jW _ _ _ _ _ _) ?_)
    all_goals
     intro w2 hr2 hgr
     have hbel2:=hbel1.grown hgr hbel1.size (fun k hk=>by cases hk;omega)
     have hcr:=hr2.cell
     go_wp2
     simp[bodyPost,results,go_sem,results92,hcr,q1]
     exact⟨_,_,⟨rfl,rfl⟩,by rw[q2];exact fQ.nil _ _,hbel2⟩
  ·obtain⟨k,rfl⟩:=Int.eq_ofNat_of_zero_le (show 0≤k by omega)
   have hkl:k<d.blocks.length:=by omega
   have k1:¬(d.blocks.length:Int)≤(k:Int):=by omega
   have q1:aH d k=0:=by unfold aH;rw[if_neg (by omega),if_neg hk]
   have q2:bT d k p=gK d (k,p):=by unfold bT;rw[if_pos q1]
   have Q2:=Lib.hid q2
   clear hk q2
   go_wp2_with fail
   refine (xn d ab cb aq cq _ h1 (by omega) (by omega)).mono ?_
   rintro e w2 ⟨vb,vq,rfl,ho,hb2⟩
   have hbel2:=ag hbel1 hb2
   have hpg2:=hpg1.ext hb2
   have hres2:=hres1.ext hb2
   have hge1:w.heap.size+3≤w1.heap.size:=by have:=hres1.lt;omega
   have hge2:w.heap.size+3≤w2.heap.size:=Nat.le_trans (show w.heap.size+3≤w1.heap.size by have:=hres1.lt;omega) hb2.size
   clear hbox1 hpg1 hres1 hb2 h1 hc1
   obtain⟨xb,cb',xq,cq',rfl,rfl,hrd2⟩:=ho.rd
   have hlq:=hrd2.lq
   go_upto_region 7 with (fail)
   refine gB (fun W=>Code.wp _ _ _ _ W) fun w3 hb3 hout3 hs3 => ?_
   have ho3:=ho.below hb3
   have hbel3:=ag hbel2 hb3
   have hpg3:=hpg2.ext hb3
   have hres3:=hres2.ext hb3
   have hge3:w.heap.size+3≤w2.heap.size:=hge2
   clear ho hrd2 hpg2 hres2 hb3
   have hlt3:w2.heap.size<w3.heap.size:=by omega
   clear hs3
   have hc9:=hout3.cell
   by_cases h4:d.queue.length=400
   ·have Q3:=Lib.hid (Jv d ((k:Int),p) h4)
    have h4' : ((d.queue.length:Int)==400)=true:=by rw[h4];rfl
    have hqn:0<d.queue.length:=by omega
    obtain⟨hin1,hin2⟩:=vG hw 0 hqn
    generalize hq0:d.queue[0]=q0 at *
    obtain⟨i0,hi0⟩:=Int.eq_ofNat_of_zero_le hin1
    have hi0' : i0<d.blocks.length:=by omega
    obtain⟨gq,offq,capq,curq,hvq,hBq,hgq,hfq,hcq,hsetq⟩:=ho3.q.put qQ (by decide) 0 hqn
    obtain⟨gb,offb,capb,curb,hvb,hBb,hgb,hfb,hcb,hsetb⟩:=ho3.b.put jo (by decide) i0 hi0'
    cases hvq
    cases hvb
    rw[hq0] at hcq
    have c0:=hcq 0 _ rfl;have c1:=hcq 1 _ rfl;have c2:=hcq 2 _ rfl;have c3:=hcq 3 _ rfl;have c4:=hcq 4 _ rfl
    have c5:=hcq 5 _ rfl;have c6:=hcq 6 _ rfl;have c7:=hcq 7 _ rfl;have c8:=hcq 8 _ rfl
    simp only[Nat.zero_mul,Nat.add_zero,hi0] at c0 c1 c2 c3 c4 c5 c6 c7 c8
    have n1:(0:Int)<(d.queue.length:Int):=by omega
    have n2:(i0:Int)<(d.blocks.length:Int):=by omega
    have hcd:=fun o=>(hout3.alloc o).cell
    clear hcq hcb hsetq hin1 hin2
    go_wp2_with (refine fq rfl _ (.tmp 43) (.tmp 42) rfl gb (offb+i0*8) (gD q0.2) rfl rfl curb 79 (hgb.alloc _) (by rw[CJ];omega) (wZ _) (iL _) ?_)
    intro w5 hq5 hgr5
    have hB5:=hsetb w5 q0.2 hq5
    have hQ5:=ak (ho3.q.alloc _) (hgb.alloc _) (by decide) hgr5
    have hout5:=aW (hout3.alloc _) (hgb.alloc _) (by decide) hgr5
    have hres5:=aW (hres3.alloc _) (hgb.alloc _) (by decide) hgr5
    have hpg5:=(hpg3.alloc _).grown hgr5 (by intro he;cases he;omega)
    have hbel5:Below w.heap.size w w5:=(hbel3.alloc hbel3.size _).grown hgr5 (bQ hbel3.size _) (fun k hk=>by cases hk;omega)
    clear hq5 hgr5 hsetb hgb hcd hout3 hres3 hpg3 ho3 c0 c1 c2 c3 c4 c5 c6 c7 c8 hbel3 hc9 hgq
    have hc9:=hout5.cell
    have hf9:=hout5.free
    have hcne:¬cq' = 1:=by omega
    go_upto_region 11 with (fail)
    have hl:(d.queue.drop 1).length=399:=by simp;omega
    have hQ5':=(hQ5.drop qQ 1 hqn).mono hbel1.size
    rw[hl,Nat.one_mul] at hQ5'
    have hQ6:=qf hQ5' hout5 (by decide) 1 (.slice (some ⟨gq,offq+9,none⟩) 399 (cq' - 1))
    have hB6:=qf (hB5.mono hbel1.size) hout5 (by decide) 1 (.slice (some ⟨gq,offq+9,none⟩) 399 (cq' - 1))
    have hout6:=hout5.setCell 1 (.slice (some ⟨gq,offq+9,none⟩) 399 (cq' - 1))
    have hres6:=hres5.setCell_other ⟨w2.heap.size,1,none⟩ (.slice (some ⟨gq,offq+9,none⟩) 399 (cq' - 1)) (by simp;omega)
    have hpg6:=hpg5.setCell_other ⟨w2.heap.size,1,none⟩ (.slice (some ⟨gq,offq+9,none⟩) 399 (cq' - 1)) (by simp;omega)
    have hbel6:Below w.heap.size w (w5.setCell ⟨w2.heap.size,1,none⟩ (.slice (some ⟨gq,offq+9,none⟩) 399 (cq' - 1))):=hbel5.setCell (by simp;omega) _
    have hlt6:w2.heap.size<(w5.setCell ⟨w2.heap.size,1,none⟩ (.slice (some ⟨gq,offq+9,none⟩) 399 (cq' - 1))).heap.size:=hout6.lt
    clear hQ5 hQ5' hB5 hout5 hres5 hpg5 hbel5 hf9 hc9
    generalize w5.setCell ⟨w2.heap.size,1,none⟩ (.slice (some ⟨gq,offq+9,none⟩) 399 (cq' - 1))=w6 at *
    have hc9:=hout6.cell
    have hcp:=hpg6.cell
    obtain⟨e0,e1,e2,e3,e4,e5,e6,e7⟩:=BH p
    have hpp : #[Value.int .u8 p[0].toNat,Value.int .u8 p[1].toNat,Value.int .u8 p[2].toNat,Value.int .u8 p[3].toNat,Value.int .u8 p[4].toNat,Value.int .u8 p[5].toNat,Value.int .u8 p[6].toNat,Value.int .u8 p[7].toNat]=gD p:=rfl
    clear hpp
    go_wp2_with (at_builtin;(refine dI rfl _ _ 32 rfl w.heap.size 86 _ 9 16 underlying32 put_info rfl (by decide) _ 399 ((d.queue.drop 1).flatMap tJ) rfl ?own (some ⟨w6.heap.size,0,none⟩) 1 1 (tJ ((k:Int),p)) rfl (fun h=>(by cases h)) (Nat.le_refl _) rfl ?rd (fun u hu=>xQ [((k:Int),p)] u (by simpa using hu)) (by unfold maxLen;omega) (by omega) ?bb ?app))
    case own=>exact hQ6.alloc _
    case rd=>exact dA.new _ (BN ((k:Int),p)) _
    case bb=>exact bQ hbel6.size _
    intro v w4 hown hgr
    have hq3:=hQ6.alloc (.cells #[.int .i64 k,.int .u8 p[0].toNat,.int .u8 p[1].toNat,.int .u8 p[2].toNat,.int .u8 p[3].toNat,.int .u8 p[4].toNat,.int .u8 p[5].toNat,.int .u8 p[6].toNat,.int .u8 p[7].toNat] 86)
    have hb4:=uf (hB6.alloc _) hq3 (by decide) hgr
    have hout4:=iR (hout6.alloc _) hq3 (by decide) hgr
    have hres4:=iR (hres6.alloc _) hq3 (by decide) hgr
    have hbel4:Below w.heap.size w w4:=(hbel6.alloc hbel6.size _).grown hgr (bQ hbel6.size _) hq3.ge
    obtain⟨x4,c4,rfl,_⟩:=hown.rd
    clear e0 e1 e2 e3 e4 e5 e6 e7 hcp hgr hq3 hB6 hQ6 hout6 hres6 hpg6 hc9
    have hc9:=hout4.cell
    have hf9:=hout4.free
    go_wp2_with (refine ax rfl _ (.tmp 6) (.tmp 56) rfl (w.heap.size+2) #[.slice (some ⟨gb,offb,none⟩) d.blocks.length cb',.slice x4 (399+1) c4] rfl rfl _ _ (hres4.setCell_other _ _ (by simp;omega)) (qB _ _ _ _) (pE _ _) (jW _ _ _ _ _ _) ?_)
    intro w7 hr5 hgr5
    have hres4':=hres4.setCell_other ⟨w2.heap.size,1,none⟩ (.slice x4 (399+1) c4) (by simp;omega)
    have hb5:=ak (qf hb4 hout4 (by decide) 1 (.slice x4 (399+1) c4)) hres4' (by decide) hgr5
    have hq5:=ak (qf hown hout4 (by decide) 1 (.slice x4 (399+1) c4)) hres4' (by decide) hgr5
    have hbs:Below w.heap.size w (w4.setCell ⟨w2.heap.size,1,none⟩ (.slice x4 (399+1) c4)):=hbel4.setCell (by simp;omega) _
    have hbel7:Below w.heap.size w w7:=hbs.grown hgr5 hbs.size (fun k hk=>by cases hk;omega)
    have hcr:=hr5.cell
    clear hb4 hown hout4 hres4 hres4' hgr5 hbel4 hbs hc9 hf9
    go_wp2
    simp[bodyPost,results,go_sem,results92,hcr,q1]
    refine⟨_,_,⟨rfl,rfl⟩,?_,hbel7⟩
    rw[Q2.out,Q3.out]
    rw[hi0,Int.toNat_natCast]
    have e9:(d.queue.drop 1++[((k:Int),p)]).length=399+1:=by simp;omega
    exact⟨by rw[List.length_set];exact hb5,by rw[e9,List.flatMap_append];simpa using hq5⟩
   ·have Q3:=Lib.hid (Ih d ((k:Int),p) h4)
    have h4' : ((d.queue.length:Int)==400)=false:=by simp;omega
    have hcp:=hpg3.cell
    obtain⟨e0,e1,e2,e3,e4,e5,e6,e7⟩:=BH p
    have hpp : #[Value.int .u8 p[0].toNat,Value.int .u8 p[1].toNat,Value.int .u8 p[2].toNat,Value.int .u8 p[3].toNat,Value.int .u8 p[4].toNat,Value.int .u8 p[5].toNat,Value.int .u8 p[6].toNat,Value.int .u8 p[7].toNat]=gD p:=rfl
    clear hpp
    go_wp2_with (at_builtin;(refine dI rfl _ _ 32 rfl w.heap.size 86 _ 9 16 underlying32 put_info rfl (by decide) _ d.queue.length (d.queue.flatMap tJ) rfl ?own2 (some ⟨w3.heap.size,0,none⟩) 1 1 (tJ ((k:Int),p)) rfl (fun h=>(by cases h)) (Nat.le_refl _) rfl ?rd2 (fun u hu=>xQ [((k:Int),p)] u (by simpa using hu)) (by unfold maxLen;omega) (by omega) ?bb2 ?app2))
    case own2=>exact (ho3.q.mono hbel1.size).alloc _
    case rd2=>exact dA.new _ (BN ((k:Int),p)) _
    case bb2=>exact bQ hbel3.size _
    intro v w4 hown hgr
    have hq3:=(ho3.q.mono hbel1.size).alloc (.cells #[.int .i64 k,.int .u8 p[0].toNat,.int .u8 p[1].toNat,.int .u8 p[2].toNat,.int .u8 p[3].toNat,.int .u8 p[4].toNat,.int .u8 p[5].toNat,.int .u8 p[6].toNat,.int .u8 p[7].toNat] 86)
    have hb4:=uf ((ho3.b.mono hbel1.size).alloc _) hq3 (by decide) hgr
    have hout4:=iR (hout3.alloc _) hq3 (by decide) hgr
    have hres4:=iR (hres3.alloc _) hq3 (by decide) hgr
    have hbel4:Below w.heap.size w w4:=(hbel3.alloc hbel3.size _).grown hgr (bQ hbel3.size _) hq3.ge
    obtain⟨x4,c4,rfl,_⟩:=hown.rd
    clear e0 e1 e2 e3 e4 e5 e6 e7 hcp hgr hq3 ho3 hout3 hres3 hpg3 hc9
    have hc9:=hout4.cell
    have hf9:=hout4.free
    go_wp2_with (refine ax rfl _ (.tmp 6) (.tmp 56) rfl (w.heap.size+2) #[.slice xb d.blocks.length cb',.slice x4 (d.queue.length+1) c4] rfl rfl _ _ (hres4.setCell_other _ _ (by simp;omega)) (qB _ _ _ _) (pE _ _) (jW _ _ _ _ _ _) ?_)
    intro w5 hr5 hgr5
    have hres4':=hres4.setCell_other ⟨w2.heap.size,1,none⟩ (.slice x4 (d.queue.length+1) c4) (by simp;omega)
    have hb5:=ak (qf hb4 hout4 (by decide) 1 (.slice x4 (d.queue.length+1) c4)) hres4' (by decide) hgr5
    have hq5:=ak (qf hown hout4 (by decide) 1 (.slice x4 (d.queue.length+1) c4)) hres4' (by decide) hgr5
    have hbs:Below w.heap.size w (w4.setCell ⟨w2.heap.size,1,none⟩ (.slice x4 (d.queue.length+1) c4)):=hbel4.setCell (by simp;omega) _
    have hbel5:Below w.heap.size w w5:=hbs.grown hgr5 hbs.size (fun k hk=>by cases hk;omega)
    have hcr:=hr5.cell
    clear hb4 hown hout4 hres4 hres4' hgr5 hbel4 hbs hc9 hf9
    go_wp2
    simp[bodyPost,results,go_sem,results92,hcr,q1]
    refine⟨_,_,⟨rfl,rfl⟩,?_,hbel5⟩
    rw[Q2.out,Q3.out]
    exact⟨hb5,by simpa[List.flatMap_append] using hq5⟩
 ·have q1:aH d k=aZ d:=by unfold aH;rw[if_pos hw]
  have q2:bT d k p=⟨[],[]⟩:=by unfold bT;rw[if_neg (by omega)]
  have hw' : (aZ d != 0)=true:=by simpa using hw
  go_wp2_with (refine ax rfl _ (.tmp 6) (.tmp 15) rfl (w.heap.size+2) #[.slice none 0 0,.slice none 0 0] rfl rfl _ _ hres1 rfl disk_size (jW _ _ _ _ _ _) ?_)
  intro w2 hr2 hgr
  have hbel2:=hbel1.grown hgr hbel1.size (fun k hk=>by cases hk;omega)
  have hcr:=hr2.cell
  go_wp2
  simp[bodyPost,results,go_sem,results92,hcr,q1]
  exact⟨_,_,⟨rfl,rfl⟩,by rw[q2];exact fQ.nil _ _,hbel2⟩
theorem EB (i:Nat) (bits:Int) (b:Nat) (hi:i≤400) (w:World) (hb:aD w b #[.int .i64 bits] 3):Calls Tryz.prog 100 #[.int .i64 i,.pointer (some ⟨b,0,none⟩)] w fun e w'=>e = .returned (.bool (kI bits i))∧w' = w:=by
 have hc:=hb.cell
 go_enter func100,ntmps100
 go_wp2
 go_ret
 exact⟨rfl,rfl⟩
theorem Df (n:Int) (w:World) :
  Calls Tryz.prog 98 #[.int .i64 n] w fun e w' => ∃vb vq,e = .returned (.tuple #[.agg #[vb,vq],.int .i64 (Ga n)])∧fQ w' w.heap.size vb vq (lW n)∧Below w.heap.size w w':=by
 have hres0:=aD.new w #[.slice none 0 0,.slice none 0 0] 34
 have hbel0:Below w.heap.size w (w.alloc (.cells #[.slice none 0 0,.slice none 0 0] 34)):=(Below.refl _ _).alloc (Nat.le_refl _) _
 unfold lW Ga
 by_cases h:0≤n∧n≤80
 ·obtain⟨m,rfl⟩:=Int.eq_ofNat_of_zero_le h.1
  have h1:(m:Int)≤80:=h.2
  rw[if_pos h,if_pos h]
  go_enter func98,ntmps98
  go_wp2_with (refine qV _ rfl (.tmp 11) (.tmp 11) 31 rfl wz 79 _ 8 8 zPg jo (by decide) underlying31 page_info rfl .i64 .i64 m m m rfl rfl rfl rfl (by omega) (by unfold maxLen;omega) ?_)
  intro w2 ho hgr
  have hres2:=hres0.grown hgr (by intro he;cases he)
  have hbel2:=hbel0.grown hgr hbel0.size (fun k hk=>by cases hk)
  go_wp2_with (refine ax rfl _ (.tmp 2) (.tmp 13) rfl w.heap.size #[.slice (some ⟨w.heap.size+1,0,none⟩) m m,.slice none 0 0] rfl rfl _ _ hres2 (qB _ _ _ _) (pE _ _) (jW _ _ _ _ _ _) ?_)
  intro w3 hr3 hgr3
  have ho3:=ak ho hres2 (by decide) hgr3
  have hbel3:=hbel2.grown hgr3 hbel2.size (fun k hk=>by cases hk;exact Nat.le_refl _)
  have hcr:=hr3.cell
  go_wp2
  simp[bodyPost,results,go_sem,results98,hcr]
  exact⟨_,_,⟨rfl,rfl⟩,⟨by simpa using ho3.mono (Nat.le_succ _),Own.nil _ _ _ _⟩,hbel3⟩
 ·rw[if_neg h,if_neg h]
  have h' : n<0∨80<n:=by omega
  clear h
  rcases h' with h|h
  all_goals
   go_enter func98,ntmps98
   go_wp2_with (refine ax rfl _ (.tmp 2) (.tmp 10) rfl w.heap.size #[.slice none 0 0,.slice none 0 0] rfl rfl _ _ hres0 rfl disk_size (jW _ _ _ _ _ _) ?_)
   all_goals
    intro w2 hr2 hgr
    have hbel2:=hbel0.grown hgr hbel0.size (fun k hk=>by cases hk;exact Nat.le_refl _)
    have hcr:=hr2.cell
    go_wp2
    simp[bodyPost,results,go_sem,results98,hcr]
    exact⟨_,_,⟨rfl,rfl⟩,fQ.nil _ _,hbel2⟩
theorem JH (d:nT) (ab:Option Addr) (cb:Nat) (aq:Option Addr) (cq:Nat) (bd:Nat) (w:World) (hd:aD w bd #[.slice ab d.blocks.length cb,.slice aq d.queue.length cq] 34) (h:GI w ab cb aq cq d) (hw:aZ d=0) (bits:Int) (bb:Nat) (hbb:aD w bb #[.int .i64 bits] 3) :
  Calls Tryz.prog 94 #[.pointer (some ⟨bd,0,none⟩),.func (.func 100) #[] #[.pointer (some ⟨bb,0,none⟩)]] w fun e w' => ∃vb vq,e = .returned (.agg #[vb,vq])∧fQ w' w.heap.size vb vq ⟨nu (kI bits) d.blocks d.queue d.queue.length,[]⟩∧Below w.heap.size w w':=by
 obtain⟨l80,l400⟩:=vL hw
 have hin:=vG hw
 go_enter func94,ntmps94
 have hcd:=fun o=>(hd.alloc o).cell
 go_wp2_with fail
 clear hcd
 refine gB (fun W=>Calls _ _ _ W _) fun W0 hb0 hres0 hs0 => ?_
 refine (vV d.blocks ab cb W0 h.lb h.nb (h.below hb0).rb (by omega)).mono ?_
 rintro e w1 ⟨v,rfl,ho,hb1⟩
 have hbel1:=ag hb0 hb1
 have hres1:=hres0.ext hb1
 have hd1:=(hd.ext hb0).ext hb1
 have h1:=h.below hbel1
 have ho1:=ho.mono hb0.size
 obtain⟨xb,cb',rfl,hle,_⟩:=ho.rd
 clear hres0 hb1 ho
 go_upto_region 2 with (fail)
 refine gB (fun W=>Code.wp _ _ _ _ W) fun w2 hb2 hout2 hs2 => ?_
 have hbel2:=ag hbel1 hb2
 have hres2:=hres1.ext hb2
 have hd2:=hd1.ext hb2
 have h2:=h1.below hb2
 have ho2:=ho1.below hb2
 have hgeo:w.heap.size<w1.heap.size:=hres1.lt
 have hbb2:=hbb.below hbel2 hbb.lt
 clear hres1 hd1 h1 ho1 hs2 hs0 hb0
 have hc2:=hd2.cell
 go_wp2
 clear hc2
 go_loopw [19] (fun i wr => ∃k:Nat,k≤d.queue.length∧i = .int .i64 k∧Below w.heap.size w wr∧aD wr bd #[.slice ab d.blocks.length cb,.slice aq d.queue.length cq] 34∧aD wr w1.heap.size #[.slice xb d.blocks.length cb',.slice none 0 0] 34∧aD wr w.heap.size #[.slice none 0 0,.slice none 0 0] 34∧Own wr w.heap.size 79 8 (.slice xb d.blocks.length cb') d.blocks.length ((nu (kI bits) d.blocks d.queue k).flatMap wz)∧aD wr bb #[.int .i64 bits] 3) (fun i _=>d.queue.length-(intOf i).toNat)
 case atStart=>exact⟨0,Nat.zero_le _,rfl,hbel2,hd2,hout2,hres2,ho2 ,hbb2⟩
 case round=>
  obtain⟨k,hk,rfl,hbel,hdr,houtr,hresr,hor ,hbr⟩:=hrel
  clear hd2 hout2 hres2 ho2 hbel2 h2
  by_cases hlt:k<d.queue.length
  ·obtain⟨b,off,rfl,hc⟩:=Ay (h.rq.below hbel) k hlt
   have c0:=hc 0 (by decide);have c1:=hc 1 (by decide);have c2:=hc 2 (by decide);have c3:=hc 3 (by decide);have c4:=hc 4 (by decide)
   have c5:=hc 5 (by decide);have c6:=hc 6 (by decide);have c7:=hc 7 (by decide);have c8:=hc 8 (by decide)
   simp only[BN,List.getElem?_toArray,List.getElem?_cons_zero,List.getElem?_cons_succ,Nat.add_zero] at c0 c1 c2 c3 c4 c5 c6 c7 c8
   obtain⟨i1,i2⟩:=hin k hlt
   clear hc hin
   go_wp2_with fail
   refine gB (fun W=>Calls _ _ _ W _) fun w3 hb3 hbox3 hs3 => ?_
   have hbel3:=ag hbel hb3
   have hd3:=hdr.ext hb3
   have hout3:=houtr.ext hb3
   have hres3:=hresr.ext hb3
   have ho3:=hor.below hb3
   have hbr3:=hbr.ext hb3
   clear hdr houtr hresr hor hs3 c0 c1 c2 c3 c4 c5 c6 c7 c8 hbel
   refine (EB k bits bb (by omega) _ hbr3).mono ?_
   rintro e w4 ⟨rfl,rfl⟩
   by_cases hfk:(kI bits) k=true
   ·obtain⟨i0,hi0⟩:=Int.eq_ofNat_of_zero_le i1
    have hi0' : i0<d.blocks.length:=by omega
    have n2:(i0:Int)<(d.blocks.length:Int):=by omega
    obtain⟨gb,offb,capb,curb,hvb,hBb,hgb,hfb,hsetb⟩:=lJ jo (by decide) (zZ (kI bits) d.blocks d.queue k) ho3 i0 hi0'
    cases hvb
    have hkn0:=Hz (f:=(kI bits)) (B:=d.blocks) hlt hfk
    rw[hi0,Int.toNat_natCast] at hkn0
    have hkn:=Lib.hid hkn0
    clear hkn0
    rw[hi0] at hbox3
    have hcb:=hbox3.cell
    have hco:=hout3.cell
    clear i1 i2
    go_wp2_with (refine fq rfl _ (.tmp 33) (.tmp 32) rfl gb (offb+i0*8) (gD d.queue[k].2) rfl rfl curb 79 hgb (by rw[CJ];omega) (wZ _) (iL _) ?_)
    intro w5 hq5 hgr5
    have hB5:=hsetb w5 d.queue[k].2 hq5
    have hd5:=aW hd3 hgb (by decide) hgr5
    have hout5:=aW hout3 hgb (by decide) hgr5
    have hres5:=aW hres3 hgb (by decide) hgr5
    have hbel5:Below w.heap.size w w5:=hbel3.grown hgr5 hbel3.size (fun k hk=>by cases hk;exact hBb)
    have hbr5:=aW hbr3 hgb (by decide) hgr5
    clear hcb hco hq5 hsetb hgb hd3 hout3 hres3 ho3 hbel3
    go_wp2
    go_roundw
    case rel=>exact⟨k+1,by omega,by go_num,hbel5,hd5,hout5,hres5,by rw[hkn.out];exact hB5 ,hbr5⟩
    case measure=>simp[intOf];omega
   ·have hfk' : (kI bits) k=false:=by simpa using hfk
    have hkn:=Lib.hid (JJ (f:=(kI bits)) (B:=d.blocks) hlt hfk')
    go_wp2
    go_roundw
    case rel=>exact⟨k+1,by omega,by go_num,hbel3,hd3,hout3,hres3,by rw[hkn.out];exact ho3 ,hbr3⟩
    case measure=>simp[intOf];omega
  ·obtain rfl:k=d.queue.length:=by omega
   have hco:=houtr.cell
   go_wp2_with (refine ax rfl _ (.tmp 4) (.tmp 35) rfl w.heap.size #[.slice xb d.blocks.length cb',.slice none 0 0] rfl rfl _ _ hresr (qB _ _ _ _) (pE _ _) (jW _ _ _ _ _ _) ?_)
   intro w3 hr3 hgr3
   have ho3:=ak hor hresr (by decide) hgr3
   have hbel3:Below w.heap.size w w3:=hbel.grown hgr3 hbel.size (fun k hk=>by cases hk;exact Nat.le_refl _)
   have hcr:=hr3.cell
   go_wp2
   simp[bodyPost,results,go_sem,results94,hcr]
   exact⟨_,_,⟨rfl,rfl⟩,⟨by rw[zZ];exact ho3,Own.nil _ _ _ _⟩,hbel3⟩
theorem Fs (d:nT) (ab:Option Addr) (cb:Nat) (aq:Option Addr) (cq:Nat) (bits:Int) (w:World) (h:GI w ab cb aq cq d) :
  Calls Tryz.prog 60 #[.agg #[.slice ab d.blocks.length cb,.slice aq d.queue.length cq],.int .i64 bits] w fun e w' => ∃vb vq,e = .returned (.tuple #[.agg #[vb,vq],.int .i64 (aZ d)])∧fQ w' w.heap.size vb vq (xV (kI bits) d)∧Below w.heap.size w w':=by
 go_enter func60,ntmps60
 go_wp2_with fail
 refine KQ (fun W=>Calls _ _ _ W _) fun W0 hb0 hbox0 hbb0 hres0 hs0 => ?_
 refine (pY d ab cb aq cq _ (h.below hb0)).mono ?_
 rintro e w1 ⟨rfl,hb1⟩
 have hbel1:=ag hb0 hb1
 have hbox1:=hbox0.ext hb1
 have hres1:=hres0.ext hb1
 have hbb1:=hbb0.ext hb1
 have h1:=h.below hbel1
 have hge1:w.heap.size+2<w1.heap.size:=hres1.lt
 clear hbox0 hres0 hb1 hb0 h hs0
 have hc1:=hbox1.cell
 by_cases hw:aZ d=0
 ·have q2:xV (kI bits) d=⟨nu (kI bits) d.blocks d.queue d.queue.length,[]⟩:=by unfold xV;rw[if_pos hw]
  have Q2:=Lib.hid q2
  have HW:=Lib.hid hw
  rw[hw]
  clear q2 hw
  go_wp2_with fail
  refine (JH d ab cb aq cq _ w1 hbox1 h1 HW.out bits _ hbb1).mono ?_
  rintro e w2 ⟨vb,vq,rfl,ho,hb2⟩
  have hbel2:=ag hbel1 hb2
  have hres2:=hres1.ext hb2
  obtain⟨xb,cb',xq,cq',rfl,rfl,_⟩:=ho.rd
  go_wp2_with (refine ax rfl _ (.tmp 4) (.tmp 14) rfl (w.heap.size+2) _ rfl rfl _ _ hres2 (qB _ _ _ _) (pE _ _) (jW _ _ _ _ _ _) ?_)
  intro w3 hr3 hgr
  have hbel3:=hbel2.grown hgr hbel2.size (fun k hk=>by cases hk;omega)
  have ho3:=(ho.mono hbel1.size).keep hres2 (by decide) (by decide) hgr
  have hcr:=hr3.cell
  go_wp2
  simp[bodyPost,results,go_sem,results60,hcr,HW.out]
  exact⟨_,_,⟨rfl,rfl⟩,by rw[Q2.out];exact ho3,hbel3⟩
 ·have q2:xV (kI bits) d=⟨[],[]⟩:=by unfold xV;rw[if_neg hw]
  have hw' : (aZ d != 0)=true:=by simpa using hw
  go_wp2_with (refine ax rfl _ (.tmp 4) (.tmp 11) rfl (w.heap.size+2) #[.slice none 0 0,.slice none 0 0] rfl rfl _ _ hres1 rfl disk_size (jW _ _ _ _ _ _) ?_)
  intro w2 hr2 hgr
  have hbel2:=hbel1.grown hgr hbel1.size (fun k hk=>by cases hk;omega)
  have hcr:=hr2.cell
  go_wp2
  simp[bodyPost,results,go_sem,results60,hcr]
  exact⟨_,_,⟨rfl,rfl⟩,by rw[q2];exact fQ.nil _ _,hbel2⟩
theorem Qt (p q:Page) (W:World):(Op.equalIn 10000 79 (.agg #[.int .u8 p[0].toNat,.int .u8 p[1].toNat,.int .u8 p[2].toNat,.int .u8 p[3].toNat,.int .u8 p[4].toNat,.int .u8 p[5].toNat,.int .u8 p[6].toNat,.int .u8 p[7].toNat]) (.agg #[.int .u8 q[0].toNat,.int .u8 q[1].toNat,.int .u8 q[2].toNat,.int .u8 q[3].toNat,.int .u8 q[4].toNat,.int .u8 q[5].toNat,.int .u8 q[6].toNat,.int .u8 q[7].toNat])).run Tryz.prog W = .ok (p==q) W:=
 Cz W 9998 _ _ underlying79 underlying5 byte_size p q
theorem GX (p:Page):gD p=#[.int .u8 p[0].toNat,.int .u8 p[1].toNat,.int .u8 p[2].toNat,.int .u8 p[3].toNat,.int .u8 p[4].toNat,.int .u8 p[5].toNat,.int .u8 p[6].toNat,.int .u8 p[7].toNat]:=rfl
theorem NG (q:Int × Page):(BN q).all (·.oneCell')=true:=by simp[BN,Value.oneCell']
def uP (f:Fr):Array Value:=#[.int .u8 f.p[0].toNat,.int .u8 f.p[1].toNat,.int .u8 f.p[2].toNat,.int .u8 f.p[3].toNat,.int .u8 f.p[4].toNat,.int .u8 f.p[5].toNat,.int .u8 f.p[6].toNat,.int .u8 f.p[7].toNat,.int .i64 f.r,.bool f.u,.bool f.d,.int .i64 f.f,.int .i64 f.i]
def lZ (f:Fr):List Value:=(uP f).toList
theorem eB (f:Fr):(lZ f).length=13:=rfl
structure Pz (w:World) (b off:Nat) (f:Fr):Prop where
 c0:w.cell? ⟨b,off,none⟩=some (.int .u8 f.p[0].toNat)
 c1:w.cell? ⟨b,off+1,none⟩=some (.int .u8 f.p[1].toNat)
 c2:w.cell? ⟨b,off+2,none⟩=some (.int .u8 f.p[2].toNat)
 c3:w.cell? ⟨b,off+3,none⟩=some (.int .u8 f.p[3].toNat)
 c4:w.cell? ⟨b,off+4,none⟩=some (.int .u8 f.p[4].toNat)
 c5:w.cell? ⟨b,off+5,none⟩=some (.int .u8 f.p[5].toNat)
 c6:w.cell? ⟨b,off+6,none⟩=some (.int .u8 f.p[6].toNat)
 c7:w.cell? ⟨b,off+7,none⟩=some (.int .u8 f.p[7].toNat)
 c8:w.cell? ⟨b,off+8,none⟩=some (.int .i64 f.r)
 c9:w.cell? ⟨b,off+9,none⟩=some (.bool f.u)
 ca:w.cell? ⟨b,off+10,none⟩=some (.bool f.d)
 cb:w.cell? ⟨b,off+11,none⟩=some (.int .i64 f.f)
 cc:w.cell? ⟨b,off+12,none⟩=some (.int .i64 f.i)
theorem GR {l:List Fr} (h:dA w a (l.flatMap lZ)) (k:Nat) (hk:k<l.length):∃b off,a=some ⟨b,off,none⟩∧Pz w b (off+k*13) l[k]:=by
 obtain⟨b,off,ha,hc⟩:=h.elem eB (by decide) k hk
 exact⟨b,off,ha,hc 0 _ rfl,hc 1 _ rfl,hc 2 _ rfl,hc 3 _ rfl,hc 4 _ rfl,hc 5 _ rfl,hc 6 _ rfl,hc 7 _ rfl,hc 8 _ rfl,hc 9 _ rfl,hc 10 _ rfl,hc 11 _ rfl,hc 12 _ rfl⟩
theorem zV (f:Fr) (b off:Nat) (w:World) (h:Pz w b off f):Calls Tryz.prog 130 #[.pointer (some ⟨b,off,none⟩)] w fun e w'=>e = .returned (.int .i64 (dQ f))∧w' = w:=by
 obtain⟨c0,c1,c2,c3,c4,c5,c6,c7,c8,c9,ca,cb,cc⟩:=h
 have hE:∀W,(Op.equalIn 10000 79 (.agg #[.int .u8 f.p[0].toNat,.int .u8 f.p[1].toNat,.int .u8 f.p[2].toNat,.int .u8 f.p[3].toNat,.int .u8 f.p[4].toNat,.int .u8 f.p[5].toNat,.int .u8 f.p[6].toNat,.int .u8 f.p[7].toNat]) (.agg #[.int .u8 0,.int .u8 0,.int .u8 0,.int .u8 0,.int .u8 0,.int .u8 0,.int .u8 0,.int .u8 0])).run Tryz.prog W = .ok (f.p==zPg) W:=Qt f.p zPg
 go_enter func130,ntmps130
 go_wp2
 all_goals go_ret
 all_goals refine⟨?_,rfl⟩
 all_goals clear c0 c1 c2 c3 c4 c5 c6 c7 c8 c9 ca cb cc hE
 all_goals go_light
 all_goals refine congrArg (fun z=>Ending.returned (.int .i64 z)) ?_
 all_goals simp only[dQ,Dz,CV,yI,Bool.or_eq_true,Bool.and_eq_true,decide_eq_true_eq,ne_eq,bne_iff_ne]
 all_goals simp_all
 all_goals omega
theorem frame_info:(Tryz.prog.info? 81).map (fun i=>(i.zero,i.size,i.bytes))=some (some (.agg #[.int .u8 0,.int .u8 0,.int .u8 0,.int .u8 0,.int .u8 0,.int .u8 0,.int .u8 0,.int .u8 0,.int .i64 0,.bool false,.bool false,.int .i64 0,.int .i64 0]),13,40):=by kernel_rfl
theorem frame_size:(Tryz.prog.info? 81).map (·.size)=some 13:=by kernel_rfl
theorem EE (l:List Fr):(l.flatMap lZ).length=l.length*13:=Pw.flat_len lZ 13 eB l
theorem qg (f:Fr):(uP f).all (·.oneCell')=true:=by simp[uP,Value.oneCell']
theorem DU (l:List Fr):∀u∈l.flatMap lZ,u.oneCell' = true:=by
 intro u hu
 obtain⟨p,_,hp⟩:=List.mem_flatMap.1 hu
 simp only[lZ,uP,List.mem_cons,List.not_mem_nil,or_false] at hp
 rcases hp with rfl|rfl|rfl|rfl|rfl|rfl|rfl|rfl|rfl|rfl|rfl|rfl|rfl<;>rfl
theorem Au (l:List Fr) (a:Option Addr) (c:Nat) (w:World) (hle:l.length≤c) (hnil:a=none→c=0) (hrd:dA w a (l.flatMap lZ)) (hb:l.length*40≤140737488355328) :
  Calls Tryz.prog 114 #[.slice a l.length c] w fun e w' => ∃v,e = .returned v∧Own w' w.heap.size 81 13 v l.length (l.flatMap lZ)∧Below w.heap.size w w':=by
 cases a with
 | none=>
  have h0:=hnil rfl
  have hl:l=[]:=List.eq_nil_of_length_eq_zero (by omega)
  subst hl
  subst h0
  have hq:=fun W=>Lib.run_eql_slice_nil (P:=Tryz.prog) W 26 _ none 0 0 0 0 underlying26
  go_enter func114,ntmps114
  go_wp2
  go_ret
  exact⟨_,rfl,by simpa using Own.nil _ _ _ _,Below.refl _ _⟩
 | some ad=>
  have hq:=fun W=>Lib.run_eql_slice_nil (P:=Tryz.prog) W 26 _ (some ad) l.length c 0 0 underlying26
  go_enter func114,ntmps114
  go_wp2_with (at_builtin;go_must (refine dI rfl _ _ 26 rfl w.heap.size 81 (.agg #[.int .u8 0,.int .u8 0,.int .u8 0,.int .u8 0,.int .u8 0,.int .u8 0,.int .u8 0,.int .u8 0,.int .i64 0,.bool false,.bool false,.int .i64 0,.int .i64 0]) 13 40 underlying26 frame_info rfl (by decide) _ 0 [] rfl ?own (some ad) l.length c (l.flatMap lZ) rfl (fun h=>(by cases h)) hle (EE l) ?rd (DU l) (by unfold maxLen;omega) (by simpa using hb) ?bb ?k))
  case own=>exact⟨rfl,.inr ⟨w.heap.size,0,0,#[],rfl,Nat.le_refl _,aD.new _ _ _,Nat.le_refl _,Nat.zero_le _,by simp,fun j u h=>by simp at h⟩⟩
  case rd=>exact hrd.below ((Below.refl _ _).alloc (Nat.le_refl _) _)
  case bb=>exact ed _ _
  intro v w1 hown hgr
  go_wp2
  go_ret
  exact⟨v,rfl,by simpa using hown,((Below.refl _ _).alloc (Nat.le_refl _) _).grown hgr (ed _ _) (fun k hk=>by cases hk;exact Nat.le_refl _)⟩
structure Nb (w:World) (a:Option Addr) (c:Nat) (m:Mem):Prop where
 le:m.fs.length≤c
 mx:c≤maxLen
 nil:a=none→c=0
 rd:dA w a (m.fs.flatMap lZ)
theorem Nb.below {m:Mem} (h:Nb w a c m) (hb:Below w.heap.size w w'):Nb w' a c m:={ h with rd:=h.rd.below hb }
theorem wP {m:Mem} (h:Own w B 81 13 v m.fs.length (m.fs.flatMap lZ)):∃a c,v = .slice a m.fs.length c∧Nb w a c m:=by
 obtain⟨a,c,rfl,h1,h2,h3,h4⟩:=h.rd
 exact⟨a,c,rfl,h1,h2,h3,h4⟩
theorem sV (m:Mem) (a:Option Addr) (c:Nat) (w:World) (h:Nb w a c m) :
  Calls Tryz.prog 107 #[.agg #[.slice a m.fs.length c,.int .i64 m.hand]] w fun e w'=>e = .returned (.int .i64 (bJ m))∧Below w.heap.size w w':=by
 have hl:=Nat.le_trans h.le h.mx
 unfold maxLen at hl
 go_enter func107,ntmps107
 go_upto_region 1 with (fail)
 refine gB (fun W=>Code.wp _ _ _ _ W) fun W0 hb0 hx0 hs0 => ?_
 clear hs0
 have hcx:=hx0.cell
 have h0:=h.below hb0
 by_cases h4:40<m.fs.length
 ·have hW:bJ m=4:=by unfold bJ;rw[if_pos h4]
  have h4' : (40:Int)<(m.fs.length:Int):=by omega
  go_wp2
  go_ret
  rw[hW]
  exact⟨rfl,hb0⟩
 ·have h4' : ¬(40:Int)<(m.fs.length:Int):=by omega
  go_wp2
  go_loopw [12] (fun i wr => ∃k:Nat,k≤m.fs.length∧i = .int .i64 k∧W0=wr∧∀i (h:i<m.fs.length),i<k→dQ m.fs[i]=0) (fun i _=>m.fs.length-(intOf i).toNat)
  case atStart=>exact⟨0,Nat.zero_le _,rfl,rfl,fun i _ h=>absurd h (Nat.not_lt_zero _)⟩
  case round=>
   obtain⟨k,hk,rfl,rfl,hno⟩:=hrel
   have hno':=Lib.hid hno
   clear hno
   by_cases hlt:k<m.fs.length
   ·obtain⟨b,off,rfl,hc⟩:=GR h0.rd k hlt
    have hkz:(k:Int)<(m.fs.length:Int):=by omega
    by_cases he:dQ m.fs[k]=0
    ·have he':=Lib.hid he
     have hf:=zV m.fs[k] b _ _ hc
     rw[he] at hf
     clear he hc
     go_wp2_with fail
     refine hf.mono ?_
     rintro e w2 ⟨rfl,rfl⟩
     go_wp2
     go_roundw
     case rel=>exact⟨k+1,by omega,by go_num,trivial,kV hno'.out hlt he'.out⟩
     case measure=>simp[intOf];omega
    ·have hf:=zV m.fs[k] b _ _ hc
     have hW:bJ m=dQ m.fs[k]:=by
      have:=firstEf_at _ k hlt hno'.out he
      unfold bJ;rw[if_neg h4,this,if_pos he]
     have hn:(dQ m.fs[k] != 0)=true:=by simpa using he
     clear hc
     have hW':=Lib.hid hW
     clear hW
     go_wp2_with fail
     refine hf.mono ?_
     rintro e w2 ⟨rfl,rfl⟩
     go_wp2
     go_ret
     rw[hW'.out]
     exact⟨rfl,hb0⟩
   ·have h0:firstEf m.fs=0:=firstEf_none _ (fun i hi=>hno'.out i hi (by omega))
    have hW:bJ m=if m.hand<0∨(0<m.hand∧(m.fs.length:Int)≤m.hand) then 3 else 0:=by
     unfold bJ;rw[if_neg h4,h0];rfl
    have hW':=Lib.hid hW
    clear hW h0
    by_cases n1:m.hand<0
    ·go_wp2
     all_goals
      go_ret
      rw[hW'.out,if_pos (.inl n1)]
      exact⟨rfl,hb0⟩
    ·by_cases n2:(0:Int)<m.hand
     ·by_cases n3:(m.fs.length:Int)≤m.hand
      ·go_wp2
       all_goals
        go_ret
        rw[hW'.out,if_pos (.inr ⟨n2,n3⟩)]
        exact⟨rfl,hb0⟩
      ·go_wp2
       all_goals
        go_ret
        rw[hW'.out,if_neg (by omega)]
        exact⟨rfl,hb0⟩
     ·go_wp2
      all_goals
       go_ret
       rw[hW'.out,if_neg (by omega)]
       exact⟨rfl,hb0⟩
theorem mem_size:(Tryz.prog.info? 28).map (·.size)=some 2:=by kernel_rfl
theorem gP (a:Option Addr) (n c:Nat) (k:Int):(#[Value.slice a n c,.int .i64 k]:Array Value).all (·.oneCell')=true:=by simp[Value.oneCell']
theorem ui (a b:Option Addr) (n c m e:Nat) (k l:Int):(#[Value.slice a n c,.int .i64 k]:Array Value).size=(#[Value.slice b m e,.int .i64 l]:Array Value).size:=rfl
theorem Mk (v u:Value):(Tryz.prog.info? 28).map (·.size)=some (#[v,u]:Array Value).size:=mem_size
def PL (B:Nat) (m:Mem):jJ:=⟨fun v w => ∃vb,v = .agg #[vb,.int .i64 m.hand]∧Own w B 81 13 vb m.fs.length (m.fs.flatMap lZ),fun _ _ _ hb ⟨vb,h1,h2⟩=>⟨vb,h1,h2.below hb⟩⟩
theorem yF (m:Mem) (a:Option Addr) (c:Nat) (w:World) (h:Nb w a c m) (h40:m.fs.length*40≤140737488355328) :
  Calls Tryz.prog 73 #[.agg #[.slice a m.fs.length c,.int .i64 m.hand]] w fun e w' => ∃vb,e = .returned (.agg #[vb,.int .i64 m.hand])∧Own w' w.heap.size 81 13 vb m.fs.length (m.fs.flatMap lZ)∧Below w.heap.size w w':=by
 go_enter func73,ntmps73
 go_upto_region 1 with (fail)
 refine oJ (fun W=>Code.wp _ _ _ _ W) fun w0 hbel0 hblk hout hs0 => ?_
 clear hs0
 have h0:=h.below hbel0
 refine aG 6 [_,_,.r 2 ((lh w.heap.size 81 13 m.fs.length (m.fs.flatMap lZ))),_,_,.r 5 ((PL w.heap.size m))] (Gf w.heap.size 0 rfl rfl (Gl hblk (V:=.slice a m.fs.length c) (by simp[underlying26]) rfl rfl rfl rfl (ae ?_ (Gf w.heap.size 1 rfl rfl (Gl hblk (V:=.int .i64 m.hand) (by simp[underlying3]) rfl rfl rfl rfl (ae ?_ (aB))))))) (fun _=>rfl) rfl ?_
 ·intro ρ y W hw hn hb hd;have E4:=hw 4 1 rfl;have h1:y 1=_:=hd 1 rfl
  have EF:∀f,ρ (.func f) = .func (.func f) #[] #[]:=fun f=>hn (.func f) trivial
  refine aM _ _ (ah rfl) (aN rfl (EF _) func114 (by kernel_rfl) (by kernel_rfl) (by simp only[List.map_toArray,List.map_cons,List.map_nil,E4,h1,EF];rfl)) ?_
  refine (Au m.fs a c W h0.le h0.nil (h0.below hb).rd h40).mono ?_
  rintro e w1 ⟨v,rfl,ho,hb1⟩
  exact⟨v,rfl,hb1,ho.mono (Nat.le_trans hbel0.size hb.size)⟩
 ·intro ρ y W hw hn hb hd;have E5:=hw 5 2 rfl;have h2:=hd 2 rfl;have E7:=hw 7 4 rfl;have h4:y 4=_:=hd 4 rfl
  obtain⟨x2,c2,e2,_⟩:=Own.rd h2
  refine aj (.agg #[y 2,.int .i64 m.hand]) (ah rfl) (by simp[execOp,go_sem,E5,E7,h4,e2]) ?_
  exact⟨_,rfl,h2⟩
 intro y WA hbWA hRWA
 have hy2:((lh w.heap.size 81 13 m.fs.length (m.fs.flatMap lZ))).r (y 2) WA:=hRWA 2 (by decide)
 have hy5:((PL w.heap.size m)).r (y 5) WA:=hRWA 5 (by decide)
 clear hRWA
 obtain⟨vb,e5,ho⟩:=hy5
 rw[e5]
 clear hy2 e5
 have hbelA:=ag hbel0 hbWA
 obtain⟨xb,cb',rfl,_⟩:=ho.rd
 refine ax rfl _ (.tmp 2) (.tmp 8) rfl (w.heap.size+1) _ rfl rfl _ _ (hout.ext hbWA) rfl mem_size (by simp[Value.oneCell']) ?_
 intro w2 hq hgr
 have hbel2:Below w.heap.size w w2:=hbelA.grown hgr hbelA.size (fun k hk=>by cases hk;omega)
 have hc:=hq.cell
 go_wp2
 simp[bodyPost,results,go_sem,results73,hc]
 exact⟨ak ho (hout.ext hbWA) (by decide) hgr,hbel2⟩
theorem zS (m:Mem) (a:Option Addr) (c:Nat) (w:World) (h:Nb w a c m) :
  Calls Tryz.prog 124 #[.agg #[.slice a m.fs.length c,.int .i64 m.hand]] w fun e w'=>e = .returned (.int .i64 (jK m.fs))∧Below w.heap.size w w':=by
 have hl:=Nat.le_trans h.le h.mx
 unfold maxLen at hl
 go_enter func124,ntmps124
 go_upto_region 1 with (fail)
 refine gB (fun W=>Code.wp _ _ _ _ W) fun W0 hb0 hx0 hs0 => ?_
 have hcx:=hx0.cell
 clear hs0
 go_wp2
 clear hcx hx0
 go_loopw [3,9] (fun s i wr => ∃(k n:Nat),k≤m.fs.length∧i = .int .i64 k∧s = .int .i64 n∧n≤k∧Below w.heap.size w wr∧Hid (jK (m.fs.take k)=n)) (fun _ i _=>m.fs.length-(intOf i).toNat)
 case atStart=>exact⟨0,0,Nat.zero_le _,rfl,rfl,Nat.le_refl _,hb0,Lib.hid rfl⟩
 case round=>
  obtain⟨k,n,hk,rfl,rfl,hn,hbel,hf⟩:=hrel
  by_cases hlt:k<m.fs.length
  ·obtain⟨b,off,rfl,hc⟩:=GR (h.below hbel).rd k hlt
   obtain⟨c0,c1,c2,c3,c4,c5,c6,c7,c8,c9,ca,cb,cc⟩:=hc
   have ht:=ER m.fs k hlt
   rw[hf.out] at ht
   by_cases hr:m.fs[k].r=0
   ·rw[if_pos hr] at ht
    have ht':=Lib.hid ht
    have hrb:(m.fs[k].r==0)=true:=by simpa using hr
    clear ht hr
    go_wp2
    go_roundw
    case rel=>exact⟨k+1,n+1,by omega,by go_num,by go_num,by omega,hbel.alloc hbel.size _,ht'⟩
    case measure=>simp[intOf];omega
   ·rw[if_neg hr] at ht
    have ht':=Lib.hid ht
    have hrb:(m.fs[k].r==0)=false:=by simpa using hr
    clear ht hr
    go_wp2
    go_roundw
    case rel=>exact⟨k+1,n,by omega,by go_num,rfl,by omega,hbel.alloc hbel.size _,ht'⟩
    case measure=>simp[intOf];omega
  ·have hfin:Hid (jK m.fs=n):=by
    have:=hf.out
    rw[List.take_of_length_le (by omega)] at this
    exact this
   go_wp2
   go_ret
   rw[hfin.out]
   exact⟨rfl,hbel⟩
theorem Lb (n:Int) (w:World) :
  Calls Tryz.prog 96 #[.int .i64 n] w fun e w' => ∃vb,e = .returned (.tuple #[.agg #[vb,.int .i64 0],.int .i64 (Gm n)])∧Own w' w.heap.size 81 13 vb (rY n).fs.length ((rY n).fs.flatMap lZ)∧Below w.heap.size w w':=by
 have hres0:=aD.new w #[.slice none 0 0,.int .i64 0] 28
 have hbel0:Below w.heap.size w (w.alloc (.cells #[.slice none 0 0,.int .i64 0] 28)):=(Below.refl _ _).alloc (Nat.le_refl _) _
 unfold rY Gm
 go_enter func96,ntmps96
 by_cases hn:0≤n∧n≤40
 ·obtain⟨n,rfl⟩:=Int.eq_ofNat_of_zero_le hn.1
  rw[if_pos hn,if_pos hn]
  have n1:¬(40:Int)<(n:Int):=by omega
  have n2:n≤40:=by omega
  clear hn
  go_wp2_with (refine qV _ rfl (.tmp 13) (.tmp 13) 26 rfl lZ 81 _ 13 40 fr0 eB (by decide) underlying26 frame_info rfl .i64 .i64 n n n rfl rfl rfl rfl (by omega) (by unfold maxLen;omega) ?_)
  intro w2 ho hgr
  have hres2:=hres0.grown hgr (by intro he;cases he)
  have hbel2:=hbel0.grown hgr hbel0.size (fun k hk=>by cases hk)
  clear hres0 hgr hbel0
  have hlt2:w.heap.size+1<w2.heap.size:=by obtain⟨cs,hk⟩:=jd ho _ rfl;simpa using hk.lt
  go_upto_region 4 with (fail)
  refine gB (fun W=>Code.wp _ _ _ _ W) fun w3 hb3 hm3 hs3 => ?_
  clear hs3
  have hbel3:=ag hbel2 hb3
  have hres3:=hres2.ext hb3
  have ho3:=ho.below hb3
  have hcm:=hm3.cell
  clear hres2 ho hb3
  go_wp2
  clear hcm
  go_loopw [19] (fun i wr => ∃(k:Nat) (cur:List Fr),k≤n∧i = .int .i64 k∧Below w.heap.size w wr∧aD wr w.heap.size #[.slice none 0 0,.int .i64 0] 28∧aD wr w2.heap.size #[.slice (some ⟨w.heap.size+1,0,none⟩) n n,.int .i64 0] 28∧Own wr w.heap.size 81 13 (.slice (some ⟨w.heap.size+1,0,none⟩) n n) n (cur.flatMap lZ)∧Hid (cur.length=n∧∀i,i<n→cur[i]?=some (if i<k then frZ else fr0))) (fun i _=>n-(intOf i).toNat)
  case atStart=>exact⟨0,List.replicate n fr0,Nat.zero_le _,rfl,hbel3,hres3,hm3,ho3.mono (by simp),Lib.hid ⟨by simp,fun i hi=>by simp[hi]⟩⟩
  case round=>
   clear hres3 hm3 ho3 hbel3
   obtain⟨k,cur,hk,rfl,hbel,hres,hm,ho,hcur⟩:=hrel
   have hcm:=hm.cell
   by_cases hlt:k<n
   ·have hlen:=hcur.out.1
    have hkc:k<cur.length:=by omega
    have hk0:cur[k]'hkc=fr0:=by
     have:=hcur.out.2 k hlt
     rw[List.getElem?_eq_getElem hkc] at this
     simpa using this
    obtain⟨g,off,cap,hv,hBg,hgl,⟨csg,hgb⟩,hcc,hfz,hset⟩:=qC eB (by decide) hlen ho k hlt 11 (by decide) (.int .i64 (-1)) frZ (by rw[hk0];rfl)
    cases hv
    have hcb:=hcc 11 (.int .i64 0) (by rw[hk0];rfl)
    simp only[Nat.zero_add] at hcb hfz hset
    have hnew:Hid ((cur.set k frZ).length=n∧∀i,i<n→(cur.set k frZ)[i]?=some (if i<k+1 then frZ else fr0)):=by
     refine⟨by simp[hlen],fun i hi => ?_⟩
     rw[List.getElem?_set]
     by_cases e:k=i
     ·subst e;simp[hkc]
     ·rw[if_neg e,hcur.out.2 i hi]
      by_cases h:i<k
      ·rw[if_pos h,if_pos (by omega)]
      ·rw[if_neg h,if_neg (by omega)]
    have hkz:(k:Int)<(n:Int):=by omega
    clear hk0 hcc hcur hlen ho
    go_wp2
    go_roundw
    case rel=>exact⟨k+1,cur.set k frZ,by omega,by go_num,hbel.setCell (by simp) _,hres.setCell_other _ _ (by simp),hm.setCell_other _ _ (by simp;omega),hset,hnew⟩
    case measure=>simp[intOf];omega
   ·have hcurn:Hid (cur=List.replicate n frZ):=by
     apply List.ext_getElem?
     intro i
     by_cases hi:i<n
     ·rw[hcur.out.2 i hi,if_pos (by omega)];simp[hi]
     ·rw[List.getElem?_eq_none (by have:=hcur.out.1;omega),List.getElem?_eq_none (by simp;omega)]
    go_wp2_with (refine ax rfl _ (.tmp 2) (.tmp 28) rfl w.heap.size #[.slice (some ⟨w.heap.size+1,0,none⟩) n n,.int .i64 0] rfl rfl _ _ hres (ui _ _ _ _ _ _ _ _) (Mk _ _) (gP _ _ _ _) ?_)
    intro w5 hr5 hgr5
    have ho5:=ak ho hres (by decide) hgr5
    have hbel5:=hbel.grown hgr5 hbel.size (fun k hk=>by cases hk;exact Nat.le_refl _)
    have hcr:=hr5.cell
    go_wp2
    simp[bodyPost,results,go_sem,results96,hcr]
    rw[hcurn.out] at ho5
    exact⟨ho5,hbel5⟩
 ·rw[if_neg hn,if_neg hn]
  have h' : n<0∨40<n:=by omega
  clear hn
  rcases h' with h|h
  all_goals
   go_wp2_with (refine ax rfl _ (.tmp 2) (.tmp 12) rfl w.heap.size #[.slice none 0 0,.int .i64 0] rfl rfl _ _ hres0 rfl mem_size (gP _ _ _ _) ?_)
   all_goals
    intro w2 hr2 hgr
    have hbel2:=hbel0.grown hgr hbel0.size (fun k hk=>by cases hk;exact Nat.le_refl _)
    have hcr:=hr2.cell
    go_wp2
    simp[bodyPost,results,go_sem,results96,hcr]
    exact⟨Own.nil _ _ _ _,hbel2⟩
theorem IJ (m:Mem) (k n:Int) (a:Option Addr) (c:Nat) (w:World) (h:Nb w a c m) :
  Calls Tryz.prog 119 #[.agg #[.slice a m.fs.length c,.int .i64 m.hand],.int .i64 k,.int .i64 n] w fun e w' => ∃vb,e = .returned (.tuple #[.agg #[vb,.int .i64 (jw m k n).hand],.int .i64 (ky m k n)])∧Own w' w.heap.size 81 13 vb (jw m k n).fs.length ((jw m k n).fs.flatMap lZ)∧Below w.heap.size w w':=by
 go_enter func119,ntmps119
 go_wp2_with fail
 refine oJ (fun W=>Calls _ _ _ W _) fun W0 hb0 hbox0 hres0 hs0 => ?_
 refine (sV m a c _ (h.below hb0)).mono ?_
 rintro e w1 ⟨rfl,hb1⟩
 have hbel1:=ag hb0 hb1
 have hbox1:=hbox0.ext hb1
 have hres1:=hres0.ext hb1
 have h1:=h.below hbel1
 clear hbox0 hres0 hb1 hb0 hs0
 have hcb:=hbox1.cell
 by_cases hw:bJ m=0
 ·obtain⟨hl40,hall,_,_⟩:=(dB m).1 hw
  rw[hw]
  by_cases hk:k<0∨(m.fs.length:Int)≤k
  ·have q1:ky m k n=5:=by unfold ky;rw[if_neg (by omega),if_pos (by omega)]
   have q3:jw m k n=noM:=by unfold jw;rw[if_neg (by omega)]
   clear hall
   rcases hk with hk|hk
   all_goals
    go_wp2_with (refine ax rfl _ (.tmp 6) (.tmp 35) rfl (w.heap.size+1) #[.slice none 0 0,.int .i64 0] rfl rfl _ _ hres1 rfl mem_size (gP _ _ _ _) ?_)
    all_goals
     intro w5 hr5 hgr
     have hbel5:=(hbel1).grown hgr (hbel1).size (fun k hk=>by cases hk;omega)
     have hcr:=hr5.cell
     go_wp2
     simp[bodyPost,results,go_sem,results119,hcr,q1,q3,noM]
     exact⟨Own.nil _ _ _ _,hbel5⟩
  ·obtain⟨k,rfl⟩:=Int.eq_ofNat_of_zero_le (show 0≤k by omega)
   have hkl:k<m.fs.length:=by omega
   have hk1:¬(m.fs.length:Int)≤(k:Int):=by omega
   have hkz:(k:Int)<(m.fs.length:Int):=by omega
   obtain⟨⟨hr0,hr1,_⟩,_,_⟩:=(fP m.fs[k]).1 (hall _ (List.getElem_mem hkl))
   have hg:m.fs.getD (k:Int).toNat fr0=m.fs[k]:=by simp[hkl]
   clear hall hk
   obtain⟨b,off,rfl,hc⟩:=GR h1.rd k hkl
   have c8:=hc.c8
   by_cases hr:m.fs[k].r=0
   ·have q1:ky m k n=5:=by unfold ky;rw[if_neg (by omega),hg,if_pos (.inr (.inr hr))]
    have q3:jw m k n=noM:=by unfold jw;rw[if_neg (by omega)]
    have hrb:(m.fs[k].r==0)=true:=by simpa using hr
    clear hg
    go_wp2_with (refine ax rfl _ (.tmp 6) (.tmp 35) rfl (w.heap.size+1) #[.slice none 0 0,.int .i64 0] rfl rfl _ _ hres1 rfl mem_size (gP _ _ _ _) ?_)
    all_goals
     intro w5 hr5 hgr
     have hbel5:=(hbel1).grown hgr (hbel1).size (fun k hk=>by cases hk;omega)
     have hcr:=hr5.cell
     go_wp2
     simp[bodyPost,results,go_sem,results119,hcr,q1,q3,noM]
     exact⟨Own.nil _ _ _ _,hbel5⟩
   ·have hrb:(m.fs[k].r==0)=false:=by simpa using hr
    by_cases hn:n < -m.fs[k].r∨1000-m.fs[k].r<n
    ·have q1:ky m k n=3:=by unfold ky;rw[if_neg (by omega),hg,if_neg (by omega),if_pos hn]
     have q3:jw m k n=noM:=by unfold jw;rw[if_neg (by omega)]
     clear hg
     rcases hn with hn|hn
     all_goals
      go_wp2_with (refine ax rfl _ (.tmp 6) (.tmp 56) rfl (w.heap.size+1) #[.slice none 0 0,.int .i64 0] rfl rfl _ _ hres1 rfl mem_size (gP _ _ _ _) ?_)
      all_goals
       intro w5 hr5 hgr
       have hbel5:=(hbel1).grown hgr (hbel1).size (fun k hk=>by cases hk;omega)
       have hcr:=hr5.cell
       go_wp2
       simp[bodyPost,results,go_sem,results119,hcr,q1,q3,noM]
       exact⟨Own.nil _ _ _ _,hbel5⟩
    ·have q1:ky m k n=0:=by unfold ky;rw[if_neg (by omega),hg,if_neg (by omega),if_neg hn]
     have q3:jw m k n=⟨m.fs.set k (ic m.fs[k] n),m.hand⟩:=by unfold jw;rw[if_pos q1,hg];rfl
     have Q1:=Lib.hid q1
     have Q3:=Lib.hid q3
     have n1:¬n < -m.fs[k].r:=by omega
     have n2:¬1000-m.fs[k].r<n:=by omega
     clear hg q1 q3 hn hr
     go_wp2_with fail
     refine (yF m _ c _ h1 (by omega)).mono ?_
     rintro e w2 ⟨vb,rfl,ho,hb2⟩
     have hbel2:=ag hbel1 hb2
     have hres2:=hres1.ext hb2
     have hge1:=hbel1.size
     have hgx:w.heap.size+2≤w1.heap.size:=by have:=hres1.lt;omega
     obtain⟨xb,cb',rfl,_⟩:=wP ho
     clear hcb hbox1 hres1 h1 hb2 hc c8
     go_upto_region 9 with (fail)
     refine gB (fun W=>Code.wp _ _ _ _ W) fun w3 hb3 hm3 hs3 => ?_
     have hbel3:=ag hbel2 hb3
     have hres3:=hres2.ext hb3
     have ho3:=ho.below hb3
     have hgy:w.heap.size+2≤w2.heap.size:=by have:=hbel2.size;have:=hres2.lt;omega
     clear hres2 ho hb3 hs3
     obtain⟨gb,offb,capb,hvb,hBb,hgl,⟨csg,hgb⟩,hcc,hfz,hset⟩:=qC eB (by decide) rfl ho3 k hkl 8 (by decide) (.int .i64 (m.fs[k].r+n)) { m.fs[k] with r:=m.fs[k].r+n } rfl
     cases hvb
     have hc8:=hcc 8 (.int .i64 m.fs[k].r) rfl
     have hcm:=hm3.cell
     clear hcc
     have hlt3:=hm3.lt
     have hgm:w2.heap.size≠gb:=by
      intro e;subst e
      unfold aD at hm3 hgb
      rw[hm3] at hgb
      cases hgb
     go_upto_region 11 with (fail)
     have hm4:=hm3.setCell_other ⟨gb,offb+k*13+8,none⟩ (.int .i64 (m.fs[k].r+n)) (by simpa using hgm)
     have hres4:=hres3.setCell_other ⟨gb,offb+k*13+8,none⟩ (.int .i64 (m.fs[k].r+n)) (by simp;omega)
     have hbel4:Below w.heap.size w (w3.setCell ⟨gb,offb+k*13+8,none⟩ (.int .i64 (m.fs[k].r+n))):=hbel3.setCell (by simp;omega) _
     generalize w3.setCell ⟨gb,offb+k*13+8,none⟩ (.int .i64 (m.fs[k].r+n))=w4 at *
     clear hm3 hres3 hbel3 ho3 hgb hfz hc8 hcm hgl hlt3
     have hls:(m.fs.set k { m.fs[k] with r:=m.fs[k].r+n }).length=m.fs.length:=by simp
     have hkl' : k<(m.fs.set k { m.fs[k] with r:=m.fs[k].r+n }).length:=by omega
     obtain⟨_,_,hv,_,_,_,hrd4⟩:=hset.rd
     cases hv
     obtain⟨_,_,hv,hc4⟩:=GR hrd4 k hkl'
     cases hv
     rw[List.getElem_set_self] at hc4
     have c8:=hc4.c8
     simp only at c8
     clear hc4 hrd4
     have hcm:=hm4.cell
     by_cases hz:m.fs[k].r+n=0
     ·have hhf:Hid (ic m.fs[k] n=frZ):=by unfold ic;exact if_pos hz
      obtain⟨_,_,_,curb,hv,_,hgb4,hfb,hsetb⟩:=lJ eB (by decide) hls hset k hkl
      cases hv
      rw[hz] at c8
      clear hz hset
      go_wp2_with (refine fq rfl _ (.tmp 78) (.tmp 77) rfl gb (offb+k*13) (uP frZ) rfl rfl curb 81 hgb4 (by show _+13≤_;omega) frame_size (qg _) ?_)
      intro w5 hq5 hgr5
      have hB5:=hsetb w5 frZ hq5
      rw[List.set_set] at hB5
      have hm5:=aW hm4 hgb4 (by decide) hgr5
      have hres5:=aW hres4 hgb4 (by decide) hgr5
      have hbel5:Below w.heap.size w w5:=hbel4.grown hgr5 hbel4.size (fun k hk=>by cases hk;omega)
      clear hq5 hsetb hgb4 hm4 hres4 hcm c8 hgr5 hbel4
      have hcm:=hm5.cell
      go_wp2_with (refine ax rfl _ (.tmp 6) (.tmp 79) rfl (w.heap.size+1) #[.slice (some ⟨gb,offb,none⟩) m.fs.length cb',.int .i64 m.hand] rfl rfl _ _ hres5 (ui _ _ _ _ _ _ _ _) mem_size (gP _ _ _ _) ?_)
      intro w8 hr8 hgr8
      have hB8:=ak hB5 hres5 (by decide) hgr8
      have hbel8:=hbel5.grown hgr8 hbel5.size (fun k hk=>by cases hk;omega)
      have hcr:=hr8.cell
      clear hcm
      go_wp2
      simp[bodyPost,results,go_sem,results119,hcr,Q1.out,Q3.out,hhf.out]
      exact⟨by have:=hB8.mono (show w.heap.size≤w1.heap.size from hge1);simpa using this,hbel8⟩
     ·have hhf:Hid (ic m.fs[k] n = { m.fs[k] with r:=m.fs[k].r+n }):=by unfold ic;exact if_neg hz
      have hzb:(m.fs[k].r+n==0)=false:=by simpa using hz
      clear hz
      go_wp2_with (refine ax rfl _ (.tmp 6) (.tmp 79) rfl (w.heap.size+1) #[.slice (some ⟨gb,offb,none⟩) m.fs.length cb',.int .i64 m.hand] rfl rfl _ _ hres4 (ui _ _ _ _ _ _ _ _) mem_size (gP _ _ _ _) ?_)
      intro w8 hr8 hgr8
      have hB8:=ak hset hres4 (by decide) hgr8
      have hbel8:=hbel4.grown hgr8 hbel4.size (fun k hk=>by cases hk;omega)
      have hcr:=hr8.cell
      clear hcm
      go_wp2
      simp[bodyPost,results,go_sem,results119,hcr,Q1.out,Q3.out,hhf.out]
      exact⟨by have:=hB8.mono (show w.heap.size≤w1.heap.size from hge1);simpa using this,hbel8⟩
 ·have q1:ky m k n=bJ m:=by unfold ky;rw[if_pos hw]
  have q3:jw m k n=noM:=by unfold jw;rw[if_neg (by omega)]
  have hn:(bJ m != 0)=true:=by simpa using hw
  go_wp2_with (refine ax rfl _ (.tmp 6) (.tmp 15) rfl (w.heap.size+1) #[.slice none 0 0,.int .i64 0] rfl rfl _ _ hres1 rfl mem_size (gP _ _ _ _) ?_)
  all_goals
   intro w5 hr5 hgr
   have hbel5:=(hbel1).grown hgr (hbel1).size (fun k hk=>by cases hk;omega)
   have hcr:=hr5.cell
   go_wp2
   simp[bodyPost,results,go_sem,results119,hcr,q1,q3,noM]
   exact⟨Own.nil _ _ _ _,hbel5⟩
theorem IP (m:Mem) (a:Option Addr) (c:Nat) (w:World) (h:Nb w a c m) :
  Calls Tryz.prog 88 #[.agg #[.slice a m.fs.length c,.int .i64 m.hand]] w fun e w' => ∃vb,e = .returned (.tuple #[.agg #[vb,.int .i64 (dU m).hand],.int .i64 (fV m),.int .i64 (bJ m)])∧Own w' w.heap.size 81 13 vb (dU m).fs.length ((dU m).fs.flatMap lZ)∧Below w.heap.size w w':=by
 go_enter func88,ntmps88
 go_wp2_with fail
 refine oJ (fun W=>Calls _ _ _ W _) fun W0 hb0 hbox0 hres0 hs0 => ?_
 refine (sV m a c _ (h.below hb0)).mono ?_
 rintro e w1 ⟨rfl,hb1⟩
 have hbel1:=ag hb0 hb1
 have hbox1:=hbox0.ext hb1
 have hres1:=hres0.ext hb1
 have h1:=h.below hbel1
 clear hbox0 hres0 hb1 hb0 hs0
 have hcb:=hbox1.cell
 by_cases hw:bJ m=0
 ·obtain⟨hl40,hall,hh0,hh1⟩:=(dB m).1 hw
  rw[hw]
  go_wp2_with fail
  refine (yF m _ c _ h1 (by omega)).mono ?_
  rintro e w2 ⟨vb,rfl,ho,hb2⟩
  have hbel2:=ag hbel1 hb2
  have hbox2:=hbox1.ext hb2
  have hres2:=hres1.ext hb2
  have h2:=h1.below hb2
  have hge1:=hbel1.size
  have hgx:w.heap.size+2≤w1.heap.size:=by have:=hres1.lt;omega
  have hgy:w.heap.size+2≤w2.heap.size:=by have:=hb2.size;omega
  obtain⟨xb,cb',rfl,_⟩:=wP ho
  clear hcb hbox1 hres1 h1 hb2
  go_upto_region 5 with (fail)
  refine gB (fun W=>Code.wp _ _ _ _ W) fun w3 hb3 hm3 hs3 => ?_
  have hbel3:=ag hbel2 hb3
  have hbox3:=hbox2.ext hb3
  have hres3:=hres2.ext hb3
  have h3:=h2.below hb3
  have ho3:=ho.below hb3
  clear hbox2 hres2 h2 ho hb3 hs3
  by_cases hf:jK m.fs=m.fs.length
  ·have q2:dU m=m:=by unfold dU;rw[if_neg (by omega),if_pos hf]
   have q3:fV m = -1:=by unfold fV;rw[if_neg (by omega),if_pos hf]
   have hfb:((jK m.fs:Int)==(m.fs.length:Int))=true:=by simp[hf]
   have Q:=Lib.hid (And.intro q2 q3)
   clear q2 q3 hf hall
   refine aG 6 [.v (.agg #[.slice a m.fs.length c,.int .i64 m.hand]),.v (.int .i64 (jK m.fs)),_,_,_,_] (ae ?_ (ae ?_ (Gf w.heap.size 0 rfl rfl (Gl hbox3 (V:=.slice a m.fs.length c) (by simp[underlying26]) rfl rfl rfl rfl (Gn rfl rfl rfl rfl (Gb (.bool true) (by simp[go_sem,hfb]) rfl rfl rfl rfl rfl (aB)) (underlying26)))))) (fun _=>rfl) rfl ?_
   ·intro ρ y W hw hn hb hd;have E1:ρ (.tmp 1) = .pointer (some ⟨w.heap.size,0,none⟩):=(hn (.tmp 1) rfl).trans rfl
    refine aj (.agg #[.slice a m.fs.length c,.int .i64 m.hand]) (ah rfl) (by simp[execOp,go_sem,E1,(hbox3.ext hb).cell]) rfl
   ·intro ρ y W hw hn hb hd;have E17:=hw 17 0 rfl;have h0:y 0=_:=hd 0 rfl
    have EF:∀f,ρ (.func f) = .func (.func f) #[] #[]:=fun f=>hn (.func f) trivial
    refine aM _ _ (ah rfl) (aN rfl (EF _) func124 (by kernel_rfl) (by kernel_rfl) (by simp only[List.map_toArray,List.map_cons,List.map_nil,E17,h0,EF];rfl)) ?_
    refine (zS m a c W (h3.below hb)).mono ?_
    rintro e w1 ⟨rfl,hb1⟩
    exact⟨_,rfl,hb1,rfl⟩
   intro y WA hbWA _
   have hbelA:=ag hbel3 hbWA
   have hresA:=hres3.ext hbWA
   have hmA:=hm3.ext hbWA
   have hoA:=ho3.below hbWA
   clear hbox3 hres3 hm3 ho3 h3 hbWA
   have hcm:=hmA.cell
   go_wp2_with (refine ax rfl _ (.tmp 2) (.tmp 23) rfl (w.heap.size+1) #[.slice xb m.fs.length cb',.int .i64 m.hand] rfl rfl _ _ hresA (ui _ _ _ _ _ _ _ _) mem_size (gP _ _ _ _) ?_)
   intro w8 hr8 hgr8
   have hB8:=ak hoA hresA (by decide) hgr8
   have hbel8:=hbelA.grown hgr8 hbelA.size (fun k hk=>by cases hk;omega)
   have hcr:=hr8.cell
   clear hcm
   go_wp2
   simp[bodyPost,results,go_sem,results88,hcr,Q.out.1,Q.out.2]
   first
    | exact⟨hB8.mono hge1,hbel8⟩
    | exact⟨_,⟨rfl,rfl⟩,hB8.mono hge1,hbel8⟩
    | exact⟨_,⟨rfl,hw.symm⟩,hB8.mono hge1,hbel8⟩
  ·obtain⟨hS1,hS2,hS3⟩:=Kc m hw hf
   have q2:dU m=⟨kL m (fB m),(gH m (fB m+1):Nat)⟩:=by unfold dU;rw[if_neg (by omega),if_neg hf]
   have q3:fV m=(gH m (fB m):Nat):=by unfold fV;rw[if_neg (by omega),if_neg hf]
   have hfb:((jK m.fs:Int)==(m.fs.length:Int))=false:=by simpa using (by omega:¬(jK m.fs:Int)=m.fs.length)
   have hpos:0<m.fs.length:=by
    rcases Nat.eq_zero_or_pos m.fs.length with h0|h0
    ·exact absurd (by have:=yl m.fs;omega) hf
    ·exact h0
   have Q:=Lib.hid (And.intro q2 (And.intro q3 (And.intro hS1 (And.intro hS2 hS3))))
   clear q2 q3 hf hall hS1 hS2 hS3
   refine aG 6 [.v (.agg #[.slice a m.fs.length c,.int .i64 m.hand]),.v (.int .i64 (jK m.fs)),_,_,_,_] (ae ?_ (ae ?_ (Gf w.heap.size 0 rfl rfl (Gl hbox3 (V:=.slice a m.fs.length c) (by simp[underlying26]) rfl rfl rfl rfl (Gn rfl rfl rfl rfl (Gb (.bool false) (by simp[go_sem,hfb]) rfl rfl rfl rfl rfl (aB)) (underlying26)))))) (fun _=>rfl) rfl ?_
   ·intro ρ y W hw hn hb hd;have E1:ρ (.tmp 1) = .pointer (some ⟨w.heap.size,0,none⟩):=(hn (.tmp 1) rfl).trans rfl
    refine aj (.agg #[.slice a m.fs.length c,.int .i64 m.hand]) (ah rfl) (by simp[execOp,go_sem,E1,(hbox3.ext hb).cell]) rfl
   ·intro ρ y W hw hn hb hd;have E17:=hw 17 0 rfl;have h0:y 0=_:=hd 0 rfl
    have EF:∀f,ρ (.func f) = .func (.func f) #[] #[]:=fun f=>hn (.func f) trivial
    refine aM _ _ (ah rfl) (aN rfl (EF _) func124 (by kernel_rfl) (by kernel_rfl) (by simp only[List.map_toArray,List.map_cons,List.map_nil,E17,h0,EF];rfl)) ?_
    refine (zS m a c W (h3.below hb)).mono ?_
    rintro e w1 ⟨rfl,hb1⟩
    exact⟨_,rfl,hb1,rfl⟩
   intro y WA hbWA _
   have hbelA:=ag hbel3 hbWA
   have hresA:=hres3.ext hbWA
   have hmA:=hm3.ext hbWA
   have hoA:=ho3.below hbWA
   clear hbox3 hres3 hm3 ho3 h3 hbWA
   have hst:Hid (m.hand=(gH m 0:Nat)):=by
    show m.hand=(gH m 0:Nat)
    unfold gH
    rw[Nat.add_zero,Nat.mod_eq_of_lt (by omega)]
    omega
   rw[hst.out] at hmA
   clear hst
   go_wp2
   go_loopg [7] (2*m.fs.length) (fun gg s7 wr => ∃s:Nat,Hid (s≤fB m)∧2*m.fs.length-s≤gg∧Below w.heap.size w wr∧aD wr w2.heap.size #[.slice xb m.fs.length cb',.int .i64 (gH m s)] 28∧aD wr (w.heap.size+1) #[.slice none 0 0,.int .i64 0] 28∧Own wr w.heap.size 81 13 (.slice xb m.fs.length cb') m.fs.length ((kL m s).flatMap lZ))
   case atStart=>exact⟨0,Lib.hid (Nat.zero_le _),by omega,hbelA,hmA,hresA,by rw[KP];exact hoA.mono hge1⟩
   case round=>
    clear hbelA hmA hresA hoA
    obtain⟨s,hs,hgg,hbel,hm,hres,ho⟩:=hrel
    obtain⟨k,hk⟩:∃k,k=gH m s:=⟨_,rfl⟩
    have hkl:k<m.fs.length:=by rw[hk];exact kY hpos s
    have hnx:((k:Int)+1)%(m.fs.length:Int)=(gH m (s+1):Nat):=by
     have h1:gH m (s+1)=(k+1)%m.fs.length:=by
      rw[hk]
      unfold gH
      rw[Nat.mod_add_mod,Nat.add_assoc]
     rw[h1,show (k:Int)+1=((k+1:Nat):Int) from by simp,←Int.natCast_emod]
    have hlk:k<(kL m s).length:=by rw[gu];exact hkl
    have hstop:qD m s=(decide (0<((kL m s)[k]'hlk).r)&&!((kL m s)[k]'hlk).u):=by subst hk;exact Nn m s hpos
    have hsucc:Hid ((kL m s).set k (unused ((kL m s)[k]'hlk))=kL m (s+1)):=by subst hk;exact LW m s hpos
    rw[←hk] at hm
    have hk':=Lib.hid hk
    clear hk
    have hcm:=hm.cell
    have hfm:=hm.free
    have hl0:((m.fs.length:Int)==0)=false:=beq_eq_false_iff_ne.2 (by omega)
    have hl1:¬(m.fs.length:Int)=0:=by omega
    have hlm:=hm.lt
    have hst':=Lib.hid hstop
    clear hstop
    go_upto_region 9 with (fail)
    have hm5:=hm.setCell 1 (.int .i64 (gH m (s+1):Nat))
    have hres5:=hres.setCell_other ⟨w2.heap.size,1,none⟩ (.int .i64 (gH m (s+1):Nat)) (by simp;omega)
    have ho5:=qf ho hm (by decide) 1 (.int .i64 (gH m (s+1):Nat))
    have hbel5:Below w.heap.size w (wr.setCell ⟨w2.heap.size,1,none⟩ (.int .i64 (gH m (s+1):Nat))):=hbel.setCell (by simp;omega) _
    generalize wr.setCell ⟨w2.heap.size,1,none⟩ (.int .i64 (gH m (s+1):Nat))=w5 at *
    have hm5' : aD w5 w2.heap.size #[.slice xb m.fs.length cb',.int .i64 (gH m (s+1):Nat)] 28:=hm5
    clear hm hcm hfm hres ho hbel hm5 hlm hnx hl0 hl1
    have hcm:=hm5'.cell
    obtain⟨g,off,cap,hv,hBg,hgl,⟨csg,hgb⟩,hcc,hfz,hset⟩:=qC eB (by decide) (gu m s) ho5 k hkl 9 (by decide) (.bool false) (unused ((kL m s)[k]'hlk)) rfl
    cases hv
    generalize hF:(kL m s)[k]'hlk=F at *
    have c8:=hcc 8 (.int .i64 F.r) rfl
    have c9:=hcc 9 (.bool F.u) rfl
    have hkz:(k:Int)<(m.fs.length:Int):=by omega
    clear hcc hF
    have hgm:w2.heap.size≠g:=by
     intro e;subst e
     unfold aD at hm5' hgb
     rw[hm5'] at hgb
     cases hgb
    have hgw:g≠w.heap.size+1:=by
     intro e;subst e
     unfold aD at hres5 hgb
     rw[hres5] at hgb
     cases hgb
    by_cases hr:0<F.r
    ·cases hu:F.u with
     | true=>
      rw[hu] at c9
      have hnot:Hid (s+1≤fB m):=by
       have h1:=hst'.out
       rw[hu] at h1
       have h2:s≠fB m:=by
        intro e
        rw[e,Q.out.2.2.2.1] at h1
        simp at h1
       have:=hs.out
       show s+1≤fB m
       omega
      clear hu
      go_wp2
      go_roundg (2*m.fs.length-(s+1))
      case measure=>have:=hnot.out;have:=Q.out.2.2.1;omega
      case rel=>exact⟨s+1,hnot,Nat.le_refl _,hbel5.setCell (by simp;omega) _,hm5'.setCell_other _ _ (by simpa using hgm),hres5.setCell_other _ _ (by simp;omega),by rw[←hsucc.out];exact hset⟩
     | false=>
      rw[hu] at c9
      have hS:Hid (s=fB m):=by
       have h1:=hst'.out
       rw[hu] at h1
       have h2:qD m s=true:=by rw[h1];simp[hr]
       have:=hs.out
       rcases Nat.lt_or_ge s (fB m) with h|h
       ·rw[Q.out.2.2.2.2 s h] at h2;cases h2
       ·show s=fB m;omega
      clear hu hset hsucc
      go_wp2_with (refine ax rfl _ (.tmp 2) (.tmp 50) rfl (w.heap.size+1) #[.slice (some ⟨g,off,none⟩) m.fs.length cb',.int .i64 (gH m (s+1):Nat)] rfl rfl _ _ hres5 (ui _ _ _ _ _ _ _ _) mem_size (gP _ _ _ _) ?_)
      intro w8 hr8 hgr8
      have hB8:=ak ho5 hres5 (by decide) hgr8
      have hbel8:=hbel5.grown hgr8 hbel5.size (fun k hk=>by cases hk;omega)
      have hcr:=hr8.cell
      clear hcm
      go_wp2
      have hS':=hS.out
      rw[←hS'] at Q
      simp[bodyPost,results,go_sem,results88,hcr,Q.out.1,Q.out.2.1,hw,hk'.out]
      exact⟨by rw[gu];exact hB8,hbel8⟩
    ·have hnot:Hid (s+1≤fB m):=by
      have h1:=hst'.out
      have h2:s≠fB m:=by
       intro e
       rw[e,Q.out.2.2.2.1] at h1
       simp[hr] at h1
      have:=hs.out
      show s+1≤fB m
      omega
     go_wp2
     go_roundg (2*m.fs.length-(s+1))
     case measure=>have:=hnot.out;have:=Q.out.2.2.1;omega
     case rel=>exact⟨s+1,hnot,Nat.le_refl _,hbel5.setCell (by simp;omega) _,hm5'.setCell_other _ _ (by simpa using hgm),hres5.setCell_other _ _ (by simp;omega),by rw[←hsucc.out];exact hset⟩
 ·have q2:dU m=noM:=by unfold dU;rw[if_pos hw]
  have q3:fV m=0:=by unfold fV;rw[if_pos hw]
  have hn:(bJ m != 0)=true:=by simpa using hw
  go_wp2_with (refine ax rfl _ (.tmp 2) (.tmp 13) rfl (w.heap.size+1) #[.slice none 0 0,.int .i64 0] rfl rfl _ _ hres1 rfl mem_size (gP _ _ _ _) ?_)
  intro w5 hr5 hgr
  have hbel5:=hbel1.grown hgr hbel1.size (fun k hk=>by cases hk;omega)
  have hcr:=hr5.cell
  go_wp2
  simp[bodyPost,results,go_sem,results88,hcr,q2,q3,noM]
  exact⟨Own.nil _ _ _ _,hbel5⟩
theorem bu {d:TypeDesc} (ho:o.op = .load ty x) (hx:ρ x = .pointer (some ⟨b,off,none⟩)) (hrd:dA w (some ⟨b,off,none⟩) vs)
 (hu:P.underlying ty=some d) (hd:aggB d=true) (hi:(P.info? ty).map (·.size)=some vs.length):(execOp ρ o).run P w = .ok (.value (.agg vs.toArray)) w:=by
 unfold execOp
 simp only[ho,hx,Instr.loadAt,Instr.sureAddr,Sem.run_bind,Sem.run_pure,Result.andThen_ok,iI hrd hu hd hi]
def iM (e:En):Array Value:=#[.int .i64 e.k,.int .i64 e.n,.bool e.w]
def jT (e:En):List Value:=(iM e).toList
theorem eU (e:En):(jT e).length=3:=rfl
structure DJ (w:World) (cs:Array Value) (t:Tb):Prop where
 sz:cs.size=8
 at' : ∀k (h:k<8),∃a c,cs[k]?=some (.slice a t[k].length c)∧t[k].length≤c∧c≤maxLen∧(a=none→c=0)∧dA w a (t[k].flatMap jT)
theorem DJ.below {t:Tb} (h:DJ w cs t) (hb:Below w.heap.size w w'):DJ w' cs t:=
 ⟨h.sz,fun k hk=>by obtain⟨a,c,h1,h2,h3,h4,h5⟩:=h.at' k hk;exact⟨a,c,h1,h2,h3,h4,h5.below hb⟩⟩
theorem DJ.one {t:Tb} (h:DJ w cs t):cs.all (·.oneCell')=true:=by
 rw[Array.all_eq_true]
 intro i hi
 obtain⟨a,c,h1,_⟩:=h.at' i (by have:=h.sz;omega)
 rw[Array.getElem?_eq_getElem hi] at h1
 rw[Option.some.inj h1]
 rfl
theorem GU (h:k<8) (hv:cs[k]?=some v) (w:World):(Instr.index 53 (.agg cs) (.int .i64 k)).run Tryz.prog w = .ok v w:=
 yD underlying53 underlying51 Oi (by kernel_rfl) _ k _ h hv _ w
theorem tab_agg:aggB (.array 8 51)=true:=rfl
theorem tab_size:(Tryz.prog.info? 53).map (·.size)=some 8:=by kernel_rfl
theorem JZ {l:List En} (h:dA w a (l.flatMap jT)) (k:Nat) (hk:k<l.length):∃b off,a=some ⟨b,off,none⟩∧w.cell? ⟨b,off+k*3,none⟩=some (.int .i64 l[k].k)∧w.cell? ⟨b,off+k*3+1,none⟩=some (.int .i64 l[k].n)∧w.cell? ⟨b,off+k*3+2,none⟩=some (.bool l[k].w):=by
 obtain⟨b,off,ha,hc⟩:=h.elem eU (by decide) k hk
 exact⟨b,off,ha,hc 0 _ rfl,hc 1 _ rfl,hc 2 _ rfl⟩
theorem zt (e:En) (w:World):Calls Tryz.prog 138 #[.agg #[.int .i64 e.k,.int .i64 e.n,.bool e.w]] w fun r w'=>r = .returned (.int .i64 (eT e))∧Below w.heap.size w w':=by
 go_enter func138,ntmps138
 go_wp2
 all_goals go_ret
 all_goals refine⟨?_,(Below.refl _ _).alloc (Nat.le_refl _) _⟩
 all_goals go_light
 all_goals refine congrArg (fun z=>Ending.returned (.int .i64 z)) ?_
 all_goals simp only[eT]
 all_goals simp_all
 all_goals omega
theorem xP (t:Tb) (cs:Array Value) (w:World) (h:DJ w cs t):Calls Tryz.prog 112 #[.agg cs] w fun r w'=>r = .returned (.int .i64 (cZ t))∧Below w.heap.size w w':=by
 go_enter func112,ntmps112
 go_upto_region 1 with (fail)
 refine gB (fun W=>Code.wp _ _ _ _ W) fun W0 hb0 hx0 hs0 => ?_
 clear hs0
 go_wp2_with (refine fw rfl 53 (.tmp 1) rfl w.heap.size 0 rfl cs.toList hx0.rd _ underlying53 tab_agg (by rw[Array.length_toList,h.sz];exact tab_size) ?_)
 clear hx0
 go_loopw [10] (fun i wr => ∃k:Nat,k≤8∧i = .int .i64 k∧Below w.heap.size w wr∧∀i (hi:i<8),i<k→jP t[i]=0) (fun i _=>8-(intOf i).toNat)
 case atStart=>exact⟨0,Nat.zero_le _,rfl,hb0,fun i _ h=>absurd h (Nat.not_lt_zero _)⟩
 case round=>
  obtain⟨k,hk,rfl,hbr,hp0⟩:=hrel
  have hp:=Lib.hid hp0
  clear hp0 hb0
  by_cases hlt:k<8
  ·obtain⟨a,c,hcs,hle,hmx,hnil,hrd⟩:=h.at' k hlt
   have hix:=fun W=>GU hlt hcs W
   have hd8:decide ((k:Int)<8)=true:=by simp;omega
   unfold maxLen at hmx
   clear hcs
   by_cases h08:t[k].length=0∨t[k].length=8
   ·have H08:=Lib.hid h08
    have q1:((t[k].length:Int) != 0)=true∧((t[k].length:Int) != 8)=false∨((t[k].length:Int) != 0)=false∧((t[k].length:Int) != 8)=true:=by
     rcases h08 with e|e<;>simp[e]
    clear h08
    rcases q1 with ⟨q1,q2⟩|⟨q1,q2⟩
    all_goals
     go_wp2
     clear hix
     go_loopw [23,5] (fun i s wr' => ∃j:Nat,j≤t[k].length∧i = .int .i64 j∧s = .bool (Bg t[k] j)∧Below w.heap.size w wr'∧∀i (hi:i<t[k].length),i<j→eT t[k][i]=0) (fun i _ _=>t[k].length-(intOf i).toNat)
     case atStart=>exact⟨0,Nat.zero_le _,rfl,rfl,hbr,fun i _ h=>absurd h (Nat.not_lt_zero _)⟩
     case round=>
      obtain⟨j,hj,rfl,rfl,hbq,hq0⟩:=hrel
      have hq:=Lib.hid hq0
      clear hq0 hbr
      by_cases hjl:j<t[k].length
      ·obtain⟨b,off,rfl,c0,c1,c2⟩:=JZ (hrd.below hbq) j hjl
       go_wp2_with fail
       refine gB (fun W=>Calls _ _ _ W _) fun W3 hb3 hx3 hs3 => ?_
       have hbel3:=ag hbq hb3
       clear hbq hs3 c0 c1 c2 hb3
       refine (zt t[k][j] _).mono ?_
       rintro e w4 ⟨rfl,hb4⟩
       have hbel4:=ag hbel3 hb4
       have hx4:=(hx3.ext hb4).cell
       clear hx3 hb4 hbel3
       by_cases he:eT t[k][j]=0
       ·have hen:=JS t[k] j hjl
        have he':=Lib.hid he
        rw[he]
        clear he
        cases hs:Bg t[k] j
        all_goals
         rw[hs] at hen
         go_wp2
         go_roundw
         case rel=>exact⟨j+1,by omega,by go_num,by rw[hen];first | rfl | (congr 1;rw[Bool.eq_iff_iff];simp),hbel4,kV hq.out hjl he'.out⟩
         case measure=>simp[intOf];omega
       ·have he2:(eT t[k][j] != 0)=true:=by simpa using he
        have hfin:=Lib.hid (vF k hlt hp.out (by rw[Du H08.out j hjl hq.out he];exact he))
        have hfin2:=Lib.hid (Du H08.out j hjl hq.out he)
        go_wp2
        go_ret
        exact⟨aV (hfin.out.trans hfin2.out).symm,hbel4⟩
      ·have hend:=Lib.hid (vo H08.out fun i hi=>hq.out i hi (by omega))
       have hall:=Lib.hid (Ld t[k] j (by omega))
       by_cases hgo:0<t[k].length∧Bg t[k] j=false
       ·obtain⟨g1,g2⟩:=hgo
        have hfin2:=Lib.hid (hend.out.trans (if_pos ⟨g1,hall.out▸g2⟩))
        have hfin:=Lib.hid (vF k hlt hp.out (by rw[hfin2.out];decide))
        rw[g2]
        go_wp2
        go_ret
        exact⟨aV (hfin.out.trans hfin2.out).symm,hbq⟩
       ·have hfin2:=Lib.hid (hend.out.trans (if_neg (fun h=>hgo ⟨h.1,hall.out.trans h.2⟩)))
        have hgo2:¬0<t[k].length∨0<t[k].length∧Bg t[k] j=true:=by
         by_cases hz:0<t[k].length
         ·exact .inr ⟨hz,by simpa[hz] using hgo⟩
         ·exact .inl hz
        clear hgo
        rcases hgo2 with g1|⟨g1,g2⟩
        ·go_wp2
         go_roundw
         case rel=>exact⟨k+1,by omega,by go_num,hbq,kV hp.out hlt hfin2.out⟩
         case measure=>simp[intOf];omega
        ·rw[g2]
         go_wp2
         go_roundw
         case rel=>exact⟨k+1,by omega,by go_num,hbq,kV hp.out hlt hfin2.out⟩
         case measure=>simp[intOf];omega
   ·have q1:((t[k].length:Int) != 0)=true:=by rw[bne_iff_ne];omega
    have q2:((t[k].length:Int) != 8)=true:=by rw[bne_iff_ne];omega
    have hfin2:=Lib.hid (yH (h:=t[k]) (by omega))
    have hfin:=Lib.hid (vF k hlt hp.out (by rw[hfin2.out];decide))
    go_wp2
    go_ret
    exact⟨aV (hfin.out.trans hfin2.out).symm,hbr⟩
  ·have hfin:=Lib.hid (vS fun i hi=>hp.out i hi (by omega))
   go_wp2
   go_ret
   exact⟨aV hfin.out.symm,hbr⟩
theorem entry_info:(Tryz.prog.info? 89).map (fun i=>(i.zero,i.size,i.bytes))=some (some (.agg #[.int .i64 0,.int .i64 0,.bool false]),3,24):=by kernel_rfl
theorem vP (l:List En):(l.flatMap jT).length=l.length*3:=Pw.flat_len jT 3 eU l
theorem fJ (f:En):(iM f).all (·.oneCell')=true:=by simp[iM,Value.oneCell']
theorem BZ (l:List En):∀u∈l.flatMap jT,u.oneCell' = true:=by
 intro u hu
 obtain⟨f,_,hf⟩:=List.mem_flatMap.1 hu
 have:=fJ f
 rw[←Array.all_toList,List.all_eq_true] at this
 exact this u hf
theorem yV (l:List En) (a:Option Addr) (c:Nat) (w:World) (hle:l.length≤c) (hnil:a=none→c=0) (hrd:dA w a (l.flatMap jT)) (hb:l.length*24≤140737488355328) :
  Calls Tryz.prog 117 #[.slice a l.length c] w fun e w' => ∃v,e = .returned v∧Own w' w.heap.size 89 3 v l.length (l.flatMap jT)∧Below w.heap.size w w':=by
 cases a with
 | none=>
  have h0:=hnil rfl
  have hl:l=[]:=List.eq_nil_of_length_eq_zero (by omega)
  subst hl
  subst h0
  have hq:=fun W=>Lib.run_eql_slice_nil (P:=Tryz.prog) W 51 _ none 0 0 0 0 underlying51
  go_enter func117,ntmps117
  go_wp2
  go_ret
  exact⟨_,rfl,by simpa using Own.nil _ _ _ _,Below.refl _ _⟩
 | some ad=>
  have hq:=fun W=>Lib.run_eql_slice_nil (P:=Tryz.prog) W 51 _ (some ad) l.length c 0 0 underlying51
  go_enter func117,ntmps117
  go_wp2_with (at_builtin;go_must (refine dI rfl _ _ 51 rfl w.heap.size 89 (.agg #[.int .i64 0,.int .i64 0,.bool false]) 3 24 underlying51 entry_info rfl (by decide) _ 0 [] rfl ?own (some ad) l.length c (l.flatMap jT) rfl (fun h=>(by cases h)) hle (vP l) ?rd (BZ l) (by unfold maxLen;omega) (by simpa using hb) ?bb ?k))
  case own=>exact⟨rfl,.inr ⟨w.heap.size,0,0,#[],rfl,Nat.le_refl _,aD.new _ _ _,Nat.le_refl _,Nat.zero_le _,by simp,fun j u h=>by simp at h⟩⟩
  case rd=>exact hrd.below ((Below.refl _ _).alloc (Nat.le_refl _) _)
  case bb=>exact ed _ _
  intro v w1 hown hgr
  go_wp2
  go_ret
  exact⟨v,rfl,by simpa using hown,((Below.refl _ _).alloc (Nat.le_refl _) _).grown hgr (ed _ _) (fun k hk=>by cases hk;exact Nat.le_refl _)⟩
structure mD (w:World) (B:Nat) (cs:Array Value) (t:Tb):Prop where
 sz:cs.size=8
 own:∀k (h:k<8),∃v,cs[k]?=some v∧Own w B 89 3 v t[k].length (t[k].flatMap jT)
 apart:∀(j k:Nat) (v u:Value),j<k→cs[j]?=some v→cs[k]?=some u→∀g,v.ownBlock=some g→u.ownBlock≠some g
theorem mD.rd {t:Tb} (h:mD w B cs t):DJ w cs t:=
 ⟨h.sz,fun k hk=>by
  obtain⟨v,h1,h2⟩:=h.own k hk
  obtain⟨a,c,rfl,h3,h4,h5,h6⟩:=h2.rd
  exact⟨a,c,h1,h3,h4,h5,h6⟩⟩
theorem mD.below {t:Tb} (h:mD w B cs t) (hb:Below w.heap.size w w'):mD w' B cs t:=
 ⟨h.sz,fun k hk=>by obtain⟨v,h1,h2⟩:=h.own k hk;exact⟨v,h1,h2.below hb⟩,h.apart⟩
theorem mD.mono {t:Tb} (h:mD w B cs t) (hB:B'≤B):mD w B' cs t:=
 ⟨h.sz,fun k hk=>by obtain⟨v,h1,h2⟩:=h.own k hk;exact⟨v,h1,h2.mono hB⟩,h.apart⟩
theorem mD.keep {t:Tb} (h:mD w B cs t) (hk:aD w g cs' T) (hT:T≠89) (hgr:w.grownBy w' (some g)):mD w' B cs t:=
 ⟨h.sz,fun k hk'=>by obtain⟨v,h1,h2⟩:=h.own k hk'; exact⟨v,h1,ak h2 hk hT hgr⟩,h.apart⟩
structure MX (w:World) (B:Nat) (cs ca:Array Value) (t:Tb) (k:Nat):Prop where
 sz:ca.size=8
 old:∀i,k≤i→ca[i]?=cs[i]?
 own:∀i (h:i<8),i<k→∃v,ca[i]?=some v∧Own w B 89 3 v t[i].length (t[i].flatMap jT)
 apart:∀(j i:Nat) (v u:Value),j<i→i<k→ca[j]?=some v→ca[i]?=some u→∀g,v.ownBlock=some g→u.ownBlock≠some g
theorem MX.start {t:Tb} (h:cs.size=8):MX w B cs cs t 0:=⟨h,fun _ _=>rfl,fun _ _ h=>absurd h (Nat.not_lt_zero _),fun _ _ _ _ _ h=>absurd h (Nat.not_lt_zero _)⟩
theorem FJ (h:Own w B e sz v n xs) (g:Nat) (hg:v.ownBlock=some g):g<w.heap.size:=by
 obtain⟨cs,hb⟩:=jd h g hg
 exact hb.lt
theorem MX.step {t:Tb} (h:MX w B cs ca t k) (hB:B≤w.heap.size) (hk:k<8) (hb:Below w.heap.size w w4) (ho:Own w4 w.heap.size 89 3 v t[k].length (t[k].flatMap jT))
 (hblk:aD w4 b ca T) (hT:T≠89) (hg:w4.grownBy w5 (some b)):MX w5 B cs (ca.setIfInBounds k v) t (k+1) where
 sz:=by simp[h.sz]
 old:=fun i hi=>by rw[Array.getElem?_setIfInBounds_ne (by omega)];exact h.old i (by omega)
 own:=fun i hi hik=>by
  by_cases e:i=k
  ·subst e
   exact⟨v,by rw[Array.getElem?_setIfInBounds_self_of_lt (by rw[h.sz];exact hi)],ak (ho.mono hB) hblk hT hg⟩
  ·obtain⟨u,h1,h2⟩:=h.own i hi (by omega)
   exact⟨u,by rw[Array.getElem?_setIfInBounds_ne (by omega)];exact h1,ak (h2.below hb) hblk hT hg⟩
 apart:=fun j i x y hji hi hx hy g hgx hgy=>by
  have hjk:j≠k:=by omega
  rw[Array.getElem?_setIfInBounds_ne (by omega)] at hx
  by_cases e:i=k
  ·subst e
   rw[Array.getElem?_setIfInBounds_self_of_lt (by rw[h.sz];exact hk)] at hy
   cases hy
   have h1:=ho.ge g hgy
   obtain⟨u,h2,h3⟩:=h.own j (by omega) (by omega)
   rw[h2] at hx
   cases hx
   have:=FJ h3 g hgx
   omega
  ·rw[Array.getElem?_setIfInBounds_ne (by omega)] at hy
   exact h.apart j i x y hji (by omega) hx hy g hgx hgy
theorem MX.fin {t:Tb} (h:MX w B cs ca t 8):mD w B ca t:=
 ⟨h.sz,fun k hk=>h.own k hk hk,fun j k v u hjk h1 h2=>h.apart j k v u hjk (by
  rcases Nat.lt_or_ge k 8 with hk|hk
  ·exact hk
  ·rw[Array.getElem?_eq_none (by rw[h.sz];exact hk)] at h2;cases h2) h1 h2⟩
theorem De (t:Tb) (cs:Array Value) (w:World) (h:DJ w cs t) (hz:zk t):Calls Tryz.prog 77 #[.agg cs] w fun r w' => ∃cs',r = .returned (.agg cs')∧mD w' w.heap.size cs' t∧Below w.heap.size w w':=by
 go_enter func77,ntmps77
 go_upto_region 1 with (fail)
 refine oJ (fun W=>Code.wp _ _ _ _ W) fun W0 hb0 hx0 hres0 hs0 => ?_
 clear hs0
 go_wp2_with (refine fw rfl 53 (.tmp 1) rfl w.heap.size 0 rfl cs.toList hx0.rd _ underlying53 tab_agg (by rw[Array.length_toList,h.sz];exact tab_size) ?_)
 have hM0:MX W0 w.heap.size cs cs t 0:=MX.start h.sz
 go_loopw [6] (fun i wr => ∃(k:Nat) (ca:Array Value),k≤8∧i = .int .i64 k∧Below w.heap.size w wr∧aD wr w.heap.size ca 53∧aD wr (w.heap.size+1) #[.slice none 0 0,.slice none 0 0,.slice none 0 0,.slice none 0 0,.slice none 0 0,.slice none 0 0,.slice none 0 0,.slice none 0 0] 53∧MX wr w.heap.size cs ca t k) (fun i _=>8-(intOf i).toNat)
 case atStart=>exact⟨0,cs,Nat.zero_le _,rfl,hb0,hx0,hres0,hM0⟩
 case round=>
  obtain⟨k,ca,hk,rfl,hbr,hx,hres,hM⟩:=hrel
  clear hb0 hx0 hres0 hM0
  by_cases hlt:k<8
  ·obtain⟨a,c,hcs,hle,hmx,hnil,hrd⟩:=h.at' k hlt
   have hix:=fun W=>GU hlt hcs W
   have hd8:decide ((k:Int)<8)=true:=by simp;omega
   have hca:=(hM.old k (Nat.le_refl _)).trans hcs
   have HCA:=Lib.hid hca
   clear hca hcs
   go_wp2_with fail
   refine (yV t[k] a c _ hle hnil (hrd.below hbr) (hz k hlt)).mono ?_
   rintro e w4 ⟨v,rfl,ho,hb4⟩
   have hbel4:=ag hbr hb4
   have hx4:=hx.ext hb4
   have hres4:=hres.ext hb4
   have hc4:=(hx4.cell k).trans HCA.out
   have hf4:=hx4.free k
   have hgr4:=aA w4 w.heap.size k [v]
   have hM5:=hM.step hbr.size hlt hb4 ho hx4 (by decide) hgr4
   have hx5:aD (w4.setCell ⟨w.heap.size,k,none⟩ v) w.heap.size (ca.setIfInBounds k v) 53:=hx4.setCell k v
   have hres5:=hres4.setCell_other ⟨w.heap.size,k,none⟩ v (by simp)
   have hbel5:Below w.heap.size w (w4.setCell ⟨w.heap.size,k,none⟩ v):=hbel4.grown hgr4 hbel4.size (fun k hk=>by cases hk;exact Nat.le_refl _)
   obtain⟨xa,xc,rfl,_⟩:=ho.rd
   clear hx4 hres4 hbr hx hres hM hbel4 hb4 ho hgr4 hix
   go_wp2
   go_roundw
   case rel=>exact⟨k+1,_,by omega,by go_num,hbel5,hx5,hres5,hM5⟩
   case measure=>simp[intOf];omega
  ·obtain rfl:k=8:=by omega
   have hO:=hM.fin
   have hone:=hO.rd.one
   have hsz:=hM.sz
   go_wp2_with (first | (refine fw rfl 53 (.tmp 1) rfl w.heap.size 0 rfl ca.toList hx.rd _ underlying53 tab_agg (by rw[Array.length_toList,hsz];exact tab_size) ?_) | (refine ax rfl _ (.tmp 2) (.tmp 15) rfl (w.heap.size+1) ca rfl rfl _ _ hres (by rw[hsz];rfl) (by rw[hsz];exact tab_size) hone ?_))
   intro w5 hr5 hgr5
   have hO5:=hO.keep hres (by decide) hgr5
   have hbel5:Below w.heap.size w w5:=hbr.grown hgr5 hbr.size (fun k hk=>by cases hk;omega)
   go_wp2
   refine bodyPost_ret (v:=.agg ca) (results_cell_row results77 _ _ (w.heap.size+1) _ ca _ _ rfl hr5 underlying53 rfl (by rw[hsz];exact tab_size)) rfl ?_
   exact⟨_,rfl,hO5,hbel5⟩
theorem entry_size:(Tryz.prog.info? 89).map (·.size)=some 3:=by kernel_rfl
theorem Pp {l:List En} (h:dA w a (l.flatMap jT)) (k:Nat) (hk:k<l.length):∃b off E,a=some ⟨b,off,none⟩∧l[k]?=some E∧w.cell? ⟨b,off+k*3,none⟩=some (.int .i64 E.k)∧w.cell? ⟨b,off+k*3+1,none⟩=some (.int .i64 E.n)∧w.cell? ⟨b,off+k*3+2,none⟩=some (.bool E.w):=by
 obtain⟨b,off,ha,h0,h1,h2⟩:=JZ h k hk
 exact⟨b,off,l[k],ha,List.getElem?_eq_getElem hk,h0,h1,h2⟩
theorem uJ (t:Tb) (cs:Array Value) (n:Int) (w:World) (h:DJ w cs t):Calls Tryz.prog 69 #[.agg cs,.int .i64 n] w fun r w'=>r = .returned (.agg (iM (dn t n)))∧Below w.heap.size w w':=by
 by_cases hn:0≤n∧n<64
 ·obtain⟨q,r,hq,hr,hnn,hdq,hdr⟩:=rF hn
  have hg:=uH (t:=t) hq hr
  rw[←hnn] at hg
  have HG:=Lib.hid hg
  have HN:=Lib.hid hnn
  obtain⟨n0,n1⟩:=hn
  have hn0:decide (n<0)=false:=by simp;omega
  have hn1:decide (64≤n)=false:=by simp;omega
  obtain⟨a,c,hcs,hle,hmx,hnil,hrd⟩:=h.at' q hq
  unfold maxLen at hmx
  clear hg hnn
  go_enter func69,ntmps69
  go_upto_region 1 with (fail)
  refine oJ (fun W=>Code.wp _ _ _ _ W) fun W0 hb0 hx0 hres0 hs0 => ?_
  clear hs0
  have hc0:=(hx0.cell q).trans hcs
  have hrd0:=hrd.below hb0
  have hq' : (q:Int)<8:=by omega
  by_cases h8:t[q].length=8
  ·obtain⟨b,off,E,rfl,hE,c0,c1,c2⟩:=Pp hrd0 r (by omega)
   have hfin:dn t n=E:=by rw[HG.out,if_pos h8,List.getD_eq_getElem?_getD,hE];rfl
   have HF:=Lib.hid hfin
   have hr' : (r:Int)<8:=by omega
   rw[h8] at hc0
   clear h8 hcs hE h hfin
   go_wp2_with (refine ax rfl _ (.tmp 4) (.tmp 27) rfl (w.heap.size+1) (iM E) rfl rfl _ _ hres0 rfl entry_size (fJ _) ?_)
   all_goals
    intro w5 hr5 hgr5
    have hbel5:Below w.heap.size w w5:=hb0.grown hgr5 hb0.size (fun k hk=>by cases hk;omega)
    go_wp2
    refine bodyPost_ret (v:=.agg (iM E)) (results_cell_row results69 _ _ (w.heap.size+1) _ _ _ _ rfl hr5 underlying89 rfl entry_size) rfl ?_
    exact⟨by rw[HF.out],hbel5⟩
  ·have hne:((t[q].length:Int) != 8)=true:=by rw[bne_iff_ne];omega
   have hfin:dn t n=zEn:=by rw[HG.out,if_neg h8]
   have HF:=Lib.hid hfin
   clear hfin
   go_wp2_with (refine ax rfl _ (.tmp 4) (.tmp 19) rfl (w.heap.size+1) (iM zEn) rfl rfl _ _ hres0 rfl entry_size (fJ _) ?_)
   all_goals
    intro w5 hr5 hgr5
    have hbel5:Below w.heap.size w w5:=hb0.grown hgr5 hb0.size (fun k hk=>by cases hk;omega)
    go_wp2
    refine bodyPost_ret (v:=.agg (iM zEn)) (results_cell_row results69 _ _ (w.heap.size+1) _ _ _ _ rfl hr5 underlying89 rfl entry_size) rfl ?_
    exact⟨by rw[HF.out],hbel5⟩
 ·have hfin:dn t n=zEn:=mW (by omega)
  have HF:=Lib.hid hfin
  have hn' : n<0∨64≤n:=by omega
  clear hfin hn
  go_enter func69,ntmps69
  go_upto_region 1 with (fail)
  refine oJ (fun W=>Code.wp _ _ _ _ W) fun W0 hb0 hx0 hres0 hs0 => ?_
  clear hs0
  by_cases hn0:n<0
  ·skip
   go_wp2_with (refine ax rfl _ (.tmp 4) (.tmp 19) rfl (w.heap.size+1) (iM zEn) rfl rfl _ _ hres0 rfl entry_size (fJ _) ?_)
   all_goals
    intro w5 hr5 hgr5
    have hbel5:Below w.heap.size w w5:=hb0.grown hgr5 hb0.size (fun k hk=>by cases hk;omega)
    go_wp2
    refine bodyPost_ret (v:=.agg (iM zEn)) (results_cell_row results69 _ _ (w.heap.size+1) _ _ _ _ rfl hr5 underlying89 rfl entry_size) rfl ?_
    exact⟨by rw[HF.out],hbel5⟩
  ·have hn1:64≤n:=by omega
   have hn0' : decide (n<0)=false:=by simp;omega
   go_wp2_with (refine ax rfl _ (.tmp 4) (.tmp 19) rfl (w.heap.size+1) (iM zEn) rfl rfl _ _ hres0 rfl entry_size (fJ _) ?_)
   all_goals
    intro w5 hr5 hgr5
    have hbel5:Below w.heap.size w w5:=hb0.grown hgr5 hb0.size (fun k hk=>by cases hk;omega)
    go_wp2
    refine bodyPost_ret (v:=.agg (iM zEn)) (results_cell_row results69 _ _ (w.heap.size+1) _ _ _ _ rfl hr5 underlying89 rfl entry_size) rfl ?_
    exact⟨by rw[HF.out],hbel5⟩
theorem slent_size:(Tryz.prog.info? 51).map (·.size)=some 1:=by kernel_rfl
theorem xH (e:En):∀u∈jT e,u.oneCell' = true:=by
 intro u hu
 have:=fJ e
 rw[←Array.all_toList,List.all_eq_true] at this
 exact this u hu
theorem Kv (e:En) (w:World):Calls Tryz.prog 140 #[.agg #[.int .i64 e.k,.int .i64 e.n,.bool e.w]] w fun r w'=>r = .returned (.bool (kC e))∧Below w.heap.size w w':=by
 go_enter func140,ntmps140
 go_wp2
 go_ret
 exact⟨bG (by unfold kC;rw[Bool.eq_iff_iff];simp),(Below.refl _ _).alloc (Nat.le_refl _) _⟩
theorem IR (l:List En) (a:Option Addr) (c:Nat) (w:World) (hrd:dA w a (l.flatMap jT)) (hl:l.length≤9223372036854775807) :
  Calls Tryz.prog 149 #[.slice a l.length c,.func (.func 140) #[] #[]] w fun e w'=>e = .returned (.int .i64 (idx kC l))∧Below w.heap.size w w':=by
 go_enter func149,ntmps149
 go_wp2
 go_loopw [8] (fun i wr => ∃k:Nat,k≤l.length∧i = .int .i64 k∧Below w.heap.size w wr∧∀i (h:i<l.length),i<k→kC l[i]=false) (fun i _=>l.length-(intOf i).toNat)
 case atStart=>exact⟨0,Nat.zero_le _,rfl,Below.refl _ _,fun i _ h=>absurd h (Nat.not_lt_zero _)⟩
 case round=>
  obtain⟨k,hk,rfl,hbr,hp0⟩:=hrel
  have hp:=Lib.hid hp0
  clear hp0
  by_cases hlt:k<l.length
  ·obtain⟨b,off,rfl,c0,c1,c2⟩:=JZ (hrd.below hbr) k hlt
   go_wp2_with fail
   refine (Kv l[k] _).mono ?_
   rintro e w2 ⟨rfl,hb2⟩
   have hbel2:=ag hbr hb2
   clear hb2
   cases hpk:kC l[k]
   ·have hpk':=Lib.hid hpk
    clear hpk
    go_wp2
    go_roundw
    case rel=>exact⟨k+1,by omega,by go_num,hbel2,kV hp.out hlt hpk'.out⟩
    case measure=>simp[intOf];omega
   ·have hfin:=Lib.hid (nW kC l k hlt hp.out hpk)
    clear hpk
    go_wp2
    go_ret
    exact⟨aV hfin.out.symm,hbel2⟩
  ·have hfin:=Lib.hid (jQ kC l fun i h=>hp.out i h (by omega))
   go_wp2
   go_ret
   exact⟨aV hfin.out.symm,hbr⟩
theorem xz (l:List En) (a:Option Addr) (c:Nat) (w:World) (hrd:dA w a (l.flatMap jT)) (hl:l.length≤9223372036854775807) :
  Calls Tryz.prog 139 #[.slice a l.length c,.func (.func 140) #[] #[]] w fun e w'=>e = .returned (.bool (l.any kC))∧Below w.heap.size w w':=by
 go_enter func139,ntmps139
 go_wp2_with fail
 refine (IR l a c _ hrd hl).mono ?_
 rintro e w2 ⟨rfl,hb2⟩
 go_wp2
 go_ret
 exact⟨bG (lD _ _),hb2⟩
theorem ww (w:World) (B:Nat):mD w B #[.slice none 0 0,.slice none 0 0,.slice none 0 0,.slice none 0 0,.slice none 0 0,.slice none 0 0,.slice none 0 0,.slice none 0 0] zTb where
 sz:=rfl
 own:=fun k hk=>by
  refine⟨.slice none 0 0,?_,by simpa[zTb] using Own.nil w B 89 3⟩
  match k,hk with
  | 0,_=>rfl
  | 1,_=>rfl
  | 2,_=>rfl
  | 3,_=>rfl
  | 4,_=>rfl
  | 5,_=>rfl
  | 6,_=>rfl
  | 7,_=>rfl
 apart:=fun j k v u hjk h1 h2 g hg=>by
  have:v = .slice none 0 0:=by
   match j with
   | 0=>cases h1;rfl
   | 1=>cases h1;rfl
   | 2=>cases h1;rfl
   | 3=>cases h1;rfl
   | 4=>cases h1;rfl
   | 5=>cases h1;rfl
   | 6=>cases h1;rfl
   | 7=>cases h1;rfl
   | j+8=>cases h1
  subst this
  cases hg
theorem mD.put {t:Tb} (h:mD w B cs t) (hq:q<8) {l:List En} (ho:Own w B 89 3 v l.length (l.flatMap jT))
 (hnew:∀g,v.ownBlock=some g→∀j u,j≠q→cs[j]?=some u→u.ownBlock≠some g):mD w B (cs.setIfInBounds q v) (t.set q l) where
 sz:=by simp[h.sz]
 own:=fun k hk=>by
  by_cases e:k=q
  ·subst e
   exact⟨v,by rw[Array.getElem?_setIfInBounds_self_of_lt (by rw[h.sz];exact hk)],by simpa using ho⟩
  ·obtain⟨u,h1,h2⟩:=h.own k hk
   exact⟨u,by rw[Array.getElem?_setIfInBounds_ne (fun e2=>e e2.symm)];exact h1,by rw[Vector.getElem_set_ne hq hk (fun e2=>e e2.symm)];exact h2⟩
 apart:=fun j k x y hjk hx hy g hgx hgy=>by
  by_cases e:j=q
  ·subst e
   rw[Array.getElem?_setIfInBounds_self_of_lt (by rw[h.sz];exact hq)] at hx
   cases hx
   rw[Array.getElem?_setIfInBounds_ne (by omega)] at hy
   exact hnew g hgx k y (by omega) hy hgy
  ·rw[Array.getElem?_setIfInBounds_ne (fun e2=>e e2.symm)] at hx
   by_cases e2:k=q
   ·subst e2
    rw[Array.getElem?_setIfInBounds_self_of_lt (by rw[h.sz];exact hq)] at hy
    cases hy
    exact hnew g hgy j x e hx hgx
   ·rw[Array.getElem?_setIfInBounds_ne (fun e3=>e2 e3.symm)] at hy
    exact h.apart j k x y hjk hx hy g hgx hgy
theorem mD.wr {t:Tb} (h:mD w B cs t) (hq:q<8) (hr:r<t[q].length) :
  ∃g off cap cur,cs[q]?=some (.slice (some ⟨g,off,none⟩) t[q].length cap)∧B≤g∧aD w g cur 89∧off+r*3+3≤cur.size ∧
   (∀j y,(jT (t[q][r]))[j]?=some y→w.cell? ⟨g,off+r*3+j,none⟩=some y) ∧
   ∀w' x,aD w' g (bq cur (off+r*3) (jT x)) 89→w.grownBy w' (some g)→mD w' B cs (t.set q (t[q].set r x)):=by
 obtain⟨v,h1,h2⟩:=h.own q hq
 obtain⟨g,off,cap,cur,rfl,hB,hb,hfit,hcell,hset⟩:=h2.put eU (by decide) r hr
 refine⟨g,off,cap,cur,h1,hB,hb,hfit,hcell,fun w' x hb' hgr=>⟨h.sz,fun k hk => ?_,h.apart⟩⟩
 by_cases e:k=q
 ·subst e
  exact⟨_,h1,by simpa using hset w' x hb'⟩
 ·obtain⟨u,h3,h4⟩:=h.own k hk
  refine⟨u,h3,?_⟩
  rw[Vector.getElem_set_ne hq hk (fun e2=>e e2.symm)]
  refine h4.grown hgr fun g' hg' he => ?_
  cases he
  rcases Nat.lt_or_gt_of_ne e with hlt|hlt
  ·exact h.apart k q _ _ hlt h3 h1 g hg' rfl
  ·exact h.apart q k _ _ hlt h1 h3 g rfl hg'
theorem Mq (t:Tb) (cs:Array Value) (n:Int) (e:En) (w:World) (h:DJ w cs t) (hz:zk t):Calls Tryz.prog 118 #[.agg cs,.int .i64 n,.agg (iM e)] w fun r w' => ∃cs',r = .returned (.tuple #[.agg cs',.int .i64 (setE t n e)])∧mD w' w.heap.size cs' (setT t n e)∧Below w.heap.size w w':=by
 go_enter func118,ntmps118
 go_upto_region 1 with (fail)
 refine KQ (fun W=>Code.wp _ _ _ _ W) fun W0 hb0 hx0 he0 hres0 hs0 => ?_
 clear hs0
 go_wp2_with (refine fw rfl 53 (.tmp 3) rfl w.heap.size 0 rfl cs.toList hx0.rd _ underlying53 tab_agg (by rw[Array.length_toList,h.sz];exact tab_size) ?_)
 refine (xP t cs _ (h.below hb0)).mono ?_
 rintro r w1 ⟨rfl,hb1⟩
 have hbel:=ag hb0 hb1
 have hx:=hx0.ext hb1
 have he:=he0.ext hb1
 have hres:=hres0.ext hb1
 clear hb0 hx0 he0 hres0 hb1
 by_cases h0:cZ t=0
 ·have H0:=Lib.hid h0
  rw[h0]
  clear h0
  by_cases hn:0≤n∧n<64
  ·obtain⟨q,r,hq,hr,hnn,hdq,hdr⟩:=rF hn
   have HN:=Lib.hid hnn
   clear hnn
   obtain⟨n0,n1⟩:=hn
   have hn0:decide (n<0)=false:=by simp;omega
   have hn1:decide (64≤n)=false:=by simp;omega
   have hq' : (q:Int)<8:=by omega
   have hr' : (r:Int)<8:=by omega
   have hdt:n.tmod 8=(r:Int):=by rw[Int.tmod_eq_emod_of_nonneg n0];exact hdr
   go_wp2_with (refine fw rfl 89 (.tmp 5) rfl (w.heap.size+1) 0 rfl (iM e).toList he.rd _ underlying89 rfl entry_size ?_)
   refine (zt e _).mono ?_
   rintro x w2 ⟨rfl,hb2⟩
   have hbel2:=ag hbel hb2
   have hx2:=hx.ext hb2
   have he2:=he.ext hb2
   have hres2:=hres.ext hb2
   clear hbel hx he hres hb2
   by_cases h1:eT e=0
   ·have hs0:setE t n e=0:=by unfold setE;rw[if_neg (by rw[H0.out];simp),if_neg (by omega),h1]
    have HS:=Lib.hid hs0
    have hset:=Lib.hid (GV hs0 hq hr HN.out)
    rw[h1]
    clear h1 hs0
    go_wp2_with (refine fw rfl 53 (.tmp 3) rfl w.heap.size 0 rfl cs.toList hx2.rd _ underlying53 tab_agg (by rw[Array.length_toList,h.sz];exact tab_size) ?_)
    refine (De t cs _ (h.below hbel2) hz).mono ?_
    rintro x w3 ⟨ca,rfl,hO3,hb3⟩
    have hbel3:=ag hbel2 hb3
    have he3:=he2.ext hb3
    have hres3:=hres2.ext hb3
    have hone:=hO3.rd.one
    have hsz:=hO3.sz
    have hO3':=hO3.mono hbel2.size
    clear hbel2 hx2 he2 hres2 hb3 hO3
    go_wp2_with (refine ax rfl _ (.tmp 10) (.tmp 32) rfl w3.heap.size ca rfl rfl _ _ (aD.new _ _ _) (by rw[hsz];rfl) (by rw[hsz];exact tab_size) hone ?_)
    intro w4 hx4 hgr4
    have hO4:=(hO3'.below ((Below.refl _ _).alloc (Nat.le_refl _) _)).keep (aD.new _ _ _) (by decide) hgr4
    have he4:=aW (he3.alloc _) (aD.new _ _ _) (by decide) hgr4
    have hres4:aD w4 (w.heap.size+2) _ _:=(hres3.alloc _).grown hgr4 (fun e=>by have:=Option.some.inj e;have:=hres3.lt;omega)
    have hbel4:Below w.heap.size w w4:=(hbel3.alloc hbel3.size _).grown hgr4 (bQ hbel3.size _) (fun k hk=>by cases hk;exact hbel3.size)
    have hge:w.heap.size+2<w3.heap.size:=hres3.lt
    have hg4:w3.heap.size<w4.heap.size:=hx4.lt
    clear he3 hres3 hgr4 hO3' hone
    have hl8:=mG (jZ H0.out q hq)
    obtain⟨v,hv,hown⟩:=hO4.own q hq
    obtain⟨av,cv,rfl,hvle,hvmx,_⟩:=hown.rd
    have HV:=Lib.hid hv
    have hc4:=(hx4.cell q).trans hv
    rcases hl8 with h0|h8
    ·have H00:=Lib.hid h0
     rw[h0] at hc4
     clear hv hown h0
     go_wp2_with (refine qV _ rfl (.const (.int .i64 8)) (.const (.int .i64 8)) 51 rfl jT 89 _ 3 24 zEn eU (by decide) underlying51 entry_info rfl .i64 .i64 8 8 8 rfl rfl rfl rfl (by omega) (by unfold maxLen;omega) ?_)
     intro w5 ho5 hgr5
     have hx5:=hx4.grown hgr5 (by simp)
     have he5:=he4.grown hgr5 (by simp)
     have hres5:=hres4.grown hgr5 (by simp)
     have hO5:mD w5 w.heap.size ca t:=hO4.below (ji hgr5)
     have hbel5:=ag hbel4 (ji hgr5)
     have hnew:∀g,(Value.slice (some ⟨w4.heap.size,0,none⟩) 8 8).ownBlock=some g→∀j u,j≠q→ca[j]?=some u→u.ownBlock≠some g:=by
      intro g hg j u hj hu hgu
      cases hg
      obtain⟨v',hv',ho'⟩:=hO4.own j (by
       rcases Nat.lt_or_ge j 8 with hk|hk
       ·exact hk
       ·rw[Array.getElem?_eq_none (by rw[hsz];exact hk)] at hu;cases hu)
      rw[hu] at hv'
      cases hv'
      exact absurd (FJ ho' _ hgu) (Nat.lt_irrefl _)
     go_wp2_with (refine az rfl _ (.tmp 43) (.tmp 42) rfl w3.heap.size q _ [.slice (some ⟨w4.heap.size,0,none⟩) 8 8] rfl rfl rfl _ _ hx5 (by rw[hsz];exact hq) slent_size (fun u hu=>by cases List.mem_singleton.1 hu;rfl) ?_)
     intro w6 hx6 hgr6
     rw[Pw.putAt_one] at hx6
     have ho5' : Own w5 w.heap.size 89 3 (.slice (some ⟨w4.heap.size,0,none⟩) 8 8) (List.replicate 8 zEn).length ((List.replicate 8 zEn).flatMap jT):=ho5.mono hbel4.size
     have hO6:=(hO5.keep hx5 (by decide) hgr6).put hq (ak ho5' hx5 (by decide) hgr6) hnew
     have he6:=aW he5 hx5 (by decide) hgr6
     have hres6:aD w6 (w.heap.size+2) _ _:=hres5.grown hgr6 (fun e=>by have:=Option.some.inj e;omega)
     have hbel6:=hbel5.grown hgr6 hbel5.size (fun k hk=>by cases hk;exact hbel3.size)
     have hcv:(ca.setIfInBounds q (Value.slice (some ⟨w4.heap.size,0,none⟩) 8 8))[q]?=some (.slice (some ⟨w4.heap.size,0,none⟩) 8 8):=Array.getElem?_setIfInBounds_self_of_lt (by rw[hsz];exact hq)
     have HH:Hid (∀l,(t.set q (List.replicate 8 zEn)).set q l=t.set q l):=Lib.hid (fun l=>by simp)
     have HL:Hid ((t.set q (List.replicate 8 zEn))[q]=(if t[q].length=0 then List.replicate 8 zEn else t[q])):=Lib.hid (by rw[if_pos H00.out];simp)
     have HL8:Hid ((t.set q (List.replicate 8 zEn))[q].length=8):=Lib.hid (by simp)
     go_upto_region 13 with (fail)
     generalize hT6:t.set q (List.replicate 8 zEn)=t6 at HH HL HL8 hO6
     generalize hC6:ca.setIfInBounds q (Value.slice (some ⟨w4.heap.size,0,none⟩) 8 8)=c6 at hcv hO6 hx6
     have hw6:=hx6.lt
     clear hT6 hC6 hx5 he5 hres5 hO5 hbel5 hgr5 hgr6 hnew ho5 ho5' hx4 he4 hres4 hO4 hbel4 hc4 hn0 hn1
     obtain⟨g,off,cap,cur,hgv,hBg,hbg,hfit,_,hset⟩:=hO6.wr hq (r:=r) (by rw[HL8.out];exact hr)
     rw[HL8.out] at hgv
     clear hcv
     have HGV:=Lib.hid hgv
     clear hgv
     refine aG 7 [_,_,_,_,_,_,.v (.pointer (some ⟨g,off+r*3,none⟩))] (Gk rfl (Gk rfl (Gc (.slice (some ⟨g,off,none⟩) 8 cap) (fun W hb=>by simp[(((hx6.ext hb).cell q).trans HGV.out),underlying51]) rfl rfl rfl rfl (Gk rfl (Gb (.int .i64 r) (by simp[go_sem,hdt]) rfl rfl rfl rfl rfl (Gr (.agg (iM e)) (fun ρ y W hb hKn=>(bI rfl (aF rfl hKn) (he6.ext hb) underlying89 rfl entry_size)) rfl rfl (ae ?_ (aB)))))))) (fun _=>rfl) rfl ?_
     ·intro ρ y W hw hn hb hd;have E46:=hw 46 2 rfl;have h2:y 2=_:=hd 2 rfl;have E48:=hw 48 4 rfl;have h4:y 4=_:=hd 4 rfl
      refine aj (.pointer (some ⟨g,off+r*3,none⟩)) (ah rfl) (by simp[execOp,go_sem,E46,h2,E48,h4,underlying51,hr']) rfl
     intro y WA hbWA _
     have hx7:=hx6.ext hbWA
     have hres7:=hres6.ext hbWA
     have hbel7:=ag hbel6 hbWA
     have hw7:w3.heap.size<WA.heap.size:=hx7.lt
     clear hbg hset
     obtain⟨g2,off2,cap2,cur2,hgv2,hBg2,hbg2,hfit2,_,hset2⟩:=(hO6.below hbWA).wr hq (r:=r) (by rw[HL8.out];exact hr)
     have hE7:=Option.some.inj (HGV.out.symm.trans hgv2)
     simp only[Value.slice.injEq,Option.some.injEq,Addr.mk.injEq,and_true] at hE7
     obtain⟨⟨rfl,rfl⟩,hl8',rfl⟩:=hE7
     clear hgv2 hl8' hx6 hres6 hbel6 hbWA
     go_wp2_with (refine az rfl _ (.tmp 50) (.tmp 49) rfl g (off+r*3) _ (jT e) rfl rfl rfl _ _ hbg2 hfit2 entry_size (xH e) ?_)
     intro w8 hb8 hgr8
     have hO8:=hset2 w8 e hb8 hgr8
     have hx8:=aW hx7 hbg2 (by decide) hgr8
     have hres8:=aW hres7 hbg2 (by decide) hgr8
     have hbel8:=hbel7.grown hgr8 hbel7.size (fun k hk=>by cases hk;exact hBg)
     have hc8:=(hx8.cell q).trans HGV.out
     have hset8:Hid (t6.set q (t6[q].set r e)=t.set q (t6[q].set r e)):=Lib.hid (HH.out _)
     have hl8:Hid ((t6[q].set r e).length=8):=Lib.hid (by rw[List.length_set];exact HL8.out)
     have hrd8:dA w8 (some ⟨g,off,none⟩) ((t6[q].set r e).flatMap jT):=by
      obtain⟨v,h1,h2⟩:=hO8.own q hq
      obtain rfl:=Option.some.inj (HGV.out.symm.trans h1)
      obtain⟨a',c',h3,_,_,_,h4⟩:=h2.rd
      simp only[Value.slice.injEq] at h3
      obtain⟨rfl,_,_⟩:=h3
      simpa using h4
     have hany:Hid (setH t[q] r e=if (t6[q].set r e).any kC then t6[q].set r e else []):=Lib.hid (by rw[HL.out];rfl)
     clear hx7 hres7 hbel7 hbg2 hb8 hgr8 hset2 hO6 he6
     generalize hl8e:t6[q].set r e=l8 at hset8 hl8 hrd8 hany hO8
     clear hl8e
     have HC:∀W,dA W (some ⟨g,off,none⟩) (l8.flatMap jT)→Calls Tryz.prog 139 #[.slice (some ⟨g,off,none⟩) 8 cap,.func (.func 140) #[] #[]] W fun e w'=>e = .returned (.bool (l8.any kC))∧Below W.heap.size W w':=by
      intro W hW
      have:=xz l8 (some ⟨g,off,none⟩) cap W hW (by rw[hl8.out];decide)
      rw[hl8.out] at this
      exact this
     have HC':=Lib.hid HC
     clear HC
     go_wp2_with fail
     refine (HC'.out _ hrd8).mono ?_
     rintro x w9 ⟨rfl,hb9⟩
     have hx9:=hx8.ext hb9
     have hres9:=hres8.ext hb9
     have hbel9:=ag hbel8 hb9
     have hO9:=hO8.below hb9
     have hz9:=hO9.sz
     clear hx8 hres8 hbel8 hO8 hrd8 hb9 hc8
     cases hk:l8.any kC
     ·have hfin:Hid (t.set q (setH t[q] r e)=t.set q []):=Lib.hid (by rw[hany.out,hk];rfl)
      have hone1:∀u∈[Value.slice none 0 0],u.oneCell' = true:=fun u hu=>by cases List.mem_singleton.1 hu;rfl
      clear hany
      go_wp2_with (refine az rfl _ (.tmp 57) (.const (.slice none 0 0)) rfl w3.heap.size q _ [.slice none 0 0] rfl rfl rfl _ _ hx9 (by rw[hz9];exact hq) slent_size hone1 ?_)
      intro wa hxa hgra
      rw[Pw.putAt_one] at hxa
      have hOa:=(hO9.keep hx9 (by decide) hgra).put hq (v:=.slice none 0 0) (l:=[]) (Own.nil _ _ _ _) (fun g hg=>by cases hg)
      have hresa:aD wa (w.heap.size+2) _ _:=hres9.grown hgra (fun e=>by have:=Option.some.inj e;omega)
      have hbela:=hbel9.grown hgra hbel9.size (fun k hk=>by cases hk;exact hbel3.size)
      have hta:Hid ((t6.set q l8).set q []=t.set q (setH t[q] r e)):=Lib.hid (by rw[hset8.out,hfin.out];simp)
      clear hx9 hres9 hbel9 hO9 hgra
      generalize hCa:c6.setIfInBounds q (Value.slice none 0 0)=ca2 at hOa hxa
      clear hCa
      have honea:=hOa.rd.one
      have hsza:=hOa.sz
      go_wp2_with (first | (refine fw rfl 53 (.tmp 10) rfl w3.heap.size 0 rfl ca2.toList hxa.rd _ underlying53 tab_agg (by rw[Array.length_toList,hsza];exact tab_size) ?_) | (refine ax rfl _ (.tmp 6) (.tmp 58) rfl (w.heap.size+2) ca2 rfl rfl _ _ hresa (by rw[hsza];rfl) (by rw[hsza];exact tab_size) honea ?_))
      intro wb hrb hgrb
      have hOb:=hOa.keep hresa (by decide) hgrb
      have hbelb:=hbela.grown hgrb hbela.size (fun k hk=>by cases hk;omega)
      go_wp2
      refine bodyPost_ret (v:=.tuple #[.agg ca2,.int .i64 0]) (dK results118 _ _ (w.heap.size+2) _ _ _ _ rfl rfl hrb underlying53 rfl (by rw[hsza];exact tab_size)) rfl ?_
      exact⟨_,by rw[HS.out],by rw[hset.out,←hta.out];exact hOb,hbelb⟩
     ·have hta:Hid (t6.set q l8=t.set q (setH t[q] r e)):=Lib.hid (by rw[hset8.out,hany.out,hk];rfl)
      have hOa:=hO9
      have hxa:=hx9
      have hresa:=hres9
      have hbela:=hbel9
      clear hx9 hres9 hbel9 hO9 hany
      generalize hCa:c6=ca2 at hOa hxa
      clear hCa
      have honea:=hOa.rd.one
      have hsza:=hOa.sz
      go_wp2_with (first | (refine fw rfl 53 (.tmp 10) rfl w3.heap.size 0 rfl ca2.toList hxa.rd _ underlying53 tab_agg (by rw[Array.length_toList,hsza];exact tab_size) ?_) | (refine ax rfl _ (.tmp 6) (.tmp 58) rfl (w.heap.size+2) ca2 rfl rfl _ _ hresa (by rw[hsza];rfl) (by rw[hsza];exact tab_size) honea ?_))
      intro wb hrb hgrb
      have hOb:=hOa.keep hresa (by decide) hgrb
      have hbelb:=hbela.grown hgrb hbela.size (fun k hk=>by cases hk;omega)
      go_wp2
      refine bodyPost_ret (v:=.tuple #[.agg ca2,.int .i64 0]) (dK results118 _ _ (w.heap.size+2) _ _ _ _ rfl rfl hrb underlying53 rfl (by rw[hsza];exact tab_size)) rfl ?_
      exact⟨_,by rw[HS.out],by rw[hset.out,←hta.out];exact hOb,hbelb⟩
    ·have hx6:=hx4
     have he6:=he4
     have hres6:=hres4
     have hO6:=hO4
     have hbel6:=hbel4
     have hcv:=HV.out
     have hc6:=hc4
     rw[h8] at hc6
     have HL:Hid (t[q]=(if t[q].length=0 then List.replicate 8 zEn else t[q])):=Lib.hid (by rw[if_neg (by omega)])
     have HL8:Hid (t[q].length=8):=Lib.hid h8
     have hl0:((8:Int)==0)=false:=by decide
     clear h8 hv hown hc4
     go_upto_region 13 with (fail)
     generalize hT6:t[q]=tq at HL HL8
     obtain⟨t6,hT7⟩:∃t6,t6=t:=⟨_,rfl⟩
     have HH:Hid (∀l:List En,t6.set q l hq=t.set q l hq):=Lib.hid (fun l=>by rw[hT7])
     have HL:Hid (t6[q]=(if t[q].length=0 then List.replicate 8 zEn else t[q])):=Lib.hid (by rw[hT7,hT6];exact HL.out)
     have HL8:Hid (t6[q].length=8):=Lib.hid (by rw[hT7,hT6];exact HL8.out)
     have hO6:mD w4 w.heap.size ca t6:=by rw[hT7];exact hO6
     have hw6:=hx6.lt
     obtain⟨c6,hC6⟩:∃c6,c6=ca:=⟨_,rfl⟩
     rw[←hC6] at hcv hO6 hx6
     clear hT6 hT7 hC6 hx4 he4 hres4 hO4 hbel4 hc6 hn0 hn1
     obtain⟨g,off,cap,cur,hgv,hBg,hbg,hfit,_,hset⟩:=hO6.wr hq (r:=r) (by rw[HL8.out];exact hr)
     rw[HL8.out] at hgv
     clear hcv
     have HGV:=Lib.hid hgv
     clear hgv
     refine aG 7 [_,_,_,_,_,_,.v (.pointer (some ⟨g,off+r*3,none⟩))] (Gk rfl (Gk rfl (Gc (.slice (some ⟨g,off,none⟩) 8 cap) (fun W hb=>by simp[(((hx6.ext hb).cell q).trans HGV.out),underlying51]) rfl rfl rfl rfl (Gk rfl (Gb (.int .i64 r) (by simp[go_sem,hdt]) rfl rfl rfl rfl rfl (Gr (.agg (iM e)) (fun ρ y W hb hKn=>(bI rfl (aF rfl hKn) (he6.ext hb) underlying89 rfl entry_size)) rfl rfl (ae ?_ (aB)))))))) (fun _=>rfl) rfl ?_
     ·intro ρ y W hw hn hb hd;have E46:=hw 46 2 rfl;have h2:y 2=_:=hd 2 rfl;have E48:=hw 48 4 rfl;have h4:y 4=_:=hd 4 rfl
      refine aj (.pointer (some ⟨g,off+r*3,none⟩)) (ah rfl) (by simp[execOp,go_sem,E46,h2,E48,h4,underlying51,hr']) rfl
     intro y WA hbWA _
     have hx7:=hx6.ext hbWA
     have hres7:=hres6.ext hbWA
     have hbel7:=ag hbel6 hbWA
     have hw7:w3.heap.size<WA.heap.size:=hx7.lt
     clear hbg hset
     obtain⟨g2,off2,cap2,cur2,hgv2,hBg2,hbg2,hfit2,_,hset2⟩:=(hO6.below hbWA).wr hq (r:=r) (by rw[HL8.out];exact hr)
     have hE7:=Option.some.inj (HGV.out.symm.trans hgv2)
     simp only[Value.slice.injEq,Option.some.injEq,Addr.mk.injEq,and_true] at hE7
     obtain⟨⟨rfl,rfl⟩,hl8',rfl⟩:=hE7
     clear hgv2 hl8' hx6 hres6 hbel6 hbWA
     go_wp2_with (refine az rfl _ (.tmp 50) (.tmp 49) rfl g (off+r*3) _ (jT e) rfl rfl rfl _ _ hbg2 hfit2 entry_size (xH e) ?_)
     intro w8 hb8 hgr8
     have hO8:=hset2 w8 e hb8 hgr8
     have hx8:=aW hx7 hbg2 (by decide) hgr8
     have hres8:=aW hres7 hbg2 (by decide) hgr8
     have hbel8:=hbel7.grown hgr8 hbel7.size (fun k hk=>by cases hk;exact hBg)
     have hc8:=(hx8.cell q).trans HGV.out
     have hset8:Hid (t6.set q (t6[q].set r e)=t.set q (t6[q].set r e)):=Lib.hid (HH.out _)
     have hl8:Hid ((t6[q].set r e).length=8):=Lib.hid (by rw[List.length_set];exact HL8.out)
     have hrd8:dA w8 (some ⟨g,off,none⟩) ((t6[q].set r e).flatMap jT):=by
      obtain⟨v,h1,h2⟩:=hO8.own q hq
      obtain rfl:=Option.some.inj (HGV.out.symm.trans h1)
      obtain⟨a',c',h3,_,_,_,h4⟩:=h2.rd
      simp only[Value.slice.injEq] at h3
      obtain⟨rfl,_,_⟩:=h3
      simpa using h4
     have hany:Hid (setH t[q] r e=if (t6[q].set r e).any kC then t6[q].set r e else []):=Lib.hid (by rw[HL.out];rfl)
     clear hx7 hres7 hbel7 hbg2 hb8 hgr8 hset2 hO6 he6
     generalize hl8e:t6[q].set r e=l8 at hset8 hl8 hrd8 hany hO8
     clear hl8e
     have HC:∀W,dA W (some ⟨g,off,none⟩) (l8.flatMap jT)→Calls Tryz.prog 139 #[.slice (some ⟨g,off,none⟩) 8 cap,.func (.func 140) #[] #[]] W fun e w'=>e = .returned (.bool (l8.any kC))∧Below W.heap.size W w':=by
      intro W hW
      have:=xz l8 (some ⟨g,off,none⟩) cap W hW (by rw[hl8.out];decide)
      rw[hl8.out] at this
      exact this
     have HC':=Lib.hid HC
     clear HC
     go_wp2_with fail
     refine (HC'.out _ hrd8).mono ?_
     rintro x w9 ⟨rfl,hb9⟩
     have hx9:=hx8.ext hb9
     have hres9:=hres8.ext hb9
     have hbel9:=ag hbel8 hb9
     have hO9:=hO8.below hb9
     have hz9:=hO9.sz
     clear hx8 hres8 hbel8 hO8 hrd8 hb9 hc8
     cases hk:l8.any kC
     ·have hfin:Hid (t.set q (setH t[q] r e)=t.set q []):=Lib.hid (by rw[hany.out,hk];rfl)
      have hone1:∀u∈[Value.slice none 0 0],u.oneCell' = true:=fun u hu=>by cases List.mem_singleton.1 hu;rfl
      clear hany
      go_wp2_with (refine az rfl _ (.tmp 57) (.const (.slice none 0 0)) rfl w3.heap.size q _ [.slice none 0 0] rfl rfl rfl _ _ hx9 (by rw[hz9];exact hq) slent_size hone1 ?_)
      intro wa hxa hgra
      rw[Pw.putAt_one] at hxa
      have hOa:=(hO9.keep hx9 (by decide) hgra).put hq (v:=.slice none 0 0) (l:=[]) (Own.nil _ _ _ _) (fun g hg=>by cases hg)
      have hresa:aD wa (w.heap.size+2) _ _:=hres9.grown hgra (fun e=>by have:=Option.some.inj e;omega)
      have hbela:=hbel9.grown hgra hbel9.size (fun k hk=>by cases hk;exact hbel3.size)
      have hta:Hid ((t6.set q l8).set q []=t.set q (setH t[q] r e)):=Lib.hid (by rw[hset8.out,hfin.out];simp)
      clear hx9 hres9 hbel9 hO9 hgra
      generalize hCa:c6.setIfInBounds q (Value.slice none 0 0)=ca2 at hOa hxa
      clear hCa
      have honea:=hOa.rd.one
      have hsza:=hOa.sz
      go_wp2_with (first | (refine fw rfl 53 (.tmp 10) rfl w3.heap.size 0 rfl ca2.toList hxa.rd _ underlying53 tab_agg (by rw[Array.length_toList,hsza];exact tab_size) ?_) | (refine ax rfl _ (.tmp 6) (.tmp 58) rfl (w.heap.size+2) ca2 rfl rfl _ _ hresa (by rw[hsza];rfl) (by rw[hsza];exact tab_size) honea ?_))
      intro wb hrb hgrb
      have hOb:=hOa.keep hresa (by decide) hgrb
      have hbelb:=hbela.grown hgrb hbela.size (fun k hk=>by cases hk;omega)
      go_wp2
      refine bodyPost_ret (v:=.tuple #[.agg ca2,.int .i64 0]) (dK results118 _ _ (w.heap.size+2) _ _ _ _ rfl rfl hrb underlying53 rfl (by rw[hsza];exact tab_size)) rfl ?_
      exact⟨_,by rw[HS.out],by rw[hset.out,←hta.out];exact hOb,hbelb⟩
     ·have hta:Hid (t6.set q l8=t.set q (setH t[q] r e)):=Lib.hid (by rw[hset8.out,hany.out,hk];rfl)
      have hOa:=hO9
      have hxa:=hx9
      have hresa:=hres9
      have hbela:=hbel9
      clear hx9 hres9 hbel9 hO9 hany
      generalize hCa:c6=ca2 at hOa hxa
      clear hCa
      have honea:=hOa.rd.one
      have hsza:=hOa.sz
      go_wp2_with (first | (refine fw rfl 53 (.tmp 10) rfl w3.heap.size 0 rfl ca2.toList hxa.rd _ underlying53 tab_agg (by rw[Array.length_toList,hsza];exact tab_size) ?_) | (refine ax rfl _ (.tmp 6) (.tmp 58) rfl (w.heap.size+2) ca2 rfl rfl _ _ hresa (by rw[hsza];rfl) (by rw[hsza];exact tab_size) honea ?_))
      intro wb hrb hgrb
      have hOb:=hOa.keep hresa (by decide) hgrb
      have hbelb:=hbela.grown hgrb hbela.size (fun k hk=>by cases hk;omega)
      go_wp2
      refine bodyPost_ret (v:=.tuple #[.agg ca2,.int .i64 0]) (dK results118 _ _ (w.heap.size+2) _ _ _ _ rfl rfl hrb underlying53 rfl (by rw[hsza];exact tab_size)) rfl ?_
      exact⟨_,by rw[HS.out],by rw[hset.out,←hta.out];exact hOb,hbelb⟩
   ·have q0:Hid (setE t n e=eT e∧eT e≠0):=Lib.hid ⟨by unfold setE;rw[if_neg (by rw[H0.out];simp),if_neg (by omega)],h1⟩
    have h1' : (eT e != 0)=true:=by simpa using h1
    have hbel:=hbel2
    have hres:=hres2
    clear h1 hbel2 hres2
    go_wp2_with (refine ax rfl _ (.tmp 6) (.tmp 29) rfl (w.heap.size+2) #[.slice none 0 0,.slice none 0 0,.slice none 0 0,.slice none 0 0,.slice none 0 0,.slice none 0 0,.slice none 0 0,.slice none 0 0] rfl rfl _ _ hres rfl tab_size (by simp[Value.oneCell']) ?_)
    all_goals
     intro w5 hr5 hgr5
     have hbel5:Below w.heap.size w w5:=hbel.grown hgr5 hbel.size (fun k hk=>by cases hk;omega)
     go_wp2
     refine bodyPost_ret (v:=.tuple #[.agg #[.slice none 0 0,.slice none 0 0,.slice none 0 0,.slice none 0 0,.slice none 0 0,.slice none 0 0,.slice none 0 0,.slice none 0 0],.int .i64 (eT e)]) (dK results118 _ _ (w.heap.size+2) _ _ _ _ rfl rfl hr5 underlying53 rfl tab_size) rfl ?_
     have q:=q0.out
     exact⟨_,by rw[q.1],by rw[qN (by rw[q.1];exact q.2)];exact ww _ _,hbel5⟩
  ·have q0:Hid (setE t n e=3∧(3:Int)≠0):=Lib.hid ⟨by unfold setE;rw[if_neg (by rw[H0.out];simp),if_pos (by omega)],by decide⟩
   have hn' : n<0∨64≤n:=by omega
   clear hn
   by_cases hn0:n<0
   ·skip
    go_wp2_with (refine ax rfl _ (.tmp 6) (.tmp 24) rfl (w.heap.size+2) #[.slice none 0 0,.slice none 0 0,.slice none 0 0,.slice none 0 0,.slice none 0 0,.slice none 0 0,.slice none 0 0,.slice none 0 0] rfl rfl _ _ hres rfl tab_size (by simp[Value.oneCell']) ?_)
    all_goals
     intro w5 hr5 hgr5
     have hbel5:Below w.heap.size w w5:=hbel.grown hgr5 hbel.size (fun k hk=>by cases hk;omega)
     go_wp2
     refine bodyPost_ret (v:=.tuple #[.agg #[.slice none 0 0,.slice none 0 0,.slice none 0 0,.slice none 0 0,.slice none 0 0,.slice none 0 0,.slice none 0 0,.slice none 0 0],.int .i64 (3)]) (dK results118 _ _ (w.heap.size+2) _ _ _ _ rfl rfl hr5 underlying53 rfl tab_size) rfl ?_
     have q:=q0.out
     exact⟨_,by rw[q.1],by rw[qN (by rw[q.1];exact q.2)];exact ww _ _,hbel5⟩
   ·have hn1:64≤n:=by omega
    have hn0' : decide (n<0)=false:=by simp;omega
    go_wp2_with (refine ax rfl _ (.tmp 6) (.tmp 24) rfl (w.heap.size+2) #[.slice none 0 0,.slice none 0 0,.slice none 0 0,.slice none 0 0,.slice none 0 0,.slice none 0 0,.slice none 0 0,.slice none 0 0] rfl rfl _ _ hres rfl tab_size (by simp[Value.oneCell']) ?_)
    all_goals
     intro w5 hr5 hgr5
     have hbel5:Below w.heap.size w w5:=hbel.grown hgr5 hbel.size (fun k hk=>by cases hk;omega)
     go_wp2
     refine bodyPost_ret (v:=.tuple #[.agg #[.slice none 0 0,.slice none 0 0,.slice none 0 0,.slice none 0 0,.slice none 0 0,.slice none 0 0,.slice none 0 0,.slice none 0 0],.int .i64 (3)]) (dK results118 _ _ (w.heap.size+2) _ _ _ _ rfl rfl hr5 underlying53 rfl tab_size) rfl ?_
     have q:=q0.out
     exact⟨_,by rw[q.1],by rw[qN (by rw[q.1];exact q.2)];exact ww _ _,hbel5⟩
 ·have q0:Hid (setE t n e=cZ t∧cZ t≠0):=Lib.hid ⟨by unfold setE;rw[if_pos h0],h0⟩
  have h0' : (cZ t != 0)=true:=by simpa using h0
  clear h0
  go_wp2_with (refine ax rfl _ (.tmp 6) (.tmp 16) rfl (w.heap.size+2) #[.slice none 0 0,.slice none 0 0,.slice none 0 0,.slice none 0 0,.slice none 0 0,.slice none 0 0,.slice none 0 0,.slice none 0 0] rfl rfl _ _ hres rfl tab_size (by simp[Value.oneCell']) ?_)
  all_goals
   intro w5 hr5 hgr5
   have hbel5:Below w.heap.size w w5:=hbel.grown hgr5 hbel.size (fun k hk=>by cases hk;omega)
   go_wp2
   refine bodyPost_ret (v:=.tuple #[.agg #[.slice none 0 0,.slice none 0 0,.slice none 0 0,.slice none 0 0,.slice none 0 0,.slice none 0 0,.slice none 0 0,.slice none 0 0],.int .i64 (cZ t)]) (dK results118 _ _ (w.heap.size+2) _ _ _ _ rfl rfl hr5 underlying53 rfl tab_size) rfl ?_
   have q:=q0.out
   exact⟨_,by rw[q.1],by rw[qN (by rw[q.1];exact q.2)];exact ww _ _,hbel5⟩
theorem BU (t:Tb) (cs:Array Value) (n:Int) (w:World) (h:DJ w cs t):Calls Tryz.prog 69 #[.agg cs,.int .i64 n] w fun r w'=>r = .returned (.agg #[.int .i64 (dn t n).k,.int .i64 (dn t n).n,.bool (dn t n).w])∧Below w.heap.size w w':=uJ t cs n w h
theorem PH (E:En) (W:World):(Instr.field 89 (.agg #[.int .i64 E.k,.int .i64 E.n,.bool E.w]) 0).run Tryz.prog W = .ok (.int .i64 E.k) W:=by
 simp[Instr.field,go_sem]
 rfl
theorem si (t:Tb) (cs:Array Value) (w:World) (h:DJ w cs t):Calls Tryz.prog 42 #[.agg cs] w fun r w' => ∃v,r = .returned v∧Own w' w.heap.size 3 1 v (aI t).length ((aI t).map eH)∧Below w.heap.size w w':=by
 go_enter func42,ntmps42
 go_upto_region 1 with (fail)
 refine gB (fun W=>Code.wp _ _ _ _ W) fun W0 hb0 hx0 hs0 => ?_
 clear hs0
 go_wp2
 have hown0:Own W0 w.heap.size 3 1 (.slice none 0 0) (ib t 0).length ((ib t 0).map eH):=Own.nil _ _ _ _
 go_loopw [5,3] (fun i v wr => ∃k:Nat,k≤64∧i = .int .i64 k∧Below w.heap.size w wr∧aD wr w.heap.size cs 53∧Own wr w.heap.size 3 1 v (ib t k).length ((ib t k).map eH)) (fun i _ _=>64-(intOf i).toNat)
 case atStart=>exact⟨0,Nat.zero_le _,rfl,hb0,hx0,hown0⟩
 case round=>
  obtain⟨k,hk,rfl,hbr,hx,hown⟩:=hrel
  clear hb0 hx0 hown0
  have hle:=mU t k
  by_cases hlt:k<64
  ·have hd:decide ((k:Int)<64)=true:=by simp;omega
   go_wp2_with (refine fw rfl 53 (.tmp 1) rfl w.heap.size 0 rfl cs.toList hx.rd _ underlying53 tab_agg (by rw[Array.length_toList,h.sz];exact tab_size) ?_)
   refine (BU t cs k _ (h.below hbr)).mono ?_
   rintro r w1 ⟨rfl,hb1⟩
   have hbel1:=ag hbr hb1
   have hx1:=hx.ext hb1
   have hfk:=PH (dn t k)
   have hown1:=hown.below hb1
   clear hb1 hbr hx hown
   cases hk2:kC (dn t k)
   ·have hkk:((dn t k).k != 0)=false:=by simpa[kC] using hk2
    have hn:=Lib.hid (EA hk2)
    clear hk2
    go_wp2
    go_roundw
    case rel=>exact⟨k+1,by omega,by go_num,hbel1,hx1,by rw[hn.out];exact hown1⟩
    case measure=>simp[intOf];omega
   ·have hkk:((dn t k).k != 0)=true:=by simpa[kC] using hk2
    have hn:=Lib.hid (Cr hk2)
    clear hk2
    go_wp2_with (at_builtin;go_must (refine dI rfl _ _ 29 rfl w.heap.size 3 (.int .i64 0) 1 8 underlying29 int_info rfl (by decide) _ _ _ rfl (hown1.alloc _) (some ⟨w1.heap.size,0,none⟩) 1 1 [eH k] rfl (fun h=>(by cases h)) (Nat.le_refl _) rfl (dA.one _ _ _) (AU _ _) (by unfold maxLen;omega) (by omega) ?bb ?k))
    case bb=>exact bQ hbel1.size _
    intro v2 w2 hown2 hgr2
    have hbel2:Below w.heap.size w w2:=(hbel1.alloc hbel1.size _).grown hgr2 (bQ hbel1.size _) (fun k hk=>(hown1.ge k hk))
    have hx2:aD w2 w.heap.size cs 53:=iR (hx1.alloc _) (hown1.alloc _) (by decide) hgr2
    go_wp2
    go_roundw
    case rel=>exact⟨k+1,by omega,by go_num,hbel2,hx2,by rw[hn.out,List.map_append,List.length_append];exact hown2⟩
    case measure=>simp[intOf];omega
  ·obtain rfl:k=64:=by omega
   go_wp2
   go_ret
   exact⟨_,rfl,hown,hbr⟩
theorem one_int1:∀x:Int,([eH x]:List Value).length=1:=fun _=>rfl
def Mj (B:Nat) (w0:World) (c1 c2 c3:Value) (p:Int→Bool):Prop:=∀(n:Int) (W:World),Below B w0 W→B≤W.heap.size→Calls Tryz.prog 151 #[.int .i64 n,c1,c2,c3] W fun e w'=>e = .returned (.bool (p n))∧Below W.heap.size W w'
theorem su (h:Below B w0 w) (hB:B≤w.heap.size) (hb:Below w.heap.size w w'):Below B w0 w':=h.trans (hb.mono hB)
theorem Fa (l:List Int) (a:Option Addr) (c:Nat) (w:World) (hrd:dA w a (l.map eH)) (hl:l.length≤9223372036854775807) (B:Nat) (w0:World) (c1 c2 c3:Value) (p:Int→Bool) (hT:Mj B w0 c1 c2 c3 p) (hB0:Below B w0 w) (hBs:B≤w.heap.size) :
  Calls Tryz.prog 154 #[.slice a l.length c,.func (.func 151) #[] #[c1,c2,c3]] w fun e w'=>e = .returned (.int .i64 (idx p l))∧Below w.heap.size w w':=by
 go_enter func154,ntmps154
 go_wp2
 go_loopw [8] (fun i wr => ∃k:Nat,k≤l.length∧i = .int .i64 k∧Below w.heap.size w wr∧∀i (h:i<l.length),i<k→p l[i]=false) (fun i _=>l.length-(intOf i).toNat)
 case atStart=>exact⟨0,Nat.zero_le _,rfl,Below.refl _ _,fun i _ h=>absurd h (Nat.not_lt_zero _)⟩
 case round=>
  obtain⟨k,hk,rfl,hbr,hp0⟩:=hrel
  have hp:=Lib.hid hp0
  clear hp0
  by_cases hlt:k<l.length
  ·obtain⟨b,off,rfl,c0⟩:=iA (hrd.below hbr) k hlt
   go_wp2_with fail
   refine (hT l[k] _ (su hB0 hBs hbr) (Nat.le_trans hBs hbr.size)).mono ?_
   rintro e w2 ⟨rfl,hb2⟩
   have hbel2:=ag hbr hb2
   clear hb2
   cases hpk:p l[k]
   ·have hpk':=Lib.hid hpk
    clear hpk
    go_wp2
    go_roundw
    case rel=>exact⟨k+1,by omega,by go_num,hbel2,kV hp.out hlt hpk'.out⟩
    case measure=>simp[intOf];omega
   ·have hfin:=Lib.hid (nW p l k hlt hp.out hpk)
    clear hpk
    go_wp2
    go_ret
    exact⟨aV hfin.out.symm,hbel2⟩
  ·have hfin:=Lib.hid (jQ p l fun i h=>hp.out i h (by omega))
   go_wp2
   go_ret
   exact⟨aV hfin.out.symm,hbr⟩
theorem Ef (l:List Int) (v:Value) (B:Nat) (w0 w:World) (c1 c2 c3:Value) (p:Int→Bool) (ho:Own w B 3 1 v l.length (l.map eH)) (hl:l.length≤100000) (hT:Mj B w0 c1 c2 c3 p) (hB0:Below B w0 w) (hBs:B≤w.heap.size) :
  Calls Tryz.prog 150 #[v,.func (.func 151) #[] #[c1,c2,c3]] w fun e w' => ∃v',e = .returned v'∧Own w' B 3 1 v' (l.filter (fun x => !p x)).length ((l.filter (fun x => !p x)).map eH)∧Below B w w':=by
 obtain⟨a,c,rfl,hle,hm,hnil,hrd⟩:=ho.rd
 unfold maxLen at hm
 go_enter func150,ntmps150
 go_wp2_with fail
 refine (Fa l a c _ hrd (by omega) B w0 c1 c2 c3 p hT hB0 hBs).mono ?_
 rintro e w1 ⟨rfl,hb1⟩
 have ho1:=ho.below hb1
 have hG1:Below B w w1:=hb1.mono hBs
 have hBs1:B≤w1.heap.size:=Nat.le_trans hBs hb1.size
 clear ho
 rcases vJ p l with ⟨hi,hall⟩|⟨i0,hi0,hi,he0,hno⟩
 ·have hk:=Lib.hid (wI.all hall)
  rw[hi]
  clear hall hi hb1
  go_wp2
  go_ret
  rw[hk.out]
  exact⟨_,rfl,ho1,hG1⟩
 ·have hI0:=Lib.hid (wI.start hi0 he0 hno)
  rw[hi]
  clear he0 hno hi hb1
  have hm1:((i0:Int) == -1)=false:=beq_eq_false_iff_ne.2 (by omega)
  cases a with
  | none=>have:=hnil rfl;omega
  | some ad=>
   obtain⟨g,off,had⟩:∃g off,ad=⟨g,off,none⟩:=by
    rcases ho1.2 with ⟨h,_⟩|⟨g,off,cap,cur,h,_⟩
    ·cases h
    ·exact⟨g,off,by cases h;rfl⟩
   subst had
   clear hrd hnil
   go_wp2
   go_loopw [5,6] (fun s5 s6 wr => ∃(i j:Nat) (cur:List Int),s5 = .int .i64 i∧s6 = .int .i64 j∧Hid (wI p l j i cur)∧Own wr B 3 1 (.slice (some ⟨g,off,none⟩) l.length c) l.length (cur.map eH)∧Below B w wr∧B≤wr.heap.size) (fun _ s6 _=>l.length-(intOf s6).toNat)
   case atStart=>exact⟨i0,i0+1,l,rfl,by go_num,hI0,ho1,hG1,hBs1⟩
   case round=>
    clear hI0 ho1 hG1 hBs1 hi0 hm1
    obtain⟨i,j,cur,rfl,rfl,hI,hor,hG,hBr⟩:=hrel
    have hil:=hI.out.lt
    have hjl:=hI.out.le
    have hcl:=hI.out.len
    by_cases hlt:j<l.length
    ·have hjc:j<cur.length:=by omega
     have hlj:cur[j]=l[j]:=by
      have:=hI.out.rest j (Nat.le_refl _)
      rw[List.getElem?_eq_getElem hjc,List.getElem?_eq_getElem hlt] at this
      exact Option.some.inj this
     obtain⟨_,_,e2,_,_,_,hrr⟩:=hor.rd
     simp only[Value.slice.injEq] at e2
     obtain⟨rfl,_,rfl⟩:=e2
     obtain⟨_,_,e3,hc⟩:=iA hrr j hjc
     simp only[Option.some.injEq,Addr.mk.injEq,and_true] at e3
     obtain⟨rfl,rfl⟩:=e3
     rw[hlj] at hc
     have hcl':=Lib.hid hcl
     clear hlj hrr hcl
     have hcall:=hT l[j] wr (hB0.trans hG) hBr
     go_upto_region 8 with (fail)
     clear hc
     by_cases he:p l[j]=true
     ·have hI2:=Lib.hid (hI.out.skip hlt he)
      rw[he] at hcall
      clear he hI
      go_wp2_with fail
      refine hcall.mono ?_
      rintro e w3 ⟨rfl,hb3⟩
      have ho3:=hor.below hb3
      have hG3:=su hG hBr hb3
      have hBr3:=Nat.le_trans hBr hb3.size
      clear hor hG hBr hcall hb3
      go_wp2
      go_roundw
      case rel=>exact⟨i,j+1,cur,rfl,by go_num,hI2,ho3,hG3,hBr3⟩
      case measure=>simp[intOf];omega
     ·have he' : p l[j]=false:=by simpa using he
      have hI2:=Lib.hid (hI.out.keep hlt he')
      rw[he'] at hcall
      clear he hI he'
      go_wp2_with fail
      refine hcall.mono ?_
      rintro e w3 ⟨rfl,hb3⟩
      have ho3:=hor.below hb3
      have hG3:=su hG hBr hb3
      have hBr3:=Nat.le_trans hBr hb3.size
      clear hor hG hBr hcall hb3
      rw[←gJ] at ho3
      obtain⟨gb,offb,capb,curb,hvb,hBb,hgb,hfb,hsetb⟩:=lJ one_int1 (by decide) hcl'.out ho3 i (by omega)
      cases hvb
      have hi0:(i:Int)<(l.length:Int):=by omega
      go_wp2_with (refine az rfl _ (.tmp 33) (.tmp 32) rfl g (off+i) _ [eH l[j]] rfl rfl rfl curb 3 hgb (by simp;omega) int_size (AU _ _) ?_)
      intro w5 hq5 hgr5
      have hB5:=hsetb w5 l[j] (by rw[Nat.mul_one];exact hq5)
      rw[gJ] at hB5
      have hG5:=hG3.grown hgr5 hBr3 (fun k hk=>by cases hk;exact hBb)
      have hBr5:B≤w5.heap.size:=by have:=hgr5.size;omega
      clear hq5 hsetb hgb ho3 hG3 hgr5 hfb
      go_wp2
      go_roundw
      case rel=>exact⟨i+1,j+1,cur.set i l[j],by go_num,by go_num,hI2,hB5,hG5,hBr5⟩
      case measure=>simp[intOf];omega
    ·have hi0:i<l.length:=by omega
     have hfin:Hid (cur.take i=l.filter (fun x => !p x)):=by
      have:=hI.out.done
      rw[List.take_of_length_le (l:=l) (by omega)] at this
      exact this
     have hcl':=Lib.hid hcl
     have hic:(i:Int)≤(c:Int):=by omega
     have hil' : (i:Int)≤(l.length:Int):=by omega
     obtain⟨cs,hgb,hfb,hBg⟩:∃cs,aD wr g cs 3∧off+l.length*1≤cs.size∧B≤g:=by
      rcases hor.2 with ⟨h,_⟩|⟨g',off',cap',cur',h,h0,h2,h3,_,h4,_⟩
      ·cases h
      ·cases h;exact⟨cur',h2,by omega,h0⟩
     have hcl0:=fun ty=>ou (P:=Tryz.prog) wr 29 3 ty _ 1 8 underlying29 int_info (by decide) (by decide) g (off+i) (l.length-i) (c-i) (by omega) cs _ hgb (by simp[Value.cells];omega)
     rw[←gJ] at hor
     have htk:=fun w' vs=>IG one_int1 (w':=w') (vs:=vs) hor i hcl'.out (by omega)
     simp only[gJ] at htk
     rw[hfin.out] at htk
     have hlen:Hid ((l.filter (fun x => !p x)).length=i):=by show (l.filter (fun x => !p x)).length=i;rw[←hfin.out,List.length_take,hcl'.out];omega
     clear hI hcl hor
     go_wp2
     go_ret
     have hh:=fun vs=>htk (wr.setCells g (off+i) vs) vs (fun cur hc=>by rw[Nat.mul_one];exact hc.setCells vs _)
     rw[hlen.out] at hh ⊢
     exact⟨_,rfl,hh _,hG.grown (aA _ _ _ _) hBr (fun k hk=>by cases hk;exact hBg)⟩
theorem Er (t:Tb) (cs:Array Value) (kind k n:Int) (b1 b2 b3:Nat) (w:World) (h:DJ w cs t) (h1:aD w b1 cs 53) (h2:aD w b2 #[.int .i64 kind] 3) (h3:aD w b3 #[.int .i64 k] 3) :
  Calls Tryz.prog 151 #[.int .i64 n,.pointer (some ⟨b1,0,none⟩),.pointer (some ⟨b2,0,none⟩),.pointer (some ⟨b3,0,none⟩)] w fun r w'=>r = .returned (.bool (mf t kind k n))∧Below w.heap.size w w':=by
 go_enter func151,ntmps151
 go_wp2_with (refine fw rfl 53 (.tmp 1) rfl b1 0 rfl cs.toList h1.rd _ underlying53 tab_agg (by rw[Array.length_toList,h.sz];exact tab_size) ?_)
 refine (uJ t cs n _ h).mono ?_
 rintro r w1 ⟨rfl,hb1⟩
 have hc2:=(h2.ext hb1).cell
 have hc3:=(h3.ext hb1).cell
 have hge2:=h2.lt
 have hge3:=h3.lt
 have hs1:=hb1.size
 generalize hE:dn t n=E
 have hfin:Hid (mf t kind k n=(decide (E.k≠kind)||decide (E.n≠k))):=Lib.hid (by unfold mf;rw[hE])
 clear hE
 by_cases hk:E.k=kind
 ·have hkk:(E.k != kind)=false:=by simp[hk]
  have hfin2:Hid (mf t kind k n=(E.n != k)):=Lib.hid (by rw[hfin.out,Bool.eq_iff_iff];simp[hk])
  clear hk hfin
  go_wp2_with (refine az rfl _ (.tmp 6) (.tmp 9) rfl w1.heap.size 0 _ (jT E) rfl rfl rfl _ _ (aD.new _ _ _) (Nat.le_refl 3) entry_size (xH E) ?_)
  intro w2 hx2 hgr2
  have hx2' : aD w2 w1.heap.size (iM E) 89:=by simpa[bq,jT,iM] using hx2
  have hcx:=hx2'.cell
  have hc20:=(((h2.ext hb1).alloc _).grown hgr2 (fun e=>by have:=Option.some.inj e;omega)).cell
  have hc30:=(((h3.ext hb1).alloc _).grown hgr2 (fun e=>by have:=Option.some.inj e;omega)).cell
  have hbel2:Below w.heap.size w w2:=(hb1.alloc hb1.size _).grown hgr2 (bQ hb1.size _) (fun k hk=>by cases hk;exact hb1.size)
  have e0:(iM E)[0]?=some (.int .i64 E.k):=rfl
  have e1:(iM E)[1]?=some (.int .i64 E.n):=rfl
  clear hc2 hc3 hx2
  go_wp2
  go_ret
  exact⟨bG hfin2.out.symm,hbel2⟩
 ·have hkk:(E.k != kind)=true:=by simpa using hk
  have hfin2:Hid (mf t kind k n=true):=Lib.hid (by rw[hfin.out];simp[hk])
  clear hk hfin
  go_wp2_with (refine az rfl _ (.tmp 6) (.tmp 9) rfl w1.heap.size 0 _ (jT E) rfl rfl rfl _ _ (aD.new _ _ _) (Nat.le_refl 3) entry_size (xH E) ?_)
  intro w2 hx2 hgr2
  have hx2' : aD w2 w1.heap.size (iM E) 89:=by simpa[bq,jT,iM] using hx2
  have hcx:=hx2'.cell
  have hc20:=(((h2.ext hb1).alloc _).grown hgr2 (fun e=>by have:=Option.some.inj e;omega)).cell
  have hc30:=(((h3.ext hb1).alloc _).grown hgr2 (fun e=>by have:=Option.some.inj e;omega)).cell
  have hbel2:Below w.heap.size w w2:=(hb1.alloc hb1.size _).grown hgr2 (bQ hb1.size _) (fun k hk=>by cases hk;exact hb1.size)
  have e0:(iM E)[0]?=some (.int .i64 E.k):=rfl
  have e1:(iM E)[1]?=some (.int .i64 E.n):=rfl
  clear hc2 hc3 hx2
  go_wp2
  go_ret
  exact⟨bG hfin2.out.symm,hbel2⟩
theorem Ho (t:Tb) (cs:Array Value) (kind k:Int) (w:World) (h:DJ w cs t):Calls Tryz.prog 141 #[.agg cs,.int .i64 kind,.int .i64 k] w fun r w' => ∃v,r = .returned v∧Own w' w.heap.size 3 1 v (kW t kind k).length ((kW t kind k).map eH)∧Below w.heap.size w w':=by
 go_enter func141,ntmps141
 go_upto_region 1 with (fail)
 refine KQ (fun W=>Code.wp _ _ _ _ W) fun W0 hb0 hx0 hk0 hn0 hs0 => ?_
 have hge:w.heap.size+2<W0.heap.size:=hn0.lt
 clear hs0
 go_wp2_with (refine fw rfl 53 (.tmp 3) rfl w.heap.size 0 rfl cs.toList hx0.rd _ underlying53 tab_agg (by rw[Array.length_toList,h.sz];exact tab_size) ?_)
 refine (si t cs _ (h.below hb0)).mono ?_
 rintro r w1 ⟨v,rfl,ho1,hb1⟩
 have hT:Mj W0.heap.size W0 (.pointer (some ⟨w.heap.size,0,none⟩)) (.pointer (some ⟨w.heap.size+1,0,none⟩)) (.pointer (some ⟨w.heap.size+2,0,none⟩)) (mf t kind k):=
  fun n W hW hWs=>Er t cs kind k n _ _ _ W ((h.below hb0).below hW) (hx0.ext hW) (hk0.ext hW) (hn0.ext hW)
 go_wp2_with fail
 refine (Ef (aI t) v W0.heap.size W0 w1 _ _ _ (mf t kind k) ho1 (Nat.le_trans (mU t 64) (by decide)) hT hb1 hb1.size).mono ?_
 rintro r w2 ⟨v2,rfl,ho2,hb2⟩
 go_wp2
 go_ret
 exact⟨_,rfl,ho2.mono hb0.size,hb0.trans ((hb1.trans hb2).mono hb0.size)⟩
end Go.Proofs.YtjkkoeijlhfneaaGreat