import Derived.Test.YtjkkoeijlhfneaaGreatU1
import Derived.BigQuiet
import Derived.Deep.DeepCutAuto
import Derived.Deep.QuietTactic
import Derived.IntWalk
import Derived.Lib.LazyBuf
import Derived.Test.YtjkkoeijlhfneaaGreatRows
import Derived.Maps.Range
import Derived.Deep.Light
import Derived.BigRegion
import Derived.RegionTactic
import Derived.Deep.LoopGhost
import Derived.Lib.Hide
import Derived.Deep.RegionLaw
import Derived.Laws.Externs
import Derived.Laws.IdiomCopy
import Derived.Lib.AppendZerosOnto
import Derived.Lib.Overlaps
import Derived.Lib.SliceRun
set_option linter.unusedSimpArgs false
set_option linter.unusedVariables false
set_option maxHeartbeats 4000000
set_option maxRecDepth 100000
namespace Pw
open Go Go.RowKit
theorem Dl {a c:World} (h:a.grownBy c none) (row:Option Nat):a.grownBy c row:=⟨h.os,h.tape,h.output,h.size,fun i hi _=>h.block i hi (by simp)⟩
def ib (ps:List (Nat × Value)) (i:Nat):Option Value:=ps.lookup i
def NT (ops:Array Oper) (m:Nat) (ps:List (Nat × Value)):Bool:=
 (List.range m).all fun j=>(ib ps j).isSome||(pU ops ops.size m).contains j
def Es (m k1:Nat) (ps:List (Nat × Value)):Bool:=(List.range k1).all fun j=>decide (j≤m)||(ib ps j).isSome
def KJ (ops:Array Oper) (m:Nat) (ps:List (Nat × Value)):Bool:=
 (List.range ops.size).all fun i=>(ib ps i).isNone||(decide (i≠m)&&match ops[i]? with | some o=>o.after.toList.all (fun e=>(ib ps e.on).isSome) | none=>true)
theorem Iy {ops:Array Oper} {m:Nat} {ps:List (Nat × Value)} (h:NT ops m ps=true) {listed:Array Bool} (hc:∀i o,ops[i]?=some o→listed.getD i false=true→∀e∈o.after,listed.getD e.on false=true) (hL:∀o,ops[m]?=some o→∀e∈o.after,listed.getD e.on false=true) (j:Nat) (hj:j<m) (hp:ib ps j=none):listed.getD j false=true:=by
 have h1:=List.all_eq_true.1 h j (List.mem_range.2 hj)
 rw[hp] at h1
 exact nL hc ops.size m hL j (by simpa using h1)
theorem MB {m k1:Nat} {ps:List (Nat × Value)} (h:Es m k1 ps=true) (j:Nat) (hj:j<k1) (hm:m<j):∃v,ib ps j=some v:=by
 have h1:=List.all_eq_true.1 h j (List.mem_range.2 hj)
 simp only[Bool.or_eq_true,decide_eq_true_eq] at h1
 rcases h1 with h1|h1
 ·omega
 ·exact Option.isSome_iff_exists.1 h1
theorem LZ {ops:Array Oper} {m:Nat} {ps:List (Nat × Value)} (h:KJ ops m ps=true) {i:Nat} {v:Value} {o:Oper} (hi:ops[i]?=some o) (hp:ib ps i=some v):i≠m∧∀e∈o.after,∃u,ib ps e.on=some u:=by
 have hlt:i<ops.size:=(Array.getElem?_eq_some_iff.1 hi).1
 have h1:=List.all_eq_true.1 h i (List.mem_range.2 hlt)
 rw[hp,hi] at h1
 simp only[Option.isNone_some,Bool.false_or,Bool.and_eq_true,decide_eq_true_eq] at h1
 exact⟨h1.1,fun e he=>Option.isSome_iff_exists.1 (List.all_eq_true.1 h1.2 e (Array.mem_toList_iff.2 he))⟩
def Mc (P : Program) (ops : Array Oper) (Q : Exit → Act → World → Prop) (m k1 : Nat) (ps : List (Nat × Value)) (R : Nat → Value → World → Prop) (a0 : Act) (w0 : World) (listed : Array Bool) (a : Act) (w : World) : Prop :=
  (∀ i, k1 ≤ i → listed.getD i false = false) ∧ (∀ i o, ops[i]? = some o → listed.getD i false = true → ∀ e ∈ o.after, listed.getD e.on false = true) ∧
  ∃ y : Nat → Value, (∀ i v, ib ps i = some v → y i = v) ∧ a = { a0 with tmps := lay (fun i => listed.getD i false) y ops.toList 0 a0.tmps } ∧
    ((listed.getD m false = false ∧ Below w0.heap.size w0 w ∧ ∀ i, i < m → ib ps i = none → listed.getD i false = true → R i (y i) w) ∨
     (listed.getD m false = true ∧ wpList P ops Q (ops.toList.drop k1) { a0 with tmps := lay (fun i => decide (i < k1)) y ops.toList 0 a0.tmps } w))
theorem xD {ops:Array Oper} {listed:Array Bool} {k1:Nat} (hsz:listed.size=ops.size) (hk:k1≤ops.size) (hL:∀i,i<ops.size→listed.getD i false=decide (i<k1)):listed.toList.countP (!·)=ops.size-k1:=by
 have e:listed.toList=List.replicate k1 true++List.replicate (ops.size-k1) false:=by
  apply List.ext_getElem?
  intro i
  by_cases hi:i<ops.size
  ·have h2:=hL i hi
   rw[Array.getElem?_toList,Array.getElem?_eq_getElem (show i<listed.size by omega)]
   simp only[Array.getD_eq_getD_getElem?,Array.getElem?_eq_getElem (show i<listed.size by omega),Option.getD_some] at h2
   rw[h2]
   by_cases him:i<k1
   ·rw[List.getElem?_append_left (by simpa using him)]
    simp[him]
   ·rw[List.getElem?_append_right (by simp;omega)]
    rw[List.length_replicate,List.getElem?_replicate,if_pos (by omega)]
    simp[him]
  ·rw[List.getElem?_eq_none (by simp;omega),List.getElem?_eq_none (by simp;omega)]
 rw[e]
 simp[List.countP_append,List.countP_replicate]
theorem tN {P : Program} {ops : Array Oper} {Q : Exit → Act → World → Prop} {a0 : Act} {w0 : World} (m k1 : Nat) (ps : List (Nat × Value)) (hok : fE ops = true) (ht : eO ops k1 = true) (hcok : NT ops m ps = true) (hmid : Es m k1 ps = true) (hpu : KJ ops m ps = true) (hmk : m < k1) (hk1 : k1 ≤ ops.size)
    (R : Nat → Value → World → Prop) (hstab : ∀ i v w w', Below w.heap.size w w' → R i v w → R i v w')
    (hstep : ∀ i o, i < m → ib ps i = none → ops[i]? = some o → ∀ y w, (∀ i v, ib ps i = some v → y i = v) → Below w0.heap.size w0 w → (∀ j, o.after.toList.any (fun e => e.on == j) = true → match ib ps j with | some v => y j = v | none => R j (y j) w) →
      if Region.wanted o (yielded ops (lay (fun _ => true) y ops.toList 0 a0.tmps)) = true then Gives P o { a0 with tmps := lay (fun _ => true) y ops.toList 0 a0.tmps } w (fun v w' => Below w.heap.size w w' ∧ R i v w') else R i undef w)
    (hpure : ∀ i v o, ib ps i = some v → ops[i]? = some o → ∀ y w, (∀ i v, ib ps i = some v → y i = v) →
      Region.wanted o (yielded ops (lay (fun _ => true) y ops.toList 0 a0.tmps)) = true ∧ (execOp ({ a0 with tmps := lay (fun _ => true) y ops.toList 0 a0.tmps } : Act).eval o).run P w = .ok (.value v) w)
    (hend : ∀ y w o, ops[m]? = some o → (∀ i v, ib ps i = some v → y i = v) → Below w0.heap.size w0 w → (∀ i, i < m → match ib ps i with | some v => y i = v | none => R i (y i) w) →
      Region.wanted o (yielded ops (lay (fun _ => true) y ops.toList 0 a0.tmps)) = true ∧
      Gives P o { a0 with tmps := lay (fun _ => true) y ops.toList 0 a0.tmps } w fun v w' => wpList P ops Q (ops.toList.drop k1) { a0 with tmps := lay (fun i => decide (i < k1)) (fun i => if i = m then v else y i) ops.toList 0 a0.tmps } w') :
    wpAny P .any ops Q ops.size (Array.replicate ops.size false) a0 { w0 with drawn := w0.drawn + 1 } := by
  have hall : ∀ (fuel : Nat) (listed : Array Bool) (a : Act) (w : World), listed.size = ops.size → listed.toList.countP (!·) ≤ fuel → Mc P ops Q m k1 ps R a0 w0 listed a w → wpAny P .any ops Q fuel listed a w := by
    have hfin : ∀ (fuel : Nat) (listed : Array Bool) (a : Act) (w : World), listed.size = ops.size → listed.toList.countP (!·) ≤ fuel → Mc P ops Q m k1 ps R a0 w0 listed a w → (∀ i, i < k1 → listed.getD i false = true) → wpAny P .any ops Q fuel listed a w := by
      intro fuel listed a w hsz hc hA hfull
      obtain ⟨hno, hcl, y, hV, ha, hph⟩ := hA
      have hL : ∀ i, i < ops.size → listed.getD i false = decide (i < k1) := by
        intro i hi
        by_cases him : i < k1
        · rw [hfull i him]; simp [him]
        · rw [hno i (by omega)]; simp [him]
      rcases hph with ⟨h1, _⟩ | ⟨_, hw⟩
      · rw [hfull m hmk] at h1; cases h1
      · refine iF (m := k1) hok ht fuel k1 listed a w (Nat.le_refl _) hk1 (by have := xD hsz hk1 hL; omega) hsz hL ?_
        rw [ha, gU (fun i => listed.getD i false) (fun i => decide (i < k1)) y ops.toList 0 a0.tmps (fun k hk => by
          simp only [Nat.zero_add]
          exact hL k (by simpa using hk))]
        exact hw
    intro fuel
    induction fuel with
    | zero =>
      intro listed a w hsz hc hA
      refine hfin 0 listed a w hsz hc hA fun i hi => ?_
      have h0 : listed.toList.countP (!·) = 0 := by omega
      have := List.countP_eq_zero.1 h0 (listed[i]'(by omega)) (by simp)
      simpa [Array.getD_eq_getD_getElem?, show i < listed.size by omega] using this
    | succ fuel ih =>
      intro listed a w hsz hc hA
      by_cases hfull : ∀ i, i < k1 → listed.getD i false = true
      · exact hfin _ listed a w hsz hc hA hfull
      · have hready0 : Region.ready .any ops listed ≠ [] := by
          intro hready
          apply hfull
          intro i
          induction i using Nat.strongRecOn with
          | ind i ih' =>
            intro him
            by_cases hc' : listed.getD i false = true
            · exact hc'
            · exfalso
              have hi : i < ops.size := by omega
              have hmem : i ∈ Region.ready .any ops listed := by
                rw [mem_ready]
                refine ⟨?_, ops[i], by simp [hi], fun e he _ => ?_⟩
                · simpa [Array.getD_eq_getD_getElem?, show i < listed.size by omega] using hc'
                · have := (dx hok (i := i) (o := ops[i]) (by simp [hi])).2.1 e he
                  exact ih' e.on this.2 (by omega)
              rw [hready] at hmem
              cases hmem
        refine ⟨fun h => absurd h hready0, fun i hi => ?_⟩
        obtain ⟨h1, o, ho, hdeps⟩ := mem_ready.1 hi
        have hlt : i < ops.size := (Array.getElem?_eq_some_iff.1 ho).1
        have hls : i < listed.size := by omega
        obtain ⟨hsel, hbinds, _⟩ := dx hok ho
        have hL : ∀ e ∈ o.after, listed.getD e.on false = true := fun e he => hdeps e he (hbinds e he).1
        have hnl : listed.getD i false = false := by simpa [Array.getD_eq_getD_getElem?, hls] using h1
        have him : i < k1 := by
          rcases Nat.lt_or_ge i k1 with h | h
          · exact h
          · exfalso
            apply hfull
            intro j hj
            exact jW ht hA.2.1 ho hL h j (by omega)
        obtain ⟨hno, hcl, y, hV, ha, hph⟩ := hA
        have hcl' : ∀ k o', ops[k]? = some o' → (listed.setIfInBounds i true).getD k false = true → ∀ e ∈ o'.after, (listed.setIfInBounds i true).getD e.on false = true := by
          intro k o' ho' hk e he
          apply pQ hls
          by_cases hki : k = i
          · subst hki
            rw [ho] at ho'
            cases ho'
            exact hL e he
          · rw [lI hki] at hk
            exact hcl k o' ho' hk e he
        have hno' : ∀ k, k1 ≤ k → (listed.setIfInBounds i true).getD k false = false := fun k hk => by rw [lI (by omega)]; exact hno k hk
        have hnext : ∀ v w' y', (∀ k, y' k = if k = i then v else y k) → (∀ i v, ib ps i = some v → y' i = v) →
            (((listed.setIfInBounds i true).getD m false = false ∧ Below w0.heap.size w0 w' ∧ ∀ k, k < m → ib ps k = none → (listed.setIfInBounds i true).getD k false = true → R k (y' k) w') ∨
             ((listed.setIfInBounds i true).getD m false = true ∧ wpList P ops Q (ops.toList.drop k1) { a0 with tmps := lay (fun i => decide (i < k1)) y' ops.toList 0 a0.tmps } w')) →
            wpAny P .any ops Q fuel (listed.setIfInBounds i true) (a.put o.dst v) w' := by
          intro v w' y' hy' hV' hph'
          obtain rfl : y' = fun k => if k = i then v else y k := funext hy'
          refine ih _ _ _ (by simp [hsz]) (wP hls h1 hc) ⟨hno', hcl', _, hV', ?_, hph'⟩
          rw [ha, sH hok ho hsz v]
        have heval : ∀ t ∈ o.looksAt ops, a.tmps[t]? = (lay (fun _ => true) y ops.toList 0 a0.tmps)[t]? := fun t ht => by
          rw [ha]; exact mU hok ho hL t ht
        have hexec : execOp a.eval o = execOp ({ a0 with tmps := lay (fun _ => true) y ops.toList 0 a0.tmps } : Act).eval o := by
          refine execOp_congr o hsel fun x hx => ?_
          cases x with
          | tmp t =>
            have := heval t (List.mem_append_left _ (List.mem_filterMap.2 ⟨.tmp t, by simpa using hx, rfl⟩))
            simp [Act.eval, this]
          | _ => rfl
        have hwant : Region.wanted o (yielded ops a.tmps) = Region.wanted o (yielded ops (lay (fun _ => true) y ops.toList 0 a0.tmps)) := by
          unfold Region.wanted
          cases hg : o.guard with
          | none => rfl
          | some gw =>
            obtain ⟨g, want⟩ := gw
            have : yielded ops a.tmps g = yielded ops (lay (fun _ => true) y ops.toList 0 a0.tmps) g := by
              unfold yielded
              cases hd : (ops[g]?).bind (·.dst) with
              | none => rfl
              | some t =>
                have := heval t (List.mem_append_right _ (by simp [hg, hd]))
                simp [this]
            simp only [this]
        cases hp : ib ps i with
        | some v =>
          have hne := (LZ hpu ho hp).1
          obtain ⟨hw1, hr1⟩ := hpure i v o hp ho y w hV
          have hg : Gives P o { a0 with tmps := lay (fun _ => true) y ops.toList 0 a0.tmps } w (fun u w' => u = v ∧ w' = w) := by
            unfold Gives
            rw [hr1]
            exact ⟨rfl, rfl⟩
          refine je ho (by rw [hwant]; exact hw1) hexec hg fun u w' hu => ?_
          obtain ⟨rfl, rfl⟩ := hu
          refine hnext u w' y (fun k => ?_) hV ?_
          · by_cases hk : k = i
            · subst hk; rw [if_pos rfl]; exact hV _ _ hp
            · rw [if_neg hk]
          · rcases hph with ⟨h2, h3, h4⟩ | ⟨h2, h3⟩
            · refine .inl ⟨by rw [lI (Ne.symm hne)]; exact h2, h3, fun k hk hpk hLk => ?_⟩
              have hki : k ≠ i := by rintro rfl; rw [hp] at hpk; cases hpk
              rw [lI hki] at hLk
              exact h4 k hk hpk hLk
            · exact .inr ⟨pQ hls _ h2, h3⟩
        | none =>
          have hile : i ≤ m := by
            rcases Nat.lt_or_ge m i with h | h
            · obtain ⟨v, hv⟩ := MB hmid i him h
              rw [hp] at hv
              cases hv
            · exact h
          rcases hph with ⟨h2, h3, h4⟩ | ⟨h2, h3⟩
          · by_cases hic : i = m
            · subst hic
              have hRall : ∀ k, k < i → match ib ps k with | some v => y k = v | none => R k (y k) w := by
                intro k hk
                cases hpk : ib ps k with
                | some v => exact hV k v hpk
                | none => exact h4 k hk hpk (Iy hcok hcl (fun o' ho' => by rw [ho] at ho'; cases ho'; exact hL) k hk hpk)
              obtain ⟨hw1, hg⟩ := hend y w o ho hV h3 hRall
              refine je ho (by rw [hwant]; exact hw1) hexec hg fun v w' hwp => ?_
              refine hnext v w' (fun k => if k = i then v else y k) (fun _ => rfl) (fun k u hku => ?_) (.inr ⟨AL hls, hwp⟩)
              have : k ≠ i := by rintro rfl; rw [hp] at hku; cases hku
              simp only [this, if_false]
              exact hV k u hku
            · have hilt : i < m := by omega
              have hs := hstep i o hilt hp ho y w hV h3 (fun j hj => by
                obtain ⟨e, he, hej⟩ := List.any_eq_true.1 hj
                have hej' : e.on = j := by simpa using hej
                subst hej'
                have he' := Array.mem_toList_iff.1 he
                cases hpj : ib ps e.on with
                | some v => exact hV _ _ hpj
                | none => exact h4 e.on (by have := (hbinds e he').2; omega) hpj (hL e he'))
              have hgo : ∀ v w', Below w.heap.size w w' → R i v w' → wpAny P .any ops Q fuel (listed.setIfInBounds i true) (a.put o.dst v) w' := by
                intro v w' hbw hv
                refine hnext v w' (fun k => if k = i then v else y k) (fun _ => rfl) (fun k u hku => ?_) (.inl ⟨by rw [lI (Ne.symm hic)]; exact h2, h3.trans (hbw.mono h3.size), fun k hk hpk hLk => ?_⟩)
                · have : k ≠ i := by rintro rfl; rw [hp] at hku; cases hku
                  simp only [this, if_false]
                  exact hV k u hku
                · by_cases hki : k = i
                  · subst hki; simpa using hv
                  · rw [lI hki] at hLk
                    simp only [hki, if_false]
                    exact hstab _ _ _ _ hbw (h4 k hk hpk hLk)
              by_cases hwt : Region.wanted o (yielded ops (lay (fun _ => true) y ops.toList 0 a0.tmps)) = true
              · rw [if_pos hwt] at hs
                exact je ho (by rw [hwant]; exact hwt) hexec hs fun v w' h => hgo v w' h.1 h.2
              · rw [if_neg hwt] at hs
                unfold wpOp
                simp only [ho]
                rw [if_neg (by rw [hwant]; exact hwt)]
                exact hgo undef w (Below.refl _ _) hs
          · exfalso
            by_cases hic : i = m
            · subst hic; rw [hnl] at h2; cases h2
            · have hmo : ∃ om, ops[m]? = some om := ⟨ops[m]'(by omega), by simp [show m < ops.size by omega]⟩
              obtain ⟨om, hom⟩ := hmo
              have := Iy hcok hcl (fun o' ho' => hcl m o' ho' h2) i (by omega) hp
              rw [hnl] at this
              cases this
  refine (hall ops.size _ _ _ (by simp) ?_ ⟨fun i _ => ?_, fun i o' ho' hi => ?_, fun i => (ib ps i).getD undef, fun i v h => (by show (ib ps i).getD undef = v; rw [h]; rfl), ?_, .inl ⟨?_, ?_, ?_⟩⟩)
  · simpa using List.countP_le_length (p := (!·)) (l := List.replicate ops.size false)
  · simp [Array.getD_eq_getD_getElem?, Array.getElem?_replicate]; split <;> rfl
  · exfalso
    have : i < ops.size := (Array.getElem?_eq_some_iff.1 ho').1
    simp [Array.getD_eq_getD_getElem?, this] at hi
  · have e : ∀ y, lay (fun i => (Array.replicate ops.size false).getD i false) y ops.toList 0 a0.tmps = a0.tmps := by
      intro y
      apply Array.ext_getElem?
      intro s
      exact eG _ _ s _ 0 _ fun k o' hk hd => by simp [Array.getD_eq_getD_getElem?, Array.getElem?_replicate]; split <;> rfl
    rw [e]
  · simp [Array.getD_eq_getD_getElem?, Array.getElem?_replicate]; split <;> rfl
  · exact ⟨rfl, rfl, rfl, Nat.le_refl _, fun _ _ => rfl⟩
  · intro i hi _ hL
    simp [Array.getD_eq_getD_getElem?, show i < ops.size by omega] at hL
def lV (P:Program) (ops:Array Oper) (a0:Act) (w0:World) (ps:List (Nat × Value)) (l:List iO) (i:Nat) (o:Oper):Prop:=
 match ib ps i with
 | some v => ∀(ρ:Operand→Value) (y:Nat→Value) (w:World),(∀t j,writer ops t=some j→ρ (.tmp t)=y j)→(∀x,(match x with | .tmp t=>writer ops t=none | _=>True)→ρ x=a0.eval x)→(∀i v,ib ps i=some v→y i=v) →
   Region.wanted o (ed ρ ops)=true∧(execOp ρ o).run P w = .ok (.value v) w
 | none => ∀(ρ:Operand→Value) (y:Nat→Value) (w:World),(∀t j,writer ops t=some j→ρ (.tmp t)=y j)→(∀x,(match x with | .tmp t=>writer ops t=none | _=>True)→ρ x=a0.eval x) →
   Below w0.heap.size w0 w→(∀j,o.after.toList.any (fun e=>e.on==j)=true→match ib ps j with | some v=>y j=v | none=>rl l j (y j) w) →
   if Region.wanted o (ed ρ ops)=true then cz P o ρ w (fun v w'=>Below w.heap.size w w'∧rl l i v w') else rl l i undef w
theorem GQ {P:Program} {ops:Array Oper} {a0:Act} {w0:World} {ps:List (Nat × Value)} {l:List iO} {i:Nat} {o:Oper} {v:Value} (h:ib ps i=some v)
  (hh:∀(ρ:Operand→Value) (y:Nat→Value) (w:World),(∀t j,writer ops t=some j→ρ (.tmp t)=y j)→(∀x,(match x with | .tmp t=>writer ops t=none | _=>True)→ρ x=a0.eval x)→(∀i v,ib ps i=some v→y i=v)→Region.wanted o (ed ρ ops)=true∧(execOp ρ o).run P w = .ok (.value v) w):lV P ops a0 w0 ps l i o:=by
 unfold lV;rw[h];exact hh
theorem bq {P:Program} {ops:Array Oper} {a0:Act} {w0:World} {ps:List (Nat × Value)} {l:List iO} {i:Nat} {o:Oper} (h:ib ps i=none)
  (hh:∀(ρ:Operand→Value) (y:Nat→Value) (w:World),(∀t j,writer ops t=some j→ρ (.tmp t)=y j)→(∀x,(match x with | .tmp t=>writer ops t=none | _=>True)→ρ x=a0.eval x) →
   Below w0.heap.size w0 w→(∀j,o.after.toList.any (fun e=>e.on==j)=true→match ib ps j with | some v=>y j=v | none=>rl l j (y j) w) →
   if Region.wanted o (ed ρ ops)=true then cz P o ρ w (fun v w'=>Below w.heap.size w w'∧rl l i v w') else rl l i undef w):lV P ops a0 w0 ps l i o:=by
 unfold lV;rw[h];exact hh
theorem yQ {P:Program} {ops:Array Oper} {Q:Exit→Act→World→Prop} {a0:Act} {w0:World} (m k1:Nat) (ps:List (Nat × Value)) (l:List iO) (hok:fE ops=true) (ht:eO ops k1=true) (hcok:NT ops m ps=true) (hmid:Es m k1 ps=true) (hpu:KJ ops m ps=true) (hmk:m<k1) (hk1:k1≤ops.size)
  (n:Nat) (hn:a0.tmps.size=n) (hsz:fU ops n=true)
  (hstep:aP (lV P ops a0 w0 ps l) 0 (ops.toList.take m)) (hmidl:aP (lV P ops a0 w0 ps l) (m+1) ((ops.toList.drop (m+1)).take (k1-(m+1))))
  (hpl:ps.all (fun p=>decide (p.1<k1))=true)
  (hend:∀(ρ:Operand→Value) (y:Nat→Value) (w:World) (o:Oper),ops[m]?=some o→(∀t j,writer ops t=some j→ρ (.tmp t)=y j)→(∀x,(match x with | .tmp t=>writer ops t=none | _=>True)→ρ x=a0.eval x)→(∀i v,ib ps i=some v→y i=v) →
   Below w0.heap.size w0 w→(∀i,i<m→match ib ps i with | some v=>y i=v | none=>rl l i (y i) w) →
   Region.wanted o (ed ρ ops)=true∧cz P o ρ w fun v w'=>wpList P ops Q (ops.toList.drop k1) { a0 with tmps:=lay (fun i=>decide (i<k1)) (fun i=>if i=m then v else y i) ops.toList 0 a0.tmps } w') :
  wpAny P .any ops Q ops.size (Array.replicate ops.size false) a0 { w0 with drawn:=w0.drawn+1 }:=by
 have hwr:∀(y:Nat→Value) t j,writer ops t=some j→({ a0 with tmps:=lay (fun _=>true) y ops.toList 0 a0.tmps }:Act).eval (.tmp t)=y j:=by
  intro y t j hw
  unfold writer at hw
  have h1:=List.find?_some hw
  have h2:=List.mem_range.1 (List.mem_of_find?_eq_some hw)
  cases ho:ops[j]? with
  | none=>simp[ho] at h1
  | some p=>
   have hd' : p.dst=some t:=by simpa[ho] using h1
   have hlt:t<a0.tmps.size:=by
    have:=List.all_eq_true.1 hsz p (Array.mem_toList_iff.2 (Array.mem_of_getElem? ho))
    rw[hn]
    simpa[hd'] using this
   have hu:∀k' o',ops.toList[k']?=some o'→o'.dst=some t→k' = j:=by
    intro k' o' hk' hdk
    rcases ((dx hok (i:=k') (o:=o') (by simpa using hk')).2.2 j p t ho hd').1 with h|h
    ·exact h
    ·exact absurd hdk h
   have:=iA (fun _=>true) y t ops.toList 0 a0.tmps j p (by simpa using ho) hd' rfl hu hlt
   simp[Act.eval,this]
 have hno:∀(y:Nat→Value) x,(match x with | .tmp t=>writer ops t=none | _=>True)→({ a0 with tmps:=lay (fun _=>true) y ops.toList 0 a0.tmps }:Act).eval x=a0.eval x:=by
  intro y x hx
  cases x with
  | tmp t=>
   have:(lay (fun _=>true) y ops.toList 0 a0.tmps)[t]?=a0.tmps[t]?:=by
    refine eG _ y t _ 0 _ fun k o' hk hd' => ?_
    exfalso
    simp only[writer] at hx
    have hk' : ops[k]?=some o':=by simpa using hk
    have hklt:k<ops.size:=(Array.getElem?_eq_some_iff.1 hk').1
    have:=List.find?_eq_none.1 hx k (List.mem_range.2 hklt)
    simp[hk',hd'] at this
   simp[Act.eval,this]
  | _=>rfl
 have hsays:∀(y:Nat→Value) (o:Oper),Region.wanted o (yielded ops (lay (fun _=>true) y ops.toList 0 a0.tmps))=Region.wanted o (ed ({ a0 with tmps:=lay (fun _=>true) y ops.toList 0 a0.tmps }:Act).eval ops):=by
  intro y o
  congr 1
  funext g
  unfold yielded ed
  cases (ops[g]?).bind (·.dst) with
  | none=>rfl
  | some d=>
   simp only[Option.bind_some,Act.eval,Array.getD_eq_getD_getElem?]
   generalize (lay (fun _=>true) y ops.toList 0 a0.tmps)[d]?=q
   cases q with
   | none=>rfl
   | some v=>cases v<;>rfl
 have hask:∀i o,i<k1→i≠m→ops[i]?=some o→lV P ops a0 w0 ps l i o:=by
  intro i o hi hne ho
  rcases Nat.lt_or_ge i m with h|h
  ·have hi' : (ops.toList.take m)[i]?=some o:=by rw[List.getElem?_take,if_pos h];simpa using ho
   have:=aP.at hstep i o hi'
   rwa [Nat.zero_add] at this
  ·have hi' : ((ops.toList.drop (m+1)).take (k1-(m+1)))[i-(m+1)]?=some o:=by
    rw[List.getElem?_take,if_pos (by omega),List.getElem?_drop,show m+1+(i-(m+1))=i by omega]
    simpa using ho
   have:=aP.at hmidl _ o hi'
   rwa [show m+1+(i-(m+1))=i by omega] at this
 refine tN m k1 ps hok ht hcok hmid hpu hmk hk1 (rl l) (fun i v w w' hb h=>(l.getD i anyR).st v w w' hb h) (fun i o him hp hi y w hV hb hd => ?_) (fun i v o hp hi y w hV => ?_) (fun y w o hi hV hb hR => ?_)
 ·have:=hask i o (by omega) (by omega) hi
  unfold lV at this
  rw[hp] at this
  have h2:=this _ y w (hwr y) (hno y) hb hd
  rw[hsays]
  exact h2
 ·have hik:i<k1:=by
   have h1:(i,v)∈ps:=by
    clear hpl hstep hmidl hcok hmid hpu hask hend hV
    unfold ib at hp
    induction ps with
    | nil=>simp at hp
    | cons q r ih=>
     obtain⟨a,b⟩:=q
     by_cases e:i=a
     ·subst e;simp at hp;simp[hp]
     ·have:(i==a)=false:=beq_eq_false_iff_ne.2 e
      simp[List.lookup,this] at hp
      exact List.mem_cons_of_mem _ (ih hp)
   simpa using List.all_eq_true.1 hpl _ h1
  have:=hask i o hik (LZ hpu hi hp).1 hi
  unfold lV at this
  rw[hp] at this
  obtain⟨h1,h2⟩:=this _ y w (hwr y) (hno y) hV
  exact⟨by rw[hsays];exact h1,h2⟩
 ·obtain⟨h1,h2⟩:=hend _ y w o hi (hwr y) (hno y) hV hb hR
  exact⟨by rw[hsays];exact h1,h2⟩
theorem Bj {P:Program} {ops:Array Oper} {Q:Exit→Act→World→Prop} {id:Nat} {a0:Act} {w0:World} (m k1:Nat) (ps:List (Nat × Value)) (l:List iO) (hm:P.follows .mixedOrders=true) (hok:fE ops=true) (ht:eO ops k1=true) (hcok:NT ops m ps=true) (hmid:Es m k1 ps=true) (hpu:KJ ops m ps=true) (hmk:m<k1) (hk1:k1≤ops.size)
  (n:Nat) (hn:a0.tmps.size=n) (hsz:fU ops n=true)
  (hstep:aP (lV P ops a0 w0 ps l) 0 (ops.toList.take m)) (hmidl:aP (lV P ops a0 w0 ps l) (m+1) ((ops.toList.drop (m+1)).take (k1-(m+1))))
  (hpl:ps.all (fun p=>decide (p.1<k1))=true)
  (hend:∀(ρ:Operand→Value) (y:Nat→Value) (w:World) (o:Oper),ops[m]?=some o→(∀t j,writer ops t=some j→ρ (.tmp t)=y j)→(∀x,(match x with | .tmp t=>writer ops t=none | _=>True)→ρ x=a0.eval x)→(∀i v,ib ps i=some v→y i=v) →
   Below w0.heap.size w0 w→(∀i,i<m→match ib ps i with | some v=>y i=v | none=>rl l i (y i) w) →
   Region.wanted o (ed ρ ops)=true∧cz P o ρ w fun v w'=>wpList P ops Q (ops.toList.drop k1) { a0 with tmps:=lay (fun i=>decide (i<k1)) (fun i=>if i=m then v else y i) ops.toList 0 a0.tmps } w') :
  (Code.region id ops true).wp P Q a0 w0:=
 wp_region_any hm (yQ m k1 ps l hok ht hcok hmid hpu hmk hk1 n hn hsz hstep hmidl hpl hend)
theorem gL {P:Program} {ρ:Operand→Value} {o:Oper} {w:World} (s x:Operand) (t:TypeId) (hop:o.op=Op.call { callee:=Callee.builtin Builtin.append,args:=#[s,x],argTypes:=#[t,t] })
  (B:Nat) (e:TypeId) (z:Value) (size bytes:Nat) (h1:P.underlying t=some (.slice e)) (h2:(P.info? e).map (fun i=>(i.zero,i.size,i.bytes))=some (some z,size,bytes)) (h6:z.cells.size=size) (h7:0<size)
  (v:Value) (n:Nat) (xs:List Value) (hs:ρ s=v) (hown:Own w B e size v n xs)
  (ao:Option Addr) (m c:Nat) (news:List Value) (hx:ρ x = .slice ao m c) (hnone:ao=none→c=0) (hmc:m≤c) (hn:news.length=m*size) (hrd:cZ w ao news) (h1c:∀u∈news,u.oneCell' = true)
  (b1:n+m≤maxLen) (b2:(n+m)*bytes≤140737488355328) (hB:B≤w.heap.size) :
  ∃v' w',(execOp ρ o).run P w = .ok (.value v') w'∧Own w' B e size v' (n+m) (xs++news)∧w.grownBy w' v.ownBlock∧(v'.ownBlock=v.ownBlock∨∀g,v'.ownBlock=some g→w.heap.size≤g):=by
 obtain⟨i,hi,hz,hsz,hby⟩:=info_parts h2
 cases ao with
 | none=>
  obtain rfl:=hnone rfl
  obtain rfl:m=0:=by omega
  obtain rfl:news=[]:=List.eq_nil_of_length_eq_zero (by simpa using hn)
  refine⟨v,w,?_,by simpa using hown,World.grownBy.refl _ _,.inl rfl⟩
  rcases hown with ⟨hl,⟨rfl,rfl⟩|⟨g,off,cap,cur,rfl,hBg,hk,hc,hm,hsize,hcell⟩⟩
  ·simp[execOp,hop,resolve,invoke,builtin,hs,hx,Builtin.append_,run_underlying h1,Go.sizeOf,typeInfo,hi,Builtin.lenOf,Builtin.firstCells,storeCells,Result.andThen]
  ·simp[execOp,hop,resolve,invoke,builtin,hs,hx,Builtin.append_,run_underlying h1,Go.sizeOf,typeInfo,hi,Builtin.lenOf,Builtin.firstCells,hc,storeCells,Result.andThen]
 | some ad=>
  have hnews:∀j u,news[j]?=some u→w.cell? (ad.add j)=some u:=by
   intro j u hj
   obtain⟨b,off,e',hc⟩:=hrd j u hj
   cases e'
   rw[Addr.add_lit];exact hc
  rcases hown with ⟨hl,⟨rfl,rfl⟩|⟨g,off,cap,cur,rfl,hBg,hk,hc,hm,hsize,hcell⟩⟩
  ·obtain rfl:xs=[]:=List.eq_nil_of_length_eq_zero (by simpa using hl)
   obtain⟨v',w',hrun,r1,r2,_⟩:=run_append_own (P:=P) w w.heap.size t o.type e i z size bytes h1 hi hz hsz hby h6 h7 (.slice none 0 0) 0 [] (World.ownsRow_nil w _ e size) ad m c news hn hnews h1c b1 b2 (Nat.le_refl _)
   refine⟨v',w',?_,(Own.of_owns r1).mono hB,r2,.inr (Own.of_owns r1).ge⟩
   simp[execOp,hop,resolve,invoke,builtin,hs,hx,hrun,Result.andThen]
  ·have hcap:n*size≤cap*size:=Nat.mul_le_mul_right _ hc
   rcases Nat.lt_or_ge cap (n+m) with hr|hr
   ·obtain⟨v',w',hrun,r1,r2⟩:=run_append_arg_grows (P:=P) w t o.type e i z size bytes h1 hi hz hsz hby h6 h7 ⟨g,off,none⟩ n cap xs hl (fun j u hj=>by rw[Addr.add_lit,hk.cell];exact hcell j u hj) ad m c news hn hnews hr b1 b2
    refine⟨v',w',?_,(Own.of_owns r1).mono hB,Dl r2 _,.inr (Own.of_owns r1).ge⟩
    simp[execOp,hop,resolve,invoke,builtin,hs,hx,hrun,Result.andThen]
   ·have h3:(n+m)*size≤cap*size:=Nat.mul_le_mul_right _ hr
    rw[Nat.add_mul] at h3
    have hrun:=run_append_room_cells (P:=P) w t o.type e i h1 hi g off n cap ad m c news (by rw[hsz];exact hn) hnews h1c hr (fun j hj=>by rw[hsz,hk.cell];simp[show off+n*size+j<cur.size by omega]) (fun j hj=>hk.free _)
    rw[hsz] at hrun
    refine⟨_,_,?_,⟨by rw[List.length_append,hl,hn,Nat.add_mul],.inr ⟨g,off,cap,_,rfl,hBg,hk.setCells news (off+n*size),hr,hm,by rw[size_putAt];exact hsize,fun j u hj => ?_⟩⟩,aL _ _ _ _,.inl rfl⟩
    ·simp[execOp,hop,resolve,invoke,builtin,hs,hx,hrun,Result.andThen]
    ·by_cases hjl:j<xs.length
     ·rw[List.getElem?_append_left hjl] at hj
      rw[putAt_out _ _ _ _ (.inl (by omega))];exact hcell j u hj
     ·rw[List.getElem?_append_right (by omega)] at hj
      have:=putAt_in news cur (off+n*size) (j-xs.length) u (by omega) hj
      rwa [show off+n*size+(j-xs.length)=off+j by omega] at this
theorem zL {P:Program} {ops:Array Oper} {ρ:Operand→Value} {o:Oper} {w:World} {F:Value→World→Prop} (hw:Region.wanted o (ed ρ ops)=true) {D:Value→World→Prop} (h:∃v' w',(execOp ρ o).run P w = .ok (.value v') w'∧D v' w') (hF:∀v w',D v w'→F v w'):Region.wanted o (ed ρ ops)=true∧cz P o ρ w F:=by
 obtain⟨v',w',h1,h2⟩:=h
 refine⟨hw,?_⟩
 unfold cz
 rw[h1]
 exact hF _ _ h2
open Go.ChangeShapes Go.WideShapes Go.ChangeAt
theorem xC {P:Program} {t e:TypeId} {n:Nat} {d:TypeDesc} (ht:P.underlying t=some (.array n e)) (he:P.underlying e=some d) (hd:(∀m f,d ≠ .array m f)∧(∀fs,d ≠ .struct fs)) (hs:(P.info? e).map (·.size)=some 1)
  (cs:Array Value) (k:Nat) (v:Value) (hk:k<n) (hv:cs[k]?=some v) (kk:IntKind) (w:World):(Instr.index t (.agg cs) (.int kk k)).run P w = .ok v w:=by
 have hsz:∀w,(Go.sizeOf e).run P w = .ok 1 w:=by
  intro w
  cases hq:P.info? e with
  | none=>simp[hq] at hs
  | some i=>
   have hz:i.size=1:=by simpa[hq] using hs
   simp[Go.sizeOf,typeInfo,run_program,hq,hz]
 have ha:∀w,(isAgg e).run P w = .ok false w:=by
  intro w
  unfold isAgg
  simp[run_underlying he]
  cases d<;>simp_all
 simp[Instr.index,part,asIntOf,run_underlying ht,hsz,hk,ha,hv,go_sem]
theorem Ld {e:TypeId}:(∀m f,TypeDesc.slice e ≠ .array m f)∧(∀fs,TypeDesc.slice e ≠ .struct fs):=⟨fun _ _ h=>(by cases h),fun _ h=>(by cases h)⟩
def aggB:TypeDesc→Bool
 | .struct _=>true
 | .array _ _=>true
 | _=>false
theorem gF {P:Program} {w:World} {ty:TypeId} {b off:Nat} {vs:List Value} {d:TypeDesc} (hrd:cZ w (some ⟨b,off,none⟩) vs)
  (hu:P.underlying ty=some d) (hd:aggB d=true) (hi:(P.info? ty).map (·.size)=some vs.length) :
  (loadVar ty ⟨b,off,none⟩).run P w = .ok (.agg vs.toArray) w:=by
 have hl:(loadCells ⟨b,off,none⟩ vs.length).run P w = .ok vs.toArray w:=
  run_loadCells_list (P:=P) w ⟨b,off,none⟩ vs (fun j v hv=>by
   obtain⟨b',off',h1,h2⟩:=hrd.at (by
    rcases Nat.lt_or_ge 0 vs.length with h|h
    ·exact h
    ·rw[List.getElem?_eq_none (by omega)] at hv;cases hv)
   cases h1
   have hadd:(⟨b,off,none⟩:Addr).add j=⟨b,off+j,none⟩:=by unfold Addr.add;split<;>simp_all
   rw[hadd]
   exact h2 j v hv)
 cases hq:P.info? ty with
 | none=>simp[hq] at hi
 | some i=>
  have hs:i.size=vs.length:=by simpa[hq] using hi
  have hagg:(isAgg ty).run P w = .ok true w:=by
   unfold isAgg
   rw[Sem.run_bind,run_underlying hu w]
   cases d<;>simp_all[aggB]
  simp[loadVar,Sem.run_bind,hagg,Go.sizeOf,typeInfo,hq,hs,hl]
theorem dQ {P:Program} {ops:Array Oper} {rest:List Oper} {o:Oper} {a:Act} {w:World} {Q:Exit→Act→World→Prop} (hgd:o.guard=none) (ty:TypeId) (x:Operand) (ho:o.op = .load ty x)
  (b off:Nat) (hx:a.eval x = .pointer (some ⟨b,off,none⟩)) (vs:List Value) (hrd:cZ w (some ⟨b,off,none⟩) vs) (d:TypeDesc)
  (hu:P.underlying ty=some d) (hd:aggB d=true) (hi:(P.info? ty).map (·.size)=some vs.length)
  (h:wpList P ops Q rest (a.put o.dst (.agg vs.toArray)) w):wpList P ops Q (o::rest) a w:=
 wpList_plain hgd fun K hK=>by
  unfold Oper.wp execOp
  simp only[ho,hx,Instr.loadAt,Instr.sureAddr,Sem.run_bind,Sem.run_pure,Result.andThen_ok,gF hrd hu hd hi]
  exact hK _ _ h
theorem aF.rd {w:World} {b:Nat} {cs:Array Value} {T:TypeId} (h:aF w b cs T):cZ w (some ⟨b,0,none⟩) cs.toList:=by
 intro i u hi
 exact⟨b,0,rfl,by rw[h.cell,Nat.zero_add];simpa using hi⟩
theorem aC {P:Program} {w:World} {ops:Array Oper} {rest:List Oper} {op:Oper} {a:Act} {Q:Exit→Act→World→Prop} (hgd:op.guard=none) (ty:TypeId) (x y:Operand) (ho:op.op = .store ty x y)
  (b o:Nat) (v:Value) (cells:List Value) (hx:a.eval x = .pointer (some ⟨b,o,none⟩)) (hy:a.eval y=v) (hc:v.cells.toList=cells) (cur:Array Value) (T:TypeId) (hg:aF w b cur T)
  (hfit:o+cells.length≤cur.size) (hi:(P.info? ty).map (·.size)=some cells.length) (h1:∀u∈cells,u.oneCell' = true)
  (h:∀w',aF w' b (bC cur o cells) T→w.grownBy w' (some b)→wpList P ops Q rest (a.put op.dst undef) w'):wpList P ops Q (op::rest) a w:=
 wpList_plain hgd fun K hK=>by
  have hst:=run_storeCells_cells (P:=P) b o cells 0 w
   (fun j hj=>by rw[Nat.add_zero,hg.cell];simp[show o+j<cur.size by omega]) (fun j hj=>hg.free _) h1
  simp only[Nat.add_zero] at hst
  have hsv:(storeVar ty ⟨b,o,none⟩ v).run P w = .ok () (w.setCells b o cells):=by
   cases hq:P.info? ty with
   | none=>simp[hq] at hi
   | some i=>
    have hs:i.size=cells.length:=by simpa[hq] using hi
    have hv:v.cells.size=cells.length:=by rw[←hc];simp
    simp[storeVar,Go.sizeOf,typeInfo,hq,hs,hv,hc,hst]
  unfold Oper.wp execOp
  simp only[ho,hx,hy,Instr.storeAt,Instr.sureAddr,Sem.run_bind,Sem.run_pure,Result.andThen_ok,hsv]
  exact hK _ _ (h _ (hg.setCells _ _) (aL _ _ _ _))
theorem jv (cur:Array Value) (o:Nat) (v:Value):bC cur o [v]=cur.setIfInBounds o v:=rfl
theorem fq {P:Program} {fn:Func} {p q:Tmp} {ty:TypeId} (h:fn.results=#[.cell p ty,.tmp q]) (tmps:Array Value) (w:World) (g:Nat) (t:TypeId) (cs:Array Value) (d:TypeDesc) (v:Value)
  (hp:tmps.getD p undef = .pointer (some ⟨g,0,none⟩)) (hv:tmps.getD q undef=v) (hg:aF w g cs t) (hu:P.underlying ty=some d) (hd:aggB d=true) (hi:(P.info? ty).map (·.size)=some cs.size) :
  (results fn tmps).run P w = .ok (.tuple #[.agg cs,v]) w:=by
 have hp' : tmps[p]?.getD undef = .pointer (some ⟨g,0,none⟩):=by simpa using hp
 have hl:=gF (P:=P) hg.rd hu hd (by rw[Array.length_toList];exact hi)
 have hv' : tmps[q]?.getD undef=v:=by simpa using hv
 simp[results,h,hp',hv',asAddr,hl]
theorem dP {P:Program} {fn:Func} {p q r:Tmp} {ty:TypeId} (h:fn.results=#[.cell p ty,.tmp q,.tmp r]) (tmps:Array Value) (w:World) (g:Nat) (t:TypeId) (cs:Array Value) (d:TypeDesc) (v u:Value)
  (hp:tmps.getD p undef = .pointer (some ⟨g,0,none⟩)) (hv:tmps.getD q undef=v) (hu' : tmps.getD r undef=u) (hg:aF w g cs t) (hu:P.underlying ty=some d) (hd:aggB d=true) (hi:(P.info? ty).map (·.size)=some cs.size) :
  (results fn tmps).run P w = .ok (.tuple #[.agg cs,v,u]) w:=by
 have hp' : tmps[p]?.getD undef = .pointer (some ⟨g,0,none⟩):=by simpa using hp
 have hl:=gF (P:=P) hg.rd hu hd (by rw[Array.length_toList];exact hi)
 have hv' : tmps[q]?.getD undef=v:=by simpa using hv
 have hu'' : tmps[r]?.getD undef=u:=by simpa using hu'
 simp[results,h,hp',hv',hu'',asAddr,hl]
theorem dw {P:Program} {fn:Func} {p:Tmp} {ty:TypeId} (h:fn.results=#[.cell p ty]) (tmps:Array Value) (w:World) (g:Nat) (t:TypeId) (cs:Array Value) (d:TypeDesc)
  (hp:tmps.getD p undef = .pointer (some ⟨g,0,none⟩)) (hg:aF w g cs t) (hu:P.underlying ty=some d) (hd:aggB d=true) (hi:(P.info? ty).map (·.size)=some cs.size) :
  (results fn tmps).run P w = .ok (.agg cs) w:=by
 have hp' : tmps[p]?.getD undef = .pointer (some ⟨g,0,none⟩):=by simpa using hp
 have hl:=gF (P:=P) hg.rd hu hd (by rw[Array.length_toList];exact hi)
 simp[results,h,hp',asAddr,hl]
def jV (w:World) (v v' : Value):Prop:=v'.ownBlock=v.ownBlock∨∀g,v'.ownBlock=some g→w.heap.size≤g
theorem jm {P:Program} {w:World} {ops:Array Oper} {rest:List Oper} {o:Oper} {a:Act} {Q:Exit→Act→World→Prop} (hg:o.guard=none) (s x:Operand) (t:TypeId)
  (hop:o.op=Op.call { callee:=Callee.builtin Builtin.append,args:=#[s,x],argTypes:=#[t,t] })
  (B:Nat) (e:TypeId) (z:Value) (size bytes:Nat) (h1:P.underlying t=some (.slice e)) (h2:(P.info? e).map (fun i=>(i.zero,i.size,i.bytes))=some (some z,size,bytes)) (h6:z.cells.size=size) (h7:0<size)
  (v:Value) (n:Nat) (xs:List Value) (hs:a.eval s=v) (hown:Own w B e size v n xs)
  (ao:Option Addr) (m c:Nat) (news:List Value) (hx:a.eval x = .slice ao m c) (hnone:ao=none→c=0) (hmc:m≤c) (hn:news.length=m*size) (hrd:cZ w ao news) (h1c:∀u∈news,u.oneCell' = true)
  (b1:n+m≤maxLen) (b2:(n+m)*bytes≤140737488355328) (hB:B≤w.heap.size)
  (hK:∀v' w',Own w' B e size v' (n+m) (xs++news)→w.grownBy w' v.ownBlock→jV w v v'→wpList P ops Q rest (a.put o.dst v') w') :
  wpList P ops Q (o::rest) a w:=by
 obtain⟨v',w',hrun,k1,k2,k3⟩:=gL (P:=P) (ρ:=a.eval) (o:=o) (w:=w) s x t hop B e z size bytes h1 h2 h6 h7 v n xs hs hown ao m c news hx hnone hmc hn hrd h1c b1 b2 hB
 refine wpList_plain hg fun K hK' => ?_
 unfold Oper.wp
 rw[hrun]
 exact hK' _ _ (hK v' w' k1 k2 k3)
def Apart (v u:Value):Prop:=∀g,v.ownBlock=some g→u.ownBlock≠some g
theorem zx {w:World} {B:Nat} {e:TypeId} {sz:Nat} {v:Value} {n:Nat} {xs:List Value} (h:Own w B e sz v n xs) (g:Nat) (hg:v.ownBlock=some g):g<w.heap.size:=by
 rcases h.2 with ⟨rfl,_⟩|⟨g2,off,cap,cur,rfl,_,hb,_⟩
 ·cases hg
 ·cases hg
  exact hb.lt
theorem aH {P:Program} {w:World} {ops:Array Oper} {rest:List Oper} {op:Oper} {a:Act} {Q:Exit→Act→World→Prop} {cur:Array Value} {T:TypeId} (hgd:op.guard=none) (ty:TypeId) (x y:Operand) (ho:op.op = .store ty x y)
  (cells:Array Value) (hx:a.eval x = .pointer (some ⟨w.heap.size,0,none⟩)) (hy:a.eval y = .agg cells)
  (hfit:cells.size=cur.size) (hi:(P.info? ty).map (·.size)=some cells.size) (h1:cells.all (·.oneCell')=true)
  (h:∀w',Below w.heap.size w w'→aF w' w.heap.size cells T→wpList P ops Q rest (a.put op.dst undef) w'):wpList P ops Q (op::rest) a (w.alloc (.cells cur T)):=by
 refine az hgd ty x y ho w.heap.size cells hx hy cur T (aF.new _ _ _) hfit hi h1 fun w' hb hgr=>h w' ?_ hb
 exact ((Below.refl _ _).alloc (Nat.le_refl _) _).grown hgr (dR _ _) (fun k hk=>by cases hk;exact Nat.le_refl _)
theorem wpList_want {P:Program} {ops:Array Oper} {rest:List Oper} {o:Oper} {a:Act} {w:World} {Q:Exit→Act→World→Prop} (hw:Region.wanted o (yielded ops a.tmps)=true)
  (h:∀K:Act→World→Prop,(∀a w,wpList P ops Q rest a w→K a w)→o.wp P a w K Q):wpList P ops Q (o::rest) a w:=
 wpList_step fun K hK=>by rw[if_pos hw];exact h K hK
theorem ay {P:Program} {ops:Array Oper} {rest:List Oper} {o:Oper} {a:Act} {w:World} {Q:Exit→Act→World→Prop} (ty:TypeId) (x:Operand) (ho:o.op = .load ty x)
  (b off:Nat) (hx:a.eval x = .pointer (some ⟨b,off,none⟩)) (hgd:Region.wanted o (yielded ops a.tmps)=true) (vs:List Value) (hrd:cZ w (some ⟨b,off,none⟩) vs) (d:TypeDesc)
  (hu:P.underlying ty=some d) (hd:aggB d=true) (hi:(P.info? ty).map (·.size)=some vs.length)
  (h:wpList P ops Q rest (a.put o.dst (.agg vs.toArray)) w):wpList P ops Q (o::rest) a w:=
 wpList_want hgd fun K hK=>by
  unfold Oper.wp execOp
  simp only[ho,hx,Instr.loadAt,Instr.sureAddr,Sem.run_bind,Sem.run_pure,Result.andThen_ok,gF hrd hu hd hi]
  exact hK _ _ h
def bZ (o:Oper):Oper:={ o with after:=⟨o.after.toList.filter (Region.binds .any)⟩ }
def bJ (ops:Array Oper):Array Oper:=⟨ops.toList.map bZ⟩
theorem nM (ops:Array Oper):(bJ ops).size=ops.size:=by simp[bJ]
theorem tV (ops:Array Oper) (i:Nat):(bJ ops)[i]?=(ops[i]?).map bZ:=by
 unfold bJ
 simp
theorem uN (ops:Array Oper) (listed:Array Bool):Region.ready .any (bJ ops) listed=Region.ready .any ops listed:=by
 unfold Region.ready
 rw[nM]
 apply List.filter_congr
 intro i _
 congr 1
 rw[tV]
 cases ops[i]? with
 | none=>rfl
 | some o=>
  simp only[Option.map_some,Option.getD_some]
  rw[←Array.all_toList,←Array.all_toList]
  exact filter_all _ _ _
theorem yh (ops:Array Oper) (ts:Array Value):yielded (bJ ops) ts=yielded ops ts:=by
 funext g
 unfold yielded
 rw[tV]
 cases ops[g]?<;>rfl
theorem Cu {P:Program} {ops:Array Oper} {Q:Exit→Act→World→Prop} {i:Nat} {K:Act→World→Prop} {a:Act} {w:World} (h:wpOp P (bJ ops) Q i K a w):wpOp P ops Q i K a w:=by
 unfold wpOp at h ⊢
 rw[tV,yh] at h
 cases ho:ops[i]? with
 | none=>rw[ho] at h;exact h
 | some o=>
  rw[ho] at h
  exact h
theorem pO {P:Program} {ops:Array Oper} {Q:Exit→Act→World→Prop}:∀(fuel:Nat) (listed:Array Bool) (a:Act) (w:World),wpAny P .any (bJ ops) Q fuel listed a w→wpAny P .any ops Q fuel listed a w
 | 0,listed,a,w,h=>by
  unfold wpAny at h ⊢
  rw[uN] at h
  exact h
 | fuel+1,listed,a,w,h=>by
  unfold wpAny at h ⊢
  rw[uN] at h
  exact⟨h.1,fun i hi=>wpOp_mono (fun a w=>pO fuel _ a w) (Cu (h.2 i hi))⟩
structure nV where
 r:(Nat→Value)→World→Prop
 on:List Nat
 st:∀y w w',Below w.heap.size w w'→r y w→r y w'
 dep:∀y y' w,(∀j∈on,y j=y' j)→r y w→r y' w
def Oa (k:Nat) (R:iO):nV:=⟨fun y w=>R.r (y k) w,[k],fun y w w' hb h=>R.st _ _ _ hb h,fun y y' w h h1=>by rw[←h k (List.mem_singleton.2 rfl)];exact h1⟩
def anyY:nV:=⟨fun _ _=>True,[],fun _ _ _ _ _=>trivial,fun _ _ _ _ _=>trivial⟩
def ry (l:List nV) (i:Nat):nV:=l.getD i anyY
def upd (y:Nat→Value) (i:Nat) (v:Value):Nat→Value:=fun k=>if k=i then v else y k
def JV (ops:Array Oper) (m:Nat) (l:List nV):Bool:=
 (List.range m).all fun i=>match ops[i]? with
  | none=>true
  | some o=>(ry l i).on.all fun j=>decide (j=i)||o.after.toList.any (fun e=>e.on==j)
theorem KI {ops:Array Oper} {m:Nat} {l:List nV} (h:JV ops m l=true) {i:Nat} (him:i<m) {o:Oper} (ho:ops[i]?=some o) {j:Nat} (hj:j∈(ry l i).on):j=i∨∃e∈o.after,e.on=j:=by
 have h1:=List.all_eq_true.1 h i (List.mem_range.2 him)
 simp only[ho] at h1
 have h2:=List.all_eq_true.1 h1 j hj
 simp only[Bool.or_eq_true,decide_eq_true_eq,List.any_eq_true,beq_iff_eq] at h2
 rcases h2 with h2|⟨e,he,h3⟩
 ·exact .inl h2
 ·exact .inr ⟨e,Array.mem_toList_iff.1 he,h3⟩
def Nz (ops:Array Oper) (m:Nat) (l:List nV) (B:World→Prop) (a0:Act) (listed:Array Bool) (a:Act) (w:World):Prop:=
 (∀i,m≤i→listed.getD i false=false)∧(∀i o,ops[i]?=some o→listed.getD i false=true→∀e∈o.after,listed.getD e.on false=true) ∧
  ∃y:Nat→Value,a = { a0 with tmps:=lay (fun i=>listed.getD i false) y ops.toList 0 a0.tmps }∧B w∧∀i,i<m→listed.getD i false=true→(ry l i).r y w
def oh (m:Nat) (l:List nV) (B:World→Prop) (i:Nat) (y:Nat→Value) (w:World) (v:Value) (w' : World):Prop:=
 B w'∧(ry l i).r (upd y i v) w'∧∀k,k<m→k≠i→(ry l k).r y w→(ry l k).r y w'
theorem uW {P:Program} {ops:Array Oper} {Q:Exit→Act→World→Prop} {a0:Act} {w0:World} (m:Nat) (l:List nV) (B:World→Prop) (hbst:∀w w',Below w.heap.size w w'→B w→B w') (hok:fE ops=true) (ht:eO ops m=true) (hmn:m≤ops.size) (hon:JV ops m l=true) (hb0:B w0)
  (hstep:∀i o,i<m→ops[i]?=some o→∀y w,B w→(∀j,o.after.toList.any (fun e=>e.on==j)=true→(ry l j).r y w) →
   if Region.wanted o (yielded ops (lay (fun _=>true) y ops.toList 0 a0.tmps))=true then Gives P o { a0 with tmps:=lay (fun _=>true) y ops.toList 0 a0.tmps } w (oh m l B i y w) else oh m l B i y w undef w)
  (hend:∀y w,B w→(∀i,i<m→(ry l i).r y w)→wpList P ops Q (ops.toList.drop m) { a0 with tmps:=lay (fun i=>decide (i<m)) y ops.toList 0 a0.tmps } w) :
  wpAny P .any ops Q ops.size (Array.replicate ops.size false) a0 w0:=by
 have hall:∀(fuel:Nat) (listed:Array Bool) (a:Act) (w:World),listed.size=ops.size→listed.toList.countP (!·)≤fuel→Nz ops m l B a0 listed a w→wpAny P .any ops Q fuel listed a w:=by
  intro fuel
  induction fuel with
  | zero=>
   intro listed a w hsz hc hA
   have hl:∀i,i<ops.size→listed.getD i false=true:=by
    intro i hlt
    have h0:listed.toList.countP (!·)=0:=by omega
    have:=List.countP_eq_zero.1 h0 (listed[i]'(by omega)) (by simp)
    simpa[Array.getD_eq_getD_getElem?,show i<listed.size by omega] using this
   obtain⟨hno,hcl,y,ha,hb,hR⟩:=hA
   have hmn' : m=ops.size:=by
    rcases Nat.lt_or_ge m ops.size with h|h
    ·have h1:=hl m h
     rw[hno m (Nat.le_refl _)] at h1
     cases h1
    ·omega
   refine iF (m:=m) hok ht 0 ops.size listed a w (by omega) (Nat.le_refl _) (by omega) hsz (fun i hi=>by rw[hl i hi];simp[hi]) ?_
   have:=hend y w hb fun i hi=>hR i (by omega) (hl i (by omega))
   rw[ha,gU (fun i=>listed.getD i false) (fun i=>decide (i<m)) y ops.toList 0 a0.tmps (fun k hk=>by
    have hk' : k<ops.size:=by simpa using hk
    simp only[Nat.zero_add]
    rw[hl k hk']
    simp;omega)]
   rw[hmn'] at this ⊢
   exact this
  | succ fuel ih=>
   intro listed a w hsz hc hA
   by_cases hfull:∀i,i<m→listed.getD i false=true
   ·obtain⟨hno,hcl,y,ha,hb,hR⟩:=hA
    have hL:∀i,i<ops.size→listed.getD i false=decide (i<m):=by
     intro i hi
     by_cases him:i<m
     ·rw[hfull i him];simp[him]
     ·rw[hno i (by omega)];simp[him]
    have hcount:ops.size-m≤fuel+1:=by
     have:=xD (k1:=m) hsz hmn hL
     omega
    refine iF (m:=m) hok ht (fuel+1) m listed a w (Nat.le_refl _) hmn hcount hsz hL ?_
    have:=hend y w hb fun i hi=>hR i (by omega) (hfull i hi)
    rw[ha,gU (fun i=>listed.getD i false) (fun i=>decide (i<m)) y ops.toList 0 a0.tmps (fun k hk=>by
     simp only[Nat.zero_add]
     exact hL k (by simpa using hk))]
    exact this
   ·have hready0:Region.ready .any ops listed≠[]:=by
     intro hready
     apply hfull
     intro i
     induction i using Nat.strongRecOn with
     | ind i ih'=>
      intro him
      by_cases hc' : listed.getD i false=true
      ·exact hc'
      ·exfalso
       have hi:i<ops.size:=by omega
       have hmem:i∈Region.ready .any ops listed:=by
        rw[mem_ready]
        refine⟨?_,ops[i],by simp[hi],fun e he _ => ?_⟩
        ·simpa[Array.getD_eq_getD_getElem?,show i<listed.size by omega] using hc'
        ·have:=(dx hok (i:=i) (o:=ops[i]) (by simp[hi])).2.1 e he
         exact ih' e.on this.2 (by omega)
       rw[hready] at hmem
       cases hmem
    refine⟨fun h=>absurd h hready0,fun i hi => ?_⟩
    obtain⟨h1,o,ho,hdeps⟩:=mem_ready.1 hi
    have hlt:i<ops.size:=(Array.getElem?_eq_some_iff.1 ho).1
    obtain⟨hsel,hbinds,_⟩:=dx hok ho
    have hL:∀e∈o.after,listed.getD e.on false=true:=fun e he=>hdeps e he (hbinds e he).1
    have him:i<m:=by
     rcases Nat.lt_or_ge i m with h|h
     ·exact h
     ·exfalso
      apply hfull
      intro j hj
      exact jW ht hA.2.1 ho hL h j (by omega)
    obtain⟨hno,hcl,y,ha,hb,hR⟩:=hA
    have hif:listed.getD i false=false:=by
     simpa[Array.getD_eq_getD_getElem?,show i<listed.size by omega] using h1
    have hnext:∀v w',oh m l B i y w v w'→wpAny P .any ops Q fuel (listed.setIfInBounds i true) (a.put o.dst v) w':=by
     intro v w' hst
     refine ih _ _ _ (by simp[hsz]) ?_ ⟨fun k hk => ?_,fun k o' ho' hk e he => ?_,upd y i v,?_,hst.1,?_⟩
     ·exact wP (by omega) h1 hc
     ·have:=hno k hk
      simp only[Array.getD_eq_getD_getElem?,Array.getElem?_setIfInBounds_ne (show i≠k by omega)] at this ⊢
      exact this
     ·have up:∀q,listed.getD q false=true→(listed.setIfInBounds i true).getD q false=true:=pQ (by omega)
      apply up
      by_cases hki:k=i
      ·subst hki
       rw[ho] at ho'
       cases ho'
       exact hL e he
      ·exact hcl k o' ho' (by simpa[Array.getD_eq_getD_getElem?,Array.getElem?_setIfInBounds_ne (Ne.symm hki)] using hk) e he
     ·rw[ha,sH hok ho hsz v]
      rfl
     ·intro k hk hLk
      by_cases hki:k=i
      ·subst hki;exact hst.2.1
      ·have hkl:listed.getD k false=true:=by
        simpa[Array.getD_eq_getD_getElem?,Array.getElem?_setIfInBounds_ne (Ne.symm hki)] using hLk
       refine (ry l k).dep y (upd y i v) w' (fun j hj => ?_) (hst.2.2 k hk hki (hR k hk hkl))
       have hkk:k<ops.size:=by omega
       have hjl:listed.getD j false=true:=by
        rcases KI hon hk (o:=ops[k]) (by simp[hkk]) hj with rfl|⟨e,he,rfl⟩
        ·exact hkl
        ·exact hcl k ops[k] (by simp[hkk]) hkl e he
       have hji:j≠i:=by
        rintro rfl
        rw[hif] at hjl
        cases hjl
       unfold upd
       rw[if_neg hji]
    have heval:∀t∈o.looksAt ops,a.tmps[t]?=(lay (fun _=>true) y ops.toList 0 a0.tmps)[t]?:=fun t ht=>by
     rw[ha];exact mU hok ho hL t ht
    have hexec:execOp a.eval o=execOp ({ a0 with tmps:=lay (fun _=>true) y ops.toList 0 a0.tmps }:Act).eval o:=by
     refine execOp_congr o hsel fun x hx => ?_
     cases x with
     | tmp t=>
      have:=heval t (List.mem_append_left _ (List.mem_filterMap.2 ⟨.tmp t,by simpa using hx,rfl⟩))
      simp[Act.eval,this]
     | _=>rfl
    have hwant:Region.wanted o (yielded ops a.tmps)=Region.wanted o (yielded ops (lay (fun _=>true) y ops.toList 0 a0.tmps)):=by
     unfold Region.wanted
     cases hg:o.guard with
     | none=>rfl
     | some gw=>
      obtain⟨g,want⟩:=gw
      have:yielded ops a.tmps g=yielded ops (lay (fun _=>true) y ops.toList 0 a0.tmps) g:=by
       unfold yielded
       cases hd:(ops[g]?).bind (·.dst) with
       | none=>rfl
       | some t=>
        have:=heval t (List.mem_append_right _ (by simp[hg,hd]))
        simp[this]
      simp only[this]
    have hs:=hstep i o him ho y w hb (fun j hj=>by
     obtain⟨e,he,hej⟩:=List.any_eq_true.1 hj
     have hej' : e.on=j:=by simpa using hej
     subst hej'
     have he':=Array.mem_toList_iff.1 he
     exact hR e.on (by have:=(hbinds e he').2;omega) (hL e he'))
    by_cases hwt:Region.wanted o (yielded ops (lay (fun _=>true) y ops.toList 0 a0.tmps))=true
    ·rw[if_pos hwt] at hs
     exact je ho (by rw[hwant];exact hwt) hexec hs fun v w' h=>hnext v w' h
    ·rw[if_neg hwt] at hs
     unfold wpOp
     simp only[ho]
     rw[if_neg (by rw[hwant];exact hwt)]
     exact hnext undef w hs
 refine hall ops.size _ _ _ (by simp) ?_ ⟨fun i _ => ?_,fun i o' ho' hi => ?_,fun _=>undef,?_,hb0,?_⟩
 ·simpa using List.countP_le_length (p:=(!·)) (l:=List.replicate ops.size false)
 ·simp[Array.getD_eq_getD_getElem?,Array.getElem?_replicate];split<;>rfl
 ·exfalso
  have:i<ops.size:=(Array.getElem?_eq_some_iff.1 ho').1
  simp[Array.getD_eq_getD_getElem?,this] at hi
 ·have e:lay (fun i=>(Array.replicate ops.size false).getD i false) (fun _=>undef) ops.toList 0 a0.tmps=a0.tmps:=by
   apply Array.ext_getElem?
   intro s
   exact eG _ _ s _ 0 _ fun k o' hk hd=>by simp[Array.getD_eq_getD_getElem?,Array.getElem?_replicate];split<;>rfl
  rw[e]
 ·intro i hi hL
  exfalso
  have:(Array.replicate ops.size false).getD i false=false:=by
   simp[Array.getD_eq_getD_getElem?,Array.getElem?_replicate];split<;>rfl
  rw[this] at hL
  cases hL
def xA (P:Program) (ops:Array Oper) (a0:Act) (m:Nat) (l:List nV) (B:World→Prop) (i:Nat) (o:Oper):Prop:=
 ∀(ρ:Operand→Value) (y:Nat→Value) (w:World),(∀t j,writer ops t=some j→ρ (.tmp t)=y j)→(∀x,(match x with | .tmp t=>writer ops t=none | _=>True)→ρ x=a0.eval x) →
  B w→(∀j,o.after.toList.any (fun e=>e.on==j)=true→(ry l j).r y w) →
  if Region.wanted o (ed ρ ops)=true then cz P o ρ w (oh m l B i y w) else oh m l B i y w undef w
theorem GJ {P:Program} {ops:Array Oper} {Q:Exit→Act→World→Prop} {a0:Act} {w0:World} (m:Nat) (l:List nV) (B:World→Prop) (hbst:∀w w',Below w.heap.size w w'→B w→B w') (hok:fE ops=true) (ht:eO ops m=true) (hmn:m≤ops.size) (hon:JV ops m l=true) (hb0:B w0)
  (n:Nat) (hn:a0.tmps.size=n) (hsz:fU ops n=true)
  (hstep:aP (xA P ops a0 m l B) 0 (ops.toList.take m))
  (hend:∀y w,B w→(∀i,i<m→(ry l i).r y w)→wpList P ops Q (ops.toList.drop m) { a0 with tmps:=lay (fun i=>decide (i<m)) y ops.toList 0 a0.tmps } w) :
  wpAny P .any ops Q ops.size (Array.replicate ops.size false) a0 w0:=by
 refine uW m l B hbst hok ht hmn hon hb0 (fun i o him hi y w hb hd => ?_) hend
 have hwr:∀t j,writer ops t=some j→({ a0 with tmps:=lay (fun _=>true) y ops.toList 0 a0.tmps }:Act).eval (.tmp t)=y j:=by
  intro t j hw
  unfold writer at hw
  have h1:=List.find?_some hw
  have h2:=List.mem_range.1 (List.mem_of_find?_eq_some hw)
  cases ho:ops[j]? with
  | none=>simp[ho] at h1
  | some p=>
   have hd' : p.dst=some t:=by simpa[ho] using h1
   have hlt:t<a0.tmps.size:=by
    have:=List.all_eq_true.1 hsz p (Array.mem_toList_iff.2 (Array.mem_of_getElem? ho))
    rw[hn]
    simpa[hd'] using this
   have hu:∀k' o',ops.toList[k']?=some o'→o'.dst=some t→k' = j:=by
    intro k' o' hk' hdk
    rcases ((dx hok (i:=k') (o:=o') (by simpa using hk')).2.2 j p t ho hd').1 with h|h
    ·exact h
    ·exact absurd hdk h
   have:=iA (fun _=>true) y t ops.toList 0 a0.tmps j p (by simpa using ho) hd' rfl hu hlt
   simp[Act.eval,this]
 have hno:∀x,(match x with | .tmp t=>writer ops t=none | _=>True)→({ a0 with tmps:=lay (fun _=>true) y ops.toList 0 a0.tmps }:Act).eval x=a0.eval x:=by
  intro x hx
  cases x with
  | tmp t=>
   have:(lay (fun _=>true) y ops.toList 0 a0.tmps)[t]?=a0.tmps[t]?:=by
    refine eG _ y t _ 0 _ fun k o' hk hd' => ?_
    exfalso
    simp only[writer] at hx
    have hk' : ops[k]?=some o':=by simpa using hk
    have hklt:k<ops.size:=(Array.getElem?_eq_some_iff.1 hk').1
    have:=List.find?_eq_none.1 hx k (List.mem_range.2 hklt)
    simp[hk',hd'] at this
   simp[Act.eval,this]
  | _=>rfl
 have hsays:Region.wanted o (yielded ops (lay (fun _=>true) y ops.toList 0 a0.tmps))=Region.wanted o (ed ({ a0 with tmps:=lay (fun _=>true) y ops.toList 0 a0.tmps }:Act).eval ops):=by
  congr 1
  funext g
  unfold yielded ed
  cases (ops[g]?).bind (·.dst) with
  | none=>rfl
  | some d=>
   simp only[Option.bind_some,Act.eval,Array.getD_eq_getD_getElem?]
   generalize (lay (fun _=>true) y ops.toList 0 a0.tmps)[d]?=q
   cases q with
   | none=>rfl
   | some v=>cases v<;>rfl
 have hi' : (ops.toList.take m)[i]?=some o:=by rw[List.getElem?_take,if_pos him];simpa using hi
 have:=aP.at hstep i o hi' _ y w hwr hno hb hd
 rw[Nat.zero_add] at this
 rw[hsays]
 exact this
theorem Iq {P:Program} {ops:Array Oper} {Q:Exit→Act→World→Prop} {id:Nat} {a0:Act} {w0:World} (m:Nat) (l:List nV) (B:World→Prop) (hbst:∀w w',Below w.heap.size w w'→B w→B w') (hb0:B w0) (hm:P.follows .mixedOrders=true)
  (ops' : Array Oper) (hs:bJ ops=ops') (hok:fE ops' = true) (ht:eO ops' m=true) (hmn:m≤ops'.size) (hon:JV ops' m l=true)
  (n:Nat) (hn:a0.tmps.size=n) (hsz:fU ops' n=true)
  (hstep:aP (xA P ops' a0 m l B) 0 (ops'.toList.take m))
  (hend:∀y w,B w→(∀i,i<m→(ry l i).r y w)→wpList P ops' Q (ops'.toList.drop m) { a0 with tmps:=lay (fun i=>decide (i<m)) y ops'.toList 0 a0.tmps } w) :
  (Code.region id ops true).wp P Q a0 w0:=by
 refine wp_region_any hm (pO _ _ _ _ ?_)
 subst hs
 have h2:B { w0 with drawn:=w0.drawn+1 }:=hbst w0 _ ⟨rfl,rfl,rfl,Nat.le_refl _,fun _ _=>rfl⟩ hb0
 have:=GJ m l B hbst hok ht hmn hon h2 n hn hsz hstep hend
 rw[nM] at this
 exact this
theorem IR (y:Nat→Value) (i:Nat) (v:Value):upd y i v i=v:=by unfold upd;rw[if_pos rfl]
theorem jS {m:Nat} {l:List nV} {B:World→Prop} (hbst:∀w w',Below w.heap.size w w'→B w→B w') {i:Nat} {y:Nat→Value} {w:World} {v:Value} {w' : World} (hB:B w) (hb:Below w.heap.size w w') (hR:(ry l i).r (upd y i v) w'):oh m l B i y w v w':=
 ⟨hbst _ _ hb hB,hR,fun k _ _ h=>(ry l k).st _ _ _ hb h⟩
theorem mh {P:Program} {ops:Array Oper} {ρ:Operand→Value} {o:Oper} {w:World} {m:Nat} {l:List nV} {B:World→Prop} (hbst:∀w w',Below w.heap.size w w'→B w→B w') {i:Nat} {y:Nat→Value} (hB:B w) (R:iO) (hR:∀v w',R.r v w'→(ry l i).r (upd y i v) w')
  (h:if Region.wanted o (ed ρ ops)=true then cz P o ρ w (fun v w'=>Below w.heap.size w w'∧rl (List.replicate (i+1) R) i v w') else rl (List.replicate (i+1) R) i undef w) :
  if Region.wanted o (ed ρ ops)=true then cz P o ρ w (oh m l B i y w) else oh m l B i y w undef w:=by
 have e:∀v w,rl (List.replicate (i+1) R) i v w=R.r v w:=by
  intro v w
  unfold rl
  rw[List.getD_eq_getElem?_getD,List.getElem?_replicate,if_pos (by omega)]
  rfl
 simp only[e] at h
 by_cases hw:Region.wanted o (ed ρ ops)=true
 ·rw[if_pos hw] at h ⊢
  unfold cz at h ⊢
  generalize (execOp ρ o).run P w=q at h ⊢
  cases q with
  | ok n w'=>
   cases n with
   | value v=>exact jS hbst hB h.1 (hR _ _ h.2)
   | skip=>exact jS hbst hB h.1 (hR _ _ h.2)
   | enter f args=>
    refine Calls.mono h fun e w'' he => ?_
    cases e
    case returned v=>exact jS hbst hB he.1 (hR _ _ he.2)
    all_goals exact he
   | _=>exact h
  | halt x w'=>exact h
 ·rw[if_neg hw] at h ⊢
  exact jS hbst hB (Below.refl _ _) (hR _ _ h)
def mM (B:Nat) (T:TypeId) (n:Nat):iO:=⟨fun v w => ∃g cs,v = .pointer (some ⟨g,0,none⟩)∧B≤g∧aF w g cs T∧cs.size=n,fun _ _ _ hb ⟨g,cs,h1,h2,h3,h4⟩=>⟨g,cs,h1,h2,h3.ext hb,h4⟩⟩
theorem uF {B:Nat} {T T' : TypeId} {n:Nat} {v:Value} {w w' : World} (h:(mM B T n).r v w) {g:Nat} {cs:Array Value} (hg:aF w' g cs T') (hsz:T=T'→cs.size=n) (hold:∃cur,aF w g cur T') (hgr:w.grownBy w' (some g)):(mM B T n).r v w':=by
 obtain⟨g',cs',h1,h2,h3,h4⟩:=h
 by_cases e:g' = g
 ·subst e
  obtain⟨cur,hc⟩:=hold
  have e2:T=T':=by
   unfold aF at h3 hc
   rw[hc] at h3
   simp only[Option.some.injEq,Obj.cells.injEq] at h3
   exact h3.2.1.symm
  subst e2
  exact⟨g',cs,h1,h2,hg,hsz rfl⟩
 ·exact⟨g',cs',h1,h2,h3.grown hgr (fun e2=>e (Option.some.inj e2).symm),h4⟩
theorem wC {P:Program} {ops:Array Oper} {ρ:Operand→Value} {o:Oper} {w:World} {m:Nat} {l:List nV} {B:World→Prop} {i:Nat} {y:Nat→Value} (hw:Region.wanted o (ed ρ ops)=true) (ty:TypeId) (x z:Operand) (ho:o.op = .store ty x z)
  (g off:Nat) (v:Value) (cells:List Value) (hx:ρ x = .pointer (some ⟨g,off,none⟩)) (hz:ρ z=v) (hc:v.cells.toList=cells) (cur:Array Value) (T:TypeId) (hg:aF w g cur T)
  (hfit:off+cells.length≤cur.size) (hi:(P.info? ty).map (·.size)=some cells.length) (h1:∀u∈cells,u.oneCell' = true)
  (h:∀w',aF w' g (bC cur off cells) T→w.grownBy w' (some g)→oh m l B i y w undef w') :
  if Region.wanted o (ed ρ ops)=true then cz P o ρ w (oh m l B i y w) else oh m l B i y w undef w:=by
 rw[if_pos hw]
 have hst:=run_storeCells_cells (P:=P) g off cells 0 w
  (fun j hj=>by rw[Nat.add_zero,hg.cell];simp[show off+j<cur.size by omega]) (fun j hj=>hg.free _) h1
 simp only[Nat.add_zero] at hst
 have hsv:(storeVar ty ⟨g,off,none⟩ v).run P w = .ok () (w.setCells g off cells):=by
  cases hq:P.info? ty with
  | none=>simp[hq] at hi
  | some i=>
   have hs:i.size=cells.length:=by simpa[hq] using hi
   have hv:v.cells.size=cells.length:=by rw[←hc];simp
   simp[storeVar,Go.sizeOf,typeInfo,hq,hs,hv,hc,hst]
 unfold cz execOp
 simp only[ho,hx,hz,Instr.storeAt,Instr.sureAddr,Sem.run_bind,Sem.run_pure,Result.andThen_ok,hsv]
 exact h _ (hg.setCells _ _) (aL _ _ _ _)
inductive Kr where
 | v (V:Value)
 | r (i:Nat) (R:iO)
 | y (i:Nat) (R:nV)
def rvyN:Kr:=.r 0 anyR
def rvyR:List Kr→Nat→List nV
 | [],_=>[]
 | .v V::l,i=>Oa i (nU V)::rvyR l (i+1)
 | .r _ R::l,i=>Oa i R::rvyR l (i+1)
 | .y _ R::l,i=>R::rvyR l (i+1)
def toRV:List Kr→List RV
 | []=>[]
 | .v V::l => .v V::toRV l
 | .r i _::l => .r i anyR::toRV l
 | .y i _::l => .r i anyR::toRV l
theorem rvy_at:∀(l:List Kr) (i k:Nat) {V:Value},l.getD i rvyN = .v V→(rvyR l k).getD i anyY=Oa (k+i) (nU V)∧(toRV l).getD i rvN = .v V
 | [],_,_,_,h=>by cases h
 | a::l,0,k,V,h=>by
  have h' : a = .v V:=h
  subst h'
  exact⟨rfl,rfl⟩
 | a::l,i+1,k,V,h=>by
  have:=rvy_at l i (k+1) (V:=V) (by simpa using h)
  rw[show k+(i+1)=k+1+i by omega]
  cases a<;>exact⟨by simpa[rvyR] using this.1,by simpa[toRV] using this.2⟩
theorem rvy_rl:∀(l:List Kr) (j k:Nat) {y:Nat→Value} {w:World},((rvyR l k).getD j anyY).r y w→rl (rvs (toRV l)) j (y (k+j)) w
 | [],_,_,_,_,_=>by unfold rl toRV rvs;simp[anyR]
 | a::l,0,k,y,w,h=>by
  cases a with
  | v V=>exact h
  | r i R=>exact trivial
  | y i R=>exact trivial
 | a::l,j+1,k,y,w,h=>by
  have h' : ((rvyR l (k+1)).getD j anyY).r y w:=by cases a<;>simpa[rvyR] using h
  have:=rvy_rl l j (k+1) h'
  rw[show k+(j+1)=k+1+j by omega]
  unfold rl at this ⊢
  cases a<;>simpa[toRV,rvs] using this
section
variable {P:Program} {ops:Array Oper} {a0:Act} {m:Nat} {l:List Kr} {B:World→Prop} {i:Nat} {o:Oper} {r:List Oper}
theorem qE (hbst:∀w w',Below w.heap.size w w'→B w→B w') {V:Value} (hv:l.getD i rvyN = .v V)
  (h:∀ρ y w,B w→Kn ops a0 (toRV l) o ρ y w→(Region.wanted o (ed ρ ops)=false∧V=undef)∨(Region.wanted o (ed ρ ops)=true∧(execOp ρ o).run P w = .ok (.value V) w)):xA P ops a0 m (rvyR l 0) B i o:=fun ρ y w hw hn hB hd=>by
 have hk:Kn ops a0 (toRV l) o ρ y w:=⟨hw,hn,fun j hj=>by have:=rvy_rl l j 0 (hd j hj);rwa [Nat.zero_add] at this⟩
 have e:∀w',(ry (rvyR l 0) i).r (upd y i V) w':=fun w'=>by
  unfold ry
  rw[(rvy_at l i 0 hv).1,Nat.zero_add]
  exact IR _ _ _
 rcases h ρ y w hB hk with ⟨h1,h2⟩|⟨h1,h2⟩
 ·rw[if_neg (by rw[h1];exact Bool.false_ne_true),←h2]
  exact jS hbst hB (Below.refl _ _) (e w)
 ·rw[if_pos h1]
  unfold cz
  rw[h2]
  exact jS hbst hB (Below.refl _ _) (e w)
theorem rD.runY {V:Value} (hv:l.getD i rvyN = .v V) (h:rD P ops a0 (toRV l) i o):∀ρ y w,Kn ops a0 (toRV l) o ρ y w→(Region.wanted o (ed ρ ops)=false∧V=undef)∨(Region.wanted o (ed ρ ops)=true∧(execOp ρ o).run P w = .ok (.value V) w):=fun ρ y w hk=>by
 have e:∀v w,rl (rvs (toRV l)) i v w→v=V:=fun v w hr=>by
  unfold rl at hr
  rw[rvs_at,(rvy_at l i 0 hv).2] at hr
  exact hr
 rcases h ρ y w hk with ⟨h1,h2⟩|⟨h1,v,h2,h3⟩
 ·exact .inl ⟨h1,(e _ _ h2).symm⟩
 ·exact .inr ⟨h1,by rw[←e _ _ h3];exact h2⟩
abbrev AY (P:Program) (ops:Array Oper) (a0:Act) (m:Nat) (l:List Kr) (B:World→Prop) (i:Nat) (r:List Oper):Prop:=aP (xA P ops a0 m (rvyR l 0) B) i r
theorem LP (hbst:∀w w',Below w.heap.size w w'→B w→B w') {V:Value} (hv:l.getD i rvyN = .v V) (h:rD P ops a0 (toRV l) i o):xA P ops a0 m (rvyR l 0) B i o:=qE hbst hv fun ρ y w _ hk=>h.runY hv ρ y w hk
theorem Yk (hbst:∀w w',Below w.heap.size w w'→B w→B w') (h:(ks ops a0 (toRV l) o).map Kr.v=some (l.getD i rvyN)) (hl:AY P ops a0 m l B (i+1) r):AY P ops a0 m l B i (o::r):=by
 cases hk:ks ops a0 (toRV l) o with
 | none=>rw[hk] at h;cases h
 | some V=>
  rw[hk] at h
  have hv:=(Option.some.inj h).symm
  exact⟨LP hbst hv (Me hk (rvy_at l i 0 hv).2),hl⟩
theorem Yf (hbst:∀w w',Below w.heap.size w w'→B w→B w') (b k:Nat) {t:TypeId} {v:Value} {f:Nat} (h:Nr ops a0 (toRV l) o=some (t,v,f)) (hv:l.getD i rvyN = .v (.pointer (some ⟨b,k,none⟩))) (hl:AY P ops a0 m l B (i+1) r) (hf:∀w,(Instr.fieldAt t v f).run P w = .ok (.pointer (some ⟨b,k,none⟩)) w:=by intro _;kernel_rfl):AY P ops a0 m l B i (o::r):=
 ⟨(CZ (C:=fun i o=>rD P ops a0 (toRV l) i o) (r:=[]) id b k h (rvy_at l i 0 hv).2 trivial hf).1 |> LP hbst hv,hl⟩
theorem Yr (hbst:∀w w',Below w.heap.size w w'→B w→B w') (V:Value) (h:∀ρ y w,B w→Kn ops a0 (toRV l) o ρ y w→(execOp ρ o).run P w = .ok (.value V) w) (hg:kg ops a0 (toRV l) o=some true) (hv:l.getD i rvyN = .v V) (hl:AY P ops a0 m l B (i+1) r):AY P ops a0 m l B i (o::r):=
 ⟨qE hbst hv fun ρ y w hB hk => .inr ⟨wH hg hk,h ρ y w hB hk⟩,hl⟩
theorem Yc (hbst:∀w w',Below w.heap.size w w'→B w→B w') {b k:Nat} (V:Value) (hc:∀w,B w→w.cell? ⟨b,k,none⟩=some V) {t:TypeId} {x:Operand} (hg:kg ops a0 (toRV l) o=some true) (ho:o.op = .load t x) (hx:kx ops a0 (toRV l) o x=some (.pointer (some ⟨b,k,none⟩))) (hv:l.getD i rvyN = .v V) (hl:AY P ops a0 m l B (i+1) r) (hs:NF P t=true:=by kernel_rfl):AY P ops a0 m l B i (o::r):=
 ⟨qE hbst hv fun ρ y w hB hk => .inr ⟨wH hg hk,run_load ho (aA hx hk) (by
  simp only[Instr.loadAt,Instr.sureAddr,Sem.run_bind,Sem.run_pure,Result.andThen_ok,lJ hs (hc w hB)])⟩,hl⟩
end
theorem toRV_len:∀l:List Kr,(toRV l).length=l.length
 | []=>rfl
 | a::l=>by cases a<;>simp[toRV,toRV_len l]
theorem gK {w0:World}:∀w w',Below w.heap.size w w'→Below w0.heap.size w0 w→Below w0.heap.size w0 w':=fun _ _ h h2=>ae h2 h
theorem lG {P:Program} {ops:Array Oper} {Q:Exit→Act→World→Prop} {id:Nat} {t0:Array Value} {df:List Deferred} {w0:World} (m:Nat) (l:List Kr) (B:World→Prop) (hbst:∀w w',Below w.heap.size w w'→B w→B w') (hb0:B w0)
  (hstep:AY P (bJ ops) ⟨t0,df⟩ m l B 0 ((bJ ops).toList.take m)) {tm:(Nat→Value)→List Value} {rest:List Oper} (hf:∀y,qp y (toRV l) (bJ ops).toList t0.toList=some (tm y)) (hd:wr ((bJ ops).toList.drop m)=some rest)
  (hend:∀y w,B w→(∀i,i<m→(ry (rvyR l 0) i).r y w)→wpList P (bJ ops) Q rest ⟨(tm y).toArray,df⟩ w)
  (hm:P.follows .mixedOrders=true:=by kernel_rfl) (hok:fE (bJ ops)=true:=by kernel_rfl) (ht:eO (bJ ops) m=true:=by kernel_rfl) (hmn:m≤(bJ ops).size:=by decide) (hon:JV (bJ ops) m (rvyR l 0)=true:=by kernel_rfl) (hll:l.length=m:=by rfl) (hix:idxOk (toRV l) 0=true:=by kernel_rfl)
  (hsz:fU (bJ ops) t0.size=true:=by kernel_rfl):(Code.region id ops true).wp P Q ⟨t0,df⟩ w0:=by
 refine Iq m (rvyR l 0) B hbst hb0 hm (bJ ops) rfl hok ht hmn hon _ rfl hsz hstep fun y w hb hR => ?_
 have h:=hend y w hb hR
 rw[Ak hd]
 have e:=nD (m:=m) (y:=y) (w:=w) (toRV l) (bJ ops).toList 0 t0 hix (by rw[toRV_len,hll,Nat.zero_add]) (by rw[toRV_len,hll,Array.length_toList];exact hmn) fun i hi=>by
  have:=rvy_rl l i 0 (hR i (by rw[toRV_len,hll] at hi;exact hi))
  rw[Nat.zero_add] at this ⊢
  exact this
 show wpList P (bJ ops) Q rest ⟨lay (fun i=>decide (i<m)) y (bJ ops).toList 0 t0,df⟩ w
 have e2:=Option.some.inj (e.symm.trans (hf y))
 have e3:lay (fun i=>decide (i<m)) y (bJ ops).toList 0 t0=(tm y).toArray:=by rw[←e2]
 rw[e3]
 exact h
theorem cz.mono {P:Program} {o:Oper} {ρ:Operand→Value} {w:World} {F G:Value→World→Prop} (h:cz P o ρ w F) (hFG:∀v w',F v w'→G v w'):cz P o ρ w G:=by
 unfold cz at h ⊢
 generalize (execOp ρ o).run P w=r at h ⊢
 cases r with
 | ok n w'=>
  cases n with
  | value v=>exact hFG _ _ h
  | skip=>exact hFG _ _ h
  | enter f args=>
   refine Calls.mono h fun e w'' he => ?_
   cases e with
   | returned v=>exact hFG _ _ he
   | panicked c=>exact he.elim
   | outgrown=>exact he.elim
  | _=>exact h.elim
 | halt x w'=>exact h.elim
def NB (ops:Array Oper) (m p q:Nat) (R:Nat→Value→World→Prop) (a0:Act) (w0:World) (listed:Array Bool) (a:Act) (w:World):Prop:=
 (∀i,m≤i→listed.getD i false=false)∧(∀i o,ops[i]?=some o→listed.getD i false=true→∀e∈o.after,listed.getD e.on false=true)∧∃y:Nat→Value,a = { a0 with tmps:=lay (fun i=>listed.getD i false) y ops.toList 0 a0.tmps }∧Below w0.heap.size w0 w∧(∀i,i<ops.size→listed.getD i false=true→R i (y i) w) ∧
  (listed.getD p false=true→listed.getD q false=true→y p≠y q)
def wS (R:Nat→Value→World→Prop) (p q i:Nat) (v:Value) (w:World):Prop:=(i=p→∀u,R q u w→v≠u)∧(i=q→∀u,R p u w→v≠u)
theorem Ad {P:Program} {ops:Array Oper} {Q:Exit→Act→World→Prop} {a0:Act} {w0:World} (m p q:Nat) (hpm:p<m) (hqm:q<m) (hpq:p≠q) (hok:fE ops=true) (ht:eO ops m=true) (hmn:m≤ops.size)
  (R:Nat→Value→World→Prop) (hstab:∀i v w w',Below w.heap.size w w'→R i v w→R i v w')
  (hstep:∀i o,i<m→ops[i]?=some o→∀y w,Below w0.heap.size w0 w→(∀j,o.after.toList.any (fun e=>e.on==j)=true→R j (y j) w) →
   if Region.wanted o (yielded ops (lay (fun _=>true) y ops.toList 0 a0.tmps))=true then Gives P o { a0 with tmps:=lay (fun _=>true) y ops.toList 0 a0.tmps } w (fun v w'=>(Below w.heap.size w w'∧R i v w')∧wS R p q i v w) else R i undef w∧i≠p∧i≠q)
  (hend:∀y w,Below w0.heap.size w0 w→(∀i,i<m→R i (y i) w)→y p≠y q→wpList P ops Q (ops.toList.drop m) { a0 with tmps:=lay (fun i=>decide (i<m)) y ops.toList 0 a0.tmps } w) :
  Below w0.heap.size w0 { w0 with drawn:=w0.drawn+1 }→wpAny P .any ops Q ops.size (Array.replicate ops.size false) a0 { w0 with drawn:=w0.drawn+1 }:=by
 intro hdr
 have hall:∀(fuel:Nat) (listed:Array Bool) (a:Act) (w:World),listed.size=ops.size→listed.toList.countP (!·)≤fuel→NB ops m p q R a0 w0 listed a w→wpAny P .any ops Q fuel listed a w:=by
  intro fuel
  induction fuel with
  | zero=>
   intro listed a w hsz hc hA
   have hl:∀i,i<ops.size→listed.getD i false=true:=by
    intro i hlt
    have h0:listed.toList.countP (!·)=0:=by omega
    have:=List.countP_eq_zero.1 h0 (listed[i]'(by omega)) (by simp)
    simpa[Array.getD_eq_getD_getElem?,show i<listed.size by omega] using this
   obtain⟨hno,hcl,y,ha,hb,hR,hpn⟩:=hA
   have hmn' : m=ops.size:=by
    rcases Nat.lt_or_ge m ops.size with h|h
    ·have h1:=hl m h
     rw[hno m (Nat.le_refl _)] at h1
     cases h1
    ·omega
   refine iF (m:=m) hok ht 0 ops.size listed a w (by omega) (Nat.le_refl _) (by omega) hsz (fun i hi=>by rw[hl i hi];simp[hi]) ?_
   have:=hend y w hb (fun i hi=>hR i (by omega) (hl i (by omega))) (hpn (hl p (by omega)) (hl q (by omega)))
   rw[ha,gU (fun i=>listed.getD i false) (fun i=>decide (i<m)) y ops.toList 0 a0.tmps (fun k hk=>by
    have hk' : k<ops.size:=by simpa using hk
    simp only[Nat.zero_add]
    rw[hl k hk']
    simp;omega)]
   rw[hmn'] at this ⊢
   exact this
  | succ fuel ih=>
   intro listed a w hsz hc hA
   by_cases hfull:∀i,i<m→listed.getD i false=true
   ·obtain⟨hno,hcl,y,ha,hb,hR,hpn⟩:=hA
    have hL:∀i,i<ops.size→listed.getD i false=decide (i<m):=by
     intro i hi
     by_cases him:i<m
     ·rw[hfull i him];simp[him]
     ·rw[hno i (by omega)];simp[him]
    have hcount:ops.size-m≤fuel+1:=by
     have h1:listed.toList.countP (!·)=ops.size-m:=by
      have e:listed.toList=List.replicate m true++List.replicate (ops.size-m) false:=by
       apply List.ext_getElem?
       intro i
       by_cases hi:i<ops.size
       ·have h2:=hL i hi
        rw[Array.getElem?_toList,Array.getElem?_eq_getElem (show i<listed.size by omega)]
        simp only[Array.getD_eq_getD_getElem?,Array.getElem?_eq_getElem (show i<listed.size by omega),Option.getD_some] at h2
        rw[h2]
        by_cases him:i<m
        ·rw[List.getElem?_append_left (by simpa using him)]
         simp[him]
        ·rw[List.getElem?_append_right (by simp;omega)]
         rw[List.length_replicate,List.getElem?_replicate,if_pos (by omega)]
         simp[him]
       ·rw[List.getElem?_eq_none (by simp;omega),List.getElem?_eq_none (by simp;omega)]
      rw[e]
      simp[List.countP_append,List.countP_replicate]
     omega
    refine iF (m:=m) hok ht (fuel+1) m listed a w (Nat.le_refl _) hmn hcount hsz hL ?_
    have:=hend y w hb (fun i hi=>hR i (by omega) (hfull i hi)) (hpn (hfull p hpm) (hfull q hqm))
    rw[ha,gU (fun i=>listed.getD i false) (fun i=>decide (i<m)) y ops.toList 0 a0.tmps (fun k hk=>by
     simp only[Nat.zero_add]
     exact hL k (by simpa using hk))]
    exact this
   ·have hready0:Region.ready .any ops listed≠[]:=by
     intro hready
     apply hfull
     intro i
     induction i using Nat.strongRecOn with
     | ind i ih'=>
      intro him
      by_cases hc' : listed.getD i false=true
      ·exact hc'
      ·exfalso
       have hi:i<ops.size:=by omega
       have hmem:i∈Region.ready .any ops listed:=by
        rw[mem_ready]
        refine⟨?_,ops[i],by simp[hi],fun e he _ => ?_⟩
        ·simpa[Array.getD_eq_getD_getElem?,show i<listed.size by omega] using hc'
        ·have:=(dx hok (i:=i) (o:=ops[i]) (by simp[hi])).2.1 e he
         exact ih' e.on this.2 (by omega)
       rw[hready] at hmem
       cases hmem
    refine⟨fun h=>absurd h hready0,fun i hi => ?_⟩
    obtain⟨h1,o,ho,hdeps⟩:=mem_ready.1 hi
    have hlt:i<ops.size:=(Array.getElem?_eq_some_iff.1 ho).1
    obtain⟨hsel,hbinds,_⟩:=dx hok ho
    have hL:∀e∈o.after,listed.getD e.on false=true:=fun e he=>hdeps e he (hbinds e he).1
    have him:i<m:=by
     rcases Nat.lt_or_ge i m with h|h
     ·exact h
     ·exfalso
      apply hfull
      intro j hj
      exact jW ht hA.2.1 ho hL h j (by omega)
    obtain⟨hno,hcl,y,ha,hb,hR,hpn⟩:=hA
    have hnext:∀v w',Below w.heap.size w w'→R i v w'→wS R p q i v w→wpAny P .any ops Q fuel (listed.setIfInBounds i true) (a.put o.dst v) w':=by
     intro v w' hbw hv hnv
     refine ih _ _ _ (by simp[hsz]) ?_ ⟨fun k hk => ?_,fun k o' ho' hk e he => ?_,fun k=>if k=i then v else y k,?_,hb.trans (hbw.mono hb.size),?_,?_⟩
     ·have hil:i<listed.toList.length:=by simp;omega
      have hfalse:listed.toList[i]=false:=by
       simpa[Array.getD_eq_getD_getElem?,show i<listed.size by omega] using h1
      have:=List.countP_set (p:=(!·)) (l:=listed.toList) (i:=i) (a:=true) hil
      rw[hfalse] at this
      have hpos:0<listed.toList.countP (!·):=List.countP_pos_iff.2 ⟨listed.toList[i],List.getElem_mem hil,by rw[hfalse];rfl⟩
      simp only[Array.toList_setIfInBounds]
      simp only[Bool.not_false,Bool.not_true,if_true,Bool.false_eq_true,if_false] at this
      omega
     ·have:=hno k hk
      simp only[Array.getD_eq_getD_getElem?,Array.getElem?_setIfInBounds_ne (show i≠k by omega)] at this ⊢
      exact this
     ·have up:∀q,listed.getD q false=true→(listed.setIfInBounds i true).getD q false=true:=by
       intro q hq
       by_cases hqi:q=i
       ·subst hqi;simp[Array.getD_eq_getD_getElem?,show q<listed.size by omega]
       ·simpa[Array.getD_eq_getD_getElem?,Array.getElem?_setIfInBounds_ne (Ne.symm hqi)] using hq
      apply up
      by_cases hki:k=i
      ·subst hki
       rw[ho] at ho'
       cases ho'
       exact hL e he
      ·exact hcl k o' ho' (by simpa[Array.getD_eq_getD_getElem?,Array.getElem?_setIfInBounds_ne (Ne.symm hki)] using hk) e he
     ·rw[ha,sH hok ho hsz v]
     ·intro k hk hLk
      by_cases hki:k=i
      ·subst hki;simpa using hv
      ·have:listed.getD k false=true:=by
        simpa[Array.getD_eq_getD_getElem?,Array.getElem?_setIfInBounds_ne (Ne.symm hki)] using hLk
       simp only[hki,if_false]
       exact hstab _ _ _ _ hbw (hR k hk this)
     ·intro hp' hq'
      have back:∀k,k≠i→(listed.setIfInBounds i true).getD k false=true→listed.getD k false=true:=fun k hk h=>by
       simpa[Array.getD_eq_getD_getElem?,Array.getElem?_setIfInBounds_ne (Ne.symm hk)] using h
      by_cases hip:i=p
      ·have hqi:q≠i:=fun e=>hpq (by rw[←hip,e])
       simp only[hip,if_true]
       rw[if_neg (fun e=>hpq e.symm)]
       exact hnv.1 hip _ (hR q (by omega) (back q hqi hq'))
      ·by_cases hiq:i=q
       ·have hpi:p≠i:=fun e=>hip e.symm
        simp only[hiq,if_true]
        rw[if_neg hpq]
        exact fun e=>hnv.2 hiq _ (hR p (by omega) (back p hpi hp')) e.symm
       ·show (if p=i then v else y p)≠(if q=i then v else y q)
        rw[if_neg (fun e=>hip e.symm),if_neg (fun e=>hiq e.symm)]
        exact hpn (back p (fun e=>hip e.symm) hp') (back q (fun e=>hiq e.symm) hq')
    have heval:∀t∈o.looksAt ops,a.tmps[t]?=(lay (fun _=>true) y ops.toList 0 a0.tmps)[t]?:=fun t ht=>by
     rw[ha];exact mU hok ho hL t ht
    have hexec:execOp a.eval o=execOp ({ a0 with tmps:=lay (fun _=>true) y ops.toList 0 a0.tmps }:Act).eval o:=by
     refine execOp_congr o hsel fun x hx => ?_
     cases x with
     | tmp t=>
      have:=heval t (List.mem_append_left _ (List.mem_filterMap.2 ⟨.tmp t,by simpa using hx,rfl⟩))
      simp[Act.eval,this]
     | _=>rfl
    have hwant:Region.wanted o (yielded ops a.tmps)=Region.wanted o (yielded ops (lay (fun _=>true) y ops.toList 0 a0.tmps)):=by
     unfold Region.wanted
     cases hg:o.guard with
     | none=>rfl
     | some gw=>
      obtain⟨g,want⟩:=gw
      have:yielded ops a.tmps g=yielded ops (lay (fun _=>true) y ops.toList 0 a0.tmps) g:=by
       unfold yielded
       cases hd:(ops[g]?).bind (·.dst) with
       | none=>rfl
       | some t=>
        have:=heval t (List.mem_append_right _ (by simp[hg,hd]))
        simp[this]
      simp only[this]
    have hs:=hstep i o him ho y w hb (fun j hj=>by
     obtain⟨e,he,hej⟩:=List.any_eq_true.1 hj
     have hej' : e.on=j:=by simpa using hej
     subst hej'
     have he':=Array.mem_toList_iff.1 he
     exact hR e.on (by have:=(hbinds e he').2;omega) (hL e he'))
    by_cases hwt:Region.wanted o (yielded ops (lay (fun _=>true) y ops.toList 0 a0.tmps))=true
    ·rw[if_pos hwt] at hs
     exact je ho (by rw[hwant];exact hwt) hexec hs fun v w' h=>hnext v w' h.1.1 h.1.2 h.2
    ·rw[if_neg hwt] at hs
     unfold wpOp
     simp only[ho]
     rw[if_neg (by rw[hwant];exact hwt)]
     exact hnext undef w (Below.refl _ _) hs.1 ⟨fun e=>absurd e hs.2.1,fun e=>absurd e hs.2.2⟩
 refine hall ops.size _ _ _ (by simp) ?_ ⟨fun i _ => ?_,fun i o' ho' hi => ?_,fun _=>undef,?_,hdr,?_,?_⟩
 ·simpa using List.countP_le_length (p:=(!·)) (l:=List.replicate ops.size false)
 ·simp[Array.getD_eq_getD_getElem?,Array.getElem?_replicate];split<;>rfl
 ·exfalso
  have:i<ops.size:=(Array.getElem?_eq_some_iff.1 ho').1
  simp[Array.getD_eq_getD_getElem?,this] at hi
 ·have e:lay (fun i=>(Array.replicate ops.size false).getD i false) (fun _=>undef) ops.toList 0 a0.tmps=a0.tmps:=by
   apply Array.ext_getElem?
   intro s
   exact eG _ _ s _ 0 _ fun k o' hk hd=>by simp[Array.getD_eq_getD_getElem?,Array.getElem?_replicate];split<;>rfl
  rw[e]
 ·intro i hi hL
  simp[Array.getD_eq_getD_getElem?,hi] at hL
 ·intro hp' _
  simp[Array.getD_eq_getD_getElem?,show p<ops.size by omega] at hp'
def Iz (P:Program) (ops:Array Oper) (a0:Act) (w0:World) (l:List iO) (p q i:Nat) (o:Oper):Prop:=
 ∀(ρ:Operand→Value) (y:Nat→Value) (w:World),(∀t j,writer ops t=some j→ρ (.tmp t)=y j)→(∀x,(match x with | .tmp t=>writer ops t=none | _=>True)→ρ x=a0.eval x) →
  Below w0.heap.size w0 w→(∀j,o.after.toList.any (fun e=>e.on==j)=true→rl l j (y j) w) →
  if Region.wanted o (ed ρ ops)=true then cz P o ρ w (fun v w'=>(Below w.heap.size w w'∧rl l i v w')∧wS (rl l) p q i v w) else rl l i undef w∧i≠p∧i≠q
theorem ni {P:Program} {ops:Array Oper} {a0:Act} {w0:World} {l:List iO} {p q i:Nat} {o:Oper} (hp:i≠p) (hq:i≠q) (h:jC P ops a0 w0 l i o):Iz P ops a0 w0 l p q i o:=by
 intro ρ y w h1 h2 h3 h4
 have:=h ρ y w h1 h2 h3 h4
 split at this
 ·rename_i hw
  rw[if_pos hw]
  exact cz.mono this fun v w' hv=>⟨hv,fun e=>absurd e hp,fun e=>absurd e hq⟩
 ·rename_i hw
  rw[if_neg hw]
  exact⟨this,hp,hq⟩
theorem Jd {P:Program} {ops:Array Oper} {Q:Exit→Act→World→Prop} {id:Nat} {a0:Act} {w0:World} (m p q:Nat) (l:List iO) (hm:P.follows .mixedOrders=true) (hpm:p<m) (hqm:q<m) (hpq:p≠q)
  (ops' : Array Oper) (hs:bJ ops=ops') (hok:fE ops' = true) (ht:eO ops' m=true) (hmn:m≤ops'.size)
  (n:Nat) (hn:a0.tmps.size=n) (hsz:fU ops' n=true)
  (hstep:aP (Iz P ops' a0 w0 l p q) 0 (ops'.toList.take m))
  (hend:∀y w,Below w0.heap.size w0 w→(∀i,i<m→rl l i (y i) w)→y p≠y q→wpList P ops' Q (ops'.toList.drop m) { a0 with tmps:=lay (fun i=>decide (i<m)) y ops'.toList 0 a0.tmps } w) :
  (Code.region id ops true).wp P Q a0 w0:=by
 refine wp_region_any hm (pO _ _ _ _ ?_)
 subst hs
 have:=Ad m p q hpm hqm hpq hok ht hmn (rl l) (fun i v w w' hb h=>(l.getD i anyR).st v w w' hb h) (P:=P) (Q:=Q) (a0:=a0) (w0:=w0) (fun i o him hi y w hb hd => ?_) hend ⟨rfl,rfl,rfl,Nat.le_refl _,fun _ _=>rfl⟩
 ·rw[nM] at this
  exact this
 ·have hwr:∀t j,writer (bJ ops) t=some j→({ a0 with tmps:=lay (fun _=>true) y (bJ ops).toList 0 a0.tmps }:Act).eval (.tmp t)=y j:=by
   intro t j hw
   unfold writer at hw
   have h1:=List.find?_some hw
   have h2:=List.mem_range.1 (List.mem_of_find?_eq_some hw)
   cases ho:(bJ ops)[j]? with
   | none=>simp[ho] at h1
   | some p=>
    have hd' : p.dst=some t:=by simpa[ho] using h1
    have hlt:t<a0.tmps.size:=by
     have:=List.all_eq_true.1 hsz p (Array.mem_toList_iff.2 (Array.mem_of_getElem? ho))
     rw[hn]
     simpa[hd'] using this
    have hu:∀k' o',(bJ ops).toList[k']?=some o'→o'.dst=some t→k' = j:=by
     intro k' o' hk' hdk
     rcases ((dx hok (i:=k') (o:=o') (by simpa using hk')).2.2 j p t ho hd').1 with h|h
     ·exact h
     ·exact absurd hdk h
    have:=iA (fun _=>true) y t (bJ ops).toList 0 a0.tmps j p (by simpa using ho) hd' rfl hu hlt
    simp[Act.eval,this]
  have hno:∀x,(match x with | .tmp t=>writer (bJ ops) t=none | _=>True)→({ a0 with tmps:=lay (fun _=>true) y (bJ ops).toList 0 a0.tmps }:Act).eval x=a0.eval x:=by
   intro x hx
   cases x with
   | tmp t=>
    have:(lay (fun _=>true) y (bJ ops).toList 0 a0.tmps)[t]?=a0.tmps[t]?:=by
     refine eG _ y t _ 0 _ fun k o' hk hd' => ?_
     exfalso
     simp only[writer] at hx
     have hk' : (bJ ops)[k]?=some o':=by simpa using hk
     have hklt:k<(bJ ops).size:=(Array.getElem?_eq_some_iff.1 hk').1
     have:=List.find?_eq_none.1 hx k (List.mem_range.2 hklt)
     simp[hk',hd'] at this
    simp[Act.eval,this]
   | _=>rfl
  have hsays:Region.wanted o (yielded (bJ ops) (lay (fun _=>true) y (bJ ops).toList 0 a0.tmps))=Region.wanted o (ed ({ a0 with tmps:=lay (fun _=>true) y (bJ ops).toList 0 a0.tmps }:Act).eval (bJ ops)):=by
   congr 1
   funext g
   unfold yielded ed
   cases ((bJ ops)[g]?).bind (·.dst) with
   | none=>rfl
   | some d=>
    simp only[Option.bind_some,Act.eval,Array.getD_eq_getD_getElem?]
    generalize (lay (fun _=>true) y (bJ ops).toList 0 a0.tmps)[d]?=q
    cases q with
    | none=>rfl
    | some v=>cases v<;>rfl
  have hi' : ((bJ ops).toList.take m)[i]?=some o:=by rw[List.getElem?_take,if_pos him];simpa using hi
  have:=aP.at hstep i o hi' _ y w hwr hno hb hd
  rw[Nat.zero_add] at this
  rw[hsays]
  exact this
theorem BK {l:List iO} {p q i:Nat} {w:World} (hp:∀u,rl l q u w→∃g cs T,u = .pointer (some ⟨g,0,none⟩)∧aF w g cs T) (hq:∀u,rl l p u w→∃g cs T,u = .pointer (some ⟨g,0,none⟩)∧aF w g cs T):wS (rl l) p q i (.pointer (some ⟨w.heap.size,0,none⟩)) w:=by
 refine⟨fun _ u hu e => ?_,fun _ u hu e => ?_⟩
 ·obtain⟨g,cs,T,rfl,hb⟩:=hp u hu
  have:=hb.lt
  injection e with e;have e:=Option.some.inj e;injection e with e1;omega
 ·obtain⟨g,cs,T,rfl,hb⟩:=hq u hu
  have:=hb.lt
  injection e with e;have e:=Option.some.inj e;injection e with e1;omega
end Pw
namespace Go.Proofs.YtjkkoeijlhfneaaGreat
open Go.RowKit Pw
theorem int_info:(Tryz.prog.info? 3).map (fun i=>(i.zero,i.size,i.bytes))=some (some (.int .i64 0),1,8):=by kernel_rfl
theorem int_size:(Tryz.prog.info? 3).map (·.size)=some 1:=by kernel_rfl
theorem Bf (l:List Int):(l.map dL).length=l.length*1:=by simp
theorem Ba (l:List Int):∀u∈l.map dL,u.oneCell' = true:=by
 intro u hu
 obtain⟨_,_,rfl⟩:=List.mem_map.1 hu
 rfl
theorem Ms (l:List Int) (k:Nat) (h:k<l.length):(l.map dL)[k]?=some (.int .i64 l[k]):=by simp[h,dL]
theorem fZ {w:World} {a:Option Addr} {l:List Int} (h:cZ w a (l.map dL)) (k:Nat) (hk:k<l.length):∃b off,a=some ⟨b,off,none⟩∧w.cell? ⟨b,off+k,none⟩=some (.int .i64 l[k]):=by
 obtain⟨b,off,ha,hc⟩:=h.at (by simp;omega)
 exact⟨b,off,ha,hc _ _ (Ms l k hk)⟩
open Go.Maps
theorem int_key:Keyed Tryz.prog 3:=int_keyed Tryz.underlying3
theorem CR (w:World):(zeroValue 4).run Tryz.prog w = .ok (.bool false) w:=by kernel_rfl
theorem qW {H:Type} {v:Value} {x:Bool} {ps:List MemPlace} (h:plainElem (H:=H) Tryz.prog 4 v=some (.lit (.bool x),ps)):v = .bool x:=by
 unfold plainElem at h
 rw[Tryz.underlying4] at h
 split at h<;>simp_all
def jL (w:World) (b n:Nat) (f:Int→Bool):Prop:=∃D:DataW Unit,w.ownsMap Tryz.prog 3 (plainElem Tryz.prog 4) b n D∧Mk D f
theorem jL.made (w:World):jL (w.alloc (.map #[] 0)) w.heap.size 0 (fun _=>false):=⟨_,World.ownsMap_made (H:=Unit) w Tryz.prog 3 (plainElem Tryz.prog 4),Mk.empty⟩
theorem jL.below {w w' : World} {b n:Nat} {f:Int→Bool} (h:jL w b n f) (hb:Below w.heap.size w w'):jL w' b n f:=by
 obtain⟨D,h1,h2⟩:=h
 exact⟨D,CB h1 hb,h2⟩
theorem jL.look {w:World} {b n:Nat} {f:Int→Bool} (h:jL w b n f) (j:Int) (hj : -9223372036854775808≤j∧j≤9223372036854775807):(Instr.lookup 203 (.map (some b)) (.int .i64 j) false).run Tryz.prog w = .ok (.bool (f j)) w:=by
 obtain⟨D,h0,hf⟩:=h
 obtain⟨v,ps,h1,h2⟩:=h0.lookup int_key Tryz.underlying203 (CR w) (plainElem_bool Tryz.underlying4 false) (keyOf_int_mk Tryz.underlying3 (a:=j) (WalkArith.wf_i64 hj))
 rw[hf.at_ j] at h2
 rw[qW h2] at h1
 exact h1
theorem nZ {ops:Array Oper} {rest:List Oper} {o:Oper} {a:Act} {w:World} {Q:Exit→Act→World→Prop} {b n:Nat} {f:Int→Bool} (hown:jL w b n f) (hn:n<1000000000) (hg:o.guard=none) (m x v:Operand) (hop:o.op=Op.mapUpdate 203 m x v)
  (hm:a.eval m = .map (some b)) (j:Int) (hx:a.eval x = .int .i64 j) (hv:a.eval v = .bool true) (hj : -9223372036854775808≤j∧j≤9223372036854775807)
  (hK:∀w',jL w' b (n+1) (fun i=>f i||decide (i=j))→w.grownBy w' (some b)→wpList Tryz.prog ops Q rest (a.put o.dst undef) w'):wpList Tryz.prog ops Q (o::rest) a w:=by
 obtain⟨D,h0,hf⟩:=hown
 exact wpList_mapUpdate_own _ hg m x v 203 hop 3 4 int_key Tryz.underlying203 _ b n D hm h0 (by unfold maxLen;omega) _ _ _ hx hv (keyOf_int_mk Tryz.underlying3 (WalkArith.wf_i64 hj)) _ [] (plainElem_bool Tryz.underlying4 true) fun w' h1 h2=>hK w' ⟨_,h1,hf.put j⟩ h2
theorem jL.rdv {w w' : World} {b n:Nat} {f:Int→Bool} (h:jL w b n f) {a:Option Addr} {vs:List Value} (hr:cZ w a vs) (hg:w.grownBy w' (some b)):cZ w' a vs:=by
 intro i u hi
 obtain⟨b',off,ha,hc⟩:=hr i u hi
 refine⟨b',off,ha,hg.cell hc ?_⟩
 intro e
 cases e
 obtain⟨D,⟨es,clock,hb,_⟩,_⟩:=h
 simp[World.cell?,hb] at hc
theorem Od {w:World} (m:World→Prop) (h:∀W,Below w.heap.size w W→jL W w.heap.size 0 (fun _=>false)→m W):m (w.alloc (.map #[] 0)):=
 h _ ((Below.refl _ _).alloc (Nat.le_refl _) _) (jL.made w)
theorem byte_info:(Tryz.prog.info? 5).map (fun i=>(i.zero,i.size,i.bytes))=some (some (.int .u8 0),1,1):=by kernel_rfl
theorem ym (n:Int) (w:World) (h:n≤9223372036854775807) :
  Calls Tryz.prog 133 #[.int .i64 n] w fun e w'=>e = .returned (.int .i64 (dA n))∧w=w':=by
 by_cases h0:n≤0
 ·go_enter Tryz.func133,Tryz.ntmps133
  go_wp2
  go_ret
  exact⟨by simp[dA,h0],rfl⟩
 ·go_enter Tryz.func133,Tryz.ntmps133
  go_wp2
  go_ret
  exact⟨aS (by unfold dA;rw[if_neg (by omega)]),rfl⟩
theorem qU (n:Int) (w:World) (h:n≤9223372036854775807) :
  Calls Tryz.prog 31 #[.int .i64 n] w fun e w'=>e = .returned (.int .i64 (dA n))∧w=w':=by
 by_cases h0:n≤0
 ·go_enter Tryz.func31,Tryz.ntmps31
  go_wp2
  go_ret
  exact⟨by simp[dA,h0],rfl⟩
 ·go_enter Tryz.func31,Tryz.ntmps31
  go_wp2
  all_goals
   go_ret
   exact⟨aS (by unfold dA;rw[if_neg (by omega)];omega),rfl⟩
theorem byte_size:(Tryz.prog.info? 5).map (·.size)=some 1:=by kernel_rfl
def vJ (p:Page):List Value:=(dW p).toList
def Ai (q:Int × Page):Array Value:=#[.int .i64 q.1,.int .u8 q.2[0].toNat,.int .u8 q.2[1].toNat,.int .u8 q.2[2].toNat,.int .u8 q.2[3].toNat,.int .u8 q.2[4].toNat,.int .u8 q.2[5].toNat,.int .u8 q.2[6].toNat,.int .u8 q.2[7].toNat]
def uK (q:Int × Page):List Value:=(Ai q).toList
theorem jF (p:Page):(vJ p).length=8:=rfl
theorem sG (q:Int × Page):(uK q).length=9:=rfl
theorem page_info:(Tryz.prog.info? 79).map (fun i=>(i.zero,i.size,i.bytes))=some (some (.agg #[.int .u8 0,.int .u8 0,.int .u8 0,.int .u8 0,.int .u8 0,.int .u8 0,.int .u8 0,.int .u8 0]),8,8):=by kernel_rfl
theorem put_info:(Tryz.prog.info? 86).map (fun i=>(i.zero,i.size,i.bytes))=some (some (.agg #[.int .i64 0,.int .u8 0,.int .u8 0,.int .u8 0,.int .u8 0,.int .u8 0,.int .u8 0,.int .u8 0,.int .u8 0]),9,16):=by kernel_rfl
theorem GM (l:List Page):(l.flatMap vJ).length=l.length*8:=Pw.flat_len _ _ jF l
theorem JN (l:List (Int × Page)):(l.flatMap uK).length=l.length*9:=Pw.flat_len _ _ sG l
theorem FZ (l:List Page):∀u∈l.flatMap vJ,u.oneCell' = true:=by
 intro u hu
 obtain⟨p,_,hp⟩:=List.mem_flatMap.1 hu
 simp only[vJ,dW,List.mem_cons,List.not_mem_nil,or_false] at hp
 rcases hp with rfl|rfl|rfl|rfl|rfl|rfl|rfl|rfl<;>rfl
theorem Hl (l:List (Int × Page)):∀u∈l.flatMap uK,u.oneCell' = true:=by
 intro u hu
 obtain⟨p,_,hp⟩:=List.mem_flatMap.1 hu
 simp only[uK,Ai,List.mem_cons,List.not_mem_nil,or_false] at hp
 rcases hp with rfl|rfl|rfl|rfl|rfl|rfl|rfl|rfl|rfl<;>rfl
theorem AQ (l:List Page) (a:Option Addr) (c:Nat) (w:World) (hle:l.length≤c) (hnil:a=none→c=0) (hrd:cZ w a (l.flatMap vJ)) (hb:l.length*8≤140737488355328) :
  Calls Tryz.prog 115 #[.slice a l.length c] w fun e w' => ∃v,e = .returned v∧Own w' w.heap.size 79 8 v l.length (l.flatMap vJ)∧Below w.heap.size w w':=by
 cases a with
 | none=>
  have h0:=hnil rfl
  have hl:l=[]:=List.eq_nil_of_length_eq_zero (by omega)
  subst hl
  subst h0
  have hq:=fun W=>Lib.run_eql_slice_nil (P:=Tryz.prog) W 31 _ none 0 0 0 0 Tryz.underlying31
  go_enter Tryz.func115,Tryz.ntmps115
  go_wp2
  go_ret
  exact⟨_,rfl,by simpa using Own.nil _ _ _ _,Below.refl _ _⟩
 | some ad=>
  have hq:=fun W=>Lib.run_eql_slice_nil (P:=Tryz.prog) W 31 _ (some ad) l.length c 0 0 Tryz.underlying31
  go_enter Tryz.func115,Tryz.ntmps115
  go_wp2_with (at_builtin;go_must (refine eu rfl _ _ 31 rfl w.heap.size 79 (.agg #[.int .u8 0,.int .u8 0,.int .u8 0,.int .u8 0,.int .u8 0,.int .u8 0,.int .u8 0,.int .u8 0]) 8 8 Tryz.underlying31 page_info rfl (by decide) _ 0 [] rfl ?own (some ad) l.length c (l.flatMap vJ) rfl (fun h=>(by cases h)) hle (GM l) ?rd (FZ l) (by unfold maxLen;omega) (by simpa using hb) ?bb ?k))
  case own=>exact⟨rfl,.inr ⟨w.heap.size,0,0,#[],rfl,Nat.le_refl _,aF.new _ _ _,Nat.le_refl _,Nat.zero_le _,by simp,fun j u h=>by simp at h⟩⟩
  case rd=>exact hrd.below ((Below.refl _ _).alloc (Nat.le_refl _) _)
  case bb=>exact dR _ _
  intro v w1 hown hgr
  go_wp2
  go_ret
  exact⟨v,rfl,by simpa using hown,((Below.refl _ _).alloc (Nat.le_refl _) _).grown hgr (dR _ _) (fun k hk=>by cases hk;exact Nat.le_refl _)⟩
theorem DI (l:List (Int × Page)) (a:Option Addr) (c:Nat) (w:World) (hle:l.length≤c) (hnil:a=none→c=0) (hrd:cZ w a (l.flatMap uK)) (hb:l.length*16≤140737488355328) :
  Calls Tryz.prog 116 #[.slice a l.length c] w fun e w' => ∃v,e = .returned v∧Own w' w.heap.size 86 9 v l.length (l.flatMap uK)∧Below w.heap.size w w':=by
 cases a with
 | none=>
  have h0:=hnil rfl
  have hl:l=[]:=List.eq_nil_of_length_eq_zero (by omega)
  subst hl
  subst h0
  have hq:=fun W=>Lib.run_eql_slice_nil (P:=Tryz.prog) W 32 _ none 0 0 0 0 Tryz.underlying32
  go_enter Tryz.func116,Tryz.ntmps116
  go_wp2
  go_ret
  exact⟨_,rfl,by simpa using Own.nil _ _ _ _,Below.refl _ _⟩
 | some ad=>
  have hq:=fun W=>Lib.run_eql_slice_nil (P:=Tryz.prog) W 32 _ (some ad) l.length c 0 0 Tryz.underlying32
  go_enter Tryz.func116,Tryz.ntmps116
  go_wp2_with (at_builtin;go_must (refine eu rfl _ _ 32 rfl w.heap.size 86 (.agg #[.int .i64 0,.int .u8 0,.int .u8 0,.int .u8 0,.int .u8 0,.int .u8 0,.int .u8 0,.int .u8 0,.int .u8 0]) 9 16 Tryz.underlying32 put_info rfl (by decide) _ 0 [] rfl ?own (some ad) l.length c (l.flatMap uK) rfl (fun h=>(by cases h)) hle (JN l) ?rd (Hl l) (by unfold maxLen;omega) (by simpa using hb) ?bb ?k))
  case own=>exact⟨rfl,.inr ⟨w.heap.size,0,0,#[],rfl,Nat.le_refl _,aF.new _ _ _,Nat.le_refl _,Nat.zero_le _,by simp,fun j u h=>by simp at h⟩⟩
  case rd=>exact hrd.below ((Below.refl _ _).alloc (Nat.le_refl _) _)
  case bb=>exact dR _ _
  intro v w1 hown hgr
  go_wp2
  go_ret
  exact⟨v,rfl,by simpa using hown,((Below.refl _ _).alloc (Nat.le_refl _) _).grown hgr (dR _ _) (fun k hk=>by cases hk;exact Nat.le_refl _)⟩
structure GY (w:World) (ab:Option Addr) (cb:Nat) (aq:Option Addr) (cq:Nat) (d:pR):Prop where
 lb:d.blocks.length≤cb
 lq:d.queue.length≤cq
 mb:cb≤maxLen
 mq:cq≤maxLen
 nb:ab=none→cb=0
 nq:aq=none→cq=0
 rb:cZ w ab (d.blocks.flatMap vJ)
 rq:cZ w aq (d.queue.flatMap uK)
theorem GY.below {w w' : World} {ab:Option Addr} {cb:Nat} {aq:Option Addr} {cq:Nat} {d:pR} (h:GY w ab cb aq cq d) (hb:Below w.heap.size w w'):GY w' ab cb aq cq d:=
 { h with rb:=h.rb.below hb,rq:=h.rq.below hb }
structure jc (w:World) (B:Nat) (vb vq:Value) (d:pR):Prop where
 b:Own w B 79 8 vb d.blocks.length (d.blocks.flatMap vJ)
 q:Own w B 86 9 vq d.queue.length (d.queue.flatMap uK)
theorem jc.below {w w' : World} {B:Nat} {vb vq:Value} {d:pR} (h:jc w B vb vq d) (hb:Below w.heap.size w w'):jc w' B vb vq d:=⟨h.b.below hb,h.q.below hb⟩
theorem jc.mono {w:World} {B B' : Nat} {vb vq:Value} {d:pR} (h:jc w B vb vq d) (hB:B'≤B):jc w B' vb vq d:=⟨h.b.mono hB,h.q.mono hB⟩
theorem jc.rd {w:World} {B:Nat} {vb vq:Value} {d:pR} (h:jc w B vb vq d):∃ab cb aq cq,vb = .slice ab d.blocks.length cb∧vq = .slice aq d.queue.length cq∧GY w ab cb aq cq d:=by
 obtain⟨ab,cb,rfl,h1,h2,h3,h4⟩:=h.b.rd
 obtain⟨aq,cq,rfl,g1,g2,g3,g4⟩:=h.q.rd
 exact⟨ab,cb,aq,cq,rfl,rfl,h1,g1,h2,g2,h3,g3,h4,g4⟩
theorem jc.nil (w:World) (B:Nat):jc w B (.slice none 0 0) (.slice none 0 0) ⟨[],[]⟩:=⟨Own.nil _ _ _ _,Own.nil _ _ _ _⟩
theorem vW {w:World} {a:Option Addr} {l:List (Int × Page)} (h:cZ w a (l.flatMap uK)) (k:Nat) (hk:k<l.length):∃b off,a=some ⟨b,off,none⟩∧∀j,j<9→w.cell? ⟨b,off+k*9+j,none⟩=(Ai l[k])[j]?:=by
 obtain⟨b,off,ha,hc⟩:=h.elem sG (by decide) k hk
 refine⟨b,off,ha,fun j hj => ?_⟩
 have e:(uK l[k])[j]?=some ((uK l[k])[j]'(by rw[sG];exact hj)):=List.getElem?_eq_getElem _
 rw[hc j _ e,←e]
 simp[uK]
theorem zm {w:World} {a:Option Addr} {l:List Page} (h:cZ w a (l.flatMap vJ)) (k:Nat) (hk:k<l.length):∃b off,a=some ⟨b,off,none⟩∧∀j,j<8→w.cell? ⟨b,off+k*8+j,none⟩=(dW l[k])[j]?:=by
 obtain⟨b,off,ha,hc⟩:=h.elem jF (by decide) k hk
 refine⟨b,off,ha,fun j hj => ?_⟩
 have e:(vJ l[k])[j]?=some ((vJ l[k])[j]'(by rw[jF];exact hj)):=List.getElem?_eq_getElem _
 rw[hc j _ e,←e]
 simp[vJ]
theorem vU (d:pR) (ab:Option Addr) (cb:Nat) (aq:Option Addr) (cq:Nat) (w:World) (h:GY w ab cb aq cq d) :
  Calls Tryz.prog 93 #[.agg #[.slice ab d.blocks.length cb,.slice aq d.queue.length cq]] w fun e w'=>e = .returned (.int .i64 (bK d))∧Below w.heap.size w w':=by
 have lb:=Nat.le_trans h.lb h.mb
 have lq:=Nat.le_trans h.lq h.mq
 unfold maxLen at lb lq
 have hrq:=h.rq
 unfold bK
 obtain⟨B,Q⟩:=d
 simp only at *
 go_enter Tryz.func93,Tryz.ntmps93
 have hb0:Below w.heap.size w (w.alloc (.cells #[.slice ab B.length cb,.slice aq Q.length cq] 34)):=(Below.refl _ _).alloc (Nat.le_refl _) _
 by_cases h4:80<B.length∨400<Q.length
 ·rw[if_pos h4]
  have h4' : (80:Int)<(B.length:Int)∨(400:Int)<(Q.length:Int):=by omega
  clear h4
  rcases h4' with h4|h4
  all_goals
   go_wp2
   all_goals
    go_ret
    exact⟨rfl,hb0⟩
 ·rw[if_neg h4]
  have h41:¬(80:Int)<(B.length:Int):=by omega
  have h42:¬(400:Int)<(Q.length:Int):=by omega
  clear h4
  go_wp2
  go_loopw [18] (fun i wr => ∃k:Nat,k≤Q.length∧i = .int .i64 k∧Below w.heap.size w wr∧aF wr w.heap.size #[.slice ab B.length cb,.slice aq Q.length cq] 34∧∀i (h:i<Q.length),i<k→nX B.length Q[i]=false) (fun i _=>Q.length-(intOf i).toNat)
  case atStart=>exact⟨0,Nat.zero_le _,rfl,hb0,aF.new _ _ _,fun i _ h=>absurd h (Nat.not_lt_zero _)⟩
  case round=>
   obtain⟨k,hk,rfl,hbel,hblk,hp⟩:=hrel
   by_cases hlt:k<Q.length
   ·obtain⟨b,off,rfl,hc⟩:=vW (hrq.below hbel) k hlt
    have c0:=hc 0 (by decide);have c1:=hc 1 (by decide);have c2:=hc 2 (by decide);have c3:=hc 3 (by decide);have c4:=hc 4 (by decide)
    have c5:=hc 5 (by decide);have c6:=hc 6 (by decide);have c7:=hc 7 (by decide);have c8:=hc 8 (by decide)
    simp only[Ai,List.getElem?_toArray,List.getElem?_cons_zero,List.getElem?_cons_succ,Nat.add_zero] at c0 c1 c2 c3 c4 c5 c6 c7 c8
    clear hc
    have hcd:=fun o=>(hblk.alloc o).cell
    by_cases hbad:Q[k].1<0∨(B.length:Int)≤Q[k].1
    ·have hbk:nX B.length Q[k]=true:=by simpa[nX] using hbad
     have ha:Q.any (nX B.length)=true:=List.any_eq_true.2 ⟨_,List.getElem_mem hlt,hbk⟩
     rcases hbad with hbad|hbad
     all_goals
      go_wp2
      all_goals
       go_ret
       exact⟨by simp[ha],hbel.alloc hbel.size _⟩
    ·have n1:¬Q[k].1<0:=by omega
     have n2:¬(B.length:Int)≤Q[k].1:=by omega
     have hbk:nX B.length Q[k]=false:=by simp[nX];omega
     clear hbad
     go_wp2
     go_roundw
     case rel=>exact⟨k+1,by omega,by go_num,hbel.alloc hbel.size _,hblk.alloc _,jJ hp hlt hbk⟩
     case measure=>simp[intOf];omega
   ·have ha:Q.any (nX B.length)=false:=by
     rw[List.any_eq_false]
     intro x hx
     obtain⟨i,hi,rfl⟩:=List.mem_iff_getElem.1 hx
     simp[hp i hi (by omega)]
    go_wp2
    all_goals
     go_ret
     exact⟨by simp[ha],hbel⟩
theorem oC (d:pR) (ab:Option Addr) (cb:Nat) (aq:Option Addr) (cq:Nat) (w:World) (h:GY w ab cb aq cq d) :
  Calls Tryz.prog 62 #[.agg #[.slice ab d.blocks.length cb,.slice aq d.queue.length cq]] w fun e w'=>e = .returned (.int .i64 (bK d))∧Below w.heap.size w w':=by
 have lb:=Nat.le_trans h.lb h.mb
 have lq:=Nat.le_trans h.lq h.mq
 unfold maxLen at lb lq
 have hrq:=h.rq
 unfold bK
 obtain⟨B,Q⟩:=d
 simp only at *
 go_enter Tryz.func62,Tryz.ntmps62
 have hb0:Below w.heap.size w (w.alloc (.cells #[.slice ab B.length cb,.slice aq Q.length cq] 34)):=(Below.refl _ _).alloc (Nat.le_refl _) _
 by_cases h4:80<B.length∨400<Q.length
 ·rw[if_pos h4]
  have h4' : (80:Int)<(B.length:Int)∨(400:Int)<(Q.length:Int):=by omega
  clear h4
  rcases h4' with h4|h4
  all_goals
   go_wp2
   all_goals
    go_ret
    exact⟨rfl,hb0⟩
 ·rw[if_neg h4]
  have h41:¬(80:Int)<(B.length:Int):=by omega
  have h42:¬(400:Int)<(Q.length:Int):=by omega
  clear h4
  go_wp2
  go_loopw [18] (fun i wr => ∃k:Nat,k≤Q.length∧i = .int .i64 k∧Below w.heap.size w wr∧aF wr w.heap.size #[.slice ab B.length cb,.slice aq Q.length cq] 34∧∀i (h:i<Q.length),i<k→nX B.length Q[i]=false) (fun i _=>Q.length-(intOf i).toNat)
  case atStart=>exact⟨0,Nat.zero_le _,rfl,hb0,aF.new _ _ _,fun i _ h=>absurd h (Nat.not_lt_zero _)⟩
  case round=>
   obtain⟨k,hk,rfl,hbel,hblk,hp⟩:=hrel
   by_cases hlt:k<Q.length
   ·obtain⟨b,off,rfl,hc⟩:=vW (hrq.below hbel) k hlt
    have c0:=hc 0 (by decide);have c1:=hc 1 (by decide);have c2:=hc 2 (by decide);have c3:=hc 3 (by decide);have c4:=hc 4 (by decide)
    have c5:=hc 5 (by decide);have c6:=hc 6 (by decide);have c7:=hc 7 (by decide);have c8:=hc 8 (by decide)
    simp only[Ai,List.getElem?_toArray,List.getElem?_cons_zero,List.getElem?_cons_succ,Nat.add_zero] at c0 c1 c2 c3 c4 c5 c6 c7 c8
    clear hc
    have hcd:=fun o=>(hblk.alloc o).cell
    by_cases hbad:Q[k].1<0∨(B.length:Int)≤Q[k].1
    ·have hbk:nX B.length Q[k]=true:=by simpa[nX] using hbad
     have ha:Q.any (nX B.length)=true:=List.any_eq_true.2 ⟨_,List.getElem_mem hlt,hbk⟩
     rcases hbad with hbad|hbad
     all_goals
      go_wp2
      all_goals
       go_ret
       exact⟨by simp[ha],hbel.alloc hbel.size _⟩
    ·have n1:¬Q[k].1<0:=by omega
     have n2:¬(B.length:Int)≤Q[k].1:=by omega
     have hbk:nX B.length Q[k]=false:=by simp[nX];omega
     clear hbad
     go_wp2
     go_roundw
     case rel=>exact⟨k+1,by omega,by go_num,hbel.alloc hbel.size _,hblk.alloc _,jJ hp hlt hbk⟩
     case measure=>simp[intOf];omega
   ·have ha:Q.any (nX B.length)=false:=by
     rw[List.any_eq_false]
     intro x hx
     obtain⟨i,hi,rfl⟩:=List.mem_iff_getElem.1 hx
     simp[hp i hi (by omega)]
    go_wp2
    all_goals
     go_ret
     exact⟨by simp[ha],hbel⟩
theorem jc.keep {w w' : World} {B:Nat} {vb vq:Value} {d:pR} (h:jc w B vb vq d) {g:Nat} {cs:Array Value} {T:TypeId} (hk:aF w g cs T) (h1:T≠79) (h2:T≠86) (hgr:w.grownBy w' (some g)):jc w' B vb vq d:=
 ⟨ak h.b hk h1 hgr,ak h.q hk h2 hgr⟩
def Bv (B:Nat) (d:pR):iO:=⟨fun v w => ∃vb vq,v = .agg #[vb,vq]∧jc w B vb vq d,fun _ _ _ hb ⟨vb,vq,h1,h2⟩=>⟨vb,vq,h1,h2.below hb⟩⟩
theorem psize:(Tryz.prog.info? 79).map (·.size)=some 8:=by kernel_rfl
theorem zz_fit:(#[.int .u8 0,.int .u8 0,.int .u8 0,.int .u8 0,.int .u8 0,.int .u8 0,.int .u8 0,.int .u8 0]:Array Value).size=(#[.int .u8 0,.int .u8 0,.int .u8 0,.int .u8 0,.int .u8 0,.int .u8 0,.int .u8 0,.int .u8 0]:Array Value).size:=rfl
theorem zz_one:(#[.int .u8 0,.int .u8 0,.int .u8 0,.int .u8 0,.int .u8 0,.int .u8 0,.int .u8 0,.int .u8 0]:Array Value).all (·.oneCell')=true:=by simp[Value.oneCell']
theorem zz_info:(Tryz.prog.info? 79).map (·.size)=some (#[.int .u8 0,.int .u8 0,.int .u8 0,.int .u8 0,.int .u8 0,.int .u8 0,.int .u8 0,.int .u8 0]:Array Value).size:=psize
theorem MR (p:Page):(dW p).size=(#[.int .u8 0,.int .u8 0,.int .u8 0,.int .u8 0,.int .u8 0,.int .u8 0,.int .u8 0,.int .u8 0]:Array Value).size:=rfl
theorem LG (p q:Page):(dW p).size=(dW q).size:=rfl
theorem Ee (p:Page):(Tryz.prog.info? 79).map (·.size)=some (dW p).size:=psize
theorem disk_size:(Tryz.prog.info? 34).map (·.size)=some 2:=by kernel_rfl
theorem Au (d:pR) (ab:Option Addr) (cb:Nat) (aq:Option Addr) (cq:Nat) (w:World) (h:GY w ab cb aq cq d) (h80:d.blocks.length*8≤140737488355328) (h400:d.queue.length*16≤140737488355328) :
  Calls Tryz.prog 75 #[.agg #[.slice ab d.blocks.length cb,.slice aq d.queue.length cq]] w fun e w' => ∃vb vq,e = .returned (.agg #[vb,vq])∧jc w' w.heap.size vb vq d∧Below w.heap.size w w':=by
 go_enter Tryz.func75,Tryz.ntmps75
 go_upto_region 1 with (fail)
 have hbel0:Below w.heap.size w ((w.alloc (.cells #[.slice ab d.blocks.length cb,.slice aq d.queue.length cq] 34)).alloc (.cells #[.slice none 0 0,.slice none 0 0] 34)):=((Below.refl _ _).alloc (Nat.le_refl _) _).alloc (dR _ _) _
 have hblk:aF ((w.alloc (.cells #[.slice ab d.blocks.length cb,.slice aq d.queue.length cq] 34)).alloc (.cells #[.slice none 0 0,.slice none 0 0] 34)) w.heap.size #[.slice ab d.blocks.length cb,.slice aq d.queue.length cq] 34:=(aF.new _ _ _).alloc _
 have hout:aF ((w.alloc (.cells #[.slice ab d.blocks.length cb,.slice aq d.queue.length cq] 34)).alloc (.cells #[.slice none 0 0,.slice none 0 0] 34)) (w.heap.size+1) #[.slice none 0 0,.slice none 0 0] 34:=by simpa using aF.new (w.alloc (.cells #[.slice ab d.blocks.length cb,.slice aq d.queue.length cq] 34)) _ _
 have h0:=h.below hbel0
 refine aG 7 [_,_,.r 2 ((il w.heap.size 79 8 d.blocks.length (d.blocks.flatMap vJ))),_,_,.r 5 ((il w.heap.size 86 9 d.queue.length (d.queue.flatMap uK))),.r 6 ((Bv w.heap.size d))] (Gf w.heap.size 0 rfl rfl (Gl hblk (V:=.slice ab d.blocks.length cb) (by simp[Tryz.underlying31]) rfl rfl rfl rfl (ag ?_ (Gf w.heap.size 1 rfl rfl (Gl hblk (V:=.slice aq d.queue.length cq) (by simp[Tryz.underlying32]) rfl rfl rfl rfl (ag ?_ (ag ?_ (aB)))))))) (fun _=>rfl) rfl ?_
 ·intro ρ y W hw hn hb hd;have E4:=hw 4 1 rfl;have h1:y 1=_:=hd 1 rfl
  have EF:∀f,ρ (.func f) = .func (.func f) #[] #[]:=fun f=>hn (.func f) trivial
  refine aJ _ _ (ah rfl) (aK rfl (EF _) Tryz.func115 (by kernel_rfl) (by kernel_rfl) (by simp only[List.map_toArray,List.map_cons,List.map_nil,E4,h1,EF];rfl)) ?_
  refine (AQ d.blocks ab cb W h0.lb h0.nb (h0.below hb).rb h80).mono ?_
  rintro e w1 ⟨v,rfl,ho,hb1⟩
  exact⟨v,rfl,hb1,ho.mono (Nat.le_trans hbel0.size hb.size)⟩
 ·intro ρ y W hw hn hb hd;have E7:=hw 7 4 rfl;have h4:y 4=_:=hd 4 rfl
  have EF:∀f,ρ (.func f) = .func (.func f) #[] #[]:=fun f=>hn (.func f) trivial
  refine aJ _ _ (ah rfl) (aK rfl (EF _) Tryz.func116 (by kernel_rfl) (by kernel_rfl) (by simp only[List.map_toArray,List.map_cons,List.map_nil,E7,h4,EF];rfl)) ?_
  refine (DI d.queue aq cq W h0.lq h0.nq (h0.below hb).rq h400).mono ?_
  rintro e w1 ⟨v,rfl,ho,hb1⟩
  exact⟨v,rfl,hb1,ho.mono (Nat.le_trans hbel0.size hb.size)⟩
 ·intro ρ y W hw hn hb hd;have E5:=hw 5 2 rfl;have h2:=hd 2 rfl;have E8:=hw 8 5 rfl;have h5:=hd 5 rfl
  obtain⟨x2,c2,e2,_⟩:=Own.rd h2
  obtain⟨x5,c5,e5,_⟩:=Own.rd h5
  refine aj (.agg #[y 2,y 5]) (ah rfl) (by simp[execOp,go_sem,E5,E8,e2,e5]) ?_
  exact⟨_,_,rfl,h2,h5⟩
 intro y WA hbWA hRWA
 have hy2:((il w.heap.size 79 8 d.blocks.length (d.blocks.flatMap vJ))).r (y 2) WA:=hRWA 2 (by decide)
 have hy5:((il w.heap.size 86 9 d.queue.length (d.queue.flatMap uK))).r (y 5) WA:=hRWA 5 (by decide)
 have hy6:((Bv w.heap.size d)).r (y 6) WA:=hRWA 6 (by decide)
 clear hRWA
 obtain⟨vb,vq,e6,ho⟩:=hy6
 rw[e6]
 clear hy2 hy5 e6
 have hbelA:=ae hbel0 hbWA
 obtain⟨xb,cb',xq,cq',rfl,rfl,_⟩:=ho.rd
 refine az rfl _ (.tmp 2) (.tmp 9) rfl (w.heap.size+1) _ rfl rfl _ _ (hout.ext hbWA) rfl disk_size (by simp[Value.oneCell']) ?_
 intro w2 hq hgr
 have hbel2:Below w.heap.size w w2:=hbelA.grown hgr hbelA.size (fun k hk=>by cases hk;omega)
 have hc:=hq.cell
 go_wp2
 simp[bodyPost,results,go_sem,Tryz.results75,hc]
 exact⟨_,_,⟨rfl,rfl⟩,ho.keep (hout.ext hbWA) (by decide) (by decide) hgr,hbel2⟩
theorem Nu (p q:Page) (W:World):(Op.equalIn 10000 79 (.agg #[.int .u8 p[0].toNat,.int .u8 p[1].toNat,.int .u8 p[2].toNat,.int .u8 p[3].toNat,.int .u8 p[4].toNat,.int .u8 p[5].toNat,.int .u8 p[6].toNat,.int .u8 p[7].toNat]) (.agg #[.int .u8 q[0].toNat,.int .u8 q[1].toNat,.int .u8 q[2].toNat,.int .u8 q[3].toNat,.int .u8 q[4].toNat,.int .u8 q[5].toNat,.int .u8 q[6].toNat,.int .u8 q[7].toNat])).run Tryz.prog W = .ok (p==q) W:=
 uG W 9998 _ _ Tryz.underlying79 Tryz.underlying5 byte_size p q
theorem El (p:Page):dW p=#[.int .u8 p[0].toNat,.int .u8 p[1].toNat,.int .u8 p[2].toNat,.int .u8 p[3].toNat,.int .u8 p[4].toNat,.int .u8 p[5].toNat,.int .u8 p[6].toNat,.int .u8 p[7].toNat]:=rfl
theorem lit0:dW zPg=#[.int .u8 0,.int .u8 0,.int .u8 0,.int .u8 0,.int .u8 0,.int .u8 0,.int .u8 0,.int .u8 0]:=rfl
theorem Mv (p q:Page) (W:World):(Op.equalIn 9999 79 (.agg #[.int .u8 p[0].toNat,.int .u8 p[1].toNat,.int .u8 p[2].toNat,.int .u8 p[3].toNat,.int .u8 p[4].toNat,.int .u8 p[5].toNat,.int .u8 p[6].toNat,.int .u8 p[7].toNat]) (.agg #[.int .u8 q[0].toNat,.int .u8 q[1].toNat,.int .u8 q[2].toNat,.int .u8 q[3].toNat,.int .u8 q[4].toNat,.int .u8 q[5].toNat,.int .u8 q[6].toNat,.int .u8 q[7].toNat])).run Tryz.prog W = .ok (p==q) W:=
 uG W 9997 _ _ Tryz.underlying79 Tryz.underlying5 byte_size p q
theorem yN (d d' : pR) (ab:Option Addr) (cb:Nat) (aq:Option Addr) (cq:Nat) (ab' : Option Addr) (cb' : Nat) (aq' : Option Addr) (cq' : Nat) (w:World) (h:GY w ab cb aq cq d) (h' : GY w ab' cb' aq' cq' d') :
  Calls Tryz.prog 28 #[.agg #[.slice ab d.blocks.length cb,.slice aq d.queue.length cq],.agg #[.slice ab' d'.blocks.length cb',.slice aq' d'.queue.length cq']] w fun e w'=>e = .returned (.bool (Eg d d'))∧Below w.heap.size w w':=by
 go_enter Tryz.func28,Tryz.ntmps28
 go_upto_region 1 with (fail)
 refine mg (fun W=>Code.wp _ _ _ _ W) fun W0 hb0 hx0 hy0 _ => ?_
 have hcx:=hx0.cell
 have hcy:=hy0.cell
 by_cases hl:d.blocks.length=d'.blocks.length
 ·have hne:((d.blocks.length:Int) != (d'.blocks.length:Int))=false:=by simp[hl]
  by_cases hq:d.queue.length=d'.queue.length
  ·have hne' : ((d.queue.length:Int) != (d'.queue.length:Int))=false:=by simp[hq]
   have lb:=Nat.le_trans h.lb h.mb
   have lq:=Nat.le_trans h.lq h.mq
   unfold maxLen at lb lq
   have hl':=Lib.hid hl
   have hq':=Lib.hid hq
   clear hl hq
   go_wp2
   clear hcx hcy
   go_loopw [26] (fun i wr => ∃k:Nat,k≤d.blocks.length∧i = .int .i64 k∧Below w.heap.size w wr∧aF wr w.heap.size #[.slice ab d.blocks.length cb,.slice aq d.queue.length cq] 34∧aF wr (w.heap.size+1) #[.slice ab' d'.blocks.length cb',.slice aq' d'.queue.length cq'] 34∧∀i (h:i<d.blocks.length),i<k→d.blocks[i]=d'.blocks[i]'(by have:=hl'.out;omega)) (fun i _=>d.blocks.length-(intOf i).toNat)
   case atStart=>exact⟨0,Nat.zero_le _,rfl,hb0,hx0,hy0,fun i _ h=>absurd h (Nat.not_lt_zero _)⟩
   case round=>
    obtain⟨k,hk,rfl,hbel,hx,hy,hp⟩:=hrel
    clear hx0 hy0 hb0
    have hp':=Lib.hid hp
    clear hp
    have hcx:=hx.cell
    have hcy:=hy.cell
    by_cases hlt:k<d.blocks.length
    ·have hlt' : k<d'.blocks.length:=by have:=hl'.out;omega
     obtain⟨b,off,rfl,hc⟩:=zm (h.below hbel).rb k hlt
     obtain⟨b',off',rfl,hc'⟩:=zm (h'.below hbel).rb k hlt'
     have c0:=hc 0 (by decide);have c1:=hc 1 (by decide);have c2:=hc 2 (by decide);have c3:=hc 3 (by decide)
     have c4:=hc 4 (by decide);have c5:=hc 5 (by decide);have c6:=hc 6 (by decide);have c7:=hc 7 (by decide)
     have g0:=hc' 0 (by decide);have g1:=hc' 1 (by decide);have g2:=hc' 2 (by decide);have g3:=hc' 3 (by decide)
     have g4:=hc' 4 (by decide);have g5:=hc' 5 (by decide);have g6:=hc' 6 (by decide);have g7:=hc' 7 (by decide)
     simp only[dW,List.getElem?_toArray,List.getElem?_cons_zero,List.getElem?_cons_succ,Nat.add_zero] at c0 c1 c2 c3 c4 c5 c6 c7 g0 g1 g2 g3 g4 g5 g6 g7
     clear hc hc'
     have k1:(k:Int)<(d'.blocks.length:Int):=by omega
     have hE:=Nu d.blocks[k] d'.blocks[k]
     by_cases he:d.blocks[k]=d'.blocks[k]
     ·rw[beq_iff_eq.2 he] at hE
      have he':=Lib.hid he
      clear he
      go_wp2_with fail
      go_quiet (fail)
      go_wp2
      go_roundw
      case rel=>exact⟨k+1,by omega,by go_num,below_drewN hbel _,hx.drewN _,hy.drewN _,Al hl'.out hlt hp'.out he'.out⟩
      case measure=>simp[intOf];omega
     ·rw[beq_eq_false_iff_ne.2 he] at hE
      have he':=Lib.hid he
      clear he
      go_wp2_with fail
      go_quiet (fail)
      go_wp2
      go_ret
      exact⟨by rw[ng (.inl (BA k hlt hlt' he'.out))];rfl,below_drewN hbel _⟩
    ·have hall:=Lib.hid (zU hl'.out k hlt hp'.out)
     clear hp'
     go_wp2
     clear hcx hcy
     go_loopw [44] (fun i wr => ∃k:Nat,k≤d.queue.length∧i = .int .i64 k∧Below w.heap.size w wr∧aF wr w.heap.size #[.slice ab d.blocks.length cb,.slice aq d.queue.length cq] 34∧aF wr (w.heap.size+1) #[.slice ab' d'.blocks.length cb',.slice aq' d'.queue.length cq'] 34∧∀i (h:i<d.queue.length),i<k→d.queue[i]=d'.queue[i]'(by have:=hq'.out;omega)) (fun i _=>d.queue.length-(intOf i).toNat)
     case atStart=>exact⟨0,Nat.zero_le _,rfl,hbel,hx,hy,fun i _ h=>absurd h (Nat.not_lt_zero _)⟩
     case round=>
      clear hbel hx hy
      obtain⟨k,hk,rfl,hbel,hx,hy,hp⟩:=hrel
      have hp':=Lib.hid hp
      clear hp
      have hcx:=hx.cell
      have hcy:=hy.cell
      by_cases hlt:k<d.queue.length
      ·have hlt' : k<d'.queue.length:=by have:=hq'.out;omega
       obtain⟨b,off,rfl,hc⟩:=vW (h.below hbel).rq k hlt
       obtain⟨b',off',rfl,hc'⟩:=vW (h'.below hbel).rq k hlt'
       have c0:=hc 0 (by decide);have c1:=hc 1 (by decide);have c2:=hc 2 (by decide);have c3:=hc 3 (by decide)
       have c4:=hc 4 (by decide);have c5:=hc 5 (by decide);have c6:=hc 6 (by decide);have c7:=hc 7 (by decide);have c8:=hc 8 (by decide)
       have g0:=hc' 0 (by decide);have g1:=hc' 1 (by decide);have g2:=hc' 2 (by decide);have g3:=hc' 3 (by decide)
       have g4:=hc' 4 (by decide);have g5:=hc' 5 (by decide);have g6:=hc' 6 (by decide);have g7:=hc' 7 (by decide);have g8:=hc' 8 (by decide)
       simp only[Ai,List.getElem?_toArray,List.getElem?_cons_zero,List.getElem?_cons_succ,Nat.add_zero] at c0 c1 c2 c3 c4 c5 c6 c7 c8 g0 g1 g2 g3 g4 g5 g6 g7 g8
       clear hc hc'
       have k1:(k:Int)<(d'.queue.length:Int):=by omega
       have hE:=Mv d.queue[k].2 d'.queue[k].2
       by_cases he:d.queue[k]=d'.queue[k]
       ·rw[←he] at hE g0 g1 g2 g3 g4 g5 g6 g7 g8
        rw[beq_self_eq_true] at hE
        have he':=Lib.hid he
        clear he
        go_wp2_with fail
        go_quiet (fail)
        go_wp2
        go_roundw
        case rel=>exact⟨k+1,by omega,by go_num,below_drewN hbel _,hx.drewN _,hy.drewN _,Al hq'.out hlt hp'.out he'.out⟩
        case measure=>simp[intOf];omega
       ·have he':=Lib.hid he
        by_cases hn:d.queue[k].1=d'.queue[k].1
        ·have hpn:¬d.queue[k].2=d'.queue[k].2:=fun hh=>he (Prod.ext hn hh)
         rw[beq_eq_false_iff_ne.2 hpn] at hE
         rw[←hn] at g0
         clear he hn hpn
         go_wp2_with fail
         go_quiet (fail)
         go_wp2
         go_ret
         exact⟨by rw[ng (.inr (BA k hlt hlt' he'.out))];rfl,below_drewN hbel _⟩
        ·have hz:(d.queue[k].1==d'.queue[k].1)=false:=by simpa using hn
         clear he hn hE
         go_wp2_with fail
         go_quiet (fail)
         go_wp2
         go_ret
         exact⟨by rw[ng (.inr (BA k hlt hlt' he'.out))];rfl,below_drewN hbel _⟩
      ·have hall2:=Lib.hid (zU hq'.out k hlt hp'.out)
       go_wp2
       go_ret
       exact⟨by rw[qd.2 (by cases d;cases d'; simp only[pR.mk.injEq];exact⟨hall.out,hall2.out⟩)];rfl,hbel⟩
  ·have hne' : ((d.queue.length:Int) != (d'.queue.length:Int))=true:=by simp;omega
   go_wp2
   go_ret
   exact⟨by rw[ng (.inr (fun e=>hq (by rw[e])))];rfl,hb0⟩
 ·have hne:((d.blocks.length:Int) != (d'.blocks.length:Int))=true:=by simp;omega
  go_wp2
  go_ret
  exact⟨by rw[ng (.inl (fun e=>hl (by rw[e])))];rfl,hb0⟩
theorem put_size:(Tryz.prog.info? 86).map (·.size)=some 9:=by kernel_rfl
theorem Ej (q:Int × Page):(Ai q).all (·.oneCell')=true:=by simp[Ai,Value.oneCell']
def qi (f:Fr):Array Value:=#[.int .u8 f.p[0].toNat,.int .u8 f.p[1].toNat,.int .u8 f.p[2].toNat,.int .u8 f.p[3].toNat,.int .u8 f.p[4].toNat,.int .u8 f.p[5].toNat,.int .u8 f.p[6].toNat,.int .u8 f.p[7].toNat,.int .i64 f.r,.bool f.u,.bool f.d,.int .i64 f.f,.int .i64 f.i]
def nE (f:Fr):List Value:=(qi f).toList
theorem eT (f:Fr):(nE f).length=13:=rfl
structure Nf (w:World) (b off:Nat) (f:Fr):Prop where
 c0:w.cell? ⟨b,off,none⟩=some (.int .u8 f.p[0].toNat)
 c1:w.cell? ⟨b,off+1,none⟩=some (.int .u8 f.p[1].toNat)
 c2:w.cell? ⟨b,off+2,none⟩=some (.int .u8 f.p[2].toNat)
 c3:w.cell? ⟨b,off+3,none⟩=some (.int .u8 f.p[3].toNat)
 c4:w.cell? ⟨b,off+4,none⟩=some (.int .u8 f.p[4].toNat)
 c5:w.cell? ⟨b,off+5,none⟩=some (.int .u8 f.p[5].toNat)
 c6:w.cell? ⟨b,off+6,none⟩=some (.int .u8 f.p[6].toNat)
 c7:w.cell? ⟨b,off+7,none⟩=some (.int .u8 f.p[7].toNat)
 c8:w.cell? ⟨b,off+8,none⟩=some (.int .i64 f.r)
 c9:w.cell? ⟨b,off+9,none⟩=some (.bool f.u)
 ca:w.cell? ⟨b,off+10,none⟩=some (.bool f.d)
 cb:w.cell? ⟨b,off+11,none⟩=some (.int .i64 f.f)
 cc:w.cell? ⟨b,off+12,none⟩=some (.int .i64 f.i)
theorem yZ {w:World} {a:Option Addr} {l:List Fr} (h:cZ w a (l.flatMap nE)) (k:Nat) (hk:k<l.length):∃b off,a=some ⟨b,off,none⟩∧Nf w b (off+k*13) l[k]:=by
 obtain⟨b,off,ha,hc⟩:=h.elem eT (by decide) k hk
 exact⟨b,off,ha,hc 0 _ rfl,hc 1 _ rfl,hc 2 _ rfl,hc 3 _ rfl,hc 4 _ rfl,hc 5 _ rfl,hc 6 _ rfl,hc 7 _ rfl,hc 8 _ rfl,hc 9 _ rfl,hc 10 _ rfl,hc 11 _ rfl,hc 12 _ rfl⟩
theorem zb (f:Fr) (b off:Nat) (w:World) (h:Nf w b off f):Calls Tryz.prog 130 #[.pointer (some ⟨b,off,none⟩)] w fun e w'=>e = .returned (.int .i64 (dD f))∧w' = w:=by
 obtain⟨c0,c1,c2,c3,c4,c5,c6,c7,c8,c9,ca,cb,cc⟩:=h
 have hE:∀W,(Op.equalIn 10000 79 (.agg #[.int .u8 f.p[0].toNat,.int .u8 f.p[1].toNat,.int .u8 f.p[2].toNat,.int .u8 f.p[3].toNat,.int .u8 f.p[4].toNat,.int .u8 f.p[5].toNat,.int .u8 f.p[6].toNat,.int .u8 f.p[7].toNat]) (.agg #[.int .u8 0,.int .u8 0,.int .u8 0,.int .u8 0,.int .u8 0,.int .u8 0,.int .u8 0,.int .u8 0])).run Tryz.prog W = .ok (f.p==zPg) W:=Nu f.p zPg
 go_enter Tryz.func130,Tryz.ntmps130
 go_wp2
 all_goals go_ret
 all_goals refine⟨?_,rfl⟩
 all_goals clear c0 c1 c2 c3 c4 c5 c6 c7 c8 c9 ca cb cc hE
 all_goals go_light
 all_goals refine congrArg (fun z=>Ending.returned (.int .i64 z)) ?_
 all_goals simp only[dD,vS,yo,ut,Bool.or_eq_true,Bool.and_eq_true,decide_eq_true_eq,ne_eq,bne_iff_ne]
 all_goals simp_all
 all_goals omega
theorem frame_info:(Tryz.prog.info? 81).map (fun i=>(i.zero,i.size,i.bytes))=some (some (.agg #[.int .u8 0,.int .u8 0,.int .u8 0,.int .u8 0,.int .u8 0,.int .u8 0,.int .u8 0,.int .u8 0,.int .i64 0,.bool false,.bool false,.int .i64 0,.int .i64 0]),13,40):=by kernel_rfl
theorem frame_size:(Tryz.prog.info? 81).map (·.size)=some 13:=by kernel_rfl
theorem DK (l:List Fr):(l.flatMap nE).length=l.length*13:=Pw.flat_len nE 13 eT l
theorem mH (f:Fr):(qi f).all (·.oneCell')=true:=by simp[qi,Value.oneCell']
theorem DW (l:List Fr):∀u∈l.flatMap nE,u.oneCell' = true:=by
 intro u hu
 obtain⟨p,_,hp⟩:=List.mem_flatMap.1 hu
 simp only[nE,qi,List.mem_cons,List.not_mem_nil,or_false] at hp
 rcases hp with rfl|rfl|rfl|rfl|rfl|rfl|rfl|rfl|rfl|rfl|rfl|rfl|rfl<;>rfl
theorem Aa (l:List Fr) (a:Option Addr) (c:Nat) (w:World) (hle:l.length≤c) (hnil:a=none→c=0) (hrd:cZ w a (l.flatMap nE)) (hb:l.length*40≤140737488355328) :
  Calls Tryz.prog 114 #[.slice a l.length c] w fun e w' => ∃v,e = .returned v∧Own w' w.heap.size 81 13 v l.length (l.flatMap nE)∧Below w.heap.size w w':=by
 cases a with
 | none=>
  have h0:=hnil rfl
  have hl:l=[]:=List.eq_nil_of_length_eq_zero (by omega)
  subst hl
  subst h0
  have hq:=fun W=>Lib.run_eql_slice_nil (P:=Tryz.prog) W 26 _ none 0 0 0 0 Tryz.underlying26
  go_enter Tryz.func114,Tryz.ntmps114
  go_wp2
  go_ret
  exact⟨_,rfl,by simpa using Own.nil _ _ _ _,Below.refl _ _⟩
 | some ad=>
  have hq:=fun W=>Lib.run_eql_slice_nil (P:=Tryz.prog) W 26 _ (some ad) l.length c 0 0 Tryz.underlying26
  go_enter Tryz.func114,Tryz.ntmps114
  go_wp2_with (at_builtin;go_must (refine eu rfl _ _ 26 rfl w.heap.size 81 (.agg #[.int .u8 0,.int .u8 0,.int .u8 0,.int .u8 0,.int .u8 0,.int .u8 0,.int .u8 0,.int .u8 0,.int .i64 0,.bool false,.bool false,.int .i64 0,.int .i64 0]) 13 40 Tryz.underlying26 frame_info rfl (by decide) _ 0 [] rfl ?own (some ad) l.length c (l.flatMap nE) rfl (fun h=>(by cases h)) hle (DK l) ?rd (DW l) (by unfold maxLen;omega) (by simpa using hb) ?bb ?k))
  case own=>exact⟨rfl,.inr ⟨w.heap.size,0,0,#[],rfl,Nat.le_refl _,aF.new _ _ _,Nat.le_refl _,Nat.zero_le _,by simp,fun j u h=>by simp at h⟩⟩
  case rd=>exact hrd.below ((Below.refl _ _).alloc (Nat.le_refl _) _)
  case bb=>exact dR _ _
  intro v w1 hown hgr
  go_wp2
  go_ret
  exact⟨v,rfl,by simpa using hown,((Below.refl _ _).alloc (Nat.le_refl _) _).grown hgr (dR _ _) (fun k hk=>by cases hk;exact Nat.le_refl _)⟩
structure Ih (w:World) (a:Option Addr) (c:Nat) (m:Mem):Prop where
 le:m.fs.length≤c
 mx:c≤maxLen
 nil:a=none→c=0
 rd:cZ w a (m.fs.flatMap nE)
theorem Ih.below {w w' : World} {a:Option Addr} {c:Nat} {m:Mem} (h:Ih w a c m) (hb:Below w.heap.size w w'):Ih w' a c m:={ h with rd:=h.rd.below hb }
theorem Eb {w:World} {B:Nat} {v:Value} {m:Mem} (h:Own w B 81 13 v m.fs.length (m.fs.flatMap nE)):∃a c,v = .slice a m.fs.length c∧Ih w a c m:=by
 obtain⟨a,c,rfl,h1,h2,h3,h4⟩:=h.rd
 exact⟨a,c,rfl,h1,h2,h3,h4⟩
theorem wK (m:Mem) (a:Option Addr) (c:Nat) (w:World) (h:Ih w a c m) :
  Calls Tryz.prog 107 #[.agg #[.slice a m.fs.length c,.int .i64 m.hand]] w fun e w'=>e = .returned (.int .i64 (di m))∧Below w.heap.size w w':=by
 have hl:=Nat.le_trans h.le h.mx
 unfold maxLen at hl
 go_enter Tryz.func107,Tryz.ntmps107
 go_upto_region 1 with (fail)
 refine fo (fun W=>Code.wp _ _ _ _ W) fun W0 hb0 hx0 hs0 => ?_
 clear hs0
 have hcx:=hx0.cell
 have h0:=h.below hb0
 by_cases h4:40<m.fs.length
 ·have hW:di m=4:=by unfold di;rw[if_pos h4]
  have h4' : (40:Int)<(m.fs.length:Int):=by omega
  go_wp2
  go_ret
  rw[hW]
  exact⟨rfl,hb0⟩
 ·have h4' : ¬(40:Int)<(m.fs.length:Int):=by omega
  go_wp2
  go_loopw [12] (fun i wr => ∃k:Nat,k≤m.fs.length∧i = .int .i64 k∧W0=wr∧∀i (h:i<m.fs.length),i<k→dD m.fs[i]=0) (fun i _=>m.fs.length-(intOf i).toNat)
  case atStart=>exact⟨0,Nat.zero_le _,rfl,rfl,fun i _ h=>absurd h (Nat.not_lt_zero _)⟩
  case round=>
   obtain⟨k,hk,rfl,rfl,hno⟩:=hrel
   have hno':=Lib.hid hno
   clear hno
   by_cases hlt:k<m.fs.length
   ·obtain⟨b,off,rfl,hc⟩:=yZ h0.rd k hlt
    have hkz:(k:Int)<(m.fs.length:Int):=by omega
    by_cases he:dD m.fs[k]=0
    ·have he':=Lib.hid he
     have hf:=zb m.fs[k] b _ _ hc
     rw[he] at hf
     clear he hc
     go_wp2_with fail
     refine hf.mono ?_
     rintro e w2 ⟨rfl,rfl⟩
     go_wp2
     go_roundw
     case rel=>exact⟨k+1,by omega,by go_num,trivial,jJ hno'.out hlt he'.out⟩
     case measure=>simp[intOf];omega
    ·have hf:=zb m.fs[k] b _ _ hc
     have hW:di m=dD m.fs[k]:=by
      have:=firstEf_at _ k hlt hno'.out he
      unfold di;rw[if_neg h4,this,if_pos he]
     have hn:(dD m.fs[k] != 0)=true:=by simpa using he
     clear hc
     have hW':=Lib.hid hW
     clear hW
     go_wp2_with fail
     refine hf.mono ?_
     rintro e w2 ⟨rfl,rfl⟩
     go_wp2
     go_ret
     rw[hW'.out]
     exact⟨rfl,hb0⟩
   ·have h0:firstEf m.fs=0:=firstEf_none _ (fun i hi=>hno'.out i hi (by omega))
    have hW:di m=if m.hand<0∨(0<m.hand∧(m.fs.length:Int)≤m.hand) then 3 else 0:=by
     unfold di;rw[if_neg h4,h0];rfl
    have hW':=Lib.hid hW
    clear hW h0
    by_cases n1:m.hand<0
    ·go_wp2
     all_goals
      go_ret
      rw[hW'.out,if_pos (.inl n1)]
      exact⟨rfl,hb0⟩
    ·by_cases n2:(0:Int)<m.hand
     ·by_cases n3:(m.fs.length:Int)≤m.hand
      ·go_wp2
       all_goals
        go_ret
        rw[hW'.out,if_pos (.inr ⟨n2,n3⟩)]
        exact⟨rfl,hb0⟩
      ·go_wp2
       all_goals
        go_ret
        rw[hW'.out,if_neg (by omega)]
        exact⟨rfl,hb0⟩
     ·go_wp2
      all_goals
       go_ret
       rw[hW'.out,if_neg (by omega)]
       exact⟨rfl,hb0⟩
theorem mem_size:(Tryz.prog.info? 28).map (·.size)=some 2:=by kernel_rfl
theorem lm (a:Option Addr) (n c:Nat) (k:Int):(#[Value.slice a n c,.int .i64 k]:Array Value).all (·.oneCell')=true:=by simp[Value.oneCell']
theorem EM (a b:Option Addr) (n c m e:Nat) (k l:Int):(#[Value.slice a n c,.int .i64 k]:Array Value).size=(#[Value.slice b m e,.int .i64 l]:Array Value).size:=rfl
def NM (B:Nat) (m:Mem):iO:=⟨fun v w => ∃vb,v = .agg #[vb,.int .i64 m.hand]∧Own w B 81 13 vb m.fs.length (m.fs.flatMap nE),fun _ _ _ hb ⟨vb,h1,h2⟩=>⟨vb,h1,h2.below hb⟩⟩
theorem Be (m:Mem) (a:Option Addr) (c:Nat) (w:World) (h:Ih w a c m) (h40:m.fs.length*40≤140737488355328) :
  Calls Tryz.prog 73 #[.agg #[.slice a m.fs.length c,.int .i64 m.hand]] w fun e w' => ∃vb,e = .returned (.agg #[vb,.int .i64 m.hand])∧Own w' w.heap.size 81 13 vb m.fs.length (m.fs.flatMap nE)∧Below w.heap.size w w':=by
 go_enter Tryz.func73,Tryz.ntmps73
 go_upto_region 1 with (fail)
 refine mg (fun W=>Code.wp _ _ _ _ W) fun w0 hbel0 hblk hout hs0 => ?_
 clear hs0
 have h0:=h.below hbel0
 refine aG 6 [_,_,.r 2 ((il w.heap.size 81 13 m.fs.length (m.fs.flatMap nE))),_,_,.r 5 ((NM w.heap.size m))] (Gf w.heap.size 0 rfl rfl (Gl hblk (V:=.slice a m.fs.length c) (by simp[Tryz.underlying26]) rfl rfl rfl rfl (ag ?_ (Gf w.heap.size 1 rfl rfl (Gl hblk (V:=.int .i64 m.hand) (by simp[Tryz.underlying3]) rfl rfl rfl rfl (ag ?_ (aB))))))) (fun _=>rfl) rfl ?_
 ·intro ρ y W hw hn hb hd;have E4:=hw 4 1 rfl;have h1:y 1=_:=hd 1 rfl
  have EF:∀f,ρ (.func f) = .func (.func f) #[] #[]:=fun f=>hn (.func f) trivial
  refine aJ _ _ (ah rfl) (aK rfl (EF _) Tryz.func114 (by kernel_rfl) (by kernel_rfl) (by simp only[List.map_toArray,List.map_cons,List.map_nil,E4,h1,EF];rfl)) ?_
  refine (Aa m.fs a c W h0.le h0.nil (h0.below hb).rd h40).mono ?_
  rintro e w1 ⟨v,rfl,ho,hb1⟩
  exact⟨v,rfl,hb1,ho.mono (Nat.le_trans hbel0.size hb.size)⟩
 ·intro ρ y W hw hn hb hd;have E5:=hw 5 2 rfl;have h2:=hd 2 rfl;have E7:=hw 7 4 rfl;have h4:y 4=_:=hd 4 rfl
  obtain⟨x2,c2,e2,_⟩:=Own.rd h2
  refine aj (.agg #[y 2,.int .i64 m.hand]) (ah rfl) (by simp[execOp,go_sem,E5,E7,h4,e2]) ?_
  exact⟨_,rfl,h2⟩
 intro y WA hbWA hRWA
 have hy2:((il w.heap.size 81 13 m.fs.length (m.fs.flatMap nE))).r (y 2) WA:=hRWA 2 (by decide)
 have hy5:((NM w.heap.size m)).r (y 5) WA:=hRWA 5 (by decide)
 clear hRWA
 obtain⟨vb,e5,ho⟩:=hy5
 rw[e5]
 clear hy2 e5
 have hbelA:=ae hbel0 hbWA
 obtain⟨xb,cb',rfl,_⟩:=ho.rd
 refine az rfl _ (.tmp 2) (.tmp 8) rfl (w.heap.size+1) _ rfl rfl _ _ (hout.ext hbWA) rfl mem_size (by simp[Value.oneCell']) ?_
 intro w2 hq hgr
 have hbel2:Below w.heap.size w w2:=hbelA.grown hgr hbelA.size (fun k hk=>by cases hk;omega)
 have hc:=hq.cell
 go_wp2
 simp[bodyPost,results,go_sem,Tryz.results73,hc]
 exact⟨ak ho (hout.ext hbWA) (by decide) hgr,hbel2⟩
theorem Og (f g:Fr) (W:World):(Op.equalIn 10000 81 (.agg (qi f)) (.agg (qi g))).run Tryz.prog W = .ok (f==g) W:=by
 have e:=Mv f.p g.p W
 rw[MX]
 simp only[qi]
 by_cases h0:(f.p==g.p)=true
 ·rw[h0] at e ⊢
  by_cases h1:(f.r==g.r)=true
  ·by_cases h2:(f.u==g.u)=true
   ·by_cases h3:(f.d==g.d)=true
    ·by_cases h4:(f.f==g.f)=true
     ·by_cases h5:(f.i==g.i)=true
      ·simp[go_sem,e,h1,h2,h3,h4,h5]
      ·simp[go_sem,e,h1,h2,h3,h4,h5]
     ·simp[go_sem,e,h1,h2,h3,h4]
    ·simp[go_sem,e,h1,h2,h3]
   ·simp[go_sem,e,h1,h2]
  ·simp[go_sem,e,h1]
 ·rw[Bool.not_eq_true] at h0
  rw[h0] at e ⊢
  simp[go_sem,e]
theorem Mg (f g:Fr) (b:Bool) (h:(f==g)=b) (W:World):(Op.equalIn 10000 81 (.agg #[.int .u8 f.p[0].toNat,.int .u8 f.p[1].toNat,.int .u8 f.p[2].toNat,.int .u8 f.p[3].toNat,.int .u8 f.p[4].toNat,.int .u8 f.p[5].toNat,.int .u8 f.p[6].toNat,.int .u8 f.p[7].toNat,.int .i64 f.r,.bool f.u,.bool f.d,.int .i64 f.f,.int .i64 f.i]) (.agg #[.int .u8 g.p[0].toNat,.int .u8 g.p[1].toNat,.int .u8 g.p[2].toNat,.int .u8 g.p[3].toNat,.int .u8 g.p[4].toNat,.int .u8 g.p[5].toNat,.int .u8 g.p[6].toNat,.int .u8 g.p[7].toNat,.int .i64 g.r,.bool g.u,.bool g.d,.int .i64 g.f,.int .i64 g.i])).run Tryz.prog W = .ok b W:=by
 rw[←h];exact Og f g W
theorem Fy (m n:Mem) (a:Option Addr) (c:Nat) (a' : Option Addr) (c' : Nat) (w:World) (h:Ih w a c m) (h' : Ih w a' c' n) :
  Calls Tryz.prog 44 #[.agg #[.slice a m.fs.length c,.int .i64 m.hand],.agg #[.slice a' n.fs.length c',.int .i64 n.hand]] w fun e w'=>e = .returned (.bool (DY m n))∧Below w.heap.size w w':=by
 go_enter Tryz.func44,Tryz.ntmps44
 go_upto_region 1 with (fail)
 refine mg (fun W=>Code.wp _ _ _ _ W) fun W0 hb0 hx0 hy0 hs0 => ?_
 clear hs0
 have hcx:=hx0.cell
 have hcy:=hy0.cell
 by_cases hh:m.hand=n.hand
 ·have hhb:(m.hand != n.hand)=false:=by simp[hh]
  have hh':=Lib.hid hh
  clear hh
  by_cases hl:m.fs.length=n.fs.length
  ·have hne:((m.fs.length:Int) != (n.fs.length:Int))=false:=by simp[hl]
   have lb:=Nat.le_trans h.le h.mx
   unfold maxLen at lb
   have hl':=Lib.hid hl
   clear hl
   go_wp2
   clear hcx hcy
   go_loopw [23] (fun i wr => ∃k:Nat,k≤m.fs.length∧i = .int .i64 k∧Below w.heap.size w wr∧aF wr w.heap.size #[.slice a m.fs.length c,.int .i64 m.hand] 28∧aF wr (w.heap.size+1) #[.slice a' n.fs.length c',.int .i64 n.hand] 28∧∀i (h:i<m.fs.length),i<k→m.fs[i]=n.fs[i]'(by have:=hl'.out;omega)) (fun i _=>m.fs.length-(intOf i).toNat)
   case atStart=>exact⟨0,Nat.zero_le _,rfl,hb0,hx0,hy0,fun i _ h=>absurd h (Nat.not_lt_zero _)⟩
   case round=>
    obtain⟨k,hk,rfl,hbel,hx,hy,hp⟩:=hrel
    clear hx0 hy0 hb0
    have hp':=Lib.hid hp
    clear hp
    have hcx:=hx.cell
    have hcy:=hy.cell
    by_cases hlt:k<m.fs.length
    ·have hlt' : k<n.fs.length:=by have:=hl'.out;omega
     obtain⟨b,off,rfl,hc⟩:=yZ (h.below hbel).rd k hlt
     obtain⟨b',off',rfl,hc'⟩:=yZ (h'.below hbel).rd k hlt'
     obtain⟨c0,c1,c2,c3,c4,c5,c6,c7,c8,c9,ca,cb,cc⟩:=hc
     obtain⟨d0,d1,d2,d3,d4,d5,d6,d7,d8,d9,da,db,dc⟩:=hc'
     have k1:(k:Int)<(n.fs.length:Int):=by omega
     by_cases he:m.fs[k]=n.fs[k]
     ·have hE:=Mg m.fs[k] n.fs[k] true (beq_iff_eq.2 he)
      have he':=Lib.hid he
      clear he
      go_wp2_with fail
      go_quiet (fail)
      go_wp2
      go_roundw
      case rel=>exact⟨k+1,by omega,by go_num,below_drewN hbel _,hx.drewN _,hy.drewN _,Al hl'.out hlt hp'.out he'.out⟩
      case measure=>simp[intOf];omega
     ·have hE:=Mg m.fs[k] n.fs[k] false (beq_eq_false_iff_ne.2 he)
      have he':=Lib.hid he
      clear he
      go_wp2_with fail
      go_quiet (fail)
      go_wp2
      go_ret
      exact⟨by rw[uu (.inr (BA k hlt hlt' he'.out))];rfl,below_drewN hbel _⟩
    ·have hall:=Lib.hid (zU hl'.out k hlt hp'.out)
     go_wp2
     go_ret
     exact⟨by rw[uy.2 (by cases m;cases n;simp only[Mem.mk.injEq];exact⟨hall.out,hh'.out⟩)];rfl,hbel⟩
  ·have hne:((m.fs.length:Int) != (n.fs.length:Int))=true:=by simp;omega
   go_wp2
   go_ret
   exact⟨by rw[uu (.inr (fun e=>hl (by rw[e])))];rfl,hb0⟩
 ·have hhb:(m.hand != n.hand)=true:=by simpa using hh
  go_wp2
  go_ret
  exact⟨by rw[uu (.inl hh)];rfl,hb0⟩
theorem Gi (m:Mem) (k n:Int) (a:Option Addr) (c:Nat) (w:World) (h:Ih w a c m) :
  Calls Tryz.prog 119 #[.agg #[.slice a m.fs.length c,.int .i64 m.hand],.int .i64 k,.int .i64 n] w fun e w' => ∃vb,e = .returned (.tuple #[.agg #[vb,.int .i64 (jq m k n).hand],.int .i64 (jk m k n)])∧Own w' w.heap.size 81 13 vb (jq m k n).fs.length ((jq m k n).fs.flatMap nE)∧Below w.heap.size w w':=by
 go_enter Tryz.func119,Tryz.ntmps119
 go_wp2_with fail
 refine mg (fun W=>Calls _ _ _ W _) fun W0 hb0 hbox0 hres0 hs0 => ?_
 refine (wK m a c _ (h.below hb0)).mono ?_
 rintro e w1 ⟨rfl,hb1⟩
 have hbel1:=ae hb0 hb1
 have hbox1:=hbox0.ext hb1
 have hres1:=hres0.ext hb1
 have h1:=h.below hbel1
 clear hbox0 hres0 hb1 hb0 hs0
 have hcb:=hbox1.cell
 by_cases hw:di m=0
 ·obtain⟨hl40,hall,_,_⟩:=(eB m).1 hw
  rw[hw]
  by_cases hk:k<0∨(m.fs.length:Int)≤k
  ·have q1:jk m k n=5:=by unfold jk;rw[if_neg (by omega),if_pos (by omega)]
   have q3:jq m k n=noM:=by unfold jq;rw[if_neg (by omega)]
   clear hall
   rcases hk with hk|hk
   all_goals
    go_wp2_with (refine az rfl _ (.tmp 6) (.tmp 35) rfl (w.heap.size+1) #[.slice none 0 0,.int .i64 0] rfl rfl _ _ hres1 rfl mem_size (lm _ _ _ _) ?_)
    all_goals
     intro w5 hr5 hgr
     have hbel5:=(hbel1).grown hgr (hbel1).size (fun k hk=>by cases hk;omega)
     have hcr:=hr5.cell
     go_wp2
     simp[bodyPost,results,go_sem,Tryz.results119,hcr,q1,q3,noM]
     exact⟨Own.nil _ _ _ _,hbel5⟩
  ·obtain⟨k,rfl⟩:=Int.eq_ofNat_of_zero_le (show 0≤k by omega)
   have hkl:k<m.fs.length:=by omega
   have hk1:¬(m.fs.length:Int)≤(k:Int):=by omega
   have hkz:(k:Int)<(m.fs.length:Int):=by omega
   obtain⟨⟨hr0,hr1,_⟩,_,_⟩:=(iy m.fs[k]).1 (hall _ (List.getElem_mem hkl))
   have hg:m.fs.getD (k:Int).toNat fr0=m.fs[k]:=by simp[hkl]
   clear hall hk
   obtain⟨b,off,rfl,hc⟩:=yZ h1.rd k hkl
   have c8:=hc.c8
   by_cases hr:m.fs[k].r=0
   ·have q1:jk m k n=5:=by unfold jk;rw[if_neg (by omega),hg,if_pos (.inr (.inr hr))]
    have q3:jq m k n=noM:=by unfold jq;rw[if_neg (by omega)]
    have hrb:(m.fs[k].r==0)=true:=by simpa using hr
    clear hg
    go_wp2_with (refine az rfl _ (.tmp 6) (.tmp 35) rfl (w.heap.size+1) #[.slice none 0 0,.int .i64 0] rfl rfl _ _ hres1 rfl mem_size (lm _ _ _ _) ?_)
    all_goals
     intro w5 hr5 hgr
     have hbel5:=(hbel1).grown hgr (hbel1).size (fun k hk=>by cases hk;omega)
     have hcr:=hr5.cell
     go_wp2
     simp[bodyPost,results,go_sem,Tryz.results119,hcr,q1,q3,noM]
     exact⟨Own.nil _ _ _ _,hbel5⟩
   ·have hrb:(m.fs[k].r==0)=false:=by simpa using hr
    by_cases hn:n < -m.fs[k].r∨1000-m.fs[k].r<n
    ·have q1:jk m k n=3:=by unfold jk;rw[if_neg (by omega),hg,if_neg (by omega),if_pos hn]
     have q3:jq m k n=noM:=by unfold jq;rw[if_neg (by omega)]
     clear hg
     rcases hn with hn|hn
     all_goals
      go_wp2_with (refine az rfl _ (.tmp 6) (.tmp 56) rfl (w.heap.size+1) #[.slice none 0 0,.int .i64 0] rfl rfl _ _ hres1 rfl mem_size (lm _ _ _ _) ?_)
      all_goals
       intro w5 hr5 hgr
       have hbel5:=(hbel1).grown hgr (hbel1).size (fun k hk=>by cases hk;omega)
       have hcr:=hr5.cell
       go_wp2
       simp[bodyPost,results,go_sem,Tryz.results119,hcr,q1,q3,noM]
       exact⟨Own.nil _ _ _ _,hbel5⟩
    ·have q1:jk m k n=0:=by unfold jk;rw[if_neg (by omega),hg,if_neg (by omega),if_neg hn]
     have q3:jq m k n=⟨m.fs.set k (iU m.fs[k] n),m.hand⟩:=by unfold jq;rw[if_pos q1,hg];rfl
     have Q1:=Lib.hid q1
     have Q3:=Lib.hid q3
     have n1:¬n < -m.fs[k].r:=by omega
     have n2:¬1000-m.fs[k].r<n:=by omega
     clear hg q1 q3 hn hr
     go_wp2_with fail
     refine (Be m _ c _ h1 (by omega)).mono ?_
     rintro e w2 ⟨vb,rfl,ho,hb2⟩
     have hbel2:=ae hbel1 hb2
     have hres2:=hres1.ext hb2
     have hge1:=hbel1.size
     have hgx:w.heap.size+2≤w1.heap.size:=by have:=hres1.lt;omega
     obtain⟨xb,cb',rfl,_⟩:=Eb ho
     clear hcb hbox1 hres1 h1 hb2 hc c8
     go_upto_region 9 with (fail)
     refine fo (fun W=>Code.wp _ _ _ _ W) fun w3 hb3 hm3 hs3 => ?_
     have hbel3:=ae hbel2 hb3
     have hres3:=hres2.ext hb3
     have ho3:=ho.below hb3
     have hgy:w.heap.size+2≤w2.heap.size:=by have:=hbel2.size;have:=hres2.lt;omega
     clear hres2 ho hb3 hs3
     obtain⟨gb,offb,capb,hvb,hBb,hgl,⟨csg,hgb⟩,hcc,hfz,hset⟩:=wm eT (by decide) rfl ho3 k hkl 8 (by decide) (.int .i64 (m.fs[k].r+n)) { m.fs[k] with r:=m.fs[k].r+n } rfl
     cases hvb
     have hc8:=hcc 8 (.int .i64 m.fs[k].r) rfl
     have hcm:=hm3.cell
     clear hcc
     have hlt3:=hm3.lt
     have hgm:w2.heap.size≠gb:=by
      intro e;subst e
      unfold aF at hm3 hgb
      rw[hm3] at hgb
      cases hgb
     go_upto_region 11 with (fail)
     have hm4:=hm3.setCell_other ⟨gb,offb+k*13+8,none⟩ (.int .i64 (m.fs[k].r+n)) (by simpa using hgm)
     have hres4:=hres3.setCell_other ⟨gb,offb+k*13+8,none⟩ (.int .i64 (m.fs[k].r+n)) (by simp;omega)
     have hbel4:Below w.heap.size w (w3.setCell ⟨gb,offb+k*13+8,none⟩ (.int .i64 (m.fs[k].r+n))):=hbel3.setCell (by simp;omega) _
     generalize w3.setCell ⟨gb,offb+k*13+8,none⟩ (.int .i64 (m.fs[k].r+n))=w4 at *
     clear hm3 hres3 hbel3 ho3 hgb hfz hc8 hcm hgl hlt3
     have hls:(m.fs.set k { m.fs[k] with r:=m.fs[k].r+n }).length=m.fs.length:=by simp
     have hkl' : k<(m.fs.set k { m.fs[k] with r:=m.fs[k].r+n }).length:=by omega
     obtain⟨_,_,hv,_,_,_,hrd4⟩:=hset.rd
     cases hv
     obtain⟨_,_,hv,hc4⟩:=yZ hrd4 k hkl'
     cases hv
     rw[List.getElem_set_self] at hc4
     have c8:=hc4.c8
     simp only at c8
     clear hc4 hrd4
     have hcm:=hm4.cell
     by_cases hz:m.fs[k].r+n=0
     ·have hhf:Hid (iU m.fs[k] n=frZ):=by unfold iU;exact if_pos hz
      obtain⟨_,_,_,curb,hv,_,hgb4,hfb,hsetb⟩:=oZ eT (by decide) hls hset k hkl
      cases hv
      rw[hz] at c8
      clear hz hset
      go_wp2_with (refine eX rfl _ (.tmp 78) (.tmp 77) rfl gb (offb+k*13) (qi frZ) rfl rfl curb 81 hgb4 (by show _+13≤_;omega) frame_size (mH _) ?_)
      intro w5 hq5 hgr5
      have hB5:=hsetb w5 frZ hq5
      rw[List.set_set] at hB5
      have hm5:=bD hm4 hgb4 (by decide) hgr5
      have hres5:=bD hres4 hgb4 (by decide) hgr5
      have hbel5:Below w.heap.size w w5:=hbel4.grown hgr5 hbel4.size (fun k hk=>by cases hk;omega)
      clear hq5 hsetb hgb4 hm4 hres4 hcm c8 hgr5 hbel4
      have hcm:=hm5.cell
      go_wp2_with (refine az rfl _ (.tmp 6) (.tmp 79) rfl (w.heap.size+1) #[.slice (some ⟨gb,offb,none⟩) m.fs.length cb',.int .i64 m.hand] rfl rfl _ _ hres5 (EM _ _ _ _ _ _ _ _) mem_size (lm _ _ _ _) ?_)
      intro w8 hr8 hgr8
      have hB8:=ak hB5 hres5 (by decide) hgr8
      have hbel8:=hbel5.grown hgr8 hbel5.size (fun k hk=>by cases hk;omega)
      have hcr:=hr8.cell
      clear hcm
      go_wp2
      simp[bodyPost,results,go_sem,Tryz.results119,hcr,Q1.out,Q3.out,hhf.out]
      exact⟨by have:=hB8.mono (show w.heap.size≤w1.heap.size from hge1);simpa using this,hbel8⟩
     ·have hhf:Hid (iU m.fs[k] n = { m.fs[k] with r:=m.fs[k].r+n }):=by unfold iU;exact if_neg hz
      have hzb:(m.fs[k].r+n==0)=false:=by simpa using hz
      clear hz
      go_wp2_with (refine az rfl _ (.tmp 6) (.tmp 79) rfl (w.heap.size+1) #[.slice (some ⟨gb,offb,none⟩) m.fs.length cb',.int .i64 m.hand] rfl rfl _ _ hres4 (EM _ _ _ _ _ _ _ _) mem_size (lm _ _ _ _) ?_)
      intro w8 hr8 hgr8
      have hB8:=ak hset hres4 (by decide) hgr8
      have hbel8:=hbel4.grown hgr8 hbel4.size (fun k hk=>by cases hk;omega)
      have hcr:=hr8.cell
      clear hcm
      go_wp2
      simp[bodyPost,results,go_sem,Tryz.results119,hcr,Q1.out,Q3.out,hhf.out]
      exact⟨by have:=hB8.mono (show w.heap.size≤w1.heap.size from hge1);simpa using this,hbel8⟩
 ·have q1:jk m k n=di m:=by unfold jk;rw[if_pos hw]
  have q3:jq m k n=noM:=by unfold jq;rw[if_neg (by omega)]
  have hn:(di m != 0)=true:=by simpa using hw
  go_wp2_with (refine az rfl _ (.tmp 6) (.tmp 15) rfl (w.heap.size+1) #[.slice none 0 0,.int .i64 0] rfl rfl _ _ hres1 rfl mem_size (lm _ _ _ _) ?_)
  all_goals
   intro w5 hr5 hgr
   have hbel5:=(hbel1).grown hgr (hbel1).size (fun k hk=>by cases hk;omega)
   have hcr:=hr5.cell
   go_wp2
   simp[bodyPost,results,go_sem,Tryz.results119,hcr,q1,q3,noM]
   exact⟨Own.nil _ _ _ _,hbel5⟩
theorem bV {P:Program} {ρ:Operand→Value} {o:Oper} {w:World} {ty:TypeId} {x:Operand} {b off:Nat} {vs:List Value} {d:TypeDesc} (ho:o.op = .load ty x) (hx:ρ x = .pointer (some ⟨b,off,none⟩)) (hrd:cZ w (some ⟨b,off,none⟩) vs)
  (hu:P.underlying ty=some d) (hd:aggB d=true) (hi:(P.info? ty).map (·.size)=some vs.length):(execOp ρ o).run P w = .ok (.value (.agg vs.toArray)) w:=by
 unfold execOp
 simp only[ho,hx,Instr.loadAt,Instr.sureAddr,Sem.run_bind,Sem.run_pure,Result.andThen_ok,gF hrd hu hd hi]
def fI (e:En):Array Value:=#[.int .i64 e.k,.int .i64 e.n,.bool e.w]
def ik (e:En):List Value:=(fI e).toList
theorem dF (e:En):(ik e).length=3:=rfl
structure zJ (w:World) (cs:Array Value) (t:Tb):Prop where
 sz:cs.size=8
 at' : ∀k (h:k<8),∃a c,cs[k]?=some (.slice a t[k].length c)∧t[k].length≤c∧c≤maxLen∧(a=none→c=0)∧cZ w a (t[k].flatMap ik)
theorem zJ.below {w w' : World} {cs:Array Value} {t:Tb} (h:zJ w cs t) (hb:Below w.heap.size w w'):zJ w' cs t:=
 ⟨h.sz,fun k hk=>by obtain⟨a,c,h1,h2,h3,h4,h5⟩:=h.at' k hk;exact⟨a,c,h1,h2,h3,h4,h5.below hb⟩⟩
theorem zJ.one {w:World} {cs:Array Value} {t:Tb} (h:zJ w cs t):cs.all (·.oneCell')=true:=by
 rw[Array.all_eq_true]
 intro i hi
 obtain⟨a,c,h1,_⟩:=h.at' i (by have:=h.sz;omega)
 rw[Array.getElem?_eq_getElem hi] at h1
 rw[Option.some.inj h1]
 rfl
theorem vg {cs:Array Value} {k:Nat} {v:Value} (h:k<8) (hv:cs[k]?=some v) (w:World):(Instr.index 53 (.agg cs) (.int .i64 k)).run Tryz.prog w = .ok v w:=
 xC Tryz.underlying53 Tryz.underlying51 Ld (by kernel_rfl) _ k _ h hv _ w
theorem tab_agg:aggB (.array 8 51)=true:=rfl
theorem tab_size:(Tryz.prog.info? 53).map (·.size)=some 8:=by kernel_rfl
theorem yF {w:World} {a:Option Addr} {l:List En} (h:cZ w a (l.flatMap ik)) (k:Nat) (hk:k<l.length):∃b off,a=some ⟨b,off,none⟩∧w.cell? ⟨b,off+k*3,none⟩=some (.int .i64 l[k].k)∧w.cell? ⟨b,off+k*3+1,none⟩=some (.int .i64 l[k].n)∧w.cell? ⟨b,off+k*3+2,none⟩=some (.bool l[k].w):=by
 obtain⟨b,off,ha,hc⟩:=h.elem dF (by decide) k hk
 exact⟨b,off,ha,hc 0 _ rfl,hc 1 _ rfl,hc 2 _ rfl⟩
theorem yU (e:En) (w:World):Calls Tryz.prog 138 #[.agg #[.int .i64 e.k,.int .i64 e.n,.bool e.w]] w fun r w'=>r = .returned (.int .i64 (dC e))∧Below w.heap.size w w':=by
 go_enter Tryz.func138,Tryz.ntmps138
 go_wp2
 all_goals go_ret
 all_goals refine⟨?_,(Below.refl _ _).alloc (Nat.le_refl _) _⟩
 all_goals go_light
 all_goals refine congrArg (fun z=>Ending.returned (.int .i64 z)) ?_
 all_goals simp only[dC]
 all_goals simp_all
 all_goals omega
theorem wR (t:Tb) (cs:Array Value) (w:World) (h:zJ w cs t):Calls Tryz.prog 112 #[.agg cs] w fun r w'=>r = .returned (.int .i64 (bI t))∧Below w.heap.size w w':=by
 go_enter Tryz.func112,Tryz.ntmps112
 go_upto_region 1 with (fail)
 refine fo (fun W=>Code.wp _ _ _ _ W) fun W0 hb0 hx0 hs0 => ?_
 clear hs0
 go_wp2_with (refine dQ rfl 53 (.tmp 1) rfl w.heap.size 0 rfl cs.toList hx0.rd _ Tryz.underlying53 tab_agg (by rw[Array.length_toList,h.sz];exact tab_size) ?_)
 clear hx0
 go_loopw [10] (fun i wr => ∃k:Nat,k≤8∧i = .int .i64 k∧Below w.heap.size w wr∧∀i (hi:i<8),i<k→iI t[i]=0) (fun i _=>8-(intOf i).toNat)
 case atStart=>exact⟨0,Nat.zero_le _,rfl,hb0,fun i _ h=>absurd h (Nat.not_lt_zero _)⟩
 case round=>
  obtain⟨k,hk,rfl,hbr,hp0⟩:=hrel
  have hp:=Lib.hid hp0
  clear hp0 hb0
  by_cases hlt:k<8
  ·obtain⟨a,c,hcs,hle,hmx,hnil,hrd⟩:=h.at' k hlt
   have hix:=fun W=>vg hlt hcs W
   have hd8:decide ((k:Int)<8)=true:=by simp;omega
   unfold maxLen at hmx
   clear hcs
   by_cases h08:t[k].length=0∨t[k].length=8
   ·have H08:=Lib.hid h08
    have q1:((t[k].length:Int) != 0)=true∧((t[k].length:Int) != 8)=false∨((t[k].length:Int) != 0)=false∧((t[k].length:Int) != 8)=true:=by
     rcases h08 with e|e<;>simp[e]
    clear h08
    rcases q1 with ⟨q1,q2⟩|⟨q1,q2⟩
    all_goals
     go_wp2
     clear hix
     go_loopw [23,5] (fun i s wr' => ∃j:Nat,j≤t[k].length∧i = .int .i64 j∧s = .bool (qo t[k] j)∧Below w.heap.size w wr'∧∀i (hi:i<t[k].length),i<j→dC t[k][i]=0) (fun i _ _=>t[k].length-(intOf i).toNat)
     case atStart=>exact⟨0,Nat.zero_le _,rfl,rfl,hbr,fun i _ h=>absurd h (Nat.not_lt_zero _)⟩
     case round=>
      obtain⟨j,hj,rfl,rfl,hbq,hq0⟩:=hrel
      have hq:=Lib.hid hq0
      clear hq0 hbr
      by_cases hjl:j<t[k].length
      ·obtain⟨b,off,rfl,c0,c1,c2⟩:=yF (hrd.below hbq) j hjl
       go_wp2_with fail
       refine fo (fun W=>Calls _ _ _ W _) fun W3 hb3 hx3 hs3 => ?_
       have hbel3:=ae hbq hb3
       clear hbq hs3 c0 c1 c2 hb3
       refine (yU t[k][j] _).mono ?_
       rintro e w4 ⟨rfl,hb4⟩
       have hbel4:=ae hbel3 hb4
       have hx4:=(hx3.ext hb4).cell
       clear hx3 hb4 hbel3
       by_cases he:dC t[k][j]=0
       ·have hen:=yC t[k] j hjl
        have he':=Lib.hid he
        rw[he]
        clear he
        cases hs:qo t[k] j
        all_goals
         rw[hs] at hen
         go_wp2
         go_roundw
         case rel=>exact⟨j+1,by omega,by go_num,by rw[hen];first | rfl | (congr 1;rw[Bool.eq_iff_iff];simp),hbel4,jJ hq.out hjl he'.out⟩
         case measure=>simp[intOf];omega
       ·have he2:(dC t[k][j] != 0)=true:=by simpa using he
        have hfin:=Lib.hid (lH k hlt hp.out (by rw[rG H08.out j hjl hq.out he];exact he))
        have hfin2:=Lib.hid (rG H08.out j hjl hq.out he)
        go_wp2
        go_ret
        exact⟨aS (hfin.out.trans hfin2.out).symm,hbel4⟩
      ·have hend:=Lib.hid (pF H08.out fun i hi=>hq.out i hi (by omega))
       have hall:=Lib.hid (BH t[k] j (by omega))
       by_cases hgo:0<t[k].length∧qo t[k] j=false
       ·obtain⟨g1,g2⟩:=hgo
        have hfin2:=Lib.hid (hend.out.trans (if_pos ⟨g1,hall.out▸g2⟩))
        have hfin:=Lib.hid (lH k hlt hp.out (by rw[hfin2.out];decide))
        rw[g2]
        go_wp2
        go_ret
        exact⟨aS (hfin.out.trans hfin2.out).symm,hbq⟩
       ·have hfin2:=Lib.hid (hend.out.trans (if_neg (fun h=>hgo ⟨h.1,hall.out.trans h.2⟩)))
        have hgo2:¬0<t[k].length∨0<t[k].length∧qo t[k] j=true:=by
         by_cases hz:0<t[k].length
         ·exact .inr ⟨hz,by simpa[hz] using hgo⟩
         ·exact .inl hz
        clear hgo
        rcases hgo2 with g1|⟨g1,g2⟩
        ·go_wp2
         go_roundw
         case rel=>exact⟨k+1,by omega,by go_num,hbq,jJ hp.out hlt hfin2.out⟩
         case measure=>simp[intOf];omega
        ·rw[g2]
         go_wp2
         go_roundw
         case rel=>exact⟨k+1,by omega,by go_num,hbq,jJ hp.out hlt hfin2.out⟩
         case measure=>simp[intOf];omega
   ·have q1:((t[k].length:Int) != 0)=true:=by rw[bne_iff_ne];omega
    have q2:((t[k].length:Int) != 8)=true:=by rw[bne_iff_ne];omega
    have hfin2:=Lib.hid (qJ (h:=t[k]) (by omega))
    have hfin:=Lib.hid (lH k hlt hp.out (by rw[hfin2.out];decide))
    go_wp2
    go_ret
    exact⟨aS (hfin.out.trans hfin2.out).symm,hbr⟩
  ·have hfin:=Lib.hid (oq fun i hi=>hp.out i hi (by omega))
   go_wp2
   go_ret
   exact⟨aS hfin.out.symm,hbr⟩
theorem entry_info:(Tryz.prog.info? 89).map (fun i=>(i.zero,i.size,i.bytes))=some (some (.agg #[.int .i64 0,.int .i64 0,.bool false]),3,24):=by kernel_rfl
theorem mE (l:List En):(l.flatMap ik).length=l.length*3:=Pw.flat_len ik 3 dF l
theorem eY (f:En):(fI f).all (·.oneCell')=true:=by simp[fI,Value.oneCell']
theorem uM (l:List En):∀u∈l.flatMap ik,u.oneCell' = true:=by
 intro u hu
 obtain⟨f,_,hf⟩:=List.mem_flatMap.1 hu
 have:=eY f
 rw[←Array.all_toList,List.all_eq_true] at this
 exact this u hf
theorem xZ (l:List En) (a:Option Addr) (c:Nat) (w:World) (hle:l.length≤c) (hnil:a=none→c=0) (hrd:cZ w a (l.flatMap ik)) (hb:l.length*24≤140737488355328) :
  Calls Tryz.prog 117 #[.slice a l.length c] w fun e w' => ∃v,e = .returned v∧Own w' w.heap.size 89 3 v l.length (l.flatMap ik)∧Below w.heap.size w w':=by
 cases a with
 | none=>
  have h0:=hnil rfl
  have hl:l=[]:=List.eq_nil_of_length_eq_zero (by omega)
  subst hl
  subst h0
  have hq:=fun W=>Lib.run_eql_slice_nil (P:=Tryz.prog) W 51 _ none 0 0 0 0 Tryz.underlying51
  go_enter Tryz.func117,Tryz.ntmps117
  go_wp2
  go_ret
  exact⟨_,rfl,by simpa using Own.nil _ _ _ _,Below.refl _ _⟩
 | some ad=>
  have hq:=fun W=>Lib.run_eql_slice_nil (P:=Tryz.prog) W 51 _ (some ad) l.length c 0 0 Tryz.underlying51
  go_enter Tryz.func117,Tryz.ntmps117
  go_wp2_with (at_builtin;go_must (refine eu rfl _ _ 51 rfl w.heap.size 89 (.agg #[.int .i64 0,.int .i64 0,.bool false]) 3 24 Tryz.underlying51 entry_info rfl (by decide) _ 0 [] rfl ?own (some ad) l.length c (l.flatMap ik) rfl (fun h=>(by cases h)) hle (mE l) ?rd (uM l) (by unfold maxLen;omega) (by simpa using hb) ?bb ?k))
  case own=>exact⟨rfl,.inr ⟨w.heap.size,0,0,#[],rfl,Nat.le_refl _,aF.new _ _ _,Nat.le_refl _,Nat.zero_le _,by simp,fun j u h=>by simp at h⟩⟩
  case rd=>exact hrd.below ((Below.refl _ _).alloc (Nat.le_refl _) _)
  case bb=>exact dR _ _
  intro v w1 hown hgr
  go_wp2
  go_ret
  exact⟨v,rfl,by simpa using hown,((Below.refl _ _).alloc (Nat.le_refl _) _).grown hgr (dR _ _) (fun k hk=>by cases hk;exact Nat.le_refl _)⟩
structure lc (w:World) (B:Nat) (cs:Array Value) (t:Tb):Prop where
 sz:cs.size=8
 own:∀k (h:k<8),∃v,cs[k]?=some v∧Own w B 89 3 v t[k].length (t[k].flatMap ik)
 apart:∀(j k:Nat) (v u:Value),j<k→cs[j]?=some v→cs[k]?=some u→∀g,v.ownBlock=some g→u.ownBlock≠some g
theorem lc.rd {w:World} {B:Nat} {cs:Array Value} {t:Tb} (h:lc w B cs t):zJ w cs t:=
 ⟨h.sz,fun k hk=>by
  obtain⟨v,h1,h2⟩:=h.own k hk
  obtain⟨a,c,rfl,h3,h4,h5,h6⟩:=h2.rd
  exact⟨a,c,h1,h3,h4,h5,h6⟩⟩
theorem lc.below {w w' : World} {B:Nat} {cs:Array Value} {t:Tb} (h:lc w B cs t) (hb:Below w.heap.size w w'):lc w' B cs t:=
 ⟨h.sz,fun k hk=>by obtain⟨v,h1,h2⟩:=h.own k hk;exact⟨v,h1,h2.below hb⟩,h.apart⟩
theorem lc.mono {w:World} {B B' : Nat} {cs:Array Value} {t:Tb} (h:lc w B cs t) (hB:B'≤B):lc w B' cs t:=
 ⟨h.sz,fun k hk=>by obtain⟨v,h1,h2⟩:=h.own k hk;exact⟨v,h1,h2.mono hB⟩,h.apart⟩
theorem lc.keep {w w' : World} {B:Nat} {cs:Array Value} {t:Tb} (h:lc w B cs t) {g:Nat} {cs' : Array Value} {T:TypeId} (hk:aF w g cs' T) (hT:T≠89) (hgr:w.grownBy w' (some g)):lc w' B cs t:=
 ⟨h.sz,fun k hk'=>by obtain⟨v,h1,h2⟩:=h.own k hk'; exact⟨v,h1,ak h2 hk hT hgr⟩,h.apart⟩
structure Kt (w:World) (B:Nat) (cs ca:Array Value) (t:Tb) (k:Nat):Prop where
 sz:ca.size=8
 old:∀i,k≤i→ca[i]?=cs[i]?
 own:∀i (h:i<8),i<k→∃v,ca[i]?=some v∧Own w B 89 3 v t[i].length (t[i].flatMap ik)
 apart:∀(j i:Nat) (v u:Value),j<i→i<k→ca[j]?=some v→ca[i]?=some u→∀g,v.ownBlock=some g→u.ownBlock≠some g
theorem Kt.start {w:World} {B:Nat} {cs:Array Value} {t:Tb} (h:cs.size=8):Kt w B cs cs t 0:=⟨h,fun _ _=>rfl,fun _ _ h=>absurd h (Nat.not_lt_zero _),fun _ _ _ _ _ h=>absurd h (Nat.not_lt_zero _)⟩
theorem Da {w:World} {B:Nat} {e:TypeId} {sz:Nat} {v:Value} {n:Nat} {xs:List Value} (h:Own w B e sz v n xs) (g:Nat) (hg:v.ownBlock=some g):g<w.heap.size:=by
 obtain⟨cs,hb⟩:=ic h g hg
 exact hb.lt
theorem Kt.step {w w4 w5:World} {B b:Nat} {cs ca:Array Value} {t:Tb} {k:Nat} {T:TypeId} (h:Kt w B cs ca t k) (hB:B≤w.heap.size) (hk:k<8) {v:Value} (hb:Below w.heap.size w w4) (ho:Own w4 w.heap.size 89 3 v t[k].length (t[k].flatMap ik))
  (hblk:aF w4 b ca T) (hT:T≠89) (hg:w4.grownBy w5 (some b)):Kt w5 B cs (ca.setIfInBounds k v) t (k+1) where
 sz:=by simp[h.sz]
 old:=fun i hi=>by rw[Array.getElem?_setIfInBounds_ne (by omega)];exact h.old i (by omega)
 own:=fun i hi hik=>by
  by_cases e:i=k
  ·subst e
   exact⟨v,by rw[Array.getElem?_setIfInBounds_self_of_lt (by rw[h.sz];exact hi)],ak (ho.mono hB) hblk hT hg⟩
  ·obtain⟨u,h1,h2⟩:=h.own i hi (by omega)
   exact⟨u,by rw[Array.getElem?_setIfInBounds_ne (by omega)];exact h1,ak (h2.below hb) hblk hT hg⟩
 apart:=fun j i x y hji hi hx hy g hgx hgy=>by
  have hjk:j≠k:=by omega
  rw[Array.getElem?_setIfInBounds_ne (by omega)] at hx
  by_cases e:i=k
  ·subst e
   rw[Array.getElem?_setIfInBounds_self_of_lt (by rw[h.sz];exact hk)] at hy
   cases hy
   have h1:=ho.ge g hgy
   obtain⟨u,h2,h3⟩:=h.own j (by omega) (by omega)
   rw[h2] at hx
   cases hx
   have:=Da h3 g hgx
   omega
  ·rw[Array.getElem?_setIfInBounds_ne (by omega)] at hy
   exact h.apart j i x y hji (by omega) hx hy g hgx hgy
theorem Kt.fin {w:World} {B:Nat} {cs ca:Array Value} {t:Tb} (h:Kt w B cs ca t 8):lc w B ca t:=
 ⟨h.sz,fun k hk=>h.own k hk hk,fun j k v u hjk h1 h2=>h.apart j k v u hjk (by
  rcases Nat.lt_or_ge k 8 with hk|hk
  ·exact hk
  ·rw[Array.getElem?_eq_none (by rw[h.sz];exact hk)] at h2;cases h2) h1 h2⟩
theorem Bn (t:Tb) (cs:Array Value) (w:World) (h:zJ w cs t) (hz:ul t):Calls Tryz.prog 77 #[.agg cs] w fun r w' => ∃cs',r = .returned (.agg cs')∧lc w' w.heap.size cs' t∧Below w.heap.size w w':=by
 go_enter Tryz.func77,Tryz.ntmps77
 go_upto_region 1 with (fail)
 refine mg (fun W=>Code.wp _ _ _ _ W) fun W0 hb0 hx0 hres0 hs0 => ?_
 clear hs0
 go_wp2_with (refine dQ rfl 53 (.tmp 1) rfl w.heap.size 0 rfl cs.toList hx0.rd _ Tryz.underlying53 tab_agg (by rw[Array.length_toList,h.sz];exact tab_size) ?_)
 have hM0:Kt W0 w.heap.size cs cs t 0:=Kt.start h.sz
 go_loopw [6] (fun i wr => ∃(k:Nat) (ca:Array Value),k≤8∧i = .int .i64 k∧Below w.heap.size w wr∧aF wr w.heap.size ca 53∧aF wr (w.heap.size+1) #[.slice none 0 0,.slice none 0 0,.slice none 0 0,.slice none 0 0,.slice none 0 0,.slice none 0 0,.slice none 0 0,.slice none 0 0] 53∧Kt wr w.heap.size cs ca t k) (fun i _=>8-(intOf i).toNat)
 case atStart=>exact⟨0,cs,Nat.zero_le _,rfl,hb0,hx0,hres0,hM0⟩
 case round=>
  obtain⟨k,ca,hk,rfl,hbr,hx,hres,hM⟩:=hrel
  clear hb0 hx0 hres0 hM0
  by_cases hlt:k<8
  ·obtain⟨a,c,hcs,hle,hmx,hnil,hrd⟩:=h.at' k hlt
   have hix:=fun W=>vg hlt hcs W
   have hd8:decide ((k:Int)<8)=true:=by simp;omega
   have hca:=(hM.old k (Nat.le_refl _)).trans hcs
   have HCA:=Lib.hid hca
   clear hca hcs
   go_wp2_with fail
   refine (xZ t[k] a c _ hle hnil (hrd.below hbr) (hz k hlt)).mono ?_
   rintro e w4 ⟨v,rfl,ho,hb4⟩
   have hbel4:=ae hbr hb4
   have hx4:=hx.ext hb4
   have hres4:=hres.ext hb4
   have hc4:=(hx4.cell k).trans HCA.out
   have hf4:=hx4.free k
   have hgr4:=aL w4 w.heap.size k [v]
   have hM5:=hM.step hbr.size hlt hb4 ho hx4 (by decide) hgr4
   have hx5:aF (w4.setCell ⟨w.heap.size,k,none⟩ v) w.heap.size (ca.setIfInBounds k v) 53:=hx4.setCell k v
   have hres5:=hres4.setCell_other ⟨w.heap.size,k,none⟩ v (by simp)
   have hbel5:Below w.heap.size w (w4.setCell ⟨w.heap.size,k,none⟩ v):=hbel4.grown hgr4 hbel4.size (fun k hk=>by cases hk;exact Nat.le_refl _)
   obtain⟨xa,xc,rfl,_⟩:=ho.rd
   clear hx4 hres4 hbr hx hres hM hbel4 hb4 ho hgr4 hix
   go_wp2
   go_roundw
   case rel=>exact⟨k+1,_,by omega,by go_num,hbel5,hx5,hres5,hM5⟩
   case measure=>simp[intOf];omega
  ·obtain rfl:k=8:=by omega
   have hO:=hM.fin
   have hone:=hO.rd.one
   have hsz:=hM.sz
   go_wp2_with (first | (refine dQ rfl 53 (.tmp 1) rfl w.heap.size 0 rfl ca.toList hx.rd _ Tryz.underlying53 tab_agg (by rw[Array.length_toList,hsz];exact tab_size) ?_) | (refine az rfl _ (.tmp 2) (.tmp 15) rfl (w.heap.size+1) ca rfl rfl _ _ hres (by rw[hsz];rfl) (by rw[hsz];exact tab_size) hone ?_))
   intro w5 hr5 hgr5
   have hO5:=hO.keep hres (by decide) hgr5
   have hbel5:Below w.heap.size w w5:=hbr.grown hgr5 hbr.size (fun k hk=>by cases hk;omega)
   go_wp2
   refine bodyPost_ret (v:=.agg ca) (results_cell_row Tryz.results77 _ _ (w.heap.size+1) _ ca _ _ rfl hr5 Tryz.underlying53 rfl (by rw[hsz];exact tab_size)) rfl ?_
   exact⟨_,rfl,hO5,hbel5⟩
theorem entry_size:(Tryz.prog.info? 89).map (·.size)=some 3:=by kernel_rfl
theorem Kb {w:World} {a:Option Addr} {l:List En} (h:cZ w a (l.flatMap ik)) (k:Nat) (hk:k<l.length):∃b off E,a=some ⟨b,off,none⟩∧l[k]?=some E∧w.cell? ⟨b,off+k*3,none⟩=some (.int .i64 E.k)∧w.cell? ⟨b,off+k*3+1,none⟩=some (.int .i64 E.n)∧w.cell? ⟨b,off+k*3+2,none⟩=some (.bool E.w):=by
 obtain⟨b,off,ha,h0,h1,h2⟩:=yF h k hk
 exact⟨b,off,l[k],ha,List.getElem?_eq_getElem hk,h0,h1,h2⟩
theorem xw (t:Tb) (cs:Array Value) (n:Int) (w:World) (h:zJ w cs t):Calls Tryz.prog 69 #[.agg cs,.int .i64 n] w fun r w'=>r = .returned (.agg (fI (cB t n)))∧Below w.heap.size w w':=by
 by_cases hn:0≤n∧n<64
 ·obtain⟨q,r,hq,hr,hnn,hdq,hdr⟩:=pu hn
  have hg:=rJ (t:=t) hq hr
  rw[←hnn] at hg
  have HG:=Lib.hid hg
  have HN:=Lib.hid hnn
  obtain⟨n0,n1⟩:=hn
  have hn0:decide (n<0)=false:=by simp;omega
  have hn1:decide (64≤n)=false:=by simp;omega
  obtain⟨a,c,hcs,hle,hmx,hnil,hrd⟩:=h.at' q hq
  unfold maxLen at hmx
  clear hg hnn
  go_enter Tryz.func69,Tryz.ntmps69
  go_upto_region 1 with (fail)
  refine mg (fun W=>Code.wp _ _ _ _ W) fun W0 hb0 hx0 hres0 hs0 => ?_
  clear hs0
  have hc0:=(hx0.cell q).trans hcs
  have hrd0:=hrd.below hb0
  have hq' : (q:Int)<8:=by omega
  by_cases h8:t[q].length=8
  ·obtain⟨b,off,E,rfl,hE,c0,c1,c2⟩:=Kb hrd0 r (by omega)
   have hfin:cB t n=E:=by rw[HG.out,if_pos h8,List.getD_eq_getElem?_getD,hE];rfl
   have HF:=Lib.hid hfin
   have hr' : (r:Int)<8:=by omega
   rw[h8] at hc0
   clear h8 hcs hE h hfin
   go_wp2_with (refine az rfl _ (.tmp 4) (.tmp 27) rfl (w.heap.size+1) (fI E) rfl rfl _ _ hres0 rfl entry_size (eY _) ?_)
   all_goals
    intro w5 hr5 hgr5
    have hbel5:Below w.heap.size w w5:=hb0.grown hgr5 hb0.size (fun k hk=>by cases hk;omega)
    go_wp2
    refine bodyPost_ret (v:=.agg (fI E)) (results_cell_row Tryz.results69 _ _ (w.heap.size+1) _ _ _ _ rfl hr5 Tryz.underlying89 rfl entry_size) rfl ?_
    exact⟨by rw[HF.out],hbel5⟩
  ·have hne:((t[q].length:Int) != 8)=true:=by rw[bne_iff_ne];omega
   have hfin:cB t n=zEn:=by rw[HG.out,if_neg h8]
   have HF:=Lib.hid hfin
   clear hfin
   go_wp2_with (refine az rfl _ (.tmp 4) (.tmp 19) rfl (w.heap.size+1) (fI zEn) rfl rfl _ _ hres0 rfl entry_size (eY _) ?_)
   all_goals
    intro w5 hr5 hgr5
    have hbel5:Below w.heap.size w w5:=hb0.grown hgr5 hb0.size (fun k hk=>by cases hk;omega)
    go_wp2
    refine bodyPost_ret (v:=.agg (fI zEn)) (results_cell_row Tryz.results69 _ _ (w.heap.size+1) _ _ _ _ rfl hr5 Tryz.underlying89 rfl entry_size) rfl ?_
    exact⟨by rw[HF.out],hbel5⟩
 ·have hfin:cB t n=zEn:=lS (by omega)
  have HF:=Lib.hid hfin
  have hn' : n<0∨64≤n:=by omega
  clear hfin hn
  go_enter Tryz.func69,Tryz.ntmps69
  go_upto_region 1 with (fail)
  refine mg (fun W=>Code.wp _ _ _ _ W) fun W0 hb0 hx0 hres0 hs0 => ?_
  clear hs0
  by_cases hn0:n<0
  ·skip
   go_wp2_with (refine az rfl _ (.tmp 4) (.tmp 19) rfl (w.heap.size+1) (fI zEn) rfl rfl _ _ hres0 rfl entry_size (eY _) ?_)
   all_goals
    intro w5 hr5 hgr5
    have hbel5:Below w.heap.size w w5:=hb0.grown hgr5 hb0.size (fun k hk=>by cases hk;omega)
    go_wp2
    refine bodyPost_ret (v:=.agg (fI zEn)) (results_cell_row Tryz.results69 _ _ (w.heap.size+1) _ _ _ _ rfl hr5 Tryz.underlying89 rfl entry_size) rfl ?_
    exact⟨by rw[HF.out],hbel5⟩
  ·have hn1:64≤n:=by omega
   have hn0' : decide (n<0)=false:=by simp;omega
   go_wp2_with (refine az rfl _ (.tmp 4) (.tmp 19) rfl (w.heap.size+1) (fI zEn) rfl rfl _ _ hres0 rfl entry_size (eY _) ?_)
   all_goals
    intro w5 hr5 hgr5
    have hbel5:Below w.heap.size w w5:=hb0.grown hgr5 hb0.size (fun k hk=>by cases hk;omega)
    go_wp2
    refine bodyPost_ret (v:=.agg (fI zEn)) (results_cell_row Tryz.results69 _ _ (w.heap.size+1) _ _ _ _ rfl hr5 Tryz.underlying89 rfl entry_size) rfl ?_
    exact⟨by rw[HF.out],hbel5⟩
theorem slent_size:(Tryz.prog.info? 51).map (·.size)=some 1:=by kernel_rfl
theorem xe (e:En):∀u∈ik e,u.oneCell' = true:=by
 intro u hu
 have:=eY e
 rw[←Array.all_toList,List.all_eq_true] at this
 exact this u hu
theorem Ht (e:En) (w:World):Calls Tryz.prog 140 #[.agg #[.int .i64 e.k,.int .i64 e.n,.bool e.w]] w fun r w'=>r = .returned (.bool (jw e))∧Below w.heap.size w w':=by
 go_enter Tryz.func140,Tryz.ntmps140
 go_wp2
 go_ret
 exact⟨aT (by unfold jw;rw[Bool.eq_iff_iff];simp),(Below.refl _ _).alloc (Nat.le_refl _) _⟩
theorem FT (l:List En) (a:Option Addr) (c:Nat) (w:World) (hrd:cZ w a (l.flatMap ik)) (hl:l.length≤9223372036854775807)  :
  Calls Tryz.prog 149 #[.slice a l.length c,.func (.func 140) #[] #[]] w fun e w'=>e = .returned (.int .i64 (idx jw l))∧Below w.heap.size w w':=by
 go_enter Tryz.func149,Tryz.ntmps149
 go_wp2
 go_loopw [8] (fun i wr => ∃k:Nat,k≤l.length∧i = .int .i64 k∧Below w.heap.size w wr∧∀i (h:i<l.length),i<k→jw l[i]=false) (fun i _=>l.length-(intOf i).toNat)
 case atStart=>exact⟨0,Nat.zero_le _,rfl,Below.refl _ _,fun i _ h=>absurd h (Nat.not_lt_zero _)⟩
 case round=>
  obtain⟨k,hk,rfl,hbr,hp0⟩:=hrel
  have hp:=Lib.hid hp0
  clear hp0
  by_cases hlt:k<l.length
  ·obtain⟨b,off,rfl,c0,c1,c2⟩:=yF (hrd.below hbr) k hlt
   go_wp2_with fail
   refine (Ht l[k] _).mono ?_
   rintro e w2 ⟨rfl,hb2⟩
   have hbel2:=ae hbr hb2
   clear hb2
   cases hpk:jw l[k]
   ·have hpk':=Lib.hid hpk
    clear hpk
    go_wp2
    go_roundw
    case rel=>exact⟨k+1,by omega,by go_num,hbel2,jJ hp.out hlt hpk'.out⟩
    case measure=>simp[intOf];omega
   ·have hfin:=Lib.hid (uh jw l k hlt hp.out hpk)
    clear hpk
    go_wp2
    go_ret
    exact⟨aS hfin.out.symm,hbel2⟩
  ·have hfin:=Lib.hid (lM jw l fun i h=>hp.out i h (by omega))
   go_wp2
   go_ret
   exact⟨aS hfin.out.symm,hbr⟩
theorem wL (l:List En) (a:Option Addr) (c:Nat) (w:World) (hrd:cZ w a (l.flatMap ik)) (hl:l.length≤9223372036854775807)  :
  Calls Tryz.prog 139 #[.slice a l.length c,.func (.func 140) #[] #[]] w fun e w'=>e = .returned (.bool (l.any jw))∧Below w.heap.size w w':=by
 go_enter Tryz.func139,Tryz.ntmps139
 go_wp2_with fail
 refine (FT l a c _ hrd hl).mono ?_
 rintro e w2 ⟨rfl,hb2⟩
 go_wp2
 go_ret
 exact⟨aT (lC _ _),hb2⟩
theorem oU (w:World) (B:Nat):lc w B #[.slice none 0 0,.slice none 0 0,.slice none 0 0,.slice none 0 0,.slice none 0 0,.slice none 0 0,.slice none 0 0,.slice none 0 0] zTb where
 sz:=rfl
 own:=fun k hk=>by
  refine⟨.slice none 0 0,?_,by simpa[zTb] using Own.nil w B 89 3⟩
  match k,hk with
  | 0,_=>rfl
  | 1,_=>rfl
  | 2,_=>rfl
  | 3,_=>rfl
  | 4,_=>rfl
  | 5,_=>rfl
  | 6,_=>rfl
  | 7,_=>rfl
 apart:=fun j k v u hjk h1 h2 g hg=>by
  have:v = .slice none 0 0:=by
   match j with
   | 0=>cases h1;rfl
   | 1=>cases h1;rfl
   | 2=>cases h1;rfl
   | 3=>cases h1;rfl
   | 4=>cases h1;rfl
   | 5=>cases h1;rfl
   | 6=>cases h1;rfl
   | 7=>cases h1;rfl
   | j+8=>cases h1
  subst this
  cases hg
theorem lc.put {w:World} {B:Nat} {cs:Array Value} {t:Tb} (h:lc w B cs t) {q:Nat} (hq:q<8) {v:Value} {l:List En} (ho:Own w B 89 3 v l.length (l.flatMap ik))
  (hnew:∀g,v.ownBlock=some g→∀j u,j≠q→cs[j]?=some u→u.ownBlock≠some g):lc w B (cs.setIfInBounds q v) (t.set q l) where
 sz:=by simp[h.sz]
 own:=fun k hk=>by
  by_cases e:k=q
  ·subst e
   exact⟨v,by rw[Array.getElem?_setIfInBounds_self_of_lt (by rw[h.sz];exact hk)],by simpa using ho⟩
  ·obtain⟨u,h1,h2⟩:=h.own k hk
   exact⟨u,by rw[Array.getElem?_setIfInBounds_ne (fun e2=>e e2.symm)];exact h1,by rw[Vector.getElem_set_ne hq hk (fun e2=>e e2.symm)];exact h2⟩
 apart:=fun j k x y hjk hx hy g hgx hgy=>by
  by_cases e:j=q
  ·subst e
   rw[Array.getElem?_setIfInBounds_self_of_lt (by rw[h.sz];exact hq)] at hx
   cases hx
   rw[Array.getElem?_setIfInBounds_ne (by omega)] at hy
   exact hnew g hgx k y (by omega) hy hgy
  ·rw[Array.getElem?_setIfInBounds_ne (fun e2=>e e2.symm)] at hx
   by_cases e2:k=q
   ·subst e2
    rw[Array.getElem?_setIfInBounds_self_of_lt (by rw[h.sz];exact hq)] at hy
    cases hy
    exact hnew g hgy j x e hx hgx
   ·rw[Array.getElem?_setIfInBounds_ne (fun e3=>e2 e3.symm)] at hy
    exact h.apart j k x y hjk hx hy g hgx hgy
theorem lc.wr {w:World} {B:Nat} {cs:Array Value} {t:Tb} (h:lc w B cs t) {q r:Nat} (hq:q<8) (hr:r<t[q].length) :
  ∃g off cap cur,cs[q]?=some (.slice (some ⟨g,off,none⟩) t[q].length cap)∧B≤g∧aF w g cur 89∧off+r*3+3≤cur.size ∧
   (∀j y,(ik (t[q][r]))[j]?=some y→w.cell? ⟨g,off+r*3+j,none⟩=some y) ∧
   ∀w' x,aF w' g (bC cur (off+r*3) (ik x)) 89→w.grownBy w' (some g)→lc w' B cs (t.set q (t[q].set r x)):=by
 obtain⟨v,h1,h2⟩:=h.own q hq
 obtain⟨g,off,cap,cur,rfl,hB,hb,hfit,hcell,hset⟩:=h2.put dF (by decide) r hr
 refine⟨g,off,cap,cur,h1,hB,hb,hfit,hcell,fun w' x hb' hgr=>⟨h.sz,fun k hk => ?_,h.apart⟩⟩
 by_cases e:k=q
 ·subst e
  exact⟨_,h1,by simpa using hset w' x hb'⟩
 ·obtain⟨u,h3,h4⟩:=h.own k hk
  refine⟨u,h3,?_⟩
  rw[Vector.getElem_set_ne hq hk (fun e2=>e e2.symm)]
  refine h4.grown hgr fun g' hg' he => ?_
  cases he
  rcases Nat.lt_or_gt_of_ne e with hlt|hlt
  ·exact h.apart k q _ _ hlt h3 h1 g hg' rfl
  ·exact h.apart q k _ _ hlt h1 h3 g rfl hg'
theorem Km (t:Tb) (cs:Array Value) (n:Int) (e:En) (w:World) (h:zJ w cs t) (hz:ul t):Calls Tryz.prog 118 #[.agg cs,.int .i64 n,.agg (fI e)] w fun r w' => ∃cs',r = .returned (.tuple #[.agg cs',.int .i64 (setE t n e)])∧lc w' w.heap.size cs' (setT t n e)∧Below w.heap.size w w':=by
 go_enter Tryz.func118,Tryz.ntmps118
 go_upto_region 1 with (fail)
 refine Lu (fun W=>Code.wp _ _ _ _ W) fun W0 hb0 hx0 he0 hres0 hs0 => ?_
 clear hs0
 go_wp2_with (refine dQ rfl 53 (.tmp 3) rfl w.heap.size 0 rfl cs.toList hx0.rd _ Tryz.underlying53 tab_agg (by rw[Array.length_toList,h.sz];exact tab_size) ?_)
 refine (wR t cs _ (h.below hb0)).mono ?_
 rintro r w1 ⟨rfl,hb1⟩
 have hbel:=ae hb0 hb1
 have hx:=hx0.ext hb1
 have he:=he0.ext hb1
 have hres:=hres0.ext hb1
 clear hb0 hx0 he0 hres0 hb1
 by_cases h0:bI t=0
 ·have H0:=Lib.hid h0
  rw[h0]
  clear h0
  by_cases hn:0≤n∧n<64
  ·obtain⟨q,r,hq,hr,hnn,hdq,hdr⟩:=pu hn
   have HN:=Lib.hid hnn
   clear hnn
   obtain⟨n0,n1⟩:=hn
   have hn0:decide (n<0)=false:=by simp;omega
   have hn1:decide (64≤n)=false:=by simp;omega
   have hq' : (q:Int)<8:=by omega
   have hr' : (r:Int)<8:=by omega
   have hdt:n.tmod 8=(r:Int):=by rw[Int.tmod_eq_emod_of_nonneg n0];exact hdr
   go_wp2_with (refine dQ rfl 89 (.tmp 5) rfl (w.heap.size+1) 0 rfl (fI e).toList he.rd _ Tryz.underlying89 rfl entry_size ?_)
   refine (yU e _).mono ?_
   rintro x w2 ⟨rfl,hb2⟩
   have hbel2:=ae hbel hb2
   have hx2:=hx.ext hb2
   have he2:=he.ext hb2
   have hres2:=hres.ext hb2
   clear hbel hx he hres hb2
   by_cases h1:dC e=0
   ·have hs0:setE t n e=0:=by unfold setE;rw[if_neg (by rw[H0.out];simp),if_neg (by omega),h1]
    have HS:=Lib.hid hs0
    have hset:=Lib.hid (EH hs0 hq hr HN.out)
    rw[h1]
    clear h1 hs0
    go_wp2_with (refine dQ rfl 53 (.tmp 3) rfl w.heap.size 0 rfl cs.toList hx2.rd _ Tryz.underlying53 tab_agg (by rw[Array.length_toList,h.sz];exact tab_size) ?_)
    refine (Bn t cs _ (h.below hbel2) hz).mono ?_
    rintro x w3 ⟨ca,rfl,hO3,hb3⟩
    have hbel3:=ae hbel2 hb3
    have he3:=he2.ext hb3
    have hres3:=hres2.ext hb3
    have hone:=hO3.rd.one
    have hsz:=hO3.sz
    have hO3':=hO3.mono hbel2.size
    clear hbel2 hx2 he2 hres2 hb3 hO3
    go_wp2_with (refine az rfl _ (.tmp 10) (.tmp 32) rfl w3.heap.size ca rfl rfl _ _ (aF.new _ _ _) (by rw[hsz];rfl) (by rw[hsz];exact tab_size) hone ?_)
    intro w4 hx4 hgr4
    have hO4:=(hO3'.below ((Below.refl _ _).alloc (Nat.le_refl _) _)).keep (aF.new _ _ _) (by decide) hgr4
    have he4:=bD (he3.alloc _) (aF.new _ _ _) (by decide) hgr4
    have hres4:aF w4 (w.heap.size+2) _ _:=(hres3.alloc _).grown hgr4 (fun e=>by have:=Option.some.inj e;have:=hres3.lt;omega)
    have hbel4:Below w.heap.size w w4:=(hbel3.alloc hbel3.size _).grown hgr4 (dz hbel3.size _) (fun k hk=>by cases hk;exact hbel3.size)
    have hge:w.heap.size+2<w3.heap.size:=hres3.lt
    have hg4:w3.heap.size<w4.heap.size:=hx4.lt
    clear he3 hres3 hgr4 hO3' hone
    have hl8:=jT (iD H0.out q hq)
    obtain⟨v,hv,hown⟩:=hO4.own q hq
    obtain⟨av,cv,rfl,hvle,hvmx,_⟩:=hown.rd
    have HV:=Lib.hid hv
    have hc4:=(hx4.cell q).trans hv
    rcases hl8 with h0|h8
    ·have H00:=Lib.hid h0
     rw[h0] at hc4
     clear hv hown h0
     go_wp2_with (refine yM _ rfl (.const (.int .i64 8)) (.const (.int .i64 8)) 51 rfl ik 89 _ 3 24 zEn dF (by decide) Tryz.underlying51 entry_info rfl .i64 .i64 8 8 8 rfl rfl rfl rfl (by omega) (by unfold maxLen;omega) ?_)
     intro w5 ho5 hgr5
     have hx5:=hx4.grown hgr5 (by simp)
     have he5:=he4.grown hgr5 (by simp)
     have hres5:=hres4.grown hgr5 (by simp)
     have hO5:lc w5 w.heap.size ca t:=hO4.below (fO hgr5)
     have hbel5:=ae hbel4 (fO hgr5)
     have hnew:∀g,(Value.slice (some ⟨w4.heap.size,0,none⟩) 8 8).ownBlock=some g→∀j u,j≠q→ca[j]?=some u→u.ownBlock≠some g:=by
      intro g hg j u hj hu hgu
      cases hg
      obtain⟨v',hv',ho'⟩:=hO4.own j (by
       rcases Nat.lt_or_ge j 8 with hk|hk
       ·exact hk
       ·rw[Array.getElem?_eq_none (by rw[hsz];exact hk)] at hu;cases hu)
      rw[hu] at hv'
      cases hv'
      exact absurd (Da ho' _ hgu) (Nat.lt_irrefl _)
     go_wp2_with (refine aC rfl _ (.tmp 43) (.tmp 42) rfl w3.heap.size q _ [.slice (some ⟨w4.heap.size,0,none⟩) 8 8] rfl rfl rfl _ _ hx5 (by rw[hsz];exact hq) slent_size (fun u hu=>by cases List.mem_singleton.1 hu;rfl) ?_)
     intro w6 hx6 hgr6
     rw[jv] at hx6
     have ho5' : Own w5 w.heap.size 89 3 (.slice (some ⟨w4.heap.size,0,none⟩) 8 8) (List.replicate 8 zEn).length ((List.replicate 8 zEn).flatMap ik):=ho5.mono hbel4.size
     have hO6:=(hO5.keep hx5 (by decide) hgr6).put hq (ak ho5' hx5 (by decide) hgr6) hnew
     have he6:=bD he5 hx5 (by decide) hgr6
     have hres6:aF w6 (w.heap.size+2) _ _:=hres5.grown hgr6 (fun e=>by have:=Option.some.inj e;omega)
     have hbel6:=hbel5.grown hgr6 hbel5.size (fun k hk=>by cases hk;exact hbel3.size)
     have hcv:(ca.setIfInBounds q (Value.slice (some ⟨w4.heap.size,0,none⟩) 8 8))[q]?=some (.slice (some ⟨w4.heap.size,0,none⟩) 8 8):=Array.getElem?_setIfInBounds_self_of_lt (by rw[hsz];exact hq)
     have HH:Hid (∀l,(t.set q (List.replicate 8 zEn)).set q l=t.set q l):=Lib.hid (fun l=>by simp)
     have HL:Hid ((t.set q (List.replicate 8 zEn))[q]=(if t[q].length=0 then List.replicate 8 zEn else t[q])):=Lib.hid (by rw[if_pos H00.out];simp)
     have HL8:Hid ((t.set q (List.replicate 8 zEn))[q].length=8):=Lib.hid (by simp)
     go_upto_region 13 with (fail)
     generalize hT6:t.set q (List.replicate 8 zEn)=t6 at HH HL HL8 hO6
     generalize hC6:ca.setIfInBounds q (Value.slice (some ⟨w4.heap.size,0,none⟩) 8 8)=c6 at hcv hO6 hx6
     have hw6:=hx6.lt
     clear hT6 hC6 hx5 he5 hres5 hO5 hbel5 hgr5 hgr6 hnew ho5 ho5' hx4 he4 hres4 hO4 hbel4 hc4 hn0 hn1
     obtain⟨g,off,cap,cur,hgv,hBg,hbg,hfit,_,hset⟩:=hO6.wr hq (r:=r) (by rw[HL8.out];exact hr)
     rw[HL8.out] at hgv
     clear hcv
     have HGV:=Lib.hid hgv
     clear hgv
     refine aG 7 [_,_,_,_,_,_,.v (.pointer (some ⟨g,off+r*3,none⟩))] (Gk rfl (Gk rfl (Gc (.slice (some ⟨g,off,none⟩) 8 cap) (fun W hb=>by simp[(((hx6.ext hb).cell q).trans HGV.out),Tryz.underlying51]) rfl rfl rfl rfl (Gk rfl (Gb (.int .i64 r) (by simp[go_sem,hdt]) rfl rfl rfl rfl rfl (Gr (.agg (fI e)) (fun ρ y W hb hKn=>(aX rfl (aA rfl hKn) (he6.ext hb) Tryz.underlying89 rfl entry_size)) rfl rfl (ag ?_ (aB)))))))) (fun _=>rfl) rfl ?_
     ·intro ρ y W hw hn hb hd;have E46:=hw 46 2 rfl;have h2:y 2=_:=hd 2 rfl;have E48:=hw 48 4 rfl;have h4:y 4=_:=hd 4 rfl
      refine aj (.pointer (some ⟨g,off+r*3,none⟩)) (ah rfl) (by simp[execOp,go_sem,E46,h2,E48,h4,Tryz.underlying51,hr']) rfl
     intro y WA hbWA _
     have hx7:=hx6.ext hbWA
     have hres7:=hres6.ext hbWA
     have hbel7:=ae hbel6 hbWA
     have hw7:w3.heap.size<WA.heap.size:=hx7.lt
     clear hbg hset
     obtain⟨g2,off2,cap2,cur2,hgv2,hBg2,hbg2,hfit2,_,hset2⟩:=(hO6.below hbWA).wr hq (r:=r) (by rw[HL8.out];exact hr)
     have hE7:=Option.some.inj (HGV.out.symm.trans hgv2)
     simp only[Value.slice.injEq,Option.some.injEq,Addr.mk.injEq,and_true] at hE7
     obtain⟨⟨rfl,rfl⟩,hl8',rfl⟩:=hE7
     clear hgv2 hl8' hx6 hres6 hbel6 hbWA
     go_wp2_with (refine aC rfl _ (.tmp 50) (.tmp 49) rfl g (off+r*3) _ (ik e) rfl rfl rfl _ _ hbg2 hfit2 entry_size (xe e) ?_)
     intro w8 hb8 hgr8
     have hO8:=hset2 w8 e hb8 hgr8
     have hx8:=bD hx7 hbg2 (by decide) hgr8
     have hres8:=bD hres7 hbg2 (by decide) hgr8
     have hbel8:=hbel7.grown hgr8 hbel7.size (fun k hk=>by cases hk;exact hBg)
     have hc8:=(hx8.cell q).trans HGV.out
     have hset8:Hid (t6.set q (t6[q].set r e)=t.set q (t6[q].set r e)):=Lib.hid (HH.out _)
     have hl8:Hid ((t6[q].set r e).length=8):=Lib.hid (by rw[List.length_set];exact HL8.out)
     have hrd8:cZ w8 (some ⟨g,off,none⟩) ((t6[q].set r e).flatMap ik):=by
      obtain⟨v,h1,h2⟩:=hO8.own q hq
      obtain rfl:=Option.some.inj (HGV.out.symm.trans h1)
      obtain⟨a',c',h3,_,_,_,h4⟩:=h2.rd
      simp only[Value.slice.injEq] at h3
      obtain⟨rfl,_,_⟩:=h3
      simpa using h4
     have hany:Hid (setH t[q] r e=if (t6[q].set r e).any jw then t6[q].set r e else []):=Lib.hid (by rw[HL.out];rfl)
     clear hx7 hres7 hbel7 hbg2 hb8 hgr8 hset2 hO6 he6
     generalize hl8e:t6[q].set r e=l8 at hset8 hl8 hrd8 hany hO8
     clear hl8e
     have HC:∀W,cZ W (some ⟨g,off,none⟩) (l8.flatMap ik)→Calls Tryz.prog 139 #[.slice (some ⟨g,off,none⟩) 8 cap,.func (.func 140) #[] #[]] W fun e w'=>e = .returned (.bool (l8.any jw))∧Below W.heap.size W w':=by
      intro W hW
      have:=wL l8 (some ⟨g,off,none⟩) cap W hW (by rw[hl8.out];decide)
      rw[hl8.out] at this
      exact this
     have HC':=Lib.hid HC
     clear HC
     go_wp2_with fail
     refine (HC'.out _ hrd8).mono ?_
     rintro x w9 ⟨rfl,hb9⟩
     have hx9:=hx8.ext hb9
     have hres9:=hres8.ext hb9
     have hbel9:=ae hbel8 hb9
     have hO9:=hO8.below hb9
     have hz9:=hO9.sz
     clear hx8 hres8 hbel8 hO8 hrd8 hb9 hc8
     cases hk:l8.any jw
     ·have hfin:Hid (t.set q (setH t[q] r e)=t.set q []):=Lib.hid (by rw[hany.out,hk];rfl)
      have hone1:∀u∈[Value.slice none 0 0],u.oneCell' = true:=fun u hu=>by cases List.mem_singleton.1 hu;rfl
      clear hany
      go_wp2_with (refine aC rfl _ (.tmp 57) (.const (.slice none 0 0)) rfl w3.heap.size q _ [.slice none 0 0] rfl rfl rfl _ _ hx9 (by rw[hz9];exact hq) slent_size hone1 ?_)
      intro wa hxa hgra
      rw[jv] at hxa
      have hOa:=(hO9.keep hx9 (by decide) hgra).put hq (v:=.slice none 0 0) (l:=[]) (Own.nil _ _ _ _) (fun g hg=>by cases hg)
      have hresa:aF wa (w.heap.size+2) _ _:=hres9.grown hgra (fun e=>by have:=Option.some.inj e;omega)
      have hbela:=hbel9.grown hgra hbel9.size (fun k hk=>by cases hk;exact hbel3.size)
      have hta:Hid ((t6.set q l8).set q []=t.set q (setH t[q] r e)):=Lib.hid (by rw[hset8.out,hfin.out];simp)
      clear hx9 hres9 hbel9 hO9 hgra
      generalize hCa:c6.setIfInBounds q (Value.slice none 0 0)=ca2 at hOa hxa
      clear hCa
      have honea:=hOa.rd.one
      have hsza:=hOa.sz
      go_wp2_with (first | (refine dQ rfl 53 (.tmp 10) rfl w3.heap.size 0 rfl ca2.toList hxa.rd _ Tryz.underlying53 tab_agg (by rw[Array.length_toList,hsza];exact tab_size) ?_) | (refine az rfl _ (.tmp 6) (.tmp 58) rfl (w.heap.size+2) ca2 rfl rfl _ _ hresa (by rw[hsza];rfl) (by rw[hsza];exact tab_size) honea ?_))
      intro wb hrb hgrb
      have hOb:=hOa.keep hresa (by decide) hgrb
      have hbelb:=hbela.grown hgrb hbela.size (fun k hk=>by cases hk;omega)
      go_wp2
      refine bodyPost_ret (v:=.tuple #[.agg ca2,.int .i64 0]) (fq Tryz.results118 _ _ (w.heap.size+2) _ _ _ _ rfl rfl hrb Tryz.underlying53 rfl (by rw[hsza];exact tab_size)) rfl ?_
      exact⟨_,by rw[HS.out],by rw[hset.out,←hta.out];exact hOb,hbelb⟩
     ·have hta:Hid (t6.set q l8=t.set q (setH t[q] r e)):=Lib.hid (by rw[hset8.out,hany.out,hk];rfl)
      have hOa:=hO9
      have hxa:=hx9
      have hresa:=hres9
      have hbela:=hbel9
      clear hx9 hres9 hbel9 hO9 hany
      generalize hCa:c6=ca2 at hOa hxa
      clear hCa
      have honea:=hOa.rd.one
      have hsza:=hOa.sz
      go_wp2_with (first | (refine dQ rfl 53 (.tmp 10) rfl w3.heap.size 0 rfl ca2.toList hxa.rd _ Tryz.underlying53 tab_agg (by rw[Array.length_toList,hsza];exact tab_size) ?_) | (refine az rfl _ (.tmp 6) (.tmp 58) rfl (w.heap.size+2) ca2 rfl rfl _ _ hresa (by rw[hsza];rfl) (by rw[hsza];exact tab_size) honea ?_))
      intro wb hrb hgrb
      have hOb:=hOa.keep hresa (by decide) hgrb
      have hbelb:=hbela.grown hgrb hbela.size (fun k hk=>by cases hk;omega)
      go_wp2
      refine bodyPost_ret (v:=.tuple #[.agg ca2,.int .i64 0]) (fq Tryz.results118 _ _ (w.heap.size+2) _ _ _ _ rfl rfl hrb Tryz.underlying53 rfl (by rw[hsza];exact tab_size)) rfl ?_
      exact⟨_,by rw[HS.out],by rw[hset.out,←hta.out];exact hOb,hbelb⟩
    ·have hx6:=hx4
     have he6:=he4
     have hres6:=hres4
     have hO6:=hO4
     have hbel6:=hbel4
     have hcv:=HV.out
     have hc6:=hc4
     rw[h8] at hc6
     have HL:Hid (t[q]=(if t[q].length=0 then List.replicate 8 zEn else t[q])):=Lib.hid (by rw[if_neg (by omega)])
     have HL8:Hid (t[q].length=8):=Lib.hid h8
     have hl0:((8:Int)==0)=false:=by decide
     clear h8 hv hown hc4
     go_upto_region 13 with (fail)
     generalize hT6:t[q]=tq at HL HL8
     obtain⟨t6,hT7⟩:∃t6,t6=t:=⟨_,rfl⟩
     have HH:Hid (∀l:List En,t6.set q l hq=t.set q l hq):=Lib.hid (fun l=>by rw[hT7])
     have HL:Hid (t6[q]=(if t[q].length=0 then List.replicate 8 zEn else t[q])):=Lib.hid (by rw[hT7,hT6];exact HL.out)
     have HL8:Hid (t6[q].length=8):=Lib.hid (by rw[hT7,hT6];exact HL8.out)
     have hO6:lc w4 w.heap.size ca t6:=by rw[hT7];exact hO6
     have hw6:=hx6.lt
     obtain⟨c6,hC6⟩:∃c6,c6=ca:=⟨_,rfl⟩
     rw[←hC6] at hcv hO6 hx6
     clear hT6 hT7 hC6 hx4 he4 hres4 hO4 hbel4 hc6 hn0 hn1
     obtain⟨g,off,cap,cur,hgv,hBg,hbg,hfit,_,hset⟩:=hO6.wr hq (r:=r) (by rw[HL8.out];exact hr)
     rw[HL8.out] at hgv
     clear hcv
     have HGV:=Lib.hid hgv
     clear hgv
     refine aG 7 [_,_,_,_,_,_,.v (.pointer (some ⟨g,off+r*3,none⟩))] (Gk rfl (Gk rfl (Gc (.slice (some ⟨g,off,none⟩) 8 cap) (fun W hb=>by simp[(((hx6.ext hb).cell q).trans HGV.out),Tryz.underlying51]) rfl rfl rfl rfl (Gk rfl (Gb (.int .i64 r) (by simp[go_sem,hdt]) rfl rfl rfl rfl rfl (Gr (.agg (fI e)) (fun ρ y W hb hKn=>(aX rfl (aA rfl hKn) (he6.ext hb) Tryz.underlying89 rfl entry_size)) rfl rfl (ag ?_ (aB)))))))) (fun _=>rfl) rfl ?_
     ·intro ρ y W hw hn hb hd;have E46:=hw 46 2 rfl;have h2:y 2=_:=hd 2 rfl;have E48:=hw 48 4 rfl;have h4:y 4=_:=hd 4 rfl
      refine aj (.pointer (some ⟨g,off+r*3,none⟩)) (ah rfl) (by simp[execOp,go_sem,E46,h2,E48,h4,Tryz.underlying51,hr']) rfl
     intro y WA hbWA _
     have hx7:=hx6.ext hbWA
     have hres7:=hres6.ext hbWA
     have hbel7:=ae hbel6 hbWA
     have hw7:w3.heap.size<WA.heap.size:=hx7.lt
     clear hbg hset
     obtain⟨g2,off2,cap2,cur2,hgv2,hBg2,hbg2,hfit2,_,hset2⟩:=(hO6.below hbWA).wr hq (r:=r) (by rw[HL8.out];exact hr)
     have hE7:=Option.some.inj (HGV.out.symm.trans hgv2)
     simp only[Value.slice.injEq,Option.some.injEq,Addr.mk.injEq,and_true] at hE7
     obtain⟨⟨rfl,rfl⟩,hl8',rfl⟩:=hE7
     clear hgv2 hl8' hx6 hres6 hbel6 hbWA
     go_wp2_with (refine aC rfl _ (.tmp 50) (.tmp 49) rfl g (off+r*3) _ (ik e) rfl rfl rfl _ _ hbg2 hfit2 entry_size (xe e) ?_)
     intro w8 hb8 hgr8
     have hO8:=hset2 w8 e hb8 hgr8
     have hx8:=bD hx7 hbg2 (by decide) hgr8
     have hres8:=bD hres7 hbg2 (by decide) hgr8
     have hbel8:=hbel7.grown hgr8 hbel7.size (fun k hk=>by cases hk;exact hBg)
     have hc8:=(hx8.cell q).trans HGV.out
     have hset8:Hid (t6.set q (t6[q].set r e)=t.set q (t6[q].set r e)):=Lib.hid (HH.out _)
     have hl8:Hid ((t6[q].set r e).length=8):=Lib.hid (by rw[List.length_set];exact HL8.out)
     have hrd8:cZ w8 (some ⟨g,off,none⟩) ((t6[q].set r e).flatMap ik):=by
      obtain⟨v,h1,h2⟩:=hO8.own q hq
      obtain rfl:=Option.some.inj (HGV.out.symm.trans h1)
      obtain⟨a',c',h3,_,_,_,h4⟩:=h2.rd
      simp only[Value.slice.injEq] at h3
      obtain⟨rfl,_,_⟩:=h3
      simpa using h4
     have hany:Hid (setH t[q] r e=if (t6[q].set r e).any jw then t6[q].set r e else []):=Lib.hid (by rw[HL.out];rfl)
     clear hx7 hres7 hbel7 hbg2 hb8 hgr8 hset2 hO6 he6
     generalize hl8e:t6[q].set r e=l8 at hset8 hl8 hrd8 hany hO8
     clear hl8e
     have HC:∀W,cZ W (some ⟨g,off,none⟩) (l8.flatMap ik)→Calls Tryz.prog 139 #[.slice (some ⟨g,off,none⟩) 8 cap,.func (.func 140) #[] #[]] W fun e w'=>e = .returned (.bool (l8.any jw))∧Below W.heap.size W w':=by
      intro W hW
      have:=wL l8 (some ⟨g,off,none⟩) cap W hW (by rw[hl8.out];decide)
      rw[hl8.out] at this
      exact this
     have HC':=Lib.hid HC
     clear HC
     go_wp2_with fail
     refine (HC'.out _ hrd8).mono ?_
     rintro x w9 ⟨rfl,hb9⟩
     have hx9:=hx8.ext hb9
     have hres9:=hres8.ext hb9
     have hbel9:=ae hbel8 hb9
     have hO9:=hO8.below hb9
     have hz9:=hO9.sz
     clear hx8 hres8 hbel8 hO8 hrd8 hb9 hc8
     cases hk:l8.any jw
     ·have hfin:Hid (t.set q (setH t[q] r e)=t.set q []):=Lib.hid (by rw[hany.out,hk];rfl)
      have hone1:∀u∈[Value.slice none 0 0],u.oneCell' = true:=fun u hu=>by cases List.mem_singleton.1 hu;rfl
      clear hany
      go_wp2_with (refine aC rfl _ (.tmp 57) (.const (.slice none 0 0)) rfl w3.heap.size q _ [.slice none 0 0] rfl rfl rfl _ _ hx9 (by rw[hz9];exact hq) slent_size hone1 ?_)
      intro wa hxa hgra
      rw[jv] at hxa
      have hOa:=(hO9.keep hx9 (by decide) hgra).put hq (v:=.slice none 0 0) (l:=[]) (Own.nil _ _ _ _) (fun g hg=>by cases hg)
      have hresa:aF wa (w.heap.size+2) _ _:=hres9.grown hgra (fun e=>by have:=Option.some.inj e;omega)
      have hbela:=hbel9.grown hgra hbel9.size (fun k hk=>by cases hk;exact hbel3.size)
      have hta:Hid ((t6.set q l8).set q []=t.set q (setH t[q] r e)):=Lib.hid (by rw[hset8.out,hfin.out];simp)
      clear hx9 hres9 hbel9 hO9 hgra
      generalize hCa:c6.setIfInBounds q (Value.slice none 0 0)=ca2 at hOa hxa
      clear hCa
      have honea:=hOa.rd.one
      have hsza:=hOa.sz
      go_wp2_with (first | (refine dQ rfl 53 (.tmp 10) rfl w3.heap.size 0 rfl ca2.toList hxa.rd _ Tryz.underlying53 tab_agg (by rw[Array.length_toList,hsza];exact tab_size) ?_) | (refine az rfl _ (.tmp 6) (.tmp 58) rfl (w.heap.size+2) ca2 rfl rfl _ _ hresa (by rw[hsza];rfl) (by rw[hsza];exact tab_size) honea ?_))
      intro wb hrb hgrb
      have hOb:=hOa.keep hresa (by decide) hgrb
      have hbelb:=hbela.grown hgrb hbela.size (fun k hk=>by cases hk;omega)
      go_wp2
      refine bodyPost_ret (v:=.tuple #[.agg ca2,.int .i64 0]) (fq Tryz.results118 _ _ (w.heap.size+2) _ _ _ _ rfl rfl hrb Tryz.underlying53 rfl (by rw[hsza];exact tab_size)) rfl ?_
      exact⟨_,by rw[HS.out],by rw[hset.out,←hta.out];exact hOb,hbelb⟩
     ·have hta:Hid (t6.set q l8=t.set q (setH t[q] r e)):=Lib.hid (by rw[hset8.out,hany.out,hk];rfl)
      have hOa:=hO9
      have hxa:=hx9
      have hresa:=hres9
      have hbela:=hbel9
      clear hx9 hres9 hbel9 hO9 hany
      generalize hCa:c6=ca2 at hOa hxa
      clear hCa
      have honea:=hOa.rd.one
      have hsza:=hOa.sz
      go_wp2_with (first | (refine dQ rfl 53 (.tmp 10) rfl w3.heap.size 0 rfl ca2.toList hxa.rd _ Tryz.underlying53 tab_agg (by rw[Array.length_toList,hsza];exact tab_size) ?_) | (refine az rfl _ (.tmp 6) (.tmp 58) rfl (w.heap.size+2) ca2 rfl rfl _ _ hresa (by rw[hsza];rfl) (by rw[hsza];exact tab_size) honea ?_))
      intro wb hrb hgrb
      have hOb:=hOa.keep hresa (by decide) hgrb
      have hbelb:=hbela.grown hgrb hbela.size (fun k hk=>by cases hk;omega)
      go_wp2
      refine bodyPost_ret (v:=.tuple #[.agg ca2,.int .i64 0]) (fq Tryz.results118 _ _ (w.heap.size+2) _ _ _ _ rfl rfl hrb Tryz.underlying53 rfl (by rw[hsza];exact tab_size)) rfl ?_
      exact⟨_,by rw[HS.out],by rw[hset.out,←hta.out];exact hOb,hbelb⟩
   ·have q0:Hid (setE t n e=dC e∧dC e≠0):=Lib.hid ⟨by unfold setE;rw[if_neg (by rw[H0.out];simp),if_neg (by omega)],h1⟩
    have h1' : (dC e != 0)=true:=by simpa using h1
    have hbel:=hbel2
    have hres:=hres2
    clear h1 hbel2 hres2
    go_wp2_with (refine az rfl _ (.tmp 6) (.tmp 29) rfl (w.heap.size+2) #[.slice none 0 0,.slice none 0 0,.slice none 0 0,.slice none 0 0,.slice none 0 0,.slice none 0 0,.slice none 0 0,.slice none 0 0] rfl rfl _ _ hres rfl tab_size (by simp[Value.oneCell']) ?_)
    all_goals
     intro w5 hr5 hgr5
     have hbel5:Below w.heap.size w w5:=hbel.grown hgr5 hbel.size (fun k hk=>by cases hk;omega)
     go_wp2
     refine bodyPost_ret (v:=.tuple #[.agg #[.slice none 0 0,.slice none 0 0,.slice none 0 0,.slice none 0 0,.slice none 0 0,.slice none 0 0,.slice none 0 0,.slice none 0 0],.int .i64 (dC e)]) (fq Tryz.results118 _ _ (w.heap.size+2) _ _ _ _ rfl rfl hr5 Tryz.underlying53 rfl tab_size) rfl ?_
     have q:=q0.out
     exact⟨_,by rw[q.1],by rw[oO (by rw[q.1];exact q.2)];exact oU _ _,hbel5⟩
  ·have q0:Hid (setE t n e=3∧(3:Int)≠0):=Lib.hid ⟨by unfold setE;rw[if_neg (by rw[H0.out];simp),if_pos (by omega)],by decide⟩
   have hn' : n<0∨64≤n:=by omega
   clear hn
   by_cases hn0:n<0
   ·skip
    go_wp2_with (refine az rfl _ (.tmp 6) (.tmp 24) rfl (w.heap.size+2) #[.slice none 0 0,.slice none 0 0,.slice none 0 0,.slice none 0 0,.slice none 0 0,.slice none 0 0,.slice none 0 0,.slice none 0 0] rfl rfl _ _ hres rfl tab_size (by simp[Value.oneCell']) ?_)
    all_goals
     intro w5 hr5 hgr5
     have hbel5:Below w.heap.size w w5:=hbel.grown hgr5 hbel.size (fun k hk=>by cases hk;omega)
     go_wp2
     refine bodyPost_ret (v:=.tuple #[.agg #[.slice none 0 0,.slice none 0 0,.slice none 0 0,.slice none 0 0,.slice none 0 0,.slice none 0 0,.slice none 0 0,.slice none 0 0],.int .i64 (3)]) (fq Tryz.results118 _ _ (w.heap.size+2) _ _ _ _ rfl rfl hr5 Tryz.underlying53 rfl tab_size) rfl ?_
     have q:=q0.out
     exact⟨_,by rw[q.1],by rw[oO (by rw[q.1];exact q.2)];exact oU _ _,hbel5⟩
   ·have hn1:64≤n:=by omega
    have hn0' : decide (n<0)=false:=by simp;omega
    go_wp2_with (refine az rfl _ (.tmp 6) (.tmp 24) rfl (w.heap.size+2) #[.slice none 0 0,.slice none 0 0,.slice none 0 0,.slice none 0 0,.slice none 0 0,.slice none 0 0,.slice none 0 0,.slice none 0 0] rfl rfl _ _ hres rfl tab_size (by simp[Value.oneCell']) ?_)
    all_goals
     intro w5 hr5 hgr5
     have hbel5:Below w.heap.size w w5:=hbel.grown hgr5 hbel.size (fun k hk=>by cases hk;omega)
     go_wp2
     refine bodyPost_ret (v:=.tuple #[.agg #[.slice none 0 0,.slice none 0 0,.slice none 0 0,.slice none 0 0,.slice none 0 0,.slice none 0 0,.slice none 0 0,.slice none 0 0],.int .i64 (3)]) (fq Tryz.results118 _ _ (w.heap.size+2) _ _ _ _ rfl rfl hr5 Tryz.underlying53 rfl tab_size) rfl ?_
     have q:=q0.out
     exact⟨_,by rw[q.1],by rw[oO (by rw[q.1];exact q.2)];exact oU _ _,hbel5⟩
 ·have q0:Hid (setE t n e=bI t∧bI t≠0):=Lib.hid ⟨by unfold setE;rw[if_pos h0],h0⟩
  have h0' : (bI t != 0)=true:=by simpa using h0
  clear h0
  go_wp2_with (refine az rfl _ (.tmp 6) (.tmp 16) rfl (w.heap.size+2) #[.slice none 0 0,.slice none 0 0,.slice none 0 0,.slice none 0 0,.slice none 0 0,.slice none 0 0,.slice none 0 0,.slice none 0 0] rfl rfl _ _ hres rfl tab_size (by simp[Value.oneCell']) ?_)
  all_goals
   intro w5 hr5 hgr5
   have hbel5:Below w.heap.size w w5:=hbel.grown hgr5 hbel.size (fun k hk=>by cases hk;omega)
   go_wp2
   refine bodyPost_ret (v:=.tuple #[.agg #[.slice none 0 0,.slice none 0 0,.slice none 0 0,.slice none 0 0,.slice none 0 0,.slice none 0 0,.slice none 0 0,.slice none 0 0],.int .i64 (bI t)]) (fq Tryz.results118 _ _ (w.heap.size+2) _ _ _ _ rfl rfl hr5 Tryz.underlying53 rfl tab_size) rfl ?_
   have q:=q0.out
   exact⟨_,by rw[q.1],by rw[oO (by rw[q.1];exact q.2)];exact oU _ _,hbel5⟩
theorem wV (t:Tb) (cs:Array Value) (n:Int) (w:World) (h:zJ w cs t):Calls Tryz.prog 69 #[.agg cs,.int .i64 n] w fun r w'=>r = .returned (.agg #[.int .i64 (cB t n).k,.int .i64 (cB t n).n,.bool (cB t n).w])∧Below w.heap.size w w':=xw t cs n w h
theorem Nn (E:En) (W:World):(Instr.field 89 (.agg #[.int .i64 E.k,.int .i64 E.n,.bool E.w]) 0).run Tryz.prog W = .ok (.int .i64 E.k) W:=by
 simp[Instr.field,go_sem]
 rfl
theorem ny (t:Tb) (cs:Array Value) (w:World) (h:zJ w cs t):Calls Tryz.prog 42 #[.agg cs] w fun r w' => ∃v,r = .returned v∧Own w' w.heap.size 3 1 v (aI t).length ((aI t).map dL)∧Below w.heap.size w w':=by
 go_enter Tryz.func42,Tryz.ntmps42
 go_upto_region 1 with (fail)
 refine fo (fun W=>Code.wp _ _ _ _ W) fun W0 hb0 hx0 hs0 => ?_
 clear hs0
 go_wp2
 have hown0:Own W0 w.heap.size 3 1 (.slice none 0 0) (fQ t 0).length ((fQ t 0).map dL):=Own.nil _ _ _ _
 go_loopw [5,3] (fun i v wr => ∃k:Nat,k≤64∧i = .int .i64 k∧Below w.heap.size w wr∧aF wr w.heap.size cs 53∧Own wr w.heap.size 3 1 v (fQ t k).length ((fQ t k).map dL)) (fun i _ _=>64-(intOf i).toNat)
 case atStart=>exact⟨0,Nat.zero_le _,rfl,hb0,hx0,hown0⟩
 case round=>
  obtain⟨k,hk,rfl,hbr,hx,hown⟩:=hrel
  clear hb0 hx0 hown0
  have hle:=ru t k
  by_cases hlt:k<64
  ·have hd:decide ((k:Int)<64)=true:=by simp;omega
   go_wp2_with (refine dQ rfl 53 (.tmp 1) rfl w.heap.size 0 rfl cs.toList hx.rd _ Tryz.underlying53 tab_agg (by rw[Array.length_toList,h.sz];exact tab_size) ?_)
   refine (wV t cs k _ (h.below hbr)).mono ?_
   rintro r w1 ⟨rfl,hb1⟩
   have hbel1:=ae hbr hb1
   have hx1:=hx.ext hb1
   have hfk:=Nn (cB t k)
   have hown1:=hown.below hb1
   clear hb1 hbr hx hown
   cases hk2:jw (cB t k)
   ·have hkk:((cB t k).k != 0)=false:=by simpa[jw] using hk2
    have hn:=Lib.hid (Dc hk2)
    clear hk2
    go_wp2
    go_roundw
    case rel=>exact⟨k+1,by omega,by go_num,hbel1,hx1,by rw[hn.out];exact hown1⟩
    case measure=>simp[intOf];omega
   ·have hkk:((cB t k).k != 0)=true:=by simpa[jw] using hk2
    have hn:=Lib.hid (BQ hk2)
    clear hk2
    go_wp2_with (at_builtin;go_must (refine eu rfl _ _ 29 rfl w.heap.size 3 (.int .i64 0) 1 8 Tryz.underlying29 int_info rfl (by decide) _ _ _ rfl (hown1.alloc _) (some ⟨w1.heap.size,0,none⟩) 1 1 [dL k] rfl (fun h=>(by cases h)) (Nat.le_refl _) rfl (cZ.one _ _ _) (KC _ _) (by unfold maxLen;omega) (by omega) ?bb ?k))
    case bb=>exact dz hbel1.size _
    intro v2 w2 hown2 hgr2
    have hbel2:Below w.heap.size w w2:=(hbel1.alloc hbel1.size _).grown hgr2 (dz hbel1.size _) (fun k hk=>(hown1.ge k hk))
    have hx2:aF w2 w.heap.size cs 53:=jA (hx1.alloc _) (hown1.alloc _) (by decide) hgr2
    go_wp2
    go_roundw
    case rel=>exact⟨k+1,by omega,by go_num,hbel2,hx2,by rw[hn.out,List.map_append,List.length_append];exact hown2⟩
    case measure=>simp[intOf];omega
  ·obtain rfl:k=64:=by omega
   go_wp2
   go_ret
   exact⟨_,rfl,hown,hbr⟩
structure PF where
 n:Int
 a:Option Addr
 l:List Int
 c:Nat
def PF.fi (p:PF):Fi:=⟨p.n,p.l⟩
def gZ (p:PF):Array Value:=#[.int .i64 p.n,.slice p.a p.l.length p.c]
def pG (p:PF):List Value:=(gZ p).toList
theorem kv (p:PF):(pG p).length=2:=rfl
theorem kC (p:PF):(gZ p).all (·.oneCell')=true:=by simp[gZ,Value.oneCell']
structure PF.good (w:World) (p:PF):Prop where
 le:p.l.length≤p.c
 mx:p.c≤maxLen
 nl:p.a=none→p.c=0
 rd:cZ w p.a (p.l.map dL)
theorem PF.good.below {w w' : World} {p:PF} (h:p.good w) (hb:Below w.heap.size w w'):p.good w':=⟨h.le,h.mx,h.nl,h.rd.below hb⟩
structure CV (w:World) (a:Option Addr) (c:Nat) (ps:List PF):Prop where
 le:ps.length≤c
 mx:c≤maxLen
 nl:a=none→c=0
 rd:cZ w a (ps.flatMap pG)
 good:∀p∈ps,p.good w
theorem CV.below {w w' : World} {a:Option Addr} {c:Nat} {ps:List PF} (h:CV w a c ps) (hb:Below w.heap.size w w'):CV w' a c ps:=
 ⟨h.le,h.mx,h.nl,h.rd.below hb,fun p hp=>(h.good p hp).below hb⟩
theorem uJ {w:World} {a:Option Addr} {ps:List PF} (h:cZ w a (ps.flatMap pG)) (k:Nat) (hk:k<ps.length):∃b off p,a=some ⟨b,off,none⟩∧ps[k]?=some p∧w.cell? ⟨b,off+k*2,none⟩=some (.int .i64 p.n)∧w.cell? ⟨b,off+k*2+1,none⟩=some (.slice p.a p.l.length p.c):=by
 obtain⟨b,off,ha,hc⟩:=h.elem kv (by decide) k hk
 exact⟨b,off,ps[k],ha,List.getElem?_eq_getElem hk,hc 0 _ rfl,hc 1 _ rfl⟩
def bT (ps:List PF) (k:Int):St:=⟨ps.map PF.fi,k⟩
def FL (a:Option Addr) (n c:Nat) (k:Int):Array Value:=#[.slice a n c,.int .i64 k]
theorem file_size:(Tryz.prog.info? 67).map (·.size)=some 2:=by kernel_rfl
theorem store_size:(Tryz.prog.info? 37).map (·.size)=some 2:=by kernel_rfl
theorem nO (c:Int) (seen:List Int) (p:PF) (r:List Fi):jG c seen (p.fi::r)=if p.n<0∨96<p.n then 3 else if (p.l.length:Int)≠dA p.n then 2 else if dU c seen p.l≠0 then dU c seen p.l else jG c (seen++p.l) r:=rfl
theorem Dh (ps:List PF) (k:Int) (a:Option Addr) (c:Nat) (w:World) (h:CV w a c ps) (hk64 : -9223372036854775808≤k∧k≤9223372036854775807) :
  Calls Tryz.prog 109 #[.agg (FL a ps.length c k)] w fun r w'=>r = .returned (.int .i64 (aR (bT ps k)))∧Below w.heap.size w w':=by
 have hmm:=@run_makeMap Tryz.prog
 have hlc:=Nat.le_trans h.le h.mx
 unfold maxLen at hlc
 unfold FL
 go_enter Tryz.func109,Tryz.ntmps109
 go_upto_region 1 with (fail)
 refine fo (fun W=>Code.wp _ _ _ _ W) fun W0 hb0 hx0 hs0 => ?_
 clear hs0
 by_cases h4:5<ps.length∨k<0∨80<k
 ·have hfin:Hid (aR (bT ps k)=4):=Lib.hid (by unfold aR bT;rw[if_pos (by simpa using h4)])
  have hcx:=hx0.cell
  have h4' : 5<ps.length∨(¬5<ps.length∧k<0)∨(¬5<ps.length∧¬k<0∧80<k):=by omega
  clear h4
  rcases h4' with g|⟨g,g2⟩|⟨g,g2,g3⟩
  all_goals
   go_wp2
   go_ret
   exact⟨aS hfin.out.symm,hb0⟩
 ·have hres:Hid (aR (bT ps k)=jG k (((ps.take 0).map PF.fi).flatMap Fi.b) ((ps.drop 0).map PF.fi)):=Lib.hid (by unfold aR bT;rw[if_neg (by simpa using h4)];rfl)
  have g1:¬5<ps.length:=by omega
  have g2:¬k<0:=by omega
  have g3:¬80<k:=by omega
  have hcx:=hx0.cell
  clear h4
  go_upto_region 4 with (fail)
  clear hcx hmm
  refine Od (fun W=>Code.wp _ _ _ _ W) fun W1 hb1 hM1 => ?_
  have hbel1:=ae hb0 hb1
  have hx1:=hx0.ext hb1
  have hgm:w.heap.size<W0.heap.size:=hx0.lt
  obtain⟨gm,hGM⟩:∃g,g=W0.heap.size:=⟨_,rfl⟩
  rw[←hGM] at hM1 hgm ⊢
  clear hGM hb0 hx0 hb1
  have hM1' : jL W1 gm 0 (mf (((ps.take 0).map PF.fi).flatMap Fi.b)):=hM1
  have hcx:=hx1.cell
  go_upto_region 5 with (fail)
  clear hcx hM1
  go_loopw [26] (fun i wr => ∃(q n:Nat),q≤ps.length∧i = .int .i64 q∧n≤12*q∧Below w.heap.size w wr∧aF wr w.heap.size #[.slice a ps.length c,.int .i64 k] 37∧jL wr gm n (mf (((ps.take q).map PF.fi).flatMap Fi.b))∧Hid (aR (bT ps k)=jG k (((ps.take q).map PF.fi).flatMap Fi.b) ((ps.drop q).map PF.fi))) (fun i _=>ps.length-(intOf i).toNat)
  case atStart=>exact⟨0,0,Nat.zero_le _,rfl,Nat.le_refl _,hbel1,hx1,hM1',hres⟩
  case round=>
   clear hbel1 hx1 hM1' hres
   obtain⟨q,n,hq,rfl,hn,hbr,hx,hM,hres⟩:=hrel
   by_cases hlt:q<ps.length
   ·obtain⟨b,off,p,rfl,hp,c0,c1⟩:=uJ (h.below hbr).rd q hlt
    have hgood:=(h.good p (List.mem_of_getElem? hp)).below hbr
    have hdr:=drop_at hp
    have htk:=take_at hp
    rw[hdr,List.map_cons] at hres
    have htk':=Lib.hid htk
    clear hdr htk
    generalize hseen:((ps.take q).map PF.fi).flatMap Fi.b=seen at hM hres
    have hseen':=Lib.hid hseen
    clear hseen hp
    go_wp2_with (refine aH rfl _ _ _ rfl (gZ p) rfl rfl rfl file_size (kC _) ?_)
    intro w2 hb2 hf2
    have hbel2:=ae hbr hb2
    have hx2:=hx.ext hb2
    have hM2:=hM.below hb2
    have hgood2:=hgood.below hb2
    clear hbr hx hM hgood hb2 c0 c1
    have hcf:=hf2.cell
    have f0:(gZ p)[0]?=some (.int .i64 p.n):=rfl
    have f1:(gZ p)[1]?=some (.slice p.a p.l.length p.c):=rfl
    by_cases hn96:p.n<0∨96<p.n
    ·have hfin:Hid (aR (bT ps k)=3):=Lib.hid (by rw[hres.out,nO,if_pos hn96])
     have hn' : p.n<0∨(¬p.n<0∧96<p.n):=by omega
     clear hn96
     rcases hn' with g|⟨g,g2⟩
     all_goals
      go_wp2
      go_ret
      exact⟨aS hfin.out.symm,hbel2⟩
    ·have hres2:Hid (aR (bT ps k)=if (p.l.length:Int)≠dA p.n then 2 else if dU k seen p.l≠0 then dU k seen p.l else jG k (seen++p.l) ((ps.drop (q+1)).map PF.fi)):=Lib.hid (by rw[hres.out,nO,if_neg hn96])
     have g4:¬p.n<0:=by omega
     have g5:¬96<p.n:=by omega
     clear hn96 hres
     by_cases hcnt:(p.l.length:Int)=dA p.n
     ·have hres3:Hid (aR (bT ps k)=if dU k seen p.l≠0 then dU k seen p.l else jG k (seen++p.l) ((ps.drop (q+1)).map PF.fi)):=Lib.hid (by rw[hres2.out,if_neg (fun hh=>hh hcnt)])
      have hl12:p.l.length≤12:=by
       have:=tO (n:=p.n) (by omega)
       omega
      have hcc:=Lib.hid hcnt
      clear hres2 hcnt
      go_upto_region 9 with (fail)
      refine aG 7 [_,_,_,_,_,.v (.int .i64 (dA p.n)),_] (Gf wr.heap.size 1 rfl rfl (Gl hf2 (V:=.slice p.a p.l.length p.c) (by simp[f1,Tryz.underlying29]) rfl rfl rfl rfl (Gn rfl rfl rfl rfl (Gf wr.heap.size 0 rfl rfl (Gl hf2 (V:=.int .i64 p.n) (by simp[f0]) rfl rfl rfl rfl (ag ?_ (Gb (.bool false) (by simp[go_sem,hcc.out]) rfl rfl rfl rfl rfl (aB))))) (Tryz.underlying29)))) (fun _=>rfl) rfl ?_
      ·intro ρ y W hw hn hb hd;have E42:=hw 42 4 rfl;have h4:y 4=_:=hd 4 rfl
       have EF:∀f,ρ (.func f) = .func (.func f) #[] #[]:=fun f=>hn (.func f) trivial
       refine aJ _ _ (ah rfl) (aK rfl (EF _) Tryz.func133 (by kernel_rfl) (by kernel_rfl) (by simp only[List.map_toArray,List.map_cons,List.map_nil,E42,h4,EF];rfl)) ?_
       refine (ym p.n W (by omega)).mono ?_
       rintro e w1 ⟨rfl,rfl⟩
       exact⟨_,rfl,Below.refl _ _,rfl⟩
      intro y WA hbWA _
      have hbelA:=ae hbel2 hbWA
      have hxA:=hx2.ext hbWA
      have hMA:=hM2.below hbWA
      have hfA:=hf2.ext hbWA
      have hgA:=hgood2.below hbWA
      clear hbel2 hx2 hM2 hf2 hgood2 hbWA hcf
      have hcf:=hfA.cell
      have hB0:Hid (dU k seen p.l=dU k (seen++p.l.take 0) (p.l.drop 0)):=Lib.hid (by simp)
      have hM0:jL WA gm n (mf (seen++p.l.take 0)):=by simpa using hMA
      have hle:=hgA.le
      have hmx:=hgA.mx
      have hrdp:=hgA.rd
      unfold maxLen at hmx
      clear hMA hgA
      go_upto_region 12 with (fail)
      clear hcf f0 f1 hfA
      go_loopw [48] (fun i wr => ∃(j m:Nat),j≤p.l.length∧i = .int .i64 j∧m≤n+j∧Below w.heap.size w wr∧aF wr w.heap.size #[.slice (some ⟨b,off,none⟩) ps.length c,.int .i64 k] 37∧jL wr gm m (mf (seen++p.l.take j))∧cZ wr p.a (p.l.map dL)∧Hid (dU k seen p.l=dU k (seen++p.l.take j) (p.l.drop j))) (fun i _=>p.l.length-(intOf i).toNat)
      case atStart=>exact⟨0,n,Nat.zero_le _,rfl,Nat.le_refl _,hbelA,hxA,hM0,hrdp,hB0⟩
      case round=>
       clear hbelA hxA hM0 hrdp hB0
       obtain⟨j,m,hj,rfl,hm,hbr,hx,hM,hrp,hB⟩:=hrel
       by_cases hjl:j<p.l.length
       ·obtain⟨x,hX⟩:∃x,p.l[j]?=some x:=⟨p.l[j],List.getElem?_eq_getElem hjl⟩
        obtain⟨b2,off2,hpa,hc⟩:=fZ hrp j hjl
        rw[show p.l[j]=x from (List.getElem?_eq_some_iff.1 hX).2] at hc
        have hdr:=drop_at hX
        have htk:=take_at hX
        rw[hdr,nJ] at hB
        rw[hpa]
        generalize hs2:seen++p.l.take j=seen2 at hB hM
        have htk2:Hid (seen++p.l.take (j+1)=seen2++[x]):=Lib.hid (by rw[htk,←List.append_assoc,hs2])
        have hrp':=Lib.hid hrp
        have hpa':=Lib.hid hpa
        have hcx:=hx.cell
        clear hX hdr htk hs2 hrp hpa
        have hjl' : (j:Int)<(p.l.length:Int):=by omega
        by_cases hr3:x < -1∨k≤x
        ·have hfin:Hid (aR (bT ps k)=3):=Lib.hid (by rw[hres3.out,hB.out,if_pos hr3];rfl)
         have hr3' : x < -1∨(¬x < -1∧k≤x):=by omega
         clear hr3
         rcases hr3' with g6|⟨g6,g7⟩
         all_goals
          go_wp2
          go_ret
          exact⟨aS hfin.out.symm,hbr⟩
        ·have g6:¬x < -1:=by omega
         have g7:¬k≤x:=by omega
         have hB2:Hid (dU k seen p.l=if 0≤x∧x∈seen2 then 7 else dU k (seen2++[x]) (p.l.drop (j+1))):=Lib.hid (by rw[hB.out,if_neg hr3])
         clear hB hr3
         have hlook:=hM.look x (by omega)
         by_cases h7:0≤x∧x∈seen2
         ·have hfin:Hid (aR (bT ps k)=7):=Lib.hid (by rw[hres3.out,hB2.out,if_pos h7];rfl)
          rw[show mf seen2 x=true from decide_eq_true h7.2] at hlook
          have g8:0≤x:=h7.1
          clear h7
          go_wp2
          go_ret
          exact⟨aS hfin.out.symm,hbr⟩
         ·have hB3:Hid (dU k seen p.l=dU k (seen++p.l.take (j+1)) (p.l.drop (j+1))):=Lib.hid (by rw[hB2.out,if_neg h7,htk2.out])
          have h7' : ¬0≤x∨(0≤x∧mf seen2 x=false):=by
           by_cases g8:0≤x
           ·exact .inr ⟨g8,decide_eq_false fun hh=>h7 ⟨g8,hh⟩⟩
           ·exact .inl g8
          clear h7 hB2
          rcases h7' with g8|⟨g8,g9⟩
          ·clear hlook
           go_wp2_with (refine nZ hM (by omega) rfl _ _ _ rfl rfl x rfl rfl (by omega) ?_)
           intro w6 hM6 hgr6
           rw[wI,←htk2.out] at hM6
           have hbel6:=hbr.grown hgr6 hbr.size (fun k hk=>by cases hk;omega)
           have hx6:=hx.grown hgr6 (fun e=>by have:=Option.some.inj e;omega)
           have hrp6:=hM.rdv hrp'.out hgr6
           clear hbr hx hM hgr6 hcx hc
           go_wp2
           go_roundw
           case rel=>exact⟨j+1,m+1,by omega,by go_num,by omega,hbel6,hx6,hM6,(by rw[←hpa'.out];exact hrp6),hB3⟩
           case measure=>simp[intOf];omega
          ·rw[g9] at hlook
           go_wp2_with (refine nZ hM (by omega) rfl _ _ _ rfl rfl x rfl rfl (by omega) ?_)
           intro w6 hM6 hgr6
           rw[wI,←htk2.out] at hM6
           have hbel6:=hbr.grown hgr6 hbr.size (fun k hk=>by cases hk;omega)
           have hx6:=hx.grown hgr6 (fun e=>by have:=Option.some.inj e;omega)
           have hrp6:=hM.rdv hrp'.out hgr6
           clear hbr hx hM hgr6 hcx hc
           go_wp2
           go_roundw
           case rel=>exact⟨j+1,m+1,by omega,by go_num,by omega,hbel6,hx6,hM6,(by rw[←hpa'.out];exact hrp6),hB3⟩
           case measure=>simp[intOf];omega
       ·have hfin:Hid (aR (bT ps k)=jG k (((ps.take (q+1)).map PF.fi).flatMap Fi.b) ((ps.drop (q+1)).map PF.fi)):=Lib.hid (by
         have e0:dU k seen p.l=0:=by rw[hB.out,List.drop_eq_nil_of_le (by omega)];rfl
         rw[hres3.out,if_neg (fun hh=>hh e0),htk'.out,List.map_append,List.flatMap_append,hseen'.out]
         simp[PF.fi])
        have hMq:jL wr gm m (mf (((ps.take (q+1)).map PF.fi).flatMap Fi.b)):=by
         rw[List.take_of_length_le (by omega)] at hM
         rw[htk'.out,List.map_append,List.flatMap_append,hseen'.out]
         simpa[PF.fi] using hM
        have hjl' : ¬(j:Int)<(p.l.length:Int):=by omega
        clear hM hB hres3
        go_wp2
        go_roundw
        case rel=>exact⟨q+1,m,by omega,by go_num,by omega,hbr,hx,hMq,hfin⟩
        case measure=>simp[intOf];omega
     ·have hfin:Hid (aR (bT ps k)=2):=Lib.hid (by rw[hres2.out,if_pos hcnt])
      have hcc:((p.l.length:Int) != dA p.n)=true:=by rw[bne_iff_ne];exact hcnt
      clear hres2 hcnt
      go_upto_region 9 with (fail)
      refine aG 7 [_,_,_,_,_,.v (.int .i64 (dA p.n)),_] (Gf wr.heap.size 1 rfl rfl (Gl hf2 (V:=.slice p.a p.l.length p.c) (by simp[f1,Tryz.underlying29]) rfl rfl rfl rfl (Gn rfl rfl rfl rfl (Gf wr.heap.size 0 rfl rfl (Gl hf2 (V:=.int .i64 p.n) (by simp[f0]) rfl rfl rfl rfl (ag ?_ (Gb (.bool true) (by simp[go_sem,hcc]) rfl rfl rfl rfl rfl (aB))))) (Tryz.underlying29)))) (fun _=>rfl) rfl ?_
      ·intro ρ y W hw hn hb hd;have E42:=hw 42 4 rfl;have h4:y 4=_:=hd 4 rfl
       have EF:∀f,ρ (.func f) = .func (.func f) #[] #[]:=fun f=>hn (.func f) trivial
       refine aJ _ _ (ah rfl) (aK rfl (EF _) Tryz.func133 (by kernel_rfl) (by kernel_rfl) (by simp only[List.map_toArray,List.map_cons,List.map_nil,E42,h4,EF];rfl)) ?_
       refine (ym p.n W (by omega)).mono ?_
       rintro e w1 ⟨rfl,rfl⟩
       exact⟨_,rfl,Below.refl _ _,rfl⟩
      intro y WA hbWA _
      go_wp2
      go_ret
      exact⟨aS hfin.out.symm,ae hbel2 hbWA⟩
   ·have hfin:Hid (aR (bT ps k)=0):=Lib.hid (by rw[hres.out,List.drop_eq_nil_of_le (by omega)];rfl)
    go_wp2
    go_ret
    exact⟨aS hfin.out.symm,hbr⟩
theorem DU (l:List Int) (a:Option Addr) (c:Nat) (w:World) (hle:l.length≤c) (hnil:a=none→c=0) (hrd:cZ w a (l.map dL)) (hb:l.length*8≤140737488355328) :
  Calls Tryz.prog 101 #[.slice a l.length c] w fun e w' => ∃v,e = .returned v∧Own w' w.heap.size 3 1 v l.length (l.map dL)∧Below w.heap.size w w':=by
 cases a with
 | none=>
  have h0:=hnil rfl
  have hl:l=[]:=List.eq_nil_of_length_eq_zero (by omega)
  subst hl
  subst h0
  have hq:=fun W=>Lib.run_eql_slice_nil (P:=Tryz.prog) W 29 _ none 0 0 0 0 Tryz.underlying29
  go_enter Tryz.func101,Tryz.ntmps101
  go_wp2
  go_ret
  exact⟨_,rfl,by simpa using Own.nil _ _ _ _,Below.refl _ _⟩
 | some ad=>
  have hq:=fun W=>Lib.run_eql_slice_nil (P:=Tryz.prog) W 29 _ (some ad) l.length c 0 0 Tryz.underlying29
  go_enter Tryz.func101,Tryz.ntmps101
  go_wp2_with (at_builtin;go_must (refine eu rfl _ _ 29 rfl w.heap.size 3 (.int .i64 0) 1 8 Tryz.underlying29 int_info rfl (by decide) _ 0 [] rfl ?own (some ad) l.length c (l.map dL) rfl (fun h=>(by cases h)) hle (Bf l) ?rd (Ba l) (by unfold maxLen;omega) (by simpa using hb) ?bb ?k))
  case own=>exact⟨rfl,.inr ⟨w.heap.size,0,0,#[],rfl,Nat.le_refl _,aF.new _ _ _,Nat.le_refl _,Nat.zero_le _,by simp,fun j u h=>by simp at h⟩⟩
  case rd=>exact hrd.below ((Below.refl _ _).alloc (Nat.le_refl _) _)
  case bb=>exact dR _ _
  intro v w1 hown hgr
  go_wp2
  go_ret
  exact⟨v,rfl,by simpa using hown,((Below.refl _ _).alloc (Nat.le_refl _) _).grown hgr (dR _ _) (fun k hk=>by cases hk;exact Nat.le_refl _)⟩
theorem file_info:(Tryz.prog.info? 67).map (fun i=>(i.zero,i.size,i.bytes))=some (some (.agg #[.int .i64 0,.slice none 0 0]),2,32):=by kernel_rfl
theorem Lp (p:PF):∀u∈pG p,u.oneCell' = true:=by
 intro u hu
 have:=kC p
 rw[←Array.all_toList,List.all_eq_true] at this
 exact this u hu
def lY (p:PF):Value:=.slice p.a p.l.length p.c
structure rA (w:World) (B:Nat) (v:Value) (ps:List PF):Prop where
 own:Own w B 67 2 v ps.length (ps.flatMap pG)
 each:∀(i:Nat) p,ps[i]?=some p→Own w B 3 1 (lY p) p.l.length (p.l.map dL)
 apart:∀(i j:Nat) p q,i<j→ps[i]?=some p→ps[j]?=some q→Apart (lY p) (lY q)
theorem rA.rd {w:World} {B:Nat} {v:Value} {ps:List PF} (h:rA w B v ps):∃a c,v = .slice a ps.length c∧CV w a c ps:=by
 obtain⟨a,c,rfl,h1,h2,h3,h4⟩:=h.own.rd
 refine⟨a,c,rfl,h1,h2,h3,h4,fun p hp => ?_⟩
 obtain⟨i,hi,rfl⟩:=List.mem_iff_getElem.1 hp
 obtain⟨a',c',e,k1,k2,k3,k4⟩:=(h.each i _ (List.getElem?_eq_getElem hi)).rd
 unfold lY at e
 simp only[Value.slice.injEq] at e
 obtain⟨rfl,_,rfl⟩:=e
 exact⟨k1,k2,k3,k4⟩
theorem rA.below {w w' : World} {B:Nat} {v:Value} {ps:List PF} (h:rA w B v ps) (hb:Below w.heap.size w w'):rA w' B v ps:=
 ⟨h.own.below hb,fun i p hp=>(h.each i p hp).below hb,h.apart⟩
theorem rA.mono {w:World} {B B' : Nat} {v:Value} {ps:List PF} (h:rA w B v ps) (hB:B'≤B):rA w B' v ps:=
 ⟨h.own.mono hB,fun i p hp=>(h.each i p hp).mono hB,h.apart⟩
theorem rA.keep {w w' : World} {B:Nat} {v:Value} {ps:List PF} (h:rA w B v ps) {g:Nat} {cs:Array Value} {T:TypeId} (hk:aF w g cs T) (h1:T≠67) (h2:T≠3) (hgr:w.grownBy w' (some g)):rA w' B v ps:=
 ⟨ak h.own hk h1 hgr,fun i p hp=>ak (h.each i p hp) hk h2 hgr,h.apart⟩
theorem rA.nil (w:World) (B:Nat):rA w B (.slice none 0 0) []:=⟨Own.nil _ _ _ _,fun i p h=>by simp at h,fun i j p q _ h=>by simp at h⟩
def NP (ps:List PF):Prop:=ps.length*32≤140737488355328∧∀p∈ps,p.l.length*8≤140737488355328
theorem rA.app {w w' : World} {B:Nat} {v v' : Value} {ps:List PF} (h:rA w B v ps) {p:PF} (ho:Own w' B 67 2 v' (ps.length+1) (ps.flatMap pG++pG p)) (hp:Own w B 3 1 (lY p) p.l.length (p.l.map dL)) (hgr:w.grownBy w' v.ownBlock)
  (ha:∀(i:Nat) q,ps[i]?=some q→Apart (lY q) (lY p)):rA w' B v' (ps++[p]) where
 own:=by rw[List.length_append,List.flatMap_append];simpa using ho
 each:=fun i q hq=>by
  by_cases hi:i<ps.length
  ·rw[List.getElem?_append_left hi] at hq
   exact Ep (h.each i q hq) h.own (by decide) hgr
  ·rw[List.getElem?_append_right (by omega)] at hq
   have hi0:i-ps.length=0:=by
    rcases Nat.eq_zero_or_pos (i-ps.length) with e|e
    ·exact e
    ·rw[List.getElem?_eq_none (by simp;omega)] at hq;cases hq
   rw[hi0] at hq
   cases hq
   exact Ep hp h.own (by decide) hgr
 apart:=fun i j q r hij hq hr=>by
  have hi:i<ps.length:=by
   have:=(List.getElem?_eq_some_iff.1 hr).1
   simp at this
   omega
  rw[List.getElem?_append_left hi] at hq
  by_cases hj:j<ps.length
  ·rw[List.getElem?_append_left hj] at hr
   exact h.apart i j q r hij hq hr
  ·rw[List.getElem?_append_right (by omega)] at hr
   have hj0:j-ps.length=0:=by
    rcases Nat.eq_zero_or_pos (j-ps.length) with e|e
    ·exact e
    ·rw[List.getElem?_eq_none (by simp;omega)] at hr;cases hr
   rw[hj0] at hr
   cases hr
   exact ha i q hq
theorem slfile_size:(Tryz.prog.info? 35).map (·.size)=some 1:=by kernel_rfl
theorem Ii (a:Option Addr) (n c:Nat) (k:Int):(#[Value.slice a n c,Value.int .i64 k]:Array Value).all (·.oneCell')=true:=by simp[Value.oneCell']
def Mt (B:Nat) (n:Int) (l:List Int):iO:=⟨fun v w => ∃u,v = .agg #[.int .i64 n,u]∧Own w B 3 1 u l.length (l.map dL),fun _ _ _ hb ⟨u,h1,h2⟩=>⟨u,h1,h2.below hb⟩⟩
def NN (B:Nat) (n:Int) (l:List Int):iO:=⟨fun v w => ∃g p,v = .slice (some ⟨g,0,none⟩) 1 1∧p.n=n∧p.l=l∧cZ w (some ⟨g,0,none⟩) (pG p)∧Own w B 3 1 (lY p) p.l.length (p.l.map dL),by
 rintro v w w' hb ⟨g,p,h1,h2,h3,h4,h5⟩
 exact⟨g,p,h1,h2,h3,h4.below hb,h5.below hb⟩⟩
theorem Ki (ps:List PF) (k:Int) (a:Option Addr) (c:Nat) (w:World) (h:CV w a c ps) (hz:NP ps) :
  Calls Tryz.prog 61 #[.agg (FL a ps.length c k)] w fun r w' => ∃v ps',r = .returned (.agg #[v,.int .i64 k])∧rA w' w.heap.size v ps'∧ps'.map PF.fi=ps.map PF.fi∧Below w.heap.size w w':=by
 have hlc:=Nat.le_trans h.le h.mx
 unfold maxLen at hlc
 unfold FL
 go_enter Tryz.func61,Tryz.ntmps61
 go_upto_region 1 with (fail)
 refine mg (fun W=>Code.wp _ _ _ _ W) fun W0 hb0 hx0 hr0 hs0 => ?_
 clear hs0
 have hcx:=hx0.cell
 go_upto_region 2 with (refine aH rfl _ _ _ rfl #[.slice none 0 0,.int .i64 k] rfl rfl rfl store_size (Ii none 0 0 k) ?_)
 clear hcx
 intro W1 hb1 ho1
 have hbel1:=ae hb0 hb1
 have hx1:=hx0.ext hb1
 have hr1:=hr0.ext hb1
 have hgo:w.heap.size+1<W0.heap.size:=hr0.lt
 obtain⟨go,hGO⟩:∃g,g=W0.heap.size:=⟨_,rfl⟩
 rw[←hGO] at ho1 hgo ⊢
 clear hGO hb0 hx0 hr0 hb1
 have hcx:=hx1.cell
 go_upto_region 3 with (fail)
 clear hcx
 go_loopw [12] (fun i wr => ∃(q:Nat) (v:Value) (qs:List PF),q≤ps.length∧i = .int .i64 q∧Below w.heap.size w wr∧aF wr (w.heap.size+1) #[.slice none 0 0,.int .i64 0] 37∧aF wr go #[v,.int .i64 k] 37∧rA wr w.heap.size v qs∧qs.map PF.fi=(ps.take q).map PF.fi) (fun i _=>ps.length-(intOf i).toNat)
 case atStart=>exact⟨0,_,[],Nat.zero_le _,rfl,hbel1,hr1,ho1,rA.nil _ _,rfl⟩
 case round=>
  clear hbel1 hx1 hr1 ho1
  obtain⟨q,v,qs,hq,rfl,hbr,hr,ho,hF,hqs0⟩:=hrel
  have hqs:=Lib.hid hqs0
  clear hqs0
  by_cases hlt:q<ps.length
  ·obtain⟨b,off,p,rfl,hp,c0,c1⟩:=uJ (h.below hbr).rd q hlt
   have hgw:=h.good p (List.mem_of_getElem? hp)
   have hpz:=hz.2 p (List.mem_of_getElem? hp)
   have htk:=take_at hp
   have hqs2:Hid (qs.map PF.fi++[p.fi]=(ps.take (q+1)).map PF.fi):=Lib.hid (by rw[htk,List.map_append,hqs.out];rfl)
   have hql:qs.length≤q:=by
    have:=congrArg List.length hqs.out
    simp[Nat.min_eq_left hq] at this
    omega
   clear hp htk
   go_wp2_with (refine aH rfl _ _ _ rfl (gZ p) rfl rfl rfl file_size (kC _) ?_)
   intro w2 hb2 hf2
   have hbel2:=ae hbr hb2
   have hr2:=hr.ext hb2
   have ho2:=ho.ext hb2
   have hF2:=hF.below hb2
   have hgo2:go<wr.heap.size:=ho.lt
   clear hbr hr ho hF hb2 c0 c1
   obtain⟨av,cv,rfl,hR2⟩:=hF2.rd
   have hlv:=hR2.le
   have hmv:=hR2.mx
   unfold maxLen at hmv
   have hsz1:=hz.1
   have hgA:=hgw.below hbel2
   go_upto_region 5 with (fail)
   refine Bj 9 10 [] [nU (.pointer (some ⟨go,0,none⟩)),nU (.slice av qs.length cv),nU (.pointer (some ⟨wr.heap.size,0,none⟩)),nU (.int .i64 p.n),nU (.pointer (some ⟨wr.heap.size,1,none⟩)),nU (.slice p.a p.l.length p.c),(il w2.heap.size 3 1 p.l.length (p.l.map dL)),(Mt w2.heap.size p.n p.l),(NN w2.heap.size p.n p.l)] (by kernel_rfl) (by kernel_rfl) (by kernel_rfl) (by kernel_rfl) (by kernel_rfl) (by kernel_rfl) (by decide) (by decide) _ rfl (by kernel_rfl) (ag ?_ (ag ?_ (ag ?_ (ag ?_ (ag ?_ (ag ?_ (ag ?_ (ag ?_ (ag ?_ (aB)))))))))) (aB) rfl ?_
   ·refine bq rfl ?_
    intro ρ y W hw hn hb hd
    have E3:ρ (.tmp 3) = .pointer (some ⟨go,0,none⟩):=(hn (.tmp 3) rfl).trans rfl
    refine aj (.pointer (some ⟨go,0,none⟩)) (ah rfl) (by simp[execOp,go_sem,E3]) rfl
   ·refine bq rfl ?_
    intro ρ y W hw hn hb hd
    have E16:=hw 16 0 rfl
    have h0:y 0 = .pointer (some ⟨go,0,none⟩):=hd 0 rfl
    refine aj (.slice av qs.length cv) (ah rfl) (by simp[execOp,go_sem,E16,h0,(ho2.ext hb).cell,Tryz.underlying35]) rfl
   ·refine bq rfl ?_
    intro ρ y W hw hn hb hd
    have E5:ρ (.tmp 5) = .pointer (some ⟨wr.heap.size,0,none⟩):=(hn (.tmp 5) rfl).trans rfl
    refine aj (.pointer (some ⟨wr.heap.size,0,none⟩)) (ah rfl) (by simp[execOp,go_sem,E5]) rfl
   ·refine bq rfl ?_
    intro ρ y W hw hn hb hd
    have E18:=hw 18 2 rfl
    have h2:y 2 = .pointer (some ⟨wr.heap.size,0,none⟩):=hd 2 rfl
    refine aj (.int .i64 p.n) (ah rfl) (by simp[execOp,go_sem,E18,h2,(hf2.ext hb).cell,gZ]) rfl
   ·refine bq rfl ?_
    intro ρ y W hw hn hb hd
    have E5:ρ (.tmp 5) = .pointer (some ⟨wr.heap.size,0,none⟩):=(hn (.tmp 5) rfl).trans rfl
    refine aj (.pointer (some ⟨wr.heap.size,1,none⟩)) (ah rfl) (by simp[execOp,go_sem,E5]) rfl
   ·refine bq rfl ?_
    intro ρ y W hw hn hb hd
    have E20:=hw 20 4 rfl
    have h4:y 4 = .pointer (some ⟨wr.heap.size,1,none⟩):=hd 4 rfl
    refine aj (.slice p.a p.l.length p.c) (ah rfl) (by simp[execOp,go_sem,E20,h4,(hf2.ext hb).cell,gZ]) rfl
   ·refine bq rfl ?_
    intro ρ y W hw hn hb hd
    have E21:=hw 21 5 rfl
    have h5:y 5 = .slice p.a p.l.length p.c:=hd 5 rfl
    have EF:∀f,ρ (.func f) = .func (.func f) #[] #[]:=fun f=>hn (.func f) trivial
    refine aJ _ _ (ah rfl) (aK rfl (EF _) Tryz.func101 (by kernel_rfl) (by kernel_rfl) (by simp only[List.map_toArray,List.map_cons,List.map_nil,E21,h5,EF];rfl)) ?_
    refine (DU p.l p.a p.c W hgw.le hgw.nl (hgA.below hb).rd hpz).mono ?_
    rintro e w1 ⟨u,rfl,ho,hb1⟩
    exact⟨u,rfl,hb1,ho.mono hb.size⟩
   ·refine bq rfl ?_
    intro ρ y W hw hn hb hd
    have E19:=hw 19 3 rfl
    have h3:y 3 = .int .i64 p.n:=hd 3 rfl
    have E22:=hw 22 6 rfl
    have h6:((il w2.heap.size 3 1 p.l.length (p.l.map dL))).r (y 6) W:=hd 6 rfl
    obtain⟨x6,c6,e6,_⟩:=Own.rd h6
    refine aj (.agg #[.int .i64 p.n,y 6]) (ah rfl) (by simp[execOp,go_sem,E19,h3,E22,e6]) ?_
    exact⟨_,rfl,h6⟩
   ·refine bq rfl ?_
    intro ρ y W hw hn hb hd
    have E23:=hw 23 7 rfl
    have h7:((Mt w2.heap.size p.n p.l)).r (y 7) W:=hd 7 rfl
    obtain⟨u,e7,ho7⟩:=h7
    obtain⟨x7,c7,rfl,_⟩:=Own.rd ho7
    refine ji (.slice (some ⟨W.heap.size,0,none⟩) 1 1) (ah rfl) (by simp[execOp,go_sem,E23,e7,gZ]) ((Below.refl _ _).alloc (Nat.le_refl _) (.cells (gZ ⟨p.n,x7,p.l,c7⟩) 67)) ?_
    exact⟨_,⟨p.n,x7,p.l,c7⟩,rfl,rfl,rfl,cZ.new _ _ _,ho7.alloc _⟩
   intro ρ y WA o ho hw hn hV hbWA hRWA
   cases ho
   have hy0:y 0 = .pointer (some ⟨go,0,none⟩):=hRWA 0 (by decide)
   have hy1:y 1 = .slice av qs.length cv:=hRWA 1 (by decide)
   have hy2:y 2 = .pointer (some ⟨wr.heap.size,0,none⟩):=hRWA 2 (by decide)
   have hy3:y 3 = .int .i64 p.n:=hRWA 3 (by decide)
   have hy4:y 4 = .pointer (some ⟨wr.heap.size,1,none⟩):=hRWA 4 (by decide)
   have hy5:y 5 = .slice p.a p.l.length p.c:=hRWA 5 (by decide)
   have hy6:((il w2.heap.size 3 1 p.l.length (p.l.map dL))).r (y 6) WA:=hRWA 6 (by decide)
   have hy7:((Mt w2.heap.size p.n p.l)).r (y 7) WA:=hRWA 7 (by decide)
   have hy8:((NN w2.heap.size p.n p.l)).r (y 8) WA:=hRWA 8 (by decide)
   have E17:=hw 17 1 rfl
   rw[hy1] at E17
   have E24:=hw 24 8 rfl
   have EC:∀v,ρ (.const v)=v:=fun v=>hn (.const v) trivial
   have EF:∀f,ρ (.func f) = .func (.func f) #[] #[]:=fun f=>hn (.func f) trivial
   obtain⟨g8,p8,e8,hn8,hl8,hrd8,hou8⟩:=hy8
   refine zL (ah rfl) (gL (.tmp 17) (.tmp 24) 35 rfl w.heap.size 67 _ 2 32 Tryz.underlying35 file_info rfl (by decide) _ _ _ E17 (hF2.own.below hbWA) _ 1 1 (pG p8) (E24.trans e8) (fun e=>by cases e) (Nat.le_refl _) rfl hrd8 (Lp _) (by unfold maxLen;omega) (by omega) (Nat.le_trans hbel2.size hbWA.size)) ?_
   rintro v2 w4 ⟨hown4,hgr4,hcase4⟩
   clear hRWA hw hn hV
   simp only[lay,Nat.reduceAdd,Nat.reduceLT,Nat.reduceEqDiff,reduceIte,decide_true,decide_false,if_true,Bool.false_eq_true,if_false,List.setIfInBounds_toArray,List.set_cons_zero,List.set_cons_succ,List.drop_succ_cons,List.drop_zero,List.drop_nil,hy0,hy1,hy2,hy3,hy4,hy5]
   clear hy0 hy1 hy2 hy3 hy4 hy5
   have hbelA:=ae hbel2 hbWA
   have hrA:=hr2.ext hbWA
   have hoA:=ho2.ext hbWA
   have hFA:=hF2.below hbWA
   have hapn:∀(i:Nat) r,qs[i]?=some r→Apart (lY r) (lY p8):=by
    intro i r hi g hg hg8
    have h1:=zx (hF2.each i r hi) g hg
    have h2:=hou8.ge g hg8
    omega
   have hown4' : Own w4 w.heap.size 67 2 v2 (qs.length+1) (qs.flatMap pG++pG p8):=hown4
   have hF4:=hFA.app hown4' (hou8.mono hbel2.size) hgr4 hapn
   have hr4:=jA hrA hFA.own (by decide) hgr4
   have ho4:=jA hoA hFA.own (by decide) hgr4
   have hbel4:Below w.heap.size w w4:=hbelA.grown hgr4 hbelA.size (fun k hk=>hFA.own.ge k hk)
   have hqs3:Hid ((qs++[p8]).map PF.fi=(ps.take (q+1)).map PF.fi):=Lib.hid (by
    rw[List.map_append,←hqs2.out]
    congr 1
    simp[PF.fi,hn8,hl8])
   obtain⟨a4,c4,rfl,_⟩:=hF4.rd
   rw[List.length_append,List.length_singleton] at hF4 ⊢
   clear hbel2 hr2 ho2 hF2 hbWA hbelA hrA hoA hFA hown4 hown4' hgr4 hapn hou8 hrd8 hf2 hcase4
   go_wp2_with (refine aC rfl _ _ _ rfl go 0 _ [.slice a4 (qs.length+1) c4] rfl rfl rfl _ _ ho4 (show 0+1≤2 by decide) slfile_size (fun u hu=>by cases List.mem_singleton.1 hu;rfl) ?_)
   intro w5 ho5 hgr5
   have hr5:aF w5 (w.heap.size+1) _ _:=hr4.grown hgr5 (fun e=>by have:=Option.some.inj e;omega)
   have hF5:=hF4.keep ho4 (by decide) (by decide) hgr5
   have hbel5:=hbel4.grown hgr5 hbel4.size (fun k hk=>by cases hk;omega)
   have ho5' : aF w5 go #[.slice a4 (qs.length+1) c4,.int .i64 k] 37:=ho5
   clear ho4 hr4 hF4 hbel4 hgr5 ho5
   go_wp2
   go_roundw
   case rel=>exact⟨q+1,_,_,by omega,by go_num,hbel5,hr5,ho5',hF5,hqs3.out⟩
   case measure=>simp[intOf];omega
  ·obtain rfl:q=ps.length:=by omega
   have hfin:Hid (qs.map PF.fi=ps.map PF.fi):=Lib.hid (by rw[hqs.out,List.take_length])
   obtain⟨av,cv,rfl,_⟩:=hF.rd
   have hco:=ho.cell
   go_wp2_with (refine az rfl _ _ _ rfl (w.heap.size+1) #[.slice av qs.length cv,.int .i64 k] rfl rfl _ _ hr rfl store_size (Ii _ _ _ _) ?_)
   intro w5 hr5 hgr5
   have hF5:=hF.keep hr (by decide) (by decide) hgr5
   have hbel5:=hbr.grown hgr5 hbr.size (fun k hk=>by cases hk;omega)
   go_wp2
   refine bodyPost_ret (v:=.agg #[.slice av qs.length cv,.int .i64 k]) (dw Tryz.results61 _ _ (w.heap.size+1) _ _ _ rfl hr5 Tryz.underlying37 rfl store_size) rfl ?_
   exact⟨_,_,rfl,hF5,hfin.out,hbel5⟩
def oN (ps:List PF):List Int:=ps.flatMap PF.l
theorem vD (ps:List PF) (k:Int):jY (bT ps k)=oN ps:=by
 unfold jY bT oN
 rw[List.flatMap_map]
 rfl
theorem CJ {ps:List PF} {q:Nat} {p:PF} (hp:ps[q]?=some p):oN (ps.take (q+1))=oN (ps.take q)++p.l:=by
 unfold oN
 rw[take_at hp,List.flatMap_append]
 simp
theorem pV (ps:List PF) (k x:Int) (a:Option Addr) (c:Nat) (w:World) (h:CV w a c ps) :
  Calls Tryz.prog 32 #[.agg (FL a ps.length c k),.int .i64 x] w fun r w'=>r = .returned (.bool (ko (bT ps k) x))∧Below w.heap.size w w':=by
 have hlc:=Nat.le_trans h.le h.mx
 unfold maxLen at hlc
 unfold FL
 go_enter Tryz.func32,Tryz.ntmps32
 go_upto_region 1 with (fail)
 refine fo (fun W=>Code.wp _ _ _ _ W) fun W0 hb0 hx0 hs0 => ?_
 clear hs0
 have hcx:=hx0.cell
 go_upto_region 2 with (fail)
 clear hcx hx0
 go_loopw [12] (fun i wr => ∃(q:Nat),q≤ps.length∧i = .int .i64 q∧¬x∈oN (ps.take q)∧Below w.heap.size w wr) (fun i _=>ps.length-(intOf i).toNat)
 case atStart=>exact⟨0,Nat.zero_le _,rfl,by simp[oN],hb0⟩
 case round=>
  clear hb0
  obtain⟨q,hq,rfl,hm0,hbr⟩:=hrel
  have hm:=Lib.hid hm0
  clear hm0
  by_cases hlt:q<ps.length
  ·obtain⟨b,off,p,rfl,hp,c0,c1⟩:=uJ (h.below hbr).rd q hlt
   have hgw:=h.good p (List.mem_of_getElem? hp)
   have hst:=Lib.hid (CJ hp)
   have hin:Hid (∀y∈p.l,y∈oN ps):=Lib.hid (fun y hy=>List.mem_flatMap.2 ⟨p,List.mem_of_getElem? hp,hy⟩)
   have hle:=Nat.le_trans hgw.le hgw.mx
   unfold maxLen at hle
   clear hp
   go_wp2_with (refine aH rfl _ _ _ rfl (gZ p) rfl rfl rfl file_size (kC _) ?_)
   intro w2 hb2 hf2
   have hbel2:=ae hbr hb2
   have hcf:=hf2.cell
   have f0:(gZ p)[0]?=some (.int .i64 p.n):=rfl
   have f1:(gZ p)[1]?=some (.slice p.a p.l.length p.c):=rfl
   clear hbr hb2 c0 c1
   go_upto_region 5 with (fail)
   clear hcf f0 f1 hf2
   go_loopw [19] (fun i wr => ∃(j:Nat),j≤p.l.length∧i = .int .i64 j∧¬x∈p.l.take j∧Below w.heap.size w wr) (fun i _=>p.l.length-(intOf i).toNat)
   case atStart=>exact⟨0,Nat.zero_le _,rfl,by simp,hbel2⟩
   case round=>
    clear hbel2
    obtain⟨j,hj,rfl,hx0,hbr⟩:=hrel
    have hx:=Lib.hid hx0
    clear hx0
    by_cases hjl:j<p.l.length
    ·obtain⟨b2,off2,hpa,hc⟩:=fZ (hgw.rd.below hbr) j hjl
     have htk:p.l.take (j+1)=p.l.take j++[p.l[j]]:=take_at (List.getElem?_eq_getElem hjl)
     have hyin:=Lib.hid (hin.out _ (List.getElem_mem hjl))
     have htk':=Lib.hid htk
     rw[hpa]
     clear htk hpa
     generalize p.l[j]=y at hc htk' hyin
     by_cases hy:y=x
     ·have hfin:Hid (ko (bT ps k) x=true):=Lib.hid (by
       unfold ko
       rw[vD,←hy]
       exact decide_eq_true hyin.out)
      subst hy
      go_wp2
      go_ret
      exact⟨aT hfin.out.symm,hbr⟩
     ·have hnx:Hid (¬x∈p.l.take (j+1)):=Lib.hid (by
       rw[htk'.out]
       intro hh
       rcases List.mem_append.1 hh with hh|hh
       ·exact hx.out hh
       ·exact hy (List.mem_singleton.1 hh).symm)
      have hyb:(y==x)=false:=beq_eq_false_iff_ne.2 hy
      clear hy
      go_wp2
      go_roundw
      case rel=>exact⟨j+1,by omega,by go_num,hnx.out,hbr⟩
      case measure=>simp[intOf];omega
    ·have hnx:Hid (¬x∈oN (ps.take (q+1))):=Lib.hid (by
      have h9:=hx.out
      rw[List.take_of_length_le (by omega)] at h9
      rw[hst.out]
      intro hh
      rcases List.mem_append.1 hh with hh|hh
      ·exact hm.out hh
      ·exact h9 hh)
     go_wp2
     go_roundw
     case rel=>exact⟨q+1,by omega,by go_num,hnx.out,hbr⟩
     case measure=>simp[intOf];omega
  ·have hfin:Hid (ko (bT ps k) x=false):=Lib.hid (by
    have h9:=hm.out
    rw[List.take_of_length_le (by omega)] at h9
    unfold ko
    rw[vD]
    exact decide_eq_false h9)
   go_wp2
   go_ret
   exact⟨aT hfin.out.symm,hbr⟩
def jO (a:Ar):Array Value:=#[.int .i64 a.fr,.int .i64 a.en,.bool a.rd,.bool a.wr,.bool a.sh,.int .i64 a.fi,.int .i64 a.ba]
def iE (a:Ar):List Value:=(jO a).toList
theorem lw (a:Ar):(iE a).length=7:=rfl
theorem LA (a:Ar):(jO a).all (·.oneCell')=true:=by simp[jO,Value.oneCell']
theorem area_size:(Tryz.prog.info? 99).map (·.size)=some 7:=by kernel_rfl
theorem area_info:(Tryz.prog.info? 99).map (fun i=>(i.zero,i.size,i.bytes))=some (some (.agg #[.int .i64 0,.int .i64 0,.bool false,.bool false,.bool false,.int .i64 0,.int .i64 0]),7,40):=by kernel_rfl
def yf (w:World) (b o:Nat) (a:Ar):Prop:=∀j u,(iE a)[j]?=some u→w.cell? ⟨b,o+j,none⟩=some u
theorem yf.below {w w' : World} {b o:Nat} {a:Ar} (h:yf w b o a) (hb:Below w.heap.size w w'):yf w' b o a:=fun j u hj=>cell_later hb (h j u hj)
theorem yf.cells {w:World} {b o:Nat} {a:Ar} (h:yf w b o a):w.cell? ⟨b,o,none⟩=some (.int .i64 a.fr)∧w.cell? ⟨b,o+1,none⟩=some (.int .i64 a.en)∧w.cell? ⟨b,o+2,none⟩=some (.bool a.rd)∧w.cell? ⟨b,o+3,none⟩=some (.bool a.wr) ∧
  w.cell? ⟨b,o+4,none⟩=some (.bool a.sh)∧w.cell? ⟨b,o+5,none⟩=some (.int .i64 a.fi)∧w.cell? ⟨b,o+6,none⟩=some (.int .i64 a.ba):=
 ⟨h 0 _ rfl,h 1 _ rfl,h 2 _ rfl,h 3 _ rfl,h 4 _ rfl,h 5 _ rfl,h 6 _ rfl⟩
theorem JA (b o:Nat) (a:Ar) (w:World) (h:yf w b o a) :
  Calls Tryz.prog 136 #[.pointer (some ⟨b,o,none⟩)] w fun e w'=>e = .returned (.int .i64 (aO a))∧Below w.heap.size w w':=by
 obtain⟨h0,h1,h2,h3,h4,h5,h6⟩:=h.cells
 go_enter Tryz.func136,Tryz.ntmps136
 go_upto_region 1 with (fail)
 by_cases g1:a.fr<0
 ·have hz:Hid (aO a=3):=Lib.hid (by unfold aO;rw[if_pos (by omega)])
  go_quiet (fail)
  go_wp2
  go_ret
  exact⟨aS hz.out.symm,below_drewN (Below.refl _ _) _⟩
 ·by_cases g2:a.en≤a.fr
  ·have hz:Hid (aO a=3):=Lib.hid (by unfold aO;rw[if_pos (by omega)])
   go_quiet (fail)
   go_wp2
   go_ret
   exact⟨aS hz.out.symm,below_drewN (Below.refl _ _) _⟩
  ·by_cases g3:64<a.en
   ·have hz:Hid (aO a=3):=Lib.hid (by unfold aO;rw[if_pos (by omega)])
    go_quiet (fail)
    go_wp2
    go_ret
    exact⟨aS hz.out.symm,below_drewN (Below.refl _ _) _⟩
   ·by_cases g4:a.fi < -1
    ·have hz:Hid (aO a=3):=Lib.hid (by unfold aO;rw[if_pos (by omega)])
     go_quiet (fail)
     go_wp2
     go_ret
     exact⟨aS hz.out.symm,below_drewN (Below.refl _ _) _⟩
    ·by_cases g5:5≤a.fi
     ·have hz:Hid (aO a=3):=Lib.hid (by unfold aO;rw[if_pos (by omega)])
      go_quiet (fail)
      go_wp2
      go_ret
      exact⟨aS hz.out.symm,below_drewN (Below.refl _ _) _⟩
     ·by_cases g6:a.ba<0
      ·have hz:Hid (aO a=3):=Lib.hid (by unfold aO;rw[if_pos (by omega)])
       go_quiet (fail)
       go_wp2
       go_ret
       exact⟨aS hz.out.symm,below_drewN (Below.refl _ _) _⟩
      ·have hn1:¬(a.fr<0∨a.en≤a.fr∨64<a.en∨a.fi < -1∨5≤a.fi∨a.ba<0):=by omega
       have hw1:IntKind.i64.wrap (a.en-a.fr)=a.en-a.fr:=IntWalk.i64_in _ (by omega)
       have hw2:IntKind.i64.wrap (12-(a.en-a.fr))=12-(a.en-a.fr):=IntWalk.i64_in _ (by omega)
       go_quiet (fail)
       by_cases f1:a.fi<0
       ·by_cases f2:a.ba=0
        ·cases f3:a.sh
         ·have hz:Hid (aO a=0):=Lib.hid (by unfold aO;rw[if_neg hn1,if_neg (by rw[f3];simp;omega)])
          go_upto_region 4 with (fail)
          have d0:decide (0≤a.fi)=false:=decide_eq_false (by omega)
          go_quiet (fail)
          go_wp2
          go_ret
          exact⟨aS hz.out.symm,below_drewN (Below.refl _ _) _⟩
         ·have hz:Hid (aO a=7):=Lib.hid (by unfold aO;rw[if_neg hn1,if_pos (.inl ⟨f1,.inr f3⟩)])
          go_wp2
          go_ret
          exact⟨aS hz.out.symm,below_drewN (Below.refl _ _) _⟩
        ·have hz:Hid (aO a=7):=Lib.hid (by unfold aO;rw[if_neg hn1,if_pos (.inl ⟨f1,.inl f2⟩)])
         have f2' : (a.ba != 0)=true:=by simpa using f2
         go_wp2
         go_ret
         exact⟨aS hz.out.symm,below_drewN (Below.refl _ _) _⟩
       ·have f1' : 0≤a.fi:=by omega
        by_cases f2:12-(a.en-a.fr)<a.ba
        ·have hz:Hid (aO a=7):=Lib.hid (by unfold aO;rw[if_neg hn1,if_pos (.inr ⟨f1',f2⟩)])
         go_upto_region 4 with (fail)
         have d0:decide (0≤a.fi)=true:=decide_eq_true (by omega)
         go_quiet (fail)
         go_wp2
         go_ret
         exact⟨aS hz.out.symm,below_drewN (Below.refl _ _) _⟩
        ·have hz:Hid (aO a=0):=Lib.hid (by unfold aO;rw[if_neg hn1,if_neg (by omega)])
         go_upto_region 4 with (fail)
         have d0:decide (0≤a.fi)=true:=decide_eq_true (by omega)
         go_quiet (fail)
         go_wp2
         go_ret
         exact⟨aS hz.out.symm,below_drewN (Below.refl _ _) _⟩
theorem yJ (p q p' q' : Nat) (a b:Ar) (w:World) (h:yf w p q a) (h' : yf w p' q' b) (hs:uV a) :
  Calls Tryz.prog 137 #[.pointer (some ⟨p,q,none⟩),.pointer (some ⟨p',q',none⟩)] w fun e w'=>e = .returned (.bool (bS a b))∧Below w.heap.size w w':=by
 obtain⟨h0,h1,h2,h3,h4,h5,h6⟩:=h.cells
 obtain⟨k0,k1,k2,k3,k4,k5,k6⟩:=h'.cells
 obtain⟨s1,s2,s3⟩:=hs
 have hw1:IntKind.i64.wrap (a.ba+a.en)=a.ba+a.en:=IntWalk.i64_in _ (by omega)
 have hw2:IntKind.i64.wrap (a.ba+a.en-a.fr)=a.ba+a.en-a.fr:=IntWalk.i64_in _ (by omega)
 go_enter Tryz.func137,Tryz.ntmps137
 by_cases hf:0≤a.fi
 ·go_upto_region 3 with (fail)
  go_quiet (fail)
  go_upto_region 4 with (fail)
  cases g1:(a.en==b.fr)
  ·have hz:Hid (bS a b=false):=Lib.hid (by unfold bS gz;rw[if_pos hf];simp only[g1,Bool.true_and,Bool.false_and,Bool.and_false,Bool.and_true])
   go_quiet (fail)
   go_wp2
   go_ret
   exact⟨aT hz.out.symm,by first | exact below_drewN (Below.refl _ _) _ | exact below_drewN (below_drewN (Below.refl _ _) _) _⟩
  ·cases g2:(a.rd==b.rd)
   ·have hz:Hid (bS a b=false):=Lib.hid (by unfold bS gz;rw[if_pos hf];simp only[g1,g2,Bool.true_and,Bool.false_and,Bool.and_false,Bool.and_true])
    go_quiet (fail)
    go_wp2
    go_ret
    exact⟨aT hz.out.symm,by first | exact below_drewN (Below.refl _ _) _ | exact below_drewN (below_drewN (Below.refl _ _) _) _⟩
   ·cases g3:(a.wr==b.wr)
    ·have hz:Hid (bS a b=false):=Lib.hid (by unfold bS gz;rw[if_pos hf];simp only[g1,g2,g3,Bool.true_and,Bool.false_and,Bool.and_false,Bool.and_true])
     go_quiet (fail)
     go_wp2
     go_ret
     exact⟨aT hz.out.symm,by first | exact below_drewN (Below.refl _ _) _ | exact below_drewN (below_drewN (Below.refl _ _) _) _⟩
    ·cases g4:(a.sh==b.sh)
     ·have hz:Hid (bS a b=false):=Lib.hid (by unfold bS gz;rw[if_pos hf];simp only[g1,g2,g3,g4,Bool.true_and,Bool.false_and,Bool.and_false,Bool.and_true])
      go_quiet (fail)
      go_wp2
      go_ret
      exact⟨aT hz.out.symm,by first | exact below_drewN (Below.refl _ _) _ | exact below_drewN (below_drewN (Below.refl _ _) _) _⟩
     ·cases g5:(a.fi==b.fi)
      ·have hz:Hid (bS a b=false):=Lib.hid (by unfold bS gz;rw[if_pos hf];simp only[g1,g2,g3,g4,g5,Bool.true_and,Bool.false_and,Bool.and_false,Bool.and_true])
       go_quiet (fail)
       go_wp2
       go_ret
       exact⟨aT hz.out.symm,by first | exact below_drewN (Below.refl _ _) _ | exact below_drewN (below_drewN (Below.refl _ _) _) _⟩
      ·cases g6:(b.ba==(a.ba+a.en-a.fr))
       ·have hz:Hid (bS a b=false):=Lib.hid (by unfold bS gz;rw[if_pos hf];simp only[g1,g2,g3,g4,g5,g6,Bool.true_and,Bool.false_and,Bool.and_false,Bool.and_true])
        go_quiet (fail)
        go_wp2
        go_ret
        exact⟨aT hz.out.symm,by first | exact below_drewN (Below.refl _ _) _ | exact below_drewN (below_drewN (Below.refl _ _) _) _⟩
       ·have hz:Hid (bS a b=true):=Lib.hid (by unfold bS gz;rw[if_pos hf];simp only[g1,g2,g3,g4,g5,g6,Bool.true_and,Bool.false_and,Bool.and_false,Bool.and_true])
        go_quiet (fail)
        go_wp2
        go_ret
        exact⟨aT hz.out.symm,by first | exact below_drewN (Below.refl _ _) _ | exact below_drewN (below_drewN (Below.refl _ _) _) _⟩
 ·go_upto_region 4 with (fail)
  cases g1:(a.en==b.fr)
  ·have hz:Hid (bS a b=false):=Lib.hid (by unfold bS gz;rw[if_neg hf];simp only[g1,Bool.true_and,Bool.false_and,Bool.and_false,Bool.and_true])
   go_quiet (fail)
   go_wp2
   go_ret
   exact⟨aT hz.out.symm,by first | exact below_drewN (Below.refl _ _) _ | exact below_drewN (below_drewN (Below.refl _ _) _) _⟩
  ·cases g2:(a.rd==b.rd)
   ·have hz:Hid (bS a b=false):=Lib.hid (by unfold bS gz;rw[if_neg hf];simp only[g1,g2,Bool.true_and,Bool.false_and,Bool.and_false,Bool.and_true])
    go_quiet (fail)
    go_wp2
    go_ret
    exact⟨aT hz.out.symm,by first | exact below_drewN (Below.refl _ _) _ | exact below_drewN (below_drewN (Below.refl _ _) _) _⟩
   ·cases g3:(a.wr==b.wr)
    ·have hz:Hid (bS a b=false):=Lib.hid (by unfold bS gz;rw[if_neg hf];simp only[g1,g2,g3,Bool.true_and,Bool.false_and,Bool.and_false,Bool.and_true])
     go_quiet (fail)
     go_wp2
     go_ret
     exact⟨aT hz.out.symm,by first | exact below_drewN (Below.refl _ _) _ | exact below_drewN (below_drewN (Below.refl _ _) _) _⟩
    ·cases g4:(a.sh==b.sh)
     ·have hz:Hid (bS a b=false):=Lib.hid (by unfold bS gz;rw[if_neg hf];simp only[g1,g2,g3,g4,Bool.true_and,Bool.false_and,Bool.and_false,Bool.and_true])
      go_quiet (fail)
      go_wp2
      go_ret
      exact⟨aT hz.out.symm,by first | exact below_drewN (Below.refl _ _) _ | exact below_drewN (below_drewN (Below.refl _ _) _) _⟩
     ·cases g5:(a.fi==b.fi)
      ·have hz:Hid (bS a b=false):=Lib.hid (by unfold bS gz;rw[if_neg hf];simp only[g1,g2,g3,g4,g5,Bool.true_and,Bool.false_and,Bool.and_false,Bool.and_true])
       go_quiet (fail)
       go_wp2
       go_ret
       exact⟨aT hz.out.symm,by first | exact below_drewN (Below.refl _ _) _ | exact below_drewN (below_drewN (Below.refl _ _) _) _⟩
      ·cases g6:(b.ba==0)
       ·have hz:Hid (bS a b=false):=Lib.hid (by unfold bS gz;rw[if_neg hf];simp only[g1,g2,g3,g4,g5,g6,Bool.true_and,Bool.false_and,Bool.and_false,Bool.and_true])
        go_quiet (fail)
        go_wp2
        go_ret
        exact⟨aT hz.out.symm,by first | exact below_drewN (Below.refl _ _) _ | exact below_drewN (below_drewN (Below.refl _ _) _) _⟩
       ·have hz:Hid (bS a b=true):=Lib.hid (by unfold bS gz;rw[if_neg hf];simp only[g1,g2,g3,g4,g5,g6,Bool.true_and,Bool.false_and,Bool.and_false,Bool.and_true])
        go_quiet (fail)
        go_wp2
        go_ret
        exact⟨aT hz.out.symm,by first | exact below_drewN (Below.refl _ _) _ | exact below_drewN (below_drewN (Below.refl _ _) _) _⟩
theorem JX {w:World} {a:Option Addr} {l:List Ar} (h:cZ w a (l.flatMap iE)) (k:Nat) (hk:k<l.length):∃b off,a=some ⟨b,off,none⟩∧yf w b (off+k*7) l[k]:=h.elem lw (by decide) k hk
theorem wF {w:World} {b off:Nat} {l:List Ar} (h:cZ w (some ⟨b,off,none⟩) (l.flatMap iE)) (k:Nat) (hk:k<l.length):yf w b (off+k*7) l[k]:=by
 obtain⟨b',off',e,h1⟩:=JX h k hk
 cases e
 exact h1
def Cj (e:Int × Int):Array Value:=#[.int .i64 e.1,.int .i64 e.2]
theorem fau_size:(Tryz.prog.info? 150).map (·.size)=some 2:=by kernel_rfl
theorem jb (x y:Int):(#[Value.int .i64 x,Value.int .i64 y]:Array Value).all (·.oneCell')=true:=by simp[Value.oneCell']
theorem Db (l:List Ar) (a:Option Addr) (c:Nat) (w:World) (hrd:cZ w a (l.flatMap iE)) (hl:l.length≤9223372036854775807) :
  Calls Tryz.prog 111 #[.slice a l.length c] w fun e w'=>e = .returned (.agg (Cj (aZ l)))∧Below w.heap.size w w':=by
 go_enter Tryz.func111,Tryz.ntmps111
 go_upto_region 1 with (fail)
 refine fo (fun W=>Code.wp _ _ _ _ W) fun W0 hbel hres hs0 => ?_
 clear hs0
 by_cases h16:16<l.length
 ·have h16' : (16:Int)<(l.length:Int):=by omega
  have hz:Hid (aZ l=(4,0)):=Lib.hid (by unfold aZ;rw[if_pos h16])
  go_wp2_with (refine az rfl _ _ _ rfl w.heap.size #[.int .i64 (4),.int .i64 (0)] rfl rfl _ _ hres rfl fau_size (jb _ _) ?_)
  intro w5 hr5 hgr5
  have hbel5:Below w.heap.size w w5:=hbel.grown hgr5 hbel.size (fun k hk=>by cases hk;exact Nat.le_refl _)
  go_wp2
  refine bodyPost_ret (v:=.agg #[.int .i64 (4),.int .i64 (0)]) (dw Tryz.results111 _ _ w.heap.size _ _ _ rfl hr5 Tryz.underlying150 rfl fau_size) rfl ?_
  exact⟨by rw[hz.out];rfl,hbel5⟩
 ·have h16' : ¬(16:Int)<(l.length:Int):=by omega
  have h0:Hid (aZ l=fF (kJ l 0) 0 (l.drop 0)):=Lib.hid (by unfold aZ;rw[if_neg h16];rfl)
  go_upto_region 4 with (fail)
  go_loopw [11] (fun i wr => ∃k:Nat,k≤l.length∧i = .int .i64 k∧Below w.heap.size w wr∧aF wr w.heap.size #[.int .i64 0,.int .i64 0] 150∧(∀i (h:i<l.length),i<k→aO l[i]=0)∧Hid (aZ l=fF (kJ l k) k (l.drop k))) (fun i _=>l.length-(intOf i).toNat)
  case atStart=>exact⟨0,Nat.zero_le _,rfl,hbel,hres,fun i _ h=>absurd h (Nat.not_lt_zero _),h0⟩
  case round=>
   clear hbel hres h0
   obtain⟨k,hk,rfl,hbel,hres,hp0,hst⟩:=hrel
   have hp:=Lib.hid hp0
   clear hp0
   by_cases hlt:k<l.length
   ·obtain⟨b,off,rfl,hA⟩:=JX (hrd.below hbel) k hlt
    have hki:(k:Int)<(l.length:Int):=by omega
    go_wp2_with fail
    refine (JA b (off+k*7) l[k] _ hA).mono ?_
    rintro r w2 ⟨rfl,hb2⟩
    have hbel2:=ae hbel hb2
    have hres2:=hres.ext hb2
    clear hbel hres hb2 hA
    by_cases he:aO l[k]=0
    ·have he':=Lib.hid he
     rw[he]
     clear he
     go_upto_region 9 with (fail)
     by_cases hk0:k=0
     ·subst hk0
      have hd0:decide ((0:Int)<((0:Nat):Int))=false:=rfl
      have hnx:Hid (aZ l=fF (kJ l (0+1)) (0+1) (l.drop (0+1))):=Lib.hid (by rw[hst.out];exact nK hlt he'.out rfl)
      go_quiet (fail)
      go_wp2
      go_roundw
      case rel=>exact⟨0+1,by omega,by go_num,below_drewN hbel2 _,hres2.drewN _,jJ hp.out hlt he'.out,hnx⟩
      case measure=>simp[intOf];omega
     ·obtain⟨m,rfl⟩:∃m,k=m+1:=⟨k-1,by omega⟩
      have hd0:decide ((0:Int)<((m+1:Nat):Int))=true:=decide_eq_true (by omega)
      have hm1:IntKind.i64.wrap (((m+1:Nat):Int)-1)=(m:Int):=by rw[IntWalk.i64_in _ (by omega)];omega
      have hml:m<l.length:=by omega
      have hm2:IntKind.i64.wrap (m:Int)=(m:Int):=IntWalk.i64_in _ (by omega)
      have hg1:(0:Int)≤(m:Int)+1:=by omega
      have hg2:(m:Int)+1<(l.length:Int):=by omega
      have hg3:((m:Int)+1).toNat=m+1:=by omega
      have hbp:=Lib.hid (Bw hlt)
      have hfm:=(bi (hp.out m hml (by omega))).1
      have hf1:=(bi he'.out).1
      have hRd:=hrd.below hbel2
      have hPk:=wF hRd (m+1) hlt
      have hPm:=wF hRd m hml
      generalize hA1:l[m+1]=A1 at *
      generalize hA0:l[m]=A0 at *
      by_cases hov:A1.fr<A0.en
      ·have hz:Hid (aZ l=(2,((m+1:Nat):Int))):=Lib.hid (by rw[hst.out];exact nR hlt (by rw[hA1];exact he'.out) (by rw[hA1,hbp.out,decide_eq_true hov];rfl))
       refine aG 26 [_,_,_,_,_,_,.v (.pointer (some ⟨b,off+m*7,none⟩)),_,.v (.int .i64 A0.en),_,_,.v (.pointer (some ⟨b,off+(m+1)*7,none⟩)),_,.v (.int .i64 A1.fr),_,_,_,_,_,_,_,_,_,_,_,.v (.bool true)] (Gk rfl (Gb (.bool true) (by simp[go_sem]) rfl rfl rfl rfl rfl (Gk rfl (Gk rfl (Gk rfl (Gb (.int .i64 (m:Int)) (by simp[go_sem,hm1,hm2]) rfl rfl rfl rfl rfl (ag ?_ (Gf b (off+m*7+1) rfl rfl (ag ?_ (Gk rfl (Gk rfl (ag ?_ (Gf b (off+(m+1)*7) rfl rfl (ag ?_ (Gb (.bool true) (by simp[go_sem,hov]) rfl rfl rfl rfl rfl (Gk rfl (Gk rfl (Gk rfl (Gk rfl (Gk rfl (Gk rfl (Gk rfl (Gk rfl (Gk rfl (Gk rfl (Gk rfl (aB))))))))))))))))))))))))))) (fun _=>rfl) rfl ?_
       ·intro ρ y W hw hn hb hd;have E26:=hw 26 3 rfl;have h3:y 3=_:=hd 3 rfl;have E28:=hw 28 5 rfl;have h5:y 5=_:=hd 5 rfl
        refine aj (.pointer (some ⟨b,off+m*7,none⟩)) (aN 2 25 true true rfl rfl ((hw 25 2 rfl).trans (hd 2 rfl))) (by simp[execOp,go_sem,E26,h3,E28,h5,hml]) rfl
       ·intro ρ y W hw hn hb hd;have E30:=hw 30 7 rfl;have h7:y 7=_:=hd 7 rfl
        have hc0:=(hPm.below hb).cells.2.1
        refine aj (.int .i64 A0.en) (aN 2 25 true true rfl rfl ((hw 25 2 rfl).trans (hd 2 rfl))) (by simp[execOp,go_sem,E30,h7,hc0]) rfl
       ·intro ρ y W hw hn hb hd;have E32:=hw 32 9 rfl;have h9:y 9=_:=hd 9 rfl;have E33:=hw 33 10 rfl;have h10:y 10=_:=hd 10 rfl
        refine aj (.pointer (some ⟨b,off+(m+1)*7,none⟩)) (aN 2 25 true true rfl rfl ((hw 25 2 rfl).trans (hd 2 rfl))) (by simp[execOp,go_sem,E32,h9,E33,h10,hlt,hg1,hg2,hg3]) rfl
       ·intro ρ y W hw hn hb hd;have E35:=hw 35 12 rfl;have h12:y 12=_:=hd 12 rfl
        have hc0:=(hPk.below hb).cells.1
        refine aj (.int .i64 A1.fr) (aN 2 25 true true rfl rfl ((hw 25 2 rfl).trans (hd 2 rfl))) (by simp[execOp,go_sem,E35,h12,hc0]) rfl
       intro y WA hbWA _
       have hbel:=ae hbel2 hbWA
       have hres:=hres2.ext hbWA
       clear hbel2 hres2
       go_wp2_with (refine az rfl _ _ _ rfl w.heap.size #[.int .i64 (2),.int .i64 (((m+1:Nat):Int))] rfl rfl _ _ hres rfl fau_size (jb _ _) ?_)
       intro w5 hr5 hgr5
       have hbel5:Below w.heap.size w w5:=hbel.grown hgr5 hbel.size (fun k hk=>by cases hk;exact Nat.le_refl _)
       go_wp2
       refine bodyPost_ret (v:=.agg #[.int .i64 (2),.int .i64 (((m+1:Nat):Int))]) (dw Tryz.results111 _ _ w.heap.size _ _ _ rfl hr5 Tryz.underlying150 rfl fau_size) rfl ?_
       exact⟨by rw[hz.out];rfl,hbel5⟩
      ·cases hj:bS A0 A1
       ·have hnx:Hid (aZ l=fF (kJ l (m+1+1)) (m+1+1) (l.drop (m+1+1))):=Lib.hid (by rw[hst.out];exact nK hlt (by rw[hA1];exact he'.out) (by rw[hA1,hbp.out,decide_eq_false hov,hj];rfl))
        refine aG 26 [_,_,_,_,_,_,.v (.pointer (some ⟨b,off+m*7,none⟩)),_,.v (.int .i64 A0.en),_,_,.v (.pointer (some ⟨b,off+(m+1)*7,none⟩)),_,.v (.int .i64 A1.fr),_,_,_,_,_,.v (.pointer (some ⟨b,off+m*7,none⟩)),_,_,.v (.pointer (some ⟨b,off+(m+1)*7,none⟩)),.v (.bool false),_,.v (.bool false)] (Gk rfl (Gb (.bool true) (by simp[go_sem]) rfl rfl rfl rfl rfl (Gk rfl (Gk rfl (Gk rfl (Gb (.int .i64 (m:Int)) (by simp[go_sem,hm1,hm2]) rfl rfl rfl rfl rfl (ag ?_ (Gf b (off+m*7+1) rfl rfl (ag ?_ (Gk rfl (Gk rfl (ag ?_ (Gf b (off+(m+1)*7) rfl rfl (ag ?_ (Gb (.bool false) (by simp[go_sem,hov]) rfl rfl rfl rfl rfl (Gk rfl (Gk rfl (Gk rfl (Gb (.int .i64 (m:Int)) (by simp[go_sem,hm1,hm2]) rfl rfl rfl rfl rfl (ag ?_ (Gk rfl (Gk rfl (ag ?_ (ag ?_ (Gk rfl (Gk rfl (aB))))))))))))))))))))))))))) (fun _=>rfl) rfl ?_
        ·intro ρ y W hw hn hb hd;have E26:=hw 26 3 rfl;have h3:y 3=_:=hd 3 rfl;have E28:=hw 28 5 rfl;have h5:y 5=_:=hd 5 rfl
         refine aj (.pointer (some ⟨b,off+m*7,none⟩)) (aN 2 25 true true rfl rfl ((hw 25 2 rfl).trans (hd 2 rfl))) (by simp[execOp,go_sem,E26,h3,E28,h5,hml]) rfl
        ·intro ρ y W hw hn hb hd;have E30:=hw 30 7 rfl;have h7:y 7=_:=hd 7 rfl
         have hc0:=(hPm.below hb).cells.2.1
         refine aj (.int .i64 A0.en) (aN 2 25 true true rfl rfl ((hw 25 2 rfl).trans (hd 2 rfl))) (by simp[execOp,go_sem,E30,h7,hc0]) rfl
        ·intro ρ y W hw hn hb hd;have E32:=hw 32 9 rfl;have h9:y 9=_:=hd 9 rfl;have E33:=hw 33 10 rfl;have h10:y 10=_:=hd 10 rfl
         refine aj (.pointer (some ⟨b,off+(m+1)*7,none⟩)) (aN 2 25 true true rfl rfl ((hw 25 2 rfl).trans (hd 2 rfl))) (by simp[execOp,go_sem,E32,h9,E33,h10,hlt,hg1,hg2,hg3]) rfl
        ·intro ρ y W hw hn hb hd;have E35:=hw 35 12 rfl;have h12:y 12=_:=hd 12 rfl
         have hc0:=(hPk.below hb).cells.1
         refine aj (.int .i64 A1.fr) (aN 2 25 true true rfl rfl ((hw 25 2 rfl).trans (hd 2 rfl))) (by simp[execOp,go_sem,E35,h12,hc0]) rfl
        ·intro ρ y W hw hn hb hd;have E39:=hw 39 16 rfl;have h16:y 16=_:=hd 16 rfl;have E41:=hw 41 18 rfl;have h18:y 18=_:=hd 18 rfl
         refine aj (.pointer (some ⟨b,off+m*7,none⟩)) (aN 15 38 false false rfl rfl ((hw 38 15 rfl).trans (hd 15 rfl))) (by simp[execOp,go_sem,E39,h16,E41,h18,hml]) rfl
        ·intro ρ y W hw hn hb hd;have E43:=hw 43 20 rfl;have h20:y 20=_:=hd 20 rfl;have E44:=hw 44 21 rfl;have h21:y 21=_:=hd 21 rfl
         refine aj (.pointer (some ⟨b,off+(m+1)*7,none⟩)) (aN 15 38 false false rfl rfl ((hw 38 15 rfl).trans (hd 15 rfl))) (by simp[execOp,go_sem,E43,h20,E44,h21,hlt,hg1,hg2,hg3]) rfl
        ·intro ρ y W hw hn hb hd;have E42:=hw 42 19 rfl;have h19:y 19=_:=hd 19 rfl;have E45:=hw 45 22 rfl;have h22:y 22=_:=hd 22 rfl
         have EF:∀f,ρ (.func f) = .func (.func f) #[] #[]:=fun f=>hn (.func f) trivial
         refine aJ _ _ (aN 15 38 false false rfl rfl ((hw 38 15 rfl).trans (hd 15 rfl))) (aK rfl (EF _) Tryz.func137 (by kernel_rfl) (by kernel_rfl) (by simp only[List.map_toArray,List.map_cons,List.map_nil,E42,h19,E45,h22,EF];rfl)) ?_
         refine (yJ b (off+m*7) b (off+(m+1)*7) A0 A1 W (hPm.below hb) (hPk.below hb) hfm).mono ?_
         rintro r w1 ⟨rfl,hb1⟩
         rw[hj]
         exact⟨_,rfl,hb1,rfl⟩
        intro y WA hbWA _
        have hbel:=ae hbel2 hbWA
        have hres:=hres2.ext hbWA
        have hup:Hid (∀i (h:i<l.length),i<m+1+1→aO l[i]=0):=Lib.hid (jJ hp.out hlt (by rw[hA1];exact he'.out))
        clear hbel2 hres2 hg1 hg2 hg3 hm1 hm2
        go_wp2
        go_roundw
        case rel=>exact⟨m+1+1,by omega,by go_num,hbel,hres,hup.out,hnx⟩
        case measure=>simp[intOf];omega
       ·have hz:Hid (aZ l=(2,((m+1:Nat):Int))):=Lib.hid (by rw[hst.out];exact nR hlt (by rw[hA1];exact he'.out) (by rw[hA1,hbp.out,hj,Bool.or_true]))
        refine aG 26 [_,_,_,_,_,_,.v (.pointer (some ⟨b,off+m*7,none⟩)),_,.v (.int .i64 A0.en),_,_,.v (.pointer (some ⟨b,off+(m+1)*7,none⟩)),_,.v (.int .i64 A1.fr),_,_,_,_,_,.v (.pointer (some ⟨b,off+m*7,none⟩)),_,_,.v (.pointer (some ⟨b,off+(m+1)*7,none⟩)),.v (.bool true),_,.v (.bool true)] (Gk rfl (Gb (.bool true) (by simp[go_sem]) rfl rfl rfl rfl rfl (Gk rfl (Gk rfl (Gk rfl (Gb (.int .i64 (m:Int)) (by simp[go_sem,hm1,hm2]) rfl rfl rfl rfl rfl (ag ?_ (Gf b (off+m*7+1) rfl rfl (ag ?_ (Gk rfl (Gk rfl (ag ?_ (Gf b (off+(m+1)*7) rfl rfl (ag ?_ (Gb (.bool false) (by simp[go_sem,hov]) rfl rfl rfl rfl rfl (Gk rfl (Gk rfl (Gk rfl (Gb (.int .i64 (m:Int)) (by simp[go_sem,hm1,hm2]) rfl rfl rfl rfl rfl (ag ?_ (Gk rfl (Gk rfl (ag ?_ (ag ?_ (Gk rfl (Gk rfl (aB))))))))))))))))))))))))))) (fun _=>rfl) rfl ?_
        ·intro ρ y W hw hn hb hd;have E26:=hw 26 3 rfl;have h3:y 3=_:=hd 3 rfl;have E28:=hw 28 5 rfl;have h5:y 5=_:=hd 5 rfl
         refine aj (.pointer (some ⟨b,off+m*7,none⟩)) (aN 2 25 true true rfl rfl ((hw 25 2 rfl).trans (hd 2 rfl))) (by simp[execOp,go_sem,E26,h3,E28,h5,hml]) rfl
        ·intro ρ y W hw hn hb hd;have E30:=hw 30 7 rfl;have h7:y 7=_:=hd 7 rfl
         have hc0:=(hPm.below hb).cells.2.1
         refine aj (.int .i64 A0.en) (aN 2 25 true true rfl rfl ((hw 25 2 rfl).trans (hd 2 rfl))) (by simp[execOp,go_sem,E30,h7,hc0]) rfl
        ·intro ρ y W hw hn hb hd;have E32:=hw 32 9 rfl;have h9:y 9=_:=hd 9 rfl;have E33:=hw 33 10 rfl;have h10:y 10=_:=hd 10 rfl
         refine aj (.pointer (some ⟨b,off+(m+1)*7,none⟩)) (aN 2 25 true true rfl rfl ((hw 25 2 rfl).trans (hd 2 rfl))) (by simp[execOp,go_sem,E32,h9,E33,h10,hlt,hg1,hg2,hg3]) rfl
        ·intro ρ y W hw hn hb hd;have E35:=hw 35 12 rfl;have h12:y 12=_:=hd 12 rfl
         have hc0:=(hPk.below hb).cells.1
         refine aj (.int .i64 A1.fr) (aN 2 25 true true rfl rfl ((hw 25 2 rfl).trans (hd 2 rfl))) (by simp[execOp,go_sem,E35,h12,hc0]) rfl
        ·intro ρ y W hw hn hb hd;have E39:=hw 39 16 rfl;have h16:y 16=_:=hd 16 rfl;have E41:=hw 41 18 rfl;have h18:y 18=_:=hd 18 rfl
         refine aj (.pointer (some ⟨b,off+m*7,none⟩)) (aN 15 38 false false rfl rfl ((hw 38 15 rfl).trans (hd 15 rfl))) (by simp[execOp,go_sem,E39,h16,E41,h18,hml]) rfl
        ·intro ρ y W hw hn hb hd;have E43:=hw 43 20 rfl;have h20:y 20=_:=hd 20 rfl;have E44:=hw 44 21 rfl;have h21:y 21=_:=hd 21 rfl
         refine aj (.pointer (some ⟨b,off+(m+1)*7,none⟩)) (aN 15 38 false false rfl rfl ((hw 38 15 rfl).trans (hd 15 rfl))) (by simp[execOp,go_sem,E43,h20,E44,h21,hlt,hg1,hg2,hg3]) rfl
        ·intro ρ y W hw hn hb hd;have E42:=hw 42 19 rfl;have h19:y 19=_:=hd 19 rfl;have E45:=hw 45 22 rfl;have h22:y 22=_:=hd 22 rfl
         have EF:∀f,ρ (.func f) = .func (.func f) #[] #[]:=fun f=>hn (.func f) trivial
         refine aJ _ _ (aN 15 38 false false rfl rfl ((hw 38 15 rfl).trans (hd 15 rfl))) (aK rfl (EF _) Tryz.func137 (by kernel_rfl) (by kernel_rfl) (by simp only[List.map_toArray,List.map_cons,List.map_nil,E42,h19,E45,h22,EF];rfl)) ?_
         refine (yJ b (off+m*7) b (off+(m+1)*7) A0 A1 W (hPm.below hb) (hPk.below hb) hfm).mono ?_
         rintro r w1 ⟨rfl,hb1⟩
         rw[hj]
         exact⟨_,rfl,hb1,rfl⟩
        intro y WA hbWA _
        have hbel:=ae hbel2 hbWA
        have hres:=hres2.ext hbWA
        clear hbel2 hres2
        go_wp2_with (refine az rfl _ _ _ rfl w.heap.size #[.int .i64 (2),.int .i64 (((m+1:Nat):Int))] rfl rfl _ _ hres rfl fau_size (jb _ _) ?_)
        intro w5 hr5 hgr5
        have hbel5:Below w.heap.size w w5:=hbel.grown hgr5 hbel.size (fun k hk=>by cases hk;exact Nat.le_refl _)
        go_wp2
        refine bodyPost_ret (v:=.agg #[.int .i64 (2),.int .i64 (((m+1:Nat):Int))]) (dw Tryz.results111 _ _ w.heap.size _ _ _ rfl hr5 Tryz.underlying150 rfl fau_size) rfl ?_
        exact⟨by rw[hz.out];rfl,hbel5⟩
    ·have hz:Hid (aZ l=(aO l[k],(k:Int))):=Lib.hid (by rw[hst.out];exact yV hlt he)
     have he' : (aO l[k] != 0)=true:=by simpa using he
     have hbel:=hbel2
     have hres:=hres2
     clear he hbel2 hres2
     go_wp2_with (refine az rfl _ _ _ rfl w.heap.size #[.int .i64 (aO l[k]),.int .i64 (k)] rfl rfl _ _ hres rfl fau_size (jb _ _) ?_)
     intro w5 hr5 hgr5
     have hbel5:Below w.heap.size w w5:=hbel.grown hgr5 hbel.size (fun k hk=>by cases hk;exact Nat.le_refl _)
     go_wp2
     refine bodyPost_ret (v:=.agg #[.int .i64 (aO l[k]),.int .i64 (k)]) (dw Tryz.results111 _ _ w.heap.size _ _ _ rfl hr5 Tryz.underlying150 rfl fau_size) rfl ?_
     exact⟨by rw[hz.out];rfl,hbel5⟩
   ·have hz:Hid (aZ l=(0,0)):=Lib.hid (by rw[hst.out,List.drop_eq_nil_of_le (by omega)];rfl)
    go_wp2_with (refine az rfl _ _ _ rfl w.heap.size #[.int .i64 (0),.int .i64 (0)] rfl rfl _ _ hres rfl fau_size (jb _ _) ?_)
    intro w5 hr5 hgr5
    have hbel5:Below w.heap.size w w5:=hbel.grown hgr5 hbel.size (fun k hk=>by cases hk;exact Nat.le_refl _)
    go_wp2
    refine bodyPost_ret (v:=.agg #[.int .i64 (0),.int .i64 (0)]) (dw Tryz.results111 _ _ w.heap.size _ _ _ rfl hr5 Tryz.underlying150 rfl fau_size) rfl ?_
    exact⟨by rw[hz.out];rfl,hbel5⟩
theorem xH {w:World} {a:Option Addr} {l:List Ar} (h:cZ w a (l.flatMap iE)) (k:Nat) (hk:k<l.length):∃b off,a=some ⟨b,off,none⟩∧w.cell? ⟨b,off+k*7,none⟩=some (.int .i64 l[k].fr)∧w.cell? ⟨b,off+k*7+1,none⟩=some (.int .i64 l[k].en)∧w.cell? ⟨b,off+k*7+2,none⟩=some (.bool l[k].rd)∧w.cell? ⟨b,off+k*7+3,none⟩=some (.bool l[k].wr) ∧
  w.cell? ⟨b,off+k*7+4,none⟩=some (.bool l[k].sh)∧w.cell? ⟨b,off+k*7+5,none⟩=some (.int .i64 l[k].fi)∧w.cell? ⟨b,off+k*7+6,none⟩=some (.int .i64 l[k].ba):=by
 obtain⟨b,off,e,h1⟩:=JX h k hk
 exact⟨b,off,e,h1.cells⟩
theorem Fa (a:Ar) (g:Nat) (n:Int) (w:World) (hg:aF w g #[.int .i64 n] 3) :
  Calls Tryz.prog 121 #[.agg #[.int .i64 a.fr,.int .i64 a.en,.bool a.rd,.bool a.wr,.bool a.sh,.int .i64 a.fi,.int .i64 a.ba],.pointer (some ⟨g,0,none⟩)] w fun r w'=>r = .returned (.bool (jP n a))∧Below w.heap.size w w':=by
 go_enter Tryz.func121,Tryz.ntmps121
 go_upto_region 1 with (fail)
 refine fo (fun W=>Code.wp _ _ _ _ W) fun W0 hb0 hx0 hs0 => ?_
 clear hs0
 have hgx:=(hg.ext hb0).cell 0
 have hcx:=hx0.cell
 by_cases h1:a.fr≤n
 ·by_cases h2:n<a.en
  ·have hz:=Lib.hid (show jP n a=true by unfold jP;rw[decide_eq_true h1,decide_eq_true h2];rfl)
   go_wp2
   go_ret
   exact⟨aT hz.out.symm,hb0⟩
  ·have hz:=Lib.hid (show jP n a=false by unfold jP;rw[decide_eq_false h2,Bool.and_false])
   go_wp2
   go_ret
   exact⟨aT hz.out.symm,hb0⟩
 ·have hz:=Lib.hid (show jP n a=false by unfold jP;rw[decide_eq_false h1,Bool.false_and])
  go_wp2
  go_ret
  exact⟨aT hz.out.symm,hb0⟩
theorem BZ (l:List Ar) (a:Option Addr) (c:Nat) (w:World) (hrd:cZ w a (l.flatMap iE)) (hl:l.length≤9223372036854775807) (g:Nat) (n:Int) (hg:aF w g #[.int .i64 n] 3) :
  Calls Tryz.prog 120 #[.slice a l.length c,.func (.func 121) #[] #[.pointer (some ⟨g,0,none⟩)]] w fun e w'=>e = .returned (.int .i64 (idx (jP n) l))∧Below w.heap.size w w':=by
 go_enter Tryz.func120,Tryz.ntmps120
 go_wp2
 go_loopw [8] (fun i wr => ∃k:Nat,k≤l.length∧i = .int .i64 k∧Below w.heap.size w wr∧∀i (h:i<l.length),i<k→(jP n) l[i]=false) (fun i _=>l.length-(intOf i).toNat)
 case atStart=>exact⟨0,Nat.zero_le _,rfl,Below.refl _ _,fun i _ h=>absurd h (Nat.not_lt_zero _)⟩
 case round=>
  obtain⟨k,hk,rfl,hbr,hp0⟩:=hrel
  have hp:=Lib.hid hp0
  clear hp0
  by_cases hlt:k<l.length
  ·obtain⟨b,off,rfl,c0,c1,c2,c3,c4,c5,c6⟩:=xH (hrd.below hbr) k hlt
   go_wp2_with fail
   refine (Fa l[k] g n _ (hg.ext hbr)).mono ?_
   rintro e w2 ⟨rfl,hb2⟩
   have hbel2:=ae hbr hb2
   clear hb2
   cases hpk:(jP n) l[k]
   ·have hpk':=Lib.hid hpk
    clear hpk
    go_wp2
    go_roundw
    case rel=>exact⟨k+1,by omega,by go_num,hbel2,jJ hp.out hlt hpk'.out⟩
    case measure=>simp[intOf];omega
   ·have hfin:=Lib.hid (uh (jP n) l k hlt hp.out hpk)
    clear hpk
    go_wp2
    go_ret
    exact⟨aS hfin.out.symm,hbel2⟩
  ·have hfin:=Lib.hid (lM (jP n) l fun i h=>hp.out i h (by omega))
   go_wp2
   go_ret
   exact⟨aS hfin.out.symm,hbr⟩
theorem yY (l:List Ar) (n:Int) (a:Option Addr) (c:Nat) (w:World) (hrd:cZ w a (l.flatMap iE)) (hl:l.length≤9223372036854775807) :
  Calls Tryz.prog 81 #[.slice a l.length c,.int .i64 n] w fun r w'=>r = .returned (.int .i64 (fw l n))∧Below w.heap.size w w':=by
 go_enter Tryz.func81,Tryz.ntmps81
 go_upto_region 1 with (fail)
 refine fo (fun W=>Code.wp _ _ _ _ W) fun W0 hb0 hx0 hs0 => ?_
 clear hs0
 go_wp2_with fail
 refine (BZ l a c _ (hrd.below hb0) hl w.heap.size n hx0).mono ?_
 rintro r w1 ⟨rfl,hb1⟩
 go_wp2
 go_ret
 exact⟨rfl,ae hb0 hb1⟩
theorem Gw (l:List Ar):(l.flatMap iE).length=l.length*7:=Pw.flat_len iE 7 lw l
theorem KT (a:Ar):∀u∈iE a,u.oneCell' = true:=by
 intro u hu
 simp only[iE,jO,List.mem_cons,List.not_mem_nil,or_false] at hu
 rcases hu with rfl|rfl|rfl|rfl|rfl|rfl|rfl<;>rfl
theorem lD (l:List Ar):∀u∈l.flatMap iE,u.oneCell' = true:=by
 intro u hu
 obtain⟨a,_,h⟩:=List.mem_flatMap.1 hu
 exact KT a u h
theorem uC (l:List Ar) (a:Option Addr) (c:Nat) (w:World) (hle:l.length≤c) (hnil:a=none→c=0) (hrd:cZ w a (l.flatMap iE)) (hb:l.length*40≤140737488355328) :
  Calls Tryz.prog 41 #[.slice a l.length c] w fun e w' => ∃v,e = .returned v∧Own w' w.heap.size 99 7 v l.length (l.flatMap iE)∧Below w.heap.size w w':=by
 cases a with
 | none=>
  have h0:=hnil rfl
  have hl:l=[]:=List.eq_nil_of_length_eq_zero (by omega)
  subst hl
  subst h0
  have hq:=fun W=>Lib.run_eql_slice_nil (P:=Tryz.prog) W 50 _ none 0 0 0 0 Tryz.underlying50
  go_enter Tryz.func41,Tryz.ntmps41
  go_wp2
  go_ret
  exact⟨_,rfl,by simpa using Own.nil _ _ _ _,Below.refl _ _⟩
 | some ad=>
  have hq:=fun W=>Lib.run_eql_slice_nil (P:=Tryz.prog) W 50 _ (some ad) l.length c 0 0 Tryz.underlying50
  go_enter Tryz.func41,Tryz.ntmps41
  go_wp2_with (at_builtin;go_must (refine eu rfl _ _ 50 rfl w.heap.size 99 (.agg #[.int .i64 0,.int .i64 0,.bool false,.bool false,.bool false,.int .i64 0,.int .i64 0]) 7 40 Tryz.underlying50 area_info rfl (by decide) _ 0 [] rfl ?own (some ad) l.length c (l.flatMap iE) rfl (fun h=>(by cases h)) hle (Gw l) ?rd (lD l) (by unfold maxLen;omega) (by simpa using hb) ?bb ?k))
  case own=>exact⟨rfl,.inr ⟨w.heap.size,0,0,#[],rfl,Nat.le_refl _,aF.new _ _ _,Nat.le_refl _,Nat.zero_le _,by simp,fun j u h=>by simp at h⟩⟩
  case rd=>exact hrd.below ((Below.refl _ _).alloc (Nat.le_refl _) _)
  case bb=>exact dR _ _
  intro v w1 hown hgr
  go_wp2
  go_ret
  exact⟨v,rfl,by simpa using hown,((Below.refl _ _).alloc (Nat.le_refl _) _).grown hgr (dR _ _) (fun k hk=>by cases hk;exact Nat.le_refl _)⟩
structure Mh (w:World) (a:Option Addr) (c:Nat) (l:List Ar):Prop where
 le:l.length≤c
 mx:c≤maxLen
 nl:a=none→c=0
 rd:cZ w a (l.flatMap iE)
theorem Mh.below {w w' : World} {a:Option Addr} {c:Nat} {l:List Ar} (h:Mh w a c l) (hb:Below w.heap.size w w'):Mh w' a c l:=⟨h.le,h.mx,h.nl,h.rd.below hb⟩
def Oc (x:Ar):iO:=⟨fun v w => ∃g,v = .slice (some ⟨g,0,none⟩) 1 1∧aF w g (jO x) 99,fun _ _ _ hb ⟨g,h1,h2⟩=>⟨g,h1,h2.ext hb⟩⟩
theorem own_not {w:World} {B g:Nat} {v:Value} {l:List Ar} {x:Ar} (h:Own w B 99 7 v l.length (l.flatMap iE)) (hg:aF w g (jO x) 99) (hx:¬x∈l) (h0:0<l.length):∀b,v.ownBlock=some b→g≠b:=by
 rintro b hb rfl
 rcases h with ⟨hlen,⟨rfl,_⟩|⟨b',off,cap,cur,rfl,hB,hk,hc,hm,hs,ht⟩⟩
 ·cases hb
 ·cases hb
  unfold aF at hk hg
  rw[hk] at hg
  simp only[Option.some.injEq,Obj.cells.injEq,and_true] at hg
  subst hg
  have h7:(jO x).size=7:=rfl
  have ho:off=0:=by omega
  subst ho
  match l,h0 with
  | y::r,_=>
   have hc:∀(j:Nat) (u:Value),(iE y)[j]?=some u→(jO x)[j]?=some u:=by
    intro j u hj
    have:=ht j u (by rw[List.flatMap_cons,List.getElem?_append_left (by have:=(List.getElem?_eq_some_iff.1 hj).1;exact this)];exact hj)
    rwa [Nat.zero_add] at this
   have e0:=hc 0 _ rfl
   have e1:=hc 1 _ rfl
   have e2:=hc 2 _ rfl
   have e3:=hc 3 _ rfl
   have e4:=hc 4 _ rfl
   have e5:=hc 5 _ rfl
   have e6:=hc 6 _ rfl
   simp[jO] at e0 e1 e2 e3 e4 e5 e6
   refine hx (List.mem_cons.2 (.inl ?_))
   cases x
   cases y
   simp_all
theorem oM {P:Program} {t e:TypeId} {n:Nat} {d:TypeDesc} (ht:P.underlying t=some (.array n e)) (he:P.underlying e=some d) (hd:aggB d=true) {sz:Nat} (hs:(P.info? e).map (·.size)=some sz)
  (cs:Array Value) (k:Nat) (vs:Array Value) (hk:k<n) (hv:cs.extract (k*sz) (k*sz+sz)=vs) (kk:IntKind) (w:World):(Instr.index t (.agg cs) (.int kk k)).run P w = .ok (.agg vs) w:=by
 have hsz:∀w,(Go.sizeOf e).run P w = .ok sz w:=by
  intro w
  cases hq:P.info? e with
  | none=>simp[hq] at hs
  | some i=>
   have hz:i.size=sz:=by simpa[hq] using hs
   simp[Go.sizeOf,typeInfo,run_program,hq,hz]
 have ha:∀w,(isAgg e).run P w = .ok true w:=by
  intro w
  unfold isAgg
  simp[run_underlying he]
  cases d<;>simp_all[aggB]
 simp[Instr.index,part,asIntOf,run_underlying ht,hsz,hk,ha,go_sem,hv]
theorem NQ (f g:Ar) (b:Bool) (h:(f==g)=b) (W:World):(Op.equalIn 10000 99 (.agg #[.int .i64 f.fr,.int .i64 f.en,.bool f.rd,.bool f.wr,.bool f.sh,.int .i64 f.fi,.int .i64 f.ba]) (.agg #[.int .i64 g.fr,.int .i64 g.en,.bool g.rd,.bool g.wr,.bool g.sh,.int .i64 g.fi,.int .i64 g.ba])).run Tryz.prog W = .ok b W:=by
 rw[←h,Ml]
 by_cases h1:(f.fr==g.fr)=true
 ·by_cases h2:(f.en==g.en)=true
  ·by_cases h3:f.rd=g.rd
   ·by_cases h4:f.wr=g.wr
    ·by_cases h5:f.sh=g.sh
     ·by_cases h6:(f.fi==g.fi)=true
      ·by_cases h7:f.ba=g.ba<;>simp[go_sem,h1,h2,h3,h4,h5,h6,h7]
      ·simp[go_sem,h1,h2,h3,h4,h5,h6]
     ·simp[go_sem,h1,h2,h3,h4,h5]
    ·simp[go_sem,h1,h2,h3,h4]
   ·simp[go_sem,h1,h2,h3]
  ·simp[go_sem,h1,h2]
 ·simp[go_sem,h1]
theorem GL (l m:List Ar) (a a' : Option Addr) (c c' : Nat) (w:World) (h:Mh w a c l) (h' : Mh w a' c' m) :
  Calls Tryz.prog 15 #[.slice a l.length c,.slice a' m.length c'] w fun r w'=>r = .returned (.bool (BU l m))∧Below w.heap.size w w':=by
 have hlc:=Nat.le_trans h.le h.mx
 have hlc':=Nat.le_trans h'.le h'.mx
 unfold maxLen at hlc hlc'
 go_enter Tryz.func15,Tryz.ntmps15
 by_cases hlm:l.length=m.length
 ·have hlm':=Lib.hid hlm
  have hne:((l.length:Int) != (m.length:Int))=false:=by simp[hlm]
  clear hlm
  go_upto_region 4 with (fail)
  go_loopw [13] (fun i wr => ∃k:Nat,k≤l.length∧i = .int .i64 k∧Below w.heap.size w wr∧∀i (h:i<l.length),i<k→l[i]=m[i]'(by have:=hlm'.out;omega)) (fun i _=>l.length-(intOf i).toNat)
  case atStart=>exact⟨0,Nat.zero_le _,rfl,Below.refl _ _,fun i _ h=>absurd h (Nat.not_lt_zero _)⟩
  case round=>
   obtain⟨k,hk,rfl,hbr,hp0⟩:=hrel
   have hp:=Lib.hid hp0
   clear hp0
   by_cases hlt:k<l.length
   ·have hlt' : k<m.length:=by have:=hlm'.out;omega
    obtain⟨b,off,rfl,c0,c1,c2,c3,c4,c5,c6⟩:=xH (h.rd.below hbr) k hlt
    obtain⟨b',off',rfl,d0,d1,d2,d3,d4,d5,d6⟩:=xH (h'.rd.below hbr) k hlt'
    have k1:(k:Int)<(m.length:Int):=by omega
    by_cases he:l[k]=m[k]
    ·have hE:=NQ l[k] m[k] true (beq_iff_eq.2 he)
     have hup:=Lib.hid (Al hlm'.out hlt hp.out he)
     clear he
     go_upto_region 6 with (fail)
     go_quiet (fail)
     go_wp2
     go_roundw
     case rel=>exact⟨k+1,by omega,by go_num,below_drewN hbr _,hup.out⟩
     case measure=>simp[intOf];omega
    ·have hE:=NQ l[k] m[k] false (beq_eq_false_iff_ne.2 he)
     have hfin:=Lib.hid (Gs (l:=l) (m:=m) k (by rw[List.getElem?_eq_getElem hlt,List.getElem?_eq_getElem hlt'];exact fun e=>he (Option.some.inj e)))
     clear he
     go_upto_region 6 with (fail)
     go_quiet (fail)
     go_wp2
     go_ret
     exact⟨aT hfin.out.symm,below_drewN hbr _⟩
   ·have hfin:=Lib.hid (FQ hlm'.out fun i hi=>hp.out i hi (by omega))
    go_wp2
    go_ret
    exact⟨aT hfin.out.symm,hbr⟩
 ·have hne:((l.length:Int) != (m.length:Int))=true:=by rw[bne_iff_ne];omega
  have hfin:Hid (BU l m=false):=Lib.hid (decide_eq_false fun e=>hlm (by rw[e]))
  clear hlm
  go_wp2
  go_ret
  exact⟨aT hfin.out.symm,Below.refl _ _⟩
end Go.Proofs.YtjkkoeijlhfneaaGreat