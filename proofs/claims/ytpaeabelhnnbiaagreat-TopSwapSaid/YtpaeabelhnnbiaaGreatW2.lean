import Derived.Test.YtpaeabelhnnbiaaGreatW1
import Derived.BigQuiet
import Derived.Deep.DeepCutAuto
import Derived.Deep.QuietTactic
import Derived.IntWalk
import Derived.Lib.LazyBuf
import Derived.Test.YtpaeabelhnnbiaaGreatRows
import Derived.Maps.Range
import Derived.Deep.Light
import Derived.BigRegion
import Derived.RegionTactic
set_option linter.unusedSimpArgs false
set_option linter.unusedVariables false
set_option maxHeartbeats 4000000
set_option maxRecDepth 100000
namespace Pw
open Go Go.RowKit
variable {B b f g i id j k k1 off sz:Nat} {P:Program} {Q:Exit → Act → World → Prop} {T T' e t t' ty:TypeId} {V c0 u v vx vy:Value} {a0:Act} {cs cur t0:Array Value} {o op:Oper} {ops:Array Oper} {rest:List Oper} {vs xs:List Value} {w w' w0:World} {x:Operand} {y:Nat → Value} {ρ:Operand → Value}
theorem LA {a c:World} (h:a.grownBy c none) (row:Option Nat):a.grownBy c row:=⟨h.os,h.tape,h.output,h.size,fun i hi _=>h.block i hi (by simp)⟩
def kS (ps:List (Nat × Value)) (i:Nat):Option Value:=ps.lookup i
def WS (ops:Array Oper) (m:Nat) (ps:List (Nat × Value)):Bool:=
 (List.range m).all fun j=>(kS ps j).isSome||(mX ops ops.size m).contains j
def NC (m k1:Nat) (ps:List (Nat × Value)):Bool:=(List.range k1).all fun j=>decide (j≤m)||(kS ps j).isSome
def TR (ops:Array Oper) (m:Nat) (ps:List (Nat × Value)):Bool:=
 (List.range ops.size).all fun i=>(kS ps i).isNone||(decide (i≠m)&&match ops[i]? with | some o=>o.after.toList.all (fun e=>(kS ps e.on).isSome) | none=>true)
theorem Qi {m:Nat} {ps:List (Nat × Value)} (h:WS ops m ps=true) {listed:Array Bool} (hc:∀i o,ops[i]?=some o→listed.getD i false=true→∀e∈o.after,listed.getD e.on false=true) (hL:∀o,ops[m]?=some o→∀e∈o.after,listed.getD e.on false=true) (j:Nat) (hj:j<m) (hp:kS ps j=none):listed.getD j false=true:=by
 have h1:=cK.1 h j (bV.2 hj);rw[hp] at h1;exact pY hc ops.size m hL j (by simpa using h1)
theorem VE {m:Nat} {ps:List (Nat × Value)} (h:NC m k1 ps=true) (j:Nat) (hj:j<k1) (hm:m<j):∃v,kS ps j=some v:=by
 have h1:=cK.1 h j (bV.2 hj);simp only[qJ,decide_eq_true_eq] at h1;rcases h1 with h1|h1
 ·omega
 ·exact Option.isSome_iff_exists.1 h1
theorem Vh {m:Nat} {ps:List (Nat × Value)} (h:TR ops m ps=true) (hi:ops[i]?=some o) (hp:kS ps i=some v):i≠m∧∀e∈o.after,∃u,kS ps e.on=some u:=by
 have a:i<ops.size:=(gN.1 hi).1;have h1:=cK.1 h i (bV.2 a);rw[hp,hi] at h1;simp only[Option.isNone_some,Bool.false_or,dh,decide_eq_true_eq] at h1;exact⟨h1.1,fun e he=>Option.isSome_iff_exists.1 (cK.1 h1.2 e (lG.2 he))⟩
def UW (P:Program) (ops:Array Oper) (Q:Exit→Act→World→Prop) (m k1:Nat) (ps:List (Nat × Value)) (R:Nat→Value→World→Prop) (a0:Act) (w0:World) (listed:Array Bool) (a:Act) (w:World):Prop:=
  (∀i,k1≤i→listed.getD i false=false)∧(∀i o,ops[i]?=some o→listed.getD i false=true→∀e∈o.after,listed.getD e.on false=true) ∧
  ∃y:Nat→Value,(∀i v,kS ps i=some v→y i=v)∧a = { a0 with tmps:=lay (fun i=>listed.getD i false) y ops.toList 0 a0.tmps } ∧
    ((listed.getD m false=false∧Below w0.heap.size w0 w∧∀i,i<m→kS ps i=none→listed.getD i false=true→R i (y i) w) ∨
     (listed.getD m false=true∧wpList P ops Q (ops.toList.drop k1) { a0 with tmps:=lay (fun i=>decide (i<k1)) y ops.toList 0 a0.tmps } w))
theorem DN {listed:Array Bool} (hsz:listed.size=ops.size) (hk:k1≤ops.size) (hL:∀i,i<ops.size→listed.getD i false=decide (i<k1)):listed.toList.countP (!·)=ops.size-k1:=by
 have e:listed.toList=List.replicate k1 true++List.replicate (ops.size-k1) false:=by
  apply nO;intro i
  by_cases hi:i<ops.size
  ·have h2:=hL i hi;rw[oP,tY (show i<listed.size by omega)];simp only[aW,tY (show i<listed.size by omega),rQ] at h2;rw[h2]
   by_cases him:i<k1
   ·rw[il (by simpa using him)];simp[him]
   rw[iN (by simp;omega)];rw[pQ,rV,if_pos (by omega)];simp[him]
  ·rw[fo (by simp;omega),fo (by simp;omega)]
 rw[e];simp[BA,GU]
theorem zF (m k1:Nat) (ps:List (Nat × Value)) (hok:jL ops=true) (ht:jd ops k1=true) (hcok:WS ops m ps=true) (hmid:NC m k1 ps=true) (hpu:TR ops m ps=true) (hmk:m<k1) (hk1:k1≤ops.size)
 (R:Nat→Value→World→Prop) (hstab:∀i v w w',Below w.heap.size w w'→R i v w→R i v w')
 (hstep:∀i o,i<m→kS ps i=none→ops[i]?=some o→∀y w,(∀i v,kS ps i=some v→y i=v)→Below w0.heap.size w0 w→(∀j,o.after.toList.any (fun e=>e.on==j)=true→match kS ps j with | some v=>y j=v | none=>R j (y j) w) →
 if Region.wanted o (yielded ops (lay (fun _=>true) y ops.toList 0 a0.tmps))=true then Gives P o { a0 with tmps:=lay (fun _=>true) y ops.toList 0 a0.tmps } w (fun v w'=>Below w.heap.size w w'∧R i v w') else R i undef w)
 (hpure:∀i v o,kS ps i=some v→ops[i]?=some o→∀y w,(∀i v,kS ps i=some v→y i=v) →
 Region.wanted o (yielded ops (lay (fun _=>true) y ops.toList 0 a0.tmps))=true∧(execOp ({ a0 with tmps:=lay (fun _=>true) y ops.toList 0 a0.tmps }:Act).eval o).run P w = .ok (.value v) w)
 (hend:∀y w o,ops[m]?=some o→(∀i v,kS ps i=some v→y i=v)→Below w0.heap.size w0 w→(∀i,i<m→match kS ps i with | some v=>y i=v | none=>R i (y i) w) →
 Region.wanted o (yielded ops (lay (fun _=>true) y ops.toList 0 a0.tmps))=true ∧
 Gives P o { a0 with tmps:=lay (fun _=>true) y ops.toList 0 a0.tmps } w fun v w'=>wpList P ops Q (ops.toList.drop k1) { a0 with tmps:=lay (fun i=>decide (i<k1)) (fun i=>if i=m then v else y i) ops.toList 0 a0.tmps } w') :
    wpAny P .any ops Q ops.size (Array.replicate ops.size false) a0 { w0 with drawn:=w0.drawn+1 }:=by
  have hQ:∀(fuel:Nat) (listed:Array Bool) (a:Act) (w:World),listed.size=ops.size→listed.toList.countP (!·)≤fuel→UW P ops Q m k1 ps R a0 w0 listed a w→wpAny P .any ops Q fuel listed a w:=by
    have hz:∀(fuel:Nat) (listed:Array Bool) (a:Act) (w:World),listed.size=ops.size→listed.toList.countP (!·)≤fuel→UW P ops Q m k1 ps R a0 w0 listed a w→(∀i,i<k1→listed.getD i false=true)→wpAny P .any ops Q fuel listed a w:=by
      intro fuel listed a w n hc hA b;obtain⟨hC,hm,y,hV,ha,hr⟩:=hA;have hL:∀i,i<ops.size→listed.getD i false=decide (i<k1):=by
        intro i hi
        by_cases him:i<k1
        · rw[b i him];simp[him]
        · rw[hC i (by omega)];simp[him]
      rcases hr with ⟨h1,_⟩|⟨_,hw⟩
      · rw[b m hmk] at h1;cases h1
      refine nQ (m:=k1) hok ht fuel k1 listed a w (az _) hk1 (by have:=DN n hk1 hL;omega) n hL ?_;rw[ha,mH (fun i=>listed.getD i false) (fun i=>decide (i<k1)) y ops.toList 0 a0.tmps (fun k hk=>by simp only[dA];exact hL k (by simpa using hk))];exact hw
    intro fuel
    induction fuel with
    | zero=>
      intro listed a w n hc hA;refine hz 0 listed a w n hc hA fun i hi => ?_;have h0:listed.toList.countP (!·)=0:=by omega
      have:=uz.1 h0 (listed[i]'(by omega)) (by simp);simpa[aW,show i<listed.size by omega] using this
    | succ fuel ih=>
      intro listed a w n hc hA
      by_cases b:∀i,i<k1→listed.getD i false=true
      · exact hz _ listed a w n hc hA b
      have hf:Region.ready .any ops listed≠[]:=by
        intro hq;apply b;intro i
        induction i using Nat.strongRecOn with
        | ind i ih'=>
          intro him
          by_cases hc' : listed.getD i false=true
          · exact hc'
          exfalso;have hi:i<ops.size:=by omega
          have hy:i∈Region.ready .any ops listed:=by
            rw[mem_ready];refine⟨?_,ops[i],by simp[hi],fun e he _ => ?_⟩
            · simpa[aW,show i<listed.size by omega] using hc'
            have:=(fw hok (i:=i) (o:=ops[i]) (by simp[hi])).2.1 e he;exact ih' e.on this.2 (by omega)
          rw[hq] at hy;cases hy
      refine⟨fun h=>absurd h hf,fun i hi => ?_⟩;obtain⟨h1,o,ho,hD⟩:=mem_ready.1 hi;have h6:i<ops.size:=(gN.1 ho).1;have hh:i<listed.size:=by omega
      obtain⟨hF,hb,_⟩:=fw hok ho;have hL:∀e∈o.after,listed.getD e.on false=true:=fun e he=>hD e he (hb e he).1;have hI:listed.getD i false=false:=by simpa[aW,hh] using h1
      have him:i<k1:=by
        rcases fM i k1 with h|h
        · exact h
        exfalso;apply b;intro j hj;exact qI ht hA.2.1 ho hL h j (by omega)
      obtain⟨hC,hm,y,hV,ha,hr⟩:=hA;have hO : ∀k o',ops[k]?=some o'→(listed.setIfInBounds i true).getD k false=true→∀e∈o'.after,(listed.setIfInBounds i true).getD e.on false=true:=by
        intro k o' c hk e he;apply wZ hh
        by_cases hki:k=i
        · subst hki;rw[ho] at c;cases c;exact hL e he
        rw[qo hki] at hk;exact hm k o' c hk e he
      have hH : ∀k,k1≤k→(listed.setIfInBounds i true).getD k false=false:=fun k hk=>by rw[qo (by omega)];exact hC k hk
      have q:∀v w' y',(∀k,y' k=if k=i then v else y k)→(∀i v,kS ps i=some v→y' i=v) →
          (((listed.setIfInBounds i true).getD m false=false∧Below w0.heap.size w0 w'∧∀k,k<m→kS ps k=none→(listed.setIfInBounds i true).getD k false=true→R k (y' k) w') ∨
           ((listed.setIfInBounds i true).getD m false=true∧wpList P ops Q (ops.toList.drop k1) { a0 with tmps:=lay (fun i=>decide (i<k1)) y' ops.toList 0 a0.tmps } w')) →
          wpAny P .any ops Q fuel (listed.setIfInBounds i true) (a.put o.dst v) w':=by
        intro v w' y' hR hY hG;obtain rfl:y' = fun k=>if k=i then v else y k:=funext hR;refine ih _ _ _ (by simp[n]) (Cj hh h1 hc) ⟨hH,hO,_,hY,?_,hG⟩;rw[ha,Ca hok ho n v]
      have hl:∀t∈o.looksAt ops,a.tmps[t]?=(lay (fun _=>true) y ops.toList 0 a0.tmps)[t]?:=fun t ht=>by rw[ha];exact wP hok ho hL t ht
      have z:execOp a.eval o=execOp ({ a0 with tmps:=lay (fun _=>true) y ops.toList 0 a0.tmps }:Act).eval o:=by
        refine execOp_congr o hF fun x hx => ?_;cases x with
        | tmp t=>
          have:=hl t (uI _ (Bb.2 ⟨.tmp t,by simpa using hx,rfl⟩));simp[Act.eval,this]
        | _=>rfl
      have d:Region.wanted o (yielded ops a.tmps)=Region.wanted o (yielded ops (lay (fun _=>true) y ops.toList 0 a0.tmps)):=by
        unfold Region.wanted;cases hg:o.guard with
        | none=>rfl
        | some gw=>
          obtain⟨g,want⟩:=gw;have:yielded ops a.tmps g=yielded ops (lay (fun _=>true) y ops.toList 0 a0.tmps) g:=by
            unfold yielded;cases hd:(ops[g]?).bind (·.dst) with
            | none=>rfl
            | some t=>
              have:=hl t (uQ _ (by simp[hg,hd]));simp[this]
          simp only[this]
      cases hp:kS ps i with
      | some v=>
        have hU:=(Vh hpu ho hp).1;obtain⟨hB,hT⟩:=hpure i v o hp ho y w hV;have hg:Gives P o { a0 with tmps:=lay (fun _=>true) y ops.toList 0 a0.tmps } w (fun u w'=>u=v∧w' = w):=by unfold Gives;rw[hT];exact⟨rfl,rfl⟩
        refine nS ho (by rw[d];exact hB) z hg fun u w' hu => ?_;obtain⟨rfl,rfl⟩:=hu;refine q u w' y (fun k => ?_) hV ?_
        · by_cases hk:k=i
          · subst hk;rw[if_pos rfl];exact hV _ _ hp
          · rw[if_neg hk]
        rcases hr with ⟨h2,h3,h4⟩|⟨h2,h3⟩
        · refine .inl ⟨by rw[qo (kT hU)];exact h2,h3,fun k hk f hn => ?_⟩;have hki:k≠i:=by rintro rfl;rw[hp] at f;cases f
          rw[qo hki] at hn;exact h4 k hk f hn
        · exact .inr ⟨wZ hh _ h2,h3⟩
      | none=>
        have hZ:i≤m:=by
          rcases fM m i with h|h
          · obtain⟨v,hv⟩:=VE hmid i him h;rw[hp] at hv;cases hv
          · exact h
        rcases hr with ⟨h2,h3,h4⟩|⟨h2,h3⟩
        · by_cases hic:i=m
          · subst hic;have hE:∀k,k<i→match kS ps k with | some v=>y k=v | none=>R k (y k) w:=by
              intro k hk;cases f:kS ps k with
              | some v=>exact hV k v f
              | none=>exact h4 k hk f (Qi hcok hm (fun o' c=>by rw[ho] at c; cases c; exact hL) k hk f)
            obtain⟨hB,hg⟩:=hend y w o ho hV h3 hE;refine nS ho (by rw[d];exact hB) z hg fun v w' hS => ?_;refine q v w' (fun k=>if k=i then v else y k) (fun _=>rfl) (fun k u r => ?_) (.inr ⟨Jy hh,hS⟩);have:k≠i:=by rintro rfl;rw[hp] at r;cases r
            simp only[this,if_false];exact hV k u r
          have hJ:i<m:=by omega
          have hs:=hstep i o hJ hp ho y w hV h3 (fun j hj=>by
            obtain⟨e,he,hX⟩:=jO.1 hj;have hM : e.on=j:=by simpa using hX
            subst hM;have hN:=lG.1 he;cases hpj:kS ps e.on with
            | some v=>exact hV _ _ hpj
            | none=>exact h4 e.on (by have:=(hb e hN).2;omega) hpj (hL e hN))
          have hK:∀v w',Below w.heap.size w w'→R i v w'→wpAny P .any ops Q fuel (listed.setIfInBounds i true) (a.put o.dst v) w':=by
            intro v w' hP hv;refine q v w' (fun k=>if k=i then v else y k) (fun _=>rfl) (fun k u r => ?_) (.inl ⟨by rw[qo (kT hic)];exact h2,h3.trans (hP.mono h3.size),fun k hk f hn => ?_⟩)
            · have:k≠i:=by rintro rfl;rw[hp] at r;cases r
              simp only[this,if_false];exact hV k u r
            by_cases hki:k=i
            · subst hki;simpa using hv
            rw[qo hki] at hn;simp only[hki,if_false];exact hstab _ _ _ _ hP (h4 k hk f hn)
          by_cases hwt:Region.wanted o (yielded ops (lay (fun _=>true) y ops.toList 0 a0.tmps))=true
          · rw[if_pos hwt] at hs;exact nS ho (by rw[d];exact hwt) z hs fun v w' h=>hK v w' h.1 h.2
          rw[if_neg hwt] at hs;unfold wpOp;simp only[ho];rw[if_neg (by rw[d];exact hwt)];exact hK undef w (Below.refl _ _) hs
        exfalso
        by_cases hic:i=m
        · subst hic;rw[hI] at h2;cases h2
        have hW:∃om,ops[m]?=some om:=⟨ops[m]'(by omega),by simp[show m<ops.size by omega]⟩;obtain⟨om,h5⟩:=hW;have:=Qi hcok hm (fun o' c=>hm m o' c h2) i (by omega) hp;rw[hI] at this;cases this
  refine (hQ ops.size _ _ _ (by simp) ?_ ⟨fun i _ => ?_,fun i o' c hi => ?_,fun i=>(kS ps i).getD undef,fun i v h=>(by show (kS ps i).getD undef=v;rw[h];rfl),?_,.inl ⟨?_,?_,?_⟩⟩)
  · simpa using wG (p:=(!·)) (l:=List.replicate ops.size false)
  · simp[aW,qM];split<;>rfl
  · exfalso;have:i<ops.size:=(gN.1 c).1;simp[aW,this] at hi
  · have e:∀y,lay (fun i=>(Array.replicate ops.size false).getD i false) y ops.toList 0 a0.tmps=a0.tmps:=by
      intro y;apply oO;intro s;exact iB _ _ s _ 0 _ fun k o' hk hd=>by simp[aW,qM];split<;>rfl
    rw[e]
  · simp[aW,qM];split<;>rfl
  · exact⟨rfl,rfl,rfl,az _,fun _ _=>rfl⟩
  intro i hi _ hL;simp[aW,show i<ops.size by omega] at hL
def ug (P:Program) (ops:Array Oper) (a0:Act) (w0:World) (ps:List (Nat × Value)) (l:List nG) (i:Nat) (o:Oper):Prop:=
 match kS ps i with
 | some v => ∀(ρ:Operand→Value) (y:Nat→Value) (w:World),(∀t j,writer ops t=some j→ρ (.tmp t)=y j)→(∀x,(match x with | .tmp t=>writer ops t=none | _=>True)→ρ x=a0.eval x)→(∀i v,kS ps i=some v→y i=v) →
   Region.wanted o (ik ρ ops)=true∧(execOp ρ o).run P w = .ok (.value v) w
 | none => ∀(ρ:Operand→Value) (y:Nat→Value) (w:World),(∀t j,writer ops t=some j→ρ (.tmp t)=y j)→(∀x,(match x with | .tmp t=>writer ops t=none | _=>True)→ρ x=a0.eval x) →
   Below w0.heap.size w0 w→(∀j,o.after.toList.any (fun e=>e.on==j)=true→match kS ps j with | some v=>y j=v | none=>rl l j (y j) w) →
   if Region.wanted o (ik ρ ops)=true then dP P o ρ w (fun v w'=>Below w.heap.size w w'∧rl l i v w') else rl l i undef w
theorem aB {ps:List (Nat × Value)} {l:List nG} (h:kS ps i=none)
 (hh:∀(ρ:Operand→Value) (y:Nat→Value) (w:World),(∀t j,writer ops t=some j→ρ (.tmp t)=y j)→(∀x,(match x with | .tmp t=>writer ops t=none | _=>True)→ρ x=a0.eval x) →
 Below w0.heap.size w0 w→(∀j,o.after.toList.any (fun e=>e.on==j)=true→match kS ps j with | some v=>y j=v | none=>rl l j (y j) w) →
 if Region.wanted o (ik ρ ops)=true then dP P o ρ w (fun v w'=>Below w.heap.size w w'∧rl l i v w') else rl l i undef w):ug P ops a0 w0 ps l i o:=by
 unfold ug;rw[h];exact hh
theorem EO (m k1:Nat) (ps:List (Nat × Value)) (l:List nG) (hok:jL ops=true) (ht:jd ops k1=true) (hcok:WS ops m ps=true) (hmid:NC m k1 ps=true) (hpu:TR ops m ps=true) (hmk:m<k1) (hk1:k1≤ops.size)
 (n:Nat) (hn:a0.tmps.size=n) (hsz:kV ops n=true)
 (hstep:bq (ug P ops a0 w0 ps l) 0 (ops.toList.take m)) (hmidl:bq (ug P ops a0 w0 ps l) (m+1) ((ops.toList.drop (m+1)).take (k1-(m+1))))
 (hpl:ps.all (fun p=>decide (p.1<k1))=true)
 (hend:∀(ρ:Operand→Value) (y:Nat→Value) (w:World) (o:Oper),ops[m]?=some o→(∀t j,writer ops t=some j→ρ (.tmp t)=y j)→(∀x,(match x with | .tmp t=>writer ops t=none | _=>True)→ρ x=a0.eval x)→(∀i v,kS ps i=some v→y i=v) →
 Below w0.heap.size w0 w→(∀i,i<m→match kS ps i with | some v=>y i=v | none=>rl l i (y i) w) →
 Region.wanted o (ik ρ ops)=true∧dP P o ρ w fun v w'=>wpList P ops Q (ops.toList.drop k1) { a0 with tmps:=lay (fun i=>decide (i<k1)) (fun i=>if i=m then v else y i) ops.toList 0 a0.tmps } w') :
  wpAny P .any ops Q ops.size (Array.replicate ops.size false) a0 { w0 with drawn:=w0.drawn+1 }:=by
 have z:∀(y:Nat→Value) t j,writer ops t=some j→({ a0 with tmps:=lay (fun _=>true) y ops.toList 0 a0.tmps }:Act).eval (.tmp t)=y j:=by
  intro y t j hw;unfold writer at hw;have h1:=rF hw;have h2:=bV.1 (pV hw);cases ho:ops[j]? with
  | none=>simp[ho] at h1
  | some p=>
   have f : p.dst=some t:=by simpa[ho] using h1
   have hg:t<a0.tmps.size:=by have:=cK.1 hsz p (lG.2 (zk ho));rw[hn];simpa[f] using this
   have hu:∀k' o',ops.toList[k']?=some o'→o'.dst=some t→k' = j:=by
    intro k' o' u hj;rcases ((fw hok (i:=k') (o:=o') (by simpa using u)).2.2 j p t ho f).1 with h|h
    ·exact h
    ·exact absurd hj h
   have:=kR (fun _=>true) y t ops.toList 0 a0.tmps j p (by simpa using ho) f rfl hu hg;simp[Act.eval,this]
 have ha:∀(y:Nat→Value) x,(match x with | .tmp t=>writer ops t=none | _=>True)→({ a0 with tmps:=lay (fun _=>true) y ops.toList 0 a0.tmps }:Act).eval x=a0.eval x:=by
  intro y x hx;cases x with
  | tmp t=>
   have:(lay (fun _=>true) y ops.toList 0 a0.tmps)[t]?=a0.tmps[t]?:=by
    refine iB _ y t _ 0 _ fun k o' hk f => ?_;exfalso;simp only[writer] at hx;have u : ops[k]?=some o':=by simpa using hk
    have hf:k<ops.size:=(gN.1 u).1;have:=qz.1 hx k (bV.2 hf);simp[u,f] at this
   simp[Act.eval,this]
  | _=>rfl
 have c:∀(y:Nat→Value) (o:Oper),Region.wanted o (yielded ops (lay (fun _=>true) y ops.toList 0 a0.tmps))=Region.wanted o (ik ({ a0 with tmps:=lay (fun _=>true) y ops.toList 0 a0.tmps }:Act).eval ops):=by
  intro y o;congr 1;funext g;unfold yielded ik;cases (ops[g]?).bind (·.dst) with
  | none=>rfl
  | some d=>
   simp only[xW,Act.eval,aW];generalize (lay (fun _=>true) y ops.toList 0 a0.tmps)[d]?=q;cases q with
   | none=>rfl
   | some v=>cases v<;>rfl
 have s:∀i o,i<k1→i≠m→ops[i]?=some o→ug P ops a0 w0 ps l i o:=by
  intro i o hi hl ho;rcases fM i m with h|h
  ·have hc : (ops.toList.take m)[i]?=some o:=by rw[jN,if_pos h];simpa using ho
   have:=bq.at hstep i o hc;rwa [dA] at this
  have hc : ((ops.toList.drop (m+1)).take (k1-(m+1)))[i-(m+1)]?=some o:=by rw[jN,if_pos (by omega),nK,show m+1+(i-(m+1))=i by omega];simpa using ho
  have:=bq.at hmidl _ o hc;rwa [show m+1+(i-(m+1))=i by omega] at this
 refine zF m k1 ps hok ht hcok hmid hpu hmk hk1 (rl l) (fun i v w w' hb h=>(l.getD i anyR).st v w w' hb h) (fun i o hm hp hi y w hV hb hd => ?_) (fun i v o hp hi y w hV => ?_) (fun y w o hi hV hb hR => ?_)
 ·have:=s i o (by omega) (by omega) hi;unfold ug at this;rw[hp] at this;have h2:=this _ y w (z y) (ha y) hb hd;rw[c];exact h2
 ·have hh:i<k1:=by
   have h1:(i,v)∈ps:=by
    clear hpl hstep hmidl hcok hmid hpu s hend hV;unfold kS at hp
    induction ps with
    | nil=>simp at hp
    | cons q r ih=>
     obtain⟨a,b⟩:=q
     by_cases e:i=a
     ·subst e;simp at hp;simp[hp]
     have:(i==a)=false:=beq_eq_false_iff_ne.2 e;simp[List.lookup,this] at hp;exact jM _ (ih hp)
   simpa using cK.1 hpl _ h1
  have:=s i o hh (Vh hpu hi hp).1 hi;unfold ug at this;rw[hp] at this;obtain⟨h1,h2⟩:=this _ y w (z y) (ha y) hV;exact⟨by rw[c];exact h1,h2⟩
 obtain⟨h1,h2⟩:=hend _ y w o hi (z y) (ha y) hV hb hR;exact⟨by rw[c];exact h1,h2⟩
theorem vR (m k1:Nat) (ps:List (Nat × Value)) (l:List nG) (hm:P.follows .mixedOrders=true) (hok:jL ops=true) (ht:jd ops k1=true) (hcok:WS ops m ps=true) (hmid:NC m k1 ps=true) (hpu:TR ops m ps=true) (hmk:m<k1) (hk1:k1≤ops.size)
 (n:Nat) (hn:a0.tmps.size=n) (hsz:kV ops n=true)
 (hstep:bq (ug P ops a0 w0 ps l) 0 (ops.toList.take m)) (hmidl:bq (ug P ops a0 w0 ps l) (m+1) ((ops.toList.drop (m+1)).take (k1-(m+1))))
 (hpl:ps.all (fun p=>decide (p.1<k1))=true)
 (hend:∀(ρ:Operand→Value) (y:Nat→Value) (w:World) (o:Oper),ops[m]?=some o→(∀t j,writer ops t=some j→ρ (.tmp t)=y j)→(∀x,(match x with | .tmp t=>writer ops t=none | _=>True)→ρ x=a0.eval x)→(∀i v,kS ps i=some v→y i=v) →
 Below w0.heap.size w0 w→(∀i,i<m→match kS ps i with | some v=>y i=v | none=>rl l i (y i) w) →
 Region.wanted o (ik ρ ops)=true∧dP P o ρ w fun v w'=>wpList P ops Q (ops.toList.drop k1) { a0 with tmps:=lay (fun i=>decide (i<k1)) (fun i=>if i=m then v else y i) ops.toList 0 a0.tmps } w') :
  (Code.region id ops true).wp P Q a0 w0:=
 wp_region_any hm (EO m k1 ps l hok ht hcok hmid hpu hmk hk1 n hn hsz hstep hmidl hpl hend)
theorem Dz {F:Value→World→Prop} (f:FuncId) (args:Array Value) (hw:Region.wanted o (ik ρ ops)=true) (hrun:(execOp ρ o).run P w = .ok (.enter f args) w)
 (hc:Calls P f args w fun e w' => ∃v,e = .returned v∧F v w'):Region.wanted o (ik ρ ops)=true∧dP P o ρ w F:=by
 refine⟨hw,?_⟩;unfold dP;rw[hrun];refine hc.mono fun e w' ⟨v,he,h⟩ => ?_;subst he;exact h
theorem FP (s x:Operand) (t:TypeId) (hop:o.op=Op.call { callee:=Callee.builtin Builtin.append,args:=#[s,x],argTypes:=#[t,t] })
 (B:Nat) (e:TypeId) (z:Value) (size bytes:Nat) (h1:P.underlying t=some (.slice e)) (h2:(P.info? e).map (fun i=>(i.zero,i.size,i.bytes))=some (some z,size,bytes)) (h6:z.cells.size=size) (h7:0<size)
 (v:Value) (n:Nat) (xs:List Value) (hs:ρ s=v) (hown:Own w B e size v n xs)
 (ao:Option Addr) (m c:Nat) (news:List Value) (hx:ρ x = .slice ao m c) (hnone:ao=none→c=0) (hmc:m≤c) (hn:news.length=m*size) (hrd:eB w ao news) (h1c:∀u∈news,u.oneCell' = true)
 (b1:n+m≤maxLen) (b2:(n+m)*bytes≤140737488355328) (hB:B≤w.heap.size) :
  ∃v' w',(execOp ρ o).run P w = .ok (.value v') w'∧Own w' B e size v' (n+m) (xs++news)∧w.grownBy w' v.ownBlock∧(v'.ownBlock=v.ownBlock∨∀g,v'.ownBlock=some g→w.heap.size≤g):=by
 obtain⟨i,hi,hz,f,h⟩:=info_parts h2;cases ao with
 | none=>
  obtain rfl:=hnone rfl;obtain rfl:m=0:=by omega
  obtain rfl:news=[]:=jX (by simpa using hn);refine⟨v,w,?_,by simpa using hown,Bp _ _,.inl rfl⟩;rcases hown with ⟨hl,⟨rfl,rfl⟩|⟨g,off,cap,cur,rfl,hBg,hk,hc,hm,hsize,hcell⟩⟩
  ·simp[execOp,hop,resolve,invoke,builtin,hs,hx,Builtin.append_,run_underlying h1,Go.sizeOf,typeInfo,hi,Builtin.lenOf,Builtin.firstCells,storeCells,Result.andThen]
  ·simp[execOp,hop,resolve,invoke,builtin,hs,hx,Builtin.append_,run_underlying h1,Go.sizeOf,typeInfo,hi,Builtin.lenOf,Builtin.firstCells,hc,storeCells,Result.andThen]
 | some ad=>
  have d:∀j u,news[j]?=some u→w.cell? (ad.add j)=some u:=by intro j u hj;obtain⟨b,off,e',hc⟩:=hrd j u hj;cases e';rw[mr];exact hc
  rcases hown with ⟨hl,⟨rfl,rfl⟩|⟨g,off,cap,cur,rfl,hBg,hk,hc,hm,hsize,hcell⟩⟩
  ·obtain rfl:xs=[]:=jX (by simpa using hl);obtain⟨v',w',a,r1,r2,_⟩:=run_append_own (P:=P) w w.heap.size t o.type e i z size bytes h1 hi hz f h h6 h7 (.slice none 0 0) 0 [] (FM w _ e size) ad m c news hn d h1c b1 b2 (az _);refine⟨v',w',?_,(Own.of_owns r1).mono hB,r2,.inr (Own.of_owns r1).ge⟩;simp[execOp,hop,resolve,invoke,builtin,hs,hx,a,Result.andThen]
  have k:n*size≤cap*size:=sD _ hc;rcases fM cap (n+m) with hr|hr
  ·obtain⟨v',w',a,r1,r2⟩:=run_append_arg_grows (P:=P) w t o.type e i z size bytes h1 hi hz f h h6 h7 ⟨g,off,none⟩ n cap xs hl (fun j u hj=>by rw[mr,hk.cell];exact hcell j u hj) ad m c news hn d hr b1 b2;refine⟨v',w',?_,(Own.of_owns r1).mono hB,LA r2 _,.inr (Own.of_owns r1).ge⟩;simp[execOp,hop,resolve,invoke,builtin,hs,hx,a,Result.andThen]
  have h3:(n+m)*size≤cap*size:=sD _ hr;rw[su] at h3;have a:=run_append_room_cells (P:=P) w t o.type e i h1 hi g off n cap ad m c news (by rw[f];exact hn) d h1c hr (fun j hj=>by rw[f,hk.cell];simp[show off+n*size+j<cur.size by omega]) (fun j hj=>hk.free _);rw[f] at a;refine⟨_,_,?_,⟨by rw[iK,hl,hn,su],.inr ⟨g,off,cap,_,rfl,hBg,hk.setCells news (off+n*size),hr,hm,by rw[size_putAt];exact hsize,fun j u hj => ?_⟩⟩,aA _ _ _ _,.inl rfl⟩
  ·simp[execOp,hop,resolve,invoke,builtin,hs,hx,a,Result.andThen]
  by_cases hjl:j<xs.length
  ·rw[il hjl] at hj;rw[putAt_out _ _ _ _ (.inl (by omega))];exact hcell j u hj
  rw[iN (by omega)] at hj;have:=putAt_in news cur (off+n*size) (j-xs.length) u (by omega) hj;rwa [show off+n*size+(j-xs.length)=off+j by omega] at this
theorem Nb {F:Value→World→Prop} (hw:Region.wanted o (ik ρ ops)=true) {D:Value→World→Prop} (h:∃v' w',(execOp ρ o).run P w = .ok (.value v') w'∧D v' w') (hF:∀v w',D v w'→F v w'):Region.wanted o (ik ρ ops)=true∧dP P o ρ w F:=by
 obtain⟨v',w',h1,h2⟩:=h;refine⟨hw,?_⟩;unfold dP;rw[h1];exact hF _ _ h2
open Go.ChangeShapes Go.WideShapes Go.ChangeAt
theorem Cw {n:Nat} {d:TypeDesc} (ht:P.underlying t=some (.array n e)) (he:P.underlying e=some d) (hd:(∀m f,d ≠ .array m f)∧(∀fs,d ≠ .struct fs)) (hs:(P.info? e).map (·.size)=some 1)
 (cs:Array Value) (k:Nat) (v:Value) (hk:k<n) (hv:cs[k]?=some v) (kk:IntKind) (w:World):(Instr.index t (.agg cs) (.int kk k)).run P w = .ok v w:=by
 have a:∀w,(Go.sizeOf e).run P w = .ok 1 w:=by
  intro w;cases hq:P.info? e with
  | none=>simp[hq] at hs
  | some i=>
   have hz:i.size=1:=by simpa[hq] using hs
   simp[Go.sizeOf,typeInfo,run_program,hq,hz]
 have ha:∀w,(isAgg e).run P w = .ok false w:=by intro w;unfold isAgg;simp[run_underlying he];cases d<;>simp_all
 simp[Instr.index,part,asIntOf,run_underlying ht,a,hk,ha,hv,go_sem]
theorem Tg :(∀m f,TypeDesc.slice e ≠ .array m f)∧(∀fs,TypeDesc.slice e ≠ .struct fs):=⟨fun _ _ h=>(by cases h),fun _ h=>(by cases h)⟩
def aggB:TypeDesc→Bool
 | .struct _=>true
 | .array _ _=>true
 | _=>false
theorem iq {d:TypeDesc} (hrd:eB w (some ⟨b,off,none⟩) vs)
 (hu:P.underlying ty=some d) (hd:aggB d=true) (hi:(P.info? ty).map (·.size)=some vs.length) :
  (loadVar ty ⟨b,off,none⟩).run P w = .ok (.agg vs.toArray) w:=by
 have hl:(loadCells ⟨b,off,none⟩ vs.length).run P w = .ok vs.toArray w:=
  run_loadCells_list (P:=P) w ⟨b,off,none⟩ vs (fun j v hv=>by
   obtain⟨b',off',h1,h2⟩:=hrd.at (by
    rcases fM 0 vs.length with h|h
    ·exact h
    ·rw[fo (by omega)] at hv;cases hv)
   cases h1;have c:(⟨b,off,none⟩:Addr).add j=⟨b,off+j,none⟩:=by unfold Addr.add;split<;>simp_all
   rw[c];exact h2 j v hv)
 cases hq:P.info? ty with
 | none=>simp[hq] at hi
 | some i=>
  have hs:i.size=vs.length:=by simpa[hq] using hi
  have a:(isAgg ty).run P w = .ok true w:=by unfold isAgg;rw[jZ,run_underlying hu w];cases d<;>simp_all[aggB]
  simp[loadVar,jZ,a,Go.sizeOf,typeInfo,hq,hs,hl]
theorem jP {a:Act} (hgd:o.guard=none) (ty:TypeId) (x:Operand) (ho:o.op = .load ty x)
 (b off:Nat) (hx:a.eval x = .pointer (some ⟨b,off,none⟩)) (vs:List Value) (hrd:eB w (some ⟨b,off,none⟩) vs) (d:TypeDesc)
 (hu:P.underlying ty=some d) (hd:aggB d=true) (hi:(P.info? ty).map (·.size)=some vs.length)
 (h:wpList P ops Q rest (a.put o.dst (.agg vs.toArray)) w):wpList P ops Q (o::rest) a w:=
 wpList_plain hgd fun K hK=>by unfold Oper.wp execOp;simp only[ho,hx,Instr.loadAt,Instr.sureAddr,jZ,pu,oZ,iq hrd hu hd hi];exact hK _ _ h
theorem aJ.rd (h:aJ w b cs T):eB w (some ⟨b,0,none⟩) cs.toList:=by
 intro i u hi;exact⟨b,0,rfl,by rw[h.cell,dA];simpa using hi⟩
theorem bz {a:Act} (hgd:op.guard=none) (ty:TypeId) (x y:Operand) (ho:op.op = .store ty x y)
 (b o:Nat) (v:Value) (cells:List Value) (hx:a.eval x = .pointer (some ⟨b,o,none⟩)) (hy:a.eval y=v) (hc:v.cells.toList=cells) (cur:Array Value) (T:TypeId) (hg:aJ w b cur T)
 (hfit:o+cells.length≤cur.size) (hi:(P.info? ty).map (·.size)=some cells.length) (h1:∀u∈cells,u.oneCell' = true)
 (h:∀w',aJ w' b (dF cur o cells) T→w.grownBy w' (some b)→wpList P ops Q rest (a.put op.dst undef) w'):wpList P ops Q (op::rest) a w:=
 wpList_plain hgd fun K hK=>by
  have hst:=run_storeCells_cells (P:=P) b o cells 0 w
   (fun j hj=>by rw[kU,hg.cell];simp[show o+j<cur.size by omega]) (fun j hj=>hg.free _) h1
  simp only[kU] at hst;have hsv:(storeVar ty ⟨b,o,none⟩ v).run P w = .ok () (w.setCells b o cells):=by
   cases hq:P.info? ty with
   | none=>simp[hq] at hi
   | some i=>
    have hs:i.size=cells.length:=by simpa[hq] using hi
    have hv:v.cells.size=cells.length:=by rw[←hc];simp
    simp[storeVar,Go.sizeOf,typeInfo,hq,hs,hv,hc,hst]
  unfold Oper.wp execOp;simp only[ho,hx,hy,Instr.storeAt,Instr.sureAddr,jZ,pu,oZ,hsv];exact hK _ _ (h _ (hg.setCells _ _) (aA _ _ _ _))
theorem putAt_one (cur:Array Value) (o:Nat) (v:Value):dF cur o [v]=cur.setIfInBounds o v:=rfl
theorem fZ {fn:Func} {p q:Tmp} (h:fn.results=#[.cell p ty,.tmp q]) (tmps:Array Value) (w:World) (g:Nat) (t:TypeId) (cs:Array Value) (d:TypeDesc) (v:Value)
 (hp:tmps.getD p undef = .pointer (some ⟨g,0,none⟩)) (hv:tmps.getD q undef=v) (hg:aJ w g cs t) (hu:P.underlying ty=some d) (hd:aggB d=true) (hi:(P.info? ty).map (·.size)=some cs.size) :
  (results fn tmps).run P w = .ok (.tuple #[.agg cs,v]) w:=by
 have b : tmps[p]?.getD undef = .pointer (some ⟨g,0,none⟩):=by simpa using hp
 have hl:=iq (P:=P) hg.rd hu hd (by rw[kH];exact hi);have a : tmps[q]?.getD undef=v:=by simpa using hv
 simp[results,h,b,a,asAddr,hl]
theorem dn {fn:Func} {p q r:Tmp} (h:fn.results=#[.cell p ty,.tmp q,.tmp r]) (tmps:Array Value) (w:World) (g:Nat) (t:TypeId) (cs:Array Value) (d:TypeDesc) (v u:Value)
 (hp:tmps.getD p undef = .pointer (some ⟨g,0,none⟩)) (hv:tmps.getD q undef=v) (hu' : tmps.getD r undef=u) (hg:aJ w g cs t) (hu:P.underlying ty=some d) (hd:aggB d=true) (hi:(P.info? ty).map (·.size)=some cs.size) :
  (results fn tmps).run P w = .ok (.tuple #[.agg cs,v,u]) w:=by
 have c : tmps[p]?.getD undef = .pointer (some ⟨g,0,none⟩):=by simpa using hp
 have hl:=iq (P:=P) hg.rd hu hd (by rw[kH];exact hi);have b : tmps[q]?.getD undef=v:=by simpa using hv
 have a : tmps[r]?.getD undef=u:=by simpa using hu'
 simp[results,h,c,b,a,asAddr,hl]
theorem aY {fn:Func} {p:Tmp} (h:fn.results=#[.cell p ty]) (tmps:Array Value) (w:World) (g:Nat) (t:TypeId) (cs:Array Value) (d:TypeDesc)
 (hp:tmps.getD p undef = .pointer (some ⟨g,0,none⟩)) (hg:aJ w g cs t) (hu:P.underlying ty=some d) (hd:aggB d=true) (hi:(P.info? ty).map (·.size)=some cs.size) :
  (results fn tmps).run P w = .ok (.agg cs) w:=by
 have a : tmps[p]?.getD undef = .pointer (some ⟨g,0,none⟩):=by simpa using hp
 have hl:=iq (P:=P) hg.rd hu hd (by rw[kH];exact hi);simp[results,h,a,asAddr,hl]
def EY (w:World) (v v' : Value):Prop:=v'.ownBlock=v.ownBlock∨∀g,v'.ownBlock=some g→w.heap.size≤g
theorem qZ {a:Act} (hg:o.guard=none) (s x:Operand) (t:TypeId)
 (hop:o.op=Op.call { callee:=Callee.builtin Builtin.append,args:=#[s,x],argTypes:=#[t,t] })
 (B:Nat) (e:TypeId) (z:Value) (size bytes:Nat) (h1:P.underlying t=some (.slice e)) (h2:(P.info? e).map (fun i=>(i.zero,i.size,i.bytes))=some (some z,size,bytes)) (h6:z.cells.size=size) (h7:0<size)
 (v:Value) (n:Nat) (xs:List Value) (hs:a.eval s=v) (hown:Own w B e size v n xs)
 (ao:Option Addr) (m c:Nat) (news:List Value) (hx:a.eval x = .slice ao m c) (hnone:ao=none→c=0) (hmc:m≤c) (hn:news.length=m*size) (hrd:eB w ao news) (h1c:∀u∈news,u.oneCell' = true)
 (b1:n+m≤maxLen) (b2:(n+m)*bytes≤140737488355328) (hB:B≤w.heap.size)
 (hK:∀v' w',Own w' B e size v' (n+m) (xs++news)→w.grownBy w' v.ownBlock→EY w v v'→wpList P ops Q rest (a.put o.dst v') w') :
  wpList P ops Q (o::rest) a w:=by
 obtain⟨v',w',b,k1,k2,k3⟩:=FP (P:=P) (ρ:=a.eval) (o:=o) (w:=w) s x t hop B e z size bytes h1 h2 h6 h7 v n xs hs hown ao m c news hx hnone hmc hn hrd h1c b1 b2 hB;refine wpList_plain hg fun K d => ?_;unfold Oper.wp;rw[b];exact d _ _ (hK v' w' k1 k2 k3)
def Apart (v u:Value):Prop:=∀g,v.ownBlock=some g→u.ownBlock≠some g
theorem Apart.symm (h:Apart v u):Apart u v:=fun g h1 h2=>h g h2 h1
theorem Apart.nil' :Apart u (.slice none 0 0):=fun g _ h=>by cases h
theorem Uf {n:Nat} (h:Own w B e sz v n xs) (g:Nat) (hg:v.ownBlock=some g):g<w.heap.size:=by
 rcases h.2 with ⟨rfl,_⟩|⟨g2,off,cap,cur,rfl,_,hb,_⟩
 ·cases hg
 cases hg;exact hb.lt
theorem Own.apart {n:Nat} (hu:Own w B e sz u n xs) (h:Apart v u) (hgr:w.grownBy w' v.ownBlock):Own w' B e sz u n xs:=
 hu.grown hgr fun g hg he=>h g he hg
theorem aT {a:Act} (hgd:op.guard=none) (ty:TypeId) (x y:Operand) (ho:op.op = .store ty x y)
 (cells:Array Value) (hx:a.eval x = .pointer (some ⟨w.heap.size,0,none⟩)) (hy:a.eval y = .agg cells)
 (hfit:cells.size=cur.size) (hi:(P.info? ty).map (·.size)=some cells.size) (h1:cells.all (·.oneCell')=true)
 (h:∀w',Below w.heap.size w w'→aJ w' w.heap.size cells T→wpList P ops Q rest (a.put op.dst undef) w'):wpList P ops Q (op::rest) a (w.alloc (.cells cur T)):=by
 refine ax hgd ty x y ho w.heap.size cells hx hy cur T (aJ.new _ _ _) hfit hi h1 fun w' hb b=>h w' ?_ hb;exact ((Below.refl _ _).alloc (az _) _).grown b (dV _ _) (fun k hk=>by cases hk;exact az _)
theorem Ki {a:Act} (hgd:op.guard=none) (ty:TypeId) (x y:Operand) (ho:op.op = .store ty x y)
 (v:Value) (hx:a.eval x = .pointer (some ⟨w.heap.size,0,none⟩)) (hy:a.eval y=v) (hc:v.cells.toList=[v])
 (hi:(P.info? ty).map (·.size)=some 1) (h1:v.oneCell' = true)
 (h:∀w',Below w.heap.size w w'→aJ w' w.heap.size #[v] T→wpList P ops Q rest (a.put op.dst undef) w'):wpList P ops Q (op::rest) a (w.alloc (.cells #[c0] T)):=by
 refine bz hgd ty x y ho w.heap.size 0 v [v] hx hy hc #[c0] T (aJ.new _ _ _) (show 0+1≤1 from az 1) hi (fun u hu=>by cases bN.1 hu;exact h1) fun w' hb b=>h w' ?_ hb;exact ((Below.refl _ _).alloc (az _) _).grown b (dV _ _) (fun k hk=>by cases hk;exact az _)
theorem wpList_want {a:Act} (hw:Region.wanted o (yielded ops a.tmps)=true)
 (h:∀K:Act→World→Prop,(∀a w,wpList P ops Q rest a w→K a w)→o.wp P a w K Q):wpList P ops Q (o::rest) a w:=
 wpList_step fun K hK=>by rw[if_pos hw];exact h K hK
theorem aC {a:Act} (ty:TypeId) (x:Operand) (ho:o.op = .load ty x)
 (b off:Nat) (hx:a.eval x = .pointer (some ⟨b,off,none⟩)) (hgd:Region.wanted o (yielded ops a.tmps)=true) (vs:List Value) (hrd:eB w (some ⟨b,off,none⟩) vs) (d:TypeDesc)
 (hu:P.underlying ty=some d) (hd:aggB d=true) (hi:(P.info? ty).map (·.size)=some vs.length)
 (h:wpList P ops Q rest (a.put o.dst (.agg vs.toArray)) w):wpList P ops Q (o::rest) a w:=
 wpList_want hgd fun K hK=>by unfold Oper.wp execOp;simp only[ho,hx,Instr.loadAt,Instr.sureAddr,jZ,pu,oZ,iq hrd hu hd hi];exact hK _ _ h
def bu (o:Oper):Oper:={ o with after:=⟨o.after.toList.filter (Region.binds .any)⟩ }
def dE (ops:Array Oper):Array Oper:=⟨ops.toList.map bu⟩
theorem xU (ops:Array Oper):(dE ops).size=ops.size:=by simp[dE]
theorem Ab (ops:Array Oper) (i:Nat):(dE ops)[i]?=(ops[i]?).map bu:=by
 unfold dE;simp
theorem AA (ops:Array Oper) (listed:Array Bool):Region.ready .any (dE ops) listed=Region.ready .any ops listed:=by
 unfold Region.ready;rw[xU];apply List.filter_congr;intro i _;congr 1;rw[Ab];cases ops[i]? with
 | none=>rfl
 | some o=>
  simp only[wT,rQ];rw[←iA,←iA];exact filter_all _ _ _
theorem Ey (ops:Array Oper) (ts:Array Value):yielded (dE ops) ts=yielded ops ts:=by
 funext g;unfold yielded;rw[Ab];cases ops[g]?<;>rfl
theorem KL {K:Act→World→Prop} {a:Act} (h:wpOp P (dE ops) Q i K a w):wpOp P ops Q i K a w:=by
 unfold wpOp at h ⊢;rw[Ab,Ey] at h;cases ho:ops[i]? with
 | none=>rw[ho] at h;exact h
 | some o=>
  rw[ho] at h;exact h
theorem zR {P:Program} {ops:Array Oper} {Q:Exit→Act→World→Prop}:∀(fuel:Nat) (listed:Array Bool) (a:Act) (w:World),wpAny P .any (dE ops) Q fuel listed a w→wpAny P .any ops Q fuel listed a w
 | 0,listed,a,w,h=>by unfold wpAny at h ⊢;rw[AA] at h;exact h
 | fuel+1,listed,a,w,h=>by unfold wpAny at h ⊢;rw[AA] at h;exact⟨h.1,fun i hi=>wpOp_mono (fun a w=>zR fuel _ a w) (KL (h.2 i hi))⟩
structure tH where
 r:(Nat→Value)→World→Prop
 on:List Nat
 st:∀y w w',Below w.heap.size w w'→r y w→r y w'
 dep:∀y y' w,(∀j∈on,y j=y' j)→r y w→r y' w
def Xz (k:Nat) (R:nG):tH:=⟨fun y w=>R.r (y k) w,[k],fun y w w' hb h=>R.st _ _ _ hb h,fun y y' w h h1=>by rw[←h k (bN.2 rfl)];exact h1⟩
def anyY:tH:=⟨fun _ _=>True,[],fun _ _ _ _ _=>trivial,fun _ _ _ _ _=>trivial⟩
def ry (l:List tH) (i:Nat):tH:=l.getD i anyY
def upd (y:Nat→Value) (i:Nat) (v:Value):Nat→Value:=fun k=>if k=i then v else y k
def RA (ops:Array Oper) (m:Nat) (l:List tH):Bool:=
 (List.range m).all fun i=>match ops[i]? with
  | none=>true
  | some o=>(ry l i).on.all fun j=>decide (j=i)||o.after.toList.any (fun e=>e.on==j)
theorem UG {m:Nat} {l:List tH} (h:RA ops m l=true) (him:i<m) (ho:ops[i]?=some o) (hj:j∈(ry l i).on):j=i∨∃e∈o.after,e.on=j:=by
 have h1:=cK.1 h i (bV.2 him);simp only[ho] at h1;have h2:=cK.1 h1 j hj;simp only[qJ,decide_eq_true_eq,jO,beq_iff_eq] at h2;rcases h2 with h2|⟨e,he,h3⟩
 ·exact .inl h2
 ·exact .inr ⟨e,lG.1 he,h3⟩
def Wl (ops:Array Oper) (m:Nat) (l:List tH) (B:World→Prop) (a0:Act) (listed:Array Bool) (a:Act) (w:World):Prop:=
 (∀i,m≤i→listed.getD i false=false)∧(∀i o,ops[i]?=some o→listed.getD i false=true→∀e∈o.after,listed.getD e.on false=true) ∧
  ∃y:Nat→Value,a = { a0 with tmps:=lay (fun i=>listed.getD i false) y ops.toList 0 a0.tmps }∧B w∧∀i,i<m→listed.getD i false=true→(ry l i).r y w
def vC (m:Nat) (l:List tH) (B:World→Prop) (i:Nat) (y:Nat→Value) (w:World) (v:Value) (w' : World):Prop:=
 B w'∧(ry l i).r (upd y i v) w'∧∀k,k<m→k≠i→(ry l k).r y w→(ry l k).r y w'
theorem AV (m:Nat) (l:List tH) (B:World→Prop) (hbst:∀w w',Below w.heap.size w w'→B w→B w') (hok:jL ops=true) (ht:jd ops m=true) (hmn:m≤ops.size) (hon:RA ops m l=true) (hb0:B w0)
 (hstep:∀i o,i<m→ops[i]?=some o→∀y w,B w→(∀j,o.after.toList.any (fun e=>e.on==j)=true→(ry l j).r y w) →
 if Region.wanted o (yielded ops (lay (fun _=>true) y ops.toList 0 a0.tmps))=true then Gives P o { a0 with tmps:=lay (fun _=>true) y ops.toList 0 a0.tmps } w (vC m l B i y w) else vC m l B i y w undef w)
 (hend:∀y w,B w→(∀i,i<m→(ry l i).r y w)→wpList P ops Q (ops.toList.drop m) { a0 with tmps:=lay (fun i=>decide (i<m)) y ops.toList 0 a0.tmps } w) :
  wpAny P .any ops Q ops.size (Array.replicate ops.size false) a0 w0:=by
 have hE:∀(fuel:Nat) (listed:Array Bool) (a:Act) (w:World),listed.size=ops.size→listed.toList.countP (!·)≤fuel→Wl ops m l B a0 listed a w→wpAny P .any ops Q fuel listed a w:=by
  intro fuel
  induction fuel with
  | zero=>
   intro listed a w c hc hA;have hl:∀i,i<ops.size→listed.getD i false=true:=by
    intro i hF;have h0:listed.toList.countP (!·)=0:=by omega
    have:=uz.1 h0 (listed[i]'(by omega)) (by simp);simpa[aW,show i<listed.size by omega] using this
   obtain⟨u,hn,y,ha,hb,hR⟩:=hA;have hy : m=ops.size:=by
    rcases fM m ops.size with h|h
    ·have h1:=hl m h;rw[u m (az _)] at h1;cases h1
    ·omega
   refine nQ (m:=m) hok ht 0 ops.size listed a w (by omega) (az _) (by omega) c (fun i hi=>by rw[hl i hi];simp[hi]) ?_;have:=hend y w hb fun i hi=>hR i (by omega) (hl i (by omega));rw[ha,mH (fun i=>listed.getD i false) (fun i=>decide (i<m)) y ops.toList 0 a0.tmps (fun k hk=>by
    have hG : k<ops.size:=by simpa using hk
    simp only[dA];rw[hl k hG];simp;omega)]
   rw[hy] at this ⊢;exact this
  | succ fuel ih=>
   intro listed a w c hc hA
   by_cases hfull:∀i,i<m→listed.getD i false=true
   ·obtain⟨u,hn,y,ha,hb,hR⟩:=hA;have hL:∀i,i<ops.size→listed.getD i false=decide (i<m):=by
     intro i hi
     by_cases him:i<m
     ·rw[hfull i him];simp[him]
     ·rw[u i (by omega)];simp[him]
    have hm:ops.size-m≤fuel+1:=by have:=DN (k1:=m) c hmn hL;omega
    refine nQ (m:=m) hok ht (fuel+1) m listed a w (az _) hmn hm c hL ?_;have:=hend y w hb fun i hi=>hR i (by omega) (hfull i hi);rw[ha,mH (fun i=>listed.getD i false) (fun i=>decide (i<m)) y ops.toList 0 a0.tmps (fun k hk=>by simp only[dA];exact hL k (by simpa using hk))];exact this
   have f:Region.ready .any ops listed≠[]:=by
    intro hh;apply hfull;intro i
    induction i using Nat.strongRecOn with
    | ind i ih'=>
     intro him
     by_cases hc' : listed.getD i false=true
     ·exact hc'
     exfalso;have hi:i<ops.size:=by omega
     have hp:i∈Region.ready .any ops listed:=by
      rw[mem_ready];refine⟨?_,ops[i],by simp[hi],fun e he _ => ?_⟩
      ·simpa[aW,show i<listed.size by omega] using hc'
      have:=(fw hok (i:=i) (o:=ops[i]) (by simp[hi])).2.1 e he;exact ih' e.on this.2 (by omega)
     rw[hh] at hp;cases hp
   refine⟨fun h=>absurd h f,fun i hi => ?_⟩;obtain⟨h1,o,ho,hv⟩:=mem_ready.1 hi;have hF:i<ops.size:=(gN.1 ho).1;obtain⟨hw,b,_⟩:=fw hok ho;have hL:∀e∈o.after,listed.getD e.on false=true:=fun e he=>hv e he (b e he).1;have him:i<m:=by
    rcases fM i m with h|h
    ·exact h
    exfalso;apply hfull;intro j hj;exact qI ht hA.2.1 ho hL h j (by omega)
   obtain⟨u,hn,y,ha,hb,hR⟩:=hA;have hI:listed.getD i false=false:=by simpa[aW,show i<listed.size by omega] using h1
   have z:∀v w',vC m l B i y w v w'→wpAny P .any ops Q fuel (listed.setIfInBounds i true) (a.put o.dst v) w':=by
    intro v w' hq;refine ih _ _ _ (by simp[c]) ?_ ⟨fun k hk => ?_,fun k o' n hk e he => ?_,upd y i v,?_,hq.1,?_⟩
    ·exact Cj (by omega) h1 hc
    ·have:=u k hk;simp only[aW,fO (show i≠k by omega)] at this ⊢;exact this
    ·have up:∀q,listed.getD q false=true→(listed.setIfInBounds i true).getD q false=true:=wZ (by omega);apply up
     by_cases hki:k=i
     ·subst hki;rw[ho] at n;cases n;exact hL e he
     ·exact hn k o' n (by simpa[aW,fO (kT hki)] using hk) e he
    ·rw[ha,Ca hok ho c v];rfl
    intro k hk hK
    by_cases hki:k=i
    ·subst hki;exact hq.2.1
    have hr:listed.getD k false=true:=by simpa[aW,fO (kT hki)] using hK
    refine (ry l k).dep y (upd y i v) w' (fun j hj => ?_) (hq.2.2 k hk hki (hR k hk hr));have hz:k<ops.size:=by omega
    have hB:listed.getD j false=true:=by
     rcases UG hon hk (o:=ops[k]) (by simp[hz]) hj with rfl|⟨e,he,rfl⟩
     ·exact hr
     ·exact hn k ops[k] (by simp[hz]) hr e he
    have hH:j≠i:=by rintro rfl;rw[hI] at hB;cases hB
    unfold upd;rw[if_neg hH]
   have hf:∀t∈o.looksAt ops,a.tmps[t]?=(lay (fun _=>true) y ops.toList 0 a0.tmps)[t]?:=fun t ht=>by rw[ha];exact wP hok ho hL t ht
   have hu:execOp a.eval o=execOp ({ a0 with tmps:=lay (fun _=>true) y ops.toList 0 a0.tmps }:Act).eval o:=by
    refine execOp_congr o hw fun x hx => ?_;cases x with
    | tmp t=>
     have:=hf t (uI _ (Bb.2 ⟨.tmp t,by simpa using hx,rfl⟩));simp[Act.eval,this]
    | _=>rfl
   have d:Region.wanted o (yielded ops a.tmps)=Region.wanted o (yielded ops (lay (fun _=>true) y ops.toList 0 a0.tmps)):=by
    unfold Region.wanted;cases hg:o.guard with
    | none=>rfl
    | some gw=>
     obtain⟨g,want⟩:=gw;have:yielded ops a.tmps g=yielded ops (lay (fun _=>true) y ops.toList 0 a0.tmps) g:=by
      unfold yielded;cases hd:(ops[g]?).bind (·.dst) with
      | none=>rfl
      | some t=>
       have:=hf t (uQ _ (by simp[hg,hd]));simp[this]
     simp only[this]
   have hs:=hstep i o him ho y w hb (fun j hj=>by
    obtain⟨e,he,hJ⟩:=jO.1 hj;have hC : e.on=j:=by simpa using hJ
    subst hC;have hD:=lG.1 he;exact hR e.on (by have:=(b e hD).2;omega) (hL e hD))
   by_cases hwt:Region.wanted o (yielded ops (lay (fun _=>true) y ops.toList 0 a0.tmps))=true
   ·rw[if_pos hwt] at hs;exact nS ho (by rw[d];exact hwt) hu hs fun v w' h=>z v w' h
   rw[if_neg hwt] at hs;unfold wpOp;simp only[ho];rw[if_neg (by rw[d];exact hwt)];exact z undef w hs
 refine hE ops.size _ _ _ (by simp) ?_ ⟨fun i _ => ?_,fun i o' n hi => ?_,fun _=>undef,?_,hb0,?_⟩
 ·simpa using wG (p:=(!·)) (l:=List.replicate ops.size false)
 ·simp[aW,qM];split<;>rfl
 ·exfalso;have:i<ops.size:=(gN.1 n).1;simp[aW,this] at hi
 ·have e:lay (fun i=>(Array.replicate ops.size false).getD i false) (fun _=>undef) ops.toList 0 a0.tmps=a0.tmps:=by apply oO;intro s;exact iB _ _ s _ 0 _ fun k o' hk hd=>by simp[aW,qM];split<;>rfl
  rw[e]
 intro i hi hL;exfalso;have:(Array.replicate ops.size false).getD i false=false:=by simp[aW,qM];split<;>rfl
 rw[this] at hL;cases hL
def Ef (P:Program) (ops:Array Oper) (a0:Act) (m:Nat) (l:List tH) (B:World→Prop) (i:Nat) (o:Oper):Prop:=
 ∀(ρ:Operand→Value) (y:Nat→Value) (w:World),(∀t j,writer ops t=some j→ρ (.tmp t)=y j)→(∀x,(match x with | .tmp t=>writer ops t=none | _=>True)→ρ x=a0.eval x) →
  B w→(∀j,o.after.toList.any (fun e=>e.on==j)=true→(ry l j).r y w) →
  if Region.wanted o (ik ρ ops)=true then dP P o ρ w (vC m l B i y w) else vC m l B i y w undef w
theorem Pj (m:Nat) (l:List tH) (B:World→Prop) (hbst:∀w w',Below w.heap.size w w'→B w→B w') (hok:jL ops=true) (ht:jd ops m=true) (hmn:m≤ops.size) (hon:RA ops m l=true) (hb0:B w0)
 (n:Nat) (hn:a0.tmps.size=n) (hsz:kV ops n=true)
 (hstep:bq (Ef P ops a0 m l B) 0 (ops.toList.take m))
 (hend:∀y w,B w→(∀i,i<m→(ry l i).r y w)→wpList P ops Q (ops.toList.drop m) { a0 with tmps:=lay (fun i=>decide (i<m)) y ops.toList 0 a0.tmps } w) :
  wpAny P .any ops Q ops.size (Array.replicate ops.size false) a0 w0:=by
 refine AV m l B hbst hok ht hmn hon hb0 (fun i o z hi y w hb hd => ?_) hend;have f:∀t j,writer ops t=some j→({ a0 with tmps:=lay (fun _=>true) y ops.toList 0 a0.tmps }:Act).eval (.tmp t)=y j:=by
  intro t j hw;unfold writer at hw;have h1:=rF hw;have h2:=bV.1 (pV hw);cases ho:ops[j]? with
  | none=>simp[ho] at h1
  | some p=>
   have a : p.dst=some t:=by simpa[ho] using h1
   have u:t<a0.tmps.size:=by have:=cK.1 hsz p (lG.2 (zk ho));rw[hn];simpa[a] using this
   have hu:∀k' o',ops.toList[k']?=some o'→o'.dst=some t→k' = j:=by
    intro k' o' b hc;rcases ((fw hok (i:=k') (o:=o') (by simpa using b)).2.2 j p t ho a).1 with h|h
    ·exact h
    ·exact absurd hc h
   have:=kR (fun _=>true) y t ops.toList 0 a0.tmps j p (by simpa using ho) a rfl hu u;simp[Act.eval,this]
 have s:∀x,(match x with | .tmp t=>writer ops t=none | _=>True)→({ a0 with tmps:=lay (fun _=>true) y ops.toList 0 a0.tmps }:Act).eval x=a0.eval x:=by
  intro x hx;cases x with
  | tmp t=>
   have:(lay (fun _=>true) y ops.toList 0 a0.tmps)[t]?=a0.tmps[t]?:=by
    refine iB _ y t _ 0 _ fun k o' hk a => ?_;exfalso;simp only[writer] at hx;have b : ops[k]?=some o':=by simpa using hk
    have e:k<ops.size:=(gN.1 b).1;have:=qz.1 hx k (bV.2 e);simp[b,a] at this
   simp[Act.eval,this]
  | _=>rfl
 have c:Region.wanted o (yielded ops (lay (fun _=>true) y ops.toList 0 a0.tmps))=Region.wanted o (ik ({ a0 with tmps:=lay (fun _=>true) y ops.toList 0 a0.tmps }:Act).eval ops):=by
  congr 1;funext g;unfold yielded ik;cases (ops[g]?).bind (·.dst) with
  | none=>rfl
  | some d=>
   simp only[xW,Act.eval,aW];generalize (lay (fun _=>true) y ops.toList 0 a0.tmps)[d]?=q;cases q with
   | none=>rfl
   | some v=>cases v<;>rfl
 have ha : (ops.toList.take m)[i]?=some o:=by rw[jN,if_pos z];simpa using hi
 have:=bq.at hstep i o ha _ y w f s hb hd;rw[dA] at this;rw[c];exact this
theorem QB (m:Nat) (l:List tH) (B:World→Prop) (hbst:∀w w',Below w.heap.size w w'→B w→B w') (hb0:B w0) (hm:P.follows .mixedOrders=true)
 (ops' : Array Oper) (hs:dE ops=ops') (hok:jL ops' = true) (ht:jd ops' m=true) (hmn:m≤ops'.size) (hon:RA ops' m l=true)
 (n:Nat) (hn:a0.tmps.size=n) (hsz:kV ops' n=true)
 (hstep:bq (Ef P ops' a0 m l B) 0 (ops'.toList.take m))
 (hend:∀y w,B w→(∀i,i<m→(ry l i).r y w)→wpList P ops' Q (ops'.toList.drop m) { a0 with tmps:=lay (fun i=>decide (i<m)) y ops'.toList 0 a0.tmps } w) :
  (Code.region id ops true).wp P Q a0 w0:=by
 refine wp_region_any hm (zR _ _ _ _ ?_);subst hs;have h2:B { w0 with drawn:=w0.drawn+1 }:=hbst w0 _ ⟨rfl,rfl,rfl,az _,fun _ _=>rfl⟩ hb0;have:=Pj m l B hbst hok ht hmn hon h2 n hn hsz hstep hend;rw[xU] at this;exact this
theorem SI (y:Nat→Value) (i:Nat) (v:Value):upd y i v i=v:=by unfold upd;rw[if_pos rfl]
theorem nJ {m:Nat} {l:List tH} {B:World→Prop} (hbst:∀w w',Below w.heap.size w w'→B w→B w') (hB:B w) (hb:Below w.heap.size w w') (hR:(ry l i).r (upd y i v) w'):vC m l B i y w v w':=
 ⟨hbst _ _ hb hB,hR,fun k _ _ h=>(ry l k).st _ _ _ hb h⟩
theorem eP {m:Nat} {l:List tH} {B:World→Prop} (hbst:∀w w',Below w.heap.size w w'→B w→B w') (hB:B w) (R:nG) (hR:∀v w',R.r v w'→(ry l i).r (upd y i v) w')
 (h:if Region.wanted o (ik ρ ops)=true then dP P o ρ w (fun v w'=>Below w.heap.size w w'∧rl (List.replicate (i+1) R) i v w') else rl (List.replicate (i+1) R) i undef w) :
  if Region.wanted o (ik ρ ops)=true then dP P o ρ w (vC m l B i y w) else vC m l B i y w undef w:=by
 have e:∀v w,rl (List.replicate (i+1) R) i v w=R.r v w:=by intro v w;unfold rl;rw[bM,rV,if_pos (by omega)];rfl
 simp only[e] at h
 by_cases hw:Region.wanted o (ik ρ ops)=true
 ·rw[if_pos hw] at h ⊢;unfold dP at h ⊢;generalize (execOp ρ o).run P w=q at h ⊢;cases q with
  | ok n w'=>
   cases n with
   | value v=>exact nJ hbst hB h.1 (hR _ _ h.2)
   | skip=>exact nJ hbst hB h.1 (hR _ _ h.2)
   | enter f args=>
    refine wL h fun e w'' he => ?_;cases e
    case returned v=>exact nJ hbst hB he.1 (hR _ _ he.2)
    all_goals exact he
   | _=>exact h
  | halt x w'=>exact h
 rw[if_neg hw] at h ⊢;exact nJ hbst hB (Below.refl _ _) (hR _ _ h)
def eO (B:Nat) (T:TypeId) (n:Nat):nG:=⟨fun v w => ∃g cs,v = .pointer (some ⟨g,0,none⟩)∧B≤g∧aJ w g cs T∧cs.size=n,fun _ _ _ hb ⟨g,cs,h1,h2,h3,h4⟩=>⟨g,cs,h1,h2,h3.ext hb,h4⟩⟩
theorem iy {n:Nat} (h:(eO B T n).r v w) (hg:aJ w' g cs T') (hsz:T=T'→cs.size=n) (hold:∃cur,aJ w g cur T') (hgr:w.grownBy w' (some g)):(eO B T n).r v w':=by
 obtain⟨g',cs',h1,h2,h3,h4⟩:=h
 by_cases e:g' = g
 ·subst e;obtain⟨cur,hc⟩:=hold;have e2:T=T':=by unfold aJ at h3 hc;rw[hc] at h3;simp only[gY,pM] at h3;exact h3.2.1.symm
  subst e2;exact⟨g',cs,h1,h2,hg,hsz rfl⟩
 ·exact⟨g',cs',h1,h2,h3.grown hgr (fun e2=>e (aS e2).symm),h4⟩
theorem iZ {m:Nat} {l:List tH} {B:World→Prop} (hw:Region.wanted o (ik ρ ops)=true) (ty:TypeId) (x z:Operand) (ho:o.op = .store ty x z)
 (g off:Nat) (v:Value) (cells:List Value) (hx:ρ x = .pointer (some ⟨g,off,none⟩)) (hz:ρ z=v) (hc:v.cells.toList=cells) (cur:Array Value) (T:TypeId) (hg:aJ w g cur T)
 (hfit:off+cells.length≤cur.size) (hi:(P.info? ty).map (·.size)=some cells.length) (h1:∀u∈cells,u.oneCell' = true)
 (h:∀w',aJ w' g (dF cur off cells) T→w.grownBy w' (some g)→vC m l B i y w undef w') :
  if Region.wanted o (ik ρ ops)=true then dP P o ρ w (vC m l B i y w) else vC m l B i y w undef w:=by
 rw[if_pos hw];have a:=run_storeCells_cells (P:=P) g off cells 0 w
  (fun j hj=>by rw[kU,hg.cell];simp[show off+j<cur.size by omega]) (fun j hj=>hg.free _) h1
 simp only[kU] at a;have b:(storeVar ty ⟨g,off,none⟩ v).run P w = .ok () (w.setCells g off cells):=by
  cases hq:P.info? ty with
  | none=>simp[hq] at hi
  | some i=>
   have hs:i.size=cells.length:=by simpa[hq] using hi
   have hv:v.cells.size=cells.length:=by rw[←hc];simp
   simp[storeVar,Go.sizeOf,typeInfo,hq,hs,hv,hc,a]
 unfold dP execOp;simp only[ho,hx,hz,Instr.storeAt,Instr.sureAddr,jZ,pu,oZ,b];exact h _ (hg.setCells _ _) (aA _ _ _ _)
inductive SQ where
 | v (V:Value)
 | r (i:Nat) (R:nG)
 | y (i:Nat) (R:tH)
def rvyN:SQ:=.r 0 anyR
def rvyR:List SQ→Nat→List tH
 | [],_=>[]
 | .v V::l,i=>Xz i (gI V)::rvyR l (i+1)
 | .r _ R::l,i=>Xz i R::rvyR l (i+1)
 | .y _ R::l,i=>R::rvyR l (i+1)
def toRV:List SQ→List RV
 | []=>[]
 | .v V::l => .v V::toRV l
 | .r i _::l => .r i anyR::toRV l
 | .y i _::l => .r i anyR::toRV l
theorem rvy_at:∀(l:List SQ) (i k:Nat) {V:Value},l.getD i rvyN = .v V→(rvyR l k).getD i anyY=Xz (k+i) (gI V)∧(toRV l).getD i rvN = .v V
 | [],_,_,_,h=>by cases h
 | a::l,0,k,V,h=>by have h' : a = .v V:=h;subst h';exact⟨rfl,rfl⟩
 | a::l,i+1,k,V,h=>by have:=rvy_at l i (k+1) (V:=V) (by simpa using h);rw[show k+(i+1)=k+1+i by omega];cases a<;>exact⟨by simpa[rvyR] using this.1,by simpa[toRV] using this.2⟩
theorem rvy_rl:∀(l:List SQ) (j k:Nat) {y:Nat→Value} {w:World},((rvyR l k).getD j anyY).r y w→rl (rvs (toRV l)) j (y (k+j)) w
 | [],_,_,_,_,_=>by unfold rl toRV rvs;simp[anyR]
 | a::l,0,k,y,w,h=>by
  cases a with
  | v V=>exact h
  | r i R=>exact trivial
  | y i R=>exact trivial
 | a::l,j+1,k,y,w,h=>by
  have h' : ((rvyR l (k+1)).getD j anyY).r y w:=by cases a<;>simpa[rvyR] using h
  have:=rvy_rl l j (k+1) h';rw[show k+(j+1)=k+1+j by omega];unfold rl at this ⊢;cases a<;>simpa[toRV,rvs] using this
section
variable {P:Program} {ops:Array Oper} {a0:Act} {m:Nat} {l:List SQ} {B:World→Prop} {i:Nat} {o:Oper} {r:List Oper}
theorem xM (hbst:∀w w',Below w.heap.size w w'→B w→B w') (hv:l.getD i rvyN = .v V)
 (h:∀ρ y w,B w→Kn ops a0 (toRV l) o ρ y w→(Region.wanted o (ik ρ ops)=false∧V=undef)∨(Region.wanted o (ik ρ ops)=true∧(execOp ρ o).run P w = .ok (.value V) w)):Ef P ops a0 m (rvyR l 0) B i o:=fun ρ y w hw hn hB hd=>by
 have hk:Kn ops a0 (toRV l) o ρ y w:=⟨hw,hn,fun j hj=>by have:=rvy_rl l j 0 (hd j hj);rwa [dA] at this⟩;have e:∀w',(ry (rvyR l 0) i).r (upd y i V) w':=fun w'=>by unfold ry;rw[(rvy_at l i 0 hv).1,dA];exact SI _ _ _
 rcases h ρ y w hB hk with ⟨h1,h2⟩|⟨h1,h2⟩
 ·rw[if_neg (by rw[h1];exact Bool.false_ne_true),←h2];exact nJ hbst hB (Below.refl _ _) (e w)
 rw[if_pos h1];unfold dP;rw[h2];exact nJ hbst hB (Below.refl _ _) (e w)
theorem Al.runY (hv:l.getD i rvyN = .v V) (h:Al P ops a0 (toRV l) i o):∀ρ y w,Kn ops a0 (toRV l) o ρ y w→(Region.wanted o (ik ρ ops)=false∧V=undef)∨(Region.wanted o (ik ρ ops)=true∧(execOp ρ o).run P w = .ok (.value V) w):=fun ρ y w hk=>by
 have e:∀v w,rl (rvs (toRV l)) i v w→v=V:=fun v w hr=>by unfold rl at hr;rw[rvs_at,(rvy_at l i 0 hv).2] at hr;exact hr
 rcases h ρ y w hk with ⟨h1,h2⟩|⟨h1,v,h2,h3⟩
 ·exact .inl ⟨h1,(e _ _ h2).symm⟩
 ·exact .inr ⟨h1,by rw[←e _ _ h3];exact h2⟩
abbrev AY (P:Program) (ops:Array Oper) (a0:Act) (m:Nat) (l:List SQ) (B:World→Prop) (i:Nat) (r:List Oper):Prop:=bq (Ef P ops a0 m (rvyR l 0) B) i r
theorem Qh (hbst:∀w w',Below w.heap.size w w'→B w→B w') (hv:l.getD i rvyN = .v V) (h:Al P ops a0 (toRV l) i o):Ef P ops a0 m (rvyR l 0) B i o:=xM hbst hv fun ρ y w _ hk=>h.runY hv ρ y w hk
theorem Yk (hbst:∀w w',Below w.heap.size w w'→B w→B w') (h:(ks ops a0 (toRV l) o).map SQ.v=some (l.getD i rvyN)) (hl:AY P ops a0 m l B (i+1) r):AY P ops a0 m l B i (o::r):=by
 cases hk:ks ops a0 (toRV l) o with
 | none=>rw[hk] at h;cases h
 | some V=>
  rw[hk] at h;have hv:=(aS h).symm;exact⟨Qh hbst hv (Vd hk (rvy_at l i 0 hv).2),hl⟩
theorem Yf (hbst:∀w w',Below w.heap.size w w'→B w→B w') (b k:Nat) (h:Wi ops a0 (toRV l) o=some (t,v,f)) (hv:l.getD i rvyN = .v (.pointer (some ⟨b,k,none⟩))) (hl:AY P ops a0 m l B (i+1) r) (hf:∀w,(Instr.fieldAt t v f).run P w = .ok (.pointer (some ⟨b,k,none⟩)) w:=by intro _;kernel_rfl):AY P ops a0 m l B i (o::r):=
 ⟨(Mc (C:=fun i o=>Al P ops a0 (toRV l) i o) (r:=[]) id b k h (rvy_at l i 0 hv).2 trivial hf).1 |> Qh hbst hv,hl⟩
theorem Yb (hbst:∀w w',Below w.heap.size w w'→B w→B w') (V:Value) {op:BinOp} {y:Operand} (hr:∀w,(do eqGuard op t x y vx vy;binOp op t vx vy:Sem Value).run P w = .ok V w) (hg:kg ops a0 (toRV l) o=some true) (ho:o.op = .binOp op t x y t') (hx:kx ops a0 (toRV l) o x=some vx) (hy:kx ops a0 (toRV l) o y=some vy) (hv:l.getD i rvyN = .v V) (hl:AY P ops a0 m l B (i+1) r):AY P ops a0 m l B i (o::r):=
 ⟨Qh hbst hv (Al.run hg (rvy_at l i 0 hv).2 fun ρ y w hk=>Nj ho (aU hx hk) (aU hy hk) (hr w)),hl⟩
theorem Yr (hbst:∀w w',Below w.heap.size w w'→B w→B w') (V:Value) (h:∀ρ y w,B w→Kn ops a0 (toRV l) o ρ y w→(execOp ρ o).run P w = .ok (.value V) w) (hg:kg ops a0 (toRV l) o=some true) (hv:l.getD i rvyN = .v V) (hl:AY P ops a0 m l B (i+1) r):AY P ops a0 m l B i (o::r):=
 ⟨xM hbst hv fun ρ y w hB hk => .inr ⟨Ec hg hk,h ρ y w hB hk⟩,hl⟩
theorem Yc (hbst:∀w w',Below w.heap.size w w'→B w→B w') (V:Value) (hc:∀w,B w→w.cell? ⟨b,k,none⟩=some V) (hg:kg ops a0 (toRV l) o=some true) (ho:o.op = .load t x) (hx:kx ops a0 (toRV l) o x=some (.pointer (some ⟨b,k,none⟩))) (hv:l.getD i rvyN = .v V) (hl:AY P ops a0 m l B (i+1) r) (hs:WB P t=true:=by kernel_rfl):AY P ops a0 m l B i (o::r):=
 ⟨xM hbst hv fun ρ y w hB hk => .inr ⟨Ec hg hk,run_load ho (aU hx hk) (by simp only[Instr.loadAt,Instr.sureAddr,jZ,pu,oZ,qA hs (hc w hB)])⟩,hl⟩
end
theorem toRV_len:∀l:List SQ,(toRV l).length=l.length
 | []=>rfl
 | a::l=>by cases a<;>simp[toRV,toRV_len l]
theorem bA :∀w w',Below w.heap.size w w'→Below w0.heap.size w0 w→Below w0.heap.size w0 w':=fun _ _ h h2=>ah h2 h
theorem gH {df:List Deferred} (m:Nat) (l:List SQ) (B:World→Prop) (hbst:∀w w',Below w.heap.size w w'→B w→B w') (hb0:B w0)
 (hstep:AY P (dE ops) ⟨t0,df⟩ m l B 0 ((dE ops).toList.take m)) {tm:(Nat→Value)→List Value} (hf:∀y,zn y (toRV l) (dE ops).toList t0.toList=some (tm y)) (hd:wr ((dE ops).toList.drop m)=some rest)
 (hend:∀y w,B w→(∀i,i<m→(ry (rvyR l 0) i).r y w)→wpList P (dE ops) Q rest ⟨(tm y).toArray,df⟩ w)
 (hm:P.follows .mixedOrders=true:=by kernel_rfl) (hok:jL (dE ops)=true:=by kernel_rfl) (ht:jd (dE ops) m=true:=by kernel_rfl) (hmn:m≤(dE ops).size:=by decide) (hon:RA (dE ops) m (rvyR l 0)=true:=by kernel_rfl) (hll:l.length=m:=by rfl) (hix:idxOk (toRV l) 0=true:=by kernel_rfl)
 (hsz:kV (dE ops) t0.size=true:=by kernel_rfl):(Code.region id ops true).wp P Q ⟨t0,df⟩ w0:=by
 refine QB m (rvyR l 0) B hbst hb0 hm (dE ops) rfl hok ht hmn hon _ rfl hsz hstep fun y w hb hR => ?_;have h:=hend y w hb hR;rw[Rq hd];have e:=yz (m:=m) (y:=y) (w:=w) (toRV l) (dE ops).toList 0 t0 hix (by rw[toRV_len,hll,dA]) (by rw[toRV_len,hll,kH];exact hmn) fun i hi=>by have:=rvy_rl l i 0 (hR i (by rw[toRV_len,hll] at hi;exact hi));rw[dA] at this ⊢;exact this
 show wpList P (dE ops) Q rest ⟨lay (fun i=>decide (i<m)) y (dE ops).toList 0 t0,df⟩ w;have e2:=aS (e.symm.trans (hf y));have e3:lay (fun i=>decide (i<m)) y (dE ops).toList 0 t0=(tm y).toArray:=by rw[←e2]
 rw[e3];exact h
theorem dP.mono {F G:Value→World→Prop} (h:dP P o ρ w F) (hFG:∀v w',F v w'→G v w'):dP P o ρ w G:=by
 unfold dP at h ⊢;generalize (execOp ρ o).run P w=r at h ⊢;cases r with
 | ok n w'=>
  cases n with
  | value v=>exact hFG _ _ h
  | skip=>exact hFG _ _ h
  | enter f args=>
   refine wL h fun e w'' he => ?_;cases e with
   | returned v=>exact hFG _ _ he
   | panicked c=>exact he.elim
   | outgrown=>exact he.elim
  | _=>exact h.elim
 | halt x w'=>exact h.elim
def WV (ops:Array Oper) (m:Nat):Bool:=
 ((List.range m).all fun j=>(mX ops ops.size m).contains j)&&(List.range ops.size).all fun i=>decide (i≤m)||(mX ops ops.size i).contains m
def Wt (ops:Array Oper) (m k1:Nat) (R:Nat→Value→World→Prop) (B:World→Prop) (a0:Act) (w0:World) (listed:Array Bool) (a:Act) (w:World):Prop:=
 (∀i,k1≤i→listed.getD i false=false)∧(∀i o,ops[i]?=some o→listed.getD i false=true→∀e∈o.after,listed.getD e.on false=true)∧∃y:Nat→Value,a = { a0 with tmps:=lay (fun i=>listed.getD i false) y ops.toList 0 a0.tmps }∧B w∧(listed.getD m false=false→Below w0.heap.size w0 w) ∧
  ∀i,i<ops.size→listed.getD i false=true→(listed.getD m false=true→m≤i)→R i (y i) w
theorem AR (m k1:Nat) (hm:P.follows .mixedOrders=true) (hok:jL ops=true) (ht:jd ops k1=true) (hd:WV ops m=true) (hmk:m<k1) (hmn:k1≤ops.size)
 (R:Nat→Value→World→Prop) (hstab:∀i v w w',Below w.heap.size w w'→R i v w→R i v w') (B:World→Prop) (hbst:∀w w',Below w.heap.size w w'→B w→B w') (hb0:∀w,Below w0.heap.size w0 w→B w)
 (hstep:∀i o,i<k1→ops[i]?=some o→∀y w,B w→(i≤m→Below w0.heap.size w0 w)→(∀j,o.after.toList.any (fun e=>e.on==j)=true→(m<i→m≤j)→R j (y j) w)→(i=m→∀j,j<m→R j (y j) w) →
 if Region.wanted o (yielded ops (lay (fun _=>true) y ops.toList 0 a0.tmps))=true then Gives P o { a0 with tmps:=lay (fun _=>true) y ops.toList 0 a0.tmps } w (fun v w'=>(i=m→B w')∧(i≠m→Below w.heap.size w w')∧R i v w') else i≠m∧R i undef w)
 (hend:∀y w,B w→(∀i,m≤i→i<k1→R i (y i) w)→wpList P ops Q (ops.toList.drop k1) { a0 with tmps:=lay (fun i=>decide (i<k1)) y ops.toList 0 a0.tmps } w) :
  (Code.region id ops true).wp P Q a0 w0:=by
 have hT:∀j,j<m→(mX ops ops.size m).contains j=true:=fun j hj=>by unfold WV at hd;rw[dh] at hd;exact cK.1 hd.1 j (bV.2 hj)
 have hU:∀i,i<ops.size→m<i→(mX ops ops.size i).contains m=true:=fun i hi f=>by
  unfold WV at hd;rw[dh] at hd;have:=cK.1 hd.2 i (bV.2 hi);simp only[qJ,decide_eq_true_eq] at this;rcases this with h|h
  ·omega
  ·exact h
 have hV:∀(fuel:Nat) (listed:Array Bool) (a:Act) (w:World),listed.size=ops.size→listed.toList.countP (!·)≤fuel→Wt ops m k1 R B a0 w0 listed a w→wpAny P .any ops Q fuel listed a w:=by
  intro fuel
  induction fuel with
  | zero=>
   intro listed a w hf hc hA;have hl:∀i,i<ops.size→listed.getD i false=true:=by
    intro i hw;have h0:listed.toList.countP (!·)=0:=by omega
    have:=uz.1 h0 (listed[i]'(by omega)) (by simp);simpa[aW,show i<listed.size by omega] using this
   obtain⟨hn,u,y,ha,hB,hb,hR⟩:=hA;have d : k1=ops.size:=by
    rcases fM k1 ops.size with h|h
    ·have h1:=hl k1 h;rw[hn k1 (az _)] at h1;cases h1
    ·omega
   refine nQ (m:=k1) hok ht 0 ops.size listed a w (by omega) (az _) (by omega) hf (fun i hi=>by rw[hl i hi];simp[hi]) ?_;have:=hend y w hB fun i f hi=>hR i (by omega) (hl i (by omega)) (fun _=>f);rw[ha,mH (fun i=>listed.getD i false) (fun i=>decide (i<k1)) y ops.toList 0 a0.tmps (fun k hk=>by
    have h4 : k<ops.size:=by simpa using hk
    simp only[dA];rw[hl k h4];simp;omega)]
   rw[d] at this ⊢;exact this
  | succ fuel ih=>
   intro listed a w hf hc hA
   by_cases hfull:∀i,i<k1→listed.getD i false=true
   ·obtain⟨hn,u,y,ha,hB,hb,hR⟩:=hA;have hL:∀i,i<ops.size→listed.getD i false=decide (i<k1):=by
     intro i hi
     by_cases him:i<k1
     ·rw[hfull i him];simp[him]
     ·rw[hn i (by omega)];simp[him]
    have hy:ops.size-k1≤fuel+1:=by
     have h1:listed.toList.countP (!·)=ops.size-k1:=by
      have e:listed.toList=List.replicate k1 true++List.replicate (ops.size-k1) false:=by
       apply nO;intro i
       by_cases hi:i<ops.size
       ·have h2:=hL i hi;rw[oP,tY (show i<listed.size by omega)];simp only[aW,tY (show i<listed.size by omega),rQ] at h2;rw[h2]
        by_cases him:i<k1
        ·rw[il (by simpa using him)];simp[him]
        rw[iN (by simp;omega)];rw[pQ,rV,if_pos (by omega)];simp[him]
       ·rw[fo (by simp;omega),fo (by simp;omega)]
      rw[e];simp[BA,GU]
     omega
    refine nQ (m:=k1) hok ht (fuel+1) k1 listed a w (az _) hmn hy hf hL ?_;have:=hend y w hB fun i f hi=>hR i (by omega) (hfull i hi) (fun _=>f);rw[ha,mH (fun i=>listed.getD i false) (fun i=>decide (i<k1)) y ops.toList 0 a0.tmps (fun k hk=>by simp only[dA];exact hL k (by simpa using hk))];exact this
   have hh:Region.ready .any ops listed≠[]:=by
    intro hu;apply hfull;intro i
    induction i using Nat.strongRecOn with
    | ind i ih'=>
     intro him
     by_cases hc' : listed.getD i false=true
     ·exact hc'
     exfalso;have hi:i<ops.size:=by omega
     have hC:i∈Region.ready .any ops listed:=by
      rw[mem_ready];refine⟨?_,ops[i],by simp[hi],fun e he _ => ?_⟩
      ·simpa[aW,show i<listed.size by omega] using hc'
      have:=(fw hok (i:=i) (o:=ops[i]) (by simp[hi])).2.1 e he;exact ih' e.on this.2 (by omega)
     rw[hu] at hC;cases hC
   refine⟨fun h=>absurd h hh,fun i hi => ?_⟩;obtain⟨h1,o,ho,hG⟩:=mem_ready.1 hi;have hw:i<ops.size:=(gN.1 ho).1;obtain⟨hJ,r,_⟩:=fw hok ho;have hL:∀e∈o.after,listed.getD e.on false=true:=fun e he=>hG e he (r e he).1;have him:i<k1:=by
    rcases fM i k1 with h|h
    ·exact h
    exfalso;apply hfull;intro j hj;exact qI ht hA.2.1 ho hL h j (by omega)
   obtain⟨hn,u,y,ha,hB,hb,hR⟩:=hA;have hE:listed.getD i false=false:=by simpa[aW,show i<listed.size by omega] using h1
   have aheadL:∀q,q<ops.size→(∀o',ops[q]?=some o'→∀e∈o'.after,listed.getD e.on false=true)→∀j,(mX ops ops.size q).contains j=true→listed.getD j false=true:=fun q _ hq j hj=>pY u ops.size q hq j (by simpa using hj);have hW:∀o',ops[i]?=some o'→∀e∈o'.after,listed.getD e.on false=true:=fun o' c=>by rw[ho] at c; cases c; exact hL
   have hD:i≤m→listed.getD m false=false:=fun b=>by
    by_cases f:i=m
    ·rw[←f];exact hE
    cases hlm:listed.getD m false
    ·rfl
    have:=aheadL m (by omega) (fun o' c=>u m o' c hlm) i (hT i (by omega));rw[hE] at this;cases this
   have h8:m<i→listed.getD m false=true:=fun f=>aheadL i hw hW m (hU i hw f);have hI : i=m→∀j,j<m→listed.getD j false=true:=fun b j hj=>by subst b;exact aheadL i hw hW j (hT j hj)
   have hK:i=m→∀k,m<k→k<ops.size→listed.getD k false=false:=fun b k hk hO=>by
    cases hlk:listed.getD k false
    ·rfl
    have:=aheadL k hO (fun o' c=>u k o' c hlk) m (hU k hO hk);rw[←b,hE] at this;cases this
   have hp:∀v w',((i=m→B w')∧(i≠m→Below w.heap.size w w')∧R i v w')→wpAny P .any ops Q fuel (listed.setIfInBounds i true) (a.put o.dst v) w':=by
    rintro v w' ⟨hX,hH,hv⟩;have hN:i≠m→(listed.setIfInBounds i true).getD m false=listed.getD m false:=fun hY=>by simp only[aW,fO hY]
    have hM:i=m→(listed.setIfInBounds i true).getD m false=true:=fun he=>by subst he;simp[aW,show i<listed.size by omega]
    refine ih _ _ _ (by simp[hf]) ?_ ⟨fun k hk => ?_,fun k o' c hk e he => ?_,fun k=>if k=i then v else y k,?_,?_,fun d => ?_,?_⟩
    ·have hP:i<listed.toList.length:=by simp;omega
     have n:listed.toList[i]=false:=by simpa[aW,show i<listed.size by omega] using h1
     have:=FL (p:=(!·)) (l:=listed.toList) (i:=i) (a:=true) hP;rw[n] at this;have h7:0<listed.toList.countP (!·):=wz.2 ⟨listed.toList[i],eZ hP,by rw[n];rfl⟩;simp only[yu];simp only[FQ,Gv,if_true,pq,if_false] at this;omega
    ·have:=hn k hk;simp only[aW,fO (show i≠k by omega)] at this ⊢;exact this
    ·have up:∀q,listed.getD q false=true→(listed.setIfInBounds i true).getD q false=true:=by
      intro q hq
      by_cases hqi:q=i
      ·subst hqi;simp[aW,show q<listed.size by omega]
      ·simpa[aW,fO (kT hqi)] using hq
     apply up
     by_cases hki:k=i
     ·subst hki;rw[ho] at c;cases c;exact hL e he
     ·exact u k o' c (by simpa[aW,fO (kT hki)] using hk) e he
    ·rw[ha,Ca hok ho hf v]
    ·by_cases b : i=m
     ·exact hX b
     ·exact hbst _ _ (hH b) hB
    ·by_cases b : i=m
     ·rw[hM b] at d; cases d
     rw[hN b] at d;exact (hb d).trans ((hH b).mono (hb d).size)
    intro k hk h6 hz
    by_cases hki:k=i
    ·subst hki;simpa using hv
    have hlk:listed.getD k false=true:=by simpa[aW,fO (kT hki)] using h6
    simp only[hki,if_false]
    by_cases b : i=m
    ·exfalso;have h2:=hz (hM b);have h3:=hK b k (by omega) hk;rw[hlk] at h3;cases h3
    refine hstab _ _ _ _ (hH b) (hR k hk hlk fun hlm=>hz ?_);rw[hN b];exact hlm
   have hr:∀t∈o.looksAt ops,a.tmps[t]?=(lay (fun _=>true) y ops.toList 0 a0.tmps)[t]?:=fun t ht=>by rw[ha];exact wP hok ho hL t ht
   have hF:execOp a.eval o=execOp ({ a0 with tmps:=lay (fun _=>true) y ops.toList 0 a0.tmps }:Act).eval o:=by
    refine execOp_congr o hJ fun x hx => ?_;cases x with
    | tmp t=>
     have:=hr t (uI _ (Bb.2 ⟨.tmp t,by simpa using hx,rfl⟩));simp[Act.eval,this]
    | _=>rfl
   have z:Region.wanted o (yielded ops a.tmps)=Region.wanted o (yielded ops (lay (fun _=>true) y ops.toList 0 a0.tmps)):=by
    unfold Region.wanted;cases hg:o.guard with
    | none=>rfl
    | some gw=>
     obtain⟨g,want⟩:=gw;have:yielded ops a.tmps g=yielded ops (lay (fun _=>true) y ops.toList 0 a0.tmps) g:=by
      unfold yielded;cases hd:(ops[g]?).bind (·.dst) with
      | none=>rfl
      | some t=>
       have:=hr t (uQ _ (by simp[hg,hd]));simp[this]
     simp only[this]
   have hs:=hstep i o him ho y w hB (fun h=>hb (hD h)) (fun j hj hZ=>by
    obtain⟨e,he,h5⟩:=jO.1 hj;have hQ : e.on=j:=by simpa using h5
    subst hQ;have hS:=lG.1 he;refine hR e.on (by have:=(r e hS).2;omega) (hL e hS) (fun hlm => ?_);rcases fM m i with h|h
    ·exact hZ h
    ·rw[hD h] at hlm;cases hlm) (fun b j hj=>hR j (by omega) (hI b j hj) (fun hlm=>by rw[hD (by omega)] at hlm;cases hlm))
   by_cases hwt:Region.wanted o (yielded ops (lay (fun _=>true) y ops.toList 0 a0.tmps))=true
   ·rw[if_pos hwt] at hs;exact nS ho (by rw[z];exact hwt) hF hs fun v w' h=>hp v w' h
   rw[if_neg hwt] at hs;unfold wpOp;simp only[ho];rw[if_neg (by rw[z];exact hwt)];exact hp undef w ⟨fun h=>absurd h hs.1,fun _=>Below.refl _ _,hs.2⟩
 refine wp_region_any hm (hV ops.size _ _ _ (by simp) ?_ ⟨fun i _ => ?_,fun i o' c hi => ?_,fun _=>undef,?_,hb0 _ ⟨rfl,rfl,rfl,az _,fun _ _=>rfl⟩,fun _ => ?_,?_⟩)
 ·simpa using wG (p:=(!·)) (l:=List.replicate ops.size false)
 ·simp[aW,qM];split<;>rfl
 ·exfalso;have:i<ops.size:=(gN.1 c).1;simp[aW,this] at hi
 ·have e:lay (fun i=>(Array.replicate ops.size false).getD i false) (fun _=>undef) ops.toList 0 a0.tmps=a0.tmps:=by apply oO;intro s;exact iB _ _ s _ 0 _ fun k o' hk hd=>by simp[aW,qM];split<;>rfl
  rw[e]
 ·exact⟨rfl,rfl,rfl,az _,fun _ _=>rfl⟩
 intro i hi hL _;simp[aW,hi] at hL
def VH (P:Program) (ops:Array Oper) (a0:Act) (l:List nG) (m:Nat) (B:World→Prop) (i:Nat) (o:Oper):Prop:=
 ∀(ρ:Operand→Value) (y:Nat→Value) (w:World),(∀t j,writer ops t=some j→ρ (.tmp t)=y j)→(∀x,(match x with | .tmp t=>writer ops t=none | _=>True)→ρ x=a0.eval x) →
  B w→(∀j,(o.after.toList.any (fun e=>e.on==j)&&decide (m≤j))=true→rl l j (y j) w) →
  if Region.wanted o (ik ρ ops)=true then dP P o ρ w (fun v w'=>Below w.heap.size w w'∧rl l i v w') else rl l i undef w
theorem Im (m k1:Nat) (l:List nG) (B:World→Prop) (hbst:∀w w',Below w.heap.size w w'→B w→B w') (hb0:∀w,Below w0.heap.size w0 w→B w) (hm:P.follows .mixedOrders=true) (hok:jL ops=true) (ht:jd ops k1=true) (hd:WV ops m=true) (hmk:m<k1) (hmn:k1≤ops.size)
 (n:Nat) (hn:a0.tmps.size=n) (hsz:kV ops n=true)
 (hstep:bq (nE P ops a0 w0 l) 0 (ops.toList.take m)) (hstep2:bq (VH P ops a0 l m B) (m+1) ((ops.toList.drop (m+1)).take (k1-(m+1))))
 (hmid:∀(ρ:Operand→Value) (y:Nat→Value) (w:World) (o:Oper),ops[m]?=some o→(∀t j,writer ops t=some j→ρ (.tmp t)=y j)→(∀x,(match x with | .tmp t=>writer ops t=none | _=>True)→ρ x=a0.eval x) →
 Below w0.heap.size w0 w→(∀i,i<m→rl l i (y i) w)→Region.wanted o (ik ρ ops)=true∧dP P o ρ w fun v w'=>B w'∧rl l m v w')
 (hend:∀y w,B w→(∀i,m≤i→i<k1→rl l i (y i) w)→wpList P ops Q (ops.toList.drop k1) { a0 with tmps:=lay (fun i=>decide (i<k1)) y ops.toList 0 a0.tmps } w) :
  (Code.region id ops true).wp P Q a0 w0:=by
 refine AR m k1 hm hok ht hd hmk hmn (rl l) (fun i v w w' hb h=>(l.getD i anyR).st v w w' hb h) B hbst hb0 (fun i o hf hi y w hB hb hd ha => ?_) hend;have c:∀t j,writer ops t=some j→({ a0 with tmps:=lay (fun _=>true) y ops.toList 0 a0.tmps }:Act).eval (.tmp t)=y j:=by
  intro t j hw;unfold writer at hw;have h1:=rF hw;have h2:=bV.1 (pV hw);cases ho:ops[j]? with
  | none=>simp[ho] at h1
  | some p=>
   have a : p.dst=some t:=by simpa[ho] using h1
   have z:t<a0.tmps.size:=by have:=cK.1 hsz p (lG.2 (zk ho));rw[hn];simpa[a] using this
   have hu:∀k' o',ops.toList[k']?=some o'→o'.dst=some t→k' = j:=by
    intro k' o' b hc;rcases ((fw hok (i:=k') (o:=o') (by simpa using b)).2.2 j p t ho a).1 with h|h
    ·exact h
    ·exact absurd hc h
   have:=kR (fun _=>true) y t ops.toList 0 a0.tmps j p (by simpa using ho) a rfl hu z;simp[Act.eval,this]
 have r:∀x,(match x with | .tmp t=>writer ops t=none | _=>True)→({ a0 with tmps:=lay (fun _=>true) y ops.toList 0 a0.tmps }:Act).eval x=a0.eval x:=by
  intro x hx;cases x with
  | tmp t=>
   have:(lay (fun _=>true) y ops.toList 0 a0.tmps)[t]?=a0.tmps[t]?:=by
    refine iB _ y t _ 0 _ fun k o' hk a => ?_;exfalso;simp only[writer] at hx;have b : ops[k]?=some o':=by simpa using hk
    have u:k<ops.size:=(gN.1 b).1;have:=qz.1 hx k (bV.2 u);simp[b,a] at this
   simp[Act.eval,this]
  | _=>rfl
 have f:Region.wanted o (yielded ops (lay (fun _=>true) y ops.toList 0 a0.tmps))=Region.wanted o (ik ({ a0 with tmps:=lay (fun _=>true) y ops.toList 0 a0.tmps }:Act).eval ops):=by
  congr 1;funext g;unfold yielded ik;cases (ops[g]?).bind (·.dst) with
  | none=>rfl
  | some d=>
   simp only[xW,Act.eval,aW];generalize (lay (fun _=>true) y ops.toList 0 a0.tmps)[d]?=q;cases q with
   | none=>rfl
   | some v=>cases v<;>rfl
 rw[f];rcases Nat.lt_trichotomy i m with h|h|h
 ·have s : (ops.toList.take m)[i]?=some o:=by rw[jN,if_pos h];simpa using hi
  have:=bq.at hstep i o s _ y w c r (hb (by omega)) (fun j hj=>hd j hj (fun h'=>by omega));rw[dA] at this;split at this
  ·rename_i hw;rw[if_pos hw];exact dP.mono this fun v w' hv=>⟨fun e=>by omega,fun _=>hv.1,hv.2⟩
  rename_i hw;rw[if_neg hw];exact⟨by omega,this⟩
 ·subst h;obtain⟨hw,hg⟩:=hmid _ y w o hi c r (hb (az _)) (ha rfl);rw[if_pos hw];exact dP.mono hg fun v w' hv=>⟨fun _=>hv.1,fun e=>absurd rfl e,hv.2⟩
 have s : ((ops.toList.drop (m+1)).take (k1-(m+1)))[i-(m+1)]?=some o:=by rw[jN,if_pos (by omega),nK,show m+1+(i-(m+1))=i by omega];simpa using hi
 have:=bq.at hstep2 (i-(m+1)) o s _ y w c r hB (fun j hj=>by rw[dh,decide_eq_true_eq] at hj;exact hd j hj.1 (fun _=>hj.2));rw[show m+1+(i-(m+1))=i by omega] at this;split at this
 ·rename_i hw;rw[if_pos hw];exact dP.mono this fun v w' hv=>⟨fun e=>by omega,fun _=>hv.1,hv.2⟩
 rename_i hw;rw[if_neg hw];exact⟨by omega,this⟩
end Pw
namespace Go.Proofs.YtpaeabelhnnbiaaGreat
open _root_.Go.Proofs.Tryz
open Go.RowKit Pw
variable {B B' b c cb cq g k off q r sz:Nat} {P:Program} {Q:Exit → Act → World → Prop} {T e ty:TypeId} {a ab aq:Option Addr} {ca cs cs':Array Value} {d:sK} {l:List Int} {o:Oper} {ops:Array Oper} {rest:List Oper} {v vb vq:Value} {vs xs:List Value} {w w' w0 w4 w5:World} {x:Operand} {ρ:Operand → Value}
theorem int_info:(Tryz.prog.info? 3).map (fun i=>(i.zero,i.size,i.bytes))=some (some (.int .i64 0),1,8):=by kernel_rfl
theorem int_size:(Tryz.prog.info? 3).map (·.size)=some 1:=by kernel_rfl
theorem Iu (l:List Int):(l.map iI).length=l.length*1:=by simp
theorem IU (l:List Int):∀u∈l.map iI,u.oneCell' = true:=by
 intro u hu;obtain⟨_,_,rfl⟩:=eD.1 hu;rfl
theorem VI (l:List Int) (k:Nat) (h:k<l.length):(l.map iI)[k]?=some (.int .i64 l[k]):=by simp[h,iI]
theorem lm (h:eB w a (l.map iI)) (k:Nat) (hk:k<l.length):∃b off,a=some ⟨b,off,none⟩∧w.cell? ⟨b,off+k,none⟩=some (.int .i64 l[k]):=by
 obtain⟨b,off,ha,hc⟩:=h.at (by simp;omega);exact⟨b,off,ha,hc _ _ (VI l k hk)⟩
open Go.Maps
theorem int_key:Keyed Tryz.prog 3:=int_keyed underlying3
theorem LD (w:World):(zeroValue 4).run Tryz.prog w = .ok (.bool false) w:=by kernel_rfl
theorem xL {H:Type} {x:Bool} {ps:List MemPlace} (h:plainElem (H:=H) Tryz.prog 4 v=some (.lit (.bool x),ps)):v = .bool x:=by
 unfold plainElem at h;rw[underlying4] at h;split at h<;>simp_all
def mU (w:World) (b n:Nat) (f:Int→Bool):Prop:=∃D:DataW Unit,w.ownsMap Tryz.prog 3 (plainElem Tryz.prog 4) b n D∧Vp D f
theorem mU.made (w:World):mU (w.alloc (.map #[] 0)) w.heap.size 0 (fun _=>false):=⟨_,World.ownsMap_made (H:=Unit) w Tryz.prog 3 (plainElem Tryz.prog 4),Vp.empty⟩
theorem mU.below {n:Nat} {f:Int→Bool} (h:mU w b n f) (hb:Below w.heap.size w w'):mU w' b n f:=by
 obtain⟨D,h1,h2⟩:=h;exact⟨D,Lv h1 hb,h2⟩
theorem mU.look {n:Nat} {f:Int→Bool} (h:mU w b n f) (j:Int) (hj : -9223372036854775808≤j∧j≤9223372036854775807):(Instr.lookup 201 (.map (some b)) (.int .i64 j) false).run Tryz.prog w = .ok (.bool (f j)) w:=by
 obtain⟨D,h0,hf⟩:=h;obtain⟨v,ps,h1,h2⟩:=h0.lookup int_key underlying201 (LD w) (plainElem_bool underlying4 false) (keyOf_int_mk underlying3 (a:=j) (WalkArith.wf_i64 hj));rw[hf.at_ j] at h2;rw[xL h2] at h1;exact h1
theorem vY {a:Act} {n:Nat} {f:Int→Bool} (hown:mU w b n f) (hn:n<1000000000) (hg:o.guard=none) (m x v:Operand) (hop:o.op=Op.mapUpdate 201 m x v)
 (hm:a.eval m = .map (some b)) (j:Int) (hx:a.eval x = .int .i64 j) (hv:a.eval v = .bool true) (hj : -9223372036854775808≤j∧j≤9223372036854775807)
 (hK:∀w',mU w' b (n+1) (fun i=>f i||decide (i=j))→w.grownBy w' (some b)→wpList Tryz.prog ops Q rest (a.put o.dst undef) w'):wpList Tryz.prog ops Q (o::rest) a w:=by
 obtain⟨D,h0,hf⟩:=hown;exact wpList_mapUpdate_own _ hg m x v 201 hop 3 4 int_key underlying201 _ b n D hm h0 (by unfold maxLen;omega) _ _ _ hx hv (keyOf_int_mk underlying3 (WalkArith.wf_i64 hj)) _ [] (plainElem_bool underlying4 true) fun w' h1 h2=>hK w' ⟨_,h1,hf.put j⟩ h2
theorem mU.rdv {n:Nat} {f:Int→Bool} (h:mU w b n f) (hr:eB w a vs) (hg:w.grownBy w' (some b)):eB w' a vs:=by
 intro i u hi;obtain⟨b',off,ha,hc⟩:=hr i u hi;refine⟨b',off,ha,hg.cell hc ?_⟩;intro e;cases e;obtain⟨D,⟨es,clock,hb,_⟩,_⟩:=h;simp[World.cell?,hb] at hc
theorem Xh (m:World→Prop) (h:∀W,Below w.heap.size w W→mU W w.heap.size 0 (fun _=>false)→m W):m (w.alloc (.map #[] 0)):=
 h _ ((Below.refl _ _).alloc (az _) _) (mU.made w)
theorem Um (p:Page) (a:Int) (w:World) :
  Calls Tryz.prog 171 #[.agg (gQ p),.int .i64 a] w fun e w'=>e = .returned (.agg (gQ (cO p a)))∧Below w.heap.size w w':=by
 go_enter func171,ntmps171;go_wp2
 all_goals
  go_loopw [5] (fun i wr => ∃k:Nat,a≤k∧i = .int .i64 k∧wr=((w.alloc (.cells (gQ (vL p a k)) 100)).alloc (.cells #[.int .u8 0,.int .u8 0,.int .u8 0,.int .u8 0,.int .u8 0,.int .u8 0,.int .u8 0,.int .u8 0] 100))) (fun i _=>8-(intOf i).toNat)
  case atStart=>exact⟨a.toNat,by omega,by congr 1;omega,by rw[JV p a _ rfl]⟩
  case round=>
   obtain⟨k,ha,rfl,rfl⟩:=hrel
   by_cases hlt:k<8
   ·have hg:=HZ (vL p a k) k hlt;have hs:(gQ (vL p a k)).setIfInBounds k (.int .u8 0)=gQ (vL p a (k+1)):=by rw[←OP p a k hlt ha];exact Uo _ k hlt 0
    go_wp2;go_roundw
    case rel=>exact⟨k+1,by omega,by go_num,rfl⟩
    case measure=>simp[intOf];omega
   rw[Od p a k (by omega)];obtain⟨e0,e1,e2,e3,e4,e5,e6,e7⟩:=uO (cO p a);go_wp2;simp[bodyPost,results,go_sem,results171];exact⟨rfl,((Below.refl _ _).alloc (az _) _).alloc (by simp) _⟩
theorem byte_info:(Tryz.prog.info? 5).map (fun i=>(i.zero,i.size,i.bytes))=some (some (.int .u8 0),1,1):=by kernel_rfl
theorem Vv (p:Page) (a n:Nat) (w:World) (h1:a<8) (h2:n≤8-a) :
  Calls Tryz.prog 118 #[.agg (gQ p),.int .i64 a,.int .i64 n] w fun e w' => ∃v,e = .returned v∧Own w' w.heap.size 5 1 v n (((p.toList.drop a).take n).map oG)∧Below w.heap.size w w':=by
 have k1:(n:Int)≤8-(a:Int):=by omega
 have k2:(a:Int)+n≤8:=by omega
 have k3:(a:Int)≤(a:Int)+n:=by omega
 have k4:(0:Int)≤(a:Int)+n:=by omega
 have k5:¬8=a:=by omega
 have hl:=MI p a n h2;go_enter func118,ntmps118
 go_wp2_with (at_builtin;go_must (refine eH rfl _ _ 23 rfl w.heap.size 5 (.int .u8 0) 1 1 underlying23 byte_info rfl (by decide) _ _ _ rfl (Own.nil _ _ _ _) (some ⟨w.heap.size,a,none⟩) (a+n-a) (8-a) (((p.toList.drop a).take n).map oG) rfl (fun h=>(by cases h)) (by omega) (by rw[fP,hl];omega) ?rd (Qq _) (by unfold maxLen;omega) (by omega) ?bb ?k))
 case rd=>exact WQ (aJ.new w (gQ p) _) a n
 case bb=>exact dV _ _
 intro v w1 b c;go_wp2;go_ret;exact⟨v,rfl,by simpa using b,((Below.refl _ _).alloc (az _) _).grown c (by simp) (fun k hk=>by cases hk)⟩
theorem UL (p:Page) (a n:Int) (w:World) (h:a<0∨n<0∨8<a∨8-a<n) :
  Calls Tryz.prog 118 #[.agg (gQ p),.int .i64 a,.int .i64 n] w fun e w' => ∃v,e = .returned v∧Own w' w.heap.size 5 1 v 0 []∧Below w.heap.size w w':=by
 go_enter func118,ntmps118;go_wp2
 all_goals
  go_ret;exact⟨_,rfl,Own.nil _ _ _ _,(Below.refl _ _).alloc (az _) _⟩
theorem UE (p:Page) (w:World) :
  Calls Tryz.prog 118 #[.agg (gQ p),.int .i64 ((8:Nat):Int),.int .i64 ((0:Nat):Int)] w fun e w' => ∃v,e = .returned v∧Own w' w.heap.size 5 1 v 0 (((p.toList.drop 8).take 0).map oG)∧Below w.heap.size w w':=by
 go_enter func118,ntmps118
 go_wp2_with (at_builtin;go_must (refine eH rfl _ _ 23 rfl w.heap.size 5 (.int .u8 0) 1 1 underlying23 byte_info rfl (by decide) _ _ _ rfl (Own.nil _ _ _ _) (some ⟨w.heap.size,0,none⟩) 0 0 [] rfl (fun h=>(by cases h)) (az _) rfl eB.nil (fun _ h=>(by cases h)) (by unfold maxLen;omega) (by omega) ?bb ?k))
 case bb=>exact dV _ _
 intro v w1 a b;go_wp2;go_ret;exact⟨v,rfl,by simpa using a,((Below.refl _ _).alloc (az _) _).grown b (by simp) (fun k hk=>by cases hk)⟩
theorem MV (p:Page) (a n:Int) (w:World) :
  Calls Tryz.prog 118 #[.agg (gQ p),.int .i64 a,.int .i64 n] w fun e w' => ∃v,e = .returned v∧Own w' w.heap.size 5 1 v (qW p a n).length ((qW p a n).map oG)∧Below w.heap.size w w':=by
 by_cases h:a<0∨n<0∨8<a∨8-a<n
 ·have e:qW p a n=[]:=by unfold qW;rw[if_pos h]
  rw[e];exact UL p a n w h
 have e:qW p a n=(p.toList.drop a.toNat).take n.toNat:=by unfold qW;rw[if_neg h]
 rw[e];obtain⟨x,rfl⟩:=kW (show 0≤a by omega);obtain⟨z,rfl⟩:=kW (show 0≤n by omega);simp only[bD,MI p x z (by omega)]
 by_cases h8:x<8
 ·exact Vv p x z w h8 (by omega)
 obtain rfl:x=8:=by omega
 obtain rfl:z=0:=by omega
 exact UE p w
theorem zC (n:Int) (w:World) (h:n≤9223372036854775807) :
  Calls Tryz.prog 122 #[.int .i64 n] w fun e w'=>e = .returned (.int .i64 (gu n))∧w=w':=by
 by_cases h0:n≤0
 ·go_enter func122,ntmps122;go_wp2;go_ret;exact⟨by simp[gu,h0],rfl⟩
 go_enter func122,ntmps122;go_wp2;go_ret;exact⟨bi (by unfold gu;rw[if_neg (by omega)]),rfl⟩
theorem Mm (a n:Int) (w:World) :
  Calls Tryz.prog 115 #[.int .i64 a,.int .i64 n] w fun e w'=>e = .returned (.bool (ny a n))∧w=w':=by
 go_enter func115,ntmps115;go_wp2
 all_goals
  go_ret;refine⟨?_,rfl⟩;congr 2;unfold ny
  first
   | (rw[decide_eq_true (show 0≤a by assumption),decide_eq_true (show 0≤n by assumption),decide_eq_true (show n≤8 by assumption)];rfl)
   | (rw[decide_eq_true (show 0≤a by assumption),decide_eq_true (show 0≤n by assumption),decide_eq_false (show ¬n≤8 by omega)];rfl)
   | (rw[decide_eq_true (show 0≤a by assumption),decide_eq_false (show ¬0≤n by omega)];rfl)
   | (rw[decide_eq_false (show ¬0≤a by omega)];rfl)
theorem byte_size:(Tryz.prog.info? 5).map (·.size)=some 1:=by kernel_rfl
theorem Vl (p:Page) (a:Nat) (ab:Option Addr) (b:List UInt8) (c:Nat) (w:World) (h1:a<8) (hb:eB w ab (b.map oG)) :
  Calls Tryz.prog 117 #[.agg (gQ p),.int .i64 a,.slice ab b.length c] w fun e w'=>e = .returned (.agg (gQ (dw p a b)))∧Below w.heap.size w w':=by
 have k1:(a:Int)<8:=by omega
 have k2:(a:Int)≤8:=by omega
 have k5:¬8=a:=by omega
 go_enter func117,ntmps117
 go_wp2_with (with_reducible refine KP rfl (.tmp 14) (.tmp 15) _ _ rfl _ underlying23 byte_size w.heap.size a (8-a) (8-a) ab b.length c rfl rfl (p.toList.map oG) 100 ?c1 (b.map oG) (by simp) ?c2 ?c3 (Qq _) ?c4)
 case c1=>rw[←MK];exact (aJ.new w _ _).alloc _
 case c2=>exact hb.below (((Below.refl _ _).alloc (az _) _).alloc (dV _ _) _)
 case c3=>simp;omega
 intro w1 g d;rw[KI p a b h1] at g;have hz:aJ w1 (w.heap.size+1) #[.int .u8 0,.int .u8 0,.int .u8 0,.int .u8 0,.int .u8 0,.int .u8 0,.int .u8 0,.int .u8 0] 100:=by have:=(aJ.new (w.alloc (.cells (gQ p) 100)) #[.int .u8 0,.int .u8 0,.int .u8 0,.int .u8 0,.int .u8 0,.int .u8 0,.int .u8 0,.int .u8 0] 100).grown d (by simp);simpa using this
 have j:=g.cell;have h:=hz.cell;have i:=hz.free;have f:Below w.heap.size w w1:=(((Below.refl _ _).alloc (az _) _).alloc (dV _ _) _).grown d (by simp;omega) (fun k hk=>by cases hk;exact az _);clear d;obtain⟨e0,e1,e2,e3,e4,e5,e6,e7⟩:=uO (dw p a b);go_wp2;simp[bodyPost,results,go_sem,results117,h];refine⟨rfl,?_⟩
 repeat' (refine Below.setCell ?_ (by simp) _)
 exact f
theorem UM (p:Page) (a:Int) (ab:Option Addr) (b:List UInt8) (c:Nat) (w:World) (h:a<0∨8≤a) :
  Calls Tryz.prog 117 #[.agg (gQ p),.int .i64 a,.slice ab b.length c] w fun e w'=>e = .returned (.agg (gQ (dw p a b)))∧Below w.heap.size w w':=by
 have hs:dw p a b=p:=by unfold dw;rw[if_neg (by omega)]
 rw[hs];clear hs;obtain⟨e0,e1,e2,e3,e4,e5,e6,e7⟩:=uO p;go_enter func117,ntmps117;go_wp2
 all_goals
  simp[bodyPost,results,go_sem,results117];exact⟨rfl,((Below.refl _ _).alloc (az _) _).alloc (dV _ _) _⟩
theorem Nw (p:Page) (a:Int) (ab:Option Addr) (b:List UInt8) (c:Nat) (w:World) (hb:eB w ab (b.map oG)) :
  Calls Tryz.prog 117 #[.agg (gQ p),.int .i64 a,.slice ab b.length c] w fun e w'=>e = .returned (.agg (gQ (dw p a b)))∧Below w.heap.size w w':=by
 by_cases h:a<0∨8≤a
 ·exact UM p a ab b c w h
 obtain⟨x,rfl⟩:=kW (show 0≤a by omega);exact Vl p x ab b c w (by omega) hb
def Kl (p:Page):List Value:=(gQ p).toList
def Uv (q:Int × Page):Array Value:=#[.int .i64 q.1,.int .u8 q.2[0].toNat,.int .u8 q.2[1].toNat,.int .u8 q.2[2].toNat,.int .u8 q.2[3].toNat,.int .u8 q.2[4].toNat,.int .u8 q.2[5].toNat,.int .u8 q.2[6].toNat,.int .u8 q.2[7].toNat]
def Eg (q:Int × Page):List Value:=(Uv q).toList
theorem wN (p:Page):(Kl p).length=8:=rfl
theorem wC (q:Int × Page):(Eg q).length=9:=rfl
theorem page_info:(Tryz.prog.info? 100).map (fun i=>(i.zero,i.size,i.bytes))=some (some (.agg #[.int .u8 0,.int .u8 0,.int .u8 0,.int .u8 0,.int .u8 0,.int .u8 0,.int .u8 0,.int .u8 0]),8,8):=by kernel_rfl
theorem put_info:(Tryz.prog.info? 186).map (fun i=>(i.zero,i.size,i.bytes))=some (some (.agg #[.int .i64 0,.int .u8 0,.int .u8 0,.int .u8 0,.int .u8 0,.int .u8 0,.int .u8 0,.int .u8 0,.int .u8 0]),9,16):=by kernel_rfl
theorem PI (l:List Page):(l.flatMap Kl).length=l.length*8:=Pw.flat_len _ _ wN l
theorem SA (l:List (Int × Page)):(l.flatMap Eg).length=l.length*9:=Pw.flat_len _ _ wC l
theorem NW (l:List Page):∀u∈l.flatMap Kl,u.oneCell' = true:=by
 intro u hu;obtain⟨p,_,hp⟩:=ji.1 hu;simp only[Kl,gQ,fE,nZ,or_false] at hp;rcases hp with rfl|rfl|rfl|rfl|rfl|rfl|rfl|rfl<;>rfl
theorem DC (l:List (Int × Page)):∀u∈l.flatMap Eg,u.oneCell' = true:=by
 intro u hu;obtain⟨p,_,hp⟩:=ji.1 hu;simp only[Eg,Uv,fE,nZ,or_false] at hp;rcases hp with rfl|rfl|rfl|rfl|rfl|rfl|rfl|rfl|rfl<;>rfl
theorem JH (l:List Page) (a:Option Addr) (c:Nat) (w:World) (hle:l.length≤c) (hnil:a=none→c=0) (hrd:eB w a (l.flatMap Kl)) (hb:l.length*8≤140737488355328) :
  Calls Tryz.prog 101 #[.slice a l.length c] w fun e w' => ∃v,e = .returned v∧Own w' w.heap.size 100 8 v l.length (l.flatMap Kl)∧Below w.heap.size w w':=by
 cases a with
 | none=>
  have h0:=hnil rfl;have hl:l=[]:=jX (by omega);subst hl;subst h0;have hq:=fun W=>lI (P:=Tryz.prog) W 34 _ none 0 0 0 0 underlying34;go_enter func101,ntmps101;go_wp2;go_ret;exact⟨_,rfl,by simpa using Own.nil _ _ _ _,Below.refl _ _⟩
 | some ad=>
  have hq:=fun W=>lI (P:=Tryz.prog) W 34 _ (some ad) l.length c 0 0 underlying34;go_enter func101,ntmps101
  go_wp2_with (at_builtin;go_must (refine eH rfl _ _ 34 rfl w.heap.size 100 (.agg #[.int .u8 0,.int .u8 0,.int .u8 0,.int .u8 0,.int .u8 0,.int .u8 0,.int .u8 0,.int .u8 0]) 8 8 underlying34 page_info rfl (by decide) _ 0 [] rfl ?own (some ad) l.length c (l.flatMap Kl) rfl (fun h=>(by cases h)) hle (PI l) ?rd (NW l) (by unfold maxLen;omega) (by simpa using hb) ?bb ?k))
  case own=>exact⟨rfl,.inr ⟨w.heap.size,0,0,#[],rfl,az _,aJ.new _ _ _,az _,bB _,by simp,fun j u h=>by simp at h⟩⟩
  case rd=>exact hrd.below ((Below.refl _ _).alloc (az _) _)
  case bb=>exact dV _ _
  intro v w1 b d;go_wp2;go_ret;exact⟨v,rfl,by simpa using b,((Below.refl _ _).alloc (az _) _).grown d (dV _ _) (fun k hk=>by cases hk;exact az _)⟩
theorem KZ (l:List (Int × Page)) (a:Option Addr) (c:Nat) (w:World) (hle:l.length≤c) (hnil:a=none→c=0) (hrd:eB w a (l.flatMap Eg)) (hb:l.length*16≤140737488355328) :
  Calls Tryz.prog 102 #[.slice a l.length c] w fun e w' => ∃v,e = .returned v∧Own w' w.heap.size 186 9 v l.length (l.flatMap Eg)∧Below w.heap.size w w':=by
 cases a with
 | none=>
  have h0:=hnil rfl;have hl:l=[]:=jX (by omega);subst hl;subst h0;have hq:=fun W=>lI (P:=Tryz.prog) W 35 _ none 0 0 0 0 underlying35;go_enter func102,ntmps102;go_wp2;go_ret;exact⟨_,rfl,by simpa using Own.nil _ _ _ _,Below.refl _ _⟩
 | some ad=>
  have hq:=fun W=>lI (P:=Tryz.prog) W 35 _ (some ad) l.length c 0 0 underlying35;go_enter func102,ntmps102
  go_wp2_with (at_builtin;go_must (refine eH rfl _ _ 35 rfl w.heap.size 186 (.agg #[.int .i64 0,.int .u8 0,.int .u8 0,.int .u8 0,.int .u8 0,.int .u8 0,.int .u8 0,.int .u8 0,.int .u8 0]) 9 16 underlying35 put_info rfl (by decide) _ 0 [] rfl ?own (some ad) l.length c (l.flatMap Eg) rfl (fun h=>(by cases h)) hle (SA l) ?rd (DC l) (by unfold maxLen;omega) (by simpa using hb) ?bb ?k))
  case own=>exact⟨rfl,.inr ⟨w.heap.size,0,0,#[],rfl,az _,aJ.new _ _ _,az _,bB _,by simp,fun j u h=>by simp at h⟩⟩
  case rd=>exact hrd.below ((Below.refl _ _).alloc (az _) _)
  case bb=>exact dV _ _
  intro v w1 b d;go_wp2;go_ret;exact⟨v,rfl,by simpa using b,((Below.refl _ _).alloc (az _) _).grown d (dV _ _) (fun k hk=>by cases hk;exact az _)⟩
structure Qu (w:World) (ab:Option Addr) (cb:Nat) (aq:Option Addr) (cq:Nat) (d:sK):Prop where
 lb:d.blocks.length≤cb
 lq:d.queue.length≤cq
 mb:cb≤maxLen
 mq:cq≤maxLen
 nb:ab=none→cb=0
 nq:aq=none→cq=0
 rb:eB w ab (d.blocks.flatMap Kl)
 rq:eB w aq (d.queue.flatMap Eg)
theorem Qu.below (h:Qu w ab cb aq cq d) (hb:Below w.heap.size w w'):Qu w' ab cb aq cq d:=
 { h with rb:=h.rb.below hb,rq:=h.rq.below hb }
structure kw (w:World) (B:Nat) (vb vq:Value) (d:sK):Prop where
 b:Own w B 100 8 vb d.blocks.length (d.blocks.flatMap Kl)
 q:Own w B 186 9 vq d.queue.length (d.queue.flatMap Eg)
theorem kw.below (h:kw w B vb vq d) (hb:Below w.heap.size w w'):kw w' B vb vq d:=⟨h.b.below hb,h.q.below hb⟩
theorem kw.mono (h:kw w B vb vq d) (hB:B'≤B):kw w B' vb vq d:=⟨h.b.mono hB,h.q.mono hB⟩
theorem kw.rd (h:kw w B vb vq d):∃ab cb aq cq,vb = .slice ab d.blocks.length cb∧vq = .slice aq d.queue.length cq∧Qu w ab cb aq cq d:=by
 obtain⟨ab,cb,rfl,h1,h2,h3,h4⟩:=h.b.rd;obtain⟨aq,cq,rfl,g1,g2,g3,g4⟩:=h.q.rd;exact⟨ab,cb,aq,cq,rfl,rfl,h1,g1,h2,g2,h3,g3,h4,g4⟩
theorem kw.nil (w:World) (B:Nat):kw w B (.slice none 0 0) (.slice none 0 0) ⟨[],[]⟩:=⟨Own.nil _ _ _ _,Own.nil _ _ _ _⟩
theorem Ro {l:List (Int × Page)} (h:eB w a (l.flatMap Eg)) (k:Nat) (hk:k<l.length):∃b off,a=some ⟨b,off,none⟩∧∀j,j<9→w.cell? ⟨b,off+k*9+j,none⟩=(Uv l[k])[j]?:=by
 obtain⟨b,off,ha,hc⟩:=h.elem wC (by decide) k hk;refine⟨b,off,ha,fun j hj => ?_⟩;have e:(Eg l[k])[j]?=some ((Eg l[k])[j]'(by rw[wC];exact hj)):=aN _;rw[hc j _ e,←e];simp[Eg]
theorem UB {l:List Page} (h:eB w a (l.flatMap Kl)) (k:Nat) (hk:k<l.length):∃b off,a=some ⟨b,off,none⟩∧∀j,j<8→w.cell? ⟨b,off+k*8+j,none⟩=(gQ l[k])[j]?:=by
 obtain⟨b,off,ha,hc⟩:=h.elem wN (by decide) k hk;refine⟨b,off,ha,fun j hj => ?_⟩;have e:(Kl l[k])[j]?=some ((Kl l[k])[j]'(by rw[wN];exact hj)):=aN _;rw[hc j _ e,←e];simp[Kl]
theorem uy (d:sK) (ab:Option Addr) (cb:Nat) (aq:Option Addr) (cq:Nat) (w:World) (h:Qu w ab cb aq cq d) :
  Calls Tryz.prog 94 #[.agg #[.slice ab d.blocks.length cb,.slice aq d.queue.length cq]] w fun e w'=>e = .returned (.int .i64 (cB d))∧Below w.heap.size w w':=by
 have lb:=aV h.lb h.mb;have lq:=aV h.lq h.mq;unfold maxLen at lb lq;have j:=h.rq;unfold cB;obtain⟨B,Q⟩:=d;simp only at *
 go_enter func94,ntmps94;have g:Below w.heap.size w (w.alloc (.cells #[.slice ab B.length cb,.slice aq Q.length cq] 37)):=(Below.refl _ _).alloc (az _) _
 by_cases h4:80<B.length∨400<Q.length
 ·rw[if_pos h4];have l : (80:Int)<(B.length:Int)∨(400:Int)<(Q.length:Int):=by omega
  clear h4;rcases l with h4|h4
  all_goals
   go_wp2
   all_goals
    go_ret;exact⟨rfl,g⟩
 rw[if_neg h4];have p:¬(80:Int)<(B.length:Int):=by omega
 have n:¬(400:Int)<(Q.length:Int):=by omega
 clear h4;go_wp2
 go_loopw [18] (fun i wr => ∃k:Nat,k≤Q.length∧i = .int .i64 k∧Below w.heap.size w wr∧aJ wr w.heap.size #[.slice ab B.length cb,.slice aq Q.length cq] 37∧∀i (h:i<Q.length),i<k→Cs B.length Q[i]=false) (fun i _=>Q.length-(intOf i).toNat)
 case atStart=>exact⟨0,bB _,rfl,g,aJ.new _ _ _,fun i _ h=>absurd h (gL _)⟩
 case round=>
  obtain⟨k,hk,rfl,a,c,hp⟩:=hrel
  by_cases hlt:k<Q.length
  ·obtain⟨b,off,rfl,hc⟩:=Ro (j.below a) k hlt;have c0:=hc 0 (by decide);have c1:=hc 1 (by decide);have c2:=hc 2 (by decide);have c3:=hc 3 (by decide);have c4:=hc 4 (by decide);have c5:=hc 5 (by decide);have c6:=hc 6 (by decide);have c7:=hc 7 (by decide);have c8:=hc 8 (by decide);simp only[Uv,GA,qa,ze,kU] at c0 c1 c2 c3 c4 c5 c6 c7 c8;clear hc;have m:=fun o=>(c.alloc o).cell
   by_cases hbad:Q[k].1<0∨(B.length:Int)≤Q[k].1
   ·have f:Cs B.length Q[k]=true:=by simpa[Cs] using hbad
    have ha:Q.any (Cs B.length)=true:=jO.2 ⟨_,eZ hlt,f⟩;rcases hbad with hbad|hbad
    all_goals
     go_wp2
     all_goals
      go_ret;exact⟨by simp[ha],a.alloc a.size _⟩
   have n1:¬Q[k].1<0:=by omega
   have n2:¬(B.length:Int)≤Q[k].1:=by omega
   have f:Cs B.length Q[k]=false:=by simp[Cs];omega
   clear hbad;go_wp2;go_roundw
   case rel=>exact⟨k+1,by omega,by go_num,a.alloc a.size _,c.alloc _,nH hp hlt f⟩
   case measure=>simp[intOf];omega
  have ha:Q.any (Cs B.length)=false:=by rw[tZ];intro x hx;obtain⟨i,hi,rfl⟩:=jC.1 hx;simp[hp i hi (by omega)]
  go_wp2
  all_goals
   go_ret;exact⟨by simp[ha],a⟩
theorem kw.keep (h:kw w B vb vq d) (hk:aJ w g cs T) (h1:T≠100) (h2:T≠186) (hgr:w.grownBy w' (some g)):kw w' B vb vq d:=
 ⟨ay h.b hk h1 hgr,ay h.q hk h2 hgr⟩
def xn (B:Nat) (d:sK):nG:=⟨fun v w => ∃vb vq,v = .agg #[vb,vq]∧kw w B vb vq d,fun _ _ _ hb ⟨vb,vq,h1,h2⟩=>⟨vb,vq,h1,h2.below hb⟩⟩
theorem psize:(Tryz.prog.info? 100).map (·.size)=some 8:=by kernel_rfl
theorem zz_fit:(#[.int .u8 0,.int .u8 0,.int .u8 0,.int .u8 0,.int .u8 0,.int .u8 0,.int .u8 0,.int .u8 0]:Array Value).size=(#[.int .u8 0,.int .u8 0,.int .u8 0,.int .u8 0,.int .u8 0,.int .u8 0,.int .u8 0,.int .u8 0]:Array Value).size:=rfl
theorem zz_one:(#[.int .u8 0,.int .u8 0,.int .u8 0,.int .u8 0,.int .u8 0,.int .u8 0,.int .u8 0,.int .u8 0]:Array Value).all (·.oneCell')=true:=by simp[Value.oneCell']
theorem zz_info:(Tryz.prog.info? 100).map (·.size)=some (#[.int .u8 0,.int .u8 0,.int .u8 0,.int .u8 0,.int .u8 0,.int .u8 0,.int .u8 0,.int .u8 0]:Array Value).size:=psize
theorem Sv (p:Page):(gQ p).size=(#[.int .u8 0,.int .u8 0,.int .u8 0,.int .u8 0,.int .u8 0,.int .u8 0,.int .u8 0,.int .u8 0]:Array Value).size:=rfl
theorem Hq (p:Page):(Tryz.prog.info? 100).map (·.size)=some (gQ p).size:=psize
theorem disk_size:(Tryz.prog.info? 37).map (·.size)=some 2:=by kernel_rfl
theorem DR (d:sK) (ab:Option Addr) (cb:Nat) (aq:Option Addr) (cq:Nat) (w:World) (h:Qu w ab cb aq cq d) (h80:d.blocks.length*8≤140737488355328) (h400:d.queue.length*16≤140737488355328) :
  Calls Tryz.prog 59 #[.agg #[.slice ab d.blocks.length cb,.slice aq d.queue.length cq]] w fun e w' => ∃vb vq,e = .returned (.agg #[vb,vq])∧kw w' w.heap.size vb vq d∧Below w.heap.size w w':=by
 go_enter func59,ntmps59;go_upto_region 1 with (fail);have a:Below w.heap.size w ((w.alloc (.cells #[.slice ab d.blocks.length cb,.slice aq d.queue.length cq] 37)).alloc (.cells #[.slice none 0 0,.slice none 0 0] 37)):=((Below.refl _ _).alloc (az _) _).alloc (dV _ _) _;have j:aJ ((w.alloc (.cells #[.slice ab d.blocks.length cb,.slice aq d.queue.length cq] 37)).alloc (.cells #[.slice none 0 0,.slice none 0 0] 37)) w.heap.size #[.slice ab d.blocks.length cb,.slice aq d.queue.length cq] 37:=(aJ.new _ _ _).alloc _;have i:aJ ((w.alloc (.cells #[.slice ab d.blocks.length cb,.slice aq d.queue.length cq] 37)).alloc (.cells #[.slice none 0 0,.slice none 0 0] 37)) (w.heap.size+1) #[.slice none 0 0,.slice none 0 0] 37:=by simpa using aJ.new (w.alloc (.cells #[.slice ab d.blocks.length cb,.slice aq d.queue.length cq] 37)) _ _
 have h0:=h.below a;refine aP 7 [_,_,.r 2 ((iw w.heap.size 100 8 d.blocks.length (d.blocks.flatMap Kl))),_,_,.r 5 ((iw w.heap.size 186 9 d.queue.length (d.queue.flatMap Eg))),.r 6 ((xn w.heap.size d))] (Gf w.heap.size 0 rfl rfl (Gl j (V:=.slice ab d.blocks.length cb) (by simp[underlying34]) rfl rfl rfl rfl (aj ?_ (Gf w.heap.size 1 rfl rfl (Gl j (V:=.slice aq d.queue.length cq) (by simp[underlying35]) rfl rfl rfl rfl (aj ?_ (aj ?_ (aF)))))))) (fun _=>rfl) rfl ?_
 ·intro ρ y W hw hn hb hd;have E4:=hw 4 1 rfl;have h1:y 1=_:=hd 1 rfl;have EF:∀f,ρ (.func f) = .func (.func f) #[] #[]:=fun f=>hn (.func f) trivial;refine aK _ _ (ag rfl) (aQ rfl (EF _) func101 (by kernel_rfl) (by kernel_rfl) (by simp only[bT,bF,bI,E4,h1,EF];rfl)) ?_;refine (JH d.blocks ab cb W h0.lb h0.nb (h0.below hb).rb h80).mono ?_;rintro e w1 ⟨v,rfl,ho,m⟩;exact⟨v,rfl,m,ho.mono (aV a.size hb.size)⟩
 ·intro ρ y W hw hn hb hd;have E7:=hw 7 4 rfl;have h4:y 4=_:=hd 4 rfl;have EF:∀f,ρ (.func f) = .func (.func f) #[] #[]:=fun f=>hn (.func f) trivial;refine aK _ _ (ag rfl) (aQ rfl (EF _) func102 (by kernel_rfl) (by kernel_rfl) (by simp only[bT,bF,bI,E7,h4,EF];rfl)) ?_;refine (KZ d.queue aq cq W h0.lq h0.nq (h0.below hb).rq h400).mono ?_;rintro e w1 ⟨v,rfl,ho,m⟩;exact⟨v,rfl,m,ho.mono (aV a.size hb.size)⟩
 ·intro ρ y W hw hn hb hd;have E5:=hw 5 2 rfl;have h2:=hd 2 rfl;have E8:=hw 8 5 rfl;have h5:=hd 5 rfl;obtain⟨x2,c2,e2,_⟩:=Own.rd h2;obtain⟨x5,c5,e5,_⟩:=Own.rd h5;refine ak (.agg #[y 2,y 5]) (ag rfl) (by simp[execOp,go_sem,E5,E8,e2,e5]) ?_;exact⟨_,_,rfl,h2,h5⟩
 intro y WA g b;have q:((iw w.heap.size 100 8 d.blocks.length (d.blocks.flatMap Kl))).r (y 2) WA:=b 2 (by decide);have p:((iw w.heap.size 186 9 d.queue.length (d.queue.flatMap Eg))).r (y 5) WA:=b 5 (by decide);have o:((xn w.heap.size d)).r (y 6) WA:=b 6 (by decide);clear b;obtain⟨vb,vq,e6,ho⟩:=o;rw[e6];clear q p e6;have c:=ah a g;obtain⟨xb,cb',xq,cq',rfl,rfl,_⟩:=ho.rd;refine ax rfl _ (.tmp 2) (.tmp 9) rfl (w.heap.size+1) _ rfl rfl _ _ (i.ext g) rfl disk_size (by simp[Value.oneCell']) ?_;intro w2 hq n;have l:Below w.heap.size w w2:=c.grown n c.size (fun k hk=>by cases hk;omega);have hc:=hq.cell;go_wp2;simp[bodyPost,results,go_sem,results59,hc];exact⟨_,_,⟨rfl,rfl⟩,ho.keep (i.ext g) (by decide) (by decide) n,l⟩
theorem zPg_cells:gQ zPg=#[.int .u8 0,.int .u8 0,.int .u8 0,.int .u8 0,.int .u8 0,.int .u8 0,.int .u8 0,.int .u8 0]:=rfl
theorem Fq (d:sK) (k:Int) (ab:Option Addr) (cb:Nat) (aq:Option Addr) (cq:Nat) (w:World) (h:Qu w ab cb aq cq d) :
  Calls Tryz.prog 170 #[.agg #[.slice ab d.blocks.length cb,.slice aq d.queue.length cq],.int .i64 k] w fun e w'=>e = .returned (.tuple #[.agg (gQ (dN d k)),.int .i64 (aI d k)])∧Below w.heap.size w w':=by
 go_enter func170,ntmps170
 go_wp2_with fail
 have v:Below w.heap.size w ((w.alloc (.cells #[.slice ab d.blocks.length cb,.slice aq d.queue.length cq] 37)).alloc (.cells #[.int .u8 0,.int .u8 0,.int .u8 0,.int .u8 0,.int .u8 0,.int .u8 0,.int .u8 0,.int .u8 0] 100)):=((Below.refl _ _).alloc (az _) _).alloc (dV _ _) _;have s:aJ ((w.alloc (.cells #[.slice ab d.blocks.length cb,.slice aq d.queue.length cq] 37)).alloc (.cells #[.int .u8 0,.int .u8 0,.int .u8 0,.int .u8 0,.int .u8 0,.int .u8 0,.int .u8 0,.int .u8 0] 100)) w.heap.size #[.slice ab d.blocks.length cb,.slice aq d.queue.length cq] 37:=(aJ.new _ _ _).alloc _;have r:aJ ((w.alloc (.cells #[.slice ab d.blocks.length cb,.slice aq d.queue.length cq] 37)).alloc (.cells #[.int .u8 0,.int .u8 0,.int .u8 0,.int .u8 0,.int .u8 0,.int .u8 0,.int .u8 0,.int .u8 0] 100)) (w.heap.size+1) #[.int .u8 0,.int .u8 0,.int .u8 0,.int .u8 0,.int .u8 0,.int .u8 0,.int .u8 0,.int .u8 0] 100:=by simpa using aJ.new (w.alloc (.cells #[.slice ab d.blocks.length cb,.slice aq d.queue.length cq] 37)) _ _
 refine (uy d ab cb aq cq _ (h.below v)).mono ?_;rintro e w1 ⟨rfl,t⟩;have a:=ah v t;have u:=s.ext t;have f:=r.ext t;have h1:=h.below a;clear s r t v h;have ha:=h1.rq;have z:=h1.rb;have lq:=aV h1.lq h1.mq;unfold maxLen at lq;have hl:=u.cell
 by_cases hw:cB d=0
 ·rw[hw]
  by_cases hk:k<0∨(d.blocks.length:Int)≤k
  ·have q1:aI d k=3:=by unfold aI;rw[if_neg (by omega),if_pos hk]
   have q2:gQ (dN d k)=#[.int .u8 0,.int .u8 0,.int .u8 0,.int .u8 0,.int .u8 0,.int .u8 0,.int .u8 0,.int .u8 0]:=by unfold dN;rw[q1];rfl
   rcases hk with hk|hk
   all_goals
    go_wp2_with (refine ax rfl _ (.tmp 4) (.tmp 23) rfl (w.heap.size+1) #[.int .u8 0,.int .u8 0,.int .u8 0,.int .u8 0,.int .u8 0,.int .u8 0,.int .u8 0,.int .u8 0] rfl rfl _ _ f zz_fit zz_info zz_one ?_)
    all_goals
     intro w2 j o;have c:=a.grown o a.size (fun k hk=>by cases hk;omega);have p:=j.cell;go_wp2;simp[bodyPost,results,go_sem,results170,p,q1,q2];exact c
  obtain⟨k,rfl⟩:=kW (show 0≤k by omega);have y:k<d.blocks.length:=by omega
  have k1:¬(d.blocks.length:Int)≤(k:Int):=by omega
  have q1:aI d k=0:=by unfold aI;rw[if_neg (by omega),if_neg hk]
  have q2:dN d k=over k d.blocks[k] d.queue:=by unfold dN;rw[q1,if_pos rfl];simp[y]
  clear hk;have Q2:=ae q2;clear q2;have hd:decide (d.blocks.length≤k)=false:=by simp;omega
  go_wp2
  go_loopw [7] (fun i wr => ∃n:Int,-1≤n∧n<d.queue.length∧i = .int .i64 n∧wr=w1∧Hid (over k d.blocks[k] (d.queue.take (n+1).toNat)=over k d.blocks[k] d.queue)) (fun i _=>(intOf i+1).toNat)
  case atStart=>exact⟨(d.queue.length:Int)-1,by omega,by omega,rfl,rfl,ae (by rw[show ((d.queue.length:Int)-1+1).toNat=d.queue.length from by omega,wF])⟩
  case round=>
   obtain⟨n,hj,hi,rfl,rfl,l⟩:=hrel
   by_cases hneg:n<0
   ·have:n = -1:=by omega
    subst this;obtain⟨b,off,rfl,hc⟩:=UB z k y;have c0:=hc 0 (by decide);have c1:=hc 1 (by decide);have c2:=hc 2 (by decide);have c3:=hc 3 (by decide);have c4:=hc 4 (by decide);have c5:=hc 5 (by decide);have c6:=hc 6 (by decide);have c7:=hc 7 (by decide);simp only[gQ,GA,qa,ze,kU] at c0 c1 c2 c3 c4 c5 c6 c7;clear hc;have g:dN d k=d.blocks[k]:=by rw[Q2.out,←l.out];rfl
    clear Q2 l
    go_wp2_with (refine ax rfl _ (.tmp 4) (.tmp 50) rfl (w.heap.size+1) (gQ d.blocks[k]) rfl rfl _ _ f (Sv _) (Hq _) (qf _) ?_)
    intro w2 j o;have c:=a.grown o a.size (fun k hk=>by cases hk;omega);have p:=j.cell;obtain⟨e0,e1,e2,e3,e4,e5,e6,e7⟩:=uO d.blocks[k];go_wp2;simp[bodyPost,results,go_sem,results170,p,e0,e1,e2,e3,e4,e5,e6,e7,q1,g];exact⟨rfl,c⟩
   obtain⟨m,rfl⟩:=kW (show 0≤n by omega);have hm:m<d.queue.length:=by omega
   obtain⟨b,off,rfl,hc⟩:=Ro ha m hm;have c0:=hc 0 (by decide);have c1:=hc 1 (by decide);have c2:=hc 2 (by decide);have c3:=hc 3 (by decide);have c4:=hc 4 (by decide);have c5:=hc 5 (by decide);have c6:=hc 6 (by decide);have c7:=hc 7 (by decide);have c8:=hc 8 (by decide);simp only[Uv,GA,qa,ze,kU] at c0 c1 c2 c3 c4 c5 c6 c7 c8;clear hc;have x:=OH (k:Int) d.blocks[k] d.queue m hm;rw[show ((m:Int)+1).toNat=m+1 from by omega] at l;have q:=ae (x.symm.trans l.out);clear l x;have hb : ¬((m:Int)<0):=by omega
   by_cases he:d.queue[m].1=(k:Int)
   ·have g:dN d k=d.queue[m].2:=by rw[Q2.out,←q.out,if_pos he]
    rw[he] at c0;clear Q2 q;have hf:gQ d.queue[m].2=#[.int .u8 d.queue[m].2[0].toNat,.int .u8 d.queue[m].2[1].toNat,.int .u8 d.queue[m].2[2].toNat,.int .u8 d.queue[m].2[3].toNat,.int .u8 d.queue[m].2[4].toNat,.int .u8 d.queue[m].2[5].toNat,.int .u8 d.queue[m].2[6].toNat,.int .u8 d.queue[m].2[7].toNat]:=rfl
    go_wp2_with (refine ax rfl _ (.tmp 4) (.tmp 45) rfl (w.heap.size+1) (gQ d.queue[m].2) rfl rfl _ _ f (Sv _) (Hq _) (qf _) ?_)
    intro w2 j o;have c:=a.grown o a.size (fun k hk=>by cases hk;omega);have p:=j.cell;obtain⟨e0,e1,e2,e3,e4,e5,e6,e7⟩:=uO d.queue[m].2;go_wp2;simp[bodyPost,results,go_sem,results170,p,e0,e1,e2,e3,e4,e5,e6,e7,q1,g];exact⟨rfl,c⟩
   have hh:(d.queue[m].1==(k:Int))=false:=by simpa using he
   have l:Hid (over k d.blocks[k] (d.queue.take m)=over k d.blocks[k] d.queue):=by have:=q.out;rw[if_neg he] at this;exact this
   clear q;go_wp2;go_roundw
   case rel=>exact⟨(m:Int)-1,by omega,by omega,by go_num,trivial,by rw[show ((m:Int)-1+1).toNat=m from by omega];exact l⟩
   case measure=>simp[intOf]
 have q1:aI d k=cB d:=by unfold aI;rw[if_pos hw]
 have q2:gQ (dN d k)=#[.int .u8 0,.int .u8 0,.int .u8 0,.int .u8 0,.int .u8 0,.int .u8 0,.int .u8 0,.int .u8 0]:=by unfold dN;rw[q1,if_neg hw];rfl
 have hg : (cB d != 0)=true:=by simpa using hw
 go_wp2_with (refine ax rfl _ (.tmp 4) (.tmp 12) rfl (w.heap.size+1) #[.int .u8 0,.int .u8 0,.int .u8 0,.int .u8 0,.int .u8 0,.int .u8 0,.int .u8 0,.int .u8 0] rfl rfl _ _ f zz_fit zz_info zz_one ?_)
 intro w2 j o;have c:=a.grown o a.size (fun k hk=>by cases hk;omega);have p:=j.cell;go_wp2;simp[bodyPost,results,go_sem,results170,p,q1,q2];exact c
theorem Dh (a b c d:Value):(#[a,b]:Array Value).size=(#[c,d]:Array Value).size:=rfl
theorem zH (a b:Value):(Tryz.prog.info? 37).map (·.size)=some (#[a,b]:Array Value).size:=disk_size
theorem Cv (d:sK) (k:Int) (p:Page) (ab:Option Addr) (cb:Nat) (aq:Option Addr) (cq:Nat) (w:World) (h:Qu w ab cb aq cq d) :
  Calls Tryz.prog 178 #[.agg #[.slice ab d.blocks.length cb,.slice aq d.queue.length cq],.int .i64 k,.agg (gQ p)] w fun e w' => ∃vb vq,e = .returned (.tuple #[.agg #[vb,vq],.int .i64 (aI d k)])∧kw w' w.heap.size vb vq (dz d k p)∧Below w.heap.size w w':=by
 go_enter func178,ntmps178
 go_wp2_with fail
 refine RI (fun W=>Calls _ _ _ W _) fun W0 hT hy hJ hs h7 => ?_;refine (uy d ab cb aq cq _ (h.below hT)).mono ?_;rintro e w1 ⟨rfl,hC⟩;have f:=ah hT hC;have hx:=hy.ext hC;have hI:=hJ.ext hC;have m:=hs.ext hC;have h1:=h.below f;clear hy hJ hs hC hT h h7;have kb:=hx.cell
 by_cases hw:cB d=0
 ·rw[hw];obtain⟨l80,l400⟩:=EA hw
  by_cases hk:k<0∨(d.blocks.length:Int)≤k
  ·have q1:aI d k=3:=by unfold aI;rw[if_neg (by omega),if_pos hk]
   have q2:dz d k p=⟨[],[]⟩:=by unfold dz;rw[if_neg (by omega)]
   rcases hk with hk|hk
   all_goals
    go_wp2_with (refine ax rfl _ (.tmp 6) (.tmp 26) rfl (w.heap.size+2) #[.slice none 0 0,.slice none 0 0] rfl rfl _ _ m rfl disk_size (pE _ _ _ _ _ _) ?_)
    all_goals
     intro w2 hN l;have z:=f.grown l f.size (fun k hk=>by cases hk;omega);have hh:=hN.cell;go_wp2;simp[bodyPost,results,go_sem,results178,hh,q1];exact⟨_,_,⟨rfl,rfl⟩,by rw[q2];exact kw.nil _ _,z⟩
  obtain⟨k,rfl⟩:=kW (show 0≤k by omega);have kk:k<d.blocks.length:=by omega
  have k1:¬(d.blocks.length:Int)≤(k:Int):=by omega
  have q1:aI d k=0:=by unfold aI;rw[if_neg (by omega),if_neg hk]
  have q2:dz d k p=iV d (k,p):=by unfold dz;rw[if_pos q1]
  have Q2:=ae q2;clear hk q2
  go_wp2_with fail
  refine (DR d ab cb aq cq _ h1 (by omega) (by omega)).mono ?_;rintro e w2 ⟨vb,vq,rfl,ho,hB⟩;have z:=ah f hB;have hH:=hI.ext hB;have hr:=m.ext hB;have kg:w.heap.size+3≤w1.heap.size:=by have:=m.lt;omega
  have hY:w.heap.size+3≤w2.heap.size:=aV (show w.heap.size+3≤w1.heap.size by have:=m.lt;omega) hB.size;clear hx hI m hB h1 kb;obtain⟨xb,cb',xq,cq',rfl,rfl,hE⟩:=ho.rd;have kj:=hE.lq;go_upto_region 7 with (fail);refine jl (fun W=>Code.wp _ _ _ _ W) fun w3 hA r h6 => ?_;have hg:=ho.below hA;have i:=ah z hA;have hj:=hH.ext hA;have hb:=hr.ext hA;have kf:w.heap.size+3≤w2.heap.size:=hY;clear ho hE hH hr hA;have ke:w2.heap.size<w3.heap.size:=by omega
  clear h6;have ha:=r.cell
  by_cases h4:d.queue.length=400
  ·have Q3:=ae (NU d ((k:Int),p) h4);have kc : ((d.queue.length:Int)==400)=true:=by rw[h4];rfl
   have hO:0<d.queue.length:=by omega
   obtain⟨hK,hV⟩:=FJ hw 0 hO;generalize hq0:d.queue[0]=q0 at *
   obtain⟨i0,hX⟩:=kW hK;have hW : i0<d.blocks.length:=by omega
   obtain⟨gq,offq,capq,curq,h3,kn,h8,kl,x,hL⟩:=hg.q.put wC (by decide) 0 hO;obtain⟨gb,offb,capb,curb,h5,ko,ht,km,ka,hn⟩:=hg.b.put wN (by decide) i0 hW;cases h3;cases h5;rw[hq0] at x;have c0:=x 0 _ rfl;have c1:=x 1 _ rfl;have c2:=x 2 _ rfl;have c3:=x 3 _ rfl;have c4:=x 4 _ rfl;have c5:=x 5 _ rfl;have c6:=x 6 _ rfl;have c7:=x 7 _ rfl;have c8:=x 8 _ rfl;simp only[Nat.zero_mul,kU,hX] at c0 c1 c2 c3 c4 c5 c6 c7 c8;have n1:(0:Int)<(d.queue.length:Int):=by omega
   have n2:(i0:Int)<(d.blocks.length:Int):=by omega
   have h9:=fun o=>(r.alloc o).cell;clear x ka hL hK hV
   go_wp2_with (refine gy rfl _ (.tmp 43) (.tmp 42) rfl gb (offb+i0*8) (gQ q0.2) rfl rfl curb 100 (ht.alloc _) (by rw[IV];omega) (Hq _) (qf _) ?_)
   intro w5 hm a;have h2:=hn w5 q0.2 hm;have hZ:=ay (hg.q.alloc _) (ht.alloc _) (by decide) a;have n:=aG (r.alloc _) (ht.alloc _) (by decide) a;have hq:=aG (hb.alloc _) (ht.alloc _) (by decide) a;have hG:=(hj.alloc _).grown a (by intro he;cases he;omega);have hf:Below w.heap.size w w5:=(i.alloc i.size _).grown a (eF i.size _) (fun k hk=>by cases hk;omega);clear hm a hn ht h9 r hb hj hg c0 c1 c2 c3 c4 c5 c6 c7 c8 i ha h8;have ha:=n.cell;have hv:=n.free;have kh:¬cq' = 1:=by omega
   go_upto_region 11 with (fail);have hl:(d.queue.drop 1).length=399:=by simp;omega
   have hD:=(hZ.drop wC 1 hO).mono f.size;rw[hl,Nat.one_mul] at hD;have hU:=uN hD n (by decide) 1 (.slice (some ⟨gq,offq+9,none⟩) 399 (cq' - 1));have h0:=uN (h2.mono f.size) n (by decide) 1 (.slice (some ⟨gq,offq+9,none⟩) 399 (cq' - 1));have hc:=n.setCell 1 (.slice (some ⟨gq,offq+9,none⟩) 399 (cq' - 1));have hp:=hq.setCell_other ⟨w2.heap.size,1,none⟩ (.slice (some ⟨gq,offq+9,none⟩) 399 (cq' - 1)) (by simp;omega);have hF:=hG.setCell_other ⟨w2.heap.size,1,none⟩ (.slice (some ⟨gq,offq+9,none⟩) 399 (cq' - 1)) (by simp;omega);have hd:Below w.heap.size w (w5.setCell ⟨w2.heap.size,1,none⟩ (.slice (some ⟨gq,offq+9,none⟩) 399 (cq' - 1))):=hf.setCell (by simp;omega) _;have kd:w2.heap.size<(w5.setCell ⟨w2.heap.size,1,none⟩ (.slice (some ⟨gq,offq+9,none⟩) 399 (cq' - 1))).heap.size:=hc.lt;clear hZ hD h2 n hq hG hf hv ha;generalize w5.setCell ⟨w2.heap.size,1,none⟩ (.slice (some ⟨gq,offq+9,none⟩) 399 (cq' - 1))=w6 at *
   have ha:=hc.cell;have hQ:=hF.cell;obtain⟨e0,e1,e2,e3,e4,e5,e6,e7⟩:=uO p;have hP : #[Value.int .u8 p[0].toNat,Value.int .u8 p[1].toNat,Value.int .u8 p[2].toNat,Value.int .u8 p[3].toNat,Value.int .u8 p[4].toNat,Value.int .u8 p[5].toNat,Value.int .u8 p[6].toNat,Value.int .u8 p[7].toNat]=gQ p:=rfl;clear hP
   go_wp2_with (at_builtin;(refine eH rfl _ _ 35 rfl w.heap.size 186 _ 9 16 underlying35 put_info rfl (by decide) _ 399 ((d.queue.drop 1).flatMap Eg) rfl ?own (some ⟨w6.heap.size,0,none⟩) 1 1 (Eg ((k:Int),p)) rfl (fun h=>(by cases h)) (az _) rfl ?rd (fun u hu=>DC [((k:Int),p)] u (by simpa using hu)) (by unfold maxLen;omega) (by omega) ?bb ?app))
   case own=>exact hU.alloc _
   case rd=>exact eB.new _ (Uv ((k:Int),p)) _
   case bb=>exact eF hd.size _
   intro v w4 t l;have s:=hU.alloc (.cells #[.int .i64 k,.int .u8 p[0].toNat,.int .u8 p[1].toNat,.int .u8 p[2].toNat,.int .u8 p[3].toNat,.int .u8 p[4].toNat,.int .u8 p[5].toNat,.int .u8 p[6].toNat,.int .u8 p[7].toNat] 186);have hz:=yA (h0.alloc _) s (by decide) l;have c:=oC (hc.alloc _) s (by decide) l;have j:=oC (hp.alloc _) s (by decide) l;have y:Below w.heap.size w w4:=(hd.alloc hd.size _).grown l (eF hd.size _) s.ge;obtain⟨x4,c4,rfl,_⟩:=t.rd;clear e0 e1 e2 e3 e4 e5 e6 e7 hQ l s h0 hU hc hp hF ha;have ha:=c.cell;have hv:=c.free
   go_wp2_with (refine ax rfl _ (.tmp 6) (.tmp 56) rfl (w.heap.size+2) #[.slice (some ⟨gb,offb,none⟩) d.blocks.length cb',.slice x4 (399+1) c4] rfl rfl _ _ (j.setCell_other _ _ (by simp;omega)) (Dh _ _ _ _) (zH _ _) (pE _ _ _ _ _ _) ?_)
   intro w7 hM a;have g:=j.setCell_other ⟨w2.heap.size,1,none⟩ (.slice x4 (399+1) c4) (by simp;omega);have hS:=ay (uN hz c (by decide) 1 (.slice x4 (399+1) c4)) g (by decide) a;have hm:=ay (uN t c (by decide) 1 (.slice x4 (399+1) c4)) g (by decide) a;have hi:Below w.heap.size w (w4.setCell ⟨w2.heap.size,1,none⟩ (.slice x4 (399+1) c4)):=y.setCell (by simp;omega) _;have hR:Below w.heap.size w w7:=hi.grown a hi.size (fun k hk=>by cases hk;omega);have hh:=hM.cell;clear hz t c j g a y hi ha hv;go_wp2;simp[bodyPost,results,go_sem,results178,hh,q1];refine⟨_,_,⟨rfl,rfl⟩,?_,hR⟩;rw[Q2.out,Q3.out];rw[hX,bD];have e9:(d.queue.drop 1++[((k:Int),p)]).length=399+1:=by simp;omega
   exact⟨by rw[dM];exact hS,by rw[e9,gK];simpa using hm⟩
  have Q3:=ae (Og d ((k:Int),p) h4);have kc : ((d.queue.length:Int)==400)=false:=by simp;omega
  have hQ:=hj.cell;obtain⟨e0,e1,e2,e3,e4,e5,e6,e7⟩:=uO p;have hP : #[Value.int .u8 p[0].toNat,Value.int .u8 p[1].toNat,Value.int .u8 p[2].toNat,Value.int .u8 p[3].toNat,Value.int .u8 p[4].toNat,Value.int .u8 p[5].toNat,Value.int .u8 p[6].toNat,Value.int .u8 p[7].toNat]=gQ p:=rfl;clear hP
  go_wp2_with (at_builtin;(refine eH rfl _ _ 35 rfl w.heap.size 186 _ 9 16 underlying35 put_info rfl (by decide) _ d.queue.length (d.queue.flatMap Eg) rfl ?own2 (some ⟨w3.heap.size,0,none⟩) 1 1 (Eg ((k:Int),p)) rfl (fun h=>(by cases h)) (az _) rfl ?rd2 (fun u hu=>DC [((k:Int),p)] u (by simpa using hu)) (by unfold maxLen;omega) (by omega) ?bb2 ?app2))
  case own2=>exact (hg.q.mono f.size).alloc _
  case rd2=>exact eB.new _ (Uv ((k:Int),p)) _
  case bb2=>exact eF i.size _
  intro v w4 t l;have s:=(hg.q.mono f.size).alloc (.cells #[.int .i64 k,.int .u8 p[0].toNat,.int .u8 p[1].toNat,.int .u8 p[2].toNat,.int .u8 p[3].toNat,.int .u8 p[4].toNat,.int .u8 p[5].toNat,.int .u8 p[6].toNat,.int .u8 p[7].toNat] 186);have hz:=yA ((hg.b.mono f.size).alloc _) s (by decide) l;have c:=oC (r.alloc _) s (by decide) l;have j:=oC (hb.alloc _) s (by decide) l;have y:Below w.heap.size w w4:=(i.alloc i.size _).grown l (eF i.size _) s.ge;obtain⟨x4,c4,rfl,_⟩:=t.rd;clear e0 e1 e2 e3 e4 e5 e6 e7 hQ l s hg r hb hj ha;have ha:=c.cell;have hv:=c.free
  go_wp2_with (refine ax rfl _ (.tmp 6) (.tmp 56) rfl (w.heap.size+2) #[.slice xb d.blocks.length cb',.slice x4 (d.queue.length+1) c4] rfl rfl _ _ (j.setCell_other _ _ (by simp;omega)) (Dh _ _ _ _) (zH _ _) (pE _ _ _ _ _ _) ?_)
  intro w5 hM a;have g:=j.setCell_other ⟨w2.heap.size,1,none⟩ (.slice x4 (d.queue.length+1) c4) (by simp;omega);have hS:=ay (uN hz c (by decide) 1 (.slice x4 (d.queue.length+1) c4)) g (by decide) a;have hm:=ay (uN t c (by decide) 1 (.slice x4 (d.queue.length+1) c4)) g (by decide) a;have hi:Below w.heap.size w (w4.setCell ⟨w2.heap.size,1,none⟩ (.slice x4 (d.queue.length+1) c4)):=y.setCell (by simp;omega) _;have hf:Below w.heap.size w w5:=hi.grown a hi.size (fun k hk=>by cases hk;omega);have hh:=hM.cell;clear hz t c j g a y hi ha hv;go_wp2;simp[bodyPost,results,go_sem,results178,hh,q1];refine⟨_,_,⟨rfl,rfl⟩,?_,hf⟩;rw[Q2.out,Q3.out];exact⟨hS,by simpa[gK] using hm⟩
 have q1:aI d k=cB d:=by unfold aI;rw[if_pos hw]
 have q2:dz d k p=⟨[],[]⟩:=by unfold dz;rw[if_neg (by omega)]
 have ki : (cB d != 0)=true:=by simpa using hw
 go_wp2_with (refine ax rfl _ (.tmp 6) (.tmp 15) rfl (w.heap.size+2) #[.slice none 0 0,.slice none 0 0] rfl rfl _ _ m rfl disk_size (pE _ _ _ _ _ _) ?_)
 intro w2 hN l;have z:=f.grown l f.size (fun k hk=>by cases hk;omega);have hh:=hN.cell;go_wp2;simp[bodyPost,results,go_sem,results178,hh,q1];exact⟨_,_,⟨rfl,rfl⟩,by rw[q2];exact kw.nil _ _,z⟩
theorem JF (n:Int) (w:World) :
  Calls Tryz.prog 42 #[.int .i64 n] w fun e w' => ∃vb vq,e = .returned (.tuple #[.agg #[vb,vq],.int .i64 (Na n)])∧kw w' w.heap.size vb vq (uk n)∧Below w.heap.size w w':=by
 have d:=aJ.new w #[.slice none 0 0,.slice none 0 0] 37;have b:Below w.heap.size w (w.alloc (.cells #[.slice none 0 0,.slice none 0 0] 37)):=(Below.refl _ _).alloc (az _) _;unfold uk Na
 by_cases h:0≤n∧n≤80
 ·obtain⟨m,rfl⟩:=kW h.1;have h1:(m:Int)≤80:=h.2;rw[if_pos h,if_pos h];go_enter func42,ntmps42
  go_wp2_with (refine wB _ rfl (.tmp 11) (.tmp 11) 34 rfl Kl 100 _ 8 8 zPg wN (by decide) underlying34 page_info rfl .i64 .i64 m m m rfl rfl rfl rfl (by omega) (by unfold maxLen;omega) ?_)
  intro w2 ho f;have c:=d.grown f (by intro he;cases he);have a:=b.grown f b.size (fun k hk=>by cases hk)
  go_wp2_with (refine ax rfl _ (.tmp 2) (.tmp 13) rfl w.heap.size #[.slice (some ⟨w.heap.size+1,0,none⟩) m m,.slice none 0 0] rfl rfl _ _ c (Dh _ _ _ _) (zH _ _) (pE _ _ _ _ _ _) ?_)
  intro w3 l g;have p:=ay ho c (by decide) g;have j:=a.grown g a.size (fun k hk=>by cases hk;exact az _);have i:=l.cell;go_wp2;simp[bodyPost,results,go_sem,results42,i];exact⟨_,_,⟨rfl,rfl⟩,⟨by simpa using p.mono (GY _),Own.nil _ _ _ _⟩,j⟩
 rw[if_neg h,if_neg h];have h' : n<0∨80<n:=by omega
 clear h;rcases h' with h|h
 all_goals
  go_enter func42,ntmps42
  go_wp2_with (refine ax rfl _ (.tmp 2) (.tmp 10) rfl w.heap.size #[.slice none 0 0,.slice none 0 0] rfl rfl _ _ d rfl disk_size (pE _ _ _ _ _ _) ?_)
  all_goals
   intro w2 o f;have a:=b.grown f b.size (fun k hk=>by cases hk;exact az _);have i:=o.cell;go_wp2;simp[bodyPost,results,go_sem,results42,i];exact⟨_,_,⟨rfl,rfl⟩,kw.nil _ _,a⟩
theorem XB (p q:Page) (W:World):(Op.equalIn 10000 100 (.agg #[.int .u8 p[0].toNat,.int .u8 p[1].toNat,.int .u8 p[2].toNat,.int .u8 p[3].toNat,.int .u8 p[4].toNat,.int .u8 p[5].toNat,.int .u8 p[6].toNat,.int .u8 p[7].toNat]) (.agg #[.int .u8 q[0].toNat,.int .u8 q[1].toNat,.int .u8 q[2].toNat,.int .u8 q[3].toNat,.int .u8 q[4].toNat,.int .u8 q[5].toNat,.int .u8 q[6].toNat,.int .u8 q[7].toNat])).run Tryz.prog W = .ok (p==q) W:=
 Iw W 9998 _ _ underlying100 underlying5 byte_size p q
theorem GG (p:Page):gQ p=#[.int .u8 p[0].toNat,.int .u8 p[1].toNat,.int .u8 p[2].toNat,.int .u8 p[3].toNat,.int .u8 p[4].toNat,.int .u8 p[5].toNat,.int .u8 p[6].toNat,.int .u8 p[7].toNat]:=rfl
def xV (f:Fr):Array Value:=#[.int .u8 f.p[0].toNat,.int .u8 f.p[1].toNat,.int .u8 f.p[2].toNat,.int .u8 f.p[3].toNat,.int .u8 f.p[4].toNat,.int .u8 f.p[5].toNat,.int .u8 f.p[6].toNat,.int .u8 f.p[7].toNat,.int .i64 f.r,.bool f.u,.bool f.d,.int .i64 f.f,.int .i64 f.i]
def oH (f:Fr):List Value:=(xV f).toList
theorem iO (f:Fr):(oH f).length=13:=rfl
structure VC (w:World) (b off:Nat) (f:Fr):Prop where
 c0:w.cell? ⟨b,off,none⟩=some (.int .u8 f.p[0].toNat)
 c1:w.cell? ⟨b,off+1,none⟩=some (.int .u8 f.p[1].toNat)
 c2:w.cell? ⟨b,off+2,none⟩=some (.int .u8 f.p[2].toNat)
 c3:w.cell? ⟨b,off+3,none⟩=some (.int .u8 f.p[3].toNat)
 c4:w.cell? ⟨b,off+4,none⟩=some (.int .u8 f.p[4].toNat)
 c5:w.cell? ⟨b,off+5,none⟩=some (.int .u8 f.p[5].toNat)
 c6:w.cell? ⟨b,off+6,none⟩=some (.int .u8 f.p[6].toNat)
 c7:w.cell? ⟨b,off+7,none⟩=some (.int .u8 f.p[7].toNat)
 c8:w.cell? ⟨b,off+8,none⟩=some (.int .i64 f.r)
 c9:w.cell? ⟨b,off+9,none⟩=some (.bool f.u)
 ca:w.cell? ⟨b,off+10,none⟩=some (.bool f.d)
 cb:w.cell? ⟨b,off+11,none⟩=some (.int .i64 f.f)
 cc:w.cell? ⟨b,off+12,none⟩=some (.int .i64 f.i)
theorem Jq {l:List Fr} (h:eB w a (l.flatMap oH)) (k:Nat) (hk:k<l.length):∃b off,a=some ⟨b,off,none⟩∧VC w b (off+k*13) l[k]:=by
 obtain⟨b,off,ha,hc⟩:=h.elem iO (by decide) k hk;exact⟨b,off,ha,hc 0 _ rfl,hc 1 _ rfl,hc 2 _ rfl,hc 3 _ rfl,hc 4 _ rfl,hc 5 _ rfl,hc 6 _ rfl,hc 7 _ rfl,hc 8 _ rfl,hc 9 _ rfl,hc 10 _ rfl,hc 11 _ rfl,hc 12 _ rfl⟩
theorem VV {f:Fr} (h:aJ w b (xV f) T):VC w b 0 f:=
 ⟨h.cell 0,h.cell 1,h.cell 2,h.cell 3,h.cell 4,h.cell 5,h.cell 6,h.cell 7,h.cell 8,h.cell 9,h.cell 10,h.cell 11,h.cell 12⟩
theorem zA (f:Fr) (b off:Nat) (w:World) (h:VC w b off f):Calls Tryz.prog 142 #[.pointer (some ⟨b,off,none⟩)] w fun e w'=>e = .returned (.int .i64 (bO f))∧w' = w:=by
 obtain⟨c0,c1,c2,c3,c4,c5,c6,c7,c8,c9,ca,cb,cc⟩:=h;have hE:∀W,(Op.equalIn 10000 100 (.agg #[.int .u8 f.p[0].toNat,.int .u8 f.p[1].toNat,.int .u8 f.p[2].toNat,.int .u8 f.p[3].toNat,.int .u8 f.p[4].toNat,.int .u8 f.p[5].toNat,.int .u8 f.p[6].toNat,.int .u8 f.p[7].toNat]) (.agg #[.int .u8 0,.int .u8 0,.int .u8 0,.int .u8 0,.int .u8 0,.int .u8 0,.int .u8 0,.int .u8 0])).run Tryz.prog W = .ok (f.p==zPg) W:=XB f.p zPg;go_enter func142,ntmps142;go_wp2
 all_goals go_ret
 all_goals refine⟨?_,rfl⟩
 all_goals clear c0 c1 c2 c3 c4 c5 c6 c7 c8 c9 ca cb cc hE
 all_goals go_light
 all_goals refine congrArg (fun z=>Ending.returned (.int .i64 z)) ?_
 all_goals simp only[bO,Jm,JU,Dj,qJ,dh,decide_eq_true_eq,ne_eq,bne_iff_ne]
 all_goals simp_all
 all_goals omega
theorem frame_info:(Tryz.prog.info? 132).map (fun i=>(i.zero,i.size,i.bytes))=some (some (.agg #[.int .u8 0,.int .u8 0,.int .u8 0,.int .u8 0,.int .u8 0,.int .u8 0,.int .u8 0,.int .u8 0,.int .i64 0,.bool false,.bool false,.int .i64 0,.int .i64 0]),13,40):=by kernel_rfl
theorem frame_size:(Tryz.prog.info? 132).map (·.size)=some 13:=by kernel_rfl
theorem LP (l:List Fr):(l.flatMap oH).length=l.length*13:=Pw.flat_len oH 13 iO l
theorem uf (f:Fr):(xV f).all (·.oneCell')=true:=by simp[xV,Value.oneCell']
theorem Lm (l:List Fr):∀u∈l.flatMap oH,u.oneCell' = true:=by
 intro u hu;obtain⟨p,_,hp⟩:=ji.1 hu;simp only[oH,xV,fE,nZ,or_false] at hp;rcases hp with rfl|rfl|rfl|rfl|rfl|rfl|rfl|rfl|rfl|rfl|rfl|rfl|rfl<;>rfl
theorem Hy (l:List Fr) (a:Option Addr) (c:Nat) (w:World) (hle:l.length≤c) (hnil:a=none→c=0) (hrd:eB w a (l.flatMap oH)) (hb:l.length*40≤140737488355328) :
  Calls Tryz.prog 100 #[.slice a l.length c] w fun e w' => ∃v,e = .returned v∧Own w' w.heap.size 132 13 v l.length (l.flatMap oH)∧Below w.heap.size w w':=by
 cases a with
 | none=>
  have h0:=hnil rfl;have hl:l=[]:=jX (by omega);subst hl;subst h0;have hq:=fun W=>lI (P:=Tryz.prog) W 29 _ none 0 0 0 0 underlying29;go_enter func100,ntmps100;go_wp2;go_ret;exact⟨_,rfl,by simpa using Own.nil _ _ _ _,Below.refl _ _⟩
 | some ad=>
  have hq:=fun W=>lI (P:=Tryz.prog) W 29 _ (some ad) l.length c 0 0 underlying29;go_enter func100,ntmps100
  go_wp2_with (at_builtin;go_must (refine eH rfl _ _ 29 rfl w.heap.size 132 (.agg #[.int .u8 0,.int .u8 0,.int .u8 0,.int .u8 0,.int .u8 0,.int .u8 0,.int .u8 0,.int .u8 0,.int .i64 0,.bool false,.bool false,.int .i64 0,.int .i64 0]) 13 40 underlying29 frame_info rfl (by decide) _ 0 [] rfl ?own (some ad) l.length c (l.flatMap oH) rfl (fun h=>(by cases h)) hle (LP l) ?rd (Lm l) (by unfold maxLen;omega) (by simpa using hb) ?bb ?k))
  case own=>exact⟨rfl,.inr ⟨w.heap.size,0,0,#[],rfl,az _,aJ.new _ _ _,az _,bB _,by simp,fun j u h=>by simp at h⟩⟩
  case rd=>exact hrd.below ((Below.refl _ _).alloc (az _) _)
  case bb=>exact dV _ _
  intro v w1 b d;go_wp2;go_ret;exact⟨v,rfl,by simpa using b,((Below.refl _ _).alloc (az _) _).grown d (dV _ _) (fun k hk=>by cases hk;exact az _)⟩
structure Qe (w:World) (a:Option Addr) (c:Nat) (m:Mem):Prop where
 le:m.fs.length≤c
 mx:c≤maxLen
 nil:a=none→c=0
 rd:eB w a (m.fs.flatMap oH)
theorem Qe.below {m:Mem} (h:Qe w a c m) (hb:Below w.heap.size w w'):Qe w' a c m:={ h with rd:=h.rd.below hb }
theorem yj {m:Mem} (h:Own w B 132 13 v m.fs.length (m.fs.flatMap oH)):∃a c,v = .slice a m.fs.length c∧Qe w a c m:=by
 obtain⟨a,c,rfl,h1,h2,h3,h4⟩:=h.rd;exact⟨a,c,rfl,h1,h2,h3,h4⟩
theorem uA (m:Mem) (a:Option Addr) (c:Nat) (w:World) (h:Qe w a c m) :
  Calls Tryz.prog 92 #[.agg #[.slice a m.fs.length c,.int .i64 m.hand]] w fun e w'=>e = .returned (.int .i64 (bC m))∧Below w.heap.size w w':=by
 have hl:=aV h.le h.mx;unfold maxLen at hl;go_enter func92,ntmps92;go_upto_region 1 with (fail);refine jl (fun W=>Code.wp _ _ _ _ W) fun W0 d l n => ?_;clear n;have r:=l.cell;have h0:=h.below d
 by_cases h4:40<m.fs.length
 ·have hW:bC m=4:=by unfold bC;rw[if_pos h4]
  have p : (40:Int)<(m.fs.length:Int):=by omega
  go_wp2;go_ret;rw[hW];exact⟨rfl,d⟩
 have p : ¬(40:Int)<(m.fs.length:Int):=by omega
 go_wp2
 go_loopw [12] (fun i wr => ∃k:Nat,k≤m.fs.length∧i = .int .i64 k∧W0=wr∧∀i (h:i<m.fs.length),i<k→bO m.fs[i]=0) (fun i _=>m.fs.length-(intOf i).toNat)
 case atStart=>exact⟨0,bB _,rfl,rfl,fun i _ h=>absurd h (gL _)⟩
 case round=>
  obtain⟨k,hk,rfl,rfl,j⟩:=hrel;have g:=ae j;clear j
  by_cases hlt:k<m.fs.length
  ·obtain⟨b,off,rfl,hc⟩:=Jq h0.rd k hlt;have q:(k:Int)<(m.fs.length:Int):=by omega
   by_cases he:bO m.fs[k]=0
   ·have o:=ae he;have hf:=zA m.fs[k] b _ _ hc;rw[he] at hf;clear he hc
    go_wp2_with fail
    refine hf.mono ?_;rintro e w2 ⟨rfl,rfl⟩;go_wp2;go_roundw
    case rel=>exact⟨k+1,by omega,by go_num,trivial,nH g.out hlt o.out⟩
    case measure=>simp[intOf];omega
   have hf:=zA m.fs[k] b _ _ hc;have hW:bC m=bO m.fs[k]:=by have:=firstEf_at _ k hlt g.out he;unfold bC;rw[if_neg h4,this,if_pos he]
   have hn:(bO m.fs[k] != 0)=true:=by simpa using he
   clear hc;have f:=ae hW;clear hW
   go_wp2_with fail
   refine hf.mono ?_;rintro e w2 ⟨rfl,rfl⟩;go_wp2;go_ret;rw[f.out];exact⟨rfl,d⟩
  have h0:firstEf m.fs=0:=firstEf_none _ (fun i hi=>g.out i hi (by omega));have hW:bC m=if m.hand<0∨(0<m.hand∧(m.fs.length:Int)≤m.hand) then 3 else 0:=by unfold bC;rw[if_neg h4,h0];rfl
  have f:=ae hW;clear hW h0
  by_cases n1:m.hand<0
  ·go_wp2
   all_goals
    go_ret;rw[f.out,if_pos (.inl n1)];exact⟨rfl,d⟩
  by_cases n2:(0:Int)<m.hand
  ·by_cases n3:(m.fs.length:Int)≤m.hand
   ·go_wp2
    all_goals
     go_ret;rw[f.out,if_pos (.inr ⟨n2,n3⟩)];exact⟨rfl,d⟩
   go_wp2
   all_goals
    go_ret;rw[f.out,if_neg (by omega)];exact⟨rfl,d⟩
  go_wp2
  all_goals
   go_ret;rw[f.out,if_neg (by omega)];exact⟨rfl,d⟩
theorem mem_size:(Tryz.prog.info? 31).map (·.size)=some 2:=by kernel_rfl
theorem fI (a:Option Addr) (n c:Nat) (k:Int):(#[Value.slice a n c,.int .i64 k]:Array Value).all (·.oneCell')=true:=by simp[Value.oneCell']
theorem wK (a b:Option Addr) (n c m e:Nat) (k l:Int):(#[Value.slice a n c,.int .i64 k]:Array Value).size=(#[Value.slice b m e,.int .i64 l]:Array Value).size:=rfl
theorem RY (v u:Value):(Tryz.prog.info? 31).map (·.size)=some (#[v,u]:Array Value).size:=mem_size
def WH (B:Nat) (m:Mem):nG:=⟨fun v w => ∃vb,v = .agg #[vb,.int .i64 m.hand]∧Own w B 132 13 vb m.fs.length (m.fs.flatMap oH),fun _ _ _ hb ⟨vb,h1,h2⟩=>⟨vb,h1,h2.below hb⟩⟩
theorem yH (m:Mem) (a:Option Addr) (c:Nat) (w:World) (h:Qe w a c m) (h40:m.fs.length*40≤140737488355328) :
  Calls Tryz.prog 57 #[.agg #[.slice a m.fs.length c,.int .i64 m.hand]] w fun e w' => ∃vb,e = .returned (.agg #[vb,.int .i64 m.hand])∧Own w' w.heap.size 132 13 vb m.fs.length (m.fs.flatMap oH)∧Below w.heap.size w w':=by
 go_enter func57,ntmps57;go_upto_region 1 with (fail);refine vg (fun W=>Code.wp _ _ _ _ W) fun w0 b l j s => ?_;clear s;have h0:=h.below b;refine aP 6 [_,_,.r 2 ((iw w.heap.size 132 13 m.fs.length (m.fs.flatMap oH))),_,_,.r 5 ((WH w.heap.size m))] (Gf w.heap.size 0 rfl rfl (Gl l (V:=.slice a m.fs.length c) (by simp[underlying29]) rfl rfl rfl rfl (aj ?_ (Gf w.heap.size 1 rfl rfl (Gl l (V:=.int .i64 m.hand) (by simp[underlying3]) rfl rfl rfl rfl (aj ?_ (aF))))))) (fun _=>rfl) rfl ?_
 ·intro ρ y W hw hn hb hd;have E4:=hw 4 1 rfl;have h1:y 1=_:=hd 1 rfl;have EF:∀f,ρ (.func f) = .func (.func f) #[] #[]:=fun f=>hn (.func f) trivial;refine aK _ _ (ag rfl) (aQ rfl (EF _) func100 (by kernel_rfl) (by kernel_rfl) (by simp only[bT,bF,bI,E4,h1,EF];rfl)) ?_;refine (Hy m.fs a c W h0.le h0.nil (h0.below hb).rd h40).mono ?_;rintro e w1 ⟨v,rfl,ho,t⟩;exact⟨v,rfl,t,ho.mono (aV b.size hb.size)⟩
 ·intro ρ y W hw hn hb hd;have E5:=hw 5 2 rfl;have h2:=hd 2 rfl;have E7:=hw 7 4 rfl;have h4:y 4=_:=hd 4 rfl;obtain⟨x2,c2,e2,_⟩:=Own.rd h2;refine ak (.agg #[y 2,.int .i64 m.hand]) (ag rfl) (by simp[execOp,go_sem,E5,E7,h4,e2]) ?_;exact⟨_,rfl,h2⟩
 intro y WA g i;have q:((iw w.heap.size 132 13 m.fs.length (m.fs.flatMap oH))).r (y 2) WA:=i 2 (by decide);have p:((WH w.heap.size m)).r (y 5) WA:=i 5 (by decide);clear i;obtain⟨vb,e5,ho⟩:=p;rw[e5];clear q e5;have d:=ah b g;obtain⟨xb,cb',rfl,_⟩:=ho.rd;refine ax rfl _ (.tmp 2) (.tmp 8) rfl (w.heap.size+1) _ rfl rfl _ _ (j.ext g) rfl mem_size (by simp[Value.oneCell']) ?_;intro w2 hq o;have n:Below w.heap.size w w2:=d.grown o d.size (fun k hk=>by cases hk;omega);have hc:=hq.cell;go_wp2;simp[bodyPost,results,go_sem,results57,hc];exact⟨ay ho (j.ext g) (by decide) o,n⟩
theorem zV (m:Mem) (a:Option Addr) (c:Nat) (w:World) (h:Qe w a c m) :
  Calls Tryz.prog 194 #[.agg #[.slice a m.fs.length c,.int .i64 m.hand]] w fun e w'=>e = .returned (.int .i64 (fe m.fs))∧Below w.heap.size w w':=by
 have hl:=aV h.le h.mx;unfold maxLen at hl;go_enter func194,ntmps194;go_upto_region 1 with (fail);refine jl (fun W=>Code.wp _ _ _ _ W) fun W0 q g l => ?_;have p:=g.cell;clear l;go_wp2;clear p g
 go_loopw [3,9] (fun s i wr => ∃(k n:Nat),k≤m.fs.length∧i = .int .i64 k∧s = .int .i64 n∧n≤k∧Below w.heap.size w wr∧Hid (fe (m.fs.take k)=n)) (fun _ i _=>m.fs.length-(intOf i).toNat)
 case atStart=>exact⟨0,0,bB _,rfl,rfl,az _,q,ae rfl⟩
 case round=>
  obtain⟨k,n,hk,rfl,rfl,hn,d,hf⟩:=hrel
  by_cases hlt:k<m.fs.length
  ·obtain⟨b,off,rfl,hc⟩:=Jq (h.below d).rd k hlt;obtain⟨c0,c1,c2,c3,c4,c5,c6,c7,c8,c9,ca,cb,cc⟩:=hc;have ht:=Lp m.fs k hlt;rw[hf.out] at ht
   by_cases hr:m.fs[k].r=0
   ·rw[if_pos hr] at ht;have f:=ae ht;have o:(m.fs[k].r==0)=true:=by simpa using hr
    clear ht hr;go_wp2;go_roundw
    case rel=>exact⟨k+1,n+1,by omega,by go_num,by go_num,by omega,d.alloc d.size _,f⟩
    case measure=>simp[intOf];omega
   rw[if_neg hr] at ht;have f:=ae ht;have o:(m.fs[k].r==0)=false:=by simpa using hr
   clear ht hr;go_wp2;go_roundw
   case rel=>exact⟨k+1,n,by omega,by go_num,rfl,by omega,d.alloc d.size _,f⟩
   case measure=>simp[intOf];omega
  have j:Hid (fe m.fs=n):=by have:=hf.out;rw[ou (by omega)] at this;exact this
  go_wp2;go_ret;rw[j.out];exact⟨rfl,d⟩
theorem SK (n:Int) (w:World) :
  Calls Tryz.prog 40 #[.int .i64 n] w fun e w' => ∃vb,e = .returned (.tuple #[.agg #[vb,.int .i64 0],.int .i64 (MC n)])∧Own w' w.heap.size 132 13 vb (vD n).fs.length ((vD n).fs.flatMap oH)∧Below w.heap.size w w':=by
 have c:=aJ.new w #[.slice none 0 0,.int .i64 0] 31;have a:Below w.heap.size w (w.alloc (.cells #[.slice none 0 0,.int .i64 0] 31)):=(Below.refl _ _).alloc (az _) _;unfold vD MC;go_enter func40,ntmps40
 by_cases hn:0≤n∧n≤40
 ·obtain⟨n,rfl⟩:=kW hn.1;rw[if_pos hn,if_pos hn];have n1:¬(40:Int)<(n:Int):=by omega
  have n2:n≤40:=by omega
  clear hn
  go_wp2_with (refine wB _ rfl (.tmp 13) (.tmp 13) 29 rfl oH 132 _ 13 40 fr0 iO (by decide) underlying29 frame_info rfl .i64 .i64 n n n rfl rfl rfl rfl (by omega) (by unfold maxLen;omega) ?_)
  intro w2 ho o;have j:=c.grown o (by intro he;cases he);have d:=a.grown o a.size (fun k hk=>by cases hk);clear c o a;have hr:w.heap.size+1<w2.heap.size:=by obtain⟨cs,hk⟩:=rO ho _ rfl;simpa using hk.lt
  go_upto_region 4 with (fail);refine jl (fun W=>Code.wp _ _ _ _ W) fun w3 r u hh => ?_;clear hh;have p:=ah d r;have f:=j.ext r;have hc:=ho.below r;have hf:=u.cell;clear j ho r;go_wp2;clear hf
  go_loopw [19] (fun i wr => ∃(k:Nat) (cur:List Fr),k≤n∧i = .int .i64 k∧Below w.heap.size w wr∧aJ wr w.heap.size #[.slice none 0 0,.int .i64 0] 31∧aJ wr w2.heap.size #[.slice (some ⟨w.heap.size+1,0,none⟩) n n,.int .i64 0] 31∧Own wr w.heap.size 132 13 (.slice (some ⟨w.heap.size+1,0,none⟩) n n) n (cur.flatMap oH)∧Hid (cur.length=n∧∀i,i<n→cur[i]?=some (if i<k then frZ else fr0))) (fun i _=>n-(intOf i).toNat)
  case atStart=>exact⟨0,List.replicate n fr0,bB _,rfl,p,f,u,hc.mono (by simp),ae ⟨by simp,fun i hi=>by simp[hi]⟩⟩
  case round=>
   clear f u hc p;obtain⟨k,cur,hk,rfl,q,l,hm,ho,b⟩:=hrel;have hf:=hm.cell
   by_cases hlt:k<n
   ·have m:=b.out.1;have v:k<cur.length:=by omega
    have x:cur[k]'v=fr0:=by have:=b.out.2 k hlt;rw[aN v] at this;simpa using this
    obtain⟨g,off,cap,hv,hw,ht,⟨csg,hu⟩,hg,hp,s⟩:=vS iO (by decide) m ho k hlt 11 (by decide) (.int .i64 (-1)) frZ (by rw[x];rfl);cases hv;have hq:=hg 11 (.int .i64 0) (by rw[x];rfl);simp only[dA] at hq hp s;have hd:Hid ((cur.set k frZ).length=n∧∀i,i<n→(cur.set k frZ)[i]?=some (if i<k+1 then frZ else fr0)):=by
     refine⟨by simp[m],fun i hi => ?_⟩;rw[qL]
     by_cases e:k=i
     ·subst e;simp[v]
     rw[if_neg e,b.out.2 i hi]
     by_cases h:i<k
     ·rw[if_pos h,if_pos (by omega)]
     ·rw[if_neg h,if_neg (by omega)]
    have hs:(k:Int)<(n:Int):=by omega
    clear x hg b m ho;go_wp2;go_roundw
    case rel=>exact⟨k+1,cur.set k frZ,by omega,by go_num,q.setCell (by simp) _,l.setCell_other _ _ (by simp),hm.setCell_other _ _ (by simp;omega),s,hd⟩
    case measure=>simp[intOf];omega
   have y:Hid (cur=List.replicate n frZ):=by
    apply nO;intro i
    by_cases hi:i<n
    ·rw[b.out.2 i hi,if_pos (by omega)];simp[hi]
    ·rw[fo (by have:=b.out.1;omega),fo (by simp;omega)]
   go_wp2_with (refine ax rfl _ (.tmp 2) (.tmp 28) rfl w.heap.size #[.slice (some ⟨w.heap.size+1,0,none⟩) n n,.int .i64 0] rfl rfl _ _ l (wK _ _ _ _ _ _ _ _) (RY _ _) (fI _ _ _ _) ?_)
   intro w5 hj t;have hb:=ay ho l (by decide) t;have ha:=q.grown t q.size (fun k hk=>by cases hk;exact az _);have z:=hj.cell;go_wp2;simp[bodyPost,results,go_sem,results40,z];rw[y.out] at hb;exact⟨hb,ha⟩
 rw[if_neg hn,if_neg hn];have h' : n<0∨40<n:=by omega
 clear hn;rcases h' with h|h
 all_goals
  go_wp2_with (refine ax rfl _ (.tmp 2) (.tmp 12) rfl w.heap.size #[.slice none 0 0,.int .i64 0] rfl rfl _ _ c rfl mem_size (fI _ _ _ _) ?_)
  all_goals
   intro w2 hl o;have d:=a.grown o a.size (fun k hk=>by cases hk;exact az _);have z:=hl.cell;go_wp2;simp[bodyPost,results,go_sem,results40,z];exact⟨Own.nil _ _ _ _,d⟩
theorem PO (f:Fr) (w:World):Calls Tryz.prog 207 #[.agg (xV f)] w fun e w'=>e = .returned (.bool (f.r==0))∧Below w.heap.size w w':=by
 go_enter func207,ntmps207;unfold xV;go_wp2;go_ret;exact⟨rfl,(Below.refl _ _).alloc (az _) _⟩
theorem Ph (l:List Fr) (a:Option Addr) (c:Nat) (w:World) (hrd:eB w a (l.flatMap oH)) (hl:l.length≤9223372036854775807) :
  Calls Tryz.prog 206 #[.slice a l.length c,.func (.func 207) #[] #[]] w fun e w'=>Below w.heap.size w w'∧((e = .returned (.int .i64 (-1))∧∀i (h:i<l.length),i<l.length→¬l[i].r=0)∨∃i,∃h:i<l.length,e = .returned (.int .i64 i)∧l[i].r=0∧∀j (h:j<l.length),j<i→¬l[j].r=0):=by
 go_enter func206,ntmps206;go_wp2
 go_loopw [8] (fun i wr => ∃j:Nat,j≤l.length∧i = .int .i64 j∧Below w.heap.size w wr∧∀i (h:i<l.length),i<j→¬l[i].r=0) (fun i _=>l.length-(intOf i).toNat)
 case atStart=>exact⟨0,bB _,rfl,Below.refl _ _,fun i _ h=>absurd h (gL _)⟩
 case round=>
  obtain⟨j,hj,rfl,d,m⟩:=hrel;have f:=ae m;clear m
  by_cases hlt:j<l.length
  ·obtain⟨b',off,rfl,hc⟩:=Jq (hrd.below d) j hlt;obtain⟨c0,c1,c2,c3,c4,c5,c6,c7,c8,c9,ca,cb,cc⟩:=hc;have b:=fun w=>PO l[j] w;unfold xV at b
   by_cases he:l[j].r=0
   ·rw[beq_iff_eq.2 he] at b;have g:=ae he;clear he
    go_wp2_with fail
    refine (b _).mono ?_;rintro e w2 ⟨rfl,k⟩;go_wp2;go_ret;exact⟨ah d k,.inr ⟨j,hlt,rfl,g.out,f.out⟩⟩
   rw[beq_eq_false_iff_ne.2 he] at b;have g:=ae he;clear he
   go_wp2_with fail
   refine (b _).mono ?_;rintro e w2 ⟨rfl,k⟩;go_wp2;go_roundw
   case rel=>exact⟨j+1,by omega,by go_num,ah d k,nH f.out hlt g.out⟩
   case measure=>simp[intOf];omega
  go_wp2;go_ret;exact⟨d,.inl ⟨rfl,fun i h _=>f.out i h (by omega)⟩⟩
theorem Fu (m:Mem) (p:Page) (file index:Int) (a:Option Addr) (c:Nat) (w:World) (h:Qe w a c m) :
  Calls Tryz.prog 195 #[.agg #[.slice a m.fs.length c,.int .i64 m.hand],.agg (gQ p),.int .i64 file,.int .i64 index] w fun e w' => ∃vb,e = .returned (.tuple #[.agg #[vb,.int .i64 (eG m p file index).hand],.int .i64 (gJ m p file index),.int .i64 (gF m p file index)])∧Own w' w.heap.size 132 13 vb (eG m p file index).fs.length ((eG m p file index).fs.flatMap oH)∧Below w.heap.size w w':=by
 go_enter func195,ntmps195;rw[GG]
 go_wp2_with fail
 refine RI (fun W=>Calls _ _ _ W _) fun W0 hF hj hv ha hQ => ?_;refine (uA m a c _ (h.below hF)).mono ?_;rintro e w1 ⟨rfl,hq⟩;have g:=ah hF hq;have hh:=hj.ext hq;have hu:=hv.ext hq;have d:=ha.ext hq;have h1:=h.below g;clear hj hv ha hq hF hQ
 by_cases hw:bC m=0
 ·rw[hw];have hW:m.fs.length≤40:=by
   unfold bC at hw;split at hw
   ·cases hw
   ·omega
  have hT:=hu.cell;go_upto_region 5 with (fail);refine jl (fun W=>Code.wp _ _ _ _ W) fun w2 hp hJ hP => ?_;have r:=ah g hp;have o:=hh.ext hp;have l:=d.ext hp;have h2:=h1.below hp;have hY:w.heap.size+3≤w1.heap.size:=by have:=d.lt;omega
  have u : aJ w2 w1.heap.size (xV (aZ p file index)) 132:=hJ;clear hT hu hh d h1 hp hP;have hf:=zA (aZ p file index) w1.heap.size 0 _ (VV u)
  by_cases hE:bO (aZ p file index)=0
  ·rw[hE] at hf
   go_wp2_with fail
   refine hf.mono ?_;rintro e w3 ⟨rfl,rfl⟩;have hd:=o.cell;clear hf
   go_wp2_with fail
   refine (Ph m.fs a c _ h2.rd (by omega)).mono ?_;rintro e w4 ⟨t,hC⟩;have f:=ah r t;have hg:=o.ext t;have j:=l.ext t;have hI:=u.ext t;have h4:=h2.below t;clear hd o l hJ u h2 t;rcases hC with ⟨rfl,hall⟩|⟨i,hi,rfl,hr,hno⟩
   ·have q1:gF m p file index=10:=by unfold gF;rw[if_neg (by omega),if_neg (by omega),if_pos (KH hall)]
    have q2:gJ m p file index=0:=by unfold gJ;rw[if_neg (by omega)]
    have q3:eG m p file index=noM:=by unfold eG;rw[if_neg (by omega)]
    clear hall
    go_wp2_with (refine ax rfl _ (.tmp 8) (.tmp 36) rfl (w.heap.size+2) #[.slice none 0 0,.int .i64 0] rfl rfl _ _ j rfl mem_size (fI _ _ _ _) ?_)
    intro w5 hb hc;have b:=f.grown hc f.size (fun k hk=>by cases hk;omega);have n:=hb.cell;go_wp2;simp[bodyPost,results,go_sem,results195,n,q1,q2,q3,noM];exact⟨Own.nil _ _ _ _,b⟩
   have hz:=KV hi hr hno;have q1:gF m p file index=0:=by unfold gF;rw[if_neg (by omega),if_neg (by omega),if_neg (by rw[hz];simp)]
   have q2:gJ m p file index=i:=by unfold gJ;rw[if_pos q1,hz];rfl
   have q3:eG m p file index=⟨m.fs.set i (aZ p file index),m.hand⟩:=by unfold eG;rw[if_pos q1,q2]
   have Q3:=ae q3;have Q2:=ae q2;have Q1:=ae q1;clear hno hr hz q1 q2 q3;have hd:=hg.cell
   go_wp2_with fail
   refine (yH m a c _ h4 (by omega)).mono ?_;rintro e w5 ⟨vb,rfl,ho,ht⟩;have b:=ah f ht;have z:=j.ext ht;have hH:=hI.ext ht;have hM:=f.size;obtain⟨xb,cb',rfl,_⟩:=yj ho;clear hd hg j hI h4 ht;go_upto_region 12 with (fail);refine jl (fun W=>Code.wp _ _ _ _ W) fun w6 hm hy hO => ?_;have q:=ah b hm;have y:=z.ext hm;have hG:=hH.ext hm;have hL:=ho.below hm;clear z hH ho hm hO;obtain⟨gb,offb,capb,curb,hN,h0,hs,hZ,hd,v⟩:=hL.put iO (by decide) i hi;cases hN;have hB:=hy.cell;have hA:=hG.cell;unfold xV aZ at hA;simp only at hA;have hX:(i:Int)<(m.fs.length:Int):=by omega
   clear hd
   go_wp2_with (refine gy rfl _ (.tmp 43) (.tmp 42) rfl gb (offb+i*13) (xV (aZ p file index)) rfl rfl curb 132 hs (by show _+13≤_;omega) frame_size (uf _) ?_)
   intro w7 hK s;have hV:=v w7 (aZ p file index) hK;have hS:=aG hy hs (by decide) s;have x:=aG y hs (by decide) s;have hl:Below w.heap.size w w7:=q.grown s q.size (fun k hk=>by cases hk;omega);clear hK v hs hy y hL hB hA s q hG;have hB:=hS.cell
   go_wp2_with (refine ax rfl _ (.tmp 8) (.tmp 44) rfl (w.heap.size+2) #[.slice (some ⟨gb,offb,none⟩) m.fs.length cb',.int .i64 m.hand] rfl rfl _ _ x (wK _ _ _ _ _ _ _ _) mem_size (fI _ _ _ _) ?_)
   intro w8 hR hx;have hU:=ay hV x (by decide) hx;have hD:=hl.grown hx hl.size (fun k hk=>by cases hk;omega);have n:=hR.cell;clear hB;go_wp2;simp[bodyPost,results,go_sem,results195,n,Q1.out,Q2.out,Q3.out];exact⟨by have:=hU.mono (show w.heap.size≤w4.heap.size from hM);simpa using this,hD⟩
  have q1:gF m p file index=bO (aZ p file index):=by unfold gF;rw[if_neg (by omega),if_pos hE]
  have q2:gJ m p file index=0:=by unfold gJ;rw[if_neg (by omega)]
  have q3:eG m p file index=noM:=by unfold eG;rw[if_neg (by omega)]
  have hn:(bO (aZ p file index) != 0)=true:=by simpa using hE
  go_wp2_with fail
  refine hf.mono ?_;rintro e w3 ⟨rfl,rfl⟩;clear hf
  go_wp2_with (refine ax rfl _ (.tmp 8) (.tmp 29) rfl (w.heap.size+2) #[.slice none 0 0,.int .i64 0] rfl rfl _ _ l rfl mem_size (fI _ _ _ _) ?_)
  intro w5 hb hc;have b:=r.grown hc r.size (fun k hk=>by cases hk;omega);have n:=hb.cell;go_wp2;simp[bodyPost,results,go_sem,results195,n,q1,q2,q3,noM];exact⟨Own.nil _ _ _ _,b⟩
 have q1:gF m p file index=bC m:=by unfold gF;rw[if_pos hw]
 have q2:gJ m p file index=0:=by unfold gJ;rw[if_neg (by omega)]
 have q3:eG m p file index=noM:=by unfold eG;rw[if_neg (by omega)]
 have hn:(bC m != 0)=true:=by simpa using hw
 go_wp2_with (refine ax rfl _ (.tmp 8) (.tmp 20) rfl (w.heap.size+2) #[.slice none 0 0,.int .i64 0] rfl rfl _ _ d rfl mem_size (fI _ _ _ _) ?_)
 intro w5 hb hc;have b:=g.grown hc g.size (fun k hk=>by cases hk;omega);have n:=hb.cell;go_wp2;simp[bodyPost,results,go_sem,results195,n,q1,q2,q3,noM];exact⟨Own.nil _ _ _ _,b⟩
theorem Pi (m:Mem) (k n:Int) (a:Option Addr) (c:Nat) (w:World) (h:Qe w a c m) :
  Calls Tryz.prog 192 #[.agg #[.slice a m.fs.length c,.int .i64 m.hand],.int .i64 k,.int .i64 n] w fun e w' => ∃vb,e = .returned (.tuple #[.agg #[vb,.int .i64 (lw m k n).hand],.int .i64 (mI m k n)])∧Own w' w.heap.size 132 13 vb (lw m k n).fs.length ((lw m k n).fs.flatMap oH)∧Below w.heap.size w w':=by
 go_enter func192,ntmps192
 go_wp2_with fail
 refine vg (fun W=>Calls _ _ _ W _) fun W0 hE hj hf hO => ?_;refine (uA m a c _ (h.below hE)).mono ?_;rintro e w1 ⟨rfl,ht⟩;have d:=ah hE ht;have hi:=hj.ext ht;have g:=hf.ext ht;have h1:=h.below d;clear hj hf ht hE hO;have hV:=hi.cell
 by_cases hw:bC m=0
 ·obtain⟨hX,hp,_,_⟩:=(dZ m).1 hw;rw[hw]
  by_cases hk:k<0∨(m.fs.length:Int)≤k
  ·have q1:mI m k n=5:=by unfold mI;rw[if_neg (by omega),if_pos (by omega)]
   have q3:lw m k n=noM:=by unfold lw;rw[if_neg (by omega)]
   clear hp;rcases hk with hk|hk
   all_goals
    go_wp2_with (refine ax rfl _ (.tmp 6) (.tmp 35) rfl (w.heap.size+1) #[.slice none 0 0,.int .i64 0] rfl rfl _ _ g rfl mem_size (fI _ _ _ _) ?_)
    all_goals
     intro w5 q s;have f:=(d).grown s (d).size (fun k hk=>by cases hk;omega);have i:=q.cell;go_wp2;simp[bodyPost,results,go_sem,results192,i,q1,q3,noM];exact⟨Own.nil _ _ _ _,f⟩
  obtain⟨k,rfl⟩:=kW (show 0≤k by omega);have hh:k<m.fs.length:=by omega
  have h3:¬(m.fs.length:Int)≤(k:Int):=by omega
  have h2:(k:Int)<(m.fs.length:Int):=by omega
  obtain⟨⟨h0,hZ,_⟩,_,_⟩:=(dC m.fs[k]).1 (hp _ (eZ hh));have hg:m.fs.getD (k:Int).toNat fr0=m.fs[k]:=by simp[hh]
  clear hp hk;obtain⟨b,off,rfl,hc⟩:=Jq h1.rd k hh;have c8:=hc.c8
  by_cases hr:m.fs[k].r=0
  ·have q1:mI m k n=5:=by unfold mI;rw[if_neg (by omega),hg,if_pos (.inr (.inr hr))]
   have q3:lw m k n=noM:=by unfold lw;rw[if_neg (by omega)]
   have hP:(m.fs[k].r==0)=true:=by simpa using hr
   clear hg
   go_wp2_with (refine ax rfl _ (.tmp 6) (.tmp 35) rfl (w.heap.size+1) #[.slice none 0 0,.int .i64 0] rfl rfl _ _ g rfl mem_size (fI _ _ _ _) ?_)
   all_goals
    intro w5 q s;have f:=(d).grown s (d).size (fun k hk=>by cases hk;omega);have i:=q.cell;go_wp2;simp[bodyPost,results,go_sem,results192,i,q1,q3,noM];exact⟨Own.nil _ _ _ _,f⟩
  have hP:(m.fs[k].r==0)=false:=by simpa using hr
  by_cases hn:n < -m.fs[k].r∨1000-m.fs[k].r<n
  ·have q1:mI m k n=3:=by unfold mI;rw[if_neg (by omega),hg,if_neg (by omega),if_pos hn]
   have q3:lw m k n=noM:=by unfold lw;rw[if_neg (by omega)]
   clear hg;rcases hn with hn|hn
   all_goals
    go_wp2_with (refine ax rfl _ (.tmp 6) (.tmp 56) rfl (w.heap.size+1) #[.slice none 0 0,.int .i64 0] rfl rfl _ _ g rfl mem_size (fI _ _ _ _) ?_)
    all_goals
     intro w5 q s;have f:=(d).grown s (d).size (fun k hk=>by cases hk;omega);have i:=q.cell;go_wp2;simp[bodyPost,results,go_sem,results192,i,q1,q3,noM];exact⟨Own.nil _ _ _ _,f⟩
  have q1:mI m k n=0:=by unfold mI;rw[if_neg (by omega),hg,if_neg (by omega),if_neg hn]
  have q3:lw m k n=⟨m.fs.set k (gD m.fs[k] n),m.hand⟩:=by unfold lw;rw[if_pos q1,hg];rfl
  have Q1:=ae q1;have Q3:=ae q3;have n1:¬n < -m.fs[k].r:=by omega
  have n2:¬1000-m.fs[k].r<n:=by omega
  clear hg q1 q3 hn hr
  go_wp2_with fail
  refine (yH m _ c _ h1 (by omega)).mono ?_;rintro e w2 ⟨vb,rfl,ho,hD⟩;have hm:=ah d hD;have p:=g.ext hD;have hx:=d.size;have h5:w.heap.size+2≤w1.heap.size:=by have:=g.lt;omega
  obtain⟨xb,cb',rfl,_⟩:=yj ho;clear hV hi g h1 hD hc c8;go_upto_region 9 with (fail);refine jl (fun W=>Code.wp _ _ _ _ W) fun w3 hs y hN => ?_;have hl:=ah hm hs;have hd:=p.ext hs;have hH:=ho.below hs;have h4:w.heap.size+2≤w2.heap.size:=by have:=hm.size;have:=p.lt;omega
  clear p ho hs hN;obtain⟨gb,offb,capb,hM,h7,hT,⟨csg,hq⟩,hK,hU,u⟩:=vS iO (by decide) rfl hH k hh 8 (by decide) (.int .i64 (m.fs[k].r+n)) { m.fs[k] with r:=m.fs[k].r+n } rfl;cases hM;have hW:=hK 8 (.int .i64 m.fs[k].r) rfl;have z:=y.cell;clear hK;have hI:=y.lt;have hS:w2.heap.size≠gb:=by intro e;subst e;unfold aJ at y hq;rw[y] at hq;cases hq
  go_upto_region 11 with (fail);have hA:=y.setCell_other ⟨gb,offb+k*13+8,none⟩ (.int .i64 (m.fs[k].r+n)) (by simpa using hS);have l:=hd.setCell_other ⟨gb,offb+k*13+8,none⟩ (.int .i64 (m.fs[k].r+n)) (by simp;omega);have j:Below w.heap.size w (w3.setCell ⟨gb,offb+k*13+8,none⟩ (.int .i64 (m.fs[k].r+n))):=hl.setCell (by simp;omega) _;generalize w3.setCell ⟨gb,offb+k*13+8,none⟩ (.int .i64 (m.fs[k].r+n))=w4 at *
  clear y hd hl hH hq hU hW z hT hI;have hR:(m.fs.set k { m.fs[k] with r:=m.fs[k].r+n }).length=m.fs.length:=by simp
  have hJ : k<(m.fs.set k { m.fs[k] with r:=m.fs[k].r+n }).length:=by omega
  obtain⟨_,_,hv,_,_,_,hu⟩:=u.rd;cases hv;obtain⟨_,_,hv,hC⟩:=Jq hu k hJ;cases hv;rw[List.getElem_set_self] at hC;have c8:=hC.c8;simp only at c8;clear hC hu;have z:=hA.cell
  by_cases hz:m.fs[k].r+n=0
  ·have hB:Hid (gD m.fs[k] n=frZ):=by unfold gD;exact if_pos hz
   obtain⟨_,_,_,curb,hv,_,x,h6,ha⟩:=oM iO (by decide) hR u k hh;cases hv;rw[hz] at c8;clear hz u
   go_wp2_with (refine gy rfl _ (.tmp 78) (.tmp 77) rfl gb (offb+k*13) (xV frZ) rfl rfl curb 132 x (by show _+13≤_;omega) frame_size (uf _) ?_)
   intro w5 hG v;have hL:=ha w5 frZ hG;rw[GL] at hL;have hQ:=aG hA x (by decide) v;have hb:=aG l x (by decide) v;have f:Below w.heap.size w w5:=j.grown v j.size (fun k hk=>by cases hk;omega);clear hG ha x hA l z c8 v j;have z:=hQ.cell
   go_wp2_with (refine ax rfl _ (.tmp 6) (.tmp 79) rfl (w.heap.size+1) #[.slice (some ⟨gb,offb,none⟩) m.fs.length cb',.int .i64 m.hand] rfl rfl _ _ hb (wK _ _ _ _ _ _ _ _) mem_size (fI _ _ _ _) ?_)
   intro w8 hy o;have hF:=ay hL hb (by decide) o;have t:=f.grown o f.size (fun k hk=>by cases hk;omega);have i:=hy.cell;clear z;go_wp2;simp[bodyPost,results,go_sem,results192,i,Q1.out,Q3.out,hB.out];exact⟨by have:=hF.mono (show w.heap.size≤w1.heap.size from hx);simpa using this,t⟩
  have hB:Hid (gD m.fs[k] n = { m.fs[k] with r:=m.fs[k].r+n }):=by unfold gD;exact if_neg hz
  have hY:(m.fs[k].r+n==0)=false:=by simpa using hz
  clear hz
  go_wp2_with (refine ax rfl _ (.tmp 6) (.tmp 79) rfl (w.heap.size+1) #[.slice (some ⟨gb,offb,none⟩) m.fs.length cb',.int .i64 m.hand] rfl rfl _ _ l (wK _ _ _ _ _ _ _ _) mem_size (fI _ _ _ _) ?_)
  intro w8 hy o;have hF:=ay u l (by decide) o;have t:=j.grown o j.size (fun k hk=>by cases hk;omega);have i:=hy.cell;clear z;go_wp2;simp[bodyPost,results,go_sem,results192,i,Q1.out,Q3.out,hB.out];exact⟨by have:=hF.mono (show w.heap.size≤w1.heap.size from hx);simpa using this,t⟩
 have q1:mI m k n=bC m:=by unfold mI;rw[if_pos hw]
 have q3:lw m k n=noM:=by unfold lw;rw[if_neg (by omega)]
 have hn:(bC m != 0)=true:=by simpa using hw
 go_wp2_with (refine ax rfl _ (.tmp 6) (.tmp 15) rfl (w.heap.size+1) #[.slice none 0 0,.int .i64 0] rfl rfl _ _ g rfl mem_size (fI _ _ _ _) ?_)
 all_goals
  intro w5 q s;have f:=(d).grown s (d).size (fun k hk=>by cases hk;omega);have i:=q.cell;go_wp2;simp[bodyPost,results,go_sem,results192,i,q1,q3,noM];exact⟨Own.nil _ _ _ _,f⟩
theorem NV (m:Mem) (a:Option Addr) (c:Nat) (w:World) (h:Qe w a c m) :
  Calls Tryz.prog 182 #[.agg #[.slice a m.fs.length c,.int .i64 m.hand]] w fun e w' => ∃vb,e = .returned (.tuple #[.agg #[vb,.int .i64 (fu m).hand],.int .i64 (ic m),.int .i64 (bC m)])∧Own w' w.heap.size 132 13 vb (fu m).fs.length ((fu m).fs.flatMap oH)∧Below w.heap.size w w':=by
 go_enter func182,ntmps182
 go_wp2_with fail
 refine vg (fun W=>Calls _ _ _ W _) fun W0 hV hH hz ka => ?_;refine (uA m a c _ (h.below hV)).mono ?_;rintro e w1 ⟨rfl,hc⟩;have p:=ah hV hc;have hh:=hH.ext hc;have t:=hz.ext hc;have h1:=h.below p;clear hH hz hc hV ka;have kj:=hh.cell
 by_cases hw:bC m=0
 ·obtain⟨kl,hP,ko,kn⟩:=(dZ m).1 hw;rw[hw]
  go_wp2_with fail
  refine (yH m _ c _ h1 (by omega)).mono ?_;rintro e w2 ⟨vb,rfl,ho,hp⟩;have hU:=ah p hp;have hG:=hh.ext hp;have hy:=t.ext hp;have h2:=h1.below hp;have hi:=p.size;have kq:w.heap.size+2≤w1.heap.size:=by have:=t.lt;omega
  have kp:w.heap.size+2≤w2.heap.size:=by have:=hp.size;omega
  obtain⟨xb,cb',rfl,_⟩:=yj ho;clear kj hh t h1 hp;go_upto_region 5 with (fail);refine jl (fun W=>Code.wp _ _ _ _ W) fun w3 hl hM h9 => ?_;have hI:=ah hU hl;have i:=hG.ext hl;have q:=hy.ext hl;have h3:=h2.below hl;have hL:=ho.below hl;clear hG hy h2 ho hl h9
  by_cases hf:fe m.fs=m.fs.length
  ·have q2:fu m=m:=by unfold fu;rw[if_neg (by omega),if_pos hf]
   have q3:ic m = -1:=by unfold ic;rw[if_neg (by omega),if_pos hf]
   have hR:((fe m.fs:Int)==(m.fs.length:Int))=true:=by simp[hf]
   have Q:=ae (And.intro q2 q3);clear q2 q3 hf hP;refine aP 6 [.v (.agg #[.slice a m.fs.length c,.int .i64 m.hand]),.v (.int .i64 (fe m.fs)),_,_,_,_] (aj ?_ (aj ?_ (Gf w.heap.size 0 rfl rfl (Gl i (V:=.slice a m.fs.length c) (by simp[underlying29]) rfl rfl rfl rfl (Gn rfl rfl rfl rfl (Gb (.bool true) (by simp[go_sem,hR]) rfl rfl rfl rfl rfl (aF)) (underlying29)))))) (fun _=>rfl) rfl ?_
   ·intro ρ y W hw hn hb hd;have E1:ρ (.tmp 1) = .pointer (some ⟨w.heap.size,0,none⟩):=(hn (.tmp 1) rfl).trans rfl;refine ak (.agg #[.slice a m.fs.length c,.int .i64 m.hand]) (ag rfl) (by simp[execOp,go_sem,E1,(i.ext hb).cell]) rfl
   ·intro ρ y W hw hn hb hd;have hW:=hw 17 0 rfl;have h0:y 0=_:=hd 0 rfl;have EF:∀f,ρ (.func f) = .func (.func f) #[] #[]:=fun f=>hn (.func f) trivial;refine aK _ _ (ag rfl) (aQ rfl (EF _) func194 (by kernel_rfl) (by kernel_rfl) (by simp only[bT,bF,bI,hW,h0,EF];rfl)) ?_;refine (zV m a c W (h3.below hb)).mono ?_;rintro e w1 ⟨rfl,hc⟩;exact⟨_,rfl,hc,rfl⟩
   intro y WA b _;have n:=ah hI b;have l:=q.ext b;have hB:=hM.ext b;have hK:=hL.below b;clear i q hM hL h3 b;have hE:=hB.cell
   go_wp2_with (refine ax rfl _ (.tmp 2) (.tmp 23) rfl (w.heap.size+1) #[.slice xb m.fs.length cb',.int .i64 m.hand] rfl rfl _ _ l (wK _ _ _ _ _ _ _ _) mem_size (fI _ _ _ _) ?_)
   intro w8 hQ ha;have hJ:=ay hK l (by decide) ha;have o:=n.grown ha n.size (fun k hk=>by cases hk;omega);have hD:=hQ.cell;clear hE;go_wp2;simp[bodyPost,results,go_sem,results182,hD,Q.out.1,Q.out.2]
   first
    | exact⟨hJ.mono hi,o⟩
    | exact⟨_,⟨rfl,rfl⟩,hJ.mono hi,o⟩
    | exact⟨_,⟨rfl,hw.symm⟩,hJ.mono hi,o⟩
  obtain⟨h8,h7,h6⟩:=Sk m hw hf;have q2:fu m=⟨mP m (ib m),(iR m (ib m+1):Nat)⟩:=by unfold fu;rw[if_neg (by omega),if_neg hf]
  have q3:ic m=(iR m (ib m):Nat):=by unfold ic;rw[if_neg (by omega),if_neg hf]
  have hR:((fe m.fs:Int)==(m.fs.length:Int))=false:=by simpa using (by omega:¬(fe m.fs:Int)=m.fs.length)
  have hA:0<m.fs.length:=by
   rcases wY m.fs.length with h0|h0
   ·exact absurd (by have:=CU m.fs;omega) hf
   ·exact h0
  have Q:=ae (And.intro q2 (And.intro q3 (And.intro h8 (And.intro h7 h6))));clear q2 q3 hf hP h8 h7 h6;refine aP 6 [.v (.agg #[.slice a m.fs.length c,.int .i64 m.hand]),.v (.int .i64 (fe m.fs)),_,_,_,_] (aj ?_ (aj ?_ (Gf w.heap.size 0 rfl rfl (Gl i (V:=.slice a m.fs.length c) (by simp[underlying29]) rfl rfl rfl rfl (Gn rfl rfl rfl rfl (Gb (.bool false) (by simp[go_sem,hR]) rfl rfl rfl rfl rfl (aF)) (underlying29)))))) (fun _=>rfl) rfl ?_
  ·intro ρ y W hw hn hb hd;have E1:ρ (.tmp 1) = .pointer (some ⟨w.heap.size,0,none⟩):=(hn (.tmp 1) rfl).trans rfl;refine ak (.agg #[.slice a m.fs.length c,.int .i64 m.hand]) (ag rfl) (by simp[execOp,go_sem,E1,(i.ext hb).cell]) rfl
  ·intro ρ y W hw hn hb hd;have hW:=hw 17 0 rfl;have h0:y 0=_:=hd 0 rfl;have EF:∀f,ρ (.func f) = .func (.func f) #[] #[]:=fun f=>hn (.func f) trivial;refine aK _ _ (ag rfl) (aQ rfl (EF _) func194 (by kernel_rfl) (by kernel_rfl) (by simp only[bT,bF,bI,hW,h0,EF];rfl)) ?_;refine (zV m a c W (h3.below hb)).mono ?_;rintro e w1 ⟨rfl,hc⟩;exact⟨_,rfl,hc,rfl⟩
  intro y WA b _;have n:=ah hI b;have l:=q.ext b;have hB:=hM.ext b;have hK:=hL.below b;clear i q hM hL h3 b;have hX:Hid (m.hand=(iR m 0:Nat)):=by show m.hand=(iR m 0:Nat);unfold iR;rw[kU,rY (by omega)];omega
  rw[hX.out] at hB;clear hX;go_wp2
  go_loopg [7] (2*m.fs.length) (fun gg s7 wr => ∃s:Nat,Hid (s≤ib m)∧2*m.fs.length-s≤gg∧Below w.heap.size w wr∧aJ wr w2.heap.size #[.slice xb m.fs.length cb',.int .i64 (iR m s)] 31∧aJ wr (w.heap.size+1) #[.slice none 0 0,.int .i64 0] 31∧Own wr w.heap.size 132 13 (.slice xb m.fs.length cb') m.fs.length ((mP m s).flatMap oH))
  case atStart=>exact⟨0,ae (bB _),by omega,n,hB,l,by rw[Sl];exact hK.mono hi⟩
  case round=>
   clear n hB l hK;obtain⟨s,hs,kt,hO,hm,hN,ho⟩:=hrel;obtain⟨k,hk⟩:∃k,k=iR m s:=⟨_,rfl⟩;have h4:k<m.fs.length:=by rw[hk];exact nW hA s
   have kc:((k:Int)+1)%(m.fs.length:Int)=(iR m (s+1):Nat):=by
    have h1:iR m (s+1)=(k+1)%m.fs.length:=by rw[hk];unfold iR;rw[Nat.mod_add_mod,oQ]
    rw[h1,show (k:Int)+1=((k+1:Nat):Int) from by simp,←Int.natCast_emod]
   have hC:k<(mP m s).length:=by rw[iL];exact h4
   have hq:vG m s=(decide (0<((mP m s)[k]'hC).r)&&!((mP m s)[k]'hC).u):=by subst hk;exact TP m s hA
   have hg:Hid ((mP m s).set k (unused ((mP m s)[k]'hC))=mP m (s+1)):=by subst hk;exact Rb m s hA
   rw[←hk] at hm;have kg:=ae hk;clear hk;have hE:=hm.cell;have ki:=hm.free;have kf:((m.fs.length:Int)==0)=false:=beq_eq_false_iff_ne.2 (by omega);have ke:¬(m.fs.length:Int)=0:=by omega
   have kd:=hm.lt;have ht:=ae hq;clear hq;go_upto_region 9 with (fail);have hZ:=hm.setCell 1 (.int .i64 (iR m (s+1):Nat));have d:=hN.setCell_other ⟨w2.heap.size,1,none⟩ (.int .i64 (iR m (s+1):Nat)) (by simp;omega);have hY:=uN ho hm (by decide) 1 (.int .i64 (iR m (s+1):Nat));have j:Below w.heap.size w (wr.setCell ⟨w2.heap.size,1,none⟩ (.int .i64 (iR m (s+1):Nat))):=hO.setCell (by simp;omega) _;generalize wr.setCell ⟨w2.heap.size,1,none⟩ (.int .i64 (iR m (s+1):Nat))=w5 at *
   have z : aJ w5 w2.heap.size #[.slice xb m.fs.length cb',.int .i64 (iR m (s+1):Nat)] 31:=hZ;clear hm hE ki hN ho hO hZ kd kc kf ke;have hE:=z.cell;obtain⟨g,off,cap,hv,kv,ks,⟨csg,hj⟩,hT,ku,hx⟩:=vS iO (by decide) (iL m s) hY k h4 9 (by decide) (.bool false) (unused ((mP m s)[k]'hC)) rfl;cases hv;generalize hF:(mP m s)[k]'hC=F at *
   have c8:=hT 8 (.int .i64 F.r) rfl;have c9:=hT 9 (.bool F.u) rfl;have km:(k:Int)<(m.fs.length:Int):=by omega
   clear hT hF;have h5:w2.heap.size≠g:=by intro e;subst e;unfold aJ at z hj;rw[z] at hj;cases hj
   have kr:g≠w.heap.size+1:=by intro e;subst e;unfold aJ at d hj;rw[d] at hj;cases hj
   by_cases hr:0<F.r
   ·cases hu:F.u with
    | true=>
     rw[hu] at c9;have x:Hid (s+1≤ib m):=by
      have h1:=ht.out;rw[hu] at h1;have h2:s≠ib m:=by intro e;rw[e,Q.out.2.2.2.1] at h1;simp at h1
      have:=hs.out;show s+1≤ib m;omega
     clear hu;go_wp2
     go_roundg (2*m.fs.length-(s+1))
     case measure=>have:=x.out;have:=Q.out.2.2.1;omega
     case rel=>exact⟨s+1,x,az _,j.setCell (by simp;omega) _,z.setCell_other _ _ (by simpa using h5),d.setCell_other _ _ (by simp;omega),by rw[←hg.out];exact hx⟩
    | false=>
     rw[hu] at c9;have hS:Hid (s=ib m):=by
      have h1:=ht.out;rw[hu] at h1;have h2:vG m s=true:=by rw[h1];simp[hr]
      have:=hs.out;rcases fM s (ib m) with h|h
      ·rw[Q.out.2.2.2.2 s h] at h2;cases h2
      ·show s=ib m;omega
     clear hu hx hg
     go_wp2_with (refine ax rfl _ (.tmp 2) (.tmp 50) rfl (w.heap.size+1) #[.slice (some ⟨g,off,none⟩) m.fs.length cb',.int .i64 (iR m (s+1):Nat)] rfl rfl _ _ d (wK _ _ _ _ _ _ _ _) mem_size (fI _ _ _ _) ?_)
     intro w8 hQ ha;have hJ:=ay hY d (by decide) ha;have o:=j.grown ha j.size (fun k hk=>by cases hk;omega);have hD:=hQ.cell;clear hE;go_wp2;have kk:=hS.out;rw[←kk] at Q;simp[bodyPost,results,go_sem,results182,hD,Q.out.1,Q.out.2.1,hw,kg.out];exact⟨by rw[iL];exact hJ,o⟩
   have x:Hid (s+1≤ib m):=by
    have h1:=ht.out;have h2:s≠ib m:=by intro e;rw[e,Q.out.2.2.2.1] at h1;simp[hr] at h1
    have:=hs.out;show s+1≤ib m;omega
   go_wp2
   go_roundg (2*m.fs.length-(s+1))
   case measure=>have:=x.out;have:=Q.out.2.2.1;omega
   case rel=>exact⟨s+1,x,az _,j.setCell (by simp;omega) _,z.setCell_other _ _ (by simpa using h5),d.setCell_other _ _ (by simp;omega),by rw[←hg.out];exact hx⟩
 have q2:fu m=noM:=by unfold fu;rw[if_pos hw]
 have q3:ic m=0:=by unfold ic;rw[if_pos hw]
 have hn:(bC m != 0)=true:=by simpa using hw
 go_wp2_with (refine ax rfl _ (.tmp 2) (.tmp 13) rfl (w.heap.size+1) #[.slice none 0 0,.int .i64 0] rfl rfl _ _ t rfl mem_size (fI _ _ _ _) ?_)
 intro w5 kb kh;have j:=p.grown kh p.size (fun k hk=>by cases hk;omega);have hD:=kb.cell;go_wp2;simp[bodyPost,results,go_sem,results182,hD,q2,q3,noM];exact⟨Own.nil _ _ _ _,j⟩
theorem bG {d:TypeDesc} (ho:o.op = .load ty x) (hx:ρ x = .pointer (some ⟨b,off,none⟩)) (hrd:eB w (some ⟨b,off,none⟩) vs)
 (hu:P.underlying ty=some d) (hd:aggB d=true) (hi:(P.info? ty).map (·.size)=some vs.length):(execOp ρ o).run P w = .ok (.value (.agg vs.toArray)) w:=by
 unfold execOp;simp only[ho,hx,Instr.loadAt,Instr.sureAddr,jZ,pu,oZ,iq hrd hu hd hi]
def nI (e:En):Array Value:=#[.int .i64 e.k,.int .i64 e.n,.bool e.w]
def zu (e:En):List Value:=(nI e).toList
theorem BS (e:En):(zu e).length=3:=rfl
structure Km (w:World) (cs:Array Value) (t:Tb):Prop where
 sz:cs.size=8
 at' : ∀k (h:k<8),∃a c,cs[k]?=some (.slice a t[k].length c)∧t[k].length≤c∧c≤maxLen∧(a=none→c=0)∧eB w a (t[k].flatMap zu)
theorem Km.below {t:Tb} (h:Km w cs t) (hb:Below w.heap.size w w'):Km w' cs t:=
 ⟨h.sz,fun k hk=>by obtain⟨a,c,h1,h2,h3,h4,h5⟩:=h.at' k hk;exact⟨a,c,h1,h2,h3,h4,h5.below hb⟩⟩
theorem Km.one {t:Tb} (h:Km w cs t):cs.all (·.oneCell')=true:=by
 rw[Array.all_eq_true];intro i hi;obtain⟨a,c,h1,_⟩:=h.at' i (by have:=h.sz;omega);rw[tY hi] at h1;rw[aS h1];rfl
theorem Nz (h:k<8) (hv:cs[k]?=some v) (w:World):(Instr.index 112 (.agg cs) (.int .i64 k)).run Tryz.prog w = .ok v w:=
 Cw underlying112 underlying110 Tg (by kernel_rfl) _ k _ h hv _ w
theorem tab_agg:aggB (.array 8 110)=true:=rfl
theorem tab_size:(Tryz.prog.info? 112).map (·.size)=some 8:=by kernel_rfl
theorem QG {l:List En} (h:eB w a (l.flatMap zu)) (k:Nat) (hk:k<l.length):∃b off,a=some ⟨b,off,none⟩∧w.cell? ⟨b,off+k*3,none⟩=some (.int .i64 l[k].k)∧w.cell? ⟨b,off+k*3+1,none⟩=some (.int .i64 l[k].n)∧w.cell? ⟨b,off+k*3+2,none⟩=some (.bool l[k].w):=by
 obtain⟨b,off,ha,hc⟩:=h.elem BS (by decide) k hk;exact⟨b,off,ha,hc 0 _ rfl,hc 1 _ rfl,hc 2 _ rfl⟩
theorem FC (e:En) (w:World):Calls Tryz.prog 149 #[.agg #[.int .i64 e.k,.int .i64 e.n,.bool e.w]] w fun r w'=>r = .returned (.int .i64 (gV e))∧Below w.heap.size w w':=by
 go_enter func149,ntmps149;go_wp2
 all_goals go_ret
 all_goals refine⟨?_,(Below.refl _ _).alloc (az _) _⟩
 all_goals go_light
 all_goals refine congrArg (fun z=>Ending.returned (.int .i64 z)) ?_
 all_goals simp only[gV]
 all_goals simp_all
 all_goals omega
theorem Dn (t:Tb) (cs:Array Value) (w:World) (h:Km w cs t):Calls Tryz.prog 97 #[.agg cs] w fun r w'=>r = .returned (.int .i64 (dO t))∧Below w.heap.size w w':=by
 go_enter func97,ntmps97;go_upto_region 1 with (fail);refine jl (fun W=>Code.wp _ _ _ _ W) fun W0 hd v hg => ?_;clear hg
 go_wp2_with (refine jP rfl 112 (.tmp 1) rfl w.heap.size 0 rfl cs.toList v.rd _ underlying112 tab_agg (by rw[kH,h.sz];exact tab_size) ?_)
 clear v
 go_loopw [10] (fun i wr => ∃k:Nat,k≤8∧i = .int .i64 k∧Below w.heap.size w wr∧∀i (hi:i<8),i<k→lT t[i]=0) (fun i _=>8-(intOf i).toNat)
 case atStart=>exact⟨0,bB _,rfl,hd,fun i _ h=>absurd h (gL _)⟩
 case round=>
  obtain⟨k,hk,rfl,n,y⟩:=hrel;have hp:=ae y;clear y hd
  by_cases hlt:k<8
  ·obtain⟨a,c,hb,hu,hl,hr,hh⟩:=h.at' k hlt;have hm:=fun W=>Nz hlt hb W;have hw:decide ((k:Int)<8)=true:=by simp;omega
   unfold maxLen at hl;clear hb
   by_cases h08:t[k].length=0∨t[k].length=8
   ·have H08:=ae h08;have q1:((t[k].length:Int) != 0)=true∧((t[k].length:Int) != 8)=false∨((t[k].length:Int) != 0)=false∧((t[k].length:Int) != 8)=true:=by rcases h08 with e|e<;>simp[e]
    clear h08;rcases q1 with ⟨q1,q2⟩|⟨q1,q2⟩
    all_goals
     go_wp2;clear hm
     go_loopw [23,5] (fun i s wr' => ∃j:Nat,j≤t[k].length∧i = .int .i64 j∧s = .bool (He t[k] j)∧Below w.heap.size w wr'∧∀i (hi:i<t[k].length),i<j→gV t[k][i]=0) (fun i _ _=>t[k].length-(intOf i).toNat)
     case atStart=>exact⟨0,bB _,rfl,rfl,n,fun i _ h=>absurd h (gL _)⟩
     case round=>
      obtain⟨j,hj,rfl,rfl,g,x⟩:=hrel;have hq:=ae x;clear x n
      by_cases hjl:j<t[k].length
      ·obtain⟨b,off,rfl,c0,c1,c2⟩:=QG (hh.below g) j hjl
       go_wp2_with fail
       refine jl (fun W=>Calls _ _ _ W _) fun W3 hc u hf => ?_;have m:=ah g hc;clear g hf c0 c1 c2 hc;refine (FC t[k][j] _).mono ?_;rintro e w4 ⟨rfl,q⟩;have l:=ah m q;have ht:=(u.ext q).cell;clear u q m
       by_cases he:gV t[k][j]=0
       ·have ha:=Pz t[k] j hjl;have hn:=ae he;rw[he];clear he;cases hs:He t[k] j
        all_goals
         rw[hs] at ha;go_wp2;go_roundw
         case rel=>exact⟨j+1,by omega,by go_num,by rw[ha];first | rfl | (congr 1;rw[nP];simp),l,nH hq.out hjl hn.out⟩
         case measure=>simp[intOf];omega
       have hv:(gV t[k][j] != 0)=true:=by simpa using he
       have f:=ae (zy k hlt hp.out (by rw[Ja H08.out j hjl hq.out he];exact he));have d:=ae (Ja H08.out j hjl hq.out he);go_wp2;go_ret;exact⟨bi (f.out.trans d.out).symm,l⟩
      have o:=ae (Ae H08.out fun i hi=>hq.out i hi (by omega));have p:=ae (QN t[k] j (by omega))
      by_cases hgo:0<t[k].length∧He t[k] j=false
      ·obtain⟨g1,g2⟩:=hgo;have d:=ae (o.out.trans (if_pos ⟨g1,p.out▸g2⟩));have f:=ae (zy k hlt hp.out (by rw[d.out];decide));rw[g2];go_wp2;go_ret;exact⟨bi (f.out.trans d.out).symm,g⟩
      have d:=ae (o.out.trans (if_neg (fun h=>hgo ⟨h.1,p.out.trans h.2⟩)));have z:¬0<t[k].length∨0<t[k].length∧He t[k] j=true:=by
       by_cases hz:0<t[k].length
       ·exact .inr ⟨hz,by simpa[hz] using hgo⟩
       ·exact .inl hz
      clear hgo;rcases z with g1|⟨g1,g2⟩
      ·go_wp2;go_roundw
       case rel=>exact⟨k+1,by omega,by go_num,g,nH hp.out hlt d.out⟩
       case measure=>simp[intOf];omega
      rw[g2];go_wp2;go_roundw
      case rel=>exact⟨k+1,by omega,by go_num,g,nH hp.out hlt d.out⟩
      case measure=>simp[intOf];omega
   have q1:((t[k].length:Int) != 0)=true:=by rw[bne_iff_ne];omega
   have q2:((t[k].length:Int) != 8)=true:=by rw[bne_iff_ne];omega
   have d:=ae (Cy (h:=t[k]) (by omega));have f:=ae (zy k hlt hp.out (by rw[d.out];decide));go_wp2;go_ret;exact⟨bi (f.out.trans d.out).symm,n⟩
  have f:=ae (AJ fun i hi=>hp.out i hi (by omega));go_wp2;go_ret;exact⟨bi f.out.symm,n⟩
theorem entry_info:(Tryz.prog.info? 129).map (fun i=>(i.zero,i.size,i.bytes))=some (some (.agg #[.int .i64 0,.int .i64 0,.bool false]),3,24):=by kernel_rfl
theorem IY (l:List En):(l.flatMap zu).length=l.length*3:=Pw.flat_len zu 3 BS l
theorem wU (f:En):(nI f).all (·.oneCell')=true:=by simp[nI,Value.oneCell']
theorem IC (l:List En):∀u∈l.flatMap zu,u.oneCell' = true:=by
 intro u hu;obtain⟨f,_,hf⟩:=ji.1 hu;have:=wU f;rw[←iA,cK] at this;exact this u hf
theorem Ew (l:List En) (a:Option Addr) (c:Nat) (w:World) (hle:l.length≤c) (hnil:a=none→c=0) (hrd:eB w a (l.flatMap zu)) (hb:l.length*24≤140737488355328) :
  Calls Tryz.prog 104 #[.slice a l.length c] w fun e w' => ∃v,e = .returned v∧Own w' w.heap.size 129 3 v l.length (l.flatMap zu)∧Below w.heap.size w w':=by
 cases a with
 | none=>
  have h0:=hnil rfl;have hl:l=[]:=jX (by omega);subst hl;subst h0;have hq:=fun W=>lI (P:=Tryz.prog) W 110 _ none 0 0 0 0 underlying110;go_enter func104,ntmps104;go_wp2;go_ret;exact⟨_,rfl,by simpa using Own.nil _ _ _ _,Below.refl _ _⟩
 | some ad=>
  have hq:=fun W=>lI (P:=Tryz.prog) W 110 _ (some ad) l.length c 0 0 underlying110;go_enter func104,ntmps104
  go_wp2_with (at_builtin;go_must (refine eH rfl _ _ 110 rfl w.heap.size 129 (.agg #[.int .i64 0,.int .i64 0,.bool false]) 3 24 underlying110 entry_info rfl (by decide) _ 0 [] rfl ?own (some ad) l.length c (l.flatMap zu) rfl (fun h=>(by cases h)) hle (IY l) ?rd (IC l) (by unfold maxLen;omega) (by simpa using hb) ?bb ?k))
  case own=>exact⟨rfl,.inr ⟨w.heap.size,0,0,#[],rfl,az _,aJ.new _ _ _,az _,bB _,by simp,fun j u h=>by simp at h⟩⟩
  case rd=>exact hrd.below ((Below.refl _ _).alloc (az _) _)
  case bb=>exact dV _ _
  intro v w1 b d;go_wp2;go_ret;exact⟨v,rfl,by simpa using b,((Below.refl _ _).alloc (az _) _).grown d (dV _ _) (fun k hk=>by cases hk;exact az _)⟩
structure wR (w:World) (B:Nat) (cs:Array Value) (t:Tb):Prop where
 sz:cs.size=8
 own:∀k (h:k<8),∃v,cs[k]?=some v∧Own w B 129 3 v t[k].length (t[k].flatMap zu)
 apart:∀(j k:Nat) (v u:Value),j<k→cs[j]?=some v→cs[k]?=some u→∀g,v.ownBlock=some g→u.ownBlock≠some g
theorem wR.rd {t:Tb} (h:wR w B cs t):Km w cs t:=
 ⟨h.sz,fun k hk=>by obtain⟨v,h1,h2⟩:=h.own k hk;obtain⟨a,c,rfl,h3,h4,h5,h6⟩:=h2.rd;exact⟨a,c,h1,h3,h4,h5,h6⟩⟩
theorem wR.below {t:Tb} (h:wR w B cs t) (hb:Below w.heap.size w w'):wR w' B cs t:=
 ⟨h.sz,fun k hk=>by obtain⟨v,h1,h2⟩:=h.own k hk;exact⟨v,h1,h2.below hb⟩,h.apart⟩
theorem wR.mono {t:Tb} (h:wR w B cs t) (hB:B'≤B):wR w B' cs t:=
 ⟨h.sz,fun k hk=>by obtain⟨v,h1,h2⟩:=h.own k hk;exact⟨v,h1,h2.mono hB⟩,h.apart⟩
theorem wR.keep {t:Tb} (h:wR w B cs t) (hk:aJ w g cs' T) (hT:T≠129) (hgr:w.grownBy w' (some g)):wR w' B cs t:=
 ⟨h.sz,fun k hk'=>by obtain⟨v,h1,h2⟩:=h.own k hk'; exact⟨v,h1,ay h2 hk hT hgr⟩,h.apart⟩
structure SS (w:World) (B:Nat) (cs ca:Array Value) (t:Tb) (k:Nat):Prop where
 sz:ca.size=8
 old:∀i,k≤i→ca[i]?=cs[i]?
 own:∀i (h:i<8),i<k→∃v,ca[i]?=some v∧Own w B 129 3 v t[i].length (t[i].flatMap zu)
 apart:∀(j i:Nat) (v u:Value),j<i→i<k→ca[j]?=some v→ca[i]?=some u→∀g,v.ownBlock=some g→u.ownBlock≠some g
theorem SS.start {t:Tb} (h:cs.size=8):SS w B cs cs t 0:=⟨h,fun _ _=>rfl,fun _ _ h=>absurd h (gL _),fun _ _ _ _ _ h=>absurd h (gL _)⟩
theorem Sg {n:Nat} (h:Own w B e sz v n xs) (g:Nat) (hg:v.ownBlock=some g):g<w.heap.size:=by
 obtain⟨cs,hb⟩:=rO h g hg;exact hb.lt
theorem SS.step {t:Tb} (h:SS w B cs ca t k) (hB:B≤w.heap.size) (hk:k<8) (hb:Below w.heap.size w w4) (ho:Own w4 w.heap.size 129 3 v t[k].length (t[k].flatMap zu))
 (hblk:aJ w4 b ca T) (hT:T≠129) (hg:w4.grownBy w5 (some b)):SS w5 B cs (ca.setIfInBounds k v) t (k+1) where
 sz:=by simp[h.sz]
 old:=fun i hi=>by rw[fO (by omega)];exact h.old i (by omega)
 own:=fun i hi l=>by
  by_cases e:i=k
  ·subst e;exact⟨v,by rw[rA (by rw[h.sz];exact hi)],ay (ho.mono hB) hblk hT hg⟩
  obtain⟨u,h1,h2⟩:=h.own i hi (by omega);exact⟨u,by rw[fO (by omega)];exact h1,ay (h2.below hb) hblk hT hg⟩
 apart:=fun j i x y d hi hx hy g c a=>by
  have f:j≠k:=by omega
  rw[fO (by omega)] at hx
  by_cases e:i=k
  ·subst e;rw[rA (by rw[h.sz];exact hk)] at hy;cases hy;have h1:=ho.ge g a;obtain⟨u,h2,h3⟩:=h.own j (by omega) (by omega);rw[h2] at hx;cases hx;have:=Sg h3 g c;omega
  rw[fO (by omega)] at hy;exact h.apart j i x y d (by omega) hx hy g c a
theorem SS.fin {t:Tb} (h:SS w B cs ca t 8):wR w B ca t:=
 ⟨h.sz,fun k hk=>h.own k hk hk,fun j k v u hjk h1 h2=>h.apart j k v u hjk (by
  rcases fM k 8 with hk|hk
  ·exact hk
  ·rw[pO (by rw[h.sz];exact hk)] at h2;cases h2) h1 h2⟩
theorem Ig (t:Tb) (cs:Array Value) (w:World) (h:Km w cs t) (hz:Dw t):Calls Tryz.prog 63 #[.agg cs] w fun r w' => ∃cs',r = .returned (.agg cs')∧wR w' w.heap.size cs' t∧Below w.heap.size w w':=by
 go_enter func63,ntmps63;go_upto_region 1 with (fail);refine vg (fun W=>Code.wp _ _ _ _ W) fun W0 hb s m hf => ?_;clear hf
 go_wp2_with (refine jP rfl 112 (.tmp 1) rfl w.heap.size 0 rfl cs.toList s.rd _ underlying112 tab_agg (by rw[kH,h.sz];exact tab_size) ?_)
 have hc:SS W0 w.heap.size cs cs t 0:=SS.start h.sz
 go_loopw [6] (fun i wr => ∃(k:Nat) (ca:Array Value),k≤8∧i = .int .i64 k∧Below w.heap.size w wr∧aJ wr w.heap.size ca 112∧aJ wr (w.heap.size+1) #[.slice none 0 0,.slice none 0 0,.slice none 0 0,.slice none 0 0,.slice none 0 0,.slice none 0 0,.slice none 0 0,.slice none 0 0] 112∧SS wr w.heap.size cs ca t k) (fun i _=>8-(intOf i).toNat)
 case atStart=>exact⟨0,cs,bB _,rfl,hb,s,m,hc⟩
 case round=>
  obtain⟨k,ca,hk,rfl,g,hx,f,hM⟩:=hrel;clear hb s m hc
  by_cases hlt:k<8
  ·obtain⟨a,c,x,hi,hn,z,hg⟩:=h.at' k hlt;have hj:=fun W=>Nz hlt x W;have hq:decide ((k:Int)<8)=true:=by simp;omega
   have ha:=(hM.old k (az _)).trans x;have HCA:=ae ha;clear ha x
   go_wp2_with fail
   refine (Ew t[k] a c _ hi z (hg.below g) (hz k hlt)).mono ?_;rintro e w4 ⟨v,rfl,ho,o⟩;have d:=ah g o;have j:=hx.ext o;have l:=f.ext o;have hr:=(j.cell k).trans HCA.out;have hp:=j.free k;have n:=aA w4 w.heap.size k [v];have hm:=hM.step g.size hlt o ho j (by decide) n;have hd:aJ (w4.setCell ⟨w.heap.size,k,none⟩ v) w.heap.size (ca.setIfInBounds k v) 112:=j.setCell k v;have u:=l.setCell_other ⟨w.heap.size,k,none⟩ v (by simp);have b:Below w.heap.size w (w4.setCell ⟨w.heap.size,k,none⟩ v):=d.grown n d.size (fun k hk=>by cases hk;exact az _);obtain⟨xa,xc,rfl,_⟩:=ho.rd;clear j l g hx f hM d o ho n hj;go_wp2;go_roundw
   case rel=>exact⟨k+1,_,by omega,by go_num,b,hd,u,hm⟩
   case measure=>simp[intOf];omega
  obtain rfl:k=8:=by omega
  have hO:=hM.fin;have y:=hO.rd.one;have p:=hM.sz
  go_wp2_with (first | (refine jP rfl 112 (.tmp 1) rfl w.heap.size 0 rfl ca.toList hx.rd _ underlying112 tab_agg (by rw[kH,p];exact tab_size) ?_) | (refine ax rfl _ (.tmp 2) (.tmp 15) rfl (w.heap.size+1) ca rfl rfl _ _ f (by rw[p];rfl) (by rw[p];exact tab_size) y ?_))
  intro w5 hh q;have hl:=hO.keep f (by decide) q;have b:Below w.heap.size w w5:=g.grown q g.size (fun k hk=>by cases hk;omega);go_wp2;refine bodyPost_ret (v:=.agg ca) (results_cell_row results63 _ _ (w.heap.size+1) _ ca _ _ rfl hh underlying112 rfl (by rw[p];exact tab_size)) rfl ?_;exact⟨_,rfl,hl,b⟩
theorem entry_size:(Tryz.prog.info? 129).map (·.size)=some 3:=by kernel_rfl
theorem Vx {l:List En} (h:eB w a (l.flatMap zu)) (k:Nat) (hk:k<l.length):∃b off E,a=some ⟨b,off,none⟩∧l[k]?=some E∧w.cell? ⟨b,off+k*3,none⟩=some (.int .i64 E.k)∧w.cell? ⟨b,off+k*3+1,none⟩=some (.int .i64 E.n)∧w.cell? ⟨b,off+k*3+2,none⟩=some (.bool E.w):=by
 obtain⟨b,off,ha,h0,h1,h2⟩:=QG h k hk;exact⟨b,off,l[k],ha,aN hk,h0,h1,h2⟩
theorem zt (t:Tb) (cs:Array Value) (n:Int) (w:World) (h:Km w cs t):Calls Tryz.prog 53 #[.agg cs,.int .i64 n] w fun r w'=>r = .returned (.agg (nI (dB t n)))∧Below w.heap.size w w':=by
 by_cases hn:0≤n∧n<64
 ·obtain⟨q,r,hq,hr,m,hm,hl⟩:=wJ hn;have hg:=xY (t:=t) hq hr;rw[←m] at hg;have HG:=ae hg;have HN:=ae m;obtain⟨n0,n1⟩:=hn;have y:decide (n<0)=false:=by simp;omega
  have x:decide (64≤n)=false:=by simp;omega
  obtain⟨a,c,s,hj,z,hb,u⟩:=h.at' q hq;unfold maxLen at z;clear hg m;go_enter func53,ntmps53;go_upto_region 1 with (fail);refine vg (fun W=>Code.wp _ _ _ _ W) fun W0 i o f l => ?_;clear l;have ha:=(o.cell q).trans s;have p:=u.below i;have hf : (q:Int)<8:=by omega
  by_cases h8:t[q].length=8
  ·obtain⟨b,off,E,rfl,hE,c0,c1,c2⟩:=Vx p r (by omega);have e:dB t n=E:=by rw[HG.out,if_pos h8,bM,hE];rfl
   have HF:=ae e;have hd : (r:Int)<8:=by omega
   rw[h8] at ha;clear h8 s hE h e
   go_wp2_with (refine ax rfl _ (.tmp 4) (.tmp 27) rfl (w.heap.size+1) (nI E) rfl rfl _ _ f rfl entry_size (wU _) ?_)
   all_goals
    intro w5 j g;have d:Below w.heap.size w w5:=i.grown g i.size (fun k hk=>by cases hk;omega);go_wp2;refine bodyPost_ret (v:=.agg (nI E)) (results_cell_row results53 _ _ (w.heap.size+1) _ _ _ _ rfl j underlying129 rfl entry_size) rfl ?_;exact⟨by rw[HF.out],d⟩
  have hh:((t[q].length:Int) != 8)=true:=by rw[bne_iff_ne];omega
  have e:dB t n=zEn:=by rw[HG.out,if_neg h8]
  have HF:=ae e;clear e
  go_wp2_with (refine ax rfl _ (.tmp 4) (.tmp 19) rfl (w.heap.size+1) (nI zEn) rfl rfl _ _ f rfl entry_size (wU _) ?_)
  all_goals
   intro w5 j g;have d:Below w.heap.size w w5:=i.grown g i.size (fun k hk=>by cases hk;omega);go_wp2;refine bodyPost_ret (v:=.agg (nI zEn)) (results_cell_row results53 _ _ (w.heap.size+1) _ _ _ _ rfl j underlying129 rfl entry_size) rfl ?_;exact⟨by rw[HF.out],d⟩
 have e:dB t n=zEn:=qx (by omega);have HF:=ae e;have hi : n<0∨64≤n:=by omega
 clear e hn;go_enter func53,ntmps53;go_upto_region 1 with (fail);refine vg (fun W=>Code.wp _ _ _ _ W) fun W0 i o f l => ?_;clear l
 by_cases y:n<0
 ·skip
  go_wp2_with (refine ax rfl _ (.tmp 4) (.tmp 19) rfl (w.heap.size+1) (nI zEn) rfl rfl _ _ f rfl entry_size (wU _) ?_)
  all_goals
   intro w5 j g;have d:Below w.heap.size w w5:=i.grown g i.size (fun k hk=>by cases hk;omega);go_wp2;refine bodyPost_ret (v:=.agg (nI zEn)) (results_cell_row results53 _ _ (w.heap.size+1) _ _ _ _ rfl j underlying129 rfl entry_size) rfl ?_;exact⟨by rw[HF.out],d⟩
 have x:64≤n:=by omega
 have hc : decide (n<0)=false:=by simp;omega
 go_wp2_with (refine ax rfl _ (.tmp 4) (.tmp 19) rfl (w.heap.size+1) (nI zEn) rfl rfl _ _ f rfl entry_size (wU _) ?_)
 all_goals
  intro w5 j g;have d:Below w.heap.size w w5:=i.grown g i.size (fun k hk=>by cases hk;omega);go_wp2;refine bodyPost_ret (v:=.agg (nI zEn)) (results_cell_row results53 _ _ (w.heap.size+1) _ _ _ _ rfl j underlying129 rfl entry_size) rfl ?_;exact⟨by rw[HF.out],d⟩
theorem slent_size:(Tryz.prog.info? 110).map (·.size)=some 1:=by kernel_rfl
theorem Ms (e:En):∀u∈zu e,u.oneCell' = true:=by
 intro u hu;have:=wU e;rw[←iA,cK] at this;exact this u hu
theorem QS (e:En) (w:World):Calls Tryz.prog 191 #[.agg #[.int .i64 e.k,.int .i64 e.n,.bool e.w]] w fun r w'=>r = .returned (.bool (oq e))∧Below w.heap.size w w':=by
 go_enter func191,ntmps191;go_wp2;go_ret;exact⟨bK (by unfold oq;rw[nP];simp),(Below.refl _ _).alloc (az _) _⟩
theorem OB (l:List En) (a:Option Addr) (c:Nat) (w:World) (hrd:eB w a (l.flatMap zu)) (hl:l.length≤9223372036854775807) :
  Calls Tryz.prog 205 #[.slice a l.length c,.func (.func 191) #[] #[]] w fun e w'=>e = .returned (.int .i64 (idx oq l))∧Below w.heap.size w w':=by
 go_enter func205,ntmps205;go_wp2
 go_loopw [8] (fun i wr => ∃k:Nat,k≤l.length∧i = .int .i64 k∧Below w.heap.size w wr∧∀i (h:i<l.length),i<k→oq l[i]=false) (fun i _=>l.length-(intOf i).toNat)
 case atStart=>exact⟨0,bB _,rfl,Below.refl _ _,fun i _ h=>absurd h (gL _)⟩
 case round=>
  obtain⟨k,hk,rfl,g,m⟩:=hrel;have hp:=ae m;clear m
  by_cases hlt:k<l.length
  ·obtain⟨b,off,rfl,c0,c1,c2⟩:=QG (hrd.below g) k hlt
   go_wp2_with fail
   refine (QS l[k] _).mono ?_;rintro e w2 ⟨rfl,n⟩;have f:=ah g n;clear n;cases hpk:oq l[k]
   ·have j:=ae hpk;clear hpk;go_wp2;go_roundw
    case rel=>exact⟨k+1,by omega,by go_num,f,nH hp.out hlt j.out⟩
    case measure=>simp[intOf];omega
   have d:=ae (pz oq l k hlt hp.out hpk);clear hpk;go_wp2;go_ret;exact⟨bi d.out.symm,f⟩
  have d:=ae (ky oq l fun i h=>hp.out i h (by omega));go_wp2;go_ret;exact⟨bi d.out.symm,g⟩
theorem Li (l:List En) (a:Option Addr) (c:Nat) (w:World) (hrd:eB w a (l.flatMap zu)) (hl:l.length≤9223372036854775807) :
  Calls Tryz.prog 190 #[.slice a l.length c,.func (.func 191) #[] #[]] w fun e w'=>e = .returned (.bool (l.any oq))∧Below w.heap.size w w':=by
 go_enter func190,ntmps190
 go_wp2_with fail
 refine (OB l a c _ hrd hl).mono ?_;rintro e w2 ⟨rfl,b⟩;go_wp2;go_ret;exact⟨bK (pW _ _),b⟩
theorem Jb (w:World) (B:Nat):wR w B #[.slice none 0 0,.slice none 0 0,.slice none 0 0,.slice none 0 0,.slice none 0 0,.slice none 0 0,.slice none 0 0,.slice none 0 0] zTb where
 sz:=rfl
 own:=fun k hk=>by
  refine⟨.slice none 0 0,?_,by simpa[zTb] using Own.nil w B 129 3⟩
  match k,hk with
  | 0,_=>rfl
  | 1,_=>rfl
  | 2,_=>rfl
  | 3,_=>rfl
  | 4,_=>rfl
  | 5,_=>rfl
  | 6,_=>rfl
  | 7,_=>rfl
 apart:=fun j k v u hjk h1 h2 g hg=>by
  have:v = .slice none 0 0:=by
   match j with
   | 0=>cases h1;rfl
   | 1=>cases h1;rfl
   | 2=>cases h1;rfl
   | 3=>cases h1;rfl
   | 4=>cases h1;rfl
   | 5=>cases h1;rfl
   | 6=>cases h1;rfl
   | 7=>cases h1;rfl
   | j+8=>cases h1
  subst this;cases hg
theorem wR.put {t:Tb} (h:wR w B cs t) (hq:q<8) {l:List En} (ho:Own w B 129 3 v l.length (l.flatMap zu))
 (hnew:∀g,v.ownBlock=some g→∀j u,j≠q→cs[j]?=some u→u.ownBlock≠some g):wR w B (cs.setIfInBounds q v) (t.set q l) where
 sz:=by simp[h.sz]
 own:=fun k hk=>by
  by_cases e:k=q
  ·subst e;exact⟨v,by rw[rA (by rw[h.sz];exact hk)],by simpa using ho⟩
  obtain⟨u,h1,h2⟩:=h.own k hk;exact⟨u,by rw[fO (fun e2=>e e2.symm)];exact h1,by rw[GD hq hk (fun e2=>e e2.symm)];exact h2⟩
 apart:=fun j k x y c hx hy g b a=>by
  by_cases e:j=q
  ·subst e;rw[rA (by rw[h.sz];exact hq)] at hx;cases hx;rw[fO (by omega)] at hy;exact hnew g b k y (by omega) hy a
  rw[fO (fun e2=>e e2.symm)] at hx
  by_cases e2:k=q
  ·subst e2;rw[rA (by rw[h.sz];exact hq)] at hy;cases hy;exact hnew g a j x e hx b
  rw[fO (fun e3=>e2 e3.symm)] at hy;exact h.apart j k x y c hx hy g b a
theorem wR.wr {t:Tb} (h:wR w B cs t) (hq:q<8) (hr:r<t[q].length) :
  ∃g off cap cur,cs[q]?=some (.slice (some ⟨g,off,none⟩) t[q].length cap)∧B≤g∧aJ w g cur 129∧off+r*3+3≤cur.size ∧
   (∀j y,(zu (t[q][r]))[j]?=some y→w.cell? ⟨g,off+r*3+j,none⟩=some y) ∧
   ∀w' x,aJ w' g (dF cur (off+r*3) (zu x)) 129→w.grownBy w' (some g)→wR w' B cs (t.set q (t[q].set r x)):=by
 obtain⟨v,h1,h2⟩:=h.own q hq;obtain⟨g,off,cap,cur,rfl,hB,hb,d,a,b⟩:=h2.put BS (by decide) r hr;refine⟨g,off,cap,cur,h1,hB,hb,d,a,fun w' x i f=>⟨h.sz,fun k hk => ?_,h.apart⟩⟩
 by_cases e:k=q
 ·subst e;exact⟨_,h1,by simpa using b w' x i⟩
 obtain⟨u,h3,h4⟩:=h.own k hk;refine⟨u,h3,?_⟩;rw[GD hq hk (fun e2=>e e2.symm)];refine h4.grown f fun g' c he => ?_;cases he;rcases yw e with hlt|hlt
 ·exact h.apart k q _ _ hlt h3 h1 g c rfl
 ·exact h.apart q k _ _ hlt h1 h3 g rfl c
theorem Sq (t:Tb) (cs:Array Value) (n:Int) (e:En) (w:World) (h:Km w cs t) (hz:Dw t):Calls Tryz.prog 161 #[.agg cs,.int .i64 n,.agg (nI e)] w fun r w' => ∃cs',r = .returned (.tuple #[.agg cs',.int .i64 (setE t n e)])∧wR w' w.heap.size cs' (setT t n e)∧Below w.heap.size w w':=by
 go_enter func161,ntmps161;go_upto_region 1 with (fail);refine RI (fun W=>Code.wp _ _ _ _ W) fun W0 kA kr kM hY hT => ?_;clear hT
 go_wp2_with (refine jP rfl 112 (.tmp 3) rfl w.heap.size 0 rfl cs.toList kr.rd _ underlying112 tab_agg (by rw[kH,h.sz];exact tab_size) ?_)
 refine (Dn t cs _ (h.below kA)).mono ?_;rintro r w1 ⟨rfl,kb⟩;have c:=ah kA kb;have hx:=kr.ext kb;have he:=kM.ext kb;have o:=hY.ext kb;clear kA kr kM hY kb
 by_cases h0:dO t=0
 ·have H0:=ae h0;rw[h0];clear h0
  by_cases hn:0≤n∧n<64
  ·obtain⟨q,r,hq,hr,kF,gf,kX⟩:=wJ hn;have HN:=ae kF;clear kF;obtain⟨n0,n1⟩:=hn;have kw:decide (n<0)=false:=by simp;omega
   have kv:decide (64≤n)=false:=by simp;omega
   have ga : (q:Int)<8:=by omega
   have kT : (r:Int)<8:=by omega
   have kW:n.tmod 8=(r:Int):=by rw[Bu n0];exact kX
   go_wp2_with (refine jP rfl 129 (.tmp 5) rfl (w.heap.size+1) 0 rfl (nI e).toList he.rd _ underlying129 rfl entry_size ?_)
   refine (FC e _).mono ?_;rintro x w2 ⟨rfl,ka⟩;have i:=ah c ka;have kC:=hx.ext ka;have kL:=he.ext ka;have hl:=o.ext ka;clear c hx he o ka
   by_cases h1:gV e=0
   ·have hT:setE t n e=0:=by unfold setE;rw[if_neg (by rw[H0.out];simp),if_neg (by omega),h1]
    have HS:=ae hT;have hJ:=ae (Mx hT hq hr HN.out);rw[h1];clear h1 hT
    go_wp2_with (refine jP rfl 112 (.tmp 3) rfl w.heap.size 0 rfl cs.toList kC.rd _ underlying112 tab_agg (by rw[kH,h.sz];exact tab_size) ?_)
    refine (Ig t cs _ (h.below i) hz).mono ?_;rintro x w3 ⟨ca,rfl,kj,kh⟩;have f:=ah i kh;have kK:=kL.ext kh;have hi:=hl.ext kh;have kk:=kj.rd.one;have hR:=kj.sz;have ko:=kj.mono i.size;clear i kC kL hl kh kj
    go_wp2_with (refine ax rfl _ (.tmp 10) (.tmp 32) rfl w3.heap.size ca rfl rfl _ _ (aJ.new _ _ _) (by rw[hR];rfl) (by rw[hR];exact tab_size) kk ?_)
    intro w4 hN hy;have hO:=(ko.below ((Below.refl _ _).alloc (az _) _)).keep (aJ.new _ _ _) (by decide) hy;have ke:=aG (kK.alloc _) (aJ.new _ _ _) (by decide) hy;have hh:aJ w4 (w.heap.size+2) _ _:=(hi.alloc _).grown hy (fun e=>by have:=aS e;have:=hi.lt;omega);have z:Below w.heap.size w w4:=(f.alloc f.size _).grown hy (eF f.size _) (fun k hk=>by cases hk;exact f.size);have gd:w.heap.size+2<w3.heap.size:=hi.lt;have ge:w3.heap.size<w4.heap.size:=hN.lt;clear kK hi hy ko kk;have h6:=qg (mF H0.out q hq);obtain⟨v,hv,h5⟩:=hO.own q hq;obtain⟨av,cv,rfl,k5,k4,_⟩:=h5.rd;have HV:=ae hv;have kg:=(hN.cell q).trans hv;rcases h6 with h0|h8
    case' inl=>
     have H00:=ae h0;rw[h0] at kg;clear hv h5 h0
     go_wp2_with (refine wB _ rfl (.const (.int .i64 8)) (.const (.int .i64 8)) 110 rfl zu 129 _ 3 24 zEn BS (by decide) underlying110 entry_info rfl .i64 .i64 8 8 8 rfl rfl rfl rfl (by omega) (by unfold maxLen;omega) ?_)
     intro w5 kE b;have hQ:=hN.grown b (by simp);have kJ:=ke.grown b (by simp);have hX:=hh.grown b (by simp);have kP:wR w5 w.heap.size ca t:=hO.below (Av b);have a:=ah z (Av b);have km:∀g,(Value.slice (some ⟨w4.heap.size,0,none⟩) 8 8).ownBlock=some g→∀j u,j≠q→ca[j]?=some u→u.ownBlock≠some g:=by
      intro g hg j u hj hu kV;cases hg;obtain⟨v',kD,kU⟩:=hO.own j (by
       rcases fM j 8 with hk|hk
       ·exact hk
       ·rw[pO (by rw[hR];exact hk)] at hu;cases hu)
      rw[hu] at kD;cases kD;exact absurd (Sg kU _ kV) (Nat.lt_irrefl _)
     go_wp2_with (refine bz rfl _ (.tmp 43) (.tmp 42) rfl w3.heap.size q _ [.slice (some ⟨w4.heap.size,0,none⟩) 8 8] rfl rfl rfl _ _ hQ (by rw[hR];exact hq) slent_size (fun u hu=>by cases bN.1 hu;rfl) ?_)
     intro w6 hc ha;rw[Pw.putAt_one] at hc;have kl : Own w5 w.heap.size 129 3 (.slice (some ⟨w4.heap.size,0,none⟩) 8 8) (List.replicate 8 zEn).length ((List.replicate 8 zEn).flatMap zu):=kE.mono z.size;have hp:=(kP.keep hQ (by decide) ha).put hq (ay kl hQ (by decide) ha) km;have kz:=aG kJ hQ (by decide) ha;have hD:aJ w6 (w.heap.size+2) _ _:=hX.grown ha (fun e=>by have:=aS e;omega);have hI:=a.grown ha a.size (fun k hk=>by cases hk;exact f.size);have kf:(ca.setIfInBounds q (Value.slice (some ⟨w4.heap.size,0,none⟩) 8 8))[q]?=some (.slice (some ⟨w4.heap.size,0,none⟩) 8 8):=rA (by rw[hR];exact hq);have HH:Hid (∀l,(t.set q (List.replicate 8 zEn)).set q l=t.set q l):=ae (fun l=>by simp);have HL:Hid ((t.set q (List.replicate 8 zEn))[q]=(if t[q].length=0 then List.replicate 8 zEn else t[q])):=ae (by rw[if_pos H00.out];simp);have HL8:Hid ((t.set q (List.replicate 8 zEn))[q].length=8):=ae (by simp);go_upto_region 13 with (fail);generalize hT6:t.set q (List.replicate 8 zEn)=t6 at HH HL HL8 hp;generalize hC6:ca.setIfInBounds q (Value.slice (some ⟨w4.heap.size,0,none⟩) 8 8)=c6 at kf hp hc;have kS:=hc.lt;clear hT6 hC6 hQ kJ hX kP a b ha km kE kl hN ke hh hO z kg kw kv
    case' inr=>
     have hc:=hN;have kz:=ke;have hD:=hh;have hp:=hO;have hI:=z;have kf:=HV.out;have kN:=kg;rw[h8] at kN;have HL:Hid (t[q]=(if t[q].length=0 then List.replicate 8 zEn else t[q])):=ae (by rw[if_neg (by omega)]);have HL8:Hid (t[q].length=8):=ae h8;have gc:((8:Int)==0)=false:=by decide
     clear h8 hv h5 kg;go_upto_region 13 with (fail);generalize hT6:t[q]=tq at HL HL8;obtain⟨t6,kc⟩:∃t6,t6=t:=⟨_,rfl⟩;have HH:Hid (∀l:List En,t6.set q l hq=t.set q l hq):=ae (fun l=>by rw[kc]);have HL:Hid (t6[q]=(if t[q].length=0 then List.replicate 8 zEn else t[q])):=ae (by rw[kc,hT6];exact HL.out);have HL8:Hid (t6[q].length=8):=ae (by rw[kc,hT6];exact HL8.out);have hp:wR w4 w.heap.size ca t6:=by rw[kc];exact hp
     have kS:=hc.lt;obtain⟨c6,hC6⟩:∃c6,c6=ca:=⟨_,rfl⟩;rw[←hC6] at kf hp hc;clear hT6 kc hC6 hN ke hh hO z kN kw kv
    all_goals
     obtain⟨g,off,cap,cur,kx,k1,kZ,k7,_,hJ⟩:=hp.wr hq (r:=r) (by rw[HL8.out];exact hr);rw[HL8.out] at kx;clear kf;have HGV:=ae kx;clear kx;refine aP 7 [_,_,_,_,_,_,.v (.pointer (some ⟨g,off+r*3,none⟩))] (Gk rfl (Gk rfl (Gc (.slice (some ⟨g,off,none⟩) 8 cap) (fun W hb=>by simp[(((hc.ext hb).cell q).trans HGV.out),underlying110]) rfl rfl rfl rfl (Gk rfl (Gb (.int .i64 r) (by simp[go_sem,kW]) rfl rfl rfl rfl rfl (Gr (.agg (nI e)) (fun ρ y W hb k0=>(bY rfl (aU rfl k0) (kz.ext hb) underlying129 rfl entry_size)) rfl rfl (aj ?_ (aF)))))))) (fun _=>rfl) rfl ?_
     ·intro ρ y W hw hn hb hd;have k3:=hw 46 2 rfl;have h2:y 2=_:=hd 2 rfl;have k2:=hw 48 4 rfl;have h4:y 4=_:=hd 4 rfl;refine ak (.pointer (some ⟨g,off+r*3,none⟩)) (ag rfl) (by simp[execOp,go_sem,k3,h2,k2,h4,underlying110,kT]) rfl
     intro y WA hA _;have kq:=hc.ext hA;have hV:=hD.ext hA;have hH:=ah hI hA;have k9:w3.heap.size<WA.heap.size:=kq.lt;clear kZ hJ;obtain⟨g2,off2,cap2,cur2,kn,k8,hL,ky,_,hS⟩:=(hp.below hA).wr hq (r:=r) (by rw[HL8.out];exact hr);have kQ:=aS (HGV.out.symm.trans kn);simp only[lH,gY,sI,and_true] at kQ;obtain⟨⟨rfl,rfl⟩,kG,rfl⟩:=kQ;clear kn kG hc hD hI hA
     go_wp2_with (refine bz rfl _ (.tmp 50) (.tmp 49) rfl g (off+r*3) _ (zu e) rfl rfl rfl _ _ hL ky entry_size (Ms e) ?_)
     intro w8 kO ht;have ki:=hS w8 e kO ht;have kp:=aG kq hL (by decide) ht;have hU:=aG hV hL (by decide) ht;have h7:=hH.grown ht hH.size (fun k hk=>by cases hk;exact k1);have kY:=(kp.cell q).trans HGV.out;have hC:Hid (t6.set q (t6[q].set r e)=t.set q (t6[q].set r e)):=ae (HH.out _);have h6:Hid ((t6[q].set r e).length=8):=ae (by rw[dM];exact HL8.out);have hZ:eB w8 (some ⟨g,off,none⟩) ((t6[q].set r e).flatMap zu):=by obtain⟨v,h1,h2⟩:=ki.own q hq;obtain rfl:=aS (HGV.out.symm.trans h1);obtain⟨a',c',h3,_,_,_,h4⟩:=h2.rd;simp only[lH] at h3;obtain⟨rfl,_,_⟩:=h3;simpa using h4
     have hB:Hid (setH t[q] r e=if (t6[q].set r e).any oq then t6[q].set r e else []):=ae (by rw[HL.out];rfl);clear kq hV hH hL kO ht hS hp kz;generalize hl8e:t6[q].set r e=l8 at hC h6 hZ hB ki;clear hl8e;have HC:∀W,eB W (some ⟨g,off,none⟩) (l8.flatMap zu)→Calls Tryz.prog 190 #[.slice (some ⟨g,off,none⟩) 8 cap,.func (.func 191) #[] #[]] W fun e w'=>e = .returned (.bool (l8.any oq))∧Below W.heap.size W w':=by intro W hW;have:=Li l8 (some ⟨g,off,none⟩) cap W hW (by rw[h6.out];decide);rw[h6.out] at this;exact this
     have HC':=ae HC;clear HC
     go_wp2_with fail
     refine (HC'.out _ hZ).mono ?_;rintro x w9 ⟨rfl,h9⟩;have hP:=kp.ext h9;have hf:=hU.ext h9;have s:=ah h7 h9;have kd:=ki.below h9;have kR:=kd.sz;clear kp hU h7 ki hZ h9 kY;cases hk:l8.any oq
     ·have kI:Hid (t.set q (setH t[q] r e)=t.set q []):=ae (by rw[hB.out,hk];rfl);have ku:∀u∈[Value.slice none 0 0],u.oneCell' = true:=fun u hu=>by cases bN.1 hu;rfl
      clear hB
      go_wp2_with (refine bz rfl _ (.tmp 57) (.const (.slice none 0 0)) rfl w3.heap.size q _ [.slice none 0 0] rfl rfl rfl _ _ hP (by rw[kR];exact hq) slent_size ku ?_)
      intro wa hM hK;rw[Pw.putAt_one] at hM;have hm:=(kd.keep hP (by decide) hK).put hq (v:=.slice none 0 0) (l:=[]) (Own.nil _ _ _ _) (fun g hg=>by cases hg);have m:aJ wa (w.heap.size+2) _ _:=hf.grown hK (fun e=>by have:=aS e;omega);have p:=s.grown hK s.size (fun k hk=>by cases hk;exact f.size);have ks:Hid ((t6.set q l8).set q []=t.set q (setH t[q] r e)):=ae (by rw[hC.out,kI.out];simp);clear hP hf s kd hK;generalize hCa:c6.setIfInBounds q (Value.slice none 0 0)=ca2 at hm hM;clear hCa;have hF:=hm.rd.one;have d:=hm.sz
      go_wp2_with (first | (refine jP rfl 112 (.tmp 10) rfl w3.heap.size 0 rfl ca2.toList hM.rd _ underlying112 tab_agg (by rw[kH,d];exact tab_size) ?_) | (refine ax rfl _ (.tmp 6) (.tmp 58) rfl (w.heap.size+2) ca2 rfl rfl _ _ m (by rw[d];rfl) (by rw[d];exact tab_size) hF ?_))
      intro wb kt hs;have kB:=hm.keep m (by decide) hs;have hG:=p.grown hs p.size (fun k hk=>by cases hk;omega);go_wp2;refine bodyPost_ret (v:=.tuple #[.agg ca2,.int .i64 0]) (fZ results161 _ _ (w.heap.size+2) _ _ _ _ rfl rfl kt underlying112 rfl (by rw[d];exact tab_size)) rfl ?_;exact⟨_,by rw[HS.out],by rw[hJ.out,←ks.out];exact kB,hG⟩
     have ks:Hid (t6.set q l8=t.set q (setH t[q] r e)):=ae (by rw[hC.out,hB.out,hk];rfl);have hm:=kd;have hM:=hP;have m:=hf;have p:=s;clear hP hf s kd hB;generalize hCa:c6=ca2 at hm hM;clear hCa;have hF:=hm.rd.one;have d:=hm.sz
     go_wp2_with (first | (refine jP rfl 112 (.tmp 10) rfl w3.heap.size 0 rfl ca2.toList hM.rd _ underlying112 tab_agg (by rw[kH,d];exact tab_size) ?_) | (refine ax rfl _ (.tmp 6) (.tmp 58) rfl (w.heap.size+2) ca2 rfl rfl _ _ m (by rw[d];rfl) (by rw[d];exact tab_size) hF ?_))
     intro wb kt hs;have kB:=hm.keep m (by decide) hs;have hG:=p.grown hs p.size (fun k hk=>by cases hk;omega);go_wp2;refine bodyPost_ret (v:=.tuple #[.agg ca2,.int .i64 0]) (fZ results161 _ _ (w.heap.size+2) _ _ _ _ rfl rfl kt underlying112 rfl (by rw[d];exact tab_size)) rfl ?_;exact⟨_,by rw[HS.out],by rw[hJ.out,←ks.out];exact kB,hG⟩
   have q0:Hid (setE t n e=gV e∧gV e≠0):=ae ⟨by unfold setE;rw[if_neg (by rw[H0.out];simp),if_neg (by omega)],h1⟩;have gg : (gV e != 0)=true:=by simpa using h1
   have c:=i;have o:=hl;clear h1 i hl
   go_wp2_with (refine ax rfl _ (.tmp 6) (.tmp 29) rfl (w.heap.size+2) #[.slice none 0 0,.slice none 0 0,.slice none 0 0,.slice none 0 0,.slice none 0 0,.slice none 0 0,.slice none 0 0,.slice none 0 0] rfl rfl _ _ o rfl tab_size (by simp[Value.oneCell']) ?_)
   all_goals
    intro w5 hE b;have a:Below w.heap.size w w5:=c.grown b c.size (fun k hk=>by cases hk;omega);go_wp2;refine bodyPost_ret (v:=.tuple #[.agg #[.slice none 0 0,.slice none 0 0,.slice none 0 0,.slice none 0 0,.slice none 0 0,.slice none 0 0,.slice none 0 0,.slice none 0 0],.int .i64 (gV e)]) (fZ results161 _ _ (w.heap.size+2) _ _ _ _ rfl rfl hE underlying112 rfl tab_size) rfl ?_;have q:=q0.out;exact⟨_,by rw[q.1],by rw[vX (by rw[q.1];exact q.2)];exact Jb _ _,a⟩
  have q0:Hid (setE t n e=3∧(3:Int)≠0):=ae ⟨by unfold setE;rw[if_neg (by rw[H0.out];simp),if_pos (by omega)],by decide⟩;have gb : n<0∨64≤n:=by omega
  clear hn
  by_cases kw:n<0
  ·skip
   go_wp2_with (refine ax rfl _ (.tmp 6) (.tmp 24) rfl (w.heap.size+2) #[.slice none 0 0,.slice none 0 0,.slice none 0 0,.slice none 0 0,.slice none 0 0,.slice none 0 0,.slice none 0 0,.slice none 0 0] rfl rfl _ _ o rfl tab_size (by simp[Value.oneCell']) ?_)
   all_goals
    intro w5 hE b;have a:Below w.heap.size w w5:=c.grown b c.size (fun k hk=>by cases hk;omega);go_wp2;refine bodyPost_ret (v:=.tuple #[.agg #[.slice none 0 0,.slice none 0 0,.slice none 0 0,.slice none 0 0,.slice none 0 0,.slice none 0 0,.slice none 0 0,.slice none 0 0],.int .i64 (3)]) (fZ results161 _ _ (w.heap.size+2) _ _ _ _ rfl rfl hE underlying112 rfl tab_size) rfl ?_;have q:=q0.out;exact⟨_,by rw[q.1],by rw[vX (by rw[q.1];exact q.2)];exact Jb _ _,a⟩
  have kv:64≤n:=by omega
  have k6 : decide (n<0)=false:=by simp;omega
  go_wp2_with (refine ax rfl _ (.tmp 6) (.tmp 24) rfl (w.heap.size+2) #[.slice none 0 0,.slice none 0 0,.slice none 0 0,.slice none 0 0,.slice none 0 0,.slice none 0 0,.slice none 0 0,.slice none 0 0] rfl rfl _ _ o rfl tab_size (by simp[Value.oneCell']) ?_)
  all_goals
   intro w5 hE b;have a:Below w.heap.size w w5:=c.grown b c.size (fun k hk=>by cases hk;omega);go_wp2;refine bodyPost_ret (v:=.tuple #[.agg #[.slice none 0 0,.slice none 0 0,.slice none 0 0,.slice none 0 0,.slice none 0 0,.slice none 0 0,.slice none 0 0,.slice none 0 0],.int .i64 (3)]) (fZ results161 _ _ (w.heap.size+2) _ _ _ _ rfl rfl hE underlying112 rfl tab_size) rfl ?_;have q:=q0.out;exact⟨_,by rw[q.1],by rw[vX (by rw[q.1];exact q.2)];exact Jb _ _,a⟩
 have q0:Hid (setE t n e=dO t∧dO t≠0):=ae ⟨by unfold setE;rw[if_pos h0],h0⟩;have gh : (dO t != 0)=true:=by simpa using h0
 clear h0
 go_wp2_with (refine ax rfl _ (.tmp 6) (.tmp 16) rfl (w.heap.size+2) #[.slice none 0 0,.slice none 0 0,.slice none 0 0,.slice none 0 0,.slice none 0 0,.slice none 0 0,.slice none 0 0,.slice none 0 0] rfl rfl _ _ o rfl tab_size (by simp[Value.oneCell']) ?_)
 all_goals
  intro w5 hE b;have a:Below w.heap.size w w5:=c.grown b c.size (fun k hk=>by cases hk;omega);go_wp2;refine bodyPost_ret (v:=.tuple #[.agg #[.slice none 0 0,.slice none 0 0,.slice none 0 0,.slice none 0 0,.slice none 0 0,.slice none 0 0,.slice none 0 0,.slice none 0 0],.int .i64 (dO t)]) (fZ results161 _ _ (w.heap.size+2) _ _ _ _ rfl rfl hE underlying112 rfl tab_size) rfl ?_;have q:=q0.out;exact⟨_,by rw[q.1],by rw[vX (by rw[q.1];exact q.2)];exact Jb _ _,a⟩
theorem wo (t:Tb) (cs:Array Value) (n:Int) (w:World) (h:Km w cs t):Calls Tryz.prog 53 #[.agg cs,.int .i64 n] w fun r w'=>r = .returned (.agg #[.int .i64 (dB t n).k,.int .i64 (dB t n).n,.bool (dB t n).w])∧Below w.heap.size w w':=zt t cs n w h
theorem WL (E:En) (W:World):(Instr.field 129 (.agg #[.int .i64 E.k,.int .i64 E.n,.bool E.w]) 0).run Tryz.prog W = .ok (.int .i64 E.k) W:=by
 simp[Instr.field,go_sem];rfl
theorem xJ (t:Tb) (cs:Array Value) (w:World) (h:Km w cs t):Calls Tryz.prog 51 #[.agg cs] w fun r w' => ∃v,r = .returned v∧Own w' w.heap.size 3 1 v (aM t).length ((aM t).map iI)∧Below w.heap.size w w':=by
 go_enter func51,ntmps51;go_upto_region 1 with (fail);refine jl (fun W=>Code.wp _ _ _ _ W) fun W0 o n q => ?_;clear q;go_wp2;have c:Own W0 w.heap.size 3 1 (.slice none 0 0) (jm t 0).length ((jm t 0).map iI):=Own.nil _ _ _ _
 go_loopw [5,3] (fun i v wr => ∃k:Nat,k≤64∧i = .int .i64 k∧Below w.heap.size w wr∧aJ wr w.heap.size cs 112∧Own wr w.heap.size 3 1 v (jm t k).length ((jm t k).map iI)) (fun i _ _=>64-(intOf i).toNat)
 case atStart=>exact⟨0,bB _,rfl,o,n,c⟩
 case round=>
  obtain⟨k,hk,rfl,e,hx,d⟩:=hrel;clear o n c;have u:=qp t k
  by_cases hlt:k<64
  ·have hd:decide ((k:Int)<64)=true:=by simp;omega
   go_wp2_with (refine jP rfl 112 (.tmp 1) rfl w.heap.size 0 rfl cs.toList hx.rd _ underlying112 tab_agg (by rw[kH,h.sz];exact tab_size) ?_)
   refine (wo t cs k _ (h.below e)).mono ?_;rintro r w1 ⟨rfl,f⟩;have a:=ah e f;have m:=hx.ext f;have x:=WL (dB t k);have b:=d.below f;clear f e hx d;cases hk2:oq (dB t k)
   ·have s:((dB t k).k != 0)=false:=by simpa[oq] using hk2
    have hn:=ae (KU hk2);clear hk2;go_wp2;go_roundw
    case rel=>exact⟨k+1,by omega,by go_num,a,m,by rw[hn.out];exact b⟩
    case measure=>simp[intOf];omega
   have s:((dB t k).k != 0)=true:=by simpa[oq] using hk2
   have hn:=ae (IP hk2);clear hk2
   go_wp2_with (at_builtin;go_must (refine eH rfl _ _ 32 rfl w.heap.size 3 (.int .i64 0) 1 8 underlying32 int_info rfl (by decide) _ _ _ rfl (b.alloc _) (some ⟨w1.heap.size,0,none⟩) 1 1 [iI k] rfl (fun h=>(by cases h)) (az _) rfl (eB.one _ _ _) (HY _ _) (by unfold maxLen;omega) (by omega) ?bb ?k))
   case bb=>exact eF a.size _
   intro v2 w2 j g;have l:Below w.heap.size w w2:=(a.alloc a.size _).grown g (eF a.size _) (fun k hk=>(b.ge k hk));have p:aJ w2 w.heap.size cs 112:=oC (m.alloc _) (b.alloc _) (by decide) g;go_wp2;go_roundw
   case rel=>exact⟨k+1,by omega,by go_num,l,p,by rw[hn.out,gX,iK];exact j⟩
   case measure=>simp[intOf];omega
  obtain rfl:k=64:=by omega
  go_wp2;go_ret;exact⟨_,rfl,d,e⟩
theorem one_int1:∀x:Int,([iI x]:List Value).length=1:=fun _=>rfl
def Qn (B:Nat) (w0:World) (c1 c2 c3:Value) (p:Int→Bool):Prop:=∀(n:Int) (W:World),Below B w0 W→B≤W.heap.size→Calls Tryz.prog 217 #[.int .i64 n,c1,c2,c3] W fun e w'=>e = .returned (.bool (p n))∧Below W.heap.size W w'
theorem xQ (h:Below B w0 w) (hB:B≤w.heap.size) (hb:Below w.heap.size w w'):Below B w0 w':=h.trans (hb.mono hB)
theorem KD (l:List Int) (a:Option Addr) (c:Nat) (w:World) (hrd:eB w a (l.map iI)) (hl:l.length≤9223372036854775807) (B:Nat) (w0:World) (c1 c2 c3:Value) (p:Int→Bool) (hT:Qn B w0 c1 c2 c3 p) (hB0:Below B w0 w) (hBs:B≤w.heap.size) :
  Calls Tryz.prog 220 #[.slice a l.length c,.func (.func 217) #[] #[c1,c2,c3]] w fun e w'=>e = .returned (.int .i64 (idx p l))∧Below w.heap.size w w':=by
 go_enter func220,ntmps220;go_wp2
 go_loopw [8] (fun i wr => ∃k:Nat,k≤l.length∧i = .int .i64 k∧Below w.heap.size w wr∧∀i (h:i<l.length),i<k→p l[i]=false) (fun i _=>l.length-(intOf i).toNat)
 case atStart=>exact⟨0,bB _,rfl,Below.refl _ _,fun i _ h=>absurd h (gL _)⟩
 case round=>
  obtain⟨k,hk,rfl,f,m⟩:=hrel;have hp:=ae m;clear m
  by_cases hlt:k<l.length
  ·obtain⟨b,off,rfl,c0⟩:=lm (hrd.below f) k hlt
   go_wp2_with fail
   refine (hT l[k] _ (xQ hB0 hBs f) (aV hBs f.size)).mono ?_;rintro e w2 ⟨rfl,n⟩;have g:=ah f n;clear n;cases hpk:p l[k]
   ·have j:=ae hpk;clear hpk;go_wp2;go_roundw
    case rel=>exact⟨k+1,by omega,by go_num,g,nH hp.out hlt j.out⟩
    case measure=>simp[intOf];omega
   have d:=ae (pz p l k hlt hp.out hpk);clear hpk;go_wp2;go_ret;exact⟨bi d.out.symm,g⟩
  have d:=ae (ky p l fun i h=>hp.out i h (by omega));go_wp2;go_ret;exact⟨bi d.out.symm,f⟩
theorem Mi (l:List Int) (v:Value) (B:Nat) (w0 w:World) (c1 c2 c3:Value) (p:Int→Bool) (ho:Own w B 3 1 v l.length (l.map iI)) (hl:l.length≤100000) (hT:Qn B w0 c1 c2 c3 p) (hB0:Below B w0 w) (hBs:B≤w.heap.size) :
  Calls Tryz.prog 216 #[v,.func (.func 217) #[] #[c1,c2,c3]] w fun e w' => ∃v',e = .returned v'∧Own w' B 3 1 v' (l.filter (fun x => !p x)).length ((l.filter (fun x => !p x)).map iI)∧Below B w w':=by
 obtain⟨a,c,rfl,hK,hm,hb,hr⟩:=ho.rd;unfold maxLen at hm;go_enter func216,ntmps216
 go_wp2_with fail
 refine (KD l a c _ hr (by omega) B w0 c1 c2 c3 p hT hB0 hBs).mono ?_;rintro e w1 ⟨rfl,s⟩;have u:=ho.below s;have hp:Below B w w1:=s.mono hBs;have hf:B≤w1.heap.size:=aV hBs s.size;clear ho;rcases zO p l with ⟨hi,hall⟩|⟨i0,hi0,hi,he0,hno⟩
 ·have hk:=ae (AP.all hall);rw[hi];clear hall hi s;go_wp2;go_ret;rw[hk.out];exact⟨_,rfl,u,hp⟩
 have hx:=ae (AP.start hi0 he0 hno);rw[hi];clear he0 hno hi s;have hB:((i0:Int) == -1)=false:=beq_eq_false_iff_ne.2 (by omega);cases a with
 | none=>have:=hb rfl;omega
 | some ad=>
  obtain⟨g,off,hC⟩:∃g off,ad=⟨g,off,none⟩:=by
   rcases u.2 with ⟨h,_⟩|⟨g,off,cap,cur,h,_⟩
   ·cases h
   ·exact⟨g,off,by cases h;rfl⟩
  subst hC;clear hr hb;go_wp2
  go_loopw [5,6] (fun s5 s6 wr => ∃(i j:Nat) (cur:List Int),s5 = .int .i64 i∧s6 = .int .i64 j∧Hid (AP p l j i cur)∧Own wr B 3 1 (.slice (some ⟨g,off,none⟩) l.length c) l.length (cur.map iI)∧Below B w wr∧B≤wr.heap.size) (fun _ s6 _=>l.length-(intOf s6).toNat)
  case atStart=>exact⟨i0,i0+1,l,rfl,by go_num,hx,u,hp,hf⟩
  case round=>
   clear hx u hp hf hi0 hB;obtain⟨i,j,cur,rfl,rfl,hI,d,hG,m⟩:=hrel;have hM:=hI.out.lt;have hL:=hI.out.le;have z:=hI.out.len
   by_cases hlt:j<l.length
   ·have hv:j<cur.length:=by omega
    have ht:cur[j]=l[j]:=by have:=hI.out.rest j (az _);rw[aN hv,aN hlt] at this;exact aS this
    obtain⟨_,_,e2,_,_,_,hq⟩:=d.rd;simp only[lH] at e2;obtain⟨rfl,_,rfl⟩:=e2;obtain⟨_,_,e3,hc⟩:=lm hq j hv;simp only[gY,sI,and_true] at e3;obtain⟨rfl,rfl⟩:=e3;rw[ht] at hc;have n:=ae z;clear ht hq z;have b:=hT l[j] wr (hB0.trans hG) m;go_upto_region 8 with (fail);clear hc
    by_cases he:p l[j]=true
    ·have hn:=ae (hI.out.skip hlt he);rw[he] at b;clear he hI
     go_wp2_with fail
     refine b.mono ?_;rintro e w3 ⟨rfl,f⟩;have q:=d.below f;have ha:=xQ hG m f;have t:=aV m f.size;clear d hG m b f;go_wp2;go_roundw
     case rel=>exact⟨i,j+1,cur,rfl,by go_num,hn,q,ha,t⟩
     case measure=>simp[intOf];omega
    have hj : p l[j]=false:=by simpa using he
    have hn:=ae (hI.out.keep hlt hj);rw[hj] at b;clear he hI hj
    go_wp2_with fail
    refine b.mono ?_;rintro e w3 ⟨rfl,f⟩;have q:=d.below f;have ha:=xQ hG m f;have t:=aV m f.size;clear d hG m b f;rw[←mV] at q;obtain⟨gb,offb,capb,curb,hA,hF,y,hw,o⟩:=oM one_int1 (by decide) n.out q i (by omega);cases hA;have hi0:(i:Int)<(l.length:Int):=by omega
    go_wp2_with (refine bz rfl _ (.tmp 33) (.tmp 32) rfl g (off+i) _ [iI l[j]] rfl rfl rfl curb 3 y (by simp;omega) int_size (HY _ _) ?_)
    intro w5 hs r;have hz:=o w5 l[j] (by rw[BX];exact hs);rw[mV] at hz;have hD:=ha.grown r t (fun k hk=>by cases hk;exact hF);have hy:B≤w5.heap.size:=by have:=r.size;omega
    clear hs o y q ha r hw;go_wp2;go_roundw
    case rel=>exact⟨i+1,j+1,cur.set i l[j],by go_num,by go_num,hn,hz,hD,hy⟩
    case measure=>simp[intOf];omega
   have hi0:i<l.length:=by omega
   have hd:Hid (cur.take i=l.filter (fun x => !p x)):=by have:=hI.out.done;rw[ou (l:=l) (by omega)] at this;exact this
   have n:=ae z;have hN:(i:Int)≤(c:Int):=by omega
   have hH : (i:Int)≤(l.length:Int):=by omega
   obtain⟨cs,y,hw,hE⟩:∃cs,aJ wr g cs 3∧off+l.length*1≤cs.size∧B≤g:=by
    rcases d.2 with ⟨h,_⟩|⟨g',off',cap',cur',h,h0,h2,h3,_,h4,_⟩
    ·cases h
    ·cases h;exact⟨cur',h2,by omega,h0⟩
   have hJ:=fun ty=>sH (P:=Tryz.prog) wr 32 3 ty _ 1 8 underlying32 int_info (by decide) (by decide) g (off+i) (l.length-i) (c-i) (by omega) cs _ y (by simp[Value.cells];omega);rw[←mV] at d;have hg:=fun w' vs=>Pf one_int1 (w':=w') (vs:=vs) d i n.out (by omega);simp only[mV] at hg;rw[hd.out] at hg;have hu:Hid ((l.filter (fun x => !p x)).length=i):=by show (l.filter (fun x => !p x)).length=i;rw[←hd.out,fq,n.out];omega
   clear hI z d;go_wp2;go_ret;have hh:=fun vs=>hg (wr.setCells g (off+i) vs) vs (fun cur hc=>by rw[BX];exact hc.setCells vs _);rw[hu.out] at hh ⊢;exact⟨_,rfl,hh _,hG.grown (aA _ _ _ _) m (fun k hk=>by cases hk;exact hE)⟩
theorem Ku (t:Tb) (cs:Array Value) (kind k n:Int) (b1 b2 b3:Nat) (w:World) (h:Km w cs t) (h1:aJ w b1 cs 112) (h2:aJ w b2 #[.int .i64 kind] 3) (h3:aJ w b3 #[.int .i64 k] 3) :
  Calls Tryz.prog 217 #[.int .i64 n,.pointer (some ⟨b1,0,none⟩),.pointer (some ⟨b2,0,none⟩),.pointer (some ⟨b3,0,none⟩)] w fun r w'=>r = .returned (.bool (oU t kind k n))∧Below w.heap.size w w':=by
 go_enter func217,ntmps217
 go_wp2_with (refine jP rfl 112 (.tmp 1) rfl b1 0 rfl cs.toList h1.rd _ underlying112 tab_agg (by rw[kH,h.sz];exact tab_size) ?_)
 refine (zt t cs n _ h).mono ?_;rintro r w1 ⟨rfl,a⟩;have o:=(h2.ext a).cell;have l:=(h3.ext a).cell;have u:=h2.lt;have s:=h3.lt;have v:=a.size;generalize hE:dB t n=E;have f:Hid (oU t kind k n=(decide (E.k≠kind)||decide (E.n≠k))):=ae (by unfold oU;rw[hE]);clear hE
 by_cases hk:E.k=kind
 ·have p:(E.k != kind)=false:=by simp[hk]
  have c:Hid (oU t kind k n=(E.n != k)):=ae (by rw[f.out,nP];simp[hk]);clear hk f
  go_wp2_with (refine bz rfl _ (.tmp 6) (.tmp 9) rfl w1.heap.size 0 _ (zu E) rfl rfl rfl _ _ (aJ.new _ _ _) (az 3) entry_size (Ms E) ?_)
  intro w2 i b;have g : aJ w2 w1.heap.size (nI E) 129:=by simpa[dF,zu,nI] using i
  have q:=g.cell;have m:=(((h2.ext a).alloc _).grown b (fun e=>by have:=aS e;omega)).cell;have j:=(((h3.ext a).alloc _).grown b (fun e=>by have:=aS e;omega)).cell;have d:Below w.heap.size w w2:=(a.alloc a.size _).grown b (eF a.size _) (fun k hk=>by cases hk;exact a.size);have e0:(nI E)[0]?=some (.int .i64 E.k):=rfl;have e1:(nI E)[1]?=some (.int .i64 E.n):=rfl;clear o l i;go_wp2;go_ret;exact⟨bK c.out.symm,d⟩
 have p:(E.k != kind)=true:=by simpa using hk
 have c:Hid (oU t kind k n=true):=ae (by rw[f.out];simp[hk]);clear hk f
 go_wp2_with (refine bz rfl _ (.tmp 6) (.tmp 9) rfl w1.heap.size 0 _ (zu E) rfl rfl rfl _ _ (aJ.new _ _ _) (az 3) entry_size (Ms E) ?_)
 intro w2 i b;have g : aJ w2 w1.heap.size (nI E) 129:=by simpa[dF,zu,nI] using i
 have q:=g.cell;have m:=(((h2.ext a).alloc _).grown b (fun e=>by have:=aS e;omega)).cell;have j:=(((h3.ext a).alloc _).grown b (fun e=>by have:=aS e;omega)).cell;have d:Below w.heap.size w w2:=(a.alloc a.size _).grown b (eF a.size _) (fun k hk=>by cases hk;exact a.size);have e0:(nI E)[0]?=some (.int .i64 E.k):=rfl;have e1:(nI E)[1]?=some (.int .i64 E.n):=rfl;clear o l i;go_wp2;go_ret;exact⟨bK c.out.symm,d⟩
theorem NQ (t:Tb) (cs:Array Value) (kind k:Int) (w:World) (h:Km w cs t):Calls Tryz.prog 209 #[.agg cs,.int .i64 kind,.int .i64 k] w fun r w' => ∃v,r = .returned v∧Own w' w.heap.size 3 1 v (nA t kind k).length ((nA t kind k).map iI)∧Below w.heap.size w w':=by
 go_enter func209,ntmps209;go_upto_region 1 with (fail);refine RI (fun W=>Code.wp _ _ _ _ W) fun W0 a c i d e => ?_;have l:w.heap.size+2<W0.heap.size:=d.lt;clear e
 go_wp2_with (refine jP rfl 112 (.tmp 3) rfl w.heap.size 0 rfl cs.toList c.rd _ underlying112 tab_agg (by rw[kH,h.sz];exact tab_size) ?_)
 refine (xJ t cs _ (h.below a)).mono ?_;rintro r w1 ⟨v,rfl,g,b⟩;have hT:Qn W0.heap.size W0 (.pointer (some ⟨w.heap.size,0,none⟩)) (.pointer (some ⟨w.heap.size+1,0,none⟩)) (.pointer (some ⟨w.heap.size+2,0,none⟩)) (oU t kind k):=
  fun n W hW m=>Ku t cs kind k n _ _ _ W ((h.below a).below hW) (c.ext hW) (i.ext hW) (d.ext hW)
 go_wp2_with fail
 refine (Mi (aM t) v W0.heap.size W0 w1 _ _ _ (oU t kind k) g (aV (qp t 64) (by decide)) hT b b.size).mono ?_;rintro r w2 ⟨v2,rfl,f,j⟩;go_wp2;go_ret;exact⟨_,rfl,f.mono a.size,a.trans ((b.trans j).mono a.size)⟩
end Go.Proofs.YtpaeabelhnnbiaaGreat