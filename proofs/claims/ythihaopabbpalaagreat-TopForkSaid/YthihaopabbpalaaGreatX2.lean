import Derived.Test.YthihaopabbpalaaGreatX1
import Derived.BigQuiet
import Derived.Deep.DeepCutAuto
import Derived.Deep.QuietTactic
import Derived.IntWalk
import Derived.Lib.LazyBuf
import Derived.Test.YthihaopabbpalaaGreatRows
import Derived.Maps.Range
import Derived.Deep.Light
import Derived.BigRegion
import Derived.RegionTactic
set_option linter.unusedSimpArgs false
set_option linter.unusedVariables false
set_option maxHeartbeats 4000000
set_option maxRecDepth 100000
namespace Pw
open Go Go.RowKit
variable {B b f g i id j k k1 off sz:Nat} {P:Program} {Q:Exit -> Act -> World -> Prop} {T T' t t' ty:TypeId} {V c0 u v v' vx vy:Value} {a0:Act} {cs cur t0:Array Value} {o op:Oper} {ops:Array Oper} {rest:List Oper} {vs xs:List Value} {w w' w0:World} {x:Operand} {y:Nat -> Value} {ρ:Operand -> Value}
theorem Qp{a c:World}(h:a.grownBy c none)(row:Option Nat):a.grownBy c row:=⟨h.os,h.tape,h.output,h.size,λi d _=>h.block i d (by simp)⟩
def nu(ps:List (Nat × Value))(i:Nat):Option Value:=ps.lookup i
def cOk(ops:Array Oper)(m:Nat)(ps:List (Nat × Value)):Bool:=
 (List.range m).all λj=>(nu ps j).isSome||(qg ops ops.size m).contains j
def QG(m k1:Nat)(ps:List (Nat × Value)):Bool:=(List.range k1).all λj=>decide (j<=m)||(nu ps j).isSome
def YK(ops:Array Oper)(m:Nat)(ps:List (Nat × Value)):Bool:=
 (List.range ops.size).all λi=>(nu ps i).isNone||(decide (i≠m)&&match ops[i]? with | some o=>o.after.toList.all (λe=>(nu ps e.on).isSome) | none=>true)
theorem Vy{m:Nat}{ps:List (Nat × Value)}(h:cOk ops m ps=true){d:Array Bool}(z:∀i o,ops[i]?=some o->d.getD i false=true->∀e∈o.after,d.getD e.on false=true)(A:∀o,ops[m]?=some o->∀e∈o.after,d.getD e.on false=true)(j:Nat)(s:j<m)(p:nu ps j=none):d.getD j false=true:=by
 have n:=dG.1 h j (dx.2 s);rw[p]at n;exact tV z ops.size m A j (by simpa using n)
theorem aaj{m:Nat}{ps:List (Nat × Value)}(h:QG m k1 ps=true)(j:Nat)(e:j<k1)(n:m<j):∃v,nu ps j=some v:=by
 have d:=dG.1 h j (dx.2 e);simp only[uN,decide_eq_true_eq]at d;rcases d with d|d
 ·omega
 ·exact Option.isSome_iff_exists.1 d
theorem Zw{m:Nat}{ps:List (Nat × Value)}(h:YK ops m ps=true)(n:ops[i]?=some o)(p:nu ps i=some v):i≠m/\∀e∈o.after,∃u,nu ps e.on=some u:=by
 have a:i<ops.size:=(iB.1 n).1;have d:=dG.1 h i (dx.2 a);rw[p,n]at d;simp only[Option.isNone_some,Bool.false_or,dJ,decide_eq_true_eq]at d;exact⟨d.1,λe s=>Option.isSome_iff_exists.1 (dG.1 d.2 e (nM.2 s))⟩
def Zj(P:Program)(ops:Array Oper)(Q:Exit->Act->World->Prop)(m k1:Nat)(ps:List (Nat × Value))(R:Nat->Value->World->Prop)(a0:Act)(w0:World)(listed:Array Bool)(a:Act)(w:World):Prop:=
  (∀i,k1<=i->listed.getD i false=false)/\(∀i o,ops[i]?=some o->listed.getD i false=true->∀e∈o.after,listed.getD e.on false=true) /\
  ∃y:Nat->Value,(∀i v,nu ps i=some v->y i=v)/\a = { a0 with tmps:=lay (λi=>listed.getD i false) y ops.toList 0 a0.tmps } /\
    ((listed.getD m false=false/\Below w0.heap.size w0 w/\∀i,i<m->nu ps i=none->listed.getD i false=true->R i (y i) w) \/
     (listed.getD m false=true/\wpList P ops Q (ops.toList.drop k1) { a0 with tmps:=lay (λi=>decide (i<k1)) y ops.toList 0 a0.tmps } w))
theorem Gp{d:Array Bool}(p:d.size=ops.size)(A:k1<=ops.size)(z:∀i,i<ops.size->d.getD i false=decide (i<k1)):d.toList.countP (!·)=ops.size-k1:=by
 have e:d.toList=List.replicate k1 true++List.replicate (ops.size-k1) false:=by
  apply qB;intro i
  by_cases s:i<ops.size
  ·have n:=z i s;rw[qz,wX (show i<d.size by omega)];simp only[bG,wX (show i<d.size by omega),sQ]at n;rw[n]
   by_cases h:i<k1
   ·rw[jb (by simpa using h)];simp[h]
   rw[jv (by simp;omega)];rw[mY,uA,if_pos (by omega)];simp[h]
  ·rw[dP (by simp;omega),dP (by simp;omega)]
 rw[e];simp[EK,KU]
theorem CX(m k1:Nat)(ps:List (Nat × Value))(H:kw ops=true)(ht:je ops k1=true)(W:cOk ops m ps=true)(hmid:QG m k1 ps=true)(hpu:YK ops m ps=true)(hmk:m<k1)(hk1:k1<=ops.size)
 (R:Nat->Value->World->Prop) (Y:∀i v w w',Below w.heap.size w w'->R i v w->R i v w')
 (X:∀i o,i<m->nu ps i=none->ops[i]?=some o->∀y w,(∀i v,nu ps i=some v->y i=v)->Below w0.heap.size w0 w->(∀j,o.after.toList.any (λe=>e.on==j)=true->match nu ps j with | some v=>y j=v | none=>R j (y j) w) ->
 if Region.wanted o (yielded ops (lay (λ_=>true) y ops.toList 0 a0.tmps))=true then Gives P o { a0 with tmps:=lay (λ_=>true) y ops.toList 0 a0.tmps } w (λv w'=>Below w.heap.size w w'/\R i v w')else R i undef w)
 (Z:∀i v o,nu ps i=some v->ops[i]?=some o->∀y w,(∀i v,nu ps i=some v->y i=v) ->
 Region.wanted o (yielded ops (lay (λ_=>true) y ops.toList 0 a0.tmps))=true/\(execOp ({ a0 with tmps:=lay (λ_=>true) y ops.toList 0 a0.tmps }:Act).eval o).run P w = .ok (.value v) w)
 (hend:∀y w o,ops[m]?=some o->(∀i v,nu ps i=some v->y i=v)->Below w0.heap.size w0 w->(∀i,i<m->match nu ps i with | some v=>y i=v | none=>R i (y i) w) ->
 Region.wanted o (yielded ops (lay (λ_=>true) y ops.toList 0 a0.tmps))=true /\
 Gives P o { a0 with tmps:=lay (λ_=>true) y ops.toList 0 a0.tmps } w λv w'=>wpList P ops Q (ops.toList.drop k1) { a0 with tmps:=lay (λi=>decide (i<k1)) (λi=>if i=m then v else y i) ops.toList 0 a0.tmps } w') :
    wpAny P .any ops Q ops.size (Array.replicate ops.size false) a0 { w0 with drawn:=w0.drawn+1 }:=by
  have hQ:∀(C:Nat) (A:Array Bool) (a:Act) (w:World),A.size=ops.size->A.toList.countP (!·)<=C->Zj P ops Q m k1 ps R a0 w0 A a w->wpAny P .any ops Q C A a w:=by
    have hz:∀(C:Nat) (A:Array Bool) (a:Act) (w:World),A.size=ops.size->A.toList.countP (!·)<=C->Zj P ops Q m k1 ps R a0 w0 A a w->(∀i,i<k1->A.getD i false=true)->wpAny P .any ops Q C A a w:=by
      intro C A a w n hc hA b;obtain⟨hC,hm,y,J,ha,hr⟩:=hA;have I:∀i,i<ops.size->A.getD i false=decide (i<k1):=by
        intro i N
        by_cases G:i<k1
        · rw[b i G];simp[G]
        · rw[hC i (by omega)];simp[G]
      rcases hr with⟨h1,_⟩|⟨_,hw⟩
      · rw[b m hmk]at h1;cases h1
      refine qJ (m:=k1) H ht C k1 A a w (aC _) hk1 (by have:=Gp n hk1 I;omega) n I ?_;rw[ha,oL (λi=>A.getD i false) (λi=>decide (i<k1)) y ops.toList 0 a0.tmps (λk E=>by simp only[dL];exact I k (by simpa using E))];exact hw
    intro C
    induction C with
    | zero=>
      intro A a w n hc hA;refine hz 0 A a w n hc hA λi N => ?_;have h0:A.toList.countP (!·)=0:=by omega
      have:=vB.1 h0 (A[i]'(by omega)) (by simp);simpa[bG,show i<A.size by omega]using this
    | succ C ih=>
      intro A a w n hc hA
      by_cases b:∀i,i<k1->A.getD i false=true
      · exact hz _ A a w n hc hA b
      have hf:Region.ready .any ops A≠[]:=by
        intro hq;apply b;intro i
        induction i using Nat.strongRecOn with
        | ind i ih'=>
          intro G
          by_cases hc' : A.getD i false=true
          · exact hc'
          exfalso;have N:i<ops.size:=by omega
          have hy:i∈Region.ready .any ops A:=by
            rw[mem_ready];refine⟨?_,ops[i],by simp[N],λe O _ => ?_⟩
            · simpa[bG,show i<A.size by omega]using hc'
            have:=(gD H (i:=i) (o:=ops[i]) (by simp[N])).2.1 e O;exact ih' e.on this.2 (by omega)
          rw[hq]at hy;cases hy
      refine⟨λh=>absurd h hf,λi N => ?_⟩;obtain⟨h1,o,F,hD⟩:=mem_ready.1 N;have h6:i<ops.size:=(iB.1 F).1;have hh:i<A.size:=by omega
      obtain⟨hF,hb,_⟩:=gD H F;have I:∀e∈o.after,A.getD e.on false=true:=λe O=>hD e O (hb e O).1;have hI:A.getD i false=false:=by simpa[bG,hh]using h1
      have G:i<k1:=by
        rcases gB i k1 with h|h
        · exact h
        exfalso;apply b;intro j hj;exact uE ht hA.2.1 F I h j (by omega)
      obtain⟨hC,hm,y,J,ha,hr⟩:=hA;have hO : ∀k K,ops[k]?=some K->(A.setIfInBounds i true).getD k false=true->∀e∈K.after,(A.setIfInBounds i true).getD e.on false=true:=by
        intro k K c E e O;apply yR hh
        by_cases D:k=i
        · subst D;rw[F]at c;cases c;exact I e O
        rw[uu D]at E;exact hm k K c E e O
      have hH : ∀k,k1<=k->(A.setIfInBounds i true).getD k false=false:=λk E=>by rw[uu (by omega)];exact hC k E
      have q:∀v w' y',(∀k,y' k=if k=i then v else y k)->(∀i v,nu ps i=some v->y' i=v) ->
          (((A.setIfInBounds i true).getD m false=false/\Below w0.heap.size w0 w'/\∀k,k<m->nu ps k=none->(A.setIfInBounds i true).getD k false=true->R k (y' k) w') \/
           ((A.setIfInBounds i true).getD m false=true/\wpList P ops Q (ops.toList.drop k1) { a0 with tmps:=lay (λi=>decide (i<k1)) y' ops.toList 0 a0.tmps } w')) ->
          wpAny P .any ops Q C (A.setIfInBounds i true) (a.put o.dst v) w':=by
        intro v w' y' hR hY hG;obtain rfl:y' = λk=>if k=i then v else y k:=funext hR;refine ih _ _ _ (by simp[n]) (FY hh h1 hc) ⟨hH,hO,_,hY,?_,hG⟩;rw[ha,Ej H F n v]
      have hl:∀t∈o.looksAt ops,a.tmps[t]?=(lay (λ_=>true) y ops.toList 0 a0.tmps)[t]?:=λt ht=>by rw[ha];exact zz H F I t ht
      have z:execOp a.eval o=execOp ({ a0 with tmps:=lay (λ_=>true) y ops.toList 0 a0.tmps }:Act).eval o:=by
        refine execOp_congr o hF λx hx => ?_;cases x with
        | tmp t=>
          have:=hl t (xm _ (Ef.2 ⟨.tmp t,by simpa using hx,rfl⟩));simp[Act.eval,this]
        | _=>rfl
      have d:Region.wanted o (yielded ops a.tmps)=Region.wanted o (yielded ops (lay (λ_=>true) y ops.toList 0 a0.tmps)):=by
        unfold Region.wanted;cases hg:o.guard with
        | none=>rfl
        | some gw=>
          obtain⟨g,want⟩:=gw;have:yielded ops a.tmps g=yielded ops (lay (λ_=>true) y ops.toList 0 a0.tmps) g:=by
            unfold yielded;cases hd:(ops[g]?).bind (·.dst)with
            | none=>rfl
            | some t=>
              have:=hl t (xB _ (by simp[hg,hd]));simp[this]
          simp only[this]
      cases hp:nu ps i with
      | some v=>
        have hU:=(Zw hpu F hp).1;obtain⟨hB,hT⟩:=Z i v o hp F y w J;have hg:Gives P o { a0 with tmps:=lay (λ_=>true) y ops.toList 0 a0.tmps } w (λu w'=>u=v/\w' = w):=by unfold Gives;rw[hT];exact⟨rfl,rfl⟩
        refine qE F (by rw[d];exact hB) z hg λu w' hu => ?_;obtain⟨rfl,rfl⟩:=hu;refine q u w' y (λk => ?_) J ?_
        · by_cases E:k=i
          · subst E;rw[if_pos rfl];exact J _ _ hp
          · rw[if_neg E]
        rcases hr with⟨U,S,h4⟩|⟨U,S⟩
        · refine .inl ⟨by rw[uu (mF hU)];exact U,S,λk E f hn => ?_⟩;have D:k≠i:=by rintro rfl;rw[hp]at f;cases f
          rw[uu D]at hn;exact h4 k E f hn
        · exact .inr ⟨yR hh _ U,S⟩
      | none=>
        have hZ:i<=m:=by
          rcases gB m i with h|h
          · obtain⟨v,hv⟩:=aaj hmid i G h;rw[hp]at hv;cases hv
          · exact h
        rcases hr with⟨U,S,h4⟩|⟨U,S⟩
        · by_cases M:i=m
          · subst M;have hE:∀k,k<i->match nu ps k with | some v=>y k=v | none=>R k (y k) w:=by
              intro k E;cases f:nu ps k with
              | some v=>exact J k v f
              | none=>exact h4 k E f (Vy W hm (λK c=>by rw[F]at c; cases c; exact I) k E f)
            obtain⟨hB,hg⟩:=hend y w o F J S hE;refine qE F (by rw[d];exact hB) z hg λv w' hS => ?_;refine q v w' (λk=>if k=i then v else y k) (λ_=>rfl) (λk u r => ?_) (.inr ⟨Ns hh,hS⟩);have:k≠i:=by rintro rfl;rw[hp]at r;cases r
            simp only[this,if_false];exact J k u r
          have hJ:i<m:=by omega
          have hs:=X i o hJ hp F y w J S (λj hj=>by
            obtain⟨e,O,hX⟩:=kW.1 hj;have hM : e.on=j:=by simpa using hX
            subst hM;have hN:=nM.1 O;cases hpj:nu ps e.on with
            | some v=>exact J _ _ hpj
            | none=>exact h4 e.on (by have:=(hb e hN).2;omega) hpj (I e hN))
          have hK:∀v w',Below w.heap.size w w'->R i v w'->wpAny P .any ops Q C (A.setIfInBounds i true) (a.put o.dst v) w':=by
            intro v w' hP hv;refine q v w' (λk=>if k=i then v else y k) (λ_=>rfl) (λk u r => ?_) (.inl ⟨by rw[uu (mF M)];exact U,S.trans (hP.mono S.size),λk E f hn => ?_⟩)
            · have:k≠i:=by rintro rfl;rw[hp]at r;cases r
              simp only[this,if_false];exact J k u r
            by_cases D:k=i
            · subst D;simpa using hv
            rw[uu D]at hn;simp only[D,if_false];exact Y _ _ _ _ hP (h4 k E f hn)
          by_cases L:Region.wanted o (yielded ops (lay (λ_=>true) y ops.toList 0 a0.tmps))=true
          · rw[if_pos L]at hs;exact qE F (by rw[d];exact L) z hs λv w' h=>hK v w' h.1 h.2
          rw[if_neg L]at hs;unfold wpOp;simp only[F];rw[if_neg (by rw[d];exact L)];exact hK undef w (Below.refl _ _) hs
        exfalso
        by_cases M:i=m
        · subst M;rw[hI]at U;cases U
        have hW:∃om,ops[m]?=some om:=⟨ops[m]'(by omega),by simp[show m<ops.size by omega]⟩;obtain⟨om,h5⟩:=hW;have:=Vy W hm (λK c=>hm m K c U) i (by omega) hp;rw[hI]at this;cases this
  refine(hQ ops.size _ _ _ (by simp) ?_ ⟨λi _ => ?_,λi K c N => ?_,λi=>(nu ps i).getD undef,λi v h=>(by show(nu ps i).getD undef=v;rw[h];rfl),?_,.inl ⟨?_,?_,?_⟩⟩)
  · simpa using za (p:=(!·)) (l:=List.replicate ops.size false)
  · simp[bG,pJ];split<;>rfl
  · exfalso;have:i<ops.size:=(iB.1 c).1;simp[bG,this]at N
  · have e:∀y,lay (λi=>(Array.replicate ops.size false).getD i false) y ops.toList 0 a0.tmps=a0.tmps:=by
      intro y;apply sM;intro s;exact ja _ _ s _ 0 _ λk K E hd=>by simp[bG,pJ];split<;>rfl
    rw[e]
  · simp[bG,pJ];split<;>rfl
  · exact⟨rfl,rfl,rfl,aC _,λ_ _=>rfl⟩
  intro i N _ I;simp[bG,show i<ops.size by omega]at I
def xk(P:Program)(ops:Array Oper)(a0:Act)(w0:World)(ps:List (Nat × Value))(l:List oW)(i:Nat)(o:Oper):Prop:=
 match nu ps i with
 | some v => ∀(ρ:Operand->Value) (y:Nat->Value) (w:World),(∀t j,writer ops t=some j->ρ (.tmp t)=y j)->(∀x,(match x with | .tmp t=>writer ops t=none | _=>True)->ρ x=a0.eval x)->(∀i v,nu ps i=some v->y i=v) ->
   Region.wanted o (iC ρ ops)=true/\(execOp ρ o).run P w = .ok (.value v) w
 | none => ∀(ρ:Operand->Value) (y:Nat->Value) (w:World),(∀t j,writer ops t=some j->ρ (.tmp t)=y j)->(∀x,(match x with | .tmp t=>writer ops t=none | _=>True)->ρ x=a0.eval x) ->
   Below w0.heap.size w0 w->(∀j,o.after.toList.any (λe=>e.on==j)=true->match nu ps j with | some v=>y j=v | none=>rl l j (y j) w) ->
   if Region.wanted o (iC ρ ops)=true then dX P o ρ w (λv w'=>Below w.heap.size w w'/\rl l i v w')else rl l i undef w
theorem aB{ps:List (Nat × Value)}{l:List oW}(d:∀(ρ:Operand->Value) (y:Nat->Value) (w:World),(∀t j,writer ops t=some j->ρ (.tmp t)=y j)->(∀x,(match x with | .tmp t=>writer ops t=none | _=>True)->ρ x=a0.eval x) ->
 Below w0.heap.size w0 w->(∀j,o.after.toList.any (λe=>e.on==j)=true->match nu ps j with | some v=>y j=v | none=>rl l j (y j) w) ->
 if Region.wanted o (iC ρ ops)=true then dX P o ρ w (λv w'=>Below w.heap.size w w'/\rl l i v w')else rl l i undef w)(h:nu ps i=none:=by exact rfl):xk P ops a0 w0 ps l i o:=by
 unfold xk;rw[h];exact d
theorem IK(m k1:Nat)(ps:List (Nat × Value))(l:List oW)(N:kw ops=true)(ht:je ops k1=true)(G:cOk ops m ps=true)(E:QG m k1 ps=true)(I:YK ops m ps=true)(X:m<k1)(Y:k1<=ops.size)
 (n:Nat) (hn:a0.tmps.size=n) (W:kT ops n=true)
 (A:bE (xk P ops a0 w0 ps l) 0 (ops.toList.take m)) (C:bE (xk P ops a0 w0 ps l) (m+1) ((ops.toList.drop (m+1)).take (k1-(m+1))))
 (M:ps.all (λp=>decide (p.1<k1))=true)
 (F:∀(ρ:Operand->Value) (y:Nat->Value) (w:World) (o:Oper),ops[m]?=some o->(∀t j,writer ops t=some j->ρ (.tmp t)=y j)->(∀x,(match x with | .tmp t=>writer ops t=none | _=>True)->ρ x=a0.eval x)->(∀i v,nu ps i=some v->y i=v) ->
 Below w0.heap.size w0 w->(∀i,i<m->match nu ps i with | some v=>y i=v | none=>rl l i (y i) w) ->
 Region.wanted o (iC ρ ops)=true/\dX P o ρ w λv w'=>wpList P ops Q (ops.toList.drop k1) { a0 with tmps:=lay (λi=>decide (i<k1)) (λi=>if i=m then v else y i) ops.toList 0 a0.tmps } w') :
  wpAny P .any ops Q ops.size (Array.replicate ops.size false) a0 { w0 with drawn:=w0.drawn+1 }:=by
 have z:∀(y:Nat->Value) t j,writer ops t=some j->({ a0 with tmps:=lay (λ_=>true) y ops.toList 0 a0.tmps }:Act).eval (.tmp t)=y j:=by
  intro y t j U;unfold writer at U;have H:=vM U;have L:=dx.1 (sZ U);cases ho:ops[j]? with
  | none=>simp[ho]at H
  | some p=>
   have f : p.dst=some t:=by simpa[ho]using H
   have hg:t<a0.tmps.size:=by have:=dG.1 W p (nM.2 (Ap ho));rw[hn];simpa[f]using this
   have hu:∀S K,ops.toList[S]?=some K->K.dst=some t->S = j:=by
    intro S K u hj;rcases((gD N (i:=S) (o:=K) (by simpa using u)).2.2 j p t ho f).1 with h|h
    ·exact h
    ·exact absurd hj h
   have:=mV (λ_=>true) y t ops.toList 0 a0.tmps j p (by simpa using ho) f rfl hu hg;simp[Act.eval,this]
 have ha:∀(y:Nat->Value) x,(match x with | .tmp t=>writer ops t=none | _=>True)->({ a0 with tmps:=lay (λ_=>true) y ops.toList 0 a0.tmps }:Act).eval x=a0.eval x:=by
  intro y x hx;cases x with
  | tmp t=>
   have:(lay (λ_=>true) y ops.toList 0 a0.tmps)[t]?=a0.tmps[t]?:=by
    refine ja _ y t _ 0 _ λk K hk f => ?_;exfalso;simp only[writer]at hx;have u : ops[k]?=some K:=by simpa using hk
    have hf:k<ops.size:=(iB.1 u).1;have:=sG.1 hx k (dx.2 hf);simp[u,f]at this
   simp[Act.eval,this]
  | _=>rfl
 have c:∀(y:Nat->Value) (o:Oper),Region.wanted o (yielded ops (lay (λ_=>true) y ops.toList 0 a0.tmps))=Region.wanted o (iC ({ a0 with tmps:=lay (λ_=>true) y ops.toList 0 a0.tmps }:Act).eval ops):=by
  intro y o;congr 1;funext g;unfold yielded iC;cases (ops[g]?).bind (·.dst)with
  | none=>rfl
  | some d=>
   simp only[Ci,Act.eval,bG];generalize (lay (λ_=>true) y ops.toList 0 a0.tmps)[d]?=q;cases q with
   | none=>rfl
   | some v=>cases v<;>rfl
 have s:∀i o,i<k1->i≠m->ops[i]?=some o->xk P ops a0 w0 ps l i o:=by
  intro i o J hl ho;rcases gB i m with h|h
  ·have Z : (ops.toList.take m)[i]?=some o:=by rw[jO,if_pos h];simpa using ho
   have:=bE.at A i o Z;rwa [dL]at this
  have Z : ((ops.toList.drop (m+1)).take (k1-(m+1)))[i-(m+1)]?=some o:=by rw[jO,if_pos (by omega),pG,show m+1+(i-(m+1))=i by omega];simpa using ho
  have:=bE.at C _ o Z;rwa [show m+1+(i-(m+1))=i by omega]at this
 refine CX m k1 ps N ht G E I X Y (rl l) (λi v w w' O h=>(l.getD i anyR).st v w w' O h) (λi o hm D J y w R O hd => ?_) (λi v o D J y w R => ?_) (λy w o J R O hR => ?_)
 ·have:=s i o (by omega) (by omega) J;unfold xk at this;rw[D]at this;have L:=this _ y w (z y) (ha y) O hd;rw[c];exact L
 ·have hh:i<k1:=by
   have H:(i,v)∈ps:=by
    clear M A C G E I s F R;unfold nu at D
    induction ps with
    | nil=>simp at D
    | cons q r ih=>
     obtain⟨a,b⟩:=q
     by_cases e:i=a
     ·subst e;simp at D;simp[D]
     have:(i==a)=false:=beq_eq_false_iff_ne.2 e;simp[List.lookup,this]at D;exact jh _ (ih D)
   simpa using dG.1 M _ H
  have:=s i o hh (Zw I J D).1 J;unfold xk at this;rw[D]at this;obtain⟨H,L⟩:=this _ y w (z y) (ha y) R;exact⟨by rw[c];exact H,L⟩
 obtain⟨H,L⟩:=F _ y w o J (z y) (ha y) R O hR;exact⟨by rw[c];exact H,L⟩
theorem uQ(m k1:Nat)(ps:List (Nat × Value))(l:List oW)(J:P.follows .mixedOrders=true)(E:kw ops=true)(H:je ops k1=true)(z:cOk ops m ps=true)(h:QG m k1 ps=true)(C:YK ops m ps=true)(F:m<k1)(G:k1<=ops.size)
 (n:Nat) (I:a0.tmps.size=n) (A:kT ops n=true)
 (d:bE (xk P ops a0 w0 ps l) 0 (ops.toList.take m)) (e:bE (xk P ops a0 w0 ps l) (m+1) ((ops.toList.drop (m+1)).take (k1-(m+1))))
 (D:ps.all (λp=>decide (p.1<k1))=true)
 (s:∀(ρ:Operand->Value) (y:Nat->Value) (w:World) (o:Oper),ops[m]?=some o->(∀t j,writer ops t=some j->ρ (.tmp t)=y j)->(∀x,(match x with | .tmp t=>writer ops t=none | _=>True)->ρ x=a0.eval x)->(∀i v,nu ps i=some v->y i=v) ->
 Below w0.heap.size w0 w->(∀i,i<m->match nu ps i with | some v=>y i=v | none=>rl l i (y i) w) ->
 Region.wanted o (iC ρ ops)=true/\dX P o ρ w λv w'=>wpList P ops Q (ops.toList.drop k1) { a0 with tmps:=lay (λi=>decide (i<k1)) (λi=>if i=m then v else y i) ops.toList 0 a0.tmps } w') :
  (Code.region id ops true).wp P Q a0 w0:=
 wp_region_any J (IK m k1 ps l E H z h C F G n I A d e D s)
theorem Cg{F:Value->World->Prop}(f:FuncId)(args:Array Value)(n:Region.wanted o (iC ρ ops)=true)(d:(execOp ρ o).run P w = .ok (.enter f args) w)
 (p:Calls P f args w λe w' => ∃v,e = .returned v/\F v w'):Region.wanted o (iC ρ ops)=true/\dX P o ρ w F:=by
 refine⟨n,?_⟩;unfold dX;rw[d];refine p.mono λe w' ⟨v,he,h⟩ => ?_;subst he;exact h
theorem ER(s x:Operand)(t:TypeId)(G:o.op=Op.call { callee:=Callee.builtin Builtin.append,args:=#[s,x],argTypes:=#[t,t] })
 (B:Nat) (e:TypeId) (z:Value) (p C:Nat) (X:P.underlying t=some (.slice e)) (h2:(P.info? e).map (λi=>(i.zero,i.size,i.bytes))=some (some z,p,C)) (h6:z.cells.size=p) (h7:0<p)
 (v:Value) (n:Nat) (xs:List Value) (L:ρ s=v) (F:Own w B e p v n xs)
 (Z:Option Addr) (m c:Nat) (A:List Value) (K:ρ x = .slice Z m c) (I:Z=none->c=0) (hmc:m<=c) (N:A.length=m*p) (hrd:eD w Z A) (W:∀u∈A,u.oneCell' = true)
 (b1:n+m<=maxLen) (b2:(n+m)*C<=140737488355328) (hB:B<=w.heap.size) :
  ∃v' w',(execOp ρ o).run P w = .ok (.value v') w'/\Own w' B e p v' (n+m) (xs++A)/\w.grownBy w' v.ownBlock/\(v'.ownBlock=v.ownBlock\/∀g,v'.ownBlock=some g->w.heap.size<=g):=by
 obtain⟨i,R,hz,f,h⟩:=info_parts h2;cases Z with
 | none=>
  obtain rfl:=I rfl;obtain rfl:m=0:=by omega
  obtain rfl:A=[]:=kV (by simpa using N);refine⟨v,w,?_,by simpa using F,BN _ _,.inl rfl⟩;rcases F with⟨Y,⟨rfl,rfl⟩|⟨g,off,cap,cur,rfl,U,O,S,hm,E,D⟩⟩
  ·simp[execOp,G,resolve,invoke,builtin,L,K,Builtin.append_,run_underlying X,Go.sizeOf,typeInfo,R,Builtin.lenOf,Builtin.firstCells,storeCells,Result.andThen]
  ·simp[execOp,G,resolve,invoke,builtin,L,K,Builtin.append_,run_underlying X,Go.sizeOf,typeInfo,R,Builtin.lenOf,Builtin.firstCells,S,storeCells,Result.andThen]
 | some ad=>
  have d:∀j u,A[j]?=some u->w.cell? (ad.add j)=some u:=by intro j u H;obtain⟨b,off,e',S⟩:=hrd j u H;cases e';rw[oF];exact S
  rcases F with⟨Y,⟨rfl,rfl⟩|⟨g,off,cap,cur,rfl,U,O,S,hm,E,D⟩⟩
  ·obtain rfl:xs=[]:=kV (by simpa using Y);obtain⟨v',w',a,J,r2,_⟩:=run_append_own (P:=P) w w.heap.size t o.type e i z p C X R hz f h h6 h7 (.slice none 0 0) 0 [] (KZ w _ e p) ad m c A N d W b1 b2 (aC _);refine⟨v',w',?_,(Own.of_owns J).mono hB,r2,.inr (Own.of_owns J).ge⟩;simp[execOp,G,resolve,invoke,builtin,L,K,a,Result.andThen]
  have k:n*p<=cap*p:=rA _ S;rcases gB cap (n+m)with M|M
  ·obtain⟨v',w',a,J,r2⟩:=run_append_arg_grows (P:=P) w t o.type e i z p C X R hz f h h6 h7 ⟨g,off,none⟩ n cap xs Y (λj u H=>by rw[oF,O.cell];exact D j u H) ad m c A N d M b1 b2;refine⟨v',w',?_,(Own.of_owns J).mono hB,Qp r2 _,.inr (Own.of_owns J).ge⟩;simp[execOp,G,resolve,invoke,builtin,L,K,a,Result.andThen]
  have h3:(n+m)*p<=cap*p:=rA _ M;rw[rP]at h3;have a:=run_append_room_cells (P:=P) w t o.type e i X R g off n cap ad m c A (by rw[f];exact N) d W M (λj H=>by rw[f,O.cell];simp[show off+n*p+j<cur.size by omega]) (λj H=>O.free _);rw[f]at a;refine⟨_,_,?_,⟨by rw[fI,Y,N,rP],.inr ⟨g,off,cap,_,rfl,U,O.setCells A (off+n*p),M,hm,by rw[size_putAt];exact E,λj u H => ?_⟩⟩,aD _ _ _ _,.inl rfl⟩
  ·simp[execOp,G,resolve,invoke,builtin,L,K,a,Result.andThen]
  by_cases hjl:j<xs.length
  ·rw[jb hjl]at H;rw[putAt_out _ _ _ _ (.inl (by omega))];exact D j u H
  rw[jv (by omega)]at H;have:=putAt_in A cur (off+n*p) (j-xs.length) u (by omega) H;rwa [show off+n*p+(j-xs.length)=off+j by omega]at this
theorem QZ{F:Value->World->Prop}(d:Region.wanted o (iC ρ ops)=true){D:Value->World->Prop}(h:∃v' w',(execOp ρ o).run P w = .ok (.value v') w'/\D v' w')(e:∀v w',D v w'->F v w'):Region.wanted o (iC ρ ops)=true/\dX P o ρ w F:=by
 obtain⟨v',w',p,n⟩:=h;refine⟨d,?_⟩;unfold dX;rw[p];exact e _ _ n
open Go.ChangeShapes Go.WideShapes Go.ChangeAt
theorem Fu{e:TypeId}{n:Nat}{d:TypeDesc}(A:P.underlying t=some (.array n e))(D:P.underlying e=some d)(F:(∀m f,d ≠ .array m f)/\(∀fs,d ≠ .struct fs))(h:(P.info? e).map (·.size)=some 1)
 (cs:Array Value) (k:Nat) (v:Value) (C:k<n) (z:cs[k]?=some v) (p:IntKind) (w:World):(Instr.index t (.agg cs) (.int p k)).run P w = .ok v w:=by
 have a:∀w,(Go.sizeOf e).run P w = .ok 1 w:=by
  intro w;cases hq:P.info? e with
  | none=>simp[hq]at h
  | some i=>
   have s:i.size=1:=by simpa[hq]using h
   simp[Go.sizeOf,typeInfo,run_program,hq,s]
 have E:∀w,(isAgg e).run P w = .ok false w:=by intro w;unfold isAgg;simp[run_underlying D];cases d<;>simp_all
 simp[Instr.index,part,asIntOf,run_underlying A,a,C,E,z,go_sem]
theorem YA{e:TypeId}:(∀m f,TypeDesc.slice e ≠ .array m f)/\(∀fs,TypeDesc.slice e ≠ .struct fs):=⟨λ_ _ h=>(by cases h),λ_ h=>(by cases h)⟩
def aggB:TypeDesc->Bool
 | .struct _=>true
 | .array _ _=>true
 | _=>false
theorem iZ{d:TypeDesc}(n:eD w (some ⟨b,off,none⟩) vs)
 (z:P.underlying ty=some d) (F:aggB d=true) (s:(P.info? ty).map (·.size)=some vs.length) :
  (loadVar ty ⟨b,off,none⟩).run P w = .ok (.agg vs.toArray) w:=by
 have C:(loadCells ⟨b,off,none⟩ vs.length).run P w = .ok vs.toArray w:=
  run_loadCells_list (P:=P) w ⟨b,off,none⟩ vs (λj v e=>by
   obtain⟨G,p,E,D⟩:=n.at (by
    rcases gB 0 vs.length with h|h
    ·exact h
    ·rw[dP (by omega)]at e;cases e)
   cases E;have c:(⟨b,off,none⟩:Addr).add j=⟨b,off+j,none⟩:=by unfold Addr.add;split<;>simp_all
   rw[c];exact D j v e)
 cases hq:P.info? ty with
 | none=>simp[hq]at s
 | some i=>
  have A:i.size=vs.length:=by simpa[hq]using s
  have a:(isAgg ty).run P w = .ok true w:=by unfold isAgg;rw[lD,run_underlying z w];cases d<;>simp_all[aggB]
  simp[loadVar,lD,a,Go.sizeOf,typeInfo,hq,A,C]
theorem kU{a:Act}(n:o.guard=none)(ty:TypeId)(x:Operand)(z:o.op = .load ty x)
 (b off:Nat) (p:a.eval x = .pointer (some ⟨b,off,none⟩)) (vs:List Value) (e:eD w (some ⟨b,off,none⟩) vs) (d:TypeDesc)
 (s:P.underlying ty=some d) (C:aggB d=true) (A:(P.info? ty).map (·.size)=some vs.length)
 (h:wpList P ops Q rest (a.put o.dst (.agg vs.toArray)) w):wpList P ops Q (o::rest) a w:=
 wpList_plain n λK D=>by unfold Oper.wp execOp;simp only[z,p,Instr.loadAt,Instr.sureAddr,lD,sF,sH,iZ e s C A];exact D _ _ h
theorem aK.rd(h:aK w b cs T):eD w (some ⟨b,0,none⟩) cs.toList:=by
 intro i u d;exact⟨b,0,rfl,by rw[h.cell,dL];simpa using d⟩
theorem aY{a:Act}{ty:TypeId}{x:Operand}{y:Operand}(b o:Nat){v:Value}(cells:List Value)(D:a.eval x = .pointer (some ⟨b,o,none⟩))(C:a.eval y=v)(A:v.cells.toList=cells)(cur:Array Value)(T:TypeId)(p:aK w b cur T)(z:o+cells.length<=cur.size)(s:(P.info? ty).map (·.size)=some cells.length)(J:∀u∈cells,u.oneCell' = true)(h:∀w',aK w' b (dO cur o cells) T->w.grownBy w' (some b)->wpList P ops Q rest (a.put op.dst undef) w')(n:op.guard=none:=by exact rfl)(G:op.op = .store ty x y:=by exact rfl):wpList P ops Q (op::rest) a w:=
 wpList_plain n λK I=>by
  have d:=run_storeCells_cells (P:=P) b o cells 0 w
   (λj H=>by rw[mG,p.cell];simp[show o+j<cur.size by omega]) (λj H=>p.free _) J
  simp only[mG]at d;have e:(storeVar ty ⟨b,o,none⟩ v).run P w = .ok () (w.setCells b o cells):=by
   cases hq:P.info? ty with
   | none=>simp[hq]at s
   | some i=>
    have F:i.size=cells.length:=by simpa[hq]using s
    have E:v.cells.size=cells.length:=by rw[<-A];simp
    simp[storeVar,Go.sizeOf,typeInfo,hq,F,E,A,d]
  unfold Oper.wp execOp;simp only[G,D,C,Instr.storeAt,Instr.sureAddr,lD,sF,sH,e];exact I _ _ (h _ (p.setCells _ _) (aD _ _ _ _))
theorem putAt_one(cur:Array Value)(o:Nat)(v:Value):dO cur o [v]=cur.setIfInBounds o v:=rfl
theorem dH{e:Func}{p q:Tmp}(h:e.results=#[.cell p ty,.tmp q]){tmps:Array Value}{w:World}(g:Nat){t:TypeId}{cs:Array Value}{d:TypeDesc}{v:Value}(D:aK w g cs t)(s:P.underlying ty=some d)(C:(P.info? ty).map (·.size)=some cs.size)(z:tmps.getD p undef = .pointer (some ⟨g,0,none⟩):=by exact rfl)(n:tmps.getD q undef=v:=by exact rfl)(E:aggB d=true:=by exact rfl) :
  (results e tmps).run P w = .ok (.tuple #[.agg cs,v]) w:=by
 have b : tmps[p]?.getD undef = .pointer (some ⟨g,0,none⟩):=by simpa using z
 have A:=iZ (P:=P) D.rd s E (by rw[lH];exact C);have a : tmps[q]?.getD undef=v:=by simpa using n
 simp[results,h,b,a,asAddr,A]
theorem bX{e:Func}{p q r:Tmp}(h:e.results=#[.cell p ty,.tmp q,.tmp r]){tmps:Array Value}{w:World}(g:Nat){t:TypeId}{cs:Array Value}{d:TypeDesc}{v:Value}{u:Value}(D:aK w g cs t)(s:P.underlying ty=some d)(C:(P.info? ty).map (·.size)=some cs.size)(z:tmps.getD p undef = .pointer (some ⟨g,0,none⟩):=by exact rfl)(n:tmps.getD q undef=v:=by exact rfl)(hu': tmps.getD r undef=u:=by exact rfl)(E:aggB d=true:=by exact rfl) :
  (results e tmps).run P w = .ok (.tuple #[.agg cs,v,u]) w:=by
 have c : tmps[p]?.getD undef = .pointer (some ⟨g,0,none⟩):=by simpa using z
 have A:=iZ (P:=P) D.rd s E (by rw[lH];exact C);have b : tmps[q]?.getD undef=v:=by simpa using n
 have a : tmps[r]?.getD undef=u:=by simpa using hu'
 simp[results,h,c,b,a,asAddr,A]
theorem aP{e:Func}{p:Tmp}(h:e.results=#[.cell p ty]){tmps:Array Value}{w:World}(g:Nat){t:TypeId}{cs:Array Value}{d:TypeDesc}(C:aK w g cs t)(n:P.underlying ty=some d)(A:(P.info? ty).map (·.size)=some cs.size)(s:tmps.getD p undef = .pointer (some ⟨g,0,none⟩):=by exact rfl)(D:aggB d=true:=by exact rfl) :
  (results e tmps).run P w = .ok (.agg cs) w:=by
 have a : tmps[p]?.getD undef = .pointer (some ⟨g,0,none⟩):=by simpa using s
 have z:=iZ (P:=P) C.rd n D (by rw[lH];exact A);simp[results,h,a,asAddr,z]
def zl(w:World)(v v' : Value):Prop:=v'.ownBlock=v.ownBlock\/∀g,v'.ownBlock=some g->w.heap.size<=g
theorem nk{a:Act}(R:o.guard=none)(s x:Operand)(t:TypeId)(G:o.op=Op.call { callee:=Callee.builtin Builtin.append,args:=#[s,x],argTypes:=#[t,t] })(B:Nat)(e:TypeId)(z:Value)(h A:Nat)(Z:P.underlying t=some (.slice e))(Y:(P.info? e).map (λi=>(i.zero,i.size,i.bytes))=some (some z,h,A))(X:z.cells.size=h)(v:Value)(n:Nat)(xs:List Value)(N:a.eval s=v)(D:Own w B e h v n xs)(E:Option Addr)(m c:Nat)(p:List Value)(M:a.eval x = .slice E m c)(C:E=none->c=0)(H:m<=c)(O:p.length=m*h)(F:eD w E p)(I:∀u∈p,u.oneCell' = true)(b1:n+m<=maxLen)(b2:(n+m)*A<=140737488355328)(U:B<=w.heap.size)(S:∀v' w',Own w' B e h v' (n+m) (xs++p)->w.grownBy w' v.ownBlock->zl w v v'->wpList P ops Q rest (a.put o.dst v') w')(W:0<h:=by decide) :
  wpList P ops Q (o::rest) a w:=by
 obtain⟨v',w',b,k1,L,J⟩:=ER (P:=P) (ρ:=a.eval) (o:=o) (w:=w) s x t G B e z h A Z Y X W v n xs N D E m c p M C H O F I b1 b2 U;refine wpList_plain R λK d => ?_;unfold Oper.wp;rw[b];exact d _ _ (S v' w' k1 L J)
def Apart(v u:Value):Prop:=∀g,v.ownBlock=some g->u.ownBlock≠some g
theorem Apart.symm(h:Apart v u):Apart u v:=λg e d=>h g d e
theorem Apart.nil' :Apart u (.slice none 0 0):=λg _ h=>by cases h
theorem QS{e:TypeId}{n:Nat}(h:Own w B e sz v n xs)(g:Nat)(d:v.ownBlock=some g):g<w.heap.size:=by
 rcases h.2 with⟨rfl,_⟩|⟨s,off,cap,cur,rfl,_,p,_⟩
 ·cases d
 cases d;exact p.lt
theorem Apart.grown{e:TypeId}{n:Nat}(h:Apart v u)(s:Own w B e sz u n xs)(d:zl w v v'):Apart v' u:=by
 intro g p a;rcases d with d|d
 ·rw[d]at p;exact h g p a
 have A:=d g p;have z:=QS s g a;omega
theorem Own.apart{e:TypeId}{n:Nat}(p:Own w B e sz u n xs)(h:Apart v u)(d:w.grownBy w' v.ownBlock):Own w' B e sz u n xs:=
 p.grown d λg s z=>h g z s
theorem aT{a:Act}{ty:TypeId}{x:Operand}{y:Operand}(cells:Array Value)(A:(P.info? ty).map (·.size)=some cells.size)(D:cells.all (·.oneCell')=true)(h:∀w',Below w.heap.size w w'->aK w' w.heap.size cells T->wpList P ops Q rest (a.put op.dst undef) w')(e:op.guard=none:=by exact rfl)(s:op.op = .store ty x y:=by exact rfl)(p:a.eval x = .pointer (some ⟨w.heap.size,0,none⟩):=by exact rfl)(n:a.eval y = .agg cells:=by exact rfl)(d:cells.size=cur.size:=by exact rfl):wpList P ops Q (op::rest) a (w.alloc (.cells cur T)):=by
 refine ax (p:=e) (ty:=ty) x y (A:=s) w.heap.size cells (z:=p) (u:=n) (d:=cur) (T:=T) (aK.new _ _ _) (m:=d) A (G:=D) λw' C b=>h w' ?_ C;exact((Below.refl _ _).alloc (aC _) _).grown b (fe) (λk z=>by cases z;exact aC _)
theorem MU{a:Act}(d:op.guard=none)(ty:TypeId)(x y:Operand)(s:op.op = .store ty x y)
 (v:Value) (n:a.eval x = .pointer (some ⟨w.heap.size,0,none⟩)) (e:a.eval y=v) (C:v.cells.toList=[v])
 (A:(P.info? ty).map (·.size)=some 1) (E:v.oneCell' = true)
 (h:∀w',Below w.heap.size w w'->aK w' w.heap.size #[v] T->wpList P ops Q rest (a.put op.dst undef) w'):wpList P ops Q (op::rest) a (w.alloc (.cells #[c0] T)):=by
 refine aY (n:=d) (ty:=ty) (x:=x) (y:=y) (G:=s) w.heap.size 0 (v:=v) [v] n e C #[c0] T (aK.new _ _ _) (show 0+1<=1 from aC 1) A (λu p=>by cases bF.1 p;exact E) λw' D b=>h w' ?_ D;exact((Below.refl _ _).alloc (aC _) _).grown b (fe) (λk z=>by cases z;exact aC _)
theorem wpList_want{a:Act}(d:Region.wanted o (yielded ops a.tmps)=true)
 (h:∀K:Act->World->Prop,(∀a w,wpList P ops Q rest a w->K a w)->o.wp P a w K Q):wpList P ops Q (o::rest) a w:=
 wpList_step λK e=>by rw[if_pos d];exact h K e
theorem ay{a:Act}{ty:TypeId}{x:Operand}(b off:Nat)(vs:List Value)(e:eD w (some ⟨b,off,none⟩) vs)(d:TypeDesc)(s:P.underlying ty=some d)(C:aggB d=true)(A:(P.info? ty).map (·.size)=some vs.length)(h:wpList P ops Q rest (a.put o.dst (.agg vs.toArray)) w)(z:o.op = .load ty x:=by exact rfl)(p:a.eval x = .pointer (some ⟨b,off,none⟩):=by exact rfl)(n:Region.wanted o (yielded ops a.tmps)=true:=by exact rfl):wpList P ops Q (o::rest) a w:=
 wpList_want n λK D=>by unfold Oper.wp execOp;simp only[z,p,Instr.loadAt,Instr.sureAddr,lD,sF,sH,iZ e s C A];exact D _ _ h
def bJ(o:Oper):Oper:={ o with after:=⟨o.after.toList.filter (Region.binds .any)⟩ }
def dS(ops:Array Oper):Array Oper:=⟨ops.toList.map bJ⟩
theorem zV(ops:Array Oper):(dS ops).size=ops.size:=by simp[dS]
theorem CE(ops:Array Oper)(i:Nat):(dS ops)[i]?=(ops[i]?).map bJ:=by
 unfold dS;simp
theorem DR(ops:Array Oper)(d:Array Bool):Region.ready .any (dS ops) d=Region.ready .any ops d:=by
 unfold Region.ready;rw[zV];apply List.filter_congr;intro i _;congr 1;rw[CE];cases ops[i]? with
 | none=>rfl
 | some o=>
  simp only[xu,sQ];rw[<-iX,<-iX];exact filter_all _ _ _
theorem Ir(ops:Array Oper)(ts:Array Value):yielded (dS ops) ts=yielded ops ts:=by
 funext g;unfold yielded;rw[CE];cases ops[g]?<;>rfl
theorem Ph{K:Act->World->Prop}{a:Act}(h:wpOp P (dS ops) Q i K a w):wpOp P ops Q i K a w:=by
 unfold wpOp at h ⊢;rw[CE,Ir]at h;cases ho:ops[i]? with
 | none=>rw[ho]at h;exact h
 | some o=>
  rw[ho]at h;exact h
theorem Cs{P:Program}{ops:Array Oper}{Q:Exit->Act->World->Prop}:∀(e:Nat) (d:Array Bool) (a:Act) (w:World),wpAny P .any (dS ops) Q e d a w->wpAny P .any ops Q e d a w
 | 0,d,a,w,h=>by unfold wpAny at h ⊢;rw[DR]at h;exact h
 | e+1,d,a,w,h=>by unfold wpAny at h ⊢;rw[DR]at h;exact⟨h.1,λi n=>wpOp_mono (λa w=>Cs e _ a w) (Ph (h.2 i n))⟩
structure wD where
 r:(Nat->Value)->World->Prop
 on:List Nat
 st:∀y w w',Below w.heap.size w w'->r y w->r y w'
 dep:∀y y' w,(∀j∈on,y j=y' j)->r y w->r y' w
def ofR(k:Nat)(R:oW):wD:=⟨λy w=>R.r (y k) w,[k],λy w w' hb h=>R.st _ _ _ hb h,λy y' w h h1=>by rw[<-h k (bF.2 rfl)];exact h1⟩
def anyY:wD:=⟨λ_ _=>True,[],λ_ _ _ _ _=>trivial,λ_ _ _ _ _=>trivial⟩
def ry(l:List wD)(i:Nat):wD:=l.getD i anyY
def upd(y:Nat->Value)(i:Nat)(v:Value):Nat->Value:=λk=>if k=i then v else y k
def Vg(ops:Array Oper)(m:Nat)(l:List wD):Bool:=
 (List.range m).all λi=>match ops[i]? with
  | none=>true
  | some o=>(ry l i).on.all λj=>decide (j=i)||o.after.toList.any (λe=>e.on==j)
theorem XJ{m:Nat}{l:List wD}(h:Vg ops m l=true)(n:i<m)(s:ops[i]?=some o)(z:j∈(ry l i).on):j=i\/∃e∈o.after,e.on=j:=by
 have p:=dG.1 h i (dx.2 n);simp only[s]at p;have d:=dG.1 p j z;simp only[uN,decide_eq_true_eq,kW,beq_iff_eq]at d;rcases d with d|⟨e,A,C⟩
 ·exact .inl d
 ·exact .inr ⟨e,nM.1 A,C⟩
def aas(ops:Array Oper)(m:Nat)(l:List wD)(B:World->Prop)(a0:Act)(listed:Array Bool)(a:Act)(w:World):Prop:=
 (∀i,m<=i->listed.getD i false=false)/\(∀i o,ops[i]?=some o->listed.getD i false=true->∀e∈o.after,listed.getD e.on false=true) /\
  ∃y:Nat->Value,a = { a0 with tmps:=lay (λi=>listed.getD i false) y ops.toList 0 a0.tmps }/\B w/\∀i,i<m->listed.getD i false=true->(ry l i).r y w
def yj(m:Nat)(l:List wD)(B:World->Prop)(i:Nat)(y:Nat->Value)(w:World)(v:Value)(w' : World):Prop:=
 B w'/\(ry l i).r (upd y i v) w'/\∀k,k<m->k≠i->(ry l k).r y w->(ry l k).r y w'
theorem Ed(m:Nat)(l:List wD)(B:World->Prop)(hbst:∀w w',Below w.heap.size w w'->B w->B w')(F:kw ops=true)(U:je ops m=true)(W:m<=ops.size)(hon:Vg ops m l=true)(hb0:B w0)
 (O:∀i o,i<m->ops[i]?=some o->∀y w,B w->(∀j,o.after.toList.any (λe=>e.on==j)=true->(ry l j).r y w) ->
 if Region.wanted o (yielded ops (lay (λ_=>true) y ops.toList 0 a0.tmps))=true then Gives P o { a0 with tmps:=lay (λ_=>true) y ops.toList 0 a0.tmps } w (yj m l B i y w)else yj m l B i y w undef w)
 (N:∀y w,B w->(∀i,i<m->(ry l i).r y w)->wpList P ops Q (ops.toList.drop m) { a0 with tmps:=lay (λi=>decide (i<m)) y ops.toList 0 a0.tmps } w) :
  wpAny P .any ops Q ops.size (Array.replicate ops.size false) a0 w0:=by
 have hE:∀(C:Nat) (A:Array Bool) (a:Act) (w:World),A.size=ops.size->A.toList.countP (!·)<=C->aas ops m l B a0 A a w->wpAny P .any ops Q C A a w:=by
  intro C
  induction C with
  | zero=>
   intro A a w c hc Z;have hl:∀i,i<ops.size->A.getD i false=true:=by
    intro i hF;have h0:A.toList.countP (!·)=0:=by omega
    have:=vB.1 h0 (A[i]'(by omega)) (by simp);simpa[bG,show i<A.size by omega]using this
   obtain⟨u,hn,y,R,Y,S⟩:=Z;have hy : m=ops.size:=by
    rcases gB m ops.size with h|h
    ·have h1:=hl m h;rw[u m (aC _)]at h1;cases h1
    ·omega
   refine qJ (m:=m) F U 0 ops.size A a w (by omega) (aC _) (by omega) c (λi E=>by rw[hl i E];simp[E]) ?_;have:=N y w Y λi E=>S i (by omega) (hl i (by omega));rw[R,oL (λi=>A.getD i false) (λi=>decide (i<m)) y ops.toList 0 a0.tmps (λk I=>by
    have hG : k<ops.size:=by simpa using I
    simp only[dL];rw[hl k hG];simp;omega)]
   rw[hy]at this ⊢;exact this
  | succ C ih=>
   intro A a w c hc Z
   by_cases D:∀i,i<m->A.getD i false=true
   ·obtain⟨u,hn,y,R,Y,S⟩:=Z;have K:∀i,i<ops.size->A.getD i false=decide (i<m):=by
     intro i E
     by_cases H:i<m
     ·rw[D i H];simp[H]
     ·rw[u i (by omega)];simp[H]
    have hm:ops.size-m<=C+1:=by have:=Gp (k1:=m) c W K;omega
    refine qJ (m:=m) F U (C+1) m A a w (aC _) W hm c K ?_;have:=N y w Y λi E=>S i (by omega) (D i E);rw[R,oL (λi=>A.getD i false) (λi=>decide (i<m)) y ops.toList 0 a0.tmps (λk I=>by simp only[dL];exact K k (by simpa using I))];exact this
   have f:Region.ready .any ops A≠[]:=by
    intro hh;apply D;intro i
    induction i using Nat.strongRecOn with
    | ind i ih'=>
     intro H
     by_cases X : A.getD i false=true
     ·exact X
     exfalso;have E:i<ops.size:=by omega
     have hp:i∈Region.ready .any ops A:=by
      rw[mem_ready];refine⟨?_,ops[i],by simp[E],λe J _ => ?_⟩
      ·simpa[bG,show i<A.size by omega]using X
      have:=(gD F (i:=i) (o:=ops[i]) (by simp[E])).2.1 e J;exact ih' e.on this.2 (by omega)
     rw[hh]at hp;cases hp
   refine⟨λh=>absurd h f,λi E => ?_⟩;obtain⟨h1,o,M,hv⟩:=mem_ready.1 E;have hF:i<ops.size:=(iB.1 M).1;obtain⟨hw,b,_⟩:=gD F M;have K:∀e∈o.after,A.getD e.on false=true:=λe J=>hv e J (b e J).1;have H:i<m:=by
    rcases gB i m with h|h
    ·exact h
    exfalso;apply D;intro j hj;exact uE U Z.2.1 M K h j (by omega)
   obtain⟨u,hn,y,R,Y,S⟩:=Z;have hI:A.getD i false=false:=by simpa[bG,show i<A.size by omega]using h1
   have z:∀v w',yj m l B i y w v w'->wpAny P .any ops Q C (A.setIfInBounds i true) (a.put o.dst v) w':=by
    intro v w' hq;refine ih _ _ _ (by simp[c]) ?_ ⟨λk I => ?_,λk o' n I e J => ?_,upd y i v,?_,hq.1,?_⟩
    ·exact FY (by omega) h1 hc
    ·have:=u k I;simp only[bG,gT (show i≠k by omega)]at this ⊢;exact this
    ·have up:∀q,A.getD q false=true->(A.setIfInBounds i true).getD q false=true:=yR (by omega);apply up
     by_cases G:k=i
     ·subst G;rw[M]at n;cases n;exact K e J
     ·exact hn k o' n (by simpa[bG,gT (mF G)]using I) e J
    ·rw[R,Ej F M c v];rfl
    intro k I hK
    by_cases G:k=i
    ·subst G;exact hq.2.1
    have hr:A.getD k false=true:=by simpa[bG,gT (mF G)]using hK
    refine(ry l k).dep y (upd y i v) w' (λj hj => ?_) (hq.2.2 k I G (S k I hr));have hz:k<ops.size:=by omega
    have hB:A.getD j false=true:=by
     rcases XJ hon I (o:=ops[k]) (by simp[hz]) hj with rfl|⟨e,J,rfl⟩
     ·exact hr
     ·exact hn k ops[k] (by simp[hz]) hr e J
    have hH:j≠i:=by rintro rfl;rw[hI]at hB;cases hB
    unfold upd;rw[if_neg hH]
   have hf:∀t∈o.looksAt ops,a.tmps[t]?=(lay (λ_=>true) y ops.toList 0 a0.tmps)[t]?:=λt U=>by rw[R];exact zz F M K t U
   have hu:execOp a.eval o=execOp ({ a0 with tmps:=lay (λ_=>true) y ops.toList 0 a0.tmps }:Act).eval o:=by
    refine execOp_congr o hw λx hx => ?_;cases x with
    | tmp t=>
     have:=hf t (xm _ (Ef.2 ⟨.tmp t,by simpa using hx,rfl⟩));simp[Act.eval,this]
    | _=>rfl
   have d:Region.wanted o (yielded ops a.tmps)=Region.wanted o (yielded ops (lay (λ_=>true) y ops.toList 0 a0.tmps)):=by
    unfold Region.wanted;cases hg:o.guard with
    | none=>rfl
    | some gw=>
     obtain⟨g,want⟩:=gw;have:yielded ops a.tmps g=yielded ops (lay (λ_=>true) y ops.toList 0 a0.tmps) g:=by
      unfold yielded;cases hd:(ops[g]?).bind (·.dst)with
      | none=>rfl
      | some t=>
       have:=hf t (xB _ (by simp[hg,hd]));simp[this]
     simp only[this]
   have hs:=O i o H M y w Y (λj hj=>by
    obtain⟨e,J,hJ⟩:=kW.1 hj;have hC : e.on=j:=by simpa using hJ
    subst hC;have hD:=nM.1 J;exact S e.on (by have:=(b e hD).2;omega) (K e hD))
   by_cases L:Region.wanted o (yielded ops (lay (λ_=>true) y ops.toList 0 a0.tmps))=true
   ·rw[if_pos L]at hs;exact qE M (by rw[d];exact L) hu hs λv w' h=>z v w' h
   rw[if_neg L]at hs;unfold wpOp;simp only[M];rw[if_neg (by rw[d];exact L)];exact z undef w hs
 refine hE ops.size _ _ _ (by simp) ?_ ⟨λi _ => ?_,λi o' n E => ?_,λ_=>undef,?_,hb0,?_⟩
 ·simpa using za (p:=(!·)) (l:=List.replicate ops.size false)
 ·simp[bG,pJ];split<;>rfl
 ·exfalso;have:i<ops.size:=(iB.1 n).1;simp[bG,this]at E
 ·have e:lay (λi=>(Array.replicate ops.size false).getD i false) (λ_=>undef) ops.toList 0 a0.tmps=a0.tmps:=by apply sM;intro s;exact ja _ _ s _ 0 _ λk o' I hd=>by simp[bG,pJ];split<;>rfl
  rw[e]
 intro i E K;exfalso;have:(Array.replicate ops.size false).getD i false=false:=by simp[bG,pJ];split<;>rfl
 rw[this]at K;cases K
def Gs(P:Program)(ops:Array Oper)(a0:Act)(m:Nat)(l:List wD)(B:World->Prop)(i:Nat)(o:Oper):Prop:=
 ∀(ρ:Operand->Value) (y:Nat->Value) (w:World),(∀t j,writer ops t=some j->ρ (.tmp t)=y j)->(∀x,(match x with | .tmp t=>writer ops t=none | _=>True)->ρ x=a0.eval x) ->
  B w->(∀j,o.after.toList.any (λe=>e.on==j)=true->(ry l j).r y w) ->
  if Region.wanted o (iC ρ ops)=true then dX P o ρ w (yj m l B i y w)else yj m l B i y w undef w
theorem Su(m:Nat)(l:List wD)(B:World->Prop)(F:∀w w',Below w.heap.size w w'->B w->B w')(D:kw ops=true)(R:je ops m=true)(K:m<=ops.size)(J:Vg ops m l=true)(L:B w0)
 (n:Nat) (S:a0.tmps.size=n) (I:kT ops n=true)
 (A:bE (Gs P ops a0 m l B) 0 (ops.toList.take m))
 (E:∀y w,B w->(∀i,i<m->(ry l i).r y w)->wpList P ops Q (ops.toList.drop m) { a0 with tmps:=lay (λi=>decide (i<m)) y ops.toList 0 a0.tmps } w) :
  wpAny P .any ops Q ops.size (Array.replicate ops.size false) a0 w0:=by
 refine Ed m l B F D R K J L (λi o z W y w Z X => ?_) E;have f:∀t j,writer ops t=some j->({ a0 with tmps:=lay (λ_=>true) y ops.toList 0 a0.tmps }:Act).eval (.tmp t)=y j:=by
  intro t j H;unfold writer at H;have N:=vM H;have h2:=dx.1 (sZ H);cases ho:ops[j]? with
  | none=>simp[ho]at N
  | some p=>
   have a : p.dst=some t:=by simpa[ho]using N
   have u:t<a0.tmps.size:=by have:=dG.1 I p (nM.2 (Ap ho));rw[S];simpa[a]using this
   have O:∀G C,ops.toList[G]?=some C->C.dst=some t->G = j:=by
    intro G C b Y;rcases((gD D (i:=G) (o:=C) (by simpa using b)).2.2 j p t ho a).1 with h|h
    ·exact h
    ·exact absurd Y h
   have:=mV (λ_=>true) y t ops.toList 0 a0.tmps j p (by simpa using ho) a rfl O u;simp[Act.eval,this]
 have s:∀x,(match x with | .tmp t=>writer ops t=none | _=>True)->({ a0 with tmps:=lay (λ_=>true) y ops.toList 0 a0.tmps }:Act).eval x=a0.eval x:=by
  intro x M;cases x with
  | tmp t=>
   have:(lay (λ_=>true) y ops.toList 0 a0.tmps)[t]?=a0.tmps[t]?:=by
    refine ja _ y t _ 0 _ λk C U a => ?_;exfalso;simp only[writer]at M;have b : ops[k]?=some C:=by simpa using U
    have e:k<ops.size:=(iB.1 b).1;have:=sG.1 M k (dx.2 e);simp[b,a]at this
   simp[Act.eval,this]
  | _=>rfl
 have c:Region.wanted o (yielded ops (lay (λ_=>true) y ops.toList 0 a0.tmps))=Region.wanted o (iC ({ a0 with tmps:=lay (λ_=>true) y ops.toList 0 a0.tmps }:Act).eval ops):=by
  congr 1;funext g;unfold yielded iC;cases (ops[g]?).bind (·.dst)with
  | none=>rfl
  | some d=>
   simp only[Ci,Act.eval,bG];generalize (lay (λ_=>true) y ops.toList 0 a0.tmps)[d]?=q;cases q with
   | none=>rfl
   | some v=>cases v<;>rfl
 have ha : (ops.toList.take m)[i]?=some o:=by rw[jO,if_pos z];simpa using W
 have:=bE.at A i o ha _ y w f s Z X;rw[dL]at this;rw[c];exact this
theorem Vi(m:Nat)(l:List wD)(B:World->Prop)(d:∀w w',Below w.heap.size w w'->B w->B w')(C:B w0)(G:P.follows .mixedOrders=true)
 (ops' : Array Oper) (E:dS ops=ops') (z:kw ops' = true) (D:je ops' m=true) (A:m<=ops'.size) (s:Vg ops' m l=true)
 (n:Nat) (F:a0.tmps.size=n) (p:kT ops' n=true)
 (e:bE (Gs P ops' a0 m l B) 0 (ops'.toList.take m))
 (h:∀y w,B w->(∀i,i<m->(ry l i).r y w)->wpList P ops' Q (ops'.toList.drop m) { a0 with tmps:=lay (λi=>decide (i<m)) y ops'.toList 0 a0.tmps } w) :
  (Code.region id ops true).wp P Q a0 w0:=by
 refine wp_region_any G (Cs _ _ _ _ ?_);subst E;have H:B { w0 with drawn:=w0.drawn+1 }:=d w0 _ ⟨rfl,rfl,rfl,aC _,λ_ _=>rfl⟩ C;have:=Su m l B d z D A s H n F p e h;rw[zV]at this;exact this
theorem Vz(y:Nat->Value)(i:Nat)(v:Value):upd y i v i=v:=by unfold upd;rw[if_pos rfl]
theorem qU{m:Nat}{l:List wD}{B:World->Prop}(d:∀w w',Below w.heap.size w w'->B w->B w')(p:B w)(e:Below w.heap.size w w')(n:(ry l i).r (upd y i v) w'):yj m l B i y w v w':=
 ⟨d _ _ e p,n,λk _ _ h=>(ry l k).st _ _ _ e h⟩
theorem fw{m:Nat}{l:List wD}{B:World->Prop}(s:B w)(R:oW)(h:if Region.wanted o (iC ρ ops)=true then dX P o ρ w (λv w'=>Below w.heap.size w w'/\rl (List.replicate (i+1) R) i v w')else rl (List.replicate (i+1) R) i undef w)(d:∀w w',Below w.heap.size w w'->B w->B w':=by exact bH)(p:∀v w',R.r v w'->(ry l i).r (upd y i v) w':=by exact(λ_ _ h=>h)) :
  if Region.wanted o (iC ρ ops)=true then dX P o ρ w (yj m l B i y w)else yj m l B i y w undef w:=by
 have e:∀v w,rl (List.replicate (i+1) R) i v w=R.r v w:=by intro v w;unfold rl;rw[bA,uA,if_pos (by omega)];rfl
 simp only[e]at h
 by_cases A:Region.wanted o (iC ρ ops)=true
 ·rw[if_pos A]at h ⊢;unfold dX at h ⊢;generalize (execOp ρ o).run P w=q at h ⊢;cases q with
  | ok n w'=>
   cases n with
   | value v=>exact qU d s h.1 (p _ _ h.2)
   | skip=>exact qU d s h.1 (p _ _ h.2)
   | enter f args=>
    refine zg h λe C z => ?_;cases e
    case returned v=>exact qU d s z.1 (p _ _ z.2)
    all_goals exact z
   | _=>exact h
  | halt x w'=>exact h
 rw[if_neg A]at h ⊢;exact qU d s (Below.refl _ _) (p _ _ h)
def fu(B:Nat)(T:TypeId)(n:Nat):oW:=⟨λv w => ∃g cs,v = .pointer (some ⟨g,0,none⟩)/\B<=g/\aK w g cs T/\cs.size=n,λ_ _ _ hb ⟨g,cs,h1,h2,h3,h4⟩=>⟨g,cs,h1,h2,h3.ext hb,h4⟩⟩
theorem iY{n:Nat}(h:(fu B T n).r v w)(F:aK w' g cs T')(hold:∃cur,aK w g cur T')(s:w.grownBy w' (some g))(p:T=T'->cs.size=n:=by exact(λ_=>rfl)):(fu B T n).r v w':=by
 obtain⟨z,cs',E,D,d,G⟩:=h
 by_cases e:z = g
 ·subst e;obtain⟨cur,C⟩:=hold;have A:T=T':=by unfold aK at d C;rw[C]at d;simp only[fM,rM]at d;exact d.2.1.symm
  subst A;exact⟨z,cs,E,D,F,p rfl⟩
 ·exact⟨z,cs',E,D,d.grown s (λA=>e (aU A).symm),G⟩
theorem jT{m:Nat}{l:List wD}{B:World->Prop}(ty:TypeId)(x z:Operand)(g off:Nat)(v:Value)(cells:List Value)(A:ρ x = .pointer (some ⟨g,off,none⟩))(s:ρ z=v)(p:v.cells.toList=cells)(cur:Array Value)(T:TypeId)(d:aK w g cur T)(n:off+cells.length<=cur.size)(e:(P.info? ty).map (·.size)=some cells.length)(H:∀u∈cells,u.oneCell' = true)(h:∀w',aK w' g (dO cur off cells) T->w.grownBy w' (some g)->yj m l B i y w undef w')(C:Region.wanted o (iC ρ ops)=true:=by exact(ag rfl))(F:o.op = .store ty x z:=by exact rfl) :
  if Region.wanted o (iC ρ ops)=true then dX P o ρ w (yj m l B i y w)else yj m l B i y w undef w:=by
 rw[if_pos C];have a:=run_storeCells_cells (P:=P) g off cells 0 w
  (λj G=>by rw[mG,d.cell];simp[show off+j<cur.size by omega]) (λj G=>d.free _) H
 simp only[mG]at a;have b:(storeVar ty ⟨g,off,none⟩ v).run P w = .ok () (w.setCells g off cells):=by
  cases hq:P.info? ty with
  | none=>simp[hq]at e
  | some i=>
   have E:i.size=cells.length:=by simpa[hq]using e
   have D:v.cells.size=cells.length:=by rw[<-p];simp
   simp[storeVar,Go.sizeOf,typeInfo,hq,E,D,p,a]
 unfold dX execOp;simp only[F,A,s,Instr.storeAt,Instr.sureAddr,lD,sF,sH,b];exact h _ (d.setCells _ _) (aD _ _ _ _)
inductive Xr where
 | v (V:Value)
 | r (i:Nat) (R:oW)
 | y (i:Nat) (R:wD)
def rvyN:Xr:=.r 0 anyR
def rvyR:List Xr->Nat->List wD
 | [],_=>[]
 | .v V::l,i=>ofR i (fQ V)::rvyR l (i+1)
 | .r _ R::l,i=>ofR i R::rvyR l (i+1)
 | .y _ R::l,i=>R::rvyR l (i+1)
def toRV:List Xr->List RV
 | []=>[]
 | .v V::l => .v V::toRV l
 | .r i _::l => .r i anyR::toRV l
 | .y i _::l => .r i anyR::toRV l
theorem rvy_at:∀(l:List Xr) (i k:Nat) {V:Value},l.getD i rvyN = .v V->(rvyR l k).getD i anyY=ofR (k+i) (fQ V)/\(toRV l).getD i rvN = .v V
 | [],_,_,_,h=>by cases h
 | a::l,0,k,V,h=>by have d : a = .v V:=h;subst d;exact⟨rfl,rfl⟩
 | a::l,i+1,k,V,h=>by have:=rvy_at l i (k+1) (V:=V) (by simpa using h);rw[show k+(i+1)=k+1+i by omega];cases a<;>exact⟨by simpa[rvyR]using this.1,by simpa[toRV]using this.2⟩
theorem rvy_rl:∀(l:List Xr) (j k:Nat) {y:Nat->Value} {w:World},((rvyR l k).getD j anyY).r y w->rl (rvs (toRV l)) j (y (k+j)) w
 | [],_,_,_,_,_=>by unfold rl toRV rvs;simp[anyR]
 | a::l,0,k,y,w,h=>by
  cases a with
  | v V=>exact h
  | r i R=>exact trivial
  | y i R=>exact trivial
 | a::l,j+1,k,y,w,h=>by
  have d : ((rvyR l (k+1)).getD j anyY).r y w:=by cases a<;>simpa[rvyR]using h
  have:=rvy_rl l j (k+1) d;rw[show k+(j+1)=k+1+j by omega];unfold rl at this ⊢;cases a<;>simpa[toRV,rvs]using this
section
variable {P:Program} {ops:Array Oper} {a0:Act} {m:Nat} {l:List Xr} {B:World->Prop} {i:Nat} {o:Oper} {r:List Oper}
theorem Ab(d:∀w w',Below w.heap.size w w'->B w->B w')(A:l.getD i rvyN = .v V)
 (h:∀ρ y w,B w->Kn ops a0 (toRV l) o ρ y w->(Region.wanted o (iC ρ ops)=false/\V=undef)\/(Region.wanted o (iC ρ ops)=true/\(execOp ρ o).run P w = .ok (.value V) w)):Gs P ops a0 m (rvyR l 0) B i o:=λρ y w z C n F=>by
 have D:Kn ops a0 (toRV l) o ρ y w:=⟨z,C,λj E=>by have:=rvy_rl l j 0 (F j E);rwa [dL]at this⟩;have e:∀w',(ry (rvyR l 0) i).r (upd y i V) w':=λw'=>by unfold ry;rw[(rvy_at l i 0 A).1,dL];exact Vz _ _ _
 rcases h ρ y w n D with⟨s,p⟩|⟨s,p⟩
 ·rw[if_neg (by rw[s];exact Bool.false_ne_true),<-p];exact qU d n (Below.refl _ _) (e w)
 rw[if_pos s];unfold dX;rw[p];exact qU d n (Below.refl _ _) (e w)
theorem AQ.runY(s:l.getD i rvyN = .v V)(h:AQ P ops a0 (toRV l) i o):∀ρ y w,Kn ops a0 (toRV l) o ρ y w->(Region.wanted o (iC ρ ops)=false/\V=undef)\/(Region.wanted o (iC ρ ops)=true/\(execOp ρ o).run P w = .ok (.value V) w):=λρ y w z=>by
 have e:∀v w,rl (rvs (toRV l)) i v w->v=V:=λv w d=>by unfold rl at d;rw[rvs_at,(rvy_at l i 0 s).2]at d;exact d
 rcases h ρ y w z with⟨p,n⟩|⟨p,v,n,A⟩
 ·exact .inl ⟨p,(e _ _ n).symm⟩
 ·exact .inr ⟨p,by rw[<-e _ _ A];exact n⟩
abbrev AY (P:Program) (ops:Array Oper) (a0:Act) (m:Nat) (l:List Xr) (B:World->Prop) (i:Nat) (r:List Oper):Prop:=bE (Gs P ops a0 m (rvyR l 0) B) i r
theorem VJ(d:∀w w',Below w.heap.size w w'->B w->B w')(e:l.getD i rvyN = .v V)(h:AQ P ops a0 (toRV l) i o):Gs P ops a0 m (rvyR l 0) B i o:=Ab d e λρ y w _ n=>h.runY e ρ y w n
theorem Yk(d:∀w w',Below w.heap.size w w'->B w->B w')(h:(ks ops a0 (toRV l) o).map Xr.v=some (l.getD i rvyN))(n:AY P ops a0 m l B (i+1) r):AY P ops a0 m l B i (o::r):=by
 cases hk:ks ops a0 (toRV l) o with
 | none=>rw[hk]at h;cases h
 | some V=>
  rw[hk]at h;have e:=(aU h).symm;exact⟨VJ d e (Zf hk (rvy_at l i 0 e).2),n⟩
theorem Yf(d:∀w w',Below w.heap.size w w'->B w->B w')(b k:Nat)(h:kfa ops a0 (toRV l) o=some (t,v,f))(e:l.getD i rvyN = .v (.pointer (some ⟨b,k,none⟩)))(n:AY P ops a0 m l B (i+1) r)(p:∀w,(Instr.fieldAt t v f).run P w = .ok (.pointer (some ⟨b,k,none⟩)) w:=by intro _;kernel_rfl):AY P ops a0 m l B i (o::r):=
 ⟨(Po (C:=λi o=>AQ P ops a0 (toRV l) i o) (r:=[]) id b k h (rvy_at l i 0 e).2 trivial p).1 |> VJ d e,n⟩
theorem Yb(d:∀w w',Below w.heap.size w w'->B w->B w')(V:Value){op:BinOp}{y:Operand}(s:∀w,(do eqGuard op t x y vx vy;binOp op t vx vy:Sem Value).run P w = .ok V w)(C:kg ops a0 (toRV l) o=some true)(z:o.op = .binOp op t x y t')(p:kx ops a0 (toRV l) o x=some vx)(n:kx ops a0 (toRV l) o y=some vy)(e:l.getD i rvyN = .v V)(A:AY P ops a0 m l B (i+1) r):AY P ops a0 m l B i (o::r):=
 ⟨VJ d e (AQ.run C (rvy_at l i 0 e).2 λρ y w h=>QB z (bi p h) (bi n h) (s w)),A⟩
theorem Yr(d:∀w w',Below w.heap.size w w'->B w->B w')(V:Value)(h:∀ρ y w,B w->Kn ops a0 (toRV l) o ρ y w->(execOp ρ o).run P w = .ok (.value V) w)(s:kg ops a0 (toRV l) o=some true)(n:l.getD i rvyN = .v V)(p:AY P ops a0 m l B (i+1) r):AY P ops a0 m l B i (o::r):=
 ⟨Ab d n λρ y w z e => .inr ⟨Hz s e,h ρ y w z e⟩,p⟩
theorem Yc(d:∀w w',Below w.heap.size w w'->B w->B w')(V:Value)(C:∀w,B w->w.cell? ⟨b,k,none⟩=some V)(A:kg ops a0 (toRV l) o=some true)(s:o.op = .load t x)(h:kx ops a0 (toRV l) o x=some (.pointer (some ⟨b,k,none⟩)))(n:l.getD i rvyN = .v V)(z:AY P ops a0 m l B (i+1) r)(p:scB P t=true:=by kernel_rfl):AY P ops a0 m l B i (o::r):=
 ⟨Ab d n λρ y w D e => .inr ⟨Hz A e,run_load s (bi h e) (by simp only[Instr.loadAt,Instr.sureAddr,lD,sF,sH,uZ p (C w D)])⟩,z⟩
end
theorem toRV_len:∀l:List Xr,(toRV l).length=l.length
 | []=>rfl
 | a::l=>by cases a<;>simp[toRV,toRV_len l]
theorem bH :∀w w',Below w.heap.size w w'->Below w0.heap.size w0 w->Below w0.heap.size w0 w':=λ_ _ h d=>ah d h
theorem gX{A:List Deferred}(m:Nat)(l:List Xr)(B:World->Prop)(z:∀w w',Below w.heap.size w w'->B w->B w')(H:B w0)
 (d:AY P (dS ops) ⟨t0,A⟩ m l B 0 ((dS ops).toList.take m)) {C:(Nat->Value)->List Value} (M:∀y,zT y (toRV l) (dS ops).toList t0.toList=some (C y)) (N:wr ((dS ops).toList.drop m)=some rest)
 (s:∀y w,B w->(∀i,i<m->(ry (rvyR l 0) i).r y w)->wpList P (dS ops) Q rest ⟨(C y).toArray,A⟩ w)
 (L:P.follows .mixedOrders=true:=by kernel_rfl) (F:kw (dS ops)=true:=by kernel_rfl) (K:je (dS ops) m=true:=by kernel_rfl) (p:m<=(dS ops).size:=by decide) (E:Vg (dS ops) m (rvyR l 0)=true:=by kernel_rfl) (n:l.length=m:=by rfl) (G:idxOk (toRV l) 0=true:=by kernel_rfl)
 (D:kT (dS ops) t0.size=true:=by kernel_rfl):(Code.region id ops true).wp P Q ⟨t0,A⟩ w0:=by
 refine Vi m (rvyR l 0) B z H L (dS ops) rfl F K p E _ rfl D d λy w O J => ?_;have h:=s y w O J;rw[QO N];have e:=zo (m:=m) (y:=y) (w:=w) (toRV l) (dS ops).toList 0 t0 G (by rw[toRV_len,n,dL]) (by rw[toRV_len,n,lH];exact p) λi I=>by have:=rvy_rl l i 0 (J i (by rw[toRV_len,n]at I;exact I));rw[dL]at this ⊢;exact this
 show wpList P (dS ops) Q rest ⟨lay (λi=>decide (i<m)) y (dS ops).toList 0 t0,A⟩ w;have S:=aU (e.symm.trans (M y));have R:lay (λi=>decide (i<m)) y (dS ops).toList 0 t0=(C y).toArray:=by rw[<-S]
 rw[R];exact h
theorem dX.mono{F G:Value->World->Prop}(h:dX P o ρ w F)(d:∀v w',F v w'->G v w'):dX P o ρ w G:=by
 unfold dX at h ⊢;generalize (execOp ρ o).run P w=r at h ⊢;cases r with
 | ok n w'=>
  cases n with
  | value v=>exact d _ _ h
  | skip=>exact d _ _ h
  | enter f args=>
   refine zg h λe s p => ?_;cases e with
   | returned v=>exact d _ _ p
   | panicked c=>exact p.elim
   | outgrown=>exact p.elim
  | _=>exact h.elim
 | halt x w'=>exact h.elim
def dOk(ops:Array Oper)(m:Nat):Bool:=
 ((List.range m).all λj=>(qg ops ops.size m).contains j)&&(List.range ops.size).all λi=>decide (i<=m)||(qg ops ops.size i).contains m
def aaJ(ops:Array Oper)(m k1:Nat)(R:Nat->Value->World->Prop)(B:World->Prop)(a0:Act)(w0:World)(listed:Array Bool)(a:Act)(w:World):Prop:=
 (∀i,k1<=i->listed.getD i false=false)/\(∀i o,ops[i]?=some o->listed.getD i false=true->∀e∈o.after,listed.getD e.on false=true)/\∃y:Nat->Value,a = { a0 with tmps:=lay (λi=>listed.getD i false) y ops.toList 0 a0.tmps }/\B w/\(listed.getD m false=false->Below w0.heap.size w0 w) /\
  ∀i,i<ops.size->listed.getD i false=true->(listed.getD m false=true->m<=i)->R i (y i) w
theorem DW(m k1:Nat)(hm:P.follows .mixedOrders=true)(I:kw ops=true)(ht:je ops k1=true)(U:dOk ops m=true)(hmk:m<k1)(hmn:k1<=ops.size)
 (R:Nat->Value->World->Prop) (Y:∀i v w w',Below w.heap.size w w'->R i v w->R i v w') (B:World->Prop) (hbst:∀w w',Below w.heap.size w w'->B w->B w') (hb0:∀w,Below w0.heap.size w0 w->B w)
 (X:∀i o,i<k1->ops[i]?=some o->∀y w,B w->(i<=m->Below w0.heap.size w0 w)->(∀j,o.after.toList.any (λe=>e.on==j)=true->(m<i->m<=j)->R j (y j) w)->(i=m->∀j,j<m->R j (y j) w) ->
 if Region.wanted o (yielded ops (lay (λ_=>true) y ops.toList 0 a0.tmps))=true then Gives P o { a0 with tmps:=lay (λ_=>true) y ops.toList 0 a0.tmps } w (λv w'=>(i=m->B w')/\(i≠m->Below w.heap.size w w')/\R i v w')else i≠m/\R i undef w)
 (W:∀y w,B w->(∀i,m<=i->i<k1->R i (y i) w)->wpList P ops Q (ops.toList.drop k1) { a0 with tmps:=lay (λi=>decide (i<k1)) y ops.toList 0 a0.tmps } w) :
  (Code.region id ops true).wp P Q a0 w0:=by
 have hT:∀j,j<m->(qg ops ops.size m).contains j=true:=λj O=>by unfold dOk at U;rw[dJ]at U;exact dG.1 U.1 j (dx.2 O)
 have hU:∀i,i<ops.size->m<i->(qg ops ops.size i).contains m=true:=λi F f=>by
  unfold dOk at U;rw[dJ]at U;have:=dG.1 U.2 i (dx.2 F);simp only[uN,decide_eq_true_eq]at this;rcases this with h|h
  ·omega
  ·exact h
 have hV:∀(C:Nat) (A:Array Bool) (a:Act) (w:World),A.size=ops.size->A.toList.countP (!·)<=C->aaJ ops m k1 R B a0 w0 A a w->wpAny P .any ops Q C A a w:=by
  intro C
  induction C with
  | zero=>
   intro A a w hf hc hA;have hl:∀i,i<ops.size->A.getD i false=true:=by
    intro i hw;have h0:A.toList.countP (!·)=0:=by omega
    have:=vB.1 h0 (A[i]'(by omega)) (by simp);simpa[bG,show i<A.size by omega]using this
   obtain⟨hn,u,y,ha,hB,hb,Z⟩:=hA;have d : k1=ops.size:=by
    rcases gB k1 ops.size with h|h
    ·have h1:=hl k1 h;rw[hn k1 (aC _)]at h1;cases h1
    ·omega
   refine qJ (m:=k1) I ht 0 ops.size A a w (by omega) (aC _) (by omega) hf (λi F=>by rw[hl i F];simp[F]) ?_;have:=W y w hB λi f F=>Z i (by omega) (hl i (by omega)) (λ_=>f);rw[ha,oL (λi=>A.getD i false) (λi=>decide (i<k1)) y ops.toList 0 a0.tmps (λk K=>by
    have h4 : k<ops.size:=by simpa using K
    simp only[dL];rw[hl k h4];simp;omega)]
   rw[d]at this ⊢;exact this
  | succ C ih=>
   intro A a w hf hc hA
   by_cases G:∀i,i<k1->A.getD i false=true
   ·obtain⟨hn,u,y,ha,hB,hb,Z⟩:=hA;have M:∀i,i<ops.size->A.getD i false=decide (i<k1):=by
     intro i F
     by_cases E:i<k1
     ·rw[G i E];simp[E]
     ·rw[hn i (by omega)];simp[E]
    have hy:ops.size-k1<=C+1:=by
     have h1:A.toList.countP (!·)=ops.size-k1:=by
      have e:A.toList=List.replicate k1 true++List.replicate (ops.size-k1) false:=by
       apply qB;intro i
       by_cases F:i<ops.size
       ·have h2:=M i F;rw[qz,wX (show i<A.size by omega)];simp only[bG,wX (show i<A.size by omega),sQ]at h2;rw[h2]
        by_cases E:i<k1
        ·rw[jb (by simpa using E)];simp[E]
        rw[jv (by simp;omega)];rw[mY,uA,if_pos (by omega)];simp[E]
       ·rw[dP (by simp;omega),dP (by simp;omega)]
      rw[e];simp[EK,KU]
     omega
    refine qJ (m:=k1) I ht (C+1) k1 A a w (aC _) hmn hy hf M ?_;have:=W y w hB λi f F=>Z i (by omega) (G i F) (λ_=>f);rw[ha,oL (λi=>A.getD i false) (λi=>decide (i<k1)) y ops.toList 0 a0.tmps (λk K=>by simp only[dL];exact M k (by simpa using K))];exact this
   have hh:Region.ready .any ops A≠[]:=by
    intro hu;apply G;intro i
    induction i using Nat.strongRecOn with
    | ind i ih'=>
     intro E
     by_cases hc' : A.getD i false=true
     ·exact hc'
     exfalso;have F:i<ops.size:=by omega
     have hC:i∈Region.ready .any ops A:=by
      rw[mem_ready];refine⟨?_,ops[i],by simp[F],λe L _ => ?_⟩
      ·simpa[bG,show i<A.size by omega]using hc'
      have:=(gD I (i:=i) (o:=ops[i]) (by simp[F])).2.1 e L;exact ih' e.on this.2 (by omega)
     rw[hu]at hC;cases hC
   refine⟨λh=>absurd h hh,λi F => ?_⟩;obtain⟨h1,o,N,hG⟩:=mem_ready.1 F;have hw:i<ops.size:=(iB.1 N).1;obtain⟨hJ,r,_⟩:=gD I N;have M:∀e∈o.after,A.getD e.on false=true:=λe L=>hG e L (r e L).1;have E:i<k1:=by
    rcases gB i k1 with h|h
    ·exact h
    exfalso;apply G;intro j O;exact uE ht hA.2.1 N M h j (by omega)
   obtain⟨hn,u,y,ha,hB,hb,Z⟩:=hA;have hE:A.getD i false=false:=by simpa[bG,show i<A.size by omega]using h1
   have D:∀q,q<ops.size->(∀H,ops[q]?=some H->∀e∈H.after,A.getD e.on false=true)->∀j,(qg ops ops.size q).contains j=true->A.getD j false=true:=λq _ hq j O=>tV u ops.size q hq j (by simpa using O);have hW:∀H,ops[i]?=some H->∀e∈H.after,A.getD e.on false=true:=λH c=>by rw[N]at c; cases c; exact M
   have hD:i<=m->A.getD m false=false:=λb=>by
    by_cases f:i=m
    ·rw[<-f];exact hE
    cases hlm:A.getD m false
    ·rfl
    have:=D m (by omega) (λH c=>u m H c hlm) i (hT i (by omega));rw[hE]at this;cases this
   have h8:m<i->A.getD m false=true:=λf=>D i hw hW m (hU i hw f);have hI : i=m->∀j,j<m->A.getD j false=true:=λb j O=>by subst b;exact D i hw hW j (hT j O)
   have hK:i=m->∀k,m<k->k<ops.size->A.getD k false=false:=λb k K hO=>by
    cases hlk:A.getD k false
    ·rfl
    have:=D k hO (λH c=>u k H c hlk) m (hU k hO K);rw[<-b,hE]at this;cases this
   have hp:∀v w',((i=m->B w')/\(i≠m->Below w.heap.size w w')/\R i v w')->wpAny P .any ops Q C (A.setIfInBounds i true) (a.put o.dst v) w':=by
    rintro v w' ⟨hX,hH,hv⟩;have hN:i≠m->(A.setIfInBounds i true).getD m false=A.getD m false:=λhY=>by simp only[bG,gT hY]
    have hM:i=m->(A.setIfInBounds i true).getD m false=true:=λL=>by subst L;simp[bG,show i<A.size by omega]
    refine ih _ _ _ (by simp[hf]) ?_ ⟨λk K => ?_,λk H c K e L => ?_,λk=>if k=i then v else y k,?_,?_,λd => ?_,?_⟩
    ·have hP:i<A.toList.length:=by simp;omega
     have n:A.toList[i]=false:=by simpa[bG,show i<A.size by omega]using h1
     have:=Jy (p:=(!·)) (l:=A.toList) (i:=i) (a:=true) hP;rw[n]at this;have h7:0<A.toList.countP (!·):=zu.2 ⟨A.toList[i],fA hP,by rw[n];rfl⟩;simp only[BL];simp only[JC,Em,if_true,oz,if_false]at this;omega
    ·have:=hn k K;simp only[bG,gT (show i≠k by omega)]at this ⊢;exact this
    ·have up:∀q,A.getD q false=true->(A.setIfInBounds i true).getD q false=true:=by
      intro q hq
      by_cases hqi:q=i
      ·subst hqi;simp[bG,show q<A.size by omega]
      ·simpa[bG,gT (mF hqi)]using hq
     apply up
     by_cases J:k=i
     ·subst J;rw[N]at c;cases c;exact M e L
     ·exact u k H c (by simpa[bG,gT (mF J)]using K) e L
    ·rw[ha,Ej I N hf v]
    ·by_cases b : i=m
     ·exact hX b
     ·exact hbst _ _ (hH b) hB
    ·by_cases b : i=m
     ·rw[hM b]at d; cases d
     rw[hN b]at d;exact(hb d).trans ((hH b).mono (hb d).size)
    intro k K h6 hz
    by_cases J:k=i
    ·subst J;simpa using hv
    have hlk:A.getD k false=true:=by simpa[bG,gT (mF J)]using h6
    simp only[J,if_false]
    by_cases b : i=m
    ·exfalso;have h2:=hz (hM b);have h3:=hK b k (by omega) K;rw[hlk]at h3;cases h3
    refine Y _ _ _ _ (hH b) (Z k K hlk λhlm=>hz ?_);rw[hN b];exact hlm
   have hr:∀t∈o.looksAt ops,a.tmps[t]?=(lay (λ_=>true) y ops.toList 0 a0.tmps)[t]?:=λt ht=>by rw[ha];exact zz I N M t ht
   have hF:execOp a.eval o=execOp ({ a0 with tmps:=lay (λ_=>true) y ops.toList 0 a0.tmps }:Act).eval o:=by
    refine execOp_congr o hJ λx hx => ?_;cases x with
    | tmp t=>
     have:=hr t (xm _ (Ef.2 ⟨.tmp t,by simpa using hx,rfl⟩));simp[Act.eval,this]
    | _=>rfl
   have z:Region.wanted o (yielded ops a.tmps)=Region.wanted o (yielded ops (lay (λ_=>true) y ops.toList 0 a0.tmps)):=by
    unfold Region.wanted;cases hg:o.guard with
    | none=>rfl
    | some gw=>
     obtain⟨g,want⟩:=gw;have:yielded ops a.tmps g=yielded ops (lay (λ_=>true) y ops.toList 0 a0.tmps) g:=by
      unfold yielded;cases U:(ops[g]?).bind (·.dst)with
      | none=>rfl
      | some t=>
       have:=hr t (xB _ (by simp[hg,U]));simp[this]
     simp only[this]
   have hs:=X i o E N y w hB (λh=>hb (hD h)) (λj O hZ=>by
    obtain⟨e,L,h5⟩:=kW.1 O;have hQ : e.on=j:=by simpa using h5
    subst hQ;have hS:=nM.1 L;refine Z e.on (by have:=(r e hS).2;omega) (M e hS) (λhlm => ?_);rcases gB m i with h|h
    ·exact hZ h
    ·rw[hD h]at hlm;cases hlm) (λb j O=>Z j (by omega) (hI b j O) (λhlm=>by rw[hD (by omega)]at hlm;cases hlm))
   by_cases S:Region.wanted o (yielded ops (lay (λ_=>true) y ops.toList 0 a0.tmps))=true
   ·rw[if_pos S]at hs;exact qE N (by rw[z];exact S) hF hs λv w' h=>hp v w' h
   rw[if_neg S]at hs;unfold wpOp;simp only[N];rw[if_neg (by rw[z];exact S)];exact hp undef w ⟨λh=>absurd h hs.1,λ_=>Below.refl _ _,hs.2⟩
 refine wp_region_any hm (hV ops.size _ _ _ (by simp) ?_ ⟨λi _ => ?_,λi H c F => ?_,λ_=>undef,?_,hb0 _ ⟨rfl,rfl,rfl,aC _,λ_ _=>rfl⟩,λ_ => ?_,?_⟩)
 ·simpa using za (p:=(!·)) (l:=List.replicate ops.size false)
 ·simp[bG,pJ];split<;>rfl
 ·exfalso;have:i<ops.size:=(iB.1 c).1;simp[bG,this]at F
 ·have e:lay (λi=>(Array.replicate ops.size false).getD i false) (λ_=>undef) ops.toList 0 a0.tmps=a0.tmps:=by apply sM;intro s;exact ja _ _ s _ 0 _ λk H K U=>by simp[bG,pJ];split<;>rfl
  rw[e]
 ·exact⟨rfl,rfl,rfl,aC _,λ_ _=>rfl⟩
 intro i F M _;simp[bG,F]at M
def aae(P:Program)(ops:Array Oper)(a0:Act)(l:List oW)(m:Nat)(B:World->Prop)(i:Nat)(o:Oper):Prop:=
 ∀(ρ:Operand->Value) (y:Nat->Value) (w:World),(∀t j,writer ops t=some j->ρ (.tmp t)=y j)->(∀x,(match x with | .tmp t=>writer ops t=none | _=>True)->ρ x=a0.eval x) ->
  B w->(∀j,(o.after.toList.any (λe=>e.on==j)&&decide (m<=j))=true->rl l j (y j) w) ->
  if Region.wanted o (iC ρ ops)=true then dX P o ρ w (λv w'=>Below w.heap.size w w'/\rl l i v w')else rl l i undef w
theorem Md(m k1:Nat)(l:List oW)(B:World->Prop)(K:∀w w',Below w.heap.size w w'->B w->B w')(W:∀w,Below w0.heap.size w0 w->B w)(hm:P.follows .mixedOrders=true)(G:kw ops=true)(ht:je ops k1=true)(M:dOk ops m=true)(S:m<k1)(R:k1<=ops.size)
 (n:Nat) (hn:a0.tmps.size=n) (O:kT ops n=true)
 (E:bE (qy P ops a0 w0 l) 0 (ops.toList.take m)) (C:bE (aae P ops a0 l m B) (m+1) ((ops.toList.drop (m+1)).take (k1-(m+1))))
 (H:∀(ρ:Operand->Value) (y:Nat->Value) (w:World) (o:Oper),ops[m]?=some o->(∀t j,writer ops t=some j->ρ (.tmp t)=y j)->(∀x,(match x with | .tmp t=>writer ops t=none | _=>True)->ρ x=a0.eval x) ->
 Below w0.heap.size w0 w->(∀i,i<m->rl l i (y i) w)->Region.wanted o (iC ρ ops)=true/\dX P o ρ w λv w'=>B w'/\rl l m v w')
 (J:∀y w,B w->(∀i,m<=i->i<k1->rl l i (y i) w)->wpList P ops Q (ops.toList.drop k1) { a0 with tmps:=lay (λi=>decide (i<k1)) y ops.toList 0 a0.tmps } w) :
  (Code.region id ops true).wp P Q a0 w0:=by
 refine DW m k1 hm G ht M S R (rl l) (λi v w w' N h=>(l.getD i anyR).st v w w' N h) B K W (λi o hf U y w hB N M ha => ?_) J;have c:∀t j,writer ops t=some j->({ a0 with tmps:=lay (λ_=>true) y ops.toList 0 a0.tmps }:Act).eval (.tmp t)=y j:=by
  intro t j A;unfold writer at A;have Y:=vM A;have h2:=dx.1 (sZ A);cases ho:ops[j]? with
  | none=>simp[ho]at Y
  | some p=>
   have a : p.dst=some t:=by simpa[ho]using Y
   have z:t<a0.tmps.size:=by have:=dG.1 O p (nM.2 (Ap ho));rw[hn];simpa[a]using this
   have Z:∀L F,ops.toList[L]?=some F->F.dst=some t->L = j:=by
    intro L F b hc;rcases((gD G (i:=L) (o:=F) (by simpa using b)).2.2 j p t ho a).1 with h|h
    ·exact h
    ·exact absurd hc h
   have:=mV (λ_=>true) y t ops.toList 0 a0.tmps j p (by simpa using ho) a rfl Z z;simp[Act.eval,this]
 have r:∀x,(match x with | .tmp t=>writer ops t=none | _=>True)->({ a0 with tmps:=lay (λ_=>true) y ops.toList 0 a0.tmps }:Act).eval x=a0.eval x:=by
  intro x X;cases x with
  | tmp t=>
   have:(lay (λ_=>true) y ops.toList 0 a0.tmps)[t]?=a0.tmps[t]?:=by
    refine ja _ y t _ 0 _ λk F hk a => ?_;exfalso;simp only[writer]at X;have b : ops[k]?=some F:=by simpa using hk
    have u:k<ops.size:=(iB.1 b).1;have:=sG.1 X k (dx.2 u);simp[b,a]at this
   simp[Act.eval,this]
  | _=>rfl
 have f:Region.wanted o (yielded ops (lay (λ_=>true) y ops.toList 0 a0.tmps))=Region.wanted o (iC ({ a0 with tmps:=lay (λ_=>true) y ops.toList 0 a0.tmps }:Act).eval ops):=by
  congr 1;funext g;unfold yielded iC;cases (ops[g]?).bind (·.dst)with
  | none=>rfl
  | some d=>
   simp only[Ci,Act.eval,bG];generalize (lay (λ_=>true) y ops.toList 0 a0.tmps)[d]?=q;cases q with
   | none=>rfl
   | some v=>cases v<;>rfl
 rw[f];rcases Nat.lt_trichotomy i m with h|h|h
 ·have s : (ops.toList.take m)[i]?=some o:=by rw[jO,if_pos h];simpa using U
  have:=bE.at E i o s _ y w c r (N (by omega)) (λj I=>M j I (λh'=>by omega));rw[dL]at this;split at this
  ·rename_i A;rw[if_pos A];exact dX.mono this λv w' D=>⟨λe=>by omega,λ_=>D.1,D.2⟩
  rename_i A;rw[if_neg A];exact⟨by omega,this⟩
 ·subst h;obtain⟨A,hg⟩:=H _ y w o U c r (N (aC _)) (ha rfl);rw[if_pos A];exact dX.mono hg λv w' D=>⟨λ_=>D.1,λe=>absurd rfl e,D.2⟩
 have s : ((ops.toList.drop (m+1)).take (k1-(m+1)))[i-(m+1)]?=some o:=by rw[jO,if_pos (by omega),pG,show m+1+(i-(m+1))=i by omega];simpa using U
 have:=bE.at C (i-(m+1)) o s _ y w c r hB (λj I=>by rw[dJ,decide_eq_true_eq]at I;exact M j I.1 (λ_=>I.2));rw[show m+1+(i-(m+1))=i by omega]at this;split at this
 ·rename_i A;rw[if_pos A];exact dX.mono this λv w' D=>⟨λe=>by omega,λ_=>D.1,D.2⟩
 rename_i A;rw[if_neg A];exact⟨by omega,this⟩
end Pw
namespace Go.Proofs.YthihaopabbpalaaGreat
open _root_.Go.Proofs.Tryz
open Go.RowKit Pw
variable {B B' b c cb cq g k off q r sz:Nat} {P:Program} {Q:Exit -> Act -> World -> Prop} {T ty:TypeId} {a ab aq:Option Addr} {ca cs cs':Array Value} {l:List Int} {o:Oper} {ops:Array Oper} {rest:List Oper} {v vb vq:Value} {vs xs:List Value} {w w' w0 w4 w5:World} {x:Operand} {ρ:Operand -> Value}
theorem int_info:(Tryz.prog.info? 3).map (λi=>(i.zero,i.size,i.bytes))=some (some (.int .i64 0),1,8):=by kernel_rfl
theorem int_size:(Tryz.prog.info? 3).map (·.size)=some 1:=by kernel_rfl
theorem LU(l:List Int):(l.map ib).length=l.length*1:=by simp
theorem Lt(l:List Int):∀u∈l.map ib,u.oneCell' = true:=by
 intro u d;obtain⟨_,_,rfl⟩:=fD.1 d;rfl
theorem ZK(l:List Int)(k:Nat)(h:k<l.length):(l.map ib)[k]?=some (.int .i64 l[k]):=by simp[h,ib]
theorem mO(h:eD w a (l.map ib))(k:Nat)(d:k<l.length):∃b off,a=some ⟨b,off,none⟩/\w.cell? ⟨b,off+k,none⟩=some (.int .i64 l[k]):=by
 obtain⟨b,off,n,e⟩:=h.at (by simp;omega);exact⟨b,off,n,e _ _ (ZK l k d)⟩
open Go.Maps
theorem int_key:Keyed Tryz.prog 3:=int_keyed underlying3
theorem OD(w:World):(zeroValue 4).run Tryz.prog w = .ok (.bool false) w:=by kernel_rfl
theorem Ah{H:Type}{x:Bool}{ps:List MemPlace}(h:plainElem (H:=H) Tryz.prog 4 v=some (.lit (.bool x),ps)):v = .bool x:=by
 unfold plainElem at h;rw[underlying4]at h;split at h<;>simp_all
def pY(w:World)(b n:Nat)(f:Int->Bool):Prop:=∃D:DataW Unit,w.ownsMap Tryz.prog 3 (plainElem Tryz.prog 4) b n D/\ZB D f
theorem pY.made(w:World):pY (w.alloc (.map #[] 0)) w.heap.size 0 (λ_=>false):=⟨_,World.ownsMap_made (H:=Unit) w Tryz.prog 3 (plainElem Tryz.prog 4),ZB.empty⟩
theorem pY.below{n:Nat}{f:Int->Bool}(h:pY w b n f)(d:Below w.heap.size w w'):pY w' b n f:=by
 obtain⟨D,p,e⟩:=h;exact⟨D,NU p d,e⟩
theorem pY.look{n:Nat}{f:Int->Bool}(h:pY w b n f)(j:Int)(hj : -9223372036854775808<=j/\j<=9223372036854775807):(Instr.lookup 222 (.map (some b)) (.int .i64 j) false).run Tryz.prog w = .ok (.bool (f j)) w:=by
 obtain⟨D,s,p⟩:=h;obtain⟨v,ps,e,d⟩:=s.lookup int_key underlying222 (OD w) (plainElem_bool underlying4 false) (keyOf_int_mk underlying3 (a:=j) (WalkArith.wf_i64 hj));rw[p.at_ j]at d;rw[Ah d]at e;exact e
theorem yJ{a:Act}{n:Nat}{f:Int->Bool}(d:pY w b n f)(H:n<1000000000)(z:o.guard=none)(m x v:Operand)(e:o.op=Op.mapUpdate 222 m x v)
 (s:a.eval m = .map (some b)) (j:Int) (h:a.eval x = .int .i64 j) (p:a.eval v = .bool true) (hj : -9223372036854775808<=j/\j<=9223372036854775807)
 (C:∀w',pY w' b (n+1) (λi=>f i||decide (i=j))->w.grownBy w' (some b)->wpList Tryz.prog ops Q rest (a.put o.dst undef) w'):wpList Tryz.prog ops Q (o::rest) a w:=by
 obtain⟨D,G,A⟩:=d;exact wpList_mapUpdate_own _ z m x v 222 e 3 4 int_key underlying222 _ b n D s G (by unfold maxLen;omega) _ _ _ h p (keyOf_int_mk underlying3 (WalkArith.wf_i64 hj)) _ [] (plainElem_bool underlying4 true) λw' F E=>C w' ⟨_,F,A.put j⟩ E
theorem pY.rdv{n:Nat}{f:Int->Bool}(h:pY w b n f)(s:eD w a vs)(A:w.grownBy w' (some b)):eD w' a vs:=by
 intro i u z;obtain⟨F,off,E,p⟩:=s i u z;refine⟨F,off,E,A.cell p ?_⟩;intro e;cases e;obtain⟨D,⟨G,d,C,_⟩,_⟩:=h;simp[World.cell?,C]at p
theorem abk(m:World->Prop)(h:∀W,Below w.heap.size w W->pY W w.heap.size 0 (λ_=>false)->m W):m (w.alloc (.map #[] 0)):=
 h _ ((Below.refl _ _).alloc (aC _) _) (pY.made w)
theorem QH(p:Page)(a:Int)(w:World) :
  Calls Tryz.prog 140 #[.agg (gW p),.int .i64 a] w λe w'=>e = .returned (.agg (gW (aO p a)))/\Below w.heap.size w w':=by
 go_enter func140,ntmps140;go_wp2
 all_goals
  go_loopw [5] (fun i wr => ∃k:Nat,a<=k/\i = .int .i64 k/\wr=((w.alloc (.cells (gW (yF p a k)) 58)).alloc (.cells #[.int .u8 0,.int .u8 0,.int .u8 0,.int .u8 0,.int .u8 0,.int .u8 0,.int .u8 0,.int .u8 0] 58))) (fun i _=>8-(intOf i).toNat)
  case atStart=>exact⟨a.toNat,by omega,by congr 1;omega,by rw[Mr p a _ rfl]⟩
  case round=>
   obtain⟨k,h,rfl,rfl⟩:=hrel
   by_cases d:k<8
   ·have s:=JZ (yF p a k) k d;have n:(gW (yF p a k)).setIfInBounds k (.int .u8 0)=gW (yF p a (k+1)):=by rw[<-SA p a k d h];exact XD _ k d 0
    go_wp2;go_roundw
    case rel=>exact⟨k+1,by omega,by go_num,rfl⟩
    case measure=>simp[intOf];omega
   rw[Ud p a k (by omega)];obtain⟨H,G,F,E,D,C,A,z⟩:=xD (aO p a);go_wp2;simp[bodyPost,results,go_sem,results140];exact⟨rfl,((Below.refl _ _).alloc (aC _) _).alloc (by simp) _⟩
theorem byte_info:(Tryz.prog.info? 5).map (λi=>(i.zero,i.size,i.bytes))=some (some (.int .u8 0),1,1):=by kernel_rfl
theorem Zx(p:Page)(a n:Nat)(w:World)(G:a<8)(z:n<=8-a) :
  Calls Tryz.prog 155 #[.agg (gW p),.int .i64 a,.int .i64 n] w λe w' => ∃v,e = .returned v/\Own w' w.heap.size 5 1 v n (((p.toList.drop a).take n).map nD)/\Below w.heap.size w w':=by
 have k1:(n:Int)<=8-(a:Int):=by omega
 have F:(a:Int)+n<=8:=by omega
 have E:(a:Int)<=(a:Int)+n:=by omega
 have D:(0:Int)<=(a:Int)+n:=by omega
 have C:¬8=a:=by omega
 have d:=QX p a n z;go_enter func155,ntmps155
 go_wp2_with (at_builtin;go_must (refine fJ 23 rfl w.heap.size 5 (.int .u8 0) 1 1 underlying23 byte_info _ _ rfl (Own.nil _ _ _ _) (some ⟨w.heap.size,a,none⟩) (a+n-a) (8-a) (((p.toList.drop a).take n).map nD) rfl (λh=>(by cases h)) (by omega) (by rw[fE,d];omega) ?rd (WZ _) (by unfold maxLen;omega) (by omega) ?bb ?k))
 case rd=>exact aaD (aK.new w (gW p) _) a n
 case bb=>exact fe
 intro v A b c;go_wp2;go_ret;exact⟨v,rfl,by simpa using b,((Below.refl _ _).alloc (aC _) _).grown c (by simp) (λk s=>by cases s)⟩
theorem XU(p:Page)(a n:Int)(w:World)(h:a<0\/n<0\/8<a\/8-a<n) :
  Calls Tryz.prog 155 #[.agg (gW p),.int .i64 a,.int .i64 n] w λe w' => ∃v,e = .returned v/\Own w' w.heap.size 5 1 v 0 []/\Below w.heap.size w w':=by
 go_enter func155,ntmps155;go_wp2
 all_goals
  go_ret;exact⟨_,rfl,Own.nil _ _ _ _,(Below.refl _ _).alloc (aC _) _⟩
theorem YG(p:Page)(w:World) :
  Calls Tryz.prog 155 #[.agg (gW p),.int .i64 ((8:Nat):Int),.int .i64 ((0:Nat):Int)] w λe w' => ∃v,e = .returned v/\Own w' w.heap.size 5 1 v 0 (((p.toList.drop 8).take 0).map nD)/\Below w.heap.size w w':=by
 go_enter func155,ntmps155
 go_wp2_with (at_builtin;go_must (refine fJ 23 rfl w.heap.size 5 (.int .u8 0) 1 1 underlying23 byte_info _ _ rfl (Own.nil _ _ _ _) (some ⟨w.heap.size,0,none⟩) 0 0 [] rfl (λh=>(by cases h)) (aC _) rfl eD.nil (λ_ h=>(by cases h)) (by unfold maxLen;omega) (by omega) ?bb ?k))
 case bb=>exact fe
 intro v n a b;go_wp2;go_ret;exact⟨v,rfl,by simpa using a,((Below.refl _ _).alloc (aC _) _).grown b (by simp) (λk d=>by cases d)⟩
theorem JL(p:Page)(a n:Int)(w:World) :
  Calls Tryz.prog 155 #[.agg (gW p),.int .i64 a,.int .i64 n] w λe w' => ∃v,e = .returned v/\Own w' w.heap.size 5 1 v (qM p a n).length ((qM p a n).map nD)/\Below w.heap.size w w':=by
 by_cases h:a<0\/n<0\/8<a\/8-a<n
 ·have e:qM p a n=[]:=by unfold qM;rw[if_pos h]
  rw[e];exact XU p a n w h
 have e:qM p a n=(p.toList.drop a.toNat).take n.toNat:=by unfold qM;rw[if_neg h]
 rw[e];obtain⟨x,rfl⟩:=lM (show 0<=a by omega);obtain⟨z,rfl⟩:=lM (show 0<=n by omega);simp only[bu,QX p x z (by omega)]
 by_cases d:x<8
 ·exact Zx p x z w d (by omega)
 obtain rfl:x=8:=by omega
 obtain rfl:z=0:=by omega
 exact YG p w
theorem qW(n:Int)(w:World)(h:n<=9223372036854775807) :
  Calls Tryz.prog 88 #[.int .i64 n] w λe w'=>e = .returned (.int .i64 (bn n))/\w=w':=by
 by_cases d:n<=0
 ·go_enter func88,ntmps88;go_wp2;go_ret;exact⟨by simp[bn,d],rfl⟩
 go_enter func88,ntmps88;go_wp2;go_ret;exact⟨bI (by unfold bn;rw[if_neg (by omega)]),rfl⟩
theorem Od(a n:Int)(w:World) :
  Calls Tryz.prog 153 #[.int .i64 a,.int .i64 n] w λe w'=>e = .returned (.bool (sW a n))/\w=w':=by
 go_enter func153,ntmps153;go_wp2
 all_goals
  go_ret;refine⟨?_,rfl⟩;congr 2;unfold sW
  first
   | (rw[decide_eq_true (show 0<=a by assumption),decide_eq_true (show 0<=n by assumption),decide_eq_true (show n<=8 by assumption)];rfl)
   | (rw[decide_eq_true (show 0<=a by assumption),decide_eq_true (show 0<=n by assumption),decide_eq_false (show ¬n<=8 by omega)];rfl)
   | (rw[decide_eq_true (show 0<=a by assumption),decide_eq_false (show ¬0<=n by omega)];rfl)
   | (rw[decide_eq_false (show ¬0<=a by omega)];rfl)
theorem byte_size:(Tryz.prog.info? 5).map (·.size)=some 1:=by kernel_rfl
theorem ZY(p:Page)(a:Nat)(ab:Option Addr)(b:List UInt8)(c:Nat)(w:World)(C:a<8)(A:eD w ab (b.map nD)) :
  Calls Tryz.prog 154 #[.agg (gW p),.int .i64 a,.slice ab b.length c] w λe w'=>e = .returned (.agg (gW (fF p a b)))/\Below w.heap.size w w':=by
 have k1:(a:Int)<8:=by omega
 have E:(a:Int)<=8:=by omega
 have D:¬8=a:=by omega
 go_enter func154,ntmps154
 go_wp2_with (with_reducible refine Qd rfl (.tmp 14) (.tmp 15) _ _ rfl _ underlying23 byte_size w.heap.size a (8-a) (8-a) ab b.length c rfl rfl (p.toList.map nD) 58 ?c1 (b.map nD) (by simp) ?c2 ?c3 (WZ _) ?c4)
 case c1=>rw[<-Rb];exact(aK.new w _ _).alloc _
 case c2=>exact A.below (((Below.refl _ _).alloc (aC _) _).alloc (fe) _)
 case c3=>simp;omega
 intro n g d;rw[Qj p a b C]at g;have s:aK n (w.heap.size+1) #[.int .u8 0,.int .u8 0,.int .u8 0,.int .u8 0,.int .u8 0,.int .u8 0,.int .u8 0,.int .u8 0] 58:=by have:=(aK.new (w.alloc (.cells (gW p) 58)) #[.int .u8 0,.int .u8 0,.int .u8 0,.int .u8 0,.int .u8 0,.int .u8 0,.int .u8 0,.int .u8 0] 58).grown d (by simp);simpa using this
 have j:=g.cell;have h:=s.cell;have i:=s.free;have f:Below w.heap.size w n:=(((Below.refl _ _).alloc (aC _) _).alloc (fe) _).grown d (by simp;omega) (λk z=>by cases z;exact aC _);clear d;obtain⟨M,L,K,J,I,H,G,F⟩:=xD (fF p a b);go_wp2;simp[bodyPost,results,go_sem,results154,h];refine⟨rfl,?_⟩
 repeat' (refine Below.setCell ?_ (by simp) _)
 exact f
theorem YU(p:Page)(a:Int)(ab:Option Addr)(b:List UInt8)(c:Nat)(w:World)(h:a<0\/8<=a) :
  Calls Tryz.prog 154 #[.agg (gW p),.int .i64 a,.slice ab b.length c] w λe w'=>e = .returned (.agg (gW (fF p a b)))/\Below w.heap.size w w':=by
 have d:fF p a b=p:=by unfold fF;rw[if_neg (by omega)]
 rw[d];clear d;obtain⟨F,E,D,C,A,z,s,n⟩:=xD p;go_enter func154,ntmps154;go_wp2
 all_goals
  simp[bodyPost,results,go_sem,results154];exact⟨rfl,((Below.refl _ _).alloc (aC _) _).alloc (fe) _⟩
theorem QM(p:Page)(a:Int)(ab:Option Addr)(b:List UInt8)(c:Nat)(w:World)(d:eD w ab (b.map nD)) :
  Calls Tryz.prog 154 #[.agg (gW p),.int .i64 a,.slice ab b.length c] w λe w'=>e = .returned (.agg (gW (fF p a b)))/\Below w.heap.size w w':=by
 by_cases h:a<0\/8<=a
 ·exact YU p a ab b c w h
 obtain⟨x,rfl⟩:=lM (show 0<=a by omega);exact ZY p x ab b c w (by omega) d
def NQ(p:Page):List Value:=(gW p).toList
def Ky(q:Int × Page):Array Value:=#[.int .i64 q.1,.int .u8 q.2[0].toNat,.int .u8 q.2[1].toNat,.int .u8 q.2[2].toNat,.int .u8 q.2[3].toNat,.int .u8 q.2[4].toNat,.int .u8 q.2[5].toNat,.int .u8 q.2[6].toNat,.int .u8 q.2[7].toNat]
def Cn(q:Int × Page):List Value:=(Ky q).toList
theorem xh(p:Page):(NQ p).length=8:=rfl
theorem vH(q:Int × Page):(Cn q).length=9:=rfl
theorem page_info:(Tryz.prog.info? 58).map (λi=>(i.zero,i.size,i.bytes))=some (some (.agg #[.int .u8 0,.int .u8 0,.int .u8 0,.int .u8 0,.int .u8 0,.int .u8 0,.int .u8 0,.int .u8 0]),8,8):=by kernel_rfl
theorem put_info:(Tryz.prog.info? 105).map (λi=>(i.zero,i.size,i.bytes))=some (some (.agg #[.int .i64 0,.int .u8 0,.int .u8 0,.int .u8 0,.int .u8 0,.int .u8 0,.int .u8 0,.int .u8 0,.int .u8 0]),9,16):=by kernel_rfl
theorem SN(l:List Page):(l.flatMap NQ).length=l.length*8:=Pw.flat_len _ _ xh l
theorem Ux(l:List (Int × Page)):(l.flatMap Cn).length=l.length*9:=Pw.flat_len _ _ vH l
theorem Sa(l:List Page):∀u∈l.flatMap NQ,u.oneCell' = true:=by
 intro u e;obtain⟨p,_,d⟩:=jS.1 e;simp only[NQ,gW,fq,kZ,or_false]at d;rcases d with rfl|rfl|rfl|rfl|rfl|rfl|rfl|rfl<;>rfl
theorem FL(l:List (Int × Page)):∀u∈l.flatMap Cn,u.oneCell' = true:=by
 intro u e;obtain⟨p,_,d⟩:=jS.1 e;simp only[Cn,Ky,fq,kZ,or_false]at d;rcases d with rfl|rfl|rfl|rfl|rfl|rfl|rfl|rfl|rfl<;>rfl
theorem MF(l:List Page)(a:Option Addr)(c:Nat)(w:World)(s:l.length<=c)(n:a=none->c=0)(p:eD w a (l.flatMap NQ))(D:l.length*8<=140737488355328) :
  Calls Tryz.prog 103 #[.slice a l.length c] w λe w' => ∃v,e = .returned v/\Own w' w.heap.size 58 8 v l.length (l.flatMap NQ)/\Below w.heap.size w w':=by
 cases a with
 | none=>
  have E:=n rfl;have A:l=[]:=kV (by omega);subst A;subst E;have z:=λW=>nN (P:=Tryz.prog) W 35 _ none 0 0 0 0 underlying35;go_enter func103,ntmps103;go_wp2;go_ret;exact⟨_,rfl,by simpa using Own.nil _ _ _ _,Below.refl _ _⟩
 | some ad=>
  have z:=λW=>nN (P:=Tryz.prog) W 35 _ (some ad) l.length c 0 0 underlying35;go_enter func103,ntmps103
  go_wp2_with (at_builtin;go_must (refine fJ 35 rfl w.heap.size 58 (.agg #[.int .u8 0,.int .u8 0,.int .u8 0,.int .u8 0,.int .u8 0,.int .u8 0,.int .u8 0,.int .u8 0]) 8 8 underlying35 page_info 0 [] rfl ?own (some ad) l.length c (l.flatMap NQ) rfl (λh=>(by cases h)) s (SN l) ?rd (Sa l) (by unfold maxLen;omega) (by simpa using D) ?bb ?k))
  case own=>exact⟨rfl,.inr ⟨w.heap.size,0,0,#[],rfl,aC _,aK.new _ _ _,aC _,bN _,by simp,λj u h=>by simp at h⟩⟩
  case rd=>exact p.below ((Below.refl _ _).alloc (aC _) _)
  case bb=>exact fe
  intro v F b d;go_wp2;go_ret;exact⟨v,rfl,by simpa using b,((Below.refl _ _).alloc (aC _) _).grown d (fe) (λk C=>by cases C;exact aC _)⟩
theorem Ov(l:List (Int × Page))(a:Option Addr)(c:Nat)(w:World)(s:l.length<=c)(n:a=none->c=0)(p:eD w a (l.flatMap Cn))(D:l.length*16<=140737488355328) :
  Calls Tryz.prog 104 #[.slice a l.length c] w λe w' => ∃v,e = .returned v/\Own w' w.heap.size 105 9 v l.length (l.flatMap Cn)/\Below w.heap.size w w':=by
 cases a with
 | none=>
  have E:=n rfl;have A:l=[]:=kV (by omega);subst A;subst E;have z:=λW=>nN (P:=Tryz.prog) W 36 _ none 0 0 0 0 underlying36;go_enter func104,ntmps104;go_wp2;go_ret;exact⟨_,rfl,by simpa using Own.nil _ _ _ _,Below.refl _ _⟩
 | some ad=>
  have z:=λW=>nN (P:=Tryz.prog) W 36 _ (some ad) l.length c 0 0 underlying36;go_enter func104,ntmps104
  go_wp2_with (at_builtin;go_must (refine fJ 36 rfl w.heap.size 105 (.agg #[.int .i64 0,.int .u8 0,.int .u8 0,.int .u8 0,.int .u8 0,.int .u8 0,.int .u8 0,.int .u8 0,.int .u8 0]) 9 16 underlying36 put_info 0 [] rfl ?own (some ad) l.length c (l.flatMap Cn) rfl (λh=>(by cases h)) s (Ux l) ?rd (FL l) (by unfold maxLen;omega) (by simpa using D) ?bb ?k))
  case own=>exact⟨rfl,.inr ⟨w.heap.size,0,0,#[],rfl,aC _,aK.new _ _ _,aC _,bN _,by simp,λj u h=>by simp at h⟩⟩
  case rd=>exact p.below ((Below.refl _ _).alloc (aC _) _)
  case bb=>exact fe
  intro v F b d;go_wp2;go_ret;exact⟨v,rfl,by simpa using b,((Below.refl _ _).alloc (aC _) _).grown d (fe) (λk C=>by cases C;exact aC _)⟩
structure Uq (w:World) (ab:Option Addr) (cb:Nat) (aq:Option Addr) (cq:Nat) (d:qo):Prop where
 lb:d.blocks.length<=cb
 lq:d.queue.length<=cq
 mb:cb<=maxLen
 mq:cq<=maxLen
 nb:ab=none->cb=0
 nq:aq=none->cq=0
 rb:eD w ab (d.blocks.flatMap NQ)
 rq:eD w aq (d.queue.flatMap Cn)
theorem Uq.below{d:qo}(h:Uq w ab cb aq cq d)(e:Below w.heap.size w w'):Uq w' ab cb aq cq d:=
 { h with rb:=h.rb.below e,rq:=h.rq.below e }
structure kz (w:World) (B:Nat) (vb vq:Value) (d:qo):Prop where
 b:Own w B 58 8 vb d.blocks.length (d.blocks.flatMap NQ)
 q:Own w B 105 9 vq d.queue.length (d.queue.flatMap Cn)
theorem kz.below{d:qo}(h:kz w B vb vq d)(e:Below w.heap.size w w'):kz w' B vb vq d:=⟨h.b.below e,h.q.below e⟩
theorem kz.mono{d:qo}(h:kz w B vb vq d)(e:B'<=B):kz w B' vb vq d:=⟨h.b.mono e,h.q.mono e⟩
theorem kz.rd{d:qo}(h:kz w B vb vq d):∃ab cb aq cq,vb = .slice ab d.blocks.length cb/\vq = .slice aq d.queue.length cq/\Uq w ab cb aq cq d:=by
 obtain⟨ab,cb,rfl,s,p,n,e⟩:=h.b.rd;obtain⟨aq,cq,rfl,D,C,A,z⟩:=h.q.rd;exact⟨ab,cb,aq,cq,rfl,rfl,s,D,p,C,n,A,e,z⟩
theorem kz.nil(w:World)(B:Nat):kz w B (.slice none 0 0) (.slice none 0 0) ⟨[],[]⟩:=⟨Own.nil _ _ _ _,Own.nil _ _ _ _⟩
theorem Kg{l:List (Int × Page)}(h:eD w a (l.flatMap Cn))(k:Nat)(d:k<l.length):∃b off,a=some ⟨b,off,none⟩/\∀j,j<9->w.cell? ⟨b,off+k*9+j,none⟩=(Ky l[k])[j]?:=by
 obtain⟨b,off,s,p⟩:=h.elem vH (by decide) k d;refine⟨b,off,s,λj n => ?_⟩;have e:(Cn l[k])[j]?=some ((Cn l[k])[j]'(by rw[vH];exact n)):=aM _;rw[p j _ e,<-e];simp[Cn]
theorem XM{l:List Page}(h:eD w a (l.flatMap NQ))(k:Nat)(d:k<l.length):∃b off,a=some ⟨b,off,none⟩/\∀j,j<8->w.cell? ⟨b,off+k*8+j,none⟩=(gW l[k])[j]?:=by
 obtain⟨b,off,s,p⟩:=h.elem xh (by decide) k d;refine⟨b,off,s,λj n => ?_⟩;have e:(NQ l[k])[j]?=some ((NQ l[k])[j]'(by rw[xh];exact n)):=aM _;rw[p j _ e,<-e];simp[NQ]
theorem uU(d:qo)(ab:Option Addr)(cb:Nat)(aq:Option Addr)(cq:Nat)(w:World)(h:Uq w ab cb aq cq d) :
  Calls Tryz.prog 127 #[.agg #[.slice ab d.blocks.length cb,.slice aq d.queue.length cq]] w λe w'=>e = .returned (.int .i64 (bZ d))/\Below w.heap.size w w':=by
 have G:=aX h.lb h.mb;have F:=aX h.lq h.mq;unfold maxLen at G F;have j:=h.rq;unfold bZ;obtain⟨B,Q⟩:=d;simp only at *
 go_enter func127,ntmps127;have g:Below w.heap.size w (w.alloc (.cells #[.slice ab B.length cb,.slice aq Q.length cq] 38)):=(Below.refl _ _).alloc (aC _) _
 by_cases C:80<B.length\/400<Q.length
 ·rw[if_pos C];have l : (80:Int)<(B.length:Int)\/(400:Int)<(Q.length:Int):=by omega
  clear C;rcases l with C|C
  all_goals
   go_wp2
   all_goals
    go_ret;exact⟨rfl,g⟩
 rw[if_neg C];have p:¬(80:Int)<(B.length:Int):=by omega
 have n:¬(400:Int)<(Q.length:Int):=by omega
 clear C;go_wp2
 go_loopw [18] (fun i wr => ∃k:Nat,k<=Q.length/\i = .int .i64 k/\Below w.heap.size w wr/\aK wr w.heap.size #[.slice ab B.length cb,.slice aq Q.length cq] 38/\∀i (h:i<Q.length),i<k->Ga B.length Q[i]=false) (fun i _=>Q.length-(intOf i).toNat)
 case atStart=>exact⟨0,bN _,rfl,g,aK.new _ _ _,λi _ h=>absurd h (ig _)⟩
 case round=>
  obtain⟨k,R,rfl,a,c,E⟩:=hrel
  by_cases A:k<Q.length
  ·obtain⟨b,off,rfl,z⟩:=Kg (j.below a) k A;have c0:=z 0 (by decide);have c1:=z 1 (by decide);have c2:=z 2 (by decide);have c3:=z 3 (by decide);have c4:=z 4 (by decide);have M:=z 5 (by decide);have L:=z 6 (by decide);have K:=z 7 (by decide);have J:=z 8 (by decide);simp only[Ky,Bb,pK,AA,mG]at c0 c1 c2 c3 c4 M L K J;clear z;have m:=λo=>(c.alloc o).cell
   by_cases s:Q[k].1<0\/(B.length:Int)<=Q[k].1
   ·have f:Ga B.length Q[k]=true:=by simpa[Ga]using s
    have D:Q.any (Ga B.length)=true:=kW.2 ⟨_,fA A,f⟩;rcases s with s|s
    all_goals
     go_wp2
     all_goals
      go_ret;exact⟨by simp[D],a.alloc a.size _⟩
   have O:¬Q[k].1<0:=by omega
   have N:¬(B.length:Int)<=Q[k].1:=by omega
   have f:Ga B.length Q[k]=false:=by simp[Ga];omega
   clear s;go_wp2;go_roundw
   case rel=>exact⟨k+1,by omega,by go_num,a.alloc a.size _,c.alloc _,oO E A f⟩
   case measure=>simp[intOf];omega
  have D:Q.any (Ga B.length)=false:=by rw[xK];intro x H;obtain⟨i,I,rfl⟩:=jK.1 H;simp[E i I (by omega)]
  go_wp2
  all_goals
   go_ret;exact⟨by simp[D],a⟩
theorem kz.keep{d:qo}(h:kz w B vb vq d)(n:aK w g cs T)(s:T≠58)(p:T≠105)(e:w.grownBy w' (some g)):kz w' B vb vq d:=
 ⟨aA h.b n (p:=s) e,aA h.q n (p:=p) e⟩
def zH(B:Nat)(d:qo):oW:=⟨λv w => ∃vb vq,v = .agg #[vb,vq]/\kz w B vb vq d,λ_ _ _ hb ⟨vb,vq,h1,h2⟩=>⟨vb,vq,h1,h2.below hb⟩⟩
theorem psize:(Tryz.prog.info? 58).map (·.size)=some 8:=by kernel_rfl
theorem zz_fit:(#[.int .u8 0,.int .u8 0,.int .u8 0,.int .u8 0,.int .u8 0,.int .u8 0,.int .u8 0,.int .u8 0]:Array Value).size=(#[.int .u8 0,.int .u8 0,.int .u8 0,.int .u8 0,.int .u8 0,.int .u8 0,.int .u8 0,.int .u8 0]:Array Value).size:=rfl
theorem zz_one:(#[.int .u8 0,.int .u8 0,.int .u8 0,.int .u8 0,.int .u8 0,.int .u8 0,.int .u8 0,.int .u8 0]:Array Value).all (·.oneCell')=true:=by simp[Value.oneCell']
theorem zz_info:(Tryz.prog.info? 58).map (·.size)=some (#[.int .u8 0,.int .u8 0,.int .u8 0,.int .u8 0,.int .u8 0,.int .u8 0,.int .u8 0,.int .u8 0]:Array Value).size:=psize
theorem VW(p:Page):(gW p).size=(#[.int .u8 0,.int .u8 0,.int .u8 0,.int .u8 0,.int .u8 0,.int .u8 0,.int .u8 0,.int .u8 0]:Array Value).size:=rfl
theorem EB(p:Page):(Tryz.prog.info? 58).map (·.size)=some (gW p).size:=psize
theorem disk_size:(Tryz.prog.info? 38).map (·.size)=some 2:=by kernel_rfl
theorem eF0{ρ:Operand->Value}{a0:Act}{p:Operand->Prop}(h:∀x,p x->ρ x=a0.eval x)(q:∀f,p (.func f)):∀f,ρ (.func f) = .func (.func f) #[] #[]:=λf=>h _ (q f)
theorem oG0{B b:Nat}(h:B<=b:=by omega):∀k,some b=some k->B<=k:=λ_ e=>by cases e;exact h
theorem BP(d:qo)(ab:Option Addr)(cb:Nat)(aq:Option Addr)(cq:Nat)(w:World)(h:Uq w ab cb aq cq d)(H:d.blocks.length*8<=140737488355328:=by omega)(E:d.queue.length*16<=140737488355328:=by omega) :
  Calls Tryz.prog 59 #[.agg #[.slice ab d.blocks.length cb,.slice aq d.queue.length cq]] w λe w' => ∃vb vq,e = .returned (.agg #[vb,vq])/\kz w' w.heap.size vb vq d/\Below w.heap.size w w':=by
 go_enter func59,ntmps59;go_upto_region 1 with(fail);have a:Below w.heap.size w ((w.alloc (.cells #[.slice ab d.blocks.length cb,.slice aq d.queue.length cq] 38)).alloc (.cells #[.slice none 0 0,.slice none 0 0] 38)):=((Below.refl _ _).alloc (aC _) _).alloc (fe) _;have j:aK ((w.alloc (.cells #[.slice ab d.blocks.length cb,.slice aq d.queue.length cq] 38)).alloc (.cells #[.slice none 0 0,.slice none 0 0] 38)) w.heap.size #[.slice ab d.blocks.length cb,.slice aq d.queue.length cq] 38:=(aK.new _ _ _).alloc _;have i:aK ((w.alloc (.cells #[.slice ab d.blocks.length cb,.slice aq d.queue.length cq] 38)).alloc (.cells #[.slice none 0 0,.slice none 0 0] 38)) (w.heap.size+1) #[.slice none 0 0,.slice none 0 0] 38:=by simpa using aK.new (w.alloc (.cells #[.slice ab d.blocks.length cb,.slice aq d.queue.length cq] 38)) _ _
 have D:=h.below a;refine aR 7 [_,_,.r 2 ((il w.heap.size 58 8 d.blocks.length (d.blocks.flatMap NQ))),_,_,.r 5 ((il w.heap.size 105 9 d.queue.length (d.queue.flatMap Cn))),.r 6 ((zH w.heap.size d))] (Gf w.heap.size 0 rfl rfl (Gl j (V:=.slice ab d.blocks.length cb) (by simp[underlying35]) rfl rfl rfl rfl (aj ?_ (Gf w.heap.size 1 rfl rfl (Gl j (V:=.slice aq d.queue.length cq) (by simp[underlying36]) rfl rfl rfl rfl (aj ?_ (aj ?_ (aH)))))))) (λ_=>rfl) rfl ?_
 ·intro ρ y W s G C A;have E4:=s 4 1 rfl;have U:y 1=_:=A 1 rfl;have F:=eF0 G λ_=>trivial;refine aL (aW rfl (F _) func103 (by simp only[bU,bM,bP,E4,U,F];rfl)) ?_;refine(MF d.blocks ab cb W D.lb D.nb (D.below C).rb H).mono ?_;rintro e N ⟨v,rfl,z,m⟩;exact⟨v,rfl,m,z.mono (aX a.size C.size)⟩
 ·intro ρ y W s G C A;have E7:=s 7 4 rfl;have S:y 4=_:=A 4 rfl;have F:=eF0 G λ_=>trivial;refine aL (aW rfl (F _) func104 (by simp only[bU,bM,bP,E7,S,F];rfl)) ?_;refine(Ov d.queue aq cq W D.lq D.nq (D.below C).rq E).mono ?_;rintro e N ⟨v,rfl,z,m⟩;exact⟨v,rfl,m,z.mono (aX a.size C.size)⟩
 ·intro ρ y W s G C A;have E5:=s 5 2 rfl;have K:=A 2 rfl;have E8:=s 8 5 rfl;have J:=A 5 rfl;obtain⟨x2,c2,Y,_⟩:=Own.rd K;obtain⟨x5,c5,X,_⟩:=Own.rd J;refine ak (.agg #[y 2,y 5]) (by simp[execOp,go_sem,E5,E8,Y,X]) (m:=?_);exact⟨_,_,rfl,K,J⟩
 intro y I g b;have q:((il w.heap.size 58 8 d.blocks.length (d.blocks.flatMap NQ))).r (y 2) I:=b 2 (by decide);have p:((il w.heap.size 105 9 d.queue.length (d.queue.flatMap Cn))).r (y 5) I:=b 5 (by decide);have o:((zH w.heap.size d)).r (y 6) I:=b 6 (by decide);clear b;obtain⟨vb,vq,L,z⟩:=o;rw[L];clear q p L;have c:=ah a g;obtain⟨xb,cb',xq,Z,rfl,rfl,_⟩:=z.rd;refine ax (.tmp 2) (.tmp 9) (w.heap.size+1) _ (i.ext g) disk_size (G:=(by simp[Value.oneCell'])) ?_;intro M O n;have l:Below w.heap.size w M:=c.grown n c.size oG0;have R:=O.cell;go_wp2;simp[bodyPost,results,go_sem,results59,R];exact⟨_,_,⟨rfl,rfl⟩,z.keep (i.ext g) (by decide) (by decide) n,l⟩
theorem zPg_cells:gW zPg=#[.int .u8 0,.int .u8 0,.int .u8 0,.int .u8 0,.int .u8 0,.int .u8 0,.int .u8 0,.int .u8 0]:=rfl
theorem Ji(d:qo)(k:Int)(ab:Option Addr)(cb:Nat)(aq:Option Addr)(cq:Nat)(w:World)(h:Uq w ab cb aq cq d) :
  Calls Tryz.prog 89 #[.agg #[.slice ab d.blocks.length cb,.slice aq d.queue.length cq],.int .i64 k] w λe w'=>e = .returned (.tuple #[.agg (gW (dN d k)),.int .i64 (aI d k)])/\Below w.heap.size w w':=by
 go_enter func89,ntmps89
 go_wp2_with fail
 have v:Below w.heap.size w ((w.alloc (.cells #[.slice ab d.blocks.length cb,.slice aq d.queue.length cq] 38)).alloc (.cells #[.int .u8 0,.int .u8 0,.int .u8 0,.int .u8 0,.int .u8 0,.int .u8 0,.int .u8 0,.int .u8 0] 58)):=((Below.refl _ _).alloc (aC _) _).alloc (fe) _;have s:aK ((w.alloc (.cells #[.slice ab d.blocks.length cb,.slice aq d.queue.length cq] 38)).alloc (.cells #[.int .u8 0,.int .u8 0,.int .u8 0,.int .u8 0,.int .u8 0,.int .u8 0,.int .u8 0,.int .u8 0] 58)) w.heap.size #[.slice ab d.blocks.length cb,.slice aq d.queue.length cq] 38:=(aK.new _ _ _).alloc _;have r:aK ((w.alloc (.cells #[.slice ab d.blocks.length cb,.slice aq d.queue.length cq] 38)).alloc (.cells #[.int .u8 0,.int .u8 0,.int .u8 0,.int .u8 0,.int .u8 0,.int .u8 0,.int .u8 0,.int .u8 0] 58)) (w.heap.size+1) #[.int .u8 0,.int .u8 0,.int .u8 0,.int .u8 0,.int .u8 0,.int .u8 0,.int .u8 0,.int .u8 0] 58:=by simpa using aK.new (w.alloc (.cells #[.slice ab d.blocks.length cb,.slice aq d.queue.length cq] 38)) _ _
 refine(uU d ab cb aq cq _ (h.below v)).mono ?_;rintro e w1 ⟨rfl,t⟩;have a:=ah v t;have u:=s.ext t;have f:=r.ext t;have H:=h.below a;clear s r t v h;have ha:=H.rq;have z:=H.rb;have lq:=aX H.lq H.mq;unfold maxLen at lq;have hl:=u.cell
 by_cases F:bZ d=0
 ·rw[F]
  by_cases E:k<0\/(d.blocks.length:Int)<=k
  ·have C:aI d k=3:=by unfold aI;rw[if_neg (by omega),if_pos E]
   have D:gW (dN d k)=#[.int .u8 0,.int .u8 0,.int .u8 0,.int .u8 0,.int .u8 0,.int .u8 0,.int .u8 0,.int .u8 0]:=by unfold dN;rw[C];rfl
   rcases E with E|E
   all_goals
    go_wp2_with (refine ax (.tmp 4) (.tmp 23) (w.heap.size+1) #[.int .u8 0,.int .u8 0,.int .u8 0,.int .u8 0,.int .u8 0,.int .u8 0,.int .u8 0,.int .u8 0] f (m:=zz_fit) zz_info (G:=zz_one) ?_)
    all_goals
     intro J j o;have c:=a.grown o a.size oG0;have p:=j.cell;go_wp2;simp[bodyPost,results,go_sem,results89,p,C,D];exact c
  obtain⟨k,rfl⟩:=lM (show 0<=k by omega);have y:k<d.blocks.length:=by omega
  have k1:¬(d.blocks.length:Int)<=(k:Int):=by omega
  have C:aI d k=0:=by unfold aI;rw[if_neg (by omega),if_neg E]
  have D:dN d k=over k d.blocks[k] d.queue:=by unfold dN;rw[C,if_pos rfl];simp[y]
  clear E;have I:=ae D;clear D;have hd:decide (d.blocks.length<=k)=false:=by simp;omega
  go_wp2
  go_loopw [7] (fun i wr => ∃n:Int,-1<=n/\n<d.queue.length/\i = .int .i64 n/\wr=w1/\Hid (over k d.blocks[k] (d.queue.take (n+1).toNat)=over k d.blocks[k] d.queue)) (fun i _=>(intOf i+1).toNat)
  case atStart=>exact⟨(d.queue.length:Int)-1,by omega,by omega,rfl,rfl,ae (by rw[show((d.queue.length:Int)-1+1).toNat=d.queue.length from by omega,zk])⟩
  case round=>
   obtain⟨n,hj,hi,rfl,rfl,l⟩:=hrel
   by_cases Z:n<0
   ·have:n = -1:=by omega
    subst this;obtain⟨b,off,rfl,A⟩:=XM z k y;have c0:=A 0 (by decide);have c1:=A 1 (by decide);have c2:=A 2 (by decide);have c3:=A 3 (by decide);have c4:=A 4 (by decide);have Y:=A 5 (by decide);have X:=A 6 (by decide);have W:=A 7 (by decide);simp only[gW,Bb,pK,AA,mG]at c0 c1 c2 c3 c4 Y X W;clear A;have g:dN d k=d.blocks[k]:=by rw[I.out,<-l.out];rfl
    clear I l
    go_wp2_with (refine ax (.tmp 4) (.tmp 50) (w.heap.size+1) (gW d.blocks[k]) f (m:=VW _) (EB _) (G:=pX _) ?_)
    intro J j o;have c:=a.grown o a.size oG0;have p:=j.cell;obtain⟨U,S,R,O,N,M,L,K⟩:=xD d.blocks[k];go_wp2;simp[bodyPost,results,go_sem,results89,p,U,S,R,O,N,M,L,K,C,g];exact⟨rfl,c⟩
   obtain⟨m,rfl⟩:=lM (show 0<=n by omega);have hm:m<d.queue.length:=by omega
   obtain⟨b,off,rfl,A⟩:=Kg ha m hm;have c0:=A 0 (by decide);have c1:=A 1 (by decide);have c2:=A 2 (by decide);have c3:=A 3 (by decide);have c4:=A 4 (by decide);have Y:=A 5 (by decide);have X:=A 6 (by decide);have W:=A 7 (by decide);have c8:=A 8 (by decide);simp only[Ky,Bb,pK,AA,mG]at c0 c1 c2 c3 c4 Y X W c8;clear A;have x:=Sz (k:Int) d.blocks[k] d.queue m hm;rw[show((m:Int)+1).toNat=m+1 from by omega]at l;have q:=ae (x.symm.trans l.out);clear l x;have hb : ¬((m:Int)<0):=by omega
   by_cases G:d.queue[m].1=(k:Int)
   ·have g:dN d k=d.queue[m].2:=by rw[I.out,<-q.out,if_pos G]
    rw[G]at c0;clear I q;have hf:gW d.queue[m].2=#[.int .u8 d.queue[m].2[0].toNat,.int .u8 d.queue[m].2[1].toNat,.int .u8 d.queue[m].2[2].toNat,.int .u8 d.queue[m].2[3].toNat,.int .u8 d.queue[m].2[4].toNat,.int .u8 d.queue[m].2[5].toNat,.int .u8 d.queue[m].2[6].toNat,.int .u8 d.queue[m].2[7].toNat]:=rfl
    go_wp2_with (refine ax (.tmp 4) (.tmp 45) (w.heap.size+1) (gW d.queue[m].2) f (m:=VW _) (EB _) (G:=pX _) ?_)
    intro J j o;have c:=a.grown o a.size oG0;have p:=j.cell;obtain⟨U,S,R,O,N,M,L,K⟩:=xD d.queue[m].2;go_wp2;simp[bodyPost,results,go_sem,results89,p,U,S,R,O,N,M,L,K,C,g];exact⟨rfl,c⟩
   have hh:(d.queue[m].1==(k:Int))=false:=by simpa using G
   have l:Hid (over k d.blocks[k] (d.queue.take m)=over k d.blocks[k] d.queue):=by have:=q.out;rw[if_neg G]at this;exact this
   clear q;go_wp2;go_roundw
   case rel=>exact⟨(m:Int)-1,by omega,by omega,by go_num,trivial,by rw[show((m:Int)-1+1).toNat=m from by omega];exact l⟩
   case measure=>simp[intOf]
 have C:aI d k=bZ d:=by unfold aI;rw[if_pos F]
 have D:gW (dN d k)=#[.int .u8 0,.int .u8 0,.int .u8 0,.int .u8 0,.int .u8 0,.int .u8 0,.int .u8 0,.int .u8 0]:=by unfold dN;rw[C,if_neg F];rfl
 have hg : (bZ d != 0)=true:=by simpa using F
 go_wp2_with (refine ax (.tmp 4) (.tmp 12) (w.heap.size+1) #[.int .u8 0,.int .u8 0,.int .u8 0,.int .u8 0,.int .u8 0,.int .u8 0,.int .u8 0,.int .u8 0] f (m:=zz_fit) zz_info (G:=zz_one) ?_)
 intro J j o;have c:=a.grown o a.size oG0;have p:=j.cell;go_wp2;simp[bodyPost,results,go_sem,results89,p,C,D];exact c
theorem BC(a b c d:Value):(#[a,b]:Array Value).size=(#[c,d]:Array Value).size:=rfl
theorem zB(a b:Value):(Tryz.prog.info? 38).map (·.size)=some (#[a,b]:Array Value).size:=disk_size
theorem Fy(d:qo)(k:Int)(p:Page)(ab:Option Addr)(cb:Nat)(aq:Option Addr)(cq:Nat)(w:World)(h:Uq w ab cb aq cq d) :
  Calls Tryz.prog 193 #[.agg #[.slice ab d.blocks.length cb,.slice aq d.queue.length cq],.int .i64 k,.agg (gW p)] w λe w' => ∃vb vq,e = .returned (.tuple #[.agg #[vb,vq],.int .i64 (aI d k)])/\kz w' w.heap.size vb vq (dW d k p)/\Below w.heap.size w w':=by
 go_enter func193,ntmps193
 go_wp2_with fail
 refine SX (λW=>Calls _ _ _ W _) λW0 hT hy hJ hs h7 => ?_;refine(uU d ab cb aq cq _ (h.below hT)).mono ?_;rintro e w1 ⟨rfl,Y⟩;have f:=ah hT Y;have hx:=hy.ext Y;have hI:=hJ.ext Y;have m:=hs.ext Y;have h1:=h.below f;clear hy hJ hs Y hT h h7;have kb:=hx.cell
 by_cases S:bZ d=0
 ·rw[S];obtain⟨l80,l400⟩:=CO S
  by_cases O:k<0\/(d.blocks.length:Int)<=k
  ·have J:aI d k=3:=by unfold aI;rw[if_neg (by omega),if_pos O]
   have M:dW d k p=⟨[],[]⟩:=by unfold dW;rw[if_neg (by omega)]
   rcases O with O|O
   all_goals
    go_wp2_with (refine ax (.tmp 6) (.tmp 26) (w.heap.size+2) #[.slice none 0 0,.slice none 0 0] m disk_size (G:=(ow)) ?_)
    all_goals
     intro D hN l;have z:=f.grown l f.size oG0;have L:=hN.cell;go_wp2;simp[bodyPost,results,go_sem,results193,L,J];exact⟨_,_,⟨rfl,rfl⟩,by rw[M];exact kz.nil _ _,z⟩
  obtain⟨k,rfl⟩:=lM (show 0<=k by omega);have kk:k<d.blocks.length:=by omega
  have k1:¬(d.blocks.length:Int)<=(k:Int):=by omega
  have J:aI d k=0:=by unfold aI;rw[if_neg (by omega),if_neg O]
  have M:dW d k p=jR d (k,p):=by unfold dW;rw[if_pos J]
  have Q2:=ae M;clear O M
  go_wp2_with fail
  refine(BP d ab cb aq cq _ h1).mono ?_;rintro e D ⟨vb,vq,rfl,ho,Z⟩;have z:=ah f Z;have hH:=hI.ext Z;have hr:=m.ext Z;have kg:w.heap.size+3<=w1.heap.size:=by have:=m.lt;omega
  have hY:w.heap.size+3<=D.heap.size:=aX (show w.heap.size+3<=w1.heap.size by have:=m.lt;omega) Z.size;clear hx hI m Z h1 kb;obtain⟨xb,cb',xq,C,rfl,rfl,hE⟩:=ho.rd;have kj:=hE.lq;go_upto_region 7 with(fail);refine iP (λW=>Code.wp _ _ _ _ W) λw3 hA r h6 => ?_;have H:=ho.below hA;have i:=ah z hA;have hj:=hH.ext hA;have hb:=hr.ext hA;have kf:w.heap.size+3<=D.heap.size:=hY;clear ho hE hH hr hA;have ke:D.heap.size<w3.heap.size:=by omega
  clear h6;have F:=r.cell
  by_cases h4:d.queue.length=400
  ·have Q3:=ae (Tg d ((k:Int),p) h4);have kc : ((d.queue.length:Int)==400)=true:=by rw[h4];rfl
   have hO:0<d.queue.length:=by omega
   obtain⟨hK,hV⟩:=Jl S 0 hO;generalize hq0:d.queue[0]=q0 at *
   obtain⟨i0,hX⟩:=lM hK;have hW : i0<d.blocks.length:=by omega
   obtain⟨I,A,capq,curq,h3,kn,h8,kl,x,hL⟩:=H.q.put vH (by decide) 0 hO;obtain⟨gb,G,capb,curb,h5,ko,X,km,ka,hn⟩:=H.b.put xh (by decide) i0 hW;cases h3;cases h5;rw[hq0]at x;have c0:=x 0 _ rfl;have c1:=x 1 _ rfl;have c2:=x 2 _ rfl;have c3:=x 3 _ rfl;have c4:=x 4 _ rfl;have c5:=x 5 _ rfl;have c6:=x 6 _ rfl;have c7:=x 7 _ rfl;have c8:=x 8 _ rfl;simp only[Nat.zero_mul,mG,hX]at c0 c1 c2 c3 c4 c5 c6 c7 c8;have n1:(0:Int)<(d.queue.length:Int):=by omega
   have n2:(i0:Int)<(d.blocks.length:Int):=by omega
   have h9:=λo=>(r.alloc o).cell;clear x ka hL hK hV
   go_wp2_with (refine fV (.tmp 43) (.tmp 42) gb (G+i0*8) (gW q0.2) curb 58 (X.alloc _) (by rw[FP];omega) (EB _) (pX _) ?_)
   intro w5 N a;have h2:=hn w5 q0.2 N;have hZ:=aA (H.q.alloc _) (X.alloc _) a;have n:=aG (r.alloc _) (X.alloc _) a;have hq:=aG (hb.alloc _) (X.alloc _) a;have hG:=(hj.alloc _).grown a (by intro he;cases he;omega);have hf:Below w.heap.size w w5:=(i.alloc i.size _).grown a (eO i.size) oG0;clear N a hn X h9 r hb hj H c0 c1 c2 c3 c4 c5 c6 c7 c8 i F h8;have F:=n.cell;have U:=n.free;have kh:¬C = 1:=by omega
   go_upto_region 11 with(fail);have hl:(d.queue.drop 1).length=399:=by simp;omega
   have hD:=(hZ.drop vH 1 hO).mono f.size;rw[hl,Nat.one_mul]at hD;have hU:=tK hD n 1 (.slice (some ⟨I,A+9,none⟩) 399 (C - 1));have h0:=tK (h2.mono f.size) n 1 (.slice (some ⟨I,A+9,none⟩) 399 (C - 1));have hc:=n.setCell 1 (.slice (some ⟨I,A+9,none⟩) 399 (C - 1));have hp:=hq.setCell_other ⟨D.heap.size,1,none⟩ (.slice (some ⟨I,A+9,none⟩) 399 (C - 1)) (by simp;omega);have hF:=hG.setCell_other ⟨D.heap.size,1,none⟩ (.slice (some ⟨I,A+9,none⟩) 399 (C - 1)) (by simp;omega);have hd:Below w.heap.size w (w5.setCell ⟨D.heap.size,1,none⟩ (.slice (some ⟨I,A+9,none⟩) 399 (C - 1))):=hf.setCell (by simp;omega) _;have kd:D.heap.size<(w5.setCell ⟨D.heap.size,1,none⟩ (.slice (some ⟨I,A+9,none⟩) 399 (C - 1))).heap.size:=hc.lt;clear hZ hD h2 n hq hG hf U F;generalize w5.setCell ⟨D.heap.size,1,none⟩ (.slice (some ⟨I,A+9,none⟩) 399 (C - 1))=w6 at *
   have F:=hc.cell;have hQ:=hF.cell;obtain⟨e0,e1,e2,e3,e4,e5,e6,e7⟩:=xD p;have hP : #[Value.int .u8 p[0].toNat,Value.int .u8 p[1].toNat,Value.int .u8 p[2].toNat,Value.int .u8 p[3].toNat,Value.int .u8 p[4].toNat,Value.int .u8 p[5].toNat,Value.int .u8 p[6].toNat,Value.int .u8 p[7].toNat]=gW p:=rfl;clear hP
   go_wp2_with (at_builtin;(refine fJ 36 rfl w.heap.size 105 _ 9 16 underlying36 put_info 399 ((d.queue.drop 1).flatMap Cn) rfl ?own (some ⟨w6.heap.size,0,none⟩) 1 1 (Cn ((k:Int),p)) rfl (λh=>(by cases h)) (aC _) rfl ?rd (λu hu=>FL [((k:Int),p)] u (by simpa using hu)) (by unfold maxLen;omega) (by omega) ?bb ?app))
   case own=>exact hU.alloc _
   case rd=>exact eD.new _ (Ky ((k:Int),p)) _
   case bb=>exact eO hd.size
   intro v w4 t l;have s:=hU.alloc (.cells #[.int .i64 k,.int .u8 p[0].toNat,.int .u8 p[1].toNat,.int .u8 p[2].toNat,.int .u8 p[3].toNat,.int .u8 p[4].toNat,.int .u8 p[5].toNat,.int .u8 p[6].toNat,.int .u8 p[7].toNat] 105);have R:=xe (h0.alloc _) s l;have c:=kS (hc.alloc _) s (by decide) l;have j:=kS (hp.alloc _) s (by decide) l;have y:Below w.heap.size w w4:=(hd.alloc hd.size _).grown l (eO hd.size) s.ge;obtain⟨E,c4,rfl,_⟩:=t.rd;clear e0 e1 e2 e3 e4 e5 e6 e7 hQ l s h0 hU hc hp hF F;have F:=c.cell;have U:=c.free
   go_wp2_with (refine ax (.tmp 6) (.tmp 56) (w.heap.size+2) #[.slice (some ⟨gb,G,none⟩) d.blocks.length cb',.slice E (399+1) c4] (j.setCell_other _ _ (by simp;omega)) (m:=BC _ _ _ _) (zB _ _) (G:=(ow)) ?_)
   intro w7 hM a;have g:=j.setCell_other ⟨D.heap.size,1,none⟩ (.slice E (399+1) c4) (by simp;omega);have hS:=aA (tK R c 1 (.slice E (399+1) c4)) g a;have N:=aA (tK t c 1 (.slice E (399+1) c4)) g a;have K:Below w.heap.size w (w4.setCell ⟨D.heap.size,1,none⟩ (.slice E (399+1) c4)):=y.setCell (by simp;omega) _;have hR:Below w.heap.size w w7:=K.grown a K.size oG0;have L:=hM.cell;clear R t c j g a y K F U;go_wp2;simp[bodyPost,results,go_sem,results193,L,J];refine⟨_,_,⟨rfl,rfl⟩,?_,hR⟩;rw[Q2.out,Q3.out];rw[hX,bu];have e9:(d.queue.drop 1++[((k:Int),p)]).length=399+1:=by simp;omega
   exact⟨by rw[bV];exact hS,by rw[e9,iq];simpa using N⟩
  have Q3:=ae (Ul d ((k:Int),p) h4);have kc : ((d.queue.length:Int)==400)=false:=by simp;omega
  have hQ:=hj.cell;obtain⟨e0,e1,e2,e3,e4,e5,e6,e7⟩:=xD p;have hP : #[Value.int .u8 p[0].toNat,Value.int .u8 p[1].toNat,Value.int .u8 p[2].toNat,Value.int .u8 p[3].toNat,Value.int .u8 p[4].toNat,Value.int .u8 p[5].toNat,Value.int .u8 p[6].toNat,Value.int .u8 p[7].toNat]=gW p:=rfl;clear hP
  go_wp2_with (at_builtin;(refine fJ 36 rfl w.heap.size 105 _ 9 16 underlying36 put_info d.queue.length (d.queue.flatMap Cn) rfl ?own2 (some ⟨w3.heap.size,0,none⟩) 1 1 (Cn ((k:Int),p)) rfl (λh=>(by cases h)) (aC _) rfl ?rd2 (λu hu=>FL [((k:Int),p)] u (by simpa using hu)) (by unfold maxLen;omega) (by omega) ?bb2 ?app2))
  case own2=>exact(H.q.mono f.size).alloc _
  case rd2=>exact eD.new _ (Ky ((k:Int),p)) _
  case bb2=>exact eO i.size
  intro v w4 t l;have s:=(H.q.mono f.size).alloc (.cells #[.int .i64 k,.int .u8 p[0].toNat,.int .u8 p[1].toNat,.int .u8 p[2].toNat,.int .u8 p[3].toNat,.int .u8 p[4].toNat,.int .u8 p[5].toNat,.int .u8 p[6].toNat,.int .u8 p[7].toNat] 105);have R:=xe ((H.b.mono f.size).alloc _) s l;have c:=kS (r.alloc _) s (by decide) l;have j:=kS (hb.alloc _) s (by decide) l;have y:Below w.heap.size w w4:=(i.alloc i.size _).grown l (eO i.size) s.ge;obtain⟨E,c4,rfl,_⟩:=t.rd;clear e0 e1 e2 e3 e4 e5 e6 e7 hQ l s H r hb hj F;have F:=c.cell;have U:=c.free
  go_wp2_with (refine ax (.tmp 6) (.tmp 56) (w.heap.size+2) #[.slice xb d.blocks.length cb',.slice E (d.queue.length+1) c4] (j.setCell_other _ _ (by simp;omega)) (m:=BC _ _ _ _) (zB _ _) (G:=(ow)) ?_)
  intro w5 hM a;have g:=j.setCell_other ⟨D.heap.size,1,none⟩ (.slice E (d.queue.length+1) c4) (by simp;omega);have hS:=aA (tK R c 1 (.slice E (d.queue.length+1) c4)) g a;have N:=aA (tK t c 1 (.slice E (d.queue.length+1) c4)) g a;have K:Below w.heap.size w (w4.setCell ⟨D.heap.size,1,none⟩ (.slice E (d.queue.length+1) c4)):=y.setCell (by simp;omega) _;have hf:Below w.heap.size w w5:=K.grown a K.size oG0;have L:=hM.cell;clear R t c j g a y K F U;go_wp2;simp[bodyPost,results,go_sem,results193,L,J];refine⟨_,_,⟨rfl,rfl⟩,?_,hf⟩;rw[Q2.out,Q3.out];exact⟨hS,by simpa[iq]using N⟩
 have J:aI d k=bZ d:=by unfold aI;rw[if_pos S]
 have M:dW d k p=⟨[],[]⟩:=by unfold dW;rw[if_neg (by omega)]
 have ki : (bZ d != 0)=true:=by simpa using S
 go_wp2_with (refine ax (.tmp 6) (.tmp 15) (w.heap.size+2) #[.slice none 0 0,.slice none 0 0] m disk_size (G:=(ow)) ?_)
 intro D hN l;have z:=f.grown l f.size oG0;have L:=hN.cell;go_wp2;simp[bodyPost,results,go_sem,results193,L,J];exact⟨_,_,⟨rfl,rfl⟩,by rw[M];exact kz.nil _ _,z⟩
theorem LC(n:Int)(w:World) :
  Calls Tryz.prog 71 #[.int .i64 n] w λe w' => ∃vb vq,e = .returned (.tuple #[.agg #[vb,vq],.int .i64 (QQ n)])/\kz w' w.heap.size vb vq (wU n)/\Below w.heap.size w w':=by
 have d:=aK.new w #[.slice none 0 0,.slice none 0 0] 38;have b:Below w.heap.size w (w.alloc (.cells #[.slice none 0 0,.slice none 0 0] 38)):=(Below.refl _ _).alloc (aC _) _;unfold wU QQ
 by_cases h:0<=n/\n<=80
 ·obtain⟨m,rfl⟩:=lM h.1;have F:(m:Int)<=80:=h.2;rw[if_pos h,if_pos h];go_enter func71,ntmps71
  go_wp2_with (refine zD _ rfl (.tmp 11) (.tmp 11) 35 rfl NQ 58 _ 8 8 zPg xh underlying35 page_info rfl .i64 .i64 m m m rfl rfl rfl rfl (by unfold maxLen;omega) ?_)
  intro z A f;have c:=d.grown f (by intro C;cases C);have a:=b.grown f b.size (λk s=>by cases s)
  go_wp2_with (refine ax (.tmp 2) (.tmp 13) w.heap.size #[.slice (some ⟨w.heap.size+1,0,none⟩) m m,.slice none 0 0] c (m:=BC _ _ _ _) (zB _ _) (G:=(ow)) ?_)
  intro E l g;have p:=aA A c g;have j:=a.grown g a.size (λk s=>by cases s;exact aC _);have i:=l.cell;go_wp2;simp[bodyPost,results,go_sem,results71,i];exact⟨_,_,⟨rfl,rfl⟩,⟨by simpa using p.mono (KC _),Own.nil _ _ _ _⟩,j⟩
 rw[if_neg h,if_neg h];have D : n<0\/80<n:=by omega
 clear h;rcases D with h|h
 all_goals
  go_enter func71,ntmps71
  go_wp2_with (refine ax (.tmp 2) (.tmp 10) w.heap.size #[.slice none 0 0,.slice none 0 0] d disk_size (G:=(ow)) ?_)
  all_goals
   intro z o f;have a:=b.grown f b.size (λk s=>by cases s;exact aC _);have i:=o.cell;go_wp2;simp[bodyPost,results,go_sem,results71,i];exact⟨_,_,⟨rfl,rfl⟩,kz.nil _ _,a⟩
theorem eqP(p q:Page)(W:World):(Op.equalIn 10000 58 (.agg #[.int .u8 p[0].toNat,.int .u8 p[1].toNat,.int .u8 p[2].toNat,.int .u8 p[3].toNat,.int .u8 p[4].toNat,.int .u8 p[5].toNat,.int .u8 p[6].toNat,.int .u8 p[7].toNat]) (.agg #[.int .u8 q[0].toNat,.int .u8 q[1].toNat,.int .u8 q[2].toNat,.int .u8 q[3].toNat,.int .u8 q[4].toNat,.int .u8 q[5].toNat,.int .u8 q[6].toNat,.int .u8 q[7].toNat])).run Tryz.prog W = .ok (p==q) W:=
 LP W 9998 _ _ underlying58 underlying5 byte_size p q
theorem JK(p:Page):gW p=#[.int .u8 p[0].toNat,.int .u8 p[1].toNat,.int .u8 p[2].toNat,.int .u8 p[3].toNat,.int .u8 p[4].toNat,.int .u8 p[5].toNat,.int .u8 p[6].toNat,.int .u8 p[7].toNat]:=rfl
theorem Jt(q:Int × Page)(k:Int)(b:Nat)(w:World)(d:aK w b #[.int .i64 k] 3):Calls Tryz.prog 207 #[.agg (Ky q),.pointer (some ⟨b,0,none⟩)] w λe w'=>e = .returned (.bool (q.1==k))/\w.grownBy w' none:=by
 have h:=λo=>(d.alloc o).cell;go_enter func207,ntmps207;unfold Ky;go_wp2;go_ret;exact⟨rfl,Dv _ _ _⟩
theorem Oa(l:List (Int × Page))(a:Option Addr)(c:Nat)(k:Int)(b:Nat)(w:World)(E:eD w a (l.flatMap Cn))(M:l.length<=9223372036854775807)(L:aK w b #[.int .i64 k] 3) :
  Calls Tryz.prog 198 #[.slice a l.length c,.func (.func 207) #[] #[.pointer (some ⟨b,0,none⟩)]] w λe w'=>w.grownBy w' none/\((e = .returned (.int .i64 (-1))/\∀i (h:i<l.length),i<l.length->¬l[i].1=k)\/∃i,∃h:i<l.length,e = .returned (.int .i64 i)/\l[i].1=k/\∀j (h:j<l.length),j<i->¬l[j].1=k):=by
 go_enter func198,ntmps198;go_wp2
 go_loopw [8] (fun i wr => ∃j:Nat,j<=l.length/\i = .int .i64 j/\w.grownBy wr none/\∀i (h:i<l.length),i<j->¬l[i].1=k) (fun i _=>l.length-(intOf i).toNat)
 case atStart=>exact⟨0,bN _,rfl,BN _ _,λi _ h=>absurd h (ig _)⟩
 case round=>
  obtain⟨j,N,rfl,D,n⟩:=hrel;have f:=ae n;clear n
  by_cases A:j<l.length
  ·have p:=rV L D;obtain⟨J,off,rfl,z⟩:=Kg E j A;have c0:=z 0 (by decide);have c1:=z 1 (by decide);have c2:=z 2 (by decide);have c3:=z 3 (by decide);have c4:=z 4 (by decide);have I:=z 5 (by decide);have H:=z 6 (by decide);have G:=z 7 (by decide);have F:=z 8 (by decide);simp only[Ky,Bb,pK,AA,mG]at c0 c1 c2 c3 c4 I H G F;have s:∀o v,w.cell? ⟨J,o,none⟩=some v->(wr:World).cell? ⟨J,o,none⟩=some v:=λo v h=>D.cell h (by simp);replace c0:=s _ _ c0;replace c1:=s _ _ c1;replace c2:=s _ _ c2;replace c3:=s _ _ c3;replace c4:=s _ _ c4;replace I:=s _ _ I;replace H:=s _ _ H;replace G:=s _ _ G;replace F:=s _ _ F;clear z s;have d:=Jt l[j] k b _ p;unfold Ky at d
   by_cases C:l[j].1=k
   ·rw[beq_iff_eq.2 C]at d;have m:=ae C;clear C
    go_wp2_with fail
    refine d.mono ?_;rintro e K ⟨rfl,g⟩;go_wp2;go_ret;exact⟨gu D g,.inr ⟨j,A,rfl,m.out,f.out⟩⟩
   rw[beq_eq_false_iff_ne.2 C]at d;have m:=ae C;clear C
   go_wp2_with fail
   refine d.mono ?_;rintro e K ⟨rfl,g⟩;go_wp2;go_roundw
   case rel=>exact⟨j+1,by omega,by go_num,gu D g,oO f.out A m.out⟩
   case measure=>simp[intOf];omega
  go_wp2;go_ret;exact⟨D,.inl ⟨rfl,λi h _=>f.out i h (by omega)⟩⟩
theorem WL(q:Int × Page):(Ky q).size=9:=rfl
theorem put_size:(Tryz.prog.info? 105).map (·.size)=some 9:=by kernel_rfl
theorem Xy(q:Int × Page):(Ky q).all (·.oneCell')=true:=by simp[Ky,Value.oneCell']
theorem YH(l:List (Int × Page))(v:Value)(B:Nat)(k:Int)(b:Nat)(w:World)(Y:Own w B 105 9 v l.length (l.flatMap Cn))(hl:l.length<=100000)(Z:aK w b #[.int .i64 k] 3) :
  Calls Tryz.prog 206 #[v,.func (.func 207) #[] #[.pointer (some ⟨b,0,none⟩)]] w λe w' => ∃v',e = .returned v'/\Own w' B 105 9 v' (nI k l).length ((nI k l).flatMap Cn)/\w.grownBy w' v.ownBlock:=by
 obtain⟨a,c,rfl,hN,hm,hj,hv⟩:=Y.rd;unfold maxLen at hm;go_enter func206,ntmps206
 go_wp2_with fail
 refine(Oa l a c k b _ hv (by omega) Z).mono ?_;rintro e w1 ⟨z,hp⟩;have y:=iM Y z;have hB:=rV Z z;have U:=yZ z (Value.slice a l.length c).ownBlock;clear Y z Z;rcases hp with⟨rfl,E⟩|⟨S,D,rfl,I,H⟩
 ·have hk:=ae (RU E);clear E;go_wp2;go_ret;rw[hk.out];exact⟨_,rfl,y,U⟩
 have hC:=ae (Io.start D I H);clear I H;have hE:((S:Int) == -1)=false:=beq_eq_false_iff_ne.2 (by omega);cases a with
 | none=>have:=hj rfl;omega
 | some ad=>
  obtain⟨g,off,_⟩:∃g off,ad=⟨g,off,none⟩:=by
   rcases y.2 with⟨h,_⟩|⟨g,off,cap,cur,h,_⟩
   ·cases h
   ·exact⟨g,off,by cases h;rfl⟩
  subst ad;clear hv hj;go_wp2
  go_loopw [5,6] (fun s5 s6 wr => ∃(i j:Nat) (cur:List (Int × Page)),s5 = .int .i64 i/\s6 = .int .i64 j/\Hid (Io l k j i cur)/\Own wr B 105 9 (.slice (some ⟨g,off,none⟩) l.length c) l.length (cur.flatMap Cn)/\aK wr b #[.int .i64 k] 3/\w.grownBy wr (some g)) (fun _ s6 _=>l.length-(intOf s6).toNat)
  case atStart=>exact⟨S,S+1,l,rfl,by go_num,hC,y,hB,U⟩
  case round=>
   clear hC y hB U D hE;obtain⟨i,j,cur,rfl,rfl,C,q,o,hG⟩:=hrel;have hP:=C.out.lt;have hO:=C.out.le;have O:=C.out.len
   by_cases F:j<l.length
   ·have hz:j<cur.length:=by omega
    have hx:cur[j]=l[j]:=by have:=C.out.rest j (aC _);rw[aM hz,aM F]at this;exact aU this
    obtain⟨_,_,e2,_,_,_,hu⟩:=q.rd;cases e2;obtain⟨_,_,e3,A⟩:=Kg hu j hz;cases e3;rw[hx]at A;have c0:=A 0 (by decide);have c1:=A 1 (by decide);have c2:=A 2 (by decide);have c3:=A 3 (by decide);have c4:=A 4 (by decide);have c5:=A 5 (by decide);have c6:=A 6 (by decide);have c7:=A 7 (by decide);have c8:=A 8 (by decide);simp only[Ky,Bb,pK,AA,mG]at c0 c1 c2 c3 c4 c5 c6 c7 c8;have n:=ae O;clear A hx hu O;go_upto_region 8 with(fail);refine abd (λW=>Code.wp _ _ _ _ W) λw2 m hH t => ?_;have d:=Jt l[j] k b _ (rV o m);unfold Ky at d;have x:=iM q m;have L:=gu hG (yZ m _);have R:=t.cell;clear c0 c1 c2 c3 c4 c5 c6 c7 c8 q hG hH
    by_cases G:l[j].1=k
    ·have X:=ae (C.out.skip F G);rw[beq_iff_eq.2 G]at d;clear G C
     go_wp2_with fail
     refine d.mono ?_;rintro e w3 ⟨rfl,f⟩;have u:=iM x f;have N:=rV (rV o m) f;have M:=gu L (yZ f _);clear R t x o m L d;go_wp2;go_roundw
     case rel=>exact⟨i,j+1,cur,rfl,by go_num,X,u,N,M⟩
     case measure=>simp[intOf];omega
    have X:=ae (C.out.keep F G);rw[beq_eq_false_iff_ne.2 G]at d;clear G C
    go_wp2_with fail
    refine d.mono ?_;rintro e w3 ⟨rfl,f⟩;have u:=iM x f;have N:=rV (rV o m) f;have M:=gu L (yZ f _);have hs:=rV t f;clear R t x o m L d;obtain⟨gb,offb,capb,J,hD,hR,s,hA,p⟩:=nS vH n.out u i (by omega);cases hD;have R:=hs.cell;have D:(i:Int)<(l.length:Int):=by omega
    go_wp2_with (refine fV (.tmp 33) (.tmp 32) g (off+i*9) (Ky l[j]) J 105 s (by rw[WL];omega) put_size (Xy _) ?_)
    intro w5 hw r;have hK:=p w5 l[j] hw;have hF:=aG N s r;have hJ:=gu M r;clear R hw p s u N M r hA hs f;go_wp2;go_roundw
    case rel=>exact⟨i+1,j+1,cur.set i l[j],by go_num,by go_num,X,hK,hF,hJ⟩
    case measure=>simp[intOf];omega
   have D:i<l.length:=by omega
   have hn:Hid (cur.take i=nI k l):=by have:=C.out.done;rw[mE (l:=l) (by omega)]at this;exact this
   have n:=ae O;have hQ:(i:Int)<=(c:Int):=by omega
   have hL : (i:Int)<=(l.length:Int):=by omega
   obtain⟨cs,s,hA⟩:∃cs,aK wr g cs 105/\off+l.length*9<=cs.size:=by
    rcases q.2 with⟨h,_⟩|⟨g',off',cap',K,h,_,h2,h3,_,h4,_⟩
    ·cases h
    ·cases h;exact⟨K,h2,by omega⟩
   have hM:=λty=>ru (P:=Tryz.prog) wr 36 105 ty _ 9 16 underlying36 put_info g (off+i*9) (l.length-i) (c-i) cs _ s (by simp[Value.cells];omega);clear C O o;have ht:=λw' vs=>Ja vH (w':=w') (vs:=vs) q i n.out (by omega);rw[hn.out]at ht;have hy:Hid ((nI k l).length=i):=by show(nI k l).length=i;rw[<-hn.out,eG,n.out];omega
   go_wp2;go_ret;have hh:=λvs=>ht (wr.setCells g (off+i*9) vs) vs (λcur A=>A.setCells vs _);rw[hy.out]at hh ⊢;exact⟨_,rfl,hh _,gu hG (aD _ _ _ _)⟩
theorem TR(d:qo)(k:Int)(ab:Option Addr)(cb:Nat)(aq:Option Addr)(cq:Nat)(w:World)(h:Uq w ab cb aq cq d) :
  Calls Tryz.prog 191 #[.agg #[.slice ab d.blocks.length cb,.slice aq d.queue.length cq],.int .i64 k] w λe w' => ∃vb vq,e = .returned (.tuple #[.agg #[vb,vq],.int .i64 (aI d k)])/\kz w' w.heap.size vb vq (wB d k)/\Below w.heap.size w w':=by
 go_enter func191,ntmps191
 go_wp2_with fail
 refine SX (λW=>Calls _ _ _ W _) λW0 hA hg hr ha hI => ?_;refine(uU d ab cb aq cq _ (h.below hA)).mono ?_;rintro e w1 ⟨rfl,H⟩;have a:=ah hA H;have hf:=hg.ext H;have hn:=hr.ext H;have c:=ha.ext H;have h1:=h.below a;clear hg hr ha H hA h hI;have hO:=hf.cell;have S:=hn.cell
 by_cases O:bZ d=0
 ·rw[O];obtain⟨l80,l400⟩:=CO O
  by_cases F:k<0\/(d.blocks.length:Int)<=k
  ·have E:aI d k=3:=by unfold aI;rw[if_neg (by omega),if_pos F]
   have D:wB d k=⟨[],[]⟩:=by unfold wB;rw[if_neg (by omega)]
   rcases F with F|F
   all_goals
    go_wp2_with (refine ax (.tmp 4) (.tmp 23) (w.heap.size+2) #[.slice none 0 0,.slice none 0 0] c disk_size (G:=(ow)) ?_)
    all_goals
     intro C Z U;have g:=a.grown U a.size oG0;have L:=Z.cell;go_wp2;simp[bodyPost,results,go_sem,results191,L,E];exact⟨_,_,⟨rfl,rfl⟩,by rw[D];exact kz.nil _ _,g⟩
  obtain⟨k,rfl⟩:=lM (show 0<=k by omega);have hL:k<d.blocks.length:=by omega
  have k1:¬(d.blocks.length:Int)<=(k:Int):=by omega
  have E:aI d k=0:=by unfold aI;rw[if_neg (by omega),if_neg F]
  have D:wB d k=pQ d k:=by unfold wB;rw[if_pos E]
  have Q2:=ae D;clear F D
  go_wp2_with fail
  refine(BP d ab cb aq cq _ h1).mono ?_;rintro e C ⟨vb,vq,rfl,ho,I⟩;have g:=ah a I;have hq:=hn.ext I;have z:=c.ext I;have hT:w.heap.size+3<=w1.heap.size:=by have:=c.lt;omega
  have hS:w.heap.size+3<=C.heap.size:=aX (show w.heap.size+3<=w1.heap.size by have:=c.lt;omega) I.size;clear hf hn c I h1 hO S;obtain⟨xb,cb',xq,cq',rfl,rfl,hC⟩:=ho.rd;go_upto_region 7 with(fail);refine iP (λW=>Code.wp _ _ _ _ W) λw3 J o hH => ?_;have X:=ho.below J;have r:=ah g J;have hm:=hq.ext J;have y:=z.ext J;clear ho hC hq z J;have hR:C.heap.size<w3.heap.size:=by omega
  clear hH;have K:=o.cell;have S:=hm.cell;obtain⟨gb,A,capb,N,hG,hW,t,hV,hN,u⟩:=X.b.put xh (by decide) k hL;cases hG;have n2:(k:Int)<(d.blocks.length:Int):=by omega
  clear hN
  go_wp2_with (refine fV (.tmp 30) (.tmp 29) gb (A+k*8) (gW zPg) N 58 t (by rw[FP];omega) (EB _) (pX _) ?_)
  intro w5 hD i;have hF:=u w5 zPg hD;have hB:=aA X.q t i;have n:=aG o t i;have x:=aG y t i;have hp:=aG hm t i;have p:Below w.heap.size w w5:=r.grown i r.size oG0;clear hD i u t o y hm X r K S;have K:=n.cell
  go_wp2_with fail
  refine(YH d.queue _ _ k _ _ (hB.mono a.size) (by omega) hp).mono ?_;rintro e w6 ⟨v,rfl,Y,l⟩;have M:=hB.mono a.size;have hE:=xe (hF.mono a.size) M l;have f:=kS n M (by decide) l;have m:=kS x M (by decide) l;have hh:Below w.heap.size w w6:=p.grown l p.size M.ge;have hQ:=f.lt;obtain⟨G,c4,rfl,_⟩:=Y.rd;clear hB hF n x hp M l p K;have K:=f.cell;have hM:=f.free
  go_wp2_with (refine ax (.tmp 4) (.tmp 36) (w.heap.size+2) #[.slice (some ⟨gb,A,none⟩) d.blocks.length cb',.slice G (nI k d.queue).length c4] (m.setCell_other _ _ (by simp;omega)) (m:=BC _ _ _ _) (zB _ _) (G:=(ow)) ?_)
  intro w7 hJ s;have j:=m.setCell_other ⟨C.heap.size,1,none⟩ (.slice G (nI k d.queue).length c4) (by simp;omega);have hP:=aA (tK hE f 1 (.slice G (nI k d.queue).length c4)) j s;have hK:=aA (tK Y f 1 (.slice G (nI k d.queue).length c4)) j s;have R:Below w.heap.size w (w6.setCell ⟨C.heap.size,1,none⟩ (.slice G (nI k d.queue).length c4)):=hh.setCell (by simp;omega) _;have hz:Below w.heap.size w w7:=R.grown s R.size oG0;have L:=hJ.cell;clear hE Y f m j s hh R K hM;go_wp2;simp[bodyPost,results,go_sem,results191,L,E];refine⟨_,_,⟨rfl,rfl⟩,?_,hz⟩;rw[Q2.out];exact⟨by simpa[pQ]using hP,hK⟩
 have E:aI d k=bZ d:=by unfold aI;rw[if_pos O]
 have D:wB d k=⟨[],[]⟩:=by unfold wB;rw[if_neg (by omega)]
 have hU : (bZ d != 0)=true:=by simpa using O
 go_wp2_with (refine ax (.tmp 4) (.tmp 12) (w.heap.size+2) #[.slice none 0 0,.slice none 0 0] c disk_size (G:=(ow)) ?_)
 intro C Z U;have g:=a.grown U a.size oG0;have L:=Z.cell;go_wp2;simp[bodyPost,results,go_sem,results191,L,E];exact⟨_,_,⟨rfl,rfl⟩,by rw[D];exact kz.nil _ _,g⟩
def Ak(f:Fr):Array Value:=#[.int .u8 f.p[0].toNat,.int .u8 f.p[1].toNat,.int .u8 f.p[2].toNat,.int .u8 f.p[3].toNat,.int .u8 f.p[4].toNat,.int .u8 f.p[5].toNat,.int .u8 f.p[6].toNat,.int .u8 f.p[7].toNat,.int .i64 f.r,.bool f.u,.bool f.d,.int .i64 f.f,.int .i64 f.i]
def rG(f:Fr):List Value:=(Ak f).toList
theorem jo(f:Fr):(rG f).length=13:=rfl
structure aaa (w:World) (b off:Nat) (f:Fr):Prop where
 c0:w.cell? ⟨b,off,none⟩=some (.int .u8 f.p[0].toNat)
 c1:w.cell? ⟨b,off+1,none⟩=some (.int .u8 f.p[1].toNat)
 c2:w.cell? ⟨b,off+2,none⟩=some (.int .u8 f.p[2].toNat)
 c3:w.cell? ⟨b,off+3,none⟩=some (.int .u8 f.p[3].toNat)
 c4:w.cell? ⟨b,off+4,none⟩=some (.int .u8 f.p[4].toNat)
 c5:w.cell? ⟨b,off+5,none⟩=some (.int .u8 f.p[5].toNat)
 c6:w.cell? ⟨b,off+6,none⟩=some (.int .u8 f.p[6].toNat)
 c7:w.cell? ⟨b,off+7,none⟩=some (.int .u8 f.p[7].toNat)
 c8:w.cell? ⟨b,off+8,none⟩=some (.int .i64 f.r)
 c9:w.cell? ⟨b,off+9,none⟩=some (.bool f.u)
 ca:w.cell? ⟨b,off+10,none⟩=some (.bool f.d)
 cb:w.cell? ⟨b,off+11,none⟩=some (.int .i64 f.f)
 cc:w.cell? ⟨b,off+12,none⟩=some (.int .i64 f.i)
theorem Nf{l:List Fr}(h:eD w a (l.flatMap rG))(k:Nat)(e:k<l.length):∃b off,a=some ⟨b,off,none⟩/\aaa w b (off+k*13) l[k]:=by
 obtain⟨b,off,n,d⟩:=h.elem jo (by decide) k e;exact⟨b,off,n,d 0 _ rfl,d 1 _ rfl,d 2 _ rfl,d 3 _ rfl,d 4 _ rfl,d 5 _ rfl,d 6 _ rfl,d 7 _ rfl,d 8 _ rfl,d 9 _ rfl,d 10 _ rfl,d 11 _ rfl,d 12 _ rfl⟩
theorem ZE{f:Fr}(h:aK w b (Ak f) T):aaa w b 0 f:=
 ⟨h.cell 0,h.cell 1,h.cell 2,h.cell 3,h.cell 4,h.cell 5,h.cell 6,h.cell 7,h.cell 8,h.cell 9,h.cell 10,h.cell 11,h.cell 12⟩
theorem Cv(f:Fr)(b off:Nat)(w:World)(h:aaa w b off f):Calls Tryz.prog 164 #[.pointer (some ⟨b,off,none⟩)] w λe w'=>e = .returned (.int .i64 (dn f))/\w' = w:=by
 obtain⟨c0,c1,c2,c3,c4,D,C,A,s,n,ca,cb,cc⟩:=h;have d:∀W,(Op.equalIn 10000 58 (.agg #[.int .u8 f.p[0].toNat,.int .u8 f.p[1].toNat,.int .u8 f.p[2].toNat,.int .u8 f.p[3].toNat,.int .u8 f.p[4].toNat,.int .u8 f.p[5].toNat,.int .u8 f.p[6].toNat,.int .u8 f.p[7].toNat]) (.agg #[.int .u8 0,.int .u8 0,.int .u8 0,.int .u8 0,.int .u8 0,.int .u8 0,.int .u8 0,.int .u8 0])).run Tryz.prog W = .ok (f.p==zPg) W:=eqP f.p zPg;go_enter func164,ntmps164;go_wp2
 all_goals go_ret
 all_goals refine⟨?_,rfl⟩
 all_goals clear c0 c1 c2 c3 c4 D C A s n ca cb cc d
 all_goals go_light
 all_goals refine congrArg (λz=>Ending.returned (.int .i64 z)) ?_
 all_goals simp only[dn,NK,LV,GH,uN,dJ,decide_eq_true_eq,ne_eq,bne_iff_ne]
 all_goals simp_all
 all_goals omega
theorem frame_info:(Tryz.prog.info? 66).map (λi=>(i.zero,i.size,i.bytes))=some (some (.agg #[.int .u8 0,.int .u8 0,.int .u8 0,.int .u8 0,.int .u8 0,.int .u8 0,.int .u8 0,.int .u8 0,.int .i64 0,.bool false,.bool false,.int .i64 0,.int .i64 0]),13,40):=by kernel_rfl
theorem frame_size:(Tryz.prog.info? 66).map (·.size)=some 13:=by kernel_rfl
theorem OZ(l:List Fr):(l.flatMap rG).length=l.length*13:=Pw.flat_len rG 13 jo l
theorem wV(f:Fr):(Ak f).all (·.oneCell')=true:=by simp[Ak,Value.oneCell']
theorem OE(l:List Fr):∀u∈l.flatMap rG,u.oneCell' = true:=by
 intro u e;obtain⟨p,_,d⟩:=jS.1 e;simp only[rG,Ak,fq,kZ,or_false]at d;rcases d with rfl|rfl|rfl|rfl|rfl|rfl|rfl|rfl|rfl|rfl|rfl|rfl|rfl<;>rfl
theorem Ki(l:List Fr)(a:Option Addr)(c:Nat)(w:World)(s:l.length<=c)(n:a=none->c=0)(p:eD w a (l.flatMap rG))(D:l.length*40<=140737488355328) :
  Calls Tryz.prog 102 #[.slice a l.length c] w λe w' => ∃v,e = .returned v/\Own w' w.heap.size 66 13 v l.length (l.flatMap rG)/\Below w.heap.size w w':=by
 cases a with
 | none=>
  have E:=n rfl;have A:l=[]:=kV (by omega);subst A;subst E;have z:=λW=>nN (P:=Tryz.prog) W 30 _ none 0 0 0 0 underlying30;go_enter func102,ntmps102;go_wp2;go_ret;exact⟨_,rfl,by simpa using Own.nil _ _ _ _,Below.refl _ _⟩
 | some ad=>
  have z:=λW=>nN (P:=Tryz.prog) W 30 _ (some ad) l.length c 0 0 underlying30;go_enter func102,ntmps102
  go_wp2_with (at_builtin;go_must (refine fJ 30 rfl w.heap.size 66 (.agg #[.int .u8 0,.int .u8 0,.int .u8 0,.int .u8 0,.int .u8 0,.int .u8 0,.int .u8 0,.int .u8 0,.int .i64 0,.bool false,.bool false,.int .i64 0,.int .i64 0]) 13 40 underlying30 frame_info 0 [] rfl ?own (some ad) l.length c (l.flatMap rG) rfl (λh=>(by cases h)) s (OZ l) ?rd (OE l) (by unfold maxLen;omega) (by simpa using D) ?bb ?k))
  case own=>exact⟨rfl,.inr ⟨w.heap.size,0,0,#[],rfl,aC _,aK.new _ _ _,aC _,bN _,by simp,λj u h=>by simp at h⟩⟩
  case rd=>exact p.below ((Below.refl _ _).alloc (aC _) _)
  case bb=>exact fe
  intro v F b d;go_wp2;go_ret;exact⟨v,rfl,by simpa using b,((Below.refl _ _).alloc (aC _) _).grown d (fe) (λk C=>by cases C;exact aC _)⟩
structure UC (w:World) (a:Option Addr) (c:Nat) (m:Mem):Prop where
 le:m.fs.length<=c
 mx:c<=maxLen
 nil:a=none->c=0
 rd:eD w a (m.fs.flatMap rG)
theorem UC.below{m:Mem}(h:UC w a c m)(d:Below w.heap.size w w'):UC w' a c m:={ h with rd:=h.rd.below d }
theorem BJ{m:Mem}(h:Own w B 66 13 v m.fs.length (m.fs.flatMap rG)):∃a c,v = .slice a m.fs.length c/\UC w a c m:=by
 obtain⟨a,c,rfl,p,n,e,d⟩:=h.rd;exact⟨a,c,rfl,p,n,e,d⟩
theorem xM(m:Mem)(a:Option Addr)(c:Nat)(w:World)(h:UC w a c m) :
  Calls Tryz.prog 125 #[.agg #[.slice a m.fs.length c,.int .i64 m.hand]] w λe w'=>e = .returned (.int .i64 (bT m))/\Below w.heap.size w w':=by
 have K:=aX h.le h.mx;unfold maxLen at K;go_enter func125,ntmps125;go_upto_region 1 with(fail);refine iP (λW=>Code.wp _ _ _ _ W) λM d l n => ?_;clear n;have r:=l.cell;have E:=h.below d
 by_cases F:40<m.fs.length
 ·have z:bT m=4:=by unfold bT;rw[if_pos F]
  have p : (40:Int)<(m.fs.length:Int):=by omega
  go_wp2;go_ret;rw[z];exact⟨rfl,d⟩
 have p : ¬(40:Int)<(m.fs.length:Int):=by omega
 go_wp2
 go_loopw [12] (fun i wr => ∃k:Nat,k<=m.fs.length/\i = .int .i64 k/\M=wr/\∀i (h:i<m.fs.length),i<k->dn m.fs[i]=0) (fun i _=>m.fs.length-(intOf i).toNat)
 case atStart=>exact⟨0,bN _,rfl,rfl,λi _ h=>absurd h (ig _)⟩
 case round=>
  obtain⟨k,O,rfl,rfl,j⟩:=hrel;have g:=ae j;clear j
  by_cases s:k<m.fs.length
  ·obtain⟨b,off,rfl,D⟩:=Nf E.rd k s;have q:(k:Int)<(m.fs.length:Int):=by omega
   by_cases A:dn m.fs[k]=0
   ·have o:=ae A;have C:=Cv m.fs[k] b _ _ D;rw[A]at C;clear A D
    go_wp2_with fail
    refine C.mono ?_;rintro e G ⟨rfl,rfl⟩;go_wp2;go_roundw
    case rel=>exact⟨k+1,by omega,by go_num,trivial,oO g.out s o.out⟩
    case measure=>simp[intOf];omega
   have C:=Cv m.fs[k] b _ _ D;have z:bT m=dn m.fs[k]:=by have:=firstEf_at _ k s g.out A;unfold bT;rw[if_neg F,this,if_pos A]
   have N:(dn m.fs[k] != 0)=true:=by simpa using A
   clear D;have f:=ae z;clear z
   go_wp2_with fail
   refine C.mono ?_;rintro e G ⟨rfl,rfl⟩;go_wp2;go_ret;rw[f.out];exact⟨rfl,d⟩
  have E:firstEf m.fs=0:=firstEf_none _ (λi L=>g.out i L (by omega));have z:bT m=if m.hand<0\/(0<m.hand/\(m.fs.length:Int)<=m.hand)then 3 else 0:=by unfold bT;rw[if_neg F,E];rfl
  have f:=ae z;clear z E
  by_cases J:m.hand<0
  ·go_wp2
   all_goals
    go_ret;rw[f.out,if_pos (.inl J)];exact⟨rfl,d⟩
  by_cases I:(0:Int)<m.hand
  ·by_cases H:(m.fs.length:Int)<=m.hand
   ·go_wp2
    all_goals
     go_ret;rw[f.out,if_pos (.inr ⟨I,H⟩)];exact⟨rfl,d⟩
   go_wp2
   all_goals
    go_ret;rw[f.out,if_neg (by omega)];exact⟨rfl,d⟩
  go_wp2
  all_goals
   go_ret;rw[f.out,if_neg (by omega)];exact⟨rfl,d⟩
theorem mem_size:(Tryz.prog.info? 32).map (·.size)=some 2:=by kernel_rfl
theorem gL(a:Option Addr)(n c:Nat)(k:Int):(#[Value.slice a n c,.int .i64 k]:Array Value).all (·.oneCell')=true:=by simp[Value.oneCell']
theorem zC(a b:Option Addr)(n c m e:Nat)(k l:Int):(#[Value.slice a n c,.int .i64 k]:Array Value).size=(#[Value.slice b m e,.int .i64 l]:Array Value).size:=rfl
theorem Wh(v u:Value):(Tryz.prog.info? 32).map (·.size)=some (#[v,u]:Array Value).size:=mem_size
def aaz(B:Nat)(m:Mem):oW:=⟨λv w => ∃vb,v = .agg #[vb,.int .i64 m.hand]/\Own w B 66 13 vb m.fs.length (m.fs.flatMap rG),λ_ _ _ hb ⟨vb,h1,h2⟩=>⟨vb,h1,h2.below hb⟩⟩
theorem Bp(m:Mem)(a:Option Addr)(c:Nat)(w:World)(h:UC w a c m)(E:m.fs.length*40<=140737488355328:=by omega) :
  Calls Tryz.prog 57 #[.agg #[.slice a m.fs.length c,.int .i64 m.hand]] w λe w' => ∃vb,e = .returned (.agg #[vb,.int .i64 m.hand])/\Own w' w.heap.size 66 13 vb m.fs.length (m.fs.flatMap rG)/\Below w.heap.size w w':=by
 go_enter func57,ntmps57;go_upto_region 1 with(fail);refine uY (λW=>Code.wp _ _ _ _ W) λw0 b l j s => ?_;clear s;have F:=h.below b;refine aR 6 [_,_,.r 2 ((il w.heap.size 66 13 m.fs.length (m.fs.flatMap rG))),_,_,.r 5 ((aaz w.heap.size m))] (Gf w.heap.size 0 rfl rfl (Gl l (V:=.slice a m.fs.length c) (by simp[underlying30]) rfl rfl rfl rfl (aj ?_ (Gf w.heap.size 1 rfl rfl (Gl l (V:=.int .i64 m.hand) (by simp[underlying3]) rfl rfl rfl rfl (aj ?_ (aH))))))) (λ_=>rfl) rfl ?_
 ·intro ρ y W z G D C;have Z:=z 4 1 rfl;have R:y 1=_:=C 1 rfl;have K:=eF0 G λ_=>trivial;refine aL (aW rfl (K _) func102 (by simp only[bU,bM,bP,Z,R,K];rfl)) ?_;refine(Ki m.fs a c W F.le F.nil (F.below D).rd E).mono ?_;rintro e w1 ⟨v,rfl,A,t⟩;exact⟨v,rfl,t,A.mono (aX b.size D.size)⟩
 ·intro ρ y W z G D C;have Y:=z 5 2 rfl;have H:=C 2 rfl;have X:=z 7 4 rfl;have O:y 4=_:=C 4 rfl;obtain⟨x2,c2,S,_⟩:=Own.rd H;refine ak (.agg #[y 2,.int .i64 m.hand]) (by simp[execOp,go_sem,Y,X,O,S]) (m:=?_);exact⟨_,rfl,H⟩
 intro y J g i;have q:((il w.heap.size 66 13 m.fs.length (m.fs.flatMap rG))).r (y 2) J:=i 2 (by decide);have p:((aaz w.heap.size m)).r (y 5) J:=i 5 (by decide);clear i;obtain⟨vb,I,A⟩:=p;rw[I];clear q I;have d:=ah b g;obtain⟨xb,U,rfl,_⟩:=A.rd;refine ax (.tmp 2) (.tmp 8) (w.heap.size+1) _ (j.ext g) mem_size (G:=(by simp[Value.oneCell'])) ?_;intro L M o;have n:Below w.heap.size w L:=d.grown o d.size oG0;have N:=M.cell;go_wp2;simp[bodyPost,results,go_sem,results57,N];exact⟨aA A (j.ext g) o,n⟩
theorem CF(m:Mem)(a:Option Addr)(c:Nat)(w:World)(h:UC w a c m) :
  Calls Tryz.prog 134 #[.agg #[.slice a m.fs.length c,.int .i64 m.hand]] w λe w'=>e = .returned (.int .i64 (fO m.fs))/\Below w.heap.size w w':=by
 have E:=aX h.le h.mx;unfold maxLen at E;go_enter func134,ntmps134;go_upto_region 1 with(fail);refine iP (λW=>Code.wp _ _ _ _ W) λN q g l => ?_;have p:=g.cell;clear l;go_wp2;clear p g
 go_loopw [3,9] (fun s i wr => ∃(k n:Nat),k<=m.fs.length/\i = .int .i64 k/\s = .int .i64 n/\n<=k/\Below w.heap.size w wr/\Hid (fO (m.fs.take k)=n)) (fun _ i _=>m.fs.length-(intOf i).toNat)
 case atStart=>exact⟨0,0,bN _,rfl,rfl,aC _,q,ae rfl⟩
 case round=>
  obtain⟨k,n,H,rfl,rfl,G,d,D⟩:=hrel
  by_cases C:k<m.fs.length
  ·obtain⟨b,off,rfl,F⟩:=Nf (h.below d).rd k C;obtain⟨c0,c1,c2,c3,c4,M,L,K,J,I,ca,cb,cc⟩:=F;have z:=Qa m.fs k C;rw[D.out]at z
   by_cases A:m.fs[k].r=0
   ·rw[if_pos A]at z;have f:=ae z;have o:(m.fs[k].r==0)=true:=by simpa using A
    clear z A;go_wp2;go_roundw
    case rel=>exact⟨k+1,n+1,by omega,by go_num,by go_num,by omega,d.alloc d.size _,f⟩
    case measure=>simp[intOf];omega
   rw[if_neg A]at z;have f:=ae z;have o:(m.fs[k].r==0)=false:=by simpa using A
   clear z A;go_wp2;go_roundw
   case rel=>exact⟨k+1,n,by omega,by go_num,rfl,by omega,d.alloc d.size _,f⟩
   case measure=>simp[intOf];omega
  have j:Hid (fO m.fs=n):=by have:=D.out;rw[mE (by omega)]at this;exact this
  go_wp2;go_ret;rw[j.out];exact⟨rfl,d⟩
theorem Wt(n:Int)(w:World) :
  Calls Tryz.prog 69 #[.int .i64 n] w λe w' => ∃vb,e = .returned (.tuple #[.agg #[vb,.int .i64 0],.int .i64 (Qw n)])/\Own w' w.heap.size 66 13 vb (yu n).fs.length ((yu n).fs.flatMap rG)/\Below w.heap.size w w':=by
 have c:=aK.new w #[.slice none 0 0,.int .i64 0] 32;have a:Below w.heap.size w (w.alloc (.cells #[.slice none 0 0,.int .i64 0] 32)):=(Below.refl _ _).alloc (aC _) _;unfold yu Qw;go_enter func69,ntmps69
 by_cases D:0<=n/\n<=40
 ·obtain⟨n,rfl⟩:=lM D.1;rw[if_pos D,if_pos D];have n1:¬(40:Int)<(n:Int):=by omega
  have n2:n<=40:=by omega
  clear D
  go_wp2_with (refine zD _ rfl (.tmp 13) (.tmp 13) 30 rfl rG 66 _ 13 40 fr0 jo underlying30 frame_info rfl .i64 .i64 n n n rfl rfl rfl rfl (by unfold maxLen;omega) ?_)
  intro G C o;have j:=c.grown o (by intro X;cases X);have d:=a.grown o a.size (λk A=>by cases A);clear c o a;have hr:w.heap.size+1<G.heap.size:=by obtain⟨cs,A⟩:=sS C _ rfl;simpa using A.lt
  go_upto_region 4 with(fail);refine iP (λW=>Code.wp _ _ _ _ W) λw3 r u U => ?_;clear U;have p:=ah d r;have f:=j.ext r;have K:=C.below r;have J:=u.cell;clear j C r;go_wp2;clear J
  go_loopw [19] (fun i wr => ∃(k:Nat) (cur:List Fr),k<=n/\i = .int .i64 k/\Below w.heap.size w wr/\aK wr w.heap.size #[.slice none 0 0,.int .i64 0] 32/\aK wr G.heap.size #[.slice (some ⟨w.heap.size+1,0,none⟩) n n,.int .i64 0] 32/\Own wr w.heap.size 66 13 (.slice (some ⟨w.heap.size+1,0,none⟩) n n) n (cur.flatMap rG)/\Hid (cur.length=n/\∀i,i<n->cur[i]?=some (if i<k then frZ else fr0))) (fun i _=>n-(intOf i).toNat)
  case atStart=>exact⟨0,List.replicate n fr0,bN _,rfl,p,f,u,K.mono (by simp),ae ⟨by simp,λi E=>by simp[E]⟩⟩
  case round=>
   clear f u K p;obtain⟨k,cur,A,rfl,q,l,H,C,b⟩:=hrel;have J:=H.cell
   by_cases F:k<n
   ·have m:=b.out.1;have v:k<cur.length:=by omega
    have x:cur[k]'v=fr0:=by have:=b.out.2 k F;rw[aM v]at this;simpa using this
    obtain⟨g,off,cap,M,hw,ht,⟨csg,hu⟩,I,O,s⟩:=yD jo m C k F 11 (.int .i64 (-1)) frZ (by rw[x];rfl);cases M;have N:=I 11 (.int .i64 0) (by rw[x];rfl);simp only[dL]at N O s;have Y:Hid ((cur.set k frZ).length=n/\∀i,i<n->(cur.set k frZ)[i]?=some (if i<k+1 then frZ else fr0)):=by
     refine⟨by simp[m],λi E => ?_⟩;rw[qd]
     by_cases e:k=i
     ·subst e;simp[v]
     rw[if_neg e,b.out.2 i E]
     by_cases h:i<k
     ·rw[if_pos h,if_pos (by omega)]
     ·rw[if_neg h,if_neg (by omega)]
    have hs:(k:Int)<(n:Int):=by omega
    clear x I b m C;go_wp2;go_roundw
    case rel=>exact⟨k+1,cur.set k frZ,by omega,by go_num,q.setCell (by simp) _,l.setCell_other _ _ (by simp),H.setCell_other _ _ (by simp;omega),s,Y⟩
    case measure=>simp[intOf];omega
   have y:Hid (cur=List.replicate n frZ):=by
    apply qB;intro i
    by_cases E:i<n
    ·rw[b.out.2 i E,if_pos (by omega)];simp[E]
    ·rw[dP (by have:=b.out.1;omega),dP (by simp;omega)]
   go_wp2_with (refine ax (.tmp 2) (.tmp 28) w.heap.size #[.slice (some ⟨w.heap.size+1,0,none⟩) n n,.int .i64 0] l (m:=zC _ _ _ _ _ _ _ _) (Wh _ _) (G:=gL _ _ _ _) ?_)
   intro w5 S t;have L:=aA C l t;have Z:=q.grown t q.size (λk A=>by cases A;exact aC _);have z:=S.cell;go_wp2;simp[bodyPost,results,go_sem,results69,z];rw[y.out]at L;exact⟨L,Z⟩
 rw[if_neg D,if_neg D];have h' : n<0\/40<n:=by omega
 clear D;rcases h' with h|h
 all_goals
  go_wp2_with (refine ax (.tmp 2) (.tmp 12) w.heap.size #[.slice none 0 0,.int .i64 0] c mem_size (G:=gL _ _ _ _) ?_)
  all_goals
   intro G R o;have d:=a.grown o a.size (λk A=>by cases A;exact aC _);have z:=R.cell;go_wp2;simp[bodyPost,results,go_sem,results69,z];exact⟨Own.nil _ _ _ _,d⟩
theorem RA(f:Fr)(w:World):Calls Tryz.prog 175 #[.agg (Ak f)] w λe w'=>e = .returned (.bool (f.r==0))/\Below w.heap.size w w':=by
 go_enter func175,ntmps175;unfold Ak;go_wp2;go_ret;exact⟨rfl,(Below.refl _ _).alloc (aC _) _⟩
theorem Um(l:List Fr)(a:Option Addr)(c:Nat)(w:World)(s:eD w a (l.flatMap rG))(C:l.length<=9223372036854775807) :
  Calls Tryz.prog 174 #[.slice a l.length c,.func (.func 175) #[] #[]] w λe w'=>Below w.heap.size w w'/\((e = .returned (.int .i64 (-1))/\∀i (h:i<l.length),i<l.length->¬l[i].r=0)\/∃i,∃h:i<l.length,e = .returned (.int .i64 i)/\l[i].r=0/\∀j (h:j<l.length),j<i->¬l[j].r=0):=by
 go_enter func174,ntmps174;go_wp2
 go_loopw [8] (fun i wr => ∃j:Nat,j<=l.length/\i = .int .i64 j/\Below w.heap.size w wr/\∀i (h:i<l.length),i<j->¬l[i].r=0) (fun i _=>l.length-(intOf i).toNat)
 case atStart=>exact⟨0,bN _,rfl,Below.refl _ _,λi _ h=>absurd h (ig _)⟩
 case round=>
  obtain⟨j,D,rfl,d,m⟩:=hrel;have f:=ae m;clear m
  by_cases n:j<l.length
  ·obtain⟨J,off,rfl,A⟩:=Nf (s.below d) j n;obtain⟨c0,c1,c2,c3,c4,I,H,G,F,E,ca,cb,cc⟩:=A;have b:=λw=>RA l[j] w;unfold Ak at b
   by_cases p:l[j].r=0
   ·rw[beq_iff_eq.2 p]at b;have g:=ae p;clear p
    go_wp2_with fail
    refine(b _).mono ?_;rintro e z ⟨rfl,k⟩;go_wp2;go_ret;exact⟨ah d k,.inr ⟨j,n,rfl,g.out,f.out⟩⟩
   rw[beq_eq_false_iff_ne.2 p]at b;have g:=ae p;clear p
   go_wp2_with fail
   refine (b _).mono ?_;rintro e z ⟨rfl,k⟩;go_wp2;go_roundw
   case rel=>exact⟨j+1,by omega,by go_num,ah d k,oO f.out n g.out⟩
   case measure=>simp[intOf];omega
  go_wp2;go_ret;exact⟨d,.inl ⟨rfl,λi h _=>f.out i h (by omega)⟩⟩
theorem IE(m:Mem)(p:Page)(file index:Int)(a:Option Addr)(c:Nat)(w:World)(h:UC w a c m) :
  Calls Tryz.prog 136 #[.agg #[.slice a m.fs.length c,.int .i64 m.hand],.agg (gW p),.int .i64 file,.int .i64 index] w λe w' => ∃vb,e = .returned (.tuple #[.agg #[vb,.int .i64 (fG m p file index).hand],.int .i64 (iG m p file index),.int .i64 (iy m p file index)])/\Own w' w.heap.size 66 13 vb (fG m p file index).fs.length ((fG m p file index).fs.flatMap rG)/\Below w.heap.size w w':=by
 go_enter func136,ntmps136;rw[JK]
 go_wp2_with fail
 refine SX (λW=>Calls _ _ _ W _) λW0 hF hj hv ha hQ => ?_;refine(xM m a c _ (h.below hF)).mono ?_;rintro e X ⟨rfl,H⟩;have g:=ah hF H;have hh:=hj.ext H;have hu:=hv.ext H;have d:=ha.ext H;have h1:=h.below g;clear hj hv ha H hF hQ
 by_cases G:bT m=0
 ·rw[G];have hW:m.fs.length<=40:=by
   unfold bT at G;split at G
   ·cases G
   ·omega
  have hT:=hu.cell;go_upto_region 5 with(fail);refine iP (λW=>Code.wp _ _ _ _ W) λw2 I hJ hP => ?_;have r:=ah g I;have o:=hh.ext I;have l:=d.ext I;have h2:=h1.below I;have hY:w.heap.size+3<=X.heap.size:=by have:=d.lt;omega
  have u : aK w2 X.heap.size (Ak (bL p file index)) 66:=hJ;clear hT hu hh d h1 I hP;have L:=Cv (bL p file index) X.heap.size 0 _ (ZE u)
  by_cases hE:dn (bL p file index)=0
  ·rw[hE]at L
   go_wp2_with fail
   refine L.mono ?_;rintro e w3 ⟨rfl,rfl⟩;have M:=o.cell;clear L
   go_wp2_with fail
   refine(Um m.fs a c _ h2.rd (by omega)).mono ?_;rintro e w4 ⟨t,hC⟩;have f:=ah r t;have hg:=o.ext t;have j:=l.ext t;have hI:=u.ext t;have h4:=h2.below t;clear M o l hJ u h2 t;rcases hC with⟨rfl,F⟩|⟨i,hi,rfl,hr,J⟩
   ·have A:iy m p file index=10:=by unfold iy;rw[if_neg (by omega),if_neg (by omega),if_pos (PE F)]
    have C:iG m p file index=0:=by unfold iG;rw[if_neg (by omega)]
    have D:fG m p file index=noM:=by unfold fG;rw[if_neg (by omega)]
    clear F
    go_wp2_with (refine ax (.tmp 8) (.tmp 36) (w.heap.size+2) #[.slice none 0 0,.int .i64 0] j mem_size (G:=gL _ _ _ _) ?_)
    intro w5 O N;have b:=f.grown N f.size oG0;have n:=O.cell;go_wp2;simp[bodyPost,results,go_sem,results136,n,A,C,D,noM];exact⟨Own.nil _ _ _ _,b⟩
   have Y:=Qo hi hr J;have A:iy m p file index=0:=by unfold iy;rw[if_neg (by omega),if_neg (by omega),if_neg (by rw[Y];simp)]
   have C:iG m p file index=i:=by unfold iG;rw[if_pos A,Y];rfl
   have D:fG m p file index=⟨m.fs.set i (bL p file index),m.hand⟩:=by unfold fG;rw[if_pos A,C]
   have Q3:=ae D;have Q2:=ae C;have Q1:=ae A;clear J hr Y A C D;have M:=hg.cell
   go_wp2_with fail
   refine(Bp m a c _ h4).mono ?_;rintro e w5 ⟨vb,rfl,ho,S⟩;have b:=ah f S;have z:=j.ext S;have hH:=hI.ext S;have hM:=f.size;obtain⟨xb,cb',rfl,_⟩:=BJ ho;clear M hg j hI h4 S;go_upto_region 12 with(fail);refine iP (λW=>Code.wp _ _ _ _ W) λw6 K Z hO => ?_;have q:=ah b K;have y:=z.ext K;have hG:=hH.ext K;have hL:=ho.below K;clear z hH ho K hO;obtain⟨gb,E,capb,R,hN,h0,U,hZ,M,v⟩:=hL.put jo (by decide) i hi;cases hN;have hB:=Z.cell;have hA:=hG.cell;unfold Ak bL at hA;simp only at hA;have hX:(i:Int)<(m.fs.length:Int):=by omega
   clear M
   go_wp2_with (refine fV (.tmp 43) (.tmp 42) gb (E+i*13) (Ak (bL p file index)) R 66 U (by show _+13<=_;omega) frame_size (wV _) ?_)
   intro w7 hK s;have hV:=v w7 (bL p file index) hK;have hS:=aG Z U s;have x:=aG y U s;have hl:Below w.heap.size w w7:=q.grown s q.size oG0;clear hK v U Z y hL hB hA s q hG;have hB:=hS.cell
   go_wp2_with (refine ax (.tmp 8) (.tmp 44) (w.heap.size+2) #[.slice (some ⟨gb,E,none⟩) m.fs.length cb',.int .i64 m.hand] x (m:=zC _ _ _ _ _ _ _ _) mem_size (G:=gL _ _ _ _) ?_)
   intro w8 hR hx;have hU:=aA hV x hx;have hD:=hl.grown hx hl.size oG0;have n:=hR.cell;clear hB;go_wp2;simp[bodyPost,results,go_sem,results136,n,Q1.out,Q2.out,Q3.out];exact⟨by have:=hU.mono (show w.heap.size<=w4.heap.size from hM);simpa using this,hD⟩
  have A:iy m p file index=dn (bL p file index):=by unfold iy;rw[if_neg (by omega),if_pos hE]
  have C:iG m p file index=0:=by unfold iG;rw[if_neg (by omega)]
  have D:fG m p file index=noM:=by unfold fG;rw[if_neg (by omega)]
  have hn:(dn (bL p file index) != 0)=true:=by simpa using hE
  go_wp2_with fail
  refine L.mono ?_;rintro e w3 ⟨rfl,rfl⟩;clear L
  go_wp2_with (refine ax (.tmp 8) (.tmp 29) (w.heap.size+2) #[.slice none 0 0,.int .i64 0] l mem_size (G:=gL _ _ _ _) ?_)
  intro w5 O N;have b:=r.grown N r.size oG0;have n:=O.cell;go_wp2;simp[bodyPost,results,go_sem,results136,n,A,C,D,noM];exact⟨Own.nil _ _ _ _,b⟩
 have A:iy m p file index=bT m:=by unfold iy;rw[if_pos G]
 have C:iG m p file index=0:=by unfold iG;rw[if_neg (by omega)]
 have D:fG m p file index=noM:=by unfold fG;rw[if_neg (by omega)]
 have hn:(bT m != 0)=true:=by simpa using G
 go_wp2_with (refine ax (.tmp 8) (.tmp 20) (w.heap.size+2) #[.slice none 0 0,.int .i64 0] d mem_size (G:=gL _ _ _ _) ?_)
 intro w5 O N;have b:=g.grown N g.size oG0;have n:=O.cell;go_wp2;simp[bodyPost,results,go_sem,results136,n,A,C,D,noM];exact⟨Own.nil _ _ _ _,b⟩
theorem Ub(m:Mem)(k n:Int)(a:Option Addr)(c:Nat)(w:World)(h:UC w a c m) :
  Calls Tryz.prog 142 #[.agg #[.slice a m.fs.length c,.int .i64 m.hand],.int .i64 k,.int .i64 n] w λe w' => ∃vb,e = .returned (.tuple #[.agg #[vb,.int .i64 (nK m k n).hand],.int .i64 (oQ m k n)])/\Own w' w.heap.size 66 13 vb (nK m k n).fs.length ((nK m k n).fs.flatMap rG)/\Below w.heap.size w w':=by
 go_enter func142,ntmps142
 go_wp2_with fail
 refine uY (λW=>Calls _ _ _ W _) λW0 hE hj hf hO => ?_;refine(xM m a c _ (h.below hE)).mono ?_;rintro e Y ⟨rfl,O⟩;have d:=ah hE O;have hi:=hj.ext O;have g:=hf.ext O;have h1:=h.below d;clear hj hf O hE hO;have hV:=hi.cell
 by_cases N:bT m=0
 ·obtain⟨hX,hp,_,_⟩:=(eF m).1 N;rw[N]
  by_cases X:k<0\/(m.fs.length:Int)<=k
  ·have C:oQ m k n=5:=by unfold oQ;rw[if_neg (by omega),if_pos (by omega)]
   have D:nK m k n=noM:=by unfold nK;rw[if_neg (by omega)]
   clear hp;rcases X with X|X
   all_goals
    go_wp2_with (refine ax (.tmp 6) (.tmp 35) (w.heap.size+1) #[.slice none 0 0,.int .i64 0] g mem_size (G:=gL _ _ _ _) ?_)
    all_goals
     intro w5 q s;have f:=(d).grown s (d).size oG0;have i:=q.cell;go_wp2;simp[bodyPost,results,go_sem,results142,i,C,D,noM];exact⟨Own.nil _ _ _ _,f⟩
  obtain⟨k,rfl⟩:=lM (show 0<=k by omega);have J:k<m.fs.length:=by omega
  have h3:¬(m.fs.length:Int)<=(k:Int):=by omega
  have h2:(k:Int)<(m.fs.length:Int):=by omega
  obtain⟨⟨h0,hZ,_⟩,_,_⟩:=(dV m.fs[k]).1 (hp _ (fA J));have G:m.fs.getD (k:Int).toNat fr0=m.fs[k]:=by simp[J]
  clear hp X;obtain⟨b,off,rfl,hc⟩:=Nf h1.rd k J;have M:=hc.c8
  by_cases S:m.fs[k].r=0
  ·have C:oQ m k n=5:=by unfold oQ;rw[if_neg (by omega),G,if_pos (.inr (.inr S))]
   have D:nK m k n=noM:=by unfold nK;rw[if_neg (by omega)]
   have hP:(m.fs[k].r==0)=true:=by simpa using S
   clear G
   go_wp2_with (refine ax (.tmp 6) (.tmp 35) (w.heap.size+1) #[.slice none 0 0,.int .i64 0] g mem_size (G:=gL _ _ _ _) ?_)
   all_goals
    intro w5 q s;have f:=(d).grown s (d).size oG0;have i:=q.cell;go_wp2;simp[bodyPost,results,go_sem,results142,i,C,D,noM];exact⟨Own.nil _ _ _ _,f⟩
  have hP:(m.fs[k].r==0)=false:=by simpa using S
  by_cases F:n < -m.fs[k].r\/1000-m.fs[k].r<n
  ·have C:oQ m k n=3:=by unfold oQ;rw[if_neg (by omega),G,if_neg (by omega),if_pos F]
   have D:nK m k n=noM:=by unfold nK;rw[if_neg (by omega)]
   clear G;rcases F with F|F
   all_goals
    go_wp2_with (refine ax (.tmp 6) (.tmp 56) (w.heap.size+1) #[.slice none 0 0,.int .i64 0] g mem_size (G:=gL _ _ _ _) ?_)
    all_goals
     intro w5 q s;have f:=(d).grown s (d).size oG0;have i:=q.cell;go_wp2;simp[bodyPost,results,go_sem,results142,i,C,D,noM];exact⟨Own.nil _ _ _ _,f⟩
  have C:oQ m k n=0:=by unfold oQ;rw[if_neg (by omega),G,if_neg (by omega),if_neg F]
  have D:nK m k n=⟨m.fs.set k (gV m.fs[k] n),m.hand⟩:=by unfold nK;rw[if_pos C,G];rfl
  have Q1:=ae C;have Q3:=ae D;have n1:¬n < -m.fs[k].r:=by omega
  have n2:¬1000-m.fs[k].r<n:=by omega
  clear G C D F S
  go_wp2_with fail
  refine(Bp m _ c _ h1).mono ?_;rintro e w2 ⟨vb,rfl,ho,hD⟩;have hm:=ah d hD;have p:=g.ext hD;have hx:=d.size;have h5:w.heap.size+2<=Y.heap.size:=by have:=g.lt;omega
  obtain⟨xb,L,rfl,_⟩:=BJ ho;clear hV hi g h1 hD hc M;go_upto_region 9 with(fail);refine iP (λW=>Code.wp _ _ _ _ W) λw3 R y hN => ?_;have hl:=ah hm R;have hd:=p.ext R;have hH:=ho.below R;have h4:w.heap.size+2<=w2.heap.size:=by have:=hm.size;have:=p.lt;omega
  clear p ho R hN;obtain⟨E,A,capb,hM,h7,hT,⟨csg,U⟩,hK,hU,u⟩:=yD jo rfl hH k J 8 (.int .i64 (m.fs[k].r+n)) { m.fs[k]with r:=m.fs[k].r+n } rfl;cases hM;have hW:=hK 8 (.int .i64 m.fs[k].r) rfl;have z:=y.cell;clear hK;have hI:=y.lt;have hS:w2.heap.size≠E:=by intro e;subst e;unfold aK at y U;rw[y]at U;cases U
  go_upto_region 11 with(fail);have hA:=y.setCell_other ⟨E,A+k*13+8,none⟩ (.int .i64 (m.fs[k].r+n)) (by simpa using hS);have l:=hd.setCell_other ⟨E,A+k*13+8,none⟩ (.int .i64 (m.fs[k].r+n)) (by simp;omega);have j:Below w.heap.size w (w3.setCell ⟨E,A+k*13+8,none⟩ (.int .i64 (m.fs[k].r+n))):=hl.setCell (by simp;omega) _;generalize w3.setCell ⟨E,A+k*13+8,none⟩ (.int .i64 (m.fs[k].r+n))=w4 at *
  clear y hd hl hH U hU hW z hT hI;have hR:(m.fs.set k { m.fs[k]with r:=m.fs[k].r+n }).length=m.fs.length:=by simp
  have hJ : k<(m.fs.set k { m.fs[k]with r:=m.fs[k].r+n }).length:=by omega
  obtain⟨_,_,I,_,_,_,hu⟩:=u.rd;cases I;obtain⟨_,_,I,hC⟩:=Nf hu k hJ;cases I;rw[List.getElem_set_self]at hC;have M:=hC.c8;simp only at M;clear hC hu;have z:=hA.cell
  by_cases H:m.fs[k].r+n=0
  ·have hB:Hid (gV m.fs[k] n=frZ):=by unfold gV;exact if_pos H
   obtain⟨_,_,_,K,I,_,x,h6,ha⟩:=nS jo hR u k J;cases I;rw[H]at M;clear H u
   go_wp2_with (refine fV (.tmp 78) (.tmp 77) E (A+k*13) (Ak frZ) K 66 x (by show _+13<=_;omega) frame_size (wV _) ?_)
   intro w5 hG v;have hL:=ha w5 frZ hG;rw[pO]at hL;have hQ:=aG hA x v;have hb:=aG l x v;have f:Below w.heap.size w w5:=j.grown v j.size oG0;clear hG ha x hA l z M v j;have z:=hQ.cell
   go_wp2_with (refine ax (.tmp 6) (.tmp 79) (w.heap.size+1) #[.slice (some ⟨E,A,none⟩) m.fs.length L,.int .i64 m.hand] hb (m:=zC _ _ _ _ _ _ _ _) mem_size (G:=gL _ _ _ _) ?_)
   intro w8 Z o;have hF:=aA hL hb o;have t:=f.grown o f.size oG0;have i:=Z.cell;clear z;go_wp2;simp[bodyPost,results,go_sem,results142,i,Q1.out,Q3.out,hB.out];exact⟨by have:=hF.mono (show w.heap.size<=Y.heap.size from hx);simpa using this,t⟩
  have hB:Hid (gV m.fs[k] n = { m.fs[k]with r:=m.fs[k].r+n }):=by unfold gV;exact if_neg H
  have hY:(m.fs[k].r+n==0)=false:=by simpa using H
  clear H
  go_wp2_with (refine ax (.tmp 6) (.tmp 79) (w.heap.size+1) #[.slice (some ⟨E,A,none⟩) m.fs.length L,.int .i64 m.hand] l (m:=zC _ _ _ _ _ _ _ _) mem_size (G:=gL _ _ _ _) ?_)
  intro w8 Z o;have hF:=aA u l o;have t:=j.grown o j.size oG0;have i:=Z.cell;clear z;go_wp2;simp[bodyPost,results,go_sem,results142,i,Q1.out,Q3.out,hB.out];exact⟨by have:=hF.mono (show w.heap.size<=Y.heap.size from hx);simpa using this,t⟩
 have C:oQ m k n=bT m:=by unfold oQ;rw[if_pos N]
 have D:nK m k n=noM:=by unfold nK;rw[if_neg (by omega)]
 have F:(bT m != 0)=true:=by simpa using N
 go_wp2_with (refine ax (.tmp 6) (.tmp 15) (w.heap.size+1) #[.slice none 0 0,.int .i64 0] g mem_size (G:=gL _ _ _ _) ?_)
 all_goals
  intro w5 q s;have f:=(d).grown s (d).size oG0;have i:=q.cell;go_wp2;simp[bodyPost,results,go_sem,results142,i,C,D,noM];exact⟨Own.nil _ _ _ _,f⟩
theorem Sr(m:Mem)(a:Option Addr)(c:Nat)(w:World)(h:UC w a c m) :
  Calls Tryz.prog 172 #[.agg #[.slice a m.fs.length c,.int .i64 m.hand]] w λe w' => ∃vb,e = .returned (.tuple #[.agg #[vb,.int .i64 (gy m).hand],.int .i64 (iR m),.int .i64 (bT m)])/\Own w' w.heap.size 66 13 vb (gy m).fs.length ((gy m).fs.flatMap rG)/\Below w.heap.size w w':=by
 go_enter func172,ntmps172
 go_wp2_with fail
 refine uY (λW=>Calls _ _ _ W _) λW0 hV hH hz ka => ?_;refine(xM m a c _ (h.below hV)).mono ?_;rintro e w1 ⟨rfl,H⟩;have p:=ah hV H;have hh:=hH.ext H;have t:=hz.ext H;have A:=h.below p;clear hH hz H hV ka;have kj:=hh.cell
 by_cases C:bT m=0
 ·obtain⟨kl,hP,ko,kn⟩:=(eF m).1 C;rw[C]
  go_wp2_with fail
  refine(Bp m _ c _ A).mono ?_;rintro e I ⟨vb,rfl,S,R⟩;have hU:=ah p R;have hG:=hh.ext R;have hy:=t.ext R;have O:=A.below R;have hi:=p.size;have kq:w.heap.size+2<=w1.heap.size:=by have:=t.lt;omega
  have kp:w.heap.size+2<=I.heap.size:=by have:=R.size;omega
  obtain⟨xb,D,rfl,_⟩:=BJ S;clear kj hh t A R;go_upto_region 5 with(fail);refine iP (λW=>Code.wp _ _ _ _ W) λw3 U hM h9 => ?_;have hI:=ah hU U;have i:=hG.ext U;have q:=hy.ext U;have h3:=O.below U;have hL:=S.below U;clear hG hy O S U h9
  by_cases E:fO m.fs=m.fs.length
  ·have K:gy m=m:=by unfold gy;rw[if_neg (by omega),if_pos E]
   have J:iR m = -1:=by unfold iR;rw[if_neg (by omega),if_pos E]
   have hR:((fO m.fs:Int)==(m.fs.length:Int))=true:=by simp[E]
   have Q:=ae (And.intro K J);clear K J E hP;refine aR 6 [.v (.agg #[.slice a m.fs.length c,.int .i64 m.hand]),.v (.int .i64 (fO m.fs)),_,_,_,_] (aj ?_ (aj ?_ (Gf w.heap.size 0 rfl rfl (Gl i (V:=.slice a m.fs.length c) (by simp[underlying30]) rfl rfl rfl rfl (Gn rfl rfl rfl rfl (Gb (.bool true) (by simp[go_sem,hR]) rfl rfl rfl rfl rfl (aH)) (underlying30)))))) (λ_=>rfl) rfl ?_
   ·intro ρ y W C G N Z;have E1:ρ (.tmp 1) = .pointer (some ⟨w.heap.size,0,none⟩):=(G (.tmp 1) rfl).trans rfl;refine ak (.agg #[.slice a m.fs.length c,.int .i64 m.hand]) (by simp[execOp,go_sem,E1,(i.ext N).cell])
   ·intro ρ y W C G N Z;have hW:=C 17 0 rfl;have Y:y 0=_:=Z 0 rfl;have EF:=eF0 G λ_=>trivial;refine aL (aW rfl (EF _) func134 (by simp only[bU,bM,bP,hW,Y,EF];rfl)) ?_;refine(CF m a c W (h3.below N)).mono ?_;rintro e w1 ⟨rfl,H⟩;exact⟨_,rfl,H,rfl⟩
   intro y WA b _;have n:=ah hI b;have l:=q.ext b;have hB:=hM.ext b;have hK:=hL.below b;clear i q hM hL h3 b;have hE:=hB.cell
   go_wp2_with (refine ax (.tmp 2) (.tmp 23) (w.heap.size+1) #[.slice xb m.fs.length D,.int .i64 m.hand] l (m:=zC _ _ _ _ _ _ _ _) mem_size (G:=gL _ _ _ _) ?_)
   intro w8 hQ ha;have hJ:=aA hK l ha;have o:=n.grown ha n.size oG0;have hD:=hQ.cell;clear hE;go_wp2;simp[bodyPost,results,go_sem,results172,hD,Q.out.1,Q.out.2]
   first
    | exact⟨hJ.mono hi,o⟩
    | exact⟨_,⟨rfl,rfl⟩,hJ.mono hi,o⟩
    | exact⟨_,⟨rfl,C.symm⟩,hJ.mono hi,o⟩
  obtain⟨h8,h7,h6⟩:=UT m C E;have K:gy m=⟨pu m (iQ m),(jH m (iQ m+1):Nat)⟩:=by unfold gy;rw[if_neg (by omega),if_neg E]
  have J:iR m=(jH m (iQ m):Nat):=by unfold iR;rw[if_neg (by omega),if_neg E]
  have hR:((fO m.fs:Int)==(m.fs.length:Int))=false:=by simpa using(by omega:¬(fO m.fs:Int)=m.fs.length)
  have hA:0<m.fs.length:=by
   rcases zq m.fs.length with Y|Y
   ·exact absurd (by have:=Fa m.fs;omega) E
   ·exact Y
  have Q:=ae (And.intro K (And.intro J (And.intro h8 (And.intro h7 h6))));clear K J E hP h8 h7 h6;refine aR 6 [.v (.agg #[.slice a m.fs.length c,.int .i64 m.hand]),.v (.int .i64 (fO m.fs)),_,_,_,_] (aj ?_ (aj ?_ (Gf w.heap.size 0 rfl rfl (Gl i (V:=.slice a m.fs.length c) (by simp[underlying30]) rfl rfl rfl rfl (Gn rfl rfl rfl rfl (Gb (.bool false) (by simp[go_sem,hR]) rfl rfl rfl rfl rfl (aH)) (underlying30)))))) (λ_=>rfl) rfl ?_
  ·intro ρ y W C G N Z;have E1:ρ (.tmp 1) = .pointer (some ⟨w.heap.size,0,none⟩):=(G (.tmp 1) rfl).trans rfl;refine ak (.agg #[.slice a m.fs.length c,.int .i64 m.hand]) (by simp[execOp,go_sem,E1,(i.ext N).cell])
  ·intro ρ y W C G N Z;have hW:=C 17 0 rfl;have Y:y 0=_:=Z 0 rfl;have EF:=eF0 G λ_=>trivial;refine aL (aW rfl (EF _) func134 (by simp only[bU,bM,bP,hW,Y,EF];rfl)) ?_;refine(CF m a c W (h3.below N)).mono ?_;rintro e w1 ⟨rfl,H⟩;exact⟨_,rfl,H,rfl⟩
  intro y WA b _;have n:=ah hI b;have l:=q.ext b;have hB:=hM.ext b;have hK:=hL.below b;clear i q hM hL h3 b;have hX:Hid (m.hand=(jH m 0:Nat)):=by show m.hand=(jH m 0:Nat);unfold jH;rw[mG,tQ (by omega)];omega
  rw[hX.out]at hB;clear hX;go_wp2
  go_loopg [7] (2*m.fs.length) (fun gg s7 wr => ∃s:Nat,Hid (s<=iQ m)/\2*m.fs.length-s<=gg/\Below w.heap.size w wr/\aK wr I.heap.size #[.slice xb m.fs.length D,.int .i64 (jH m s)] 32/\aK wr (w.heap.size+1) #[.slice none 0 0,.int .i64 0] 32/\Own wr w.heap.size 66 13 (.slice xb m.fs.length D) m.fs.length ((pu m s).flatMap rG))
  case atStart=>exact⟨0,ae (bN _),by omega,n,hB,l,by rw[We];exact hK.mono hi⟩
  case round=>
   clear n hB l hK;obtain⟨s,hs,kt,hO,L,hN,S⟩:=hrel;obtain⟨k,M⟩:∃k,k=jH m s:=⟨_,rfl⟩;have h4:k<m.fs.length:=by rw[M];exact qZ hA s
   have kc:((k:Int)+1)%(m.fs.length:Int)=(jH m (s+1):Nat):=by
    have A:jH m (s+1)=(k+1)%m.fs.length:=by rw[M];unfold jH;rw[Nat.mod_add_mod,qX]
    rw[A,show(k:Int)+1=((k+1:Nat):Int)from by simp,<-Int.natCast_emod]
   have hC:k<(pu m s).length:=by rw[jw];exact h4
   have hq:yG m s=(decide (0<((pu m s)[k]'hC).r)&&!((pu m s)[k]'hC).u):=by subst M;exact Xx m s hA
   have hg:Hid ((pu m s).set k (unused ((pu m s)[k]'hC))=pu m (s+1)):=by subst M;exact Vu m s hA
   rw[<-M]at L;have kg:=ae M;clear M;have hE:=L.cell;have ki:=L.free;have kf:((m.fs.length:Int)==0)=false:=beq_eq_false_iff_ne.2 (by omega);have ke:¬(m.fs.length:Int)=0:=by omega
   have kd:=L.lt;have ht:=ae hq;clear hq;go_upto_region 9 with(fail);have hZ:=L.setCell 1 (.int .i64 (jH m (s+1):Nat));have d:=hN.setCell_other ⟨I.heap.size,1,none⟩ (.int .i64 (jH m (s+1):Nat)) (by simp;omega);have hY:=tK S L 1 (.int .i64 (jH m (s+1):Nat));have j:Below w.heap.size w (wr.setCell ⟨I.heap.size,1,none⟩ (.int .i64 (jH m (s+1):Nat))):=hO.setCell (by simp;omega) _;generalize wr.setCell ⟨I.heap.size,1,none⟩ (.int .i64 (jH m (s+1):Nat))=w5 at *
   have z : aK w5 I.heap.size #[.slice xb m.fs.length D,.int .i64 (jH m (s+1):Nat)] 32:=hZ;clear L hE ki hN S hO hZ kd kc kf ke;have hE:=z.cell;obtain⟨g,off,cap,hv,kv,ks,⟨csg,X⟩,hT,ku,hx⟩:=yD jo (jw m s) hY k h4 9 (.bool false) (unused ((pu m s)[k]'hC)) rfl;cases hv;generalize hF:(pu m s)[k]'hC=F at *
   have c8:=hT 8 (.int .i64 F.r) rfl;have c9:=hT 9 (.bool F.u) rfl;have km:(k:Int)<(m.fs.length:Int):=by omega
   clear hT hF;have h5:I.heap.size≠g:=by intro e;subst e;unfold aK at z X;rw[z]at X;cases X
   have kr:g≠w.heap.size+1:=by intro e;subst e;unfold aK at d X;rw[d]at X;cases X
   by_cases hr:0<F.r
   ·cases hu:F.u with
    | true=>
     rw[hu]at c9;have x:Hid (s+1<=iQ m):=by
      have A:=ht.out;rw[hu]at A;have O:s≠iQ m:=by intro e;rw[e,Q.out.2.2.2.1]at A;simp at A
      have:=hs.out;show s+1<=iQ m;omega
     clear hu;go_wp2
     go_roundg (2*m.fs.length-(s+1))
     case measure=>have:=x.out;have:=Q.out.2.2.1;omega
     case rel=>exact⟨s+1,x,aC _,j.setCell (by simp;omega) _,z.setCell_other _ _ (by simpa using h5),d.setCell_other _ _ (by simp;omega),by rw[<-hg.out];exact hx⟩
    | false=>
     rw[hu]at c9;have hS:Hid (s=iQ m):=by
      have A:=ht.out;rw[hu]at A;have O:yG m s=true:=by rw[A];simp[hr]
      have:=hs.out;rcases gB s (iQ m)with h|h
      ·rw[Q.out.2.2.2.2 s h]at O;cases O
      ·show s=iQ m;omega
     clear hu hx hg
     go_wp2_with (refine ax (.tmp 2) (.tmp 50) (w.heap.size+1) #[.slice (some ⟨g,off,none⟩) m.fs.length D,.int .i64 (jH m (s+1):Nat)] d (m:=zC _ _ _ _ _ _ _ _) mem_size (G:=gL _ _ _ _) ?_)
     intro w8 hQ ha;have hJ:=aA hY d ha;have o:=j.grown ha j.size oG0;have hD:=hQ.cell;clear hE;go_wp2;have kk:=hS.out;rw[<-kk]at Q;simp[bodyPost,results,go_sem,results172,hD,Q.out.1,Q.out.2.1,C,kg.out];exact⟨by rw[jw];exact hJ,o⟩
   have x:Hid (s+1<=iQ m):=by
    have A:=ht.out;have O:s≠iQ m:=by intro e;rw[e,Q.out.2.2.2.1]at A;simp[hr]at A
    have:=hs.out;show s+1<=iQ m;omega
   go_wp2
   go_roundg (2*m.fs.length-(s+1))
   case measure=>have:=x.out;have:=Q.out.2.2.1;omega
   case rel=>exact⟨s+1,x,aC _,j.setCell (by simp;omega) _,z.setCell_other _ _ (by simpa using h5),d.setCell_other _ _ (by simp;omega),by rw[<-hg.out];exact hx⟩
 have K:gy m=noM:=by unfold gy;rw[if_pos C]
 have J:iR m=0:=by unfold iR;rw[if_pos C]
 have G:(bT m != 0)=true:=by simpa using C
 go_wp2_with (refine ax (.tmp 2) (.tmp 13) (w.heap.size+1) #[.slice none 0 0,.int .i64 0] t mem_size (G:=gL _ _ _ _) ?_)
 intro w5 kb kh;have j:=p.grown kh p.size oG0;have hD:=kb.cell;go_wp2;simp[bodyPost,results,go_sem,results172,hD,K,J,noM];exact⟨Own.nil _ _ _ _,j⟩
theorem bO{d:TypeDesc}(p:o.op = .load ty x)(h:ρ x = .pointer (some ⟨b,off,none⟩))(e:eD w (some ⟨b,off,none⟩) vs)(n:P.underlying ty=some d)(z:aggB d=true:=by exact rfl)(s:(P.info? ty).map (·.size)=some vs.length:=by kernel_rfl):(execOp ρ o).run P w = .ok (.value (.agg vs.toArray)) w:=by
 unfold execOp;simp only[p,h,Instr.loadAt,Instr.sureAddr,lD,sF,sH,iZ e n z s]
def pq(e:En):Array Value:=#[.int .i64 e.k,.int .i64 e.n,.bool e.w]
def Cj(e:En):List Value:=(pq e).toList
theorem EP(e:En):(Cj e).length=3:=rfl
structure NM (w:World) (cs:Array Value) (t:Tb):Prop where
 sz:cs.size=8
 at' : ∀k (h:k<8),∃a c,cs[k]?=some (.slice a t[k].length c)/\t[k].length<=c/\c<=maxLen/\(a=none->c=0)/\eD w a (t[k].flatMap Cj)
theorem NM.below{t:Tb}(h:NM w cs t)(e:Below w.heap.size w w'):NM w' cs t:=
 ⟨h.sz,λk d=>by obtain⟨a,c,A,z,s,p,n⟩:=h.at' k d;exact⟨a,c,A,z,s,p,n.below e⟩⟩
theorem NM.one{t:Tb}(h:NM w cs t):cs.all (·.oneCell')=true:=by
 rw[Array.all_eq_true];intro i e;obtain⟨a,c,d,_⟩:=h.at' i (by have:=h.sz;omega);rw[wX e]at d;rw[aU d];rfl
theorem QC(h:k<8)(d:cs[k]?=some v)(w:World):(Instr.index 74 (.agg cs) (.int .i64 k)).run Tryz.prog w = .ok v w:=
 Fu underlying74 underlying72 YA (by kernel_rfl) _ k _ h d _ w
theorem tab_agg:aggB (.array 8 72)=true:=rfl
theorem tab_size:(Tryz.prog.info? 74).map (·.size)=some 8:=by kernel_rfl
theorem UR{l:List En}(h:eD w a (l.flatMap Cj))(k:Nat)(e:k<l.length):∃b off,a=some ⟨b,off,none⟩/\w.cell? ⟨b,off+k*3,none⟩=some (.int .i64 l[k].k)/\w.cell? ⟨b,off+k*3+1,none⟩=some (.int .i64 l[k].n)/\w.cell? ⟨b,off+k*3+2,none⟩=some (.bool l[k].w):=by
 obtain⟨b,off,p,d⟩:=h.elem EP (by decide) k e;exact⟨b,off,p,d 0 _ rfl,d 1 _ rfl,d 2 _ rfl⟩
theorem IL(e:En)(w:World):Calls Tryz.prog 171 #[.agg #[.int .i64 e.k,.int .i64 e.n,.bool e.w]] w λr w'=>r = .returned (.int .i64 (iE e))/\Below w.heap.size w w':=by
 go_enter func171,ntmps171;go_wp2
 all_goals go_ret
 all_goals refine⟨?_,(Below.refl _ _).alloc (aC _) _⟩
 all_goals go_light
 all_goals refine congrArg (λz=>Ending.returned (.int .i64 z)) ?_
 all_goals simp only[iE]
 all_goals simp_all
 all_goals omega
theorem Ia(t:Tb)(cs:Array Value)(w:World)(h:NM w cs t):Calls Tryz.prog 130 #[.agg cs] w λr w'=>r = .returned (.int .i64 (eU t))/\Below w.heap.size w w':=by
 go_enter func130,ntmps130;go_upto_region 1 with(fail);refine iP (λW=>Code.wp _ _ _ _ W) λW0 R v hg => ?_;clear hg
 go_wp2_with (refine kU rfl 74 (.tmp 1) rfl w.heap.size 0 rfl cs.toList v.rd _ underlying74 tab_agg (by rw[lH,h.sz];exact tab_size) ?_)
 clear v
 go_loopw [10] (fun i wr => ∃k:Nat,k<=8/\i = .int .i64 k/\Below w.heap.size w wr/\∀i (I:i<8),i<k->nQ t[i]=0) (fun i _=>8-(intOf i).toNat)
 case atStart=>exact⟨0,bN _,rfl,R,λi _ h=>absurd h (ig _)⟩
 case round=>
  obtain⟨k,hk,rfl,n,y⟩:=hrel;have H:=ae y;clear y R
  by_cases A:k<8
  ·obtain⟨a,c,U,hu,hl,hr,hh⟩:=h.at' k A;have Z:=λW=>QC A U W;have hw:decide ((k:Int)<8)=true:=by simp;omega
   unfold maxLen at hl;clear U
   by_cases F:t[k].length=0\/t[k].length=8
   ·have G:=ae F;have J:((t[k].length:Int) != 0)=true/\((t[k].length:Int) != 8)=false\/((t[k].length:Int) != 0)=false/\((t[k].length:Int) != 8)=true:=by rcases F with e|e<;>simp[e]
    clear F;rcases J with⟨J,O⟩|⟨J,O⟩
    all_goals
     go_wp2;clear Z
     go_loopw [23,5] (fun i s wr' => ∃j:Nat,j<=t[k].length/\i = .int .i64 j/\s = .bool (La t[k] j)/\Below w.heap.size w wr'/\∀i (I:i<t[k].length),i<j->iE t[k][i]=0) (fun i _ _=>t[k].length-(intOf i).toNat)
     case atStart=>exact⟨0,bN _,rfl,rfl,n,λi _ h=>absurd h (ig _)⟩
     case round=>
      obtain⟨j,hj,rfl,rfl,g,x⟩:=hrel;have K:=ae x;clear x n
      by_cases C:j<t[k].length
      ·obtain⟨b,off,rfl,c0,c1,c2⟩:=UR (hh.below g) j C
       go_wp2_with fail
       refine iP (λW=>Calls _ _ _ W _) λW3 S u hf => ?_;have m:=ah g S;clear g hf c0 c1 c2 S;refine(IL t[k][j] _).mono ?_;rintro e w4 ⟨rfl,q⟩;have l:=ah m q;have ht:=(u.ext q).cell;clear u q m
       by_cases E:iE t[k][j]=0
       ·have X:=SB t[k] j C;have Y:=ae E;rw[E];clear E;cases hs:La t[k] j
        all_goals
         rw[hs] at X;go_wp2;go_roundw
         case rel=>exact⟨j+1,by omega,by go_num,by rw[X];first | rfl | (congr 1;rw[qK];simp),l,oO K.out C Y.out⟩
         case measure=>simp[intOf];omega
       have hv:(iE t[k][j] != 0)=true:=by simpa using E
       have f:=ae (Dh k A H.out (by rw[Nc G.out j C K.out E];exact E));have d:=ae (Nc G.out j C K.out E);go_wp2;go_ret;exact⟨bI (f.out.trans d.out).symm,l⟩
      have o:=ae (CY G.out λi I=>K.out i I (by omega));have p:=ae (Wz t[k] j (by omega))
      by_cases D:0<t[k].length/\La t[k] j=false
      ·obtain⟨N,L⟩:=D;have d:=ae (o.out.trans (if_pos ⟨N,p.out▸L⟩));have f:=ae (Dh k A H.out (by rw[d.out];decide));rw[L];go_wp2;go_ret;exact⟨bI (f.out.trans d.out).symm,g⟩
      have d:=ae (o.out.trans (if_neg (λh=>D ⟨h.1,p.out.trans h.2⟩)));have z:¬0<t[k].length\/0<t[k].length/\La t[k] j=true:=by
       by_cases M:0<t[k].length
       ·exact .inr ⟨M,by simpa[M]using D⟩
       ·exact .inl M
      clear D;rcases z with N|⟨N,L⟩
      ·go_wp2;go_roundw
       case rel=>exact⟨k+1,by omega,by go_num,g,oO H.out A d.out⟩
       case measure=>simp[intOf];omega
      rw[L];go_wp2;go_roundw
      case rel=>exact⟨k+1,by omega,by go_num,g,oO H.out A d.out⟩
      case measure=>simp[intOf];omega
   have J:((t[k].length:Int) != 0)=true:=by rw[bne_iff_ne];omega
   have O:((t[k].length:Int) != 8)=true:=by rw[bne_iff_ne];omega
   have d:=ae (Ho (h:=t[k]) (by omega));have f:=ae (Dh k A H.out (by rw[d.out];decide));go_wp2;go_ret;exact⟨bI (f.out.trans d.out).symm,n⟩
  have f:=ae (DJ λi I=>H.out i I (by omega));go_wp2;go_ret;exact⟨bI f.out.symm,n⟩
theorem entry_info:(Tryz.prog.info? 68).map (λi=>(i.zero,i.size,i.bytes))=some (some (.agg #[.int .i64 0,.int .i64 0,.bool false]),3,24):=by kernel_rfl
theorem Nn(l:List En):(l.flatMap Cj).length=l.length*3:=Pw.flat_len Cj 3 EP l
theorem zm(f:En):(pq f).all (·.oneCell')=true:=by simp[pq,Value.oneCell']
theorem LH(l:List En):∀u∈l.flatMap Cj,u.oneCell' = true:=by
 intro u d;obtain⟨f,_,e⟩:=jS.1 d;have:=zm f;rw[<-iX,dG]at this;exact this u e
theorem Il(l:List En)(a:Option Addr)(c:Nat)(w:World)(s:l.length<=c)(n:a=none->c=0)(p:eD w a (l.flatMap Cj))(D:l.length*24<=140737488355328) :
  Calls Tryz.prog 106 #[.slice a l.length c] w λe w' => ∃v,e = .returned v/\Own w' w.heap.size 68 3 v l.length (l.flatMap Cj)/\Below w.heap.size w w':=by
 cases a with
 | none=>
  have E:=n rfl;have A:l=[]:=kV (by omega);subst A;subst E;have z:=λW=>nN (P:=Tryz.prog) W 72 _ none 0 0 0 0 underlying72;go_enter func106,ntmps106;go_wp2;go_ret;exact⟨_,rfl,by simpa using Own.nil _ _ _ _,Below.refl _ _⟩
 | some ad=>
  have z:=λW=>nN (P:=Tryz.prog) W 72 _ (some ad) l.length c 0 0 underlying72;go_enter func106,ntmps106
  go_wp2_with (at_builtin;go_must (refine fJ 72 rfl w.heap.size 68 (.agg #[.int .i64 0,.int .i64 0,.bool false]) 3 24 underlying72 entry_info 0 [] rfl ?own (some ad) l.length c (l.flatMap Cj) rfl (λh=>(by cases h)) s (Nn l) ?rd (LH l) (by unfold maxLen;omega) (by simpa using D) ?bb ?k))
  case own=>exact⟨rfl,.inr ⟨w.heap.size,0,0,#[],rfl,aC _,aK.new _ _ _,aC _,bN _,by simp,λj u h=>by simp at h⟩⟩
  case rd=>exact p.below ((Below.refl _ _).alloc (aC _) _)
  case bb=>exact fe
  intro v F b d;go_wp2;go_ret;exact⟨v,rfl,by simpa using b,((Below.refl _ _).alloc (aC _) _).grown d (fe) (λk C=>by cases C;exact aC _)⟩
structure xE (w:World) (B:Nat) (cs:Array Value) (t:Tb):Prop where
 sz:cs.size=8
 own:∀k (h:k<8),∃v,cs[k]?=some v/\Own w B 68 3 v t[k].length (t[k].flatMap Cj)
 apart:∀(j k:Nat) (v u:Value),j<k->cs[j]?=some v->cs[k]?=some u->∀g,v.ownBlock=some g->u.ownBlock≠some g
theorem xE.rd{t:Tb}(h:xE w B cs t):NM w cs t:=
 ⟨h.sz,λk d=>by obtain⟨v,A,z⟩:=h.own k d;obtain⟨a,c,rfl,s,p,n,e⟩:=z.rd;exact⟨a,c,A,s,p,n,e⟩⟩
theorem xE.below{t:Tb}(h:xE w B cs t)(e:Below w.heap.size w w'):xE w' B cs t:=
 ⟨h.sz,λk d=>by obtain⟨v,p,n⟩:=h.own k d;exact⟨v,p,n.below e⟩,h.apart⟩
theorem xE.mono{t:Tb}(h:xE w B cs t)(e:B'<=B):xE w B' cs t:=
 ⟨h.sz,λk d=>by obtain⟨v,p,n⟩:=h.own k d;exact⟨v,p,n.mono e⟩,h.apart⟩
theorem xE.keep{t:Tb}(h:xE w B cs t)(n:aK w g cs' T)(p:T≠68)(e:w.grownBy w' (some g)):xE w' B cs t:=
 ⟨h.sz,λk d=>by obtain⟨v,z,s⟩:=h.own k d; exact⟨v,z,aA s n (p:=p) e⟩,h.apart⟩
structure Xu (w:World) (B:Nat) (cs ca:Array Value) (t:Tb) (k:Nat):Prop where
 sz:ca.size=8
 old:∀i,k<=i->ca[i]?=cs[i]?
 own:∀i (h:i<8),i<k->∃v,ca[i]?=some v/\Own w B 68 3 v t[i].length (t[i].flatMap Cj)
 apart:∀(j i:Nat) (v u:Value),j<i->i<k->ca[j]?=some v->ca[i]?=some u->∀g,v.ownBlock=some g->u.ownBlock≠some g
theorem Xu.start{t:Tb}(h:cs.size=8):Xu w B cs cs t 0:=⟨h,λ_ _=>rfl,λ_ _ h=>absurd h (ig _),λ_ _ _ _ _ h=>absurd h (ig _)⟩
theorem Vk{e:TypeId}{n:Nat}(h:Own w B e sz v n xs)(g:Nat)(d:v.ownBlock=some g):g<w.heap.size:=by
 obtain⟨cs,p⟩:=sS h g d;exact p.lt
theorem Xu.step{t:Tb}(h:Xu w B cs ca t k)(I:B<=w.heap.size)(G:k<8)(H:Below w.heap.size w w4)(C:Own w4 w.heap.size 68 3 v t[k].length (t[k].flatMap Cj))
 (n:aK w4 b ca T) (E:T≠68) (D:w4.grownBy w5 (some b)):Xu w5 B cs (ca.setIfInBounds k v) t (k+1) where
 sz:=by simp[h.sz]
 old:=λi z=>by rw[gT (by omega)];exact h.old i (by omega)
 own:=λi z l=>by
  by_cases e:i=k
  ·subst e;exact⟨v,by rw[vG (by rw[h.sz];exact z)],aA (C.mono I) n (p:=E) D⟩
  obtain⟨u,F,A⟩:=h.own i z (by omega);exact⟨u,by rw[gT (by omega)];exact F,aA (A.below H) n (p:=E) D⟩
 apart:=λj i x y d z s p g c a=>by
  have f:j≠k:=by omega
  rw[gT (by omega)]at s
  by_cases e:i=k
  ·subst e;rw[vG (by rw[h.sz];exact G)]at p;cases p;have F:=C.ge g a;obtain⟨u,A,J⟩:=h.own j (by omega) (by omega);rw[A]at s;cases s;have:=Vk J g c;omega
  rw[gT (by omega)]at p;exact h.apart j i x y d (by omega) s p g c a
theorem Xu.fin{t:Tb}(h:Xu w B cs ca t 8):xE w B ca t:=
 ⟨h.sz,λk d=>h.own k d d,λj k v u e p n=>h.apart j k v u e (by
  rcases gB k 8 with d|d
  ·exact d
  ·rw[tT (by rw[h.sz];exact d)]at n;cases n) p n⟩
theorem Lx(t:Tb)(cs:Array Value)(w:World)(h:NM w cs t)(L:CU t):Calls Tryz.prog 63 #[.agg cs] w λr w' => ∃cs',r = .returned (.agg cs')/\xE w' w.heap.size cs' t/\Below w.heap.size w w':=by
 go_enter func63,ntmps63;go_upto_region 1 with(fail);refine uY (λW=>Code.wp _ _ _ _ W) λZ I s m X => ?_;clear X
 go_wp2_with (refine kU rfl 74 (.tmp 1) rfl w.heap.size 0 rfl cs.toList s.rd _ underlying74 tab_agg (by rw[lH,h.sz];exact tab_size) ?_)
 have H:Xu Z w.heap.size cs cs t 0:=Xu.start h.sz
 go_loopw [6] (fun i wr => ∃(k:Nat) (ca:Array Value),k<=8/\i = .int .i64 k/\Below w.heap.size w wr/\aK wr w.heap.size ca 74/\aK wr (w.heap.size+1) #[.slice none 0 0,.slice none 0 0,.slice none 0 0,.slice none 0 0,.slice none 0 0,.slice none 0 0,.slice none 0 0,.slice none 0 0] 74/\Xu wr w.heap.size cs ca t k) (fun i _=>8-(intOf i).toNat)
 case atStart=>exact⟨0,cs,bN _,rfl,I,s,m,H⟩
 case round=>
  obtain⟨k,ca,G,rfl,g,D,f,C⟩:=hrel;clear I s m H
  by_cases A:k<8
  ·obtain⟨a,c,x,R,hn,z,U⟩:=h.at' k A;have O:=λW=>QC A x W;have hq:decide ((k:Int)<8)=true:=by simp;omega
   have J:=(C.old k (aC _)).trans x;have F:=ae J;clear J x
   go_wp2_with fail
   refine (Il t[k] a c _ R z (U.below g) (L k A)).mono ?_;rintro e w4 ⟨v,rfl,E,o⟩;have d:=ah g o;have j:=D.ext o;have l:=f.ext o;have hr:=(j.cell k).trans F.out;have hp:=j.free k;have n:=aD w4 w.heap.size k [v];have M:=C.step g.size A o E j (by decide) n;have Y:aK (w4.setCell ⟨w.heap.size,k,none⟩ v) w.heap.size (ca.setIfInBounds k v) 74:=j.setCell k v;have u:=l.setCell_other ⟨w.heap.size,k,none⟩ v (by simp);have b:Below w.heap.size w (w4.setCell ⟨w.heap.size,k,none⟩ v):=d.grown n d.size (λk G=>by cases G;exact aC _);obtain⟨xa,xc,rfl,_⟩:=E.rd;clear j l g D f C d o E n O;go_wp2;go_roundw
   case rel=>exact⟨k+1,_,by omega,by go_num,b,Y,u,M⟩
   case measure=>simp[intOf];omega
  obtain rfl:k=8:=by omega
  have K:=C.fin;have y:=K.rd.one;have p:=C.sz
  go_wp2_with (first | (refine kU rfl 74 (.tmp 1) rfl w.heap.size 0 rfl ca.toList D.rd _ underlying74 tab_agg (by rw[lH,p];exact tab_size) ?_) | (refine ax (.tmp 2) (.tmp 15) (w.heap.size+1) ca f (m:=(by rw[p];rfl)) (by rw[p];exact tab_size) (G:=y) ?_))
  intro w5 S q;have N:=K.keep f (by decide) q;have b:Below w.heap.size w w5:=g.grown q g.size oG0;go_wp2;refine bodyPost_ret (v:=.agg ca) (results_cell_row results63 _ _ (w.heap.size+1) _ ca _ _ rfl S underlying74 rfl (by rw[p];exact tab_size)) rfl ?_;exact⟨_,rfl,N,b⟩
theorem entry_size:(Tryz.prog.info? 68).map (·.size)=some 3:=by kernel_rfl
theorem aaf{l:List En}(h:eD w a (l.flatMap Cj))(k:Nat)(d:k<l.length):∃b off E,a=some ⟨b,off,none⟩/\l[k]?=some E/\w.cell? ⟨b,off+k*3,none⟩=some (.int .i64 E.k)/\w.cell? ⟨b,off+k*3+1,none⟩=some (.int .i64 E.n)/\w.cell? ⟨b,off+k*3+2,none⟩=some (.bool E.w):=by
 obtain⟨b,off,e,z,s,p⟩:=UR h k d;exact⟨b,off,l[k],e,aM d,z,s,p⟩
theorem Bo(t:Tb)(cs:Array Value)(n:Int)(w:World)(h:NM w cs t):Calls Tryz.prog 42 #[.agg cs,.int .i64 n] w λr w'=>r = .returned (.agg (pq (dR t n)))/\Below w.heap.size w w':=by
 by_cases D:0<=n/\n<64
 ·obtain⟨q,r,G,J,m,O,R⟩:=zi D;have F:=Bz (t:=t) G J;rw[<-m]at F;have I:=ae F;have HN:=ae m;obtain⟨N,M⟩:=D;have y:decide (n<0)=false:=by simp;omega
  have x:decide (64<=n)=false:=by simp;omega
  obtain⟨a,c,s,S,z,hb,u⟩:=h.at' q G;unfold maxLen at z;clear F m;go_enter func42,ntmps42;go_upto_region 1 with(fail);refine uY (λW=>Code.wp _ _ _ _ W) λL i o f l => ?_;clear l;have K:=(o.cell q).trans s;have p:=u.below i;have Y : (q:Int)<8:=by omega
  by_cases C:t[q].length=8
  ·obtain⟨b,off,E,rfl,H,c0,c1,c2⟩:=aaf p r (by omega);have e:dR t n=E:=by rw[I.out,if_pos C,bA,H];rfl
   have A:=ae e;have Z : (r:Int)<8:=by omega
   rw[C]at K;clear C s H h e
   go_wp2_with (refine ax (.tmp 4) (.tmp 27) (w.heap.size+1) (pq E) f entry_size (G:=zm _) ?_)
   all_goals
    intro w5 j g;have d:Below w.heap.size w w5:=i.grown g i.size oG0;go_wp2;refine bodyPost_ret (v:=.agg (pq E)) (results_cell_row results42 _ _ (w.heap.size+1) _ _ _ _ rfl j underlying68 rfl entry_size) rfl ?_;exact⟨by rw[A.out],d⟩
  have X:((t[q].length:Int) != 8)=true:=by rw[bne_iff_ne];omega
  have e:dR t n=zEn:=by rw[I.out,if_neg C]
  have A:=ae e;clear e
  go_wp2_with (refine ax (.tmp 4) (.tmp 19) (w.heap.size+1) (pq zEn) f entry_size (G:=zm _) ?_)
  all_goals
   intro w5 j g;have d:Below w.heap.size w w5:=i.grown g i.size oG0;go_wp2;refine bodyPost_ret (v:=.agg (pq zEn)) (results_cell_row results42 _ _ (w.heap.size+1) _ _ _ _ rfl j underlying68 rfl entry_size) rfl ?_;exact⟨by rw[A.out],d⟩
 have e:dR t n=zEn:=uP;have A:=ae e;have U : n<0\/64<=n:=by omega
 clear e D;go_enter func42,ntmps42;go_upto_region 1 with(fail);refine uY (λW=>Code.wp _ _ _ _ W) λL i o f l => ?_;clear l
 by_cases y:n<0
 ·skip
  go_wp2_with (refine ax (.tmp 4) (.tmp 19) (w.heap.size+1) (pq zEn) f entry_size (G:=zm _) ?_)
  all_goals
   intro w5 j g;have d:Below w.heap.size w w5:=i.grown g i.size oG0;go_wp2;refine bodyPost_ret (v:=.agg (pq zEn)) (results_cell_row results42 _ _ (w.heap.size+1) _ _ _ _ rfl j underlying68 rfl entry_size) rfl ?_;exact⟨by rw[A.out],d⟩
 have x:64<=n:=by omega
 have hc : decide (n<0)=false:=by simp;omega
 go_wp2_with (refine ax (.tmp 4) (.tmp 19) (w.heap.size+1) (pq zEn) f entry_size (G:=zm _) ?_)
 all_goals
  intro w5 j g;have d:Below w.heap.size w w5:=i.grown g i.size oG0;go_wp2;refine bodyPost_ret (v:=.agg (pq zEn)) (results_cell_row results42 _ _ (w.heap.size+1) _ _ _ _ rfl j underlying68 rfl entry_size) rfl ?_;exact⟨by rw[A.out],d⟩
theorem slent_size:(Tryz.prog.info? 72).map (·.size)=some 1:=by kernel_rfl
theorem PT(e:En):∀u∈Cj e,u.oneCell' = true:=by
 intro u d;have:=zm e;rw[<-iX,dG]at this;exact this u d
theorem Va(e:En)(w:World):Calls Tryz.prog 177 #[.agg #[.int .i64 e.k,.int .i64 e.n,.bool e.w]] w λr w'=>r = .returned (.bool (qA e))/\Below w.heap.size w w':=by
 go_enter func177,ntmps177;go_wp2;go_ret;exact⟨cB (by unfold qA;rw[qK];simp),(Below.refl _ _).alloc (aC _) _⟩
theorem Uh(l:List En)(a:Option Addr)(c:Nat)(w:World)(s:eD w a (l.flatMap Cj))(C:l.length<=9223372036854775807) :
  Calls Tryz.prog 202 #[.slice a l.length c,.func (.func 177) #[] #[]] w λe w'=>e = .returned (.int .i64 (idx qA l))/\Below w.heap.size w w':=by
 go_enter func202,ntmps202;go_wp2
 go_loopw [8] (fun i wr => ∃k:Nat,k<=l.length/\i = .int .i64 k/\Below w.heap.size w wr/\∀i (h:i<l.length),i<k->qA l[i]=false) (fun i _=>l.length-(intOf i).toNat)
 case atStart=>exact⟨0,bN _,rfl,Below.refl _ _,λi _ h=>absurd h (ig _)⟩
 case round=>
  obtain⟨k,D,rfl,g,m⟩:=hrel;have z:=ae m;clear m
  by_cases p:k<l.length
  ·obtain⟨b,off,rfl,c0,c1,c2⟩:=UR (s.below g) k p
   go_wp2_with fail
   refine(Va l[k] _).mono ?_;rintro e A ⟨rfl,n⟩;have f:=ah g n;clear n;cases hpk:qA l[k]
   ·have j:=ae hpk;clear hpk;go_wp2;go_roundw
    case rel=>exact⟨k+1,by omega,by go_num,f,oO z.out p j.out⟩
    case measure=>simp[intOf];omega
   have d:=ae (qH qA l k p z.out hpk);clear hpk;go_wp2;go_ret;exact⟨bI d.out.symm,f⟩
  have d:=ae (ll qA l λi h=>z.out i h (by omega));go_wp2;go_ret;exact⟨bI d.out.symm,g⟩
theorem Qb(l:List En)(a:Option Addr)(c:Nat)(w:World)(d:eD w a (l.flatMap Cj))(h:l.length<=9223372036854775807) :
  Calls Tryz.prog 176 #[.slice a l.length c,.func (.func 177) #[] #[]] w λe w'=>e = .returned (.bool (l.any qA))/\Below w.heap.size w w':=by
 go_enter func176,ntmps176
 go_wp2_with fail
 refine(Uh l a c _ d h).mono ?_;rintro e n ⟨rfl,b⟩;go_wp2;go_ret;exact⟨cB (tN _ _),b⟩
theorem GD(w:World)(B:Nat):xE w B #[.slice none 0 0,.slice none 0 0,.slice none 0 0,.slice none 0 0,.slice none 0 0,.slice none 0 0,.slice none 0 0,.slice none 0 0] zTb where
 sz:=rfl
 own:=λk e=>by
  refine⟨.slice none 0 0,?_,by simpa[zTb]using Own.nil w B 68 3⟩
  match k,e with
  | 0,_=>rfl
  | 1,_=>rfl
  | 2,_=>rfl
  | 3,_=>rfl
  | 4,_=>rfl
  | 5,_=>rfl
  | 6,_=>rfl
  | 7,_=>rfl
 apart:=λj k v u h d p g n=>by
  have:v = .slice none 0 0:=by
   match j with
   | 0=>cases d;rfl
   | 1=>cases d;rfl
   | 2=>cases d;rfl
   | 3=>cases d;rfl
   | 4=>cases d;rfl
   | 5=>cases d;rfl
   | 6=>cases d;rfl
   | 7=>cases d;rfl
   | j+8=>cases d
  subst this;cases n
theorem xE.put{t:Tb}(h:xE w B cs t)(z:q<8){l:List En}(C:Own w B 68 3 v l.length (l.flatMap Cj))
 (d:∀g,v.ownBlock=some g->∀j u,j≠q->cs[j]?=some u->u.ownBlock≠some g):xE w B (cs.setIfInBounds q v) (t.set q l) where
 sz:=by simp[h.sz]
 own:=λk A=>by
  by_cases e:k=q
  ·subst e;exact⟨v,by rw[vG (by rw[h.sz];exact A)],by simpa using C⟩
  obtain⟨u,E,D⟩:=h.own k A;exact⟨u,by rw[gT (λn=>e n.symm)];exact E,by rw[KV z A (λn=>e n.symm)];exact D⟩
 apart:=λj k x y c s p g b a=>by
  by_cases e:j=q
  ·subst e;rw[vG (by rw[h.sz];exact z)]at s;cases s;rw[gT (by omega)]at p;exact d g b k y (by omega) p a
  rw[gT (λn=>e n.symm)]at s
  by_cases n:k=q
  ·subst n;rw[vG (by rw[h.sz];exact z)]at p;cases p;exact d g a j x e s b
  rw[gT (λF=>n F.symm)]at p;exact h.apart j k x y c s p g b a
theorem xE.wr{t:Tb}(h:xE w B cs t)(z:q<8)(C:r<t[q].length) :
  ∃g off cap cur,cs[q]?=some (.slice (some ⟨g,off,none⟩) t[q].length cap)/\B<=g/\aK w g cur 68/\off+r*3+3<=cur.size /\
   (∀j y,(Cj (t[q][r]))[j]?=some y->w.cell? ⟨g,off+r*3+j,none⟩=some y) /\
   ∀w' x,aK w' g (dO cur (off+r*3) (Cj x)) 68->w.grownBy w' (some g)->xE w' B cs (t.set q (t[q].set r x)):=by
 obtain⟨v,p,H⟩:=h.own q z;obtain⟨g,off,cap,cur,rfl,F,E,d,a,b⟩:=H.put EP (by decide) r C;refine⟨g,off,cap,cur,p,F,E,d,a,λw' x i f=>⟨h.sz,λk A => ?_,h.apart⟩⟩
 by_cases e:k=q
 ·subst e;exact⟨_,p,by simpa using b w' x i⟩
 obtain⟨u,s,G⟩:=h.own k A;refine⟨u,s,?_⟩;rw[KV z A (λI=>e I.symm)];refine G.grown f λJ c D => ?_;cases D;rcases rO e with n|n
 ·exact h.apart k q _ _ n s p g c rfl
 ·exact h.apart q k _ _ n p s g rfl c
theorem Wn(t:Tb)(cs:Array Value)(n:Int)(e:En)(w:World)(h:NM w cs t)(hz:CU t):Calls Tryz.prog 137 #[.agg cs,.int .i64 n,.agg (pq e)] w λr w' => ∃cs',r = .returned (.tuple #[.agg cs',.int .i64 (setE t n e)])/\xE w' w.heap.size cs' (setT t n e)/\Below w.heap.size w w':=by
 go_enter func137,ntmps137;go_upto_region 1 with(fail);refine SX (λW=>Code.wp _ _ _ _ W) λW0 kA kr kL hY hT => ?_;clear hT
 go_wp2_with (refine kU rfl 74 (.tmp 3) rfl w.heap.size 0 rfl cs.toList kr.rd _ underlying74 tab_agg (by rw[lH,h.sz];exact tab_size) ?_)
 refine(Ia t cs _ (h.below kA)).mono ?_;rintro r w1 ⟨rfl,kb⟩;have c:=ah kA kb;have hx:=kr.ext kb;have he:=kL.ext kb;have o:=hY.ext kb;clear kA kr kL hY kb
 by_cases E:eU t=0
 ·have H0:=ae E;rw[E];clear E
  by_cases hn:0<=n/\n<64
  ·obtain⟨q,r,D,hr,kF,gf,kX⟩:=zi hn;have HN:=ae kF;clear kF;obtain⟨n0,n1⟩:=hn;have kw:decide (n<0)=false:=by simp;omega
   have kv:decide (64<=n)=false:=by simp;omega
   have ga : (q:Int)<8:=by omega
   have kS : (r:Int)<8:=by omega
   have kW:n.tmod 8=(r:Int):=by rw[Int.tmod_eq_emod_of_nonneg n0];exact kX
   go_wp2_with (refine kU rfl 68 (.tmp 5) rfl (w.heap.size+1) 0 rfl (pq e).toList he.rd _ underlying68 rfl entry_size ?_)
   refine(IL e _).mono ?_;rintro x w2 ⟨rfl,Z⟩;have i:=ah c Z;have kC:=hx.ext Z;have kK:=he.ext Z;have hl:=o.ext Z;clear c hx he o Z
   by_cases K:iE e=0
   ·have hT:setE t n e=0:=by unfold setE;rw[if_neg (by rw[H0.out];simp),if_neg (by omega),K]
    have HS:=ae hT;have hJ:=ae (Qv hT D hr HN.out);rw[K];clear K hT
    go_wp2_with (refine kU rfl 74 (.tmp 3) rfl w.heap.size 0 rfl cs.toList kC.rd _ underlying74 tab_agg (by rw[lH,h.sz];exact tab_size) ?_)
    refine(Lx t cs _ (h.below i) hz).mono ?_;rintro x J ⟨ca,rfl,kj,kh⟩;have f:=ah i kh;have kJ:=kK.ext kh;have hi:=hl.ext kh;have kk:=kj.rd.one;have hR:=kj.sz;have ko:=kj.mono i.size;clear i kC kK hl kh kj
    go_wp2_with (refine ax (.tmp 10) (.tmp 32) J.heap.size ca (aK.new _ _ _) (m:=(by rw[hR];rfl)) (by rw[hR];exact tab_size) (G:=kk) ?_)
    intro w4 S hy;have R:=(ko.below ((Below.refl _ _).alloc (aC _) _)).keep (aK.new _ _ _) (by decide) hy;have ke:=aG (kJ.alloc _) (aK.new _ _ _) hy;have hh:aK w4 (w.heap.size+2) _ _:=(hi.alloc _).grown hy (λe=>by have:=aU e;have:=hi.lt;omega);have z:Below w.heap.size w w4:=(f.alloc f.size _).grown hy (eO f.size) (λk C=>by cases C;exact f.size);have gd:w.heap.size+2<J.heap.size:=hi.lt;have ge:J.heap.size<w4.heap.size:=S.lt;clear kJ hi hy ko kk;have h6:=ui (oP H0.out q D);obtain⟨v,hv,h5⟩:=R.own q D;obtain⟨av,cv,rfl,k5,k4,_⟩:=h5.rd;have HV:=ae hv;have kg:=(S.cell q).trans hv;rcases h6 with E|h8
    case' inl=>
     have H00:=ae E;rw[E]at kg;clear hv h5 E
     go_wp2_with (refine zD _ rfl (.const (.int .i64 8)) (.const (.int .i64 8)) 72 rfl Cj 68 _ 3 24 zEn EP underlying72 entry_info rfl .i64 .i64 8 8 8 rfl rfl rfl rfl (by unfold maxLen;omega) ?_)
     intro w5 kE b;have hQ:=S.grown b (by simp);have kI:=ke.grown b (by simp);have hX:=hh.grown b (by simp);have kO:xE w5 w.heap.size ca t:=R.below (vF b);have a:=ah z (vF b);have km:∀g,(Value.slice (some ⟨w4.heap.size,0,none⟩) 8 8).ownBlock=some g->∀j u,j≠q->ca[j]?=some u->u.ownBlock≠some g:=by
      intro g hg j u hj L kV;cases hg;obtain⟨v',kD,kT⟩:=R.own j (by
       rcases gB j 8 with C|C
       ·exact C
       ·rw[tT (by rw[hR];exact C)]at L;cases L)
      rw[L]at kD;cases kD;exact absurd (Vk kT _ kV) (Nat.lt_irrefl _)
     go_wp2_with (refine aY (x:=.tmp 43) (y:=.tmp 42) J.heap.size q [.slice (some ⟨w4.heap.size,0,none⟩) 8 8] rfl rfl rfl _ _ hQ (by rw[hR];exact D) slent_size (λu L=>by cases bF.1 L;rfl) ?_)
     intro w6 H O;rw[Pw.putAt_one]at H;have kl : Own w5 w.heap.size 68 3 (.slice (some ⟨w4.heap.size,0,none⟩) 8 8) (List.replicate 8 zEn).length ((List.replicate 8 zEn).flatMap Cj):=kE.mono z.size;have F:=(kO.keep hQ (by decide) O).put D (aA kl hQ O) km;have kz:=aG kI hQ O;have hD:aK w6 (w.heap.size+2) _ _:=hX.grown O (λe=>by have:=aU e;omega);have hI:=a.grown O a.size (λk C=>by cases C;exact f.size);have kf:(ca.setIfInBounds q (Value.slice (some ⟨w4.heap.size,0,none⟩) 8 8))[q]?=some (.slice (some ⟨w4.heap.size,0,none⟩) 8 8):=vG (by rw[hR];exact D);have HH:Hid (∀l,(t.set q (List.replicate 8 zEn)).set q l=t.set q l):=ae (λl=>by simp);have X:Hid ((t.set q (List.replicate 8 zEn))[q]=(if t[q].length=0 then List.replicate 8 zEn else t[q])):=ae (by rw[if_pos H00.out];simp);have A:Hid ((t.set q (List.replicate 8 zEn))[q].length=8):=ae (by simp);go_upto_region 13 with(fail);generalize hT6:t.set q (List.replicate 8 zEn)=t6 at HH X A F;generalize hC6:ca.setIfInBounds q (Value.slice (some ⟨w4.heap.size,0,none⟩) 8 8)=c6 at kf F H;have kR:=H.lt;clear hT6 hC6 hQ kI hX kO a b O km kE kl S ke hh R z kg kw kv
    case' inr=>
     have H:=S;have kz:=ke;have hD:=hh;have F:=R;have hI:=z;have kf:=HV.out;have kM:=kg;rw[h8]at kM;have X:Hid (t[q]=(if t[q].length=0 then List.replicate 8 zEn else t[q])):=ae (by rw[if_neg (by omega)]);have A:Hid (t[q].length=8):=ae h8;have gc:((8:Int)==0)=false:=by decide
     clear h8 hv h5 kg;go_upto_region 13 with(fail);generalize hT6:t[q]=tq at X A;obtain⟨t6,Y⟩:∃t6,t6=t:=⟨_,rfl⟩;have HH:Hid (∀l:List En,t6.set q l D=t.set q l D):=ae (λl=>by rw[Y]);have X:Hid (t6[q]=(if t[q].length=0 then List.replicate 8 zEn else t[q])):=ae (by rw[Y,hT6];exact X.out);have A:Hid (t6[q].length=8):=ae (by rw[Y,hT6];exact A.out);have F:xE w4 w.heap.size ca t6:=by rw[Y];exact F
     have kR:=H.lt;obtain⟨c6,hC6⟩:∃c6,c6=ca:=⟨_,rfl⟩;rw[<-hC6]at kf F H;clear hT6 Y hC6 S ke hh R z kM kw kv
    all_goals
     obtain⟨g,off,cap,cur,kx,k1,kZ,k7,_,hJ⟩:=F.wr D (r:=r) (by rw[A.out];exact hr);rw[A.out]at kx;clear kf;have I:=ae kx;clear kx;refine aR 7 [_,_,_,_,_,_,.v (.pointer (some ⟨g,off+r*3,none⟩))] (Gk rfl (Gk rfl (Gc (.slice (some ⟨g,off,none⟩) 8 cap) (λW hb=>by simp[(((H.ext hb).cell q).trans I.out),underlying72]) rfl rfl rfl rfl (Gk rfl (Gb (.int .i64 r) (by simp[go_sem,kW]) rfl rfl rfl rfl rfl (Gr (.agg (pq e)) (λρ y W hb k0=>(cz rfl (bi rfl k0) (kz.ext hb) underlying68 entry_size)) rfl rfl (aj ?_ (aH)))))))) (λ_=>rfl) rfl ?_
     ·intro ρ y W hw hn hb hd;have k3:=hw 46 2 rfl;have h2:y 2=_:=hd 2 rfl;have k2:=hw 48 4 rfl;have h4:y 4=_:=hd 4 rfl;refine ak (.pointer (some ⟨g,off+r*3,none⟩)) (by simp[execOp,go_sem,k3,h2,k2,h4,underlying72,kS])
     intro y WA hA _;have kq:=H.ext hA;have hV:=hD.ext hA;have hH:=ah hI hA;have k9:J.heap.size<WA.heap.size:=kq.lt;clear kZ hJ;obtain⟨g2,off2,cap2,cur2,kn,k8,hL,ky,_,hS⟩:=(F.below hA).wr D (r:=r) (by rw[A.out];exact hr);have kP:=aU (I.out.symm.trans kn);simp only[iW,fM,mD,and_true]at kP;obtain⟨⟨rfl,rfl⟩,kG,rfl⟩:=kP;clear kn kG H hD hI hA
     go_wp2_with (refine aY (x:=.tmp 50) (y:=.tmp 49) g (off+r*3) (Cj e) rfl rfl rfl _ _ hL ky entry_size (PT e) ?_)
     intro w8 kN ht;have ki:=hS w8 e kN ht;have kp:=aG kq hL ht;have hU:=aG hV hL ht;have h7:=hH.grown ht hH.size (λk C=>by cases C;exact k1);have kY:=(kp.cell q).trans I.out;have hC:Hid (t6.set q (t6[q].set r e)=t.set q (t6[q].set r e)):=ae (HH.out _);have h6:Hid ((t6[q].set r e).length=8):=ae (by rw[bV];exact A.out);have hZ:eD w8 (some ⟨g,off,none⟩) ((t6[q].set r e).flatMap Cj):=by obtain⟨v,K,h2⟩:=ki.own q D;obtain rfl:=aU (I.out.symm.trans K);obtain⟨a',c',h3,_,_,_,h4⟩:=h2.rd;simp only[iW]at h3;obtain⟨rfl,_,_⟩:=h3;simpa using h4
     have hB:Hid (setH t[q] r e=if(t6[q].set r e).any qA then t6[q].set r e else[]):=ae (by rw[X.out];rfl);clear kq hV hH hL kN ht hS F kz;generalize hl8e:t6[q].set r e=l8 at hC h6 hZ hB ki;clear hl8e;have HC:∀W,eD W (some ⟨g,off,none⟩) (l8.flatMap Cj)->Calls Tryz.prog 176 #[.slice (some ⟨g,off,none⟩) 8 cap,.func (.func 177) #[] #[]] W λe w'=>e = .returned (.bool (l8.any qA))/\Below W.heap.size W w':=by intro W hW;have:=Qb l8 (some ⟨g,off,none⟩) cap W hW (by rw[h6.out];decide);rw[h6.out]at this;exact this
     have HC':=ae HC;clear HC
     go_wp2_with fail
     refine(HC'.out _ hZ).mono ?_;rintro x w9 ⟨rfl,h9⟩;have hP:=kp.ext h9;have hf:=hU.ext h9;have s:=ah h7 h9;have kd:=ki.below h9;have kQ:=kd.sz;clear kp hU h7 ki hZ h9 kY;cases C:l8.any qA
     ·have kH:Hid (t.set q (setH t[q] r e)=t.set q []):=ae (by rw[hB.out,C];rfl);have ku:∀u∈[Value.slice none 0 0],u.oneCell' = true:=λu L=>by cases bF.1 L;rfl
      clear hB
      go_wp2_with (refine aY (x:=.tmp 57) (y:=.const (.slice none 0 0)) J.heap.size q [.slice none 0 0] rfl rfl rfl _ _ hP (by rw[kQ];exact D) slent_size ku ?_)
      intro wa U hK;rw[Pw.putAt_one]at U;have G:=(kd.keep hP (by decide) hK).put D (v:=.slice none 0 0) (l:=[]) (Own.nil _ _ _ _) (λg hg=>by cases hg);have m:aK wa (w.heap.size+2) _ _:=hf.grown hK (λe=>by have:=aU e;omega);have p:=s.grown hK s.size (λk C=>by cases C;exact f.size);have ks:Hid ((t6.set q l8).set q []=t.set q (setH t[q] r e)):=ae (by rw[hC.out,kH.out];simp);clear hP hf s kd hK;generalize hCa:c6.setIfInBounds q (Value.slice none 0 0)=ca2 at G U;clear hCa;have hF:=G.rd.one;have d:=G.sz
      go_wp2_with (first | (refine kU rfl 74 (.tmp 10) rfl J.heap.size 0 rfl ca2.toList U.rd _ underlying74 tab_agg (by rw[lH,d];exact tab_size) ?_) | (refine ax (.tmp 6) (.tmp 58) (w.heap.size+2) ca2 m (m:=(by rw[d];rfl)) (by rw[d];exact tab_size) (G:=hF) ?_))
      intro wb kt hs;have kB:=G.keep m (by decide) hs;have hG:=p.grown hs p.size oG0;go_wp2;refine bodyPost_ret (v:=.tuple #[.agg ca2,.int .i64 0]) (dH results137 (w.heap.size+2) kt underlying74 (by rw[d];exact tab_size)) rfl ?_;exact⟨_,by rw[HS.out],by rw[hJ.out,<-ks.out];exact kB,hG⟩
     have ks:Hid (t6.set q l8=t.set q (setH t[q] r e)):=ae (by rw[hC.out,hB.out,C];rfl);have G:=kd;have U:=hP;have m:=hf;have p:=s;clear hP hf s kd hB;generalize hCa:c6=ca2 at G U;clear hCa;have hF:=G.rd.one;have d:=G.sz
     go_wp2_with (first | (refine kU rfl 74 (.tmp 10) rfl J.heap.size 0 rfl ca2.toList U.rd _ underlying74 tab_agg (by rw[lH,d];exact tab_size) ?_) | (refine ax (.tmp 6) (.tmp 58) (w.heap.size+2) ca2 m (m:=(by rw[d];rfl)) (by rw[d];exact tab_size) (G:=hF) ?_))
     intro wb kt hs;have kB:=G.keep m (by decide) hs;have hG:=p.grown hs p.size oG0;go_wp2;refine bodyPost_ret (v:=.tuple #[.agg ca2,.int .i64 0]) (dH results137 (w.heap.size+2) kt underlying74 (by rw[d];exact tab_size)) rfl ?_;exact⟨_,by rw[HS.out],by rw[hJ.out,<-ks.out];exact kB,hG⟩
   have N:Hid (setE t n e=iE e/\iE e≠0):=ae ⟨by unfold setE;rw[if_neg (by rw[H0.out];simp),if_neg (by omega)],K⟩;have gg : (iE e != 0)=true:=by simpa using K
   have c:=i;have o:=hl;clear K i hl
   go_wp2_with (refine ax (.tmp 6) (.tmp 29) (w.heap.size+2) #[.slice none 0 0,.slice none 0 0,.slice none 0 0,.slice none 0 0,.slice none 0 0,.slice none 0 0,.slice none 0 0,.slice none 0 0] o tab_size (G:=(by simp[Value.oneCell'])) ?_)
   all_goals
    intro w5 M b;have a:Below w.heap.size w w5:=c.grown b c.size oG0;go_wp2;refine bodyPost_ret (v:=.tuple #[.agg #[.slice none 0 0,.slice none 0 0,.slice none 0 0,.slice none 0 0,.slice none 0 0,.slice none 0 0,.slice none 0 0,.slice none 0 0],.int .i64 (iE e)]) (dH results137 (w.heap.size+2) M underlying74 tab_size) rfl ?_;have q:=N.out;exact⟨_,by rw[q.1],by rw[yL (by rw[q.1];exact q.2)];exact GD _ _,a⟩
  have N:Hid (setE t n e=3/\(3:Int)≠0):=ae ⟨by unfold setE;rw[if_neg (by rw[H0.out];simp),if_pos (by omega)],by decide⟩;have gb : n<0\/64<=n:=by omega
  clear hn
  by_cases kw:n<0
  ·skip
   go_wp2_with (refine ax (.tmp 6) (.tmp 24) (w.heap.size+2) #[.slice none 0 0,.slice none 0 0,.slice none 0 0,.slice none 0 0,.slice none 0 0,.slice none 0 0,.slice none 0 0,.slice none 0 0] o tab_size (G:=(by simp[Value.oneCell'])) ?_)
   all_goals
    intro w5 M b;have a:Below w.heap.size w w5:=c.grown b c.size oG0;go_wp2;refine bodyPost_ret (v:=.tuple #[.agg #[.slice none 0 0,.slice none 0 0,.slice none 0 0,.slice none 0 0,.slice none 0 0,.slice none 0 0,.slice none 0 0,.slice none 0 0],.int .i64 (3)]) (dH results137 (w.heap.size+2) M underlying74 tab_size) rfl ?_;have q:=N.out;exact⟨_,by rw[q.1],by rw[yL (by rw[q.1];exact q.2)];exact GD _ _,a⟩
  have kv:64<=n:=by omega
  have k6 : decide (n<0)=false:=by simp;omega
  go_wp2_with (refine ax (.tmp 6) (.tmp 24) (w.heap.size+2) #[.slice none 0 0,.slice none 0 0,.slice none 0 0,.slice none 0 0,.slice none 0 0,.slice none 0 0,.slice none 0 0,.slice none 0 0] o tab_size (G:=(by simp[Value.oneCell'])) ?_)
  all_goals
   intro w5 M b;have a:Below w.heap.size w w5:=c.grown b c.size oG0;go_wp2;refine bodyPost_ret (v:=.tuple #[.agg #[.slice none 0 0,.slice none 0 0,.slice none 0 0,.slice none 0 0,.slice none 0 0,.slice none 0 0,.slice none 0 0,.slice none 0 0],.int .i64 (3)]) (dH results137 (w.heap.size+2) M underlying74 tab_size) rfl ?_;have q:=N.out;exact⟨_,by rw[q.1],by rw[yL (by rw[q.1];exact q.2)];exact GD _ _,a⟩
 have N:Hid (setE t n e=eU t/\eU t≠0):=ae ⟨by unfold setE;rw[if_pos E],E⟩;have gh : (eU t != 0)=true:=by simpa using E
 clear E
 go_wp2_with (refine ax (.tmp 6) (.tmp 16) (w.heap.size+2) #[.slice none 0 0,.slice none 0 0,.slice none 0 0,.slice none 0 0,.slice none 0 0,.slice none 0 0,.slice none 0 0,.slice none 0 0] o tab_size (G:=(by simp[Value.oneCell'])) ?_)
 all_goals
  intro w5 M b;have a:Below w.heap.size w w5:=c.grown b c.size oG0;go_wp2;refine bodyPost_ret (v:=.tuple #[.agg #[.slice none 0 0,.slice none 0 0,.slice none 0 0,.slice none 0 0,.slice none 0 0,.slice none 0 0,.slice none 0 0,.slice none 0 0],.int .i64 (eU t)]) (dH results137 (w.heap.size+2) M underlying74 tab_size) rfl ?_;have q:=N.out;exact⟨_,by rw[q.1],by rw[yL (by rw[q.1];exact q.2)];exact GD _ _,a⟩
theorem wI(t:Tb)(cs:Array Value)(n:Int)(w:World)(h:NM w cs t):Calls Tryz.prog 42 #[.agg cs,.int .i64 n] w λr w'=>r = .returned (.agg #[.int .i64 (dR t n).k,.int .i64 (dR t n).n,.bool (dR t n).w])/\Below w.heap.size w w':=Bo t cs n w h
theorem aax(E:En)(W:World):(Instr.field 68 (.agg #[.int .i64 E.k,.int .i64 E.n,.bool E.w]) 0).run Tryz.prog W = .ok (.int .i64 E.k) W:=by
 simp[Instr.field,go_sem];rfl
theorem wM(t:Tb)(cs:Array Value)(w:World)(h:NM w cs t):Calls Tryz.prog 67 #[.agg cs] w λr w' => ∃v,r = .returned v/\Own w' w.heap.size 3 1 v (aV t).length ((aV t).map ib)/\Below w.heap.size w w':=by
 go_enter func67,ntmps67;go_upto_region 1 with(fail);refine iP (λW=>Code.wp _ _ _ _ W) λG o n q => ?_;clear q;go_wp2;have c:Own G w.heap.size 3 1 (.slice none 0 0) (kC t 0).length ((kC t 0).map ib):=Own.nil _ _ _ _
 go_loopw [5,3] (fun i v wr => ∃k:Nat,k<=64/\i = .int .i64 k/\Below w.heap.size w wr/\aK wr w.heap.size cs 74/\Own wr w.heap.size 3 1 v (kC t k).length ((kC t k).map ib)) (fun i _ _=>64-(intOf i).toNat)
 case atStart=>exact⟨0,bN _,rfl,o,n,c⟩
 case round=>
  obtain⟨k,D,rfl,e,z,d⟩:=hrel;clear o n c;have u:=uR t k
  by_cases F:k<64
  ·have I:decide ((k:Int)<64)=true:=by simp;omega
   go_wp2_with (refine kU rfl 74 (.tmp 1) rfl w.heap.size 0 rfl cs.toList z.rd _ underlying74 tab_agg (by rw[lH,h.sz];exact tab_size) ?_)
   refine(wI t cs k _ (h.below e)).mono ?_;rintro r E ⟨rfl,f⟩;have a:=ah e f;have m:=z.ext f;have x:=aax (dR t k);have b:=d.below f;clear f e z d;cases hk2:qA (dR t k)
   ·have s:((dR t k).k != 0)=false:=by simpa[qA]using hk2
    have A:=ae (OV hk2);clear hk2;go_wp2;go_roundw
    case rel=>exact⟨k+1,by omega,by go_num,a,m,by rw[A.out];exact b⟩
    case measure=>simp[intOf];omega
   have s:((dR t k).k != 0)=true:=by simpa[qA]using hk2
   have A:=ae (Ny hk2);clear hk2
   go_wp2_with (at_builtin;go_must (refine fJ 33 rfl w.heap.size 3 (.int .i64 0) 1 8 underlying33 int_info _ _ rfl (b.alloc _) (some ⟨E.heap.size,0,none⟩) 1 1 [ib k] rfl (λh=>(by cases h)) (aC _) rfl (eD.one _ _ _) (zx _ _) (by unfold maxLen;omega) (by omega) ?bb ?k))
   case bb=>exact eO a.size
   intro H C j g;have l:Below w.heap.size w C:=(a.alloc a.size _).grown g (eO a.size) (λk D=>(b.ge k D));have p:aK C w.heap.size cs 74:=kS (m.alloc _) (b.alloc _) (by decide) g;go_wp2;go_roundw
   case rel=>exact⟨k+1,by omega,by go_num,l,p,by rw[A.out,jL,fI];exact j⟩
   case measure=>simp[intOf];omega
  obtain rfl:k=64:=by omega
  go_wp2;go_ret;exact⟨_,rfl,d,e⟩
theorem one_int1:∀x:Int,([ib x]:List Value).length=1:=λ_=>rfl
def WK(B:Nat)(w0:World)(c1 c2 c3:Value)(p:Int->Bool):Prop:=∀(n:Int) (W:World),Below B w0 W->B<=W.heap.size->Calls Tryz.prog 217 #[.int .i64 n,c1,c2,c3] W λe w'=>e = .returned (.bool (p n))/\Below W.heap.size W w'
theorem Ac(h:Below B w0 w)(e:B<=w.heap.size)(d:Below w.heap.size w w'):Below B w0 w':=h.trans (d.mono e)
theorem Ox(l:List Int)(a:Option Addr)(c:Nat)(w:World)(A:eD w a (l.map ib))(G:l.length<=9223372036854775807)(B:Nat)(w0:World)(c1 c2 c3:Value)(p:Int->Bool)(E:WK B w0 c1 c2 c3 p)(D:Below B w0 w)(z:B<=w.heap.size) :
  Calls Tryz.prog 221 #[.slice a l.length c,.func (.func 217) #[] #[c1,c2,c3]] w λe w'=>e = .returned (.int .i64 (idx p l))/\Below w.heap.size w w':=by
 go_enter func221,ntmps221;go_wp2
 go_loopw [8] (fun i wr => ∃k:Nat,k<=l.length/\i = .int .i64 k/\Below w.heap.size w wr/\∀i (h:i<l.length),i<k->p l[i]=false) (fun i _=>l.length-(intOf i).toNat)
 case atStart=>exact⟨0,bN _,rfl,Below.refl _ _,λi _ h=>absurd h (ig _)⟩
 case round=>
  obtain⟨k,H,rfl,f,m⟩:=hrel;have C:=ae m;clear m
  by_cases s:k<l.length
  ·obtain⟨b,off,rfl,c0⟩:=mO (A.below f) k s
   go_wp2_with fail
   refine(E l[k] _ (Ac D z f) (aX z f.size)).mono ?_;rintro e F ⟨rfl,n⟩;have g:=ah f n;clear n;cases hpk:p l[k]
   ·have j:=ae hpk;clear hpk;go_wp2;go_roundw
    case rel=>exact⟨k+1,by omega,by go_num,g,oO C.out s j.out⟩
    case measure=>simp[intOf];omega
   have d:=ae (qH p l k s C.out hpk);clear hpk;go_wp2;go_ret;exact⟨bI d.out.symm,g⟩
  have d:=ae (ll p l λi h=>C.out i h (by omega));go_wp2;go_ret;exact⟨bI d.out.symm,f⟩
theorem PD(l:List Int)(v:Value)(B:Nat)(w0 w:World)(c1 c2 c3:Value)(p:Int->Bool)(X:Own w B 3 1 v l.length (l.map ib))(hl:l.length<=100000)(hT:WK B w0 c1 c2 c3 p)(M:Below B w0 w)(F:B<=w.heap.size) :
  Calls Tryz.prog 216 #[v,.func (.func 217) #[] #[c1,c2,c3]] w λe w' => ∃v',e = .returned v'/\Own w' B 3 1 v' (l.filter (λx => !p x)).length ((l.filter (λx => !p x)).map ib)/\Below B w w':=by
 obtain⟨a,c,rfl,hK,hm,hb,hr⟩:=X.rd;unfold maxLen at hm;go_enter func216,ntmps216
 go_wp2_with fail
 refine(Ox l a c _ hr (by omega) B w0 c1 c2 c3 p hT M F).mono ?_;rintro e w1 ⟨rfl,s⟩;have u:=X.below s;have W:Below B w w1:=s.mono F;have hf:B<=w1.heap.size:=aX F s.size;clear X;rcases yT p l with⟨J,D⟩|⟨U,C,J,K,H⟩
 ·have I:=ae (Eb.all D);rw[J];clear D J s;go_wp2;go_ret;rw[I.out];exact⟨_,rfl,u,W⟩
 have hx:=ae (Eb.start C K H);rw[J];clear K H J s;have hB:((U:Int) == -1)=false:=beq_eq_false_iff_ne.2 (by omega);cases a with
 | none=>have:=hb rfl;omega
 | some ad=>
  obtain⟨g,off,hC⟩:∃g off,ad=⟨g,off,none⟩:=by
   rcases u.2 with⟨h,_⟩|⟨g,off,cap,cur,h,_⟩
   ·cases h
   ·exact⟨g,off,by cases h;rfl⟩
  subst hC;clear hr hb;go_wp2
  go_loopw [5,6] (fun s5 s6 wr => ∃(i j:Nat) (cur:List Int),s5 = .int .i64 i/\s6 = .int .i64 j/\Hid (Eb p l j i cur)/\Own wr B 3 1 (.slice (some ⟨g,off,none⟩) l.length c) l.length (cur.map ib)/\Below B w wr/\B<=wr.heap.size) (fun _ s6 _=>l.length-(intOf s6).toNat)
  case atStart=>exact⟨U,U+1,l,rfl,by go_num,hx,u,W,hf⟩
  case round=>
   clear hx u W hf C hB;obtain⟨i,j,cur,rfl,rfl,A,d,G,m⟩:=hrel;have hM:=A.out.lt;have hL:=A.out.le;have z:=A.out.len
   by_cases E:j<l.length
   ·have hv:j<cur.length:=by omega
    have ht:cur[j]=l[j]:=by have:=A.out.rest j (aC _);rw[aM hv,aM E]at this;exact aU this
    obtain⟨_,_,e2,_,_,_,hq⟩:=d.rd;simp only[iW]at e2;obtain⟨rfl,_,rfl⟩:=e2;obtain⟨_,_,e3,R⟩:=mO hq j hv;simp only[fM,mD,and_true]at e3;obtain⟨rfl,rfl⟩:=e3;rw[ht]at R;have n:=ae z;clear ht hq z;have b:=hT l[j] wr (M.trans G) m;go_upto_region 8 with(fail);clear R
    by_cases L:p l[j]=true
    ·have Y:=ae (A.out.skip E L);rw[L]at b;clear L A
     go_wp2_with fail
     refine b.mono ?_;rintro e w3 ⟨rfl,f⟩;have q:=d.below f;have S:=Ac G m f;have t:=aX m f.size;clear d G m b f;go_wp2;go_roundw
     case rel=>exact⟨i,j+1,cur,rfl,by go_num,Y,q,S,t⟩
     case measure=>simp[intOf];omega
    have Z : p l[j]=false:=by simpa using L
    have Y:=ae (A.out.keep E Z);rw[Z]at b;clear L A Z
    go_wp2_with fail
    refine b.mono ?_;rintro e w3 ⟨rfl,f⟩;have q:=d.below f;have S:=Ac G m f;have t:=aX m f.size;clear d G m b f;rw[<-pE]at q;obtain⟨gb,offb,capb,N,hA,hF,y,hw,o⟩:=nS one_int1 n.out q i (by omega);cases hA;have C:(i:Int)<(l.length:Int):=by omega
    go_wp2_with (refine aY (x:=.tmp 33) (y:=.tmp 32) g (off+i) [ib l[j]] rfl rfl rfl N 3 y (by simp;omega) int_size (zx _ _) ?_)
    intro w5 hs r;have hz:=o w5 l[j] (by rw[Eo];exact hs);rw[pE]at hz;have hD:=S.grown r t (λk I=>by cases I;exact hF);have hy:B<=w5.heap.size:=by have:=r.size;omega
    clear hs o y q S r hw;go_wp2;go_roundw
    case rel=>exact⟨i+1,j+1,cur.set i l[j],by go_num,by go_num,Y,hz,hD,hy⟩
    case measure=>simp[intOf];omega
   have C:i<l.length:=by omega
   have hd:Hid (cur.take i=l.filter (λx => !p x)):=by have:=A.out.done;rw[mE (l:=l) (by omega)]at this;exact this
   have n:=ae z;have hN:(i:Int)<=(c:Int):=by omega
   have hH : (i:Int)<=(l.length:Int):=by omega
   obtain⟨cs,y,hw,hE⟩:∃cs,aK wr g cs 3/\off+l.length*1<=cs.size/\B<=g:=by
    rcases d.2 with⟨h,_⟩|⟨g',off',cap',O,h,h0,h2,h3,_,h4,_⟩
    ·cases h
    ·cases h;exact⟨O,h2,by omega,h0⟩
   have hJ:=λty=>ru (P:=Tryz.prog) wr 33 3 ty _ 1 8 underlying33 int_info g (off+i) (l.length-i) (c-i) cs _ y (by simp[Value.cells];omega);rw[<-pE]at d;have hg:=λw' vs=>Ja one_int1 (w':=w') (vs:=vs) d i n.out (by omega);simp only[pE]at hg;rw[hd.out]at hg;have hu:Hid ((l.filter (λx => !p x)).length=i):=by show(l.filter (λx => !p x)).length=i;rw[<-hd.out,eG,n.out];omega
   clear A z d;go_wp2;go_ret;have hh:=λvs=>hg (wr.setCells g (off+i) vs) vs (λcur R=>by rw[Eo];exact R.setCells vs _);rw[hu.out]at hh ⊢;exact⟨_,rfl,hh _,G.grown (aD _ _ _ _) m (λk I=>by cases I;exact hE)⟩
theorem OQ(t:Tb)(cs:Array Value)(z k n:Int)(H J I:Nat)(w:World)(h:NM w cs t)(K:aK w H cs 74)(G:aK w J #[.int .i64 z] 3)(F:aK w I #[.int .i64 k] 3) :
  Calls Tryz.prog 217 #[.int .i64 n,.pointer (some ⟨H,0,none⟩),.pointer (some ⟨J,0,none⟩),.pointer (some ⟨I,0,none⟩)] w λr w'=>r = .returned (.bool (sJ t z k n))/\Below w.heap.size w w':=by
 go_enter func217,ntmps217
 go_wp2_with (refine kU rfl 74 (.tmp 1) rfl H 0 rfl cs.toList K.rd _ underlying74 tab_agg (by rw[lH,h.sz];exact tab_size) ?_)
 refine(Bo t cs n _ h).mono ?_;rintro r D ⟨rfl,a⟩;have o:=(G.ext a).cell;have l:=(F.ext a).cell;have u:=G.lt;have s:=F.lt;have v:=a.size;generalize hE:dR t n=E;have f:Hid (sJ t z k n=(decide (E.k≠z)||decide (E.n≠k))):=ae (by unfold sJ;rw[hE]);clear hE
 by_cases A:E.k=z
 ·have p:(E.k != z)=false:=by simp[A]
  have c:Hid (sJ t z k n=(E.n != k)):=ae (by rw[f.out,qK];simp[A]);clear A f
  go_wp2_with (refine aY (x:=.tmp 6) (y:=.tmp 9) D.heap.size 0 (Cj E) rfl rfl rfl _ _ (aK.new _ _ _) (aC 3) entry_size (PT E) ?_)
  intro C i b;have g : aK C D.heap.size (pq E) 68:=by simpa[dO,Cj,pq]using i
  have q:=g.cell;have m:=(((G.ext a).alloc _).grown b (λe=>by have:=aU e;omega)).cell;have j:=(((F.ext a).alloc _).grown b (λe=>by have:=aU e;omega)).cell;have d:Below w.heap.size w C:=(a.alloc a.size _).grown b (eO a.size) (λk A=>by cases A;exact a.size);have M:(pq E)[0]?=some (.int .i64 E.k):=rfl;have L:(pq E)[1]?=some (.int .i64 E.n):=rfl;clear o l i;go_wp2;go_ret;exact⟨cB c.out.symm,d⟩
 have p:(E.k != z)=true:=by simpa using A
 have c:Hid (sJ t z k n=true):=ae (by rw[f.out];simp[A]);clear A f
 go_wp2_with (refine aY (x:=.tmp 6) (y:=.tmp 9) D.heap.size 0 (Cj E) rfl rfl rfl _ _ (aK.new _ _ _) (aC 3) entry_size (PT E) ?_)
 intro C i b;have g : aK C D.heap.size (pq E) 68:=by simpa[dO,Cj,pq]using i
 have q:=g.cell;have m:=(((G.ext a).alloc _).grown b (λe=>by have:=aU e;omega)).cell;have j:=(((F.ext a).alloc _).grown b (λe=>by have:=aU e;omega)).cell;have d:Below w.heap.size w C:=(a.alloc a.size _).grown b (eO a.size) (λk A=>by cases A;exact a.size);have M:(pq E)[0]?=some (.int .i64 E.k):=rfl;have L:(pq E)[1]?=some (.int .i64 E.n):=rfl;clear o l i;go_wp2;go_ret;exact⟨cB c.out.symm,d⟩
theorem Rz(t:Tb)(cs:Array Value)(p k:Int)(w:World)(h:NM w cs t):Calls Tryz.prog 209 #[.agg cs,.int .i64 p,.int .i64 k] w λr w' => ∃v,r = .returned v/\Own w' w.heap.size 3 1 v (qx t p k).length ((qx t p k).map ib)/\Below w.heap.size w w':=by
 go_enter func209,ntmps209;go_upto_region 1 with(fail);refine SX (λW=>Code.wp _ _ _ _ W) λs a c i d e => ?_;have l:w.heap.size+2<s.heap.size:=d.lt;clear e
 go_wp2_with (refine kU rfl 74 (.tmp 3) rfl w.heap.size 0 rfl cs.toList c.rd _ underlying74 tab_agg (by rw[lH,h.sz];exact tab_size) ?_)
 refine(wM t cs _ (h.below a)).mono ?_;rintro r A ⟨v,rfl,g,b⟩;have C:WK s.heap.size s (.pointer (some ⟨w.heap.size,0,none⟩)) (.pointer (some ⟨w.heap.size+1,0,none⟩)) (.pointer (some ⟨w.heap.size+2,0,none⟩)) (sJ t p k):=
  λn W z m=>OQ t cs p k n _ _ _ W ((h.below a).below z) (c.ext z) (i.ext z) (d.ext z)
 go_wp2_with fail
 refine(PD (aV t) v s.heap.size s A _ _ _ (sJ t p k) g (aX (uR t 64) (by decide)) C b b.size).mono ?_;rintro r D ⟨E,rfl,f,j⟩;go_wp2;go_ret;exact⟨_,rfl,f.mono a.size,a.trans ((b.trans j).mono a.size)⟩
end Go.Proofs.YthihaopabbpalaaGreat