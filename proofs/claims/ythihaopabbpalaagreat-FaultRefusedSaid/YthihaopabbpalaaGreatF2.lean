import Derived.Test.YthihaopabbpalaaGreatF1
import Derived.BigQuiet
import Derived.Deep.DeepCutAuto
import Derived.Deep.QuietTactic
import Derived.IntWalk
import Derived.Lib.LazyBuf
import Derived.Test.YthihaopabbpalaaGreatRows
import Derived.Maps.Range
import Derived.Deep.Light
import Derived.BigRegion
import Derived.RegionTactic
set_option linter.unusedSimpArgs false
set_option linter.unusedVariables false
set_option linter.unnecessarySimpa false
set_option maxHeartbeats 4000000
set_option maxRecDepth 100000
namespace Pw
open Go Go.RowKit
variable {B b f g i id j k k1 off p q sz:Nat} {P:Program} {Q:Exit -> Act -> World -> Prop} {T T' e t ty:TypeId} {V c0 u v:Value} {a0:Act} {cs cur t0:Array Value} {o op:Oper} {ops:Array Oper} {rest:List Oper} {vs xs:List Value} {w w' w0:World} {x:Operand} {y:Nat -> Value} {ρ:Operand -> Value}
theorem Mv{a c:World}(h:a.grownBy c none)(row:Option Nat):a.grownBy c row:=⟨h.os,h.tape,h.output,h.size,λi n _=>h.block i n (by simp)⟩
def lM(ps:List (Nat × Value))(i:Nat):Option Value:=ps.lookup i
def Ye(ops:Array Oper)(m:Nat)(ps:List (Nat × Value)):Bool:=
 (List.range m).all λj=>(lM ps j).isSome||(yP ops ops.size m).contains j
def OP(m k1:Nat)(ps:List (Nat × Value)):Bool:=(List.range k1).all λj=>decide (j<=m)||(lM ps j).isSome
def VA(ops:Array Oper)(m:Nat)(ps:List (Nat × Value)):Bool:=
 (List.range ops.size).all λi=>(lM ps i).isNone||(decide (i≠m)&&match ops[i]? with | some o=>o.after.toList.all (λe=>(lM ps e.on).isSome) | none=>true)
theorem Us{m:Nat}{s:List (Nat × Value)}(h:Ye ops m s=true){n:Array Bool}(D:∀i o,ops[i]?=some o->n.getD i false=true->∀e∈o.after,n.getD e.on false=true)(E:∀o,ops[m]?=some o->∀e∈o.after,n.getD e.on false=true)(j:Nat)(C:j<m)(A:lM s j=none):n.getD j false=true:=by
 have z:=fA.1 h j (dG.2 C);rw[A]at z;exact wF D ops.size m E j (by simpa using z)
theorem Xh{m:Nat}{s:List (Nat × Value)}(h:OP m k1 s=true)(j:Nat)(z:j<k1)(A:m<j):∃v,lM s j=some v:=by
 have n:=fA.1 h j (dG.2 z);simp only[qy,decide_eq_true_eq]at n;rcases n with n|n
 .omega
 .exact Option.isSome_iff_exists.1 n
theorem Wz{m:Nat}{s:List (Nat × Value)}(h:VA ops m s=true)(z:ops[i]?=some o)(A:lM s i=some v):i≠m/\∀e∈o.after,∃u,lM s e.on=some u:=by
 have a:i<ops.size:=(iX.1 z).1;have n:=fA.1 h i (dG.2 a);rw[A,z]at n;simp only[Option.isNone_some,Bool.false_or,dW,decide_eq_true_eq]at n;exact⟨n.1,λe C=>Option.isSome_iff_exists.1 (fA.1 n.2 e (nZ.2 C))⟩
def Ww(P:Program)(ops:Array Oper)(Q:Exit->Act->World->Prop)(m k1:Nat)(ps:List (Nat × Value))(R:Nat->Value->World->Prop)(a0:Act)(w0:World)(listed:Array Bool)(a:Act)(w:World):Prop:=
  (∀i,k1<=i->listed.getD i false=false)/\(∀i o,ops[i]?=some o->listed.getD i false=true->∀e∈o.after,listed.getD e.on false=true) /\
  ∃y:Nat->Value,(∀i v,lM ps i=some v->y i=v)/\a = { a0 with tmps:=lay (λi=>listed.getD i false) y ops.toList 0 a0.tmps } /\
    ((listed.getD m false=false/\Below w0.heap.size w0 w/\∀i,i<m->lM ps i=none->listed.getD i false=true->R i (y i) w) \/
     (listed.getD m false=true/\wpList P ops Q (ops.toList.drop k1) { a0 with tmps:=lay (λi=>decide (i<k1)) y ops.toList 0 a0.tmps } w))
theorem EE{h:Array Bool}(s:h.size=ops.size)(C:k1<=ops.size)(A:∀i,i<ops.size->h.getD i false=decide (i<k1)):h.toList.countP (!·)=ops.size-k1:=by
 have e:h.toList=List.replicate k1 true++List.replicate (ops.size-k1) false:=by
  apply nY;intro i
  by_cases z:i<ops.size
  .have h2:=A i z;rw[uZ,Ag (show i<h.size by omega)];simp only[dh,Ag (show i<h.size by omega),qh]at h2;rw[h2]
   by_cases n:i<k1
   .rw[kK (by simpa using n)];simp[n]
   rw[jU (by simp;omega)];rw[kL,qa,if_pos (by omega)];simp[n]
  .rw[eY (by simp;omega),eY (by simp;omega)]
 rw[e];simp[Db,List.countP_replicate]
theorem BQ(m k1:Nat)(D:List (Nat × Value))(I:jY ops=true)(ht:jg ops k1=true)(W:Ye ops m D=true)(hmid:OP m k1 D=true)(hpu:VA ops m D=true)(hmk:m<k1)(hk1:k1<=ops.size)
 (R:Nat->Value->World->Prop) (Y:∀i v w w',Below w.heap.size w w'->R i v w->R i v w')
 (X:∀i o,i<m->lM D i=none->ops[i]?=some o->∀y w,(∀i v,lM D i=some v->y i=v)->Below w0.heap.size w0 w->(∀j,o.after.toList.any (λe=>e.on==j)=true->match lM D j with | some v=>y j=v | none=>R j (y j) w) ->
 if Region.wanted o (yielded ops (lay (λ_=>true) y ops.toList 0 a0.tmps))=true then Gives P o { a0 with tmps:=lay (λ_=>true) y ops.toList 0 a0.tmps } w (λv w'=>Below w.heap.size w w'/\R i v w')else R i undef w)
 (Z:∀i v o,lM D i=some v->ops[i]?=some o->∀y w,(∀i v,lM D i=some v->y i=v) ->
 Region.wanted o (yielded ops (lay (λ_=>true) y ops.toList 0 a0.tmps))=true/\(execOp ({ a0 with tmps:=lay (λ_=>true) y ops.toList 0 a0.tmps }:Act).eval o).run P w = .ok (.value v) w)
 (hend:∀y w o,ops[m]?=some o->(∀i v,lM D i=some v->y i=v)->Below w0.heap.size w0 w->(∀i,i<m->match lM D i with | some v=>y i=v | none=>R i (y i) w) ->
 Region.wanted o (yielded ops (lay (λ_=>true) y ops.toList 0 a0.tmps))=true /\
 Gives P o { a0 with tmps:=lay (λ_=>true) y ops.toList 0 a0.tmps } w λv w'=>wpList P ops Q (ops.toList.drop k1) { a0 with tmps:=lay (λi=>decide (i<k1)) (λi=>if i=m then v else y i) ops.toList 0 a0.tmps } w') :
    wpAny P .any ops Q ops.size (Array.replicate ops.size false) a0 { w0 with drawn:=w0.drawn+1 }:=by
  have hQ:∀(C:Nat) (A:Array Bool) (a:Act) (w:World),A.size=ops.size->A.toList.countP (!·)<=C->Ww P ops Q m k1 D R a0 w0 A a w->wpAny P .any ops Q C A a w:=by
    have hz:∀(C:Nat) (A:Array Bool) (a:Act) (w:World),A.size=ops.size->A.toList.countP (!·)<=C->Ww P ops Q m k1 D R a0 w0 A a w->(∀i,i<k1->A.getD i false=true)->wpAny P .any ops Q C A a w:=by
      intro C A a w n hc hA b;obtain⟨hC,hm,y,K,ha,hr⟩:=hA;have J:∀i,i<ops.size->A.getD i false=decide (i<k1):=by
        intro i O
        by_cases H:i<k1
        · rw[b i H];simp[H]
        · rw[hC i (by omega)];simp[H]
      rcases hr with⟨h1,_⟩|⟨_,hw⟩
      · rw[b m hmk]at h1;cases h1
      refine vw (m:=k1) I ht C k1 A a w (az _) hk1 (by have:=EE n hk1 J;omega) n J ?_;rw[ha,sP (λi=>A.getD i false) (λi=>decide (i<k1)) y ops.toList 0 a0.tmps (λk F=>by simp only[ed];exact J k (by simpa using F))];exact hw
    intro C
    induction C with
    | zero=>
      intro A a w n hc hA;refine hz 0 A a w n hc hA λi O => ?_;have h0:A.toList.countP (!·)=0:=by omega
      have:=yl.1 h0 (A[i]'(by omega)) (by simp);simpa[dh,show i<A.size by omega]using this
    | succ C ih=>
      intro A a w n hc hA
      by_cases b:∀i,i<k1->A.getD i false=true
      · exact hz _ A a w n hc hA b
      have hf:Region.ready .any ops A≠[]:=by
        intro hq;apply b;intro i
        induction i using Nat.strongRecOn with
        | ind i ih'=>
          intro H
          by_cases hc' : A.getD i false=true
          · exact hc'
          exfalso;have O:i<ops.size:=by omega
          have hy:i∈Region.ready .any ops A:=by
            rw[mem_ready];refine⟨?_,ops[i],by simp[O],λe S _ => ?_⟩
            · simpa[dh,show i<A.size by omega]using hc'
            have:=(iy I (i:=i) (o:=ops[i]) (by simp[O])).2.1 e S;exact ih' e.on this.2 (by omega)
          rw[hq]at hy;cases hy
      refine⟨λh=>absurd h hf,λi O => ?_⟩;obtain⟨h1,o,G,hD⟩:=mem_ready.1 O;have h6:i<ops.size:=(iX.1 G).1;have hh:i<A.size:=by omega
      obtain⟨hF,hb,_⟩:=iy I G;have J:∀e∈o.after,A.getD e.on false=true:=λe S=>hD e S (hb e S).1;have hI:A.getD i false=false:=by simpa[dh,hh]using h1
      have H:i<k1:=by
        rcases gu i k1 with h|h
        · exact h
        exfalso;apply b;intro j hj;exact wG ht hA.2.1 G J h j (by omega)
      obtain⟨hC,hm,y,K,ha,hr⟩:=hA;have hO : ∀k L,ops[k]?=some L->(A.setIfInBounds i true).getD k false=true->∀e∈L.after,(A.setIfInBounds i true).getD e.on false=true:=by
        intro k L c F e S;apply yn hh
        by_cases E:k=i
        · subst E;rw[G]at c;cases c;exact J e S
        rw[sF E]at F;exact hm k L c F e S
      have hH : ∀k,k1<=k->(A.setIfInBounds i true).getD k false=false:=λk F=>by rw[sF (by omega)];exact hC k F
      have q:∀v w' y',(∀k,y' k=if k=i then v else y k)->(∀i v,lM D i=some v->y' i=v) ->
          (((A.setIfInBounds i true).getD m false=false/\Below w0.heap.size w0 w'/\∀k,k<m->lM D k=none->(A.setIfInBounds i true).getD k false=true->R k (y' k) w') \/
           ((A.setIfInBounds i true).getD m false=true/\wpList P ops Q (ops.toList.drop k1) { a0 with tmps:=lay (λi=>decide (i<k1)) y' ops.toList 0 a0.tmps } w')) ->
          wpAny P .any ops Q C (A.setIfInBounds i true) (a.put o.dst v) w':=by
        intro v w' y' hR hY hG;obtain rfl:y' = λk=>if k=i then v else y k:=funext hR;refine ih _ _ _ (by simp[n]) (EZ hh h1 hc) ⟨hH,hO,_,hY,?_,hG⟩;rw[ha,Jg I G n v]
      have hl:∀t∈o.looksAt ops,a.tmps[t]?=(lay (λ_=>true) y ops.toList 0 a0.tmps)[t]?:=λt ht=>by rw[ha];exact BC I G J t ht
      have z:execOp a.eval o=execOp ({ a0 with tmps:=lay (λ_=>true) y ops.toList 0 a0.tmps }:Act).eval o:=by
        refine execOp_congr o hF λx hx => ?_;cases x with
        | tmp t=>
          have:=hl t (qg _ (JQ.2 ⟨.tmp t,by simpa using hx,rfl⟩));simp[Act.eval,this]
        | _=>rfl
      have d:Region.wanted o (yielded ops a.tmps)=Region.wanted o (yielded ops (lay (λ_=>true) y ops.toList 0 a0.tmps)):=by
        unfold Region.wanted;cases hg:o.guard with
        | none=>rfl
        | some gw=>
          obtain⟨g,want⟩:=gw;have:yielded ops a.tmps g=yielded ops (lay (λ_=>true) y ops.toList 0 a0.tmps) g:=by
            unfold yielded;cases hd:(ops[g]?).bind (·.dst)with
            | none=>rfl
            | some t=>
              have:=hl t (uQ _ (by simp[hg,hd]));simp[this]
          simp only[this]
      cases hp:lM D i with
      | some v=>
        have hU:=(Wz hpu G hp).1;obtain⟨hB,hT⟩:=Z i v o hp G y w K;have hg:Gives P o { a0 with tmps:=lay (λ_=>true) y ops.toList 0 a0.tmps } w (λu w'=>u=v/\w' = w):=by unfold Gives;rw[hT];exact⟨rfl,rfl⟩
        refine tH G (by rw[d];exact hB) z hg λu w' hu => ?_;obtain⟨rfl,rfl⟩:=hu;refine q u w' y (λk => ?_) K ?_
        · by_cases F:k=i
          · subst F;rw[if_pos rfl];exact K _ _ hp
          · rw[if_neg F]
        rcases hr with⟨h2,U,h4⟩|⟨h2,U⟩
        · refine .inl ⟨by rw[sF (pu hU)];exact h2,U,λk F f hn => ?_⟩;have E:k≠i:=by rintro rfl;rw[hp]at f;cases f
          rw[sF E]at hn;exact h4 k F f hn
        · exact .inr ⟨yn hh _ h2,U⟩
      | none=>
        have hZ:i<=m:=by
          rcases gu m i with h|h
          · obtain⟨v,hv⟩:=Xh hmid i H h;rw[hp]at hv;cases hv
          · exact h
        rcases hr with⟨h2,U,h4⟩|⟨h2,U⟩
        · by_cases N:i=m
          · subst N;have hE:∀k,k<i->match lM D k with | some v=>y k=v | none=>R k (y k) w:=by
              intro k F;cases f:lM D k with
              | some v=>exact K k v f
              | none=>exact h4 k F f (Us W hm (λL c=>by rw[G]at c; cases c; exact J) k F f)
            obtain⟨hB,hg⟩:=hend y w o G K U hE;refine tH G (by rw[d];exact hB) z hg λv w' hS => ?_;refine q v w' (λk=>if k=i then v else y k) (λ_=>rfl) (λk u r => ?_) (.inr ⟨Md hh,hS⟩);have:k≠i:=by rintro rfl;rw[hp]at r;cases r
            simp only[this,if_false];exact K k u r
          have hJ:i<m:=by omega
          have hs:=X i o hJ hp G y w K U (λj hj=>by
            obtain⟨e,S,hX⟩:=jK.1 hj;have hM : e.on=j:=by simpa using hX
            subst hM;have hN:=nZ.1 S;cases hpj:lM D e.on with
            | some v=>exact K _ _ hpj
            | none=>exact h4 e.on (by have:=(hb e hN).2;omega) hpj (J e hN))
          have hK:∀v w',Below w.heap.size w w'->R i v w'->wpAny P .any ops Q C (A.setIfInBounds i true) (a.put o.dst v) w':=by
            intro v w' hP hv;refine q v w' (λk=>if k=i then v else y k) (λ_=>rfl) (λk u r => ?_) (.inl ⟨by rw[sF (pu N)];exact h2,U.trans (hP.mono U.size),λk F f hn => ?_⟩)
            · have:k≠i:=by rintro rfl;rw[hp]at r;cases r
              simp only[this,if_false];exact K k u r
            by_cases E:k=i
            · subst E;simpa using hv
            rw[sF E]at hn;simp only[E,if_false];exact Y _ _ _ _ hP (h4 k F f hn)
          by_cases M:Region.wanted o (yielded ops (lay (λ_=>true) y ops.toList 0 a0.tmps))=true
          · rw[if_pos M]at hs;exact tH G (by rw[d];exact M) z hs λv w' h=>hK v w' h.1 h.2
          rw[if_neg M]at hs;unfold wpOp;simp only[G];rw[if_neg (by rw[d];exact M)];exact hK undef w (Below.refl _ _) hs
        exfalso
        by_cases N:i=m
        · subst N;rw[hI]at h2;cases h2
        have hW:∃om,ops[m]?=some om:=⟨ops[m]'(by omega),by simp[show m<ops.size by omega]⟩;obtain⟨om,h5⟩:=hW;have:=Us W hm (λL c=>hm m L c h2) i (by omega) hp;rw[hI]at this;cases this
  refine(hQ ops.size _ _ _ (by simp) ?_ ⟨λi _ => ?_,λi L c O => ?_,λi=>(lM D i).getD undef,λi v h=>(by show(lM D i).getD undef=v;rw[h];rfl),?_,.inl ⟨?_,?_,?_⟩⟩)
  · simpa using yG (p:=(!·)) (l:=List.replicate ops.size false)
  · simp[dh,su];split<;>rfl
  · exfalso;have:i<ops.size:=(iX.1 c).1;simp[dh,this]at O
  · have e:∀y,lay (λi=>(Array.replicate ops.size false).getD i false) y ops.toList 0 a0.tmps=a0.tmps:=by
      intro y;apply mI;intro s;exact jr _ _ s _ 0 _ λk L F hd=>by simp[dh,su];split<;>rfl
    rw[e]
  · simp[dh,su];split<;>rfl
  · exact⟨rfl,rfl,rfl,az _,λ_ _=>rfl⟩
  intro i O _ J;simp[dh,show i<ops.size by omega]at J
def tN(P:Program)(ops:Array Oper)(a0:Act)(w0:World)(ps:List (Nat × Value))(l:List mV)(i:Nat)(o:Oper):Prop:=
 match lM ps i with
 | some v => ∀(ρ:Operand->Value) (y:Nat->Value) (w:World),(∀t j,writer ops t=some j->ρ (.tmp t)=y j)->(∀x,(match x with | .tmp t=>writer ops t=none | _=>True)->ρ x=a0.eval x)->(∀i v,lM ps i=some v->y i=v) ->
   Region.wanted o (iw ρ ops)=true/\(execOp ρ o).run P w = .ok (.value v) w
 | none => ∀(ρ:Operand->Value) (y:Nat->Value) (w:World),(∀t j,writer ops t=some j->ρ (.tmp t)=y j)->(∀x,(match x with | .tmp t=>writer ops t=none | _=>True)->ρ x=a0.eval x) ->
   Below w0.heap.size w0 w->(∀j,o.after.toList.any (λe=>e.on==j)=true->match lM ps j with | some v=>y j=v | none=>rl l j (y j) w) ->
   if Region.wanted o (iw ρ ops)=true then dZ P o ρ w (λv w'=>Below w.heap.size w w'/\rl l i v w')else rl l i undef w
theorem QF{n:List (Nat × Value)}{l:List mV}(h:lM n i=some v)
 (s:∀(ρ:Operand->Value) (y:Nat->Value) (w:World),(∀t j,writer ops t=some j->ρ (.tmp t)=y j)->(∀x,(match x with | .tmp t=>writer ops t=none | _=>True)->ρ x=a0.eval x)->(∀i v,lM n i=some v->y i=v)->Region.wanted o (iw ρ ops)=true/\(execOp ρ o).run P w = .ok (.value v) w):tN P ops a0 w0 n l i o:=by
 unfold tN;rw[h];exact s
theorem aQ{n:List (Nat × Value)}{l:List mV}(h:lM n i=none)
 (s:∀(ρ:Operand->Value) (y:Nat->Value) (w:World),(∀t j,writer ops t=some j->ρ (.tmp t)=y j)->(∀x,(match x with | .tmp t=>writer ops t=none | _=>True)->ρ x=a0.eval x) ->
 Below w0.heap.size w0 w->(∀j,o.after.toList.any (λe=>e.on==j)=true->match lM n j with | some v=>y j=v | none=>rl l j (y j) w) ->
 if Region.wanted o (iw ρ ops)=true then dZ P o ρ w (λv w'=>Below w.heap.size w w'/\rl l i v w')else rl l i undef w):tN P ops a0 w0 n l i o:=by
 unfold tN;rw[h];exact s
theorem Im(m k1:Nat)(A:List (Nat × Value))(l:List mV)(N:jY ops=true)(ht:jg ops k1=true)(H:Ye ops m A=true)(F:OP m k1 A=true)(J:VA ops m A=true)(X:m<k1)(Y:k1<=ops.size)
 (n:Nat) (hn:a0.tmps.size=n) (W:kS ops n=true)
 (C:bn (tN P ops a0 w0 A l) 0 (ops.toList.take m)) (D:bn (tN P ops a0 w0 A l) (m+1) ((ops.toList.drop (m+1)).take (k1-(m+1))))
 (M:A.all (λp=>decide (p.1<k1))=true)
 (G:∀(ρ:Operand->Value) (y:Nat->Value) (w:World) (o:Oper),ops[m]?=some o->(∀t j,writer ops t=some j->ρ (.tmp t)=y j)->(∀x,(match x with | .tmp t=>writer ops t=none | _=>True)->ρ x=a0.eval x)->(∀i v,lM A i=some v->y i=v) ->
 Below w0.heap.size w0 w->(∀i,i<m->match lM A i with | some v=>y i=v | none=>rl l i (y i) w) ->
 Region.wanted o (iw ρ ops)=true/\dZ P o ρ w λv w'=>wpList P ops Q (ops.toList.drop k1) { a0 with tmps:=lay (λi=>decide (i<k1)) (λi=>if i=m then v else y i) ops.toList 0 a0.tmps } w') :
  wpAny P .any ops Q ops.size (Array.replicate ops.size false) a0 { w0 with drawn:=w0.drawn+1 }:=by
 have z:∀(y:Nat->Value) t j,writer ops t=some j->({ a0 with tmps:=lay (λ_=>true) y ops.toList 0 a0.tmps }:Act).eval (.tmp t)=y j:=by
  intro y t j U;unfold writer at U;have I:=ut U;have h2:=dG.1 (rR U);cases ho:ops[j]? with
  | none=>simp[ho]at I
  | some p=>
   have f : p.dst=some t:=by simpa[ho]using I
   have hg:t<a0.tmps.size:=by have:=fA.1 W p (nZ.2 (Ab ho));rw[hn];simpa[f]using this
   have hu:∀S L,ops.toList[S]?=some L->L.dst=some t->S = j:=by
    intro S L u hj;rcases((iy N (i:=S) (o:=L) (by simpa using u)).2.2 j p t ho f).1 with h|h
    .exact h
    .exact absurd hj h
   have:=mG (λ_=>true) y t ops.toList 0 a0.tmps j p (by simpa using ho) f rfl hu hg;simp[Act.eval,this]
 have ha:∀(y:Nat->Value) x,(match x with | .tmp t=>writer ops t=none | _=>True)->({ a0 with tmps:=lay (λ_=>true) y ops.toList 0 a0.tmps }:Act).eval x=a0.eval x:=by
  intro y x hx;cases x with
  | tmp t=>
   have:(lay (λ_=>true) y ops.toList 0 a0.tmps)[t]?=a0.tmps[t]?:=by
    refine jr _ y t _ 0 _ λk L hk f => ?_;exfalso;simp only[writer]at hx;have u : ops[k]?=some L:=by simpa using hk
    have hf:k<ops.size:=(iX.1 u).1;have:=ru.1 hx k (dG.2 hf);simp[u,f]at this
   simp[Act.eval,this]
  | _=>rfl
 have c:∀(y:Nat->Value) (o:Oper),Region.wanted o (yielded ops (lay (λ_=>true) y ops.toList 0 a0.tmps))=Region.wanted o (iw ({ a0 with tmps:=lay (λ_=>true) y ops.toList 0 a0.tmps }:Act).eval ops):=by
  intro y o;congr 1;funext g;unfold yielded iw;cases (ops[g]?).bind (·.dst)with
  | none=>rfl
  | some d=>
   simp only[Bg,Act.eval,dh];generalize (lay (λ_=>true) y ops.toList 0 a0.tmps)[d]?=q;cases q with
   | none=>rfl
   | some v=>cases v<;>rfl
 have s:∀i o,i<k1->i≠m->ops[i]?=some o->tN P ops a0 w0 A l i o:=by
  intro i o K hl ho;rcases gu i m with h|h
  .have Z : (ops.toList.take m)[i]?=some o:=by rw[mg,if_pos h];simpa using ho
   have:=bn.at C i o Z;rwa [ed]at this
  have Z : ((ops.toList.drop (m+1)).take (k1-(m+1)))[i-(m+1)]?=some o:=by rw[mg,if_pos (by omega),qQ,show m+1+(i-(m+1))=i by omega];simpa using ho
  have:=bn.at D _ o Z;rwa [show m+1+(i-(m+1))=i by omega]at this
 refine BQ m k1 A N ht H F J X Y (rl l) (λi v w w' O h=>(l.getD i anyR).st v w w' O h) (λi o hm E K y w R O hd => ?_) (λi v o E K y w R => ?_) (λy w o K R O hR => ?_)
 .have:=s i o (by omega) (by omega) K;unfold tN at this;rw[E]at this;have h2:=this _ y w (z y) (ha y) O hd;rw[c];exact h2
 .have hh:i<k1:=by
   have I:(i,v)∈A:=by
    clear M C D H F J s G R;unfold lM at E
    induction A with
    | nil=>simp at E
    | cons q r ih=>
     obtain⟨a,b⟩:=q
     by_cases e:i=a
     .subst e;simp at E;simp[E]
     have:(i==a)=false:=beq_eq_false_iff_ne.2 e;simp[List.lookup,this]at E;exact jW _ (ih E)
   simpa using fA.1 M _ I
  have:=s i o hh (Wz J K E).1 K;unfold tN at this;rw[E]at this;obtain⟨I,h2⟩:=this _ y w (z y) (ha y) R;exact⟨by rw[c];exact I,h2⟩
 obtain⟨I,h2⟩:=G _ y w o K (z y) (ha y) R O hR;exact⟨by rw[c];exact I,h2⟩
theorem FI(m k1:Nat)(h:List (Nat × Value))(l:List mV)(M:P.follows .mixedOrders=true)(H:jY ops=true)(K:jg ops k1=true)(D:Ye ops m h=true)(A:OP m k1 h=true)(F:VA ops m h=true)(I:m<k1)(J:k1<=ops.size)
 (n:Nat) (L:a0.tmps.size=n) (E:kS ops n=true)
 (s:bn (tN P ops a0 w0 h l) 0 (ops.toList.take m)) (z:bn (tN P ops a0 w0 h l) (m+1) ((ops.toList.drop (m+1)).take (k1-(m+1))))
 (G:h.all (λp=>decide (p.1<k1))=true)
 (C:∀(ρ:Operand->Value) (y:Nat->Value) (w:World) (o:Oper),ops[m]?=some o->(∀t j,writer ops t=some j->ρ (.tmp t)=y j)->(∀x,(match x with | .tmp t=>writer ops t=none | _=>True)->ρ x=a0.eval x)->(∀i v,lM h i=some v->y i=v) ->
 Below w0.heap.size w0 w->(∀i,i<m->match lM h i with | some v=>y i=v | none=>rl l i (y i) w) ->
 Region.wanted o (iw ρ ops)=true/\dZ P o ρ w λv w'=>wpList P ops Q (ops.toList.drop k1) { a0 with tmps:=lay (λi=>decide (i<k1)) (λi=>if i=m then v else y i) ops.toList 0 a0.tmps } w') :
  (Code.region id ops true).wp P Q a0 w0:=
 wp_region_any M (Im m k1 h l H K D A F I J n L E s z G C)
theorem SE{F:Value->World->Prop}(f:FuncId)(args:Array Value)(s:Region.wanted o (iw ρ ops)=true)(n:(execOp ρ o).run P w = .ok (.enter f args) w)
 (z:Calls P f args w λe w' => ∃v,e = .returned v/\F v w'):Region.wanted o (iw ρ ops)=true/\dZ P o ρ w F:=by
 refine⟨s,?_⟩;unfold dZ;rw[n];refine z.mono λe w' ⟨v,he,h⟩ => ?_;subst he;exact h
theorem qB(s x:Operand)(t:TypeId)(I:o.op=Op.call { callee:=Callee.builtin Builtin.append,args:=#[s,x],argTypes:=#[t,t] })
 (B:Nat) (e:TypeId) (z:Value) (A D:Nat) (h1:P.underlying t=some (.slice e)) (h2:(P.info? e).map (λi=>(i.zero,i.size,i.bytes))=some (some z,A,D)) (h6:z.cells.size=A) (h7:0<A)
 (v:Value) (n:Nat) (xs:List Value) (O:ρ s=v) (H:Own w B e A v n xs)
 (ao:Option Addr) (m c:Nat) (C:List Value) (N:ρ x = .slice ao m c) (L:ao=none->c=0) (hmc:m<=c) (S:C.length=m*A) (hrd:eB w ao C) (Z:∀u∈C,u.oneCell' = true)
 (b1:n+m<=maxLen) (b2:(n+m)*D<=140737488355328) (hB:B<=w.heap.size) :
  ∃K w',(execOp ρ o).run P w = .ok (.value K) w'/\Own w' B e A K (n+m) (xs++C)/\w.grownBy w' v.ownBlock/\(K.ownBlock=v.ownBlock\/∀g,K.ownBlock=some g->w.heap.size<=g):=by
 obtain⟨i,W,hz,f,h⟩:=info_parts h2;cases ao with
 | none=>
  obtain rfl:=L rfl;obtain rfl:m=0:=by omega
  obtain rfl:C=[]:=kU (by simpa using S);refine⟨v,w,?_,by simpa using H,Jo _ _,.inl rfl⟩;rcases H with⟨hl,⟨rfl,rfl⟩|⟨g,off,F,cur,rfl,Y,U,X,hm,G,E⟩⟩
  .simp[execOp,I,resolve,invoke,builtin,O,N,Builtin.append_,run_underlying h1,Go.sizeOf,typeInfo,W,Builtin.lenOf,Builtin.firstCells,storeCells,Result.andThen]
  .simp[execOp,I,resolve,invoke,builtin,O,N,Builtin.append_,run_underlying h1,Go.sizeOf,typeInfo,W,Builtin.lenOf,Builtin.firstCells,X,storeCells,Result.andThen]
 | some ad=>
  have d:∀j u,C[j]?=some u->w.cell? (ad.add j)=some u:=by intro j u J;obtain⟨b,off,e',X⟩:=hrd j u J;cases e';rw[qo];exact X
  rcases H with⟨hl,⟨rfl,rfl⟩|⟨g,off,F,cur,rfl,Y,U,X,hm,G,E⟩⟩
  .obtain rfl:xs=[]:=kU (by simpa using hl);obtain⟨K,w',a,M,r2,_⟩:=run_append_own (P:=P) w w.heap.size t o.type e i z A D h1 W hz f h h6 h7 (.slice none 0 0) 0 [] (Jv w _ e A) ad m c C S d Z b1 b2 (az _);refine⟨K,w',?_,(Own.of_owns M).mono hB,r2,.inr (Own.of_owns M).ge⟩;simp[execOp,I,resolve,invoke,builtin,O,N,a,Result.andThen]
  have k:n*A<=F*A:=uH _ X;rcases gu F (n+m)with R|R
  .obtain⟨K,w',a,M,r2⟩:=run_append_arg_grows (P:=P) w t o.type e i z A D h1 W hz f h h6 h7 ⟨g,off,none⟩ n F xs hl (λj u J=>by rw[qo,U.cell];exact E j u J) ad m c C S d R b1 b2;refine⟨K,w',?_,(Own.of_owns M).mono hB,Mv r2 _,.inr (Own.of_owns M).ge⟩;simp[execOp,I,resolve,invoke,builtin,O,N,a,Result.andThen]
  have h3:(n+m)*A<=F*A:=uH _ R;rw[uY]at h3;have a:=run_append_room_cells (P:=P) w t o.type e i h1 W g off n F ad m c C (by rw[f];exact S) d Z R (λj J=>by rw[f,U.cell];simp[show off+n*A+j<cur.size by omega]) (λj J=>U.free _);rw[f]at a;refine⟨_,_,?_,⟨by rw[jk,hl,S,uY],.inr ⟨g,off,F,_,rfl,Y,U.setCells C (off+n*A),R,hm,by rw[size_putAt];exact G,λj u J => ?_⟩⟩,aC _ _ _ _,.inl rfl⟩
  .simp[execOp,I,resolve,invoke,builtin,O,N,a,Result.andThen]
  by_cases hjl:j<xs.length
  .rw[kK hjl]at J;rw[putAt_out _ _ _ _ (.inl (by omega))];exact E j u J
  rw[jU (by omega)]at J;have:=putAt_in C cur (off+n*A) (j-xs.length) u (by omega) J;rwa [show off+n*A+(j-xs.length)=off+j by omega]at this
theorem IR{F:Value->World->Prop}(s:Region.wanted o (iw ρ ops)=true){D:Value->World->Prop}(h:∃n w',(execOp ρ o).run P w = .ok (.value n) w'/\D n w')(z:∀v w',D v w'->F v w'):Region.wanted o (iw ρ ops)=true/\dZ P o ρ w F:=by
 obtain⟨n,w',A,h2⟩:=h;refine⟨s,?_⟩;unfold dZ;rw[A];exact z _ _ h2
open Go.ChangeShapes Go.WideShapes Go.ChangeAt
theorem Fv{n:Nat}{d:TypeDesc}(C:P.underlying t=some (.array n e))(E:P.underlying e=some d)(G:(∀m f,d ≠ .array m f)/\(∀fs,d ≠ .struct fs))(h:(P.info? e).map (·.size)=some 1)
 (cs:Array Value) (k:Nat) (v:Value) (D:k<n) (A:cs[k]?=some v) (s:IntKind) (w:World):(Instr.index t (.agg cs) (.int s k)).run P w = .ok v w:=by
 have a:∀w,(Go.sizeOf e).run P w = .ok 1 w:=by
  intro w;cases hq:P.info? e with
  | none=>simp[hq]at h
  | some i=>
   have z:i.size=1:=by simpa[hq]using h
   simp[Go.sizeOf,typeInfo,run_program,hq,z]
 have F:∀w,(isAgg e).run P w = .ok false w:=by intro w;unfold isAgg;simp[run_underlying E];cases d<;>simp_all
 simp[Instr.index,part,asIntOf,run_underlying C,a,D,F,A,go_sem]
theorem UY :(∀m f,TypeDesc.slice e ≠ .array m f)/\(∀fs,TypeDesc.slice e ≠ .struct fs):=⟨λ_ _ h=>(by cases h),λ_ h=>(by cases h)⟩
def aggB:TypeDesc->Bool
 | .struct _=>true
 | .array _ _=>true
 | _=>false
theorem kV{d:TypeDesc}(s:eB w (some ⟨b,off,none⟩) vs)
 (C:P.underlying ty=some d) (G:aggB d=true) (A:(P.info? ty).map (·.size)=some vs.length) :
  (loadVar ty ⟨b,off,none⟩).run P w = .ok (.agg vs.toArray) w:=by
 have E:(loadCells ⟨b,off,none⟩ vs.length).run P w = .ok vs.toArray w:=
  run_loadCells_list (P:=P) w ⟨b,off,none⟩ vs (λj v n=>by
   obtain⟨H,z,F,h2⟩:=s.at (by
    rcases gu 0 vs.length with h|h
    .exact h
    .rw[eY (by omega)]at n;cases n)
   cases F;have c:(⟨b,off,none⟩:Addr).add j=⟨b,off+j,none⟩:=by unfold Addr.add;split<;>simp_all
   rw[c];exact h2 j v n)
 cases hq:P.info? ty with
 | none=>simp[hq]at A
 | some i=>
  have D:i.size=vs.length:=by simpa[hq]using A
  have a:(isAgg ty).run P w = .ok true w:=by unfold isAgg;rw[kY,run_underlying C w];cases d<;>simp_all[aggB]
  simp[loadVar,kY,a,Go.sizeOf,typeInfo,hq,D,E]
theorem iA{a:Act}(s:o.guard=none)(ty:TypeId)(x:Operand)(C:o.op = .load ty x)
 (b off:Nat) (z:a.eval x = .pointer (some ⟨b,off,none⟩)) (vs:List Value) (n:eB w (some ⟨b,off,none⟩) vs) (d:TypeDesc)
 (A:P.underlying ty=some d) (E:aggB d=true) (D:(P.info? ty).map (·.size)=some vs.length)
 (h:wpList P ops Q rest (a.put o.dst (.agg vs.toArray)) w):wpList P ops Q (o::rest) a w:=
 wpList_plain s λK F=>by unfold Oper.wp execOp;simp only[C,z,Instr.loadAt,Instr.sureAddr,kY,qR,rA,kV n A E D];exact F _ _ h
theorem aG.rd(h:aG w b cs T):eB w (some ⟨b,0,none⟩) cs.toList:=by
 intro i u n;exact⟨b,0,rfl,by rw[h.cell,ed];simpa using n⟩
theorem aB{a:Act}(z:op.guard=none)(ty:TypeId)(x y:Operand)(J:op.op = .store ty x y)
 (b o:Nat) (v:Value) (cells:List Value) (G:a.eval x = .pointer (some ⟨b,o,none⟩)) (F:a.eval y=v) (E:v.cells.toList=cells) (cur:Array Value) (T:TypeId) (A:aG w b cur T)
 (D:o+cells.length<=cur.size) (C:(P.info? ty).map (·.size)=some cells.length) (N:∀u∈cells,u.oneCell' = true)
 (h:∀w',aG w' b (bJ cur o cells) T->w.grownBy w' (some b)->wpList P ops Q rest (a.put op.dst undef) w'):wpList P ops Q (op::rest) a w:=
 wpList_plain z λK M=>by
  have n:=run_storeCells_cells (P:=P) b o cells 0 w
   (λj L=>by rw[iP,A.cell];simp[show o+j<cur.size by omega]) (λj L=>A.free _) N
  simp only[iP]at n;have s:(storeVar ty ⟨b,o,none⟩ v).run P w = .ok () (w.setCells b o cells):=by
   cases hq:P.info? ty with
   | none=>simp[hq]at C
   | some i=>
    have I:i.size=cells.length:=by simpa[hq]using C
    have H:v.cells.size=cells.length:=by rw[<-E];simp
    simp[storeVar,Go.sizeOf,typeInfo,hq,I,H,E,n]
  unfold Oper.wp execOp;simp only[J,G,F,Instr.storeAt,Instr.sureAddr,kY,qR,rA,s];exact M _ _ (h _ (A.setCells _ _) (aC _ _ _ _))
theorem putAt_one(cur:Array Value)(o:Nat)(v:Value):bJ cur o [v]=cur.setIfInBounds o v:=rfl
theorem lg{n:Func}{p q:Tmp}(h:n.results=#[.cell p ty,.tmp q])(tmps:Array Value)(w:World)(g:Nat)(t:TypeId)(cs:Array Value)(d:TypeDesc)(v:Value)
 (A:tmps.getD p undef = .pointer (some ⟨g,0,none⟩)) (s:tmps.getD q undef=v) (E:aG w g cs t) (z:P.underlying ty=some d) (F:aggB d=true) (D:(P.info? ty).map (·.size)=some cs.size) :
  (results n tmps).run P w = .ok (.tuple #[.agg cs,v]) w:=by
 have b : tmps[p]?.getD undef = .pointer (some ⟨g,0,none⟩):=by simpa using A
 have C:=kV (P:=P) E.rd z F (by rw[jm];exact D);have a : tmps[q]?.getD undef=v:=by simpa using s
 simp[results,h,b,a,asAddr,C]
theorem bZ{n:Func}{p q r:Tmp}(h:n.results=#[.cell p ty,.tmp q,.tmp r])(tmps:Array Value)(w:World)(g:Nat)(t:TypeId)(cs:Array Value)(d:TypeDesc)(v u:Value)
 (A:tmps.getD p undef = .pointer (some ⟨g,0,none⟩)) (s:tmps.getD q undef=v) (hu' : tmps.getD r undef=u) (E:aG w g cs t) (z:P.underlying ty=some d) (F:aggB d=true) (D:(P.info? ty).map (·.size)=some cs.size) :
  (results n tmps).run P w = .ok (.tuple #[.agg cs,v,u]) w:=by
 have c : tmps[p]?.getD undef = .pointer (some ⟨g,0,none⟩):=by simpa using A
 have C:=kV (P:=P) E.rd z F (by rw[jm];exact D);have b : tmps[q]?.getD undef=v:=by simpa using s
 have a : tmps[r]?.getD undef=u:=by simpa using hu'
 simp[results,h,c,b,a,asAddr,C]
theorem fG{n:Func}{p:Tmp}(h:n.results=#[.cell p ty])(tmps:Array Value)(w:World)(g:Nat)(t:TypeId)(cs:Array Value)(d:TypeDesc)
 (z:tmps.getD p undef = .pointer (some ⟨g,0,none⟩)) (D:aG w g cs t) (s:P.underlying ty=some d) (E:aggB d=true) (C:(P.info? ty).map (·.size)=some cs.size) :
  (results n tmps).run P w = .ok (.agg cs) w:=by
 have a : tmps[p]?.getD undef = .pointer (some ⟨g,0,none⟩):=by simpa using z
 have A:=kV (P:=P) D.rd s E (by rw[jm];exact C);simp[results,h,a,asAddr,A]
def oz(w:World)(v v' : Value):Prop:=v'.ownBlock=v.ownBlock\/∀g,v'.ownBlock=some g->w.heap.size<=g
theorem uo{a:Act}(U:o.guard=none)(s x:Operand)(t:TypeId)
 (I:o.op=Op.call { callee:=Callee.builtin Builtin.append,args:=#[s,x],argTypes:=#[t,t] })
 (B:Nat) (e:TypeId) (z:Value) (h C:Nat) (h1:P.underlying t=some (.slice e)) (h2:(P.info? e).map (λi=>(i.zero,i.size,i.bytes))=some (some z,h,C)) (Z:z.cells.size=h) (Y:0<h)
 (v:Value) (n:Nat) (xs:List Value) (R:a.eval s=v) (F:Own w B e h v n xs)
 (G:Option Addr) (m c:Nat) (A:List Value) (O:a.eval x = .slice G m c) (D:G=none->c=0) (J:m<=c) (S:A.length=m*h) (H:eB w G A) (L:∀u∈A,u.oneCell' = true)
 (b1:n+m<=maxLen) (b2:(n+m)*C<=140737488355328) (X:B<=w.heap.size)
 (W:∀E w',Own w' B e h E (n+m) (xs++A)->w.grownBy w' v.ownBlock->oz w v E->wpList P ops Q rest (a.put o.dst E) w') :
  wpList P ops Q (o::rest) a w:=by
 obtain⟨E,w',b,k1,N,M⟩:=qB (P:=P) (ρ:=a.eval) (o:=o) (w:=w) s x t I B e z h C h1 h2 Z Y v n xs R F G m c A O D J S H L b1 b2 X;refine wpList_plain U λK d => ?_;unfold Oper.wp;rw[b];exact d _ _ (W E w' k1 N M)
def Apart(v u:Value):Prop:=∀g,v.ownBlock=some g->u.ownBlock≠some g
theorem Apart.symm(h:Apart v u):Apart u v:=λg n h2=>h g h2 n
theorem JV{n:Nat}(h:Own w B e sz v n xs)(g:Nat)(s:v.ownBlock=some g):g<w.heap.size:=by
 rcases h.2 with⟨rfl,_⟩|⟨C,off,A,cur,rfl,_,z,_⟩
 .cases s
 cases s;exact z.lt
theorem Own.apart{n:Nat}(z:Own w B e sz u n xs)(h:Apart v u)(s:w.grownBy w' v.ownBlock):Own w' B e sz u n xs:=
 z.grown s λg A C=>h g C A
theorem aK{a:Act}(s:op.guard=none)(ty:TypeId)(x y:Operand)(C:op.op = .store ty x y)
 (cells:Array Value) (A:a.eval x = .pointer (some ⟨w.heap.size,0,none⟩)) (z:a.eval y = .agg cells)
 (n:cells.size=cur.size) (E:(P.info? ty).map (·.size)=some cells.size) (G:cells.all (·.oneCell')=true)
 (h:∀w',Below w.heap.size w w'->aG w' w.heap.size cells T->wpList P ops Q rest (a.put op.dst undef) w'):wpList P ops Q (op::rest) a (w.alloc (.cells cur T)):=by
 refine aA s ty x y C w.heap.size cells A z cur T (aG.new _ _ _) n E G λw' F b=>h w' ?_ F;exact((Below.refl _ _).alloc (az _) _).grown b (gU _ _) (λk D=>by cases D;exact az _)
theorem KT{a:Act}(n:op.guard=none)(ty:TypeId)(x y:Operand)(C:op.op = .store ty x y)
 (v:Value) (z:a.eval x = .pointer (some ⟨w.heap.size,0,none⟩)) (s:a.eval y=v) (F:v.cells.toList=[v])
 (E:(P.info? ty).map (·.size)=some 1) (H:v.oneCell' = true)
 (h:∀w',Below w.heap.size w w'->aG w' w.heap.size #[v] T->wpList P ops Q rest (a.put op.dst undef) w'):wpList P ops Q (op::rest) a (w.alloc (.cells #[c0] T)):=by
 refine aB n ty x y C w.heap.size 0 v [v] z s F #[c0] T (aG.new _ _ _) (show 0+1<=1 from az 1) E (λu A=>by cases bB.1 A;exact H) λw' G b=>h w' ?_ G;exact((Below.refl _ _).alloc (az _) _).grown b (gU _ _) (λk D=>by cases D;exact az _)
theorem wpList_want{a:Act}(n:Region.wanted o (yielded ops a.tmps)=true)
 (h:∀K:Act->World->Prop,(∀a w,wpList P ops Q rest a w->K a w)->o.wp P a w K Q):wpList P ops Q (o::rest) a w:=
 wpList_step λK s=>by rw[if_pos n];exact h K s
theorem ay{a:Act}(ty:TypeId)(x:Operand)(C:o.op = .load ty x)
 (b off:Nat) (z:a.eval x = .pointer (some ⟨b,off,none⟩)) (s:Region.wanted o (yielded ops a.tmps)=true) (vs:List Value) (n:eB w (some ⟨b,off,none⟩) vs) (d:TypeDesc)
 (A:P.underlying ty=some d) (E:aggB d=true) (D:(P.info? ty).map (·.size)=some vs.length)
 (h:wpList P ops Q rest (a.put o.dst (.agg vs.toArray)) w):wpList P ops Q (o::rest) a w:=
 wpList_want s λK F=>by unfold Oper.wp execOp;simp only[C,z,Instr.loadAt,Instr.sureAddr,kY,qR,rA,kV n A E D];exact F _ _ h
def bU(o:Oper):Oper:={ o with after:=⟨o.after.toList.filter (Region.binds .any)⟩ }
def dm(ops:Array Oper):Array Oper:=⟨ops.toList.map bU⟩
theorem wm(ops:Array Oper):(dm ops).size=ops.size:=by simp[dm]
theorem Cb(ops:Array Oper)(i:Nat):(dm ops)[i]?=(ops[i]?).map bU:=by
 unfold dm;simp
theorem CG(ops:Array Oper)(h:Array Bool):Region.ready .any (dm ops) h=Region.ready .any ops h:=by
 unfold Region.ready;rw[wm];apply List.filter_congr;intro i _;congr 1;rw[Cb];cases ops[i]? with
 | none=>rfl
 | some o=>
  simp only[rY,qh];rw[<-mO,<-mO];exact filter_all _ _ _
theorem FW(ops:Array Oper)(ts:Array Value):yielded (dm ops) ts=yielded ops ts:=by
 funext g;unfold yielded;rw[Cb];cases ops[g]?<;>rfl
theorem MF{K:Act->World->Prop}{a:Act}(h:wpOp P (dm ops) Q i K a w):wpOp P ops Q i K a w:=by
 unfold wpOp at h ⊢;rw[Cb,FW]at h;cases ho:ops[i]? with
 | none=>rw[ho]at h;exact h
 | some o=>
  rw[ho]at h;exact h
theorem yK{P:Program}{ops:Array Oper}{Q:Exit->Act->World->Prop}:∀(s:Nat) (n:Array Bool) (a:Act) (w:World),wpAny P .any (dm ops) Q s n a w->wpAny P .any ops Q s n a w
 | 0,n,a,w,h=>by unfold wpAny at h ⊢;rw[CG]at h;exact h
 | s+1,n,a,w,h=>by unfold wpAny at h ⊢;rw[CG]at h;exact⟨h.1,λi z=>wpOp_mono (λa w=>yK s _ a w) (MF (h.2 i z))⟩
structure wX where
 r:(Nat->Value)->World->Prop
 on:List Nat
 st:∀y w w',Below w.heap.size w w'->r y w->r y w'
 dep:∀y y' w,(∀j∈on,y j=y' j)->r y w->r y' w
def Ym(k:Nat)(R:mV):wX:=⟨λy w=>R.r (y k) w,[k],λy w w' hb h=>R.st _ _ _ hb h,λy y' w h h1=>by rw[<-h k (bB.2 rfl)];exact h1⟩
def anyY:wX:=⟨λ_ _=>True,[],λ_ _ _ _ _=>trivial,λ_ _ _ _ _=>trivial⟩
def ry(l:List wX)(i:Nat):wX:=l.getD i anyY
def upd(y:Nat->Value)(i:Nat)(v:Value):Nat->Value:=λk=>if k=i then v else y k
def RU(ops:Array Oper)(m:Nat)(l:List wX):Bool:=
 (List.range m).all λi=>match ops[i]? with
  | none=>true
  | some o=>(ry l i).on.all λj=>decide (j=i)||o.after.toList.any (λe=>e.on==j)
theorem Wj{m:Nat}{l:List wX}(h:RU ops m l=true)(n:i<m)(z:ops[i]?=some o)(A:j∈(ry l i).on):j=i\/∃e∈o.after,e.on=j:=by
 have s:=fA.1 h i (dG.2 n);simp only[z]at s;have h2:=fA.1 s j A;simp only[qy,decide_eq_true_eq,jK,beq_iff_eq]at h2;rcases h2 with h2|⟨e,C,D⟩
 .exact .inl h2
 .exact .inr ⟨e,nZ.1 C,D⟩
def XR(ops:Array Oper)(m:Nat)(l:List wX)(B:World->Prop)(a0:Act)(listed:Array Bool)(a:Act)(w:World):Prop:=
 (∀i,m<=i->listed.getD i false=false)/\(∀i o,ops[i]?=some o->listed.getD i false=true->∀e∈o.after,listed.getD e.on false=true) /\
  ∃y:Nat->Value,a = { a0 with tmps:=lay (λi=>listed.getD i false) y ops.toList 0 a0.tmps }/\B w/\∀i,i<m->listed.getD i false=true->(ry l i).r y w
def xD(m:Nat)(l:List wX)(B:World->Prop)(i:Nat)(y:Nat->Value)(w:World)(v:Value)(w' : World):Prop:=
 B w'/\(ry l i).r (upd y i v) w'/\∀k,k<m->k≠i->(ry l k).r y w->(ry l k).r y w'
theorem CS(m:Nat)(l:List wX)(B:World->Prop)(hbst:∀w w',Below w.heap.size w w'->B w->B w')(F:jY ops=true)(U:jg ops m=true)(W:m<=ops.size)(hon:RU ops m l=true)(hb0:B w0)
 (O:∀i o,i<m->ops[i]?=some o->∀y w,B w->(∀j,o.after.toList.any (λe=>e.on==j)=true->(ry l j).r y w) ->
 if Region.wanted o (yielded ops (lay (λ_=>true) y ops.toList 0 a0.tmps))=true then Gives P o { a0 with tmps:=lay (λ_=>true) y ops.toList 0 a0.tmps } w (xD m l B i y w)else xD m l B i y w undef w)
 (N:∀y w,B w->(∀i,i<m->(ry l i).r y w)->wpList P ops Q (ops.toList.drop m) { a0 with tmps:=lay (λi=>decide (i<m)) y ops.toList 0 a0.tmps } w) :
  wpAny P .any ops Q ops.size (Array.replicate ops.size false) a0 w0:=by
 have hE:∀(C:Nat) (A:Array Bool) (a:Act) (w:World),A.size=ops.size->A.toList.countP (!·)<=C->XR ops m l B a0 A a w->wpAny P .any ops Q C A a w:=by
  intro C
  induction C with
  | zero=>
   intro A a w c hc Z;have hl:∀i,i<ops.size->A.getD i false=true:=by
    intro i hF;have h0:A.toList.countP (!·)=0:=by omega
    have:=yl.1 h0 (A[i]'(by omega)) (by simp);simpa[dh,show i<A.size by omega]using this
   obtain⟨u,hn,y,R,Y,S⟩:=Z;have hy : m=ops.size:=by
    rcases gu m ops.size with h|h
    .have h1:=hl m h;rw[u m (az _)]at h1;cases h1
    .omega
   refine vw (m:=m) F U 0 ops.size A a w (by omega) (az _) (by omega) c (λi E=>by rw[hl i E];simp[E]) ?_;have:=N y w Y λi E=>S i (by omega) (hl i (by omega));rw[R,sP (λi=>A.getD i false) (λi=>decide (i<m)) y ops.toList 0 a0.tmps (λk I=>by
    have hG : k<ops.size:=by simpa using I
    simp only[ed];rw[hl k hG];simp;omega)]
   rw[hy]at this ⊢;exact this
  | succ C ih=>
   intro A a w c hc Z
   by_cases D:∀i,i<m->A.getD i false=true
   .obtain⟨u,hn,y,R,Y,S⟩:=Z;have K:∀i,i<ops.size->A.getD i false=decide (i<m):=by
     intro i E
     by_cases H:i<m
     .rw[D i H];simp[H]
     .rw[u i (by omega)];simp[H]
    have hm:ops.size-m<=C+1:=by have:=EE (k1:=m) c W K;omega
    refine vw (m:=m) F U (C+1) m A a w (az _) W hm c K ?_;have:=N y w Y λi E=>S i (by omega) (D i E);rw[R,sP (λi=>A.getD i false) (λi=>decide (i<m)) y ops.toList 0 a0.tmps (λk I=>by simp only[ed];exact K k (by simpa using I))];exact this
   have f:Region.ready .any ops A≠[]:=by
    intro hh;apply D;intro i
    induction i using Nat.strongRecOn with
    | ind i ih'=>
     intro H
     by_cases X : A.getD i false=true
     .exact X
     exfalso;have E:i<ops.size:=by omega
     have hp:i∈Region.ready .any ops A:=by
      rw[mem_ready];refine⟨?_,ops[i],by simp[E],λe J _ => ?_⟩
      .simpa[dh,show i<A.size by omega]using X
      have:=(iy F (i:=i) (o:=ops[i]) (by simp[E])).2.1 e J;exact ih' e.on this.2 (by omega)
     rw[hh]at hp;cases hp
   refine⟨λh=>absurd h f,λi E => ?_⟩;obtain⟨h1,o,M,hv⟩:=mem_ready.1 E;have hF:i<ops.size:=(iX.1 M).1;obtain⟨hw,b,_⟩:=iy F M;have K:∀e∈o.after,A.getD e.on false=true:=λe J=>hv e J (b e J).1;have H:i<m:=by
    rcases gu i m with h|h
    .exact h
    exfalso;apply D;intro j hj;exact wG U Z.2.1 M K h j (by omega)
   obtain⟨u,hn,y,R,Y,S⟩:=Z;have hI:A.getD i false=false:=by simpa[dh,show i<A.size by omega]using h1
   have z:∀v w',xD m l B i y w v w'->wpAny P .any ops Q C (A.setIfInBounds i true) (a.put o.dst v) w':=by
    intro v w' hq;refine ih _ _ _ (by simp[c]) ?_ ⟨λk I => ?_,λk o' n I e J => ?_,upd y i v,?_,hq.1,?_⟩
    .exact EZ (by omega) h1 hc
    .have:=u k I;simp only[dh,ib (show i≠k by omega)]at this ⊢;exact this
    .have up:∀q,A.getD q false=true->(A.setIfInBounds i true).getD q false=true:=yn (by omega);apply up
     by_cases G:k=i
     .subst G;rw[M]at n;cases n;exact K e J
     .exact hn k o' n (by simpa[dh,ib (pu G)]using I) e J
    .rw[R,Jg F M c v];rfl
    intro k I hK
    by_cases G:k=i
    .subst G;exact hq.2.1
    have hr:A.getD k false=true:=by simpa[dh,ib (pu G)]using hK
    refine(ry l k).dep y (upd y i v) w' (λj hj => ?_) (hq.2.2 k I G (S k I hr));have hz:k<ops.size:=by omega
    have hB:A.getD j false=true:=by
     rcases Wj hon I (o:=ops[k]) (by simp[hz]) hj with rfl|⟨e,J,rfl⟩
     .exact hr
     .exact hn k ops[k] (by simp[hz]) hr e J
    have hH:j≠i:=by rintro rfl;rw[hI]at hB;cases hB
    unfold upd;rw[if_neg hH]
   have hf:∀t∈o.looksAt ops,a.tmps[t]?=(lay (λ_=>true) y ops.toList 0 a0.tmps)[t]?:=λt U=>by rw[R];exact BC F M K t U
   have hu:execOp a.eval o=execOp ({ a0 with tmps:=lay (λ_=>true) y ops.toList 0 a0.tmps }:Act).eval o:=by
    refine execOp_congr o hw λx hx => ?_;cases x with
    | tmp t=>
     have:=hf t (qg _ (JQ.2 ⟨.tmp t,by simpa using hx,rfl⟩));simp[Act.eval,this]
    | _=>rfl
   have d:Region.wanted o (yielded ops a.tmps)=Region.wanted o (yielded ops (lay (λ_=>true) y ops.toList 0 a0.tmps)):=by
    unfold Region.wanted;cases hg:o.guard with
    | none=>rfl
    | some gw=>
     obtain⟨g,want⟩:=gw;have:yielded ops a.tmps g=yielded ops (lay (λ_=>true) y ops.toList 0 a0.tmps) g:=by
      unfold yielded;cases hd:(ops[g]?).bind (·.dst)with
      | none=>rfl
      | some t=>
       have:=hf t (uQ _ (by simp[hg,hd]));simp[this]
     simp only[this]
   have hs:=O i o H M y w Y (λj hj=>by
    obtain⟨e,J,hJ⟩:=jK.1 hj;have hC : e.on=j:=by simpa using hJ
    subst hC;have hD:=nZ.1 J;exact S e.on (by have:=(b e hD).2;omega) (K e hD))
   by_cases L:Region.wanted o (yielded ops (lay (λ_=>true) y ops.toList 0 a0.tmps))=true
   .rw[if_pos L]at hs;exact tH M (by rw[d];exact L) hu hs λv w' h=>z v w' h
   rw[if_neg L]at hs;unfold wpOp;simp only[M];rw[if_neg (by rw[d];exact L)];exact z undef w hs
 refine hE ops.size _ _ _ (by simp) ?_ ⟨λi _ => ?_,λi o' n E => ?_,λ_=>undef,?_,hb0,?_⟩
 .simpa using yG (p:=(!·)) (l:=List.replicate ops.size false)
 .simp[dh,su];split<;>rfl
 .exfalso;have:i<ops.size:=(iX.1 n).1;simp[dh,this]at E
 .have e:lay (λi=>(Array.replicate ops.size false).getD i false) (λ_=>undef) ops.toList 0 a0.tmps=a0.tmps:=by apply mI;intro s;exact jr _ _ s _ 0 _ λk o' I hd=>by simp[dh,su];split<;>rfl
  rw[e]
 intro i E K;exfalso;have:(Array.replicate ops.size false).getD i false=false:=by simp[dh,su];split<;>rfl
 rw[this]at K;cases K
def Ey(P:Program)(ops:Array Oper)(a0:Act)(m:Nat)(l:List wX)(B:World->Prop)(i:Nat)(o:Oper):Prop:=
 ∀(ρ:Operand->Value) (y:Nat->Value) (w:World),(∀t j,writer ops t=some j->ρ (.tmp t)=y j)->(∀x,(match x with | .tmp t=>writer ops t=none | _=>True)->ρ x=a0.eval x) ->
  B w->(∀j,o.after.toList.any (λe=>e.on==j)=true->(ry l j).r y w) ->
  if Region.wanted o (iw ρ ops)=true then dZ P o ρ w (xD m l B i y w)else xD m l B i y w undef w
theorem PG(m:Nat)(l:List wX)(B:World->Prop)(F:∀w w',Below w.heap.size w w'->B w->B w')(D:jY ops=true)(R:jg ops m=true)(K:m<=ops.size)(J:RU ops m l=true)(L:B w0)
 (n:Nat) (S:a0.tmps.size=n) (I:kS ops n=true)
 (A:bn (Ey P ops a0 m l B) 0 (ops.toList.take m))
 (E:∀y w,B w->(∀i,i<m->(ry l i).r y w)->wpList P ops Q (ops.toList.drop m) { a0 with tmps:=lay (λi=>decide (i<m)) y ops.toList 0 a0.tmps } w) :
  wpAny P .any ops Q ops.size (Array.replicate ops.size false) a0 w0:=by
 refine CS m l B F D R K J L (λi o z W y w Z X => ?_) E;have f:∀t j,writer ops t=some j->({ a0 with tmps:=lay (λ_=>true) y ops.toList 0 a0.tmps }:Act).eval (.tmp t)=y j:=by
  intro t j H;unfold writer at H;have N:=ut H;have h2:=dG.1 (rR H);cases ho:ops[j]? with
  | none=>simp[ho]at N
  | some p=>
   have a : p.dst=some t:=by simpa[ho]using N
   have u:t<a0.tmps.size:=by have:=fA.1 I p (nZ.2 (Ab ho));rw[S];simpa[a]using this
   have O:∀G C,ops.toList[G]?=some C->C.dst=some t->G = j:=by
    intro G C b Y;rcases((iy D (i:=G) (o:=C) (by simpa using b)).2.2 j p t ho a).1 with h|h
    .exact h
    .exact absurd Y h
   have:=mG (λ_=>true) y t ops.toList 0 a0.tmps j p (by simpa using ho) a rfl O u;simp[Act.eval,this]
 have s:∀x,(match x with | .tmp t=>writer ops t=none | _=>True)->({ a0 with tmps:=lay (λ_=>true) y ops.toList 0 a0.tmps }:Act).eval x=a0.eval x:=by
  intro x M;cases x with
  | tmp t=>
   have:(lay (λ_=>true) y ops.toList 0 a0.tmps)[t]?=a0.tmps[t]?:=by
    refine jr _ y t _ 0 _ λk C U a => ?_;exfalso;simp only[writer]at M;have b : ops[k]?=some C:=by simpa using U
    have e:k<ops.size:=(iX.1 b).1;have:=ru.1 M k (dG.2 e);simp[b,a]at this
   simp[Act.eval,this]
  | _=>rfl
 have c:Region.wanted o (yielded ops (lay (λ_=>true) y ops.toList 0 a0.tmps))=Region.wanted o (iw ({ a0 with tmps:=lay (λ_=>true) y ops.toList 0 a0.tmps }:Act).eval ops):=by
  congr 1;funext g;unfold yielded iw;cases (ops[g]?).bind (·.dst)with
  | none=>rfl
  | some d=>
   simp only[Bg,Act.eval,dh];generalize (lay (λ_=>true) y ops.toList 0 a0.tmps)[d]?=q;cases q with
   | none=>rfl
   | some v=>cases v<;>rfl
 have ha : (ops.toList.take m)[i]?=some o:=by rw[mg,if_pos z];simpa using W
 have:=bn.at A i o ha _ y w f s Z X;rw[ed]at this;rw[c];exact this
theorem RD(m:Nat)(l:List wX)(B:World->Prop)(h:∀w w',Below w.heap.size w w'->B w->B w')(F:B w0)(J:P.follows .mixedOrders=true)
 (ops' : Array Oper) (H:dm ops=ops') (D:jY ops' = true) (G:jg ops' m=true) (E:m<=ops'.size) (C:RU ops' m l=true)
 (n:Nat) (I:a0.tmps.size=n) (A:kS ops' n=true)
 (s:bn (Ey P ops' a0 m l B) 0 (ops'.toList.take m))
 (z:∀y w,B w->(∀i,i<m->(ry l i).r y w)->wpList P ops' Q (ops'.toList.drop m) { a0 with tmps:=lay (λi=>decide (i<m)) y ops'.toList 0 a0.tmps } w) :
  (Code.region id ops true).wp P Q a0 w0:=by
 refine wp_region_any J (yK _ _ _ _ ?_);subst H;have h2:B { w0 with drawn:=w0.drawn+1 }:=h w0 _ ⟨rfl,rfl,rfl,az _,λ_ _=>rfl⟩ F;have:=PG m l B h D G E C h2 n I A s z;rw[wm]at this;exact this
theorem Un(y:Nat->Value)(i:Nat)(v:Value):upd y i v i=v:=by unfold upd;rw[if_pos rfl]
theorem qf{m:Nat}{l:List wX}{B:World->Prop}(n:∀w w',Below w.heap.size w w'->B w->B w')(A:B w)(s:Below w.heap.size w w')(z:(ry l i).r (upd y i v) w'):xD m l B i y w v w':=
 ⟨n _ _ s A,z,λk _ _ h=>(ry l k).st _ _ _ s h⟩
theorem iY{m:Nat}{l:List wX}{B:World->Prop}(s:∀w w',Below w.heap.size w w'->B w->B w')(A:B w)(R:mV)(z:∀v w',R.r v w'->(ry l i).r (upd y i v) w')
 (h:if Region.wanted o (iw ρ ops)=true then dZ P o ρ w (λv w'=>Below w.heap.size w w'/\rl (List.replicate (i+1) R) i v w')else rl (List.replicate (i+1) R) i undef w) :
  if Region.wanted o (iw ρ ops)=true then dZ P o ρ w (xD m l B i y w)else xD m l B i y w undef w:=by
 have e:∀v w,rl (List.replicate (i+1) R) i v w=R.r v w:=by intro v w;unfold rl;rw[aY,qa,if_pos (by omega)];rfl
 simp only[e]at h
 by_cases D:Region.wanted o (iw ρ ops)=true
 .rw[if_pos D]at h ⊢;unfold dZ at h ⊢;generalize (execOp ρ o).run P w=q at h ⊢;cases q with
  | ok n w'=>
   cases n with
   | value v=>exact qf s A h.1 (z _ _ h.2)
   | skip=>exact qf s A h.1 (z _ _ h.2)
   | enter f args=>
    refine xZ h λe E C => ?_;cases e
    case returned v=>exact qf s A C.1 (z _ _ C.2)
    all_goals exact C
   | _=>exact h
  | halt x w'=>exact h
 rw[if_neg D]at h ⊢;exact qf s A (Below.refl _ _) (z _ _ h)
def iN(B:Nat)(T:TypeId)(n:Nat):mV:=⟨λv w => ∃g cs,v = .pointer (some ⟨g,0,none⟩)/\B<=g/\aG w g cs T/\cs.size=n,λ_ _ _ hb ⟨g,cs,h1,h2,h3,h4⟩=>⟨g,cs,h1,h2,h3.ext hb,h4⟩⟩
theorem kZ{n:Nat}(h:(iN B T n).r v w)(G:aG w' g cs T')(z:T=T'->cs.size=n)(hold:∃cur,aG w g cur T')(A:w.grownBy w' (some g)):(iN B T n).r v w':=by
 obtain⟨C,cs',F,h2,s,H⟩:=h
 by_cases e:C = g
 .subst e;obtain⟨cur,E⟩:=hold;have D:T=T':=by unfold aG at s E;rw[E]at s;simp only[jA,uj]at s;exact s.2.1.symm
  subst D;exact⟨C,cs,F,h2,G,z rfl⟩
 .exact⟨C,cs',F,h2,s.grown A (λD=>e (aM D).symm),H⟩
theorem mh{m:Nat}{l:List wX}{B:World->Prop}(F:Region.wanted o (iw ρ ops)=true)(ty:TypeId)(x z:Operand)(I:o.op = .store ty x z)
 (g off:Nat) (v:Value) (cells:List Value) (E:ρ x = .pointer (some ⟨g,off,none⟩)) (D:ρ z=v) (C:v.cells.toList=cells) (cur:Array Value) (T:TypeId) (n:aG w g cur T)
 (A:off+cells.length<=cur.size) (s:(P.info? ty).map (·.size)=some cells.length) (K:∀u∈cells,u.oneCell' = true)
 (h:∀w',aG w' g (bJ cur off cells) T->w.grownBy w' (some g)->xD m l B i y w undef w') :
  if Region.wanted o (iw ρ ops)=true then dZ P o ρ w (xD m l B i y w)else xD m l B i y w undef w:=by
 rw[if_pos F];have a:=run_storeCells_cells (P:=P) g off cells 0 w
  (λj J=>by rw[iP,n.cell];simp[show off+j<cur.size by omega]) (λj J=>n.free _) K
 simp only[iP]at a;have b:(storeVar ty ⟨g,off,none⟩ v).run P w = .ok () (w.setCells g off cells):=by
  cases hq:P.info? ty with
  | none=>simp[hq]at s
  | some i=>
   have H:i.size=cells.length:=by simpa[hq]using s
   have G:v.cells.size=cells.length:=by rw[<-C];simp
   simp[storeVar,Go.sizeOf,typeInfo,hq,H,G,C,a]
 unfold dZ execOp;simp only[I,E,D,Instr.storeAt,Instr.sureAddr,kY,qR,rA,b];exact h _ (n.setCells _ _) (aC _ _ _ _)
inductive UK where
 | v (V:Value)
 | r (i:Nat) (R:mV)
 | y (i:Nat) (R:wX)
def rvyN:UK:=.r 0 anyR
def rvyR:List UK->Nat->List wX
 | [],_=>[]
 | .v V::l,i=>Ym i (mZ V)::rvyR l (i+1)
 | .r _ R::l,i=>Ym i R::rvyR l (i+1)
 | .y _ R::l,i=>R::rvyR l (i+1)
def toRV:List UK->List RV
 | []=>[]
 | .v V::l => .v V::toRV l
 | .r i _::l => .r i anyR::toRV l
 | .y i _::l => .r i anyR::toRV l
theorem rvy_at:∀(l:List UK) (i k:Nat) {V:Value},l.getD i rvyN = .v V->(rvyR l k).getD i anyY=Ym (k+i) (mZ V)/\(toRV l).getD i rvN = .v V
 | [],_,_,_,h=>by cases h
 | a::l,0,k,V,h=>by have n : a = .v V:=h;subst n;exact⟨rfl,rfl⟩
 | a::l,i+1,k,V,h=>by have:=rvy_at l i (k+1) (V:=V) (by simpa using h);rw[show k+(i+1)=k+1+i by omega];cases a<;>exact⟨by simpa[rvyR]using this.1,by simpa[toRV]using this.2⟩
theorem rvy_rl:∀(l:List UK) (j k:Nat) {y:Nat->Value} {w:World},((rvyR l k).getD j anyY).r y w->rl (rvs (toRV l)) j (y (k+j)) w
 | [],_,_,_,_,_=>by unfold rl toRV rvs;simp[anyR]
 | a::l,0,k,y,w,h=>by
  cases a with
  | v V=>exact h
  | r i R=>exact trivial
  | y i R=>exact trivial
 | a::l,j+1,k,y,w,h=>by
  have n : ((rvyR l (k+1)).getD j anyY).r y w:=by cases a<;>simpa[rvyR]using h
  have:=rvy_rl l j (k+1) n;rw[show k+(j+1)=k+1+j by omega];unfold rl at this ⊢;cases a<;>simpa[toRV,rvs]using this
section
variable {P:Program} {ops:Array Oper} {a0:Act} {m:Nat} {l:List UK} {B:World->Prop} {i:Nat} {o:Oper} {r:List Oper}
theorem zi(n:∀w w',Below w.heap.size w w'->B w->B w')(C:l.getD i rvyN = .v V)
 (h:∀ρ y w,B w->Kn ops a0 (toRV l) o ρ y w->(Region.wanted o (iw ρ ops)=false/\V=undef)\/(Region.wanted o (iw ρ ops)=true/\(execOp ρ o).run P w = .ok (.value V) w)):Ey P ops a0 m (rvyR l 0) B i o:=λρ y w A D s G=>by
 have E:Kn ops a0 (toRV l) o ρ y w:=⟨A,D,λj F=>by have:=rvy_rl l j 0 (G j F);rwa [ed]at this⟩;have e:∀w',(ry (rvyR l 0) i).r (upd y i V) w':=λw'=>by unfold ry;rw[(rvy_at l i 0 C).1,ed];exact Un _ _ _
 rcases h ρ y w s E with⟨z,h2⟩|⟨z,h2⟩
 .rw[if_neg (by rw[z];exact Bool.false_ne_true),<-h2];exact qf n s (Below.refl _ _) (e w)
 rw[if_pos z];unfold dZ;rw[h2];exact qf n s (Below.refl _ _) (e w)
theorem zH.runY(z:l.getD i rvyN = .v V)(h:zH P ops a0 (toRV l) i o):∀ρ y w,Kn ops a0 (toRV l) o ρ y w->(Region.wanted o (iw ρ ops)=false/\V=undef)\/(Region.wanted o (iw ρ ops)=true/\(execOp ρ o).run P w = .ok (.value V) w):=λρ y w A=>by
 have e:∀v w,rl (rvs (toRV l)) i v w->v=V:=λv w n=>by unfold rl at n;rw[rvs_at,(rvy_at l i 0 z).2]at n;exact n
 rcases h ρ y w A with⟨s,h2⟩|⟨s,v,h2,C⟩
 .exact .inl ⟨s,(e _ _ h2).symm⟩
 .exact .inr ⟨s,by rw[<-e _ _ C];exact h2⟩
abbrev AY (P:Program) (ops:Array Oper) (a0:Act) (m:Nat) (l:List UK) (B:World->Prop) (i:Nat) (r:List Oper):Prop:=bn (Ey P ops a0 m (rvyR l 0) B) i r
theorem WB(n:∀w w',Below w.heap.size w w'->B w->B w')(s:l.getD i rvyN = .v V)(h:zH P ops a0 (toRV l) i o):Ey P ops a0 m (rvyR l 0) B i o:=zi n s λρ y w _ z=>h.runY s ρ y w z
theorem Yk(n:∀w w',Below w.heap.size w w'->B w->B w')(h:(ks ops a0 (toRV l) o).map UK.v=some (l.getD i rvyN))(z:AY P ops a0 m l B (i+1) r):AY P ops a0 m l B i (o::r):=by
 cases hk:ks ops a0 (toRV l) o with
 | none=>rw[hk]at h;cases h
 | some V=>
  rw[hk]at h;have s:=(aM h).symm;exact⟨WB n s (Wy hk (rvy_at l i 0 s).2),z⟩
theorem Yf(n:∀w w',Below w.heap.size w w'->B w->B w')(b k:Nat)(h:XH ops a0 (toRV l) o=some (t,v,f))(s:l.getD i rvyN = .v (.pointer (some ⟨b,k,none⟩)))(z:AY P ops a0 m l B (i+1) r)(A:∀w,(Instr.fieldAt t v f).run P w = .ok (.pointer (some ⟨b,k,none⟩)) w:=by intro _;kernel_rfl):AY P ops a0 m l B i (o::r):=
 ⟨(MG (C:=λi o=>zH P ops a0 (toRV l) i o) (r:=[]) id b k h (rvy_at l i 0 s).2 trivial A).1 |> WB n s,z⟩
theorem Yr(n:∀w w',Below w.heap.size w w'->B w->B w')(V:Value)(h:∀ρ y w,B w->Kn ops a0 (toRV l) o ρ y w->(execOp ρ o).run P w = .ok (.value V) w)(C:kg ops a0 (toRV l) o=some true)(z:l.getD i rvyN = .v V)(A:AY P ops a0 m l B (i+1) r):AY P ops a0 m l B i (o::r):=
 ⟨zi n z λρ y w D s => .inr ⟨EL C s,h ρ y w D s⟩,A⟩
theorem Yc(h:∀w w',Below w.heap.size w w'->B w->B w')(V:Value)(F:∀w,B w->w.cell? ⟨b,k,none⟩=some V)(E:kg ops a0 (toRV l) o=some true)(C:o.op = .load t x)(s:kx ops a0 (toRV l) o x=some (.pointer (some ⟨b,k,none⟩)))(z:l.getD i rvyN = .v V)(D:AY P ops a0 m l B (i+1) r)(A:XD P t=true:=by kernel_rfl):AY P ops a0 m l B i (o::r):=
 ⟨zi h z λρ y w G n => .inr ⟨EL E n,run_load C (aL s n) (by simp only[Instr.loadAt,Instr.sureAddr,kY,qR,rA,sW A (F w G)])⟩,D⟩
end
theorem toRV_len:∀l:List UK,(toRV l).length=l.length
 | []=>rfl
 | a::l=>by cases a<;>simp[toRV,toRV_len l]
theorem dS :∀w w',Below w.heap.size w w'->Below w0.heap.size w0 w->Below w0.heap.size w0 w':=λ_ _ h h2=>ag h2 h
theorem ko{D:List Deferred}(m:Nat)(l:List UK)(B:World->Prop)(C:∀w w',Below w.heap.size w w'->B w->B w')(J:B w0)
 (n:AY P (dm ops) ⟨t0,D⟩ m l B 0 ((dm ops).toList.take m)) {E:(Nat->Value)->List Value} (O:∀y,zz y (toRV l) (dm ops).toList t0.toList=some (E y)) (R:wr ((dm ops).toList.drop m)=some rest)
 (A:∀y w,B w->(∀i,i<m->(ry (rvyR l 0) i).r y w)->wpList P (dm ops) Q rest ⟨(E y).toArray,D⟩ w)
 (N:P.follows .mixedOrders=true:=by kernel_rfl) (H:jY (dm ops)=true:=by kernel_rfl) (M:jg (dm ops) m=true:=by kernel_rfl) (z:m<=(dm ops).size:=by decide) (G:RU (dm ops) m (rvyR l 0)=true:=by kernel_rfl) (s:l.length=m:=by rfl) (I:idxOk (toRV l) 0=true:=by kernel_rfl)
 (F:kS (dm ops) t0.size=true:=by kernel_rfl):(Code.region id ops true).wp P Q ⟨t0,D⟩ w0:=by
 refine RD m (rvyR l 0) B C J N (dm ops) rfl H M z G _ rfl F n λy w S L => ?_;have h:=A y w S L;rw[OJ R];have e:=yo (m:=m) (y:=y) (w:=w) (toRV l) (dm ops).toList 0 t0 I (by rw[toRV_len,s,ed]) (by rw[toRV_len,s,jm];exact z) λi K=>by have:=rvy_rl l i 0 (L i (by rw[toRV_len,s]at K;exact K));rw[ed]at this ⊢;exact this
 show wpList P (dm ops) Q rest ⟨lay (λi=>decide (i<m)) y (dm ops).toList 0 t0,D⟩ w;have W:=aM (e.symm.trans (O y));have U:lay (λi=>decide (i<m)) y (dm ops).toList 0 t0=(E y).toArray:=by rw[<-W]
 rw[U];exact h
theorem dZ.mono{F G:Value->World->Prop}(h:dZ P o ρ w F)(s:∀v w',F v w'->G v w'):dZ P o ρ w G:=by
 unfold dZ at h ⊢;generalize (execOp ρ o).run P w=r at h ⊢;cases r with
 | ok n w'=>
  cases n with
  | value v=>exact s _ _ h
  | skip=>exact s _ _ h
  | enter f args=>
   refine xZ h λe A z => ?_;cases e with
   | returned v=>exact s _ _ z
   | panicked c=>exact z.elim
   | outgrown=>exact z.elim
  | _=>exact h.elim
 | halt x w'=>exact h.elim
def GU(R:Nat->Value->World->Prop)(p q i:Nat)(v:Value)(w:World):Prop:=(i=p->∀u,R q u w->v≠u)/\(i=q->∀u,R p u w->v≠u)
theorem IX(m p q:Nat)(M:p<m)(K:q<m)(F:p≠q)(N:jY ops=true)(W:jg ops m=true)(O:m<=ops.size)
 (R:Nat->Value->World->Prop) (C:∀i v w w',Below w.heap.size w w'->R i v w->R i v w')
 (A:∀i o,i<m->ops[i]?=some o->∀y w,Below w0.heap.size w0 w->(∀j,o.after.toList.any (λe=>e.on==j)=true->R j (y j) w) ->
 if Region.wanted o (yielded ops (lay (λ_=>true) y ops.toList 0 a0.tmps))=true then Gives P o { a0 with tmps:=lay (λ_=>true) y ops.toList 0 a0.tmps } w (λv w'=>(Below w.heap.size w w'/\R i v w')/\GU R p q i v w)else R i undef w/\i≠p/\i≠q)
 (G:∀y w,Below w0.heap.size w0 w->(∀i,i<m->R i (y i) w)->y p≠y q->wpList P ops Q (ops.toList.drop m) { a0 with tmps:=lay (λi=>decide (i<m)) y ops.toList 0 a0.tmps } w) :
  Below w0.heap.size w0 { w0 with drawn:=w0.drawn+1 }->wpAny P .any ops Q ops.size (Array.replicate ops.size false) a0 { w0 with drawn:=w0.drawn+1 }:=
 λ_=>BK m N W O (λ_ _ _=>True) (λL y w=>(Below w0.heap.size w0 w/\∀i,L i=true->R i (y i) w)/\(L p=true->L q=true->y p≠y q)) (λy=>⟨⟨⟨rfl,rfl,rfl,az _,λ_ _=>rfl⟩,λi h=>(by cases h)⟩,λh=>(by cases h)⟩) (λ_ _ _ _ _=>trivial) (λi o S Y L y w hL hd n _=>by
  have h:=A i o S Y y w n.1.1 (λj hj=>n.1.2 j (hd j hj));have E:∀v w',Below w.heap.size w w'->R i v w'->Below w0.heap.size w0 w'/\∀k,dQ L i k=true->R k (fE y i v k) w':=λv w' U X=>⟨ag n.1.1 U,λk Z=>Ow n.1.2 X (λk v h=>C k v _ _ U h) k Z⟩;split at h
  .rename_i J;rw[if_pos J];refine FJ h λv w' I=>⟨⟨E v w' I.1.1 I.1.2,λz s => ?_⟩,trivial⟩;unfold dQ at z s;unfold fE
   by_cases H:p=i
   .rw[if_pos H,if_neg (λD=>F (H.trans D.symm))];rw[if_neg (λD=>F (H.trans D.symm))]at s;exact I.2.1 H.symm _ (n.1.2 q s)
   rw[if_neg H]at z ⊢
   by_cases D:q=i
   .rw[if_pos D];exactλe=>I.2.2 D.symm _ (n.1.2 p z) e.symm
   rw[if_neg D]at s ⊢;exact n.2 z s
  rename_i J;rw[if_neg J];refine⟨⟨E undef w (Below.refl _ _) h.1,λz s => ?_⟩,trivial⟩;unfold dQ at z s;unfold fE;rw[if_neg (λe=>h.2.1 e.symm)]at z ⊢;rw[if_neg (λe=>h.2.2 e.symm)]at s ⊢;exact n.2 z s) (λy w n _=>G y w n.1.1 (λi S=>n.1.2 i (decide_eq_true S)) (n.2 (decide_eq_true M) (decide_eq_true K)))
def Tm(P:Program)(ops:Array Oper)(a0:Act)(w0:World)(l:List mV)(p q i:Nat)(o:Oper):Prop:=
 ∀(ρ:Operand->Value) (y:Nat->Value) (w:World),(∀t j,writer ops t=some j->ρ (.tmp t)=y j)->(∀x,(match x with | .tmp t=>writer ops t=none | _=>True)->ρ x=a0.eval x) ->
  Below w0.heap.size w0 w->(∀j,o.after.toList.any (λe=>e.on==j)=true->rl l j (y j) w) ->
  if Region.wanted o (iw ρ ops)=true then dZ P o ρ w (λv w'=>(Below w.heap.size w w'/\rl l i v w')/\GU (rl l) p q i v w)else rl l i undef w/\i≠p/\i≠q
theorem vJ{l:List mV}(z:i≠p)(s:i≠q)(h:pO P ops a0 w0 l i o):Tm P ops a0 w0 l p q i o:=by
 intro ρ y w E h2 D C;have:=h ρ y w E h2 D C;split at this
 .rename_i n;rw[if_pos n];exact dZ.mono this λv w' A=>⟨A,λe=>absurd e z,λe=>absurd e s⟩
 rename_i n;rw[if_neg n];exact⟨this,z,s⟩
theorem RL(m p q:Nat)(l:List mV)(X:P.follows .mixedOrders=true)(K:p<m)(I:q<m)(J:p≠q)
 (ops' : Array Oper) (U:dm ops=ops') (D:jY ops' = true) (S:jg ops' m=true) (L:m<=ops'.size)
 (n:Nat) (W:a0.tmps.size=n) (H:kS ops' n=true)
 (A:bn (Tm P ops' a0 w0 l p q) 0 (ops'.toList.take m))
 (E:∀y w,Below w0.heap.size w0 w->(∀i,i<m->rl l i (y i) w)->y p≠y q->wpList P ops' Q (ops'.toList.drop m) { a0 with tmps:=lay (λi=>decide (i<m)) y ops'.toList 0 a0.tmps } w) :
  (Code.region id ops true).wp P Q a0 w0:=by
 refine wp_region_any X (yK _ _ _ _ ?_);subst U;have:=IX m p q K I J D S L (rl l) (λi v w w' M h=>(l.getD i anyR).st v w w' M h) (P:=P) (Q:=Q) (a0:=a0) (w0:=w0) (λi o u Z y w M hd => ?_) E ⟨rfl,rfl,rfl,az _,λ_ _=>rfl⟩
 .rw[wm]at this;exact this
 have f:∀t j,writer (dm ops) t=some j->({ a0 with tmps:=lay (λ_=>true) y (dm ops).toList 0 a0.tmps }:Act).eval (.tmp t)=y j:=by
  intro t j G;unfold writer at G;have O:=ut G;have h2:=dG.1 (rR G);cases ho:(dm ops)[j]? with
  | none=>simp[ho]at O
  | some p=>
   have a : p.dst=some t:=by simpa[ho]using O
   have s:t<a0.tmps.size:=by have:=fA.1 H p (nZ.2 (Ab ho));rw[W];simpa[a]using this
   have R:∀F C,(dm ops).toList[F]?=some C->C.dst=some t->F = j:=by
    intro F C b ha;rcases((iy D (i:=F) (o:=C) (by simpa using b)).2.2 j p t ho a).1 with h|h
    .exact h
    .exact absurd ha h
   have:=mG (λ_=>true) y t (dm ops).toList 0 a0.tmps j p (by simpa using ho) a rfl R s;simp[Act.eval,this]
 have r:∀x,(match x with | .tmp t=>writer (dm ops) t=none | _=>True)->({ a0 with tmps:=lay (λ_=>true) y (dm ops).toList 0 a0.tmps }:Act).eval x=a0.eval x:=by
  intro x N;cases x with
  | tmp t=>
   have:(lay (λ_=>true) y (dm ops).toList 0 a0.tmps)[t]?=a0.tmps[t]?:=by
    refine jr _ y t _ 0 _ λk C Y a => ?_;exfalso;simp only[writer]at N;have b : (dm ops)[k]?=some C:=by simpa using Y
    have e:k<(dm ops).size:=(iX.1 b).1;have:=ru.1 N k (dG.2 e);simp[b,a]at this
   simp[Act.eval,this]
  | _=>rfl
 have c:Region.wanted o (yielded (dm ops) (lay (λ_=>true) y (dm ops).toList 0 a0.tmps))=Region.wanted o (iw ({ a0 with tmps:=lay (λ_=>true) y (dm ops).toList 0 a0.tmps }:Act).eval (dm ops)):=by
  congr 1;funext g;unfold yielded iw;cases ((dm ops)[g]?).bind (·.dst)with
  | none=>rfl
  | some d=>
   simp only[Bg,Act.eval,dh];generalize (lay (λ_=>true) y (dm ops).toList 0 a0.tmps)[d]?=q;cases q with
   | none=>rfl
   | some v=>cases v<;>rfl
 have z : ((dm ops).toList.take m)[i]?=some o:=by rw[mg,if_pos u];simpa using Z
 have:=bn.at A i o z _ y w f r M hd;rw[ed]at this;rw[c];exact this
theorem LQ{l:List mV}(z:∀u,rl l q u w->∃g cs T,u = .pointer (some ⟨g,0,none⟩)/\aG w g cs T)(s:∀u,rl l p u w->∃g cs T,u = .pointer (some ⟨g,0,none⟩)/\aG w g cs T):GU (rl l) p q i (.pointer (some ⟨w.heap.size,0,none⟩)) w:=by
 refine⟨λ_ u h e => ?_,λ_ u h e => ?_⟩
 .obtain⟨g,cs,T,rfl,n⟩:=z u h;have:=n.lt;injection e with e;have e:=aM e;injection e with e1;omega
 obtain⟨g,cs,T,rfl,n⟩:=s u h;have:=n.lt;injection e with e;have e:=aM e;injection e with e1;omega
end Pw
namespace Go.Proofs.YthihaopabbpalaaGreat
open _root_.Go.Proofs.Tryz
open Go.RowKit Pw
variable {B B' b c cb cq g k off q r sz:Nat} {P:Program} {Q:Exit -> Act -> World -> Prop} {T e ty:TypeId} {a ab aq:Option Addr} {ca cs cs':Array Value} {d:vQ} {l:List Int} {o:Oper} {ops:Array Oper} {rest:List Oper} {v vb vq:Value} {vs xs:List Value} {w w' w0 w4 w5:World} {x:Operand} {ρ:Operand -> Value}
theorem int_info:(Tryz.prog.info? 3).map (λi=>(i.zero,i.size,i.bytes))=some (some (.int .i64 0),1,8):=by kernel_rfl
theorem int_size:(Tryz.prog.info? 3).map (·.size)=some 1:=by kernel_rfl
theorem Kr(l:List Int):(l.map gB).length=l.length*1:=by simp
theorem Kb(l:List Int):∀u∈l.map gB,u.oneCell' = true:=by
 intro u h;obtain⟨_,_,rfl⟩:=eU.1 h;rfl
theorem WO(l:List Int)(k:Nat)(h:k<l.length):(l.map gB)[k]?=some (.int .i64 l[k]):=by simp[h,gB]
theorem kD(h:eB w a (l.map gB))(k:Nat)(n:k<l.length):∃b off,a=some ⟨b,off,none⟩/\w.cell? ⟨b,off+k,none⟩=some (.int .i64 l[k]):=by
 obtain⟨b,off,z,s⟩:=h.at (by simp;omega);exact⟨b,off,z,s _ _ (WO l k n)⟩
open Go.Maps
theorem int_key:Keyed Tryz.prog 3:=int_keyed underlying3
theorem Mj(w:World):(zeroValue 4).run Tryz.prog w = .ok (.bool false) w:=by kernel_rfl
theorem zD{H:Type}{x:Bool}{n:List MemPlace}(h:plainElem (H:=H) Tryz.prog 4 v=some (.lit (.bool x),n)):v = .bool x:=by
 unfold plainElem at h;rw[underlying4]at h;split at h<;>simp_all
def pz(w:World)(b n:Nat)(f:Int->Bool):Prop:=∃D:DataW Unit,w.ownsMap Tryz.prog 3 (plainElem Tryz.prog 4) b n D/\Xz D f
theorem pz.made(w:World):pz (w.alloc (.map #[] 0)) w.heap.size 0 (λ_=>false):=⟨_,World.ownsMap_made (H:=Unit) w Tryz.prog 3 (plainElem Tryz.prog 4),Xz.empty⟩
theorem pz.below{n:Nat}{f:Int->Bool}(h:pz w b n f)(s:Below w.heap.size w w'):pz w' b n f:=by
 obtain⟨D,z,h2⟩:=h;exact⟨D,NR z s,h2⟩
theorem pz.look{n:Nat}{f:Int->Bool}(h:pz w b n f)(j:Int)(hj : -9223372036854775808<=j/\j<=9223372036854775807):(Instr.lookup 222 (.map (some b)) (.int .i64 j) false).run Tryz.prog w = .ok (.bool (f j)) w:=by
 obtain⟨D,A,z⟩:=h;obtain⟨v,C,s,h2⟩:=A.lookup int_key underlying222 (Mj w) (plainElem_bool underlying4 false) (keyOf_int_mk underlying3 (a:=j) (WalkArith.wf_i64 hj));rw[z.at_ j]at h2;rw[zD h2]at s;exact s
theorem xn{a:Act}{n:Nat}{f:Int->Bool}(h:pz w b n f)(J:n<1000000000)(E:o.guard=none)(m x v:Operand)(s:o.op=Op.mapUpdate 222 m x v)
 (C:a.eval m = .map (some b)) (j:Int) (z:a.eval x = .int .i64 j) (A:a.eval v = .bool true) (hj : -9223372036854775808<=j/\j<=9223372036854775807)
 (G:∀w',pz w' b (n+1) (λi=>f i||decide (i=j))->w.grownBy w' (some b)->wpList Tryz.prog ops Q rest (a.put o.dst undef) w'):wpList Tryz.prog ops Q (o::rest) a w:=by
 obtain⟨D,I,F⟩:=h;exact wpList_mapUpdate_own _ E m x v 222 s 3 4 int_key underlying222 _ b n D C I (by unfold maxLen;omega) _ _ _ z A (keyOf_int_mk underlying3 (WalkArith.wf_i64 hj)) _ [] (plainElem_bool underlying4 true) λw' H h2=>G w' ⟨_,H,F.put j⟩ h2
theorem pz.rdv{n:Nat}{f:Int->Bool}(h:pz w b n f)(A:eB w a vs)(E:w.grownBy w' (some b)):eB w' a vs:=by
 intro i u C;obtain⟨H,off,G,z⟩:=A i u C;refine⟨H,off,G,E.cell z ?_⟩;intro e;cases e;obtain⟨D,⟨I,s,F,_⟩,_⟩:=h;simp[World.cell?,F]at z
theorem Yy(m:World->Prop)(h:∀W,Below w.heap.size w W->pz W w.heap.size 0 (λ_=>false)->m W):m (w.alloc (.map #[] 0)):=
 h _ ((Below.refl _ _).alloc (az _) _) (pz.made w)
theorem Wi(p:Page)(a:Int)(w:World) :
  Calls Tryz.prog 140 #[.agg (eQ p),.int .i64 a] w λe w'=>e = .returned (.agg (eQ (dw p a)))/\Below w.heap.size w w':=by
 go_enter func140,ntmps140;go_wp2
 all_goals
  go_loopw [5] (fun i wr => ∃k:Nat,a<=k/\i = .int .i64 k/\wr=((w.alloc (.cells (eQ (iK p a k)) 58)).alloc (.cells #[.int .u8 0,.int .u8 0,.int .u8 0,.int .u8 0,.int .u8 0,.int .u8 0,.int .u8 0,.int .u8 0] 58))) (fun i _=>8-(intOf i).toNat)
  case atStart=>exact⟨a.toNat,by omega,by congr 1;omega,by rw[KL p a _ rfl]⟩
  case round=>
   obtain⟨k,n,rfl,rfl⟩:=hrel
   by_cases h:k<8
   .have z:=OA (iK p a k) k h;have s:(eQ (iK p a k)).setIfInBounds k (.int .u8 0)=eQ (iK p a (k+1)):=by rw[<-yV p a k h n];exact Aj _ k h 0
    go_wp2;go_roundw
    case rel=>exact⟨k+1,by omega,by go_num,rfl⟩
    case measure=>simp[intOf];omega
   rw[yg p a k (by omega)];obtain⟨I,H,G,F,E,D,C,A⟩:=yD (dw p a);go_wp2;simp[bodyPost,results,go_sem,results140];exact⟨rfl,((Below.refl _ _).alloc (az _) _).alloc (by simp) _⟩
theorem Cm(n:Int)(w:World)(h:n<=9223372036854775807) :
  Calls Tryz.prog 88 #[.int .i64 n] w λe w'=>e = .returned (.int .i64 (fw n))/\w=w':=by
 by_cases s:n<=0
 .go_enter func88,ntmps88;go_wp2;go_ret;exact⟨by simp[fw,s],rfl⟩
 go_enter func88,ntmps88;go_wp2;go_ret;exact⟨aX (by unfold fw;rw[if_neg (by omega)]),rfl⟩
theorem zm(n:Int)(w:World)(h:n<=9223372036854775807) :
  Calls Tryz.prog 33 #[.int .i64 n] w λe w'=>e = .returned (.int .i64 (fw n))/\w=w':=by
 by_cases s:n<=0
 .go_enter func33,ntmps33;go_wp2;go_ret;exact⟨by simp[fw,s],rfl⟩
 go_enter func33,ntmps33;go_wp2
 all_goals
  go_ret;exact⟨aX (by unfold fw;rw[if_neg (by omega)];omega),rfl⟩
theorem byte_size:(Tryz.prog.info? 5).map (·.size)=some 1:=by kernel_rfl
def Dy(p:Page):List Value:=(eQ p).toList
def GV(q:Int × Page):Array Value:=#[.int .i64 q.1,.int .u8 q.2[0].toNat,.int .u8 q.2[1].toNat,.int .u8 q.2[2].toNat,.int .u8 q.2[3].toNat,.int .u8 q.2[4].toNat,.int .u8 q.2[5].toNat,.int .u8 q.2[6].toNat,.int .u8 q.2[7].toNat]
def zI(q:Int × Page):List Value:=(GV q).toList
theorem nM(p:Page):(Dy p).length=8:=rfl
theorem vP(q:Int × Page):(zI q).length=9:=rfl
theorem page_info:(Tryz.prog.info? 58).map (λi=>(i.zero,i.size,i.bytes))=some (some (.agg #[.int .u8 0,.int .u8 0,.int .u8 0,.int .u8 0,.int .u8 0,.int .u8 0,.int .u8 0,.int .u8 0]),8,8):=by kernel_rfl
theorem put_info:(Tryz.prog.info? 105).map (λi=>(i.zero,i.size,i.bytes))=some (some (.agg #[.int .i64 0,.int .u8 0,.int .u8 0,.int .u8 0,.int .u8 0,.int .u8 0,.int .u8 0,.int .u8 0,.int .u8 0]),9,16):=by kernel_rfl
theorem Qu(l:List Page):(l.flatMap Dy).length=l.length*8:=Pw.flat_len _ _ nM l
theorem TE(l:List (Int × Page)):(l.flatMap zI).length=l.length*9:=Pw.flat_len _ _ vP l
theorem Qx(l:List Page):∀u∈l.flatMap Dy,u.oneCell' = true:=by
 intro u n;obtain⟨p,_,h⟩:=jV.1 n;simp only[Dy,eQ,dx,gW,or_false]at h;rcases h with rfl|rfl|rfl|rfl|rfl|rfl|rfl|rfl<;>rfl
theorem FM(l:List (Int × Page)):∀u∈l.flatMap zI,u.oneCell' = true:=by
 intro u n;obtain⟨p,_,h⟩:=jV.1 n;simp only[zI,GV,dx,gW,or_false]at h;rcases h with rfl|rfl|rfl|rfl|rfl|rfl|rfl|rfl|rfl<;>rfl
theorem LP(l:List Page)(a:Option Addr)(c:Nat)(w:World)(z:l.length<=c)(n:a=none->c=0)(s:eB w a (l.flatMap Dy))(E:l.length*8<=140737488355328) :
  Calls Tryz.prog 103 #[.slice a l.length c] w λe w' => ∃v,e = .returned v/\Own w' w.heap.size 58 8 v l.length (l.flatMap Dy)/\Below w.heap.size w w':=by
 cases a with
 | none=>
  have F:=n rfl;have C:l=[]:=kU (by omega);subst C;subst F;have A:=λW=>ni (P:=Tryz.prog) W 35 _ none 0 0 0 0 underlying35;go_enter func103,ntmps103;go_wp2;go_ret;exact⟨_,rfl,by simpa using Own.nil _ _ _ _,Below.refl _ _⟩
 | some ad=>
  have A:=λW=>ni (P:=Tryz.prog) W 35 _ (some ad) l.length c 0 0 underlying35;go_enter func103,ntmps103
  go_wp2_with (at_builtin;go_must (refine fT rfl _ _ 35 rfl w.heap.size 58 (.agg #[.int .u8 0,.int .u8 0,.int .u8 0,.int .u8 0,.int .u8 0,.int .u8 0,.int .u8 0,.int .u8 0]) 8 8 underlying35 page_info rfl (by decide) _ 0 [] rfl ?own (some ad) l.length c (l.flatMap Dy) rfl (λh=>(by cases h)) z (Qu l) ?rd (Qx l) (by unfold maxLen;omega) (by simpa using E) ?bb ?k))
  case own=>exact⟨rfl,.inr ⟨w.heap.size,0,0,#[],rfl,az _,aG.new _ _ _,az _,bq _,by simp,λj u h=>by simp at h⟩⟩
  case rd=>exact s.below ((Below.refl _ _).alloc (az _) _)
  case bb=>exact gU _ _
  intro v G b d;go_wp2;go_ret;exact⟨v,rfl,by simpa using b,((Below.refl _ _).alloc (az _) _).grown d (gU _ _) (λk D=>by cases D;exact az _)⟩
theorem NI(l:List (Int × Page))(a:Option Addr)(c:Nat)(w:World)(z:l.length<=c)(n:a=none->c=0)(s:eB w a (l.flatMap zI))(E:l.length*16<=140737488355328) :
  Calls Tryz.prog 104 #[.slice a l.length c] w λe w' => ∃v,e = .returned v/\Own w' w.heap.size 105 9 v l.length (l.flatMap zI)/\Below w.heap.size w w':=by
 cases a with
 | none=>
  have F:=n rfl;have C:l=[]:=kU (by omega);subst C;subst F;have A:=λW=>ni (P:=Tryz.prog) W 36 _ none 0 0 0 0 underlying36;go_enter func104,ntmps104;go_wp2;go_ret;exact⟨_,rfl,by simpa using Own.nil _ _ _ _,Below.refl _ _⟩
 | some ad=>
  have A:=λW=>ni (P:=Tryz.prog) W 36 _ (some ad) l.length c 0 0 underlying36;go_enter func104,ntmps104
  go_wp2_with (at_builtin;go_must (refine fT rfl _ _ 36 rfl w.heap.size 105 (.agg #[.int .i64 0,.int .u8 0,.int .u8 0,.int .u8 0,.int .u8 0,.int .u8 0,.int .u8 0,.int .u8 0,.int .u8 0]) 9 16 underlying36 put_info rfl (by decide) _ 0 [] rfl ?own (some ad) l.length c (l.flatMap zI) rfl (λh=>(by cases h)) z (TE l) ?rd (FM l) (by unfold maxLen;omega) (by simpa using E) ?bb ?k))
  case own=>exact⟨rfl,.inr ⟨w.heap.size,0,0,#[],rfl,az _,aG.new _ _ _,az _,bq _,by simp,λj u h=>by simp at h⟩⟩
  case rd=>exact s.below ((Below.refl _ _).alloc (az _) _)
  case bb=>exact gU _ _
  intro v G b d;go_wp2;go_ret;exact⟨v,rfl,by simpa using b,((Below.refl _ _).alloc (az _) _).grown d (gU _ _) (λk D=>by cases D;exact az _)⟩
structure QB (w:World) (ab:Option Addr) (cb:Nat) (aq:Option Addr) (cq:Nat) (d:vQ):Prop where
 lb:d.blocks.length<=cb
 lq:d.queue.length<=cq
 mb:cb<=maxLen
 mq:cq<=maxLen
 nb:ab=none->cb=0
 nq:aq=none->cq=0
 rb:eB w ab (d.blocks.flatMap Dy)
 rq:eB w aq (d.queue.flatMap zI)
theorem QB.below(h:QB w ab cb aq cq d)(n:Below w.heap.size w w'):QB w' ab cb aq cq d:=
 { h with rb:=h.rb.below n,rq:=h.rq.below n }
structure nk (w:World) (B:Nat) (vb vq:Value) (d:vQ):Prop where
 b:Own w B 58 8 vb d.blocks.length (d.blocks.flatMap Dy)
 q:Own w B 105 9 vq d.queue.length (d.queue.flatMap zI)
theorem nk.below(h:nk w B vb vq d)(n:Below w.heap.size w w'):nk w' B vb vq d:=⟨h.b.below n,h.q.below n⟩
theorem nk.mono(h:nk w B vb vq d)(n:B'<=B):nk w B' vb vq d:=⟨h.b.mono n,h.q.mono n⟩
theorem nk.rd(h:nk w B vb vq d):∃ab cb aq cq,vb = .slice ab d.blocks.length cb/\vq = .slice aq d.queue.length cq/\QB w ab cb aq cq d:=by
 obtain⟨ab,cb,rfl,z,h2,s,n⟩:=h.b.rd;obtain⟨aq,cq,rfl,E,D,C,A⟩:=h.q.rd;exact⟨ab,cb,aq,cq,rfl,rfl,z,E,h2,D,s,C,n,A⟩
theorem nk.nil(w:World)(B:Nat):nk w B (.slice none 0 0) (.slice none 0 0) ⟨[],[]⟩:=⟨Own.nil _ _ _ _,Own.nil _ _ _ _⟩
theorem Iy{l:List (Int × Page)}(h:eB w a (l.flatMap zI))(k:Nat)(n:k<l.length):∃b off,a=some ⟨b,off,none⟩/\∀j,j<9->w.cell? ⟨b,off+k*9+j,none⟩=(GV l[k])[j]?:=by
 obtain⟨b,off,A,z⟩:=h.elem vP (by decide) k n;refine⟨b,off,A,λj s => ?_⟩;have e:(zI l[k])[j]?=some ((zI l[k])[j]'(by rw[vP];exact s)):=aF _;rw[z j _ e,<-e];simp[zI]
theorem Pb{l:List Page}(h:eB w a (l.flatMap Dy))(k:Nat)(n:k<l.length):∃b off,a=some ⟨b,off,none⟩/\∀j,j<8->w.cell? ⟨b,off+k*8+j,none⟩=(eQ l[k])[j]?:=by
 obtain⟨b,off,A,z⟩:=h.elem nM (by decide) k n;refine⟨b,off,A,λj s => ?_⟩;have e:(Dy l[k])[j]?=some ((Dy l[k])[j]'(by rw[nM];exact s)):=aF _;rw[z j _ e,<-e];simp[Dy]
theorem wQ(d:vQ)(ab:Option Addr)(cb:Nat)(aq:Option Addr)(cq:Nat)(w:World)(h:QB w ab cb aq cq d) :
  Calls Tryz.prog 127 #[.agg #[.slice ab d.blocks.length cb,.slice aq d.queue.length cq]] w λe w'=>e = .returned (.int .i64 (bV d))/\Below w.heap.size w w':=by
 have G:=bi h.lb h.mb;have F:=bi h.lq h.mq;unfold maxLen at G F;have j:=h.rq;unfold bV;obtain⟨B,Q⟩:=d;simp only at *
 go_enter func127,ntmps127;have g:Below w.heap.size w (w.alloc (.cells #[.slice ab B.length cb,.slice aq Q.length cq] 38)):=(Below.refl _ _).alloc (az _) _
 by_cases C:80<B.length\/400<Q.length
 .rw[if_pos C];have l : (80:Int)<(B.length:Int)\/(400:Int)<(Q.length:Int):=by omega
  clear C;rcases l with C|C
  all_goals
   go_wp2
   all_goals
    go_ret;exact⟨rfl,g⟩
 rw[if_neg C];have p:¬(80:Int)<(B.length:Int):=by omega
 have n:¬(400:Int)<(Q.length:Int):=by omega
 clear C;go_wp2
 go_loopw [18] (fun i wr => ∃k:Nat,k<=Q.length/\i = .int .i64 k/\Below w.heap.size w wr/\aG wr w.heap.size #[.slice ab B.length cb,.slice aq Q.length cq] 38/\∀i (h:i<Q.length),i<k->wY B.length Q[i]=false) (fun i _=>Q.length-(intOf i).toNat)
 case atStart=>exact⟨0,bq _,rfl,g,aG.new _ _ _,λi _ h=>absurd h (fq _)⟩
 case round=>
  obtain⟨k,X,rfl,a,c,E⟩:=hrel
  by_cases A:k<Q.length
  .obtain⟨b,off,rfl,z⟩:=Iy (j.below a) k A;have c0:=z 0 (by decide);have S:=z 1 (by decide);have R:=z 2 (by decide);have O:=z 3 (by decide);have N:=z 4 (by decide);have M:=z 5 (by decide);have L:=z 6 (by decide);have K:=z 7 (by decide);have J:=z 8 (by decide);simp only[GV,xU,qV,yz,iP]at c0 S R O N M L K J;clear z;have m:=λo=>(c.alloc o).cell
   by_cases s:Q[k].1<0\/(B.length:Int)<=Q[k].1
   .have f:wY B.length Q[k]=true:=by simpa[wY]using s
    have D:Q.any (wY B.length)=true:=jK.2 ⟨_,eu A,f⟩;rcases s with s|s
    all_goals
     go_wp2
     all_goals
      go_ret;exact⟨by simp[D],a.alloc a.size _⟩
   have W:¬Q[k].1<0:=by omega
   have U:¬(B.length:Int)<=Q[k].1:=by omega
   have f:wY B.length Q[k]=false:=by simp[wY];omega
   clear s;go_wp2;go_roundw
   case rel=>exact⟨k+1,by omega,by go_num,a.alloc a.size _,c.alloc _,mM E A f⟩
   case measure=>simp[intOf];omega
  have D:Q.any (wY B.length)=false:=by rw[uX];intro x H;obtain⟨i,I,rfl⟩:=jM.1 H;simp[E i I (by omega)]
  go_wp2
  all_goals
   go_ret;exact⟨by simp[D],a⟩
theorem xB(d:vQ)(ab:Option Addr)(cb:Nat)(aq:Option Addr)(cq:Nat)(w:World)(h:QB w ab cb aq cq d) :
  Calls Tryz.prog 98 #[.agg #[.slice ab d.blocks.length cb,.slice aq d.queue.length cq]] w λe w'=>e = .returned (.int .i64 (bV d))/\Below w.heap.size w w':=by
 have G:=bi h.lb h.mb;have F:=bi h.lq h.mq;unfold maxLen at G F;have j:=h.rq;unfold bV;obtain⟨B,Q⟩:=d;simp only at *
 go_enter func98,ntmps98;have g:Below w.heap.size w (w.alloc (.cells #[.slice ab B.length cb,.slice aq Q.length cq] 38)):=(Below.refl _ _).alloc (az _) _
 by_cases C:80<B.length\/400<Q.length
 .rw[if_pos C];have l : (80:Int)<(B.length:Int)\/(400:Int)<(Q.length:Int):=by omega
  clear C;rcases l with C|C
  all_goals
   go_wp2
   all_goals
    go_ret;exact⟨rfl,g⟩
 rw[if_neg C];have p:¬(80:Int)<(B.length:Int):=by omega
 have n:¬(400:Int)<(Q.length:Int):=by omega
 clear C;go_wp2
 go_loopw [18] (fun i wr => ∃k:Nat,k<=Q.length/\i = .int .i64 k/\Below w.heap.size w wr/\aG wr w.heap.size #[.slice ab B.length cb,.slice aq Q.length cq] 38/\∀i (h:i<Q.length),i<k->wY B.length Q[i]=false) (fun i _=>Q.length-(intOf i).toNat)
 case atStart=>exact⟨0,bq _,rfl,g,aG.new _ _ _,λi _ h=>absurd h (fq _)⟩
 case round=>
  obtain⟨k,X,rfl,a,c,E⟩:=hrel
  by_cases A:k<Q.length
  .obtain⟨b,off,rfl,z⟩:=Iy (j.below a) k A;have c0:=z 0 (by decide);have S:=z 1 (by decide);have R:=z 2 (by decide);have O:=z 3 (by decide);have N:=z 4 (by decide);have M:=z 5 (by decide);have L:=z 6 (by decide);have K:=z 7 (by decide);have J:=z 8 (by decide);simp only[GV,xU,qV,yz,iP]at c0 S R O N M L K J;clear z;have m:=λo=>(c.alloc o).cell
   by_cases s:Q[k].1<0\/(B.length:Int)<=Q[k].1
   .have f:wY B.length Q[k]=true:=by simpa[wY]using s
    have D:Q.any (wY B.length)=true:=jK.2 ⟨_,eu A,f⟩;rcases s with s|s
    all_goals
     go_wp2
     all_goals
      go_ret;exact⟨by simp[D],a.alloc a.size _⟩
   have W:¬Q[k].1<0:=by omega
   have U:¬(B.length:Int)<=Q[k].1:=by omega
   have f:wY B.length Q[k]=false:=by simp[wY];omega
   clear s;go_wp2;go_roundw
   case rel=>exact⟨k+1,by omega,by go_num,a.alloc a.size _,c.alloc _,mM E A f⟩
   case measure=>simp[intOf];omega
  have D:Q.any (wY B.length)=false:=by rw[uX];intro x H;obtain⟨i,I,rfl⟩:=jM.1 H;simp[E i I (by omega)]
  go_wp2
  all_goals
   go_ret;exact⟨by simp[D],a⟩
theorem nk.keep(h:nk w B vb vq d)(s:aG w g cs T)(z:T≠58)(h2:T≠105)(n:w.grownBy w' (some g)):nk w' B vb vq d:=
 ⟨ax h.b s z n,ax h.q s h2 n⟩
def yY(B:Nat)(d:vQ):mV:=⟨λv w => ∃vb vq,v = .agg #[vb,vq]/\nk w B vb vq d,λ_ _ _ hb ⟨vb,vq,h1,h2⟩=>⟨vb,vq,h1,h2.below hb⟩⟩
theorem psize:(Tryz.prog.info? 58).map (·.size)=some 8:=by kernel_rfl
theorem zz_fit:(#[.int .u8 0,.int .u8 0,.int .u8 0,.int .u8 0,.int .u8 0,.int .u8 0,.int .u8 0,.int .u8 0]:Array Value).size=(#[.int .u8 0,.int .u8 0,.int .u8 0,.int .u8 0,.int .u8 0,.int .u8 0,.int .u8 0,.int .u8 0]:Array Value).size:=rfl
theorem zz_one:(#[.int .u8 0,.int .u8 0,.int .u8 0,.int .u8 0,.int .u8 0,.int .u8 0,.int .u8 0,.int .u8 0]:Array Value).all (·.oneCell')=true:=by simp[Value.oneCell']
theorem zz_info:(Tryz.prog.info? 58).map (·.size)=some (#[.int .u8 0,.int .u8 0,.int .u8 0,.int .u8 0,.int .u8 0,.int .u8 0,.int .u8 0,.int .u8 0]:Array Value).size:=psize
theorem MQ(p:Page):(eQ p).size=(#[.int .u8 0,.int .u8 0,.int .u8 0,.int .u8 0,.int .u8 0,.int .u8 0,.int .u8 0,.int .u8 0]:Array Value).size:=rfl
theorem VC(p q:Page):(eQ p).size=(eQ q).size:=rfl
theorem Bh(p:Page):(Tryz.prog.info? 58).map (·.size)=some (eQ p).size:=psize
theorem disk_size:(Tryz.prog.info? 38).map (·.size)=some 2:=by kernel_rfl
theorem eF0{ρ:Operand->Value}{a0:Act}{p:Operand->Prop}(h:∀x,p x->ρ x=a0.eval x)(q:∀f,p (.func f)):∀f,ρ (.func f) = .func (.func f) #[] #[]:=λf=>h _ (q f)
theorem oG0{B b:Nat}(h:B<=b:=by omega):∀k,some b=some k->B<=k:=λ_ e=>by cases e;exact h
theorem EK(d:vQ)(ab:Option Addr)(cb:Nat)(aq:Option Addr)(cq:Nat)(w:World)(h:QB w ab cb aq cq d)(H:d.blocks.length*8<=140737488355328)(E:d.queue.length*16<=140737488355328) :
  Calls Tryz.prog 59 #[.agg #[.slice ab d.blocks.length cb,.slice aq d.queue.length cq]] w λe w' => ∃vb vq,e = .returned (.agg #[vb,vq])/\nk w' w.heap.size vb vq d/\Below w.heap.size w w':=by
 go_enter func59,ntmps59;go_upto_region 1 with(fail);have a:Below w.heap.size w ((w.alloc (.cells #[.slice ab d.blocks.length cb,.slice aq d.queue.length cq] 38)).alloc (.cells #[.slice none 0 0,.slice none 0 0] 38)):=((Below.refl _ _).alloc (az _) _).alloc (gU _ _) _;have j:aG ((w.alloc (.cells #[.slice ab d.blocks.length cb,.slice aq d.queue.length cq] 38)).alloc (.cells #[.slice none 0 0,.slice none 0 0] 38)) w.heap.size #[.slice ab d.blocks.length cb,.slice aq d.queue.length cq] 38:=(aG.new _ _ _).alloc _;have i:aG ((w.alloc (.cells #[.slice ab d.blocks.length cb,.slice aq d.queue.length cq] 38)).alloc (.cells #[.slice none 0 0,.slice none 0 0] 38)) (w.heap.size+1) #[.slice none 0 0,.slice none 0 0] 38:=by simpa using aG.new (w.alloc (.cells #[.slice ab d.blocks.length cb,.slice aq d.queue.length cq] 38)) _ _
 have D:=h.below a;refine aV 7 [_,_,.r 2 ((nA w.heap.size 58 8 d.blocks.length (d.blocks.flatMap Dy))),_,_,.r 5 ((nA w.heap.size 105 9 d.queue.length (d.queue.flatMap zI))),.r 6 ((yY w.heap.size d))] (Gf w.heap.size 0 rfl rfl (Gl j (V:=.slice ab d.blocks.length cb) (by simp[underlying35]) rfl rfl rfl rfl (ah ?_ (Gf w.heap.size 1 rfl rfl (Gl j (V:=.slice aq d.queue.length cq) (by simp[underlying36]) rfl rfl rfl rfl (ah ?_ (ah ?_ (aI)))))))) (λ_=>rfl) rfl ?_
 .intro ρ y W s G C A;have E4:=s 4 1 rfl;have S:y 1=_:=A 1 rfl;have F:=eF0 G λ_=>trivial;refine aO _ _ (aj rfl) (aS rfl (F _) func103 (by kernel_rfl) (by kernel_rfl) (by simp only[bW,bQ,aZ,E4,S,F];rfl)) ?_;refine(LP d.blocks ab cb W D.lb D.nb (D.below C).rb H).mono ?_;rintro e M ⟨v,rfl,z,m⟩;exact⟨v,rfl,m,z.mono (bi a.size C.size)⟩
 .intro ρ y W s G C A;have E7:=s 7 4 rfl;have R:y 4=_:=A 4 rfl;have F:=eF0 G λ_=>trivial;refine aO _ _ (aj rfl) (aS rfl (F _) func104 (by kernel_rfl) (by kernel_rfl) (by simp only[bW,bQ,aZ,E7,R,F];rfl)) ?_;refine(NI d.queue aq cq W D.lq D.nq (D.below C).rq E).mono ?_;rintro e M ⟨v,rfl,z,m⟩;exact⟨v,rfl,m,z.mono (bi a.size C.size)⟩
 .intro ρ y W s G C A;have E5:=s 5 2 rfl;have h2:=A 2 rfl;have E8:=s 8 5 rfl;have J:=A 5 rfl;obtain⟨x2,c2,X,_⟩:=Own.rd h2;obtain⟨x5,c5,U,_⟩:=Own.rd J;refine ak (.agg #[y 2,y 5]) (aj rfl) (by simp[execOp,go_sem,E5,E8,X,U]) ?_;exact⟨_,_,rfl,h2,J⟩
 intro y I g b;have q:((nA w.heap.size 58 8 d.blocks.length (d.blocks.flatMap Dy))).r (y 2) I:=b 2 (by decide);have p:((nA w.heap.size 105 9 d.queue.length (d.queue.flatMap zI))).r (y 5) I:=b 5 (by decide);have o:((yY w.heap.size d)).r (y 6) I:=b 6 (by decide);clear b;obtain⟨vb,vq,K,z⟩:=o;rw[K];clear q p K;have c:=ag a g;obtain⟨xb,Z,xq,Y,rfl,rfl,_⟩:=z.rd;refine aA rfl _ (.tmp 2) (.tmp 9) rfl (w.heap.size+1) _ rfl rfl _ _ (i.ext g) rfl disk_size (by simp[Value.oneCell']) ?_;intro L N n;have l:Below w.heap.size w L:=c.grown n c.size oG0;have O:=N.cell;go_wp2;simp[bodyPost,results,go_sem,results59,O];exact⟨_,_,⟨rfl,rfl⟩,z.keep (i.ext g) (by decide) (by decide) n,l⟩
theorem zPg_cells:eQ zPg=#[.int .u8 0,.int .u8 0,.int .u8 0,.int .u8 0,.int .u8 0,.int .u8 0,.int .u8 0,.int .u8 0]:=rfl
theorem Il(d:vQ)(k:Int)(ab:Option Addr)(cb:Nat)(aq:Option Addr)(cq:Nat)(w:World)(h:QB w ab cb aq cq d) :
  Calls Tryz.prog 89 #[.agg #[.slice ab d.blocks.length cb,.slice aq d.queue.length cq],.int .i64 k] w λe w'=>e = .returned (.tuple #[.agg (eQ (dA d k)),.int .i64 (aJ d k)])/\Below w.heap.size w w':=by
 go_enter func89,ntmps89
 go_wp2_with fail
 have v:Below w.heap.size w ((w.alloc (.cells #[.slice ab d.blocks.length cb,.slice aq d.queue.length cq] 38)).alloc (.cells #[.int .u8 0,.int .u8 0,.int .u8 0,.int .u8 0,.int .u8 0,.int .u8 0,.int .u8 0,.int .u8 0] 58)):=((Below.refl _ _).alloc (az _) _).alloc (gU _ _) _;have s:aG ((w.alloc (.cells #[.slice ab d.blocks.length cb,.slice aq d.queue.length cq] 38)).alloc (.cells #[.int .u8 0,.int .u8 0,.int .u8 0,.int .u8 0,.int .u8 0,.int .u8 0,.int .u8 0,.int .u8 0] 58)) w.heap.size #[.slice ab d.blocks.length cb,.slice aq d.queue.length cq] 38:=(aG.new _ _ _).alloc _;have r:aG ((w.alloc (.cells #[.slice ab d.blocks.length cb,.slice aq d.queue.length cq] 38)).alloc (.cells #[.int .u8 0,.int .u8 0,.int .u8 0,.int .u8 0,.int .u8 0,.int .u8 0,.int .u8 0,.int .u8 0] 58)) (w.heap.size+1) #[.int .u8 0,.int .u8 0,.int .u8 0,.int .u8 0,.int .u8 0,.int .u8 0,.int .u8 0,.int .u8 0] 58:=by simpa using aG.new (w.alloc (.cells #[.slice ab d.blocks.length cb,.slice aq d.queue.length cq] 38)) _ _
 refine(wQ d ab cb aq cq _ (h.below v)).mono ?_;rintro e w1 ⟨rfl,t⟩;have a:=ag v t;have u:=s.ext t;have f:=r.ext t;have H:=h.below a;clear s r t v h;have ha:=H.rq;have z:=H.rb;have lq:=bi H.lq H.mq;unfold maxLen at lq;have hl:=u.cell
 by_cases F:bV d=0
 .rw[F]
  by_cases E:k<0\/(d.blocks.length:Int)<=k
  .have C:aJ d k=3:=by unfold aJ;rw[if_neg (by omega),if_pos E]
   have D:eQ (dA d k)=#[.int .u8 0,.int .u8 0,.int .u8 0,.int .u8 0,.int .u8 0,.int .u8 0,.int .u8 0,.int .u8 0]:=by unfold dA;rw[C];rfl
   rcases E with E|E
   all_goals
    go_wp2_with (refine aA rfl _ (.tmp 4) (.tmp 23) rfl (w.heap.size+1) #[.int .u8 0,.int .u8 0,.int .u8 0,.int .u8 0,.int .u8 0,.int .u8 0,.int .u8 0,.int .u8 0] rfl rfl _ _ f zz_fit zz_info zz_one ?_)
    all_goals
     intro J j o;have c:=a.grown o a.size oG0;have p:=j.cell;go_wp2;simp[bodyPost,results,go_sem,results89,p,C,D];exact c
  obtain⟨k,rfl⟩:=iL (show 0<=k by omega);have y:k<d.blocks.length:=by omega
  have k1:¬(d.blocks.length:Int)<=(k:Int):=by omega
  have C:aJ d k=0:=by unfold aJ;rw[if_neg (by omega),if_neg E]
  have D:dA d k=over k d.blocks[k] d.queue:=by unfold dA;rw[C,if_pos rfl];simp[y]
  clear E;have I:=ae D;clear D;have hd:decide (d.blocks.length<=k)=false:=by simp;omega
  go_wp2
  go_loopw [7] (fun i wr => ∃n:Int,-1<=n/\n<d.queue.length/\i = .int .i64 n/\wr=w1/\Hid (over k d.blocks[k] (d.queue.take (n+1).toNat)=over k d.blocks[k] d.queue)) (fun i _=>(intOf i+1).toNat)
  case atStart=>exact⟨(d.queue.length:Int)-1,by omega,by omega,rfl,rfl,ae (by rw[show((d.queue.length:Int)-1+1).toNat=d.queue.length from by omega,yB])⟩
  case round=>
   obtain⟨n,hj,hi,rfl,rfl,l⟩:=hrel
   by_cases hneg:n<0
   .have:n = -1:=by omega
    subst this;obtain⟨b,off,rfl,A⟩:=Pb z k y;have c0:=A 0 (by decide);have c1:=A 1 (by decide);have c2:=A 2 (by decide);have c3:=A 3 (by decide);have Z:=A 4 (by decide);have Y:=A 5 (by decide);have X:=A 6 (by decide);have W:=A 7 (by decide);simp only[eQ,xU,qV,yz,iP]at c0 c1 c2 c3 Z Y X W;clear A;have g:dA d k=d.blocks[k]:=by rw[I.out,<-l.out];rfl
    clear I l
    go_wp2_with (refine aA rfl _ (.tmp 4) (.tmp 50) rfl (w.heap.size+1) (eQ d.blocks[k]) rfl rfl _ _ f (MQ _) (Bh _) (fM _) ?_)
    intro J j o;have c:=a.grown o a.size oG0;have p:=j.cell;obtain⟨U,S,R,O,N,M,L,K⟩:=yD d.blocks[k];go_wp2;simp[bodyPost,results,go_sem,results89,p,U,S,R,O,N,M,L,K,C,g];exact⟨rfl,c⟩
   obtain⟨m,rfl⟩:=iL (show 0<=n by omega);have hm:m<d.queue.length:=by omega
   obtain⟨b,off,rfl,A⟩:=Iy ha m hm;have c0:=A 0 (by decide);have c1:=A 1 (by decide);have c2:=A 2 (by decide);have c3:=A 3 (by decide);have Z:=A 4 (by decide);have Y:=A 5 (by decide);have X:=A 6 (by decide);have W:=A 7 (by decide);have c8:=A 8 (by decide);simp only[GV,xU,qV,yz,iP]at c0 c1 c2 c3 Z Y X W c8;clear A;have x:=GR (k:Int) d.blocks[k] d.queue m hm;rw[show((m:Int)+1).toNat=m+1 from by omega]at l;have q:=ae (x.symm.trans l.out);clear l x;have hb : ¬((m:Int)<0):=by omega
   by_cases G:d.queue[m].1=(k:Int)
   .have g:dA d k=d.queue[m].2:=by rw[I.out,<-q.out,if_pos G]
    rw[G]at c0;clear I q;have hf:eQ d.queue[m].2=#[.int .u8 d.queue[m].2[0].toNat,.int .u8 d.queue[m].2[1].toNat,.int .u8 d.queue[m].2[2].toNat,.int .u8 d.queue[m].2[3].toNat,.int .u8 d.queue[m].2[4].toNat,.int .u8 d.queue[m].2[5].toNat,.int .u8 d.queue[m].2[6].toNat,.int .u8 d.queue[m].2[7].toNat]:=rfl
    go_wp2_with (refine aA rfl _ (.tmp 4) (.tmp 45) rfl (w.heap.size+1) (eQ d.queue[m].2) rfl rfl _ _ f (MQ _) (Bh _) (fM _) ?_)
    intro J j o;have c:=a.grown o a.size oG0;have p:=j.cell;obtain⟨U,S,R,O,N,M,L,K⟩:=yD d.queue[m].2;go_wp2;simp[bodyPost,results,go_sem,results89,p,U,S,R,O,N,M,L,K,C,g];exact⟨rfl,c⟩
   have hh:(d.queue[m].1==(k:Int))=false:=by simpa using G
   have l:Hid (over k d.blocks[k] (d.queue.take m)=over k d.blocks[k] d.queue):=by have:=q.out;rw[if_neg G]at this;exact this
   clear q;go_wp2;go_roundw
   case rel=>exact⟨(m:Int)-1,by omega,by omega,by go_num,trivial,by rw[show((m:Int)-1+1).toNat=m from by omega];exact l⟩
   case measure=>simp[intOf]
 have C:aJ d k=bV d:=by unfold aJ;rw[if_pos F]
 have D:eQ (dA d k)=#[.int .u8 0,.int .u8 0,.int .u8 0,.int .u8 0,.int .u8 0,.int .u8 0,.int .u8 0,.int .u8 0]:=by unfold dA;rw[C,if_neg F];rfl
 have hg : (bV d != 0)=true:=by simpa using F
 go_wp2_with (refine aA rfl _ (.tmp 4) (.tmp 12) rfl (w.heap.size+1) #[.int .u8 0,.int .u8 0,.int .u8 0,.int .u8 0,.int .u8 0,.int .u8 0,.int .u8 0,.int .u8 0] rfl rfl _ _ f zz_fit zz_info zz_one ?_)
 intro J j o;have c:=a.grown o a.size oG0;have p:=j.cell;go_wp2;simp[bodyPost,results,go_sem,results89,p,C,D];exact c
theorem Lp(a b c d:Value):(#[a,b]:Array Value).size=(#[c,d]:Array Value).size:=rfl
theorem GZ(a b:Value):(Tryz.prog.info? 38).map (·.size)=some (#[a,b]:Array Value).size:=disk_size
theorem FL(d:vQ)(k:Int)(p:Page)(ab:Option Addr)(cb:Nat)(aq:Option Addr)(cq:Nat)(w:World)(h:QB w ab cb aq cq d) :
  Calls Tryz.prog 193 #[.agg #[.slice ab d.blocks.length cb,.slice aq d.queue.length cq],.int .i64 k,.agg (eQ p)] w λe w' => ∃vb vq,e = .returned (.tuple #[.agg #[vb,vq],.int .i64 (aJ d k)])/\nk w' w.heap.size vb vq (dP d k p)/\Below w.heap.size w w':=by
 go_enter func193,ntmps193
 go_wp2_with fail
 refine Nb (λW=>Calls _ _ _ W _) λW0 hT hy hJ hs h7 => ?_;refine(wQ d ab cb aq cq _ (h.below hT)).mono ?_;rintro e w1 ⟨rfl,Z⟩;have f:=ag hT Z;have hx:=hy.ext Z;have hI:=hJ.ext Z;have m:=hs.ext Z;have h1:=h.below f;clear hy hJ hs Z hT h h7;have kb:=hx.cell
 by_cases U:bV d=0
 .rw[U];obtain⟨l80,l400⟩:=Ia U
  by_cases R:k<0\/(d.blocks.length:Int)<=k
  .have K:aJ d k=3:=by unfold aJ;rw[if_neg (by omega),if_pos R]
   have N:dP d k p=⟨[],[]⟩:=by unfold dP;rw[if_neg (by omega)]
   rcases R with R|R
   all_goals
    go_wp2_with (refine aA rfl _ (.tmp 6) (.tmp 26) rfl (w.heap.size+2) #[.slice none 0 0,.slice none 0 0] rfl rfl _ _ m rfl disk_size (xG _ _ _ _ _ _) ?_)
    all_goals
     intro D hN l;have z:=f.grown l f.size oG0;have M:=hN.cell;go_wp2;simp[bodyPost,results,go_sem,results193,M,K];exact⟨_,_,⟨rfl,rfl⟩,by rw[N];exact nk.nil _ _,z⟩
  obtain⟨k,rfl⟩:=iL (show 0<=k by omega);have kk:k<d.blocks.length:=by omega
  have k1:¬(d.blocks.length:Int)<=(k:Int):=by omega
  have K:aJ d k=0:=by unfold aJ;rw[if_neg (by omega),if_neg R]
  have N:dP d k p=jO d (k,p):=by unfold dP;rw[if_pos K]
  have Q2:=ae N;clear R N
  go_wp2_with fail
  refine(EK d ab cb aq cq _ h1 (by omega) (by omega)).mono ?_;rintro e D ⟨vb,vq,rfl,ho,hB⟩;have z:=ag f hB;have hH:=hI.ext hB;have hr:=m.ext hB;have kg:w.heap.size+3<=w1.heap.size:=by have:=m.lt;omega
  have hY:w.heap.size+3<=D.heap.size:=bi (show w.heap.size+3<=w1.heap.size by have:=m.lt;omega) hB.size;clear hx hI m hB h1 kb;obtain⟨xb,cb',xq,C,rfl,rfl,hE⟩:=ho.rd;have kj:=hE.lq;go_upto_region 7 with(fail);refine iG (λW=>Code.wp _ _ _ _ W) λw3 hA r h6 => ?_;have I:=ho.below hA;have i:=ag z hA;have hj:=hH.ext hA;have hb:=hr.ext hA;have kf:w.heap.size+3<=D.heap.size:=hY;clear ho hE hH hr hA;have ke:D.heap.size<w3.heap.size:=by omega
  clear h6;have G:=r.cell
  by_cases h4:d.queue.length=400
  .have Q3:=ae (QM d ((k:Int),p) h4);have kc : ((d.queue.length:Int)==400)=true:=by rw[h4];rfl
   have hO:0<d.queue.length:=by omega
   obtain⟨hK,hV⟩:=GQ U 0 hO;generalize hq0:d.queue[0]=q0 at *
   obtain⟨i0,hX⟩:=iL hK;have hW : i0<d.blocks.length:=by omega
   obtain⟨J,A,capq,curq,h3,kn,h8,kl,x,hL⟩:=I.q.put vP (by decide) 0 hO;obtain⟨gb,H,capb,curb,h5,ko,Y,km,ka,hn⟩:=I.b.put nM (by decide) i0 hW;cases h3;cases h5;rw[hq0]at x;have c0:=x 0 _ rfl;have c1:=x 1 _ rfl;have c2:=x 2 _ rfl;have c3:=x 3 _ rfl;have E:=x 4 _ rfl;have c5:=x 5 _ rfl;have c6:=x 6 _ rfl;have c7:=x 7 _ rfl;have c8:=x 8 _ rfl;simp only[vS,iP,hX]at c0 c1 c2 c3 E c5 c6 c7 c8;have n1:(0:Int)<(d.queue.length:Int):=by omega
   have n2:(i0:Int)<(d.blocks.length:Int):=by omega
   have h9:=λo=>(r.alloc o).cell;clear x ka hL hK hV
   go_wp2_with (refine gN rfl _ (.tmp 43) (.tmp 42) rfl gb (H+i0*8) (eQ q0.2) rfl rfl curb 58 (Y.alloc _) (by rw[TV];omega) (Bh _) (fM _) ?_)
   intro w5 O a;have h2:=hn w5 q0.2 O;have hZ:=ax (I.q.alloc _) (Y.alloc _) (by decide) a;have n:=bY (r.alloc _) (Y.alloc _) (by decide) a;have hq:=bY (hb.alloc _) (Y.alloc _) (by decide) a;have hG:=(hj.alloc _).grown a (by intro he;cases he;omega);have hf:Below w.heap.size w w5:=(i.alloc i.size _).grown a (dI i.size _) oG0;clear O a hn Y h9 r hb hj I c0 c1 c2 c3 E c5 c6 c7 c8 i G h8;have G:=n.cell;have X:=n.free;have kh:¬C = 1:=by omega
   go_upto_region 11 with(fail);have hl:(d.queue.drop 1).length=399:=by simp;omega
   have hD:=(hZ.drop vP 1 hO).mono f.size;rw[hl,Br]at hD;have hU:=wO hD n (by decide) 1 (.slice (some ⟨J,A+9,none⟩) 399 (C - 1));have h0:=wO (h2.mono f.size) n (by decide) 1 (.slice (some ⟨J,A+9,none⟩) 399 (C - 1));have hc:=n.setCell 1 (.slice (some ⟨J,A+9,none⟩) 399 (C - 1));have hp:=hq.setCell_other ⟨D.heap.size,1,none⟩ (.slice (some ⟨J,A+9,none⟩) 399 (C - 1)) (by simp;omega);have hF:=hG.setCell_other ⟨D.heap.size,1,none⟩ (.slice (some ⟨J,A+9,none⟩) 399 (C - 1)) (by simp;omega);have hd:Below w.heap.size w (w5.setCell ⟨D.heap.size,1,none⟩ (.slice (some ⟨J,A+9,none⟩) 399 (C - 1))):=hf.setCell (by simp;omega) _;have kd:D.heap.size<(w5.setCell ⟨D.heap.size,1,none⟩ (.slice (some ⟨J,A+9,none⟩) 399 (C - 1))).heap.size:=hc.lt;clear hZ hD h2 n hq hG hf X G;generalize w5.setCell ⟨D.heap.size,1,none⟩ (.slice (some ⟨J,A+9,none⟩) 399 (C - 1))=w6 at *
   have G:=hc.cell;have hQ:=hF.cell;obtain⟨e0,e1,e2,e3,e4,e5,e6,e7⟩:=yD p;have hP : #[Value.int .u8 p[0].toNat,Value.int .u8 p[1].toNat,Value.int .u8 p[2].toNat,Value.int .u8 p[3].toNat,Value.int .u8 p[4].toNat,Value.int .u8 p[5].toNat,Value.int .u8 p[6].toNat,Value.int .u8 p[7].toNat]=eQ p:=rfl;clear hP
   go_wp2_with (at_builtin;(refine fT rfl _ _ 36 rfl w.heap.size 105 _ 9 16 underlying36 put_info rfl (by decide) _ 399 ((d.queue.drop 1).flatMap zI) rfl ?own (some ⟨w6.heap.size,0,none⟩) 1 1 (zI ((k:Int),p)) rfl (λh=>(by cases h)) (az _) rfl ?rd (λu hu=>FM [((k:Int),p)] u (by simpa using hu)) (by unfold maxLen;omega) (by omega) ?bb ?app))
   case own=>exact hU.alloc _
   case rd=>exact eB.new _ (GV ((k:Int),p)) _
   case bb=>exact dI hd.size _
   intro v w4 t l;have s:=hU.alloc (.cells #[.int .i64 k,.int .u8 p[0].toNat,.int .u8 p[1].toNat,.int .u8 p[2].toNat,.int .u8 p[3].toNat,.int .u8 p[4].toNat,.int .u8 p[5].toNat,.int .u8 p[6].toNat,.int .u8 p[7].toNat] 105);have S:=zQ (h0.alloc _) s (by decide) l;have c:=lw (hc.alloc _) s (by decide) l;have j:=lw (hp.alloc _) s (by decide) l;have y:Below w.heap.size w w4:=(hd.alloc hd.size _).grown l (dI hd.size _) s.ge;obtain⟨F,E,rfl,_⟩:=t.rd;clear e0 e1 e2 e3 e4 e5 e6 e7 hQ l s h0 hU hc hp hF G;have G:=c.cell;have X:=c.free
   go_wp2_with (refine aA rfl _ (.tmp 6) (.tmp 56) rfl (w.heap.size+2) #[.slice (some ⟨gb,H,none⟩) d.blocks.length cb',.slice F (399+1) E] rfl rfl _ _ (j.setCell_other _ _ (by simp;omega)) (Lp _ _ _ _) (GZ _ _) (xG _ _ _ _ _ _) ?_)
   intro w7 hM a;have g:=j.setCell_other ⟨D.heap.size,1,none⟩ (.slice F (399+1) E) (by simp;omega);have hS:=ax (wO S c (by decide) 1 (.slice F (399+1) E)) g (by decide) a;have O:=ax (wO t c (by decide) 1 (.slice F (399+1) E)) g (by decide) a;have L:Below w.heap.size w (w4.setCell ⟨D.heap.size,1,none⟩ (.slice F (399+1) E)):=y.setCell (by simp;omega) _;have hR:Below w.heap.size w w7:=L.grown a L.size oG0;have M:=hM.cell;clear S t c j g a y L G X;go_wp2;simp[bodyPost,results,go_sem,results193,M,K];refine⟨_,_,⟨rfl,rfl⟩,?_,hR⟩;rw[Q2.out,Q3.out];rw[hX,bu];have e9:(d.queue.drop 1++[((k:Int),p)]).length=399+1:=by simp;omega
   exact⟨by rw[bL];exact hS,by rw[e9,fI];simpa using O⟩
  have Q3:=ae (PQ d ((k:Int),p) h4);have kc : ((d.queue.length:Int)==400)=false:=by simp;omega
  have hQ:=hj.cell;obtain⟨e0,e1,e2,e3,e4,e5,e6,e7⟩:=yD p;have hP : #[Value.int .u8 p[0].toNat,Value.int .u8 p[1].toNat,Value.int .u8 p[2].toNat,Value.int .u8 p[3].toNat,Value.int .u8 p[4].toNat,Value.int .u8 p[5].toNat,Value.int .u8 p[6].toNat,Value.int .u8 p[7].toNat]=eQ p:=rfl;clear hP
  go_wp2_with (at_builtin;(refine fT rfl _ _ 36 rfl w.heap.size 105 _ 9 16 underlying36 put_info rfl (by decide) _ d.queue.length (d.queue.flatMap zI) rfl ?own2 (some ⟨w3.heap.size,0,none⟩) 1 1 (zI ((k:Int),p)) rfl (λh=>(by cases h)) (az _) rfl ?rd2 (λu hu=>FM [((k:Int),p)] u (by simpa using hu)) (by unfold maxLen;omega) (by omega) ?bb2 ?app2))
  case own2=>exact(I.q.mono f.size).alloc _
  case rd2=>exact eB.new _ (GV ((k:Int),p)) _
  case bb2=>exact dI i.size _
  intro v w4 t l;have s:=(I.q.mono f.size).alloc (.cells #[.int .i64 k,.int .u8 p[0].toNat,.int .u8 p[1].toNat,.int .u8 p[2].toNat,.int .u8 p[3].toNat,.int .u8 p[4].toNat,.int .u8 p[5].toNat,.int .u8 p[6].toNat,.int .u8 p[7].toNat] 105);have S:=zQ ((I.b.mono f.size).alloc _) s (by decide) l;have c:=lw (r.alloc _) s (by decide) l;have j:=lw (hb.alloc _) s (by decide) l;have y:Below w.heap.size w w4:=(i.alloc i.size _).grown l (dI i.size _) s.ge;obtain⟨F,E,rfl,_⟩:=t.rd;clear e0 e1 e2 e3 e4 e5 e6 e7 hQ l s I r hb hj G;have G:=c.cell;have X:=c.free
  go_wp2_with (refine aA rfl _ (.tmp 6) (.tmp 56) rfl (w.heap.size+2) #[.slice xb d.blocks.length cb',.slice F (d.queue.length+1) E] rfl rfl _ _ (j.setCell_other _ _ (by simp;omega)) (Lp _ _ _ _) (GZ _ _) (xG _ _ _ _ _ _) ?_)
  intro w5 hM a;have g:=j.setCell_other ⟨D.heap.size,1,none⟩ (.slice F (d.queue.length+1) E) (by simp;omega);have hS:=ax (wO S c (by decide) 1 (.slice F (d.queue.length+1) E)) g (by decide) a;have O:=ax (wO t c (by decide) 1 (.slice F (d.queue.length+1) E)) g (by decide) a;have L:Below w.heap.size w (w4.setCell ⟨D.heap.size,1,none⟩ (.slice F (d.queue.length+1) E)):=y.setCell (by simp;omega) _;have hf:Below w.heap.size w w5:=L.grown a L.size oG0;have M:=hM.cell;clear S t c j g a y L G X;go_wp2;simp[bodyPost,results,go_sem,results193,M,K];refine⟨_,_,⟨rfl,rfl⟩,?_,hf⟩;rw[Q2.out,Q3.out];exact⟨hS,by simpa[fI]using O⟩
 have K:aJ d k=bV d:=by unfold aJ;rw[if_pos U]
 have N:dP d k p=⟨[],[]⟩:=by unfold dP;rw[if_neg (by omega)]
 have ki : (bV d != 0)=true:=by simpa using U
 go_wp2_with (refine aA rfl _ (.tmp 6) (.tmp 15) rfl (w.heap.size+2) #[.slice none 0 0,.slice none 0 0] rfl rfl _ _ m rfl disk_size (xG _ _ _ _ _ _) ?_)
 intro D hN l;have z:=f.grown l f.size oG0;have M:=hN.cell;go_wp2;simp[bodyPost,results,go_sem,results193,M,K];exact⟨_,_,⟨rfl,rfl⟩,by rw[N];exact nk.nil _ _,z⟩
theorem Yg(p q:Page)(W:World):(Op.equalIn 10000 58 (.agg #[.int .u8 p[0].toNat,.int .u8 p[1].toNat,.int .u8 p[2].toNat,.int .u8 p[3].toNat,.int .u8 p[4].toNat,.int .u8 p[5].toNat,.int .u8 p[6].toNat,.int .u8 p[7].toNat]) (.agg #[.int .u8 q[0].toNat,.int .u8 q[1].toNat,.int .u8 q[2].toNat,.int .u8 q[3].toNat,.int .u8 q[4].toNat,.int .u8 q[5].toNat,.int .u8 q[6].toNat,.int .u8 q[7].toNat])).run Tryz.prog W = .ok (p==q) W:=
 CJ W 9998 _ _ underlying58 underlying5 byte_size p q
theorem Du(p:Page):eQ p=#[.int .u8 p[0].toNat,.int .u8 p[1].toNat,.int .u8 p[2].toNat,.int .u8 p[3].toNat,.int .u8 p[4].toNat,.int .u8 p[5].toNat,.int .u8 p[6].toNat,.int .u8 p[7].toNat]:=rfl
theorem lit0:eQ zPg=#[.int .u8 0,.int .u8 0,.int .u8 0,.int .u8 0,.int .u8 0,.int .u8 0,.int .u8 0,.int .u8 0]:=rfl
theorem YB(p q:Page)(W:World):(Op.equalIn 9999 58 (.agg #[.int .u8 p[0].toNat,.int .u8 p[1].toNat,.int .u8 p[2].toNat,.int .u8 p[3].toNat,.int .u8 p[4].toNat,.int .u8 p[5].toNat,.int .u8 p[6].toNat,.int .u8 p[7].toNat]) (.agg #[.int .u8 q[0].toNat,.int .u8 q[1].toNat,.int .u8 q[2].toNat,.int .u8 q[3].toNat,.int .u8 q[4].toNat,.int .u8 q[5].toNat,.int .u8 q[6].toNat,.int .u8 q[7].toNat])).run Tryz.prog W = .ok (p==q) W:=
 CJ W 9997 _ _ underlying58 underlying5 byte_size p q
theorem put_size:(Tryz.prog.info? 105).map (·.size)=some 9:=by kernel_rfl
theorem Ou(q:Int × Page):(GV q).all (·.oneCell')=true:=by simp[GV,Value.oneCell']
def tX(f:Fr):Array Value:=#[.int .u8 f.p[0].toNat,.int .u8 f.p[1].toNat,.int .u8 f.p[2].toNat,.int .u8 f.p[3].toNat,.int .u8 f.p[4].toNat,.int .u8 f.p[5].toNat,.int .u8 f.p[6].toNat,.int .u8 f.p[7].toNat,.int .i64 f.r,.bool f.u,.bool f.d,.int .i64 f.f,.int .i64 f.i]
def pR(f:Fr):List Value:=(tX f).toList
theorem fQ(f:Fr):(pR f).length=13:=rfl
structure Xy (w:World) (b off:Nat) (f:Fr):Prop where
 c0:w.cell? ⟨b,off,none⟩=some (.int .u8 f.p[0].toNat)
 c1:w.cell? ⟨b,off+1,none⟩=some (.int .u8 f.p[1].toNat)
 c2:w.cell? ⟨b,off+2,none⟩=some (.int .u8 f.p[2].toNat)
 c3:w.cell? ⟨b,off+3,none⟩=some (.int .u8 f.p[3].toNat)
 c4:w.cell? ⟨b,off+4,none⟩=some (.int .u8 f.p[4].toNat)
 c5:w.cell? ⟨b,off+5,none⟩=some (.int .u8 f.p[5].toNat)
 c6:w.cell? ⟨b,off+6,none⟩=some (.int .u8 f.p[6].toNat)
 c7:w.cell? ⟨b,off+7,none⟩=some (.int .u8 f.p[7].toNat)
 c8:w.cell? ⟨b,off+8,none⟩=some (.int .i64 f.r)
 c9:w.cell? ⟨b,off+9,none⟩=some (.bool f.u)
 ca:w.cell? ⟨b,off+10,none⟩=some (.bool f.d)
 cb:w.cell? ⟨b,off+11,none⟩=some (.int .i64 f.f)
 cc:w.cell? ⟨b,off+12,none⟩=some (.int .i64 f.i)
theorem HY{l:List Fr}(h:eB w a (l.flatMap pR))(k:Nat)(s:k<l.length):∃b off,a=some ⟨b,off,none⟩/\Xy w b (off+k*13) l[k]:=by
 obtain⟨b,off,z,n⟩:=h.elem fQ (by decide) k s;exact⟨b,off,z,n 0 _ rfl,n 1 _ rfl,n 2 _ rfl,n 3 _ rfl,n 4 _ rfl,n 5 _ rfl,n 6 _ rfl,n 7 _ rfl,n 8 _ rfl,n 9 _ rfl,n 10 _ rfl,n 11 _ rfl,n 12 _ rfl⟩
theorem Xe{f:Fr}(h:aG w b (tX f) T):Xy w b 0 f:=
 ⟨h.cell 0,h.cell 1,h.cell 2,h.cell 3,h.cell 4,h.cell 5,h.cell 6,h.cell 7,h.cell 8,h.cell 9,h.cell 10,h.cell 11,h.cell 12⟩
theorem Bu(f:Fr)(b off:Nat)(w:World)(h:Xy w b off f):Calls Tryz.prog 164 #[.pointer (some ⟨b,off,none⟩)] w λe w'=>e = .returned (.int .i64 (bR f))/\w' = w:=by
 obtain⟨c0,I,H,G,F,E,D,C,A,s,ca,cb,cc⟩:=h;have n:∀W,(Op.equalIn 10000 58 (.agg #[.int .u8 f.p[0].toNat,.int .u8 f.p[1].toNat,.int .u8 f.p[2].toNat,.int .u8 f.p[3].toNat,.int .u8 f.p[4].toNat,.int .u8 f.p[5].toNat,.int .u8 f.p[6].toNat,.int .u8 f.p[7].toNat]) (.agg #[.int .u8 0,.int .u8 0,.int .u8 0,.int .u8 0,.int .u8 0,.int .u8 0,.int .u8 0,.int .u8 0])).run Tryz.prog W = .ok (f.p==zPg) W:=Yg f.p zPg;go_enter func164,ntmps164;go_wp2
 all_goals go_ret
 all_goals refine⟨?_,rfl⟩
 all_goals clear c0 I H G F E D C A s ca cb cc n
 all_goals go_light
 all_goals refine congrArg (λz=>Ending.returned (.int .i64 z)) ?_
 all_goals simp only[bR,Fj,Hr,BG,qy,dW,decide_eq_true_eq,ne_eq,bne_iff_ne]
 all_goals simp_all
 all_goals omega
theorem frame_info:(Tryz.prog.info? 66).map (λi=>(i.zero,i.size,i.bytes))=some (some (.agg #[.int .u8 0,.int .u8 0,.int .u8 0,.int .u8 0,.int .u8 0,.int .u8 0,.int .u8 0,.int .u8 0,.int .i64 0,.bool false,.bool false,.int .i64 0,.int .i64 0]),13,40):=by kernel_rfl
theorem frame_size:(Tryz.prog.info? 66).map (·.size)=some 13:=by kernel_rfl
theorem MP(l:List Fr):(l.flatMap pR).length=l.length*13:=Pw.flat_len pR 13 fQ l
theorem oG(f:Fr):(tX f).all (·.oneCell')=true:=by simp[tX,Value.oneCell']
theorem Nf(l:List Fr):∀u∈l.flatMap pR,u.oneCell' = true:=by
 intro u n;obtain⟨p,_,h⟩:=jV.1 n;simp only[pR,tX,dx,gW,or_false]at h;rcases h with rfl|rfl|rfl|rfl|rfl|rfl|rfl|rfl|rfl|rfl|rfl|rfl|rfl<;>rfl
theorem JU(l:List Fr)(a:Option Addr)(c:Nat)(w:World)(z:l.length<=c)(n:a=none->c=0)(s:eB w a (l.flatMap pR))(E:l.length*40<=140737488355328) :
  Calls Tryz.prog 102 #[.slice a l.length c] w λe w' => ∃v,e = .returned v/\Own w' w.heap.size 66 13 v l.length (l.flatMap pR)/\Below w.heap.size w w':=by
 cases a with
 | none=>
  have F:=n rfl;have C:l=[]:=kU (by omega);subst C;subst F;have A:=λW=>ni (P:=Tryz.prog) W 30 _ none 0 0 0 0 underlying30;go_enter func102,ntmps102;go_wp2;go_ret;exact⟨_,rfl,by simpa using Own.nil _ _ _ _,Below.refl _ _⟩
 | some ad=>
  have A:=λW=>ni (P:=Tryz.prog) W 30 _ (some ad) l.length c 0 0 underlying30;go_enter func102,ntmps102
  go_wp2_with (at_builtin;go_must (refine fT rfl _ _ 30 rfl w.heap.size 66 (.agg #[.int .u8 0,.int .u8 0,.int .u8 0,.int .u8 0,.int .u8 0,.int .u8 0,.int .u8 0,.int .u8 0,.int .i64 0,.bool false,.bool false,.int .i64 0,.int .i64 0]) 13 40 underlying30 frame_info rfl (by decide) _ 0 [] rfl ?own (some ad) l.length c (l.flatMap pR) rfl (λh=>(by cases h)) z (MP l) ?rd (Nf l) (by unfold maxLen;omega) (by simpa using E) ?bb ?k))
  case own=>exact⟨rfl,.inr ⟨w.heap.size,0,0,#[],rfl,az _,aG.new _ _ _,az _,bq _,by simp,λj u h=>by simp at h⟩⟩
  case rd=>exact s.below ((Below.refl _ _).alloc (az _) _)
  case bb=>exact gU _ _
  intro v G b d;go_wp2;go_ret;exact⟨v,rfl,by simpa using b,((Below.refl _ _).alloc (az _) _).grown d (gU _ _) (λk D=>by cases D;exact az _)⟩
structure Ru (w:World) (a:Option Addr) (c:Nat) (m:Mem):Prop where
 le:m.fs.length<=c
 mx:c<=maxLen
 nil:a=none->c=0
 rd:eB w a (m.fs.flatMap pR)
theorem Ru.below{m:Mem}(h:Ru w a c m)(n:Below w.heap.size w w'):Ru w' a c m:={ h with rd:=h.rd.below n }
theorem Bl{m:Mem}(h:Own w B 66 13 v m.fs.length (m.fs.flatMap pR)):∃a c,v = .slice a m.fs.length c/\Ru w a c m:=by
 obtain⟨a,c,rfl,z,h2,s,n⟩:=h.rd;exact⟨a,c,rfl,z,h2,s,n⟩
theorem vV(m:Mem)(a:Option Addr)(c:Nat)(w:World)(h:Ru w a c m) :
  Calls Tryz.prog 125 #[.agg #[.slice a m.fs.length c,.int .i64 m.hand]] w λe w'=>e = .returned (.int .i64 (bv m))/\Below w.heap.size w w':=by
 have K:=bi h.le h.mx;unfold maxLen at K;go_enter func125,ntmps125;go_upto_region 1 with(fail);refine iG (λW=>Code.wp _ _ _ _ W) λW0 d l n => ?_;clear n;have r:=l.cell;have E:=h.below d
 by_cases F:40<m.fs.length
 .have z:bv m=4:=by unfold bv;rw[if_pos F]
  have p : (40:Int)<(m.fs.length:Int):=by omega
  go_wp2;go_ret;rw[z];exact⟨rfl,d⟩
 have p : ¬(40:Int)<(m.fs.length:Int):=by omega
 go_wp2
 go_loopw [12] (fun i wr => ∃k:Nat,k<=m.fs.length/\i = .int .i64 k/\W0=wr/\∀i (h:i<m.fs.length),i<k->bR m.fs[i]=0) (fun i _=>m.fs.length-(intOf i).toNat)
 case atStart=>exact⟨0,bq _,rfl,rfl,λi _ h=>absurd h (fq _)⟩
 case round=>
  obtain⟨k,N,rfl,rfl,j⟩:=hrel;have g:=ae j;clear j
  by_cases s:k<m.fs.length
  .obtain⟨b,off,rfl,D⟩:=HY E.rd k s;have q:(k:Int)<(m.fs.length:Int):=by omega
   by_cases A:bR m.fs[k]=0
   .have o:=ae A;have C:=Bu m.fs[k] b _ _ D;rw[A]at C;clear A D
    go_wp2_with fail
    refine C.mono ?_;rintro e G ⟨rfl,rfl⟩;go_wp2;go_roundw
    case rel=>exact⟨k+1,by omega,by go_num,trivial,mM g.out s o.out⟩
    case measure=>simp[intOf];omega
   have C:=Bu m.fs[k] b _ _ D;have z:bv m=bR m.fs[k]:=by have:=firstEf_at _ k s g.out A;unfold bv;rw[if_neg F,this,if_pos A]
   have M:(bR m.fs[k] != 0)=true:=by simpa using A
   clear D;have f:=ae z;clear z
   go_wp2_with fail
   refine C.mono ?_;rintro e G ⟨rfl,rfl⟩;go_wp2;go_ret;rw[f.out];exact⟨rfl,d⟩
  have E:firstEf m.fs=0:=firstEf_none _ (λi L=>g.out i L (by omega));have z:bv m=if m.hand<0\/(0<m.hand/\(m.fs.length:Int)<=m.hand)then 3 else 0:=by unfold bv;rw[if_neg F,E];rfl
  have f:=ae z;clear z E
  by_cases J:m.hand<0
  .go_wp2
   all_goals
    go_ret;rw[f.out,if_pos (.inl J)];exact⟨rfl,d⟩
  by_cases I:(0:Int)<m.hand
  .by_cases H:(m.fs.length:Int)<=m.hand
   .go_wp2
    all_goals
     go_ret;rw[f.out,if_pos (.inr ⟨I,H⟩)];exact⟨rfl,d⟩
   go_wp2
   all_goals
    go_ret;rw[f.out,if_neg (by omega)];exact⟨rfl,d⟩
  go_wp2
  all_goals
   go_ret;rw[f.out,if_neg (by omega)];exact⟨rfl,d⟩
theorem mem_size:(Tryz.prog.info? 32).map (·.size)=some 2:=by kernel_rfl
theorem iT(a:Option Addr)(n c:Nat)(k:Int):(#[Value.slice a n c,.int .i64 k]:Array Value).all (·.oneCell')=true:=by simp[Value.oneCell']
theorem zT(a b:Option Addr)(n c m e:Nat)(k l:Int):(#[Value.slice a n c,.int .i64 k]:Array Value).size=(#[Value.slice b m e,.int .i64 l]:Array Value).size:=rfl
def XY(B:Nat)(m:Mem):mV:=⟨λv w => ∃vb,v = .agg #[vb,.int .i64 m.hand]/\Own w B 66 13 vb m.fs.length (m.fs.flatMap pR),λ_ _ _ hb ⟨vb,h1,h2⟩=>⟨vb,h1,h2.below hb⟩⟩
theorem Au(m:Mem)(a:Option Addr)(c:Nat)(w:World)(h:Ru w a c m)(E:m.fs.length*40<=140737488355328) :
  Calls Tryz.prog 57 #[.agg #[.slice a m.fs.length c,.int .i64 m.hand]] w λe w' => ∃vb,e = .returned (.agg #[vb,.int .i64 m.hand])/\Own w' w.heap.size 66 13 vb m.fs.length (m.fs.flatMap pR)/\Below w.heap.size w w':=by
 go_enter func57,ntmps57;go_upto_region 1 with(fail);refine uT (λW=>Code.wp _ _ _ _ W) λw0 b l j s => ?_;clear s;have F:=h.below b;refine aV 6 [_,_,.r 2 ((nA w.heap.size 66 13 m.fs.length (m.fs.flatMap pR))),_,_,.r 5 ((XY w.heap.size m))] (Gf w.heap.size 0 rfl rfl (Gl l (V:=.slice a m.fs.length c) (by simp[underlying30]) rfl rfl rfl rfl (ah ?_ (Gf w.heap.size 1 rfl rfl (Gl l (V:=.int .i64 m.hand) (by simp[underlying3]) rfl rfl rfl rfl (ah ?_ (aI))))))) (λ_=>rfl) rfl ?_
 .intro ρ y W z G D C;have Y:=z 4 1 rfl;have O:y 1=_:=C 1 rfl;have J:=eF0 G λ_=>trivial;refine aO _ _ (aj rfl) (aS rfl (J _) func102 (by kernel_rfl) (by kernel_rfl) (by simp only[bW,bQ,aZ,Y,O,J];rfl)) ?_;refine(JU m.fs a c W F.le F.nil (F.below D).rd E).mono ?_;rintro e w1 ⟨v,rfl,A,t⟩;exact⟨v,rfl,t,A.mono (bi b.size D.size)⟩
 .intro ρ y W z G D C;have X:=z 5 2 rfl;have h2:=C 2 rfl;have U:=z 7 4 rfl;have N:y 4=_:=C 4 rfl;obtain⟨x2,c2,R,_⟩:=Own.rd h2;refine ak (.agg #[y 2,.int .i64 m.hand]) (aj rfl) (by simp[execOp,go_sem,X,U,N,R]) ?_;exact⟨_,rfl,h2⟩
 intro y I g i;have q:((nA w.heap.size 66 13 m.fs.length (m.fs.flatMap pR))).r (y 2) I:=i 2 (by decide);have p:((XY w.heap.size m)).r (y 5) I:=i 5 (by decide);clear i;obtain⟨vb,H,A⟩:=p;rw[H];clear q H;have d:=ag b g;obtain⟨Z,S,rfl,_⟩:=A.rd;refine aA rfl _ (.tmp 2) (.tmp 8) rfl (w.heap.size+1) _ rfl rfl _ _ (j.ext g) rfl mem_size (by simp[Value.oneCell']) ?_;intro K L o;have n:Below w.heap.size w K:=d.grown o d.size oG0;have M:=L.cell;go_wp2;simp[bodyPost,results,go_sem,results57,M];exact⟨ax A (j.ext g) (by decide) o,n⟩
theorem BO(m:Mem)(a:Option Addr)(c:Nat)(w:World)(h:Ru w a c m) :
  Calls Tryz.prog 134 #[.agg #[.slice a m.fs.length c,.int .i64 m.hand]] w λe w'=>e = .returned (.int .i64 (dR m.fs))/\Below w.heap.size w w':=by
 have E:=bi h.le h.mx;unfold maxLen at E;go_enter func134,ntmps134;go_upto_region 1 with(fail);refine iG (λW=>Code.wp _ _ _ _ W) λW0 q g l => ?_;have p:=g.cell;clear l;go_wp2;clear p g
 go_loopw [3,9] (fun s i wr => ∃(k n:Nat),k<=m.fs.length/\i = .int .i64 k/\s = .int .i64 n/\n<=k/\Below w.heap.size w wr/\Hid (dR (m.fs.take k)=n)) (fun _ i _=>m.fs.length-(intOf i).toNat)
 case atStart=>exact⟨0,0,bq _,rfl,rfl,az _,q,ae rfl⟩
 case round=>
  obtain⟨k,n,H,rfl,rfl,G,d,D⟩:=hrel
  by_cases C:k<m.fs.length
  .obtain⟨b,off,rfl,F⟩:=HY (h.below d).rd k C;obtain⟨c0,S,R,O,N,M,L,K,J,I,ca,cb,cc⟩:=F;have z:=NM m.fs k C;rw[D.out]at z
   by_cases A:m.fs[k].r=0
   .rw[if_pos A]at z;have f:=ae z;have o:(m.fs[k].r==0)=true:=by simpa using A
    clear z A;go_wp2;go_roundw
    case rel=>exact⟨k+1,n+1,by omega,by go_num,by go_num,by omega,d.alloc d.size _,f⟩
    case measure=>simp[intOf];omega
   rw[if_neg A]at z;have f:=ae z;have o:(m.fs[k].r==0)=false:=by simpa using A
   clear z A;go_wp2;go_roundw
   case rel=>exact⟨k+1,n,by omega,by go_num,rfl,by omega,d.alloc d.size _,f⟩
   case measure=>simp[intOf];omega
  have j:Hid (dR m.fs=n):=by have:=D.out;rw[jD (by omega)]at this;exact this
  go_wp2;go_ret;rw[j.out];exact⟨rfl,d⟩
theorem PX(f:Fr)(w:World):Calls Tryz.prog 175 #[.agg (tX f)] w λe w'=>e = .returned (.bool (f.r==0))/\Below w.heap.size w w':=by
 go_enter func175,ntmps175;unfold tX;go_wp2;go_ret;exact⟨rfl,(Below.refl _ _).alloc (az _) _⟩
theorem PI(l:List Fr)(a:Option Addr)(c:Nat)(w:World)(z:eB w a (l.flatMap pR))(D:l.length<=9223372036854775807) :
  Calls Tryz.prog 174 #[.slice a l.length c,.func (.func 175) #[] #[]] w λe w'=>Below w.heap.size w w'/\((e = .returned (.int .i64 (-1))/\∀i (h:i<l.length),i<l.length->¬l[i].r=0)\/∃i,∃h:i<l.length,e = .returned (.int .i64 i)/\l[i].r=0/\∀j (h:j<l.length),j<i->¬l[j].r=0):=by
 go_enter func174,ntmps174;go_wp2
 go_loopw [8] (fun i wr => ∃j:Nat,j<=l.length/\i = .int .i64 j/\Below w.heap.size w wr/\∀i (h:i<l.length),i<j->¬l[i].r=0) (fun i _=>l.length-(intOf i).toNat)
 case atStart=>exact⟨0,bq _,rfl,Below.refl _ _,λi _ h=>absurd h (fq _)⟩
 case round=>
  obtain⟨j,E,rfl,d,m⟩:=hrel;have f:=ae m;clear m
  by_cases n:j<l.length
  .obtain⟨O,off,rfl,C⟩:=HY (z.below d) j n;obtain⟨c0,N,M,L,K,J,I,H,G,F,ca,cb,cc⟩:=C;have b:=λw=>PX l[j] w;unfold tX at b
   by_cases s:l[j].r=0
   .rw[beq_iff_eq.2 s]at b;have g:=ae s;clear s
    go_wp2_with fail
    refine(b _).mono ?_;rintro e A ⟨rfl,k⟩;go_wp2;go_ret;exact⟨ag d k,.inr ⟨j,n,rfl,g.out,f.out⟩⟩
   rw[beq_eq_false_iff_ne.2 s]at b;have g:=ae s;clear s
   go_wp2_with fail
   refine (b _).mono ?_;rintro e A ⟨rfl,k⟩;go_wp2;go_roundw
   case rel=>exact⟨j+1,by omega,by go_num,ag d k,mM f.out n g.out⟩
   case measure=>simp[intOf];omega
  go_wp2;go_ret;exact⟨d,.inl ⟨rfl,λi h _=>f.out i h (by omega)⟩⟩
theorem Ie(m:Mem)(p:Page)(file index:Int)(a:Option Addr)(c:Nat)(w:World)(h:Ru w a c m) :
  Calls Tryz.prog 136 #[.agg #[.slice a m.fs.length c,.int .i64 m.hand],.agg (eQ p),.int .i64 file,.int .i64 index] w λe w' => ∃vb,e = .returned (.tuple #[.agg #[vb,.int .i64 (fB m p file index).hand],.int .i64 (iJ m p file index),.int .i64 (iq m p file index)])/\Own w' w.heap.size 66 13 vb (fB m p file index).fs.length ((fB m p file index).fs.flatMap pR)/\Below w.heap.size w w':=by
 go_enter func136,ntmps136;rw[Du]
 go_wp2_with fail
 refine Nb (λW=>Calls _ _ _ W _) λW0 hF hj hv ha hQ => ?_;refine(vV m a c _ (h.below hF)).mono ?_;rintro e X ⟨rfl,H⟩;have g:=ag hF H;have hh:=hj.ext H;have hu:=hv.ext H;have d:=ha.ext H;have h1:=h.below g;clear hj hv ha H hF hQ
 by_cases G:bv m=0
 .rw[G];have hW:m.fs.length<=40:=by
   unfold bv at G;split at G
   .cases G
   .omega
  have hT:=hu.cell;go_upto_region 5 with(fail);refine iG (λW=>Code.wp _ _ _ _ W) λw2 I hJ hP => ?_;have r:=ag g I;have o:=hh.ext I;have l:=d.ext I;have h2:=h1.below I;have hY:w.heap.size+3<=X.heap.size:=by have:=d.lt;omega
  have u : aG w2 X.heap.size (tX (bK p file index)) 66:=hJ;clear hT hu hh d h1 I hP;have L:=Bu (bK p file index) X.heap.size 0 _ (Xe u)
  by_cases hE:bR (bK p file index)=0
  .rw[hE]at L
   go_wp2_with fail
   refine L.mono ?_;rintro e w3 ⟨rfl,rfl⟩;have M:=o.cell;clear L
   go_wp2_with fail
   refine(PI m.fs a c _ h2.rd (by omega)).mono ?_;rintro e w4 ⟨t,hC⟩;have f:=ag r t;have hg:=o.ext t;have j:=l.ext t;have hI:=u.ext t;have h4:=h2.below t;clear M o l hJ u h2 t;rcases hC with⟨rfl,F⟩|⟨i,hi,rfl,hr,J⟩
   .have A:iq m p file index=10:=by unfold iq;rw[if_neg (by omega),if_neg (by omega),if_pos (Nh F)]
    have C:iJ m p file index=0:=by unfold iJ;rw[if_neg (by omega)]
    have D:fB m p file index=noM:=by unfold fB;rw[if_neg (by omega)]
    clear F
    go_wp2_with (refine aA rfl _ (.tmp 8) (.tmp 36) rfl (w.heap.size+2) #[.slice none 0 0,.int .i64 0] rfl rfl _ _ j rfl mem_size (iT _ _ _ _) ?_)
    intro w5 O N;have b:=f.grown N f.size oG0;have n:=O.cell;go_wp2;simp[bodyPost,results,go_sem,results136,n,A,C,D,noM];exact⟨Own.nil _ _ _ _,b⟩
   have Y:=Ng hi hr J;have A:iq m p file index=0:=by unfold iq;rw[if_neg (by omega),if_neg (by omega),if_neg (by rw[Y];simp)]
   have C:iJ m p file index=i:=by unfold iJ;rw[if_pos A,Y];rfl
   have D:fB m p file index=⟨m.fs.set i (bK p file index),m.hand⟩:=by unfold fB;rw[if_pos A,C]
   have Q3:=ae D;have Q2:=ae C;have Q1:=ae A;clear J hr Y A C D;have M:=hg.cell
   go_wp2_with fail
   refine(Au m a c _ h4 (by omega)).mono ?_;rintro e w5 ⟨vb,rfl,ho,S⟩;have b:=ag f S;have z:=j.ext S;have hH:=hI.ext S;have hM:=f.size;obtain⟨xb,cb',rfl,_⟩:=Bl ho;clear M hg j hI h4 S;go_upto_region 12 with(fail);refine iG (λW=>Code.wp _ _ _ _ W) λw6 K Z hO => ?_;have q:=ag b K;have y:=z.ext K;have hG:=hH.ext K;have hL:=ho.below K;clear z hH ho K hO;obtain⟨gb,E,capb,R,hN,h0,U,hZ,M,v⟩:=hL.put fQ (by decide) i hi;cases hN;have hB:=Z.cell;have hA:=hG.cell;unfold tX bK at hA;simp only at hA;have hX:(i:Int)<(m.fs.length:Int):=by omega
   clear M
   go_wp2_with (refine gN rfl _ (.tmp 43) (.tmp 42) rfl gb (E+i*13) (tX (bK p file index)) rfl rfl R 66 U (by show _+13<=_;omega) frame_size (oG _) ?_)
   intro w7 hK s;have hV:=v w7 (bK p file index) hK;have hS:=bY Z U (by decide) s;have x:=bY y U (by decide) s;have hl:Below w.heap.size w w7:=q.grown s q.size oG0;clear hK v U Z y hL hB hA s q hG;have hB:=hS.cell
   go_wp2_with (refine aA rfl _ (.tmp 8) (.tmp 44) rfl (w.heap.size+2) #[.slice (some ⟨gb,E,none⟩) m.fs.length cb',.int .i64 m.hand] rfl rfl _ _ x (zT _ _ _ _ _ _ _ _) mem_size (iT _ _ _ _) ?_)
   intro w8 hR hx;have hU:=ax hV x (by decide) hx;have hD:=hl.grown hx hl.size oG0;have n:=hR.cell;clear hB;go_wp2;simp[bodyPost,results,go_sem,results136,n,Q1.out,Q2.out,Q3.out];exact⟨by have:=hU.mono (show w.heap.size<=w4.heap.size from hM);simpa using this,hD⟩
  have A:iq m p file index=bR (bK p file index):=by unfold iq;rw[if_neg (by omega),if_pos hE]
  have C:iJ m p file index=0:=by unfold iJ;rw[if_neg (by omega)]
  have D:fB m p file index=noM:=by unfold fB;rw[if_neg (by omega)]
  have hn:(bR (bK p file index) != 0)=true:=by simpa using hE
  go_wp2_with fail
  refine L.mono ?_;rintro e w3 ⟨rfl,rfl⟩;clear L
  go_wp2_with (refine aA rfl _ (.tmp 8) (.tmp 29) rfl (w.heap.size+2) #[.slice none 0 0,.int .i64 0] rfl rfl _ _ l rfl mem_size (iT _ _ _ _) ?_)
  intro w5 O N;have b:=r.grown N r.size oG0;have n:=O.cell;go_wp2;simp[bodyPost,results,go_sem,results136,n,A,C,D,noM];exact⟨Own.nil _ _ _ _,b⟩
 have A:iq m p file index=bv m:=by unfold iq;rw[if_pos G]
 have C:iJ m p file index=0:=by unfold iJ;rw[if_neg (by omega)]
 have D:fB m p file index=noM:=by unfold fB;rw[if_neg (by omega)]
 have hn:(bv m != 0)=true:=by simpa using G
 go_wp2_with (refine aA rfl _ (.tmp 8) (.tmp 20) rfl (w.heap.size+2) #[.slice none 0 0,.int .i64 0] rfl rfl _ _ d rfl mem_size (iT _ _ _ _) ?_)
 intro w5 O N;have b:=g.grown N g.size oG0;have n:=O.cell;go_wp2;simp[bodyPost,results,go_sem,results136,n,A,C,D,noM];exact⟨Own.nil _ _ _ _,b⟩
theorem QC(m:Mem)(k n:Int)(a:Option Addr)(c:Nat)(w:World)(h:Ru w a c m) :
  Calls Tryz.prog 142 #[.agg #[.slice a m.fs.length c,.int .i64 m.hand],.int .i64 k,.int .i64 n] w λe w' => ∃vb,e = .returned (.tuple #[.agg #[vb,.int .i64 (lW m k n).hand],.int .i64 (oC m k n)])/\Own w' w.heap.size 66 13 vb (lW m k n).fs.length ((lW m k n).fs.flatMap pR)/\Below w.heap.size w w':=by
 go_enter func142,ntmps142
 go_wp2_with fail
 refine uT (λW=>Calls _ _ _ W _) λW0 hE hj hf hO => ?_;refine(vV m a c _ (h.below hE)).mono ?_;rintro e Y ⟨rfl,O⟩;have d:=ag hE O;have hi:=hj.ext O;have g:=hf.ext O;have h1:=h.below d;clear hj hf O hE hO;have hV:=hi.cell
 by_cases N:bv m=0
 .obtain⟨hX,hp,_,_⟩:=(dO m).1 N;rw[N]
  by_cases X:k<0\/(m.fs.length:Int)<=k
  .have C:oC m k n=5:=by unfold oC;rw[if_neg (by omega),if_pos (by omega)]
   have D:lW m k n=noM:=by unfold lW;rw[if_neg (by omega)]
   clear hp;rcases X with X|X
   all_goals
    go_wp2_with (refine aA rfl _ (.tmp 6) (.tmp 35) rfl (w.heap.size+1) #[.slice none 0 0,.int .i64 0] rfl rfl _ _ g rfl mem_size (iT _ _ _ _) ?_)
    all_goals
     intro w5 q s;have f:=(d).grown s (d).size oG0;have i:=q.cell;go_wp2;simp[bodyPost,results,go_sem,results142,i,C,D,noM];exact⟨Own.nil _ _ _ _,f⟩
  obtain⟨k,rfl⟩:=iL (show 0<=k by omega);have J:k<m.fs.length:=by omega
  have h3:¬(m.fs.length:Int)<=(k:Int):=by omega
  have h2:(k:Int)<(m.fs.length:Int):=by omega
  obtain⟨⟨h0,hZ,_⟩,_,_⟩:=(dL m.fs[k]).1 (hp _ (eu J));have G:m.fs.getD (k:Int).toNat fr0=m.fs[k]:=by simp[J]
  clear hp X;obtain⟨b,off,rfl,hc⟩:=HY h1.rd k J;have M:=hc.c8
  by_cases S:m.fs[k].r=0
  .have C:oC m k n=5:=by unfold oC;rw[if_neg (by omega),G,if_pos (.inr (.inr S))]
   have D:lW m k n=noM:=by unfold lW;rw[if_neg (by omega)]
   have hP:(m.fs[k].r==0)=true:=by simpa using S
   clear G
   go_wp2_with (refine aA rfl _ (.tmp 6) (.tmp 35) rfl (w.heap.size+1) #[.slice none 0 0,.int .i64 0] rfl rfl _ _ g rfl mem_size (iT _ _ _ _) ?_)
   all_goals
    intro w5 q s;have f:=(d).grown s (d).size oG0;have i:=q.cell;go_wp2;simp[bodyPost,results,go_sem,results142,i,C,D,noM];exact⟨Own.nil _ _ _ _,f⟩
  have hP:(m.fs[k].r==0)=false:=by simpa using S
  by_cases F:n < -m.fs[k].r\/1000-m.fs[k].r<n
  .have C:oC m k n=3:=by unfold oC;rw[if_neg (by omega),G,if_neg (by omega),if_pos F]
   have D:lW m k n=noM:=by unfold lW;rw[if_neg (by omega)]
   clear G;rcases F with F|F
   all_goals
    go_wp2_with (refine aA rfl _ (.tmp 6) (.tmp 56) rfl (w.heap.size+1) #[.slice none 0 0,.int .i64 0] rfl rfl _ _ g rfl mem_size (iT _ _ _ _) ?_)
    all_goals
     intro w5 q s;have f:=(d).grown s (d).size oG0;have i:=q.cell;go_wp2;simp[bodyPost,results,go_sem,results142,i,C,D,noM];exact⟨Own.nil _ _ _ _,f⟩
  have C:oC m k n=0:=by unfold oC;rw[if_neg (by omega),G,if_neg (by omega),if_neg F]
  have D:lW m k n=⟨m.fs.set k (ik m.fs[k] n),m.hand⟩:=by unfold lW;rw[if_pos C,G];rfl
  have Q1:=ae C;have Q3:=ae D;have n1:¬n < -m.fs[k].r:=by omega
  have n2:¬1000-m.fs[k].r<n:=by omega
  clear G C D F S
  go_wp2_with fail
  refine(Au m _ c _ h1 (by omega)).mono ?_;rintro e w2 ⟨vb,rfl,ho,hD⟩;have hm:=ag d hD;have p:=g.ext hD;have hx:=d.size;have h5:w.heap.size+2<=Y.heap.size:=by have:=g.lt;omega
  obtain⟨xb,L,rfl,_⟩:=Bl ho;clear hV hi g h1 hD hc M;go_upto_region 9 with(fail);refine iG (λW=>Code.wp _ _ _ _ W) λw3 R y hN => ?_;have hl:=ag hm R;have hd:=p.ext R;have hH:=ho.below R;have h4:w.heap.size+2<=w2.heap.size:=by have:=hm.size;have:=p.lt;omega
  clear p ho R hN;obtain⟨E,A,capb,hM,h7,hT,⟨csg,U⟩,hK,hU,u⟩:=zY fQ (by decide) rfl hH k J 8 (by decide) (.int .i64 (m.fs[k].r+n)) { m.fs[k]with r:=m.fs[k].r+n } rfl;cases hM;have hW:=hK 8 (.int .i64 m.fs[k].r) rfl;have z:=y.cell;clear hK;have hI:=y.lt;have hS:w2.heap.size≠E:=by intro e;subst e;unfold aG at y U;rw[y]at U;cases U
  go_upto_region 11 with(fail);have hA:=y.setCell_other ⟨E,A+k*13+8,none⟩ (.int .i64 (m.fs[k].r+n)) (by simpa using hS);have l:=hd.setCell_other ⟨E,A+k*13+8,none⟩ (.int .i64 (m.fs[k].r+n)) (by simp;omega);have j:Below w.heap.size w (w3.setCell ⟨E,A+k*13+8,none⟩ (.int .i64 (m.fs[k].r+n))):=hl.setCell (by simp;omega) _;generalize w3.setCell ⟨E,A+k*13+8,none⟩ (.int .i64 (m.fs[k].r+n))=w4 at *
  clear y hd hl hH U hU hW z hT hI;have hR:(m.fs.set k { m.fs[k]with r:=m.fs[k].r+n }).length=m.fs.length:=by simp
  have hJ : k<(m.fs.set k { m.fs[k]with r:=m.fs[k].r+n }).length:=by omega
  obtain⟨_,_,I,_,_,_,hu⟩:=u.rd;cases I;obtain⟨_,_,I,hC⟩:=HY hu k hJ;cases I;rw[Ja]at hC;have M:=hC.c8;simp only at M;clear hC hu;have z:=hA.cell
  by_cases H:m.fs[k].r+n=0
  .have hB:Hid (ik m.fs[k] n=frZ):=by unfold ik;exact if_pos H
   obtain⟨_,_,_,K,I,_,x,h6,ha⟩:=oO fQ (by decide) hR u k J;cases I;rw[H]at M;clear H u
   go_wp2_with (refine gN rfl _ (.tmp 78) (.tmp 77) rfl E (A+k*13) (tX frZ) rfl rfl K 66 x (by show _+13<=_;omega) frame_size (oG _) ?_)
   intro w5 hG v;have hL:=ha w5 frZ hG;rw[DJ]at hL;have hQ:=bY hA x (by decide) v;have hb:=bY l x (by decide) v;have f:Below w.heap.size w w5:=j.grown v j.size oG0;clear hG ha x hA l z M v j;have z:=hQ.cell
   go_wp2_with (refine aA rfl _ (.tmp 6) (.tmp 79) rfl (w.heap.size+1) #[.slice (some ⟨E,A,none⟩) m.fs.length L,.int .i64 m.hand] rfl rfl _ _ hb (zT _ _ _ _ _ _ _ _) mem_size (iT _ _ _ _) ?_)
   intro w8 Z o;have hF:=ax hL hb (by decide) o;have t:=f.grown o f.size oG0;have i:=Z.cell;clear z;go_wp2;simp[bodyPost,results,go_sem,results142,i,Q1.out,Q3.out,hB.out];exact⟨by have:=hF.mono (show w.heap.size<=Y.heap.size from hx);simpa using this,t⟩
  have hB:Hid (ik m.fs[k] n = { m.fs[k]with r:=m.fs[k].r+n }):=by unfold ik;exact if_neg H
  have hY:(m.fs[k].r+n==0)=false:=by simpa using H
  clear H
  go_wp2_with (refine aA rfl _ (.tmp 6) (.tmp 79) rfl (w.heap.size+1) #[.slice (some ⟨E,A,none⟩) m.fs.length L,.int .i64 m.hand] rfl rfl _ _ l (zT _ _ _ _ _ _ _ _) mem_size (iT _ _ _ _) ?_)
  intro w8 Z o;have hF:=ax u l (by decide) o;have t:=j.grown o j.size oG0;have i:=Z.cell;clear z;go_wp2;simp[bodyPost,results,go_sem,results142,i,Q1.out,Q3.out,hB.out];exact⟨by have:=hF.mono (show w.heap.size<=Y.heap.size from hx);simpa using this,t⟩
 have C:oC m k n=bv m:=by unfold oC;rw[if_pos N]
 have D:lW m k n=noM:=by unfold lW;rw[if_neg (by omega)]
 have F:(bv m != 0)=true:=by simpa using N
 go_wp2_with (refine aA rfl _ (.tmp 6) (.tmp 15) rfl (w.heap.size+1) #[.slice none 0 0,.int .i64 0] rfl rfl _ _ g rfl mem_size (iT _ _ _ _) ?_)
 all_goals
  intro w5 q s;have f:=(d).grown s (d).size oG0;have i:=q.cell;go_wp2;simp[bodyPost,results,go_sem,results142,i,C,D,noM];exact⟨Own.nil _ _ _ _,f⟩
theorem Pk(m:Mem)(a:Option Addr)(c:Nat)(w:World)(h:Ru w a c m) :
  Calls Tryz.prog 172 #[.agg #[.slice a m.fs.length c,.int .i64 m.hand]] w λe w' => ∃vb,e = .returned (.tuple #[.agg #[vb,.int .i64 (gP m).hand],.int .i64 (jq m),.int .i64 (bv m)])/\Own w' w.heap.size 66 13 vb (gP m).fs.length ((gP m).fs.flatMap pR)/\Below w.heap.size w w':=by
 go_enter func172,ntmps172
 go_wp2_with fail
 refine uT (λW=>Calls _ _ _ W _) λW0 hV hH hz ka => ?_;refine(vV m a c _ (h.below hV)).mono ?_;rintro e w1 ⟨rfl,H⟩;have p:=ag hV H;have hh:=hH.ext H;have t:=hz.ext H;have A:=h.below p;clear hH hz H hV ka;have kj:=hh.cell
 by_cases C:bv m=0
 .obtain⟨kl,hP,ko,kn⟩:=(dO m).1 C;rw[C]
  go_wp2_with fail
  refine(Au m _ c _ A (by omega)).mono ?_;rintro e I ⟨vb,rfl,R,O⟩;have hU:=ag p O;have hG:=hh.ext O;have hy:=t.ext O;have h2:=A.below O;have hi:=p.size;have kq:w.heap.size+2<=w1.heap.size:=by have:=t.lt;omega
  have kp:w.heap.size+2<=I.heap.size:=by have:=O.size;omega
  obtain⟨xb,D,rfl,_⟩:=Bl R;clear kj hh t A O;go_upto_region 5 with(fail);refine iG (λW=>Code.wp _ _ _ _ W) λw3 S hM h9 => ?_;have hI:=ag hU S;have i:=hG.ext S;have q:=hy.ext S;have h3:=h2.below S;have hL:=R.below S;clear hG hy h2 R S h9
  by_cases E:dR m.fs=m.fs.length
  .have K:gP m=m:=by unfold gP;rw[if_neg (by omega),if_pos E]
   have J:jq m = -1:=by unfold jq;rw[if_neg (by omega),if_pos E]
   have hR:((dR m.fs:Int)==(m.fs.length:Int))=true:=by simp[E]
   have Q:=ae (And.intro K J);clear K J E hP;refine aV 6 [.v (.agg #[.slice a m.fs.length c,.int .i64 m.hand]),.v (.int .i64 (dR m.fs)),_,_,_,_] (ah ?_ (ah ?_ (Gf w.heap.size 0 rfl rfl (Gl i (V:=.slice a m.fs.length c) (by simp[underlying30]) rfl rfl rfl rfl (Gn rfl rfl rfl rfl (Gb (.bool true) (by simp[go_sem,hR]) rfl rfl rfl rfl rfl (aI)) (underlying30)))))) (λ_=>rfl) rfl ?_
   .intro ρ y W C G N Y;have E1:ρ (.tmp 1) = .pointer (some ⟨w.heap.size,0,none⟩):=(G (.tmp 1) rfl).trans rfl;refine ak (.agg #[.slice a m.fs.length c,.int .i64 m.hand]) (aj rfl) (by simp[execOp,go_sem,E1,(i.ext N).cell]) rfl
   .intro ρ y W C G N Y;have hW:=C 17 0 rfl;have X:y 0=_:=Y 0 rfl;have EF:=eF0 G λ_=>trivial;refine aO _ _ (aj rfl) (aS rfl (EF _) func134 (by kernel_rfl) (by kernel_rfl) (by simp only[bW,bQ,aZ,hW,X,EF];rfl)) ?_;refine(BO m a c W (h3.below N)).mono ?_;rintro e w1 ⟨rfl,H⟩;exact⟨_,rfl,H,rfl⟩
   intro y WA b _;have n:=ag hI b;have l:=q.ext b;have hB:=hM.ext b;have hK:=hL.below b;clear i q hM hL h3 b;have hE:=hB.cell
   go_wp2_with (refine aA rfl _ (.tmp 2) (.tmp 23) rfl (w.heap.size+1) #[.slice xb m.fs.length D,.int .i64 m.hand] rfl rfl _ _ l (zT _ _ _ _ _ _ _ _) mem_size (iT _ _ _ _) ?_)
   intro w8 hQ Z;have hJ:=ax hK l (by decide) Z;have o:=n.grown Z n.size oG0;have hD:=hQ.cell;clear hE;go_wp2;simp[bodyPost,results,go_sem,results172,hD,Q.out.1,Q.out.2]
   first
    | exact⟨hJ.mono hi,o⟩
    | exact⟨_,⟨rfl,rfl⟩,hJ.mono hi,o⟩
    | exact⟨_,⟨rfl,C.symm⟩,hJ.mono hi,o⟩
  obtain⟨h8,h7,h6⟩:=Rx m C E;have K:gP m=⟨oN m (jb m),(jH m (jb m+1):Nat)⟩:=by unfold gP;rw[if_neg (by omega),if_neg E]
  have J:jq m=(jH m (jb m):Nat):=by unfold jq;rw[if_neg (by omega),if_neg E]
  have hR:((dR m.fs:Int)==(m.fs.length:Int))=false:=by simpa using(by omega:¬(dR m.fs:Int)=m.fs.length)
  have hA:0<m.fs.length:=by
   rcases ug m.fs.length with X|X
   .exact absurd (by have:=Ew m.fs;omega) E
   .exact X
  have Q:=ae (And.intro K (And.intro J (And.intro h8 (And.intro h7 h6))));clear K J E hP h8 h7 h6;refine aV 6 [.v (.agg #[.slice a m.fs.length c,.int .i64 m.hand]),.v (.int .i64 (dR m.fs)),_,_,_,_] (ah ?_ (ah ?_ (Gf w.heap.size 0 rfl rfl (Gl i (V:=.slice a m.fs.length c) (by simp[underlying30]) rfl rfl rfl rfl (Gn rfl rfl rfl rfl (Gb (.bool false) (by simp[go_sem,hR]) rfl rfl rfl rfl rfl (aI)) (underlying30)))))) (λ_=>rfl) rfl ?_
  .intro ρ y W C G N Y;have E1:ρ (.tmp 1) = .pointer (some ⟨w.heap.size,0,none⟩):=(G (.tmp 1) rfl).trans rfl;refine ak (.agg #[.slice a m.fs.length c,.int .i64 m.hand]) (aj rfl) (by simp[execOp,go_sem,E1,(i.ext N).cell]) rfl
  .intro ρ y W C G N Y;have hW:=C 17 0 rfl;have X:y 0=_:=Y 0 rfl;have EF:=eF0 G λ_=>trivial;refine aO _ _ (aj rfl) (aS rfl (EF _) func134 (by kernel_rfl) (by kernel_rfl) (by simp only[bW,bQ,aZ,hW,X,EF];rfl)) ?_;refine(BO m a c W (h3.below N)).mono ?_;rintro e w1 ⟨rfl,H⟩;exact⟨_,rfl,H,rfl⟩
  intro y WA b _;have n:=ag hI b;have l:=q.ext b;have hB:=hM.ext b;have hK:=hL.below b;clear i q hM hL h3 b;have hX:Hid (m.hand=(jH m 0:Nat)):=by show m.hand=(jH m 0:Nat);unfold jH;rw[iP,rQ (by omega)];omega
  rw[hX.out]at hB;clear hX;go_wp2
  go_loopg [7] (2*m.fs.length) (fun gg s7 wr => ∃s:Nat,Hid (s<=jb m)/\2*m.fs.length-s<=gg/\Below w.heap.size w wr/\aG wr I.heap.size #[.slice xb m.fs.length D,.int .i64 (jH m s)] 32/\aG wr (w.heap.size+1) #[.slice none 0 0,.int .i64 0] 32/\Own wr w.heap.size 66 13 (.slice xb m.fs.length D) m.fs.length ((oN m s).flatMap pR))
  case atStart=>exact⟨0,ae (bq _),by omega,n,hB,l,by rw[TI];exact hK.mono hi⟩
  case round=>
   clear n hB l hK;obtain⟨s,hs,kt,hO,L,hN,R⟩:=hrel;obtain⟨k,M⟩:∃k,k=jH m s:=⟨_,rfl⟩;have h4:k<m.fs.length:=by rw[M];exact qw hA s
   have kc:((k:Int)+1)%(m.fs.length:Int)=(jH m (s+1):Nat):=by
    have A:jH m (s+1)=(k+1)%m.fs.length:=by rw[M];unfold jH;rw[Nat.mod_add_mod,nV]
    rw[A,show(k:Int)+1=((k+1:Nat):Int)from by simp,<-Jt]
   have hC:k<(oN m s).length:=by rw[jE];exact h4
   have hq:xH m s=(decide (0<((oN m s)[k]'hC).r)&&!((oN m s)[k]'hC).u):=by subst M;exact Vv m s hA
   have hg:Hid ((oN m s).set k (unused ((oN m s)[k]'hC))=oN m (s+1)):=by subst M;exact Uf m s hA
   rw[<-M]at L;have kg:=ae M;clear M;have hE:=L.cell;have ki:=L.free;have kf:((m.fs.length:Int)==0)=false:=beq_eq_false_iff_ne.2 (by omega);have ke:¬(m.fs.length:Int)=0:=by omega
   have kd:=L.lt;have ht:=ae hq;clear hq;go_upto_region 9 with(fail);have hZ:=L.setCell 1 (.int .i64 (jH m (s+1):Nat));have d:=hN.setCell_other ⟨I.heap.size,1,none⟩ (.int .i64 (jH m (s+1):Nat)) (by simp;omega);have hY:=wO R L (by decide) 1 (.int .i64 (jH m (s+1):Nat));have j:Below w.heap.size w (wr.setCell ⟨I.heap.size,1,none⟩ (.int .i64 (jH m (s+1):Nat))):=hO.setCell (by simp;omega) _;generalize wr.setCell ⟨I.heap.size,1,none⟩ (.int .i64 (jH m (s+1):Nat))=w5 at *
   have z : aG w5 I.heap.size #[.slice xb m.fs.length D,.int .i64 (jH m (s+1):Nat)] 32:=hZ;clear L hE ki hN R hO hZ kd kc kf ke;have hE:=z.cell;obtain⟨g,off,cap,hv,kv,ks,⟨csg,U⟩,hT,ku,hx⟩:=zY fQ (by decide) (jE m s) hY k h4 9 (by decide) (.bool false) (unused ((oN m s)[k]'hC)) rfl;cases hv;generalize hF:(oN m s)[k]'hC=F at *
   have c8:=hT 8 (.int .i64 F.r) rfl;have c9:=hT 9 (.bool F.u) rfl;have km:(k:Int)<(m.fs.length:Int):=by omega
   clear hT hF;have h5:I.heap.size≠g:=by intro e;subst e;unfold aG at z U;rw[z]at U;cases U
   have kr:g≠w.heap.size+1:=by intro e;subst e;unfold aG at d U;rw[d]at U;cases U
   by_cases hr:0<F.r
   .cases hu:F.u with
    | true=>
     rw[hu]at c9;have x:Hid (s+1<=jb m):=by
      have A:=ht.out;rw[hu]at A;have h2:s≠jb m:=by intro e;rw[e,Q.out.2.2.2.1]at A;simp at A
      have:=hs.out;show s+1<=jb m;omega
     clear hu;go_wp2
     go_roundg (2*m.fs.length-(s+1))
     case measure=>have:=x.out;have:=Q.out.2.2.1;omega
     case rel=>exact⟨s+1,x,az _,j.setCell (by simp;omega) _,z.setCell_other _ _ (by simpa using h5),d.setCell_other _ _ (by simp;omega),by rw[<-hg.out];exact hx⟩
    | false=>
     rw[hu]at c9;have hS:Hid (s=jb m):=by
      have A:=ht.out;rw[hu]at A;have h2:xH m s=true:=by rw[A];simp[hr]
      have:=hs.out;rcases gu s (jb m)with h|h
      .rw[Q.out.2.2.2.2 s h]at h2;cases h2
      .show s=jb m;omega
     clear hu hx hg
     go_wp2_with (refine aA rfl _ (.tmp 2) (.tmp 50) rfl (w.heap.size+1) #[.slice (some ⟨g,off,none⟩) m.fs.length D,.int .i64 (jH m (s+1):Nat)] rfl rfl _ _ d (zT _ _ _ _ _ _ _ _) mem_size (iT _ _ _ _) ?_)
     intro w8 hQ Z;have hJ:=ax hY d (by decide) Z;have o:=j.grown Z j.size oG0;have hD:=hQ.cell;clear hE;go_wp2;have kk:=hS.out;rw[<-kk]at Q;simp[bodyPost,results,go_sem,results172,hD,Q.out.1,Q.out.2.1,C,kg.out];exact⟨by rw[jE];exact hJ,o⟩
   have x:Hid (s+1<=jb m):=by
    have A:=ht.out;have h2:s≠jb m:=by intro e;rw[e,Q.out.2.2.2.1]at A;simp[hr]at A
    have:=hs.out;show s+1<=jb m;omega
   go_wp2
   go_roundg (2*m.fs.length-(s+1))
   case measure=>have:=x.out;have:=Q.out.2.2.1;omega
   case rel=>exact⟨s+1,x,az _,j.setCell (by simp;omega) _,z.setCell_other _ _ (by simpa using h5),d.setCell_other _ _ (by simp;omega),by rw[<-hg.out];exact hx⟩
 have K:gP m=noM:=by unfold gP;rw[if_pos C]
 have J:jq m=0:=by unfold jq;rw[if_pos C]
 have G:(bv m != 0)=true:=by simpa using C
 go_wp2_with (refine aA rfl _ (.tmp 2) (.tmp 13) rfl (w.heap.size+1) #[.slice none 0 0,.int .i64 0] rfl rfl _ _ t rfl mem_size (iT _ _ _ _) ?_)
 intro w5 kb kh;have j:=p.grown kh p.size oG0;have hD:=kb.cell;go_wp2;simp[bodyPost,results,go_sem,results172,hD,K,J,noM];exact⟨Own.nil _ _ _ _,j⟩
theorem bH{d:TypeDesc}(z:o.op = .load ty x)(n:ρ x = .pointer (some ⟨b,off,none⟩))(h:eB w (some ⟨b,off,none⟩) vs)
 (s:P.underlying ty=some d) (C:aggB d=true) (A:(P.info? ty).map (·.size)=some vs.length):(execOp ρ o).run P w = .ok (.value (.agg vs.toArray)) w:=by
 unfold execOp;simp only[z,n,Instr.loadAt,Instr.sureAddr,kY,qR,rA,kV h s C A]
def jy(e:En):Array Value:=#[.int .i64 e.k,.int .i64 e.n,.bool e.w]
def lY(e:En):List Value:=(jy e).toList
theorem gz(e:En):(lY e).length=3:=rfl
structure Gq (w:World) (cs:Array Value) (t:Tb):Prop where
 sz:cs.size=8
 at' : ∀k (h:k<8),∃a c,cs[k]?=some (.slice a t[k].length c)/\t[k].length<=c/\c<=maxLen/\(a=none->c=0)/\eB w a (t[k].flatMap lY)
theorem Gq.below{t:Tb}(h:Gq w cs t)(s:Below w.heap.size w w'):Gq w' cs t:=
 ⟨h.sz,λk n=>by obtain⟨a,c,D,h2,C,A,z⟩:=h.at' k n;exact⟨a,c,D,h2,C,A,z.below s⟩⟩
theorem Gq.one{t:Tb}(h:Gq w cs t):cs.all (·.oneCell')=true:=by
 rw[Array.all_eq_true];intro i s;obtain⟨a,c,n,_⟩:=h.at' i (by have:=h.sz;omega);rw[Ag s]at n;rw[aM n];rfl
theorem Dr(h:k<8)(n:cs[k]?=some v)(w:World):(Instr.index 74 (.agg cs) (.int .i64 k)).run Tryz.prog w = .ok v w:=
 Fv underlying74 underlying72 UY (by kernel_rfl) _ k _ h n _ w
theorem tab_agg:aggB (.array 8 72)=true:=rfl
theorem tab_size:(Tryz.prog.info? 74).map (·.size)=some 8:=by kernel_rfl
theorem GD{l:List En}(h:eB w a (l.flatMap lY))(k:Nat)(z:k<l.length):∃b off,a=some ⟨b,off,none⟩/\w.cell? ⟨b,off+k*3,none⟩=some (.int .i64 l[k].k)/\w.cell? ⟨b,off+k*3+1,none⟩=some (.int .i64 l[k].n)/\w.cell? ⟨b,off+k*3+2,none⟩=some (.bool l[k].w):=by
 obtain⟨b,off,A,s⟩:=h.elem gz (by decide) k z;exact⟨b,off,A,s 0 _ rfl,s 1 _ rfl,s 2 _ rfl⟩
theorem Gu(e:En)(w:World):Calls Tryz.prog 171 #[.agg #[.int .i64 e.k,.int .i64 e.n,.bool e.w]] w λr w'=>r = .returned (.int .i64 (eF e))/\Below w.heap.size w w':=by
 go_enter func171,ntmps171;go_wp2
 all_goals go_ret
 all_goals refine⟨?_,(Below.refl _ _).alloc (az _) _⟩
 all_goals go_light
 all_goals refine congrArg (λz=>Ending.returned (.int .i64 z)) ?_
 all_goals simp only[eF]
 all_goals simp_all
 all_goals omega
theorem FT(t:Tb)(cs:Array Value)(w:World)(h:Gq w cs t):Calls Tryz.prog 130 #[.agg cs] w λr w'=>r = .returned (.int .i64 (dB t))/\Below w.heap.size w w':=by
 go_enter func130,ntmps130;go_upto_region 1 with(fail);refine iG (λW=>Code.wp _ _ _ _ W) λW0 R v hg => ?_;clear hg
 go_wp2_with (refine iA rfl 74 (.tmp 1) rfl w.heap.size 0 rfl cs.toList v.rd _ underlying74 tab_agg (by rw[jm,h.sz];exact tab_size) ?_)
 clear v
 go_loopw [10] (fun i wr => ∃k:Nat,k<=8/\i = .int .i64 k/\Below w.heap.size w wr/\∀i (I:i<8),i<k->mY t[i]=0) (fun i _=>8-(intOf i).toNat)
 case atStart=>exact⟨0,bq _,rfl,R,λi _ h=>absurd h (fq _)⟩
 case round=>
  obtain⟨k,hk,rfl,n,y⟩:=hrel;have H:=ae y;clear y R
  by_cases A:k<8
  .obtain⟨a,c,U,hu,hl,hr,hh⟩:=h.at' k A;have Z:=λW=>Dr A U W;have hw:decide ((k:Int)<8)=true:=by simp;omega
   unfold maxLen at hl;clear U
   by_cases F:t[k].length=0\/t[k].length=8
   .have G:=ae F;have J:((t[k].length:Int) != 0)=true/\((t[k].length:Int) != 8)=false\/((t[k].length:Int) != 0)=false/\((t[k].length:Int) != 8)=true:=by rcases F with e|e<;>simp[e]
    clear F;rcases J with⟨J,O⟩|⟨J,O⟩
    all_goals
     go_wp2;clear Z
     go_loopw [23,5] (fun i s wr' => ∃j:Nat,j<=t[k].length/\i = .int .i64 j/\s = .bool (yZ t[k] j)/\Below w.heap.size w wr'/\∀i (I:i<t[k].length),i<j->eF t[k][i]=0) (fun i _ _=>t[k].length-(intOf i).toNat)
     case atStart=>exact⟨0,bq _,rfl,rfl,n,λi _ h=>absurd h (fq _)⟩
     case round=>
      obtain⟨j,hj,rfl,rfl,g,x⟩:=hrel;have K:=ae x;clear x n
      by_cases C:j<t[k].length
      .obtain⟨b,off,rfl,c0,c1,c2⟩:=GD (hh.below g) j C
       go_wp2_with fail
       refine iG (λW=>Calls _ _ _ W _) λW3 S u hf => ?_;have m:=ag g S;clear g hf c0 c1 c2 S;refine(Gu t[k][j] _).mono ?_;rintro e w4 ⟨rfl,q⟩;have l:=ag m q;have ht:=(u.ext q).cell;clear u q m
       by_cases E:eF t[k][j]=0
       .have X:=Hl t[k] j C;have Y:=ae E;rw[E];clear E;cases hs:yZ t[k] j
        all_goals
         rw[hs] at X;go_wp2;go_roundw
         case rel=>exact⟨j+1,by omega,by go_num,by rw[X];first | rfl | (congr 1;rw[nC];simp),l,mM K.out C Y.out⟩
         case measure=>simp[intOf];omega
       have hv:(eF t[k][j] != 0)=true:=by simpa using E
       have f:=ae (sH k A H.out (by rw[Bf G.out j C K.out E];exact E));have d:=ae (Bf G.out j C K.out E);go_wp2;go_ret;exact⟨aX (f.out.trans d.out).symm,l⟩
      have o:=ae (xR G.out λi I=>K.out i I (by omega));have p:=ae (Kg t[k] j (by omega))
      by_cases D:0<t[k].length/\yZ t[k] j=false
      .obtain⟨N,L⟩:=D;have d:=ae (o.out.trans (if_pos ⟨N,p.out▸L⟩));have f:=ae (sH k A H.out (by rw[d.out];decide));rw[L];go_wp2;go_ret;exact⟨aX (f.out.trans d.out).symm,g⟩
      have d:=ae (o.out.trans (if_neg (λh=>D ⟨h.1,p.out.trans h.2⟩)));have z:¬0<t[k].length\/0<t[k].length/\yZ t[k] j=true:=by
       by_cases M:0<t[k].length
       .exact .inr ⟨M,by simpa[M]using D⟩
       .exact .inl M
      clear D;rcases z with N|⟨N,L⟩
      .go_wp2;go_roundw
       case rel=>exact⟨k+1,by omega,by go_num,g,mM H.out A d.out⟩
       case measure=>simp[intOf];omega
      rw[L];go_wp2;go_roundw
      case rel=>exact⟨k+1,by omega,by go_num,g,mM H.out A d.out⟩
      case measure=>simp[intOf];omega
   have J:((t[k].length:Int) != 0)=true:=by rw[bne_iff_ne];omega
   have O:((t[k].length:Int) != 8)=true:=by rw[bne_iff_ne];omega
   have d:=ae (zx (h:=t[k]) (by omega));have f:=ae (sH k A H.out (by rw[d.out];decide));go_wp2;go_ret;exact⟨aX (f.out.trans d.out).symm,n⟩
  have f:=ae (xm λi I=>H.out i I (by omega));go_wp2;go_ret;exact⟨aX f.out.symm,n⟩
theorem entry_info:(Tryz.prog.info? 68).map (λi=>(i.zero,i.size,i.bytes))=some (some (.agg #[.int .i64 0,.int .i64 0,.bool false]),3,24):=by kernel_rfl
theorem uE(l:List En):(l.flatMap lY).length=l.length*3:=Pw.flat_len lY 3 gz l
theorem jB(f:En):(jy f).all (·.oneCell')=true:=by simp[jy,Value.oneCell']
theorem Cv(l:List En):∀u∈l.flatMap lY,u.oneCell' = true:=by
 intro u h;obtain⟨f,_,n⟩:=jV.1 h;have:=jB f;rw[<-mO,fA]at this;exact this u n
theorem FZ(l:List En)(a:Option Addr)(c:Nat)(w:World)(z:l.length<=c)(n:a=none->c=0)(s:eB w a (l.flatMap lY))(E:l.length*24<=140737488355328) :
  Calls Tryz.prog 106 #[.slice a l.length c] w λe w' => ∃v,e = .returned v/\Own w' w.heap.size 68 3 v l.length (l.flatMap lY)/\Below w.heap.size w w':=by
 cases a with
 | none=>
  have F:=n rfl;have C:l=[]:=kU (by omega);subst C;subst F;have A:=λW=>ni (P:=Tryz.prog) W 72 _ none 0 0 0 0 underlying72;go_enter func106,ntmps106;go_wp2;go_ret;exact⟨_,rfl,by simpa using Own.nil _ _ _ _,Below.refl _ _⟩
 | some ad=>
  have A:=λW=>ni (P:=Tryz.prog) W 72 _ (some ad) l.length c 0 0 underlying72;go_enter func106,ntmps106
  go_wp2_with (at_builtin;go_must (refine fT rfl _ _ 72 rfl w.heap.size 68 (.agg #[.int .i64 0,.int .i64 0,.bool false]) 3 24 underlying72 entry_info rfl (by decide) _ 0 [] rfl ?own (some ad) l.length c (l.flatMap lY) rfl (λh=>(by cases h)) z (uE l) ?rd (Cv l) (by unfold maxLen;omega) (by simpa using E) ?bb ?k))
  case own=>exact⟨rfl,.inr ⟨w.heap.size,0,0,#[],rfl,az _,aG.new _ _ _,az _,bq _,by simp,λj u h=>by simp at h⟩⟩
  case rd=>exact s.below ((Below.refl _ _).alloc (az _) _)
  case bb=>exact gU _ _
  intro v G b d;go_wp2;go_ret;exact⟨v,rfl,by simpa using b,((Below.refl _ _).alloc (az _) _).grown d (gU _ _) (λk D=>by cases D;exact az _)⟩
structure sG (w:World) (B:Nat) (cs:Array Value) (t:Tb):Prop where
 sz:cs.size=8
 own:∀k (h:k<8),∃v,cs[k]?=some v/\Own w B 68 3 v t[k].length (t[k].flatMap lY)
 apart:∀(j k:Nat) (v u:Value),j<k->cs[j]?=some v->cs[k]?=some u->∀g,v.ownBlock=some g->u.ownBlock≠some g
theorem sG.rd{t:Tb}(h:sG w B cs t):Gq w cs t:=
 ⟨h.sz,λk n=>by obtain⟨v,D,h2⟩:=h.own k n;obtain⟨a,c,rfl,C,A,z,s⟩:=h2.rd;exact⟨a,c,D,C,A,z,s⟩⟩
theorem sG.below{t:Tb}(h:sG w B cs t)(s:Below w.heap.size w w'):sG w' B cs t:=
 ⟨h.sz,λk n=>by obtain⟨v,z,h2⟩:=h.own k n;exact⟨v,z,h2.below s⟩,h.apart⟩
theorem sG.mono{t:Tb}(h:sG w B cs t)(s:B'<=B):sG w B' cs t:=
 ⟨h.sz,λk n=>by obtain⟨v,z,h2⟩:=h.own k n;exact⟨v,z,h2.mono s⟩,h.apart⟩
theorem sG.keep{t:Tb}(h:sG w B cs t)(z:aG w g cs' T)(A:T≠68)(s:w.grownBy w' (some g)):sG w' B cs t:=
 ⟨h.sz,λk n=>by obtain⟨v,C,h2⟩:=h.own k n; exact⟨v,C,ax h2 z A s⟩,h.apart⟩
structure UL (w:World) (B:Nat) (cs ca:Array Value) (t:Tb) (k:Nat):Prop where
 sz:ca.size=8
 old:∀i,k<=i->ca[i]?=cs[i]?
 own:∀i (h:i<8),i<k->∃v,ca[i]?=some v/\Own w B 68 3 v t[i].length (t[i].flatMap lY)
 apart:∀(j i:Nat) (v u:Value),j<i->i<k->ca[j]?=some v->ca[i]?=some u->∀g,v.ownBlock=some g->u.ownBlock≠some g
theorem UL.start{t:Tb}(h:cs.size=8):UL w B cs cs t 0:=⟨h,λ_ _=>rfl,λ_ _ h=>absurd h (fq _),λ_ _ _ _ _ h=>absurd h (fq _)⟩
theorem Ob{n:Nat}(h:Own w B e sz v n xs)(g:Nat)(s:v.ownBlock=some g):g<w.heap.size:=by
 obtain⟨cs,z⟩:=mR h g s;exact z.lt
theorem UL.step{t:Tb}(h:UL w B cs ca t k)(I:B<=w.heap.size)(G:k<8)(H:Below w.heap.size w w4)(C:Own w4 w.heap.size 68 3 v t[k].length (t[k].flatMap lY))
 (n:aG w4 b ca T) (E:T≠68) (D:w4.grownBy w5 (some b)):UL w5 B cs (ca.setIfInBounds k v) t (k+1) where
 sz:=by simp[h.sz]
 old:=λi A=>by rw[ib (by omega)];exact h.old i (by omega)
 own:=λi A l=>by
  by_cases e:i=k
  .subst e;exact⟨v,by rw[sQ (by rw[h.sz];exact A)],ax (C.mono I) n E D⟩
  obtain⟨u,F,h2⟩:=h.own i A (by omega);exact⟨u,by rw[ib (by omega)];exact F,ax (h2.below H) n E D⟩
 apart:=λj i x y d A z s g c a=>by
  have f:j≠k:=by omega
  rw[ib (by omega)]at z
  by_cases e:i=k
  .subst e;rw[sQ (by rw[h.sz];exact G)]at s;cases s;have F:=C.ge g a;obtain⟨u,h2,J⟩:=h.own j (by omega) (by omega);rw[h2]at z;cases z;have:=Ob J g c;omega
  rw[ib (by omega)]at s;exact h.apart j i x y d (by omega) z s g c a
theorem UL.fin{t:Tb}(h:UL w B cs ca t 8):sG w B ca t:=
 ⟨h.sz,λk n=>h.own k n n,λj k v u s z h2=>h.apart j k v u s (by
  rcases gu k 8 with n|n
  .exact n
  .rw[mP (by rw[h.sz];exact n)]at h2;cases h2) z h2⟩
theorem Lb(t:Tb)(cs:Array Value)(w:World)(h:Gq w cs t)(L:Gi t):Calls Tryz.prog 63 #[.agg cs] w λr w' => ∃cs',r = .returned (.agg cs')/\sG w' w.heap.size cs' t/\Below w.heap.size w w':=by
 go_enter func63,ntmps63;go_upto_region 1 with(fail);refine uT (λW=>Code.wp _ _ _ _ W) λW0 I s m X => ?_;clear X
 go_wp2_with (refine iA rfl 74 (.tmp 1) rfl w.heap.size 0 rfl cs.toList s.rd _ underlying74 tab_agg (by rw[jm,h.sz];exact tab_size) ?_)
 have H:UL W0 w.heap.size cs cs t 0:=UL.start h.sz
 go_loopw [6] (fun i wr => ∃(k:Nat) (ca:Array Value),k<=8/\i = .int .i64 k/\Below w.heap.size w wr/\aG wr w.heap.size ca 74/\aG wr (w.heap.size+1) #[.slice none 0 0,.slice none 0 0,.slice none 0 0,.slice none 0 0,.slice none 0 0,.slice none 0 0,.slice none 0 0,.slice none 0 0] 74/\UL wr w.heap.size cs ca t k) (fun i _=>8-(intOf i).toNat)
 case atStart=>exact⟨0,cs,bq _,rfl,I,s,m,H⟩
 case round=>
  obtain⟨k,ca,G,rfl,g,D,f,C⟩:=hrel;clear I s m H
  by_cases A:k<8
  .obtain⟨a,c,x,R,hn,z,U⟩:=h.at' k A;have O:=λW=>Dr A x W;have hq:decide ((k:Int)<8)=true:=by simp;omega
   have J:=(C.old k (az _)).trans x;have F:=ae J;clear J x
   go_wp2_with fail
   refine (FZ t[k] a c _ R z (U.below g) (L k A)).mono ?_;rintro e w4 ⟨v,rfl,E,o⟩;have d:=ag g o;have j:=D.ext o;have l:=f.ext o;have hr:=(j.cell k).trans F.out;have hp:=j.free k;have n:=aC w4 w.heap.size k [v];have M:=C.step g.size A o E j (by decide) n;have Y:aG (w4.setCell ⟨w.heap.size,k,none⟩ v) w.heap.size (ca.setIfInBounds k v) 74:=j.setCell k v;have u:=l.setCell_other ⟨w.heap.size,k,none⟩ v (by simp);have b:Below w.heap.size w (w4.setCell ⟨w.heap.size,k,none⟩ v):=d.grown n d.size (λk G=>by cases G;exact az _);obtain⟨xa,Z,rfl,_⟩:=E.rd;clear j l g D f C d o E n O;go_wp2;go_roundw
   case rel=>exact⟨k+1,_,by omega,by go_num,b,Y,u,M⟩
   case measure=>simp[intOf];omega
  obtain rfl:k=8:=by omega
  have K:=C.fin;have y:=K.rd.one;have p:=C.sz
  go_wp2_with (first | (refine iA rfl 74 (.tmp 1) rfl w.heap.size 0 rfl ca.toList D.rd _ underlying74 tab_agg (by rw[jm,p];exact tab_size) ?_) | (refine aA rfl _ (.tmp 2) (.tmp 15) rfl (w.heap.size+1) ca rfl rfl _ _ f (by rw[p];rfl) (by rw[p];exact tab_size) y ?_))
  intro w5 S q;have N:=K.keep f (by decide) q;have b:Below w.heap.size w w5:=g.grown q g.size oG0;go_wp2;refine bodyPost_ret (v:=.agg ca) (results_cell_row results63 _ _ (w.heap.size+1) _ ca _ _ rfl S underlying74 rfl (by rw[p];exact tab_size)) rfl ?_;exact⟨_,rfl,N,b⟩
theorem entry_size:(Tryz.prog.info? 68).map (·.size)=some 3:=by kernel_rfl
theorem TA{l:List En}(h:eB w a (l.flatMap lY))(k:Nat)(s:k<l.length):∃b off E,a=some ⟨b,off,none⟩/\l[k]?=some E/\w.cell? ⟨b,off+k*3,none⟩=some (.int .i64 E.k)/\w.cell? ⟨b,off+k*3+1,none⟩=some (.int .i64 E.n)/\w.cell? ⟨b,off+k*3+2,none⟩=some (.bool E.w):=by
 obtain⟨b,off,z,C,A,h2⟩:=GD h k s;exact⟨b,off,l[k],z,aF s,C,A,h2⟩
theorem zS(t:Tb)(cs:Array Value)(n:Int)(w:World)(h:Gq w cs t):Calls Tryz.prog 42 #[.agg cs,.int .i64 n] w λr w'=>r = .returned (.agg (jy (dK t n)))/\Below w.heap.size w w':=by
 by_cases D:0<=n/\n<64
 .obtain⟨q,r,G,J,m,N,O⟩:=yc D;have F:=zX (t:=t) G J;rw[<-m]at F;have I:=ae F;have HN:=ae m;obtain⟨M,L⟩:=D;have y:decide (n<0)=false:=by simp;omega
  have x:decide (64<=n)=false:=by simp;omega
  obtain⟨a,c,s,R,z,hb,u⟩:=h.at' q G;unfold maxLen at z;clear F m;go_enter func42,ntmps42;go_upto_region 1 with(fail);refine uT (λW=>Code.wp _ _ _ _ W) λW0 i o f l => ?_;clear l;have K:=(o.cell q).trans s;have p:=u.below i;have X : (q:Int)<8:=by omega
  by_cases C:t[q].length=8
  .obtain⟨b,off,E,rfl,H,c0,c1,c2⟩:=TA p r (by omega);have e:dK t n=E:=by rw[I.out,if_pos C,aY,H];rfl
   have A:=ae e;have Y : (r:Int)<8:=by omega
   rw[C]at K;clear C s H h e
   go_wp2_with (refine aA rfl _ (.tmp 4) (.tmp 27) rfl (w.heap.size+1) (jy E) rfl rfl _ _ f rfl entry_size (jB _) ?_)
   all_goals
    intro w5 j g;have d:Below w.heap.size w w5:=i.grown g i.size oG0;go_wp2;refine bodyPost_ret (v:=.agg (jy E)) (results_cell_row results42 _ _ (w.heap.size+1) _ _ _ _ rfl j underlying68 rfl entry_size) rfl ?_;exact⟨by rw[A.out],d⟩
  have U:((t[q].length:Int) != 8)=true:=by rw[bne_iff_ne];omega
  have e:dK t n=zEn:=by rw[I.out,if_neg C]
  have A:=ae e;clear e
  go_wp2_with (refine aA rfl _ (.tmp 4) (.tmp 19) rfl (w.heap.size+1) (jy zEn) rfl rfl _ _ f rfl entry_size (jB _) ?_)
  all_goals
   intro w5 j g;have d:Below w.heap.size w w5:=i.grown g i.size oG0;go_wp2;refine bodyPost_ret (v:=.agg (jy zEn)) (results_cell_row results42 _ _ (w.heap.size+1) _ _ _ _ rfl j underlying68 rfl entry_size) rfl ?_;exact⟨by rw[A.out],d⟩
 have e:dK t n=zEn:=sZ (by omega);have A:=ae e;have S : n<0\/64<=n:=by omega
 clear e D;go_enter func42,ntmps42;go_upto_region 1 with(fail);refine uT (λW=>Code.wp _ _ _ _ W) λW0 i o f l => ?_;clear l
 by_cases y:n<0
 .skip
  go_wp2_with (refine aA rfl _ (.tmp 4) (.tmp 19) rfl (w.heap.size+1) (jy zEn) rfl rfl _ _ f rfl entry_size (jB _) ?_)
  all_goals
   intro w5 j g;have d:Below w.heap.size w w5:=i.grown g i.size oG0;go_wp2;refine bodyPost_ret (v:=.agg (jy zEn)) (results_cell_row results42 _ _ (w.heap.size+1) _ _ _ _ rfl j underlying68 rfl entry_size) rfl ?_;exact⟨by rw[A.out],d⟩
 have x:64<=n:=by omega
 have Z : decide (n<0)=false:=by simp;omega
 go_wp2_with (refine aA rfl _ (.tmp 4) (.tmp 19) rfl (w.heap.size+1) (jy zEn) rfl rfl _ _ f rfl entry_size (jB _) ?_)
 all_goals
  intro w5 j g;have d:Below w.heap.size w w5:=i.grown g i.size oG0;go_wp2;refine bodyPost_ret (v:=.agg (jy zEn)) (results_cell_row results42 _ _ (w.heap.size+1) _ _ _ _ rfl j underlying68 rfl entry_size) rfl ?_;exact⟨by rw[A.out],d⟩
theorem slent_size:(Tryz.prog.info? 72).map (·.size)=some 1:=by kernel_rfl
theorem BD(e:En):∀u∈lY e,u.oneCell' = true:=by
 intro u h;have:=jB e;rw[<-mO,fA]at this;exact this u h
theorem UI(e:En)(w:World):Calls Tryz.prog 177 #[.agg #[.int .i64 e.k,.int .i64 e.n,.bool e.w]] w λr w'=>r = .returned (.bool (qi e))/\Below w.heap.size w w':=by
 go_enter func177,ntmps177;go_wp2;go_ret;exact⟨bX (by unfold qi;rw[nC];simp),(Below.refl _ _).alloc (az _) _⟩
theorem Rk(l:List En)(a:Option Addr)(c:Nat)(w:World)(z:eB w a (l.flatMap lY))(D:l.length<=9223372036854775807) :
  Calls Tryz.prog 202 #[.slice a l.length c,.func (.func 177) #[] #[]] w λe w'=>e = .returned (.int .i64 (idx qi l))/\Below w.heap.size w w':=by
 go_enter func202,ntmps202;go_wp2
 go_loopw [8] (fun i wr => ∃k:Nat,k<=l.length/\i = .int .i64 k/\Below w.heap.size w wr/\∀i (h:i<l.length),i<k->qi l[i]=false) (fun i _=>l.length-(intOf i).toNat)
 case atStart=>exact⟨0,bq _,rfl,Below.refl _ _,λi _ h=>absurd h (fq _)⟩
 case round=>
  obtain⟨k,E,rfl,g,m⟩:=hrel;have A:=ae m;clear m
  by_cases s:k<l.length
  .obtain⟨b,off,rfl,c0,G,F⟩:=GD (z.below g) k s
   go_wp2_with fail
   refine(UI l[k] _).mono ?_;rintro e C ⟨rfl,n⟩;have f:=ag g n;clear n;cases hpk:qi l[k]
   .have j:=ae hpk;clear hpk;go_wp2;go_roundw
    case rel=>exact⟨k+1,by omega,by go_num,f,mM A.out s j.out⟩
    case measure=>simp[intOf];omega
   have d:=ae (uJ qi l k s A.out hpk);clear hpk;go_wp2;go_ret;exact⟨aX d.out.symm,f⟩
  have d:=ae (mr qi l λi h=>A.out i h (by omega));go_wp2;go_ret;exact⟨aX d.out.symm,g⟩
theorem NB(l:List En)(a:Option Addr)(c:Nat)(w:World)(h:eB w a (l.flatMap lY))(n:l.length<=9223372036854775807) :
  Calls Tryz.prog 176 #[.slice a l.length c,.func (.func 177) #[] #[]] w λe w'=>e = .returned (.bool (l.any qi))/\Below w.heap.size w w':=by
 go_enter func176,ntmps176
 go_wp2_with fail
 refine(Rk l a c _ h n).mono ?_;rintro e s ⟨rfl,b⟩;go_wp2;go_ret;exact⟨bX (pK _ _),b⟩
theorem Cr(w:World)(B:Nat):sG w B #[.slice none 0 0,.slice none 0 0,.slice none 0 0,.slice none 0 0,.slice none 0 0,.slice none 0 0,.slice none 0 0,.slice none 0 0] zTb where
 sz:=rfl
 own:=λk n=>by
  refine⟨.slice none 0 0,?_,by simpa[zTb]using Own.nil w B 68 3⟩
  match k,n with
  | 0,_=>rfl
  | 1,_=>rfl
  | 2,_=>rfl
  | 3,_=>rfl
  | 4,_=>rfl
  | 5,_=>rfl
  | 6,_=>rfl
  | 7,_=>rfl
 apart:=λj k v u s h h2 g z=>by
  have:v = .slice none 0 0:=by
   match j with
   | 0=>cases h;rfl
   | 1=>cases h;rfl
   | 2=>cases h;rfl
   | 3=>cases h;rfl
   | 4=>cases h;rfl
   | 5=>cases h;rfl
   | 6=>cases h;rfl
   | 7=>cases h;rfl
   | j+8=>cases h
  subst this;cases z
theorem sG.put{t:Tb}(h:sG w B cs t)(C:q<8){l:List En}(E:Own w B 68 3 v l.length (l.flatMap lY))
 (n:∀g,v.ownBlock=some g->∀j u,j≠q->cs[j]?=some u->u.ownBlock≠some g):sG w B (cs.setIfInBounds q v) (t.set q l) where
 sz:=by simp[h.sz]
 own:=λk D=>by
  by_cases e:k=q
  .subst e;exact⟨v,by rw[sQ (by rw[h.sz];exact D)],by simpa using E⟩
  obtain⟨u,F,h2⟩:=h.own k D;exact⟨u,by rw[ib (λs=>e s.symm)];exact F,by rw[yw C D (λs=>e s.symm)];exact h2⟩
 apart:=λj k x y c A z g b a=>by
  by_cases e:j=q
  .subst e;rw[sQ (by rw[h.sz];exact C)]at A;cases A;rw[ib (by omega)]at z;exact n g b k y (by omega) z a
  rw[ib (λs=>e s.symm)]at A
  by_cases s:k=q
  .subst s;rw[sQ (by rw[h.sz];exact C)]at z;cases z;exact n g a j x e A b
  rw[ib (λG=>s G.symm)]at z;exact h.apart j k x y c A z g b a
theorem sG.wr{t:Tb}(h:sG w B cs t)(C:q<8)(E:r<t[q].length) :
  ∃g off s cur,cs[q]?=some (.slice (some ⟨g,off,none⟩) t[q].length s)/\B<=g/\aG w g cur 68/\off+r*3+3<=cur.size /\
   (∀j y,(lY (t[q][r]))[j]?=some y->w.cell? ⟨g,off+r*3+j,none⟩=some y) /\
   ∀w' x,aG w' g (bJ cur (off+r*3) (lY x)) 68->w.grownBy w' (some g)->sG w' B cs (t.set q (t[q].set r x)):=by
 obtain⟨v,z,h2⟩:=h.own q C;obtain⟨g,off,s,cur,rfl,H,G,d,a,b⟩:=h2.put gz (by decide) r E;refine⟨g,off,s,cur,z,H,G,d,a,λw' x i f=>⟨h.sz,λk D => ?_,h.apart⟩⟩
 by_cases e:k=q
 .subst e;exact⟨_,z,by simpa using b w' x i⟩
 obtain⟨u,A,I⟩:=h.own k D;refine⟨u,A,?_⟩;rw[yw C D (λJ=>e J.symm)];refine I.grown f λK c F => ?_;cases F;rcases wC e with n|n
 .exact h.apart k q _ _ n A z g c rfl
 .exact h.apart q k _ _ n z A g rfl c
theorem Su(t:Tb)(cs:Array Value)(n:Int)(e:En)(w:World)(h:Gq w cs t)(hz:Gi t):Calls Tryz.prog 137 #[.agg cs,.int .i64 n,.agg (jy e)] w λr w' => ∃cs',r = .returned (.tuple #[.agg cs',.int .i64 (setE t n e)])/\sG w' w.heap.size cs' (setT t n e)/\Below w.heap.size w w':=by
 go_enter func137,ntmps137;go_upto_region 1 with(fail);refine Nb (λW=>Code.wp _ _ _ _ W) λW0 kA kr kL hY hT => ?_;clear hT
 go_wp2_with (refine iA rfl 74 (.tmp 3) rfl w.heap.size 0 rfl cs.toList kr.rd _ underlying74 tab_agg (by rw[jm,h.sz];exact tab_size) ?_)
 refine(FT t cs _ (h.below kA)).mono ?_;rintro r w1 ⟨rfl,kb⟩;have c:=ag kA kb;have hx:=kr.ext kb;have he:=kL.ext kb;have o:=hY.ext kb;clear kA kr kL hY kb
 by_cases E:dB t=0
 .have H0:=ae E;rw[E];clear E
  by_cases hn:0<=n/\n<64
  .obtain⟨q,r,D,hr,kF,ge,kW⟩:=yc hn;have HN:=ae kF;clear kF;obtain⟨n0,n1⟩:=hn;have kw:decide (n<0)=false:=by simp;omega
   have kv:decide (64<=n)=false:=by simp;omega
   have k9 : (q:Int)<8:=by omega
   have kS : (r:Int)<8:=by omega
   have kV:n.tmod 8=(r:Int):=by rw[Int.tmod_eq_emod_of_nonneg n0];exact kW
   go_wp2_with (refine iA rfl 68 (.tmp 5) rfl (w.heap.size+1) 0 rfl (jy e).toList he.rd _ underlying68 rfl entry_size ?_)
   refine(Gu e _).mono ?_;rintro x w2 ⟨rfl,ka⟩;have i:=ag c ka;have kC:=hx.ext ka;have kK:=he.ext ka;have hl:=o.ext ka;clear c hx he o ka
   by_cases K:eF e=0
   .have hT:setE t n e=0:=by unfold setE;rw[if_neg (by rw[H0.out];simp),if_neg (by omega),K]
    have HS:=ae hT;have hJ:=ae (Pd hT D hr HN.out);rw[K];clear K hT
    go_wp2_with (refine iA rfl 74 (.tmp 3) rfl w.heap.size 0 rfl cs.toList kC.rd _ underlying74 tab_agg (by rw[jm,h.sz];exact tab_size) ?_)
    refine(Lb t cs _ (h.below i) hz).mono ?_;rintro x J ⟨ca,rfl,kj,kh⟩;have f:=ag i kh;have kJ:=kK.ext kh;have hi:=hl.ext kh;have kk:=kj.rd.one;have hR:=kj.sz;have ko:=kj.mono i.size;clear i kC kK hl kh kj
    go_wp2_with (refine aA rfl _ (.tmp 10) (.tmp 32) rfl J.heap.size ca rfl rfl _ _ (aG.new _ _ _) (by rw[hR];rfl) (by rw[hR];exact tab_size) kk ?_)
    intro w4 U hy;have S:=(ko.below ((Below.refl _ _).alloc (az _) _)).keep (aG.new _ _ _) (by decide) hy;have ke:=bY (kJ.alloc _) (aG.new _ _ _) (by decide) hy;have hh:aG w4 (w.heap.size+2) _ _:=(hi.alloc _).grown hy (λe=>by have:=aM e;have:=hi.lt;omega);have z:Below w.heap.size w w4:=(f.alloc f.size _).grown hy (dI f.size _) (λk C=>by cases C;exact f.size);have gc:w.heap.size+2<J.heap.size:=hi.lt;have gd:J.heap.size<w4.heap.size:=U.lt;clear kJ hi hy ko kk;have h6:=qc (mQ H0.out q D);obtain⟨v,hv,h5⟩:=S.own q D;obtain⟨av,cv,rfl,k4,k3,_⟩:=h5.rd;have HV:=ae hv;have kg:=(U.cell q).trans hv;rcases h6 with E|h8
    case' inl=>
     have H00:=ae E;rw[E]at kg;clear hv h5 E
     go_wp2_with (refine GX _ rfl (.const (.int .i64 8)) (.const (.int .i64 8)) 72 rfl lY 68 _ 3 24 zEn gz (by decide) underlying72 entry_info rfl .i64 .i64 8 8 8 rfl rfl rfl rfl (by omega) (by unfold maxLen;omega) ?_)
     intro w5 kE b;have hQ:=U.grown b (by simp);have kI:=ke.grown b (by simp);have hX:=hh.grown b (by simp);have kO:sG w5 w.heap.size ca t:=S.below (lc b);have a:=ag z (lc b);have km:∀g,(Value.slice (some ⟨w4.heap.size,0,none⟩) 8 8).ownBlock=some g->∀j u,j≠q->ca[j]?=some u->u.ownBlock≠some g:=by
      intro g hg j u hj L kU;cases hg;obtain⟨v',kD,kT⟩:=S.own j (by
       rcases gu j 8 with C|C
       .exact C
       .rw[mP (by rw[hR];exact C)]at L;cases L)
      rw[L]at kD;cases kD;exact absurd (Ob kT _ kU) (Nat.lt_irrefl _)
     go_wp2_with (refine aB rfl _ (.tmp 43) (.tmp 42) rfl J.heap.size q _ [.slice (some ⟨w4.heap.size,0,none⟩) 8 8] rfl rfl rfl _ _ hQ (by rw[hR];exact D) slent_size (λu L=>by cases bB.1 L;rfl) ?_)
     intro w6 H R;rw[Pw.putAt_one]at H;have kl : Own w5 w.heap.size 68 3 (.slice (some ⟨w4.heap.size,0,none⟩) 8 8) (List.replicate 8 zEn).length ((List.replicate 8 zEn).flatMap lY):=kE.mono z.size;have F:=(kO.keep hQ (by decide) R).put D (ax kl hQ (by decide) R) km;have kz:=bY kI hQ (by decide) R;have hD:aG w6 (w.heap.size+2) _ _:=hX.grown R (λe=>by have:=aM e;omega);have hI:=a.grown R a.size (λk C=>by cases C;exact f.size);have kf:(ca.setIfInBounds q (Value.slice (some ⟨w4.heap.size,0,none⟩) 8 8))[q]?=some (.slice (some ⟨w4.heap.size,0,none⟩) 8 8):=sQ (by rw[hR];exact D);have HH:Hid (∀l,(t.set q (List.replicate 8 zEn)).set q l=t.set q l):=ae (λl=>by simp);have Y:Hid ((t.set q (List.replicate 8 zEn))[q]=(if t[q].length=0 then List.replicate 8 zEn else t[q])):=ae (by rw[if_pos H00.out];simp);have A:Hid ((t.set q (List.replicate 8 zEn))[q].length=8):=ae (by simp);go_upto_region 13 with(fail);generalize hT6:t.set q (List.replicate 8 zEn)=t6 at HH Y A F;generalize hC6:ca.setIfInBounds q (Value.slice (some ⟨w4.heap.size,0,none⟩) 8 8)=c6 at kf F H;have kR:=H.lt;clear hT6 hC6 hQ kI hX kO a b R km kE kl U ke hh S z kg kw kv
    case' inr=>
     have H:=U;have kz:=ke;have hD:=hh;have F:=S;have hI:=z;have kf:=HV.out;have kM:=kg;rw[h8]at kM;have Y:Hid (t[q]=(if t[q].length=0 then List.replicate 8 zEn else t[q])):=ae (by rw[if_neg (by omega)]);have A:Hid (t[q].length=8):=ae h8;have gb:((8:Int)==0)=false:=by decide
     clear h8 hv h5 kg;go_upto_region 13 with(fail);generalize hT6:t[q]=tq at Y A;obtain⟨t6,Z⟩:∃t6,t6=t:=⟨_,rfl⟩;have HH:Hid (∀l:List En,t6.set q l D=t.set q l D):=ae (λl=>by rw[Z]);have Y:Hid (t6[q]=(if t[q].length=0 then List.replicate 8 zEn else t[q])):=ae (by rw[Z,hT6];exact Y.out);have A:Hid (t6[q].length=8):=ae (by rw[Z,hT6];exact A.out);have F:sG w4 w.heap.size ca t6:=by rw[Z];exact F
     have kR:=H.lt;obtain⟨c6,hC6⟩:∃c6,c6=ca:=⟨_,rfl⟩;rw[<-hC6]at kf F H;clear hT6 Z hC6 U ke hh S z kM kw kv
    all_goals
     obtain⟨g,off,N,cur,kx,k0,kY,k6,_,hJ⟩:=F.wr D (r:=r) (by rw[A.out];exact hr);rw[A.out]at kx;clear kf;have I:=ae kx;clear kx;refine aV 7 [_,_,_,_,_,_,.v (.pointer (some ⟨g,off+r*3,none⟩))] (Gk rfl (Gk rfl (Gc (.slice (some ⟨g,off,none⟩) 8 N) (λW hb=>by simp[(((H.ext hb).cell q).trans I.out),underlying72]) rfl rfl rfl rfl (Gk rfl (Gb (.int .i64 r) (by simp[go_sem,kV]) rfl rfl rfl rfl rfl (Gr (.agg (jy e)) (λρ y W hb kZ=>(eD rfl (aL rfl kZ) (kz.ext hb) underlying68 rfl entry_size)) rfl rfl (ah ?_ (aI)))))))) (λ_=>rfl) rfl ?_
     .intro ρ y W hw hn hb hd;have k2:=hw 46 2 rfl;have h2:y 2=_:=hd 2 rfl;have k1:=hw 48 4 rfl;have h4:y 4=_:=hd 4 rfl;refine ak (.pointer (some ⟨g,off+r*3,none⟩)) (aj rfl) (by simp[execOp,go_sem,k2,h2,k1,h4,underlying72,kS]) rfl
     intro y WA hA _;have kq:=H.ext hA;have hV:=hD.ext hA;have hH:=ag hI hA;have k8:J.heap.size<WA.heap.size:=kq.lt;clear kY hJ;obtain⟨g2,off2,cap2,cur2,kn,k7,hL,ky,_,hS⟩:=(F.below hA).wr D (r:=r) (by rw[A.out];exact hr);have kP:=aM (I.out.symm.trans kn);simp only[mK,jA,ui,and_true]at kP;obtain⟨⟨rfl,rfl⟩,kG,rfl⟩:=kP;clear kn kG H hD hI hA
     go_wp2_with (refine aB rfl _ (.tmp 50) (.tmp 49) rfl g (off+r*3) _ (lY e) rfl rfl rfl _ _ hL ky entry_size (BD e) ?_)
     intro w8 kN ht;have ki:=hS w8 e kN ht;have kp:=bY kq hL (by decide) ht;have hU:=bY hV hL (by decide) ht;have h7:=hH.grown ht hH.size (λk C=>by cases C;exact k0);have kX:=(kp.cell q).trans I.out;have hC:Hid (t6.set q (t6[q].set r e)=t.set q (t6[q].set r e)):=ae (HH.out _);have h6:Hid ((t6[q].set r e).length=8):=ae (by rw[bL];exact A.out);have hZ:eB w8 (some ⟨g,off,none⟩) ((t6[q].set r e).flatMap lY):=by obtain⟨v,K,h2⟩:=ki.own q D;obtain rfl:=aM (I.out.symm.trans K);obtain⟨a',c',h3,_,_,_,h4⟩:=h2.rd;simp only[mK]at h3;obtain⟨rfl,_,_⟩:=h3;simpa using h4
     have hB:Hid (setH t[q] r e=if(t6[q].set r e).any qi then t6[q].set r e else[]):=ae (by rw[Y.out];rfl);clear kq hV hH hL kN ht hS F kz;generalize hl8e:t6[q].set r e=l8 at hC h6 hZ hB ki;clear hl8e;have HC:∀W,eB W (some ⟨g,off,none⟩) (l8.flatMap lY)->Calls Tryz.prog 176 #[.slice (some ⟨g,off,none⟩) 8 N,.func (.func 177) #[] #[]] W λe w'=>e = .returned (.bool (l8.any qi))/\Below W.heap.size W w':=by intro W hW;have:=NB l8 (some ⟨g,off,none⟩) N W hW (by rw[h6.out];decide);rw[h6.out]at this;exact this
     have HC':=ae HC;clear HC
     go_wp2_with fail
     refine(HC'.out _ hZ).mono ?_;rintro x w9 ⟨rfl,h9⟩;have hP:=kp.ext h9;have hf:=hU.ext h9;have s:=ag h7 h9;have kd:=ki.below h9;have kQ:=kd.sz;clear kp hU h7 ki hZ h9 kX;cases C:l8.any qi
     .have kH:Hid (t.set q (setH t[q] r e)=t.set q []):=ae (by rw[hB.out,C];rfl);have ku:∀u∈[Value.slice none 0 0],u.oneCell' = true:=λu L=>by cases bB.1 L;rfl
      clear hB
      go_wp2_with (refine aB rfl _ (.tmp 57) (.const (.slice none 0 0)) rfl J.heap.size q _ [.slice none 0 0] rfl rfl rfl _ _ hP (by rw[kQ];exact D) slent_size ku ?_)
      intro wa X hK;rw[Pw.putAt_one]at X;have G:=(kd.keep hP (by decide) hK).put D (v:=.slice none 0 0) (l:=[]) (Own.nil _ _ _ _) (λg hg=>by cases hg);have m:aG wa (w.heap.size+2) _ _:=hf.grown hK (λe=>by have:=aM e;omega);have p:=s.grown hK s.size (λk C=>by cases C;exact f.size);have ks:Hid ((t6.set q l8).set q []=t.set q (setH t[q] r e)):=ae (by rw[hC.out,kH.out];simp);clear hP hf s kd hK;generalize hCa:c6.setIfInBounds q (Value.slice none 0 0)=ca2 at G X;clear hCa;have hF:=G.rd.one;have d:=G.sz
      go_wp2_with (first | (refine iA rfl 74 (.tmp 10) rfl J.heap.size 0 rfl ca2.toList X.rd _ underlying74 tab_agg (by rw[jm,d];exact tab_size) ?_) | (refine aA rfl _ (.tmp 6) (.tmp 58) rfl (w.heap.size+2) ca2 rfl rfl _ _ m (by rw[d];rfl) (by rw[d];exact tab_size) hF ?_))
      intro wb kt hs;have kB:=G.keep m (by decide) hs;have hG:=p.grown hs p.size oG0;go_wp2;refine bodyPost_ret (v:=.tuple #[.agg ca2,.int .i64 0]) (lg results137 _ _ (w.heap.size+2) _ _ _ _ rfl rfl kt underlying74 rfl (by rw[d];exact tab_size)) rfl ?_;exact⟨_,by rw[HS.out],by rw[hJ.out,<-ks.out];exact kB,hG⟩
     have ks:Hid (t6.set q l8=t.set q (setH t[q] r e)):=ae (by rw[hC.out,hB.out,C];rfl);have G:=kd;have X:=hP;have m:=hf;have p:=s;clear hP hf s kd hB;generalize hCa:c6=ca2 at G X;clear hCa;have hF:=G.rd.one;have d:=G.sz
     go_wp2_with (first | (refine iA rfl 74 (.tmp 10) rfl J.heap.size 0 rfl ca2.toList X.rd _ underlying74 tab_agg (by rw[jm,d];exact tab_size) ?_) | (refine aA rfl _ (.tmp 6) (.tmp 58) rfl (w.heap.size+2) ca2 rfl rfl _ _ m (by rw[d];rfl) (by rw[d];exact tab_size) hF ?_))
     intro wb kt hs;have kB:=G.keep m (by decide) hs;have hG:=p.grown hs p.size oG0;go_wp2;refine bodyPost_ret (v:=.tuple #[.agg ca2,.int .i64 0]) (lg results137 _ _ (w.heap.size+2) _ _ _ _ rfl rfl kt underlying74 rfl (by rw[d];exact tab_size)) rfl ?_;exact⟨_,by rw[HS.out],by rw[hJ.out,<-ks.out];exact kB,hG⟩
   have O:Hid (setE t n e=eF e/\eF e≠0):=ae ⟨by unfold setE;rw[if_neg (by rw[H0.out];simp),if_neg (by omega)],K⟩;have gf : (eF e != 0)=true:=by simpa using K
   have c:=i;have o:=hl;clear K i hl
   go_wp2_with (refine aA rfl _ (.tmp 6) (.tmp 29) rfl (w.heap.size+2) #[.slice none 0 0,.slice none 0 0,.slice none 0 0,.slice none 0 0,.slice none 0 0,.slice none 0 0,.slice none 0 0,.slice none 0 0] rfl rfl _ _ o rfl tab_size (by simp[Value.oneCell']) ?_)
   all_goals
    intro w5 M b;have a:Below w.heap.size w w5:=c.grown b c.size oG0;go_wp2;refine bodyPost_ret (v:=.tuple #[.agg #[.slice none 0 0,.slice none 0 0,.slice none 0 0,.slice none 0 0,.slice none 0 0,.slice none 0 0,.slice none 0 0,.slice none 0 0],.int .i64 (eF e)]) (lg results137 _ _ (w.heap.size+2) _ _ _ _ rfl rfl M underlying74 rfl tab_size) rfl ?_;have q:=O.out;exact⟨_,by rw[q.1],by rw[xL (by rw[q.1];exact q.2)];exact Cr _ _,a⟩
  have O:Hid (setE t n e=3/\(3:Int)≠0):=ae ⟨by unfold setE;rw[if_neg (by rw[H0.out];simp),if_pos (by omega)],by decide⟩;have ga : n<0\/64<=n:=by omega
  clear hn
  by_cases kw:n<0
  .skip
   go_wp2_with (refine aA rfl _ (.tmp 6) (.tmp 24) rfl (w.heap.size+2) #[.slice none 0 0,.slice none 0 0,.slice none 0 0,.slice none 0 0,.slice none 0 0,.slice none 0 0,.slice none 0 0,.slice none 0 0] rfl rfl _ _ o rfl tab_size (by simp[Value.oneCell']) ?_)
   all_goals
    intro w5 M b;have a:Below w.heap.size w w5:=c.grown b c.size oG0;go_wp2;refine bodyPost_ret (v:=.tuple #[.agg #[.slice none 0 0,.slice none 0 0,.slice none 0 0,.slice none 0 0,.slice none 0 0,.slice none 0 0,.slice none 0 0,.slice none 0 0],.int .i64 (3)]) (lg results137 _ _ (w.heap.size+2) _ _ _ _ rfl rfl M underlying74 rfl tab_size) rfl ?_;have q:=O.out;exact⟨_,by rw[q.1],by rw[xL (by rw[q.1];exact q.2)];exact Cr _ _,a⟩
  have kv:64<=n:=by omega
  have k5 : decide (n<0)=false:=by simp;omega
  go_wp2_with (refine aA rfl _ (.tmp 6) (.tmp 24) rfl (w.heap.size+2) #[.slice none 0 0,.slice none 0 0,.slice none 0 0,.slice none 0 0,.slice none 0 0,.slice none 0 0,.slice none 0 0,.slice none 0 0] rfl rfl _ _ o rfl tab_size (by simp[Value.oneCell']) ?_)
  all_goals
   intro w5 M b;have a:Below w.heap.size w w5:=c.grown b c.size oG0;go_wp2;refine bodyPost_ret (v:=.tuple #[.agg #[.slice none 0 0,.slice none 0 0,.slice none 0 0,.slice none 0 0,.slice none 0 0,.slice none 0 0,.slice none 0 0,.slice none 0 0],.int .i64 (3)]) (lg results137 _ _ (w.heap.size+2) _ _ _ _ rfl rfl M underlying74 rfl tab_size) rfl ?_;have q:=O.out;exact⟨_,by rw[q.1],by rw[xL (by rw[q.1];exact q.2)];exact Cr _ _,a⟩
 have O:Hid (setE t n e=dB t/\dB t≠0):=ae ⟨by unfold setE;rw[if_pos E],E⟩;have gg : (dB t != 0)=true:=by simpa using E
 clear E
 go_wp2_with (refine aA rfl _ (.tmp 6) (.tmp 16) rfl (w.heap.size+2) #[.slice none 0 0,.slice none 0 0,.slice none 0 0,.slice none 0 0,.slice none 0 0,.slice none 0 0,.slice none 0 0,.slice none 0 0] rfl rfl _ _ o rfl tab_size (by simp[Value.oneCell']) ?_)
 all_goals
  intro w5 M b;have a:Below w.heap.size w w5:=c.grown b c.size oG0;go_wp2;refine bodyPost_ret (v:=.tuple #[.agg #[.slice none 0 0,.slice none 0 0,.slice none 0 0,.slice none 0 0,.slice none 0 0,.slice none 0 0,.slice none 0 0,.slice none 0 0],.int .i64 (dB t)]) (lg results137 _ _ (w.heap.size+2) _ _ _ _ rfl rfl M underlying74 rfl tab_size) rfl ?_;have q:=O.out;exact⟨_,by rw[q.1],by rw[xL (by rw[q.1];exact q.2)];exact Cr _ _,a⟩
theorem xk(t:Tb)(cs:Array Value)(n:Int)(w:World)(h:Gq w cs t):Calls Tryz.prog 42 #[.agg cs,.int .i64 n] w λr w'=>r = .returned (.agg #[.int .i64 (dK t n).k,.int .i64 (dK t n).n,.bool (dK t n).w])/\Below w.heap.size w w':=zS t cs n w h
theorem XF(E:En)(W:World):(Instr.field 68 (.agg #[.int .i64 E.k,.int .i64 E.n,.bool E.w]) 0).run Tryz.prog W = .ok (.int .i64 E.k) W:=by
 simp[Instr.field,go_sem];rfl
theorem zq(t:Tb)(cs:Array Value)(w:World)(h:Gq w cs t):Calls Tryz.prog 67 #[.agg cs] w λr w' => ∃v,r = .returned v/\Own w' w.heap.size 3 1 v (aT t).length ((aT t).map gB)/\Below w.heap.size w w':=by
 go_enter func67,ntmps67;go_upto_region 1 with(fail);refine iG (λW=>Code.wp _ _ _ _ W) λW0 o n q => ?_;clear q;go_wp2;have c:Own W0 w.heap.size 3 1 (.slice none 0 0) (kC t 0).length ((kC t 0).map gB):=Own.nil _ _ _ _
 go_loopw [5,3] (fun i v wr => ∃k:Nat,k<=64/\i = .int .i64 k/\Below w.heap.size w wr/\aG wr w.heap.size cs 74/\Own wr w.heap.size 3 1 v (kC t k).length ((kC t k).map gB)) (fun i _ _=>64-(intOf i).toNat)
 case atStart=>exact⟨0,bq _,rfl,o,n,c⟩
 case round=>
  obtain⟨k,D,rfl,e,z,d⟩:=hrel;clear o n c;have u:=tK t k
  by_cases F:k<64
  .have H:decide ((k:Int)<64)=true:=by simp;omega
   go_wp2_with (refine iA rfl 74 (.tmp 1) rfl w.heap.size 0 rfl cs.toList z.rd _ underlying74 tab_agg (by rw[jm,h.sz];exact tab_size) ?_)
   refine(xk t cs k _ (h.below e)).mono ?_;rintro r E ⟨rfl,f⟩;have a:=ag e f;have m:=z.ext f;have x:=XF (dK t k);have b:=d.below f;clear f e z d;cases hk2:qi (dK t k)
   .have s:((dK t k).k != 0)=false:=by simpa[qi]using hk2
    have A:=ae (Ni hk2);clear hk2;go_wp2;go_roundw
    case rel=>exact⟨k+1,by omega,by go_num,a,m,by rw[A.out];exact b⟩
    case measure=>simp[intOf];omega
   have s:((dK t k).k != 0)=true:=by simpa[qi]using hk2
   have A:=ae (LD hk2);clear hk2
   go_wp2_with (at_builtin;go_must (refine fT rfl _ _ 33 rfl w.heap.size 3 (.int .i64 0) 1 8 underlying33 int_info rfl (by decide) _ _ _ rfl (b.alloc _) (some ⟨E.heap.size,0,none⟩) 1 1 [gB k] rfl (λh=>(by cases h)) (az _) rfl (eB.one _ _ _) (IM _ _) (by unfold maxLen;omega) (by omega) ?bb ?k))
   case bb=>exact dI a.size _
   intro G C j g;have l:Below w.heap.size w C:=(a.alloc a.size _).grown g (dI a.size _) (λk D=>(b.ge k D));have p:aG C w.heap.size cs 74:=lw (m.alloc _) (b.alloc _) (by decide) g;go_wp2;go_roundw
   case rel=>exact⟨k+1,by omega,by go_num,l,p,by rw[A.out,jJ,jk];exact j⟩
   case measure=>simp[intOf];omega
  obtain rfl:k=64:=by omega
  go_wp2;go_ret;exact⟨_,rfl,d,e⟩
theorem one_int1:∀x:Int,([gB x]:List Value).length=1:=λ_=>rfl
def RI(B:Nat)(w0:World)(c1 c2 c3:Value)(p:Int->Bool):Prop:=∀(n:Int) (W:World),Below B w0 W->B<=W.heap.size->Calls Tryz.prog 217 #[.int .i64 n,c1,c2,c3] W λe w'=>e = .returned (.bool (p n))/\Below W.heap.size W w'
theorem zy(h:Below B w0 w)(s:B<=w.heap.size)(n:Below w.heap.size w w'):Below B w0 w':=h.trans (n.mono s)
theorem MB(l:List Int)(a:Option Addr)(c:Nat)(w:World)(A:eB w a (l.map gB))(J:l.length<=9223372036854775807)(B:Nat)(w0:World)(G F E:Value)(p:Int->Bool)(H:RI B w0 G F E p)(D:Below B w0 w)(z:B<=w.heap.size) :
  Calls Tryz.prog 221 #[.slice a l.length c,.func (.func 217) #[] #[G,F,E]] w λe w'=>e = .returned (.int .i64 (idx p l))/\Below w.heap.size w w':=by
 go_enter func221,ntmps221;go_wp2
 go_loopw [8] (fun i wr => ∃k:Nat,k<=l.length/\i = .int .i64 k/\Below w.heap.size w wr/\∀i (h:i<l.length),i<k->p l[i]=false) (fun i _=>l.length-(intOf i).toNat)
 case atStart=>exact⟨0,bq _,rfl,Below.refl _ _,λi _ h=>absurd h (fq _)⟩
 case round=>
  obtain⟨k,K,rfl,f,m⟩:=hrel;have C:=ae m;clear m
  by_cases s:k<l.length
  .obtain⟨b,off,rfl,c0⟩:=kD (A.below f) k s
   go_wp2_with fail
   refine(H l[k] _ (zy D z f) (bi z f.size)).mono ?_;rintro e I ⟨rfl,n⟩;have g:=ag f n;clear n;cases hpk:p l[k]
   .have j:=ae hpk;clear hpk;go_wp2;go_roundw
    case rel=>exact⟨k+1,by omega,by go_num,g,mM C.out s j.out⟩
    case measure=>simp[intOf];omega
   have d:=ae (uJ p l k s C.out hpk);clear hpk;go_wp2;go_ret;exact⟨aX d.out.symm,g⟩
  have d:=ae (mr p l λi h=>C.out i h (by omega));go_wp2;go_ret;exact⟨aX d.out.symm,f⟩
theorem Oc(l:List Int)(v:Value)(B:Nat)(w0 w:World)(c1 c2 c3:Value)(p:Int->Bool)(X:Own w B 3 1 v l.length (l.map gB))(hl:l.length<=100000)(hT:RI B w0 c1 c2 c3 p)(M:Below B w0 w)(F:B<=w.heap.size) :
  Calls Tryz.prog 216 #[v,.func (.func 217) #[] #[c1,c2,c3]] w λe w' => ∃v',e = .returned v'/\Own w' B 3 1 v' (l.filter (λx => !p x)).length ((l.filter (λx => !p x)).map gB)/\Below B w w':=by
 obtain⟨a,c,rfl,hK,hm,hb,hr⟩:=X.rd;unfold maxLen at hm;go_enter func216,ntmps216
 go_wp2_with fail
 refine(MB l a c _ hr (by omega) B w0 c1 c2 c3 p hT M F).mono ?_;rintro e w1 ⟨rfl,s⟩;have u:=X.below s;have W:Below B w w1:=s.mono F;have hf:B<=w1.heap.size:=bi F s.size;clear X;rcases BS p l with⟨J,D⟩|⟨U,C,J,K,H⟩
 .have I:=ae (CU.all D);rw[J];clear D J s;go_wp2;go_ret;rw[I.out];exact⟨_,rfl,u,W⟩
 have hx:=ae (CU.start C K H);rw[J];clear K H J s;have hB:((U:Int) == -1)=false:=beq_eq_false_iff_ne.2 (by omega);cases a with
 | none=>have:=hb rfl;omega
 | some ad=>
  obtain⟨g,off,hC⟩:∃g off,ad=⟨g,off,none⟩:=by
   rcases u.2 with⟨h,_⟩|⟨g,off,cap,cur,h,_⟩
   .cases h
   .exact⟨g,off,by cases h;rfl⟩
  subst hC;clear hr hb;go_wp2
  go_loopw [5,6] (fun s5 s6 wr => ∃(i j:Nat) (cur:List Int),s5 = .int .i64 i/\s6 = .int .i64 j/\Hid (CU p l j i cur)/\Own wr B 3 1 (.slice (some ⟨g,off,none⟩) l.length c) l.length (cur.map gB)/\Below B w wr/\B<=wr.heap.size) (fun _ s6 _=>l.length-(intOf s6).toNat)
  case atStart=>exact⟨U,U+1,l,rfl,by go_num,hx,u,W,hf⟩
  case round=>
   clear hx u W hf C hB;obtain⟨i,j,cur,rfl,rfl,A,d,G,m⟩:=hrel;have hM:=A.out.lt;have hL:=A.out.le;have z:=A.out.len
   by_cases E:j<l.length
   .have hv:j<cur.length:=by omega
    have ht:cur[j]=l[j]:=by have:=A.out.rest j (az _);rw[aF hv,aF E]at this;exact aM this
    obtain⟨_,_,e2,_,_,_,hq⟩:=d.rd;simp only[mK]at e2;obtain⟨rfl,_,rfl⟩:=e2;obtain⟨_,_,e3,R⟩:=kD hq j hv;simp only[jA,ui,and_true]at e3;obtain⟨rfl,rfl⟩:=e3;rw[ht]at R;have n:=ae z;clear ht hq z;have b:=hT l[j] wr (M.trans G) m;go_upto_region 8 with(fail);clear R
    by_cases L:p l[j]=true
    .have Y:=ae (A.out.skip E L);rw[L]at b;clear L A
     go_wp2_with fail
     refine b.mono ?_;rintro e w3 ⟨rfl,f⟩;have q:=d.below f;have S:=zy G m f;have t:=bi m f.size;clear d G m b f;go_wp2;go_roundw
     case rel=>exact⟨i,j+1,cur,rfl,by go_num,Y,q,S,t⟩
     case measure=>simp[intOf];omega
    have Z : p l[j]=false:=by simpa using L
    have Y:=ae (A.out.keep E Z);rw[Z]at b;clear L A Z
    go_wp2_with fail
    refine b.mono ?_;rintro e w3 ⟨rfl,f⟩;have q:=d.below f;have S:=zy G m f;have t:=bi m f.size;clear d G m b f;rw[<-kv]at q;obtain⟨gb,offb,capb,N,hA,hF,y,hw,o⟩:=oO one_int1 (by decide) n.out q i (by omega);cases hA;have C:(i:Int)<(l.length:Int):=by omega
    go_wp2_with (refine aB rfl _ (.tmp 33) (.tmp 32) rfl g (off+i) _ [gB l[j]] rfl rfl rfl N 3 y (by simp;omega) int_size (IM _ _) ?_)
    intro w5 hs r;have hz:=o w5 l[j] (by rw[uu];exact hs);rw[kv]at hz;have hD:=S.grown r t (λk I=>by cases I;exact hF);have hy:B<=w5.heap.size:=by have:=r.size;omega
    clear hs o y q S r hw;go_wp2;go_roundw
    case rel=>exact⟨i+1,j+1,cur.set i l[j],by go_num,by go_num,Y,hz,hD,hy⟩
    case measure=>simp[intOf];omega
   have C:i<l.length:=by omega
   have hd:Hid (cur.take i=l.filter (λx => !p x)):=by have:=A.out.done;rw[jD (l:=l) (by omega)]at this;exact this
   have n:=ae z;have hN:(i:Int)<=(c:Int):=by omega
   have hH : (i:Int)<=(l.length:Int):=by omega
   obtain⟨cs,y,hw,hE⟩:∃cs,aG wr g cs 3/\off+l.length*1<=cs.size/\B<=g:=by
    rcases d.2 with⟨h,_⟩|⟨g',off',cap',O,h,h0,h2,h3,_,h4,_⟩
    .cases h
    .cases h;exact⟨O,h2,by omega,h0⟩
   have hJ:=λty=>uI (P:=Tryz.prog) wr 33 3 ty _ 1 8 underlying33 int_info (by decide) (by decide) g (off+i) (l.length-i) (c-i) (by omega) cs _ y (by simp[Value.cells];omega);rw[<-kv]at d;have hg:=λw' vs=>Rh one_int1 (w':=w') (vs:=vs) d i n.out (by omega);simp only[kv]at hg;rw[hd.out]at hg;have hu:Hid ((l.filter (λx => !p x)).length=i):=by show(l.filter (λx => !p x)).length=i;rw[<-hd.out,iO,n.out];omega
   clear A z d;go_wp2;go_ret;have hh:=λvs=>hg (wr.setCells g (off+i) vs) vs (λcur R=>by rw[uu];exact R.setCells vs _);rw[hu.out]at hh ⊢;exact⟨_,rfl,hh _,G.grown (aC _ _ _ _) m (λk I=>by cases I;exact hE)⟩
theorem Mt(t:Tb)(cs:Array Value)(z k n:Int)(G I H:Nat)(w:World)(h:Gq w cs t)(J:aG w G cs 74)(h2:aG w I #[.int .i64 z] 3)(F:aG w H #[.int .i64 k] 3) :
  Calls Tryz.prog 217 #[.int .i64 n,.pointer (some ⟨G,0,none⟩),.pointer (some ⟨I,0,none⟩),.pointer (some ⟨H,0,none⟩)] w λr w'=>r = .returned (.bool (qP t z k n))/\Below w.heap.size w w':=by
 go_enter func217,ntmps217
 go_wp2_with (refine iA rfl 74 (.tmp 1) rfl G 0 rfl cs.toList J.rd _ underlying74 tab_agg (by rw[jm,h.sz];exact tab_size) ?_)
 refine(zS t cs n _ h).mono ?_;rintro r D ⟨rfl,a⟩;have o:=(h2.ext a).cell;have l:=(F.ext a).cell;have u:=h2.lt;have s:=F.lt;have v:=a.size;generalize hE:dK t n=E;have f:Hid (qP t z k n=(decide (E.k≠z)||decide (E.n≠k))):=ae (by unfold qP;rw[hE]);clear hE
 by_cases A:E.k=z
 .have p:(E.k != z)=false:=by simp[A]
  have c:Hid (qP t z k n=(E.n != k)):=ae (by rw[f.out,nC];simp[A]);clear A f
  go_wp2_with (refine aB rfl _ (.tmp 6) (.tmp 9) rfl D.heap.size 0 _ (lY E) rfl rfl rfl _ _ (aG.new _ _ _) (az 3) entry_size (BD E) ?_)
  intro C i b;have g : aG C D.heap.size (jy E) 68:=by simpa[bJ,lY,jy]using i
  have q:=g.cell;have m:=(((h2.ext a).alloc _).grown b (λe=>by have:=aM e;omega)).cell;have j:=(((F.ext a).alloc _).grown b (λe=>by have:=aM e;omega)).cell;have d:Below w.heap.size w C:=(a.alloc a.size _).grown b (dI a.size _) (λk A=>by cases A;exact a.size);have L:(jy E)[0]?=some (.int .i64 E.k):=rfl;have K:(jy E)[1]?=some (.int .i64 E.n):=rfl;clear o l i;go_wp2;go_ret;exact⟨bX c.out.symm,d⟩
 have p:(E.k != z)=true:=by simpa using A
 have c:Hid (qP t z k n=true):=ae (by rw[f.out];simp[A]);clear A f
 go_wp2_with (refine aB rfl _ (.tmp 6) (.tmp 9) rfl D.heap.size 0 _ (lY E) rfl rfl rfl _ _ (aG.new _ _ _) (az 3) entry_size (BD E) ?_)
 intro C i b;have g : aG C D.heap.size (jy E) 68:=by simpa[bJ,lY,jy]using i
 have q:=g.cell;have m:=(((h2.ext a).alloc _).grown b (λe=>by have:=aM e;omega)).cell;have j:=(((F.ext a).alloc _).grown b (λe=>by have:=aM e;omega)).cell;have d:Below w.heap.size w C:=(a.alloc a.size _).grown b (dI a.size _) (λk A=>by cases A;exact a.size);have L:(jy E)[0]?=some (.int .i64 E.k):=rfl;have K:(jy E)[1]?=some (.int .i64 E.n):=rfl;clear o l i;go_wp2;go_ret;exact⟨bX c.out.symm,d⟩
theorem Qw(t:Tb)(cs:Array Value)(s k:Int)(w:World)(h:Gq w cs t):Calls Tryz.prog 209 #[.agg cs,.int .i64 s,.int .i64 k] w λr w' => ∃v,r = .returned v/\Own w' w.heap.size 3 1 v (pU t s k).length ((pU t s k).map gB)/\Below w.heap.size w w':=by
 go_enter func209,ntmps209;go_upto_region 1 with(fail);refine Nb (λW=>Code.wp _ _ _ _ W) λW0 a c i d e => ?_;have l:w.heap.size+2<W0.heap.size:=d.lt;clear e
 go_wp2_with (refine iA rfl 74 (.tmp 3) rfl w.heap.size 0 rfl cs.toList c.rd _ underlying74 tab_agg (by rw[jm,h.sz];exact tab_size) ?_)
 refine(zq t cs _ (h.below a)).mono ?_;rintro r A ⟨v,rfl,g,b⟩;have C:RI W0.heap.size W0 (.pointer (some ⟨w.heap.size,0,none⟩)) (.pointer (some ⟨w.heap.size+1,0,none⟩)) (.pointer (some ⟨w.heap.size+2,0,none⟩)) (qP t s k):=
  λn W z m=>Mt t cs s k n _ _ _ W ((h.below a).below z) (c.ext z) (i.ext z) (d.ext z)
 go_wp2_with fail
 refine(Oc (aT t) v W0.heap.size W0 A _ _ _ (qP t s k) g (bi (tK t 64) (by decide)) C b b.size).mono ?_;rintro r D ⟨E,rfl,f,j⟩;go_wp2;go_ret;exact⟨_,rfl,f.mono a.size,a.trans ((b.trans j).mono a.size)⟩
end Go.Proofs.YthihaopabbpalaaGreat