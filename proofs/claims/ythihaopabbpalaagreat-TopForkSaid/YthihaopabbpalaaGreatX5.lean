import Derived.Test.YthihaopabbpalaaGreatX4
import Derived.BigQuiet
import Derived.Deep.OwnRows
import Derived.Deep.DeepCutAuto
import Derived.BigRegion
set_option linter.unusedSimpArgs false
set_option linter.unusedVariables false
set_option linter.unnecessarySimpa false
set_option maxHeartbeats 4000000
set_option maxRecDepth 100000
namespace Go.Proofs.YthihaopabbpalaaGreat
open _root_.Go.Proofs.Tryz
open Go.RowKit Go.Maps Pw
variable {B b c f g i j k p q:Nat} {D E l:List Int} {H H' H0:MH} {P:Program} {T t:TypeId} {a:Option Addr} {cs:Array Value} {e kd n:Int} {m m':Ma} {o:Oper} {s:St} {w w' w0:World} {z:Fr} {ρ:Operand -> Value}
theorem VZ{α:Type}(g:α->Nat)(c:Nat)(h:∀x,g x<=c):∀l:List α,(l.map g).sum<=c*l.length
 | []=>by simp
 | x::l=>by have u:=VZ g c h l;have d:=h x;rw[bM,BV,ou,Nat.mul_succ];omega
theorem TM(t:Tb):(fU t).length=64:=by unfold fU;simp
theorem NH(m:Ma)(kd i:Int):bR m kd i<=64*m.sp.length:=VZ _ 64 (λs=>by rw[<-TM s.tb];exact za) _
theorem VY(h:vR m)(i:Int):vY m i<=1:=CR h.srt λa u b d e=>h.uniq u d e
theorem Rt.fewR(h:Rt m)(d:f<m.m.fs.length):0<=(aF m f).r/\(aF m f).r<=257:=by
 have C:=h.cf f d;have A:=NH m 1 f;have y:=VY h.ca f;have u:=h.pt.spl;omega
theorem Rt.fewS(h:Rt m){s:Nat}(d:s<m.sl.length):0<=iT m s/\iT m s<=256:=by
 have A:=h.cs s d;have y:=NH m 2 s;have u:=h.pt.spl;omega
theorem Hf(h:Pt m){i:Int}(y:kd≠0){j:Int}(F:(aJ m p n).k=kd/\(aJ m p n).n=i)(C:(aJ m q j).k=kd/\(aJ m q j).n=i)(d:¬(q=p/\j=n)):2<=bR m kd i:=by
 have u:=mh (m:=m) (p:=p) (n:=n) (by omega);have A:=mh (m:=m) (p:=q) (n:=j) (by omega);obtain⟨a,_,_⟩:=gG (k:=⟨m,0⟩) (p:=p) (n:=n) (x:=zEn) h u.2 (by decide);have L:=rT u.1 a kd i;have K:vP (uw kd i (aJ m p n))=1:=by rw[qY,if_pos F]
 have J:vP (uw kd i zEn)=0:=xW rfl y;have I:0<bR (setTb m p (setT (bQ m p).tb n zEn)) kd i:=by refine(kY y).2 ⟨q,j,by rw[um];exact A.1,A.2,?_⟩;rw[kR u.1 a,if_neg d];exact C
 have G:bR ({ m:=m,e:=0 }:Kp).m kd i=bR m kd i:=rfl;omega
def jJ(x:Fr):Fr:={ x with r:=x.r+1 }
theorem QY{x:Fr}(h:dn x=0)(y:x.r≠0)(A:x.r<1000):dn (jJ x)=0:=by
 rw[dV]at h ⊢;obtain⟨⟨a,b,c⟩,d,e⟩:=h;refine⟨⟨?_,?_,c⟩,λu => ?_,e⟩
 ·show 0<=x.r+1;omega
 ·show x.r+1<=1000;omega
 have:x.r+1=0:=u;omega
theorem gP(h:Rt m)(d:(aJ m p n).k=1):∃f:Nat,(aJ m p n).n=f/\f<m.m.fs.length/\(aF m f).r≠0/\p<m.sp.length/\(0<=n/\n<64)/\∃g,eP m p n=some g/\PM (aF m f) g (aJ m p n).w:=by
 have A:=mh (m:=m) (p:=p) (n:=n) (by rw[d];decide);have G:=(dA).1 (ku h.pt p n);obtain⟨g,C,u⟩:=h.en p n (by rw[d];decide);have F:=u.lt d;have y:=ED h d rfl;refine⟨(aJ m p n).n.toNat,by omega,y.2,?_,A.1,A.2,g,C,u.fr d⟩;have:=h.cf _ y.2;omega
theorem Fv(h:Rt m)(O:Co m){g:Pg}(A:(aJ m p n).k=1)(M:(aJ m p n).n=f)(L:q<m.sp.length)(R:(aJ m q n).k=0)(N:eP m p n=some g)(u:eP m q n=some g)(K:(aJ m p n).w=true->g.sh=true)
 (d:(aF m f).f<0->∀a j,(aJ m a j).k=1->(aJ m a j).n.toNat=f->(aJ m a j).w=false) :
  Rt (aS (setFr m f (jJ (aF m f))) q n (aJ m p n))/\Co (aS (setFr m f (jJ (aF m f))) q n (aJ m p n)):=by
 obtain⟨F,e1,y,I,e4,X,Z,G,W⟩:=gP h A;have:F = f:=by omega
 subst this;rw[N]at G;cases G;have Y:=h.fewR y;refine zQ (g:=g) h O L X R y A M (QY (h.pt.frE y) I (by omega)) rfl (λ_=>⟨rfl,rfl,rfl,rfl⟩) (λh=>absurd h I) d u ?_;obtain⟨V,C,U,S,f5⟩:=W;refine⟨V,C,U,S,λb J => ?_⟩;have:=C (K b);have c : (aF m F).f<0:=J;omega
theorem Ow(h:Rt m)(R:Co m){g:Pg}(C:p≠q)(F:(aJ m p n).k=1)(J:(aJ m p n).n=f)(N:q<m.sp.length)(S:(aJ m q n).k=0)(O:eP m p n=some g)(G:eP m q n=some g) :
  Rt (aS (aS (setFr m f (jJ (aF m f))) p n ⟨1,f,false⟩) q n ⟨1,f,false⟩)/\Co (aS (aS (setFr m f (jJ (aF m f))) p n ⟨1,f,false⟩) q n ⟨1,f,false⟩):=by
 obtain⟨u,e1,W,e3,V,U,g',e6,e7⟩:=gP h F;have:u = f:=by omega
 subst this;obtain⟨L,K⟩:=OT h R F;rw[J]at L K;obtain⟨r,_,_⟩:=gG (k:=⟨m,0⟩) (p:=p) (n:=n) (x:=⟨1,u,false⟩) h.pt U ((dA).2 (.inr (.inl ⟨rfl,by show(0:Int)<=u; omega,by have:=((eF _).1 h.pt.fr).1;show(u : Int)<40;omega⟩)));have b:∀a j,aJ (aS m p n ⟨1,u,false⟩) a j=if a=p/\j=n then⟨1,u,false⟩else aJ m a j:=λa j=>kR V r a j;have y:aJ (aS m p n ⟨1,u,false⟩) p n=⟨1,u,false⟩:=by rw[b,if_pos ⟨rfl,rfl⟩]
 have d:fK m (aS m p n ⟨1,u,false⟩):=fK.setTb;have l:∀a,eP (aS m p n ⟨1,u,false⟩) a n=eP m a n:=λa=>by unfold eP;rw[d.ar]
 have:=Fv (p:=p) (q:=q) (n:=n) (f:=u) (g:=g) L K (by rw[y]) (by rw[y]) (by rw[d.len];exact N) (by rw[b,if_neg (λA=>C A.1.symm)];exact S) (by rw[l];exact O) (by rw[l];exact G) (λA=>by rw[y]at A; cases A) (λM a j c o => ?_)
 ·rw[y]at this;exact this
 rw[b]at c o ⊢
 by_cases e:a=p/\j=n
 ·rw[if_pos e]
 rw[if_neg e]at c o ⊢;obtain⟨I,Z,b2,b3,b4,b5,g2,b6,Y⟩:=gP h c;have s:I=u:=by omega
 subst s;have h2:=Hf h.pt (kd:=1) (i:=I) (by decide) ⟨F,J⟩ ⟨c,Z⟩ e;have h3:=h.cf I W;obtain⟨c1,c2,c3,c4,X⟩:=Y;cases hw:(aJ m a j).w with
 | false=>rfl
 | true=>
  have:=X hw M;omega
theorem Oo(h:Rt m)(J:Co m){s:Nat}{g:Pg}(u:(aJ m p n).k=2)(F:(aJ m p n).n=s)(C:q<m.sp.length)(N:(aJ m q n).k=0)(G:eP m p n=some g)(y:eP m q n=some g) :
  Rt (aS (setSl m s (iT m s+1)) q n (aJ m p n))/\Co (aS (setSl m s (iT m s+1)) q n (aJ m p n)):=by
 have M:=mh (m:=m) (p:=p) (n:=n) (by rw[u];decide);have L:=(dA).1 (ku h.pt p n);obtain⟨S,a,I⟩:=h.en p n (by rw[u];decide);rw[G]at a;cases a;have K:=I.sw u;have A:s<m.sl.length:=by omega
 have R:=h.fewS A;exact Tf (d:=m.sw) (g:=g) h J C M.2 N A u F ((L.resolve_left (λO=>by omega)).resolve_left (λO=>by omega)).2.2.2 (by omega) h.pt.sw rfl y K.2
structure Bd (m:Ma) (T:List (List En)):Prop where
 ok:OkT m T
 rt:Rt (wz m T)
 co:Co (wz m T)
theorem Bd.of{T:List (List En)}(d:OkT m T)(h:Rt (wz m T)/\Co (wz m T)):Bd m T:=⟨d,h.1,h.2⟩
theorem Bd.more{T:List (List En)}(h:Bd m T){s:Sp}(u:m.sp.length<4)(d:s.lv=true)(y:(dY s.ar).1=0):Bd { m with sp:=m.sp++[s] } (T++[List.replicate 64 zEn]):=by
 refine .of (h.ok.more s) ?_;rw[Qn h.ok];exact GV h.rt h.co (s:={ s with tb:=zTb }) (by rw[TD];exact u) d y rfl
structure Al (X:Nat->Int->Prop) (m m' : Ma):Prop where
 sk:fK m m'
 files:m'.st.fs.length=m.st.fs.length
 size:∀f,(az m'.st f).n=(az m.st f).n
 lenb:∀f,(az m'.st f).b.length=(az m.st f).b.length
 see:∀p n,¬X p n->jy m' p n=jy m p n
 con:∀f i,jk m.st f i->aN m' f i=aN m f i
theorem Al.trans{X:Nat->Int->Prop}{a b c:Ma}(h:Al X a b)(k:Al X b c):Al X a c:=
 ⟨h.sk.trans k.sk,k.files.trans h.files,λf=>(k.size f).trans (h.size f),λf=>(k.lenb f).trans (h.lenb f),λp n d=>(k.see p n d).trans (h.see p n d),λf i u=>(k.con f i (u.same h.files h.lenb)).trans (h.con f i u)⟩
theorem Al.refl(X:Nat->Int->Prop)(m:Ma):Al X m m:=⟨.refl m,rfl,λ_=>rfl,λ_=>rfl,λ_ _ _=>rfl,λ_ _ _=>rfl⟩
theorem Aj.x(h:Aj m m')(X:Nat->Int->Prop):Al X m m':=⟨h.sk,h.files,h.size,h.lenb,λp n _=>h.see p n,h.con⟩
theorem Kq{X:Nat->Int->Prop}(h:fK m m')(d:mZ m.st m'.st)(C:∀f i,jk m.st f i->aN m' f i=aN m f i)
 (A:∀p n g,¬X p n->eP m p n=some g->wJ m' g (aJ m' p n)=wJ m g (aJ m p n)):Al X m m':=by
 refine⟨h,d.len,d.size,d.lenb,λp n y => ?_,C⟩;have u:eP m' p n=eP m p n:=by unfold eP;rw[h.ar]
 cases hg:eP m p n with
 | none=>rw[qR hg,qR (u.trans hg)]
 | some g=>rw[jd hg,jd (u.trans hg)];exact A p n g y hg
def atP(p:Nat)(n:Int)(q:Nat)(j:Int):Prop:=q=p/\j=n
structure Less (m m' : Ma) (p:Nat) (n:Int):Prop where
 rt:Rt m'
 co:Co m'
 vis:Al (atP p n) m m'
 st:m'.st=m.st
 dk:m'.dk=m.dk
 sw:m'.sw=m.sw
 ca:m'.ca=m.ca
 len:m'.m.fs.length=m.m.fs.length
 sll:m'.sl.length=m.sl.length
 ents:∀q j,aJ m' q j=if q=p/\j=n then zEn else aJ m q j
 fr:∀g,(aF m' g).r≠0->(aF m' g).p=(aF m g).p/\(aF m' g).u=(aF m g).u/\(aF m' g).d=(aF m g).d/\(aF m' g).f=(aF m g).f/\(aF m' g).i=(aF m g).i
theorem XZ(x:Fr)(n:Int):(gV x n).r=x.r+n:=by
 unfold gV
 by_cases h:x.r+n=0
 ·rw[if_pos h,h];rfl
 ·rw[if_neg h]
theorem Py{x:Fr}(h:x.r+n≠0):gV x n = { x with r:=x.r+n }:=by unfold gV;rw[if_neg h]
theorem OC(h:Rt m)(hc:Co m)(hk:(aJ m p n).k=1)(hn:(aJ m p n).n=f):Less m (aS (setFr m f (gV (aF m f) (-1))) p n zEn) p n:=by
 obtain⟨A,e1,J,hr,hp,hJ,g0,hR,hM⟩:=gP h hk;have:A = f:=by omega
 subst this;have hP:=h.fewR J;have hA:dn (gV (aF m A) (-1))=0:=NC (h.pt.frE J) hr (by omega) (by omega);have hO:=XZ (aF m A) (-1);have l:(aF m A).r≠1->gV (aF m A) (-1) = { aF m A with r:=(aF m A).r + -1 }:=λC=>Py (by omega);generalize hX:gV (aF m A) (-1)=X at *
 have hD:Pt (setFr m A X):=h.pt.setFr hA;obtain⟨hC,_,hH⟩:=gG (k:=⟨setFr m A X,0⟩) (p:=p) (n:=n) (x:=zEn) hD hJ (by decide);have hE:p<(setFr m A X).sp.length:=hp;have w:∀q j,aJ (aS (setFr m A X) p n zEn) q j=if q=p/\j=n then zEn else aJ m q j:=λq j=>kR hE hC q j;have v:∀y,aF (aS (setFr m A X) p n zEn) y=if y=A then X else aF m y:=λy=>fP J y;have o:(aS (setFr m A X) p n zEn).m.fs.length=m.m.fs.length:=dK;have hz:∀kd i,kd≠0->bR (aS (setFr m A X) p n zEn) kd i+vP (uw kd i (aJ m p n))=bR m kd i:=λkd i hL=>by have C:=rT hE hC kd i;have U:vP (uw kd i zEn)=0:=xW rfl hL;have h3:bR (setFr m A X) kd i=bR m kd i:=rfl;have h4:aJ (setFr m A X) p n=aJ m p n:=rfl;rw[h4]at C;unfold aS;omega
 have hB:fK m (setFr m A X):=fK.of rfl;have Y:fK m (aS (setFr m A X) p n zEn):=hB.trans (fK.setTb (m:=setFr m A X) (p:=p) (t:=setT (bQ (setFr m A X) p).tb n zEn));have hF:∀c∈m.ca,c.k.toNat=A->(aF m A).r≠1:=λc g e R=>by
  have C:=h.cf A J;have U:=h.ca.one g;have h3:=h.ca.lt c g;have h4:=ED (f:=A) h hk (by omega);have:c.k=(A : Int):=by omega
  rw[this]at U;omega
 have z:∀c∈m.ca,(aF (aS (setFr m A X) p n zEn) c.k.toNat).p=(aF m c.k.toNat).p/\(aF (aS (setFr m A X) p n zEn) c.k.toNat).d=(aF m c.k.toNat).d/\(aF (aS (setFr m A X) p n zEn) c.k.toNat).f=(aF m c.k.toNat).f/\(aF (aS (setFr m A X) p n zEn) c.k.toNat).i=(aF m c.k.toNat).i/\1<=(aF (aS (setFr m A X) p n zEn) c.k.toNat).r:=λc g=>by
  have C:=h.ca.fr c g;rw[v]
  by_cases e:c.k.toNat=A
  ·rw[if_pos e];have U:=hF c g e;rw[e]at C ⊢;rw[l U];exact⟨rfl,rfl,rfl,rfl,by show 1<=(aF m A).r + -1;omega⟩
  ·rw[if_neg e];exact⟨rfl,rfl,rfl,rfl,C.1⟩
 have hv:∀q j,¬(q=p/\j=n)->(aJ m q j).k=1->(aJ m q j).n.toNat=A->(aF m A).r≠1:=λq j hK u hQ R=>by
  obtain⟨V,b1,b2,b3,b4,b5,g2,b6,b7⟩:=gP h u;have hN:V=A:=by omega
  subst hN;have U:=Hf h.pt (kd:=1) (i:=V) (by decide) ⟨hk,hn⟩ ⟨u,b1⟩ hK;have h3:=h.cf V J;omega
 have hm:vR (aS (setFr m A X) p n zEn):=by
  refine⟨h.ca.file,λc g => ?_,λc g => ?_,h.ca.srt⟩
  ·rw[o];exact h.ca.lt c g
  have C:=h.ca.fr c g;obtain⟨I,W,a3,a4,a5⟩:=z c g;exact⟨a5,a3.trans C.2.1,a4.trans C.2.2⟩
 have hj:∀a b,dh (aS (setFr m A X) p n zEn) a b=dh m a b:=λ_ _=>rfl;have hw:∀a b,aN (aS (setFr m A X) p n zEn) a b=aN m a b:=by
  intro a b;rcases kG m a b with⟨c,hl,g,hcf,hci⟩|⟨hl,M⟩
  ·subst hcf;subst hci;rw[dC h.ca g,dC (m:=aS (setFr m A X) p n zEn) hm g,(z c g).1]
  ·rw[eB M,eB (m:=aS (setFr m A X) p n zEn) M,hj]
 refine⟨⟨hH,h.trim,λq hq => ?_,hm,λq j O => ?_,λi N => ?_,λi N L => ?_,λs hs => ?_⟩,⟨λc g => ?_,λc g F => ?_,λi N F => ?_⟩,?_,rfl,rfl,rfl,rfl,o,rfl,w,λy K => ?_⟩
 ·rw[Y.lv]at hq;obtain⟨I,W⟩:=h.live q hq;refine⟨by rw[Y.ar];exact I,λj => ?_⟩;rw[w];split
  ·rfl
  ·exact W j
 ·have hI:eP (aS (setFr m A X) p n zEn) q j=eP m q j:=by unfold eP;rw[Y.ar]
  rw[hI];rw[w]at O ⊢
  by_cases e:q=p/\j=n
  ·rw[if_pos e]at O; exact absurd rfl O
  rw[if_neg e]at O ⊢;obtain⟨y,K,Z⟩:=h.en q j O;refine⟨y,K,Z.sw,by rw[o];exact Z.lt,λu => ?_⟩;rw[v]
  by_cases G:(aJ m q j).n.toNat=A
  ·rw[if_pos G];have C:=Z.fr u;rw[G]at C;rw[l (hv q j e u G)];obtain⟨f1,V,f3,f4,f5⟩:=C;refine⟨f1,V,f3,f4,λhG S => ?_⟩;have:=f5 hG S;show(aF m A).r + -1<=1;omega
  ·rw[if_neg G];exact Z.fr u
 ·have I:vY (aS (setFr m A X) p n zEn) i=vY m i:=rfl;have C:=hz 1 i (by decide);rw[qY]at C;rw[v,I];have h3:=h.cf i (by rw[<-o];exact N)
  by_cases e:i=A
  ·subst e;rw[if_pos ⟨hk,hn⟩]at C;rw[if_pos rfl,hO];omega
  rw[if_neg (λh'=>e (by omega))]at C;rw[if_neg e];omega
 ·rw[v]at L
  by_cases e:i=A
  ·subst e;rw[if_pos rfl]at L
   by_cases R:(aF m i).r=1
   ·have S:X.r=0:=by omega
    have:=((dV _).1 hA).2.1 S;omega
   rw[l R]at L;exact h.fc i J L
  rw[if_neg e]at L;exact h.fc i (by rw[<-o];exact N) L
 ·have C:=hz 2 s (by decide);rw[qY,if_neg (λh'=>by omega)]at C;have:=h.cs s hs;show iT m s=_;omega
 ·obtain⟨I,W,a3,a4,a5⟩:=z c g;rw[I];exact hc.tail c g
 ·obtain⟨I,W,a3,a4,a5⟩:=z c g;rw[W]at F;rw[I,hj];exact hc.clean c g F
 ·rw[v]at F ⊢
  by_cases e:i=A
  ·subst e;rw[if_pos rfl]at F ⊢
   by_cases R:(aF m i).r=1
   ·have S:X.r=0:=by omega
    have:=(((dV _).1 hA).2.1 S).2.1;rw[this]at F;cases F
   rw[l R]at F ⊢;exact hc.anon i J F
  ·rw[if_neg e]at F ⊢; exact hc.anon i (by rw[<-o];exact N) F
 ·refine Kq Y (mZ.refl _) (λa b _=>hw a b) λq j y hx K => ?_;rw[w,if_neg (show ¬(q=p/\j=n)from hx)];refine rX h.pt.st (h.pt.pg K).1 (mZ.refl _) (λa b _=>hw a b) (λu => ?_);show(aF (aS (setFr m A X) p n zEn) (aJ m q j).n.toNat).p=(aF m (aJ m q j).n.toNat).p/\(aF (aS (setFr m A X) p n zEn) (aJ m q j).n.toNat).f=(aF m (aJ m q j).n.toNat).f;rw[v]
  by_cases G:(aJ m q j).n.toNat=A
  ·rw[if_pos G,G,l (hv q j hx u G)];exact⟨rfl,rfl⟩
  ·rw[if_neg G];exact⟨rfl,rfl⟩
 rw[v]at K ⊢
 by_cases e:y=A
 ·rw[if_pos e]at K ⊢;rw[e,l (by omega)];exact⟨rfl,rfl,rfl,rfl,rfl⟩
 ·rw[if_neg e];exact⟨rfl,rfl,rfl,rfl,rfl⟩
theorem Jd(h:Rt m)(K:Co m){s:Nat}(C:(aJ m p n).k=2)(N:(aJ m p n).n=s):Less m (aS (setSl m s (iT m s + -1)) p n zEn) p n:=by
 have l:=mh (m:=m) (p:=p) (n:=n) (by rw[C];decide);obtain⟨g0,hj,u⟩:=h.en p n (by rw[C];decide);have J:s<m.sl.length:=by have:=u.sw C;omega
 have hh:=h.fewS J;have hg:0<bR m 2 s:=(kY (by decide)).2 ⟨p,n,l.1,l.2,C,N⟩;have Z:=h.cs s J;have z:Pt (setSl m s (iT m s + -1)):=h.pt.setSl (by omega) (by omega);obtain⟨w,_,W⟩:=gG (k:=⟨setSl m s (iT m s + -1),0⟩) (p:=p) (n:=n) (x:=zEn) z l.2 (by decide);have O:p<(setSl m s (iT m s + -1)).sp.length:=l.1;have c:∀q j,aJ (aS (setSl m s (iT m s + -1)) p n zEn) q j=if q=p/\j=n then zEn else aJ m q j:=λq j=>kR O w q j;have o:∀kd i,kd≠0->bR (aS (setSl m s (iT m s + -1)) p n zEn) kd i+vP (uw kd i (aJ m p n))=bR m kd i:=λkd i U=>by have A:=rT O w kd i;have R:vP (uw kd i zEn)=0:=xW rfl U;have h3:bR (setSl m s (iT m s + -1)) kd i=bR m kd i:=rfl;have X:aJ (setSl m s (iT m s + -1)) p n=aJ m p n:=rfl;rw[X]at A;unfold aS;omega
 have v:fK m (setSl m s (iT m s + -1)):=fK.of rfl;have g:fK m (aS (setSl m s (iT m s + -1)) p n zEn):=v.trans (fK.setTb (m:=setSl m s (iT m s + -1)) (p:=p) (t:=setT (bQ (setSl m s (iT m s + -1)) p).tb n zEn));have d:(aS (setSl m s (iT m s + -1)) p n zEn).sl.length=m.sl.length:=bV;refine⟨⟨W,h.trim,λq M => ?_,⟨h.ca.file,h.ca.lt,h.ca.fr,h.ca.srt⟩,λq j f => ?_,λi I => ?_,h.fc,λi I => ?_⟩,⟨K.tail,K.clean,K.anon⟩,?_,rfl,rfl,rfl,rfl,rfl,d,c,λy G=>⟨rfl,rfl,rfl,rfl,rfl⟩⟩
 ·rw[g.lv]at M;obtain⟨L,F⟩:=h.live q M;refine⟨by rw[g.ar];exact L,λj => ?_⟩;rw[c];split
  ·rfl
  ·exact F j
 ·have V:eP (aS (setSl m s (iT m s + -1)) p n zEn) q j=eP m q j:=by unfold eP;rw[g.ar]
  rw[V];rw[c]at f ⊢
  by_cases e:q=p/\j=n
  ·rw[if_pos e]at f; exact absurd rfl f
  rw[if_neg e]at f ⊢;obtain⟨y,G,r⟩:=h.en q j f;exact⟨y,G,by rw[d];exact r.sw,r.lt,r.fr⟩
 ·have A:=o 1 i (by decide);rw[qY,if_neg (λY=>by omega)]at A;have R:=h.cf i I;have L:vY (aS (setSl m s (iT m s + -1)) p n zEn) i=vY m i:=rfl;have F:aF (aS (setSl m s (iT m s + -1)) p n zEn) i=aF m i:=rfl;rw[L,F];omega
 ·rw[d]at I;have A:=o 2 i (by decide);rw[qY]at A;have R:=h.cs i I;have F:iT (aS (setSl m s (iT m s + -1)) p n zEn) i=iT (setSl m s (iT m s + -1)) i:=rfl;rw[F,Ep J]
  by_cases e:i=s
  ·subst e;rw[if_pos ⟨C,N⟩]at A;rw[if_pos rfl];omega
  rw[if_neg (λY=>e (by omega))]at A;rw[if_neg e];omega
 refine Kq g (mZ.refl _) (λa b _=>rfl) λq j y S G => ?_;rw[c,if_neg (show ¬(q=p/\j=n)from S)];exact rX h.pt.st (h.pt.pg G).1 (mZ.refl _) (λa b _=>rfl) (λ_=>⟨rfl,rfl⟩)
theorem YP{k:Kp}(h:Rt k.m)(J:Co k.m)(p:Nat)(n:Int):((aJ k.m p n).k=0/\jM k p n=k)\/∃m',jM k p n=⟨m',k.e⟩/\Less k.m m' p n:=by
 have u:=(dA).1 (ku h.pt p n);have A:dR (bQ k.m p).tb n=aJ k.m p n:=rfl;rcases u with u|u|u
 ·refine .inl ⟨u.1,?_⟩;unfold jM;rw[A,if_neg (by omega),if_neg (by omega)]
 ·right
  obtain⟨f,K,I,M,O,d,g0,g,a⟩:=gP h u.1;have c:=h.fewR I;obtain⟨G,F⟩:=yI (k:=k) (f:=f) (n:=-1) h.pt I M (by omega) (by omega);obtain⟨L,C,N⟩:=gG (k:=⟨setFr k.m f (gV (aF k.m f) (-1)),k.e⟩) (p:=p) (n:=n) (x:=zEn) F d (by decide);refine⟨_,?_,OC h J u.1 K⟩;unfold jM;simp only;rw[A,if_pos u.1,K,G,C];rfl
 right
 have b:=mh (m:=k.m) (p:=p) (n:=n) (by omega);obtain⟨g0,g,a⟩:=h.en p n (by omega);have y:(aJ k.m p n).n.toNat<k.m.sl.length:=by have:=a.sw u.1;omega
 have c:=h.fewS y;have i:0<bR k.m 2 ((aJ k.m p n).n.toNat:Nat):=(kY (by decide)).2 ⟨p,n,b.1,b.2,u.1,by omega⟩;have j:=h.cs _ y;obtain⟨G,F⟩:=TW (k:=k) (s:=(aJ k.m p n).n.toNat) (n:=-1) h.pt y (by omega) (by omega) (by omega);obtain⟨L,C,N⟩:=gG (k:=⟨setSl k.m (aJ k.m p n).n.toNat (iT k.m (aJ k.m p n).n.toNat + -1),k.e⟩) (p:=p) (n:=n) (x:=zEn) F b.2 (by decide);refine⟨_,?_,Jd h J u.1 (s:=(aJ k.m p n).n.toNat) (by omega)⟩;unfold jM;simp only;rw[A,if_neg (by omega),if_pos u.1];rw[show(aJ k.m p n).n=(((aJ k.m p n).n.toNat:Nat):Int) by omega,G,C];rfl
theorem yf(h:Rt m)(A:Co m)(h' : Rt m')(hc' : Co m')(st:m'.st=m.st)(dk:m'.dk=m.dk)(ca:m'.ca=m.ca)(y:∀c∈m.ca,(aF m' c.k.toNat).d=(aF m c.k.toNat).d/\(aF m' c.k.toNat).p=(aF m c.k.toNat).p):Inv m m':=
 WJ.inv (.of st dk λc u _=>⟨by rw[<-ca];exact u,y c (by rw[<-ca];exact u)⟩) h A h' hc'
theorem Less.inv(h:Rt m)(u:Co m)(k:Less m m' p n):Inv m m':=
 yf h u k.rt k.co k.st k.dk k.ca λc d=>by have:=k.rt.ca.fr c (by rw[k.ca];exact d);have:=k.fr c.k.toNat (by omega);exact⟨this.2.2.1,this.1⟩
def rR(m:Ma)(q:Nat)(s:Sp):Ma:={ m with sp:=m.sp.set q s }
theorem qF{s:Sp}(d:q<m.sp.length)(p:Nat):bQ (rR m q s) p=if p=q then s else bQ m p:=by
 unfold bQ rR;simp only;rw[bA,qd]
 by_cases e:p=q
 ·subst e;rw[if_pos rfl,if_pos d,if_pos rfl];rfl
 ·rw[if_neg (λh=>e h.symm),if_neg e,bA]
theorem IY{t:Tb}{i:Int}(u:kd≠0)(h:∀n,(dR t n).k=0):(fU t).countP (uw kd i)=0:=by
 rw[vB];intro e d;unfold fU at d;obtain⟨j,_,rfl⟩:=fD.1 d;unfold uw;simp only[dJ,decide_eq_true_eq];rintro⟨y,_⟩;have:=h j;omega
theorem Sg(h:Rt m)(J:Co m){s:Sp}(C:q<m.sp.length)(O:∀n,(aJ m q n).k=0)(N:(dY s.ar).1=0)(M:s.lv=false->s.ar=[])(G:s.tb=zTb):Rt (rR m q s)/\Co (rR m q s):=by
 have d:∀p j,(aJ (rR m q s) p j).k≠0->p≠q:=λp j A e=>by unfold aJ at A;rw[qF C,if_pos e,G,uf]at A;exact A rfl
 have a:∀p j,p≠q->aJ (rR m q s) p j=aJ m p j:=λp j e=>by unfold aJ;rw[qF C,if_neg e]
 have b:∀kd i,kd≠0->bR (rR m q s) kd i=bR m kd i:=λkd i A=>by
  unfold bR rR;simp only;have L:=sum_set (m.sp.map λs=>(fU s.tb).countP (uw kd i)) q (by simpa using C) ((fU s.tb).countP (uw kd i));have K:(fU s.tb).countP (uw kd i)=0:=IY A λn=>by rw[G,uf];rfl
  have S:(fU (bQ m q).tb).countP (uw kd i)=0:=IY A λn=>O n;rw[rJ]at L;have R:m.sp[q]=bQ m q:=by have:=wT C;rw[aM C]at this;exact aU this
  rw[R,S,K]at L;rw[nO,K];omega
 refine⟨⟨{ h.pt with spl:=by show(m.sp.set q s).length<=4;rw[bV];exact h.pt.spl,ar:=λy u => ?_,tb:=λy u => ?_ },h.trim,λp F => ?_,⟨h.ca.file,h.ca.lt,h.ca.fr,h.ca.srt⟩,λp j A => ?_,λi I=>by rw[b 1 i (by decide)];exact h.cf i I,h.fc,λi I=>by rw[b 2 i (by decide)];exact h.cs i I⟩,⟨J.tail,J.clean,J.anon⟩⟩
 ·rcases mr u with u|rfl
  ·exact h.pt.ar y u
  ·exact N
 ·rcases mr u with u|rfl
  ·exact h.pt.tb y u
  ·rw[G];decide
 ·by_cases e:p=q
  ·rw[qF C,if_pos e]at F ⊢;refine⟨M F,λn => ?_⟩;unfold aJ;rw[qF C,if_pos e,G,uf];rfl
  rw[qF C,if_neg e]at F ⊢;exact⟨(h.live p F).1,λn=>by rw[a p n e];exact(h.live p F).2 n⟩
 have e:=d p j A;rw[a p j e]at A ⊢;obtain⟨y,u,c⟩:=h.en p j A;refine⟨y,?_,c.sw,c.lt,c.fr⟩;unfold eP at u ⊢;rw[qF C,if_neg e];exact u
def shA(l:List Ar)(n:Int):Bool:=(l.getD (fB l n).toNat zAr).sh
def lJ(k:Kp)(p q:Nat)(n:Int):Kp:=
 let e:=aJ k.m p n
 if e.k=2 then
  if bK k.m.sl e.n 1≠0 then⟨k.m,bK k.m.sl e.n 1⟩else dD ⟨{ k.m with sl:=bq k.m.sl e.n 1 },k.e⟩ q n e
 else
  let k1:=dU k e.n 1
  if shA (bQ k.m p).ar n=true then dD k1 q n e else dD (dD k1 p n ⟨e.k,e.n,false⟩) q n ⟨e.k,e.n,false⟩
def iA(m:Ma)(p q:Nat):Ma:=if q=m.sp.length then{ m with sp:=m.sp++[⟨true,(bQ m p).ar,zTb⟩] }else rR m q ⟨true,(bQ m p).ar,zTb⟩
def nZ(k:Kp)(p q:Nat)(l:List Int):Kp:=l.foldl (λk n=>lJ k p q n) k
def FM(m:Ma)(p q:Nat):Kp:=nZ ⟨iA m p q,0⟩ p q (aV (bQ m p).tb)
def yz(m:Ma):Int:=idx (λs:Sp => !s.lv) m.sp
def nT(m:Ma):Int:=if yz m<0 then m.sp.length else yz m
def inN(a n i:Int):Bool:=decide (a<=i)&&decide (i-a<n)
def XT(k:Kp)(p:Nat)(a n:Int)(l:List Int):Kp:=l.foldl (λk i=>if inN a n i=true then jM k p i else k) k
def VA(k:Kp)(p:Nat)(a n:Int):Kp:=XT k p a n (aV (bQ k.m p).tb)
def FK(m:Ma)(p:Nat):Kp:=let k:=VA ⟨m,0⟩ p 0 64;⟨rR k.m p zSp,k.e⟩
theorem Xn{g:Pg}(d:eP m p n=some g):shA (bQ m p).ar n=g.sh/\0<=fB (bQ m p).ar n:=by
 have u:0<=fB (bQ m p).ar n:=(Ba _ _).2 (by unfold eP at d;rw[d];simp);have h:=(Ca u).1;unfold eP at d;rw[d]at h;have y:=aU h;refine⟨?_,u⟩;unfold shA;rw[y];rfl
def yw(x y:Fr):Prop:=y.p=x.p/\y.u=x.u/\y.d=x.d/\y.f=x.f/\y.i=x.i/\(y.r=0↔x.r=0)
theorem yw.refl(x:Fr):yw x x:=⟨rfl,rfl,rfl,rfl,rfl,Aq⟩
theorem yw.trans{x y:Fr}(h:yw x y)(k:yw y z):yw x z:=⟨k.1.trans h.1,k.2.1.trans h.2.1,k.2.2.1.trans h.2.2.1,k.2.2.2.1.trans h.2.2.2.1,k.2.2.2.2.1.trans h.2.2.2.2.1,k.2.2.2.2.2.trans h.2.2.2.2.2⟩
theorem yw.up{x:Fr}(h:x.r≠0)(d:0<=x.r):yw x (jJ x):=⟨rfl,rfl,rfl,rfl,rfl,⟨λ(e:x.r+1=0)=>by omega,λe=>absurd e h⟩⟩
def alike(a b:En):Prop:=b.k=a.k/\b.n=a.n
structure Shared (m m' : Ma) (p q:Nat) (D:List Int):Prop where
 rt:Rt m'
 co:Co m'
 sk:fK m m'
 st:m'.st=m.st
 dk:m'.dk=m.dk
 sw:m'.sw=m.sw
 ca:m'.ca=m.ca
 len:m'.m.fs.length=m.m.fs.length
 sll:m'.sl.length=m.sl.length
 fr:∀g,yw (aF m g) (aF m' g)
 sl:∀s,iT m' s=0↔iT m s=0
 oth:∀a j,a≠q->alike (aJ m a j) (aJ m' a j)
 chd:∀j,j∈D->alike (aJ m p j) (aJ m' q j)
 chn:∀j,¬j∈D->aJ m' q j=aJ m q j
theorem OM{k:Kp}(h:Rt k.m)(Y:Co k.m)(N:p≠q)(L:q<k.m.sp.length)(Z:(bQ k.m q).ar=(bQ k.m p).ar)(hk:(aJ k.m p n).k≠0)(h0:(aJ k.m q n).k=0) :
  ∃m',lJ k p q n=⟨m',k.e⟩/\Shared k.m m' p q [n]:=by
 obtain⟨g,J,hi⟩:=h.en p n hk;have v:eP k.m q n=some g:=by unfold eP at J ⊢; rw[Z];exact J
 have hE:=(dA).1 (ku h.pt p n);have u:=mh hk;obtain⟨hb,hv⟩:=Xn J
 by_cases K:(aJ k.m p n).k=2
 ·have G:(aJ k.m p n).n.toNat<k.m.sl.length:=by have:=hi.sw K;omega
  have r:=h.fewS G;have ht:0<bR k.m 2 ((aJ k.m p n).n.toNat:Nat):=(kY (by decide)).2 ⟨p,n,u.1,u.2,K,by omega⟩;have hw:=h.cs _ G;have W:(aJ k.m p n).n=(((aJ k.m p n).n.toNat:Nat):Int):=by omega
  have hl:bK k.m.sl (((aJ k.m p n).n.toNat:Nat):Int) 1=0:=by have C:GI k.m.sl (((aJ k.m p n).n.toNat:Nat):Int)=iT k.m (aJ k.m p n).n.toNat:=rfl;unfold bK;rw[if_neg (by rw[h.pt.sl];simp),if_neg (by rw[C];omega),if_neg (by rw[C];omega)]
  obtain⟨U,S⟩:=Oo h Y K W L h0 J v;have hd:Pt (setSl k.m (aJ k.m p n).n.toNat (iT k.m (aJ k.m p n).n.toNat+1)):=h.pt.setSl (by omega) (by omega);obtain⟨M,R,b2⟩:=gG (k:=⟨setSl k.m (aJ k.m p n).n.toNat (iT k.m (aJ k.m p n).n.toNat+1),k.e⟩) (p:=q) (n:=n) (x:=aJ k.m p n) hd u.2 (ku h.pt p n);have b:=λa j=>kR (m:=setSl k.m (aJ k.m p n).n.toNat (iT k.m (aJ k.m p n).n.toNat+1)) (p:=q) L M a j;refine⟨_,?_,U,S,?_,rfl,rfl,rfl,rfl,rfl,bV,λ_ => .refl _,λs => ?_,λa j O => ?_,λj F => ?_,λj F => ?_⟩
  ·unfold lJ;simp only;rw[if_pos K,if_neg (by rw[W];rw[hl];simp)];have:bq k.m.sl (aJ k.m p n).n 1=(setSl k.m (aJ k.m p n).n.toNat (iT k.m (aJ k.m p n).n.toNat+1)).sl:=by unfold bq;rw[if_pos (by rw[W];exact hl)];rfl
   rw[this];exact R
  ·have d:fK k.m (setSl k.m (aJ k.m p n).n.toNat (iT k.m (aJ k.m p n).n.toNat+1)):=fK.of rfl;exact d.trans fK.setTb
  ·have C:iT (aS (setSl k.m (aJ k.m p n).n.toNat (iT k.m (aJ k.m p n).n.toNat+1)) q n (aJ k.m p n)) s=iT (setSl k.m (aJ k.m p n).n.toNat (iT k.m (aJ k.m p n).n.toNat+1)) s:=rfl;rw[C,Ep G]
   by_cases e:s=(aJ k.m p n).n.toNat
   ·subst e;rw[if_pos rfl];omega
   ·rw[if_neg e]
  ·have:aJ (aS (setSl k.m (aJ k.m p n).n.toNat (iT k.m (aJ k.m p n).n.toNat+1)) q n (aJ k.m p n)) a j=aJ k.m a j:=by have:=b a j;rw[if_neg (λA=>O A.1)]at this;exact this
   rw[this];exact⟨rfl,rfl⟩
  ·have i:=bF.1 F;subst i;have:=b q j;rw[if_pos ⟨rfl,rfl⟩]at this;exact⟨congrArg En.k this,congrArg En.n this⟩
  have:=b q j;rw[if_neg (λA=>F (bF.2 A.2))]at this;exact this
 have k1:(aJ k.m p n).k=1:=by omega
 obtain⟨f,C,X,hr,hp,t,g0,hh,w⟩:=gP h k1;rw[J]at hh;cases hh;have r:=h.fewR X;obtain⟨U,S⟩:=yI (k:=k) (f:=f) (n:=1) h.pt X hr (by omega) (by omega);have hm:gV (aF k.m f) 1=jJ (aF k.m f):=by unfold gV;rw[if_neg (by omega)];rfl
 rw[hm]at U S;have o:∀y,yw (aF k.m y) (aF (setFr k.m f (jJ (aF k.m f))) y):=λy=>by
  rw[fP X]
  by_cases e:y=f
  ·subst e;rw[if_pos rfl];exact .up hr r.1
  ·rw[if_neg e];exact .refl _
 have d:fK k.m (setFr k.m f (jJ (aF k.m f))):=fK.of rfl;have hu : (1:Int)=(aJ k.m p n).k:=k1.symm
 by_cases G:g.sh=true
 ·obtain⟨M,R,b2⟩:=gG (k:=⟨setFr k.m f (jJ (aF k.m f)),k.e⟩) (p:=q) (n:=n) (x:=aJ k.m p n) S t (ku h.pt p n);have b:=λa j=>kR (m:=setFr k.m f (jJ (aF k.m f))) (p:=q) L M a j;obtain⟨c1,c2⟩:=Fv h Y k1 C L h0 J v (λ_=>G) (λhx=>by have:=w.2.1 G;omega);refine⟨_,?_,c1,c2,d.trans fK.setTb,rfl,rfl,rfl,rfl,dK,rfl,o,λ_=>Aq,λa j O => ?_,λj F => ?_,λj F => ?_⟩
  ·unfold lJ;simp only;rw[if_neg K,hb,if_pos G];rw[show dU k (aJ k.m p n).n 1=dU k (f:Int) 1 by rw[C],U,R];rfl
  ·have:=b a j;rw[if_neg (λA=>O A.1)]at this;exact⟨congrArg En.k this,congrArg En.n this⟩
  ·have i:=bF.1 F;subst i;have:=b q j;rw[if_pos ⟨rfl,rfl⟩]at this;exact⟨congrArg En.k this,congrArg En.n this⟩
  have:=b q j;rw[if_neg (λA=>F (bF.2 A.2))]at this;exact this
 have z:iE ⟨1,f,false⟩=0:=(dA).2 (.inr (.inl ⟨rfl,by show(0:Int)<=f;omega,by have:=((eF _).1 h.pt.fr).1;show(f:Int)<40;omega⟩));obtain⟨M,R,b2⟩:=gG (k:=⟨setFr k.m f (jJ (aF k.m f)),k.e⟩) (p:=p) (n:=n) (x:=⟨1,f,false⟩) S t z;obtain⟨t0,d1,d2⟩:=gG (k:=⟨setTb (setFr k.m f (jJ (aF k.m f))) p (setT (bQ (setFr k.m f (jJ (aF k.m f))) p).tb n ⟨1,f,false⟩),k.e⟩) (p:=q) (n:=n) (x:=⟨1,f,false⟩) b2 t z;have l:=λa j=>kR (m:=setFr k.m f (jJ (aF k.m f))) (p:=p) hp M a j;have c:=λa j=>kR (m:=aS (setFr k.m f (jJ (aF k.m f))) p n ⟨1,f,false⟩) (p:=q) (by show q<(setTb _ _ _).sp.length;rw[um];exact L) t0 a j;obtain⟨c1,c2⟩:=Ow h Y N k1 C L h0 J v;refine⟨_,?_,c1,c2,(d.trans fK.setTb).trans fK.setTb,rfl,rfl,rfl,rfl,dK,rfl,o,λ_=>Aq,λa j O => ?_,λj F => ?_,λj F => ?_⟩
 ·unfold lJ;simp only;rw[if_neg K,hb,if_neg G,k1];rw[show dU k (aJ k.m p n).n 1=dU k (f:Int) 1 by rw[C],U,C,R,d1];rfl
 ·have I:=c a j;rw[if_neg (λA=>O A.1)]at I;have V:=l a j;have h3:aJ (aS (aS (setFr k.m f (jJ (aF k.m f))) p n ⟨1,f,false⟩) q n ⟨1,f,false⟩) a j=if a=p/\j=n then⟨1,f,false⟩else aJ k.m a j:=I.trans V;rw[h3]
  by_cases e:a=p/\j=n
  ·rw[if_pos e,e.1,e.2];exact⟨k1.symm,C.symm⟩
  ·rw[if_neg e];exact⟨rfl,rfl⟩
 ·have i:=bF.1 F;subst i;have I:=c q j;rw[if_pos ⟨rfl,rfl⟩]at I;have h3:aJ (aS (aS (setFr k.m f (jJ (aF k.m f))) p j ⟨1,f,false⟩) q j ⟨1,f,false⟩) q j=⟨1,f,false⟩:=I;rw[h3];exact⟨k1.symm,C.symm⟩
 have I:=c q j;rw[if_neg (λA=>F (bF.2 A.2))]at I;have V:=l q j;rw[if_neg (λA=>N A.1.symm)]at V;exact I.trans V
theorem Shared.refl(h:Rt m)(u:Co m)(p q:Nat):Shared m m p q []:=⟨h,u,.refl _,rfl,rfl,rfl,rfl,rfl,rfl,λ_ => .refl _,λ_=>Aq,λ_ _ _=>⟨rfl,rfl⟩,λj d=>(by cases d),λ_ _=>rfl⟩
theorem Shared.trans{a b c:Ma}(A:p≠q)(h:Shared a b p q D)(k:Shared b c p q E)(C:∀j∈D,¬j∈E):Shared a c p q (D++E):=by
 refine⟨k.rt,k.co,h.sk.trans k.sk,k.st.trans h.st,k.dk.trans h.dk,k.sw.trans h.sw,k.ca.trans h.ca,k.len.trans h.len,k.sll.trans h.sll,λg=>(h.fr g).trans (k.fr g),λs=>(k.sl s).trans (h.sl s),λx j G => ?_,λj d => ?_,λj d => ?_⟩
 ·have y:=h.oth x j G;have u:=k.oth x j G;exact⟨u.1.trans y.1,u.2.trans y.2⟩
 ·rcases ik.1 d with d|d
  ·rw[k.chn j (C j d)];exact h.chd j d
  have y:=k.chd j d;have u:=h.oth p j A;exact⟨y.1.trans u.1,y.2.trans u.2⟩
 ·rw[k.chn j (λF=>d (ik.2 (.inr F))),h.chn j (λF=>d (ik.2 (.inl F)))]
theorem Jk{p q:Nat}(u:p≠q):∀(l:List Int) (k:Kp),Rt k.m->Co k.m->q<k.m.sp.length->(bQ k.m q).ar=(bQ k.m p).ar->l.Nodup->(∀n∈l,(aJ k.m p n).k≠0/\(aJ k.m q n).k=0) ->
  ∃m',nZ k p q l=⟨m',k.e⟩/\Shared k.m m' p q l
 | [],k,h,hc,_,_,_,_=>⟨k.m,rfl,.refl h hc p q⟩
 | n::l,k,h,hc,hq,har,hnd,hl=>by obtain⟨A,M,y⟩:=OM h hc u hq har (hl n jN).1 (hl n jN).2;have d:=tY.1 hnd;obtain⟨K,I,L⟩:=Jk u l ⟨A,k.e⟩ y.rt y.co (by show q<A.sp.length;rw[y.sk.len];exact hq) (by show(bQ A q).ar=(bQ A p).ar;rw[y.sk.ar,y.sk.ar];exact har) d.2 (λj C=>by have F:j≠n:=λe=>d.1 (e▸C);have O:=y.oth p j u;have N:=y.chn j (λG=>F (bF.1 G));have J:=hl j (jh _ C);exact⟨by show(aJ A p j).k≠0;rw[O.1];exact J.1,by show(aJ A q j).k=0;rw[N];exact J.2⟩);refine⟨K,?_,y.trans u L (λj C G=>d.1 (bF.1 C▸G))⟩;unfold nZ at I ⊢;rw[BQ,M,I]
theorem Wp(k:Kp)(f n:Int):(dU k f n).m.sp=k.m.sp:=by unfold dU;split<;>rfl
theorem xZ(k:Kp)(p:Nat)(n:Int)(e:En):(dD k p n e).m.sp.length=k.m.sp.length/\∀j,(bQ (dD k p n e).m j).ar=(bQ k.m j).ar:=by
 unfold dD;split
 ·refine⟨by unfold setTb;exact bV,λj => ?_⟩;unfold setTb bQ;simp only[bA,qd];split
  ·rename_i e;subst e;split
   ·simp
   ·rename_i h;rw[dP (by omega)]
  ·rfl
 ·exact⟨rfl,λ_=>rfl⟩
theorem Eh(h:H'.ma.sp.length=H.ma.sp.length):H'.sp.length=H.sp.length:=by rw[qm,qm]at h;exact h
theorem KS.box{y:Nat}(h:KS w0 b H0 w H)(d:w.grownBy w' (some y))(C:w0.heap.size<=y):KS w0 b H0 w' H:=
 ⟨d.os.trans h.os,d.tape.trans h.tape,d.output.trans h.output,aX h.size d.size,λx u A=>(d.block x (jq u h.size) (λe=>by have e' : x=y:=aU e;omega)).trans (h.keep x u A),h.sn⟩
def TbN(H:MH)(y:Nat):Prop:=∀p∈H.sp,∀k:Nat,∀v,(vo p.ts)[k]?=some v->v.ownBlock≠some y
theorem TbN.new(h:qp w B H){y:Nat}(K:w.heap.size<=y):TbN H y:=λp C k v d e=>by
 have u:=(h.ps p C).2;have F:k<8:=by have:=(iB.1 d).1;rw[u.sz]at this;exact this
 obtain⟨J,A,I⟩:=u.own k F;rw[d]at A;cases A;obtain⟨cs,G⟩:=sS I y e;have:=G.lt;omega
theorem xE.keepN{t:Tb}(h:xE w B cs t)(A:∀(k:Nat) v,cs[k]?=some v->v.ownBlock≠some g)(d:w.grownBy w' (some g)):xE w' B cs t:=
 ⟨h.sz,λk C=>by obtain⟨v,y,F⟩:=h.own k C;exact⟨v,y,F.grown d (λG u e=>A k v y (by rw[u,<-e]))⟩,h.apart⟩
theorem iw.boxE{y:Nat}(h:iw w B b H e)(u:aK w y cs 68)(C:TbN H y)(d:w.grownBy w' (some y)):iw w' B b H e:=
 have m:=h.ma
 ⟨aG h.blk u d,h.ge,⟨aA m.fr u d,aA m.sl u d,m.sw.keep u (by decide) (by decide) d,m.dk.keep u (by decide) (by decide) d,m.st.keep u (by decide) (by decide) d,aA m.ca u d,aA m.sp u d,
  λp A=>⟨aA (m.ps p A).1 u d,(m.ps p A).2.keepN (C p A) d⟩,m.c64⟩,h.tz⟩
theorem entTy:68≠109/\68≠66/\68≠122/\68≠76:=by decide
theorem enR{y:Nat}{x:En}(h:aK w y (pq x) 68):eD w (some ⟨y,0,none⟩) [.int .i64 x.k,.int .i64 x.n,.bool x.w]:=cK h 0 3
theorem OP(H:MH)(e n:Int)(p q:Nat)(B b:Nat)(w:World)(h:iw w B b H e)(hp:p<H.sp.length)(hq:q<H.sp.length)(hf:0<=fB (bQ H.ma p).ar n) :
  Calls Tryz.prog 68 #[.pointer (some ⟨b,0,none⟩),.int .i64 p,.int .i64 q,.int .i64 n] w λr w'=>r = .returned (.tuple #[])/\KR w B b H w' (lJ ⟨H.ma,e⟩ p q n):=by
 obtain⟨P,hP⟩:∃P,H.sp[p]?=some P:=⟨_,aM hp⟩;have hG:=ae (sP hP);have ko:=ae hf;clear hf;obtain⟨g,off,kq,kh,hT,hg⟩:=h.at hP;have hc:=h.blk.cell;unfold lm at hc;rw[kq]at hc;have kx:(p:Int)<(H.sp.length:Int):=by omega
 go_enter func68,ntmps68
 go_wp2_with (refine ay g (off+p*10+2) _ hT _ underlying74 tab_agg tab_size ?_)
 refine(wI P.tb (vo P.ts) n _ hg.tb).mono ?_;rintro r J ⟨rfl,hB⟩;have h1:=h.below hB;have s1:=(KS.refl w b H).below hB;clear hc kh hT hg;generalize hx:dR P.tb n=x
 go_wp2_with (refine aT (pq x) entry_size (by simp[pq,Value.oneCell']) ?_)
 intro A hM t;have kc:=ae (TbN.new h1.ma (aC _));have kg:Hid (w.heap.size<=J.heap.size):=ae hB.size;have L:=h1.below hM;have s2:=s1.below hM;clear h1 s1 hB hM h;have hy:=t.cell;unfold pq at hy;have hs:Hid (aJ H.ma p n=x):=ae (by unfold aJ;rw[hG.out];exact hx);clear hx
 by_cases F:x.k=2
 ·rw[F]at hy;have hO:=ae F;clear F;have hZ:=L.blk.cell;unfold lm at hZ;go_upto_region 2 with(fail);refine gX 13 [_,_,_,_,_,_,_,.r 7 ((tJ A.heap.size 3 1 (bq H.sl x.n 1).length ((bq H.sl x.n 1).map ib) (bK H.sl x.n 1))),.r 8 ((tJ A.heap.size 3 1 (bq H.sl x.n 1).length ((bq H.sl x.n 1).map ib) (bK H.sl x.n 1))),.r 9 ((il A.heap.size 3 1 (bq H.sl x.n 1).length ((bq H.sl x.n 1).map ib))),.v (.int .i64 (bK H.sl x.n 1)),.r 11 ((il A.heap.size 3 1 (bq H.sl x.n 1).length ((bq H.sl x.n 1).map ib))),.v (.int .i64 (bK H.sl x.n 1))] (λW=>Below A.heap.size A W) bH (Below.refl _ _) (Yk bH rfl (Yk bH rfl (Yf bH b 0 rfl rfl (Yf bH b 2 rfl rfl (Yc bH (.slice H.asl H.sl.length H.csl) (λW C=>by simp[(L.below C).blk.cell,lm]) rfl rfl rfl rfl (Yf bH J.heap.size 1 rfl rfl (Yc bH (.int .i64 x.n) (λW C=>by simp[(t.ext C).cell,pq]) rfl rfl rfl rfl (aj ?_ (aj ?_ (aj ?_ (aj ?_ (aj ?_ (Yk bH rfl (aH)))))))))))))) (λ_=>rfl) rfl ?_
  ·intro ρ y W G X C I;refine fw C ((tJ A.heap.size 3 1 (bq H.sl x.n 1).length ((bq H.sl x.n 1).map ib) (bK H.sl x.n 1))) ?_;have kw:=G 31 4 rfl;have O:y 4=_:=I 4 rfl;have kv:=G 33 6 rfl;have h6:y 6=_:=I 6 rfl;have EC:∀v,ρ (.const v)=v:=λv=>X (.const v) trivial;have EF:=eF0 X λ_=>trivial;refine aL (aW rfl (EF _) func91 (by simp only[bU,bM,bP,kw,O,kv,h6,EC,EF];rfl)) ?_;have hm:=(L.below C).ma.rd.sl;refine(zU H.sl H.asl H.csl x.n 1 W hm.le hm.nl hm.rd (by have:=hm.le;have:=hm.mx;unfold maxLen at this;omega)).mono ?_;rintro r R ⟨u,rfl,ho,kp⟩;exact⟨_,rfl,kp,u,rfl,ho.mono C.size⟩
  ·intro ρ y W G X C I;refine fw C ((tJ A.heap.size 3 1 (bq H.sl x.n 1).length ((bq H.sl x.n 1).map ib) (bK H.sl x.n 1))) ?_;have ku:=G 34 7 rfl;have h7:=I 7 rfl;refine ak _ (run_move (.inl rfl) ku) (m:=?_);exact h7
  ·intro ρ y W G X C I;refine fw C ((il A.heap.size 3 1 (bq H.sl x.n 1).length ((bq H.sl x.n 1).map ib))) ?_;have hN:=G 26 8 rfl;have h8:=I 8 rfl;obtain⟨u,K,ho⟩:=h8;refine ak u (by simp[execOp,go_sem,bJ,hN,K]) (m:=?_);exact ho
  ·intro ρ y W G X C I;refine fw C (fQ (.int .i64 (bK H.sl x.n 1))) ?_;have hN:=G 26 8 rfl;have h8:=I 8 rfl;obtain⟨u,K,ho⟩:=h8;refine ak (.int .i64 (bK H.sl x.n 1)) (by simp[execOp,go_sem,bJ,hN,K])
  ·intro ρ y W G X C I;refine fw C ((il A.heap.size 3 1 (bq H.sl x.n 1).length ((bq H.sl x.n 1).map ib))) ?_;have kt:=G 35 9 rfl;have h9:=I 9 rfl;refine ak _ (run_move (.inr rfl) kt) (m:=?_);exact h9
  intro y R c i;replace c:Below A.heap.size A R:=c;have kf:((tJ A.heap.size 3 1 (bq H.sl x.n 1).length ((bq H.sl x.n 1).map ib) (bK H.sl x.n 1))).r (y 7) R:=i 7 (by decide);have ke:((tJ A.heap.size 3 1 (bq H.sl x.n 1).length ((bq H.sl x.n 1).map ib) (bK H.sl x.n 1))).r (y 8) R:=i 8 (by decide);have kd:((il A.heap.size 3 1 (bq H.sl x.n 1).length ((bq H.sl x.n 1).map ib))).r (y 9) R:=i 9 (by decide);have hC:((il A.heap.size 3 1 (bq H.sl x.n 1).length ((bq H.sl x.n 1).map ib))).r (y 11) R:=i 11 (by decide);clear i;simp only[dS,bJ,bM,bP];have hl:Own R A.heap.size 3 1 (y 11) (bq H.sl x.n 1).length ((bq H.sl x.n 1).map ib):=hC;obtain⟨a3,c3,e7,_⟩:=Own.rd hl;rw[e7]at hl;simp only[e7];have V:=L.below c;have M:=s2.below c;have ha:=t.ext c;have kn:=ae (aX L.bs (aC _));clear kf ke kd hC e7 hy hZ L s2 t c
  by_cases h0:bK H.sl x.n 1=0
  ·have o:Hid (lJ ⟨H.ma,e⟩ p q n=dD ⟨{ H.ma with sl:=bq H.sl x.n 1 },e⟩ q n x):=ae (by unfold lJ;simp only[hs.out];rw[if_pos hO.out];exact if_neg (λh=>h h0));rw[h0]
   go_wp2_with (first | (refine aY b 2 [.slice a3 (bq H.sl x.n 1).length c3] rfl rfl rfl _ _ V.blk (by show 2+1<=12;decide) slots_size (λu K=>by cases bF.1 K;rfl) ?_))
   intro Y z d;have N:=V.setL (hl.mono kn.out) z d;have U:KS w b H Y { H with asl:=a3,csl:=c3,sl:=bq H.sl x.n 1 }:=M.putB d rfl rfl rfl;have j:=enR (aG ha V.blk d);clear M V hl ha
   go_wp2_with (refine ay J.heap.size 0 _ j _ underlying68 rfl entry_size ?_)
   refine(gJ _ e n q x B b _ N hq).mono ?_;rintro r w6 ⟨rfl,hH⟩;go_wp2;simp[bodyPost,results,go_sem,results68];rw[o.out];exact KR.trans U hH
  have o:Hid (lJ ⟨H.ma,e⟩ p q n=⟨H.ma,bK H.sl x.n 1⟩):=ae (by unfold lJ;simp only[hs.out];rw[if_pos hO.out];exact if_pos h0)
  go_wp2_with (refine aY b 11 [.int .i64 (bK H.sl x.n 1)] rfl rfl rfl _ _ V.blk (by show 11+1<=12;decide) (by kernel_rfl) (λu K=>by cases bF.1 K;rfl) ?_)
  intro Y z d;have N:=V.setE z d;have U:KS w b H Y H:=M.putB d rfl rfl rfl;go_wp2;simp[bodyPost,results,go_sem,results68];rw[o.out];exact⟨_,_,N,U,rfl⟩
 go_wp2_with fail
 refine(NA H e x.n 1 B b _ L).mono ?_;rintro r w3 ⟨rfl,S,e3,h3,M,q3,hj⟩;have ha:=M.blk L t entTy;have Z:=s2.trans M;have ks:Hid (TbN S J.heap.size):=ae (by unfold TbN;rw[hj];exact kc.out);have kb:S.sp[p]?=some P:=by rw[hj];exact hP
 have hV:=ae q3;have hr:=ae hj;clear hy M q3 hj L s2 t kc;obtain⟨g3,off3,ka,hE,hS,s⟩:=h3.at kb;have hA:=s.ars;have hL:=h3.blk.cell;unfold lm at hL;rw[ka,hr.out]at hL;have hv:w3.cell? ⟨g3,off3+p*10+1,none⟩=some (.slice P.aa P.ar.length P.ac):=by obtain⟨b',o',e',hh⟩:=hE 1 _ rfl;cases e';exact hh
 go_wp2_with fail
 refine(Db P.ar n P.aa P.ac _ hA.rd (by have:=hA.le;have:=hA.mx;unfold maxLen at this;omega)).mono ?_;rintro r w4 ⟨rfl,hz⟩;clear hL hv hE hS;obtain⟨k,hk,hY,_⟩:=xz (q:=wY n) (l:=P.ar) (by show 0<=fB P.ar n;have:=ko.out;rw[hG.out]at this;exact this);have hI : fB P.ar n=k:=hk;obtain⟨ba,oa,kr,hF⟩:=oU jZ (hA.below hz).rd k hY;have hQ:Hid (shA (bQ H.ma p).ar n=(P.ar[k]).sh):=ae (by rw[hG.out];unfold shA;show(P.ar.getD (fB P.ar n).toNat zAr).sh=_;rw[hI,bu,bA,aM hY];rfl);generalize P.ar[k]=a at *
 rw[hI];have O:=h3.below hz;have s4:=Z.below hz;have hi:=ha.ext hz;obtain⟨g4,off4,h5,hD,hR,ht⟩:=O.at kb;have hK:=O.blk.cell;unfold lm at hK;rw[h5,hr.out]at hK;have hv:w4.cell? ⟨g4,off4+p*10+1,none⟩=some (.slice P.aa P.ar.length P.ac):=by obtain⟨b',o',e',hh⟩:=hD 1 _ rfl;cases e';exact hh
 rw[kr]at hv;have hJ:w4.cell? ⟨ba,oa+k*7+4,none⟩=some (.bool a.sh):=by obtain⟨b',o',e',hh⟩:=hF 4 _ rfl;cases e';exact hh
 have ky:(k:Int)<(P.ar.length:Int):=by omega
 have hW : Hid (q<S.sp.length):=ae (by rw[hr.out];exact hq);have kk : Hid (p<S.sp.length):=ae (by rw[hr.out];exact hp);clear hk hI hA hD hR ht s h3 Z ha hF;have hX:=ae F;clear F;cases hash:a.sh with
 | true=>
  rw[hash]at hJ;have o:Hid (lJ ⟨H.ma,e⟩ p q n=dD (dU ⟨H.ma,e⟩ x.n 1) q n x):=ae (by unfold lJ;simp only[hs.out];rw[if_neg hX.out,if_pos (by rw[hQ.out];exact hash)]);have j:=enR hi
  go_wp2_with (refine ay J.heap.size 0 _ j _ underlying68 rfl entry_size ?_)
  refine(gJ S e3 n q x B b _ O hW.out).mono ?_;rintro r w6 ⟨rfl,hH⟩;go_wp2;simp[bodyPost,results,go_sem,results68];rw[o.out,<-hV.out];exact KR.trans s4 hH
 | false=>
  rw[hash]at hJ;have o:Hid (lJ ⟨H.ma,e⟩ p q n=dD (dD (dU ⟨H.ma,e⟩ x.n 1) p n ⟨x.k,x.n,false⟩) q n ⟨x.k,x.n,false⟩):=ae (by unfold lJ;simp only[hs.out];rw[if_neg hX.out,if_neg (by rw[hQ.out,hash];decide)])
  go_wp2_with (refine aY J.heap.size 2 [.bool false] rfl rfl rfl _ _ hi (by show 2+1<=3;decide) (by kernel_rfl) (λu K=>by cases bF.1 K;rfl) ?_)
  intro Y z d;have N:=O.boxE hi ks.out d;have U:=s4.box d kg.out;have j:aK Y J.heap.size (pq ⟨x.k,x.n,false⟩) 68:=z;have hU:=enR j;clear hv hJ hK O s4 hi z
  go_wp2_with (refine ay J.heap.size 0 _ hU _ underlying68 rfl entry_size ?_)
  refine(gJ S e3 n p ⟨x.k,x.n,false⟩ B b _ N kk.out).mono ?_;rintro r w6 ⟨rfl,H6,e6,h6,s6,q6⟩;have ki:=enR (s6.blk N j entTy);have s6':=U.trans s6;have kj:=ae q6;have kl:Hid (q<H6.sp.length):=ae (by have e1:=congrArg (λk=>k.m.sp.length) q6;have e2:=(xZ ⟨S.ma,e3⟩ p n ⟨x.k,x.n,false⟩).1;rw[Eh (e1.trans e2)];exact hW.out);clear s6 q6 U N j hU
  go_wp2_with (refine ay J.heap.size 0 _ ki _ underlying68 rfl entry_size ?_)
  refine(gJ H6 e6 n q ⟨x.k,x.n,false⟩ B b _ h6 kl.out).mono ?_;rintro r w7 ⟨rfl,km⟩;go_wp2;simp[bodyPost,results,go_sem,results68];rw[o.out,<-hV.out,<-kj.out];exact KR.trans s6' km
theorem srt_len:∀ {l:List Nat} {a n:Nat},l.Pairwise (· < ·)->(∀x∈l,a<=x/\x<n)->l.length<=n-a
 | [],_,_,_,_=>by simp
 | x::l,a,n,hs,h=>by obtain⟨A,u⟩:=vJ.1 hs;have C:=h x jN;have:=srt_len (a:=x+1) (n:=n) u λy d=>⟨A y d,(h y (jh _ d)).2⟩;rw[ou];omega
theorem ZG(h:vR m)(G:aQ m.st=0):m.ca.length<=60:=by
 have A:∀c∈m.ca,0<=c.f/\c.f<5/\0<=c.i/\c.i<12:=λc C=>by have u:=h.file c C;have K:=Ag G u;have M:=u.1;have L:=u.2;omega
 have y:=srt_len (l:=m.ca.map λc=>(12*c.f+c.i).toNat) (a:=0) (n:=60) ?_ λx F => ?_
 ·simpa using y
 ·rw[List.pairwise_map];refine List.Pairwise.imp_of_mem ?_ h.srt;intro a b J I d;have u:=A a J;have K:=A b I;unfold EG at d;show(12*a.f+a.i).toNat<(12*b.f+b.i).toNat;omega
 obtain⟨c,C,rfl⟩:=fD.1 F;have u:=A c C;show 0<=(12*c.f+c.i).toNat/\(12*c.f+c.i).toNat<60;omega
theorem TJ(u:aQ s=0):∀f∈s.fs,f.b.length<=12:=λf A=>by
 obtain⟨k,y,rfl⟩:=jK.1 A;have h:=iK u (f:=(k:Int)) ⟨by omega,by omega⟩;have d:az s (k:Int)=s.fs[k]:=iN (aM y);rw[d]at h;obtain⟨G,F,C,_⟩:=h;have e:(s.fs[k].b.length:Int)<=12:=by rw[C];unfold bn;split<;>omega
 omega
structure Forked (m m' : Ma) (p q:Nat):Prop where
 rt:Rt m'
 co:Co m'
 st:m'.st=m.st
 dk:m'.dk=m.dk
 sw:m'.sw=m.sw
 ca:m'.ca=m.ca
 len:m'.m.fs.length=m.m.fs.length
 sll:m'.sl.length=m.sl.length
 fr:∀g,yw (aF m g) (aF m' g)
 sl:∀s,iT m' s=0↔iT m s=0
 spl:m'.sp.length=max m.sp.length (q+1)
 spq:(bQ m' q).lv=true/\(bQ m' q).ar=(bQ m p).ar
 spo:∀a,a≠q->(bQ m' a).lv=(bQ m a).lv/\(bQ m' a).ar=(bQ m a).ar
 oth:∀a j,a≠q->alike (aJ m a j) (aJ m' a j)
 chd:∀j,alike (aJ m p j) (aJ m' q j)
theorem YW{s:Sp}(q:Nat):bQ { m with sp:=m.sp++[s] } q=if q=m.sp.length then s else bQ m q:=by
 unfold bQ;show(m.sp++[s]).getD q zSp=_;rw[bA,yP]
 by_cases e:q<m.sp.length
 ·rw[if_pos e,if_neg (by omega),bA]
 rw[if_neg e]
 by_cases d:q=m.sp.length
 ·rw[if_pos d,d,yU];rfl
 ·rw[if_neg d,bA,dP (by simp;omega),dP (by omega)]
theorem WR(h:Rt m)(u:Co m)(C:p<m.sp.length)(d:q=m.sp.length/\m.sp.length<4\/q<m.sp.length/\(bQ m q).lv=false) :
  Rt (iA m p q)/\Co (iA m p q)/\(iA m p q).sp.length=max m.sp.length (q+1)/\(∀a,bQ (iA m p q) a=if a=q then⟨true,(bQ m p).ar,zTb⟩else bQ m a):=by
 unfold iA;rcases d with⟨d,A⟩|⟨d,y⟩
 ·rw[if_pos d];have:=GV h u (s:=⟨true,(bQ m p).ar,zTb⟩) A rfl (h.pt.arN p) rfl;refine⟨this.1,this.2,by simp;omega,λa => ?_⟩;rw[YW,d]
 rw[if_neg (by omega)];have:=Sg h u (q:=q) (s:=⟨true,(bQ m p).ar,zTb⟩) d (h.live q y).2 (h.pt.arN p) (λe=>by cases e) rfl;refine⟨this.1,this.2,by unfold rR;rw[bV];omega,λa=>qF d a⟩
theorem QV(h:Rt m)(N:Co m)(L:p<m.sp.length)(K:(bQ m p).lv=true)(G:q=m.sp.length/\m.sp.length<4\/q<m.sp.length/\(bQ m q).lv=false) :
  ∃m',FM m p q=⟨m',0⟩/\Forked m m' p q:=by
 obtain⟨a1,a2,Z,y⟩:=WR h N L G;have d:p≠q:=by
  rintro rfl;rcases G with⟨e,_⟩|⟨_,e⟩
  ·omega
  ·rw[K]at e;cases e
 have i:(iA m p q).m=m.m/\(iA m p q).st=m.st/\(iA m p q).dk=m.dk/\(iA m p q).sw=m.sw/\(iA m p q).ca=m.ca/\(iA m p q).sl=m.sl:=by unfold iA rR;split<;>exact⟨rfl,rfl,rfl,rfl,rfl,rfl⟩
 obtain⟨J,X,W,V,U,I⟩:=i;have b:∀a j,a≠q->aJ (iA m p q) a j=aJ m a j:=λa j A=>by unfold aJ;rw[y,if_neg A]
 have c:∀j,aJ (iA m p q) q j=zEn:=λj=>by unfold aJ;rw[y,if_pos rfl,uf]
 obtain⟨m',Y,u⟩:=Jk d (aV (bQ m p).tb) ⟨iA m p q,0⟩ a1 a2 (by show q<(iA m p q).sp.length;omega) (by show(bQ (iA m p q) q).ar=(bQ (iA m p q) p).ar;rw[y,y,if_pos rfl,if_neg d]) (DU _) (λn M=>by have:=lZ.1 M;refine⟨by show(aJ (iA m p q) p n).k≠0;rw[b p n d];exact this.2,by show(aJ (iA m p q) q n).k=0;rw[c];rfl⟩);have l:∀g,aF (iA m p q) g=aF m g:=λg=>uB J g;have f:∀s,iT (iA m p q) s=iT m s:=λs=>by unfold iT;rw[I]
 refine⟨m',Y,u.rt,u.co,u.st.trans X,u.dk.trans W,u.sw.trans V,u.ca.trans U,u.len.trans (by show(iA m p q).m.fs.length=_;rw[J]),u.sll.trans (by show(iA m p q).sl.length=_;rw[I]),λg=>by rw[<-l];exact u.fr g,λs=>by rw[<-f];exact u.sl s,?_,?_,λa A => ?_,λa j A => ?_,λj => ?_⟩
 ·exact u.sk.len.trans Z
 ·refine⟨(u.sk.lv q).trans ?_,(u.sk.ar q).trans ?_⟩
  ·show(bQ (iA m p q) q).lv=true;rw[y,if_pos rfl]
  ·show(bQ (iA m p q) q).ar=_;rw[y,if_pos rfl]
 ·refine⟨(u.sk.lv a).trans ?_,(u.sk.ar a).trans ?_⟩
  ·show(bQ (iA m p q) a).lv=_;rw[y,if_neg A]
  ·show(bQ (iA m p q) a).ar=_;rw[y,if_neg A]
 ·rw[<-b a j A];exact u.oth a j A
 by_cases C:j∈aV (bQ m p).tb
 ·have:=u.chd j C;rw[show aJ (Kp.m ⟨iA m p q,0⟩) p j=aJ m p j from b p j d]at this;exact this
 have S:aJ m' q j=aJ (iA m p q) q j:=u.chn j C;rw[S,c];have R:(aJ m p j).k=0:=by
  by_cases O:0<=j/\j<64
  ·by_cases F:(aJ m p j).k=0
   ·exact F
   ·exact absurd (lZ.2 ⟨O,F⟩) C
  ·rw[KT p (by omega)];rfl
 have F:=(dA).1 (ku h.pt p j);exact⟨R.symm,by show(0:Int)=_;omega⟩
theorem CP(y:m'.st=m.st)(C:m'.dk=m.dk)(A:m'.sw=m.sw)(F:m'.ca=m.ca)(u:∀g,(aF m' g).p=(aF m g).p/\(aF m' g).f=(aF m g).f)(G:(bQ m' q).ar=(bQ m p).ar)(J:alike (aJ m p n) (aJ m' q n)):jy m' q n=jy m p n:=by
 have d:∀a b,aN m' a b=aN m a b:=λa b=>by
  unfold aN;rw[F,y,C];cases m.ca.find? λc=>decide (c.f=a)&&decide (c.i=b)with
  | none=>rfl
  | some c=>exact(u c.k.toNat).1
 have I:eP m' q n=eP m p n:=by unfold eP;rw[G]
 cases hg:eP m p n with
 | none=>rw[qR hg,qR (I.trans hg)]
 | some g=>
  rw[jd hg,jd (I.trans hg)];unfold wJ;rw[J.1,J.2,A,y,d];have L:=(u (aJ m p n).n.toNat).1;have K:=(u (aJ m p n).n.toNat).2;have h : (gQ m' (aJ m p n).n).p=(gQ m (aJ m p n).n).p:=L;have e : (gQ m' (aJ m p n).n).f=(gQ m (aJ m p n).n).f:=K;rw[h,e]
theorem Df(d:m'.st=m.st)(u:m'.dk=m.dk)(y:m'.ca=m.ca)(h:∀g,(aF m' g).p=(aF m g).p)(a b:Int):aN m' a b=aN m a b:=by
 unfold aN;rw[y,d,u];cases m.ca.find? λc=>decide (c.f=a)&&decide (c.i=b)with
 | none=>rfl
 | some c=>exact h c.k.toNat
theorem Less.zero(h:Rt m)(u:Co m)(y:(aJ m p n).k=0):Less m m p n:=by
 refine⟨h,u,.refl _ _,rfl,rfl,rfl,rfl,rfl,rfl,λq j => ?_,λ_ _=>⟨rfl,rfl,rfl,rfl,rfl⟩⟩
 by_cases e:q=p/\j=n
 ·rw[if_pos e,e.1,e.2];have d:=(dA).1 (ku h.pt p n);rcases d with d|d|d
  ·show aJ m p n=⟨0,0,false⟩;cases hx:aJ m p n;rw[hx]at d;simp only at d;rw[d.1,d.2.1,d.2.2]
  ·omega
  ·omega
 ·rw[if_neg e]
theorem Jp{k:Kp}(h:Rt k.m)(d:Co k.m)(p:Nat)(n:Int):∃m',jM k p n=⟨m',k.e⟩/\Less k.m m' p n:=by
 rcases YP h d p n with⟨u,e⟩|y
 ·exact⟨k.m,e,.zero h d u⟩
 ·exact y
structure Gone (m m' : Ma) (p:Nat):Prop where
 rt:Rt m'
 co:Co m'
 st:m'.st=m.st
 dk:m'.dk=m.dk
 sw:m'.sw=m.sw
 ca:m'.ca=m.ca
 len:m'.m.fs.length=m.m.fs.length
 sll:m'.sl.length=m.sl.length
 spl:m'.sp.length=m.sp.length
 sp:∀a,a=p->bQ m' a=zSp
 spo:∀a,a≠p->(bQ m' a).lv=(bQ m a).lv/\(bQ m' a).ar=(bQ m a).ar/\∀n,aJ m' a n=aJ m a n
 see:∀a n,a≠p->jy m' a n=jy m a n
 con:∀f i,jk m.st f i->aN m' f i=aN m f i
 fr:∀g,(aF m' g).r≠0->(aF m' g).p=(aF m g).p/\(aF m' g).u=(aF m g).u/\(aF m' g).d=(aF m g).d/\(aF m' g).f=(aF m g).f/\(aF m' g).i=(aF m g).i
def ko(x:Fr)(P:Page)(d:Bool):Fr:={ x with p:=P,d:=d }
theorem UJ(h:Rt m)(F:Co m){P:Page}{d:Bool}(I:g<m.m.fs.length)(M:(aF m g).r≠0)(G:∀c∈m.ca,c.k.toNat=g->aO P ((az m.st c.f).n-c.i*8)=P/\(d=true\/P=dh m c.f c.i))(O:d=true->0<=(aF m g).f) :
  Rt (setFr m g (ko (aF m g) P d))/\Co (setFr m g (ko (aF m g) P d)):=by
 have q:dn (ko (aF m g) P d)=0:=by have u:=(dV _).1 (h.pt.frE I);rw[dV];exact⟨u.1,λe=>absurd e M,u.2.2⟩
 have o:∀x,aF (setFr m g (ko (aF m g) P d)) x=if x=g then ko (aF m g) P d else aF m x:=λx=>fP I x;have j:∀x,(aF (setFr m g (ko (aF m g) P d)) x).r=(aF m x).r/\(aF (setFr m g (ko (aF m g) P d)) x).f=(aF m x).f/\(aF (setFr m g (ko (aF m g) P d)) x).i=(aF m x).i:=λx=>by
  rw[o]
  by_cases e:x=g
  ·rw[if_pos e,e];exact⟨rfl,rfl,rfl⟩
  ·rw[if_neg e];exact⟨rfl,rfl,rfl⟩
 have l:(setFr m g (ko (aF m g) P d)).m.fs.length=m.m.fs.length:=dK;refine⟨⟨h.pt.setFr q,h.trim,h.live,⟨h.ca.file,λc b=>by rw[l];exact h.ca.lt c b,λc b => ?_,h.ca.srt⟩,λp n N => ?_,λi A => ?_,λi A K => ?_,h.cs⟩,⟨λc b => ?_,λc b a => ?_,λi A a => ?_⟩⟩
 ·rw[(j _).1,(j _).2.1,(j _).2.2];exact h.ca.fr c b
 ·obtain⟨y,L,C⟩:=h.en p n N;refine⟨y,L,C.sw,by rw[l];exact C.lt,λs => ?_⟩;have u:=C.fr s;unfold PM at u ⊢;have e:aJ (setFr m g (ko (aF m g) P d)) p n=aJ m p n:=rfl;rw[e,(j _).1,(j _).2.1,(j _).2.2];exact u
 ·rw[(j _).1];exact h.cf i (by rw[<-l];exact A)
 ·rw[(j _).2.1]at K;exact h.fc i (by rw[<-l];exact A) K
 ·rw[o]
  by_cases e:c.k.toNat=g
  ·rw[if_pos e];exact(G c b e).1
  ·rw[if_neg e];exact F.tail c b
 ·rw[o]at a ⊢
  by_cases e:c.k.toNat=g
  ·rw[if_pos e]at a ⊢;rcases(G c b e).2 with u|u
   ·have J:d=false:=a;rw[u]at J;cases J
   ·exact u
  ·rw[if_neg e]at a ⊢; exact F.clean c b a
 rw[o]at a ⊢
 by_cases e:i=g
 ·rw[if_pos e]at a ⊢;exact O a
 ·rw[if_neg e]at a ⊢; exact F.anon i (by rw[<-l];exact A) a
theorem UV(h:Rt m)(y:Co m)(u:g<m.m.fs.length)(C:(aF m g).r≠0)(F:0<=(aF m g).f):Rt (setFr m g (ko (aF m g) (aF m g).p true))/\Co (setFr m g (ko (aF m g) (aF m g).p true))/\Aj m (setFr m g (ko (aF m g) (aF m g).p true)):=by
 have A:=UJ (P:=(aF m g).p) (d:=true) h y u C (λc b e=>⟨by have:=y.tail c b;rw[e]at this;exact this,.inl rfl⟩) (λ_=>F);have a:∀x,(aF (setFr m g (ko (aF m g) (aF m g).p true)) x).p=(aF m x).p/\(aF (setFr m g (ko (aF m g) (aF m g).p true)) x).f=(aF m x).f:=λx=>by
  rw[fP u]
  by_cases e:x=g
  ·rw[if_pos e,e];exact⟨rfl,rfl⟩
  ·rw[if_neg e];exact⟨rfl,rfl⟩
 exact⟨A.1,A.2,⟨fK.of rfl,rfl,λ_=>rfl,λ_=>rfl,λp n=>CP rfl rfl rfl rfl a rfl ⟨rfl,rfl⟩,λf i _=>Df (m:=m) (m':=setFr m g (ko (aF m g) (aF m g).p true)) rfl rfl rfl (λx=>(a x).1) f i⟩⟩
theorem Oq(h:Rt m)(G:Co m){g:Pg}(F:(aJ m p n).k=1)(L:(aJ m p n).n=f)(M:eP m p n=some g)(R:g.wr=true)(C:g.sh=true\/(aF m f).f<0/\(aF m f).r=1) :
  Rt (aS m p n ⟨1,f,true⟩)/\Co (aS m p n ⟨1,f,true⟩)/\Aj m (aS m p n ⟨1,f,true⟩):=by
 obtain⟨A,e1,hf,hr,K,U,g0,u,l⟩:=gP h F;rw[M]at u;cases u;have:A = f:=by omega
 subst this;have w:iE ⟨1,A,true⟩=0:=(dA).2 (.inr (.inl ⟨rfl,by show(0:Int)<=A; omega,by have:=((eF _).1 h.pt.fr).1;show(A : Int)<40;omega⟩));obtain⟨o,_,z⟩:=gG (k:=⟨m,0⟩) (p:=p) (n:=n) (x:=⟨1,A,true⟩) h.pt U w;have b:∀q j,aJ (aS m p n ⟨1,A,true⟩) q j=if q=p/\j=n then⟨1,A,true⟩else aJ m q j:=λq j=>kR K o q j;have v:∀q j,alike (aJ m q j) (aJ (aS m p n ⟨1,A,true⟩) q j):=λq j=>by
  rw[b]
  by_cases e:q=p/\j=n
  ·rw[if_pos e,e.1,e.2];exact⟨F.symm,L.symm⟩
  ·rw[if_neg e];exact⟨rfl,rfl⟩
 have c:∀kd i,bR (aS m p n ⟨1,A,true⟩) kd i=bR m kd i:=λkd i=>by
  have Y:=rT K o kd i;have X:vP (uw kd i (aJ m p n))=vP (uw kd i ⟨1,A,true⟩):=by rw[qY,qY,F,L]
  unfold aS;have h3:bR ({ m:=m,e:=0 }:Kp).m kd i=bR m kd i:=rfl;have W:aJ ({ m:=m,e:=0 }:Kp).m p n=aJ m p n:=rfl;rw[W,X]at Y;omega
 have a:fK m (aS m p n ⟨1,A,true⟩):=fK.setTb;refine⟨⟨z,h.trim,λq J => ?_,⟨h.ca.file,h.ca.lt,h.ca.fr,h.ca.srt⟩,λq j t => ?_,λi S=>by rw[c];exact h.cf i S,h.fc,λs C=>by rw[c];exact h.cs s C⟩,⟨G.tail,G.clean,G.anon⟩,⟨a,rfl,λ_=>rfl,λ_=>rfl,λq j=>CP rfl rfl rfl rfl (λ_=>⟨rfl,rfl⟩) (a.ar q) (v q j),λ_ _ _=>rfl⟩⟩
 ·rw[a.lv]at J;obtain⟨a1,a2⟩:=h.live q J;refine⟨by rw[a.ar];exact a1,λj=>by rw[(v q j).1];exact a2 j⟩
 have V:eP (aS m p n ⟨1,A,true⟩) q j=eP m q j:=by unfold eP;rw[a.ar]
 rw[V]
 by_cases e:q=p/\j=n
 ·rw[b,if_pos e,e.1,e.2];refine⟨g,M,λZ=>absurd (show(1:Int)=2 from Z) (by decide),λ_=>by show(A : Int)<(m.m.fs.length:Int);omega,λ_ => ?_⟩;obtain⟨f1,N,f3,f4,f5⟩:=l;refine⟨f1,N,λ_=>R,λ_ I => ?_,λ_ I => ?_⟩
  ·rcases C with C|C
   ·exact C
   have:(aF m A).f<0:=C.1;have:0<=(aF m A).f:=I;omega
  rcases C with C|C
  ·have:=N C;have:(aF m A).f<0:=I;omega
  show(aF m A).r<=1;omega
 rw[b,if_neg e]at t ⊢;obtain⟨y,O,d⟩:=h.en q j t;exact⟨y,O,d.sw,d.lt,d.fr⟩
theorem ZO{t u:Tb}(y:eU t=0)(d:eU u=0)(h:∀n,dR t n=dR u n):t=u:=by
 rw[<-Hd y,<-Hd d];unfold fU;congr 1;exact AC λn _=>h n
theorem NY(h:Pt m){x y:En}(J:p<m.sp.length)(d:0<=n/\n<64)(u:iE x=0)(I:iE y=0):aS (aS m p n y) p n x=aS m p n x:=by
 have F:=ES (h.tbN p) d I;have C:=ES (h.tbN p) d u;have A:=ES (uJ F) d u;unfold aS;have G:bQ (setTb m p (setT (bQ m p).tb n y)) p = { bQ m p with tb:=setT (bQ m p).tb n y }:=by rw[Cz J,if_pos rfl]
 rw[G];have L:setT (setT (bQ m p).tb n y) n x=setT (bQ m p).tb n x:=ZO (uJ A) (uJ C) λj=>by
  rw[Bi A,Bi C,Bi F]
  by_cases e:j=n
  ·rw[if_pos e,if_pos e]
  ·rw[if_neg e,if_neg e,if_neg e]
 show setTb (setTb m p (setT (bQ m p).tb n y)) p (setT (setT (bQ m p).tb n y) n x)=_;rw[L];unfold setTb;simp only[pO];have K:bQ ({ m with sp:=m.sp.set p { bQ m p with tb:=setT (bQ m p).tb n y } }:Ma) p = { bQ m p with tb:=setT (bQ m p).tb n y }:=G;rw[K]
def jY(m:Ma)(p:Nat)(n:Int):Ar:=(bQ m p).ar.getD (fB (bQ m p).ar n).toNat zAr
def oZ(m:Ma)(p:Nat)(n:Int)(w:Bool):Int:=if fB (bQ m p).ar n<0 then 5 else if(w=true/\(jY m p n).wr=false)\/(w=false/\(jY m p n).rd=false)then 8 else 0
def inK(r:Kp × Int)(p:Nat)(n:Int)(w:Bool):Kp × Int:=if r.2<0 then r else(dD r.1 p n ⟨1,r.2,w⟩,r.2)
def gU(k:Kp)(p:Nat)(n:Int)(a:Ar):Kp × Int:=
 let e:=aJ k.m p n
 if e.k=1 then(k,e.n)
 else if e.k=2 then
  if aI k.m.sw e.n≠0 then(k,-1)else
  let r:=fC k (dN k.m.sw e.n) (-1) 0
  if r.2<0 then(r.1,-1)else
  if bK r.1.m.sl e.n (-1)≠0 then(r.1,-1)else(dD ⟨{ r.1.m with sl:=bq r.1.m.sl e.n (-1) },r.1.e⟩ p n ⟨1,r.2,a.wr⟩,r.2)
 else if a.fi<0 then inK (fC k zPg (-1) 0) p n a.wr
 else
  let r:=cO k a.fi (a.ba+n-a.fr)
  if r.2<0 then r else(dD (dU r.1 r.2 1) p n ⟨1,r.2,a.sh&&a.wr⟩,r.2)
def xx(k:Kp)(p:Nat)(n:Int)(f:Int)(a:Ar):Kp × Int:=
 let x:=gQ k.m f
 if a.sh=true\/x.f<0/\x.r=1 then(dD k p n ⟨1,f,true⟩,f)else
 let r:=fC (jM k p n) x.p (-1) 0
 if r.2<0 then(r.1,-1)else(dD r.1 p n ⟨1,r.2,true⟩,r.2)
def mJ(m:Ma)(p:Nat)(n:Int)(w:Bool):Kp × Int:=
 let r:=gU ⟨m,0⟩ p n (jY m p n)
 if 0<=r.2/\w=true/\(aJ r.1.m p n).w=false then xx r.1 p n r.2 (jY m p n)else r
def Jr(k:Kp)(f:Int)(d:Bool):Kp:=let m1:=setFr k.m f.toNat (lN (aF k.m f.toNat));⟨if d=true then setFr m1 f.toNat (ko (aF m1 f.toNat) (aF m1 f.toNat).p true)else m1,k.e⟩
def copied(m:Ma)(p:Nat)(n:Int):Bool:=decide ((aJ m p n).k=2)||(decide ((aJ m p n).k=1)&&decide ((gQ m (aJ m p n).n).f<0))
def nR(m:Ma)(p n:Int)(w:Bool):Int:=
 if jW m≠0 then jW m else if p<0\/(m.sp.length:Int)<=p\/(bQ m p.toNat).lv=false then 5 else if oZ m p.toNat n w≠0 then oZ m p.toNat n w
 else if 0<=(jY m p.toNat n).fi/\copied m p.toNat n=false/\qC m.st (jY m p.toNat n).fi ((jY m p.toNat n).ba+n-(jY m p.toNat n).fr)=true then 9
 else if(mJ m p.toNat n w).2<0 then 10 else(mJ m p.toNat n w).1.e
def su(m:Ma)(p n:Int)(w:Bool):Ma:=(Jr (mJ m p.toNat n w).1 (mJ m p.toNat n w).2 (w&&(jY m p.toNat n).sh)).m
def wK(m:Ma)(p n:Int)(w:Bool):Int:=(mJ m p.toNat n w).2
theorem xH{g:Pg}(h:eP m p n=some g):g=xU (jY m p n) n/\0<=fB (bQ m p).ar n/\(jY m p n).sh=g.sh/\(jY m p n).wr=g.wr/\(jY m p n).rd=g.rd/\(jY m p n).fi=g.fi/\(0<=g.fi->(jY m p n).ba+n-(jY m p n).fr=g.pg):=by
 have y:0<=fB (bQ m p).ar n:=(Ba _ _).2 (by unfold eP at h;rw[h];simp);have u:=(Ca y).1;unfold eP at h;rw[h]at u;have d:=aU u;refine⟨d,y,by rw[d];rfl,by rw[d];rfl,by rw[d];rfl,by rw[d];rfl,λA => ?_⟩;rw[d]at A ⊢;have a : 0<=(jY m p n).fi:=A;show _=if 0<=(jY m p n).fi then _ else _;rw[if_pos a];rfl
theorem He(h:Rt m){x:Nat}(d:x<m.m.fs.length)(y:(aF m x).r=0):(∀c∈m.ca,c.k.toNat≠x)/\∀p n,(aJ m p n).k=1->(aJ m p n).n.toNat≠x:=by
 refine⟨λc a e => ?_,λp n u e => ?_⟩
 ·have:=(h.ca.fr c a).1;rw[e]at this;omega
 have:=ED h u e;have:=h.cf x d;omega
theorem Fp(h:Rt m)(Y:Co m){x:Nat}{g:Pg}{P:Page}{w:Bool}(M:p<m.sp.length)(N:0<=n/\n<64)(h0:(aJ m p n).k=0)(G:x<m.m.fs.length)(F:(aF m x).r=0)(O:eP m p n=some g)(I:g.sh=false)(V:w=true->g.wr=true) :
  Rt (aS (setFr m x (bL P (-1) 0)) p n ⟨1,x,w⟩)/\Co (aS (setFr m x (bL P (-1) 0)) p n ⟨1,x,w⟩)/\Al (atP p n) m (aS (setFr m x (bL P (-1) 0)) p n ⟨1,x,w⟩)/\jy (aS (setFr m x (bL P (-1) 0)) p n ⟨1,x,w⟩) p n=(P,true,0) /\
   ∀q j,aJ (aS (setFr m x (bL P (-1) 0)) p n ⟨1,x,w⟩) q j=if q=p/\j=n then⟨1,x,w⟩else aJ m q j:=by
 have u:dn (bL P (-1) 0)=0:=by rw[dV];exact⟨⟨by show(0:Int)<=1;decide,by show(1:Int)<=1000;decide,by show(-1:Int)<=-1;decide,by show(-1:Int)<5;decide,by show(0:Int)<=0;decide,by show(0:Int)<12;decide⟩,λ(e:(1:Int)=0)=>absurd e (by decide),λ_=>rfl⟩
 have z:iE ⟨1,x,w⟩=0:=(dA).2 (.inr (.inl ⟨rfl,by show(0:Int)<=x;omega,by have:=((eF _).1 h.pt.fr).1;show(x:Int)<40;omega⟩));have J:=He h G F;obtain⟨R,a2⟩:=zQ (X:=bL P (-1) 0) (x:=⟨1,x,w⟩) (g:=g) h Y M N h0 G rfl rfl u (by rw[F];rfl) (λh'=>absurd F h') (λ_=>⟨by show(-1:Int)<0;decide,rfl⟩) (λ_ q j l Z=>absurd Z (J.2 q j l)) O ⟨λ(e:(0:Int)<=-1)=>absurd e (by decide),λe=>(by rw[I]at e;cases e),V,λ_ (e:(0:Int)<=-1)=>absurd e (by decide),λ_ _=>by show(1:Int)<=1;decide⟩;obtain⟨S,_,_⟩:=gG (k:=⟨setFr m x (bL P (-1) 0),0⟩) (p:=p) (n:=n) (x:=⟨1,x,w⟩) (h.pt.setFr u) N z;have d:∀q j,aJ (aS (setFr m x (bL P (-1) 0)) p n ⟨1,x,w⟩) q j=if q=p/\j=n then⟨1,x,w⟩else aJ m q j:=λq j=>kR (m:=setFr m x (bL P (-1) 0)) M S q j;have o:∀y,aF (aS (setFr m x (bL P (-1) 0)) p n ⟨1,x,w⟩) y=if y=x then bL P (-1) 0 else aF m y:=λy=>fP G y;have s:fK m (setFr m x (bL P (-1) 0)):=fK.of rfl;have t:fK m (aS (setFr m x (bL P (-1) 0)) p n ⟨1,x,w⟩):=s.trans fK.setTb;have i:∀a b,aN (aS (setFr m x (bL P (-1) 0)) p n ⟨1,x,w⟩) a b=aN m a b:=by
  intro a b;rcases kG m a b with⟨c,W,A,L,K⟩|⟨W,C⟩
  ·subst L;subst K;rw[dC h.ca A,dC R.ca A,o,if_neg (J.1 c A)]
  ·rw[eB C,eB (m:=aS (setFr m x (bL P (-1) 0)) p n ⟨1,x,w⟩) C];rfl
 refine⟨R,a2,Kq t (mZ.refl _) (λa b _=>i a b) λq j y v U => ?_,?_,d⟩
 ·rw[d,if_neg (show ¬(q=p/\j=n)from v)];refine rX h.pt.st (h.pt.pg U).1 (mZ.refl _) (λa b _=>i a b) (λl => ?_);have:=o (aJ m q j).n.toNat;rw[if_neg (J.2 q j l)]at this;exact⟨congrArg Fr.p this,congrArg Fr.f this⟩
 have ha:eP (aS (setFr m x (bL P (-1) 0)) p n ⟨1,x,w⟩) p n=some g:=by
  have:eP (aS (setFr m x (bL P (-1) 0)) p n ⟨1,x,w⟩) p n=eP m p n:=by unfold eP;rw[t.ar]
  rw[this,O]
 rw[jd ha,d,if_pos ⟨rfl,rfl⟩];have:=o x;rw[if_pos rfl]at this;unfold wJ;rw[if_pos rfl];have h2:gQ (aS (setFr m x (bL P (-1) 0)) p n ⟨1,x,w⟩) (x:Int)=bL P (-1) 0:=this;show((gQ _ (x:Int)).p,decide ((gQ _ (x:Int)).f<0),(0:Int))=_;rw[h2];rfl
theorem YC(h:Rt m)(N:Co m){g:Pg}{c:Cc}{w:Bool}(J:p<m.sp.length)(K:0<=n/\n<64)(V:(aJ m p n).k=0)(A:c∈m.ca)(G:eP m p n=some g)(C:c.f=g.fi/\c.i=g.pg)(I:w=true->g.sh=true/\g.wr=true) :
  Rt (aS (setFr m c.k.toNat (jJ (aF m c.k.toNat))) p n ⟨1,c.k,w⟩)/\Co (aS (setFr m c.k.toNat (jJ (aF m c.k.toNat))) p n ⟨1,c.k,w⟩)/\Aj m (aS (setFr m c.k.toNat (jJ (aF m c.k.toNat))) p n ⟨1,c.k,w⟩) /\
   ∀q j,aJ (aS (setFr m c.k.toNat (jJ (aF m c.k.toNat))) p n ⟨1,c.k,w⟩) q j=if q=p/\j=n then⟨1,c.k,w⟩else aJ m q j:=by
 have z:=h.ca.lt c A;have Z:=h.ca.fr c A;have s:=h.ca.file c A;have a : c.k.toNat<m.m.fs.length:=by omega
 have hh:=h.fewR a;have t:dn (jJ (aF m c.k.toNat))=0:=QY (h.pt.frE a) (by omega) (by omega);have u:iE ⟨1,c.k,w⟩=0:=(dA).2 (.inr (.inl ⟨rfl,z.1,by have:=((eF _).1 h.pt.fr).1;show c.k<40;omega⟩));have e1:(jJ (aF m c.k.toNat)).f=(aF m c.k.toNat).f:=rfl;have e2:(jJ (aF m c.k.toNat)).i=(aF m c.k.toNat).i:=rfl;have hd:=s.1.1;obtain⟨Y,W⟩:=zQ (X:=jJ (aF m c.k.toNat)) (x:=⟨1,c.k,w⟩) (f:=c.k.toNat) (g:=g) h N J K V a rfl (by show c.k=_;omega) t rfl (λ_=>⟨rfl,rfl,rfl,rfl⟩) (λF=>by omega) (λM=>by omega) G
  ⟨λ_=>⟨by omega,by omega⟩,λ_=>by omega,λF=>(I F).2,λF _=>(I F).1,λ_ M=>by omega⟩
 obtain⟨L,_,_⟩:=gG (k:=⟨setFr m c.k.toNat (jJ (aF m c.k.toNat)),0⟩) (p:=p) (n:=n) (x:=⟨1,c.k,w⟩) (h.pt.setFr t) K u;have b:∀q j,aJ (aS (setFr m c.k.toNat (jJ (aF m c.k.toNat))) p n ⟨1,c.k,w⟩) q j=if q=p/\j=n then⟨1,c.k,w⟩else aJ m q j:=λq j=>kR (m:=setFr m c.k.toNat (jJ (aF m c.k.toNat))) J L q j;have d:∀y,(aF (aS (setFr m c.k.toNat (jJ (aF m c.k.toNat))) p n ⟨1,c.k,w⟩) y).p=(aF m y).p/\(aF (aS (setFr m c.k.toNat (jJ (aF m c.k.toNat))) p n ⟨1,c.k,w⟩) y).f=(aF m y).f:=λy=>by
  have:aF (aS (setFr m c.k.toNat (jJ (aF m c.k.toNat))) p n ⟨1,c.k,w⟩) y=if y=c.k.toNat then jJ (aF m c.k.toNat)else aF m y:=fP a y;rw[this]
  by_cases e:y=c.k.toNat
  ·rw[if_pos e,e];exact⟨rfl,rfl⟩
  ·rw[if_neg e];exact⟨rfl,rfl⟩
 have o:fK m (setFr m c.k.toNat (jJ (aF m c.k.toNat))):=fK.of rfl;have l:fK m (aS (setFr m c.k.toNat (jJ (aF m c.k.toNat))) p n ⟨1,c.k,w⟩):=o.trans fK.setTb;refine⟨Y,W,⟨l,rfl,λ_=>rfl,λ_=>rfl,λq j => ?_,λf i _=>Df (m:=m) (m':=aS (setFr m c.k.toNat (jJ (aF m c.k.toNat))) p n ⟨1,c.k,w⟩) rfl rfl rfl (λx=>(d x).1) f i⟩,b⟩
 by_cases e:q=p/\j=n
 ·obtain⟨rfl,rfl⟩:=e;have v:eP (aS (setFr m c.k.toNat (jJ (aF m c.k.toNat))) q j ⟨1,c.k,w⟩) q j=some g:=by
   have:eP (aS (setFr m c.k.toNat (jJ (aF m c.k.toNat))) q j ⟨1,c.k,w⟩) q j=eP m q j:=by unfold eP;rw[l.ar]
   rw[this,G]
  rw[jd v,jd G,b,if_pos ⟨rfl,rfl⟩];unfold wJ;rw[if_pos rfl,if_neg (by omega),if_neg (by omega),if_neg (by omega)];have r:=qG h.pt.st s;rw[C.1,C.2]at r;rw[if_neg r,<-C.1,<-C.2,dC h.ca A];have U:=(d c.k.toNat).1;have S:=(d c.k.toNat).2;have O : (gQ (aS (setFr m c.k.toNat (jJ (aF m c.k.toNat))) q j ⟨1,c.k,w⟩) c.k).p=(aF m c.k.toNat).p:=U;have R : (gQ (aS (setFr m c.k.toNat (jJ (aF m c.k.toNat))) q j ⟨1,c.k,w⟩) c.k).f=(aF m c.k.toNat).f:=S;show((gQ _ c.k).p,decide ((gQ _ c.k).f<0),(0:Int))=_;rw[O,R,decide_eq_false (by omega)]
 refine CP rfl rfl rfl rfl d (l.ar q) ?_;rw[b,if_neg e];exact⟨rfl,rfl⟩
theorem CS(h:Rt m)(C:Co m)(h' : Rt m')(hc' : Co m'){x:Nat}{X:Fr}(u:x<m.m.fs.length)(y:(aF m x).r=0)(st:m'.st=m.st)(dk:m'.dk=m.dk)(ca:m'.ca=m.ca)(A:m'.m=(setFr m x X).m):Inv m m':=
 yf h C h' hc' st dk ca λc d=>by have F:=(He h u y).1 c d;rw[uB A,fP u,if_neg F];exact⟨rfl,rfl⟩
theorem WQ(h:Rt m)(A:Co m)(h' : Rt m')(hc' : Co m'){x:Nat}(d:x<m.m.fs.length)(st:m'.st=m.st)(dk:m'.dk=m.dk)(ca:m'.ca=m.ca)(u:m'.m=(setFr m x (jJ (aF m x))).m):Inv m m':=
 yf h A h' hc' st dk ca λc y=>by
  rw[uB u,fP d]
  by_cases e:c.k.toNat=x
  ·rw[if_pos e,e];exact⟨rfl,rfl⟩
  ·rw[if_neg e];exact⟨rfl,rfl⟩
structure Brt (m m' : Ma) (p:Nat) (n:Int) (g:Pg) (r:Int):Prop where
 rt:Rt m'
 co:Co m'
 vis:Al (atP p n) m m'
 len:m'.m.fs.length=m.m.fs.length
 sll:m'.sl.length=m.sl.length
 no:r<0->fO m.m.fs=0
 yes:0<=r->(aJ m' p n).k=1/\(aJ m' p n).n=r/\(jy m' p n).1=(jy m p n).1/\(jy m' p n).2.2=0/\(jy m p n).2.2=0/\(0<=g.fi->(jy m' p n).2.1=(jy m p n).2.1)
 keep:(aJ m p n).k=1->m' = m/\r=(aJ m p n).n
 inv:Inv m m'
theorem uF{g:Pg}(h:eP m p n=some g)(d:(aJ m p n).k=1):jy m p n=((gQ m (aJ m p n).n).p,decide ((gQ m (aJ m p n).n).f<0),0):=by
 rw[jd h];unfold wJ;rw[if_pos d]
theorem Br{k:Kp}(h:Rt k.m)(hc:Co k.m){g:Pg}(hp:p<k.m.sp.length)(G:eP k.m p n=some g)(hf:0<=g.fi->(aJ k.m p n).k=0->jk k.m.st g.fi g.pg) :
  (gU k p n (jY k.m p n)).1.e=k.e/\Brt k.m (gU k p n (jY k.m p n)).1.m p n g (gU k p n (jY k.m p n)).2:=by
 obtain⟨g1,g2,g3,g4,g5,g6,g7⟩:=xH G;have hb:=h.pt.pg G;have V:0<=n/\n<64:=hb.2.2.2.2.2;have hE:=(dA).1 (ku h.pt p n);have v:∀P:Page,dn (bL P (-1) 0)=0:=λP=>by rw[dV];exact⟨⟨by show(0:Int)<=1;decide,by show(1:Int)<=1000;decide,by show(-1:Int)<=-1;decide,by show(-1:Int)<5;decide,by show(0:Int)<=0;decide,by show(0:Int)<12;decide⟩,λ(e:(1:Int)=0)=>absurd e (by decide),λ_=>rfl⟩
 have t:∀ {m:Ma} {x:Nat},aF m x=frZ->(aF m x).r=0:=λe=>by rw[e];rfl
 have u:∀(x:Nat) (w:Bool),x<k.m.m.fs.length->iE ⟨1,x,w⟩=0:=λx w N=>(dA).2 (.inr (.inl ⟨rfl,by show(0:Int)<=x;omega,by have:=((eF _).1 h.pt.fr).1;show(x:Int)<40;omega⟩));unfold gU;simp only
 by_cases k1:(aJ k.m p n).k=1
 ·rw[if_pos k1];refine⟨rfl,h,hc,.refl _ _,rfl,rfl,λJ=>by simp only at J;omega,λ_=>⟨k1,rfl,rfl,?_,?_,λ_=>rfl⟩,λ_=>⟨rfl,rfl⟩,.refl _⟩
  ·show(jy k.m p n).2.2=0;rw[uF G k1]
  ·rw[uF G k1]
 rw[if_neg k1]
 by_cases M:(aJ k.m p n).k=2
 ·rw[if_pos M];obtain⟨y,hy,hu⟩:=h.en p n (by omega);rw[G]at hy;cases hy;have hJ:=hu.sw M;have hs:(aJ k.m p n).n.toNat<k.m.sl.length:=by omega
  have hd:(aJ k.m p n).n=(((aJ k.m p n).n.toNat:Nat):Int):=by omega
  have hq:aI k.m.sw (aJ k.m p n).n=0:=fH.2 ⟨h.pt.sw,by omega,by rw[h.pt.swl];omega⟩;rw[if_neg (by rw[hq];simp)];have l:jy k.m p n=(dN k.m.sw (aJ k.m p n).n,true,0):=by rw[jd G];unfold wJ;rw[if_neg k1,if_pos M,hq]
  rcases Av (k:=k) (p:=dN k.m.sw (aJ k.m p n).n) (f:=-1) (i:=0) h hc (v _)with⟨x,C,o,A,N,W,U⟩|⟨C,A,U,J⟩
  ·rw[U];simp only;rw[if_neg (by omega)];have b:aJ C p n=aJ k.m p n:=A.ents p n (λe=>absurd e k1);have q:eP C p n=some g:=(show eP C p n=eP k.m p n by unfold eP;rw[A.vis.sk.ar]).trans G;have hk:(aJ k.m p n).n.toNat<C.sl.length:=by rw[A.sll];exact hs
   have hw:=A.rt.fewS hk;have j:=mh (m:=C) (p:=p) (n:=n) (by rw[b];omega);have hP:0<bR C 2 ((aJ k.m p n).n.toNat:Nat):=(kY (by decide)).2 ⟨p,n,j.1,j.2,by rw[b];exact M,by rw[b];omega⟩;have hQ:=A.rt.cs _ hk;have hC:bK C.sl (((aJ k.m p n).n.toNat:Nat):Int) (-1)=0:=by have e1:GI C.sl (((aJ k.m p n).n.toNat:Nat):Int)=iT C (aJ k.m p n).n.toNat:=rfl;unfold bK;rw[if_neg (by rw[A.rt.pt.sl];simp),if_neg (by rw[e1];omega),if_neg (by rw[e1];omega)]
   have a:=Jd A.rt A.co (p:=p) (n:=n) (s:=(aJ k.m p n).n.toNat) (by rw[b];exact M) (by rw[b];exact hd);have hH:bq (setFr C x (bL (dN k.m.sw (aJ k.m p n).n) (-1) 0)).sl (aJ k.m p n).n (-1)=(setSl C (aJ k.m p n).n.toNat (iT C (aJ k.m p n).n.toNat + -1)).sl:=by unfold bq;rw[if_pos (by rw[hd];exact hC)];rfl
   rw[if_neg (by rw[hd];exactλe=>e hC),hH];have hm:p<C.sp.length:=j.1;obtain⟨S,R,b3,b4,b5⟩:=Fp (P:=dN k.m.sw (aJ k.m p n).n) (w:=(jY k.m p n).wr) (x:=x) (g:=g) (p:=p) (n:=n) a.rt a.co (by rw[a.vis.sk.len];exact hm) V (by rw[a.ents,if_pos ⟨rfl,rfl⟩];rfl) (by rw[a.len];exact N) (t (m:=C) W) (by
    have:eP (aS (setSl C (aJ k.m p n).n.toNat (iT C (aJ k.m p n).n.toNat + -1)) p n zEn) p n=eP C p n:=by unfold eP;rw[a.vis.sk.ar]
    rw[this,q]) hJ.2 (λe=>by rw[<-g4];exact e)
   have c:x<k.m.m.fs.length:=by rw[<-A.len];exact N
   have ha:Pt (setFr (setSl C (aJ k.m p n).n.toNat (iT C (aJ k.m p n).n.toNat + -1)) x (bL (dN k.m.sw (aJ k.m p n).n) (-1) 0)):=(A.rt.pt.setSl (by omega) (by omega)).setFr (v _);have hG:=NY (m:=setFr (setSl C (aJ k.m p n).n.toNat (iT C (aJ k.m p n).n.toNat + -1)) x (bL (dN k.m.sw (aJ k.m p n).n) (-1) 0)) ha (p:=p) (n:=n) (x:=⟨1,x,(jY k.m p n).wr⟩) (y:=zEn) hm V (u x _ c) (by decide);obtain⟨s0,c1,c2⟩:=gG (k:=⟨setFr (setSl C (aJ k.m p n).n.toNat (iT C (aJ k.m p n).n.toNat + -1)) x (bL (dN k.m.sw (aJ k.m p n).n) (-1) 0),k.e⟩) (p:=p) (n:=n) (x:=⟨1,x,(jY k.m p n).wr⟩) ha V (u x _ c);have hv:dD ⟨{ setFr C x (bL (dN k.m.sw (aJ k.m p n).n) (-1) 0)with sl:=(setSl C (aJ k.m p n).n.toNat (iT C (aJ k.m p n).n.toNat + -1)).sl },k.e⟩ p n ⟨1,x,(jY k.m p n).wr⟩=⟨aS (setFr (aS (setSl C (aJ k.m p n).n.toNat (iT C (aJ k.m p n).n.toNat + -1)) p n zEn) x (bL (dN k.m.sw (aJ k.m p n).n) (-1) 0)) p n ⟨1,x,(jY k.m p n).wr⟩,k.e⟩:=by refine Eq.trans c1 (congrArg (λm=>Kp.mk m k.e) ?_);exact hG.symm
   rw[hv];refine⟨rfl,S,R,((A.vis.x _).trans a.vis).trans b3,?_,?_,λJ=>by simp only at J;omega,λ_ => ?_,λe=>absurd e k1,(A.inv.trans (a.inv A.rt A.co)).trans (CS a.rt a.co S R (x:=x) (X:=bL (dN k.m.sw (aJ k.m p n).n) (-1) 0) (by rw[a.len];exact N) (t (m:=C) W) rfl rfl rfl rfl)⟩
   ·exact(dK.trans a.len).trans A.len
   ·exact a.sll.trans A.sll
   rw[b4,b5,if_pos ⟨rfl,rfl⟩,l];exact⟨rfl,rfl,rfl,rfl,rfl,λ_=>rfl⟩
  rw[U];simp only;rw[if_pos (by decide)];exact⟨rfl,A.rt,A.co,A.vis.x _,A.len,A.sll,λ_=>J,λO=>absurd (show(0:Int)<=-1 from O) (by decide),λe=>absurd e k1,A.inv⟩
 rw[if_neg M];have k0:(aJ k.m p n).k=0:=by omega
 by_cases I:g.fi<0
 ·rw[g6,if_pos I];have hI:=(hb.2.2.2.2.1 I).1;have l:jy k.m p n=(zPg,false,0):=by rw[jd G];unfold wJ;rw[if_neg k1,if_neg M,if_pos I]
  unfold inK;rcases Av (k:=k) (p:=zPg) (f:=-1) (i:=0) h hc (v _)with⟨x,C,o,A,N,W,U⟩|⟨C,A,U,J⟩
  ·rw[U];simp only;rw[if_neg (by omega)];have b:aJ C p n=aJ k.m p n:=A.ents p n (λe=>absurd e k1);have q:eP C p n=some g:=(show eP C p n=eP k.m p n by unfold eP;rw[A.vis.sk.ar]).trans G;have c:x<k.m.m.fs.length:=by rw[<-A.len];exact N
   obtain⟨S,R,b3,b4,b5⟩:=Fp (P:=zPg) (w:=(jY k.m p n).wr) (x:=x) (g:=g) (p:=p) (n:=n) A.rt A.co (by rw[A.vis.sk.len];exact hp) V (by rw[b];exact k0) N (t W) q hI (λe=>by rw[<-g4];exact e);obtain⟨s0,c1,c2⟩:=gG (k:=⟨setFr C x (bL zPg (-1) 0),k.e⟩) (p:=p) (n:=n) (x:=⟨1,x,(jY k.m p n).wr⟩) (A.rt.pt.setFr (v _)) V (u x _ c);rw[c1];refine⟨rfl,S,R,(A.vis.x _).trans b3,dK.trans A.len,A.sll,λJ=>by simp only at J;omega,λ_ => ?_,λe=>absurd e k1,A.inv.trans (CS A.rt A.co S R (x:=x) (X:=bL zPg (-1) 0) N (t W) rfl rfl rfl rfl)⟩;have L : jy (setTb (setFr C x (bL zPg (-1) 0)) p (setT (bQ (setFr C x (bL zPg (-1) 0)) p).tb n ⟨1,x,(jY k.m p n).wr⟩)) p n=(zPg,true,0):=b4;have Z:=b5 p n;rw[if_pos ⟨rfl,rfl⟩]at Z;have Y : aJ (setTb (setFr C x (bL zPg (-1) 0)) p (setT (bQ (setFr C x (bL zPg (-1) 0)) p).tb n ⟨1,x,(jY k.m p n).wr⟩)) p n=⟨1,x,(jY k.m p n).wr⟩:=Z;simp only;rw[L,Y,l];exact⟨rfl,rfl,rfl,rfl,rfl,λO=>absurd O (by omega)⟩
  rw[U];simp only;rw[if_pos (by decide)];exact⟨rfl,A.rt,A.co,A.vis.x _,A.len,A.sll,λ_=>J,λO=>absurd (show(0:Int)<=-1 from O) (by decide),λe=>absurd e k1,A.inv⟩
 rw[g6,if_neg I];have hl:=g7 (by omega);rw[hl];have j:=hf (by omega) k0;obtain⟨he,F⟩:=nC (k:=k) h hc j
 by_cases hr:(cO k g.fi g.pg).2<0
 ·rw[if_pos hr];exact⟨he,F.rt,F.co,F.vis.x _,F.len,F.sll,F.no,λO=>absurd hr (by omega),λe=>absurd e k1,F.inv⟩
 rw[if_neg hr];have hh:=F.yes (by omega);have hM:=F.rt.ca.lt _ hh;have hO:=F.rt.ca.fr _ hh;simp only at hM hO;generalize hK:cO k g.fi g.pg=K at *
 have d : K.2.toNat<K.1.m.m.fs.length:=by omega
 have hw:=F.rt.fewR d;obtain⟨a1,a2⟩:=yI (k:=K.1) (f:=K.2.toNat) (n:=1) F.rt.pt d (by omega) (by omega) (by omega);have hD:gV (aF K.1.m K.2.toNat) 1=jJ (aF K.1.m K.2.toNat):=by unfold gV;rw[if_neg (by omega)];rfl
 rw[hD]at a1 a2;have hA:K.2=((K.2.toNat:Nat):Int):=by omega
 have hj : iE ⟨1,K.2,(jY k.m p n).sh&&(jY k.m p n).wr⟩=0:=by rw[hA];exact u _ _ (by rw[<-F.len];exact d)
 have b:aJ K.1.m p n=aJ k.m p n:=F.ents p n k1;have q:eP K.1.m p n=some g:=(show eP K.1.m p n=eP k.m p n by unfold eP;rw[F.vis.sk.ar]).trans G;obtain⟨S,R,b3,b4⟩:=YC (w:=(jY k.m p n).sh&&(jY k.m p n).wr) F.rt F.co (by rw[F.vis.sk.len];exact hp) V (by rw[b];exact k0) hh q ⟨rfl,rfl⟩ (λe=>by rw[dJ,g3,g4]at e;exact e);obtain⟨s0,c1,c2⟩:=gG (k:=⟨setFr K.1.m K.2.toNat (jJ (aF K.1.m K.2.toNat)),K.1.e⟩) (p:=p) (n:=n) (x:=⟨1,K.2,(jY k.m p n).sh&&(jY k.m p n).wr⟩) a2 V hj;have hN:dU K.1 K.2 1=⟨setFr K.1.m K.2.toNat (jJ (aF K.1.m K.2.toNat)),K.1.e⟩:=by rw[<-a1,<-hA]
 rw[hN,c1];have z:=F.vis.trans b3;have L:=b4 p n;rw[if_pos ⟨rfl,rfl⟩]at L;refine⟨he,S,R,z.x _,dK.trans F.len,F.sll,λO=>absurd O hr,λ_ => ?_,λe=>absurd e k1,F.inv.trans (WQ F.rt F.co S R (x:=K.2.toNat) d rfl rfl rfl rfl)⟩;have hs:=z.see p n;have hL : jy (setTb (setFr K.1.m K.2.toNat (jJ (aF K.1.m K.2.toNat))) p (setT (bQ (setFr K.1.m K.2.toNat (jJ (aF K.1.m K.2.toNat))) p).tb n ⟨1,K.2,(jY k.m p n).sh&&(jY k.m p n).wr⟩)) p n=jy k.m p n:=hs;have b5:aJ (setTb (setFr K.1.m K.2.toNat (jJ (aF K.1.m K.2.toNat))) p (setT (bQ (setFr K.1.m K.2.toNat (jJ (aF K.1.m K.2.toNat))) p).tb n ⟨1,K.2,(jY k.m p n).sh&&(jY k.m p n).wr⟩)) p n=⟨1,K.2,(jY k.m p n).sh&&(jY k.m p n).wr⟩:=L;simp only;have hi:(jy k.m p n).2.2=0:=by rw[jd G];unfold wJ;rw[if_neg k1,if_neg M,if_neg I,if_neg (qG h.pt.st j)]
 rw[hL,b5];exact⟨rfl,rfl,rfl,hi,hi,λ_=>rfl⟩
theorem Less.zr(h:Rt m)(k:Less m m' p n){x:Nat}(G:(aF m x).r=0):(aF m' x).r=0:=by
 rcases gB x m.m.fs.length with d|d
 ·have L:=h.cf x d;have K:=k.rt.cf x (by rw[k.len];exact d);have J:vY m' x=vY m x:=by unfold vY;rw[k.ca]
  have I:¬0<bR m' 1 x:=λC=>by
   obtain⟨q,j,M,F,y,A⟩:=(kY (by decide)).1 C;have u:=k.ents q j
   by_cases e:q=p/\j=n
   ·rw[if_pos e]at u;rw[u]at y;exact absurd y (by decide)
   rw[if_neg e]at u;rw[u]at y A;have:=(kY (m:=m) (kd:=1) (i:=x) (by decide)).2 ⟨q,j,by have:=mh (m:=m) (p:=q) (n:=j) (by omega);exact this.1,F,y,A⟩;omega
  omega
 ·rw[JW (by rw[k.len];exact d)];rfl
theorem Xz{x:Nat}(h:x<m.m.fs.length)(d:(aF m x).r=0):fO m.m.fs≠0:=λe=>wG e h d
structure Owd (m m' : Ma) (p:Nat) (n:Int) (g:Pg) (r:Int):Prop where
 rt:Rt m'
 co:Co m'
 vis:Al (atP p n) m m'
 len:m'.m.fs.length=m.m.fs.length
 sll:m'.sl.length=m.sl.length
 no:r<0->fO m.m.fs=0
 yes:0<=r->(aJ m' p n).k=1/\(aJ m' p n).n=r/\(aJ m' p n).w=true/\(jy m' p n).1=(jy m p n).1/\(jy m' p n).2.2=0/\(g.sh=true->(jy m' p n).2.1=(jy m p n).2.1)/\(g.sh=false->(jy m' p n).2.1=true)
 inv:Inv m m'
theorem UA{k:Kp}(h:Rt k.m)(K:Co k.m){f:Int}{g:Pg}(J:eP k.m p n=some g)(S:(aJ k.m p n).k=1)(hn:(aJ k.m p n).n=f)(Z:g.wr=true) :
  (xx k p n f (jY k.m p n)).1.e=k.e/\Owd k.m (xx k p n f (jY k.m p n)).1.m p n g (xx k p n f (jY k.m p n)).2:=by
 obtain⟨g1,g2,U,g4,g5,g6,g7⟩:=xH J;obtain⟨x,e1,hf,hr,hp,q,g0,v,hh⟩:=gP h S;rw[J]at v;cases v;have hd:f=(x:Int):=by omega
 subst hd;have d:gQ k.m (x:Int)=aF k.m x:=rfl;have a:=uF J S;rw[hn,d]at a;unfold xx;simp only;rw[d]
 by_cases A:(jY k.m p n).sh=true\/(aF k.m x).f<0/\(aF k.m x).r=1
 ·rw[if_pos A];obtain⟨a1,a2,a3⟩:=Oq h K S hn J Z (A.imp (λe=>by rw[<-U];exact e) id);have l:iE ⟨1,x,true⟩=0:=(dA).2 (.inr (.inl ⟨rfl,by show(0:Int)<=x;omega,by have:=((eF _).1 h.pt.fr).1;show(x:Int)<40;omega⟩));obtain⟨W,c1,c2⟩:=gG (k:=k) (p:=p) (n:=n) (x:=⟨1,x,true⟩) h.pt q l;rw[c1];have j:=kR hp W p n;rw[if_pos ⟨rfl,rfl⟩]at j;have hs:jy (setTb k.m p (setT (bQ k.m p).tb n ⟨1,x,true⟩)) p n=jy k.m p n:=a3.see p n;refine⟨rfl,a1,a2,a3.x _,rfl,rfl,λL=>absurd (show(x:Int)<0 from L) (by omega),λ_ => ?_,yf h K a1 a2 rfl rfl rfl λc _=>⟨rfl,rfl⟩⟩;simp only;rw[j,hs,a];refine⟨rfl,rfl,rfl,rfl,rfl,λ_=>rfl,λb => ?_⟩;rcases A with A|A
  ·rw[U,b]at A;cases A
  ·exact decide_eq_true A.1
 rw[if_neg A];have b:g.sh=false:=by
  cases e:g.sh with
  | false=>rfl
  | true=>exact absurd (.inl (by rw[U,e])) A
 obtain⟨I,d1,F⟩:=Jp h K p n;rw[d1];have t:dn (bL (aF k.m x).p (-1) 0)=0:=by rw[dV];exact⟨⟨by show(0:Int)<=1;decide,by show(1:Int)<=1000;decide,by show(-1:Int)<=-1;decide,by show(-1:Int)<5;decide,by show(0:Int)<=0;decide,by show(0:Int)<12;decide⟩,λ(e:(1:Int)=0)=>absurd e (by decide),λ_=>rfl⟩
 rcases Av (k:=⟨I,k.e⟩) (p:=(aF k.m x).p) (f:=-1) (i:=0) F.rt F.co t with⟨y,G,o,C,O,Y,R⟩|⟨G,C,R,h0⟩
 ·rw[R];simp only;rw[if_neg (by omega)];have z:aJ I p n=zEn:=by rw[F.ents,if_pos ⟨rfl,rfl⟩]
  have hi:aJ G p n=zEn:=(C.ents p n (λe=>by have:(aJ I p n).k=1:=e;rw[z]at this;exact absurd this (by decide))).trans z;have hb:eP G p n=some g:=by
   have:eP G p n=eP k.m p n:=by unfold eP;rw[C.vis.sk.ar,show(bQ (Kp.m ⟨I,k.e⟩) p).ar=(bQ k.m p).ar from F.vis.sk.ar p]
   rw[this,J]
  have u:G.sp.length=k.m.sp.length:=C.vis.sk.len.trans F.vis.sk.len;have s:G.m.fs.length=k.m.m.fs.length:=C.len.trans F.len;have l:iE ⟨1,y,true⟩=0:=(dA).2 (.inr (.inl ⟨rfl,by show(0:Int)<=y;omega,by have:=((eF _).1 h.pt.fr).1;show(y:Int)<40;omega⟩));obtain⟨b1,b2,b3,b4,b5⟩:=Fp (P:=(aF k.m x).p) (w:=true) (x:=y) (g:=g) (p:=p) (n:=n) C.rt C.co (by rw[u];exact hp) q (by rw[hi];rfl) O (by rw[Y];rfl) hb b (λ_=>Z);obtain⟨W,c1,c2⟩:=gG (k:=⟨setFr G y (bL (aF k.m x).p (-1) 0),k.e⟩) (p:=p) (n:=n) (x:=⟨1,y,true⟩) (C.rt.pt.setFr t) q l;rw[c1];have V : jy (setTb (setFr G y (bL (aF k.m x).p (-1) 0)) p (setT (bQ (setFr G y (bL (aF k.m x).p (-1) 0)) p).tb n ⟨1,y,true⟩)) p n=((aF k.m x).p,true,0):=b4;have N:=b5 p n;rw[if_pos ⟨rfl,rfl⟩]at N;have M : aJ (setTb (setFr G y (bL (aF k.m x).p (-1) 0)) p (setT (bQ (setFr G y (bL (aF k.m x).p (-1) 0)) p).tb n ⟨1,y,true⟩)) p n=⟨1,y,true⟩:=N;refine⟨rfl,b1,b2,(F.vis.trans (C.vis.x _)).trans b3,dK.trans s,C.sll.trans F.sll,λL=>absurd (show(y:Int)<0 from L) (by omega),λ_ => ?_,((F.inv h K).trans C.inv).trans (CS C.rt C.co b1 b2 (x:=y) (X:=bL (aF k.m x).p (-1) 0) O (by rw[Y];rfl) rfl rfl rfl rfl)⟩;simp only;rw[V,M,a];exact⟨rfl,rfl,rfl,rfl,rfl,λe=>(by rw[b]at e;cases e),λ_=>rfl⟩
 rw[R];simp only;rw[if_pos (by decide)];refine⟨rfl,C.rt,C.co,F.vis.trans (C.vis.x _),C.len.trans F.len,C.sll.trans F.sll,λ_ => ?_,λL=>absurd (show(0:Int)<=-1 from L) (by decide),(F.inv h K).trans C.inv⟩
 by_cases e:fO k.m.m.fs=0
 ·exact e
 obtain⟨y,O,ha⟩:=RH e;exact absurd h0 (Xz (m:=I) (by rw[F.len];exact O) (F.zr h ha))
structure ZQ (m m' : Ma) (p:Nat) (n:Int) (w:Bool) (g:Pg) (r:Int):Prop where
 rt:Rt m'
 co:Co m'
 vis:Al (atP p n) m m'
 len:m'.m.fs.length=m.m.fs.length
 sll:m'.sl.length=m.sl.length
 k1:(aJ m' p n).k=1
 en:(aJ m' p n).n=r
 ew:w=true->(aJ m' p n).w=true
 see:jy m' p n=((jy m p n).1,(jy m' p n).2.1,0)
 was:(jy m p n).2.2=0
 same:w=false\/g.sh=true->0<=g.fi->(jy m' p n).2.1=(jy m p n).2.1
 own:w=true->g.sh=false->(jy m' p n).2.1=true
 inv:(w&&g.sh)=false->Inv m m'
theorem EO{g:Pg}{w:Bool}(d:eP m p n=some g):oZ m p n w=0↔(w=true->g.wr=true)/\(w=false->g.rd=true):=by
 obtain⟨G,F,C,u,h,A,y⟩:=xH d;unfold oZ;rw[if_neg (by omega),u,h];cases w<;>cases g.wr<;>cases g.rd<;>decide
theorem Ob(h:Rt m)(hc:Co m){w:Bool}{g:Pg}(hp:p<m.sp.length)(N:eP m p n=some g)(hw:w=true->g.wr=true)(hf:0<=g.fi->(aJ m p n).k=0->jk m.st g.fi g.pg) :
  (mJ m p n w).1.e=0/\(0<=(mJ m p n w).2->ZQ m (mJ m p n w).1.m p n w g (mJ m p n w).2)/\((mJ m p n w).2<0->fO m.m.fs=0\/fO (gU ⟨m,0⟩ p n (jY m p n)).1.m.m.fs=0):=by
 obtain⟨O,y⟩:=Br (k:=⟨m,0⟩) h hc hp N hf;unfold mJ;simp only at O y ⊢;generalize hR:gU ⟨m,0⟩ p n (jY m p n)=R at *
 by_cases u:0<=R.2/\w=true/\(aJ R.1.m p n).w=false
 ·rw[if_pos u];obtain⟨G,L,K,S,I,J⟩:=y.yes u.1;have a:eP R.1.m p n=some g:=(show eP R.1.m p n=eP m p n by unfold eP;rw[y.vis.sk.ar]).trans N;have o:jY R.1.m p n=jY m p n:=by unfold jY;rw[y.vis.sk.ar]
  have A:=UA (k:=R.1) y.rt y.co a G L (hw u.2.1);rw[o]at A;obtain⟨l,A⟩:=A;refine⟨l.trans O,λF => ?_,λF => .inr (A.no F)⟩;obtain⟨z1,Z,Y,X,W,V,U⟩:=A.yes F;refine⟨A.rt,A.co,y.vis.trans A.vis,A.len.trans y.len,A.sll.trans y.sll,z1,Z,λ_=>Y,?_,I,λC d => ?_,λ_ C=>U C,λ_=>y.inv.trans A.inv⟩
  ·rw[<-K,<-X,<-W]
  rcases C with C|C
  ·rw[u.2.1]at C;cases C
  ·rw[V C,J d]
 rw[if_neg u];refine⟨O,λF => ?_,λF => .inl (y.no F)⟩;obtain⟨G,L,K,S,I,J⟩:=y.yes F;have i:w=true->(aJ R.1.m p n).w=true:=λb=>by
  cases e:(aJ R.1.m p n).w with
  | true=>rfl
  | false=>exact absurd ⟨F,b,e⟩ u
 refine⟨y.rt,y.co,y.vis,y.len,y.sll,G,L,i,?_,I,λ_ d=>J d,λb C => ?_,λ_=>y.inv⟩
 ·rw[<-K,<-S]
 have a:eP R.1.m p n=some g:=(show eP R.1.m p n=eP m p n by unfold eP;rw[y.vis.sk.ar]).trans N;obtain⟨x,e1,s,hr,q,r,g0,j,c⟩:=gP y.rt G;rw[a]at j;cases j;obtain⟨f1,f2,f3,f4,f5⟩:=c;rw[uF a G,e1];refine decide_eq_true ?_;show(aF R.1.m x).f<0
 by_cases M:0<=(aF R.1.m x).f
 ·have:=f4 (i b) M;rw[C]at this;cases this
 ·omega
theorem Ze(h:Rt m)(L:Co m){w:Bool}{g:Pg}(I:p<m.sp.length)(y:eP m p n=some g)(G:w=true->g.wr=true)(J:0<=g.fi->(aJ m p n).k=0->jk m.st g.fi g.pg):Inv m (mJ m p n w).1.m:=by
 obtain⟨K,u⟩:=Br (k:=⟨m,0⟩) h L I y J;unfold mJ;simp only at K u ⊢;generalize hR:gU ⟨m,0⟩ p n (jY m p n)=R at *
 by_cases d:0<=R.2/\w=true/\(aJ R.1.m p n).w=false
 ·rw[if_pos d];obtain⟨F,C,S,O,M,N⟩:=u.yes d.1;have a:eP R.1.m p n=some g:=(show eP R.1.m p n=eP m p n by unfold eP;rw[u.vis.sk.ar]).trans y;have b:jY R.1.m p n=jY m p n:=by unfold jY;rw[u.vis.sk.ar]
  have A:=UA (k:=R.1) u.rt u.co a F C (G d.2.1);rw[b]at A;exact u.inv.trans A.2.inv
 ·rw[if_neg d];exact u.inv
theorem ZQ.mark{w:Bool}{g:Pg}{r:Int}(h:ZQ m m' p n w g r)(K:eP m p n=some g):ZQ m (Jr ⟨m',e⟩ r (w&&g.sh)).m p n w g r:=by
 have l:eP m' p n=some g:=(show eP m' p n=eP m p n by unfold eP;rw[h.vis.sk.ar]).trans K;obtain⟨x,L,a,G,q,s,g0,d,b⟩:=gP h.rt h.k1;rw[l]at d;cases d;have j:r=(x:Int):=by rw[<-h.en,L]
 subst j;obtain⟨F,C,J⟩:=Qs h.rt h.co a G;have I:∀u:Ma,Rt u->Co u->Aj m' u->u.m.fs.length=m'.m.fs.length->u.sl.length=m'.sl.length->aJ u p n=aJ m' p n->((w&&g.sh)=false->Inv m' u)->ZQ m u p n w g x:=λu c1 c2 c3 c4 N A M=>
  ⟨c1,c2,h.vis.trans (c3.x _),c4.trans h.len,N.trans h.sll,by rw[A];exact h.k1,by rw[A];exact h.en,by rw[A];exact h.ew,by rw[c3.see];exact h.see,h.was,by rw[c3.see];exact h.same,by rw[c3.see];exact h.own,λe=>(h.inv e).trans (M e)⟩
 unfold Jr;simp only[bu]
 by_cases y:(w&&g.sh)=true
 ·rw[if_pos y];rw[dJ]at y;have o:0<=(aF m' x).f:=b.2.1 y.2;have i:aF (setFr m' x (lN (aF m' x))) x=lN (aF m' x):=by rw[fP a,if_pos rfl]
  obtain⟨S,R,O⟩:=UV F C (g:=x) (by rw[dK];exact a) (by rw[i];exact G) (by rw[i];exact o);exact I _ S R (J.trans O) (dK.trans dK) rfl rfl (λe=>by rw[y.1,y.2]at e;cases e)
 rw[if_neg y];exact I _ F C J dK rfl rfl (λ_=>yf h.rt h.co F C rfl rfl rfl λc _=>by
  rw[fP a]
  by_cases e:c.k.toNat=x
  ·rw[if_pos e,e];exact⟨rfl,rfl⟩
  ·rw[if_neg e];exact⟨rfl,rfl⟩)
theorem SS : (Tryz.prog.info? 105).map (·.size)=some 9:=by kernel_rfl
def Ii(f:Int->Bool)(q:Int × Page):Bool:=!(f q.1)
theorem PR(q:Int × Page)(g u n:Nat)(f:Int->Bool)(w:World)(y:aK w g #[.map (some u)] 222)(A:pY w u n f)(hq : -9223372036854775808<=q.1/\q.1<=9223372036854775807) :
  Calls Tryz.prog 168 #[.agg (Ky q),.pointer (some ⟨g,0,none⟩)] w λr w'=>r = .returned (.bool (Ii f q))/\Below w.heap.size w w':=by
 go_enter func168,ntmps168;go_upto_region 1 with(fail);refine iP (λW=>Code.wp _ _ _ _ W) λF a b c => ?_;clear c;have e:=(y.ext a).cell 0;have h:=b.cell;have d:=(A.below a).look q.1 hq;have C:(Ky q)[0]?=some (.int .i64 q.1):=rfl;go_wp2;go_ret;exact⟨rfl,a⟩
theorem Vj{l:List (Int × Page)}(h:eD w a (l.flatMap Cn))(k:Nat)(u:k<l.length):∃b d,a=some ⟨b,d,none⟩/\eD w (some ⟨b,d+k*9,none⟩) (Cn l[k]):=oU vH h k u
theorem Ou(l:List (Int × Page))(a:Option Addr)(c:Nat)(w:World)(A:eD w a (l.flatMap Cn))(L:l.length<=9223372036854775807)(g F n:Nat)(f:Int->Bool)(I:aK w g #[.map (some F)] 222)(J:pY w F n f)(G:∀q∈l,-9223372036854775808<=q.1/\q.1<=9223372036854775807) :
  Calls Tryz.prog 198 #[.slice a l.length c,.func (.func 168) #[] #[.pointer (some ⟨g,0,none⟩)]] w λe w'=>e = .returned (.int .i64 (idx (Ii f) l))/\Below w.heap.size w w':=by
 go_enter func198,ntmps198;go_wp2
 go_loopw [8] (fun i wr => ∃k:Nat,k<=l.length/\i = .int .i64 k/\Below w.heap.size w wr/\∀i (h:i<l.length),i<k->(Ii f) l[i]=false) (fun i _=>l.length-(intOf i).toNat)
 case atStart=>exact⟨0,bN _,rfl,Below.refl _ _,λi _ h=>absurd h (ig _)⟩
 case round=>
  obtain⟨k,M,rfl,j,p⟩:=hrel;have C:=ae p;clear p
  by_cases u:k<l.length
  ·obtain⟨b,y,rfl,s⟩:=Vj (A.below j) k u
   go_wp2_with (refine ay b (y+k*9) _ s _ underlying105 rfl SS ?_)
   refine(PR l[k] g F n f _ (I.ext j) (J.below j) (G _ (fA u))).mono ?_;rintro e K ⟨rfl,r⟩;have m:=ah j r;clear r;cases hpk:(Ii f) l[k]
   ·have o:=ae hpk;clear hpk;go_wp2;go_roundw
    case rel=>exact⟨k+1,by omega,by go_num,m,oO C.out u o.out⟩
    case measure=>simp[intOf];omega
   have d:=ae (qH (Ii f) l k u C.out hpk);clear hpk;go_wp2;go_ret;exact⟨bI d.out.symm,m⟩
  have d:=ae (ll (Ii f) l λi h=>C.out i h (by omega));go_wp2;go_ret;exact⟨bI d.out.symm,j⟩
theorem Pv(l:List (Int × Page))(a:Option Addr)(c:Nat)(w:World)(d:eD w a (l.flatMap Cn))(y:l.length<=9223372036854775807)(g h n:Nat)(f:Int->Bool)(A:aK w g #[.map (some h)] 222)(C:pY w h n f)(u:∀q∈l,-9223372036854775808<=q.1/\q.1<=9223372036854775807) :
  Calls Tryz.prog 167 #[.slice a l.length c,.func (.func 168) #[] #[.pointer (some ⟨g,0,none⟩)]] w λe w'=>e = .returned (.bool (l.any (Ii f)))/\Below w.heap.size w w':=by
 go_enter func167,ntmps167
 go_wp2_with fail
 refine(Ou l a c _ d y g h n f A C u).mono ?_;rintro e F ⟨rfl,b⟩;go_wp2;go_ret;exact⟨cB (tN _ _),b⟩
theorem Wv(d:k<m.dk.blocks.length)(h:(decide ((k:Int)∈gZ m.st)||decide (m.dk.blocks.getD k zPg=zPg))=false):trimB m=false:=by
 unfold trimB;rw[Ey];refine .inl (List.all_eq_false.2 ⟨k,dx.2 d,?_⟩);rw[h];decide
theorem Vw(h:∀j:Nat,j<m.dk.blocks.length->(decide ((j:Int)∈gZ m.st)||decide (m.dk.blocks.getD j zPg=zPg))=true):trimB m = !(m.dk.queue.any (Ii (ve (gZ m.st)))):=by
 unfold trimB;rw[dG.2 (λj d=>h j (dx.1 d)),mg,List.any_eq_not_all_not,Bool.not_not];congr 1;funext q;simp[Ii,ve]
theorem jG(h:aK w b cs T)(u:w.grownBy w' (some g))(d:g≠b):aK w' b cs T:=h.grown u (λe=>d (aU e))
theorem LY(H:MH)(b:Nat)(w:World)(hb:aK w b (bS H) 45)(h:Dk w H)(Y:aQ (bD H.fi H.ct)=0)(N:bZ H.dk=0) :
  Calls Tryz.prog 128 #[.pointer (some ⟨b,0,none⟩)] w λr w'=>r = .returned (.bool (trimB H.ma))/\Below w.heap.size w w':=by
 have kb:=@run_makeMap Tryz.prog;have kq:H.fi.length<=5:=by simpa[bD]using(jC Y).1
 have kd:Hid (∀p∈H.fi,p.l.length<=12/\∀x∈p.l,-1<=x/\x<80):=ae (λp I=>by obtain⟨h1,h2,h3,h4⟩:=wQ Y p.fi (fD.2 ⟨p,I,rfl⟩);have h5:=ul (n:=p.fi.n) h2;have h6:=(jC Y).2.2;refine⟨by have h7:(p.l.length:Int)=bn p.fi.n:=h3;omega,λx C=>⟨(h4 x C).1,by have:=(h4 x C).2;omega⟩⟩);obtain⟨kk,h9⟩:=CO N;have h8:Hid (∀q∈H.dk.queue,-9223372036854775808<=q.1/\q.1<=9223372036854775807):=ae (λq K=>by obtain⟨i,hi,rfl⟩:=jK.1 K;have:=Jl N i hi;omega);have H0:=ae Y;have HD:=ae N;clear Y N;have R:=ae (Qt H.fi H.ct);go_enter func128,ntmps128;go_upto_region 2 with(fail);refine iP (λW=>Code.wp _ _ _ _ W) λw2 hF hC hw => ?_;have v:Below w.heap.size w w2:=ah ((Below.refl _ _).alloc (aC _) _) hF;have hG:pY w2 w.heap.size 0 (ve (((H.fi.take 0).map PF.fi).flatMap Fi.b)):=(pY.made w).below hF;have hg : aK w2 (w.heap.size+1) #[.map (some w.heap.size)] 222:=by have e:(w.alloc (Obj.map #[] 0)).heap.size=w.heap.size+1:=BH _;rw[e]at hC;exact hC
 obtain⟨F,hH⟩:∃g,g=w.heap.size:=⟨_,rfl⟩;have hR:Hid (w.heap.size<=F):=ae (by omega);rw[<-hH]at hG hg ⊢;rw[<-hH]at hR;have kp:w.heap.size<=F:=by omega
 clear hF hC hw kb hH hR;have hB:=hb.ext v;have u:=hB.cell;unfold bS at u;have H5:(H.fi.length:Int)<=5:=by omega
 go_upto_region 3 with(fail);clear u hB
 go_loopw [17] (fun i wr => ∃(q n:Nat),q<=H.fi.length/\i = .int .i64 q/\n<=12*q/\Below w.heap.size w wr/\aK wr (F+1) #[.map (some F)] 222/\pY wr F n (ve (((H.fi.take q).map PF.fi).flatMap Fi.b))) (fun i _=>H.fi.length-(intOf i).toNat)
 case atStart=>exact⟨0,0,bN _,rfl,aC _,v,hg,hG⟩
 case round=>
  clear v hg hG;obtain⟨q,n,K,rfl,hn,c,C,A⟩:=hrel
  by_cases U:q<H.fi.length
  ·obtain⟨bf,of,ki,t⟩:=oU lC (h.below c).st.rd q U;obtain⟨p,I⟩:∃p,H.fi[q]?=some p:=⟨_,aM U⟩;rw[show H.fi[q]=p from(dw.1 I).2]at t;have hr:=(h.below c).st.good p (dB I);obtain⟨kj,hN⟩:=kd.out p (dB I);have hY:=ae (take_at I);have hZ:(q:Int)<(H.fi.length:Int):=by omega
   generalize hseen:((H.fi.take q).map PF.fi).flatMap Fi.b=seen at A;have hv:=ae hseen;have hL:=ae hN;clear hseen I hN;rw[ki]
   go_wp2_with (first | (refine ay bf (of+q*2) _ t _ underlying101 rfl file_size ?_) | (refine aT (Pb p) file_size (EI p) ?_))
   intro w3 f Z;have o:=ah c f;have O:=C.ext f;have M:=A.below f;have hy:=hr.below f;have kn:=ae c.size;have kl:=ae C.lt;clear c C A f t hr;have hT:=Z.cell;unfold Pb at hT;have hV:pY w3 F n (ve (seen++p.l.take 0)):=by simpa using M
   have ko:=hy.le;have ka:=hy.mx;have s:=hy.rd;unfold maxLen at ka;clear M hy;go_upto_region 6 with(fail);clear hT Z
   go_loopw [24] (fun i wr => ∃(j m:Nat),j<=p.l.length/\i = .int .i64 j/\m<=n+j/\Below w.heap.size w wr/\aK wr (F+1) #[.map (some F)] 222/\pY wr F m (ve (seen++p.l.take j))/\eD wr p.a (p.l.map ib)) (fun i _=>p.l.length-(intOf i).toNat)
   case atStart=>exact⟨0,n,bN _,rfl,aC _,o,O,hV,s⟩
   case round=>
    clear o O hV s;obtain⟨j,m,L,rfl,hm,c,C,A,s⟩:=hrel
    by_cases V:j<p.l.length
    ·obtain⟨x,hX⟩:∃x,p.l[j]?=some x:=⟨p.l[j],aM V⟩;obtain⟨b2,off2,hD,hc⟩:=mO s j V;rw[show p.l[j]=x from(dw.1 hX).2]at hc;have hI:=ae (take_at hX);have km:=hL.out x (dB hX);have hA:=ae s;have hO:=ae hD;have hQ : (j:Int)<(p.l.length:Int):=by omega
     have hS:=C.cell;rw[hD];clear hX s hD;generalize hw:seen++p.l.take j=seen2 at A;have hJ : Hid (seen++p.l.take (j+1)=seen2++[x]):=ae (by rw[hI.out,<-lF,hw]);clear hw
     go_wp2_with (refine yJ A (by omega) rfl _ _ _ rfl rfl x rfl rfl (by omega) ?_)
     intro w6 hU z;rw[Gm,<-hJ.out] at hU;have kg:=c.grown z c.size oG0;have hW:=C.grown z (λe=>by have:=aU e;omega);have hK:=A.rdv hA.out z;clear c C A z hS hc hA;go_wp2;go_roundw
     case rel=>exact⟨j+1,m+1,by omega,by go_num,by omega,kg,hW,hU,by rw[<-hO.out];exact hK⟩
     case measure=>simp[intOf];omega
    have hQ : ¬(j:Int)<(p.l.length:Int):=by omega
    rw[mE (by omega)]at A;have hz : pY wr F m (ve (((H.fi.take (q+1)).map PF.fi).flatMap Fi.b)):=by rw[hY.out,jL,iq,hv.out];simpa[PF.fi]using A
    clear A s;go_wp2;go_roundw
    case rel=>exact⟨q+1,m,by omega,by go_num,by omega,c,C,hz⟩
    case measure=>simp[intOf];omega
  have hZ:¬(q:Int)<(H.fi.length:Int):=by omega
  rw[mE (by omega)]at A;have hz : pY wr F n (ve (gZ H.ma.st)):=A;clear A;have R:=hb.ext c;have u:=R.cell;unfold bS at u;go_upto_region 12 with(fail);clear u R
  go_loopw [38] (fun i wr => ∃(k:Nat),k<=H.dk.blocks.length/\i = .int .i64 k/\Below w.heap.size w wr/\aK wr (F+1) #[.map (some F)] 222/\pY wr F n (ve (gZ H.ma.st))/\Hid (∀j:Nat,j<k->(decide ((j:Int)∈gZ H.ma.st)||decide (H.dk.blocks.getD j zPg=zPg))=true)) (fun i _=>H.dk.blocks.length-(intOf i).toNat)
  case atStart=>exact⟨0,bN _,rfl,c,C,hz,ae λj L=>absurd L (ig _)⟩
  case round=>
   clear c C hz;obtain⟨k,hk,rfl,c,C,A,d⟩:=hrel
   by_cases J:k<H.dk.blocks.length
   ·obtain⟨bd,od,ke,t⟩:=oU xh (h.below c).dk.rb k J;have kc:(k:Int)<(H.dk.blocks.length:Int):=by omega
    have S:Hid (H.dk.blocks.getD k zPg=H.dk.blocks[k]):=ae (by rw[bA,aM J];rfl);generalize hP:H.dk.blocks[k]=P at t S;clear hP;rw[ke]
    go_wp2_with (first | (refine ay bd (od+k*8) _ t _ underlying58 rfl psize ?_) | (refine aT (gW P) psize (pX _) ?_))
    intro w3 f px3;have o:=ah c f;have O:=C.ext f;have M:=A.below f;clear c C A f t;have hS:=O.cell;have hl:=M.look k (by omega);have kf:=px3.cell;rw[JK]at kf;cases hu:ve (gZ H.ma.st) (k:Int)with
    | true=>
     rw[hu]at hl;have y:Hid (∀j:Nat,j<k+1->(decide ((j:Int)∈gZ H.ma.st)||decide (H.dk.blocks.getD j zPg=zPg))=true):=ae λj L=>by
      by_cases e:j=k
      ·subst e;rw[show decide ((j:Int)∈gZ H.ma.st)=true from hu];rfl
      ·exact d.out j (by omega)
     clear hu d;go_wp2;go_roundw
     case rel=>exact⟨k+1,by omega,by go_num,o,O,M,y⟩
     case measure=>simp[intOf];omega
    | false=>
     rw[hu]at hl;have hE:∀W,(Op.equalIn 10000 58 (.agg #[.int .u8 P[0].toNat,.int .u8 P[1].toNat,.int .u8 P[2].toNat,.int .u8 P[3].toNat,.int .u8 P[4].toNat,.int .u8 P[5].toNat,.int .u8 P[6].toNat,.int .u8 P[7].toNat]) (.agg #[.int .u8 0,.int .u8 0,.int .u8 0,.int .u8 0,.int .u8 0,.int .u8 0,.int .u8 0,.int .u8 0])).run Tryz.prog W = .ok (P==zPg) W:=λW=>eqP P zPg W
     by_cases G:P=zPg
     ·have y:Hid (∀j:Nat,j<k+1->(decide ((j:Int)∈gZ H.ma.st)||decide (H.dk.blocks.getD j zPg=zPg))=true):=ae λj L=>by
       by_cases e:j=k
       ·subst e;rw[S.out,decide_eq_true G,Bool.or_true]
       ·exact d.out j (by omega)
      have X:(P==zPg)=true:=by rw[G];exact beq_self_eq_true _
      rw[X] at hE;clear hu d X G S;go_wp2;go_roundw
      case rel=>exact⟨k+1,by omega,by go_num,o,O,M,y⟩
      case measure=>simp[intOf];omega
     have X:(P==zPg)=false:=by rw[beq_eq_false_iff_ne];exact G
     have K:Hid (trimB H.ma=false):=ae (Wv (k:=k) J (by show(decide ((k:Int)∈gZ H.ma.st)||decide (H.dk.blocks.getD k zPg=zPg))=false;rw[S.out,decide_eq_false G,show decide ((k:Int)∈gZ H.ma.st)=false from hu];rfl));rw[X]at hE;clear hu d X G S;go_wp2;go_ret;rw[K.out];exact⟨rfl,o⟩
   have kc:¬(k:Int)<(H.dk.blocks.length:Int):=by omega
   have K:Hid (trimB H.ma = !(H.dk.queue.any (Ii (ve (gZ H.ma.st))))):=ae (Vw λj L=>d.out j (by have:j<H.dk.blocks.length:=L;omega));have R:=hb.ext c;have u:=R.cell;unfold bS at u;have N:=(h.below c).dk;clear d
   go_wp2_with fail
   refine(Pv H.dk.queue H.dq H.cdq _ N.rq (by omega) (F+1) F n (ve (gZ H.ma.st)) C A h8.out).mono ?_;rintro r w4 ⟨rfl,kh⟩;go_wp2;go_ret;rw[K.out];exact⟨rfl,ah c kh⟩
def KN(m:Ma):List Int:=[bT m.m,dZ m.sl,bZ m.sw,bZ m.dk,aQ m.st]
theorem TB(F:k<5)(h:∀j,j<k->(KN m).getD j 0=0)(d:(KN m).getD k 0≠0):iO m=(KN m).getD k 0:=by
 unfold iO;have y:0<k->bT m.m=0:=λu=>h 0 u;have A:1<k->dZ m.sl=0:=λu=>h 1 u;have C:2<k->bZ m.sw=0:=λu=>h 2 u;have G:3<k->bZ m.dk=0:=λu=>h 3 u
 match k,F with
 | 0,_=>rw[if_pos (show bT m.m≠0 from d)];rfl
 | 1,_=>rw[if_neg (by rw[y (by omega)];simp),if_pos (show dZ m.sl≠0 from d)];rfl
 | 2,_=>rw[if_neg (by rw[y (by omega)];simp),if_neg (by rw[A (by omega)];simp),if_pos (show bZ m.sw≠0 from d)];rfl
 | 3,_=>rw[if_neg (by rw[y (by omega)];simp),if_neg (by rw[A (by omega)];simp),if_neg (by rw[C (by omega)];simp),if_pos (show bZ m.dk≠0 from d)];rfl
 | 4,_=>rw[if_neg (by rw[y (by omega)];simp),if_neg (by rw[A (by omega)];simp),if_neg (by rw[C (by omega)];simp),if_neg (by rw[G (by omega)];simp),if_pos (show aQ m.st≠0 from d)];rfl
 | n+5,u=>omega
def aaL(B:Nat)(H:MH):oW:=⟨λv w => ∃g,v = .slice (some ⟨g,0,none⟩) 5 5/\aK w g #[.int .i64 (bT H.m),.int .i64 (dZ H.sl),.int .i64 (bZ H.sw),.int .i64 (bZ H.dk),.int .i64 (aQ (bD H.fi H.ct))] 47,λ_ _ _ hb ⟨g,h1,h2⟩=>⟨g,h1,h2.ext hb⟩⟩
theorem RX(H:MH)(b:Nat)(w:World)(K:aK w b (bS H) 45)(h:Dk w H) :
  Calls Tryz.prog 81 #[.pointer (some ⟨b,0,none⟩)] w λr w'=>r = .returned (.int .i64 (iO H.ma))/\Below w.heap.size w w':=by
 go_enter func81,ntmps81;go_upto_region 1 with(fail);refine aR 28 [_,_,_,_,.v (.int .i64 (bT H.m)),_,_,_,_,.v (.int .i64 (dZ H.sl)),_,_,_,_,.v (.int .i64 (bZ H.sw)),_,_,_,_,.v (.int .i64 (bZ H.dk)),_,_,_,_,.v (.int .i64 (aQ (bD H.fi H.ct))),.r 25 ((aaL w.heap.size H)),.v (.int .i64 5),_] (Gk rfl (Gk rfl (Gf b 0 rfl rfl (Gr (.agg #[.slice H.af H.m.fs.length H.cf,.int .i64 H.m.hand]) (λρ y W C g=>(bO rfl (bi rfl g) (cK (K.ext C) 0 2) underlying32)) rfl rfl (aj ?_ (Gk rfl (Gk rfl (Gf b 2 rfl rfl (Gl K rfl rfl rfl rfl rfl (aj ?_ (Gk rfl (Gk rfl (Gf b 3 rfl rfl (Gr (.agg #[.slice H.wb H.sw.blocks.length H.cwb,.slice H.wq H.sw.queue.length H.cwq]) (λρ y W C g=>(bO rfl (bi rfl g) (cK (K.ext C) 3 2) underlying38)) rfl rfl (aj ?_ (Gk rfl (Gk rfl (Gf b 5 rfl rfl (Gr (.agg #[.slice H.db H.dk.blocks.length H.cdb,.slice H.dq H.dk.queue.length H.cdq]) (λρ y W C g=>(bO rfl (bi rfl g) (cK (K.ext C) 5 2) underlying38)) rfl rfl (aj ?_ (Gk rfl (Gk rfl (Gf b 7 rfl rfl (Gr (.agg #[.slice H.ai H.fi.length H.ci,.int .i64 H.ct]) (λρ y W C g=>(bO rfl (bi rfl g) (cK (K.ext C) 7 2) underlying41)) rfl rfl (aj ?_ (aj ?_ (aj ?_ (Gr (.int .i64 0) (λρ y W C g=>(run_move (.inl rfl) (bi rfl g))) rfl rfl (aH))))))))))))))))))))))))))))) (λ_=>rfl) rfl ?_
 ·intro ρ y W F J C A;have kw:=F 12 3 rfl;have h3:y 3=_:=A 3 rfl;have G:=eF0 J λ_=>trivial;refine aL (aW rfl (G _) func125 (by simp only[bU,bM,bP,kw,h3,G];rfl)) ?_;refine(xM H.m _ _ W (h.below C).fr).mono ?_;rintro r Y ⟨rfl,p⟩;exact⟨_,rfl,p,rfl⟩
 ·intro ρ y W F J C A;have ku:=F 17 8 rfl;have h8:y 8=_:=A 8 rfl;have G:=eF0 J λ_=>trivial;refine aL (aW rfl (G _) func126 (by simp only[bU,bM,bP,ku,h8,G];rfl)) ?_;refine(xX H.sl _ _ W (h.below C).sl.rd (by have:=h.sl.le;have:=h.sl.mx;unfold maxLen at this;omega)).mono ?_;rintro r Y ⟨rfl,rfl⟩;exact⟨_,rfl,Below.refl _ _,rfl⟩
 ·intro ρ y W F J C A;have ks:=F 22 13 rfl;have kk:y 13=_:=A 13 rfl;have G:=eF0 J λ_=>trivial;refine aL (aW rfl (G _) func127 (by simp only[bU,bM,bP,ks,kk,G];rfl)) ?_;refine(uU H.sw _ _ _ _ W (h.below C).sw).mono ?_;rintro r Y ⟨rfl,p⟩;exact⟨_,rfl,p,rfl⟩
 ·intro ρ y W F J C A;have kq:=F 27 18 rfl;have ki:y 18=_:=A 18 rfl;have G:=eF0 J λ_=>trivial;refine aL (aW rfl (G _) func127 (by simp only[bU,bM,bP,kq,ki,G];rfl)) ?_;refine(uU H.dk _ _ _ _ W (h.below C).dk).mono ?_;rintro r Y ⟨rfl,p⟩;exact⟨_,rfl,p,rfl⟩
 ·intro ρ y W F J C A;have ko:=F 32 23 rfl;have kg:y 23=_:=A 23 rfl;have G:=eF0 J λ_=>trivial;refine aL (aW rfl (G _) func113 (by simp only[bU,bM,bP,ko,kg,G];rfl)) ?_;refine(xN H.fi H.ct _ _ W (h.below C).st h.c64).mono ?_;rintro r Y ⟨rfl,p⟩;exact⟨_,rfl,p,rfl⟩
 ·intro ρ y W F J C A;have kv:=F 13 4 rfl;have h4:y 4=_:=A 4 rfl;have kt:=F 18 9 rfl;have h9:y 9=_:=A 9 rfl;have kr:=F 23 14 rfl;have kj:y 14=_:=A 14 rfl;have kp:=F 28 19 rfl;have kh:y 19=_:=A 19 rfl;have kn:=F 33 24 rfl;have kf:y 24=_:=A 24 rfl;refine gM (.slice (some ⟨W.heap.size,0,none⟩) 5 5) (ag) (by simp[execOp,go_sem,kv.trans h4,kt.trans h9,kr.trans kj,kp.trans kh,kn.trans kf]) ((Below.refl _ _).alloc (aC _) (.cells #[.int .i64 (bT H.m),.int .i64 (dZ H.sl),.int .i64 (bZ H.sw),.int .i64 (bZ H.dk),.int .i64 (aQ (bD H.fi H.ct))] 47)) ?_;exact⟨_,rfl,aK.new _ _ _⟩
 ·intro ρ y W F J C A;have km:=F 34 25 rfl;have ke:=A 25 rfl;obtain⟨ge,hu,_⟩:=ke;refine ak (.int .i64 5) (by simp[execOp,go_sem,km,hu])
 intro y W1 hG hI;have hV:((aaL w.heap.size H)).r (y 25) W1:=hI 25 (by decide);clear hI;obtain⟨ge,hu,hW⟩:=hV;have hh:Below w.heap.size w W1:=hG;rw[hu];clear hu hG;go_upto_region 2 with(fail)
 go_loopw [36] (fun i wr => ∃(k:Nat),k<=5/\i = .int .i64 k/\Below w.heap.size w wr/\aK wr ge #[.int .i64 (bT H.m),.int .i64 (dZ H.sl),.int .i64 (bZ H.sw),.int .i64 (bZ H.dk),.int .i64 (aQ (bD H.fi H.ct))] 47/\Hid (∀j,j<k->(KN H.ma).getD j 0=0)) (fun i _=>5-(intOf i).toNat)
 case atStart=>exact⟨0,bN _,rfl,hh,hW,ae λj S=>absurd S (ig _)⟩
 case round=>
  clear hh hW;obtain⟨k,hk,rfl,d,hx,I⟩:=hrel
  by_cases L:k<5
  ·have hM:(k:Int)<5:=by omega
   have kb:wr.cell? ⟨ge,k,none⟩=some (.int .i64 ((KN H.ma).getD k 0)):=by
    rw[hx.cell]
    match k,L with
    | 0,_=>rfl
    | 1,_=>rfl
    | 2,_=>rfl
    | 3,_=>rfl
    | 4,_=>rfl
    | n+5,h'=>omega
   by_cases Z:(KN H.ma).getD k 0=0
   ·have hm:Hid (∀j,j<k+1->(KN H.ma).getD j 0=0):=ae λj S=>by
     by_cases e:j=k
     ·rw[e];exact Z
     ·exact I.out j (by omega)
    rw[Z] at kb;clear Z I;go_wp2;go_roundw
    case rel=>exact⟨k+1,by omega,by go_num,d,hx,hm⟩
    case measure=>simp[intOf];omega
   have R:Hid (iO H.ma=(KN H.ma).getD k 0):=ae (TB L I.out Z);generalize (KN H.ma).getD k 0=E at *
   clear I;go_wp2;go_ret;rw[R.out];exact⟨rfl,d⟩
  have hM:¬(k:Int)<5:=by omega
  have hU:=I.out 0 (by omega);have hT:=I.out 1 (by omega);have hm:=I.out 2 (by omega);have hS:=I.out 3 (by omega);have hR:=I.out 4 (by omega);have e0:=ae (show bT H.m=0 from hU);have e1:=ae (show dZ H.sl=0 from hT);have e2:=ae (show bZ H.sw=0 from hm);have e3:=ae (show bZ H.dk=0 from hS);have e4:=ae (show aQ (bD H.fi H.ct)=0 from hR);clear hU hT hm hS hR I hx;have a:=K.ext d;have hr:=h.below d;have U:Hid (iO H.ma=if H.sw.blocks.length≠H.sl.length\/(H.dk.blocks.length:Int)≠H.ct\/trimB H.ma=false then 7 else if 4<H.sp.length then 4 else firstE (H.ma.sp.map kH)):=ae (by unfold iO;rw[if_neg (by rw[show bT H.ma.m=0 from e0.out];simp),if_neg (by rw[show dZ H.ma.sl=0 from e1.out];simp),if_neg (by rw[show bZ H.ma.sw=0 from e2.out];simp),if_neg (by rw[show bZ H.ma.dk=0 from e3.out];simp),if_neg (by rw[show aQ H.ma.st=0 from e4.out];simp),qm];rfl);go_upto_region 7 with(fail);have hf:=a.cell;unfold bS at hf
  by_cases c1:H.sw.blocks.length=H.sl.length
  ·by_cases c2:(H.dk.blocks.length:Int)=H.ct
   ·have N:(H.sw.blocks.length:Int)=(H.sl.length:Int):=by omega
    have hL:Hid (iO H.ma=if trimB H.ma=false then 7 else if 4<H.sp.length then 4 else firstE (H.ma.sp.map kH)):=ae (by
     rw[U.out]
     by_cases ct:trimB H.ma=false
     ·rw[if_pos (.inr (.inr ct)),if_pos ct]
     ·rw[if_neg (by rintro(h | h | h);exact h c1;exact h c2;exact ct h),if_neg ct])
    refine aR 31 [_,_,_,_,_,_,_,_,_,_,_,_,_,_,_,_,_,_,_,_,_,_,_,_,_,_,_,_,.v (.bool (trimB H.ma)),_,.v (.bool (!trimB H.ma))] (Gk rfl (Gk rfl (Gf b 3 rfl rfl (Gf b 3 rfl rfl (Gl a rfl rfl rfl rfl rfl (Gn rfl rfl rfl rfl (Gk rfl (Gk rfl (Gf b 2 rfl rfl (Gl a rfl rfl rfl rfl rfl (Gn rfl rfl rfl rfl (Gb (.bool false) (by simp[go_sem,c1]) rfl rfl rfl rfl rfl (Gk rfl (Gk rfl (Gk rfl (Gf b 5 rfl rfl (Gf b 5 rfl rfl (Gl a rfl rfl rfl rfl rfl (Gn rfl rfl rfl rfl (Gk rfl (Gk rfl (Gf b 7 rfl rfl (Gf b 8 rfl rfl (Gl a rfl rfl rfl rfl rfl (Gb (.bool false) (by simp[go_sem,c2]) rfl rfl rfl rfl rfl (Gk rfl (Gk rfl (Gk rfl (aj ?_ (Gr (.bool (!trimB H.ma)) (λρ y W C g=>Ez rfl (bi rfl g)) rfl rfl (Gk rfl (aH)))))))))))))))))))))))))))))))) (λ_=>rfl) rfl ?_
    ·intro ρ y W F J C A;have kl:=F 71 27 rfl;have kd:y 27=_:=A 27 rfl;have G:=eF0 J λ_=>trivial;refine aL (m:=(ic 26 70 false false ((F 70 26 rfl).trans (A 26 rfl)))) (aW rfl (G _) func128 (by simp only[bU,bM,bP,kl,kd,G];rfl)) ?_;refine(LY H b W (a.ext C) (hr.below C) e4.out e3.out).mono ?_;rintro r Y ⟨rfl,p⟩;exact⟨_,rfl,p,rfl⟩
    intro y W2 l _;have c:=ah d l;clear l;cases ht:trimB H.ma with
    | false=>
     have ha:Hid (iO H.ma=7):=ae (by rw[hL.out,if_pos ht]);clear c1 c2 N;go_wp2;go_ret;rw[ha.out];exact⟨rfl,c⟩
    | true=>
     have hK:Hid (iO H.ma=if 4<H.sp.length then 4 else firstE (H.ma.sp.map kH)):=ae (by rw[hL.out,if_neg (by rw[ht];decide)]);clear c1 c2 N hf ht;have h6:=h.below c;have hf:=(K.ext c).cell;unfold bS at hf;clear hr a U hL d
     by_cases c4:4<H.sp.length
     ·have hs:Hid (iO H.ma=4):=ae (by rw[hK.out,if_pos c4]);have c4i:(4:Int)<(H.sp.length:Int):=by omega
      clear c4;go_wp2;go_ret;rw[hs.out];exact⟨rfl,c⟩
     have hs:Hid (iO H.ma=firstE (H.ma.sp.map kH)):=ae (by rw[hK.out,if_neg c4]);have c4i:¬(4:Int)<(H.sp.length:Int):=by omega
     have hC:Hid ((H.ma.sp.map kH).length=H.sp.length):=ae (by rw[fE,qm]);clear c4 hK;go_upto_region 12 with(fail);clear hf h6
     go_loopw [86] (fun i wr => ∃(k:Nat),k<=H.sp.length/\i = .int .i64 k/\Below w.heap.size w wr/\Hid (∀j (S:j<(H.ma.sp.map kH).length),j<k->(H.ma.sp.map kH)[j]=0)) (fun i _=>H.sp.length-(intOf i).toNat)
     case atStart=>exact⟨0,bN _,rfl,c,ae λj _ S=>absurd S (ig _)⟩
     case round=>
      clear c;obtain⟨k,hk,rfl,d,I⟩:=hrel
      by_cases L:k<H.sp.length
      ·obtain⟨bs,os,P,kc,U,hX⟩:=yc (h.below d).sp.rd k L;have t:=Bv (h.below d) U;have hM:(k:Int)<(H.sp.length:Int):=by omega
       have hZ:k<(H.ma.sp.map kH).length:=by rw[hC.out];exact L
       have hE:Hid ((H.ma.sp.map kH)[k]=kH P.sp):=ae (by
        rw[rJ];congr 1;have:H.ma.sp[k]?=some P.sp:=by show(H.sp.map PS.sp)[k]?=_;rw[iH,U];rfl
        exact(dw.1 this).2)
       have hc:Hid (kH P.sp≠0->iO H.ma=kH P.sp):=ae λh7=>by rw[hs.out,yQ k hZ I.out (by rw[hE.out];exact h7),hE.out]
       have hY:Hid (kH P.sp=0->∀j (S:j<(H.ma.sp.map kH).length),j<k+1->(H.ma.sp.map kH)[j]=0):=ae λZ j S kz=>by
        by_cases e:j=k
        ·subst e;rw[hE.out];exact Z
        ·exact I.out j S (by omega)
       have o:Hid (kH P.sp=if(dY P.ar).1≠0 then(dY P.ar).1 else if eU P.tb≠0 then eU P.tb else if P.lv=false/\0<P.ar.length+(aV P.tb).length then 7 else 0):=ae rfl;rw[kc];clear I U hE hZ;have hB:(CK P).all (·.oneCell')=true:=by rw[<-iX,dG];exact t.one
       go_wp2_with (first | (refine ay bs (os+k*10) _ hX _ underlying76 rfl space_size ?_) | (refine aT (CK P) space_size hB ?_))
       intro w3 hQ M;have hF:=ah d hQ;have hN:=t.below hQ;have ka:=M.lt;generalize wr.heap.size=gs at M ka ⊢;clear d hQ hX t hB;have h1:=M.cell;unfold CK at h1;have hA:=hN.ars
       go_wp2_with fail
       refine(Gh P.ar P.aa P.ac _ hA.rd (by have:=hA.le;have:=hA.mx;unfold maxLen at this;omega)).mono ?_;rintro r w3' ⟨rfl,z⟩;have X:=M.ext z;have hg:=ah hF z;have hD:=hN.below z;clear h1 M hF hN z hA
       go_wp2_with (refine aT (Xa (dY P.ar)) fau_size (by simp[Xa,Value.oneCell']) ?_)
       intro w4 hy ux;have O:=X.ext hy;have q:=ah hg hy;have u:=hD.below hy;clear X hg hD hy;have hO:=ux.cell;unfold Xa at hO
       by_cases c5:(dY P.ar).1=0
       ·rw[if_neg (by rw[c5];simp)]at o;rw[c5]at hO;have kA:=(ug c5).1;have ky:(aV P.tb).length<=64:=uR P.tb 64;have hp:IntKind.i64.wrap ((P.ar.length:Int)+((aV P.tb).length:Int))=(P.ar.length:Int)+((aV P.tb).length:Int):=dz _ (by omega);go_upto_region 17 with(fail);clear hO ux c5
        go_wp2_with (refine ay gs 2 _ (cK O 2 8) _ underlying74 tab_agg tab_size ?_)
        refine(Ia P.tb (vo P.ts) _ u.tb).mono ?_;rintro r w6 ⟨rfl,hv⟩;replace O:=O.ext hv;replace q:=ah q hv;replace u:=u.below hv;clear hv
        by_cases c6:eU P.tb=0
        ·rw[if_neg (by rw[c6];simp)]at o;rw[c6];go_upto_region 20 with(fail);cases hlv:P.lv with
         | true=>
          have hJ:Hid (kH P.sp=0):=ae (by rw[o.out,if_neg (by rw[hlv];simp)]);refine aR 14 [_,_,_,_,_,_,_,_,_,_,_,_,_,.v (.bool false)] (Gf gs 0 rfl rfl (Gl O (V:=.bool true) (by simp[CK,hlv]) rfl rfl rfl rfl (Gk rfl (Gk rfl (Gk rfl (Gk rfl (Gk rfl (Gk rfl (Gk rfl (Gk rfl (Gk rfl (Gk rfl (Gk rfl (Gk rfl (aH))))))))))))))) (λ_=>rfl) rfl ?_;intro y W5 s _;have x:=ah q s;clear s;have hl:=ae (hY.out hJ.out);clear hp O u;go_wp2;go_roundw
          case rel=>exact⟨k+1,by omega,by go_num,x,hl⟩
          case measure=>simp[intOf];omega
         | false=>
          refine aR 14 [_,_,_,_,_,_,_,_,_,.r 9 ((il w6.heap.size 3 1 (aV P.tb).length ((aV P.tb).map ib))),.v (.int .i64 (aV P.tb).length),_,_,.v (.bool (decide (0<(P.ar.length:Int)+((aV P.tb).length:Int))))] (Gf gs 0 rfl rfl (Gl O (V:=.bool false) (by simp[CK,hlv]) rfl rfl rfl rfl (Gk rfl (Gk rfl (Gf gs 1 rfl rfl (Gl O rfl rfl rfl rfl rfl (Gn rfl rfl rfl rfl (Gf gs 2 rfl rfl (Gr (.agg (vo P.ts)) (λρ y W C g=>(bO rfl (bi rfl g) (cK (O.ext C) 2 8) underlying74 (z:=tab_agg) (s:=tab_size))) rfl rfl (aj ?_ (aj ?_ (Gb (.int .i64 ((P.ar.length:Int)+((aV P.tb).length:Int))) (by simp[go_sem,hp]) rfl rfl rfl rfl rfl (Gb (.bool (decide (0<(P.ar.length:Int)+((aV P.tb).length:Int)))) (by simp[go_sem]) rfl rfl rfl rfl rfl (Gk rfl (aH))))))))))))))) (λ_=>rfl) rfl ?_
          ·intro ρ y W F J C A;have h5:=F 112 8 rfl;have h8:y 8=_:=A 8 rfl;have G:=eF0 J λ_=>trivial;refine aL (m:=(ic 3 107 true true ((F 107 3 rfl).trans (A 3 rfl)))) (aW rfl (G _) func67 (by simp only[bU,bM,bP,h5,h8,G];rfl)) ?_;refine(wM P.tb (vo P.ts) W (u.below C).tb).mono ?_;rintro r Y ⟨v,rfl,ho,p⟩;exact⟨_,rfl,p,ho.mono C.size⟩
          ·intro ρ y W F J C A;have h2:=F 113 9 rfl;have h9:=A 9 rfl;obtain⟨a9,c9,e9,_⟩:=Own.rd h9;refine ak (.int .i64 (aV P.tb).length) (h:=(ic 3 107 true true ((F 107 3 rfl).trans (A 3 rfl)))) (MW rfl (h2.trans e9) rfl)
          intro y W5 s hH;have kx:((il w6.heap.size 3 1 (aV P.tb).length ((aV P.tb).map ib))).r (y 9) W5:=hH 9 (by decide);clear hH;have x:=ah q s;clear s
          by_cases c7:0<P.ar.length+(aV P.tb).length
          ·have R:Hid (iO H.ma=7):=ae (by rw[hc.out (by rw[o.out,if_pos ⟨hlv,c7⟩];decide),o.out,if_pos ⟨hlv,c7⟩]);have A:decide (0<(P.ar.length:Int)+((aV P.tb).length:Int))=true:=decide_eq_true (by omega);rw[A];clear hp O u A c7;go_wp2;go_ret;rw[R.out];exact⟨rfl,x⟩
          have hJ:Hid (kH P.sp=0):=ae (by rw[o.out,if_neg (λh'=>c7 h'.2)]);have hl:=ae (hY.out hJ.out);have A:decide (0<(P.ar.length:Int)+((aV P.tb).length:Int))=false:=decide_eq_false (by omega);rw[A];clear hp O u A c7;go_wp2;go_roundw
          case rel=>exact⟨k+1,by omega,by go_num,x,hl⟩
          case measure=>simp[intOf];omega
        rw[if_pos c6]at o;have R:Hid (iO H.ma=eU P.tb):=ae (by rw[hc.out (by rw[o.out];exact c6),o.out]);generalize eU P.tb=E at *
        go_wp2;go_ret;rw[R.out];exact⟨rfl,q⟩
       rw[if_pos c5]at o;have R:Hid (iO H.ma=(dY P.ar).1):=ae (by rw[hc.out (by rw[o.out];exact c5),o.out]);generalize (dY P.ar).1=E at *
       go_wp2;go_ret;rw[R.out];exact⟨rfl,q⟩
      have hM:¬(k:Int)<(H.sp.length:Int):=by omega
      have R:Hid (iO H.ma=0):=ae (by rw[hs.out,vw λi hi=>I.out i hi (by rw[hC.out]at hi;omega)]);clear I;go_wp2;go_ret;rw[R.out];exact⟨rfl,d⟩
   have ha:Hid (iO H.ma=7):=ae (by rw[U.out,if_pos (.inr (.inl c2))]);refine aR 31 [_,_,_,_,_,_,_,_,_,_,_,_,_,_,_,_,_,_,_,_,_,_,_,_,_,_,_,_,_,_,.v (.bool true)] (Gk rfl (Gk rfl (Gf b 3 rfl rfl (Gf b 3 rfl rfl (Gl a rfl rfl rfl rfl rfl (Gn rfl rfl rfl rfl (Gk rfl (Gk rfl (Gf b 2 rfl rfl (Gl a rfl rfl rfl rfl rfl (Gn rfl rfl rfl rfl (Gb (.bool false) (by simp[go_sem,c1]) rfl rfl rfl rfl rfl (Gk rfl (Gk rfl (Gk rfl (Gf b 5 rfl rfl (Gf b 5 rfl rfl (Gl a rfl rfl rfl rfl rfl (Gn rfl rfl rfl rfl (Gk rfl (Gk rfl (Gf b 7 rfl rfl (Gf b 8 rfl rfl (Gl a rfl rfl rfl rfl rfl (Gb (.bool true) (by simp[go_sem,c2]) rfl rfl rfl rfl rfl (Gk rfl (Gk rfl (Gk rfl (Gk rfl (Gk rfl (Gk rfl (aH)))))))))))))))))))))))))))))))) (λ_=>rfl) rfl ?_;intro y W2 l _;have c:=ah d l;clear l;clear c1 c2;go_wp2;go_ret;rw[ha.out];exact⟨rfl,c⟩
  have ha:Hid (iO H.ma=7):=ae (by rw[U.out,if_pos (.inl c1)]);have N:¬((H.sw.blocks.length:Int)=(H.sl.length:Int)):=by omega
  have c2:=c1;refine aR 31 [_,_,_,_,_,_,_,_,_,_,_,_,_,_,_,_,_,_,_,_,_,_,_,_,_,_,_,_,_,_,.v (.bool true)] (Gk rfl (Gk rfl (Gf b 3 rfl rfl (Gf b 3 rfl rfl (Gl a rfl rfl rfl rfl rfl (Gn rfl rfl rfl rfl (Gk rfl (Gk rfl (Gf b 2 rfl rfl (Gl a rfl rfl rfl rfl rfl (Gn rfl rfl rfl rfl (Gb (.bool true) (by simp[go_sem,N]) rfl rfl rfl rfl rfl (Gk rfl (Gk rfl (Gk rfl (Gk rfl (Gk rfl (Gk rfl (Gk rfl (Gk rfl (Gk rfl (Gk rfl (Gk rfl (Gk rfl (Gk rfl (Gk rfl (Gk rfl (Gk rfl (Gk rfl (Gk rfl (Gk rfl (aH)))))))))))))))))))))))))))))))) (λ_=>rfl) rfl ?_;intro y W2 l _;have c:=ah d l;clear l;clear c1 N c2;go_wp2;go_ret;rw[ha.out];exact⟨rfl,c⟩
theorem wH{p:Option Cc}{c:Cc}(h:c.f<0\/(m.st.fs.length:Int)<=c.f\/c.i<0\/((az m.st c.f).b.length:Int)<=c.i\/c.k<0\/(m.m.fs.length:Int)<=c.k):vU m p c=3:=by
 unfold vU;rw[if_pos h]
theorem Qq(H:MH)(b:Nat)(w:World)(hbk:aK w b (bS H) 45)(h:Dk w H) :
  Calls Tryz.prog 82 #[.pointer (some ⟨b,0,none⟩)] w λr w'=>r = .returned (.int .i64 (iL H.ma))/\Below w.heap.size w w':=by
 have ku:=h.ca.le;have kp:=h.ca.mx;unfold maxLen at kp;go_enter func82,ntmps82;have kf:=hbk.cell;unfold bS at kf;obtain⟨L,hL⟩:∃L,L=(List.range H.ca.length).map λk=>vU H.ma (zK H.ca k) (H.ca.getD k zCc):=⟨_,rfl⟩;have kl:Hid (L.length=H.ca.length):=ae (by rw[hL];simp);have km:Hid (iL H.ma=firstE L):=ae (by rw[hL];rfl);have ks:Hid (∀k (hk:k<L.length),L[k]=vU H.ma (zK H.ca k) (H.ca.getD k zCc)):=ae λk hk=>by simp[hL]
 clear hL;go_upto_region 2 with(fail);clear kf
 go_loopw [11] (fun i wr => ∃(k:Nat),k<=H.ca.length/\i = .int .i64 k/\Below w.heap.size w wr/\Hid (∀j (hj:j<L.length),j<k->L[j]=0)) (fun i _=>H.ca.length-(intOf i).toNat)
 case atStart=>exact⟨0,bN _,rfl,Below.refl _ _,ae λj _ hj=>absurd hj (ig _)⟩
 case round=>
  obtain⟨k,hk,rfl,hN,hz⟩:=hrel
  by_cases hkl:k<H.ca.length
  ·obtain⟨I,G,hv,h4⟩:=oU kD (h.below hN).ca.rd k hkl;have kq:(k:Int)<(H.ca.length:Int):=by omega
   have hX:k<L.length:=by rw[kl.out];exact hkl
   have hE:Hid (L[k]=vU H.ma (zK H.ca k) H.ca[k]):=ae (by rw[ks.out k hX,bA,aM hkl];rfl);have ha:Hid (L[k]≠0->iL H.ma=L[k]):=ae λko=>by rw[km.out,yQ k hX hz.out ko]
   have hW:Hid (L[k]=0->∀j (hj:j<L.length),j<k+1->L[j]=0):=ae λh0 j hj kv=>by
    by_cases e:j=k
    ·subst e;exact h0
    ·exact hz.out j hj (by omega)
   generalize hLk:L[k]=Lk at *
   have h6:Hid (zK H.ca k=if k=0 then none else H.ca[k-1]?):=ae rfl;generalize hc:H.ca[k]=c at *
   rw[hv];clear hz hX hLk hc
   go_wp2_with (first | (refine ay I (G+k*3) _ h4 _ underlying122 rfl cached_size ?_) | (refine aT (zF c) cached_size (Ev c) ?_))
   intro w3 kj C;have ht:=ah hN kj;have z:=hbk.ext ht;have hV:=h.below ht;generalize wr.heap.size=gc at C ⊢;clear kj h4 hN;go_upto_region 4 with(fail);obtain⟨R,of,F,P,S,N,Z,X⟩:∃(R of F:Nat) (P:PF),(0<=c.f->c.f<H.fi.length->H.ai=some ⟨R,of,none⟩)/\(0<=c.f->c.f<H.fi.length->F<H.fi.length)/\(0<=c.f->c.f<H.fi.length->c.f=(F:Int)/\az H.ma.st c.f=P.fi)/\(0<=c.f->c.f<H.fi.length->∀W,Below w3.heap.size w3 W->W.cell? ⟨R,of+F*2+1,none⟩=some (.slice P.a P.l.length P.c)):=by
    by_cases hc0:0<=c.f/\c.f<H.fi.length
    ·have N:c.f.toNat<H.fi.length:=by omega
     obtain⟨R,of,P,S,hP,kw,X⟩:=yB hV.st.rd c.f.toNat N;refine⟨R,of,c.f.toNat,P,λ_ _=>S,λ_ _=>N,λ_ _=>⟨by omega,?_⟩,λ_ _ W A => ?_⟩
     ·have:(H.fi.map PF.fi)[c.f.toNat]?=some P.fi:=by rw[iH,hP];rfl
      have h2:=iN (s:=H.ma.st) (F:=c.f.toNat) this;rw[<-h2];congr 1;omega
     obtain⟨bf',of',P',hS,kk,kt,kd⟩:=yB (hV.below A).st.rd c.f.toNat N;rw[hP]at kk;cases kk;rw[S]at hS;cases hS;exact kd
    ·exact⟨0,0,0,⟨0,none,[],0⟩,λh1 h2=>absurd ⟨h1,h2⟩ hc0,λh1 h2=>absurd ⟨h1,h2⟩ hc0,λh1 h2=>absurd ⟨h1,h2⟩ hc0,λh1 h2=>absurd ⟨h1,h2⟩ hc0⟩
   by_cases c1:c.f<0
   ·have t:Hid (c.f<0\/(H.ma.st.fs.length:Int)<=c.f\/c.i<0\/((az H.ma.st c.f).b.length:Int)<=c.i\/c.k<0\/(H.ma.m.fs.length:Int)<=c.k):=ae (.inl c1);refine aR 51 [_,_,_,_,_,_,_,_,_,_,_,_,_,_,_,_,_,_,_,_,_,_,_,_,_,_,_,_,_,_,_,_,_,_,_,_,_,_,_,_,_,_,_,_,_,_,_,_,_,_,.v (.bool true)] (Gf gc 0 rfl rfl (Gl C rfl rfl rfl rfl rfl (Gb (.bool true) (by simp[go_sem,c1]) rfl rfl rfl rfl rfl (Gk rfl (Gk rfl (Gk rfl (Gk rfl (Gk rfl (Gk rfl (Gk rfl (Gk rfl (Gk rfl (Gk rfl (Gk rfl (Gk rfl (Gk rfl (Gk rfl (Gk rfl (Gk rfl (Gk rfl (Gk rfl (Gk rfl (Gk rfl (Gk rfl (Gk rfl (Gk rfl (Gk rfl (Gk rfl (Gk rfl (Gk rfl (Gk rfl (Gk rfl (Gk rfl (Gk rfl (Gk rfl (Gk rfl (Gk rfl (Gk rfl (Gk rfl (Gk rfl (Gk rfl (Gk rfl (Gk rfl (Gk rfl (Gk rfl (Gk rfl (Gk rfl (Gk rfl (Gk rfl (Gk rfl (Gk rfl (aH)))))))))))))))))))))))))))))))))))))))))))))))))))) (λ_=>rfl) rfl ?_;intro y W4 g _;have p:=ah ht g;replace C:=C.ext g;clear g;have O:Hid (Lk=3):=ae (by rw[hE.out];exact wH t.out);have M:Hid (iL H.ma=3):=ae (by rw[ha.out (by rw[O.out];decide),O.out]);clear S N Z X;go_wp2;go_ret;rw[M.out];exact⟨rfl,p⟩
   have hY:Hid (H.ma.st.fs.length=H.fi.length):=ae (fE _)
   by_cases c2:(H.fi.length:Int)<=c.f
   ·have t:Hid (c.f<0\/(H.ma.st.fs.length:Int)<=c.f\/c.i<0\/((az H.ma.st c.f).b.length:Int)<=c.i\/c.k<0\/(H.ma.m.fs.length:Int)<=c.k):=ae (.inr (.inl (by rw[hY.out];exact c2)));refine aR 51 [_,_,_,_,_,_,_,_,_,_,_,_,_,_,_,_,_,_,_,_,_,_,_,_,_,_,_,_,_,_,_,_,_,_,_,_,_,_,_,_,_,_,_,_,_,_,_,_,_,_,.v (.bool true)] (Gf gc 0 rfl rfl (Gl C rfl rfl rfl rfl rfl (Gb (.bool false) (by simp[go_sem,c1]) rfl rfl rfl rfl rfl (Gk rfl (Gf gc 0 rfl rfl (Gl C rfl rfl rfl rfl rfl (Gk rfl (Gk rfl (Gf b 7 rfl rfl (Gf b 7 rfl rfl (Gl z rfl rfl rfl rfl rfl (Gn rfl rfl rfl rfl (Gb (.bool true) (by simp[go_sem,c2]) rfl rfl rfl rfl rfl (Gk rfl (Gk rfl (Gk rfl (Gk rfl (Gk rfl (Gk rfl (Gk rfl (Gk rfl (Gk rfl (Gk rfl (Gk rfl (Gk rfl (Gk rfl (Gk rfl (Gk rfl (Gk rfl (Gk rfl (Gk rfl (Gk rfl (Gk rfl (Gk rfl (Gk rfl (Gk rfl (Gk rfl (Gk rfl (Gk rfl (Gk rfl (Gk rfl (Gk rfl (Gk rfl (Gk rfl (Gk rfl (Gk rfl (Gk rfl (Gk rfl (Gk rfl (Gk rfl (Gk rfl (aH)))))))))))))))))))))))))))))))))))))))))))))))))))) (λ_=>rfl) rfl ?_;intro y W4 g _;have p:=ah ht g;replace C:=C.ext g;clear g;have O:Hid (Lk=3):=ae (by rw[hE.out];exact wH t.out);have M:Hid (iL H.ma=3):=ae (by rw[ha.out (by rw[O.out];decide),O.out]);clear S N Z X;go_wp2;go_ret;rw[M.out];exact⟨rfl,p⟩
   replace S:=S (by omega) (by omega);replace N:=N (by omega) (by omega);obtain⟨Z,kb⟩:=Z (by omega) (by omega);replace X:=X (by omega) (by omega);have hG:=ae kb;clear kb
   by_cases c3:c.i<0
   ·have t:Hid (c.f<0\/(H.ma.st.fs.length:Int)<=c.f\/c.i<0\/((az H.ma.st c.f).b.length:Int)<=c.i\/c.k<0\/(H.ma.m.fs.length:Int)<=c.k):=ae (.inr (.inr (.inl c3)));refine aR 51 [_,_,_,_,_,_,_,_,_,_,_,_,_,_,_,_,_,_,_,_,_,_,_,_,_,_,_,_,_,_,_,_,_,_,_,_,_,_,_,_,_,_,_,_,_,_,_,_,_,_,.v (.bool true)] (Gf gc 0 rfl rfl (Gl C rfl rfl rfl rfl rfl (Gb (.bool false) (by simp[go_sem,c1]) rfl rfl rfl rfl rfl (Gk rfl (Gf gc 0 rfl rfl (Gl C rfl rfl rfl rfl rfl (Gk rfl (Gk rfl (Gf b 7 rfl rfl (Gf b 7 rfl rfl (Gl z rfl rfl rfl rfl rfl (Gn rfl rfl rfl rfl (Gb (.bool false) (by simp[go_sem,c2]) rfl rfl rfl rfl rfl (Gk rfl (Gk rfl (Gf gc 1 rfl rfl (Gl C rfl rfl rfl rfl rfl (Gb (.bool true) (by simp[go_sem,c3]) rfl rfl rfl rfl rfl (Gk rfl (Gk rfl (Gk rfl (Gk rfl (Gk rfl (Gk rfl (Gk rfl (Gk rfl (Gk rfl (Gk rfl (Gk rfl (Gk rfl (Gk rfl (Gk rfl (Gk rfl (Gk rfl (Gk rfl (Gk rfl (Gk rfl (Gk rfl (Gk rfl (Gk rfl (Gk rfl (Gk rfl (Gk rfl (Gk rfl (Gk rfl (Gk rfl (Gk rfl (Gk rfl (Gk rfl (Gk rfl (Gk rfl (aH)))))))))))))))))))))))))))))))))))))))))))))))))))) (λ_=>rfl) rfl ?_;intro y W4 g _;have p:=ah ht g;replace C:=C.ext g;clear g;have O:Hid (Lk=3):=ae (by rw[hE.out];exact wH t.out);have M:Hid (iL H.ma=3):=ae (by rw[ha.out (by rw[O.out];decide),O.out]);clear S N Z X;go_wp2;go_ret;rw[M.out];exact⟨rfl,p⟩
   by_cases c4:(P.l.length:Int)<=c.i
   ·have t:Hid (c.f<0\/(H.ma.st.fs.length:Int)<=c.f\/c.i<0\/((az H.ma.st c.f).b.length:Int)<=c.i\/c.k<0\/(H.ma.m.fs.length:Int)<=c.k):=ae (.inr (.inr (.inr (.inl (by rw[hG.out];exact c4)))));refine aR 51 [_,_,_,_,_,_,_,_,_,_,_,_,_,_,_,_,_,_,_,_,_,_,_,_,_,_,_,_,_,_,_,_,_,_,_,_,_,_,_,_,_,_,_,_,_,_,_,_,_,_,.v (.bool true)] (Gf gc 0 rfl rfl (Gl C rfl rfl rfl rfl rfl (Gb (.bool false) (by simp[go_sem,c1]) rfl rfl rfl rfl rfl (Gk rfl (Gf gc 0 rfl rfl (Gl C rfl rfl rfl rfl rfl (Gk rfl (Gk rfl (Gf b 7 rfl rfl (Gf b 7 rfl rfl (Gl z rfl rfl rfl rfl rfl (Gn rfl rfl rfl rfl (Gb (.bool false) (by simp[go_sem,c2]) rfl rfl rfl rfl rfl (Gk rfl (Gk rfl (Gf gc 1 rfl rfl (Gl C rfl rfl rfl rfl rfl (Gb (.bool false) (by simp[go_sem,c3]) rfl rfl rfl rfl rfl (Gk rfl (Gk rfl (Gf gc 1 rfl rfl (Gl C rfl rfl rfl rfl rfl (Gk rfl (Gk rfl (Gf b 7 rfl rfl (Gf b 7 rfl rfl (Gl z (V:=.slice (some ⟨R,of,none⟩) H.fi.length H.ci) (by simp[bS,S]) rfl rfl rfl rfl (Gf gc 0 rfl rfl (Gl C (V:=.int .i64 (F:Int)) (by simp[zF,Z]) rfl rfl rfl rfl (Gr (.pointer (some ⟨R,of+F*2,none⟩)) (λρ y W A d=>(ed rfl (bi rfl d) (bi rfl d) N underlying39 file_size)) rfl rfl (Gf R (of+F*2+1) rfl rfl (Gc (.slice P.a P.l.length P.c) (λW A=>by simp[X _ A]) rfl rfl rfl rfl (Gn rfl rfl rfl rfl (Gb (.bool true) (by simp[go_sem,c4]) rfl rfl rfl rfl rfl (Gk rfl (Gk rfl (Gk rfl (Gk rfl (Gk rfl (Gk rfl (Gk rfl (Gk rfl (Gk rfl (Gk rfl (Gk rfl (Gk rfl (Gk rfl (Gk rfl (Gk rfl (Gk rfl (Gk rfl (aH)))))))))))))))))))))))))))))))))))))))))))))))))))) (λ_=>rfl) rfl ?_;intro y W4 g _;have p:=ah ht g;replace C:=C.ext g;clear g;have O:Hid (Lk=3):=ae (by rw[hE.out];exact wH t.out);have M:Hid (iL H.ma=3):=ae (by rw[ha.out (by rw[O.out];decide),O.out]);clear S N Z X;go_wp2;go_ret;rw[M.out];exact⟨rfl,p⟩
   by_cases c5:c.k<0
   ·have t:Hid (c.f<0\/(H.ma.st.fs.length:Int)<=c.f\/c.i<0\/((az H.ma.st c.f).b.length:Int)<=c.i\/c.k<0\/(H.ma.m.fs.length:Int)<=c.k):=ae (.inr (.inr (.inr (.inr (.inl c5)))));refine aR 51 [_,_,_,_,_,_,_,_,_,_,_,_,_,_,_,_,_,_,_,_,_,_,_,_,_,_,_,_,_,_,_,_,_,_,_,_,_,_,_,_,_,_,_,_,_,_,_,_,_,_,.v (.bool true)] (Gf gc 0 rfl rfl (Gl C rfl rfl rfl rfl rfl (Gb (.bool false) (by simp[go_sem,c1]) rfl rfl rfl rfl rfl (Gk rfl (Gf gc 0 rfl rfl (Gl C rfl rfl rfl rfl rfl (Gk rfl (Gk rfl (Gf b 7 rfl rfl (Gf b 7 rfl rfl (Gl z rfl rfl rfl rfl rfl (Gn rfl rfl rfl rfl (Gb (.bool false) (by simp[go_sem,c2]) rfl rfl rfl rfl rfl (Gk rfl (Gk rfl (Gf gc 1 rfl rfl (Gl C rfl rfl rfl rfl rfl (Gb (.bool false) (by simp[go_sem,c3]) rfl rfl rfl rfl rfl (Gk rfl (Gk rfl (Gf gc 1 rfl rfl (Gl C rfl rfl rfl rfl rfl (Gk rfl (Gk rfl (Gf b 7 rfl rfl (Gf b 7 rfl rfl (Gl z (V:=.slice (some ⟨R,of,none⟩) H.fi.length H.ci) (by simp[bS,S]) rfl rfl rfl rfl (Gf gc 0 rfl rfl (Gl C (V:=.int .i64 (F:Int)) (by simp[zF,Z]) rfl rfl rfl rfl (Gr (.pointer (some ⟨R,of+F*2,none⟩)) (λρ y W A d=>(ed rfl (bi rfl d) (bi rfl d) N underlying39 file_size)) rfl rfl (Gf R (of+F*2+1) rfl rfl (Gc (.slice P.a P.l.length P.c) (λW A=>by simp[X _ A]) rfl rfl rfl rfl (Gn rfl rfl rfl rfl (Gb (.bool false) (by simp[go_sem,c4]) rfl rfl rfl rfl rfl (Gk rfl (Gk rfl (Gf gc 2 rfl rfl (Gl C rfl rfl rfl rfl rfl (Gb (.bool true) (by simp[go_sem,c5]) rfl rfl rfl rfl rfl (Gk rfl (Gk rfl (Gk rfl (Gk rfl (Gk rfl (Gk rfl (Gk rfl (Gk rfl (Gk rfl (Gk rfl (Gk rfl (Gk rfl (aH)))))))))))))))))))))))))))))))))))))))))))))))))))) (λ_=>rfl) rfl ?_;intro y W4 g _;have p:=ah ht g;replace C:=C.ext g;clear g;have O:Hid (Lk=3):=ae (by rw[hE.out];exact wH t.out);have M:Hid (iL H.ma=3):=ae (by rw[ha.out (by rw[O.out];decide),O.out]);clear S N Z X;go_wp2;go_ret;rw[M.out];exact⟨rfl,p⟩
   by_cases c6:(H.m.fs.length:Int)<=c.k
   ·have t:Hid (c.f<0\/(H.ma.st.fs.length:Int)<=c.f\/c.i<0\/((az H.ma.st c.f).b.length:Int)<=c.i\/c.k<0\/(H.ma.m.fs.length:Int)<=c.k):=ae (.inr (.inr (.inr (.inr (.inr c6)))));refine aR 51 [_,_,_,_,_,_,_,_,_,_,_,_,_,_,_,_,_,_,_,_,_,_,_,_,_,_,_,_,_,_,_,_,_,_,_,_,_,_,_,_,_,_,_,_,_,_,_,_,_,_,.v (.bool true)] (Gf gc 0 rfl rfl (Gl C rfl rfl rfl rfl rfl (Gb (.bool false) (by simp[go_sem,c1]) rfl rfl rfl rfl rfl (Gk rfl (Gf gc 0 rfl rfl (Gl C rfl rfl rfl rfl rfl (Gk rfl (Gk rfl (Gf b 7 rfl rfl (Gf b 7 rfl rfl (Gl z rfl rfl rfl rfl rfl (Gn rfl rfl rfl rfl (Gb (.bool false) (by simp[go_sem,c2]) rfl rfl rfl rfl rfl (Gk rfl (Gk rfl (Gf gc 1 rfl rfl (Gl C rfl rfl rfl rfl rfl (Gb (.bool false) (by simp[go_sem,c3]) rfl rfl rfl rfl rfl (Gk rfl (Gk rfl (Gf gc 1 rfl rfl (Gl C rfl rfl rfl rfl rfl (Gk rfl (Gk rfl (Gf b 7 rfl rfl (Gf b 7 rfl rfl (Gl z (V:=.slice (some ⟨R,of,none⟩) H.fi.length H.ci) (by simp[bS,S]) rfl rfl rfl rfl (Gf gc 0 rfl rfl (Gl C (V:=.int .i64 (F:Int)) (by simp[zF,Z]) rfl rfl rfl rfl (Gr (.pointer (some ⟨R,of+F*2,none⟩)) (λρ y W A d=>(ed rfl (bi rfl d) (bi rfl d) N underlying39 file_size)) rfl rfl (Gf R (of+F*2+1) rfl rfl (Gc (.slice P.a P.l.length P.c) (λW A=>by simp[X _ A]) rfl rfl rfl rfl (Gn rfl rfl rfl rfl (Gb (.bool false) (by simp[go_sem,c4]) rfl rfl rfl rfl rfl (Gk rfl (Gk rfl (Gf gc 2 rfl rfl (Gl C rfl rfl rfl rfl rfl (Gb (.bool false) (by simp[go_sem,c5]) rfl rfl rfl rfl rfl (Gk rfl (Gk rfl (Gf gc 2 rfl rfl (Gl C rfl rfl rfl rfl rfl (Gk rfl (Gk rfl (Gf b 0 rfl rfl (Gf b 0 rfl rfl (Gl z rfl rfl rfl rfl rfl (Gn rfl rfl rfl rfl (Gb (.bool true) (by simp[go_sem,c6]) rfl rfl rfl rfl rfl (Gk rfl (aH)))))))))))))))))))))))))))))))))))))))))))))))))))) (λ_=>rfl) rfl ?_;intro y W4 g _;have p:=ah ht g;replace C:=C.ext g;clear g;have O:Hid (Lk=3):=ae (by rw[hE.out];exact wH t.out);have M:Hid (iL H.ma=3):=ae (by rw[ha.out (by rw[O.out];decide),O.out]);clear S N Z X;go_wp2;go_ret;rw[M.out];exact⟨rfl,p⟩
   refine aR 51 [_,_,_,_,_,_,_,_,_,_,_,_,_,_,_,_,_,_,_,_,_,_,_,_,_,_,_,_,_,_,_,_,_,_,_,_,_,_,_,_,_,_,_,_,_,_,_,_,_,_,.v (.bool false)] (Gf gc 0 rfl rfl (Gl C rfl rfl rfl rfl rfl (Gb (.bool false) (by simp[go_sem,c1]) rfl rfl rfl rfl rfl (Gk rfl (Gf gc 0 rfl rfl (Gl C rfl rfl rfl rfl rfl (Gk rfl (Gk rfl (Gf b 7 rfl rfl (Gf b 7 rfl rfl (Gl z rfl rfl rfl rfl rfl (Gn rfl rfl rfl rfl (Gb (.bool false) (by simp[go_sem,c2]) rfl rfl rfl rfl rfl (Gk rfl (Gk rfl (Gf gc 1 rfl rfl (Gl C rfl rfl rfl rfl rfl (Gb (.bool false) (by simp[go_sem,c3]) rfl rfl rfl rfl rfl (Gk rfl (Gk rfl (Gf gc 1 rfl rfl (Gl C rfl rfl rfl rfl rfl (Gk rfl (Gk rfl (Gf b 7 rfl rfl (Gf b 7 rfl rfl (Gl z (V:=.slice (some ⟨R,of,none⟩) H.fi.length H.ci) (by simp[bS,S]) rfl rfl rfl rfl (Gf gc 0 rfl rfl (Gl C (V:=.int .i64 (F:Int)) (by simp[zF,Z]) rfl rfl rfl rfl (Gr (.pointer (some ⟨R,of+F*2,none⟩)) (λρ y W A d=>(ed rfl (bi rfl d) (bi rfl d) N underlying39 file_size)) rfl rfl (Gf R (of+F*2+1) rfl rfl (Gc (.slice P.a P.l.length P.c) (λW A=>by simp[X _ A]) rfl rfl rfl rfl (Gn rfl rfl rfl rfl (Gb (.bool false) (by simp[go_sem,c4]) rfl rfl rfl rfl rfl (Gk rfl (Gk rfl (Gf gc 2 rfl rfl (Gl C rfl rfl rfl rfl rfl (Gb (.bool false) (by simp[go_sem,c5]) rfl rfl rfl rfl rfl (Gk rfl (Gk rfl (Gf gc 2 rfl rfl (Gl C rfl rfl rfl rfl rfl (Gk rfl (Gk rfl (Gf b 0 rfl rfl (Gf b 0 rfl rfl (Gl z rfl rfl rfl rfl rfl (Gn rfl rfl rfl rfl (Gb (.bool false) (by simp[go_sem,c6]) rfl rfl rfl rfl rfl (Gk rfl (aH)))))))))))))))))))))))))))))))))))))))))))))))))))) (λ_=>rfl) rfl ?_;intro y W4 g _;have p:=ah ht g;replace C:=C.ext g;clear g;obtain⟨K,kg⟩:∃K:Nat,c.k=K:=⟨c.k.toNat,by omega⟩;have hO:K<H.m.fs.length:=by omega
   have hR:=hbk.ext p;have h5:=h.below p;obtain⟨bg,og,kr,hF⟩:=oU jo h5.fr.rd K hO;have hy:Hid (Lk=if(aF H.ma K).r<1\/(aF H.ma K).f≠c.f\/(aF H.ma K).i≠c.i then 7 else match zK H.ca k with
    | none=>0
    | some q=>if c.f<q.f\/q.f=c.f/\c.i<=q.i then 2 else 0):=ae (by
    rw[hE.out];unfold vU;rw[if_neg (by rw[hY.out,hG.out];show ¬(c.f<0\/(H.fi.length:Int)<=c.f\/c.i<0\/(P.l.length:Int)<=c.i\/c.k<0\/(H.m.fs.length:Int)<=c.k);omega),kg];rfl)
   have h3:H.m.fs[K]=aF H.ma K:=by have:=vQ (m:=H.ma) (f:=K) hO;have h2:H.m.fs[K]?=some (aF H.ma K):=this;rw[aM hO]at h2;exact aU h2
   rw[h3]at hF;generalize aF H.ma K=x at *
   clear h3 S N X hG hY z hV c2 c3 c4 c5 c6 c1 hE Z;go_upto_region 6 with(fail);refine aR 10 [_,_,_,_,_,_,_,_,_,.r 9 ((fu W4.heap.size 66 13))] (Gk rfl (Gk rfl (Gf b 0 rfl rfl (Gf b 0 rfl rfl (Gl hR (V:=.slice (some ⟨bg,og,none⟩) H.m.fs.length H.cf) (by simp[bS,kr]) rfl rfl rfl rfl (Gf gc 2 rfl rfl (Gl C (V:=.int .i64 (K:Int)) (by simp[zF,kg]) rfl rfl rfl rfl (Gr (.pointer (some ⟨bg,og+K*13,none⟩)) (λρ y W A d=>(ed rfl (bi rfl d) (bi rfl d) hO underlying30 frame_size)) rfl rfl (Gr (.agg (Ak x)) (λρ y W A d=>(bO rfl (bi rfl d) (hF.below A) underlying66 (s:=frame_size))) rfl rfl (aj ?_ (aH))))))))))) (λ_=>rfl) rfl ?_
   ·intro ρ y W hw hn A hd;refine gM (.pointer (some ⟨W.heap.size,0,none⟩)) (ag) (by simp[execOp,go_sem]) ((Below.refl _ _).alloc (aC _) (.cells #[.int .u8 0,.int .u8 0,.int .u8 0,.int .u8 0,.int .u8 0,.int .u8 0,.int .u8 0,.int .u8 0,.int .i64 0,.bool false,.bool false,.int .i64 0,.int .i64 0] 66)) ?_;exact⟨_,_,rfl,A.size,aK.new _ _ _,rfl⟩
   intro y W5 hI hU;have kn:((fu W4.heap.size 66 13)).r (y 9) W5:=hU 9 (by decide);clear hU;obtain⟨gx,curx,h9,h8,ki,hQ⟩:=kn;rw[h9]
   go_wp2_with (refine fV _ _ gx 0 (Ak x) _ _ ki (by rw[hQ];exact aC _) frame_size (wV x) ?_)
   intro w6 hZ ka;rw[eT _ _ (by rw[hQ];rfl)]at hZ;have hC:Below W4.heap.size W4 w6:=hI.grown ka hI.size (λk hk=>by cases hk;exact h8);have hm:=ah p hC;have J:=C.ext hC;have n:=hbk.ext hm;clear ki hI ka C hR h5 hF hC h9;have kc:=hZ.cell;unfold Ak at kc;have ke:=J.cell;unfold zF at ke
   by_cases d1:x.r<1
   ·have hB:Hid (Lk=7):=ae (by rw[hy.out,if_pos (.inl d1)]);have M:Hid (iL H.ma=7):=ae (by rw[ha.out (by rw[hB.out];decide),hB.out]);clear n;go_wp2;go_ret;rw[M.out];exact⟨rfl,hm⟩
   by_cases d2:x.f=c.f
   rotate_left
   ·have hB:Hid (Lk=7):=ae (by rw[hy.out,if_pos (.inr (.inl d2))]);have M:Hid (iL H.ma=7):=ae (by rw[ha.out (by rw[hB.out];decide),hB.out]);clear n;go_wp2;go_ret;rw[M.out];exact⟨rfl,hm⟩
   by_cases d3:x.i=c.i
   rotate_left
   ·have hB:Hid (Lk=7):=ae (by rw[hy.out,if_pos (.inr (.inr d3))]);have M:Hid (iL H.ma=7):=ae (by rw[ha.out (by rw[hB.out];decide),hB.out]);clear n;go_wp2;go_ret;rw[M.out];exact⟨rfl,hm⟩
   rw[if_neg (by rintro(h | h | h);exact d1 h;exact h d2;exact h d3)]at hy;go_upto_region 9 with(fail);clear kc ke hZ d1 d2 d3;obtain⟨k1,q,U,o,Y,hx,h7⟩:∃(k1:Nat) (q:Cc),(0<k->IntKind.i64.wrap ((k:Int)-1)=(k1:Int))/\(0<k->k1<H.ca.length)/\(0<k->∀W,Below w6.heap.size w6 W->W.cell? ⟨I,G+k1*3,none⟩=some (.int .i64 q.f))/\(0<k->∀W,Below w6.heap.size w6 W->W.cell? ⟨I,G+k1*3+1,none⟩=some (.int .i64 q.i))/\(0<k->zK H.ca k=some q):=by
    by_cases h0:0<k
    ·have hD:k-1<H.ca.length:=by omega
     have hH:∀W,Below w6.heap.size w6 W->W.cell? ⟨I,G+(k-1)*3,none⟩=some (.int .i64 H.ca[k-1].f)/\W.cell? ⟨I,G+(k-1)*3+1,none⟩=some (.int .i64 H.ca[k-1].i):=λW A=>by obtain⟨bc',oc',c',hT,kh,e1,e2,_⟩:=VQ (h.below (ah hm A)).ca.rd (k-1) hD;rw[aM hD]at kh;cases kh;rw[hv]at hT;cases hT;exact⟨e1,e2⟩
     refine⟨k-1,H.ca[k-1],λ_ => ?_,λ_=>hD,λ_ W A=>(hH W A).1,λ_ W A=>(hH W A).2,λ_ => ?_⟩
     ·rw[show(k:Int)-1=((k-1:Nat):Int) by omega];exact dz _ (by omega)
     ·rw[h6.out,if_neg (by omega),aM hD]
    ·exact⟨0,zCc,λh'=>absurd h' h0,λh'=>absurd h' h0,λh'=>absurd h' h0,λh'=>absurd h' h0,λh'=>absurd h' h0⟩
   by_cases e1:k=0
   ·have e1i:¬(0:Int)<(k:Int):=by omega
    have hK:Hid (Lk=0):=ae (by rw[hy.out,h6.out,if_pos e1]);refine aR 44 [_,_,_,_,_,_,_,_,_,_,_,_,_,_,_,_,_,_,_,_,_,_,_,_,_,_,_,_,_,_,_,_,_,_,_,_,_,_,_,_,_,_,_,.v (.bool false)] (Gk rfl (Gb (.bool false) (by simp[go_sem,e1]) rfl rfl rfl rfl rfl (Gk rfl (Gk rfl (Gk rfl (Gk rfl (Gk rfl (Gk rfl (Gk rfl (Gk rfl (Gk rfl (Gk rfl (Gk rfl (Gk rfl (Gk rfl (Gk rfl (Gk rfl (Gk rfl (Gk rfl (Gk rfl (Gk rfl (Gk rfl (Gk rfl (Gk rfl (Gk rfl (Gk rfl (Gk rfl (Gk rfl (Gk rfl (Gk rfl (Gk rfl (Gk rfl (Gk rfl (Gk rfl (Gk rfl (Gk rfl (Gk rfl (Gk rfl (Gk rfl (Gk rfl (Gk rfl (Gk rfl (Gk rfl (Gk rfl (aH))))))))))))))))))))))))))))))))))))))))))))) (λ_=>rfl) rfl ?_;intro y W7 u _;have hs:=ah hm u;clear u;have hA:=ae (hW.out hK.out);clear Y hx U o J n;go_wp2;go_roundw
    case rel=>exact⟨k+1,by omega,by go_num,hs,hA⟩
    case measure=>simp[intOf];omega
   have e1i:0<k:=by omega
   replace U:=U (by omega);replace o:=o (by omega);replace Y:=Y (by omega);replace hx:=hx (by omega);have hM:=ae (h7 (by omega));clear h7
   by_cases e2:c.f<q.f
   ·have t:Hid (c.f<q.f\/q.f=c.f/\c.i<=q.i):=ae (.inl e2);refine aR 44 [_,_,_,_,_,_,_,_,_,_,_,_,_,_,_,_,_,_,_,_,_,_,_,_,_,_,_,_,_,_,_,_,_,_,_,_,_,_,_,_,_,_,_,.v (.bool true)] (Gk rfl (Gb (.bool true) (by simp[go_sem,e1i]) rfl rfl rfl rfl rfl (Gk rfl (Gk rfl (Gk rfl (Gf b 9 rfl rfl (Gl n (V:=.slice (some ⟨I,G,none⟩) H.ca.length H.cc) (by simp[bS,hv]) rfl rfl rfl rfl (Gk rfl (Gb (.int .i64 (k1:Int)) (by simp[go_sem,U]) rfl rfl rfl rfl rfl (Gr (.pointer (some ⟨I,G+k1*3,none⟩)) (λρ y W A d=>(ed rfl (bi rfl d) (bi rfl d) o underlying42 cached_size)) rfl rfl (Gf I (G+k1*3) rfl rfl (Gc (.int .i64 q.f) (λW A=>by simp[Y _ A]) rfl rfl rfl rfl (Gf gc 0 rfl rfl (Gl J rfl rfl rfl rfl rfl (Gb (.bool true) (by simp[go_sem,e2]) rfl rfl rfl rfl rfl (Gk rfl (Gk rfl (Gk rfl (Gk rfl (Gk rfl (Gk rfl (Gk rfl (Gk rfl (Gk rfl (Gk rfl (Gk rfl (Gk rfl (Gk rfl (Gk rfl (Gk rfl (Gk rfl (Gk rfl (Gk rfl (Gk rfl (Gk rfl (Gk rfl (Gk rfl (Gk rfl (Gk rfl (Gk rfl (Gk rfl (Gk rfl (Gk rfl (Gk rfl (aH))))))))))))))))))))))))))))))))))))))))))))) (λ_=>rfl) rfl ?_;intro y W7 u _;have hs:=ah hm u;clear u;have hJ:Hid (Lk=2):=ae (by rw[hy.out,hM.out];simp only;rw[if_pos t.out]);have M:Hid (iL H.ma=2):=ae (by rw[ha.out (by rw[hJ.out];decide),hJ.out]);clear Y hx U o J n;go_wp2;go_ret;rw[M.out];exact⟨rfl,hs⟩
   by_cases e3:q.f=c.f
   ·by_cases e4:c.i<=q.i
    ·have t:Hid (c.f<q.f\/q.f=c.f/\c.i<=q.i):=ae (.inr ⟨e3,e4⟩);refine aR 44 [_,_,_,_,_,_,_,_,_,_,_,_,_,_,_,_,_,_,_,_,_,_,_,_,_,_,_,_,_,_,_,_,_,_,_,_,_,_,_,_,_,_,_,.v (.bool true)] (Gk rfl (Gb (.bool true) (by simp[go_sem,e1i]) rfl rfl rfl rfl rfl (Gk rfl (Gk rfl (Gk rfl (Gf b 9 rfl rfl (Gl n (V:=.slice (some ⟨I,G,none⟩) H.ca.length H.cc) (by simp[bS,hv]) rfl rfl rfl rfl (Gk rfl (Gb (.int .i64 (k1:Int)) (by simp[go_sem,U]) rfl rfl rfl rfl rfl (Gr (.pointer (some ⟨I,G+k1*3,none⟩)) (λρ y W A d=>(ed rfl (bi rfl d) (bi rfl d) o underlying42 cached_size)) rfl rfl (Gf I (G+k1*3) rfl rfl (Gc (.int .i64 q.f) (λW A=>by simp[Y _ A]) rfl rfl rfl rfl (Gf gc 0 rfl rfl (Gl J rfl rfl rfl rfl rfl (Gb (.bool false) (by simp[go_sem,e2]) rfl rfl rfl rfl rfl (Gk rfl (Gk rfl (Gk rfl (Gf b 9 rfl rfl (Gl n (V:=.slice (some ⟨I,G,none⟩) H.ca.length H.cc) (by simp[bS,hv]) rfl rfl rfl rfl (Gk rfl (Gb (.int .i64 (k1:Int)) (by simp[go_sem,U]) rfl rfl rfl rfl rfl (Gr (.pointer (some ⟨I,G+k1*3,none⟩)) (λρ y W A d=>(ed rfl (bi rfl d) (bi rfl d) o underlying42 cached_size)) rfl rfl (Gf I (G+k1*3) rfl rfl (Gc (.int .i64 q.f) (λW A=>by simp[Y _ A]) rfl rfl rfl rfl (Gf gc 0 rfl rfl (Gl J rfl rfl rfl rfl rfl (Gb (.bool true) (by simp[go_sem,e3]) rfl rfl rfl rfl rfl (Gk rfl (Gk rfl (Gk rfl (Gf b 9 rfl rfl (Gl n (V:=.slice (some ⟨I,G,none⟩) H.ca.length H.cc) (by simp[bS,hv]) rfl rfl rfl rfl (Gk rfl (Gb (.int .i64 (k1:Int)) (by simp[go_sem,U]) rfl rfl rfl rfl rfl (Gr (.pointer (some ⟨I,G+k1*3,none⟩)) (λρ y W A d=>(ed rfl (bi rfl d) (bi rfl d) o underlying42 cached_size)) rfl rfl (Gf I (G+k1*3+1) rfl rfl (Gc (.int .i64 q.i) (λW A=>by simp[hx _ A]) rfl rfl rfl rfl (Gf gc 1 rfl rfl (Gl J rfl rfl rfl rfl rfl (Gb (.bool true) (by simp[go_sem,e4]) rfl rfl rfl rfl rfl (Gk rfl (Gk rfl (Gk rfl (aH))))))))))))))))))))))))))))))))))))))))))))) (λ_=>rfl) rfl ?_;intro y W7 u _;have hs:=ah hm u;clear u;have hJ:Hid (Lk=2):=ae (by rw[hy.out,hM.out];simp only;rw[if_pos t.out]);have M:Hid (iL H.ma=2):=ae (by rw[ha.out (by rw[hJ.out];decide),hJ.out]);clear Y hx U o J n;go_wp2;go_ret;rw[M.out];exact⟨rfl,hs⟩
    have hK:Hid (Lk=0):=ae (by rw[hy.out,hM.out];simp only;rw[if_neg (by omega)]);refine aR 44 [_,_,_,_,_,_,_,_,_,_,_,_,_,_,_,_,_,_,_,_,_,_,_,_,_,_,_,_,_,_,_,_,_,_,_,_,_,_,_,_,_,_,_,.v (.bool false)] (Gk rfl (Gb (.bool true) (by simp[go_sem,e1i]) rfl rfl rfl rfl rfl (Gk rfl (Gk rfl (Gk rfl (Gf b 9 rfl rfl (Gl n (V:=.slice (some ⟨I,G,none⟩) H.ca.length H.cc) (by simp[bS,hv]) rfl rfl rfl rfl (Gk rfl (Gb (.int .i64 (k1:Int)) (by simp[go_sem,U]) rfl rfl rfl rfl rfl (Gr (.pointer (some ⟨I,G+k1*3,none⟩)) (λρ y W A d=>(ed rfl (bi rfl d) (bi rfl d) o underlying42 cached_size)) rfl rfl (Gf I (G+k1*3) rfl rfl (Gc (.int .i64 q.f) (λW A=>by simp[Y _ A]) rfl rfl rfl rfl (Gf gc 0 rfl rfl (Gl J rfl rfl rfl rfl rfl (Gb (.bool false) (by simp[go_sem,e2]) rfl rfl rfl rfl rfl (Gk rfl (Gk rfl (Gk rfl (Gf b 9 rfl rfl (Gl n (V:=.slice (some ⟨I,G,none⟩) H.ca.length H.cc) (by simp[bS,hv]) rfl rfl rfl rfl (Gk rfl (Gb (.int .i64 (k1:Int)) (by simp[go_sem,U]) rfl rfl rfl rfl rfl (Gr (.pointer (some ⟨I,G+k1*3,none⟩)) (λρ y W A d=>(ed rfl (bi rfl d) (bi rfl d) o underlying42 cached_size)) rfl rfl (Gf I (G+k1*3) rfl rfl (Gc (.int .i64 q.f) (λW A=>by simp[Y _ A]) rfl rfl rfl rfl (Gf gc 0 rfl rfl (Gl J rfl rfl rfl rfl rfl (Gb (.bool true) (by simp[go_sem,e3]) rfl rfl rfl rfl rfl (Gk rfl (Gk rfl (Gk rfl (Gf b 9 rfl rfl (Gl n (V:=.slice (some ⟨I,G,none⟩) H.ca.length H.cc) (by simp[bS,hv]) rfl rfl rfl rfl (Gk rfl (Gb (.int .i64 (k1:Int)) (by simp[go_sem,U]) rfl rfl rfl rfl rfl (Gr (.pointer (some ⟨I,G+k1*3,none⟩)) (λρ y W A d=>(ed rfl (bi rfl d) (bi rfl d) o underlying42 cached_size)) rfl rfl (Gf I (G+k1*3+1) rfl rfl (Gc (.int .i64 q.i) (λW A=>by simp[hx _ A]) rfl rfl rfl rfl (Gf gc 1 rfl rfl (Gl J rfl rfl rfl rfl rfl (Gb (.bool false) (by simp[go_sem,e4]) rfl rfl rfl rfl rfl (Gk rfl (Gk rfl (Gk rfl (aH))))))))))))))))))))))))))))))))))))))))))))) (λ_=>rfl) rfl ?_;intro y W7 u _;have hs:=ah hm u;clear u;have hA:=ae (hW.out hK.out);clear Y hx U o J n;go_wp2;go_roundw
    case rel=>exact⟨k+1,by omega,by go_num,hs,hA⟩
    case measure=>simp[intOf];omega
   have hK:Hid (Lk=0):=ae (by rw[hy.out,hM.out];simp only;rw[if_neg (by omega)]);refine aR 44 [_,_,_,_,_,_,_,_,_,_,_,_,_,_,_,_,_,_,_,_,_,_,_,_,_,_,_,_,_,_,_,_,_,_,_,_,_,_,_,_,_,_,_,.v (.bool false)] (Gk rfl (Gb (.bool true) (by simp[go_sem,e1i]) rfl rfl rfl rfl rfl (Gk rfl (Gk rfl (Gk rfl (Gf b 9 rfl rfl (Gl n (V:=.slice (some ⟨I,G,none⟩) H.ca.length H.cc) (by simp[bS,hv]) rfl rfl rfl rfl (Gk rfl (Gb (.int .i64 (k1:Int)) (by simp[go_sem,U]) rfl rfl rfl rfl rfl (Gr (.pointer (some ⟨I,G+k1*3,none⟩)) (λρ y W A d=>(ed rfl (bi rfl d) (bi rfl d) o underlying42 cached_size)) rfl rfl (Gf I (G+k1*3) rfl rfl (Gc (.int .i64 q.f) (λW A=>by simp[Y _ A]) rfl rfl rfl rfl (Gf gc 0 rfl rfl (Gl J rfl rfl rfl rfl rfl (Gb (.bool false) (by simp[go_sem,e2]) rfl rfl rfl rfl rfl (Gk rfl (Gk rfl (Gk rfl (Gf b 9 rfl rfl (Gl n (V:=.slice (some ⟨I,G,none⟩) H.ca.length H.cc) (by simp[bS,hv]) rfl rfl rfl rfl (Gk rfl (Gb (.int .i64 (k1:Int)) (by simp[go_sem,U]) rfl rfl rfl rfl rfl (Gr (.pointer (some ⟨I,G+k1*3,none⟩)) (λρ y W A d=>(ed rfl (bi rfl d) (bi rfl d) o underlying42 cached_size)) rfl rfl (Gf I (G+k1*3) rfl rfl (Gc (.int .i64 q.f) (λW A=>by simp[Y _ A]) rfl rfl rfl rfl (Gf gc 0 rfl rfl (Gl J rfl rfl rfl rfl rfl (Gb (.bool false) (by simp[go_sem,e3]) rfl rfl rfl rfl rfl (Gk rfl (Gk rfl (Gk rfl (Gk rfl (Gk rfl (Gk rfl (Gk rfl (Gk rfl (Gk rfl (Gk rfl (Gk rfl (Gk rfl (Gk rfl (Gk rfl (Gk rfl (Gk rfl (aH))))))))))))))))))))))))))))))))))))))))))))) (λ_=>rfl) rfl ?_;intro y W7 u _;have hs:=ah hm u;clear u;have hA:=ae (hW.out hK.out);clear Y hx U o J n;go_wp2;go_roundw
   case rel=>exact⟨k+1,by omega,by go_num,hs,hA⟩
   case measure=>simp[intOf];omega
  have kq:¬(k:Int)<(H.ca.length:Int):=by omega
  have M:Hid (iL H.ma=0):=ae (by rw[km.out,vw λi hi=>hz.out i hi (by rw[kl.out]at hi;omega)]);clear hz;go_wp2;go_ret;rw[M.out];exact⟨rfl,hN⟩
theorem Sd{s:Sp}(h:fB s.ar n<0):dm m s n=5:=by unfold dm;exact if_pos h
theorem PL(H:MH)(P:PS)(n:Int)(b bs os:Nat)(w:World)(O:aK w b (bS H) 45)(h:Dk w H)(hrd:eD w (some ⟨bs,os,none⟩) (xV P))(hg:P.good w)(har:(dY P.ar).1=0)(htb:eU P.tb=0)(hn:0<=n/\n<64) :
  Calls Tryz.prog 83 #[.pointer (some ⟨b,0,none⟩),.pointer (some ⟨bs,os,none⟩),.int .i64 n] w λr w'=>r = .returned (.int .i64 (dm H.ma P.sp n))/\Below w.heap.size w w':=by
 have hV:∀W,Below w.heap.size w W->W.cell? ⟨bs,os+1,none⟩=some (.slice P.aa P.ar.length P.ac):=λW A=>by obtain⟨b',o',e,hc⟩:=(hrd.below A) 1 _ rfl;cases e;exact hc
 go_enter func83,ntmps83;have ki:=hV w (Below.refl _ _);have hA:=hg.ars
 go_wp2_with fail
 refine(Db P.ar n P.aa P.ac _ hA.rd (by have:=hA.le;have:=hA.mx;unfold maxLen at this;omega)).mono ?_;rintro r X ⟨rfl,hx⟩;have hT:=O.ext hx;have h1:=h.below hx;have hX:=hg.below hx;have hR:=hrd.below hx;clear ki hA
 by_cases hf:fB P.ar n<0
 ·have C:Hid (dm H.ma P.sp n=5):=ae (Sd hf);clear hT;go_wp2;go_ret;rw[C.out];exact⟨rfl,hx⟩
 have N:Hid (dm H.ma P.sp n=(let a:=P.ar.getD (fB P.ar n).toNat zAr
  let e:=dR P.tb n
  if e.k=2 then(if(H.sl.length:Int)<=e.n\/a.sh=true then 7 else 0)
  else if(H.m.fs.length:Int)<=e.n then 3 else
  let f:=gQ H.ma e.n;let of:=decide (0<=a.fi)&&decide (f.f=a.fi)&&decide (f.i=a.ba+n-a.fr)
  if 0<=f.f/\of=false\/a.sh=true/\of=false\/a.sh=false/\of=true/\e.w=true\/e.w=true/\a.wr=false then 7
  else if f.f<0/\e.w=true/\1<f.r then 7 else 0)):=ae (by unfold dm;exact if_neg hf)
 obtain⟨k,hk,hO,_⟩:=xz (q:=wY n) (l:=P.ar) (by show 0<=fB P.ar n;omega);have hW : fB P.ar n=k:=hk;rw[hW,bu,bA,aM hO]at N;simp only[sQ]at N;have ku:¬(k:Int)<0:=by omega
 rw[hW];obtain⟨ba,J,kl,hU⟩:=oU jZ hX.ars.rd k hO;have kg:=(ug har).2 _ (fA hO);have hM:=(gN kg).1;have kt:=(dA).1 (yh htb n);generalize P.ar[k]=a at *
 generalize hge:dR P.tb n=e at *
 have ka:=ae hge;clear hk hW hf kg hge;go_upto_region 4 with(fail);refine gX 15 [_,_,_,_,_,_,_,_,_,_,_,.v (.agg (pq e)),.r 12 ((fu X.heap.size 68 3)),.v (.pointer (some ⟨ba,J+k*7,none⟩)),.y 14 ((MN 12 X.heap.size 68 (fQ (.agg (pq e)))))] (λW=>Below X.heap.size X W) bH (Below.refl _ _) (Yk bH rfl (Yk bH rfl (Yf bH bs (os+1) rfl rfl (Yc bH (.slice (some ⟨ba,J,none⟩) P.ar.length P.ac) (λW A=>by simp[hV _ (ah hx A),kl]) rfl rfl rfl rfl (Yk bH rfl (Yr bH (.pointer (some ⟨ba,J+k*7,none⟩)) (λρ y W A hB=>(ed rfl (bi rfl hB) (bi rfl hB) hO underlying71 area_size)) rfl rfl (Yk bH rfl (Yk bH rfl (Yf bH bs (os+2) rfl rfl (Yr bH (.agg (vo P.ts)) (λρ y W A hB=>(bO rfl (bi rfl hB) (mW (hR.below A) 2 8) underlying74 (z:=tab_agg) (s:=tab_size))) rfl rfl (Yk bH rfl (aj ?_ (aj ?_ (Yk bH rfl (aj ?_ (aH)))))))))))))))) (λ_=>rfl) rfl ?_
 ·intro ρ y W hw hn A hd;refine fw A (fQ (.agg (pq e))) ?_;have kr:=hw 30 9 rfl;have h9:y 9=_:=hd 9 rfl;have kq:=hw 31 10 rfl;have ko:y 10=_:=hd 10 rfl;have EF:=eF0 hn λ_=>trivial;refine aL (aW rfl (EF _) func42 (by simp only[bU,bM,bP,kr,h9,kq,ko,EF];rfl)) ?_;refine(Bo P.tb (vo P.ts) n W (hX.below A).tb).mono ?_;rintro r w2 ⟨rfl,kj⟩;rw[ka.out];exact⟨_,rfl,kj,rfl⟩
 ·intro ρ y W hw hn A hd;refine fw A ((fu X.heap.size 68 3)) ?_;refine gM (.pointer (some ⟨W.heap.size,0,none⟩)) (ag) (by simp[execOp,go_sem,bJ]) ((Below.refl _ _).alloc (aC _) (.cells #[.int .i64 0,.int .i64 0,.bool false] 68)) ?_;exact⟨_,_,rfl,A.size,aK.new _ _ _,rfl⟩
 ·intro ρ y W hw hn A hd;have E9:=hw 9 12 rfl;have km:=hd 12 rfl;have kp:=hw 32 11 rfl;have kn:y 11=_:=hd 11 rfl;obtain⟨g3,cur3,e9,kb,ke,h7⟩:=km;refine jT _ _ _ g3 0 (.agg (pq e)) (pq e).toList (E9.trans e9) (kp.trans kn) rfl cur3 _ ke (by rw[h7];exact aC _) entry_size (gH (by simp[pq,Value.oneCell'])) ?_;intro X hG h8;rw[eT cur3 _ (by rw[h7];rfl)]at hG;refine⟨A.grown h8 A.size (λk hk=>by cases hk;exact kb),⟨g3,_,e9,kb,hG,rfl⟩,?_⟩;intro k hk kh
  match k,hk,kh with
  | 0,_,_|1,_,_|2,_,_|3,_,_|4,_,_|5,_,_|6,_,_|7,_,_|8,_,_|9,_,_|10,_,_|11,_,_=>exactλh=>h
  | 12,_,_=>exactλq=>iY q hG ⟨_,ke⟩ h8
  | 13,_,_=>exactλh=>h
  | 14,_,h=>exact absurd rfl h
  | n+15,h,_=>exact absurd h (by omega)
 intro y w4 hF hN;replace hF:Below X.heap.size X w4:=hF;have h0:((fu X.heap.size 68 3)).r (y 12) w4:=hN 12 (by decide);have hZ:=hN 14 (by decide);clear hN;simp only[dS,bJ,bM,bP];obtain⟨ge,cce,hS,ks,kf,kc⟩:=hZ;have hY : cce=pq e:=by simpa[fQ]using kc
 subst hY;rw[hS];have hz:=hF;have hm:=ah hx hz;have F:=kf;have hs:=O.ext hm;have h4:=h.below hm;have hL:=hU.below hz;clear hF hz hS kf hU hR hT h1 hx hV hX h0;have hH:∀j u,(fZ a)[j]?=some u->∀W,Below w4.heap.size w4 W->W.cell? ⟨ba,J+k*7+j,none⟩=some u:=λj u hj W A=>by obtain⟨b',o',e',hc⟩:=(hL.below A) j u hj;cases e';exact hc
 have L:=hH 3 _ rfl;have I:=hH 4 _ rfl;have t:=hH 5 _ rfl;have hC:=hH 6 _ rfl;have hD:∀W,Below w4.heap.size w4 W->W.cell? ⟨ba,J+k*7,none⟩=some (.int .i64 a.fr):=hH 0 _ rfl;have s:=F.cell;unfold pq at s;clear hH hL
 by_cases Z:e.k=2
 ·rw[if_pos Z]at N;rw[Z]at s;go_upto_region 6 with(fail);clear s Z
  by_cases c1:(H.sl.length:Int)<=e.n
  ·have C:Hid (dm H.ma P.sp n=7):=ae (by rw[N.out,if_pos (.inl c1)]);refine aR 14 [_,_,_,_,_,_,_,_,_,_,_,_,_,.v (.bool true)] (Gf ge 1 rfl rfl (Gl F rfl rfl rfl rfl rfl (Gk rfl (Gk rfl (Gf b 2 rfl rfl (Gl hs rfl rfl rfl rfl rfl (Gn rfl rfl rfl rfl (Gb (.bool true) (by simp[go_sem,c1]) rfl rfl rfl rfl rfl (Gk rfl (Gk rfl (Gk rfl (Gk rfl (Gk rfl (Gk rfl (aH))))))))))))))) (λ_=>rfl) rfl ?_;intro y M o _;have p:=ah hm o;clear o;go_wp2;go_ret;rw[C.out];exact⟨rfl,p⟩
  cases c2:a.sh with
  | true=>
   have C:Hid (dm H.ma P.sp n=7):=ae (by rw[N.out,if_pos (.inr c2)]);refine aR 14 [_,_,_,_,_,_,_,_,_,_,_,_,_,.v (.bool true)] (Gf ge 1 rfl rfl (Gl F rfl rfl rfl rfl rfl (Gk rfl (Gk rfl (Gf b 2 rfl rfl (Gl hs rfl rfl rfl rfl rfl (Gn rfl rfl rfl rfl (Gb (.bool false) (by simp[go_sem,c1]) rfl rfl rfl rfl rfl (Gk rfl (Gk rfl (Gk rfl (Gf ba (J+k*7+4) rfl rfl (Gc (.bool true) (λW A=>by simp[I _ A,c2]) rfl rfl rfl rfl (Gk rfl (aH))))))))))))))) (λ_=>rfl) rfl ?_;intro y M o _;have p:=ah hm o;clear o;go_wp2;go_ret;rw[C.out];exact⟨rfl,p⟩
  | false=>
   have C:Hid (dm H.ma P.sp n=0):=ae (by rw[N.out,if_neg (by rw[c2];simp;omega)]);refine aR 14 [_,_,_,_,_,_,_,_,_,_,_,_,_,.v (.bool false)] (Gf ge 1 rfl rfl (Gl F rfl rfl rfl rfl rfl (Gk rfl (Gk rfl (Gf b 2 rfl rfl (Gl hs rfl rfl rfl rfl rfl (Gn rfl rfl rfl rfl (Gb (.bool false) (by simp[go_sem,c1]) rfl rfl rfl rfl rfl (Gk rfl (Gk rfl (Gk rfl (Gf ba (J+k*7+4) rfl rfl (Gc (.bool false) (λW A=>by simp[I _ A,c2]) rfl rfl rfl rfl (Gk rfl (aH))))))))))))))) (λ_=>rfl) rfl ?_;intro y M o _;have p:=ah hm o;clear o;go_wp2;go_ret;rw[C.out];exact⟨rfl,p⟩
 rw[if_neg Z]at N;obtain⟨K,hK⟩:∃K:Nat,e.n=K:=⟨e.n.toNat,by omega⟩;rw[hK]at N;go_upto_region 9 with(fail);clear s
 by_cases c3:(H.m.fs.length:Int)<=(K:Int)
 ·have C:Hid (dm H.ma P.sp n=3):=ae (by rw[N.out,if_pos c3]);have c3e:(H.m.fs.length:Int)<=e.n:=by omega
  refine aR 9 [_,_,_,_,_,_,_,_,_] (Gf ge 1 rfl rfl (Gl F rfl rfl rfl rfl rfl (Gk rfl (Gk rfl (Gf b 0 rfl rfl (Gf b 0 rfl rfl (Gl hs rfl rfl rfl rfl rfl (Gn rfl rfl rfl rfl (Gb (.bool true) (by simp[go_sem,c3e]) rfl rfl rfl rfl rfl (aH)))))))))) (λ_=>rfl) rfl ?_;intro y M o _;have p:=ah hm o;clear o hD L I t hC c3 c3e;go_wp2;go_ret;rw[C.out];exact⟨rfl,p⟩
 rw[if_neg c3]at N;have c3e:¬(H.m.fs.length:Int)<=e.n:=by omega
 refine aR 9 [_,_,_,_,_,_,_,_,_] (Gf ge 1 rfl rfl (Gl F rfl rfl rfl rfl rfl (Gk rfl (Gk rfl (Gf b 0 rfl rfl (Gf b 0 rfl rfl (Gl hs rfl rfl rfl rfl rfl (Gn rfl rfl rfl rfl (Gb (.bool false) (by simp[go_sem,c3e]) rfl rfl rfl rfl rfl (aH)))))))))) (λ_=>rfl) rfl ?_;intro y M o _;have p:=ah hm o;have hQ:K<H.m.fs.length:=by omega
 replace F:=F.ext o;have hp:=O.ext p;have h5:=h.below p;have G:∀ {u:Value} {z:Addr},(∀W,Below w4.heap.size w4 W->W.cell? z=some u)->∀W,Below M.heap.size M W->W.cell? z=some u:=λhh W A=>hh W (ah o A);replace hD:=G hD;replace L:=G L;replace I:=G I;replace t:=G t;replace hC:=G hC;obtain⟨bg,Y,kk,hr⟩:=oU jo h5.fr.rd K hQ;have h3:H.m.fs[K]=aF H.ma K:=by have:=vQ (m:=H.ma) (f:=K) hQ;have h2:H.m.fs[K]?=some (aF H.ma K):=this;rw[aM hQ]at h2;exact aU h2
 rw[h3]at hr;have c:Hid (dm H.ma P.sp n=(let of:=decide (0<=a.fi)&&decide ((aF H.ma K).f=a.fi)&&decide ((aF H.ma K).i=a.ba+n-a.fr)
  if 0<=(aF H.ma K).f/\of=false\/a.sh=true/\of=false\/a.sh=false/\of=true/\e.w=true\/e.w=true/\a.wr=false then 7
  else if(aF H.ma K).f<0/\e.w=true/\1<(aF H.ma K).r then 7 else 0)):=ae (by rw[N.out];rfl)
 generalize aF H.ma K=x at *
 clear N h3 o hs h4 hm c3 G;go_upto_region 11 with(fail);refine aR 9 [_,_,_,_,_,_,_,_,.v (.pointer (some ⟨bg,Y+K*13,none⟩))] (Gk rfl (Gk rfl (Gf b 0 rfl rfl (Gf b 0 rfl rfl (Gl hp (V:=.slice (some ⟨bg,Y,none⟩) H.m.fs.length H.cf) (by simp[bS,kk]) rfl rfl rfl rfl (Gf ge 1 rfl rfl (Gl F (V:=.int .i64 (K:Int)) (by simp[pq,hK]) rfl rfl rfl rfl (Gr (.pointer (some ⟨bg,Y+K*13,none⟩)) (λρ y W A hB=>(ed rfl (bi rfl hB) (bi rfl hB) hQ underlying30 frame_size)) rfl rfl (Gk rfl (aH)))))))))) (λ_=>rfl) rfl ?_;intro y W7 hv _;have hJ:=ah p hv;have ex7:=F.ext hv;have kd:=O.ext hJ;have G:∀ {u:Value} {z:Addr},(∀W,Below M.heap.size M W->W.cell? z=some u)->∀W,Below W7.heap.size W7 W->W.cell? z=some u:=λhh W A=>hh W (ah hv A);replace hD:=G hD;replace L:=G L;replace I:=G I;replace t:=G t;replace hC:=G hC;have hI:=hr.below hv;clear F hp hv G hr p h5;have hG:IntKind.i64.wrap (a.ba+n)=a.ba+n:=dz _ (by obtain⟨⟨z1,z2⟩,⟨z3,z4⟩,z5,z6⟩:=hM;omega);have h6:IntKind.i64.wrap (a.ba+n-a.fr)=a.ba+n-a.fr:=dz _ (by obtain⟨⟨z1,z2⟩,⟨z3,z4⟩,z5,z6⟩:=hM;omega);go_upto_region 12 with(fail);refine aR 12 [_,_,_,_,_,_,_,_,_,_,_,.v (.int .i64 (a.ba+n-a.fr))] (Gk rfl (Gk rfl (Gf ba (J+k*7+6) rfl rfl (Gc (.int .i64 a.ba) (λW A=>by simp[hC _ A]) rfl rfl rfl rfl (Gk rfl (Gb (.int .i64 (a.ba+n)) (by simp[go_sem,hG]) rfl rfl rfl rfl rfl (Gk rfl (Gk rfl (Gf ba (J+k*7) rfl rfl (Gc (.int .i64 a.fr) (λW A=>by simp[hD _ A]) rfl rfl rfl rfl (Gb (.int .i64 (a.ba+n-a.fr)) (by simp[go_sem,h6]) rfl rfl rfl rfl rfl (Gk rfl (aH))))))))))))) (λ_=>rfl) rfl ?_;intro y M o _;have p:=ah hJ o;have F:=ex7.ext o;have hp:=O.ext p;have G:∀ {u:Value} {z:Addr},(∀W,Below W7.heap.size W7 W->W.cell? z=some u)->∀W,Below M.heap.size M W->W.cell? z=some u:=λhh W A=>hh W (ah o A);replace L:=G L;replace I:=G I;replace t:=G t;have hr:=hI.below o;clear ex7 kd o G hI hJ hG h6 hD hC;have hP:∀j u,(rG x)[j]?=some u->∀W,Below M.heap.size M W->W.cell? ⟨bg,Y+K*13+j,none⟩=some u:=λj u hj W A=>by obtain⟨b',o',e',hc⟩:=(hr.below A) j u hj;cases e';exact hc
 have hy:=hP 8 _ rfl;have R:=hP 11 _ rfl;have ht:=hP 12 _ rfl;clear hP hr;go_upto_region 13 with(fail)
 by_cases g1:0<=a.fi
 ·by_cases g2:x.f=a.fi
  ·by_cases g3:x.i=a.ba+n-a.fr
   ·skip;refine aR 25 [_,_,_,_,_,_,_,_,_,_,_,_,_,_,_,_,_,_,_,_,_,_,_,_,.v (.bool true)] (Gk rfl (Gk rfl (Gf ba (J+k*7+5) rfl rfl (Gc (.int .i64 a.fi) (λW A=>by simp[t _ A]) rfl rfl rfl rfl (Gb (.bool true) (by simp[go_sem,g1]) rfl rfl rfl rfl rfl (Gk rfl (Gk rfl (Gk rfl (Gf bg (Y+K*13+11) rfl rfl (Gc (.int .i64 x.f) (λW A=>by simp[R _ A]) rfl rfl rfl rfl (Gk rfl (Gk rfl (Gf ba (J+k*7+5) rfl rfl (Gc (.int .i64 a.fi) (λW A=>by simp[t _ A]) rfl rfl rfl rfl (Gb (.bool true) (by simp[go_sem,g2]) rfl rfl rfl rfl rfl (Gk rfl (Gk rfl (Gk rfl (Gk rfl (Gf bg (Y+K*13+12) rfl rfl (Gc (.int .i64 x.i) (λW A=>by simp[ht _ A]) rfl rfl rfl rfl (Gk rfl (Gb (.bool true) (by simp[go_sem,g3]) rfl rfl rfl rfl rfl (Gk rfl (Gk rfl (aH)))))))))))))))))))))))))) (λ_=>rfl) rfl ?_;intro y W6 d _;have g:=ah p d;have x8:=hy _ d;have x11:=R _ d;have U:=L _ d;have S:=I _ d;have s:=(F.ext d).cell;unfold pq at s;clear d L I t hy R ht F hp;have f1:0<=x.f:=by omega
    have f1n:¬x.f<0:=by omega
    replace c:Hid (dm H.ma P.sp n=if a.sh=false/\e.w=true\/e.w=true/\a.wr=false then 7 else 0):=ae (by rw[c.out,decide_eq_true g1,decide_eq_true g2,decide_eq_true g3];simp[f1n]);clear g2 g3;cases f2:a.sh with
    | true=>
     rw[f2]at S;cases f3:e.w with
     | false=>
      rw[f3]at s;have C:Hid (dm H.ma P.sp n=0):=ae (by rw[c.out];simp[*];try omega);clear c;go_wp2;go_ret;rw[C.out];exact⟨rfl,g⟩
     | true=>
      rw[f3]at s;cases f4:a.wr with
      | false=>
       rw[f4]at U;have C:Hid (dm H.ma P.sp n=7):=ae (by rw[c.out];simp[*];try omega);clear c;go_wp2;go_ret;rw[C.out];exact⟨rfl,g⟩
      | true=>
       rw[f4]at U;have C:Hid (dm H.ma P.sp n=0):=ae (by rw[c.out];simp[*];try omega);clear c;go_wp2;go_ret;rw[C.out];exact⟨rfl,g⟩
    | false=>
     rw[f2]at S;cases f3:e.w with
     | true=>
      rw[f3]at s;have C:Hid (dm H.ma P.sp n=7):=ae (by rw[c.out];simp[*];try omega);clear c;go_wp2;go_ret;rw[C.out];exact⟨rfl,g⟩
     | false=>
      rw[f3]at s;have C:Hid (dm H.ma P.sp n=0):=ae (by rw[c.out];simp[*];try omega);clear c;go_wp2;go_ret;rw[C.out];exact⟨rfl,g⟩
   skip;refine aR 25 [_,_,_,_,_,_,_,_,_,_,_,_,_,_,_,_,_,_,_,_,_,_,_,_,.v (.bool false)] (Gk rfl (Gk rfl (Gf ba (J+k*7+5) rfl rfl (Gc (.int .i64 a.fi) (λW A=>by simp[t _ A]) rfl rfl rfl rfl (Gb (.bool true) (by simp[go_sem,g1]) rfl rfl rfl rfl rfl (Gk rfl (Gk rfl (Gk rfl (Gf bg (Y+K*13+11) rfl rfl (Gc (.int .i64 x.f) (λW A=>by simp[R _ A]) rfl rfl rfl rfl (Gk rfl (Gk rfl (Gf ba (J+k*7+5) rfl rfl (Gc (.int .i64 a.fi) (λW A=>by simp[t _ A]) rfl rfl rfl rfl (Gb (.bool true) (by simp[go_sem,g2]) rfl rfl rfl rfl rfl (Gk rfl (Gk rfl (Gk rfl (Gk rfl (Gf bg (Y+K*13+12) rfl rfl (Gc (.int .i64 x.i) (λW A=>by simp[ht _ A]) rfl rfl rfl rfl (Gk rfl (Gb (.bool false) (by simp[go_sem,g3]) rfl rfl rfl rfl rfl (Gk rfl (Gk rfl (aH)))))))))))))))))))))))))) (λ_=>rfl) rfl ?_;intro y W6 d _;have g:=ah p d;have x8:=hy _ d;have x11:=R _ d;have U:=L _ d;have S:=I _ d;have s:=(F.ext d).cell;unfold pq at s;clear d L I t hy R ht F hp;have hu:(decide (0<=a.fi)&&decide (x.f=a.fi)&&decide (x.i=a.ba+n-a.fr))=false:=by simp[*]
   replace c:Hid (dm H.ma P.sp n=if 0<=x.f\/a.sh=true\/e.w=true/\a.wr=false then 7 else if x.f<0/\e.w=true/\1<x.r then 7 else 0):=ae (by rw[c.out,hu];simp);clear hu g2 g3
   by_cases f1:0<=x.f
   ·skip;have C:Hid (dm H.ma P.sp n=7):=ae (by rw[c.out];simp[*];try omega);clear c;go_wp2;go_ret;rw[C.out];exact⟨rfl,g⟩
   have f1n:x.f<0:=by omega
   cases f2:a.sh with
   | true=>
    rw[f2]at S;have C:Hid (dm H.ma P.sp n=7):=ae (by rw[c.out];simp[*];try omega);clear c;go_wp2;go_ret;rw[C.out];exact⟨rfl,g⟩
   | false=>
    rw[f2]at S;cases f3:e.w with
    | false=>
     rw[f3]at s;have C:Hid (dm H.ma P.sp n=0):=ae (by rw[c.out];simp[*];try omega);clear c;go_wp2;go_ret;rw[C.out];exact⟨rfl,g⟩
    | true=>
     rw[f3]at s;cases f4:a.wr with
     | false=>
      rw[f4]at U;have C:Hid (dm H.ma P.sp n=7):=ae (by rw[c.out];simp[*];try omega);clear c;go_wp2;go_ret;rw[C.out];exact⟨rfl,g⟩
     | true=>
      rw[f4]at U
      by_cases f5:1<x.r
      ·skip;have C:Hid (dm H.ma P.sp n=7):=ae (by rw[c.out];simp[*];try omega);clear c;go_wp2;go_ret;rw[C.out];exact⟨rfl,g⟩
      skip;have C:Hid (dm H.ma P.sp n=0):=ae (by rw[c.out];simp[*];try omega);clear c;go_wp2;go_ret;rw[C.out];exact⟨rfl,g⟩
  skip;refine aR 25 [_,_,_,_,_,_,_,_,_,_,_,_,_,_,_,_,_,_,_,_,_,_,_,_,.v (.bool false)] (Gk rfl (Gk rfl (Gf ba (J+k*7+5) rfl rfl (Gc (.int .i64 a.fi) (λW A=>by simp[t _ A]) rfl rfl rfl rfl (Gb (.bool true) (by simp[go_sem,g1]) rfl rfl rfl rfl rfl (Gk rfl (Gk rfl (Gk rfl (Gf bg (Y+K*13+11) rfl rfl (Gc (.int .i64 x.f) (λW A=>by simp[R _ A]) rfl rfl rfl rfl (Gk rfl (Gk rfl (Gf ba (J+k*7+5) rfl rfl (Gc (.int .i64 a.fi) (λW A=>by simp[t _ A]) rfl rfl rfl rfl (Gb (.bool false) (by simp[go_sem,g2]) rfl rfl rfl rfl rfl (Gk rfl (Gk rfl (Gk rfl (Gk rfl (Gk rfl (Gk rfl (Gk rfl (Gk rfl (Gk rfl (Gk rfl (aH)))))))))))))))))))))))))) (λ_=>rfl) rfl ?_;intro y W6 d _;have g:=ah p d;have x8:=hy _ d;have x11:=R _ d;have U:=L _ d;have S:=I _ d;have s:=(F.ext d).cell;unfold pq at s;clear d L I t hy R ht F hp;have hu:(decide (0<=a.fi)&&decide (x.f=a.fi)&&decide (x.i=a.ba+n-a.fr))=false:=by simp[*]
  replace c:Hid (dm H.ma P.sp n=if 0<=x.f\/a.sh=true\/e.w=true/\a.wr=false then 7 else if x.f<0/\e.w=true/\1<x.r then 7 else 0):=ae (by rw[c.out,hu];simp);clear hu g2
  by_cases f1:0<=x.f
  ·skip;have C:Hid (dm H.ma P.sp n=7):=ae (by rw[c.out];simp[*];try omega);clear c;go_wp2;go_ret;rw[C.out];exact⟨rfl,g⟩
  have f1n:x.f<0:=by omega
  cases f2:a.sh with
  | true=>
   rw[f2]at S;have C:Hid (dm H.ma P.sp n=7):=ae (by rw[c.out];simp[*];try omega);clear c;go_wp2;go_ret;rw[C.out];exact⟨rfl,g⟩
  | false=>
   rw[f2]at S;cases f3:e.w with
   | false=>
    rw[f3]at s;have C:Hid (dm H.ma P.sp n=0):=ae (by rw[c.out];simp[*];try omega);clear c;go_wp2;go_ret;rw[C.out];exact⟨rfl,g⟩
   | true=>
    rw[f3]at s;cases f4:a.wr with
    | false=>
     rw[f4]at U;have C:Hid (dm H.ma P.sp n=7):=ae (by rw[c.out];simp[*];try omega);clear c;go_wp2;go_ret;rw[C.out];exact⟨rfl,g⟩
    | true=>
     rw[f4]at U
     by_cases f5:1<x.r
     ·skip;have C:Hid (dm H.ma P.sp n=7):=ae (by rw[c.out];simp[*];try omega);clear c;go_wp2;go_ret;rw[C.out];exact⟨rfl,g⟩
     skip;have C:Hid (dm H.ma P.sp n=0):=ae (by rw[c.out];simp[*];try omega);clear c;go_wp2;go_ret;rw[C.out];exact⟨rfl,g⟩
 skip;refine aR 25 [_,_,_,_,_,_,_,_,_,_,_,_,_,_,_,_,_,_,_,_,_,_,_,_,.v (.bool false)] (Gk rfl (Gk rfl (Gf ba (J+k*7+5) rfl rfl (Gc (.int .i64 a.fi) (λW A=>by simp[t _ A]) rfl rfl rfl rfl (Gb (.bool false) (by simp[go_sem,g1]) rfl rfl rfl rfl rfl (Gk rfl (Gk rfl (Gk rfl (Gk rfl (Gk rfl (Gk rfl (Gk rfl (Gk rfl (Gk rfl (Gk rfl (Gk rfl (Gk rfl (Gk rfl (Gk rfl (Gk rfl (Gk rfl (Gk rfl (Gk rfl (Gk rfl (Gk rfl (aH)))))))))))))))))))))))))) (λ_=>rfl) rfl ?_;intro y W6 d _;have g:=ah p d;have x8:=hy _ d;have x11:=R _ d;have U:=L _ d;have S:=I _ d;have s:=(F.ext d).cell;unfold pq at s;clear d L I t hy R ht F hp;have hu:(decide (0<=a.fi)&&decide (x.f=a.fi)&&decide (x.i=a.ba+n-a.fr))=false:=by simp[*]
 replace c:Hid (dm H.ma P.sp n=if 0<=x.f\/a.sh=true\/e.w=true/\a.wr=false then 7 else if x.f<0/\e.w=true/\1<x.r then 7 else 0):=ae (by rw[c.out,hu];simp);clear hu g1
 by_cases f1:0<=x.f
 ·skip;have C:Hid (dm H.ma P.sp n=7):=ae (by rw[c.out];simp[*];try omega);clear c;go_wp2;go_ret;rw[C.out];exact⟨rfl,g⟩
 have f1n:x.f<0:=by omega
 cases f2:a.sh with
 | true=>
  rw[f2]at S;have C:Hid (dm H.ma P.sp n=7):=ae (by rw[c.out];simp[*];try omega);clear c;go_wp2;go_ret;rw[C.out];exact⟨rfl,g⟩
 | false=>
  rw[f2]at S;cases f3:e.w with
  | false=>
   rw[f3]at s;have C:Hid (dm H.ma P.sp n=0):=ae (by rw[c.out];simp[*];try omega);clear c;go_wp2;go_ret;rw[C.out];exact⟨rfl,g⟩
  | true=>
   rw[f3]at s;cases f4:a.wr with
   | false=>
    rw[f4]at U;have C:Hid (dm H.ma P.sp n=7):=ae (by rw[c.out];simp[*];try omega);clear c;go_wp2;go_ret;rw[C.out];exact⟨rfl,g⟩
   | true=>
    rw[f4]at U
    by_cases f5:1<x.r
    ·skip;have C:Hid (dm H.ma P.sp n=7):=ae (by rw[c.out];simp[*];try omega);clear c;go_wp2;go_ret;rw[C.out];exact⟨rfl,g⟩
    skip;have C:Hid (dm H.ma P.sp n=0):=ae (by rw[c.out];simp[*];try omega);clear c;go_wp2;go_ret;rw[C.out];exact⟨rfl,g⟩
def isK(i:Int)(c:Cc):Bool:=decide (c.k=i)
theorem Oe(c:Cc)(i:Int)(g:Nat)(w:World)(h:aK w g #[.int .i64 i] 3) :
  Calls Tryz.prog 85 #[.agg (zF c),.pointer (some ⟨g,0,none⟩)] w λr w'=>r = .returned (.bool (isK i c))/\Below w.heap.size w w':=by
 go_enter func85,ntmps85;go_upto_region 1 with(fail);refine iP (λW=>Code.wp _ _ _ _ W) λy a b d => ?_;clear d;have e:=(h.ext a).cell 0;have f:=b.cell;have u:(zF c)[2]?=some (.int .i64 c.k):=rfl;go_wp2;go_ret;exact⟨cB (by unfold isK;rfl),a⟩
theorem Wq(l:List Cc)(a:Option Addr)(c:Nat)(w:World)(C:eD w a (l.flatMap kM))(J:l.length<=9223372036854775807)(g:Nat)(u:Int)(G:aK w g #[.int .i64 u] 3) :
  Calls Tryz.prog 131 #[.slice a l.length c,.func (.func 85) #[] #[.pointer (some ⟨g,0,none⟩)]] w λe w'=>e = .returned (.int .i64 (idx (isK u) l))/\Below w.heap.size w w':=by
 go_enter func131,ntmps131;go_wp2
 go_loopw [8] (fun i wr => ∃k:Nat,k<=l.length/\i = .int .i64 k/\Below w.heap.size w wr/\∀i (h:i<l.length),i<k->(isK u) l[i]=false) (fun i _=>l.length-(intOf i).toNat)
 case atStart=>exact⟨0,bN _,rfl,Below.refl _ _,λi _ h=>absurd h (ig _)⟩
 case round=>
  obtain⟨k,K,rfl,j,n⟩:=hrel;have F:=ae n;clear n
  by_cases y:k<l.length
  ·obtain⟨b,A,rfl,p⟩:=Rs (C.below j) k y
   go_wp2_with (refine ay b (A+k*3) _ p _ underlying122 rfl cached_size ?_)
   refine(Oe l[k] u g _ (G.ext j)).mono ?_;rintro e I ⟨rfl,o⟩;have f:=ah j o;clear o;cases hpk:(isK u) l[k]
   ·have m:=ae hpk;clear hpk;go_wp2;go_roundw
    case rel=>exact⟨k+1,by omega,by go_num,f,oO F.out y m.out⟩
    case measure=>simp[intOf];omega
   have d:=ae (qH (isK u) l k y F.out hpk);clear hpk;go_wp2;go_ret;exact⟨bI d.out.symm,f⟩
  have d:=ae (ll (isK u) l λi h=>F.out i h (by omega));go_wp2;go_ret;exact⟨bI d.out.symm,j⟩
theorem Ut(l:List Cc)(a:Option Addr)(c:Nat)(w:World)(h:eD w a (l.flatMap kM))(u:l.length<=9223372036854775807)(g:Nat)(d:Int)(y:aK w g #[.int .i64 d] 3) :
  Calls Tryz.prog 84 #[.slice a l.length c,.func (.func 85) #[] #[.pointer (some ⟨g,0,none⟩)]] w λe w'=>e = .returned (.bool (l.any (isK d)))/\Below w.heap.size w w':=by
 go_enter func84,ntmps84
 go_wp2_with fail
 refine(Wq l a c _ h u g d y).mono ?_;rintro e A ⟨rfl,b⟩;go_wp2;go_ret;exact⟨cB (tN _ _),b⟩
theorem Nh(l m:List Int)(a a' : Option Addr)(c c' : Nat)(w:World)(C:eD w a (l.map ib))(hrd' : eD w a' (m.map ib))(K:l.length<=9223372036854775807)(hl' : m.length<=9223372036854775807) :
  Calls Tryz.prog 86 #[.slice a l.length c,.slice a' m.length c'] w λe w'=>e = .returned (.bool (l==m))/\Below w.heap.size w w':=by
 go_enter func86,ntmps86
 by_cases y:l.length=m.length
 ·have f:((l.length:Int) != (m.length:Int))=false:=by simp[y]
  go_wp2
  go_loopw [13] (fun i wr => ∃k:Nat,k<=l.length/\i = .int .i64 k/\Below w.heap.size w wr/\∀i (h:i<l.length),i<k->l[i]=m[i]'(by omega)) (fun i _=>l.length-(intOf i).toNat)
  case atStart=>exact⟨0,bN _,rfl,Below.refl _ _,λi _ h=>absurd h (ig _)⟩
  case round=>
   obtain⟨k,L,rfl,d,G⟩:=hrel
   by_cases u:k<l.length
   ·obtain⟨b,I,rfl,M⟩:=mO (C.below d) k u;obtain⟨N,F,rfl,g⟩:=mO (hrd'.below d) k (by omega);have k1:(k:Int)<(m.length:Int):=by omega
    go_wp2_with fail
    go_quiet (fail)
    by_cases A:l[k]=m[k]'(by omega)
    ·have J:(l[k] != m[k]'(by omega))=false:=by simp[A]
     go_wp2;go_roundw
     case rel=>exact⟨k+1,by omega,by go_num,below_drewN d _,upto G u A⟩
     case measure=>simp[intOf];omega
    have J:(l[k] != m[k]'(by omega))=true:=by simp[A]
    go_wp2;go_ret;exact⟨cB (Te k u (by omega) A).symm,below_drewN d _⟩
   go_wp2
   all_goals
    go_ret;exact⟨cB (Tx y λi h=>G i h (by omega)).symm,d⟩
 have f:((l.length:Int) != (m.length:Int))=true:=by simp;omega
 go_wp2;go_ret;refine⟨cB ?_,Below.refl _ _⟩;symm;rw[beq_eq_false_iff_ne];rintro rfl;exact y rfl
theorem nP(n:Nat)(l:List Int):(lL n l).length=n:=by simp[lL]
theorem pM(n:Nat)(l:List Int)(i:Nat)(d:i<n):(lL n l)[i]?=some (cnt l i:Int):=by simp[lL,d]
theorem MS(l:List Int)(k i:Int):cnt (l++[k]) i=cnt l i+(if k=i then 1 else 0):=by
 rw[Aw];congr 1;unfold cnt;rw[qN,List.countP_nil]
 by_cases h:k=i
 ·simp[h]
 ·simp[h]
theorem FC(n:Nat)(l:List Int)(k:Nat)(d:k<n):(lL n l).set k ((cnt l k:Int)+1)=lL n (l++[(k:Int)]):=by
 apply qB;intro i;rw[qd,nP]
 by_cases e:k=i
 ·subst e;rw[if_pos rfl,if_pos d,pM _ _ _ d,MS,if_pos rfl];simp
 rw[if_neg e]
 by_cases h:i<n
 ·rw[pM _ _ _ h,pM _ _ _ h,MS,if_neg (by omega)];rfl
 ·rw[dP (by rw[nP];omega),dP (by rw[nP];omega)]
theorem Nw(n:Nat):lL n []=List.replicate n 0:=by
 unfold lL cnt;apply qB;intro i;rw[iH,uA]
 by_cases d:i<n
 ·rw[xn d,if_pos d];rfl
 ·rw[if_neg d,dP (by simp;omega)];rfl
theorem JR(l:List Int)(i:Int):cnt l i<=l.length:=za
def IB(w:World)(g:Nat)(l:List Int):Prop:=aK w g (l.map ib).toArray 3
theorem Jh(n:Nat):madeCells #[.int .i64 0] n=((List.replicate n (0:Int)).map ib).toArray:=by
 apply Array.ext
 ·simp[size_madeCells]
 intro i h d;simp[madeCells,ib,Nat.mod_one]
theorem IB.cell(h:IB w g l){v:Int}(d:l[k]?=some v):w.cell? ⟨g,k,none⟩=some (.int .i64 v):=by
 have:=aK.cell h k;rw[this];simp[d,ib]
theorem IB.set{v:Int}(d:k<l.length):dO (l.map ib).toArray k [.int .i64 v]=((l.set k v).map ib).toArray:=by
 show((l.map ib).toArray).setIfInBounds k (.int .i64 v)=_;rw[nO];simp[ib]
theorem zZ{r:List Int}(h:∀x∈l,x=0):firstE (l++r)=firstE r:=by
 induction l with
 | nil=>rfl
 | cons a l ih=>
  have u:=h a jN;rw[EE];rw[firstE,u];simp only[if_true,ne_eq,not_true_eq_false,if_false];exact ih λx d=>h x (jh _ d)
theorem RP{x:Int}{r:List Int}(h:x≠0):firstE (x::r)=x:=by
 rw[firstE];simp[h]
theorem NS{s:Sp}(A:m.sp[p]?=some s)(C:(aV s.tb)[j]?=some n)(G:∀t∈m.sp.take p,∀i∈aV t.tb,dm m t i=0)(F:∀i∈(aV s.tb).take j,dm m s i=0)(h:dm m s n≠0):nX m=dm m s n:=by
 unfold nX;have J:m.sp=m.sp.take p++s::m.sp.drop (p+1):=by rw[<-drop_at A,tZ]
 have I:aV s.tb=(aV s.tb).take j++n::(aV s.tb).drop (j+1):=by rw[<-drop_at C,tZ]
 rw[J,iq,zZ (λx d => ?_),pF,I,jL,lF,zZ (λx d => ?_),bM,EE,RP h]
 ·obtain⟨i,u,rfl⟩:=fD.1 d;exact F i u
 obtain⟨t,y,d⟩:=jS.1 d;obtain⟨i,u,rfl⟩:=fD.1 d;exact G t y i u
theorem NB(h:∀t∈m.sp,∀i∈aV t.tb,dm m t i=0):nX m=0:=by
 unfold nX;rw[<-pU (m.sp.flatMap _),zZ (λx d => ?_)]
 ·rfl
 obtain⟨t,u,d⟩:=jS.1 d;obtain⟨i,y,rfl⟩:=fD.1 d;exact h t u i y
theorem VO{s:Sp}(h:dm m s n=0):((dR s.tb n).k=2->(dR s.tb n).n<m.sl.length)/\((dR s.tb n).k≠2->(dR s.tb n).n<m.m.fs.length):=by
 unfold dm at h;split at h
 ·cases h
 simp only at h;split at h
 ·rename_i d;split at h
  ·cases h
  rename_i y;exact⟨λ_=>by omega,λu=>absurd d u⟩
 rename_i d;split at h
 ·cases h
 ·exact⟨λu=>absurd u d,λ_=>by omega⟩
def nG(m:Ma)(p:Nat)(l:List Int):List Int:=m.ca.map Cc.k++(m.sp.take p).flatMap (λs=>pz s.tb (aV s.tb))++l
def lh(m:Ma)(p:Nat)(l:List Int):List Int:=(m.sp.take p).flatMap (λs=>swapT s.tb (aV s.tb))++l
theorem TA(t:Tb)(l:List Int)(n:Int):pz t (l++[n])=pz t l++(if(dR t n).k=1 then[(dR t n).n]else[]):=by
 unfold pz;rw[pW,jL];congr 1
 by_cases h:(dR t n).k=1
 ·simp[h]
 ·simp[h]
theorem Uk(t:Tb)(l:List Int)(n:Int):swapT t (l++[n])=swapT t l++(if(dR t n).k=1 then[]else[(dR t n).n]):=by
 unfold swapT;rw[pW,jL];congr 1
 by_cases h:(dR t n).k=1
 ·simp[h]
 ·simp[h]
theorem PI{s:Sp}(d:m.sp[p]?=some s):nG m p (pz s.tb (aV s.tb))=nG m (p+1) []:=by
 unfold nG;rw[take_at d,iq,pU,lF];simp
theorem Np{s:Sp}(d:m.sp[p]?=some s):lh m p (swapT s.tb (aV s.tb))=lh m (p+1) []:=by
 unfold lh;rw[take_at d,iq,pU];simp
theorem Si(m:Ma):nG m m.sp.length []=uV m:=by unfold nG uV;rw[zk,pU]
theorem OG(m:Ma):lh m m.sp.length []=rW m:=by unfold lh rW;rw[zk,pU]
theorem Og(m:Ma)(p:Nat)(l:List Int)(k:Int):nG m p (l++[k])=nG m p l++[k]:=by unfold nG;rw[lF,lF,lF]
theorem ME(m:Ma)(p:Nat)(l:List Int)(k:Int):lh m p (l++[k])=lh m p l++[k]:=by unfold lh;rw[lF]
theorem CJ(t:Tb)(l:List Int):(pz t l).length<=l.length:=by unfold pz;rw[fE];exact wS _ _
theorem Jb(t:Tb)(l:List Int):(swapT t l).length<=l.length:=by unfold swapT;rw[fE];exact wS _ _
theorem flat_len{α:Type}(g:α->List Int)(c:Nat)(h:∀x,(g x).length<=c):∀l:List α,(l.flatMap g).length<=c*l.length
 | []=>by simp
 | x::l=>by have u:=flat_len g c h l;have d:=h x;rw[pF,fI,ou,Nat.mul_succ];omega
theorem xG(t:Tb):(aV t).length<=64:=uR t 64
theorem RZ(m:Ma)(p:Nat)(l:List Int):(nG m p l).length<=m.ca.length+64*m.sp.length+l.length:=by
 unfold nG;have h:=flat_len (λs:Sp=>pz s.tb (aV s.tb)) 64 (λs=>aX (CJ _ _) (xG _)) (m.sp.take p);have d:(m.sp.take p).length<=m.sp.length:=by rw[eG];omega
 simp only[fI,fE];omega
theorem Ry(h:vR m)(p:Nat)(l:List Int)(K:Int):cnt (nG m p l) K<=1+64*m.sp.length+l.length:=by
 unfold nG;rw[Aw,Aw];have F:=flat_len (λs:Sp=>pz s.tb (aV s.tb)) 64 (λs=>aX (CJ _ _) (xG _)) (m.sp.take p);have C:(m.sp.take p).length<=m.sp.length:=by rw[eG];omega
 have A:cnt (m.ca.map Cc.k) K=vY m K:=by unfold cnt vY;rw[xA];rfl
 have y:=VY h K;have u:=JR ((m.sp.take p).flatMap λs=>pz s.tb (aV s.tb)) K;have d:=JR l K;omega
theorem Om(m:Ma)(p:Nat)(l:List Int):(lh m p l).length<=64*m.sp.length+l.length:=by
 unfold lh;have h:=flat_len (λs:Sp=>swapT s.tb (aV s.tb)) 64 (λs=>aX (Jb _ _) (xG _)) (m.sp.take p);have d:(m.sp.take p).length<=m.sp.length:=by rw[eG];omega
 simp only[fI];omega
theorem Rf(w:World)(c1 c2:Array Value)(d h:TypeId):Below w.heap.size w ((w.alloc (.cells c1 d)).alloc (.cells c2 h)).drew/\aK ((w.alloc (.cells c1 d)).alloc (.cells c2 h)).drew w.heap.size c1 d/\aK ((w.alloc (.cells c1 d)).alloc (.cells c2 h)).drew (w.heap.size+1) c2 h:=by
 have e:(w.alloc (.cells c1 d)).heap.size=w.heap.size+1:=BH _;have u:Below w.heap.size w ((w.alloc (.cells c1 d)).alloc (.cells c2 h)):=((Below.refl _ _).alloc (aC _) _).alloc (by omega) _;have A:aK ((w.alloc (.cells c1 d)).alloc (.cells c2 h)) w.heap.size c1 d:=(aK.new w c1 d).ext ((Below.refl _ _).alloc (aC _) _);have y:aK ((w.alloc (.cells c1 d)).alloc (.cells c2 h)) (w.heap.size+1) c2 h:=by rw[<-e];exact aK.new _ _ _
 exact⟨⟨u.os,u.tape,u.output,u.size,u.block⟩,A,y⟩
theorem int_one:(Tryz.prog.info? 3).map (·.size)=some 1:=by kernel_rfl
theorem int_inf:(Tryz.prog.info? 3).map (λi=>(i.zero,i.size,i.bytes))=some (some (.int .i64 0),1,8):=by kernel_rfl
theorem Gg{e:TypeId}{x y:Operand}{n:Nat}{k:IntKind}(C:o.op = .indexAddr t x y)(h:ρ x = .slice (some ⟨b,0,none⟩) n c)(d:ρ y = .int k (i:Int))(F:i<n)
 (u:P.underlying t=some (.slice e)) (A:(P.info? e).map (·.size)=some 1):(execOp ρ o).run P w = .ok (.value (.pointer (some ⟨b,i,none⟩))) w:=by
 have:=ed (w:=w) C h d F u A;rw[this];simp
def Iq(m:Ma)(i:Nat):Bool:=decide ((gQ m i).r=cnt (uV m) i)&&(decide ((gQ m i).f<0)||m.ca.any λc=>decide (c.k=i))
theorem NL(m:Ma):countB m=((List.range m.m.fs.length).all (Iq m)&&decide (m.sl=lL m.sl.length (rW m))):=rfl
theorem Nk(h:countB m=true)(k:Nat)(d:k<m.m.fs.length):Iq m k=true:=by
 rw[NL,dJ,dG]at h;exact h.1 k (dx.2 d)
theorem rQ(H:MH)(w:World)(h:Dk w H) :
  Calls Tryz.prog 40 #[.agg (bS H)] w λr w'=>r = .returned (.int .i64 (jW H.ma))/\Below w.heap.size w w':=by
 have gN:H.m.fs.length*8<=281474976710656/\H.sl.length*8<=281474976710656\/¬iO H.ma=0:=by
  by_cases e:iO H.ma=0
  ·have hp:=(yg.1 e).1;have h1:=((eF _).1 hp.fr).1;have h2:=lK hp.sl;have qb : H.m.fs.length<=40:=h1;have qa : H.sl.length<=60:=h2;exact .inl ⟨by omega,by omega⟩
  ·exact .inr e
 go_enter func40,ntmps40;go_upto_region 1 with(fail);refine iP (λW=>Code.wp _ _ _ _ W) λw1 kh bx1 gH => ?_;have h1:=h.below kh;have J:aK w1 w.heap.size (bS H) 45:=bx1;clear bx1 gH
 go_wp2_with fail
 refine(RX H w.heap.size _ J h1).mono ?_;rintro r w2 ⟨rfl,kU⟩;have h5:=ah kh kU;have bx2:=J.ext kU;clear J h1 kh kU
 by_cases e1:iO H.ma=0
 rotate_left
 ·have hq:Hid (jW H.ma=iO H.ma):=ae (by unfold jW;rw[if_pos e1]);generalize iO H.ma=E at *
  go_wp2;go_ret;rw[hq.out];exact⟨rfl,h5⟩
 rw[e1]
 go_wp2_with fail
 refine(Qq H w.heap.size _ bx2 (h.below h5)).mono ?_;rintro r w3 ⟨rfl,kT⟩;have hR:=ah h5 kT;have Z:=bx2.ext kT;clear bx2 h5 kT
 by_cases e2:iL H.ma=0
 rotate_left
 ·have hq:Hid (jW H.ma=iL H.ma):=ae (by unfold jW;rw[if_neg (by rw[e1];simp),if_pos e2]);generalize iL H.ma=E at *
  go_wp2;go_ret;rw[hq.out];exact⟨rfl,hR⟩
 rw[e2];have kj:=(yg.1 e1).1;have n1:H.m.fs.length<=40:=((eF _).1 kj.fr).1;have n2:H.sl.length<=60:=lK kj.sl;have n3:H.sp.length<=4:=by have:=kj.spl;rw[qm]at this;exact this
 have kA:=ae kj;have kx:=ae (AJ.1 e2);have kG:Hid (jW H.ma=if nX H.ma≠0 then nX H.ma else if countB H.ma=true then 0 else 7):=ae (by unfold jW;rw[if_neg (by rw[e1];simp),if_neg (by rw[e2];simp)]);clear e1 e2 kj gN;go_upto_region 7 with(fail);have l:=Z.cell;unfold bS at l;have kw:=λob=>(Z.ext ((Below.refl _ _).alloc (aC _) ob)).cell;unfold bS at kw;have ga:=run_make_row' (P:=Tryz.prog) 33 3 (.int .i64 0) 8 underlying33 int_inf rfl .i64 .i64 H.m.fs.length (by omega) (by omega);have k9:=run_make_row' (P:=Tryz.prog) 33 3 (.int .i64 0) 8 underlying33 int_inf rfl .i64 .i64 H.sl.length (by omega) (by omega)
 go_cut [5,6] (fun s5 s6 wx => ∃G F,s5 = .slice (some ⟨G,0,none⟩) H.m.fs.length H.m.fs.length/\s6 = .slice (some ⟨F,0,none⟩) H.sl.length H.sl.length/\G≠F/\w3.heap.size<=G/\w3.heap.size<=F/\Below w3.heap.size w3 wx/\aK wx G (madeCells #[.int .i64 0] H.m.fs.length) 3/\aK wx F (madeCells #[.int .i64 0] H.sl.length) 3)
 case first=>
  go_region
  all_goals (go_wp2_with fail;go_meet)
  ·obtain⟨z1,z2,z3⟩:=Rf w3 (madeCells #[.int .i64 0] H.m.fs.length) (madeCells #[.int .i64 0] H.sl.length) 3 3;exact⟨_,_,rfl,rfl,by omega,by omega,by omega,z1,z2,z3⟩
  obtain⟨z1,z2,z3⟩:=Rf w3 (madeCells #[.int .i64 0] H.sl.length) (madeCells #[.int .i64 0] H.m.fs.length) 3 3;exact⟨_,_,rfl,rfl,by omega,by omega,by omega,z1,z3,z2⟩
 case rest=>
  obtain⟨G,F,rfl,rfl,kL,gk,gf,kS,d,b⟩:=hcut;have ky:=ah hR kS;have bx4:=Z.ext kS;have kZ:w.heap.size<=G:=aX hR.size gk;have gF:w.heap.size<=F:=aX hR.size gf;have gq:w.heap.size≠G:=by have:=Z.lt;omega
  have gR:w.heap.size≠F:=by have:=Z.lt;omega
  have kE:IB wc G (lL H.m.fs.length ((H.ca.take 0).map Cc.k)):=by rw[List.take_zero,bP,Nw];unfold IB;rw[<-Jh];exact d
  have kB:IB wc F (lL H.sl.length []):=by rw[Nw];unfold IB;rw[<-Jh];exact b
  clear l kw ga k9 d b kS Z hR gk gf;have l:=bx4.cell;unfold bS at l;go_upto_region 9 with(fail);clear l;have g9:=h.ca.le;have gQ:=h.ca.mx;unfold maxLen at gQ
  go_loopw [37] (fun i wr => ∃(k:Nat),k<=H.ca.length/\i = .int .i64 k/\Below w.heap.size w wr/\aK wr w.heap.size (bS H) 45/\IB wr G (lL H.m.fs.length ((H.ca.take k).map Cc.k))/\IB wr F (lL H.sl.length [])) (fun i _=>H.ca.length-(intOf i).toNat)
  case atStart=>exact⟨0,bN _,rfl,ky,bx4,kE,kB⟩
  case round=>
   clear ky bx4 kE kB;obtain⟨k,hk,rfl,o,J,d,b⟩:=hrel
   by_cases A:k<H.ca.length
   ·obtain⟨bc,oc,gU,S⟩:=oU kD (h.below o).ca.rd k A;have kN:(k:Int)<(H.ca.length:Int):=by omega
    have g2:0<=H.ca[k].k/\H.ca[k].k<H.m.fs.length:=kx.out.lt _ (fA A);have h7:Hid ((H.ca.take (k+1)).map Cc.k=(H.ca.take k).map Cc.k++[H.ca[k].k]):=ae (by rw[take_at (aM A),jL];rfl);have kM:((H.ca.take k).map Cc.k).length<=k:=by rw[fE,eG];omega
    generalize H.ca[k]=c at *
    obtain⟨K,gp⟩:∃K:Nat,c.k=K:=⟨c.k.toNat,by omega⟩;have hy:K<H.m.fs.length:=by omega
    rw[gp]at h7;rw[gU];generalize (H.ca.take k).map Cc.k=L at *
    go_wp2_with (first | (refine ay bc (oc+k*3) _ S _ underlying122 rfl cached_size ?_) | (refine aT (zF c) cached_size (Ev c) ?_))
    intro w5 s cx;have hI:=ah o s;have bx5:=J.ext s;have hM:IB w5 G (lL H.m.fs.length L):=d.ext s;have hW:IB w5 F (lL H.sl.length []):=b.ext s;clear o J d b S s;have kQ:=cx.cell;unfold zF at kQ;rw[gp]at kQ;have hZ:=hM.cell (pM H.m.fs.length L K hy);have kv:=JR L K;have ka:IntKind.i64.wrap ((cnt L K:Int)+1)=(cnt L K:Int)+1:=dz _ (by omega);have gu:(K:Int)<(H.m.fs.length:Int):=by omega
    go_wp2_with (refine aY G K [.int .i64 ((cnt L K:Int)+1)] rfl rfl rfl _ _ hM (by simp[nP];omega) int_one (λu hu=>by cases bF.1 hu;rfl) ?_)
    intro w6 X hl;rw[IB.set (by rw[nP];exact hy),FC _ _ _ hy,<-h7.out] at X;have q:=hI.grown hl hI.size (λk hk=>by cases hk;exact kZ);have I:=bx5.grown hl (λe=>gq (aU e).symm);have hc:IB w6 F (lL H.sl.length []):=aK.grown hW hl (λe=>kL (aU e));clear hI bx5 hW hM kQ hZ cx hl ka;go_wp2;go_roundw
    case rel=>exact⟨k+1,by omega,by go_num,q,I,X,hc⟩
    case measure=>simp[intOf];omega
   have kN:¬(k:Int)<(H.ca.length:Int):=by omega
   rw[mE (by omega)]at d;have kF:IB wr G (lL H.m.fs.length (nG H.ma 0 [])):=by
    have e:nG H.ma 0 []=H.ca.map Cc.k:=by show H.ca.map Cc.k++[]++[]=_;rw[pU,pU]
    rw[e];exact d
   have kC:IB wr F (lL H.sl.length (lh H.ma 0 [])):=b;clear d b;have l:=J.cell;unfold bS at l;go_upto_region 14 with(fail);clear l
   go_loopw [52] (fun i wr => ∃(p:Nat),p<=H.sp.length/\i = .int .i64 p/\Below w.heap.size w wr/\aK wr w.heap.size (bS H) 45/\IB wr G (lL H.m.fs.length (nG H.ma p []))/\IB wr F (lL H.sl.length (lh H.ma p []))/\Hid (∀t∈H.ma.sp.take p,∀i∈aV t.tb,dm H.ma t i=0)) (fun i _=>H.sp.length-(intOf i).toNat)
   case atStart=>exact⟨0,bN _,rfl,o,J,kF,kC,ae λt ht=>by simp at ht⟩
   case round=>
    clear o J kF kC;obtain⟨p,hp,rfl,o,J,d,b,hz⟩:=hrel
    by_cases hpl:p<H.sp.length
    ·obtain⟨bs,os,P,kV,hP,S⟩:=yc (h.below o).sp.rd p hpl;have ha:=Bv (h.below o) hP;have gL:(p:Int)<(H.sp.length:Int):=by omega
     have kk:H.ma.sp[p]?=some P.sp:=by show(H.sp.map PS.sp)[p]?=_;rw[iH,hP];rfl
     have gr:(dY P.ar).1=0:=kA.out.ar P.sp (dB kk);have kn:eU P.tb=0:=kA.out.tb P.sp (dB kk);have hG:=ae kk;have gt:=ae hP;have l:=J.cell;unfold bS at l;rw[kV]at l;clear kk hP
     go_wp2_with (refine ay bs (os+p*10+2) _ (mW S 2 8) _ underlying74 tab_agg tab_size ?_)
     refine(wM P.tb (vo P.ts) _ ha.tb).mono ?_;rintro r w5 ⟨v5,rfl,kJ,s⟩;obtain⟨a5,c5,rfl,gZ,gY,_,gJ⟩:=kJ.rd;have gb:G<wr.heap.size/\F<wr.heap.size:=⟨aK.lt d,aK.lt b⟩;have hI:=ah o s;have bx5:=J.ext s;have hM:IB w5 G (lL H.m.fs.length (nG H.ma p (pz P.tb ((aV P.tb).take 0)))):=d.ext s;have hW:IB w5 F (lL H.sl.length (lh H.ma p (swapT P.tb ((aV P.tb).take 0)))):=b.ext s;have kr:=S.below s;have h9:=ha.below s;have kY:=ae gb;clear l o J d b S ha s gJ;have k2:=ae (Xb P.tb);have gK:=xG P.tb;go_upto_region 18 with(fail)
     go_loopw [65] (fun i wr' => ∃(j:Nat),j<=(aV P.tb).length/\i = .int .i64 j/\Below w.heap.size w wr'/\aK wr' w.heap.size (bS H) 45/\IB wr' G (lL H.m.fs.length (nG H.ma p (pz P.tb ((aV P.tb).take j))))/\IB wr' F (lL H.sl.length (lh H.ma p (swapT P.tb ((aV P.tb).take j))))/\Own wr' wr.heap.size 3 1 (.slice a5 (aV P.tb).length c5) (aV P.tb).length ((aV P.tb).map ib)/\eD wr' (some ⟨bs,os+p*10,none⟩) (xV P)/\P.good wr'/\Hid (∀i∈(aV P.tb).take j,dm H.ma P.sp i=0)) (fun i _=>(aV P.tb).length-(intOf i).toNat)
     case atStart=>exact⟨0,bN _,rfl,hI,bx5,hM,hW,kJ,kr,h9,ae λi M=>by simp at M⟩
     case round=>
      clear hI bx5 hM hW kJ kr h9;obtain⟨j,hj,rfl,o,J,d,b,ho,S,ha,h6⟩:=hrel;obtain⟨gg,g3⟩:=kY.out
      by_cases hjl:j<(aV P.tb).length
      ·have gO:(j:Int)<((aV P.tb).length:Int):=by omega
       obtain⟨_,_,e9,_,_,_,k1⟩:=ho.rd;cases e9;have kK:(aV P.tb)[j]?=some (aV P.tb)[j]:=aM hjl;have gM:=k2.out _ (fA hjl);have k7:(dR P.tb (aV P.tb)[j]).k≠0:=(lZ.1 (fA hjl)).2;obtain⟨bp,op,k3,gP⟩:=mO k1 j hjl;generalize hN:(aV P.tb)[j]=n at *
       have h7:Hid ((aV P.tb).take (j+1)=(aV P.tb).take j++[n]):=ae (take_at kK);have k8:=ae kK;have ks:=ae k3;have ku:=(dA).1 (yh kn n);rw[k3];clear kK hN k1
       go_wp2_with fail
       refine(PL H P n w.heap.size bs (os+p*10) _ J (h.below o) S ha gr kn gM).mono ?_;rintro r w6 ⟨rfl,X⟩;have q:=ah o X;have I:=J.ext X;have z:=aK.ext d X;have hc:=aK.ext b X;have k6:=ho.below X;have kc:=S.below X;have hl:=ha.below X;clear o J d b ho S ha X gP
       by_cases hE:dm H.ma P.sp n=0
       rotate_left
       ·have hq:Hid (jW H.ma=dm H.ma P.sp n):=ae (by have:=NS hG.out k8.out hz.out h6.out hE;rw[kG.out,this,if_pos hE]);generalize dm H.ma P.sp n=E at *
        go_wp2;go_ret;rw[hq.out];exact⟨rfl,q⟩
       have gc:=VO hE;have hO:Hid (∀i∈(aV P.tb).take (j+1),dm H.ma P.sp i=0):=ae λi M=>by
        rw[h7.out]at M;rcases ik.1 M with M|M
        ·exact h6.out i M
        ·rw[bF.1 M];exact hE
       rw[hE];clear h6 hE
       go_wp2_with (refine ay bs (os+p*10+2) _ (mW kc 2 8) _ underlying74 tab_agg tab_size ?_)
       refine(Bo P.tb (vo P.ts) n _ hl.tb).mono ?_;rintro r w7 ⟨rfl,hU⟩;have h4:((dR P.tb n).k=2->(dR P.tb n).n<H.sl.length)/\((dR P.tb n).k≠2->(dR P.tb n).n<H.m.fs.length):=gc;have k4:pz P.tb ((aV P.tb).take (j+1))=pz P.tb ((aV P.tb).take j)++(if(dR P.tb n).k=1 then[(dR P.tb n).n]else[]):=by rw[h7.out,TA]
       have k0:swapT P.tb ((aV P.tb).take (j+1))=swapT P.tb ((aV P.tb).take j)++(if(dR P.tb n).k=1 then[]else[(dR P.tb n).n]):=by rw[h7.out,Uk]
       have g8:=RZ H.ma p (pz P.tb ((aV P.tb).take j));have g1:=CJ P.tb ((aV P.tb).take j);have g7:=Om H.ma p (swapT P.tb ((aV P.tb).take j));have g0:=Jb P.tb ((aV P.tb).take j);have g6:((aV P.tb).take j).length<=64:=by rw[eG];omega
       have g5:H.ma.ca.length=H.ca.length:=rfl;have g4:H.ma.sp.length=H.sp.length:=qm H;generalize dR P.tb n=e at *
       generalize pz P.tb ((aV P.tb).take j)=L1 at *
       generalize swapT P.tb ((aV P.tb).take j)=L2 at *
       have kt:=ae k4;have ko:=ae k0;clear gc k4 k0;have hg:=ah q hU;have U:=I.ext hU;have hD:=aK.ext z hU;have hB:=aK.ext hc hU;have k5:=k6.below hU;have kq:=kc.below hU;have gm:=hl.below hU;clear q I z hc k6 kc hl hU
       go_wp2_with (refine aT (pq e) entry_size (by simp[pq,Value.oneCell']) ?_)
       intro w8 hT ex;have hH:=ah hg hT;have bx8:=U.ext hT;have hL:IB w8 G _:=aK.ext hD hT;have hJ:IB w8 F _:=aK.ext hB hT;have h8:=k5.below hT;have kp:=kq.below hT;have gl:=gm.below hT;clear hg U hD hB k5 kq gm hT;have hZ:=ex.cell;unfold pq at hZ
       by_cases R:e.k=1
       ·obtain⟨K,hK⟩:∃K:Nat,e.n=K:=⟨e.n.toNat,by omega⟩;have hy:K<H.m.fs.length:=by have:=h4.2 (by omega);omega
        have hr:=kt.out;have hm:=ko.out;rw[if_pos R,hK]at hr;rw[if_pos R,pU]at hm;rw[R,hK]at hZ;have kP:=hL.cell (pM H.m.fs.length (nG H.ma p L1) K hy);have kv:=Ry kx.out p L1 K;have ka:IntKind.i64.wrap ((cnt (nG H.ma p L1) K:Int)+1)=(cnt (nG H.ma p L1) K:Int)+1:=dz _ (by omega);have gu:(K:Int)<(H.m.fs.length:Int):=by omega
        have kd:=ae hr;have kb:=ae hm;clear hr hm h4 R k7 ku hK
        go_wp2_with (refine aY G K [.int .i64 ((cnt (nG H.ma p L1) K:Int)+1)] rfl rfl rfl _ _ hL (by simp[nP];omega) int_one (λu hu=>by cases bF.1 hu;rfl) ?_)
        intro w9 kg hs;rw[IB.set (by rw[nP];exact hy),FC _ _ _ hy,<-Og,<-kd.out]at kg;rw[<-kb.out]at hJ;have hQ:=hH.grown hs hH.size (λk hk=>by cases hk;exact kZ);have bx9:=bx8.grown hs (λe=>gq (aU e).symm);have gw:IB w9 F _:=aK.grown hJ hs (λe=>kL (aU e));have hY:Dk w9 H:=h.below hQ;obtain⟨bs',os',P',hV,h0,hX⟩:=yc hY.sp.rd p hpl;have kW:P' = P:=by have h2:H.ma.sp[p]?=some P.sp:=hG.out;rw[gt.out]at h0;exact(aU h0).symm
        subst kW;rw[kV] at hV;cases hV;have ke:=hY.ps P' (dB h0);have kI:=h8.grown hs (λg hv e=>by have:=h8.ge g hv;have e2:=aU e;omega);clear hH bx8 hJ hL hZ ex hs ka kP h8 kp gl hY;go_wp2;go_roundw
        case rel=>exact⟨j+1,by omega,by go_num,hQ,bx9,kg,gw,by rw[<-ks.out];exact kI,hX,ke,hO⟩
        case measure=>simp[intOf];omega
       obtain⟨K,hK⟩:∃K:Nat,e.n=K:=⟨e.n.toNat,by omega⟩;have kO:e.k=2:=by omega
       have hy:K<H.sl.length:=by have:=h4.1 kO;omega
       have hr:=kt.out;have hm:=ko.out;rw[if_neg R,pU]at hr;rw[if_neg R,hK]at hm;rw[kO,hK]at hZ;have kP:=hJ.cell (pM H.sl.length (lh H.ma p L2) K hy);have kv:=JR (lh H.ma p L2) K;have ka:IntKind.i64.wrap ((cnt (lh H.ma p L2) K:Int)+1)=(cnt (lh H.ma p L2) K:Int)+1:=dz _ (by omega);have gu:(K:Int)<(H.sl.length:Int):=by omega
       have kd:=ae hr;have kb:=ae hm;clear hr hm h4 R kO k7 ku hK
       go_wp2_with (refine aY F K [.int .i64 ((cnt (lh H.ma p L2) K:Int)+1)] rfl rfl rfl _ _ hJ (by simp[nP];omega) int_one (λu hu=>by cases bF.1 hu;rfl) ?_)
       intro w9 kg hs;rw[IB.set (by rw[nP];exact hy),FC _ _ _ hy,<-ME,<-kb.out]at kg;rw[<-kd.out]at hL;have hQ:=hH.grown hs hH.size (λk hk=>by cases hk;exact gF);have bx9:=bx8.grown hs (λe=>gR (aU e).symm);have gz:IB w9 G _:=aK.grown hL hs (λe=>kL (aU e).symm);have hY:Dk w9 H:=h.below hQ;obtain⟨bs',os',P',hV,h0,hX⟩:=yc hY.sp.rd p hpl;have kW:P' = P:=by have h2:H.ma.sp[p]?=some P.sp:=hG.out;rw[gt.out]at h0;exact(aU h0).symm
       subst kW;rw[kV] at hV;cases hV;have ke:=hY.ps P' (dB h0);have kI:=h8.grown hs (λg hv e=>by have:=h8.ge g hv;have e2:=aU e;omega);clear hH bx8 hJ hL hZ ex hs ka kP h8 kp gl hY;go_wp2;go_roundw
       case rel=>exact⟨j+1,by omega,by go_num,hQ,bx9,gz,kg,by rw[<-ks.out];exact kI,hX,ke,hO⟩
       case measure=>simp[intOf];omega
      have gO:¬(j:Int)<((aV P.tb).length:Int):=by omega
      rw[mE (by omega)]at d b h6;have gA:IB wr G (lL H.m.fs.length (nG H.ma (p+1) [])):=by rw[<-PI hG.out];exact d
      have gy:IB wr F (lL H.sl.length (lh H.ma (p+1) [])):=by rw[<-Np hG.out];exact b
      have hO:Hid (∀t∈H.ma.sp.take (p+1),∀i∈aV t.tb,dm H.ma t i=0):=ae λt ht i M=>by
       rw[take_at hG.out]at ht;rcases ik.1 ht with ht|ht
       ·exact hz.out t ht i M
       rw[bF.1 ht]at M ⊢;exact h6.out i M
      clear d b ho S ha hz h6;go_wp2;go_roundw
      case rel=>
       refine⟨_,_,_,_,_,_,.int .i64 ((p:Int)+1),⟨p+1,by omega,?_,gA,gy,hO⟩,rfl,rfl,rfl,rfl,rfl,rfl,rfl⟩;go_num
      case measure=>simp[intOf];omega
    have gL:¬(p:Int)<(H.sp.length:Int):=by omega
    have kl:p=H.ma.sp.length:=by rw[qm];omega
    rw[kl,Si]at d;rw[kl,OG]at b;rw[kl,zk]at hz;have h3:Hid (jW H.ma=if countB H.ma=true then 0 else 7):=ae (by rw[kG.out,if_neg (by rw[NB hz.out];simp)]);clear hz kG kl;have l:=J.cell;unfold bS at l;go_upto_region 30 with(fail);clear l
    go_loopw [104] (fun i wr => ∃(k:Nat),k<=H.m.fs.length/\i = .int .i64 k/\Below w.heap.size w wr/\aK wr w.heap.size (bS H) 45/\IB wr G (lL H.m.fs.length (uV H.ma))/\IB wr F (lL H.sl.length (rW H.ma))/\Hid (∀i,i<k->Iq H.ma i=true)) (fun i _=>H.m.fs.length-(intOf i).toNat)
    case atStart=>exact⟨0,bN _,rfl,o,J,d,b,ae λi M=>absurd M (ig _)⟩
    case round=>
     clear o J d b;obtain⟨k,hk,rfl,o,J,d,b,hO⟩:=hrel
     by_cases A:k<H.m.fs.length
     ·obtain⟨bg,og,gT,S⟩:=oU jo (h.below o).fr.rd k A;have kN:(k:Int)<(H.m.fs.length:Int):=by omega
      have kX:H.m.fs[k]=aF H.ma k:=by have:=vQ (m:=H.ma) (f:=k) A;have h2:H.m.fs[k]?=some (aF H.ma k):=this;rw[aM A]at h2;exact aU h2
      rw[kX]at S;have km:Hid (Iq H.ma k=(decide ((aF H.ma k).r=cnt (uV H.ma) k)&&(decide ((aF H.ma k).f<0)||H.ca.any (isK (k:Int))))):=ae rfl;generalize aF H.ma k=x at *
      rw[gT];clear kX;obtain⟨gi,gj⟩:∃g,g=wr.heap.size:=⟨_,rfl⟩;go_upto_region 31 with(fail);have gg:G<wr.heap.size/\F<wr.heap.size:=⟨aK.lt d,aK.lt b⟩;have gS:=J.lt;have kR:Below wr.heap.size wr ((wr.alloc (.cells #[.int .i64 0] 3)).alloc (.cells #[.int .u8 0,.int .u8 0,.int .u8 0,.int .u8 0,.int .u8 0,.int .u8 0,.int .u8 0,.int .u8 0,.int .i64 0,.bool false,.bool false,.int .i64 0,.int .i64 0] 66)):=((Below.refl _ _).alloc (aC _) _).alloc (by rw[show(wr.alloc (.cells #[.int .i64 0] 3)).heap.size=wr.heap.size+1 from BH _];omega) _;have e1:(wr.alloc (.cells #[.int .i64 0] 3)).heap.size=wr.heap.size+1:=BH _;have gC:aK ((wr.alloc (.cells #[.int .i64 0] 3)).alloc (.cells #[.int .u8 0,.int .u8 0,.int .u8 0,.int .u8 0,.int .u8 0,.int .u8 0,.int .u8 0,.int .u8 0,.int .i64 0,.bool false,.bool false,.int .i64 0,.int .i64 0] 66)) wr.heap.size #[.int .i64 0] 3:=(aK.new wr _ _).ext ((Below.refl _ _).alloc (aC _) _);have gB:aK ((wr.alloc (.cells #[.int .i64 0] 3)).alloc (.cells #[.int .u8 0,.int .u8 0,.int .u8 0,.int .u8 0,.int .u8 0,.int .u8 0,.int .u8 0,.int .u8 0,.int .i64 0,.bool false,.bool false,.int .i64 0,.int .i64 0] 66)) (wr.heap.size+1) #[.int .u8 0,.int .u8 0,.int .u8 0,.int .u8 0,.int .u8 0,.int .u8 0,.int .u8 0,.int .u8 0,.int .i64 0,.bool false,.bool false,.int .i64 0,.int .i64 0] 66:=by rw[<-e1];exact aK.new _ _ _
      go_wp2_with (first | (refine ay bg (og+k*13) _ S _ underlying66 rfl frame_size ?_) | (refine aY wr.heap.size 0 [.int .i64 (k:Int)] rfl rfl rfl _ _ gC (by show 0+1<=1;decide) int_one (λu hu=>by cases bF.1 hu;rfl) ?_))
      intro w5 s h9;have kz : aK w5 wr.heap.size #[.int .i64 (k:Int)] 3:=s;have gn:=gB.grown h9 (λe=>by have:=aU e;omega);have kf:=kR.grown h9 kR.size (λk hk=>by cases hk;exact aC _)
      go_wp2_with (refine fV _ _ (wr.heap.size+1) 0 (Ak x) _ _ gn (by show 0+13<=13;decide) frame_size (wV x) ?_)
      intro w6 X hl;have N:aK w6 (wr.heap.size+1) (Ak x) 66:=by have e2:=eT (#[.int .u8 0,.int .u8 0,.int .u8 0,.int .u8 0,.int .u8 0,.int .u8 0,.int .u8 0,.int .u8 0,.int .i64 0,.bool false,.bool false,.int .i64 0,.int .i64 0]) (Ak x) rfl;rw[<-e2];exact X
      have O:aK w6 wr.heap.size #[.int .i64 (k:Int)] 3:=kz.grown hl (λe=>by have:=aU e;omega);have hS:=kf.grown hl kf.size oG0;have q:=ah o hS;have I:=J.ext hS;have z:IB w6 G _:=aK.ext d hS;have hc:IB w6 F _:=aK.ext b hS;obtain⟨gx,gd⟩:∃g,g=wr.heap.size+1:=⟨_,rfl⟩;rw[<-gd]at N ⊢;rw[<-gj]at O ⊢;clear kR kf hS gC gB s kz gn h9 hl X S o J d b e1 gg gS gd gj;go_upto_region 32 with(fail)
      by_cases c1:x.r=cnt (uV H.ma) k
      ·by_cases c2:0<=x.f
       ·skip;refine aR 19 [_,_,_,_,_,_,_,_,_,_,_,_,_,_,.v (.func (.func 85) #[] #[.pointer (some ⟨gi,0,none⟩)]),.v (.bool (H.ca.any (isK (k:Int)))),_,_,.v (.bool (!(H.ca.any (isK (k:Int)))))] (Gf gx 8 rfl rfl (Gl N rfl rfl rfl rfl rfl (Gk rfl (Gl O (V:=.int .i64 (k:Int)) rfl rfl rfl rfl rfl (Gr (.pointer (some ⟨G,k,none⟩)) (λρ y W Y hF=>(Gg rfl (bi rfl hF) (bi rfl hF) A underlying33 int_one)) rfl rfl (Gc (.int .i64 (cnt (uV H.ma) k:Int)) (λW Y=>by simp[IB.cell (aK.ext z Y) (pM H.m.fs.length (uV H.ma) k A)]) rfl rfl rfl rfl (Gb (.bool false) (by simp[go_sem,c1]) rfl rfl rfl rfl rfl (Gk rfl (Gf gx 11 rfl rfl (Gl N rfl rfl rfl rfl rfl (Gb (.bool true) (by simp[go_sem,c2]) rfl rfl rfl rfl rfl (Gk rfl (Gf w.heap.size 9 rfl rfl (Gl I rfl rfl rfl rfl rfl (aj ?_ (aj ?_ (Gr (.bool (!(H.ca.any (isK (k:Int))))) (λρ y W Y hF=>Ez rfl (bi rfl hF)) rfl rfl (Gk rfl (Gk rfl (aH)))))))))))))))))))) (λ_=>rfl) rfl ?_
        ·intro ρ y W hw hn Y hd;have gX:ρ (.tmp 15) = .pointer (some ⟨gi,0,none⟩):=(hn (.tmp 15) rfl).trans rfl;refine ak (.func (.func 85) #[] #[.pointer (some ⟨gi,0,none⟩)]) (h:=(ic 11 120 true true ((hw 120 11 rfl).trans (hd 11 rfl)))) (by simp[execOp,go_sem,gX])
        ·intro ρ y W hw hn Y hd;have gE:=hw 122 13 rfl;have gW:y 13=_:=hd 13 rfl;have gD:=hw 123 14 rfl;have gV:y 14=_:=hd 14 rfl;have EF:=eF0 hn λ_=>trivial;refine aL (m:=(ic 11 120 true true ((hw 120 11 rfl).trans (hd 11 rfl)))) (aW rfl (EF _) func84 (by simp only[bU,bM,bP,gE,gW,gD,gV,EF];rfl)) ?_;refine(Ut H.ca _ _ W ((h.below q).below Y).ca.rd (by omega) gi k (O.ext Y)).mono ?_;rintro r w1 ⟨rfl,kh⟩;exact⟨_,rfl,kh,rfl⟩
        intro y W7 a _;have hg:=ah q a;have U:=I.ext a;have hD:=aK.ext z a;have hB:=aK.ext hc a;clear a q I z hc O N;cases hA:H.ca.any (isK (k:Int))with
        | true=>
         have hx:Hid (Iq H.ma k=true):=ae (by rw[km.out,decide_eq_true c1,hA];simp);clear c1 c2;have ki:Hid (∀i,i<k+1->Iq H.ma i=true):=ae λi M=>by
          by_cases e:i=k
          ·rw[e];exact hx.out
          ·exact hO.out i (by omega)
         go_wp2;go_roundw
         case rel=>exact⟨k+1,by omega,by go_num,hg,U,hD,hB,ki⟩
         case measure=>simp[intOf];omega
        | false=>
         have hx:Hid (Iq H.ma k=false):=ae (by rw[km.out,decide_eq_true c1,hA,decide_eq_false (by omega)];rfl);clear c1 c2;have hq:Hid (jW H.ma=7):=ae (by rw[h3.out,if_neg];intro l;exact absurd (Nk l k A) (by rw[hx.out];decide));go_wp2;go_ret;rw[hq.out];exact⟨rfl,hg⟩
       have hx:Hid (Iq H.ma k=true):=ae (by rw[km.out,decide_eq_true c1,decide_eq_true (by omega)];rfl);refine aR 19 [_,_,_,_,_,_,_,_,_,_,_,_,_,_,_,_,_,_,.v (.bool false)] (Gf gx 8 rfl rfl (Gl N rfl rfl rfl rfl rfl (Gk rfl (Gl O (V:=.int .i64 (k:Int)) rfl rfl rfl rfl rfl (Gr (.pointer (some ⟨G,k,none⟩)) (λρ y W Y hF=>(Gg rfl (bi rfl hF) (bi rfl hF) A underlying33 int_one)) rfl rfl (Gc (.int .i64 (cnt (uV H.ma) k:Int)) (λW Y=>by simp[IB.cell (aK.ext z Y) (pM H.m.fs.length (uV H.ma) k A)]) rfl rfl rfl rfl (Gb (.bool false) (by simp[go_sem,c1]) rfl rfl rfl rfl rfl (Gk rfl (Gf gx 11 rfl rfl (Gl N rfl rfl rfl rfl rfl (Gb (.bool false) (by simp[go_sem,c2]) rfl rfl rfl rfl rfl (Gk rfl (Gk rfl (Gk rfl (Gk rfl (Gk rfl (Gk rfl (Gk rfl (Gk rfl (aH)))))))))))))))))))) (λ_=>rfl) rfl ?_;intro y W7 a _;have hg:=ah q a;have U:=I.ext a;have hD:=aK.ext z a;have hB:=aK.ext hc a;clear a q I z hc O N;clear c1 c2;have ki:Hid (∀i,i<k+1->Iq H.ma i=true):=ae λi M=>by
        by_cases e:i=k
        ·rw[e];exact hx.out
        ·exact hO.out i (by omega)
       go_wp2;go_roundw
       case rel=>exact⟨k+1,by omega,by go_num,hg,U,hD,hB,ki⟩
       case measure=>simp[intOf];omega
      have hx:Hid (Iq H.ma k=false):=ae (by rw[km.out,decide_eq_false c1];rfl);refine aR 19 [_,_,_,_,_,_,_,_,_,_,_,_,_,_,_,_,_,_,.v (.bool true)] (Gf gx 8 rfl rfl (Gl N rfl rfl rfl rfl rfl (Gk rfl (Gl O (V:=.int .i64 (k:Int)) rfl rfl rfl rfl rfl (Gr (.pointer (some ⟨G,k,none⟩)) (λρ y W Y hF=>(Gg rfl (bi rfl hF) (bi rfl hF) A underlying33 int_one)) rfl rfl (Gc (.int .i64 (cnt (uV H.ma) k:Int)) (λW Y=>by simp[IB.cell (aK.ext z Y) (pM H.m.fs.length (uV H.ma) k A)]) rfl rfl rfl rfl (Gb (.bool true) (by simp[go_sem,c1]) rfl rfl rfl rfl rfl (Gk rfl (Gk rfl (Gk rfl (Gk rfl (Gk rfl (Gk rfl (Gk rfl (Gk rfl (Gk rfl (Gk rfl (Gk rfl (Gk rfl (aH)))))))))))))))))))) (λ_=>rfl) rfl ?_;intro y W7 a _;have hg:=ah q a;have U:=I.ext a;have hD:=aK.ext z a;have hB:=aK.ext hc a;clear a q I z hc O N;clear c1;have hq:Hid (jW H.ma=7):=ae (by rw[h3.out,if_neg];intro l;exact absurd (Nk l k A) (by rw[hx.out];decide));go_wp2;go_ret;rw[hq.out];exact⟨rfl,hg⟩
     have kN:¬(k:Int)<(H.m.fs.length:Int):=by omega
     have gI:=(h.below o).sl;have gv:eD wr (some ⟨F,0,none⟩) ((lL H.sl.length (rW H.ma)).map ib):=λi u M=>⟨F,0,rfl,by rw[dL,aK.cell b];simpa using M⟩;have l:=J.cell;unfold bS at l;have kM:=ae (nP H.sl.length (rW H.ma));have hq:Hid (jW H.ma=if H.sl=lL H.sl.length (rW H.ma)then 0 else 7):=ae (by
      rw[h3.out,NL,dG.2 (λi M=>hO.out i (by have:=dx.1 M;have e:H.ma.m.fs.length=H.m.fs.length:=rfl;omega)),mg];show(if decide (H.sl=lL H.sl.length (rW H.ma))=true then(0:Int)else 7)=_
      by_cases e:H.sl=lL H.sl.length (rW H.ma)
      ·rw[if_pos e,if_pos (decide_eq_true e)]
      ·rw[if_neg e,if_neg (by simp[e])])
     have gG:=n2;generalize hC:lL H.sl.length (rW H.ma)=C at *
     clear hO h3 hC
     go_wp2_with fail
     rw[show(Value.slice (some ⟨F,0,none⟩) H.sl.length H.sl.length) = .slice (some ⟨F,0,none⟩) C.length H.sl.length from by rw[kM.out]];refine(Nh H.sl C H.asl (some ⟨F,0,none⟩) H.csl H.sl.length _ gI.rd gv (by omega) (by rw[kM.out];omega)).mono ?_;rintro r w5 ⟨rfl,s⟩
     by_cases e:H.sl=C
     ·rw[show(H.sl==C)=true from by rw[beq_iff_eq];exact e];have kH:Hid (jW H.ma=0):=ae (by rw[hq.out,if_pos e]);clear e l;go_wp2;go_ret;rw[kH.out];exact⟨rfl,ah o s⟩
     rw[show(H.sl==C)=false from by rw[beq_eq_false_iff_ne];exact e];have kH:Hid (jW H.ma=7):=ae (by rw[hq.out,if_neg e]);clear e l;go_wp2;go_ret;rw[kH.out];exact⟨rfl,ah o s⟩
end Go.Proofs.YthihaopabbpalaaGreat
namespace Pw
open Go Go.RowKit
variable {P:Program} {Q:Exit -> Act -> World -> Prop} {a0:Act} {i id:Nat} {o:Oper} {ops:Array Oper} {v:Value} {w w0:World}
theorem wp_mono'{a:Act}{K K' : Act->World->Prop}(h:∀v D w,K (Act.put { a with defers:=D } o.dst v) w->K' (Act.put { a with defers:=D } o.dst v) w)
 (d:o.wp P a w K Q):o.wp P a w K' Q:=by
 unfold Oper.wp at *
 generalize (execOp a.eval o).run P w=r at *
 cases r with
 | ok n w'=>
  cases n<;>simp only[Oper.upon]at d ⊢ <;>
   first
    | exact h _ a.defers _ d
    | exact h _ _ _ d
    | exact zg d (λe y u=>by cases e<;>first | exact h _ a.defers _ u | exact u)
    | exact Rows.mono d (λ_ _ u=>h _ a.defers _ u)
 | halt x w'=>cases x<;>simp only[Oper.upon]at d ⊢<;>exact d
def DK(v:Value)(o:Oper):Oper:={ o with op:=.move (.const v) }
def freed(ops:Array Oper)(p:Nat)(v:Value):Array Oper:=ops.modify p (DK v)
theorem CB(ops:Array Oper)(p:Nat)(v:Value)(i:Nat):(freed ops p v)[i]?=if p=i then(ops[i]?).map (DK v)else ops[i]?:=by
 unfold freed;rw[Array.getElem?_modify]
theorem GX(ops:Array Oper)(p:Nat)(v:Value):(freed ops p v).size=ops.size:=by unfold freed;simp
theorem Dx(ops:Array Oper)(p:Nat)(v:Value)(d:Array Bool):Region.ready .any (freed ops p v) d=Region.ready .any ops d:=by
 unfold Region.ready;rw[GX];apply List.filter_congr;intro i _;congr 1;rw[CB]
 by_cases e:p=i
 ·rw[if_pos e];cases ops[i]?<;>rfl
 ·rw[if_neg e]
theorem Im(ops:Array Oper)(p:Nat)(v:Value)(ts:Array Value):yielded (freed ops p v) ts=yielded ops ts:=by
 funext g;unfold yielded;rw[CB]
 by_cases e:p=g
 ·rw[if_pos e];cases ops[g]?<;>rfl
 ·rw[if_neg e]
def OW(ops:Array Oper)(p d:Nat):Bool:=
 (match ops[p]? with
  | some o=>(match o.op with
   | .move (.tmp t)=>decide (t=d)&&o.guard.isNone&&decide (o.dst≠some d)
   | _=>false)
  | none=>false) &&
 (List.range ops.size).all λi=>match ops[i]? with
  | none=>true
  | some o=>decide (o.dst≠some d)||o.after.toList.any λe=>decide (e.on=p)&&Region.binds .any e
theorem LZ{a:Act}{D:List Deferred}{u:Option Tmp}{d:Nat}(h:u≠some d):(Act.put { a with defers:=D } u v).eval (.tmp d)=a.eval (.tmp d):=by
 cases u with
 | none=>rfl
 | some t=>
  have y:t≠d:=λe=>h (by rw[e]);simp[Act.put,Act.eval,BF,y]
theorem Ps{d:Array Bool}(A:i∈Region.ready .any ops d)(y:ops[i]?=some o):d.getD i false=false/\∀e∈o.after,Region.binds .any e=true->d.getD e.on false=true:=by
 obtain⟨u,F,a,C⟩:=mem_ready.1 A;rw[y]at a;cases a;refine⟨?_,C⟩;rw[bG]at u ⊢;cases h:d[i]? with
 | none=>rfl
 | some b=>rw[h]at u;exact u
theorem BI{P:Program}{ops:Array Oper}{Q:Exit->Act->World->Prop}{p d:Nat}{v:Value}(G:OW ops p d=true):∀(y:Nat) (u:Array Bool) (a:Act) (w:World),(u.getD p false=false->a.eval (.tmp d)=v)->wpAny P .any (freed ops p v) Q y u a w->wpAny P .any ops Q y u a w
 | 0,u,a,w,hI,h=>by unfold wpAny at h ⊢;rw[Dx]at h;exact h
 | y+1,u,a,w,hI,h=>by
  unfold wpAny at h ⊢;rw[Dx]at h;refine⟨h.1,λi hi => ?_⟩;have C:=h.2 i hi;have L:(u.setIfInBounds i true).getD p false=false->u.getD p false=false:=λJ=>by
   cases hl:u.getD p false with
   | false=>rfl
   | true=>
    exfalso
    by_cases hs:i<u.size
    ·rw[yR hs p hl]at J; cases J
    have e:u.setIfInBounds i true=u:=by rw[Array.setIfInBounds_eq_of_size_le (by omega)]
    rw[e,hl]at J; cases J
  have M:=G;unfold OW at M;rw[dJ]at M;obtain⟨K,V⟩:=M;unfold wpOp at C ⊢;rw[CB,Im]at C;cases ho:ops[i]? with
  | none=>
   rw[ho]at C;have Y : wpAny P .any (freed ops p v) Q y (u.setIfInBounds i true) a w:=by
    by_cases e:p=i
    ·rw[if_pos e]at C;exact C
    ·rw[if_neg e]at C;exact C
   exact BI G y _ a w (λJ=>hI (L J)) Y
  | some o=>
   rw[ho]at C;have O:i<ops.size:=(iB.1 ho).1;have I:=Ps hi ho
   by_cases e:p=i
   ·subst e;rw[if_pos rfl]at C;simp only[xu]at C;rw[ho]at K;simp only at K;cases hop:o.op with
    | move x=>
     rw[hop]at K;cases x with
     | tmp t=>
      simp only[dJ,decide_eq_true_eq]at K;obtain⟨⟨rfl,hg⟩,U⟩:=K;have S:a.eval (.tmp t)=v:=hI I.1;have R:execOp a.eval (DK v o)=execOp a.eval o:=by unfold execOp DK;simp only[hop];rw[S];rfl
      have F:∀(v' : Value) (D:List Deferred) (w:World),wpAny P .any (freed ops p v) Q y (u.setIfInBounds p true) (Act.put { a with defers:=D } o.dst v') w->wpAny P .any ops Q y (u.setIfInBounds p true) (Act.put { a with defers:=D } o.dst v') w:=
       λv' D w Z=>BI G y _ _ w (λ_=>by rw[LZ U];exact S) Z
      simp only;have X:Region.wanted (DK v o) (yielded ops a.tmps)=Region.wanted o (yielded ops a.tmps):=rfl;rw[X]at C;split
      ·rename_i A;rw[if_pos A]at C;rcases C with C|C
       ·refine .inl (wp_mono' F ?_);unfold Oper.wp at C ⊢;rw[<-R];exact C
       refine .inr ⟨?_,C.2⟩;have:=C.1;unfold Oper.asks at this ⊢;rw[<-R];exact this
      rename_i A;rw[if_neg A]at C;exact F undef a.defers w C
     | _=>cases K
    | _=>rw[hop]at K;cases K
   rw[if_neg e]at C;simp only at C ⊢;have N:=dG.1 V i (dx.2 O);rw[ho]at N;simp only[uN,decide_eq_true_eq]at N;have F:∀(v' : Value) (D:List Deferred) (w:World),wpAny P .any (freed ops p v) Q y (u.setIfInBounds i true) (Act.put { a with defers:=D } o.dst v') w->wpAny P .any ops Q y (u.setIfInBounds i true) (Act.put { a with defers:=D } o.dst v') w:=by
    intro v' D w Z;refine BI G y _ _ w (λJ => ?_) Z;rcases N with W|W
    ·rw[LZ W];exact hI (L J)
    rw[kW]at W;obtain⟨e',he',h3⟩:=W;rw[dJ,decide_eq_true_eq]at h3;have:=I.2 e' (nM.1 he') h3.2;rw[h3.1]at this;rw[L J]at this;cases this
   split
   ·rename_i A;rw[if_pos A]at C;exact C.imp (wp_mono' F) id
   rename_i A;rw[if_neg A]at C;exact F undef a.defers w C
def freedL:List Oper->Nat->Value->List Oper
 | [],_,_=>[]
 | o::r,0,v=>DK v o::r
 | o::r,k+1,v=>o::freedL r k v
theorem FJ(v:Value):∀(l:List Oper) (p:Nat),l.modify p (DK v)=freedL l p v
 | [],p=>by cases p<;>rfl
 | o::r,0=>rfl
 | o::r,k+1=>by rw[List.modify_succ_cons,FJ v r k];rfl
theorem Tp(l:List Oper)(p:Nat)(v:Value):freed ⟨l⟩ p v=⟨freedL l p v⟩:=by
 unfold freed;rw[<-FJ];simp
theorem Yh{l:List Oper}(p d:Nat)(u:Value)(A:P.follows .mixedOrders=true)(C:OW ⟨l⟩ p d=true)(y:a0.eval (.tmp d)=u)
 (h:∀ops:Array Oper,ops=(freedL l p u).toArray->wpAny P .any ops Q ops.size (Array.replicate ops.size false) a0 { w0 with drawn:=w0.drawn+1 }) :
  (Code.region id ⟨l⟩ true).wp P Q a0 w0:=by
 have h:=h _ rfl;rw[show(freedL l p u).toArray=freed ⟨l⟩ p u from(Tp l p u).symm,GX]at h;exact wp_region_any A (BI C _ _ _ _ (λ_=>y) h)
end Pw
namespace Go.Proofs.YthihaopabbpalaaGreat
open _root_.Go.Proofs.Tryz
open Go.RowKit Go.Maps Pw
variable {B B' b c ct f sz:Nat} {H:MH} {T:TypeId} {a:Option Addr} {cs:Array Value} {fs:List Fi} {m:Ma} {ps:List PF} {v:Value} {w w':World} {xs ys:List Value}
theorem KH(l:List Cc)(a:Option Addr)(c:Nat)(w:World)(C:l.length<=c)(y:a=none->c=0)(A:eD w a (l.flatMap kM))(J:l.length*24<=140737488355328) :
  Calls Tryz.prog 61 #[.slice a l.length c] w λe w' => ∃v,e = .returned v/\Own w' w.heap.size 122 3 v l.length (l.flatMap kM)/\Below w.heap.size w w':=by
 cases a with
 | none=>
  have K:=y rfl;have G:l=[]:=kV (by omega);subst G;subst K;have F:=λW=>nN (P:=Tryz.prog) W 42 _ none 0 0 0 0 underlying42;go_enter func61,ntmps61;go_wp2;go_ret;exact⟨_,rfl,by simpa using Own.nil _ _ _ _,Below.refl _ _⟩
 | some ad=>
  have F:=λW=>nN (P:=Tryz.prog) W 42 _ (some ad) l.length c 0 0 underlying42;go_enter func61,ntmps61
  go_wp2_with (at_builtin;go_must (refine fJ 42 rfl w.heap.size 122 (.agg #[.int .i64 0,.int .i64 0,.int .i64 0]) 3 24 underlying42 cached_info 0 [] rfl ?own (some ad) l.length c (l.flatMap kM) rfl (λh=>(by cases h)) C (kQ l) ?rd (BU l) (by unfold maxLen;omega) (by simpa using J) ?bb ?k))
  case own=>exact⟨rfl,.inr ⟨w.heap.size,0,0,#[],rfl,aC _,aK.new _ _ _,aC _,bN _,by simp,λj u h=>by simp at h⟩⟩
  case rd=>exact A.below ((Below.refl _ _).alloc (aC _) _)
  case bb=>exact fe
  intro v L b d;go_wp2;go_ret;exact⟨v,rfl,by simpa using b,((Below.refl _ _).alloc (aC _) _).grown d (fe) (λk I=>by cases I;exact aC _)⟩
theorem PK.fsz(h:PK H.ma):ZT H.fi:=by
 have u:(H.fi.map PF.fi).length<=1000:=h.st.1;rw[fE]at u;refine⟨by omega,λp d => ?_⟩;have:=h.st.2 p.fi (fD.2 ⟨p,d,rfl⟩);have e:p.fi.b.length=p.l.length:=rfl;omega
theorem PK.spz(h:PK H.ma){p:PS}(d:p∈H.sp):p.ar.length<=1000/\CU p.tb:=by
 obtain⟨A,y⟩:=h.sp.2 p.sp (fD.2 ⟨p,d,rfl⟩);exact⟨A,λk u=>by have:=y k u;have e:p.sp.tb[k].length=p.tb[k].length:=rfl;omega⟩
def wW(w:World)(B:Nat)(p:PS)(s:Sp):Prop:=p.sp=s/\Own w B 94 7 (.slice p.aa p.ar.length p.ac) p.ar.length (p.ar.flatMap fZ)/\xE w B (vo p.ts) p.tb
theorem wW.below{p:PS}{s:Sp}(h:wW w B p s)(d:Below w.heap.size w w'):wW w' B p s:=⟨h.1,h.2.1.below d,h.2.2.below d⟩
def ZH(B:Nat)(s:Sp):oW:=⟨λv w => ∃p,v = .agg (CK p)/\wW w B p s,λ_ _ _ hb ⟨p,h1,h2⟩=>⟨p,h1,h2.below hb⟩⟩
def aaQ(B:Nat)(s:Sp):oW:=⟨λv w => ∃g p,v = .slice (some ⟨g,0,none⟩) 1 1/\eD w (some ⟨g,0,none⟩) (xV p)/\wW w B p s,λ_ _ _ hb ⟨g,p,h1,h2,h3⟩=>⟨g,p,h1,h2.below hb,h3.below hb⟩⟩
theorem VC{p:PS}{s:Sp}(h:wW w B p s):∀u∈xV p,u.oneCell' = true:=by
 have y:=h.2.2.rd.one;rw[<-iX,dG]at y;intro u d;simp only[xV,CK,fq,kZ,or_false]at d;simp only[vo,fq,kZ,or_false]at y;rcases d with rfl|rfl|d
 ·rfl
 ·rfl
 ·exact y u d
theorem caO_size:(Tryz.prog.info? 42).map (·.size)=some 1:=by kernel_rfl
theorem Kb{n:Nat}(h:Own w B 76 10 (.slice a n c) n xs)(d:w.grownBy w' (Value.slice a n c).ownBlock) :
  w.grownBy w' none\/∃g cs,aK w g cs 76/\B<=g/\w.grownBy w' (some g):=by
 cases hr:(Value.slice a n c).ownBlock with
 | none=>rw[hr]at d;exact .inl d
 | some g=>
  rw[hr]at d;obtain⟨cs,u⟩:=sS h g hr;exact .inr ⟨g,cs,u,h.ge g hr,d⟩
theorem lg{n m:Nat}(u:Own w B 76 10 (.slice a n c) n xs)(y:w.grownBy w' (Value.slice a n c).ownBlock)(h:Own w B' T sz v m ys)(C:T≠76:=by decide):Own w' B' T sz v m ys:=by
 rcases Kb u y with d|⟨g,cs,A,_,d⟩
 ·exact iM h d
 ·exact aA h A (p:=(λe=>C e.symm)) d
theorem AL{n:Nat}(u:Own w B 76 10 (.slice a n c) n xs)(y:w.grownBy w' (Value.slice a n c).ownBlock)(h:aK w b cs T)(C:T≠76:=by decide):aK w' b cs T:=by
 rcases Kb u y with d|⟨g,F,A,_,d⟩
 ·exact h.grown d (λe=>by cases e)
 ·exact h.grown d (λe=>uX h A C (aU e).symm)
theorem XY{n:Nat}(d:Own w B 76 10 (.slice a n c) n xs)(u:w.grownBy w' (Value.slice a n c).ownBlock)(h:mo w B' v ps):mo w' B' v ps:=
 ⟨lg d u h.own,λi p y=>lg d u (h.each i p y),h.apart⟩
theorem Kr{n:Nat}{t:Tb}(d:Own w B 76 10 (.slice a n c) n xs)(y:w.grownBy w' (Value.slice a n c).ownBlock)(h:xE w B' cs t):xE w' B' cs t:=
 ⟨h.sz,λk u=>by obtain⟨v,C,A⟩:=h.own k u;exact⟨v,C,lg d y A⟩,h.apart⟩
theorem mach_size:(Tryz.prog.info? 45).map (·.size)=some 11:=by kernel_rfl
theorem slsp_size:(Tryz.prog.info? 43).map (·.size)=some 1:=by kernel_rfl
def jF(f s b:Int):Ma:=if(0<=f/\f<=40)/\(0<=s/\s<=60)/\(0<=b/\b<=80)then⟨yu f,GJ s,wU s,wU b,⟨[],b⟩,[],[⟨true,[],zTb⟩]⟩else zMa
def wL(f s b:Int):Int:=if(0<=f/\f<=40)/\(0<=s/\s<=60)/\(0<=b/\b<=80)then 0 else 4
def noH:MH:=⟨none,0,noM,none,0,[],none,0,none,0,⟨[],[]⟩,none,0,none,0,⟨[],[]⟩,none,0,[],0,none,0,[],none,0,[]⟩
theorem noH_ma:noH.ma=zMa:=rfl
theorem vL(w:World)(B:Nat):qp w B noH:=
 ⟨Own.nil _ _ _ _,Own.nil _ _ _ _,kz.nil _ _,kz.nil _ _,⟨Own.nil _ _ _ _,λi p d=>by simp[noH]at d,λi j p q _ d=>by simp[noH]at d⟩,Own.nil _ _ _ _,Own.nil _ _ _ _,λp d=>by simp[noH]at d,by decide⟩
def nTs:Vector Value 8:=⟨#[.slice none 0 0,.slice none 0 0,.slice none 0 0,.slice none 0 0,.slice none 0 0,.slice none 0 0,.slice none 0 0,.slice none 0 0],rfl⟩
def newP:PS:=⟨true,none,0,[],nTs,zTb⟩
theorem Ws(w:World)(B:Nat)(d:B<=w.heap.size):Own (w.alloc (.cells (CK newP) 76)) B 76 10 (.slice (some ⟨w.heap.size,0,none⟩) 1 1) 1 ([newP].flatMap xV):=
 ⟨rfl,.inr ⟨w.heap.size,0,1,CK newP,rfl,d,aK.new _ _ _,aC _,by decide,by decide,λj u h=>by rw[dL,<-qz];rw[show[newP].flatMap xV=(CK newP).toList from by rw[pF,List.flatMap_nil,pU];rfl]at h;exact h⟩⟩
theorem Nr(f s b:Int)(w:World)(hb64 : -9223372036854775808<=b/\b<=9223372036854775807) :
  Calls Tryz.prog 30 #[.agg #[.int .i64 f,.int .i64 s,.int .i64 b]] w λr w' => ∃H' : MH,r = .returned (.tuple #[.agg (bS H'),.int .i64 (wL f s b)])/\qp w' w.heap.size H'/\H'.ma=jF f s b/\Below w.heap.size w w':=by
 go_enter func30,ntmps30;have bx0:=aK.new w #[.int .i64 f,.int .i64 s,.int .i64 b] 51;have h1:Below w.heap.size w (w.alloc (.cells #[.int .i64 f,.int .i64 s,.int .i64 b] 51)):=(Below.refl _ _).alloc (aC _) _;have h2:Below (w.alloc (.cells #[.int .i64 f,.int .i64 s,.int .i64 b] 51)).heap.size (w.alloc (.cells #[.int .i64 f,.int .i64 s,.int .i64 b] 51)) ((w.alloc (.cells #[.int .i64 f,.int .i64 s,.int .i64 b] 51)).alloc (.cells (bS noH) 45)):=(Below.refl _ _).alloc (aC _) _;have hy:=ah h1 h2;have S:=bx0.ext h2;have J:=aK.new (w.alloc (.cells #[.int .i64 f,.int .i64 s,.int .i64 b] 51)) (bS noH) 45;rw[show(w.alloc (.cells #[.int .i64 f,.int .i64 s,.int .i64 b] 51)).heap.size=w.heap.size+1 from BH _]at J;clear h1 h2
 go_wp2_with fail
 refine(Wt f _).mono ?_;rintro r w1 ⟨v1,rfl,hB,hn⟩;have S:=S.ext hn;have J:=J.ext hn;have hr:=ah hy hn;have c:=aK.new w1 #[.slice none 0 0,.int .i64 0] 32;have a:Below w1.heap.size w1 (w1.alloc (.cells #[.slice none 0 0,.int .i64 0] 32)):=(Below.refl _ _).alloc (aC _) _;have bx2:=S.ext a;have rx2:=J.ext a;have hm:=ah hr a;have C:=(hB.below a);obtain⟨a1,c1,rfl,_⟩:=C.rd;have hQ:=J.lt;have hC:=hy.size;clear hy hn a hB hr S
 go_wp2_with (refine ax _ _ w1.heap.size #[.slice a1 (yu f).fs.length c1,.int .i64 0] c mem_size (G:=gL _ _ _ _) ?_)
 intro w2 mb2 hh;have bx3:=bx2.grown hh (λe=>by have:=aU e;omega);have rx3:=rx2.grown hh (λe=>by have:=aU e;omega);have hg:=hm.grown hh hm.size oG0;have F:=aA C c hh;have hw:w2.cell? ⟨w.heap.size,1,none⟩=some (.int .i64 s):=by rw[bx3.cell];rfl
 clear bx2 rx2 hm c C hh
 by_cases hf:0<=f/\f<=40
 ·have e1:Qw f=0:=if_pos hf;rw[e1]
  go_wp2_with fail
  refine(RO s _).mono ?_;rintro r w3 ⟨v3,rfl,hv,hb⟩;have bx4:=bx3.ext hb;have rx4:=rx3.ext hb;have mb4:=mb2.ext hb;have C:=F.below hb;have hO:=hb.size;have hP:=mb2.lt;have hd:=ah hg hb;obtain⟨a3,c3,rfl,_⟩:=hv.rd;clear bx3 rx3 mb2 F hb hg hw
  by_cases hs:0<=s/\s<=60
  ·have e2:Lf s=0:=if_pos hs;rw[e2];have hw:w3.cell? ⟨w.heap.size,1,none⟩=some (.int .i64 s):=by rw[bx4.cell];rfl
   go_wp2_with fail
   refine(LC s _).mono ?_;rintro r w4 ⟨vb,vq,rfl,hu,u⟩;have a:Below w4.heap.size w4 (w4.alloc (.cells #[.slice none 0 0,.slice none 0 0] 38)):=(Below.refl _ _).alloc (aC _) _;have c:=aK.new w4 #[.slice none 0 0,.slice none 0 0] 38;have hN:=u.size;have bx5:=(bx4.ext u).ext a;have rx5:=(rx4.ext u).ext a;have mb5:=(mb4.ext u).ext a;have F:=(C.below u).below a;have K:=(hv.below u).below a;have G:kz _ _ _ _ _:=⟨hu.b.below a,hu.q.below a⟩;have hl:=ah (ah hd u) a;obtain⟨ab,cb,rfl,_⟩:=G.b.rd;obtain⟨aq,cq,rfl,_⟩:=G.q.rd;have hI:=(mb4.ext u).lt;clear bx4 rx4 mb4 C hv hu u a hd hw
   go_wp2_with (refine ax _ _ w4.heap.size #[.slice ab (wU s).blocks.length cb,.slice aq (wU s).queue.length cq] c disk_size (G:=(ow)) ?_)
   intro w5 O y;have bx6:=bx5.grown y (λe=>by have:=aU e;omega);have rx6:=rx5.grown y (λe=>by have:=aU e;omega);have mb6:=mb5.grown y (λe=>by have:=aU e;omega);have hq:=hl.grown y hl.size oG0;have C:=aA F c y;have V:=aA K c y;have L:=G.keep c (by decide) (by decide) y;have hx:w5.cell? ⟨w.heap.size,2,none⟩=some (.int .i64 b):=by rw[bx6.cell];rfl
   clear bx5 rx5 mb5 F K G y c hl
   go_wp2_with fail
   refine(LC b _).mono ?_;rintro r w6 ⟨vb,vq,rfl,ht,l⟩;have a:Below w6.heap.size w6 (w6.alloc (.cells #[.slice none 0 0,.slice none 0 0] 38)):=(Below.refl _ _).alloc (aC _) _;have c:=aK.new w6 #[.slice none 0 0,.slice none 0 0] 38;have hL:=l.size;have hH:=O.lt;have hG:=(O.ext l).lt;have bx7:=(bx6.ext l).ext a;have rx7:=(rx6.ext l).ext a;have mb7:=(mb6.ext l).ext a;have sb7:=(O.ext l).ext a;have F:=(C.below l).below a;have K:=(V.below l).below a;have G:kz _ _ _ _ _:=⟨(L.b.below l).below a,(L.q.below l).below a⟩;have N:kz _ _ _ _ _:=⟨ht.b.below a,ht.q.below a⟩;have hj:=ah (ah hq l) a;obtain⟨db,dcb,rfl,_⟩:=N.b.rd;obtain⟨dq,dcq,rfl,_⟩:=N.q.rd;clear bx6 rx6 mb6 O C V L ht l a hq hx
   go_wp2_with (refine ax _ _ w6.heap.size #[.slice db (wU b).blocks.length dcb,.slice dq (wU b).queue.length dcq] c disk_size (G:=(ow)) ?_)
   intro w7 R o;have bx8:=bx7.grown o (λe=>by have:=aU e;omega);have Z:=rx7.grown o (λe=>by have:=aU e;omega);have mb8:=mb7.grown o (λe=>by have:=aU e;omega);have sb8:=sb7.grown o (λe=>by have:=aU e;omega);have hc:=hj.grown o hj.size oG0;have C:=aA F c o;have V:=aA K c o;have L:=G.keep c (by decide) (by decide) o;have p6:=N.keep c (by decide) (by decide) o;have hx:w7.cell? ⟨w.heap.size,2,none⟩=some (.int .i64 b):=by rw[bx8.cell];rfl
   clear bx7 rx7 mb7 sb7 F K G N o c hj
   by_cases hk:0<=b/\b<=80
   ·have e3:QQ b=0:=if_pos hk;rw[e3]
    go_wp2_with fail
    refine(WP b _).mono ?_;rintro r w8 ⟨rfl,d⟩;have e4:Yz b=b:=if_neg (by omega);have e5:Yn b=0:=if_neg (by omega);rw[e4,e5];have a:Below w8.heap.size w8 (w8.alloc (.cells #[.slice none 0 0,.int .i64 0] 41)):=(Below.refl _ _).alloc (aC _) _;have c:=aK.new w8 #[.slice none 0 0,.int .i64 0] 41;have hK:=d.size;have hF:=R.lt;have hE:=(R.ext d).lt;have rx9:=(Z.ext d).ext a;have mb9:=(mb8.ext d).ext a;have sb9:=(sb8.ext d).ext a;have db9:=(R.ext d).ext a;have F:=(C.below d).below a;have K:=(V.below d).below a;have G:kz _ _ _ _ _:=⟨(L.b.below d).below a,(L.q.below d).below a⟩;have N:kz _ _ _ _ _:=⟨(p6.b.below d).below a,(p6.q.below d).below a⟩;have hi:=ah (ah hc d) a;clear bx8 Z mb8 sb8 R C V L p6 d a hc hx
    go_wp2_with (refine ax _ _ w8.heap.size #[.slice none 0 0,.int .i64 b] c store_size (G:=gL _ _ _ _) ?_)
    intro w9 Y n;have I:=rx9.grown n (λe=>by have:=aU e;omega);have W:=mb9.grown n (λe=>by have:=aU e;omega);have U:=sb9.grown n (λe=>by have:=aU e;omega);have X:=db9.grown n (λe=>by have:=aU e;omega);have ha:=hi.grown n hi.size oG0;have C:=aA F c n;have V:=aA K c n;have L:=G.keep c (by decide) (by decide) n;have p6:=N.keep c (by decide) (by decide) n;clear rx9 mb9 sb9 db9 F K G N n c hi;obtain⟨M,hM⟩:∃M:MH,Hid (M=⟨a1,c1,⟨(yu f).fs,0⟩,a3,c3,GJ s,ab,cb,aq,cq,wU s,db,dcb,dq,dcq,wU b,none,0,[],b,none,0,[],some ⟨w9.heap.size,0,none⟩,1,[newP]⟩):=⟨_,ae rfl⟩;have t:Below w9.heap.size w9 (w9.alloc (.cells (CK newP) 76)):=(Below.refl _ _).alloc (aC _) _;have A:=I.ext t;have F:=C.below t;have K:=V.below t;have G:kz _ _ _ _ _:=⟨L.b.below t,L.q.below t⟩;have N:kz _ _ _ _ _:=⟨p6.b.below t,p6.q.below t⟩;have q7:=Ws w9 w.heap.size ha.size;have z:=ah ha t;have hD:=Y.lt;have hJ:=I.lt;clear C V L p6 t
    go_wp2_with (first | (refine ay w1.heap.size 0 _ W.rd _ underlying32 rfl mem_size ?_) | (refine ay w4.heap.size 0 _ U.rd _ underlying38 rfl disk_size ?_) | (refine ay w6.heap.size 0 _ X.rd _ underlying38 rfl disk_size ?_) | (refine ay w8.heap.size 0 _ Y.rd _ underlying41 rfl store_size ?_) | (refine ax _ _ (w.heap.size+1) #[.slice a1 (yu f).fs.length c1,.int .i64 0,.slice a3 (GJ s).length c3,.slice ab (wU s).blocks.length cb,.slice aq (wU s).queue.length cq,.slice db (wU b).blocks.length dcb,.slice dq (wU b).queue.length dcq,.slice none 0 0,.int .i64 b,.slice none 0 0,.slice (some ⟨w9.heap.size,0,none⟩) 1 1] A mach_size (G:=(by simp[Value.oneCell'])) ?_))
    intro we x g;have hz : aK we (w.heap.size+1) (bS M) 45:=by rw[hM.out];exact x
    have m:=z.grown g z.size oG0;have hA:qp we w.heap.size M:=by
     rw[hM.out];refine⟨(aA F A g).mono hC,(aA K A g).mono (by omega),?_,?_,⟨Own.nil _ _ _ _,λi p hp=>by simp at hp,λi j p q _ hp=>by simp at hp⟩,Own.nil _ _ _ _,aA q7 A g,λp hp => ?_,hb64⟩
     ·exact(G.keep A (by decide) (by decide) g).mono (by omega)
     ·exact(N.keep A (by decide) (by decide) g).mono (by omega)
     rw[bF.1 hp];exact⟨Own.nil _ _ _ _,GD _ _⟩
    clear x I A W U X Y F K G N q7 g ha z;go_wp2;refine bodyPost_ret (v:=.tuple #[.agg (bS M),.int .i64 0]) (dH results30 (w.heap.size+1) hz underlying45 mach_size) rfl ?_;refine⟨M,by rw[show wL f s b=0 from if_pos ⟨hf,hs,hk⟩],hA,?_,m⟩;rw[show jF f s b=_ from if_pos ⟨hf,hs,hk⟩,hM.out];unfold MH.ma;rw[show yu f=⟨List.replicate f.toNat frZ,0⟩from if_pos hf];rfl
   have e3:QQ b=4:=if_neg hk;rw[e3]
   go_wp2_with (refine ax _ _ (w.heap.size+1) (bS noH) Z mach_size (G:=dQ noH) ?_)
   intro we x g;have m:=hc.grown g hc.size oG0;go_wp2;refine bodyPost_ret (v:=.tuple #[.agg (bS noH),.int .i64 4]) (dH results30 (w.heap.size+1) x underlying45 mach_size) rfl ?_;exact⟨noH,by rw[show wL f s b=4 from if_neg (λh=>hk h.2.2)],vL _ _,by rw[show jF f s b=zMa from if_neg (λh=>hk h.2.2)];rfl,m⟩
  have e2:Lf s=4:=if_neg hs;rw[e2]
  go_wp2_with (refine ax _ _ (w.heap.size+1) (bS noH) rx4 mach_size (G:=dQ noH) ?_)
  intro we x g;have m:=hd.grown g hd.size oG0;go_wp2;refine bodyPost_ret (v:=.tuple #[.agg (bS noH),.int .i64 4]) (dH results30 (w.heap.size+1) x underlying45 mach_size) rfl ?_;exact⟨noH,by rw[show wL f s b=4 from if_neg (λh=>hs h.2.1)],vL _ _,by rw[show jF f s b=zMa from if_neg (λh=>hs h.2.1)];rfl,m⟩
 have e1:Qw f=4:=if_neg hf;rw[e1]
 go_wp2_with (refine ax _ _ (w.heap.size+1) (bS noH) rx3 mach_size (G:=dQ noH) ?_)
 intro we x g;have m:=hg.grown g hg.size oG0;go_wp2;refine bodyPost_ret (v:=.tuple #[.agg (bS noH),.int .i64 4]) (dH results30 (w.heap.size+1) x underlying45 mach_size) rfl ?_;exact⟨noH,by rw[show wL f s b=4 from if_neg (λh=>hf h.1)],vL _ _,by rw[show jF f s b=zMa from if_neg (λh=>hf h.1)];rfl,m⟩
structure Fb (ct:Nat) (bl:List Page) (q:List (Int × Page)) (fs:List Fi) (x:List Int):Prop where
 cl:bl.length=ct/\ct<=80
 ok:∀f∈fs,Gq ct f
 nd:(lS (fs.flatMap Fi.b++x)).Nodup
 xb:∀b∈x,-1<=b/\b<ct
 tr:∀b:Int,0<=b->b<ct->b∈fs.flatMap Fi.b++x\/bl.getD b.toNat zPg=zPg
 qb:∀p∈q,p.1∈fs.flatMap Fi.b++x/\0<=p.1/\p.1<ct
 ql:q.length<=12*fs.length+x.length
theorem Fb.start(h:ct<=80):Fb ct (List.replicate ct zPg) [] [] [] where
 cl:=⟨by simp,h⟩
 ok:=λf u=>by cases u
 nd:=by simp[lS]
 xb:=λb y=>by cases y
 tr:=λb C A => .inr (by rw[bA,uA,if_pos (by omega)];rfl)
 qb:=λp d=>by cases d
 ql:=by simp
def Lj(f s ct:Nat)(bl:List Page)(q:List (Int × Page))(fs:List Fi):Ma:=⟨⟨List.replicate f frZ,0⟩,List.replicate s 0,⟨List.replicate s zPg,[]⟩,⟨bl,q⟩,⟨fs,ct⟩,[],[]⟩
theorem Fb.bd{s:Nat}{u:List Page}{q:List (Int × Page)}(h:Fb ct u q fs [])(O:fs.length<=5)(S:f<=40)(C:s<=60):Bd (Lj f s ct u q fs) []:=by
 have a:∀i,i<f->aF (Lj f s ct u q fs) i=frZ:=λi F=>by unfold aF Lj;rw[bA,uA,if_pos F];rfl
 have g:∀p n,(aJ (Lj f s ct u q fs) p n).k=0:=λp n=>by unfold aJ;rw[tC (by simp[Lj])];show(dR zTb n).k=0;rw[uf];rfl
 have L:aQ ⟨fs,(ct:Int)⟩=0:=iU.2 ⟨⟨O,by show(0:Int)<=ct;omega,by show(ct:Int)<=80;have:=h.cl.2;omega⟩,h.ok,by have:=h.nd;rw[pU]at this;exact this⟩;have o:bZ ⟨u,q⟩=0:=(jg _).2 ⟨by show u.length<=80;have:=h.cl;omega,by show q.length<=400;have:=h.ql;simp only[mf]at this;omega,λx A=>by have:=(h.qb x A).2;have e:u.length=ct:=h.cl.1;show 0<=x.1/\x.1<(u.length:Int);omega⟩;have j:bZ ⟨List.replicate s zPg,[]⟩=0:=(jg _).2 ⟨by simp;omega,by simp,λx A=>(by cases A)⟩;have l:dZ (List.replicate s (0:Int))=0:=IZ (by simp;exact C) λx A=>by rw[(vD.1 A).2];decide
 have N:bT ⟨List.replicate f frZ,0⟩=0:=(eF _).2 ⟨by simp;exact S,λx A=>by rw[(vD.1 A).2];decide,Int.le_refl _,.inl rfl⟩;have d:wz (Lj f s ct u q fs) []=Lj f s ct u q fs:=rfl;have J:∀kd i,bR (Lj f s ct u q fs) kd i=0:=λ_ _=>rfl;have y:∀i,vY (Lj f s ct u q fs) i=0:=λ_=>rfl;refine⟨⟨rfl,λt I=>(by cases I),λt I=>(by cases I)⟩,?_,?_⟩
 ·rw[d];refine⟨⟨N,l,j,o,L,by simp[Lj],by have:=h.cl.1;show(u.length:Int)=ct;omega,by simp[Lj],λs C=>(by cases C),λs C=>(by cases C)⟩,⟨λb G U => ?_,λp M => ?_⟩,λp _=>⟨by rw[tC (by simp[Lj])];rfl,λn=>g p n⟩,⟨λc y=>(by cases y),λc y=>(by cases y),λc y=>(by cases y),List.Pairwise.nil⟩,λp n R=>absurd (g p n) R,λi F => ?_,λi F G => ?_,λi F => ?_⟩
  ·have e:(Lj f s ct u q fs).dk.blocks.length=ct:=h.cl.1;have:=h.tr b G (by omega);rw[pU]at this;exact this
  ·have:=(h.qb p M).1;rw[pU]at this;exact this
  ·rw[a i (by have e:(Lj f s ct u q fs).m.fs.length=f:=mY;omega),J,y];rfl
  ·rw[a i (by have e:(Lj f s ct u q fs).m.fs.length=f:=mY;omega)]at G;exact absurd G (by decide)
  rw[J];have e:(Lj f s ct u q fs).sl.length=s:=mY;unfold iT;show(List.replicate s (0:Int)).getD i 0=_;rw[bA,uA,if_pos (by omega)];rfl
 rw[d];refine⟨λc y=>(by cases y),λc y=>(by cases y),λi F K => ?_⟩;rw[a i (by have e:(Lj f s ct u q fs).m.fs.length=f:=mY;omega)]at K;exact absurd K (by decide)
theorem Vm{s:Nat}(A:f<=40)(y:s<=60)(C:ct<=80):wz { Lj f s ct (List.replicate ct zPg) [] []with sp:=[⟨true,[],zTb⟩] } [List.replicate 64 zEn]=jF f s ct:=by
 have u:jF f s ct=⟨yu f,GJ s,wU s,wU ct,⟨[],ct⟩,[],[⟨true,[],zTb⟩]⟩:=if_pos ⟨⟨by omega,by omega⟩,⟨by omega,by omega⟩,by omega,by omega⟩;have d:uy (List.replicate 64 zEn)=zTb:=by decide +kernel
 rw[u];unfold yu GJ wU wz Lj;rw[if_pos (by omega),if_pos (by omega),if_pos (by omega),if_pos (by omega)];simp only[bu,ou,mf];have h:uy (Tc [List.replicate 64 zEn] 0)=zTb:=d;show(⟨⟨List.replicate f frZ,0⟩,List.replicate s 0,⟨List.replicate s zPg,[]⟩,⟨List.replicate ct zPg,[]⟩,⟨[],ct⟩,[],[⟨true,[],uy (Tc [List.replicate 64 zEn] 0)⟩]⟩:Ma)=_;rw[h]
theorem sK(h:Rt m):PK m:=by
 have d:=h.pt;have C:=(jg _).1 d.sw;have F:=(jg _).1 d.dk;have a:=(jC d.st).1;refine⟨by have:=((eF _).1 d.fr).1;omega,by have:=lK d.sl;omega,by omega,by omega,by omega,by omega,⟨by omega,λf A=>by have:=TJ d.st f A;omega⟩,by have:=ZG h.ca d.st;omega,by have:=d.spl;omega,λs u=>⟨?_,λk y => ?_⟩⟩
 ·have:=(qP.1 (d.ar s u)).1;omega
 ·have:=ui (oP (d.tb s u) k y);omega
end Go.Proofs.YthihaopabbpalaaGreat