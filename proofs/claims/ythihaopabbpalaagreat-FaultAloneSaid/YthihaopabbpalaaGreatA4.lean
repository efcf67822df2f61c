import Derived.Test.YthihaopabbpalaaGreatA3
import Derived.BigRegion
import Derived.Deep.LoopGhost
set_option linter.unusedSimpArgs false
set_option linter.unusedVariables false
set_option linter.unnecessarySimpa false
set_option maxHeartbeats 4000000
set_option maxRecDepth 100000
namespace Go.Proofs.YthihaopabbpalaaGreat
open _root_.Go.Proofs.Tryz
open Go.RowKit Go.Maps Pw
variable {B b c f g j k p q s:Nat} {H H' H0:MH} {M m m' m1:Ma} {X:Fr} {a:Option Addr} {cs:Array Value} {d:vW} {kd n:Int} {ps:List PF} {v:Value} {w w' w0 w1:World}
theorem yg(n:Int):dM zTb n=zEn:=by
 by_cases h:0<=n/\n<64
 ·obtain⟨q,r,i,e,rfl,_,_⟩:=yB h;exact BN i e (by simp[zTb])
 ·exact sU
theorem wK(h:m'.m=m.m)(g:Nat):aB m' g=aB m g:=by unfold aB;rw[h]
theorem nu(h:(ent m p n).k≠0):p<m.sp.length/\0<=n/\n<64:=by
 refine⟨?_,?_⟩
 ·rcases gu p m.sp.length with e|e
  ·exact e
  refine absurd ?_ h;unfold ent;rw[qA e,show zSp.tb=zTb from rfl,yg];rfl
 by_cases i:n<0\/64<=n
 ·exact absurd (by rw[OD p i];rfl) h
 ·omega
theorem LF(k:Kp)(u:Nat × Int)(e:(ent k.m u.1 u.2).k=1)(h2:(ent k.m u.1 u.2).n=f):jV k u.1 u.2=Vg f zEn k u:=by
 unfold jV Vg;have b : (dM (dI k.m u.1).tb u.2).k=1:=e;have a : (dM (dI k.m u.1).tb u.2).n=f:=h2;simp only[b,a,if_true]
theorem PN{k:Kp}(h:Rt k.m)(y:Co k.m)(t:f<k.m.m.fs.length)(z:0<=(aB k.m f).f)(u:lN k.m f=true):∃m1,lF k f=⟨m1,k.e⟩/\Cleaned k.m m1 f:=by
 rw[Lv h t]
 by_cases o:(aB k.m f).d=false
 ·rw[if_pos (.inr (.inl o))];refine⟨k.m,rfl,h,y,.refl _,rfl,rfl,rfl,rfl,?_⟩;have:({ aB k.m f with d:=false }:Fr)=aB k.m f:=by rw[<-o]
  rw[this,FX t]
 have a:dK k.m.st (aB k.m f).f (aB k.m f).i=0:=by
  unfold lN at u;simp only[uP,decide_eq_true_eq,uG]at u;rcases u with(h1|h1)|h1
  ·omega
  ·exact absurd h1 o
  ·exact h1
 rw[if_neg]
 ·exact⟨_,rfl,GD h y t z a⟩
 rintro(h1|h1|h1)
 ·omega
 ·exact o h1
 ·exact h1 a
structure wL (m m' : Ma) (f:Nat):Prop where
 rt:Rt m'
 co:Co m'
 vis:FY m m'
 len:m'.m.fs.length=m.m.fs.length
 hand:m'.m.hand=m.m.hand
 free:aB m' f=frZ
 oth:∀g,g≠f->aB m' g=aB m g
 sll:m'.sl.length=m.sl.length
 ents:∀p n,¬((ent m p n).k=1/\(ent m p n).n=f)->ent m' p n=ent m p n
 cas:∀c,c∈m'.ca↔c∈m.ca/\c.k≠f
 std:(m'.st=m.st/\m'.dk=m.dk)\/(0<=(aB m f).f/\(aB m f).d=true/\dK m.st (aB m f).f (aB m f).i=0/\m'.st=(iM m f).st/\m'.dk=(iM m f).dk)
theorem QE{l:List Cc}(t:l.Pairwise CZ){c:Cc}(u:l[j]?=some c)(d:Cc):d∈l.eraseIdx j↔d∈l/\¬(d.f=c.f/\d.i=c.i):=by
 have b:=(bZ.1 u).1;have a:=(bZ.1 u).2;rw[List.mem_eraseIdx_iff_getElem];constructor
 ·rintro⟨i,o,h,rfl⟩;refine⟨fe _,λe => ?_⟩;have:=srt_eq t (fe o) (bP u) e.1 e.2;rcases vL h with y|y
  ·have h2:=Af.1 t i j o b y;rw[a,this]at h2;exact JW _ h2
  have h2:=Af.1 t j i b o y;rw[a,this]at h2;exact JW _ h2
 rintro⟨z,h⟩;obtain⟨i,o,rfl⟩:=jJ.1 z;exact⟨i,o,λe=>h (by subst e;rw[a];exact⟨rfl,rfl⟩),rfl⟩
theorem Ay{α:Type}(q:α->Bool):∀(l:List α) (j:Nat) (h:j<l.length),(l.eraseIdx j).countP q+sO (q l[j])=l.countP q
 | a::l,0,_=>by simp only[List.eraseIdx_cons_zero,Dp,uU,sO]
 | a::l,j+1,h=>by have:=Ay q l j (by simpa using h);simp only[List.eraseIdx_cons_succ,Ef,uU];omega
structure XX (m M:Ma) (j:Nat) (d:Cc):Prop where
 rt:Rt M
 co:Co M
 sk:iF m M
 len:M.m.fs.length=m.m.fs.length
 hand:M.m.hand=m.m.hand
 sl:M.sl=m.sl
 sw:M.sw=m.sw
 dk:M.dk=m.dk
 st:M.st=m.st
 ca:M.ca=m.ca.eraseIdx j
 fr:∀g,aB M g=if g=d.k.toNat then frZ else aB m g
 cas:∀e,e∈M.ca↔e∈m.ca/\¬(e.f=d.f/\e.i=d.i)
 cak:∀e,e∈M.ca->e∈m.ca/\e.k.toNat≠d.k.toNat
 ents:∀p n,ent M p n=if(ent m p n).k=1/\(ent m p n).n=d.k then zEn else ent m p n
theorem Wu{k:Kp}(h:Rt k.m)(hc:Co k.m){d:Cc}(P:k.m.ca[j]?=some d):∃M,Eg k j=⟨M,k.e⟩/\XX k.m M j d:=by
 have Q:=bP P;have hR:=h.ca.lt d Q;obtain⟨f,E⟩:∃f:Nat,d.k=f:=⟨d.k.toNat,by omega⟩;have O:f<k.m.m.fs.length:=by omega
 have hP:=h.ca.fr d Q;rw[E,bv]at hP;have hq:uf k.m f=1:=by rw[<-E];exact h.ca.one Q
 have hr:=h.cf f O;rw[hq,<-vw]at hr;have hv:=DW (f:=f) (e':=zEn) (by decide) (λk u=>jV k u.1 u.2) LF (bD k.m f) k h.pt (FO k.m f) O (by omega);obtain⟨r1,C,G,Z,F,Y,W⟩:=hv;have hG:(bD k.m f).foldl (λk u=>jV k u.1 u.2) k=lW k (bD k.m f):=rfl;rw[hG]at r1 C G Z F Y W;generalize hk2:lW k (bD k.m f)=k2 at r1 C G Z F Y W;have hy:il (aB k.m f) (-((bD k.m f).length:Int)) = { aB k.m f with r:=1 }:=by unfold il;rw[if_neg (by omega)];congr 1;omega
 simp only[hy]at F;have hQ:Cv k.m j=d:=by unfold Cv;rw[aW,P];rfl
 have hO:Eg k j=gH ⟨{ k2.m with ca:=k2.m.ca.eraseIdx j },k2.e⟩ f (-1):=by unfold Eg;simp only[hQ,E,hk2]
 have hE:f<k2.m.m.fs.length:=by rw[F,fu];exact O
 have U:aB k2.m f = { aB k.m f with r:=1 }:=by have:aB k2.m f=aB (setFr k.m f { aB k.m f with r:=1 }) f:=wK F f;rw[this,gB O,if_pos rfl]
 have hw:∀g,g≠f->aB k2.m g=aB k.m g:=by intro g N;have:aB k2.m g=aB (setFr k.m f { aB k.m f with r:=1 }) g:=wK F g;rw[this,gB O,if_neg N]
 have hC:Pt { k2.m with ca:=k2.m.ca.eraseIdx j }:={ fr:=C.fr,sl:=C.sl,sw:=C.sw,dk:=C.dk,st:=C.st,swl:=C.swl,dkl:=C.dkl,spl:=C.spl,ar:=C.ar,tb:=C.tb };obtain⟨e3,p3⟩:=BD (k:=⟨{ k2.m with ca:=k2.m.ca.eraseIdx j },k2.e⟩) (f:=f) (n:=-1) hC hE (by show(aB k2.m f).r≠0;rw[U];show(1:Int)≠0;decide) (by show -(aB k2.m f).r<=-1;rw[U];show -(1:Int)<=-1;decide) (by show -1<=1000-(aB k2.m f).r;rw[U];show -1<=(1000:Int)-1;decide);have hz:il (aB { k2.m with ca:=k2.m.ca.eraseIdx j } f) (-1)=frZ:=by show il (aB k2.m f) (-1)=frZ;rw[U];rfl
 rw[hz]at e3 p3;refine⟨_,hO.trans (e3.trans (by rw[r1])),?_⟩;generalize hM:setFr { k2.m with ca:=k2.m.ca.eraseIdx j } f frZ=M at p3 ⊢;have y:∀g,aB M g=if g=f then frZ else aB k.m g:=by
  intro g;rw[<-hM,gB (m:={ k2.m with ca:=k2.m.ca.eraseIdx j }) hE]
  by_cases e:g=f
  ·rw[if_pos e,if_pos e]
  ·rw[if_neg e,if_neg e,<-hw g e];rfl
 have b:M.m.fs.length=k.m.m.fs.length:=by rw[<-hM,fu];show k2.m.m.fs.length=_;rw[F,fu]
 have v:M.sl=k.m.sl:=by rw[<-hM];exact G.sl
 have hI:M.sw=k.m.sw:=by rw[<-hM];exact G.sw
 have w:M.dk=k.m.dk:=by rw[<-hM];exact G.dk
 have o:M.st=k.m.st:=by rw[<-hM];exact G.st
 have x:M.ca=k.m.ca.eraseIdx j:=by rw[<-hM];show k2.m.ca.eraseIdx j=_;rw[G.ca]
 have hL:=(bZ.1 P).1;have T:iF k.m M:=by rw[<-hM];exact Z.trans (iF.of rfl)
 have hx:∀p n,(p,n)∈bD k.m f↔(ent k.m p n).k=1/\(ent k.m p n).n=f:=by
  intro p n;rw[vB];constructor
  ·rintro⟨_,_,J⟩;exact J
  intro J;have h4:=nu (m:=k.m) (p:=p) (n:=n) (by rw[J.1];decide);exact⟨h4.1,h4.2,J⟩
 have q:∀p n,ent M p n=if(ent k.m p n).k=1/\(ent k.m p n).n=f then zEn else ent k.m p n:=λp n=>by
  have:ent M p n=if(p,n)∈bD k.m f then zEn else ent k.m p n:=by rw[<-hM];exact Y p n
  rw[this];simp only[hx]
 have t:∀kd i,bR M kd i+(if kd=1/\i=f then(bD k.m f).length else 0)=bR k.m kd i+(if kd=zEn.k/\i=zEn.n then(bD k.m f).length else 0):=λkd i=>by rw[<-hM];exact W kd i
 have hh:∀e,e∈M.ca↔e∈k.m.ca/\¬(e.f=d.f/\e.i=d.i):=λe=>by rw[x];exact QE h.ca.srt P e
 have a:∀e,e∈M.ca->e∈k.m.ca/\e.k.toNat≠f:=λe D=>by have A:=(hh e).1 D;refine⟨A.1,λh2=>A.2 ?_⟩;have J:=h.ca.uniq A.1 Q (by have:=h.ca.lt e A.1;omega);rw[J];exact⟨rfl,rfl⟩
 have l:∀g,g≠f->aB M g=aB k.m g:=λg N=>by rw[y,if_neg N]
 have hB:uW M:=⟨λe D=>by rw[o];exact h.ca.file e (a e D).1,λe D=>by rw[b];exact h.ca.lt e (a e D).1,
  λe D=>by rw[l _ (a e D).2];exact h.ca.fr e (a e D).1,by rw[x];exact h.ca.srt.sublist (List.eraseIdx_sublist _ _)⟩
 have hA:∀g i,dB M g i=dB k.m g i:=λg i=>by unfold dB;rw[o,w]
 refine⟨⟨p3,⟨?_,?_⟩,λp hp => ?_,hB,λp n z => ?_,λi L => ?_,λi L R => ?_,λs hs => ?_⟩,⟨λe D => ?_,λe D hF => ?_,λi L S => ?_⟩,T,b,?_,v,hI,w,o,x,by rw[E,bv];exact y,hh,by rw[E,bv];exact a,by rw[E];exact q⟩
 ·rw[w,o];exact h.trim.1
 ·rw[w,o];exact h.trim.2
 ·rw[T.lv]at hp;have A:=h.live p hp;rw[T.ar];refine⟨A.1,λn => ?_⟩;rw[q]
  by_cases I:(ent k.m p n).k=1/\(ent k.m p n).n=f
  ·rw[if_pos I];rfl
  ·rw[if_neg I];exact A.2 n
 ·rw[q]at z ⊢
  by_cases I:(ent k.m p n).k=1/\(ent k.m p n).n=f
  ·rw[if_pos I]at z; exact absurd rfl z
  rw[if_neg I]at z ⊢;obtain⟨g,N,ha⟩:=h.en p n z;refine⟨g,by unfold fI;rw[T.ar];exact N,by rw[v];exact ha.sw,by rw[b];exact ha.lt,λhD => ?_⟩;have hK:(ent k.m p n).n.toNat≠f:=by intro e;have h5:=((bG _).1 (nG h.pt p n));exact I ⟨hD,by omega⟩
  rw[y,if_neg hK];exact ha.fr hD
 ·have K:=t 1 i;have hJ:¬((1:Int)=zEn.k/\(i:Int)=zEn.n):=λe=>by cases e.1
  rw[if_neg hJ]at K;have a2:=Ay (λc=>decide (c.k=(i:Int))) k.m.ca j hL;have hN:=(bZ.1 P).2;rw[hN]at a2;have V:uf M i=(k.m.ca.eraseIdx j).countP (λc=>decide (c.k=(i:Int))):=by unfold uf;rw[x]
  by_cases e:i=f
  ·subst e;rw[if_pos ⟨rfl,rfl⟩]at K;have a4:sO (decide (d.k=(i:Int)))=1:=by rw[E];simp[sO]
   have a5:k.m.ca.countP (λc=>decide (c.k=(i:Int)))=1:=hq;rw[vw]at K;rw[y,if_pos rfl,V];show(0:Int)=_;omega
  rw[if_neg (λh'=>e (by have:=h'.2;omega))]at K;have a4:sO (decide (d.k=(i:Int)))=0:=by unfold sO;rw[if_neg];simp only[decide_eq_true_eq,E];omega
  have a5:=h.cf i (by rw[<-b];exact L);have a6:uf k.m i=k.m.ca.countP (λc=>decide (c.k=(i:Int))):=rfl;rw[l i e,V];omega
 ·by_cases e:i=f
  ·subst e;rw[y,if_pos rfl]at R;exact absurd R (by decide)
  rw[l i e]at R;obtain⟨c',hH,ht⟩:=h.fc i (by rw[<-b];exact L) R;refine⟨c',(hh c').2 ⟨hH,λh2 => ?_⟩,ht⟩;have:=srt_eq h.ca.srt hH Q h2.1 h2.2;rw[this,E]at ht;omega
 ·have K:=t 2 s;rw[if_neg (λe=>by cases e.1),if_neg (λe=>by cases e.1)]at K;have a2:=h.cs s (by rw[<-v];exact hs);have V:jW M s=jW k.m s:=by unfold jW;rw[v]
  rw[V,a2];omega
 ·have A:=a e D;rw[l _ A.2,o];exact hc.tail e A.1
 ·have A:=a e D;rw[l _ A.2]at hF ⊢;rw[hA];exact hc.clean e A.1 hF
 ·by_cases e:i=f
  ·rw[y,if_pos e]at S;cases S
  rw[l i e]at S ⊢;exact hc.anon i (by rw[<-b];exact L) S
 rw[<-hM];show k2.m.m.hand=_;rw[F];rfl
theorem XX.con{d:Cc}(h:Rt m)(U:XX m M j d){g i:Int}(z:¬(g=d.f/\i=d.i)):aU M g i=aU m g i:=by
 rcases oz m g i with⟨e,A,t,y,u⟩|⟨A,o⟩
 ·subst y;subst u;have a:=(U.cas e).2 ⟨t,z⟩;rw[iG h.ca t,iG U.rt.ca a,U.fr,if_neg (U.cak e a).2]
 rw[gJ o,gJ (λe' b=>o e' ((U.cas e').1 b).1)];unfold dB;rw[U.st,U.dk]
theorem NW{k:Kp}(h:Rt k.m)(hc:Co k.m)(J:f<k.m.m.fs.length)(K:0<=(aB k.m f).f)(S:lN k.m f=true) :
  (gI k f).e=k.e/\wL k.m (gI k f).m f:=by
 obtain⟨m1,Q,A⟩:=PN h hc J K S;have hq:bD k.m f=bD m1 f:=by unfold bD dI;rw[A.sp]
 have q:aB m1 f = { aB k.m f with d:=false }:=by have:aB m1 f=aB (setFr k.m f { aB k.m f with d:=false }) f:=wK A.fs f;rw[this,gB J,if_pos rfl]
 have w:∀g,g≠f->aB m1 g=aB k.m g:=by intro g I;have:aB m1 g=aB (setFr k.m f { aB k.m f with d:=false }) g:=wK A.fs g;rw[this,gB J,if_neg I]
 have R:m1.m.fs.length=k.m.m.fs.length:=by rw[A.fs];exact fu
 have y:f<m1.m.fs.length:=by rw[R];exact J
 obtain⟨c,a,b⟩:=A.rt.fc f y (by rw[q];exact K);have j:=A.rt.ca.fr c a;rw[b,bv]at j;have o : (aB k.m f).f=c.f/\(aB k.m f).i=c.i:=by rw[<-j.2.1,<-j.2.2,q];exact⟨rfl,rfl⟩
 obtain⟨d,L,V,W⟩:=JL ((Jy A.rt.ca.srt).2 ⟨c,a,o.1.symm,o.2.symm⟩:JY m1.ca (aB k.m f).f (aB k.m f).i=true);have T:d=c:=srt_eq A.rt.ca.srt (bP L) a (V.trans o.1) (W.trans o.2);subst T;obtain⟨M,hM,U⟩:=Wu (k:=⟨m1,k.e⟩) A.rt A.co L;have hp:(lW ⟨m1,k.e⟩ (bD m1 f)).m.ca=m1.ca:=by have:=DW (f:=f) (e':=zEn) (by decide) (λk u=>jV k u.1 u.2) LF (bD m1 f) ⟨m1,k.e⟩ A.rt.pt (FO m1 f) y (by have hr:=A.rt.cf f y;rw[<-vw]at hr;show _<=(aB m1 f).r;omega);exact this.2.2.1.ca
 have Z:gI k f=⟨M,k.e⟩:=by
  rw[<-hM];unfold gI Eg;simp only;have hA:Cv m1 (sP m1.ca (aB k.m f).f (aB k.m f).i)=d:=by unfold Cv;rw[aW,L];rfl
  rw[if_pos K,if_neg (by rw[S];decide),Q,hq,hA,b];simp only[hp];rw[if_pos ((Jy A.rt.ca.srt).2 ⟨d,a,o.1.symm,o.2.symm⟩)]
 rw[Z];refine⟨rfl,?_⟩;change wL k.m M f;have hs:d.k.toNat=f:=by omega
 have N:∀g,aB M g=if g=f then frZ else aB k.m g:=λg=>by
  rw[U.fr,hs]
  by_cases e:g=f
  ·rw[if_pos e,if_pos e]
  ·rw[if_neg e,if_neg e];exact w g e
 have ha:iF k.m m1:=A.vis.sk;have hB:iF k.m M:=ha.trans U.sk;have z:∀p n,ent m1 p n=ent k.m p n:=λp n=>by unfold ent dI;rw[A.sp]
 have l:mr m1.st M.st:=mr.of U.st;have t:∀g i,qP m1.st g i->aU M g i=aU m1 g i:=by
  intro g i _
  by_cases G:g=d.f/\i=d.i
  ·rw[G.1,G.2,iG A.rt.ca a,gJ (λe' Y=>((U.cas e').1 Y).2)];rw[show dB M d.f d.i=dB m1 d.f d.i by unfold dB;rw[U.st,U.dk]];exact(A.co.clean d a (by rw[b,bv,q])).symm
  ·exact U.con A.rt G
 have v:FY m1 M:=by
  refine Fx A.rt.pt U.sk l t λp n g I => ?_;rw[U.ents]
  by_cases F:(ent m1 p n).k=1/\(ent m1 p n).n=d.k
  ·rw[if_pos F];obtain⟨g',P,hn⟩:=A.rt.en p n (by rw[F.1];decide);rw[I]at P;cases P;have h2:=hn.fr F.1;rw[F.2,b,bv]at h2;have E:=h2.1 (by rw[q];exact K);have x:qP m1.st g.fi g.pg:=by rw[<-E.1,<-E.2,j.2.1,j.2.2];exact A.rt.ca.file d a
   have ht:¬g.fi<0:=by have:=x.1;omega
   have s:¬((M.st.fs.length:Int)<=g.fi\/qx M.st g.fi g.pg=true):=by rw[U.st];exact sS A.rt.pt.st x
   have hl:vX m1 g (ent m1 p n)=((aB m1 f).p,false,0):=by unfold vX;rw[if_pos F.1,F.2,b,ve,q];simp only[Prod.mk.injEq,true_and,and_true];exact decide_eq_false (by omega)
   rw[hl];unfold vX;rw[if_neg (by decide),if_neg (by decide),if_neg ht,if_neg s,t _ _ x];have:g.fi=d.f/\g.pg=d.i:=⟨by rw[<-E.1,j.2.1],by rw[<-E.2,j.2.2]⟩;rw[this.1,this.2,iG A.rt.ca a,b,bv]
  rw[if_neg F];refine qK A.rt.pt.st (A.rt.pt.pg I).1 l t (λO => ?_) (λO=>by rw[U.sw];exact⟨rfl,rfl⟩);have s:(ent m1 p n).n.toNat≠d.k.toNat:=by intro e;have h5:=((bG _).1 (nG A.rt.pt p n));exact F ⟨O,by omega⟩
  have:aB M (ent m1 p n).n.toNat=aB m1 (ent m1 p n).n.toNat:=by rw[U.fr,if_neg s]
  exact⟨congrArg Fr.p this,congrArg Fr.f this⟩
 refine⟨U.rt,U.co,A.vis.trans v,U.len.trans R,?_,by rw[N,if_pos rfl],λg I=>by rw[N,if_neg I],by rw[U.sl,A.sl],λp n s=>by rw[U.ents,z,b,if_neg s],λe => ?_,?_⟩
 ·rw[U.hand,A.fs];rfl
 ·rw[U.cas,A.ca];constructor
  ·rintro⟨C,h2⟩;refine⟨C,λE=>h2 ?_⟩;rw[h.ca.uniq C (by rw[<-A.ca];exact a) (by rw[E,b])];exact⟨rfl,rfl⟩
  rintro⟨C,h2⟩;refine⟨C,λE=>h2 ?_⟩;rw[srt_eq h.ca.srt C (by rw[<-A.ca];exact a) E.1 E.2,b]
 rw[U.st,U.dk];have C:=Lv h J;rw[Q]at C
 by_cases D:(aB k.m f).f<0\/(aB k.m f).d=false\/dK k.m.st (aB k.m f).f (aB k.m f).i≠0
 ·rw[if_pos D]at C;have h2:m1=k.m:=congrArg Kp.m C;rw[h2];exact .inl ⟨rfl,rfl⟩
 rw[if_neg D]at C;have h2:m1=iM k.m f:=congrArg Kp.m C;rw[h2];refine .inr ⟨K,?_,?_,rfl,rfl⟩
 ·cases e:(aB k.m f).d with
  | true=>rfl
  | false=>exact absurd (.inr (.inl e)) D
 by_cases e:dK k.m.st (aB k.m f).f (aB k.m f).i=0
 ·exact e
 ·exact absurd (.inr (.inr e)) D
def OU(m:Ma)(f i:Int)(P:Page):Prop:=∃c∈m.ca,c.f=f/\c.i=i/\(aB m c.k.toNat).d=true/\(aB m c.k.toNat).p=P
structure SV (m m' : Ma):Prop where
 st:m'.st=m.st
 dk:m'.dk=m.dk
 di:∀f i P,OU m' f i P->OU m f i P
structure XZ (P:Ma->Prop):Prop where
 cl:∀m f,Rt m->Co m->P m->f<m.m.fs.length->0<=(aB m f).f->(aB m f).d=true->dK m.st (aB m f).f (aB m f).i=0->P (iM m f)
 sub:∀m m',Rt m->Co m->P m->Rt m'->Co m'->SV m m'->P m'
def Inv(m m' : Ma):Prop:=∀P,XZ P->P m->P m'
theorem Inv.refl(m:Ma):Inv m m:=λ_ _ h=>h
theorem Inv.trans{a b c:Ma}(h:Inv a b)(k:Inv b c):Inv a c:=λP e i=>k P e (h P e i)
theorem SV.inv(h:SV m m')(u:Rt m)(h2:Co m)(t:Rt m')(o:Co m'):Inv m m':=λP e i=>e.sub m m' u h2 i t o h
theorem SV.of(st:m'.st=m.st)(dk:m'.dk=m.dk)(e:∀c∈m'.ca,(aB m' c.k.toNat).d=true->c∈m.ca/\(aB m' c.k.toNat).d=(aB m c.k.toNat).d/\(aB m' c.k.toNat).p=(aB m c.k.toNat).p):SV m m':=
 ⟨st,dk,λf i P ⟨c,a1,a2,a3,a4,a5⟩=>have ⟨b1,b2,b3⟩:=e c a1 a4;⟨c,b1,a2,a3,by rw[<-b2];exact a4,by rw[<-b3];exact a5⟩⟩
theorem wL.inv(h:Rt m)(t:Co m)(o:f<m.m.fs.length)(E:wL m m' f):Inv m m':=by
 have b:∀c∈m'.ca,c∈m.ca/\c.k.toNat≠f:=λc a=>by have i:=(E.cas c).1 a;have h2:=h.ca.lt c i.1;exact⟨i.1,λe=>i.2 (by omega)⟩
 rcases E.std with⟨i,h2⟩|⟨z,D,y,i,h2⟩
 ·refine SV.inv (.of i h2 λc a _ => ?_) h t E.rt E.co;rw[E.oth _ (b c a).2];exact⟨(b c a).1,rfl,rfl⟩
 have u:=GD h t o z y;refine Inv.trans (λP A C=>A.cl m f h t C o z D y) (SV.inv (.of i h2 λc a _ => ?_) u.rt u.co E.rt E.co);have F:aB (iM m f) c.k.toNat=aB m c.k.toNat:=by rw[wK u.fs,gB o,if_neg (b c a).2]
 rw[E.oth _ (b c a).2,F];exact⟨(b c a).1,rfl,rfl⟩
theorem Ed{α:Type}{q:α->Bool}{l:List α}(h:0<=idx q l):∃k:Nat,idx q l=k/\∃e:k<l.length,q l[k]=true:=by
 unfold idx at h ⊢;cases hf:l.findIdx? q with
 | none=>rw[hf]at h;simp at h
 | some k=>
  obtain⟨e,i,_⟩:=si.1 hf;exact⟨k,rfl,e,i⟩
theorem UO{α:Type}{q:α->Bool}{l:List α}(h:idx q l<0):∀x∈l,q x=false:=by
 unfold idx at h;cases hf:l.findIdx? q with
 | none=>exact wu.1 hf
 | some k=>rw[hf]at h;simp at h;omega
theorem TP(h:Pt m)(A:1<=n)(h2:n<=1000) :
  (iY m.sl n=0/\∃s:Nat,s<m.sl.length/\jW m s=0/\kL m.sl n=s/\mU m.sl n=m.sl.set s n)\/(iY m.sl n=10/\∀s:Nat,s<m.sl.length->jW m s≠0):=by
 by_cases e:idx JZ m.sl<0
 ·refine .inr ⟨?_,λs y z => ?_⟩
  ·unfold iY;rw[if_neg (by rw[h.sl];simp),if_neg (by omega),if_pos e]
  have:=UO e _ (bP (MB y));rw[z]at this;simp[JZ]at this
 obtain⟨k,o,a,u⟩:=Ed (by omega:0<=idx JZ m.sl);have i:iY m.sl n=0:=by unfold iY;rw[if_neg (by rw[h.sl];simp),if_neg (by omega),if_neg e]
 refine .inl ⟨i,k,a,?_,?_,?_⟩
 ·have t:=MB a;rw[aI a]at t;rw[<-aM t];simpa[JZ]using u
 ·unfold kL;rw[if_pos i,o]
 ·unfold mU;rw[if_pos i,o,bv]
theorem Rx(h:Rt m)(t:f<m.m.fs.length)(y:(aB m f).f<0):uf m f=0/\(aB m f).r=(bD m f).length:=by
 have e:uf m f=0:=uW.none (m:=m) (i:=f) λc e o=>by have u:=(h.ca.fr c e).2.1;have h2:=(h.ca.file c e).1;rw[o,bv]at u;omega
 refine⟨e,?_⟩;have:=h.cf f t;rw[e,<-vw]at this;omega
theorem Mi{k:Kp}(h:Rt k.m)(E:Co k.m)(V:f<k.m.m.fs.length)(h0:(aB k.m f).f<0)(hr:(aB k.m f).r≠0)(hb:iY k.m.sl (bD k.m f).length=0) :
  (gI k f).e=k.e/\wL k.m (gI k f).m f:=by
 obtain⟨hS,hV⟩:=Rx h V h0;have h7:=((dN _).1 (h.pt.frE V)).1;obtain⟨_,s,hs,hZ,z,hU⟩:=(TP h.pt (n:=(bD k.m f).length) (by omega) (by omega)).resolve_right (λe=>by rw[hb]at e;cases e.1);have hY:s<60:=by have:=kJ h.pt.sl;omega
 have q:(s:Int)<k.m.sw.blocks.length:=by rw[h.pt.swl];omega
 have Z:aL k.m.sw (s:Int)=0:=kF.2 ⟨h.pt.sw,by omega,q⟩;have hl:∃L:Nat,L=(bD k.m f).length:=⟨_,rfl⟩;obtain⟨L,hL⟩:=hl;generalize hm1:({ k.m with sl:=k.m.sl.set s (L:Int),sw:=jQ k.m.sw ((s:Int),(aB k.m f).p) }:Ma)=m1;have hX:gI k f=tK ⟨m1,k.e⟩ f s (bD k.m f):=by
  unfold gI;simp only;rw[if_neg (by omega),if_neg (by rw[hb];simp),z,Z,hU];have hw:dR k.m.sw (s:Int) (aB k.m f).p=jQ k.m.sw ((s:Int),(aB k.m f).p):=by unfold dR;rw[if_pos Z]
  have D:jr k.e 0=k.e:=by unfold jr;split<;>simp_all
  rw[hw,D,<-hm1,hL]
 have o:m1.m=k.m.m:=by rw[<-hm1]
 have a:m1.sp=k.m.sp:=by rw[<-hm1]
 have hh:m1.sl=k.m.sl.set s (L:Int):=by rw[<-hm1]
 have ha:m1.sw=jQ k.m.sw ((s:Int),(aB k.m f).p):=by rw[<-hm1]
 have hm:m1.dk=k.m.dk:=by rw[<-hm1]
 have hd:m1.st=k.m.st:=by rw[<-hm1]
 have hI:m1.ca=k.m.ca:=by rw[<-hm1]
 have hM:Pt m1:={ fr:=by rw[o];exact h.pt.fr,sl:=by rw[hh];exact EX s _ h.pt.sl (by omega) (by omega),sw:=by rw[ha];exact zK h.pt.sw (by show(0:Int)<=s;omega) q,dk:=by rw[hm];exact h.pt.dk,st:=by rw[hd];exact h.pt.st,swl:=by rw[ha,hh,xg,bI];exact h.pt.swl,dkl:=by rw[hm,hd];exact h.pt.dkl,spl:=by rw[a];exact h.pt.spl,ar:=by rw[a];exact h.pt.ar,tb:=by rw[a];exact h.pt.tb };have hJ:∀p n,ent m1 p n=ent k.m p n:=λp n=>by unfold ent dI;rw[a]
 have hT:bD k.m f=bD m1 f:=by unfold bD dI;rw[a]
 have ht:∀g,aB m1 g=aB k.m g:=λg=>wK o g;have hH:=DW (f:=f) (e':=⟨2,s,false⟩) ((bG _).2 (.inr (.inr ⟨rfl,by show(0:Int)<=s;omega,by show(s:Int)<60;omega,rfl⟩))) (GV f s) (λ_ _ _ _=>rfl) (bD k.m f) ⟨m1,k.e⟩ hM (by rw[hT];exact FO m1 f) (by show f<m1.m.fs.length;rw[o];exact V) (by show _<=(aB m1 f).r;rw[ht];omega);obtain⟨r1,r2,G,r4,O,r6,U⟩:=hH;have hR:(bD k.m f).foldl (GV f s) ⟨m1,k.e⟩=tK ⟨m1,k.e⟩ f s (bD k.m f):=rfl;rw[hR,<-hX]at r1 r2 G r4 O r6 U;refine⟨r1,?_⟩;generalize gI k f=k2 at *
 obtain⟨M,eM⟩:=k2;change wL k.m M f;simp only at r1 r2 G r4 O r6 U;have hz:il (aB m1 f) (-((bD k.m f).length:Int))=frZ:=by unfold il;rw[if_pos (by rw[ht];omega)]
 rw[hz]at O;have Q:∀g,aB M g=if g=f then frZ else aB k.m g:=by intro g;rw[wK O g,gB (by rw[o];exact V),ht]
 have d:∀g,g≠f->aB M g=aB k.m g:=λg J=>by rw[Q,if_neg J]
 have t:M.m.fs.length=k.m.m.fs.length:=by rw[O,fu,o]
 have y:M.sl=k.m.sl.set s (L:Int):=G.sl.trans hh;have hG:M.sw=jQ k.m.sw ((s:Int),(aB k.m f).p):=G.sw.trans ha;have hB:M.dk=k.m.dk:=G.dk.trans hm;have u:M.st=k.m.st:=G.st.trans hd;have b:M.ca=k.m.ca:=G.ca.trans hI;have z:iF k.m M:=(iF.of a).trans r4;have v:∀p n,ent M p n=if(p,n)∈bD k.m f then⟨2,s,false⟩else ent k.m p n:=λp n=>by rw[r6,hJ]
 have l:∀p n,(p,n)∈bD k.m f↔(ent k.m p n).k=1/\(ent k.m p n).n=f:=by
  intro p n;rw[vB];constructor
  ·rintro⟨_,_,N⟩;exact N
  intro N;have h4:=nu (m:=k.m) (p:=p) (n:=n) (by rw[N.1];decide);exact⟨h4.1,h4.2,N⟩
 have hn:mr k.m.st M.st:=mr.of u;have hx:∀g i,dB M g i=dB k.m g i:=λg i=>by unfold dB;rw[u,hB]
 have P:∀c∈k.m.ca,c.k.toNat≠f:=λc E e=>by have A:=(h.ca.fr c E).2.1;have h2:=(h.ca.file c E).1;rw[e]at A;omega
 have hA:uW M:=⟨by rw[b,u];exact h.ca.file,by rw[b,t];exact h.ca.lt,λc E=>by rw[b]at E;rw[d _ (P c E)];exact h.ca.fr c E,by rw[b];exact h.ca.srt⟩;have hF:∀g i,qP k.m.st g i->aU M g i=aU k.m g i:=by
  intro g i h6;rcases oz k.m g i with⟨e,D,K,hef,hei⟩|⟨D,S⟩
  ·subst hef;subst hei;rw[iG h.ca K,iG hA (by rw[b];exact K),d _ (P e K)]
  ·rw[gJ S,gJ (by rw[b];exact S),hx]
 have hN:∀p n,(ent k.m p n).k=2->(ent k.m p n).n≠s:=by intro p n hO D;have N:=nu (m:=k.m) (p:=p) (n:=n) (by rw[hO];decide);have h4:=(nI (m:=k.m) (kd:=2) (i:=s)).2 ⟨p,n,N.1,N.2,hO,D⟩;have h5:=h.cs s hs;omega
 have hK:FY k.m M:=by
  refine Fx h.pt z hn hF λp n g J => ?_;rw[v]
  by_cases C:(p,n)∈bD k.m f
  ·rw[if_pos C];have A:=(l p n).1 C;unfold vX;rw[if_neg (show ¬(2:Int)=1 by decide),if_pos rfl,if_pos A.1,A.2,ve,hG];rw[zb h.pt.sw (by show(0:Int)<=s;omega) q,if_pos ⟨Z,rfl⟩,Je h.pt.sw (by show(0:Int)<=s;omega) q,Z,decide_eq_true h0]
  rw[if_neg C];refine qK h.pt.st (h.pt.pg J).1 hn hF (λI => ?_) (λI => ?_)
  ·have R:(ent k.m p n).n.toNat≠f:=by intro e;have h5:=((bG _).1 (nG h.pt p n));exact C ((l p n).2 ⟨I,by omega⟩)
   have:=d _ R;exact⟨congrArg Fr.p this,congrArg Fr.f this⟩
  rw[hG,zb h.pt.sw (by show(0:Int)<=s;omega) q,if_neg (λe=>hN p n I e.2.symm),Je h.pt.sw (by show(0:Int)<=s;omega) q];exact⟨rfl,rfl⟩
 refine⟨⟨r2,by rw[hB,u];exact h.trim,λp hp => ?_,hA,λp n I => ?_,λi T => ?_,λi T W => ?_,λj hj => ?_⟩,⟨λe D => ?_,λe D hQ => ?_,λi T Y => ?_⟩,hK,t,?_,by rw[Q,if_pos rfl],d,by rw[y,bI],λp n R=>by rw[v,if_neg (λC=>R ((l p n).1 C))],λe => ?_,.inl ⟨u,hB⟩⟩
 ·rw[z.lv]at hp;have A:=h.live p hp;rw[z.ar];refine⟨A.1,λn => ?_⟩;rw[v,if_neg]
  ·exact A.2 n
  intro C;have:=(l p n).1 C;rw[A.2 n]at this;exact absurd this.1 (by decide)
 ·rw[v]at I ⊢
  by_cases C:(p,n)∈bD k.m f
  ·rw[if_pos C];have A:=(l p n).1 C;obtain⟨g,J,w⟩:=h.en p n (by rw[A.1];decide);refine⟨g,by unfold fI;rw[z.ar];exact J,λ_=>⟨by rw[y,bI];show(s:Int)<_;omega,?_⟩,λ(e:(2:Int)=1)=>absurd e (by decide),λ(e:(2:Int)=1)=>absurd e (by decide)⟩;have h2:=w.fr A.1;rw[A.2,bv]at h2;cases hsh:g.sh with
   | false=>rfl
   | true=>have:=h2.2.1 hsh;omega
  rw[if_neg C]at I ⊢;obtain⟨g,J,w⟩:=h.en p n I;refine⟨g,by unfold fI;rw[z.ar];exact J,by rw[y,bI];exact w.sw,by rw[t];exact w.lt,λhP => ?_⟩;have R:(ent k.m p n).n.toNat≠f:=by intro e;have h5:=((bG _).1 (nG h.pt p n));exact C ((l p n).2 ⟨hP,by omega⟩)
  rw[d _ R];exact w.fr hP
 ·have F:=U 1 i;rw[if_neg (λe=>by cases e.1:¬((1:Int)=(⟨2,s,false⟩:En).k/\(i:Int)=(⟨2,s,false⟩:En).n))]at F;have a2:bR m1 1 i=bR k.m 1 i:=by unfold bR;rw[a]
  have a3:uf M i=uf k.m i:=by unfold uf;rw[b]
  by_cases e:i=f
  ·subst e;rw[if_pos ⟨rfl,rfl⟩]at F;rw[vw]at F;rw[Q,if_pos rfl,a3,hS];show(0:Int)=_;omega
  rw[if_neg (λh'=>e (by have:=h'.2;omega))]at F;have a5:=h.cf i (by rw[<-t];exact T);rw[d i e,a3];omega
 ·by_cases e:i=f
  ·subst e;rw[Q,if_pos rfl]at W;exact absurd W (by decide)
  rw[d i e]at W;rw[b];exact h.fc i (by rw[<-t];exact T) W
 ·have F:=U 2 j;rw[if_neg (λe=>by cases e.1)]at F;have a2:bR m1 2 j=bR k.m 2 j:=by unfold bR;rw[a]
  have hW : j<k.m.sl.length:=by rw[y,bI]at hj;exact hj
  have a3:jW M j=if j=s then(L:Int)else jW k.m j:=by have:=Jg (m:=k.m) (x:=(L:Int)) hs j;rw[<-this];unfold jW setSl;rw[y]
  have a4:=h.cs j hW;rw[a3]
  by_cases e:j=s
  ·subst e;rw[if_pos ⟨rfl,rfl⟩]at F;rw[if_pos rfl];omega
  rw[if_neg (λh'=>e (by have h2:(j:Int)=(s:Int):=h'.2;omega))]at F;rw[if_neg e];omega
 ·rw[b]at D;rw[d _ (P e D),u];exact E.tail e D
 ·rw[b]at D;rw[d _ (P e D)]at hQ ⊢;rw[hx];exact E.clean e D hQ
 ·by_cases e:i=f
  ·rw[Q,if_pos e]at Y;cases Y
  rw[d i e]at Y ⊢;exact E.anon i (by rw[<-t];exact T) Y
 ·rw[O];show m1.m.hand=_;rw[o]
 rw[b];constructor
 ·intro A;exact⟨A,λh2=>P e A (by rw[h2];exact bv f)⟩
 ·exactλA=>A.1
theorem RJ{k:Kp}(h:Rt k.m)(u:Co k.m)(t:f<k.m.m.fs.length)(y:(aB k.m f).r≠0) :
  if nH k.m f=true then(gI k f).e=k.e/\wL k.m (gI k f).m f else gI k f=k:=by
 unfold nH
 by_cases o:0<=(aB k.m f).f
 ·rw[if_pos o]
  by_cases i:lN k.m f=true
  ·rw[if_pos i];exact NW h u t o i
  rw[if_neg i];unfold gI;simp only;rw[if_pos o,if_pos (by simpa using i)]
 rw[if_neg o]
 by_cases i:iY k.m.sl (bD k.m f).length=0
 ·rw[if_pos (by simpa using i)];exact Mi h u t (by omega) y i
 rw[if_neg (by simpa using i)];unfold gI;simp only;rw[if_neg o,if_pos i]
def zW(x y:Fr):Prop:=y.p=x.p/\y.r=x.r/\y.d=x.d/\y.f=x.f/\y.i=x.i
theorem zW.refl(x:Fr):zW x x:=⟨rfl,rfl,rfl,rfl,rfl⟩
theorem zW.trans{x y z:Fr}(h:zW x y)(k:zW y z):zW x z:=⟨k.1.trans h.1,k.2.1.trans h.2.1,k.2.2.1.trans h.2.2.1,k.2.2.2.1.trans h.2.2.2.1,k.2.2.2.2.trans h.2.2.2.2⟩
theorem TL(h:Rt m)(J:Co m)(y:Rest m m')(A:m'.sp=m.sp)(N:bu m'.m=0)(C:m'.m.fs.length=m.m.fs.length)(z:∀g,zW (aB m g) (aB m' g)):Rt m'/\Co m'/\FY m m':=by
 have e:∀p n,ent m' p n=ent m p n:=λp n=>by unfold ent dI;rw[A]
 have u:∀p n,fI m' p n=fI m p n:=λp n=>by unfold fI dI;rw[A]
 have w:∀i,uf m' i=uf m i:=λi=>by unfold uf;rw[y.ca]
 have q:∀kd i,bR m' kd i=bR m kd i:=λkd i=>by unfold bR;rw[A]
 have j:∀f i,dB m' f i=dB m f i:=λf i=>by unfold dB;rw[y.st,y.dk]
 have t:Pt m':={ fr:=N,sl:=by rw[y.sl];exact h.pt.sl,sw:=by rw[y.sw];exact h.pt.sw,dk:=by rw[y.dk];exact h.pt.dk,st:=by rw[y.st];exact h.pt.st,swl:=by rw[y.sw,y.sl];exact h.pt.swl,dkl:=by rw[y.dk,y.st];exact h.pt.dkl,spl:=by rw[A];exact h.pt.spl,ar:=by rw[A];exact h.pt.ar,tb:=by rw[A];exact h.pt.tb };have o:uW m':=⟨by rw[y.ca,y.st];exact h.ca.file,by rw[y.ca,C];exact h.ca.lt,λc a=>by rw[y.ca]at a;have D:=z c.k.toNat;rw[D.2.1,D.2.2.2.1,D.2.2.2.2];exact h.ca.fr c a,by rw[y.ca];exact h.ca.srt⟩;have l:∀f i,aU m' f i=aU m f i:=by
  intro f i;have C:pY m' f i=pY m f i:=by unfold pY;rw[y.ca]
  rw[kP,kP,C];cases pY m f i with
  | none=>exact j f i
  | some c=>exact(z c.k.toNat).1
 have b:mr m.st m'.st:=mr.of y.st;refine⟨⟨t,by rw[y.dk,y.st];exact h.trim,λp G => ?_,o,λp n K => ?_,λi E => ?_,λi E L => ?_,λs r => ?_⟩,⟨λc a => ?_,λc a F => ?_,λi E F => ?_⟩,?_⟩
 ·have:dI m' p=dI m p:=by unfold dI;rw[A]
  rw[this]at G ⊢;exact⟨(h.live p G).1,λn=>by rw[e];exact(h.live p G).2 n⟩
 ·rw[e]at K ⊢;obtain⟨g,I,d⟩:=h.en p n K;refine⟨g,by rw[u];exact I,by rw[y.sl];exact d.sw,by rw[C];exact d.lt,λv => ?_⟩;have D:=d.fr v;have h2:=z (ent m p n).n.toNat;unfold Ol at D ⊢;rw[h2.2.1,h2.2.2.2.1,h2.2.2.2.2];exact D
 ·rw[(z i).2.1,w,q];exact h.cf i (by rw[<-C];exact E)
 ·rw[(z i).2.2.2.1]at L;rw[y.ca];exact h.fc i (by rw[<-C];exact E) L
 ·rw[q];have:jW m' s=jW m s:=by unfold jW;rw[y.sl]
  rw[this];exact h.cs s (by rw[<-y.sl];exact r)
 ·rw[y.ca]at a;rw[(z c.k.toNat).1,y.st];exact J.tail c a
 ·rw[y.ca]at a;rw[(z c.k.toNat).2.2.1]at F;rw[(z c.k.toNat).1,j];exact J.clean c a F
 ·rw[(z i).2.2.1]at F;rw[(z i).2.2.2.1];exact J.anon i (by rw[<-C];exact E) F
 refine Fx h.pt (iF.of A) b (λf i _=>l f i) λp n g I => ?_;rw[e];exact qK h.pt.st (h.pt.pg I).1 b (λf i _=>l f i) (λ_=>⟨(z _).1,(z _).2.2.2.1⟩) (λ_=>by rw[y.sw];exact⟨rfl,rfl⟩)
def rF(m:Ma)(x:Mem):Ma:={ m with m:=x }
theorem PP(u:bu m.m=0)(C:0<=jv m.m):(jv m.m).toNat<m.m.fs.length/\(aB m (jv m.m).toNat).r≠0/\bu (gN m.m)=0/\(gN m.m).fs.length=m.m.fs.length/\∀g,zW (aB m g) (aB (rF m (gN m.m)) g):=by
 have z:dU m.m.fs≠m.m.fs.length:=λe=>by unfold jv at C;rw[if_neg (by rw[u];simp),if_pos e]at C;omega
 obtain⟨h,b,f⟩:=TR m.m u z;have G:gN m.m=⟨pE m.m (ja m.m),(jG m.m (ja m.m+1):Nat)⟩:=by unfold gN;rw[if_neg (by rw[u];simp),if_neg z]
 have I:jv m.m=(jG m.m (ja m.m):Nat):=by unfold jv;rw[if_neg (by rw[u];simp),if_neg z]
 have a:0<m.m.fs.length:=by
  rcases ut m.m.fs.length with D|D
  ·exact absurd (by have:=EH m.m.fs;omega) z
  ·exact D
 have c:=qp a (ja m.m);have d:=qp a (ja m.m+1);obtain⟨w1,E,N,L⟩:=(dO _).1 u;rw[I,G,bv];refine⟨c,?_,(dO _).2 ⟨by simp only;rw[jC];exact w1,λx F => ?_,by simp only;omega,by simp only;rw[jC];omega⟩,jC _ _,λg => ?_⟩
 ·unfold xJ at b;simp only[ed,decide_eq_true_eq]at b;have J:(aB m (jG m.m (ja m.m))).r=(m.m.fs.getD (jG m.m (ja m.m)) fr0).r:=rfl;rw[J];omega
 ·obtain⟨i,y,rfl⟩:=jJ.1 F;simp only at y ⊢;rw[jC]at y;rw[wC m.m _ i y];have t:=E m.m.fs[i] (fe y);split
  ·rw[dN]at t ⊢;exact⟨t.1,λe=>⟨rfl,(t.2.1 e).2.1,(t.2.1 e).2.2.1,(t.2.1 e).2.2.2⟩,t.2.2⟩
  ·exact t
 rcases gu g m.m.fs.length with o|o
 ·have A:aB (rF m ⟨pE m.m (ja m.m),(jG m.m (ja m.m+1):Nat)⟩) g=(pE m.m (ja m.m))[g]'(by rw[jC];exact o):=by show(pE m.m (ja m.m)).getD g fr0=_;rw[aW,aI (by rw[jC];exact o)];rfl
  have K:aB m g=m.m.fs[g]:=by have:=sQ o;rw[aI o]at this;exact(aM this).symm
  rw[A,K,wC m.m _ g o];split
  ·exact⟨rfl,rfl,rfl,rfl,rfl⟩
  ·exact .refl _
 have A:aB (rF m ⟨pE m.m (ja m.m),(jG m.m (ja m.m+1):Nat)⟩) g=fr0:=JH (m:=rF m ⟨pE m.m (ja m.m),(jG m.m (ja m.m+1):Nat)⟩) (by show(pE m.m (ja m.m)).length<=g;rw[jC];exact o);rw[A,JH o];exact .refl _
structure Bu (m m' : Ma) (o:Option Nat):Prop where
 rt:Rt m'
 co:Co m'
 vis:FY m m'
 len:m'.m.fs.length=m.m.fs.length
 sll:m'.sl.length=m.sl.length
 fr:∀g,o≠some g->zW (aB m g) (aB m' g)
 free:∀f,o=some f->f<m.m.fs.length/\aB m' f=frZ/\(aB m f).r≠0
 ents:∀p n,((ent m p n).k=1->o≠some (ent m p n).n.toNat)->ent m' p n=ent m p n
 cas:∀c,c∈m'.ca↔c∈m.ca/\o≠some c.k.toNat
 inv:Inv m m'
theorem Bu.refl(h:Rt m)(i:Co m):Bu m m none:=⟨h,i,.refl m,rfl,rfl,λ_ _ => .refl _,(λ_ e=>by cases e),λ_ _ _=>rfl,λc=>⟨λh=>⟨h,by simp⟩,λh=>h.1⟩,.refl m⟩
theorem reclaimN_ok:∀(t:Nat) (k:Kp),Rt k.m->Co k.m->(reclaimN t k).1.e=k.e/\∃o,Bu k.m (reclaimN t k).1.m o/\((reclaimN t k).2=true↔o≠none)
 | 0,k,h,hc=>⟨rfl,none,Bu.refl h hc,by simp[reclaimN]⟩
 | t+1,k,h,hc=>by
  have P:=h.pt.fr;have E:jr k.e (bu k.m.m)=k.e:=by rw[P];unfold jr;split<;>simp_all
  by_cases V:jv k.m.m<0
  ·have R:reclaimN (t+1) k=(k,false):=by unfold reclaimN;rw[if_pos (.inr V),E]
   rw[R];exact⟨rfl,none,Bu.refl h hc,by simp⟩
  obtain⟨U,T,Z,I,C⟩:=PP P (by omega:0<=jv k.m.m);have R:reclaimN (t+1) k=if nH (rF k.m (gN k.m.m)) (jv k.m.m).toNat=true then(gI ⟨rF k.m (gN k.m.m),k.e⟩ (jv k.m.m).toNat,true)else reclaimN t (gI ⟨rF k.m (gN k.m.m),k.e⟩ (jv k.m.m).toNat):=by
   conv=>lhs;unfold reclaimN
   rw[if_neg (by rintro(e | e);exact e P;exact V e)];rfl
  generalize hF:(jv k.m.m).toNat=F at *
  obtain⟨y,A,J⟩:=TL (m:=k.m) (m':=rF k.m (gN k.m.m)) h hc ⟨rfl,rfl,rfl,rfl,rfl⟩ rfl Z I C;have K:Inv k.m (rF k.m (gN k.m.m)):=SV.inv (.of rfl rfl λc S _=>⟨S,(C _).2.2.1,(C _).1⟩) h hc y A;have N:F<(rF k.m (gN k.m.m)).m.fs.length:=by show F<(gN k.m.m).fs.length;rw[I];exact U
  have L:(aB (rF k.m (gN k.m.m)) F).r≠0:=by rw[(C F).2.1];exact T
  have z:=RJ (k:=⟨rF k.m (gN k.m.m),k.e⟩) y A N L;rw[R]
  by_cases O:nH (rF k.m (gN k.m.m)) F=true
  ·rw[if_pos O]at z;obtain⟨he,u⟩:=z;rw[if_pos O];refine⟨he,some F,⟨u.rt,u.co,J.trans u.vis,u.len.trans I,u.sll,λg Q => ?_,λf e => ?_,λp n D => ?_,λc => ?_,K.trans (u.inv y A N)⟩,by simp⟩
   ·have D:g≠F:=λe=>Q (by rw[e]);exact(C g).trans (by rw[u.oth g D];exact .refl _)
   ·cases e;exact⟨U,u.free,T⟩
   ·exact u.ents p n (λe=>by have h2:((ent k.m p n).n:Int)=F:=e.2;exact D e.1 (by rw[h2,bv]))
   refine(u.cas c).trans ⟨λG=>⟨G.1,λe=>G.2 ?_⟩,λG=>⟨G.1,λe=>G.2 (by rw[e,bv])⟩⟩;have:=(h.ca.lt c G.1).1;simp only[jo]at e;omega
  rw[if_neg O]at z;rw[if_neg O,z];obtain⟨i1,o,i,i2⟩:=reclaimN_ok t ⟨rF k.m (gN k.m.m),k.e⟩ y A;refine⟨i1,o,⟨i.rt,i.co,J.trans i.vis,i.len.trans I,i.sll,λg Q=>(C g).trans (i.fr g Q),λf e => ?_,i.ents,i.cas,K.trans i.inv⟩,i2⟩;obtain⟨Y,a2,W⟩:=i.free f e;refine⟨?_,a2,?_⟩
  ·have Y:f<(rF k.m (gN k.m.m)).m.fs.length:=Y;have:(rF k.m (gN k.m.m)).m.fs.length=k.m.m.fs.length:=I;omega
  ·rw[(C f).2.1]at W;exact W
theorem NA{k:Kp}(h:Rt k.m)(i:Co k.m):(gP k).1.e=k.e/\∃o,Bu k.m (gP k).1.m o/\((gP k).2=true↔o≠none):=reclaimN_ok _ k h i
theorem KT{k:Kp}{p:Page}{f i:Int}(y:bu k.m.m=0)(u:bT (bL p f i)=0) :
  (∃g:Nat,g<k.m.m.fs.length/\(aB k.m g).r=0/\kZ k p f i=(Kp.mk (setFr k.m g (bL p f i)) k.e,(g:Int)))\/(kZ k p f i=(k,-1)/\dU k.m.m.fs=0):=by
 by_cases h:ig k.m.m p f i=0
 ·obtain⟨_,_,g,o,z,C,A⟩:=VX h;refine .inl ⟨g,o,?_,?_⟩
  ·have:=sQ o;rw[aI o]at this;rw[<-aM this];exact z
  unfold kZ;rw[if_neg (by rw[h];simp),C,A];rfl
 refine .inr ⟨by unfold kZ;rw[if_pos h],?_⟩;refine QT (p:=p) (file:=f) (index:=i) ?_;unfold ig at h ⊢;rw[if_neg (by rw[y];simp),if_neg (by rw[u];simp)]at h ⊢
 by_cases t:wU k.m.m.fs=none
 ·rw[if_pos t]
 ·rw[if_neg t]at h;exact absurd rfl h
theorem GU(h:dU m.m.fs=0)(i:g<m.m.fs.length):(aB m g).r≠0:=by
 intro e;unfold dU at h;have:=Eh.1 h;have h2:aB m g∈m.m.fs.filter (λf=>decide (f.r=0)):=Ab.2 ⟨Ou i,by simpa using e⟩;rw[this]at h2;cases h2
theorem QX(h:dU m.m.fs≠0):∃g,g<m.m.fs.length/\(aB m g).r=0:=by
 unfold dU at h;obtain⟨x,o⟩:=List.exists_mem_of_length_pos (Nat.pos_of_ne_zero h);obtain⟨t,h2⟩:=Ab.1 o;obtain⟨i,e,rfl⟩:=jJ.1 t;refine⟨i,e,?_⟩;have:=sQ (m:=m) e;rw[aI e]at this;rw[<-aM this];simpa using h2
theorem Dy{k:Kp}{p:Page}{f i:Int}(h:Rt k.m)(I:Co k.m)(F:bT (bL p f i)=0) :
  (∃(g:Nat) (m1:Ma) (o:Option Nat),Bu k.m m1 o/\g<m1.m.fs.length/\aB m1 g=frZ/\eG k p f i=(Kp.mk (setFr m1 g (bL p f i)) k.e,(g:Int))) \/
  (∃m1,Bu k.m m1 none/\eG k p f i=(Kp.mk m1 k.e,-1)/\dU k.m.m.fs=0):=by
 have E:∀(m:Ma) (g:Nat),Pt m->g<m.m.fs.length->(aB m g).r=0->aB m g=frZ:=λm g L O K=>OY (L.frE O) K;unfold eG
 by_cases C:dU k.m.m.fs=0
 ·rw[if_pos C];obtain⟨G,o,z,J⟩:=NA h I
  by_cases t:(gP k).2=true
  ·rw[if_pos t];obtain⟨y,a⟩:∃y,o=some y:=by
    cases o with
    | none=>exact absurd rfl (J.1 t)
    | some y=>exact⟨y,rfl⟩
   obtain⟨Q,P,_⟩:=z.free y a;rcases KT (k:=(gP k).1) (p:=p) (f:=f) (i:=i) z.rt.pt.fr F with⟨g,A,u,D⟩|⟨_,u⟩
   ·exact .inl ⟨g,(gP k).1.m,o,z,A,E _ g z.rt.pt A u,by rw[D,G]⟩
   ·exact absurd (by rw[P];rfl) (GU u (g:=y) (by rw[z.len];exact Q))
  rw[if_neg t];have N:o=none:=by
   cases o with
   | none=>rfl
   | some y=>exact absurd (J.2 (by simp)) t
  subst N;refine .inr ⟨(gP k).1.m,z,?_,C⟩;rw[<-G]
 rw[if_neg C];rcases KT (k:=k) (p:=p) (f:=f) (i:=i) h.pt.fr F with⟨g,A,u,D⟩|⟨_,u⟩
 ·exact .inl ⟨g,k.m,none,Bu.refl h I,A,E _ g h.pt A u,D⟩
 ·exact absurd u C
theorem SK{x:Fr}(h:bT x=0)(i:x.r≠0):bT (lC x)=0:=by
 rw[dN]at h ⊢;exact⟨h.1,λe=>absurd e i,h.2.2⟩
theorem OB(h:Rt m)(t:Co m)(i:g<m.m.fs.length)(o:(aB m g).r≠0):Rt (setFr m g (lC (aB m g)))/\Co (setFr m g (lC (aB m g)))/\FY m (setFr m g (lC (aB m g))):=
 TL h t ⟨rfl,rfl,rfl,rfl,rfl⟩ rfl (FK h.pt.fr (SK (h.pt.frE i) o)) fu λx=>by
  rw[gB i]
  by_cases e:x=g
  ·rw[if_pos e,e];exact⟨rfl,rfl,rfl,rfl,rfl⟩
  ·rw[if_neg e];exact .refl _
theorem Pb(p:Page)(n:Int):dx (dx p n) n=dx p n:=by
 apply yC;intro i e;simp only[dx,qX];split<;>rfl
theorem TH(n:Int):dx zPg n=zPg:=by
 apply yC;intro i o;simp only[dx,qX];have e:zPg[i]=0:=by
  match i,o with
  | 0,_=>rfl
  | 1,_=>rfl
  | 2,_=>rfl
  | 3,_=>rfl
  | 4,_=>rfl
  | 5,_=>rfl
  | 6,_=>rfl
  | 7,_=>rfl
  | n+8,h=>omega
 split<;>rw[e]
theorem Ig(m:Ma)(f i:Int):dx (dB m f i) ((aN m.st f).n-i*8)=dB m f i:=by
 unfold dB;split
 ·exact Pb _ _
 ·exact TH _
theorem zN{f i k:Int}:∀ {l:List Cc},l.Pairwise CZ->(∀c∈l,¬(c.f=f/\c.i=i))->(l.insertIdx (sP l f i) ⟨f,i,k⟩).Pairwise CZ
 | [],_,_=>by simp[sP]
 | c::l,hs,hno=>by
  obtain⟨u,h2⟩:=ui.1 hs;have y:=hno c iN
  by_cases t:Cq f i c=true
  ·have:sP (c::l) f i=0:=by unfold sP;rw[Aj,if_pos t];rfl
   rw[this,List.insertIdx_zero];have o:CZ ⟨f,i,k⟩ c:=by have:=yn.1 t;unfold CZ;simp only;omega
   refine ui.2 ⟨λd e => ?_,hs⟩;rcases dz.1 e with rfl|e
   ·exact o
   have:=u d e;unfold CZ at this o ⊢;omega
  have:sP (c::l) f i=sP l f i+1:=by unfold sP;rw[Aj,if_neg t];cases l.findIdx? (Cq f i)<;>rfl
  rw[this,Dg];refine ui.2 ⟨λd e => ?_,zN h2 λd e=>hno d (jY _ e)⟩;rcases(yS (AO l f i)).1 e with rfl|e
  ·have:¬(f<c.f\/c.f=f/\i<=c.i):=λh=>t (yn.2 h);unfold CZ;simp only;omega
  ·exact u d e
theorem uI{α:Type}(q:α->Bool)(x:α):∀(l:List α) (j:Nat),j<=l.length->(l.insertIdx j x).countP q=l.countP q+sO (q x)
 | l,0,_=>by rw[List.insertIdx_zero,uU];rfl
 | [],j+1,h=>by simp at h
 | a::l,j+1,h=>by rw[Dg,uU,uU,uI q x l j (by simpa using h)];omega
def rE(m1:Ma)(g:Nat)(p:Page)(f i:Int):Ma:={ setFr m1 g (bL p f i)with ca:=m1.ca.insertIdx (sP m1.ca f i) ⟨f,i,g⟩ }
theorem UR{f i:Int}(h:Rt m1)(P:Co m1)(S:g<m1.m.fs.length)(R:aB m1 g=frZ)(E:qP m1.st f i)(K:∀c∈m1.ca,¬(c.f=f/\c.i=i)) :
  Rt (rE m1 g (dB m1 f i) f i)/\Co (rE m1 g (dB m1 f i) f i)/\FY m1 (rE m1 g (dB m1 f i) f i):=by
 have v:=zB h.pt.st E;have hb:bT (bL (dB m1 f i) f i)=0:=by rw[dN];have Q:=E.1;have h2:=E.2;exact⟨⟨by show(0:Int)<=1;decide,by show(1:Int)<=1000;decide,by show -1<=f;omega,v.1,h2.1,v.2.1⟩,λ(e:(1:Int)=0)=>absurd e (by decide),λ(e:f<0)=>by omega⟩
 have j:∀x,aB (rE m1 g (dB m1 f i) f i) x=if x=g then bL (dB m1 f i) f i else aB m1 x:=λx=>gB S x;have b:∀x,x≠g->aB (rE m1 g (dB m1 f i) f i) x=aB m1 x:=λx G=>by rw[j,if_neg G]
 have d:(rE m1 g (dB m1 f i) f i).m.fs.length=m1.m.fs.length:=fu;have a:∀c,c∈(rE m1 g (dB m1 f i) f i).ca↔c=⟨f,i,g⟩\/c∈m1.ca:=λc=>yS (AO _ _ _);have u:∀c∈m1.ca,c.k.toNat≠g:=λc A e=>by have:=(h.ca.fr c A).1;rw[e,R]at this;exact absurd this (by decide)
 have l:∀D C,dB (rE m1 g (dB m1 f i) f i) D C = dB m1 D C:=λ_ _=>rfl;have q:bR m1 1 g=0/\uf m1 g=0:=by have:=h.cf g S;rw[R]at this;have e:frZ.r=0:=rfl;omega
 have Z:Pt (rE m1 g (dB m1 f i) f i):={ fr:=FK h.pt.fr hb,sl:=h.pt.sl,sw:=h.pt.sw,dk:=h.pt.dk,st:=h.pt.st,swl:=h.pt.swl,dkl:=h.pt.dkl,spl:=h.pt.spl,ar:=h.pt.ar,tb:=h.pt.tb };have o:uW (rE m1 g (dB m1 f i) f i):=by
  refine⟨λc A => ?_,λc A => ?_,λc A => ?_,zN h.ca.srt K⟩
  ·rcases(a c).1 A with rfl|A
   ·exact E
   ·exact h.ca.file c A
  ·rw[d];rcases(a c).1 A with rfl|A
   ·show 0<=(g:Int)/\(g:Int)<_;omega
   ·exact h.ca.lt c A
  rcases(a c).1 A with rfl|A
  ·rw[j,if_pos (bv g)];exact⟨by show(1:Int)<=1;decide,rfl,rfl⟩
  ·rw[b _ (u c A)];exact h.ca.fr c A
 have z:∀D C,aU (rE m1 g (dB m1 f i) f i) D C = aU m1 D C:=by
  intro D C
  by_cases e:D = f/\C = i
  ·rw[e.1,e.2];have Q:=iG o ((a ⟨f,i,g⟩).2 (.inl rfl));rw[show(⟨f,i,(g:Int)⟩:Cc).f=f from rfl,show(⟨f,i,(g:Int)⟩:Cc).i=i from rfl]at Q;rw[Q,j,if_pos (bv g),gJ K];rfl
  rcases oz m1 D C with⟨c,W,A,O,N⟩|⟨W,F⟩
  ·subst O;subst N;rw[iG h.ca A,iG o ((a c).2 (.inr A)),b _ (u c A)]
  rw[gJ F,gJ (λc A => ?_),l];rcases(a c).1 A with rfl|A
  ·exactλe'=>e ⟨e'.1.symm,e'.2.symm⟩
  ·exact F c A
 have w:∀p n,ent (rE m1 g (dB m1 f i) f i) p n=ent m1 p n:=λ_ _=>rfl;have t:∀p n,(ent m1 p n).k=1->(ent m1 p n).n.toNat≠g:=by intro p n I e;have U:=nu (m:=m1) (p:=p) (n:=n) (by rw[I];decide);have h5:=(bG _).1 (nG h.pt p n);have h4:=(nI (m:=m1) (kd:=1) (i:=g)).2 ⟨p,n,U.1,U.2,I,by omega⟩;omega
 refine⟨⟨Z,h.trim,h.live,o,λp n I => ?_,λx G => ?_,λx G V => ?_,h.cs⟩,⟨λc A => ?_,λc A J => ?_,λx G J => ?_⟩,?_⟩
 ·rw[w]at I ⊢;obtain⟨y,L,s⟩:=h.en p n I;exact⟨y,L,s.sw,by rw[d];exact s.lt,λT=>by rw[b _ (t p n T)];exact s.fr T⟩
 ·have a1:uf (rE m1 g (dB m1 f i) f i) x=uf m1 x+sO (decide ((g:Int)=x)):=uI _ _ _ _ (AO _ _ _);have a2:bR (rE m1 g (dB m1 f i) f i) 1 x=bR m1 1 x:=rfl;rw[j,a1,a2]
  by_cases e:x=g
  ·subst e;rw[if_pos rfl,q.1,q.2];have:sO (decide ((x:Int)=(x:Int)))=1:=by simp[sO]
   rw[this];rfl
  rw[if_neg e];have:sO (decide ((g:Int)=(x:Int)))=0:=by unfold sO;rw[if_neg];simp only[decide_eq_true_eq];omega
  rw[this];exact h.cf x (by rw[<-d];exact G)
 ·by_cases e:x=g
  ·exact⟨⟨f,i,g⟩,(a _).2 (.inl rfl),by rw[e]⟩
  rw[b x e]at V;obtain⟨c,A,Y⟩:=h.fc x (by rw[<-d];exact G) V;exact⟨c,(a c).2 (.inr A),Y⟩
 ·rcases(a c).1 A with rfl|A
  ·rw[j,if_pos (bv g)];exact Ig m1 f i
  ·rw[b _ (u c A)];exact P.tail c A
 ·rcases(a c).1 A with rfl|A
  ·rw[j,if_pos (bv g),l];rfl
  rw[b _ (u c A)]at J ⊢;rw[l];exact P.clean c A J
 ·by_cases e:x=g
  ·rw[j,if_pos e]at J;cases J
  ·rw[b x e]at J ⊢; exact P.anon x (by rw[<-d];exact G) J
 refine Fx h.pt (iF.of rfl) (mr.refl _) (λD C _=>z D C) λp n y L => ?_;rw[w];refine qK h.pt.st (h.pt.pg L).1 (mr.refl _) (λD C _=>z D C) (λI => ?_) (λ_=>⟨rfl,rfl⟩);have:=b _ (t p n I);exact⟨congrArg Fr.p this,congrArg Fr.f this⟩
structure Vh (m m' : Ma) (f i r:Int):Prop where
 rt:Rt m'
 co:Co m'
 vis:FY m m'
 len:m'.m.fs.length=m.m.fs.length
 sll:m'.sl.length=m.sl.length
 ents:∀p n,(ent m p n).k≠1->ent m' p n=ent m p n
 no:r<0->dU m.m.fs=0
 yes:0<=r->⟨f,i,r⟩∈m'.ca
 inv:Inv m m'
theorem Hz{k:Kp}{f i:Int}(h:Rt k.m)(K:Co k.m)(C:qP k.m.st f i):(fB k f i).1.e=k.e/\Vh k.m (fB k f i).1.m f i (fB k f i).2:=by
 unfold fB
 by_cases D:JY k.m.ca f i=true
 ·rw[if_pos D];obtain⟨c,r,U,V⟩:=JL D;have a:=bP r;have T:Cv k.m (sP k.m.ca f i)=c:=by unfold Cv;rw[aW,r];rfl
  have hj:=h.ca.lt c a;have s:=h.ca.fr c a;obtain⟨R,Q,Z⟩:=OB h K (g:=c.k.toNat) (by omega) (by omega);simp only[T];have y:c.k.toNat<k.m.m.fs.length:=by omega
  refine⟨trivial,R,Q,Z,fu,rfl,λ_ _ _=>rfl,λF=>by omega,λ_ => ?_,SV.inv (.of rfl rfl λd E _=>⟨E,?_⟩) h K R Q⟩
  rotate_left
  ·rw[gB y]
   by_cases e:d.k.toNat=c.k.toNat
   ·rw[if_pos e,e];exact⟨rfl,rfl⟩
   ·rw[if_neg e];exact⟨rfl,rfl⟩
  have:(⟨f,i,c.k⟩:Cc)=c:=by rw[<-U,<-V]
  rw[this];exact a
 rw[if_neg D];have t:∀c∈k.m.ca,¬(c.f=f/\c.i=i):=λc a e=>D ((Jy h.ca.srt).2 ⟨c,a,e⟩);have W:Fs k f i=k.e:=by
  unfold Fs
  by_cases L:0<=bO k.m.st f i
  ·rw[if_pos L];have:aL k.m.dk (bO k.m.st f i)=0:=kF.2 ⟨h.pt.dk,L,by rw[h.pt.dkl];exact(block_lt h.pt.st C).2⟩;rw[this];unfold jr;split<;>simp_all
  ·rw[if_neg L]
 rw[W];have q:=zB h.pt.st C;have w:bT (bL (dB k.m f i) f i)=0:=by rw[dN];have h1:=C.1;have h2:=C.2;exact⟨⟨by show(0:Int)<=1;decide,by show(1:Int)<=1000;decide,by show -1<=f;omega,q.1,h2.1,q.2.1⟩,λ(e:(1:Int)=0)=>absurd e (by decide),λ(e:f<0)=>by omega⟩
 rcases Dy (k:=⟨k.m,k.e⟩) (p:=dB k.m f i) (f:=f) (i:=i) h K w with⟨g,m1,o,A,N,S,G⟩|⟨m1,A,G,F⟩
 ·simp only[G];rw[if_neg (by omega)];have l:∀c∈m1.ca,¬(c.f=f/\c.i=i):=λc a=>t c ((A.cas c).1 a).1;have v:qP m1.st f i:=C.same A.vis.files A.vis.lenb;have E:dB k.m f i=dB m1 f i:=by rw[<-gJ t,<-gJ l];exact(A.vis.con f i C).symm
  rw[E];obtain⟨P,O,Y⟩:=UR A.rt A.co N S v l;refine⟨rfl,P,O,A.vis.trans Y,fu.trans A.len,A.sll,λp n I => ?_,λF=>by simp only at F;omega,λ_=>(yS (AO _ _ _)).2 (.inl rfl),A.inv.trans (SV.inv (.of rfl rfl λd E z => ?_) A.rt A.co P O)⟩
  rotate_left
  ·have s:∀x,aB (rE m1 g (dB m1 f i) f i) x=if x=g then bL (dB m1 f i) f i else aB m1 x:=λx=>gB N x;have j : (aB (rE m1 g (dB m1 f i) f i) d.k.toNat).d=true:=z;rw[s]at j;have u:d.k.toNat≠g:=λe=>by rw[if_pos e]at j; cases j
   have b:=s d.k.toNat;rw[if_neg u]at b;rcases(yS (AO _ _ _)).1 E with rfl|J
   ·exact absurd (bv g) u
   ·exact⟨J,congrArg Fr.d b,congrArg Fr.p b⟩
  exact A.ents p n (λe=>absurd e I)
 simp only[G];rw[if_pos (by decide)];exact⟨rfl,A.rt,A.co,A.vis,A.len,A.sll,λp n I=>A.ents p n (λe=>absurd e I),λ_=>F,λ(e:(0:Int)<=-1)=>absurd e (by decide),A.inv⟩
theorem Qs(k:Kp)(p:Nat)(n:Int)(x:En):(fo k p n x).m.sp.length=k.m.sp.length:=by
 unfold fo;split
 ·exact vI
 ·rfl
theorem Rf(k:Kp)(p:Nat)(n:Int)(x:En):(fo k p n x).m.ca=k.m.ca:=by unfold fo;split<;>rfl
theorem Qh(k:Kp)(p:Nat)(n:Int)(x:En):(fo k p n x).m.m=k.m.m:=by unfold fo;split<;>rfl
theorem Qv(k:Kp)(f n:Int):(gH k f n).m.sp=k.m.sp:=by unfold gH;split<;>rfl
theorem QG(k:Kp)(f n:Int):(gH k f n).m.ca=k.m.ca:=by unfold gH;split<;>rfl
theorem PQ(k:Kp)(f n:Int):(gH k f n).m.m.fs.length=k.m.m.fs.length:=by
 unfold gH;split
 ·rename_i h;show(lX k.m.m f n).fs.length=_;unfold lX;rw[if_pos h];exact bI
 ·rfl
theorem QW(k:Kp)(f n:Int):(oq k f n).m.sp=k.m.sp:=by unfold oq;split<;>rfl
theorem Ry(k:Kp)(f n:Int):(oq k f n).m.ca=k.m.ca:=by unfold oq;split<;>rfl
theorem Pm(k:Kp)(f n:Int):(oq k f n).m.m=k.m.m:=by unfold oq;split<;>rfl
structure jZ (k k' : Kp):Prop where
 sp:k'.m.sp.length=k.m.sp.length
 ca:k'.m.ca=k.m.ca
 fs:k'.m.m.fs.length=k.m.m.fs.length
theorem jZ.refl(k:Kp):jZ k k:=⟨rfl,rfl,rfl⟩
theorem jZ.trans{a b c:Kp}(h:jZ a b)(k:jZ b c):jZ a c:=⟨k.sp.trans h.sp,k.ca.trans h.ca,k.fs.trans h.fs⟩
theorem jZ.enter(k:Kp)(p:Nat)(n:Int)(x:En):jZ k (fo k p n x):=⟨Qs k p n x,Rf k p n x,by rw[Qh]⟩
theorem jZ.hold(k:Kp)(f n:Int):jZ k (gH k f n):=⟨by rw[Qv],QG k f n,PQ k f n⟩
theorem jZ.shold(k:Kp)(f n:Int):jZ k (oq k f n):=⟨by rw[QW],Ry k f n,by rw[Pm]⟩
theorem jZ.drop(k:Kp)(p:Nat)(n:Int):jZ k (jV k p n):=by
 unfold jV;simp only;split
 ·exact(jZ.hold _ _ _).trans (jZ.enter _ _ _ _)
 split
 ·exact(jZ.shold _ _ _).trans (jZ.enter _ _ _ _)
 ·exact .refl _
theorem jZ.drops:∀(l:List (Nat × Int)) (k:Kp),jZ k (lW k l)
 | [],k => .refl k
 | u::l,k=>(jZ.drop k u.1 u.2).trans (jZ.drops l _)
theorem jZ.swap(f n:Int)(k:Kp)(u:Nat × Int):jZ k (GV f n k u):=(jZ.hold _ _ _).trans (jZ.enter _ _ _ _)
theorem jZ.swaps(f n:Int):∀(l:List (Nat × Int)) (k:Kp),jZ k (tK k f n l)
 | [],k => .refl k
 | u::l,k=>(jZ.swap f n k u).trans (jZ.swaps f n l _)
theorem jZ.clean(k:Kp)(f:Nat):jZ k (lF k f):=by
 unfold lF;simp only;split
 ·exact .refl _
 ·exact⟨rfl,rfl,bI⟩
theorem NQ(k:Kp)(l:List (Nat × Int))(j:Nat)(h:j<l.length):lW k (l.take (j+1))=jV (lW k (l.take j)) l[j].1 l[j].2:=by
 unfold lW;rw[oC,aI h,Dz];rfl
theorem Oa(k:Kp)(f n:Int)(l:List (Nat × Int))(j:Nat)(h:j<l.length):tK k f n (l.take (j+1))=GV f n (tK k f n (l.take j)) l[j]:=by
 unfold tK;rw[oC,aI h,Dz];rfl
theorem rC.stay(h:rC w B v ps)(e:w.grownBy w' none):rC w' B v ps:=⟨lJ h.own e,λk p i=>lJ (h.each k p i) e,h.apart⟩
theorem sM.stay{t:Tb}(h:sM w B cs t)(i:w.grownBy w' none):sM w' B cs t:=
 ⟨h.sz,λk e=>by obtain⟨v,o,h2⟩:=h.own k e;exact⟨v,o,lJ h2 i⟩,h.apart⟩
theorem lD.cache{e:Int}(h:lD w B b H e)(s:KS w0 b H0 w H)(i:w.grownBy w1 (oB H.ac)){l:List Cc}(D:Own w1 B 122 3 (.slice a l.length c) l.length (l.flatMap iL))(C:oB a=oB H.ac\/∀g,oB a=some g->w0.heap.size<=g) :
  aG w1 b (rD H e) 109/\∀A,aG A b (bH (rD H e) 9 [.slice a l.length c]) 109->w1.grownBy A (some b)->lD A B b { H with ac:=a,cc:=c,ca:=l } e/\KS w0 b H0 A { H with ac:=a,cc:=c,ca:=l }:=by
 have y:aG w1 b (rD H e) 109:=by refine h.blk.grown i λe => ?_;obtain⟨_,cs,t⟩:=jf h.ma.ca e;exact mG h.blk t (by decide) rfl
 have u:tT w1 B { H with ac:=a,cc:=c,ca:=l }:=by
  cases hac:oB H.ac with
  | none=>
   rw[hac]at i;exact⟨lJ h.ma.fr i,lJ h.ma.sl i,⟨lJ h.ma.sw.b i,lJ h.ma.sw.q i⟩,⟨lJ h.ma.dk.b i,lJ h.ma.dk.q i⟩,h.ma.st.stay i,D,lJ h.ma.sp i,λq z=>⟨lJ (h.ma.ps q z).1 i,(h.ma.ps q z).2.stay i⟩,h.ma.c64⟩
  | some g=>
   rw[hac]at i;obtain⟨_,cs,t⟩:=jf h.ma.ca hac;exact⟨ax h.ma.fr t i,ax h.ma.sl t i,h.ma.sw.keep t (by decide) (by decide) i,h.ma.dk.keep t (by decide) (by decide) i,h.ma.st.keep t (by decide) (by decide) i,D,ax h.ma.sp t i,λq z=>⟨ax (h.ma.ps q z).1 t i,(h.ma.ps q z).2.keep t (by decide) i⟩,h.ma.c64⟩
 have E:KS w0 b H0 w1 H:=by
  cases hac:oB H.ac with
  | none=>
   rw[hac]at i;exact⟨i.os.trans s.os,i.tape.trans s.tape,i.output.trans s.output,bi s.size i.size,λx o F=>(i.block x (pu o s.size) (by simp)).trans (s.keep x o F),s.sn⟩
  | some g=>rw[hac]at i;exact s.put i (.inr (.inr (.inl hac))) λx o => .inl o
 refine⟨y,λA t d=>⟨⟨t,h.ge,?_,h.tz⟩,E.put d (.inl rfl) λx o => ?_⟩⟩
 ·exact⟨ax u.fr y d,ax u.sl y d,u.sw.keep y (by decide) (by decide) d,u.dk.keep y (by decide) (by decide) d,u.st.keep y (by decide) (by decide) d,ax u.ca y d,ax u.sp y d,λq z=>⟨ax (u.ps q z).1 y d,(u.ps q z).2.keep y (by decide) d⟩,u.c64⟩
 rcases o with o|o|o|o
 ·exact .inl (.inl o)
 ·exact .inl (.inr (.inl o))
 ·rcases C with e|e
  ·exact .inl (.inr (.inr (.inl (by rw[<-e];exact o))))
  ·exact .inr (e x o)
 ·exact .inl (.inr (.inr (.inr o)))
theorem Pv{k:Kp}(h:lN k.m f=false):lF k f=k:=by
 unfold lN at h;simp only[Df,decide_eq_false_iff_not]at h;unfold lF;simp only;rw[if_pos (.inr (.inr h.2))]
theorem OJ(u:Nat × Int):(uC u).all (·.oneCell')=true:=by simp[uC,Value.oneCell']
theorem slca_size:(Tryz.prog.info? 42).map (·.size)=some 1:=by kernel_rfl
theorem Wl{l:List (Nat × Int)}(h:eu w a (l.flatMap uL))(k:Nat)(i:k<l.length):∃b e,a=some ⟨b,e,none⟩/\eu w (some ⟨b,e+k*2,none⟩) [.int .i64 l[k].1,.int .i64 l[k].2]:=jO WX h k i
theorem Om(H:MH)(e:Int)(f:Nat)(B b:Nat)(w:World)(h:lD w B b H e)(hf:f<H.m.fs.length)(hz:H.sp.length<=1000)(hz2:H.ca.length<=1000) :
  Calls Tryz.prog 173 #[.pointer (some ⟨b,0,none⟩),.int .i64 f] w λr w'=>r = .returned (.bool (nH H.ma f))/\KR w B b H w' (gI ⟨H.ma,e⟩ f):=by
 obtain⟨g,off,cur,ga,gt,k0,kW,kK,gs,gr,kI⟩:=h.frame hf;generalize hx:aB H.ma f=x at *
 have hR:=ae hx;clear hx kI gs;have hc:=h.blk.cell;unfold rD at hc;rw[ga]at hc;have gL:(f:Int)<(H.m.fs.length:Int):=by omega
 go_enter func173,ntmps173
 go_wp2_with (first | (refine ay g (off+f*13) _ kK _ underlying66 rfl frame_size ?_) | (refine aJ rfl rfl (tV x) rfl rfl rfl frame_size (pq x) ?_))
 intro w1 kz kn;have h1:=h.below kz;have s1:=(KS.refl w b H).below kz;have hp:¬kb b H w.heap.size:=λZ=>by obtain⟨cs,T,D,_⟩:=h.kb_T Z;have:=D.lt;omega
 have gb:=ae h.bs;clear hc kK k0 kW kz gt gr ga h
 go_wp2_with fail
 refine(MX H e f B b _ h1 hz).mono ?_;rintro r w2 ⟨v2,rfl,hL,hX⟩;obtain⟨a2,c2,rfl,_⟩:=hL.rd;have h2:=h1.below hX;have s2:=s1.below hX;have hs:=kn.ext hX;have gF:=kn.lt;clear h1 s1 kn hX;have hB:=hs.cell;unfold tV at hB
 by_cases J:0<=x.f
 ·go_wp2_with fail
  refine(Oc H e f B b _ h2 hf).mono ?_;rintro r E ⟨rfl,H3,e3,h3,S,q3⟩;have hy:=S.own h2 (hL.mono (bq _)) (by decide);have hN:¬kb b H w.heap.size:=hp;have km:=S.blkN hs hN;have ki:¬kb b H3 w.heap.size:=λZ=>(S.sn _ Z).elim hN (λhh=>by have:=hs.lt;omega);have s03:=s2.trans S;have kR:H3.sp.length=H.sp.length/\H3.ca=H.ca/\H3.m.fs.length=H.m.fs.length:=by have C:=jZ.clean ⟨H.ma,e⟩ f;rw[<-q3]at C;exact⟨by have:=C.sp;simp only[rX]at this;exact this,C.ca,C.fs⟩
  have gg:=hs.lt;clear hB hs hL h2 s2 S hp hN;cases hcb:lN H.ma f with
  | false=>
   have C:Hid (gI ⟨H.ma,e⟩ f=⟨H.ma,e⟩/\nH H.ma f=false):=ae (by unfold gI nH;simp only[hR.out];rw[if_pos J,if_pos hcb,if_pos J];exact⟨rfl,hcb⟩);rw[Pv (k:=⟨H.ma,e⟩) hcb]at q3;have gj:=ae q3;clear q3 km;go_wp2;go_ret;rw[C.out.1,C.out.2];exact⟨rfl,_,_,h3,s03,gj.out⟩
  | true=>
   have Q:Hid (bD H.ma f=bD H.ma f):=ae rfl;have gl:(bD H.ma f).length<=64000:=by
    have:=DZ H.ma f H.sp.length;have e1:tZ H.ma f H.sp.length=bD H.ma f:=by unfold tZ bD;rw[rX]
    rw[e1]at this;omega
   obtain⟨G,kw⟩:∃k,k=lF ⟨H.ma,e⟩ f:=⟨_,rfl⟩;rw[<-kw]at q3;have hI:∀u∈bD H.ma f,u.1<H.sp.length:=λu Q=>by have:=(vB.1 Q).1;rw[rX]at this;exact this
   have C:Hid (nH H.ma f=true/\gI ⟨H.ma,e⟩ f=if JY (lW G (bD H.ma f)).m.ca x.f x.i=true then gH ⟨{ (lW G (bD H.ma f)).m with ca:=(lW G (bD H.ma f)).m.ca.eraseIdx (sP (lW G (bD H.ma f)).m.ca x.f x.i) },(lW G (bD H.ma f)).e⟩ f (-1)else lW G (bD H.ma f)):=ae (by unfold gI nH;simp only[hR.out];rw[if_pos J,if_pos J,if_neg (by rw[hcb];decide),kw];exact⟨hcb,rfl⟩);generalize bD H.ma f=l at *
   have q3':=ae q3;have hH:=ae hI;clear q3 hcb kw Q hI;go_upto_region 7 with(fail)
   go_loopw [38] (fun s38 wr => ∃(j:Nat) (A:MH) (O:Int),j<=l.length/\s38 = .int .i64 j/\lD wr B b A O/\KS w b H wr A/\Hid (Kp.mk A.ma O=lW G (l.take j))/\Own wr 0 247 2 (.slice a2 l.length c2) l.length (l.flatMap uL)/\aG wr w.heap.size (tV x) 66/\¬kb b A w.heap.size/\A.sp.length=H.sp.length/\A.ca=H.ca) (fun s38 _=>l.length-(intOf s38).toNat)
   case atStart=>exact⟨0,H3,e3,bq _,rfl,h3,s03,ae (by rw[q3'.out];rfl),hy,km,ki,kR.1,kR.2.1⟩
   case round=>
    clear hy km ki h3 s03;obtain⟨j,A,O,hj,rfl,ha,F,V,z,hQ,kh,hM,ky⟩:=hrel
    by_cases I:j<l.length
    ·have kx:(j:Int)<(l.length:Int):=by omega
     obtain⟨_,_,e9,_,_,_,hG⟩:=z.rd;cases e9;obtain⟨bl,ol,rfl,hF⟩:=Wl hG j I;have ko:l[j].1<H.sp.length:=hH.out _ (fe I)
     go_wp2_with (first | (refine ay bl (ol+j*2) _ hF _ underlying247 rfl us_size ?_) | (refine aJ rfl rfl (uC l[j]) rfl rfl rfl us_size (OJ _) ?_))
     intro w5 Y kH;have R:=ha.below Y;have U:=F.below Y;have hJ:=z.below Y;have hD:=hQ.ext Y;have gC:=hD.lt;clear ha F z hQ hG hF Y;have kZ:=kH.cell;unfold uC at kZ
     go_wp2_with fail
     refine(BR A O l[j].2 l[j].1 B b _ R (by rw[hM];exact ko)).mono ?_;rintro r w6 ⟨rfl,H6,e6,h6,P,q6⟩;have s:=P.own R hJ (by decide);have gf:=P.blkN hD kh;have kT:¬kb b H6 w.heap.size:=λZ=>(P.sn _ Z).elim kh (λhh=>by omega);have s06:=U.trans P;have hU:H6.sp.length=H.sp.length/\H6.ca=H.ca:=by have C:=jZ.drop ⟨A.ma,O⟩ l[j].1 l[j].2;rw[<-q6]at C;exact⟨by have:=C.sp;simp only[rX]at this;rw[this,hM],by have:=C.ca;exact Eq.trans this ky⟩
     have ks:Hid (Kp.mk H6.ma e6=lW G (l.take (j+1))):=ae (by rw[NQ G l j I,<-V.out];exact q6);clear q6 R U hJ hD kZ kH P;go_wp2;go_roundw
     case rel=>exact⟨j+1,H6,e6,by omega,by go_num,h6,s06,ks,s,gf,kT,hU.1,hU.2⟩
     case measure=>simp[intOf];omega
    have kx:¬(j:Int)<(l.length:Int):=by omega
    rw[jD (by omega)]at V;clear z;generalize hkd:lW G l=kd at *
    clear hkd;have hB:=hQ.cell;unfold tV at hB;have kM:=ae (show kd.m.ca=A.ca by rw[<-V.out];rfl);have gq:A.ca.length<=1000:=by rw[ky];exact hz2
    clear ky hM
    go_wp2_with fail
    refine(Eo A O x.f x.i B b _ ha).mono ?_;rintro r w5 ⟨rfl,Y⟩;have R:=ha.below Y;have U:=F.below Y;clear ha F Y hB hQ;cases hi:JY A.ca x.f x.i with
    | false=>
     have kt:Hid (gI ⟨H.ma,e⟩ f=kd):=ae (by rw[C.out.2,kM.out,hi];rfl);generalize sP A.ca x.f x.i=k at *
     go_wp2;go_ret;rw[C.out.1,kt.out];exact⟨rfl,_,_,R,U,V.out⟩
    | true=>
     have kt:Hid (gI ⟨H.ma,e⟩ f=gH ⟨{ kd.m with ca:=A.ca.eraseIdx (sP A.ca x.f x.i) },kd.e⟩ f (-1)):=ae (by rw[C.out.2,kM.out,hi,if_pos rfl]);obtain⟨c,hc,_,_⟩:=JL hi;have kS:=(bZ.1 hc).1;clear hc hi;generalize sP A.ca x.f x.i=k at *
     have kX:=R.blk.cell;unfold rD at kX;have gG:(k:Int)+1<=1000:=by omega
     have hS:IntKind.i64.wrap ((k:Int)+1)=(k:Int)+1:=bK _ (by omega)
     go_wp2_with fail
     refine(Lx A.ca k kS A.ac A.cc B _ R.ma.ca gq).mono ?_;rintro r w6 ⟨rfl,s,hg⟩;have kg:(A.ca.eraseIdx k).length=A.ca.length-1:=Bc kS;rw[<-kg]at s;obtain⟨hK,kp⟩:=R.cache U hg (a:=A.ac) (c:=A.cc) (l:=A.ca.eraseIdx k) s (.inl rfl);rw[kg]at kp;clear kX R U s hg
     go_wp2_with (refine aC b 9 [.slice A.ac (A.ca.length-1) A.cc] rfl rfl rfl _ _ hK (by show 9+1<=12;decide) slca_size (λu Q=>by cases bC.1 Q;rfl) ?_)
     intro w7 hP hr;obtain⟨h7,s7⟩:=kp w7 hP hr;clear kp hK hP hr
     go_wp2_with fail
     refine(xX _ O f (-1) B b _ h7).mono ?_;rintro r w8 ⟨rfl,gn⟩;go_wp2;go_ret;rw[C.out.1,kt.out,<-V.out];exact⟨rfl,KR.trans s7 gn⟩
 have kj:=h2.blk.cell;unfold rD at kj;have hm:=h2.ma.rd.sl;have gl:(bD H.ma f).length<=64000:=by
  have:=DZ H.ma f H.sp.length;have e1:tZ H.ma f H.sp.length=bD H.ma f:=by unfold tZ bD;rw[rX]
  rw[e1]at this;omega
 have hI:∀u∈bD H.ma f,u.1<H.sp.length:=λu Q=>by have:=(vB.1 Q).1;rw[rX]at this;exact this
 have kr:Hid (nH H.ma f=decide (iY H.sl (bD H.ma f).length=0)):=ae (by unfold nH;rw[hR.out,if_neg J];rfl);have kq:Hid (gI ⟨H.ma,e⟩ f=if iY H.sl (bD H.ma f).length≠0 then⟨H.ma,e⟩else tK ⟨{ H.ma with sl:=mU H.sl (bD H.ma f).length,sw:=dR H.sw (kL H.sl (bD H.ma f).length) x.p },jr e (aL H.sw (kL H.sl (bD H.ma f).length))⟩ f (kL H.sl (bD H.ma f).length) (bD H.ma f)):=ae (by unfold gI;simp only[hR.out];rw[if_neg J];rfl);generalize bD H.ma f=l at *
 have hH:=ae hI;clear hI
 go_wp2_with fail
 refine(Mx H.sl H.asl H.csl (l.length:Int) _ hm.le hm.nl hm.rd (by have:=hm.le;have:=hm.mx;unfold maxLen at this;omega)).mono ?_;rintro r E ⟨v3,rfl,hy,hv⟩;obtain⟨a3,c3,rfl,_⟩:=hy.rd;have G:=h2.below hv;have S:=s2.below hv;have kx3:=hs.ext hv;have kf:=hL.below hv;have gh:=ae s2.size;clear hB kj h2 s2 hs hL hv hm
 by_cases hE:iY H.sl l.length=0
 ·have C:Hid (nH H.ma f=true/\gI ⟨H.ma,e⟩ f=tK ⟨{ H.ma with sl:=mU H.sl l.length,sw:=dR H.sw (kL H.sl l.length) x.p },jr e (aL H.sw (kL H.sl l.length))⟩ f (kL H.sl l.length) l):=ae (by rw[kr.out,kq.out,hE];exact⟨rfl,rfl⟩);rw[hE];clear hE kr kq;generalize kL H.sl l.length=N at *
  go_upto_region 19 with(fail);refine kv 15 [_,_,_,_,_,_,_,_,.r 8 ((De E.heap.size (dR H.sw N x.p) (aL H.sw N))),.r 9 ((De E.heap.size (dR H.sw N x.p) (aL H.sw N))),.r 10 ((zg E.heap.size (dR H.sw N x.p))),.v (.int .i64 (aL H.sw N)),.r 12 ((iP E.heap.size 38 2)),.y 13 ((Kk 12 E.heap.size 38 (zg E.heap.size (dR H.sw N x.p)))),.v (.int .i64 (aL H.sw N))] (λW=>Below E.heap.size E W) dV (Below.refl _ _) (Yk dV rfl (Yk dV rfl (Yf dV b 0 rfl rfl (Yf dV b 3 rfl rfl (Yr dV (.agg #[.slice H.wb H.sw.blocks.length H.cwb,.slice H.wq H.sw.queue.length H.cwq]) (λρ y W D kA=>(bJ rfl (aH rfl kA) (G.below D).rdW underlying38 (A:=disk_size))) rfl rfl (Yk dV rfl (Yf dV w.heap.size 0 rfl rfl (Yr dV (.agg (dW x.p)) (λρ y W D kA=>(bJ rfl (aH rfl kA) (bF (kx3.ext D) 0 8) underlying58 (A:=psize))) rfl rfl (ah ?_ (ah ?_ (ah ?_ (ah ?_ (ah ?_ (ah ?_ (Yk dV rfl (aF)))))))))))))))) (λ_=>rfl) rfl ?_
  ·intro ρ y W K hn D L;refine iW dV D ((De E.heap.size (dR H.sw N x.p) (aL H.sw N))) (λ_ _ h=>h) ?_;have gA:=K 94 4 rfl;have h4:y 4=_:=L 4 rfl;have gz:=K 95 5 rfl;have R:y 5=_:=L 5 rfl;have gy:=K 97 7 rfl;have h7:y 7=_:=L 7 rfl;have EF:=eF0 hn λ_=>trivial;refine aP (aS rfl (EF _) func193 (by simp only[bU,bS,aZ,gA,h4,gz,R,gy,h7,EF];rfl)) ?_;refine(FT H.sw N x.p H.wb H.cwb H.wq H.cwq W (G.below D).ma.rd.sw).mono ?_;rintro r W3 ⟨vb,vq,rfl,ho,hv⟩;exact⟨_,rfl,hv,vb,vq,rfl,ho.mono D.size⟩
  ·intro ρ y W K hn D L;refine iW dV D ((De E.heap.size (dR H.sw N x.p) (aL H.sw N))) (λ_ _ h=>h) ?_;have gx:=K 98 8 rfl;have h8:=L 8 rfl;refine ak _ (run_move (.inl rfl) gx) (m:=?_);exact h8
  ·intro ρ y W K hn D L;refine iW dV D ((zg E.heap.size (dR H.sw N x.p))) (λ_ _ h=>h) ?_;have kB:=K 89 9 rfl;have h9:=L 9 rfl;obtain⟨vb,vq,Q,ho⟩:=h9;refine ak (.agg #[vb,vq]) (by simp[execOp,go_sem,bW,kB,Q]) (m:=?_);exact⟨vb,vq,rfl,ho⟩
  ·intro ρ y W K hn D L;refine iW dV D (mW (.int .i64 (aL H.sw N))) (λ_ _ h=>h) ?_;have kB:=K 89 9 rfl;have h9:=L 9 rfl;obtain⟨vb,vq,Q,ho⟩:=h9;refine ak (.int .i64 (aL H.sw N)) (by simp[execOp,go_sem,bW,kB,Q])
  ·intro ρ y W K hn D L;refine iW dV D ((iP E.heap.size 38 2)) (λ_ _ h=>h) ?_;refine jg (.pointer (some ⟨W.heap.size,0,none⟩)) (aj) (by simp[execOp,go_sem,bW]) ((Below.refl _ _).alloc (az _) (.cells #[.slice none 0 0,.slice none 0 0] 38)) ?_;exact⟨_,_,rfl,D.size,aG.new _ _ _,rfl⟩
  ·intro ρ y W K hn D L;have gB:=K 14 12 rfl;have gu:=L 12 rfl;have gw:=K 99 10 rfl;have gv:=L 10 rfl;obtain⟨vb,vq,e7,ku⟩:=gv;obtain⟨g3,cur3,e9,kV,hC,kJ⟩:=gu;obtain⟨ab,cb,rfl,_⟩:=ku.b.rd;obtain⟨aq,cq,rfl,_⟩:=ku.q.rd;refine mH _ _ _ rfl g3 0 (.agg #[.slice ab _ cb,.slice aq _ cq]) [.slice ab _ cb,.slice aq _ cq] (gB.trans e9) (gw.trans e7) rfl cur3 _ hC (by rw[kJ];exact az _) disk_size (bV (xn _ _ _ _ _ _)) ?_;intro w1 hS hA;rw[show ∀(p q:Value),[p,q]=(#[p,q]:Array Value).toList fromλ_ _=>rfl,gK cur3 _ (by rw[kJ];rfl)]at hS;refine⟨D.grown hA D.size (λk Z=>by cases Z;exact kV),⟨g3,_,e9,kV,hS,⟨_,_,rfl,ku.keep hC (by decide) (by decide) hA⟩⟩,?_⟩;intro k Z gk
   match k,Z,gk with
   | 0,_,_|1,_,_|2,_,_|3,_,_|4,_,_|5,_,_|6,_,_|7,_,_=>exactλh=>h
   | 8,_,_|9,_,_|10,_,_=>exactλ⟨c,q0,q1,q2⟩=>⟨c,q0,q1,q2.keep hC (by decide) (by decide) hA⟩
   | 11,_,_=>exactλh=>h
   | 12,_,_=>exactλq=>lh q hS ⟨_,hC⟩ hA
   | 13,_,h=>exact absurd rfl h
   | 14,_,_=>exactλh=>h
   | n+15,h,_=>exact absurd h (by omega)
  intro y W4 d t;replace d:Below E.heap.size E W4:=d;have ge:((De E.heap.size (dR H.sw N x.p) (aL H.sw N))).r (y 8) W4:=t 8 (by decide);have gc:((De E.heap.size (dR H.sw N x.p) (aL H.sw N))).r (y 9) W4:=t 9 (by decide);have kE:((zg E.heap.size (dR H.sw N x.p))).r (y 10) W4:=t 10 (by decide);have kD:((iP E.heap.size 38 2)).r (y 12) W4:=t 12 (by decide);have kC:=t 13 (by decide);clear t;simp only[dn,bW,bS,aZ];obtain⟨gd,cd,gE,gJ,k1,vb,vq,hV,hT⟩:=kC;simp only[yQ]at hV;subst hV;obtain⟨ab,cb,rfl,_⟩:=hT.b.rd;obtain⟨aq,cq,rfl,_⟩:=hT.q.rd;have k4:=G.below d;have s4:=S.below d;have kx4:=kx3.ext d;have ke:=kf.below d;have hZ:=hy.below d;have gi:=ae S.size;have gD:=kx4.lt;clear ge gc kE kD G S kx3 kf hy d
  go_wp2_with fail
  refine(sV _ e (aL H.sw N) _ _ _ k4).mono ?_;rintro r w5 ⟨rfl,k5,ht⟩;have U:=s4.putB ht rfl rfl rfl;have kx5:aG w5 w.heap.size (tV x) 66:=kx4.grown ht (λe=>hp (.inl (aM e).symm));have kc:=ax ke k4.blk ht;have hY:=ax hZ k4.blk ht;have hJ:=hT.keep k4.blk (by decide) (by decide) ht;have hO:=cB k1 k4.blk ht;clear k4 s4 kx4 ke hZ hT k1 ht;have hcb:=k5.blk.cell;have gp:=k5.blk.free;unfold rD at hcb;have hV:=hO.cell;have n2:=mG k5.blk hO (by decide);go_upto_region 21 with(fail)
  go_region
  refine TE (w:=w5.setCells b 2 [.slice a3 (mU H.sl l.length).length c3]) (b:=b) (o:=3) (vs:=[.slice ab (dR H.sw N x.p).blocks.length cb,.slice aq (dR H.sw N x.p).queue.length cq]) (λW=>Exit.then _ _ _ _ W) λw7 hr hP => ?_;have hg:=aD w5 b 2 [.slice a3 (mU H.sl l.length).length c3];have k2:=k5.blk.setCells [.slice a3 (mU H.sl l.length).length c3] 2;have k6:=k5.setL (hY.mono (bi gb.out gh.out)) k2 hg;have P:=U.putB (H':={ H with asl:=a3,csl:=c3,sl:=mU H.sl l.length }) hg rfl rfl rfl;have s:=hJ.keep k5.blk (by decide) (by decide) hg;have ka:=ax kc k5.blk hg;have kx6:=kx5.grown hg (λe=>hp (.inl (aM e).symm));have kl:=hP k6.blk;have k7:=k6.setW (s.mono (bi gb.out gi.out)) kl hr;have s7:=P.putB (H':={ H with asl:=a3,csl:=c3,sl:=mU H.sl l.length,wb:=ab,cwb:=cb,wq:=aq,cwq:=cq,sw:=dR H.sw N x.p }) hr rfl rfl rfl;have h0:=(ax ka k6.blk hr).mono (bq _);have kx7:=kx6.grown hr (λe=>hp (.inl (aM e).symm));clear hP kl hr k6 P s ka kx6 k2 hg k5 U kx5 kc hY hJ hO hcb gp hV;generalize hH7:({ H with asl:=a3,csl:=c3,sl:=mU H.sl l.length,wb:=ab,cwb:=cb,wq:=aq,cwq:=cq,sw:=dR H.sw N x.p }:MH)=H7 at k7 s7;have kP:Hid (Kp.mk H7.ma (jr e (aL H.sw N))=⟨{ H.ma with sl:=mU H.sl l.length,sw:=dR H.sw N x.p },jr e (aL H.sw N)⟩):=ae (by rw[<-hH7];rfl);have gm:H7.sp.length=H.sp.length:=by rw[<-hH7]
  rw[<-kP.out]at C;clear hH7 kP;generalize jr e (aL H.sw N)=e7 at *
  generalize hk7:Kp.mk H7.ma e7=kk at *
  have kU:=ae hk7;clear hk7;go_upto_region 23 with(fail)
  go_loopw [116] (fun s116 wr => ∃(j:Nat) (A:MH) (O:Int),j<=l.length/\s116 = .int .i64 j/\lD wr B b A O/\KS w b H wr A/\Hid (Kp.mk A.ma O=tK kk f N (l.take j))/\Own wr 0 247 2 (.slice a2 l.length c2) l.length (l.flatMap uL)/\A.sp.length=H.sp.length) (fun s116 _=>l.length-(intOf s116).toNat)
  case atStart=>exact⟨0,H7,e7,bq _,rfl,k7,s7,ae (by rw[kU.out];rfl),h0,gm⟩
  case round=>
   clear k7 s7 h0 kx7;obtain⟨j,A,O,hj,rfl,ha,F,V,z,hM⟩:=hrel
   by_cases I:j<l.length
   ·have kx:(j:Int)<(l.length:Int):=by omega
    obtain⟨_,_,e9,_,_,_,hG⟩:=z.rd;cases e9;obtain⟨bl,ol,rfl,hF⟩:=Wl hG j I;have ko:l[j].1<H.sp.length:=hH.out _ (fe I)
    go_wp2_with (first | (refine ay bl (ol+j*2) _ hF _ underlying247 rfl us_size ?_) | (refine aJ rfl rfl (uC l[j]) rfl rfl rfl us_size (OJ _) ?_))
    intro w8 hW kG;have k8:=ha.below hW;have s8:=F.below hW;have kO:=z.below hW;clear ha F z hG hF hW
    go_wp2_with fail
    refine(xX A O f (-1) B b _ k8).mono ?_;rintro r w9 ⟨rfl,H9,e9,k9,s9,q9⟩;have kN:=s9.own k8 kO (by decide);have kF:=s9.blk k8 kG (by decide);have s09:=s8.trans s9;have kQ:H9.sp.length=H.sp.length:=by have C:=jZ.hold ⟨A.ma,O⟩ f (-1);rw[<-q9]at C;have:=C.sp;simp only[rX]at this;rw[this,hM]
    have q9':=ae q9;clear k8 s8 kO kG s9 q9;have kY:=kF.cell;unfold uC at kY
    go_wp2_with fail
    refine(jl H9 e9 l[j].2 l[j].1 ⟨2,N,false⟩ B b _ k9 (by rw[kQ];exact ko)).mono ?_;rintro r w6 ⟨rfl,H6,e6,h6,P,q6⟩;have s:=P.own k9 kN (by decide);have s06:=s09.trans P;have ks:Hid (Kp.mk H6.ma e6=tK kk f N (l.take (j+1))):=ae (by rw[Oa kk f N l j I,<-V.out];unfold GV;rw[<-q9'.out];exact q6);have hU:H6.sp.length=H.sp.length:=by have C:=jZ.enter ⟨H9.ma,e9⟩ l[j].1 l[j].2 ⟨2,N,false⟩;rw[<-q6]at C;have:=C.sp;simp only[rX]at this;rw[this,kQ]
    clear q6 k9 s09 kN kY kF P;go_wp2;go_roundw
    case rel=>exact⟨j+1,H6,e6,by omega,by go_num,h6,s06,ks,s,hU⟩
    case measure=>simp[intOf];omega
   have kx:¬(j:Int)<(l.length:Int):=by omega
   rw[jD (by omega)]at V;clear z;go_wp2;go_ret;rw[C.out.1,C.out.2];exact⟨rfl,_,_,ha,F,V.out⟩
 have C:Hid (nH H.ma f=false/\gI ⟨H.ma,e⟩ f=⟨H.ma,e⟩):=ae (by rw[kr.out,kq.out,if_pos hE];exact⟨decide_eq_false hE,rfl⟩);go_wp2;go_ret;rw[C.out.1,C.out.2];exact⟨rfl,_,_,G,S,rfl⟩
structure rQ (k k' : Kp):Prop where
 sp:k'.m.sp.length=k.m.sp.length
 ca:k'.m.ca.length<=k.m.ca.length
 fs:k'.m.m.fs.length=k.m.m.fs.length
theorem rQ.refl(k:Kp):rQ k k:=⟨rfl,az _,rfl⟩
theorem rQ.trans{a b c:Kp}(h:rQ a b)(k:rQ b c):rQ a c:=⟨k.sp.trans h.sp,bi k.ca h.ca,k.fs.trans h.fs⟩
theorem jZ.l{a b:Kp}(h:jZ a b):rQ a b:=⟨h.sp,by rw[h.ca];exact az _,h.fs⟩
theorem rQ.evict(k:Kp)(f:Nat):rQ k (gI k f):=by
 unfold gI;simp only;split
 ·split
  ·exact .refl _
  have e:=(jZ.clean k f).trans (jZ.drops (bD k.m f) (lF k f));split
  ·refine(rQ.trans ?_ (jZ.hold _ f (-1)).l);exact⟨e.sp,by show(List.eraseIdx _ _).length<=_;rw[e.ca];exact List.length_eraseIdx_le _ _,e.fs⟩
  ·exact e.l
 split
 ·exact .refl _
 refine rQ.trans ?_ (jZ.swaps _ _ _ _).l;exact⟨rfl,az _,rfl⟩
theorem HZ{m:Mem}(h:bu m=0):(gN m).fs.length=m.fs.length:=by
 unfold gN;rw[if_neg (by rw[h];simp)];split
 ·rfl
 ·exact jC _ _
theorem Uq{m:Mem}(h:bu m=0)(i:¬jv m<0):(jv m).toNat<m.fs.length/\jv m=(((jv m).toNat:Nat):Int):=by
 unfold jv at i ⊢;rw[if_neg (by rw[h];simp)]at i ⊢;split at i
 ·omega
 rename_i e;rw[if_neg e];have a:0<m.fs.length:=by
  rcases ut m.fs.length with o|o
  ·have:=EH m.fs;omega
  ·exact o
 rw[bv];exact⟨qp a _,rfl⟩
theorem rQ.reclaim:∀(t:Nat) (k:Kp),rQ k (reclaimN t k).1
 | 0,k => .refl k
 | t+1,k=>by
  unfold reclaimN;simp only;split
  ·exact⟨rfl,az _,rfl⟩
  rename_i o;have i:bu k.m.m=0:=by
   by_cases e:bu k.m.m=0
   ·exact e
   ·exact absurd (.inl e) o
  have h:rQ k ⟨{ k.m with m:=gN k.m.m },k.e⟩:=⟨rfl,az _,HZ i⟩;split
  ·exact h.trans (.evict _ _)
  ·exact(h.trans (.evict _ _)).trans (rQ.reclaim t _)
theorem rQ.took(k:Kp)(p:Page)(f i:Int):rQ k (eG k p f i).1:=by
 have e:∀k:Kp,rQ k (kZ k p f i).1:=λk=>by
  unfold kZ;split
  ·exact .refl _
  rename_i h;refine⟨rfl,az _,?_⟩;show(fE k.m.m p f i).fs.length=_;unfold fE;rw[if_pos (by simpa using h)];exact bI
 unfold eG;split
 ·split
  ·exact(rQ.reclaim _ k).trans (e _)
  ·exact rQ.reclaim _ k
 ·exact e k
theorem XV{k:Kp}{e:Int}(q:Kp.mk H.ma e=k):H.sp.length=k.m.sp.length/\H.ca=k.m.ca/\H.m=k.m.m:=by
 subst q;exact⟨(rX H).symm,rfl,rfl⟩
theorem Jt(H:MH)(e:Int)(B b:Nat)(w:World)(h:lD w B b H e)(hz:H.sp.length<=1000)(Y:H.ca.length<=1000)(hz3:H.m.fs.length<=1000) :
  Calls Tryz.prog 135 #[.pointer (some ⟨b,0,none⟩)] w λr w'=>r = .returned (.bool (gP ⟨H.ma,e⟩).2)/\KR w B b H w' (gP ⟨H.ma,e⟩).1:=by
 have U:=h.blk.cell;unfold rD at U;have hw:=ae h.bs;go_enter func135,ntmps135;have hp:IntKind.i64.wrap (2*(H.m.fs.length:Int))=2*(H.m.fs.length:Int):=bK _ (by omega);have hn:IntKind.i64.wrap (2*(H.m.fs.length:Int)+1)=2*(H.m.fs.length:Int)+1:=bK _ (by omega);go_upto_region 2 with(fail);have Q:Hid (gP ⟨H.ma,e⟩=reclaimN (2*H.m.fs.length+1) ⟨H.ma,e⟩):=ae rfl;have h':=ae h;generalize hNN:2*H.m.fs.length+1=N at Q;have hi:(2*(H.m.fs.length:Int)+1)=(N:Int):=by omega
 have hu:N<=2001:=by omega
 clear h U hp hn;rw[hi];clear hi hNN
 go_loopw [15] (fun s15 wr => ∃(j:Nat) (A:MH) (C:Int),j<=N/\s15 = .int .i64 j/\lD wr B b A C/\KS w b H wr A/\Hid (reclaimN N ⟨H.ma,e⟩=reclaimN (N-j) ⟨A.ma,C⟩)/\Hid (A.sp.length=H.sp.length/\A.ca.length<=H.ca.length/\A.m.fs.length=H.m.fs.length)) (fun s15 _=>N-(intOf s15).toNat)
 case atStart=>exact⟨0,H,e,bq _,rfl,h'.out,.refl _ _ _,ae rfl,ae ⟨rfl,az _,rfl⟩⟩
 case round=>
  clear h';obtain⟨j,A,C,hj,rfl,d,G,S,hl⟩:=hrel
  by_cases hjl:j<N
  ·have hs:(j:Int)<(N:Int):=by omega
   go_wp2_with (refine ay b 0 _ d.rdM _ underlying32 rfl mem_size ?_)
   refine(Ri A.m _ _ _ d.ma.rd.fr).mono ?_;rintro r w1 ⟨vb,rfl,Z,u⟩;obtain⟨D,E,rfl,_⟩:=Bn Z;have h1:=d.below u;have s1:=G.below u;have ht:=ae d.bs;have hm:=ae G.size;clear d G u
   go_wp2_with (refine aJ rfl rfl #[.slice D (gN A.m).fs.length E,.int .i64 (gN A.m).hand] rfl rfl rfl mem_size (iR _ _ _ _) ?_)
   intro w2 l v;have h2:=h1.below l;have s2:=s1.below l;have x:=Z.below l;clear h1 s1 Z l
   go_wp2_with fail
   refine(sV _ C (bu A.m) _ _ _ h2).mono ?_;rintro r w3 ⟨rfl,K,k⟩;have R:=s2.putB k rfl rfl rfl;have q:=ax x h2.blk k;have p:=cB v h2.blk k;clear h2 s2 x v k;have c:Hid (reclaimN N ⟨H.ma,e⟩=reclaimN (N-(j+1)+1) ⟨A.ma,C⟩):=ae (by rw[S.out,show N-(j+1)+1=N-j by omega]);clear S
   by_cases J:bu A.m=0
   ·rw[J,oo]at K
    by_cases T:jv A.m<0
    ·have I:Hid (gP ⟨H.ma,e⟩=(⟨A.ma,C⟩,false)):=ae (by rw[Q.out,c.out];unfold reclaimN;rw[if_pos (.inr T)];show(Kp.mk A.ma (jr C (bu A.m)),false)=_;rw[J,oo]);rw[J];go_wp2;go_ret;rw[I.out];exact⟨rfl,_,_,K,R,rfl⟩
    obtain⟨y,f⟩:=Uq J T;have hr:=ae (HZ J);have o:=ae f;generalize hF:(jv A.m).toNat=F at y f o;have hv:¬(F:Int)<0:=by omega
    rw[f]at T;rw[J,f];clear f T;have hx:=p.cell
    go_wp2_with (first | (refine ay _ 0 [.slice D (gN A.m).fs.length E,.int .i64 (gN A.m).hand] (bF p 0 2) _ underlying32 rfl mem_size ?_) | (refine gD rfl _ _ _ rfl b 0 _ rfl rfl _ _ K.blk (by show 0+2<=12;decide) mem_size (iR _ _ _ _) ?_))
    intro w4 hh t;have h4:=K.setM (q.mono ht.out) hh t;have V:KS w b H w4 { A with af:=D,cf:=E,m:=gN A.m }:=R.putF t (q.mono hm.out) (az _) rfl rfl;clear K R q p hx hh t;have g:Hid (reclaimN N ⟨H.ma,e⟩=if nH (MH.ma { A with af:=D,cf:=E,m:=gN A.m }) F=true then(gI ⟨MH.ma { A with af:=D,cf:=E,m:=gN A.m },C⟩ F,true)else reclaimN (N-(j+1)) (gI ⟨MH.ma { A with af:=D,cf:=E,m:=gN A.m },C⟩ F)):=ae (by
     rw[c.out]
     conv=>lhs;unfold reclaimN
     have U:¬(bu (Kp.m ⟨A.ma,C⟩).m≠0\/jv (Kp.m ⟨A.ma,C⟩).m<0):=by
      rintro(e|e)
      ·exact e J
      have:jv A.m<0:=e;rw[o.out]at this;omega
     rw[if_neg U];rw[show(jv (Kp.m ⟨A.ma,C⟩).m).toNat=F from hF];rfl)
    obtain⟨hg,hf,s⟩:=hl.out;have hd:(MH.sp { A with af:=D,cf:=E,m:=gN A.m }).length=H.sp.length/\(MH.ca { A with af:=D,cf:=E,m:=gN A.m }).length<=H.ca.length/\(MH.m { A with af:=D,cf:=E,m:=gN A.m }).fs.length=H.m.fs.length:=⟨hg,hf,hr.out.trans s⟩;have n:=y;rw[s]at n;have a:=ae hd;clear hd hg hf s;generalize ({ A with af:=D,cf:=E,m:=gN A.m }:MH)=H4 at h4 V g a
    go_wp2_with fail
    refine(Om H4 C F B b _ h4 (by rw[a.out.2.2];exact n) (by rw[a.out.1];exact hz) (bi a.out.2.1 Y)).mono ?_;rintro r w5 ⟨rfl,L,e5,h5,s5,W⟩;have O:=V.trans s5;have i:=rQ.evict ⟨H4.ma,C⟩ F;obtain⟨m1,m2,m3⟩:=XV W;have ha:L.sp.length=H.sp.length/\L.ca.length<=H.ca.length/\L.m.fs.length=H.m.fs.length:=by have D:=i.sp;have a2:=i.ca;have a3:=i.fs;rw[show(Kp.m ⟨H4.ma,C⟩).sp.length=H4.sp.length from rX H4]at D;exact⟨by rw[m1,D];exact a.out.1,by rw[m2];exact bi a2 a.out.2.1,by rw[m3];exact a3.trans a.out.2.2⟩
    have P:=ae W;have z:=ae ha;clear h4 V s5 W i m1 m2 m3 ha;cases hb:nH H4.ma F with
    | true=>
     have I:Hid (gP ⟨H.ma,e⟩=(⟨L.ma,e5⟩,true)):=ae (by rw[Q.out,g.out,hb,if_pos rfl,P.out]);go_wp2;go_ret;rw[I.out];exact⟨rfl,_,_,h5,O,rfl⟩
    | false=>
     have I:Hid (reclaimN N ⟨H.ma,e⟩=reclaimN (N-(j+1)) ⟨L.ma,e5⟩):=ae (by rw[g.out,hb,if_neg (by decide),P.out]);clear g c;go_wp2;go_roundw
     case rel=>exact⟨j+1,L,e5,by omega,by go_num,h5,O,I,z⟩
     case measure=>simp[intOf];omega
   have I:Hid (gP ⟨H.ma,e⟩=(⟨A.ma,jr C (bu A.m)⟩,false)):=ae (by rw[Q.out,c.out];unfold reclaimN;rw[if_pos (.inl J)];rfl);go_wp2;go_ret;rw[I.out];exact⟨rfl,_,_,K,R,rfl⟩
  have hs:¬(j:Int)<(N:Int):=by omega
  have I:Hid (gP ⟨H.ma,e⟩=(⟨A.ma,C⟩,false)):=ae (by rw[Q.out,S.out,show N-j=0 by omega];rfl);clear S;go_wp2;go_ret;rw[I.out];exact⟨rfl,_,_,d,G,rfl⟩
def RA(B:Nat)(m:Mem)(K E:Int):mP:=⟨λv w => ∃u,v = .tuple #[.agg #[u,.int .i64 m.hand],.int .i64 K,.int .i64 E]/\Own w B 66 13 u m.fs.length (m.fs.flatMap ni),λ_ _ _ hb ⟨u,h1,h2⟩=>⟨u,h1,h2.below hb⟩⟩
theorem sI(H:MH)(e f i:Int)(p:Page)(B b:Nat)(w:World)(h:lD w B b H e)(hz:H.sp.length<=1000)(hz2:H.ca.length<=1000)(hz3:H.m.fs.length<=1000) :
  Calls Tryz.prog 90 #[.pointer (some ⟨b,0,none⟩),.agg (dW p),.int .i64 f,.int .i64 i] w λr w'=>r = .returned (.int .i64 (eG ⟨H.ma,e⟩ p f i).2)/\KR w B b H w' (eG ⟨H.ma,e⟩ p f i).1:=by
 have hL:=ae h.bs;go_enter func90,ntmps90;rw[Ai];go_upto_region 1 with(fail);refine iC (λW=>Code.wp _ _ _ _ W) λw1 hC Y hN => ?_;have k1:=h.below hC;have s1:=(KS.refl w b H).below hC;generalize w.heap.size=gp at Y ⊢;clear h hC hN
 go_wp2_with (refine ay b 0 _ k1.rdM _ underlying32 rfl mem_size ?_)
 refine(BI H.m _ _ _ k1.ma.rd.fr).mono ?_;rintro r E ⟨rfl,hp⟩;have k2:=k1.below hp;have s2:=s1.below hp;have O:aG E gp (dW p) 58:=Y.ext hp;clear k1 s1 Y hp
 by_cases L:dU H.m.fs=0
 ·have hs:((dU H.m.fs:Nat):Int)=0:=by omega
  have hr:Hid (eG ⟨H.ma,e⟩ p f i=if(gP ⟨H.ma,e⟩).2=true then kZ (gP ⟨H.ma,e⟩).1 p f i else((gP ⟨H.ma,e⟩).1,-1)):=ae (by unfold eG;exact if_pos L);rw[hs];clear hs L
  go_wp2_with fail
  refine(Jt H e B b _ k2 hz hz2 hz3).mono ?_;rintro r F ⟨rfl,A,e3,k3,s3,q3⟩;have px3:=s3.blkN O (λV => ?_)
  ·have S:=s2.trans s3;have U:=ae q3;clear k2 s2 s3 O q3;cases hb:(gP ⟨H.ma,e⟩).2 with
   | true=>
    have hR:Hid (eG ⟨H.ma,e⟩ p f i=kZ ⟨A.ma,e3⟩ p f i):=ae (by rw[hr.out,hb,if_pos rfl,U.out]);clear hb hr U;go_upto_region 3 with(fail);have hP:=ae (rfl:fE A.m p f i=fE A.m p f i);refine kv 17 [_,_,_,_,_,_,_,_,.r 8 ((RA F.heap.size (fE A.m p f i) (iJ A.m p f i) (ig A.m p f i))),.r 9 ((RA F.heap.size (fE A.m p f i) (iJ A.m p f i) (ig A.m p f i))),.r 10 ((EO F.heap.size (fE A.m p f i))),.v (.int .i64 (iJ A.m p f i:Nat)),.v (.int .i64 (ig A.m p f i)),.r 13 ((iP F.heap.size 32 2)),.y 14 ((Kk 13 F.heap.size 32 (EO F.heap.size (fE A.m p f i)))),.v (.int .i64 (iJ A.m p f i:Nat)),.v (.int .i64 (ig A.m p f i))] (λW=>Below F.heap.size F W) dV (Below.refl _ _) (Yk dV rfl (Yk dV rfl (Yf dV b 0 rfl rfl (Yf dV b 0 rfl rfl (Yr dV (.agg #[.slice A.af A.m.fs.length A.cf,.int .i64 A.m.hand]) (λρ y W hb t=>(bJ rfl (aH rfl t) (bF (k3.below hb).blk 0 2) underlying32)) rfl rfl (Yr dV (.agg #[.int .u8 p[0].toNat,.int .u8 p[1].toNat,.int .u8 p[2].toNat,.int .u8 p[3].toNat,.int .u8 p[4].toNat,.int .u8 p[5].toNat,.int .u8 p[6].toNat,.int .u8 p[7].toNat]) (λρ y W hb t=>(bJ rfl (aH rfl t) (bF (px3.ext hb) 0 8) underlying58)) rfl rfl (Yk dV rfl (Yk dV rfl (ah ?_ (ah ?_ (ah ?_ (ah ?_ (ah ?_ (ah ?_ (ah ?_ (Yk dV rfl (Yk dV rfl (aF)))))))))))))))))) (λ_=>rfl) rfl ?_
    ·intro ρ y W C I hb D;refine iW dV hb ((RA F.heap.size (fE A.m p f i) (iJ A.m p f i) (ig A.m p f i))) (λ_ _ h=>h) ?_;have hK:=C 29 4 rfl;have h4:y 4=_:=D 4 rfl;have hJ:=C 30 5 rfl;have h5:y 5=_:=D 5 rfl;have hI:=C 31 6 rfl;have h6:y 6=_:=D 6 rfl;have hH:=C 32 7 rfl;have h7:y 7=_:=D 7 rfl;have EF:=eF0 I λ_=>trivial;refine aP (aS rfl (EF _) func136 (by simp only[bU,bS,aZ,hK,h4,hJ,h5,hI,h6,hH,h7,EF];rfl)) ?_;refine(GJ A.m p f i A.af A.cf W (k3.below hb).ma.rd.fr).mono ?_;rintro r J ⟨u,rfl,Q,hB⟩;exact⟨_,rfl,hB,u,rfl,Q.mono hb.size⟩
    ·intro ρ y W C I hb D;refine iW dV hb ((RA F.heap.size (fE A.m p f i) (iJ A.m p f i) (ig A.m p f i))) (λ_ _ h=>h) ?_;have hG:=C 33 8 rfl;have h8:=D 8 rfl;refine ak _ (run_move (.inl rfl) hG) (m:=?_);exact h8
    ·intro ρ y W C I hb D;refine iW dV hb ((EO F.heap.size (fE A.m p f i))) (λ_ _ h=>h) ?_;have l:=C 24 9 rfl;have R:=D 9 rfl;obtain⟨u,P,Q⟩:=R;refine ak (.agg #[u,.int .i64 (fE A.m p f i).hand]) (by simp[execOp,go_sem,bW,l,P]) (m:=?_);exact⟨u,rfl,Q⟩
    ·intro ρ y W C I hb D;refine iW dV hb (mW (.int .i64 (iJ A.m p f i:Nat))) (λ_ _ h=>h) ?_;have l:=C 24 9 rfl;have R:=D 9 rfl;obtain⟨u,P,Q⟩:=R;refine ak (.int .i64 (iJ A.m p f i:Nat)) (by simp[execOp,go_sem,bW,l,P])
    ·intro ρ y W C I hb D;refine iW dV hb (mW (.int .i64 (ig A.m p f i))) (λ_ _ h=>h) ?_;have l:=C 24 9 rfl;have R:=D 9 rfl;obtain⟨u,P,Q⟩:=R;refine ak (.int .i64 (ig A.m p f i)) (by simp[execOp,go_sem,bW,l,P])
    ·intro ρ y W C I hb D;refine iW dV hb ((iP F.heap.size 32 2)) (λ_ _ h=>h) ?_;refine jg (.pointer (some ⟨W.heap.size,0,none⟩)) (aj) (by simp[execOp,go_sem,bW]) ((Below.refl _ _).alloc (az _) (.cells #[.slice none 0 0,.int .i64 0] 32)) ?_;exact⟨_,_,rfl,hb.size,aG.new _ _ _,rfl⟩
    ·intro ρ y W C I hb D;have E9:=C 9 13 rfl;have hD:=D 13 rfl;have hF:=C 34 10 rfl;have hE:=D 10 rfl;obtain⟨u,e7,hh⟩:=hE;obtain⟨g3,G,e9,hi,j,hg⟩:=hD;refine mH _ _ _ rfl g3 0 (.agg #[u,.int .i64 (fE A.m p f i).hand]) [u,.int .i64 (fE A.m p f i).hand] (E9.trans e9) (hF.trans e7) rfl G _ j (by rw[hg];exact az _) mem_size (by obtain⟨a1,c1,rfl,_⟩:=hh.rd;exact bV (iR _ _ _ _)) ?_;intro w1 o g;rw[show ∀(x y:Value),[x,y]=(#[x,y]:Array Value).toList fromλ_ _=>rfl,gK G _ (by rw[hg];rfl)]at o;refine⟨hb.grown g hb.size (λk V=>by cases V;exact hi),⟨g3,_,e9,hi,o,⟨_,rfl,ax hh j g⟩⟩,?_⟩;intro k V hy
     match k,V,hy with
     | 0,_,_|1,_,_|2,_,_|3,_,_|4,_,_|5,_,_|6,_,_|7,_,_=>exactλh=>h
     | 8,_,_|9,_,_|10,_,_=>exactλ⟨c,q1,q2⟩=>⟨c,q1,ax q2 j g⟩
     | 11,_,_|12,_,_=>exactλh=>h
     | 13,_,_=>exactλq=>lh q o ⟨_,j⟩ g
     | 14,_,h=>exact absurd rfl h
     | 15,_,_|16,_,_=>exactλh=>h
     | n+17,h,_=>exact absurd h (by omega)
    intro y J d a;replace d:Below F.heap.size F J:=d;have hv:((RA F.heap.size (fE A.m p f i) (iJ A.m p f i) (ig A.m p f i))).r (y 8) J:=a 8 (by decide);have ht:((RA F.heap.size (fE A.m p f i) (iJ A.m p f i) (ig A.m p f i))).r (y 9) J:=a 9 (by decide);have hc:((EO F.heap.size (fE A.m p f i))).r (y 10) J:=a 10 (by decide);have ha:((iP F.heap.size 32 2)).r (y 13) J:=a 13 (by decide);have z:=a 14 (by decide);clear a;simp only[dn,bW,bS,aZ];obtain⟨gd,cd,hM,hO,hm,u,hl,s⟩:=z;simp only[yQ]at hl;subst hl;obtain⟨a1,c1,rfl,_⟩:=s.rd;have Z:=k3.below d;have s4:=S.below d;have hf:=ae S.size;clear hv ht hc ha k3 S px3 d
    by_cases L:ig A.m p f i=0
    ·have hq:Hid (kZ ⟨A.ma,e3⟩ p f i=(Kp.mk { A.ma with m:=fE A.m p f i } e3,((iJ A.m p f i:Nat):Int))):=ae (by unfold kZ;exact if_neg (λh'=>h' L));have hx:=hm.cell;rw[L];generalize fE A.m p f i=M at *
     generalize iJ A.m p f i=K at *
     go_wp2_with (first | (refine ay _ 0 [.slice a1 M.fs.length c1,.int .i64 M.hand] (bF hm 0 2) _ underlying32 rfl mem_size ?_) | (refine gD rfl _ _ _ rfl b 0 _ rfl rfl _ _ Z.blk (by show 0+2<=12;decide) mem_size (iR _ _ _ _) ?_))
     intro w5 hA hj;have k5:=Z.setM (s.mono (bi hL.out hf.out)) hA hj;go_wp2;go_ret;rw[hR.out,hq.out];exact⟨rfl,_,_,k5,s4.putF hj (s.mono hf.out) (az _) rfl rfl,rfl⟩
    have hq:Hid (kZ ⟨A.ma,e3⟩ p f i=(⟨A.ma,e3⟩,-1)):=ae (by unfold kZ;exact if_pos L);go_wp2;go_ret;rw[hR.out,hq.out];exact⟨rfl,_,_,Z,s4,rfl⟩
   | false=>
    have hR:Hid (eG ⟨H.ma,e⟩ p f i=(⟨A.ma,e3⟩,-1)):=ae (by rw[hr.out,hb,if_neg (by decide),U.out]);clear hb hr U;go_wp2;go_ret;rw[hR.out];exact⟨rfl,_,_,k3,S,rfl⟩
  obtain⟨cs,T,hb,hT⟩:=k2.kb_T V;exact absurd rfl (mG O hb (by rcases hT with rfl | rfl | rfl | rfl<;>decide))
 have hs:¬((dU H.m.fs:Nat):Int)=0:=by omega
 have hR:Hid (eG ⟨H.ma,e⟩ p f i=kZ ⟨H.ma,e⟩ p f i):=ae (by unfold eG;exact if_neg L);clear L;have hQ:dU H.m.fs=dU H.m.fs:=rfl;generalize dU H.m.fs=N at hs;go_upto_region 3 with(fail);have hP:=ae (rfl:fE H.m p f i=fE H.m p f i);refine kv 17 [_,_,_,_,_,_,_,_,.r 8 ((RA E.heap.size (fE H.m p f i) (iJ H.m p f i) (ig H.m p f i))),.r 9 ((RA E.heap.size (fE H.m p f i) (iJ H.m p f i) (ig H.m p f i))),.r 10 ((EO E.heap.size (fE H.m p f i))),.v (.int .i64 (iJ H.m p f i:Nat)),.v (.int .i64 (ig H.m p f i)),.r 13 ((iP E.heap.size 32 2)),.y 14 ((Kk 13 E.heap.size 32 (EO E.heap.size (fE H.m p f i)))),.v (.int .i64 (iJ H.m p f i:Nat)),.v (.int .i64 (ig H.m p f i))] (λW=>Below E.heap.size E W) dV (Below.refl _ _) (Yk dV rfl (Yk dV rfl (Yf dV b 0 rfl rfl (Yf dV b 0 rfl rfl (Yr dV (.agg #[.slice H.af H.m.fs.length H.cf,.int .i64 H.m.hand]) (λρ y W hb t=>(bJ rfl (aH rfl t) (bF (k2.below hb).blk 0 2) underlying32)) rfl rfl (Yr dV (.agg #[.int .u8 p[0].toNat,.int .u8 p[1].toNat,.int .u8 p[2].toNat,.int .u8 p[3].toNat,.int .u8 p[4].toNat,.int .u8 p[5].toNat,.int .u8 p[6].toNat,.int .u8 p[7].toNat]) (λρ y W hb t=>(bJ rfl (aH rfl t) (bF (O.ext hb) 0 8) underlying58)) rfl rfl (Yk dV rfl (Yk dV rfl (ah ?_ (ah ?_ (ah ?_ (ah ?_ (ah ?_ (ah ?_ (ah ?_ (Yk dV rfl (Yk dV rfl (aF)))))))))))))))))) (λ_=>rfl) rfl ?_
 ·intro ρ y W C I hb D;refine iW dV hb ((RA E.heap.size (fE H.m p f i) (iJ H.m p f i) (ig H.m p f i))) (λ_ _ h=>h) ?_;have hK:=C 29 4 rfl;have h4:y 4=_:=D 4 rfl;have hJ:=C 30 5 rfl;have h5:y 5=_:=D 5 rfl;have hI:=C 31 6 rfl;have h6:y 6=_:=D 6 rfl;have hH:=C 32 7 rfl;have h7:y 7=_:=D 7 rfl;have EF:=eF0 I λ_=>trivial;refine aP (aS rfl (EF _) func136 (by simp only[bU,bS,aZ,hK,h4,hJ,h5,hI,h6,hH,h7,EF];rfl)) ?_;refine(GJ H.m p f i H.af H.cf W (k2.below hb).ma.rd.fr).mono ?_;rintro r J ⟨u,rfl,Q,hB⟩;exact⟨_,rfl,hB,u,rfl,Q.mono hb.size⟩
 ·intro ρ y W C I hb D;refine iW dV hb ((RA E.heap.size (fE H.m p f i) (iJ H.m p f i) (ig H.m p f i))) (λ_ _ h=>h) ?_;have hG:=C 33 8 rfl;have h8:=D 8 rfl;refine ak _ (run_move (.inl rfl) hG) (m:=?_);exact h8
 ·intro ρ y W C I hb D;refine iW dV hb ((EO E.heap.size (fE H.m p f i))) (λ_ _ h=>h) ?_;have l:=C 24 9 rfl;have R:=D 9 rfl;obtain⟨u,P,Q⟩:=R;refine ak (.agg #[u,.int .i64 (fE H.m p f i).hand]) (by simp[execOp,go_sem,bW,l,P]) (m:=?_);exact⟨u,rfl,Q⟩
 ·intro ρ y W C I hb D;refine iW dV hb (mW (.int .i64 (iJ H.m p f i:Nat))) (λ_ _ h=>h) ?_;have l:=C 24 9 rfl;have R:=D 9 rfl;obtain⟨u,P,Q⟩:=R;refine ak (.int .i64 (iJ H.m p f i:Nat)) (by simp[execOp,go_sem,bW,l,P])
 ·intro ρ y W C I hb D;refine iW dV hb (mW (.int .i64 (ig H.m p f i))) (λ_ _ h=>h) ?_;have l:=C 24 9 rfl;have R:=D 9 rfl;obtain⟨u,P,Q⟩:=R;refine ak (.int .i64 (ig H.m p f i)) (by simp[execOp,go_sem,bW,l,P])
 ·intro ρ y W C I hb D;refine iW dV hb ((iP E.heap.size 32 2)) (λ_ _ h=>h) ?_;refine jg (.pointer (some ⟨W.heap.size,0,none⟩)) (aj) (by simp[execOp,go_sem,bW]) ((Below.refl _ _).alloc (az _) (.cells #[.slice none 0 0,.int .i64 0] 32)) ?_;exact⟨_,_,rfl,hb.size,aG.new _ _ _,rfl⟩
 ·intro ρ y W C I hb D;have E9:=C 9 13 rfl;have hD:=D 13 rfl;have hF:=C 34 10 rfl;have hE:=D 10 rfl;obtain⟨u,e7,hh⟩:=hE;obtain⟨g3,G,e9,hi,j,hg⟩:=hD;refine mH _ _ _ rfl g3 0 (.agg #[u,.int .i64 (fE H.m p f i).hand]) [u,.int .i64 (fE H.m p f i).hand] (E9.trans e9) (hF.trans e7) rfl G _ j (by rw[hg];exact az _) mem_size (by obtain⟨a1,c1,rfl,_⟩:=hh.rd;exact bV (iR _ _ _ _)) ?_;intro w1 o g;rw[show ∀(x y:Value),[x,y]=(#[x,y]:Array Value).toList fromλ_ _=>rfl,gK G _ (by rw[hg];rfl)]at o;refine⟨hb.grown g hb.size (λk V=>by cases V;exact hi),⟨g3,_,e9,hi,o,⟨_,rfl,ax hh j g⟩⟩,?_⟩;intro k V hy
  match k,V,hy with
  | 0,_,_|1,_,_|2,_,_|3,_,_|4,_,_|5,_,_|6,_,_|7,_,_=>exactλh=>h
  | 8,_,_|9,_,_|10,_,_=>exactλ⟨c,q1,q2⟩=>⟨c,q1,ax q2 j g⟩
  | 11,_,_|12,_,_=>exactλh=>h
  | 13,_,_=>exactλq=>lh q o ⟨_,j⟩ g
  | 14,_,h=>exact absurd rfl h
  | 15,_,_|16,_,_=>exactλh=>h
  | n+17,h,_=>exact absurd h (by omega)
 intro y J d a;replace d:Below E.heap.size E J:=d;have hv:((RA E.heap.size (fE H.m p f i) (iJ H.m p f i) (ig H.m p f i))).r (y 8) J:=a 8 (by decide);have ht:((RA E.heap.size (fE H.m p f i) (iJ H.m p f i) (ig H.m p f i))).r (y 9) J:=a 9 (by decide);have hc:((EO E.heap.size (fE H.m p f i))).r (y 10) J:=a 10 (by decide);have ha:((iP E.heap.size 32 2)).r (y 13) J:=a 13 (by decide);have z:=a 14 (by decide);clear a;simp only[dn,bW,bS,aZ];obtain⟨gd,cd,hM,hO,hm,u,hl,s⟩:=z;simp only[yQ]at hl;subst hl;obtain⟨a1,c1,rfl,_⟩:=s.rd;have Z:=k2.below d;have s4:=s2.below d;have hf:=ae s2.size;clear hv ht hc ha k2 s2 O d
 by_cases L:ig H.m p f i=0
 ·have hq:Hid (kZ ⟨H.ma,e⟩ p f i=(Kp.mk { H.ma with m:=fE H.m p f i } e,((iJ H.m p f i:Nat):Int))):=ae (by unfold kZ;exact if_neg (λh'=>h' L));have hx:=hm.cell;rw[L];generalize fE H.m p f i=M at *
  generalize iJ H.m p f i=K at *
  go_wp2_with (first | (refine ay _ 0 [.slice a1 M.fs.length c1,.int .i64 M.hand] (bF hm 0 2) _ underlying32 rfl mem_size ?_) | (refine gD rfl _ _ _ rfl b 0 _ rfl rfl _ _ Z.blk (by show 0+2<=12;decide) mem_size (iR _ _ _ _) ?_))
  intro w5 hA hj;have k5:=Z.setM (s.mono (bi hL.out hf.out)) hA hj;go_wp2;go_ret;rw[hR.out,hq.out];exact⟨rfl,_,_,k5,s4.putF hj (s.mono hf.out) (az _) rfl rfl,rfl⟩
 have hq:Hid (kZ ⟨H.ma,e⟩ p f i=(⟨H.ma,e⟩,-1)):=ae (by unfold kZ;exact if_pos L);go_wp2;go_ret;rw[hR.out,hq.out];exact⟨rfl,_,_,Z,s4,rfl⟩
theorem CJ(l:List Cc)(x:Cc)(k:Nat)(V:k<=l.length)(v:Value)(B g:Nat)(w:World)(J:Own w B 122 3 v l.length (l.flatMap iL))(hB:B<=w.heap.size)(hl:l.length<=1000)(N:aG w g (vT x) 122)(hne:k<l.length->∀b,v.ownBlock=some b->g≠b) :
  Calls Tryz.prog 141 #[v,.int .i64 k,.slice (some ⟨g,0,none⟩) 1 1] w λe w' => ∃U,e = .returned U/\Own w' B 122 3 U (l.length+1) ((l.take k++x::l.drop k).flatMap iL)/\w.grownBy w' v.ownBlock/\oJ w v U:=by
 obtain⟨a0,c0,hs,hJ,z,hD,_⟩:=J.rd;unfold maxLen at z
 by_cases hkl:k=l.length
 ·subst hkl;have ha:(l.take l.length++x::l.drop l.length).flatMap iL=l.flatMap iL++iL x:=by simp[fM]
  have hi:=ae ha;clear ha;subst hs;go_enter func141,ntmps141
  go_wp2_with (at_builtin;refine qO rfl _ _ 42 rfl B 122 _ 3 24 underlying42 cached_info rfl (by decide) _ l.length (l.flatMap iL) rfl J (some ⟨g,0,none⟩) 1 1 (iL x) rfl (λh=>(by cases h)) (az _) rfl N.rd (λu hu=>yV [x] u (by simpa using hu)) (by unfold maxLen;omega) (by omega) hB ?_)
  all_goals
   intro U w' hh h6 hY;go_wp2;go_ret;exact⟨_,rfl,by rw[hi.out];exact hh,by cases a0<;>exact h6,by cases a0<;>exact hY⟩
 have h3:k<l.length:=by omega
 rcases J with⟨hlen,⟨_,hz⟩|⟨b,A,c,I,rfl,hBb,R,hnc,T,Z,K⟩⟩
 ·omega
 have hM:g≠b:=hne h3 b rfl;clear hs hJ z hD;have ko:=R.lt;have kl:=N.lt;have kf:¬((k:Int)=(l.length:Int)):=by omega
 have kk:(k:Int)<=(l.length:Int):=by omega
 have hI:=T;unfold maxLen at hI;have kh:IntKind.i64.wrap ((k:Int)+1)=(k:Int)+1:=bK _ (by omega);have kg:IntKind.i64.wrap ((l.length:Int)+1)=(l.length:Int)+1:=bK _ (by omega);have ki:((k:Int)+1).toNat=k+1:=by omega
 have hN:((l.drop k).flatMap iL).length=(l.length-k)*3:=by rw[jE,AA]
 have kn:¬(c=k):=by omega
 have hO:=CR V K;have hw:=xC (k:=k) K
 by_cases Q:l.length+1<=c
 ·have hZ:¬((c:Int)<(l.length:Int)+1):=by omega
  have hT:¬(c=k+1):=by omega
  have h4:(0:Int)<=(k:Int)+1:=by omega
  have h8:(k:Int)<=(l.length:Int)+1:=by omega
  have hC:∀S cb W,W=w->(callFunc 179 #[.slice (some ⟨g,0,none⟩) 1 1,.slice (some ⟨b,A+(k+1)*3,none⟩) S cb]).run Tryz.prog W = .ok (.value (.bool false)) W:=by
   intro S cb W L;subst L;have hy:∀w,(Go.sizeOf 122).run Tryz.prog w = .ok 3 w:=by
    intro w;cases hq:Tryz.prog.info? 122 with
    | none=>have:=cached_size;simp[hq]at this
    | some i=>
     have hz:i.size=3:=by have:=cached_size;simpa[hq]using this
     simp[Go.sizeOf,typeInfo,run_program,hq,hz]
   rw[run_callFunc_extern func179 (by kernel_rfl) (by kernel_rfl) (by kernel_rfl) (e:=Extern.SlicesOverlaps.overlaps #[42,42] #[4]) (by kernel_rfl),
    Lib.run_overlaps_apart W 42 4 122 underlying42 3 hy ⟨g,0,none⟩ ⟨b,A+(k+1)*3,none⟩ 1 1 S cb hM 122 122 3 I.size (by unfold aG at N;simp[World.shape?,N,vT]) (by unfold aG at R;simp[World.shape?,R]) (by omega) (N.free _) (N.free _)]
   rfl
  have hS:∀W D F O,aG W b I 122->(Builtin.copy_ #[42,42] D #[.slice (some ⟨b,A+(k+1)*3,none⟩) (l.length-k) F,.slice (some ⟨b,A+k*3,none⟩) (l.length+1-k) O]).run Tryz.prog W = .ok (goInt (l.length-k:Nat)) (W.setCells b (A+(k+1)*3) ((l.drop k).flatMap iL)):=λW D F O L=>
   uw W _ _ D 122 3 b (A+(k+1)*3) (l.length-k) F ⟨b,A+k*3,none⟩ (l.length+1-k) O (l.length-k) _ I _ underlying42 cached_size (by simp only[Dx];split<;>omega) hN L (λj v C=>by rw[qo,L.cell];exact hO j v C) (by omega) (λv P=>yV _ v P)
  have hR:∀W D F,aG W b (bH I (A+(k+1)*3) ((l.drop k).flatMap iL)) 122->aG W g (vT x) 122->(Builtin.copy_ #[42,42] D #[.slice (some ⟨b,A+k*3,none⟩) (l.length+1-k) F,.slice (some ⟨g,0,none⟩) 1 1]).run Tryz.prog W = .ok (goInt (1:Nat)) (W.setCells b (A+k*3) (iL x)):=λW D F L hp=>
   uw W _ _ D 122 3 b (A+k*3) (l.length+1-k) F ⟨g,0,none⟩ 1 1 1 _ _ _ underlying42 cached_size (by simp only[Dx];split<;>omega) rfl L (λj v C=>by rw[qo,hp.cell,eB];simpa[iL]using C) (by rw[size_putAt,jb];omega) (λv P=>DI x v P)
  have hA:=λS cb=>hC S cb w rfl;clear hC;go_enter func141,ntmps141
  go_wp2_with (simp only[hA])
  go_region_law (refine LJ rfl _ _ 42 42 rfl (.slice (some ⟨b,A+(k+1)*3,none⟩) (l.length-k) (c-(k+1))) (.slice (some ⟨b,A+k*3,none⟩) (l.length+1-k) (c-k)) (by simp[Act.eval,Act.put]) (by simp[Act.eval,Act.put]) (hS _ _ _ _ R.drew) ?_)
  have p:=(R.drew).setCells ((l.drop k).flatMap iL) (A+(k+1)*3);have hm:aG (w.drew.setCells b (A+(k+1)*3) ((l.drop k).flatMap iL)) g (vT x) 122:=N.drew.grown (aD _ _ _ _) (λe=>hM (aM e).symm);have d:w.grownBy (w.drew.setCells b (A+(k+1)*3) ((l.drop k).flatMap iL)) (some b):=nY (a:=w) (b:=w.drew) (row:=some b) ⟨rfl,rfl,rfl,az _,λ_ _ _=>rfl⟩ (aD w.drew _ _ _);generalize w.drew.setCells b (A+(k+1)*3) ((l.drop k).flatMap iL)=W1 at *
  go_wp2_with (at_builtin;refine Wx _ rfl _ _ 42 42 rfl _ _ rfl rfl (hR _ _ _ p hm) ?_)
  have hn:=p.setCells (iL x) (A+k*3);have o:w.grownBy (W1.setCells b (A+k*3) (iL x)) (some b):=nY d (aD _ _ _ _);go_wp2;go_ret;refine⟨_,rfl,⟨by rw[BM];simp only[jq,jE,jb,iQ,AA];omega,.inr ⟨b,A,c,_,rfl,hBb,hn,Q,T,by rw[size_putAt,size_putAt];exact Z,Fu V ?_ ?_ ?_⟩⟩,o,.inl rfl⟩
  ·intro j u C;have s:j<k*3:=by have:=(bZ.1 C).1;rw[jE,iQ]at this;omega
   rw[putAt_out _ _ _ _ (by omega),putAt_out _ _ _ _ (by omega)];exact hw j u C
  ·intro j u C;exact putAt_in _ _ _ j u (by rw[size_putAt,jb];omega) C
  intro j u C;rw[putAt_out _ _ _ _ (by rw[jb];omega)];exact putAt_in _ _ _ j u (by omega) C
 have hc:c=l.length:=by omega
 subst hc;obtain⟨i0,h5,hV,hU,hr⟩:=info_parts cached_info;have hZ:(l.length:Int)<(l.length:Int)+1:=by omega
 have kd:¬((l.length:Int)+1<=(l.length:Int)):=by omega
 have hT:k+1<=l.length:=by omega
 have kj:IntKind.i64.wrap ((l.length:Int)+1-(k:Int))=((l.length+1-k:Nat):Int):=by rw[bK _ (by omega)];omega
 have kc : (l.length:Int)+1-(k:Int)=((l.length+1-k:Nat):Int):=by omega
 have hK:k+(l.length+1-k)=l.length+1:=by omega
 have ht:((l.take k).flatMap iL).length=k*3:=by rw[jE,iQ,uy V]
 have y:(Builtin.firstCells i0.size k (.slice (some ⟨b,A,none⟩) k l.length)).run Tryz.prog w.drew = .ok ((l.take k).flatMap iL).toArray w.drew:=by rw[hU];exact run_firstCells_some w.drew 3 k ⟨b,A,none⟩ k l.length _ ht (λj v C=>by rw[qo,R.drew.cell];exact hw j v C)
 have r:∀D,(Builtin.append_ #[42,3] D #[.slice (some ⟨b,A,none⟩) k l.length,.int .i64 ((l.length+1-k:Nat):Int)]).run Tryz.prog w =
   .ok (.slice (some ⟨w.heap.size,0,none⟩) (l.length+1) (grownCap w (l.length+1) l.length 122)) (w.drew.alloc (.cells (((l.take k).flatMap iL).toArray++Builtin.zeroCells (vT zCc) (l.length+1-k)++Builtin.zeroCells (vT zCc) (grownCap w (l.length+1) l.length 122-(l.length+1))) 122)):=λD=>by
  have h:=Lib.run_append_grow_zeros w 42 3 D 122 i0 _ .i64 .i64 underlying42 underlying3 h5 hV (some ⟨b,A,none⟩) k l.length ((l.take k).flatMap iL) y (l.length+1-k) (by omega) (by omega) (by omega) (by omega) (by rw[hr];omega) (by rw[hr,hK];exact growslice_fits (by omega) (by omega));rw[hK]at h;exact h
 obtain⟨G,Y⟩:∃G,G=grownCap w (l.length+1) l.length 122:=⟨_,rfl⟩;have kb:l.length+1<=G:=by rw[Y];exact grownCap_ge w _ _ _
 have hd:G<=maxLen:=by rw[Y];exact grownCap_le_maxLen w _ _ _ (by unfold maxLen;omega)
 obtain⟨E,m⟩:∃E:Array Value,E=((l.take k).flatMap iL).toArray++Builtin.zeroCells (vT zCc) (l.length+1-k)++Builtin.zeroCells (vT zCc) (G-(l.length+1)):=⟨_,rfl⟩;rw[<-Y,<-m]at r;have kp:E.size=G*3:=by rw[m];simp[Builtin.zeroCells,vT,ht];omega
 have ka:∀(j:Nat) (u:Value),((l.take k).flatMap iL)[j]?=some u->E[j]?=some u:=by intro j u C;have s:=(bZ.1 C).1;rw[m,Array.append_assoc,Array.getElem?_append_left (by simpa using s)];simpa using C
 clear y m Y;obtain⟨W1,n⟩:∃W1,W1=w.drew.alloc (.cells E 122):=⟨_,rfl⟩;rw[<-n]at r;have hF:aG W1 w.heap.size E 122:=by rw[n];exact aG.new w.drew E _
 have d:w.grownBy W1 (some b):=by rw[n];exact nY (a:=w) (b:=w.drew) (row:=some b) ⟨rfl,rfl,rfl,az _,λ_ _ _=>rfl⟩ (World.grownBy_alloc _ _ _)
 have p:aG W1 b I 122:=by rw[n];exact R.drew.alloc _
 have hm:aG W1 g (vT x) 122:=by rw[n];exact N.drew.alloc _
 clear n;have h7:w.heap.size≠b:=by omega
 have km:w.heap.size≠g:=by omega
 have hQ:∀W D F,aG W w.heap.size E 122->aG W g (vT x) 122->(Builtin.copy_ #[42,42] D #[.slice (some ⟨w.heap.size,k*3,none⟩) (l.length+1-k) F,.slice (some ⟨g,0,none⟩) 1 1]).run Tryz.prog W = .ok (goInt (1:Nat)) (W.setCells w.heap.size (k*3) (iL x)):=λW D F L hp=>
  uw W _ _ D 122 3 w.heap.size (k*3) (l.length+1-k) F ⟨g,0,none⟩ 1 1 1 _ _ _ underlying42 cached_size (by simp only[Dx];split<;>omega) rfl L (λj v C=>by rw[qo,hp.cell,eB];simpa[iL]using C) (by rw[jb];omega) (λv P=>DI x v P)
 have hP:∀W D F O,aG W w.heap.size (bH E (k*3) (iL x)) 122->aG W b I 122->(Builtin.copy_ #[42,42] D #[.slice (some ⟨w.heap.size,(k+1)*3,none⟩) (l.length-k) F,.slice (some ⟨b,A+k*3,none⟩) (l.length-k) O]).run Tryz.prog W = .ok (goInt (l.length-k:Nat)) (W.setCells w.heap.size ((k+1)*3) ((l.drop k).flatMap iL)):=λW D F O L h9=>
  uw W _ _ D 122 3 w.heap.size ((k+1)*3) (l.length-k) F ⟨b,A+k*3,none⟩ (l.length-k) O (l.length-k) _ _ _ underlying42 cached_size (by simp only[Dx];split<;>omega) hN L (λj v C=>by rw[qo,h9.cell];exact hO j v C) (by rw[size_putAt];omega) (λv P=>yV _ v P)
 have kq:¬(G=k):=by omega
 have ke:¬(G=k+1):=by omega
 have h4:(0:Int)<=(k:Int)+1:=by omega
 have h8:(k:Int)<=(l.length:Int)+1:=by omega
 have hH:=hd;unfold maxLen at hH;go_enter func141,ntmps141
 go_wp2_with (at_builtin;refine Lib.wpList_append_run _ rfl _ _ _ _ rfl _ _ rfl rfl _ _ (r _) ?_)
 have hE:=hF.setCells (iL x) (k*3);have hn:aG (W1.setCells w.heap.size (k*3) (iL x)) b I 122:=p.grown (aD _ _ _ _) (λe=>h7 (aM e));have o:∀q,q<w.heap.size->q≠b->(W1.setCells w.heap.size (k*3) (iL x)).heap[q]?=w.heap[q]?:=λq hq hf=>
  ((aD W1 w.heap.size (k*3) (iL x)).block q (pu hq d.size) (λe=>by have:=aM e;omega)).trans (d.block q hq (λe=>hf (aM e)))
 have h1:=(aD W1 w.heap.size (k*3) (iL x)).os.trans d.os;have hX:=(aD W1 w.heap.size (k*3) (iL x)).tape.trans d.tape;have h0:=(aD W1 w.heap.size (k*3) (iL x)).output.trans d.output;have t:=bi d.size (aD W1 w.heap.size (k*3) (iL x)).size;generalize W1.setCells w.heap.size (k*3) (iL x)=W2 at *
 clear hF hm p r hQ
 go_region_law (refine LJ rfl _ _ 42 42 rfl (.slice (some ⟨w.heap.size,(k+1)*3,none⟩) (l.length-k) (G-(k+1))) (.slice (some ⟨b,A+k*3,none⟩) (l.length-k) (l.length-k)) (by simp[Act.eval,Act.put]) (by simp[Act.eval,Act.put]) (hP _ _ _ _ hE.drew hn.drew) ?_)
 have h2:=hE.drew.setCells ((l.drop k).flatMap iL) ((k+1)*3);have f:=aD W2.drew w.heap.size ((k+1)*3) ((l.drop k).flatMap iL);have hL:w.grownBy (W2.drew.setCells w.heap.size ((k+1)*3) ((l.drop k).flatMap iL)) (some b):=
  ⟨f.os.trans h1,f.tape.trans hX,f.output.trans h0,bi t f.size,λq hq hf=>(f.block q (pu hq t) (λe=>by have:=aM e;omega)).trans (o q hq (λe=>hf (by rw[e])))⟩
 go_wp2;go_ret;refine⟨_,rfl,⟨by rw[BM];simp only[jq,jE,jb,iQ,AA];omega,.inr ⟨w.heap.size,0,G,_,rfl,hB,h2,kb,hd,by rw[size_putAt,size_putAt];omega,Fu V ?_ ?_ ?_⟩⟩,hL,.inr (λx hx=>by cases hx;exact az _)⟩
 ·intro j u C;have s:j<k*3:=by have:=(bZ.1 C).1;rw[jE,iQ]at this;omega
  rw[eB,putAt_out _ _ _ _ (by omega),putAt_out _ _ _ _ (by omega)];exact ka j u C
 ·intro j u C;have s:j<3:=by have:=(bZ.1 C).1;rwa [jb]at this
  rw[eB,putAt_out _ _ _ _ (by omega)];exact putAt_in _ _ _ j u (by rw[jb];omega) C
 intro j u C;rw[eB];exact putAt_in _ _ _ j u (by rw[size_putAt];omega) C
theorem zJ(e:Array Value)(s o n:Nat)(h xs vs:List Value)(z:∀j u,h[j]?=some u->e[s+j]?=some u)(C:xs=h.take o++vs++h.drop (o+n))(N:vs.length=n)(L:o+n<=h.length)(K:s+h.length<=e.size):bH e s xs=bH e (s+o) vs:=by
 have G:xs.length=h.length:=by rw[C];simp;omega
 apply mI;intro i
 by_cases I:i<s\/s+h.length<=i
 ·rw[putAt_out _ _ _ _ (by rw[G];exact I),putAt_out _ _ _ _ (by omega)]
 have A:i-s<xs.length:=by omega
 have F:=putAt_in xs e s (i-s) (xs[i-s]'A) (by omega) (aI A);rw[show s+(i-s)=i by omega]at F;rw[F,<-aI A,C]
 by_cases t:i<s+o\/s+o+n<=i
 ·rw[putAt_out _ _ _ _ (by omega)];have h2:i-s<h.length:=by omega
  have E:=z (i-s) (h[i-s]'h2) (aI h2);rw[show s+(i-s)=i by omega]at E;rw[E,<-aI h2];rcases t with t|t
  ·rw[jR,kN (by rw[iQ];omega),mE,if_pos (by omega)]
  rw[jX (by rw[jq,iQ];omega),qY];congr 1;rw[jq,iQ];omega
 have y:i-(s+o)<vs.length:=by omega
 have D:=putAt_in vs e (s+o) (i-(s+o)) (vs[i-(s+o)]'y) (by omega) (aI y);rw[show s+o+(i-(s+o))=i by omega]at D;rw[D,jR,jX (by rw[iQ];omega),iQ];have J:i-s-min o h.length=i-(s+o):=by omega
 rw[J,kN y];exact aI y
theorem lD.frPut{e:Int}(h:lD w B b H e)(E:f<H.m.fs.length) :
  ∃g t u,H.af=some ⟨g,t,none⟩/\aG w g u 66/\t+f*13+13<=u.size/\eu w (some ⟨g,t+f*13,none⟩) (ni (aB H.ma f)) /\
   ∀(o n:Nat) (vs:List Value) (x:Fr) (w' : World),vs.length=n->o+n<=13->ni x=(ni (aB H.ma f)).take o++vs++(ni (aB H.ma f)).drop (o+n)->aG w' g (bH u (t+f*13+o) vs) 66->w.grownBy w' (some g) ->
    lD w' B b { H with m:=⟨H.m.fs.set f x,H.m.hand⟩ } e/\∀w0 H0,KS w0 b H0 w H->KS w0 b H0 w' { H with m:=⟨H.m.fs.set f x,H.m.hand⟩ }:=by
 obtain⟨g,t,u,i,p,d,c,j,k,l,a⟩:=h.frame E;refine⟨g,t,u,i,d,c,j,λo n vs x w' D G C F z=>⟨a w' x ?_ z,λw0 H0 s=>s.put z (.inr (.inl (by rw[i];rfl))) λy A => .inl (Dt rfl rfl rfl A)⟩⟩;have I:=eX (aB H.ma f);generalize ni (aB H.ma f)=ys at *
 generalize ni x=xs at *
 rw[zJ u (t+f*13) o n ys xs vs k C D (by omega) (by omega)];exact F
theorem xP{α:Type}(x:α):∀(l:List α) (k:Nat),k<=l.length->l.insertIdx k x=l.take k++x::l.drop k
 | l,0,_=>by simp
 | [],k+1,h=>by simp at h
 | a::l,k+1,h=>by rw[Dg,xP x l k (by simpa using h)];simp
theorem cac_size:(Tryz.prog.info? 42).map (·.size)=some 1:=by kernel_rfl
theorem Lm(H:MH)(e:Int)(F I:Nat)(P:PF)(v:Int)(B b:Nat)(w:World)(h:lD w B b H e)(hP:H.fi[F]?=some P)(hv:P.l[I]?=some v)(hn:0<=P.n/\P.n<=1000)(hI:I<=1000)(hck:∀c∈H.ca,0<=c.k/\c.k<H.m.fs.length)(hwo:0<=v->aL H.dk v=0)
 (hz:H.sp.length<=1000) (Y:H.ca.length<=1000) (hz3:H.m.fs.length<=1000) :
  Calls Tryz.prog 93 #[.pointer (some ⟨b,0,none⟩),.int .i64 F,.int .i64 I] w λr w'=>r = .returned (.int .i64 (fB ⟨H.ma,e⟩ F I).2)/\KR w B b H w' (fB ⟨H.ma,e⟩ F I).1:=by
 go_enter func93,ntmps93
 go_wp2_with fail
 refine(Eo H e F I B b _ h).mono ?_;rintro r w1 ⟨rfl,hJ⟩;have k1:=h.below hJ;have s1:=(KS.refl w b H).below hJ;clear h hJ;cases hi:JY H.ca F I with
 | true=>
  have s:Hid (fB ⟨H.ma,e⟩ F I=(⟨setFr H.ma (Cv H.ma (sP H.ca F I)).k.toNat (lC (aB H.ma (Cv H.ma (sP H.ca F I)).k.toNat)),e⟩,(Cv H.ma (sP H.ca F I)).k)):=ae (by unfold fB;exact if_pos hi);obtain⟨c,hc,_,_⟩:=JL hi;have kg:=(bZ.1 hc).1;have h8:Cv H.ma (sP H.ca F I)=c:=by unfold Cv;show H.ca.getD _ _=c;rw[aW,hc];rfl
  have h7:=hck c (bP hc);rw[h8]at s;clear h8 hi;generalize sP H.ca F I=k at *
  obtain⟨K,hK⟩:∃K:Nat,c.k=K:=⟨c.k.toNat,by omega⟩;rw[hK,bv]at s;have kl:K<H.m.fs.length:=by omega
  obtain⟨bc,oc,c',kj,h9,_,_,hX⟩:=Uj k1.ma.rd.ca.rd k kg;rw[hc]at h9;cases h9;rw[hK]at hX;have kr:(K:Int)<(H.m.fs.length:Int):=by omega
  obtain⟨g,off,cur,ki,ka,kp,kf,hZ⟩:=k1.frPut kl;have i:=k1.blk.cell;unfold rD at i;rw[kj,ki]at i;clear hc h7 hck hP hv kf
  go_wp2_with (refine aC g (off+K*13+9) [.bool true] rfl rfl rfl _ _ ka (by simp;omega) wm (λu hu=>by cases bC.1 hu;rfl) ?_)
  intro w2 hp kh;obtain⟨O,Z⟩:=hZ 9 1 [.bool true] (lC (aB H.ma K)) w2 rfl (by decide) rfl hp kh;have Z:=Z _ _ s1;go_wp2;go_ret;rw[s.out];exact⟨rfl,_,_,O,Z,rfl⟩
 | false=>
  have s:Hid (fB ⟨H.ma,e⟩ F I=(let r:=eG ⟨H.ma,Fs ⟨H.ma,e⟩ F I⟩ (dB H.ma F I) F I
   if r.2<0 then(r.1,-1)else(⟨{ r.1.m with ca:=r.1.m.ca.insertIdx (sP r.1.m.ca F I) ⟨F,I,r.2⟩ },r.1.e⟩,r.2))):=ae (by unfold fB;exact if_neg (by show ¬JY H.ca F I=true;rw[hi];decide))
  clear hi hck;have ku:=ae k1.bs;have hY:bO H.ma.st F I=v:=by unfold bO;rw[jN (x:=P.fi) (by show(H.fi.map PF.fi)[F]?=_;rw[jd,hP];rfl),bv,aW];show(P.l[I]?).getD 0=v;rw[hv];rfl
  have h4:(aN H.ma.st F).n=P.n:=by rw[jN (x:=P.fi) (by show(H.fi.map PF.fi)[F]?=_;rw[jd,hP];rfl)];rfl
  have hl:Hid (Fs ⟨H.ma,e⟩ F I=if 0<=v then jr e (aL H.dk v)else e):=ae (by unfold Fs;rw[hY];rfl);have hy:Hid (dB H.ma F I=if 0<=v then dx (dD H.dk v) (P.n-I*8)else zPg):=ae (by unfold dB;rw[hY,h4];rfl);clear hY h4;generalize sP H.ca F I=k0 at *
  go_upto_region 7 with(fail);refine iC (λW=>Code.wp _ _ _ _ W) λw2 hp T ke => ?_;have O:=k1.below hp;have Z:=s1.below hp;have hO:=(bZ.1 hP).1;obtain⟨bf,of,P',hA,hf,hW,hV⟩:=xy O.ma.rd.st.rd F hO;rw[hP]at hf;cases hf;have J:=O.ma.rd.st.good P (bP hP);have ks:=(bZ.1 hv).1;obtain⟨bb,ob,kk,h5⟩:∃bb ob,P.a=some ⟨bb,ob,none⟩/\w2.cell? ⟨bb,ob+I,none⟩=some (.int .i64 v):=by obtain⟨bb,ob,h1,h2⟩:=J.rd I (gF v) (by rw[jd,hv];rfl);exact⟨bb,ob,h1,h2⟩
  rw[kk]at hV;have i:=O.blk.cell;unfold rD at i;rw[hA]at i;have kt:(F:Int)<(H.fi.length:Int):=by omega
  have kb:(I:Int)<(P.l.length:Int):=by omega
  by_cases h0:0<=v
  ·have hw:=hwo h0;rw[if_pos h0]at hl hy;rw[hw,oo]at hl;go_upto_region 9 with(fail);clear i hV h5 J kb
   go_wp2_with (refine ay b 5 _ O.rdD _ underlying38 rfl disk_size ?_)
   refine(Hg H.dk v _ _ _ _ _ O.ma.rd.dk).mono ?_;rintro r w3 ⟨rfl,hG⟩;rw[hw];have k3:=O.below hG;have s3:=Z.below hG;have pg3:=T.ext hG;have hT:=ag hp hG
   go_wp2_with (refine aJ rfl rfl (dW (dD H.dk v)) rfl rfl rfl psize (eF _) ?_)
   intro w4 hF x4;have k4:=k3.below hF;have pg4:=pg3.ext hF;have s4:=s3.below hF;have hS:=ag hT hF
   go_wp2_with fail
   refine(sV _ e 0 _ _ _ k4).mono ?_;rintro r w5 ⟨rfl,k5,ht⟩;rw[oo]at k5;have q:Below w4.heap.size w4 w5:=⟨ht.os,ht.tape,ht.output,ht.size,λx hx=>by
    by_cases e' : x=b
    ·subst e'; exact k5.blk.trans k4.blk.symm
    ·exact ht.block x hx (λe''=>e' (aM e''))⟩
   clear k5 ht;have k5:=k4.below q;have s5:=s4.below q;have x5:=x4.ext q;have pg5:=pg4.ext q;have hH:=ag hS q;have kq:=pg5.lt;clear O Z hp k3 s3 pg3 hG hT k4 s4 pg4 hF hS q x4 T hA hW;obtain⟨bf,of,P',hA,hf,hW,_⟩:=xy k5.ma.rd.st.rd F hO;rw[hP]at hf;cases hf;have hQ:∀W,Below w5.heap.size w5 W->W.cell? ⟨bf,of+F*2,none⟩=some (.int .i64 P.n):=λW L=>by obtain⟨bf',of',P',hU,hf,h6,_⟩:=xy (k5.below L).ma.rd.st.rd F hO;rw[hP]at hf;cases hf;rw[hA]at hU;cases hU;exact h6
   have kd:IntKind.i64.wrap ((I:Int)*8)=(I:Int)*8:=bK _ (by omega);have kc:IntKind.i64.wrap (P.n-(I:Int)*8)=P.n-(I:Int)*8:=bK _ (by omega);go_upto_region 11 with(fail);refine aO 15 [_,_,_,_,_,_,_,_,_,_,_,_,_,_,.v (.agg (dW (dx (dD H.dk v) (P.n-(I:Int)*8))))] (Gr (.agg (dW (dD H.dk v))) (λρ y W L hN=>(dG rfl (aH rfl hN) (x5.ext L) underlying58 psize)) rfl rfl (Gk rfl (Gk rfl (Gf b 0 rfl rfl (Gf b 7 rfl rfl (Gf b 7 rfl rfl (Gc (.slice (some ⟨bf,of,none⟩) H.fi.length H.ci) (λW L=>by simp[(k5.below L).blk.cell,rD,hA]) rfl rfl rfl rfl (Gk rfl (Gr (.pointer (some ⟨bf,of+F*2,none⟩)) (λρ y W L hN=>(bN rfl (aH rfl hN) (aH rfl hN) hO underlying39 file_size)) rfl rfl (Gf bf (of+F*2) rfl rfl (Gc (.int .i64 P.n) (λW L=>by simp[hQ W L]) rfl rfl rfl rfl (Gk rfl (Gb (.int .i64 ((I:Int)*8)) (by simp[go_sem,kd]) rfl rfl rfl rfl rfl (Gb (.int .i64 (P.n-(I:Int)*8)) (by simp[go_sem,kc]) rfl rfl rfl rfl rfl (ah ?_ (aF)))))))))))))))) (λ_=>rfl) rfl ?_
   ·intro ρ y W hw hn L hd;have ko:=hw 72 0 rfl;have h0:y 0=_:=hd 0 rfl;have kn:=hw 85 13 rfl;have km:y 13=_:=hd 13 rfl;have EF:=eF0 hn λ_=>trivial;refine aP (aS rfl (EF _) func140 (by simp only[bU,bS,aZ,ko,h0,kn,km,EF];rfl)) ?_;refine(Vm _ _ _).mono ?_;rintro r w1 ⟨rfl,hJ⟩;exact⟨_,rfl,hJ,rfl⟩
   intro y W6 hs _
   go_wp2_with (refine gD rfl _ _ _ rfl w1.heap.size 0 (dW (dx (dD H.dk v) (P.n-(I:Int)*8))) rfl rfl _ _ (pg5.ext hs) (by show 0+8<=8;decide) psize (eF _) ?_)
   intro w7 hM h3;have hM:aG w7 w1.heap.size (dW (dx (dD H.dk v) (P.n-(I:Int)*8))) 58:=by rw[<-gK (dW zPg) (dW (dx (dD H.dk v) (P.n-(I:Int)*8))) rfl];exact hM
   have hR:Below w1.heap.size w1 w7:=(ag hH hs).grown h3 (bi hH.size hs.size) (λk hk=>by cases hk;exact az _);have k7:=k1.below hR;have s7:=s1.below hR;clear k5 s5 x5 pg5 hH hs h3 hQ hW hA k1 s1;have hj:Hid (fB ⟨H.ma,e⟩ F I=if(eG ⟨H.ma,e⟩ (dx (dD H.dk v) (P.n-(I:Int)*8)) F I).2<0 then((eG ⟨H.ma,e⟩ (dx (dD H.dk v) (P.n-(I:Int)*8)) F I).1,-1)else(⟨{ (eG ⟨H.ma,e⟩ (dx (dD H.dk v) (P.n-(I:Int)*8)) F I).1.m with ca:=(eG ⟨H.ma,e⟩ (dx (dD H.dk v) (P.n-(I:Int)*8)) F I).1.m.ca.insertIdx (sP (eG ⟨H.ma,e⟩ (dx (dD H.dk v) (P.n-(I:Int)*8)) F I).1.m.ca F I) ⟨F,I,(eG ⟨H.ma,e⟩ (dx (dD H.dk v) (P.n-(I:Int)*8)) F I).2⟩ },(eG ⟨H.ma,e⟩ (dx (dD H.dk v) (P.n-(I:Int)*8)) F I).1.e⟩,(eG ⟨H.ma,e⟩ (dx (dD H.dk v) (P.n-(I:Int)*8)) F I).2)):=ae (by rw[s.out,hl.out,hy.out]);clear s hl hy;generalize dx (dD H.dk v) (P.n-(I:Int)*8)=Q at *
   generalize w1.heap.size=gp at *
   go_upto_region 12 with(fail)
   go_wp2_with (refine ay gp 0 (dW Q).toList hM.rd _ underlying58 rfl psize ?_)
   refine(sI H e F I Q B b _ k7 hz Y hz3).mono ?_;rintro r w8 ⟨rfl,A,e8,V,s8,q8⟩;have E:=s7.trans s8;have hD:=rQ.took ⟨H.ma,e⟩ Q F I;obtain⟨m1,m2,m3⟩:=XV q8;have hE:A.ca.length<=1000:=by rw[m2];exact bi hD.ca Y
   have G:=ae q8;clear k7 s7 hM s8 q8 hD m1 m2 m3;generalize hK2:(eG ⟨H.ma,e⟩ Q F I).2=K2
   by_cases h2:K2<0
   ·have hq:Hid (fB ⟨H.ma,e⟩ F I=(⟨A.ma,e8⟩,-1)):=ae (by rw[hj.out,hK2,if_pos h2,G.out]);go_wp2;go_ret;rw[hq.out];exact⟨rfl,_,_,V,E,rfl⟩
   have hq:Hid (fB ⟨H.ma,e⟩ F I=(⟨{ A.ma with ca:=A.ca.insertIdx (sP A.ca F I) ⟨F,I,K2⟩ },e8⟩,K2)):=ae (by rw[hj.out,hK2,if_neg h2,<-G.out];rfl);clear hK2 hj G
   go_wp2_with fail
   refine(Eo A e8 F I B b _ V).mono ?_;rintro r w9 ⟨rfl,hm⟩;have U:=V.below hm;have s9:=E.below hm;clear V E hm;have hr:=AO A.ca F I;generalize sP A.ca F I=k0 at *
   generalize JY A.ca F I=ok0 at *
   have i:=U.blk.cell;unfold rD at i
   go_wp2_with fail
   refine iC (λW=>Calls _ _ _ W _) λw10 p N hB => ?_;have C:=U.below p;have D:=s9.below p;have hC:∀g,(Value.slice A.ac A.ca.length A.cc).ownBlock=some g->w9.heap.size≠g:=λg J e=>by rw[jF]at J;obtain⟨_,cs,L⟩:=jf U.ma.ca J;have:=L.lt;omega
   refine(CJ A.ca ⟨F,I,K2⟩ k0 hr _ B _ _ C.ma.ca C.bs hE N (λ_=>hC)).mono ?_;rintro r w11 ⟨v11,rfl,d,o,j⟩;obtain⟨S,R,rfl,_⟩:=d.rd;rw[<-xP _ _ _ hr]at d;have t:(A.ca.insertIdx k0 ⟨F,I,K2⟩).length=A.ca.length+1:=by rw[List.length_insertIdx,if_pos hr]
   rw[<-t]at d;rw[jF]at o;obtain⟨hL,hh⟩:=C.cache D o (a:=S) (c:=R) (l:=A.ca.insertIdx k0 ⟨F,I,K2⟩) d (by
    rcases j with e' | e'
    ·rw[jF,jF]at e'; exact .inl e'
    refine .inr λg J => ?_;have:=e' g (by rw[jF];exact J);exact bi D.size this)
   rw[t]at hh;clear U s9 C D N p hB hC d o j i
   go_wp2_with (refine aC b 9 [.slice S (A.ca.length+1) R] rfl rfl rfl _ _ hL (by show 9+1<=12;decide) cac_size (λu hu=>by cases bC.1 hu;rfl) ?_)
   intro w12 ha z;obtain⟨k12,s12⟩:=hh w12 ha z;clear hh hL ha z;go_wp2;go_ret;rw[hq.out];exact⟨rfl,_,_,k12,s12,rfl⟩
  have pg2' : aG w2 w1.heap.size (dW zPg) 58:=T;rw[if_neg h0]at hl hy;go_upto_region 12 with(fail);have hj:Hid (fB ⟨H.ma,e⟩ F I=if(eG ⟨H.ma,e⟩ zPg F I).2<0 then((eG ⟨H.ma,e⟩ zPg F I).1,-1)else(⟨{ (eG ⟨H.ma,e⟩ zPg F I).1.m with ca:=(eG ⟨H.ma,e⟩ zPg F I).1.m.ca.insertIdx (sP (eG ⟨H.ma,e⟩ zPg F I).1.m.ca F I) ⟨F,I,(eG ⟨H.ma,e⟩ zPg F I).2⟩ },(eG ⟨H.ma,e⟩ zPg F I).1.e⟩,(eG ⟨H.ma,e⟩ zPg F I).2)):=ae (by rw[s.out,hl.out,hy.out]);clear s hl hy k1 s1 hp T i hV h5 J kb ke;generalize zPg=Q at *
  generalize w1.heap.size=gp at *
  go_upto_region 12 with(fail)
  go_wp2_with (refine ay gp 0 (dW Q).toList pg2'.rd _ underlying58 rfl psize ?_)
  refine(sI H e F I Q B b _ O hz Y hz3).mono ?_;rintro r w8 ⟨rfl,A,e8,V,s8,q8⟩;have E:=Z.trans s8;have hD:=rQ.took ⟨H.ma,e⟩ Q F I;obtain⟨m1,m2,m3⟩:=XV q8;have hE:A.ca.length<=1000:=by rw[m2];exact bi hD.ca Y
  have G:=ae q8;clear O Z pg2' s8 q8 hD m1 m2 m3;generalize hK2:(eG ⟨H.ma,e⟩ Q F I).2=K2
  by_cases h2:K2<0
  ·have hq:Hid (fB ⟨H.ma,e⟩ F I=(⟨A.ma,e8⟩,-1)):=ae (by rw[hj.out,hK2,if_pos h2,G.out]);go_wp2;go_ret;rw[hq.out];exact⟨rfl,_,_,V,E,rfl⟩
  have hq:Hid (fB ⟨H.ma,e⟩ F I=(⟨{ A.ma with ca:=A.ca.insertIdx (sP A.ca F I) ⟨F,I,K2⟩ },e8⟩,K2)):=ae (by rw[hj.out,hK2,if_neg h2,<-G.out];rfl);clear hK2 hj G
  go_wp2_with fail
  refine(Eo A e8 F I B b _ V).mono ?_;rintro r w9 ⟨rfl,hm⟩;have U:=V.below hm;have s9:=E.below hm;clear V E hm;have hr:=AO A.ca F I;generalize sP A.ca F I=k0 at *
  generalize JY A.ca F I=ok0 at *
  have i:=U.blk.cell;unfold rD at i
  go_wp2_with fail
  refine iC (λW=>Calls _ _ _ W _) λw10 p N hB => ?_;have C:=U.below p;have D:=s9.below p;have hC:∀g,(Value.slice A.ac A.ca.length A.cc).ownBlock=some g->w9.heap.size≠g:=λg J e=>by rw[jF]at J;obtain⟨_,cs,L⟩:=jf U.ma.ca J;have:=L.lt;omega
  refine(CJ A.ca ⟨F,I,K2⟩ k0 hr _ B _ _ C.ma.ca C.bs hE N (λ_=>hC)).mono ?_;rintro r w11 ⟨v11,rfl,d,o,j⟩;obtain⟨S,R,rfl,_⟩:=d.rd;rw[<-xP _ _ _ hr]at d;have t:(A.ca.insertIdx k0 ⟨F,I,K2⟩).length=A.ca.length+1:=by rw[List.length_insertIdx,if_pos hr]
  rw[<-t]at d;rw[jF]at o;obtain⟨hL,hh⟩:=C.cache D o (a:=S) (c:=R) (l:=A.ca.insertIdx k0 ⟨F,I,K2⟩) d (by
   rcases j with e' | e'
   ·rw[jF,jF]at e'; exact .inl e'
   refine .inr λg J => ?_;have:=e' g (by rw[jF];exact J);exact bi D.size this)
  rw[t]at hh;clear U s9 C D N p hB hC d o j i
  go_wp2_with (refine aC b 9 [.slice S (A.ca.length+1) R] rfl rfl rfl _ _ hL (by show 9+1<=12;decide) cac_size (λu hu=>by cases bC.1 hu;rfl) ?_)
  intro w12 ha z;obtain⟨k12,s12⟩:=hh w12 ha z;clear hh hL ha z;go_wp2;go_ret;rw[hq.out];exact⟨rfl,_,_,k12,s12,rfl⟩
theorem firstE_zero:∀ {l:List Int},firstE l=0↔∀x∈l,x=0
 | []=>by simp[firstE]
 | x::l=>by
  unfold firstE
  by_cases o:x=0
  ·rw[if_pos o,firstE_zero];constructor
   ·intro h y i;rcases dz.1 i with e|i
    ·rw[e,o]
    ·exact h y i
   ·exactλh y i=>h y (jY _ i)
  rw[if_neg o];exact⟨λh=>absurd h o,λh=>absurd (h x iN) o⟩
theorem oh{p:Prop}[Decidable p]{a b:Int}(i:a≠0:=by decide):(if p then a else b)=0↔¬p/\b=0:=by
 by_cases h:p
 ·rw[if_pos h];exact⟨λe=>absurd e i,λe=>absurd h e.1⟩
 ·rw[if_neg h];exact⟨λe=>⟨h,e⟩,λe=>e.2⟩
theorem nM{a b:Int}:(if a≠0 then a else b)=0↔a=0/\b=0:=by
 by_cases h:a=0
 ·rw[if_neg (λe=>e h)];exact⟨λe=>⟨h,e⟩,λe=>e.2⟩
 ·rw[if_pos h];exact⟨λe=>absurd e h,λe=>absurd e.1 h⟩
theorem CO{s:Sp}:kR s=0↔(bQ s.ar).1=0/\dA s.tb=0/\(s.lv=false->s.ar=[]/\∀n,(dM s.tb n).k=0):=by
 unfold kR;rw[nM,nM,oh];refine and_congr_right λ_=>and_congr_right λ_ => ?_;constructor
 ·rintro⟨h,_⟩ o;have u:s.ar.length+(aV s.tb).length=0:=by
   rcases ut (s.ar.length+(aV s.tb).length)with e|e
   ·exact e
   ·exact absurd ⟨o,e⟩ h
  refine⟨kV (by omega),λn => ?_⟩
  by_cases i:0<=n/\n<64
  ·have h2:aV s.tb=[]:=kV (by omega)
   by_cases t:(dM s.tb n).k=0
   ·exact t
   have:=qd.2 ⟨i,t⟩;rw[h2]at this;cases this
  ·rw[sU];rfl
 refineλh=>⟨?_,rfl⟩;rintro⟨o,e⟩;obtain⟨u,h2⟩:=h o;have y:aV s.tb=[]:=by rw[List.eq_nil_iff_forall_not_mem];intro n i;exact(qd.1 i).2 (h2 n)
 rw[u,y]at e;exact absurd e (by simp)
theorem GI :trimB m=true↔(∀b:Int,0<=b->b<m.dk.blocks.length->b∈lT m.st\/m.dk.blocks.getD b.toNat zPg=zPg)/\∀q∈m.dk.queue,q.1∈lT m.st:=by
 unfold trimB;rw[ed,fD,fD];refine and_congr ⟨λh b o i => ?_,λh b i => ?_⟩ ⟨λh q e=>by simpa using h q e,λh q e=>by simpa using h q e⟩
 ·have:=h b.toNat (eO.2 (by omega));rw[El o]at this;simpa using this
 have:=h (b:Int) (by omega) (by have:=eO.1 i;omega);simpa using this
theorem xw :iU m=0↔Pt m/\trimB m=true/\∀s∈m.sp,s.lv=false->s.ar=[]/\∀n,(dM s.tb n).k=0:=by
 unfold iU;rw[nM,nM,nM,nM,nM,oh,oh,firstE_zero];constructor
 ·rintro⟨i,h2,E,D,C,t,F,A⟩;have o:∀s∈m.sp,_:=λs e=>CO.1 (A _ (DD e));refine⟨⟨i,h2,E,D,C,?_,?_,by omega,λs e=>(o s e).1,λs e=>(o s e).2.1⟩,?_,λs e=>(o s e).2.2⟩
  ·exact vZ λh=>t (.inl h)
  ·exact vZ λh=>t (.inr (.inl h))
  cases h:trimB m with
  | true=>rfl
  | false=>exact absurd (.inr (.inr h)) t
 rintro⟨h,y,z⟩;refine⟨h.fr,h.sl,h.sw,h.dk,h.st,?_,by have:=h.spl;omega,?_⟩
 ·rintro(i|i|i)
  ·exact i h.swl
  ·exact i h.dkl
  ·rw[y]at i;cases i
 intro x u;obtain⟨s,e,rfl⟩:=iA.1 u;exact CO.2 ⟨h.ar s e,h.tb s e,z s e⟩
theorem xI{p:Option Cc}{c:Cc}:uX m p c=0↔(qP m.st c.f c.i/\0<=c.k/\c.k<m.m.fs.length)/\(1<=(aB m c.k.toNat).r/\(aB m c.k.toNat).f=c.f/\(aB m c.k.toNat).i=c.i)/\∀q,p=some q->CZ q c:=by
 have a:jw m c.k=aB m c.k.toNat:=rfl;unfold uX;rw[oh,oh,a];refine and_congr ⟨λh=>⟨⟨by omega,by omega⟩,by omega⟩,λh=>by obtain⟨⟨_,_⟩,_⟩:=h;omega⟩ (and_congr ⟨λh=>by omega,λh=>by omega⟩ ?_);cases p with
 | none=>simp
 | some q=>
  simp only[jo,forall_eq'];rw[oh];unfold CZ;omega
theorem Js{l:List Cc}(h:∀k (o:k+1<l.length),CZ (l[k]'(by omega)) l[k+1]):l.Pairwise CZ:=by
 induction l with
 | nil=>exact List.Pairwise.nil
 | cons a l ih=>
  have ih:=ih λk o=>h (k+1) (by simpa using o);refine ui.2 ⟨?_,ih⟩;cases l with
  | nil=>simp
  | cons b l=>
   have t:CZ a b:=h 0 (by simp);intro c i;rcases dz.1 i with e|i
   ·rw[e];exact t
   have u:=(ui.1 ih).1 c i;unfold CZ at *; omega
theorem Bt :cachedE m=0↔uW m:=by
 unfold cachedE;rw[firstE_zero];constructor
 ·intro h;have y:∀k (e:k<m.ca.length),uX m (zm m.ca k) m.ca[k]=0:=λk e=>by have:=h _ (DD (eO.2 e));rw[aW,aI e]at this;exact this
  have h2:∀c∈m.ca,(qP m.st c.f c.i/\0<=c.k/\c.k<m.m.fs.length)/\(1<=(aB m c.k.toNat).r/\(aB m c.k.toNat).f=c.f/\(aB m c.k.toNat).i=c.i):=λc o=>by obtain⟨k,e,rfl⟩:=jJ.1 o;have:=xI.1 (y k e);exact⟨this.1,this.2.1⟩
  refine⟨λc o=>(h2 c o).1.1,λc o=>(h2 c o).1.2,λc o=>(h2 c o).2,Js λk e => ?_⟩;refine(xI.1 (y (k+1) e)).2.2 _ ?_;unfold zm;rw[if_neg (by omega),Nat.add_sub_cancel,aI]
 intro h x z;obtain⟨k,e,rfl⟩:=iA.1 z;have e:=eO.1 e;rw[aW,aI e,qy];have u:m.ca[k]∈m.ca:=fe e;refine xI.2 ⟨⟨h.file _ u,h.lt _ u⟩,h.fr _ u,λq t => ?_⟩;unfold zm at t;split at t
 ·cases t
 rw[aI (by omega)]at t;rw[<-aM t];exact Af.1 h.srt _ _ (by omega) e (by omega)
theorem Er(O:Pt m)(T:(ent m p n).k≠0):dh m (dI m p) n=0↔∃g,fI m p n=some g/\QA m g (ent m p n):=by
 have U:=(bG _).1 (nG O p n);unfold dh;rw[oh];have j:=yI (dI m p).ar n;constructor
 ·rintro⟨C,h2⟩;obtain⟨J,Q⟩:=IW (l:=(dI m p).ar) (n:=n) (by omega);refine⟨_,J,?_⟩;generalize (dI m p).ar.getD (ik (dI m p).ar n).toNat zAr=a at *
  have I:dM (dI m p).tb n=ent m p n:=rfl;rw[I]at h2;generalize ent m p n=e at *
  simp only at h2
  by_cases z:e.k=2
  ·rw[if_pos z,oh]at h2;refine⟨λ_=>⟨by omega,?_⟩,λh=>by omega,λh=>by omega⟩;show a.sh=false;cases hs:a.sh with
   | false=>rfl
   | true=>exact absurd (.inr hs) h2.1
  rw[if_neg z,oh,oh,oh]at h2;have c:jw m e.n=aB m e.n.toNat:=rfl;rw[c]at h2;obtain⟨V,D,P,_⟩:=h2;refine⟨λh=>absurd h z,λ_=>by omega,λ_ => ?_⟩;show Ol (aB m e.n.toNat) (kS a n) e.w;generalize aB m e.n.toNat=f at *
  have b:0<=f.f->(0<=a.fi/\f.f=a.fi/\f.i=a.ba+n-a.fr):=λy=>by refine vZ λE=>D (.inl ⟨y,?_⟩);rw[IM];simp only[ne_eq,ed,decide_eq_true_eq];exactλh=>E ⟨h.1.1,h.1.2,h.2⟩
  refine⟨λy => ?_,λhs => ?_,λA => ?_,λA y => ?_,λA y => ?_⟩
  ·obtain⟨k1,t,u⟩:=b y;refine⟨t,?_⟩;unfold kS;simp only;rw[if_pos k1];exact u
  ·refine vZ λE=>D (.inr (.inl ⟨hs,?_⟩));rw[IM];simp only[ne_eq,ed,decide_eq_true_eq];exactλh=>by omega
  ·show a.wr=true;cases hs:a.wr with
   | true=>rfl
   | false=>exact absurd (.inr (.inr (.inr ⟨A,hs⟩))) D
  ·show a.sh=true;cases hs:a.sh with
   | true=>rfl
   | false=>
    refine absurd (.inr (.inr (.inl ⟨hs,?_,A⟩))) D;have:=b y;simp only[ed,decide_eq_true_eq];exact⟨⟨this.1,this.2.1⟩,this.2.2⟩
  ·exact vZ λE=>P ⟨y,A,by omega⟩
 rintro⟨g,F,G⟩;have o:onA (dI m p).ar n≠none:=by have:fI m p n=onA (dI m p).ar n:=rfl;rw[<-this,F];exactλh=>by cases h
 have C:=j.2 o;refine⟨by omega,?_⟩;obtain⟨J,Q⟩:=IW (l:=(dI m p).ar) (n:=n) C;have q : g=kS ((dI m p).ar.getD (ik (dI m p).ar n).toNat zAr) n:=by have:fI m p n=onA (dI m p).ar n:=rfl;rw[this,J]at F;exact(aM F).symm
 subst q;generalize (dI m p).ar.getD (ik (dI m p).ar n).toNat zAr=a at *
 have I:dM (dI m p).tb n=ent m p n:=rfl;rw[I];generalize ent m p n=e at *
 simp only
 by_cases z:e.k=2
 ·obtain⟨k1,t⟩:=G.sw z;have t:a.sh=false:=t;rw[if_pos z,oh];refine⟨?_,rfl⟩;rintro(h|h)
  ·omega
  ·rw[t]at h;cases h
 have C:e.k=1:=by omega
 have k1:=G.lt C;obtain⟨S,N,L,K,R⟩:=G.fr C;have c:jw m e.n=aB m e.n.toNat:=rfl;rw[if_neg z,oh,oh,oh,c];generalize aB m e.n.toNat=f at *
 have N:a.sh=true->0<=f.f:=N;have L:e.w=true->a.wr=true:=L;have K:e.w=true->0<=f.f->a.sh=true:=K;have b:0<=f.f->(decide (0<=a.fi)&&decide (f.f=a.fi)&&decide (f.i=a.ba+n-a.fr))=true:=λy=>by obtain⟨t,u⟩:=S y;have t:f.f=a.fi:=t;unfold kS at u;simp only at u;rw[if_pos (by omega)]at u;simp only[ed,decide_eq_true_eq];exact⟨⟨by omega,t⟩,u⟩
 have d : (decide (0<=a.fi)&&decide (f.f=a.fi)&&decide (f.i=a.ba+n-a.fr))=true->0<=f.f:=λh=>by simp only[ed,decide_eq_true_eq]at h;omega
 generalize (decide (0<=a.fi)&&decide (f.f=a.fi)&&decide (f.i=a.ba+n-a.fr))=of at *
 refine⟨by omega,?_,?_,rfl⟩
 ·rintro(⟨t,u⟩|⟨t,u⟩|⟨t,u,k4⟩|⟨t,u⟩)
  ·rw[b t]at u;cases u
  ·rw[b (N t)]at u;cases u
  ·rw[K k4 (d u)]at t;cases t
  ·rw[L t]at u;cases u
 rintro⟨t,u,k4⟩;have:=R u t;omega
theorem Am(t:Pt m):nN m=0↔∀p n,(ent m p n).k≠0->∃g,fI m p n=some g/\QA m g (ent m p n):=by
 unfold nN;rw[firstE_zero];constructor
 ·intro h p n e;have a : p<m.sp.length:=vZ λi=>e (by unfold ent;rw[qA (by omega)];have:dM zSp.tb n=zEn:=yg n;rw[this];rfl);have i:0<=n/\n<64:=vZ λi=>e (by rw[OD p (by omega)];rfl);refine(Er t e).1 (h _ (lg.2 ⟨dI m p,Dn a,DD (qd.2 ⟨i,e⟩)⟩))
 intro h x o;obtain⟨s,u,o⟩:=lg.1 o;obtain⟨n,i,rfl⟩:=iA.1 o;obtain⟨p,a,rfl⟩:=Ph u;have e:=(qd.1 i).2;exact(Er t e).2 (h p n e)
theorem Ta(t:Tb)(i:Int):cnt (pz t (aV t)) i=(dC t).countP (pW 1 i):=by
 rw[<-EN (show(1:Int)≠0 by decide)];unfold cnt pz pX qZ;rw[yh,IZ,<-Em];congr 1;funext n;simp only[Jj,DU];rw[nz];simp only[ed,uG,decide_eq_false_iff_not,ru,decide_eq_true_eq];exact and_comm
theorem TQ{t:Tb}(h:dA t=0)(i:Int):cnt (swapT t (aV t)) i=(dC t).countP (pW 2 i):=by
 rw[<-EN (show(2:Int)≠0 by decide)];unfold cnt swapT pX qZ;rw[yh,IZ,<-Em];refine List.countP_congr λn o => ?_;have y:=(bG _).1 (qH h n);have u:=(qd.1 o).2;simp only[Jj,DU,ed,uG,decide_eq_false_iff_not,ru,decide_eq_true_eq];constructor
 ·rintro⟨e,h2⟩;exact⟨by omega,e⟩
 ·rintro⟨e,h2⟩;exact⟨h2,by omega⟩
theorem Ae(l r:List Int)(i:Int):cnt (l++r) i=cnt l i+cnt r i:=by unfold cnt;rw[DR]
theorem EK{α:Type}(g:α->List Int)(i:Int):∀l:List α,cnt (l.flatMap g) i=(l.map λs=>cnt (g s) i).sum
 | []=>rfl
 | a::l=>by rw[nV,Ae,EK g i l,bS,Bq]
theorem Kv(m:Ma)(i:Int):cnt (tN m) i=uf m i+bR m 1 i:=by
 unfold tN;rw[Ae,EK];congr 1
 ·unfold cnt uf;rw[yh];rfl
 unfold bR;congr 1;exact vS λs _=>Ta s.tb i
theorem GG(h:Pt m)(i:Int):cnt (qL m) i=bR m 2 i:=by
 unfold qL bR;rw[EK];congr 1;exact vS λs e=>TQ (h.tb s e) i
theorem ET(y:Pt m):countB m=true↔(∀i:Nat,i<m.m.fs.length->(aB m i).r=uf m i+bR m 1 i)/\(∀i:Nat,i<m.m.fs.length->0<=(aB m i).f->∃c∈m.ca,c.k=i)/\∀s:Nat,s<m.sl.length->jW m s=bR m 2 s:=by
 unfold countB;rw[ed,fD,decide_eq_true_eq];constructor
 ·rintro⟨o,h2⟩;have o:∀i:Nat,i<m.m.fs.length->_:=λi e=>o i (eO.2 e);simp only[ed,decide_eq_true_eq,uP,jP,Kv,ve]at o;refine⟨λi e=>by rw[(o i e).1];omega,λi e z => ?_,λs C => ?_⟩
  ·rcases(o i e).2 with h|⟨c,u,t⟩
   ·have h:(aB m i).f<0:=of_decide_eq_true h;omega
   ·exact⟨c,u,t⟩
  have:jW m s=(lw m.sl.length (qL m)).getD s 0:=by rw[<-h2];rfl
  rw[this];unfold lw;rw[aW,jd,uu C];show((cnt (qL m) s:Nat):Int)=_;rw[GG y]
 rintro⟨o,h2,D⟩;refine⟨λi e => ?_,?_⟩
 ·have e:=eO.1 e;simp only[ed,decide_eq_true_eq,uP,jP,Kv,ve];refine⟨by rw[o i e];omega,?_⟩
  by_cases z:0<=(aB m i).f
  ·obtain⟨c,u,t⟩:=h2 i e z;exact .inr ⟨c,u,t⟩
  ·exact .inl (decide_eq_true (show(aB m i).f<0 by omega))
 apply uZ
 ·unfold lw;simp
 intro s k1 A;have:=D s k1;have E:(lw m.sl.length (qL m))[s]'A=((cnt (qL m) (s:Int):Nat):Int):=by simp[lw]
 rw[E,GG y,<-this];unfold jW;rw[aW,aI k1];rfl
theorem IR :jU m=0↔Rt m:=by
 unfold jU;rw[nM,nM,nM,xw,Bt];constructor
 ·rintro⟨⟨e,o,u⟩,z,y,i⟩;have i:countB m=true:=by
   cases h:countB m with
   | true=>rfl
   | false=>rw[h]at i;exact absurd i (by decide)
  obtain⟨D,C,A⟩:=(ET e).1 i;refine⟨e,GI.1 o,λp a => ?_,z,(Am e).1 y,D,C,A⟩;rcases gu p m.sp.length with h|h
  ·exact u _ (Dn h) a
  rw[qA h];refine⟨rfl,λn => ?_⟩;unfold ent;rw[qA h];have:dM zSp.tb n=zEn:=yg n;rw[this];rfl
 intro h;refine⟨⟨h.pt,GI.2 h.trim,λs t b => ?_⟩,h.ca,(Am h.pt).2 h.en,?_⟩
 ·obtain⟨p,e,rfl⟩:=Ph t;exact h.live p b
 ·rw[if_pos ((ET h.pt).2 ⟨h.cf,h.fc,h.cs⟩)]
def aQ(m:Ma)(p:Nat)(n:Int)(x:En):Ma:=setTb m p (setT (dI m p).tb n x)
theorem xx{i:Int}{e:En}(h:e.k=0)(o:kd≠0):sO (pW kd i e)=0:=by
 unfold sO pW;rw[if_neg];simp only[ed,decide_eq_true_eq];intro t; omega
theorem qc{i:Int}{e:En}:sO (pW kd i e)=if e.k=kd/\e.n=i then 1 else 0:=by
 unfold sO pW
 by_cases h:e.k=kd/\e.n=i
 ·rw[if_pos h,if_pos (by simp[h.1,h.2])]
 rw[if_neg h,if_neg];simp only[ed,decide_eq_true_eq];exact h
theorem zV(h:Rt m){j:Int}(e:(ent m q j).k=1)(y:(ent m q j).n.toNat=f):0<bR m 1 f/\f<m.m.fs.length:=by
 have o:=nu (m:=m) (p:=q) (n:=j) (by rw[e];decide);have z:=(bG _).1 (nG h.pt q j);have u:=(nI (m:=m) (kd:=1) (i:=f)).2 ⟨q,j,o.1,o.2,e,by omega⟩;obtain⟨g,_,t⟩:=h.en q j (by rw[e];decide);have:=t.lt e;exact⟨u,by omega⟩
theorem tF(h:Rt m)(G:Co m){x:En}{g:Pg}(hp:p<m.sp.length)(hn:0<=n/\n<64)(h0:(ent m p n).k=0)(N:f<m.m.fs.length)(I:x.k=1)(R:x.n=f)(hX:bT X=0)(hr:X.r=(aB m f).r+1)(E:(aB m f).r=0->X.f<0/\X.d=false)(hw:X.f<0->∀q j,(ent m q j).k=1->(ent m q j).n.toNat=f->(ent m q j).w=false)(S:fI m p n=some g)(K:Ol X g x.w)(hold:(aB m f).r≠0->X.f=(aB m f).f/\X.i=(aB m f).i/\X.p=(aB m f).p/\X.d=(aB m f).d:=by exact(λ_=>⟨rfl,rfl,rfl,rfl⟩)):Rt (aQ (setFr m f X) p n x)/\Co (aQ (setFr m f X) p n x):=by
 have hm:Pt (setFr m f X):=h.pt.setFr hX;have hu:eP x=0:=(bG x).2 (.inr (.inl ⟨I,by have:=((dO _).1 h.pt.fr).1;omega⟩));obtain⟨Y,_,hx⟩:=iT (k:=⟨setFr m f X,0⟩) (p:=p) (n:=n) (x:=x) hm hn hu;have V:p<(setFr m f X).sp.length:=hp;have z:∀q j,ent (aQ (setFr m f X) p n x) q j=if q=p/\j=n then x else ent m q j:=λq j=>nU V Y q j;have l:∀y,aB (aQ (setFr m f X) p n x) y=if y=f then X else aB m y:=λy=>gB N y;have b:(aQ (setFr m f X) p n x).m.fs.length=m.m.fs.length:=fu;have ha:∀kd i,kd≠0->bR (aQ (setFr m f X) p n x) kd i=bR m kd i+sO (pW kd i x):=λkd i F=>by have D:=qG V Y kd i;have h2:sO (pW kd i (ent (setFr m f X) p n))=0:=xx (e:=ent (setFr m f X) p n) h0 F;have h3:bR (setFr m f X) kd i=bR m kd i:=rfl;unfold aQ;omega
 have hj:iF m (setFr m f X):=iF.of rfl;have T:iF m (aQ (setFr m f X) p n x):=hj.trans (iF.setTb (m:=setFr m f X) (p:=p) (t:=setT (dI (setFr m f X) p).tb n x));have hA:uW (aQ (setFr m f X) p n x):=by
  refine⟨h.ca.file,λc a => ?_,λc a => ?_,h.ca.srt⟩
  ·rw[b];exact h.ca.lt c a
  have D:=h.ca.fr c a;rw[l]
  by_cases e:c.k.toNat=f
  ·rw[if_pos e];rw[e]at D;obtain⟨k1,U,_⟩:=hold (by omega);exact⟨by omega,by omega,by omega⟩
  ·rw[if_neg e];exact D
 refine⟨⟨hx,h.trim,λq W => ?_,hA,λq j F => ?_,λi J => ?_,λi J v => ?_,λs hs => ?_⟩,⟨λc a => ?_,λc a A => ?_,λi J A => ?_⟩⟩
 ·rw[T.lv]at W;obtain⟨O,a2⟩:=h.live q W;refine⟨by rw[T.ar];exact O,λj => ?_⟩;rw[z,if_neg]
  ·exact a2 j
  rintro⟨rfl,rfl⟩;have:fI m q j=onA (dI m q).ar j:=rfl;rw[this,O]at S;cases S
 ·have hz:fI (aQ (setFr m f X) p n x) q j=fI m q j:=by unfold fI;rw[T.ar]
  rw[hz];rw[z]at F ⊢
  by_cases e:q=p/\j=n
  ·rw[if_pos e]at F ⊢;rw[e.1,e.2];refine⟨g,S,λhB=>by omega,λ_=>by rw[b];omega,λ_ => ?_⟩;rw[l,if_pos (by omega)];exact K
  rw[if_neg e]at F ⊢;obtain⟨y,hy,o⟩:=h.en q j F;refine⟨y,hy,o.sw,by rw[b];exact o.lt,λu => ?_⟩;rw[l]
  by_cases L:(ent m q j).n.toNat=f
  ·rw[if_pos L];have D:=o.fr u;rw[L]at D;have h2:=zV h u L;have h3:=h.cf f N;obtain⟨k1,U,_,_⟩:=hold (by omega);obtain⟨f1,f2,f3,f4,f5⟩:=D;refine⟨by rw[k1,U];exact f1,by rw[k1];exact f2,f3,by rw[k1];exact f4,λZ hv => ?_⟩;rw[hw hv q j u L]at Z;cases Z
  ·rw[if_neg L];exact o.fr u
 ·have O:uf (aQ (setFr m f X) p n x) i=uf m i:=rfl;rw[l,O,ha 1 i (by decide),qc];have h3:=h.cf i (by rw[<-b];exact J)
  by_cases e:i=f
  ·subst e;rw[if_pos rfl,if_pos ⟨I,R⟩,hr];omega
  ·rw[if_neg e,if_neg (λh'=>e (by omega))];omega
 ·rw[l]at v
  by_cases e:i=f
  ·subst e;rw[if_pos rfl]at v
   by_cases C:(aB m i).r=0
   ·have:=(E C).1;omega
   obtain⟨k1,_⟩:=hold C;exact h.fc i N (by omega)
  rw[if_neg e]at v;exact h.fc i (by rw[<-b];exact J) v
 ·rw[ha 2 s (by decide),qc,if_neg (λh'=>by omega)];exact h.cs s hs
 ·have D:=h.ca.fr c a;rw[l]
  by_cases e:c.k.toNat=f
  ·rw[if_pos e];rw[e]at D;obtain⟨_,_,Q,_⟩:=hold (by omega);rw[Q,<-e];exact G.tail c a
  ·rw[if_neg e];exact G.tail c a
 ·have D:=h.ca.fr c a;rw[l]at A ⊢
  by_cases e:c.k.toNat=f
  ·rw[if_pos e]at A ⊢;rw[e]at D;obtain⟨_,_,Q,P⟩:=hold (by omega);rw[Q,<-e];exact G.clean c a (by rw[e,<-P];exact A)
  ·rw[if_neg e]at A ⊢; exact G.clean c a A
 rw[l]at A ⊢
 by_cases e:i=f
 ·subst e;rw[if_pos rfl]at A ⊢
  by_cases C:(aB m i).r=0
  ·rw[(E C).2]at A;cases A
  obtain⟨k1,_,_,P⟩:=hold C;rw[k1];exact G.anon i N (by rw[<-P];exact A)
 ·rw[if_neg e]at A ⊢; exact G.anon i (by rw[<-b];exact J) A
theorem Iu(h:Rt m)(R:Co m){x:En}{g:Pg}(hp:p<m.sp.length)(hn:0<=n/\n<64)(h0:(ent m p n).k=0)(hs:s<m.sl.length)
 (E:x.k=2) (I:x.n=s) (G:x.w=false) (S:jW m s+1<=1000) (C:bX d=0) (Q:d.blocks.length=m.sw.blocks.length) (P:fI m p n=some g) (L:g.sh=false) :
  Rt (aQ { setSl m s (jW m s+1)with sw:=d } p n x)/\Co (aQ { setSl m s (jW m s+1)with sw:=d } p n x):=by
 have hb:=h.pt.slB s;have ha:Pt (setSl m s (jW m s+1)):=h.pt.setSl (by omega) S;have hz:Pt { setSl m s (jW m s+1)with sw:=d }:={ ha with sw:=C,swl:=by show d.blocks.length=_;rw[Q];exact ha.swl };have hE:eP x=0:=(bG x).2 (.inr (.inr ⟨E,by have:=kJ h.pt.sl;omega,by have:=kJ h.pt.sl;omega,G⟩));obtain⟨T,_,hG⟩:=iT (k:=⟨{ setSl m s (jW m s+1)with sw:=d },0⟩) (p:=p) (n:=n) (x:=x) hz hn hE;have hA:p<({ setSl m s (jW m s+1)with sw:=d }:Ma).sp.length:=hp;generalize hm1:({ setSl m s (jW m s+1)with sw:=d }:Ma)=m1 at *
 have N:m1.sp=m.sp:=by rw[<-hm1];rfl
 have V:m1.m=m.m:=by rw[<-hm1];rfl
 have hD:m1.ca=m.ca:=by rw[<-hm1];rfl
 have hw:m1.st=m.st:=by rw[<-hm1];rfl
 have hC:m1.dk=m.dk:=by rw[<-hm1];rfl
 have u:m1.sl=m.sl.set s (jW m s+1):=by rw[<-hm1];rfl
 have v:∀q j,ent m1 q j=ent m q j:=λq j=>by unfold ent dI;rw[N]
 have Z:∀q j,ent (aQ m1 p n x) q j=if q=p/\j=n then x else ent m q j:=λq j=>by rw[<-v];exact nU hA T q j
 have o:∀y,aB (aQ m1 p n x) y=aB m y:=λy=>by unfold aB aQ setTb;simp only;rw[V]
 have l:(aQ m1 p n x).m.fs.length=m.m.fs.length:=by unfold aQ setTb;simp only;rw[V]
 have W:∀kd i,kd≠0->bR (aQ m1 p n x) kd i=bR m kd i+sO (pW kd i x):=λkd i D=>by
  have h1:=qG hA T kd i;have h2:sO (pW kd i (ent m1 p n))=0:=xx (by rw[v];exact h0) D;have h3:bR m1 kd i=bR m kd i:=by unfold bR;rw[N]
  unfold aQ;omega
 have K:iF m (aQ m1 p n x):=(iF.of N).trans iF.setTb;have f:(aQ m1 p n x).ca=m.ca:=hD;have t:(aQ m1 p n x).st=m.st:=hw;have Y:(aQ m1 p n x).dk=m.dk:=hC;have hv:∀a b,dB (aQ m1 p n x) a b=dB m a b:=λa b=>by unfold dB;rw[t,Y]
 refine⟨⟨hG,by rw[Y,t];exact h.trim,λq U => ?_,⟨by rw[f,t];exact h.ca.file,by rw[f,l];exact h.ca.lt,λc r=>by rw[o];exact h.ca.fr c (by rw[<-f];exact r),by rw[f];exact h.ca.srt⟩,λq j D => ?_,λi A => ?_,λi A hB => ?_,λi A => ?_⟩,⟨λc r => ?_,λc r C => ?_,λi A C => ?_⟩⟩
 ·rw[K.lv]at U;obtain⟨F,a2⟩:=h.live q U;refine⟨by rw[K.ar];exact F,λj => ?_⟩;rw[Z,if_neg]
  ·exact a2 j
  rintro⟨rfl,rfl⟩;have:fI m q j=onA (dI m q).ar j:=rfl;rw[this,F]at P;cases P
 ·have hH:fI (aQ m1 p n x) q j=fI m q j:=by unfold fI;rw[K.ar]
  have z:(aQ m1 p n x).sl.length=m.sl.length:=by show m1.sl.length=_;rw[u,bI]
  rw[hH];rw[Z]at D ⊢
  by_cases e:q=p/\j=n
  ·rw[if_pos e]at D ⊢;rw[e.1,e.2];exact⟨g,P,λ_=>⟨by rw[z];omega,L⟩,λJ=>by omega,λJ=>by omega⟩
  rw[if_neg e]at D ⊢;obtain⟨y,hy,O⟩:=h.en q j D;exact⟨y,hy,by rw[z];exact O.sw,by rw[l];exact O.lt,λJ=>by rw[o];exact O.fr J⟩
 ·have F:uf (aQ m1 p n x) i=uf m i:=by unfold uf;rw[f]
  rw[o,F,W 1 i (by decide),qc,if_neg (λh'=>by omega)];exact h.cf i (by rw[<-l];exact A)
 ·rw[f];rw[o]at hB;exact h.fc i (by rw[<-l];exact A) hB
 ·have hI : i<m.sl.length:=by have:(aQ m1 p n x).sl=m1.sl:=rfl;rw[this,u,bI]at A;exact A
  have hF:jW (aQ m1 p n x) i=if i=s then jW m s+1 else jW m i:=by
   have h1:=Jg (x:=jW m s+1) hs i;have h2:jW (aQ m1 p n x) i=jW (setSl m s (jW m s+1)) i:=by unfold jW;show m1.sl.getD i 0=_;rw[u];rfl
   rw[h2,h1]
  rw[hF,W 2 i (by decide),qc];have h3:=h.cs i hI
  by_cases e:i=s
  ·subst e;rw[if_pos rfl,if_pos ⟨E,I⟩];omega
  ·rw[if_neg e,if_neg (λh'=>e (by omega))];omega
 ·rw[o,t];rw[f]at r;exact R.tail c r
 ·rw[f]at r;rw[o]at C ⊢; rw[hv];exact R.clean c r C
 ·rw[o]at C ⊢; exact R.anon i (by rw[<-l];exact A) C
theorem Nu(h:Rt m)(D:Co m)(A:(ent m p n).k=1):Rt (aQ m p n ⟨1,(ent m p n).n,false⟩)/\Co (aQ m p n ⟨1,(ent m p n).n,false⟩):=by
 have l:=nu (m:=m) (p:=p) (n:=n) (by rw[A];decide);have P:=(bG _).1 (nG h.pt p n);have u:eP ⟨1,(ent m p n).n,false⟩=0:=(bG _).2 (.inr (.inl ⟨rfl,by show 0<=(ent m p n).n;omega,by show(ent m p n).n<40;omega⟩));generalize hx:(⟨1,(ent m p n).n,false⟩:En)=x at *
 have t:x.k=1:=by rw[<-hx]
 have f:x.n=(ent m p n).n:=by rw[<-hx]
 have r:x.w=false:=by rw[<-hx]
 obtain⟨o,_,v⟩:=iT (k:=⟨m,0⟩) (p:=p) (n:=n) (x:=x) h.pt l.2 u;have c:∀q j,ent (aQ m p n x) q j=if q=p/\j=n then x else ent m q j:=λq j=>nU l.1 o q j;have d:∀kd i,bR (aQ m p n x) kd i=bR m kd i:=λkd i=>by
  have F:=qG l.1 o kd i;have h2:sO (pW kd i (ent m p n))=sO (pW kd i x):=by rw[qc,qc,t,f,A]
  unfold aQ;omega
 have g:iF m (aQ m p n x):=iF.setTb;refine⟨⟨v,h.trim,λq E => ?_,⟨h.ca.file,h.ca.lt,h.ca.fr,h.ca.srt⟩,λq j b => ?_,λi J=>by rw[d];exact h.cf i J,h.fc,λs I=>by rw[d];exact h.cs s I⟩,⟨D.tail,D.clean,D.anon⟩⟩
 ·rw[g.lv]at E;obtain⟨N,G⟩:=h.live q E;refine⟨by rw[g.ar];exact N,λj => ?_⟩;rw[c,if_neg]
  ·exact G j
  rintro⟨rfl,rfl⟩;have:=G j;omega
 have z:fI (aQ m p n x) q j=fI m q j:=by unfold fI;rw[g.ar]
 rw[z];rw[c]at b ⊢
 by_cases e:q=p/\j=n
 ·rw[if_pos e]at b ⊢;rw[e.1,e.2];obtain⟨y,C,a⟩:=h.en p n (by rw[A];decide);have F:=a.lt A;obtain⟨L,K,S,R,Q⟩:=a.fr A;refine⟨y,C,λO=>by omega,λ_=>by rw[f];exact F,λ_ => ?_⟩;rw[f,r];exact⟨L,K,λh=>(by cases h),λh=>(by cases h),λh=>(by cases h)⟩
 rw[if_neg e]at b ⊢;obtain⟨y,C,a⟩:=h.en q j b;exact⟨y,C,a.sw,a.lt,a.fr⟩
theorem Np(h:Rt m)(C:Co m){s:Sp}(J:m.sp.length<4)(F:s.lv=true)(G:(bQ s.ar).1=0)(z:s.tb=zTb):Rt { m with sp:=m.sp++[s] }/\Co { m with sp:=m.sp++[s] }:=by
 have a:∀q,dI { m with sp:=m.sp++[s] } q=if q=m.sp.length then s else dI m q:=λq=>by
  unfold dI;show(m.sp++[s]).getD q zSp=_;rw[aW,List.getElem?_append]
  by_cases e:q<m.sp.length
  ·rw[if_pos e,if_neg (by omega),aW]
  rw[if_neg e]
  by_cases D:q=m.sp.length
  ·rw[if_pos D,D,qD];rfl
  ·rw[if_neg D,aW,fH (by simp;omega),fH (by omega)]
 have b:∀q j,ent { m with sp:=m.sp++[s] } q j=ent m q j:=λq j=>by
  unfold ent;rw[a]
  by_cases e:q=m.sp.length
  ·rw[if_pos e,qA (by omega),z];rfl
  ·rw[if_neg e]
 have c:∀kd i,kd≠0->bR { m with sp:=m.sp++[s] } kd i=bR m kd i:=λkd i u=>by
  unfold bR;show((m.sp++[s]).map _).sum=_;rw[jM,List.sum_append];have:([s].map λs=>(dC s.tb).countP (pW kd i)).sum=0:=by rw[List.map_singleton,List.sum_singleton,z,yX];intro e E;unfold dC at E;obtain⟨j,_,rfl⟩:=iA.1 E;rw[yg];unfold pW;simp only[ed,decide_eq_true_eq];rintro⟨I,_⟩;exact u I.symm
  omega
 refine⟨⟨{ h.pt with spl:=by simp;omega,ar:=λy o => ?_,tb:=λy o => ?_ },h.trim,λq t => ?_,⟨h.ca.file,h.ca.lt,h.ca.fr,h.ca.srt⟩,λq j u => ?_,λi A=>by rw[c 1 i (by decide)];exact h.cf i A,h.fc,λi A=>by rw[c 2 i (by decide)];exact h.cs i A⟩,⟨C.tail,C.clean,C.anon⟩⟩
 ·rcases gV.1 o with o|o
  ·exact h.pt.ar y o
  ·rw[bC.1 o];exact G
 ·rcases gV.1 o with o|o
  ·exact h.pt.tb y o
  ·rw[bC.1 o,z];decide
 ·rw[a]at t ⊢
  by_cases e:q=m.sp.length
  ·rw[if_pos e,F]at t;cases t
  rw[if_neg e]at t ⊢;refine⟨(h.live q t).1,λj=>by rw[b];exact(h.live q t).2 j⟩
 rw[b]at u ⊢;obtain⟨y,o,d⟩:=h.en q j u;have t:=nu u;refine⟨y,?_,d.sw,d.lt,d.fr⟩;unfold fI at o ⊢;rw[a,if_neg (by omega)];exact o
def fP(T:List (List En))(p:Nat):List En:=T.getD p []
def fT(T:List (List En))(p n:Nat):En:=(fP T p).getD n zEn
def fq(m:Ma)(T:List (List En)):Ma:={ m with sp:=(List.range m.sp.length).map λp => { dI m p with tb:=iw (fP T p) } }
structure BH (m:Ma) (T:List (List En)):Prop where
 len:T.length=m.sp.length
 ln:∀t∈T,t.length=64
 en:∀t∈T,∀x∈t,eP x=0
theorem lL{T:List (List En)}:(fq m T).sp.length=m.sp.length:=by unfold fq;simp
theorem AZ{T:List (List En)}(e:p<m.sp.length):dI (fq m T) p = { dI m p with tb:=iw (fP T p) }:=by
 have:dI (fq m T) p=((List.range m.sp.length).map λp=>({ dI m p with tb:=iw (fP T p) }:Sp)).getD p zSp:=rfl;rw[this,aW,jd,uu e];rfl
theorem BH.mem{T:List (List En)}(h:BH m T)(e:p<m.sp.length):fP T p∈T:=by
 unfold fP;rw[aW,aI (by rw[h.len];exact e)];exact fe _
theorem BH.l64{T:List (List En)}(h:BH m T)(e:p<m.sp.length):(fP T p).length=64:=h.ln _ (h.mem e)
theorem BH.right{T:List (List En)}(h:BH m T)(e:p<m.sp.length):dA (iw (fP T p))=0:=CV (h.en _ (h.mem e)) (h.l64 e)
theorem mO{T:List (List En)}(h:BH m T){n:Nat}(i:n<64)(e:p<m.sp.length:=by omega):ent (fq m T) p n=fT T p n:=by
 unfold ent fT;rw[AZ e];show dM (iw (fP T p)) n=_;rw[zI (h.en _ (h.mem e)) (h.l64 e) i,aW,aI (by rw[h.l64 e];exact i)];rfl
theorem zx{T:List (List En)}(h:BH m T){n:Nat}(i:n<64)(e:p<m.sp.length:=by omega):eP (fT T p n)=0:=by
 unfold fT;rw[aW,aI (by rw[h.l64 e];exact i)];exact h.en _ (h.mem e) _ (fe _)
def setL(T:List (List En))(p n:Nat)(x:En):List (List En):=T.set p ((fP T p).set n x)
theorem sZ{T:List (List En)}(i:p<T.length){n:Nat}{x:En}(q:Nat):fP (setL T p n x) q=if q=p then(fP T p).set n x else fP T q:=by
 unfold fP setL;rw[aW,nE]
 by_cases e:q=p
 ·subst e;rw[if_pos rfl,if_pos i,if_pos rfl];rfl
 ·rw[if_neg (λh=>e h.symm),if_neg e,aW]
theorem BH.set{T:List (List En)}(h:BH m T){n:Nat}{x:En}(o:p<m.sp.length)(u:eP x=0):BH m (setL T p n x):=by
 refine⟨by unfold setL;rw[bI];exact h.len,λt e => ?_,λt e y i => ?_⟩
 ·rcases lS e with e|rfl
  ·exact h.ln t e
  ·rw[bI];exact h.l64 o
 rcases lS e with e|rfl
 ·exact h.en t e y i
 rcases lS i with i|rfl
 ·exact h.en _ (h.mem o) y i
 ·exact u
theorem xu{T:List (List En)}(h:BH m T){n:Nat}{x:En}(o:p<m.sp.length)(t:n<64)(q j:Nat):fT (setL T p n x) q j=if q=p/\j=n then x else fT T q j:=by
 unfold fT;rw[sZ (by rw[h.len];exact o)]
 by_cases e:q=p
 ·subst e;rw[if_pos rfl,aW,nE]
  by_cases i:j=n
  ·subst i;rw[if_pos rfl,if_pos (by rw[h.l64 o];exact t),if_pos ⟨rfl,rfl⟩];rfl
  ·rw[if_neg (λh=>i h.symm),if_neg (λh=>i h.2),aW]
 ·rw[if_neg e,if_neg (λh=>e h.1)]
theorem sD{T:List (List En)}(h:BH m T){n:Nat}{x:En}(i:p<m.sp.length)(A:n<64)(o:eP x=0):aQ (fq m T) p n x=fq m (setL T p n x):=by
 have z:=h.l64 i;have t:=h.right i;have a:setE (iw (fP T p)) n x=0:=AX t ⟨by omega,by omega⟩ o;have u:setT (iw (fP T p)) n x=iw ((fP T p).set n x):=by rw[<-zH (qf a),Al a,Ex (h.en _ (h.mem i)) z,bv]
 unfold aQ setTb;rw[AZ i];show{ fq m T with sp:=(fq m T).sp.set p { dI m p with tb:=setT (iw (fP T p)) n x } }=fq m (setL T p n x);rw[u];refine congrArg (λs=>({ m with sp:=s }:Ma)) (?_:((List.range m.sp.length).map λp=>({ dI m p with tb:=iw (fP T p) }:Sp)).set p { dI m p with tb:=iw ((fP T p).set n x) }=(List.range m.sp.length).map λq=>({ dI m q with tb:=iw (fP (setL T p n x) q) }:Sp));apply oG;intro q;rw[nE,jd,jd];simp only[eQ,Ea]
 by_cases e:q=p
 ·subst e;rw[if_pos rfl,if_pos i,uu i,rT,sZ (by rw[h.len];exact i),if_pos rfl]
 rw[if_neg (λh=>e h.symm)]
 by_cases y:q<m.sp.length
 ·rw[uu y,rT,rT,sZ (by rw[h.len];exact i),if_neg e]
 ·rw[fH (by simp;omega),JF,JF]
theorem BF{T:List (List En)} :setFr (fq m T) f X=fq (setFr m f X) T:=rfl
theorem BH.fr{T:List (List En)}(h:BH m T) :BH (setFr m f X) T:=⟨h.len,h.ln,h.en⟩
theorem BH.sps{T:List (List En)}(h:BH m T)(e:m'.sp.length=m.sp.length):BH m' T:=⟨by rw[e];exact h.len,h.ln,h.en⟩
theorem pQ{T:List (List En)}(n:Int)(e:p<m.sp.length:=by omega):fI (fq m T) p n=onA (dI m p).ar n:=by
 unfold fI;rw[AZ e]
theorem Oi{T:List (List En)}(h:BH m T)(s:Sp):fq { m with sp:=m.sp++[s] } (T++[List.replicate 64 zEn]) = { fq m T with sp:=(fq m T).sp++[{ s with tb:=zTb }] }:=by
 have e:iw (List.replicate 64 zEn)=zTb:=by decide +kernel
 unfold fq;simp only[Ma.mk.injEq,true_and,jq,DK];rw[yo,jM];congr 1
 ·apply vS;intro p i;have a:=eO.1 i;unfold dI fP;simp only[aW];rw[kN a,kN (by rw[h.len];exact a)]
 unfold dI fP;simp only[bS,aZ,aW];rw[jX (az _),qD,<-h.len,jX (az _),qD];simp only[rz,qy];rw[e]
theorem BH.more{T:List (List En)}(h:BH m T)(s:Sp):BH { m with sp:=m.sp++[s] } (T++[List.replicate 64 zEn]):=by
 refine⟨by simp[h.len],λt e => ?_,λt e x i => ?_⟩
 ·rcases gV.1 e with e|e
  ·exact h.ln t e
  ·rw[bC.1 e,kQ]
 rcases gV.1 e with e|e
 ·exact h.en t e x i
 rw[bC.1 e]at i;rw[(DJ.1 i).2];decide
def AJ(m1:Ma)(g:Nat)(X:Fr)(f i:Int):Ma:={ setFr m1 g X with ca:=m1.ca.insertIdx (sP m1.ca f i) ⟨f,i,g⟩ }
theorem VV{f i:Int}(h:Rt m1)(G:Co m1)(K:g<m1.m.fs.length)(P:(aB m1 g).r=0)(C:qP m1.st f i)(F:∀c∈m1.ca,¬(c.f=f/\c.i=i))
 (I:X.r=1/\X.f=f/\X.i=i) (R:dx X.p ((aN m1.st f).n-i*8)=X.p) (U:X.d=false->X.p=dB m1 f i) :
  Rt (AJ m1 g X f i)/\Co (AJ m1 g X f i):=by
 have hi:=zB h.pt.st C;have V:bT X=0:=by rw[dN];have h1:=C.1;have h2:=C.2;exact⟨⟨by omega,by omega,by omega,by omega,by omega,by omega⟩,λe=>by omega,λe=>by omega⟩
 have q:∀x,aB (AJ m1 g X f i) x=if x=g then X else aB m1 x:=λx=>gB K x;have b:∀x,x≠g->aB (AJ m1 g X f i) x=aB m1 x:=λx D=>by rw[q,if_neg D]
 have j:(AJ m1 g X f i).m.fs.length=m1.m.fs.length:=fu;have a:∀c,c∈(AJ m1 g X f i).ca↔c=⟨f,i,g⟩\/c∈m1.ca:=λc=>yS (AO _ _ _);have u:∀c∈m1.ca,c.k.toNat≠g:=λc A e=>by have:=(h.ca.fr c A).1;rw[e,P]at this;exact absurd this (by decide)
 have t:∀O J,dB (AJ m1 g X f i) O J = dB m1 O J:=λ_ _=>rfl;have o:bR m1 1 g=0/\uf m1 g=0:=by have:=h.cf g K;omega
 have T:Pt (AJ m1 g X f i):={ fr:=FK h.pt.fr V,sl:=h.pt.sl,sw:=h.pt.sw,dk:=h.pt.dk,st:=h.pt.st,swl:=h.pt.swl,dkl:=h.pt.dkl,spl:=h.pt.spl,ar:=h.pt.ar,tb:=h.pt.tb };have w:uW (AJ m1 g X f i):=by
  refine⟨λc A => ?_,λc A => ?_,λc A => ?_,zN h.ca.srt F⟩
  ·rcases(a c).1 A with rfl|A
   ·exact C
   ·exact h.ca.file c A
  ·rw[j];rcases(a c).1 A with rfl|A
   ·show 0<=(g:Int)/\(g:Int)<_;omega
   ·exact h.ca.lt c A
  rcases(a c).1 A with rfl|A
  ·rw[q,if_pos (bv g)];exact⟨by omega,I.2.1,I.2.2⟩
  ·rw[b _ (u c A)];exact h.ca.fr c A
 have W:∀p n,ent (AJ m1 g X f i) p n=ent m1 p n:=λ_ _=>rfl;have v:∀p n,(ent m1 p n).k=1->(ent m1 p n).n.toNat≠g:=by intro p n E e;have L:=nu (m:=m1) (p:=p) (n:=n) (by rw[E];decide);have h5:=(bG _).1 (nG h.pt p n);have h4:=(nI (m:=m1) (kd:=1) (i:=g)).2 ⟨p,n,L.1,L.2,E,by omega⟩;omega
 refine⟨⟨T,h.trim,h.live,w,λp n E => ?_,λx D => ?_,λx D N => ?_,h.cs⟩,⟨λc A => ?_,λc A l => ?_,λx D l => ?_⟩⟩
 ·rw[W]at E ⊢;obtain⟨y,Q,s⟩:=h.en p n E;exact⟨y,Q,s.sw,by rw[j];exact s.lt,λz=>by rw[b _ (v p n z)];exact s.fr z⟩
 ·have Z:uf (AJ m1 g X f i) x=uf m1 x+sO (decide ((g:Int)=x)):=uI _ _ _ _ (AO _ _ _);have Y:bR (AJ m1 g X f i) 1 x=bR m1 1 x:=rfl;rw[q,Z,Y]
  by_cases e:x=g
  ·subst e;rw[if_pos rfl,o.1,o.2];have:sO (decide ((x:Int)=(x:Int)))=1:=by simp[sO]
   rw[this,I.1];rfl
  rw[if_neg e];have:sO (decide ((g:Int)=(x:Int)))=0:=by unfold sO;rw[if_neg];simp only[decide_eq_true_eq];omega
  rw[this];exact h.cf x (by rw[<-j];exact D)
 ·by_cases e:x=g
  ·exact⟨⟨f,i,g⟩,(a _).2 (.inl rfl),by rw[e]⟩
  rw[b x e]at N;obtain⟨c,A,S⟩:=h.fc x (by rw[<-j];exact D) N;exact⟨c,(a c).2 (.inr A),S⟩
 ·rcases(a c).1 A with rfl|A
  ·rw[q,if_pos (bv g)];exact R
  ·rw[b _ (u c A)];exact G.tail c A
 ·rcases(a c).1 A with rfl|A
  ·rw[q,if_pos (bv g)]at l ⊢; rw[t];exact U l
  rw[b _ (u c A)]at l ⊢;rw[t];exact G.clean c A l
 by_cases e:x=g
 ·rw[q,if_pos e];have:=C.1.1;omega
 ·rw[b x e]at l ⊢; exact G.anon x (by rw[<-j];exact D) l
theorem VP(h:Rt m)(e:Co m){x:Int}(i:bu ⟨m.m.fs,x⟩=0):Rt { m with m:=⟨m.m.fs,x⟩ }/\Co { m with m:=⟨m.m.fs,x⟩ }:=
 ⟨⟨{ h.pt with fr:=i },h.trim,h.live,⟨h.ca.file,h.ca.lt,h.ca.fr,h.ca.srt⟩,λp n o=>have ⟨y,hy,hf⟩:=h.en p n o;⟨y,hy,hf.sw,hf.lt,hf.fr⟩,h.cf,h.fc,h.cs⟩,⟨e.tail,e.clean,e.anon⟩⟩
theorem SE{α:Type}(g:α->Nat)(c:Nat)(h:∀x,g x<=c):∀l:List α,(l.map g).sum<=c*l.length
 | []=>by simp
 | x::l=>by have e:=SE g c h l;have h2:=h x;rw[bS,Bq,qz,Nat.mul_succ];omega
theorem vz(t:Tb):(dC t).length=64:=by unfold dC;simp
theorem FN(m:Ma)(kd i:Int):bR m kd i<=64*m.sp.length:=SE _ 64 (λs=>by rw[<-vz s.tb];exact xY) _
theorem Uf(h:uW m)(i:Int):uf m i<=1:=Cr h.srt λa t b o e=>h.uniq t o e
theorem Rt.fewR(h:Rt m)(e:f<m.m.fs.length):0<=(aB m f).r/\(aB m f).r<=257:=by
 have t:=h.cf f e;have h2:=FN m 1 f;have o:=Uf h.ca f;have i:=h.pt.spl;omega
theorem Rt.fewS(h:Rt m)(e:s<m.sl.length):0<=jW m s/\jW m s<=256:=by
 have o:=h.cs s e;have h2:=FN m 2 s;have i:=h.pt.spl;omega
theorem FE(h:Pt m){i:Int}(u:kd≠0){j:Int}(z:(ent m p n).k=kd/\(ent m p n).n=i)(h2:(ent m q j).k=kd/\(ent m q j).n=i)(o:¬(q=p/\j=n)):2<=bR m kd i:=by
 have t:=nu (m:=m) (p:=p) (n:=n) (by omega);have y:=nu (m:=m) (p:=q) (n:=j) (by omega);obtain⟨a,_,_⟩:=iT (k:=⟨m,0⟩) (p:=p) (n:=n) (x:=zEn) h t.2 (by decide);have F:=qG t.1 a kd i;have E:sO (pW kd i (ent m p n))=1:=by rw[qc,if_pos z]
 have D:sO (pW kd i zEn)=0:=xx rfl u;have C:0<bR (setTb m p (setT (dI m p).tb n zEn)) kd i:=by refine(nI (G:=u)).2 ⟨q,j,by rw[vI];exact y.1,y.2,?_⟩;rw[nU t.1 a,if_neg o];exact h2
 have A:bR ({ m:=m,e:=0 }:Kp).m kd i=bR m kd i:=rfl;omega
def eH(x:Fr):Fr:={ x with r:=x.r+1 }
theorem Jz{x:Fr}(h:bT x=0)(o:x.r≠0)(t:x.r<1000):bT (eH x)=0:=by
 rw[dN]at h ⊢;obtain⟨⟨a,b,c⟩,d,e⟩:=h;refine⟨⟨?_,?_,c⟩,λi => ?_,e⟩
 ·show 0<=x.r+1;omega
 ·show x.r+1<=1000;omega
 have:x.r+1=0:=i;omega
theorem fU(h:Rt m)(e:(ent m p n).k=1):∃f:Nat,(ent m p n).n=f/\f<m.m.fs.length/\(aB m f).r≠0/\p<m.sp.length/\(0<=n/\n<64)/\∃g,fI m p n=some g/\Ol (aB m f) g (ent m p n).w:=by
 have t:=nu (m:=m) (p:=p) (n:=n) (by rw[e];decide);have h2:=(bG _).1 (nG h.pt p n);obtain⟨g,u,i⟩:=h.en p n (by rw[e];decide);have y:=i.lt e;have o:=zV h e rfl;refine⟨(ent m p n).n.toNat,by omega,o.2,?_,t.1,t.2,g,u,i.fr e⟩;have:=h.cf _ o.2;omega
theorem Fw(h:Rt m)(I:Co m){g:Pg}(t:(ent m p n).k=1)(F:(ent m p n).n=f)(E:q<m.sp.length)(J:(ent m q n).k=0)(G:fI m p n=some g)(i:fI m q n=some g)(D:(ent m p n).w=true->g.sh=true)
 (e:(aB m f).f<0->∀a j,(ent m a j).k=1->(ent m a j).n.toNat=f->(ent m a j).w=false) :
  Rt (aQ (setFr m f (eH (aB m f))) q n (ent m p n))/\Co (aQ (setFr m f (eH (aB m f))) q n (ent m p n)):=by
 obtain⟨y,U,o,A,T,P,R,z,O⟩:=fU h t;have:y = f:=by omega
 subst this;rw[G]at z;cases z;have Q:=h.fewR o;refine tF (g:=g) h I E P J o t F (Jz (h.pt.frE o) A (by omega)) rfl (λh=>absurd h A) e i ?_;obtain⟨N,u,L,K,S⟩:=O;refine⟨N,u,L,K,λb C => ?_⟩;have:=u (D b);have c : (aB m y).f<0:=C;omega
theorem Ob(h:Rt m)(L:Co m){g:Pg}(z:p≠q)(A:(ent m p n).k=1)(E:(ent m p n).n=f)(J:q<m.sp.length)(N:(ent m q n).k=0)(K:fI m p n=some g)(C:fI m q n=some g) :
  Rt (aQ (aQ (setFr m f (eH (aB m f))) p n ⟨1,f,false⟩) q n ⟨1,f,false⟩)/\Co (aQ (aQ (setFr m f (eH (aB m f))) p n ⟨1,f,false⟩) q n ⟨1,f,false⟩):=by
 obtain⟨t,e1,Q,e3,P,O,W,Z,Y⟩:=fU h A;have:t = f:=by omega
 subst this;obtain⟨G,F⟩:=Nu h L A;rw[E]at G F;obtain⟨r,_,_⟩:=iT (k:=⟨m,0⟩) (p:=p) (n:=n) (x:=⟨1,t,false⟩) h.pt O ((bG _).2 (.inr (.inl ⟨rfl,by show(0:Int)<=t; omega,by have:=((dO _).1 h.pt.fr).1;show(t : Int)<40;omega⟩)));have b:∀a j,ent (aQ m p n ⟨1,t,false⟩) a j=if a=p/\j=n then⟨1,t,false⟩else ent m a j:=λa j=>nU P r a j;have u:ent (aQ m p n ⟨1,t,false⟩) p n=⟨1,t,false⟩:=by rw[b,if_pos ⟨rfl,rfl⟩]
 have d:iF m (aQ m p n ⟨1,t,false⟩):=iF.setTb;have l:∀a,fI (aQ m p n ⟨1,t,false⟩) a n=fI m a n:=λa=>by unfold fI;rw[d.ar]
 have:=Fw (p:=p) (q:=q) (n:=n) (f:=t) (g:=g) G F (by rw[u]) (by rw[u]) (by rw[d.len];exact J) (by rw[b,if_neg (λy=>z y.1.symm)];exact N) (by rw[l];exact K) (by rw[l];exact C) (λy=>by rw[u]at y; cases y) (λI a j c o => ?_)
 ·rw[u]at this;exact this
 rw[b]at c o ⊢
 by_cases e:a=p/\j=n
 ·rw[if_pos e]
 rw[if_neg e]at c o ⊢;obtain⟨D,T,b2,b3,b4,b5,V,b6,S⟩:=fU h c;have s:D=t:=by omega
 subst s;have h2:=FE h.pt (kd:=1) (i:=D) (by decide) ⟨A,E⟩ ⟨c,T⟩ e;have U:=h.cf D Q;obtain⟨c1,c2,c3,c4,R⟩:=S;cases hw:(ent m a j).w with
 | false=>rfl
 | true=>
  have:=R hw I;omega
theorem Mr(h:Rt m)(A:Co m){g:Pg}(e:(ent m p n).k=2)(u:(ent m p n).n=s)(t:q<m.sp.length)(E:(ent m q n).k=0)(y:fI m p n=some g)(i:fI m q n=some g) :
  Rt (aQ (setSl m s (jW m s+1)) q n (ent m p n))/\Co (aQ (setSl m s (jW m s+1)) q n (ent m p n)):=by
 have D:=nu (m:=m) (p:=p) (n:=n) (by rw[e];decide);have h2:=(bG _).1 (nG h.pt p n);obtain⟨I,a,z⟩:=h.en p n (by rw[e];decide);rw[y]at a;cases a;have C:=z.sw e;have o:s<m.sl.length:=by omega
 have G:=h.fewS o;exact Iu (d:=m.sw) (g:=g) h A t D.2 E o e u ((h2.resolve_left (λF=>by omega)).resolve_left (λF=>by omega)).2.2.2 (by omega) h.pt.sw rfl i C.2
structure Bd (m:Ma) (T:List (List En)):Prop where
 ok:BH m T
 rt:Rt (fq m T)
 co:Co (fq m T)
theorem Bd.of{T:List (List En)}(e:BH m T)(h:Rt (fq m T)/\Co (fq m T)):Bd m T:=⟨e,h.1,h.2⟩
theorem Bd.few{T:List (List En)}(h:Bd m T):m.m.fs.length<=40/\m.sl.length<=60/\m.sp.length<=4/\(m.dk.blocks.length:Int)=m.st.count/\aT m.st=0/\bX m.dk=0/\bX m.sw=0/\m.sw.blocks.length=m.sl.length:=
 ⟨((dO _).1 h.rt.pt.fr).1,kJ h.rt.pt.sl,by have:=h.rt.pt.spl;rw[lL]at this;exact this,h.rt.pt.dkl,h.rt.pt.st,h.rt.pt.dk,h.rt.pt.sw,h.rt.pt.swl⟩
theorem Bd.cachedE{T:List (List En)}(h:Bd m T){n:Nat}(y:p<m.sp.length)(C:n<64)(E:(fT T p n).k=0){c:Cc}(t:c∈m.ca){g:Pg}(D:onA (dI m p).ar n=some g)(F:c.f=g.fi/\c.i=g.pg){w:Bool}(A:w=true->g.sh=true/\g.wr=true) :
  Bd (setFr m c.k.toNat (eH (aB m c.k.toNat))) (setL T p n ⟨1,c.k,w⟩):=by
 have d:=h.rt.ca.lt c t;have q:=h.rt.ca.fr c t;have j:=h.rt.ca.file c t;have a : c.k.toNat<m.m.fs.length:=by have:c.k<(fq m T).m.fs.length:=d.2;have e:(fq m T).m.fs.length=m.m.fs.length:=rfl;omega
 have l:eP ⟨1,c.k,w⟩=0:=(bG _).2 (.inr (.inl ⟨rfl,d.1,by have:=h.few.1;have:c.k<(fq m T).m.fs.length:=d.2;have e:(fq m T).m.fs.length=m.m.fs.length:=rfl;show c.k<40;omega⟩));have o:=h.rt.fewR a;have b:aB (fq m T) c.k.toNat=aB m c.k.toNat:=rfl;rw[b]at q o;refine .of (h.ok.fr.set y l) ?_;rw[<-sD h.ok.fr y C l,<-BF];refine tF (g:=g) (f:=c.k.toNat) h.rt h.co (by rw[lL];exact y) ⟨by omega,by omega⟩ (by rw[mO h.ok (e:=y) C];exact E) a rfl (by show c.k=_;omega) (Jz (h.rt.pt.frE a) (by omega) (by omega)) rfl (λu=>by rw[b]at u; omega) (λz => ?_) (by rw[pQ (e:=y)];exact D) ?_
 ·have:(aB m c.k.toNat).f<0:=z;have:=j.1.1;omega
 have I:(eH (aB m c.k.toNat)).f=(aB m c.k.toNat).f:=rfl;have G:(eH (aB m c.k.toNat)).i=(aB m c.k.toNat).i:=rfl;refine⟨λ_=>⟨by omega,by omega⟩,λ_=>by have:=j.1.1;omega,λu=>(A u).2,λu _=>(A u).1,λu z => ?_⟩;have:=j.1.1;omega
theorem Bd.anonE{T:List (List En)}(h:Bd m T){n:Nat}(u:p<m.sp.length)(z:n<64)(G:(fT T p n).k=0)(A:f<m.m.fs.length)(J:(aB m f).r=0)(C:X.r=1/\X.d=false/\X.f = -1/\X.i=0){g:Pg}(E:onA (dI m p).ar n=some g)(y:g.sh=false){w:Bool}(D:w=true->g.wr=true) :
  Bd (setFr m f X) (setL T p n ⟨1,f,w⟩):=by
 have c:eP ⟨1,f,w⟩=0:=(bG _).2 (.inr (.inl ⟨rfl,by show(0:Int)<=f;omega,by have:=h.few.1;show(f:Int)<40;omega⟩));have b:aB (fq m T) f=aB m f:=rfl;refine .of (h.ok.fr.set u c) ?_;rw[<-sD h.ok.fr u z c,<-BF];have o:bT X=0:=by rw[dN];exact⟨⟨by omega,by omega,by omega,by omega,by omega,by omega⟩,λt=>by omega,λ_=>C.2.2.2⟩
 refine tF (g:=g) (f:=f) h.rt h.co (by rw[lL];exact u) ⟨by omega,by omega⟩ (by rw[mO h.ok (e:=u) z];exact G) A rfl rfl o (by rw[b];omega) (hold:=(λt=>by rw[b]at t; omega)) (λ_=>⟨by omega,C.2.1⟩) (λI a j l e => ?_) (by rw[pQ (e:=u)];exact E) ?_
 ·have:=zV h.rt l e;have F:=h.rt.cf f A;rw[b]at F;omega
 ·exact⟨λt=>absurd t (by omega),λt=>(by rw[y]at t; cases t),D,λ_ t=>absurd t (by omega),λ_ _=>by omega⟩
theorem Bd.slotE{T:List (List En)}(h:Bd m T){n:Nat}(i:p<m.sp.length)(t:n<64)(A:(fT T p n).k=0)(y:s<m.sl.length)(u:jW m s=0){P:Page}{g:Pg}(z:onA (dI m p).ar n=some g)(o:g.sh=false) :
  Bd { m with sl:=m.sl.set s 1,sw:=⟨m.sw.blocks.set s P,m.sw.queue⟩ } (setL T p n ⟨2,s,false⟩):=by
 have a:eP ⟨2,s,false⟩=0:=(bG _).2 (.inr (.inr ⟨rfl,by show(0:Int)<=s;omega,by have:=h.few.2.1;show(s:Int)<60;omega,rfl⟩));have c:BH { m with sl:=m.sl.set s 1,sw:=⟨m.sw.blocks.set s P,m.sw.queue⟩ } T:=h.ok.sps rfl;refine .of (c.set i a) ?_;rw[<-sD c i t a];have e:bX ⟨m.sw.blocks.set s P,m.sw.queue⟩=0:=by have:=(jK _).1 h.rt.pt.sw;rw[jK];simp only[bI];exact this
 have b:jW (fq m T) s=0:=u;have:=Iu (d:=⟨m.sw.blocks.set s P,m.sw.queue⟩) (x:=⟨2,s,false⟩) (n:=(n:Int)) (g:=g) h.rt h.co (p:=p) (s:=s) (by rw[lL];exact i) ⟨by omega,by omega⟩ (by rw[mO h.ok (e:=i) t];exact A) y rfl rfl rfl (by rw[b];omega) e (by rw[bI];rfl) (by rw[pQ (e:=i)];exact z) o;rw[b]at this;exact this
theorem Bd.cache{T:List (List En)}(h:Bd m T){f i:Int}(o:qP m.st f i)(e:∀c∈m.ca,¬(c.f=f/\c.i=i))(y:g<m.m.fs.length)(u:(aB m g).r=0)(A:X.r=1/\X.f=f/\X.i=i)(t:dx X.p ((aN m.st f).n-i*8)=X.p)(z:X.d=false->X.p=dB m f i) :
  Bd (AJ m g X f i) T:=.of (h.ok.sps rfl) (VV h.rt h.co y u o e A t z)
theorem Bd.more{T:List (List En)}(h:Bd m T){s:Sp}(i:m.sp.length<4)(e:s.lv=true)(o:(bQ s.ar).1=0):Bd { m with sp:=m.sp++[s] } (T++[List.replicate 64 zEn]):=by
 refine .of (h.ok.more s) ?_;rw[Oi h.ok];exact Np h.rt h.co (s:={ s with tb:=zTb }) (by rw[lL];exact i) e o rfl
theorem Bd.share1{T:List (List En)}(h:Bd m T)(Q:m.sp.length=2){n:Nat}(A:n<64)(D:(dI m 1).ar=(dI m 0).ar)(y:(fT T 0 n).k=1)(F:(fT T 1 n).k=0){g:Pg}(E:onA (dI m 0).ar n=some g)(C:(fT T 0 n).n=f){w:Bool}(z:w=(g.sh&&(fT T 0 n).w)) :
  Bd (setFr m f (eH (aB m f))) (setL (setL T 0 n ⟨1,f,w⟩) 1 n ⟨1,f,w⟩):=by
 have u:=mO h.ok (p:=0) A;have G:=mO h.ok (p:=1) A;have c:fI (fq m T) 0 n=some g:=by rw[pQ];exact E
 have e:fI (fq m T) 1 n=some g:=by rw[pQ,D];exact E
 obtain⟨t,O,N,_⟩:=fU h.rt (p:=0) (n:=n) (by rw[u];exact y);have L : t < m.m.fs.length:=N;have i:t = f:=by rw[u]at O;omega
 subst i;have a:∀w,eP ⟨1,t,w⟩=0:=λw=>(bG _).2 (.inr (.inl ⟨rfl,by show(0:Int)<=t; omega,by have:=h.few.1;show(t : Int)<40;omega⟩));have d:=(h.ok.fr (f:=t) (X:=eH (aB m t))).set (p:=0) (n:=n) (by show 0<m.sp.length;omega) (a w);refine .of (d.set (by show 1<m.sp.length;omega) (a w)) ?_;have j:(⟨1,t,(fT T 0 n).w⟩:En)=fT T 0 n:=by rw[<-C,<-y]
 rw[<-sD d (by show 1<m.sp.length;omega) A (a w)];cases hs:g.sh with
 | false=>
  rw[hs,mf]at z;subst z;rw[<-sD h.ok.fr (by show 0<m.sp.length;omega) A (a false),<-BF];exact Ob (m:=fq m T) (p:=0) (q:=1) (n:=n) (f:=t) (g:=g) h.rt h.co (by decide) (by rw[u];exact y) (by rw[u];exact C) (by rw[lL];omega) (by rw[G];exact F) c e
 | true=>
  rw[hs,lV]at z;subst z;rw[j];have b:setL T 0 n (fT T 0 n)=T:=by have l:fP T 0∈T:=h.ok.mem (by omega);have o:=h.ok.l64 (p:=0) (by omega);unfold setL fT;rw[aW,aI (by omega:n<(fP T 0).length),qy,vJ];unfold fP;rw[aW,aI (by rw[h.ok.len];omega:0<T.length),qy,vJ]
  rw[b,<-BF,<-u];refine Fw (m:=fq m T) (p:=0) (q:=1) (n:=n) (f:=t) (g:=g) h.rt h.co (by rw[u];exact y) (by rw[u];exact C) (by rw[lL];omega) (by rw[G];exact F) c e (λ_=>hs) (λP => ?_);obtain⟨J,Y,W,V,U,S,R,I,K⟩:=fU h.rt (p:=0) (n:=n) (by rw[u];exact y);have:J=t:=by omega
  subst this;rw[c]at I;cases I;have:=K.2.1 hs;omega
theorem Bd.share2{T:List (List En)}(h:Bd m T)(E:m.sp.length=2){n:Nat}(i:n<64)(o:(dI m 1).ar=(dI m 0).ar)(z:(fT T 0 n).k=2)(C:(fT T 1 n).k=0){g:Pg}(u:onA (dI m 0).ar n=some g)(A:(fT T 0 n).n=s) :
  Bd (setSl m s (jW m s+1)) (setL (setL T 0 n (fT T 0 n)) 1 n (fT T 0 n)):=by
 have t:=mO h.ok (p:=0) i;have D:=mO h.ok (p:=1) i;have d:fI (fq m T) 0 n=some g:=by rw[pQ];exact u
 have c:fI (fq m T) 1 n=some g:=by rw[pQ,o];exact u
 have a:setL T 0 n (fT T 0 n)=T:=by have e:fP T 0∈T:=h.ok.mem (by omega);have f:=h.ok.l64 (p:=0) (by omega);unfold setL fT;rw[aW,aI (by omega:n<(fP T 0).length),qy,vJ];unfold fP;rw[aW,aI (by rw[h.ok.len];omega:0<T.length),qy,vJ]
 rw[a];have y:=zx h.ok (p:=0) i;have b:BH (setSl m s (jW m s+1)) T:=h.ok.sps rfl;refine .of (b.set (by show 1<m.sp.length;omega) y) ?_;rw[<-sD b (by show 1<m.sp.length;omega) i y,<-t];exact Mr (m:=fq m T) (p:=0) (q:=1) (n:=n) (s:=s) (g:=g) h.rt h.co (by rw[t];exact z) (by rw[t];exact A) (by rw[lL];omega) (by rw[D];exact C) d c
theorem Bd.share0{T:List (List En)}(h:Bd m T)(G:m.sp.length=2){n:Nat}(y:n<64)(D:(fT T 0 n).k=0)(E:(fT T 1 n).k=0):Bd m (setL (setL T 0 n (fT T 0 n)) 1 n (fT T 0 n)):=by
 have i:=(bG _).1 (zx h.ok (p:=0) y);have g:=(bG _).1 (zx h.ok (p:=1) y);have u:∀e:En,e.k=0->((e.k=0/\e.n=0/\e.w=false)\/(e.k=1/\0<=e.n/\e.n<40)\/(e.k=2/\0<=e.n/\e.n<60/\e.w=false))->e=zEn:=by
  rintro⟨a,b,c⟩ I h2;rcases h2 with⟨C,A,z⟩|h2|h2
  ·simp only at C A z;subst C;subst A;subst z;rfl
  ·omega
  ·omega
 have f:=u _ D i;have j:=u _ E g;have d:∀p,p<2->fT T p n=zEn->setL T p n zEn=T:=λp F t=>by
  have o:=h.ok.l64 (p:=p) (by omega);have l:=h.ok.len;have:(fP T p)[n]'(by omega)=zEn:=by unfold fT at t;rw[aW,aI (by omega:n<(fP T p).length),qy]at t;exact t
  unfold setL;rw[<-this,vJ];unfold fP;rw[aW,aI (by omega:p<T.length),qy,vJ]
 rw[f,d 0 (by omega) f,d 1 (by omega) j];exact h
structure BS (X:Nat->Int->Prop) (m m' : Ma):Prop where
 sk:iF m m'
 files:m'.st.fs.length=m.st.fs.length
 size:∀f,(aN m'.st f).n=(aN m.st f).n
 lenb:∀f,(aN m'.st f).b.length=(aN m.st f).b.length
 see:∀p n,¬X p n->eD m' p n=eD m p n
 con:∀f i,qP m.st f i->aU m' f i=aU m f i
theorem BS.trans{X:Nat->Int->Prop}{a b c:Ma}(h:BS X a b)(k:BS X b c):BS X a c:=
 ⟨h.sk.trans k.sk,k.files.trans h.files,λf=>(k.size f).trans (h.size f),λf=>(k.lenb f).trans (h.lenb f),λp n e=>(k.see p n e).trans (h.see p n e),λf i o=>(k.con f i (o.same h.files h.lenb)).trans (h.con f i o)⟩
theorem BS.refl(X:Nat->Int->Prop)(m:Ma):BS X m m:=⟨.refl m,rfl,λ_=>rfl,λ_=>rfl,λ_ _ _=>rfl,λ_ _ _=>rfl⟩
theorem FY.x(h:FY m m')(X:Nat->Int->Prop):BS X m m':=⟨h.sk,h.files,h.size,h.lenb,λp n _=>h.see p n,h.con⟩
theorem Ji{X:Nat->Int->Prop}(h:iF m m')(e:mr m.st m'.st)(y:∀f i,qP m.st f i->aU m' f i=aU m f i)
 (u:∀p n g,¬X p n->fI m p n=some g->vX m' g (ent m' p n)=vX m g (ent m p n)):BS X m m':=by
 refine⟨h,e.len,e.size,e.lenb,λp n t => ?_,y⟩;have o:fI m' p n=fI m p n:=by unfold fI;rw[h.ar]
 cases hg:fI m p n with
 | none=>rw[sF hg,sF (o.trans hg)]
 | some g=>rw[jH hg,jH (o.trans hg)];exact u p n g t hg
def Xu(p:Nat)(n:Int)(q:Nat)(j:Int):Prop:=q=p/\j=n
structure Less (m m' : Ma) (p:Nat) (n:Int):Prop where
 rt:Rt m'
 co:Co m'
 vis:BS (Xu p n) m m'
 st:m'.st=m.st
 dk:m'.dk=m.dk
 sw:m'.sw=m.sw
 ca:m'.ca=m.ca
 len:m'.m.fs.length=m.m.fs.length
 sll:m'.sl.length=m.sl.length
 ents:∀q j,ent m' q j=if q=p/\j=n then zEn else ent m q j
 fr:∀g,(aB m' g).r≠0->(aB m' g).p=(aB m g).p/\(aB m' g).u=(aB m g).u/\(aB m' g).d=(aB m g).d/\(aB m' g).f=(aB m g).f/\(aB m' g).i=(aB m g).i
theorem Vr(x:Fr)(n:Int):(il x n).r=x.r+n:=by
 unfold il
 by_cases h:x.r+n=0
 ·rw[if_pos h,h];rfl
 ·rw[if_neg h]
theorem Og{x:Fr}(h:x.r+n≠0):il x n = { x with r:=x.r+n }:=by unfold il;rw[if_neg h]
theorem NC(h:Rt m)(V:Co m)(U:(ent m p n).k=1)(hn:(ent m p n).n=f):Less m (aQ (setFr m f (il (aB m f) (-1))) p n zEn) p n:=by
 obtain⟨A,e1,G,hr,hp,hJ,g0,hR,hM⟩:=fU h U;have:A = f:=by omega
 subst this;have hP:=h.fewR G;have Z:bT (il (aB m A) (-1))=0:=Lu (h.pt.frE G) hr (by omega) (by omega);have hO:=Vr (aB m A) (-1);have l:(aB m A).r≠1->il (aB m A) (-1) = { aB m A with r:=(aB m A).r + -1 }:=λC=>Og (by omega);generalize hX:il (aB m A) (-1)=X at *
 have hD:Pt (setFr m A X):=h.pt.setFr Z;obtain⟨hC,_,hH⟩:=iT (k:=⟨setFr m A X,0⟩) (p:=p) (n:=n) (x:=zEn) hD hJ (by decide);have hE:p<(setFr m A X).sp.length:=hp;have w:∀q j,ent (aQ (setFr m A X) p n zEn) q j=if q=p/\j=n then zEn else ent m q j:=λq j=>nU hE hC q j;have v:∀y,aB (aQ (setFr m A X) p n zEn) y=if y=A then X else aB m y:=λy=>gB G y;have o:(aQ (setFr m A X) p n zEn).m.fs.length=m.m.fs.length:=fu;have hz:∀kd i,kd≠0->bR (aQ (setFr m A X) p n zEn) kd i+sO (pW kd i (ent m p n))=bR m kd i:=λkd i hL=>by have C:=qG hE hC kd i;have h2:sO (pW kd i zEn)=0:=xx rfl hL;have h3:bR (setFr m A X) kd i=bR m kd i:=rfl;have h4:ent (setFr m A X) p n=ent m p n:=rfl;rw[h4]at C;unfold aQ;omega
 have hB:iF m (setFr m A X):=iF.of rfl;have S:iF m (aQ (setFr m A X) p n zEn):=hB.trans (iF.setTb (m:=setFr m A X) (p:=p) (t:=setT (dI (setFr m A X) p).tb n zEn));have hF:∀c∈m.ca,c.k.toNat=A->(aB m A).r≠1:=λc g e O=>by
  have C:=h.cf A G;have h2:=h.ca.one g;have h3:=h.ca.lt c g;have h4:=zV (f:=A) h U (by omega);have:c.k=(A : Int):=by omega
  rw[this]at h2;omega
 have z:∀c∈m.ca,(aB (aQ (setFr m A X) p n zEn) c.k.toNat).p=(aB m c.k.toNat).p/\(aB (aQ (setFr m A X) p n zEn) c.k.toNat).d=(aB m c.k.toNat).d/\(aB (aQ (setFr m A X) p n zEn) c.k.toNat).f=(aB m c.k.toNat).f/\(aB (aQ (setFr m A X) p n zEn) c.k.toNat).i=(aB m c.k.toNat).i/\1<=(aB (aQ (setFr m A X) p n zEn) c.k.toNat).r:=λc g=>by
  have C:=h.ca.fr c g;rw[v]
  by_cases e:c.k.toNat=A
  ·rw[if_pos e];have h2:=hF c g e;rw[e]at C ⊢;rw[l h2];exact⟨rfl,rfl,rfl,rfl,by show 1<=(aB m A).r + -1;omega⟩
  ·rw[if_neg e];exact⟨rfl,rfl,rfl,rfl,C.1⟩
 have hv:∀q j,¬(q=p/\j=n)->(ent m q j).k=1->(ent m q j).n.toNat=A->(aB m A).r≠1:=λq j hK u hQ O=>by
  obtain⟨Q,b1,b2,b3,b4,b5,g2,b6,b7⟩:=fU h u;have hN:Q=A:=by omega
  subst hN;have h2:=FE h.pt (kd:=1) (i:=Q) (by decide) ⟨U,hn⟩ ⟨u,b1⟩ hK;have h3:=h.cf Q G;omega
 have hm:uW (aQ (setFr m A X) p n zEn):=by
  refine⟨h.ca.file,λc g => ?_,λc g => ?_,h.ca.srt⟩
  ·rw[o];exact h.ca.lt c g
  have C:=h.ca.fr c g;obtain⟨F,R,a3,a4,a5⟩:=z c g;exact⟨a5,a3.trans C.2.1,a4.trans C.2.2⟩
 have hj:∀a b,dB (aQ (setFr m A X) p n zEn) a b=dB m a b:=λ_ _=>rfl;have hw:∀a b,aU (aQ (setFr m A X) p n zEn) a b=aU m a b:=by
  intro a b;rcases oz m a b with⟨c,hl,g,Y,W⟩|⟨hl,K⟩
  ·subst Y;subst W;rw[iG h.ca g,iG (m:=aQ (setFr m A X) p n zEn) hm g,(z c g).1]
  ·rw[gJ K,gJ (m:=aQ (setFr m A X) p n zEn) K,hj]
 refine⟨⟨hH,h.trim,λq hq => ?_,hm,λq j N => ?_,λi L => ?_,λi L J => ?_,λs hs => ?_⟩,⟨λc g => ?_,λc g D => ?_,λi L D => ?_⟩,?_,rfl,rfl,rfl,rfl,o,rfl,w,λy I => ?_⟩
 ·rw[S.lv]at hq;obtain⟨F,R⟩:=h.live q hq;refine⟨by rw[S.ar];exact F,λj => ?_⟩;rw[w];split
  ·rfl
  ·exact R j
 ·have hI:fI (aQ (setFr m A X) p n zEn) q j=fI m q j:=by unfold fI;rw[S.ar]
  rw[hI];rw[w]at N ⊢
  by_cases e:q=p/\j=n
  ·rw[if_pos e]at N; exact absurd rfl N
  rw[if_neg e]at N ⊢;obtain⟨y,I,T⟩:=h.en q j N;refine⟨y,I,T.sw,by rw[o];exact T.lt,λu => ?_⟩;rw[v]
  by_cases E:(ent m q j).n.toNat=A
  ·rw[if_pos E];have C:=T.fr u;rw[E]at C;rw[l (hv q j e u E)];obtain⟨f1,Q,f3,f4,f5⟩:=C;refine⟨f1,Q,f3,f4,λhG P => ?_⟩;have:=f5 hG P;show(aB m A).r + -1<=1;omega
  ·rw[if_neg E];exact T.fr u
 ·have F:uf (aQ (setFr m A X) p n zEn) i=uf m i:=rfl;have C:=hz 1 i (by decide);rw[qc]at C;rw[v,F];have h3:=h.cf i (by rw[<-o];exact L)
  by_cases e:i=A
  ·subst e;rw[if_pos ⟨U,hn⟩]at C;rw[if_pos rfl,hO];omega
  rw[if_neg (λh'=>e (by omega))]at C;rw[if_neg e];omega
 ·rw[v]at J
  by_cases e:i=A
  ·subst e;rw[if_pos rfl]at J
   by_cases O:(aB m i).r=1
   ·have P:X.r=0:=by omega
    have:=((dN _).1 Z).2.1 P;omega
   rw[l O]at J;exact h.fc i G J
  rw[if_neg e]at J;exact h.fc i (by rw[<-o];exact L) J
 ·have C:=hz 2 s (by decide);rw[qc,if_neg (λh'=>by omega)]at C;have:=h.cs s hs;show jW m s=_;omega
 ·obtain⟨F,R,a3,a4,a5⟩:=z c g;rw[F];exact V.tail c g
 ·obtain⟨F,R,a3,a4,a5⟩:=z c g;rw[R]at D;rw[F,hj];exact V.clean c g D
 ·rw[v]at D ⊢
  by_cases e:i=A
  ·subst e;rw[if_pos rfl]at D ⊢
   by_cases O:(aB m i).r=1
   ·have P:X.r=0:=by omega
    have:=(((dN _).1 Z).2.1 P).2.1;rw[this]at D;cases D
   rw[l O]at D ⊢;exact V.anon i G D
  ·rw[if_neg e]at D ⊢; exact V.anon i (by rw[<-o];exact L) D
 ·refine Ji S (mr.refl _) (λa b _=>hw a b) λq j y hx I => ?_;rw[w,if_neg (show ¬(q=p/\j=n)from hx)];refine qK h.pt.st (h.pt.pg I).1 (mr.refl _) (λa b _=>hw a b) (λu => ?_) (λ_=>⟨rfl,rfl⟩);show(aB (aQ (setFr m A X) p n zEn) (ent m q j).n.toNat).p=(aB m (ent m q j).n.toNat).p/\(aB (aQ (setFr m A X) p n zEn) (ent m q j).n.toNat).f=(aB m (ent m q j).n.toNat).f;rw[v]
  by_cases E:(ent m q j).n.toNat=A
  ·rw[if_pos E,E,l (hv q j hx u E)];exact⟨rfl,rfl⟩
  ·rw[if_neg E];exact⟨rfl,rfl⟩
 rw[v]at I ⊢
 by_cases e:y=A
 ·rw[if_pos e]at I ⊢;rw[e,l (by omega)];exact⟨rfl,rfl,rfl,rfl,rfl⟩
 ·rw[if_neg e];exact⟨rfl,rfl,rfl,rfl,rfl⟩
theorem Hd(h:Rt m)(I:Co m)(C:(ent m p n).k=2)(L:(ent m p n).n=s):Less m (aQ (setSl m s (jW m s + -1)) p n zEn) p n:=by
 have l:=nu (m:=m) (p:=p) (n:=n) (by rw[C];decide);obtain⟨g0,V,u⟩:=h.en p n (by rw[C];decide);have G:s<m.sl.length:=by have:=u.sw C;omega
 have W:=h.fewS G;have Y:0<bR m 2 s:=(nI).2 ⟨p,n,l.1,l.2,C,L⟩;have U:=h.cs s G;have z:Pt (setSl m s (jW m s + -1)):=h.pt.setSl (by omega) (by omega);obtain⟨w,_,R⟩:=iT (k:=⟨setSl m s (jW m s + -1),0⟩) (p:=p) (n:=n) (x:=zEn) z l.2 (by decide);have N:p<(setSl m s (jW m s + -1)).sp.length:=l.1;have c:∀q j,ent (aQ (setSl m s (jW m s + -1)) p n zEn) q j=if q=p/\j=n then zEn else ent m q j:=λq j=>nU N w q j;have o:∀kd i,kd≠0->bR (aQ (setSl m s (jW m s + -1)) p n zEn) kd i+sO (pW kd i (ent m p n))=bR m kd i:=λkd i P=>by have A:=qG N w kd i;have h2:sO (pW kd i zEn)=0:=xx rfl P;have Z:bR (setSl m s (jW m s + -1)) kd i=bR m kd i:=rfl;have S:ent (setSl m s (jW m s + -1)) p n=ent m p n:=rfl;rw[S]at A;unfold aQ;omega
 have v:iF m (setSl m s (jW m s + -1)):=iF.of rfl;have g:iF m (aQ (setSl m s (jW m s + -1)) p n zEn):=v.trans (iF.setTb (m:=setSl m s (jW m s + -1)) (p:=p) (t:=setT (dI (setSl m s (jW m s + -1)) p).tb n zEn));have d:(aQ (setSl m s (jW m s + -1)) p n zEn).sl.length=m.sl.length:=bI;refine⟨⟨R,h.trim,λq K => ?_,⟨h.ca.file,h.ca.lt,h.ca.fr,h.ca.srt⟩,λq j f => ?_,λi F => ?_,h.fc,λi F => ?_⟩,⟨I.tail,I.clean,I.anon⟩,?_,rfl,rfl,rfl,rfl,rfl,d,c,λy E=>⟨rfl,rfl,rfl,rfl,rfl⟩⟩
 ·rw[g.lv]at K;obtain⟨J,D⟩:=h.live q K;refine⟨by rw[g.ar];exact J,λj => ?_⟩;rw[c];split
  ·rfl
  ·exact D j
 ·have Q:fI (aQ (setSl m s (jW m s + -1)) p n zEn) q j=fI m q j:=by unfold fI;rw[g.ar]
  rw[Q];rw[c]at f ⊢
  by_cases e:q=p/\j=n
  ·rw[if_pos e]at f; exact absurd rfl f
  rw[if_neg e]at f ⊢;obtain⟨y,E,r⟩:=h.en q j f;exact⟨y,E,by rw[d];exact r.sw,r.lt,r.fr⟩
 ·have A:=o 1 i (by decide);rw[qc,if_neg (λT=>by omega)]at A;have h2:=h.cf i F;have J:uf (aQ (setSl m s (jW m s + -1)) p n zEn) i=uf m i:=rfl;have D:aB (aQ (setSl m s (jW m s + -1)) p n zEn) i=aB m i:=rfl;rw[J,D];omega
 ·rw[d]at F;have A:=o 2 i (by decide);rw[qc]at A;have h2:=h.cs i F;have D:jW (aQ (setSl m s (jW m s + -1)) p n zEn) i=jW (setSl m s (jW m s + -1)) i:=rfl;rw[D,Jg G]
  by_cases e:i=s
  ·subst e;rw[if_pos ⟨C,L⟩]at A;rw[if_pos rfl];omega
  rw[if_neg (λT=>e (by omega))]at A;rw[if_neg e];omega
 refine Ji g (mr.refl _) (λa b _=>rfl) λq j y O E => ?_;rw[c,if_neg (show ¬(q=p/\j=n)from O)];exact qK h.pt.st (h.pt.pg E).1 (mr.refl _) (λa b _=>rfl) (λ_=>⟨rfl,rfl⟩) (λ_=>⟨rfl,rfl⟩)
theorem UW{k:Kp}(h:Rt k.m)(C:Co k.m)(p:Nat)(n:Int):((ent k.m p n).k=0/\jV k p n=k)\/∃m',jV k p n=⟨m',k.e⟩/\Less k.m m' p n:=by
 have h2:=(bG _).1 (nG h.pt p n);have t:dM (dI k.m p).tb n=ent k.m p n:=rfl;rcases h2 with h2|h2|h2
 ·refine .inl ⟨h2.1,?_⟩;unfold jV;rw[t,if_neg (by omega),if_neg (by omega)]
 ·right
  obtain⟨f,D,A,F,J,d,G,g,a⟩:=fU h h2.1;have c:=h.fewR A;obtain⟨z,y⟩:=BD (k:=k) (f:=f) (n:=-1) h.pt A F (by omega) (by omega);obtain⟨E,u,I⟩:=iT (k:=⟨setFr k.m f (il (aB k.m f) (-1)),k.e⟩) (p:=p) (n:=n) (x:=zEn) y d (by decide);refine⟨_,?_,NC h C h2.1 D⟩;unfold jV;simp only;rw[t,if_pos h2.1,D,z,u];rfl
 right
 have b:=nu (m:=k.m) (p:=p) (n:=n) (by omega);obtain⟨G,g,a⟩:=h.en p n (by omega);have o:(ent k.m p n).n.toNat<k.m.sl.length:=by have:=a.sw h2.1;omega
 have c:=h.fewS o;have i:0<bR k.m 2 ((ent k.m p n).n.toNat:Nat):=(nI).2 ⟨p,n,b.1,b.2,h2.1,by omega⟩;have j:=h.cs _ o;obtain⟨z,y⟩:=PE (k:=k) (s:=(ent k.m p n).n.toNat) (n:=-1) h.pt o (by omega) (by omega) (by omega);obtain⟨E,u,I⟩:=iT (k:=⟨setSl k.m (ent k.m p n).n.toNat (jW k.m (ent k.m p n).n.toNat + -1),k.e⟩) (p:=p) (n:=n) (x:=zEn) y b.2 (by decide);refine⟨_,?_,Hd h C h2.1 (s:=(ent k.m p n).n.toNat) (by omega)⟩;unfold jV;simp only;rw[t,if_neg (by omega),if_pos h2.1];rw[show(ent k.m p n).n=(((ent k.m p n).n.toNat:Nat):Int) by omega,z,u];rfl
theorem xB(h:Rt m)(o:Co m)(h' : Rt m')(hc' : Co m')(st:m'.st=m.st)(dk:m'.dk=m.dk)(ca:m'.ca=m.ca)(i:∀c∈m.ca,(aB m' c.k.toNat).d=(aB m c.k.toNat).d/\(aB m' c.k.toNat).p=(aB m c.k.toNat).p):Inv m m':=
 SV.inv (.of st dk λc e _=>⟨by rw[<-ca];exact e,i c (by rw[<-ca];exact e)⟩) h o h' hc'
theorem Less.inv(h:Rt m)(i:Co m)(k:Less m m' p n):Inv m m':=
 xB h i k.rt k.co k.st k.dk k.ca λc e=>by have:=k.rt.ca.fr c (by rw[k.ca];exact e);have:=k.fr c.k.toNat (by omega);exact⟨this.2.2.1,this.1⟩
def Uo(m:Ma)(q:Nat)(s:Sp):Ma:={ m with sp:=m.sp.set q s }
def alike(a b:En):Prop:=b.k=a.k/\b.n=a.n
theorem IC(h:H'.ma.sp.length=H.ma.sp.length):H'.sp.length=H.sp.length:=by rw[rX,rX]at h;exact h
theorem entTy:68≠109/\68≠66/\68≠122/\68≠76:=by decide
theorem srt_len:∀ {l:List Nat} {a n:Nat},l.Pairwise (· < ·)->(∀x∈l,a<=x/\x<n)->l.length<=n-a
 | [],_,_,_,_=>by simp
 | x::l,a,n,hs,h=>by obtain⟨i,h2⟩:=ui.1 hs;have o:=h x iN;have:=srt_len (a:=x+1) (n:=n) h2 λy e=>⟨i y e,(h y (jY _ e)).2⟩;rw[qz];omega
theorem TF(h:uW m)(z:aT m.st=0):m.ca.length<=60:=by
 have t:∀c∈m.ca,0<=c.f/\c.f<5/\0<=c.i/\c.i<12:=λc u=>by have e:=h.file c u;have h2:=zB z e;have E:=e.1;have D:=e.2;omega
 have o:=srt_len (l:=m.ca.map λc=>(12*c.f+c.i).toNat) (a:=0) (n:=60) ?_ λx y => ?_
 ·simpa using o
 ·rw[List.pairwise_map];refine List.Pairwise.imp_of_mem ?_ h.srt;intro a b C A d;have e:=t a C;have h2:=t b A;unfold CZ at d;show(12*a.f+a.i).toNat<(12*b.f+b.i).toNat;omega
 obtain⟨c,u,rfl⟩:=iA.1 y;have e:=t c u;show 0<=(12*c.f+c.i).toNat/\(12*c.f+c.i).toNat<60;omega
theorem yA{s:St}(o:aT s=0):∀f∈s.fs,f.b.length<=12:=λf u=>by
 obtain⟨k,t,rfl⟩:=jJ.1 u;have i:=wP o (f:=(k:Int)) ⟨by omega,by omega⟩;have h:aN s (k:Int)=s.fs[k]:=jN (aI t);rw[h]at i;obtain⟨A,z,y,_⟩:=i;have e:(s.fs[k].b.length:Int)<=12:=by rw[y];unfold eY;split<;>omega
 omega
theorem BK(t:m'.st=m.st)(y:m'.dk=m.dk)(u:m'.sw=m.sw)(z:m'.ca=m.ca)(o:∀g,(aB m' g).p=(aB m g).p/\(aB m' g).f=(aB m g).f)(A:(dI m' q).ar=(dI m p).ar)(D:alike (ent m p n) (ent m' q n)):eD m' q n=eD m p n:=by
 have d:∀a b,aU m' a b=aU m a b:=λa b=>by
  unfold aU;rw[z,t,y];cases m.ca.find? λc=>decide (c.f=a)&&decide (c.i=b)with
  | none=>rfl
  | some c=>exact(o c.k.toNat).1
 have C:fI m' q n=fI m p n:=by unfold fI;rw[A]
 cases hg:fI m p n with
 | none=>rw[sF hg,sF (C.trans hg)]
 | some g=>
  rw[jH hg,jH (C.trans hg)];unfold vX;rw[D.1,D.2,u,t,d];have E:=(o (ent m p n).n.toNat).1;have h2:=(o (ent m p n).n.toNat).2;have h : (jw m' (ent m p n).n).p=(jw m (ent m p n).n).p:=E;have e : (jw m' (ent m p n).n).f=(jw m (ent m p n).n).f:=h2;rw[h,e]
theorem Ij(e:m'.st=m.st)(o:m'.dk=m.dk)(t:m'.ca=m.ca)(h:∀g,(aB m' g).p=(aB m g).p)(a b:Int):aU m' a b=aU m a b:=by
 unfold aU;rw[t,e,o];cases m.ca.find? λc=>decide (c.f=a)&&decide (c.i=b)with
 | none=>rfl
 | some c=>exact h c.k.toNat
theorem Less.zero(h:Rt m)(o:Co m)(t:(ent m p n).k=0):Less m m p n:=by
 refine⟨h,o,.refl _ _,rfl,rfl,rfl,rfl,rfl,rfl,λq j => ?_,λ_ _=>⟨rfl,rfl,rfl,rfl,rfl⟩⟩
 by_cases e:q=p/\j=n
 ·rw[if_pos e,e.1,e.2];have i:=(bG _).1 (nG h.pt p n);rcases i with i|i|i
  ·show ent m p n=⟨0,0,false⟩;cases hx:ent m p n;rw[hx]at i;simp only at i;rw[i.1,i.2.1,i.2.2]
  ·omega
  ·omega
 ·rw[if_neg e]
theorem Pz{k:Kp}(h:Rt k.m)(i:Co k.m)(p:Nat)(n:Int):∃m',jV k p n=⟨m',k.e⟩/\Less k.m m' p n:=by
 rcases UW h i p n with⟨o,e⟩|t
 ·exact⟨k.m,e,.zero h i o⟩
 ·exact t
def nK(x:Fr)(P:Page)(d:Bool):Fr:={ x with p:=P,d:=d }
theorem Wh(h:Rt m)(A:Co m){P:Page}{d:Bool}(D:g<m.m.fs.length)(G:(aB m g).r≠0)(C:∀c∈m.ca,c.k.toNat=g->dx P ((aN m.st c.f).n-c.i*8)=P/\(d=true\/P=dB m c.f c.i))(J:d=true->0<=(aB m g).f) :
  Rt (setFr m g (nK (aB m g) P d))/\Co (setFr m g (nK (aB m g) P d)):=by
 have q:bT (nK (aB m g) P d)=0:=by have t:=(dN _).1 (h.pt.frE D);rw[dN];exact⟨t.1,λe=>absurd e G,t.2.2⟩
 have o:∀x,aB (setFr m g (nK (aB m g) P d)) x=if x=g then nK (aB m g) P d else aB m x:=λx=>gB D x;have j:∀x,(aB (setFr m g (nK (aB m g) P d)) x).r=(aB m x).r/\(aB (setFr m g (nK (aB m g) P d)) x).f=(aB m x).f/\(aB (setFr m g (nK (aB m g) P d)) x).i=(aB m x).i:=λx=>by
  rw[o]
  by_cases e:x=g
  ·rw[if_pos e,e];exact⟨rfl,rfl,rfl⟩
  ·rw[if_neg e];exact⟨rfl,rfl,rfl⟩
 have l:(setFr m g (nK (aB m g) P d)).m.fs.length=m.m.fs.length:=fu;refine⟨⟨h.pt.setFr q,h.trim,h.live,⟨h.ca.file,λc b=>by rw[l];exact h.ca.lt c b,λc b => ?_,h.ca.srt⟩,λp n I => ?_,λi u => ?_,λi u E => ?_,h.cs⟩,⟨λc b => ?_,λc b a => ?_,λi u a => ?_⟩⟩
 ·rw[(j _).1,(j _).2.1,(j _).2.2];exact h.ca.fr c b
 ·obtain⟨y,F,z⟩:=h.en p n I;refine⟨y,F,z.sw,by rw[l];exact z.lt,λs => ?_⟩;have t:=z.fr s;unfold Ol at t ⊢;have e:ent (setFr m g (nK (aB m g) P d)) p n=ent m p n:=rfl;rw[e,(j _).1,(j _).2.1,(j _).2.2];exact t
 ·rw[(j _).1];exact h.cf i (by rw[<-l];exact u)
 ·rw[(j _).2.1]at E;exact h.fc i (by rw[<-l];exact u) E
 ·rw[o]
  by_cases e:c.k.toNat=g
  ·rw[if_pos e];exact(C c b e).1
  ·rw[if_neg e];exact A.tail c b
 ·rw[o]at a ⊢
  by_cases e:c.k.toNat=g
  ·rw[if_pos e]at a ⊢;rcases(C c b e).2 with t|t
   ·have h2:d=false:=a;rw[t]at h2;cases h2
   ·exact t
  ·rw[if_neg e]at a ⊢; exact A.clean c b a
 rw[o]at a ⊢
 by_cases e:i=g
 ·rw[if_pos e]at a ⊢;exact J a
 ·rw[if_neg e]at a ⊢; exact A.anon i (by rw[<-l];exact u) a
theorem SL(h:Rt m)(t:Co m)(o:g<m.m.fs.length)(y:(aB m g).r≠0)(z:0<=(aB m g).f):Rt (setFr m g (nK (aB m g) (aB m g).p true))/\Co (setFr m g (nK (aB m g) (aB m g).p true))/\FY m (setFr m g (nK (aB m g) (aB m g).p true)):=by
 have u:=Wh (P:=(aB m g).p) (d:=true) h t o y (λc b e=>⟨by have:=t.tail c b;rw[e]at this;exact this,.inl rfl⟩) (λ_=>z);have a:∀x,(aB (setFr m g (nK (aB m g) (aB m g).p true)) x).p=(aB m x).p/\(aB (setFr m g (nK (aB m g) (aB m g).p true)) x).f=(aB m x).f:=λx=>by
  rw[gB o]
  by_cases e:x=g
  ·rw[if_pos e,e];exact⟨rfl,rfl⟩
  ·rw[if_neg e];exact⟨rfl,rfl⟩
 exact⟨u.1,u.2,⟨iF.of rfl,rfl,λ_=>rfl,λ_=>rfl,λp n=>BK rfl rfl rfl rfl a rfl ⟨rfl,rfl⟩,λf i _=>Ij (m:=m) (m':=setFr m g (nK (aB m g) (aB m g).p true)) rfl rfl rfl (λx=>(a x).1) f i⟩⟩
theorem NJ(h:Rt m)(E:Co m){g:Pg}(D:(ent m p n).k=1)(J:(ent m p n).n=f)(K:fI m p n=some g)(O:g.wr=true)(C:g.sh=true\/(aB m f).f<0/\(aB m f).r=1) :
  Rt (aQ m p n ⟨1,f,true⟩)/\Co (aQ m p n ⟨1,f,true⟩)/\FY m (aQ m p n ⟨1,f,true⟩):=by
 obtain⟨A,e1,hf,Z,I,Q,g0,u,l⟩:=fU h D;rw[K]at u;cases u;have:A = f:=by omega
 subst this;have w:eP ⟨1,A,true⟩=0:=(bG _).2 (.inr (.inl ⟨rfl,by show(0:Int)<=A; omega,by have:=((dO _).1 h.pt.fr).1;show(A : Int)<40;omega⟩));obtain⟨o,_,z⟩:=iT (k:=⟨m,0⟩) (p:=p) (n:=n) (x:=⟨1,A,true⟩) h.pt Q w;have b:∀q j,ent (aQ m p n ⟨1,A,true⟩) q j=if q=p/\j=n then⟨1,A,true⟩else ent m q j:=λq j=>nU I o q j;have v:∀q j,alike (ent m q j) (ent (aQ m p n ⟨1,A,true⟩) q j):=λq j=>by
  rw[b]
  by_cases e:q=p/\j=n
  ·rw[if_pos e,e.1,e.2];exact⟨D.symm,J.symm⟩
  ·rw[if_neg e];exact⟨rfl,rfl⟩
 have c:∀kd i,bR (aQ m p n ⟨1,A,true⟩) kd i=bR m kd i:=λkd i=>by
  have T:=qG I o kd i;have h2:sO (pW kd i (ent m p n))=sO (pW kd i ⟨1,A,true⟩):=by rw[qc,qc,D,J]
  unfold aQ;have h3:bR ({ m:=m,e:=0 }:Kp).m kd i=bR m kd i:=rfl;have S:ent ({ m:=m,e:=0 }:Kp).m p n=ent m p n:=rfl;rw[S,h2]at T;omega
 have a:iF m (aQ m p n ⟨1,A,true⟩):=iF.setTb;refine⟨⟨z,h.trim,λq G => ?_,⟨h.ca.file,h.ca.lt,h.ca.fr,h.ca.srt⟩,λq j t => ?_,λi P=>by rw[c];exact h.cf i P,h.fc,λs C=>by rw[c];exact h.cs s C⟩,⟨E.tail,E.clean,E.anon⟩,⟨a,rfl,λ_=>rfl,λ_=>rfl,λq j=>BK rfl rfl rfl rfl (λ_=>⟨rfl,rfl⟩) (a.ar q) (v q j),λ_ _ _=>rfl⟩⟩
 ·rw[a.lv]at G;obtain⟨Y,W⟩:=h.live q G;refine⟨by rw[a.ar];exact Y,λj=>by rw[(v q j).1];exact W j⟩
 have R:fI (aQ m p n ⟨1,A,true⟩) q j=fI m q j:=by unfold fI;rw[a.ar]
 rw[R]
 by_cases e:q=p/\j=n
 ·rw[b,if_pos e,e.1,e.2];refine⟨g,K,λU=>absurd (show(1:Int)=2 from U) (by decide),λ_=>by show(A : Int)<(m.m.fs.length:Int);omega,λ_ => ?_⟩;obtain⟨V,L,f3,f4,f5⟩:=l;refine⟨V,L,λ_=>O,λ_ F => ?_,λ_ F => ?_⟩
  ·rcases C with C|C
   ·exact C
   have:(aB m A).f<0:=C.1;have:0<=(aB m A).f:=F;omega
  rcases C with C|C
  ·have:=L C;have:(aB m A).f<0:=F;omega
  show(aB m A).r<=1;omega
 rw[b,if_neg e]at t ⊢;obtain⟨y,N,d⟩:=h.en q j t;exact⟨y,N,d.sw,d.lt,d.fr⟩
theorem Uk{t u:Tb}(i:dA t=0)(e:dA u=0)(h:∀n,dM t n=dM u n):t=u:=by
 rw[<-zH i,<-zH e];unfold dC;congr 1;exact vS λn _=>h n
theorem Mm(h:Pt m){x y:En}(C:p<m.sp.length)(i:0<=n/\n<64)(o:eP x=0)(A:eP y=0):aQ (aQ m p n y) p n x=aQ m p n x:=by
 have u:=AX (h.tbN p) i A;have h2:=AX (h.tbN p) i o;have t:=AX (qf u) i o;unfold aQ;have z:dI (setTb m p (setT (dI m p).tb n y)) p = { dI m p with tb:=setT (dI m p).tb n y }:=by rw[BL C,if_pos rfl]
 rw[z];have E:setT (setT (dI m p).tb n y) n x=setT (dI m p).tb n x:=Uk (qf t) (qf h2) λj=>by
  rw[zU t,zU h2,zU u]
  by_cases e:j=n
  ·rw[if_pos e,if_pos e]
  ·rw[if_neg e,if_neg e,if_neg e]
 show setTb (setTb m p (setT (dI m p).tb n y)) p (setT (setT (dI m p).tb n y) n x)=_;rw[E];unfold setTb;simp only[Bj];have D:dI ({ m with sp:=m.sp.set p { dI m p with tb:=setT (dI m p).tb n y } }:Ma) p = { dI m p with tb:=setT (dI m p).tb n y }:=z;rw[D]
def kT(m:Ma)(p:Nat)(n:Int):Ar:=(dI m p).ar.getD (ik (dI m p).ar n).toNat zAr
def pV(m:Ma)(p:Nat)(n:Int)(w:Bool):Int:=if ik (dI m p).ar n<0 then 5 else if(w=true/\(kT m p n).wr=false)\/(w=false/\(kT m p n).rd=false)then 8 else 0
def Xf(r:Kp × Int)(p:Nat)(n:Int)(w:Bool):Kp × Int:=if r.2<0 then r else(fo r.1 p n ⟨1,r.2,w⟩,r.2)
def gW(k:Kp)(p:Nat)(n:Int)(a:Ar):Kp × Int:=
 let e:=ent k.m p n
 if e.k=1 then(k,e.n)
 else if e.k=2 then
  if aL k.m.sw e.n≠0 then(k,-1)else
  let r:=eG k (dD k.m.sw e.n) (-1) 0
  if r.2<0 then(r.1,-1)else
  if dH r.1.m.sl e.n (-1)≠0 then(r.1,-1)else(fo ⟨{ r.1.m with sl:=cO r.1.m.sl e.n (-1) },r.1.e⟩ p n ⟨1,r.2,a.wr⟩,r.2)
 else if a.fi<0 then Xf (eG k zPg (-1) 0) p n a.wr
 else
  let r:=fB k a.fi (a.ba+n-a.fr)
  if r.2<0 then r else(fo (gH r.1 r.2 1) p n ⟨1,r.2,a.sh&&a.wr⟩,r.2)
def xO(k:Kp)(p:Nat)(n:Int)(f:Int)(a:Ar):Kp × Int:=
 let x:=jw k.m f
 if a.sh=true\/x.f<0/\x.r=1 then(fo k p n ⟨1,f,true⟩,f)else
 let r:=eG (jV k p n) x.p (-1) 0
 if r.2<0 then(r.1,-1)else(fo r.1 p n ⟨1,r.2,true⟩,r.2)
def nL(m:Ma)(p:Nat)(n:Int)(w:Bool):Kp × Int:=
 let r:=gW ⟨m,0⟩ p n (kT m p n)
 if 0<=r.2/\w=true/\(ent r.1.m p n).w=false then xO r.1 p n r.2 (kT m p n)else r
def OH(k:Kp)(f:Int)(d:Bool):Kp:=let m1:=setFr k.m f.toNat (lC (aB k.m f.toNat));⟨if d=true then setFr m1 f.toNat (nK (aB m1 f.toNat) (aB m1 f.toNat).p true)else m1,k.e⟩
def copied(m:Ma)(p:Nat)(n:Int):Bool:=decide ((ent m p n).k=2)||(decide ((ent m p n).k=1)&&decide ((jw m (ent m p n).n).f<0))
def wY(m:Ma)(p n:Int)(w:Bool):Int:=
 if jU m≠0 then jU m else if p<0\/(m.sp.length:Int)<=p\/(dI m p.toNat).lv=false then 5 else if pV m p.toNat n w≠0 then pV m p.toNat n w
 else if 0<=(kT m p.toNat n).fi/\copied m p.toNat n=false/\qx m.st (kT m p.toNat n).fi ((kT m p.toNat n).ba+n-(kT m p.toNat n).fr)=true then 9
 else if(nL m p.toNat n w).2<0 then 10 else(nL m p.toNat n w).1.e
def La(m:Ma)(p n:Int)(w:Bool):Ma:=(OH (nL m p.toNat n w).1 (nL m p.toNat n w).2 (w&&(kT m p.toNat n).sh)).m
def Ki(m:Ma)(p n:Int)(w:Bool):Int:=(nL m p.toNat n w).2
theorem Cu{g:Pg}(h:fI m p n=some g):g=kS (kT m p n) n/\0<=ik (dI m p).ar n/\(kT m p n).sh=g.sh/\(kT m p n).wr=g.wr/\(kT m p n).rd=g.rd/\(kT m p n).fi=g.fi/\(0<=g.fi->(kT m p n).ba+n-(kT m p n).fr=g.pg):=by
 have i:0<=ik (dI m p).ar n:=(yI _ _).2 (by unfold fI at h;rw[h];simp);have h2:=(IW i).1;unfold fI at h;rw[h]at h2;have e:=aM h2;refine⟨e,i,by rw[e];rfl,by rw[e];rfl,by rw[e];rfl,by rw[e];rfl,λo => ?_⟩;rw[e]at o ⊢;have a : 0<=(kT m p n).fi:=o;show _=if 0<=(kT m p n).fi then _ else _;rw[if_pos a];rfl
theorem EG(h:Rt m){x:Nat}(i:x<m.m.fs.length)(t:(aB m x).r=0):(∀c∈m.ca,c.k.toNat≠x)/\∀p n,(ent m p n).k=1->(ent m p n).n.toNat≠x:=by
 refine⟨λc a e => ?_,λp n o e => ?_⟩
 ·have:=(h.ca.fr c a).1;rw[e]at this;omega
 have:=zV h o e;have:=h.cf x i;omega
theorem EE(h:Rt m)(U:Co m){x:Nat}{g:Pg}{P:Page}{w:Bool}(K:p<m.sp.length)(L:0<=n/\n<64)(Y:(ent m p n).k=0)(E:x<m.m.fs.length)(D:(aB m x).r=0)(N:fI m p n=some g)(F:g.sh=false)(S:w=true->g.wr=true) :
  Rt (aQ (setFr m x (bL P (-1) 0)) p n ⟨1,x,w⟩)/\Co (aQ (setFr m x (bL P (-1) 0)) p n ⟨1,x,w⟩)/\BS (Xu p n) m (aQ (setFr m x (bL P (-1) 0)) p n ⟨1,x,w⟩)/\eD (aQ (setFr m x (bL P (-1) 0)) p n ⟨1,x,w⟩) p n=(P,true,0) /\
   ∀q j,ent (aQ (setFr m x (bL P (-1) 0)) p n ⟨1,x,w⟩) q j=if q=p/\j=n then⟨1,x,w⟩else ent m q j:=by
 have u:bT (bL P (-1) 0)=0:=by rw[dN];exact⟨⟨by show(0:Int)<=1;decide,by show(1:Int)<=1000;decide,by show(-1:Int)<=-1;decide,by show(-1:Int)<5;decide,by show(0:Int)<=0;decide,by show(0:Int)<12;decide⟩,λ(e:(1:Int)=0)=>absurd e (by decide),λ_=>rfl⟩
 have z:eP ⟨1,x,w⟩=0:=(bG _).2 (.inr (.inl ⟨rfl,by show(0:Int)<=x;omega,by have:=((dO _).1 h.pt.fr).1;show(x:Int)<40;omega⟩));have G:=EG h E D;obtain⟨O,a2⟩:=tF (X:=bL P (-1) 0) (x:=⟨1,x,w⟩) (g:=g) h U K L Y E rfl rfl u (by rw[D];rfl) (hold:=(λZ=>absurd D Z)) (λ_=>⟨by show(-1:Int)<0;decide,rfl⟩) (λ_ q j l V=>absurd V (G.2 q j l)) N ⟨λ(e:(0:Int)<=-1)=>absurd e (by decide),λe=>(by rw[F]at e;cases e),S,λ_ (e:(0:Int)<=-1)=>absurd e (by decide),λ_ _=>by show(1:Int)<=1;decide⟩;obtain⟨Q,_,_⟩:=iT (k:=⟨setFr m x (bL P (-1) 0),0⟩) (p:=p) (n:=n) (x:=⟨1,x,w⟩) (h.pt.setFr u) L z;have d:∀q j,ent (aQ (setFr m x (bL P (-1) 0)) p n ⟨1,x,w⟩) q j=if q=p/\j=n then⟨1,x,w⟩else ent m q j:=λq j=>nU (m:=setFr m x (bL P (-1) 0)) K Q q j;have o:∀y,aB (aQ (setFr m x (bL P (-1) 0)) p n ⟨1,x,w⟩) y=if y=x then bL P (-1) 0 else aB m y:=λy=>gB E y;have s:iF m (setFr m x (bL P (-1) 0)):=iF.of rfl;have t:iF m (aQ (setFr m x (bL P (-1) 0)) p n ⟨1,x,w⟩):=s.trans iF.setTb;have i:∀a b,aU (aQ (setFr m x (bL P (-1) 0)) p n ⟨1,x,w⟩) a b=aU m a b:=by
  intro a b;rcases oz m a b with⟨c,T,A,J,I⟩|⟨T,C⟩
  ·subst J;subst I;rw[iG h.ca A,iG O.ca A,o,if_neg (G.1 c A)]
  ·rw[gJ C,gJ (m:=aQ (setFr m x (bL P (-1) 0)) p n ⟨1,x,w⟩) C];rfl
 refine⟨O,a2,Ji t (mr.refl _) (λa b _=>i a b) λq j y v R => ?_,?_,d⟩
 ·rw[d,if_neg (show ¬(q=p/\j=n)from v)];refine qK h.pt.st (h.pt.pg R).1 (mr.refl _) (λa b _=>i a b) (λl => ?_) (λ_=>⟨rfl,rfl⟩);have:=o (ent m q j).n.toNat;rw[if_neg (G.2 q j l)]at this;exact⟨congrArg Fr.p this,congrArg Fr.f this⟩
 have W:fI (aQ (setFr m x (bL P (-1) 0)) p n ⟨1,x,w⟩) p n=some g:=by
  have:fI (aQ (setFr m x (bL P (-1) 0)) p n ⟨1,x,w⟩) p n=fI m p n:=by unfold fI;rw[t.ar]
  rw[this,N]
 rw[jH W,d,if_pos ⟨rfl,rfl⟩];have:=o x;rw[if_pos rfl]at this;unfold vX;rw[if_pos rfl];have h2:jw (aQ (setFr m x (bL P (-1) 0)) p n ⟨1,x,w⟩) (x:Int)=bL P (-1) 0:=this;show((jw _ (x:Int)).p,decide ((jw _ (x:Int)).f<0),(0:Int))=_;rw[h2];rfl
theorem UZ(h:Rt m)(L:Co m){g:Pg}{c:Cc}{w:Bool}(G:p<m.sp.length)(I:0<=n/\n<64)(Q:(ent m p n).k=0)(A:c∈m.ca)(E:fI m p n=some g)(C:c.f=g.fi/\c.i=g.pg)(F:w=true->g.sh=true/\g.wr=true) :
  Rt (aQ (setFr m c.k.toNat (eH (aB m c.k.toNat))) p n ⟨1,c.k,w⟩)/\Co (aQ (setFr m c.k.toNat (eH (aB m c.k.toNat))) p n ⟨1,c.k,w⟩)/\FY m (aQ (setFr m c.k.toNat (eH (aB m c.k.toNat))) p n ⟨1,c.k,w⟩) /\
   ∀q j,ent (aQ (setFr m c.k.toNat (eH (aB m c.k.toNat))) p n ⟨1,c.k,w⟩) q j=if q=p/\j=n then⟨1,c.k,w⟩else ent m q j:=by
 have z:=h.ca.lt c A;have T:=h.ca.fr c A;have s:=h.ca.file c A;have a : c.k.toNat<m.m.fs.length:=by omega
 have U:=h.fewR a;have t:bT (eH (aB m c.k.toNat))=0:=Jz (h.pt.frE a) (by omega) (by omega);have u:eP ⟨1,c.k,w⟩=0:=(bG _).2 (.inr (.inl ⟨rfl,z.1,by have:=((dO _).1 h.pt.fr).1;show c.k<40;omega⟩));have Y:(eH (aB m c.k.toNat)).f=(aB m c.k.toNat).f:=rfl;have W:(eH (aB m c.k.toNat)).i=(aB m c.k.toNat).i:=rfl;have V:=s.1.1;obtain⟨S,R⟩:=tF (X:=eH (aB m c.k.toNat)) (x:=⟨1,c.k,w⟩) (f:=c.k.toNat) (g:=g) h L G I Q a rfl (by show c.k=_;omega) t rfl (λD=>by omega) (λK=>by omega) E
  ⟨λ_=>⟨by omega,by omega⟩,λ_=>by omega,λD=>(F D).2,λD _=>(F D).1,λ_ K=>by omega⟩
 obtain⟨J,_,_⟩:=iT (k:=⟨setFr m c.k.toNat (eH (aB m c.k.toNat)),0⟩) (p:=p) (n:=n) (x:=⟨1,c.k,w⟩) (h.pt.setFr t) I u;have b:∀q j,ent (aQ (setFr m c.k.toNat (eH (aB m c.k.toNat))) p n ⟨1,c.k,w⟩) q j=if q=p/\j=n then⟨1,c.k,w⟩else ent m q j:=λq j=>nU (m:=setFr m c.k.toNat (eH (aB m c.k.toNat))) G J q j;have d:∀y,(aB (aQ (setFr m c.k.toNat (eH (aB m c.k.toNat))) p n ⟨1,c.k,w⟩) y).p=(aB m y).p/\(aB (aQ (setFr m c.k.toNat (eH (aB m c.k.toNat))) p n ⟨1,c.k,w⟩) y).f=(aB m y).f:=λy=>by
  have:aB (aQ (setFr m c.k.toNat (eH (aB m c.k.toNat))) p n ⟨1,c.k,w⟩) y=if y=c.k.toNat then eH (aB m c.k.toNat)else aB m y:=gB a y;rw[this]
  by_cases e:y=c.k.toNat
  ·rw[if_pos e,e];exact⟨rfl,rfl⟩
  ·rw[if_neg e];exact⟨rfl,rfl⟩
 have o:iF m (setFr m c.k.toNat (eH (aB m c.k.toNat))):=iF.of rfl;have l:iF m (aQ (setFr m c.k.toNat (eH (aB m c.k.toNat))) p n ⟨1,c.k,w⟩):=o.trans iF.setTb;refine⟨S,R,⟨l,rfl,λ_=>rfl,λ_=>rfl,λq j => ?_,λf i _=>Ij (m:=m) (m':=aQ (setFr m c.k.toNat (eH (aB m c.k.toNat))) p n ⟨1,c.k,w⟩) rfl rfl rfl (λx=>(d x).1) f i⟩,b⟩
 by_cases e:q=p/\j=n
 ·obtain⟨rfl,rfl⟩:=e;have v:fI (aQ (setFr m c.k.toNat (eH (aB m c.k.toNat))) q j ⟨1,c.k,w⟩) q j=some g:=by
   have:fI (aQ (setFr m c.k.toNat (eH (aB m c.k.toNat))) q j ⟨1,c.k,w⟩) q j=fI m q j:=by unfold fI;rw[l.ar]
   rw[this,E]
  rw[jH v,jH E,b,if_pos ⟨rfl,rfl⟩];unfold vX;rw[if_pos rfl,if_neg (by omega),if_neg (by omega),if_neg (by omega)];have r:=sS h.pt.st s;rw[C.1,C.2]at r;rw[if_neg r,<-C.1,<-C.2,iG h.ca A];have P:=(d c.k.toNat).1;have h2:=(d c.k.toNat).2;have N : (jw (aQ (setFr m c.k.toNat (eH (aB m c.k.toNat))) q j ⟨1,c.k,w⟩) c.k).p=(aB m c.k.toNat).p:=P;have O : (jw (aQ (setFr m c.k.toNat (eH (aB m c.k.toNat))) q j ⟨1,c.k,w⟩) c.k).f=(aB m c.k.toNat).f:=h2;show((jw _ c.k).p,decide ((jw _ c.k).f<0),(0:Int))=_;rw[N,O,decide_eq_false (by omega)]
 refine BK rfl rfl rfl rfl d (l.ar q) ?_;rw[b,if_neg e];exact⟨rfl,rfl⟩
theorem BX(h:Rt m)(u:Co m)(h' : Rt m')(hc' : Co m'){x:Nat}(i:x<m.m.fs.length)(o:(aB m x).r=0)(st:m'.st=m.st)(dk:m'.dk=m.dk)(ca:m'.ca=m.ca)(t:m'.m=(setFr m x X).m):Inv m m':=
 xB h u h' hc' st dk ca λc e=>by have y:=(EG h i o).1 c e;rw[wK t,gB i,if_neg y];exact⟨rfl,rfl⟩
theorem UE(h:Rt m)(u:Co m)(h' : Rt m')(hc' : Co m'){x:Nat}(i:x<m.m.fs.length)(st:m'.st=m.st)(dk:m'.dk=m.dk)(ca:m'.ca=m.ca)(o:m'.m=(setFr m x (eH (aB m x))).m):Inv m m':=
 xB h u h' hc' st dk ca λc t=>by
  rw[wK o,gB i]
  by_cases e:c.k.toNat=x
  ·rw[if_pos e,e];exact⟨rfl,rfl⟩
  ·rw[if_neg e];exact⟨rfl,rfl⟩
structure Yt (m m' : Ma) (p:Nat) (n:Int) (g:Pg) (r:Int):Prop where
 rt:Rt m'
 co:Co m'
 vis:BS (Xu p n) m m'
 len:m'.m.fs.length=m.m.fs.length
 sll:m'.sl.length=m.sl.length
 no:r<0->dU m.m.fs=0
 yes:0<=r->(ent m' p n).k=1/\(ent m' p n).n=r/\(eD m' p n).1=(eD m p n).1/\(eD m' p n).2.2=0/\(eD m p n).2.2=0/\(0<=g.fi->(eD m' p n).2.1=(eD m p n).2.1)
 keep:(ent m p n).k=1->m' = m/\r=(ent m p n).n
 inv:Inv m m'
theorem nZ{g:Pg}(h:fI m p n=some g)(e:(ent m p n).k=1):eD m p n=((jw m (ent m p n).n).p,decide ((jw m (ent m p n).n).f<0),0):=by
 rw[jH h];unfold vX;rw[if_pos e]
theorem Lc{k:Kp}(h:Rt k.m)(hc:Co k.m){g:Pg}(hp:p<k.m.sp.length)(D:fI k.m p n=some g)(hf:0<=g.fi->(ent k.m p n).k=0->qP k.m.st g.fi g.pg) :
  (gW k p n (kT k.m p n)).1.e=k.e/\Yt k.m (gW k p n (kT k.m p n)).1.m p n g (gW k p n (kT k.m p n)).2:=by
 obtain⟨g1,g2,g3,g4,g5,g6,g7⟩:=Cu D;have hb:=h.pt.pg D;have R:0<=n/\n<64:=hb.2.2.2.2.2;have hE:=(bG _).1 (nG h.pt p n);have v:∀P:Page,bT (bL P (-1) 0)=0:=λP=>by rw[dN];exact⟨⟨by show(0:Int)<=1;decide,by show(1:Int)<=1000;decide,by show(-1:Int)<=-1;decide,by show(-1:Int)<5;decide,by show(0:Int)<=0;decide,by show(0:Int)<12;decide⟩,λ(e:(1:Int)=0)=>absurd e (by decide),λ_=>rfl⟩
 have t:∀ {m:Ma} {x:Nat},aB m x=frZ->(aB m x).r=0:=λe=>by rw[e];rfl
 have u:∀(x:Nat) (w:Bool),x<k.m.m.fs.length->eP ⟨1,x,w⟩=0:=λx w J=>(bG _).2 (.inr (.inl ⟨rfl,by show(0:Int)<=x;omega,by have:=((dO _).1 h.pt.fr).1;show(x:Int)<40;omega⟩));unfold gW;simp only
 by_cases k1:(ent k.m p n).k=1
 ·rw[if_pos k1];refine⟨rfl,h,hc,.refl _ _,rfl,rfl,λF=>by simp only at F;omega,λ_=>⟨k1,rfl,rfl,?_,?_,λ_=>rfl⟩,λ_=>⟨rfl,rfl⟩,.refl _⟩
  ·show(eD k.m p n).2.2=0;rw[nZ D k1]
  ·rw[nZ D k1]
 rw[if_neg k1]
 by_cases I:(ent k.m p n).k=2
 ·rw[if_pos I];obtain⟨y,hy,hu⟩:=h.en p n (by omega);rw[D]at hy;cases hy;have hJ:=hu.sw I;have hs:(ent k.m p n).n.toNat<k.m.sl.length:=by omega
  have hd:(ent k.m p n).n=(((ent k.m p n).n.toNat:Nat):Int):=by omega
  have hq:aL k.m.sw (ent k.m p n).n=0:=kF.2 ⟨h.pt.sw,by omega,by rw[h.pt.swl];omega⟩;rw[if_neg (by rw[hq];simp)];have l:eD k.m p n=(dD k.m.sw (ent k.m p n).n,true,0):=by rw[jH D];unfold vX;rw[if_neg k1,if_pos I,hq]
  rcases Dy (k:=k) (p:=dD k.m.sw (ent k.m p n).n) (f:=-1) (i:=0) h hc (v _)with⟨x,m1,o,A,J,S,Q⟩|⟨m1,A,Q,F⟩
  ·rw[Q];simp only;rw[if_neg (by omega)];have b:ent m1 p n=ent k.m p n:=A.ents p n (λe=>absurd e k1);have q:fI m1 p n=some g:=(show fI m1 p n=fI k.m p n by unfold fI;rw[A.vis.sk.ar]).trans D;have hk:(ent k.m p n).n.toNat<m1.sl.length:=by rw[A.sll];exact hs
   have hw:=A.rt.fewS hk;have j:=nu (m:=m1) (p:=p) (n:=n) (by rw[b];omega);have hP:0<bR m1 2 ((ent k.m p n).n.toNat:Nat):=(nI).2 ⟨p,n,j.1,j.2,by rw[b];exact I,by rw[b];omega⟩;have hQ:=A.rt.cs _ hk;have hC:dH m1.sl (((ent k.m p n).n.toNat:Nat):Int) (-1)=0:=by have e1:Gv m1.sl (((ent k.m p n).n.toNat:Nat):Int)=jW m1 (ent k.m p n).n.toNat:=rfl;unfold dH;rw[if_neg (by rw[A.rt.pt.sl];simp),if_neg (by rw[e1];omega),if_neg (by rw[e1];omega)]
   have a:=Hd A.rt A.co (p:=p) (n:=n) (s:=(ent k.m p n).n.toNat) (by rw[b];exact I) (by rw[b];exact hd);have hH:cO (setFr m1 x (bL (dD k.m.sw (ent k.m p n).n) (-1) 0)).sl (ent k.m p n).n (-1)=(setSl m1 (ent k.m p n).n.toNat (jW m1 (ent k.m p n).n.toNat + -1)).sl:=by unfold cO;rw[if_pos (by rw[hd];exact hC)];rfl
   rw[if_neg (by rw[hd];exactλe=>e hC),hH];have hm:p<m1.sp.length:=j.1;obtain⟨O,N,Z,Y,W⟩:=EE (P:=dD k.m.sw (ent k.m p n).n) (w:=(kT k.m p n).wr) (x:=x) (g:=g) (p:=p) (n:=n) a.rt a.co (by rw[a.vis.sk.len];exact hm) R (by rw[a.ents,if_pos ⟨rfl,rfl⟩];rfl) (by rw[a.len];exact J) (t (m:=m1) S) (by
    have:fI (aQ (setSl m1 (ent k.m p n).n.toNat (jW m1 (ent k.m p n).n.toNat + -1)) p n zEn) p n=fI m1 p n:=by unfold fI;rw[a.vis.sk.ar]
    rw[this,q]) hJ.2 (λe=>by rw[<-g4];exact e)
   have c:x<k.m.m.fs.length:=by rw[<-A.len];exact J
   have ha:Pt (setFr (setSl m1 (ent k.m p n).n.toNat (jW m1 (ent k.m p n).n.toNat + -1)) x (bL (dD k.m.sw (ent k.m p n).n) (-1) 0)):=(A.rt.pt.setSl (by omega) (by omega)).setFr (v _);have hG:=Mm (m:=setFr (setSl m1 (ent k.m p n).n.toNat (jW m1 (ent k.m p n).n.toNat + -1)) x (bL (dD k.m.sw (ent k.m p n).n) (-1) 0)) ha (p:=p) (n:=n) (x:=⟨1,x,(kT k.m p n).wr⟩) (y:=zEn) hm R (u x _ c) (by decide);obtain⟨s0,T,c2⟩:=iT (k:=⟨setFr (setSl m1 (ent k.m p n).n.toNat (jW m1 (ent k.m p n).n.toNat + -1)) x (bL (dD k.m.sw (ent k.m p n).n) (-1) 0),k.e⟩) (p:=p) (n:=n) (x:=⟨1,x,(kT k.m p n).wr⟩) ha R (u x _ c);have hv:fo ⟨{ setFr m1 x (bL (dD k.m.sw (ent k.m p n).n) (-1) 0)with sl:=(setSl m1 (ent k.m p n).n.toNat (jW m1 (ent k.m p n).n.toNat + -1)).sl },k.e⟩ p n ⟨1,x,(kT k.m p n).wr⟩=⟨aQ (setFr (aQ (setSl m1 (ent k.m p n).n.toNat (jW m1 (ent k.m p n).n.toNat + -1)) p n zEn) x (bL (dD k.m.sw (ent k.m p n).n) (-1) 0)) p n ⟨1,x,(kT k.m p n).wr⟩,k.e⟩:=by refine Eq.trans T (congrArg (λm=>Kp.mk m k.e) ?_);exact hG.symm
   rw[hv];refine⟨rfl,O,N,((A.vis.x _).trans a.vis).trans Z,?_,?_,λF=>by simp only at F;omega,λ_ => ?_,λe=>absurd e k1,(A.inv.trans (a.inv A.rt A.co)).trans (BX a.rt a.co O N (x:=x) (X:=bL (dD k.m.sw (ent k.m p n).n) (-1) 0) (by rw[a.len];exact J) (t (m:=m1) S) rfl rfl rfl rfl)⟩
   ·exact(fu.trans a.len).trans A.len
   ·exact a.sll.trans A.sll
   rw[Y,W,if_pos ⟨rfl,rfl⟩,l];exact⟨rfl,rfl,rfl,rfl,rfl,λ_=>rfl⟩
  rw[Q];simp only;rw[if_pos (by decide)];exact⟨rfl,A.rt,A.co,A.vis.x _,A.len,A.sll,λ_=>F,λL=>absurd (show(0:Int)<=-1 from L) (by decide),λe=>absurd e k1,A.inv⟩
 rw[if_neg I];have k0:(ent k.m p n).k=0:=by omega
 by_cases E:g.fi<0
 ·rw[g6,if_pos E];have hI:=(hb.2.2.2.2.1 E).1;have l:eD k.m p n=(zPg,false,0):=by rw[jH D];unfold vX;rw[if_neg k1,if_neg I,if_pos E]
  unfold Xf;rcases Dy (k:=k) (p:=zPg) (f:=-1) (i:=0) h hc (v _)with⟨x,m1,o,A,J,S,Q⟩|⟨m1,A,Q,F⟩
  ·rw[Q];simp only;rw[if_neg (by omega)];have b:ent m1 p n=ent k.m p n:=A.ents p n (λe=>absurd e k1);have q:fI m1 p n=some g:=(show fI m1 p n=fI k.m p n by unfold fI;rw[A.vis.sk.ar]).trans D;have c:x<k.m.m.fs.length:=by rw[<-A.len];exact J
   obtain⟨O,N,Z,Y,W⟩:=EE (P:=zPg) (w:=(kT k.m p n).wr) (x:=x) (g:=g) (p:=p) (n:=n) A.rt A.co (by rw[A.vis.sk.len];exact hp) R (by rw[b];exact k0) J (t S) q hI (λe=>by rw[<-g4];exact e);obtain⟨s0,T,c2⟩:=iT (k:=⟨setFr m1 x (bL zPg (-1) 0),k.e⟩) (p:=p) (n:=n) (x:=⟨1,x,(kT k.m p n).wr⟩) (A.rt.pt.setFr (v _)) R (u x _ c);rw[T];refine⟨rfl,O,N,(A.vis.x _).trans Z,fu.trans A.len,A.sll,λF=>by simp only at F;omega,λ_ => ?_,λe=>absurd e k1,A.inv.trans (BX A.rt A.co O N (x:=x) (X:=bL zPg (-1) 0) J (t S) rfl rfl rfl rfl)⟩;have G : eD (setTb (setFr m1 x (bL zPg (-1) 0)) p (setT (dI (setFr m1 x (bL zPg (-1) 0)) p).tb n ⟨1,x,(kT k.m p n).wr⟩)) p n=(zPg,true,0):=Y;have V:=W p n;rw[if_pos ⟨rfl,rfl⟩]at V;have U : ent (setTb (setFr m1 x (bL zPg (-1) 0)) p (setT (dI (setFr m1 x (bL zPg (-1) 0)) p).tb n ⟨1,x,(kT k.m p n).wr⟩)) p n=⟨1,x,(kT k.m p n).wr⟩:=V;simp only;rw[G,U,l];exact⟨rfl,rfl,rfl,rfl,rfl,λL=>absurd L (by omega)⟩
  rw[Q];simp only;rw[if_pos (by decide)];exact⟨rfl,A.rt,A.co,A.vis.x _,A.len,A.sll,λ_=>F,λL=>absurd (show(0:Int)<=-1 from L) (by decide),λe=>absurd e k1,A.inv⟩
 rw[g6,if_neg E];have hl:=g7 (by omega);rw[hl];have j:=hf (by omega) k0;obtain⟨he,C⟩:=Hz (k:=k) h hc j
 by_cases hr:(fB k g.fi g.pg).2<0
 ·rw[if_pos hr];exact⟨he,C.rt,C.co,C.vis.x _,C.len,C.sll,C.no,λL=>absurd hr (by omega),λe=>absurd e k1,C.inv⟩
 rw[if_neg hr];have hh:=C.yes (by omega);have hM:=C.rt.ca.lt _ hh;have hO:=C.rt.ca.fr _ hh;simp only at hM hO;generalize hK:fB k g.fi g.pg=K at *
 have d : K.2.toNat<K.1.m.m.fs.length:=by omega
 have hw:=C.rt.fewR d;obtain⟨a1,a2⟩:=BD (k:=K.1) (f:=K.2.toNat) (n:=1) C.rt.pt d (by omega) (by omega) (by omega);have hD:il (aB K.1.m K.2.toNat) 1=eH (aB K.1.m K.2.toNat):=by unfold il;rw[if_neg (by omega)];rfl
 rw[hD]at a1 a2;have hA:K.2=((K.2.toNat:Nat):Int):=by omega
 have hj : eP ⟨1,K.2,(kT k.m p n).sh&&(kT k.m p n).wr⟩=0:=by rw[hA];exact u _ _ (by rw[<-C.len];exact d)
 have b:ent K.1.m p n=ent k.m p n:=C.ents p n k1;have q:fI K.1.m p n=some g:=(show fI K.1.m p n=fI k.m p n by unfold fI;rw[C.vis.sk.ar]).trans D;obtain⟨O,N,Z,Y⟩:=UZ (w:=(kT k.m p n).sh&&(kT k.m p n).wr) C.rt C.co (by rw[C.vis.sk.len];exact hp) R (by rw[b];exact k0) hh q ⟨rfl,rfl⟩ (λe=>by rw[ed,g3,g4]at e;exact e);obtain⟨s0,T,c2⟩:=iT (k:=⟨setFr K.1.m K.2.toNat (eH (aB K.1.m K.2.toNat)),K.1.e⟩) (p:=p) (n:=n) (x:=⟨1,K.2,(kT k.m p n).sh&&(kT k.m p n).wr⟩) a2 R hj;have hN:gH K.1 K.2 1=⟨setFr K.1.m K.2.toNat (eH (aB K.1.m K.2.toNat)),K.1.e⟩:=by rw[<-a1,<-hA]
 rw[hN,T];have z:=C.vis.trans Z;have G:=Y p n;rw[if_pos ⟨rfl,rfl⟩]at G;refine⟨he,O,N,z.x _,fu.trans C.len,C.sll,λL=>absurd L hr,λ_ => ?_,λe=>absurd e k1,C.inv.trans (UE C.rt C.co O N (x:=K.2.toNat) d rfl rfl rfl rfl)⟩;have hs:=z.see p n;have hL : eD (setTb (setFr K.1.m K.2.toNat (eH (aB K.1.m K.2.toNat))) p (setT (dI (setFr K.1.m K.2.toNat (eH (aB K.1.m K.2.toNat))) p).tb n ⟨1,K.2,(kT k.m p n).sh&&(kT k.m p n).wr⟩)) p n=eD k.m p n:=hs;have W:ent (setTb (setFr K.1.m K.2.toNat (eH (aB K.1.m K.2.toNat))) p (setT (dI (setFr K.1.m K.2.toNat (eH (aB K.1.m K.2.toNat))) p).tb n ⟨1,K.2,(kT k.m p n).sh&&(kT k.m p n).wr⟩)) p n=⟨1,K.2,(kT k.m p n).sh&&(kT k.m p n).wr⟩:=G;simp only;have hi:(eD k.m p n).2.2=0:=by rw[jH D];unfold vX;rw[if_neg k1,if_neg I,if_neg E,if_neg (sS h.pt.st j)]
 rw[hL,W];exact⟨rfl,rfl,rfl,hi,hi,λ_=>rfl⟩
theorem Less.zr(h:Rt m)(k:Less m m' p n){x:Nat}(C:(aB m x).r=0):(aB m' x).r=0:=by
 rcases gu x m.m.fs.length with o|o
 ·have F:=h.cf x o;have h2:=k.rt.cf x (by rw[k.len];exact o);have E:uf m' x=uf m x:=by unfold uf;rw[k.ca]
  have D:¬0<bR m' 1 x:=λz=>by
   obtain⟨q,j,G,A,u,y⟩:=(nI).1 z;have t:=k.ents q j
   by_cases e:q=p/\j=n
   ·rw[if_pos e]at t;rw[t]at u;exact absurd u (by decide)
   rw[if_neg e]at t;rw[t]at u y;have:=(nI (m:=m) (kd:=1) (i:=x)).2 ⟨q,j,by have:=nu (m:=m) (p:=q) (n:=j) (by omega);exact this.1,A,u,y⟩;omega
  omega
 ·rw[JH (by rw[k.len];exact o)];rfl
theorem Vv{x:Nat}(i:x<m.m.fs.length)(h:(aB m x).r=0):dU m.m.fs≠0:=λe=>GU e i h
structure Yz (m m' : Ma) (p:Nat) (n:Int) (g:Pg) (r:Int):Prop where
 rt:Rt m'
 co:Co m'
 vis:BS (Xu p n) m m'
 len:m'.m.fs.length=m.m.fs.length
 sll:m'.sl.length=m.sl.length
 no:r<0->dU m.m.fs=0
 yes:0<=r->(ent m' p n).k=1/\(ent m' p n).n=r/\(ent m' p n).w=true/\(eD m' p n).1=(eD m p n).1/\(eD m' p n).2.2=0/\(g.sh=true->(eD m' p n).2.1=(eD m p n).2.1)/\(g.sh=false->(eD m' p n).2.1=true)
 inv:Inv m m'
theorem WB{k:Kp}(h:Rt k.m)(G:Co k.m){f:Int}{g:Pg}(F:fI k.m p n=some g)(O:(ent k.m p n).k=1)(Y:(ent k.m p n).n=f)(V:g.wr=true) :
  (xO k p n f (kT k.m p n)).1.e=k.e/\Yz k.m (xO k p n f (kT k.m p n)).1.m p n g (xO k p n f (kT k.m p n)).2:=by
 obtain⟨g1,g2,Q,g4,g5,g6,g7⟩:=Cu F;obtain⟨x,e1,hf,hr,W,q,g0,v,hh⟩:=fU h O;rw[F]at v;cases v;have hd:f=(x:Int):=by omega
 subst hd;have d:jw k.m (x:Int)=aB k.m x:=rfl;have a:=nZ F O;rw[Y,d]at a;unfold xO;simp only;rw[d]
 by_cases A:(kT k.m p n).sh=true\/(aB k.m x).f<0/\(aB k.m x).r=1
 ·rw[if_pos A];obtain⟨a1,a2,a3⟩:=NJ h G O Y F V (A.imp (λe=>by rw[<-Q];exact e) id);have l:eP ⟨1,x,true⟩=0:=(bG _).2 (.inr (.inl ⟨rfl,by show(0:Int)<=x;omega,by have:=((dO _).1 h.pt.fr).1;show(x:Int)<40;omega⟩));obtain⟨T,R,c2⟩:=iT (k:=k) (p:=p) (n:=n) (x:=⟨1,x,true⟩) h.pt q l;rw[R];have j:=nU W T p n;rw[if_pos ⟨rfl,rfl⟩]at j;have hs:eD (setTb k.m p (setT (dI k.m p).tb n ⟨1,x,true⟩)) p n=eD k.m p n:=a3.see p n;refine⟨rfl,a1,a2,a3.x _,rfl,rfl,λI=>absurd (show(x:Int)<0 from I) (by omega),λ_ => ?_,xB h G a1 a2 rfl rfl rfl λc _=>⟨rfl,rfl⟩⟩;simp only;rw[j,hs,a];refine⟨rfl,rfl,rfl,rfl,rfl,λ_=>rfl,λb => ?_⟩;rcases A with A|A
  ·rw[Q,b]at A;cases A
  ·exact decide_eq_true A.1
 rw[if_neg A];have b:g.sh=false:=by
  cases e:g.sh with
  | false=>rfl
  | true=>exact absurd (.inl (by rw[Q,e])) A
 obtain⟨m1,d1,D⟩:=Pz h G p n;rw[d1];have t:bT (bL (aB k.m x).p (-1) 0)=0:=by rw[dN];exact⟨⟨by show(0:Int)<=1;decide,by show(1:Int)<=1000;decide,by show(-1:Int)<=-1;decide,by show(-1:Int)<5;decide,by show(0:Int)<=0;decide,by show(0:Int)<12;decide⟩,λ(e:(1:Int)=0)=>absurd e (by decide),λ_=>rfl⟩
 rcases Dy (k:=⟨m1,k.e⟩) (p:=(aB k.m x).p) (f:=-1) (i:=0) D.rt D.co t with⟨y,E,o,C,L,U,N⟩|⟨E,C,N,h0⟩
 ·rw[N];simp only;rw[if_neg (by omega)];have z:ent m1 p n=zEn:=by rw[D.ents,if_pos ⟨rfl,rfl⟩]
  have hi:ent E p n=zEn:=(C.ents p n (λe=>by have:(ent m1 p n).k=1:=e;rw[z]at this;exact absurd this (by decide))).trans z;have hb:fI E p n=some g:=by
   have:fI E p n=fI k.m p n:=by unfold fI;rw[C.vis.sk.ar,show(dI (Kp.m ⟨m1,k.e⟩) p).ar=(dI k.m p).ar from D.vis.sk.ar p]
   rw[this,F]
  have u:E.sp.length=k.m.sp.length:=C.vis.sk.len.trans D.vis.sk.len;have s:E.m.fs.length=k.m.m.fs.length:=C.len.trans D.len;have l:eP ⟨1,y,true⟩=0:=(bG _).2 (.inr (.inl ⟨rfl,by show(0:Int)<=y;omega,by have:=((dO _).1 h.pt.fr).1;show(y:Int)<40;omega⟩));obtain⟨b1,Z,b3,b4,b5⟩:=EE (P:=(aB k.m x).p) (w:=true) (x:=y) (g:=g) (p:=p) (n:=n) C.rt C.co (by rw[u];exact W) q (by rw[hi];rfl) L (by rw[U];rfl) hb b (λ_=>V);obtain⟨T,R,c2⟩:=iT (k:=⟨setFr E y (bL (aB k.m x).p (-1) 0),k.e⟩) (p:=p) (n:=n) (x:=⟨1,y,true⟩) (C.rt.pt.setFr t) q l;rw[R];have S : eD (setTb (setFr E y (bL (aB k.m x).p (-1) 0)) p (setT (dI (setFr E y (bL (aB k.m x).p (-1) 0)) p).tb n ⟨1,y,true⟩)) p n=((aB k.m x).p,true,0):=b4;have K:=b5 p n;rw[if_pos ⟨rfl,rfl⟩]at K;have J : ent (setTb (setFr E y (bL (aB k.m x).p (-1) 0)) p (setT (dI (setFr E y (bL (aB k.m x).p (-1) 0)) p).tb n ⟨1,y,true⟩)) p n=⟨1,y,true⟩:=K;refine⟨rfl,b1,Z,(D.vis.trans (C.vis.x _)).trans b3,fu.trans s,C.sll.trans D.sll,λI=>absurd (show(y:Int)<0 from I) (by omega),λ_ => ?_,((D.inv h G).trans C.inv).trans (BX C.rt C.co b1 Z (x:=y) (X:=bL (aB k.m x).p (-1) 0) L (by rw[U];rfl) rfl rfl rfl rfl)⟩;simp only;rw[S,J,a];exact⟨rfl,rfl,rfl,rfl,rfl,λe=>(by rw[b]at e;cases e),λ_=>rfl⟩
 rw[N];simp only;rw[if_pos (by decide)];refine⟨rfl,C.rt,C.co,D.vis.trans (C.vis.x _),C.len.trans D.len,C.sll.trans D.sll,λ_ => ?_,λI=>absurd (show(0:Int)<=-1 from I) (by decide),(D.inv h G).trans C.inv⟩
 by_cases e:dU k.m.m.fs=0
 ·exact e
 obtain⟨y,L,ha⟩:=QX e;exact absurd h0 (Vv (m:=m1) (by rw[D.len];exact L) (D.zr h ha))
structure Rz (m m' : Ma) (p:Nat) (n:Int) (w:Bool) (g:Pg) (r:Int):Prop where
 rt:Rt m'
 co:Co m'
 vis:BS (Xu p n) m m'
 len:m'.m.fs.length=m.m.fs.length
 sll:m'.sl.length=m.sl.length
 k1:(ent m' p n).k=1
 en:(ent m' p n).n=r
 ew:w=true->(ent m' p n).w=true
 see:eD m' p n=((eD m p n).1,(eD m' p n).2.1,0)
 was:(eD m p n).2.2=0
 same:w=false\/g.sh=true->0<=g.fi->(eD m' p n).2.1=(eD m p n).2.1
 own:w=true->g.sh=false->(eD m' p n).2.1=true
 inv:(w&&g.sh)=false->Inv m m'
theorem Jo{g:Pg}{w:Bool}(e:fI m p n=some g):pV m p n w=0↔(w=true->g.wr=true)/\(w=false->g.rd=true):=by
 obtain⟨z,y,u,i,h,t,o⟩:=Cu e;unfold pV;rw[if_neg (by omega),i,h];cases w<;>cases g.wr<;>cases g.rd<;>decide
theorem NZ(h:Rt m)(Z:Co m){w:Bool}{g:Pg}(W:p<m.sp.length)(J:fI m p n=some g)(V:w=true->g.wr=true)(Y:0<=g.fi->(ent m p n).k=0->qP m.st g.fi g.pg) :
  (nL m p n w).1.e=0/\(0<=(nL m p n w).2->Rz m (nL m p n w).1.m p n w g (nL m p n w).2)/\((nL m p n w).2<0->dU m.m.fs=0\/dU (gW ⟨m,0⟩ p n (kT m p n)).1.m.m.fs=0):=by
 obtain⟨K,u⟩:=Lc (k:=⟨m,0⟩) h Z W J Y;unfold nL;simp only at K u ⊢;generalize hR:gW ⟨m,0⟩ p n (kT m p n)=R at *
 by_cases t:0<=R.2/\w=true/\(ent R.1.m p n).w=false
 ·rw[if_pos t];obtain⟨C,G,F,L,D,E⟩:=u.yes t.1;have a:fI R.1.m p n=some g:=(show fI R.1.m p n=fI m p n by unfold fI;rw[u.vis.sk.ar]).trans J;have o:kT R.1.m p n=kT m p n:=by unfold kT;rw[u.vis.sk.ar]
  have y:=WB (k:=R.1) u.rt u.co a C G (V t.2.1);rw[o]at y;obtain⟨l,y⟩:=y;refine⟨l.trans K,λA => ?_,λA => .inr (y.no A)⟩;obtain⟨U,T,S,Q,P,O,N⟩:=y.yes A;refine⟨y.rt,y.co,u.vis.trans y.vis,y.len.trans u.len,y.sll.trans u.sll,U,T,λ_=>S,?_,D,λz d => ?_,λ_ z=>N z,λ_=>u.inv.trans y.inv⟩
  ·rw[<-F,<-Q,<-P]
  rcases z with z|z
  ·rw[t.2.1]at z;cases z
  ·rw[O z,E d]
 rw[if_neg t];refine⟨K,λA => ?_,λA => .inl (u.no A)⟩;obtain⟨C,G,F,L,D,E⟩:=u.yes A;have i:w=true->(ent R.1.m p n).w=true:=λb=>by
  cases e:(ent R.1.m p n).w with
  | true=>rfl
  | false=>exact absurd ⟨A,b,e⟩ t
 refine⟨u.rt,u.co,u.vis,u.len,u.sll,C,G,i,?_,D,λ_ d=>E d,λb z => ?_,λ_=>u.inv⟩
 ·rw[<-F,<-L]
 have a:fI R.1.m p n=some g:=(show fI R.1.m p n=fI m p n by unfold fI;rw[u.vis.sk.ar]).trans J;obtain⟨x,e1,s,hr,q,r,g0,j,c⟩:=fU u.rt C;rw[a]at j;cases j;obtain⟨f1,f2,f3,f4,f5⟩:=c;rw[nZ a C,e1];refine decide_eq_true ?_;show(aB R.1.m x).f<0
 by_cases I:0<=(aB R.1.m x).f
 ·have:=f4 (i b) I;rw[z]at this;cases this
 ·omega
theorem Rz.mark{w:Bool}{g:Pg}{r e:Int}(h:Rz m m' p n w g r)(G:fI m p n=some g):Rz m (OH ⟨m',e⟩ r (w&&g.sh)).m p n w g r:=by
 have l:fI m' p n=some g:=(show fI m' p n=fI m p n by unfold fI;rw[h.vis.sk.ar]).trans G;obtain⟨x,I,a,D,q,s,S,d,b⟩:=fU h.rt h.k1;rw[l]at d;cases d;have j:r=(x:Int):=by rw[<-h.en,I]
 subst j;obtain⟨C,A,F⟩:=OB h.rt h.co a D;have E:∀t:Ma,Rt t->Co t->FY m' t->t.m.fs.length=m'.m.fs.length->t.sl.length=m'.sl.length->ent t p n=ent m' p n->((w&&g.sh)=false->Inv m' t)->Rz m t p n w g x:=λt O N y L K z J=>
  ⟨O,N,h.vis.trans (y.x _),L.trans h.len,K.trans h.sll,by rw[z];exact h.k1,by rw[z];exact h.en,by rw[z];exact h.ew,by rw[y.see];exact h.see,h.was,by rw[y.see];exact h.same,by rw[y.see];exact h.own,λe=>(h.inv e).trans (J e)⟩
 unfold OH;simp only[bv]
 by_cases u:(w&&g.sh)=true
 ·rw[if_pos u];rw[ed]at u;have o:0<=(aB m' x).f:=b.2.1 u.2;have i:aB (setFr m' x (lC (aB m' x))) x=lC (aB m' x):=by rw[gB a,if_pos rfl]
  obtain⟨R,Q,P⟩:=SL C A (g:=x) (by rw[fu];exact a) (by rw[i];exact D) (by rw[i];exact o);exact E _ R Q (F.trans P) (fu.trans fu) rfl rfl (λe=>by rw[u.1,u.2]at e;cases e)
 rw[if_neg u];exact E _ C A F fu rfl rfl (λ_=>xB h.rt h.co C A rfl rfl rfl λc _=>by
  rw[gB a]
  by_cases e:c.k.toNat=x
  ·rw[if_pos e,e];exact⟨rfl,rfl⟩
  ·rw[if_neg e];exact⟨rfl,rfl⟩)
theorem Rv : (Tryz.prog.info? 105).map (·.size)=some 9:=by kernel_rfl
def Gs(f:Int->Bool)(q:Int × Page):Bool:=!(f q.1)
theorem Nn(q:Int × Page)(g i n:Nat)(f:Int->Bool)(w:World)(o:aG w g #[.map (some i)] 222)(t:pF w i n f)(hq : -9223372036854775808<=q.1/\q.1<=9223372036854775807) :
  Calls Tryz.prog 168 #[.agg (Ie q),.pointer (some ⟨g,0,none⟩)] w λr w'=>r = .returned (.bool (Gs f q))/\Below w.heap.size w w':=by
 go_enter func168,ntmps168;go_upto_region 1 with(fail);refine iC (λW=>Code.wp _ _ _ _ W) λW0 a b c => ?_;clear c;have e:=(o.ext a).cell 0;have h:=b.cell;have d:=(t.below a).look q.1 hq;have u:(Ie q)[0]?=some (.int .i64 q.1):=rfl;go_wp2;go_ret;exact⟨rfl,a⟩
theorem RH{l:List (Int × Page)}(h:eu w a (l.flatMap zQ))(k:Nat)(i:k<l.length):∃b e,a=some ⟨b,e,none⟩/\eu w (some ⟨b,e+k*9,none⟩) (zQ l[k]):=jO wD h k i
theorem Nj(l:List (Int × Page))(a:Option Addr)(c:Nat)(w:World)(y:eu w a (l.flatMap zQ))(G:l.length<=9223372036854775807)(g A n:Nat)(f:Int->Bool)(D:aG w g #[.map (some A)] 222)(E:pF w A n f)(C:∀q∈l,-9223372036854775808<=q.1/\q.1<=9223372036854775807) :
  Calls Tryz.prog 198 #[.slice a l.length c,.func (.func 168) #[] #[.pointer (some ⟨g,0,none⟩)]] w λe w'=>e = .returned (.int .i64 (idx (Gs f) l))/\Below w.heap.size w w':=by
 go_enter func198,ntmps198;go_wp2
 go_loopw [8] (fun i wr => ∃k:Nat,k<=l.length/\i = .int .i64 k/\Below w.heap.size w wr/\∀i (h:i<l.length),i<k->(Gs f) l[i]=false) (fun i _=>l.length-(intOf i).toNat)
 case atStart=>exact⟨0,bq _,rfl,Below.refl _ _,λi _ h=>absurd h (fA _)⟩
 case round=>
  obtain⟨k,I,rfl,j,p⟩:=hrel;have z:=ae p;clear p
  by_cases t:k<l.length
  ·obtain⟨b,u,rfl,s⟩:=RH (y.below j) k t
   go_wp2_with (refine ay b (u+k*9) _ s _ underlying105 rfl Rv ?_)
   refine(Nn l[k] g A n f _ (D.ext j) (E.below j) (C _ (fe t))).mono ?_;rintro e F ⟨rfl,r⟩;have m:=ag j r;clear r;cases hpk:(Gs f) l[k]
   ·have o:=ae hpk;clear hpk;go_wp2;go_roundw
    case rel=>exact⟨k+1,by omega,by go_num,m,mJ z.out t o.out⟩
    case measure=>simp[intOf];omega
   have d:=ae (uR (Gs f) l k t z.out hpk);clear hpk;go_wp2;go_ret;exact⟨aY d.out.symm,m⟩
  have d:=ae (mo (Gs f) l λi h=>z.out i h (by omega));go_wp2;go_ret;exact⟨aY d.out.symm,j⟩
theorem Ni(l:List (Int × Page))(a:Option Addr)(c:Nat)(w:World)(h:eu w a (l.flatMap zQ))(t:l.length<=9223372036854775807)(g i n:Nat)(f:Int->Bool)(u:aG w g #[.map (some i)] 222)(y:pF w i n f)(o:∀q∈l,-9223372036854775808<=q.1/\q.1<=9223372036854775807) :
  Calls Tryz.prog 167 #[.slice a l.length c,.func (.func 168) #[] #[.pointer (some ⟨g,0,none⟩)]] w λe w'=>e = .returned (.bool (l.any (Gs f)))/\Below w.heap.size w w':=by
 go_enter func167,ntmps167
 go_wp2_with fail
 refine(Nj l a c _ h t g i n f u y o).mono ?_;rintro e z ⟨rfl,b⟩;go_wp2;go_ret;exact⟨bY (pM _ _),b⟩
theorem RI(e:k<m.dk.blocks.length)(h:(decide ((k:Int)∈lT m.st)||decide (m.dk.blocks.getD k zPg=zPg))=false):trimB m=false:=by
 unfold trimB;rw[IY];refine .inl (List.all_eq_false.2 ⟨k,eO.2 e,?_⟩);rw[h];decide
theorem Tm(h:∀j:Nat,j<m.dk.blocks.length->(decide ((j:Int)∈lT m.st)||decide (m.dk.blocks.getD j zPg=zPg))=true):trimB m = !(m.dk.queue.any (Gs (tX (lT m.st)))):=by
 unfold trimB;rw[fD.2 (λj e=>h j (eO.1 e)),lV,List.any_eq_not_all_not,Bool.not_not];congr 1;funext q;simp[Gs,tX]
theorem LV(H:MH)(b:Nat)(w:World)(hb:aG w b (dF H) 45)(h:wI w H)(U:aT (cZ H.fi H.ct)=0)(L:bX H.dk=0) :
  Calls Tryz.prog 128 #[.pointer (some ⟨b,0,none⟩)] w λr w'=>r = .returned (.bool (trimB H.ma))/\Below w.heap.size w w':=by
 have kb:=@run_makeMap Tryz.prog;have kq:H.fi.length<=5:=by simpa[cZ]using(lu U).1
 have kd:Hid (∀p∈H.fi,p.l.length<=12/\∀x∈p.l,-1<=x/\x<80):=ae (λp F=>by obtain⟨h1,h2,h3,h4⟩:=wB U p.fi (iA.2 ⟨p,F,rfl⟩);have h5:=yM (n:=p.fi.n) h2;have h6:=(lu U).2.2;refine⟨by have h7:(p.l.length:Int)=eY p.fi.n:=h3;omega,λx C=>⟨(h4 x C).1,by have:=(h4 x C).2;omega⟩⟩);obtain⟨kk,h9⟩:=Io L;have h8:Hid (∀q∈H.dk.queue,-9223372036854775808<=q.1/\q.1<=9223372036854775807):=ae (λq I=>by obtain⟨i,hi,rfl⟩:=jJ.1 I;have:=Hq L i hi;omega);have H0:=ae U;have HD:=ae L;clear U L;have O:=ae (Bl H.fi H.ct);go_enter func128,ntmps128;go_upto_region 2 with(fail);refine iC (λW=>Code.wp _ _ _ _ W) λw2 hF hC hw => ?_;have v:Below w.heap.size w w2:=ag ((Below.refl _ _).alloc (az _) _) hF;have hG:pF w2 w.heap.size 0 (tX (((H.fi.take 0).map PF.fi).flatMap Fi.b)):=(pF.made w).below hF;have hg : aG w2 (w.heap.size+1) #[.map (some w.heap.size)] 222:=by have e:(w.alloc (Obj.map #[] 0)).heap.size=w.heap.size+1:=Dh _;rw[e]at hC;exact hC
 obtain⟨D,hH⟩:∃g,g=w.heap.size:=⟨_,rfl⟩;have hR:Hid (w.heap.size<=D):=ae (by omega);rw[<-hH]at hG hg ⊢;rw[<-hH]at hR;have kp:w.heap.size<=D:=by omega
 clear hF hC hw kb hH hR;have hB:=hb.ext v;have u:=hB.cell;unfold dF at u;have H5:(H.fi.length:Int)<=5:=by omega
 go_upto_region 3 with(fail);clear u hB
 go_loopw [17] (fun i wr => ∃(q n:Nat),q<=H.fi.length/\i = .int .i64 q/\n<=12*q/\Below w.heap.size w wr/\aG wr (D+1) #[.map (some D)] 222/\pF wr D n (tX (((H.fi.take q).map PF.fi).flatMap Fi.b))) (fun i _=>H.fi.length-(intOf i).toNat)
 case atStart=>exact⟨0,0,bq _,rfl,az _,v,hg,hG⟩
 case round=>
  clear v hg hG;obtain⟨q,n,I,rfl,hn,c,C,A⟩:=hrel
  by_cases R:q<H.fi.length
  ·obtain⟨bf,of,ki,t⟩:=jO kE (h.below c).st.rd q R;obtain⟨p,F⟩:∃p,H.fi[q]?=some p:=⟨_,aI R⟩;rw[show H.fi[q]=p from(bZ.1 F).2]at t;have hr:=(h.below c).st.good p (bP F);obtain⟨kj,hN⟩:=kd.out p (bP F);have hY:=ae (take_at F);have hZ:(q:Int)<(H.fi.length:Int):=by omega
   generalize hseen:((H.fi.take q).map PF.fi).flatMap Fi.b=seen at A;have hv:=ae hseen;have hL:=ae hN;clear hseen F hN;rw[ki]
   go_wp2_with (first | (refine ay bf (of+q*2) _ t _ underlying101 rfl file_size ?_) | (refine aJ rfl rfl (qI p) rfl rfl rfl file_size (rY p) ?_))
   intro w3 f V;have o:=ag c f;have N:=C.ext f;have K:=A.below f;have Z:=hr.below f;have kn:=ae c.size;have kl:=ae C.lt;clear c C A f t hr;have hT:=V.cell;unfold qI at hT;have hV:pF w3 D n (tX (seen++p.l.take 0)):=by simpa using K
   have ko:=Z.le;have ka:=Z.mx;have s:=Z.rd;unfold maxLen at ka;clear K Z;go_upto_region 6 with(fail);clear hT V
   go_loopw [24] (fun i wr => ∃(j m:Nat),j<=p.l.length/\i = .int .i64 j/\m<=n+j/\Below w.heap.size w wr/\aG wr (D+1) #[.map (some D)] 222/\pF wr D m (tX (seen++p.l.take j))/\eu wr p.a (p.l.map gF)) (fun i _=>p.l.length-(intOf i).toNat)
   case atStart=>exact⟨0,n,bq _,rfl,az _,o,N,hV,s⟩
   case round=>
    clear o N hV s;obtain⟨j,m,J,rfl,hm,c,C,A,s⟩:=hrel
    by_cases S:j<p.l.length
    ·obtain⟨x,hX⟩:∃x,p.l[j]?=some x:=⟨p.l[j],aI S⟩;obtain⟨b2,off2,hD,hc⟩:=kC s j S;rw[show p.l[j]=x from(bZ.1 hX).2]at hc;have hI:=ae (take_at hX);have km:=hL.out x (bP hX);have hA:=ae s;have hO:=ae hD;have hQ : (j:Int)<(p.l.length:Int):=by omega
     have hS:=C.cell;rw[hD];clear hX s hD;generalize hw:seen++p.l.take j=seen2 at A;have hJ : Hid (seen++p.l.take (j+1)=seen2++[x]):=ae (by rw[hI.out,<-jR,hw]);clear hw
     go_wp2_with (refine xE A (by omega) rfl _ _ _ rfl rfl x rfl rfl (by omega) ?_)
     intro w6 hU z;rw[Ff,<-hJ.out] at hU;have kg:=c.grown z c.size oG0;have hW:=C.grown z (λe=>by have:=aM e;omega);have hK:=A.rdv hA.out z;clear c C A z hS hc hA;go_wp2;go_roundw
     case rel=>exact⟨j+1,m+1,by omega,by go_num,by omega,kg,hW,hU,by rw[<-hO.out];exact hK⟩
     case measure=>simp[intOf];omega
    have hQ : ¬(j:Int)<(p.l.length:Int):=by omega
    rw[jD (by omega)]at A;have Y : pF wr D m (tX (((H.fi.take (q+1)).map PF.fi).flatMap Fi.b)):=by rw[hY.out,jM,fM,hv.out];simpa[PF.fi]using A
    clear A s;go_wp2;go_roundw
    case rel=>exact⟨q+1,m,by omega,by go_num,by omega,c,C,Y⟩
    case measure=>simp[intOf];omega
  have hZ:¬(q:Int)<(H.fi.length:Int):=by omega
  rw[jD (by omega)]at A;have Y : pF wr D n (tX (lT H.ma.st)):=A;clear A;have O:=hb.ext c;have u:=O.cell;unfold dF at u;go_upto_region 12 with(fail);clear u O
  go_loopw [38] (fun i wr => ∃(k:Nat),k<=H.dk.blocks.length/\i = .int .i64 k/\Below w.heap.size w wr/\aG wr (D+1) #[.map (some D)] 222/\pF wr D n (tX (lT H.ma.st))/\Hid (∀j:Nat,j<k->(decide ((j:Int)∈lT H.ma.st)||decide (H.dk.blocks.getD j zPg=zPg))=true)) (fun i _=>H.dk.blocks.length-(intOf i).toNat)
  case atStart=>exact⟨0,bq _,rfl,c,C,Y,ae λj J=>absurd J (fA _)⟩
  case round=>
   clear c C Y;obtain⟨k,hk,rfl,c,C,A,d⟩:=hrel
   by_cases G:k<H.dk.blocks.length
   ·obtain⟨bd,od,ke,t⟩:=jO nQ (h.below c).dk.rb k G;have kc:(k:Int)<(H.dk.blocks.length:Int):=by omega
    have Q:Hid (H.dk.blocks.getD k zPg=H.dk.blocks[k]):=ae (by rw[aW,aI G];rfl);generalize hP:H.dk.blocks[k]=P at t Q;clear hP;rw[ke]
    go_wp2_with (first | (refine ay bd (od+k*8) _ t _ underlying58 rfl psize ?_) | (refine aJ rfl rfl (dW P) rfl rfl rfl psize (eF _) ?_))
    intro w3 f px3;have o:=ag c f;have N:=C.ext f;have K:=A.below f;clear c C A f t;have hS:=N.cell;have hl:=K.look k (by omega);have kf:=px3.cell;rw[Ai]at kf;cases hu:tX (lT H.ma.st) (k:Int)with
    | true=>
     rw[hu]at hl;have y:Hid (∀j:Nat,j<k+1->(decide ((j:Int)∈lT H.ma.st)||decide (H.dk.blocks.getD j zPg=zPg))=true):=ae λj J=>by
      by_cases e:j=k
      ·subst e;rw[show decide ((j:Int)∈lT H.ma.st)=true from hu];rfl
      ·exact d.out j (by omega)
     clear hu d;go_wp2;go_roundw
     case rel=>exact⟨k+1,by omega,by go_num,o,N,K,y⟩
     case measure=>simp[intOf];omega
    | false=>
     rw[hu]at hl;have hE:∀W,(Op.equalIn 10000 58 (.agg #[.int .u8 P[0].toNat,.int .u8 P[1].toNat,.int .u8 P[2].toNat,.int .u8 P[3].toNat,.int .u8 P[4].toNat,.int .u8 P[5].toNat,.int .u8 P[6].toNat,.int .u8 P[7].toNat]) (.agg #[.int .u8 0,.int .u8 0,.int .u8 0,.int .u8 0,.int .u8 0,.int .u8 0,.int .u8 0,.int .u8 0])).run Tryz.prog W = .ok (P==zPg) W:=λW=>XA P zPg W
     by_cases E:P=zPg
     ·have y:Hid (∀j:Nat,j<k+1->(decide ((j:Int)∈lT H.ma.st)||decide (H.dk.blocks.getD j zPg=zPg))=true):=ae λj J=>by
       by_cases e:j=k
       ·subst e;rw[Q.out,decide_eq_true E,Jk]
       ·exact d.out j (by omega)
      have T:(P==zPg)=true:=by rw[E];exact beq_self_eq_true _
      rw[T] at hE;clear hu d T E Q;go_wp2;go_roundw
      case rel=>exact⟨k+1,by omega,by go_num,o,N,K,y⟩
      case measure=>simp[intOf];omega
     have T:(P==zPg)=false:=by rw[beq_eq_false_iff_ne];exact E
     have I:Hid (trimB H.ma=false):=ae (RI (k:=k) G (by show(decide ((k:Int)∈lT H.ma.st)||decide (H.dk.blocks.getD k zPg=zPg))=false;rw[Q.out,decide_eq_false E,show decide ((k:Int)∈lT H.ma.st)=false from hu];rfl));rw[T]at hE;clear hu d T E Q;go_wp2;go_ret;rw[I.out];exact⟨rfl,o⟩
   have kc:¬(k:Int)<(H.dk.blocks.length:Int):=by omega
   have I:Hid (trimB H.ma = !(H.dk.queue.any (Gs (tX (lT H.ma.st))))):=ae (Tm λj J=>d.out j (by have:j<H.dk.blocks.length:=J;omega));have O:=hb.ext c;have u:=O.cell;unfold dF at u;have L:=(h.below c).dk;clear d
   go_wp2_with fail
   refine(Ni H.dk.queue H.dq H.cdq _ L.rq (by omega) (D+1) D n (tX (lT H.ma.st)) C A h8.out).mono ?_;rintro r w4 ⟨rfl,kh⟩;go_wp2;go_ret;rw[I.out];exact⟨rfl,ag c kh⟩
end Go.Proofs.YthihaopabbpalaaGreat