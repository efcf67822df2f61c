import Derived.Test.YthihaopabbpalaaGreatF3
import Derived.BigRegion
import Derived.Deep.LoopGhost
set_option linter.unusedSimpArgs false
set_option linter.unusedVariables false
set_option linter.unnecessarySimpa false
set_option maxHeartbeats 4000000
set_option maxRecDepth 100000
namespace Go.Proofs.YthihaopabbpalaaGreat
open _root_.Go.Proofs.Tryz
open Go.RowKit Go.Maps Pw
variable {B b c f g j k p q s:Nat} {H H' H0:MH} {M m m' m1:Ma} {X:Fr} {a:Option Addr} {cs:Array Value} {d:vQ} {kd n:Int} {ps:List PF} {v:Value} {w w' w0 w1:World}
theorem yE(n:Int):dK zTb n=zEn:=by
 by_cases h:0<=n/\n<64
 .obtain⟨q,r,i,e,rfl,_,_⟩:=yc h;exact Ce i e (by simp[zTb])
 .exact sZ (by omega)
theorem wh(h:m'.m=m.m)(g:Nat):aD m' g=aD m g:=by unfold aD;rw[h]
theorem mo(h:(ent m p n).k≠0):p<m.sp.length/\0<=n/\n<64:=by
 refine⟨?_,?_⟩
 .rcases gu p m.sp.length with e|e
  .exact e
  refine absurd ?_ h;unfold ent;rw[qA e,show zSp.tb=zTb from rfl,yE];rfl
 by_cases i:n<0\/64<=n
 .exact absurd (by rw[OM p i];rfl) h
 .omega
theorem KX(k:Kp)(u:Nat × Int)(e:(ent k.m u.1 u.2).k=1)(h2:(ent k.m u.1 u.2).n=f):jT k u.1 u.2=VF f zEn k u:=by
 unfold jT VF;have b : (dK (dD k.m u.1).tb u.2).k=1:=e;have a : (dK (dD k.m u.1).tb u.2).n=f:=h2;simp only[b,a,if_true]
theorem Rp{k:Kp}(h:Rt k.m)(y:Co k.m)(t:f<k.m.m.fs.length)(z:0<=(aD k.m f).f)(u:lT k.m f=true):∃m1,lD k f=⟨m1,k.e⟩/\Cleaned k.m m1 f:=by
 rw[Kz h t]
 by_cases o:(aD k.m f).d=false
 .rw[if_pos (.inr (.inl o))];refine⟨k.m,rfl,h,y,.refl _,rfl,rfl,rfl,rfl,?_⟩;have:({ aD k.m f with d:=false }:Fr)=aD k.m f:=by rw[<-o]
  rw[this,EB t]
 have a:dJ k.m.st (aD k.m f).f (aD k.m f).i=0:=by
  unfold lT at u;simp only[qy,decide_eq_true_eq,uy]at u;rcases u with(h1|h1)|h1
  .omega
  .exact absurd h1 o
  .exact h1
 rw[if_neg]
 .exact⟨_,rfl,HZ h y t z a⟩
 rintro(h1|h1|h1)
 .omega
 .exact o h1
 .exact h1 a
structure vZ (m m' : Ma) (f:Nat):Prop where
 rt:Rt m'
 co:Co m'
 vis:FU m m'
 len:m'.m.fs.length=m.m.fs.length
 hand:m'.m.hand=m.m.hand
 free:aD m' f=frZ
 oth:∀g,g≠f->aD m' g=aD m g
 sll:m'.sl.length=m.sl.length
 ents:∀p n,¬((ent m p n).k=1/\(ent m p n).n=f)->ent m' p n=ent m p n
 cas:∀c,c∈m'.ca↔c∈m.ca/\c.k≠f
 std:(m'.st=m.st/\m'.dk=m.dk)\/(0<=(aD m f).f/\(aD m f).d=true/\dJ m.st (aD m f).f (aD m f).i=0/\m'.st=(iR m f).st/\m'.dk=(iR m f).dk)
theorem PO{l:List Cc}(t:l.Pairwise CK){c:Cc}(u:l[j]?=some c)(d:Cc):d∈l.eraseIdx j↔d∈l/\¬(d.f=c.f/\d.i=c.i):=by
 have b:=(cz.1 u).1;have a:=(cz.1 u).2;rw[List.mem_eraseIdx_iff_getElem];constructor
 .rintro⟨i,o,h,rfl⟩;refine⟨eu _,λe => ?_⟩;have:=srt_eq t (eu o) (bS u) e.1 e.2;rcases wC h with y|y
  .have h2:=Af.1 t i j o b y;rw[a,this]at h2;exact Jj _ h2
  have h2:=Af.1 t j i b o y;rw[a,this]at h2;exact Jj _ h2
 rintro⟨z,h⟩;obtain⟨i,o,rfl⟩:=jM.1 z;exact⟨i,o,λe=>h (by subst e;rw[a];exact⟨rfl,rfl⟩),rfl⟩
theorem Av{α:Type}(q:α->Bool):∀(l:List α) (j:Nat) (h:j<l.length),(l.eraseIdx j).countP q+sD (q l[j])=l.countP q
 | a::l,0,_=>by simp only[List.eraseIdx_cons_zero,El,qE,sD]
 | a::l,j+1,h=>by have:=Av q l j (by simpa using h);simp only[List.eraseIdx_cons_succ,Dh,qE];omega
structure Yu (m M:Ma) (j:Nat) (d:Cc):Prop where
 rt:Rt M
 co:Co M
 sk:iF m M
 len:M.m.fs.length=m.m.fs.length
 hand:M.m.hand=m.m.hand
 sl:M.sl=m.sl
 sw:M.sw=m.sw
 dk:M.dk=m.dk
 st:M.st=m.st
 ca:M.ca=m.ca.eraseIdx j
 fr:∀g,aD M g=if g=d.k.toNat then frZ else aD m g
 cas:∀e,e∈M.ca↔e∈m.ca/\¬(e.f=d.f/\e.i=d.i)
 cak:∀e,e∈M.ca->e∈m.ca/\e.k.toNat≠d.k.toNat
 ents:∀p n,ent M p n=if(ent m p n).k=1/\(ent m p n).n=d.k then zEn else ent m p n
theorem WZ{k:Kp}(h:Rt k.m)(hc:Co k.m){d:Cc}(P:k.m.ca[j]?=some d):∃M,Eg k j=⟨M,k.e⟩/\Yu k.m M j d:=by
 have Q:=bS P;have hR:=h.ca.lt d Q;obtain⟨f,E⟩:∃f:Nat,d.k=f:=⟨d.k.toNat,by omega⟩;have O:f<k.m.m.fs.length:=by omega
 have hP:=h.ca.fr d Q;rw[E,bu]at hP;have hq:tY k.m f=1:=by rw[<-E];exact h.ca.one Q
 have hr:=h.cf f O;rw[hq,<-vE]at hr;have hv:=Ej (f:=f) (e':=zEn) (by decide) (λk u=>jT k u.1 u.2) KX (bC k.m f) k h.pt (EJ k.m f) O (by omega);obtain⟨r1,C,G,Z,F,Y,W⟩:=hv;have hG:(bC k.m f).foldl (λk u=>jT k u.1 u.2) k=lN k (bC k.m f):=rfl;rw[hG]at r1 C G Z F Y W;generalize hk2:lN k (bC k.m f)=k2 at r1 C G Z F Y W;have hy:ik (aD k.m f) (-((bC k.m f).length:Int)) = { aD k.m f with r:=1 }:=by unfold ik;rw[if_neg (by omega)];congr 1;omega
 simp only[hy]at F;have hQ:BZ k.m j=d:=by unfold BZ;rw[aY,P];rfl
 have hO:Eg k j=gF ⟨{ k2.m with ca:=k2.m.ca.eraseIdx j },k2.e⟩ f (-1):=by unfold Eg;simp only[hQ,E,hk2]
 have hE:f<k2.m.m.fs.length:=by rw[F,fo];exact O
 have U:aD k2.m f = { aD k.m f with r:=1 }:=by have:aD k2.m f=aD (setFr k.m f { aD k.m f with r:=1 }) f:=wh F f;rw[this,iB O,if_pos rfl]
 have hw:∀g,g≠f->aD k2.m g=aD k.m g:=by intro g N;have:aD k2.m g=aD (setFr k.m f { aD k.m f with r:=1 }) g:=wh F g;rw[this,iB O,if_neg N]
 have hC:Pt { k2.m with ca:=k2.m.ca.eraseIdx j }:={ fr:=C.fr,sl:=C.sl,sw:=C.sw,dk:=C.dk,st:=C.st,swl:=C.swl,dkl:=C.dkl,spl:=C.spl,ar:=C.ar,tb:=C.tb };obtain⟨e3,p3⟩:=Bj (k:=⟨{ k2.m with ca:=k2.m.ca.eraseIdx j },k2.e⟩) (f:=f) (n:=-1) hC hE (by show(aD k2.m f).r≠0;rw[U];show(1:Int)≠0;decide) (by show -(aD k2.m f).r<=-1;rw[U];show -(1:Int)<=-1;decide) (by show -1<=1000-(aD k2.m f).r;rw[U];show -1<=(1000:Int)-1;decide);have hz:ik (aD { k2.m with ca:=k2.m.ca.eraseIdx j } f) (-1)=frZ:=by show ik (aD k2.m f) (-1)=frZ;rw[U];rfl
 rw[hz]at e3 p3;refine⟨_,hO.trans (e3.trans (by rw[r1])),?_⟩;generalize hM:setFr { k2.m with ca:=k2.m.ca.eraseIdx j } f frZ=M at p3 ⊢;have y:∀g,aD M g=if g=f then frZ else aD k.m g:=by
  intro g;rw[<-hM,iB (m:={ k2.m with ca:=k2.m.ca.eraseIdx j }) hE]
  by_cases e:g=f
  .rw[if_pos e,if_pos e]
  .rw[if_neg e,if_neg e,<-hw g e];rfl
 have b:M.m.fs.length=k.m.m.fs.length:=by rw[<-hM,fo];show k2.m.m.fs.length=_;rw[F,fo]
 have v:M.sl=k.m.sl:=by rw[<-hM];exact G.sl
 have hI:M.sw=k.m.sw:=by rw[<-hM];exact G.sw
 have w:M.dk=k.m.dk:=by rw[<-hM];exact G.dk
 have o:M.st=k.m.st:=by rw[<-hM];exact G.st
 have x:M.ca=k.m.ca.eraseIdx j:=by rw[<-hM];show k2.m.ca.eraseIdx j=_;rw[G.ca]
 have hL:=(cz.1 P).1;have T:iF k.m M:=by rw[<-hM];exact Z.trans (iF.of rfl)
 have hx:∀p n,(p,n)∈bC k.m f↔(ent k.m p n).k=1/\(ent k.m p n).n=f:=by
  intro p n;rw[vF];constructor
  .rintro⟨_,_,J⟩;exact J
  intro J;have h4:=mo (m:=k.m) (p:=p) (n:=n) (by rw[J.1];decide);exact⟨h4.1,h4.2,J⟩
 have q:∀p n,ent M p n=if(ent k.m p n).k=1/\(ent k.m p n).n=f then zEn else ent k.m p n:=λp n=>by
  have:ent M p n=if(p,n)∈bC k.m f then zEn else ent k.m p n:=by rw[<-hM];exact Y p n
  rw[this];simp only[hx]
 have t:∀kd i,bO M kd i+(if kd=1/\i=f then(bC k.m f).length else 0)=bO k.m kd i+(if kd=zEn.k/\i=zEn.n then(bC k.m f).length else 0):=λkd i=>by rw[<-hM];exact W kd i
 have hh:∀e,e∈M.ca↔e∈k.m.ca/\¬(e.f=d.f/\e.i=d.i):=λe=>by rw[x];exact PO h.ca.srt P e
 have a:∀e,e∈M.ca->e∈k.m.ca/\e.k.toNat≠f:=λe D=>by have A:=(hh e).1 D;refine⟨A.1,λh2=>A.2 ?_⟩;have J:=h.ca.uniq A.1 Q (by have:=h.ca.lt e A.1;omega);rw[J];exact⟨rfl,rfl⟩
 have l:∀g,g≠f->aD M g=aD k.m g:=λg N=>by rw[y,if_neg N]
 have hB:uK M:=⟨λe D=>by rw[o];exact h.ca.file e (a e D).1,λe D=>by rw[b];exact h.ca.lt e (a e D).1,
  λe D=>by rw[l _ (a e D).2];exact h.ca.fr e (a e D).1,by rw[x];exact h.ca.srt.sublist (List.eraseIdx_sublist _ _)⟩
 have hA:∀g i,dz M g i=dz k.m g i:=λg i=>by unfold dz;rw[o,w]
 refine⟨⟨p3,⟨?_,?_⟩,λp hp => ?_,hB,λp n z => ?_,λi L => ?_,λi L R => ?_,λs hs => ?_⟩,⟨λe D => ?_,λe D hF => ?_,λi L S => ?_⟩,T,b,?_,v,hI,w,o,x,by rw[E,bu];exact y,hh,by rw[E,bu];exact a,by rw[E];exact q⟩
 .rw[w,o];exact h.trim.1
 .rw[w,o];exact h.trim.2
 .rw[T.lv]at hp;have A:=h.live p hp;rw[T.ar];refine⟨A.1,λn => ?_⟩;rw[q]
  by_cases I:(ent k.m p n).k=1/\(ent k.m p n).n=f
  .rw[if_pos I];rfl
  .rw[if_neg I];exact A.2 n
 .rw[q]at z ⊢
  by_cases I:(ent k.m p n).k=1/\(ent k.m p n).n=f
  .rw[if_pos I]at z; exact absurd rfl z
  rw[if_neg I]at z ⊢;obtain⟨g,N,ha⟩:=h.en p n z;refine⟨g,by unfold eT;rw[T.ar];exact N,by rw[v];exact ha.sw,by rw[b];exact ha.lt,λhD => ?_⟩;have hK:(ent k.m p n).n.toNat≠f:=by intro e;have h5:=((bD _).1 (mE h.pt p n));exact I ⟨hD,by omega⟩
  rw[y,if_neg hK];exact ha.fr hD
 .have K:=t 1 i;have hJ:¬((1:Int)=zEn.k/\(i:Int)=zEn.n):=λe=>by cases e.1
  rw[if_neg hJ]at K;have a2:=Av (λc=>decide (c.k=(i:Int))) k.m.ca j hL;have hN:=(cz.1 P).2;rw[hN]at a2;have V:tY M i=(k.m.ca.eraseIdx j).countP (λc=>decide (c.k=(i:Int))):=by unfold tY;rw[x]
  by_cases e:i=f
  .subst e;rw[if_pos ⟨rfl,rfl⟩]at K;have a4:sD (decide (d.k=(i:Int)))=1:=by rw[E];simp[sD]
   have a5:k.m.ca.countP (λc=>decide (c.k=(i:Int)))=1:=hq;rw[vE]at K;rw[y,if_pos rfl,V];show(0:Int)=_;omega
  rw[if_neg (λh'=>e (by have:=h'.2;omega))]at K;have a4:sD (decide (d.k=(i:Int)))=0:=by unfold sD;rw[if_neg];simp only[decide_eq_true_eq,E];omega
  have a5:=h.cf i (by rw[<-b];exact L);have a6:tY k.m i=k.m.ca.countP (λc=>decide (c.k=(i:Int))):=rfl;rw[l i e,V];omega
 .by_cases e:i=f
  .subst e;rw[y,if_pos rfl]at R;exact absurd R (by decide)
  rw[l i e]at R;obtain⟨c',hH,ht⟩:=h.fc i (by rw[<-b];exact L) R;refine⟨c',(hh c').2 ⟨hH,λh2 => ?_⟩,ht⟩;have:=srt_eq h.ca.srt hH Q h2.1 h2.2;rw[this,E]at ht;omega
 .have K:=t 2 s;rw[if_neg (λe=>by cases e.1),if_neg (λe=>by cases e.1)]at K;have a2:=h.cs s (by rw[<-v];exact hs);have V:jS M s=jS k.m s:=by unfold jS;rw[v]
  rw[V,a2];omega
 .have A:=a e D;rw[l _ A.2,o];exact hc.tail e A.1
 .have A:=a e D;rw[l _ A.2]at hF ⊢;rw[hA];exact hc.clean e A.1 hF
 .by_cases e:i=f
  .rw[y,if_pos e]at S;cases S
  rw[l i e]at S ⊢;exact hc.anon i (by rw[<-b];exact L) S
 rw[<-hM];show k2.m.m.hand=_;rw[F];rfl
theorem Yu.con{d:Cc}(h:Rt m)(U:Yu m M j d){g i:Int}(z:¬(g=d.f/\i=d.i)):aW M g i=aW m g i:=by
 rcases qd m g i with⟨e,A,t,y,u⟩|⟨A,o⟩
 .subst y;subst u;have a:=(U.cas e).2 ⟨t,z⟩;rw[ic h.ca t,ic U.rt.ca a,U.fr,if_neg (U.cak e a).2]
 rw[gL o,gL (λe' b=>o e' ((U.cas e').1 b).1)];unfold dz;rw[U.st,U.dk]
theorem Mo{k:Kp}(h:Rt k.m)(hc:Co k.m)(J:f<k.m.m.fs.length)(K:0<=(aD k.m f).f)(S:lT k.m f=true) :
  (gG k f).e=k.e/\vZ k.m (gG k f).m f:=by
 obtain⟨m1,Q,A⟩:=Rp h hc J K S;have hq:bC k.m f=bC m1 f:=by unfold bC dD;rw[A.sp]
 have q:aD m1 f = { aD k.m f with d:=false }:=by have:aD m1 f=aD (setFr k.m f { aD k.m f with d:=false }) f:=wh A.fs f;rw[this,iB J,if_pos rfl]
 have w:∀g,g≠f->aD m1 g=aD k.m g:=by intro g I;have:aD m1 g=aD (setFr k.m f { aD k.m f with d:=false }) g:=wh A.fs g;rw[this,iB J,if_neg I]
 have R:m1.m.fs.length=k.m.m.fs.length:=by rw[A.fs];exact fo
 have y:f<m1.m.fs.length:=by rw[R];exact J
 obtain⟨c,a,b⟩:=A.rt.fc f y (by rw[q];exact K);have j:=A.rt.ca.fr c a;rw[b,bu]at j;have o : (aD k.m f).f=c.f/\(aD k.m f).i=c.i:=by rw[<-j.2.1,<-j.2.2,q];exact⟨rfl,rfl⟩
 obtain⟨d,L,V,W⟩:=JD ((JK A.rt.ca.srt).2 ⟨c,a,o.1.symm,o.2.symm⟩:JZ m1.ca (aD k.m f).f (aD k.m f).i=true);have T:d=c:=srt_eq A.rt.ca.srt (bS L) a (V.trans o.1) (W.trans o.2);subst T;obtain⟨M,hM,U⟩:=WZ (k:=⟨m1,k.e⟩) A.rt A.co L;have hp:(lN ⟨m1,k.e⟩ (bC m1 f)).m.ca=m1.ca:=by have:=Ej (f:=f) (e':=zEn) (by decide) (λk u=>jT k u.1 u.2) KX (bC m1 f) ⟨m1,k.e⟩ A.rt.pt (EJ m1 f) y (by have hr:=A.rt.cf f y;rw[<-vE]at hr;show _<=(aD m1 f).r;omega);exact this.2.2.1.ca
 have Z:gG k f=⟨M,k.e⟩:=by
  rw[<-hM];unfold gG Eg;simp only;have hA:BZ m1 (sS m1.ca (aD k.m f).f (aD k.m f).i)=d:=by unfold BZ;rw[aY,L];rfl
  rw[if_pos K,if_neg (by rw[S];decide),Q,hq,hA,b];simp only[hp];rw[if_pos ((JK A.rt.ca.srt).2 ⟨d,a,o.1.symm,o.2.symm⟩)]
 rw[Z];refine⟨rfl,?_⟩;change vZ k.m M f;have hs:d.k.toNat=f:=by omega
 have N:∀g,aD M g=if g=f then frZ else aD k.m g:=λg=>by
  rw[U.fr,hs]
  by_cases e:g=f
  .rw[if_pos e,if_pos e]
  .rw[if_neg e,if_neg e];exact w g e
 have ha:iF k.m m1:=A.vis.sk;have hB:iF k.m M:=ha.trans U.sk;have z:∀p n,ent m1 p n=ent k.m p n:=λp n=>by unfold ent dD;rw[A.sp]
 have l:mi m1.st M.st:=mi.of U.st;have t:∀g i,qK m1.st g i->aW M g i=aW m1 g i:=by
  intro g i _
  by_cases G:g=d.f/\i=d.i
  .rw[G.1,G.2,ic A.rt.ca a,gL (λe' Y=>((U.cas e').1 Y).2)];rw[show dz M d.f d.i=dz m1 d.f d.i by unfold dz;rw[U.st,U.dk]];exact(A.co.clean d a (by rw[b,bu,q])).symm
  .exact U.con A.rt G
 have v:FU m1 M:=by
  refine FR A.rt.pt U.sk l t λp n g I => ?_;rw[U.ents]
  by_cases F:(ent m1 p n).k=1/\(ent m1 p n).n=d.k
  .rw[if_pos F];obtain⟨g',P,hn⟩:=A.rt.en p n (by rw[F.1];decide);rw[I]at P;cases P;have h2:=hn.fr F.1;rw[F.2,b,bu]at h2;have E:=h2.1 (by rw[q];exact K);have x:qK m1.st g.fi g.pg:=by rw[<-E.1,<-E.2,j.2.1,j.2.2];exact A.rt.ca.file d a
   have ht:¬g.fi<0:=by have:=x.1;omega
   have s:¬((M.st.fs.length:Int)<=g.fi\/pq M.st g.fi g.pg=true):=by rw[U.st];exact nU A.rt.pt.st x
   have hl:vH m1 g (ent m1 p n)=((aD m1 f).p,false,0):=by unfold vH;rw[if_pos F.1,F.2,b,vg,q];simp only[JL,true_and,and_true];exact decide_eq_false (by omega)
   rw[hl];unfold vH;rw[if_neg (by decide),if_neg (by decide),if_neg ht,if_neg s,t _ _ x];have:g.fi=d.f/\g.pg=d.i:=⟨by rw[<-E.1,j.2.1],by rw[<-E.2,j.2.2]⟩;rw[this.1,this.2,ic A.rt.ca a,b,bu]
  rw[if_neg F];refine qH A.rt.pt.st (A.rt.pt.pg I).1 l t (λO => ?_) (λO=>by rw[U.sw];exact⟨rfl,rfl⟩);have s:(ent m1 p n).n.toNat≠d.k.toNat:=by intro e;have h5:=((bD _).1 (mE A.rt.pt p n));exact F ⟨O,by omega⟩
  have:aD M (ent m1 p n).n.toNat=aD m1 (ent m1 p n).n.toNat:=by rw[U.fr,if_neg s]
  exact⟨congrArg Fr.p this,congrArg Fr.f this⟩
 refine⟨U.rt,U.co,A.vis.trans v,U.len.trans R,?_,by rw[N,if_pos rfl],λg I=>by rw[N,if_neg I],by rw[U.sl,A.sl],λp n s=>by rw[U.ents,z,b,if_neg s],λe => ?_,?_⟩
 .rw[U.hand,A.fs];rfl
 .rw[U.cas,A.ca];constructor
  .rintro⟨C,h2⟩;refine⟨C,λE=>h2 ?_⟩;rw[h.ca.uniq C (by rw[<-A.ca];exact a) (by rw[E,b])];exact⟨rfl,rfl⟩
  rintro⟨C,h2⟩;refine⟨C,λE=>h2 ?_⟩;rw[srt_eq h.ca.srt C (by rw[<-A.ca];exact a) E.1 E.2,b]
 rw[U.st,U.dk];have C:=Kz h J;rw[Q]at C
 by_cases D:(aD k.m f).f<0\/(aD k.m f).d=false\/dJ k.m.st (aD k.m f).f (aD k.m f).i≠0
 .rw[if_pos D]at C;have h2:m1=k.m:=congrArg Kp.m C;rw[h2];exact .inl ⟨rfl,rfl⟩
 rw[if_neg D]at C;have h2:m1=iR k.m f:=congrArg Kp.m C;rw[h2];refine .inr ⟨K,?_,?_,rfl,rfl⟩
 .cases e:(aD k.m f).d with
  | true=>rfl
  | false=>exact absurd (.inr (.inl e)) D
 by_cases e:dJ k.m.st (aD k.m f).f (aD k.m f).i=0
 .exact e
 .exact absurd (.inr (.inr e)) D
def Pf(m:Ma)(f i:Int)(P:Page):Prop:=∃c∈m.ca,c.f=f/\c.i=i/\(aD m c.k.toNat).d=true/\(aD m c.k.toNat).p=P
structure SS (m m' : Ma):Prop where
 st:m'.st=m.st
 dk:m'.dk=m.dk
 di:∀f i P,Pf m' f i P->Pf m f i P
structure Yn (P:Ma->Prop):Prop where
 cl:∀m f,Rt m->Co m->P m->f<m.m.fs.length->0<=(aD m f).f->(aD m f).d=true->dJ m.st (aD m f).f (aD m f).i=0->P (iR m f)
 sub:∀m m',Rt m->Co m->P m->Rt m'->Co m'->SS m m'->P m'
def Inv(m m' : Ma):Prop:=∀P,Yn P->P m->P m'
theorem Inv.refl(m:Ma):Inv m m:=λ_ _ h=>h
theorem Inv.trans{a b c:Ma}(h:Inv a b)(k:Inv b c):Inv a c:=λP e i=>k P e (h P e i)
theorem SS.inv(h:SS m m')(u:Rt m)(h2:Co m)(t:Rt m')(o:Co m'):Inv m m':=λP e i=>e.sub m m' u h2 i t o h
theorem SS.of(st:m'.st=m.st)(dk:m'.dk=m.dk)(e:∀c∈m'.ca,(aD m' c.k.toNat).d=true->c∈m.ca/\(aD m' c.k.toNat).d=(aD m c.k.toNat).d/\(aD m' c.k.toNat).p=(aD m c.k.toNat).p):SS m m':=
 ⟨st,dk,λf i P ⟨c,a1,a2,a3,a4,a5⟩=>have ⟨b1,b2,b3⟩:=e c a1 a4;⟨c,b1,a2,a3,by rw[<-b2];exact a4,by rw[<-b3];exact a5⟩⟩
theorem vZ.inv(h:Rt m)(t:Co m)(o:f<m.m.fs.length)(E:vZ m m' f):Inv m m':=by
 have b:∀c∈m'.ca,c∈m.ca/\c.k.toNat≠f:=λc a=>by have i:=(E.cas c).1 a;have h2:=h.ca.lt c i.1;exact⟨i.1,λe=>i.2 (by omega)⟩
 rcases E.std with⟨i,h2⟩|⟨z,D,y,i,h2⟩
 .refine SS.inv (.of i h2 λc a _ => ?_) h t E.rt E.co;rw[E.oth _ (b c a).2];exact⟨(b c a).1,rfl,rfl⟩
 have u:=HZ h t o z y;refine Inv.trans (λP A C=>A.cl m f h t C o z D y) (SS.inv (.of i h2 λc a _ => ?_) u.rt u.co E.rt E.co);have F:aD (iR m f) c.k.toNat=aD m c.k.toNat:=by rw[wh u.fs,iB o,if_neg (b c a).2]
 rw[E.oth _ (b c a).2,F];exact⟨(b c a).1,rfl,rfl⟩
theorem DD{α:Type}{q:α->Bool}{l:List α}(h:0<=idx q l):∃k:Nat,idx q l=k/\∃e:k<l.length,q l[k]=true:=by
 unfold idx at h ⊢;cases hf:l.findIdx? q with
 | none=>rw[hf]at h;simp at h
 | some k=>
  obtain⟨e,i,_⟩:=sj.1 hf;exact⟨k,rfl,e,i⟩
theorem UU{α:Type}{q:α->Bool}{l:List α}(h:idx q l<0):∀x∈l,q x=false:=by
 unfold idx at h;cases hf:l.findIdx? q with
 | none=>exact vU.1 hf
 | some k=>rw[hf]at h;simp at h;omega
theorem RZ(h:Pt m)(A:1<=n)(h2:n<=1000) :
  (ja m.sl n=0/\∃s:Nat,s<m.sl.length/\jS m s=0/\kI m.sl n=s/\ng m.sl n=m.sl.set s n)\/(ja m.sl n=10/\∀s:Nat,s<m.sl.length->jS m s≠0):=by
 by_cases e:idx JY m.sl<0
 .refine .inr ⟨?_,λs y z => ?_⟩
  .unfold ja;rw[if_neg (by rw[h.sl];simp),if_neg (by omega),if_pos e]
  have:=UU e _ (bS (MR y));rw[z]at this;simp[JY]at this
 obtain⟨k,o,a,u⟩:=DD (by omega:0<=idx JY m.sl);have i:ja m.sl n=0:=by unfold ja;rw[if_neg (by rw[h.sl];simp),if_neg (by omega),if_neg e]
 refine .inl ⟨i,k,a,?_,?_,?_⟩
 .have t:=MR a;rw[aF a]at t;rw[<-aM t];simpa[JY]using u
 .unfold kI;rw[if_pos i,o]
 .unfold ng;rw[if_pos i,o,bu]
theorem Hw(h:Rt m)(t:f<m.m.fs.length)(y:(aD m f).f<0):tY m f=0/\(aD m f).r=(bC m f).length:=by
 have e:tY m f=0:=uK.none (m:=m) (i:=f) λc e o=>by have u:=(h.ca.fr c e).2.1;have h2:=(h.ca.file c e).1;rw[o,bu]at u;omega
 refine⟨e,?_⟩;have:=h.cf f t;rw[e,<-vE]at this;omega
theorem Nz{k:Kp}(h:Rt k.m)(E:Co k.m)(V:f<k.m.m.fs.length)(h0:(aD k.m f).f<0)(hr:(aD k.m f).r≠0)(hb:ja k.m.sl (bC k.m f).length=0) :
  (gG k f).e=k.e/\vZ k.m (gG k f).m f:=by
 obtain⟨hS,hV⟩:=Hw h V h0;have h7:=((dL _).1 (h.pt.frE V)).1;obtain⟨_,s,hs,hZ,z,hU⟩:=(RZ h.pt (n:=(bC k.m f).length) (by omega) (by omega)).resolve_right (λe=>by rw[hb]at e;cases e.1);have hY:s<60:=by have:=lu h.pt.sl;omega
 have q:(s:Int)<k.m.sw.blocks.length:=by rw[h.pt.swl];omega
 have Z:aJ k.m.sw (s:Int)=0:=jG.2 ⟨h.pt.sw,by omega,q⟩;have hl:∃L:Nat,L=(bC k.m f).length:=⟨_,rfl⟩;obtain⟨L,hL⟩:=hl;generalize hm1:({ k.m with sl:=k.m.sl.set s (L:Int),sw:=jO k.m.sw ((s:Int),(aD k.m f).p) }:Ma)=m1;have hX:gG k f=tC ⟨m1,k.e⟩ f s (bC k.m f):=by
  unfold gG;simp only;rw[if_neg (by omega),if_neg (by rw[hb];simp),z,Z,hU];have hw:dP k.m.sw (s:Int) (aD k.m f).p=jO k.m.sw ((s:Int),(aD k.m f).p):=by unfold dP;rw[if_pos Z]
  have D:jw k.e 0=k.e:=by unfold jw;split<;>simp_all
  rw[hw,D,<-hm1,hL]
 have o:m1.m=k.m.m:=by rw[<-hm1]
 have a:m1.sp=k.m.sp:=by rw[<-hm1]
 have hh:m1.sl=k.m.sl.set s (L:Int):=by rw[<-hm1]
 have ha:m1.sw=jO k.m.sw ((s:Int),(aD k.m f).p):=by rw[<-hm1]
 have hm:m1.dk=k.m.dk:=by rw[<-hm1]
 have hd:m1.st=k.m.st:=by rw[<-hm1]
 have hI:m1.ca=k.m.ca:=by rw[<-hm1]
 have hM:Pt m1:={ fr:=by rw[o];exact h.pt.fr,sl:=by rw[hh];exact EY s _ h.pt.sl (by omega) (by omega),sw:=by rw[ha];exact zA h.pt.sw (by show(0:Int)<=s;omega) q,dk:=by rw[hm];exact h.pt.dk,st:=by rw[hd];exact h.pt.st,swl:=by rw[ha,hh,xK,bL];exact h.pt.swl,dkl:=by rw[hm,hd];exact h.pt.dkl,spl:=by rw[a];exact h.pt.spl,ar:=by rw[a];exact h.pt.ar,tb:=by rw[a];exact h.pt.tb };have hJ:∀p n,ent m1 p n=ent k.m p n:=λp n=>by unfold ent dD;rw[a]
 have hT:bC k.m f=bC m1 f:=by unfold bC dD;rw[a]
 have ht:∀g,aD m1 g=aD k.m g:=λg=>wh o g;have hH:=Ej (f:=f) (e':=⟨2,s,false⟩) ((bD _).2 (.inr (.inr ⟨rfl,by show(0:Int)<=s;omega,by show(s:Int)<60;omega,rfl⟩))) (Ic f s) (λ_ _ _ _=>rfl) (bC k.m f) ⟨m1,k.e⟩ hM (by rw[hT];exact EJ m1 f) (by show f<m1.m.fs.length;rw[o];exact V) (by show _<=(aD m1 f).r;rw[ht];omega);obtain⟨r1,r2,G,r4,O,r6,U⟩:=hH;have hR:(bC k.m f).foldl (Ic f s) ⟨m1,k.e⟩=tC ⟨m1,k.e⟩ f s (bC k.m f):=rfl;rw[hR,<-hX]at r1 r2 G r4 O r6 U;refine⟨r1,?_⟩;generalize gG k f=k2 at *
 obtain⟨M,eM⟩:=k2;change vZ k.m M f;simp only at r1 r2 G r4 O r6 U;have hz:ik (aD m1 f) (-((bC k.m f).length:Int))=frZ:=by unfold ik;rw[if_pos (by rw[ht];omega)]
 rw[hz]at O;have Q:∀g,aD M g=if g=f then frZ else aD k.m g:=by intro g;rw[wh O g,iB (by rw[o];exact V),ht]
 have d:∀g,g≠f->aD M g=aD k.m g:=λg J=>by rw[Q,if_neg J]
 have t:M.m.fs.length=k.m.m.fs.length:=by rw[O,fo,o]
 have y:M.sl=k.m.sl.set s (L:Int):=G.sl.trans hh;have hG:M.sw=jO k.m.sw ((s:Int),(aD k.m f).p):=G.sw.trans ha;have hB:M.dk=k.m.dk:=G.dk.trans hm;have u:M.st=k.m.st:=G.st.trans hd;have b:M.ca=k.m.ca:=G.ca.trans hI;have z:iF k.m M:=(iF.of a).trans r4;have v:∀p n,ent M p n=if(p,n)∈bC k.m f then⟨2,s,false⟩else ent k.m p n:=λp n=>by rw[r6,hJ]
 have l:∀p n,(p,n)∈bC k.m f↔(ent k.m p n).k=1/\(ent k.m p n).n=f:=by
  intro p n;rw[vF];constructor
  .rintro⟨_,_,N⟩;exact N
  intro N;have h4:=mo (m:=k.m) (p:=p) (n:=n) (by rw[N.1];decide);exact⟨h4.1,h4.2,N⟩
 have hn:mi k.m.st M.st:=mi.of u;have hx:∀g i,dz M g i=dz k.m g i:=λg i=>by unfold dz;rw[u,hB]
 have P:∀c∈k.m.ca,c.k.toNat≠f:=λc E e=>by have A:=(h.ca.fr c E).2.1;have h2:=(h.ca.file c E).1;rw[e]at A;omega
 have hA:uK M:=⟨by rw[b,u];exact h.ca.file,by rw[b,t];exact h.ca.lt,λc E=>by rw[b]at E;rw[d _ (P c E)];exact h.ca.fr c E,by rw[b];exact h.ca.srt⟩;have hF:∀g i,qK k.m.st g i->aW M g i=aW k.m g i:=by
  intro g i h6;rcases qd k.m g i with⟨e,D,K,hef,hei⟩|⟨D,S⟩
  .subst hef;subst hei;rw[ic h.ca K,ic hA (by rw[b];exact K),d _ (P e K)]
  .rw[gL S,gL (by rw[b];exact S),hx]
 have hN:∀p n,(ent k.m p n).k=2->(ent k.m p n).n≠s:=by intro p n hO D;have N:=mo (m:=k.m) (p:=p) (n:=n) (by rw[hO];decide);have h4:=(lJ (m:=k.m) (kd:=2) (i:=s) (by decide)).2 ⟨p,n,N.1,N.2,hO,D⟩;have h5:=h.cs s hs;omega
 have hK:FU k.m M:=by
  refine FR h.pt z hn hF λp n g J => ?_;rw[v]
  by_cases C:(p,n)∈bC k.m f
  .rw[if_pos C];have A:=(l p n).1 C;unfold vH;rw[if_neg (show ¬(2:Int)=1 by decide),if_pos rfl,if_pos A.1,A.2,vg,hG];rw[yA h.pt.sw (by show(0:Int)<=s;omega) q,if_pos ⟨Z,rfl⟩,IP h.pt.sw (by show(0:Int)<=s;omega) q,Z,decide_eq_true h0]
  rw[if_neg C];refine qH h.pt.st (h.pt.pg J).1 hn hF (λI => ?_) (λI => ?_)
  .have R:(ent k.m p n).n.toNat≠f:=by intro e;have h5:=((bD _).1 (mE h.pt p n));exact C ((l p n).2 ⟨I,by omega⟩)
   have:=d _ R;exact⟨congrArg Fr.p this,congrArg Fr.f this⟩
  rw[hG,yA h.pt.sw (by show(0:Int)<=s;omega) q,if_neg (λe=>hN p n I e.2.symm),IP h.pt.sw (by show(0:Int)<=s;omega) q];exact⟨rfl,rfl⟩
 refine⟨⟨r2,by rw[hB,u];exact h.trim,λp hp => ?_,hA,λp n I => ?_,λi T => ?_,λi T W => ?_,λj hj => ?_⟩,⟨λe D => ?_,λe D hQ => ?_,λi T Y => ?_⟩,hK,t,?_,by rw[Q,if_pos rfl],d,by rw[y,bL],λp n R=>by rw[v,if_neg (λC=>R ((l p n).1 C))],λe => ?_,.inl ⟨u,hB⟩⟩
 .rw[z.lv]at hp;have A:=h.live p hp;rw[z.ar];refine⟨A.1,λn => ?_⟩;rw[v,if_neg]
  .exact A.2 n
  intro C;have:=(l p n).1 C;rw[A.2 n]at this;exact absurd this.1 (by decide)
 .rw[v]at I ⊢
  by_cases C:(p,n)∈bC k.m f
  .rw[if_pos C];have A:=(l p n).1 C;obtain⟨g,J,w⟩:=h.en p n (by rw[A.1];decide);refine⟨g,by unfold eT;rw[z.ar];exact J,λ_=>⟨by rw[y,bL];show(s:Int)<_;omega,?_⟩,λ(e:(2:Int)=1)=>absurd e (by decide),λ(e:(2:Int)=1)=>absurd e (by decide)⟩;have h2:=w.fr A.1;rw[A.2,bu]at h2;cases hsh:g.sh with
   | false=>rfl
   | true=>have:=h2.2.1 hsh;omega
  rw[if_neg C]at I ⊢;obtain⟨g,J,w⟩:=h.en p n I;refine⟨g,by unfold eT;rw[z.ar];exact J,by rw[y,bL];exact w.sw,by rw[t];exact w.lt,λhP => ?_⟩;have R:(ent k.m p n).n.toNat≠f:=by intro e;have h5:=((bD _).1 (mE h.pt p n));exact C ((l p n).2 ⟨hP,by omega⟩)
  rw[d _ R];exact w.fr hP
 .have F:=U 1 i;rw[if_neg (λe=>by cases e.1:¬((1:Int)=(⟨2,s,false⟩:En).k/\(i:Int)=(⟨2,s,false⟩:En).n))]at F;have a2:bO m1 1 i=bO k.m 1 i:=by unfold bO;rw[a]
  have a3:tY M i=tY k.m i:=by unfold tY;rw[b]
  by_cases e:i=f
  .subst e;rw[if_pos ⟨rfl,rfl⟩]at F;rw[vE]at F;rw[Q,if_pos rfl,a3,hS];show(0:Int)=_;omega
  rw[if_neg (λh'=>e (by have:=h'.2;omega))]at F;have a5:=h.cf i (by rw[<-t];exact T);rw[d i e,a3];omega
 .by_cases e:i=f
  .subst e;rw[Q,if_pos rfl]at W;exact absurd W (by decide)
  rw[d i e]at W;rw[b];exact h.fc i (by rw[<-t];exact T) W
 .have F:=U 2 j;rw[if_neg (λe=>by cases e.1)]at F;have a2:bO m1 2 j=bO k.m 2 j:=by unfold bO;rw[a]
  have hW : j<k.m.sl.length:=by rw[y,bL]at hj;exact hj
  have a3:jS M j=if j=s then(L:Int)else jS k.m j:=by have:=JF (m:=k.m) (x:=(L:Int)) hs j;rw[<-this];unfold jS setSl;rw[y]
  have a4:=h.cs j hW;rw[a3]
  by_cases e:j=s
  .subst e;rw[if_pos ⟨rfl,rfl⟩]at F;rw[if_pos rfl];omega
  rw[if_neg (λh'=>e (by have h2:(j:Int)=(s:Int):=h'.2;omega))]at F;rw[if_neg e];omega
 .rw[b]at D;rw[d _ (P e D),u];exact E.tail e D
 .rw[b]at D;rw[d _ (P e D)]at hQ ⊢;rw[hx];exact E.clean e D hQ
 .by_cases e:i=f
  .rw[Q,if_pos e]at Y;cases Y
  rw[d i e]at Y ⊢;exact E.anon i (by rw[<-t];exact T) Y
 .rw[O];show m1.m.hand=_;rw[o]
 rw[b];constructor
 .intro A;exact⟨A,λh2=>P e A (by rw[h2];exact bu f)⟩
 .exactλA=>A.1
theorem Uu{k:Kp}(h:Rt k.m)(u:Co k.m)(t:f<k.m.m.fs.length)(y:(aD k.m f).r≠0) :
  if nE k.m f=true then(gG k f).e=k.e/\vZ k.m (gG k f).m f else gG k f=k:=by
 unfold nE
 by_cases o:0<=(aD k.m f).f
 .rw[if_pos o]
  by_cases i:lT k.m f=true
  .rw[if_pos i];exact Mo h u t o i
  rw[if_neg i];unfold gG;simp only;rw[if_pos o,if_pos (by simpa using i)]
 rw[if_neg o]
 by_cases i:ja k.m.sl (bC k.m f).length=0
 .rw[if_pos (by simpa using i)];exact Nz h u t (by omega) y i
 rw[if_neg (by simpa using i)];unfold gG;simp only;rw[if_neg o,if_pos i]
def Ap(x y:Fr):Prop:=y.p=x.p/\y.r=x.r/\y.d=x.d/\y.f=x.f/\y.i=x.i
theorem Ap.refl(x:Fr):Ap x x:=⟨rfl,rfl,rfl,rfl,rfl⟩
theorem Ap.trans{x y z:Fr}(h:Ap x y)(k:Ap y z):Ap x z:=⟨k.1.trans h.1,k.2.1.trans h.2.1,k.2.2.1.trans h.2.2.1,k.2.2.2.1.trans h.2.2.2.1,k.2.2.2.2.trans h.2.2.2.2⟩
theorem SQ(h:Rt m)(J:Co m)(y:Rest m m')(A:m'.sp=m.sp)(N:bv m'.m=0)(C:m'.m.fs.length=m.m.fs.length)(z:∀g,Ap (aD m g) (aD m' g)):Rt m'/\Co m'/\FU m m':=by
 have e:∀p n,ent m' p n=ent m p n:=λp n=>by unfold ent dD;rw[A]
 have u:∀p n,eT m' p n=eT m p n:=λp n=>by unfold eT dD;rw[A]
 have w:∀i,tY m' i=tY m i:=λi=>by unfold tY;rw[y.ca]
 have q:∀kd i,bO m' kd i=bO m kd i:=λkd i=>by unfold bO;rw[A]
 have j:∀f i,dz m' f i=dz m f i:=λf i=>by unfold dz;rw[y.st,y.dk]
 have t:Pt m':={ fr:=N,sl:=by rw[y.sl];exact h.pt.sl,sw:=by rw[y.sw];exact h.pt.sw,dk:=by rw[y.dk];exact h.pt.dk,st:=by rw[y.st];exact h.pt.st,swl:=by rw[y.sw,y.sl];exact h.pt.swl,dkl:=by rw[y.dk,y.st];exact h.pt.dkl,spl:=by rw[A];exact h.pt.spl,ar:=by rw[A];exact h.pt.ar,tb:=by rw[A];exact h.pt.tb };have o:uK m':=⟨by rw[y.ca,y.st];exact h.ca.file,by rw[y.ca,C];exact h.ca.lt,λc a=>by rw[y.ca]at a;have D:=z c.k.toNat;rw[D.2.1,D.2.2.2.1,D.2.2.2.2];exact h.ca.fr c a,by rw[y.ca];exact h.ca.srt⟩;have l:∀f i,aW m' f i=aW m f i:=by
  intro f i;have C:uh m' f i=uh m f i:=by unfold uh;rw[y.ca]
  rw[qp,qp,C];cases uh m f i with
  | none=>exact j f i
  | some c=>exact(z c.k.toNat).1
 have b:mi m.st m'.st:=mi.of y.st;refine⟨⟨t,by rw[y.dk,y.st];exact h.trim,λp G => ?_,o,λp n K => ?_,λi E => ?_,λi E L => ?_,λs r => ?_⟩,⟨λc a => ?_,λc a F => ?_,λi E F => ?_⟩,?_⟩
 .have:dD m' p=dD m p:=by unfold dD;rw[A]
  rw[this]at G ⊢;exact⟨(h.live p G).1,λn=>by rw[e];exact(h.live p G).2 n⟩
 .rw[e]at K ⊢;obtain⟨g,I,d⟩:=h.en p n K;refine⟨g,by rw[u];exact I,by rw[y.sl];exact d.sw,by rw[C];exact d.lt,λv => ?_⟩;have D:=d.fr v;have h2:=z (ent m p n).n.toNat;unfold Oj at D ⊢;rw[h2.2.1,h2.2.2.2.1,h2.2.2.2.2];exact D
 .rw[(z i).2.1,w,q];exact h.cf i (by rw[<-C];exact E)
 .rw[(z i).2.2.2.1]at L;rw[y.ca];exact h.fc i (by rw[<-C];exact E) L
 .rw[q];have:jS m' s=jS m s:=by unfold jS;rw[y.sl]
  rw[this];exact h.cs s (by rw[<-y.sl];exact r)
 .rw[y.ca]at a;rw[(z c.k.toNat).1,y.st];exact J.tail c a
 .rw[y.ca]at a;rw[(z c.k.toNat).2.2.1]at F;rw[(z c.k.toNat).1,j];exact J.clean c a F
 .rw[(z i).2.2.1]at F;rw[(z i).2.2.2.1];exact J.anon i (by rw[<-C];exact E) F
 refine FR h.pt (iF.of A) b (λf i _=>l f i) λp n g I => ?_;rw[e];exact qH h.pt.st (h.pt.pg I).1 b (λf i _=>l f i) (λ_=>⟨(z _).1,(z _).2.2.2.1⟩) (λ_=>by rw[y.sw];exact⟨rfl,rfl⟩)
def rF(m:Ma)(x:Mem):Ma:={ m with m:=x }
theorem Py(u:bv m.m=0)(C:0<=jq m.m):(jq m.m).toNat<m.m.fs.length/\(aD m (jq m.m).toNat).r≠0/\bv (gP m.m)=0/\(gP m.m).fs.length=m.m.fs.length/\∀g,Ap (aD m g) (aD (rF m (gP m.m)) g):=by
 have z:dR m.m.fs≠m.m.fs.length:=λe=>by unfold jq at C;rw[if_neg (by rw[u];simp),if_pos e]at C;omega
 obtain⟨h,b,f⟩:=Rx m.m u z;have G:gP m.m=⟨oN m.m (jb m.m),(jH m.m (jb m.m+1):Nat)⟩:=by unfold gP;rw[if_neg (by rw[u];simp),if_neg z]
 have I:jq m.m=(jH m.m (jb m.m):Nat):=by unfold jq;rw[if_neg (by rw[u];simp),if_neg z]
 have a:0<m.m.fs.length:=by
  rcases ug m.m.fs.length with D|D
  .exact absurd (by have:=Ew m.m.fs;omega) z
  .exact D
 have c:=qw a (jb m.m);have d:=qw a (jb m.m+1);obtain⟨w1,E,N,L⟩:=(dO _).1 u;rw[I,G,bu];refine⟨c,?_,(dO _).2 ⟨by simp only;rw[jE];exact w1,λx F => ?_,by simp only;omega,by simp only;rw[jE];omega⟩,jE _ _,λg => ?_⟩
 .unfold xH at b;simp only[dW,decide_eq_true_eq]at b;have J:(aD m (jH m.m (jb m.m))).r=(m.m.fs.getD (jH m.m (jb m.m)) fr0).r:=rfl;rw[J];omega
 .obtain⟨i,y,rfl⟩:=jM.1 F;simp only at y ⊢;rw[jE]at y;rw[wK m.m _ i y];have t:=E m.m.fs[i] (eu y);split
  .rw[dL]at t ⊢;exact⟨t.1,λe=>⟨rfl,(t.2.1 e).2.1,(t.2.1 e).2.2.1,(t.2.1 e).2.2.2⟩,t.2.2⟩
  .exact t
 rcases gu g m.m.fs.length with o|o
 .have A:aD (rF m ⟨oN m.m (jb m.m),(jH m.m (jb m.m+1):Nat)⟩) g=(oN m.m (jb m.m))[g]'(by rw[jE];exact o):=by show(oN m.m (jb m.m)).getD g fr0=_;rw[aY,aF (by rw[jE];exact o)];rfl
  have K:aD m g=m.m.fs[g]:=by have:=uW o;rw[aF o]at this;exact(aM this).symm
  rw[A,K,wK m.m _ g o];split
  .exact⟨rfl,rfl,rfl,rfl,rfl⟩
  .exact .refl _
 have A:aD (rF m ⟨oN m.m (jb m.m),(jH m.m (jb m.m+1):Nat)⟩) g=fr0:=Ji (m:=rF m ⟨oN m.m (jb m.m),(jH m.m (jb m.m+1):Nat)⟩) (by show(oN m.m (jb m.m)).length<=g;rw[jE];exact o);rw[A,Ji o];exact .refl _
structure AZ (m m' : Ma) (o:Option Nat):Prop where
 rt:Rt m'
 co:Co m'
 vis:FU m m'
 len:m'.m.fs.length=m.m.fs.length
 sll:m'.sl.length=m.sl.length
 fr:∀g,o≠some g->Ap (aD m g) (aD m' g)
 free:∀f,o=some f->f<m.m.fs.length/\aD m' f=frZ/\(aD m f).r≠0
 ents:∀p n,((ent m p n).k=1->o≠some (ent m p n).n.toNat)->ent m' p n=ent m p n
 cas:∀c,c∈m'.ca↔c∈m.ca/\o≠some c.k.toNat
 inv:Inv m m'
theorem AZ.refl(h:Rt m)(i:Co m):AZ m m none:=⟨h,i,.refl m,rfl,rfl,λ_ _ => .refl _,(λ_ e=>by cases e),λ_ _ _=>rfl,λc=>⟨λh=>⟨h,by simp⟩,λh=>h.1⟩,.refl m⟩
theorem reclaimN_ok:∀(t:Nat) (k:Kp),Rt k.m->Co k.m->(reclaimN t k).1.e=k.e/\∃o,AZ k.m (reclaimN t k).1.m o/\((reclaimN t k).2=true↔o≠none)
 | 0,k,h,hc=>⟨rfl,none,AZ.refl h hc,by simp[reclaimN]⟩
 | t+1,k,h,hc=>by
  have P:=h.pt.fr;have E:jw k.e (bv k.m.m)=k.e:=by rw[P];unfold jw;split<;>simp_all
  by_cases V:jq k.m.m<0
  .have R:reclaimN (t+1) k=(k,false):=by unfold reclaimN;rw[if_pos (.inr V),E]
   rw[R];exact⟨rfl,none,AZ.refl h hc,by simp⟩
  obtain⟨U,T,Z,I,C⟩:=Py P (by omega:0<=jq k.m.m);have R:reclaimN (t+1) k=if nE (rF k.m (gP k.m.m)) (jq k.m.m).toNat=true then(gG ⟨rF k.m (gP k.m.m),k.e⟩ (jq k.m.m).toNat,true)else reclaimN t (gG ⟨rF k.m (gP k.m.m),k.e⟩ (jq k.m.m).toNat):=by
   conv=>lhs;unfold reclaimN
   rw[if_neg (by rintro(e | e);exact e P;exact V e)];rfl
  generalize hF:(jq k.m.m).toNat=F at *
  obtain⟨y,A,J⟩:=SQ (m:=k.m) (m':=rF k.m (gP k.m.m)) h hc ⟨rfl,rfl,rfl,rfl,rfl⟩ rfl Z I C;have K:Inv k.m (rF k.m (gP k.m.m)):=SS.inv (.of rfl rfl λc S _=>⟨S,(C _).2.2.1,(C _).1⟩) h hc y A;have N:F<(rF k.m (gP k.m.m)).m.fs.length:=by show F<(gP k.m.m).fs.length;rw[I];exact U
  have L:(aD (rF k.m (gP k.m.m)) F).r≠0:=by rw[(C F).2.1];exact T
  have z:=Uu (k:=⟨rF k.m (gP k.m.m),k.e⟩) y A N L;rw[R]
  by_cases O:nE (rF k.m (gP k.m.m)) F=true
  .rw[if_pos O]at z;obtain⟨he,u⟩:=z;rw[if_pos O];refine⟨he,some F,⟨u.rt,u.co,J.trans u.vis,u.len.trans I,u.sll,λg Q => ?_,λf e => ?_,λp n D => ?_,λc => ?_,K.trans (u.inv y A N)⟩,by simp⟩
   .have D:g≠F:=λe=>Q (by rw[e]);exact(C g).trans (by rw[u.oth g D];exact .refl _)
   .cases e;exact⟨U,u.free,T⟩
   .exact u.ents p n (λe=>by have h2:((ent k.m p n).n:Int)=F:=e.2;exact D e.1 (by rw[h2,bu]))
   refine(u.cas c).trans ⟨λG=>⟨G.1,λe=>G.2 ?_⟩,λG=>⟨G.1,λe=>G.2 (by rw[e,bu])⟩⟩;have:=(h.ca.lt c G.1).1;simp only[jA]at e;omega
  rw[if_neg O]at z;rw[if_neg O,z];obtain⟨i1,o,i,i2⟩:=reclaimN_ok t ⟨rF k.m (gP k.m.m),k.e⟩ y A;refine⟨i1,o,⟨i.rt,i.co,J.trans i.vis,i.len.trans I,i.sll,λg Q=>(C g).trans (i.fr g Q),λf e => ?_,i.ents,i.cas,K.trans i.inv⟩,i2⟩;obtain⟨Y,a2,W⟩:=i.free f e;refine⟨?_,a2,?_⟩
  .have Y:f<(rF k.m (gP k.m.m)).m.fs.length:=Y;have:(rF k.m (gP k.m.m)).m.fs.length=k.m.m.fs.length:=I;omega
  .rw[(C f).2.1]at W;exact W
theorem Nc{k:Kp}(h:Rt k.m)(i:Co k.m):(gV k).1.e=k.e/\∃o,AZ k.m (gV k).1.m o/\((gV k).2=true↔o≠none):=reclaimN_ok _ k h i
theorem KY{k:Kp}{p:Page}{f i:Int}(y:bv k.m.m=0)(u:bR (bK p f i)=0) :
  (∃g:Nat,g<k.m.m.fs.length/\(aD k.m g).r=0/\kT k p f i=(Kp.mk (setFr k.m g (bK p f i)) k.e,(g:Int)))\/(kT k p f i=(k,-1)/\dR k.m.m.fs=0):=by
 by_cases h:iq k.m.m p f i=0
 .obtain⟨_,_,g,o,z,C,A⟩:=Vs h;refine .inl ⟨g,o,?_,?_⟩
  .have:=uW o;rw[aF o]at this;rw[<-aM this];exact z
  unfold kT;rw[if_neg (by rw[h];simp),C,A];rfl
 refine .inr ⟨by unfold kT;rw[if_pos h],?_⟩;refine QR (p:=p) (file:=f) (index:=i) ?_;unfold iq at h ⊢;rw[if_neg (by rw[y];simp),if_neg (by rw[u];simp)]at h ⊢
 by_cases t:wT k.m.m.fs=none
 .rw[if_pos t]
 .rw[if_neg t]at h;exact absurd rfl h
theorem GH(h:dR m.m.fs=0)(i:g<m.m.fs.length):(aD m g).r≠0:=by
 intro e;unfold dR at h;have:=Di.1 h;have h2:aD m g∈m.m.fs.filter (λf=>decide (f.r=0)):=uO.2 ⟨Ot i,by simpa using e⟩;rw[this]at h2;cases h2
theorem Pz(h:dR m.m.fs≠0):∃g,g<m.m.fs.length/\(aD m g).r=0:=by
 unfold dR at h;obtain⟨x,o⟩:=List.exists_mem_of_length_pos (Nat.pos_of_ne_zero h);obtain⟨t,h2⟩:=uO.1 o;obtain⟨i,e,rfl⟩:=jM.1 t;refine⟨i,e,?_⟩;have:=uW (m:=m) e;rw[aF e]at this;rw[<-aM this];simpa using h2
theorem Dv{k:Kp}{p:Page}{f i:Int}(h:Rt k.m)(I:Co k.m)(F:bR (bK p f i)=0) :
  (∃(g:Nat) (m1:Ma) (o:Option Nat),AZ k.m m1 o/\g<m1.m.fs.length/\aD m1 g=frZ/\eO k p f i=(Kp.mk (setFr m1 g (bK p f i)) k.e,(g:Int))) \/
  (∃m1,AZ k.m m1 none/\eO k p f i=(Kp.mk m1 k.e,-1)/\dR k.m.m.fs=0):=by
 have E:∀(m:Ma) (g:Nat),Pt m->g<m.m.fs.length->(aD m g).r=0->aD m g=frZ:=λm g L O K=>Ox (L.frE O) K;unfold eO
 by_cases C:dR k.m.m.fs=0
 .rw[if_pos C];obtain⟨G,o,z,J⟩:=Nc h I
  by_cases t:(gV k).2=true
  .rw[if_pos t];obtain⟨y,a⟩:∃y,o=some y:=by
    cases o with
    | none=>exact absurd rfl (J.1 t)
    | some y=>exact⟨y,rfl⟩
   obtain⟨Q,P,_⟩:=z.free y a;rcases KY (k:=(gV k).1) (p:=p) (f:=f) (i:=i) z.rt.pt.fr F with⟨g,A,u,D⟩|⟨_,u⟩
   .exact .inl ⟨g,(gV k).1.m,o,z,A,E _ g z.rt.pt A u,by rw[D,G]⟩
   .exact absurd (by rw[P];rfl) (GH u (g:=y) (by rw[z.len];exact Q))
  rw[if_neg t];have N:o=none:=by
   cases o with
   | none=>rfl
   | some y=>exact absurd (J.2 (by simp)) t
  subst N;refine .inr ⟨(gV k).1.m,z,?_,C⟩;rw[<-G]
 rw[if_neg C];rcases KY (k:=k) (p:=p) (f:=f) (i:=i) h.pt.fr F with⟨g,A,u,D⟩|⟨_,u⟩
 .exact .inl ⟨g,k.m,none,AZ.refl h I,A,E _ g h.pt A u,D⟩
 .exact absurd u C
theorem SY{x:Fr}(h:bR x=0)(i:x.r≠0):bR (lm x)=0:=by
 rw[dL]at h ⊢;exact⟨h.1,λe=>absurd e i,h.2.2⟩
theorem OH(h:Rt m)(t:Co m)(i:g<m.m.fs.length)(o:(aD m g).r≠0):Rt (setFr m g (lm (aD m g)))/\Co (setFr m g (lm (aD m g)))/\FU m (setFr m g (lm (aD m g))):=
 SQ h t ⟨rfl,rfl,rfl,rfl,rfl⟩ rfl (EX h.pt.fr (SY (h.pt.frE i) o)) fo λx=>by
  rw[iB i]
  by_cases e:x=g
  .rw[if_pos e,e];exact⟨rfl,rfl,rfl,rfl,rfl⟩
  .rw[if_neg e];exact .refl _
theorem Oz(p:Page)(n:Int):dw (dw p n) n=dw p n:=by
 apply yL;intro i e;simp only[dw,qY];split<;>rfl
theorem RQ(n:Int):dw zPg n=zPg:=by
 apply yL;intro i o;simp only[dw,qY];have e:zPg[i]=0:=by
  match i,o with
  | 0,_=>rfl
  | 1,_=>rfl
  | 2,_=>rfl
  | 3,_=>rfl
  | 4,_=>rfl
  | 5,_=>rfl
  | 6,_=>rfl
  | 7,_=>rfl
  | n+8,h=>omega
 split<;>rw[e]
theorem Ii(m:Ma)(f i:Int):dw (dz m f i) ((aN m.st f).n-i*8)=dz m f i:=by
 unfold dz;split
 .exact Oz _ _
 .exact RQ _
theorem zl{f i k:Int}:∀ {l:List Cc},l.Pairwise CK->(∀c∈l,¬(c.f=f/\c.i=i))->(l.insertIdx (sS l f i) ⟨f,i,k⟩).Pairwise CK
 | [],_,_=>by simp[sS]
 | c::l,hs,hno=>by
  obtain⟨u,h2⟩:=uA.1 hs;have y:=hno c iM
  by_cases t:Cf f i c=true
  .have:sS (c::l) f i=0:=by unfold sS;rw[zJ,if_pos t];rfl
   rw[this,List.insertIdx_zero];have o:CK ⟨f,i,k⟩ c:=by have:=xW.1 t;unfold CK;simp only;omega
   refine uA.2 ⟨λd e => ?_,hs⟩;rcases dx.1 e with rfl|e
   .exact o
   have:=u d e;unfold CK at this o ⊢;omega
  have:sS (c::l) f i=sS l f i+1:=by unfold sS;rw[zJ,if_neg t];cases l.findIdx? (Cf f i)<;>rfl
  rw[this,Dm];refine uA.2 ⟨λd e => ?_,zl h2 λd e=>hno d (jW _ e)⟩;rcases(yJ (zU l f i)).1 e with rfl|e
  .have:¬(f<c.f\/c.f=f/\i<=c.i):=λh=>t (xW.2 h);unfold CK;simp only;omega
  .exact u d e
theorem uR{α:Type}(q:α->Bool)(x:α):∀(l:List α) (j:Nat),j<=l.length->(l.insertIdx j x).countP q=l.countP q+sD (q x)
 | l,0,_=>by rw[List.insertIdx_zero,qE];rfl
 | [],j+1,h=>by simp at h
 | a::l,j+1,h=>by rw[Dm,qE,qE,uR q x l j (by simpa using h)];omega
def rE(m1:Ma)(g:Nat)(p:Page)(f i:Int):Ma:={ setFr m1 g (bK p f i)with ca:=m1.ca.insertIdx (sS m1.ca f i) ⟨f,i,g⟩ }
theorem Wn{f i:Int}(h:Rt m1)(P:Co m1)(S:g<m1.m.fs.length)(R:aD m1 g=frZ)(E:qK m1.st f i)(K:∀c∈m1.ca,¬(c.f=f/\c.i=i)) :
  Rt (rE m1 g (dz m1 f i) f i)/\Co (rE m1 g (dz m1 f i) f i)/\FU m1 (rE m1 g (dz m1 f i) f i):=by
 have v:=zu h.pt.st E;have hb:bR (bK (dz m1 f i) f i)=0:=by rw[dL];have Q:=E.1;have h2:=E.2;exact⟨⟨by show(0:Int)<=1;decide,by show(1:Int)<=1000;decide,by show -1<=f;omega,v.1,h2.1,v.2.1⟩,λ(e:(1:Int)=0)=>absurd e (by decide),λ(e:f<0)=>by omega⟩
 have j:∀x,aD (rE m1 g (dz m1 f i) f i) x=if x=g then bK (dz m1 f i) f i else aD m1 x:=λx=>iB S x;have b:∀x,x≠g->aD (rE m1 g (dz m1 f i) f i) x=aD m1 x:=λx G=>by rw[j,if_neg G]
 have d:(rE m1 g (dz m1 f i) f i).m.fs.length=m1.m.fs.length:=fo;have a:∀c,c∈(rE m1 g (dz m1 f i) f i).ca↔c=⟨f,i,g⟩\/c∈m1.ca:=λc=>yJ (zU _ _ _);have u:∀c∈m1.ca,c.k.toNat≠g:=λc A e=>by have:=(h.ca.fr c A).1;rw[e,R]at this;exact absurd this (by decide)
 have l:∀D C,dz (rE m1 g (dz m1 f i) f i) D C = dz m1 D C:=λ_ _=>rfl;have q:bO m1 1 g=0/\tY m1 g=0:=by have:=h.cf g S;rw[R]at this;have e:frZ.r=0:=rfl;omega
 have Z:Pt (rE m1 g (dz m1 f i) f i):={ fr:=EX h.pt.fr hb,sl:=h.pt.sl,sw:=h.pt.sw,dk:=h.pt.dk,st:=h.pt.st,swl:=h.pt.swl,dkl:=h.pt.dkl,spl:=h.pt.spl,ar:=h.pt.ar,tb:=h.pt.tb };have o:uK (rE m1 g (dz m1 f i) f i):=by
  refine⟨λc A => ?_,λc A => ?_,λc A => ?_,zl h.ca.srt K⟩
  .rcases(a c).1 A with rfl|A
   .exact E
   .exact h.ca.file c A
  .rw[d];rcases(a c).1 A with rfl|A
   .show 0<=(g:Int)/\(g:Int)<_;omega
   .exact h.ca.lt c A
  rcases(a c).1 A with rfl|A
  .rw[j,if_pos (bu g)];exact⟨by show(1:Int)<=1;decide,rfl,rfl⟩
  .rw[b _ (u c A)];exact h.ca.fr c A
 have z:∀D C,aW (rE m1 g (dz m1 f i) f i) D C = aW m1 D C:=by
  intro D C
  by_cases e:D = f/\C = i
  .rw[e.1,e.2];have Q:=ic o ((a ⟨f,i,g⟩).2 (.inl rfl));rw[show(⟨f,i,(g:Int)⟩:Cc).f=f from rfl,show(⟨f,i,(g:Int)⟩:Cc).i=i from rfl]at Q;rw[Q,j,if_pos (bu g),gL K];rfl
  rcases qd m1 D C with⟨c,W,A,O,N⟩|⟨W,F⟩
  .subst O;subst N;rw[ic h.ca A,ic o ((a c).2 (.inr A)),b _ (u c A)]
  rw[gL F,gL (λc A => ?_),l];rcases(a c).1 A with rfl|A
  .exactλe'=>e ⟨e'.1.symm,e'.2.symm⟩
  .exact F c A
 have w:∀p n,ent (rE m1 g (dz m1 f i) f i) p n=ent m1 p n:=λ_ _=>rfl;have t:∀p n,(ent m1 p n).k=1->(ent m1 p n).n.toNat≠g:=by intro p n I e;have U:=mo (m:=m1) (p:=p) (n:=n) (by rw[I];decide);have h5:=(bD _).1 (mE h.pt p n);have h4:=(lJ (m:=m1) (kd:=1) (i:=g) (by decide)).2 ⟨p,n,U.1,U.2,I,by omega⟩;omega
 refine⟨⟨Z,h.trim,h.live,o,λp n I => ?_,λx G => ?_,λx G V => ?_,h.cs⟩,⟨λc A => ?_,λc A J => ?_,λx G J => ?_⟩,?_⟩
 .rw[w]at I ⊢;obtain⟨y,L,s⟩:=h.en p n I;exact⟨y,L,s.sw,by rw[d];exact s.lt,λT=>by rw[b _ (t p n T)];exact s.fr T⟩
 .have a1:tY (rE m1 g (dz m1 f i) f i) x=tY m1 x+sD (decide ((g:Int)=x)):=uR _ _ _ _ (zU _ _ _);have a2:bO (rE m1 g (dz m1 f i) f i) 1 x=bO m1 1 x:=rfl;rw[j,a1,a2]
  by_cases e:x=g
  .subst e;rw[if_pos rfl,q.1,q.2];have:sD (decide ((x:Int)=(x:Int)))=1:=by simp[sD]
   rw[this];rfl
  rw[if_neg e];have:sD (decide ((g:Int)=(x:Int)))=0:=by unfold sD;rw[if_neg];simp only[decide_eq_true_eq];omega
  rw[this];exact h.cf x (by rw[<-d];exact G)
 .by_cases e:x=g
  .exact⟨⟨f,i,g⟩,(a _).2 (.inl rfl),by rw[e]⟩
  rw[b x e]at V;obtain⟨c,A,Y⟩:=h.fc x (by rw[<-d];exact G) V;exact⟨c,(a c).2 (.inr A),Y⟩
 .rcases(a c).1 A with rfl|A
  .rw[j,if_pos (bu g)];exact Ii m1 f i
  .rw[b _ (u c A)];exact P.tail c A
 .rcases(a c).1 A with rfl|A
  .rw[j,if_pos (bu g),l];rfl
  rw[b _ (u c A)]at J ⊢;rw[l];exact P.clean c A J
 .by_cases e:x=g
  .rw[j,if_pos e]at J;cases J
  .rw[b x e]at J ⊢; exact P.anon x (by rw[<-d];exact G) J
 refine FR h.pt (iF.of rfl) (mi.refl _) (λD C _=>z D C) λp n y L => ?_;rw[w];refine qH h.pt.st (h.pt.pg L).1 (mi.refl _) (λD C _=>z D C) (λI => ?_) (λ_=>⟨rfl,rfl⟩);have:=b _ (t p n I);exact⟨congrArg Fr.p this,congrArg Fr.f this⟩
structure VP (m m' : Ma) (f i r:Int):Prop where
 rt:Rt m'
 co:Co m'
 vis:FU m m'
 len:m'.m.fs.length=m.m.fs.length
 sll:m'.sl.length=m.sl.length
 ents:∀p n,(ent m p n).k≠1->ent m' p n=ent m p n
 no:r<0->dR m.m.fs=0
 yes:0<=r->⟨f,i,r⟩∈m'.ca
 inv:Inv m m'
theorem Iq{k:Kp}{f i:Int}(h:Rt k.m)(K:Co k.m)(C:qK k.m.st f i):(fu k f i).1.e=k.e/\VP k.m (fu k f i).1.m f i (fu k f i).2:=by
 unfold fu
 by_cases D:JZ k.m.ca f i=true
 .rw[if_pos D];obtain⟨c,r,U,V⟩:=JD D;have a:=bS r;have T:BZ k.m (sS k.m.ca f i)=c:=by unfold BZ;rw[aY,r];rfl
  have hj:=h.ca.lt c a;have s:=h.ca.fr c a;obtain⟨R,Q,Z⟩:=OH h K (g:=c.k.toNat) (by omega) (by omega);simp only[T];have y:c.k.toNat<k.m.m.fs.length:=by omega
  refine⟨trivial,R,Q,Z,fo,rfl,λ_ _ _=>rfl,λF=>by omega,λ_ => ?_,SS.inv (.of rfl rfl λd E _=>⟨E,?_⟩) h K R Q⟩
  rotate_left
  .rw[iB y]
   by_cases e:d.k.toNat=c.k.toNat
   .rw[if_pos e,e];exact⟨rfl,rfl⟩
   .rw[if_neg e];exact⟨rfl,rfl⟩
  have:(⟨f,i,c.k⟩:Cc)=c:=by rw[<-U,<-V]
  rw[this];exact a
 rw[if_neg D];have t:∀c∈k.m.ca,¬(c.f=f/\c.i=i):=λc a e=>D ((JK h.ca.srt).2 ⟨c,a,e⟩);have W:Fz k f i=k.e:=by
  unfold Fz
  by_cases L:0<=bN k.m.st f i
  .rw[if_pos L];have:aJ k.m.dk (bN k.m.st f i)=0:=jG.2 ⟨h.pt.dk,L,by rw[h.pt.dkl];exact(block_lt h.pt.st C).2⟩;rw[this];unfold jw;split<;>simp_all
  .rw[if_neg L]
 rw[W];have q:=zu h.pt.st C;have w:bR (bK (dz k.m f i) f i)=0:=by rw[dL];have h1:=C.1;have h2:=C.2;exact⟨⟨by show(0:Int)<=1;decide,by show(1:Int)<=1000;decide,by show -1<=f;omega,q.1,h2.1,q.2.1⟩,λ(e:(1:Int)=0)=>absurd e (by decide),λ(e:f<0)=>by omega⟩
 rcases Dv (k:=⟨k.m,k.e⟩) (p:=dz k.m f i) (f:=f) (i:=i) h K w with⟨g,m1,o,A,N,S,G⟩|⟨m1,A,G,F⟩
 .simp only[G];rw[if_neg (by omega)];have l:∀c∈m1.ca,¬(c.f=f/\c.i=i):=λc a=>t c ((A.cas c).1 a).1;have v:qK m1.st f i:=C.same A.vis.files A.vis.lenb;have E:dz k.m f i=dz m1 f i:=by rw[<-gL t,<-gL l];exact(A.vis.con f i C).symm
  rw[E];obtain⟨P,O,Y⟩:=Wn A.rt A.co N S v l;refine⟨rfl,P,O,A.vis.trans Y,fo.trans A.len,A.sll,λp n I => ?_,λF=>by simp only at F;omega,λ_=>(yJ (zU _ _ _)).2 (.inl rfl),A.inv.trans (SS.inv (.of rfl rfl λd E z => ?_) A.rt A.co P O)⟩
  rotate_left
  .have s:∀x,aD (rE m1 g (dz m1 f i) f i) x=if x=g then bK (dz m1 f i) f i else aD m1 x:=λx=>iB N x;have j : (aD (rE m1 g (dz m1 f i) f i) d.k.toNat).d=true:=z;rw[s]at j;have u:d.k.toNat≠g:=λe=>by rw[if_pos e]at j; cases j
   have b:=s d.k.toNat;rw[if_neg u]at b;rcases(yJ (zU _ _ _)).1 E with rfl|J
   .exact absurd (bu g) u
   .exact⟨J,congrArg Fr.d b,congrArg Fr.p b⟩
  exact A.ents p n (λe=>absurd e I)
 simp only[G];rw[if_pos (by decide)];exact⟨rfl,A.rt,A.co,A.vis,A.len,A.sll,λp n I=>A.ents p n (λe=>absurd e I),λ_=>F,λ(e:(0:Int)<=-1)=>absurd e (by decide),A.inv⟩
theorem QZ(k:Kp)(p:Nat)(n:Int)(x:En):(eZ k p n x).m.sp.length=k.m.sp.length:=by
 unfold eZ;split
 .exact vB
 .rfl
theorem Qz(k:Kp)(p:Nat)(n:Int)(x:En):(eZ k p n x).m.ca=k.m.ca:=by unfold eZ;split<;>rfl
theorem Rj(k:Kp)(p:Nat)(n:Int)(x:En):(eZ k p n x).m.m=k.m.m:=by unfold eZ;split<;>rfl
theorem Qh(k:Kp)(f n:Int):(gF k f n).m.sp=k.m.sp:=by unfold gF;split<;>rfl
theorem Re(k:Kp)(f n:Int):(gF k f n).m.ca=k.m.ca:=by unfold gF;split<;>rfl
theorem Qm(k:Kp)(f n:Int):(gF k f n).m.m.fs.length=k.m.m.fs.length:=by
 unfold gF;split
 .rename_i h;show(lW k.m.m f n).fs.length=_;unfold lW;rw[if_pos h];exact bL
 .rfl
theorem Ro(k:Kp)(f n:Int):(nS k f n).m.sp=k.m.sp:=by unfold nS;split<;>rfl
theorem PP(k:Kp)(f n:Int):(nS k f n).m.ca=k.m.ca:=by unfold nS;split<;>rfl
theorem PT(k:Kp)(f n:Int):(nS k f n).m.m=k.m.m:=by unfold nS;split<;>rfl
structure jX (k k' : Kp):Prop where
 sp:k'.m.sp.length=k.m.sp.length
 ca:k'.m.ca=k.m.ca
 fs:k'.m.m.fs.length=k.m.m.fs.length
theorem jX.refl(k:Kp):jX k k:=⟨rfl,rfl,rfl⟩
theorem jX.trans{a b c:Kp}(h:jX a b)(k:jX b c):jX a c:=⟨k.sp.trans h.sp,k.ca.trans h.ca,k.fs.trans h.fs⟩
theorem jX.enter(k:Kp)(p:Nat)(n:Int)(x:En):jX k (eZ k p n x):=⟨QZ k p n x,Qz k p n x,by rw[Rj]⟩
theorem jX.hold(k:Kp)(f n:Int):jX k (gF k f n):=⟨by rw[Qh],Re k f n,Qm k f n⟩
theorem jX.shold(k:Kp)(f n:Int):jX k (nS k f n):=⟨by rw[Ro],PP k f n,by rw[PT]⟩
theorem jX.drop(k:Kp)(p:Nat)(n:Int):jX k (jT k p n):=by
 unfold jT;simp only;split
 .exact(jX.hold _ _ _).trans (jX.enter _ _ _ _)
 split
 .exact(jX.shold _ _ _).trans (jX.enter _ _ _ _)
 .exact .refl _
theorem jX.drops:∀(l:List (Nat × Int)) (k:Kp),jX k (lN k l)
 | [],k => .refl k
 | u::l,k=>(jX.drop k u.1 u.2).trans (jX.drops l _)
theorem jX.swap(f n:Int)(k:Kp)(u:Nat × Int):jX k (Ic f n k u):=(jX.hold _ _ _).trans (jX.enter _ _ _ _)
theorem jX.swaps(f n:Int):∀(l:List (Nat × Int)) (k:Kp),jX k (tC k f n l)
 | [],k => .refl k
 | u::l,k=>(jX.swap f n k u).trans (jX.swaps f n l _)
theorem jX.clean(k:Kp)(f:Nat):jX k (lD k f):=by
 unfold lD;simp only;split
 .exact .refl _
 .exact⟨rfl,rfl,bL⟩
theorem MN(k:Kp)(l:List (Nat × Int))(j:Nat)(h:j<l.length):lN k (l.take (j+1))=jT (lN k (l.take j)) l[j].1 l[j].2:=by
 unfold lN;rw[nR,aF h,DI];rfl
theorem MU(k:Kp)(f n:Int)(l:List (Nat × Int))(j:Nat)(h:j<l.length):tC k f n (l.take (j+1))=Ic f n (tC k f n (l.take j)) l[j]:=by
 unfold tC;rw[nR,aF h,DI];rfl
theorem rz.stay(h:rz w B v ps)(e:w.grownBy w' none):rz w' B v ps:=⟨lK h.own e,λk p i=>lK (h.each k p i) e,h.apart⟩
theorem sG.stay{t:Tb}(h:sG w B cs t)(i:w.grownBy w' none):sG w' B cs t:=
 ⟨h.sz,λk e=>by obtain⟨v,o,h2⟩:=h.own k e;exact⟨v,o,lK h2 i⟩,h.apart⟩
theorem lH.cache{e:Int}(h:lH w B b H e)(s:KS w0 b H0 w H)(i:w.grownBy w1 (oB H.ac)){l:List Cc}(D:Own w1 B 122 3 (.slice a l.length c) l.length (l.flatMap iQ))(C:oB a=oB H.ac\/∀g,oB a=some g->w0.heap.size<=g) :
  aG w1 b (rD H e) 109/\∀A,aG A b (bJ (rD H e) 9 [.slice a l.length c]) 109->w1.grownBy A (some b)->lH A B b { H with ac:=a,cc:=c,ca:=l } e/\KS w0 b H0 A { H with ac:=a,cc:=c,ca:=l }:=by
 have y:aG w1 b (rD H e) 109:=by refine h.blk.grown i λe => ?_;obtain⟨_,cs,t⟩:=je h.ma.ca e;exact mD h.blk t (by decide) rfl
 have u:wV w1 B { H with ac:=a,cc:=c,ca:=l }:=by
  cases hac:oB H.ac with
  | none=>
   rw[hac]at i;exact⟨lK h.ma.fr i,lK h.ma.sl i,⟨lK h.ma.sw.b i,lK h.ma.sw.q i⟩,⟨lK h.ma.dk.b i,lK h.ma.dk.q i⟩,h.ma.st.stay i,D,lK h.ma.sp i,λq z=>⟨lK (h.ma.ps q z).1 i,(h.ma.ps q z).2.stay i⟩,h.ma.c64⟩
  | some g=>
   rw[hac]at i;obtain⟨_,cs,t⟩:=je h.ma.ca hac;exact⟨ax h.ma.fr t (by decide) i,ax h.ma.sl t (by decide) i,h.ma.sw.keep t (by decide) (by decide) i,h.ma.dk.keep t (by decide) (by decide) i,h.ma.st.keep t (by decide) (by decide) i,D,ax h.ma.sp t (by decide) i,λq z=>⟨ax (h.ma.ps q z).1 t (by decide) i,(h.ma.ps q z).2.keep t (by decide) i⟩,h.ma.c64⟩
 have E:KS w0 b H0 w1 H:=by
  cases hac:oB H.ac with
  | none=>
   rw[hac]at i;exact⟨i.os.trans s.os,i.tape.trans s.tape,i.output.trans s.output,bi s.size i.size,λx o F=>(i.block x (oL o s.size) (by simp)).trans (s.keep x o F),s.sn⟩
  | some g=>rw[hac]at i;exact s.put i (.inr (.inr (.inl hac))) λx o => .inl o
 refine⟨y,λA t d=>⟨⟨t,h.ge,?_,h.tz⟩,E.put d (.inl rfl) λx o => ?_⟩⟩
 .exact⟨ax u.fr y (by decide) d,ax u.sl y (by decide) d,u.sw.keep y (by decide) (by decide) d,u.dk.keep y (by decide) (by decide) d,u.st.keep y (by decide) (by decide) d,ax u.ca y (by decide) d,ax u.sp y (by decide) d,λq z=>⟨ax (u.ps q z).1 y (by decide) d,(u.ps q z).2.keep y (by decide) d⟩,u.c64⟩
 rcases o with o|o|o|o
 .exact .inl (.inl o)
 .exact .inl (.inr (.inl o))
 .rcases C with e|e
  .exact .inl (.inr (.inr (.inl (by rw[<-e];exact o))))
  .exact .inr (e x o)
 .exact .inl (.inr (.inr (.inr o)))
theorem PN{k:Kp}(h:lT k.m f=false):lD k f=k:=by
 unfold lT at h;simp only[Eh,decide_eq_false_iff_not]at h;unfold lD;simp only;rw[if_pos (.inr (.inr h.2))]
theorem Oq(u:Nat × Int):(uC u).all (·.oneCell')=true:=by simp[uC,Value.oneCell']
theorem slca_size:(Tryz.prog.info? 42).map (·.size)=some 1:=by kernel_rfl
theorem Wx{l:List (Nat × Int)}(h:eB w a (l.flatMap uL))(k:Nat)(i:k<l.length):∃b e,a=some ⟨b,e,none⟩/\eB w (some ⟨b,e+k*2,none⟩) [.int .i64 l[k].1,.int .i64 l[k].2]:=kE Xq (by decide) h k i
theorem MK(H:MH)(e:Int)(f:Nat)(B b:Nat)(w:World)(h:lH w B b H e)(hf:f<H.m.fs.length)(hz:H.sp.length<=1000)(hz2:H.ca.length<=1000) :
  Calls Tryz.prog 173 #[.pointer (some ⟨b,0,none⟩),.int .i64 f] w λr w'=>r = .returned (.bool (nE H.ma f))/\KR w B b H w' (gG ⟨H.ma,e⟩ f):=by
 obtain⟨g,off,cur,gb,gu,k1,kW,kL,gt,gs,kJ⟩:=h.frame hf;generalize hx:aD H.ma f=x at *
 have hR:=ae hx;clear hx kJ gt;have hc:=h.blk.cell;unfold rD at hc;rw[gb]at hc;have gM:(f:Int)<(H.m.fs.length:Int):=by omega
 go_enter func173,ntmps173
 go_wp2_with (first | (refine ay _ _ rfl g (off+f*13) rfl rfl _ kL _ underlying66 rfl frame_size ?_) | (refine aK rfl _ _ _ rfl (tX x) rfl rfl rfl frame_size (oG x) ?_))
 intro w1 kz kn;have h1:=h.below kz;have s1:=(KS.refl w b H).below kz;have hp:¬kb b H w.heap.size:=λZ=>by obtain⟨cs,T,D,_⟩:=h.kb_T Z;have:=D.lt;omega
 have gc:=ae h.bs;clear hc kL k1 kW kz gu gs gb h
 go_wp2_with fail
 refine(NC H e f B b _ h1 hz).mono ?_;rintro r w2 ⟨v2,rfl,hL,hX⟩;obtain⟨a2,c2,rfl,_⟩:=hL.rd;have h2:=h1.below hX;have s2:=s1.below hX;have hs:=kn.ext hX;have gI:=kn.lt;clear h1 s1 kn hX;have hB:=hs.cell;unfold tX at hB
 by_cases J:0<=x.f
 .go_wp2_with fail
  refine(Oa H e f B b _ h2 hf).mono ?_;rintro r E ⟨rfl,H3,e3,h3,S,q3⟩;have hy:=S.own h2 (hL.mono (bq _)) (by decide);have hN:¬kb b H w.heap.size:=hp;have km:=S.blkN hs hN;have ki:¬kb b H3 w.heap.size:=λZ=>(S.sn _ Z).elim hN (λhh=>by have:=hs.lt;omega);have s03:=s2.trans S;have kR:H3.sp.length=H.sp.length/\H3.ca=H.ca/\H3.m.fs.length=H.m.fs.length:=by have C:=jX.clean ⟨H.ma,e⟩ f;rw[<-q3]at C;exact⟨by have:=C.sp;simp only[tV]at this;exact this,C.ca,C.fs⟩
  have gh:=hs.lt;clear hB hs hL h2 s2 S hp hN;cases hcb:lT H.ma f with
  | false=>
   have C:Hid (gG ⟨H.ma,e⟩ f=⟨H.ma,e⟩/\nE H.ma f=false):=ae (by unfold gG nE;simp only[hR.out];rw[if_pos J,if_pos hcb,if_pos J];exact⟨rfl,hcb⟩);rw[PN (k:=⟨H.ma,e⟩) hcb]at q3;have gk:=ae q3;clear q3 km;go_wp2;go_ret;rw[C.out.1,C.out.2];exact⟨rfl,_,_,h3,s03,gk.out⟩
  | true=>
   have Q:Hid (bC H.ma f=bC H.ma f):=ae rfl;have gm:(bC H.ma f).length<=64000:=by
    have:=Dt H.ma f H.sp.length;have e1:tT H.ma f H.sp.length=bC H.ma f:=by unfold tT bC;rw[tV]
    rw[e1]at this;omega
   obtain⟨G,kw⟩:∃k,k=lD ⟨H.ma,e⟩ f:=⟨_,rfl⟩;rw[<-kw]at q3;have hI:∀u∈bC H.ma f,u.1<H.sp.length:=λu Q=>by have:=(vF.1 Q).1;rw[tV]at this;exact this
   have C:Hid (nE H.ma f=true/\gG ⟨H.ma,e⟩ f=if JZ (lN G (bC H.ma f)).m.ca x.f x.i=true then gF ⟨{ (lN G (bC H.ma f)).m with ca:=(lN G (bC H.ma f)).m.ca.eraseIdx (sS (lN G (bC H.ma f)).m.ca x.f x.i) },(lN G (bC H.ma f)).e⟩ f (-1)else lN G (bC H.ma f)):=ae (by unfold gG nE;simp only[hR.out];rw[if_pos J,if_pos J,if_neg (by rw[hcb];decide),kw];exact⟨hcb,rfl⟩);generalize bC H.ma f=l at *
   have q3':=ae q3;have hH:=ae hI;clear q3 hcb kw Q hI;go_upto_region 7 with(fail)
   go_loopw [38] (fun s38 wr => ∃(j:Nat) (A:MH) (O:Int),j<=l.length/\s38 = .int .i64 j/\lH wr B b A O/\KS w b H wr A/\Hid (Kp.mk A.ma O=lN G (l.take j))/\Own wr 0 247 2 (.slice a2 l.length c2) l.length (l.flatMap uL)/\aG wr w.heap.size (tX x) 66/\¬kb b A w.heap.size/\A.sp.length=H.sp.length/\A.ca=H.ca) (fun s38 _=>l.length-(intOf s38).toNat)
   case atStart=>exact⟨0,H3,e3,bq _,rfl,h3,s03,ae (by rw[q3'.out];rfl),hy,km,ki,kR.1,kR.2.1⟩
   case round=>
    clear hy km ki h3 s03;obtain⟨j,A,O,hj,rfl,ha,F,V,z,hQ,kh,hM,ky⟩:=hrel
    by_cases I:j<l.length
    .have kx:(j:Int)<(l.length:Int):=by omega
     obtain⟨_,_,e9,_,_,_,hG⟩:=z.rd;cases e9;obtain⟨bl,ol,rfl,hF⟩:=Wx hG j I;have kp:l[j].1<H.sp.length:=hH.out _ (eu I)
     go_wp2_with (first | (refine ay _ _ rfl bl (ol+j*2) rfl rfl _ hF _ underlying247 rfl us_size ?_) | (refine aK rfl _ _ _ rfl (uC l[j]) rfl rfl rfl us_size (Oq _) ?_))
     intro w5 Y kH;have R:=ha.below Y;have U:=F.below Y;have hJ:=z.below Y;have hD:=hQ.ext Y;have gD:=hD.lt;clear ha F z hQ hG hF Y;have k0:=kH.cell;unfold uC at k0
     go_wp2_with fail
     refine(BA A O l[j].2 l[j].1 B b _ R (by rw[hM];exact kp)).mono ?_;rintro r w6 ⟨rfl,H6,e6,h6,P,q6⟩;have s:=P.own R hJ (by decide);have gg:=P.blkN hD kh;have kT:¬kb b H6 w.heap.size:=λZ=>(P.sn _ Z).elim kh (λhh=>by omega);have s06:=U.trans P;have hU:H6.sp.length=H.sp.length/\H6.ca=H.ca:=by have C:=jX.drop ⟨A.ma,O⟩ l[j].1 l[j].2;rw[<-q6]at C;exact⟨by have:=C.sp;simp only[tV]at this;rw[this,hM],by have:=C.ca;exact Eq.trans this ky⟩
     have kt:Hid (Kp.mk H6.ma e6=lN G (l.take (j+1))):=ae (by rw[MN G l j I,<-V.out];exact q6);clear q6 R U hJ hD k0 kH P;go_wp2;go_roundw
     case rel=>exact⟨j+1,H6,e6,by omega,by go_num,h6,s06,kt,s,gg,kT,hU.1,hU.2⟩
     case measure=>simp[intOf];omega
    have kx:¬(j:Int)<(l.length:Int):=by omega
    rw[jD (by omega)]at V;clear z;generalize hkd:lN G l=kd at *
    clear hkd;have hB:=hQ.cell;unfold tX at hB;have kM:=ae (show kd.m.ca=A.ca by rw[<-V.out];rfl);have gr:A.ca.length<=1000:=by rw[ky];exact hz2
    clear ky hM
    go_wp2_with fail
    refine(DR A O x.f x.i B b _ ha).mono ?_;rintro r w5 ⟨rfl,Y⟩;have R:=ha.below Y;have U:=F.below Y;clear ha F Y hB hQ;cases hi:JZ A.ca x.f x.i with
    | false=>
     have ku:Hid (gG ⟨H.ma,e⟩ f=kd):=ae (by rw[C.out.2,kM.out,hi];rfl);generalize sS A.ca x.f x.i=k at *
     go_wp2;go_ret;rw[C.out.1,ku.out];exact⟨rfl,_,_,R,U,V.out⟩
    | true=>
     have ku:Hid (gG ⟨H.ma,e⟩ f=gF ⟨{ kd.m with ca:=A.ca.eraseIdx (sS A.ca x.f x.i) },kd.e⟩ f (-1)):=ae (by rw[C.out.2,kM.out,hi,if_pos rfl]);obtain⟨c,hc,_,_⟩:=JD hi;have kS:=(cz.1 hc).1;clear hc hi;generalize sS A.ca x.f x.i=k at *
     have kX:=R.blk.cell;unfold rD at kX;have gJ:(k:Int)+1<=1000:=by omega
     have hS:IntKind.i64.wrap ((k:Int)+1)=(k:Int)+1:=bI _ (by omega)
     go_wp2_with fail
     refine(Lh A.ca k kS A.ac A.cc B _ R.ma.ca gr).mono ?_;rintro r w6 ⟨rfl,s,hg⟩;have kg:(A.ca.eraseIdx k).length=A.ca.length-1:=AO kS;rw[<-kg]at s;obtain⟨hK,kq⟩:=R.cache U hg (a:=A.ac) (c:=A.cc) (l:=A.ca.eraseIdx k) s (.inl rfl);rw[kg]at kq;clear kX R U s hg
     go_wp2_with (refine aB rfl _ _ _ rfl b 9 _ [.slice A.ac (A.ca.length-1) A.cc] rfl rfl rfl _ _ hK (by show 9+1<=12;decide) slca_size (λu Q=>by cases bB.1 Q;rfl) ?_)
     intro w7 hP hr;obtain⟨h7,s7⟩:=kq w7 hP hr;clear kq hK hP hr
     go_wp2_with fail
     refine(yI _ O f (-1) B b _ h7).mono ?_;rintro r w8 ⟨rfl,gp⟩;go_wp2;go_ret;rw[C.out.1,ku.out,<-V.out];exact⟨rfl,KR.trans s7 gp⟩
 have kj:=h2.blk.cell;unfold rD at kj;have hm:=h2.ma.rd.sl;have gm:(bC H.ma f).length<=64000:=by
  have:=Dt H.ma f H.sp.length;have e1:tT H.ma f H.sp.length=bC H.ma f:=by unfold tT bC;rw[tV]
  rw[e1]at this;omega
 have hI:∀u∈bC H.ma f,u.1<H.sp.length:=λu Q=>by have:=(vF.1 Q).1;rw[tV]at this;exact this
 have ks:Hid (nE H.ma f=decide (ja H.sl (bC H.ma f).length=0)):=ae (by unfold nE;rw[hR.out,if_neg J];rfl);have kr:Hid (gG ⟨H.ma,e⟩ f=if ja H.sl (bC H.ma f).length≠0 then⟨H.ma,e⟩else tC ⟨{ H.ma with sl:=ng H.sl (bC H.ma f).length,sw:=dP H.sw (kI H.sl (bC H.ma f).length) x.p },jw e (aJ H.sw (kI H.sl (bC H.ma f).length))⟩ f (kI H.sl (bC H.ma f).length) (bC H.ma f)):=ae (by unfold gG;simp only[hR.out];rw[if_neg J];rfl);generalize bC H.ma f=l at *
 have hH:=ae hI;clear hI
 go_wp2_with fail
 refine(Mm H.sl H.asl H.csl (l.length:Int) _ hm.le hm.nl hm.rd (by have:=hm.le;have:=hm.mx;unfold maxLen at this;omega)).mono ?_;rintro r E ⟨v3,rfl,hy,hv⟩;obtain⟨a3,c3,rfl,_⟩:=hy.rd;have G:=h2.below hv;have S:=s2.below hv;have kx3:=hs.ext hv;have kf:=hL.below hv;have gi:=ae s2.size;clear hB kj h2 s2 hs hL hv hm
 by_cases hE:ja H.sl l.length=0
 .have C:Hid (nE H.ma f=true/\gG ⟨H.ma,e⟩ f=tC ⟨{ H.ma with sl:=ng H.sl l.length,sw:=dP H.sw (kI H.sl l.length) x.p },jw e (aJ H.sw (kI H.sl l.length))⟩ f (kI H.sl l.length) l):=ae (by rw[ks.out,kr.out,hE];exact⟨rfl,rfl⟩);rw[hE];clear hE ks kr;generalize kI H.sl l.length=N at *
  go_upto_region 19 with(fail);refine ko 15 [_,_,_,_,_,_,_,_,.r 8 ((CZ E.heap.size (dP H.sw N x.p) (aJ H.sw N))),.r 9 ((CZ E.heap.size (dP H.sw N x.p) (aJ H.sw N))),.r 10 ((yY E.heap.size (dP H.sw N x.p))),.v (.int .i64 (aJ H.sw N)),.r 12 ((iN E.heap.size 38 2)),.y 13 ((Lc 12 E.heap.size 38 (yY E.heap.size (dP H.sw N x.p)))),.v (.int .i64 (aJ H.sw N))] (λW=>Below E.heap.size E W) dS (Below.refl _ _) (Yk dS rfl (Yk dS rfl (Yf dS b 0 rfl rfl (Yf dS b 3 rfl rfl (Yr dS (.agg #[.slice H.wb H.sw.blocks.length H.cwb,.slice H.wq H.sw.queue.length H.cwq]) (λρ y W D kA=>(bH rfl (aL rfl kA) (G.below D).rdW underlying38 rfl disk_size)) rfl rfl (Yk dS rfl (Yf dS w.heap.size 0 rfl rfl (Yr dS (.agg (eQ x.p)) (λρ y W D kA=>(bH rfl (aL rfl kA) (bF (kx3.ext D) 0 8) underlying58 rfl psize)) rfl rfl (ah ?_ (ah ?_ (ah ?_ (ah ?_ (ah ?_ (ah ?_ (Yk dS rfl (aI)))))))))))))))) (λ_=>rfl) rfl ?_
  .intro ρ y W K hn D L;refine iY dS D ((CZ E.heap.size (dP H.sw N x.p) (aJ H.sw N))) (λ_ _ h=>h) ?_;have gB:=K 94 4 rfl;have h4:y 4=_:=L 4 rfl;have gA:=K 95 5 rfl;have R:y 5=_:=L 5 rfl;have gz:=K 97 7 rfl;have h7:y 7=_:=L 7 rfl;have EF:=eF0 hn λ_=>trivial;refine aO _ _ (aj rfl) (aS rfl (EF _) func193 (by kernel_rfl) (by kernel_rfl) (by simp only[bW,bQ,aZ,gB,h4,gA,R,gz,h7,EF];rfl)) ?_;refine(FL H.sw N x.p H.wb H.cwb H.wq H.cwq W (G.below D).ma.rd.sw).mono ?_;rintro r W3 ⟨vb,vq,rfl,ho,hv⟩;exact⟨_,rfl,hv,vb,vq,rfl,ho.mono D.size⟩
  .intro ρ y W K hn D L;refine iY dS D ((CZ E.heap.size (dP H.sw N x.p) (aJ H.sw N))) (λ_ _ h=>h) ?_;have gy:=K 98 8 rfl;have h8:=L 8 rfl;refine ak _ (aj rfl) (run_move (.inl rfl) gy) ?_;exact h8
  .intro ρ y W K hn D L;refine iY dS D ((yY E.heap.size (dP H.sw N x.p))) (λ_ _ h=>h) ?_;have kB:=K 89 9 rfl;have h9:=L 9 rfl;obtain⟨vb,vq,Q,ho⟩:=h9;refine ak (.agg #[vb,vq]) (aj rfl) (by simp[execOp,go_sem,bU,kB,Q]) ?_;exact⟨vb,vq,rfl,ho⟩
  .intro ρ y W K hn D L;refine iY dS D (mZ (.int .i64 (aJ H.sw N))) (λ_ _ h=>h) ?_;have kB:=K 89 9 rfl;have h9:=L 9 rfl;obtain⟨vb,vq,Q,ho⟩:=h9;refine ak (.int .i64 (aJ H.sw N)) (aj rfl) (by simp[execOp,go_sem,bU,kB,Q]) rfl
  .intro ρ y W K hn D L;refine iY dS D ((iN E.heap.size 38 2)) (λ_ _ h=>h) ?_;refine jh (.pointer (some ⟨W.heap.size,0,none⟩)) (aj rfl) (by simp[execOp,go_sem,bU]) ((Below.refl _ _).alloc (az _) (.cells #[.slice none 0 0,.slice none 0 0] 38)) ?_;exact⟨_,_,rfl,D.size,aG.new _ _ _,rfl⟩
  .intro ρ y W K hn D L;have gC:=K 14 12 rfl;have gv:=L 12 rfl;have gx:=K 99 10 rfl;have gw:=L 10 rfl;obtain⟨vb,vq,e7,kv⟩:=gw;obtain⟨g3,cur3,e9,kV,hC,kK⟩:=gv;obtain⟨ab,cb,rfl,_⟩:=kv.b.rd;obtain⟨aq,cq,rfl,_⟩:=kv.q.rd;refine mh (aj rfl) _ _ _ rfl g3 0 (.agg #[.slice ab _ cb,.slice aq _ cq]) [.slice ab _ cb,.slice aq _ cq] (gC.trans e9) (gx.trans e7) rfl cur3 _ hC (by rw[kK];exact az _) disk_size (bT (xG _ _ _ _ _ _)) ?_;intro w1 hS hA;rw[show ∀(p q:Value),[p,q]=(#[p,q]:Array Value).toList fromλ_ _=>rfl,gK cur3 _ (by rw[kK];rfl)]at hS;refine⟨D.grown hA D.size (λk Z=>by cases Z;exact kV),⟨g3,_,e9,kV,hS,⟨_,_,rfl,kv.keep hC (by decide) (by decide) hA⟩⟩,?_⟩;intro k Z gl
   match k,Z,gl with
   | 0,_,_|1,_,_|2,_,_|3,_,_|4,_,_|5,_,_|6,_,_|7,_,_=>exactλh=>h
   | 8,_,_|9,_,_|10,_,_=>exactλ⟨c,q0,q1,q2⟩=>⟨c,q0,q1,q2.keep hC (by decide) (by decide) hA⟩
   | 11,_,_=>exactλh=>h
   | 12,_,_=>exactλq=>kZ q hS (λ_=>rfl) ⟨_,hC⟩ hA
   | 13,_,h=>exact absurd rfl h
   | 14,_,_=>exactλh=>h
   | n+15,h,_=>exact absurd h (by omega)
  intro y W4 d t;replace d:Below E.heap.size E W4:=d;have gf:((CZ E.heap.size (dP H.sw N x.p) (aJ H.sw N))).r (y 8) W4:=t 8 (by decide);have ge:((CZ E.heap.size (dP H.sw N x.p) (aJ H.sw N))).r (y 9) W4:=t 9 (by decide);have kE:((yY E.heap.size (dP H.sw N x.p))).r (y 10) W4:=t 10 (by decide);have kD:((iN E.heap.size 38 2)).r (y 12) W4:=t 12 (by decide);have kC:=t 13 (by decide);clear t;simp only[dm,bU,bQ,aZ];obtain⟨gd,cd,gH,gL,k2,vb,vq,hV,hT⟩:=kC;simp only[ym]at hV;subst hV;obtain⟨ab,cb,rfl,_⟩:=hT.b.rd;obtain⟨aq,cq,rfl,_⟩:=hT.q.rd;have k4:=G.below d;have s4:=S.below d;have kx4:=kx3.ext d;have ke:=kf.below d;have hZ:=hy.below d;have gj:=ae S.size;have gE:=kx4.lt;clear gf ge kE kD G S kx3 kf hy d
  go_wp2_with fail
  refine(tu _ e (aJ H.sw N) _ _ _ k4).mono ?_;rintro r w5 ⟨rfl,k5,ht⟩;have U:=s4.putB ht rfl rfl rfl;have kx5:aG w5 w.heap.size (tX x) 66:=kx4.grown ht (λe=>hp (.inl (aM e).symm));have kc:=ax ke k4.blk (by decide) ht;have hY:=ax hZ k4.blk (by decide) ht;have hJ:=hT.keep k4.blk (by decide) (by decide) ht;have hO:=bY k2 k4.blk (by decide) ht;clear k4 s4 kx4 ke hZ hT k2 ht;have hcb:=k5.blk.cell;have gq:=k5.blk.free;unfold rD at hcb;have hV:=hO.cell;have n2:=mD k5.blk hO (by decide);go_upto_region 21 with(fail)
  go_region
  refine TD (w:=w5.setCells b 2 [.slice a3 (ng H.sl l.length).length c3]) (b:=b) (o:=3) (vs:=[.slice ab (dP H.sw N x.p).blocks.length cb,.slice aq (dP H.sw N x.p).queue.length cq]) (λW=>Exit.then _ _ _ _ W) λw7 hr hP => ?_;have hg:=aC w5 b 2 [.slice a3 (ng H.sl l.length).length c3];have ga:=k5.blk.setCells [.slice a3 (ng H.sl l.length).length c3] 2;have k6:=k5.setL (hY.mono (bi gc.out gi.out)) ga hg;have P:=U.putB (H':={ H with asl:=a3,csl:=c3,sl:=ng H.sl l.length }) hg rfl rfl rfl;have s:=hJ.keep k5.blk (by decide) (by decide) hg;have ka:=ax kc k5.blk (by decide) hg;have kx6:=kx5.grown hg (λe=>hp (.inl (aM e).symm));have kl:=hP k6.blk;have k7:=k6.setW (s.mono (bi gc.out gj.out)) kl hr;have s7:=P.putB (H':={ H with asl:=a3,csl:=c3,sl:=ng H.sl l.length,wb:=ab,cwb:=cb,wq:=aq,cwq:=cq,sw:=dP H.sw N x.p }) hr rfl rfl rfl;have h0:=(ax ka k6.blk (by decide) hr).mono (bq _);have kx7:=kx6.grown hr (λe=>hp (.inl (aM e).symm));clear hP kl hr k6 P s ka kx6 ga hg k5 U kx5 kc hY hJ hO hcb gq hV;generalize hH7:({ H with asl:=a3,csl:=c3,sl:=ng H.sl l.length,wb:=ab,cwb:=cb,wq:=aq,cwq:=cq,sw:=dP H.sw N x.p }:MH)=H7 at k7 s7;have kP:Hid (Kp.mk H7.ma (jw e (aJ H.sw N))=⟨{ H.ma with sl:=ng H.sl l.length,sw:=dP H.sw N x.p },jw e (aJ H.sw N)⟩):=ae (by rw[<-hH7];rfl);have gn:H7.sp.length=H.sp.length:=by rw[<-hH7]
  rw[<-kP.out]at C;clear hH7 kP;generalize jw e (aJ H.sw N)=e7 at *
  generalize hk7:Kp.mk H7.ma e7=kk at *
  have kU:=ae hk7;clear hk7;go_upto_region 23 with(fail)
  go_loopw [116] (fun s116 wr => ∃(j:Nat) (A:MH) (O:Int),j<=l.length/\s116 = .int .i64 j/\lH wr B b A O/\KS w b H wr A/\Hid (Kp.mk A.ma O=tC kk f N (l.take j))/\Own wr 0 247 2 (.slice a2 l.length c2) l.length (l.flatMap uL)/\A.sp.length=H.sp.length) (fun s116 _=>l.length-(intOf s116).toNat)
  case atStart=>exact⟨0,H7,e7,bq _,rfl,k7,s7,ae (by rw[kU.out];rfl),h0,gn⟩
  case round=>
   clear k7 s7 h0 kx7;obtain⟨j,A,O,hj,rfl,ha,F,V,z,hM⟩:=hrel
   by_cases I:j<l.length
   .have kx:(j:Int)<(l.length:Int):=by omega
    obtain⟨_,_,e9,_,_,_,hG⟩:=z.rd;cases e9;obtain⟨bl,ol,rfl,hF⟩:=Wx hG j I;have kp:l[j].1<H.sp.length:=hH.out _ (eu I)
    go_wp2_with (first | (refine ay _ _ rfl bl (ol+j*2) rfl rfl _ hF _ underlying247 rfl us_size ?_) | (refine aK rfl _ _ _ rfl (uC l[j]) rfl rfl rfl us_size (Oq _) ?_))
    intro w8 hW kG;have k8:=ha.below hW;have s8:=F.below hW;have kO:=z.below hW;clear ha F z hG hF hW
    go_wp2_with fail
    refine(yI A O f (-1) B b _ k8).mono ?_;rintro r w9 ⟨rfl,H9,e9,k9,s9,q9⟩;have kN:=s9.own k8 kO (by decide);have kF:=s9.blk k8 kG (by decide);have s09:=s8.trans s9;have kQ:H9.sp.length=H.sp.length:=by have C:=jX.hold ⟨A.ma,O⟩ f (-1);rw[<-q9]at C;have:=C.sp;simp only[tV]at this;rw[this,hM]
    have q9':=ae q9;clear k8 s8 kO kG s9 q9;have kY:=kF.cell;unfold uC at kY
    go_wp2_with fail
    refine(jl H9 e9 l[j].2 l[j].1 ⟨2,N,false⟩ B b _ k9 (by rw[kQ];exact kp)).mono ?_;rintro r w6 ⟨rfl,H6,e6,h6,P,q6⟩;have s:=P.own k9 kN (by decide);have s06:=s09.trans P;have kt:Hid (Kp.mk H6.ma e6=tC kk f N (l.take (j+1))):=ae (by rw[MU kk f N l j I,<-V.out];unfold Ic;rw[<-q9'.out];exact q6);have hU:H6.sp.length=H.sp.length:=by have C:=jX.enter ⟨H9.ma,e9⟩ l[j].1 l[j].2 ⟨2,N,false⟩;rw[<-q6]at C;have:=C.sp;simp only[tV]at this;rw[this,kQ]
    clear q6 k9 s09 kN kY kF P;go_wp2;go_roundw
    case rel=>exact⟨j+1,H6,e6,by omega,by go_num,h6,s06,kt,s,hU⟩
    case measure=>simp[intOf];omega
   have kx:¬(j:Int)<(l.length:Int):=by omega
   rw[jD (by omega)]at V;clear z;go_wp2;go_ret;rw[C.out.1,C.out.2];exact⟨rfl,_,_,ha,F,V.out⟩
 have C:Hid (nE H.ma f=false/\gG ⟨H.ma,e⟩ f=⟨H.ma,e⟩):=ae (by rw[ks.out,kr.out,if_pos hE];exact⟨decide_eq_false hE,rfl⟩);go_wp2;go_ret;rw[C.out.1,C.out.2];exact⟨rfl,_,_,G,S,rfl⟩
structure si (k k' : Kp):Prop where
 sp:k'.m.sp.length=k.m.sp.length
 ca:k'.m.ca.length<=k.m.ca.length
 fs:k'.m.m.fs.length=k.m.m.fs.length
theorem si.refl(k:Kp):si k k:=⟨rfl,az _,rfl⟩
theorem si.trans{a b c:Kp}(h:si a b)(k:si b c):si a c:=⟨k.sp.trans h.sp,bi k.ca h.ca,k.fs.trans h.fs⟩
theorem jX.l{a b:Kp}(h:jX a b):si a b:=⟨h.sp,by rw[h.ca];exact az _,h.fs⟩
theorem si.evict(k:Kp)(f:Nat):si k (gG k f):=by
 unfold gG;simp only;split
 .split
  .exact .refl _
  have e:=(jX.clean k f).trans (jX.drops (bC k.m f) (lD k f));split
  .refine(si.trans ?_ (jX.hold _ f (-1)).l);exact⟨e.sp,by show(List.eraseIdx _ _).length<=_;rw[e.ca];exact List.length_eraseIdx_le _ _,e.fs⟩
  .exact e.l
 split
 .exact .refl _
 refine si.trans ?_ (jX.swaps _ _ _ _).l;exact⟨rfl,az _,rfl⟩
theorem Hg{m:Mem}(h:bv m=0):(gP m).fs.length=m.fs.length:=by
 unfold gP;rw[if_neg (by rw[h];simp)];split
 .rfl
 .exact jE _ _
theorem UJ{m:Mem}(h:bv m=0)(i:¬jq m<0):(jq m).toNat<m.fs.length/\jq m=(((jq m).toNat:Nat):Int):=by
 unfold jq at i ⊢;rw[if_neg (by rw[h];simp)]at i ⊢;split at i
 .omega
 rename_i e;rw[if_neg e];have a:0<m.fs.length:=by
  rcases ug m.fs.length with o|o
  .have:=Ew m.fs;omega
  .exact o
 rw[bu];exact⟨qw a _,rfl⟩
theorem si.reclaim:∀(t:Nat) (k:Kp),si k (reclaimN t k).1
 | 0,k => .refl k
 | t+1,k=>by
  unfold reclaimN;simp only;split
  .exact⟨rfl,az _,rfl⟩
  rename_i o;have i:bv k.m.m=0:=by
   by_cases e:bv k.m.m=0
   .exact e
   .exact absurd (.inl e) o
  have h:si k ⟨{ k.m with m:=gP k.m.m },k.e⟩:=⟨rfl,az _,Hg i⟩;split
  .exact h.trans (.evict _ _)
  .exact(h.trans (.evict _ _)).trans (si.reclaim t _)
theorem si.took(k:Kp)(p:Page)(f i:Int):si k (eO k p f i).1:=by
 have e:∀k:Kp,si k (kT k p f i).1:=λk=>by
  unfold kT;split
  .exact .refl _
  rename_i h;refine⟨rfl,az _,?_⟩;show(fB k.m.m p f i).fs.length=_;unfold fB;rw[if_pos (by simpa using h)];exact bL
 unfold eO;split
 .split
  .exact(si.reclaim _ k).trans (e _)
  .exact si.reclaim _ k
 .exact e k
theorem Yo{k:Kp}{e:Int}(q:Kp.mk H.ma e=k):H.sp.length=k.m.sp.length/\H.ca=k.m.ca/\H.m=k.m.m:=by
 subst q;exact⟨(tV H).symm,rfl,rfl⟩
theorem IU(H:MH)(e:Int)(B b:Nat)(w:World)(h:lH w B b H e)(hz:H.sp.length<=1000)(Y:H.ca.length<=1000)(hz3:H.m.fs.length<=1000) :
  Calls Tryz.prog 135 #[.pointer (some ⟨b,0,none⟩)] w λr w'=>r = .returned (.bool (gV ⟨H.ma,e⟩).2)/\KR w B b H w' (gV ⟨H.ma,e⟩).1:=by
 have U:=h.blk.cell;unfold rD at U;have hw:=ae h.bs;go_enter func135,ntmps135;have hp:IntKind.i64.wrap (2*(H.m.fs.length:Int))=2*(H.m.fs.length:Int):=bI _ (by omega);have hn:IntKind.i64.wrap (2*(H.m.fs.length:Int)+1)=2*(H.m.fs.length:Int)+1:=bI _ (by omega);go_upto_region 2 with(fail);have Q:Hid (gV ⟨H.ma,e⟩=reclaimN (2*H.m.fs.length+1) ⟨H.ma,e⟩):=ae rfl;have h':=ae h;generalize hNN:2*H.m.fs.length+1=N at Q;have hi:(2*(H.m.fs.length:Int)+1)=(N:Int):=by omega
 have hu:N<=2001:=by omega
 clear h U hp hn;rw[hi];clear hi hNN
 go_loopw [15] (fun s15 wr => ∃(j:Nat) (A:MH) (C:Int),j<=N/\s15 = .int .i64 j/\lH wr B b A C/\KS w b H wr A/\Hid (reclaimN N ⟨H.ma,e⟩=reclaimN (N-j) ⟨A.ma,C⟩)/\Hid (A.sp.length=H.sp.length/\A.ca.length<=H.ca.length/\A.m.fs.length=H.m.fs.length)) (fun s15 _=>N-(intOf s15).toNat)
 case atStart=>exact⟨0,H,e,bq _,rfl,h'.out,.refl _ _ _,ae rfl,ae ⟨rfl,az _,rfl⟩⟩
 case round=>
  clear h';obtain⟨j,A,C,hj,rfl,d,G,S,hl⟩:=hrel
  by_cases hjl:j<N
  .have hs:(j:Int)<(N:Int):=by omega
   go_wp2_with (refine ay _ _ rfl b 0 rfl rfl _ d.rdM _ underlying32 rfl mem_size ?_)
   refine(Pk A.m _ _ _ d.ma.rd.fr).mono ?_;rintro r w1 ⟨vb,rfl,Z,u⟩;obtain⟨D,E,rfl,_⟩:=Bl Z;have h1:=d.below u;have s1:=G.below u;have ht:=ae d.bs;have hm:=ae G.size;clear d G u
   go_wp2_with (refine aK rfl _ _ _ rfl #[.slice D (gP A.m).fs.length E,.int .i64 (gP A.m).hand] rfl rfl rfl mem_size (iT _ _ _ _) ?_)
   intro w2 l v;have h2:=h1.below l;have s2:=s1.below l;have x:=Z.below l;clear h1 s1 Z l
   go_wp2_with fail
   refine(tu _ C (bv A.m) _ _ _ h2).mono ?_;rintro r w3 ⟨rfl,K,k⟩;have R:=s2.putB k rfl rfl rfl;have q:=ax x h2.blk (by decide) k;have p:=bY v h2.blk (by decide) k;clear h2 s2 x v k;have c:Hid (reclaimN N ⟨H.ma,e⟩=reclaimN (N-(j+1)+1) ⟨A.ma,C⟩):=ae (by rw[S.out,show N-(j+1)+1=N-j by omega]);clear S
   by_cases J:bv A.m=0
   .rw[J,nW]at K
    by_cases T:jq A.m<0
    .have I:Hid (gV ⟨H.ma,e⟩=(⟨A.ma,C⟩,false)):=ae (by rw[Q.out,c.out];unfold reclaimN;rw[if_pos (.inr T)];show(Kp.mk A.ma (jw C (bv A.m)),false)=_;rw[J,nW]);rw[J];go_wp2;go_ret;rw[I.out];exact⟨rfl,_,_,K,R,rfl⟩
    obtain⟨y,f⟩:=UJ J T;have hr:=ae (Hg J);have o:=ae f;generalize hF:(jq A.m).toNat=F at y f o;have hv:¬(F:Int)<0:=by omega
    rw[f]at T;rw[J,f];clear f T;have hx:=p.cell
    go_wp2_with (first | (refine ay _ _ rfl _ 0 rfl rfl [.slice D (gP A.m).fs.length E,.int .i64 (gP A.m).hand] (bF p 0 2) _ underlying32 rfl mem_size ?_) | (refine gN rfl _ _ _ rfl b 0 _ rfl rfl _ _ K.blk (by show 0+2<=12;decide) mem_size (iT _ _ _ _) ?_))
    intro w4 hh t;have h4:=K.setM (q.mono ht.out) hh t;have V:KS w b H w4 { A with af:=D,cf:=E,m:=gP A.m }:=R.putF t (q.mono hm.out) (az _) rfl rfl;clear K R q p hx hh t;have g:Hid (reclaimN N ⟨H.ma,e⟩=if nE (MH.ma { A with af:=D,cf:=E,m:=gP A.m }) F=true then(gG ⟨MH.ma { A with af:=D,cf:=E,m:=gP A.m },C⟩ F,true)else reclaimN (N-(j+1)) (gG ⟨MH.ma { A with af:=D,cf:=E,m:=gP A.m },C⟩ F)):=ae (by
     rw[c.out]
     conv=>lhs;unfold reclaimN
     have U:¬(bv (Kp.m ⟨A.ma,C⟩).m≠0\/jq (Kp.m ⟨A.ma,C⟩).m<0):=by
      rintro(e|e)
      .exact e J
      have:jq A.m<0:=e;rw[o.out]at this;omega
     rw[if_neg U];rw[show(jq (Kp.m ⟨A.ma,C⟩).m).toNat=F from hF];rfl)
    obtain⟨hg,hf,s⟩:=hl.out;have hd:(MH.sp { A with af:=D,cf:=E,m:=gP A.m }).length=H.sp.length/\(MH.ca { A with af:=D,cf:=E,m:=gP A.m }).length<=H.ca.length/\(MH.m { A with af:=D,cf:=E,m:=gP A.m }).fs.length=H.m.fs.length:=⟨hg,hf,hr.out.trans s⟩;have n:=y;rw[s]at n;have a:=ae hd;clear hd hg hf s;generalize ({ A with af:=D,cf:=E,m:=gP A.m }:MH)=H4 at h4 V g a
    go_wp2_with fail
    refine(MK H4 C F B b _ h4 (by rw[a.out.2.2];exact n) (by rw[a.out.1];exact hz) (bi a.out.2.1 Y)).mono ?_;rintro r w5 ⟨rfl,L,e5,h5,s5,W⟩;have O:=V.trans s5;have i:=si.evict ⟨H4.ma,C⟩ F;obtain⟨m1,m2,m3⟩:=Yo W;have ha:L.sp.length=H.sp.length/\L.ca.length<=H.ca.length/\L.m.fs.length=H.m.fs.length:=by have D:=i.sp;have a2:=i.ca;have a3:=i.fs;rw[show(Kp.m ⟨H4.ma,C⟩).sp.length=H4.sp.length from tV H4]at D;exact⟨by rw[m1,D];exact a.out.1,by rw[m2];exact bi a2 a.out.2.1,by rw[m3];exact a3.trans a.out.2.2⟩
    have P:=ae W;have z:=ae ha;clear h4 V s5 W i m1 m2 m3 ha;cases hb:nE H4.ma F with
    | true=>
     have I:Hid (gV ⟨H.ma,e⟩=(⟨L.ma,e5⟩,true)):=ae (by rw[Q.out,g.out,hb,if_pos rfl,P.out]);go_wp2;go_ret;rw[I.out];exact⟨rfl,_,_,h5,O,rfl⟩
    | false=>
     have I:Hid (reclaimN N ⟨H.ma,e⟩=reclaimN (N-(j+1)) ⟨L.ma,e5⟩):=ae (by rw[g.out,hb,if_neg (by decide),P.out]);clear g c;go_wp2;go_roundw
     case rel=>exact⟨j+1,L,e5,by omega,by go_num,h5,O,I,z⟩
     case measure=>simp[intOf];omega
   have I:Hid (gV ⟨H.ma,e⟩=(⟨A.ma,jw C (bv A.m)⟩,false)):=ae (by rw[Q.out,c.out];unfold reclaimN;rw[if_pos (.inl J)];rfl);go_wp2;go_ret;rw[I.out];exact⟨rfl,_,_,K,R,rfl⟩
  have hs:¬(j:Int)<(N:Int):=by omega
  have I:Hid (gV ⟨H.ma,e⟩=(⟨A.ma,C⟩,false)):=ae (by rw[Q.out,S.out,show N-j=0 by omega];rfl);clear S;go_wp2;go_ret;rw[I.out];exact⟨rfl,_,_,d,G,rfl⟩
def Rv(B:Nat)(m:Mem)(K E:Int):mV:=⟨λv w => ∃u,v = .tuple #[.agg #[u,.int .i64 m.hand],.int .i64 K,.int .i64 E]/\Own w B 66 13 u m.fs.length (m.fs.flatMap pR),λ_ _ _ hb ⟨u,h1,h2⟩=>⟨u,h1,h2.below hb⟩⟩
theorem sJ(H:MH)(e f i:Int)(p:Page)(B b:Nat)(w:World)(h:lH w B b H e)(hz:H.sp.length<=1000)(hz2:H.ca.length<=1000)(hz3:H.m.fs.length<=1000) :
  Calls Tryz.prog 90 #[.pointer (some ⟨b,0,none⟩),.agg (eQ p),.int .i64 f,.int .i64 i] w λr w'=>r = .returned (.int .i64 (eO ⟨H.ma,e⟩ p f i).2)/\KR w B b H w' (eO ⟨H.ma,e⟩ p f i).1:=by
 have hL:=ae h.bs;go_enter func90,ntmps90;rw[Du];go_upto_region 1 with(fail);refine iG (λW=>Code.wp _ _ _ _ W) λw1 hC Y hN => ?_;have k1:=h.below hC;have s1:=(KS.refl w b H).below hC;generalize w.heap.size=gp at Y ⊢;clear h hC hN
 go_wp2_with (refine ay _ _ rfl b 0 rfl rfl _ k1.rdM _ underlying32 rfl mem_size ?_)
 refine(BO H.m _ _ _ k1.ma.rd.fr).mono ?_;rintro r E ⟨rfl,hp⟩;have k2:=k1.below hp;have s2:=s1.below hp;have O:aG E gp (eQ p) 58:=Y.ext hp;clear k1 s1 Y hp
 by_cases L:dR H.m.fs=0
 .have hs:((dR H.m.fs:Nat):Int)=0:=by omega
  have hr:Hid (eO ⟨H.ma,e⟩ p f i=if(gV ⟨H.ma,e⟩).2=true then kT (gV ⟨H.ma,e⟩).1 p f i else((gV ⟨H.ma,e⟩).1,-1)):=ae (by unfold eO;exact if_pos L);rw[hs];clear hs L
  go_wp2_with fail
  refine(IU H e B b _ k2 hz hz2 hz3).mono ?_;rintro r F ⟨rfl,A,e3,k3,s3,q3⟩;have px3:=s3.blkN O (λV => ?_)
  .have S:=s2.trans s3;have U:=ae q3;clear k2 s2 s3 O q3;cases hb:(gV ⟨H.ma,e⟩).2 with
   | true=>
    have hR:Hid (eO ⟨H.ma,e⟩ p f i=kT ⟨A.ma,e3⟩ p f i):=ae (by rw[hr.out,hb,if_pos rfl,U.out]);clear hb hr U;go_upto_region 3 with(fail);have hP:=ae (rfl:fB A.m p f i=fB A.m p f i);refine ko 17 [_,_,_,_,_,_,_,_,.r 8 ((Rv F.heap.size (fB A.m p f i) (iJ A.m p f i) (iq A.m p f i))),.r 9 ((Rv F.heap.size (fB A.m p f i) (iJ A.m p f i) (iq A.m p f i))),.r 10 ((FP F.heap.size (fB A.m p f i))),.v (.int .i64 (iJ A.m p f i:Nat)),.v (.int .i64 (iq A.m p f i)),.r 13 ((iN F.heap.size 32 2)),.y 14 ((Lc 13 F.heap.size 32 (FP F.heap.size (fB A.m p f i)))),.v (.int .i64 (iJ A.m p f i:Nat)),.v (.int .i64 (iq A.m p f i))] (λW=>Below F.heap.size F W) dS (Below.refl _ _) (Yk dS rfl (Yk dS rfl (Yf dS b 0 rfl rfl (Yf dS b 0 rfl rfl (Yr dS (.agg #[.slice A.af A.m.fs.length A.cf,.int .i64 A.m.hand]) (λρ y W hb t=>(bH rfl (aL rfl t) (bF (k3.below hb).blk 0 2) underlying32 rfl (by kernel_rfl))) rfl rfl (Yr dS (.agg #[.int .u8 p[0].toNat,.int .u8 p[1].toNat,.int .u8 p[2].toNat,.int .u8 p[3].toNat,.int .u8 p[4].toNat,.int .u8 p[5].toNat,.int .u8 p[6].toNat,.int .u8 p[7].toNat]) (λρ y W hb t=>(bH rfl (aL rfl t) (bF (px3.ext hb) 0 8) underlying58 rfl (by kernel_rfl))) rfl rfl (Yk dS rfl (Yk dS rfl (ah ?_ (ah ?_ (ah ?_ (ah ?_ (ah ?_ (ah ?_ (ah ?_ (Yk dS rfl (Yk dS rfl (aI)))))))))))))))))) (λ_=>rfl) rfl ?_
    .intro ρ y W C I hb D;refine iY dS hb ((Rv F.heap.size (fB A.m p f i) (iJ A.m p f i) (iq A.m p f i))) (λ_ _ h=>h) ?_;have hK:=C 29 4 rfl;have h4:y 4=_:=D 4 rfl;have hJ:=C 30 5 rfl;have h5:y 5=_:=D 5 rfl;have hI:=C 31 6 rfl;have h6:y 6=_:=D 6 rfl;have hH:=C 32 7 rfl;have h7:y 7=_:=D 7 rfl;have EF:=eF0 I λ_=>trivial;refine aO _ _ (aj rfl) (aS rfl (EF _) func136 (by kernel_rfl) (by kernel_rfl) (by simp only[bW,bQ,aZ,hK,h4,hJ,h5,hI,h6,hH,h7,EF];rfl)) ?_;refine(Ie A.m p f i A.af A.cf W (k3.below hb).ma.rd.fr).mono ?_;rintro r J ⟨u,rfl,Q,hB⟩;exact⟨_,rfl,hB,u,rfl,Q.mono hb.size⟩
    .intro ρ y W C I hb D;refine iY dS hb ((Rv F.heap.size (fB A.m p f i) (iJ A.m p f i) (iq A.m p f i))) (λ_ _ h=>h) ?_;have hG:=C 33 8 rfl;have h8:=D 8 rfl;refine ak _ (aj rfl) (run_move (.inl rfl) hG) ?_;exact h8
    .intro ρ y W C I hb D;refine iY dS hb ((FP F.heap.size (fB A.m p f i))) (λ_ _ h=>h) ?_;have l:=C 24 9 rfl;have R:=D 9 rfl;obtain⟨u,P,Q⟩:=R;refine ak (.agg #[u,.int .i64 (fB A.m p f i).hand]) (aj rfl) (by simp[execOp,go_sem,bU,l,P]) ?_;exact⟨u,rfl,Q⟩
    .intro ρ y W C I hb D;refine iY dS hb (mZ (.int .i64 (iJ A.m p f i:Nat))) (λ_ _ h=>h) ?_;have l:=C 24 9 rfl;have R:=D 9 rfl;obtain⟨u,P,Q⟩:=R;refine ak (.int .i64 (iJ A.m p f i:Nat)) (aj rfl) (by simp[execOp,go_sem,bU,l,P]) rfl
    .intro ρ y W C I hb D;refine iY dS hb (mZ (.int .i64 (iq A.m p f i))) (λ_ _ h=>h) ?_;have l:=C 24 9 rfl;have R:=D 9 rfl;obtain⟨u,P,Q⟩:=R;refine ak (.int .i64 (iq A.m p f i)) (aj rfl) (by simp[execOp,go_sem,bU,l,P]) rfl
    .intro ρ y W C I hb D;refine iY dS hb ((iN F.heap.size 32 2)) (λ_ _ h=>h) ?_;refine jh (.pointer (some ⟨W.heap.size,0,none⟩)) (aj rfl) (by simp[execOp,go_sem,bU]) ((Below.refl _ _).alloc (az _) (.cells #[.slice none 0 0,.int .i64 0] 32)) ?_;exact⟨_,_,rfl,hb.size,aG.new _ _ _,rfl⟩
    .intro ρ y W C I hb D;have E9:=C 9 13 rfl;have hD:=D 13 rfl;have hF:=C 34 10 rfl;have hE:=D 10 rfl;obtain⟨u,e7,hh⟩:=hE;obtain⟨g3,G,e9,hi,j,hg⟩:=hD;refine mh (aj rfl) _ _ _ rfl g3 0 (.agg #[u,.int .i64 (fB A.m p f i).hand]) [u,.int .i64 (fB A.m p f i).hand] (E9.trans e9) (hF.trans e7) rfl G _ j (by rw[hg];exact az _) mem_size (by obtain⟨a1,c1,rfl,_⟩:=hh.rd;exact bT (iT _ _ _ _)) ?_;intro w1 o g;rw[show ∀(x y:Value),[x,y]=(#[x,y]:Array Value).toList fromλ_ _=>rfl,gK G _ (by rw[hg];rfl)]at o;refine⟨hb.grown g hb.size (λk V=>by cases V;exact hi),⟨g3,_,e9,hi,o,⟨_,rfl,ax hh j (by decide) g⟩⟩,?_⟩;intro k V hy
     match k,V,hy with
     | 0,_,_|1,_,_|2,_,_|3,_,_|4,_,_|5,_,_|6,_,_|7,_,_=>exactλh=>h
     | 8,_,_|9,_,_|10,_,_=>exactλ⟨c,q1,q2⟩=>⟨c,q1,ax q2 j (by decide) g⟩
     | 11,_,_|12,_,_=>exactλh=>h
     | 13,_,_=>exactλq=>kZ q o (λ_=>rfl) ⟨_,j⟩ g
     | 14,_,h=>exact absurd rfl h
     | 15,_,_|16,_,_=>exactλh=>h
     | n+17,h,_=>exact absurd h (by omega)
    intro y J d a;replace d:Below F.heap.size F J:=d;have hv:((Rv F.heap.size (fB A.m p f i) (iJ A.m p f i) (iq A.m p f i))).r (y 8) J:=a 8 (by decide);have ht:((Rv F.heap.size (fB A.m p f i) (iJ A.m p f i) (iq A.m p f i))).r (y 9) J:=a 9 (by decide);have hc:((FP F.heap.size (fB A.m p f i))).r (y 10) J:=a 10 (by decide);have ha:((iN F.heap.size 32 2)).r (y 13) J:=a 13 (by decide);have z:=a 14 (by decide);clear a;simp only[dm,bU,bQ,aZ];obtain⟨gd,cd,hM,hO,hm,u,hl,s⟩:=z;simp only[ym]at hl;subst hl;obtain⟨a1,c1,rfl,_⟩:=s.rd;have Z:=k3.below d;have s4:=S.below d;have hf:=ae S.size;clear hv ht hc ha k3 S px3 d
    by_cases L:iq A.m p f i=0
    .have hq:Hid (kT ⟨A.ma,e3⟩ p f i=(Kp.mk { A.ma with m:=fB A.m p f i } e3,((iJ A.m p f i:Nat):Int))):=ae (by unfold kT;exact if_neg (λh'=>h' L));have hx:=hm.cell;rw[L];generalize fB A.m p f i=M at *
     generalize iJ A.m p f i=K at *
     go_wp2_with (first | (refine ay _ _ rfl _ 0 rfl rfl [.slice a1 M.fs.length c1,.int .i64 M.hand] (bF hm 0 2) _ underlying32 rfl mem_size ?_) | (refine gN rfl _ _ _ rfl b 0 _ rfl rfl _ _ Z.blk (by show 0+2<=12;decide) mem_size (iT _ _ _ _) ?_))
     intro w5 hA hj;have k5:=Z.setM (s.mono (bi hL.out hf.out)) hA hj;go_wp2;go_ret;rw[hR.out,hq.out];exact⟨rfl,_,_,k5,s4.putF hj (s.mono hf.out) (az _) rfl rfl,rfl⟩
    have hq:Hid (kT ⟨A.ma,e3⟩ p f i=(⟨A.ma,e3⟩,-1)):=ae (by unfold kT;exact if_pos L);go_wp2;go_ret;rw[hR.out,hq.out];exact⟨rfl,_,_,Z,s4,rfl⟩
   | false=>
    have hR:Hid (eO ⟨H.ma,e⟩ p f i=(⟨A.ma,e3⟩,-1)):=ae (by rw[hr.out,hb,if_neg (by decide),U.out]);clear hb hr U;go_wp2;go_ret;rw[hR.out];exact⟨rfl,_,_,k3,S,rfl⟩
  obtain⟨cs,T,hb,hT⟩:=k2.kb_T V;exact absurd rfl (mD O hb (by rcases hT with rfl | rfl | rfl | rfl<;>decide))
 have hs:¬((dR H.m.fs:Nat):Int)=0:=by omega
 have hR:Hid (eO ⟨H.ma,e⟩ p f i=kT ⟨H.ma,e⟩ p f i):=ae (by unfold eO;exact if_neg L);clear L;have hQ:dR H.m.fs=dR H.m.fs:=rfl;generalize dR H.m.fs=N at hs;go_upto_region 3 with(fail);have hP:=ae (rfl:fB H.m p f i=fB H.m p f i);refine ko 17 [_,_,_,_,_,_,_,_,.r 8 ((Rv E.heap.size (fB H.m p f i) (iJ H.m p f i) (iq H.m p f i))),.r 9 ((Rv E.heap.size (fB H.m p f i) (iJ H.m p f i) (iq H.m p f i))),.r 10 ((FP E.heap.size (fB H.m p f i))),.v (.int .i64 (iJ H.m p f i:Nat)),.v (.int .i64 (iq H.m p f i)),.r 13 ((iN E.heap.size 32 2)),.y 14 ((Lc 13 E.heap.size 32 (FP E.heap.size (fB H.m p f i)))),.v (.int .i64 (iJ H.m p f i:Nat)),.v (.int .i64 (iq H.m p f i))] (λW=>Below E.heap.size E W) dS (Below.refl _ _) (Yk dS rfl (Yk dS rfl (Yf dS b 0 rfl rfl (Yf dS b 0 rfl rfl (Yr dS (.agg #[.slice H.af H.m.fs.length H.cf,.int .i64 H.m.hand]) (λρ y W hb t=>(bH rfl (aL rfl t) (bF (k2.below hb).blk 0 2) underlying32 rfl (by kernel_rfl))) rfl rfl (Yr dS (.agg #[.int .u8 p[0].toNat,.int .u8 p[1].toNat,.int .u8 p[2].toNat,.int .u8 p[3].toNat,.int .u8 p[4].toNat,.int .u8 p[5].toNat,.int .u8 p[6].toNat,.int .u8 p[7].toNat]) (λρ y W hb t=>(bH rfl (aL rfl t) (bF (O.ext hb) 0 8) underlying58 rfl (by kernel_rfl))) rfl rfl (Yk dS rfl (Yk dS rfl (ah ?_ (ah ?_ (ah ?_ (ah ?_ (ah ?_ (ah ?_ (ah ?_ (Yk dS rfl (Yk dS rfl (aI)))))))))))))))))) (λ_=>rfl) rfl ?_
 .intro ρ y W C I hb D;refine iY dS hb ((Rv E.heap.size (fB H.m p f i) (iJ H.m p f i) (iq H.m p f i))) (λ_ _ h=>h) ?_;have hK:=C 29 4 rfl;have h4:y 4=_:=D 4 rfl;have hJ:=C 30 5 rfl;have h5:y 5=_:=D 5 rfl;have hI:=C 31 6 rfl;have h6:y 6=_:=D 6 rfl;have hH:=C 32 7 rfl;have h7:y 7=_:=D 7 rfl;have EF:=eF0 I λ_=>trivial;refine aO _ _ (aj rfl) (aS rfl (EF _) func136 (by kernel_rfl) (by kernel_rfl) (by simp only[bW,bQ,aZ,hK,h4,hJ,h5,hI,h6,hH,h7,EF];rfl)) ?_;refine(Ie H.m p f i H.af H.cf W (k2.below hb).ma.rd.fr).mono ?_;rintro r J ⟨u,rfl,Q,hB⟩;exact⟨_,rfl,hB,u,rfl,Q.mono hb.size⟩
 .intro ρ y W C I hb D;refine iY dS hb ((Rv E.heap.size (fB H.m p f i) (iJ H.m p f i) (iq H.m p f i))) (λ_ _ h=>h) ?_;have hG:=C 33 8 rfl;have h8:=D 8 rfl;refine ak _ (aj rfl) (run_move (.inl rfl) hG) ?_;exact h8
 .intro ρ y W C I hb D;refine iY dS hb ((FP E.heap.size (fB H.m p f i))) (λ_ _ h=>h) ?_;have l:=C 24 9 rfl;have R:=D 9 rfl;obtain⟨u,P,Q⟩:=R;refine ak (.agg #[u,.int .i64 (fB H.m p f i).hand]) (aj rfl) (by simp[execOp,go_sem,bU,l,P]) ?_;exact⟨u,rfl,Q⟩
 .intro ρ y W C I hb D;refine iY dS hb (mZ (.int .i64 (iJ H.m p f i:Nat))) (λ_ _ h=>h) ?_;have l:=C 24 9 rfl;have R:=D 9 rfl;obtain⟨u,P,Q⟩:=R;refine ak (.int .i64 (iJ H.m p f i:Nat)) (aj rfl) (by simp[execOp,go_sem,bU,l,P]) rfl
 .intro ρ y W C I hb D;refine iY dS hb (mZ (.int .i64 (iq H.m p f i))) (λ_ _ h=>h) ?_;have l:=C 24 9 rfl;have R:=D 9 rfl;obtain⟨u,P,Q⟩:=R;refine ak (.int .i64 (iq H.m p f i)) (aj rfl) (by simp[execOp,go_sem,bU,l,P]) rfl
 .intro ρ y W C I hb D;refine iY dS hb ((iN E.heap.size 32 2)) (λ_ _ h=>h) ?_;refine jh (.pointer (some ⟨W.heap.size,0,none⟩)) (aj rfl) (by simp[execOp,go_sem,bU]) ((Below.refl _ _).alloc (az _) (.cells #[.slice none 0 0,.int .i64 0] 32)) ?_;exact⟨_,_,rfl,hb.size,aG.new _ _ _,rfl⟩
 .intro ρ y W C I hb D;have E9:=C 9 13 rfl;have hD:=D 13 rfl;have hF:=C 34 10 rfl;have hE:=D 10 rfl;obtain⟨u,e7,hh⟩:=hE;obtain⟨g3,G,e9,hi,j,hg⟩:=hD;refine mh (aj rfl) _ _ _ rfl g3 0 (.agg #[u,.int .i64 (fB H.m p f i).hand]) [u,.int .i64 (fB H.m p f i).hand] (E9.trans e9) (hF.trans e7) rfl G _ j (by rw[hg];exact az _) mem_size (by obtain⟨a1,c1,rfl,_⟩:=hh.rd;exact bT (iT _ _ _ _)) ?_;intro w1 o g;rw[show ∀(x y:Value),[x,y]=(#[x,y]:Array Value).toList fromλ_ _=>rfl,gK G _ (by rw[hg];rfl)]at o;refine⟨hb.grown g hb.size (λk V=>by cases V;exact hi),⟨g3,_,e9,hi,o,⟨_,rfl,ax hh j (by decide) g⟩⟩,?_⟩;intro k V hy
  match k,V,hy with
  | 0,_,_|1,_,_|2,_,_|3,_,_|4,_,_|5,_,_|6,_,_|7,_,_=>exactλh=>h
  | 8,_,_|9,_,_|10,_,_=>exactλ⟨c,q1,q2⟩=>⟨c,q1,ax q2 j (by decide) g⟩
  | 11,_,_|12,_,_=>exactλh=>h
  | 13,_,_=>exactλq=>kZ q o (λ_=>rfl) ⟨_,j⟩ g
  | 14,_,h=>exact absurd rfl h
  | 15,_,_|16,_,_=>exactλh=>h
  | n+17,h,_=>exact absurd h (by omega)
 intro y J d a;replace d:Below E.heap.size E J:=d;have hv:((Rv E.heap.size (fB H.m p f i) (iJ H.m p f i) (iq H.m p f i))).r (y 8) J:=a 8 (by decide);have ht:((Rv E.heap.size (fB H.m p f i) (iJ H.m p f i) (iq H.m p f i))).r (y 9) J:=a 9 (by decide);have hc:((FP E.heap.size (fB H.m p f i))).r (y 10) J:=a 10 (by decide);have ha:((iN E.heap.size 32 2)).r (y 13) J:=a 13 (by decide);have z:=a 14 (by decide);clear a;simp only[dm,bU,bQ,aZ];obtain⟨gd,cd,hM,hO,hm,u,hl,s⟩:=z;simp only[ym]at hl;subst hl;obtain⟨a1,c1,rfl,_⟩:=s.rd;have Z:=k2.below d;have s4:=s2.below d;have hf:=ae s2.size;clear hv ht hc ha k2 s2 O d
 by_cases L:iq H.m p f i=0
 .have hq:Hid (kT ⟨H.ma,e⟩ p f i=(Kp.mk { H.ma with m:=fB H.m p f i } e,((iJ H.m p f i:Nat):Int))):=ae (by unfold kT;exact if_neg (λh'=>h' L));have hx:=hm.cell;rw[L];generalize fB H.m p f i=M at *
  generalize iJ H.m p f i=K at *
  go_wp2_with (first | (refine ay _ _ rfl _ 0 rfl rfl [.slice a1 M.fs.length c1,.int .i64 M.hand] (bF hm 0 2) _ underlying32 rfl mem_size ?_) | (refine gN rfl _ _ _ rfl b 0 _ rfl rfl _ _ Z.blk (by show 0+2<=12;decide) mem_size (iT _ _ _ _) ?_))
  intro w5 hA hj;have k5:=Z.setM (s.mono (bi hL.out hf.out)) hA hj;go_wp2;go_ret;rw[hR.out,hq.out];exact⟨rfl,_,_,k5,s4.putF hj (s.mono hf.out) (az _) rfl rfl,rfl⟩
 have hq:Hid (kT ⟨H.ma,e⟩ p f i=(⟨H.ma,e⟩,-1)):=ae (by unfold kT;exact if_pos L);go_wp2;go_ret;rw[hR.out,hq.out];exact⟨rfl,_,_,Z,s4,rfl⟩
theorem Cq(l:List Cc)(x:Cc)(k:Nat)(V:k<=l.length)(v:Value)(B g:Nat)(w:World)(J:Own w B 122 3 v l.length (l.flatMap iQ))(hB:B<=w.heap.size)(hl:l.length<=1000)(N:aG w g (xe x) 122)(hne:k<l.length->∀b,v.ownBlock=some b->g≠b) :
  Calls Tryz.prog 141 #[v,.int .i64 k,.slice (some ⟨g,0,none⟩) 1 1] w λe w' => ∃U,e = .returned U/\Own w' B 122 3 U (l.length+1) ((l.take k++x::l.drop k).flatMap iQ)/\w.grownBy w' v.ownBlock/\oz w v U:=by
 obtain⟨a0,c0,hs,hJ,z,hD,_⟩:=J.rd;unfold maxLen at z
 by_cases hkl:k=l.length
 .subst hkl;have ha:(l.take l.length++x::l.drop l.length).flatMap iQ=l.flatMap iQ++iQ x:=by simp[fI]
  have hi:=ae ha;clear ha;subst hs;go_enter func141,ntmps141
  go_wp2_with (at_builtin;refine uo rfl _ _ 42 rfl B 122 _ 3 24 underlying42 cached_info rfl (by decide) _ l.length (l.flatMap iQ) rfl J (some ⟨g,0,none⟩) 1 1 (iQ x) rfl (λh=>(by cases h)) (az _) rfl N.rd (λu hu=>yS [x] u (by simpa using hu)) (by unfold maxLen;omega) (by omega) hB ?_)
  all_goals
   intro U w' hh h6 hY;go_wp2;go_ret;exact⟨_,rfl,by rw[hi.out];exact hh,by cases a0<;>exact h6,by cases a0<;>exact hY⟩
 have h3:k<l.length:=by omega
 rcases J with⟨hlen,⟨_,hz⟩|⟨b,A,c,I,rfl,hBb,R,hnc,T,Z,K⟩⟩
 .omega
 have hM:g≠b:=hne h3 b rfl;clear hs hJ z hD;have ko:=R.lt;have kl:=N.lt;have kf:¬((k:Int)=(l.length:Int)):=by omega
 have kk:(k:Int)<=(l.length:Int):=by omega
 have hI:=T;unfold maxLen at hI;have kh:IntKind.i64.wrap ((k:Int)+1)=(k:Int)+1:=bI _ (by omega);have kg:IntKind.i64.wrap ((l.length:Int)+1)=(l.length:Int)+1:=bI _ (by omega);have ki:((k:Int)+1).toNat=k+1:=by omega
 have hN:((l.drop k).flatMap iQ).length=(l.length-k)*3:=by rw[jC,AX]
 have kn:¬(c=k):=by omega
 have hO:=Cw V K;have hw:=xh (k:=k) K
 by_cases Q:l.length+1<=c
 .have hZ:¬((c:Int)<(l.length:Int)+1):=by omega
  have hT:¬(c=k+1):=by omega
  have h4:(0:Int)<=(k:Int)+1:=by omega
  have h8:(k:Int)<=(l.length:Int)+1:=by omega
  have hC:∀S cb W,W=w->(callFunc 179 #[.slice (some ⟨g,0,none⟩) 1 1,.slice (some ⟨b,A+(k+1)*3,none⟩) S cb]).run Tryz.prog W = .ok (.value (.bool false)) W:=by
   intro S cb W L;subst L;have hy:∀w,(Go.sizeOf 122).run Tryz.prog w = .ok 3 w:=by
    intro w;cases hq:Tryz.prog.info? 122 with
    | none=>have:=cached_size;simp[hq]at this
    | some i=>
     have hz:i.size=3:=by have:=cached_size;simpa[hq]using this
     simp[Go.sizeOf,typeInfo,run_program,hq,hz]
   rw[run_callFunc_extern func179 (by kernel_rfl) (by kernel_rfl) (by kernel_rfl) (e:=Extern.SlicesOverlaps.overlaps #[42,42] #[4]) (by kernel_rfl),
    Lib.run_overlaps_apart W 42 4 122 underlying42 3 hy ⟨g,0,none⟩ ⟨b,A+(k+1)*3,none⟩ 1 1 S cb hM 122 122 3 I.size (by unfold aG at N;simp[World.shape?,N,xe]) (by unfold aG at R;simp[World.shape?,R]) (by omega) (N.free _) (N.free _)]
   rfl
  have hS:∀W D F O,aG W b I 122->(Builtin.copy_ #[42,42] D #[.slice (some ⟨b,A+(k+1)*3,none⟩) (l.length-k) F,.slice (some ⟨b,A+k*3,none⟩) (l.length+1-k) O]).run Tryz.prog W = .ok (goInt (l.length-k:Nat)) (W.setCells b (A+(k+1)*3) ((l.drop k).flatMap iQ)):=λW D F O L=>
   uF W _ _ D 122 3 b (A+(k+1)*3) (l.length-k) F ⟨b,A+k*3,none⟩ (l.length+1-k) O (l.length-k) _ I _ underlying42 cached_size (by simp only[Ee];split<;>omega) hN L (λj v C=>by rw[qo,L.cell];exact hO j v C) (by omega) (λv P=>yS _ v P)
  have hR:∀W D F,aG W b (bJ I (A+(k+1)*3) ((l.drop k).flatMap iQ)) 122->aG W g (xe x) 122->(Builtin.copy_ #[42,42] D #[.slice (some ⟨b,A+k*3,none⟩) (l.length+1-k) F,.slice (some ⟨g,0,none⟩) 1 1]).run Tryz.prog W = .ok (goInt (1:Nat)) (W.setCells b (A+k*3) (iQ x)):=λW D F L hp=>
   uF W _ _ D 122 3 b (A+k*3) (l.length+1-k) F ⟨g,0,none⟩ 1 1 1 _ _ _ underlying42 cached_size (by simp only[Ee];split<;>omega) rfl L (λj v C=>by rw[qo,hp.cell,ed];simpa[iQ]using C) (by rw[size_putAt,jc];omega) (λv P=>Dz x v P)
  have hA:=λS cb=>hC S cb w rfl;clear hC;go_enter func141,ntmps141
  go_wp2_with (simp only[hA])
  go_region_law (refine KW rfl _ _ 42 42 rfl (.slice (some ⟨b,A+(k+1)*3,none⟩) (l.length-k) (c-(k+1))) (.slice (some ⟨b,A+k*3,none⟩) (l.length+1-k) (c-k)) (by simp[Act.eval,Act.put]) (by simp[Act.eval,Act.put]) (hS _ _ _ _ R.drew) ?_)
  have p:=(R.drew).setCells ((l.drop k).flatMap iQ) (A+(k+1)*3);have hm:aG (w.drew.setCells b (A+(k+1)*3) ((l.drop k).flatMap iQ)) g (xe x) 122:=N.drew.grown (aC _ _ _ _) (λe=>hM (aM e).symm);have d:w.grownBy (w.drew.setCells b (A+(k+1)*3) ((l.drop k).flatMap iQ)) (some b):=oh (a:=w) (b:=w.drew) (row:=some b) ⟨rfl,rfl,rfl,az _,λ_ _ _=>rfl⟩ (aC w.drew _ _ _);generalize w.drew.setCells b (A+(k+1)*3) ((l.drop k).flatMap iQ)=W1 at *
  go_wp2_with (at_builtin;refine WX _ rfl _ _ 42 42 rfl _ _ rfl rfl (hR _ _ _ p hm) ?_)
  have hn:=p.setCells (iQ x) (A+k*3);have o:w.grownBy (W1.setCells b (A+k*3) (iQ x)) (some b):=oh d (aC _ _ _ _);go_wp2;go_ret;refine⟨_,rfl,⟨by rw[BL];simp only[jk,jC,jc,iO,AX];omega,.inr ⟨b,A,c,_,rfl,hBb,hn,Q,T,by rw[size_putAt,size_putAt];exact Z,Eu V ?_ ?_ ?_⟩⟩,o,.inl rfl⟩
  .intro j u C;have s:j<k*3:=by have:=(cz.1 C).1;rw[jC,iO]at this;omega
   rw[putAt_out _ _ _ _ (by omega),putAt_out _ _ _ _ (by omega)];exact hw j u C
  .intro j u C;exact putAt_in _ _ _ j u (by rw[size_putAt,jc];omega) C
  intro j u C;rw[putAt_out _ _ _ _ (by rw[jc];omega)];exact putAt_in _ _ _ j u (by omega) C
 have hc:c=l.length:=by omega
 subst hc;obtain⟨i0,h5,hV,hU,hr⟩:=info_parts cached_info;have hZ:(l.length:Int)<(l.length:Int)+1:=by omega
 have kd:¬((l.length:Int)+1<=(l.length:Int)):=by omega
 have hT:k+1<=l.length:=by omega
 have kj:IntKind.i64.wrap ((l.length:Int)+1-(k:Int))=((l.length+1-k:Nat):Int):=by rw[bI _ (by omega)];omega
 have kc : (l.length:Int)+1-(k:Int)=((l.length+1-k:Nat):Int):=by omega
 have hK:k+(l.length+1-k)=l.length+1:=by omega
 have ht:((l.take k).flatMap iQ).length=k*3:=by rw[jC,iO,uz V]
 have y:(Builtin.firstCells i0.size k (.slice (some ⟨b,A,none⟩) k l.length)).run Tryz.prog w.drew = .ok ((l.take k).flatMap iQ).toArray w.drew:=by rw[hU];exact run_firstCells_some w.drew 3 k ⟨b,A,none⟩ k l.length _ ht (λj v C=>by rw[qo,R.drew.cell];exact hw j v C)
 have r:∀D,(Builtin.append_ #[42,3] D #[.slice (some ⟨b,A,none⟩) k l.length,.int .i64 ((l.length+1-k:Nat):Int)]).run Tryz.prog w =
   .ok (.slice (some ⟨w.heap.size,0,none⟩) (l.length+1) (grownCap w (l.length+1) l.length 122)) (w.drew.alloc (.cells (((l.take k).flatMap iQ).toArray++Builtin.zeroCells (xe zCc) (l.length+1-k)++Builtin.zeroCells (xe zCc) (grownCap w (l.length+1) l.length 122-(l.length+1))) 122)):=λD=>by
  have h:=Lib.run_append_grow_zeros w 42 3 D 122 i0 _ .i64 .i64 underlying42 underlying3 h5 hV (some ⟨b,A,none⟩) k l.length ((l.take k).flatMap iQ) y (l.length+1-k) (by omega) (by omega) (by omega) (by omega) (by rw[hr];omega) (by rw[hr,hK];exact growslice_fits (by omega) (by omega));rw[hK]at h;exact h
 obtain⟨G,Y⟩:∃G,G=grownCap w (l.length+1) l.length 122:=⟨_,rfl⟩;have kb:l.length+1<=G:=by rw[Y];exact grownCap_ge w _ _ _
 have hd:G<=maxLen:=by rw[Y];exact grownCap_le_maxLen w _ _ _ (by unfold maxLen;omega)
 obtain⟨E,m⟩:∃E:Array Value,E=((l.take k).flatMap iQ).toArray++Builtin.zeroCells (xe zCc) (l.length+1-k)++Builtin.zeroCells (xe zCc) (G-(l.length+1)):=⟨_,rfl⟩;rw[<-Y,<-m]at r;have kp:E.size=G*3:=by rw[m];simp[Builtin.zeroCells,xe,ht];omega
 have ka:∀(j:Nat) (u:Value),((l.take k).flatMap iQ)[j]?=some u->E[j]?=some u:=by intro j u C;have s:=(cz.1 C).1;rw[m,Array.append_assoc,Array.getElem?_append_left (by simpa using s)];simpa using C
 clear y m Y;obtain⟨W1,n⟩:∃W1,W1=w.drew.alloc (.cells E 122):=⟨_,rfl⟩;rw[<-n]at r;have hF:aG W1 w.heap.size E 122:=by rw[n];exact aG.new w.drew E _
 have d:w.grownBy W1 (some b):=by rw[n];exact oh (a:=w) (b:=w.drew) (row:=some b) ⟨rfl,rfl,rfl,az _,λ_ _ _=>rfl⟩ (World.grownBy_alloc _ _ _)
 have p:aG W1 b I 122:=by rw[n];exact R.drew.alloc _
 have hm:aG W1 g (xe x) 122:=by rw[n];exact N.drew.alloc _
 clear n;have h7:w.heap.size≠b:=by omega
 have km:w.heap.size≠g:=by omega
 have hQ:∀W D F,aG W w.heap.size E 122->aG W g (xe x) 122->(Builtin.copy_ #[42,42] D #[.slice (some ⟨w.heap.size,k*3,none⟩) (l.length+1-k) F,.slice (some ⟨g,0,none⟩) 1 1]).run Tryz.prog W = .ok (goInt (1:Nat)) (W.setCells w.heap.size (k*3) (iQ x)):=λW D F L hp=>
  uF W _ _ D 122 3 w.heap.size (k*3) (l.length+1-k) F ⟨g,0,none⟩ 1 1 1 _ _ _ underlying42 cached_size (by simp only[Ee];split<;>omega) rfl L (λj v C=>by rw[qo,hp.cell,ed];simpa[iQ]using C) (by rw[jc];omega) (λv P=>Dz x v P)
 have hP:∀W D F O,aG W w.heap.size (bJ E (k*3) (iQ x)) 122->aG W b I 122->(Builtin.copy_ #[42,42] D #[.slice (some ⟨w.heap.size,(k+1)*3,none⟩) (l.length-k) F,.slice (some ⟨b,A+k*3,none⟩) (l.length-k) O]).run Tryz.prog W = .ok (goInt (l.length-k:Nat)) (W.setCells w.heap.size ((k+1)*3) ((l.drop k).flatMap iQ)):=λW D F O L h9=>
  uF W _ _ D 122 3 w.heap.size ((k+1)*3) (l.length-k) F ⟨b,A+k*3,none⟩ (l.length-k) O (l.length-k) _ _ _ underlying42 cached_size (by simp only[Ee];split<;>omega) hN L (λj v C=>by rw[qo,h9.cell];exact hO j v C) (by rw[size_putAt];omega) (λv P=>yS _ v P)
 have kq:¬(G=k):=by omega
 have ke:¬(G=k+1):=by omega
 have h4:(0:Int)<=(k:Int)+1:=by omega
 have h8:(k:Int)<=(l.length:Int)+1:=by omega
 have hH:=hd;unfold maxLen at hH;go_enter func141,ntmps141
 go_wp2_with (at_builtin;refine Lib.wpList_append_run _ rfl _ _ _ _ rfl _ _ rfl rfl _ _ (r _) ?_)
 have hE:=hF.setCells (iQ x) (k*3);have hn:aG (W1.setCells w.heap.size (k*3) (iQ x)) b I 122:=p.grown (aC _ _ _ _) (λe=>h7 (aM e));have o:∀q,q<w.heap.size->q≠b->(W1.setCells w.heap.size (k*3) (iQ x)).heap[q]?=w.heap[q]?:=λq hq hf=>
  ((aC W1 w.heap.size (k*3) (iQ x)).block q (oL hq d.size) (λe=>by have:=aM e;omega)).trans (d.block q hq (λe=>hf (aM e)))
 have h1:=(aC W1 w.heap.size (k*3) (iQ x)).os.trans d.os;have hX:=(aC W1 w.heap.size (k*3) (iQ x)).tape.trans d.tape;have h0:=(aC W1 w.heap.size (k*3) (iQ x)).output.trans d.output;have t:=bi d.size (aC W1 w.heap.size (k*3) (iQ x)).size;generalize W1.setCells w.heap.size (k*3) (iQ x)=W2 at *
 clear hF hm p r hQ
 go_region_law (refine KW rfl _ _ 42 42 rfl (.slice (some ⟨w.heap.size,(k+1)*3,none⟩) (l.length-k) (G-(k+1))) (.slice (some ⟨b,A+k*3,none⟩) (l.length-k) (l.length-k)) (by simp[Act.eval,Act.put]) (by simp[Act.eval,Act.put]) (hP _ _ _ _ hE.drew hn.drew) ?_)
 have h2:=hE.drew.setCells ((l.drop k).flatMap iQ) ((k+1)*3);have f:=aC W2.drew w.heap.size ((k+1)*3) ((l.drop k).flatMap iQ);have hL:w.grownBy (W2.drew.setCells w.heap.size ((k+1)*3) ((l.drop k).flatMap iQ)) (some b):=
  ⟨f.os.trans h1,f.tape.trans hX,f.output.trans h0,bi t f.size,λq hq hf=>(f.block q (oL hq t) (λe=>by have:=aM e;omega)).trans (o q hq (λe=>hf (by rw[e])))⟩
 go_wp2;go_ret;refine⟨_,rfl,⟨by rw[BL];simp only[jk,jC,jc,iO,AX];omega,.inr ⟨w.heap.size,0,G,_,rfl,hB,h2,kb,hd,by rw[size_putAt,size_putAt];omega,Eu V ?_ ?_ ?_⟩⟩,hL,.inr (λx hx=>by cases hx;exact az _)⟩
 .intro j u C;have s:j<k*3:=by have:=(cz.1 C).1;rw[jC,iO]at this;omega
  rw[ed,putAt_out _ _ _ _ (by omega),putAt_out _ _ _ _ (by omega)];exact ka j u C
 .intro j u C;have s:j<3:=by have:=(cz.1 C).1;rwa [jc]at this
  rw[ed,putAt_out _ _ _ _ (by omega)];exact putAt_in _ _ _ j u (by rw[jc];omega) C
 intro j u C;rw[ed];exact putAt_in _ _ _ j u (by rw[size_putAt];omega) C
theorem Eo(e:Array Value)(s o n:Nat)(h xs vs:List Value)(z:∀j u,h[j]?=some u->e[s+j]?=some u)(C:xs=h.take o++vs++h.drop (o+n))(N:vs.length=n)(L:o+n<=h.length)(K:s+h.length<=e.size):bJ e s xs=bJ e (s+o) vs:=by
 have G:xs.length=h.length:=by rw[C];simp;omega
 apply mI;intro i
 by_cases I:i<s\/s+h.length<=i
 .rw[putAt_out _ _ _ _ (by rw[G];exact I),putAt_out _ _ _ _ (by omega)]
 have A:i-s<xs.length:=by omega
 have F:=putAt_in xs e s (i-s) (xs[i-s]'A) (by omega) (aF A);rw[show s+(i-s)=i by omega]at F;rw[F,<-aF A,C]
 by_cases t:i<s+o\/s+o+n<=i
 .rw[putAt_out _ _ _ _ (by omega)];have h2:i-s<h.length:=by omega
  have E:=z (i-s) (h[i-s]'h2) (aF h2);rw[show s+(i-s)=i by omega]at E;rw[E,<-aF h2];rcases t with t|t
  .rw[jN,kK (by rw[iO];omega),mg,if_pos (by omega)]
  rw[jU (by rw[jk,iO];omega),qQ];congr 1;rw[jk,iO];omega
 have y:i-(s+o)<vs.length:=by omega
 have D:=putAt_in vs e (s+o) (i-(s+o)) (vs[i-(s+o)]'y) (by omega) (aF y);rw[show s+o+(i-(s+o))=i by omega]at D;rw[D,jN,jU (by rw[iO];omega),iO];have J:i-s-min o h.length=i-(s+o):=by omega
 rw[J,kK y];exact aF y
theorem lH.frPut{e:Int}(h:lH w B b H e)(E:f<H.m.fs.length) :
  ∃g t u,H.af=some ⟨g,t,none⟩/\aG w g u 66/\t+f*13+13<=u.size/\eB w (some ⟨g,t+f*13,none⟩) (pR (aD H.ma f)) /\
   ∀(o n:Nat) (vs:List Value) (x:Fr) (w' : World),vs.length=n->o+n<=13->pR x=(pR (aD H.ma f)).take o++vs++(pR (aD H.ma f)).drop (o+n)->aG w' g (bJ u (t+f*13+o) vs) 66->w.grownBy w' (some g) ->
    lH w' B b { H with m:=⟨H.m.fs.set f x,H.m.hand⟩ } e/\∀w0 H0,KS w0 b H0 w H->KS w0 b H0 w' { H with m:=⟨H.m.fs.set f x,H.m.hand⟩ }:=by
 obtain⟨g,t,u,i,p,d,c,j,k,l,a⟩:=h.frame E;refine⟨g,t,u,i,d,c,j,λo n vs x w' D G C F z=>⟨a w' x ?_ z,λw0 H0 s=>s.put z (.inr (.inl (by rw[i];rfl))) λy A => .inl (Dj rfl rfl rfl A)⟩⟩;have I:=fQ (aD H.ma f);generalize pR (aD H.ma f)=ys at *
 generalize pR x=xs at *
 rw[Eo u (t+f*13) o n ys xs vs k C D (by omega) (by omega)];exact F
theorem xJ{α:Type}(x:α):∀(l:List α) (k:Nat),k<=l.length->l.insertIdx k x=l.take k++x::l.drop k
 | l,0,_=>by simp
 | [],k+1,h=>by simp at h
 | a::l,k+1,h=>by rw[Dm,xJ x l k (by simpa using h)];simp
theorem cac_size:(Tryz.prog.info? 42).map (·.size)=some 1:=by kernel_rfl
theorem KI(H:MH)(e:Int)(F I:Nat)(P:PF)(v:Int)(B b:Nat)(w:World)(h:lH w B b H e)(hP:H.fi[F]?=some P)(hv:P.l[I]?=some v)(hn:0<=P.n/\P.n<=1000)(hI:I<=1000)(hck:∀c∈H.ca,0<=c.k/\c.k<H.m.fs.length)(hwo:0<=v->aJ H.dk v=0)
 (hz:H.sp.length<=1000) (Y:H.ca.length<=1000) (hz3:H.m.fs.length<=1000) :
  Calls Tryz.prog 93 #[.pointer (some ⟨b,0,none⟩),.int .i64 F,.int .i64 I] w λr w'=>r = .returned (.int .i64 (fu ⟨H.ma,e⟩ F I).2)/\KR w B b H w' (fu ⟨H.ma,e⟩ F I).1:=by
 go_enter func93,ntmps93
 go_wp2_with fail
 refine(DR H e F I B b _ h).mono ?_;rintro r w1 ⟨rfl,hJ⟩;have k1:=h.below hJ;have s1:=(KS.refl w b H).below hJ;clear h hJ;cases hi:JZ H.ca F I with
 | true=>
  have s:Hid (fu ⟨H.ma,e⟩ F I=(⟨setFr H.ma (BZ H.ma (sS H.ca F I)).k.toNat (lm (aD H.ma (BZ H.ma (sS H.ca F I)).k.toNat)),e⟩,(BZ H.ma (sS H.ca F I)).k)):=ae (by unfold fu;exact if_pos hi);obtain⟨c,hc,_,_⟩:=JD hi;have kg:=(cz.1 hc).1;have h8:BZ H.ma (sS H.ca F I)=c:=by unfold BZ;show H.ca.getD _ _=c;rw[aY,hc];rfl
  have h7:=hck c (bS hc);rw[h8]at s;clear h8 hi;generalize sS H.ca F I=k at *
  obtain⟨K,hK⟩:∃K:Nat,c.k=K:=⟨c.k.toNat,by omega⟩;rw[hK,bu]at s;have kl:K<H.m.fs.length:=by omega
  obtain⟨bc,oc,c',kj,h9,_,_,hX⟩:=TU k1.ma.rd.ca.rd k kg;rw[hc]at h9;cases h9;rw[hK]at hX;have kr:(K:Int)<(H.m.fs.length:Int):=by omega
  obtain⟨g,off,cur,ki,ka,kp,kf,hZ⟩:=k1.frPut kl;have i:=k1.blk.cell;unfold rD at i;rw[kj,ki]at i;clear hc h7 hck hP hv kf
  go_wp2_with (refine aB rfl _ _ _ rfl g (off+K*13+9) _ [.bool true] rfl rfl rfl _ _ ka (by simp;omega) vR (λu hu=>by cases bB.1 hu;rfl) ?_)
  intro w2 hp kh;obtain⟨O,Z⟩:=hZ 9 1 [.bool true] (lm (aD H.ma K)) w2 rfl (by decide) rfl hp kh;have Z:=Z _ _ s1;go_wp2;go_ret;rw[s.out];exact⟨rfl,_,_,O,Z,rfl⟩
 | false=>
  have s:Hid (fu ⟨H.ma,e⟩ F I=(let r:=eO ⟨H.ma,Fz ⟨H.ma,e⟩ F I⟩ (dz H.ma F I) F I
   if r.2<0 then(r.1,-1)else(⟨{ r.1.m with ca:=r.1.m.ca.insertIdx (sS r.1.m.ca F I) ⟨F,I,r.2⟩ },r.1.e⟩,r.2))):=ae (by unfold fu;exact if_neg (by show ¬JZ H.ca F I=true;rw[hi];decide))
  clear hi hck;have ku:=ae k1.bs;have hY:bN H.ma.st F I=v:=by unfold bN;rw[iE (x:=P.fi) (by show(H.fi.map PF.fi)[F]?=_;rw[iV,hP];rfl),bu,aY];show(P.l[I]?).getD 0=v;rw[hv];rfl
  have h4:(aN H.ma.st F).n=P.n:=by rw[iE (x:=P.fi) (by show(H.fi.map PF.fi)[F]?=_;rw[iV,hP];rfl)];rfl
  have hl:Hid (Fz ⟨H.ma,e⟩ F I=if 0<=v then jw e (aJ H.dk v)else e):=ae (by unfold Fz;rw[hY];rfl);have hy:Hid (dz H.ma F I=if 0<=v then dw (dA H.dk v) (P.n-I*8)else zPg):=ae (by unfold dz;rw[hY,h4];rfl);clear hY h4;generalize sS H.ca F I=k0 at *
  go_upto_region 7 with(fail);refine iG (λW=>Code.wp _ _ _ _ W) λw2 hp T ke => ?_;have O:=k1.below hp;have Z:=s1.below hp;have hO:=(cz.1 hP).1;obtain⟨bf,of,P',hA,hf,hW,hV⟩:=xP O.ma.rd.st.rd F hO;rw[hP]at hf;cases hf;have J:=O.ma.rd.st.good P (bS hP);have ks:=(cz.1 hv).1;obtain⟨bb,ob,kk,h5⟩:∃bb ob,P.a=some ⟨bb,ob,none⟩/\w2.cell? ⟨bb,ob+I,none⟩=some (.int .i64 v):=by obtain⟨bb,ob,h1,h2⟩:=J.rd I (gB v) (by rw[iV,hv];rfl);exact⟨bb,ob,h1,h2⟩
  rw[kk]at hV;have i:=O.blk.cell;unfold rD at i;rw[hA]at i;have kt:(F:Int)<(H.fi.length:Int):=by omega
  have kb:(I:Int)<(P.l.length:Int):=by omega
  by_cases h0:0<=v
  .have hw:=hwo h0;rw[if_pos h0]at hl hy;rw[hw,nW]at hl;go_upto_region 9 with(fail);clear i hV h5 J kb
   go_wp2_with (refine ay _ _ rfl b 5 rfl rfl _ O.rdD _ underlying38 rfl disk_size ?_)
   refine(Il H.dk v _ _ _ _ _ O.ma.rd.dk).mono ?_;rintro r w3 ⟨rfl,hG⟩;rw[hw];have k3:=O.below hG;have s3:=Z.below hG;have pg3:=T.ext hG;have hT:=ag hp hG
   go_wp2_with (refine aK rfl _ _ _ rfl (eQ (dA H.dk v)) rfl rfl rfl psize (fM _) ?_)
   intro w4 hF x4;have k4:=k3.below hF;have pg4:=pg3.ext hF;have s4:=s3.below hF;have hS:=ag hT hF
   go_wp2_with fail
   refine(tu _ e 0 _ _ _ k4).mono ?_;rintro r w5 ⟨rfl,k5,ht⟩;rw[nW]at k5;have q:Below w4.heap.size w4 w5:=⟨ht.os,ht.tape,ht.output,ht.size,λx hx=>by
    by_cases e' : x=b
    .subst e'; exact k5.blk.trans k4.blk.symm
    .exact ht.block x hx (λe''=>e' (aM e''))⟩
   clear k5 ht;have k5:=k4.below q;have s5:=s4.below q;have x5:=x4.ext q;have pg5:=pg4.ext q;have hH:=ag hS q;have kq:=pg5.lt;clear O Z hp k3 s3 pg3 hG hT k4 s4 pg4 hF hS q x4 T hA hW;obtain⟨bf,of,P',hA,hf,hW,_⟩:=xP k5.ma.rd.st.rd F hO;rw[hP]at hf;cases hf;have hQ:∀W,Below w5.heap.size w5 W->W.cell? ⟨bf,of+F*2,none⟩=some (.int .i64 P.n):=λW L=>by obtain⟨bf',of',P',hU,hf,h6,_⟩:=xP (k5.below L).ma.rd.st.rd F hO;rw[hP]at hf;cases hf;rw[hA]at hU;cases hU;exact h6
   have kd:IntKind.i64.wrap ((I:Int)*8)=(I:Int)*8:=bI _ (by omega);have kc:IntKind.i64.wrap (P.n-(I:Int)*8)=P.n-(I:Int)*8:=bI _ (by omega);go_upto_region 11 with(fail);refine aV 15 [_,_,_,_,_,_,_,_,_,_,_,_,_,_,.v (.agg (eQ (dw (dA H.dk v) (P.n-(I:Int)*8))))] (Gr (.agg (eQ (dA H.dk v))) (λρ y W L hN=>(eD rfl (aL rfl hN) (x5.ext L) underlying58 rfl psize)) rfl rfl (Gk rfl (Gk rfl (Gf b 0 rfl rfl (Gf b 7 rfl rfl (Gf b 7 rfl rfl (Gc (.slice (some ⟨bf,of,none⟩) H.fi.length H.ci) (λW L=>by simp[(k5.below L).blk.cell,rD,hA]) rfl rfl rfl rfl (Gk rfl (Gr (.pointer (some ⟨bf,of+F*2,none⟩)) (λρ y W L hN=>(cO rfl (aL rfl hN) (aL rfl hN) hO underlying39 file_size)) rfl rfl (Gf bf (of+F*2) rfl rfl (Gc (.int .i64 P.n) (λW L=>by simp[hQ W L]) rfl rfl rfl rfl (Gk rfl (Gb (.int .i64 ((I:Int)*8)) (by simp[go_sem,kd]) rfl rfl rfl rfl rfl (Gb (.int .i64 (P.n-(I:Int)*8)) (by simp[go_sem,kc]) rfl rfl rfl rfl rfl (ah ?_ (aI)))))))))))))))) (λ_=>rfl) rfl ?_
   .intro ρ y W hw hn L hd;have ko:=hw 72 0 rfl;have h0:y 0=_:=hd 0 rfl;have kn:=hw 85 13 rfl;have km:y 13=_:=hd 13 rfl;have EF:=eF0 hn λ_=>trivial;refine aO _ _ (aj rfl) (aS rfl (EF _) func140 (by kernel_rfl) (by kernel_rfl) (by simp only[bW,bQ,aZ,ko,h0,kn,km,EF];rfl)) ?_;refine(Wi _ _ _).mono ?_;rintro r w1 ⟨rfl,hJ⟩;exact⟨_,rfl,hJ,rfl⟩
   intro y W6 hs _
   go_wp2_with (refine gN rfl _ _ _ rfl w1.heap.size 0 (eQ (dw (dA H.dk v) (P.n-(I:Int)*8))) rfl rfl _ _ (pg5.ext hs) (by show 0+8<=8;decide) psize (fM _) ?_)
   intro w7 hM h3;have hM:aG w7 w1.heap.size (eQ (dw (dA H.dk v) (P.n-(I:Int)*8))) 58:=by rw[<-gK (eQ zPg) (eQ (dw (dA H.dk v) (P.n-(I:Int)*8))) rfl];exact hM
   have hR:Below w1.heap.size w1 w7:=(ag hH hs).grown h3 (bi hH.size hs.size) (λk hk=>by cases hk;exact az _);have k7:=k1.below hR;have s7:=s1.below hR;clear k5 s5 x5 pg5 hH hs h3 hQ hW hA k1 s1;have hj:Hid (fu ⟨H.ma,e⟩ F I=if(eO ⟨H.ma,e⟩ (dw (dA H.dk v) (P.n-(I:Int)*8)) F I).2<0 then((eO ⟨H.ma,e⟩ (dw (dA H.dk v) (P.n-(I:Int)*8)) F I).1,-1)else(⟨{ (eO ⟨H.ma,e⟩ (dw (dA H.dk v) (P.n-(I:Int)*8)) F I).1.m with ca:=(eO ⟨H.ma,e⟩ (dw (dA H.dk v) (P.n-(I:Int)*8)) F I).1.m.ca.insertIdx (sS (eO ⟨H.ma,e⟩ (dw (dA H.dk v) (P.n-(I:Int)*8)) F I).1.m.ca F I) ⟨F,I,(eO ⟨H.ma,e⟩ (dw (dA H.dk v) (P.n-(I:Int)*8)) F I).2⟩ },(eO ⟨H.ma,e⟩ (dw (dA H.dk v) (P.n-(I:Int)*8)) F I).1.e⟩,(eO ⟨H.ma,e⟩ (dw (dA H.dk v) (P.n-(I:Int)*8)) F I).2)):=ae (by rw[s.out,hl.out,hy.out]);clear s hl hy;generalize dw (dA H.dk v) (P.n-(I:Int)*8)=Q at *
   generalize w1.heap.size=gp at *
   go_upto_region 12 with(fail)
   go_wp2_with (refine ay _ _ rfl gp 0 rfl rfl (eQ Q).toList hM.rd _ underlying58 rfl psize ?_)
   refine(sJ H e F I Q B b _ k7 hz Y hz3).mono ?_;rintro r w8 ⟨rfl,A,e8,V,s8,q8⟩;have E:=s7.trans s8;have hD:=si.took ⟨H.ma,e⟩ Q F I;obtain⟨m1,m2,m3⟩:=Yo q8;have hE:A.ca.length<=1000:=by rw[m2];exact bi hD.ca Y
   have G:=ae q8;clear k7 s7 hM s8 q8 hD m1 m2 m3;generalize hK2:(eO ⟨H.ma,e⟩ Q F I).2=K2
   by_cases h2:K2<0
   .have hq:Hid (fu ⟨H.ma,e⟩ F I=(⟨A.ma,e8⟩,-1)):=ae (by rw[hj.out,hK2,if_pos h2,G.out]);go_wp2;go_ret;rw[hq.out];exact⟨rfl,_,_,V,E,rfl⟩
   have hq:Hid (fu ⟨H.ma,e⟩ F I=(⟨{ A.ma with ca:=A.ca.insertIdx (sS A.ca F I) ⟨F,I,K2⟩ },e8⟩,K2)):=ae (by rw[hj.out,hK2,if_neg h2,<-G.out];rfl);clear hK2 hj G
   go_wp2_with fail
   refine(DR A e8 F I B b _ V).mono ?_;rintro r w9 ⟨rfl,hm⟩;have U:=V.below hm;have s9:=E.below hm;clear V E hm;have hr:=zU A.ca F I;generalize sS A.ca F I=k0 at *
   generalize JZ A.ca F I=ok0 at *
   have i:=U.blk.cell;unfold rD at i
   go_wp2_with fail
   refine iG (λW=>Calls _ _ _ W _) λw10 p N hB => ?_;have C:=U.below p;have D:=s9.below p;have hC:∀g,(Value.slice A.ac A.ca.length A.cc).ownBlock=some g->w9.heap.size≠g:=λg J e=>by rw[jF]at J;obtain⟨_,cs,L⟩:=je U.ma.ca J;have:=L.lt;omega
   refine(Cq A.ca ⟨F,I,K2⟩ k0 hr _ B _ _ C.ma.ca C.bs hE N (λ_=>hC)).mono ?_;rintro r w11 ⟨v11,rfl,d,o,j⟩;obtain⟨S,R,rfl,_⟩:=d.rd;rw[<-xJ _ _ _ hr]at d;have t:(A.ca.insertIdx k0 ⟨F,I,K2⟩).length=A.ca.length+1:=by rw[List.length_insertIdx,if_pos hr]
   rw[<-t]at d;rw[jF]at o;obtain⟨hL,hh⟩:=C.cache D o (a:=S) (c:=R) (l:=A.ca.insertIdx k0 ⟨F,I,K2⟩) d (by
    rcases j with e' | e'
    .rw[jF,jF]at e'; exact .inl e'
    refine .inr λg J => ?_;have:=e' g (by rw[jF];exact J);exact bi D.size this)
   rw[t]at hh;clear U s9 C D N p hB hC d o j i
   go_wp2_with (refine aB rfl _ _ _ rfl b 9 _ [.slice S (A.ca.length+1) R] rfl rfl rfl _ _ hL (by show 9+1<=12;decide) cac_size (λu hu=>by cases bB.1 hu;rfl) ?_)
   intro w12 ha z;obtain⟨k12,s12⟩:=hh w12 ha z;clear hh hL ha z;go_wp2;go_ret;rw[hq.out];exact⟨rfl,_,_,k12,s12,rfl⟩
  have pg2' : aG w2 w1.heap.size (eQ zPg) 58:=T;rw[if_neg h0]at hl hy;go_upto_region 12 with(fail);have hj:Hid (fu ⟨H.ma,e⟩ F I=if(eO ⟨H.ma,e⟩ zPg F I).2<0 then((eO ⟨H.ma,e⟩ zPg F I).1,-1)else(⟨{ (eO ⟨H.ma,e⟩ zPg F I).1.m with ca:=(eO ⟨H.ma,e⟩ zPg F I).1.m.ca.insertIdx (sS (eO ⟨H.ma,e⟩ zPg F I).1.m.ca F I) ⟨F,I,(eO ⟨H.ma,e⟩ zPg F I).2⟩ },(eO ⟨H.ma,e⟩ zPg F I).1.e⟩,(eO ⟨H.ma,e⟩ zPg F I).2)):=ae (by rw[s.out,hl.out,hy.out]);clear s hl hy k1 s1 hp T i hV h5 J kb ke;generalize zPg=Q at *
  generalize w1.heap.size=gp at *
  go_upto_region 12 with(fail)
  go_wp2_with (refine ay _ _ rfl gp 0 rfl rfl (eQ Q).toList pg2'.rd _ underlying58 rfl psize ?_)
  refine(sJ H e F I Q B b _ O hz Y hz3).mono ?_;rintro r w8 ⟨rfl,A,e8,V,s8,q8⟩;have E:=Z.trans s8;have hD:=si.took ⟨H.ma,e⟩ Q F I;obtain⟨m1,m2,m3⟩:=Yo q8;have hE:A.ca.length<=1000:=by rw[m2];exact bi hD.ca Y
  have G:=ae q8;clear O Z pg2' s8 q8 hD m1 m2 m3;generalize hK2:(eO ⟨H.ma,e⟩ Q F I).2=K2
  by_cases h2:K2<0
  .have hq:Hid (fu ⟨H.ma,e⟩ F I=(⟨A.ma,e8⟩,-1)):=ae (by rw[hj.out,hK2,if_pos h2,G.out]);go_wp2;go_ret;rw[hq.out];exact⟨rfl,_,_,V,E,rfl⟩
  have hq:Hid (fu ⟨H.ma,e⟩ F I=(⟨{ A.ma with ca:=A.ca.insertIdx (sS A.ca F I) ⟨F,I,K2⟩ },e8⟩,K2)):=ae (by rw[hj.out,hK2,if_neg h2,<-G.out];rfl);clear hK2 hj G
  go_wp2_with fail
  refine(DR A e8 F I B b _ V).mono ?_;rintro r w9 ⟨rfl,hm⟩;have U:=V.below hm;have s9:=E.below hm;clear V E hm;have hr:=zU A.ca F I;generalize sS A.ca F I=k0 at *
  generalize JZ A.ca F I=ok0 at *
  have i:=U.blk.cell;unfold rD at i
  go_wp2_with fail
  refine iG (λW=>Calls _ _ _ W _) λw10 p N hB => ?_;have C:=U.below p;have D:=s9.below p;have hC:∀g,(Value.slice A.ac A.ca.length A.cc).ownBlock=some g->w9.heap.size≠g:=λg J e=>by rw[jF]at J;obtain⟨_,cs,L⟩:=je U.ma.ca J;have:=L.lt;omega
  refine(Cq A.ca ⟨F,I,K2⟩ k0 hr _ B _ _ C.ma.ca C.bs hE N (λ_=>hC)).mono ?_;rintro r w11 ⟨v11,rfl,d,o,j⟩;obtain⟨S,R,rfl,_⟩:=d.rd;rw[<-xJ _ _ _ hr]at d;have t:(A.ca.insertIdx k0 ⟨F,I,K2⟩).length=A.ca.length+1:=by rw[List.length_insertIdx,if_pos hr]
  rw[<-t]at d;rw[jF]at o;obtain⟨hL,hh⟩:=C.cache D o (a:=S) (c:=R) (l:=A.ca.insertIdx k0 ⟨F,I,K2⟩) d (by
   rcases j with e' | e'
   .rw[jF,jF]at e'; exact .inl e'
   refine .inr λg J => ?_;have:=e' g (by rw[jF];exact J);exact bi D.size this)
  rw[t]at hh;clear U s9 C D N p hB hC d o j i
  go_wp2_with (refine aB rfl _ _ _ rfl b 9 _ [.slice S (A.ca.length+1) R] rfl rfl rfl _ _ hL (by show 9+1<=12;decide) cac_size (λu hu=>by cases bB.1 hu;rfl) ?_)
  intro w12 ha z;obtain⟨k12,s12⟩:=hh w12 ha z;clear hh hL ha z;go_wp2;go_ret;rw[hq.out];exact⟨rfl,_,_,k12,s12,rfl⟩
theorem firstE_zero:∀ {l:List Int},firstE l=0↔∀x∈l,x=0
 | []=>by simp[firstE]
 | x::l=>by
  unfold firstE
  by_cases o:x=0
  .rw[if_pos o,firstE_zero];constructor
   .intro h y i;rcases dx.1 i with e|i
    .rw[e,o]
    .exact h y i
   .exactλh y i=>h y (jW _ i)
  rw[if_neg o];exact⟨λh=>absurd h o,λh=>absurd (h x iM) o⟩
theorem oo{p:Prop}[Decidable p]{a b:Int}(i:a≠0):(if p then a else b)=0↔¬p/\b=0:=by
 by_cases h:p
 .rw[if_pos h];exact⟨λe=>absurd e i,λe=>absurd h e.1⟩
 .rw[if_neg h];exact⟨λe=>⟨h,e⟩,λe=>e.2⟩
theorem nG{a b:Int}:(if a≠0 then a else b)=0↔a=0/\b=0:=by
 by_cases h:a=0
 .rw[if_neg (λe=>e h)];exact⟨λe=>⟨h,e⟩,λe=>e.2⟩
 .rw[if_pos h];exact⟨λe=>absurd e h,λe=>absurd e.1 h⟩
theorem Cx{s:Sp}:kM s=0↔(bP s.ar).1=0/\dB s.tb=0/\(s.lv=false->s.ar=[]/\∀n,(dK s.tb n).k=0):=by
 unfold kM;rw[nG,nG,oo (by decide)];refine and_congr_right λ_=>and_congr_right λ_ => ?_;constructor
 .rintro⟨h,_⟩ o;have u:s.ar.length+(aT s.tb).length=0:=by
   rcases ug (s.ar.length+(aT s.tb).length)with e|e
   .exact e
   .exact absurd ⟨o,e⟩ h
  refine⟨kU (by omega),λn => ?_⟩
  by_cases i:0<=n/\n<64
  .have h2:aT s.tb=[]:=kU (by omega)
   by_cases t:(dK s.tb n).k=0
   .exact t
   have:=pX.2 ⟨i,t⟩;rw[h2]at this;cases this
  .rw[sZ (by omega)];rfl
 refineλh=>⟨?_,rfl⟩;rintro⟨o,e⟩;obtain⟨u,h2⟩:=h o;have y:aT s.tb=[]:=by rw[List.eq_nil_iff_forall_not_mem];intro n i;exact(pX.1 i).2 (h2 n)
 rw[u,y]at e;exact absurd e (by simp)
theorem Gx :trimB m=true↔(∀b:Int,0<=b->b<m.dk.blocks.length->b∈kJ m.st\/m.dk.blocks.getD b.toNat zPg=zPg)/\∀q∈m.dk.queue,q.1∈kJ m.st:=by
 unfold trimB;rw[dW,fA,fA];refine and_congr ⟨λh b o i => ?_,λh b i => ?_⟩ ⟨λh q e=>by simpa using h q e,λh q e=>by simpa using h q e⟩
 .have:=h b.toNat (dG.2 (by omega));rw[Dn o]at this;simpa using this
 have:=h (b:Int) (by omega) (by have:=dG.1 i;omega);simpa using this
theorem Cz :lG m=0↔Pt m/\trimB m=true/\∀s∈m.sp,s.lv=false->s.ar=[]/\∀n,(dK s.tb n).k=0:=by
 unfold lG;rw[nG,nG,nG,nG,nG,oo (by decide),oo (by decide),firstE_zero];constructor
 .rintro⟨i,h2,E,D,C,t,F,A⟩;have o:∀s∈m.sp,_:=λs e=>Cx.1 (A _ (Dx e));refine⟨⟨i,h2,E,D,C,?_,?_,by omega,λs e=>(o s e).1,λs e=>(o s e).2.1⟩,?_,λs e=>(o s e).2.2⟩
  .exact vT λh=>t (.inl h)
  .exact vT λh=>t (.inr (.inl h))
  cases h:trimB m with
  | true=>rfl
  | false=>exact absurd (.inr (.inr h)) t
 rintro⟨h,y,z⟩;refine⟨h.fr,h.sl,h.sw,h.dk,h.st,?_,by have:=h.spl;omega,?_⟩
 .rintro(i|i|i)
  .exact i h.swl
  .exact i h.dkl
  .rw[y]at i;cases i
 intro x u;obtain⟨s,e,rfl⟩:=eU.1 u;exact Cx.2 ⟨h.ar s e,h.tb s e,z s e⟩
theorem xE{p:Option Cc}{c:Cc}:uS m p c=0↔(qK m.st c.f c.i/\0<=c.k/\c.k<m.m.fs.length)/\(1<=(aD m c.k.toNat).r/\(aD m c.k.toNat).f=c.f/\(aD m c.k.toNat).i=c.i)/\∀q,p=some q->CK q c:=by
 have a:jv m c.k=aD m c.k.toNat:=rfl;unfold uS;rw[oo (by decide),oo (by decide),a];refine and_congr ⟨λh=>⟨⟨by omega,by omega⟩,by omega⟩,λh=>by obtain⟨⟨_,_⟩,_⟩:=h;omega⟩ (and_congr ⟨λh=>by omega,λh=>by omega⟩ ?_);cases p with
 | none=>simp
 | some q=>
  simp only[jA,forall_eq'];rw[oo (by decide)];unfold CK;omega
theorem JI{l:List Cc}(h:∀k (o:k+1<l.length),CK (l[k]'(by omega)) l[k+1]):l.Pairwise CK:=by
 induction l with
 | nil=>exact List.Pairwise.nil
 | cons a l ih=>
  have ih:=ih λk o=>h (k+1) (by simpa using o);refine uA.2 ⟨?_,ih⟩;cases l with
  | nil=>simp
  | cons b l=>
   have t:CK a b:=h 0 (by simp);intro c i;rcases dx.1 i with e|i
   .rw[e];exact t
   have u:=(uA.1 ih).1 c i;unfold CK at *; omega
theorem zK :cachedE m=0↔uK m:=by
 unfold cachedE;rw[firstE_zero];constructor
 .intro h;have y:∀k (e:k<m.ca.length),uS m (zb m.ca k) m.ca[k]=0:=λk e=>by have:=h _ (Dx (dG.2 e));rw[aY,aF e]at this;exact this
  have h2:∀c∈m.ca,(qK m.st c.f c.i/\0<=c.k/\c.k<m.m.fs.length)/\(1<=(aD m c.k.toNat).r/\(aD m c.k.toNat).f=c.f/\(aD m c.k.toNat).i=c.i):=λc o=>by obtain⟨k,e,rfl⟩:=jM.1 o;have:=xE.1 (y k e);exact⟨this.1,this.2.1⟩
  refine⟨λc o=>(h2 c o).1.1,λc o=>(h2 c o).1.2,λc o=>(h2 c o).2,JI λk e => ?_⟩;refine(xE.1 (y (k+1) e)).2.2 _ ?_;unfold zb;rw[if_neg (by omega),Nat.add_sub_cancel,aF]
 intro h x z;obtain⟨k,e,rfl⟩:=eU.1 z;have e:=dG.1 e;rw[aY,aF e,qh];have u:m.ca[k]∈m.ca:=eu e;refine xE.2 ⟨⟨h.file _ u,h.lt _ u⟩,h.fr _ u,λq t => ?_⟩;unfold zb at t;split at t
 .cases t
 rw[aF (by omega)]at t;rw[<-aM t];exact Af.1 h.srt _ _ (by omega) e (by omega)
theorem EN(O:Pt m)(T:(ent m p n).k≠0):dU m (dD m p) n=0↔∃g,eT m p n=some g/\Pn m g (ent m p n):=by
 have U:=(bD _).1 (mE O p n);unfold dU;rw[oo (by decide)];have j:=yM (dD m p).ar n;constructor
 .rintro⟨C,h2⟩;obtain⟨J,Q⟩:=Jc (l:=(dD m p).ar) (n:=n) (by omega);refine⟨_,J,?_⟩;generalize (dD m p).ar.getD (il (dD m p).ar n).toNat zAr=a at *
  have I:dK (dD m p).tb n=ent m p n:=rfl;rw[I]at h2;generalize ent m p n=e at *
  simp only at h2
  by_cases z:e.k=2
  .rw[if_pos z,oo (by decide)]at h2;refine⟨λ_=>⟨by omega,?_⟩,λh=>by omega,λh=>by omega⟩;show a.sh=false;cases hs:a.sh with
   | false=>rfl
   | true=>exact absurd (.inr hs) h2.1
  rw[if_neg z,oo (by decide),oo (by decide),oo (by decide)]at h2;have c:jv m e.n=aD m e.n.toNat:=rfl;rw[c]at h2;obtain⟨V,D,P,_⟩:=h2;refine⟨λh=>absurd h z,λ_=>by omega,λ_ => ?_⟩;show Oj (aD m e.n.toNat) (kN a n) e.w;generalize aD m e.n.toNat=f at *
  have b:0<=f.f->(0<=a.fi/\f.f=a.fi/\f.i=a.ba+n-a.fr):=λy=>by refine vT λE=>D (.inl ⟨y,?_⟩);rw[IA];simp only[ne_eq,dW,decide_eq_true_eq];exactλh=>E ⟨h.1.1,h.1.2,h.2⟩
  refine⟨λy => ?_,λhs => ?_,λA => ?_,λA y => ?_,λA y => ?_⟩
  .obtain⟨k1,t,u⟩:=b y;refine⟨t,?_⟩;unfold kN;simp only;rw[if_pos k1];exact u
  .refine vT λE=>D (.inr (.inl ⟨hs,?_⟩));rw[IA];simp only[ne_eq,dW,decide_eq_true_eq];exactλh=>by omega
  .show a.wr=true;cases hs:a.wr with
   | true=>rfl
   | false=>exact absurd (.inr (.inr (.inr ⟨A,hs⟩))) D
  .show a.sh=true;cases hs:a.sh with
   | true=>rfl
   | false=>
    refine absurd (.inr (.inr (.inl ⟨hs,?_,A⟩))) D;have:=b y;simp only[dW,decide_eq_true_eq];exact⟨⟨this.1,this.2.1⟩,this.2.2⟩
  .exact vT λE=>P ⟨y,A,by omega⟩
 rintro⟨g,F,G⟩;have o:onA (dD m p).ar n≠none:=by have:eT m p n=onA (dD m p).ar n:=rfl;rw[<-this,F];exactλh=>by cases h
 have C:=j.2 o;refine⟨by omega,?_⟩;obtain⟨J,Q⟩:=Jc (l:=(dD m p).ar) (n:=n) C;have q : g=kN ((dD m p).ar.getD (il (dD m p).ar n).toNat zAr) n:=by have:eT m p n=onA (dD m p).ar n:=rfl;rw[this,J]at F;exact(aM F).symm
 subst q;generalize (dD m p).ar.getD (il (dD m p).ar n).toNat zAr=a at *
 have I:dK (dD m p).tb n=ent m p n:=rfl;rw[I];generalize ent m p n=e at *
 simp only
 by_cases z:e.k=2
 .obtain⟨k1,t⟩:=G.sw z;have t:a.sh=false:=t;rw[if_pos z,oo (by decide)];refine⟨?_,rfl⟩;rintro(h|h)
  .omega
  .rw[t]at h;cases h
 have C:e.k=1:=by omega
 have k1:=G.lt C;obtain⟨S,N,L,K,R⟩:=G.fr C;have c:jv m e.n=aD m e.n.toNat:=rfl;rw[if_neg z,oo (by decide),oo (by decide),oo (by decide),c];generalize aD m e.n.toNat=f at *
 have N:a.sh=true->0<=f.f:=N;have L:e.w=true->a.wr=true:=L;have K:e.w=true->0<=f.f->a.sh=true:=K;have b:0<=f.f->(decide (0<=a.fi)&&decide (f.f=a.fi)&&decide (f.i=a.ba+n-a.fr))=true:=λy=>by obtain⟨t,u⟩:=S y;have t:f.f=a.fi:=t;unfold kN at u;simp only at u;rw[if_pos (by omega)]at u;simp only[dW,decide_eq_true_eq];exact⟨⟨by omega,t⟩,u⟩
 have d : (decide (0<=a.fi)&&decide (f.f=a.fi)&&decide (f.i=a.ba+n-a.fr))=true->0<=f.f:=λh=>by simp only[dW,decide_eq_true_eq]at h;omega
 generalize (decide (0<=a.fi)&&decide (f.f=a.fi)&&decide (f.i=a.ba+n-a.fr))=of at *
 refine⟨by omega,?_,?_,rfl⟩
 .rintro(⟨t,u⟩|⟨t,u⟩|⟨t,u,k4⟩|⟨t,u⟩)
  .rw[b t]at u;cases u
  .rw[b (N t)]at u;cases u
  .rw[K k4 (d u)]at t;cases t
  .rw[L t]at u;cases u
 rintro⟨t,u,k4⟩;have:=R u t;omega
theorem AC(t:Pt m):nI m=0↔∀p n,(ent m p n).k≠0->∃g,eT m p n=some g/\Pn m g (ent m p n):=by
 unfold nI;rw[firstE_zero];constructor
 .intro h p n e;have a : p<m.sp.length:=vT λi=>e (by unfold ent;rw[qA (by omega)];have:dK zSp.tb n=zEn:=yE n;rw[this];rfl);have i:0<=n/\n<64:=vT λi=>e (by rw[OM p (by omega)];rfl);refine(EN t e).1 (h _ (jV.2 ⟨dD m p,Da a,Dx (pX.2 ⟨i,e⟩)⟩))
 intro h x o;obtain⟨s,u,o⟩:=jV.1 o;obtain⟨n,i,rfl⟩:=eU.1 o;obtain⟨p,a,rfl⟩:=OQ u;have e:=(pX.1 i).2;exact(EN t e).2 (h p n e)
theorem SA(t:Tb)(i:Int):cnt (pG t (aT t)) i=(dE t).countP (pW 1 i):=by
 rw[<-Ff (show(1:Int)≠0 by decide)];unfold cnt pG pU qP;rw[ww,Jm,<-Ah];congr 1;funext n;simp only[JH,Dk];rw[nC];simp only[dW,uy,decide_eq_false_iff_not,rf,decide_eq_true_eq];exact and_comm
theorem Sm{t:Tb}(h:dB t=0)(i:Int):cnt (swapT t (aT t)) i=(dE t).countP (pW 2 i):=by
 rw[<-Ff (show(2:Int)≠0 by decide)];unfold cnt swapT pU qP;rw[ww,Jm,<-Ah];refine List.countP_congr λn o => ?_;have y:=(bD _).1 (qL h n);have u:=(pX.1 o).2;simp only[JH,Dk,dW,uy,decide_eq_false_iff_not,rf,decide_eq_true_eq];constructor
 .rintro⟨e,h2⟩;exact⟨by omega,e⟩
 .rintro⟨e,h2⟩;exact⟨h2,by omega⟩
theorem zN(l r:List Int)(i:Int):cnt (l++r) i=cnt l i+cnt r i:=by unfold cnt;rw[Db]
theorem ED{α:Type}(g:α->List Int)(i:Int):∀l:List α,cnt (l.flatMap g) i=(l.map λs=>cnt (g s) i).sum
 | []=>rfl
 | a::l=>by rw[nX,zN,ED g i l,bQ,yh]
theorem LK(m:Ma)(i:Int):cnt (vG m) i=tY m i+bO m 1 i:=by
 unfold vG;rw[zN,ED];congr 1
 .unfold cnt tY;rw[ww];rfl
 unfold bO;congr 1;exact AP λs _=>SA s.tb i
theorem Gz(h:Pt m)(i:Int):cnt (qJ m) i=bO m 2 i:=by
 unfold qJ bO;rw[ED];congr 1;exact AP λs e=>Sm (h.tb s e) i
theorem FH(y:Pt m):countB m=true↔(∀i:Nat,i<m.m.fs.length->(aD m i).r=tY m i+bO m 1 i)/\(∀i:Nat,i<m.m.fs.length->0<=(aD m i).f->∃c∈m.ca,c.k=i)/\∀s:Nat,s<m.sl.length->jS m s=bO m 2 s:=by
 unfold countB;rw[dW,fA,decide_eq_true_eq];constructor
 .rintro⟨o,h2⟩;have o:∀i:Nat,i<m.m.fs.length->_:=λi e=>o i (dG.2 e);simp only[dW,decide_eq_true_eq,qy,jK,LK,vg]at o;refine⟨λi e=>by rw[(o i e).1];omega,λi e z => ?_,λs C => ?_⟩
  .rcases(o i e).2 with h|⟨c,u,t⟩
   .have h:(aD m i).f<0:=of_decide_eq_true h;omega
   .exact⟨c,u,t⟩
  have:jS m s=(lC m.sl.length (qJ m)).getD s 0:=by rw[<-h2];rfl
  rw[this];unfold lC;rw[aY,iV,rT C];show((cnt (qJ m) s:Nat):Int)=_;rw[Gz y]
 rintro⟨o,h2,D⟩;refine⟨λi e => ?_,?_⟩
 .have e:=dG.1 e;simp only[dW,decide_eq_true_eq,qy,jK,LK,vg];refine⟨by rw[o i e];omega,?_⟩
  by_cases z:0<=(aD m i).f
  .obtain⟨c,u,t⟩:=h2 i e z;exact .inr ⟨c,u,t⟩
  .exact .inl (decide_eq_true (show(aD m i).f<0 by omega))
 apply qZ
 .unfold lC;simp
 intro s k1 A;have:=D s k1;have E:(lC m.sl.length (qJ m))[s]'A=((cnt (qJ m) (s:Int):Nat):Int):=by simp[lC]
 rw[E,Gz y,<-this];unfold jS;rw[aY,aF k1];rfl
theorem Iw :lV m=0↔Rt m:=by
 unfold lV;rw[nG,nG,nG,Cz,zK];constructor
 .rintro⟨⟨e,o,u⟩,z,y,i⟩;have i:countB m=true:=by
   cases h:countB m with
   | true=>rfl
   | false=>rw[h]at i;exact absurd i (by decide)
  obtain⟨D,C,A⟩:=(FH e).1 i;refine⟨e,Gx.1 o,λp a => ?_,z,(AC e).1 y,D,C,A⟩;rcases gu p m.sp.length with h|h
  .exact u _ (Da h) a
  rw[qA h];refine⟨rfl,λn => ?_⟩;unfold ent;rw[qA h];have:dK zSp.tb n=zEn:=yE n;rw[this];rfl
 intro h;refine⟨⟨h.pt,Gx.2 h.trim,λs t b => ?_⟩,h.ca,(AC h.pt).2 h.en,?_⟩
 .obtain⟨p,e,rfl⟩:=OQ t;exact h.live p b
 .rw[if_pos ((FH h.pt).2 ⟨h.cf,h.fc,h.cs⟩)]
def aP(m:Ma)(p:Nat)(n:Int)(x:En):Ma:=setTb m p (setT (dD m p).tb n x)
theorem xu{i:Int}{e:En}(h:e.k=0)(o:kd≠0):sD (pW kd i e)=0:=by
 unfold sD pW;rw[if_neg];simp only[dW,decide_eq_true_eq];intro t; omega
theorem pY{i:Int}{e:En}:sD (pW kd i e)=if e.k=kd/\e.n=i then 1 else 0:=by
 unfold sD pW
 by_cases h:e.k=kd/\e.n=i
 .rw[if_pos h,if_pos (by simp[h.1,h.2])]
 rw[if_neg h,if_neg];simp only[dW,decide_eq_true_eq];exact h
theorem AL(h:Rt m){j:Int}(e:(ent m q j).k=1)(y:(ent m q j).n.toNat=f):0<bO m 1 f/\f<m.m.fs.length:=by
 have o:=mo (m:=m) (p:=q) (n:=j) (by rw[e];decide);have z:=(bD _).1 (mE h.pt q j);have u:=(lJ (m:=m) (kd:=1) (i:=f) (by decide)).2 ⟨q,j,o.1,o.2,e,by omega⟩;obtain⟨g,_,t⟩:=h.en q j (by rw[e];decide);have:=t.lt e;exact⟨u,by omega⟩
theorem tO(h:Rt m)(G:Co m){x:En}{g:Pg}(hp:p<m.sp.length)(hn:0<=n/\n<64)(h0:(ent m p n).k=0)(N:f<m.m.fs.length)
 (I:x.k=1) (R:x.n=f) (hX:bR X=0) (hr:X.r=(aD m f).r+1)
 (hold:(aD m f).r≠0->X.f=(aD m f).f/\X.i=(aD m f).i/\X.p=(aD m f).p/\X.d=(aD m f).d)
 (E:(aD m f).r=0->X.f<0/\X.d=false)
 (hw:X.f<0->∀q j,(ent m q j).k=1->(ent m q j).n.toNat=f->(ent m q j).w=false)
 (S:eT m p n=some g) (K:Oj X g x.w):Rt (aP (setFr m f X) p n x)/\Co (aP (setFr m f X) p n x):=by
 have hm:Pt (setFr m f X):=h.pt.setFr hX;have hu:eF x=0:=(bD x).2 (.inr (.inl ⟨I,by have:=((dO _).1 h.pt.fr).1;omega⟩));obtain⟨Y,_,hx⟩:=iU (k:=⟨setFr m f X,0⟩) (p:=p) (n:=n) (x:=x) hm hn hu;have V:p<(setFr m f X).sp.length:=hp;have z:∀q j,ent (aP (setFr m f X) p n x) q j=if q=p/\j=n then x else ent m q j:=λq j=>nN V Y q j;have l:∀y,aD (aP (setFr m f X) p n x) y=if y=f then X else aD m y:=λy=>iB N y;have b:(aP (setFr m f X) p n x).m.fs.length=m.m.fs.length:=fo;have ha:∀kd i,kd≠0->bO (aP (setFr m f X) p n x) kd i=bO m kd i+sD (pW kd i x):=λkd i F=>by have D:=qN V Y kd i;have h2:sD (pW kd i (ent (setFr m f X) p n))=0:=xu (e:=ent (setFr m f X) p n) h0 F;have h3:bO (setFr m f X) kd i=bO m kd i:=rfl;unfold aP;omega
 have hj:iF m (setFr m f X):=iF.of rfl;have T:iF m (aP (setFr m f X) p n x):=hj.trans (iF.setTb (m:=setFr m f X) (p:=p) (t:=setT (dD (setFr m f X) p).tb n x));have hA:uK (aP (setFr m f X) p n x):=by
  refine⟨h.ca.file,λc a => ?_,λc a => ?_,h.ca.srt⟩
  .rw[b];exact h.ca.lt c a
  have D:=h.ca.fr c a;rw[l]
  by_cases e:c.k.toNat=f
  .rw[if_pos e];rw[e]at D;obtain⟨k1,U,_⟩:=hold (by omega);exact⟨by omega,by omega,by omega⟩
  .rw[if_neg e];exact D
 refine⟨⟨hx,h.trim,λq W => ?_,hA,λq j F => ?_,λi J => ?_,λi J v => ?_,λs hs => ?_⟩,⟨λc a => ?_,λc a A => ?_,λi J A => ?_⟩⟩
 .rw[T.lv]at W;obtain⟨O,a2⟩:=h.live q W;refine⟨by rw[T.ar];exact O,λj => ?_⟩;rw[z,if_neg]
  .exact a2 j
  rintro⟨rfl,rfl⟩;have:eT m q j=onA (dD m q).ar j:=rfl;rw[this,O]at S;cases S
 .have hz:eT (aP (setFr m f X) p n x) q j=eT m q j:=by unfold eT;rw[T.ar]
  rw[hz];rw[z]at F ⊢
  by_cases e:q=p/\j=n
  .rw[if_pos e]at F ⊢;rw[e.1,e.2];refine⟨g,S,λhB=>by omega,λ_=>by rw[b];omega,λ_ => ?_⟩;rw[l,if_pos (by omega)];exact K
  rw[if_neg e]at F ⊢;obtain⟨y,hy,o⟩:=h.en q j F;refine⟨y,hy,o.sw,by rw[b];exact o.lt,λu => ?_⟩;rw[l]
  by_cases L:(ent m q j).n.toNat=f
  .rw[if_pos L];have D:=o.fr u;rw[L]at D;have h2:=AL h u L;have h3:=h.cf f N;obtain⟨k1,U,_,_⟩:=hold (by omega);obtain⟨f1,f2,f3,f4,f5⟩:=D;refine⟨by rw[k1,U];exact f1,by rw[k1];exact f2,f3,by rw[k1];exact f4,λZ hv => ?_⟩;rw[hw hv q j u L]at Z;cases Z
  .rw[if_neg L];exact o.fr u
 .have O:tY (aP (setFr m f X) p n x) i=tY m i:=rfl;rw[l,O,ha 1 i (by decide),pY];have h3:=h.cf i (by rw[<-b];exact J)
  by_cases e:i=f
  .subst e;rw[if_pos rfl,if_pos ⟨I,R⟩,hr];omega
  .rw[if_neg e,if_neg (λh'=>e (by omega))];omega
 .rw[l]at v
  by_cases e:i=f
  .subst e;rw[if_pos rfl]at v
   by_cases C:(aD m i).r=0
   .have:=(E C).1;omega
   obtain⟨k1,_⟩:=hold C;exact h.fc i N (by omega)
  rw[if_neg e]at v;exact h.fc i (by rw[<-b];exact J) v
 .rw[ha 2 s (by decide),pY,if_neg (λh'=>by omega)];exact h.cs s hs
 .have D:=h.ca.fr c a;rw[l]
  by_cases e:c.k.toNat=f
  .rw[if_pos e];rw[e]at D;obtain⟨_,_,Q,_⟩:=hold (by omega);rw[Q,<-e];exact G.tail c a
  .rw[if_neg e];exact G.tail c a
 .have D:=h.ca.fr c a;rw[l]at A ⊢
  by_cases e:c.k.toNat=f
  .rw[if_pos e]at A ⊢;rw[e]at D;obtain⟨_,_,Q,P⟩:=hold (by omega);rw[Q,<-e];exact G.clean c a (by rw[e,<-P];exact A)
  .rw[if_neg e]at A ⊢; exact G.clean c a A
 rw[l]at A ⊢
 by_cases e:i=f
 .subst e;rw[if_pos rfl]at A ⊢
  by_cases C:(aD m i).r=0
  .rw[(E C).2]at A;cases A
  obtain⟨k1,_,_,P⟩:=hold C;rw[k1];exact G.anon i N (by rw[<-P];exact A)
 .rw[if_neg e]at A ⊢; exact G.anon i (by rw[<-b];exact J) A
theorem GJ(h:Rt m)(R:Co m){x:En}{g:Pg}(hp:p<m.sp.length)(hn:0<=n/\n<64)(h0:(ent m p n).k=0)(hs:s<m.sl.length)
 (E:x.k=2) (I:x.n=s) (G:x.w=false) (S:jS m s+1<=1000) (C:bV d=0) (Q:d.blocks.length=m.sw.blocks.length) (P:eT m p n=some g) (L:g.sh=false) :
  Rt (aP { setSl m s (jS m s+1)with sw:=d } p n x)/\Co (aP { setSl m s (jS m s+1)with sw:=d } p n x):=by
 have hb:=h.pt.slB s;have ha:Pt (setSl m s (jS m s+1)):=h.pt.setSl (by omega) S;have hz:Pt { setSl m s (jS m s+1)with sw:=d }:={ ha with sw:=C,swl:=by show d.blocks.length=_;rw[Q];exact ha.swl };have hE:eF x=0:=(bD x).2 (.inr (.inr ⟨E,by have:=lu h.pt.sl;omega,by have:=lu h.pt.sl;omega,G⟩));obtain⟨T,_,hG⟩:=iU (k:=⟨{ setSl m s (jS m s+1)with sw:=d },0⟩) (p:=p) (n:=n) (x:=x) hz hn hE;have hA:p<({ setSl m s (jS m s+1)with sw:=d }:Ma).sp.length:=hp;generalize hm1:({ setSl m s (jS m s+1)with sw:=d }:Ma)=m1 at *
 have N:m1.sp=m.sp:=by rw[<-hm1];rfl
 have V:m1.m=m.m:=by rw[<-hm1];rfl
 have hD:m1.ca=m.ca:=by rw[<-hm1];rfl
 have hw:m1.st=m.st:=by rw[<-hm1];rfl
 have hC:m1.dk=m.dk:=by rw[<-hm1];rfl
 have u:m1.sl=m.sl.set s (jS m s+1):=by rw[<-hm1];rfl
 have v:∀q j,ent m1 q j=ent m q j:=λq j=>by unfold ent dD;rw[N]
 have Z:∀q j,ent (aP m1 p n x) q j=if q=p/\j=n then x else ent m q j:=λq j=>by rw[<-v];exact nN hA T q j
 have o:∀y,aD (aP m1 p n x) y=aD m y:=λy=>by unfold aD aP setTb;simp only;rw[V]
 have l:(aP m1 p n x).m.fs.length=m.m.fs.length:=by unfold aP setTb;simp only;rw[V]
 have W:∀kd i,kd≠0->bO (aP m1 p n x) kd i=bO m kd i+sD (pW kd i x):=λkd i D=>by
  have h1:=qN hA T kd i;have h2:sD (pW kd i (ent m1 p n))=0:=xu (by rw[v];exact h0) D;have h3:bO m1 kd i=bO m kd i:=by unfold bO;rw[N]
  unfold aP;omega
 have K:iF m (aP m1 p n x):=(iF.of N).trans iF.setTb;have f:(aP m1 p n x).ca=m.ca:=hD;have t:(aP m1 p n x).st=m.st:=hw;have Y:(aP m1 p n x).dk=m.dk:=hC;have hv:∀a b,dz (aP m1 p n x) a b=dz m a b:=λa b=>by unfold dz;rw[t,Y]
 refine⟨⟨hG,by rw[Y,t];exact h.trim,λq U => ?_,⟨by rw[f,t];exact h.ca.file,by rw[f,l];exact h.ca.lt,λc r=>by rw[o];exact h.ca.fr c (by rw[<-f];exact r),by rw[f];exact h.ca.srt⟩,λq j D => ?_,λi A => ?_,λi A hB => ?_,λi A => ?_⟩,⟨λc r => ?_,λc r C => ?_,λi A C => ?_⟩⟩
 .rw[K.lv]at U;obtain⟨F,a2⟩:=h.live q U;refine⟨by rw[K.ar];exact F,λj => ?_⟩;rw[Z,if_neg]
  .exact a2 j
  rintro⟨rfl,rfl⟩;have:eT m q j=onA (dD m q).ar j:=rfl;rw[this,F]at P;cases P
 .have hH:eT (aP m1 p n x) q j=eT m q j:=by unfold eT;rw[K.ar]
  have z:(aP m1 p n x).sl.length=m.sl.length:=by show m1.sl.length=_;rw[u,bL]
  rw[hH];rw[Z]at D ⊢
  by_cases e:q=p/\j=n
  .rw[if_pos e]at D ⊢;rw[e.1,e.2];exact⟨g,P,λ_=>⟨by rw[z];omega,L⟩,λJ=>by omega,λJ=>by omega⟩
  rw[if_neg e]at D ⊢;obtain⟨y,hy,O⟩:=h.en q j D;exact⟨y,hy,by rw[z];exact O.sw,by rw[l];exact O.lt,λJ=>by rw[o];exact O.fr J⟩
 .have F:tY (aP m1 p n x) i=tY m i:=by unfold tY;rw[f]
  rw[o,F,W 1 i (by decide),pY,if_neg (λh'=>by omega)];exact h.cf i (by rw[<-l];exact A)
 .rw[f];rw[o]at hB;exact h.fc i (by rw[<-l];exact A) hB
 .have hI : i<m.sl.length:=by have:(aP m1 p n x).sl=m1.sl:=rfl;rw[this,u,bL]at A;exact A
  have hF:jS (aP m1 p n x) i=if i=s then jS m s+1 else jS m i:=by
   have h1:=JF (x:=jS m s+1) hs i;have h2:jS (aP m1 p n x) i=jS (setSl m s (jS m s+1)) i:=by unfold jS;show m1.sl.getD i 0=_;rw[u];rfl
   rw[h2,h1]
  rw[hF,W 2 i (by decide),pY];have h3:=h.cs i hI
  by_cases e:i=s
  .subst e;rw[if_pos rfl,if_pos ⟨E,I⟩];omega
  .rw[if_neg e,if_neg (λh'=>e (by omega))];omega
 .rw[o,t];rw[f]at r;exact R.tail c r
 .rw[f]at r;rw[o]at C ⊢; rw[hv];exact R.clean c r C
 .rw[o]at C ⊢; exact R.anon i (by rw[<-l];exact A) C
theorem Ml(h:Rt m)(D:Co m)(A:(ent m p n).k=1):Rt (aP m p n ⟨1,(ent m p n).n,false⟩)/\Co (aP m p n ⟨1,(ent m p n).n,false⟩):=by
 have l:=mo (m:=m) (p:=p) (n:=n) (by rw[A];decide);have P:=(bD _).1 (mE h.pt p n);have u:eF ⟨1,(ent m p n).n,false⟩=0:=(bD _).2 (.inr (.inl ⟨rfl,by show 0<=(ent m p n).n;omega,by show(ent m p n).n<40;omega⟩));generalize hx:(⟨1,(ent m p n).n,false⟩:En)=x at *
 have t:x.k=1:=by rw[<-hx]
 have f:x.n=(ent m p n).n:=by rw[<-hx]
 have r:x.w=false:=by rw[<-hx]
 obtain⟨o,_,v⟩:=iU (k:=⟨m,0⟩) (p:=p) (n:=n) (x:=x) h.pt l.2 u;have c:∀q j,ent (aP m p n x) q j=if q=p/\j=n then x else ent m q j:=λq j=>nN l.1 o q j;have d:∀kd i,bO (aP m p n x) kd i=bO m kd i:=λkd i=>by
  have F:=qN l.1 o kd i;have h2:sD (pW kd i (ent m p n))=sD (pW kd i x):=by rw[pY,pY,t,f,A]
  unfold aP;omega
 have g:iF m (aP m p n x):=iF.setTb;refine⟨⟨v,h.trim,λq E => ?_,⟨h.ca.file,h.ca.lt,h.ca.fr,h.ca.srt⟩,λq j b => ?_,λi J=>by rw[d];exact h.cf i J,h.fc,λs I=>by rw[d];exact h.cs s I⟩,⟨D.tail,D.clean,D.anon⟩⟩
 .rw[g.lv]at E;obtain⟨N,G⟩:=h.live q E;refine⟨by rw[g.ar];exact N,λj => ?_⟩;rw[c,if_neg]
  .exact G j
  rintro⟨rfl,rfl⟩;have:=G j;omega
 have z:eT (aP m p n x) q j=eT m q j:=by unfold eT;rw[g.ar]
 rw[z];rw[c]at b ⊢
 by_cases e:q=p/\j=n
 .rw[if_pos e]at b ⊢;rw[e.1,e.2];obtain⟨y,C,a⟩:=h.en p n (by rw[A];decide);have F:=a.lt A;obtain⟨L,K,S,R,Q⟩:=a.fr A;refine⟨y,C,λO=>by omega,λ_=>by rw[f];exact F,λ_ => ?_⟩;rw[f,r];exact⟨L,K,λh=>(by cases h),λh=>(by cases h),λh=>(by cases h)⟩
 rw[if_neg e]at b ⊢;obtain⟨y,C,a⟩:=h.en q j b;exact⟨y,C,a.sw,a.lt,a.fr⟩
theorem Mw(h:Rt m)(C:Co m){s:Sp}(J:m.sp.length<4)(F:s.lv=true)(G:(bP s.ar).1=0)(z:s.tb=zTb):Rt { m with sp:=m.sp++[s] }/\Co { m with sp:=m.sp++[s] }:=by
 have a:∀q,dD { m with sp:=m.sp++[s] } q=if q=m.sp.length then s else dD m q:=λq=>by
  unfold dD;show(m.sp++[s]).getD q zSp=_;rw[aY,List.getElem?_append]
  by_cases e:q<m.sp.length
  .rw[if_pos e,if_neg (by omega),aY]
  rw[if_neg e]
  by_cases D:q=m.sp.length
  .rw[if_pos D,D,qx];rfl
  .rw[if_neg D,aY,eY (by simp;omega),eY (by omega)]
 have b:∀q j,ent { m with sp:=m.sp++[s] } q j=ent m q j:=λq j=>by
  unfold ent;rw[a]
  by_cases e:q=m.sp.length
  .rw[if_pos e,qA (by omega),z];rfl
  .rw[if_neg e]
 have c:∀kd i,kd≠0->bO { m with sp:=m.sp++[s] } kd i=bO m kd i:=λkd i u=>by
  unfold bO;show((m.sp++[s]).map _).sum=_;rw[jJ,Iz];have:([s].map λs=>(dE s.tb).countP (pW kd i)).sum=0:=by rw[List.map_singleton,List.sum_singleton,z,yl];intro e E;unfold dE at E;obtain⟨j,_,rfl⟩:=eU.1 E;rw[yE];unfold pW;simp only[dW,decide_eq_true_eq];rintro⟨I,_⟩;exact u I.symm
  omega
 refine⟨⟨{ h.pt with spl:=by simp;omega,ar:=λy o => ?_,tb:=λy o => ?_ },h.trim,λq t => ?_,⟨h.ca.file,h.ca.lt,h.ca.fr,h.ca.srt⟩,λq j u => ?_,λi A=>by rw[c 1 i (by decide)];exact h.cf i A,h.fc,λi A=>by rw[c 2 i (by decide)];exact h.cs i A⟩,⟨C.tail,C.clean,C.anon⟩⟩
 .rcases gH.1 o with o|o
  .exact h.pt.ar y o
  .rw[bB.1 o];exact G
 .rcases gH.1 o with o|o
  .exact h.pt.tb y o
  .rw[bB.1 o,z];decide
 .rw[a]at t ⊢
  by_cases e:q=m.sp.length
  .rw[if_pos e,F]at t;cases t
  rw[if_neg e]at t ⊢;refine⟨(h.live q t).1,λj=>by rw[b];exact(h.live q t).2 j⟩
 rw[b]at u ⊢;obtain⟨y,o,d⟩:=h.en q j u;have t:=mo u;refine⟨y,?_,d.sw,d.lt,d.fr⟩;unfold eT at o ⊢;rw[a,if_neg (by omega)];exact o
def fO(T:List (List En))(p:Nat):List En:=T.getD p []
def fU(T:List (List En))(p n:Nat):En:=(fO T p).getD n zEn
def fe(m:Ma)(T:List (List En)):Ma:={ m with sp:=(List.range m.sp.length).map λp => { dD m p with tb:=ig (fO T p) } }
structure Bt (m:Ma) (T:List (List En)):Prop where
 len:T.length=m.sp.length
 ln:∀t∈T,t.length=64
 en:∀t∈T,∀x∈t,eF x=0
theorem lL{T:List (List En)}:(fe m T).sp.length=m.sp.length:=by unfold fe;simp
theorem Bo{T:List (List En)}(e:p<m.sp.length):dD (fe m T) p = { dD m p with tb:=ig (fO T p) }:=by
 have:dD (fe m T) p=((List.range m.sp.length).map λp=>({ dD m p with tb:=ig (fO T p) }:Sp)).getD p zSp:=rfl;rw[this,aY,iV,rT e];rfl
theorem Bt.mem{T:List (List En)}(h:Bt m T)(e:p<m.sp.length):fO T p∈T:=by
 unfold fO;rw[aY,aF (by rw[h.len];exact e)];exact eu _
theorem Bt.l64{T:List (List En)}(h:Bt m T)(e:p<m.sp.length):(fO T p).length=64:=h.ln _ (h.mem e)
theorem Bt.right{T:List (List En)}(h:Bt m T)(e:p<m.sp.length):dB (ig (fO T p))=0:=CB (h.en _ (h.mem e)) (h.l64 e)
theorem mU{T:List (List En)}(h:Bt m T){n:Nat}(e:p<m.sp.length)(i:n<64):ent (fe m T) p n=fU T p n:=by
 unfold ent fU;rw[Bo e];show dK (ig (fO T p)) n=_;rw[zt (h.en _ (h.mem e)) (h.l64 e) i,aY,aF (by rw[h.l64 e];exact i)];rfl
theorem zk{T:List (List En)}(h:Bt m T){n:Nat}(e:p<m.sp.length)(i:n<64):eF (fU T p n)=0:=by
 unfold fU;rw[aY,aF (by rw[h.l64 e];exact i)];exact h.en _ (h.mem e) _ (eu _)
def setL(T:List (List En))(p n:Nat)(x:En):List (List En):=T.set p ((fO T p).set n x)
theorem sU{T:List (List En)}(i:p<T.length){n:Nat}{x:En}(q:Nat):fO (setL T p n x) q=if q=p then(fO T p).set n x else fO T q:=by
 unfold fO setL;rw[aY,oq]
 by_cases e:q=p
 .subst e;rw[if_pos rfl,if_pos i,if_pos rfl];rfl
 .rw[if_neg (λh=>e h.symm),if_neg e,aY]
theorem Bt.set{T:List (List En)}(h:Bt m T){n:Nat}{x:En}(o:p<m.sp.length)(u:eF x=0):Bt m (setL T p n x):=by
 refine⟨by unfold setL;rw[bL];exact h.len,λt e => ?_,λt e y i => ?_⟩
 .rcases lU e with e|rfl
  .exact h.ln t e
  .rw[bL];exact h.l64 o
 rcases lU e with e|rfl
 .exact h.en t e y i
 rcases lU i with i|rfl
 .exact h.en _ (h.mem o) y i
 .exact u
theorem xI{T:List (List En)}(h:Bt m T){n:Nat}{x:En}(o:p<m.sp.length)(t:n<64)(q j:Nat):fU (setL T p n x) q j=if q=p/\j=n then x else fU T q j:=by
 unfold fU;rw[sU (by rw[h.len];exact o)]
 by_cases e:q=p
 .subst e;rw[if_pos rfl,aY,oq]
  by_cases i:j=n
  .subst i;rw[if_pos rfl,if_pos (by rw[h.l64 o];exact t),if_pos ⟨rfl,rfl⟩];rfl
  .rw[if_neg (λh=>i h.symm),if_neg (λh=>i h.2),aY]
 .rw[if_neg e,if_neg (λh=>e h.1)]
theorem sK{T:List (List En)}(h:Bt m T){n:Nat}{x:En}(i:p<m.sp.length)(A:n<64)(o:eF x=0):aP (fe m T) p n x=fe m (setL T p n x):=by
 have z:=h.l64 i;have t:=h.right i;have a:setE (ig (fO T p)) n x=0:=Bn t ⟨by omega,by omega⟩ o;have u:setT (ig (fO T p)) n x=ig ((fO T p).set n x):=by rw[<-zC (qm a),AB a,EP (h.en _ (h.mem i)) z,bu]
 unfold aP setTb;rw[Bo i];show{ fe m T with sp:=(fe m T).sp.set p { dD m p with tb:=setT (ig (fO T p)) n x } }=fe m (setL T p n x);rw[u];refine congrArg (λs=>({ m with sp:=s }:Ma)) (?_:((List.range m.sp.length).map λp=>({ dD m p with tb:=ig (fO T p) }:Sp)).set p { dD m p with tb:=ig ((fO T p).set n x) }=(List.range m.sp.length).map λq=>({ dD m q with tb:=ig (fO (setL T p n x) q) }:Sp));apply nY;intro q;rw[oq,iV,iV];simp only[dV,rJ]
 by_cases e:q=p
 .subst e;rw[if_pos rfl,if_pos i,rT i,rY,sU (by rw[h.len];exact i),if_pos rfl]
 rw[if_neg (λh=>e h.symm)]
 by_cases y:q<m.sp.length
 .rw[rT y,rY,rY,sU (by rw[h.len];exact i),if_neg e]
 .rw[eY (by simp;omega),IL,IL]
theorem Ao{T:List (List En)} :setFr (fe m T) f X=fe (setFr m f X) T:=rfl
theorem Bt.fr{T:List (List En)}(h:Bt m T) :Bt (setFr m f X) T:=⟨h.len,h.ln,h.en⟩
theorem Bt.sps{T:List (List En)}(h:Bt m T)(e:m'.sp.length=m.sp.length):Bt m' T:=⟨by rw[e];exact h.len,h.ln,h.en⟩
theorem pE{T:List (List En)}(e:p<m.sp.length)(n:Int):eT (fe m T) p n=onA (dD m p).ar n:=by
 unfold eT;rw[Bo e]
theorem NQ{T:List (List En)}(h:Bt m T)(s:Sp):fe { m with sp:=m.sp++[s] } (T++[List.replicate 64 zEn]) = { fe m T with sp:=(fe m T).sp++[{ s with tb:=zTb }] }:=by
 have e:ig (List.replicate 64 zEn)=zTb:=by decide +kernel
 unfold fe;simp only[Ma.mk.injEq,true_and,jk,Ec];rw[yf,jJ];congr 1
 .apply AP;intro p i;have a:=dG.1 i;unfold dD fO;simp only[aY];rw[kK a,kK (by rw[h.len];exact a)]
 unfold dD fO;simp only[bQ,aZ,aY];rw[jU (az _),qx,<-h.len,jU (az _),qx];simp only[qV,qh];rw[e]
theorem Bt.more{T:List (List En)}(h:Bt m T)(s:Sp):Bt { m with sp:=m.sp++[s] } (T++[List.replicate 64 zEn]):=by
 refine⟨by simp[h.len],λt e => ?_,λt e x i => ?_⟩
 .rcases gH.1 e with e|e
  .exact h.ln t e
  .rw[bB.1 e,kL]
 rcases gH.1 e with e|e
 .exact h.en t e x i
 rw[bB.1 e]at i;rw[(Dl.1 i).2];decide
def AQ(m1:Ma)(g:Nat)(X:Fr)(f i:Int):Ma:={ setFr m1 g X with ca:=m1.ca.insertIdx (sS m1.ca f i) ⟨f,i,g⟩ }
theorem Vo{f i:Int}(h:Rt m1)(G:Co m1)(K:g<m1.m.fs.length)(P:(aD m1 g).r=0)(C:qK m1.st f i)(F:∀c∈m1.ca,¬(c.f=f/\c.i=i))
 (I:X.r=1/\X.f=f/\X.i=i) (R:dw X.p ((aN m1.st f).n-i*8)=X.p) (U:X.d=false->X.p=dz m1 f i) :
  Rt (AQ m1 g X f i)/\Co (AQ m1 g X f i):=by
 have hi:=zu h.pt.st C;have V:bR X=0:=by rw[dL];have h1:=C.1;have h2:=C.2;exact⟨⟨by omega,by omega,by omega,by omega,by omega,by omega⟩,λe=>by omega,λe=>by omega⟩
 have q:∀x,aD (AQ m1 g X f i) x=if x=g then X else aD m1 x:=λx=>iB K x;have b:∀x,x≠g->aD (AQ m1 g X f i) x=aD m1 x:=λx D=>by rw[q,if_neg D]
 have j:(AQ m1 g X f i).m.fs.length=m1.m.fs.length:=fo;have a:∀c,c∈(AQ m1 g X f i).ca↔c=⟨f,i,g⟩\/c∈m1.ca:=λc=>yJ (zU _ _ _);have u:∀c∈m1.ca,c.k.toNat≠g:=λc A e=>by have:=(h.ca.fr c A).1;rw[e,P]at this;exact absurd this (by decide)
 have t:∀O J,dz (AQ m1 g X f i) O J = dz m1 O J:=λ_ _=>rfl;have o:bO m1 1 g=0/\tY m1 g=0:=by have:=h.cf g K;omega
 have T:Pt (AQ m1 g X f i):={ fr:=EX h.pt.fr V,sl:=h.pt.sl,sw:=h.pt.sw,dk:=h.pt.dk,st:=h.pt.st,swl:=h.pt.swl,dkl:=h.pt.dkl,spl:=h.pt.spl,ar:=h.pt.ar,tb:=h.pt.tb };have w:uK (AQ m1 g X f i):=by
  refine⟨λc A => ?_,λc A => ?_,λc A => ?_,zl h.ca.srt F⟩
  .rcases(a c).1 A with rfl|A
   .exact C
   .exact h.ca.file c A
  .rw[j];rcases(a c).1 A with rfl|A
   .show 0<=(g:Int)/\(g:Int)<_;omega
   .exact h.ca.lt c A
  rcases(a c).1 A with rfl|A
  .rw[q,if_pos (bu g)];exact⟨by omega,I.2.1,I.2.2⟩
  .rw[b _ (u c A)];exact h.ca.fr c A
 have W:∀p n,ent (AQ m1 g X f i) p n=ent m1 p n:=λ_ _=>rfl;have v:∀p n,(ent m1 p n).k=1->(ent m1 p n).n.toNat≠g:=by intro p n E e;have L:=mo (m:=m1) (p:=p) (n:=n) (by rw[E];decide);have h5:=(bD _).1 (mE h.pt p n);have h4:=(lJ (m:=m1) (kd:=1) (i:=g) (by decide)).2 ⟨p,n,L.1,L.2,E,by omega⟩;omega
 refine⟨⟨T,h.trim,h.live,w,λp n E => ?_,λx D => ?_,λx D N => ?_,h.cs⟩,⟨λc A => ?_,λc A l => ?_,λx D l => ?_⟩⟩
 .rw[W]at E ⊢;obtain⟨y,Q,s⟩:=h.en p n E;exact⟨y,Q,s.sw,by rw[j];exact s.lt,λz=>by rw[b _ (v p n z)];exact s.fr z⟩
 .have Z:tY (AQ m1 g X f i) x=tY m1 x+sD (decide ((g:Int)=x)):=uR _ _ _ _ (zU _ _ _);have Y:bO (AQ m1 g X f i) 1 x=bO m1 1 x:=rfl;rw[q,Z,Y]
  by_cases e:x=g
  .subst e;rw[if_pos rfl,o.1,o.2];have:sD (decide ((x:Int)=(x:Int)))=1:=by simp[sD]
   rw[this,I.1];rfl
  rw[if_neg e];have:sD (decide ((g:Int)=(x:Int)))=0:=by unfold sD;rw[if_neg];simp only[decide_eq_true_eq];omega
  rw[this];exact h.cf x (by rw[<-j];exact D)
 .by_cases e:x=g
  .exact⟨⟨f,i,g⟩,(a _).2 (.inl rfl),by rw[e]⟩
  rw[b x e]at N;obtain⟨c,A,S⟩:=h.fc x (by rw[<-j];exact D) N;exact⟨c,(a c).2 (.inr A),S⟩
 .rcases(a c).1 A with rfl|A
  .rw[q,if_pos (bu g)];exact R
  .rw[b _ (u c A)];exact G.tail c A
 .rcases(a c).1 A with rfl|A
  .rw[q,if_pos (bu g)]at l ⊢; rw[t];exact U l
  rw[b _ (u c A)]at l ⊢;rw[t];exact G.clean c A l
 by_cases e:x=g
 .rw[q,if_pos e];have:=C.1.1;omega
 .rw[b x e]at l ⊢; exact G.anon x (by rw[<-j];exact D) l
theorem Wm(h:Rt m)(e:Co m){x:Int}(i:bv ⟨m.m.fs,x⟩=0):Rt { m with m:=⟨m.m.fs,x⟩ }/\Co { m with m:=⟨m.m.fs,x⟩ }:=
 ⟨⟨{ h.pt with fr:=i },h.trim,h.live,⟨h.ca.file,h.ca.lt,h.ca.fr,h.ca.srt⟩,λp n o=>have ⟨y,hy,hf⟩:=h.en p n o;⟨y,hy,hf.sw,hf.lt,hf.fr⟩,h.cf,h.fc,h.cs⟩,⟨e.tail,e.clean,e.anon⟩⟩
theorem Ta{α:Type}(g:α->Nat)(c:Nat)(h:∀x,g x<=c):∀l:List α,(l.map g).sum<=c*l.length
 | []=>by simp
 | x::l=>by have e:=Ta g c h l;have h2:=h x;rw[bQ,yh,lF,Jy];omega
theorem yN(t:Tb):(dE t).length=64:=by unfold dE;simp
theorem Fq(m:Ma)(kd i:Int):bO m kd i<=64*m.sp.length:=Ta _ 64 (λs=>by rw[<-yN s.tb];exact yG) _
theorem Ub(h:uK m)(i:Int):tY m i<=1:=BU h.srt λa t b o e=>h.uniq t o e
theorem Rt.fewR(h:Rt m)(e:f<m.m.fs.length):0<=(aD m f).r/\(aD m f).r<=257:=by
 have t:=h.cf f e;have h2:=Fq m 1 f;have o:=Ub h.ca f;have i:=h.pt.spl;omega
theorem Rt.fewS(h:Rt m)(e:s<m.sl.length):0<=jS m s/\jS m s<=256:=by
 have o:=h.cs s e;have h2:=Fq m 2 s;have i:=h.pt.spl;omega
theorem Le(h:Pt m){i:Int}(u:kd≠0){j:Int}(z:(ent m p n).k=kd/\(ent m p n).n=i)(h2:(ent m q j).k=kd/\(ent m q j).n=i)(o:¬(q=p/\j=n)):2<=bO m kd i:=by
 have t:=mo (m:=m) (p:=p) (n:=n) (by omega);have y:=mo (m:=m) (p:=q) (n:=j) (by omega);obtain⟨a,_,_⟩:=iU (k:=⟨m,0⟩) (p:=p) (n:=n) (x:=zEn) h t.2 (by decide);have F:=qN t.1 a kd i;have E:sD (pW kd i (ent m p n))=1:=by rw[pY,if_pos z]
 have D:sD (pW kd i zEn)=0:=xu rfl u;have C:0<bO (setTb m p (setT (dD m p).tb n zEn)) kd i:=by refine(lJ u).2 ⟨q,j,by rw[vB];exact y.1,y.2,?_⟩;rw[nN t.1 a,if_neg o];exact h2
 have A:bO ({ m:=m,e:=0 }:Kp).m kd i=bO m kd i:=rfl;omega
def eP(x:Fr):Fr:={ x with r:=x.r+1 }
theorem JX{x:Fr}(h:bR x=0)(o:x.r≠0)(t:x.r<1000):bR (eP x)=0:=by
 rw[dL]at h ⊢;obtain⟨⟨a,b,c⟩,d,e⟩:=h;refine⟨⟨?_,?_,c⟩,λi => ?_,e⟩
 .show 0<=x.r+1;omega
 .show x.r+1<=1000;omega
 have:x.r+1=0:=i;omega
theorem gM(h:Rt m)(e:(ent m p n).k=1):∃f:Nat,(ent m p n).n=f/\f<m.m.fs.length/\(aD m f).r≠0/\p<m.sp.length/\(0<=n/\n<64)/\∃g,eT m p n=some g/\Oj (aD m f) g (ent m p n).w:=by
 have t:=mo (m:=m) (p:=p) (n:=n) (by rw[e];decide);have h2:=(bD _).1 (mE h.pt p n);obtain⟨g,u,i⟩:=h.en p n (by rw[e];decide);have y:=i.lt e;have o:=AL h e rfl;refine⟨(ent m p n).n.toNat,by omega,o.2,?_,t.1,t.2,g,u,i.fr e⟩;have:=h.cf _ o.2;omega
theorem FE(h:Rt m)(I:Co m){g:Pg}(t:(ent m p n).k=1)(F:(ent m p n).n=f)(E:q<m.sp.length)(J:(ent m q n).k=0)(G:eT m p n=some g)(i:eT m q n=some g)(D:(ent m p n).w=true->g.sh=true)
 (e:(aD m f).f<0->∀a j,(ent m a j).k=1->(ent m a j).n.toNat=f->(ent m a j).w=false) :
  Rt (aP (setFr m f (eP (aD m f))) q n (ent m p n))/\Co (aP (setFr m f (eP (aD m f))) q n (ent m p n)):=by
 obtain⟨y,U,o,A,T,P,R,z,O⟩:=gM h t;have:y = f:=by omega
 subst this;rw[G]at z;cases z;have Q:=h.fewR o;refine tO (g:=g) h I E P J o t F (JX (h.pt.frE o) A (by omega)) rfl (λ_=>⟨rfl,rfl,rfl,rfl⟩) (λh=>absurd h A) e i ?_;obtain⟨N,u,L,K,S⟩:=O;refine⟨N,u,L,K,λb C => ?_⟩;have:=u (D b);have c : (aD m y).f<0:=C;omega
theorem Oh(h:Rt m)(L:Co m){g:Pg}(z:p≠q)(A:(ent m p n).k=1)(E:(ent m p n).n=f)(J:q<m.sp.length)(N:(ent m q n).k=0)(K:eT m p n=some g)(C:eT m q n=some g) :
  Rt (aP (aP (setFr m f (eP (aD m f))) p n ⟨1,f,false⟩) q n ⟨1,f,false⟩)/\Co (aP (aP (setFr m f (eP (aD m f))) p n ⟨1,f,false⟩) q n ⟨1,f,false⟩):=by
 obtain⟨t,e1,Q,e3,P,O,W,Z,Y⟩:=gM h A;have:t = f:=by omega
 subst this;obtain⟨G,F⟩:=Ml h L A;rw[E]at G F;obtain⟨r,_,_⟩:=iU (k:=⟨m,0⟩) (p:=p) (n:=n) (x:=⟨1,t,false⟩) h.pt O ((bD _).2 (.inr (.inl ⟨rfl,by show(0:Int)<=t; omega,by have:=((dO _).1 h.pt.fr).1;show(t : Int)<40;omega⟩)));have b:∀a j,ent (aP m p n ⟨1,t,false⟩) a j=if a=p/\j=n then⟨1,t,false⟩else ent m a j:=λa j=>nN P r a j;have u:ent (aP m p n ⟨1,t,false⟩) p n=⟨1,t,false⟩:=by rw[b,if_pos ⟨rfl,rfl⟩]
 have d:iF m (aP m p n ⟨1,t,false⟩):=iF.setTb;have l:∀a,eT (aP m p n ⟨1,t,false⟩) a n=eT m a n:=λa=>by unfold eT;rw[d.ar]
 have:=FE (p:=p) (q:=q) (n:=n) (f:=t) (g:=g) G F (by rw[u]) (by rw[u]) (by rw[d.len];exact J) (by rw[b,if_neg (λy=>z y.1.symm)];exact N) (by rw[l];exact K) (by rw[l];exact C) (λy=>by rw[u]at y; cases y) (λI a j c o => ?_)
 .rw[u]at this;exact this
 rw[b]at c o ⊢
 by_cases e:a=p/\j=n
 .rw[if_pos e]
 rw[if_neg e]at c o ⊢;obtain⟨D,T,b2,b3,b4,b5,V,b6,S⟩:=gM h c;have s:D=t:=by omega
 subst s;have h2:=Le h.pt (kd:=1) (i:=D) (by decide) ⟨A,E⟩ ⟨c,T⟩ e;have U:=h.cf D Q;obtain⟨c1,c2,c3,c4,R⟩:=S;cases hw:(ent m a j).w with
 | false=>rfl
 | true=>
  have:=R hw I;omega
theorem Ny(h:Rt m)(A:Co m){g:Pg}(e:(ent m p n).k=2)(u:(ent m p n).n=s)(t:q<m.sp.length)(E:(ent m q n).k=0)(y:eT m p n=some g)(i:eT m q n=some g) :
  Rt (aP (setSl m s (jS m s+1)) q n (ent m p n))/\Co (aP (setSl m s (jS m s+1)) q n (ent m p n)):=by
 have D:=mo (m:=m) (p:=p) (n:=n) (by rw[e];decide);have h2:=(bD _).1 (mE h.pt p n);obtain⟨I,a,z⟩:=h.en p n (by rw[e];decide);rw[y]at a;cases a;have C:=z.sw e;have o:s<m.sl.length:=by omega
 have G:=h.fewS o;exact GJ (d:=m.sw) (g:=g) h A t D.2 E o e u ((h2.resolve_left (λF=>by omega)).resolve_left (λF=>by omega)).2.2.2 (by omega) h.pt.sw rfl i C.2
structure Bd (m:Ma) (T:List (List En)):Prop where
 ok:Bt m T
 rt:Rt (fe m T)
 co:Co (fe m T)
theorem Bd.of{T:List (List En)}(e:Bt m T)(h:Rt (fe m T)/\Co (fe m T)):Bd m T:=⟨e,h.1,h.2⟩
theorem Bd.few{T:List (List En)}(h:Bd m T):m.m.fs.length<=40/\m.sl.length<=60/\m.sp.length<=4/\(m.dk.blocks.length:Int)=m.st.count/\aR m.st=0/\bV m.dk=0/\bV m.sw=0/\m.sw.blocks.length=m.sl.length:=
 ⟨((dO _).1 h.rt.pt.fr).1,lu h.rt.pt.sl,by have:=h.rt.pt.spl;rw[lL]at this;exact this,h.rt.pt.dkl,h.rt.pt.st,h.rt.pt.dk,h.rt.pt.sw,h.rt.pt.swl⟩
theorem Bd.cachedE{T:List (List En)}(h:Bd m T){n:Nat}(y:p<m.sp.length)(C:n<64)(E:(fU T p n).k=0){c:Cc}(t:c∈m.ca){g:Pg}(D:onA (dD m p).ar n=some g)(F:c.f=g.fi/\c.i=g.pg){w:Bool}(A:w=true->g.sh=true/\g.wr=true) :
  Bd (setFr m c.k.toNat (eP (aD m c.k.toNat))) (setL T p n ⟨1,c.k,w⟩):=by
 have d:=h.rt.ca.lt c t;have q:=h.rt.ca.fr c t;have j:=h.rt.ca.file c t;have a : c.k.toNat<m.m.fs.length:=by have:c.k<(fe m T).m.fs.length:=d.2;have e:(fe m T).m.fs.length=m.m.fs.length:=rfl;omega
 have l:eF ⟨1,c.k,w⟩=0:=(bD _).2 (.inr (.inl ⟨rfl,d.1,by have:=h.few.1;have:c.k<(fe m T).m.fs.length:=d.2;have e:(fe m T).m.fs.length=m.m.fs.length:=rfl;show c.k<40;omega⟩));have o:=h.rt.fewR a;have b:aD (fe m T) c.k.toNat=aD m c.k.toNat:=rfl;rw[b]at q o;refine .of (h.ok.fr.set y l) ?_;rw[<-sK h.ok.fr y C l,<-Ao];refine tO (g:=g) (f:=c.k.toNat) h.rt h.co (by rw[lL];exact y) ⟨by omega,by omega⟩ (by rw[mU h.ok y C];exact E) a rfl (by show c.k=_;omega) (JX (h.rt.pt.frE a) (by omega) (by omega)) rfl (λ_=>⟨rfl,rfl,rfl,rfl⟩) (λu=>by rw[b]at u; omega) (λz => ?_) (by rw[pE y];exact D) ?_
 .have:(aD m c.k.toNat).f<0:=z;have:=j.1.1;omega
 have I:(eP (aD m c.k.toNat)).f=(aD m c.k.toNat).f:=rfl;have G:(eP (aD m c.k.toNat)).i=(aD m c.k.toNat).i:=rfl;refine⟨λ_=>⟨by omega,by omega⟩,λ_=>by have:=j.1.1;omega,λu=>(A u).2,λu _=>(A u).1,λu z => ?_⟩;have:=j.1.1;omega
theorem Bd.anonE{T:List (List En)}(h:Bd m T){n:Nat}(u:p<m.sp.length)(z:n<64)(G:(fU T p n).k=0)(A:f<m.m.fs.length)(J:(aD m f).r=0)(C:X.r=1/\X.d=false/\X.f = -1/\X.i=0){g:Pg}(E:onA (dD m p).ar n=some g)(y:g.sh=false){w:Bool}(D:w=true->g.wr=true) :
  Bd (setFr m f X) (setL T p n ⟨1,f,w⟩):=by
 have c:eF ⟨1,f,w⟩=0:=(bD _).2 (.inr (.inl ⟨rfl,by show(0:Int)<=f;omega,by have:=h.few.1;show(f:Int)<40;omega⟩));have b:aD (fe m T) f=aD m f:=rfl;refine .of (h.ok.fr.set u c) ?_;rw[<-sK h.ok.fr u z c,<-Ao];have o:bR X=0:=by rw[dL];exact⟨⟨by omega,by omega,by omega,by omega,by omega,by omega⟩,λt=>by omega,λ_=>C.2.2.2⟩
 refine tO (g:=g) (f:=f) h.rt h.co (by rw[lL];exact u) ⟨by omega,by omega⟩ (by rw[mU h.ok u z];exact G) A rfl rfl o (by rw[b];omega) (λt=>by rw[b]at t; omega) (λ_=>⟨by omega,C.2.1⟩) (λI a j l e => ?_) (by rw[pE u];exact E) ?_
 .have:=AL h.rt l e;have F:=h.rt.cf f A;rw[b]at F;omega
 .exact⟨λt=>absurd t (by omega),λt=>(by rw[y]at t; cases t),D,λ_ t=>absurd t (by omega),λ_ _=>by omega⟩
theorem Bd.slotE{T:List (List En)}(h:Bd m T){n:Nat}(i:p<m.sp.length)(t:n<64)(A:(fU T p n).k=0)(y:s<m.sl.length)(u:jS m s=0){P:Page}{g:Pg}(z:onA (dD m p).ar n=some g)(o:g.sh=false) :
  Bd { m with sl:=m.sl.set s 1,sw:=⟨m.sw.blocks.set s P,m.sw.queue⟩ } (setL T p n ⟨2,s,false⟩):=by
 have a:eF ⟨2,s,false⟩=0:=(bD _).2 (.inr (.inr ⟨rfl,by show(0:Int)<=s;omega,by have:=h.few.2.1;show(s:Int)<60;omega,rfl⟩));have c:Bt { m with sl:=m.sl.set s 1,sw:=⟨m.sw.blocks.set s P,m.sw.queue⟩ } T:=h.ok.sps rfl;refine .of (c.set i a) ?_;rw[<-sK c i t a];have e:bV ⟨m.sw.blocks.set s P,m.sw.queue⟩=0:=by have:=(jL _).1 h.rt.pt.sw;rw[jL];simp only[bL];exact this
 have b:jS (fe m T) s=0:=u;have:=GJ (d:=⟨m.sw.blocks.set s P,m.sw.queue⟩) (x:=⟨2,s,false⟩) (n:=(n:Int)) (g:=g) h.rt h.co (p:=p) (s:=s) (by rw[lL];exact i) ⟨by omega,by omega⟩ (by rw[mU h.ok i t];exact A) y rfl rfl rfl (by rw[b];omega) e (by rw[bL];rfl) (by rw[pE i];exact z) o;rw[b]at this;exact this
theorem Bd.cache{T:List (List En)}(h:Bd m T){f i:Int}(o:qK m.st f i)(e:∀c∈m.ca,¬(c.f=f/\c.i=i))(y:g<m.m.fs.length)(u:(aD m g).r=0)(A:X.r=1/\X.f=f/\X.i=i)(t:dw X.p ((aN m.st f).n-i*8)=X.p)(z:X.d=false->X.p=dz m f i) :
  Bd (AQ m g X f i) T:=.of (h.ok.sps rfl) (Vo h.rt h.co y u o e A t z)
theorem Bd.more{T:List (List En)}(h:Bd m T){s:Sp}(i:m.sp.length<4)(e:s.lv=true)(o:(bP s.ar).1=0):Bd { m with sp:=m.sp++[s] } (T++[List.replicate 64 zEn]):=by
 refine .of (h.ok.more s) ?_;rw[NQ h.ok];exact Mw h.rt h.co (s:={ s with tb:=zTb }) (by rw[lL];exact i) e o rfl
theorem Bd.share1{T:List (List En)}(h:Bd m T)(Q:m.sp.length=2){n:Nat}(A:n<64)(D:(dD m 1).ar=(dD m 0).ar)(y:(fU T 0 n).k=1)(F:(fU T 1 n).k=0){g:Pg}(E:onA (dD m 0).ar n=some g)(C:(fU T 0 n).n=f){w:Bool}(z:w=(g.sh&&(fU T 0 n).w)) :
  Bd (setFr m f (eP (aD m f))) (setL (setL T 0 n ⟨1,f,w⟩) 1 n ⟨1,f,w⟩):=by
 have u:=mU h.ok (p:=0) (by omega) A;have G:=mU h.ok (p:=1) (by omega) A;have c:eT (fe m T) 0 n=some g:=by rw[pE (by omega)];exact E
 have e:eT (fe m T) 1 n=some g:=by rw[pE (by omega),D];exact E
 obtain⟨t,O,N,_⟩:=gM h.rt (p:=0) (n:=n) (by rw[u];exact y);have L : t < m.m.fs.length:=N;have i:t = f:=by rw[u]at O;omega
 subst i;have a:∀w,eF ⟨1,t,w⟩=0:=λw=>(bD _).2 (.inr (.inl ⟨rfl,by show(0:Int)<=t; omega,by have:=h.few.1;show(t : Int)<40;omega⟩));have d:=(h.ok.fr (f:=t) (X:=eP (aD m t))).set (p:=0) (n:=n) (by show 0<m.sp.length;omega) (a w);refine .of (d.set (by show 1<m.sp.length;omega) (a w)) ?_;have j:(⟨1,t,(fU T 0 n).w⟩:En)=fU T 0 n:=by rw[<-C,<-y]
 rw[<-sK d (by show 1<m.sp.length;omega) A (a w)];cases hs:g.sh with
 | false=>
  rw[hs,mH]at z;subst z;rw[<-sK h.ok.fr (by show 0<m.sp.length;omega) A (a false),<-Ao];exact Oh (m:=fe m T) (p:=0) (q:=1) (n:=n) (f:=t) (g:=g) h.rt h.co (by decide) (by rw[u];exact y) (by rw[u];exact C) (by rw[lL];omega) (by rw[G];exact F) c e
 | true=>
  rw[hs,lQ]at z;subst z;rw[j];have b:setL T 0 n (fU T 0 n)=T:=by have l:fO T 0∈T:=h.ok.mem (by omega);have o:=h.ok.l64 (p:=0) (by omega);unfold setL fU;rw[aY,aF (by omega:n<(fO T 0).length),qh,wu];unfold fO;rw[aY,aF (by rw[h.ok.len];omega:0<T.length),qh,wu]
  rw[b,<-Ao,<-u];refine FE (m:=fe m T) (p:=0) (q:=1) (n:=n) (f:=t) (g:=g) h.rt h.co (by rw[u];exact y) (by rw[u];exact C) (by rw[lL];omega) (by rw[G];exact F) c e (λ_=>hs) (λP => ?_);obtain⟨J,Y,W,V,U,S,R,I,K⟩:=gM h.rt (p:=0) (n:=n) (by rw[u];exact y);have:J=t:=by omega
  subst this;rw[c]at I;cases I;have:=K.2.1 hs;omega
theorem Bd.share2{T:List (List En)}(h:Bd m T)(E:m.sp.length=2){n:Nat}(i:n<64)(o:(dD m 1).ar=(dD m 0).ar)(z:(fU T 0 n).k=2)(C:(fU T 1 n).k=0){g:Pg}(u:onA (dD m 0).ar n=some g)(A:(fU T 0 n).n=s) :
  Bd (setSl m s (jS m s+1)) (setL (setL T 0 n (fU T 0 n)) 1 n (fU T 0 n)):=by
 have t:=mU h.ok (p:=0) (by omega) i;have D:=mU h.ok (p:=1) (by omega) i;have d:eT (fe m T) 0 n=some g:=by rw[pE (by omega)];exact u
 have c:eT (fe m T) 1 n=some g:=by rw[pE (by omega),o];exact u
 have a:setL T 0 n (fU T 0 n)=T:=by have e:fO T 0∈T:=h.ok.mem (by omega);have f:=h.ok.l64 (p:=0) (by omega);unfold setL fU;rw[aY,aF (by omega:n<(fO T 0).length),qh,wu];unfold fO;rw[aY,aF (by rw[h.ok.len];omega:0<T.length),qh,wu]
 rw[a];have y:=zk h.ok (p:=0) (by omega) i;have b:Bt (setSl m s (jS m s+1)) T:=h.ok.sps rfl;refine .of (b.set (by show 1<m.sp.length;omega) y) ?_;rw[<-sK b (by show 1<m.sp.length;omega) i y,<-t];exact Ny (m:=fe m T) (p:=0) (q:=1) (n:=n) (s:=s) (g:=g) h.rt h.co (by rw[t];exact z) (by rw[t];exact A) (by rw[lL];omega) (by rw[D];exact C) d c
theorem Bd.share0{T:List (List En)}(h:Bd m T)(G:m.sp.length=2){n:Nat}(y:n<64)(D:(fU T 0 n).k=0)(E:(fU T 1 n).k=0):Bd m (setL (setL T 0 n (fU T 0 n)) 1 n (fU T 0 n)):=by
 have i:=(bD _).1 (zk h.ok (p:=0) (by omega) y);have g:=(bD _).1 (zk h.ok (p:=1) (by omega) y);have u:∀e:En,e.k=0->((e.k=0/\e.n=0/\e.w=false)\/(e.k=1/\0<=e.n/\e.n<40)\/(e.k=2/\0<=e.n/\e.n<60/\e.w=false))->e=zEn:=by
  rintro⟨a,b,c⟩ I h2;rcases h2 with⟨C,A,z⟩|h2|h2
  .simp only at C A z;subst C;subst A;subst z;rfl
  .omega
  .omega
 have f:=u _ D i;have j:=u _ E g;have d:∀p,p<2->fU T p n=zEn->setL T p n zEn=T:=λp F t=>by
  have o:=h.ok.l64 (p:=p) (by omega);have l:=h.ok.len;have:(fO T p)[n]'(by omega)=zEn:=by unfold fU at t;rw[aY,aF (by omega:n<(fO T p).length),qh]at t;exact t
  unfold setL;rw[<-this,wu];unfold fO;rw[aY,aF (by omega:p<T.length),qh,wu]
 rw[f,d 0 (by omega) f,d 1 (by omega) j];exact h
structure Bv (X:Nat->Int->Prop) (m m' : Ma):Prop where
 sk:iF m m'
 files:m'.st.fs.length=m.st.fs.length
 size:∀f,(aN m'.st f).n=(aN m.st f).n
 lenb:∀f,(aN m'.st f).b.length=(aN m.st f).b.length
 see:∀p n,¬X p n->fP m' p n=fP m p n
 con:∀f i,qK m.st f i->aW m' f i=aW m f i
theorem Bv.trans{X:Nat->Int->Prop}{a b c:Ma}(h:Bv X a b)(k:Bv X b c):Bv X a c:=
 ⟨h.sk.trans k.sk,k.files.trans h.files,λf=>(k.size f).trans (h.size f),λf=>(k.lenb f).trans (h.lenb f),λp n e=>(k.see p n e).trans (h.see p n e),λf i o=>(k.con f i (o.same h.files h.lenb)).trans (h.con f i o)⟩
theorem Bv.refl(X:Nat->Int->Prop)(m:Ma):Bv X m m:=⟨.refl m,rfl,λ_=>rfl,λ_=>rfl,λ_ _ _=>rfl,λ_ _ _=>rfl⟩
theorem FU.x(h:FU m m')(X:Nat->Int->Prop):Bv X m m':=⟨h.sk,h.files,h.size,h.lenb,λp n _=>h.see p n,h.con⟩
theorem JR{X:Nat->Int->Prop}(h:iF m m')(e:mi m.st m'.st)(y:∀f i,qK m.st f i->aW m' f i=aW m f i)
 (u:∀p n g,¬X p n->eT m p n=some g->vH m' g (ent m' p n)=vH m g (ent m p n)):Bv X m m':=by
 refine⟨h,e.len,e.size,e.lenb,λp n t => ?_,y⟩;have o:eT m' p n=eT m p n:=by unfold eT;rw[h.ar]
 cases hg:eT m p n with
 | none=>rw[sN hg,sN (o.trans hg)]
 | some g=>rw[ji hg,ji (o.trans hg)];exact u p n g t hg
def XI(p:Nat)(n:Int)(q:Nat)(j:Int):Prop:=q=p/\j=n
structure Less (m m' : Ma) (p:Nat) (n:Int):Prop where
 rt:Rt m'
 co:Co m'
 vis:Bv (XI p n) m m'
 st:m'.st=m.st
 dk:m'.dk=m.dk
 sw:m'.sw=m.sw
 ca:m'.ca=m.ca
 len:m'.m.fs.length=m.m.fs.length
 sll:m'.sl.length=m.sl.length
 ents:∀q j,ent m' q j=if q=p/\j=n then zEn else ent m q j
 fr:∀g,(aD m' g).r≠0->(aD m' g).p=(aD m g).p/\(aD m' g).u=(aD m g).u/\(aD m' g).d=(aD m g).d/\(aD m' g).f=(aD m g).f/\(aD m' g).i=(aD m g).i
theorem Wd(x:Fr)(n:Int):(ik x n).r=x.r+n:=by
 unfold ik
 by_cases h:x.r+n=0
 .rw[if_pos h,h];rfl
 .rw[if_neg h]
theorem NF{x:Fr}(h:x.r+n≠0):ik x n = { x with r:=x.r+n }:=by unfold ik;rw[if_neg h]
theorem NK(h:Rt m)(V:Co m)(U:(ent m p n).k=1)(hn:(ent m p n).n=f):Less m (aP (setFr m f (ik (aD m f) (-1))) p n zEn) p n:=by
 obtain⟨A,e1,G,hr,hp,hJ,g0,hR,hM⟩:=gM h U;have:A = f:=by omega
 subst this;have hP:=h.fewR G;have Z:bR (ik (aD m A) (-1))=0:=Ld (h.pt.frE G) hr (by omega) (by omega);have hO:=Wd (aD m A) (-1);have l:(aD m A).r≠1->ik (aD m A) (-1) = { aD m A with r:=(aD m A).r + -1 }:=λC=>NF (by omega);generalize hX:ik (aD m A) (-1)=X at *
 have hD:Pt (setFr m A X):=h.pt.setFr Z;obtain⟨hC,_,hH⟩:=iU (k:=⟨setFr m A X,0⟩) (p:=p) (n:=n) (x:=zEn) hD hJ (by decide);have hE:p<(setFr m A X).sp.length:=hp;have w:∀q j,ent (aP (setFr m A X) p n zEn) q j=if q=p/\j=n then zEn else ent m q j:=λq j=>nN hE hC q j;have v:∀y,aD (aP (setFr m A X) p n zEn) y=if y=A then X else aD m y:=λy=>iB G y;have o:(aP (setFr m A X) p n zEn).m.fs.length=m.m.fs.length:=fo;have hz:∀kd i,kd≠0->bO (aP (setFr m A X) p n zEn) kd i+sD (pW kd i (ent m p n))=bO m kd i:=λkd i hL=>by have C:=qN hE hC kd i;have h2:sD (pW kd i zEn)=0:=xu rfl hL;have h3:bO (setFr m A X) kd i=bO m kd i:=rfl;have h4:ent (setFr m A X) p n=ent m p n:=rfl;rw[h4]at C;unfold aP;omega
 have hB:iF m (setFr m A X):=iF.of rfl;have S:iF m (aP (setFr m A X) p n zEn):=hB.trans (iF.setTb (m:=setFr m A X) (p:=p) (t:=setT (dD (setFr m A X) p).tb n zEn));have hF:∀c∈m.ca,c.k.toNat=A->(aD m A).r≠1:=λc g e O=>by
  have C:=h.cf A G;have h2:=h.ca.one g;have h3:=h.ca.lt c g;have h4:=AL (f:=A) h U (by omega);have:c.k=(A : Int):=by omega
  rw[this]at h2;omega
 have z:∀c∈m.ca,(aD (aP (setFr m A X) p n zEn) c.k.toNat).p=(aD m c.k.toNat).p/\(aD (aP (setFr m A X) p n zEn) c.k.toNat).d=(aD m c.k.toNat).d/\(aD (aP (setFr m A X) p n zEn) c.k.toNat).f=(aD m c.k.toNat).f/\(aD (aP (setFr m A X) p n zEn) c.k.toNat).i=(aD m c.k.toNat).i/\1<=(aD (aP (setFr m A X) p n zEn) c.k.toNat).r:=λc g=>by
  have C:=h.ca.fr c g;rw[v]
  by_cases e:c.k.toNat=A
  .rw[if_pos e];have h2:=hF c g e;rw[e]at C ⊢;rw[l h2];exact⟨rfl,rfl,rfl,rfl,by show 1<=(aD m A).r + -1;omega⟩
  .rw[if_neg e];exact⟨rfl,rfl,rfl,rfl,C.1⟩
 have hv:∀q j,¬(q=p/\j=n)->(ent m q j).k=1->(ent m q j).n.toNat=A->(aD m A).r≠1:=λq j hK u hQ O=>by
  obtain⟨Q,b1,b2,b3,b4,b5,g2,b6,b7⟩:=gM h u;have hN:Q=A:=by omega
  subst hN;have h2:=Le h.pt (kd:=1) (i:=Q) (by decide) ⟨U,hn⟩ ⟨u,b1⟩ hK;have h3:=h.cf Q G;omega
 have hm:uK (aP (setFr m A X) p n zEn):=by
  refine⟨h.ca.file,λc g => ?_,λc g => ?_,h.ca.srt⟩
  .rw[o];exact h.ca.lt c g
  have C:=h.ca.fr c g;obtain⟨F,R,a3,a4,a5⟩:=z c g;exact⟨a5,a3.trans C.2.1,a4.trans C.2.2⟩
 have hj:∀a b,dz (aP (setFr m A X) p n zEn) a b=dz m a b:=λ_ _=>rfl;have hw:∀a b,aW (aP (setFr m A X) p n zEn) a b=aW m a b:=by
  intro a b;rcases qd m a b with⟨c,hl,g,Y,W⟩|⟨hl,K⟩
  .subst Y;subst W;rw[ic h.ca g,ic (m:=aP (setFr m A X) p n zEn) hm g,(z c g).1]
  .rw[gL K,gL (m:=aP (setFr m A X) p n zEn) K,hj]
 refine⟨⟨hH,h.trim,λq hq => ?_,hm,λq j N => ?_,λi L => ?_,λi L J => ?_,λs hs => ?_⟩,⟨λc g => ?_,λc g D => ?_,λi L D => ?_⟩,?_,rfl,rfl,rfl,rfl,o,rfl,w,λy I => ?_⟩
 .rw[S.lv]at hq;obtain⟨F,R⟩:=h.live q hq;refine⟨by rw[S.ar];exact F,λj => ?_⟩;rw[w];split
  .rfl
  .exact R j
 .have hI:eT (aP (setFr m A X) p n zEn) q j=eT m q j:=by unfold eT;rw[S.ar]
  rw[hI];rw[w]at N ⊢
  by_cases e:q=p/\j=n
  .rw[if_pos e]at N; exact absurd rfl N
  rw[if_neg e]at N ⊢;obtain⟨y,I,T⟩:=h.en q j N;refine⟨y,I,T.sw,by rw[o];exact T.lt,λu => ?_⟩;rw[v]
  by_cases E:(ent m q j).n.toNat=A
  .rw[if_pos E];have C:=T.fr u;rw[E]at C;rw[l (hv q j e u E)];obtain⟨f1,Q,f3,f4,f5⟩:=C;refine⟨f1,Q,f3,f4,λhG P => ?_⟩;have:=f5 hG P;show(aD m A).r + -1<=1;omega
  .rw[if_neg E];exact T.fr u
 .have F:tY (aP (setFr m A X) p n zEn) i=tY m i:=rfl;have C:=hz 1 i (by decide);rw[pY]at C;rw[v,F];have h3:=h.cf i (by rw[<-o];exact L)
  by_cases e:i=A
  .subst e;rw[if_pos ⟨U,hn⟩]at C;rw[if_pos rfl,hO];omega
  rw[if_neg (λh'=>e (by omega))]at C;rw[if_neg e];omega
 .rw[v]at J
  by_cases e:i=A
  .subst e;rw[if_pos rfl]at J
   by_cases O:(aD m i).r=1
   .have P:X.r=0:=by omega
    have:=((dL _).1 Z).2.1 P;omega
   rw[l O]at J;exact h.fc i G J
  rw[if_neg e]at J;exact h.fc i (by rw[<-o];exact L) J
 .have C:=hz 2 s (by decide);rw[pY,if_neg (λh'=>by omega)]at C;have:=h.cs s hs;show jS m s=_;omega
 .obtain⟨F,R,a3,a4,a5⟩:=z c g;rw[F];exact V.tail c g
 .obtain⟨F,R,a3,a4,a5⟩:=z c g;rw[R]at D;rw[F,hj];exact V.clean c g D
 .rw[v]at D ⊢
  by_cases e:i=A
  .subst e;rw[if_pos rfl]at D ⊢
   by_cases O:(aD m i).r=1
   .have P:X.r=0:=by omega
    have:=(((dL _).1 Z).2.1 P).2.1;rw[this]at D;cases D
   rw[l O]at D ⊢;exact V.anon i G D
  .rw[if_neg e]at D ⊢; exact V.anon i (by rw[<-o];exact L) D
 .refine JR S (mi.refl _) (λa b _=>hw a b) λq j y hx I => ?_;rw[w,if_neg (show ¬(q=p/\j=n)from hx)];refine qH h.pt.st (h.pt.pg I).1 (mi.refl _) (λa b _=>hw a b) (λu => ?_) (λ_=>⟨rfl,rfl⟩);show(aD (aP (setFr m A X) p n zEn) (ent m q j).n.toNat).p=(aD m (ent m q j).n.toNat).p/\(aD (aP (setFr m A X) p n zEn) (ent m q j).n.toNat).f=(aD m (ent m q j).n.toNat).f;rw[v]
  by_cases E:(ent m q j).n.toNat=A
  .rw[if_pos E,E,l (hv q j hx u E)];exact⟨rfl,rfl⟩
  .rw[if_neg E];exact⟨rfl,rfl⟩
 rw[v]at I ⊢
 by_cases e:y=A
 .rw[if_pos e]at I ⊢;rw[e,l (by omega)];exact⟨rfl,rfl,rfl,rfl,rfl⟩
 .rw[if_neg e];exact⟨rfl,rfl,rfl,rfl,rfl⟩
theorem Gw(h:Rt m)(I:Co m)(C:(ent m p n).k=2)(L:(ent m p n).n=s):Less m (aP (setSl m s (jS m s + -1)) p n zEn) p n:=by
 have l:=mo (m:=m) (p:=p) (n:=n) (by rw[C];decide);obtain⟨g0,V,u⟩:=h.en p n (by rw[C];decide);have G:s<m.sl.length:=by have:=u.sw C;omega
 have W:=h.fewS G;have Y:0<bO m 2 s:=(lJ (by decide)).2 ⟨p,n,l.1,l.2,C,L⟩;have U:=h.cs s G;have z:Pt (setSl m s (jS m s + -1)):=h.pt.setSl (by omega) (by omega);obtain⟨w,_,R⟩:=iU (k:=⟨setSl m s (jS m s + -1),0⟩) (p:=p) (n:=n) (x:=zEn) z l.2 (by decide);have N:p<(setSl m s (jS m s + -1)).sp.length:=l.1;have c:∀q j,ent (aP (setSl m s (jS m s + -1)) p n zEn) q j=if q=p/\j=n then zEn else ent m q j:=λq j=>nN N w q j;have o:∀kd i,kd≠0->bO (aP (setSl m s (jS m s + -1)) p n zEn) kd i+sD (pW kd i (ent m p n))=bO m kd i:=λkd i P=>by have A:=qN N w kd i;have h2:sD (pW kd i zEn)=0:=xu rfl P;have Z:bO (setSl m s (jS m s + -1)) kd i=bO m kd i:=rfl;have S:ent (setSl m s (jS m s + -1)) p n=ent m p n:=rfl;rw[S]at A;unfold aP;omega
 have v:iF m (setSl m s (jS m s + -1)):=iF.of rfl;have g:iF m (aP (setSl m s (jS m s + -1)) p n zEn):=v.trans (iF.setTb (m:=setSl m s (jS m s + -1)) (p:=p) (t:=setT (dD (setSl m s (jS m s + -1)) p).tb n zEn));have d:(aP (setSl m s (jS m s + -1)) p n zEn).sl.length=m.sl.length:=bL;refine⟨⟨R,h.trim,λq K => ?_,⟨h.ca.file,h.ca.lt,h.ca.fr,h.ca.srt⟩,λq j f => ?_,λi F => ?_,h.fc,λi F => ?_⟩,⟨I.tail,I.clean,I.anon⟩,?_,rfl,rfl,rfl,rfl,rfl,d,c,λy E=>⟨rfl,rfl,rfl,rfl,rfl⟩⟩
 .rw[g.lv]at K;obtain⟨J,D⟩:=h.live q K;refine⟨by rw[g.ar];exact J,λj => ?_⟩;rw[c];split
  .rfl
  .exact D j
 .have Q:eT (aP (setSl m s (jS m s + -1)) p n zEn) q j=eT m q j:=by unfold eT;rw[g.ar]
  rw[Q];rw[c]at f ⊢
  by_cases e:q=p/\j=n
  .rw[if_pos e]at f; exact absurd rfl f
  rw[if_neg e]at f ⊢;obtain⟨y,E,r⟩:=h.en q j f;exact⟨y,E,by rw[d];exact r.sw,r.lt,r.fr⟩
 .have A:=o 1 i (by decide);rw[pY,if_neg (λT=>by omega)]at A;have h2:=h.cf i F;have J:tY (aP (setSl m s (jS m s + -1)) p n zEn) i=tY m i:=rfl;have D:aD (aP (setSl m s (jS m s + -1)) p n zEn) i=aD m i:=rfl;rw[J,D];omega
 .rw[d]at F;have A:=o 2 i (by decide);rw[pY]at A;have h2:=h.cs i F;have D:jS (aP (setSl m s (jS m s + -1)) p n zEn) i=jS (setSl m s (jS m s + -1)) i:=rfl;rw[D,JF G]
  by_cases e:i=s
  .subst e;rw[if_pos ⟨C,L⟩]at A;rw[if_pos rfl];omega
  rw[if_neg (λT=>e (by omega))]at A;rw[if_neg e];omega
 refine JR g (mi.refl _) (λa b _=>rfl) λq j y O E => ?_;rw[c,if_neg (show ¬(q=p/\j=n)from O)];exact qH h.pt.st (h.pt.pg E).1 (mi.refl _) (λa b _=>rfl) (λ_=>⟨rfl,rfl⟩) (λ_=>⟨rfl,rfl⟩)
theorem VB{k:Kp}(h:Rt k.m)(C:Co k.m)(p:Nat)(n:Int):((ent k.m p n).k=0/\jT k p n=k)\/∃m',jT k p n=⟨m',k.e⟩/\Less k.m m' p n:=by
 have h2:=(bD _).1 (mE h.pt p n);have t:dK (dD k.m p).tb n=ent k.m p n:=rfl;rcases h2 with h2|h2|h2
 .refine .inl ⟨h2.1,?_⟩;unfold jT;rw[t,if_neg (by omega),if_neg (by omega)]
 .right
  obtain⟨f,D,A,F,J,d,G,g,a⟩:=gM h h2.1;have c:=h.fewR A;obtain⟨z,y⟩:=Bj (k:=k) (f:=f) (n:=-1) h.pt A F (by omega) (by omega);obtain⟨E,u,I⟩:=iU (k:=⟨setFr k.m f (ik (aD k.m f) (-1)),k.e⟩) (p:=p) (n:=n) (x:=zEn) y d (by decide);refine⟨_,?_,NK h C h2.1 D⟩;unfold jT;simp only;rw[t,if_pos h2.1,D,z,u];rfl
 right
 have b:=mo (m:=k.m) (p:=p) (n:=n) (by omega);obtain⟨G,g,a⟩:=h.en p n (by omega);have o:(ent k.m p n).n.toNat<k.m.sl.length:=by have:=a.sw h2.1;omega
 have c:=h.fewS o;have i:0<bO k.m 2 ((ent k.m p n).n.toNat:Nat):=(lJ (by decide)).2 ⟨p,n,b.1,b.2,h2.1,by omega⟩;have j:=h.cs _ o;obtain⟨z,y⟩:=Rs (k:=k) (s:=(ent k.m p n).n.toNat) (n:=-1) h.pt o (by omega) (by omega) (by omega);obtain⟨E,u,I⟩:=iU (k:=⟨setSl k.m (ent k.m p n).n.toNat (jS k.m (ent k.m p n).n.toNat + -1),k.e⟩) (p:=p) (n:=n) (x:=zEn) y b.2 (by decide);refine⟨_,?_,Gw h C h2.1 (s:=(ent k.m p n).n.toNat) (by omega)⟩;unfold jT;simp only;rw[t,if_neg (by omega),if_pos h2.1];rw[show(ent k.m p n).n=(((ent k.m p n).n.toNat:Nat):Int) by omega,z,u];rfl
theorem xx(h:Rt m)(o:Co m)(h' : Rt m')(hc' : Co m')(st:m'.st=m.st)(dk:m'.dk=m.dk)(ca:m'.ca=m.ca)(i:∀c∈m.ca,(aD m' c.k.toNat).d=(aD m c.k.toNat).d/\(aD m' c.k.toNat).p=(aD m c.k.toNat).p):Inv m m':=
 SS.inv (.of st dk λc e _=>⟨by rw[<-ca];exact e,i c (by rw[<-ca];exact e)⟩) h o h' hc'
theorem Less.inv(h:Rt m)(i:Co m)(k:Less m m' p n):Inv m m':=
 xx h i k.rt k.co k.st k.dk k.ca λc e=>by have:=k.rt.ca.fr c (by rw[k.ca];exact e);have:=k.fr c.k.toNat (by omega);exact⟨this.2.2.1,this.1⟩
def Ua(m:Ma)(q:Nat)(s:Sp):Ma:={ m with sp:=m.sp.set q s }
def alike(a b:En):Prop:=b.k=a.k/\b.n=a.n
theorem Vi(h:H'.ma.sp.length=H.ma.sp.length):H'.sp.length=H.sp.length:=by rw[tV,tV]at h;exact h
theorem entTy:68≠109/\68≠66/\68≠122/\68≠76:=by decide
theorem srt_len:∀ {l:List Nat} {a n:Nat},l.Pairwise (· < ·)->(∀x∈l,a<=x/\x<n)->l.length<=n-a
 | [],_,_,_,_=>by simp
 | x::l,a,n,hs,h=>by obtain⟨i,h2⟩:=uA.1 hs;have o:=h x iM;have:=srt_len (a:=x+1) (n:=n) h2 λy e=>⟨i y e,(h y (jW _ e)).2⟩;rw[lF];omega
theorem Sv(h:uK m)(z:aR m.st=0):m.ca.length<=60:=by
 have t:∀c∈m.ca,0<=c.f/\c.f<5/\0<=c.i/\c.i<12:=λc u=>by have e:=h.file c u;have h2:=zu z e;have E:=e.1;have D:=e.2;omega
 have o:=srt_len (l:=m.ca.map λc=>(12*c.f+c.i).toNat) (a:=0) (n:=60) ?_ λx y => ?_
 .simpa using o
 .rw[List.pairwise_map];refine List.Pairwise.imp_of_mem ?_ h.srt;intro a b C A d;have e:=t a C;have h2:=t b A;unfold CK at d;show(12*a.f+a.i).toNat<(12*b.f+b.i).toNat;omega
 obtain⟨c,u,rfl⟩:=eU.1 y;have e:=t c u;show 0<=(12*c.f+c.i).toNat/\(12*c.f+c.i).toNat<60;omega
theorem yu{s:St}(o:aR s=0):∀f∈s.fs,f.b.length<=12:=λf u=>by
 obtain⟨k,t,rfl⟩:=jM.1 u;have i:=vN o (f:=(k:Int)) ⟨by omega,by omega⟩;have h:aN s (k:Int)=s.fs[k]:=iE (aF t);rw[h]at i;obtain⟨A,z,y,_⟩:=i;have e:(s.fs[k].b.length:Int)<=12:=by rw[y];unfold fw;split<;>omega
 omega
theorem BF(t:m'.st=m.st)(y:m'.dk=m.dk)(u:m'.sw=m.sw)(z:m'.ca=m.ca)(o:∀g,(aD m' g).p=(aD m g).p/\(aD m' g).f=(aD m g).f)(A:(dD m' q).ar=(dD m p).ar)(D:alike (ent m p n) (ent m' q n)):fP m' q n=fP m p n:=by
 have d:∀a b,aW m' a b=aW m a b:=λa b=>by
  unfold aW;rw[z,t,y];cases m.ca.find? λc=>decide (c.f=a)&&decide (c.i=b)with
  | none=>rfl
  | some c=>exact(o c.k.toNat).1
 have C:eT m' q n=eT m p n:=by unfold eT;rw[A]
 cases hg:eT m p n with
 | none=>rw[sN hg,sN (C.trans hg)]
 | some g=>
  rw[ji hg,ji (C.trans hg)];unfold vH;rw[D.1,D.2,u,t,d];have E:=(o (ent m p n).n.toNat).1;have h2:=(o (ent m p n).n.toNat).2;have h : (jv m' (ent m p n).n).p=(jv m (ent m p n).n).p:=E;have e : (jv m' (ent m p n).n).f=(jv m (ent m p n).n).f:=h2;rw[h,e]
theorem Ij(e:m'.st=m.st)(o:m'.dk=m.dk)(t:m'.ca=m.ca)(h:∀g,(aD m' g).p=(aD m g).p)(a b:Int):aW m' a b=aW m a b:=by
 unfold aW;rw[t,e,o];cases m.ca.find? λc=>decide (c.f=a)&&decide (c.i=b)with
 | none=>rfl
 | some c=>exact h c.k.toNat
theorem Less.zero(h:Rt m)(o:Co m)(t:(ent m p n).k=0):Less m m p n:=by
 refine⟨h,o,.refl _ _,rfl,rfl,rfl,rfl,rfl,rfl,λq j => ?_,λ_ _=>⟨rfl,rfl,rfl,rfl,rfl⟩⟩
 by_cases e:q=p/\j=n
 .rw[if_pos e,e.1,e.2];have i:=(bD _).1 (mE h.pt p n);rcases i with i|i|i
  .show ent m p n=⟨0,0,false⟩;cases hx:ent m p n;rw[hx]at i;simp only at i;rw[i.1,i.2.1,i.2.2]
  .omega
  .omega
 .rw[if_neg e]
theorem Ri{k:Kp}(h:Rt k.m)(i:Co k.m)(p:Nat)(n:Int):∃m',jT k p n=⟨m',k.e⟩/\Less k.m m' p n:=by
 rcases VB h i p n with⟨o,e⟩|t
 .exact⟨k.m,e,.zero h i o⟩
 .exact t
def uV(x:Fr)(P:Page)(d:Bool):Fr:={ x with p:=P,d:=d }
theorem Yb(h:Rt m)(A:Co m){P:Page}{d:Bool}(D:g<m.m.fs.length)(G:(aD m g).r≠0)(C:∀c∈m.ca,c.k.toNat=g->dw P ((aN m.st c.f).n-c.i*8)=P/\(d=true\/P=dz m c.f c.i))(J:d=true->0<=(aD m g).f) :
  Rt (setFr m g (uV (aD m g) P d))/\Co (setFr m g (uV (aD m g) P d)):=by
 have q:bR (uV (aD m g) P d)=0:=by have t:=(dL _).1 (h.pt.frE D);rw[dL];exact⟨t.1,λe=>absurd e G,t.2.2⟩
 have o:∀x,aD (setFr m g (uV (aD m g) P d)) x=if x=g then uV (aD m g) P d else aD m x:=λx=>iB D x;have j:∀x,(aD (setFr m g (uV (aD m g) P d)) x).r=(aD m x).r/\(aD (setFr m g (uV (aD m g) P d)) x).f=(aD m x).f/\(aD (setFr m g (uV (aD m g) P d)) x).i=(aD m x).i:=λx=>by
  rw[o]
  by_cases e:x=g
  .rw[if_pos e,e];exact⟨rfl,rfl,rfl⟩
  .rw[if_neg e];exact⟨rfl,rfl,rfl⟩
 have l:(setFr m g (uV (aD m g) P d)).m.fs.length=m.m.fs.length:=fo;refine⟨⟨h.pt.setFr q,h.trim,h.live,⟨h.ca.file,λc b=>by rw[l];exact h.ca.lt c b,λc b => ?_,h.ca.srt⟩,λp n I => ?_,λi u => ?_,λi u E => ?_,h.cs⟩,⟨λc b => ?_,λc b a => ?_,λi u a => ?_⟩⟩
 .rw[(j _).1,(j _).2.1,(j _).2.2];exact h.ca.fr c b
 .obtain⟨y,F,z⟩:=h.en p n I;refine⟨y,F,z.sw,by rw[l];exact z.lt,λs => ?_⟩;have t:=z.fr s;unfold Oj at t ⊢;have e:ent (setFr m g (uV (aD m g) P d)) p n=ent m p n:=rfl;rw[e,(j _).1,(j _).2.1,(j _).2.2];exact t
 .rw[(j _).1];exact h.cf i (by rw[<-l];exact u)
 .rw[(j _).2.1]at E;exact h.fc i (by rw[<-l];exact u) E
 .rw[o]
  by_cases e:c.k.toNat=g
  .rw[if_pos e];exact(C c b e).1
  .rw[if_neg e];exact A.tail c b
 .rw[o]at a ⊢
  by_cases e:c.k.toNat=g
  .rw[if_pos e]at a ⊢;rcases(C c b e).2 with t|t
   .have h2:d=false:=a;rw[t]at h2;cases h2
   .exact t
  .rw[if_neg e]at a ⊢; exact A.clean c b a
 rw[o]at a ⊢
 by_cases e:i=g
 .rw[if_pos e]at a ⊢;exact J a
 .rw[if_neg e]at a ⊢; exact A.anon i (by rw[<-l];exact u) a
theorem Ur(h:Rt m)(t:Co m)(o:g<m.m.fs.length)(y:(aD m g).r≠0)(z:0<=(aD m g).f):Rt (setFr m g (uV (aD m g) (aD m g).p true))/\Co (setFr m g (uV (aD m g) (aD m g).p true))/\FU m (setFr m g (uV (aD m g) (aD m g).p true)):=by
 have u:=Yb (P:=(aD m g).p) (d:=true) h t o y (λc b e=>⟨by have:=t.tail c b;rw[e]at this;exact this,.inl rfl⟩) (λ_=>z);have a:∀x,(aD (setFr m g (uV (aD m g) (aD m g).p true)) x).p=(aD m x).p/\(aD (setFr m g (uV (aD m g) (aD m g).p true)) x).f=(aD m x).f:=λx=>by
  rw[iB o]
  by_cases e:x=g
  .rw[if_pos e,e];exact⟨rfl,rfl⟩
  .rw[if_neg e];exact⟨rfl,rfl⟩
 exact⟨u.1,u.2,⟨iF.of rfl,rfl,λ_=>rfl,λ_=>rfl,λp n=>BF rfl rfl rfl rfl a rfl ⟨rfl,rfl⟩,λf i _=>Ij (m:=m) (m':=setFr m g (uV (aD m g) (aD m g).p true)) rfl rfl rfl (λx=>(a x).1) f i⟩⟩
theorem NT(h:Rt m)(E:Co m){g:Pg}(D:(ent m p n).k=1)(J:(ent m p n).n=f)(K:eT m p n=some g)(O:g.wr=true)(C:g.sh=true\/(aD m f).f<0/\(aD m f).r=1) :
  Rt (aP m p n ⟨1,f,true⟩)/\Co (aP m p n ⟨1,f,true⟩)/\FU m (aP m p n ⟨1,f,true⟩):=by
 obtain⟨A,e1,hf,Z,I,Q,g0,u,l⟩:=gM h D;rw[K]at u;cases u;have:A = f:=by omega
 subst this;have w:eF ⟨1,A,true⟩=0:=(bD _).2 (.inr (.inl ⟨rfl,by show(0:Int)<=A; omega,by have:=((dO _).1 h.pt.fr).1;show(A : Int)<40;omega⟩));obtain⟨o,_,z⟩:=iU (k:=⟨m,0⟩) (p:=p) (n:=n) (x:=⟨1,A,true⟩) h.pt Q w;have b:∀q j,ent (aP m p n ⟨1,A,true⟩) q j=if q=p/\j=n then⟨1,A,true⟩else ent m q j:=λq j=>nN I o q j;have v:∀q j,alike (ent m q j) (ent (aP m p n ⟨1,A,true⟩) q j):=λq j=>by
  rw[b]
  by_cases e:q=p/\j=n
  .rw[if_pos e,e.1,e.2];exact⟨D.symm,J.symm⟩
  .rw[if_neg e];exact⟨rfl,rfl⟩
 have c:∀kd i,bO (aP m p n ⟨1,A,true⟩) kd i=bO m kd i:=λkd i=>by
  have T:=qN I o kd i;have h2:sD (pW kd i (ent m p n))=sD (pW kd i ⟨1,A,true⟩):=by rw[pY,pY,D,J]
  unfold aP;have h3:bO ({ m:=m,e:=0 }:Kp).m kd i=bO m kd i:=rfl;have S:ent ({ m:=m,e:=0 }:Kp).m p n=ent m p n:=rfl;rw[S,h2]at T;omega
 have a:iF m (aP m p n ⟨1,A,true⟩):=iF.setTb;refine⟨⟨z,h.trim,λq G => ?_,⟨h.ca.file,h.ca.lt,h.ca.fr,h.ca.srt⟩,λq j t => ?_,λi P=>by rw[c];exact h.cf i P,h.fc,λs C=>by rw[c];exact h.cs s C⟩,⟨E.tail,E.clean,E.anon⟩,⟨a,rfl,λ_=>rfl,λ_=>rfl,λq j=>BF rfl rfl rfl rfl (λ_=>⟨rfl,rfl⟩) (a.ar q) (v q j),λ_ _ _=>rfl⟩⟩
 .rw[a.lv]at G;obtain⟨Y,W⟩:=h.live q G;refine⟨by rw[a.ar];exact Y,λj=>by rw[(v q j).1];exact W j⟩
 have R:eT (aP m p n ⟨1,A,true⟩) q j=eT m q j:=by unfold eT;rw[a.ar]
 rw[R]
 by_cases e:q=p/\j=n
 .rw[b,if_pos e,e.1,e.2];refine⟨g,K,λU=>absurd (show(1:Int)=2 from U) (by decide),λ_=>by show(A : Int)<(m.m.fs.length:Int);omega,λ_ => ?_⟩;obtain⟨V,L,f3,f4,f5⟩:=l;refine⟨V,L,λ_=>O,λ_ F => ?_,λ_ F => ?_⟩
  .rcases C with C|C
   .exact C
   have:(aD m A).f<0:=C.1;have:0<=(aD m A).f:=F;omega
  rcases C with C|C
  .have:=L C;have:(aD m A).f<0:=F;omega
  show(aD m A).r<=1;omega
 rw[b,if_neg e]at t ⊢;obtain⟨y,N,d⟩:=h.en q j t;exact⟨y,N,d.sw,d.lt,d.fr⟩
theorem Tw{t u:Tb}(i:dB t=0)(e:dB u=0)(h:∀n,dK t n=dK u n):t=u:=by
 rw[<-zC i,<-zC e];unfold dE;congr 1;exact AP λn _=>h n
theorem NV(h:Pt m){x y:En}(C:p<m.sp.length)(i:0<=n/\n<64)(o:eF x=0)(A:eF y=0):aP (aP m p n y) p n x=aP m p n x:=by
 have u:=Bn (h.tbN p) i A;have h2:=Bn (h.tbN p) i o;have t:=Bn (qm u) i o;unfold aP;have z:dD (setTb m p (setT (dD m p).tb n y)) p = { dD m p with tb:=setT (dD m p).tb n y }:=by rw[BJ C,if_pos rfl]
 rw[z];have E:setT (setT (dD m p).tb n y) n x=setT (dD m p).tb n x:=Tw (qm t) (qm h2) λj=>by
  rw[Bp t,Bp h2,Bp u]
  by_cases e:j=n
  .rw[if_pos e,if_pos e]
  .rw[if_neg e,if_neg e,if_neg e]
 show setTb (setTb m p (setT (dD m p).tb n y)) p (setT (setT (dD m p).tb n y) n x)=_;rw[E];unfold setTb;simp only[DJ];have D:dD ({ m with sp:=m.sp.set p { dD m p with tb:=setT (dD m p).tb n y } }:Ma) p = { dD m p with tb:=setT (dD m p).tb n y }:=z;rw[D]
def kQ(m:Ma)(p:Nat)(n:Int):Ar:=(dD m p).ar.getD (il (dD m p).ar n).toNat zAr
def pQ(m:Ma)(p:Nat)(n:Int)(w:Bool):Int:=if il (dD m p).ar n<0 then 5 else if(w=true/\(kQ m p n).wr=false)\/(w=false/\(kQ m p n).rd=false)then 8 else 0
def WP(r:Kp × Int)(p:Nat)(n:Int)(w:Bool):Kp × Int:=if r.2<0 then r else(eZ r.1 p n ⟨1,r.2,w⟩,r.2)
def gZ(k:Kp)(p:Nat)(n:Int)(a:Ar):Kp × Int:=
 let e:=ent k.m p n
 if e.k=1 then(k,e.n)
 else if e.k=2 then
  if aJ k.m.sw e.n≠0 then(k,-1)else
  let r:=eO k (dA k.m.sw e.n) (-1) 0
  if r.2<0 then(r.1,-1)else
  if dC r.1.m.sl e.n (-1)≠0 then(r.1,-1)else(eZ ⟨{ r.1.m with sl:=cB r.1.m.sl e.n (-1) },r.1.e⟩ p n ⟨1,r.2,a.wr⟩,r.2)
 else if a.fi<0 then WP (eO k zPg (-1) 0) p n a.wr
 else
  let r:=fu k a.fi (a.ba+n-a.fr)
  if r.2<0 then r else(eZ (gF r.1 r.2 1) p n ⟨1,r.2,a.sh&&a.wr⟩,r.2)
def xQ(k:Kp)(p:Nat)(n:Int)(f:Int)(a:Ar):Kp × Int:=
 let x:=jv k.m f
 if a.sh=true\/x.f<0/\x.r=1 then(eZ k p n ⟨1,f,true⟩,f)else
 let r:=eO (jT k p n) x.p (-1) 0
 if r.2<0 then(r.1,-1)else(eZ r.1 p n ⟨1,r.2,true⟩,r.2)
def nK(m:Ma)(p:Nat)(n:Int)(w:Bool):Kp × Int:=
 let r:=gZ ⟨m,0⟩ p n (kQ m p n)
 if 0<=r.2/\w=true/\(ent r.1.m p n).w=false then xQ r.1 p n r.2 (kQ m p n)else r
def Oy(k:Kp)(f:Int)(d:Bool):Kp:=let m1:=setFr k.m f.toNat (lm (aD k.m f.toNat));⟨if d=true then setFr m1 f.toNat (uV (aD m1 f.toNat) (aD m1 f.toNat).p true)else m1,k.e⟩
def copied(m:Ma)(p:Nat)(n:Int):Bool:=decide ((ent m p n).k=2)||(decide ((ent m p n).k=1)&&decide ((jv m (ent m p n).n).f<0))
def wZ(m:Ma)(p n:Int)(w:Bool):Int:=
 if lV m≠0 then lV m else if p<0\/(m.sp.length:Int)<=p\/(dD m p.toNat).lv=false then 5 else if pQ m p.toNat n w≠0 then pQ m p.toNat n w
 else if 0<=(kQ m p.toNat n).fi/\copied m p.toNat n=false/\pq m.st (kQ m p.toNat n).fi ((kQ m p.toNat n).ba+n-(kQ m p.toNat n).fr)=true then 9
 else if(nK m p.toNat n w).2<0 then 10 else(nK m p.toNat n w).1.e
def KD(m:Ma)(p n:Int)(w:Bool):Ma:=(Oy (nK m p.toNat n w).1 (nK m p.toNat n w).2 (w&&(kQ m p.toNat n).sh)).m
def Lu(m:Ma)(p n:Int)(w:Bool):Int:=(nK m p.toNat n w).2
theorem Bw{g:Pg}(h:eT m p n=some g):g=kN (kQ m p n) n/\0<=il (dD m p).ar n/\(kQ m p n).sh=g.sh/\(kQ m p n).wr=g.wr/\(kQ m p n).rd=g.rd/\(kQ m p n).fi=g.fi/\(0<=g.fi->(kQ m p n).ba+n-(kQ m p n).fr=g.pg):=by
 have i:0<=il (dD m p).ar n:=(yM _ _).2 (by unfold eT at h;rw[h];simp);have h2:=(Jc i).1;unfold eT at h;rw[h]at h2;have e:=aM h2;refine⟨e,i,by rw[e];rfl,by rw[e];rfl,by rw[e];rfl,by rw[e];rfl,λo => ?_⟩;rw[e]at o ⊢;have a : 0<=(kQ m p n).fi:=o;show _=if 0<=(kQ m p n).fi then _ else _;rw[if_pos a];rfl
theorem ER(h:Rt m){x:Nat}(i:x<m.m.fs.length)(t:(aD m x).r=0):(∀c∈m.ca,c.k.toNat≠x)/\∀p n,(ent m p n).k=1->(ent m p n).n.toNat≠x:=by
 refine⟨λc a e => ?_,λp n o e => ?_⟩
 .have:=(h.ca.fr c a).1;rw[e]at this;omega
 have:=AL h o e;have:=h.cf x i;omega
theorem Fp(h:Rt m)(U:Co m){x:Nat}{g:Pg}{P:Page}{w:Bool}(K:p<m.sp.length)(L:0<=n/\n<64)(Y:(ent m p n).k=0)(E:x<m.m.fs.length)(D:(aD m x).r=0)(N:eT m p n=some g)(F:g.sh=false)(S:w=true->g.wr=true) :
  Rt (aP (setFr m x (bK P (-1) 0)) p n ⟨1,x,w⟩)/\Co (aP (setFr m x (bK P (-1) 0)) p n ⟨1,x,w⟩)/\Bv (XI p n) m (aP (setFr m x (bK P (-1) 0)) p n ⟨1,x,w⟩)/\fP (aP (setFr m x (bK P (-1) 0)) p n ⟨1,x,w⟩) p n=(P,true,0) /\
   ∀q j,ent (aP (setFr m x (bK P (-1) 0)) p n ⟨1,x,w⟩) q j=if q=p/\j=n then⟨1,x,w⟩else ent m q j:=by
 have u:bR (bK P (-1) 0)=0:=by rw[dL];exact⟨⟨by show(0:Int)<=1;decide,by show(1:Int)<=1000;decide,by show(-1:Int)<=-1;decide,by show(-1:Int)<5;decide,by show(0:Int)<=0;decide,by show(0:Int)<12;decide⟩,λ(e:(1:Int)=0)=>absurd e (by decide),λ_=>rfl⟩
 have z:eF ⟨1,x,w⟩=0:=(bD _).2 (.inr (.inl ⟨rfl,by show(0:Int)<=x;omega,by have:=((dO _).1 h.pt.fr).1;show(x:Int)<40;omega⟩));have G:=ER h E D;obtain⟨O,a2⟩:=tO (X:=bK P (-1) 0) (x:=⟨1,x,w⟩) (g:=g) h U K L Y E rfl rfl u (by rw[D];rfl) (λZ=>absurd D Z) (λ_=>⟨by show(-1:Int)<0;decide,rfl⟩) (λ_ q j l V=>absurd V (G.2 q j l)) N ⟨λ(e:(0:Int)<=-1)=>absurd e (by decide),λe=>(by rw[F]at e;cases e),S,λ_ (e:(0:Int)<=-1)=>absurd e (by decide),λ_ _=>by show(1:Int)<=1;decide⟩;obtain⟨Q,_,_⟩:=iU (k:=⟨setFr m x (bK P (-1) 0),0⟩) (p:=p) (n:=n) (x:=⟨1,x,w⟩) (h.pt.setFr u) L z;have d:∀q j,ent (aP (setFr m x (bK P (-1) 0)) p n ⟨1,x,w⟩) q j=if q=p/\j=n then⟨1,x,w⟩else ent m q j:=λq j=>nN (m:=setFr m x (bK P (-1) 0)) K Q q j;have o:∀y,aD (aP (setFr m x (bK P (-1) 0)) p n ⟨1,x,w⟩) y=if y=x then bK P (-1) 0 else aD m y:=λy=>iB E y;have s:iF m (setFr m x (bK P (-1) 0)):=iF.of rfl;have t:iF m (aP (setFr m x (bK P (-1) 0)) p n ⟨1,x,w⟩):=s.trans iF.setTb;have i:∀a b,aW (aP (setFr m x (bK P (-1) 0)) p n ⟨1,x,w⟩) a b=aW m a b:=by
  intro a b;rcases qd m a b with⟨c,T,A,J,I⟩|⟨T,C⟩
  .subst J;subst I;rw[ic h.ca A,ic O.ca A,o,if_neg (G.1 c A)]
  .rw[gL C,gL (m:=aP (setFr m x (bK P (-1) 0)) p n ⟨1,x,w⟩) C];rfl
 refine⟨O,a2,JR t (mi.refl _) (λa b _=>i a b) λq j y v R => ?_,?_,d⟩
 .rw[d,if_neg (show ¬(q=p/\j=n)from v)];refine qH h.pt.st (h.pt.pg R).1 (mi.refl _) (λa b _=>i a b) (λl => ?_) (λ_=>⟨rfl,rfl⟩);have:=o (ent m q j).n.toNat;rw[if_neg (G.2 q j l)]at this;exact⟨congrArg Fr.p this,congrArg Fr.f this⟩
 have W:eT (aP (setFr m x (bK P (-1) 0)) p n ⟨1,x,w⟩) p n=some g:=by
  have:eT (aP (setFr m x (bK P (-1) 0)) p n ⟨1,x,w⟩) p n=eT m p n:=by unfold eT;rw[t.ar]
  rw[this,N]
 rw[ji W,d,if_pos ⟨rfl,rfl⟩];have:=o x;rw[if_pos rfl]at this;unfold vH;rw[if_pos rfl];have h2:jv (aP (setFr m x (bK P (-1) 0)) p n ⟨1,x,w⟩) (x:Int)=bK P (-1) 0:=this;show((jv _ (x:Int)).p,decide ((jv _ (x:Int)).f<0),(0:Int))=_;rw[h2];rfl
theorem UM(h:Rt m)(L:Co m){g:Pg}{c:Cc}{w:Bool}(G:p<m.sp.length)(I:0<=n/\n<64)(Q:(ent m p n).k=0)(A:c∈m.ca)(E:eT m p n=some g)(C:c.f=g.fi/\c.i=g.pg)(F:w=true->g.sh=true/\g.wr=true) :
  Rt (aP (setFr m c.k.toNat (eP (aD m c.k.toNat))) p n ⟨1,c.k,w⟩)/\Co (aP (setFr m c.k.toNat (eP (aD m c.k.toNat))) p n ⟨1,c.k,w⟩)/\FU m (aP (setFr m c.k.toNat (eP (aD m c.k.toNat))) p n ⟨1,c.k,w⟩) /\
   ∀q j,ent (aP (setFr m c.k.toNat (eP (aD m c.k.toNat))) p n ⟨1,c.k,w⟩) q j=if q=p/\j=n then⟨1,c.k,w⟩else ent m q j:=by
 have z:=h.ca.lt c A;have T:=h.ca.fr c A;have s:=h.ca.file c A;have a : c.k.toNat<m.m.fs.length:=by omega
 have U:=h.fewR a;have t:bR (eP (aD m c.k.toNat))=0:=JX (h.pt.frE a) (by omega) (by omega);have u:eF ⟨1,c.k,w⟩=0:=(bD _).2 (.inr (.inl ⟨rfl,z.1,by have:=((dO _).1 h.pt.fr).1;show c.k<40;omega⟩));have Y:(eP (aD m c.k.toNat)).f=(aD m c.k.toNat).f:=rfl;have W:(eP (aD m c.k.toNat)).i=(aD m c.k.toNat).i:=rfl;have V:=s.1.1;obtain⟨S,R⟩:=tO (X:=eP (aD m c.k.toNat)) (x:=⟨1,c.k,w⟩) (f:=c.k.toNat) (g:=g) h L G I Q a rfl (by show c.k=_;omega) t rfl (λ_=>⟨rfl,rfl,rfl,rfl⟩) (λD=>by omega) (λK=>by omega) E
  ⟨λ_=>⟨by omega,by omega⟩,λ_=>by omega,λD=>(F D).2,λD _=>(F D).1,λ_ K=>by omega⟩
 obtain⟨J,_,_⟩:=iU (k:=⟨setFr m c.k.toNat (eP (aD m c.k.toNat)),0⟩) (p:=p) (n:=n) (x:=⟨1,c.k,w⟩) (h.pt.setFr t) I u;have b:∀q j,ent (aP (setFr m c.k.toNat (eP (aD m c.k.toNat))) p n ⟨1,c.k,w⟩) q j=if q=p/\j=n then⟨1,c.k,w⟩else ent m q j:=λq j=>nN (m:=setFr m c.k.toNat (eP (aD m c.k.toNat))) G J q j;have d:∀y,(aD (aP (setFr m c.k.toNat (eP (aD m c.k.toNat))) p n ⟨1,c.k,w⟩) y).p=(aD m y).p/\(aD (aP (setFr m c.k.toNat (eP (aD m c.k.toNat))) p n ⟨1,c.k,w⟩) y).f=(aD m y).f:=λy=>by
  have:aD (aP (setFr m c.k.toNat (eP (aD m c.k.toNat))) p n ⟨1,c.k,w⟩) y=if y=c.k.toNat then eP (aD m c.k.toNat)else aD m y:=iB a y;rw[this]
  by_cases e:y=c.k.toNat
  .rw[if_pos e,e];exact⟨rfl,rfl⟩
  .rw[if_neg e];exact⟨rfl,rfl⟩
 have o:iF m (setFr m c.k.toNat (eP (aD m c.k.toNat))):=iF.of rfl;have l:iF m (aP (setFr m c.k.toNat (eP (aD m c.k.toNat))) p n ⟨1,c.k,w⟩):=o.trans iF.setTb;refine⟨S,R,⟨l,rfl,λ_=>rfl,λ_=>rfl,λq j => ?_,λf i _=>Ij (m:=m) (m':=aP (setFr m c.k.toNat (eP (aD m c.k.toNat))) p n ⟨1,c.k,w⟩) rfl rfl rfl (λx=>(d x).1) f i⟩,b⟩
 by_cases e:q=p/\j=n
 .obtain⟨rfl,rfl⟩:=e;have v:eT (aP (setFr m c.k.toNat (eP (aD m c.k.toNat))) q j ⟨1,c.k,w⟩) q j=some g:=by
   have:eT (aP (setFr m c.k.toNat (eP (aD m c.k.toNat))) q j ⟨1,c.k,w⟩) q j=eT m q j:=by unfold eT;rw[l.ar]
   rw[this,E]
  rw[ji v,ji E,b,if_pos ⟨rfl,rfl⟩];unfold vH;rw[if_pos rfl,if_neg (by omega),if_neg (by omega),if_neg (by omega)];have r:=nU h.pt.st s;rw[C.1,C.2]at r;rw[if_neg r,<-C.1,<-C.2,ic h.ca A];have P:=(d c.k.toNat).1;have h2:=(d c.k.toNat).2;have N : (jv (aP (setFr m c.k.toNat (eP (aD m c.k.toNat))) q j ⟨1,c.k,w⟩) c.k).p=(aD m c.k.toNat).p:=P;have O : (jv (aP (setFr m c.k.toNat (eP (aD m c.k.toNat))) q j ⟨1,c.k,w⟩) c.k).f=(aD m c.k.toNat).f:=h2;show((jv _ c.k).p,decide ((jv _ c.k).f<0),(0:Int))=_;rw[N,O,decide_eq_false (by omega)]
 refine BF rfl rfl rfl rfl d (l.ar q) ?_;rw[b,if_neg e];exact⟨rfl,rfl⟩
theorem BI(h:Rt m)(u:Co m)(h' : Rt m')(hc' : Co m'){x:Nat}(i:x<m.m.fs.length)(o:(aD m x).r=0)(st:m'.st=m.st)(dk:m'.dk=m.dk)(ca:m'.ca=m.ca)(t:m'.m=(setFr m x X).m):Inv m m':=
 xx h u h' hc' st dk ca λc e=>by have y:=(ER h i o).1 c e;rw[wh t,iB i,if_neg y];exact⟨rfl,rfl⟩
theorem UG(h:Rt m)(u:Co m)(h' : Rt m')(hc' : Co m'){x:Nat}(i:x<m.m.fs.length)(st:m'.st=m.st)(dk:m'.dk=m.dk)(ca:m'.ca=m.ca)(o:m'.m=(setFr m x (eP (aD m x))).m):Inv m m':=
 xx h u h' hc' st dk ca λc t=>by
  rw[wh o,iB i]
  by_cases e:c.k.toNat=x
  .rw[if_pos e,e];exact⟨rfl,rfl⟩
  .rw[if_neg e];exact⟨rfl,rfl⟩
structure YG (m m' : Ma) (p:Nat) (n:Int) (g:Pg) (r:Int):Prop where
 rt:Rt m'
 co:Co m'
 vis:Bv (XI p n) m m'
 len:m'.m.fs.length=m.m.fs.length
 sll:m'.sl.length=m.sl.length
 no:r<0->dR m.m.fs=0
 yes:0<=r->(ent m' p n).k=1/\(ent m' p n).n=r/\(fP m' p n).1=(fP m p n).1/\(fP m' p n).2.2=0/\(fP m p n).2.2=0/\(0<=g.fi->(fP m' p n).2.1=(fP m p n).2.1)
 keep:(ent m p n).k=1->m' = m/\r=(ent m p n).n
 inv:Inv m m'
theorem tF{g:Pg}(h:eT m p n=some g)(e:(ent m p n).k=1):fP m p n=((jv m (ent m p n).n).p,decide ((jv m (ent m p n).n).f<0),0):=by
 rw[ji h];unfold vH;rw[if_pos e]
theorem KQ{k:Kp}(h:Rt k.m)(hc:Co k.m){g:Pg}(hp:p<k.m.sp.length)(D:eT k.m p n=some g)(hf:0<=g.fi->(ent k.m p n).k=0->qK k.m.st g.fi g.pg) :
  (gZ k p n (kQ k.m p n)).1.e=k.e/\YG k.m (gZ k p n (kQ k.m p n)).1.m p n g (gZ k p n (kQ k.m p n)).2:=by
 obtain⟨g1,g2,g3,g4,g5,g6,g7⟩:=Bw D;have hb:=h.pt.pg D;have R:0<=n/\n<64:=hb.2.2.2.2.2;have hE:=(bD _).1 (mE h.pt p n);have v:∀P:Page,bR (bK P (-1) 0)=0:=λP=>by rw[dL];exact⟨⟨by show(0:Int)<=1;decide,by show(1:Int)<=1000;decide,by show(-1:Int)<=-1;decide,by show(-1:Int)<5;decide,by show(0:Int)<=0;decide,by show(0:Int)<12;decide⟩,λ(e:(1:Int)=0)=>absurd e (by decide),λ_=>rfl⟩
 have t:∀ {m:Ma} {x:Nat},aD m x=frZ->(aD m x).r=0:=λe=>by rw[e];rfl
 have u:∀(x:Nat) (w:Bool),x<k.m.m.fs.length->eF ⟨1,x,w⟩=0:=λx w J=>(bD _).2 (.inr (.inl ⟨rfl,by show(0:Int)<=x;omega,by have:=((dO _).1 h.pt.fr).1;show(x:Int)<40;omega⟩));unfold gZ;simp only
 by_cases k1:(ent k.m p n).k=1
 .rw[if_pos k1];refine⟨rfl,h,hc,.refl _ _,rfl,rfl,λF=>by simp only at F;omega,λ_=>⟨k1,rfl,rfl,?_,?_,λ_=>rfl⟩,λ_=>⟨rfl,rfl⟩,.refl _⟩
  .show(fP k.m p n).2.2=0;rw[tF D k1]
  .rw[tF D k1]
 rw[if_neg k1]
 by_cases I:(ent k.m p n).k=2
 .rw[if_pos I];obtain⟨y,hy,hu⟩:=h.en p n (by omega);rw[D]at hy;cases hy;have hJ:=hu.sw I;have hs:(ent k.m p n).n.toNat<k.m.sl.length:=by omega
  have hd:(ent k.m p n).n=(((ent k.m p n).n.toNat:Nat):Int):=by omega
  have hq:aJ k.m.sw (ent k.m p n).n=0:=jG.2 ⟨h.pt.sw,by omega,by rw[h.pt.swl];omega⟩;rw[if_neg (by rw[hq];simp)];have l:fP k.m p n=(dA k.m.sw (ent k.m p n).n,true,0):=by rw[ji D];unfold vH;rw[if_neg k1,if_pos I,hq]
  rcases Dv (k:=k) (p:=dA k.m.sw (ent k.m p n).n) (f:=-1) (i:=0) h hc (v _)with⟨x,m1,o,A,J,S,Q⟩|⟨m1,A,Q,F⟩
  .rw[Q];simp only;rw[if_neg (by omega)];have b:ent m1 p n=ent k.m p n:=A.ents p n (λe=>absurd e k1);have q:eT m1 p n=some g:=(show eT m1 p n=eT k.m p n by unfold eT;rw[A.vis.sk.ar]).trans D;have hk:(ent k.m p n).n.toNat<m1.sl.length:=by rw[A.sll];exact hs
   have hw:=A.rt.fewS hk;have j:=mo (m:=m1) (p:=p) (n:=n) (by rw[b];omega);have hP:0<bO m1 2 ((ent k.m p n).n.toNat:Nat):=(lJ (by decide)).2 ⟨p,n,j.1,j.2,by rw[b];exact I,by rw[b];omega⟩;have hQ:=A.rt.cs _ hk;have hC:dC m1.sl (((ent k.m p n).n.toNat:Nat):Int) (-1)=0:=by have e1:Gd m1.sl (((ent k.m p n).n.toNat:Nat):Int)=jS m1 (ent k.m p n).n.toNat:=rfl;unfold dC;rw[if_neg (by rw[A.rt.pt.sl];simp),if_neg (by rw[e1];omega),if_neg (by rw[e1];omega)]
   have a:=Gw A.rt A.co (p:=p) (n:=n) (s:=(ent k.m p n).n.toNat) (by rw[b];exact I) (by rw[b];exact hd);have hH:cB (setFr m1 x (bK (dA k.m.sw (ent k.m p n).n) (-1) 0)).sl (ent k.m p n).n (-1)=(setSl m1 (ent k.m p n).n.toNat (jS m1 (ent k.m p n).n.toNat + -1)).sl:=by unfold cB;rw[if_pos (by rw[hd];exact hC)];rfl
   rw[if_neg (by rw[hd];exactλe=>e hC),hH];have hm:p<m1.sp.length:=j.1;obtain⟨O,N,Z,Y,W⟩:=Fp (P:=dA k.m.sw (ent k.m p n).n) (w:=(kQ k.m p n).wr) (x:=x) (g:=g) (p:=p) (n:=n) a.rt a.co (by rw[a.vis.sk.len];exact hm) R (by rw[a.ents,if_pos ⟨rfl,rfl⟩];rfl) (by rw[a.len];exact J) (t (m:=m1) S) (by
    have:eT (aP (setSl m1 (ent k.m p n).n.toNat (jS m1 (ent k.m p n).n.toNat + -1)) p n zEn) p n=eT m1 p n:=by unfold eT;rw[a.vis.sk.ar]
    rw[this,q]) hJ.2 (λe=>by rw[<-g4];exact e)
   have c:x<k.m.m.fs.length:=by rw[<-A.len];exact J
   have ha:Pt (setFr (setSl m1 (ent k.m p n).n.toNat (jS m1 (ent k.m p n).n.toNat + -1)) x (bK (dA k.m.sw (ent k.m p n).n) (-1) 0)):=(A.rt.pt.setSl (by omega) (by omega)).setFr (v _);have hG:=NV (m:=setFr (setSl m1 (ent k.m p n).n.toNat (jS m1 (ent k.m p n).n.toNat + -1)) x (bK (dA k.m.sw (ent k.m p n).n) (-1) 0)) ha (p:=p) (n:=n) (x:=⟨1,x,(kQ k.m p n).wr⟩) (y:=zEn) hm R (u x _ c) (by decide);obtain⟨s0,T,c2⟩:=iU (k:=⟨setFr (setSl m1 (ent k.m p n).n.toNat (jS m1 (ent k.m p n).n.toNat + -1)) x (bK (dA k.m.sw (ent k.m p n).n) (-1) 0),k.e⟩) (p:=p) (n:=n) (x:=⟨1,x,(kQ k.m p n).wr⟩) ha R (u x _ c);have hv:eZ ⟨{ setFr m1 x (bK (dA k.m.sw (ent k.m p n).n) (-1) 0)with sl:=(setSl m1 (ent k.m p n).n.toNat (jS m1 (ent k.m p n).n.toNat + -1)).sl },k.e⟩ p n ⟨1,x,(kQ k.m p n).wr⟩=⟨aP (setFr (aP (setSl m1 (ent k.m p n).n.toNat (jS m1 (ent k.m p n).n.toNat + -1)) p n zEn) x (bK (dA k.m.sw (ent k.m p n).n) (-1) 0)) p n ⟨1,x,(kQ k.m p n).wr⟩,k.e⟩:=by refine Eq.trans T (congrArg (λm=>Kp.mk m k.e) ?_);exact hG.symm
   rw[hv];refine⟨rfl,O,N,((A.vis.x _).trans a.vis).trans Z,?_,?_,λF=>by simp only at F;omega,λ_ => ?_,λe=>absurd e k1,(A.inv.trans (a.inv A.rt A.co)).trans (BI a.rt a.co O N (x:=x) (X:=bK (dA k.m.sw (ent k.m p n).n) (-1) 0) (by rw[a.len];exact J) (t (m:=m1) S) rfl rfl rfl rfl)⟩
   .exact(fo.trans a.len).trans A.len
   .exact a.sll.trans A.sll
   rw[Y,W,if_pos ⟨rfl,rfl⟩,l];exact⟨rfl,rfl,rfl,rfl,rfl,λ_=>rfl⟩
  rw[Q];simp only;rw[if_pos (by decide)];exact⟨rfl,A.rt,A.co,A.vis.x _,A.len,A.sll,λ_=>F,λL=>absurd (show(0:Int)<=-1 from L) (by decide),λe=>absurd e k1,A.inv⟩
 rw[if_neg I];have k0:(ent k.m p n).k=0:=by omega
 by_cases E:g.fi<0
 .rw[g6,if_pos E];have hI:=(hb.2.2.2.2.1 E).1;have l:fP k.m p n=(zPg,false,0):=by rw[ji D];unfold vH;rw[if_neg k1,if_neg I,if_pos E]
  unfold WP;rcases Dv (k:=k) (p:=zPg) (f:=-1) (i:=0) h hc (v _)with⟨x,m1,o,A,J,S,Q⟩|⟨m1,A,Q,F⟩
  .rw[Q];simp only;rw[if_neg (by omega)];have b:ent m1 p n=ent k.m p n:=A.ents p n (λe=>absurd e k1);have q:eT m1 p n=some g:=(show eT m1 p n=eT k.m p n by unfold eT;rw[A.vis.sk.ar]).trans D;have c:x<k.m.m.fs.length:=by rw[<-A.len];exact J
   obtain⟨O,N,Z,Y,W⟩:=Fp (P:=zPg) (w:=(kQ k.m p n).wr) (x:=x) (g:=g) (p:=p) (n:=n) A.rt A.co (by rw[A.vis.sk.len];exact hp) R (by rw[b];exact k0) J (t S) q hI (λe=>by rw[<-g4];exact e);obtain⟨s0,T,c2⟩:=iU (k:=⟨setFr m1 x (bK zPg (-1) 0),k.e⟩) (p:=p) (n:=n) (x:=⟨1,x,(kQ k.m p n).wr⟩) (A.rt.pt.setFr (v _)) R (u x _ c);rw[T];refine⟨rfl,O,N,(A.vis.x _).trans Z,fo.trans A.len,A.sll,λF=>by simp only at F;omega,λ_ => ?_,λe=>absurd e k1,A.inv.trans (BI A.rt A.co O N (x:=x) (X:=bK zPg (-1) 0) J (t S) rfl rfl rfl rfl)⟩;have G : fP (setTb (setFr m1 x (bK zPg (-1) 0)) p (setT (dD (setFr m1 x (bK zPg (-1) 0)) p).tb n ⟨1,x,(kQ k.m p n).wr⟩)) p n=(zPg,true,0):=Y;have V:=W p n;rw[if_pos ⟨rfl,rfl⟩]at V;have U : ent (setTb (setFr m1 x (bK zPg (-1) 0)) p (setT (dD (setFr m1 x (bK zPg (-1) 0)) p).tb n ⟨1,x,(kQ k.m p n).wr⟩)) p n=⟨1,x,(kQ k.m p n).wr⟩:=V;simp only;rw[G,U,l];exact⟨rfl,rfl,rfl,rfl,rfl,λL=>absurd L (by omega)⟩
  rw[Q];simp only;rw[if_pos (by decide)];exact⟨rfl,A.rt,A.co,A.vis.x _,A.len,A.sll,λ_=>F,λL=>absurd (show(0:Int)<=-1 from L) (by decide),λe=>absurd e k1,A.inv⟩
 rw[g6,if_neg E];have hl:=g7 (by omega);rw[hl];have j:=hf (by omega) k0;obtain⟨he,C⟩:=Iq (k:=k) h hc j
 by_cases hr:(fu k g.fi g.pg).2<0
 .rw[if_pos hr];exact⟨he,C.rt,C.co,C.vis.x _,C.len,C.sll,C.no,λL=>absurd hr (by omega),λe=>absurd e k1,C.inv⟩
 rw[if_neg hr];have hh:=C.yes (by omega);have hM:=C.rt.ca.lt _ hh;have hO:=C.rt.ca.fr _ hh;simp only at hM hO;generalize hK:fu k g.fi g.pg=K at *
 have d : K.2.toNat<K.1.m.m.fs.length:=by omega
 have hw:=C.rt.fewR d;obtain⟨a1,a2⟩:=Bj (k:=K.1) (f:=K.2.toNat) (n:=1) C.rt.pt d (by omega) (by omega) (by omega);have hD:ik (aD K.1.m K.2.toNat) 1=eP (aD K.1.m K.2.toNat):=by unfold ik;rw[if_neg (by omega)];rfl
 rw[hD]at a1 a2;have hA:K.2=((K.2.toNat:Nat):Int):=by omega
 have hj : eF ⟨1,K.2,(kQ k.m p n).sh&&(kQ k.m p n).wr⟩=0:=by rw[hA];exact u _ _ (by rw[<-C.len];exact d)
 have b:ent K.1.m p n=ent k.m p n:=C.ents p n k1;have q:eT K.1.m p n=some g:=(show eT K.1.m p n=eT k.m p n by unfold eT;rw[C.vis.sk.ar]).trans D;obtain⟨O,N,Z,Y⟩:=UM (w:=(kQ k.m p n).sh&&(kQ k.m p n).wr) C.rt C.co (by rw[C.vis.sk.len];exact hp) R (by rw[b];exact k0) hh q ⟨rfl,rfl⟩ (λe=>by rw[dW,g3,g4]at e;exact e);obtain⟨s0,T,c2⟩:=iU (k:=⟨setFr K.1.m K.2.toNat (eP (aD K.1.m K.2.toNat)),K.1.e⟩) (p:=p) (n:=n) (x:=⟨1,K.2,(kQ k.m p n).sh&&(kQ k.m p n).wr⟩) a2 R hj;have hN:gF K.1 K.2 1=⟨setFr K.1.m K.2.toNat (eP (aD K.1.m K.2.toNat)),K.1.e⟩:=by rw[<-a1,<-hA]
 rw[hN,T];have z:=C.vis.trans Z;have G:=Y p n;rw[if_pos ⟨rfl,rfl⟩]at G;refine⟨he,O,N,z.x _,fo.trans C.len,C.sll,λL=>absurd L hr,λ_ => ?_,λe=>absurd e k1,C.inv.trans (UG C.rt C.co O N (x:=K.2.toNat) d rfl rfl rfl rfl)⟩;have hs:=z.see p n;have hL : fP (setTb (setFr K.1.m K.2.toNat (eP (aD K.1.m K.2.toNat))) p (setT (dD (setFr K.1.m K.2.toNat (eP (aD K.1.m K.2.toNat))) p).tb n ⟨1,K.2,(kQ k.m p n).sh&&(kQ k.m p n).wr⟩)) p n=fP k.m p n:=hs;have W:ent (setTb (setFr K.1.m K.2.toNat (eP (aD K.1.m K.2.toNat))) p (setT (dD (setFr K.1.m K.2.toNat (eP (aD K.1.m K.2.toNat))) p).tb n ⟨1,K.2,(kQ k.m p n).sh&&(kQ k.m p n).wr⟩)) p n=⟨1,K.2,(kQ k.m p n).sh&&(kQ k.m p n).wr⟩:=G;simp only;have hi:(fP k.m p n).2.2=0:=by rw[ji D];unfold vH;rw[if_neg k1,if_neg I,if_neg E,if_neg (nU h.pt.st j)]
 rw[hL,W];exact⟨rfl,rfl,rfl,hi,hi,λ_=>rfl⟩
theorem Less.zr(h:Rt m)(k:Less m m' p n){x:Nat}(C:(aD m x).r=0):(aD m' x).r=0:=by
 rcases gu x m.m.fs.length with o|o
 .have F:=h.cf x o;have h2:=k.rt.cf x (by rw[k.len];exact o);have E:tY m' x=tY m x:=by unfold tY;rw[k.ca]
  have D:¬0<bO m' 1 x:=λz=>by
   obtain⟨q,j,G,A,u,y⟩:=(lJ (by decide)).1 z;have t:=k.ents q j
   by_cases e:q=p/\j=n
   .rw[if_pos e]at t;rw[t]at u;exact absurd u (by decide)
   rw[if_neg e]at t;rw[t]at u y;have:=(lJ (m:=m) (kd:=1) (i:=x) (by decide)).2 ⟨q,j,by have:=mo (m:=m) (p:=q) (n:=j) (by omega);exact this.1,A,u,y⟩;omega
  omega
 .rw[Ji (by rw[k.len];exact o)];rfl
theorem Vn{x:Nat}(i:x<m.m.fs.length)(h:(aD m x).r=0):dR m.m.fs≠0:=λe=>GH e i h
structure YK (m m' : Ma) (p:Nat) (n:Int) (g:Pg) (r:Int):Prop where
 rt:Rt m'
 co:Co m'
 vis:Bv (XI p n) m m'
 len:m'.m.fs.length=m.m.fs.length
 sll:m'.sl.length=m.sl.length
 no:r<0->dR m.m.fs=0
 yes:0<=r->(ent m' p n).k=1/\(ent m' p n).n=r/\(ent m' p n).w=true/\(fP m' p n).1=(fP m p n).1/\(fP m' p n).2.2=0/\(g.sh=true->(fP m' p n).2.1=(fP m p n).2.1)/\(g.sh=false->(fP m' p n).2.1=true)
 inv:Inv m m'
theorem WV{k:Kp}(h:Rt k.m)(G:Co k.m){f:Int}{g:Pg}(F:eT k.m p n=some g)(O:(ent k.m p n).k=1)(Y:(ent k.m p n).n=f)(V:g.wr=true) :
  (xQ k p n f (kQ k.m p n)).1.e=k.e/\YK k.m (xQ k p n f (kQ k.m p n)).1.m p n g (xQ k p n f (kQ k.m p n)).2:=by
 obtain⟨g1,g2,Q,g4,g5,g6,g7⟩:=Bw F;obtain⟨x,e1,hf,hr,W,q,g0,v,hh⟩:=gM h O;rw[F]at v;cases v;have hd:f=(x:Int):=by omega
 subst hd;have d:jv k.m (x:Int)=aD k.m x:=rfl;have a:=tF F O;rw[Y,d]at a;unfold xQ;simp only;rw[d]
 by_cases A:(kQ k.m p n).sh=true\/(aD k.m x).f<0/\(aD k.m x).r=1
 .rw[if_pos A];obtain⟨a1,a2,a3⟩:=NT h G O Y F V (A.imp (λe=>by rw[<-Q];exact e) id);have l:eF ⟨1,x,true⟩=0:=(bD _).2 (.inr (.inl ⟨rfl,by show(0:Int)<=x;omega,by have:=((dO _).1 h.pt.fr).1;show(x:Int)<40;omega⟩));obtain⟨T,R,c2⟩:=iU (k:=k) (p:=p) (n:=n) (x:=⟨1,x,true⟩) h.pt q l;rw[R];have j:=nN W T p n;rw[if_pos ⟨rfl,rfl⟩]at j;have hs:fP (setTb k.m p (setT (dD k.m p).tb n ⟨1,x,true⟩)) p n=fP k.m p n:=a3.see p n;refine⟨rfl,a1,a2,a3.x _,rfl,rfl,λI=>absurd (show(x:Int)<0 from I) (by omega),λ_ => ?_,xx h G a1 a2 rfl rfl rfl λc _=>⟨rfl,rfl⟩⟩;simp only;rw[j,hs,a];refine⟨rfl,rfl,rfl,rfl,rfl,λ_=>rfl,λb => ?_⟩;rcases A with A|A
  .rw[Q,b]at A;cases A
  .exact decide_eq_true A.1
 rw[if_neg A];have b:g.sh=false:=by
  cases e:g.sh with
  | false=>rfl
  | true=>exact absurd (.inl (by rw[Q,e])) A
 obtain⟨m1,d1,D⟩:=Ri h G p n;rw[d1];have t:bR (bK (aD k.m x).p (-1) 0)=0:=by rw[dL];exact⟨⟨by show(0:Int)<=1;decide,by show(1:Int)<=1000;decide,by show(-1:Int)<=-1;decide,by show(-1:Int)<5;decide,by show(0:Int)<=0;decide,by show(0:Int)<12;decide⟩,λ(e:(1:Int)=0)=>absurd e (by decide),λ_=>rfl⟩
 rcases Dv (k:=⟨m1,k.e⟩) (p:=(aD k.m x).p) (f:=-1) (i:=0) D.rt D.co t with⟨y,E,o,C,L,U,N⟩|⟨E,C,N,h0⟩
 .rw[N];simp only;rw[if_neg (by omega)];have z:ent m1 p n=zEn:=by rw[D.ents,if_pos ⟨rfl,rfl⟩]
  have hi:ent E p n=zEn:=(C.ents p n (λe=>by have:(ent m1 p n).k=1:=e;rw[z]at this;exact absurd this (by decide))).trans z;have hb:eT E p n=some g:=by
   have:eT E p n=eT k.m p n:=by unfold eT;rw[C.vis.sk.ar,show(dD (Kp.m ⟨m1,k.e⟩) p).ar=(dD k.m p).ar from D.vis.sk.ar p]
   rw[this,F]
  have u:E.sp.length=k.m.sp.length:=C.vis.sk.len.trans D.vis.sk.len;have s:E.m.fs.length=k.m.m.fs.length:=C.len.trans D.len;have l:eF ⟨1,y,true⟩=0:=(bD _).2 (.inr (.inl ⟨rfl,by show(0:Int)<=y;omega,by have:=((dO _).1 h.pt.fr).1;show(y:Int)<40;omega⟩));obtain⟨b1,Z,b3,b4,b5⟩:=Fp (P:=(aD k.m x).p) (w:=true) (x:=y) (g:=g) (p:=p) (n:=n) C.rt C.co (by rw[u];exact W) q (by rw[hi];rfl) L (by rw[U];rfl) hb b (λ_=>V);obtain⟨T,R,c2⟩:=iU (k:=⟨setFr E y (bK (aD k.m x).p (-1) 0),k.e⟩) (p:=p) (n:=n) (x:=⟨1,y,true⟩) (C.rt.pt.setFr t) q l;rw[R];have S : fP (setTb (setFr E y (bK (aD k.m x).p (-1) 0)) p (setT (dD (setFr E y (bK (aD k.m x).p (-1) 0)) p).tb n ⟨1,y,true⟩)) p n=((aD k.m x).p,true,0):=b4;have K:=b5 p n;rw[if_pos ⟨rfl,rfl⟩]at K;have J : ent (setTb (setFr E y (bK (aD k.m x).p (-1) 0)) p (setT (dD (setFr E y (bK (aD k.m x).p (-1) 0)) p).tb n ⟨1,y,true⟩)) p n=⟨1,y,true⟩:=K;refine⟨rfl,b1,Z,(D.vis.trans (C.vis.x _)).trans b3,fo.trans s,C.sll.trans D.sll,λI=>absurd (show(y:Int)<0 from I) (by omega),λ_ => ?_,((D.inv h G).trans C.inv).trans (BI C.rt C.co b1 Z (x:=y) (X:=bK (aD k.m x).p (-1) 0) L (by rw[U];rfl) rfl rfl rfl rfl)⟩;simp only;rw[S,J,a];exact⟨rfl,rfl,rfl,rfl,rfl,λe=>(by rw[b]at e;cases e),λ_=>rfl⟩
 rw[N];simp only;rw[if_pos (by decide)];refine⟨rfl,C.rt,C.co,D.vis.trans (C.vis.x _),C.len.trans D.len,C.sll.trans D.sll,λ_ => ?_,λI=>absurd (show(0:Int)<=-1 from I) (by decide),(D.inv h G).trans C.inv⟩
 by_cases e:dR k.m.m.fs=0
 .exact e
 obtain⟨y,L,ha⟩:=Pz e;exact absurd h0 (Vn (m:=m1) (by rw[D.len];exact L) (D.zr h ha))
structure Vt (m m' : Ma) (p:Nat) (n:Int) (w:Bool) (g:Pg) (r:Int):Prop where
 rt:Rt m'
 co:Co m'
 vis:Bv (XI p n) m m'
 len:m'.m.fs.length=m.m.fs.length
 sll:m'.sl.length=m.sl.length
 k1:(ent m' p n).k=1
 en:(ent m' p n).n=r
 ew:w=true->(ent m' p n).w=true
 see:fP m' p n=((fP m p n).1,(fP m' p n).2.1,0)
 was:(fP m p n).2.2=0
 same:w=false\/g.sh=true->0<=g.fi->(fP m' p n).2.1=(fP m p n).2.1
 own:w=true->g.sh=false->(fP m' p n).2.1=true
 inv:(w&&g.sh)=false->Inv m m'
theorem JB{g:Pg}{w:Bool}(e:eT m p n=some g):pQ m p n w=0↔(w=true->g.wr=true)/\(w=false->g.rd=true):=by
 obtain⟨z,y,u,i,h,t,o⟩:=Bw e;unfold pQ;rw[if_neg (by omega),i,h];cases w<;>cases g.wr<;>cases g.rd<;>decide
theorem Mx(h:Rt m)(Z:Co m){w:Bool}{g:Pg}(W:p<m.sp.length)(J:eT m p n=some g)(V:w=true->g.wr=true)(Y:0<=g.fi->(ent m p n).k=0->qK m.st g.fi g.pg) :
  (nK m p n w).1.e=0/\(0<=(nK m p n w).2->Vt m (nK m p n w).1.m p n w g (nK m p n w).2)/\((nK m p n w).2<0->dR m.m.fs=0\/dR (gZ ⟨m,0⟩ p n (kQ m p n)).1.m.m.fs=0):=by
 obtain⟨K,u⟩:=KQ (k:=⟨m,0⟩) h Z W J Y;unfold nK;simp only at K u ⊢;generalize hR:gZ ⟨m,0⟩ p n (kQ m p n)=R at *
 by_cases t:0<=R.2/\w=true/\(ent R.1.m p n).w=false
 .rw[if_pos t];obtain⟨C,G,F,L,D,E⟩:=u.yes t.1;have a:eT R.1.m p n=some g:=(show eT R.1.m p n=eT m p n by unfold eT;rw[u.vis.sk.ar]).trans J;have o:kQ R.1.m p n=kQ m p n:=by unfold kQ;rw[u.vis.sk.ar]
  have y:=WV (k:=R.1) u.rt u.co a C G (V t.2.1);rw[o]at y;obtain⟨l,y⟩:=y;refine⟨l.trans K,λA => ?_,λA => .inr (y.no A)⟩;obtain⟨U,T,S,Q,P,O,N⟩:=y.yes A;refine⟨y.rt,y.co,u.vis.trans y.vis,y.len.trans u.len,y.sll.trans u.sll,U,T,λ_=>S,?_,D,λz d => ?_,λ_ z=>N z,λ_=>u.inv.trans y.inv⟩
  .rw[<-F,<-Q,<-P]
  rcases z with z|z
  .rw[t.2.1]at z;cases z
  .rw[O z,E d]
 rw[if_neg t];refine⟨K,λA => ?_,λA => .inl (u.no A)⟩;obtain⟨C,G,F,L,D,E⟩:=u.yes A;have i:w=true->(ent R.1.m p n).w=true:=λb=>by
  cases e:(ent R.1.m p n).w with
  | true=>rfl
  | false=>exact absurd ⟨A,b,e⟩ t
 refine⟨u.rt,u.co,u.vis,u.len,u.sll,C,G,i,?_,D,λ_ d=>E d,λb z => ?_,λ_=>u.inv⟩
 .rw[<-F,<-L]
 have a:eT R.1.m p n=some g:=(show eT R.1.m p n=eT m p n by unfold eT;rw[u.vis.sk.ar]).trans J;obtain⟨x,e1,s,hr,q,r,g0,j,c⟩:=gM u.rt C;rw[a]at j;cases j;obtain⟨f1,f2,f3,f4,f5⟩:=c;rw[tF a C,e1];refine decide_eq_true ?_;show(aD R.1.m x).f<0
 by_cases I:0<=(aD R.1.m x).f
 .have:=f4 (i b) I;rw[z]at this;cases this
 .omega
theorem Vt.mark{w:Bool}{g:Pg}{r e:Int}(h:Vt m m' p n w g r)(G:eT m p n=some g):Vt m (Oy ⟨m',e⟩ r (w&&g.sh)).m p n w g r:=by
 have l:eT m' p n=some g:=(show eT m' p n=eT m p n by unfold eT;rw[h.vis.sk.ar]).trans G;obtain⟨x,I,a,D,q,s,S,d,b⟩:=gM h.rt h.k1;rw[l]at d;cases d;have j:r=(x:Int):=by rw[<-h.en,I]
 subst j;obtain⟨C,A,F⟩:=OH h.rt h.co a D;have E:∀t:Ma,Rt t->Co t->FU m' t->t.m.fs.length=m'.m.fs.length->t.sl.length=m'.sl.length->ent t p n=ent m' p n->((w&&g.sh)=false->Inv m' t)->Vt m t p n w g x:=λt O N y L K z J=>
  ⟨O,N,h.vis.trans (y.x _),L.trans h.len,K.trans h.sll,by rw[z];exact h.k1,by rw[z];exact h.en,by rw[z];exact h.ew,by rw[y.see];exact h.see,h.was,by rw[y.see];exact h.same,by rw[y.see];exact h.own,λe=>(h.inv e).trans (J e)⟩
 unfold Oy;simp only[bu]
 by_cases u:(w&&g.sh)=true
 .rw[if_pos u];rw[dW]at u;have o:0<=(aD m' x).f:=b.2.1 u.2;have i:aD (setFr m' x (lm (aD m' x))) x=lm (aD m' x):=by rw[iB a,if_pos rfl]
  obtain⟨R,Q,P⟩:=Ur C A (g:=x) (by rw[fo];exact a) (by rw[i];exact D) (by rw[i];exact o);exact E _ R Q (F.trans P) (fo.trans fo) rfl rfl (λe=>by rw[u.1,u.2]at e;cases e)
 rw[if_neg u];exact E _ C A F fo rfl rfl (λ_=>xx h.rt h.co C A rfl rfl rfl λc _=>by
  rw[iB a]
  by_cases e:c.k.toNat=x
  .rw[if_pos e,e];exact⟨rfl,rfl⟩
  .rw[if_neg e];exact⟨rfl,rfl⟩)
theorem Ql : (Tryz.prog.info? 105).map (·.size)=some 9:=by kernel_rfl
def Gh(f:Int->Bool)(q:Int × Page):Bool:=!(f q.1)
theorem Ns(q:Int × Page)(g i n:Nat)(f:Int->Bool)(w:World)(o:aG w g #[.map (some i)] 222)(t:pz w i n f)(hq : -9223372036854775808<=q.1/\q.1<=9223372036854775807) :
  Calls Tryz.prog 168 #[.agg (GV q),.pointer (some ⟨g,0,none⟩)] w λr w'=>r = .returned (.bool (Gh f q))/\Below w.heap.size w w':=by
 go_enter func168,ntmps168;go_upto_region 1 with(fail);refine iG (λW=>Code.wp _ _ _ _ W) λW0 a b c => ?_;clear c;have e:=(o.ext a).cell 0;have h:=b.cell;have d:=(t.below a).look q.1 hq;have u:(GV q)[0]?=some (.int .i64 q.1):=rfl;go_wp2;go_ret;exact⟨rfl,a⟩
theorem TK{l:List (Int × Page)}(h:eB w a (l.flatMap zI))(k:Nat)(i:k<l.length):∃b e,a=some ⟨b,e,none⟩/\eB w (some ⟨b,e+k*9,none⟩) (zI l[k]):=kE vP (by decide) h k i
theorem NJ(l:List (Int × Page))(a:Option Addr)(c:Nat)(w:World)(y:eB w a (l.flatMap zI))(G:l.length<=9223372036854775807)(g A n:Nat)(f:Int->Bool)(D:aG w g #[.map (some A)] 222)(E:pz w A n f)(C:∀q∈l,-9223372036854775808<=q.1/\q.1<=9223372036854775807) :
  Calls Tryz.prog 198 #[.slice a l.length c,.func (.func 168) #[] #[.pointer (some ⟨g,0,none⟩)]] w λe w'=>e = .returned (.int .i64 (idx (Gh f) l))/\Below w.heap.size w w':=by
 go_enter func198,ntmps198;go_wp2
 go_loopw [8] (fun i wr => ∃k:Nat,k<=l.length/\i = .int .i64 k/\Below w.heap.size w wr/\∀i (h:i<l.length),i<k->(Gh f) l[i]=false) (fun i _=>l.length-(intOf i).toNat)
 case atStart=>exact⟨0,bq _,rfl,Below.refl _ _,λi _ h=>absurd h (fq _)⟩
 case round=>
  obtain⟨k,I,rfl,j,p⟩:=hrel;have z:=ae p;clear p
  by_cases t:k<l.length
  .obtain⟨b,u,rfl,s⟩:=TK (y.below j) k t
   go_wp2_with (refine ay _ _ rfl b (u+k*9) rfl rfl _ s _ underlying105 rfl Ql ?_)
   refine(Ns l[k] g A n f _ (D.ext j) (E.below j) (C _ (eu t))).mono ?_;rintro e F ⟨rfl,r⟩;have m:=ag j r;clear r;cases hpk:(Gh f) l[k]
   .have o:=ae hpk;clear hpk;go_wp2;go_roundw
    case rel=>exact⟨k+1,by omega,by go_num,m,mM z.out t o.out⟩
    case measure=>simp[intOf];omega
   have d:=ae (uJ (Gh f) l k t z.out hpk);clear hpk;go_wp2;go_ret;exact⟨aX d.out.symm,m⟩
  have d:=ae (mr (Gh f) l λi h=>z.out i h (by omega));go_wp2;go_ret;exact⟨aX d.out.symm,j⟩
theorem Ol(l:List (Int × Page))(a:Option Addr)(c:Nat)(w:World)(h:eB w a (l.flatMap zI))(t:l.length<=9223372036854775807)(g i n:Nat)(f:Int->Bool)(u:aG w g #[.map (some i)] 222)(y:pz w i n f)(o:∀q∈l,-9223372036854775808<=q.1/\q.1<=9223372036854775807) :
  Calls Tryz.prog 167 #[.slice a l.length c,.func (.func 168) #[] #[.pointer (some ⟨g,0,none⟩)]] w λe w'=>e = .returned (.bool (l.any (Gh f)))/\Below w.heap.size w w':=by
 go_enter func167,ntmps167
 go_wp2_with fail
 refine(NJ l a c _ h t g i n f u y o).mono ?_;rintro e z ⟨rfl,b⟩;go_wp2;go_ret;exact⟨bX (pK _ _),b⟩
theorem RJ(e:k<m.dk.blocks.length)(h:(decide ((k:Int)∈kJ m.st)||decide (m.dk.blocks.getD k zPg=zPg))=false):trimB m=false:=by
 unfold trimB;rw[IY];refine .inl (List.all_eq_false.2 ⟨k,dG.2 e,?_⟩);rw[h];decide
theorem Uh(h:∀j:Nat,j<m.dk.blocks.length->(decide ((j:Int)∈kJ m.st)||decide (m.dk.blocks.getD j zPg=zPg))=true):trimB m = !(m.dk.queue.any (Gh (tZ (kJ m.st)))):=by
 unfold trimB;rw[fA.2 (λj e=>h j (dG.1 e)),lQ,List.any_eq_not_all_not,Bool.not_not];congr 1;funext q;simp[Gh,tZ]
theorem Kk(H:MH)(b:Nat)(w:World)(hb:aG w b (fF H) 45)(h:FK w H)(U:aR (cK H.fi H.ct)=0)(L:bV H.dk=0) :
  Calls Tryz.prog 128 #[.pointer (some ⟨b,0,none⟩)] w λr w'=>r = .returned (.bool (trimB H.ma))/\Below w.heap.size w w':=by
 have kb:=@run_makeMap Tryz.prog;have kq:H.fi.length<=5:=by simpa[cK]using(lZ U).1
 have kd:Hid (∀p∈H.fi,p.l.length<=12/\∀x∈p.l,-1<=x/\x<80):=ae (λp F=>by obtain⟨h1,h2,h3,h4⟩:=zP U p.fi (eU.2 ⟨p,F,rfl⟩);have h5:=yC (n:=p.fi.n) h2;have h6:=(lZ U).2.2;refine⟨by have h7:(p.l.length:Int)=fw p.fi.n:=h3;omega,λx C=>⟨(h4 x C).1,by have:=(h4 x C).2;omega⟩⟩);obtain⟨kk,h9⟩:=Ia L;have h8:Hid (∀q∈H.dk.queue,-9223372036854775808<=q.1/\q.1<=9223372036854775807):=ae (λq I=>by obtain⟨i,hi,rfl⟩:=jM.1 I;have:=GQ L i hi;omega);have H0:=ae U;have HD:=ae L;clear U L;have O:=ae (Bi H.fi H.ct);go_enter func128,ntmps128;go_upto_region 2 with(fail);refine iG (λW=>Code.wp _ _ _ _ W) λw2 hF hC hw => ?_;have v:Below w.heap.size w w2:=ag ((Below.refl _ _).alloc (az _) _) hF;have hG:pz w2 w.heap.size 0 (tZ (((H.fi.take 0).map PF.fi).flatMap Fi.b)):=(pz.made w).below hF;have hg : aG w2 (w.heap.size+1) #[.map (some w.heap.size)] 222:=by have e:(w.alloc (Obj.map #[] 0)).heap.size=w.heap.size+1:=Dq _;rw[e]at hC;exact hC
 obtain⟨D,hH⟩:∃g,g=w.heap.size:=⟨_,rfl⟩;have hR:Hid (w.heap.size<=D):=ae (by omega);rw[<-hH]at hG hg ⊢;rw[<-hH]at hR;have kp:w.heap.size<=D:=by omega
 clear hF hC hw kb hH hR;have hB:=hb.ext v;have u:=hB.cell;unfold fF at u;have H5:(H.fi.length:Int)<=5:=by omega
 go_upto_region 3 with(fail);clear u hB
 go_loopw [17] (fun i wr => ∃(q n:Nat),q<=H.fi.length/\i = .int .i64 q/\n<=12*q/\Below w.heap.size w wr/\aG wr (D+1) #[.map (some D)] 222/\pz wr D n (tZ (((H.fi.take q).map PF.fi).flatMap Fi.b))) (fun i _=>H.fi.length-(intOf i).toNat)
 case atStart=>exact⟨0,0,bq _,rfl,az _,v,hg,hG⟩
 case round=>
  clear v hg hG;obtain⟨q,n,I,rfl,hn,c,C,A⟩:=hrel
  by_cases R:q<H.fi.length
  .obtain⟨bf,of,ki,t⟩:=kE kR (by decide) (h.below c).st.rd q R;obtain⟨p,F⟩:∃p,H.fi[q]?=some p:=⟨_,aF R⟩;rw[show H.fi[q]=p from(cz.1 F).2]at t;have hr:=(h.below c).st.good p (bS F);obtain⟨kj,hN⟩:=kd.out p (bS F);have hY:=ae (take_at F);have hZ:(q:Int)<(H.fi.length:Int):=by omega
   generalize hseen:((H.fi.take q).map PF.fi).flatMap Fi.b=seen at A;have hv:=ae hseen;have hL:=ae hN;clear hseen F hN;rw[ki]
   go_wp2_with (first | (refine ay _ _ rfl bf (of+q*2) rfl rfl _ t _ underlying101 rfl file_size ?_) | (refine aK rfl _ _ _ rfl (qF p) rfl rfl rfl file_size (rO p) ?_))
   intro w3 f V;have o:=ag c f;have N:=C.ext f;have K:=A.below f;have Z:=hr.below f;have kn:=ae c.size;have kl:=ae C.lt;clear c C A f t hr;have hT:=V.cell;unfold qF at hT;have hV:pz w3 D n (tZ (seen++p.l.take 0)):=by simpa using K
   have ko:=Z.le;have ka:=Z.mx;have s:=Z.rd;unfold maxLen at ka;clear K Z;go_upto_region 6 with(fail);clear hT V
   go_loopw [24] (fun i wr => ∃(j m:Nat),j<=p.l.length/\i = .int .i64 j/\m<=n+j/\Below w.heap.size w wr/\aG wr (D+1) #[.map (some D)] 222/\pz wr D m (tZ (seen++p.l.take j))/\eB wr p.a (p.l.map gB)) (fun i _=>p.l.length-(intOf i).toNat)
   case atStart=>exact⟨0,n,bq _,rfl,az _,o,N,hV,s⟩
   case round=>
    clear o N hV s;obtain⟨j,m,J,rfl,hm,c,C,A,s⟩:=hrel
    by_cases S:j<p.l.length
    .obtain⟨x,hX⟩:∃x,p.l[j]?=some x:=⟨p.l[j],aF S⟩;obtain⟨b2,off2,hD,hc⟩:=kD s j S;rw[show p.l[j]=x from(cz.1 hX).2]at hc;have hI:=ae (take_at hX);have km:=hL.out x (bS hX);have hA:=ae s;have hO:=ae hD;have hQ : (j:Int)<(p.l.length:Int):=by omega
     have hS:=C.cell;rw[hD];clear hX s hD;generalize hw:seen++p.l.take j=seen2 at A;have hJ : Hid (seen++p.l.take (j+1)=seen2++[x]):=ae (by rw[hI.out,<-jN,hw]);clear hw
     go_wp2_with (refine xn A (by omega) rfl _ _ _ rfl rfl x rfl rfl (by omega) ?_)
     intro w6 hU z;rw[Er,<-hJ.out] at hU;have kg:=c.grown z c.size oG0;have hW:=C.grown z (λe=>by have:=aM e;omega);have hK:=A.rdv hA.out z;clear c C A z hS hc hA;go_wp2;go_roundw
     case rel=>exact⟨j+1,m+1,by omega,by go_num,by omega,kg,hW,hU,by rw[<-hO.out];exact hK⟩
     case measure=>simp[intOf];omega
    have hQ : ¬(j:Int)<(p.l.length:Int):=by omega
    rw[jD (by omega)]at A;have Y : pz wr D m (tZ (((H.fi.take (q+1)).map PF.fi).flatMap Fi.b)):=by rw[hY.out,jJ,fI,hv.out];simpa[PF.fi]using A
    clear A s;go_wp2;go_roundw
    case rel=>exact⟨q+1,m,by omega,by go_num,by omega,c,C,Y⟩
    case measure=>simp[intOf];omega
  have hZ:¬(q:Int)<(H.fi.length:Int):=by omega
  rw[jD (by omega)]at A;have Y : pz wr D n (tZ (kJ H.ma.st)):=A;clear A;have O:=hb.ext c;have u:=O.cell;unfold fF at u;go_upto_region 12 with(fail);clear u O
  go_loopw [38] (fun i wr => ∃(k:Nat),k<=H.dk.blocks.length/\i = .int .i64 k/\Below w.heap.size w wr/\aG wr (D+1) #[.map (some D)] 222/\pz wr D n (tZ (kJ H.ma.st))/\Hid (∀j:Nat,j<k->(decide ((j:Int)∈kJ H.ma.st)||decide (H.dk.blocks.getD j zPg=zPg))=true)) (fun i _=>H.dk.blocks.length-(intOf i).toNat)
  case atStart=>exact⟨0,bq _,rfl,c,C,Y,ae λj J=>absurd J (fq _)⟩
  case round=>
   clear c C Y;obtain⟨k,hk,rfl,c,C,A,d⟩:=hrel
   by_cases G:k<H.dk.blocks.length
   .obtain⟨bd,od,ke,t⟩:=kE nM (by decide) (h.below c).dk.rb k G;have kc:(k:Int)<(H.dk.blocks.length:Int):=by omega
    have Q:Hid (H.dk.blocks.getD k zPg=H.dk.blocks[k]):=ae (by rw[aY,aF G];rfl);generalize hP:H.dk.blocks[k]=P at t Q;clear hP;rw[ke]
    go_wp2_with (first | (refine ay _ _ rfl bd (od+k*8) rfl rfl _ t _ underlying58 rfl psize ?_) | (refine aK rfl _ _ _ rfl (eQ P) rfl rfl rfl psize (fM _) ?_))
    intro w3 f px3;have o:=ag c f;have N:=C.ext f;have K:=A.below f;clear c C A f t;have hS:=N.cell;have hl:=K.look k (by omega);have kf:=px3.cell;rw[Du]at kf;cases hu:tZ (kJ H.ma.st) (k:Int)with
    | true=>
     rw[hu]at hl;have y:Hid (∀j:Nat,j<k+1->(decide ((j:Int)∈kJ H.ma.st)||decide (H.dk.blocks.getD j zPg=zPg))=true):=ae λj J=>by
      by_cases e:j=k
      .subst e;rw[show decide ((j:Int)∈kJ H.ma.st)=true from hu];rfl
      .exact d.out j (by omega)
     clear hu d;go_wp2;go_roundw
     case rel=>exact⟨k+1,by omega,by go_num,o,N,K,y⟩
     case measure=>simp[intOf];omega
    | false=>
     rw[hu]at hl;have hE:∀W,(Op.equalIn 10000 58 (.agg #[.int .u8 P[0].toNat,.int .u8 P[1].toNat,.int .u8 P[2].toNat,.int .u8 P[3].toNat,.int .u8 P[4].toNat,.int .u8 P[5].toNat,.int .u8 P[6].toNat,.int .u8 P[7].toNat]) (.agg #[.int .u8 0,.int .u8 0,.int .u8 0,.int .u8 0,.int .u8 0,.int .u8 0,.int .u8 0,.int .u8 0])).run Tryz.prog W = .ok (P==zPg) W:=λW=>Yg P zPg W
     by_cases E:P=zPg
     .have y:Hid (∀j:Nat,j<k+1->(decide ((j:Int)∈kJ H.ma.st)||decide (H.dk.blocks.getD j zPg=zPg))=true):=ae λj J=>by
       by_cases e:j=k
       .subst e;rw[Q.out,decide_eq_true E,Jp]
       .exact d.out j (by omega)
      have T:(P==zPg)=true:=by rw[E];exact beq_self_eq_true _
      rw[T] at hE;clear hu d T E Q;go_wp2;go_roundw
      case rel=>exact⟨k+1,by omega,by go_num,o,N,K,y⟩
      case measure=>simp[intOf];omega
     have T:(P==zPg)=false:=by rw[beq_eq_false_iff_ne];exact E
     have I:Hid (trimB H.ma=false):=ae (RJ (k:=k) G (by show(decide ((k:Int)∈kJ H.ma.st)||decide (H.dk.blocks.getD k zPg=zPg))=false;rw[Q.out,decide_eq_false E,show decide ((k:Int)∈kJ H.ma.st)=false from hu];rfl));rw[T]at hE;clear hu d T E Q;go_wp2;go_ret;rw[I.out];exact⟨rfl,o⟩
   have kc:¬(k:Int)<(H.dk.blocks.length:Int):=by omega
   have I:Hid (trimB H.ma = !(H.dk.queue.any (Gh (tZ (kJ H.ma.st))))):=ae (Uh λj J=>d.out j (by have:j<H.dk.blocks.length:=J;omega));have O:=hb.ext c;have u:=O.cell;unfold fF at u;have L:=(h.below c).dk;clear d
   go_wp2_with fail
   refine(Ol H.dk.queue H.dq H.cdq _ L.rq (by omega) (D+1) D n (tZ (kJ H.ma.st)) C A h8.out).mono ?_;rintro r w4 ⟨rfl,kh⟩;go_wp2;go_ret;rw[I.out];exact⟨rfl,ag c kh⟩
end Go.Proofs.YthihaopabbpalaaGreat