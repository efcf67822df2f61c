import Derived.Test.YtpaeabelhnnbiaaGreatW4
import Derived.BigQuiet
import Derived.Deep.OwnRows
import Derived.Deep.DeepCutAuto
import Derived.BigRegion
set_option linter.unusedSimpArgs false
set_option linter.unusedVariables false
set_option maxHeartbeats 4000000
set_option maxRecDepth 100000
namespace Go.Proofs.YtpaeabelhnnbiaaGreat
open _root_.Go.Proofs.Tryz
open Go.RowKit Go.Maps Pw
variable {P:Program} {T e t:TypeId} {a:Option Addr} {b c g i j k p:Nat} {cs:Array Value} {l:List Int} {m m':Ma} {n:Int} {o:Oper} {w w':World} {x:Operand} {ρ:Operand → Value}
theorem Dp (h:Rt m) {x:Nat} (hx:x<m.m.fs.length) (hz:(aD m x).r=0):(∀c∈m.ca,c.k.toNat≠x)∧∀p n,(aL m p n).k=1→(aL m p n).n.toNat≠x:=by
 refine⟨fun c a e => ?_,fun p n hk e => ?_⟩
 ·have:=(h.ca.fr c a).1;rw[e] at this;omega
 have:=Bq h hk e;have:=h.cf x hx;omega
theorem DT (h:Rt m) (hc:Co m) {x:Nat} {g:Pg} {P:Page} {w:Bool} (hp:p<m.sp.length) (hn:0≤n∧n<64) (h0:(aL m p n).k=0) (hx:x<m.m.fs.length) (hz:(aD m x).r=0) (hg:fD m p n=some g) (hsh:g.sh=false) (hw:w=true→g.wr=true) :
  Rt (bE (setFr m x (aZ P (-1) 0)) p n ⟨1,x,w⟩)∧Co (bE (setFr m x (aZ P (-1) 0)) p n ⟨1,x,w⟩)∧yf (WP p n) m (bE (setFr m x (aZ P (-1) 0)) p n ⟨1,x,w⟩)∧iM (bE (setFr m x (aZ P (-1) 0)) p n ⟨1,x,w⟩) p n=(P,true,0) ∧
   ∀q j,aL (bE (setFr m x (aZ P (-1) 0)) p n ⟨1,x,w⟩) q j=if q=p∧j=n then ⟨1,x,w⟩ else aL m q j:=by
 have u:bO (aZ P (-1) 0)=0:=by rw[dC];exact⟨⟨by show (0:Int)≤1;decide,by show (1:Int)≤1000;decide,by show (-1:Int)≤-1;decide,by show (-1:Int)<5;decide,by show (0:Int)≤0;decide,by show (0:Int)<12;decide⟩,fun (e:(1:Int)=0)=>absurd e (by decide),fun _=>rfl⟩
 have z:gV ⟨1,x,w⟩=0:=(dS _).2 (.inr (.inl ⟨rfl,by show (0:Int)≤x;omega,by have:=((dZ _).1 h.pt.fr).1;show (x:Int)<40;omega⟩));have hh:=Dp h hx hz;obtain⟨a1,a2⟩:=Dv (X:=aZ P (-1) 0) (x:=⟨1,x,w⟩) (g:=g) h hc hp hn h0 hx rfl rfl u (by rw[hz];rfl) (fun h'=>absurd hz h') (fun _=>⟨by show (-1:Int)<0;decide,rfl⟩) (fun _ q j l hb=>absurd hb (hh.2 q j l)) hg ⟨fun (e:(0:Int)≤-1)=>absurd e (by decide),fun e=>(by rw[hsh] at e;cases e),hw,fun _ (e:(0:Int)≤-1)=>absurd e (by decide),fun _ _=>by show (1:Int)≤1;decide⟩;obtain⟨s0,_,_⟩:=iX (k:=⟨setFr m x (aZ P (-1) 0),0⟩) (p:=p) (n:=n) (x:=⟨1,x,w⟩) (h.pt.setFr u) hn z;have d:∀q j,aL (bE (setFr m x (aZ P (-1) 0)) p n ⟨1,x,w⟩) q j=if q=p∧j=n then ⟨1,x,w⟩ else aL m q j:=fun q j=>pX (m:=setFr m x (aZ P (-1) 0)) hp s0 q j;have o:∀y,aD (bE (setFr m x (aZ P (-1) 0)) p n ⟨1,x,w⟩) y=if y=x then aZ P (-1) 0 else aD m y:=fun y=>fJ hx y;have s:gZ m (setFr m x (aZ P (-1) 0)):=gZ.of rfl;have t:gZ m (bE (setFr m x (aZ P (-1) 0)) p n ⟨1,x,w⟩):=s.trans gZ.setTb;have i:∀a b,aR (bE (setFr m x (aZ P (-1) 0)) p n ⟨1,x,w⟩) a b=aR m a b:=by
  intro a b;rcases ko m a b with ⟨c,hl,hcm,hcf,hci⟩|⟨hl,hno⟩
  ·subst hcf;subst hci;rw[ed h.ca hcm,ed a1.ca hcm,o,if_neg (hh.1 c hcm)]
  ·rw[dY hno,dY (m:=bE (setFr m x (aZ P (-1) 0)) p n ⟨1,x,w⟩) hno];rfl
 refine⟨a1,a2,GM t (kY.refl _) (fun a b _=>i a b) fun q j y v hy => ?_,?_,d⟩
 ·rw[d,if_neg (show ¬(q=p∧j=n) from v)];refine oK h.pt.st (h.pt.pg hy).1 (kY.refl _) (fun a b _=>i a b) (fun l => ?_) (fun _=>⟨rfl,rfl⟩);have:=o (aL m q j).n.toNat;rw[if_neg (hh.2 q j l)] at this;exact⟨congrArg Fr.p this,congrArg Fr.f this⟩
 have ha:fD (bE (setFr m x (aZ P (-1) 0)) p n ⟨1,x,w⟩) p n=some g:=by
  have:fD (bE (setFr m x (aZ P (-1) 0)) p n ⟨1,x,w⟩) p n=fD m p n:=by unfold fD;rw[t.ar]
  rw[this,hg]
 rw[iE ha,d,if_pos ⟨rfl,rfl⟩];have:=o x;rw[if_pos rfl] at this;unfold sM;rw[if_pos rfl];have h2:gP (bE (setFr m x (aZ P (-1) 0)) p n ⟨1,x,w⟩) (x:Int)=aZ P (-1) 0:=this;show ((gP _ (x:Int)).p,decide ((gP _ (x:Int)).f<0),(0:Int))=_;rw[h2];rfl
theorem Uy (h:Rt m) (hc:Co m) {g:Pg} {c:Cc} {w:Bool} (hp:p<m.sp.length) (hn:0≤n∧n<64) (h0:(aL m p n).k=0) (hcm:c∈m.ca) (hg:fD m p n=some g) (hf:c.f=g.fi∧c.i=g.pg) (hw:w=true→g.sh=true∧g.wr=true) :
  Rt (bE (setFr m c.k.toNat (mD (aD m c.k.toNat))) p n ⟨1,c.k,w⟩)∧Co (bE (setFr m c.k.toNat (mD (aD m c.k.toNat))) p n ⟨1,c.k,w⟩)∧Ei m (bE (setFr m c.k.toNat (mD (aD m c.k.toNat))) p n ⟨1,c.k,w⟩) ∧
   ∀q j,aL (bE (setFr m c.k.toNat (mD (aD m c.k.toNat))) p n ⟨1,c.k,w⟩) q j=if q=p∧j=n then ⟨1,c.k,w⟩ else aL m q j:=by
 have z:=h.ca.lt c hcm;have hi:=h.ca.fr c hcm;have s:=h.ca.file c hcm;have a : c.k.toNat<m.m.fs.length:=by omega
 have hh:=h.fewR a;have t:bO (mD (aD m c.k.toNat))=0:=TM (h.pt.frE a) (by omega) (by omega);have u:gV ⟨1,c.k,w⟩=0:=(dS _).2 (.inr (.inl ⟨rfl,z.1,by have:=((dZ _).1 h.pt.fr).1;show c.k<40;omega⟩));have e1:(mD (aD m c.k.toNat)).f=(aD m c.k.toNat).f:=rfl;have e2:(mD (aD m c.k.toNat)).i=(aD m c.k.toNat).i:=rfl;have hd:=s.1.1;obtain⟨a1,a2⟩:=Dv (X:=mD (aD m c.k.toNat)) (x:=⟨1,c.k,w⟩) (f:=c.k.toNat) (g:=g) h hc hp hn h0 a rfl (by show c.k=_;omega) t rfl (fun _=>⟨rfl,rfl,rfl,rfl⟩) (fun h'=>by omega) (fun hx=>by omega) hg
  ⟨fun _=>⟨by omega,by omega⟩,fun _=>by omega,fun h'=>(hw h').2,fun h' _=>(hw h').1,fun _ hx=>by omega⟩
 obtain⟨s0,_,_⟩:=iX (k:=⟨setFr m c.k.toNat (mD (aD m c.k.toNat)),0⟩) (p:=p) (n:=n) (x:=⟨1,c.k,w⟩) (h.pt.setFr t) hn u;have b:∀q j,aL (bE (setFr m c.k.toNat (mD (aD m c.k.toNat))) p n ⟨1,c.k,w⟩) q j=if q=p∧j=n then ⟨1,c.k,w⟩ else aL m q j:=fun q j=>pX (m:=setFr m c.k.toNat (mD (aD m c.k.toNat))) hp s0 q j;have d:∀y,(aD (bE (setFr m c.k.toNat (mD (aD m c.k.toNat))) p n ⟨1,c.k,w⟩) y).p=(aD m y).p∧(aD (bE (setFr m c.k.toNat (mD (aD m c.k.toNat))) p n ⟨1,c.k,w⟩) y).f=(aD m y).f:=fun y=>by
  have:aD (bE (setFr m c.k.toNat (mD (aD m c.k.toNat))) p n ⟨1,c.k,w⟩) y=if y=c.k.toNat then mD (aD m c.k.toNat) else aD m y:=fJ a y;rw[this]
  by_cases e:y=c.k.toNat
  ·rw[if_pos e,e];exact⟨rfl,rfl⟩
  ·rw[if_neg e];exact⟨rfl,rfl⟩
 have o:gZ m (setFr m c.k.toNat (mD (aD m c.k.toNat))):=gZ.of rfl;have l:gZ m (bE (setFr m c.k.toNat (mD (aD m c.k.toNat))) p n ⟨1,c.k,w⟩):=o.trans gZ.setTb;refine⟨a1,a2,⟨l,rfl,fun _=>rfl,fun _=>rfl,fun q j => ?_,fun f i _=>Fv (m:=m) (m':=bE (setFr m c.k.toNat (mD (aD m c.k.toNat))) p n ⟨1,c.k,w⟩) rfl rfl rfl (fun x=>(d x).1) f i⟩,b⟩
 by_cases e:q=p∧j=n
 ·obtain⟨rfl,rfl⟩:=e;have v:fD (bE (setFr m c.k.toNat (mD (aD m c.k.toNat))) q j ⟨1,c.k,w⟩) q j=some g:=by
   have:fD (bE (setFr m c.k.toNat (mD (aD m c.k.toNat))) q j ⟨1,c.k,w⟩) q j=fD m q j:=by unfold fD;rw[l.ar]
   rw[this,hg]
  rw[iE v,iE hg,b,if_pos ⟨rfl,rfl⟩];unfold sM;rw[if_pos rfl,if_neg (by omega),if_neg (by omega),if_neg (by omega)];have r:=nV h.pt.st s;rw[hf.1,hf.2] at r;rw[if_neg r,←hf.1,←hf.2,ed h.ca hcm];have h1:=(d c.k.toNat).1;have h2:=(d c.k.toNat).2;have hb : (gP (bE (setFr m c.k.toNat (mD (aD m c.k.toNat))) q j ⟨1,c.k,w⟩) c.k).p=(aD m c.k.toNat).p:=h1;have ha : (gP (bE (setFr m c.k.toNat (mD (aD m c.k.toNat))) q j ⟨1,c.k,w⟩) c.k).f=(aD m c.k.toNat).f:=h2;show ((gP _ c.k).p,decide ((gP _ c.k).f<0),(0:Int))=_;rw[hb,ha,decide_eq_false (by omega)]
 refine zM rfl rfl rfl rfl d (l.ar q) ?_;rw[b,if_neg e];exact⟨rfl,rfl⟩
theorem zP (h:Rt m) (hc:Co m) (h' : Rt m') (hc' : Co m') {x:Nat} {X:Fr} (hx:x<m.m.fs.length) (hz:(aD m x).r=0) (st:m'.st=m.st) (dk:m'.dk=m.dk) (ca:m'.ca=m.ca) (hm:m'.m=(setFr m x X).m):Inv m m':=
 vV h hc h' hc' st dk ca fun c hcm=>by have h1:=(Dp h hx hz).1 c hcm;rw[uH hm,fJ hx,if_neg h1];exact⟨rfl,rfl⟩
theorem QT (h:Rt m) (hc:Co m) (h' : Rt m') (hc' : Co m') {x:Nat} (hx:x<m.m.fs.length) (st:m'.st=m.st) (dk:m'.dk=m.dk) (ca:m'.ca=m.ca) (hm:m'.m=(setFr m x (mD (aD m x))).m):Inv m m':=
 vV h hc h' hc' st dk ca fun c hcm=>by
  rw[uH hm,fJ hx]
  by_cases e:c.k.toNat=x
  ·rw[if_pos e,e];exact⟨rfl,rfl⟩
  ·rw[if_neg e];exact⟨rfl,rfl⟩
structure XF (m m' : Ma) (p:Nat) (n:Int) (g:Pg) (r:Int):Prop where
 rt:Rt m'
 co:Co m'
 vis:yf (WP p n) m m'
 len:m'.m.fs.length=m.m.fs.length
 sll:m'.sl.length=m.sl.length
 no:r<0→fe m.m.fs=0
 yes:0≤r→(aL m' p n).k=1∧(aL m' p n).n=r∧(iM m' p n).1=(iM m p n).1∧(iM m' p n).2.2=0∧(iM m p n).2.2=0∧(0≤g.fi→(iM m' p n).2.1=(iM m p n).2.1)
 keep:(aL m p n).k=1→m' = m∧r=(aL m p n).n
 inv:Inv m m'
theorem qF {g:Pg} (hg:fD m p n=some g) (hk:(aL m p n).k=1):iM m p n=((gP m (aL m p n).n).p,decide ((gP m (aL m p n).n).f<0),0):=by
 rw[iE hg];unfold sM;rw[if_pos hk]
theorem yB {k:Kp} (h:Rt k.m) (hc:Co k.m) {g:Pg} (hp:p<k.m.sp.length) (hg:fD k.m p n=some g) (hf:0≤g.fi→(aL k.m p n).k=0→mK k.m.st g.fi g.pg) :
  (fQ k p n (jc k.m p n)).1.e=k.e∧XF k.m (fQ k p n (jc k.m p n)).1.m p n g (fQ k p n (jc k.m p n)).2:=by
 obtain⟨g1,g2,g3,g4,g5,g6,g7⟩:=uD hg;have hb:=h.pt.pg hg;have hn:0≤n∧n<64:=hb.2.2.2.2.2;have hE:=(dS _).1 (mo h.pt p n);have v:∀P:Page,bO (aZ P (-1) 0)=0:=fun P=>by rw[dC];exact⟨⟨by show (0:Int)≤1;decide,by show (1:Int)≤1000;decide,by show (-1:Int)≤-1;decide,by show (-1:Int)<5;decide,by show (0:Int)≤0;decide,by show (0:Int)<12;decide⟩,fun (e:(1:Int)=0)=>absurd e (by decide),fun _=>rfl⟩
 have t:∀ {m:Ma} {x:Nat},aD m x=frZ→(aD m x).r=0:=fun e=>by rw[e];rfl
 have u:∀(x:Nat) (w:Bool),x<k.m.m.fs.length→gV ⟨1,x,w⟩=0:=fun x w hx=>(dS _).2 (.inr (.inl ⟨rfl,by show (0:Int)≤x;omega,by have:=((dZ _).1 h.pt.fr).1;show (x:Int)<40;omega⟩));unfold fQ;simp only
 by_cases k1:(aL k.m p n).k=1
 ·rw[if_pos k1];refine⟨rfl,h,hc,.refl _ _,rfl,rfl,fun h0=>by simp only at h0;omega,fun _=>⟨k1,rfl,rfl,?_,?_,fun _=>rfl⟩,fun _=>⟨rfl,rfl⟩,.refl _⟩
  ·show (iM k.m p n).2.2=0;rw[qF hg k1]
  ·rw[qF hg k1]
 rw[if_neg k1]
 by_cases k2:(aL k.m p n).k=2
 ·rw[if_pos k2];obtain⟨y,hy,hu⟩:=h.en p n (by omega);rw[hg] at hy;cases hy;have hJ:=hu.sw k2;have hs:(aL k.m p n).n.toNat<k.m.sl.length:=by omega
  have hd:(aL k.m p n).n=(((aL k.m p n).n.toNat:Nat):Int):=by omega
  have hq:aI k.m.sw (aL k.m p n).n=0:=iQ.2 ⟨h.pt.sw,by omega,by rw[h.pt.swl];omega⟩;rw[if_neg (by rw[hq];simp)];have l:iM k.m p n=(dN k.m.sw (aL k.m p n).n,true,0):=by rw[iE hg];unfold sM;rw[if_neg k1,if_pos k2,hq]
  rcases zb (k:=k) (p:=dN k.m.sw (aL k.m p n).n) (f:=-1) (i:=0) h hc (v _) with ⟨x,m1,o,hF,hx,hz,ht⟩|⟨m1,hF,ht,h0⟩
  ·rw[ht];simp only;rw[if_neg (by omega)];have b:aL m1 p n=aL k.m p n:=hF.ents p n (fun e=>absurd e k1);have q:fD m1 p n=some g:=(show fD m1 p n=fD k.m p n by unfold fD;rw[hF.vis.sk.ar]).trans hg;have hk:(aL k.m p n).n.toNat<m1.sl.length:=by rw[hF.sll];exact hs
   have hw:=hF.rt.fewS hk;have j:=lW (m:=m1) (p:=p) (n:=n) (by rw[b];omega);have hP:0<bU m1 2 ((aL k.m p n).n.toNat:Nat):=(kC (by decide)).2 ⟨p,n,j.1,j.2,by rw[b];exact k2,by rw[b];omega⟩;have hQ:=hF.rt.cs _ hk;have hC:bS m1.sl (((aL k.m p n).n.toNat:Nat):Int) (-1)=0:=by have e1:El m1.sl (((aL k.m p n).n.toNat:Nat):Int)=lC m1 (aL k.m p n).n.toNat:=rfl;unfold bS;rw[if_neg (by rw[hF.rt.pt.sl];simp),if_neg (by rw[e1];omega),if_neg (by rw[e1];omega)]
   have a:=EH hF.rt hF.co (p:=p) (n:=n) (s:=(aL k.m p n).n.toNat) (by rw[b];exact k2) (by rw[b];exact hd);have hH:bL (setFr m1 x (aZ (dN k.m.sw (aL k.m p n).n) (-1) 0)).sl (aL k.m p n).n (-1)=(setSl m1 (aL k.m p n).n.toNat (lC m1 (aL k.m p n).n.toNat + -1)).sl:=by unfold bL;rw[if_pos (by rw[hd];exact hC)];rfl
   rw[if_neg (by rw[hd];exact fun e=>e hC),hH];have hm:p<m1.sp.length:=j.1;obtain⟨b1,b2,b3,b4,b5⟩:=DT (P:=dN k.m.sw (aL k.m p n).n) (w:=(jc k.m p n).wr) (x:=x) (g:=g) (p:=p) (n:=n) a.rt a.co (by rw[a.vis.sk.len];exact hm) hn (by rw[a.ents,if_pos ⟨rfl,rfl⟩];rfl) (by rw[a.len];exact hx) (t (m:=m1) hz) (by
    have:fD (bE (setSl m1 (aL k.m p n).n.toNat (lC m1 (aL k.m p n).n.toNat + -1)) p n zEn) p n=fD m1 p n:=by unfold fD;rw[a.vis.sk.ar]
    rw[this,q]) hJ.2 (fun e=>by rw[←g4];exact e)
   have c:x<k.m.m.fs.length:=by rw[←hF.len];exact hx
   have ha:Pt (setFr (setSl m1 (aL k.m p n).n.toNat (lC m1 (aL k.m p n).n.toNat + -1)) x (aZ (dN k.m.sw (aL k.m p n).n) (-1) 0)):=(hF.rt.pt.setSl (by omega) (by omega)).setFr (v _);have hG:=Ky (m:=setFr (setSl m1 (aL k.m p n).n.toNat (lC m1 (aL k.m p n).n.toNat + -1)) x (aZ (dN k.m.sw (aL k.m p n).n) (-1) 0)) ha (p:=p) (n:=n) (x:=⟨1,x,(jc k.m p n).wr⟩) (y:=zEn) hm hn (u x _ c) (by decide);obtain⟨s0,c1,c2⟩:=iX (k:=⟨setFr (setSl m1 (aL k.m p n).n.toNat (lC m1 (aL k.m p n).n.toNat + -1)) x (aZ (dN k.m.sw (aL k.m p n).n) (-1) 0),k.e⟩) (p:=p) (n:=n) (x:=⟨1,x,(jc k.m p n).wr⟩) ha hn (u x _ c);have hv:dK ⟨{ setFr m1 x (aZ (dN k.m.sw (aL k.m p n).n) (-1) 0) with sl:=(setSl m1 (aL k.m p n).n.toNat (lC m1 (aL k.m p n).n.toNat + -1)).sl },k.e⟩ p n ⟨1,x,(jc k.m p n).wr⟩=⟨bE (setFr (bE (setSl m1 (aL k.m p n).n.toNat (lC m1 (aL k.m p n).n.toNat + -1)) p n zEn) x (aZ (dN k.m.sw (aL k.m p n).n) (-1) 0)) p n ⟨1,x,(jc k.m p n).wr⟩,k.e⟩:=by refine Eq.trans c1 (congrArg (fun m=>Kp.mk m k.e) ?_);exact hG.symm
   rw[hv];refine⟨rfl,b1,b2,((hF.vis.x _).trans a.vis).trans b3,?_,?_,fun h0=>by simp only at h0;omega,fun _ => ?_,fun e=>absurd e k1,(hF.inv.trans (a.inv hF.rt hF.co)).trans (zP a.rt a.co b1 b2 (x:=x) (X:=aZ (dN k.m.sw (aL k.m p n).n) (-1) 0) (by rw[a.len];exact hx) (t (m:=m1) hz) rfl rfl rfl rfl)⟩
   ·exact (dG.trans a.len).trans hF.len
   ·exact a.sll.trans hF.sll
   rw[b4,b5,if_pos ⟨rfl,rfl⟩,l];exact⟨rfl,rfl,rfl,rfl,rfl,fun _=>rfl⟩
  rw[ht];simp only;rw[if_pos (by decide)];exact⟨rfl,hF.rt,hF.co,hF.vis.x _,hF.len,hF.sll,fun _=>h0,fun h'=>absurd (show (0:Int)≤-1 from h') (by decide),fun e=>absurd e k1,hF.inv⟩
 rw[if_neg k2];have k0:(aL k.m p n).k=0:=by omega
 by_cases hfi:g.fi<0
 ·rw[g6,if_pos hfi];have hI:=(hb.2.2.2.2.1 hfi).1;have l:iM k.m p n=(zPg,false,0):=by rw[iE hg];unfold sM;rw[if_neg k1,if_neg k2,if_pos hfi]
  unfold VB;rcases zb (k:=k) (p:=zPg) (f:=-1) (i:=0) h hc (v _) with ⟨x,m1,o,hF,hx,hz,ht⟩|⟨m1,hF,ht,h0⟩
  ·rw[ht];simp only;rw[if_neg (by omega)];have b:aL m1 p n=aL k.m p n:=hF.ents p n (fun e=>absurd e k1);have q:fD m1 p n=some g:=(show fD m1 p n=fD k.m p n by unfold fD;rw[hF.vis.sk.ar]).trans hg;have c:x<k.m.m.fs.length:=by rw[←hF.len];exact hx
   obtain⟨b1,b2,b3,b4,b5⟩:=DT (P:=zPg) (w:=(jc k.m p n).wr) (x:=x) (g:=g) (p:=p) (n:=n) hF.rt hF.co (by rw[hF.vis.sk.len];exact hp) hn (by rw[b];exact k0) hx (t hz) q hI (fun e=>by rw[←g4];exact e);obtain⟨s0,c1,c2⟩:=iX (k:=⟨setFr m1 x (aZ zPg (-1) 0),k.e⟩) (p:=p) (n:=n) (x:=⟨1,x,(jc k.m p n).wr⟩) (hF.rt.pt.setFr (v _)) hn (u x _ c);rw[c1];refine⟨rfl,b1,b2,(hF.vis.x _).trans b3,dG.trans hF.len,hF.sll,fun h0=>by simp only at h0;omega,fun _ => ?_,fun e=>absurd e k1,hF.inv.trans (zP hF.rt hF.co b1 b2 (x:=x) (X:=aZ zPg (-1) 0) hx (t hz) rfl rfl rfl rfl)⟩;have b4' : iM (setTb (setFr m1 x (aZ zPg (-1) 0)) p (setT (bX (setFr m1 x (aZ zPg (-1) 0)) p).tb n ⟨1,x,(jc k.m p n).wr⟩)) p n=(zPg,true,0):=b4;have b5':=b5 p n;rw[if_pos ⟨rfl,rfl⟩] at b5';have b5'' : aL (setTb (setFr m1 x (aZ zPg (-1) 0)) p (setT (bX (setFr m1 x (aZ zPg (-1) 0)) p).tb n ⟨1,x,(jc k.m p n).wr⟩)) p n=⟨1,x,(jc k.m p n).wr⟩:=b5';simp only;rw[b4',b5'',l];exact⟨rfl,rfl,rfl,rfl,rfl,fun h'=>absurd h' (by omega)⟩
  rw[ht];simp only;rw[if_pos (by decide)];exact⟨rfl,hF.rt,hF.co,hF.vis.x _,hF.len,hF.sll,fun _=>h0,fun h'=>absurd (show (0:Int)≤-1 from h') (by decide),fun e=>absurd e k1,hF.inv⟩
 rw[g6,if_neg hfi];have hl:=g7 (by omega);rw[hl];have j:=hf (by omega) k0;obtain⟨he,hB⟩:=EK (k:=k) h hc j
 by_cases hr:(eQ k g.fi g.pg).2<0
 ·rw[if_pos hr];exact⟨he,hB.rt,hB.co,hB.vis.x _,hB.len,hB.sll,hB.no,fun h'=>absurd hr (by omega),fun e=>absurd e k1,hB.inv⟩
 rw[if_neg hr];have hh:=hB.yes (by omega);have hM:=hB.rt.ca.lt _ hh;have hO:=hB.rt.ca.fr _ hh;simp only at hM hO;generalize hK:eQ k g.fi g.pg=K at *
 have d : K.2.toNat<K.1.m.m.fs.length:=by omega
 have hw:=hB.rt.fewR d;obtain⟨a1,a2⟩:=xZ (k:=K.1) (f:=K.2.toNat) (n:=1) hB.rt.pt d (by omega) (by omega) (by omega);have hD:gD (aD K.1.m K.2.toNat) 1=mD (aD K.1.m K.2.toNat):=by unfold gD;rw[if_neg (by omega)];rfl
 rw[hD] at a1 a2;have hA:K.2=((K.2.toNat:Nat):Int):=by omega
 have hj : gV ⟨1,K.2,(jc k.m p n).sh&&(jc k.m p n).wr⟩=0:=by rw[hA];exact u _ _ (by rw[←hB.len];exact d)
 have b:aL K.1.m p n=aL k.m p n:=hB.ents p n k1;have q:fD K.1.m p n=some g:=(show fD K.1.m p n=fD k.m p n by unfold fD;rw[hB.vis.sk.ar]).trans hg;obtain⟨b1,b2,b3,b4⟩:=Uy (w:=(jc k.m p n).sh&&(jc k.m p n).wr) hB.rt hB.co (by rw[hB.vis.sk.len];exact hp) hn (by rw[b];exact k0) hh q ⟨rfl,rfl⟩ (fun e=>by rw[dh,g3,g4] at e;exact e);obtain⟨s0,c1,c2⟩:=iX (k:=⟨setFr K.1.m K.2.toNat (mD (aD K.1.m K.2.toNat)),K.1.e⟩) (p:=p) (n:=n) (x:=⟨1,K.2,(jc k.m p n).sh&&(jc k.m p n).wr⟩) a2 hn hj;have hN:fV K.1 K.2 1=⟨setFr K.1.m K.2.toNat (mD (aD K.1.m K.2.toNat)),K.1.e⟩:=by rw[←a1,←hA]
 rw[hN,c1];have z:=hB.vis.trans b3;have b4':=b4 p n;rw[if_pos ⟨rfl,rfl⟩] at b4';refine⟨he,b1,b2,z.x _,dG.trans hB.len,hB.sll,fun h'=>absurd h' hr,fun _ => ?_,fun e=>absurd e k1,hB.inv.trans (QT hB.rt hB.co b1 b2 (x:=K.2.toNat) d rfl rfl rfl rfl)⟩;have hs:=z.see p n;have hL : iM (setTb (setFr K.1.m K.2.toNat (mD (aD K.1.m K.2.toNat))) p (setT (bX (setFr K.1.m K.2.toNat (mD (aD K.1.m K.2.toNat))) p).tb n ⟨1,K.2,(jc k.m p n).sh&&(jc k.m p n).wr⟩)) p n=iM k.m p n:=hs;have b5:aL (setTb (setFr K.1.m K.2.toNat (mD (aD K.1.m K.2.toNat))) p (setT (bX (setFr K.1.m K.2.toNat (mD (aD K.1.m K.2.toNat))) p).tb n ⟨1,K.2,(jc k.m p n).sh&&(jc k.m p n).wr⟩)) p n=⟨1,K.2,(jc k.m p n).sh&&(jc k.m p n).wr⟩:=b4';simp only;have hi:(iM k.m p n).2.2=0:=by rw[iE hg];unfold sM;rw[if_neg k1,if_neg k2,if_neg hfi,if_neg (nV h.pt.st j)]
 rw[hL,b5];exact⟨rfl,rfl,rfl,hi,hi,fun _=>rfl⟩
theorem Less.zr (h:Rt m) (k:Less m m' p n) {x:Nat} (hz:(aD m x).r=0):(aD m' x).r=0:=by
 rcases fM x m.m.fs.length with hx|hx
 ·have h1:=h.cf x hx;have h2:=k.rt.cf x (by rw[k.len];exact hx);have h3:vk m' x=vk m x:=by unfold vk;rw[k.ca]
  have h4:¬0<bU m' 1 x:=fun hh=>by
   obtain⟨q,j,a1,a2,a3,a4⟩:=(kC (by decide)).1 hh;have h5:=k.ents q j
   by_cases e:q=p∧j=n
   ·rw[if_pos e] at h5;rw[h5] at a3;exact absurd a3 (by decide)
   rw[if_neg e] at h5;rw[h5] at a3 a4;have:=(kC (m:=m) (kd:=1) (i:=x) (by decide)).2 ⟨q,j,by have:=lW (m:=m) (p:=q) (n:=j) (by omega);exact this.1,a2,a3,a4⟩;omega
  omega
 ·rw[Gs (by rw[k.len];exact hx)];rfl
theorem Ti {x:Nat} (hx:x<m.m.fs.length) (hz:(aD m x).r=0):fe m.m.fs≠0:=fun e=>tV e hx hz
structure XH (m m' : Ma) (p:Nat) (n:Int) (g:Pg) (r:Int):Prop where
 rt:Rt m'
 co:Co m'
 vis:yf (WP p n) m m'
 len:m'.m.fs.length=m.m.fs.length
 sll:m'.sl.length=m.sl.length
 no:r<0→fe m.m.fs=0
 yes:0≤r→(aL m' p n).k=1∧(aL m' p n).n=r∧(aL m' p n).w=true∧(iM m' p n).1=(iM m p n).1∧(iM m' p n).2.2=0∧(g.sh=true→(iM m' p n).2.1=(iM m p n).2.1)∧(g.sh=false→(iM m' p n).2.1=true)
 inv:Inv m m'
theorem QD {k:Kp} (h:Rt k.m) (hc:Co k.m) {f:Int} {g:Pg} (hg:fD k.m p n=some g) (hk:(aL k.m p n).k=1) (hn:(aL k.m p n).n=f) (hw:g.wr=true) :
  (uG k p n f (jc k.m p n)).1.e=k.e∧XH k.m (uG k p n f (jc k.m p n)).1.m p n g (uG k p n f (jc k.m p n)).2:=by
 obtain⟨g1,g2,g3,g4,g5,g6,g7⟩:=uD hg;obtain⟨x,e1,hf,hr,hp,q,g0,v,hh⟩:=iG h hk;rw[hg] at v;cases v;have hd:f=(x:Int):=by omega
 subst hd;have d:gP k.m (x:Int)=aD k.m x:=rfl;have a:=qF hg hk;rw[hn,d] at a;unfold uG;simp only;rw[d]
 by_cases hcs:(jc k.m p n).sh=true∨(aD k.m x).f<0∧(aD k.m x).r=1
 ·rw[if_pos hcs];obtain⟨a1,a2,a3⟩:=LH h hc hk hn hg hw (hcs.imp (fun e=>by rw[←g3];exact e) id);have l:gV ⟨1,x,true⟩=0:=(dS _).2 (.inr (.inl ⟨rfl,by show (0:Int)≤x;omega,by have:=((dZ _).1 h.pt.fr).1;show (x:Int)<40;omega⟩));obtain⟨s0,c1,c2⟩:=iX (k:=k) (p:=p) (n:=n) (x:=⟨1,x,true⟩) h.pt q l;rw[c1];have j:=pX hp s0 p n;rw[if_pos ⟨rfl,rfl⟩] at j;have hs:iM (setTb k.m p (setT (bX k.m p).tb n ⟨1,x,true⟩)) p n=iM k.m p n:=a3.see p n;refine⟨rfl,a1,a2,a3.x _,rfl,rfl,fun h'=>absurd (show (x:Int)<0 from h') (by omega),fun _ => ?_,vV h hc a1 a2 rfl rfl rfl fun c _=>⟨rfl,rfl⟩⟩;simp only;rw[j,hs,a];refine⟨rfl,rfl,rfl,rfl,rfl,fun _=>rfl,fun b => ?_⟩;rcases hcs with hcs|hcs
  ·rw[g3,b] at hcs;cases hcs
  ·exact decide_eq_true hcs.1
 rw[if_neg hcs];have b:g.sh=false:=by
  cases e:g.sh with
  | false=>rfl
  | true=>exact absurd (.inl (by rw[g3,e])) hcs
 obtain⟨m1,d1,hL⟩:=EU h hc p n;rw[d1];have t:bO (aZ (aD k.m x).p (-1) 0)=0:=by rw[dC];exact⟨⟨by show (0:Int)≤1;decide,by show (1:Int)≤1000;decide,by show (-1:Int)≤-1;decide,by show (-1:Int)<5;decide,by show (0:Int)≤0;decide,by show (0:Int)<12;decide⟩,fun (e:(1:Int)=0)=>absurd e (by decide),fun _=>rfl⟩
 rcases zb (k:=⟨m1,k.e⟩) (p:=(aD k.m x).p) (f:=-1) (i:=0) hL.rt hL.co t with ⟨y,m2,o,hF,hy,hz,ht⟩|⟨m2,hF,ht,h0⟩
 ·rw[ht];simp only;rw[if_neg (by omega)];have z:aL m1 p n=zEn:=by rw[hL.ents,if_pos ⟨rfl,rfl⟩]
  have hi:aL m2 p n=zEn:=(hF.ents p n (fun e=>by have:(aL m1 p n).k=1:=e;rw[z] at this;exact absurd this (by decide))).trans z;have hb:fD m2 p n=some g:=by
   have:fD m2 p n=fD k.m p n:=by unfold fD;rw[hF.vis.sk.ar,show (bX (Kp.m ⟨m1,k.e⟩) p).ar=(bX k.m p).ar from hL.vis.sk.ar p]
   rw[this,hg]
  have u:m2.sp.length=k.m.sp.length:=hF.vis.sk.len.trans hL.vis.sk.len;have s:m2.m.fs.length=k.m.m.fs.length:=hF.len.trans hL.len;have l:gV ⟨1,y,true⟩=0:=(dS _).2 (.inr (.inl ⟨rfl,by show (0:Int)≤y;omega,by have:=((dZ _).1 h.pt.fr).1;show (y:Int)<40;omega⟩));obtain⟨b1,b2,b3,b4,b5⟩:=DT (P:=(aD k.m x).p) (w:=true) (x:=y) (g:=g) (p:=p) (n:=n) hF.rt hF.co (by rw[u];exact hp) q (by rw[hi];rfl) hy (by rw[hz];rfl) hb b (fun _=>hw);obtain⟨s0,c1,c2⟩:=iX (k:=⟨setFr m2 y (aZ (aD k.m x).p (-1) 0),k.e⟩) (p:=p) (n:=n) (x:=⟨1,y,true⟩) (hF.rt.pt.setFr t) q l;rw[c1];have b4' : iM (setTb (setFr m2 y (aZ (aD k.m x).p (-1) 0)) p (setT (bX (setFr m2 y (aZ (aD k.m x).p (-1) 0)) p).tb n ⟨1,y,true⟩)) p n=((aD k.m x).p,true,0):=b4;have b5':=b5 p n;rw[if_pos ⟨rfl,rfl⟩] at b5';have b5'' : aL (setTb (setFr m2 y (aZ (aD k.m x).p (-1) 0)) p (setT (bX (setFr m2 y (aZ (aD k.m x).p (-1) 0)) p).tb n ⟨1,y,true⟩)) p n=⟨1,y,true⟩:=b5';refine⟨rfl,b1,b2,(hL.vis.trans (hF.vis.x _)).trans b3,dG.trans s,hF.sll.trans hL.sll,fun h'=>absurd (show (y:Int)<0 from h') (by omega),fun _ => ?_,((hL.inv h hc).trans hF.inv).trans (zP hF.rt hF.co b1 b2 (x:=y) (X:=aZ (aD k.m x).p (-1) 0) hy (by rw[hz];rfl) rfl rfl rfl rfl)⟩;simp only;rw[b4',b5'',a];exact⟨rfl,rfl,rfl,rfl,rfl,fun e=>(by rw[b] at e;cases e),fun _=>rfl⟩
 rw[ht];simp only;rw[if_pos (by decide)];refine⟨rfl,hF.rt,hF.co,hL.vis.trans (hF.vis.x _),hF.len.trans hL.len,hF.sll.trans hL.sll,fun _ => ?_,fun h'=>absurd (show (0:Int)≤-1 from h') (by decide),(hL.inv h hc).trans hF.inv⟩
 by_cases e:fe k.m.m.fs=0
 ·exact e
 obtain⟨y,hy,ha⟩:=NE e;exact absurd h0 (Ti (m:=m1) (by rw[hL.len];exact hy) (hL.zr h ha))
structure Vy (m m' : Ma) (p:Nat) (n:Int) (w:Bool) (g:Pg) (r:Int):Prop where
 rt:Rt m'
 co:Co m'
 vis:yf (WP p n) m m'
 len:m'.m.fs.length=m.m.fs.length
 sll:m'.sl.length=m.sl.length
 k1:(aL m' p n).k=1
 en:(aL m' p n).n=r
 ew:w=true→(aL m' p n).w=true
 see:iM m' p n=((iM m p n).1,(iM m' p n).2.1,0)
 was:(iM m p n).2.2=0
 same:w=false∨g.sh=true→0≤g.fi→(iM m' p n).2.1=(iM m p n).2.1
 own:w=true→g.sh=false→(iM m' p n).2.1=true
 inv:(w&&g.sh)=false→Inv m m'
theorem BH {g:Pg} {w:Bool} (hg:fD m p n=some g):mJ m p n w=0↔(w=true→g.wr=true)∧(w=false→g.rd=true):=by
 obtain⟨g1,g2,g3,g4,g5,g6,g7⟩:=uD hg;unfold mJ;rw[if_neg (by omega),g4,g5];cases w<;>cases g.wr<;>cases g.rd<;>decide
theorem KA (h:Rt m) (hc:Co m) {w:Bool} {g:Pg} (hp:p<m.sp.length) (hg:fD m p n=some g) (hw:w=true→g.wr=true) (hf:0≤g.fi→(aL m p n).k=0→mK m.st g.fi g.pg) :
  (kK m p n w).1.e=0∧(0≤(kK m p n w).2→Vy m (kK m p n w).1.m p n w g (kK m p n w).2)∧((kK m p n w).2<0→fe m.m.fs=0∨fe (fQ ⟨m,0⟩ p n (jc m p n)).1.m.m.fs=0):=by
 obtain⟨he,hB⟩:=yB (k:=⟨m,0⟩) h hc hp hg hf;unfold kK;simp only at he hB ⊢;generalize hR:fQ ⟨m,0⟩ p n (jc m p n)=R at *
 by_cases hcnd:0≤R.2∧w=true∧(aL R.1.m p n).w=false
 ·rw[if_pos hcnd];obtain⟨y1,y2,y3,y4,y6,y5⟩:=hB.yes hcnd.1;have a:fD R.1.m p n=some g:=(show fD R.1.m p n=fD m p n by unfold fD;rw[hB.vis.sk.ar]).trans hg;have o:jc R.1.m p n=jc m p n:=by unfold jc;rw[hB.vis.sk.ar]
  have hO:=QD (k:=R.1) hB.rt hB.co a y1 y2 (hw hcnd.2.1);rw[o] at hO;obtain⟨l,hO⟩:=hO;refine⟨l.trans he,fun h0 => ?_,fun h0 => .inr (hO.no h0)⟩;obtain⟨z1,z2,z3,z4,z5,z6,z7⟩:=hO.yes h0;refine⟨hO.rt,hO.co,hB.vis.trans hO.vis,hO.len.trans hB.len,hO.sll.trans hB.sll,z1,z2,fun _=>z3,?_,y6,fun hs d => ?_,fun _ hs=>z7 hs,fun _=>hB.inv.trans hO.inv⟩
  ·rw[←y3,←z4,←z5]
  rcases hs with hs|hs
  ·rw[hcnd.2.1] at hs;cases hs
  ·rw[z6 hs,y5 d]
 rw[if_neg hcnd];refine⟨he,fun h0 => ?_,fun h0 => .inl (hB.no h0)⟩;obtain⟨y1,y2,y3,y4,y6,y5⟩:=hB.yes h0;have i:w=true→(aL R.1.m p n).w=true:=fun b=>by
  cases e:(aL R.1.m p n).w with
  | true=>rfl
  | false=>exact absurd ⟨h0,b,e⟩ hcnd
 refine⟨hB.rt,hB.co,hB.vis,hB.len,hB.sll,y1,y2,i,?_,y6,fun _ d=>y5 d,fun b hs => ?_,fun _=>hB.inv⟩
 ·rw[←y3,←y4]
 have a:fD R.1.m p n=some g:=(show fD R.1.m p n=fD m p n by unfold fD;rw[hB.vis.sk.ar]).trans hg;obtain⟨x,e1,s,hr,q,r,g0,j,c⟩:=iG hB.rt y1;rw[a] at j;cases j;obtain⟨f1,f2,f3,f4,f5⟩:=c;rw[qF a y1,e1];refine decide_eq_true ?_;show (aD R.1.m x).f<0
 by_cases hx0:0≤(aD R.1.m x).f
 ·have:=f4 (i b) hx0;rw[hs] at this;cases this
 ·omega
theorem Tw (h:Rt m) (hc:Co m) {w:Bool} {g:Pg} (hp:p<m.sp.length) (hg:fD m p n=some g) (hw:w=true→g.wr=true) (hf:0≤g.fi→(aL m p n).k=0→mK m.st g.fi g.pg):Inv m (kK m p n w).1.m:=by
 obtain⟨he,hB⟩:=yB (k:=⟨m,0⟩) h hc hp hg hf;unfold kK;simp only at he hB ⊢;generalize hR:fQ ⟨m,0⟩ p n (jc m p n)=R at *
 by_cases hcnd:0≤R.2∧w=true∧(aL R.1.m p n).w=false
 ·rw[if_pos hcnd];obtain⟨y1,y2,y3,y4,y6,y5⟩:=hB.yes hcnd.1;have a:fD R.1.m p n=some g:=(show fD R.1.m p n=fD m p n by unfold fD;rw[hB.vis.sk.ar]).trans hg;have b:jc R.1.m p n=jc m p n:=by unfold jc;rw[hB.vis.sk.ar]
  have hO:=QD (k:=R.1) hB.rt hB.co a y1 y2 (hw hcnd.2.1);rw[b] at hO;exact hB.inv.trans hO.2.inv
 ·rw[if_neg hcnd];exact hB.inv
theorem Vy.mark {w:Bool} {g:Pg} {r e:Int} (h:Vy m m' p n w g r) (hg:fD m p n=some g):Vy m (Fh ⟨m',e⟩ r (w&&g.sh)).m p n w g r:=by
 have l:fD m' p n=some g:=(show fD m' p n=fD m p n by unfold fD;rw[h.vis.sk.ar]).trans hg;obtain⟨x,e1,a,hr,q,s,g0,d,b⟩:=iG h.rt h.k1;rw[l] at d;cases d;have j:r=(x:Int):=by rw[←h.en,e1]
 subst j;obtain⟨a1,a2,a3⟩:=Nh h.rt h.co a hr;have go:∀m2:Ma,Rt m2→Co m2→Ei m' m2→m2.m.fs.length=m'.m.fs.length→m2.sl.length=m'.sl.length→aL m2 p n=aL m' p n→((w&&g.sh)=false→Inv m' m2)→Vy m m2 p n w g x:=fun m2 c1 c2 c3 c4 c5 c6 c7=>
  ⟨c1,c2,h.vis.trans (c3.x _),c4.trans h.len,c5.trans h.sll,by rw[c6];exact h.k1,by rw[c6];exact h.en,by rw[c6];exact h.ew,by rw[c3.see];exact h.see,h.was,by rw[c3.see];exact h.same,by rw[c3.see];exact h.own,fun e=>(h.inv e).trans (c7 e)⟩
 unfold Fh;simp only[bD]
 by_cases hd:(w&&g.sh)=true
 ·rw[if_pos hd];rw[dh] at hd;have o:0≤(aD m' x).f:=b.2.1 hd.2;have i:aD (setFr m' x (jT (aD m' x))) x=jT (aD m' x):=by rw[fJ a,if_pos rfl]
  obtain⟨b1,b2,b3⟩:=RZ a1 a2 (g:=x) (by rw[dG];exact a) (by rw[i];exact hr) (by rw[i];exact o);exact go _ b1 b2 (a3.trans b3) (dG.trans dG) rfl rfl (fun e=>by rw[hd.1,hd.2] at e;cases e)
 rw[if_neg hd];exact go _ a1 a2 a3 dG rfl rfl (fun _=>vV h.rt h.co a1 a2 rfl rfl rfl fun c _=>by
  rw[fJ a]
  by_cases e:c.k.toNat=x
  ·rw[if_pos e,e];exact⟨rfl,rfl⟩
  ·rw[if_neg e];exact⟨rfl,rfl⟩)
theorem Ou : (Tryz.prog.info? 186).map (·.size)=some 9:=by kernel_rfl
def Eo (f:Int→Bool) (q:Int × Page):Bool:=!(f q.1)
theorem LY (q:Int × Page) (g gm n:Nat) (f:Int→Bool) (w:World) (hg:aJ w g #[.map (some gm)] 201) (hM:mU w gm n f) (hq : -9223372036854775808≤q.1∧q.1≤9223372036854775807) :
  Calls Tryz.prog 146 #[.agg (Uv q),.pointer (some ⟨g,0,none⟩)] w fun r w'=>r = .returned (.bool (Eo f q))∧Below w.heap.size w w':=by
 go_enter func146,ntmps146;go_upto_region 1 with (fail);refine jl (fun W=>Code.wp _ _ _ _ W) fun W0 a b c => ?_;clear c;have e:=(hg.ext a).cell 0;have h:=b.cell;have d:=(hM.below a).look q.1 hq;have q0:(Uv q)[0]?=some (.int .i64 q.1):=rfl;go_wp2;go_ret;exact⟨rfl,a⟩
theorem Sn {l:List (Int × Page)} (h:eB w a (l.flatMap Eg)) (k:Nat) (hk:k<l.length):∃b off,a=some ⟨b,off,none⟩∧eB w (some ⟨b,off+k*9,none⟩) (Eg l[k]):=pG wC (by decide) h k hk
theorem Lb (l:List (Int × Page)) (a:Option Addr) (c:Nat) (w:World) (hrd:eB w a (l.flatMap Eg)) (hl:l.length≤9223372036854775807) (g gm n:Nat) (f:Int→Bool) (hg:aJ w g #[.map (some gm)] 201) (hM:mU w gm n f) (hq:∀q∈l,-9223372036854775808≤q.1∧q.1≤9223372036854775807) :
  Calls Tryz.prog 187 #[.slice a l.length c,.func (.func 146) #[] #[.pointer (some ⟨g,0,none⟩)]] w fun e w'=>e = .returned (.int .i64 (idx (Eo f) l))∧Below w.heap.size w w':=by
 go_enter func187,ntmps187;go_wp2
 go_loopw [8] (fun i wr => ∃k:Nat,k≤l.length∧i = .int .i64 k∧Below w.heap.size w wr∧∀i (h:i<l.length),i<k→(Eo f) l[i]=false) (fun i _=>l.length-(intOf i).toNat)
 case atStart=>exact⟨0,bB _,rfl,Below.refl _ _,fun i _ h=>absurd h (gL _)⟩
 case round=>
  obtain⟨k,hk,rfl,j,p⟩:=hrel;have hp:=ae p;clear p
  by_cases hlt:k<l.length
  ·obtain⟨b,off,rfl,s⟩:=Sn (hrd.below j) k hlt
   go_wp2_with (refine aC _ _ rfl b (off+k*9) rfl rfl _ s _ underlying186 rfl Ou ?_)
   refine (LY l[k] g gm n f _ (hg.ext j) (hM.below j) (hq _ (eZ hlt))).mono ?_;rintro e w2 ⟨rfl,r⟩;have m:=ah j r;clear r;cases hpk:(Eo f) l[k]
   ·have o:=ae hpk;clear hpk;go_wp2;go_roundw
    case rel=>exact⟨k+1,by omega,by go_num,m,nH hp.out hlt o.out⟩
    case measure=>simp[intOf];omega
   have d:=ae (pz (Eo f) l k hlt hp.out hpk);clear hpk;go_wp2;go_ret;exact⟨bi d.out.symm,m⟩
  have d:=ae (ky (Eo f) l fun i h=>hp.out i h (by omega));go_wp2;go_ret;exact⟨bi d.out.symm,j⟩
theorem KF (l:List (Int × Page)) (a:Option Addr) (c:Nat) (w:World) (hrd:eB w a (l.flatMap Eg)) (hl:l.length≤9223372036854775807) (g gm n:Nat) (f:Int→Bool) (hg:aJ w g #[.map (some gm)] 201) (hM:mU w gm n f) (hq:∀q∈l,-9223372036854775808≤q.1∧q.1≤9223372036854775807) :
  Calls Tryz.prog 145 #[.slice a l.length c,.func (.func 146) #[] #[.pointer (some ⟨g,0,none⟩)]] w fun e w'=>e = .returned (.bool (l.any (Eo f)))∧Below w.heap.size w w':=by
 go_enter func145,ntmps145
 go_wp2_with fail
 refine (Lb l a c _ hrd hl g gm n f hg hM hq).mono ?_;rintro e w2 ⟨rfl,b⟩;go_wp2;go_ret;exact⟨bK (pW _ _),b⟩
theorem RO (hk:k<m.dk.blocks.length) (h:(decide ((k:Int)∈ig m.st)||decide (m.dk.blocks.getD k zPg=zPg))=false):trimB m=false:=by
 unfold trimB;rw[Bh];refine .inl (List.all_eq_false.2 ⟨k,bV.2 hk,?_⟩);rw[h];decide
theorem Qc (h:∀j:Nat,j<m.dk.blocks.length→(decide ((j:Int)∈ig m.st)||decide (m.dk.blocks.getD j zPg=zPg))=true):trimB m = !(m.dk.queue.any (Eo (qX (ig m.st)))):=by
 unfold trimB;rw[cK.2 (fun j hj=>h j (bV.1 hj)),kF,List.any_eq_not_all_not,Bool.not_not];congr 1;funext q;simp[Eo,qX]
theorem iT (h:aJ w b cs T) (hg:w.grownBy w' (some g)) (hne:g≠b):aJ w' b cs T:=h.grown hg (fun e=>hne (aS e))
theorem IQ (H:MH) (b:Nat) (w:World) (hb:aJ w b (bW H) 44) (h:Ga w H) (h0:aO (bJ H.fi H.ct)=0) (hd:cB H.dk=0) :
  Calls Tryz.prog 95 #[.pointer (some ⟨b,0,none⟩)] w fun r w'=>r = .returned (.bool (trimB H.ma))∧Below w.heap.size w w':=by
 have kb:=@run_makeMap Tryz.prog;have kq:H.fi.length≤5:=by simpa[bJ] using (jS h0).1
 have kd:Hid (∀p∈H.fi,p.l.length≤12∧∀x∈p.l,-1≤x∧x<80):=ae (fun p hp=>by obtain⟨h1,h2,h3,h4⟩:=yR h0 p.fi (eD.2 ⟨p,hp,rfl⟩);have h5:=zG (n:=p.fi.n) h2;have h6:=(jS h0).2.2;refine⟨by have h7:(p.l.length:Int)=gu p.fi.n:=h3;omega,fun x hx=>⟨(h4 x hx).1,by have:=(h4 x hx).2;omega⟩⟩);obtain⟨kk,h9⟩:=EA hd;have h8:Hid (∀q∈H.dk.queue,-9223372036854775808≤q.1∧q.1≤9223372036854775807):=ae (fun q hq=>by obtain⟨i,hi,rfl⟩:=jC.1 hq;have:=FJ hd i hi;omega);have H0:=ae h0;have HD:=ae hd;clear h0 hd;have ht:=ae (NB H.fi H.ct);go_enter func95,ntmps95;go_upto_region 2 with (fail);refine jl (fun W=>Code.wp _ _ _ _ W) fun w2 hF hC hw => ?_;have v:Below w.heap.size w w2:=ah ((Below.refl _ _).alloc (az _) _) hF;have hG:mU w2 w.heap.size 0 (qX (((H.fi.take 0).map PF.fi).flatMap Fi.b)):=(mU.made w).below hF;have hg : aJ w2 (w.heap.size+1) #[.map (some w.heap.size)] 201:=by have e:(w.alloc (Obj.map #[] 0)).heap.size=w.heap.size+1:=yZ _;rw[e] at hC;exact hC
 obtain⟨gm,hH⟩:∃g,g=w.heap.size:=⟨_,rfl⟩;have hR:Hid (w.heap.size≤gm):=ae (by omega);rw[←hH] at hG hg ⊢;rw[←hH] at hR;have kp:w.heap.size≤gm:=by omega
 clear hF hC hw kb hH hR;have hB:=hb.ext v;have u:=hB.cell;unfold bW at u;have H5:(H.fi.length:Int)≤5:=by omega
 go_upto_region 3 with (fail);clear u hB
 go_loopw [17] (fun i wr => ∃(q n:Nat),q≤H.fi.length∧i = .int .i64 q∧n≤12*q∧Below w.heap.size w wr∧aJ wr (gm+1) #[.map (some gm)] 201∧mU wr gm n (qX (((H.fi.take q).map PF.fi).flatMap Fi.b))) (fun i _=>H.fi.length-(intOf i).toNat)
 case atStart=>exact⟨0,0,bB _,rfl,az _,v,hg,hG⟩
 case round=>
  clear v hg hG;obtain⟨q,n,hq,rfl,hn,c,hx,hM⟩:=hrel
  by_cases hlt:q<H.fi.length
  ·obtain⟨bf,of,ki,t⟩:=pG nk (by decide) (h.below c).st.rd q hlt;obtain⟨p,hp⟩:∃p,H.fi[q]?=some p:=⟨_,aN hlt⟩;rw[show H.fi[q]=p from (dx.1 hp).2] at t;have hr:=(h.below c).st.good p (dm hp);obtain⟨kj,hN⟩:=kd.out p (dm hp);have hY:=ae (take_at hp);have hZ:(q:Int)<(H.fi.length:Int):=by omega
   generalize hseen:((H.fi.take q).map PF.fi).flatMap Fi.b=seen at hM;have hv:=ae hseen;have hL:=ae hN;clear hseen hp hN;rw[ki]
   go_wp2_with (first | (refine aC _ _ rfl bf (of+q*2) rfl rfl _ t _ underlying98 rfl file_size ?_) | (refine aT rfl _ _ _ rfl (Le p) rfl rfl rfl file_size (BD p) ?_))
   intro w3 f fx3;have o:=ah c f;have ha:=hx.ext f;have hf:=hM.below f;have hy:=hr.below f;have kn:=ae c.size;have kl:=ae hx.lt;clear c hx hM f t hr;have hT:=fx3.cell;unfold Le at hT;have hV:mU w3 gm n (qX (seen++p.l.take 0)):=by simpa using hf
   have ko:=hy.le;have ka:=hy.mx;have s:=hy.rd;unfold maxLen at ka;clear hf hy;go_upto_region 6 with (fail);clear hT fx3
   go_loopw [24] (fun i wr => ∃(j m:Nat),j≤p.l.length∧i = .int .i64 j∧m≤n+j∧Below w.heap.size w wr∧aJ wr (gm+1) #[.map (some gm)] 201∧mU wr gm m (qX (seen++p.l.take j))∧eB wr p.a (p.l.map iI)) (fun i _=>p.l.length-(intOf i).toNat)
   case atStart=>exact⟨0,n,bB _,rfl,az _,o,ha,hV,s⟩
   case round=>
    clear o ha hV s;obtain⟨j,m,hj,rfl,hm,c,hx,hM,s⟩:=hrel
    by_cases hjl:j<p.l.length
    ·obtain⟨x,hX⟩:∃x,p.l[j]?=some x:=⟨p.l[j],aN hjl⟩;obtain⟨b2,off2,hD,hc⟩:=lm s j hjl;rw[show p.l[j]=x from (dx.1 hX).2] at hc;have hI:=ae (take_at hX);have km:=hL.out x (dm hX);have hA:=ae s;have hO:=ae hD;have hQ : (j:Int)<(p.l.length:Int):=by omega
     have hS:=hx.cell;rw[hD];clear hX s hD;generalize hw:seen++p.l.take j=seen2 at hM;have hJ : Hid (seen++p.l.take (j+1)=seen2++[x]):=ae (by rw[hI.out,←mQ,hw]);clear hw
     go_wp2_with (refine vY hM (by omega) rfl _ _ _ rfl rfl x rfl rfl (by omega) ?_)
     intro w6 hU z;rw[DY,←hJ.out] at hU;have kg:=c.grown z c.size (fun k hk=>by cases hk;omega);have hW:=hx.grown z (fun e=>by have:=aS e;omega);have hK:=hM.rdv hA.out z;clear c hx hM z hS hc hA;go_wp2;go_roundw
     case rel=>exact⟨j+1,m+1,by omega,by go_num,by omega,kg,hW,hU,by rw[←hO.out];exact hK⟩
     case measure=>simp[intOf];omega
    have hQ : ¬(j:Int)<(p.l.length:Int):=by omega
    rw[ou (by omega)] at hM;have hz : mU wr gm m (qX (((H.fi.take (q+1)).map PF.fi).flatMap Fi.b)):=by rw[hY.out,gX,gK,hv.out];simpa[PF.fi] using hM
    clear hM s;go_wp2;go_roundw
    case rel=>exact⟨q+1,m,by omega,by go_num,by omega,c,hx,hz⟩
    case measure=>simp[intOf];omega
  have hZ:¬(q:Int)<(H.fi.length:Int):=by omega
  rw[ou (by omega)] at hM;have hz : mU wr gm n (qX (ig H.ma.st)):=hM;clear hM;have ht:=hb.ext c;have u:=ht.cell;unfold bW at u;go_upto_region 12 with (fail);clear u ht
  go_loopw [38] (fun i wr => ∃(k:Nat),k≤H.dk.blocks.length∧i = .int .i64 k∧Below w.heap.size w wr∧aJ wr (gm+1) #[.map (some gm)] 201∧mU wr gm n (qX (ig H.ma.st))∧Hid (∀j:Nat,j<k→(decide ((j:Int)∈ig H.ma.st)||decide (H.dk.blocks.getD j zPg=zPg))=true)) (fun i _=>H.dk.blocks.length-(intOf i).toNat)
  case atStart=>exact⟨0,bB _,rfl,c,hx,hz,ae fun j hj=>absurd hj (gL _)⟩
  case round=>
   clear c hx hz;obtain⟨k,hk,rfl,c,hx,hM,d⟩:=hrel
   by_cases hkl:k<H.dk.blocks.length
   ·obtain⟨bd,od,ke,t⟩:=pG wN (by decide) (h.below c).dk.rb k hkl;have kc:(k:Int)<(H.dk.blocks.length:Int):=by omega
    have hs:Hid (H.dk.blocks.getD k zPg=H.dk.blocks[k]):=ae (by rw[bM,aN hkl];rfl);generalize hP:H.dk.blocks[k]=P at t hs;clear hP;rw[ke]
    go_wp2_with (first | (refine aC _ _ rfl bd (od+k*8) rfl rfl _ t _ underlying100 rfl psize ?_) | (refine aT rfl _ _ _ rfl (gQ P) rfl rfl rfl psize (qf _) ?_))
    intro w3 f px3;have o:=ah c f;have ha:=hx.ext f;have hf:=hM.below f;clear c hx hM f t;have hS:=ha.cell;have hl:=hf.look k (by omega);have kf:=px3.cell;rw[GG] at kf;cases hu:qX (ig H.ma.st) (k:Int) with
    | true=>
     rw[hu] at hl;have y:Hid (∀j:Nat,j<k+1→(decide ((j:Int)∈ig H.ma.st)||decide (H.dk.blocks.getD j zPg=zPg))=true):=ae fun j hj=>by
      by_cases e:j=k
      ·subst e;rw[show decide ((j:Int)∈ig H.ma.st)=true from hu];rfl
      ·exact d.out j (by omega)
     clear hu d;go_wp2;go_roundw
     case rel=>exact⟨k+1,by omega,by go_num,o,ha,hf,y⟩
     case measure=>simp[intOf];omega
    | false=>
     rw[hu] at hl;have hE:∀W,(Op.equalIn 10000 100 (.agg #[.int .u8 P[0].toNat,.int .u8 P[1].toNat,.int .u8 P[2].toNat,.int .u8 P[3].toNat,.int .u8 P[4].toNat,.int .u8 P[5].toNat,.int .u8 P[6].toNat,.int .u8 P[7].toNat]) (.agg #[.int .u8 0,.int .u8 0,.int .u8 0,.int .u8 0,.int .u8 0,.int .u8 0,.int .u8 0,.int .u8 0])).run Tryz.prog W = .ok (P==zPg) W:=fun W=>XB P zPg W
     by_cases hp0:P=zPg
     ·have y:Hid (∀j:Nat,j<k+1→(decide ((j:Int)∈ig H.ma.st)||decide (H.dk.blocks.getD j zPg=zPg))=true):=ae fun j hj=>by
       by_cases e:j=k
       ·subst e;rw[hs.out,decide_eq_true hp0,Bool.or_true]
       ·exact d.out j (by omega)
      have hh:(P==zPg)=true:=by rw[hp0];exact beq_self_eq_true _
      rw[hh] at hE;clear hu d hh hp0 hs;go_wp2;go_roundw
      case rel=>exact⟨k+1,by omega,by go_num,o,ha,hf,y⟩
      case measure=>simp[intOf];omega
     have hh:(P==zPg)=false:=by rw[beq_eq_false_iff_ne];exact hp0
     have hq:Hid (trimB H.ma=false):=ae (RO (k:=k) hkl (by show (decide ((k:Int)∈ig H.ma.st)||decide (H.dk.blocks.getD k zPg=zPg))=false;rw[hs.out,decide_eq_false hp0,show decide ((k:Int)∈ig H.ma.st)=false from hu];rfl));rw[hh] at hE;clear hu d hh hp0 hs;go_wp2;go_ret;rw[hq.out];exact⟨rfl,o⟩
   have kc:¬(k:Int)<(H.dk.blocks.length:Int):=by omega
   have hq:Hid (trimB H.ma = !(H.dk.queue.any (Eo (qX (ig H.ma.st))))):=ae (Qc fun j hj=>d.out j (by have:j<H.dk.blocks.length:=hj;omega));have ht:=hb.ext c;have u:=ht.cell;unfold bW at u;have hd:=(h.below c).dk;clear d
   go_wp2_with fail
   refine (KF H.dk.queue H.dq H.cdq _ hd.rq (by omega) (gm+1) gm n (qX (ig H.ma.st)) hx hM h8.out).mono ?_;rintro r w4 ⟨rfl,kh⟩;go_wp2;go_ret;rw[hq.out];exact⟨rfl,ah c kh⟩
def Gp (m:Ma):List Int:=[bC m.m,dD m.sl,cB m.sw,cB m.dk,aO m.st]
theorem OM (hk:k<5) (h:∀j,j<k→(Gp m).getD j 0=0) (hne:(Gp m).getD k 0≠0):gW m=(Gp m).getD k 0:=by
 unfold gW;have e0:0<k→bC m.m=0:=fun h'=>h 0 h';have e1:1<k→dD m.sl=0:=fun h'=>h 1 h';have e2:2<k→cB m.sw=0:=fun h'=>h 2 h';have e3:3<k→cB m.dk=0:=fun h'=>h 3 h'
 match k,hk with
 | 0,_=>rw[if_pos (show bC m.m≠0 from hne)];rfl
 | 1,_=>rw[if_neg (by rw[e0 (by omega)];simp),if_pos (show dD m.sl≠0 from hne)];rfl
 | 2,_=>rw[if_neg (by rw[e0 (by omega)];simp),if_neg (by rw[e1 (by omega)];simp),if_pos (show cB m.sw≠0 from hne)];rfl
 | 3,_=>rw[if_neg (by rw[e0 (by omega)];simp),if_neg (by rw[e1 (by omega)];simp),if_neg (by rw[e2 (by omega)];simp),if_pos (show cB m.dk≠0 from hne)];rfl
 | 4,_=>rw[if_neg (by rw[e0 (by omega)];simp),if_neg (by rw[e1 (by omega)];simp),if_neg (by rw[e2 (by omega)];simp),if_neg (by rw[e3 (by omega)];simp),if_pos (show aO m.st≠0 from hne)];rfl
 | n+5,h'=>omega
def WC (B:Nat) (H:MH):nG:=⟨fun v w => ∃g,v = .slice (some ⟨g,0,none⟩) 5 5∧aJ w g #[.int .i64 (bC H.m),.int .i64 (dD H.sl),.int .i64 (cB H.sw),.int .i64 (cB H.dk),.int .i64 (aO (bJ H.fi H.ct))] 46,fun _ _ _ hb ⟨g,h1,h2⟩=>⟨g,h1,h2.ext hb⟩⟩
theorem OV (H:MH) (b:Nat) (w:World) (hbk:aJ w b (bW H) 44) (h:Ga w H) :
  Calls Tryz.prog 49 #[.pointer (some ⟨b,0,none⟩)] w fun r w'=>r = .returned (.int .i64 (gW H.ma))∧Below w.heap.size w w':=by
 go_enter func49,ntmps49;go_upto_region 1 with (fail);refine aP 28 [_,_,_,_,.v (.int .i64 (bC H.m)),_,_,_,_,.v (.int .i64 (dD H.sl)),_,_,_,_,.v (.int .i64 (cB H.sw)),_,_,_,_,.v (.int .i64 (cB H.dk)),_,_,_,_,.v (.int .i64 (aO (bJ H.fi H.ct))),.r 25 ((WC w.heap.size H)),.v (.int .i64 5),_] (Gk rfl (Gk rfl (Gf b 0 rfl rfl (Gr (.agg #[.slice H.af H.m.fs.length H.cf,.int .i64 H.m.hand]) (fun ρ y W hb g=>(bG rfl (aU rfl g) (cz (hbk.ext hb) 0 2) underlying31 rfl (by kernel_rfl))) rfl rfl (aj ?_ (Gk rfl (Gk rfl (Gf b 2 rfl rfl (Gl hbk rfl rfl rfl rfl rfl (aj ?_ (Gk rfl (Gk rfl (Gf b 3 rfl rfl (Gr (.agg #[.slice H.wb H.sw.blocks.length H.cwb,.slice H.wq H.sw.queue.length H.cwq]) (fun ρ y W hb g=>(bG rfl (aU rfl g) (cz (hbk.ext hb) 3 2) underlying37 rfl (by kernel_rfl))) rfl rfl (aj ?_ (Gk rfl (Gk rfl (Gf b 5 rfl rfl (Gr (.agg #[.slice H.db H.dk.blocks.length H.cdb,.slice H.dq H.dk.queue.length H.cdq]) (fun ρ y W hb g=>(bG rfl (aU rfl g) (cz (hbk.ext hb) 5 2) underlying37 rfl (by kernel_rfl))) rfl rfl (aj ?_ (Gk rfl (Gk rfl (Gf b 7 rfl rfl (Gr (.agg #[.slice H.ai H.fi.length H.ci,.int .i64 H.ct]) (fun ρ y W hb g=>(bG rfl (aU rfl g) (cz (hbk.ext hb) 7 2) underlying40 rfl (by kernel_rfl))) rfl rfl (aj ?_ (aj ?_ (aj ?_ (Gr (.int .i64 0) (fun ρ y W hb g=>(run_move (.inl rfl) (aU rfl g))) rfl rfl (aF))))))))))))))))))))))))))))) (fun _=>rfl) rfl ?_
 ·intro ρ y W hw hn hb hd;have kw:=hw 12 3 rfl;have h3:y 3=_:=hd 3 rfl;have EF:∀f,ρ (.func f) = .func (.func f) #[] #[]:=fun f=>hn (.func f) trivial;refine aK _ _ (ag rfl) (aQ rfl (EF _) func92 (by kernel_rfl) (by kernel_rfl) (by simp only[bT,bF,bI,kw,h3,EF];rfl)) ?_;refine (uA H.m _ _ W (h.below hb).fr).mono ?_;rintro r w1 ⟨rfl,p⟩;exact⟨_,rfl,p,rfl⟩
 ·intro ρ y W hw hn hb hd;have ku:=hw 17 8 rfl;have h8:y 8=_:=hd 8 rfl;have EF:∀f,ρ (.func f) = .func (.func f) #[] #[]:=fun f=>hn (.func f) trivial;refine aK _ _ (ag rfl) (aQ rfl (EF _) func93 (by kernel_rfl) (by kernel_rfl) (by simp only[bT,bF,bI,ku,h8,EF];rfl)) ?_;refine (vZ H.sl _ _ W (h.below hb).sl.rd (by have:=h.sl.le;have:=h.sl.mx;unfold maxLen at this;omega)).mono ?_;rintro r w1 ⟨rfl,rfl⟩;exact⟨_,rfl,Below.refl _ _,rfl⟩
 ·intro ρ y W hw hn hb hd;have ks:=hw 22 13 rfl;have kk:y 13=_:=hd 13 rfl;have EF:∀f,ρ (.func f) = .func (.func f) #[] #[]:=fun f=>hn (.func f) trivial;refine aK _ _ (ag rfl) (aQ rfl (EF _) func94 (by kernel_rfl) (by kernel_rfl) (by simp only[bT,bF,bI,ks,kk,EF];rfl)) ?_;refine (uy H.sw _ _ _ _ W (h.below hb).sw).mono ?_;rintro r w1 ⟨rfl,p⟩;exact⟨_,rfl,p,rfl⟩
 ·intro ρ y W hw hn hb hd;have kq:=hw 27 18 rfl;have ki:y 18=_:=hd 18 rfl;have EF:∀f,ρ (.func f) = .func (.func f) #[] #[]:=fun f=>hn (.func f) trivial;refine aK _ _ (ag rfl) (aQ rfl (EF _) func94 (by kernel_rfl) (by kernel_rfl) (by simp only[bT,bF,bI,kq,ki,EF];rfl)) ?_;refine (uy H.dk _ _ _ _ W (h.below hb).dk).mono ?_;rintro r w1 ⟨rfl,p⟩;exact⟨_,rfl,p,rfl⟩
 ·intro ρ y W hw hn hb hd;have ko:=hw 32 23 rfl;have kg:y 23=_:=hd 23 rfl;have EF:∀f,ρ (.func f) = .func (.func f) #[] #[]:=fun f=>hn (.func f) trivial;refine aK _ _ (ag rfl) (aQ rfl (EF _) func71 (by kernel_rfl) (by kernel_rfl) (by simp only[bT,bF,bI,ko,kg,EF];rfl)) ?_;refine (xN H.fi H.ct _ _ W (h.below hb).st h.c64).mono ?_;rintro r w1 ⟨rfl,p⟩;exact⟨_,rfl,p,rfl⟩
 ·intro ρ y W hw hn hb hd;have kv:=hw 13 4 rfl;have h4:y 4=_:=hd 4 rfl;have kt:=hw 18 9 rfl;have h9:y 9=_:=hd 9 rfl;have kr:=hw 23 14 rfl;have kj:y 14=_:=hd 14 rfl;have kp:=hw 28 19 rfl;have kh:y 19=_:=hd 19 rfl;have kn:=hw 33 24 rfl;have kf:y 24=_:=hd 24 rfl;refine gz (.slice (some ⟨W.heap.size,0,none⟩) 5 5) (ag rfl) (by simp[execOp,go_sem,kv.trans h4,kt.trans h9,kr.trans kj,kp.trans kh,kn.trans kf]) ((Below.refl _ _).alloc (az _) (.cells #[.int .i64 (bC H.m),.int .i64 (dD H.sl),.int .i64 (cB H.sw),.int .i64 (cB H.dk),.int .i64 (aO (bJ H.fi H.ct))] 46)) ?_;exact⟨_,rfl,aJ.new _ _ _⟩
 ·intro ρ y W hw hn hb hd;have km:=hw 34 25 rfl;have ke:=hd 25 rfl;obtain⟨ge,hu,_⟩:=ke;refine ak (.int .i64 5) (ag rfl) (by simp[execOp,go_sem,km,hu]) rfl
 intro y W1 hG hI;have hV:((WC w.heap.size H)).r (y 25) W1:=hI 25 (by decide);clear hI;obtain⟨ge,hu,hW⟩:=hV;have hh:Below w.heap.size w W1:=hG;rw[hu];clear hu hG;go_upto_region 2 with (fail)
 go_loopw [36] (fun i wr => ∃(k:Nat),k≤5∧i = .int .i64 k∧Below w.heap.size w wr∧aJ wr ge #[.int .i64 (bC H.m),.int .i64 (dD H.sl),.int .i64 (cB H.sw),.int .i64 (cB H.dk),.int .i64 (aO (bJ H.fi H.ct))] 46∧Hid (∀j,j<k→(Gp H.ma).getD j 0=0)) (fun i _=>5-(intOf i).toNat)
 case atStart=>exact⟨0,bB _,rfl,hh,hW,ae fun j hj=>absurd hj (gL _)⟩
 case round=>
  clear hh hW;obtain⟨k,hk,rfl,d,hx,hz⟩:=hrel
  by_cases hkl:k<5
  ·have hM:(k:Int)<5:=by omega
   have kb:wr.cell? ⟨ge,k,none⟩=some (.int .i64 ((Gp H.ma).getD k 0)):=by
    rw[hx.cell]
    match k,hkl with
    | 0,_=>rfl
    | 1,_=>rfl
    | 2,_=>rfl
    | 3,_=>rfl
    | 4,_=>rfl
    | n+5,h'=>omega
   by_cases h0:(Gp H.ma).getD k 0=0
   ·have hm:Hid (∀j,j<k+1→(Gp H.ma).getD j 0=0):=ae fun j hj=>by
     by_cases e:j=k
     ·rw[e];exact h0
     ·exact hz.out j (by omega)
    rw[h0] at kb;clear h0 hz;go_wp2;go_roundw
    case rel=>exact⟨k+1,by omega,by go_num,d,hx,hm⟩
    case measure=>simp[intOf];omega
   have hq:Hid (gW H.ma=(Gp H.ma).getD k 0):=ae (OM hkl hz.out h0);generalize (Gp H.ma).getD k 0=E at *
   clear hz;go_wp2;go_ret;rw[hq.out];exact⟨rfl,d⟩
  have hM:¬(k:Int)<5:=by omega
  have hU:=hz.out 0 (by omega);have hT:=hz.out 1 (by omega);have hm:=hz.out 2 (by omega);have hS:=hz.out 3 (by omega);have hR:=hz.out 4 (by omega);have e0:=ae (show bC H.m=0 from hU);have e1:=ae (show dD H.sl=0 from hT);have e2:=ae (show cB H.sw=0 from hm);have e3:=ae (show cB H.dk=0 from hS);have e4:=ae (show aO (bJ H.fi H.ct)=0 from hR);clear hU hT hm hS hR hz hx;have a:=hbk.ext d;have hr:=h.below d;have hP:Hid (gW H.ma=if H.sw.blocks.length≠H.sl.length∨(H.dk.blocks.length:Int)≠H.ct∨trimB H.ma=false then 7 else if 4<H.sp.length then 4 else firstE (H.ma.sp.map jv)):=ae (by unfold gW;rw[if_neg (by rw[show bC H.ma.m=0 from e0.out];simp),if_neg (by rw[show dD H.ma.sl=0 from e1.out];simp),if_neg (by rw[show cB H.ma.sw=0 from e2.out];simp),if_neg (by rw[show cB H.ma.dk=0 from e3.out];simp),if_neg (by rw[show aO H.ma.st=0 from e4.out];simp),tQ];rfl);go_upto_region 7 with (fail);have hf:=a.cell;unfold bW at hf
  by_cases c1:H.sw.blocks.length=H.sl.length
  ·by_cases c2:(H.dk.blocks.length:Int)=H.ct
   ·have c1i:(H.sw.blocks.length:Int)=(H.sl.length:Int):=by omega
    have hL:Hid (gW H.ma=if trimB H.ma=false then 7 else if 4<H.sp.length then 4 else firstE (H.ma.sp.map jv)):=ae (by
     rw[hP.out]
     by_cases ct:trimB H.ma=false
     ·rw[if_pos (.inr (.inr ct)),if_pos ct]
     ·rw[if_neg (by rintro (h | h | h);exact h c1;exact h c2;exact ct h),if_neg ct])
    refine aP 31 [_,_,_,_,_,_,_,_,_,_,_,_,_,_,_,_,_,_,_,_,_,_,_,_,_,_,_,_,.v (.bool (trimB H.ma)),_,.v (.bool (!trimB H.ma))] (Gk rfl (Gk rfl (Gf b 3 rfl rfl (Gf b 3 rfl rfl (Gl a rfl rfl rfl rfl rfl (Gn rfl rfl rfl rfl (Gk rfl (Gk rfl (Gf b 2 rfl rfl (Gl a rfl rfl rfl rfl rfl (Gn rfl rfl rfl rfl (Gb (.bool false) (by simp[go_sem,c1]) rfl rfl rfl rfl rfl (Gk rfl (Gk rfl (Gk rfl (Gf b 5 rfl rfl (Gf b 5 rfl rfl (Gl a rfl rfl rfl rfl rfl (Gn rfl rfl rfl rfl (Gk rfl (Gk rfl (Gf b 7 rfl rfl (Gf b 8 rfl rfl (Gl a rfl rfl rfl rfl rfl (Gb (.bool false) (by simp[go_sem,c2]) rfl rfl rfl rfl rfl (Gk rfl (Gk rfl (Gk rfl (aj ?_ (Gr (.bool (!trimB H.ma)) (fun ρ y W hb g=>Bf rfl (aU rfl g)) rfl rfl (Gk rfl (aF)))))))))))))))))))))))))))))))) (fun _=>rfl) rfl ?_
    ·intro ρ y W hw hn hb hd;have kl:=hw 71 27 rfl;have kd:y 27=_:=hd 27 rfl;have EF:∀f,ρ (.func f) = .func (.func f) #[] #[]:=fun f=>hn (.func f) trivial;refine aK _ _ (gB 26 70 false false rfl rfl ((hw 70 26 rfl).trans (hd 26 rfl))) (aQ rfl (EF _) func95 (by kernel_rfl) (by kernel_rfl) (by simp only[bT,bF,bI,kl,kd,EF];rfl)) ?_;refine (IQ H b W (a.ext hb) (hr.below hb) e4.out e3.out).mono ?_;rintro r w1 ⟨rfl,p⟩;exact⟨_,rfl,p,rfl⟩
    intro y W2 l _;have c:=ah d l;clear l;cases ht:trimB H.ma with
    | false=>
     have ha:Hid (gW H.ma=7):=ae (by rw[hL.out,if_pos ht]);clear c1 c2 c1i;go_wp2;go_ret;rw[ha.out];exact⟨rfl,c⟩
    | true=>
     have hK:Hid (gW H.ma=if 4<H.sp.length then 4 else firstE (H.ma.sp.map jv)):=ae (by rw[hL.out,if_neg (by rw[ht];decide)]);clear c1 c2 c1i hf ht;have h6:=h.below c;have hf:=(hbk.ext c).cell;unfold bW at hf;clear hr a hP hL d
     by_cases c4:4<H.sp.length
     ·have hs:Hid (gW H.ma=4):=ae (by rw[hK.out,if_pos c4]);have c4i:(4:Int)<(H.sp.length:Int):=by omega
      clear c4;go_wp2;go_ret;rw[hs.out];exact⟨rfl,c⟩
     have hs:Hid (gW H.ma=firstE (H.ma.sp.map jv)):=ae (by rw[hK.out,if_neg c4]);have c4i:¬(4:Int)<(H.sp.length:Int):=by omega
     have hC:Hid ((H.ma.sp.map jv).length=H.sp.length):=ae (by rw[fP,tQ]);clear c4 hK;go_upto_region 12 with (fail);clear hf h6
     go_loopw [86] (fun i wr => ∃(k:Nat),k≤H.sp.length∧i = .int .i64 k∧Below w.heap.size w wr∧Hid (∀j (hj:j<(H.ma.sp.map jv).length),j<k→(H.ma.sp.map jv)[j]=0)) (fun i _=>H.sp.length-(intOf i).toNat)
     case atStart=>exact⟨0,bB _,rfl,c,ae fun j _ hj=>absurd hj (gL _)⟩
     case round=>
      clear c;obtain⟨k,hk,rfl,d,hz⟩:=hrel
      by_cases hkl:k<H.sp.length
      ·obtain⟨bs,os,P,kc,hP,hX⟩:=xz (h.below d).sp.rd k hkl;have t:=yt (h.below d) hP;have hM:(k:Int)<(H.sp.length:Int):=by omega
       have hZ:k<(H.ma.sp.map jv).length:=by rw[hC.out];exact hkl
       have hE:Hid ((H.ma.sp.map jv)[k]=jv P.sp):=ae (by
        rw[rG];congr 1;have:H.ma.sp[k]?=some P.sp:=by show (H.sp.map PS.sp)[k]?=_;rw[iY,hP];rfl
        exact (dx.1 this).2)
       have hc:Hid (jv P.sp≠0→gW H.ma=jv P.sp):=ae fun h7=>by rw[hs.out,xk k hZ hz.out (by rw[hE.out];exact h7),hE.out]
       have hY:Hid (jv P.sp=0→∀j (hj:j<(H.ma.sp.map jv).length),j<k+1→(H.ma.sp.map jv)[j]=0):=ae fun h0 j hj kz=>by
        by_cases e:j=k
        ·subst e;rw[hE.out];exact h0
        ·exact hz.out j hj (by omega)
       have o:Hid (jv P.sp=if (dH P.ar).1≠0 then (dH P.ar).1 else if dO P.tb≠0 then dO P.tb else if P.lv=false∧0<P.ar.length+(aM P.tb).length then 7 else 0):=ae rfl;rw[kc];clear hz hP hE hZ;have hB:(Et P).all (·.oneCell')=true:=by rw[←iA,cK];exact t.one
       go_wp2_with (first | (refine aC _ _ rfl bs (os+k*10) rfl rfl _ hX _ underlying114 rfl space_size ?_) | (refine aT rfl _ _ _ rfl (Et P) rfl rfl rfl space_size hB ?_))
       intro w3 hQ fx3;have hF:=ah d hQ;have hN:=t.below hQ;have ka:=fx3.lt;generalize wr.heap.size=gs at fx3 ka ⊢;clear d hQ hX t hB;have h1:=fx3.cell;unfold Et at h1;have hA:=hN.ars
       go_wp2_with fail
       refine (CL P.ar P.aa P.ac _ hA.rd (by have:=hA.le;have:=hA.mx;unfold maxLen at this;omega)).mono ?_;rintro r w3' ⟨rfl,z⟩;have fx3':=fx3.ext z;have hg:=ah hF z;have hD:=hN.below z;clear h1 fx3 hF hN z hA
       go_wp2_with (refine aT rfl _ _ _ rfl (SH (dH P.ar)) rfl rfl rfl fau_size (by simp[SH,Value.oneCell']) ?_)
       intro w4 hy ux;have fx:=fx3'.ext hy;have q:=ah hg hy;have u:=hD.below hy;clear fx3' hg hD hy;have hO:=ux.cell;unfold SH at hO
       by_cases c5:(dH P.ar).1=0
       ·rw[if_neg (by rw[c5];simp)] at o;rw[c5] at hO;have kA:=(qm c5).1;have ky:(aM P.tb).length≤64:=qp P.tb 64;have hp:IntKind.i64.wrap ((P.ar.length:Int)+((aM P.tb).length:Int))=(P.ar.length:Int)+((aM P.tb).length:Int):=bP _ (by omega);go_upto_region 17 with (fail);clear hO ux c5
        go_wp2_with (refine aC _ _ rfl gs 2 rfl rfl _ (cz fx 2 8) _ underlying112 tab_agg tab_size ?_)
        refine (Dn P.tb (tX P.ts) _ u.tb).mono ?_;rintro r w6 ⟨rfl,hv⟩;replace fx:=fx.ext hv;replace q:=ah q hv;replace u:=u.below hv;clear hv
        by_cases c6:dO P.tb=0
        ·rw[if_neg (by rw[c6];simp)] at o;rw[c6];go_upto_region 20 with (fail);cases hlv:P.lv with
         | true=>
          have hJ:Hid (jv P.sp=0):=ae (by rw[o.out,if_neg (by rw[hlv];simp)]);refine aP 14 [_,_,_,_,_,_,_,_,_,_,_,_,_,.v (.bool false)] (Gf gs 0 rfl rfl (Gl fx (V:=.bool true) (by simp[Et,hlv]) rfl rfl rfl rfl (Gk rfl (Gk rfl (Gk rfl (Gk rfl (Gk rfl (Gk rfl (Gk rfl (Gk rfl (Gk rfl (Gk rfl (Gk rfl (Gk rfl (aF))))))))))))))) (fun _=>rfl) rfl ?_;intro y W5 s _;have x:=ah q s;clear s;have hl:=ae (hY.out hJ.out);clear hp fx u;go_wp2;go_roundw
          case rel=>exact⟨k+1,by omega,by go_num,x,hl⟩
          case measure=>simp[intOf];omega
         | false=>
          refine aP 14 [_,_,_,_,_,_,_,_,_,.r 9 ((iw w6.heap.size 3 1 (aM P.tb).length ((aM P.tb).map iI))),.v (.int .i64 (aM P.tb).length),_,_,.v (.bool (decide (0<(P.ar.length:Int)+((aM P.tb).length:Int))))] (Gf gs 0 rfl rfl (Gl fx (V:=.bool false) (by simp[Et,hlv]) rfl rfl rfl rfl (Gk rfl (Gk rfl (Gf gs 1 rfl rfl (Gl fx rfl rfl rfl rfl rfl (Gn rfl rfl rfl rfl (Gf gs 2 rfl rfl (Gr (.agg (tX P.ts)) (fun ρ y W hb g=>(bG rfl (aU rfl g) (cz (fx.ext hb) 2 8) underlying112 tab_agg tab_size)) rfl rfl (aj ?_ (aj ?_ (Gb (.int .i64 ((P.ar.length:Int)+((aM P.tb).length:Int))) (by simp[go_sem,hp]) rfl rfl rfl rfl rfl (Gb (.bool (decide (0<(P.ar.length:Int)+((aM P.tb).length:Int)))) (by simp[go_sem]) rfl rfl rfl rfl rfl (Gk rfl (aF))))))))))))))) (fun _=>rfl) rfl ?_
          ·intro ρ y W hw hn hb hd;have h5:=hw 112 8 rfl;have h8:y 8=_:=hd 8 rfl;have EF:∀f,ρ (.func f) = .func (.func f) #[] #[]:=fun f=>hn (.func f) trivial;refine aK _ _ (gB 3 107 true true rfl rfl ((hw 107 3 rfl).trans (hd 3 rfl))) (aQ rfl (EF _) func51 (by kernel_rfl) (by kernel_rfl) (by simp only[bT,bF,bI,h5,h8,EF];rfl)) ?_;refine (xJ P.tb (tX P.ts) W (u.below hb).tb).mono ?_;rintro r w1 ⟨v,rfl,ho,p⟩;exact⟨_,rfl,p,ho.mono hb.size⟩
          ·intro ρ y W hw hn hb hd;have h2:=hw 113 9 rfl;have h9:=hd 9 rfl;obtain⟨a9,c9,e9,_⟩:=Own.rd h9;refine ak (.int .i64 (aM P.tb).length) (gB 3 107 true true rfl rfl ((hw 107 3 rfl).trans (hd 3 rfl))) (Ke rfl (h2.trans e9) rfl) rfl
          intro y W5 s hH;have kx:((iw w6.heap.size 3 1 (aM P.tb).length ((aM P.tb).map iI))).r (y 9) W5:=hH 9 (by decide);clear hH;have x:=ah q s;clear s
          by_cases c7:0<P.ar.length+(aM P.tb).length
          ·have hq:Hid (gW H.ma=7):=ae (by rw[hc.out (by rw[o.out,if_pos ⟨hlv,c7⟩];decide),o.out,if_pos ⟨hlv,c7⟩]);have hd:decide (0<(P.ar.length:Int)+((aM P.tb).length:Int))=true:=decide_eq_true (by omega);rw[hd];clear hp fx u hd c7;go_wp2;go_ret;rw[hq.out];exact⟨rfl,x⟩
          have hJ:Hid (jv P.sp=0):=ae (by rw[o.out,if_neg (fun h'=>c7 h'.2)]);have hl:=ae (hY.out hJ.out);have hd:decide (0<(P.ar.length:Int)+((aM P.tb).length:Int))=false:=decide_eq_false (by omega);rw[hd];clear hp fx u hd c7;go_wp2;go_roundw
          case rel=>exact⟨k+1,by omega,by go_num,x,hl⟩
          case measure=>simp[intOf];omega
        rw[if_pos c6] at o;have hq:Hid (gW H.ma=dO P.tb):=ae (by rw[hc.out (by rw[o.out];exact c6),o.out]);generalize dO P.tb=E at *
        go_wp2;go_ret;rw[hq.out];exact⟨rfl,q⟩
       rw[if_pos c5] at o;have hq:Hid (gW H.ma=(dH P.ar).1):=ae (by rw[hc.out (by rw[o.out];exact c5),o.out]);generalize (dH P.ar).1=E at *
       go_wp2;go_ret;rw[hq.out];exact⟨rfl,q⟩
      have hM:¬(k:Int)<(H.sp.length:Int):=by omega
      have hq:Hid (gW H.ma=0):=ae (by rw[hs.out,rz fun i hi=>hz.out i hi (by rw[hC.out] at hi;omega)]);clear hz;go_wp2;go_ret;rw[hq.out];exact⟨rfl,d⟩
   have ha:Hid (gW H.ma=7):=ae (by rw[hP.out,if_pos (.inr (.inl c2))]);refine aP 31 [_,_,_,_,_,_,_,_,_,_,_,_,_,_,_,_,_,_,_,_,_,_,_,_,_,_,_,_,_,_,.v (.bool true)] (Gk rfl (Gk rfl (Gf b 3 rfl rfl (Gf b 3 rfl rfl (Gl a rfl rfl rfl rfl rfl (Gn rfl rfl rfl rfl (Gk rfl (Gk rfl (Gf b 2 rfl rfl (Gl a rfl rfl rfl rfl rfl (Gn rfl rfl rfl rfl (Gb (.bool false) (by simp[go_sem,c1]) rfl rfl rfl rfl rfl (Gk rfl (Gk rfl (Gk rfl (Gf b 5 rfl rfl (Gf b 5 rfl rfl (Gl a rfl rfl rfl rfl rfl (Gn rfl rfl rfl rfl (Gk rfl (Gk rfl (Gf b 7 rfl rfl (Gf b 8 rfl rfl (Gl a rfl rfl rfl rfl rfl (Gb (.bool true) (by simp[go_sem,c2]) rfl rfl rfl rfl rfl (Gk rfl (Gk rfl (Gk rfl (Gk rfl (Gk rfl (Gk rfl (aF)))))))))))))))))))))))))))))))) (fun _=>rfl) rfl ?_;intro y W2 l _;have c:=ah d l;clear l;clear c1 c2;go_wp2;go_ret;rw[ha.out];exact⟨rfl,c⟩
  have ha:Hid (gW H.ma=7):=ae (by rw[hP.out,if_pos (.inl c1)]);have c1i:¬((H.sw.blocks.length:Int)=(H.sl.length:Int)):=by omega
  have c2:=c1;refine aP 31 [_,_,_,_,_,_,_,_,_,_,_,_,_,_,_,_,_,_,_,_,_,_,_,_,_,_,_,_,_,_,.v (.bool true)] (Gk rfl (Gk rfl (Gf b 3 rfl rfl (Gf b 3 rfl rfl (Gl a rfl rfl rfl rfl rfl (Gn rfl rfl rfl rfl (Gk rfl (Gk rfl (Gf b 2 rfl rfl (Gl a rfl rfl rfl rfl rfl (Gn rfl rfl rfl rfl (Gb (.bool true) (by simp[go_sem,c1i]) rfl rfl rfl rfl rfl (Gk rfl (Gk rfl (Gk rfl (Gk rfl (Gk rfl (Gk rfl (Gk rfl (Gk rfl (Gk rfl (Gk rfl (Gk rfl (Gk rfl (Gk rfl (Gk rfl (Gk rfl (Gk rfl (Gk rfl (Gk rfl (Gk rfl (aF)))))))))))))))))))))))))))))))) (fun _=>rfl) rfl ?_;intro y W2 l _;have c:=ah d l;clear l;clear c1 c1i c2;go_wp2;go_ret;rw[ha.out];exact⟨rfl,c⟩
theorem sN {p:Option Cc} {c:Cc} (h:c.f<0∨(m.st.fs.length:Int)≤c.f∨c.i<0∨((aH m.st c.f).b.length:Int)≤c.i∨c.k<0∨(m.m.fs.length:Int)≤c.k):sG m p c=3:=by
 unfold sG;rw[if_pos h]
theorem Mq (H:MH) (b:Nat) (w:World) (hbk:aJ w b (bW H) 44) (h:Ga w H) :
  Calls Tryz.prog 50 #[.pointer (some ⟨b,0,none⟩)] w fun r w'=>r = .returned (.int .i64 (gU H.ma))∧Below w.heap.size w w':=by
 have ku:=h.ca.le;have kp:=h.ca.mx;unfold maxLen at kp;go_enter func50,ntmps50;have kf:=hbk.cell;unfold bW at kf;obtain⟨L,hL⟩:∃L,L=(List.range H.ca.length).map fun k=>sG H.ma (xD H.ca k) (H.ca.getD k zCc):=⟨_,rfl⟩;have kl:Hid (L.length=H.ca.length):=ae (by rw[hL];simp);have km:Hid (gU H.ma=firstE L):=ae (by rw[hL];rfl);have ks:Hid (∀k (hk:k<L.length),L[k]=sG H.ma (xD H.ca k) (H.ca.getD k zCc)):=ae fun k hk=>by simp[hL]
 clear hL;go_upto_region 2 with (fail);clear kf
 go_loopw [11] (fun i wr => ∃(k:Nat),k≤H.ca.length∧i = .int .i64 k∧Below w.heap.size w wr∧Hid (∀j (hj:j<L.length),j<k→L[j]=0)) (fun i _=>H.ca.length-(intOf i).toNat)
 case atStart=>exact⟨0,bB _,rfl,Below.refl _ _,ae fun j _ hj=>absurd hj (gL _)⟩
 case round=>
  obtain⟨k,hk,rfl,hN,hz⟩:=hrel
  by_cases hkl:k<H.ca.length
  ·obtain⟨bc,oc,hv,h4⟩:=pG jH (by decide) (h.below hN).ca.rd k hkl;have kq:(k:Int)<(H.ca.length:Int):=by omega
   have hX:k<L.length:=by rw[kl.out];exact hkl
   have hE:Hid (L[k]=sG H.ma (xD H.ca k) H.ca[k]):=ae (by rw[ks.out k hX,bM,aN hkl];rfl);have ha:Hid (L[k]≠0→gU H.ma=L[k]):=ae fun ko=>by rw[km.out,xk k hX hz.out ko]
   have hW:Hid (L[k]=0→∀j (hj:j<L.length),j<k+1→L[j]=0):=ae fun h0 j hj kv=>by
    by_cases e:j=k
    ·subst e;exact h0
    ·exact hz.out j hj (by omega)
   generalize hLk:L[k]=Lk at *
   have h6:Hid (xD H.ca k=if k=0 then none else H.ca[k-1]?):=ae rfl;generalize hc:H.ca[k]=c at *
   rw[hv];clear hz hX hLk hc
   go_wp2_with (first | (refine aC _ _ rfl bc (oc+k*3) rfl rfl _ h4 _ underlying124 rfl cached_size ?_) | (refine aT rfl _ _ _ rfl (zU c) rfl rfl rfl cached_size (Gd c) ?_))
   intro w3 kj cx;have ht:=ah hN kj;have z:=hbk.ext ht;have hV:=h.below ht;generalize wr.heap.size=gc at cx ⊢;clear kj h4 hN;go_upto_region 4 with (fail);obtain⟨bf,of,F,P,hl,hg,hu,hr⟩:∃(bf of F:Nat) (P:PF),(0≤c.f→c.f<H.fi.length→H.ai=some ⟨bf,of,none⟩)∧(0≤c.f→c.f<H.fi.length→F<H.fi.length)∧(0≤c.f→c.f<H.fi.length→c.f=(F:Int)∧aH H.ma.st c.f=P.fi)∧(0≤c.f→c.f<H.fi.length→∀W,Below w3.heap.size w3 W→W.cell? ⟨bf,of+F*2+1,none⟩=some (.slice P.a P.l.length P.c)):=by
    by_cases hc0:0≤c.f∧c.f<H.fi.length
    ·have hg:c.f.toNat<H.fi.length:=by omega
     obtain⟨bf,of,P,hl,hP,kw,hr⟩:=yY hV.st.rd c.f.toNat hg;refine⟨bf,of,c.f.toNat,P,fun _ _=>hl,fun _ _=>hg,fun _ _=>⟨by omega,?_⟩,fun _ _ W hb => ?_⟩
     ·have:(H.fi.map PF.fi)[c.f.toNat]?=some P.fi:=by rw[iY,hP];rfl
      have h2:=jV (s:=H.ma.st) (F:=c.f.toNat) this;rw[←h2];congr 1;omega
     obtain⟨bf',of',P',hS,kk,kt,kd⟩:=yY (hV.below hb).st.rd c.f.toNat hg;rw[hP] at kk;cases kk;rw[hl] at hS;cases hS;exact kd
    ·exact⟨0,0,0,⟨0,none,[],0⟩,fun h1 h2=>absurd ⟨h1,h2⟩ hc0,fun h1 h2=>absurd ⟨h1,h2⟩ hc0,fun h1 h2=>absurd ⟨h1,h2⟩ hc0,fun h1 h2=>absurd ⟨h1,h2⟩ hc0⟩
   by_cases c1:c.f<0
   ·have t:Hid (c.f<0∨(H.ma.st.fs.length:Int)≤c.f∨c.i<0∨((aH H.ma.st c.f).b.length:Int)≤c.i∨c.k<0∨(H.ma.m.fs.length:Int)≤c.k):=ae (.inl c1);refine aP 51 [_,_,_,_,_,_,_,_,_,_,_,_,_,_,_,_,_,_,_,_,_,_,_,_,_,_,_,_,_,_,_,_,_,_,_,_,_,_,_,_,_,_,_,_,_,_,_,_,_,_,.v (.bool true)] (Gf gc 0 rfl rfl (Gl cx rfl rfl rfl rfl rfl (Gb (.bool true) (by simp[go_sem,c1]) rfl rfl rfl rfl rfl (Gk rfl (Gk rfl (Gk rfl (Gk rfl (Gk rfl (Gk rfl (Gk rfl (Gk rfl (Gk rfl (Gk rfl (Gk rfl (Gk rfl (Gk rfl (Gk rfl (Gk rfl (Gk rfl (Gk rfl (Gk rfl (Gk rfl (Gk rfl (Gk rfl (Gk rfl (Gk rfl (Gk rfl (Gk rfl (Gk rfl (Gk rfl (Gk rfl (Gk rfl (Gk rfl (Gk rfl (Gk rfl (Gk rfl (Gk rfl (Gk rfl (Gk rfl (Gk rfl (Gk rfl (Gk rfl (Gk rfl (Gk rfl (Gk rfl (Gk rfl (Gk rfl (Gk rfl (Gk rfl (Gk rfl (Gk rfl (aF)))))))))))))))))))))))))))))))))))))))))))))))))))) (fun _=>rfl) rfl ?_;intro y W4 g _;have p:=ah ht g;replace cx:=cx.ext g;clear g;have hf:Hid (Lk=3):=ae (by rw[hE.out];exact sN t.out);have hq:Hid (gU H.ma=3):=ae (by rw[ha.out (by rw[hf.out];decide),hf.out]);clear hl hg hu hr;go_wp2;go_ret;rw[hq.out];exact⟨rfl,p⟩
   have hY:Hid (H.ma.st.fs.length=H.fi.length):=ae (fP _)
   by_cases c2:(H.fi.length:Int)≤c.f
   ·have t:Hid (c.f<0∨(H.ma.st.fs.length:Int)≤c.f∨c.i<0∨((aH H.ma.st c.f).b.length:Int)≤c.i∨c.k<0∨(H.ma.m.fs.length:Int)≤c.k):=ae (.inr (.inl (by rw[hY.out];exact c2)));refine aP 51 [_,_,_,_,_,_,_,_,_,_,_,_,_,_,_,_,_,_,_,_,_,_,_,_,_,_,_,_,_,_,_,_,_,_,_,_,_,_,_,_,_,_,_,_,_,_,_,_,_,_,.v (.bool true)] (Gf gc 0 rfl rfl (Gl cx rfl rfl rfl rfl rfl (Gb (.bool false) (by simp[go_sem,c1]) rfl rfl rfl rfl rfl (Gk rfl (Gf gc 0 rfl rfl (Gl cx rfl rfl rfl rfl rfl (Gk rfl (Gk rfl (Gf b 7 rfl rfl (Gf b 7 rfl rfl (Gl z rfl rfl rfl rfl rfl (Gn rfl rfl rfl rfl (Gb (.bool true) (by simp[go_sem,c2]) rfl rfl rfl rfl rfl (Gk rfl (Gk rfl (Gk rfl (Gk rfl (Gk rfl (Gk rfl (Gk rfl (Gk rfl (Gk rfl (Gk rfl (Gk rfl (Gk rfl (Gk rfl (Gk rfl (Gk rfl (Gk rfl (Gk rfl (Gk rfl (Gk rfl (Gk rfl (Gk rfl (Gk rfl (Gk rfl (Gk rfl (Gk rfl (Gk rfl (Gk rfl (Gk rfl (Gk rfl (Gk rfl (Gk rfl (Gk rfl (Gk rfl (Gk rfl (Gk rfl (Gk rfl (Gk rfl (Gk rfl (aF)))))))))))))))))))))))))))))))))))))))))))))))))))) (fun _=>rfl) rfl ?_;intro y W4 g _;have p:=ah ht g;replace cx:=cx.ext g;clear g;have hf:Hid (Lk=3):=ae (by rw[hE.out];exact sN t.out);have hq:Hid (gU H.ma=3):=ae (by rw[ha.out (by rw[hf.out];decide),hf.out]);clear hl hg hu hr;go_wp2;go_ret;rw[hq.out];exact⟨rfl,p⟩
   replace hl:=hl (by omega) (by omega);replace hg:=hg (by omega) (by omega);obtain⟨hu,kb⟩:=hu (by omega) (by omega);replace hr:=hr (by omega) (by omega);have hG:=ae kb;clear kb
   by_cases c3:c.i<0
   ·have t:Hid (c.f<0∨(H.ma.st.fs.length:Int)≤c.f∨c.i<0∨((aH H.ma.st c.f).b.length:Int)≤c.i∨c.k<0∨(H.ma.m.fs.length:Int)≤c.k):=ae (.inr (.inr (.inl c3)));refine aP 51 [_,_,_,_,_,_,_,_,_,_,_,_,_,_,_,_,_,_,_,_,_,_,_,_,_,_,_,_,_,_,_,_,_,_,_,_,_,_,_,_,_,_,_,_,_,_,_,_,_,_,.v (.bool true)] (Gf gc 0 rfl rfl (Gl cx rfl rfl rfl rfl rfl (Gb (.bool false) (by simp[go_sem,c1]) rfl rfl rfl rfl rfl (Gk rfl (Gf gc 0 rfl rfl (Gl cx rfl rfl rfl rfl rfl (Gk rfl (Gk rfl (Gf b 7 rfl rfl (Gf b 7 rfl rfl (Gl z rfl rfl rfl rfl rfl (Gn rfl rfl rfl rfl (Gb (.bool false) (by simp[go_sem,c2]) rfl rfl rfl rfl rfl (Gk rfl (Gk rfl (Gf gc 1 rfl rfl (Gl cx rfl rfl rfl rfl rfl (Gb (.bool true) (by simp[go_sem,c3]) rfl rfl rfl rfl rfl (Gk rfl (Gk rfl (Gk rfl (Gk rfl (Gk rfl (Gk rfl (Gk rfl (Gk rfl (Gk rfl (Gk rfl (Gk rfl (Gk rfl (Gk rfl (Gk rfl (Gk rfl (Gk rfl (Gk rfl (Gk rfl (Gk rfl (Gk rfl (Gk rfl (Gk rfl (Gk rfl (Gk rfl (Gk rfl (Gk rfl (Gk rfl (Gk rfl (Gk rfl (Gk rfl (Gk rfl (Gk rfl (Gk rfl (aF)))))))))))))))))))))))))))))))))))))))))))))))))))) (fun _=>rfl) rfl ?_;intro y W4 g _;have p:=ah ht g;replace cx:=cx.ext g;clear g;have hf:Hid (Lk=3):=ae (by rw[hE.out];exact sN t.out);have hq:Hid (gU H.ma=3):=ae (by rw[ha.out (by rw[hf.out];decide),hf.out]);clear hl hg hu hr;go_wp2;go_ret;rw[hq.out];exact⟨rfl,p⟩
   by_cases c4:(P.l.length:Int)≤c.i
   ·have t:Hid (c.f<0∨(H.ma.st.fs.length:Int)≤c.f∨c.i<0∨((aH H.ma.st c.f).b.length:Int)≤c.i∨c.k<0∨(H.ma.m.fs.length:Int)≤c.k):=ae (.inr (.inr (.inr (.inl (by rw[hG.out];exact c4)))));refine aP 51 [_,_,_,_,_,_,_,_,_,_,_,_,_,_,_,_,_,_,_,_,_,_,_,_,_,_,_,_,_,_,_,_,_,_,_,_,_,_,_,_,_,_,_,_,_,_,_,_,_,_,.v (.bool true)] (Gf gc 0 rfl rfl (Gl cx rfl rfl rfl rfl rfl (Gb (.bool false) (by simp[go_sem,c1]) rfl rfl rfl rfl rfl (Gk rfl (Gf gc 0 rfl rfl (Gl cx rfl rfl rfl rfl rfl (Gk rfl (Gk rfl (Gf b 7 rfl rfl (Gf b 7 rfl rfl (Gl z rfl rfl rfl rfl rfl (Gn rfl rfl rfl rfl (Gb (.bool false) (by simp[go_sem,c2]) rfl rfl rfl rfl rfl (Gk rfl (Gk rfl (Gf gc 1 rfl rfl (Gl cx rfl rfl rfl rfl rfl (Gb (.bool false) (by simp[go_sem,c3]) rfl rfl rfl rfl rfl (Gk rfl (Gk rfl (Gf gc 1 rfl rfl (Gl cx rfl rfl rfl rfl rfl (Gk rfl (Gk rfl (Gf b 7 rfl rfl (Gf b 7 rfl rfl (Gl z (V:=.slice (some ⟨bf,of,none⟩) H.fi.length H.ci) (by simp[bW,hl]) rfl rfl rfl rfl (Gf gc 0 rfl rfl (Gl cx (V:=.int .i64 (F:Int)) (by simp[zU,hu]) rfl rfl rfl rfl (Gr (.pointer (some ⟨bf,of+F*2,none⟩)) (fun ρ y W hb d=>(eX rfl (aU rfl d) (aU rfl d) hg underlying38 file_size)) rfl rfl (Gf bf (of+F*2+1) rfl rfl (Gc (.slice P.a P.l.length P.c) (fun W hb=>by simp[hr _ hb]) rfl rfl rfl rfl (Gn rfl rfl rfl rfl (Gb (.bool true) (by simp[go_sem,c4]) rfl rfl rfl rfl rfl (Gk rfl (Gk rfl (Gk rfl (Gk rfl (Gk rfl (Gk rfl (Gk rfl (Gk rfl (Gk rfl (Gk rfl (Gk rfl (Gk rfl (Gk rfl (Gk rfl (Gk rfl (Gk rfl (Gk rfl (aF)))))))))))))))))))))))))))))))))))))))))))))))))))) (fun _=>rfl) rfl ?_;intro y W4 g _;have p:=ah ht g;replace cx:=cx.ext g;clear g;have hf:Hid (Lk=3):=ae (by rw[hE.out];exact sN t.out);have hq:Hid (gU H.ma=3):=ae (by rw[ha.out (by rw[hf.out];decide),hf.out]);clear hl hg hu hr;go_wp2;go_ret;rw[hq.out];exact⟨rfl,p⟩
   by_cases c5:c.k<0
   ·have t:Hid (c.f<0∨(H.ma.st.fs.length:Int)≤c.f∨c.i<0∨((aH H.ma.st c.f).b.length:Int)≤c.i∨c.k<0∨(H.ma.m.fs.length:Int)≤c.k):=ae (.inr (.inr (.inr (.inr (.inl c5)))));refine aP 51 [_,_,_,_,_,_,_,_,_,_,_,_,_,_,_,_,_,_,_,_,_,_,_,_,_,_,_,_,_,_,_,_,_,_,_,_,_,_,_,_,_,_,_,_,_,_,_,_,_,_,.v (.bool true)] (Gf gc 0 rfl rfl (Gl cx rfl rfl rfl rfl rfl (Gb (.bool false) (by simp[go_sem,c1]) rfl rfl rfl rfl rfl (Gk rfl (Gf gc 0 rfl rfl (Gl cx rfl rfl rfl rfl rfl (Gk rfl (Gk rfl (Gf b 7 rfl rfl (Gf b 7 rfl rfl (Gl z rfl rfl rfl rfl rfl (Gn rfl rfl rfl rfl (Gb (.bool false) (by simp[go_sem,c2]) rfl rfl rfl rfl rfl (Gk rfl (Gk rfl (Gf gc 1 rfl rfl (Gl cx rfl rfl rfl rfl rfl (Gb (.bool false) (by simp[go_sem,c3]) rfl rfl rfl rfl rfl (Gk rfl (Gk rfl (Gf gc 1 rfl rfl (Gl cx rfl rfl rfl rfl rfl (Gk rfl (Gk rfl (Gf b 7 rfl rfl (Gf b 7 rfl rfl (Gl z (V:=.slice (some ⟨bf,of,none⟩) H.fi.length H.ci) (by simp[bW,hl]) rfl rfl rfl rfl (Gf gc 0 rfl rfl (Gl cx (V:=.int .i64 (F:Int)) (by simp[zU,hu]) rfl rfl rfl rfl (Gr (.pointer (some ⟨bf,of+F*2,none⟩)) (fun ρ y W hb d=>(eX rfl (aU rfl d) (aU rfl d) hg underlying38 file_size)) rfl rfl (Gf bf (of+F*2+1) rfl rfl (Gc (.slice P.a P.l.length P.c) (fun W hb=>by simp[hr _ hb]) rfl rfl rfl rfl (Gn rfl rfl rfl rfl (Gb (.bool false) (by simp[go_sem,c4]) rfl rfl rfl rfl rfl (Gk rfl (Gk rfl (Gf gc 2 rfl rfl (Gl cx rfl rfl rfl rfl rfl (Gb (.bool true) (by simp[go_sem,c5]) rfl rfl rfl rfl rfl (Gk rfl (Gk rfl (Gk rfl (Gk rfl (Gk rfl (Gk rfl (Gk rfl (Gk rfl (Gk rfl (Gk rfl (Gk rfl (Gk rfl (aF)))))))))))))))))))))))))))))))))))))))))))))))))))) (fun _=>rfl) rfl ?_;intro y W4 g _;have p:=ah ht g;replace cx:=cx.ext g;clear g;have hf:Hid (Lk=3):=ae (by rw[hE.out];exact sN t.out);have hq:Hid (gU H.ma=3):=ae (by rw[ha.out (by rw[hf.out];decide),hf.out]);clear hl hg hu hr;go_wp2;go_ret;rw[hq.out];exact⟨rfl,p⟩
   by_cases c6:(H.m.fs.length:Int)≤c.k
   ·have t:Hid (c.f<0∨(H.ma.st.fs.length:Int)≤c.f∨c.i<0∨((aH H.ma.st c.f).b.length:Int)≤c.i∨c.k<0∨(H.ma.m.fs.length:Int)≤c.k):=ae (.inr (.inr (.inr (.inr (.inr c6)))));refine aP 51 [_,_,_,_,_,_,_,_,_,_,_,_,_,_,_,_,_,_,_,_,_,_,_,_,_,_,_,_,_,_,_,_,_,_,_,_,_,_,_,_,_,_,_,_,_,_,_,_,_,_,.v (.bool true)] (Gf gc 0 rfl rfl (Gl cx rfl rfl rfl rfl rfl (Gb (.bool false) (by simp[go_sem,c1]) rfl rfl rfl rfl rfl (Gk rfl (Gf gc 0 rfl rfl (Gl cx rfl rfl rfl rfl rfl (Gk rfl (Gk rfl (Gf b 7 rfl rfl (Gf b 7 rfl rfl (Gl z rfl rfl rfl rfl rfl (Gn rfl rfl rfl rfl (Gb (.bool false) (by simp[go_sem,c2]) rfl rfl rfl rfl rfl (Gk rfl (Gk rfl (Gf gc 1 rfl rfl (Gl cx rfl rfl rfl rfl rfl (Gb (.bool false) (by simp[go_sem,c3]) rfl rfl rfl rfl rfl (Gk rfl (Gk rfl (Gf gc 1 rfl rfl (Gl cx rfl rfl rfl rfl rfl (Gk rfl (Gk rfl (Gf b 7 rfl rfl (Gf b 7 rfl rfl (Gl z (V:=.slice (some ⟨bf,of,none⟩) H.fi.length H.ci) (by simp[bW,hl]) rfl rfl rfl rfl (Gf gc 0 rfl rfl (Gl cx (V:=.int .i64 (F:Int)) (by simp[zU,hu]) rfl rfl rfl rfl (Gr (.pointer (some ⟨bf,of+F*2,none⟩)) (fun ρ y W hb d=>(eX rfl (aU rfl d) (aU rfl d) hg underlying38 file_size)) rfl rfl (Gf bf (of+F*2+1) rfl rfl (Gc (.slice P.a P.l.length P.c) (fun W hb=>by simp[hr _ hb]) rfl rfl rfl rfl (Gn rfl rfl rfl rfl (Gb (.bool false) (by simp[go_sem,c4]) rfl rfl rfl rfl rfl (Gk rfl (Gk rfl (Gf gc 2 rfl rfl (Gl cx rfl rfl rfl rfl rfl (Gb (.bool false) (by simp[go_sem,c5]) rfl rfl rfl rfl rfl (Gk rfl (Gk rfl (Gf gc 2 rfl rfl (Gl cx rfl rfl rfl rfl rfl (Gk rfl (Gk rfl (Gf b 0 rfl rfl (Gf b 0 rfl rfl (Gl z rfl rfl rfl rfl rfl (Gn rfl rfl rfl rfl (Gb (.bool true) (by simp[go_sem,c6]) rfl rfl rfl rfl rfl (Gk rfl (aF)))))))))))))))))))))))))))))))))))))))))))))))))))) (fun _=>rfl) rfl ?_;intro y W4 g _;have p:=ah ht g;replace cx:=cx.ext g;clear g;have hf:Hid (Lk=3):=ae (by rw[hE.out];exact sN t.out);have hq:Hid (gU H.ma=3):=ae (by rw[ha.out (by rw[hf.out];decide),hf.out]);clear hl hg hu hr;go_wp2;go_ret;rw[hq.out];exact⟨rfl,p⟩
   refine aP 51 [_,_,_,_,_,_,_,_,_,_,_,_,_,_,_,_,_,_,_,_,_,_,_,_,_,_,_,_,_,_,_,_,_,_,_,_,_,_,_,_,_,_,_,_,_,_,_,_,_,_,.v (.bool false)] (Gf gc 0 rfl rfl (Gl cx rfl rfl rfl rfl rfl (Gb (.bool false) (by simp[go_sem,c1]) rfl rfl rfl rfl rfl (Gk rfl (Gf gc 0 rfl rfl (Gl cx rfl rfl rfl rfl rfl (Gk rfl (Gk rfl (Gf b 7 rfl rfl (Gf b 7 rfl rfl (Gl z rfl rfl rfl rfl rfl (Gn rfl rfl rfl rfl (Gb (.bool false) (by simp[go_sem,c2]) rfl rfl rfl rfl rfl (Gk rfl (Gk rfl (Gf gc 1 rfl rfl (Gl cx rfl rfl rfl rfl rfl (Gb (.bool false) (by simp[go_sem,c3]) rfl rfl rfl rfl rfl (Gk rfl (Gk rfl (Gf gc 1 rfl rfl (Gl cx rfl rfl rfl rfl rfl (Gk rfl (Gk rfl (Gf b 7 rfl rfl (Gf b 7 rfl rfl (Gl z (V:=.slice (some ⟨bf,of,none⟩) H.fi.length H.ci) (by simp[bW,hl]) rfl rfl rfl rfl (Gf gc 0 rfl rfl (Gl cx (V:=.int .i64 (F:Int)) (by simp[zU,hu]) rfl rfl rfl rfl (Gr (.pointer (some ⟨bf,of+F*2,none⟩)) (fun ρ y W hb d=>(eX rfl (aU rfl d) (aU rfl d) hg underlying38 file_size)) rfl rfl (Gf bf (of+F*2+1) rfl rfl (Gc (.slice P.a P.l.length P.c) (fun W hb=>by simp[hr _ hb]) rfl rfl rfl rfl (Gn rfl rfl rfl rfl (Gb (.bool false) (by simp[go_sem,c4]) rfl rfl rfl rfl rfl (Gk rfl (Gk rfl (Gf gc 2 rfl rfl (Gl cx rfl rfl rfl rfl rfl (Gb (.bool false) (by simp[go_sem,c5]) rfl rfl rfl rfl rfl (Gk rfl (Gk rfl (Gf gc 2 rfl rfl (Gl cx rfl rfl rfl rfl rfl (Gk rfl (Gk rfl (Gf b 0 rfl rfl (Gf b 0 rfl rfl (Gl z rfl rfl rfl rfl rfl (Gn rfl rfl rfl rfl (Gb (.bool false) (by simp[go_sem,c6]) rfl rfl rfl rfl rfl (Gk rfl (aF)))))))))))))))))))))))))))))))))))))))))))))))))))) (fun _=>rfl) rfl ?_;intro y W4 g _;have p:=ah ht g;replace cx:=cx.ext g;clear g;obtain⟨K,kg⟩:∃K:Nat,c.k=K:=⟨c.k.toNat,by omega⟩;have hO:K<H.m.fs.length:=by omega
   have hR:=hbk.ext p;have h5:=h.below p;obtain⟨bg,og,kr,hF⟩:=pG iO (by decide) h5.fr.rd K hO;have hy:Hid (Lk=if (aD H.ma K).r<1∨(aD H.ma K).f≠c.f∨(aD H.ma K).i≠c.i then 7 else match xD H.ca k with
    | none=>0
    | some q=>if c.f<q.f∨q.f=c.f∧c.i≤q.i then 2 else 0):=ae (by
    rw[hE.out];unfold sG;rw[if_neg (by rw[hY.out,hG.out];show ¬(c.f<0∨(H.fi.length:Int)≤c.f∨c.i<0∨(P.l.length:Int)≤c.i∨c.k<0∨(H.m.fs.length:Int)≤c.k);omega),kg];rfl)
   have h3:H.m.fs[K]=aD H.ma K:=by have:=rZ (m:=H.ma) (f:=K) hO;have h2:H.m.fs[K]?=some (aD H.ma K):=this;rw[aN hO] at h2;exact aS h2
   rw[h3] at hF;generalize aD H.ma K=x at *
   clear h3 hl hg hr hG hY z hV c2 c3 c4 c5 c6 c1 hE hu;go_upto_region 6 with (fail);refine aP 10 [_,_,_,_,_,_,_,_,_,.r 9 ((eO W4.heap.size 132 13))] (Gk rfl (Gk rfl (Gf b 0 rfl rfl (Gf b 0 rfl rfl (Gl hR (V:=.slice (some ⟨bg,og,none⟩) H.m.fs.length H.cf) (by simp[bW,kr]) rfl rfl rfl rfl (Gf gc 2 rfl rfl (Gl cx (V:=.int .i64 (K:Int)) (by simp[zU,kg]) rfl rfl rfl rfl (Gr (.pointer (some ⟨bg,og+K*13,none⟩)) (fun ρ y W hb d=>(eX rfl (aU rfl d) (aU rfl d) hO underlying29 frame_size)) rfl rfl (Gr (.agg (xV x)) (fun ρ y W hb d=>(bG rfl (aU rfl d) (hF.below hb) underlying132 rfl frame_size)) rfl rfl (aj ?_ (aF))))))))))) (fun _=>rfl) rfl ?_
   ·intro ρ y W hw hn hb hd;refine gz (.pointer (some ⟨W.heap.size,0,none⟩)) (ag rfl) (by simp[execOp,go_sem]) ((Below.refl _ _).alloc (az _) (.cells #[.int .u8 0,.int .u8 0,.int .u8 0,.int .u8 0,.int .u8 0,.int .u8 0,.int .u8 0,.int .u8 0,.int .i64 0,.bool false,.bool false,.int .i64 0,.int .i64 0] 132)) ?_;exact⟨_,_,rfl,hb.size,aJ.new _ _ _,rfl⟩
   intro y W5 hI hU;have kn:((eO W4.heap.size 132 13)).r (y 9) W5:=hU 9 (by decide);clear hU;obtain⟨gx,curx,h9,h8,ki,hQ⟩:=kn;rw[h9]
   go_wp2_with (refine gy rfl _ _ _ rfl gx 0 (xV x) rfl rfl _ _ ki (by rw[hQ];exact az _) frame_size (uf x) ?_)
   intro w6 hZ ka;rw[dU _ _ (by rw[hQ];rfl)] at hZ;have hC:Below W4.heap.size W4 w6:=hI.grown ka hI.size (fun k hk=>by cases hk;exact h8);have hm:=ah p hC;have cx6:=cx.ext hC;have n:=hbk.ext hm;clear ki hI ka cx hR h5 hF hC h9;have kc:=hZ.cell;unfold xV at kc;have ke:=cx6.cell;unfold zU at ke
   by_cases d1:x.r<1
   ·have hB:Hid (Lk=7):=ae (by rw[hy.out,if_pos (.inl d1)]);have hq:Hid (gU H.ma=7):=ae (by rw[ha.out (by rw[hB.out];decide),hB.out]);clear n;go_wp2;go_ret;rw[hq.out];exact⟨rfl,hm⟩
   by_cases d2:x.f=c.f
   rotate_left
   ·have hB:Hid (Lk=7):=ae (by rw[hy.out,if_pos (.inr (.inl d2))]);have hq:Hid (gU H.ma=7):=ae (by rw[ha.out (by rw[hB.out];decide),hB.out]);clear n;go_wp2;go_ret;rw[hq.out];exact⟨rfl,hm⟩
   by_cases d3:x.i=c.i
   rotate_left
   ·have hB:Hid (Lk=7):=ae (by rw[hy.out,if_pos (.inr (.inr d3))]);have hq:Hid (gU H.ma=7):=ae (by rw[ha.out (by rw[hB.out];decide),hB.out]);clear n;go_wp2;go_ret;rw[hq.out];exact⟨rfl,hm⟩
   rw[if_neg (by rintro (h | h | h);exact d1 h;exact h d2;exact h d3)] at hy;go_upto_region 9 with (fail);clear kc ke hZ d1 d2 d3;obtain⟨k1,q,hh,o,hp,hx,h7⟩:∃(k1:Nat) (q:Cc),(0<k→IntKind.i64.wrap ((k:Int)-1)=(k1:Int))∧(0<k→k1<H.ca.length)∧(0<k→∀W,Below w6.heap.size w6 W→W.cell? ⟨bc,oc+k1*3,none⟩=some (.int .i64 q.f))∧(0<k→∀W,Below w6.heap.size w6 W→W.cell? ⟨bc,oc+k1*3+1,none⟩=some (.int .i64 q.i))∧(0<k→xD H.ca k=some q):=by
    by_cases h0:0<k
    ·have hD:k-1<H.ca.length:=by omega
     have hH:∀W,Below w6.heap.size w6 W→W.cell? ⟨bc,oc+(k-1)*3,none⟩=some (.int .i64 H.ca[k-1].f)∧W.cell? ⟨bc,oc+(k-1)*3+1,none⟩=some (.int .i64 H.ca[k-1].i):=fun W hb=>by obtain⟨bc',oc',c',hT,kh,e1,e2,_⟩:=QA (h.below (ah hm hb)).ca.rd (k-1) hD;rw[aN hD] at kh;cases kh;rw[hv] at hT;cases hT;exact⟨e1,e2⟩
     refine⟨k-1,H.ca[k-1],fun _ => ?_,fun _=>hD,fun _ W hb=>(hH W hb).1,fun _ W hb=>(hH W hb).2,fun _ => ?_⟩
     ·rw[show (k:Int)-1=((k-1:Nat):Int) by omega];exact bP _ (by omega)
     ·rw[h6.out,if_neg (by omega),aN hD]
    ·exact⟨0,zCc,fun h'=>absurd h' h0,fun h'=>absurd h' h0,fun h'=>absurd h' h0,fun h'=>absurd h' h0,fun h'=>absurd h' h0⟩
   by_cases e1:k=0
   ·have e1i:¬(0:Int)<(k:Int):=by omega
    have hK:Hid (Lk=0):=ae (by rw[hy.out,h6.out,if_pos e1]);refine aP 44 [_,_,_,_,_,_,_,_,_,_,_,_,_,_,_,_,_,_,_,_,_,_,_,_,_,_,_,_,_,_,_,_,_,_,_,_,_,_,_,_,_,_,_,.v (.bool false)] (Gk rfl (Gb (.bool false) (by simp[go_sem,e1]) rfl rfl rfl rfl rfl (Gk rfl (Gk rfl (Gk rfl (Gk rfl (Gk rfl (Gk rfl (Gk rfl (Gk rfl (Gk rfl (Gk rfl (Gk rfl (Gk rfl (Gk rfl (Gk rfl (Gk rfl (Gk rfl (Gk rfl (Gk rfl (Gk rfl (Gk rfl (Gk rfl (Gk rfl (Gk rfl (Gk rfl (Gk rfl (Gk rfl (Gk rfl (Gk rfl (Gk rfl (Gk rfl (Gk rfl (Gk rfl (Gk rfl (Gk rfl (Gk rfl (Gk rfl (Gk rfl (Gk rfl (Gk rfl (Gk rfl (Gk rfl (Gk rfl (aF))))))))))))))))))))))))))))))))))))))))))))) (fun _=>rfl) rfl ?_;intro y W7 u _;have hs:=ah hm u;clear u;have hA:=ae (hW.out hK.out);clear hp hx hh o cx6 n;go_wp2;go_roundw
    case rel=>exact⟨k+1,by omega,by go_num,hs,hA⟩
    case measure=>simp[intOf];omega
   have e1i:0<k:=by omega
   replace hh:=hh (by omega);replace o:=o (by omega);replace hp:=hp (by omega);replace hx:=hx (by omega);have hM:=ae (h7 (by omega));clear h7
   by_cases e2:c.f<q.f
   ·have t:Hid (c.f<q.f∨q.f=c.f∧c.i≤q.i):=ae (.inl e2);refine aP 44 [_,_,_,_,_,_,_,_,_,_,_,_,_,_,_,_,_,_,_,_,_,_,_,_,_,_,_,_,_,_,_,_,_,_,_,_,_,_,_,_,_,_,_,.v (.bool true)] (Gk rfl (Gb (.bool true) (by simp[go_sem,e1i]) rfl rfl rfl rfl rfl (Gk rfl (Gk rfl (Gk rfl (Gf b 9 rfl rfl (Gl n (V:=.slice (some ⟨bc,oc,none⟩) H.ca.length H.cc) (by simp[bW,hv]) rfl rfl rfl rfl (Gk rfl (Gb (.int .i64 (k1:Int)) (by simp[go_sem,hh]) rfl rfl rfl rfl rfl (Gr (.pointer (some ⟨bc,oc+k1*3,none⟩)) (fun ρ y W hb d=>(eX rfl (aU rfl d) (aU rfl d) o underlying41 cached_size)) rfl rfl (Gf bc (oc+k1*3) rfl rfl (Gc (.int .i64 q.f) (fun W hb=>by simp[hp _ hb]) rfl rfl rfl rfl (Gf gc 0 rfl rfl (Gl cx6 rfl rfl rfl rfl rfl (Gb (.bool true) (by simp[go_sem,e2]) rfl rfl rfl rfl rfl (Gk rfl (Gk rfl (Gk rfl (Gk rfl (Gk rfl (Gk rfl (Gk rfl (Gk rfl (Gk rfl (Gk rfl (Gk rfl (Gk rfl (Gk rfl (Gk rfl (Gk rfl (Gk rfl (Gk rfl (Gk rfl (Gk rfl (Gk rfl (Gk rfl (Gk rfl (Gk rfl (Gk rfl (Gk rfl (Gk rfl (Gk rfl (Gk rfl (Gk rfl (aF))))))))))))))))))))))))))))))))))))))))))))) (fun _=>rfl) rfl ?_;intro y W7 u _;have hs:=ah hm u;clear u;have hJ:Hid (Lk=2):=ae (by rw[hy.out,hM.out];simp only;rw[if_pos t.out]);have hq:Hid (gU H.ma=2):=ae (by rw[ha.out (by rw[hJ.out];decide),hJ.out]);clear hp hx hh o cx6 n;go_wp2;go_ret;rw[hq.out];exact⟨rfl,hs⟩
   by_cases e3:q.f=c.f
   ·by_cases e4:c.i≤q.i
    ·have t:Hid (c.f<q.f∨q.f=c.f∧c.i≤q.i):=ae (.inr ⟨e3,e4⟩);refine aP 44 [_,_,_,_,_,_,_,_,_,_,_,_,_,_,_,_,_,_,_,_,_,_,_,_,_,_,_,_,_,_,_,_,_,_,_,_,_,_,_,_,_,_,_,.v (.bool true)] (Gk rfl (Gb (.bool true) (by simp[go_sem,e1i]) rfl rfl rfl rfl rfl (Gk rfl (Gk rfl (Gk rfl (Gf b 9 rfl rfl (Gl n (V:=.slice (some ⟨bc,oc,none⟩) H.ca.length H.cc) (by simp[bW,hv]) rfl rfl rfl rfl (Gk rfl (Gb (.int .i64 (k1:Int)) (by simp[go_sem,hh]) rfl rfl rfl rfl rfl (Gr (.pointer (some ⟨bc,oc+k1*3,none⟩)) (fun ρ y W hb d=>(eX rfl (aU rfl d) (aU rfl d) o underlying41 cached_size)) rfl rfl (Gf bc (oc+k1*3) rfl rfl (Gc (.int .i64 q.f) (fun W hb=>by simp[hp _ hb]) rfl rfl rfl rfl (Gf gc 0 rfl rfl (Gl cx6 rfl rfl rfl rfl rfl (Gb (.bool false) (by simp[go_sem,e2]) rfl rfl rfl rfl rfl (Gk rfl (Gk rfl (Gk rfl (Gf b 9 rfl rfl (Gl n (V:=.slice (some ⟨bc,oc,none⟩) H.ca.length H.cc) (by simp[bW,hv]) rfl rfl rfl rfl (Gk rfl (Gb (.int .i64 (k1:Int)) (by simp[go_sem,hh]) rfl rfl rfl rfl rfl (Gr (.pointer (some ⟨bc,oc+k1*3,none⟩)) (fun ρ y W hb d=>(eX rfl (aU rfl d) (aU rfl d) o underlying41 cached_size)) rfl rfl (Gf bc (oc+k1*3) rfl rfl (Gc (.int .i64 q.f) (fun W hb=>by simp[hp _ hb]) rfl rfl rfl rfl (Gf gc 0 rfl rfl (Gl cx6 rfl rfl rfl rfl rfl (Gb (.bool true) (by simp[go_sem,e3]) rfl rfl rfl rfl rfl (Gk rfl (Gk rfl (Gk rfl (Gf b 9 rfl rfl (Gl n (V:=.slice (some ⟨bc,oc,none⟩) H.ca.length H.cc) (by simp[bW,hv]) rfl rfl rfl rfl (Gk rfl (Gb (.int .i64 (k1:Int)) (by simp[go_sem,hh]) rfl rfl rfl rfl rfl (Gr (.pointer (some ⟨bc,oc+k1*3,none⟩)) (fun ρ y W hb d=>(eX rfl (aU rfl d) (aU rfl d) o underlying41 cached_size)) rfl rfl (Gf bc (oc+k1*3+1) rfl rfl (Gc (.int .i64 q.i) (fun W hb=>by simp[hx _ hb]) rfl rfl rfl rfl (Gf gc 1 rfl rfl (Gl cx6 rfl rfl rfl rfl rfl (Gb (.bool true) (by simp[go_sem,e4]) rfl rfl rfl rfl rfl (Gk rfl (Gk rfl (Gk rfl (aF))))))))))))))))))))))))))))))))))))))))))))) (fun _=>rfl) rfl ?_;intro y W7 u _;have hs:=ah hm u;clear u;have hJ:Hid (Lk=2):=ae (by rw[hy.out,hM.out];simp only;rw[if_pos t.out]);have hq:Hid (gU H.ma=2):=ae (by rw[ha.out (by rw[hJ.out];decide),hJ.out]);clear hp hx hh o cx6 n;go_wp2;go_ret;rw[hq.out];exact⟨rfl,hs⟩
    have hK:Hid (Lk=0):=ae (by rw[hy.out,hM.out];simp only;rw[if_neg (by omega)]);refine aP 44 [_,_,_,_,_,_,_,_,_,_,_,_,_,_,_,_,_,_,_,_,_,_,_,_,_,_,_,_,_,_,_,_,_,_,_,_,_,_,_,_,_,_,_,.v (.bool false)] (Gk rfl (Gb (.bool true) (by simp[go_sem,e1i]) rfl rfl rfl rfl rfl (Gk rfl (Gk rfl (Gk rfl (Gf b 9 rfl rfl (Gl n (V:=.slice (some ⟨bc,oc,none⟩) H.ca.length H.cc) (by simp[bW,hv]) rfl rfl rfl rfl (Gk rfl (Gb (.int .i64 (k1:Int)) (by simp[go_sem,hh]) rfl rfl rfl rfl rfl (Gr (.pointer (some ⟨bc,oc+k1*3,none⟩)) (fun ρ y W hb d=>(eX rfl (aU rfl d) (aU rfl d) o underlying41 cached_size)) rfl rfl (Gf bc (oc+k1*3) rfl rfl (Gc (.int .i64 q.f) (fun W hb=>by simp[hp _ hb]) rfl rfl rfl rfl (Gf gc 0 rfl rfl (Gl cx6 rfl rfl rfl rfl rfl (Gb (.bool false) (by simp[go_sem,e2]) rfl rfl rfl rfl rfl (Gk rfl (Gk rfl (Gk rfl (Gf b 9 rfl rfl (Gl n (V:=.slice (some ⟨bc,oc,none⟩) H.ca.length H.cc) (by simp[bW,hv]) rfl rfl rfl rfl (Gk rfl (Gb (.int .i64 (k1:Int)) (by simp[go_sem,hh]) rfl rfl rfl rfl rfl (Gr (.pointer (some ⟨bc,oc+k1*3,none⟩)) (fun ρ y W hb d=>(eX rfl (aU rfl d) (aU rfl d) o underlying41 cached_size)) rfl rfl (Gf bc (oc+k1*3) rfl rfl (Gc (.int .i64 q.f) (fun W hb=>by simp[hp _ hb]) rfl rfl rfl rfl (Gf gc 0 rfl rfl (Gl cx6 rfl rfl rfl rfl rfl (Gb (.bool true) (by simp[go_sem,e3]) rfl rfl rfl rfl rfl (Gk rfl (Gk rfl (Gk rfl (Gf b 9 rfl rfl (Gl n (V:=.slice (some ⟨bc,oc,none⟩) H.ca.length H.cc) (by simp[bW,hv]) rfl rfl rfl rfl (Gk rfl (Gb (.int .i64 (k1:Int)) (by simp[go_sem,hh]) rfl rfl rfl rfl rfl (Gr (.pointer (some ⟨bc,oc+k1*3,none⟩)) (fun ρ y W hb d=>(eX rfl (aU rfl d) (aU rfl d) o underlying41 cached_size)) rfl rfl (Gf bc (oc+k1*3+1) rfl rfl (Gc (.int .i64 q.i) (fun W hb=>by simp[hx _ hb]) rfl rfl rfl rfl (Gf gc 1 rfl rfl (Gl cx6 rfl rfl rfl rfl rfl (Gb (.bool false) (by simp[go_sem,e4]) rfl rfl rfl rfl rfl (Gk rfl (Gk rfl (Gk rfl (aF))))))))))))))))))))))))))))))))))))))))))))) (fun _=>rfl) rfl ?_;intro y W7 u _;have hs:=ah hm u;clear u;have hA:=ae (hW.out hK.out);clear hp hx hh o cx6 n;go_wp2;go_roundw
    case rel=>exact⟨k+1,by omega,by go_num,hs,hA⟩
    case measure=>simp[intOf];omega
   have hK:Hid (Lk=0):=ae (by rw[hy.out,hM.out];simp only;rw[if_neg (by omega)]);refine aP 44 [_,_,_,_,_,_,_,_,_,_,_,_,_,_,_,_,_,_,_,_,_,_,_,_,_,_,_,_,_,_,_,_,_,_,_,_,_,_,_,_,_,_,_,.v (.bool false)] (Gk rfl (Gb (.bool true) (by simp[go_sem,e1i]) rfl rfl rfl rfl rfl (Gk rfl (Gk rfl (Gk rfl (Gf b 9 rfl rfl (Gl n (V:=.slice (some ⟨bc,oc,none⟩) H.ca.length H.cc) (by simp[bW,hv]) rfl rfl rfl rfl (Gk rfl (Gb (.int .i64 (k1:Int)) (by simp[go_sem,hh]) rfl rfl rfl rfl rfl (Gr (.pointer (some ⟨bc,oc+k1*3,none⟩)) (fun ρ y W hb d=>(eX rfl (aU rfl d) (aU rfl d) o underlying41 cached_size)) rfl rfl (Gf bc (oc+k1*3) rfl rfl (Gc (.int .i64 q.f) (fun W hb=>by simp[hp _ hb]) rfl rfl rfl rfl (Gf gc 0 rfl rfl (Gl cx6 rfl rfl rfl rfl rfl (Gb (.bool false) (by simp[go_sem,e2]) rfl rfl rfl rfl rfl (Gk rfl (Gk rfl (Gk rfl (Gf b 9 rfl rfl (Gl n (V:=.slice (some ⟨bc,oc,none⟩) H.ca.length H.cc) (by simp[bW,hv]) rfl rfl rfl rfl (Gk rfl (Gb (.int .i64 (k1:Int)) (by simp[go_sem,hh]) rfl rfl rfl rfl rfl (Gr (.pointer (some ⟨bc,oc+k1*3,none⟩)) (fun ρ y W hb d=>(eX rfl (aU rfl d) (aU rfl d) o underlying41 cached_size)) rfl rfl (Gf bc (oc+k1*3) rfl rfl (Gc (.int .i64 q.f) (fun W hb=>by simp[hp _ hb]) rfl rfl rfl rfl (Gf gc 0 rfl rfl (Gl cx6 rfl rfl rfl rfl rfl (Gb (.bool false) (by simp[go_sem,e3]) rfl rfl rfl rfl rfl (Gk rfl (Gk rfl (Gk rfl (Gk rfl (Gk rfl (Gk rfl (Gk rfl (Gk rfl (Gk rfl (Gk rfl (Gk rfl (Gk rfl (Gk rfl (Gk rfl (Gk rfl (Gk rfl (aF))))))))))))))))))))))))))))))))))))))))))))) (fun _=>rfl) rfl ?_;intro y W7 u _;have hs:=ah hm u;clear u;have hA:=ae (hW.out hK.out);clear hp hx hh o cx6 n;go_wp2;go_roundw
   case rel=>exact⟨k+1,by omega,by go_num,hs,hA⟩
   case measure=>simp[intOf];omega
  have kq:¬(k:Int)<(H.ca.length:Int):=by omega
  have hq:Hid (gU H.ma=0):=ae (by rw[km.out,rz fun i hi=>hz.out i hi (by rw[kl.out] at hi;omega)]);clear hz;go_wp2;go_ret;rw[hq.out];exact⟨rfl,hN⟩
theorem PN {s:Sp} (h:fB s.ar n<0):bQ m s n=5:=by unfold bQ;exact if_pos h
theorem KQ (H:MH) (P:PS) (n:Int) (b bs os:Nat) (w:World) (hbk:aJ w b (bW H) 44) (h:Ga w H) (hrd:eB w (some ⟨bs,os,none⟩) (zw P)) (hg:P.good w) (har:(dH P.ar).1=0) (htb:dO P.tb=0) (hn:0≤n∧n<64) :
  Calls Tryz.prog 52 #[.pointer (some ⟨b,0,none⟩),.pointer (some ⟨bs,os,none⟩),.int .i64 n] w fun r w'=>r = .returned (.int .i64 (bQ H.ma P.sp n))∧Below w.heap.size w w':=by
 have hV:∀W,Below w.heap.size w W→W.cell? ⟨bs,os+1,none⟩=some (.slice P.aa P.ar.length P.ac):=fun W hb=>by obtain⟨b',o',e,hc⟩:=(hrd.below hb) 1 _ rfl;cases e;exact hc
 go_enter func52,ntmps52;have ki:=hV w (Below.refl _ _);have hA:=hg.ars
 go_wp2_with fail
 refine (EL P.ar n P.aa P.ac _ hA.rd (by have:=hA.le;have:=hA.mx;unfold maxLen at this;omega)).mono ?_;rintro r w1 ⟨rfl,hx⟩;have hT:=hbk.ext hx;have h1:=h.below hx;have hX:=hg.below hx;have hR:=hrd.below hx;clear ki hA
 by_cases hf:fB P.ar n<0
 ·have hq:Hid (bQ H.ma P.sp n=5):=ae (PN hf);clear hT;go_wp2;go_ret;rw[hq.out];exact⟨rfl,hx⟩
 have hE:Hid (bQ H.ma P.sp n=(let a:=P.ar.getD (fB P.ar n).toNat zAr
  let e:=dB P.tb n
  if e.k=2 then (if (H.sl.length:Int)≤e.n∨a.sh=true then 7 else 0)
  else if (H.m.fs.length:Int)≤e.n then 3 else
  let f:=gP H.ma e.n;let of:=decide (0≤a.fi)&&decide (f.f=a.fi)&&decide (f.i=a.ba+n-a.fr)
  if 0≤f.f∧of=false∨a.sh=true∧of=false∨a.sh=false∧of=true∧e.w=true∨e.w=true∧a.wr=false then 7
  else if f.f<0∧e.w=true∧1<f.r then 7 else 0)):=ae (by unfold bQ;exact if_neg hf)
 obtain⟨k,hk,hO,_⟩:=Cb (q:=uW n) (l:=P.ar) (by show 0≤fB P.ar n;omega);have hW : fB P.ar n=k:=hk;rw[hW,bD,bM,aN hO] at hE;simp only[rQ] at hE;have ku:¬(k:Int)<0:=by omega
 rw[hW];obtain⟨ba,oa,kl,hU⟩:=pG jo (by decide) hX.ars.rd k hO;have kg:=(qm har).2 _ (eZ hO);have hM:=(fK kg).1;have kt:=(dS _).1 (vT htb n);generalize P.ar[k]=a at *
 generalize hge:dB P.tb n=e at *
 have ka:=ae hge;clear hk hW hf kg hge;go_upto_region 4 with (fail);refine gH 15 [_,_,_,_,_,_,_,_,_,_,_,.v (.agg (nI e)),.r 12 ((eO w1.heap.size 129 3)),.v (.pointer (some ⟨ba,oa+k*7,none⟩)),.y 14 ((IJ 12 w1.heap.size 129 (gI (.agg (nI e)))))] (fun W=>Below w1.heap.size w1 W) bA (Below.refl _ _) (Yk bA rfl (Yk bA rfl (Yf bA bs (os+1) rfl rfl (Yc bA (.slice (some ⟨ba,oa,none⟩) P.ar.length P.ac) (fun W hb=>by simp[hV _ (ah hx hb),kl]) rfl rfl rfl rfl (Yk bA rfl (Yr bA (.pointer (some ⟨ba,oa+k*7,none⟩)) (fun ρ y W hb hB=>(eX rfl (aU rfl hB) (aU rfl hB) hO underlying80 area_size)) rfl rfl (Yk bA rfl (Yk bA rfl (Yf bA bs (os+2) rfl rfl (Yr bA (.agg (tX P.ts)) (fun ρ y W hb hB=>(bG rfl (aU rfl hB) (mW (hR.below hb) 2 8) underlying112 tab_agg tab_size)) rfl rfl (Yk bA rfl (aj ?_ (aj ?_ (Yk bA rfl (aj ?_ (aF)))))))))))))))) (fun _=>rfl) rfl ?_
 ·intro ρ y W hw hn hb hd;refine eP bA hb (gI (.agg (nI e))) (fun _ _ h=>h) ?_;have kr:=hw 30 9 rfl;have h9:y 9 = .agg (tX P.ts):=hd 9 rfl;have kq:=hw 31 10 rfl;have ko:y 10 = .int .i64 n:=hd 10 rfl;have EF:∀f,ρ (.func f) = .func (.func f) #[] #[]:=fun f=>hn (.func f) trivial;refine aK _ _ (ag rfl) (aQ rfl (EF _) func53 (by kernel_rfl) (by kernel_rfl) (by simp only[bT,bF,bI,kr,h9,kq,ko,EF];rfl)) ?_;refine (zt P.tb (tX P.ts) n W (hX.below hb).tb).mono ?_;rintro r w2 ⟨rfl,kj⟩;rw[ka.out];exact⟨_,rfl,kj,rfl⟩
 ·intro ρ y W hw hn hb hd;refine eP bA hb ((eO w1.heap.size 129 3)) (fun _ _ h=>h) ?_;refine gz (.pointer (some ⟨W.heap.size,0,none⟩)) (ag rfl) (by simp[execOp,go_sem,bu]) ((Below.refl _ _).alloc (az _) (.cells #[.int .i64 0,.int .i64 0,.bool false] 129)) ?_;exact⟨_,_,rfl,hb.size,aJ.new _ _ _,rfl⟩
 ·intro ρ y W hw hn hb hd;have E9:=hw 9 12 rfl;have km:=hd 12 rfl;have kp:=hw 32 11 rfl;have kn:y 11 = .agg (nI e):=hd 11 rfl;obtain⟨g3,cur3,e9,kb,ke,h7⟩:=km;refine iZ (ag rfl) _ _ _ rfl g3 0 (.agg (nI e)) (nI e).toList (E9.trans e9) (kp.trans kn) rfl cur3 _ ke (by rw[h7];exact az _) entry_size (gG (by simp[nI,Value.oneCell'])) ?_;intro w1 hG h8;rw[dU cur3 _ (by rw[h7];rfl)] at hG;refine⟨hb.grown h8 hb.size (fun k hk=>by cases hk;exact kb),⟨g3,_,e9,kb,hG,rfl⟩,?_⟩;intro k hk kh
  match k,hk,kh with
  | 0,_,_=>exact fun h=>h
  | 1,_,_=>exact fun h=>h
  | 2,_,_=>exact fun h=>h
  | 3,_,_=>exact fun h=>h
  | 4,_,_=>exact fun h=>h
  | 5,_,_=>exact fun h=>h
  | 6,_,_=>exact fun h=>h
  | 7,_,_=>exact fun h=>h
  | 8,_,_=>exact fun h=>h
  | 9,_,_=>exact fun h=>h
  | 10,_,_=>exact fun h=>h
  | 11,_,_=>exact fun h=>h
  | 12,_,_=>exact fun q=>iy q hG (fun _=>rfl) ⟨_,ke⟩ h8
  | 13,_,_=>exact fun h=>h
  | 14,_,h=>exact absurd rfl h
  | n+15,h,_=>exact absurd h (by omega)
 intro y w4 hF hN;replace hF:Below w1.heap.size w1 w4:=hF;have h0:((eO w1.heap.size 129 3)).r (y 12) w4:=hN 12 (by decide);have hZ:=hN 14 (by decide);clear hN;simp only[dE,bu,bF,bI];obtain⟨ge,cce,hS,ks,kf,kc⟩:=hZ;have hY : cce=nI e:=by simpa[gI] using kc
 subst hY;rw[hS];have hz:=hF;have hm:=ah hx hz;have ex:=kf;have hs:=hbk.ext hm;have h4:=h.below hm;have hL:=hU.below hz;clear hF hz hS kf hU hR hT h1 hx hV hX h0;have hH:∀j u,(fA a)[j]?=some u→∀W,Below w4.heap.size w4 W→W.cell? ⟨ba,oa+k*7+j,none⟩=some u:=fun j u hj W hb=>by obtain⟨b',o',e',hc⟩:=(hL.below hb) j u hj;cases e';exact hc
 have hl:=hH 3 _ rfl;have hi:=hH 4 _ rfl;have t:=hH 5 _ rfl;have hC:=hH 6 _ rfl;have hD:∀W,Below w4.heap.size w4 W→W.cell? ⟨ba,oa+k*7,none⟩=some (.int .i64 a.fr):=hH 0 _ rfl;have s:=ex.cell;unfold nI at s;clear hH hL
 by_cases hk2:e.k=2
 ·rw[if_pos hk2] at hE;rw[hk2] at s;go_upto_region 6 with (fail);clear s hk2
  by_cases c1:(H.sl.length:Int)≤e.n
  ·have hq:Hid (bQ H.ma P.sp n=7):=ae (by rw[hE.out,if_pos (.inl c1)]);refine aP 14 [_,_,_,_,_,_,_,_,_,_,_,_,_,.v (.bool true)] (Gf ge 1 rfl rfl (Gl ex rfl rfl rfl rfl rfl (Gk rfl (Gk rfl (Gf b 2 rfl rfl (Gl hs rfl rfl rfl rfl rfl (Gn rfl rfl rfl rfl (Gb (.bool true) (by simp[go_sem,c1]) rfl rfl rfl rfl rfl (Gk rfl (Gk rfl (Gk rfl (Gk rfl (Gk rfl (Gk rfl (aF))))))))))))))) (fun _=>rfl) rfl ?_;intro y W5 o _;have p:=ah hm o;clear o;go_wp2;go_ret;rw[hq.out];exact⟨rfl,p⟩
  cases c2:a.sh with
  | true=>
   have hq:Hid (bQ H.ma P.sp n=7):=ae (by rw[hE.out,if_pos (.inr c2)]);refine aP 14 [_,_,_,_,_,_,_,_,_,_,_,_,_,.v (.bool true)] (Gf ge 1 rfl rfl (Gl ex rfl rfl rfl rfl rfl (Gk rfl (Gk rfl (Gf b 2 rfl rfl (Gl hs rfl rfl rfl rfl rfl (Gn rfl rfl rfl rfl (Gb (.bool false) (by simp[go_sem,c1]) rfl rfl rfl rfl rfl (Gk rfl (Gk rfl (Gk rfl (Gf ba (oa+k*7+4) rfl rfl (Gc (.bool true) (fun W hb=>by simp[hi _ hb,c2]) rfl rfl rfl rfl (Gk rfl (aF))))))))))))))) (fun _=>rfl) rfl ?_;intro y W5 o _;have p:=ah hm o;clear o;go_wp2;go_ret;rw[hq.out];exact⟨rfl,p⟩
  | false=>
   have hq:Hid (bQ H.ma P.sp n=0):=ae (by rw[hE.out,if_neg (by rw[c2];simp;omega)]);refine aP 14 [_,_,_,_,_,_,_,_,_,_,_,_,_,.v (.bool false)] (Gf ge 1 rfl rfl (Gl ex rfl rfl rfl rfl rfl (Gk rfl (Gk rfl (Gf b 2 rfl rfl (Gl hs rfl rfl rfl rfl rfl (Gn rfl rfl rfl rfl (Gb (.bool false) (by simp[go_sem,c1]) rfl rfl rfl rfl rfl (Gk rfl (Gk rfl (Gk rfl (Gf ba (oa+k*7+4) rfl rfl (Gc (.bool false) (fun W hb=>by simp[hi _ hb,c2]) rfl rfl rfl rfl (Gk rfl (aF))))))))))))))) (fun _=>rfl) rfl ?_;intro y W5 o _;have p:=ah hm o;clear o;go_wp2;go_ret;rw[hq.out];exact⟨rfl,p⟩
 rw[if_neg hk2] at hE;obtain⟨K,hK⟩:∃K:Nat,e.n=K:=⟨e.n.toNat,by omega⟩;rw[hK] at hE;go_upto_region 9 with (fail);clear s
 by_cases c3:(H.m.fs.length:Int)≤(K:Int)
 ·have hq:Hid (bQ H.ma P.sp n=3):=ae (by rw[hE.out,if_pos c3]);have c3e:(H.m.fs.length:Int)≤e.n:=by omega
  refine aP 9 [_,_,_,_,_,_,_,_,_] (Gf ge 1 rfl rfl (Gl ex rfl rfl rfl rfl rfl (Gk rfl (Gk rfl (Gf b 0 rfl rfl (Gf b 0 rfl rfl (Gl hs rfl rfl rfl rfl rfl (Gn rfl rfl rfl rfl (Gb (.bool true) (by simp[go_sem,c3e]) rfl rfl rfl rfl rfl (aF)))))))))) (fun _=>rfl) rfl ?_;intro y W5 o _;have p:=ah hm o;clear o hD hl hi t hC c3 c3e;go_wp2;go_ret;rw[hq.out];exact⟨rfl,p⟩
 rw[if_neg c3] at hE;have c3e:¬(H.m.fs.length:Int)≤e.n:=by omega
 refine aP 9 [_,_,_,_,_,_,_,_,_] (Gf ge 1 rfl rfl (Gl ex rfl rfl rfl rfl rfl (Gk rfl (Gk rfl (Gf b 0 rfl rfl (Gf b 0 rfl rfl (Gl hs rfl rfl rfl rfl rfl (Gn rfl rfl rfl rfl (Gb (.bool false) (by simp[go_sem,c3e]) rfl rfl rfl rfl rfl (aF)))))))))) (fun _=>rfl) rfl ?_;intro y W5 o _;have p:=ah hm o;have hQ:K<H.m.fs.length:=by omega
 replace ex:=ex.ext o;have hp:=hbk.ext p;have h5:=h.below p;have sh:∀ {u:Value} {z:Addr},(∀W,Below w4.heap.size w4 W→W.cell? z=some u)→∀W,Below W5.heap.size W5 W→W.cell? z=some u:=fun hh W hb=>hh W (ah o hb);replace hD:=sh hD;replace hl:=sh hl;replace hi:=sh hi;replace t:=sh t;replace hC:=sh hC;obtain⟨bg,og,kk,hr⟩:=pG iO (by decide) h5.fr.rd K hQ;have h3:H.m.fs[K]=aD H.ma K:=by have:=rZ (m:=H.ma) (f:=K) hQ;have h2:H.m.fs[K]?=some (aD H.ma K):=this;rw[aN hQ] at h2;exact aS h2
 rw[h3] at hr;have c:Hid (bQ H.ma P.sp n=(let of:=decide (0≤a.fi)&&decide ((aD H.ma K).f=a.fi)&&decide ((aD H.ma K).i=a.ba+n-a.fr)
  if 0≤(aD H.ma K).f∧of=false∨a.sh=true∧of=false∨a.sh=false∧of=true∧e.w=true∨e.w=true∧a.wr=false then 7
  else if (aD H.ma K).f<0∧e.w=true∧1<(aD H.ma K).r then 7 else 0)):=ae (by rw[hE.out];rfl)
 generalize aD H.ma K=x at *
 clear hE h3 o hs h4 hm c3 sh;go_upto_region 11 with (fail);refine aP 9 [_,_,_,_,_,_,_,_,.v (.pointer (some ⟨bg,og+K*13,none⟩))] (Gk rfl (Gk rfl (Gf b 0 rfl rfl (Gf b 0 rfl rfl (Gl hp (V:=.slice (some ⟨bg,og,none⟩) H.m.fs.length H.cf) (by simp[bW,kk]) rfl rfl rfl rfl (Gf ge 1 rfl rfl (Gl ex (V:=.int .i64 (K:Int)) (by simp[nI,hK]) rfl rfl rfl rfl (Gr (.pointer (some ⟨bg,og+K*13,none⟩)) (fun ρ y W hb hB=>(eX rfl (aU rfl hB) (aU rfl hB) hQ underlying29 frame_size)) rfl rfl (Gk rfl (aF)))))))))) (fun _=>rfl) rfl ?_;intro y W7 hv _;have hJ:=ah p hv;have ex7:=ex.ext hv;have kd:=hbk.ext hJ;have sh:∀ {u:Value} {z:Addr},(∀W,Below W5.heap.size W5 W→W.cell? z=some u)→∀W,Below W7.heap.size W7 W→W.cell? z=some u:=fun hh W hb=>hh W (ah hv hb);replace hD:=sh hD;replace hl:=sh hl;replace hi:=sh hi;replace t:=sh t;replace hC:=sh hC;have hI:=hr.below hv;clear ex hp hv sh hr p h5;have hG:IntKind.i64.wrap (a.ba+n)=a.ba+n:=bP _ (by obtain⟨⟨z1,z2⟩,⟨z3,z4⟩,z5,z6⟩:=hM;omega);have h6:IntKind.i64.wrap (a.ba+n-a.fr)=a.ba+n-a.fr:=bP _ (by obtain⟨⟨z1,z2⟩,⟨z3,z4⟩,z5,z6⟩:=hM;omega);go_upto_region 12 with (fail);refine aP 12 [_,_,_,_,_,_,_,_,_,_,_,.v (.int .i64 (a.ba+n-a.fr))] (Gk rfl (Gk rfl (Gf ba (oa+k*7+6) rfl rfl (Gc (.int .i64 a.ba) (fun W hb=>by simp[hC _ hb]) rfl rfl rfl rfl (Gk rfl (Gb (.int .i64 (a.ba+n)) (by simp[go_sem,hG]) rfl rfl rfl rfl rfl (Gk rfl (Gk rfl (Gf ba (oa+k*7) rfl rfl (Gc (.int .i64 a.fr) (fun W hb=>by simp[hD _ hb]) rfl rfl rfl rfl (Gb (.int .i64 (a.ba+n-a.fr)) (by simp[go_sem,h6]) rfl rfl rfl rfl rfl (Gk rfl (aF))))))))))))) (fun _=>rfl) rfl ?_;intro y W5 o _;have p:=ah hJ o;have ex:=ex7.ext o;have hp:=hbk.ext p;have sh:∀ {u:Value} {z:Addr},(∀W,Below W7.heap.size W7 W→W.cell? z=some u)→∀W,Below W5.heap.size W5 W→W.cell? z=some u:=fun hh W hb=>hh W (ah o hb);replace hl:=sh hl;replace hi:=sh hi;replace t:=sh t;have hr:=hI.below o;clear ex7 kd o sh hI hJ hG h6 hD hC;have hP:∀j u,(oH x)[j]?=some u→∀W,Below W5.heap.size W5 W→W.cell? ⟨bg,og+K*13+j,none⟩=some u:=fun j u hj W hb=>by obtain⟨b',o',e',hc⟩:=(hr.below hb) j u hj;cases e';exact hc
 have hy:=hP 8 _ rfl;have ha:=hP 11 _ rfl;have ht:=hP 12 _ rfl;clear hP hr;go_upto_region 13 with (fail)
 by_cases g1:0≤a.fi
 ·by_cases g2:x.f=a.fi
  ·by_cases g3:x.i=a.ba+n-a.fr
   ·skip;refine aP 25 [_,_,_,_,_,_,_,_,_,_,_,_,_,_,_,_,_,_,_,_,_,_,_,_,.v (.bool true)] (Gk rfl (Gk rfl (Gf ba (oa+k*7+5) rfl rfl (Gc (.int .i64 a.fi) (fun W hb=>by simp[t _ hb]) rfl rfl rfl rfl (Gb (.bool true) (by simp[go_sem,g1]) rfl rfl rfl rfl rfl (Gk rfl (Gk rfl (Gk rfl (Gf bg (og+K*13+11) rfl rfl (Gc (.int .i64 x.f) (fun W hb=>by simp[ha _ hb]) rfl rfl rfl rfl (Gk rfl (Gk rfl (Gf ba (oa+k*7+5) rfl rfl (Gc (.int .i64 a.fi) (fun W hb=>by simp[t _ hb]) rfl rfl rfl rfl (Gb (.bool true) (by simp[go_sem,g2]) rfl rfl rfl rfl rfl (Gk rfl (Gk rfl (Gk rfl (Gk rfl (Gf bg (og+K*13+12) rfl rfl (Gc (.int .i64 x.i) (fun W hb=>by simp[ht _ hb]) rfl rfl rfl rfl (Gk rfl (Gb (.bool true) (by simp[go_sem,g3]) rfl rfl rfl rfl rfl (Gk rfl (Gk rfl (aF)))))))))))))))))))))))))) (fun _=>rfl) rfl ?_;intro y W6 d _;have g:=ah p d;have x8:=hy _ d;have x11:=ha _ d;have a3:=hl _ d;have a4:=hi _ d;have s:=(ex.ext d).cell;unfold nI at s;clear d hl hi t hy ha ht ex hp;have f1:0≤x.f:=by omega
    have f1n:¬x.f<0:=by omega
    replace c:Hid (bQ H.ma P.sp n=if a.sh=false∧e.w=true∨e.w=true∧a.wr=false then 7 else 0):=ae (by rw[c.out,decide_eq_true g1,decide_eq_true g2,decide_eq_true g3];simp[f1n]);clear g2 g3;cases f2:a.sh with
    | true=>
     rw[f2] at a4;cases f3:e.w with
     | false=>
      rw[f3] at s;have hq:Hid (bQ H.ma P.sp n=0):=ae (by rw[c.out];simp[*];try omega);clear c;go_wp2;go_ret;rw[hq.out];exact⟨rfl,g⟩
     | true=>
      rw[f3] at s;cases f4:a.wr with
      | false=>
       rw[f4] at a3;have hq:Hid (bQ H.ma P.sp n=7):=ae (by rw[c.out];simp[*];try omega);clear c;go_wp2;go_ret;rw[hq.out];exact⟨rfl,g⟩
      | true=>
       rw[f4] at a3;have hq:Hid (bQ H.ma P.sp n=0):=ae (by rw[c.out];simp[*];try omega);clear c;go_wp2;go_ret;rw[hq.out];exact⟨rfl,g⟩
    | false=>
     rw[f2] at a4;cases f3:e.w with
     | true=>
      rw[f3] at s;have hq:Hid (bQ H.ma P.sp n=7):=ae (by rw[c.out];simp[*];try omega);clear c;go_wp2;go_ret;rw[hq.out];exact⟨rfl,g⟩
     | false=>
      rw[f3] at s;have hq:Hid (bQ H.ma P.sp n=0):=ae (by rw[c.out];simp[*];try omega);clear c;go_wp2;go_ret;rw[hq.out];exact⟨rfl,g⟩
   skip;refine aP 25 [_,_,_,_,_,_,_,_,_,_,_,_,_,_,_,_,_,_,_,_,_,_,_,_,.v (.bool false)] (Gk rfl (Gk rfl (Gf ba (oa+k*7+5) rfl rfl (Gc (.int .i64 a.fi) (fun W hb=>by simp[t _ hb]) rfl rfl rfl rfl (Gb (.bool true) (by simp[go_sem,g1]) rfl rfl rfl rfl rfl (Gk rfl (Gk rfl (Gk rfl (Gf bg (og+K*13+11) rfl rfl (Gc (.int .i64 x.f) (fun W hb=>by simp[ha _ hb]) rfl rfl rfl rfl (Gk rfl (Gk rfl (Gf ba (oa+k*7+5) rfl rfl (Gc (.int .i64 a.fi) (fun W hb=>by simp[t _ hb]) rfl rfl rfl rfl (Gb (.bool true) (by simp[go_sem,g2]) rfl rfl rfl rfl rfl (Gk rfl (Gk rfl (Gk rfl (Gk rfl (Gf bg (og+K*13+12) rfl rfl (Gc (.int .i64 x.i) (fun W hb=>by simp[ht _ hb]) rfl rfl rfl rfl (Gk rfl (Gb (.bool false) (by simp[go_sem,g3]) rfl rfl rfl rfl rfl (Gk rfl (Gk rfl (aF)))))))))))))))))))))))))) (fun _=>rfl) rfl ?_;intro y W6 d _;have g:=ah p d;have x8:=hy _ d;have x11:=ha _ d;have a3:=hl _ d;have a4:=hi _ d;have s:=(ex.ext d).cell;unfold nI at s;clear d hl hi t hy ha ht ex hp;have hu:(decide (0≤a.fi)&&decide (x.f=a.fi)&&decide (x.i=a.ba+n-a.fr))=false:=by simp[*]
   replace c:Hid (bQ H.ma P.sp n=if 0≤x.f∨a.sh=true∨e.w=true∧a.wr=false then 7 else if x.f<0∧e.w=true∧1<x.r then 7 else 0):=ae (by rw[c.out,hu];simp);clear hu g2 g3
   by_cases f1:0≤x.f
   ·skip;have hq:Hid (bQ H.ma P.sp n=7):=ae (by rw[c.out];simp[*];try omega);clear c;go_wp2;go_ret;rw[hq.out];exact⟨rfl,g⟩
   have f1n:x.f<0:=by omega
   cases f2:a.sh with
   | true=>
    rw[f2] at a4;have hq:Hid (bQ H.ma P.sp n=7):=ae (by rw[c.out];simp[*];try omega);clear c;go_wp2;go_ret;rw[hq.out];exact⟨rfl,g⟩
   | false=>
    rw[f2] at a4;cases f3:e.w with
    | false=>
     rw[f3] at s;have hq:Hid (bQ H.ma P.sp n=0):=ae (by rw[c.out];simp[*];try omega);clear c;go_wp2;go_ret;rw[hq.out];exact⟨rfl,g⟩
    | true=>
     rw[f3] at s;cases f4:a.wr with
     | false=>
      rw[f4] at a3;have hq:Hid (bQ H.ma P.sp n=7):=ae (by rw[c.out];simp[*];try omega);clear c;go_wp2;go_ret;rw[hq.out];exact⟨rfl,g⟩
     | true=>
      rw[f4] at a3
      by_cases f5:1<x.r
      ·skip;have hq:Hid (bQ H.ma P.sp n=7):=ae (by rw[c.out];simp[*];try omega);clear c;go_wp2;go_ret;rw[hq.out];exact⟨rfl,g⟩
      skip;have hq:Hid (bQ H.ma P.sp n=0):=ae (by rw[c.out];simp[*];try omega);clear c;go_wp2;go_ret;rw[hq.out];exact⟨rfl,g⟩
  skip;refine aP 25 [_,_,_,_,_,_,_,_,_,_,_,_,_,_,_,_,_,_,_,_,_,_,_,_,.v (.bool false)] (Gk rfl (Gk rfl (Gf ba (oa+k*7+5) rfl rfl (Gc (.int .i64 a.fi) (fun W hb=>by simp[t _ hb]) rfl rfl rfl rfl (Gb (.bool true) (by simp[go_sem,g1]) rfl rfl rfl rfl rfl (Gk rfl (Gk rfl (Gk rfl (Gf bg (og+K*13+11) rfl rfl (Gc (.int .i64 x.f) (fun W hb=>by simp[ha _ hb]) rfl rfl rfl rfl (Gk rfl (Gk rfl (Gf ba (oa+k*7+5) rfl rfl (Gc (.int .i64 a.fi) (fun W hb=>by simp[t _ hb]) rfl rfl rfl rfl (Gb (.bool false) (by simp[go_sem,g2]) rfl rfl rfl rfl rfl (Gk rfl (Gk rfl (Gk rfl (Gk rfl (Gk rfl (Gk rfl (Gk rfl (Gk rfl (Gk rfl (Gk rfl (aF)))))))))))))))))))))))))) (fun _=>rfl) rfl ?_;intro y W6 d _;have g:=ah p d;have x8:=hy _ d;have x11:=ha _ d;have a3:=hl _ d;have a4:=hi _ d;have s:=(ex.ext d).cell;unfold nI at s;clear d hl hi t hy ha ht ex hp;have hu:(decide (0≤a.fi)&&decide (x.f=a.fi)&&decide (x.i=a.ba+n-a.fr))=false:=by simp[*]
  replace c:Hid (bQ H.ma P.sp n=if 0≤x.f∨a.sh=true∨e.w=true∧a.wr=false then 7 else if x.f<0∧e.w=true∧1<x.r then 7 else 0):=ae (by rw[c.out,hu];simp);clear hu g2
  by_cases f1:0≤x.f
  ·skip;have hq:Hid (bQ H.ma P.sp n=7):=ae (by rw[c.out];simp[*];try omega);clear c;go_wp2;go_ret;rw[hq.out];exact⟨rfl,g⟩
  have f1n:x.f<0:=by omega
  cases f2:a.sh with
  | true=>
   rw[f2] at a4;have hq:Hid (bQ H.ma P.sp n=7):=ae (by rw[c.out];simp[*];try omega);clear c;go_wp2;go_ret;rw[hq.out];exact⟨rfl,g⟩
  | false=>
   rw[f2] at a4;cases f3:e.w with
   | false=>
    rw[f3] at s;have hq:Hid (bQ H.ma P.sp n=0):=ae (by rw[c.out];simp[*];try omega);clear c;go_wp2;go_ret;rw[hq.out];exact⟨rfl,g⟩
   | true=>
    rw[f3] at s;cases f4:a.wr with
    | false=>
     rw[f4] at a3;have hq:Hid (bQ H.ma P.sp n=7):=ae (by rw[c.out];simp[*];try omega);clear c;go_wp2;go_ret;rw[hq.out];exact⟨rfl,g⟩
    | true=>
     rw[f4] at a3
     by_cases f5:1<x.r
     ·skip;have hq:Hid (bQ H.ma P.sp n=7):=ae (by rw[c.out];simp[*];try omega);clear c;go_wp2;go_ret;rw[hq.out];exact⟨rfl,g⟩
     skip;have hq:Hid (bQ H.ma P.sp n=0):=ae (by rw[c.out];simp[*];try omega);clear c;go_wp2;go_ret;rw[hq.out];exact⟨rfl,g⟩
 skip;refine aP 25 [_,_,_,_,_,_,_,_,_,_,_,_,_,_,_,_,_,_,_,_,_,_,_,_,.v (.bool false)] (Gk rfl (Gk rfl (Gf ba (oa+k*7+5) rfl rfl (Gc (.int .i64 a.fi) (fun W hb=>by simp[t _ hb]) rfl rfl rfl rfl (Gb (.bool false) (by simp[go_sem,g1]) rfl rfl rfl rfl rfl (Gk rfl (Gk rfl (Gk rfl (Gk rfl (Gk rfl (Gk rfl (Gk rfl (Gk rfl (Gk rfl (Gk rfl (Gk rfl (Gk rfl (Gk rfl (Gk rfl (Gk rfl (Gk rfl (Gk rfl (Gk rfl (Gk rfl (Gk rfl (aF)))))))))))))))))))))))))) (fun _=>rfl) rfl ?_;intro y W6 d _;have g:=ah p d;have x8:=hy _ d;have x11:=ha _ d;have a3:=hl _ d;have a4:=hi _ d;have s:=(ex.ext d).cell;unfold nI at s;clear d hl hi t hy ha ht ex hp;have hu:(decide (0≤a.fi)&&decide (x.f=a.fi)&&decide (x.i=a.ba+n-a.fr))=false:=by simp[*]
 replace c:Hid (bQ H.ma P.sp n=if 0≤x.f∨a.sh=true∨e.w=true∧a.wr=false then 7 else if x.f<0∧e.w=true∧1<x.r then 7 else 0):=ae (by rw[c.out,hu];simp);clear hu g1
 by_cases f1:0≤x.f
 ·skip;have hq:Hid (bQ H.ma P.sp n=7):=ae (by rw[c.out];simp[*];try omega);clear c;go_wp2;go_ret;rw[hq.out];exact⟨rfl,g⟩
 have f1n:x.f<0:=by omega
 cases f2:a.sh with
 | true=>
  rw[f2] at a4;have hq:Hid (bQ H.ma P.sp n=7):=ae (by rw[c.out];simp[*];try omega);clear c;go_wp2;go_ret;rw[hq.out];exact⟨rfl,g⟩
 | false=>
  rw[f2] at a4;cases f3:e.w with
  | false=>
   rw[f3] at s;have hq:Hid (bQ H.ma P.sp n=0):=ae (by rw[c.out];simp[*];try omega);clear c;go_wp2;go_ret;rw[hq.out];exact⟨rfl,g⟩
  | true=>
   rw[f3] at s;cases f4:a.wr with
   | false=>
    rw[f4] at a3;have hq:Hid (bQ H.ma P.sp n=7):=ae (by rw[c.out];simp[*];try omega);clear c;go_wp2;go_ret;rw[hq.out];exact⟨rfl,g⟩
   | true=>
    rw[f4] at a3
    by_cases f5:1<x.r
    ·skip;have hq:Hid (bQ H.ma P.sp n=7):=ae (by rw[c.out];simp[*];try omega);clear c;go_wp2;go_ret;rw[hq.out];exact⟨rfl,g⟩
    skip;have hq:Hid (bQ H.ma P.sp n=0):=ae (by rw[c.out];simp[*];try omega);clear c;go_wp2;go_ret;rw[hq.out];exact⟨rfl,g⟩
def isK (i:Int) (c:Cc):Bool:=decide (c.k=i)
theorem LW (c:Cc) (i:Int) (g:Nat) (w:World) (hg:aJ w g #[.int .i64 i] 3) :
  Calls Tryz.prog 55 #[.agg (zU c),.pointer (some ⟨g,0,none⟩)] w fun r w'=>r = .returned (.bool (isK i c))∧Below w.heap.size w w':=by
 go_enter func55,ntmps55;go_upto_region 1 with (fail);refine jl (fun W=>Code.wp _ _ _ _ W) fun W0 a b d => ?_;clear d;have e:=(hg.ext a).cell 0;have f:=b.cell;have q2:(zU c)[2]?=some (.int .i64 c.k):=rfl;go_wp2;go_ret;exact⟨bK (by unfold isK;rfl),a⟩
theorem SE (l:List Cc) (a:Option Addr) (c:Nat) (w:World) (hrd:eB w a (l.flatMap jG)) (hl:l.length≤9223372036854775807) (g:Nat) (kk:Int) (hg:aJ w g #[.int .i64 kk] 3) :
  Calls Tryz.prog 99 #[.slice a l.length c,.func (.func 55) #[] #[.pointer (some ⟨g,0,none⟩)]] w fun e w'=>e = .returned (.int .i64 (idx (isK kk) l))∧Below w.heap.size w w':=by
 go_enter func99,ntmps99;go_wp2
 go_loopw [8] (fun i wr => ∃k:Nat,k≤l.length∧i = .int .i64 k∧Below w.heap.size w wr∧∀i (h:i<l.length),i<k→(isK kk) l[i]=false) (fun i _=>l.length-(intOf i).toNat)
 case atStart=>exact⟨0,bB _,rfl,Below.refl _ _,fun i _ h=>absurd h (gL _)⟩
 case round=>
  obtain⟨k,hk,rfl,j,n⟩:=hrel;have hp:=ae n;clear n
  by_cases hlt:k<l.length
  ·obtain⟨b,off,rfl,p⟩:=MQ (hrd.below j) k hlt
   go_wp2_with (refine aC _ _ rfl b (off+k*3) rfl rfl _ p _ underlying124 rfl cached_size ?_)
   refine (LW l[k] kk g _ (hg.ext j)).mono ?_;rintro e w2 ⟨rfl,o⟩;have f:=ah j o;clear o;cases hpk:(isK kk) l[k]
   ·have m:=ae hpk;clear hpk;go_wp2;go_roundw
    case rel=>exact⟨k+1,by omega,by go_num,f,nH hp.out hlt m.out⟩
    case measure=>simp[intOf];omega
   have d:=ae (pz (isK kk) l k hlt hp.out hpk);clear hpk;go_wp2;go_ret;exact⟨bi d.out.symm,f⟩
  have d:=ae (ky (isK kk) l fun i h=>hp.out i h (by omega));go_wp2;go_ret;exact⟨bi d.out.symm,j⟩
theorem Sd (l:List Cc) (a:Option Addr) (c:Nat) (w:World) (hrd:eB w a (l.flatMap jG)) (hl:l.length≤9223372036854775807) (g:Nat) (kk:Int) (hg:aJ w g #[.int .i64 kk] 3) :
  Calls Tryz.prog 54 #[.slice a l.length c,.func (.func 55) #[] #[.pointer (some ⟨g,0,none⟩)]] w fun e w'=>e = .returned (.bool (l.any (isK kk)))∧Below w.heap.size w w':=by
 go_enter func54,ntmps54
 go_wp2_with fail
 refine (SE l a c _ hrd hl g kk hg).mono ?_;rintro e w2 ⟨rfl,b⟩;go_wp2;go_ret;exact⟨bK (pW _ _),b⟩
theorem Ju (l m:List Int) (a a' : Option Addr) (c c' : Nat) (w:World) (hrd:eB w a (l.map iI)) (hrd' : eB w a' (m.map iI)) (hl:l.length≤9223372036854775807) (hl' : m.length≤9223372036854775807) :
  Calls Tryz.prog 56 #[.slice a l.length c,.slice a' m.length c'] w fun e w'=>e = .returned (.bool (l==m))∧Below w.heap.size w w':=by
 go_enter func56,ntmps56
 by_cases hlm:l.length=m.length
 ·have f:((l.length:Int) != (m.length:Int))=false:=by simp[hlm]
  go_wp2
  go_loopw [13] (fun i wr => ∃k:Nat,k≤l.length∧i = .int .i64 k∧Below w.heap.size w wr∧∀i (h:i<l.length),i<k→l[i]=m[i]'(by omega)) (fun i _=>l.length-(intOf i).toNat)
  case atStart=>exact⟨0,bB _,rfl,Below.refl _ _,fun i _ h=>absurd h (gL _)⟩
  case round=>
   obtain⟨k,hk,rfl,d,hp⟩:=hrel
   by_cases hlt:k<l.length
   ·obtain⟨b,off,rfl,hc⟩:=lm (hrd.below d) k hlt;obtain⟨b',off',rfl,g⟩:=lm (hrd'.below d) k (by omega);have k1:(k:Int)<(m.length:Int):=by omega
    go_wp2_with fail
    go_quiet (fail)
    by_cases he:l[k]=m[k]'(by omega)
    ·have hz:(l[k] != m[k]'(by omega))=false:=by simp[he]
     go_wp2;go_roundw
     case rel=>exact⟨k+1,by omega,by go_num,below_drewN d _,upto hp hlt he⟩
     case measure=>simp[intOf];omega
    have hz:(l[k] != m[k]'(by omega))=true:=by simp[he]
    go_wp2;go_ret;exact⟨bK (Oe k hlt (by omega) he).symm,below_drewN d _⟩
   go_wp2
   all_goals
    go_ret;exact⟨bK (Oq hlm fun i h=>hp i h (by omega)).symm,d⟩
 have f:((l.length:Int) != (m.length:Int))=true:=by simp;omega
 go_wp2;go_ret;refine⟨bK ?_,Below.refl _ _⟩;symm;rw[beq_eq_false_iff_ne];rintro rfl;exact hlm rfl
theorem lQ (n:Nat) (l:List Int):(ku n l).length=n:=by simp[ku]
theorem nu (n:Nat) (l:List Int) (i:Nat) (hi:i<n):(ku n l)[i]?=some (cnt l i:Int):=by simp[ku,hi]
theorem Jk (l:List Int) (k i:Int):cnt (l++[k]) i=cnt l i+(if k=i then 1 else 0):=by
 rw[yT];congr 1;unfold cnt;rw[pU,List.countP_nil]
 by_cases h:k=i
 ·simp[h]
 ·simp[h]
theorem CE (n:Nat) (l:List Int) (k:Nat) (hk:k<n):(ku n l).set k ((cnt l k:Int)+1)=ku n (l++[(k:Int)]):=by
 apply nO;intro i;rw[qL,lQ]
 by_cases e:k=i
 ·subst e;rw[if_pos rfl,if_pos hk,nu _ _ _ hk,Jk,if_pos rfl];simp
 rw[if_neg e]
 by_cases hi:i<n
 ·rw[nu _ _ _ hi,nu _ _ _ hi,Jk,if_neg (by omega)];rfl
 ·rw[fo (by rw[lQ];omega),fo (by rw[lQ];omega)]
theorem Ib (n:Nat):ku n []=List.replicate n 0:=by
 unfold ku cnt;apply nO;intro i;rw[iY,rV]
 by_cases hi:i<n
 ·rw[rJ hi,if_pos hi];rfl
 ·rw[if_neg hi,fo (by simp;omega)];rfl
theorem GV (l:List Int) (i:Int):cnt l i≤l.length:=wG
def IB (w:World) (g:Nat) (l:List Int):Prop:=aJ w g (l.map iI).toArray 3
theorem Fy (n:Nat):madeCells #[.int .i64 0] n=((List.replicate n (0:Int)).map iI).toArray:=by
 apply Array.ext
 ·simp[size_madeCells]
 intro i h1 h2;simp[madeCells,iI,Nat.mod_one]
theorem IB.cell (h:IB w g l) {v:Int} (hv:l[k]?=some v):w.cell? ⟨g,k,none⟩=some (.int .i64 v):=by
 have:=aJ.cell h k;rw[this];simp[hv,iI]
theorem IB.set {v:Int} (hk:k<l.length):dF (l.map iI).toArray k [.int .i64 v]=((l.set k v).map iI).toArray:=by
 show ((l.map iI).toArray).setIfInBounds k (.int .i64 v)=_;rw[yE];simp[iI]
theorem xI {r:List Int} (h:∀x∈l,x=0):firstE (l++r)=firstE r:=by
 induction l with
 | nil=>rfl
 | cons a l ih=>
  have h0:=h a kv;rw[BZ];rw[firstE,h0];simp only[if_true,ne_eq,not_true_eq_false,if_false];exact ih fun x hx=>h x (jM _ hx)
theorem OX {x:Int} {r:List Int} (h:x≠0):firstE (x::r)=x:=by
 rw[firstE];simp[h]
theorem Kv {s:Sp} (hs:m.sp[p]?=some s) (hn:(aM s.tb)[j]?=some n) (h1:∀t∈m.sp.take p,∀i∈aM t.tb,bQ m t i=0) (h2:∀i∈(aM s.tb).take j,bQ m s i=0) (hne:bQ m s n≠0):lN m=bQ m s n:=by
 unfold lN;have e1:m.sp=m.sp.take p++s::m.sp.drop (p+1):=by rw[←drop_at hs,pR]
 have e2:aM s.tb=(aM s.tb).take j++n::(aM s.tb).drop (j+1):=by rw[←drop_at hn,pR]
 rw[e1,gK,xI (fun x hx => ?_),oV,e2,gX,mQ,xI (fun x hx => ?_),bF,BZ,OX hne]
 ·obtain⟨i,hi,rfl⟩:=eD.1 hx;exact h2 i hi
 obtain⟨t,ht,hx⟩:=ji.1 hx;obtain⟨i,hi,rfl⟩:=eD.1 hx;exact h1 t ht i hi
theorem JZ (h:∀t∈m.sp,∀i∈aM t.tb,bQ m t i=0):lN m=0:=by
 unfold lN;rw[←nY (m.sp.flatMap _),xI (fun x hx => ?_)]
 ·rfl
 obtain⟨t,ht,hx⟩:=ji.1 hx;obtain⟨i,hi,rfl⟩:=eD.1 hx;exact h t ht i hi
theorem Ry {s:Sp} (h:bQ m s n=0):((dB s.tb n).k=2→(dB s.tb n).n<m.sl.length)∧((dB s.tb n).k≠2→(dB s.tb n).n<m.m.fs.length):=by
 unfold bQ at h;split at h
 ·cases h
 simp only at h;split at h
 ·rename_i h2;split at h
  ·cases h
  rename_i h3;exact⟨fun _=>by omega,fun h'=>absurd h2 h'⟩
 rename_i h2;split at h
 ·cases h
 ·exact⟨fun h'=>absurd h' h2,fun _=>by omega⟩
def lD (m:Ma) (p:Nat) (l:List Int):List Int:=m.ca.map Cc.k++(m.sp.take p).flatMap (fun s=>mY s.tb (aM s.tb))++l
def jQ (m:Ma) (p:Nat) (l:List Int):List Int:=(m.sp.take p).flatMap (fun s=>swapT s.tb (aM s.tb))++l
theorem Pd (t:Tb) (l:List Int) (n:Int):mY t (l++[n])=mY t l++(if (dB t n).k=1 then [(dB t n).n] else []):=by
 unfold mY;rw[ui,gX];congr 1
 by_cases h:(dB t n).k=1
 ·simp[h]
 ·simp[h]
theorem Pk (t:Tb) (l:List Int) (n:Int):swapT t (l++[n])=swapT t l++(if (dB t n).k=1 then [] else [(dB t n).n]):=by
 unfold swapT;rw[ui,gX];congr 1
 by_cases h:(dB t n).k=1
 ·simp[h]
 ·simp[h]
theorem Ll {s:Sp} (hs:m.sp[p]?=some s):lD m p (mY s.tb (aM s.tb))=lD m (p+1) []:=by
 unfold lD;rw[take_at hs,gK,nY,mQ];simp
theorem Kc {s:Sp} (hs:m.sp[p]?=some s):jQ m p (swapT s.tb (aM s.tb))=jQ m (p+1) []:=by
 unfold jQ;rw[take_at hs,gK,nY];simp
theorem NR (m:Ma):lD m m.sp.length []=qD m:=by unfold lD qD;rw[wF,nY]
theorem Mk (m:Ma):jQ m m.sp.length []=oF m:=by unfold jQ oF;rw[wF,nY]
theorem KE (m:Ma) (p:Nat) (l:List Int) (k:Int):lD m p (l++[k])=lD m p l++[k]:=by unfold lD;rw[mQ,mQ,mQ]
theorem Kj (m:Ma) (p:Nat) (l:List Int) (k:Int):jQ m p (l++[k])=jQ m p l++[k]:=by unfold jQ;rw[mQ]
theorem zX (t:Tb) (l:List Int):(mY t l).length≤l.length:=by unfold mY;rw[fP];exact wy _ _
theorem Fj (t:Tb) (l:List Int):(swapT t l).length≤l.length:=by unfold swapT;rw[fP];exact wy _ _
theorem flat_len {α:Type} (g:α→List Int) (c:Nat) (h:∀x,(g x).length≤c):∀l:List α,(l.flatMap g).length≤c*l.length
 | []=>by simp
 | x::l=>by have h1:=flat_len g c h l;have h2:=h x;rw[oV,iK,nz,Nat.mul_succ];omega
theorem uu (t:Tb):(aM t).length≤64:=qp t 64
theorem Pm (m:Ma) (p:Nat) (l:List Int):(lD m p l).length≤m.ca.length+64*m.sp.length+l.length:=by
 unfold lD;have h1:=flat_len (fun s:Sp=>mY s.tb (aM s.tb)) 64 (fun s=>aV (zX _ _) (uu _)) (m.sp.take p);have h2:(m.sp.take p).length≤m.sp.length:=by rw[fq];omega
 simp only[iK,fP];omega
theorem PG (h:sV m) (p:Nat) (l:List Int) (K:Int):cnt (lD m p l) K≤1+64*m.sp.length+l.length:=by
 unfold lD;rw[yT,yT];have h1:=flat_len (fun s:Sp=>mY s.tb (aM s.tb)) 64 (fun s=>aV (zX _ _) (uu _)) (m.sp.take p);have h2:(m.sp.take p).length≤m.sp.length:=by rw[fq];omega
 have h3:cnt (m.ca.map Cc.k) K=vk m K:=by unfold cnt vk;rw[ww];rfl
 have h4:=QV h K;have h5:=GV ((m.sp.take p).flatMap fun s=>mY s.tb (aM s.tb)) K;have h6:=GV l K;omega
theorem Mt (m:Ma) (p:Nat) (l:List Int):(jQ m p l).length≤64*m.sp.length+l.length:=by
 unfold jQ;have h1:=flat_len (fun s:Sp=>swapT s.tb (aM s.tb)) 64 (fun s=>aV (Fj _ _) (uu _)) (m.sp.take p);have h2:(m.sp.take p).length≤m.sp.length:=by rw[fq];omega
 simp only[iK];omega
theorem ML (w:World) (c1 c2:Array Value) (T1 T2:TypeId):Below w.heap.size w ((w.alloc (.cells c1 T1)).alloc (.cells c2 T2)).drew∧aJ ((w.alloc (.cells c1 T1)).alloc (.cells c2 T2)).drew w.heap.size c1 T1∧aJ ((w.alloc (.cells c1 T1)).alloc (.cells c2 T2)).drew (w.heap.size+1) c2 T2:=by
 have e:(w.alloc (.cells c1 T1)).heap.size=w.heap.size+1:=yZ _;have h1:Below w.heap.size w ((w.alloc (.cells c1 T1)).alloc (.cells c2 T2)):=((Below.refl _ _).alloc (az _) _).alloc (by omega) _;have h2:aJ ((w.alloc (.cells c1 T1)).alloc (.cells c2 T2)) w.heap.size c1 T1:=(aJ.new w c1 T1).ext ((Below.refl _ _).alloc (az _) _);have h3:aJ ((w.alloc (.cells c1 T1)).alloc (.cells c2 T2)) (w.heap.size+1) c2 T2:=by rw[←e];exact aJ.new _ _ _
 exact⟨⟨h1.os,h1.tape,h1.output,h1.size,h1.block⟩,h2,h3⟩
theorem int_one:(Tryz.prog.info? 3).map (·.size)=some 1:=by kernel_rfl
theorem int_inf:(Tryz.prog.info? 3).map (fun i=>(i.zero,i.size,i.bytes))=some (some (.int .i64 0),1,8):=by kernel_rfl
theorem CO {y:Operand} {n:Nat} {k:IntKind} (ho:o.op = .indexAddr t x y) (hx:ρ x = .slice (some ⟨b,0,none⟩) n c) (hy:ρ y = .int k (i:Int)) (hi:i<n)
 (hu:P.underlying t=some (.slice e)) (hs:(P.info? e).map (·.size)=some 1):(execOp ρ o).run P w = .ok (.value (.pointer (some ⟨b,i,none⟩))) w:=by
 have:=eX (w:=w) ho hx hy hi hu hs;rw[this];simp
def Ex (m:Ma) (i:Nat):Bool:=decide ((gP m i).r=cnt (qD m) i)&&(decide ((gP m i).f<0)||m.ca.any fun c=>decide (c.k=i))
theorem Kk (m:Ma):countB m=((List.range m.m.fs.length).all (Ex m)&&decide (m.sl=ku m.sl.length (oF m))):=rfl
theorem Jv (h:countB m=true) (k:Nat) (hk:k<m.m.fs.length):Ex m k=true:=by
 rw[Kk,dh,cK] at h;exact h.1 k (bV.2 hk)
theorem xC (H:MH) (w:World) (h:Ga w H) :
  Calls Tryz.prog 32 #[.agg (bW H)] w fun r w'=>r = .returned (.int .i64 (je H.ma))∧Below w.heap.size w w':=by
 have gR:H.m.fs.length*8≤281474976710656∧H.sl.length*8≤281474976710656∨¬gW H.ma=0:=by
  by_cases e:gW H.ma=0
  ·have hp:=(vE.1 e).1;have h1:=((dZ _).1 hp.fr).1;have h2:=mf hp.sl;have qi : H.m.fs.length≤40:=h1;have qh : H.sl.length≤60:=h2;exact .inl ⟨by omega,by omega⟩
  ·exact .inr e
 go_enter func32,ntmps32;go_upto_region 1 with (fail);refine jl (fun W=>Code.wp _ _ _ _ W) fun w1 kh bx1 gK => ?_;have h1:=h.below kh;have bx:aJ w1 w.heap.size (bW H) 44:=bx1;clear bx1 gK
 go_wp2_with fail
 refine (OV H w.heap.size _ bx h1).mono ?_;rintro r w2 ⟨rfl,kV⟩;have h5:=ah kh kV;have bx2:=bx.ext kV;clear bx h1 kh kV
 by_cases e1:gW H.ma=0
 rotate_left
 ·have hq:Hid (je H.ma=gW H.ma):=ae (by unfold je;rw[if_pos e1]);generalize gW H.ma=E at *
  go_wp2;go_ret;rw[hq.out];exact⟨rfl,h5⟩
 rw[e1]
 go_wp2_with fail
 refine (Mq H w.heap.size _ bx2 (h.below h5)).mono ?_;rintro r w3 ⟨rfl,kU⟩;have hR:=ah h5 kU;have bx3:=bx2.ext kU;clear bx2 h5 kU
 by_cases e2:gU H.ma=0
 rotate_left
 ·have hq:Hid (je H.ma=gU H.ma):=ae (by unfold je;rw[if_neg (by rw[e1];simp),if_pos e2]);generalize gU H.ma=E at *
  go_wp2;go_ret;rw[hq.out];exact⟨rfl,hR⟩
 rw[e2];have kj:=(vE.1 e1).1;have n1:H.m.fs.length≤40:=((dZ _).1 kj.fr).1;have n2:H.sl.length≤60:=mf kj.sl;have n3:H.sp.length≤4:=by have:=kj.spl;rw[tQ] at this;exact this
 have kB:=ae kj;have ky:=ae (zo.1 e2);have kH:Hid (je H.ma=if lN H.ma≠0 then lN H.ma else if countB H.ma=true then 0 else 7):=ae (by unfold je;rw[if_neg (by rw[e1];simp),if_neg (by rw[e2];simp)]);clear e1 e2 kj gR;go_upto_region 7 with (fail);have l:=bx3.cell;unfold bW at l;have kx:=fun ob=>(bx3.ext ((Below.refl _ _).alloc (az _) ob)).cell;unfold bW at kx;have gb:=run_make_row' (P:=Tryz.prog) 32 3 (.int .i64 0) 8 underlying32 int_inf rfl .i64 .i64 H.m.fs.length (by omega) (by omega);have ga:=run_make_row' (P:=Tryz.prog) 32 3 (.int .i64 0) 8 underlying32 int_inf rfl .i64 .i64 H.sl.length (by omega) (by omega)
 go_cut [5,6] (fun s5 s6 wx => ∃gh gs,s5 = .slice (some ⟨gh,0,none⟩) H.m.fs.length H.m.fs.length∧s6 = .slice (some ⟨gs,0,none⟩) H.sl.length H.sl.length∧gh≠gs∧w3.heap.size≤gh∧w3.heap.size≤gs∧Below w3.heap.size w3 wx∧aJ wx gh (madeCells #[.int .i64 0] H.m.fs.length) 3∧aJ wx gs (madeCells #[.int .i64 0] H.sl.length) 3)
 case first=>
  go_region
  all_goals (go_wp2_with fail;go_meet)
  ·obtain⟨z1,z2,z3⟩:=ML w3 (madeCells #[.int .i64 0] H.m.fs.length) (madeCells #[.int .i64 0] H.sl.length) 3 3;exact⟨_,_,rfl,rfl,by omega,by omega,by omega,z1,z2,z3⟩
  obtain⟨z1,z2,z3⟩:=ML w3 (madeCells #[.int .i64 0] H.sl.length) (madeCells #[.int .i64 0] H.m.fs.length) 3 3;exact⟨_,_,rfl,rfl,by omega,by omega,by omega,z1,z3,z2⟩
 case rest=>
  obtain⟨gh,gs,rfl,rfl,kM,gl,gg,kT,d,b⟩:=hcut;have kz:=ah hR kT;have bx4:=bx3.ext kT;have k0:w.heap.size≤gh:=aV hR.size gl;have gI:w.heap.size≤gs:=aV hR.size gg;have gr:w.heap.size≠gh:=by have:=bx3.lt;omega
  have gY:w.heap.size≠gs:=by have:=bx3.lt;omega
  have kE:IB wc gh (ku H.m.fs.length ((H.ca.take 0).map Cc.k)):=by rw[List.take_zero,bI,Ib];unfold IB;rw[←Fy];exact d
  have kC:IB wc gs (ku H.sl.length []):=by rw[Ib];unfold IB;rw[←Fy];exact b
  clear l kx gb ga d b kT bx3 hR gl gg;have l:=bx4.cell;unfold bW at l;go_upto_region 9 with (fail);clear l;have qg:=h.ca.le;have gV:=h.ca.mx;unfold maxLen at gV
  go_loopw [37] (fun i wr => ∃(k:Nat),k≤H.ca.length∧i = .int .i64 k∧Below w.heap.size w wr∧aJ wr w.heap.size (bW H) 44∧IB wr gh (ku H.m.fs.length ((H.ca.take k).map Cc.k))∧IB wr gs (ku H.sl.length [])) (fun i _=>H.ca.length-(intOf i).toNat)
  case atStart=>exact⟨0,bB _,rfl,kz,bx4,kE,kC⟩
  case round=>
   clear kz bx4 kE kC;obtain⟨k,hk,rfl,o,bx,d,b⟩:=hrel
   by_cases hkl:k<H.ca.length
   ·obtain⟨bc,oc,g1,hf⟩:=pG jH (by decide) (h.below o).ca.rd k hkl;have kO:(k:Int)<(H.ca.length:Int):=by omega
    have g9:0≤H.ca[k].k∧H.ca[k].k<H.m.fs.length:=ky.out.lt _ (eZ hkl);have h7:Hid ((H.ca.take (k+1)).map Cc.k=(H.ca.take k).map Cc.k++[H.ca[k].k]):=ae (by rw[take_at (aN hkl),gX];rfl);have kN:((H.ca.take k).map Cc.k).length≤k:=by rw[fP,fq];omega
    generalize H.ca[k]=c at *
    obtain⟨K,gq⟩:∃K:Nat,c.k=K:=⟨c.k.toNat,by omega⟩;have hy:K<H.m.fs.length:=by omega
    rw[gq] at h7;rw[g1];generalize (H.ca.take k).map Cc.k=L at *
    go_wp2_with (first | (refine aC _ _ rfl bc (oc+k*3) rfl rfl _ hf _ underlying124 rfl cached_size ?_) | (refine aT rfl _ _ _ rfl (zU c) rfl rfl rfl cached_size (Gd c) ?_))
    intro w5 s cx;have hI:=ah o s;have bx5:=bx.ext s;have hM:IB w5 gh (ku H.m.fs.length L):=d.ext s;have hW:IB w5 gs (ku H.sl.length []):=b.ext s;clear o bx d b hf s;have kR:=cx.cell;unfold zU at kR;rw[gq] at kR;have hZ:=hM.cell (nu H.m.fs.length L K hy);have kw:=GV L K;have ka:IntKind.i64.wrap ((cnt L K:Int)+1)=(cnt L K:Int)+1:=bP _ (by omega);have gv:(K:Int)<(H.m.fs.length:Int):=by omega
    go_wp2_with (refine bz rfl _ _ _ rfl gh K _ [.int .i64 ((cnt L K:Int)+1)] rfl rfl rfl _ _ hM (by simp[lQ];omega) int_one (fun u hu=>by cases bN.1 hu;rfl) ?_)
    intro w6 hh hl;rw[IB.set (by rw[lQ];exact hy),CE _ _ _ hy,←h7.out] at hh;have q:=hI.grown hl hI.size (fun k hk=>by cases hk;exact k0);have bx6:=bx5.grown hl (fun e=>gr (aS e).symm);have hc:IB w6 gs (ku H.sl.length []):=aJ.grown hW hl (fun e=>kM (aS e));clear hI bx5 hW hM kR hZ cx hl ka;go_wp2;go_roundw
    case rel=>exact⟨k+1,by omega,by go_num,q,bx6,hh,hc⟩
    case measure=>simp[intOf];omega
   have kO:¬(k:Int)<(H.ca.length:Int):=by omega
   rw[ou (by omega)] at d;have kG:IB wr gh (ku H.m.fs.length (lD H.ma 0 [])):=by
    have e:lD H.ma 0 []=H.ca.map Cc.k:=by show H.ca.map Cc.k++[]++[]=_;rw[nY,nY]
    rw[e];exact d
   have kD:IB wr gs (ku H.sl.length (jQ H.ma 0 [])):=b;clear d b;have l:=bx.cell;unfold bW at l;go_upto_region 14 with (fail);clear l
   go_loopw [52] (fun i wr => ∃(p:Nat),p≤H.sp.length∧i = .int .i64 p∧Below w.heap.size w wr∧aJ wr w.heap.size (bW H) 44∧IB wr gh (ku H.m.fs.length (lD H.ma p []))∧IB wr gs (ku H.sl.length (jQ H.ma p []))∧Hid (∀t∈H.ma.sp.take p,∀i∈aM t.tb,bQ H.ma t i=0)) (fun i _=>H.sp.length-(intOf i).toNat)
   case atStart=>exact⟨0,bB _,rfl,o,bx,kG,kD,ae fun t ht=>by simp at ht⟩
   case round=>
    clear o bx kG kD;obtain⟨p,hp,rfl,o,bx,d,b,hz⟩:=hrel
    by_cases hpl:p<H.sp.length
    ·obtain⟨bs,os,P,kW,hP,hf⟩:=xz (h.below o).sp.rd p hpl;have ha:=yt (h.below o) hP;have gP:(p:Int)<(H.sp.length:Int):=by omega
     have kk:H.ma.sp[p]?=some P.sp:=by show (H.sp.map PS.sp)[p]?=_;rw[iY,hP];rfl
     have gt:(dH P.ar).1=0:=kB.out.ar P.sp (dm kk);have kn:dO P.tb=0:=kB.out.tb P.sp (dm kk);have hG:=ae kk;have gu:=ae hP;have l:=bx.cell;unfold bW at l;rw[kW] at l;clear kk hP
     go_wp2_with (refine aC _ _ rfl bs (os+p*10+2) rfl rfl _ (mW hf 2 8) _ underlying112 tab_agg tab_size ?_)
     refine (xJ P.tb (tX P.ts) _ ha.tb).mono ?_;rintro r w5 ⟨v5,rfl,kK,s⟩;obtain⟨a5,c5,rfl,g6,g5,_,gN⟩:=kK.rd;have gc:gh<wr.heap.size∧gs<wr.heap.size:=⟨aJ.lt d,aJ.lt b⟩;have hI:=ah o s;have bx5:=bx.ext s;have hM:IB w5 gh (ku H.m.fs.length (lD H.ma p (mY P.tb ((aM P.tb).take 0)))):=d.ext s;have hW:IB w5 gs (ku H.sl.length (jQ H.ma p (swapT P.tb ((aM P.tb).take 0)))):=b.ext s;have kr:=hf.below s;have h9:=ha.below s;have kZ:=ae gc;clear l o bx d b hf ha s gN;have k3:=ae (QW P.tb);have gO:=uu P.tb;go_upto_region 18 with (fail)
     go_loopw [65] (fun i wr' => ∃(j:Nat),j≤(aM P.tb).length∧i = .int .i64 j∧Below w.heap.size w wr'∧aJ wr' w.heap.size (bW H) 44∧IB wr' gh (ku H.m.fs.length (lD H.ma p (mY P.tb ((aM P.tb).take j))))∧IB wr' gs (ku H.sl.length (jQ H.ma p (swapT P.tb ((aM P.tb).take j))))∧Own wr' wr.heap.size 3 1 (.slice a5 (aM P.tb).length c5) (aM P.tb).length ((aM P.tb).map iI)∧eB wr' (some ⟨bs,os+p*10,none⟩) (zw P)∧P.good wr'∧Hid (∀i∈(aM P.tb).take j,bQ H.ma P.sp i=0)) (fun i _=>(aM P.tb).length-(intOf i).toNat)
     case atStart=>exact⟨0,bB _,rfl,hI,bx5,hM,hW,kK,kr,h9,ae fun i hi=>by simp at hi⟩
     case round=>
      clear hI bx5 hM hW kK kr h9;obtain⟨j,hj,rfl,o,bx,d,b,ho,hf,ha,h6⟩:=hrel;obtain⟨gj,qa⟩:=kZ.out
      by_cases hjl:j<(aM P.tb).length
      ·have gS:(j:Int)<((aM P.tb).length:Int):=by omega
       obtain⟨_,_,e9,_,_,_,k2⟩:=ho.rd;cases e9;have kL:(aM P.tb)[j]?=some (aM P.tb)[j]:=aN hjl;have gQ:=k3.out _ (eZ hjl);have k8:(dB P.tb (aM P.tb)[j]).k≠0:=(oo.1 (eZ hjl)).2;obtain⟨bp,op,k4,gT⟩:=lm k2 j hjl;generalize hN:(aM P.tb)[j]=n at *
       have h7:Hid ((aM P.tb).take (j+1)=(aM P.tb).take j++[n]):=ae (take_at kL);have k9:=ae kL;have ks:=ae k4;have kv:=(dS _).1 (vT kn n);rw[k4];clear kL hN k2
       go_wp2_with fail
       refine (KQ H P n w.heap.size bs (os+p*10) _ bx (h.below o) hf ha gt kn gQ).mono ?_;rintro r w6 ⟨rfl,hh⟩;have q:=ah o hh;have bx6:=bx.ext hh;have z:=aJ.ext d hh;have hc:=aJ.ext b hh;have k7:=ho.below hh;have kc:=hf.below hh;have hl:=ha.below hh;clear o bx d b ho hf ha hh gT
       by_cases hE:bQ H.ma P.sp n=0
       rotate_left
       ·have hq:Hid (je H.ma=bQ H.ma P.sp n):=ae (by have:=Kv hG.out k9.out hz.out h6.out hE;rw[kH.out,this,if_pos hE]);generalize bQ H.ma P.sp n=E at *
        go_wp2;go_ret;rw[hq.out];exact⟨rfl,q⟩
       have gd:=Ry hE;have hO:Hid (∀i∈(aM P.tb).take (j+1),bQ H.ma P.sp i=0):=ae fun i hi=>by
        rw[h7.out] at hi;rcases jK.1 hi with hi|hi
        ·exact h6.out i hi
        ·rw[bN.1 hi];exact hE
       rw[hE];clear h6 hE
       go_wp2_with (refine aC _ _ rfl bs (os+p*10+2) rfl rfl _ (mW kc 2 8) _ underlying112 tab_agg tab_size ?_)
       refine (zt P.tb (tX P.ts) n _ hl.tb).mono ?_;rintro r w7 ⟨rfl,hU⟩;have h4:((dB P.tb n).k=2→(dB P.tb n).n<H.sl.length)∧((dB P.tb n).k≠2→(dB P.tb n).n<H.m.fs.length):=gd;have k5:mY P.tb ((aM P.tb).take (j+1))=mY P.tb ((aM P.tb).take j)++(if (dB P.tb n).k=1 then [(dB P.tb n).n] else []):=by rw[h7.out,Pd]
       have k1:swapT P.tb ((aM P.tb).take (j+1))=swapT P.tb ((aM P.tb).take j)++(if (dB P.tb n).k=1 then [] else [(dB P.tb n).n]):=by rw[h7.out,Pk]
       have qf:=Pm H.ma p (mY P.tb ((aM P.tb).take j));have g8:=zX P.tb ((aM P.tb).take j);have qe:=Mt H.ma p (swapT P.tb ((aM P.tb).take j));have g7:=Fj P.tb ((aM P.tb).take j);have qd:((aM P.tb).take j).length≤64:=by rw[fq];omega
       have qc:H.ma.ca.length=H.ca.length:=rfl;have qb:H.ma.sp.length=H.sp.length:=tQ H;generalize dB P.tb n=e at *
       generalize mY P.tb ((aM P.tb).take j)=L1 at *
       generalize swapT P.tb ((aM P.tb).take j)=L2 at *
       have kt:=ae k5;have ko:=ae k1;clear gd k5 k1;have hg:=ah q hU;have bx7:=bx6.ext hU;have hD:=aJ.ext z hU;have hB:=aJ.ext hc hU;have k6:=k7.below hU;have kq:=kc.below hU;have gn:=hl.below hU;clear q bx6 z hc k7 kc hl hU
       go_wp2_with (refine aT rfl _ _ _ rfl (nI e) rfl rfl rfl entry_size (by simp[nI,Value.oneCell']) ?_)
       intro w8 hT ex;have hH:=ah hg hT;have bx8:=bx7.ext hT;have hL:IB w8 gh _:=aJ.ext hD hT;have hJ:IB w8 gs _:=aJ.ext hB hT;have h8:=k6.below hT;have kp:=kq.below hT;have gm:=gn.below hT;clear hg bx7 hD hB k6 kq gn hT;have hZ:=ex.cell;unfold nI at hZ
       by_cases hk1:e.k=1
       ·obtain⟨K,hK⟩:∃K:Nat,e.n=K:=⟨e.n.toNat,by omega⟩;have hy:K<H.m.fs.length:=by have:=h4.2 (by omega);omega
        have hr:=kt.out;have hm:=ko.out;rw[if_pos hk1,hK] at hr;rw[if_pos hk1,nY] at hm;rw[hk1,hK] at hZ;have kQ:=hL.cell (nu H.m.fs.length (lD H.ma p L1) K hy);have kw:=PG ky.out p L1 K;have ka:IntKind.i64.wrap ((cnt (lD H.ma p L1) K:Int)+1)=(cnt (lD H.ma p L1) K:Int)+1:=bP _ (by omega);have gv:(K:Int)<(H.m.fs.length:Int):=by omega
        have kd:=ae hr;have kb:=ae hm;clear hr hm h4 hk1 k8 kv hK
        go_wp2_with (refine bz rfl _ _ _ rfl gh K _ [.int .i64 ((cnt (lD H.ma p L1) K:Int)+1)] rfl rfl rfl _ _ hL (by simp[lQ];omega) int_one (fun u hu=>by cases bN.1 hu;rfl) ?_)
        intro w9 kg hs;rw[IB.set (by rw[lQ];exact hy),CE _ _ _ hy,←KE,←kd.out] at kg;rw[←kb.out] at hJ;have hQ:=hH.grown hs hH.size (fun k hk=>by cases hk;exact k0);have bx9:=bx8.grown hs (fun e=>gr (aS e).symm);have gz:IB w9 gs _:=aJ.grown hJ hs (fun e=>kM (aS e));have hY:Ga w9 H:=h.below hQ;obtain⟨bs',os',P',hV,h0,hX⟩:=xz hY.sp.rd p hpl;have kX:P' = P:=by have h2:H.ma.sp[p]?=some P.sp:=hG.out;rw[gu.out] at h0;exact (aS h0).symm
        subst kX;rw[kW] at hV;cases hV;have ke:=hY.ps P' (dm h0);have kJ:=h8.grown hs (fun g hv e=>by have:=h8.ge g hv;have e2:=aS e;omega);clear hH bx8 hJ hL hZ ex hs ka kQ h8 kp gm hY;go_wp2;go_roundw
        case rel=>exact⟨j+1,by omega,by go_num,hQ,bx9,kg,gz,by rw[←ks.out];exact kJ,hX,ke,hO⟩
        case measure=>simp[intOf];omega
       obtain⟨K,hK⟩:∃K:Nat,e.n=K:=⟨e.n.toNat,by omega⟩;have kP:e.k=2:=by omega
       have hy:K<H.sl.length:=by have:=h4.1 kP;omega
       have hr:=kt.out;have hm:=ko.out;rw[if_neg hk1,nY] at hr;rw[if_neg hk1,hK] at hm;rw[kP,hK] at hZ;have kQ:=hJ.cell (nu H.sl.length (jQ H.ma p L2) K hy);have kw:=GV (jQ H.ma p L2) K;have ka:IntKind.i64.wrap ((cnt (jQ H.ma p L2) K:Int)+1)=(cnt (jQ H.ma p L2) K:Int)+1:=bP _ (by omega);have gv:(K:Int)<(H.sl.length:Int):=by omega
       have kd:=ae hr;have kb:=ae hm;clear hr hm h4 hk1 kP k8 kv hK
       go_wp2_with (refine bz rfl _ _ _ rfl gs K _ [.int .i64 ((cnt (jQ H.ma p L2) K:Int)+1)] rfl rfl rfl _ _ hJ (by simp[lQ];omega) int_one (fun u hu=>by cases bN.1 hu;rfl) ?_)
       intro w9 kg hs;rw[IB.set (by rw[lQ];exact hy),CE _ _ _ hy,←Kj,←kb.out] at kg;rw[←kd.out] at hL;have hQ:=hH.grown hs hH.size (fun k hk=>by cases hk;exact gI);have bx9:=bx8.grown hs (fun e=>gY (aS e).symm);have gC:IB w9 gh _:=aJ.grown hL hs (fun e=>kM (aS e).symm);have hY:Ga w9 H:=h.below hQ;obtain⟨bs',os',P',hV,h0,hX⟩:=xz hY.sp.rd p hpl;have kX:P' = P:=by have h2:H.ma.sp[p]?=some P.sp:=hG.out;rw[gu.out] at h0;exact (aS h0).symm
       subst kX;rw[kW] at hV;cases hV;have ke:=hY.ps P' (dm h0);have kJ:=h8.grown hs (fun g hv e=>by have:=h8.ge g hv;have e2:=aS e;omega);clear hH bx8 hJ hL hZ ex hs ka kQ h8 kp gm hY;go_wp2;go_roundw
       case rel=>exact⟨j+1,by omega,by go_num,hQ,bx9,gC,kg,by rw[←ks.out];exact kJ,hX,ke,hO⟩
       case measure=>simp[intOf];omega
      have gS:¬(j:Int)<((aM P.tb).length:Int):=by omega
      rw[ou (by omega)] at d b h6;have gD:IB wr gh (ku H.m.fs.length (lD H.ma (p+1) [])):=by rw[←Ll hG.out];exact d
      have gA:IB wr gs (ku H.sl.length (jQ H.ma (p+1) [])):=by rw[←Kc hG.out];exact b
      have hO:Hid (∀t∈H.ma.sp.take (p+1),∀i∈aM t.tb,bQ H.ma t i=0):=ae fun t ht i hi=>by
       rw[take_at hG.out] at ht;rcases jK.1 ht with ht|ht
       ·exact hz.out t ht i hi
       rw[bN.1 ht] at hi ⊢;exact h6.out i hi
      clear d b ho hf ha hz h6;go_wp2;go_roundw
      case rel=>
       refine⟨_,_,_,_,_,_,.int .i64 ((p:Int)+1),⟨p+1,by omega,?_,gD,gA,hO⟩,rfl,rfl,rfl,rfl,rfl,rfl,rfl⟩;go_num
      case measure=>simp[intOf];omega
    have gP:¬(p:Int)<(H.sp.length:Int):=by omega
    have kl:p=H.ma.sp.length:=by rw[tQ];omega
    rw[kl,NR] at d;rw[kl,Mk] at b;rw[kl,wF] at hz;have h3:Hid (je H.ma=if countB H.ma=true then 0 else 7):=ae (by rw[kH.out,if_neg (by rw[JZ hz.out];simp)]);clear hz kH kl;have l:=bx.cell;unfold bW at l;go_upto_region 30 with (fail);clear l
    go_loopw [104] (fun i wr => ∃(k:Nat),k≤H.m.fs.length∧i = .int .i64 k∧Below w.heap.size w wr∧aJ wr w.heap.size (bW H) 44∧IB wr gh (ku H.m.fs.length (qD H.ma))∧IB wr gs (ku H.sl.length (oF H.ma))∧Hid (∀i,i<k→Ex H.ma i=true)) (fun i _=>H.m.fs.length-(intOf i).toNat)
    case atStart=>exact⟨0,bB _,rfl,o,bx,d,b,ae fun i hi=>absurd hi (gL _)⟩
    case round=>
     clear o bx d b;obtain⟨k,hk,rfl,o,bx,d,b,hO⟩:=hrel
     by_cases hkl:k<H.m.fs.length
     ·obtain⟨bg,og,g0,hf⟩:=pG iO (by decide) (h.below o).fr.rd k hkl;have kO:(k:Int)<(H.m.fs.length:Int):=by omega
      have kY:H.m.fs[k]=aD H.ma k:=by have:=rZ (m:=H.ma) (f:=k) hkl;have h2:H.m.fs[k]?=some (aD H.ma k):=this;rw[aN hkl] at h2;exact aS h2
      rw[kY] at hf;have km:Hid (Ex H.ma k=(decide ((aD H.ma k).r=cnt (qD H.ma) k)&&(decide ((aD H.ma k).f<0)||H.ca.any (isK (k:Int))))):=ae rfl;generalize aD H.ma k=x at *
      rw[g0];clear kY;obtain⟨gi,gk⟩:∃g,g=wr.heap.size:=⟨_,rfl⟩;go_upto_region 31 with (fail);have gj:gh<wr.heap.size∧gs<wr.heap.size:=⟨aJ.lt d,aJ.lt b⟩;have gZ:=bx.lt;have kS:Below wr.heap.size wr ((wr.alloc (.cells #[.int .i64 0] 3)).alloc (.cells #[.int .u8 0,.int .u8 0,.int .u8 0,.int .u8 0,.int .u8 0,.int .u8 0,.int .u8 0,.int .u8 0,.int .i64 0,.bool false,.bool false,.int .i64 0,.int .i64 0] 132)):=((Below.refl _ _).alloc (az _) _).alloc (by rw[show (wr.alloc (.cells #[.int .i64 0] 3)).heap.size=wr.heap.size+1 from yZ _];omega) _;have e1:(wr.alloc (.cells #[.int .i64 0] 3)).heap.size=wr.heap.size+1:=yZ _;have gF:aJ ((wr.alloc (.cells #[.int .i64 0] 3)).alloc (.cells #[.int .u8 0,.int .u8 0,.int .u8 0,.int .u8 0,.int .u8 0,.int .u8 0,.int .u8 0,.int .u8 0,.int .i64 0,.bool false,.bool false,.int .i64 0,.int .i64 0] 132)) wr.heap.size #[.int .i64 0] 3:=(aJ.new wr _ _).ext ((Below.refl _ _).alloc (az _) _);have gE:aJ ((wr.alloc (.cells #[.int .i64 0] 3)).alloc (.cells #[.int .u8 0,.int .u8 0,.int .u8 0,.int .u8 0,.int .u8 0,.int .u8 0,.int .u8 0,.int .u8 0,.int .i64 0,.bool false,.bool false,.int .i64 0,.int .i64 0] 132)) (wr.heap.size+1) #[.int .u8 0,.int .u8 0,.int .u8 0,.int .u8 0,.int .u8 0,.int .u8 0,.int .u8 0,.int .u8 0,.int .i64 0,.bool false,.bool false,.int .i64 0,.int .i64 0] 132:=by rw[←e1];exact aJ.new _ _ _
      go_wp2_with (first | (refine aC _ _ rfl bg (og+k*13) rfl rfl _ hf _ underlying132 rfl frame_size ?_) | (refine bz rfl _ _ _ rfl wr.heap.size 0 _ [.int .i64 (k:Int)] rfl rfl rfl _ _ gF (by show 0+1≤1;decide) int_one (fun u hu=>by cases bN.1 hu;rfl) ?_))
      intro w5 s h9;have kA : aJ w5 wr.heap.size #[.int .i64 (k:Int)] 3:=s;have gp:=gE.grown h9 (fun e=>by have:=aS e;omega);have kf:=kS.grown h9 kS.size (fun k hk=>by cases hk;exact az _)
      go_wp2_with (refine gy rfl _ _ _ rfl (wr.heap.size+1) 0 (xV x) rfl rfl _ _ gp (by show 0+13≤13;decide) frame_size (uf x) ?_)
      intro w6 hh hl;have fx6:aJ w6 (wr.heap.size+1) (xV x) 132:=by have e2:=dU (#[.int .u8 0,.int .u8 0,.int .u8 0,.int .u8 0,.int .u8 0,.int .u8 0,.int .u8 0,.int .u8 0,.int .i64 0,.bool false,.bool false,.int .i64 0,.int .i64 0]) (xV x) rfl;rw[←e2];exact hh
      have ix6:aJ w6 wr.heap.size #[.int .i64 (k:Int)] 3:=kA.grown hl (fun e=>by have:=aS e;omega);have hS:=kf.grown hl kf.size (fun k hk=>by cases hk;omega);have q:=ah o hS;have bx6:=bx.ext hS;have z:IB w6 gh _:=aJ.ext d hS;have hc:IB w6 gs _:=aJ.ext b hS;obtain⟨gx,gf⟩:∃g,g=wr.heap.size+1:=⟨_,rfl⟩;rw[←gf] at fx6 ⊢;rw[←gk] at ix6 ⊢;clear kS kf hS gF gE s kA gp h9 hl hh hf o bx d b e1 gj gZ gf gk;go_upto_region 32 with (fail)
      by_cases c1:x.r=cnt (qD H.ma) k
      ·by_cases c2:0≤x.f
       ·skip;refine aP 19 [_,_,_,_,_,_,_,_,_,_,_,_,_,_,.v (.func (.func 55) #[] #[.pointer (some ⟨gi,0,none⟩)]),.v (.bool (H.ca.any (isK (k:Int)))),_,_,.v (.bool (!(H.ca.any (isK (k:Int)))))] (Gf gx 8 rfl rfl (Gl fx6 rfl rfl rfl rfl rfl (Gk rfl (Gl ix6 (V:=.int .i64 (k:Int)) rfl rfl rfl rfl rfl (Gr (.pointer (some ⟨gh,k,none⟩)) (fun ρ y W hb hF=>(CO rfl (aU rfl hF) (aU rfl hF) hkl underlying32 int_one)) rfl rfl (Gc (.int .i64 (cnt (qD H.ma) k:Int)) (fun W hb=>by simp[IB.cell (aJ.ext z hb) (nu H.m.fs.length (qD H.ma) k hkl)]) rfl rfl rfl rfl (Gb (.bool false) (by simp[go_sem,c1]) rfl rfl rfl rfl rfl (Gk rfl (Gf gx 11 rfl rfl (Gl fx6 rfl rfl rfl rfl rfl (Gb (.bool true) (by simp[go_sem,c2]) rfl rfl rfl rfl rfl (Gk rfl (Gf w.heap.size 9 rfl rfl (Gl bx6 rfl rfl rfl rfl rfl (aj ?_ (aj ?_ (Gr (.bool (!(H.ca.any (isK (k:Int))))) (fun ρ y W hb hF=>Bf rfl (aU rfl hF)) rfl rfl (Gk rfl (Gk rfl (aF)))))))))))))))))))) (fun _=>rfl) rfl ?_
        ·intro ρ y W hw hn hb hd;have g4:ρ (.tmp 15) = .pointer (some ⟨gi,0,none⟩):=(hn (.tmp 15) rfl).trans rfl;refine ak (.func (.func 55) #[] #[.pointer (some ⟨gi,0,none⟩)]) (gB 11 120 true true rfl rfl ((hw 120 11 rfl).trans (hd 11 rfl))) (by simp[execOp,go_sem,g4]) rfl
        ·intro ρ y W hw hn hb hd;have gH:=hw 122 13 rfl;have g3:y 13=_:=hd 13 rfl;have gG:=hw 123 14 rfl;have g2:y 14=_:=hd 14 rfl;have EF:∀f,ρ (.func f) = .func (.func f) #[] #[]:=fun f=>hn (.func f) trivial;refine aK _ _ (gB 11 120 true true rfl rfl ((hw 120 11 rfl).trans (hd 11 rfl))) (aQ rfl (EF _) func54 (by kernel_rfl) (by kernel_rfl) (by simp only[bT,bF,bI,gH,g3,gG,g2,EF];rfl)) ?_;refine (Sd H.ca _ _ W ((h.below q).below hb).ca.rd (by omega) gi k (ix6.ext hb)).mono ?_;rintro r w1 ⟨rfl,kh⟩;exact⟨_,rfl,kh,rfl⟩
        intro y W7 a _;have hg:=ah q a;have bx7:=bx6.ext a;have hD:=aJ.ext z a;have hB:=aJ.ext hc a;clear a q bx6 z hc ix6 fx6;cases hA:H.ca.any (isK (k:Int)) with
        | true=>
         have hx:Hid (Ex H.ma k=true):=ae (by rw[km.out,decide_eq_true c1,hA];simp);clear c1 c2;have ki:Hid (∀i,i<k+1→Ex H.ma i=true):=ae fun i hi=>by
          by_cases e:i=k
          ·rw[e];exact hx.out
          ·exact hO.out i (by omega)
         go_wp2;go_roundw
         case rel=>exact⟨k+1,by omega,by go_num,hg,bx7,hD,hB,ki⟩
         case measure=>simp[intOf];omega
        | false=>
         have hx:Hid (Ex H.ma k=false):=ae (by rw[km.out,decide_eq_true c1,hA,decide_eq_false (by omega)];rfl);clear c1 c2;have hq:Hid (je H.ma=7):=ae (by rw[h3.out,if_neg];intro l;exact absurd (Jv l k hkl) (by rw[hx.out];decide));go_wp2;go_ret;rw[hq.out];exact⟨rfl,hg⟩
       have hx:Hid (Ex H.ma k=true):=ae (by rw[km.out,decide_eq_true c1,decide_eq_true (by omega)];rfl);refine aP 19 [_,_,_,_,_,_,_,_,_,_,_,_,_,_,_,_,_,_,.v (.bool false)] (Gf gx 8 rfl rfl (Gl fx6 rfl rfl rfl rfl rfl (Gk rfl (Gl ix6 (V:=.int .i64 (k:Int)) rfl rfl rfl rfl rfl (Gr (.pointer (some ⟨gh,k,none⟩)) (fun ρ y W hb hF=>(CO rfl (aU rfl hF) (aU rfl hF) hkl underlying32 int_one)) rfl rfl (Gc (.int .i64 (cnt (qD H.ma) k:Int)) (fun W hb=>by simp[IB.cell (aJ.ext z hb) (nu H.m.fs.length (qD H.ma) k hkl)]) rfl rfl rfl rfl (Gb (.bool false) (by simp[go_sem,c1]) rfl rfl rfl rfl rfl (Gk rfl (Gf gx 11 rfl rfl (Gl fx6 rfl rfl rfl rfl rfl (Gb (.bool false) (by simp[go_sem,c2]) rfl rfl rfl rfl rfl (Gk rfl (Gk rfl (Gk rfl (Gk rfl (Gk rfl (Gk rfl (Gk rfl (Gk rfl (aF)))))))))))))))))))) (fun _=>rfl) rfl ?_;intro y W7 a _;have hg:=ah q a;have bx7:=bx6.ext a;have hD:=aJ.ext z a;have hB:=aJ.ext hc a;clear a q bx6 z hc ix6 fx6;clear c1 c2;have ki:Hid (∀i,i<k+1→Ex H.ma i=true):=ae fun i hi=>by
        by_cases e:i=k
        ·rw[e];exact hx.out
        ·exact hO.out i (by omega)
       go_wp2;go_roundw
       case rel=>exact⟨k+1,by omega,by go_num,hg,bx7,hD,hB,ki⟩
       case measure=>simp[intOf];omega
      have hx:Hid (Ex H.ma k=false):=ae (by rw[km.out,decide_eq_false c1];rfl);refine aP 19 [_,_,_,_,_,_,_,_,_,_,_,_,_,_,_,_,_,_,.v (.bool true)] (Gf gx 8 rfl rfl (Gl fx6 rfl rfl rfl rfl rfl (Gk rfl (Gl ix6 (V:=.int .i64 (k:Int)) rfl rfl rfl rfl rfl (Gr (.pointer (some ⟨gh,k,none⟩)) (fun ρ y W hb hF=>(CO rfl (aU rfl hF) (aU rfl hF) hkl underlying32 int_one)) rfl rfl (Gc (.int .i64 (cnt (qD H.ma) k:Int)) (fun W hb=>by simp[IB.cell (aJ.ext z hb) (nu H.m.fs.length (qD H.ma) k hkl)]) rfl rfl rfl rfl (Gb (.bool true) (by simp[go_sem,c1]) rfl rfl rfl rfl rfl (Gk rfl (Gk rfl (Gk rfl (Gk rfl (Gk rfl (Gk rfl (Gk rfl (Gk rfl (Gk rfl (Gk rfl (Gk rfl (Gk rfl (aF)))))))))))))))))))) (fun _=>rfl) rfl ?_;intro y W7 a _;have hg:=ah q a;have bx7:=bx6.ext a;have hD:=aJ.ext z a;have hB:=aJ.ext hc a;clear a q bx6 z hc ix6 fx6;clear c1;have hq:Hid (je H.ma=7):=ae (by rw[h3.out,if_neg];intro l;exact absurd (Jv l k hkl) (by rw[hx.out];decide));go_wp2;go_ret;rw[hq.out];exact⟨rfl,hg⟩
     have kO:¬(k:Int)<(H.m.fs.length:Int):=by omega
     have gM:=(h.below o).sl;have gw:eB wr (some ⟨gs,0,none⟩) ((ku H.sl.length (oF H.ma)).map iI):=fun i u hi=>⟨gs,0,rfl,by rw[dA,aJ.cell b];simpa using hi⟩;have l:=bx.cell;unfold bW at l;have kN:=ae (lQ H.sl.length (oF H.ma));have hq:Hid (je H.ma=if H.sl=ku H.sl.length (oF H.ma) then 0 else 7):=ae (by
      rw[h3.out,Kk,cK.2 (fun i hi=>hO.out i (by have:=bV.1 hi;have e:H.ma.m.fs.length=H.m.fs.length:=rfl;omega)),kF];show (if decide (H.sl=ku H.sl.length (oF H.ma))=true then (0:Int) else 7)=_
      by_cases e:H.sl=ku H.sl.length (oF H.ma)
      ·rw[if_pos e,if_pos (decide_eq_true e)]
      ·rw[if_neg e,if_neg (by simp[e])])
     have gJ:=n2;generalize hC:ku H.sl.length (oF H.ma)=C at *
     clear hO h3 hC
     go_wp2_with fail
     rw[show (Value.slice (some ⟨gs,0,none⟩) H.sl.length H.sl.length) = .slice (some ⟨gs,0,none⟩) C.length H.sl.length from by rw[kN.out]];refine (Ju H.sl C H.asl (some ⟨gs,0,none⟩) H.csl H.sl.length _ gM.rd gw (by omega) (by rw[kN.out];omega)).mono ?_;rintro r w5 ⟨rfl,s⟩
     by_cases e:H.sl=C
     ·rw[show (H.sl==C)=true from by rw[beq_iff_eq];exact e];have kI:Hid (je H.ma=0):=ae (by rw[hq.out,if_pos e]);clear e l;go_wp2;go_ret;rw[kI.out];exact⟨rfl,ah o s⟩
     rw[show (H.sl==C)=false from by rw[beq_eq_false_iff_ne];exact e];have kI:Hid (je H.ma=7):=ae (by rw[hq.out,if_neg e]);clear e l;go_wp2;go_ret;rw[kI.out];exact⟨rfl,ah o s⟩
end Go.Proofs.YtpaeabelhnnbiaaGreat
namespace Pw
open Go Go.RowKit
variable {P:Program} {Q:Exit → Act → World → Prop} {a0:Act} {i id:Nat} {o:Oper} {ops:Array Oper} {v:Value} {w w0:World}
theorem wp_mono' {a:Act} {K K' : Act→World→Prop} (h:∀v D w,K (Act.put { a with defers:=D } o.dst v) w→K' (Act.put { a with defers:=D } o.dst v) w)
 (hh:o.wp P a w K Q):o.wp P a w K' Q:=by
 unfold Oper.wp at *
 generalize (execOp a.eval o).run P w=r at *
 cases r with
 | ok n w'=>
  cases n<;>simp only[Oper.upon] at hh ⊢ <;>
   first
    | exact h _ a.defers _ hh
    | exact h _ _ _ hh
    | exact wL hh (fun e w'' he=>by cases e<;>first | exact h _ a.defers _ he | exact he)
    | exact Rows.mono hh (fun _ _ he=>h _ a.defers _ he)
 | halt x w'=>cases x<;>simp only[Oper.upon] at hh ⊢<;>exact hh
def Ao (v:Value) (o:Oper):Oper:={ o with op:=.move (.const v) }
def freed (ops:Array Oper) (p:Nat) (v:Value):Array Oper:=ops.modify p (Ao v)
theorem zN (ops:Array Oper) (p:Nat) (v:Value) (i:Nat):(freed ops p v)[i]?=if p=i then (ops[i]?).map (Ao v) else ops[i]?:=by
 unfold freed;rw[Array.getElem?_modify]
theorem DJ (ops:Array Oper) (p:Nat) (v:Value):(freed ops p v).size=ops.size:=by unfold freed;simp
theorem Am (ops:Array Oper) (p:Nat) (v:Value) (listed:Array Bool):Region.ready .any (freed ops p v) listed=Region.ready .any ops listed:=by
 unfold Region.ready;rw[DJ];apply List.filter_congr;intro i _;congr 1;rw[zN]
 by_cases e:p=i
 ·rw[if_pos e];cases ops[i]?<;>rfl
 ·rw[if_neg e]
theorem Er (ops:Array Oper) (p:Nat) (v:Value) (ts:Array Value):yielded (freed ops p v) ts=yielded ops ts:=by
 funext g;unfold yielded;rw[zN]
 by_cases e:p=g
 ·rw[if_pos e];cases ops[g]?<;>rfl
 ·rw[if_neg e]
def Md (ops:Array Oper) (p d:Nat):Bool:=
 (match ops[p]? with
  | some o=>(match o.op with
   | .move (.tmp t)=>decide (t=d)&&o.guard.isNone&&decide (o.dst≠some d)
   | _=>false)
  | none=>false) &&
 (List.range ops.size).all fun i=>match ops[i]? with
  | none=>true
  | some o=>decide (o.dst≠some d)||o.after.toList.any fun e=>decide (e.on=p)&&Region.binds .any e
theorem Jl {a:Act} {D:List Deferred} {dst:Option Tmp} {d:Nat} (h:dst≠some d):(Act.put { a with defers:=D } dst v).eval (.tmp d)=a.eval (.tmp d):=by
 cases dst with
 | none=>rfl
 | some t=>
  have ht:t≠d:=fun e=>h (by rw[e]);simp[Act.put,Act.eval,za,ht]
theorem LM {listed:Array Bool} (hi:i∈Region.ready .any ops listed) (ho:ops[i]?=some o):listed.getD i false=false∧∀e∈o.after,Region.binds .any e=true→listed.getD e.on false=true:=by
 obtain⟨h1,o',a,h2⟩:=mem_ready.1 hi;rw[ho] at a;cases a;refine⟨?_,h2⟩;rw[aW] at h1 ⊢;cases h:listed[i]? with
 | none=>rfl
 | some b=>rw[h] at h1;exact h1
theorem yO {P:Program} {ops:Array Oper} {Q:Exit→Act→World→Prop} {p d:Nat} {v:Value} (hok0:Md ops p d=true):∀(fuel:Nat) (listed:Array Bool) (a:Act) (w:World),(listed.getD p false=false→a.eval (.tmp d)=v)→wpAny P .any (freed ops p v) Q fuel listed a w→wpAny P .any ops Q fuel listed a w
 | 0,listed,a,w,hI,h=>by unfold wpAny at h ⊢;rw[Am] at h;exact h
 | fuel+1,listed,a,w,hI,h=>by
  unfold wpAny at h ⊢;rw[Am] at h;refine⟨h.1,fun i hi => ?_⟩;have hw:=h.2 i hi;have hup:(listed.setIfInBounds i true).getD p false=false→listed.getD p false=false:=fun h'=>by
   cases hl:listed.getD p false with
   | false=>rfl
   | true=>
    exfalso
    by_cases hs:i<listed.size
    ·rw[wZ hs p hl] at h'; cases h'
    have e:listed.setIfInBounds i true=listed:=by rw[Array.setIfInBounds_eq_of_size_le (by omega)]
    rw[e,hl] at h'; cases h'
  have hok:=hok0;unfold Md at hok;rw[dh] at hok;obtain⟨hp,hall⟩:=hok;unfold wpOp at hw ⊢;rw[zN,Er] at hw;cases ho:ops[i]? with
  | none=>
   rw[ho] at hw;have hw' : wpAny P .any (freed ops p v) Q fuel (listed.setIfInBounds i true) a w:=by
    by_cases e:p=i
    ·rw[if_pos e] at hw;exact hw
    ·rw[if_neg e] at hw;exact hw
   exact yO hok0 fuel _ a w (fun h'=>hI (hup h')) hw'
  | some o=>
   rw[ho] at hw;have hilt:i<ops.size:=(gN.1 ho).1;have hedge:=LM hi ho
   by_cases e:p=i
   ·subst e;rw[if_pos rfl] at hw;simp only[wT] at hw;rw[ho] at hp;simp only at hp;cases hop:o.op with
    | move x=>
     rw[hop] at hp;cases x with
     | tmp t=>
      simp only[dh,decide_eq_true_eq] at hp;obtain⟨⟨rfl,hg⟩,hdst⟩:=hp;have hev:a.eval (.tmp t)=v:=hI hedge.1;have hex:execOp a.eval (Ao v o)=execOp a.eval o:=by unfold execOp Ao;simp only[hop];rw[hev];rfl
      have hnext:∀(v' : Value) (D:List Deferred) (w:World),wpAny P .any (freed ops p v) Q fuel (listed.setIfInBounds p true) (Act.put { a with defers:=D } o.dst v') w→wpAny P .any ops Q fuel (listed.setIfInBounds p true) (Act.put { a with defers:=D } o.dst v') w:=
       fun v' D w hh=>yO hok0 fuel _ _ w (fun _=>by rw[Jl hdst];exact hev) hh
      simp only;have hwt:Region.wanted (Ao v o) (yielded ops a.tmps)=Region.wanted o (yielded ops a.tmps):=rfl;rw[hwt] at hw;split
      ·rename_i hwant;rw[if_pos hwant] at hw;rcases hw with hw|hw
       ·refine .inl (wp_mono' hnext ?_);unfold Oper.wp at hw ⊢;rw[←hex];exact hw
       refine .inr ⟨?_,hw.2⟩;have:=hw.1;unfold Oper.asks at this ⊢;rw[←hex];exact this
      rename_i hwant;rw[if_neg hwant] at hw;exact hnext undef a.defers w hw
     | _=>cases hp
    | _=>rw[hop] at hp;cases hp
   rw[if_neg e] at hw;simp only at hw ⊢;have ho2:=cK.1 hall i (bV.2 hilt);rw[ho] at ho2;simp only[qJ,decide_eq_true_eq] at ho2;have hnext:∀(v' : Value) (D:List Deferred) (w:World),wpAny P .any (freed ops p v) Q fuel (listed.setIfInBounds i true) (Act.put { a with defers:=D } o.dst v') w→wpAny P .any ops Q fuel (listed.setIfInBounds i true) (Act.put { a with defers:=D } o.dst v') w:=by
    intro v' D w hh;refine yO hok0 fuel _ _ w (fun h' => ?_) hh;rcases ho2 with h2|h2
    ·rw[Jl h2];exact hI (hup h')
    rw[jO] at h2;obtain⟨e',he',h3⟩:=h2;rw[dh,decide_eq_true_eq] at h3;have:=hedge.2 e' (lG.1 he') h3.2;rw[h3.1] at this;rw[hup h'] at this;cases this
   split
   ·rename_i hwant;rw[if_pos hwant] at hw;exact hw.imp (wp_mono' hnext) id
   rename_i hwant;rw[if_neg hwant] at hw;exact hnext undef a.defers w hw
def freedL:List Oper→Nat→Value→List Oper
 | [],_,_=>[]
 | o::r,0,v=>Ao v o::r
 | o::r,k+1,v=>o::freedL r k v
theorem DX (v:Value):∀(l:List Oper) (p:Nat),l.modify p (Ao v)=freedL l p v
 | [],p=>by cases p<;>rfl
 | o::r,0=>rfl
 | o::r,k+1=>by rw[List.modify_succ_cons,DX v r k];rfl
theorem NP (l:List Oper) (p:Nat) (v:Value):freed ⟨l⟩ p v=⟨freedL l p v⟩:=by
 unfold freed;rw[←DX];simp
theorem TD {l:List Oper} (p d:Nat) (v0:Value) (hm:P.follows .mixedOrders=true) (hf:Md ⟨l⟩ p d=true) (hv:a0.eval (.tmp d)=v0)
 (h:∀ops:Array Oper,ops=(freedL l p v0).toArray→wpAny P .any ops Q ops.size (Array.replicate ops.size false) a0 { w0 with drawn:=w0.drawn+1 }) :
  (Code.region id ⟨l⟩ true).wp P Q a0 w0:=by
 have h:=h _ rfl;rw[show (freedL l p v0).toArray=freed ⟨l⟩ p v0 from (NP l p v0).symm,DJ] at h;exact wp_region_any hm (yO hf _ _ _ _ (fun _=>hv) h)
end Pw
namespace Go.Proofs.YtpaeabelhnnbiaaGreat
open _root_.Go.Proofs.Tryz
open Go.RowKit Go.Maps Pw
variable {B B' b c ct f g sz:Nat} {H:MH} {T:TypeId} {a:Option Addr} {cs:Array Value} {fs:List Fi} {m:Ma} {ps:List PF} {v:Value} {w w':World} {xs ys:List Value}
theorem GZ (l:List Cc) (a:Option Addr) (c:Nat) (w:World) (hle:l.length≤c) (hnil:a=none→c=0) (hrd:eB w a (l.flatMap jG)) (hb:l.length*24≤140737488355328) :
  Calls Tryz.prog 61 #[.slice a l.length c] w fun e w' => ∃v,e = .returned v∧Own w' w.heap.size 124 3 v l.length (l.flatMap jG)∧Below w.heap.size w w':=by
 cases a with
 | none=>
  have h0:=hnil rfl;have hl:l=[]:=jX (by omega);subst hl;subst h0;have hq:=fun W=>lI (P:=Tryz.prog) W 41 _ none 0 0 0 0 underlying41;go_enter func61,ntmps61;go_wp2;go_ret;exact⟨_,rfl,by simpa using Own.nil _ _ _ _,Below.refl _ _⟩
 | some ad=>
  have hq:=fun W=>lI (P:=Tryz.prog) W 41 _ (some ad) l.length c 0 0 underlying41;go_enter func61,ntmps61
  go_wp2_with (at_builtin;go_must (refine eH rfl _ _ 41 rfl w.heap.size 124 (.agg #[.int .i64 0,.int .i64 0,.int .i64 0]) 3 24 underlying41 cached_info rfl (by decide) _ 0 [] rfl ?own (some ad) l.length c (l.flatMap jG) rfl (fun h=>(by cases h)) hle (jJ l) ?rd (yJ l) (by unfold maxLen;omega) (by simpa using hb) ?bb ?k))
  case own=>exact⟨rfl,.inr ⟨w.heap.size,0,0,#[],rfl,az _,aJ.new _ _ _,az _,bB _,by simp,fun j u h=>by simp at h⟩⟩
  case rd=>exact hrd.below ((Below.refl _ _).alloc (az _) _)
  case bb=>exact dV _ _
  intro v w1 b d;go_wp2;go_ret;exact⟨v,rfl,by simpa using b,((Below.refl _ _).alloc (az _) _).grown d (dV _ _) (fun k hk=>by cases hk;exact az _)⟩
theorem SN.fsz (h:SN H.ma):Vr H.fi:=by
 have h1:(H.fi.map PF.fi).length≤1000:=h.st.1;rw[fP] at h1;refine⟨by omega,fun p hp => ?_⟩;have:=h.st.2 p.fi (eD.2 ⟨p,hp,rfl⟩);have e:p.fi.b.length=p.l.length:=rfl;omega
theorem SN.spz (h:SN H.ma) {p:PS} (hp:p∈H.sp):p.ar.length≤1000∧Dw p.tb:=by
 obtain⟨h1,h2⟩:=h.sp.2 p.sp (eD.2 ⟨p,hp,rfl⟩);exact⟨h1,fun k hk=>by have:=h2 k hk;have e:p.sp.tb[k].length=p.tb[k].length:=rfl;omega⟩
def ul (w:World) (B:Nat) (p:PS) (s:Sp):Prop:=p.sp=s∧Own w B 143 7 (.slice p.aa p.ar.length p.ac) p.ar.length (p.ar.flatMap fA)∧wR w B (tX p.ts) p.tb
theorem ul.below {p:PS} {s:Sp} (h:ul w B p s) (hb:Below w.heap.size w w'):ul w' B p s:=⟨h.1,h.2.1.below hb,h.2.2.below hb⟩
def Vq (B:Nat) (s:Sp):nG:=⟨fun v w => ∃p,v = .agg (Et p)∧ul w B p s,fun _ _ _ hb ⟨p,h1,h2⟩=>⟨p,h1,h2.below hb⟩⟩
def Wh (B:Nat) (s:Sp):nG:=⟨fun v w => ∃g p,v = .slice (some ⟨g,0,none⟩) 1 1∧eB w (some ⟨g,0,none⟩) (zw p)∧ul w B p s,fun _ _ _ hb ⟨g,p,h1,h2,h3⟩=>⟨g,p,h1,h2.below hb,h3.below hb⟩⟩
theorem RB {p:PS} {s:Sp} (h:ul w B p s):∀u∈zw p,u.oneCell' = true:=by
 have h1:=h.2.2.rd.one;rw[←iA,cK] at h1;intro u hu;simp only[zw,Et,fE,nZ,or_false] at hu;simp only[tX,fE,nZ,or_false] at h1;rcases hu with rfl|rfl|hu
 ·rfl
 ·rfl
 ·exact h1 u hu
theorem caO_size:(Tryz.prog.info? 41).map (·.size)=some 1:=by kernel_rfl
theorem MB {n:Nat} (ho:Own w B 114 10 (.slice a n c) n xs) (hg:w.grownBy w' (Value.slice a n c).ownBlock) :
  w.grownBy w' none∨∃g cs,aJ w g cs 114∧B≤g∧w.grownBy w' (some g):=by
 cases hr:(Value.slice a n c).ownBlock with
 | none=>rw[hr] at hg;exact .inl hg
 | some g=>
  rw[hr] at hg;obtain⟨cs,hb⟩:=rO ho g hr;exact .inr ⟨g,cs,hb,ho.ge g hr,hg⟩
theorem kz {n m:Nat} (ho:Own w B 114 10 (.slice a n c) n xs) (hg:w.grownBy w' (Value.slice a n c).ownBlock) (h:Own w B' T sz v m ys) (hT:T≠114):Own w' B' T sz v m ys:=by
 rcases MB ho hg with h1|⟨g,cs,hb,_,h1⟩
 ·exact jr h h1
 ·exact ay h hb (fun e=>hT e.symm) h1
theorem JE {n:Nat} (ho:Own w B 114 10 (.slice a n c) n xs) (hg:w.grownBy w' (Value.slice a n c).ownBlock) (h:aJ w b cs T) (hT:T≠114):aJ w' b cs T:=by
 rcases MB ho hg with h1|⟨g,cs',hb,_,h1⟩
 ·exact h.grown h1 (fun e=>by cases e)
 ·exact h.grown h1 (fun e=>vw h hb hT (aS e).symm)
theorem Tx {n:Nat} (ho:Own w B 114 10 (.slice a n c) n xs) (hg:w.grownBy w' (Value.slice a n c).ownBlock) (h:oz w B' v ps):oz w' B' v ps:=
 ⟨kz ho hg h.own (by decide),fun i p hp=>kz ho hg (h.each i p hp) (by decide),h.apart⟩
theorem Nu {n:Nat} {t:Tb} (ho:Own w B 114 10 (.slice a n c) n xs) (hg:w.grownBy w' (Value.slice a n c).ownBlock) (h:wR w B' cs t):wR w' B' cs t:=
 ⟨h.sz,fun k hk=>by obtain⟨v,h1,h2⟩:=h.own k hk;exact⟨v,h1,kz ho hg h2 (by decide)⟩,h.apart⟩
theorem mach_size:(Tryz.prog.info? 44).map (·.size)=some 11:=by kernel_rfl
theorem slsp_size:(Tryz.prog.info? 42).map (·.size)=some 1:=by kernel_rfl
def iW (f s b:Int):Ma:=if (0≤f∧f≤40)∧(0≤s∧s≤60)∧(0≤b∧b≤80) then ⟨vD f,Cn s,uk s,uk b,⟨[],b⟩,[],[⟨true,[],zTb⟩]⟩ else zMa
def uM (f s b:Int):Int:=if (0≤f∧f≤40)∧(0≤s∧s≤60)∧(0≤b∧b≤80) then 0 else 4
def noH:MH:=⟨none,0,noM,none,0,[],none,0,none,0,⟨[],[]⟩,none,0,none,0,⟨[],[]⟩,none,0,[],0,none,0,[],none,0,[]⟩
theorem noH_ma:noH.ma=zMa:=rfl
theorem uT (w:World) (B:Nat):qc w B noH:=
 ⟨Own.nil _ _ _ _,Own.nil _ _ _ _,kw.nil _ _,kw.nil _ _,⟨Own.nil _ _ _ _,fun i p hp=>by simp[noH] at hp,fun i j p q _ hp=>by simp[noH] at hp⟩,Own.nil _ _ _ _,Own.nil _ _ _ _,fun p hp=>by simp[noH] at hp,by decide⟩
def nTs:Vector Value 8:=⟨#[.slice none 0 0,.slice none 0 0,.slice none 0 0,.slice none 0 0,.slice none 0 0,.slice none 0 0,.slice none 0 0,.slice none 0 0],rfl⟩
def newP:PS:=⟨true,none,0,[],nTs,zTb⟩
theorem Rs (w:World) (B:Nat) (hB:B≤w.heap.size):Own (w.alloc (.cells (Et newP) 114)) B 114 10 (.slice (some ⟨w.heap.size,0,none⟩) 1 1) 1 ([newP].flatMap zw):=
 ⟨rfl,.inr ⟨w.heap.size,0,1,Et newP,rfl,hB,aJ.new _ _ _,az _,by decide,by decide,fun j u h=>by rw[dA,←oP];rw[show [newP].flatMap zw=(Et newP).toList from by rw[oV,List.flatMap_nil,nY];rfl] at h;exact h⟩⟩
theorem Jf (f s b:Int) (w:World) (hb64 : -9223372036854775808≤b∧b≤9223372036854775807) :
  Calls Tryz.prog 28 #[.agg #[.int .i64 f,.int .i64 s,.int .i64 b]] w fun r w' => ∃H' : MH,r = .returned (.tuple #[.agg (bW H'),.int .i64 (uM f s b)])∧qc w' w.heap.size H'∧H'.ma=iW f s b∧Below w.heap.size w w':=by
 go_enter func28,ntmps28;have bx0:=aJ.new w #[.int .i64 f,.int .i64 s,.int .i64 b] 50;have h1:Below w.heap.size w (w.alloc (.cells #[.int .i64 f,.int .i64 s,.int .i64 b] 50)):=(Below.refl _ _).alloc (az _) _;have h2:Below (w.alloc (.cells #[.int .i64 f,.int .i64 s,.int .i64 b] 50)).heap.size (w.alloc (.cells #[.int .i64 f,.int .i64 s,.int .i64 b] 50)) ((w.alloc (.cells #[.int .i64 f,.int .i64 s,.int .i64 b] 50)).alloc (.cells (bW noH) 44)):=(Below.refl _ _).alloc (az _) _;have hy:=ah h1 h2;have bx1:=bx0.ext h2;have rx1:=aJ.new (w.alloc (.cells #[.int .i64 f,.int .i64 s,.int .i64 b] 50)) (bW noH) 44;rw[show (w.alloc (.cells #[.int .i64 f,.int .i64 s,.int .i64 b] 50)).heap.size=w.heap.size+1 from yZ _] at rx1;clear h1 h2
 go_wp2_with fail
 refine (SK f _).mono ?_;rintro r w1 ⟨v1,rfl,hB,hn⟩;have bx1:=bx1.ext hn;have rx1:=rx1.ext hn;have hr:=ah hy hn;have c:=aJ.new w1 #[.slice none 0 0,.int .i64 0] 31;have a:Below w1.heap.size w1 (w1.alloc (.cells #[.slice none 0 0,.int .i64 0] 31)):=(Below.refl _ _).alloc (az _) _;have bx2:=bx1.ext a;have rx2:=rx1.ext a;have hm:=ah hr a;have p1:=(hB.below a);obtain⟨a1,c1,rfl,_⟩:=p1.rd;have hQ:=rx1.lt;have hC:=hy.size;clear hy hn a hB hr bx1
 go_wp2_with (refine ax rfl _ _ _ rfl w1.heap.size #[.slice a1 (vD f).fs.length c1,.int .i64 0] rfl rfl _ _ c rfl mem_size (fI _ _ _ _) ?_)
 intro w2 mb2 hh;have bx3:=bx2.grown hh (fun e=>by have:=aS e;omega);have rx3:=rx2.grown hh (fun e=>by have:=aS e;omega);have hg:=hm.grown hh hm.size (fun k hk=>by cases hk;omega);have q1:=ay p1 c (by decide) hh;have hw:w2.cell? ⟨w.heap.size,1,none⟩=some (.int .i64 s):=by rw[bx3.cell];rfl
 clear bx2 rx2 hm c p1 hh
 by_cases hf:0≤f∧f≤40
 ·have e1:MC f=0:=if_pos hf;rw[e1]
  go_wp2_with fail
  refine (OW s _).mono ?_;rintro r w3 ⟨v3,rfl,hv,hb⟩;have bx4:=bx3.ext hb;have rx4:=rx3.ext hb;have mb4:=mb2.ext hb;have p1:=q1.below hb;have hO:=hb.size;have hP:=mb2.lt;have hd:=ah hg hb;obtain⟨a3,c3,rfl,_⟩:=hv.rd;clear bx3 rx3 mb2 q1 hb hg hw
  by_cases hs:0≤s∧s≤60
  ·have e2:Gx s=0:=if_pos hs;rw[e2];have hw:w3.cell? ⟨w.heap.size,1,none⟩=some (.int .i64 s):=by rw[bx4.cell];rfl
   go_wp2_with fail
   refine (JF s _).mono ?_;rintro r w4 ⟨vb,vq,rfl,hu,u⟩;have a:Below w4.heap.size w4 (w4.alloc (.cells #[.slice none 0 0,.slice none 0 0] 37)):=(Below.refl _ _).alloc (az _) _;have c:=aJ.new w4 #[.slice none 0 0,.slice none 0 0] 37;have hN:=u.size;have bx5:=(bx4.ext u).ext a;have rx5:=(rx4.ext u).ext a;have mb5:=(mb4.ext u).ext a;have q1:=(p1.below u).below a;have q3:=(hv.below u).below a;have q4:kw _ _ _ _ _:=⟨hu.b.below a,hu.q.below a⟩;have hl:=ah (ah hd u) a;obtain⟨ab,cb,rfl,_⟩:=q4.b.rd;obtain⟨aq,cq,rfl,_⟩:=q4.q.rd;have hI:=(mb4.ext u).lt;clear bx4 rx4 mb4 p1 hv hu u a hd hw
   go_wp2_with (refine ax rfl _ _ _ rfl w4.heap.size #[.slice ab (uk s).blocks.length cb,.slice aq (uk s).queue.length cq] rfl rfl _ _ c rfl disk_size (pE _ _ _ _ _ _) ?_)
   intro w5 sb5 y;have bx6:=bx5.grown y (fun e=>by have:=aS e;omega);have rx6:=rx5.grown y (fun e=>by have:=aS e;omega);have mb6:=mb5.grown y (fun e=>by have:=aS e;omega);have hq:=hl.grown y hl.size (fun k hk=>by cases hk;omega);have p1:=ay q1 c (by decide) y;have p3:=ay q3 c (by decide) y;have p4:=q4.keep c (by decide) (by decide) y;have hx:w5.cell? ⟨w.heap.size,2,none⟩=some (.int .i64 b):=by rw[bx6.cell];rfl
   clear bx5 rx5 mb5 q1 q3 q4 y c hl
   go_wp2_with fail
   refine (JF b _).mono ?_;rintro r w6 ⟨vb,vq,rfl,ht,l⟩;have a:Below w6.heap.size w6 (w6.alloc (.cells #[.slice none 0 0,.slice none 0 0] 37)):=(Below.refl _ _).alloc (az _) _;have c:=aJ.new w6 #[.slice none 0 0,.slice none 0 0] 37;have hL:=l.size;have hH:=sb5.lt;have hG:=(sb5.ext l).lt;have bx7:=(bx6.ext l).ext a;have rx7:=(rx6.ext l).ext a;have mb7:=(mb6.ext l).ext a;have sb7:=(sb5.ext l).ext a;have q1:=(p1.below l).below a;have q3:=(p3.below l).below a;have q4:kw _ _ _ _ _:=⟨(p4.b.below l).below a,(p4.q.below l).below a⟩;have q6:kw _ _ _ _ _:=⟨ht.b.below a,ht.q.below a⟩;have hj:=ah (ah hq l) a;obtain⟨db,dcb,rfl,_⟩:=q6.b.rd;obtain⟨dq,dcq,rfl,_⟩:=q6.q.rd;clear bx6 rx6 mb6 sb5 p1 p3 p4 ht l a hq hx
   go_wp2_with (refine ax rfl _ _ _ rfl w6.heap.size #[.slice db (uk b).blocks.length dcb,.slice dq (uk b).queue.length dcq] rfl rfl _ _ c rfl disk_size (pE _ _ _ _ _ _) ?_)
   intro w7 db7 o;have bx8:=bx7.grown o (fun e=>by have:=aS e;omega);have rx8:=rx7.grown o (fun e=>by have:=aS e;omega);have mb8:=mb7.grown o (fun e=>by have:=aS e;omega);have sb8:=sb7.grown o (fun e=>by have:=aS e;omega);have hc:=hj.grown o hj.size (fun k hk=>by cases hk;omega);have p1:=ay q1 c (by decide) o;have p3:=ay q3 c (by decide) o;have p4:=q4.keep c (by decide) (by decide) o;have p6:=q6.keep c (by decide) (by decide) o;have hx:w7.cell? ⟨w.heap.size,2,none⟩=some (.int .i64 b):=by rw[bx8.cell];rfl
   clear bx7 rx7 mb7 sb7 q1 q3 q4 q6 o c hj
   by_cases hk:0≤b∧b≤80
   ·have e3:Na b=0:=if_pos hk;rw[e3]
    go_wp2_with fail
    refine (Sy b _).mono ?_;rintro r w8 ⟨rfl,d⟩;have e4:TU b=b:=if_neg (by omega);have e5:Ux b=0:=if_neg (by omega);rw[e4,e5];have a:Below w8.heap.size w8 (w8.alloc (.cells #[.slice none 0 0,.int .i64 0] 40)):=(Below.refl _ _).alloc (az _) _;have c:=aJ.new w8 #[.slice none 0 0,.int .i64 0] 40;have hK:=d.size;have hF:=db7.lt;have hE:=(db7.ext d).lt;have rx9:=(rx8.ext d).ext a;have mb9:=(mb8.ext d).ext a;have sb9:=(sb8.ext d).ext a;have db9:=(db7.ext d).ext a;have q1:=(p1.below d).below a;have q3:=(p3.below d).below a;have q4:kw _ _ _ _ _:=⟨(p4.b.below d).below a,(p4.q.below d).below a⟩;have q6:kw _ _ _ _ _:=⟨(p6.b.below d).below a,(p6.q.below d).below a⟩;have hi:=ah (ah hc d) a;clear bx8 rx8 mb8 sb8 db7 p1 p3 p4 p6 d a hc hx
    go_wp2_with (refine ax rfl _ _ _ rfl w8.heap.size #[.slice none 0 0,.int .i64 b] rfl rfl _ _ c rfl store_size (fI _ _ _ _) ?_)
    intro w9 tb9 n;have rx10:=rx9.grown n (fun e=>by have:=aS e;omega);have mb10:=mb9.grown n (fun e=>by have:=aS e;omega);have sb10:=sb9.grown n (fun e=>by have:=aS e;omega);have db10:=db9.grown n (fun e=>by have:=aS e;omega);have ha:=hi.grown n hi.size (fun k hk=>by cases hk;omega);have p1:=ay q1 c (by decide) n;have p3:=ay q3 c (by decide) n;have p4:=q4.keep c (by decide) (by decide) n;have p6:=q6.keep c (by decide) (by decide) n;clear rx9 mb9 sb9 db9 q1 q3 q4 q6 n c hi;obtain⟨M,hM⟩:∃M:MH,Hid (M=⟨a1,c1,⟨(vD f).fs,0⟩,a3,c3,Cn s,ab,cb,aq,cq,uk s,db,dcb,dq,dcq,uk b,none,0,[],b,none,0,[],some ⟨w9.heap.size,0,none⟩,1,[newP]⟩):=⟨_,ae rfl⟩;have t:Below w9.heap.size w9 (w9.alloc (.cells (Et newP) 114)):=(Below.refl _ _).alloc (az _) _;have rx11:=rx10.ext t;have q1:=p1.below t;have q3:=p3.below t;have q4:kw _ _ _ _ _:=⟨p4.b.below t,p4.q.below t⟩;have q6:kw _ _ _ _ _:=⟨p6.b.below t,p6.q.below t⟩;have q7:=Rs w9 w.heap.size ha.size;have z:=ah ha t;have hD:=tb9.lt;have hJ:=rx10.lt;clear p1 p3 p4 p6 t
    go_wp2_with (first | (refine aC _ _ rfl w1.heap.size 0 rfl rfl _ mb10.rd _ underlying31 rfl mem_size ?_) | (refine aC _ _ rfl w4.heap.size 0 rfl rfl _ sb10.rd _ underlying37 rfl disk_size ?_) | (refine aC _ _ rfl w6.heap.size 0 rfl rfl _ db10.rd _ underlying37 rfl disk_size ?_) | (refine aC _ _ rfl w8.heap.size 0 rfl rfl _ tb9.rd _ underlying40 rfl store_size ?_) | (refine ax rfl _ _ _ rfl (w.heap.size+1) #[.slice a1 (vD f).fs.length c1,.int .i64 0,.slice a3 (Cn s).length c3,.slice ab (uk s).blocks.length cb,.slice aq (uk s).queue.length cq,.slice db (uk b).blocks.length dcb,.slice dq (uk b).queue.length dcq,.slice none 0 0,.int .i64 b,.slice none 0 0,.slice (some ⟨w9.heap.size,0,none⟩) 1 1] rfl rfl _ _ rx11 rfl mach_size (by simp[Value.oneCell']) ?_))
    intro we x g;have hz : aJ we (w.heap.size+1) (bW M) 44:=by rw[hM.out];exact x
    have m:=z.grown g z.size (fun k hk=>by cases hk;omega);have hA:qc we w.heap.size M:=by
     rw[hM.out];refine⟨(ay q1 rx11 (by decide) g).mono hC,(ay q3 rx11 (by decide) g).mono (by omega),?_,?_,⟨Own.nil _ _ _ _,fun i p hp=>by simp at hp,fun i j p q _ hp=>by simp at hp⟩,Own.nil _ _ _ _,ay q7 rx11 (by decide) g,fun p hp => ?_,hb64⟩
     ·exact (q4.keep rx11 (by decide) (by decide) g).mono (by omega)
     ·exact (q6.keep rx11 (by decide) (by decide) g).mono (by omega)
     rw[bN.1 hp];exact⟨Own.nil _ _ _ _,Jb _ _⟩
    clear x rx10 rx11 mb10 sb10 db10 tb9 q1 q3 q4 q6 q7 g ha z;go_wp2;refine bodyPost_ret (v:=.tuple #[.agg (bW M),.int .i64 0]) (fZ results28 _ _ (w.heap.size+1) _ _ _ _ rfl rfl hz underlying44 rfl mach_size) rfl ?_;refine⟨M,by rw[show uM f s b=0 from if_pos ⟨hf,hs,hk⟩],hA,?_,m⟩;rw[show iW f s b=_ from if_pos ⟨hf,hs,hk⟩,hM.out];unfold MH.ma;rw[show vD f=⟨List.replicate f.toNat frZ,0⟩ from if_pos hf];rfl
   have e3:Na b=4:=if_neg hk;rw[e3]
   go_wp2_with (refine ax rfl _ _ _ rfl (w.heap.size+1) (bW noH) rfl rfl _ _ rx8 rfl mach_size (eU noH) ?_)
   intro we x g;have m:=hc.grown g hc.size (fun k hk=>by cases hk;omega);go_wp2;refine bodyPost_ret (v:=.tuple #[.agg (bW noH),.int .i64 4]) (fZ results28 _ _ (w.heap.size+1) _ _ _ _ rfl rfl x underlying44 rfl mach_size) rfl ?_;exact⟨noH,by rw[show uM f s b=4 from if_neg (fun h=>hk h.2.2)],uT _ _,by rw[show iW f s b=zMa from if_neg (fun h=>hk h.2.2)];rfl,m⟩
  have e2:Gx s=4:=if_neg hs;rw[e2]
  go_wp2_with (refine ax rfl _ _ _ rfl (w.heap.size+1) (bW noH) rfl rfl _ _ rx4 rfl mach_size (eU noH) ?_)
  intro we x g;have m:=hd.grown g hd.size (fun k hk=>by cases hk;omega);go_wp2;refine bodyPost_ret (v:=.tuple #[.agg (bW noH),.int .i64 4]) (fZ results28 _ _ (w.heap.size+1) _ _ _ _ rfl rfl x underlying44 rfl mach_size) rfl ?_;exact⟨noH,by rw[show uM f s b=4 from if_neg (fun h=>hs h.2.1)],uT _ _,by rw[show iW f s b=zMa from if_neg (fun h=>hs h.2.1)];rfl,m⟩
 have e1:MC f=4:=if_neg hf;rw[e1]
 go_wp2_with (refine ax rfl _ _ _ rfl (w.heap.size+1) (bW noH) rfl rfl _ _ rx3 rfl mach_size (eU noH) ?_)
 intro we x g;have m:=hg.grown g hg.size (fun k hk=>by cases hk;omega);go_wp2;refine bodyPost_ret (v:=.tuple #[.agg (bW noH),.int .i64 4]) (fZ results28 _ _ (w.heap.size+1) _ _ _ _ rfl rfl x underlying44 rfl mach_size) rfl ?_;exact⟨noH,by rw[show uM f s b=4 from if_neg (fun h=>hf h.1)],uT _ _,by rw[show iW f s b=zMa from if_neg (fun h=>hf h.1)];rfl,m⟩
structure Fb (ct:Nat) (bl:List Page) (q:List (Int × Page)) (fs:List Fi) (x:List Int):Prop where
 cl:bl.length=ct∧ct≤80
 ok:∀f∈fs,DW ct f
 nd:(kQ (fs.flatMap Fi.b++x)).Nodup
 xb:∀b∈x,-1≤b∧b<ct
 tr:∀b:Int,0≤b→b<ct→b∈fs.flatMap Fi.b++x∨bl.getD b.toNat zPg=zPg
 qb:∀p∈q,p.1∈fs.flatMap Fi.b++x∧0≤p.1∧p.1<ct
 ql:q.length≤12*fs.length+x.length
theorem Fb.start (h:ct≤80):Fb ct (List.replicate ct zPg) [] [] [] where
 cl:=⟨by simp,h⟩
 ok:=fun f hf=>by cases hf
 nd:=by simp[kQ]
 xb:=fun b hb=>by cases hb
 tr:=fun b h0 h1 => .inr (by rw[bM,rV,if_pos (by omega)];rfl)
 qb:=fun p hp=>by cases hp
 ql:=by simp
def Gj (f s ct:Nat) (bl:List Page) (q:List (Int × Page)) (fs:List Fi):Ma:=⟨⟨List.replicate f frZ,0⟩,List.replicate s 0,⟨List.replicate s zPg,[]⟩,⟨bl,q⟩,⟨fs,ct⟩,[],[]⟩
theorem Fb.bd {s:Nat} {bl:List Page} {q:List (Int × Page)} (h:Fb ct bl q fs []) (hl:fs.length≤5) (hf:f≤40) (hs:s≤60):Bd (Gj f s ct bl q fs) []:=by
 have a:∀i,i<f→aD (Gj f s ct bl q fs) i=frZ:=fun i hi=>by unfold aD Gj;rw[bM,rV,if_pos hi];rfl
 have g:∀p n,(aL (Gj f s ct bl q fs) p n).k=0:=fun p n=>by unfold aL;rw[qd (by simp[Gj])];show (dB zTb n).k=0;rw[yF];rfl
 have hw:aO ⟨fs,(ct:Int)⟩=0:=kP.2 ⟨⟨hl,by show (0:Int)≤ct;omega,by show (ct:Int)≤80;have:=h.cl.2;omega⟩,h.ok,by have:=h.nd;rw[nY] at this;exact this⟩;have o:cB ⟨bl,q⟩=0:=(jY _).2 ⟨by show bl.length≤80;have:=h.cl;omega,by show q.length≤400;have:=h.ql;simp only[wu] at this;omega,fun x hx=>by have:=(h.qb x hx).2;have e:bl.length=ct:=h.cl.1;show 0≤x.1∧x.1<(bl.length:Int);omega⟩;have j:cB ⟨List.replicate s zPg,[]⟩=0:=(jY _).2 ⟨by simp;omega,by simp,fun x hx=>(by cases hx)⟩;have l:dD (List.replicate s (0:Int))=0:=EW (by simp;exact hs) fun x hx=>by rw[(BN.1 hx).2];decide
 have hm:bC ⟨List.replicate f frZ,0⟩=0:=(dZ _).2 ⟨by simp;exact hf,fun x hx=>by rw[(BN.1 hx).2];decide,Int.le_refl _,.inl rfl⟩;have d:sP (Gj f s ct bl q fs) []=Gj f s ct bl q fs:=rfl;have hh:∀kd i,bU (Gj f s ct bl q fs) kd i=0:=fun _ _=>rfl;have hc:∀i,vk (Gj f s ct bl q fs) i=0:=fun _=>rfl;refine⟨⟨rfl,fun t ht=>(by cases ht),fun t ht=>(by cases ht)⟩,?_,?_⟩
 ·rw[d];refine⟨⟨hm,l,j,o,hw,by simp[Gj],by have:=h.cl.1;show (bl.length:Int)=ct;omega,by simp[Gj],fun s hs=>(by cases hs),fun s hs=>(by cases hs)⟩,⟨fun b h0 h1 => ?_,fun p hp => ?_⟩,fun p _=>⟨by rw[qd (by simp[Gj])];rfl,fun n=>g p n⟩,⟨fun c hc=>(by cases hc),fun c hc=>(by cases hc),fun c hc=>(by cases hc),List.Pairwise.nil⟩,fun p n hk=>absurd (g p n) hk,fun i hi => ?_,fun i hi h0 => ?_,fun i hi => ?_⟩
  ·have e:(Gj f s ct bl q fs).dk.blocks.length=ct:=h.cl.1;have:=h.tr b h0 (by omega);rw[nY] at this;exact this
  ·have:=(h.qb p hp).1;rw[nY] at this;exact this
  ·rw[a i (by have e:(Gj f s ct bl q fs).m.fs.length=f:=pQ;omega),hh,hc];rfl
  ·rw[a i (by have e:(Gj f s ct bl q fs).m.fs.length=f:=pQ;omega)] at h0;exact absurd h0 (by decide)
  rw[hh];have e:(Gj f s ct bl q fs).sl.length=s:=pQ;unfold lC;show (List.replicate s (0:Int)).getD i 0=_;rw[bM,rV,if_pos (by omega)];rfl
 rw[d];refine⟨fun c hc=>(by cases hc),fun c hc=>(by cases hc),fun i hi hd => ?_⟩;rw[a i (by have e:(Gj f s ct bl q fs).m.fs.length=f:=pQ;omega)] at hd;exact absurd hd (by decide)
theorem Sz {s:Nat} (hf:f≤40) (hs:s≤60) (hc:ct≤80):sP { Gj f s ct (List.replicate ct zPg) [] [] with sp:=[⟨true,[],zTb⟩] } [List.replicate 64 zEn]=iW f s ct:=by
 have e1:iW f s ct=⟨vD f,Cn s,uk s,uk ct,⟨[],ct⟩,[],[⟨true,[],zTb⟩]⟩:=if_pos ⟨⟨by omega,by omega⟩,⟨by omega,by omega⟩,by omega,by omega⟩;have hz:qP (List.replicate 64 zEn)=zTb:=by decide +kernel
 rw[e1];unfold vD Cn uk sP Gj;rw[if_pos (by omega),if_pos (by omega),if_pos (by omega),if_pos (by omega)];simp only[bD,nz,wu];have e2:qP (Oy [List.replicate 64 zEn] 0)=zTb:=hz;show (⟨⟨List.replicate f frZ,0⟩,List.replicate s 0,⟨List.replicate s zPg,[]⟩,⟨List.replicate ct zPg,[]⟩,⟨[],ct⟩,[],[⟨true,[],qP (Oy [List.replicate 64 zEn] 0)⟩]⟩:Ma)=_;rw[e2]
theorem zz (h:Rt m):SN m:=by
 have h1:=h.pt;have hw:=(jY _).1 h1.sw;have hd:=(jY _).1 h1.dk;have a:=(jS h1.st).1;refine⟨by have:=((dZ _).1 h1.fr).1;omega,by have:=mf h1.sl;omega,by omega,by omega,by omega,by omega,⟨by omega,fun f hf=>by have:=OD h1.st f hf;omega⟩,by have:=VM h.ca h1.st;omega,by have:=h1.spl;omega,fun s hs=>⟨?_,fun k hk => ?_⟩⟩
 ·have:=(qQ.1 (h1.ar s hs)).1;omega
 ·have:=qg (mF (h1.tb s hs) k hk);omega
theorem Ji {o:Nat} {P:PS} (h:eB w (some ⟨g,o,none⟩) (zw P)):w.cell? ⟨g,o+1,none⟩=some (.slice P.aa P.ar.length P.ac):=by
 obtain⟨b',o',e',a⟩:=h 1 _ rfl;cases e';exact a
theorem Lg (H:MH) (e f i:Int) (B b:Nat) (w:World) (h:jf w B b H e) (hR:Rt H.ma) (hin:mK H.ma.st f i) :
  Calls Tryz.prog 124 #[.pointer (some ⟨b,0,none⟩),.int .i64 f,.int .i64 i] w fun r w'=>r = .returned (.int .i64 (eQ ⟨H.ma,e⟩ f i).2)∧KR w B b H w' (eQ ⟨H.ma,e⟩ f i).1:=by
 have hz:=zz hR;obtain⟨F,rfl⟩:∃F:Nat,f=F:=⟨f.toNat,by have:=hin.1;omega⟩;obtain⟨I,rfl⟩:∃I:Nat,i=I:=⟨i.toNat,by have:=hin.2;omega⟩;have hF:F<H.fi.length:=by have:=hin.1.2;have e1:H.ma.st.fs.length=H.fi.length:=fP _;omega
 obtain⟨P,hP⟩:∃P,H.fi[F]?=some P:=⟨_,aN hF⟩;have g:aH H.ma.st F=P.fi:=jV (by show (H.fi.map PF.fi)[F]?=_;rw[iY,hP];rfl);have hb:=nL hin;rw[g,bD] at hb;have d:=zI hR.pt.st hin;have a:=lU hR.pt.st hin.1;rw[g] at d a;have j:=block_lt hR.pt.st hin;refine JO H e F I P _ B b w h hP hb ⟨a.1,by have:P.n≤96:=a.2.1;omega⟩ (by omega) (fun c hc=>hR.ca.lt c hc) (fun h0 => ?_) (by have:=hz.sp.1;rwa [tQ] at this) hz.ca hz.fs;rw[iQ];have:=hR.pt.dkl;exact⟨hR.pt.dk,h0,by show _<(H.ma.dk.blocks.length:Int);omega⟩
theorem Sr (ps:List PF) (k:Int) (f i:Int) (a:Option Addr) (c:Nat) (w:World) (h:PV w a c ps) (hf:0≤f∧f<(ps.length:Int)) (hn:(aH (bJ ps k) f).n≤9223372036854775807) :
  Calls Tryz.prog 164 #[.agg (PU a ps.length c k),.int .i64 f,.int .i64 i] w fun r w'=>r = .returned (.bool (nU (bJ ps k) f i))∧Below w.heap.size w w':=by
 obtain⟨F,rfl⟩:∃F:Nat,f=F:=⟨f.toNat,by omega⟩;have hF:F<ps.length:=by omega
 have b:aH (bJ ps k) F=(ps[F]).fi:=jV (by show (ps.map PF.fi)[F]?=_;rw[iY,aN hF];rfl);have hE:Hid (nU (bJ ps k) F i=decide (gu (ps[F]).n≤i)):=ae (by unfold nU;rw[b];rfl);rw[b] at hn;unfold PU;go_enter func164,ntmps164;go_upto_region 1 with (fail);refine jl (fun W=>Code.wp _ _ _ _ W) fun w1 d bx1 e => ?_;obtain⟨b',o',P,rfl,hP,g,_⟩:=yY (h.below d).rd F hF;rw[aN hF] at hP;have hP:=aS hP;rw[hP] at hE hn;have hc:=bx1.cell;have j:(F:Int)<(ps.length:Int):=by omega
 clear b hP h
 go_wp2_with fail
 refine (zC P.n _ hn).mono ?_;rintro r w2 ⟨rfl,rfl⟩;go_wp2;go_ret;rw[hE.out];exact⟨rfl,d⟩
def Ev (m:Ma) (p:Nat) (n:Int) (w:Bool):Ar:=if mJ m p n w≠0 then zAr else jc m p n
theorem vJ (a:Ar):(kE a).all (·.oneCell')=true:=by simp[kE,Value.oneCell']
theorem jE : (Tryz.prog.info? 143).map (·.size)=some 7:=by kernel_rfl
theorem QR (H:MH) (e n:Int) (p:Nat) (wr:Bool) (B b:Nat) (w:World) (h:jf w B b H e) (hp:p<H.sp.length) :
    Calls Tryz.prog 163 #[.pointer (some ⟨b,0,none⟩),.int .i64 p,.int .i64 n,.bool wr] w fun r w'=>r = .returned (.tuple #[.agg (kE (Ev H.ma p n wr)),.int .i64 (mJ H.ma p n wr)])∧Below w.heap.size w w':=by
  obtain⟨P,hP⟩:∃P,H.sp[p]?=some P:=⟨_,aN hp⟩;have x:=ae (wh hP);have hr:(p:Int)<(H.sp.length:Int):=by omega
  go_enter func163,ntmps163;go_upto_region 1 with (fail);refine jl (fun W=>Code.wp _ _ _ _ W) fun w1 hd ax1 hl => ?_;have k1:=h.below hd;clear h;obtain⟨g,off,s,c,y,d⟩:=k1.at hP;have hc:=k1.blk.cell;unfold nC at hc;rw[s] at hc;have t:=Ji c;have hA:=d.ars
  go_wp2_with fail
  refine (EL P.ar n P.aa P.ac _ hA.rd (by have:=hA.le;have:=hA.mx;unfold maxLen at this;omega)).mono ?_;rintro r w2 ⟨rfl,i⟩;have hj:=hA.below i;have k2:=k1.below i;have ax2:=ax1.ext i;have j:=ah hd i;clear hc t c y d s k1 hA ax1 hd i hl
  by_cases hneg:fB P.ar n<0
  · have hE:Hid (Ev H.ma p n wr=zAr∧mJ H.ma p n wr=5):=ae (by
      have e1:mJ H.ma p n wr=5:=by unfold mJ;rw[x.out];exact if_pos hneg
      exact⟨by unfold Ev;rw[e1];exact if_pos (by decide),e1⟩)
    go_wp2_with (refine ax rfl _ _ _ rfl w.heap.size (kE zAr) rfl rfl _ _ ax2 rfl jE (vJ zAr) ?_)
    intro we m o;have f:=j.grown o j.size (fun k hk=>by cases hk;exact az _);go_wp2;rw[hE.out.1,hE.out.2];refine bodyPost_ret (v:=.tuple #[.agg (kE zAr),_]) (fZ results163 _ _ w.heap.size _ _ _ _ rfl rfl m underlying143 rfl jE) rfl ?_;exact⟨rfl,f⟩
  obtain⟨k,hk,hg,_⟩:=Cb (q:=uW n) (l:=P.ar) (by show 0≤fB P.ar n;omega);have ha : fB P.ar n=k:=hk;have hf:Hid (jc H.ma p n=P.ar[k]):=ae (by unfold jc;rw[x.out];show P.ar.getD (fB P.ar n).toNat zAr=_;rw[ha,bD,bM,aN hg];rfl);obtain⟨ba,oa,hi,u⟩:=pG jo (by decide) hj.rd k hg;have z:Hid (mJ H.ma p n wr=if (wr=true∧(P.ar[k]).wr=false)∨(wr=false∧(P.ar[k]).rd=false) then 8 else 0):=ae (by
    have e1:¬fB (bX H.ma p).ar n<0:=by rw[x.out];exact hneg
    unfold mJ;rw[if_neg e1,hf.out])
  generalize P.ar[k]=a at *
  obtain⟨g,off,s,c,y,d⟩:=k2.at hP;have hc:=k2.blk.cell;unfold nC at hc;rw[s] at hc;have t:=Ji c;rw[hi] at t;rw[ha] at hneg ⊢;have hs:(k:Int)<(P.ar.length:Int):=by omega
  clear hk ha hneg c y d s hj hi
  go_wp2_with (first | (refine aC _ _ rfl ba (oa+k*7) rfl rfl _ u _ underlying143 rfl jE ?_) | (refine aT rfl _ _ _ rfl (kE a) rfl rfl rfl jE (vJ a) ?_))
  intro w3 hb bx3;have j:=ah j hb;have ax2:=ax2.ext hb;clear hc t u hb k2;have hh:=bx3.cell;unfold kE at hh;have hm:eB w3 (some ⟨w2.heap.size,0,none⟩) (fA a):=cz bx3 0 7;have hq:Hid ((wr=true∧a.wr=false)∨(wr=false∧a.rd=false)→Ev H.ma p n wr=zAr∧mJ H.ma p n wr=8):=ae fun hc=>by
    have e1:mJ H.ma p n wr=8:=by rw[z.out,if_pos hc]
    exact⟨by unfold Ev;rw[e1];exact if_pos (by decide),e1⟩
  have hn:Hid (¬((wr=true∧a.wr=false)∨(wr=false∧a.rd=false))→Ev H.ma p n wr=a∧mJ H.ma p n wr=0):=ae fun hc=>by
    have e1:mJ H.ma p n wr=0:=by rw[z.out,if_neg hc]
    exact⟨by unfold Ev;rw[e1];exact hf.out,e1⟩
  clear z hf;cases wr<;>cases c:a.rd<;>cases hwr:a.wr<;>rw[c,hwr] at hh
  all_goals
    first
      | (have hE:=ae (hn.out (by simp[c,hwr]))
         go_wp2_with (first | (refine aC _ _ rfl w2.heap.size 0 rfl rfl _ hm _ underlying143 rfl jE ?_) | (refine ax rfl _ _ _ rfl w.heap.size (kE a) rfl rfl _ _ ax2 rfl jE (vJ a) ?_))
         intro we m o;have f:=j.grown o j.size (fun k hk=>by cases hk;exact az _);go_wp2;rw[hE.out.1,hE.out.2];refine bodyPost_ret (v:=.tuple #[.agg (kE a),_]) (fZ results163 _ _ w.heap.size _ _ _ _ rfl rfl m underlying143 rfl jE) rfl ?_;exact⟨rfl,f⟩)
      | (have hE:=ae (hq.out (by simp[c,hwr]))
         go_wp2_with (refine ax rfl _ _ _ rfl w.heap.size (kE zAr) rfl rfl _ _ ax2 rfl jE (vJ zAr) ?_)
         intro we m o;have f:=j.grown o j.size (fun k hk=>by cases hk;exact az _);go_wp2;rw[hE.out.1,hE.out.2];refine bodyPost_ret (v:=.tuple #[.agg (kE zAr),_]) (fZ results163 _ _ w.heap.size _ _ _ _ rfl rfl m underlying143 rfl jE) rfl ?_;exact⟨rfl,f⟩)
end Go.Proofs.YtpaeabelhnnbiaaGreat
namespace Pw
open Go Go.RowKit
variable {P:Program} {Q:Exit → Act → World → Prop} {a0:Act} {id:Nat} {ops:Array Oper} {rest:List Oper} {t0:Array Value} {w0:World}
theorem Qm (m:Nat) (l:List nG) (J:(Nat→Bool)→(Nat→Value)→World→Prop) (hst:∀L y w w',Below w.heap.size w w'→J L y w→J L y w') (hJ0:∀y,J (fun _=>false) y w0) (hfix:Fixed l) (hm:P.follows .mixedOrders=true) (ops' : Array Oper) (hs:dE ops=ops') (hok:jL ops' = true) (ht:jd ops' m=true) (hmn:m≤ops'.size)
 (n:Nat) (hn:a0.tmps.size=n) (hsz:kV ops' n=true)
 (hstep:bq (vB P ops' a0 J l) 0 (ops'.toList.take m))
 (hend:∀y w,J (fun i=>decide (i<m)) y w→(∀i,i<m→rl l i (y i) w)→wpList P ops' Q (ops'.toList.drop m) { a0 with tmps:=lay (fun i=>decide (i<m)) y ops'.toList 0 a0.tmps } w) :
  (Code.region id ops true).wp P Q a0 w0:=by
 refine wp_region_any hm (zR _ _ _ _ ?_);have h9:=OJ m l J hst hJ0 hfix hok ht hmn n hn hsz hstep hend;subst hs;rw[xU] at h9;exact h9
theorem nX {df:List Deferred} (m:Nat) (l:List RV) (J:(Nat→Bool)→(Nat→Value)→World→Prop) (hst:∀L y w w',Below w.heap.size w w'→J L y w→J L y w') (hJ0:∀y,J (fun _=>false) y w0)
 (hstep:bq (vB P (dE ops) ⟨t0,df⟩ J (rvs l)) 0 ((dE ops).toList.take m)) {tm:(Nat→Value)→List Value} (hf:∀y,zn y l (dE ops).toList t0.toList=some (tm y)) (hd:wr ((dE ops).toList.drop m)=some rest)
 (hend:∀y w,J (fun i=>decide (i<m)) y w→(∀i,i<m→rl (rvs l) i (y i) w)→wpList P (dE ops) Q rest ⟨(tm y).toArray,df⟩ w)
 (hfix:Fixed (rvs l):=by repeat (first | exact fix_nil | refine QE (fun _ _ _ h=>h) ?_))
 (hm:P.follows .mixedOrders=true:=by kernel_rfl) (hok:jL (dE ops)=true:=by kernel_rfl) (ht:jd (dE ops) m=true:=by kernel_rfl) (hmn:m≤(dE ops).size:=by decide) (hll:l.length=m:=by rfl) (hix:idxOk l 0=true:=by kernel_rfl)
 (hsz:kV (dE ops) t0.size=true:=by kernel_rfl):(Code.region id ops true).wp P Q ⟨t0,df⟩ w0:=by
 refine Qm m (rvs l) J hst hJ0 hfix hm (dE ops) rfl hok ht hmn _ rfl hsz hstep fun y w hb hR => ?_;have h:=hend y w hb hR;rw[Rq hd];show wpList P (dE ops) Q rest ⟨lay (fun i=>decide (i<m)) y (dE ops).toList 0 t0,df⟩ w;rw[Ob hix hll hmn hR (hf y)];exact h
end Pw
namespace Go.Proofs.YtpaeabelhnnbiaaGreat
open _root_.Go.Proofs.Tryz
open Go.RowKit Go.Maps Pw
variable {L:Nat → Bool} {P:Program} {g i p:Nat} {m m':Ma} {n:Int} {o op:Oper} {ops:Array Oper} {w w':World} {y:Nat → Value} {ρ:Operand → Value}
theorem ll (ty:TypeId) (x y:Operand) (ho:op.op = .store ty x y)
 (b o:Nat) (v:Value) (cells:List Value) (hx:ρ x = .pointer (some ⟨b,o,none⟩)) (hy:ρ y=v) (hc:v.cells.toList=cells) (cur:Array Value) (T:TypeId) (hg:aJ w b cur T)
 (hfit:o+cells.length≤cur.size) (hi:(P.info? ty).map (·.size)=some cells.length) (h1:∀u∈cells,u.oneCell' = true):(execOp ρ op).run P w = .ok .skip (w.setCells b o cells):=by
 have a:=run_storeCells_cells (P:=P) b o cells 0 w
  (fun j hj=>by rw[kU,hg.cell];simp[show o+j<cur.size by omega]) (fun j hj=>hg.free _) h1
 simp only[kU] at a;have c:(storeVar ty ⟨b,o,none⟩ v).run P w = .ok () (w.setCells b o cells):=by
  cases hq:P.info? ty with
  | none=>simp[hq] at hi
  | some i=>
   have hs:i.size=cells.length:=by simpa[hq] using hi
   have hv:v.cells.size=cells.length:=by rw[←hc];simp
   simp[storeVar,Go.sizeOf,typeInfo,hq,hs,hv,hc,a]
 unfold execOp;simp only[ho,hx,hy,Instr.storeAt,Instr.sureAddr,jZ,pu,oZ,c]
theorem jk {l:List nG} {J:(Nat→Bool)→(Nat→Value)→World→Prop} (hw:Region.wanted o (ik ρ ops)=true) (hrun:(execOp ρ o).run P w = .ok .skip w')
 (hJ:J (oJ L i) (sZ y i undef) w') (hR:rl l i undef w') :
  if Region.wanted o (ik ρ ops)=true then dP P o ρ w (fun v w'=>J (oJ L i) (sZ y i v) w'∧rl l i v w') else J (oJ L i) (sZ y i undef) w∧rl l i undef w:=by
 rw[if_pos hw];unfold dP;rw[hrun];exact⟨hJ,hR⟩
theorem TG (h:i<m.m.fs.length):aD m i=m.m.fs[i]:=by unfold aD;rw[bM,aN h];rfl
def iC (m:Ma) (p:Nat) (n:Int):Option Page:=
 if (aL m p n).k=1 then (if (gP m (aL m p n).n).f<0 then some (gP m (aL m p n).n).p else none)
 else if (aL m p n).k=2 then some (dN m.sw (aL m p n).n) else none
theorem Hu (h:Rt m) {g:Pg} (hg:fD m p n=some g):iM m p n=match iC m p n with
  | some P=>(P,true,0)
  | none=>if g.fi<0 then (zPg,false,0) else if (m.st.fs.length:Int)≤g.fi∨nU m.st g.fi g.pg=true then (zPg,false,9) else (aR m g.fi g.pg,false,0):=by
 rw[iE hg];unfold sM iC
 by_cases k1:(aL m p n).k=1
 ·rw[if_pos k1,if_pos k1];obtain⟨f,e1,hf,hr,hp,o,g0,e,a⟩:=iG h k1;rw[hg] at e;cases e;rw[e1,vP]
  by_cases h0:(aD m f).f<0
  ·rw[if_pos h0,decide_eq_true h0]
  rw[if_neg h0,decide_eq_false h0];obtain⟨c,i,l⟩:=h.fc f hf (by omega);have b:=h.ca.fr c i;have d:=h.ca.file c i;rw[l,bD] at b;obtain⟨a1,a2⟩:=a.1 (by omega);rw[←b.2.1,←b.2.2,a1,a2] at d;have j:aR m g.fi g.pg=(aD m f).p:=by rw[←a1,←a2,b.2.1,b.2.2,ed h.ca i,l,bD]
  simp only;rw[if_neg (by have:=d.1;omega),if_neg (nV h.pt.st d),j]
 rw[if_neg k1,if_neg k1]
 by_cases k2:(aL m p n).k=2
 ·rw[if_pos k2,if_pos k2];obtain⟨g0,e,a⟩:=h.en p n (by rw[k2];decide);have h1:=(a.sw k2).1;have h2:=(dS _).1 (mo h.pt p n);simp only[GK,true_and];rw[iQ];have:=h.pt.swl;exact⟨h.pt.sw,by omega,by omega⟩
 ·rw[if_neg k2,if_neg k2]
theorem um (h:Rt m) (p:Nat) (n:Int):iC m p n=if (iM m p n).2.1=true then some (iM m p n).1 else none:=by
 cases hg:fD m p n with
 | none=>
  rw[oh hg];have h0:(aL m p n).k=0:=by
   by_cases e:(aL m p n).k=0
   ·exact e
   obtain⟨g,a,_⟩:=h.en p n e;rw[hg] at a; cases a
  unfold iC;rw[h0];rfl
 | some g=>
  rw[Hu h hg];cases iC m p n with
  | some P=>rfl
  | none=>
   simp only;split
   ·rfl
   ·split<;>rfl
theorem UA (he:alike (aL m p n) (aL m' p n)) (hs:(aL m p n).k=2→dN m'.sw (aL m p n).n=dN m.sw (aL m p n).n) (hf:(aL m p n).k=1→(gP m' (aL m p n).n).f=(gP m (aL m p n).n).f∧((gP m (aL m p n).n).f<0→(gP m' (aL m p n).n).p=(gP m (aL m p n).n).p)):iC m' p n=iC m p n:=by
 unfold iC;rw[he.1,he.2]
 by_cases k1:(aL m p n).k=1
 ·rw[if_pos k1,if_pos k1,(hf k1).1]
  by_cases h0:(gP m (aL m p n).n).f<0
  ·rw[if_pos h0,if_pos h0,(hf k1).2 h0]
  ·rw[if_neg h0,if_neg h0]
 rw[if_neg k1,if_neg k1]
 by_cases k2:(aL m p n).k=2
 ·rw[if_pos k2,if_pos k2,hs k2]
 ·rw[if_neg k2,if_neg k2]
instance (s:St) (f i:Int):Decidable (mK s f i):=by unfold mK;infer_instance
theorem RF (h:Rt m) (hc:Co m) (f i:Int):cO (aR m f i) ((aH m.st f).n-i*8)=aR m f i:=by
 rcases ko m f i with ⟨c,_,hcm,hcf,hci⟩|⟨_,hno⟩
 ·subst hcf;subst hci;rw[ed h.ca hcm];exact hc.tail c hcm
 rw[dY hno];exact FH m f i
structure Vt (m M:Ma) (f i:Int) (P:Page):Prop where
 rt:Rt M
 co:Co M
 sk:gZ m M
 len:M.m.fs.length=m.m.fs.length
 sl:M.sl=m.sl
 st:M.st=m.st
 ca:M.ca=m.ca
 own:∀p n,iC M p n=iC m p n
 con:∀g j,aR M g j=if g=f∧j=i then P else aR m g j
theorem TE (h:Rt m) (hc:Co m) {f i:Int} {P:Page} (hcm : ⟨f,i,(g:Int)⟩∈m.ca) (hP:cO P ((aH m.st f).n-i*8)=P):Vt m (setFr m g (jF (aD m g) P true)) f i P:=by
 have q:=h.ca.lt _ hcm;have hf:=h.ca.fr _ hcm;have l:mK m.st f i:=h.ca.file _ hcm;simp only[bD] at hf q;have hg:g<m.m.fs.length:=by omega
 obtain⟨a1,a2⟩:=Re (P:=P) (d:=true) h hc hg (by omega) (fun c j e=>by have:c=⟨f,i,(g:Int)⟩:=h.ca.uniq j hcm (by have:=h.ca.lt c j; show c.k=(g:Int);omega);subst this;exact⟨hP,.inl rfl⟩) (fun _=>by have:=l.1;omega);have o:∀x,aD (setFr m g (jF (aD m g) P true)) x=if x=g then jF (aD m g) P true else aD m x:=fun x=>fJ hg x;refine⟨a1,a2,gZ.of rfl,dG,rfl,rfl,rfl,fun p n=>UA ⟨rfl,rfl⟩ (fun _=>rfl) (fun _ => ?_),fun a b => ?_⟩
 ·show (aD (setFr m g (jF (aD m g) P true)) (aL m p n).n.toNat).f=(aD m (aL m p n).n.toNat).f∧((aD m (aL m p n).n.toNat).f<0→(aD (setFr m g (jF (aD m g) P true)) (aL m p n).n.toNat).p=(aD m (aL m p n).n.toNat).p);rw[o]
  by_cases e:(aL m p n).n.toNat=g
  ·rw[if_pos e,e];exact⟨rfl,fun h0=>by have:=l.1;omega⟩
  ·rw[if_neg e];exact⟨rfl,fun _=>rfl⟩
 rcases ko m a b with ⟨c,_,j,hcf,hci⟩|⟨_,hno⟩
 ·subst hcf;subst hci;rw[ed (m:=setFr m g (jF (aD m g) P true)) a1.ca j,ed h.ca j,o]
  by_cases e:c.f=f∧c.i=i
  ·have:=srt_eq h.ca.srt j hcm e.1 e.2;subst this;rw[if_pos e];simp only[bD,if_true];rfl
  rw[if_neg e,if_neg];intro e';have:=h.ca.uniq j hcm (by have:=h.ca.lt c j; show c.k=(g:Int);omega);subst this;exact e ⟨rfl,rfl⟩
 rw[dY (m:=setFr m g (jF (aD m g) P true)) hno,dY hno,if_neg fun e=>hno _ hcm ⟨e.1.symm,e.2.symm⟩];rfl
theorem LV {F:Value→World→Prop} (hw:Region.wanted o (ik ρ ops)=true) (ty:TypeId) (x y:Operand) (ho:o.op = .store ty x y)
 (b i:Nat) (v:Value) (cells:List Value) (hx:ρ x = .pointer (some ⟨b,i,none⟩)) (hy:ρ y=v) (hc:v.cells.toList=cells) (cur:Array Value) (T:TypeId) (hg:aJ w b cur T)
 (hfit:i+cells.length≤cur.size) (hi:(P.info? ty).map (·.size)=some cells.length) (h1:∀u∈cells,u.oneCell' = true)
 (h:∀w',aJ w' b (dF cur i cells) T→w.grownBy w' (some b)→F undef w'):Region.wanted o (ik ρ ops)=true∧dP P o ρ w F:=by
 refine⟨hw,?_⟩;unfold dP;rw[ll ty x y ho b i v cells hx hy hc cur T hg hfit hi h1];exact h _ (hg.setCells _ _) (aA _ _ _ _)
theorem areaT:143≠192∧143≠132∧143≠124∧143≠114:=by decide
theorem BO (k:Kp) (p:Page) (f i:Int):(eu k p f i).1.m.sp.length=k.m.sp.length:=(pK.took k p f i).sp
theorem RQ (H:MH) (e n:Int) (p f:Nat) (A:Ar) (ga:Nat) (B b:Nat) (w:World) (h:jf w B b H e) (hA:aJ w ga (kE A) 143) (hp:p<H.sp.length) (hf:f<H.m.fs.length) (hz:H.sp.length≤1000) (hz2:H.ca.length≤1000) (hz3:H.m.fs.length≤1000) :
  Calls Tryz.prog 166 #[.pointer (some ⟨b,0,none⟩),.int .i64 p,.int .i64 n,.int .i64 f,.pointer (some ⟨ga,0,none⟩)] w fun r w'=>r = .returned (.int .i64 (uG ⟨H.ma,e⟩ p n f A).2)∧KR w B b H w' (uG ⟨H.ma,e⟩ p n f A).1:=by
 obtain⟨g,off,cur,hj,hr,hi,hh,hg,hn,hm,ha⟩:=h.frame hf;generalize hx:aD H.ma f=x at *
 have v:=ae (show gP H.ma f=x from hx);clear hx ha hn;have hc:=h.blk.cell;unfold nC at hc;rw[hj] at hc;have hl:(f:Int)<(H.m.fs.length:Int):=by omega
 go_enter func166,ntmps166
 go_wp2_with (first | (refine aC _ _ rfl g (off+f*13) rfl rfl _ hg _ underlying132 rfl frame_size ?_) | (refine aT rfl _ _ _ rfl (xV x) rfl rfl rfl frame_size (uf x) ?_))
 intro w1 t l;have h1:=h.below t;have s1:=(KS.refl w b H).below t;have z:=hA.ext t;have u:¬kb b H w.heap.size:=fun hk=>by obtain⟨cs,T,hb,_⟩:=h.kb_T hk;have:=hb.lt;omega
 clear hc hg hi hh t hr hm hj h hA hl;have s:=l.cell;unfold xV at s;have q:=z.cell;unfold kE at q;have i:Hid (A.sh=true∨x.f<0∧x.r=1→uG ⟨H.ma,e⟩ p n f A=(dK ⟨H.ma,e⟩ p n ⟨1,f,true⟩,(f:Int))):=ae (fun hc=>by unfold uG;simp only[show gP (Kp.m ⟨H.ma,e⟩) f=x from v.out];exact if_pos hc);have j:Hid (¬(A.sh=true∨x.f<0∧x.r=1)→uG ⟨H.ma,e⟩ p n f A=if (eu (iU ⟨H.ma,e⟩ p n) x.p (-1) 0).2<0 then ((eu (iU ⟨H.ma,e⟩ p n) x.p (-1) 0).1,-1) else (dK (eu (iU ⟨H.ma,e⟩ p n) x.p (-1) 0).1 p n ⟨1,(eu (iU ⟨H.ma,e⟩ p n) x.p (-1) 0).2,true⟩,(eu (iU ⟨H.ma,e⟩ p n) x.p (-1) 0).2)):=ae (fun hc=>by unfold uG;simp only[show gP (Kp.m ⟨H.ma,e⟩) f=x from v.out];exact if_neg hc);clear v;cases hsh:A.sh with
 | true=>
  have hq:=ae (i.out (.inl hsh));rw[hsh] at q;clear i j hsh
  go_wp2_with fail
  refine (iH H e n p ⟨1,f,true⟩ B b _ h1 hp).mono ?_;rintro r w6 ⟨rfl,d⟩;go_wp2;go_ret;rw[hq.out];exact⟨rfl,KR.trans s1 d⟩
 | false=>
  rw[hsh] at q
  by_cases hxf:x.f<0
  ·by_cases hxr:x.r=1
   ·have hq:=ae (i.out (.inr ⟨hxf,hxr⟩));rw[hxr] at s;clear i j hsh
    go_wp2_with fail
    refine (iH H e n p ⟨1,f,true⟩ B b _ h1 hp).mono ?_;rintro r w6 ⟨rfl,d⟩;go_wp2;go_ret;rw[hq.out];exact⟨rfl,KR.trans s1 d⟩
   have hq:=ae (j.out (fun hc=>hc.elim (fun h'=>by rw[hsh] at h'; cases h') (fun h'=>hxr h'.2)));clear i j hsh
   go_wp2_with fail
   refine (zW H e n p B b _ h1 hp).mono ?_;rintro r w2 ⟨rfl,H2,e2,k2,s2,q2⟩;have k:=s2.blkN l u;have s02:=s1.trans s2;have hd:=jh.drop ⟨H.ma,e⟩ p n;have q2':=ae q2;rw[←q2] at hd;have a:H2.sp.length=H.sp.length∧H2.ca.length=H.ca.length∧H2.m.fs.length=H.m.fs.length:=⟨by have:=hd.sp;simp only[tQ] at this;exact this,by rw[show H2.ca=H.ca from hd.ca],hd.fs⟩;clear hd q2 s1 s2 h1 l s q z
   go_wp2_with (refine aC _ _ rfl w.heap.size 0 rfl rfl (gQ x.p).toList (cz k 0 8) _ underlying100 rfl psize ?_)
   refine (qi H2 e2 (-1) 0 x.p B b _ k2 (by rw[a.1];exact hz) (by rw[a.2.1];exact hz2) (by rw[a.2.2];exact hz3)).mono ?_;rintro r w3 ⟨rfl,H3,e3,k3,s3,q3⟩;have s03:=s02.trans s3;have o:H3.sp.length=H.sp.length:=by have:=BO ⟨H2.ma,e2⟩ x.p (-1) 0;rw[←q3] at this;simp only[tQ] at this;rw[this,a.1]
   rw[q2'.out] at q3 ⊢;have q3':=ae q3;have y:p<H3.sp.length:=by rw[o];exact hp
   clear q2' q3 s02 s3 k2 k a o;generalize hK:(eu (iU ⟨H.ma,e⟩ p n) x.p (-1) 0).2=K
   by_cases h0:K<0
   ·have c:Hid (uG ⟨H.ma,e⟩ p n f A=(⟨H3.ma,e3⟩,-1)):=ae (by rw[hq.out,hK,if_pos h0,q3'.out]);go_wp2;go_ret;rw[c.out];exact⟨rfl,_,_,k3,s03,rfl⟩
   have c:Hid (uG ⟨H.ma,e⟩ p n f A=(dK ⟨H3.ma,e3⟩ p n ⟨1,K,true⟩,K)):=ae (by rw[hq.out,hK,if_neg h0,q3'.out]);clear hK
   go_wp2_with fail
   refine (iH H3 e3 n p ⟨1,K,true⟩ B b _ k3 y).mono ?_;rintro r w6 ⟨rfl,d⟩;go_wp2;go_ret;rw[c.out];exact⟨rfl,KR.trans s03 d⟩
  have hq:=ae (j.out (fun hc=>hc.elim (fun h'=>by rw[hsh] at h'; cases h') (fun h'=>hxf h'.1)));clear i j hsh
  go_wp2_with fail
  refine (zW H e n p B b _ h1 hp).mono ?_;rintro r w2 ⟨rfl,H2,e2,k2,s2,q2⟩;have k:=s2.blkN l u;have s02:=s1.trans s2;have hd:=jh.drop ⟨H.ma,e⟩ p n;have q2':=ae q2;rw[←q2] at hd;have a:H2.sp.length=H.sp.length∧H2.ca.length=H.ca.length∧H2.m.fs.length=H.m.fs.length:=⟨by have:=hd.sp;simp only[tQ] at this;exact this,by rw[show H2.ca=H.ca from hd.ca],hd.fs⟩;clear hd q2 s1 s2 h1 l s q z
  go_wp2_with (refine aC _ _ rfl w.heap.size 0 rfl rfl (gQ x.p).toList (cz k 0 8) _ underlying100 rfl psize ?_)
  refine (qi H2 e2 (-1) 0 x.p B b _ k2 (by rw[a.1];exact hz) (by rw[a.2.1];exact hz2) (by rw[a.2.2];exact hz3)).mono ?_;rintro r w3 ⟨rfl,H3,e3,k3,s3,q3⟩;have s03:=s02.trans s3;have o:H3.sp.length=H.sp.length:=by have:=BO ⟨H2.ma,e2⟩ x.p (-1) 0;rw[←q3] at this;simp only[tQ] at this;rw[this,a.1]
  rw[q2'.out] at q3 ⊢;have q3':=ae q3;have y:p<H3.sp.length:=by rw[o];exact hp
  clear q2' q3 s02 s3 k2 k a o;generalize hK:(eu (iU ⟨H.ma,e⟩ p n) x.p (-1) 0).2=K
  by_cases h0:K<0
  ·have c:Hid (uG ⟨H.ma,e⟩ p n f A=(⟨H3.ma,e3⟩,-1)):=ae (by rw[hq.out,hK,if_pos h0,q3'.out]);go_wp2;go_ret;rw[c.out];exact⟨rfl,_,_,k3,s03,rfl⟩
  have c:Hid (uG ⟨H.ma,e⟩ p n f A=(dK ⟨H3.ma,e3⟩ p n ⟨1,K,true⟩,K)):=ae (by rw[hq.out,hK,if_neg h0,q3'.out]);clear hK
  go_wp2_with fail
  refine (iH H3 e3 n p ⟨1,K,true⟩ B b _ k3 y).mono ?_;rintro r w6 ⟨rfl,d⟩;go_wp2;go_ret;rw[c.out];exact⟨rfl,KR.trans s03 d⟩
theorem SG (h:Pt m) (p:Nat) (n:Int):qU (jc m p n):=by
 unfold jc;rw[bM];cases e:(bX m p).ar[(fB (bX m p).ar n).toNat]? with
 | none=>show qU zAr;unfold qU;decide
 | some a=>exact (fK ((qm (h.arN p)).2 a (dm e))).1
theorem KN (H:MH) (e n:Int) (p:Nat) (g:Pg) (ga:Nat) (B b:Nat) (w:World) (h:jf w B b H e) (hR:Rt H.ma) (hC:Co H.ma) (hA:aJ w ga (kE (jc H.ma p n)) 143) (hp:p<H.sp.length) (hg:fD H.ma p n=some g) (hin:0≤g.fi→(aL H.ma p n).k=0→mK H.ma.st g.fi g.pg) :
  Calls Tryz.prog 165 #[.pointer (some ⟨b,0,none⟩),.int .i64 p,.int .i64 n,.pointer (some ⟨ga,0,none⟩)] w fun r w'=>r = .returned (.int .i64 (fQ ⟨H.ma,e⟩ p n (jc H.ma p n)).2)∧KR w B b H w' (fQ ⟨H.ma,e⟩ p n (jc H.ma p n)).1:=by
 have hz:=zz hR;have km:H.sp.length≤1000:=by have:=hz.sp.1;rwa [tQ] at this
 have kl:H.ca.length≤1000:=hz.ca;have kk:H.m.fs.length≤1000:=hz.fs;clear hz;obtain⟨g1,g2,g3,g4,g5,g6,g7⟩:=uD hg;have hS:=hR.pt.pg hg;have kJ:=ae (SG hR.pt p n);obtain⟨P,hP⟩:∃P,H.sp[p]?=some P:=⟨_,aN hp⟩;have gb:=ae (wh hP);have k9:Hid ((aL H.ma p n).k=2→aI H.sw (aL H.ma p n).n=0):=ae (fun k2=>by obtain⟨g0,gE,kH⟩:=hR.en p n (by rw[k2];decide);have h1:=(kH.sw k2).1;have h2:=(dS _).1 (mo hR.pt p n);have h3:=hR.pt.swl;exact iQ.2 ⟨hR.pt.sw,by omega,by show _<(H.ma.sw.blocks.length:Int);omega⟩);generalize hAA:jc H.ma p n=A at *
 obtain⟨gs,off,gg,gc,kx,hy⟩:=h.at hP;have hc:=h.blk.cell;unfold nC at hc;rw[gg] at hc;have gD:(p:Int)<(H.sp.length:Int):=by omega
 have kI:=ae g6;have gy:=ae g4;have gA:=ae g3;have kL:=ae g7;have kB:=ae hin;have ky:=ae hS;have kg:=ae hR;have gh:=ae hC;have gF:=ae h.bs;clear g1 g2 g3 g4 g5 g6 g7 hin hS hR hC hg hAA;go_enter func165,ntmps165
 go_wp2_with (refine aC _ _ rfl gs (off+p*10+2) rfl rfl _ kx _ underlying112 tab_agg tab_size ?_)
 refine (wo P.tb (tX P.ts) n _ hy.tb).mono ?_;rintro r w1 ⟨rfl,hB⟩;have h1:=h.below hB;have s1:=(KS.refl w b H).below hB;have kQ:=hA.ext hB;clear hc gc kx hy;generalize hx:dB P.tb n=x
 go_wp2_with (refine aT rfl _ _ _ rfl (nI x) rfl rfl rfl entry_size (by simp[nI,Value.oneCell']) ?_)
 intro w2 hJ hl;have h2:=h1.below hJ;have s2:=s1.below hJ;have l:=kQ.ext hJ;have gC:=ae (aV hB.size (az w1.heap.size));clear h1 s1 hB hJ h hA kQ;have hs:=hl.cell;unfold nI at hs;have kd:Hid (aL H.ma p n=x):=ae (by unfold aL;rw[gb.out];exact hx);have d:=l.cell;unfold kE at d;clear hx;have t:Hid (fQ ⟨H.ma,e⟩ p n A=if x.k=1 then (⟨H.ma,e⟩,x.n) else if x.k=2 then (if aI H.sw x.n≠0 then (⟨H.ma,e⟩,-1) else
   let r:=eu ⟨H.ma,e⟩ (dN H.sw x.n) (-1) 0
   if r.2<0 then (r.1,-1) else
   if bS r.1.m.sl x.n (-1)≠0 then (r.1,-1) else (dK ⟨{ r.1.m with sl:=bL r.1.m.sl x.n (-1) },r.1.e⟩ p n ⟨1,r.2,A.wr⟩,r.2))
  else if A.fi<0 then VB (eu ⟨H.ma,e⟩ zPg (-1) 0) p n A.wr
  else
   let r:=eQ ⟨H.ma,e⟩ A.fi (A.ba+n-A.fr)
   if r.2<0 then r else (dK (fV r.1 r.2 1) p n ⟨1,r.2,A.sh&&A.wr⟩,r.2)):=ae (by
  unfold fQ;simp only[show aL (Kp.m ⟨H.ma,e⟩) p n=x from kd.out];rfl)
 by_cases k1:x.k=1
 ·have hq:Hid (fQ ⟨H.ma,e⟩ p n A=(⟨H.ma,e⟩,x.n)):=ae (by rw[t.out,if_pos k1]);rw[k1] at hs;clear t k1;go_wp2;go_ret;rw[hq.out];exact⟨rfl,_,_,h2,s2,rfl⟩
 by_cases k2:x.k=2
 ·have kv:Hid (aI H.sw x.n=0):=ae (by have:=k9.out;rw[kd.out] at this;exact this k2);have hq:Hid (fQ ⟨H.ma,e⟩ p n A=(let r:=eu ⟨H.ma,e⟩ (dN H.sw x.n) (-1) 0
   if r.2<0 then (r.1,-1) else
   if bS r.1.m.sl x.n (-1)≠0 then (r.1,-1) else (dK ⟨{ r.1.m with sl:=bL r.1.m.sl x.n (-1) },r.1.e⟩ p n ⟨1,r.2,A.wr⟩,r.2))):=ae (by rw[t.out,if_neg k1,if_pos k2,if_neg (by rw[kv.out];simp)])
  rw[k2] at hs;clear t k1 k2;obtain⟨Q,hQ⟩:∃Q,Hid (Q=dN H.sw x.n):=⟨_,ae rfl⟩;rw[←hQ.out] at hq;go_upto_region 5 with (fail);refine gH 14 [_,_,_,_,.v (.agg #[.slice H.wb H.sw.blocks.length H.cwb,.slice H.wq H.sw.queue.length H.cwq]),_,_,.v (.tuple #[.agg (gQ Q),.int .i64 0]),_,.v (.agg (gQ Q)),.v (.int .i64 0),.r 11 ((eO w2.heap.size 100 8)),.y 12 ((IJ 11 w2.heap.size 100 (gI (.agg (gQ Q))))),.v (.int .i64 0)] (fun W=>Below w2.heap.size w2 W) bA (Below.refl _ _) (Yk bA rfl (Yk bA rfl (Yf bA b 0 rfl rfl (Yf bA b 3 rfl rfl (aj ?_ (Yf bA w1.heap.size 1 rfl rfl (Yc bA (.int .i64 x.n) (fun W hb=>by simp[(hl.ext hb).cell,nI]) rfl rfl rfl rfl (aj ?_ (Yk bA rfl (aj ?_ (aj ?_ (aj ?_ (aj ?_ (Yk bA rfl (aF))))))))))))))) (fun _=>rfl) rfl ?_
  ·intro ρ y W hw hn hb hd;refine eP bA hb (gI (.agg #[.slice H.wb H.sw.blocks.length H.cwb,.slice H.wq H.sw.queue.length H.cwq])) (fun _ _ h=>h) ?_;have gw:=hw 41 3 rfl;have h3:y 3 = .pointer (some ⟨b,3,none⟩):=hd 3 rfl;refine ak (.agg #[.slice H.wb H.sw.blocks.length H.cwb,.slice H.wq H.sw.queue.length H.cwq]) (ag rfl) (bG rfl (gw.trans h3) (h2.below hb).rdW underlying37 rfl disk_size) rfl
  ·intro ρ y W hw hn hb hd;refine eP bA hb (gI (.tuple #[.agg (gQ Q),.int .i64 0])) (fun _ _ h=>h) ?_;have gv:=hw 42 4 rfl;have h4:y 4 = .agg #[.slice H.wb H.sw.blocks.length H.cwb,.slice H.wq H.sw.queue.length H.cwq]:=hd 4 rfl;have gu:=hw 44 6 rfl;have h6:y 6 = .int .i64 x.n:=hd 6 rfl;have EF:∀f,ρ (.func f) = .func (.func f) #[] #[]:=fun f=>hn (.func f) trivial;refine aK _ _ (ag rfl) (aQ rfl (EF _) func170 (by kernel_rfl) (by kernel_rfl) (by simp only[bT,bF,bI,gv,h4,gu,h6,EF];rfl)) ?_;refine (Fq H.sw x.n H.wb H.cwb H.wq H.cwq W (h2.below hb).ma.rd.sw).mono ?_;rintro r W3 ⟨rfl,kf⟩;rw[kv.out,←hQ.out];exact⟨_,rfl,kf,rfl⟩
  ·intro ρ y W hw hn hb hd;refine eP bA hb (gI (.agg (gQ Q))) (fun _ _ h=>h) ?_;have kj:=hw 37 8 rfl;have h8:y 8 = .tuple #[.agg (gQ Q),.int .i64 0]:=hd 8 rfl;refine ak (.agg (gQ Q)) (ag rfl) (by simp[execOp,go_sem,bu,kj,h8]) rfl
  ·intro ρ y W hw hn hb hd;refine eP bA hb (gI (.int .i64 0)) (fun _ _ h=>h) ?_;have kj:=hw 37 8 rfl;have h8:y 8 = .tuple #[.agg (gQ Q),.int .i64 0]:=hd 8 rfl;refine ak (.int .i64 0) (ag rfl) (by simp[execOp,go_sem,bu,kj,h8]) rfl
  ·intro ρ y W hw hn hb hd;refine eP bA hb ((eO w2.heap.size 100 8)) (fun _ _ h=>h) ?_;refine gz (.pointer (some ⟨W.heap.size,0,none⟩)) (ag rfl) (by simp[execOp,go_sem,bu]) ((Below.refl _ _).alloc (az _) (.cells #[.int .u8 0,.int .u8 0,.int .u8 0,.int .u8 0,.int .u8 0,.int .u8 0,.int .u8 0,.int .u8 0] 100)) ?_;exact⟨_,_,rfl,hb.size,aJ.new _ _ _,rfl⟩
  ·intro ρ y W hw hn hb hd;have gx:=hw 10 11 rfl;have kh:=hd 11 rfl;have gt:=hw 46 9 rfl;have h9:y 9 = .agg (gQ Q):=hd 9 rfl;obtain⟨g3,cur3,e9,kG,kM,kw⟩:=kh;refine iZ (ag rfl) _ _ _ rfl g3 0 (.agg (gQ Q)) (gQ Q).toList (gx.trans e9) (gt.trans h9) rfl cur3 _ kM (by rw[kw];exact az _) psize (gG (qf Q)) ?_;intro w1 hr kC;rw[dU cur3 _ (by rw[kw];rfl)] at hr;refine⟨hb.grown kC hb.size (fun k hk=>by cases hk;exact kG),⟨g3,_,e9,kG,hr,rfl⟩,?_⟩;intro k hk gf
   match k,hk,gf with
   | 0,_,_=>exact fun h=>h
   | 1,_,_=>exact fun h=>h
   | 2,_,_=>exact fun h=>h
   | 3,_,_=>exact fun h=>h
   | 4,_,_=>exact fun h=>h
   | 5,_,_=>exact fun h=>h
   | 6,_,_=>exact fun h=>h
   | 7,_,_=>exact fun h=>h
   | 8,_,_=>exact fun h=>h
   | 9,_,_=>exact fun h=>h
   | 10,_,_=>exact fun h=>h
   | 11,_,_=>exact fun q=>iy q hr (fun _=>rfl) ⟨_,kM⟩ kC
   | 12,_,h=>exact absurd rfl h
   | 13,_,_=>exact fun h=>h
   | n+14,h,_=>exact absurd h (by omega)
  intro y W3 j hD;replace j:Below w2.heap.size w2 W3:=j;have i:((eO w2.heap.size 100 8)).r (y 11) W3:=hD 11 (by decide);have hj:=hD 12 (by decide);clear hD;simp only[dE,bu,bF,bI];obtain⟨ge,cce,hU,gB,kO,hW⟩:=hj;have ke : cce=gQ Q:=by simpa[gI] using hW
  subst ke;rw[hU];have h3:=h2.below j;have s3:=s2.below j;have kt:=hl.ext j;have kP:=l.ext j;clear hs d h2 s2 hl l j hU hW i
  go_wp2_with (refine aC _ _ rfl ge 0 rfl rfl (gQ Q).toList kO.rd _ underlying100 rfl psize ?_)
  refine (qi H e (-1) 0 Q B b _ h3 km kl kk).mono ?_;rintro r w4 ⟨rfl,H4,e4,k4,s4,q4⟩;have ks:=s4.blk h3 kt entTy;have hi:=s4.blk h3 kP areaT;have s04:=s3.trans s4;have z:H4.sp.length=H.sp.length:=by have:=BO ⟨H.ma,e⟩ Q (-1) 0;rw[←q4] at this;simp only[tQ] at this;exact this
  have q4':=ae q4;have hv:p<H4.sp.length:=by rw[z];exact hp
  have kD:=ae k4.bs;clear q4 s3 s4 h3 kt kP z kO;generalize hK:(eu ⟨H.ma,e⟩ Q (-1) 0).2=K
  by_cases h0:K<0
  ·have c:Hid (fQ ⟨H.ma,e⟩ p n A=(⟨H4.ma,e4⟩,-1)):=ae (by
    rw[hq.out]
    try simp only
    rw[hK,if_pos h0,q4'.out])
   go_wp2;go_ret;rw[c.out];exact⟨rfl,_,_,k4,s04,rfl⟩
  have c:Hid (fQ ⟨H.ma,e⟩ p n A=if bS H4.sl x.n (-1)≠0 then (⟨H4.ma,e4⟩,-1) else (dK ⟨{ H4.ma with sl:=bL H4.sl x.n (-1) },e4⟩ p n ⟨1,K,A.wr⟩,K)):=ae (by rw[hq.out];simp only;rw[hK,if_neg h0,←q4'.out];rfl);clear hK hq q4';go_upto_region 11 with (fail);refine gH 13 [_,_,_,_,_,_,_,.r 7 ((uY w4.heap.size 3 1 (bL H4.sl x.n (-1)).length ((bL H4.sl x.n (-1)).map iI) (bS H4.sl x.n (-1)))),.r 8 ((uY w4.heap.size 3 1 (bL H4.sl x.n (-1)).length ((bL H4.sl x.n (-1)).map iI) (bS H4.sl x.n (-1)))),.r 9 ((iw w4.heap.size 3 1 (bL H4.sl x.n (-1)).length ((bL H4.sl x.n (-1)).map iI))),.v (.int .i64 (bS H4.sl x.n (-1))),.r 11 ((iw w4.heap.size 3 1 (bL H4.sl x.n (-1)).length ((bL H4.sl x.n (-1)).map iI))),.v (.int .i64 (bS H4.sl x.n (-1)))] (fun W=>Below w4.heap.size w4 W) bA (Below.refl _ _) (Yk bA rfl (Yk bA rfl (Yf bA b 0 rfl rfl (Yf bA b 2 rfl rfl (Yc bA (.slice H4.asl H4.sl.length H4.csl) (fun W hb=>by simp[(k4.below hb).blk.cell,nC]) rfl rfl rfl rfl (Yf bA w1.heap.size 1 rfl rfl (Yc bA (.int .i64 x.n) (fun W hb=>by simp[(ks.ext hb).cell,nI]) rfl rfl rfl rfl (aj ?_ (aj ?_ (aj ?_ (aj ?_ (aj ?_ (Yk bA rfl (aF)))))))))))))) (fun _=>rfl) rfl ?_
  ·intro ρ y W hw hn hb hd;refine eP bA hb ((uY w4.heap.size 3 1 (bL H4.sl x.n (-1)).length ((bL H4.sl x.n (-1)).map iI) (bS H4.sl x.n (-1)))) (fun _ _ h=>h) ?_;have gr:=hw 60 4 rfl;have h4:y 4 = .slice H4.asl H4.sl.length H4.csl:=hd 4 rfl;have gq:=hw 62 6 rfl;have h6:y 6 = .int .i64 x.n:=hd 6 rfl;have EC:∀v,ρ (.const v)=v:=fun v=>hn (.const v) trivial;have EF:∀f,ρ (.func f) = .func (.func f) #[] #[]:=fun f=>hn (.func f) trivial;refine aK _ _ (ag rfl) (aQ rfl (EF _) func167 (by kernel_rfl) (by kernel_rfl) (by simp only[bT,bF,bI,gr,h4,gq,h6,EC,EF];rfl)) ?_;have hm:=(k4.below hb).ma.rd.sl;refine (Ed H4.sl H4.asl H4.csl x.n (-1) W hm.le hm.nl hm.rd (by have:=hm.le;have:=hm.mx;unfold maxLen at this;omega)).mono ?_;rintro r W3 ⟨u,rfl,ho,kf⟩;exact⟨_,rfl,kf,u,rfl,ho.mono hb.size⟩
  ·intro ρ y W hw hn hb hd;refine eP bA hb ((uY w4.heap.size 3 1 (bL H4.sl x.n (-1)).length ((bL H4.sl x.n (-1)).map iI) (bS H4.sl x.n (-1)))) (fun _ _ h=>h) ?_;have gp:=hw 63 7 rfl;have h7:=hd 7 rfl;refine ak _ (ag rfl) (run_move (.inl rfl) gp) ?_;exact h7
  ·intro ρ y W hw hn hb hd;refine eP bA hb ((iw w4.heap.size 3 1 (bL H4.sl x.n (-1)).length ((bL H4.sl x.n (-1)).map iI))) (fun _ _ h=>h) ?_;have ki:=hw 55 8 rfl;have h8:=hd 8 rfl;obtain⟨u,hu,ho⟩:=h8;refine ak u (ag rfl) (by simp[execOp,go_sem,bu,ki,hu]) ?_;exact ho
  ·intro ρ y W hw hn hb hd;refine eP bA hb (gI (.int .i64 (bS H4.sl x.n (-1)))) (fun _ _ h=>h) ?_;have ki:=hw 55 8 rfl;have h8:=hd 8 rfl;obtain⟨u,hu,ho⟩:=h8;refine ak (.int .i64 (bS H4.sl x.n (-1))) (ag rfl) (by simp[execOp,go_sem,bu,ki,hu]) rfl
  ·intro ρ y W hw hn hb hd;refine eP bA hb ((iw w4.heap.size 3 1 (bL H4.sl x.n (-1)).length ((bL H4.sl x.n (-1)).map iI))) (fun _ _ h=>h) ?_;have gn:=hw 64 9 rfl;have h9:=hd 9 rfl;refine ak _ (ag rfl) (run_move (.inr rfl) gn) ?_;exact h9
  intro y W5 s hf;replace s:Below w4.heap.size w4 W5:=s;have hG:((uY w4.heap.size 3 1 (bL H4.sl x.n (-1)).length ((bL H4.sl x.n (-1)).map iI) (bS H4.sl x.n (-1)))).r (y 7) W5:=hf 7 (by decide);have hF:((uY w4.heap.size 3 1 (bL H4.sl x.n (-1)).length ((bL H4.sl x.n (-1)).map iI) (bS H4.sl x.n (-1)))).r (y 8) W5:=hf 8 (by decide);have hE:((iw w4.heap.size 3 1 (bL H4.sl x.n (-1)).length ((bL H4.sl x.n (-1)).map iI))).r (y 9) W5:=hf 9 (by decide);have i:((iw w4.heap.size 3 1 (bL H4.sl x.n (-1)).length ((bL H4.sl x.n (-1)).map iI))).r (y 11) W5:=hf 11 (by decide);clear hf;simp only[dE,bu,bF,bI];have hH:Own W5 w4.heap.size 3 1 (y 11) (bL H4.sl x.n (-1)).length ((bL H4.sl x.n (-1)).map iI):=i;obtain⟨a5,c5,e7,_⟩:=Own.rd hH;rw[e7] at hH;simp only[e7];have k5:=k4.below s;have s5:=s04.below s;have hL:=hi.ext s;clear hG hF hE i e7 k4 s04 hi ks s
  by_cases h5:bS H4.sl x.n (-1)=0
  ·rw[h5];have kc:Hid (fQ ⟨H.ma,e⟩ p n A=(dK ⟨{ H4.ma with sl:=bL H4.sl x.n (-1) },e4⟩ p n ⟨1,K,A.wr⟩,K)):=ae (by rw[c.out,if_neg (fun h=>h h5)]);clear h5 c
   go_wp2_with (first | (refine bz rfl _ _ _ rfl b 2 _ [.slice a5 (bL H4.sl x.n (-1)).length c5] rfl rfl rfl _ _ k5.blk (by show 2+1≤12;decide) slots_size (fun u hu=>by cases bN.1 hu;rfl) ?_))
   intro w6 kN hI;have k6:=k5.setL (hH.mono kD.out) kN hI;have s6:KS w b H w6 { H4 with asl:=a5,csl:=c5,sl:=bL H4.sl x.n (-1) }:=s5.putB hI rfl rfl rfl;have gi:=aG hL k5.blk (by decide) hI;clear s5 k5 hH hL kN hI;have d:=gi.cell;unfold kE at d
   go_wp2_with fail
   refine (iH _ e4 n p ⟨1,K,_⟩ B b _ k6 hv).mono ?_;rintro r w9 ⟨rfl,hh⟩;go_wp2;go_ret;rw[kc.out];exact⟨rfl,KR.trans s6 hh⟩
  have kc:Hid (fQ ⟨H.ma,e⟩ p n A=(⟨H4.ma,e4⟩,-1)):=ae (by rw[c.out,if_pos h5]);go_wp2;go_ret;rw[kc.out];exact⟨rfl,_,_,k5,s5,rfl⟩
 by_cases hfi:A.fi<0
 ·have hq:Hid (fQ ⟨H.ma,e⟩ p n A=VB (eu ⟨H.ma,e⟩ zPg (-1) 0) p n A.wr):=ae (by rw[t.out,if_neg k1,if_neg k2,if_pos hfi]);clear t;go_upto_region 18 with (fail)
  go_wp2_with fail
  rw[←zPg_cells];refine (qi H e (-1) 0 zPg B b _ h2 km kl kk).mono ?_;rintro r w4 ⟨rfl,H4,e4,k4,s4,q4⟩;have hi:=s4.blk h2 l areaT;have s04:=s2.trans s4;have z:H4.sp.length=H.sp.length:=by have:=BO ⟨H.ma,e⟩ zPg (-1) 0;rw[←q4] at this;simp only[tQ] at this;exact this
  have q4':=ae q4;have hv:p<H4.sp.length:=by rw[z];exact hp
  clear q4 s2 s4 h2 hl l z hs d;generalize hK:(eu ⟨H.ma,e⟩ zPg (-1) 0).2=K;have d:=hi.cell;unfold kE at d
  by_cases h0:K<0
  ·have c:Hid (fQ ⟨H.ma,e⟩ p n A=(⟨H4.ma,e4⟩,K)):=ae (by rw[hq.out];unfold VB;rw[hK,if_pos h0,q4'.out,←hK]);go_wp2;go_ret;rw[c.out];exact⟨rfl,_,_,k4,s04,rfl⟩
  have c:Hid (fQ ⟨H.ma,e⟩ p n A=(dK ⟨H4.ma,e4⟩ p n ⟨1,K,A.wr⟩,K)):=ae (by rw[hq.out];unfold VB;rw[hK,if_neg h0,q4'.out]);clear hK hq q4'
  go_wp2_with fail
  refine (iH H4 e4 n p ⟨1,K,_⟩ B b _ k4 hv).mono ?_;rintro r w9 ⟨rfl,hh⟩;go_wp2;go_ret;rw[c.out];exact⟨rfl,KR.trans s04 hh⟩
 have hq:Hid (fQ ⟨H.ma,e⟩ p n A=(let r:=eQ ⟨H.ma,e⟩ A.fi (A.ba+n-A.fr)
  if r.2<0 then r else (dK (fV r.1 r.2 1) p n ⟨1,r.2,A.sh&&A.wr⟩,r.2))):=ae (by rw[t.out,if_neg k1,if_neg k2,if_neg hfi])
 have hT:Hid (mK H.ma.st A.fi (A.ba+n-A.fr)):=ae (by have e1:=kI.out;have e2:=kL.out (by omega);have h2:=(dS _).1 (mo kg.out.pt p n);rw[e1,e2];refine kB.out (by omega) ?_;rw[kd.out] at h2 ⊢;omega);have kK:=kJ.out;have gd:=ky.out;unfold qU at kK;have hr:IntKind.i64.wrap (A.ba+n)=A.ba+n:=bP _ (by omega);have ku:IntKind.i64.wrap (A.ba+n-A.fr)=A.ba+n-A.fr:=bP _ (by omega);clear t kK gd;go_upto_region 22 with (fail);refine vR 16 17 [] [gI (.pointer (some ⟨b,0,none⟩)),gI (.pointer (some ⟨ga,0,none⟩)),gI (.pointer (some ⟨ga,0,none⟩)),gI (.pointer (some ⟨ga,5,none⟩)),gI (.int .i64 A.fi),gI (.pointer (some ⟨ga,0,none⟩)),gI (.pointer (some ⟨ga,0,none⟩)),gI (.pointer (some ⟨ga,6,none⟩)),gI (.int .i64 A.ba),gI (.int .i64 n),gI (.int .i64 (A.ba+n)),gI (.pointer (some ⟨ga,0,none⟩)),gI (.pointer (some ⟨ga,0,none⟩)),gI (.pointer (some ⟨ga,0,none⟩)),gI (.int .i64 A.fr),gI (.int .i64 (A.ba+n-A.fr))] (by kernel_rfl) (by kernel_rfl) (by kernel_rfl) (by kernel_rfl) (by kernel_rfl) (by kernel_rfl) (by decide) (by decide) _ rfl (by kernel_rfl) (aj ?_ (aj ?_ (aj ?_ (aj ?_ (aj ?_ (aj ?_ (aj ?_ (aj ?_ (aj ?_ (aj ?_ (aj ?_ (aj ?_ (aj ?_ (aj ?_ (aj ?_ (aj ?_ (aF))))))))))))))))) (aF) rfl ?_
 ·refine aB rfl ?_;intro ρ y W hw hn hb hd;have E0:ρ (.tmp 0) = .pointer (some ⟨b,0,none⟩):=(hn (.tmp 0) rfl).trans rfl;refine ak (.pointer (some ⟨b,0,none⟩)) (ag rfl) (run_move (.inl rfl) E0) rfl
 ·refine aB rfl ?_;intro ρ y W hw hn hb hd;have E3:ρ (.tmp 3) = .pointer (some ⟨ga,0,none⟩):=(hn (.tmp 3) rfl).trans rfl;refine ak (.pointer (some ⟨ga,0,none⟩)) (ag rfl) (run_move (.inl rfl) E3) rfl
 ·refine aB rfl ?_;intro ρ y W hw hn hb hd;have k8:=hw 107 1 rfl;have h1:y 1 = .pointer (some ⟨ga,0,none⟩):=hd 1 rfl;refine ak (.pointer (some ⟨ga,0,none⟩)) (ag rfl) (by simp[execOp,go_sem,k8,h1]) rfl
 ·refine aB rfl ?_;intro ρ y W hw hn hb hd;have k7:=hw 108 2 rfl;have h2:y 2 = .pointer (some ⟨ga,0,none⟩):=hd 2 rfl;refine ak (.pointer (some ⟨ga,5,none⟩)) (ag rfl) (by simp[execOp,go_sem,k7,h2]) rfl
 ·refine aB rfl ?_;intro ρ y W hw hn hb hd;have k3:=hw 109 3 rfl;have h3:y 3 = .pointer (some ⟨ga,5,none⟩):=hd 3 rfl;refine ak (.int .i64 A.fi) (ag rfl) (by simp[execOp,go_sem,k3,h3,(l.ext hb).cell,kE]) rfl
 ·refine aB rfl ?_;intro ρ y W hw hn hb hd;have E3:ρ (.tmp 3) = .pointer (some ⟨ga,0,none⟩):=(hn (.tmp 3) rfl).trans rfl;refine ak (.pointer (some ⟨ga,0,none⟩)) (ag rfl) (run_move (.inl rfl) E3) rfl
 ·refine aB rfl ?_;intro ρ y W hw hn hb hd;have k0:=hw 111 5 rfl;have h5:y 5 = .pointer (some ⟨ga,0,none⟩):=hd 5 rfl;refine ak (.pointer (some ⟨ga,0,none⟩)) (ag rfl) (by simp[execOp,go_sem,k0,h5]) rfl
 ·refine aB rfl ?_;intro ρ y W hw hn hb hd;have kZ:=hw 112 6 rfl;have h6:y 6 = .pointer (some ⟨ga,0,none⟩):=hd 6 rfl;refine ak (.pointer (some ⟨ga,6,none⟩)) (ag rfl) (by simp[execOp,go_sem,kZ,h6]) rfl
 ·refine aB rfl ?_;intro ρ y W hw hn hb hd;have kY:=hw 113 7 rfl;have h7:y 7 = .pointer (some ⟨ga,6,none⟩):=hd 7 rfl;refine ak (.int .i64 A.ba) (ag rfl) (by simp[execOp,go_sem,kY,h7,(l.ext hb).cell,kE]) rfl
 ·refine aB rfl ?_;intro ρ y W hw hn hb hd;have E2:ρ (.tmp 2) = .int .i64 n:=(hn (.tmp 2) rfl).trans rfl;refine ak (.int .i64 n) (ag rfl) (run_move (.inl rfl) E2) rfl
 ·refine aB rfl ?_;intro ρ y W hw hn hb hd;have kX:=hw 114 8 rfl;have h8:y 8 = .int .i64 A.ba:=hd 8 rfl;have kW:=hw 115 9 rfl;have h9:y 9 = .int .i64 n:=hd 9 rfl;refine ak (.int .i64 (A.ba+n)) (ag rfl) (by simp[execOp,go_sem,kX,h8,kW,h9,hr]) rfl
 ·refine aB rfl ?_;intro ρ y W hw hn hb hd;have E3:ρ (.tmp 3) = .pointer (some ⟨ga,0,none⟩):=(hn (.tmp 3) rfl).trans rfl;refine ak (.pointer (some ⟨ga,0,none⟩)) (ag rfl) (run_move (.inl rfl) E3) rfl
 ·refine aB rfl ?_;intro ρ y W hw hn hb hd;have kU:=hw 117 11 rfl;have kh:y 11 = .pointer (some ⟨ga,0,none⟩):=hd 11 rfl;refine ak (.pointer (some ⟨ga,0,none⟩)) (ag rfl) (by simp[execOp,go_sem,kU,kh]) rfl
 ·refine aB rfl ?_;intro ρ y W hw hn hb hd;have kT:=hw 118 12 rfl;have gl:y 12 = .pointer (some ⟨ga,0,none⟩):=hd 12 rfl;refine ak (.pointer (some ⟨ga,0,none⟩)) (ag rfl) (by simp[execOp,go_sem,kT,gl]) rfl
 ·refine aB rfl ?_;intro ρ y W hw hn hb hd;have kS:=hw 119 13 rfl;have gk:y 13 = .pointer (some ⟨ga,0,none⟩):=hd 13 rfl;refine ak (.int .i64 A.fr) (ag rfl) (by simp[execOp,go_sem,kS,gk,(l.ext hb).cell,kE]) rfl
 ·refine aB rfl ?_;intro ρ y W hw hn hb hd;have kV:=hw 116 10 rfl;have gm:y 10 = .int .i64 (A.ba+n):=hd 10 rfl;have kR:=hw 120 14 rfl;have gj:y 14 = .int .i64 A.fr:=hd 14 rfl;refine ak (.int .i64 (A.ba+n-A.fr)) (ag rfl) (by simp[execOp,go_sem,kV,gm,kR,gj,ku]) rfl
 intro ρ y WA o ho hw hn hV ha a;cases ho;have kb:y 0 = .pointer (some ⟨b,0,none⟩):=a 0 (by decide);have kr:y 1 = .pointer (some ⟨ga,0,none⟩):=a 1 (by decide);have kq:y 2 = .pointer (some ⟨ga,0,none⟩):=a 2 (by decide);have kp:y 3 = .pointer (some ⟨ga,5,none⟩):=a 3 (by decide);have ka:y 4 = .int .i64 A.fi:=a 4 (by decide);have ko:y 5 = .pointer (some ⟨ga,0,none⟩):=a 5 (by decide);have kn:y 6 = .pointer (some ⟨ga,0,none⟩):=a 6 (by decide);have hG:y 7 = .pointer (some ⟨ga,6,none⟩):=a 7 (by decide);have hF:y 8 = .int .i64 A.ba:=a 8 (by decide);have hE:y 9 = .int .i64 n:=a 9 (by decide);have hO:y 10 = .int .i64 (A.ba+n):=a 10 (by decide);have i:y 11 = .pointer (some ⟨ga,0,none⟩):=a 11 (by decide);have hj:y 12 = .pointer (some ⟨ga,0,none⟩):=a 12 (by decide);have hN:y 13 = .pointer (some ⟨ga,0,none⟩):=a 13 (by decide);have hM:y 14 = .int .i64 A.fr:=a 14 (by decide);have ht:y 15 = .int .i64 (A.ba+n-A.fr):=a 15 (by decide);have hZ:=hw 106 0 rfl;rw[kb] at hZ;have hY:=hw 110 4 rfl;rw[ka] at hY;have hX:=hw 121 15 rfl;rw[ht] at hX;have EC:∀v,ρ (.const v)=v:=fun v=>hn (.const v) trivial;have EF:∀f,ρ (.func f) = .func (.func f) #[] #[]:=fun f=>hn (.func f) trivial;refine Dz _ _ (ag rfl) (aQ rfl (EF _) func124 (by kernel_rfl) (by kernel_rfl) (by simp only[bT,bF,bI,hZ,hY,hX,EC,EF];rfl)) ?_;refine (Lg H e A.fi (A.ba+n-A.fr) B b _ (h2.below ha) kg.out hT.out).mono ?_;rintro r w4 ⟨rfl,H4,e4,k4,s4,q4⟩;refine⟨_,rfl,?_⟩;clear a hw hn hV;simp only[lay,Nat.reduceAdd,Nat.reduceLT,Nat.reduceEqDiff,reduceIte,decide_true,decide_false,if_true,pq,if_false,rR,sj,rW,qY,rE,rH,kb,kr,kq,kp,ka,ko,kn,hG,hF,hE,hO,i,hj,hN,hM,ht];clear kb kr kq kp ka ko kn hG hF hE hO i hj hN hM ht;have hi:=s4.blk (h2.below ha) (l.ext ha) areaT;have s04:=(s2.below ha).trans s4;have z:H4.sp.length=H.sp.length:=by have:=(EK (k:=⟨H.ma,e⟩) kg.out gh.out hT.out).2.vis.sk.len;rw[←q4] at this;simp only[tQ] at this;exact this
 have q4':=ae q4;have hv:p<H4.sp.length:=by rw[z];exact hp
 clear q4 s2 s4 h2 hl l z hs d ha hr ku;generalize hK:(eQ ⟨H.ma,e⟩ A.fi (A.ba+n-A.fr)).2=K
 by_cases h0:K<0
 ·have c:Hid (fQ ⟨H.ma,e⟩ p n A=(⟨H4.ma,e4⟩,K)):=ae (by rw[hq.out];simp only;rw[hK,if_pos h0,q4'.out,←hK]);go_wp2;go_ret;rw[c.out];exact⟨rfl,_,_,k4,s04,rfl⟩
 have c:Hid (fQ ⟨H.ma,e⟩ p n A=(dK (fV ⟨H4.ma,e4⟩ K 1) p n ⟨1,K,A.sh&&A.wr⟩,K)):=ae (by rw[hq.out];simp only;rw[hK,if_neg h0,q4'.out]);clear hK hq q4'
 go_wp2_with fail
 refine (wQ H4 e4 K 1 B b _ k4).mono ?_;rintro r w5 ⟨rfl,H5,e5,k5,s5,q5⟩;have hL:=s5.blk k4 hi areaT;have s05:=s04.trans s5;have kA:H5.sp.length=H4.sp.length:=by have:=(jh.hold ⟨H4.ma,e4⟩ K 1).sp;rw[←q5] at this;simp only[tQ] at this;exact this
 have kz:p<H5.sp.length:=by rw[kA];exact hv
 rw[←q5] at c;have c:=ae c.out;clear q5 s5 s04 k4 hi kA;have d:=hL.cell;unfold kE at d;cases hsh:A.sh with
 | false=>
  rw[hsh] at d c;rw[lg] at c
  go_wp2_with fail
  refine (iH H5 e5 n p ⟨1,K,_⟩ B b _ k5 kz).mono ?_;rintro r w9 ⟨rfl,hh⟩;go_wp2;go_ret;rw[c.out];exact⟨rfl,KR.trans s05 hh⟩
 | true=>
  rw[hsh] at d c;rw[kF] at c
  go_wp2_with fail
  refine (iH H5 e5 n p ⟨1,K,_⟩ B b _ k5 kz).mono ?_;rintro r w9 ⟨rfl,hh⟩;go_wp2;go_ret;rw[c.out];exact⟨rfl,KR.trans s05 hh⟩
end Go.Proofs.YtpaeabelhnnbiaaGreat