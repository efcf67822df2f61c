import Derived.Test.YtjkkoeijlhfneaaGreatW1
import Derived.ArgAppend
import Derived.Deep.MidRow
import Derived.Deep.Slices
import Derived.Laws.AppendOwnNone
import Derived.Laws.CopyOwn
import Derived.Laws.OwnMore
import Derived.Lib.Hide
import Derived.Maps.Own
import Derived.Maps.Range
import Derived.Maps.Views
import Derived.OpenShut
import Derived.Orders
import Derived.OwnWalk
import Derived.ProofKit
import Derived.SizedLaws
import Derived.WalkKit
import Derived.WalkLawsBesides
import Derived.WalkSpells
import Derived.BigQuiet
import Derived.Deep.DeepCutAuto
import Derived.Deep.QuietTactic
import Derived.IntWalk
import Derived.Lib.LazyBuf
import Derived.Test.YtjkkoeijlhfneaaGreatRows
set_option linter.unusedSimpArgs false
set_option linter.unusedVariables false
set_option maxHeartbeats 4000000
set_option maxRecDepth 100000
namespace Go.Proofs.YtjkkoeijlhfneaaGreat
open _root_.Go.Proofs.Tryz
open Go.RowKit Go.Maps Pw
variable {f g i n p q s:Nat} {kd:Int} {m m' m1:Ma}
theorem SN {α:Type} (g:α→Nat) (c:Nat) (h:∀x,g x≤c):∀l:List α,(l.map g).sum≤c*l.length
 | []=>by simp
 | x::l=>by have h1:=SN g c h l;have h2:=h x;rw[bA,zS,pG,Nat.mul_succ];omega
theorem yg (t:Tb):(dA t).length=64:=by unfold dA;simp
theorem DY (m:Ma) (kd i:Int):dD m kd i≤64*m.sp.length:=SN _ 64 (fun s=>by rw[←yg s.tb];exact tH) _
theorem Td (h:vB m) (i:Int):xw m i≤1:=BA h.srt fun a ha b hb e=>h.uniq ha hb e
theorem Rt.fewR (h:Rt m) (hf:f<m.m.fs.length):0≤(aR m f).r∧(aR m f).r≤257:=by
 have h1:=h.cf f hf;have h2:=DY m 1 f;have h3:=Td h.ca f;have h4:=h.pt.spl;omega
theorem Rt.fewS (h:Rt m) (hs:s<m.sl.length):0≤pu m s∧pu m s≤256:=by
 have h1:=h.cs s hs;have h2:=DY m 2 s;have h4:=h.pt.spl;omega
theorem Tj (h:Pt m) {i:Int} (hk:kd≠0) {n j:Int} (h1:(ent m p n).k=kd∧(ent m p n).n=i) (h2:(ent m q j).k=kd∧(ent m q j).n=i) (hne:¬(q=p∧j=n)):2≤dD m kd i:=by
 have e1:=su (m:=m) (p:=p) (n:=n) (by omega);have e2:=su (m:=m) (p:=q) (n:=j) (by omega);obtain⟨a,_,_⟩:=uI (k:=⟨m,0⟩) (p:=p) (n:=n) (x:=zEn) h e1.2 (by decide);have a1:=wS e1.1 a kd i;have a2:wM (rD kd i (ent m p n))=1:=by rw[yY,if_pos h1]
 have a3:wM (rD kd i zEn)=0:=EG rfl hk;have a4:0<dD (setTb m p (setT (fH m p).tb n zEn)) kd i:=by refine (zD hk).2 ⟨q,j,by rw[uR];exact e2.1,e2.2,?_⟩;rw[xB e1.1 a,if_neg hne];exact h2
 have a5:dD ({ m:=m,e:=0 }:Kp).m kd i=dD m kd i:=rfl;omega
def iG (x:Fr):Fr:={ x with r:=x.r+1 }
theorem Oj {x:Fr} (h:dR x=0) (hr:x.r≠0) (h1:x.r<1000):dR (iG x)=0:=by
 rw[iN] at h ⊢;obtain⟨⟨a,b,c⟩,d,e⟩:=h;refine⟨⟨?_,?_,c⟩,fun h0 => ?_,e⟩
 ·show 0≤x.r+1;omega
 ·show x.r+1≤1000;omega
 have:x.r+1=0:=h0;omega
theorem uT (h:Rt m) {n:Int} (hk:(ent m p n).k=1):∃f:Nat,(ent m p n).n=f∧f<m.m.fs.length∧(aR m f).r≠0∧p<m.sp.length∧(0≤n∧n<64)∧∃g,ni m p n=some g∧Qc (aR m f) g (ent m p n).w:=by
 have h1:=su (m:=m) (p:=p) (n:=n) (by rw[hk];decide);have h2:=(cO _).1 (ul h.pt p n);obtain⟨g,hg,hf⟩:=h.en p n (by rw[hk];decide);have h3:=hf.lt hk;have h4:=JJ h hk rfl;refine⟨(ent m p n).n.toNat,by omega,h4.2,?_,h1.1,h1.2,g,hg,hf.fr hk⟩;have:=h.cf _ h4.2;omega
theorem EY (h:Rt m) (hc:Co m) {n:Int} {g:Pg} (hk:(ent m p n).k=1) (hn:(ent m p n).n=f) (hq:q<m.sp.length) (h0:(ent m q n).k=0) (hg:ni m p n=some g) (hgq:ni m q n=some g) (hw:(ent m p n).w=true→g.sh=true)
 (hany:(aR m f).f<0→∀a j,(ent m a j).k=1→(ent m a j).n.toNat=f→(ent m a j).w=false) :
  Rt (eB (setFr m f (iG (aR m f))) q n (ent m p n))∧Co (eB (setFr m f (iG (aR m f))) q n (ent m p n)):=by
 obtain⟨f',e1,e2,e3,e4,e5,g',e6,e7⟩:=uT h hk;have:f' = f:=by omega
 subst this;rw[hg] at e6;cases e6;have hr:=h.fewR e2;refine yV (g:=g) h hc hq e5 h0 e2 hk hn (Oj (h.pt.frE e2) e3 (by omega)) rfl (fun _=>⟨rfl,rfl,rfl,rfl⟩) (fun h=>absurd h e3) hany hgq ?_;obtain⟨f1,f2,f3,f4,f5⟩:=e7;refine⟨f1,f2,f3,f4,fun b hx => ?_⟩;have:=f2 (hw b);have c : (aR m f').f<0:=hx;omega
theorem LZ (h:Rt m) (hc:Co m) {n:Int} {g:Pg} (hpq:p≠q) (hk:(ent m p n).k=1) (hn:(ent m p n).n=f) (hq:q<m.sp.length) (h0:(ent m q n).k=0) (hg:ni m p n=some g) (hgq:ni m q n=some g) :
  Rt (eB (eB (setFr m f (iG (aR m f))) p n ⟨1,f,false⟩) q n ⟨1,f,false⟩)∧Co (eB (eB (setFr m f (iG (aR m f))) p n ⟨1,f,false⟩) q n ⟨1,f,false⟩):=by
 obtain⟨f',e1,e2,e3,e4,e5,g',e6,e7⟩:=uT h hk;have:f' = f:=by omega
 subst this;obtain⟨a1,a2⟩:=MZ h hc hk;rw[hn] at a1 a2;obtain⟨r,_,_⟩:=uI (k:=⟨m,0⟩) (p:=p) (n:=n) (x:=⟨1,f',false⟩) h.pt e5 ((cO _).2 (.inr (.inl ⟨rfl,by show (0:Int)≤f'; omega,by have:=((eQ _).1 h.pt.fr).1;show (f' : Int)<40;omega⟩)));have b:∀a j,ent (eB m p n ⟨1,f',false⟩) a j=if a=p∧j=n then ⟨1,f',false⟩ else ent m a j:=fun a j=>xB e4 r a j;have hp:ent (eB m p n ⟨1,f',false⟩) p n=⟨1,f',false⟩:=by rw[b,if_pos ⟨rfl,rfl⟩]
 have d:kS m (eB m p n ⟨1,f',false⟩):=kS.setTb;have l:∀a,ni (eB m p n ⟨1,f',false⟩) a n=ni m a n:=fun a=>by unfold ni;rw[d.ar]
 have:=EY (p:=p) (q:=q) (n:=n) (f:=f') (g:=g) a1 a2 (by rw[hp]) (by rw[hp]) (by rw[d.len];exact hq) (by rw[b,if_neg (fun h'=>hpq h'.1.symm)];exact h0) (by rw[l];exact hg) (by rw[l];exact hgq) (fun h'=>by rw[hp] at h'; cases h') (fun hx a j c o => ?_)
 ·rw[hp] at this;exact this
 rw[b] at c o ⊢
 by_cases e:a=p∧j=n
 ·rw[if_pos e]
 rw[if_neg e] at c o ⊢;obtain⟨f2,b1,b2,b3,b4,b5,g2,b6,b7⟩:=uT h c;have s:f2=f':=by omega
 subst s;have h2:=Tj h.pt (kd:=1) (i:=f2) (by decide) ⟨hk,hn⟩ ⟨c,b1⟩ e;have h3:=h.cf f2 e2;obtain⟨c1,c2,c3,c4,c5⟩:=b7;cases hw:(ent m a j).w with
 | false=>rfl
 | true=>
  have:=c5 hw hx;omega
theorem LP (h:Rt m) (hc:Co m) {n:Int} {g:Pg} (hk:(ent m p n).k=2) (hn:(ent m p n).n=s) (hq:q<m.sp.length) (h0:(ent m q n).k=0) (hg:ni m p n=some g) (hgq:ni m q n=some g) :
  Rt (eB (setSl m s (pu m s+1)) q n (ent m p n))∧Co (eB (setSl m s (pu m s+1)) q n (ent m p n)):=by
 have h1:=su (m:=m) (p:=p) (n:=n) (by rw[hk];decide);have h2:=(cO _).1 (ul h.pt p n);obtain⟨g',a,hf⟩:=h.en p n (by rw[hk];decide);rw[hg] at a;cases a;have h3:=hf.sw hk;have hs:s<m.sl.length:=by omega
 have h4:=h.fewS hs;exact Ht (d:=m.sw) (g:=g) h hc hq h1.2 h0 hs hk hn ((h2.resolve_left (fun h'=>by omega)).resolve_left (fun h'=>by omega)).2.2.2 (by omega) h.pt.sw rfl hgq h3.2
structure Bd (m:Ma) (T:List (List En)):Prop where
 ok:Bg m T
 rt:Rt (dV m T)
 co:Co (dV m T)
theorem Bd.of {T:List (List En)} (ok:Bg m T) (h:Rt (dV m T)∧Co (dV m T)):Bd m T:=⟨ok,h.1,h.2⟩
theorem Bd.few {T:List (List En)} (h:Bd m T):m.m.fs.length≤40∧m.sl.length≤60∧m.sp.length≤4∧(m.dk.blocks.length:Int)=m.st.count∧aP m.st=0∧bi m.dk=0∧bi m.sw=0∧m.sw.blocks.length=m.sl.length:=
 ⟨((eQ _).1 h.rt.pt.fr).1,jf h.rt.pt.sl,by have:=h.rt.pt.spl;rw[kJ] at this;exact this,h.rt.pt.dkl,h.rt.pt.st,h.rt.pt.dk,h.rt.pt.sw,h.rt.pt.swl⟩
theorem Bd.cachedE {T:List (List En)} (h:Bd m T) (hp:p<m.sp.length) (hn:n<64) (h0:(fq T p n).k=0) {c:Cc} (hcm:c∈m.ca) {g:Pg} (hg:onA (fH m p).ar n=some g) (hf:c.f=g.fi∧c.i=g.pg) {w:Bool} (hw:w=true→g.sh=true∧g.wr=true) :
  Bd (setFr m c.k.toNat (iG (aR m c.k.toNat))) (setL T p n ⟨1,c.k,w⟩):=by
 have d:=h.rt.ca.lt c hcm;have q:=h.rt.ca.fr c hcm;have j:=h.rt.ca.file c hcm;have a : c.k.toNat<m.m.fs.length:=by have:c.k<(dV m T).m.fs.length:=d.2;have e:(dV m T).m.fs.length=m.m.fs.length:=rfl;omega
 have l:eT ⟨1,c.k,w⟩=0:=(cO _).2 (.inr (.inl ⟨rfl,d.1,by have:=h.few.1;have:c.k<(dV m T).m.fs.length:=d.2;have e:(dV m T).m.fs.length=m.m.fs.length:=rfl;show c.k<40;omega⟩));have o:=h.rt.fewR a;have b:aR (dV m T) c.k.toNat=aR m c.k.toNat:=rfl;rw[b] at q o;refine .of (h.ok.fr.set hp l) ?_;rw[←rz h.ok.fr hp hn l,←zX];refine yV (g:=g) (f:=c.k.toNat) h.rt h.co (by rw[kJ];exact hp) ⟨by omega,by omega⟩ (by rw[lH h.ok hp hn];exact h0) a rfl (by show c.k=_;omega) (Oj (h.rt.pt.frE a) (by omega) (by omega)) rfl (fun _=>⟨rfl,rfl,rfl,rfl⟩) (fun h'=>by rw[b] at h'; omega) (fun hx => ?_) (by rw[nN hp];exact hg) ?_
 ·have:(aR m c.k.toNat).f<0:=hx;have:=j.1.1;omega
 have e1:(iG (aR m c.k.toNat)).f=(aR m c.k.toNat).f:=rfl;have e2:(iG (aR m c.k.toNat)).i=(aR m c.k.toNat).i:=rfl;refine⟨fun _=>⟨by omega,by omega⟩,fun _=>by have:=j.1.1;omega,fun h'=>(hw h').2,fun h' _=>(hw h').1,fun h' hx => ?_⟩;have:=j.1.1;omega
theorem Bd.anonE {T:List (List En)} (h:Bd m T) (hp:p<m.sp.length) (hn:n<64) (h0:(fq T p n).k=0) (hf:f<m.m.fs.length) (hr:(aR m f).r=0) {X:Fr} (hX:X.r=1∧X.d=false∧X.f = -1∧X.i=0) {g:Pg} (hg:onA (fH m p).ar n=some g) (hsh:g.sh=false) {w:Bool} (hw:w=true→g.wr=true) :
  Bd (setFr m f X) (setL T p n ⟨1,f,w⟩):=by
 have c:eT ⟨1,f,w⟩=0:=(cO _).2 (.inr (.inl ⟨rfl,by show (0:Int)≤f;omega,by have:=h.few.1;show (f:Int)<40;omega⟩));have b:aR (dV m T) f=aR m f:=rfl;refine .of (h.ok.fr.set hp c) ?_;rw[←rz h.ok.fr hp hn c,←zX];have o:dR X=0:=by rw[iN];exact⟨⟨by omega,by omega,by omega,by omega,by omega,by omega⟩,fun h'=>by omega,fun _=>hX.2.2.2⟩
 refine yV (g:=g) (f:=f) h.rt h.co (by rw[kJ];exact hp) ⟨by omega,by omega⟩ (by rw[lH h.ok hp hn];exact h0) hf rfl rfl o (by rw[b];omega) (fun h'=>by rw[b] at h'; omega) (fun _=>⟨by omega,hX.2.1⟩) (fun hx a j l e => ?_) (by rw[nN hp];exact hg) ?_
 ·have:=JJ h.rt l e;have h5:=h.rt.cf f hf;rw[b] at h5;omega
 ·exact⟨fun h'=>absurd h' (by omega),fun h'=>(by rw[hsh] at h'; cases h'),hw,fun _ h'=>absurd h' (by omega),fun _ _=>by omega⟩
theorem Bd.slotE {T:List (List En)} (h:Bd m T) (hp:p<m.sp.length) (hn:n<64) (h0:(fq T p n).k=0) (hs:s<m.sl.length) (hz:pu m s=0) {P:Page} {g:Pg} (hg:onA (fH m p).ar n=some g) (hsh:g.sh=false) :
  Bd { m with sl:=m.sl.set s 1,sw:=⟨m.sw.blocks.set s P,m.sw.queue⟩ } (setL T p n ⟨2,s,false⟩):=by
 have a:eT ⟨2,s,false⟩=0:=(cO _).2 (.inr (.inr ⟨rfl,by show (0:Int)≤s;omega,by have:=h.few.2.1;show (s:Int)<60;omega,rfl⟩));have c:Bg { m with sl:=m.sl.set s 1,sw:=⟨m.sw.blocks.set s P,m.sw.queue⟩ } T:=h.ok.sps rfl;refine .of (c.set hp a) ?_;rw[←rz c hp hn a];have e:bi ⟨m.sw.blocks.set s P,m.sw.queue⟩=0:=by have:=(gD _).1 h.rt.pt.sw;rw[gD];simp only[bP];exact this
 have b:pu (dV m T) s=0:=hz;have:=Ht (d:=⟨m.sw.blocks.set s P,m.sw.queue⟩) (x:=⟨2,s,false⟩) (n:=(n:Int)) (g:=g) h.rt h.co (p:=p) (s:=s) (by rw[kJ];exact hp) ⟨by omega,by omega⟩ (by rw[lH h.ok hp hn];exact h0) hs rfl rfl rfl (by rw[b];omega) e (by rw[bP];rfl) (by rw[nN hp];exact hg) hsh;rw[b] at this;exact this
theorem Bd.cache {T:List (List En)} (h:Bd m T) {f i:Int} (hin:zz m.st f i) (hno:∀c∈m.ca,¬(c.f=f∧c.i=i)) (hg:g<m.m.fs.length) (hr:(aR m g).r=0) {X:Fr} (hX:X.r=1∧X.f=f∧X.i=i) (ht:fJ X.p ((aM m.st f).n-i*8)=X.p) (hd:X.d=false→X.p=ic m f i) :
  Bd (zG m g X f i) T:=.of (h.ok.sps rfl) (Vd h.rt h.co hg hr hin hno hX ht hd)
theorem Bd.more {T:List (List En)} (h:Bd m T) {s:Sp} (hl:m.sp.length<4) (hv:s.lv=true) (ha:(bJ s.ar).1=0):Bd { m with sp:=m.sp++[s] } (T++[List.replicate 64 zEn]):=by
 refine .of (h.ok.more s) ?_;rw[ME h.ok];exact LW h.rt h.co (s:={ s with tb:=zTb }) (by rw[kJ];exact hl) hv ha rfl
theorem Bd.share1 {T:List (List En)} (h:Bd m T) (hl:m.sp.length=2) (hn:n<64) (har:(fH m 1).ar=(fH m 0).ar) (hk:(fq T 0 n).k=1) (h0:(fq T 1 n).k=0) {g:Pg} (hg:onA (fH m 0).ar n=some g) (hf:(fq T 0 n).n=f) {w:Bool} (hw:w=(g.sh&&(fq T 0 n).w)) :
  Bd (setFr m f (iG (aR m f))) (setL (setL T 0 n ⟨1,f,w⟩) 1 n ⟨1,f,w⟩):=by
 have e0:=lH h.ok (p:=0) (by omega) hn;have e1:=lH h.ok (p:=1) (by omega) hn;have c:ni (dV m T) 0 n=some g:=by rw[nN (by omega)];exact hg
 have e:ni (dV m T) 1 n=some g:=by rw[nN (by omega),har];exact hg
 obtain⟨f',a1,a2,_⟩:=uT h.rt (p:=0) (n:=n) (by rw[e0];exact hk);have a2' : f' < m.m.fs.length:=a2;have i:f' = f:=by rw[e0] at a1;omega
 subst i;have a:∀w,eT ⟨1,f',w⟩=0:=fun w=>(cO _).2 (.inr (.inl ⟨rfl,by show (0:Int)≤f'; omega,by have:=h.few.1;show (f' : Int)<40;omega⟩));have d:=(h.ok.fr (f:=f') (X:=iG (aR m f'))).set (p:=0) (n:=n) (by show 0<m.sp.length;omega) (a w);refine .of (d.set (by show 1<m.sp.length;omega) (a w)) ?_;have j:(⟨1,f',(fq T 0 n).w⟩:En)=fq T 0 n:=by rw[←hf,←hk]
 rw[←rz d (by show 1<m.sp.length;omega) hn (a w)];cases hs:g.sh with
 | false=>
  rw[hs,lS] at hw;subst hw;rw[←rz h.ok.fr (by show 0<m.sp.length;omega) hn (a false),←zX];exact LZ (m:=dV m T) (p:=0) (q:=1) (n:=n) (f:=f') (g:=g) h.rt h.co (by decide) (by rw[e0];exact hk) (by rw[e0];exact hf) (by rw[kJ];omega) (by rw[e1];exact h0) c e
 | true=>
  rw[hs,lh] at hw;subst hw;rw[j];have b:setL T 0 n (fq T 0 n)=T:=by have l:eY T 0∈T:=h.ok.mem (by omega);have o:=h.ok.l64 (p:=0) (by omega);unfold setL fq;rw[aV,aI (by omega:n<(eY T 0).length),oL,tJ];unfold eY;rw[aV,aI (by rw[h.ok.len];omega:0<T.length),oL,tJ]
  rw[b,←zX,←e0];refine EY (m:=dV m T) (p:=0) (q:=1) (n:=n) (f:=f') (g:=g) h.rt h.co (by rw[e0];exact hk) (by rw[e0];exact hf) (by rw[kJ];omega) (by rw[e1];exact h0) c e (fun _=>hs) (fun hx => ?_);obtain⟨f2,b1,b2,b3,b4,b5,g2,b6,b7⟩:=uT h.rt (p:=0) (n:=n) (by rw[e0];exact hk);have:f2=f':=by omega
  subst this;rw[c] at b6;cases b6;have:=b7.2.1 hs;omega
theorem Bd.share2 {T:List (List En)} (h:Bd m T) (hl:m.sp.length=2) (hn:n<64) (har:(fH m 1).ar=(fH m 0).ar) (hk:(fq T 0 n).k=2) (h0:(fq T 1 n).k=0) {g:Pg} (hg:onA (fH m 0).ar n=some g) (hf:(fq T 0 n).n=s) :
  Bd (setSl m s (pu m s+1)) (setL (setL T 0 n (fq T 0 n)) 1 n (fq T 0 n)):=by
 have e0:=lH h.ok (p:=0) (by omega) hn;have e1:=lH h.ok (p:=1) (by omega) hn;have d:ni (dV m T) 0 n=some g:=by rw[nN (by omega)];exact hg
 have c:ni (dV m T) 1 n=some g:=by rw[nN (by omega),har];exact hg
 have a:setL T 0 n (fq T 0 n)=T:=by have e:eY T 0∈T:=h.ok.mem (by omega);have f:=h.ok.l64 (p:=0) (by omega);unfold setL fq;rw[aV,aI (by omega:n<(eY T 0).length),oL,tJ];unfold eY;rw[aV,aI (by rw[h.ok.len];omega:0<T.length),oL,tJ]
 rw[a];have hE:=za h.ok (p:=0) (by omega) hn;have b:Bg (setSl m s (pu m s+1)) T:=h.ok.sps rfl;refine .of (b.set (by show 1<m.sp.length;omega) hE) ?_;rw[←rz b (by show 1<m.sp.length;omega) hn hE,←e0];exact LP (m:=dV m T) (p:=0) (q:=1) (n:=n) (s:=s) (g:=g) h.rt h.co (by rw[e0];exact hk) (by rw[e0];exact hf) (by rw[kJ];omega) (by rw[e1];exact h0) d c
theorem Bd.share0 {T:List (List En)} (h:Bd m T) (hl:m.sp.length=2) (hn:n<64) (hk:(fq T 0 n).k=0) (h0:(fq T 1 n).k=0):Bd m (setL (setL T 0 n (fq T 0 n)) 1 n (fq T 0 n)):=by
 have i:=(cO _).1 (za h.ok (p:=0) (by omega) hn);have g:=(cO _).1 (za h.ok (p:=1) (by omega) hn);have hz:∀e:En,e.k=0→((e.k=0∧e.n=0∧e.w=false)∨(e.k=1∧0≤e.n∧e.n<40)∨(e.k=2∧0≤e.n∧e.n<60∧e.w=false))→e=zEn:=by
  rintro⟨a,b,c⟩ h1 h2;rcases h2 with ⟨a1,a2,a3⟩|h2|h2
  ·simp only at a1 a2 a3;subst a1;subst a2;subst a3;rfl
  ·omega
  ·omega
 have f:=hz _ hk i;have j:=hz _ h0 g;have d:∀p,p<2→fq T p n=zEn→setL T p n zEn=T:=fun p hp he=>by
  have o:=h.ok.l64 (p:=p) (by omega);have l:=h.ok.len;have:(eY T p)[n]'(by omega)=zEn:=by unfold fq at he;rw[aV,aI (by omega:n<(eY T p).length),oL] at he;exact he
  unfold setL;rw[←this,tJ];unfold eY;rw[aV,aI (by omega:p<T.length),oL,tJ]
 rw[f,d 0 (by omega) f,d 1 (by omega) j];exact h
theorem VX {t u:Tb} (ht:dh t=0) (hu:dh u=0) (h:∀n,dK t n=dK u n):t=u:=by
 rw[←yR ht,←yR hu];unfold dA;congr 1;exact ww fun n _=>h n
def fB (l:List Fr):Nat:=l.countP fun f=>decide (f.r=0)
theorem Cm {α:Type} (q:α→Bool) {l l' : List α} (hl:l'.length=l.length) (h:∀i (h1:i<l.length) (h2:i<l'.length),q l'[i]=q l[i]):l'.countP q=l.countP q:=by
 have e:l'.map q=l.map q:=by
  apply uf
  ·simpa using hl
  intro i h1 h2;simp only[vQ];exact h i (by simpa using h2) (by simpa using h1)
 have e2:=congrArg (fun x=>x.countP id) e;simpa[sP] using e2
theorem vC (h:i<m.m.fs.length):aR m i=m.m.fs[i]:=by unfold aR;rw[aV,aI h];rfl
def Et (l:List Fr):Nat:=l.countP fun f=>f.d
def Cw (m:Ma) (f:Nat):Bool:=(aR m f).d&&iI m f
def oU (m:Ma):Option Nat:=(List.range m.m.fs.length).find? (Cw m)
theorem Cr (h:oU m=some f):f<m.m.fs.length∧(aR m f).d=true∧iI m f=true:=by
 have h1:=dG.1 (uu h);have h2:=qM h;unfold Cw at h2;rw[dU] at h2;exact⟨h1,h2.1,h2.2⟩
theorem rO {α:Type} (q:α→Bool):∀(l:List α) (i:Nat) (h:i<l.length) (x:α),q l[i]=true→q x=false→(l.set i x).countP q+1=l.countP q
 | a::l,0,_,x,h1,h2=>by simp only[zC] at h1;rw[qO,ou,ou,h1,h2];simp
 | a::l,i+1,h,x,h1,h2=>by rw[vE,ou,ou];have:=rO q l i (by simpa using h) x (by simpa using h1) h2;omega
theorem FM (hf:f<m.m.fs.length) (hd:(aR m f).d=true) (h:Cleaned m m1 f):Et m1.m.fs+1=Et m.m.fs:=by
 rw[h.fs];unfold setFr Et;exact rO _ _ f hf _ (by rw[vC hf] at hd;exact hd) rfl
theorem ET (hR:Rt m) (hC:Co m) (h:oU m=some f):∃m1,gU ⟨m,0⟩ f=⟨m1,0⟩∧Cleaned m m1 f∧Et m1.m.fs+1=Et m.m.fs:=by
 obtain⟨h1,h2,h3⟩:=Cr h;obtain⟨m1,e,hc⟩:=Bi (k:=⟨m,0⟩) hR hC h1 (hC.anon f h1 h2) h3;exact⟨m1,e,hc,FM h1 h2 hc⟩
theorem Te {α:Type} (q:α→Bool) {l l' : List α} (hl:l'.length=l.length) (i:Nat) (hi:i<l.length) (h:∀j (h1:j<l.length) (h2:j<l'.length),j≠i→q l'[j]=q l[j]) (h1:q l[i]=false) (h2:q (l'[i]'(by omega))=true):l'.countP q=l.countP q+1:=by
 have e1:l'.countP q=(l.set i (l'[i]'(by omega))).countP q:=by
  refine Cm q (by simp[hl]) fun j h3 h4 => ?_
  by_cases e:j=i
  ·subst e;simp
  rw[AU (by omega)];exact h j (by simpa using h3) h4 e
 have e2:=rO q (l.set i (l'[i]'(by omega))) i (by simpa using hi) l[i] (by simpa using h2) h1;rw[Il,tJ] at e2;omega
theorem Ng {o:Option Nat} (h:EU m m' o):fB m'.m.fs=fB m.m.fs+if o=none then 0 else 1:=by
 have a:∀i (h1:i<m.m.fs.length) (h2:i<m'.m.fs.length),o≠some i→decide (m'.m.fs[i].r=0)=decide (m.m.fs[i].r=0):=fun i h1 h2 ho=>by have e1:=(h.fr i ho).2.1;rw[vC h1,vC h2] at e1;rw[e1]
 cases o with
 | none=>
  rw[if_pos rfl];exact Cm _ h.len fun i h1 h2=>a i h1 h2 (by simp)
 | some f=>
  rw[if_neg (by simp)];obtain⟨k1,k2,k3⟩:=h.free f rfl;have b : f<m'.m.fs.length:=by rw[h.len];exact k1
  refine Te _ h.len f k1 (fun j h1 h2 hj=>a j h1 h2 (fun e=>hj (aJ e).symm)) ?_ ?_
  ·rw[vC k1] at k3;exact decide_eq_false k3
  rw[vC b] at k2;rw[k2];rfl
theorem BU (hR:Rt m) (hC:Co m):(eF ⟨m,0⟩).1.e=0∧Rt (eF ⟨m,0⟩).1.m∧Co (eF ⟨m,0⟩).1.m∧Fz m (eF ⟨m,0⟩).1.m∧fB (eF ⟨m,0⟩).1.m.m.fs=fB m.m.fs+if (eF ⟨m,0⟩).2=true then 1 else 0:=by
 obtain⟨he,o,hF,ho⟩:=Eu (k:=⟨m,0⟩) hR hC;refine⟨he,hF.rt,hF.co,hF.vis,?_⟩;rw[Ng hF];cases o with
 | none=>rw[if_pos rfl,if_neg (fun e=>(ho.1 e) rfl)]
 | some f=>rw[if_neg (by simp),if_pos (ho.2 (by simp))]
end Go.Proofs.YtjkkoeijlhfneaaGreat
namespace Pw
open Go Go.RowKit
variable {B B' b base c cap f fuel g i id k n off sz:Nat} {L spare:Nat → Bool} {P:Program} {Q:Exit → Act → World → Prop} {T TX TY TZ e src t t' ty:TypeId} {V v vx vy:Value} {W w' w0 w1:World} {X Y Z args cs t0:Array Value} {a:Option Addr} {a0:Act} {d:TypeDesc} {held:Bool} {l:List Int} {o op:Oper} {ops:Array Oper} {rest:List Oper} {tm vs xs:List Value} {x:Operand} {y:Nat → Value} {ρ:Operand → Value}
theorem aU {k:IntKind} {a b:Int} (h:a=b):Ending.returned (.int k a) = .returned (.int k b):=by rw[h]
theorem bQ {a b:Bool} (h:a=b):Ending.returned (.bool a) = .returned (.bool b):=by rw[h]
theorem ae {w:World} (h:Below w.heap.size w W) (hb:Below W.heap.size W w1):Below w.heap.size w w1:=
 h.trans (hb.mono h.size)
theorem gH (w:World) (o:Obj):w.heap.size≤(w.alloc o).heap.size:=((Below.refl 0 w).alloc (aW _) o).size
theorem cK {w:World} (h:B≤w.heap.size) (o:Obj):B≤(w.alloc o).heap.size:=aY h (gH w o)
def aA (w:World) (b:Nat) (cs:Array Value) (T:TypeId):Prop:=w.heap[b]?=some (.cells cs T (0,0))
theorem aA.cell {w:World} (h:aA w b cs T):∀o,w.cell? ⟨b,o,none⟩=cs[o]?:=by
 intro o;unfold aA at h;simp[World.cell?,h]
theorem aA.free {w:World} (h:aA w b cs T):∀o,w.frozen? ⟨b,o,none⟩=false:=by
 intro o;unfold aA at h;simp[World.frozen?,h]
theorem aA.lt {w:World} (h:aA w b cs T):b<w.heap.size:=lt_of_block h
theorem aA.below {w:World} (h:aA w b cs T) (hb:Below B w w') (hB:b<B):aA w' b cs T:=
 (hb.block b hB).trans h
theorem aA.ext {w:World} (h:aA w b cs T) (hb:Below w.heap.size w w'):aA w' b cs T:=h.below hb h.lt
theorem aA.new (w:World) (cs:Array Value) (T:TypeId):aA (w.alloc (.cells cs T)) w.heap.size cs T:=heap_alloc_new w _
theorem aA.alloc {w:World} (h:aA w b cs T) (o:Obj):aA (w.alloc o) b cs T:=(Below.heap_alloc w o b h.lt).trans h
theorem aA.drewN {w:World} (h:aA w b cs T) (n:Nat):aA (w.drewN n) b cs T:=h
theorem aA.drew {w:World} (h:aA w b cs T):aA w.drew b cs T:=h
def dI (w:World) (a:Option Addr) (vs:List Value):Prop:=
 ∀i u,vs[i]?=some u→∃b off,a=some ⟨b,off,none⟩∧w.cell? ⟨b,off+i,none⟩=some u
theorem dI.below {w:World} (h:dI w a vs) (hb:Below w.heap.size w w'):dI w' a vs:=by
 intro i u hi;obtain⟨b,off,ha,hc⟩:=h i u hi;exact⟨b,off,ha,cell_later hb hc⟩
theorem dI.nil {w:World} :dI w a []:=fun i u h=>by simp at h
theorem dI.at {w:World} {a:Option Addr} {vs:List Value} (h:dI w a vs) (hn:0<vs.length):∃b off,a=some ⟨b,off,none⟩∧∀i u,vs[i]?=some u→w.cell? ⟨b,off+i,none⟩=some u:=by
 obtain⟨b,off,rfl,hc⟩:=h 0 _ (aI hn);refine⟨b,off,rfl,fun i u hi => ?_⟩;obtain⟨b',off',e,c⟩:=h i u hi;simp only[jg,vJ,and_true] at e;obtain⟨rfl,rfl⟩:=e;exact c
theorem flat_get {α:Type} (enc:α→List Value) (sz:Nat) (hsz:∀x,(enc x).length=sz):∀(l:List α) (i:Nat) (h:i<l.length) (j:Nat) (u:Value),(enc l[i])[j]?=some u→(l.flatMap enc)[i*sz+j]?=some u
 | [],i,h,_,_,_=>absurd h (eG _)
 | x::l,0,_,j,u,hj=>by
  simp only[lX,xO,dZ];simp only[zC] at hj;have hl:j<(enc x).length:=by
   rcases fG j (enc x).length with h|h
   ·exact h
   ·simp[dJ h] at hj
  rw[lm hl];exact hj
 | x::l,i+1,h,j,u,hj=>by
  simp only[lX];have e:(i+1)*sz+j=(enc x).length+(i*sz+j):=by rw[hsz x,uo];omega
  rw[e,kT (by omega),AO];exact flat_get enc sz hsz l i (by simpa using h) j u (by simpa using hj)
theorem flat_len {α:Type} (enc:α→List Value) (sz:Nat) (hsz:∀x,(enc x).length=sz) (l:List α):(l.flatMap enc).length=l.length*sz:=by
 induction l with
 | nil=>simp
 | cons x l ih=>simp[lX,ih,hsz x,uo,Iw]
theorem dI.elem {α:Type} {enc:α→List Value} (hsz:∀x,(enc x).length=sz) (hp:0<sz) {w:World} {l:List α} (h:dI w a (l.flatMap enc)) (i:Nat) (hi:i<l.length) :
  ∃b off,a=some ⟨b,off,none⟩∧∀j u,(enc l[i])[j]?=some u→w.cell? ⟨b,off+i*sz+j,none⟩=some u:=by
 obtain⟨b,off,ha,hc⟩:=h.at (by rw[flat_len enc sz hsz];exact Nat.mul_pos (by omega) hp);exact⟨b,off,ha,fun j u hj=>by rw[mY];exact hc _ _ (flat_get enc sz hsz l i hi j u hj)⟩
def bD (cur:Array Value):Nat→List Value→Array Value
 | _,[]=>cur
 | o,v::r=>bD (cur.setIfInBounds o v) (o+1) r
theorem size_putAt:∀(vs:List Value) (cur:Array Value) (o:Nat),(bD cur o vs).size=cur.size
 | [],_,_=>rfl
 | v::r,cur,o=>by simp[bD,size_putAt r]
theorem putAt_out:∀(vs:List Value) (cur:Array Value) (o k:Nat),(k<o∨o+vs.length≤k)→(bD cur o vs)[k]?=cur[k]?
 | [],_,_,_,_=>rfl
 | v::r,cur,o,k,h=>by simp only[pG] at h;simp only[bD];rw[putAt_out r _ _ _ (by omega),gu (by omega)]
theorem putAt_in:∀(vs:List Value) (cur:Array Value) (o j:Nat) (u:Value),o+vs.length≤cur.size→vs[j]?=some u→(bD cur o vs)[o+j]?=some u
 | [],_,_,_,_,_,h=>by simp at h
 | v::r,cur,o,0,u,hs,h=>by simp only[pG] at hs;simp only[bD];rw[putAt_out r _ _ _ (by omega)];simp at h;subst h;simp[show o<cur.size by omega]
 | v::r,cur,o,j+1,u,hs,h=>by simp only[pG] at hs;simp only[bD];rw[show o+(j+1)=o+1+j by omega];exact putAt_in r _ _ _ u (by simp;omega) (by simpa using h)
theorem aA.setCell {w:World} (h:aA w b cs T) (o:Nat) (v:Value):aA (w.setCell ⟨b,o,none⟩ v) b (cs.setIfInBounds o v) T:=
 heap_setCell_same w b o cs T v h
theorem aA.setCell_other {w:World} (h:aA w b cs T) (a:Addr) (v:Value) (hne:b≠a.block):aA (w.setCell a v) b cs T:=
 (heap_setCell_other w a b v hne).trans h
theorem aA.setCells :∀(vs:List Value) (o:Nat) {w:World} {cs:Array Value},aA w b cs T→aA (w.setCells b o vs) b (bD cs o vs) T
 | [],_,_,_,h=>h
 | v::r,o,_,_,h=>aA.setCells r (o+1) (h.setCell o v)
theorem heap_setCells_other (b:Nat):∀(vs:List Value) (o:Nat) (w:World) (k:Nat),k≠b→(w.setCells b o vs).heap[k]?=w.heap[k]?
 | [],_,_,_,_=>rfl
 | v::r,o,w,k,h=>(heap_setCells_other b r (o+1) _ k h).trans (heap_setCell_other w ⟨b,o,none⟩ k v h)
theorem size_setCells (b:Nat):∀(vs:List Value) (o:Nat) (w:World),(w.setCells b o vs).heap.size=w.heap.size
 | [],_,_=>rfl
 | v::r,o,w=>(size_setCells b r (o+1) _).trans (by simp[World.setCell])
theorem pV (b:Nat):∀(vs:List Value) (o:Nat) (w:World),(w.setCells b o vs).os=w.os∧(w.setCells b o vs).tape=w.tape∧(w.setCells b o vs).output=w.output
 | [],_,_=>⟨rfl,rfl,rfl⟩
 | _::r,o,_=>pV b r (o+1) _
theorem aH (w:World) (b o:Nat) (vs:List Value):w.grownBy (w.setCells b o vs) (some b):=
 ⟨(pV b vs o w).1,(pV b vs o w).2.1,(pV b vs o w).2.2,Dt (size_setCells b vs o w).symm,
  fun k _ hk=>heap_setCells_other b vs o w k (fun e=>hk (by rw[e]))⟩
def Own (w:World) (B:Nat) (e:TypeId) (sz:Nat) (v:Value) (n:Nat) (xs:List Value):Prop:=
 xs.length=n*sz∧((v = .slice none 0 0∧n=0) ∨
  ∃g off cap cur,v = .slice (some ⟨g,off,none⟩) n cap∧B≤g∧aA w g cur e∧n≤cap∧cap≤maxLen∧off+cap*sz≤cur.size∧∀j u,xs[j]?=some u→cur[off+j]?=some u)
theorem Own.nil (w:World) (B:Nat) (e:TypeId) (sz:Nat):Own w B e sz (.slice none 0 0) 0 []:=⟨by simp,.inl ⟨rfl,rfl⟩⟩
theorem Own.of_owns {w:World} (h:w.ownsRow B e sz v n xs):Own w B e sz v n xs:=by
 obtain⟨hl,h⟩:=h;refine⟨hl,h.imp id fun⟨g,cap,cur,hv,hB,hg,hc,hm,hs,ht⟩=>⟨g,0,cap,cur,hv,hB,hg,hc,hm,by omega,fun j u hj => ?_⟩⟩;rw[dZ,←uF];rw[←ht,lY] at hj;split at hj
 ·exact hj
 ·cases hj
theorem Own.mono {w:World} (h:Own w B e sz v n xs) (hB:B'≤B):Own w B' e sz v n xs:=
 ⟨h.1,h.2.imp id fun⟨g,off,cap,cur,hv,hg,r⟩=>⟨g,off,cap,cur,hv,aY hB hg,r⟩⟩
theorem Own.below {w:World} (h:Own w B e sz v n xs) (hb:Below w.heap.size w w'):Own w' B e sz v n xs:=
 ⟨h.1,h.2.imp id fun⟨g,off,cap,cur,hv,hg,hk,r⟩=>⟨g,off,cap,cur,hv,hg,hk.ext hb,r⟩⟩
theorem Own.grown {w:World} {row:Option Nat} (h:Own w B e sz v n xs) (hg:w.grownBy w' row) (hne:∀g,v.ownBlock=some g→row≠some g):Own w' B e sz v n xs:=
 ⟨h.1,h.2.imp id fun⟨g,off,cap,cur,hv,hB,hk,r⟩=>⟨g,off,cap,cur,hv,hB,(hg.block g hk.lt (fun e=>hne g (by rw[hv];rfl) e.symm)).trans hk,r⟩⟩
theorem Own.rd {w:World} (h:Own w B e sz v n xs):∃a c,v = .slice a n c∧n≤c∧c≤maxLen∧(a=none→c=0)∧dI w a xs:=by
 obtain⟨hl,h⟩:=h;rcases h with ⟨rfl,rfl⟩|⟨g,off,cap,cur,rfl,_,hg,hc,hm,hs,ht⟩
 ·have:xs=[]:=jW (by simpa using hl);subst this;exact⟨none,0,rfl,az _,aW _,fun _=>rfl,dI.nil⟩
 ·exact⟨_,cap,rfl,hc,hm,fun e=>(Option.some_ne_none _ e).elim,fun i u hi=>⟨g,off,rfl,by rw[hg.cell];exact ht i u hi⟩⟩
theorem Own.ge {w:World} (h:Own w B e sz v n xs):∀k,v.ownBlock=some k→B≤k:=by
 rcases h.2 with ⟨rfl,_⟩|⟨g,off,cap,cur,rfl,hB,_⟩
 ·intro k hk;cases hk
 ·intro k hk;cases hk;exact hB
theorem aA.grown {w:World} {row:Option Nat} (h:aA w b cs T) (hg:w.grownBy w' row) (hne:row≠some b):aA w' b cs T:=
 (hg.block b h.lt (fun e=>hne e.symm)).trans h
theorem Own.alloc {w:World} (h:Own w B e sz v n xs) (o:Obj):Own (w.alloc o) B e sz v n xs:=
 h.below ((Below.refl _ _).alloc (az _) _)
theorem dI.one (w:World) (v:Value) (T:TypeId):dI (w.alloc (.cells #[v] T)) (some ⟨w.heap.size,0,none⟩) [v]:=by
 intro i u hi;refine⟨_,_,rfl,?_⟩;rw[(aA.new w #[v] T).cell];cases i with
 | zero=>simpa using hi
 | succ i=>simp at hi
theorem dI.new (w:World) (cs:Array Value) (T:TypeId):dI (w.alloc (.cells cs T)) (some ⟨w.heap.size,0,none⟩) cs.toList:=by
 intro i u hi;refine⟨_,_,rfl,?_⟩;rw[(aA.new w cs T).cell,dZ];simpa using hi
theorem Ij (k:IntKind) (n:Int):∀u∈[Value.int k n],u.oneCell' = true:=by
 intro u hu;cases bv.1 hu;rfl
theorem fe {w:World} {a:Act} (hg:o.guard=none) (s x:Operand) (t:TypeId)
 (hop:o.op=Op.call { callee:=Callee.builtin Builtin.append,args:=#[s,x],argTypes:=#[t,t] })
 (B:Nat) (e:TypeId) (z:Value) (size bytes:Nat) (h1:P.underlying t=some (.slice e)) (h2:(P.info? e).map (fun i=>(i.zero,i.size,i.bytes))=some (some z,size,bytes)) (h6:z.cells.size=size) (h7:0<size)
 (v:Value) (n:Nat) (xs:List Value) (hs:a.eval s=v) (hown:Own w B e size v n xs)
 (ao:Option Addr) (m c:Nat) (news:List Value) (hx:a.eval x = .slice ao m c) (hnone:ao=none→c=0) (hmc:m≤c) (hn:news.length=m*size) (hrd:dI w ao news) (h1c:∀u∈news,u.oneCell' = true)
 (b1:n+m≤maxLen) (b2:(n+m)*bytes≤140737488355328) (hB:B≤w.heap.size)
 (hK:∀v' w',Own w' B e size v' (n+m) (xs++news)→w.grownBy w' v.ownBlock→wpList P ops Q rest (a.put o.dst v') w') :
  wpList P ops Q (o::rest) a w:=by
 obtain⟨i,hi,hz,f,h⟩:=info_parts h2;cases ao with
 | none=>
  obtain rfl:=hnone rfl;obtain rfl:m=0:=by omega
  obtain rfl:news=[]:=jW (by simpa using hn);have key:wpList P ops Q rest (a.put o.dst v) w:=by have:=hK v w (by simpa using hown) (Jb _ _);exact this
  rcases hown with ⟨hl,⟨rfl,rfl⟩|⟨g,off,cap,cur,rfl,hBg,hk,hc,hm,hsize,hcell⟩⟩
  ·obtain rfl:xs=[]:=jW (by simpa using hl);exact wpList_append_own_none hg s x t hop B e i size h1 hi _ 0 [] hs (JC w B e size) hx key
  refine wpList_plain hg fun K p => ?_;unfold Oper.wp;simp[execOp,hop,resolve,invoke,builtin,hs,hx,Builtin.append_,run_underlying h1,Go.sizeOf,typeInfo,hi,Builtin.lenOf,Builtin.firstCells,hc,storeCells,Result.andThen];exact p _ _ key
 | some ad=>
  have d:∀j u,news[j]?=some u→w.cell? (ad.add j)=some u:=by intro j u hj;obtain⟨b,off,e',hc⟩:=hrd j u hj;cases e';rw[sO];exact hc
  rcases hown with ⟨hl,⟨rfl,rfl⟩|⟨g,off,cap,cur,rfl,hBg,hk,hc,hm,hsize,hcell⟩⟩
  ·obtain rfl:xs=[]:=jW (by simpa using hl);exact wpList_append_own w hg s x t hop B e i z size bytes h1 hi hz f h h6 h7 _ 0 [] hs (JC w B e size) ad m c news hx hn d h1c b1 b2 hB
    fun v' w' r1 r2 _=>hK v' w' (.of_owns r1) r2
  have q:n*size≤cap*size:=uk _ hc;refine wpList_append_arg w hg s x t hop e i z size bytes h1 hi hz f h h6 h7 g off n cap xs hs hl (fun j u hj=>by rw[hk.cell];exact hcell j u hj) ad m c news hx hn d h1c (fun hr j hj => ?_) b1 b2 (fun hr => ?_) (fun hr v' w' r1 r2 => ?_)
  ·have h3:(n+m)*size≤cap*size:=uk _ hr;rw[uo] at h3;have:off+n*size+j<cur.size:=by omega
   exact⟨by rw[hk.cell];simp[this],hk.free _⟩
  ·have h3:(n+m)*size≤cap*size:=uk _ hr;rw[uo] at h3;refine hK _ _ ⟨by rw[jP,hl,hn,uo],.inr ⟨g,off,cap,_,rfl,hBg,hk.setCells news (off+n*size),hr,hm,by rw[size_putAt];exact hsize,fun j u hj => ?_⟩⟩ (aH _ _ _ _)
   by_cases hjl:j<xs.length
   ·rw[lm hjl] at hj;rw[putAt_out _ _ _ _ (.inl (by omega))];exact hcell j u hj
   rw[kT (by omega)] at hj;have:=putAt_in news cur (off+n*size) (j-xs.length) u (by omega) hj;rwa [show off+n*size+(j-xs.length)=off+j by omega] at this
  have r2' : w.grownBy w' (Value.ownBlock (.slice (some ⟨g,off,none⟩) n cap)):=⟨r2.os,r2.tape,r2.output,r2.size,fun k l _=>r2.block k l (by simp)⟩;exact hK v' w' ((Own.of_owns r1).mono hB) r2'
theorem iF (cur cs:Array Value) (h:cs.size=cur.size):bD cur 0 cs.toList=cs:=by
 apply mr;intro i
 by_cases hi:i<cs.size
 ·have:=putAt_in cs.toList cur 0 i cs[i] (by simp;omega) (by simp[hi]);rw[dZ] at this;rw[this];simp[hi]
 ·rw[lF (by rw[size_putAt];omega),lF (by omega)]
theorem gZ {w:World} {a:Act} (hgd:op.guard=none) (ty:TypeId) (x y:Operand) (ho:op.op = .store ty x y)
 (b o:Nat) (cells:Array Value) (hx:a.eval x = .pointer (some ⟨b,o,none⟩)) (hy:a.eval y = .agg cells) (cur:Array Value) (T:TypeId) (hg:aA w b cur T)
 (hfit:o+cells.size≤cur.size) (hi:(P.info? ty).map (·.size)=some cells.size) (h1:cells.all (·.oneCell')=true)
 (h:∀w',aA w' b (bD cur o cells.toList) T→w.grownBy w' (some b)→wpList P ops Q rest (a.put op.dst undef) w'):wpList P ops Q (op::rest) a w:=by
 refine wpList_store_mid hgd ty x y ho b o cells hx hy (fun j hj=>⟨?_,hg.free _⟩) hi h1 (h _ (hg.setCells _ _) (aH _ _ _ _));rw[hg.cell];simp[show o+j<cur.size by omega]
theorem ay {w:World} {a:Act} (hgd:op.guard=none) (ty:TypeId) (x y:Operand) (ho:op.op = .store ty x y)
 (b:Nat) (cells:Array Value) (hx:a.eval x = .pointer (some ⟨b,0,none⟩)) (hy:a.eval y = .agg cells) (cur:Array Value) (T:TypeId) (hg:aA w b cur T)
 (hfit:cells.size=cur.size) (hi:(P.info? ty).map (·.size)=some cells.size) (h1:cells.all (·.oneCell')=true)
 (h:∀w',aA w' b cells T→w.grownBy w' (some b)→wpList P ops Q rest (a.put op.dst undef) w'):wpList P ops Q (op::rest) a w:=by
 refine gZ hgd ty x y ho b 0 cells hx hy cur T hg (by omega) hi h1 fun w' hb c => ?_;rw[iF cur cells hfit] at hb;exact h w' hb c
theorem ji {α:Type} (f:α→Value) (l:List α):l.flatMap (fun x=>[f x])=l.map f:=by
 induction l with
 | nil=>rfl
 | cons x l ih=>simp[ih]
def mQ (b:UInt8):Value:=.int .u8 b.toNat
def gB (n:Int):Value:=.int .i64 n
theorem LV {w:World} (hs:P.underlying src=some (.slice e)) (he:P.underlying e=some (.int .u8)) {l:List UInt8} (c:Nat) (h:dI w a (l.map mQ)) :
  ∀dst,P.underlying dst=some .string→(convert src dst (.slice a l.length c)).run P w = .ok (.string ⟨l.toArray⟩) w:=by
 intro dst hd
 by_cases hn:l=[]
 ·subst hn;have:=run_convert_bytes_string w src dst e a 0 c hs he hd;simp only[zK];rw[this];cases a with
  | none=>rfl
  | some a=>
   rw[run_bytesToString w a 0 c [] (by simpa using run_loadCells_list (P:=P) w a [] (by simp))];rfl
 obtain⟨b,off,rfl,hc⟩:=h.at (by simpa using List.length_pos_iff.2 hn);rw[run_convert_bytes_arg w src e hs he b off l.length c (l.map fun x=>(x.toNat:Int)) (by simp) (fun i hi=>by rw[hc i (mQ l[i]) (by simp[hi])];simp[mQ,List.getD,hi]) dst hd];congr 2;apply ByteArray.ext;apply Array.ext';rw[strOfNums_data];simp[IX,Function.comp_def]
def fQ (p:Page):Array Value:=#[Value.int .u8 p[0].toNat,Value.int .u8 p[1].toNat,Value.int .u8 p[2].toNat,Value.int .u8 p[3].toNat,Value.int .u8 p[4].toNat,Value.int .u8 p[5].toNat,Value.int .u8 p[6].toNat,Value.int .u8 p[7].toNat]
theorem Ej (p:Page):(fQ p).size=8:=rfl
theorem CG (p:Page) (k:Nat) (h:k<8):(fQ p)[k]?=some (Value.int .u8 p[k].toNat):=by
 match k,h with
 | 0,_=>rfl
 | 1,_=>rfl
 | 2,_=>rfl
 | 3,_=>rfl
 | 4,_=>rfl
 | 5,_=>rfl
 | 6,_=>rfl
 | 7,_=>rfl
 | n+8,h=>omega
theorem Dg (p:Page) (k:Nat) (h:k<8) (b:UInt8):(fQ p).setIfInBounds k (.int .u8 b.toNat)=fQ (p.set k b):=by
 match k,h with
 | 0,_=>simp[fQ]
 | 1,_=>simp[fQ]
 | 2,_=>simp[fQ]
 | 3,_=>simp[fQ]
 | 4,_=>simp[fQ]
 | 5,_=>simp[fQ]
 | 6,_=>simp[fQ]
 | 7,_=>simp[fQ]
 | n+8,h=>omega
theorem HY (p:Page):(fQ p)[0]?=some (Value.int .u8 p[0].toNat)∧(fQ p)[1]?=some (Value.int .u8 p[1].toNat)∧(fQ p)[2]?=some (Value.int .u8 p[2].toNat)∧(fQ p)[3]?=some (Value.int .u8 p[3].toNat)∧(fQ p)[4]?=some (Value.int .u8 p[4].toNat)∧(fQ p)[5]?=some (Value.int .u8 p[5].toNat)∧(fQ p)[6]?=some (Value.int .u8 p[6].toNat)∧(fQ p)[7]?=some (Value.int .u8 p[7].toNat):=
 ⟨rfl,rfl,rfl,rfl,rfl,rfl,rfl,rfl⟩
theorem fT (p:Page):(fQ p).all (·.oneCell')=true:=by simp[fQ,Value.oneCell']
theorem FH (w:World) (e:TypeId) (k:IntKind) (cs:Array Value) (off:Nat) (v:Value) (he:P.underlying e=some (.int k)) (hv:cs[off]?=some v) :
  (part e cs off).run P w = .ok v w:=by
 simp[part,isAgg,run_underlying he,hv]
theorem Ck (w:World) (d:Nat) (t e:TypeId) (ht:P.underlying t=some (.array 8 e)) (he:P.underlying e=some (.int .u8)) (hsz:(P.info? e).map (·.size)=some 1) (p q:Page) :
  (Op.equalIn (d+2) t (.agg (fQ p)) (.agg (fQ q))).run P w = .ok (p==q) w:=by
 cases hq:P.info? e with
 | none=>simp[hq] at hsz
 | some i=>
 have hi:i.size=1:=by simpa[hq] using hsz
 rw[Sa];unfold Op.equalIn;simp only[jX,run_underlying ht,sj,Go.sizeOf,typeInfo,run_program,hq,hi,rR];simp only[Std.Legacy.Range.forIn_eq_forIn_range',List.range',Std.Legacy.Range.size];have g:∀(r:Page) (k:Nat) (h:k<8) (w:World),(part e (fQ r) k).run P w = .ok (.int .u8 r[k].toNat) w:=fun r k h w=>FH w e .u8 _ _ _ he (CG r k h);have c:∀(a b:UInt8) (w:World),(Op.equalIn (d+1) e (.int .u8 a.toNat) (.int .u8 b.toNat)).run P w = .ok (a==b) w:=fun a b w=>by rw[run_equalIn_int w d e .u8 .u8 _ _ he,VK]
 simp[g,c]
 repeat' split
 all_goals simp_all
def Gives (P:Program) (o:Oper) (a:Act) (w:World) (F:Value→World→Prop):Prop:=
 match (execOp a.eval o).run P w with
 | .ok (.value v) w'=>F v w'
 | .ok .skip w'=>F undef w'
 | .ok (.enter f args) w'=>Calls P f args w' fun | .returned v,w''=>F v w'' | _,_=>False
 | _=>False
def lay (L:Nat→Bool) (y:Nat→Value):List Oper→Nat→Array Value→Array Value
 | [],_,t=>t
 | o::r,i,t=>lay L y r (i+1) (match o.dst with | some d=>if L i then t.setIfInBounds d (y i) else t | none=>t)
theorem lay_size (L:Nat→Bool) (y:Nat→Value):∀(l:List Oper) (i:Nat) (t:Array Value),(lay L y l i t).size=t.size
 | [],_,_=>rfl
 | o::r,i,t=>by
  simp only[lay];rw[lay_size L y r];cases o.dst with
  | none=>rfl
  | some d=>simp only[];split<;>simp
theorem iR (L:Nat→Bool) (y:Nat→Value) (s:Nat):∀(l:List Oper) (i:Nat) (t:Array Value),(∀k o,l[k]?=some o→o.dst=some s→L (i+k)=false)→(lay L y l i t)[s]?=t[s]?
 | [],_,_,_=>rfl
 | o::r,i,t,h=>by
  simp only[lay];rw[iR L y s r (i+1) _ (fun k o' hk hd=>by have:=h (k+1) o' (by simpa using hk) hd;rwa [show i+(k+1)=i+1+k by omega] at this)];cases hd:o.dst with
  | none=>rfl
  | some d=>
   simp only[];split
   ·rename_i hL;have hne:d≠s:=by intro e;subst e;have:=h 0 o (by simp) hd;simp[hL] at this
    rw[gu hne]
   ·rfl
theorem lg (L:Nat→Bool) (y:Nat→Value) (s:Nat):∀(l:List Oper) (i:Nat) (t:Array Value) (k:Nat) (o:Oper),l[k]?=some o→o.dst=some s→L (i+k)=true →
  (∀k' o',l[k']?=some o'→o'.dst=some s→k' = k)→s<t.size→(lay L y l i t)[s]?=some (y (i+k))
 | [],_,_,_,_,h,_,_,_,_=>by simp at h
 | o0::r,i,t,0,o,hk,hd,hL,hu,hs=>by simp at hk;subst hk;simp only[lay,hd];rw[iR L y s r (i+1) _ (fun k o' hk' hd'=>by have:=hu (k+1) o' (by simpa using hk') hd'; omega)];rw[iH] at hL;simp[hL,hs]
 | o0::r,i,t,k+1,o,hk,hd,hL,hu,hs=>by
  simp only[lay];have:=lg L y s r (i+1) (match o0.dst with | some d=>if L i then t.setIfInBounds d (y i) else t | none=>t) k o (by simpa using hk) hd (by rwa [show i+1+k=i+(k+1) by omega])
   (fun k' o' hk' hd'=>by have:=hu (k' + 1) o' (by simpa using hk') hd'; omega)
   (by cases o0.dst with
     | none=>exact hs
     | some d=>simp only[];split<;>simpa using hs)
  rw[this];congr 2;omega
theorem rC (L L' : Nat→Bool) (y:Nat→Value):∀(l:List Oper) (i:Nat) (t:Array Value),(∀k,k<l.length→L (i+k)=L' (i+k))→lay L y l i t=lay L' y l i t
 | [],_,_,_=>rfl
 | o::r,i,t,h=>by
  simp only[lay];have h0:L i=L' i:=by simpa using h 0 (by simp)
  rw[h0];exact rC L L' y r (i+1) _ fun k hk=>by have:=h (k+1) (by simp;omega);rwa [show i+(k+1)=i+1+k by omega] at this
def jh (ops:Array Oper):Bool:=
 (List.range ops.size).all fun i=>match ops[i]? with
  | none=>true
  | some o=>
   (match o.op with | .select ..=>false | _=>true) &&
   o.after.toList.all (fun e=>Region.binds .any e&&decide (e.on<i)) &&
   (List.range ops.size).all fun j=>match ops[j]? with
    | none=>true
    | some p=>match p.dst with
     | none=>true
     | some d=>(decide (i=j)||o.dst != some d)&&(!(o.looksAt ops).contains d||o.after.toList.any (fun e=>decide (e.on=j)))
theorem gI (h:jh ops=true) (hi:ops[i]?=some o) :
  (∀cs b,o.op ≠ .select cs b)∧(∀e∈o.after,Region.binds .any e=true∧e.on<i) ∧
  ∀j p d,ops[j]?=some p→p.dst=some d→(i=j∨o.dst≠some d)∧(d∈o.looksAt ops→∃e∈o.after,e.on=j):=by
 have c:i<ops.size:=(iB.1 hi).1;have h1:=dF.1 h i (dG.2 c);simp only[hi,dU] at h1;obtain⟨⟨h2,h3⟩,h4⟩:=h1;refine⟨?_,?_,?_⟩
 ·intro cs b e;simp[e] at h2
 ·intro e he;have:=dF.1 h3 e (mV.2 he);simpa using this
 intro j p d hj hd;have f:j<ops.size:=(iB.1 hj).1;have h5:=dF.1 h4 j (dG.2 f);simp only[hj,hd,dU,uG,decide_eq_true_eq,bne_iff_ne,ne_eq,xE,je] at h5;refine⟨h5.1,fun a => ?_⟩;rcases h5.2 with h6|⟨e,he,h6⟩
 ·have h7:(o.looksAt ops).contains d=true:=List.contains_iff_mem.2 a;rw[h7] at h6;cases h6
 ·exact⟨e,mV.1 he,h6⟩
theorem Bj (hok:jh ops=true) (hi:ops[i]?=some o) (hL:∀e∈o.after,L e.on=true) (t:Nat) (ht:t∈o.looksAt ops) :
  (lay L y ops.toList 0 a0.tmps)[t]?=(lay (fun _=>true) y ops.toList 0 a0.tmps)[t]?:=by
 obtain⟨_,_,hw⟩:=gI hok hi
 by_cases hsz:t<a0.tmps.size
 ·by_cases hex:∃(j:Nat) (p:Oper),ops[j]?=some p∧p.dst=some t
  ·obtain⟨j,p,hj,hd⟩:=hex;obtain⟨e,he,b⟩:=(hw j p t hj hd).2 ht;have hu:∀k' o',ops.toList[k']?=some o'→o'.dst=some t→k' = j:=by
    intro k' o' a c;have:=(gI hok (i:=k') (o:=o') (by simpa using a)).2.2 j p t hj hd;rcases this.1 with h|h
    ·exact h
    ·exact absurd c h
   rw[lg L y t _ 0 _ j p (by simpa using hj) hd (by rw[dZ,←b];exact hL e he) hu hsz,
    lg (fun _=>true) y t _ 0 _ j p (by simpa using hj) hd rfl hu hsz]
  ·rw[iR L y t _ 0 _ (fun k o' hk hd=>absurd ⟨k,o',by simpa using hk,hd⟩ hex),iR (fun _=>true) y t _ 0 _ (fun k o' hk hd=>absurd ⟨k,o',by simpa using hk,hd⟩ hex)]
 ·rw[lF (by rw[lay_size];omega),lF (by rw[lay_size];omega)]
theorem IM (hok:jh ops=true) {listed:Array Bool} (hi:ops[i]?=some o) (hsz:listed.size=ops.size) (v:Value) :
  ({ a0 with tmps:=lay (fun i=>listed.getD i false) y ops.toList 0 a0.tmps }:Act).put o.dst v =
   { a0 with tmps:=lay (fun k=>(listed.setIfInBounds i true).getD k false) (fun k=>if k=i then v else y k) ops.toList 0 a0.tmps }:=by
 have l:i<ops.size:=(iB.1 hi).1;have g:(listed.setIfInBounds i true).getD i false=true:=by simp[bT,show i<listed.size by omega]
 have c:∀k,k≠i→(listed.setIfInBounds i true).getD k false=listed.getD k false:=fun k hk=>by simp[bT,gu (pz hk)]
 have key:(({ a0 with tmps:=lay (fun i=>listed.getD i false) y ops.toList 0 a0.tmps }:Act).put o.dst v).tmps=lay (fun k=>(listed.setIfInBounds i true).getD k false) (fun k=>if k=i then v else y k) ops.toList 0 a0.tmps:=by
  apply mr;intro s
  by_cases hs:s<a0.tmps.size
  ·by_cases hex:∃(j:Nat) (p:Oper),ops[j]?=some p∧p.dst=some s
   ·obtain⟨j,p,hj,hd⟩:=hex;have hu:∀k' o',ops.toList[k']?=some o'→o'.dst=some s→k' = j:=by
     intro k' o' f a;rcases ((gI hok (i:=k') (o:=o') (by simpa using f)).2.2 j p s hj hd).1 with h|h
     ·exact h
     ·exact absurd a h
    by_cases hji:j=i
    ·subst hji;obtain rfl:o=p:=by rw[hi] at hj;exact aJ hj
     rw[lg (fun k=>(listed.setIfInBounds j true).getD k false) _ s _ 0 _ j o (by simpa using hi) hd (by simpa using g) hu hs];simp only[Act.put,hd,dZ,if_true];rw[rH (by rw[lay_size];exact hs)]
    have b:o.dst≠some s:=fun e=>hji ((hu i o (by simpa using hi) e).symm);have e1:(({ a0 with tmps:=lay (fun i=>listed.getD i false) y ops.toList 0 a0.tmps }:Act).put o.dst v).tmps[s]?=(lay (fun i=>listed.getD i false) y ops.toList 0 a0.tmps)[s]?:=by
     cases ho:o.dst with
     | none=>rfl
     | some d=>
      have:d≠s:=fun e=>b (by rw[ho,e]);simp only[Act.put];rw[gu this]
    rw[e1];cases hLj:listed.getD j false with
    | true=>
     rw[lg (fun i=>listed.getD i false) y s _ 0 _ j p (by simpa using hj) hd (by simpa using hLj) hu hs,
      lg (fun k=>(listed.setIfInBounds i true).getD k false) _ s _ 0 _ j p (by simpa using hj) hd (by rw[dZ,c j hji];exact hLj) hu hs]
     simp[hji]
    | false=>
     rw[iR (fun i=>listed.getD i false) y s _ 0 _ (fun k o' hk a=>by rw[dZ,hu k o' hk a];exact hLj),
      iR (fun k=>(listed.setIfInBounds i true).getD k false) _ s _ 0 _ (fun k o' hk a=>by rw[dZ,hu k o' hk a,c j hji];exact hLj)]
   have b:o.dst≠some s:=fun e=>hex ⟨i,o,hi,e⟩;have e1:(({ a0 with tmps:=lay (fun i=>listed.getD i false) y ops.toList 0 a0.tmps }:Act).put o.dst v).tmps[s]?=(lay (fun i=>listed.getD i false) y ops.toList 0 a0.tmps)[s]?:=by
    cases ho:o.dst with
    | none=>rfl
    | some d=>
     have:d≠s:=fun e=>b (by rw[ho,e]);simp only[Act.put];rw[gu this]
   rw[e1,iR _ y s _ 0 _ (fun k o' hk hd=>absurd ⟨k,o',by simpa using hk,hd⟩ hex),iR _ _ s _ 0 _ (fun k o' hk hd=>absurd ⟨k,o',by simpa using hk,hd⟩ hex)]
  have e1:(({ a0 with tmps:=lay (fun i=>listed.getD i false) y ops.toList 0 a0.tmps }:Act).put o.dst v).tmps.size=a0.tmps.size:=by
   cases o.dst with
   | none=>exact lay_size _ _ _ _ _
   | some d=>simp[Act.put,lay_size]
  rw[lF (by rw[e1];omega),lF (by rw[lay_size];omega)]
 cases hdst:o.dst with
 | none=>rw[hdst] at key;simp only[Act.put] at key ⊢; rw[key]
 | some d=>rw[hdst] at key;simp only[Act.put] at key ⊢; rw[key]
theorem rM {a b:Act} {w:World} {F:Value→World→Prop} {K:Act→World→Prop} (hi:ops[i]?=some o)
 (hwant:Region.wanted o (yielded ops a.tmps)=true) (hexec:execOp a.eval o=execOp b.eval o) (h:Gives P o b w F) (hK:∀v w',F v w'→K (a.put o.dst v) w'):wpOp P ops Q i K a w:=by
 unfold wpOp;simp only[hi,hwant,if_true];refine .inl ?_;unfold Oper.wp;rw[hexec];unfold Gives at h;generalize (execOp b.eval o).run P w=r at h ⊢;cases r with
 | ok n w'=>
  cases n with
  | value v=>exact hK _ _ h
  | skip=>exact hK _ _ h
  | enter f args=>
   refine xG h fun e w'' he => ?_;cases e with
   | returned v=>exact hK _ _ he
   | panicked c=>exact he.elim
   | outgrown=>exact he.elim
  | _=>exact h.elim
 | halt x w'=>exact h.elim
def writer (ops:Array Oper) (t:Nat):Option Nat:=(List.range ops.size).find? fun i=>match ops[i]? with | some o=>o.dst==some t | none=>false
def gN (ρ:Operand→Value) (ops:Array Oper) (g:Nat):Option Bool:=
 match (ops[g]?).bind (·.dst) with
 | some d=>match ρ (.tmp d) with | .bool b=>some b | _=>none
 | none=>none
def dP (P:Program) (o:Oper) (ρ:Operand→Value) (w:World) (F:Value→World→Prop):Prop:=
 match (execOp ρ o).run P w with
 | .ok (.value v) w'=>F v w'
 | .ok .skip w'=>F undef w'
 | .ok (.enter f args) w'=>Calls P f args w' fun | .returned v,w''=>F v w'' | _,_=>False
 | _=>False
structure lT where
 r:Value→World→Prop
 st:∀v w w',Below w.heap.size w w'→r v w→r v w'
def ve (V:Value):lT:=⟨fun v _=>v=V,fun _ _ _ _ h=>h⟩
def anyR:lT:=⟨fun _ _=>True,fun _ _ _ _ _=>trivial⟩
def XN (n:Nat) (vs:List Value):lT:=⟨fun v w => ∃a c,v = .slice a n c∧n≤c∧c≤maxLen∧(a=none→c=0)∧dI w a vs,
 fun _ _ _ hb ⟨a,c,h1,h2,h3,h4,h5⟩=>⟨a,c,h1,h2,h3,h4,h5.below hb⟩⟩
def rl (l:List lT) (i:Nat) (v:Value) (w:World):Prop:=(l.getD i anyR).r v w
def aX (C:Nat→Oper→Prop):Nat→List Oper→Prop
 | _,[]=>True
 | k,o::r=>C k o∧aX C (k+1) r
theorem aB {C:Nat→Oper→Prop} :aX C k []:=trivial
theorem ag {C:Nat→Oper→Prop} {r:List Oper} (h:C k o) (hr:aX C (k+1) r):aX C k (o::r):=⟨h,hr⟩
theorem aX.at {C:Nat→Oper→Prop}:∀ {l:List Oper} {k:Nat},aX C k l→∀i o,l[i]?=some o→C (k+i) o
 | [],_,_,_,_,h=>by simp at h
 | o::r,k,h,0,o',hi=>by simp at hi;subst hi;exact h.1
 | o::r,k,h,i+1,o',hi=>by have:=aX.at h.2 i o' (by simpa using hi);rwa [show k+(i+1)=k+1+i by omega]
def nH (P:Program) (ops:Array Oper) (a0:Act) (w0:World) (l:List lT) (i:Nat) (o:Oper):Prop:=
 ∀(ρ:Operand→Value) (y:Nat→Value) (w:World),(∀t j,writer ops t=some j→ρ (.tmp t)=y j)→(∀x,(match x with | .tmp t=>writer ops t=none | _=>True)→ρ x=a0.eval x) →
  Below w0.heap.size w0 w→(∀j,o.after.toList.any (fun e=>e.on==j)=true→rl l j (y j) w) →
  if Region.wanted o (gN ρ ops)=true then dP P o ρ w (fun v w'=>Below w.heap.size w w'∧rl l i v w') else rl l i undef w
def jA (ops:Array Oper) (n:Nat):Bool:=ops.toList.all fun o=>match o.dst with | some d=>decide (d<n) | none=>true
theorem aj {w:World} {l:List lT} (v:Value) (hw:Region.wanted o (gN ρ ops)=true) (hrun:(execOp ρ o).run P w = .ok (.value v) w) (hR:rl l i v w) :
  if Region.wanted o (gN ρ ops)=true then dP P o ρ w (fun v w'=>Below w.heap.size w w'∧rl l i v w') else rl l i undef w:=by
 rw[if_pos hw];unfold dP;rw[hrun];exact⟨Below.refl _ _,hR⟩
theorem EW {w:World} {l:List lT} (hw:Region.wanted o (gN ρ ops)=false) (hR:rl l i undef w) :
  if Region.wanted o (gN ρ ops)=true then dP P o ρ w (fun v w'=>Below w.heap.size w w'∧rl l i v w') else rl l i undef w:=by
 rw[if_neg (by rw[hw];exact Bool.false_ne_true)];exact hR
theorem aL {w:World} {l:List lT} (f:FuncId) (args:Array Value) (hw:Region.wanted o (gN ρ ops)=true) (hrun:(execOp ρ o).run P w = .ok (.enter f args) w)
 (hc:Calls P f args w fun e w' => ∃v,e = .returned v∧Below w.heap.size w w'∧rl l i v w') :
  if Region.wanted o (gN ρ ops)=true then dP P o ρ w (fun v w'=>Below w.heap.size w w'∧rl l i v w') else rl l i undef w:=by
 rw[if_pos hw];unfold dP;rw[hrun];refine hc.mono fun e w' ⟨v,he,h⟩ => ?_;subst he;exact h
theorem ah {y:Nat→Option Bool} (hg:o.guard=none):Region.wanted o y=true:=by simp[Region.wanted,hg]
theorem aT (g d:Nat) (b want:Bool) (hg:o.guard=some (g,want)) (hd:(ops[g]?).bind (·.dst)=some d) (hv:ρ (.tmp d) = .bool b):Region.wanted o (gN ρ ops)=(b==want):=by
 simp only[Region.wanted,hg,gN,hd,hv];cases b<;>cases want<;>rfl
theorem bn {w:World} (ho:o.op = .load ty x) (hx:ρ x = .pointer (some ⟨b,0,none⟩)) (hb:aA w b cs T)
 (hu:P.underlying ty=some d) (hd:(match d with | .struct _ | .array _ _=>true | _=>false)=true) (hi:(P.info? ty).map (·.size)=some cs.size):(execOp ρ o).run P w = .ok (.value (.agg cs)) w:=by
 unfold execOp;simp only[ho,hx,Instr.loadAt,Instr.sureAddr,jX,rR,sj,run_loadVar_row w b T ty cs (0,0) d hb hu hd hi]
theorem run_move {w:World} (ho:o.op = .move x∨o.op = .assign x) (hx:ρ x=v):(execOp ρ o).run P w = .ok (.value v) w:=by
 rcases ho with ho|ho<;>simp[execOp,ho,hx]
theorem aO {w:World} {f:FuncId} {xs:Array Operand} {ats:Array TypeId} {fn:Func} (ho:o.op = .call { callee:=.value (.func f),args:=xs,argTypes:=ats })
 (hρ : ρ (.func f) = .func (.func f) #[] #[]) (hf : P.funcs[f]? = some fn) (hn : (fn.name == "runtime.NumGoroutine") = false) (hb : fn.body.isNone = false) (ha : xs.map ρ = args) : (execOp ρ o).run P w = .ok (.enter f args) w := by
 have e1:execOp ρ o=callFunc f args:=by
  unfold execOp;simp only[ho];have e2:resolve ρ { callee:=.value (.func f),args:=xs,argTypes:=ats } o.type=Sem.pure { target:=.fn (.func f) #[],args:=args }:=by unfold resolve;simp only[hρ,ha];simp[Deferred.ofValue];rfl
  rw[e2];show callFunc f (args++#[])=_;simp
 rw[e1];have a : ¬ fn.name = "runtime.NumGoroutine" := by simpa using hn
 have b : ¬fn.body=none:=fun h=>by simp[h] at hb
 unfold callFunc;simp[hf,a,b]
theorem pU {w:World} {op:BinOp} {y:Operand} (ho:o.op = .binOp op t x y t') (hx:ρ x=vx) (hy:ρ y=vy)
 (hr:(do eqGuard op t x y vx vy;binOp op t vx vy:Sem Value).run P w = .ok v w):(execOp ρ o).run P w = .ok (.value v) w:=by
 unfold execOp;simp only[ho,hx,hy];rw[jX,hr];rfl
theorem zQ {w:World} {a b:TypeId} (ho:o.op = .convert a b x) (hx:ρ x=vx) (hr:(convert a b vx).run P w = .ok v w):(execOp ρ o).run P w = .ok (.value v) w:=by
 unfold execOp;simp only[ho,hx];rw[jX,hr];rfl
theorem qh {w:World} {c y:Operand} {b:Bool} (ho:o.op = .pick c x y) (hc:ρ c = .bool b) (hx:(if b then ρ x else ρ y)=v):(execOp ρ o).run P w = .ok (.value v) w:=by
 unfold execOp;simp only[ho,hc];subst hx;cases b<;>rfl
theorem ym {w:World} {b:Bool} (ho:o.op = .unOp .not t x) (hx:ρ x = .bool b):(execOp ρ o).run P w = .ok (.value (.bool (!b))) w:=by
 unfold execOp;simp only[ho,hx];rfl
theorem KC {w:World} (ho:o.op = .call { callee:=.builtin .len,args:=#[x],argTypes:=#[t] }) (hx:ρ x = .slice a n c) (ht:P.underlying t=some (.slice (P.elem t))):(execOp ρ o).run P w = .ok (.value (.int .i64 n)) w:=by
 unfold execOp;simp only[ho];simp[hx,resolve,invoke,builtin,run_len_slice _ t o.type a n c ht];rfl
theorem FO {w:World} (ho:o.op = .fieldAddr t x f) (hx:ρ x=vx) (hr:(Instr.fieldAt t vx f).run P w = .ok v w):(execOp ρ o).run P w = .ok (.value v) w:=by
 unfold execOp;simp only[ho,hx];rw[jX,hr];rfl
theorem run_load {w:World} (ho:o.op = .load t x) (hx:ρ x=vx) (hr:(Instr.loadAt t vx).run P w = .ok v w):(execOp ρ o).run P w = .ok (.value v) w:=by
 unfold execOp;simp only[ho,hx];rw[jX,hr];rfl
def KV (ops:Array Oper) (a0:Act) (l:List lT) (o:Oper) (t:Nat) (v:Value):Prop:=
 (∃k,writer ops t=some k∧o.after.toList.any (fun e=>e.on==k)=true∧l.getD k anyR=ve v)∨(writer ops t=none∧a0.eval (.tmp t)=v)
theorem XR {l:List lT} {t:Nat} (h1:writer ops t=none) (h2:a0.eval (.tmp t)=v):KV ops a0 l o t v:=.inr ⟨h1,h2⟩
def XH (P:Program) (ops:Array Oper) (a0:Act) (l:List lT) (i:Nat) (o:Oper):Prop:=
 ∀(ρ:Operand→Value) (y:Nat→Value) (w:World),(∀t j,writer ops t=some j→ρ (.tmp t)=y j)→(∀x,(match x with | .tmp t=>writer ops t=none | _=>True)→ρ x=a0.eval x) →
  (∀j,o.after.toList.any (fun e=>e.on==j)=true→rl l j (y j) w)→∃v,(execOp ρ o).run P w = .ok (.value v) w∧rl l i v w
def OkW (ops:Array Oper) (l:List lT) (o:Oper) (b:Bool):Prop:=
 ∀(ρ:Operand→Value) (y:Nat→Value) (w:World),(∀t j,writer ops t=some j→ρ (.tmp t)=y j)→(∀j,o.after.toList.any (fun e=>e.on==j)=true→rl l j (y j) w)→Region.wanted o (gN ρ ops)=b
theorem XM {l:List lT} (hg:o.guard=none):OkW ops l o true:=fun _ _ _ _ _=>ah hg
section
variable {P:Program} {ops:Array Oper} {a0:Act} {w0:World} {l:List lT} {i:Nat} {o:Oper}
theorem KV.at {t:Nat} {v:Value} (h:KV ops a0 l o t v) {ρ:Operand→Value} {y:Nat→Value} {w:World} (hw:∀t j,writer ops t=some j→ρ (.tmp t)=y j) (hn:∀x,(match x with | .tmp t=>writer ops t=none | _=>True)→ρ x=a0.eval x) (hd:∀j,o.after.toList.any (fun e=>e.on==j)=true→rl l j (y j) w):ρ (.tmp t)=v:=by
 rcases h with ⟨k,h1,h2,h3⟩|⟨h1,h2⟩
 ·have h4:=hd k h2;unfold rl at h4;rw[h3] at h4;exact (hw t k h1).trans h4
 ·exact (hn (.tmp t) h1).trans h2
theorem WL {w:World} (hr:l.getD i anyR=ve V) (e:v=V):rl l i v w:=by unfold rl;rw[hr];exact e
theorem XJ {t:Nat} (ho:o.op = .move (.tmp t)) (hx:KV ops a0 l o t V) (hr:l.getD i anyR=ve V):XH P ops a0 l i o:=fun ρ y w hw hn hd=>⟨V,run_move (.inl ho) (hx.at hw hn hd),WL hr rfl⟩
theorem XP (hg:OkW ops l o true) (h:XH P ops a0 l i o):nH P ops a0 w0 l i o:=fun ρ y w hw hn _ hd=>by
 obtain⟨v,h1,h2⟩:=h ρ y w hw hn hd;exact aj v (hg ρ y w hw hd) h1 h2
end
theorem jw {α:Type} (enc:α→List Value) (sz:Nat) (hsz:∀x,(enc x).length=sz) (l:List α) (i:Nat) (h:i<l.length) (j:Nat) (hj:j<sz):(l.flatMap enc)[i*sz+j]?=(enc l[i])[j]?:=by
 have e:(enc l[i])[j]?=some ((enc l[i])[j]'(by rw[hsz];exact hj)):=aI _;rw[e];exact flat_get enc sz hsz l i h j _ e
theorem Ki {α:Type} (enc:α→List Value) (sz:Nat) (hsz:∀x,(enc x).length=sz) (hp:0<sz) (l:List α) (m:Nat) (u:Value) (h:(l.flatMap enc)[m]?=some u) :
  ∃i j,∃hi:i<l.length,m=i*sz+j∧j<sz∧(enc l[i])[j]?=some u:=by
 have hm:m<l.length*sz:=by
  rcases fG m (l.flatMap enc).length with h1|h1
  ·rwa [flat_len enc sz hsz] at h1
  ·rw[dJ h1] at h;cases h
 have hj:=qR m hp;have hd:=Nat.div_add_mod m sz;have hi:m / sz<l.length:=Nat.div_lt_of_lt_mul (by rw[xV];exact hm);refine⟨m / sz,m%sz,hi,by rw[xV];exact hd.symm,hj,?_⟩;rw[←jw enc sz hsz l _ hi _ hj,xV,hd];exact h
theorem Ag {α:Type} (enc:α→List Value) (sz:Nat) (hsz:∀x,(enc x).length=sz) (hp:0<sz) (l:List α) (k:Nat) (hk:k<l.length) (x:α) (off:Nat) (cur:Array Value) (hfit:off+l.length*sz≤cur.size)
 (h:∀j u,(l.flatMap enc)[j]?=some u→cur[off+j]?=some u):∀j u,((l.set k x).flatMap enc)[j]?=some u→(bD cur (off+k*sz) (enc x))[off+j]?=some u:=by
 intro m u hm;obtain⟨i,j,hi,rfl,hj,e⟩:=Ki enc sz hsz hp _ m u hm;have b : i<l.length:=by simpa using hi
 by_cases hik:i=k
 ·subst hik;rw[show off+(i*sz+j)=(off+i*sz)+j from by omega];have h1:(i+1)*sz≤l.length*sz:=uk _ hk;rw[uo] at h1;exact putAt_in _ _ _ _ _ (by rw[hsz];omega) (by simpa using e)
 have a:off+(i*sz+j)<off+k*sz∨off+k*sz+(enc x).length≤off+(i*sz+j):=by
  rw[hsz];rcases wC hik with h1|h1
  ·have:=uk sz h1;rw[Dh] at this;omega
  have:=uk sz h1;rw[Dh] at this;omega
 rw[putAt_out _ _ _ _ a];refine h _ _ ?_;rw[jw enc sz hsz l i b j hj];rw[AU (fun e=>hik e.symm)] at e;exact e
theorem Own.put {α:Type} {enc:α→List Value} (hsz:∀x,(enc x).length=sz) (hp:0<sz) {w:World} {l:List α} (h:Own w B e sz v l.length (l.flatMap enc)) (k:Nat) (hk:k<l.length) :
  ∃g off cap cur,v = .slice (some ⟨g,off,none⟩) l.length cap∧B≤g∧aA w g cur e∧off+k*sz+sz≤cur.size∧(∀j u,(enc l[k])[j]?=some u→w.cell? ⟨g,off+k*sz+j,none⟩=some u) ∧
   ∀w' x,aA w' g (bD cur (off+k*sz) (enc x)) e→Own w' B e sz v l.length ((l.set k x).flatMap enc):=by
 obtain⟨hl,h⟩:=h;rcases h with ⟨_,h0⟩|⟨g,off,cap,cur,rfl,hB,hg,hc,hm,hs,ht⟩
 ·omega
 have h1:(k+1)*sz≤l.length*sz:=uk _ hk;have h2:l.length*sz≤cap*sz:=uk _ hc;rw[uo] at h1;refine⟨g,off,cap,cur,rfl,hB,hg,by omega,fun j u hj => ?_,fun w' x hw=>⟨?_,.inr ⟨g,off,cap,_,rfl,hB,hw,hc,hm,by rw[size_putAt];exact hs,?_⟩⟩⟩
 ·rw[hg.cell,mY];refine ht _ _ ?_;have a : j<sz:=by
   rcases fG j sz with h|h
   ·exact h
   ·rw[dJ (by rw[hsz];exact h)] at hj;cases hj
  rw[jw enc sz hsz l k hk j a];exact hj
 ·rw[flat_len enc sz hsz,bP]
 ·exact Ag enc sz hsz hp l k hk x off cur (by omega) ht
theorem Own.put1 {f:Int→Value} {w:World} (h:Own w B e 1 v l.length (l.map f)) (k:Nat) (hk:k<l.length) :
  ∃g off cap,v = .slice (some ⟨g,off,none⟩) l.length cap∧B≤g∧g<w.heap.size∧w.cell? ⟨g,off+k,none⟩=some (f l[k])∧w.frozen? ⟨g,off+k,none⟩=false ∧
   ∀x,Own (w.setCell ⟨g,off+k,none⟩ (f x)) B e 1 v l.length ((l.set k x).map f):=by
 rw[←ji] at h;obtain⟨g,off,cap,cur,rfl,hB,hg,hs,hc,hw⟩:=h.put (sz:=1) (fun _=>rfl) Nat.one_pos k hk;rw[qI] at hs hc hw;refine⟨g,off,cap,rfl,hB,hg.lt,by simpa using hc 0 _ rfl,hg.free _,fun x => ?_⟩;rw[←ji];exact hw _ x (by simpa[bD] using hg.setCell (off+k) (f x))
theorem Gp {α:Type} (enc:α→List Value) (sz:Nat) (hsz:∀x,(enc x).length=sz) (hp:0<sz) (z:Array Value) (x:α) (hz:z.toList=enc x) (n:Nat):(madeCells z (n*sz)).toList=(List.replicate n x).flatMap enc:=by
 have b:z.size=sz:=by rw[←hsz x,←hz];simp
 apply uf
 ·rw[flat_len enc sz hsz];simp[size_madeCells]
 intro m h1 h2;have hm:m<n*sz:=by simpa[size_madeCells] using h1
 have h3:((List.replicate n x).flatMap enc)[m]?=some ((List.replicate n x).flatMap enc)[m]:=aI h2;obtain⟨i,j,hi,e,hj,he⟩:=Ki enc sz hsz hp _ m _ h3;rw[List.getElem_replicate] at he;have a:m%z.size=j:=by rw[b,e,xV,Nat.mul_add_mod,uH hj]
 simp only[madeCells,Array.toList_map,vQ,Array.toList_range,JA,a];rw[←hz,uF] at he;rw[Array.getElem!_eq_getD,bT,he];rfl
theorem uY (w:World) {a:Act} 
 (hg:o.guard=none) (l c:Operand) (t:TypeId) (hop:o.op=Op.makeSlice t l c)
 {α:Type} (enc:α→List Value) (e:TypeId) (z:Value) (size bytes:Nat) (x:α) (hsz:∀x,(enc x).length=size) (hp:0<size) (h1:P.underlying t=some (.slice e)) (h2:(P.info? e).map (fun i=>(i.zero,i.size,i.bytes))=some (some z,size,bytes)) (hz:z.cells.toList=enc x)
 (kl kc:IntKind) (L C:Int) (n:Nat) (hl:a.eval l = .int kl L) (hc:a.eval c = .int kc C) (hL:L=(n:Int)) (hC:C=(n:Int)) (b2:bytes*n≤281474976710656) (b3:n≤maxLen)
 (hK:∀w',Own w' w.heap.size e size (.slice (some ⟨w.heap.size,0,none⟩) n n) n ((List.replicate n x).flatMap enc)→w.grownBy w' none→wpList P ops Q rest (a.put o.dst (.slice (some ⟨w.heap.size,0,none⟩) n n)) w') :
  wpList P ops Q (o::rest) a w:=by
 obtain⟨i,hi,b,hs,hb⟩:=info_parts h2;refine wpList_make_full w hg l c t hop w.heap.size e i z size h1 hi b hs kl kc L C n hl hc hL hC (by rw[hb];exact b2) b3 (az _) fun w' ho d=>hK w' ?_ d;rw[Gp enc size hsz hp z.cells x hz] at ho;exact Own.of_owns ho
theorem own_ne {w:World} (h:Own w B e sz v n xs) (hk:aA w g cs T) (hT:T≠e):∀g',v.ownBlock=some g'→some g≠some g':=by
 intro g' a he;cases he;rcases h.2 with ⟨rfl,_⟩|⟨g2,off,cap,cur,rfl,_,hb,_⟩
 ·cases a
 cases a;unfold aA at hk hb;rw[hk] at hb;simp only[jg,tO] at hb;exact hT hb.2.1
theorem ak {w:World} (h:Own w B e sz v n xs) (hk:aA w g cs T) (hT:T≠e) (hgr:w.grownBy w' (some g)):Own w' B e sz v n xs:=
 h.grown hgr (own_ne h hk hT)
def pJ (B:Nat) (e:TypeId) (sz n:Nat) (xs:List Value):lT:=⟨fun v w=>Own w B e sz v n xs,fun _ _ _ hb h=>h.below hb⟩
theorem gF {w:World} (m:World→Prop) (h:∀W,Below w.heap.size w W→aA W w.heap.size X TX→W.heap.size=w.heap.size+1→m W):m (w.alloc (.cells X TX)):=
 h _ ((Below.refl _ _).alloc (az _) _) (aA.new _ _ _) (by simp)
theorem qQ {w:World} (m:World→Prop) (h:∀W,Below w.heap.size w W→aA W w.heap.size X TX→aA W (w.heap.size+1) Y TY→W.heap.size=w.heap.size+2→m W) :
  m ((w.alloc (.cells X TX)).alloc (.cells Y TY)):=by
 refine gF (fun W=>m (W.alloc (.cells Y TY))) fun W1 hb hx hs => ?_;refine gF m fun W2 a hy b => ?_;rw[hs] at hy b;exact h W2 (ae hb a) (hx.ext a) hy (by omega)
theorem Nf {w:World} (m:World→Prop) (h:∀W,Below w.heap.size w W→aA W w.heap.size X TX→aA W (w.heap.size+1) Y TY→aA W (w.heap.size+2) Z TZ→W.heap.size=w.heap.size+3→m W) :
  m (((w.alloc (.cells X TX)).alloc (.cells Y TY)).alloc (.cells Z TZ)):=by
 refine qQ (fun W=>m (W.alloc (.cells Z TZ))) fun W1 hb hx hy hs => ?_;refine gF m fun W2 a hz b => ?_;rw[hs] at hz b;exact h W2 (ae hb a) (hx.ext a) (hy.ext a) hz (by omega)
theorem Own.drop {α:Type} {enc:α→List Value} (hsz:∀x,(enc x).length=sz) {w:World} {l:List α} (h:Own w B e sz (.slice (some ⟨g,off,none⟩) l.length cap) l.length (l.flatMap enc)) (k:Nat) (hk:k≤l.length) :
  Own w B e sz (.slice (some ⟨g,off+k*sz,none⟩) (l.drop k).length (cap-k)) (l.drop k).length ((l.drop k).flatMap enc):=by
 obtain⟨hl,h⟩:=h;rcases h with ⟨h1,_⟩|⟨g',off',cap',cur,hv,hB,hg,hc,hm,hs,ht⟩
 ·cases h1
 cases hv;refine⟨flat_len enc sz hsz _,.inr ⟨g,off+k*sz,cap-k,cur,rfl,hB,hg,by simp;omega,by omega,?_,fun j u hj => ?_⟩⟩
 ·have:(cap-k)*sz+k*sz=cap*sz:=by rw[←uo];congr 1;omega
  omega
 rw[mY];refine ht _ _ ?_;have e:l.flatMap enc=(l.take k).flatMap enc++(l.drop k).flatMap enc:=by rw[←fu,qN]
 rw[e,kT (by rw[flat_len enc sz hsz,kK,xQ hk];omega),flat_len enc sz hsz,kK,xQ hk,AO];exact hj
theorem jT {w:World} {l:List lT} (v:Value) (hw:Region.wanted o (gN ρ ops)=true) (hrun:(execOp ρ o).run P w = .ok (.value v) w') (hb:Below w.heap.size w w') (hR:rl l i v w') :
  if Region.wanted o (gN ρ ops)=true then dP P o ρ w (fun v w'=>Below w.heap.size w w'∧rl l i v w') else rl l i undef w:=by
 rw[if_pos hw];unfold dP;rw[hrun];exact⟨hb,hR⟩
theorem ku {w:World} (h:w.grownBy w' none):Below w.heap.size w w':=(Below.refl _ _).grown h (az _) (fun k hk=>by cases hk)
theorem Own.empty (w:World) (T:TypeId) (hB:B≤w.heap.size):Own (w.alloc (.cells #[] T)) B T sz (.slice (some ⟨w.heap.size,0,none⟩) 0 0) 0 []:=
 ⟨by simp,.inr ⟨w.heap.size,0,0,#[],rfl,hB,aA.new _ _ _,az _,aW _,by simp,fun j u h=>by simp at h⟩⟩
def xJ (ops:Array Oper):Nat→Nat→List Nat
 | 0,_=>[]
 | f+1,i=>match ops[i]? with
  | none=>[]
  | some o=>o.after.toList.flatMap fun e=>e.on::xJ ops f e.on
def iD (ops:Array Oper) (m:Nat):Bool:=
 (List.range ops.size).all fun i=>decide (i<m)||(List.range i).all fun j=>(xJ ops ops.size i).contains j
theorem wG {ops:Array Oper} {listed:Array Bool} (hc:∀i o,ops[i]?=some o→listed.getD i false=true→∀e∈o.after,listed.getD e.on false=true):∀(f i:Nat),(∀o,ops[i]?=some o→∀e∈o.after,listed.getD e.on false=true)→∀j∈xJ ops f i,listed.getD j false=true
 | 0,_,_,j,hj=>by simp[xJ] at hj
 | f+1,i,h,j,hj=>by
  unfold xJ at hj;cases ho:ops[i]? with
  | none=>simp[ho] at hj
  | some o=>
   simp only[ho,jY] at hj;obtain⟨e,he,hj⟩:=hj;have he':=mV.1 he;rcases bU.1 hj with rfl|hj
   ·exact h o ho e he'
   ·exact wG hc f e.on (fun o' ho'=>hc e.on o' ho' (h o ho e he')) j hj
theorem vP {m:Nat} (h:iD ops m=true) {listed:Array Bool} (hc:∀i o,ops[i]?=some o→listed.getD i false=true→∀e∈o.after,listed.getD e.on false=true) (hi:ops[i]?=some o) (hL:∀e∈o.after,listed.getD e.on false=true) (hm:m≤i) (j:Nat) (hj:j<i):listed.getD j false=true:=by
 have b:i<ops.size:=(iB.1 hi).1;have h1:=dF.1 h i (dG.2 b);simp only[uG,decide_eq_true_eq] at h1;rcases h1 with h1|h1
 ·omega
 have h2:=dF.1 h1 j (dG.2 hj);refine wG hc ops.size i (fun o' a => ?_) j (by simpa using h2);rw[hi] at a;cases a;exact hL
theorem uJ {m:Nat} (hok:jh ops=true) (ht:iD ops m=true):∀(fuel k:Nat) (listed:Array Bool) (a:Act) (w:World),
  m≤k→k≤ops.size→ops.size-k≤fuel→listed.size=ops.size→(∀i,i<ops.size→listed.getD i false=decide (i<k))→wpList P ops Q (ops.toList.drop k) a w→wpAny P .any ops Q fuel listed a w:=by
 intro fuel
 induction fuel with
 | zero=>
  intro k listed a w p hk hf g hL h;obtain rfl:k=ops.size:=by omega
  refine⟨?_,?_⟩
  ·rw[List.eq_nil_iff_forall_not_mem];intro i hi;obtain⟨h1,o,ho,_⟩:=mem_ready.1 hi;have b:i<ops.size:=(iB.1 ho).1;have:=hL i b;simp[bT,show i<listed.size by omega] at h1 this;rw[h1] at this;simp[b] at this
  rw[qA (by simp)] at h;simpa[wpList] using h
 | succ fuel ih=>
  intro k listed a w p hk hf g hL h;have only:∀i∈Region.ready .any ops listed,i=k:=by
   intro i hi;obtain⟨h1,o,ho,f⟩:=mem_ready.1 hi;have b:i<ops.size:=(iB.1 ho).1;have h2:=hL i b;have h3:listed.getD i false=false:=by simp[bT,show i<listed.size by omega] at h1 ⊢;exact h1
   rw[h3] at h2;have r:k≤i:=by have:=h2.symm;simpa using this
   rcases fG k i with hlt' | hge
   ·exfalso;have h4:listed.getD k false=true:=vP ht (fun i' o' l n e he=>by
     have q : i' < ops.size:=(iB.1 l).1;have h8:=(gI hok l).2.1 e he;rw[hL i' q] at n;have h9:i' < k:=by simpa using n
     rw[hL e.on (by omega)];simp;omega) ho (fun e he=>f e he ((gI hok ho).2.1 e he).1) (by omega) k hlt'
    have h5:=hL k (by omega);rw[h4] at h5;simp at h5
   ·omega
  refine⟨fun c => ?_,fun i hi => ?_⟩
  ·rcases fG k ops.size with b|hge
   ·exfalso;have:k∈Region.ready .any ops listed:=by
     rw[mem_ready];refine⟨?_,ops[k],by simp[b],fun e he hb => ?_⟩
     ·have:=hL k b;simp[bT,show k<listed.size by omega] at this ⊢;exact this
     have h6:=(gI hok (i:=k) (o:=ops[k]) (by simp[b])).2.1 e he;rw[hL e.on (by omega)];simp[h6.2]
    rw[c] at this;cases this
   rw[qA (by simpa using hge)] at h;simpa[wpList] using h
  obtain rfl:=only i hi;obtain⟨_,o,ho,_⟩:=mem_ready.1 hi;have b:i<ops.size:=(iB.1 ho).1;have d:ops.toList.drop i=o::ops.toList.drop (i+1):=by rw[vG (by simpa using b)];congr 1;have:=(iB.1 ho).2;simpa using this
  rw[d] at h;have hw:wpOp P ops Q i (wpList P ops Q (ops.toList.drop (i+1))) a w:=by unfold wpOp;simp only[ho];simpa[wpList] using h
  refine wpOp_mono (fun a' w' h'=>ih (i+1) _ a' w' (by omega) (by omega) (by omega) (by simp[g]) (fun j hj => ?_) h') hw
  by_cases hji:j=i
  ·subst hji;simp[bT,show j<listed.size by omega]
  have:=hL j hj;simp only[bT,gu (pz hji)] at this ⊢;rw[this];congr 1;simp;omega
def Fixed:List lT→Prop
 | []=>True
 | R::l=>(∀v w w',R.r v w→R.r v w')∧Fixed l
theorem fix_nil:Fixed []:=trivial
theorem EA {R:lT} {l:List lT} (h:∀v w w',R.r v w→R.r v w') (hl:Fixed l):Fixed (R::l):=⟨h,hl⟩
theorem Fixed.at:∀ {l:List lT},Fixed l→∀i v w w',rl l i v w→rl l i v w'
 | [],_,_,_,_,_,_=>by unfold rl;simp[anyR]
 | R::l,h,0,v,w,w',hr=>by unfold rl at hr ⊢; simpa using h.1 v w w' (by simpa using hr)
 | R::l,h,i+1,v,w,w',hr=>by have:=Fixed.at h.2 i v w w';unfold rl at hr this ⊢;simp only[List.getD_cons_succ] at hr ⊢;exact this hr
def cB (F:Value→Prop):lT:=⟨fun v _=>F v,fun _ _ _ _ h=>h⟩
def dB (y:Nat→Value) (i:Nat) (v:Value):Nat→Value:=fun k=>if k=i then v else y k
def WO (ops:Array Oper) (m:Nat) (R:Nat→Value→World→Prop) (a0:Act) (J:(Nat→Bool)→(Nat→Value)→World→Prop) (listed:Array Bool) (a:Act) (w:World):Prop:=
 (∀i,m≤i→listed.getD i false=false)∧(∀i o,ops[i]?=some o→listed.getD i false=true→∀e∈o.after,listed.getD e.on false=true)∧∃y:Nat→Value,a = { a0 with tmps:=lay (fun i=>listed.getD i false) y ops.toList 0 a0.tmps }∧J (fun i=>listed.getD i false) y w∧∀i,i<ops.size→listed.getD i false=true→R i (y i) w
theorem BN (m:Nat) (hok:jh ops=true) (ht:iD ops m=true) (hmn:m≤ops.size)
 (R:Nat→Value→World→Prop) (J:(Nat→Bool)→(Nat→Value)→World→Prop) (hJ0:∀y,J (fun _=>false) y w0.drew) (hstab:∀i v w w',R i v w→R i v w')
 (hstep:∀i o,i<m→ops[i]?=some o→∀L y w,L i=false→(∀j,o.after.toList.any (fun e=>e.on==j)=true→L j=true)→J L y w→(∀j,o.after.toList.any (fun e=>e.on==j)=true→R j (y j) w) →
 if Region.wanted o (yielded ops (lay (fun _=>true) y ops.toList 0 a0.tmps))=true then Gives P o { a0 with tmps:=lay (fun _=>true) y ops.toList 0 a0.tmps } w (fun v w'=>J (bY L i) (dB y i v) w'∧R i v w') else J (bY L i) (dB y i undef) w∧R i undef w)
 (hend:∀y w,J (fun i=>decide (i<m)) y w→(∀i,i<m→R i (y i) w)→wpList P ops Q (ops.toList.drop m) { a0 with tmps:=lay (fun i=>decide (i<m)) y ops.toList 0 a0.tmps } w) :
  wpAny P .any ops Q ops.size (Array.replicate ops.size false) a0 w0.drew:=by
 have hG:∀(fuel:Nat) (listed:Array Bool) (a:Act) (w:World),listed.size=ops.size→listed.toList.countP (!·)≤fuel→WO ops m R a0 J listed a w→wpAny P .any ops Q fuel listed a w:=by
  intro fuel
  induction fuel with
  | zero=>
   intro listed a w n hc hA;have hl:∀i,i<ops.size→listed.getD i false=true:=by
    intro i hH;have h0:listed.toList.countP (!·)=0:=by omega
    have:=xL.1 h0 (listed[i]'(by omega)) (by simp);simpa[bT,show i<listed.size by omega] using this
   obtain⟨b,hz,y,ha,hb,hR⟩:=hA;have hC : m=ops.size:=by
    rcases fG m ops.size with h|h
    ·have h1:=hl m h;rw[b m (az _)] at h1;cases h1
    ·omega
   refine uJ (m:=m) hok ht 0 ops.size listed a w (by omega) (az _) (by omega) n (fun i hi=>by rw[hl i hi];simp[hi]) ?_;have hf:(fun i=>listed.getD i false)=fun i=>decide (i<m):=by
    funext i
    by_cases hi:i<m
    ·rw[hl i (by omega)];simp[hi]
    ·rw[b i (by omega)];simp[hi]
   rw[hf] at hb;have:=hend y w hb fun i hi=>hR i (by omega) (hl i (by omega));rw[ha,rC (fun i=>listed.getD i false) (fun i=>decide (i<m)) y ops.toList 0 a0.tmps (fun k hk=>by
    have hI : k<ops.size:=by simpa using hk
    simp only[dZ];rw[hl k hI];simp;omega)]
   rw[hC] at this ⊢;exact this
  | succ fuel ih=>
   intro listed a w n hc hA
   by_cases hfull:∀i,i<m→listed.getD i false=true
   ·obtain⟨b,hz,y,ha,hb,hR⟩:=hA;have hL:∀i,i<ops.size→listed.getD i false=decide (i<m):=by
     intro i hi
     by_cases him:i<m
     ·rw[hfull i him];simp[him]
     ·rw[b i (by omega)];simp[him]
    have hp:ops.size-m≤fuel+1:=by
     have h1:listed.toList.countP (!·)=ops.size-m:=by
      have e:listed.toList=List.replicate m true++List.replicate (ops.size-m) false:=by
       apply lU;intro i
       by_cases hi:i<ops.size
       ·have h2:=hL i hi;rw[uF,Ap (show i<listed.size by omega)];simp only[bT,Ap (show i<listed.size by omega),oL] at h2;rw[h2]
        by_cases him:i<m
        ·rw[lm (by simpa using him)];simp[him]
        rw[kT (by simp;omega)];rw[jN,oK,if_pos (by omega)];simp[him]
       ·rw[dJ (by simp;omega),dJ (by simp;omega)]
      rw[e];simp[Dr,List.countP_replicate]
     omega
    refine uJ (m:=m) hok ht (fuel+1) m listed a w (az _) hmn hp n hL ?_;have hf:(fun i=>listed.getD i false)=fun i=>decide (i<m):=by
     funext i
     by_cases hi:i<m
     ·rw[hfull i hi];simp[hi]
     ·rw[b i (by omega)];simp[hi]
    rw[hf] at hb;have:=hend y w hb fun i hi=>hR i (by omega) (hfull i hi);rw[ha,rC (fun i=>listed.getD i false) (fun i=>decide (i<m)) y ops.toList 0 a0.tmps (fun k hk=>by simp only[dZ];exact hL k (by simpa using hk))];exact this
   have r:Region.ready .any ops listed≠[]:=by
    intro hn;apply hfull;intro i
    induction i using Nat.strongRecOn with
    | ind i ih'=>
     intro him
     by_cases hc' : listed.getD i false=true
     ·exact hc'
     exfalso;have hi:i<ops.size:=by omega
     have hr:i∈Region.ready .any ops listed:=by
      rw[mem_ready];refine⟨?_,ops[i],by simp[hi],fun e he _ => ?_⟩
      ·simpa[bT,show i<listed.size by omega] using hc'
      have:=(gI hok (i:=i) (o:=ops[i]) (by simp[hi])).2.1 e he;exact ih' e.on this.2 (by omega)
     rw[hn] at hr;cases hr
   refine⟨fun h=>absurd h r,fun i hi => ?_⟩;obtain⟨h1,o,ho,hy⟩:=mem_ready.1 hi;have hH:i<ops.size:=(iB.1 ho).1;obtain⟨hB,d,_⟩:=gI hok ho;have hL:∀e∈o.after,listed.getD e.on false=true:=fun e he=>hy e he (d e he).1;have him:i<m:=by
    rcases fG i m with h|h
    ·exact h
    exfalso;apply hfull;intro j hj;exact vP ht hA.2.1 ho hL h j (by omega)
   obtain⟨b,hz,y,ha,hb,hR⟩:=hA;have z:∀v w',J (bY (fun i=>listed.getD i false) i) (dB y i v) w'→R i v w'→wpAny P .any ops Q fuel (listed.setIfInBounds i true) (a.put o.dst v) w':=by
    intro v w' hF hv;have hf:bY (fun i=>listed.getD i false) i=fun k=>(listed.setIfInBounds i true).getD k false:=by
     funext k;unfold bY
     by_cases hki:k=i
     ·subst hki;simp[bT,show k<listed.size by omega]
     rw[if_neg hki];simp[bT,gu (pz hki)]
    rw[hf] at hF;refine ih _ _ _ (by simp[n]) ?_ ⟨fun k hk => ?_,fun k o' u hk e he => ?_,fun k=>if k=i then v else y k,?_,hF,?_⟩
    ·have hD:i<listed.toList.length:=by simp;omega
     have c:listed.toList[i]=false:=by simpa[bT,show i<listed.size by omega] using h1
     have:=List.countP_set (p:=(!·)) (l:=listed.toList) (i:=i) (a:=true) hD;rw[c] at this;have hK:0<listed.toList.countP (!·):=xM.2 ⟨listed.toList[i],dM hD,by rw[c];rfl⟩;simp only[CJ];simp only[Bool.not_false,Bool.not_true,if_true,vK,if_false] at this;omega
    ·have:=b k hk;simp only[bT,gu (show i≠k by omega)] at this ⊢;exact this
    ·have up:∀q,listed.getD q false=true→(listed.setIfInBounds i true).getD q false=true:=by
      intro q hq
      by_cases hqi:q=i
      ·subst hqi;simp[bT,show q<listed.size by omega]
      ·simpa[bT,gu (pz hqi)] using hq
     apply up
     by_cases hki:k=i
     ·subst hki;rw[ho] at u;cases u;exact hL e he
     ·exact hz k o' u (by simpa[bT,gu (pz hki)] using hk) e he
    ·rw[ha,IM hok ho n v]
    intro k hk hJ
    by_cases hki:k=i
    ·subst hki;simpa using hv
    have:listed.getD k false=true:=by simpa[bT,gu (pz hki)] using hJ
    simp only[hki,if_false];exact hstab _ _ _ _ (hR k hk this)
   have hh:∀t∈o.looksAt ops,a.tmps[t]?=(lay (fun _=>true) y ops.toList 0 a0.tmps)[t]?:=fun t ht=>by rw[ha];exact Bj hok ho hL t ht
   have hu:execOp a.eval o=execOp ({ a0 with tmps:=lay (fun _=>true) y ops.toList 0 a0.tmps }:Act).eval o:=by
    refine execOp_congr o hB fun x hx => ?_;cases x with
    | tmp t=>
     have:=hh t (oV _ (Jn.2 ⟨.tmp t,by simpa using hx,rfl⟩));simp[Act.eval,this]
    | _=>rfl
   have f:Region.wanted o (yielded ops a.tmps)=Region.wanted o (yielded ops (lay (fun _=>true) y ops.toList 0 a0.tmps)):=by
    unfold Region.wanted;cases hg:o.guard with
    | none=>rfl
    | some gw=>
     obtain⟨g,want⟩:=gw;have:yielded ops a.tmps g=yielded ops (lay (fun _=>true) y ops.toList 0 a0.tmps) g:=by
      unfold yielded;cases hd:(ops[g]?).bind (·.dst) with
      | none=>rfl
      | some t=>
       have:=hh t (uB _ (by simp[hg,hd]));simp[this]
     simp only[this]
   have hs:=hstep i o him ho (fun i=>listed.getD i false) y w (by simpa[bT,show i<listed.size by omega] using h1) (fun j hj=>by
    obtain⟨e,he,hw⟩:=je.1 hj;have hm : e.on=j:=by simpa using hw
    subst hm;exact hL e (mV.1 he)) hb (fun j hj=>by
    obtain⟨e,he,hw⟩:=je.1 hj;have hm : e.on=j:=by simpa using hw
    subst hm;have hE:=mV.1 he;exact hR e.on (by have:=(d e hE).2;omega) (hL e hE))
   by_cases hwt:Region.wanted o (yielded ops (lay (fun _=>true) y ops.toList 0 a0.tmps))=true
   ·rw[if_pos hwt] at hs;exact rM ho (by rw[f];exact hwt) hu hs fun v w' h=>z v w' h.1 h.2
   rw[if_neg hwt] at hs;unfold wpOp;simp only[ho];rw[if_neg (by rw[f];exact hwt)];exact z undef w hs.1 hs.2
 refine hG ops.size _ _ _ (by simp) ?_ ⟨fun i _ => ?_,fun i o' u hi => ?_,fun _=>undef,?_,?_,?_⟩
 ·simpa using tH (p:=(!·)) (l:=List.replicate ops.size false)
 ·simp[bT,qV];split<;>rfl
 ·exfalso;have:i<ops.size:=(iB.1 u).1;simp[bT,this] at hi
 ·have e:lay (fun i=>(Array.replicate ops.size false).getD i false) (fun _=>undef) ops.toList 0 a0.tmps=a0.tmps:=by apply mr;intro s;exact iR _ _ s _ 0 _ fun k o' hk hd=>by simp[bT,qV];split<;>rfl
  rw[e]
 ·have e:(fun i=>(Array.replicate ops.size false).getD i false)=fun _=>false:=by funext i;simp[bT,qV];split<;>rfl
  rw[e];exact hJ0 _
 intro i hi hL;simp[bT,hi] at hL
def lC (P:Program) (ops:Array Oper) (a0:Act) (J:(Nat→Bool)→(Nat→Value)→World→Prop) (l:List lT) (i:Nat) (o:Oper):Prop:=
 ∀(ρ:Operand→Value) (y:Nat→Value) (w:World) (L:Nat→Bool),(∀t j,writer ops t=some j→ρ (.tmp t)=y j)→(∀x,(match x with | .tmp t=>writer ops t=none | _=>True)→ρ x=a0.eval x) →
  L i=false→(∀j,o.after.toList.any (fun e=>e.on==j)=true→L j=true)→J L y w→(∀j,o.after.toList.any (fun e=>e.on==j)=true→rl l j (y j) w) →
  if Region.wanted o (gN ρ ops)=true then dP P o ρ w (fun v w'=>J (bY L i) (dB y i v) w'∧rl l i v w') else J (bY L i) (dB y i undef) w∧rl l i undef w
theorem Br (m:Nat) (l:List lT) (J:(Nat→Bool)→(Nat→Value)→World→Prop) (hst:∀L y w w',Below w.heap.size w w'→J L y w→J L y w') (hJ0:∀y,J (fun _=>false) y w0) (hfix:Fixed l) (hok:jh ops=true) (ht:iD ops m=true) (hmn:m≤ops.size)
 (n:Nat) (hn:a0.tmps.size=n) (hsz:jA ops n=true)
 (hstep:aX (lC P ops a0 J l) 0 (ops.toList.take m))
 (hend:∀y w,J (fun i=>decide (i<m)) y w→(∀i,i<m→rl l i (y i) w)→wpList P ops Q (ops.toList.drop m) { a0 with tmps:=lay (fun i=>decide (i<m)) y ops.toList 0 a0.tmps } w) :
  wpAny P .any ops Q ops.size (Array.replicate ops.size false) a0 w0.drew:=by
 refine BN m hok ht hmn (rl l) J (fun y=>hst _ y w0 w0.drew ⟨rfl,rfl,rfl,az _,fun _ _=>rfl⟩ (hJ0 y)) (fun i v w w' h=>hfix.at i v w w' h) (fun i o u hi L y w hc hf hb hd => ?_) hend;have f:∀t j,writer ops t=some j→({ a0 with tmps:=lay (fun _=>true) y ops.toList 0 a0.tmps }:Act).eval (.tmp t)=y j:=by
  intro t j hw;unfold writer at hw;have h1:=qM hw;have h2:=dG.1 (uu hw);cases ho:ops[j]? with
  | none=>simp[ho] at h1
  | some p=>
   have a : p.dst=some t:=by simpa[ho] using h1
   have s:t<a0.tmps.size:=by have:=dF.1 hsz p (mV.2 (zH ho));rw[hn];simpa[a] using this
   have hu:∀k' o',ops.toList[k']?=some o'→o'.dst=some t→k' = j:=by
    intro k' o' b ha;rcases ((gI hok (i:=k') (o:=o') (by simpa using b)).2.2 j p t ho a).1 with h|h
    ·exact h
    ·exact absurd ha h
   have:=lg (fun _=>true) y t ops.toList 0 a0.tmps j p (by simpa using ho) a rfl hu s;simp[Act.eval,this]
 have r:∀x,(match x with | .tmp t=>writer ops t=none | _=>True)→({ a0 with tmps:=lay (fun _=>true) y ops.toList 0 a0.tmps }:Act).eval x=a0.eval x:=by
  intro x hx;cases x with
  | tmp t=>
   have:(lay (fun _=>true) y ops.toList 0 a0.tmps)[t]?=a0.tmps[t]?:=by
    refine iR _ y t _ 0 _ fun k o' hk a => ?_;exfalso;simp only[writer] at hx;have b : ops[k]?=some o':=by simpa using hk
    have e:k<ops.size:=(iB.1 b).1;have:=pK.1 hx k (dG.2 e);simp[b,a] at this
   simp[Act.eval,this]
  | _=>rfl
 have c:Region.wanted o (yielded ops (lay (fun _=>true) y ops.toList 0 a0.tmps))=Region.wanted o (gN ({ a0 with tmps:=lay (fun _=>true) y ops.toList 0 a0.tmps }:Act).eval ops):=by
  congr 1;funext g;unfold yielded gN;cases (ops[g]?).bind (·.dst) with
  | none=>rfl
  | some d=>
   simp only[zI,Act.eval,bT];generalize (lay (fun _=>true) y ops.toList 0 a0.tmps)[d]?=q;cases q with
   | none=>rfl
   | some v=>cases v<;>rfl
 have z : (ops.toList.take m)[i]?=some o:=by rw[lY,if_pos u];simpa using hi
 have:=aX.at hstep i o z _ y w L f r (by rw[dZ];exact hc) hf hb hd;rw[dZ] at this;rw[c];exact this
theorem Ty (m:Nat) (l:List lT) (J:(Nat→Bool)→(Nat→Value)→World→Prop) (hst:∀L y w w',Below w.heap.size w w'→J L y w→J L y w') (hJ0:∀y,J (fun _=>false) y w0) (hfix:Fixed l) (hm:P.follows .mixedOrders=true) (hok:jh ops=true) (ht:iD ops m=true) (hmn:m≤ops.size)
 (n:Nat) (hn:a0.tmps.size=n) (hsz:jA ops n=true)
 (hstep:aX (lC P ops a0 J l) 0 (ops.toList.take m))
 (hend:∀y w,J (fun i=>decide (i<m)) y w→(∀i,i<m→rl l i (y i) w)→wpList P ops Q (ops.toList.drop m) { a0 with tmps:=lay (fun i=>decide (i<m)) y ops.toList 0 a0.tmps } w) :
  (Code.region id ops true).wp P Q a0 w0:=
 wp_region_any hm (Br m l J hst hJ0 hfix hok ht hmn n hn hsz hstep hend)
theorem ed {w:World} {l:List lT} {J:(Nat→Bool)→(Nat→Value)→World→Prop} (hst:∀L y w w',Below w.heap.size w w'→J L y w→J L y w')
 (hpure:∀v w,J L y w→J (bY L i) (dB y i v) w) (hJ:J L y w)
 (h:if Region.wanted o (gN ρ ops)=true then dP P o ρ w (fun v w'=>Below w.heap.size w w'∧rl l i v w') else rl l i undef w) :
  if Region.wanted o (gN ρ ops)=true then dP P o ρ w (fun v w'=>J (bY L i) (dB y i v) w'∧rl l i v w') else J (bY L i) (dB y i undef) w∧rl l i undef w:=by
 split at h
 ·rename_i hw;rw[if_pos hw];unfold dP at h ⊢;split at h
  ·exact⟨hpure _ _ (hst _ _ _ _ h.1 hJ),h.2⟩
  ·exact⟨hpure _ _ (hst _ _ _ _ h.1 hJ),h.2⟩
  ·refine xG h fun e w'' he => ?_;cases e with
   | returned v=>exact⟨hpure _ _ (hst _ _ _ _ he.1 hJ),he.2⟩
   | panicked c=>exact he.elim
   | outgrown=>exact he.elim
  ·exact h.elim
 rename_i hw;rw[if_neg hw];exact⟨hpure _ _ hJ,h⟩
theorem ig {w:World} {l:List lT} {J:(Nat→Bool)→(Nat→Value)→World→Prop} (f:FuncId) (args:Array Value) (hw:Region.wanted o (gN ρ ops)=true) (hrun:(execOp ρ o).run P w = .ok (.enter f args) w)
 (hc:Calls P f args w fun e w' => ∃v,e = .returned v∧J (bY L i) (dB y i v) w'∧rl l i v w') :
  if Region.wanted o (gN ρ ops)=true then dP P o ρ w (fun v w'=>J (bY L i) (dB y i v) w'∧rl l i v w') else J (bY L i) (dB y i undef) w∧rl l i undef w:=by
 rw[if_pos hw];unfold dP;rw[hrun];refine hc.mono fun e w' ⟨v,he,h⟩ => ?_;subst he;exact h
theorem eu {w:World} {l:List lT} {J:(Nat→Bool)→(Nat→Value)→World→Prop} (v:Value) (hw:Region.wanted o (gN ρ ops)=true) (hrun:(execOp ρ o).run P w = .ok (.value v) w')
 (hJ:J (bY L i) (dB y i v) w') (hR:rl l i v w') :
  if Region.wanted o (gN ρ ops)=true then dP P o ρ w (fun v w'=>J (bY L i) (dB y i v) w'∧rl l i v w') else J (bY L i) (dB y i undef) w∧rl l i undef w:=by
 rw[if_pos hw];unfold dP;rw[hrun];exact⟨hJ,hR⟩
theorem El {a:Act} {w:World} {F G:Value→World→Prop} (h:Gives P o a w F) (hi:∀v w',F v w'→G v w'):Gives P o a w G:=by
 unfold Gives at h ⊢;generalize (execOp a.eval o).run P w=r at h;cases r with
 | ok n w'=>
  cases n<;>first
   | exact hi _ _ h
   | exact xG h fun e w'' he=>by cases e<;>first | exact hi _ _ he | exact he
   | exact h
 | halt x w'=>exact h
theorem Oe {R R' : Nat→Value→Prop} (h:∀k,L k=true→R k (y k)) (hv:R' i v) (hs:∀k v,R k v→R' k v) (k:Nat) (hk:bY L i k=true):R' k (dB y i v k):=by
 unfold bY at hk;unfold dB
 by_cases e:k=i
 ·rw[if_pos e,e];exact hv
 rw[if_neg e] at hk ⊢;exact hs _ _ (h k hk)
theorem CE (m:Nat) (hm:P.follows .mixedOrders=true) (hok:jh ops=true) (ht:iD ops m=true) (hmn:m≤ops.size)
 (R:Nat→Value→World→Prop) (hstab:∀i v w w',Below w.heap.size w w'→R i v w→R i v w')
 (hstep:∀i o,i<m→ops[i]?=some o→∀y w,Below w0.heap.size w0 w→(∀j,o.after.toList.any (fun e=>e.on==j)=true→R j (y j) w) →
 if Region.wanted o (yielded ops (lay (fun _=>true) y ops.toList 0 a0.tmps))=true then Gives P o { a0 with tmps:=lay (fun _=>true) y ops.toList 0 a0.tmps } w (fun v w'=>Below w.heap.size w w'∧R i v w') else R i undef w)
 (hend:∀y w,Below w0.heap.size w0 w→(∀i,i<m→R i (y i) w)→wpList P ops Q (ops.toList.drop m) { a0 with tmps:=lay (fun i=>decide (i<m)) y ops.toList 0 a0.tmps } w) :
  (Code.region id ops true).wp P Q a0 w0:=
 wp_region_any hm (BN m hok ht hmn (fun _ _ _=>True) (fun L y w=>Below w0.heap.size w0 w∧∀i,L i=true→R i (y i) w) (fun y=>⟨⟨rfl,rfl,rfl,az _,fun _ _=>rfl⟩,fun i h=>(by cases h)⟩) (fun _ _ _ _ _=>trivial) (fun i o hi ho L y w hL hd hJ _=>by
  have h:=hstep i o hi ho y w hJ.1 (fun j hj=>hJ.2 j (hd j hj));have hup:∀v w',Below w.heap.size w w'→R i v w'→Below w0.heap.size w0 w'∧∀k,bY L i k=true→R k (dB y i v k) w':=fun v w' hb hr=>⟨ae hJ.1 hb,fun k hk=>Oe hJ.2 hr (fun k v h=>hstab k v _ _ hb h) k hk⟩;split at h
  ·rename_i hw;rw[if_pos hw];exact El h fun v w' hh=>⟨hup v w' hh.1 hh.2,trivial⟩
  rename_i hw;rw[if_neg hw];exact⟨hup undef w (Below.refl _ _) h,trivial⟩) (fun y w hJ _=>hend y w hJ.1 fun i hi=>hJ.2 i (decide_eq_true hi)))
theorem Rm (m:Nat) (l:List lT) (hm:P.follows .mixedOrders=true) (hok:jh ops=true) (ht:iD ops m=true) (hmn:m≤ops.size)
 (n:Nat) (hn:a0.tmps.size=n) (hsz:jA ops n=true)
 (hstep:aX (nH P ops a0 w0 l) 0 (ops.toList.take m))
 (hend:∀y w,Below w0.heap.size w0 w→(∀i,i<m→rl l i (y i) w)→wpList P ops Q (ops.toList.drop m) { a0 with tmps:=lay (fun i=>decide (i<m)) y ops.toList 0 a0.tmps } w) :
  (Code.region id ops true).wp P Q a0 w0:=by
 refine CE m hm hok ht hmn (rl l) (fun i v w w' hb h=>(l.getD i anyR).st v w w' hb h) (fun i o u hi y w hb hd => ?_) hend;have f:∀t j,writer ops t=some j→({ a0 with tmps:=lay (fun _=>true) y ops.toList 0 a0.tmps }:Act).eval (.tmp t)=y j:=by
  intro t j hw;unfold writer at hw;have h1:=qM hw;have h2:=dG.1 (uu hw);cases ho:ops[j]? with
  | none=>simp[ho] at h1
  | some p=>
   have a : p.dst=some t:=by simpa[ho] using h1
   have s:t<a0.tmps.size:=by have:=dF.1 hsz p (mV.2 (zH ho));rw[hn];simpa[a] using this
   have hu:∀k' o',ops.toList[k']?=some o'→o'.dst=some t→k' = j:=by
    intro k' o' b ha;rcases ((gI hok (i:=k') (o:=o') (by simpa using b)).2.2 j p t ho a).1 with h|h
    ·exact h
    ·exact absurd ha h
   have:=lg (fun _=>true) y t ops.toList 0 a0.tmps j p (by simpa using ho) a rfl hu s;simp[Act.eval,this]
 have r:∀x,(match x with | .tmp t=>writer ops t=none | _=>True)→({ a0 with tmps:=lay (fun _=>true) y ops.toList 0 a0.tmps }:Act).eval x=a0.eval x:=by
  intro x hx;cases x with
  | tmp t=>
   have:(lay (fun _=>true) y ops.toList 0 a0.tmps)[t]?=a0.tmps[t]?:=by
    refine iR _ y t _ 0 _ fun k o' hk a => ?_;exfalso;simp only[writer] at hx;have b : ops[k]?=some o':=by simpa using hk
    have e:k<ops.size:=(iB.1 b).1;have:=pK.1 hx k (dG.2 e);simp[b,a] at this
   simp[Act.eval,this]
  | _=>rfl
 have c:Region.wanted o (yielded ops (lay (fun _=>true) y ops.toList 0 a0.tmps))=Region.wanted o (gN ({ a0 with tmps:=lay (fun _=>true) y ops.toList 0 a0.tmps }:Act).eval ops):=by
  congr 1;funext g;unfold yielded gN;cases (ops[g]?).bind (·.dst) with
  | none=>rfl
  | some d=>
   simp only[zI,Act.eval,bT];generalize (lay (fun _=>true) y ops.toList 0 a0.tmps)[d]?=q;cases q with
   | none=>rfl
   | some v=>cases v<;>rfl
 have z : (ops.toList.take m)[i]?=some o:=by rw[lY,if_pos u];simpa using hi
 have:=aX.at hstep i o z _ y w f r hb hd;rw[dZ] at this;rw[c];exact this
inductive RV where
 | v (V:Value)
 | r (i:Nat) (R:lT)
def RV.R:RV→lT
 | .v V=>ve V
 | .r _ R=>R
def rvs:List RV→List lT
 | []=>[]
 | a::l=>a.R::rvs l
def rvN:RV:=.r 0 anyR
theorem rvs_at:∀(l:List RV) (i:Nat),(rvs l).getD i anyR=(l.getD i rvN).R
 | [],_=>rfl
 | _::_,0=>rfl
 | _::l,i+1=>by have:=rvs_at l i;simpa[rvs] using this
theorem KA {l:List RV} {w:World} (hr:l.getD i rvN = .v V) (e:v=V):rl (rvs l) i v w:=by
 unfold rl;rw[rvs_at,hr];exact e
def rvK:List RV→Nat→Option Value
 | .v V::_,0=>some V
 | _::l,k+1=>rvK l k
 | _,_=>none
theorem rvK_at:∀ {l:List RV} {k:Nat} {V:Value},rvK l k=some V→l.getD k rvN = .v V
 | .v V::_,0,_,h=>by cases h;rfl
 | .v _::l,k+1,_,h=>by simpa using rvK_at (l:=l) (k:=k) h
 | .r _ _::l,k+1,_,h=>by simpa using rvK_at (l:=l) (k:=k) h
 | .r _ _::_,0,_,h=>by cases h
 | [],0,_,h=>by cases h
 | [],_+1,_,h=>by cases h
def kt (ops:Array Oper) (a0:Act) (l:List RV) (o:Oper) (t:Nat):Option Value:=
 match writer ops t with
 | some k=>cond (o.after.toList.any fun e=>e.on==k) (rvK l k) none
 | none=>a0.tmps.toList[t]?
def kx (ops:Array Oper) (a0:Act) (l:List RV) (o:Oper):Operand→Option Value
 | .tmp t=>kt ops a0 l o t
 | .const v=>some v
 | .func f=>some (.func (.func f) #[] #[])
 | .global g=>some (.pointer (some ⟨g,0,none⟩))
def kg (ops:Array Oper) (a0:Act) (l:List RV) (o:Oper):Option Bool:=
 match o.guard with
 | none=>some true
 | some (g,want)=>match (ops[g]?).bind (·.dst) with
  | none=>none
  | some d=>match kt ops a0 l o d with
   | some (.bool b)=>some (b==want)
   | some (.tuple _)=>some false
   | _=>none
def Xw (ops:Array Oper) (a0:Act) (l:List RV) (o:Oper):Option Value:=
 match o.op with
 | .move x=>kx ops a0 l o x
 | .assign x=>kx ops a0 l o x
 | .nilCheck x=>match kx ops a0 l o x with
  | some (.pointer (some a))=>some (.pointer (some a))
  | _=>none
 | .unOp .not _ x=>match kx ops a0 l o x with
  | some (.bool true)=>some (.bool false)
  | some (.bool false)=>some (.bool true)
  | _=>none
 | .pick c x y=>match kx ops a0 l o c with
  | some (.bool true)=>kx ops a0 l o x
  | some (.bool false)=>kx ops a0 l o y
  | _=>none
 | _=>none
def ks (ops:Array Oper) (a0:Act) (l:List RV) (o:Oper):Option Value:=
 match kg ops a0 l o with
 | some true=>Xw ops a0 l o
 | some false=>some undef
 | none=>none
section
variable {P:Program} {ops:Array Oper} {a0:Act} {w0:World} {l:List RV} {i:Nat} {o:Oper}
def Kn (ops:Array Oper) (a0:Act) (l:List RV) (o:Oper) (ρ:Operand→Value) (y:Nat→Value) (w:World):Prop:=
 (∀t j,writer ops t=some j→ρ (.tmp t)=y j)∧(∀x,(match x with | .tmp t=>writer ops t=none | _=>True)→ρ x=a0.eval x)∧∀j,o.after.toList.any (fun e=>e.on==j)=true→rl (rvs l) j (y j) w
theorem VG {t:Nat} (h:kt ops a0 l o t=some v) {w:World} (hk:Kn ops a0 l o ρ y w):ρ (.tmp t)=v:=by
 unfold kt at h;cases hw:writer ops t with
 | none=>
  rw[hw] at h;have h' : a0.tmps.toList[t]?=some v:=h;rw[hk.2.1 (.tmp t) hw];simp only[uF] at h';simp[Act.eval,h']
 | some k=>
  rw[hw] at h;have h' : cond (o.after.toList.any fun e=>e.on==k) (rvK l k) none=some v:=h;cases ha:o.after.toList.any fun e=>e.on==k with
  | false=>rw[ha] at h'; cases h'
  | true=>
   rw[ha] at h';have h1:=hk.2.2 k ha;unfold rl at h1;rw[rvs_at,rvK_at h'] at h1;exact (hk.1 t k hw).trans h1
theorem aC (h:kx ops a0 l o x=some v) {w:World} (hk:Kn ops a0 l o ρ y w):ρ x=v:=by
 cases x with
 | tmp t=>exact VG h hk
 | const c=>rw[hk.2.1 (.const c) trivial];cases h;rfl
 | func f=>rw[hk.2.1 (.func f) trivial];cases h;rfl
 | global g=>rw[hk.2.1 (.global g) trivial];cases h;rfl
theorem Ei {b:Bool} (h:kg ops a0 l o=some b) {w:World} (hk:Kn ops a0 l o ρ y w):Region.wanted o (gN ρ ops)=b:=by
 unfold kg at h;unfold Region.wanted;cases hg:o.guard with
 | none=>rw[hg] at h;cases h;rfl
 | some q=>
  obtain⟨g,want⟩:=q;rw[hg] at h;simp only at h;cases hd:(ops[g]?).bind (·.dst) with
  | none=>rw[hd] at h;cases h
  | some d=>
   rw[hd] at h;simp only at h;cases hv:kt ops a0 l o d with
   | none=>rw[hv] at h;cases h
   | some v=>
    rw[hv] at h;have e:=VG hv hk;unfold gN;simp only[hd,e];cases v with
    | bool c=>cases h;cases c<;>cases want<;>rfl
    | tuple c=>cases h;rfl
    | _=>cases h
def zA (P:Program) (ops:Array Oper) (a0:Act) (l:List RV) (i:Nat) (o:Oper):Prop:=
 ∀(ρ:Operand→Value) (y:Nat→Value) (w:World),Kn ops a0 l o ρ y w→(Region.wanted o (gN ρ ops)=false∧rl (rvs l) i undef w)∨(Region.wanted o (gN ρ ops)=true∧∃v,(execOp ρ o).run P w = .ok (.value v) w∧rl (rvs l) i v w)
theorem zA.run (hg:kg ops a0 l o=some true) (hr:l.getD i rvN = .v V) (h:∀ρ y w,Kn ops a0 l o ρ y w→(execOp ρ o).run P w = .ok (.value V) w):zA P ops a0 l i o:=fun ρ y w hk => .inr ⟨Ei hg hk,V,h ρ y w hk,KA hr rfl⟩
theorem Vy (h:ks ops a0 l o=some V) (hr:l.getD i rvN = .v V):zA P ops a0 l i o:=by
 unfold ks at h;cases hg:kg ops a0 l o with
 | none=>rw[hg] at h;cases h
 | some b=>
  rw[hg] at h;cases b with
  | false=>
   cases h;exact fun ρ y w hk => .inl ⟨Ei hg hk,KA hr rfl⟩
  | true=>
   have h' : Xw ops a0 l o=some V:=h;refine zA.run hg hr fun ρ y w hk => ?_;unfold Xw at h';split at h'
   ·rename_i x ho;exact run_move (.inl ho) (aC h' hk)
   ·rename_i x ho;exact run_move (.inr ho) (aC h' hk)
   ·rename_i x ho;split at h'
    ·rename_i a hx;cases h';have e:=aC hx hk;simp[execOp,go_sem,ho,e]
    ·cases h'
   ·rename_i t x ho;split at h'
    ·rename_i hx;cases h'; exact ym ho (aC hx hk)
    ·rename_i hx;cases h'; exact ym ho (aC hx hk)
    ·cases h'
   ·rename_i c x y' ho;split at h'
    ·rename_i hc;exact qh ho (aC hc hk) (aC h' hk)
    ·rename_i hc;exact qh ho (aC hc hk) (aC h' hk)
    ·cases h'
   ·cases h'
theorem zA.asked (h:zA P ops a0 l i o):nH P ops a0 w0 (rvs l) i o:=fun ρ y w hw hn _ hd=>by
 rcases h ρ y w ⟨hw,hn,hd⟩ with ⟨h1,h2⟩|⟨h1,v,h2,h3⟩
 ·exact EW h1 h2
 ·exact aj v h1 h2 h3
theorem zA.askedQ {J:(Nat→Bool)→(Nat→Value)→World→Prop} (hst:∀L y w w',Below w.heap.size w w'→J L y w→J L y w') (hp:∀L y v w,(∀j,o.after.toList.any (fun e=>e.on==j)=true→L j=true)→J L y w→J (bY L i) (dB y i v) w) (h:zA P ops a0 l i o):lC P ops a0 J (rvs l) i o:=fun ρ y w L hw hn _ hLd hJ hd=>by
 rcases h ρ y w ⟨hw,hn,hd⟩ with ⟨h1,h2⟩|⟨h1,v,h2,h3⟩
 ·exact ed hst (fun v w=>hp L y v w hLd) hJ (EW h1 h2)
 ·exact ed hst (fun v w=>hp L y v w hLd) hJ (aj v h1 h2 h3)
variable {C:Nat→Oper→Prop} {r:List Oper}
theorem Rk (hC:zA P ops a0 l i o→C i o) (h:(ks ops a0 l o).map RV.v=some (l.getD i rvN)) (hl:aX C (i+1) r):aX C i (o::r):=⟨hC (by
 cases hk:ks ops a0 l o with
 | none=>rw[hk] at h;cases h
 | some V=>
  rw[hk] at h;exact Vy hk (aJ h).symm),hl⟩
theorem Gk (h:(ks ops a0 l o).map RV.v=some (l.getD i rvN)) (hl:aX (nH P ops a0 w0 (rvs l)) (i+1) r):aX (nH P ops a0 w0 (rvs l)) i (o::r):=Rk zA.asked h hl
def Xh (ops:Array Oper) (a0:Act) (l:List RV) (o:Oper):Option (TypeId × Value × Nat):=
 match kg ops a0 l o with
 | some true=>match o.op with
  | .fieldAddr t x f=>(kx ops a0 l o x).map fun v=>(t,v,f)
  | _=>none
 | _=>none
theorem MN (hC:zA P ops a0 l i o→C i o) (b k:Nat) (h:Xh ops a0 l o=some (t,v,f)) (hr:l.getD i rvN = .v (.pointer (some ⟨b,k,none⟩))) (hl:aX C (i+1) r) (hf:∀w,(Instr.fieldAt t v f).run P w = .ok (.pointer (some ⟨b,k,none⟩)) w:=by intro _;kernel_rfl):aX C i (o::r):=by
 refine⟨hC ?_,hl⟩;unfold Xh at h;split at h
 ·rename_i hg;split at h
  ·rename_i t' x f' ho;cases hx:kx ops a0 l o x with
   | none=>rw[hx] at h;cases h
   | some v'=>
    rw[hx] at h;cases h;exact zA.run hg hr fun ρ y w hk=>FO ho (aC hx hk) (hf w)
  ·cases h
 ·cases h
theorem Gf (b k:Nat) (h:Xh ops a0 l o=some (t,v,f)) (hr:l.getD i rvN = .v (.pointer (some ⟨b,k,none⟩))) (hl:aX (nH P ops a0 w0 (rvs l)) (i+1) r) (hf:∀w,(Instr.fieldAt t v f).run P w = .ok (.pointer (some ⟨b,k,none⟩)) w:=by intro _;kernel_rfl):aX (nH P ops a0 w0 (rvs l)) i (o::r):=MN zA.asked b k h hr hl hf
theorem Ta (hC:zA P ops a0 l i o→C i o) (hg:kg ops a0 l o=some true) (ho:o.op = .call { callee:=.builtin .len,args:=#[x],argTypes:=#[t] }) (hx:kx ops a0 l o x=some (.slice a n c)) (hr:l.getD i rvN = .v (.int .i64 n)) (hl:aX C (i+1) r) (ht:P.underlying t=some (.slice (P.elem t)):=by rfl):aX C i (o::r):=
 ⟨hC (zA.run hg hr fun ρ y w hk=>KC ho (aC hx hk) ht),hl⟩
theorem Gn (hg:kg ops a0 l o=some true) (ho:o.op = .call { callee:=.builtin .len,args:=#[x],argTypes:=#[t] }) (hx:kx ops a0 l o x=some (.slice a n c)) (hr:l.getD i rvN = .v (.int .i64 n)) (hl:aX (nH P ops a0 w0 (rvs l)) (i+1) r) (ht:P.underlying t=some (.slice (P.elem t)):=by rfl):aX (nH P ops a0 w0 (rvs l)) i (o::r):=Ta zA.asked hg ho hx hr hl ht
theorem TB (hC:zA P ops a0 l i o→C i o) (V:Value) {op:BinOp} {y:Operand} (hr:∀w,(do eqGuard op t x y vx vy;binOp op t vx vy:Sem Value).run P w = .ok V w) (hg:kg ops a0 l o=some true) (ho:o.op = .binOp op t x y t') (hx:kx ops a0 l o x=some vx) (hy:kx ops a0 l o y=some vy) (hv:l.getD i rvN = .v V) (hl:aX C (i+1) r):aX C i (o::r):=
 ⟨hC (zA.run hg hv fun ρ y w hk=>pU ho (aC hx hk) (aC hy hk) (hr w)),hl⟩
theorem Gb (V:Value) {op:BinOp} {y:Operand} (hr:∀w,(do eqGuard op t x y vx vy;binOp op t vx vy:Sem Value).run P w = .ok V w) (hg:kg ops a0 l o=some true) (ho:o.op = .binOp op t x y t') (hx:kx ops a0 l o x=some vx) (hy:kx ops a0 l o y=some vy) (hv:l.getD i rvN = .v V) (hl:aX (nH P ops a0 w0 (rvs l)) (i+1) r):aX (nH P ops a0 w0 (rvs l)) i (o::r):=TB zA.asked V hr hg ho hx hy hv hl
theorem Wi (hC:zA P ops a0 l i o→C i o) (V:Value) (h:∀ρ y w,Kn ops a0 l o ρ y w→(execOp ρ o).run P w = .ok (.value V) w) (hg:kg ops a0 l o=some true) (hv:l.getD i rvN = .v V) (hl:aX C (i+1) r):aX C i (o::r):=⟨hC (zA.run hg hv h),hl⟩
section
variable {J:(Nat→Bool)→(Nat→Value)→World→Prop}
theorem Qk (hst:∀L y w w',Below w.heap.size w w'→J L y w→J L y w') (h:(ks ops a0 l o).map RV.v=some (l.getD i rvN)) (hl:aX (lC P ops a0 J (rvs l)) (i+1) r) (hp:∀L y v w,(∀j,o.after.toList.any (fun e=>e.on==j)=true→L j=true)→J L y w→J (bY L i) (dB y i v) w:=by intro _ _ _ _ _ h;exact h):aX (lC P ops a0 J (rvs l)) i (o::r):=Rk (zA.askedQ hst hp) h hl
theorem Qf (hst:∀L y w w',Below w.heap.size w w'→J L y w→J L y w') (b k:Nat) (h:Xh ops a0 l o=some (t,v,f)) (hr:l.getD i rvN = .v (.pointer (some ⟨b,k,none⟩))) (hl:aX (lC P ops a0 J (rvs l)) (i+1) r) (hp:∀L y v w,(∀j,o.after.toList.any (fun e=>e.on==j)=true→L j=true)→J L y w→J (bY L i) (dB y i v) w:=by intro _ _ _ _ _ h;exact h) (hf:∀w,(Instr.fieldAt t v f).run P w = .ok (.pointer (some ⟨b,k,none⟩)) w:=by intro _;kernel_rfl):aX (lC P ops a0 J (rvs l)) i (o::r):=MN (zA.askedQ hst hp) b k h hr hl hf
theorem Qn (hst:∀L y w w',Below w.heap.size w w'→J L y w→J L y w') (hg:kg ops a0 l o=some true) (ho:o.op = .call { callee:=.builtin .len,args:=#[x],argTypes:=#[t] }) (hx:kx ops a0 l o x=some (.slice a n c)) (hr:l.getD i rvN = .v (.int .i64 n)) (hl:aX (lC P ops a0 J (rvs l)) (i+1) r) (hp:∀L y v w,(∀j,o.after.toList.any (fun e=>e.on==j)=true→L j=true)→J L y w→J (bY L i) (dB y i v) w:=by intro _ _ _ _ _ h;exact h) (ht:P.underlying t=some (.slice (P.elem t)):=by rfl):aX (lC P ops a0 J (rvs l)) i (o::r):=Ta (zA.askedQ hst hp) hg ho hx hr hl ht
theorem Qb (hst:∀L y w w',Below w.heap.size w w'→J L y w→J L y w') (V:Value) {op:BinOp} {y:Operand} (hr:∀w,(do eqGuard op t x y vx vy;binOp op t vx vy:Sem Value).run P w = .ok V w) (hg:kg ops a0 l o=some true) (ho:o.op = .binOp op t x y t') (hx:kx ops a0 l o x=some vx) (hy:kx ops a0 l o y=some vy) (hv:l.getD i rvN = .v V) (hl:aX (lC P ops a0 J (rvs l)) (i+1) r) (hp:∀L y v w,(∀j,o.after.toList.any (fun e=>e.on==j)=true→L j=true)→J L y w→J (bY L i) (dB y i v) w:=by intro _ _ _ _ _ h;exact h):aX (lC P ops a0 J (rvs l)) i (o::r):=TB (zA.askedQ hst hp) V hr hg ho hx hy hv hl
theorem Qr (hst:∀L y w w',Below w.heap.size w w'→J L y w→J L y w') (V:Value) (h:∀ρ y w,Kn ops a0 l o ρ y w→(execOp ρ o).run P w = .ok (.value V) w) (hg:kg ops a0 l o=some true) (hv:l.getD i rvN = .v V) (hl:aX (lC P ops a0 J (rvs l)) (i+1) r) (hp:∀L y v w,(∀j,o.after.toList.any (fun e=>e.on==j)=true→L j=true)→J L y w→J (bY L i) (dB y i v) w:=by intro _ _ _ _ _ h;exact h):aX (lC P ops a0 J (rvs l)) i (o::r):=Wi (zA.askedQ hst hp) V h hg hv hl
end
theorem Gr (V:Value) (h:∀ρ y w,Below w0.heap.size w0 w→Kn ops a0 l o ρ y w→(execOp ρ o).run P w = .ok (.value V) w) (hg:kg ops a0 l o=some true) (hv:l.getD i rvN = .v V) (hl:aX (nH P ops a0 w0 (rvs l)) (i+1) r):aX (nH P ops a0 w0 (rvs l)) i (o::r):=
 ⟨fun ρ y w hw hn hb hd=>aj V (Ei hg ⟨hw,hn,hd⟩) (h ρ y w hb ⟨hw,hn,hd⟩) (KA hv rfl),hl⟩
def WP (P:Program) (t:TypeId):Bool:=match P.underlying t with
 | some (.struct _)=>false
 | some (.array _ _)=>false
 | some _=>true
 | none=>false
theorem rP {w:World} (hs:WP P t=true) (hc:w.cell? ⟨b,k,none⟩=some V):(loadVar t ⟨b,k,none⟩).run P w = .ok V w:=by
 unfold WP at hs;cases hu:P.underlying t with
 | none=>rw[hu] at hs;cases hs
 | some d=>
  have ha:(isAgg t).run P w = .ok false w:=by unfold isAgg;rw[jX,run_underlying hu w];rw[hu] at hs;cases d<;>first | rfl | cases hs
  simp[loadVar,jX,ha,go_sem,hc]
theorem Gl (hb:aA w0 b cs T) (hv:cs.toList[k]?=some V) (hg:kg ops a0 l o=some true) (ho:o.op = .load t x) (hx:kx ops a0 l o x=some (.pointer (some ⟨b,k,none⟩))) (hr:l.getD i rvN = .v V) (hl:aX (nH P ops a0 w0 (rvs l)) (i+1) r) (hs:WP P t=true:=by kernel_rfl):aX (nH P ops a0 w0 (rvs l)) i (o::r):=by
 refine⟨fun ρ y w hw hn hB hd=>aj V (Ei hg ⟨hw,hn,hd⟩) ?_ (KA hr rfl),hl⟩;have e:ρ x=_:=aC hx ⟨hw,hn,hd⟩;have hc:w.cell? ⟨b,k,none⟩=some V:=by rw[(hb.ext hB).cell,←uF];exact hv
 refine run_load ho e ?_;simp only[Instr.loadAt,Instr.sureAddr,jX,rR,sj,rP hs hc]
theorem Gc (V:Value) (hc:∀w,Below w0.heap.size w0 w→w.cell? ⟨b,k,none⟩=some V) (hg:kg ops a0 l o=some true) (ho:o.op = .load t x) (hx:kx ops a0 l o x=some (.pointer (some ⟨b,k,none⟩))) (hr:l.getD i rvN = .v V) (hl:aX (nH P ops a0 w0 (rvs l)) (i+1) r) (hs:WP P t=true:=by kernel_rfl):aX (nH P ops a0 w0 (rvs l)) i (o::r):=by
 refine⟨fun ρ y w hw hn hB hd=>aj V (Ei hg ⟨hw,hn,hd⟩) ?_ (KA hr rfl),hl⟩;have e:ρ x=_:=aC hx ⟨hw,hn,hd⟩;refine run_load ho e ?_;simp only[Instr.loadAt,Instr.sureAddr,jX,rR,sj,rP hs (hc w hB)]
def revC:List Value→List Value→(List Value→Option (List Value))→Option (List Value)
 | [],r,k=>k r
 | a::l,r,k=>revC l (a::r) k
def ptC:List Value→Nat→Value→List Value→(List Value→Option (List Value))→Option (List Value)
 | [],_,_,acc,k=>revC acc [] k
 | _::l,0,v,acc,k=>revC acc (v::l) k
 | a::l,n+1,v,acc,k=>ptC l n v (a::acc) k
def yE (y:Nat→Value):List RV→List Oper→List Value→Option (List Value)
 | .v V::l,o::r,t=>match o.dst with
  | some d=>ptC t d V [] fun t'=>yE y l r t'
  | none=>yE y l r t
 | .r j _::l,o::r,t=>match o.dst with
  | some d=>ptC t d (y j) [] fun t'=>yE y l r t'
  | none=>yE y l r t
 | _,_,t=>some t
def idxOk:List RV→Nat→Bool
 | [],_=>true
 | .v _::l,i=>idxOk l (i+1)
 | .r j _::l,i=>(j==i)&&idxOk l (i+1)
theorem Ju (k:List Value→Option (List Value)):∀(a r:List Value),revC a r k=k (a.reverse++r)
 | [],r=>rfl
 | x::a,r=>by rw[revC,Ju k a];simp
theorem MX (k:List Value→Option (List Value)):∀(t:List Value) (n:Nat) (v:Value) (acc:List Value),ptC t n v acc k=k (acc.reverse++t.set n v)
 | [],n,v,acc=>by simp[ptC,Ju]
 | x::t,0,v,acc=>by simp[ptC,Ju]
 | x::t,n+1,v,acc=>by rw[ptC,MX k t];simp
theorem vT {y:Nat→Value} {w:World} {m:Nat}:∀(l:List RV) (r:List Oper) (k:Nat) (t:Array Value),idxOk l k=true→m=k+l.length→l.length≤r.length→(∀i,i<l.length→rl (rvs l) i (y (k+i)) w) →
  yE y l r t.toList=some (lay (fun i=>decide (i<m)) y r k t).toList
 | [],r,k,t,_,hm,_,_=>by
  have:yE y [] r t.toList=some t.toList:=by cases r<;>rfl
  rw[this];simp only[zK,iH] at hm;subst hm;have c:∀(r:List Oper) (j:Nat) (t:Array Value),m≤j→lay (fun i=>decide (i<m)) y r j t=t:=by
   intro r
   induction r with
   | nil=>intro j t _;rfl
   | cons o r ih=>
    intro j t hj;simp only[lay];rw[ih (j+1) _ (by omega)];cases o.dst with
    | none=>rfl
    | some d=>simp[show ¬j<m by omega]
  rw[c r m t (az _)]
 | a::l,[],k,t,_,_,hle,_=>by simp at hle
 | a::l,o::r,k,t,hi,hm,hle,hR=>by
  have hk:k<m:=by simp at hm;omega
  have b:∀i,i<l.length→rl (rvs l) i (y (k+1+i)) w:=fun i hl=>by have:=hR (i+1) (by simp;omega);rw[show k+1+i=k+(i+1) by omega];unfold rl at this ⊢;simpa[rvs] using this
  cases a with
  | v V=>
   have h0:y k=V:=by have:=hR 0 (by simp);exact this
   have ih:=fun t'=>vT (m:=m) (w:=w) l r (k+1) t' hi (by rw[pG] at hm;omega) (by simpa using hle) b;cases ho:o.dst with
   | none=>simp only[lay,ho,hk,decide_true,if_true,yE,ih]
   | some d=>
    simp only[lay,ho,hk,decide_true,if_true,yE,MX,h0,List.reverse_nil,Ii];rw[←ih (t.setIfInBounds d V),CJ]
  | r j R=>
   have hj:j=k∧idxOk l (k+1)=true:=by have h' : ((j==k)&&idxOk l (k+1))=true:=hi;simpa using h'
   obtain⟨rfl,e⟩:=hj;have ih:=fun t'=>vT (m:=m) (w:=w) l r (j+1) t' e (by rw[pG] at hm;omega) (by simpa using hle) b;cases ho:o.dst with
   | none=>simp only[lay,ho,hk,decide_true,if_true,yE,ih]
   | some d=>
    simp only[lay,ho,hk,decide_true,if_true,yE,MX,List.reverse_nil,Ii];rw[←ih (t.setIfInBounds d (y j)),CJ]
end
theorem aK {df:List Deferred} (m:Nat) (l:List RV)
 (hstep:aX (nH P ops ⟨t0,df⟩ w0 (rvs l)) 0 (ops.toList.take m)) {tm:(Nat→Value)→List Value} (hf:∀y,yE y l ops.toList t0.toList=some (tm y)) (hd:wr (ops.toList.drop m)=some rest)
 (hend:∀y w,Below w0.heap.size w0 w→(∀i,i<m→rl (rvs l) i (y i) w)→wpList P ops Q rest ⟨(tm y).toArray,df⟩ w)
 (hm:P.follows .mixedOrders=true:=by kernel_rfl) (hok:jh ops=true:=by kernel_rfl) (ht:iD ops m=true:=by kernel_rfl) (hmn:m≤ops.size:=by decide) (hll:l.length=m:=by rfl) (hix:idxOk l 0=true:=by kernel_rfl)
 (hsz:jA ops t0.size=true:=by kernel_rfl):(Code.region id ops true).wp P Q ⟨t0,df⟩ w0:=by
 refine Rm m (rvs l) hm hok ht hmn _ rfl hsz hstep fun y w hb hR => ?_;have h:=hend y w hb hR;rw[Lr hd];have e:=vT (m:=m) (y:=y) (w:=w) l ops.toList 0 t0 hix (by omega) (by simp;omega) fun i hi=>by rw[dZ];exact hR i (by omega)
 show wpList P ops Q rest ⟨lay (fun i=>decide (i<m)) y ops.toList 0 t0,df⟩ w;have e2:=aJ (e.symm.trans (hf y));have e3:lay (fun i=>decide (i<m)) y ops.toList 0 t0=(tm y).toArray:=by rw[←e2]
 rw[e3];exact h
theorem ib {df:List Deferred} (m:Nat) (l:List RV) (J:(Nat→Bool)→(Nat→Value)→World→Prop) (hst:∀L y w w',Below w.heap.size w w'→J L y w→J L y w') (hJ0:∀y,J (fun _=>false) y w0)
 (hstep:aX (lC P ops ⟨t0,df⟩ J (rvs l)) 0 (ops.toList.take m)) {tm:(Nat→Value)→List Value} (hf:∀y,yE y l ops.toList t0.toList=some (tm y)) (hd:wr (ops.toList.drop m)=some rest)
 (hend:∀y w,J (fun i=>decide (i<m)) y w→(∀i,i<m→rl (rvs l) i (y i) w)→wpList P ops Q rest ⟨(tm y).toArray,df⟩ w)
 (hfix:Fixed (rvs l):=by repeat (first | exact fix_nil | refine EA (fun _ _ _ h=>h) ?_))
 (hm:P.follows .mixedOrders=true:=by kernel_rfl) (hok:jh ops=true:=by kernel_rfl) (ht:iD ops m=true:=by kernel_rfl) (hmn:m≤ops.size:=by decide) (hll:l.length=m:=by rfl) (hix:idxOk l 0=true:=by kernel_rfl)
 (hsz:jA ops t0.size=true:=by kernel_rfl):(Code.region id ops true).wp P Q ⟨t0,df⟩ w0:=by
 refine Ty m (rvs l) J hst hJ0 hfix hm hok ht hmn _ rfl hsz hstep fun y w hb hR => ?_;have h:=hend y w hb hR;rw[Lr hd];have e:=vT (m:=m) (y:=y) (w:=w) l ops.toList 0 t0 hix (by omega) (by simp;omega) fun i hi=>by rw[dZ];exact hR i (by omega)
 show wpList P ops Q rest ⟨lay (fun i=>decide (i<m)) y ops.toList 0 t0,df⟩ w;have e2:=aJ (e.symm.trans (hf y));have e3:lay (fun i=>decide (i<m)) y ops.toList 0 t0=(tm y).toArray:=by rw[←e2]
 rw[e3];exact h
theorem QV {w:World} {m:Nat} {l:List RV} (hix:idxOk l 0=true) (hll:l.length=m) (hmn:m≤ops.size) (hR:∀i,i<m→rl (rvs l) i (y i) w) (hf:yE y l ops.toList t0.toList=some tm):lay (fun i=>decide (i<m)) y ops.toList 0 t0=tm.toArray:=by
 have e:=vT (m:=m) (y:=y) (w:=w) l ops.toList 0 t0 hix (by omega) (by simp;omega) fun i hi=>by rw[dZ];exact hR i (by omega)
 have e2:=aJ (e.symm.trans hf);rw[←e2]
def Lp {α:Type} (P:Program) (t:TypeId) (enc:α→List Value) (good:α→Prop):Prop:=
 ∀(H:Type) (e:TypeId × Value→H) (w:World) (base:Nat) (spare:Nat→Bool) (held:Bool) (fuel:Nat) (cs:List Value) (x:DataW H × List MemPlace),
  DataW.trod e P w base spare held fuel t cs=some x→∃a:α,cs=enc a∧good a
theorem Bh (ht:P.underlying t=some (.int .i64)):Lp P t (fun n:Int=>[.int .i64 n]) i64:=by
 intro H e w base spare a fuel cs x h;obtain⟨n,rfl,_,hn⟩:=DataW.trod_int ht h;exact⟨n,rfl,bounds_i64 hn⟩
theorem SK (ht:P.underlying t=some (.int .u8)):Lp P t (fun b:UInt8=>[mQ b]) (fun _=>True):=by
 intro H e w base spare a fuel cs x h;obtain⟨n,rfl,_,hn⟩:=DataW.trod_int ht h;have hb:=bounds_u8 hn;refine⟨UInt8.ofNat n.toNat,?_,trivial⟩;simp[mQ];omega
theorem open_list {α:Type} {enc:α→List Value} {good:α→Prop} (ht:P.underlying t=some (.slice e)) (ho:Lp P e enc good) (hsz:∀x,(enc x).length=P.cellsOf e)
 {H:Type} {en:TypeId × Value→H} {w:World} {cs:List Value} {x:DataW H × List MemPlace} (h:DataW.trod en P w base spare held fuel t cs=some x) :
  ∃(a:Option Addr) (l:List α) (c:Nat),cs=[.slice a l.length c]∧l.length≤c∧c≤maxLen∧(a=none→c=0)∧dI w a (l.flatMap enc)∧∀y∈l,good y:=by
 rcases DataW.trod_slice ht h with ⟨rfl,_⟩|⟨a,len,cap,elems,rest,n,_,rfl,_,_,hle,hcap,hlen,hel,_⟩
 ·exact⟨none,[],0,rfl,az _,aW _,fun _=>rfl,dI.nil,fun y hy=>(by cases hy)⟩
 have key:∀i,i<len→∃y:α,good y∧∀j u,(enc y)[j]?=some u→w.cell? ((a.add (i*P.cellsOf e)).add j)=some u:=by
  intro i hi;have h1:=hel i hi;rw[aI (by omega)] at h1;obtain⟨cs',h2,h3⟩:=Option.bind_eq_some_iff.1 h1;obtain⟨y,rfl,hy⟩:=ho H en w base spare held n cs' _ h3;refine⟨y,hy,fun j u hj => ?_⟩;unfold World.cells? at h2;split at h2
  ·have h4:=mapM_some_get h2 j j (by
    have:j<(enc y).length:=by
     rcases fG j (enc y).length with h|h
     ·exact h
     ·simp[dJ h] at hj
    rw[hsz y] at this;simp[this])
   rw[hj] at h4;exact h4
  ·cases h2
 have m:=Cg good (fun i y => ∀j u,(enc y)[j]?=some u→w.cell? ((a.add (i*P.cellsOf e)).add j)=some u) len key;obtain⟨l,rfl,hg,hr⟩:=m;refine⟨some a,l,cap,rfl,hle,hcap,fun e=>(Option.some_ne_none _ e).elim,?_,hg⟩
 by_cases hz:P.cellsOf e=0
 ·have:l.flatMap enc=[]:=by apply jW;rw[flat_len enc (P.cellsOf e) hsz l,hz,Nat.mul_zero]
  rw[this];exact dI.nil
 intro k u hk;have p:k<l.length*P.cellsOf e:=by
  rw[←flat_len enc (P.cellsOf e) hsz l];rcases fG k (l.flatMap enc).length with h|h
  ·exact h
  ·simp[dJ h] at hk
 have hi:k / P.cellsOf e<l.length:=Nat.div_lt_of_lt_mul (by rw[xV];exact p);have hj:k%P.cellsOf e<P.cellsOf e:=qR _ (Nat.pos_of_ne_zero hz);have f : k / P.cellsOf e*P.cellsOf e+k%P.cellsOf e=k:=by rw[xV];exact Nat.div_add_mod k _
 have g:(enc l[k / P.cellsOf e])[k%P.cellsOf e]?=some u:=by
  have h5:k%P.cellsOf e<(enc l[k / P.cellsOf e]).length:=by rw[hsz];exact hj
  have h6:=flat_get enc (P.cellsOf e) hsz l _ hi _ _ (aI h5);rw[f,hk] at h6;rw[aI h5,h6]
 have h7:=hr _ hi _ u g;have d:a.spot=none:=by
  by_cases h8:a.spot=none
  ·exact h8
  exfalso
  -- the first cell of all is read at the address itself
  have h0:0<l.length:=Nat.lt_of_le_of_lt (aW _) hi;have h9:0<(enc l[0]).length:=by rw[hsz];omega
  have o:=hr 0 h0 0 _ (aI h9);simp only[xO,Addr.add,if_true] at o;have:=World.cell?_spot o;exact h8 this
 obtain⟨b,off,sp⟩:=a;subst d;refine⟨b,off,rfl,?_⟩;rw[sO,sO,mY,f] at h7;exact h7
open Go.ChangeShapes Go.WideShapes Go.ChangeAt
def zb {α:Type} (P:Program) (t:TypeId) (enc:α→List Value) (good:World→α→Prop):Prop:=
 ∀(H:Type) (e:TypeId × Value→H) (w:World) (base:Nat) (spare:Nat→Bool) (held:Bool) (fuel:Nat) (cs:List Value) (x:DataW H × List MemPlace),
  DataW.trod e P w base spare held fuel t cs=some x→∃a:α,cs=enc a∧good w a
theorem Lp.w {α:Type} {enc:α→List Value} {good:α→Prop} (h:Lp P t enc good):zb P t enc (fun _=>good):=h
def xK {α:Type} (P:Program) (fs:Array Field) (L k off:Nat) (enc:α→List Value) (good:World→α→Prop):Prop:=
 ∀(H:Type) (e:TypeId × Value→H) (w:World) (base:Nat) (spare:Nat→Bool) (held:Bool) (n:Nat) (cs:List Value) (xs:List (DataW H × List MemPlace)),cs.length=L→xs.length=fs.size →
  (∀(i:Nat) (f:Field),fs[i]?=some f→DataW.trod e P w base spare held n f.type ((cs.drop f.offset).take (P.cellsOf f.type))=xs[i]?)→∃a:α,cs.drop off=enc a∧good w a
theorem FI {fs:Array Field} {L:Nat} (h:L=off):xK P fs L k off (fun _:Unit=>[]) (fun _ _=>True):=by
 intro H e w base spare a n cs xs hl _ _;exact⟨(),by rw[qA (by omega)],trivial⟩
theorem rW {α β:Type} {fs:Array Field} {L:Nat} {f:Field} {enc:α→List Value} {good:World→α→Prop} {enc' : β→List Value} {good' : World→β→Prop} (hf:fs[k]?=some f) (off' : Nat) (ho:f.offset=off) (hn:off+P.cellsOf f.type=off') (h0:zb P f.type enc good)
 (h1:xK P fs L (k+1) off' enc' good'):xK P fs L k off (fun x:α × β=>enc x.1++enc' x.2) (fun w x=>good w x.1∧good' w x.2):=by
 intro H e w base spare c n cs xs hl hx h;subst hn;obtain⟨b,hb,gb⟩:=h1 H e w base spare c n cs xs hl hx h;have hk:k<xs.length:=by rw[hx];exact (iB.1 hf).1
 have h2:=h k f hf;rw[aI hk,ho] at h2;obtain⟨a,ha,ga⟩:=h0 H e w base spare c n _ _ h2;refine⟨(a,b),?_,ga,gb⟩;show _=enc a++enc' b;rw[←ha,←hb,←List.drop_drop,qN]
theorem Jz {α:Type} {fs:Array Field} {enc:α→List Value} {good:World→α→Prop} (ht:P.underlying t=some (.struct fs)) (h:xK P fs (P.cellsOf t) 0 0 enc good):zb P t enc good:=by
 intro H e w base spare a fuel cs x hx;obtain⟨xs,n,_,_,hl,hn,b⟩:=DataW.trod_struct ht hx;exact h H e w base spare a n cs xs hl hn b
theorem zb.of {α β:Type} {enc:α→List Value} {good:World→α→Prop} {enc' : β→List Value} {good' : World→β→Prop} (h:zb P t enc good) (g:α→β) (he:∀a,enc a=enc' (g a)) (hg:∀w a,good w a→good' w (g a)):zb P t enc' good':=by
 intro H e w base spare b fuel cs x hx;obtain⟨a,ha,ga⟩:=h H e w base spare b fuel cs x hx;exact⟨g a,by rw[ha,he],hg w a ga⟩
end Pw
namespace Go.Proofs.YtjkkoeijlhfneaaGreat
open _root_.Go.Proofs.Tryz
open Go.ChangeShapes Go.WideShapes Go.ChangeAt Go.RowKit Go.Maps Pw
variable {B B' b cap g n n' off sz sz':Nat} {P:Program} {T T' e e':TypeId} {cs cs':Array Value} {v v':Value} {vs xs xs':List Value} {w w':World}
theorem kW (h:Own w B e sz v n xs) (g:Nat) (hg:v.ownBlock=some g):∃cs,aA w g cs e:=by
 rcases h.2 with ⟨rfl,_⟩|⟨g2,off,cap,cur,rfl,_,hb,_⟩
 ·cases hg
 cases hg;exact⟨_,hb⟩
theorem kv (h:aA w b cs T) (ho:Own w B e sz v n xs) (hT:T≠e) (hg:w.grownBy w' v.ownBlock):aA w' b cs T:=
 h.grown hg (fun he=>own_ne ho h hT b he rfl)
theorem Ac (h:Own w B e sz v n xs) (ho:Own w B' e' sz' v' n' xs') (hT:e'≠e) (hg:w.grownBy w' v'.ownBlock):Own w' B e sz v n xs:=
 h.grown hg (fun g hv he=>by obtain⟨cs,hk⟩:=kW ho g he;exact own_ne h hk hT g hv rfl)
theorem vM (h:Own w B e sz v n xs) (hk:aA w g cs T) (hT:T≠e) (o:Nat) (u:Value):Own (w.setCell ⟨g,o,none⟩ u) B e sz v n xs:=
 ak h hk hT (aH w g o [u])
theorem bu (h:aA w b cs T) (hk:aA w g cs' T') (hT:T'≠T) (hgr:w.grownBy w' (some g)):aA w' b cs T:=
 h.grown hgr (fun he=>by cases he;unfold aA at h hk;rw[hk] at h;simp only[jg,tO] at h;exact hT h.2.1)
theorem kP (a b:Option Addr) (n c m e:Nat):(#[Value.slice a n c,Value.slice b m e]:Array Value).all (·.oneCell')=true:=by simp[Value.oneCell']
theorem mF {α:Type} {enc:α→List Value} (hsz:∀x,(enc x).length=sz) (hp:0<sz) {l:List α} (hl:l.length=n) (h:Own w B e sz v n (l.flatMap enc)) (k:Nat) (hk:k<n) :
  ∃g off cap cur,v = .slice (some ⟨g,off,none⟩) n cap∧B≤g∧aA w g cur e∧off+k*sz+sz≤cur.size ∧
   ∀w' x,aA w' g (bD cur (off+k*sz) (enc x)) e→Own w' B e sz v n ((l.set k x).flatMap enc):=by
 subst hl;obtain⟨g,off,cap,cur,h1,h2,h3,h4,_,h6⟩:=h.put hsz hp k hk;exact⟨g,off,cap,cur,h1,h2,h3,h4,h6⟩
theorem vN {a b c:World} {row:Option Nat} (h:a.grownBy b row) (k:b.grownBy c row):a.grownBy c row:=
 World.grownBy.andThen h k (fun j hj => .inr hj)
theorem kG (h:Own w B e sz v n xs) (hg:w.grownBy w' none):Own w' B e sz v n xs:=h.grown hg (by simp)
theorem ut (w:World) (t e ty:TypeId) (z:Value) (sz bytes:Nat) (ht:P.underlying t=some (.slice e)) (hi:(P.info? e).map (fun i=>(i.zero,i.size,i.bytes))=some (some z,sz,bytes)) (h1:∀u∈z.cells.toList,u.oneCell' = true) (h0:0<z.cells.size)
 (b o n c:Nat) (hn:0<n) (cur:Array Value) (T:TypeId) (hg:aA w b cur T) (hfit:o+n*z.cells.size≤cur.size) :
  (Builtin.clear_ #[t] ty #[.slice (some ⟨b,o,none⟩) n c]).run P w = .ok (.tuple #[]) (w.setCells b o (Builtin.zeroCells z.cells n).toList):=by
 have hl:(Builtin.zeroCells z.cells n).toList.length=n*z.cells.size:=by simp[Builtin.zeroCells]
 have a:=run_storeCells_cells (P:=P) b o (Builtin.zeroCells z.cells n).toList 0 w
  (fun j hj=>by rw[iH,hg.cell];simp[show o+j<cur.size by omega]) (fun j hj=>hg.free _)
  (fun v hv=>by simp only[Builtin.zeroCells,Array.toList_map,fP] at hv;obtain⟨i,_,rfl⟩:=hv;have:i%z.cells.size<z.cells.size:=qR _ h0;rw[getElem!_pos z.cells _ this];exact h1 _ (by simp))
 simp only[iH] at a;obtain⟨m,rfl⟩:∃m,n=m+1:=⟨n-1,by omega⟩;have hv:∀w,(zeroValue e).run P w = .ok z w:=by
  intro w;cases hq:P.info? e with
  | none=>simp[hq] at hi
  | some i=>
   have hz:i.zero=some z:=by simp[hq] at hi;exact hi.1
   simp[zeroValue,typeInfo,run_program,hq,hz]
 simp[Builtin.clear_,run_underlying ht,hv,a]
theorem Pz {α:Type} {enc:α→List Value} (hsz:∀x,(enc x).length=sz) {l:List α} (h:Own w B e sz (.slice (some ⟨g,off,none⟩) n cap) n (l.flatMap enc)) (i:Nat) (hl:l.length=n) (hi:i≤n)
 (hw:∀cur,aA w g cur e→aA w' g (bD cur (off+i*sz) vs) e):Own w' B e sz (.slice (some ⟨g,off,none⟩) (l.take i).length cap) (l.take i).length ((l.take i).flatMap enc):=by
 subst hl;obtain⟨hl,h⟩:=h;rcases h with ⟨h1,_⟩|⟨g',off',cap',cur,hv,hB,hg,hc,hm,hs,ht⟩
 ·cases h1
 cases hv;have b:(l.take i).length=i:=by simp;omega
 refine⟨by rw[Pw.flat_len enc sz hsz],.inr ⟨g,off,cap,_,rfl,hB,hw cur hg,by omega,hm,by rw[size_putAt];exact hs,fun j u hj => ?_⟩⟩;have c : j<i*sz:=by
  rcases fG j (i*sz) with h|h
  ·exact h
  rw[dJ (by rw[Pw.flat_len enc sz hsz,b];exact h)] at hj;cases hj
 rw[putAt_out _ _ _ _ (.inl (by omega))];refine ht j u ?_;have a:l.flatMap enc=(l.take i).flatMap enc++(l.drop i).flatMap enc:=by rw[←fu,qN]
 rw[a,lm (by rw[Pw.flat_len enc sz hsz,b];exact c)];exact hj
theorem xg {α:Type} {enc:α→List Value} (hsz:∀x,(enc x).length=sz) (hp:0<sz) {l:List α} (hl:l.length=n) (h:Own w B e sz v n (l.flatMap enc)) (k:Nat) (hk:k<n) (j:Nat) (hj:j<sz) (u:Value) (x:α)
 (hx:enc x=(enc (l[k]'(by omega))).set j u) :
  ∃g off cap,v = .slice (some ⟨g,off,none⟩) n cap∧B≤g∧g<w.heap.size∧(∃cs,aA w g cs e)∧(∀i y,(enc (l[k]'(by omega)))[i]?=some y→w.cell? ⟨g,off+k*sz+i,none⟩=some y)∧w.frozen? ⟨g,off+k*sz+j,none⟩=false ∧
   Own (w.setCell ⟨g,off+k*sz+j,none⟩ u) B e sz v n ((l.set k x).flatMap enc):=by
 subst hl;obtain⟨g,off,cap,cur,h1,h2,h3,h4,h5,h6⟩:=h.put hsz hp k hk;refine⟨g,off,cap,h1,h2,h3.lt,⟨_,h3⟩,h5,h3.free _,h6 _ x ?_⟩;have he:bD cur (off+k*sz) (enc x)=cur.setIfInBounds (off+k*sz+j) u:=by
  apply mr;intro i
  by_cases hi:off+k*sz≤i∧i<off+k*sz+sz
  ·obtain⟨m,rfl⟩:∃m,i=off+k*sz+m:=⟨i-(off+k*sz),by omega⟩;have hm:m<(enc x).length:=by rw[hsz];omega
   rw[putAt_in _ _ _ m (enc x)[m] (by rw[hsz];omega) (aI hm)]
   by_cases hmj:m=j
   ·subst hmj;rw[rH (by omega)];simp[hx]
   rw[gu (by omega)];have a : m<(enc l[k]).length:=by rw[hsz];omega
   have:=h5 m (enc l[k])[m] (aI a);rw[h3.cell] at this;rw[this];simp[hx,AU (fun e=>hmj e.symm)]
  ·rw[putAt_out _ _ _ _ (by rw[hsz];omega),gu (by omega)]
 rw[he];exact h3.setCell _ _
theorem UE {o:Nat} (h:w.cell? ⟨b,o,none⟩=some v):b<w.heap.size:=by
 rcases fG b w.heap.size with h1|h1
 ·exact h1
 ·simp[World.cell?,lF h1] at h
theorem Nu {H:Type} {k:TypeId} {R:Value→Option (DataW H × List MemPlace)} {D:DataW H} (h:w.ownsMap P k R b n D) (hb:Below w.heap.size w w'):w'.ownsMap P k R b n D:=by
 have hl:=h.lt;obtain⟨es,clock,h1,r⟩:=h;exact⟨es,clock,(hb.block b hl).trans h1,r⟩
end Go.Proofs.YtjkkoeijlhfneaaGreat
namespace Pw
open Go Go.RowKit
variable {B b f g i id j k k1 n off p q sz:Nat} {P:Program} {Q:Exit → Act → World → Prop} {T T' e t ty:TypeId} {V c0 u v:Value} {a0:Act} {cs cur t0:Array Value} {d:TypeDesc} {o op:Oper} {ops:Array Oper} {rest:List Oper} {vs xs:List Value} {w w' w0:World} {x:Operand} {y:Nat → Value} {ρ:Operand → Value}
theorem Ns {a c:World} (h:a.grownBy c none) (row:Option Nat):a.grownBy c row:=⟨h.os,h.tape,h.output,h.size,fun i hi _=>h.block i hi (by simp)⟩
def kN (ps:List (Nat × Value)) (i:Nat):Option Value:=ps.lookup i
def Xq (ops:Array Oper) (m:Nat) (ps:List (Nat × Value)):Bool:=
 (List.range m).all fun j=>(kN ps j).isSome||(xJ ops ops.size m).contains j
def Oc (m k1:Nat) (ps:List (Nat × Value)):Bool:=(List.range k1).all fun j=>decide (j≤m)||(kN ps j).isSome
def UQ (ops:Array Oper) (m:Nat) (ps:List (Nat × Value)):Bool:=
 (List.range ops.size).all fun i=>(kN ps i).isNone||(decide (i≠m)&&match ops[i]? with | some o=>o.after.toList.all (fun e=>(kN ps e.on).isSome) | none=>true)
theorem TA {m:Nat} {ps:List (Nat × Value)} (h:Xq ops m ps=true) {listed:Array Bool} (hc:∀i o,ops[i]?=some o→listed.getD i false=true→∀e∈o.after,listed.getD e.on false=true) (hL:∀o,ops[m]?=some o→∀e∈o.after,listed.getD e.on false=true) (j:Nat) (hj:j<m) (hp:kN ps j=none):listed.getD j false=true:=by
 have h1:=dF.1 h j (dG.2 hj);rw[hp] at h1;exact wG hc ops.size m hL j (by simpa using h1)
theorem Wn {m:Nat} {ps:List (Nat × Value)} (h:Oc m k1 ps=true) (j:Nat) (hj:j<k1) (hm:m<j):∃v,kN ps j=some v:=by
 have h1:=dF.1 h j (dG.2 hj);simp only[uG,decide_eq_true_eq] at h1;rcases h1 with h1|h1
 ·omega
 ·exact Option.isSome_iff_exists.1 h1
theorem VA {m:Nat} {ps:List (Nat × Value)} (h:UQ ops m ps=true) (hi:ops[i]?=some o) (hp:kN ps i=some v):i≠m∧∀e∈o.after,∃u,kN ps e.on=some u:=by
 have a:i<ops.size:=(iB.1 hi).1;have h1:=dF.1 h i (dG.2 a);rw[hp,hi] at h1;simp only[Option.isNone_some,Bool.false_or,dU,decide_eq_true_eq] at h1;exact⟨h1.1,fun e he=>Option.isSome_iff_exists.1 (dF.1 h1.2 e (mV.2 he))⟩
def VH (P:Program) (ops:Array Oper) (Q:Exit→Act→World→Prop) (m k1:Nat) (ps:List (Nat × Value)) (R:Nat→Value→World→Prop) (a0:Act) (w0:World) (listed:Array Bool) (a:Act) (w:World):Prop:=
  (∀i,k1≤i→listed.getD i false=false)∧(∀i o,ops[i]?=some o→listed.getD i false=true→∀e∈o.after,listed.getD e.on false=true) ∧
  ∃y:Nat→Value,(∀i v,kN ps i=some v→y i=v)∧a = { a0 with tmps:=lay (fun i=>listed.getD i false) y ops.toList 0 a0.tmps } ∧
    ((listed.getD m false=false∧Below w0.heap.size w0 w∧∀i,i<m→kN ps i=none→listed.getD i false=true→R i (y i) w) ∨
     (listed.getD m false=true∧wpList P ops Q (ops.toList.drop k1) { a0 with tmps:=lay (fun i=>decide (i<k1)) y ops.toList 0 a0.tmps } w))
theorem Fv {listed:Array Bool} (hsz:listed.size=ops.size) (hk:k1≤ops.size) (hL:∀i,i<ops.size→listed.getD i false=decide (i<k1)):listed.toList.countP (!·)=ops.size-k1:=by
 have e:listed.toList=List.replicate k1 true++List.replicate (ops.size-k1) false:=by
  apply lU;intro i
  by_cases hi:i<ops.size
  ·have h2:=hL i hi;rw[uF,Ap (show i<listed.size by omega)];simp only[bT,Ap (show i<listed.size by omega),oL] at h2;rw[h2]
   by_cases him:i<k1
   ·rw[lm (by simpa using him)];simp[him]
   rw[kT (by simp;omega)];rw[jN,oK,if_pos (by omega)];simp[him]
  ·rw[dJ (by simp;omega),dJ (by simp;omega)]
 rw[e];simp[Dr,List.countP_replicate]
theorem BJ (m k1:Nat) (ps:List (Nat × Value)) (hok:jh ops=true) (ht:iD ops k1=true) (hcok:Xq ops m ps=true) (hmid:Oc m k1 ps=true) (hpu:UQ ops m ps=true) (hmk:m<k1) (hk1:k1≤ops.size)
 (R:Nat→Value→World→Prop) (hstab:∀i v w w',Below w.heap.size w w'→R i v w→R i v w')
 (hstep:∀i o,i<m→kN ps i=none→ops[i]?=some o→∀y w,(∀i v,kN ps i=some v→y i=v)→Below w0.heap.size w0 w→(∀j,o.after.toList.any (fun e=>e.on==j)=true→match kN ps j with | some v=>y j=v | none=>R j (y j) w) →
 if Region.wanted o (yielded ops (lay (fun _=>true) y ops.toList 0 a0.tmps))=true then Gives P o { a0 with tmps:=lay (fun _=>true) y ops.toList 0 a0.tmps } w (fun v w'=>Below w.heap.size w w'∧R i v w') else R i undef w)
 (hpure:∀i v o,kN ps i=some v→ops[i]?=some o→∀y w,(∀i v,kN ps i=some v→y i=v) →
 Region.wanted o (yielded ops (lay (fun _=>true) y ops.toList 0 a0.tmps))=true∧(execOp ({ a0 with tmps:=lay (fun _=>true) y ops.toList 0 a0.tmps }:Act).eval o).run P w = .ok (.value v) w)
 (hend:∀y w o,ops[m]?=some o→(∀i v,kN ps i=some v→y i=v)→Below w0.heap.size w0 w→(∀i,i<m→match kN ps i with | some v=>y i=v | none=>R i (y i) w) →
 Region.wanted o (yielded ops (lay (fun _=>true) y ops.toList 0 a0.tmps))=true ∧
 Gives P o { a0 with tmps:=lay (fun _=>true) y ops.toList 0 a0.tmps } w fun v w'=>wpList P ops Q (ops.toList.drop k1) { a0 with tmps:=lay (fun i=>decide (i<k1)) (fun i=>if i=m then v else y i) ops.toList 0 a0.tmps } w') :
    wpAny P .any ops Q ops.size (Array.replicate ops.size false) a0 { w0 with drawn:=w0.drawn+1 }:=by
  have hQ:∀(fuel:Nat) (listed:Array Bool) (a:Act) (w:World),listed.size=ops.size→listed.toList.countP (!·)≤fuel→VH P ops Q m k1 ps R a0 w0 listed a w→wpAny P .any ops Q fuel listed a w:=by
    have hz:∀(fuel:Nat) (listed:Array Bool) (a:Act) (w:World),listed.size=ops.size→listed.toList.countP (!·)≤fuel→VH P ops Q m k1 ps R a0 w0 listed a w→(∀i,i<k1→listed.getD i false=true)→wpAny P .any ops Q fuel listed a w:=by
      intro fuel listed a w n hc hA b;obtain⟨hC,hm,y,hV,ha,hr⟩:=hA;have hL:∀i,i<ops.size→listed.getD i false=decide (i<k1):=by
        intro i hi
        by_cases him:i<k1
        · rw[b i him];simp[him]
        · rw[hC i (by omega)];simp[him]
      rcases hr with ⟨h1,_⟩|⟨_,hw⟩
      · rw[b m hmk] at h1;cases h1
      refine uJ (m:=k1) hok ht fuel k1 listed a w (az _) hk1 (by have:=Fv n hk1 hL;omega) n hL ?_;rw[ha,rC (fun i=>listed.getD i false) (fun i=>decide (i<k1)) y ops.toList 0 a0.tmps (fun k hk=>by simp only[dZ];exact hL k (by simpa using hk))];exact hw
    intro fuel
    induction fuel with
    | zero=>
      intro listed a w n hc hA;refine hz 0 listed a w n hc hA fun i hi => ?_;have h0:listed.toList.countP (!·)=0:=by omega
      have:=xL.1 h0 (listed[i]'(by omega)) (by simp);simpa[bT,show i<listed.size by omega] using this
    | succ fuel ih=>
      intro listed a w n hc hA
      by_cases b:∀i,i<k1→listed.getD i false=true
      · exact hz _ listed a w n hc hA b
      have hf:Region.ready .any ops listed≠[]:=by
        intro hq;apply b;intro i
        induction i using Nat.strongRecOn with
        | ind i ih'=>
          intro him
          by_cases hc' : listed.getD i false=true
          · exact hc'
          exfalso;have hi:i<ops.size:=by omega
          have hy:i∈Region.ready .any ops listed:=by
            rw[mem_ready];refine⟨?_,ops[i],by simp[hi],fun e he _ => ?_⟩
            · simpa[bT,show i<listed.size by omega] using hc'
            have:=(gI hok (i:=i) (o:=ops[i]) (by simp[hi])).2.1 e he;exact ih' e.on this.2 (by omega)
          rw[hq] at hy;cases hy
      refine⟨fun h=>absurd h hf,fun i hi => ?_⟩;obtain⟨h1,o,ho,hD⟩:=mem_ready.1 hi;have h6:i<ops.size:=(iB.1 ho).1;have hh:i<listed.size:=by omega
      obtain⟨hF,hb,_⟩:=gI hok ho;have hL:∀e∈o.after,listed.getD e.on false=true:=fun e he=>hD e he (hb e he).1;have hI:listed.getD i false=false:=by simpa[bT,hh] using h1
      have him:i<k1:=by
        rcases fG i k1 with h|h
        · exact h
        exfalso;apply b;intro j hj;exact vP ht hA.2.1 ho hL h j (by omega)
      obtain⟨hC,hm,y,hV,ha,hr⟩:=hA;have hO : ∀k o',ops[k]?=some o'→(listed.setIfInBounds i true).getD k false=true→∀e∈o'.after,(listed.setIfInBounds i true).getD e.on false=true:=by
        intro k o' c hk e he;apply yz hh
        by_cases hki:k=i
        · subst hki;rw[ho] at c;cases c;exact hL e he
        rw[rA hki] at hk;exact hm k o' c hk e he
      have hH : ∀k,k1≤k→(listed.setIfInBounds i true).getD k false=false:=fun k hk=>by rw[rA (by omega)];exact hC k hk
      have q:∀v w' y',(∀k,y' k=if k=i then v else y k)→(∀i v,kN ps i=some v→y' i=v) →
          (((listed.setIfInBounds i true).getD m false=false∧Below w0.heap.size w0 w'∧∀k,k<m→kN ps k=none→(listed.setIfInBounds i true).getD k false=true→R k (y' k) w') ∨
           ((listed.setIfInBounds i true).getD m false=true∧wpList P ops Q (ops.toList.drop k1) { a0 with tmps:=lay (fun i=>decide (i<k1)) y' ops.toList 0 a0.tmps } w')) →
          wpAny P .any ops Q fuel (listed.setIfInBounds i true) (a.put o.dst v) w':=by
        intro v w' y' hR hY hG;obtain rfl:y' = fun k=>if k=i then v else y k:=funext hR;refine ih _ _ _ (by simp[n]) (Fw hh h1 hc) ⟨hH,hO,_,hY,?_,hG⟩;rw[ha,IM hok ho n v]
      have hl:∀t∈o.looksAt ops,a.tmps[t]?=(lay (fun _=>true) y ops.toList 0 a0.tmps)[t]?:=fun t ht=>by rw[ha];exact Bj hok ho hL t ht
      have z:execOp a.eval o=execOp ({ a0 with tmps:=lay (fun _=>true) y ops.toList 0 a0.tmps }:Act).eval o:=by
        refine execOp_congr o hF fun x hx => ?_;cases x with
        | tmp t=>
          have:=hl t (oV _ (Jn.2 ⟨.tmp t,by simpa using hx,rfl⟩));simp[Act.eval,this]
        | _=>rfl
      have d:Region.wanted o (yielded ops a.tmps)=Region.wanted o (yielded ops (lay (fun _=>true) y ops.toList 0 a0.tmps)):=by
        unfold Region.wanted;cases hg:o.guard with
        | none=>rfl
        | some gw=>
          obtain⟨g,want⟩:=gw;have:yielded ops a.tmps g=yielded ops (lay (fun _=>true) y ops.toList 0 a0.tmps) g:=by
            unfold yielded;cases hd:(ops[g]?).bind (·.dst) with
            | none=>rfl
            | some t=>
              have:=hl t (uB _ (by simp[hg,hd]));simp[this]
          simp only[this]
      cases hp:kN ps i with
      | some v=>
        have hU:=(VA hpu ho hp).1;obtain⟨hB,hT⟩:=hpure i v o hp ho y w hV;have hg:Gives P o { a0 with tmps:=lay (fun _=>true) y ops.toList 0 a0.tmps } w (fun u w'=>u=v∧w' = w):=by unfold Gives;rw[hT];exact⟨rfl,rfl⟩
        refine rM ho (by rw[d];exact hB) z hg fun u w' hu => ?_;obtain⟨rfl,rfl⟩:=hu;refine q u w' y (fun k => ?_) hV ?_
        · by_cases hk:k=i
          · subst hk;rw[if_pos rfl];exact hV _ _ hp
          · rw[if_neg hk]
        rcases hr with ⟨h2,h3,h4⟩|⟨h2,h3⟩
        · refine .inl ⟨by rw[rA (pz hU)];exact h2,h3,fun k hk f hn => ?_⟩;have hki:k≠i:=by rintro rfl;rw[hp] at f;cases f
          rw[rA hki] at hn;exact h4 k hk f hn
        · exact .inr ⟨yz hh _ h2,h3⟩
      | none=>
        have hZ:i≤m:=by
          rcases fG m i with h|h
          · obtain⟨v,hv⟩:=Wn hmid i him h;rw[hp] at hv;cases hv
          · exact h
        rcases hr with ⟨h2,h3,h4⟩|⟨h2,h3⟩
        · by_cases hic:i=m
          · subst hic;have hE:∀k,k<i→match kN ps k with | some v=>y k=v | none=>R k (y k) w:=by
              intro k hk;cases f:kN ps k with
              | some v=>exact hV k v f
              | none=>exact h4 k hk f (TA hcok hm (fun o' c=>by rw[ho] at c; cases c; exact hL) k hk f)
            obtain⟨hB,hg⟩:=hend y w o ho hV h3 hE;refine rM ho (by rw[d];exact hB) z hg fun v w' hS => ?_;refine q v w' (fun k=>if k=i then v else y k) (fun _=>rfl) (fun k u r => ?_) (.inr ⟨JN hh,hS⟩);have:k≠i:=by rintro rfl;rw[hp] at r;cases r
            simp only[this,if_false];exact hV k u r
          have hJ:i<m:=by omega
          have hs:=hstep i o hJ hp ho y w hV h3 (fun j hj=>by
            obtain⟨e,he,hX⟩:=je.1 hj;have hM : e.on=j:=by simpa using hX
            subst hM;have hN:=mV.1 he;cases hpj:kN ps e.on with
            | some v=>exact hV _ _ hpj
            | none=>exact h4 e.on (by have:=(hb e hN).2;omega) hpj (hL e hN))
          have hK:∀v w',Below w.heap.size w w'→R i v w'→wpAny P .any ops Q fuel (listed.setIfInBounds i true) (a.put o.dst v) w':=by
            intro v w' hP hv;refine q v w' (fun k=>if k=i then v else y k) (fun _=>rfl) (fun k u r => ?_) (.inl ⟨by rw[rA (pz hic)];exact h2,h3.trans (hP.mono h3.size),fun k hk f hn => ?_⟩)
            · have:k≠i:=by rintro rfl;rw[hp] at r;cases r
              simp only[this,if_false];exact hV k u r
            by_cases hki:k=i
            · subst hki;simpa using hv
            rw[rA hki] at hn;simp only[hki,if_false];exact hstab _ _ _ _ hP (h4 k hk f hn)
          by_cases hwt:Region.wanted o (yielded ops (lay (fun _=>true) y ops.toList 0 a0.tmps))=true
          · rw[if_pos hwt] at hs;exact rM ho (by rw[d];exact hwt) z hs fun v w' h=>hK v w' h.1 h.2
          rw[if_neg hwt] at hs;unfold wpOp;simp only[ho];rw[if_neg (by rw[d];exact hwt)];exact hK undef w (Below.refl _ _) hs
        exfalso
        by_cases hic:i=m
        · subst hic;rw[hI] at h2;cases h2
        have hW:∃om,ops[m]?=some om:=⟨ops[m]'(by omega),by simp[show m<ops.size by omega]⟩;obtain⟨om,h5⟩:=hW;have:=TA hcok hm (fun o' c=>hm m o' c h2) i (by omega) hp;rw[hI] at this;cases this
  refine (hQ ops.size _ _ _ (by simp) ?_ ⟨fun i _ => ?_,fun i o' c hi => ?_,fun i=>(kN ps i).getD undef,fun i v h=>(by show (kN ps i).getD undef=v;rw[h];rfl),?_,.inl ⟨?_,?_,?_⟩⟩)
  · simpa using tH (p:=(!·)) (l:=List.replicate ops.size false)
  · simp[bT,qV];split<;>rfl
  · exfalso;have:i<ops.size:=(iB.1 c).1;simp[bT,this] at hi
  · have e:∀y,lay (fun i=>(Array.replicate ops.size false).getD i false) y ops.toList 0 a0.tmps=a0.tmps:=by
      intro y;apply mr;intro s;exact iR _ _ s _ 0 _ fun k o' hk hd=>by simp[bT,qV];split<;>rfl
    rw[e]
  · simp[bT,qV];split<;>rfl
  · exact⟨rfl,rfl,rfl,az _,fun _ _=>rfl⟩
  intro i hi _ hL;simp[bT,show i<ops.size by omega] at hL
def rE (P:Program) (ops:Array Oper) (a0:Act) (w0:World) (ps:List (Nat × Value)) (l:List lT) (i:Nat) (o:Oper):Prop:=
 match kN ps i with
 | some v => ∀(ρ:Operand→Value) (y:Nat→Value) (w:World),(∀t j,writer ops t=some j→ρ (.tmp t)=y j)→(∀x,(match x with | .tmp t=>writer ops t=none | _=>True)→ρ x=a0.eval x)→(∀i v,kN ps i=some v→y i=v) →
   Region.wanted o (gN ρ ops)=true∧(execOp ρ o).run P w = .ok (.value v) w
 | none => ∀(ρ:Operand→Value) (y:Nat→Value) (w:World),(∀t j,writer ops t=some j→ρ (.tmp t)=y j)→(∀x,(match x with | .tmp t=>writer ops t=none | _=>True)→ρ x=a0.eval x) →
   Below w0.heap.size w0 w→(∀j,o.after.toList.any (fun e=>e.on==j)=true→match kN ps j with | some v=>y j=v | none=>rl l j (y j) w) →
   if Region.wanted o (gN ρ ops)=true then dP P o ρ w (fun v w'=>Below w.heap.size w w'∧rl l i v w') else rl l i undef w
theorem OU {ps:List (Nat × Value)} {l:List lT} (h:kN ps i=some v)
 (hh:∀(ρ:Operand→Value) (y:Nat→Value) (w:World),(∀t j,writer ops t=some j→ρ (.tmp t)=y j)→(∀x,(match x with | .tmp t=>writer ops t=none | _=>True)→ρ x=a0.eval x)→(∀i v,kN ps i=some v→y i=v)→Region.wanted o (gN ρ ops)=true∧(execOp ρ o).run P w = .ok (.value v) w):rE P ops a0 w0 ps l i o:=by
 unfold rE;rw[h];exact hh
theorem bK {ps:List (Nat × Value)} {l:List lT} (h:kN ps i=none)
 (hh:∀(ρ:Operand→Value) (y:Nat→Value) (w:World),(∀t j,writer ops t=some j→ρ (.tmp t)=y j)→(∀x,(match x with | .tmp t=>writer ops t=none | _=>True)→ρ x=a0.eval x) →
 Below w0.heap.size w0 w→(∀j,o.after.toList.any (fun e=>e.on==j)=true→match kN ps j with | some v=>y j=v | none=>rl l j (y j) w) →
 if Region.wanted o (gN ρ ops)=true then dP P o ρ w (fun v w'=>Below w.heap.size w w'∧rl l i v w') else rl l i undef w):rE P ops a0 w0 ps l i o:=by
 unfold rE;rw[h];exact hh
theorem Hg (m k1:Nat) (ps:List (Nat × Value)) (l:List lT) (hok:jh ops=true) (ht:iD ops k1=true) (hcok:Xq ops m ps=true) (hmid:Oc m k1 ps=true) (hpu:UQ ops m ps=true) (hmk:m<k1) (hk1:k1≤ops.size)
 (n:Nat) (hn:a0.tmps.size=n) (hsz:jA ops n=true)
 (hstep:aX (rE P ops a0 w0 ps l) 0 (ops.toList.take m)) (hmidl:aX (rE P ops a0 w0 ps l) (m+1) ((ops.toList.drop (m+1)).take (k1-(m+1))))
 (hpl:ps.all (fun p=>decide (p.1<k1))=true)
 (hend:∀(ρ:Operand→Value) (y:Nat→Value) (w:World) (o:Oper),ops[m]?=some o→(∀t j,writer ops t=some j→ρ (.tmp t)=y j)→(∀x,(match x with | .tmp t=>writer ops t=none | _=>True)→ρ x=a0.eval x)→(∀i v,kN ps i=some v→y i=v) →
 Below w0.heap.size w0 w→(∀i,i<m→match kN ps i with | some v=>y i=v | none=>rl l i (y i) w) →
 Region.wanted o (gN ρ ops)=true∧dP P o ρ w fun v w'=>wpList P ops Q (ops.toList.drop k1) { a0 with tmps:=lay (fun i=>decide (i<k1)) (fun i=>if i=m then v else y i) ops.toList 0 a0.tmps } w') :
  wpAny P .any ops Q ops.size (Array.replicate ops.size false) a0 { w0 with drawn:=w0.drawn+1 }:=by
 have z:∀(y:Nat→Value) t j,writer ops t=some j→({ a0 with tmps:=lay (fun _=>true) y ops.toList 0 a0.tmps }:Act).eval (.tmp t)=y j:=by
  intro y t j hw;unfold writer at hw;have h1:=qM hw;have h2:=dG.1 (uu hw);cases ho:ops[j]? with
  | none=>simp[ho] at h1
  | some p=>
   have f : p.dst=some t:=by simpa[ho] using h1
   have hg:t<a0.tmps.size:=by have:=dF.1 hsz p (mV.2 (zH ho));rw[hn];simpa[f] using this
   have hu:∀k' o',ops.toList[k']?=some o'→o'.dst=some t→k' = j:=by
    intro k' o' u hj;rcases ((gI hok (i:=k') (o:=o') (by simpa using u)).2.2 j p t ho f).1 with h|h
    ·exact h
    ·exact absurd hj h
   have:=lg (fun _=>true) y t ops.toList 0 a0.tmps j p (by simpa using ho) f rfl hu hg;simp[Act.eval,this]
 have ha:∀(y:Nat→Value) x,(match x with | .tmp t=>writer ops t=none | _=>True)→({ a0 with tmps:=lay (fun _=>true) y ops.toList 0 a0.tmps }:Act).eval x=a0.eval x:=by
  intro y x hx;cases x with
  | tmp t=>
   have:(lay (fun _=>true) y ops.toList 0 a0.tmps)[t]?=a0.tmps[t]?:=by
    refine iR _ y t _ 0 _ fun k o' hk f => ?_;exfalso;simp only[writer] at hx;have u : ops[k]?=some o':=by simpa using hk
    have hf:k<ops.size:=(iB.1 u).1;have:=pK.1 hx k (dG.2 hf);simp[u,f] at this
   simp[Act.eval,this]
  | _=>rfl
 have c:∀(y:Nat→Value) (o:Oper),Region.wanted o (yielded ops (lay (fun _=>true) y ops.toList 0 a0.tmps))=Region.wanted o (gN ({ a0 with tmps:=lay (fun _=>true) y ops.toList 0 a0.tmps }:Act).eval ops):=by
  intro y o;congr 1;funext g;unfold yielded gN;cases (ops[g]?).bind (·.dst) with
  | none=>rfl
  | some d=>
   simp only[zI,Act.eval,bT];generalize (lay (fun _=>true) y ops.toList 0 a0.tmps)[d]?=q;cases q with
   | none=>rfl
   | some v=>cases v<;>rfl
 have s:∀i o,i<k1→i≠m→ops[i]?=some o→rE P ops a0 w0 ps l i o:=by
  intro i o hi hl ho;rcases fG i m with h|h
  ·have hc : (ops.toList.take m)[i]?=some o:=by rw[lY,if_pos h];simpa using ho
   have:=aX.at hstep i o hc;rwa [dZ] at this
  have hc : ((ops.toList.drop (m+1)).take (k1-(m+1)))[i-(m+1)]?=some o:=by rw[lY,if_pos (by omega),rX,show m+1+(i-(m+1))=i by omega];simpa using ho
  have:=aX.at hmidl _ o hc;rwa [show m+1+(i-(m+1))=i by omega] at this
 refine BJ m k1 ps hok ht hcok hmid hpu hmk hk1 (rl l) (fun i v w w' hb h=>(l.getD i anyR).st v w w' hb h) (fun i o hm hp hi y w hV hb hd => ?_) (fun i v o hp hi y w hV => ?_) (fun y w o hi hV hb hR => ?_)
 ·have:=s i o (by omega) (by omega) hi;unfold rE at this;rw[hp] at this;have h2:=this _ y w (z y) (ha y) hb hd;rw[c];exact h2
 ·have hh:i<k1:=by
   have h1:(i,v)∈ps:=by
    clear hpl hstep hmidl hcok hmid hpu s hend hV;unfold kN at hp
    induction ps with
    | nil=>simp at hp
    | cons q r ih=>
     obtain⟨a,b⟩:=q
     by_cases e:i=a
     ·subst e;simp at hp;simp[hp]
     have:(i==a)=false:=beq_eq_false_iff_ne.2 e;simp[List.lookup,this] at hp;exact jv _ (ih hp)
   simpa using dF.1 hpl _ h1
  have:=s i o hh (VA hpu hi hp).1 hi;unfold rE at this;rw[hp] at this;obtain⟨h1,h2⟩:=this _ y w (z y) (ha y) hV;exact⟨by rw[c];exact h1,h2⟩
 obtain⟨h1,h2⟩:=hend _ y w o hi (z y) (ha y) hV hb hR;exact⟨by rw[c];exact h1,h2⟩
theorem Lc (m k1:Nat) (ps:List (Nat × Value)) (l:List lT) (hm:P.follows .mixedOrders=true) (hok:jh ops=true) (ht:iD ops k1=true) (hcok:Xq ops m ps=true) (hmid:Oc m k1 ps=true) (hpu:UQ ops m ps=true) (hmk:m<k1) (hk1:k1≤ops.size)
 (n:Nat) (hn:a0.tmps.size=n) (hsz:jA ops n=true)
 (hstep:aX (rE P ops a0 w0 ps l) 0 (ops.toList.take m)) (hmidl:aX (rE P ops a0 w0 ps l) (m+1) ((ops.toList.drop (m+1)).take (k1-(m+1))))
 (hpl:ps.all (fun p=>decide (p.1<k1))=true)
 (hend:∀(ρ:Operand→Value) (y:Nat→Value) (w:World) (o:Oper),ops[m]?=some o→(∀t j,writer ops t=some j→ρ (.tmp t)=y j)→(∀x,(match x with | .tmp t=>writer ops t=none | _=>True)→ρ x=a0.eval x)→(∀i v,kN ps i=some v→y i=v) →
 Below w0.heap.size w0 w→(∀i,i<m→match kN ps i with | some v=>y i=v | none=>rl l i (y i) w) →
 Region.wanted o (gN ρ ops)=true∧dP P o ρ w fun v w'=>wpList P ops Q (ops.toList.drop k1) { a0 with tmps:=lay (fun i=>decide (i<k1)) (fun i=>if i=m then v else y i) ops.toList 0 a0.tmps } w') :
  (Code.region id ops true).wp P Q a0 w0:=
 wp_region_any hm (Hg m k1 ps l hok ht hcok hmid hpu hmk hk1 n hn hsz hstep hmidl hpl hend)
theorem mM (s x:Operand) (t:TypeId) (hop:o.op=Op.call { callee:=Callee.builtin Builtin.append,args:=#[s,x],argTypes:=#[t,t] })
 (B:Nat) (e:TypeId) (z:Value) (size bytes:Nat) (h1:P.underlying t=some (.slice e)) (h2:(P.info? e).map (fun i=>(i.zero,i.size,i.bytes))=some (some z,size,bytes)) (h6:z.cells.size=size) (h7:0<size)
 (v:Value) (n:Nat) (xs:List Value) (hs:ρ s=v) (hown:Own w B e size v n xs)
 (ao:Option Addr) (m c:Nat) (news:List Value) (hx:ρ x = .slice ao m c) (hnone:ao=none→c=0) (hmc:m≤c) (hn:news.length=m*size) (hrd:dI w ao news) (h1c:∀u∈news,u.oneCell' = true)
 (b1:n+m≤maxLen) (b2:(n+m)*bytes≤140737488355328) (hB:B≤w.heap.size) :
  ∃v' w',(execOp ρ o).run P w = .ok (.value v') w'∧Own w' B e size v' (n+m) (xs++news)∧w.grownBy w' v.ownBlock∧(v'.ownBlock=v.ownBlock∨∀g,v'.ownBlock=some g→w.heap.size≤g):=by
 obtain⟨i,hi,hz,f,h⟩:=info_parts h2;cases ao with
 | none=>
  obtain rfl:=hnone rfl;obtain rfl:m=0:=by omega
  obtain rfl:news=[]:=jW (by simpa using hn);refine⟨v,w,?_,by simpa using hown,Jb _ _,.inl rfl⟩;rcases hown with ⟨hl,⟨rfl,rfl⟩|⟨g,off,cap,cur,rfl,hBg,hk,hc,hm,hsize,hcell⟩⟩
  ·simp[execOp,hop,resolve,invoke,builtin,hs,hx,Builtin.append_,run_underlying h1,Go.sizeOf,typeInfo,hi,Builtin.lenOf,Builtin.firstCells,storeCells,Result.andThen]
  ·simp[execOp,hop,resolve,invoke,builtin,hs,hx,Builtin.append_,run_underlying h1,Go.sizeOf,typeInfo,hi,Builtin.lenOf,Builtin.firstCells,hc,storeCells,Result.andThen]
 | some ad=>
  have d:∀j u,news[j]?=some u→w.cell? (ad.add j)=some u:=by intro j u hj;obtain⟨b,off,e',hc⟩:=hrd j u hj;cases e';rw[sO];exact hc
  rcases hown with ⟨hl,⟨rfl,rfl⟩|⟨g,off,cap,cur,rfl,hBg,hk,hc,hm,hsize,hcell⟩⟩
  ·obtain rfl:xs=[]:=jW (by simpa using hl);obtain⟨v',w',a,r1,r2,_⟩:=run_append_own (P:=P) w w.heap.size t o.type e i z size bytes h1 hi hz f h h6 h7 (.slice none 0 0) 0 [] (JC w _ e size) ad m c news hn d h1c b1 b2 (az _);refine⟨v',w',?_,(Own.of_owns r1).mono hB,r2,.inr (Own.of_owns r1).ge⟩;simp[execOp,hop,resolve,invoke,builtin,hs,hx,a,Result.andThen]
  have k:n*size≤cap*size:=uk _ hc;rcases fG cap (n+m) with hr|hr
  ·obtain⟨v',w',a,r1,r2⟩:=run_append_arg_grows (P:=P) w t o.type e i z size bytes h1 hi hz f h h6 h7 ⟨g,off,none⟩ n cap xs hl (fun j u hj=>by rw[sO,hk.cell];exact hcell j u hj) ad m c news hn d hr b1 b2;refine⟨v',w',?_,(Own.of_owns r1).mono hB,Ns r2 _,.inr (Own.of_owns r1).ge⟩;simp[execOp,hop,resolve,invoke,builtin,hs,hx,a,Result.andThen]
  have h3:(n+m)*size≤cap*size:=uk _ hr;rw[uo] at h3;have a:=run_append_room_cells (P:=P) w t o.type e i h1 hi g off n cap ad m c news (by rw[f];exact hn) d h1c hr (fun j hj=>by rw[f,hk.cell];simp[show off+n*size+j<cur.size by omega]) (fun j hj=>hk.free _);rw[f] at a;refine⟨_,_,?_,⟨by rw[jP,hl,hn,uo],.inr ⟨g,off,cap,_,rfl,hBg,hk.setCells news (off+n*size),hr,hm,by rw[size_putAt];exact hsize,fun j u hj => ?_⟩⟩,aH _ _ _ _,.inl rfl⟩
  ·simp[execOp,hop,resolve,invoke,builtin,hs,hx,a,Result.andThen]
  by_cases hjl:j<xs.length
  ·rw[lm hjl] at hj;rw[putAt_out _ _ _ _ (.inl (by omega))];exact hcell j u hj
  rw[kT (by omega)] at hj;have:=putAt_in news cur (off+n*size) (j-xs.length) u (by omega) hj;rwa [show off+n*size+(j-xs.length)=off+j by omega] at this
theorem IA {F:Value→World→Prop} (hw:Region.wanted o (gN ρ ops)=true) {D:Value→World→Prop} (h:∃v' w',(execOp ρ o).run P w = .ok (.value v') w'∧D v' w') (hF:∀v w',D v w'→F v w'):Region.wanted o (gN ρ ops)=true∧dP P o ρ w F:=by
 obtain⟨v',w',h1,h2⟩:=h;refine⟨hw,?_⟩;unfold dP;rw[h1];exact hF _ _ h2
open Go.ChangeShapes Go.WideShapes Go.ChangeAt
theorem Eb (ht:P.underlying t=some (.array n e)) (he:P.underlying e=some d) (hd:(∀m f,d ≠ .array m f)∧(∀fs,d ≠ .struct fs)) (hs:(P.info? e).map (·.size)=some 1)
 (cs:Array Value) (k:Nat) (v:Value) (hk:k<n) (hv:cs[k]?=some v) (kk:IntKind) (w:World):(Instr.index t (.agg cs) (.int kk k)).run P w = .ok v w:=by
 have a:∀w,(Go.sizeOf e).run P w = .ok 1 w:=by
  intro w;cases hq:P.info? e with
  | none=>simp[hq] at hs
  | some i=>
   have hz:i.size=1:=by simpa[hq] using hs
   simp[Go.sizeOf,typeInfo,run_program,hq,hz]
 have ha:∀w,(isAgg e).run P w = .ok false w:=by intro w;unfold isAgg;simp[run_underlying he];cases d<;>simp_all
 simp[Instr.index,part,asIntOf,run_underlying ht,a,hk,ha,hv,go_sem]
theorem Vn :(∀m f,TypeDesc.slice e ≠ .array m f)∧(∀fs,TypeDesc.slice e ≠ .struct fs):=⟨fun _ _ h=>(by cases h),fun _ h=>(by cases h)⟩
def aggB:TypeDesc→Bool
 | .struct _=>true
 | .array _ _=>true
 | _=>false
theorem jZ (hrd:dI w (some ⟨b,off,none⟩) vs)
 (hu:P.underlying ty=some d) (hd:aggB d=true) (hi:(P.info? ty).map (·.size)=some vs.length) :
  (loadVar ty ⟨b,off,none⟩).run P w = .ok (.agg vs.toArray) w:=by
 have hl:(loadCells ⟨b,off,none⟩ vs.length).run P w = .ok vs.toArray w:=
  run_loadCells_list (P:=P) w ⟨b,off,none⟩ vs (fun j v hv=>by
   obtain⟨b',off',h1,h2⟩:=hrd.at (by
    rcases fG 0 vs.length with h|h
    ·exact h
    ·rw[dJ (by omega)] at hv;cases hv)
   cases h1;have c:(⟨b,off,none⟩:Addr).add j=⟨b,off+j,none⟩:=by unfold Addr.add;split<;>simp_all
   rw[c];exact h2 j v hv)
 cases hq:P.info? ty with
 | none=>simp[hq] at hi
 | some i=>
  have hs:i.size=vs.length:=by simpa[hq] using hi
  have a:(isAgg ty).run P w = .ok true w:=by unfold isAgg;rw[jX,run_underlying hu w];cases d<;>simp_all[aggB]
  simp[loadVar,jX,a,Go.sizeOf,typeInfo,hq,hs,hl]
theorem gJ {a:Act} (hgd:o.guard=none) (ty:TypeId) (x:Operand) (ho:o.op = .load ty x)
 (b off:Nat) (hx:a.eval x = .pointer (some ⟨b,off,none⟩)) (vs:List Value) (hrd:dI w (some ⟨b,off,none⟩) vs) (d:TypeDesc)
 (hu:P.underlying ty=some d) (hd:aggB d=true) (hi:(P.info? ty).map (·.size)=some vs.length)
 (h:wpList P ops Q rest (a.put o.dst (.agg vs.toArray)) w):wpList P ops Q (o::rest) a w:=
 wpList_plain hgd fun K hK=>by unfold Oper.wp execOp;simp only[ho,hx,Instr.loadAt,Instr.sureAddr,jX,rR,sj,jZ hrd hu hd hi];exact hK _ _ h
theorem aA.rd (h:aA w b cs T):dI w (some ⟨b,0,none⟩) cs.toList:=by
 intro i u hi;exact⟨b,0,rfl,by rw[h.cell,dZ];simpa using hi⟩
theorem aD {a:Act} (hgd:op.guard=none) (ty:TypeId) (x y:Operand) (ho:op.op = .store ty x y)
 (b o:Nat) (v:Value) (cells:List Value) (hx:a.eval x = .pointer (some ⟨b,o,none⟩)) (hy:a.eval y=v) (hc:v.cells.toList=cells) (cur:Array Value) (T:TypeId) (hg:aA w b cur T)
 (hfit:o+cells.length≤cur.size) (hi:(P.info? ty).map (·.size)=some cells.length) (h1:∀u∈cells,u.oneCell' = true)
 (h:∀w',aA w' b (bD cur o cells) T→w.grownBy w' (some b)→wpList P ops Q rest (a.put op.dst undef) w'):wpList P ops Q (op::rest) a w:=
 wpList_plain hgd fun K hK=>by
  have hst:=run_storeCells_cells (P:=P) b o cells 0 w
   (fun j hj=>by rw[iH,hg.cell];simp[show o+j<cur.size by omega]) (fun j hj=>hg.free _) h1
  simp only[iH] at hst;have hsv:(storeVar ty ⟨b,o,none⟩ v).run P w = .ok () (w.setCells b o cells):=by
   cases hq:P.info? ty with
   | none=>simp[hq] at hi
   | some i=>
    have hs:i.size=cells.length:=by simpa[hq] using hi
    have hv:v.cells.size=cells.length:=by rw[←hc];simp
    simp[storeVar,Go.sizeOf,typeInfo,hq,hs,hv,hc,hst]
  unfold Oper.wp execOp;simp only[ho,hx,hy,Instr.storeAt,Instr.sureAddr,jX,rR,sj,hsv];exact hK _ _ (h _ (hg.setCells _ _) (aH _ _ _ _))
theorem putAt_one (cur:Array Value) (o:Nat) (v:Value):bD cur o [v]=cur.setIfInBounds o v:=rfl
theorem fw {fn:Func} {p q:Tmp} (h:fn.results=#[.cell p ty,.tmp q]) (tmps:Array Value) (w:World) (g:Nat) (t:TypeId) (cs:Array Value) (d:TypeDesc) (v:Value)
 (hp:tmps.getD p undef = .pointer (some ⟨g,0,none⟩)) (hv:tmps.getD q undef=v) (hg:aA w g cs t) (hu:P.underlying ty=some d) (hd:aggB d=true) (hi:(P.info? ty).map (·.size)=some cs.size) :
  (results fn tmps).run P w = .ok (.tuple #[.agg cs,v]) w:=by
 have b : tmps[p]?.getD undef = .pointer (some ⟨g,0,none⟩):=by simpa using hp
 have hl:=jZ (P:=P) hg.rd hu hd (by rw[iO];exact hi);have a : tmps[q]?.getD undef=v:=by simpa using hv
 simp[results,h,b,a,asAddr,hl]
theorem dL {fn:Func} {p q r:Tmp} (h:fn.results=#[.cell p ty,.tmp q,.tmp r]) (tmps:Array Value) (w:World) (g:Nat) (t:TypeId) (cs:Array Value) (d:TypeDesc) (v u:Value)
 (hp:tmps.getD p undef = .pointer (some ⟨g,0,none⟩)) (hv:tmps.getD q undef=v) (hu' : tmps.getD r undef=u) (hg:aA w g cs t) (hu:P.underlying ty=some d) (hd:aggB d=true) (hi:(P.info? ty).map (·.size)=some cs.size) :
  (results fn tmps).run P w = .ok (.tuple #[.agg cs,v,u]) w:=by
 have c : tmps[p]?.getD undef = .pointer (some ⟨g,0,none⟩):=by simpa using hp
 have hl:=jZ (P:=P) hg.rd hu hd (by rw[iO];exact hi);have b : tmps[q]?.getD undef=v:=by simpa using hv
 have a : tmps[r]?.getD undef=u:=by simpa using hu'
 simp[results,h,c,b,a,asAddr,hl]
theorem eO {fn:Func} {p:Tmp} (h:fn.results=#[.cell p ty]) (tmps:Array Value) (w:World) (g:Nat) (t:TypeId) (cs:Array Value) (d:TypeDesc)
 (hp:tmps.getD p undef = .pointer (some ⟨g,0,none⟩)) (hg:aA w g cs t) (hu:P.underlying ty=some d) (hd:aggB d=true) (hi:(P.info? ty).map (·.size)=some cs.size) :
  (results fn tmps).run P w = .ok (.agg cs) w:=by
 have a : tmps[p]?.getD undef = .pointer (some ⟨g,0,none⟩):=by simpa using hp
 have hl:=jZ (P:=P) hg.rd hu hd (by rw[iO];exact hi);simp[results,h,a,asAddr,hl]
def pE (w:World) (v v' : Value):Prop:=v'.ownBlock=v.ownBlock∨∀g,v'.ownBlock=some g→w.heap.size≤g
theorem iY {a:Act} (hg:o.guard=none) (s x:Operand) (t:TypeId)
 (hop:o.op=Op.call { callee:=Callee.builtin Builtin.append,args:=#[s,x],argTypes:=#[t,t] })
 (B:Nat) (e:TypeId) (z:Value) (size bytes:Nat) (h1:P.underlying t=some (.slice e)) (h2:(P.info? e).map (fun i=>(i.zero,i.size,i.bytes))=some (some z,size,bytes)) (h6:z.cells.size=size) (h7:0<size)
 (v:Value) (n:Nat) (xs:List Value) (hs:a.eval s=v) (hown:Own w B e size v n xs)
 (ao:Option Addr) (m c:Nat) (news:List Value) (hx:a.eval x = .slice ao m c) (hnone:ao=none→c=0) (hmc:m≤c) (hn:news.length=m*size) (hrd:dI w ao news) (h1c:∀u∈news,u.oneCell' = true)
 (b1:n+m≤maxLen) (b2:(n+m)*bytes≤140737488355328) (hB:B≤w.heap.size)
 (hK:∀v' w',Own w' B e size v' (n+m) (xs++news)→w.grownBy w' v.ownBlock→pE w v v'→wpList P ops Q rest (a.put o.dst v') w') :
  wpList P ops Q (o::rest) a w:=by
 obtain⟨v',w',b,k1,k2,k3⟩:=mM (P:=P) (ρ:=a.eval) (o:=o) (w:=w) s x t hop B e z size bytes h1 h2 h6 h7 v n xs hs hown ao m c news hx hnone hmc hn hrd h1c b1 b2 hB;refine wpList_plain hg fun K d => ?_;unfold Oper.wp;rw[b];exact d _ _ (hK v' w' k1 k2 k3)
def Apart (v u:Value):Prop:=∀g,v.ownBlock=some g→u.ownBlock≠some g
theorem Apart.symm (h:Apart v u):Apart u v:=fun g h1 h2=>h g h2 h1
theorem CF (h:Own w B e sz v n xs) (g:Nat) (hg:v.ownBlock=some g):g<w.heap.size:=by
 rcases h.2 with ⟨rfl,_⟩|⟨g2,off,cap,cur,rfl,_,hb,_⟩
 ·cases hg
 cases hg;exact hb.lt
theorem Own.apart (hu:Own w B e sz u n xs) (h:Apart v u) (hgr:w.grownBy w' v.ownBlock):Own w' B e sz u n xs:=
 hu.grown hgr fun g hg he=>h g he hg
theorem aF {a:Act} (hgd:op.guard=none) (ty:TypeId) (x y:Operand) (ho:op.op = .store ty x y)
 (cells:Array Value) (hx:a.eval x = .pointer (some ⟨w.heap.size,0,none⟩)) (hy:a.eval y = .agg cells)
 (hfit:cells.size=cur.size) (hi:(P.info? ty).map (·.size)=some cells.size) (h1:cells.all (·.oneCell')=true)
 (h:∀w',Below w.heap.size w w'→aA w' w.heap.size cells T→wpList P ops Q rest (a.put op.dst undef) w'):wpList P ops Q (op::rest) a (w.alloc (.cells cur T)):=by
 refine ay hgd ty x y ho w.heap.size cells hx hy cur T (aA.new _ _ _) hfit hi h1 fun w' hb b=>h w' ?_ hb;exact ((Below.refl _ _).alloc (az _) _).grown b (gH _ _) (fun k hk=>by cases hk;exact az _)
theorem KZ {a:Act} (hgd:op.guard=none) (ty:TypeId) (x y:Operand) (ho:op.op = .store ty x y)
 (v:Value) (hx:a.eval x = .pointer (some ⟨w.heap.size,0,none⟩)) (hy:a.eval y=v) (hc:v.cells.toList=[v])
 (hi:(P.info? ty).map (·.size)=some 1) (h1:v.oneCell' = true)
 (h:∀w',Below w.heap.size w w'→aA w' w.heap.size #[v] T→wpList P ops Q rest (a.put op.dst undef) w'):wpList P ops Q (op::rest) a (w.alloc (.cells #[c0] T)):=by
 refine aD hgd ty x y ho w.heap.size 0 v [v] hx hy hc #[c0] T (aA.new _ _ _) (show 0+1≤1 from az 1) hi (fun u hu=>by cases bv.1 hu;exact h1) fun w' hb b=>h w' ?_ hb;exact ((Below.refl _ _).alloc (az _) _).grown b (gH _ _) (fun k hk=>by cases hk;exact az _)
theorem wpList_want {a:Act} (hw:Region.wanted o (yielded ops a.tmps)=true)
 (h:∀K:Act→World→Prop,(∀a w,wpList P ops Q rest a w→K a w)→o.wp P a w K Q):wpList P ops Q (o::rest) a w:=
 wpList_step fun K hK=>by rw[if_pos hw];exact h K hK
theorem ax {a:Act} (ty:TypeId) (x:Operand) (ho:o.op = .load ty x)
 (b off:Nat) (hx:a.eval x = .pointer (some ⟨b,off,none⟩)) (hgd:Region.wanted o (yielded ops a.tmps)=true) (vs:List Value) (hrd:dI w (some ⟨b,off,none⟩) vs) (d:TypeDesc)
 (hu:P.underlying ty=some d) (hd:aggB d=true) (hi:(P.info? ty).map (·.size)=some vs.length)
 (h:wpList P ops Q rest (a.put o.dst (.agg vs.toArray)) w):wpList P ops Q (o::rest) a w:=
 wpList_want hgd fun K hK=>by unfold Oper.wp execOp;simp only[ho,hx,Instr.loadAt,Instr.sureAddr,jX,rR,sj,jZ hrd hu hd hi];exact hK _ _ h
def dm (o:Oper):Oper:={ o with after:=⟨o.after.toList.filter (Region.binds .any)⟩ }
def cz (ops:Array Oper):Array Oper:=⟨ops.toList.map dm⟩
theorem vI (ops:Array Oper):(cz ops).size=ops.size:=by simp[cz]
theorem BM (ops:Array Oper) (i:Nat):(cz ops)[i]?=(ops[i]?).map dm:=by
 unfold cz;simp
theorem Cb (ops:Array Oper) (listed:Array Bool):Region.ready .any (cz ops) listed=Region.ready .any ops listed:=by
 unfold Region.ready;rw[vI];apply List.filter_congr;intro i _;congr 1;rw[BM];cases ops[i]? with
 | none=>rfl
 | some o=>
  simp only[qY,oL];rw[←jr,←jr];exact filter_all _ _ _
theorem FJ (ops:Array Oper) (ts:Array Value):yielded (cz ops) ts=yielded ops ts:=by
 funext g;unfold yielded;rw[BM];cases ops[g]?<;>rfl
theorem NL {K:Act→World→Prop} {a:Act} (h:wpOp P (cz ops) Q i K a w):wpOp P ops Q i K a w:=by
 unfold wpOp at h ⊢;rw[BM,FJ] at h;cases ho:ops[i]? with
 | none=>rw[ho] at h;exact h
 | some o=>
  rw[ho] at h;exact h
theorem yf {P:Program} {ops:Array Oper} {Q:Exit→Act→World→Prop}:∀(fuel:Nat) (listed:Array Bool) (a:Act) (w:World),wpAny P .any (cz ops) Q fuel listed a w→wpAny P .any ops Q fuel listed a w
 | 0,listed,a,w,h=>by unfold wpAny at h ⊢;rw[Cb] at h;exact h
 | fuel+1,listed,a,w,h=>by unfold wpAny at h ⊢;rw[Cb] at h;exact⟨h.1,fun i hi=>wpOp_mono (fun a w=>yf fuel _ a w) (NL (h.2 i hi))⟩
structure wK where
 r:(Nat→Value)→World→Prop
 on:List Nat
 st:∀y w w',Below w.heap.size w w'→r y w→r y w'
 dep:∀y y' w,(∀j∈on,y j=y' j)→r y w→r y' w
def XD (k:Nat) (R:lT):wK:=⟨fun y w=>R.r (y k) w,[k],fun y w w' hb h=>R.st _ _ _ hb h,fun y y' w h h1=>by rw[←h k (bv.2 rfl)];exact h1⟩
def anyY:wK:=⟨fun _ _=>True,[],fun _ _ _ _ _=>trivial,fun _ _ _ _ _=>trivial⟩
def ry (l:List wK) (i:Nat):wK:=l.getD i anyY
def upd (y:Nat→Value) (i:Nat) (v:Value):Nat→Value:=fun k=>if k=i then v else y k
def Sz (ops:Array Oper) (m:Nat) (l:List wK):Bool:=
 (List.range m).all fun i=>match ops[i]? with
  | none=>true
  | some o=>(ry l i).on.all fun j=>decide (j=i)||o.after.toList.any (fun e=>e.on==j)
theorem Uq {m:Nat} {l:List wK} (h:Sz ops m l=true) (him:i<m) (ho:ops[i]?=some o) (hj:j∈(ry l i).on):j=i∨∃e∈o.after,e.on=j:=by
 have h1:=dF.1 h i (dG.2 him);simp only[ho] at h1;have h2:=dF.1 h1 j hj;simp only[uG,decide_eq_true_eq,je,beq_iff_eq] at h2;rcases h2 with h2|⟨e,he,h3⟩
 ·exact .inl h2
 ·exact .inr ⟨e,mV.1 he,h3⟩
def WJ (ops:Array Oper) (m:Nat) (l:List wK) (B:World→Prop) (a0:Act) (listed:Array Bool) (a:Act) (w:World):Prop:=
 (∀i,m≤i→listed.getD i false=false)∧(∀i o,ops[i]?=some o→listed.getD i false=true→∀e∈o.after,listed.getD e.on false=true) ∧
  ∃y:Nat→Value,a = { a0 with tmps:=lay (fun i=>listed.getD i false) y ops.toList 0 a0.tmps }∧B w∧∀i,i<m→listed.getD i false=true→(ry l i).r y w
def wT (m:Nat) (l:List wK) (B:World→Prop) (i:Nat) (y:Nat→Value) (w:World) (v:Value) (w' : World):Prop:=
 B w'∧(ry l i).r (upd y i v) w'∧∀k,k<m→k≠i→(ry l k).r y w→(ry l k).r y w'
theorem Cv (m:Nat) (l:List wK) (B:World→Prop) (hbst:∀w w',Below w.heap.size w w'→B w→B w') (hok:jh ops=true) (ht:iD ops m=true) (hmn:m≤ops.size) (hon:Sz ops m l=true) (hb0:B w0)
 (hstep:∀i o,i<m→ops[i]?=some o→∀y w,B w→(∀j,o.after.toList.any (fun e=>e.on==j)=true→(ry l j).r y w) →
 if Region.wanted o (yielded ops (lay (fun _=>true) y ops.toList 0 a0.tmps))=true then Gives P o { a0 with tmps:=lay (fun _=>true) y ops.toList 0 a0.tmps } w (wT m l B i y w) else wT m l B i y w undef w)
 (hend:∀y w,B w→(∀i,i<m→(ry l i).r y w)→wpList P ops Q (ops.toList.drop m) { a0 with tmps:=lay (fun i=>decide (i<m)) y ops.toList 0 a0.tmps } w) :
  wpAny P .any ops Q ops.size (Array.replicate ops.size false) a0 w0:=by
 have hE:∀(fuel:Nat) (listed:Array Bool) (a:Act) (w:World),listed.size=ops.size→listed.toList.countP (!·)≤fuel→WJ ops m l B a0 listed a w→wpAny P .any ops Q fuel listed a w:=by
  intro fuel
  induction fuel with
  | zero=>
   intro listed a w c hc hA;have hl:∀i,i<ops.size→listed.getD i false=true:=by
    intro i hF;have h0:listed.toList.countP (!·)=0:=by omega
    have:=xL.1 h0 (listed[i]'(by omega)) (by simp);simpa[bT,show i<listed.size by omega] using this
   obtain⟨u,hn,y,ha,hb,hR⟩:=hA;have hy : m=ops.size:=by
    rcases fG m ops.size with h|h
    ·have h1:=hl m h;rw[u m (az _)] at h1;cases h1
    ·omega
   refine uJ (m:=m) hok ht 0 ops.size listed a w (by omega) (az _) (by omega) c (fun i hi=>by rw[hl i hi];simp[hi]) ?_;have:=hend y w hb fun i hi=>hR i (by omega) (hl i (by omega));rw[ha,rC (fun i=>listed.getD i false) (fun i=>decide (i<m)) y ops.toList 0 a0.tmps (fun k hk=>by
    have hG : k<ops.size:=by simpa using hk
    simp only[dZ];rw[hl k hG];simp;omega)]
   rw[hy] at this ⊢;exact this
  | succ fuel ih=>
   intro listed a w c hc hA
   by_cases hfull:∀i,i<m→listed.getD i false=true
   ·obtain⟨u,hn,y,ha,hb,hR⟩:=hA;have hL:∀i,i<ops.size→listed.getD i false=decide (i<m):=by
     intro i hi
     by_cases him:i<m
     ·rw[hfull i him];simp[him]
     ·rw[u i (by omega)];simp[him]
    have hm:ops.size-m≤fuel+1:=by have:=Fv (k1:=m) c hmn hL;omega
    refine uJ (m:=m) hok ht (fuel+1) m listed a w (az _) hmn hm c hL ?_;have:=hend y w hb fun i hi=>hR i (by omega) (hfull i hi);rw[ha,rC (fun i=>listed.getD i false) (fun i=>decide (i<m)) y ops.toList 0 a0.tmps (fun k hk=>by simp only[dZ];exact hL k (by simpa using hk))];exact this
   have f:Region.ready .any ops listed≠[]:=by
    intro hh;apply hfull;intro i
    induction i using Nat.strongRecOn with
    | ind i ih'=>
     intro him
     by_cases hc' : listed.getD i false=true
     ·exact hc'
     exfalso;have hi:i<ops.size:=by omega
     have hp:i∈Region.ready .any ops listed:=by
      rw[mem_ready];refine⟨?_,ops[i],by simp[hi],fun e he _ => ?_⟩
      ·simpa[bT,show i<listed.size by omega] using hc'
      have:=(gI hok (i:=i) (o:=ops[i]) (by simp[hi])).2.1 e he;exact ih' e.on this.2 (by omega)
     rw[hh] at hp;cases hp
   refine⟨fun h=>absurd h f,fun i hi => ?_⟩;obtain⟨h1,o,ho,hv⟩:=mem_ready.1 hi;have hF:i<ops.size:=(iB.1 ho).1;obtain⟨hw,b,_⟩:=gI hok ho;have hL:∀e∈o.after,listed.getD e.on false=true:=fun e he=>hv e he (b e he).1;have him:i<m:=by
    rcases fG i m with h|h
    ·exact h
    exfalso;apply hfull;intro j hj;exact vP ht hA.2.1 ho hL h j (by omega)
   obtain⟨u,hn,y,ha,hb,hR⟩:=hA;have hI:listed.getD i false=false:=by simpa[bT,show i<listed.size by omega] using h1
   have z:∀v w',wT m l B i y w v w'→wpAny P .any ops Q fuel (listed.setIfInBounds i true) (a.put o.dst v) w':=by
    intro v w' hq;refine ih _ _ _ (by simp[c]) ?_ ⟨fun k hk => ?_,fun k o' n hk e he => ?_,upd y i v,?_,hq.1,?_⟩
    ·exact Fw (by omega) h1 hc
    ·have:=u k hk;simp only[bT,gu (show i≠k by omega)] at this ⊢;exact this
    ·have up:∀q,listed.getD q false=true→(listed.setIfInBounds i true).getD q false=true:=yz (by omega);apply up
     by_cases hki:k=i
     ·subst hki;rw[ho] at n;cases n;exact hL e he
     ·exact hn k o' n (by simpa[bT,gu (pz hki)] using hk) e he
    ·rw[ha,IM hok ho c v];rfl
    intro k hk hK
    by_cases hki:k=i
    ·subst hki;exact hq.2.1
    have hr:listed.getD k false=true:=by simpa[bT,gu (pz hki)] using hK
    refine (ry l k).dep y (upd y i v) w' (fun j hj => ?_) (hq.2.2 k hk hki (hR k hk hr));have hz:k<ops.size:=by omega
    have hB:listed.getD j false=true:=by
     rcases Uq hon hk (o:=ops[k]) (by simp[hz]) hj with rfl|⟨e,he,rfl⟩
     ·exact hr
     ·exact hn k ops[k] (by simp[hz]) hr e he
    have hH:j≠i:=by rintro rfl;rw[hI] at hB;cases hB
    unfold upd;rw[if_neg hH]
   have hf:∀t∈o.looksAt ops,a.tmps[t]?=(lay (fun _=>true) y ops.toList 0 a0.tmps)[t]?:=fun t ht=>by rw[ha];exact Bj hok ho hL t ht
   have hu:execOp a.eval o=execOp ({ a0 with tmps:=lay (fun _=>true) y ops.toList 0 a0.tmps }:Act).eval o:=by
    refine execOp_congr o hw fun x hx => ?_;cases x with
    | tmp t=>
     have:=hf t (oV _ (Jn.2 ⟨.tmp t,by simpa using hx,rfl⟩));simp[Act.eval,this]
    | _=>rfl
   have d:Region.wanted o (yielded ops a.tmps)=Region.wanted o (yielded ops (lay (fun _=>true) y ops.toList 0 a0.tmps)):=by
    unfold Region.wanted;cases hg:o.guard with
    | none=>rfl
    | some gw=>
     obtain⟨g,want⟩:=gw;have:yielded ops a.tmps g=yielded ops (lay (fun _=>true) y ops.toList 0 a0.tmps) g:=by
      unfold yielded;cases hd:(ops[g]?).bind (·.dst) with
      | none=>rfl
      | some t=>
       have:=hf t (uB _ (by simp[hg,hd]));simp[this]
     simp only[this]
   have hs:=hstep i o him ho y w hb (fun j hj=>by
    obtain⟨e,he,hJ⟩:=je.1 hj;have hC : e.on=j:=by simpa using hJ
    subst hC;have hD:=mV.1 he;exact hR e.on (by have:=(b e hD).2;omega) (hL e hD))
   by_cases hwt:Region.wanted o (yielded ops (lay (fun _=>true) y ops.toList 0 a0.tmps))=true
   ·rw[if_pos hwt] at hs;exact rM ho (by rw[d];exact hwt) hu hs fun v w' h=>z v w' h
   rw[if_neg hwt] at hs;unfold wpOp;simp only[ho];rw[if_neg (by rw[d];exact hwt)];exact z undef w hs
 refine hE ops.size _ _ _ (by simp) ?_ ⟨fun i _ => ?_,fun i o' n hi => ?_,fun _=>undef,?_,hb0,?_⟩
 ·simpa using tH (p:=(!·)) (l:=List.replicate ops.size false)
 ·simp[bT,qV];split<;>rfl
 ·exfalso;have:i<ops.size:=(iB.1 n).1;simp[bT,this] at hi
 ·have e:lay (fun i=>(Array.replicate ops.size false).getD i false) (fun _=>undef) ops.toList 0 a0.tmps=a0.tmps:=by apply mr;intro s;exact iR _ _ s _ 0 _ fun k o' hk hd=>by simp[bT,qV];split<;>rfl
  rw[e]
 intro i hi hL;exfalso;have:(Array.replicate ops.size false).getD i false=false:=by simp[bT,qV];split<;>rfl
 rw[this] at hL;cases hL
def Es (P:Program) (ops:Array Oper) (a0:Act) (m:Nat) (l:List wK) (B:World→Prop) (i:Nat) (o:Oper):Prop:=
 ∀(ρ:Operand→Value) (y:Nat→Value) (w:World),(∀t j,writer ops t=some j→ρ (.tmp t)=y j)→(∀x,(match x with | .tmp t=>writer ops t=none | _=>True)→ρ x=a0.eval x) →
  B w→(∀j,o.after.toList.any (fun e=>e.on==j)=true→(ry l j).r y w) →
  if Region.wanted o (gN ρ ops)=true then dP P o ρ w (wT m l B i y w) else wT m l B i y w undef w
theorem OP (m:Nat) (l:List wK) (B:World→Prop) (hbst:∀w w',Below w.heap.size w w'→B w→B w') (hok:jh ops=true) (ht:iD ops m=true) (hmn:m≤ops.size) (hon:Sz ops m l=true) (hb0:B w0)
 (n:Nat) (hn:a0.tmps.size=n) (hsz:jA ops n=true)
 (hstep:aX (Es P ops a0 m l B) 0 (ops.toList.take m))
 (hend:∀y w,B w→(∀i,i<m→(ry l i).r y w)→wpList P ops Q (ops.toList.drop m) { a0 with tmps:=lay (fun i=>decide (i<m)) y ops.toList 0 a0.tmps } w) :
  wpAny P .any ops Q ops.size (Array.replicate ops.size false) a0 w0:=by
 refine Cv m l B hbst hok ht hmn hon hb0 (fun i o z hi y w hb hd => ?_) hend;have f:∀t j,writer ops t=some j→({ a0 with tmps:=lay (fun _=>true) y ops.toList 0 a0.tmps }:Act).eval (.tmp t)=y j:=by
  intro t j hw;unfold writer at hw;have h1:=qM hw;have h2:=dG.1 (uu hw);cases ho:ops[j]? with
  | none=>simp[ho] at h1
  | some p=>
   have a : p.dst=some t:=by simpa[ho] using h1
   have u:t<a0.tmps.size:=by have:=dF.1 hsz p (mV.2 (zH ho));rw[hn];simpa[a] using this
   have hu:∀k' o',ops.toList[k']?=some o'→o'.dst=some t→k' = j:=by
    intro k' o' b hc;rcases ((gI hok (i:=k') (o:=o') (by simpa using b)).2.2 j p t ho a).1 with h|h
    ·exact h
    ·exact absurd hc h
   have:=lg (fun _=>true) y t ops.toList 0 a0.tmps j p (by simpa using ho) a rfl hu u;simp[Act.eval,this]
 have s:∀x,(match x with | .tmp t=>writer ops t=none | _=>True)→({ a0 with tmps:=lay (fun _=>true) y ops.toList 0 a0.tmps }:Act).eval x=a0.eval x:=by
  intro x hx;cases x with
  | tmp t=>
   have:(lay (fun _=>true) y ops.toList 0 a0.tmps)[t]?=a0.tmps[t]?:=by
    refine iR _ y t _ 0 _ fun k o' hk a => ?_;exfalso;simp only[writer] at hx;have b : ops[k]?=some o':=by simpa using hk
    have e:k<ops.size:=(iB.1 b).1;have:=pK.1 hx k (dG.2 e);simp[b,a] at this
   simp[Act.eval,this]
  | _=>rfl
 have c:Region.wanted o (yielded ops (lay (fun _=>true) y ops.toList 0 a0.tmps))=Region.wanted o (gN ({ a0 with tmps:=lay (fun _=>true) y ops.toList 0 a0.tmps }:Act).eval ops):=by
  congr 1;funext g;unfold yielded gN;cases (ops[g]?).bind (·.dst) with
  | none=>rfl
  | some d=>
   simp only[zI,Act.eval,bT];generalize (lay (fun _=>true) y ops.toList 0 a0.tmps)[d]?=q;cases q with
   | none=>rfl
   | some v=>cases v<;>rfl
 have ha : (ops.toList.take m)[i]?=some o:=by rw[lY,if_pos z];simpa using hi
 have:=aX.at hstep i o ha _ y w f s hb hd;rw[dZ] at this;rw[c];exact this
theorem Ru (m:Nat) (l:List wK) (B:World→Prop) (hbst:∀w w',Below w.heap.size w w'→B w→B w') (hb0:B w0) (hm:P.follows .mixedOrders=true)
 (ops' : Array Oper) (hs:cz ops=ops') (hok:jh ops' = true) (ht:iD ops' m=true) (hmn:m≤ops'.size) (hon:Sz ops' m l=true)
 (n:Nat) (hn:a0.tmps.size=n) (hsz:jA ops' n=true)
 (hstep:aX (Es P ops' a0 m l B) 0 (ops'.toList.take m))
 (hend:∀y w,B w→(∀i,i<m→(ry l i).r y w)→wpList P ops' Q (ops'.toList.drop m) { a0 with tmps:=lay (fun i=>decide (i<m)) y ops'.toList 0 a0.tmps } w) :
  (Code.region id ops true).wp P Q a0 w0:=by
 refine wp_region_any hm (yf _ _ _ _ ?_);subst hs;have h2:B { w0 with drawn:=w0.drawn+1 }:=hbst w0 _ ⟨rfl,rfl,rfl,az _,fun _ _=>rfl⟩ hb0;have:=OP m l B hbst hok ht hmn hon h2 n hn hsz hstep hend;rw[vI] at this;exact this
theorem TF (y:Nat→Value) (i:Nat) (v:Value):upd y i v i=v:=by unfold upd;rw[if_pos rfl]
theorem pO {m:Nat} {l:List wK} {B:World→Prop} (hbst:∀w w',Below w.heap.size w w'→B w→B w') (hB:B w) (hb:Below w.heap.size w w') (hR:(ry l i).r (upd y i v) w'):wT m l B i y w v w':=
 ⟨hbst _ _ hb hB,hR,fun k _ _ h=>(ry l k).st _ _ _ hb h⟩
theorem mh {m:Nat} {l:List wK} {B:World→Prop} (hbst:∀w w',Below w.heap.size w w'→B w→B w') (hB:B w) (R:lT) (hR:∀v w',R.r v w'→(ry l i).r (upd y i v) w')
 (h:if Region.wanted o (gN ρ ops)=true then dP P o ρ w (fun v w'=>Below w.heap.size w w'∧rl (List.replicate (i+1) R) i v w') else rl (List.replicate (i+1) R) i undef w) :
  if Region.wanted o (gN ρ ops)=true then dP P o ρ w (wT m l B i y w) else wT m l B i y w undef w:=by
 have e:∀v w,rl (List.replicate (i+1) R) i v w=R.r v w:=by intro v w;unfold rl;rw[aV,oK,if_pos (by omega)];rfl
 simp only[e] at h
 by_cases hw:Region.wanted o (gN ρ ops)=true
 ·rw[if_pos hw] at h ⊢;unfold dP at h ⊢;generalize (execOp ρ o).run P w=q at h ⊢;cases q with
  | ok n w'=>
   cases n with
   | value v=>exact pO hbst hB h.1 (hR _ _ h.2)
   | skip=>exact pO hbst hB h.1 (hR _ _ h.2)
   | enter f args=>
    refine xG h fun e w'' he => ?_;cases e
    case returned v=>exact pO hbst hB he.1 (hR _ _ he.2)
    all_goals exact he
   | _=>exact h
  | halt x w'=>exact h
 rw[if_neg hw] at h ⊢;exact pO hbst hB (Below.refl _ _) (hR _ _ h)
def kD (B:Nat) (T:TypeId) (n:Nat):lT:=⟨fun v w => ∃g cs,v = .pointer (some ⟨g,0,none⟩)∧B≤g∧aA w g cs T∧cs.size=n,fun _ _ _ hb ⟨g,cs,h1,h2,h3,h4⟩=>⟨g,cs,h1,h2,h3.ext hb,h4⟩⟩
theorem pW (h:(kD B T n).r v w) (hg:aA w' g cs T') (hsz:T=T'→cs.size=n) (hold:∃cur,aA w g cur T') (hgr:w.grownBy w' (some g)):(kD B T n).r v w':=by
 obtain⟨g',cs',h1,h2,h3,h4⟩:=h
 by_cases e:g' = g
 ·subst e;obtain⟨cur,hc⟩:=hold;have e2:T=T':=by unfold aA at h3 hc;rw[hc] at h3;simp only[jg,tO] at h3;exact h3.2.1.symm
  subst e2;exact⟨g',cs,h1,h2,hg,hsz rfl⟩
 ·exact⟨g',cs',h1,h2,h3.grown hgr (fun e2=>e (aJ e2).symm),h4⟩
theorem sD {m:Nat} {l:List wK} {B:World→Prop} (hw:Region.wanted o (gN ρ ops)=true) (ty:TypeId) (x z:Operand) (ho:o.op = .store ty x z)
 (g off:Nat) (v:Value) (cells:List Value) (hx:ρ x = .pointer (some ⟨g,off,none⟩)) (hz:ρ z=v) (hc:v.cells.toList=cells) (cur:Array Value) (T:TypeId) (hg:aA w g cur T)
 (hfit:off+cells.length≤cur.size) (hi:(P.info? ty).map (·.size)=some cells.length) (h1:∀u∈cells,u.oneCell' = true)
 (h:∀w',aA w' g (bD cur off cells) T→w.grownBy w' (some g)→wT m l B i y w undef w') :
  if Region.wanted o (gN ρ ops)=true then dP P o ρ w (wT m l B i y w) else wT m l B i y w undef w:=by
 rw[if_pos hw];have a:=run_storeCells_cells (P:=P) g off cells 0 w
  (fun j hj=>by rw[iH,hg.cell];simp[show off+j<cur.size by omega]) (fun j hj=>hg.free _) h1
 simp only[iH] at a;have b:(storeVar ty ⟨g,off,none⟩ v).run P w = .ok () (w.setCells g off cells):=by
  cases hq:P.info? ty with
  | none=>simp[hq] at hi
  | some i=>
   have hs:i.size=cells.length:=by simpa[hq] using hi
   have hv:v.cells.size=cells.length:=by rw[←hc];simp
   simp[storeVar,Go.sizeOf,typeInfo,hq,hs,hv,hc,a]
 unfold dP execOp;simp only[ho,hx,hz,Instr.storeAt,Instr.sureAddr,jX,rR,sj,b];exact h _ (hg.setCells _ _) (aH _ _ _ _)
inductive Ul where
 | v (V:Value)
 | r (i:Nat) (R:lT)
 | y (i:Nat) (R:wK)
def rvyN:Ul:=.r 0 anyR
def rvyR:List Ul→Nat→List wK
 | [],_=>[]
 | .v V::l,i=>XD i (ve V)::rvyR l (i+1)
 | .r _ R::l,i=>XD i R::rvyR l (i+1)
 | .y _ R::l,i=>R::rvyR l (i+1)
def toRV:List Ul→List RV
 | []=>[]
 | .v V::l => .v V::toRV l
 | .r i _::l => .r i anyR::toRV l
 | .y i _::l => .r i anyR::toRV l
theorem rvy_at:∀(l:List Ul) (i k:Nat) {V:Value},l.getD i rvyN = .v V→(rvyR l k).getD i anyY=XD (k+i) (ve V)∧(toRV l).getD i rvN = .v V
 | [],_,_,_,h=>by cases h
 | a::l,0,k,V,h=>by have h' : a = .v V:=h;subst h';exact⟨rfl,rfl⟩
 | a::l,i+1,k,V,h=>by have:=rvy_at l i (k+1) (V:=V) (by simpa using h);rw[show k+(i+1)=k+1+i by omega];cases a<;>exact⟨by simpa[rvyR] using this.1,by simpa[toRV] using this.2⟩
theorem rvy_rl:∀(l:List Ul) (j k:Nat) {y:Nat→Value} {w:World},((rvyR l k).getD j anyY).r y w→rl (rvs (toRV l)) j (y (k+j)) w
 | [],_,_,_,_,_=>by unfold rl toRV rvs;simp[anyR]
 | a::l,0,k,y,w,h=>by
  cases a with
  | v V=>exact h
  | r i R=>exact trivial
  | y i R=>exact trivial
 | a::l,j+1,k,y,w,h=>by
  have h' : ((rvyR l (k+1)).getD j anyY).r y w:=by cases a<;>simpa[rvyR] using h
  have:=rvy_rl l j (k+1) h';rw[show k+(j+1)=k+1+j by omega];unfold rl at this ⊢;cases a<;>simpa[toRV,rvs] using this
section
variable {P:Program} {ops:Array Oper} {a0:Act} {m:Nat} {l:List Ul} {B:World→Prop} {i:Nat} {o:Oper} {r:List Oper}
theorem yT (hbst:∀w w',Below w.heap.size w w'→B w→B w') (hv:l.getD i rvyN = .v V)
 (h:∀ρ y w,B w→Kn ops a0 (toRV l) o ρ y w→(Region.wanted o (gN ρ ops)=false∧V=undef)∨(Region.wanted o (gN ρ ops)=true∧(execOp ρ o).run P w = .ok (.value V) w)):Es P ops a0 m (rvyR l 0) B i o:=fun ρ y w hw hn hB hd=>by
 have hk:Kn ops a0 (toRV l) o ρ y w:=⟨hw,hn,fun j hj=>by have:=rvy_rl l j 0 (hd j hj);rwa [dZ] at this⟩;have e:∀w',(ry (rvyR l 0) i).r (upd y i V) w':=fun w'=>by unfold ry;rw[(rvy_at l i 0 hv).1,dZ];exact TF _ _ _
 rcases h ρ y w hB hk with ⟨h1,h2⟩|⟨h1,h2⟩
 ·rw[if_neg (by rw[h1];exact Bool.false_ne_true),←h2];exact pO hbst hB (Below.refl _ _) (e w)
 rw[if_pos h1];unfold dP;rw[h2];exact pO hbst hB (Below.refl _ _) (e w)
theorem zA.runY (hv:l.getD i rvyN = .v V) (h:zA P ops a0 (toRV l) i o):∀ρ y w,Kn ops a0 (toRV l) o ρ y w→(Region.wanted o (gN ρ ops)=false∧V=undef)∨(Region.wanted o (gN ρ ops)=true∧(execOp ρ o).run P w = .ok (.value V) w):=fun ρ y w hk=>by
 have e:∀v w,rl (rvs (toRV l)) i v w→v=V:=fun v w hr=>by unfold rl at hr;rw[rvs_at,(rvy_at l i 0 hv).2] at hr;exact hr
 rcases h ρ y w hk with ⟨h1,h2⟩|⟨h1,v,h2,h3⟩
 ·exact .inl ⟨h1,(e _ _ h2).symm⟩
 ·exact .inr ⟨h1,by rw[←e _ _ h3];exact h2⟩
abbrev AY (P:Program) (ops:Array Oper) (a0:Act) (m:Nat) (l:List Ul) (B:World→Prop) (i:Nat) (r:List Oper):Prop:=aX (Es P ops a0 m (rvyR l 0) B) i r
theorem VD (hbst:∀w w',Below w.heap.size w w'→B w→B w') (hv:l.getD i rvyN = .v V) (h:zA P ops a0 (toRV l) i o):Es P ops a0 m (rvyR l 0) B i o:=yT hbst hv fun ρ y w _ hk=>h.runY hv ρ y w hk
theorem Yk (hbst:∀w w',Below w.heap.size w w'→B w→B w') (h:(ks ops a0 (toRV l) o).map Ul.v=some (l.getD i rvyN)) (hl:AY P ops a0 m l B (i+1) r):AY P ops a0 m l B i (o::r):=by
 cases hk:ks ops a0 (toRV l) o with
 | none=>rw[hk] at h;cases h
 | some V=>
  rw[hk] at h;have hv:=(aJ h).symm;exact⟨VD hbst hv (Vy hk (rvy_at l i 0 hv).2),hl⟩
theorem Yf (hbst:∀w w',Below w.heap.size w w'→B w→B w') (b k:Nat) (h:Xh ops a0 (toRV l) o=some (t,v,f)) (hv:l.getD i rvyN = .v (.pointer (some ⟨b,k,none⟩))) (hl:AY P ops a0 m l B (i+1) r) (hf:∀w,(Instr.fieldAt t v f).run P w = .ok (.pointer (some ⟨b,k,none⟩)) w:=by intro _;kernel_rfl):AY P ops a0 m l B i (o::r):=
 ⟨(MN (C:=fun i o=>zA P ops a0 (toRV l) i o) (r:=[]) id b k h (rvy_at l i 0 hv).2 trivial hf).1 |> VD hbst hv,hl⟩
theorem Yr (hbst:∀w w',Below w.heap.size w w'→B w→B w') (V:Value) (h:∀ρ y w,B w→Kn ops a0 (toRV l) o ρ y w→(execOp ρ o).run P w = .ok (.value V) w) (hg:kg ops a0 (toRV l) o=some true) (hv:l.getD i rvyN = .v V) (hl:AY P ops a0 m l B (i+1) r):AY P ops a0 m l B i (o::r):=
 ⟨yT hbst hv fun ρ y w hB hk => .inr ⟨Ei hg hk,h ρ y w hB hk⟩,hl⟩
theorem Yc (hbst:∀w w',Below w.heap.size w w'→B w→B w') (V:Value) (hc:∀w,B w→w.cell? ⟨b,k,none⟩=some V) (hg:kg ops a0 (toRV l) o=some true) (ho:o.op = .load t x) (hx:kx ops a0 (toRV l) o x=some (.pointer (some ⟨b,k,none⟩))) (hv:l.getD i rvyN = .v V) (hl:AY P ops a0 m l B (i+1) r) (hs:WP P t=true:=by kernel_rfl):AY P ops a0 m l B i (o::r):=
 ⟨yT hbst hv fun ρ y w hB hk => .inr ⟨Ei hg hk,run_load ho (aC hx hk) (by simp only[Instr.loadAt,Instr.sureAddr,jX,rR,sj,rP hs (hc w hB)])⟩,hl⟩
end
theorem toRV_len:∀l:List Ul,(toRV l).length=l.length
 | []=>rfl
 | a::l=>by cases a<;>simp[toRV,toRV_len l]
theorem gP :∀w w',Below w.heap.size w w'→Below w0.heap.size w0 w→Below w0.heap.size w0 w':=fun _ _ h h2=>ae h2 h
theorem nA {df:List Deferred} (m:Nat) (l:List Ul) (B:World→Prop) (hbst:∀w w',Below w.heap.size w w'→B w→B w') (hb0:B w0)
 (hstep:AY P (cz ops) ⟨t0,df⟩ m l B 0 ((cz ops).toList.take m)) {tm:(Nat→Value)→List Value} (hf:∀y,yE y (toRV l) (cz ops).toList t0.toList=some (tm y)) (hd:wr ((cz ops).toList.drop m)=some rest)
 (hend:∀y w,B w→(∀i,i<m→(ry (rvyR l 0) i).r y w)→wpList P (cz ops) Q rest ⟨(tm y).toArray,df⟩ w)
 (hm:P.follows .mixedOrders=true:=by kernel_rfl) (hok:jh (cz ops)=true:=by kernel_rfl) (ht:iD (cz ops) m=true:=by kernel_rfl) (hmn:m≤(cz ops).size:=by decide) (hon:Sz (cz ops) m (rvyR l 0)=true:=by kernel_rfl) (hll:l.length=m:=by rfl) (hix:idxOk (toRV l) 0=true:=by kernel_rfl)
 (hsz:jA (cz ops) t0.size=true:=by kernel_rfl):(Code.region id ops true).wp P Q ⟨t0,df⟩ w0:=by
 refine Ru m (rvyR l 0) B hbst hb0 hm (cz ops) rfl hok ht hmn hon _ rfl hsz hstep fun y w hb hR => ?_;have h:=hend y w hb hR;rw[Lr hd];have e:=vT (m:=m) (y:=y) (w:=w) (toRV l) (cz ops).toList 0 t0 hix (by rw[toRV_len,hll,dZ]) (by rw[toRV_len,hll,iO];exact hmn) fun i hi=>by have:=rvy_rl l i 0 (hR i (by rw[toRV_len,hll] at hi;exact hi));rw[dZ] at this ⊢;exact this
 show wpList P (cz ops) Q rest ⟨lay (fun i=>decide (i<m)) y (cz ops).toList 0 t0,df⟩ w;have e2:=aJ (e.symm.trans (hf y));have e3:lay (fun i=>decide (i<m)) y (cz ops).toList 0 t0=(tm y).toArray:=by rw[←e2]
 rw[e3];exact h
theorem dP.mono {F G:Value→World→Prop} (h:dP P o ρ w F) (hFG:∀v w',F v w'→G v w'):dP P o ρ w G:=by
 unfold dP at h ⊢;generalize (execOp ρ o).run P w=r at h ⊢;cases r with
 | ok n w'=>
  cases n with
  | value v=>exact hFG _ _ h
  | skip=>exact hFG _ _ h
  | enter f args=>
   refine xG h fun e w'' he => ?_;cases e with
   | returned v=>exact hFG _ _ he
   | panicked c=>exact he.elim
   | outgrown=>exact he.elim
  | _=>exact h.elim
 | halt x w'=>exact h.elim
def Gm (R:Nat→Value→World→Prop) (p q i:Nat) (v:Value) (w:World):Prop:=(i=p→∀u,R q u w→v≠u)∧(i=q→∀u,R p u w→v≠u)
theorem Jh (m p q:Nat) (hpm:p<m) (hqm:q<m) (hpq:p≠q) (hok:jh ops=true) (ht:iD ops m=true) (hmn:m≤ops.size)
 (R:Nat→Value→World→Prop) (hstab:∀i v w w',Below w.heap.size w w'→R i v w→R i v w')
 (hstep:∀i o,i<m→ops[i]?=some o→∀y w,Below w0.heap.size w0 w→(∀j,o.after.toList.any (fun e=>e.on==j)=true→R j (y j) w) →
 if Region.wanted o (yielded ops (lay (fun _=>true) y ops.toList 0 a0.tmps))=true then Gives P o { a0 with tmps:=lay (fun _=>true) y ops.toList 0 a0.tmps } w (fun v w'=>(Below w.heap.size w w'∧R i v w')∧Gm R p q i v w) else R i undef w∧i≠p∧i≠q)
 (hend:∀y w,Below w0.heap.size w0 w→(∀i,i<m→R i (y i) w)→y p≠y q→wpList P ops Q (ops.toList.drop m) { a0 with tmps:=lay (fun i=>decide (i<m)) y ops.toList 0 a0.tmps } w) :
  Below w0.heap.size w0 { w0 with drawn:=w0.drawn+1 }→wpAny P .any ops Q ops.size (Array.replicate ops.size false) a0 { w0 with drawn:=w0.drawn+1 }:=
 fun _=>BN m hok ht hmn (fun _ _ _=>True) (fun L y w=>(Below w0.heap.size w0 w∧∀i,L i=true→R i (y i) w)∧(L p=true→L q=true→y p≠y q)) (fun y=>⟨⟨⟨rfl,rfl,rfl,az _,fun _ _=>rfl⟩,fun i h=>(by cases h)⟩,fun h=>(by cases h)⟩) (fun _ _ _ _ _=>trivial) (fun i o hi ho L y w hL hd hJ _=>by
  have h:=hstep i o hi ho y w hJ.1.1 (fun j hj=>hJ.1.2 j (hd j hj));have hup:∀v w',Below w.heap.size w w'→R i v w'→Below w0.heap.size w0 w'∧∀k,bY L i k=true→R k (dB y i v k) w':=fun v w' hb hr=>⟨ae hJ.1.1 hb,fun k hk=>Oe hJ.1.2 hr (fun k v h=>hstab k v _ _ hb h) k hk⟩;split at h
  ·rename_i hw;rw[if_pos hw];refine El h fun v w' hh=>⟨⟨hup v w' hh.1.1 hh.1.2,fun hp hq => ?_⟩,trivial⟩;unfold bY at hp hq;unfold dB
   by_cases e1:p=i
   ·rw[if_pos e1,if_neg (fun e2=>hpq (e1.trans e2.symm))];rw[if_neg (fun e2=>hpq (e1.trans e2.symm))] at hq;exact hh.2.1 e1.symm _ (hJ.1.2 q hq)
   rw[if_neg e1] at hp ⊢
   by_cases e2:q=i
   ·rw[if_pos e2];exact fun e=>hh.2.2 e2.symm _ (hJ.1.2 p hp) e.symm
   rw[if_neg e2] at hq ⊢;exact hJ.2 hp hq
  rename_i hw;rw[if_neg hw];refine⟨⟨hup undef w (Below.refl _ _) h.1,fun hp hq => ?_⟩,trivial⟩;unfold bY at hp hq;unfold dB;rw[if_neg (fun e=>h.2.1 e.symm)] at hp ⊢;rw[if_neg (fun e=>h.2.2 e.symm)] at hq ⊢;exact hJ.2 hp hq) (fun y w hJ _=>hend y w hJ.1.1 (fun i hi=>hJ.1.2 i (decide_eq_true hi)) (hJ.2 (decide_eq_true hpm) (decide_eq_true hqm)))
def RD (P:Program) (ops:Array Oper) (a0:Act) (w0:World) (l:List lT) (p q i:Nat) (o:Oper):Prop:=
 ∀(ρ:Operand→Value) (y:Nat→Value) (w:World),(∀t j,writer ops t=some j→ρ (.tmp t)=y j)→(∀x,(match x with | .tmp t=>writer ops t=none | _=>True)→ρ x=a0.eval x) →
  Below w0.heap.size w0 w→(∀j,o.after.toList.any (fun e=>e.on==j)=true→rl l j (y j) w) →
  if Region.wanted o (gN ρ ops)=true then dP P o ρ w (fun v w'=>(Below w.heap.size w w'∧rl l i v w')∧Gm (rl l) p q i v w) else rl l i undef w∧i≠p∧i≠q
theorem uO {l:List lT} (hp:i≠p) (hq:i≠q) (h:nH P ops a0 w0 l i o):RD P ops a0 w0 l p q i o:=by
 intro ρ y w h1 h2 h3 h4;have:=h ρ y w h1 h2 h3 h4;split at this
 ·rename_i hw;rw[if_pos hw];exact dP.mono this fun v w' hv=>⟨hv,fun e=>absurd e hp,fun e=>absurd e hq⟩
 rename_i hw;rw[if_neg hw];exact⟨this,hp,hq⟩
theorem SF (m p q:Nat) (l:List lT) (hm:P.follows .mixedOrders=true) (hpm:p<m) (hqm:q<m) (hpq:p≠q)
 (ops' : Array Oper) (hs:cz ops=ops') (hok:jh ops' = true) (ht:iD ops' m=true) (hmn:m≤ops'.size)
 (n:Nat) (hn:a0.tmps.size=n) (hsz:jA ops' n=true)
 (hstep:aX (RD P ops' a0 w0 l p q) 0 (ops'.toList.take m))
 (hend:∀y w,Below w0.heap.size w0 w→(∀i,i<m→rl l i (y i) w)→y p≠y q→wpList P ops' Q (ops'.toList.drop m) { a0 with tmps:=lay (fun i=>decide (i<m)) y ops'.toList 0 a0.tmps } w) :
  (Code.region id ops true).wp P Q a0 w0:=by
 refine wp_region_any hm (yf _ _ _ _ ?_);subst hs;have:=Jh m p q hpm hqm hpq hok ht hmn (rl l) (fun i v w w' hb h=>(l.getD i anyR).st v w w' hb h) (P:=P) (Q:=Q) (a0:=a0) (w0:=w0) (fun i o u hi y w hb hd => ?_) hend ⟨rfl,rfl,rfl,az _,fun _ _=>rfl⟩
 ·rw[vI] at this;exact this
 have f:∀t j,writer (cz ops) t=some j→({ a0 with tmps:=lay (fun _=>true) y (cz ops).toList 0 a0.tmps }:Act).eval (.tmp t)=y j:=by
  intro t j hw;unfold writer at hw;have h1:=qM hw;have h2:=dG.1 (uu hw);cases ho:(cz ops)[j]? with
  | none=>simp[ho] at h1
  | some p=>
   have a : p.dst=some t:=by simpa[ho] using h1
   have s:t<a0.tmps.size:=by have:=dF.1 hsz p (mV.2 (zH ho));rw[hn];simpa[a] using this
   have hu:∀k' o',(cz ops).toList[k']?=some o'→o'.dst=some t→k' = j:=by
    intro k' o' b ha;rcases ((gI hok (i:=k') (o:=o') (by simpa using b)).2.2 j p t ho a).1 with h|h
    ·exact h
    ·exact absurd ha h
   have:=lg (fun _=>true) y t (cz ops).toList 0 a0.tmps j p (by simpa using ho) a rfl hu s;simp[Act.eval,this]
 have r:∀x,(match x with | .tmp t=>writer (cz ops) t=none | _=>True)→({ a0 with tmps:=lay (fun _=>true) y (cz ops).toList 0 a0.tmps }:Act).eval x=a0.eval x:=by
  intro x hx;cases x with
  | tmp t=>
   have:(lay (fun _=>true) y (cz ops).toList 0 a0.tmps)[t]?=a0.tmps[t]?:=by
    refine iR _ y t _ 0 _ fun k o' hk a => ?_;exfalso;simp only[writer] at hx;have b : (cz ops)[k]?=some o':=by simpa using hk
    have e:k<(cz ops).size:=(iB.1 b).1;have:=pK.1 hx k (dG.2 e);simp[b,a] at this
   simp[Act.eval,this]
  | _=>rfl
 have c:Region.wanted o (yielded (cz ops) (lay (fun _=>true) y (cz ops).toList 0 a0.tmps))=Region.wanted o (gN ({ a0 with tmps:=lay (fun _=>true) y (cz ops).toList 0 a0.tmps }:Act).eval (cz ops)):=by
  congr 1;funext g;unfold yielded gN;cases ((cz ops)[g]?).bind (·.dst) with
  | none=>rfl
  | some d=>
   simp only[zI,Act.eval,bT];generalize (lay (fun _=>true) y (cz ops).toList 0 a0.tmps)[d]?=q;cases q with
   | none=>rfl
   | some v=>cases v<;>rfl
 have z : ((cz ops).toList.take m)[i]?=some o:=by rw[lY,if_pos u];simpa using hi
 have:=aX.at hstep i o z _ y w f r hb hd;rw[dZ] at this;rw[c];exact this
theorem JR {l:List lT} (hp:∀u,rl l q u w→∃g cs T,u = .pointer (some ⟨g,0,none⟩)∧aA w g cs T) (hq:∀u,rl l p u w→∃g cs T,u = .pointer (some ⟨g,0,none⟩)∧aA w g cs T):Gm (rl l) p q i (.pointer (some ⟨w.heap.size,0,none⟩)) w:=by
 refine⟨fun _ u hu e => ?_,fun _ u hu e => ?_⟩
 ·obtain⟨g,cs,T,rfl,hb⟩:=hp u hu;have:=hb.lt;injection e with e;have e:=aJ e;injection e with e1;omega
 obtain⟨g,cs,T,rfl,hb⟩:=hq u hu;have:=hb.lt;injection e with e;have e:=aJ e;injection e with e1;omega
theorem TM (m:Nat) (l:List lT) (J:(Nat→Bool)→(Nat→Value)→World→Prop) (hst:∀L y w w',Below w.heap.size w w'→J L y w→J L y w') (hJ0:∀y,J (fun _=>false) y w0) (hfix:Fixed l) (hm:P.follows .mixedOrders=true) (ops' : Array Oper) (hs:cz ops=ops') (hok:jh ops' = true) (ht:iD ops' m=true) (hmn:m≤ops'.size)
 (n:Nat) (hn:a0.tmps.size=n) (hsz:jA ops' n=true)
 (hstep:aX (lC P ops' a0 J l) 0 (ops'.toList.take m))
 (hend:∀y w,J (fun i=>decide (i<m)) y w→(∀i,i<m→rl l i (y i) w)→wpList P ops' Q (ops'.toList.drop m) { a0 with tmps:=lay (fun i=>decide (i<m)) y ops'.toList 0 a0.tmps } w) :
  (Code.region id ops true).wp P Q a0 w0:=by
 refine wp_region_any hm (yf _ _ _ _ ?_);have h9:=Br m l J hst hJ0 hfix hok ht hmn n hn hsz hstep hend;subst hs;rw[vI] at h9;exact h9
theorem nD {df:List Deferred} (m:Nat) (l:List RV) (J:(Nat→Bool)→(Nat→Value)→World→Prop) (hst:∀L y w w',Below w.heap.size w w'→J L y w→J L y w') (hJ0:∀y,J (fun _=>false) y w0)
 (hstep:aX (lC P (cz ops) ⟨t0,df⟩ J (rvs l)) 0 ((cz ops).toList.take m)) {tm:(Nat→Value)→List Value} (hf:∀y,yE y l (cz ops).toList t0.toList=some (tm y)) (hd:wr ((cz ops).toList.drop m)=some rest)
 (hend:∀y w,J (fun i=>decide (i<m)) y w→(∀i,i<m→rl (rvs l) i (y i) w)→wpList P (cz ops) Q rest ⟨(tm y).toArray,df⟩ w)
 (hfix:Fixed (rvs l):=by repeat (first | exact fix_nil | refine EA (fun _ _ _ h=>h) ?_))
 (hm:P.follows .mixedOrders=true:=by kernel_rfl) (hok:jh (cz ops)=true:=by kernel_rfl) (ht:iD (cz ops) m=true:=by kernel_rfl) (hmn:m≤(cz ops).size:=by decide) (hll:l.length=m:=by rfl) (hix:idxOk l 0=true:=by kernel_rfl)
 (hsz:jA (cz ops) t0.size=true:=by kernel_rfl):(Code.region id ops true).wp P Q ⟨t0,df⟩ w0:=by
 refine TM m (rvs l) J hst hJ0 hfix hm (cz ops) rfl hok ht hmn _ rfl hsz hstep fun y w hb hR => ?_;have h:=hend y w hb hR;rw[Lr hd];show wpList P (cz ops) Q rest ⟨lay (fun i=>decide (i<m)) y (cz ops).toList 0 t0,df⟩ w;rw[QV hix hll hmn hR (hf y)];exact h
end Pw
namespace Go.Proofs.YtjkkoeijlhfneaaGreat
open _root_.Go.Proofs.Tryz
open Go.RowKit Go.Maps Pw
variable {L:Nat → Bool} {P:Program} {Q:Exit → Act → World → Prop} {a:Option Addr} {b i n:Nat} {l:List Int} {o op:Oper} {ops:Array Oper} {rest:List Oper} {v:Value} {vs:List Value} {w w':World} {y:Nat → Value} {ρ:Operand → Value}
theorem sU (ty:TypeId) (x y:Operand) (ho:op.op = .store ty x y)
 (b o:Nat) (v:Value) (cells:List Value) (hx:ρ x = .pointer (some ⟨b,o,none⟩)) (hy:ρ y=v) (hc:v.cells.toList=cells) (cur:Array Value) (T:TypeId) (hg:aA w b cur T)
 (hfit:o+cells.length≤cur.size) (hi:(P.info? ty).map (·.size)=some cells.length) (h1:∀u∈cells,u.oneCell' = true):(execOp ρ op).run P w = .ok .skip (w.setCells b o cells):=by
 have a:=run_storeCells_cells (P:=P) b o cells 0 w
  (fun j hj=>by rw[iH,hg.cell];simp[show o+j<cur.size by omega]) (fun j hj=>hg.free _) h1
 simp only[iH] at a;have c:(storeVar ty ⟨b,o,none⟩ v).run P w = .ok () (w.setCells b o cells):=by
  cases hq:P.info? ty with
  | none=>simp[hq] at hi
  | some i=>
   have hs:i.size=cells.length:=by simpa[hq] using hi
   have hv:v.cells.size=cells.length:=by rw[←hc];simp
   simp[storeVar,Go.sizeOf,typeInfo,hq,hs,hv,hc,a]
 unfold execOp;simp only[ho,hx,hy,Instr.storeAt,Instr.sureAddr,jX,rR,sj,c]
theorem nz {l:List lT} {J:(Nat→Bool)→(Nat→Value)→World→Prop} (hw:Region.wanted o (gN ρ ops)=true) (hrun:(execOp ρ o).run P w = .ok .skip w')
 (hJ:J (bY L i) (dB y i undef) w') (hR:rl l i undef w') :
  if Region.wanted o (gN ρ ops)=true then dP P o ρ w (fun v w'=>J (bY L i) (dB y i v) w'∧rl l i v w') else J (bY L i) (dB y i undef) w∧rl l i undef w:=by
 rw[if_pos hw];unfold dP;rw[hrun];exact⟨hJ,hR⟩
theorem int_info:(Tryz.prog.info? 3).map (fun i=>(i.zero,i.size,i.bytes))=some (some (.int .i64 0),1,8):=by kernel_rfl
theorem int_size:(Tryz.prog.info? 3).map (·.size)=some 1:=by kernel_rfl
theorem KI (l:List Int):(l.map gB).length=l.length*1:=by simp
theorem JP (l:List Int):∀u∈l.map gB,u.oneCell' = true:=by
 intro u hu;obtain⟨_,_,rfl⟩:=fP.1 hu;rfl
theorem VP (l:List Int) (k:Nat) (h:k<l.length):(l.map gB)[k]?=some (.int .i64 l[k]):=by simp[h,gB]
theorem jD (h:dI w a (l.map gB)) (k:Nat) (hk:k<l.length):∃b off,a=some ⟨b,off,none⟩∧w.cell? ⟨b,off+k,none⟩=some (.int .i64 l[k]):=by
 obtain⟨b,off,ha,hc⟩:=h.at (by simp;omega);exact⟨b,off,ha,hc _ _ (VP l k hk)⟩
theorem int_key:Keyed Tryz.prog 3:=int_keyed underlying3
theorem Mf (w:World):(zeroValue 4).run Tryz.prog w = .ok (.bool false) w:=by kernel_rfl
theorem yL {H:Type} {x:Bool} {ps:List MemPlace} (h:plainElem (H:=H) Tryz.prog 4 v=some (.lit (.bool x),ps)):v = .bool x:=by
 unfold plainElem at h;rw[underlying4] at h;split at h<;>simp_all
def oh (w:World) (b n:Nat) (f:Int→Bool):Prop:=∃D:DataW Unit,w.ownsMap Tryz.prog 3 (plainElem Tryz.prog 4) b n D∧WB D f
theorem oh.made (w:World):oh (w.alloc (.map #[] 0)) w.heap.size 0 (fun _=>false):=⟨_,World.ownsMap_made (H:=Unit) w Tryz.prog 3 (plainElem Tryz.prog 4),WB.empty⟩
theorem oh.below {f:Int→Bool} (h:oh w b n f) (hb:Below w.heap.size w w'):oh w' b n f:=by
 obtain⟨D,h1,h2⟩:=h;exact⟨D,Nu h1 hb,h2⟩
theorem oh.look {f:Int→Bool} (h:oh w b n f) (j:Int) (hj : -9223372036854775808≤j∧j≤9223372036854775807):(Instr.lookup 203 (.map (some b)) (.int .i64 j) false).run Tryz.prog w = .ok (.bool (f j)) w:=by
 obtain⟨D,h0,hf⟩:=h;obtain⟨v,ps,h1,h2⟩:=h0.lookup int_key underlying203 (Mf w) (plainElem_bool underlying4 false) (keyOf_int_mk underlying3 (a:=j) (WalkArith.wf_i64 hj));rw[hf.at_ j] at h2;rw[yL h2] at h1;exact h1
theorem xn {a:Act} {f:Int→Bool} (hown:oh w b n f) (hn:n<1000000000) (hg:o.guard=none) (m x v:Operand) (hop:o.op=Op.mapUpdate 203 m x v)
 (hm:a.eval m = .map (some b)) (j:Int) (hx:a.eval x = .int .i64 j) (hv:a.eval v = .bool true) (hj : -9223372036854775808≤j∧j≤9223372036854775807)
 (hK:∀w',oh w' b (n+1) (fun i=>f i||decide (i=j))→w.grownBy w' (some b)→wpList Tryz.prog ops Q rest (a.put o.dst undef) w'):wpList Tryz.prog ops Q (o::rest) a w:=by
 obtain⟨D,h0,hf⟩:=hown;exact wpList_mapUpdate_own _ hg m x v 203 hop 3 4 int_key underlying203 _ b n D hm h0 (by unfold maxLen;omega) _ _ _ hx hv (keyOf_int_mk underlying3 (WalkArith.wf_i64 hj)) _ [] (plainElem_bool underlying4 true) fun w' h1 h2=>hK w' ⟨_,h1,hf.put j⟩ h2
theorem oh.rdv {f:Int→Bool} (h:oh w b n f) (hr:dI w a vs) (hg:w.grownBy w' (some b)):dI w' a vs:=by
 intro i u hi;obtain⟨b',off,ha,hc⟩:=hr i u hi;refine⟨b',off,ha,hg.cell hc ?_⟩;intro e;cases e;obtain⟨D,⟨es,clock,hb,_⟩,_⟩:=h;simp[World.cell?,hb] at hc
theorem Xy (m:World→Prop) (h:∀W,Below w.heap.size w W→oh W w.heap.size 0 (fun _=>false)→m W):m (w.alloc (.map #[] 0)):=
 h _ ((Below.refl _ _).alloc (az _) _) (oh.made w)
theorem byte_info:(Tryz.prog.info? 5).map (fun i=>(i.zero,i.size,i.bytes))=some (some (.int .u8 0),1,1):=by kernel_rfl
theorem Gu (n:Int) (w:World) (h:n≤9223372036854775807) :
  Calls Tryz.prog 133 #[.int .i64 n] w fun e w'=>e = .returned (.int .i64 (dW n))∧w=w':=by
 by_cases h0:n≤0
 ·go_enter func133,ntmps133;go_wp2;go_ret;exact⟨by simp[dW,h0],rfl⟩
 go_enter func133,ntmps133;go_wp2;go_ret;exact⟨aU (by unfold dW;rw[if_neg (by omega)]),rfl⟩
theorem yP (n:Int) (w:World) (h:n≤9223372036854775807) :
  Calls Tryz.prog 31 #[.int .i64 n] w fun e w'=>e = .returned (.int .i64 (dW n))∧w=w':=by
 by_cases h0:n≤0
 ·go_enter func31,ntmps31;go_wp2;go_ret;exact⟨by simp[dW,h0],rfl⟩
 go_enter func31,ntmps31;go_wp2
 all_goals
  go_ret;exact⟨aU (by unfold dW;rw[if_neg (by omega)];omega),rfl⟩
theorem byte_size:(Tryz.prog.info? 5).map (·.size)=some 1:=by kernel_rfl
end Go.Proofs.YtjkkoeijlhfneaaGreat