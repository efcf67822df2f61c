import Derived.Test.YtjkkoeijlhfneaaGreatJ1
import Derived.ArgAppend
import Derived.Deep.MidRow
import Derived.Deep.Slices
import Derived.Laws.AppendOwnNone
import Derived.Laws.CopyOwn
import Derived.Laws.OwnMore
import Derived.Lib.Hide
import Derived.Maps.Own
import Derived.Maps.Range
import Derived.Maps.Views
import Derived.OpenShut
import Derived.Orders
import Derived.OwnWalk
import Derived.ProofKit
import Derived.SizedLaws
import Derived.WalkKit
import Derived.WalkLawsBesides
import Derived.WalkSpells
import Derived.BigQuiet
import Derived.Deep.DeepCutAuto
import Derived.Deep.QuietTactic
import Derived.IntWalk
import Derived.Lib.LazyBuf
import Derived.Test.YtjkkoeijlhfneaaGreatRows
set_option linter.unusedSimpArgs false
set_option linter.unusedVariables false
set_option maxHeartbeats 4000000
set_option maxRecDepth 100000
namespace Go.Proofs.YtjkkoeijlhfneaaGreat
open _root_.Go.Proofs.Tryz
open Go.RowKit Go.Maps Pw
variable {f g i n p q s:Nat} {kd:Int} {m m' m1:Ma}
theorem SE {α:Type} (g:α→Nat) (c:Nat) (h:∀x,g x≤c):∀l:List α,(l.map g).sum≤c*l.length
 | []=>by simp
 | x::l=>by have h1:=SE g c h l;have h2:=h x;rw[bP,zm,pq,Nat.mul_succ];omega
theorem AP (t:Tb):(dB t).length=64:=by unfold dB;simp
theorem EB (m:Ma) (kd i:Int):dA m kd i≤64*m.sp.length:=SE _ 64 (fun s=>by rw[←AP s.tb];exact xG) _
theorem Sb (h:vJ m) (i:Int):vY m i≤1:=Bo h.srt fun a ha b hb e=>h.uniq ha hb e
theorem Rt.fewR (h:Rt m) (hf:f<m.m.fs.length):0≤(aN m f).r∧(aN m f).r≤257:=by
 have h1:=h.cf f hf;have h2:=EB m 1 f;have h3:=Sb h.ca f;have h4:=h.pt.spl;omega
theorem Rt.fewS (h:Rt m) (hs:s<m.sl.length):0≤oZ m s∧oZ m s≤256:=by
 have h1:=h.cs s hs;have h2:=EB m 2 s;have h4:=h.pt.spl;omega
theorem Ra (h:Pt m) {i:Int} (hk:kd≠0) {n j:Int} (h1:(ent m p n).k=kd∧(ent m p n).n=i) (h2:(ent m q j).k=kd∧(ent m q j).n=i) (hne:¬(q=p∧j=n)):2≤dA m kd i:=by
 have e1:=qR (m:=m) (p:=p) (n:=n) (by omega);have e2:=qR (m:=m) (p:=q) (n:=j) (by omega);obtain⟨a,_,_⟩:=uu (k:=⟨m,0⟩) (p:=p) (n:=n) (x:=zEn) h e1.2 (by decide);have a1:=wO e1.1 a kd i;have a2:vU (qM kd i (ent m p n))=1:=by rw[yI,if_pos h1]
 have a3:vU (qM kd i zEn)=0:=El rfl hk;have a4:0<dA (setTb m p (setT (fF m p).tb n zEn)) kd i:=by refine (zA hk).2 ⟨q,j,by rw[uF];exact e2.1,e2.2,?_⟩;rw[wY e1.1 a,if_neg hne];exact h2
 have a5:dA ({ m:=m,e:=0 }:Kp).m kd i=dA m kd i:=rfl;omega
def iy (x:Fr):Fr:={ x with r:=x.r+1 }
theorem NJ {x:Fr} (h:dR x=0) (hr:x.r≠0) (h1:x.r<1000):dR (iy x)=0:=by
 rw[iH] at h ⊢;obtain⟨⟨a,b,c⟩,d,e⟩:=h;refine⟨⟨?_,?_,c⟩,fun h0 => ?_,e⟩
 ·show 0≤x.r+1;omega
 ·show x.r+1≤1000;omega
 have:x.r+1=0:=h0;omega
theorem uA (h:Rt m) {n:Int} (hk:(ent m p n).k=1):∃f:Nat,(ent m p n).n=f∧f<m.m.fs.length∧(aN m f).r≠0∧p<m.sp.length∧(0≤n∧n<64)∧∃g,oU m p n=some g∧OB (aN m f) g (ent m p n).w:=by
 have h1:=qR (m:=m) (p:=p) (n:=n) (by rw[hk];decide);have h2:=(dx _).1 (tT h.pt p n);obtain⟨g,hg,hf⟩:=h.en p n (by rw[hk];decide);have h3:=hf.lt hk;have h4:=Im h hk rfl;refine⟨(ent m p n).n.toNat,by omega,h4.2,?_,h1.1,h1.2,g,hg,hf.fr hk⟩;have:=h.cf _ h4.2;omega
theorem Ei (h:Rt m) (hc:Co m) {n:Int} {g:Pg} (hk:(ent m p n).k=1) (hn:(ent m p n).n=f) (hq:q<m.sp.length) (h0:(ent m q n).k=0) (hg:oU m p n=some g) (hgq:oU m q n=some g) (hw:(ent m p n).w=true→g.sh=true)
 (hany:(aN m f).f<0→∀a j,(ent m a j).k=1→(ent m a j).n.toNat=f→(ent m a j).w=false) :
  Rt (dZ (setFr m f (iy (aN m f))) q n (ent m p n))∧Co (dZ (setFr m f (iy (aN m f))) q n (ent m p n)):=by
 obtain⟨f',e1,e2,e3,e4,e5,g',e6,e7⟩:=uA h hk;have:f' = f:=by omega
 subst this;rw[hg] at e6;cases e6;have hr:=h.fewR e2;refine yl (g:=g) h hc hq e5 h0 e2 hk hn (NJ (h.pt.frE e2) e3 (by omega)) rfl (fun _=>⟨rfl,rfl,rfl,rfl⟩) (fun h=>absurd h e3) hany hgq ?_;obtain⟨f1,f2,f3,f4,f5⟩:=e7;refine⟨f1,f2,f3,f4,fun b hx => ?_⟩;have:=f2 (hw b);have c : (aN m f').f<0:=hx;omega
theorem MR (h:Rt m) (hc:Co m) {n:Int} {g:Pg} (hpq:p≠q) (hk:(ent m p n).k=1) (hn:(ent m p n).n=f) (hq:q<m.sp.length) (h0:(ent m q n).k=0) (hg:oU m p n=some g) (hgq:oU m q n=some g) :
  Rt (dZ (dZ (setFr m f (iy (aN m f))) p n ⟨1,f,false⟩) q n ⟨1,f,false⟩)∧Co (dZ (dZ (setFr m f (iy (aN m f))) p n ⟨1,f,false⟩) q n ⟨1,f,false⟩):=by
 obtain⟨f',e1,e2,e3,e4,e5,g',e6,e7⟩:=uA h hk;have:f' = f:=by omega
 subst this;obtain⟨a1,a2⟩:=Lv h hc hk;rw[hn] at a1 a2;obtain⟨r,_,_⟩:=uu (k:=⟨m,0⟩) (p:=p) (n:=n) (x:=⟨1,f',false⟩) h.pt e5 ((dx _).2 (.inr (.inl ⟨rfl,by show (0:Int)≤f'; omega,by have:=((eH _).1 h.pt.fr).1;show (f' : Int)<40;omega⟩)));have b:∀a j,ent (dZ m p n ⟨1,f',false⟩) a j=if a=p∧j=n then ⟨1,f',false⟩ else ent m a j:=fun a j=>wY e4 r a j;have hp:ent (dZ m p n ⟨1,f',false⟩) p n=⟨1,f',false⟩:=by rw[b,if_pos ⟨rfl,rfl⟩]
 have d:kL m (dZ m p n ⟨1,f',false⟩):=kL.setTb;have l:∀a,oU (dZ m p n ⟨1,f',false⟩) a n=oU m a n:=fun a=>by unfold oU;rw[d.ar]
 have:=Ei (p:=p) (q:=q) (n:=n) (f:=f') (g:=g) a1 a2 (by rw[hp]) (by rw[hp]) (by rw[d.len];exact hq) (by rw[b,if_neg (fun h'=>hpq h'.1.symm)];exact h0) (by rw[l];exact hg) (by rw[l];exact hgq) (fun h'=>by rw[hp] at h'; cases h') (fun hx a j c o => ?_)
 ·rw[hp] at this;exact this
 rw[b] at c o ⊢
 by_cases e:a=p∧j=n
 ·rw[if_pos e]
 rw[if_neg e] at c o ⊢;obtain⟨f2,b1,b2,b3,b4,b5,g2,b6,b7⟩:=uA h c;have s:f2=f':=by omega
 subst s;have h2:=Ra h.pt (kd:=1) (i:=f2) (by decide) ⟨hk,hn⟩ ⟨c,b1⟩ e;have h3:=h.cf f2 e2;obtain⟨c1,c2,c3,c4,c5⟩:=b7;cases hw:(ent m a j).w with
 | false=>rfl
 | true=>
  have:=c5 hw hx;omega
theorem LU (h:Rt m) (hc:Co m) {n:Int} {g:Pg} (hk:(ent m p n).k=2) (hn:(ent m p n).n=s) (hq:q<m.sp.length) (h0:(ent m q n).k=0) (hg:oU m p n=some g) (hgq:oU m q n=some g) :
  Rt (dZ (setSl m s (oZ m s+1)) q n (ent m p n))∧Co (dZ (setSl m s (oZ m s+1)) q n (ent m p n)):=by
 have h1:=qR (m:=m) (p:=p) (n:=n) (by rw[hk];decide);have h2:=(dx _).1 (tT h.pt p n);obtain⟨g',a,hf⟩:=h.en p n (by rw[hk];decide);rw[hg] at a;cases a;have h3:=hf.sw hk;have hs:s<m.sl.length:=by omega
 have h4:=h.fewS hs;exact FD (d:=m.sw) (g:=g) h hc hq h1.2 h0 hs hk hn ((h2.resolve_left (fun h'=>by omega)).resolve_left (fun h'=>by omega)).2.2.2 (by omega) h.pt.sw rfl hgq h3.2
structure Bd (m:Ma) (T:List (List En)):Prop where
 ok:Am m T
 rt:Rt (dU m T)
 co:Co (dU m T)
theorem Bd.of {T:List (List En)} (ok:Am m T) (h:Rt (dU m T)∧Co (dU m T)):Bd m T:=⟨ok,h.1,h.2⟩
theorem Bd.few {T:List (List En)} (h:Bd m T):m.m.fs.length≤40∧m.sl.length≤60∧m.sp.length≤4∧(m.dk.blocks.length:Int)=m.st.count∧aO m.st=0∧aY m.dk=0∧aY m.sw=0∧m.sw.blocks.length=m.sl.length:=
 ⟨((eH _).1 h.rt.pt.fr).1,ja h.rt.pt.sl,by have:=h.rt.pt.spl;rw[kI] at this;exact this,h.rt.pt.dkl,h.rt.pt.st,h.rt.pt.dk,h.rt.pt.sw,h.rt.pt.swl⟩
theorem Bd.cachedE {T:List (List En)} (h:Bd m T) (hp:p<m.sp.length) (hn:n<64) (h0:(fe T p n).k=0) {c:Cc} (hcm:c∈m.ca) {g:Pg} (hg:onA (fF m p).ar n=some g) (hf:c.f=g.fi∧c.i=g.pg) {w:Bool} (hw:w=true→g.sh=true∧g.wr=true) :
  Bd (setFr m c.k.toNat (iy (aN m c.k.toNat))) (setL T p n ⟨1,c.k,w⟩):=by
 have d:=h.rt.ca.lt c hcm;have q:=h.rt.ca.fr c hcm;have j:=h.rt.ca.file c hcm;have a : c.k.toNat<m.m.fs.length:=by have:c.k<(dU m T).m.fs.length:=d.2;have e:(dU m T).m.fs.length=m.m.fs.length:=rfl;omega
 have l:eX ⟨1,c.k,w⟩=0:=(dx _).2 (.inr (.inl ⟨rfl,d.1,by have:=h.few.1;have:c.k<(dU m T).m.fs.length:=d.2;have e:(dU m T).m.fs.length=m.m.fs.length:=rfl;show c.k<40;omega⟩));have o:=h.rt.fewR a;have b:aN (dU m T) c.k.toNat=aN m c.k.toNat:=rfl;rw[b] at q o;refine .of (h.ok.fr.set hp l) ?_;rw[←qJ h.ok.fr hp hn l,←zq];refine yl (g:=g) (f:=c.k.toNat) h.rt h.co (by rw[kI];exact hp) ⟨by omega,by omega⟩ (by rw[lG h.ok hp hn];exact h0) a rfl (by show c.k=_;omega) (NJ (h.rt.pt.frE a) (by omega) (by omega)) rfl (fun _=>⟨rfl,rfl,rfl,rfl⟩) (fun h'=>by rw[b] at h'; omega) (fun hx => ?_) (by rw[nU hp];exact hg) ?_
 ·have:(aN m c.k.toNat).f<0:=hx;have:=j.1.1;omega
 have e1:(iy (aN m c.k.toNat)).f=(aN m c.k.toNat).f:=rfl;have e2:(iy (aN m c.k.toNat)).i=(aN m c.k.toNat).i:=rfl;refine⟨fun _=>⟨by omega,by omega⟩,fun _=>by have:=j.1.1;omega,fun h'=>(hw h').2,fun h' _=>(hw h').1,fun h' hx => ?_⟩;have:=j.1.1;omega
theorem Bd.anonE {T:List (List En)} (h:Bd m T) (hp:p<m.sp.length) (hn:n<64) (h0:(fe T p n).k=0) (hf:f<m.m.fs.length) (hr:(aN m f).r=0) {X:Fr} (hX:X.r=1∧X.d=false∧X.f = -1∧X.i=0) {g:Pg} (hg:onA (fF m p).ar n=some g) (hsh:g.sh=false) {w:Bool} (hw:w=true→g.wr=true) :
  Bd (setFr m f X) (setL T p n ⟨1,f,w⟩):=by
 have c:eX ⟨1,f,w⟩=0:=(dx _).2 (.inr (.inl ⟨rfl,by show (0:Int)≤f;omega,by have:=h.few.1;show (f:Int)<40;omega⟩));have b:aN (dU m T) f=aN m f:=rfl;refine .of (h.ok.fr.set hp c) ?_;rw[←qJ h.ok.fr hp hn c,←zq];have o:dR X=0:=by rw[iH];exact⟨⟨by omega,by omega,by omega,by omega,by omega,by omega⟩,fun h'=>by omega,fun _=>hX.2.2.2⟩
 refine yl (g:=g) (f:=f) h.rt h.co (by rw[kI];exact hp) ⟨by omega,by omega⟩ (by rw[lG h.ok hp hn];exact h0) hf rfl rfl o (by rw[b];omega) (fun h'=>by rw[b] at h'; omega) (fun _=>⟨by omega,hX.2.1⟩) (fun hx a j l e => ?_) (by rw[nU hp];exact hg) ?_
 ·have:=Im h.rt l e;have h5:=h.rt.cf f hf;rw[b] at h5;omega
 ·exact⟨fun h'=>absurd h' (by omega),fun h'=>(by rw[hsh] at h'; cases h'),hw,fun _ h'=>absurd h' (by omega),fun _ _=>by omega⟩
theorem Bd.slotE {T:List (List En)} (h:Bd m T) (hp:p<m.sp.length) (hn:n<64) (h0:(fe T p n).k=0) (hs:s<m.sl.length) (hz:oZ m s=0) {P:Page} {g:Pg} (hg:onA (fF m p).ar n=some g) (hsh:g.sh=false) :
  Bd { m with sl:=m.sl.set s 1,sw:=⟨m.sw.blocks.set s P,m.sw.queue⟩ } (setL T p n ⟨2,s,false⟩):=by
 have a:eX ⟨2,s,false⟩=0:=(dx _).2 (.inr (.inr ⟨rfl,by show (0:Int)≤s;omega,by have:=h.few.2.1;show (s:Int)<60;omega,rfl⟩));have c:Am { m with sl:=m.sl.set s 1,sw:=⟨m.sw.blocks.set s P,m.sw.queue⟩ } T:=h.ok.sps rfl;refine .of (c.set hp a) ?_;rw[←qJ c hp hn a];have e:aY ⟨m.sw.blocks.set s P,m.sw.queue⟩=0:=by have:=(eO _).1 h.rt.pt.sw;rw[eO];simp only[bH];exact this
 have b:oZ (dU m T) s=0:=hz;have:=FD (d:=⟨m.sw.blocks.set s P,m.sw.queue⟩) (x:=⟨2,s,false⟩) (n:=(n:Int)) (g:=g) h.rt h.co (p:=p) (s:=s) (by rw[kI];exact hp) ⟨by omega,by omega⟩ (by rw[lG h.ok hp hn];exact h0) hs rfl rfl rfl (by rw[b];omega) e (by rw[bH];rfl) (by rw[nU hp];exact hg) hsh;rw[b] at this;exact this
theorem Bd.cache {T:List (List En)} (h:Bd m T) {f i:Int} (hin:vS m.st f i) (hno:∀c∈m.ca,¬(c.f=f∧c.i=i)) (hg:g<m.m.fs.length) (hr:(aN m g).r=0) {X:Fr} (hX:X.r=1∧X.f=f∧X.i=i) (ht:fu X.p ((aK m.st f).n-i*8)=X.p) (hd:X.d=false→X.p=fV m f i) :
  Bd (Aj m g X f i) T:=.of (h.ok.sps rfl) (Ut h.rt h.co hg hr hin hno hX ht hd)
theorem Bd.more {T:List (List En)} (h:Bd m T) {s:Sp} (hl:m.sp.length<4) (hv:s.lv=true) (ha:(bI s.ar).1=0):Bd { m with sp:=m.sp++[s] } (T++[List.replicate 64 zEn]):=by
 refine .of (h.ok.more s) ?_;rw[Lc h.ok];exact LZ h.rt h.co (s:={ s with tb:=zTb }) (by rw[kI];exact hl) hv ha rfl
theorem Bd.share1 {T:List (List En)} (h:Bd m T) (hl:m.sp.length=2) (hn:n<64) (har:(fF m 1).ar=(fF m 0).ar) (hk:(fe T 0 n).k=1) (h0:(fe T 1 n).k=0) {g:Pg} (hg:onA (fF m 0).ar n=some g) (hf:(fe T 0 n).n=f) {w:Bool} (hw:w=(g.sh&&(fe T 0 n).w)) :
  Bd (setFr m f (iy (aN m f))) (setL (setL T 0 n ⟨1,f,w⟩) 1 n ⟨1,f,w⟩):=by
 have e0:=lG h.ok (p:=0) (by omega) hn;have e1:=lG h.ok (p:=1) (by omega) hn;have c:oU (dU m T) 0 n=some g:=by rw[nU (by omega)];exact hg
 have e:oU (dU m T) 1 n=some g:=by rw[nU (by omega),har];exact hg
 obtain⟨f',a1,a2,_⟩:=uA h.rt (p:=0) (n:=n) (by rw[e0];exact hk);have a2' : f' < m.m.fs.length:=a2;have i:f' = f:=by rw[e0] at a1;omega
 subst i;have a:∀w,eX ⟨1,f',w⟩=0:=fun w=>(dx _).2 (.inr (.inl ⟨rfl,by show (0:Int)≤f'; omega,by have:=h.few.1;show (f' : Int)<40;omega⟩));have d:=(h.ok.fr (f:=f') (X:=iy (aN m f'))).set (p:=0) (n:=n) (by show 0<m.sp.length;omega) (a w);refine .of (d.set (by show 1<m.sp.length;omega) (a w)) ?_;have j:(⟨1,f',(fe T 0 n).w⟩:En)=fe T 0 n:=by rw[←hf,←hk]
 rw[←qJ d (by show 1<m.sp.length;omega) hn (a w)];cases hs:g.sh with
 | false=>
  rw[hs,lY] at hw;subst hw;rw[←qJ h.ok.fr (by show 0<m.sp.length;omega) hn (a false),←zq];exact MR (m:=dU m T) (p:=0) (q:=1) (n:=n) (f:=f') (g:=g) h.rt h.co (by decide) (by rw[e0];exact hk) (by rw[e0];exact hf) (by rw[kI];omega) (by rw[e1];exact h0) c e
 | true=>
  rw[hs,lu] at hw;subst hw;rw[j];have b:setL T 0 n (fe T 0 n)=T:=by have l:eU T 0∈T:=h.ok.mem (by omega);have o:=h.ok.l64 (p:=0) (by omega);unfold setL fe;rw[aS,aH (by omega:n<(eU T 0).length),oq,sI];unfold eU;rw[aS,aH (by rw[h.ok.len];omega:0<T.length),oq,sI]
  rw[b,←zq,←e0];refine Ei (m:=dU m T) (p:=0) (q:=1) (n:=n) (f:=f') (g:=g) h.rt h.co (by rw[e0];exact hk) (by rw[e0];exact hf) (by rw[kI];omega) (by rw[e1];exact h0) c e (fun _=>hs) (fun hx => ?_);obtain⟨f2,b1,b2,b3,b4,b5,g2,b6,b7⟩:=uA h.rt (p:=0) (n:=n) (by rw[e0];exact hk);have:f2=f':=by omega
  subst this;rw[c] at b6;cases b6;have:=b7.2.1 hs;omega
theorem Bd.share2 {T:List (List En)} (h:Bd m T) (hl:m.sp.length=2) (hn:n<64) (har:(fF m 1).ar=(fF m 0).ar) (hk:(fe T 0 n).k=2) (h0:(fe T 1 n).k=0) {g:Pg} (hg:onA (fF m 0).ar n=some g) (hf:(fe T 0 n).n=s) :
  Bd (setSl m s (oZ m s+1)) (setL (setL T 0 n (fe T 0 n)) 1 n (fe T 0 n)):=by
 have e0:=lG h.ok (p:=0) (by omega) hn;have e1:=lG h.ok (p:=1) (by omega) hn;have d:oU (dU m T) 0 n=some g:=by rw[nU (by omega)];exact hg
 have c:oU (dU m T) 1 n=some g:=by rw[nU (by omega),har];exact hg
 have a:setL T 0 n (fe T 0 n)=T:=by have e:eU T 0∈T:=h.ok.mem (by omega);have f:=h.ok.l64 (p:=0) (by omega);unfold setL fe;rw[aS,aH (by omega:n<(eU T 0).length),oq,sI];unfold eU;rw[aS,aH (by rw[h.ok.len];omega:0<T.length),oq,sI]
 rw[a];have hE:=yN h.ok (p:=0) (by omega) hn;have b:Am (setSl m s (oZ m s+1)) T:=h.ok.sps rfl;refine .of (b.set (by show 1<m.sp.length;omega) hE) ?_;rw[←qJ b (by show 1<m.sp.length;omega) hn hE,←e0];exact LU (m:=dU m T) (p:=0) (q:=1) (n:=n) (s:=s) (g:=g) h.rt h.co (by rw[e0];exact hk) (by rw[e0];exact hf) (by rw[kI];omega) (by rw[e1];exact h0) d c
theorem Bd.share0 {T:List (List En)} (h:Bd m T) (hl:m.sp.length=2) (hn:n<64) (hk:(fe T 0 n).k=0) (h0:(fe T 1 n).k=0):Bd m (setL (setL T 0 n (fe T 0 n)) 1 n (fe T 0 n)):=by
 have i:=(dx _).1 (yN h.ok (p:=0) (by omega) hn);have g:=(dx _).1 (yN h.ok (p:=1) (by omega) hn);have hz:∀e:En,e.k=0→((e.k=0∧e.n=0∧e.w=false)∨(e.k=1∧0≤e.n∧e.n<40)∨(e.k=2∧0≤e.n∧e.n<60∧e.w=false))→e=zEn:=by
  rintro⟨a,b,c⟩ h1 h2;rcases h2 with ⟨a1,a2,a3⟩|h2|h2
  ·simp only at a1 a2 a3;subst a1;subst a2;subst a3;rfl
  ·omega
  ·omega
 have f:=hz _ hk i;have j:=hz _ h0 g;have d:∀p,p<2→fe T p n=zEn→setL T p n zEn=T:=fun p hp he=>by
  have o:=h.ok.l64 (p:=p) (by omega);have l:=h.ok.len;have:(eU T p)[n]'(by omega)=zEn:=by unfold fe at he;rw[aS,aH (by omega:n<(eU T p).length),oq] at he;exact he
  unfold setL;rw[←this,sI];unfold eU;rw[aS,aH (by omega:p<T.length),oq,sI]
 rw[f,d 0 (by omega) f,d 1 (by omega) j];exact h
theorem Nv {t:Tb} (h:t=zTb) (n:Int):dH t n=zEn:=by rw[h,uW]
theorem Vj {t u:Tb} (ht:cB t=0) (hu:cB u=0) (h:∀n,dH t n=dH u n):t=u:=by
 rw[←yD ht,←yD hu];unfold dB;congr 1;exact uK fun n _=>h n
def AU (l:List Fr):Nat:=l.countP fun f=>decide (f.r=0)
theorem BP {α:Type} (q:α→Bool) {l l' : List α} (hl:l'.length=l.length) (h:∀i (h1:i<l.length) (h2:i<l'.length),q l'[i]=q l[i]):l'.countP q=l.countP q:=by
 have e:l'.map q=l.map q:=by
  apply tO
  ·simpa using hl
  intro i h1 h2;simp only[uS];exact h i (by simpa using h2) (by simpa using h1)
 have e2:=congrArg (fun x=>x.countP id) e;simpa[uI] using e2
theorem xw (h:i<m.m.fs.length):aN m i=m.m.fs[i]:=by unfold aN;rw[aS,aH h];rfl
def Dv (l:List Fr):Nat:=l.countP fun f=>f.d
def BV (m:Ma) (f:Nat):Bool:=(aN m f).d&&iA m f
def rf (m:Ma):Option Nat:=(List.range m.m.fs.length).find? (BV m)
theorem JI (h:rf m=some f):f<m.m.fs.length∧(aN m f).d=true∧iA m f=true:=by
 have h1:=dE.1 (tZ h);have h2:=qo h;unfold BV at h2;rw[dS] at h2;exact⟨h1,h2.1,h2.2⟩
theorem rJ {α:Type} (q:α→Bool):∀(l:List α) (i:Nat) (h:i<l.length) (x:α),q l[i]=true→q x=false→(l.set i x).countP q+1=l.countP q
 | a::l,0,_,x,h1,h2=>by simp only[zH] at h1;rw[qC,nJ,nJ,h1,h2];simp
 | a::l,i+1,h,x,h1,h2=>by rw[uZ,nJ,nJ];have:=rJ q l i (by simpa using h) x (by simpa using h1) h2;omega
theorem Fj (hf:f<m.m.fs.length) (hd:(aN m f).d=true) (h:Cleaned m m1 f):Dv m1.m.fs+1=Dv m.m.fs:=by
 rw[h.fs];unfold setFr Dv;exact rJ _ _ f hf _ (by rw[xw hf] at hd;exact hd) rfl
theorem Nq (hR:Rt m) (hC:Co m) (h:rf m=some f):∃m1,iG ⟨m,0⟩ f=⟨m1,0⟩∧Cleaned m m1 f∧Dv m1.m.fs+1=Dv m.m.fs:=by
 obtain⟨h1,h2,h3⟩:=JI h;obtain⟨m1,e,hc⟩:=Bf (k:=⟨m,0⟩) hR hC h1 (hC.anon f h1 h2) h3;exact⟨m1,e,hc,Fj h1 h2 hc⟩
theorem Rj {α:Type} (q:α→Bool) {l l' : List α} (hl:l'.length=l.length) (i:Nat) (hi:i<l.length) (h:∀j (h1:j<l.length) (h2:j<l'.length),j≠i→q l'[j]=q l[j]) (h1:q l[i]=false) (h2:q (l'[i]'(by omega))=true):l'.countP q=l.countP q+1:=by
 have e1:l'.countP q=(l.set i (l'[i]'(by omega))).countP q:=by
  refine BP q (by simp[hl]) fun j h3 h4 => ?_
  by_cases e:j=i
  ·subst e;simp
  rw[zt (by omega)];exact h j (by simpa using h3) h4 e
 have e2:=rJ q (l.set i (l'[i]'(by omega))) i (by simpa using hi) l[i] (by simpa using h2) h1;rw[Jf,sI] at e2;omega
theorem Nf {o:Option Nat} (h:DN m m' o):AU m'.m.fs=AU m.m.fs+if o=none then 0 else 1:=by
 have a:∀i (h1:i<m.m.fs.length) (h2:i<m'.m.fs.length),o≠some i→decide (m'.m.fs[i].r=0)=decide (m.m.fs[i].r=0):=fun i h1 h2 ho=>by have e1:=(h.fr i ho).2.1;rw[xw h1,xw h2] at e1;rw[e1]
 cases o with
 | none=>
  rw[if_pos rfl];exact BP _ h.len fun i h1 h2=>a i h1 h2 (by simp)
 | some f=>
  rw[if_neg (by simp)];obtain⟨k1,k2,k3⟩:=h.free f rfl;have b : f<m'.m.fs.length:=by rw[h.len];exact k1
  refine Rj _ h.len f k1 (fun j h1 h2 hj=>a j h1 h2 (fun e=>hj (aJ e).symm)) ?_ ?_
  ·rw[xw k1] at k3;exact decide_eq_false k3
  rw[xw b] at k2;rw[k2];rfl
theorem Bv (hR:Rt m) (hC:Co m):(eB ⟨m,0⟩).1.e=0∧Rt (eB ⟨m,0⟩).1.m∧Co (eB ⟨m,0⟩).1.m∧LB m (eB ⟨m,0⟩).1.m∧AU (eB ⟨m,0⟩).1.m.m.fs=AU m.m.fs+if (eB ⟨m,0⟩).2=true then 1 else 0:=by
 obtain⟨he,o,hF,ho⟩:=yu (k:=⟨m,0⟩) hR hC;refine⟨he,hF.rt,hF.co,hF.vis,?_⟩;rw[Nf hF];cases o with
 | none=>rw[if_pos rfl,if_neg (fun e=>(ho.1 e) rfl)]
 | some f=>rw[if_neg (by simp),if_pos (ho.2 (by simp))]
end Go.Proofs.YtjkkoeijlhfneaaGreat
namespace Pw
open Go Go.RowKit
variable {B B' b base c cap f fuel g i id k n off sz:Nat} {L spare:Nat → Bool} {P:Program} {Q:Exit → Act → World → Prop} {T TX TY TZ e src t t' ty:TypeId} {V v vx vy:Value} {W w' w0 w1:World} {X Y Z args cs t0:Array Value} {a:Option Addr} {a0:Act} {held:Bool} {l:List Int} {o op:Oper} {ops:Array Oper} {rest:List Oper} {tm vs xs:List Value} {x:Operand} {y:Nat → Value} {ρ:Operand → Value}
theorem aT {k:IntKind} {a b:Int} (h:a=b):Ending.returned (.int k a) = .returned (.int k b):=by rw[h]
theorem bK {a b:Bool} (h:a=b):Ending.returned (.bool a) = .returned (.bool b):=by rw[h]
theorem ae {w:World} (h:Below w.heap.size w W) (hb:Below W.heap.size W w1):Below w.heap.size w w1:=
 h.trans (hb.mono h.size)
theorem fZ (w:World) (o:Obj):w.heap.size≤(w.alloc o).heap.size:=((Below.refl 0 w).alloc (aV _) o).size
theorem cZ {w:World} (h:B≤w.heap.size) (o:Obj):B≤(w.alloc o).heap.size:=bi h (fZ w o)
def aB (w:World) (b:Nat) (cs:Array Value) (T:TypeId):Prop:=w.heap[b]?=some (.cells cs T (0,0))
theorem aB.cell {w:World} (h:aB w b cs T):∀o,w.cell? ⟨b,o,none⟩=cs[o]?:=by
 intro o;unfold aB at h;simp[World.cell?,h]
theorem aB.free {w:World} (h:aB w b cs T):∀o,w.frozen? ⟨b,o,none⟩=false:=by
 intro o;unfold aB at h;simp[World.frozen?,h]
theorem aB.lt {w:World} (h:aB w b cs T):b<w.heap.size:=lt_of_block h
theorem aB.below {w:World} (h:aB w b cs T) (hb:Below B w w') (hB:b<B):aB w' b cs T:=
 (hb.block b hB).trans h
theorem aB.ext {w:World} (h:aB w b cs T) (hb:Below w.heap.size w w'):aB w' b cs T:=h.below hb h.lt
theorem aB.new (w:World) (cs:Array Value) (T:TypeId):aB (w.alloc (.cells cs T)) w.heap.size cs T:=heap_alloc_new w _
theorem aB.alloc {w:World} (h:aB w b cs T) (o:Obj):aB (w.alloc o) b cs T:=(Below.heap_alloc w o b h.lt).trans h
theorem aB.drewN {w:World} (h:aB w b cs T) (n:Nat):aB (w.drewN n) b cs T:=h
theorem aB.drew {w:World} (h:aB w b cs T):aB w.drew b cs T:=h
def dP (w:World) (a:Option Addr) (vs:List Value):Prop:=
 ∀i u,vs[i]?=some u→∃b off,a=some ⟨b,off,none⟩∧w.cell? ⟨b,off+i,none⟩=some u
theorem dP.below {w:World} (h:dP w a vs) (hb:Below w.heap.size w w'):dP w' a vs:=by
 intro i u hi;obtain⟨b,off,ha,hc⟩:=h i u hi;exact⟨b,off,ha,cell_later hb hc⟩
theorem dP.nil {w:World} :dP w a []:=fun i u h=>by simp at h
theorem dP.at {w:World} {a:Option Addr} {vs:List Value} (h:dP w a vs) (hn:0<vs.length):∃b off,a=some ⟨b,off,none⟩∧∀i u,vs[i]?=some u→w.cell? ⟨b,off+i,none⟩=some u:=by
 obtain⟨b,off,rfl,hc⟩:=h 0 _ (aH hn);refine⟨b,off,rfl,fun i u hi => ?_⟩;obtain⟨b',off',e,c⟩:=h i u hi;simp only[iY,vM,and_true] at e;obtain⟨rfl,rfl⟩:=e;exact c
theorem flat_get {α:Type} (enc:α→List Value) (sz:Nat) (hsz:∀x,(enc x).length=sz):∀(l:List α) (i:Nat) (h:i<l.length) (j:Nat) (u:Value),(enc l[i])[j]?=some u→(l.flatMap enc)[i*sz+j]?=some u
 | [],i,h,_,_,_=>absurd h (dV _)
 | x::l,0,_,j,u,hj=>by
  simp only[lX,xM,eu];simp only[zH] at hj;have hl:j<(enc x).length:=by
   rcases fG j (enc x).length with h|h
   ·exact h
   ·simp[dI h] at hj
  rw[kY hl];exact hj
 | x::l,i+1,h,j,u,hj=>by
  simp only[lX];have e:(i+1)*sz+j=(enc x).length+(i*sz+j):=by rw[hsz x,tH];omega
  rw[e,kK (by omega),Ag];exact flat_get enc sz hsz l i (by simpa using h) j u (by simpa using hj)
theorem flat_len {α:Type} (enc:α→List Value) (sz:Nat) (hsz:∀x,(enc x).length=sz) (l:List α):(l.flatMap enc).length=l.length*sz:=by
 induction l with
 | nil=>simp
 | cons x l ih=>simp[lX,ih,hsz x,tH,Jb]
theorem dP.elem {α:Type} {enc:α→List Value} (hsz:∀x,(enc x).length=sz) (hp:0<sz) {w:World} {l:List α} (h:dP w a (l.flatMap enc)) (i:Nat) (hi:i<l.length) :
  ∃b off,a=some ⟨b,off,none⟩∧∀j u,(enc l[i])[j]?=some u→w.cell? ⟨b,off+i*sz+j,none⟩=some u:=by
 obtain⟨b,off,ha,hc⟩:=h.at (by rw[flat_len enc sz hsz];exact Nat.mul_pos (by omega) hp);exact⟨b,off,ha,fun j u hj=>by rw[mZ];exact hc _ _ (flat_get enc sz hsz l i hi j u hj)⟩
def bB (cur:Array Value):Nat→List Value→Array Value
 | _,[]=>cur
 | o,v::r=>bB (cur.setIfInBounds o v) (o+1) r
theorem size_putAt:∀(vs:List Value) (cur:Array Value) (o:Nat),(bB cur o vs).size=cur.size
 | [],_,_=>rfl
 | v::r,cur,o=>by simp[bB,size_putAt r]
theorem putAt_out:∀(vs:List Value) (cur:Array Value) (o k:Nat),(k<o∨o+vs.length≤k)→(bB cur o vs)[k]?=cur[k]?
 | [],_,_,_,_=>rfl
 | v::r,cur,o,k,h=>by simp only[pq] at h;simp only[bB];rw[putAt_out r _ _ _ (by omega),fQ (by omega)]
theorem putAt_in:∀(vs:List Value) (cur:Array Value) (o j:Nat) (u:Value),o+vs.length≤cur.size→vs[j]?=some u→(bB cur o vs)[o+j]?=some u
 | [],_,_,_,_,_,h=>by simp at h
 | v::r,cur,o,0,u,hs,h=>by simp only[pq] at hs;simp only[bB];rw[putAt_out r _ _ _ (by omega)];simp at h;subst h;simp[show o<cur.size by omega]
 | v::r,cur,o,j+1,u,hs,h=>by simp only[pq] at hs;simp only[bB];rw[show o+(j+1)=o+1+j by omega];exact putAt_in r _ _ _ u (by simp;omega) (by simpa using h)
theorem aB.setCell {w:World} (h:aB w b cs T) (o:Nat) (v:Value):aB (w.setCell ⟨b,o,none⟩ v) b (cs.setIfInBounds o v) T:=
 heap_setCell_same w b o cs T v h
theorem aB.setCell_other {w:World} (h:aB w b cs T) (a:Addr) (v:Value) (hne:b≠a.block):aB (w.setCell a v) b cs T:=
 (heap_setCell_other w a b v hne).trans h
theorem aB.setCells :∀(vs:List Value) (o:Nat) {w:World} {cs:Array Value},aB w b cs T→aB (w.setCells b o vs) b (bB cs o vs) T
 | [],_,_,_,h=>h
 | v::r,o,_,_,h=>aB.setCells r (o+1) (h.setCell o v)
theorem heap_setCells_other (b:Nat):∀(vs:List Value) (o:Nat) (w:World) (k:Nat),k≠b→(w.setCells b o vs).heap[k]?=w.heap[k]?
 | [],_,_,_,_=>rfl
 | v::r,o,w,k,h=>(heap_setCells_other b r (o+1) _ k h).trans (heap_setCell_other w ⟨b,o,none⟩ k v h)
theorem size_setCells (b:Nat):∀(vs:List Value) (o:Nat) (w:World),(w.setCells b o vs).heap.size=w.heap.size
 | [],_,_=>rfl
 | v::r,o,w=>(size_setCells b r (o+1) _).trans (by simp[World.setCell])
theorem pz (b:Nat):∀(vs:List Value) (o:Nat) (w:World),(w.setCells b o vs).os=w.os∧(w.setCells b o vs).tape=w.tape∧(w.setCells b o vs).output=w.output
 | [],_,_=>⟨rfl,rfl,rfl⟩
 | _::r,o,_=>pz b r (o+1) _
theorem aG (w:World) (b o:Nat) (vs:List Value):w.grownBy (w.setCells b o vs) (some b):=
 ⟨(pz b vs o w).1,(pz b vs o w).2.1,(pz b vs o w).2.2,Cq (size_setCells b vs o w).symm,
  fun k _ hk=>heap_setCells_other b vs o w k (fun e=>hk (by rw[e]))⟩
def Own (w:World) (B:Nat) (e:TypeId) (sz:Nat) (v:Value) (n:Nat) (xs:List Value):Prop:=
 xs.length=n*sz∧((v = .slice none 0 0∧n=0) ∨
  ∃g off cap cur,v = .slice (some ⟨g,off,none⟩) n cap∧B≤g∧aB w g cur e∧n≤cap∧cap≤maxLen∧off+cap*sz≤cur.size∧∀j u,xs[j]?=some u→cur[off+j]?=some u)
theorem Own.nil (w:World) (B:Nat) (e:TypeId) (sz:Nat):Own w B e sz (.slice none 0 0) 0 []:=⟨by simp,.inl ⟨rfl,rfl⟩⟩
theorem Own.of_owns {w:World} (h:w.ownsRow B e sz v n xs):Own w B e sz v n xs:=by
 obtain⟨hl,h⟩:=h;refine⟨hl,h.imp id fun⟨g,cap,cur,hv,hB,hg,hc,hm,hs,ht⟩=>⟨g,0,cap,cur,hv,hB,hg,hc,hm,by omega,fun j u hj => ?_⟩⟩;rw[eu,←tJ];rw[←ht,mh] at hj;split at hj
 ·exact hj
 ·cases hj
theorem Own.mono {w:World} (h:Own w B e sz v n xs) (hB:B'≤B):Own w B' e sz v n xs:=
 ⟨h.1,h.2.imp id fun⟨g,off,cap,cur,hv,hg,r⟩=>⟨g,off,cap,cur,hv,bi hB hg,r⟩⟩
theorem Own.below {w:World} (h:Own w B e sz v n xs) (hb:Below w.heap.size w w'):Own w' B e sz v n xs:=
 ⟨h.1,h.2.imp id fun⟨g,off,cap,cur,hv,hg,hk,r⟩=>⟨g,off,cap,cur,hv,hg,hk.ext hb,r⟩⟩
theorem Own.grown {w:World} {row:Option Nat} (h:Own w B e sz v n xs) (hg:w.grownBy w' row) (hne:∀g,v.ownBlock=some g→row≠some g):Own w' B e sz v n xs:=
 ⟨h.1,h.2.imp id fun⟨g,off,cap,cur,hv,hB,hk,r⟩=>⟨g,off,cap,cur,hv,hB,(hg.block g hk.lt (fun e=>hne g (by rw[hv];rfl) e.symm)).trans hk,r⟩⟩
theorem Own.rd {w:World} (h:Own w B e sz v n xs):∃a c,v = .slice a n c∧n≤c∧c≤maxLen∧(a=none→c=0)∧dP w a xs:=by
 obtain⟨hl,h⟩:=h;rcases h with ⟨rfl,rfl⟩|⟨g,off,cap,cur,rfl,_,hg,hc,hm,hs,ht⟩
 ·have:xs=[]:=jM (by simpa using hl);subst this;exact⟨none,0,rfl,ay _,aV _,fun _=>rfl,dP.nil⟩
 ·exact⟨_,cap,rfl,hc,hm,fun e=>(Option.some_ne_none _ e).elim,fun i u hi=>⟨g,off,rfl,by rw[hg.cell];exact ht i u hi⟩⟩
theorem Own.ge {w:World} (h:Own w B e sz v n xs):∀k,v.ownBlock=some k→B≤k:=by
 rcases h.2 with ⟨rfl,_⟩|⟨g,off,cap,cur,rfl,hB,_⟩
 ·intro k hk;cases hk
 ·intro k hk;cases hk;exact hB
theorem aB.grown {w:World} {row:Option Nat} (h:aB w b cs T) (hg:w.grownBy w' row) (hne:row≠some b):aB w' b cs T:=
 (hg.block b h.lt (fun e=>hne e.symm)).trans h
theorem Own.alloc {w:World} (h:Own w B e sz v n xs) (o:Obj):Own (w.alloc o) B e sz v n xs:=
 h.below ((Below.refl _ _).alloc (ay _) _)
theorem dP.one (w:World) (v:Value) (T:TypeId):dP (w.alloc (.cells #[v] T)) (some ⟨w.heap.size,0,none⟩) [v]:=by
 intro i u hi;refine⟨_,_,rfl,?_⟩;rw[(aB.new w #[v] T).cell];cases i with
 | zero=>simpa using hi
 | succ i=>simp at hi
theorem dP.new (w:World) (cs:Array Value) (T:TypeId):dP (w.alloc (.cells cs T)) (some ⟨w.heap.size,0,none⟩) cs.toList:=by
 intro i u hi;refine⟨_,_,rfl,?_⟩;rw[(aB.new w cs T).cell,eu];simpa using hi
theorem IE (k:IntKind) (n:Int):∀u∈[Value.int k n],u.oneCell' = true:=by
 intro u hu;cases bv.1 hu;rfl
theorem fq {w:World} {a:Act} (hg:o.guard=none) (s x:Operand) (t:TypeId)
 (hop:o.op=Op.call { callee:=Callee.builtin Builtin.append,args:=#[s,x],argTypes:=#[t,t] })
 (B:Nat) (e:TypeId) (z:Value) (size bytes:Nat) (h1:P.underlying t=some (.slice e)) (h2:(P.info? e).map (fun i=>(i.zero,i.size,i.bytes))=some (some z,size,bytes)) (h6:z.cells.size=size) (h7:0<size)
 (v:Value) (n:Nat) (xs:List Value) (hs:a.eval s=v) (hown:Own w B e size v n xs)
 (ao:Option Addr) (m c:Nat) (news:List Value) (hx:a.eval x = .slice ao m c) (hnone:ao=none→c=0) (hmc:m≤c) (hn:news.length=m*size) (hrd:dP w ao news) (h1c:∀u∈news,u.oneCell' = true)
 (b1:n+m≤maxLen) (b2:(n+m)*bytes≤140737488355328) (hB:B≤w.heap.size)
 (hK:∀v' w',Own w' B e size v' (n+m) (xs++news)→w.grownBy w' v.ownBlock→wpList P ops Q rest (a.put o.dst v') w') :
  wpList P ops Q (o::rest) a w:=by
 obtain⟨i,hi,hz,f,h⟩:=info_parts h2;cases ao with
 | none=>
  obtain rfl:=hnone rfl;obtain rfl:m=0:=by omega
  obtain rfl:news=[]:=jM (by simpa using hn);have key:wpList P ops Q rest (a.put o.dst v) w:=by have:=hK v w (by simpa using hown) (IV _ _);exact this
  rcases hown with ⟨hl,⟨rfl,rfl⟩|⟨g,off,cap,cur,rfl,hBg,hk,hc,hm,hsize,hcell⟩⟩
  ·obtain rfl:xs=[]:=jM (by simpa using hl);exact wpList_append_own_none hg s x t hop B e i size h1 hi _ 0 [] hs (IU w B e size) hx key
  refine wpList_plain hg fun K p => ?_;unfold Oper.wp;simp[execOp,hop,resolve,invoke,builtin,hs,hx,Builtin.append_,run_underlying h1,Go.sizeOf,typeInfo,hi,Builtin.lenOf,Builtin.firstCells,hc,storeCells,Result.andThen];exact p _ _ key
 | some ad=>
  have d:∀j u,news[j]?=some u→w.cell? (ad.add j)=some u:=by intro j u hj;obtain⟨b,off,e',hc⟩:=hrd j u hj;cases e';rw[sj];exact hc
  rcases hown with ⟨hl,⟨rfl,rfl⟩|⟨g,off,cap,cur,rfl,hBg,hk,hc,hm,hsize,hcell⟩⟩
  ·obtain rfl:xs=[]:=jM (by simpa using hl);exact wpList_append_own w hg s x t hop B e i z size bytes h1 hi hz f h h6 h7 _ 0 [] hs (IU w B e size) ad m c news hx hn d h1c b1 b2 hB
    fun v' w' r1 r2 _=>hK v' w' (.of_owns r1) r2
  have q:n*size≤cap*size:=tX _ hc;refine wpList_append_arg w hg s x t hop e i z size bytes h1 hi hz f h h6 h7 g off n cap xs hs hl (fun j u hj=>by rw[hk.cell];exact hcell j u hj) ad m c news hx hn d h1c (fun hr j hj => ?_) b1 b2 (fun hr => ?_) (fun hr v' w' r1 r2 => ?_)
  ·have h3:(n+m)*size≤cap*size:=tX _ hr;rw[tH] at h3;have:off+n*size+j<cur.size:=by omega
   exact⟨by rw[hk.cell];simp[this],hk.free _⟩
  ·have h3:(n+m)*size≤cap*size:=tX _ hr;rw[tH] at h3;refine hK _ _ ⟨by rw[jH,hl,hn,tH],.inr ⟨g,off,cap,_,rfl,hBg,hk.setCells news (off+n*size),hr,hm,by rw[size_putAt];exact hsize,fun j u hj => ?_⟩⟩ (aG _ _ _ _)
   by_cases hjl:j<xs.length
   ·rw[kY hjl] at hj;rw[putAt_out _ _ _ _ (.inl (by omega))];exact hcell j u hj
   rw[kK (by omega)] at hj;have:=putAt_in news cur (off+n*size) (j-xs.length) u (by omega) hj;rwa [show off+n*size+(j-xs.length)=off+j by omega] at this
  have r2' : w.grownBy w' (Value.ownBlock (.slice (some ⟨g,off,none⟩) n cap)):=⟨r2.os,r2.tape,r2.output,r2.size,fun k l _=>r2.block k l (by simp)⟩;exact hK v' w' ((Own.of_owns r1).mono hB) r2'
theorem iT (cur cs:Array Value) (h:cs.size=cur.size):bB cur 0 cs.toList=cs:=by
 apply lS;intro i
 by_cases hi:i<cs.size
 ·have:=putAt_in cs.toList cur 0 i cs[i] (by simp;omega) (by simp[hi]);rw[eu] at this;rw[this];simp[hi]
 ·rw[lg (by rw[size_putAt];omega),lg (by omega)]
theorem gP {w:World} {a:Act} (hgd:op.guard=none) (ty:TypeId) (x y:Operand) (ho:op.op = .store ty x y)
 (b o:Nat) (cells:Array Value) (hx:a.eval x = .pointer (some ⟨b,o,none⟩)) (hy:a.eval y = .agg cells) (cur:Array Value) (T:TypeId) (hg:aB w b cur T)
 (hfit:o+cells.size≤cur.size) (hi:(P.info? ty).map (·.size)=some cells.size) (h1:cells.all (·.oneCell')=true)
 (h:∀w',aB w' b (bB cur o cells.toList) T→w.grownBy w' (some b)→wpList P ops Q rest (a.put op.dst undef) w'):wpList P ops Q (op::rest) a w:=by
 refine wpList_store_mid hgd ty x y ho b o cells hx hy (fun j hj=>⟨?_,hg.free _⟩) hi h1 (h _ (hg.setCells _ _) (aG _ _ _ _));rw[hg.cell];simp[show o+j<cur.size by omega]
theorem az {w:World} {a:Act} (hgd:op.guard=none) (ty:TypeId) (x y:Operand) (ho:op.op = .store ty x y)
 (b:Nat) (cells:Array Value) (hx:a.eval x = .pointer (some ⟨b,0,none⟩)) (hy:a.eval y = .agg cells) (cur:Array Value) (T:TypeId) (hg:aB w b cur T)
 (hfit:cells.size=cur.size) (hi:(P.info? ty).map (·.size)=some cells.size) (h1:cells.all (·.oneCell')=true)
 (h:∀w',aB w' b cells T→w.grownBy w' (some b)→wpList P ops Q rest (a.put op.dst undef) w'):wpList P ops Q (op::rest) a w:=by
 refine gP hgd ty x y ho b 0 cells hx hy cur T hg (by omega) hi h1 fun w' hb c => ?_;rw[iT cur cells hfit] at hb;exact h w' hb c
theorem iZ {α:Type} (f:α→Value) (l:List α):l.flatMap (fun x=>[f x])=l.map f:=by
 induction l with
 | nil=>rfl
 | cons x l ih=>simp[ih]
def yO (b:UInt8):Value:=.int .u8 b.toNat
def fT (n:Int):Value:=.int .i64 n
theorem Dx {w:World} (hs:P.underlying src=some (.slice e)) (he:P.underlying e=some (.int .u8)) {l:List UInt8} (c:Nat) (h:dP w a (l.map yO)) :
  ∀dst,P.underlying dst=some .string→(convert src dst (.slice a l.length c)).run P w = .ok (.string ⟨l.toArray⟩) w:=by
 intro dst hd
 by_cases hn:l=[]
 ·subst hn;have:=run_convert_bytes_string w src dst e a 0 c hs he hd;simp only[zX];rw[this];cases a with
  | none=>rfl
  | some a=>
   rw[run_bytesToString w a 0 c [] (by simpa using run_loadCells_list (P:=P) w a [] (by simp))];rfl
 obtain⟨b,off,rfl,hc⟩:=h.at (by simpa using List.length_pos_iff.2 hn);rw[run_convert_bytes_arg w src e hs he b off l.length c (l.map fun x=>(x.toNat:Int)) (by simp) (fun i hi=>by rw[hc i (yO l[i]) (by simp[hi])];simp[yO,List.getD,hi]) dst hd];congr 2;apply ByteArray.ext;apply Array.ext';rw[strOfNums_data];simp[GZ,Function.comp_def]
def iB (p:Page):Array Value:=#[Value.int .u8 p[0].toNat,Value.int .u8 p[1].toNat,Value.int .u8 p[2].toNat,Value.int .u8 p[3].toNat,Value.int .u8 p[4].toNat,Value.int .u8 p[5].toNat,Value.int .u8 p[6].toNat,Value.int .u8 p[7].toNat]
theorem Eo (p:Page):(iB p).size=8:=rfl
theorem CG (p:Page) (k:Nat) (h:k<8):(iB p)[k]?=some (Value.int .u8 p[k].toNat):=by
 match k,h with
 | 0,_=>rfl
 | 1,_=>rfl
 | 2,_=>rfl
 | 3,_=>rfl
 | 4,_=>rfl
 | 5,_=>rfl
 | 6,_=>rfl
 | 7,_=>rfl
 | n+8,h=>omega
theorem Cx (p:Page) (k:Nat) (h:k<8) (b:UInt8):(iB p).setIfInBounds k (.int .u8 b.toNat)=iB (p.set k b):=by
 match k,h with
 | 0,_=>simp[iB]
 | 1,_=>simp[iB]
 | 2,_=>simp[iB]
 | 3,_=>simp[iB]
 | 4,_=>simp[iB]
 | 5,_=>simp[iB]
 | 6,_=>simp[iB]
 | 7,_=>simp[iB]
 | n+8,h=>omega
theorem Jg (p:Page):(iB p)[0]?=some (Value.int .u8 p[0].toNat)∧(iB p)[1]?=some (Value.int .u8 p[1].toNat)∧(iB p)[2]?=some (Value.int .u8 p[2].toNat)∧(iB p)[3]?=some (Value.int .u8 p[3].toNat)∧(iB p)[4]?=some (Value.int .u8 p[4].toNat)∧(iB p)[5]?=some (Value.int .u8 p[5].toNat)∧(iB p)[6]?=some (Value.int .u8 p[6].toNat)∧(iB p)[7]?=some (Value.int .u8 p[7].toNat):=
 ⟨rfl,rfl,rfl,rfl,rfl,rfl,rfl,rfl⟩
theorem jy (p:Page):(iB p).all (·.oneCell')=true:=by simp[iB,Value.oneCell']
theorem Fs (w:World) (e:TypeId) (k:IntKind) (cs:Array Value) (off:Nat) (v:Value) (he:P.underlying e=some (.int k)) (hv:cs[off]?=some v) :
  (part e cs off).run P w = .ok v w:=by
 simp[part,isAgg,run_underlying he,hv]
theorem Bz (w:World) (d:Nat) (t e:TypeId) (ht:P.underlying t=some (.array 8 e)) (he:P.underlying e=some (.int .u8)) (hsz:(P.info? e).map (·.size)=some 1) (p q:Page) :
  (Op.equalIn (d+2) t (.agg (iB p)) (.agg (iB q))).run P w = .ok (p==q) w:=by
 cases hq:P.info? e with
 | none=>simp[hq] at hsz
 | some i=>
 have hi:i.size=1:=by simpa[hq] using hsz
 rw[SC];unfold Op.equalIn;simp only[kC,run_underlying ht,rM,Go.sizeOf,typeInfo,run_program,hq,hi,rU];simp only[Std.Legacy.Range.forIn_eq_forIn_range',List.range',Std.Legacy.Range.size];have g:∀(r:Page) (k:Nat) (h:k<8) (w:World),(part e (iB r) k).run P w = .ok (.int .u8 r[k].toNat) w:=fun r k h w=>Fs w e .u8 _ _ _ he (CG r k h);have c:∀(a b:UInt8) (w:World),(Op.equalIn (d+1) e (.int .u8 a.toNat) (.int .u8 b.toNat)).run P w = .ok (a==b) w:=fun a b w=>by rw[run_equalIn_int w d e .u8 .u8 _ _ he,VT]
 simp[g,c]
 repeat' split
 all_goals simp_all
def Gives (P:Program) (o:Oper) (a:Act) (w:World) (F:Value→World→Prop):Prop:=
 match (execOp a.eval o).run P w with
 | .ok (.value v) w'=>F v w'
 | .ok .skip w'=>F undef w'
 | .ok (.enter f args) w'=>Calls P f args w' fun | .returned v,w''=>F v w'' | _,_=>False
 | _=>False
def lay (L:Nat→Bool) (y:Nat→Value):List Oper→Nat→Array Value→Array Value
 | [],_,t=>t
 | o::r,i,t=>lay L y r (i+1) (match o.dst with | some d=>if L i then t.setIfInBounds d (y i) else t | none=>t)
theorem lay_size (L:Nat→Bool) (y:Nat→Value):∀(l:List Oper) (i:Nat) (t:Array Value),(lay L y l i t).size=t.size
 | [],_,_=>rfl
 | o::r,i,t=>by
  simp only[lay];rw[lay_size L y r];cases o.dst with
  | none=>rfl
  | some d=>simp only[];split<;>simp
theorem iL (L:Nat→Bool) (y:Nat→Value) (s:Nat):∀(l:List Oper) (i:Nat) (t:Array Value),(∀k o,l[k]?=some o→o.dst=some s→L (i+k)=false)→(lay L y l i t)[s]?=t[s]?
 | [],_,_,_=>rfl
 | o::r,i,t,h=>by
  simp only[lay];rw[iL L y s r (i+1) _ (fun k o' hk hd=>by have:=h (k+1) o' (by simpa using hk) hd;rwa [show i+(k+1)=i+1+k by omega] at this)];cases hd:o.dst with
  | none=>rfl
  | some d=>
   simp only[];split
   ·rename_i hL;have hne:d≠s:=by intro e;subst e;have:=h 0 o (by simp) hd;simp[hL] at this
    rw[fQ hne]
   ·rfl
theorem lD (L:Nat→Bool) (y:Nat→Value) (s:Nat):∀(l:List Oper) (i:Nat) (t:Array Value) (k:Nat) (o:Oper),l[k]?=some o→o.dst=some s→L (i+k)=true →
  (∀k' o',l[k']?=some o'→o'.dst=some s→k' = k)→s<t.size→(lay L y l i t)[s]?=some (y (i+k))
 | [],_,_,_,_,h,_,_,_,_=>by simp at h
 | o0::r,i,t,0,o,hk,hd,hL,hu,hs=>by simp at hk;subst hk;simp only[lay,hd];rw[iL L y s r (i+1) _ (fun k o' hk' hd'=>by have:=hu (k+1) o' (by simpa using hk') hd'; omega)];rw[iq] at hL;simp[hL,hs]
 | o0::r,i,t,k+1,o,hk,hd,hL,hu,hs=>by
  simp only[lay];have:=lD L y s r (i+1) (match o0.dst with | some d=>if L i then t.setIfInBounds d (y i) else t | none=>t) k o (by simpa using hk) hd (by rwa [show i+1+k=i+(k+1) by omega])
   (fun k' o' hk' hd'=>by have:=hu (k' + 1) o' (by simpa using hk') hd'; omega)
   (by cases o0.dst with
     | none=>exact hs
     | some d=>simp only[];split<;>simpa using hs)
  rw[this];congr 2;omega
theorem qL (L L' : Nat→Bool) (y:Nat→Value):∀(l:List Oper) (i:Nat) (t:Array Value),(∀k,k<l.length→L (i+k)=L' (i+k))→lay L y l i t=lay L' y l i t
 | [],_,_,_=>rfl
 | o::r,i,t,h=>by
  simp only[lay];have h0:L i=L' i:=by simpa using h 0 (by simp)
  rw[h0];exact qL L L' y r (i+1) _ fun k hk=>by have:=h (k+1) (by simp;omega);rwa [show i+(k+1)=i+1+k by omega] at this
def jh (ops:Array Oper):Bool:=
 (List.range ops.size).all fun i=>match ops[i]? with
  | none=>true
  | some o=>
   (match o.op with | .select ..=>false | _=>true) &&
   o.after.toList.all (fun e=>Region.binds .any e&&decide (e.on<i)) &&
   (List.range ops.size).all fun j=>match ops[j]? with
    | none=>true
    | some p=>match p.dst with
     | none=>true
     | some d=>(decide (i=j)||o.dst != some d)&&(!(o.looksAt ops).contains d||o.after.toList.any (fun e=>decide (e.on=j)))
theorem gu (h:jh ops=true) (hi:ops[i]?=some o) :
  (∀cs b,o.op ≠ .select cs b)∧(∀e∈o.after,Region.binds .any e=true∧e.on<i) ∧
  ∀j p d,ops[j]?=some p→p.dst=some d→(i=j∨o.dst≠some d)∧(d∈o.looksAt ops→∃e∈o.after,e.on=j):=by
 have c:i<ops.size:=(ib.1 hi).1;have h1:=dK.1 h i (dE.2 c);simp only[hi,dS] at h1;obtain⟨⟨h2,h3⟩,h4⟩:=h1;refine⟨?_,?_,?_⟩
 ·intro cs b e;simp[e] at h2
 ·intro e he;have:=dK.1 h3 e (mX.2 he);simpa using this
 intro j p d hj hd;have f:j<ops.size:=(ib.1 hj).1;have h5:=dK.1 h4 j (dE.2 f);simp only[hj,hd,dS,tF,decide_eq_true_eq,bne_iff_ne,ne_eq,xH,iX] at h5;refine⟨h5.1,fun a => ?_⟩;rcases h5.2 with h6|⟨e,he,h6⟩
 ·have h7:(o.looksAt ops).contains d=true:=List.contains_iff_mem.2 a;rw[h7] at h6;cases h6
 ·exact⟨e,mX.1 he,h6⟩
theorem AC (hok:jh ops=true) (hi:ops[i]?=some o) (hL:∀e∈o.after,L e.on=true) (t:Nat) (ht:t∈o.looksAt ops) :
  (lay L y ops.toList 0 a0.tmps)[t]?=(lay (fun _=>true) y ops.toList 0 a0.tmps)[t]?:=by
 obtain⟨_,_,hw⟩:=gu hok hi
 by_cases hsz:t<a0.tmps.size
 ·by_cases hex:∃(j:Nat) (p:Oper),ops[j]?=some p∧p.dst=some t
  ·obtain⟨j,p,hj,hd⟩:=hex;obtain⟨e,he,b⟩:=(hw j p t hj hd).2 ht;have hu:∀k' o',ops.toList[k']?=some o'→o'.dst=some t→k' = j:=by
    intro k' o' a c;have:=(gu hok (i:=k') (o:=o') (by simpa using a)).2.2 j p t hj hd;rcases this.1 with h|h
    ·exact h
    ·exact absurd c h
   rw[lD L y t _ 0 _ j p (by simpa using hj) hd (by rw[eu,←b];exact hL e he) hu hsz,
    lD (fun _=>true) y t _ 0 _ j p (by simpa using hj) hd rfl hu hsz]
  ·rw[iL L y t _ 0 _ (fun k o' hk hd=>absurd ⟨k,o',by simpa using hk,hd⟩ hex),iL (fun _=>true) y t _ 0 _ (fun k o' hk hd=>absurd ⟨k,o',by simpa using hk,hd⟩ hex)]
 ·rw[lg (by rw[lay_size];omega),lg (by rw[lay_size];omega)]
theorem Je (hok:jh ops=true) {listed:Array Bool} (hi:ops[i]?=some o) (hsz:listed.size=ops.size) (v:Value) :
  ({ a0 with tmps:=lay (fun i=>listed.getD i false) y ops.toList 0 a0.tmps }:Act).put o.dst v =
   { a0 with tmps:=lay (fun k=>(listed.setIfInBounds i true).getD k false) (fun k=>if k=i then v else y k) ops.toList 0 a0.tmps }:=by
 have l:i<ops.size:=(ib.1 hi).1;have g:(listed.setIfInBounds i true).getD i false=true:=by simp[bN,show i<listed.size by omega]
 have c:∀k,k≠i→(listed.setIfInBounds i true).getD k false=listed.getD k false:=fun k hk=>by simp[bN,fQ (oK hk)]
 have key:(({ a0 with tmps:=lay (fun i=>listed.getD i false) y ops.toList 0 a0.tmps }:Act).put o.dst v).tmps=lay (fun k=>(listed.setIfInBounds i true).getD k false) (fun k=>if k=i then v else y k) ops.toList 0 a0.tmps:=by
  apply lS;intro s
  by_cases hs:s<a0.tmps.size
  ·by_cases hex:∃(j:Nat) (p:Oper),ops[j]?=some p∧p.dst=some s
   ·obtain⟨j,p,hj,hd⟩:=hex;have hu:∀k' o',ops.toList[k']?=some o'→o'.dst=some s→k' = j:=by
     intro k' o' f a;rcases ((gu hok (i:=k') (o:=o') (by simpa using f)).2.2 j p s hj hd).1 with h|h
     ·exact h
     ·exact absurd a h
    by_cases hji:j=i
    ·subst hji;obtain rfl:o=p:=by rw[hi] at hj;exact aJ hj
     rw[lD (fun k=>(listed.setIfInBounds j true).getD k false) _ s _ 0 _ j o (by simpa using hi) hd (by simpa using g) hu hs];simp only[Act.put,hd,eu,if_true];rw[qW (by rw[lay_size];exact hs)]
    have b:o.dst≠some s:=fun e=>hji ((hu i o (by simpa using hi) e).symm);have e1:(({ a0 with tmps:=lay (fun i=>listed.getD i false) y ops.toList 0 a0.tmps }:Act).put o.dst v).tmps[s]?=(lay (fun i=>listed.getD i false) y ops.toList 0 a0.tmps)[s]?:=by
     cases ho:o.dst with
     | none=>rfl
     | some d=>
      have:d≠s:=fun e=>b (by rw[ho,e]);simp only[Act.put];rw[fQ this]
    rw[e1];cases hLj:listed.getD j false with
    | true=>
     rw[lD (fun i=>listed.getD i false) y s _ 0 _ j p (by simpa using hj) hd (by simpa using hLj) hu hs,
      lD (fun k=>(listed.setIfInBounds i true).getD k false) _ s _ 0 _ j p (by simpa using hj) hd (by rw[eu,c j hji];exact hLj) hu hs]
     simp[hji]
    | false=>
     rw[iL (fun i=>listed.getD i false) y s _ 0 _ (fun k o' hk a=>by rw[eu,hu k o' hk a];exact hLj),
      iL (fun k=>(listed.setIfInBounds i true).getD k false) _ s _ 0 _ (fun k o' hk a=>by rw[eu,hu k o' hk a,c j hji];exact hLj)]
   have b:o.dst≠some s:=fun e=>hex ⟨i,o,hi,e⟩;have e1:(({ a0 with tmps:=lay (fun i=>listed.getD i false) y ops.toList 0 a0.tmps }:Act).put o.dst v).tmps[s]?=(lay (fun i=>listed.getD i false) y ops.toList 0 a0.tmps)[s]?:=by
    cases ho:o.dst with
    | none=>rfl
    | some d=>
     have:d≠s:=fun e=>b (by rw[ho,e]);simp only[Act.put];rw[fQ this]
   rw[e1,iL _ y s _ 0 _ (fun k o' hk hd=>absurd ⟨k,o',by simpa using hk,hd⟩ hex),iL _ _ s _ 0 _ (fun k o' hk hd=>absurd ⟨k,o',by simpa using hk,hd⟩ hex)]
  have e1:(({ a0 with tmps:=lay (fun i=>listed.getD i false) y ops.toList 0 a0.tmps }:Act).put o.dst v).tmps.size=a0.tmps.size:=by
   cases o.dst with
   | none=>exact lay_size _ _ _ _ _
   | some d=>simp[Act.put,lay_size]
  rw[lg (by rw[e1];omega),lg (by rw[lay_size];omega)]
 cases hdst:o.dst with
 | none=>rw[hdst] at key;simp only[Act.put] at key ⊢; rw[key]
 | some d=>rw[hdst] at key;simp only[Act.put] at key ⊢; rw[key]
theorem rD {a b:Act} {w:World} {F:Value→World→Prop} {K:Act→World→Prop} (hi:ops[i]?=some o)
 (hwant:Region.wanted o (yielded ops a.tmps)=true) (hexec:execOp a.eval o=execOp b.eval o) (h:Gives P o b w F) (hK:∀v w',F v w'→K (a.put o.dst v) w'):wpOp P ops Q i K a w:=by
 unfold wpOp;simp only[hi,hwant,if_true];refine .inl ?_;unfold Oper.wp;rw[hexec];unfold Gives at h;generalize (execOp b.eval o).run P w=r at h ⊢;cases r with
 | ok n w'=>
  cases n with
  | value v=>exact hK _ _ h
  | skip=>exact hK _ _ h
  | enter f args=>
   refine xK h fun e w'' he => ?_;cases e with
   | returned v=>exact hK _ _ he
   | panicked c=>exact he.elim
   | outgrown=>exact he.elim
  | _=>exact h.elim
 | halt x w'=>exact h.elim
def writer (ops:Array Oper) (t:Nat):Option Nat:=(List.range ops.size).find? fun i=>match ops[i]? with | some o=>o.dst==some t | none=>false
def gI (ρ:Operand→Value) (ops:Array Oper) (g:Nat):Option Bool:=
 match (ops[g]?).bind (·.dst) with
 | some d=>match ρ (.tmp d) with | .bool b=>some b | _=>none
 | none=>none
def dM (P:Program) (o:Oper) (ρ:Operand→Value) (w:World) (F:Value→World→Prop):Prop:=
 match (execOp ρ o).run P w with
 | .ok (.value v) w'=>F v w'
 | .ok .skip w'=>F undef w'
 | .ok (.enter f args) w'=>Calls P f args w' fun | .returned v,w''=>F v w'' | _,_=>False
 | _=>False
structure mg where
 r:Value→World→Prop
 st:∀v w w',Below w.heap.size w w'→r v w→r v w'
def ul (V:Value):mg:=⟨fun v _=>v=V,fun _ _ _ _ h=>h⟩
def anyR:mg:=⟨fun _ _=>True,fun _ _ _ _ _=>trivial⟩
def Xh (n:Nat) (vs:List Value):mg:=⟨fun v w => ∃a c,v = .slice a n c∧n≤c∧c≤maxLen∧(a=none→c=0)∧dP w a vs,
 fun _ _ _ hb ⟨a,c,h1,h2,h3,h4,h5⟩=>⟨a,c,h1,h2,h3,h4,h5.below hb⟩⟩
def rl (l:List mg) (i:Nat) (v:Value) (w:World):Prop:=(l.getD i anyR).r v w
def aW (C:Nat→Oper→Prop):Nat→List Oper→Prop
 | _,[]=>True
 | k,o::r=>C k o∧aW C (k+1) r
theorem aC {C:Nat→Oper→Prop} :aW C k []:=trivial
theorem ag {C:Nat→Oper→Prop} {r:List Oper} (h:C k o) (hr:aW C (k+1) r):aW C k (o::r):=⟨h,hr⟩
theorem aW.at {C:Nat→Oper→Prop}:∀ {l:List Oper} {k:Nat},aW C k l→∀i o,l[i]?=some o→C (k+i) o
 | [],_,_,_,_,h=>by simp at h
 | o::r,k,h,0,o',hi=>by simp at hi;subst hi;exact h.1
 | o::r,k,h,i+1,o',hi=>by have:=aW.at h.2 i o' (by simpa using hi);rwa [show k+(i+1)=k+1+i by omega]
def nG (P:Program) (ops:Array Oper) (a0:Act) (w0:World) (l:List mg) (i:Nat) (o:Oper):Prop:=
 ∀(ρ:Operand→Value) (y:Nat→Value) (w:World),(∀t j,writer ops t=some j→ρ (.tmp t)=y j)→(∀x,(match x with | .tmp t=>writer ops t=none | _=>True)→ρ x=a0.eval x) →
  Below w0.heap.size w0 w→(∀j,o.after.toList.any (fun e=>e.on==j)=true→rl l j (y j) w) →
  if Region.wanted o (gI ρ ops)=true then dM P o ρ w (fun v w'=>Below w.heap.size w w'∧rl l i v w') else rl l i undef w
def jQ (ops:Array Oper) (n:Nat):Bool:=ops.toList.all fun o=>match o.dst with | some d=>decide (d<n) | none=>true
theorem aj {w:World} {l:List mg} (v:Value) (hw:Region.wanted o (gI ρ ops)=true) (hrun:(execOp ρ o).run P w = .ok (.value v) w) (hR:rl l i v w) :
  if Region.wanted o (gI ρ ops)=true then dM P o ρ w (fun v w'=>Below w.heap.size w w'∧rl l i v w') else rl l i undef w:=by
 rw[if_pos hw];unfold dM;rw[hrun];exact⟨Below.refl _ _,hR⟩
theorem Dg {w:World} {l:List mg} (hw:Region.wanted o (gI ρ ops)=false) (hR:rl l i undef w) :
  if Region.wanted o (gI ρ ops)=true then dM P o ρ w (fun v w'=>Below w.heap.size w w'∧rl l i v w') else rl l i undef w:=by
 rw[if_neg (by rw[hw];exact Bool.false_ne_true)];exact hR
theorem aR {w:World} {l:List mg} (f:FuncId) (args:Array Value) (hw:Region.wanted o (gI ρ ops)=true) (hrun:(execOp ρ o).run P w = .ok (.enter f args) w)
 (hc:Calls P f args w fun e w' => ∃v,e = .returned v∧Below w.heap.size w w'∧rl l i v w') :
  if Region.wanted o (gI ρ ops)=true then dM P o ρ w (fun v w'=>Below w.heap.size w w'∧rl l i v w') else rl l i undef w:=by
 rw[if_pos hw];unfold dM;rw[hrun];refine hc.mono fun e w' ⟨v,he,h⟩ => ?_;subst he;exact h
theorem ah {y:Nat→Option Bool} (hg:o.guard=none):Region.wanted o y=true:=by simp[Region.wanted,hg]
theorem bu (g d:Nat) (b want:Bool) (hg:o.guard=some (g,want)) (hd:(ops[g]?).bind (·.dst)=some d) (hv:ρ (.tmp d) = .bool b):Region.wanted o (gI ρ ops)=(b==want):=by
 simp only[Region.wanted,hg,gI,hd,hv];cases b<;>cases want<;>rfl
theorem dL {w:World} {d:TypeDesc} (ho:o.op = .load ty x) (hx:ρ x = .pointer (some ⟨b,0,none⟩)) (hb:aB w b cs T)
 (hu:P.underlying ty=some d) (hd:(match d with | .struct _ | .array _ _=>true | _=>false)=true) (hi:(P.info? ty).map (·.size)=some cs.size):(execOp ρ o).run P w = .ok (.value (.agg cs)) w:=by
 unfold execOp;simp only[ho,hx,Instr.loadAt,Instr.sureAddr,kC,rU,rM,run_loadVar_row w b T ty cs (0,0) d hb hu hd hi]
theorem run_move {w:World} (ho:o.op = .move x∨o.op = .assign x) (hx:ρ x=v):(execOp ρ o).run P w = .ok (.value v) w:=by
 rcases ho with ho|ho<;>simp[execOp,ho,hx]
theorem aU {w:World} {f:FuncId} {xs:Array Operand} {ats:Array TypeId} {fn:Func} (ho:o.op = .call { callee:=.value (.func f),args:=xs,argTypes:=ats })
 (hρ : ρ (.func f) = .func (.func f) #[] #[]) (hf : P.funcs[f]? = some fn) (hn : (fn.name == "runtime.NumGoroutine") = false) (hb : fn.body.isNone = false) (ha : xs.map ρ = args) : (execOp ρ o).run P w = .ok (.enter f args) w := by
 have e1:execOp ρ o=callFunc f args:=by
  unfold execOp;simp only[ho];have e2:resolve ρ { callee:=.value (.func f),args:=xs,argTypes:=ats } o.type=Sem.pure { target:=.fn (.func f) #[],args:=args }:=by unfold resolve;simp only[hρ,ha];simp[Deferred.ofValue];rfl
  rw[e2];show callFunc f (args++#[])=_;simp
 rw[e1];have a : ¬ fn.name = "runtime.NumGoroutine" := by simpa using hn
 have b : ¬fn.body=none:=fun h=>by simp[h] at hb
 unfold callFunc;simp[hf,a,b]
theorem pF {w:World} {op:BinOp} {y:Operand} (ho:o.op = .binOp op t x y t') (hx:ρ x=vx) (hy:ρ y=vy)
 (hr:(do eqGuard op t x y vx vy;binOp op t vx vy:Sem Value).run P w = .ok v w):(execOp ρ o).run P w = .ok (.value v) w:=by
 unfold execOp;simp only[ho,hx,hy];rw[kC,hr];rfl
theorem pI {w:World} {c y:Operand} {b:Bool} (ho:o.op = .pick c x y) (hc:ρ c = .bool b) (hx:(if b then ρ x else ρ y)=v):(execOp ρ o).run P w = .ok (.value v) w:=by
 unfold execOp;simp only[ho,hc];subst hx;cases b<;>rfl
theorem CW {w:World} {b:Bool} (ho:o.op = .unOp .not t x) (hx:ρ x = .bool b):(execOp ρ o).run P w = .ok (.value (.bool (!b))) w:=by
 unfold execOp;simp only[ho,hx];rfl
theorem Kk {w:World} (ho:o.op = .call { callee:=.builtin .len,args:=#[x],argTypes:=#[t] }) (hx:ρ x = .slice a n c) (ht:P.underlying t=some (.slice (P.elem t))):(execOp ρ o).run P w = .ok (.value (.int .i64 n)) w:=by
 unfold execOp;simp only[ho];simp[hx,resolve,invoke,builtin,run_len_slice _ t o.type a n c ht];rfl
theorem ET {w:World} (ho:o.op = .fieldAddr t x f) (hx:ρ x=vx) (hr:(Instr.fieldAt t vx f).run P w = .ok v w):(execOp ρ o).run P w = .ok (.value v) w:=by
 unfold execOp;simp only[ho,hx];rw[kC,hr];rfl
theorem run_load {w:World} (ho:o.op = .load t x) (hx:ρ x=vx) (hr:(Instr.loadAt t vx).run P w = .ok v w):(execOp ρ o).run P w = .ok (.value v) w:=by
 unfold execOp;simp only[ho,hx];rw[kC,hr];rfl
def KV (ops:Array Oper) (a0:Act) (l:List mg) (o:Oper) (t:Nat) (v:Value):Prop:=
 (∃k,writer ops t=some k∧o.after.toList.any (fun e=>e.on==k)=true∧l.getD k anyR=ul v)∨(writer ops t=none∧a0.eval (.tmp t)=v)
theorem Xf {l:List mg} {t:Nat} (h1:writer ops t=none) (h2:a0.eval (.tmp t)=v):KV ops a0 l o t v:=.inr ⟨h1,h2⟩
def WZ (P:Program) (ops:Array Oper) (a0:Act) (l:List mg) (i:Nat) (o:Oper):Prop:=
 ∀(ρ:Operand→Value) (y:Nat→Value) (w:World),(∀t j,writer ops t=some j→ρ (.tmp t)=y j)→(∀x,(match x with | .tmp t=>writer ops t=none | _=>True)→ρ x=a0.eval x) →
  (∀j,o.after.toList.any (fun e=>e.on==j)=true→rl l j (y j) w)→∃v,(execOp ρ o).run P w = .ok (.value v) w∧rl l i v w
def OkW (ops:Array Oper) (l:List mg) (o:Oper) (b:Bool):Prop:=
 ∀(ρ:Operand→Value) (y:Nat→Value) (w:World),(∀t j,writer ops t=some j→ρ (.tmp t)=y j)→(∀j,o.after.toList.any (fun e=>e.on==j)=true→rl l j (y j) w)→Region.wanted o (gI ρ ops)=b
theorem Xa {l:List mg} (hg:o.guard=none):OkW ops l o true:=fun _ _ _ _ _=>ah hg
section
variable {P:Program} {ops:Array Oper} {a0:Act} {w0:World} {l:List mg} {i:Nat} {o:Oper}
theorem KV.at {t:Nat} {v:Value} (h:KV ops a0 l o t v) {ρ:Operand→Value} {y:Nat→Value} {w:World} (hw:∀t j,writer ops t=some j→ρ (.tmp t)=y j) (hn:∀x,(match x with | .tmp t=>writer ops t=none | _=>True)→ρ x=a0.eval x) (hd:∀j,o.after.toList.any (fun e=>e.on==j)=true→rl l j (y j) w):ρ (.tmp t)=v:=by
 rcases h with ⟨k,h1,h2,h3⟩|⟨h1,h2⟩
 ·have h4:=hd k h2;unfold rl at h4;rw[h3] at h4;exact (hw t k h1).trans h4
 ·exact (hn (.tmp t) h1).trans h2
theorem Wi {w:World} (hr:l.getD i anyR=ul V) (e:v=V):rl l i v w:=by unfold rl;rw[hr];exact e
theorem Xe {t:Nat} (ho:o.op = .move (.tmp t)) (hx:KV ops a0 l o t V) (hr:l.getD i anyR=ul V):WZ P ops a0 l i o:=fun ρ y w hw hn hd=>⟨V,run_move (.inl ho) (hx.at hw hn hd),Wi hr rfl⟩
theorem Xg (hg:OkW ops l o true) (h:WZ P ops a0 l i o):nG P ops a0 w0 l i o:=fun ρ y w hw hn _ hd=>by
 obtain⟨v,h1,h2⟩:=h ρ y w hw hn hd;exact aj v (hg ρ y w hw hd) h1 h2
end
theorem jl {α:Type} (enc:α→List Value) (sz:Nat) (hsz:∀x,(enc x).length=sz) (l:List α) (i:Nat) (h:i<l.length) (j:Nat) (hj:j<sz):(l.flatMap enc)[i*sz+j]?=(enc l[i])[j]?:=by
 have e:(enc l[i])[j]?=some ((enc l[i])[j]'(by rw[hsz];exact hj)):=aH _;rw[e];exact flat_get enc sz hsz l i h j _ e
theorem Jr {α:Type} (enc:α→List Value) (sz:Nat) (hsz:∀x,(enc x).length=sz) (hp:0<sz) (l:List α) (m:Nat) (u:Value) (h:(l.flatMap enc)[m]?=some u) :
  ∃i j,∃hi:i<l.length,m=i*sz+j∧j<sz∧(enc l[i])[j]?=some u:=by
 have hm:m<l.length*sz:=by
  rcases fG m (l.flatMap enc).length with h1|h1
  ·rwa [flat_len enc sz hsz] at h1
  ·rw[dI h1] at h;cases h
 have hj:=qx m hp;have hd:=Nat.div_add_mod m sz;have hi:m / sz<l.length:=Nat.div_lt_of_lt_mul (by rw[wQ];exact hm);refine⟨m / sz,m%sz,hi,by rw[wQ];exact hd.symm,hj,?_⟩;rw[←jl enc sz hsz l _ hi _ hj,wQ,hd];exact h
theorem Ac {α:Type} (enc:α→List Value) (sz:Nat) (hsz:∀x,(enc x).length=sz) (hp:0<sz) (l:List α) (k:Nat) (hk:k<l.length) (x:α) (off:Nat) (cur:Array Value) (hfit:off+l.length*sz≤cur.size)
 (h:∀j u,(l.flatMap enc)[j]?=some u→cur[off+j]?=some u):∀j u,((l.set k x).flatMap enc)[j]?=some u→(bB cur (off+k*sz) (enc x))[off+j]?=some u:=by
 intro m u hm;obtain⟨i,j,hi,rfl,hj,e⟩:=Jr enc sz hsz hp _ m u hm;have b : i<l.length:=by simpa using hi
 by_cases hik:i=k
 ·subst hik;rw[show off+(i*sz+j)=(off+i*sz)+j from by omega];have h1:(i+1)*sz≤l.length*sz:=tX _ hk;rw[tH] at h1;exact putAt_in _ _ _ _ _ (by rw[hsz];omega) (by simpa using e)
 have a:off+(i*sz+j)<off+k*sz∨off+k*sz+(enc x).length≤off+(i*sz+j):=by
  rw[hsz];rcases vK hik with h1|h1
  ·have:=tX sz h1;rw[CF] at this;omega
  have:=tX sz h1;rw[CF] at this;omega
 rw[putAt_out _ _ _ _ a];refine h _ _ ?_;rw[jl enc sz hsz l i b j hj];rw[zt (fun e=>hik e.symm)] at e;exact e
theorem Own.put {α:Type} {enc:α→List Value} (hsz:∀x,(enc x).length=sz) (hp:0<sz) {w:World} {l:List α} (h:Own w B e sz v l.length (l.flatMap enc)) (k:Nat) (hk:k<l.length) :
  ∃g off cap cur,v = .slice (some ⟨g,off,none⟩) l.length cap∧B≤g∧aB w g cur e∧off+k*sz+sz≤cur.size∧(∀j u,(enc l[k])[j]?=some u→w.cell? ⟨g,off+k*sz+j,none⟩=some u) ∧
   ∀w' x,aB w' g (bB cur (off+k*sz) (enc x)) e→Own w' B e sz v l.length ((l.set k x).flatMap enc):=by
 obtain⟨hl,h⟩:=h;rcases h with ⟨_,h0⟩|⟨g,off,cap,cur,rfl,hB,hg,hc,hm,hs,ht⟩
 ·omega
 have h1:(k+1)*sz≤l.length*sz:=tX _ hk;have h2:l.length*sz≤cap*sz:=tX _ hc;rw[tH] at h1;refine⟨g,off,cap,cur,rfl,hB,hg,by omega,fun j u hj => ?_,fun w' x hw=>⟨?_,.inr ⟨g,off,cap,_,rfl,hB,hw,hc,hm,by rw[size_putAt];exact hs,?_⟩⟩⟩
 ·rw[hg.cell,mZ];refine ht _ _ ?_;have a : j<sz:=by
   rcases fG j sz with h|h
   ·exact h
   ·rw[dI (by rw[hsz];exact h)] at hj;cases hj
  rw[jl enc sz hsz l k hk j a];exact hj
 ·rw[flat_len enc sz hsz,bH]
 ·exact Ac enc sz hsz hp l k hk x off cur (by omega) ht
theorem Own.put1 {f:Int→Value} {w:World} (h:Own w B e 1 v l.length (l.map f)) (k:Nat) (hk:k<l.length) :
  ∃g off cap,v = .slice (some ⟨g,off,none⟩) l.length cap∧B≤g∧g<w.heap.size∧w.cell? ⟨g,off+k,none⟩=some (f l[k])∧w.frozen? ⟨g,off+k,none⟩=false ∧
   ∀x,Own (w.setCell ⟨g,off+k,none⟩ (f x)) B e 1 v l.length ((l.set k x).map f):=by
 rw[←iZ] at h;obtain⟨g,off,cap,cur,rfl,hB,hg,hs,hc,hw⟩:=h.put (sz:=1) (fun _=>rfl) Nat.one_pos k hk;rw[sH] at hs hc hw;refine⟨g,off,cap,rfl,hB,hg.lt,by simpa using hc 0 _ rfl,hg.free _,fun x => ?_⟩;rw[←iZ];exact hw _ x (by simpa[bB] using hg.setCell (off+k) (f x))
theorem Gs {α:Type} (enc:α→List Value) (sz:Nat) (hsz:∀x,(enc x).length=sz) (hp:0<sz) (z:Array Value) (x:α) (hz:z.toList=enc x) (n:Nat):(madeCells z (n*sz)).toList=(List.replicate n x).flatMap enc:=by
 have b:z.size=sz:=by rw[←hsz x,←hz];simp
 apply tO
 ·rw[flat_len enc sz hsz];simp[size_madeCells]
 intro m h1 h2;have hm:m<n*sz:=by simpa[size_madeCells] using h1
 have h3:((List.replicate n x).flatMap enc)[m]?=some ((List.replicate n x).flatMap enc)[m]:=aH h2;obtain⟨i,j,hi,e,hj,he⟩:=Jr enc sz hsz hp _ m _ h3;rw[List.getElem_replicate] at he;have a:m%z.size=j:=by rw[b,e,wQ,Nat.mul_add_mod,qy hj]
 simp only[madeCells,Array.toList_map,uS,Array.toList_range,Ha,a];rw[←hz,tJ] at he;rw[Array.getElem!_eq_getD,bN,he];rfl
theorem uy (w:World) {a:Act} 
 (hg:o.guard=none) (l c:Operand) (t:TypeId) (hop:o.op=Op.makeSlice t l c)
 {α:Type} (enc:α→List Value) (e:TypeId) (z:Value) (size bytes:Nat) (x:α) (hsz:∀x,(enc x).length=size) (hp:0<size) (h1:P.underlying t=some (.slice e)) (h2:(P.info? e).map (fun i=>(i.zero,i.size,i.bytes))=some (some z,size,bytes)) (hz:z.cells.toList=enc x)
 (kl kc:IntKind) (L C:Int) (n:Nat) (hl:a.eval l = .int kl L) (hc:a.eval c = .int kc C) (hL:L=(n:Int)) (hC:C=(n:Int)) (b2:bytes*n≤281474976710656) (b3:n≤maxLen)
 (hK:∀w',Own w' w.heap.size e size (.slice (some ⟨w.heap.size,0,none⟩) n n) n ((List.replicate n x).flatMap enc)→w.grownBy w' none→wpList P ops Q rest (a.put o.dst (.slice (some ⟨w.heap.size,0,none⟩) n n)) w') :
  wpList P ops Q (o::rest) a w:=by
 obtain⟨i,hi,b,hs,hb⟩:=info_parts h2;refine wpList_make_full w hg l c t hop w.heap.size e i z size h1 hi b hs kl kc L C n hl hc hL hC (by rw[hb];exact b2) b3 (ay _) fun w' ho d=>hK w' ?_ d;rw[Gs enc size hsz hp z.cells x hz] at ho;exact Own.of_owns ho
theorem own_ne {w:World} (h:Own w B e sz v n xs) (hk:aB w g cs T) (hT:T≠e):∀g',v.ownBlock=some g'→some g≠some g':=by
 intro g' a he;cases he;rcases h.2 with ⟨rfl,_⟩|⟨g2,off,cap,cur,rfl,_,hb,_⟩
 ·cases a
 cases a;unfold aB at hk hb;rw[hk] at hb;simp only[iY,rX] at hb;exact hT hb.2.1
theorem ak {w:World} (h:Own w B e sz v n xs) (hk:aB w g cs T) (hT:T≠e) (hgr:w.grownBy w' (some g)):Own w' B e sz v n xs:=
 h.grown hgr (own_ne h hk hT)
def ou (B:Nat) (e:TypeId) (sz n:Nat) (xs:List Value):mg:=⟨fun v w=>Own w B e sz v n xs,fun _ _ _ hb h=>h.below hb⟩
theorem gB {w:World} (m:World→Prop) (h:∀W,Below w.heap.size w W→aB W w.heap.size X TX→W.heap.size=w.heap.size+1→m W):m (w.alloc (.cells X TX)):=
 h _ ((Below.refl _ _).alloc (ay _) _) (aB.new _ _ _) (by simp)
theorem rE {w:World} (m:World→Prop) (h:∀W,Below w.heap.size w W→aB W w.heap.size X TX→aB W (w.heap.size+1) Y TY→W.heap.size=w.heap.size+2→m W) :
  m ((w.alloc (.cells X TX)).alloc (.cells Y TY)):=by
 refine gB (fun W=>m (W.alloc (.cells Y TY))) fun W1 hb hx hs => ?_;refine gB m fun W2 a hy b => ?_;rw[hs] at hy b;exact h W2 (ae hb a) (hx.ext a) hy (by omega)
theorem LD {w:World} (m:World→Prop) (h:∀W,Below w.heap.size w W→aB W w.heap.size X TX→aB W (w.heap.size+1) Y TY→aB W (w.heap.size+2) Z TZ→W.heap.size=w.heap.size+3→m W) :
  m (((w.alloc (.cells X TX)).alloc (.cells Y TY)).alloc (.cells Z TZ)):=by
 refine rE (fun W=>m (W.alloc (.cells Z TZ))) fun W1 hb hx hy hs => ?_;refine gB m fun W2 a hz b => ?_;rw[hs] at hz b;exact h W2 (ae hb a) (hx.ext a) (hy.ext a) hz (by omega)
theorem Own.drop {α:Type} {enc:α→List Value} (hsz:∀x,(enc x).length=sz) {w:World} {l:List α} (h:Own w B e sz (.slice (some ⟨g,off,none⟩) l.length cap) l.length (l.flatMap enc)) (k:Nat) (hk:k≤l.length) :
  Own w B e sz (.slice (some ⟨g,off+k*sz,none⟩) (l.drop k).length (cap-k)) (l.drop k).length ((l.drop k).flatMap enc):=by
 obtain⟨hl,h⟩:=h;rcases h with ⟨h1,_⟩|⟨g',off',cap',cur,hv,hB,hg,hc,hm,hs,ht⟩
 ·cases h1
 cases hv;refine⟨flat_len enc sz hsz _,.inr ⟨g,off+k*sz,cap-k,cur,rfl,hB,hg,by simp;omega,by omega,?_,fun j u hj => ?_⟩⟩
 ·have:(cap-k)*sz+k*sz=cap*sz:=by rw[←tH];congr 1;omega
  omega
 rw[mZ];refine ht _ _ ?_;have e:l.flatMap enc=(l.take k).flatMap enc++(l.drop k).flatMap enc:=by rw[←eY,qp]
 rw[e,kK (by rw[flat_len enc sz hsz,lC,xI hk];omega),flat_len enc sz hsz,lC,xI hk,Ag];exact hj
theorem jU {w:World} {l:List mg} (v:Value) (hw:Region.wanted o (gI ρ ops)=true) (hrun:(execOp ρ o).run P w = .ok (.value v) w') (hb:Below w.heap.size w w') (hR:rl l i v w') :
  if Region.wanted o (gI ρ ops)=true then dM P o ρ w (fun v w'=>Below w.heap.size w w'∧rl l i v w') else rl l i undef w:=by
 rw[if_pos hw];unfold dM;rw[hrun];exact⟨hb,hR⟩
theorem jZ {w:World} (h:w.grownBy w' none):Below w.heap.size w w':=(Below.refl _ _).grown h (ay _) (fun k hk=>by cases hk)
theorem Own.empty (w:World) (T:TypeId) (hB:B≤w.heap.size):Own (w.alloc (.cells #[] T)) B T sz (.slice (some ⟨w.heap.size,0,none⟩) 0 0) 0 []:=
 ⟨by simp,.inr ⟨w.heap.size,0,0,#[],rfl,hB,aB.new _ _ _,ay _,aV _,by simp,fun j u h=>by simp at h⟩⟩
def xN (ops:Array Oper):Nat→Nat→List Nat
 | 0,_=>[]
 | f+1,i=>match ops[i]? with
  | none=>[]
  | some o=>o.after.toList.flatMap fun e=>e.on::xN ops f e.on
def iD (ops:Array Oper) (m:Nat):Bool:=
 (List.range ops.size).all fun i=>decide (i<m)||(List.range i).all fun j=>(xN ops ops.size i).contains j
theorem vD {ops:Array Oper} {listed:Array Bool} (hc:∀i o,ops[i]?=some o→listed.getD i false=true→∀e∈o.after,listed.getD e.on false=true):∀(f i:Nat),(∀o,ops[i]?=some o→∀e∈o.after,listed.getD e.on false=true)→∀j∈xN ops f i,listed.getD j false=true
 | 0,_,_,j,hj=>by simp[xN] at hj
 | f+1,i,h,j,hj=>by
  unfold xN at hj;cases ho:ops[i]? with
  | none=>simp[ho] at hj
  | some o=>
   simp only[ho,jP] at hj;obtain⟨e,he,hj⟩:=hj;have he':=mX.1 he;rcases bZ.1 hj with rfl|hj
   ·exact h o ho e he'
   ·exact vD hc f e.on (fun o' ho'=>hc e.on o' ho' (h o ho e he')) j hj
theorem uH {m:Nat} (h:iD ops m=true) {listed:Array Bool} (hc:∀i o,ops[i]?=some o→listed.getD i false=true→∀e∈o.after,listed.getD e.on false=true) (hi:ops[i]?=some o) (hL:∀e∈o.after,listed.getD e.on false=true) (hm:m≤i) (j:Nat) (hj:j<i):listed.getD j false=true:=by
 have b:i<ops.size:=(ib.1 hi).1;have h1:=dK.1 h i (dE.2 b);simp only[tF,decide_eq_true_eq] at h1;rcases h1 with h1|h1
 ·omega
 have h2:=dK.1 h1 j (dE.2 hj);refine vD hc ops.size i (fun o' a => ?_) j (by simpa using h2);rw[hi] at a;cases a;exact hL
theorem ut {m:Nat} (hok:jh ops=true) (ht:iD ops m=true):∀(fuel k:Nat) (listed:Array Bool) (a:Act) (w:World),
  m≤k→k≤ops.size→ops.size-k≤fuel→listed.size=ops.size→(∀i,i<ops.size→listed.getD i false=decide (i<k))→wpList P ops Q (ops.toList.drop k) a w→wpAny P .any ops Q fuel listed a w:=by
 intro fuel
 induction fuel with
 | zero=>
  intro k listed a w p hk hf g hL h;obtain rfl:k=ops.size:=by omega
  refine⟨?_,?_⟩
  ·rw[List.eq_nil_iff_forall_not_mem];intro i hi;obtain⟨h1,o,ho,_⟩:=mem_ready.1 hi;have b:i<ops.size:=(ib.1 ho).1;have:=hL i b;simp[bN,show i<listed.size by omega] at h1 this;rw[h1] at this;simp[b] at this
  rw[qa (by simp)] at h;simpa[wpList] using h
 | succ fuel ih=>
  intro k listed a w p hk hf g hL h;have only:∀i∈Region.ready .any ops listed,i=k:=by
   intro i hi;obtain⟨h1,o,ho,f⟩:=mem_ready.1 hi;have b:i<ops.size:=(ib.1 ho).1;have h2:=hL i b;have h3:listed.getD i false=false:=by simp[bN,show i<listed.size by omega] at h1 ⊢;exact h1
   rw[h3] at h2;have r:k≤i:=by have:=h2.symm;simpa using this
   rcases fG k i with hlt' | hge
   ·exfalso;have h4:listed.getD k false=true:=uH ht (fun i' o' l n e he=>by
     have q : i' < ops.size:=(ib.1 l).1;have h8:=(gu hok l).2.1 e he;rw[hL i' q] at n;have h9:i' < k:=by simpa using n
     rw[hL e.on (by omega)];simp;omega) ho (fun e he=>f e he ((gu hok ho).2.1 e he).1) (by omega) k hlt'
    have h5:=hL k (by omega);rw[h4] at h5;simp at h5
   ·omega
  refine⟨fun c => ?_,fun i hi => ?_⟩
  ·rcases fG k ops.size with b|hge
   ·exfalso;have:k∈Region.ready .any ops listed:=by
     rw[mem_ready];refine⟨?_,ops[k],by simp[b],fun e he hb => ?_⟩
     ·have:=hL k b;simp[bN,show k<listed.size by omega] at this ⊢;exact this
     have h6:=(gu hok (i:=k) (o:=ops[k]) (by simp[b])).2.1 e he;rw[hL e.on (by omega)];simp[h6.2]
    rw[c] at this;cases this
   rw[qa (by simpa using hge)] at h;simpa[wpList] using h
  obtain rfl:=only i hi;obtain⟨_,o,ho,_⟩:=mem_ready.1 hi;have b:i<ops.size:=(ib.1 ho).1;have d:ops.toList.drop i=o::ops.toList.drop (i+1):=by rw[vv (by simpa using b)];congr 1;have:=(ib.1 ho).2;simpa using this
  rw[d] at h;have hw:wpOp P ops Q i (wpList P ops Q (ops.toList.drop (i+1))) a w:=by unfold wpOp;simp only[ho];simpa[wpList] using h
  refine wpOp_mono (fun a' w' h'=>ih (i+1) _ a' w' (by omega) (by omega) (by omega) (by simp[g]) (fun j hj => ?_) h') hw
  by_cases hji:j=i
  ·subst hji;simp[bN,show j<listed.size by omega]
  have:=hL j hj;simp only[bN,fQ (oK hji)] at this ⊢;rw[this];congr 1;simp;omega
def Fixed:List mg→Prop
 | []=>True
 | R::l=>(∀v w w',R.r v w→R.r v w')∧Fixed l
theorem fix_nil:Fixed []:=trivial
theorem JQ {R:mg} {l:List mg} (h:∀v w w',R.r v w→R.r v w') (hl:Fixed l):Fixed (R::l):=⟨h,hl⟩
theorem Fixed.at:∀ {l:List mg},Fixed l→∀i v w w',rl l i v w→rl l i v w'
 | [],_,_,_,_,_,_=>by unfold rl;simp[anyR]
 | R::l,h,0,v,w,w',hr=>by unfold rl at hr ⊢; simpa using h.1 v w w' (by simpa using hr)
 | R::l,h,i+1,v,w,w',hr=>by have:=Fixed.at h.2 i v w w';unfold rl at hr this ⊢;simp only[List.getD_cons_succ] at hr ⊢;exact this hr
def bW (F:Value→Prop):mg:=⟨fun v _=>F v,fun _ _ _ _ h=>h⟩
def dG (y:Nat→Value) (i:Nat) (v:Value):Nat→Value:=fun k=>if k=i then v else y k
def We (ops:Array Oper) (m:Nat) (R:Nat→Value→World→Prop) (a0:Act) (J:(Nat→Bool)→(Nat→Value)→World→Prop) (listed:Array Bool) (a:Act) (w:World):Prop:=
 (∀i,m≤i→listed.getD i false=false)∧(∀i o,ops[i]?=some o→listed.getD i false=true→∀e∈o.after,listed.getD e.on false=true)∧∃y:Nat→Value,a = { a0 with tmps:=lay (fun i=>listed.getD i false) y ops.toList 0 a0.tmps }∧J (fun i=>listed.getD i false) y w∧∀i,i<ops.size→listed.getD i false=true→R i (y i) w
theorem AV (m:Nat) (hok:jh ops=true) (ht:iD ops m=true) (hmn:m≤ops.size)
 (R:Nat→Value→World→Prop) (J:(Nat→Bool)→(Nat→Value)→World→Prop) (hJ0:∀y,J (fun _=>false) y w0.drew) (hstab:∀i v w w',R i v w→R i v w')
 (hstep:∀i o,i<m→ops[i]?=some o→∀L y w,L i=false→(∀j,o.after.toList.any (fun e=>e.on==j)=true→L j=true)→J L y w→(∀j,o.after.toList.any (fun e=>e.on==j)=true→R j (y j) w) →
 if Region.wanted o (yielded ops (lay (fun _=>true) y ops.toList 0 a0.tmps))=true then Gives P o { a0 with tmps:=lay (fun _=>true) y ops.toList 0 a0.tmps } w (fun v w'=>J (cO L i) (dG y i v) w'∧R i v w') else J (cO L i) (dG y i undef) w∧R i undef w)
 (hend:∀y w,J (fun i=>decide (i<m)) y w→(∀i,i<m→R i (y i) w)→wpList P ops Q (ops.toList.drop m) { a0 with tmps:=lay (fun i=>decide (i<m)) y ops.toList 0 a0.tmps } w) :
  wpAny P .any ops Q ops.size (Array.replicate ops.size false) a0 w0.drew:=by
 have hG:∀(fuel:Nat) (listed:Array Bool) (a:Act) (w:World),listed.size=ops.size→listed.toList.countP (!·)≤fuel→We ops m R a0 J listed a w→wpAny P .any ops Q fuel listed a w:=by
  intro fuel
  induction fuel with
  | zero=>
   intro listed a w n hc hA;have hl:∀i,i<ops.size→listed.getD i false=true:=by
    intro i hH;have h0:listed.toList.countP (!·)=0:=by omega
    have:=xy.1 h0 (listed[i]'(by omega)) (by simp);simpa[bN,show i<listed.size by omega] using this
   obtain⟨b,hz,y,ha,hb,hR⟩:=hA;have hC : m=ops.size:=by
    rcases fG m ops.size with h|h
    ·have h1:=hl m h;rw[b m (ay _)] at h1;cases h1
    ·omega
   refine ut (m:=m) hok ht 0 ops.size listed a w (by omega) (ay _) (by omega) n (fun i hi=>by rw[hl i hi];simp[hi]) ?_;have hf:(fun i=>listed.getD i false)=fun i=>decide (i<m):=by
    funext i
    by_cases hi:i<m
    ·rw[hl i (by omega)];simp[hi]
    ·rw[b i (by omega)];simp[hi]
   rw[hf] at hb;have:=hend y w hb fun i hi=>hR i (by omega) (hl i (by omega));rw[ha,qL (fun i=>listed.getD i false) (fun i=>decide (i<m)) y ops.toList 0 a0.tmps (fun k hk=>by
    have hI : k<ops.size:=by simpa using hk
    simp only[eu];rw[hl k hI];simp;omega)]
   rw[hC] at this ⊢;exact this
  | succ fuel ih=>
   intro listed a w n hc hA
   by_cases hfull:∀i,i<m→listed.getD i false=true
   ·obtain⟨b,hz,y,ha,hb,hR⟩:=hA;have hL:∀i,i<ops.size→listed.getD i false=decide (i<m):=by
     intro i hi
     by_cases him:i<m
     ·rw[hfull i him];simp[him]
     ·rw[b i (by omega)];simp[him]
    have hp:ops.size-m≤fuel+1:=by
     have h1:listed.toList.countP (!·)=ops.size-m:=by
      have e:listed.toList=List.replicate m true++List.replicate (ops.size-m) false:=by
       apply mR;intro i
       by_cases hi:i<ops.size
       ·have h2:=hL i hi;rw[tJ,Af (show i<listed.size by omega)];simp only[bN,Af (show i<listed.size by omega),oq] at h2;rw[h2]
        by_cases him:i<m
        ·rw[kY (by simpa using him)];simp[him]
        rw[kK (by simp;omega)];rw[jD,nI,if_pos (by omega)];simp[him]
       ·rw[dI (by simp;omega),dI (by simp;omega)]
      rw[e];simp[Cn,Jc]
     omega
    refine ut (m:=m) hok ht (fuel+1) m listed a w (ay _) hmn hp n hL ?_;have hf:(fun i=>listed.getD i false)=fun i=>decide (i<m):=by
     funext i
     by_cases hi:i<m
     ·rw[hfull i hi];simp[hi]
     ·rw[b i (by omega)];simp[hi]
    rw[hf] at hb;have:=hend y w hb fun i hi=>hR i (by omega) (hfull i hi);rw[ha,qL (fun i=>listed.getD i false) (fun i=>decide (i<m)) y ops.toList 0 a0.tmps (fun k hk=>by simp only[eu];exact hL k (by simpa using hk))];exact this
   have r:Region.ready .any ops listed≠[]:=by
    intro hn;apply hfull;intro i
    induction i using Nat.strongRecOn with
    | ind i ih'=>
     intro him
     by_cases hc' : listed.getD i false=true
     ·exact hc'
     exfalso;have hi:i<ops.size:=by omega
     have hr:i∈Region.ready .any ops listed:=by
      rw[mem_ready];refine⟨?_,ops[i],by simp[hi],fun e he _ => ?_⟩
      ·simpa[bN,show i<listed.size by omega] using hc'
      have:=(gu hok (i:=i) (o:=ops[i]) (by simp[hi])).2.1 e he;exact ih' e.on this.2 (by omega)
     rw[hn] at hr;cases hr
   refine⟨fun h=>absurd h r,fun i hi => ?_⟩;obtain⟨h1,o,ho,hy⟩:=mem_ready.1 hi;have hH:i<ops.size:=(ib.1 ho).1;obtain⟨hB,d,_⟩:=gu hok ho;have hL:∀e∈o.after,listed.getD e.on false=true:=fun e he=>hy e he (d e he).1;have him:i<m:=by
    rcases fG i m with h|h
    ·exact h
    exfalso;apply hfull;intro j hj;exact uH ht hA.2.1 ho hL h j (by omega)
   obtain⟨b,hz,y,ha,hb,hR⟩:=hA;have z:∀v w',J (cO (fun i=>listed.getD i false) i) (dG y i v) w'→R i v w'→wpAny P .any ops Q fuel (listed.setIfInBounds i true) (a.put o.dst v) w':=by
    intro v w' hF hv;have hf:cO (fun i=>listed.getD i false) i=fun k=>(listed.setIfInBounds i true).getD k false:=by
     funext k;unfold cO
     by_cases hki:k=i
     ·subst hki;simp[bN,show k<listed.size by omega]
     rw[if_neg hki];simp[bN,fQ (oK hki)]
    rw[hf] at hF;refine ih _ _ _ (by simp[n]) ?_ ⟨fun k hk => ?_,fun k o' u hk e he => ?_,fun k=>if k=i then v else y k,?_,hF,?_⟩
    ·have hD:i<listed.toList.length:=by simp;omega
     have c:listed.toList[i]=false:=by simpa[bN,show i<listed.size by omega] using h1
     have:=List.countP_set (p:=(!·)) (l:=listed.toList) (i:=i) (a:=true) hD;rw[c] at this;have hK:0<listed.toList.countP (!·):=wU.2 ⟨listed.toList[i],dN hD,by rw[c];rfl⟩;simp only[CE];simp only[Bool.not_false,Bool.not_true,if_true,uQ,if_false] at this;omega
    ·have:=b k hk;simp only[bN,fQ (show i≠k by omega)] at this ⊢;exact this
    ·have up:∀q,listed.getD q false=true→(listed.setIfInBounds i true).getD q false=true:=by
      intro q hq
      by_cases hqi:q=i
      ·subst hqi;simp[bN,show q<listed.size by omega]
      ·simpa[bN,fQ (oK hqi)] using hq
     apply up
     by_cases hki:k=i
     ·subst hki;rw[ho] at u;cases u;exact hL e he
     ·exact hz k o' u (by simpa[bN,fQ (oK hki)] using hk) e he
    ·rw[ha,Je hok ho n v]
    intro k hk hJ
    by_cases hki:k=i
    ·subst hki;simpa using hv
    have:listed.getD k false=true:=by simpa[bN,fQ (oK hki)] using hJ
    simp only[hki,if_false];exact hstab _ _ _ _ (hR k hk this)
   have hh:∀t∈o.looksAt ops,a.tmps[t]?=(lay (fun _=>true) y ops.toList 0 a0.tmps)[t]?:=fun t ht=>by rw[ha];exact AC hok ho hL t ht
   have hu:execOp a.eval o=execOp ({ a0 with tmps:=lay (fun _=>true) y ops.toList 0 a0.tmps }:Act).eval o:=by
    refine execOp_congr o hB fun x hx => ?_;cases x with
    | tmp t=>
     have:=hh t (oG _ (Hl.2 ⟨.tmp t,by simpa using hx,rfl⟩));simp[Act.eval,this]
    | _=>rfl
   have f:Region.wanted o (yielded ops a.tmps)=Region.wanted o (yielded ops (lay (fun _=>true) y ops.toList 0 a0.tmps)):=by
    unfold Region.wanted;cases hg:o.guard with
    | none=>rfl
    | some gw=>
     obtain⟨g,want⟩:=gw;have:yielded ops a.tmps g=yielded ops (lay (fun _=>true) y ops.toList 0 a0.tmps) g:=by
      unfold yielded;cases hd:(ops[g]?).bind (·.dst) with
      | none=>rfl
      | some t=>
       have:=hh t (tC _ (by simp[hg,hd]));simp[this]
     simp only[this]
   have hs:=hstep i o him ho (fun i=>listed.getD i false) y w (by simpa[bN,show i<listed.size by omega] using h1) (fun j hj=>by
    obtain⟨e,he,hw⟩:=iX.1 hj;have hm : e.on=j:=by simpa using hw
    subst hm;exact hL e (mX.1 he)) hb (fun j hj=>by
    obtain⟨e,he,hw⟩:=iX.1 hj;have hm : e.on=j:=by simpa using hw
    subst hm;have hE:=mX.1 he;exact hR e.on (by have:=(d e hE).2;omega) (hL e hE))
   by_cases hwt:Region.wanted o (yielded ops (lay (fun _=>true) y ops.toList 0 a0.tmps))=true
   ·rw[if_pos hwt] at hs;exact rD ho (by rw[f];exact hwt) hu hs fun v w' h=>z v w' h.1 h.2
   rw[if_neg hwt] at hs;unfold wpOp;simp only[ho];rw[if_neg (by rw[f];exact hwt)];exact z undef w hs.1 hs.2
 refine hG ops.size _ _ _ (by simp) ?_ ⟨fun i _ => ?_,fun i o' u hi => ?_,fun _=>undef,?_,?_,?_⟩
 ·simpa using xG (p:=(!·)) (l:=List.replicate ops.size false)
 ·simp[bN,qB];split<;>rfl
 ·exfalso;have:i<ops.size:=(ib.1 u).1;simp[bN,this] at hi
 ·have e:lay (fun i=>(Array.replicate ops.size false).getD i false) (fun _=>undef) ops.toList 0 a0.tmps=a0.tmps:=by apply lS;intro s;exact iL _ _ s _ 0 _ fun k o' hk hd=>by simp[bN,qB];split<;>rfl
  rw[e]
 ·have e:(fun i=>(Array.replicate ops.size false).getD i false)=fun _=>false:=by funext i;simp[bN,qB];split<;>rfl
  rw[e];exact hJ0 _
 intro i hi hL;simp[bN,hi] at hL
def mo (P:Program) (ops:Array Oper) (a0:Act) (J:(Nat→Bool)→(Nat→Value)→World→Prop) (l:List mg) (i:Nat) (o:Oper):Prop:=
 ∀(ρ:Operand→Value) (y:Nat→Value) (w:World) (L:Nat→Bool),(∀t j,writer ops t=some j→ρ (.tmp t)=y j)→(∀x,(match x with | .tmp t=>writer ops t=none | _=>True)→ρ x=a0.eval x) →
  L i=false→(∀j,o.after.toList.any (fun e=>e.on==j)=true→L j=true)→J L y w→(∀j,o.after.toList.any (fun e=>e.on==j)=true→rl l j (y j) w) →
  if Region.wanted o (gI ρ ops)=true then dM P o ρ w (fun v w'=>J (cO L i) (dG y i v) w'∧rl l i v w') else J (cO L i) (dG y i undef) w∧rl l i undef w
theorem Gw (m:Nat) (l:List mg) (J:(Nat→Bool)→(Nat→Value)→World→Prop) (hst:∀L y w w',Below w.heap.size w w'→J L y w→J L y w') (hJ0:∀y,J (fun _=>false) y w0) (hfix:Fixed l) (hok:jh ops=true) (ht:iD ops m=true) (hmn:m≤ops.size)
 (n:Nat) (hn:a0.tmps.size=n) (hsz:jQ ops n=true)
 (hstep:aW (mo P ops a0 J l) 0 (ops.toList.take m))
 (hend:∀y w,J (fun i=>decide (i<m)) y w→(∀i,i<m→rl l i (y i) w)→wpList P ops Q (ops.toList.drop m) { a0 with tmps:=lay (fun i=>decide (i<m)) y ops.toList 0 a0.tmps } w) :
  wpAny P .any ops Q ops.size (Array.replicate ops.size false) a0 w0.drew:=by
 refine AV m hok ht hmn (rl l) J (fun y=>hst _ y w0 w0.drew ⟨rfl,rfl,rfl,ay _,fun _ _=>rfl⟩ (hJ0 y)) (fun i v w w' h=>hfix.at i v w w' h) (fun i o u hi L y w hc hf hb hd => ?_) hend;have f:∀t j,writer ops t=some j→({ a0 with tmps:=lay (fun _=>true) y ops.toList 0 a0.tmps }:Act).eval (.tmp t)=y j:=by
  intro t j hw;unfold writer at hw;have h1:=qo hw;have h2:=dE.1 (tZ hw);cases ho:ops[j]? with
  | none=>simp[ho] at h1
  | some p=>
   have a : p.dst=some t:=by simpa[ho] using h1
   have s:t<a0.tmps.size:=by have:=dK.1 hsz p (mX.2 (yZ ho));rw[hn];simpa[a] using this
   have hu:∀k' o',ops.toList[k']?=some o'→o'.dst=some t→k' = j:=by
    intro k' o' b ha;rcases ((gu hok (i:=k') (o:=o') (by simpa using b)).2.2 j p t ho a).1 with h|h
    ·exact h
    ·exact absurd ha h
   have:=lD (fun _=>true) y t ops.toList 0 a0.tmps j p (by simpa using ho) a rfl hu s;simp[Act.eval,this]
 have r:∀x,(match x with | .tmp t=>writer ops t=none | _=>True)→({ a0 with tmps:=lay (fun _=>true) y ops.toList 0 a0.tmps }:Act).eval x=a0.eval x:=by
  intro x hx;cases x with
  | tmp t=>
   have:(lay (fun _=>true) y ops.toList 0 a0.tmps)[t]?=a0.tmps[t]?:=by
    refine iL _ y t _ 0 _ fun k o' hk a => ?_;exfalso;simp only[writer] at hx;have b : ops[k]?=some o':=by simpa using hk
    have e:k<ops.size:=(ib.1 b).1;have:=oC.1 hx k (dE.2 e);simp[b,a] at this
   simp[Act.eval,this]
  | _=>rfl
 have c:Region.wanted o (yielded ops (lay (fun _=>true) y ops.toList 0 a0.tmps))=Region.wanted o (gI ({ a0 with tmps:=lay (fun _=>true) y ops.toList 0 a0.tmps }:Act).eval ops):=by
  congr 1;funext g;unfold yielded gI;cases (ops[g]?).bind (·.dst) with
  | none=>rfl
  | some d=>
   simp only[zO,Act.eval,bN];generalize (lay (fun _=>true) y ops.toList 0 a0.tmps)[d]?=q;cases q with
   | none=>rfl
   | some v=>cases v<;>rfl
 have z : (ops.toList.take m)[i]?=some o:=by rw[mh,if_pos u];simpa using hi
 have:=aW.at hstep i o z _ y w L f r (by rw[eu];exact hc) hf hb hd;rw[eu] at this;rw[c];exact this
theorem Sq (m:Nat) (l:List mg) (J:(Nat→Bool)→(Nat→Value)→World→Prop) (hst:∀L y w w',Below w.heap.size w w'→J L y w→J L y w') (hJ0:∀y,J (fun _=>false) y w0) (hfix:Fixed l) (hm:P.follows .mixedOrders=true) (hok:jh ops=true) (ht:iD ops m=true) (hmn:m≤ops.size)
 (n:Nat) (hn:a0.tmps.size=n) (hsz:jQ ops n=true)
 (hstep:aW (mo P ops a0 J l) 0 (ops.toList.take m))
 (hend:∀y w,J (fun i=>decide (i<m)) y w→(∀i,i<m→rl l i (y i) w)→wpList P ops Q (ops.toList.drop m) { a0 with tmps:=lay (fun i=>decide (i<m)) y ops.toList 0 a0.tmps } w) :
  (Code.region id ops true).wp P Q a0 w0:=
 wp_region_any hm (Gw m l J hst hJ0 hfix hok ht hmn n hn hsz hstep hend)
theorem eD {w:World} {l:List mg} {J:(Nat→Bool)→(Nat→Value)→World→Prop} (hst:∀L y w w',Below w.heap.size w w'→J L y w→J L y w')
 (hpure:∀v w,J L y w→J (cO L i) (dG y i v) w) (hJ:J L y w)
 (h:if Region.wanted o (gI ρ ops)=true then dM P o ρ w (fun v w'=>Below w.heap.size w w'∧rl l i v w') else rl l i undef w) :
  if Region.wanted o (gI ρ ops)=true then dM P o ρ w (fun v w'=>J (cO L i) (dG y i v) w'∧rl l i v w') else J (cO L i) (dG y i undef) w∧rl l i undef w:=by
 split at h
 ·rename_i hw;rw[if_pos hw];unfold dM at h ⊢;split at h
  ·exact⟨hpure _ _ (hst _ _ _ _ h.1 hJ),h.2⟩
  ·exact⟨hpure _ _ (hst _ _ _ _ h.1 hJ),h.2⟩
  ·refine xK h fun e w'' he => ?_;cases e with
   | returned v=>exact⟨hpure _ _ (hst _ _ _ _ he.1 hJ),he.2⟩
   | panicked c=>exact he.elim
   | outgrown=>exact he.elim
  ·exact h.elim
 rename_i hw;rw[if_neg hw];exact⟨hpure _ _ hJ,h⟩
theorem gU {w:World} {l:List mg} {J:(Nat→Bool)→(Nat→Value)→World→Prop} (f:FuncId) (args:Array Value) (hw:Region.wanted o (gI ρ ops)=true) (hrun:(execOp ρ o).run P w = .ok (.enter f args) w)
 (hc:Calls P f args w fun e w' => ∃v,e = .returned v∧J (cO L i) (dG y i v) w'∧rl l i v w') :
  if Region.wanted o (gI ρ ops)=true then dM P o ρ w (fun v w'=>J (cO L i) (dG y i v) w'∧rl l i v w') else J (cO L i) (dG y i undef) w∧rl l i undef w:=by
 rw[if_pos hw];unfold dM;rw[hrun];refine hc.mono fun e w' ⟨v,he,h⟩ => ?_;subst he;exact h
theorem eP {w:World} {l:List mg} {J:(Nat→Bool)→(Nat→Value)→World→Prop} (v:Value) (hw:Region.wanted o (gI ρ ops)=true) (hrun:(execOp ρ o).run P w = .ok (.value v) w')
 (hJ:J (cO L i) (dG y i v) w') (hR:rl l i v w') :
  if Region.wanted o (gI ρ ops)=true then dM P o ρ w (fun v w'=>J (cO L i) (dG y i v) w'∧rl l i v w') else J (cO L i) (dG y i undef) w∧rl l i undef w:=by
 rw[if_pos hw];unfold dM;rw[hrun];exact⟨hJ,hR⟩
theorem DU {a:Act} {w:World} {F G:Value→World→Prop} (h:Gives P o a w F) (hi:∀v w',F v w'→G v w'):Gives P o a w G:=by
 unfold Gives at h ⊢;generalize (execOp a.eval o).run P w=r at h;cases r with
 | ok n w'=>
  cases n<;>first
   | exact hi _ _ h
   | exact xK h fun e w'' he=>by cases e<;>first | exact hi _ _ he | exact he
   | exact h
 | halt x w'=>exact h
theorem NA {R R' : Nat→Value→Prop} (h:∀k,L k=true→R k (y k)) (hv:R' i v) (hs:∀k v,R k v→R' k v) (k:Nat) (hk:cO L i k=true):R' k (dG y i v k):=by
 unfold cO at hk;unfold dG
 by_cases e:k=i
 ·rw[if_pos e,e];exact hv
 rw[if_neg e] at hk ⊢;exact hs _ _ (h k hk)
theorem BX (m:Nat) (hm:P.follows .mixedOrders=true) (hok:jh ops=true) (ht:iD ops m=true) (hmn:m≤ops.size)
 (R:Nat→Value→World→Prop) (hstab:∀i v w w',Below w.heap.size w w'→R i v w→R i v w')
 (hstep:∀i o,i<m→ops[i]?=some o→∀y w,Below w0.heap.size w0 w→(∀j,o.after.toList.any (fun e=>e.on==j)=true→R j (y j) w) →
 if Region.wanted o (yielded ops (lay (fun _=>true) y ops.toList 0 a0.tmps))=true then Gives P o { a0 with tmps:=lay (fun _=>true) y ops.toList 0 a0.tmps } w (fun v w'=>Below w.heap.size w w'∧R i v w') else R i undef w)
 (hend:∀y w,Below w0.heap.size w0 w→(∀i,i<m→R i (y i) w)→wpList P ops Q (ops.toList.drop m) { a0 with tmps:=lay (fun i=>decide (i<m)) y ops.toList 0 a0.tmps } w) :
  (Code.region id ops true).wp P Q a0 w0:=
 wp_region_any hm (AV m hok ht hmn (fun _ _ _=>True) (fun L y w=>Below w0.heap.size w0 w∧∀i,L i=true→R i (y i) w) (fun y=>⟨⟨rfl,rfl,rfl,ay _,fun _ _=>rfl⟩,fun i h=>(by cases h)⟩) (fun _ _ _ _ _=>trivial) (fun i o hi ho L y w hL hd hJ _=>by
  have h:=hstep i o hi ho y w hJ.1 (fun j hj=>hJ.2 j (hd j hj));have hup:∀v w',Below w.heap.size w w'→R i v w'→Below w0.heap.size w0 w'∧∀k,cO L i k=true→R k (dG y i v k) w':=fun v w' hb hr=>⟨ae hJ.1 hb,fun k hk=>NA hJ.2 hr (fun k v h=>hstab k v _ _ hb h) k hk⟩;split at h
  ·rename_i hw;rw[if_pos hw];exact DU h fun v w' hh=>⟨hup v w' hh.1 hh.2,trivial⟩
  rename_i hw;rw[if_neg hw];exact⟨hup undef w (Below.refl _ _) h,trivial⟩) (fun y w hJ _=>hend y w hJ.1 fun i hi=>hJ.2 i (decide_eq_true hi)))
theorem RJ (m:Nat) (l:List mg) (hm:P.follows .mixedOrders=true) (hok:jh ops=true) (ht:iD ops m=true) (hmn:m≤ops.size)
 (n:Nat) (hn:a0.tmps.size=n) (hsz:jQ ops n=true)
 (hstep:aW (nG P ops a0 w0 l) 0 (ops.toList.take m))
 (hend:∀y w,Below w0.heap.size w0 w→(∀i,i<m→rl l i (y i) w)→wpList P ops Q (ops.toList.drop m) { a0 with tmps:=lay (fun i=>decide (i<m)) y ops.toList 0 a0.tmps } w) :
  (Code.region id ops true).wp P Q a0 w0:=by
 refine BX m hm hok ht hmn (rl l) (fun i v w w' hb h=>(l.getD i anyR).st v w w' hb h) (fun i o u hi y w hb hd => ?_) hend;have f:∀t j,writer ops t=some j→({ a0 with tmps:=lay (fun _=>true) y ops.toList 0 a0.tmps }:Act).eval (.tmp t)=y j:=by
  intro t j hw;unfold writer at hw;have h1:=qo hw;have h2:=dE.1 (tZ hw);cases ho:ops[j]? with
  | none=>simp[ho] at h1
  | some p=>
   have a : p.dst=some t:=by simpa[ho] using h1
   have s:t<a0.tmps.size:=by have:=dK.1 hsz p (mX.2 (yZ ho));rw[hn];simpa[a] using this
   have hu:∀k' o',ops.toList[k']?=some o'→o'.dst=some t→k' = j:=by
    intro k' o' b ha;rcases ((gu hok (i:=k') (o:=o') (by simpa using b)).2.2 j p t ho a).1 with h|h
    ·exact h
    ·exact absurd ha h
   have:=lD (fun _=>true) y t ops.toList 0 a0.tmps j p (by simpa using ho) a rfl hu s;simp[Act.eval,this]
 have r:∀x,(match x with | .tmp t=>writer ops t=none | _=>True)→({ a0 with tmps:=lay (fun _=>true) y ops.toList 0 a0.tmps }:Act).eval x=a0.eval x:=by
  intro x hx;cases x with
  | tmp t=>
   have:(lay (fun _=>true) y ops.toList 0 a0.tmps)[t]?=a0.tmps[t]?:=by
    refine iL _ y t _ 0 _ fun k o' hk a => ?_;exfalso;simp only[writer] at hx;have b : ops[k]?=some o':=by simpa using hk
    have e:k<ops.size:=(ib.1 b).1;have:=oC.1 hx k (dE.2 e);simp[b,a] at this
   simp[Act.eval,this]
  | _=>rfl
 have c:Region.wanted o (yielded ops (lay (fun _=>true) y ops.toList 0 a0.tmps))=Region.wanted o (gI ({ a0 with tmps:=lay (fun _=>true) y ops.toList 0 a0.tmps }:Act).eval ops):=by
  congr 1;funext g;unfold yielded gI;cases (ops[g]?).bind (·.dst) with
  | none=>rfl
  | some d=>
   simp only[zO,Act.eval,bN];generalize (lay (fun _=>true) y ops.toList 0 a0.tmps)[d]?=q;cases q with
   | none=>rfl
   | some v=>cases v<;>rfl
 have z : (ops.toList.take m)[i]?=some o:=by rw[mh,if_pos u];simpa using hi
 have:=aW.at hstep i o z _ y w f r hb hd;rw[eu] at this;rw[c];exact this
inductive RV where
 | v (V:Value)
 | r (i:Nat) (R:mg)
def RV.R:RV→mg
 | .v V=>ul V
 | .r _ R=>R
def rvs:List RV→List mg
 | []=>[]
 | a::l=>a.R::rvs l
def rvN:RV:=.r 0 anyR
theorem rvs_at:∀(l:List RV) (i:Nat),(rvs l).getD i anyR=(l.getD i rvN).R
 | [],_=>rfl
 | _::_,0=>rfl
 | _::l,i+1=>by have:=rvs_at l i;simpa[rvs] using this
theorem KX {l:List RV} {w:World} (hr:l.getD i rvN = .v V) (e:v=V):rl (rvs l) i v w:=by
 unfold rl;rw[rvs_at,hr];exact e
def rvK:List RV→Nat→Option Value
 | .v V::_,0=>some V
 | _::l,k+1=>rvK l k
 | _,_=>none
theorem rvK_at:∀ {l:List RV} {k:Nat} {V:Value},rvK l k=some V→l.getD k rvN = .v V
 | .v V::_,0,_,h=>by cases h;rfl
 | .v _::l,k+1,_,h=>by simpa using rvK_at (l:=l) (k:=k) h
 | .r _ _::l,k+1,_,h=>by simpa using rvK_at (l:=l) (k:=k) h
 | .r _ _::_,0,_,h=>by cases h
 | [],0,_,h=>by cases h
 | [],_+1,_,h=>by cases h
def kt (ops:Array Oper) (a0:Act) (l:List RV) (o:Oper) (t:Nat):Option Value:=
 match writer ops t with
 | some k=>cond (o.after.toList.any fun e=>e.on==k) (rvK l k) none
 | none=>a0.tmps.toList[t]?
def kx (ops:Array Oper) (a0:Act) (l:List RV) (o:Oper):Operand→Option Value
 | .tmp t=>kt ops a0 l o t
 | .const v=>some v
 | .func f=>some (.func (.func f) #[] #[])
 | .global g=>some (.pointer (some ⟨g,0,none⟩))
def kg (ops:Array Oper) (a0:Act) (l:List RV) (o:Oper):Option Bool:=
 match o.guard with
 | none=>some true
 | some (g,want)=>match (ops[g]?).bind (·.dst) with
  | none=>none
  | some d=>match kt ops a0 l o d with
   | some (.bool b)=>some (b==want)
   | some (.tuple _)=>some false
   | _=>none
def WP (ops:Array Oper) (a0:Act) (l:List RV) (o:Oper):Option Value:=
 match o.op with
 | .move x=>kx ops a0 l o x
 | .assign x=>kx ops a0 l o x
 | .nilCheck x=>match kx ops a0 l o x with
  | some (.pointer (some a))=>some (.pointer (some a))
  | _=>none
 | .unOp .not _ x=>match kx ops a0 l o x with
  | some (.bool true)=>some (.bool false)
  | some (.bool false)=>some (.bool true)
  | _=>none
 | .pick c x y=>match kx ops a0 l o c with
  | some (.bool true)=>kx ops a0 l o x
  | some (.bool false)=>kx ops a0 l o y
  | _=>none
 | _=>none
def ks (ops:Array Oper) (a0:Act) (l:List RV) (o:Oper):Option Value:=
 match kg ops a0 l o with
 | some true=>WP ops a0 l o
 | some false=>some undef
 | none=>none
section
variable {P:Program} {ops:Array Oper} {a0:Act} {w0:World} {l:List RV} {i:Nat} {o:Oper}
def Kn (ops:Array Oper) (a0:Act) (l:List RV) (o:Oper) (ρ:Operand→Value) (y:Nat→Value) (w:World):Prop:=
 (∀t j,writer ops t=some j→ρ (.tmp t)=y j)∧(∀x,(match x with | .tmp t=>writer ops t=none | _=>True)→ρ x=a0.eval x)∧∀j,o.after.toList.any (fun e=>e.on==j)=true→rl (rvs l) j (y j) w
theorem Vg {t:Nat} (h:kt ops a0 l o t=some v) {w:World} (hk:Kn ops a0 l o ρ y w):ρ (.tmp t)=v:=by
 unfold kt at h;cases hw:writer ops t with
 | none=>
  rw[hw] at h;have h' : a0.tmps.toList[t]?=some v:=h;rw[hk.2.1 (.tmp t) hw];simp only[tJ] at h';simp[Act.eval,h']
 | some k=>
  rw[hw] at h;have h' : cond (o.after.toList.any fun e=>e.on==k) (rvK l k) none=some v:=h;cases ha:o.after.toList.any fun e=>e.on==k with
  | false=>rw[ha] at h'; cases h'
  | true=>
   rw[ha] at h';have h1:=hk.2.2 k ha;unfold rl at h1;rw[rvs_at,rvK_at h'] at h1;exact (hk.1 t k hw).trans h1
theorem aF (h:kx ops a0 l o x=some v) {w:World} (hk:Kn ops a0 l o ρ y w):ρ x=v:=by
 cases x with
 | tmp t=>exact Vg h hk
 | const c=>rw[hk.2.1 (.const c) trivial];cases h;rfl
 | func f=>rw[hk.2.1 (.func f) trivial];cases h;rfl
 | global g=>rw[hk.2.1 (.global g) trivial];cases h;rfl
theorem Ef {b:Bool} (h:kg ops a0 l o=some b) {w:World} (hk:Kn ops a0 l o ρ y w):Region.wanted o (gI ρ ops)=b:=by
 unfold kg at h;unfold Region.wanted;cases hg:o.guard with
 | none=>rw[hg] at h;cases h;rfl
 | some q=>
  obtain⟨g,want⟩:=q;rw[hg] at h;simp only at h;cases hd:(ops[g]?).bind (·.dst) with
  | none=>rw[hd] at h;cases h
  | some d=>
   rw[hd] at h;simp only at h;cases hv:kt ops a0 l o d with
   | none=>rw[hv] at h;cases h
   | some v=>
    rw[hv] at h;have e:=Vg hv hk;unfold gI;simp only[hd,e];cases v with
    | bool c=>cases h;cases c<;>cases want<;>rfl
    | tuple c=>cases h;rfl
    | _=>cases h
def yQ (P:Program) (ops:Array Oper) (a0:Act) (l:List RV) (i:Nat) (o:Oper):Prop:=
 ∀(ρ:Operand→Value) (y:Nat→Value) (w:World),Kn ops a0 l o ρ y w→(Region.wanted o (gI ρ ops)=false∧rl (rvs l) i undef w)∨(Region.wanted o (gI ρ ops)=true∧∃v,(execOp ρ o).run P w = .ok (.value v) w∧rl (rvs l) i v w)
theorem yQ.run (hg:kg ops a0 l o=some true) (hr:l.getD i rvN = .v V) (h:∀ρ y w,Kn ops a0 l o ρ y w→(execOp ρ o).run P w = .ok (.value V) w):yQ P ops a0 l i o:=fun ρ y w hk => .inr ⟨Ef hg hk,V,h ρ y w hk,KX hr rfl⟩
theorem UV (h:ks ops a0 l o=some V) (hr:l.getD i rvN = .v V):yQ P ops a0 l i o:=by
 unfold ks at h;cases hg:kg ops a0 l o with
 | none=>rw[hg] at h;cases h
 | some b=>
  rw[hg] at h;cases b with
  | false=>
   cases h;exact fun ρ y w hk => .inl ⟨Ef hg hk,KX hr rfl⟩
  | true=>
   have h' : WP ops a0 l o=some V:=h;refine yQ.run hg hr fun ρ y w hk => ?_;unfold WP at h';split at h'
   ·rename_i x ho;exact run_move (.inl ho) (aF h' hk)
   ·rename_i x ho;exact run_move (.inr ho) (aF h' hk)
   ·rename_i x ho;split at h'
    ·rename_i a hx;cases h';have e:=aF hx hk;simp[execOp,go_sem,ho,e]
    ·cases h'
   ·rename_i t x ho;split at h'
    ·rename_i hx;cases h'; exact CW ho (aF hx hk)
    ·rename_i hx;cases h'; exact CW ho (aF hx hk)
    ·cases h'
   ·rename_i c x y' ho;split at h'
    ·rename_i hc;exact pI ho (aF hc hk) (aF h' hk)
    ·rename_i hc;exact pI ho (aF hc hk) (aF h' hk)
    ·cases h'
   ·cases h'
theorem yQ.asked (h:yQ P ops a0 l i o):nG P ops a0 w0 (rvs l) i o:=fun ρ y w hw hn _ hd=>by
 rcases h ρ y w ⟨hw,hn,hd⟩ with ⟨h1,h2⟩|⟨h1,v,h2,h3⟩
 ·exact Dg h1 h2
 ·exact aj v h1 h2 h3
theorem yQ.askedQ {J:(Nat→Bool)→(Nat→Value)→World→Prop} (hst:∀L y w w',Below w.heap.size w w'→J L y w→J L y w') (hp:∀L y v w,(∀j,o.after.toList.any (fun e=>e.on==j)=true→L j=true)→J L y w→J (cO L i) (dG y i v) w) (h:yQ P ops a0 l i o):mo P ops a0 J (rvs l) i o:=fun ρ y w L hw hn _ hLd hJ hd=>by
 rcases h ρ y w ⟨hw,hn,hd⟩ with ⟨h1,h2⟩|⟨h1,v,h2,h3⟩
 ·exact eD hst (fun v w=>hp L y v w hLd) hJ (Dg h1 h2)
 ·exact eD hst (fun v w=>hp L y v w hLd) hJ (aj v h1 h2 h3)
variable {C:Nat→Oper→Prop} {r:List Oper}
theorem RD (hC:yQ P ops a0 l i o→C i o) (h:(ks ops a0 l o).map RV.v=some (l.getD i rvN)) (hl:aW C (i+1) r):aW C i (o::r):=⟨hC (by
 cases hk:ks ops a0 l o with
 | none=>rw[hk] at h;cases h
 | some V=>
  rw[hk] at h;exact UV hk (aJ h).symm),hl⟩
theorem Gk (h:(ks ops a0 l o).map RV.v=some (l.getD i rvN)) (hl:aW (nG P ops a0 w0 (rvs l)) (i+1) r):aW (nG P ops a0 w0 (rvs l)) i (o::r):=RD yQ.asked h hl
def WE (ops:Array Oper) (a0:Act) (l:List RV) (o:Oper):Option (TypeId × Value × Nat):=
 match kg ops a0 l o with
 | some true=>match o.op with
  | .fieldAddr t x f=>(kx ops a0 l o x).map fun v=>(t,v,f)
  | _=>none
 | _=>none
theorem MK (hC:yQ P ops a0 l i o→C i o) (b k:Nat) (h:WE ops a0 l o=some (t,v,f)) (hr:l.getD i rvN = .v (.pointer (some ⟨b,k,none⟩))) (hl:aW C (i+1) r) (hf:∀w,(Instr.fieldAt t v f).run P w = .ok (.pointer (some ⟨b,k,none⟩)) w:=by intro _;kernel_rfl):aW C i (o::r):=by
 refine⟨hC ?_,hl⟩;unfold WE at h;split at h
 ·rename_i hg;split at h
  ·rename_i t' x f' ho;cases hx:kx ops a0 l o x with
   | none=>rw[hx] at h;cases h
   | some v'=>
    rw[hx] at h;cases h;exact yQ.run hg hr fun ρ y w hk=>ET ho (aF hx hk) (hf w)
  ·cases h
 ·cases h
theorem Gf (b k:Nat) (h:WE ops a0 l o=some (t,v,f)) (hr:l.getD i rvN = .v (.pointer (some ⟨b,k,none⟩))) (hl:aW (nG P ops a0 w0 (rvs l)) (i+1) r) (hf:∀w,(Instr.fieldAt t v f).run P w = .ok (.pointer (some ⟨b,k,none⟩)) w:=by intro _;kernel_rfl):aW (nG P ops a0 w0 (rvs l)) i (o::r):=MK yQ.asked b k h hr hl hf
theorem Sd (hC:yQ P ops a0 l i o→C i o) (hg:kg ops a0 l o=some true) (ho:o.op = .call { callee:=.builtin .len,args:=#[x],argTypes:=#[t] }) (hx:kx ops a0 l o x=some (.slice a n c)) (hr:l.getD i rvN = .v (.int .i64 n)) (hl:aW C (i+1) r) (ht:P.underlying t=some (.slice (P.elem t)):=by rfl):aW C i (o::r):=
 ⟨hC (yQ.run hg hr fun ρ y w hk=>Kk ho (aF hx hk) ht),hl⟩
theorem Gn (hg:kg ops a0 l o=some true) (ho:o.op = .call { callee:=.builtin .len,args:=#[x],argTypes:=#[t] }) (hx:kx ops a0 l o x=some (.slice a n c)) (hr:l.getD i rvN = .v (.int .i64 n)) (hl:aW (nG P ops a0 w0 (rvs l)) (i+1) r) (ht:P.underlying t=some (.slice (P.elem t)):=by rfl):aW (nG P ops a0 w0 (rvs l)) i (o::r):=Sd yQ.asked hg ho hx hr hl ht
theorem Ty (hC:yQ P ops a0 l i o→C i o) (V:Value) {op:BinOp} {y:Operand} (hr:∀w,(do eqGuard op t x y vx vy;binOp op t vx vy:Sem Value).run P w = .ok V w) (hg:kg ops a0 l o=some true) (ho:o.op = .binOp op t x y t') (hx:kx ops a0 l o x=some vx) (hy:kx ops a0 l o y=some vy) (hv:l.getD i rvN = .v V) (hl:aW C (i+1) r):aW C i (o::r):=
 ⟨hC (yQ.run hg hv fun ρ y w hk=>pF ho (aF hx hk) (aF hy hk) (hr w)),hl⟩
theorem Gb (V:Value) {op:BinOp} {y:Operand} (hr:∀w,(do eqGuard op t x y vx vy;binOp op t vx vy:Sem Value).run P w = .ok V w) (hg:kg ops a0 l o=some true) (ho:o.op = .binOp op t x y t') (hx:kx ops a0 l o x=some vx) (hy:kx ops a0 l o y=some vy) (hv:l.getD i rvN = .v V) (hl:aW (nG P ops a0 w0 (rvs l)) (i+1) r):aW (nG P ops a0 w0 (rvs l)) i (o::r):=Ty yQ.asked V hr hg ho hx hy hv hl
theorem VW (hC:yQ P ops a0 l i o→C i o) (V:Value) (h:∀ρ y w,Kn ops a0 l o ρ y w→(execOp ρ o).run P w = .ok (.value V) w) (hg:kg ops a0 l o=some true) (hv:l.getD i rvN = .v V) (hl:aW C (i+1) r):aW C i (o::r):=⟨hC (yQ.run hg hv h),hl⟩
section
variable {J:(Nat→Bool)→(Nat→Value)→World→Prop}
theorem Qk (hst:∀L y w w',Below w.heap.size w w'→J L y w→J L y w') (h:(ks ops a0 l o).map RV.v=some (l.getD i rvN)) (hl:aW (mo P ops a0 J (rvs l)) (i+1) r) (hp:∀L y v w,(∀j,o.after.toList.any (fun e=>e.on==j)=true→L j=true)→J L y w→J (cO L i) (dG y i v) w:=by intro _ _ _ _ _ h;exact h):aW (mo P ops a0 J (rvs l)) i (o::r):=RD (yQ.askedQ hst hp) h hl
theorem Qf (hst:∀L y w w',Below w.heap.size w w'→J L y w→J L y w') (b k:Nat) (h:WE ops a0 l o=some (t,v,f)) (hr:l.getD i rvN = .v (.pointer (some ⟨b,k,none⟩))) (hl:aW (mo P ops a0 J (rvs l)) (i+1) r) (hp:∀L y v w,(∀j,o.after.toList.any (fun e=>e.on==j)=true→L j=true)→J L y w→J (cO L i) (dG y i v) w:=by intro _ _ _ _ _ h;exact h) (hf:∀w,(Instr.fieldAt t v f).run P w = .ok (.pointer (some ⟨b,k,none⟩)) w:=by intro _;kernel_rfl):aW (mo P ops a0 J (rvs l)) i (o::r):=MK (yQ.askedQ hst hp) b k h hr hl hf
theorem Qn (hst:∀L y w w',Below w.heap.size w w'→J L y w→J L y w') (hg:kg ops a0 l o=some true) (ho:o.op = .call { callee:=.builtin .len,args:=#[x],argTypes:=#[t] }) (hx:kx ops a0 l o x=some (.slice a n c)) (hr:l.getD i rvN = .v (.int .i64 n)) (hl:aW (mo P ops a0 J (rvs l)) (i+1) r) (hp:∀L y v w,(∀j,o.after.toList.any (fun e=>e.on==j)=true→L j=true)→J L y w→J (cO L i) (dG y i v) w:=by intro _ _ _ _ _ h;exact h) (ht:P.underlying t=some (.slice (P.elem t)):=by rfl):aW (mo P ops a0 J (rvs l)) i (o::r):=Sd (yQ.askedQ hst hp) hg ho hx hr hl ht
theorem Qb (hst:∀L y w w',Below w.heap.size w w'→J L y w→J L y w') (V:Value) {op:BinOp} {y:Operand} (hr:∀w,(do eqGuard op t x y vx vy;binOp op t vx vy:Sem Value).run P w = .ok V w) (hg:kg ops a0 l o=some true) (ho:o.op = .binOp op t x y t') (hx:kx ops a0 l o x=some vx) (hy:kx ops a0 l o y=some vy) (hv:l.getD i rvN = .v V) (hl:aW (mo P ops a0 J (rvs l)) (i+1) r) (hp:∀L y v w,(∀j,o.after.toList.any (fun e=>e.on==j)=true→L j=true)→J L y w→J (cO L i) (dG y i v) w:=by intro _ _ _ _ _ h;exact h):aW (mo P ops a0 J (rvs l)) i (o::r):=Ty (yQ.askedQ hst hp) V hr hg ho hx hy hv hl
theorem Qr (hst:∀L y w w',Below w.heap.size w w'→J L y w→J L y w') (V:Value) (h:∀ρ y w,Kn ops a0 l o ρ y w→(execOp ρ o).run P w = .ok (.value V) w) (hg:kg ops a0 l o=some true) (hv:l.getD i rvN = .v V) (hl:aW (mo P ops a0 J (rvs l)) (i+1) r) (hp:∀L y v w,(∀j,o.after.toList.any (fun e=>e.on==j)=true→L j=true)→J L y w→J (cO L i) (dG y i v) w:=by intro _ _ _ _ _ h;exact h):aW (mo P ops a0 J (rvs l)) i (o::r):=VW (yQ.askedQ hst hp) V h hg hv hl
end
theorem Gr (V:Value) (h:∀ρ y w,Below w0.heap.size w0 w→Kn ops a0 l o ρ y w→(execOp ρ o).run P w = .ok (.value V) w) (hg:kg ops a0 l o=some true) (hv:l.getD i rvN = .v V) (hl:aW (nG P ops a0 w0 (rvs l)) (i+1) r):aW (nG P ops a0 w0 (rvs l)) i (o::r):=
 ⟨fun ρ y w hw hn hb hd=>aj V (Ef hg ⟨hw,hn,hd⟩) (h ρ y w hb ⟨hw,hn,hd⟩) (KX hv rfl),hl⟩
def WB (P:Program) (t:TypeId):Bool:=match P.underlying t with
 | some (.struct _)=>false
 | some (.array _ _)=>false
 | some _=>true
 | none=>false
theorem qP {w:World} (hs:WB P t=true) (hc:w.cell? ⟨b,k,none⟩=some V):(loadVar t ⟨b,k,none⟩).run P w = .ok V w:=by
 unfold WB at hs;cases hu:P.underlying t with
 | none=>rw[hu] at hs;cases hs
 | some d=>
  have ha:(isAgg t).run P w = .ok false w:=by unfold isAgg;rw[kC,run_underlying hu w];rw[hu] at hs;cases d<;>first | rfl | cases hs
  simp[loadVar,kC,ha,go_sem,hc]
theorem Gl (hb:aB w0 b cs T) (hv:cs.toList[k]?=some V) (hg:kg ops a0 l o=some true) (ho:o.op = .load t x) (hx:kx ops a0 l o x=some (.pointer (some ⟨b,k,none⟩))) (hr:l.getD i rvN = .v V) (hl:aW (nG P ops a0 w0 (rvs l)) (i+1) r) (hs:WB P t=true:=by kernel_rfl):aW (nG P ops a0 w0 (rvs l)) i (o::r):=by
 refine⟨fun ρ y w hw hn hB hd=>aj V (Ef hg ⟨hw,hn,hd⟩) ?_ (KX hr rfl),hl⟩;have e:ρ x=_:=aF hx ⟨hw,hn,hd⟩;have hc:w.cell? ⟨b,k,none⟩=some V:=by rw[(hb.ext hB).cell,←tJ];exact hv
 refine run_load ho e ?_;simp only[Instr.loadAt,Instr.sureAddr,kC,rU,rM,qP hs hc]
theorem Gc (V:Value) (hc:∀w,Below w0.heap.size w0 w→w.cell? ⟨b,k,none⟩=some V) (hg:kg ops a0 l o=some true) (ho:o.op = .load t x) (hx:kx ops a0 l o x=some (.pointer (some ⟨b,k,none⟩))) (hr:l.getD i rvN = .v V) (hl:aW (nG P ops a0 w0 (rvs l)) (i+1) r) (hs:WB P t=true:=by kernel_rfl):aW (nG P ops a0 w0 (rvs l)) i (o::r):=by
 refine⟨fun ρ y w hw hn hB hd=>aj V (Ef hg ⟨hw,hn,hd⟩) ?_ (KX hr rfl),hl⟩;have e:ρ x=_:=aF hx ⟨hw,hn,hd⟩;refine run_load ho e ?_;simp only[Instr.loadAt,Instr.sureAddr,kC,rU,rM,qP hs (hc w hB)]
def revC:List Value→List Value→(List Value→Option (List Value))→Option (List Value)
 | [],r,k=>k r
 | a::l,r,k=>revC l (a::r) k
def ptC:List Value→Nat→Value→List Value→(List Value→Option (List Value))→Option (List Value)
 | [],_,_,acc,k=>revC acc [] k
 | _::l,0,v,acc,k=>revC acc (v::l) k
 | a::l,n+1,v,acc,k=>ptC l n v (a::acc) k
def yz (y:Nat→Value):List RV→List Oper→List Value→Option (List Value)
 | .v V::l,o::r,t=>match o.dst with
  | some d=>ptC t d V [] fun t'=>yz y l r t'
  | none=>yz y l r t
 | .r j _::l,o::r,t=>match o.dst with
  | some d=>ptC t d (y j) [] fun t'=>yz y l r t'
  | none=>yz y l r t
 | _,_,t=>some t
def idxOk:List RV→Nat→Bool
 | [],_=>true
 | .v _::l,i=>idxOk l (i+1)
 | .r j _::l,i=>(j==i)&&idxOk l (i+1)
theorem Ja (k:List Value→Option (List Value)):∀(a r:List Value),revC a r k=k (a.reverse++r)
 | [],r=>rfl
 | x::a,r=>by rw[revC,Ja k a];simp
theorem Ll (k:List Value→Option (List Value)):∀(t:List Value) (n:Nat) (v:Value) (acc:List Value),ptC t n v acc k=k (acc.reverse++t.set n v)
 | [],n,v,acc=>by simp[ptC,Ja]
 | x::t,0,v,acc=>by simp[ptC,Ja]
 | x::t,n+1,v,acc=>by rw[ptC,Ll k t];simp
theorem xO {y:Nat→Value} {w:World} {m:Nat}:∀(l:List RV) (r:List Oper) (k:Nat) (t:Array Value),idxOk l k=true→m=k+l.length→l.length≤r.length→(∀i,i<l.length→rl (rvs l) i (y (k+i)) w) →
  yz y l r t.toList=some (lay (fun i=>decide (i<m)) y r k t).toList
 | [],r,k,t,_,hm,_,_=>by
  have:yz y [] r t.toList=some t.toList:=by cases r<;>rfl
  rw[this];simp only[zX,iq] at hm;subst hm;have c:∀(r:List Oper) (j:Nat) (t:Array Value),m≤j→lay (fun i=>decide (i<m)) y r j t=t:=by
   intro r
   induction r with
   | nil=>intro j t _;rfl
   | cons o r ih=>
    intro j t hj;simp only[lay];rw[ih (j+1) _ (by omega)];cases o.dst with
    | none=>rfl
    | some d=>simp[show ¬j<m by omega]
  rw[c r m t (ay _)]
 | a::l,[],k,t,_,_,hle,_=>by simp at hle
 | a::l,o::r,k,t,hi,hm,hle,hR=>by
  have hk:k<m:=by simp at hm;omega
  have b:∀i,i<l.length→rl (rvs l) i (y (k+1+i)) w:=fun i hl=>by have:=hR (i+1) (by simp;omega);rw[show k+1+i=k+(i+1) by omega];unfold rl at this ⊢;simpa[rvs] using this
  cases a with
  | v V=>
   have h0:y k=V:=by have:=hR 0 (by simp);exact this
   have ih:=fun t'=>xO (m:=m) (w:=w) l r (k+1) t' hi (by rw[pq] at hm;omega) (by simpa using hle) b;cases ho:o.dst with
   | none=>simp only[lay,ho,hk,decide_true,if_true,yz,ih]
   | some d=>
    simp only[lay,ho,hk,decide_true,if_true,yz,Ll,h0,List.reverse_nil,GV];rw[←ih (t.setIfInBounds d V),CE]
  | r j R=>
   have hj:j=k∧idxOk l (k+1)=true:=by have h' : ((j==k)&&idxOk l (k+1))=true:=hi;simpa using h'
   obtain⟨rfl,e⟩:=hj;have ih:=fun t'=>xO (m:=m) (w:=w) l r (j+1) t' e (by rw[pq] at hm;omega) (by simpa using hle) b;cases ho:o.dst with
   | none=>simp only[lay,ho,hk,decide_true,if_true,yz,ih]
   | some d=>
    simp only[lay,ho,hk,decide_true,if_true,yz,Ll,List.reverse_nil,GV];rw[←ih (t.setIfInBounds d (y j)),CE]
end
theorem aM {df:List Deferred} (m:Nat) (l:List RV)
 (hstep:aW (nG P ops ⟨t0,df⟩ w0 (rvs l)) 0 (ops.toList.take m)) {tm:(Nat→Value)→List Value} (hf:∀y,yz y l ops.toList t0.toList=some (tm y)) (hd:wr (ops.toList.drop m)=some rest)
 (hend:∀y w,Below w0.heap.size w0 w→(∀i,i<m→rl (rvs l) i (y i) w)→wpList P ops Q rest ⟨(tm y).toArray,df⟩ w)
 (hm:P.follows .mixedOrders=true:=by kernel_rfl) (hok:jh ops=true:=by kernel_rfl) (ht:iD ops m=true:=by kernel_rfl) (hmn:m≤ops.size:=by decide) (hll:l.length=m:=by rfl) (hix:idxOk l 0=true:=by kernel_rfl)
 (hsz:jQ ops t0.size=true:=by kernel_rfl):(Code.region id ops true).wp P Q ⟨t0,df⟩ w0:=by
 refine RJ m (rvs l) hm hok ht hmn _ rfl hsz hstep fun y w hb hR => ?_;have h:=hend y w hb hR;rw[Ny hd];have e:=xO (m:=m) (y:=y) (w:=w) l ops.toList 0 t0 hix (by omega) (by simp;omega) fun i hi=>by rw[eu];exact hR i (by omega)
 show wpList P ops Q rest ⟨lay (fun i=>decide (i<m)) y ops.toList 0 t0,df⟩ w;have e2:=aJ (e.symm.trans (hf y));have e3:lay (fun i=>decide (i<m)) y ops.toList 0 t0=(tm y).toArray:=by rw[←e2]
 rw[e3];exact h
theorem gN {df:List Deferred} (m:Nat) (l:List RV) (J:(Nat→Bool)→(Nat→Value)→World→Prop) (hst:∀L y w w',Below w.heap.size w w'→J L y w→J L y w') (hJ0:∀y,J (fun _=>false) y w0)
 (hstep:aW (mo P ops ⟨t0,df⟩ J (rvs l)) 0 (ops.toList.take m)) {tm:(Nat→Value)→List Value} (hf:∀y,yz y l ops.toList t0.toList=some (tm y)) (hd:wr (ops.toList.drop m)=some rest)
 (hend:∀y w,J (fun i=>decide (i<m)) y w→(∀i,i<m→rl (rvs l) i (y i) w)→wpList P ops Q rest ⟨(tm y).toArray,df⟩ w)
 (hfix:Fixed (rvs l):=by repeat (first | exact fix_nil | refine JQ (fun _ _ _ h=>h) ?_))
 (hm:P.follows .mixedOrders=true:=by kernel_rfl) (hok:jh ops=true:=by kernel_rfl) (ht:iD ops m=true:=by kernel_rfl) (hmn:m≤ops.size:=by decide) (hll:l.length=m:=by rfl) (hix:idxOk l 0=true:=by kernel_rfl)
 (hsz:jQ ops t0.size=true:=by kernel_rfl):(Code.region id ops true).wp P Q ⟨t0,df⟩ w0:=by
 refine Sq m (rvs l) J hst hJ0 hfix hm hok ht hmn _ rfl hsz hstep fun y w hb hR => ?_;have h:=hend y w hb hR;rw[Ny hd];have e:=xO (m:=m) (y:=y) (w:=w) l ops.toList 0 t0 hix (by omega) (by simp;omega) fun i hi=>by rw[eu];exact hR i (by omega)
 show wpList P ops Q rest ⟨lay (fun i=>decide (i<m)) y ops.toList 0 t0,df⟩ w;have e2:=aJ (e.symm.trans (hf y));have e3:lay (fun i=>decide (i<m)) y ops.toList 0 t0=(tm y).toArray:=by rw[←e2]
 rw[e3];exact h
theorem Pi {w:World} {m:Nat} {l:List RV} (hix:idxOk l 0=true) (hll:l.length=m) (hmn:m≤ops.size) (hR:∀i,i<m→rl (rvs l) i (y i) w) (hf:yz y l ops.toList t0.toList=some tm):lay (fun i=>decide (i<m)) y ops.toList 0 t0=tm.toArray:=by
 have e:=xO (m:=m) (y:=y) (w:=w) l ops.toList 0 t0 hix (by omega) (by simp;omega) fun i hi=>by rw[eu];exact hR i (by omega)
 have e2:=aJ (e.symm.trans hf);rw[←e2]
def KU {α:Type} (P:Program) (t:TypeId) (enc:α→List Value) (good:α→Prop):Prop:=
 ∀(H:Type) (e:TypeId × Value→H) (w:World) (base:Nat) (spare:Nat→Bool) (held:Bool) (fuel:Nat) (cs:List Value) (x:DataW H × List MemPlace),
  DataW.trod e P w base spare held fuel t cs=some x→∃a:α,cs=enc a∧good a
theorem AZ (ht:P.underlying t=some (.int .i64)):KU P t (fun n:Int=>[.int .i64 n]) i64:=by
 intro H e w base spare a fuel cs x h;obtain⟨n,rfl,_,hn⟩:=DataW.trod_int ht h;exact⟨n,rfl,bounds_i64 hn⟩
theorem SB (ht:P.underlying t=some (.int .u8)):KU P t (fun b:UInt8=>[yO b]) (fun _=>True):=by
 intro H e w base spare a fuel cs x h;obtain⟨n,rfl,_,hn⟩:=DataW.trod_int ht h;have hb:=bounds_u8 hn;refine⟨UInt8.ofNat n.toNat,?_,trivial⟩;simp[yO];omega
theorem open_list {α:Type} {enc:α→List Value} {good:α→Prop} (ht:P.underlying t=some (.slice e)) (ho:KU P e enc good) (hsz:∀x,(enc x).length=P.cellsOf e)
 {H:Type} {en:TypeId × Value→H} {w:World} {cs:List Value} {x:DataW H × List MemPlace} (h:DataW.trod en P w base spare held fuel t cs=some x) :
  ∃(a:Option Addr) (l:List α) (c:Nat),cs=[.slice a l.length c]∧l.length≤c∧c≤maxLen∧(a=none→c=0)∧dP w a (l.flatMap enc)∧∀y∈l,good y:=by
 rcases DataW.trod_slice ht h with ⟨rfl,_⟩|⟨a,len,cap,elems,rest,n,_,rfl,_,_,hle,hcap,hlen,hel,_⟩
 ·exact⟨none,[],0,rfl,ay _,aV _,fun _=>rfl,dP.nil,fun y hy=>(by cases hy)⟩
 have key:∀i,i<len→∃y:α,good y∧∀j u,(enc y)[j]?=some u→w.cell? ((a.add (i*P.cellsOf e)).add j)=some u:=by
  intro i hi;have h1:=hel i hi;rw[aH (by omega)] at h1;obtain⟨cs',h2,h3⟩:=Option.bind_eq_some_iff.1 h1;obtain⟨y,rfl,hy⟩:=ho H en w base spare held n cs' _ h3;refine⟨y,hy,fun j u hj => ?_⟩;unfold World.cells? at h2;split at h2
  ·have h4:=mapM_some_get h2 j j (by
    have:j<(enc y).length:=by
     rcases fG j (enc y).length with h|h
     ·exact h
     ·simp[dI h] at hj
    rw[hsz y] at this;simp[this])
   rw[hj] at h4;exact h4
  ·cases h2
 have m:=BH good (fun i y => ∀j u,(enc y)[j]?=some u→w.cell? ((a.add (i*P.cellsOf e)).add j)=some u) len key;obtain⟨l,rfl,hg,hr⟩:=m;refine⟨some a,l,cap,rfl,hle,hcap,fun e=>(Option.some_ne_none _ e).elim,?_,hg⟩
 by_cases hz:P.cellsOf e=0
 ·have:l.flatMap enc=[]:=by apply jM;rw[flat_len enc (P.cellsOf e) hsz l,hz,Nat.mul_zero]
  rw[this];exact dP.nil
 intro k u hk;have p:k<l.length*P.cellsOf e:=by
  rw[←flat_len enc (P.cellsOf e) hsz l];rcases fG k (l.flatMap enc).length with h|h
  ·exact h
  ·simp[dI h] at hk
 have hi:k / P.cellsOf e<l.length:=Nat.div_lt_of_lt_mul (by rw[wQ];exact p);have hj:k%P.cellsOf e<P.cellsOf e:=qx _ (Nat.pos_of_ne_zero hz);have f : k / P.cellsOf e*P.cellsOf e+k%P.cellsOf e=k:=by rw[wQ];exact Nat.div_add_mod k _
 have g:(enc l[k / P.cellsOf e])[k%P.cellsOf e]?=some u:=by
  have h5:k%P.cellsOf e<(enc l[k / P.cellsOf e]).length:=by rw[hsz];exact hj
  have h6:=flat_get enc (P.cellsOf e) hsz l _ hi _ _ (aH h5);rw[f,hk] at h6;rw[aH h5,h6]
 have h7:=hr _ hi _ u g;have d:a.spot=none:=by
  by_cases h8:a.spot=none
  ·exact h8
  exfalso
  -- the first cell of all is read at the address itself
  have h0:0<l.length:=Nat.lt_of_le_of_lt (aV _) hi;have h9:0<(enc l[0]).length:=by rw[hsz];omega
  have o:=hr 0 h0 0 _ (aH h9);simp only[xM,Addr.add,if_true] at o;have:=World.cell?_spot o;exact h8 this
 obtain⟨b,off,sp⟩:=a;subst d;refine⟨b,off,rfl,?_⟩;rw[sj,sj,mZ,f] at h7;exact h7
open Go.ChangeShapes Go.WideShapes Go.ChangeAt
def yH {α:Type} (P:Program) (t:TypeId) (enc:α→List Value) (good:World→α→Prop):Prop:=
 ∀(H:Type) (e:TypeId × Value→H) (w:World) (base:Nat) (spare:Nat→Bool) (held:Bool) (fuel:Nat) (cs:List Value) (x:DataW H × List MemPlace),
  DataW.trod e P w base spare held fuel t cs=some x→∃a:α,cs=enc a∧good w a
theorem KU.w {α:Type} {enc:α→List Value} {good:α→Prop} (h:KU P t enc good):yH P t enc (fun _=>good):=h
def wZ {α:Type} (P:Program) (fs:Array Field) (L k off:Nat) (enc:α→List Value) (good:World→α→Prop):Prop:=
 ∀(H:Type) (e:TypeId × Value→H) (w:World) (base:Nat) (spare:Nat→Bool) (held:Bool) (n:Nat) (cs:List Value) (xs:List (DataW H × List MemPlace)),cs.length=L→xs.length=fs.size →
  (∀(i:Nat) (f:Field),fs[i]?=some f→DataW.trod e P w base spare held n f.type ((cs.drop f.offset).take (P.cellsOf f.type))=xs[i]?)→∃a:α,cs.drop off=enc a∧good w a
theorem EU {fs:Array Field} {L:Nat} (h:L=off):wZ P fs L k off (fun _:Unit=>[]) (fun _ _=>True):=by
 intro H e w base spare a n cs xs hl _ _;exact⟨(),by rw[qa (by omega)],trivial⟩
theorem rz {α β:Type} {fs:Array Field} {L:Nat} {f:Field} {enc:α→List Value} {good:World→α→Prop} {enc' : β→List Value} {good' : World→β→Prop} (hf:fs[k]?=some f) (off' : Nat) (ho:f.offset=off) (hn:off+P.cellsOf f.type=off') (h0:yH P f.type enc good)
 (h1:wZ P fs L (k+1) off' enc' good'):wZ P fs L k off (fun x:α × β=>enc x.1++enc' x.2) (fun w x=>good w x.1∧good' w x.2):=by
 intro H e w base spare c n cs xs hl hx h;subst hn;obtain⟨b,hb,gb⟩:=h1 H e w base spare c n cs xs hl hx h;have hk:k<xs.length:=by rw[hx];exact (ib.1 hf).1
 have h2:=h k f hf;rw[aH hk,ho] at h2;obtain⟨a,ha,ga⟩:=h0 H e w base spare c n _ _ h2;refine⟨(a,b),?_,ga,gb⟩;show _=enc a++enc' b;rw[←ha,←hb,←List.drop_drop,qp]
theorem IW {α:Type} {fs:Array Field} {enc:α→List Value} {good:World→α→Prop} (ht:P.underlying t=some (.struct fs)) (h:wZ P fs (P.cellsOf t) 0 0 enc good):yH P t enc good:=by
 intro H e w base spare a fuel cs x hx;obtain⟨xs,n,_,_,hl,hn,b⟩:=DataW.trod_struct ht hx;exact h H e w base spare a n cs xs hl hn b
theorem yH.of {α β:Type} {enc:α→List Value} {good:World→α→Prop} {enc' : β→List Value} {good' : World→β→Prop} (h:yH P t enc good) (g:α→β) (he:∀a,enc a=enc' (g a)) (hg:∀w a,good w a→good' w (g a)):yH P t enc' good':=by
 intro H e w base spare b fuel cs x hx;obtain⟨a,ha,ga⟩:=h H e w base spare b fuel cs x hx;exact⟨g a,by rw[ha,he],hg w a ga⟩
end Pw
namespace Go.Proofs.YtjkkoeijlhfneaaGreat
open _root_.Go.Proofs.Tryz
open Go.ChangeShapes Go.WideShapes Go.ChangeAt Go.RowKit Go.Maps Pw
variable {B B' b cap g n n' off sz sz':Nat} {P:Program} {T T' e e':TypeId} {cs cs':Array Value} {v v':Value} {vs xs xs':List Value} {w w':World}
theorem kQ (h:Own w B e sz v n xs) (g:Nat) (hg:v.ownBlock=some g):∃cs,aB w g cs e:=by
 rcases h.2 with ⟨rfl,_⟩|⟨g2,off,cap,cur,rfl,_,hb,_⟩
 ·cases hg
 cases hg;exact⟨_,hb⟩
theorem kv (h:aB w b cs T) (ho:Own w B e sz v n xs) (hT:T≠e) (hg:w.grownBy w' v.ownBlock):aB w' b cs T:=
 h.grown hg (fun he=>own_ne ho h hT b he rfl)
theorem zg (h:Own w B e sz v n xs) (ho:Own w B' e' sz' v' n' xs') (hT:e'≠e) (hg:w.grownBy w' v'.ownBlock):Own w' B e sz v n xs:=
 h.grown hg (fun g hv he=>by obtain⟨cs,hk⟩:=kQ ho g he;exact own_ne h hk hT g hv rfl)
theorem vE (h:Own w B e sz v n xs) (hk:aB w g cs T) (hT:T≠e) (o:Nat) (u:Value):Own (w.setCell ⟨g,o,none⟩ u) B e sz v n xs:=
 ak h hk hT (aG w g o [u])
theorem bq (h:aB w b cs T) (hk:aB w g cs' T') (hT:T'≠T) (hgr:w.grownBy w' (some g)):aB w' b cs T:=
 h.grown hgr (fun he=>by cases he;unfold aB at h hk;rw[hk] at h;simp only[iY,rX] at h;exact hT h.2.1)
theorem kN (a b:Option Addr) (n c m e:Nat):(#[Value.slice a n c,Value.slice b m e]:Array Value).all (·.oneCell')=true:=by simp[Value.oneCell']
theorem mF {α:Type} {enc:α→List Value} (hsz:∀x,(enc x).length=sz) (hp:0<sz) {l:List α} (hl:l.length=n) (h:Own w B e sz v n (l.flatMap enc)) (k:Nat) (hk:k<n) :
  ∃g off cap cur,v = .slice (some ⟨g,off,none⟩) n cap∧B≤g∧aB w g cur e∧off+k*sz+sz≤cur.size ∧
   ∀w' x,aB w' g (bB cur (off+k*sz) (enc x)) e→Own w' B e sz v n ((l.set k x).flatMap enc):=by
 subst hl;obtain⟨g,off,cap,cur,h1,h2,h3,h4,_,h6⟩:=h.put hsz hp k hk;exact⟨g,off,cap,cur,h1,h2,h3,h4,h6⟩
theorem vF {a b c:World} {row:Option Nat} (h:a.grownBy b row) (k:b.grownBy c row):a.grownBy c row:=
 World.grownBy.andThen h k (fun j hj => .inr hj)
theorem kG (h:Own w B e sz v n xs) (hg:w.grownBy w' none):Own w' B e sz v n xs:=h.grown hg (by simp)
theorem tQ (w:World) (t e ty:TypeId) (z:Value) (sz bytes:Nat) (ht:P.underlying t=some (.slice e)) (hi:(P.info? e).map (fun i=>(i.zero,i.size,i.bytes))=some (some z,sz,bytes)) (h1:∀u∈z.cells.toList,u.oneCell' = true) (h0:0<z.cells.size)
 (b o n c:Nat) (hn:0<n) (cur:Array Value) (T:TypeId) (hg:aB w b cur T) (hfit:o+n*z.cells.size≤cur.size) :
  (Builtin.clear_ #[t] ty #[.slice (some ⟨b,o,none⟩) n c]).run P w = .ok (.tuple #[]) (w.setCells b o (Builtin.zeroCells z.cells n).toList):=by
 have hl:(Builtin.zeroCells z.cells n).toList.length=n*z.cells.size:=by simp[Builtin.zeroCells]
 have a:=run_storeCells_cells (P:=P) b o (Builtin.zeroCells z.cells n).toList 0 w
  (fun j hj=>by rw[iq,hg.cell];simp[show o+j<cur.size by omega]) (fun j hj=>hg.free _)
  (fun v hv=>by simp only[Builtin.zeroCells,Array.toList_map,gW] at hv;obtain⟨i,_,rfl⟩:=hv;have:i%z.cells.size<z.cells.size:=qx _ h0;rw[getElem!_pos z.cells _ this];exact h1 _ (by simp))
 simp only[iq] at a;obtain⟨m,rfl⟩:∃m,n=m+1:=⟨n-1,by omega⟩;have hv:∀w,(zeroValue e).run P w = .ok z w:=by
  intro w;cases hq:P.info? e with
  | none=>simp[hq] at hi
  | some i=>
   have hz:i.zero=some z:=by simp[hq] at hi;exact hi.1
   simp[zeroValue,typeInfo,run_program,hq,hz]
 simp[Builtin.clear_,run_underlying ht,hv,a]
theorem Qw {α:Type} {enc:α→List Value} (hsz:∀x,(enc x).length=sz) {l:List α} (h:Own w B e sz (.slice (some ⟨g,off,none⟩) n cap) n (l.flatMap enc)) (i:Nat) (hl:l.length=n) (hi:i≤n)
 (hw:∀cur,aB w g cur e→aB w' g (bB cur (off+i*sz) vs) e):Own w' B e sz (.slice (some ⟨g,off,none⟩) (l.take i).length cap) (l.take i).length ((l.take i).flatMap enc):=by
 subst hl;obtain⟨hl,h⟩:=h;rcases h with ⟨h1,_⟩|⟨g',off',cap',cur,hv,hB,hg,hc,hm,hs,ht⟩
 ·cases h1
 cases hv;have b:(l.take i).length=i:=by simp;omega
 refine⟨by rw[Pw.flat_len enc sz hsz],.inr ⟨g,off,cap,_,rfl,hB,hw cur hg,by omega,hm,by rw[size_putAt];exact hs,fun j u hj => ?_⟩⟩;have c : j<i*sz:=by
  rcases fG j (i*sz) with h|h
  ·exact h
  rw[dI (by rw[Pw.flat_len enc sz hsz,b];exact h)] at hj;cases hj
 rw[putAt_out _ _ _ _ (.inl (by omega))];refine ht j u ?_;have a:l.flatMap enc=(l.take i).flatMap enc++(l.drop i).flatMap enc:=by rw[←eY,qp]
 rw[a,kY (by rw[Pw.flat_len enc sz hsz,b];exact c)];exact hj
theorem wu {α:Type} {enc:α→List Value} (hsz:∀x,(enc x).length=sz) (hp:0<sz) {l:List α} (hl:l.length=n) (h:Own w B e sz v n (l.flatMap enc)) (k:Nat) (hk:k<n) (j:Nat) (hj:j<sz) (u:Value) (x:α)
 (hx:enc x=(enc (l[k]'(by omega))).set j u) :
  ∃g off cap,v = .slice (some ⟨g,off,none⟩) n cap∧B≤g∧g<w.heap.size∧(∃cs,aB w g cs e)∧(∀i y,(enc (l[k]'(by omega)))[i]?=some y→w.cell? ⟨g,off+k*sz+i,none⟩=some y)∧w.frozen? ⟨g,off+k*sz+j,none⟩=false ∧
   Own (w.setCell ⟨g,off+k*sz+j,none⟩ u) B e sz v n ((l.set k x).flatMap enc):=by
 subst hl;obtain⟨g,off,cap,cur,h1,h2,h3,h4,h5,h6⟩:=h.put hsz hp k hk;refine⟨g,off,cap,h1,h2,h3.lt,⟨_,h3⟩,h5,h3.free _,h6 _ x ?_⟩;have he:bB cur (off+k*sz) (enc x)=cur.setIfInBounds (off+k*sz+j) u:=by
  apply lS;intro i
  by_cases hi:off+k*sz≤i∧i<off+k*sz+sz
  ·obtain⟨m,rfl⟩:∃m,i=off+k*sz+m:=⟨i-(off+k*sz),by omega⟩;have hm:m<(enc x).length:=by rw[hsz];omega
   rw[putAt_in _ _ _ m (enc x)[m] (by rw[hsz];omega) (aH hm)]
   by_cases hmj:m=j
   ·subst hmj;rw[qW (by omega)];simp[hx]
   rw[fQ (by omega)];have a : m<(enc l[k]).length:=by rw[hsz];omega
   have:=h5 m (enc l[k])[m] (aH a);rw[h3.cell] at this;rw[this];simp[hx,zt (fun e=>hmj e.symm)]
  ·rw[putAt_out _ _ _ _ (by rw[hsz];omega),fQ (by omega)]
 rw[he];exact h3.setCell _ _
theorem UD {o:Nat} (h:w.cell? ⟨b,o,none⟩=some v):b<w.heap.size:=by
 rcases fG b w.heap.size with h1|h1
 ·exact h1
 ·simp[World.cell?,lg h1] at h
theorem Nc {H:Type} {k:TypeId} {R:Value→Option (DataW H × List MemPlace)} {D:DataW H} (h:w.ownsMap P k R b n D) (hb:Below w.heap.size w w'):w'.ownsMap P k R b n D:=by
 have hl:=h.lt;obtain⟨es,clock,h1,r⟩:=h;exact⟨es,clock,(hb.block b hl).trans h1,r⟩
end Go.Proofs.YtjkkoeijlhfneaaGreat
namespace Pw
open Go Go.RowKit
variable {B b f g i id j k k1 n off p q sz:Nat} {P:Program} {Q:Exit → Act → World → Prop} {T T' e t ty:TypeId} {V c0 u v:Value} {a0:Act} {cs cur t0:Array Value} {o op:Oper} {ops:Array Oper} {rest:List Oper} {vs xs:List Value} {w w' w0:World} {x:Operand} {y:Nat → Value} {ρ:Operand → Value}
theorem LX {a c:World} (h:a.grownBy c none) (row:Option Nat):a.grownBy c row:=⟨h.os,h.tape,h.output,h.size,fun i hi _=>h.block i hi (by simp)⟩
def kJ (ps:List (Nat × Value)) (i:Nat):Option Value:=ps.lookup i
def WL (ops:Array Oper) (m:Nat) (ps:List (Nat × Value)):Bool:=
 (List.range m).all fun j=>(kJ ps j).isSome||(xN ops ops.size m).contains j
def Nw (m k1:Nat) (ps:List (Nat × Value)):Bool:=(List.range k1).all fun j=>decide (j≤m)||(kJ ps j).isSome
def TH (ops:Array Oper) (m:Nat) (ps:List (Nat × Value)):Bool:=
 (List.range ops.size).all fun i=>(kJ ps i).isNone||(decide (i≠m)&&match ops[i]? with | some o=>o.after.toList.all (fun e=>(kJ ps e.on).isSome) | none=>true)
theorem QL {m:Nat} {ps:List (Nat × Value)} (h:WL ops m ps=true) {listed:Array Bool} (hc:∀i o,ops[i]?=some o→listed.getD i false=true→∀e∈o.after,listed.getD e.on false=true) (hL:∀o,ops[m]?=some o→∀e∈o.after,listed.getD e.on false=true) (j:Nat) (hj:j<m) (hp:kJ ps j=none):listed.getD j false=true:=by
 have h1:=dK.1 h j (dE.2 hj);rw[hp] at h1;exact vD hc ops.size m hL j (by simpa using h1)
theorem Vz {m:Nat} {ps:List (Nat × Value)} (h:Nw m k1 ps=true) (j:Nat) (hj:j<k1) (hm:m<j):∃v,kJ ps j=some v:=by
 have h1:=dK.1 h j (dE.2 hj);simp only[tF,decide_eq_true_eq] at h1;rcases h1 with h1|h1
 ·omega
 ·exact Option.isSome_iff_exists.1 h1
theorem Vf {m:Nat} {ps:List (Nat × Value)} (h:TH ops m ps=true) (hi:ops[i]?=some o) (hp:kJ ps i=some v):i≠m∧∀e∈o.after,∃u,kJ ps e.on=some u:=by
 have a:i<ops.size:=(ib.1 hi).1;have h1:=dK.1 h i (dE.2 a);rw[hp,hi] at h1;simp only[Option.isNone_some,Bool.false_or,dS,decide_eq_true_eq] at h1;exact⟨h1.1,fun e he=>Option.isSome_iff_exists.1 (dK.1 h1.2 e (mX.2 he))⟩
def Vb (P:Program) (ops:Array Oper) (Q:Exit→Act→World→Prop) (m k1:Nat) (ps:List (Nat × Value)) (R:Nat→Value→World→Prop) (a0:Act) (w0:World) (listed:Array Bool) (a:Act) (w:World):Prop:=
  (∀i,k1≤i→listed.getD i false=false)∧(∀i o,ops[i]?=some o→listed.getD i false=true→∀e∈o.after,listed.getD e.on false=true) ∧
  ∃y:Nat→Value,(∀i v,kJ ps i=some v→y i=v)∧a = { a0 with tmps:=lay (fun i=>listed.getD i false) y ops.toList 0 a0.tmps } ∧
    ((listed.getD m false=false∧Below w0.heap.size w0 w∧∀i,i<m→kJ ps i=none→listed.getD i false=true→R i (y i) w) ∨
     (listed.getD m false=true∧wpList P ops Q (ops.toList.drop k1) { a0 with tmps:=lay (fun i=>decide (i<k1)) y ops.toList 0 a0.tmps } w))
theorem Dr {listed:Array Bool} (hsz:listed.size=ops.size) (hk:k1≤ops.size) (hL:∀i,i<ops.size→listed.getD i false=decide (i<k1)):listed.toList.countP (!·)=ops.size-k1:=by
 have e:listed.toList=List.replicate k1 true++List.replicate (ops.size-k1) false:=by
  apply mR;intro i
  by_cases hi:i<ops.size
  ·have h2:=hL i hi;rw[tJ,Af (show i<listed.size by omega)];simp only[bN,Af (show i<listed.size by omega),oq] at h2;rw[h2]
   by_cases him:i<k1
   ·rw[kY (by simpa using him)];simp[him]
   rw[kK (by simp;omega)];rw[jD,nI,if_pos (by omega)];simp[him]
  ·rw[dI (by simp;omega),dI (by simp;omega)]
 rw[e];simp[Cn,Jc]
theorem Bp (m k1:Nat) (ps:List (Nat × Value)) (hok:jh ops=true) (ht:iD ops k1=true) (hcok:WL ops m ps=true) (hmid:Nw m k1 ps=true) (hpu:TH ops m ps=true) (hmk:m<k1) (hk1:k1≤ops.size)
 (R:Nat→Value→World→Prop) (hstab:∀i v w w',Below w.heap.size w w'→R i v w→R i v w')
 (hstep:∀i o,i<m→kJ ps i=none→ops[i]?=some o→∀y w,(∀i v,kJ ps i=some v→y i=v)→Below w0.heap.size w0 w→(∀j,o.after.toList.any (fun e=>e.on==j)=true→match kJ ps j with | some v=>y j=v | none=>R j (y j) w) →
 if Region.wanted o (yielded ops (lay (fun _=>true) y ops.toList 0 a0.tmps))=true then Gives P o { a0 with tmps:=lay (fun _=>true) y ops.toList 0 a0.tmps } w (fun v w'=>Below w.heap.size w w'∧R i v w') else R i undef w)
 (hpure:∀i v o,kJ ps i=some v→ops[i]?=some o→∀y w,(∀i v,kJ ps i=some v→y i=v) →
 Region.wanted o (yielded ops (lay (fun _=>true) y ops.toList 0 a0.tmps))=true∧(execOp ({ a0 with tmps:=lay (fun _=>true) y ops.toList 0 a0.tmps }:Act).eval o).run P w = .ok (.value v) w)
 (hend:∀y w o,ops[m]?=some o→(∀i v,kJ ps i=some v→y i=v)→Below w0.heap.size w0 w→(∀i,i<m→match kJ ps i with | some v=>y i=v | none=>R i (y i) w) →
 Region.wanted o (yielded ops (lay (fun _=>true) y ops.toList 0 a0.tmps))=true ∧
 Gives P o { a0 with tmps:=lay (fun _=>true) y ops.toList 0 a0.tmps } w fun v w'=>wpList P ops Q (ops.toList.drop k1) { a0 with tmps:=lay (fun i=>decide (i<k1)) (fun i=>if i=m then v else y i) ops.toList 0 a0.tmps } w') :
    wpAny P .any ops Q ops.size (Array.replicate ops.size false) a0 { w0 with drawn:=w0.drawn+1 }:=by
  have hQ:∀(fuel:Nat) (listed:Array Bool) (a:Act) (w:World),listed.size=ops.size→listed.toList.countP (!·)≤fuel→Vb P ops Q m k1 ps R a0 w0 listed a w→wpAny P .any ops Q fuel listed a w:=by
    have hz:∀(fuel:Nat) (listed:Array Bool) (a:Act) (w:World),listed.size=ops.size→listed.toList.countP (!·)≤fuel→Vb P ops Q m k1 ps R a0 w0 listed a w→(∀i,i<k1→listed.getD i false=true)→wpAny P .any ops Q fuel listed a w:=by
      intro fuel listed a w n hc hA b;obtain⟨hC,hm,y,hV,ha,hr⟩:=hA;have hL:∀i,i<ops.size→listed.getD i false=decide (i<k1):=by
        intro i hi
        by_cases him:i<k1
        · rw[b i him];simp[him]
        · rw[hC i (by omega)];simp[him]
      rcases hr with ⟨h1,_⟩|⟨_,hw⟩
      · rw[b m hmk] at h1;cases h1
      refine ut (m:=k1) hok ht fuel k1 listed a w (ay _) hk1 (by have:=Dr n hk1 hL;omega) n hL ?_;rw[ha,qL (fun i=>listed.getD i false) (fun i=>decide (i<k1)) y ops.toList 0 a0.tmps (fun k hk=>by simp only[eu];exact hL k (by simpa using hk))];exact hw
    intro fuel
    induction fuel with
    | zero=>
      intro listed a w n hc hA;refine hz 0 listed a w n hc hA fun i hi => ?_;have h0:listed.toList.countP (!·)=0:=by omega
      have:=xy.1 h0 (listed[i]'(by omega)) (by simp);simpa[bN,show i<listed.size by omega] using this
    | succ fuel ih=>
      intro listed a w n hc hA
      by_cases b:∀i,i<k1→listed.getD i false=true
      · exact hz _ listed a w n hc hA b
      have hf:Region.ready .any ops listed≠[]:=by
        intro hq;apply b;intro i
        induction i using Nat.strongRecOn with
        | ind i ih'=>
          intro him
          by_cases hc' : listed.getD i false=true
          · exact hc'
          exfalso;have hi:i<ops.size:=by omega
          have hy:i∈Region.ready .any ops listed:=by
            rw[mem_ready];refine⟨?_,ops[i],by simp[hi],fun e he _ => ?_⟩
            · simpa[bN,show i<listed.size by omega] using hc'
            have:=(gu hok (i:=i) (o:=ops[i]) (by simp[hi])).2.1 e he;exact ih' e.on this.2 (by omega)
          rw[hq] at hy;cases hy
      refine⟨fun h=>absurd h hf,fun i hi => ?_⟩;obtain⟨h1,o,ho,hD⟩:=mem_ready.1 hi;have h6:i<ops.size:=(ib.1 ho).1;have hh:i<listed.size:=by omega
      obtain⟨hF,hb,_⟩:=gu hok ho;have hL:∀e∈o.after,listed.getD e.on false=true:=fun e he=>hD e he (hb e he).1;have hI:listed.getD i false=false:=by simpa[bN,hh] using h1
      have him:i<k1:=by
        rcases fG i k1 with h|h
        · exact h
        exfalso;apply b;intro j hj;exact uH ht hA.2.1 ho hL h j (by omega)
      obtain⟨hC,hm,y,hV,ha,hr⟩:=hA;have hO : ∀k o',ops[k]?=some o'→(listed.setIfInBounds i true).getD k false=true→∀e∈o'.after,(listed.setIfInBounds i true).getD e.on false=true:=by
        intro k o' c hk e he;apply xe hh
        by_cases hki:k=i
        · subst hki;rw[ho] at c;cases c;exact hL e he
        rw[qI hki] at hk;exact hm k o' c hk e he
      have hH : ∀k,k1≤k→(listed.setIfInBounds i true).getD k false=false:=fun k hk=>by rw[qI (by omega)];exact hC k hk
      have q:∀v w' y',(∀k,y' k=if k=i then v else y k)→(∀i v,kJ ps i=some v→y' i=v) →
          (((listed.setIfInBounds i true).getD m false=false∧Below w0.heap.size w0 w'∧∀k,k<m→kJ ps k=none→(listed.setIfInBounds i true).getD k false=true→R k (y' k) w') ∨
           ((listed.setIfInBounds i true).getD m false=true∧wpList P ops Q (ops.toList.drop k1) { a0 with tmps:=lay (fun i=>decide (i<k1)) y' ops.toList 0 a0.tmps } w')) →
          wpAny P .any ops Q fuel (listed.setIfInBounds i true) (a.put o.dst v) w':=by
        intro v w' y' hR hY hG;obtain rfl:y' = fun k=>if k=i then v else y k:=funext hR;refine ih _ _ _ (by simp[n]) (EH hh h1 hc) ⟨hH,hO,_,hY,?_,hG⟩;rw[ha,Je hok ho n v]
      have hl:∀t∈o.looksAt ops,a.tmps[t]?=(lay (fun _=>true) y ops.toList 0 a0.tmps)[t]?:=fun t ht=>by rw[ha];exact AC hok ho hL t ht
      have z:execOp a.eval o=execOp ({ a0 with tmps:=lay (fun _=>true) y ops.toList 0 a0.tmps }:Act).eval o:=by
        refine execOp_congr o hF fun x hx => ?_;cases x with
        | tmp t=>
          have:=hl t (oG _ (Hl.2 ⟨.tmp t,by simpa using hx,rfl⟩));simp[Act.eval,this]
        | _=>rfl
      have d:Region.wanted o (yielded ops a.tmps)=Region.wanted o (yielded ops (lay (fun _=>true) y ops.toList 0 a0.tmps)):=by
        unfold Region.wanted;cases hg:o.guard with
        | none=>rfl
        | some gw=>
          obtain⟨g,want⟩:=gw;have:yielded ops a.tmps g=yielded ops (lay (fun _=>true) y ops.toList 0 a0.tmps) g:=by
            unfold yielded;cases hd:(ops[g]?).bind (·.dst) with
            | none=>rfl
            | some t=>
              have:=hl t (tC _ (by simp[hg,hd]));simp[this]
          simp only[this]
      cases hp:kJ ps i with
      | some v=>
        have hU:=(Vf hpu ho hp).1;obtain⟨hB,hT⟩:=hpure i v o hp ho y w hV;have hg:Gives P o { a0 with tmps:=lay (fun _=>true) y ops.toList 0 a0.tmps } w (fun u w'=>u=v∧w' = w):=by unfold Gives;rw[hT];exact⟨rfl,rfl⟩
        refine rD ho (by rw[d];exact hB) z hg fun u w' hu => ?_;obtain⟨rfl,rfl⟩:=hu;refine q u w' y (fun k => ?_) hV ?_
        · by_cases hk:k=i
          · subst hk;rw[if_pos rfl];exact hV _ _ hp
          · rw[if_neg hk]
        rcases hr with ⟨h2,h3,h4⟩|⟨h2,h3⟩
        · refine .inl ⟨by rw[qI (oK hU)];exact h2,h3,fun k hk f hn => ?_⟩;have hki:k≠i:=by rintro rfl;rw[hp] at f;cases f
          rw[qI hki] at hn;exact h4 k hk f hn
        · exact .inr ⟨xe hh _ h2,h3⟩
      | none=>
        have hZ:i≤m:=by
          rcases fG m i with h|h
          · obtain⟨v,hv⟩:=Vz hmid i him h;rw[hp] at hv;cases hv
          · exact h
        rcases hr with ⟨h2,h3,h4⟩|⟨h2,h3⟩
        · by_cases hic:i=m
          · subst hic;have hE:∀k,k<i→match kJ ps k with | some v=>y k=v | none=>R k (y k) w:=by
              intro k hk;cases f:kJ ps k with
              | some v=>exact hV k v f
              | none=>exact h4 k hk f (QL hcok hm (fun o' c=>by rw[ho] at c; cases c; exact hL) k hk f)
            obtain⟨hB,hg⟩:=hend y w o ho hV h3 hE;refine rD ho (by rw[d];exact hB) z hg fun v w' hS => ?_;refine q v w' (fun k=>if k=i then v else y k) (fun _=>rfl) (fun k u r => ?_) (.inr ⟨Kt hh,hS⟩);have:k≠i:=by rintro rfl;rw[hp] at r;cases r
            simp only[this,if_false];exact hV k u r
          have hJ:i<m:=by omega
          have hs:=hstep i o hJ hp ho y w hV h3 (fun j hj=>by
            obtain⟨e,he,hX⟩:=iX.1 hj;have hM : e.on=j:=by simpa using hX
            subst hM;have hN:=mX.1 he;cases hpj:kJ ps e.on with
            | some v=>exact hV _ _ hpj
            | none=>exact h4 e.on (by have:=(hb e hN).2;omega) hpj (hL e hN))
          have hK:∀v w',Below w.heap.size w w'→R i v w'→wpAny P .any ops Q fuel (listed.setIfInBounds i true) (a.put o.dst v) w':=by
            intro v w' hP hv;refine q v w' (fun k=>if k=i then v else y k) (fun _=>rfl) (fun k u r => ?_) (.inl ⟨by rw[qI (oK hic)];exact h2,h3.trans (hP.mono h3.size),fun k hk f hn => ?_⟩)
            · have:k≠i:=by rintro rfl;rw[hp] at r;cases r
              simp only[this,if_false];exact hV k u r
            by_cases hki:k=i
            · subst hki;simpa using hv
            rw[qI hki] at hn;simp only[hki,if_false];exact hstab _ _ _ _ hP (h4 k hk f hn)
          by_cases hwt:Region.wanted o (yielded ops (lay (fun _=>true) y ops.toList 0 a0.tmps))=true
          · rw[if_pos hwt] at hs;exact rD ho (by rw[d];exact hwt) z hs fun v w' h=>hK v w' h.1 h.2
          rw[if_neg hwt] at hs;unfold wpOp;simp only[ho];rw[if_neg (by rw[d];exact hwt)];exact hK undef w (Below.refl _ _) hs
        exfalso
        by_cases hic:i=m
        · subst hic;rw[hI] at h2;cases h2
        have hW:∃om,ops[m]?=some om:=⟨ops[m]'(by omega),by simp[show m<ops.size by omega]⟩;obtain⟨om,h5⟩:=hW;have:=QL hcok hm (fun o' c=>hm m o' c h2) i (by omega) hp;rw[hI] at this;cases this
  refine (hQ ops.size _ _ _ (by simp) ?_ ⟨fun i _ => ?_,fun i o' c hi => ?_,fun i=>(kJ ps i).getD undef,fun i v h=>(by show (kJ ps i).getD undef=v;rw[h];rfl),?_,.inl ⟨?_,?_,?_⟩⟩)
  · simpa using xG (p:=(!·)) (l:=List.replicate ops.size false)
  · simp[bN,qB];split<;>rfl
  · exfalso;have:i<ops.size:=(ib.1 c).1;simp[bN,this] at hi
  · have e:∀y,lay (fun i=>(Array.replicate ops.size false).getD i false) y ops.toList 0 a0.tmps=a0.tmps:=by
      intro y;apply lS;intro s;exact iL _ _ s _ 0 _ fun k o' hk hd=>by simp[bN,qB];split<;>rfl
    rw[e]
  · simp[bN,qB];split<;>rfl
  · exact⟨rfl,rfl,rfl,ay _,fun _ _=>rfl⟩
  intro i hi _ hL;simp[bN,show i<ops.size by omega] at hL
def rA (P:Program) (ops:Array Oper) (a0:Act) (w0:World) (ps:List (Nat × Value)) (l:List mg) (i:Nat) (o:Oper):Prop:=
 match kJ ps i with
 | some v => ∀(ρ:Operand→Value) (y:Nat→Value) (w:World),(∀t j,writer ops t=some j→ρ (.tmp t)=y j)→(∀x,(match x with | .tmp t=>writer ops t=none | _=>True)→ρ x=a0.eval x)→(∀i v,kJ ps i=some v→y i=v) →
   Region.wanted o (gI ρ ops)=true∧(execOp ρ o).run P w = .ok (.value v) w
 | none => ∀(ρ:Operand→Value) (y:Nat→Value) (w:World),(∀t j,writer ops t=some j→ρ (.tmp t)=y j)→(∀x,(match x with | .tmp t=>writer ops t=none | _=>True)→ρ x=a0.eval x) →
   Below w0.heap.size w0 w→(∀j,o.after.toList.any (fun e=>e.on==j)=true→match kJ ps j with | some v=>y j=v | none=>rl l j (y j) w) →
   if Region.wanted o (gI ρ ops)=true then dM P o ρ w (fun v w'=>Below w.heap.size w w'∧rl l i v w') else rl l i undef w
theorem Ph {ps:List (Nat × Value)} {l:List mg} (h:kJ ps i=some v)
 (hh:∀(ρ:Operand→Value) (y:Nat→Value) (w:World),(∀t j,writer ops t=some j→ρ (.tmp t)=y j)→(∀x,(match x with | .tmp t=>writer ops t=none | _=>True)→ρ x=a0.eval x)→(∀i v,kJ ps i=some v→y i=v)→Region.wanted o (gI ρ ops)=true∧(execOp ρ o).run P w = .ok (.value v) w):rA P ops a0 w0 ps l i o:=by
 unfold rA;rw[h];exact hh
theorem bG {ps:List (Nat × Value)} {l:List mg} (h:kJ ps i=none)
 (hh:∀(ρ:Operand→Value) (y:Nat→Value) (w:World),(∀t j,writer ops t=some j→ρ (.tmp t)=y j)→(∀x,(match x with | .tmp t=>writer ops t=none | _=>True)→ρ x=a0.eval x) →
 Below w0.heap.size w0 w→(∀j,o.after.toList.any (fun e=>e.on==j)=true→match kJ ps j with | some v=>y j=v | none=>rl l j (y j) w) →
 if Region.wanted o (gI ρ ops)=true then dM P o ρ w (fun v w'=>Below w.heap.size w w'∧rl l i v w') else rl l i undef w):rA P ops a0 w0 ps l i o:=by
 unfold rA;rw[h];exact hh
theorem GH (m k1:Nat) (ps:List (Nat × Value)) (l:List mg) (hok:jh ops=true) (ht:iD ops k1=true) (hcok:WL ops m ps=true) (hmid:Nw m k1 ps=true) (hpu:TH ops m ps=true) (hmk:m<k1) (hk1:k1≤ops.size)
 (n:Nat) (hn:a0.tmps.size=n) (hsz:jQ ops n=true)
 (hstep:aW (rA P ops a0 w0 ps l) 0 (ops.toList.take m)) (hmidl:aW (rA P ops a0 w0 ps l) (m+1) ((ops.toList.drop (m+1)).take (k1-(m+1))))
 (hpl:ps.all (fun p=>decide (p.1<k1))=true)
 (hend:∀(ρ:Operand→Value) (y:Nat→Value) (w:World) (o:Oper),ops[m]?=some o→(∀t j,writer ops t=some j→ρ (.tmp t)=y j)→(∀x,(match x with | .tmp t=>writer ops t=none | _=>True)→ρ x=a0.eval x)→(∀i v,kJ ps i=some v→y i=v) →
 Below w0.heap.size w0 w→(∀i,i<m→match kJ ps i with | some v=>y i=v | none=>rl l i (y i) w) →
 Region.wanted o (gI ρ ops)=true∧dM P o ρ w fun v w'=>wpList P ops Q (ops.toList.drop k1) { a0 with tmps:=lay (fun i=>decide (i<k1)) (fun i=>if i=m then v else y i) ops.toList 0 a0.tmps } w') :
  wpAny P .any ops Q ops.size (Array.replicate ops.size false) a0 { w0 with drawn:=w0.drawn+1 }:=by
 have z:∀(y:Nat→Value) t j,writer ops t=some j→({ a0 with tmps:=lay (fun _=>true) y ops.toList 0 a0.tmps }:Act).eval (.tmp t)=y j:=by
  intro y t j hw;unfold writer at hw;have h1:=qo hw;have h2:=dE.1 (tZ hw);cases ho:ops[j]? with
  | none=>simp[ho] at h1
  | some p=>
   have f : p.dst=some t:=by simpa[ho] using h1
   have hg:t<a0.tmps.size:=by have:=dK.1 hsz p (mX.2 (yZ ho));rw[hn];simpa[f] using this
   have hu:∀k' o',ops.toList[k']?=some o'→o'.dst=some t→k' = j:=by
    intro k' o' u hj;rcases ((gu hok (i:=k') (o:=o') (by simpa using u)).2.2 j p t ho f).1 with h|h
    ·exact h
    ·exact absurd hj h
   have:=lD (fun _=>true) y t ops.toList 0 a0.tmps j p (by simpa using ho) f rfl hu hg;simp[Act.eval,this]
 have ha:∀(y:Nat→Value) x,(match x with | .tmp t=>writer ops t=none | _=>True)→({ a0 with tmps:=lay (fun _=>true) y ops.toList 0 a0.tmps }:Act).eval x=a0.eval x:=by
  intro y x hx;cases x with
  | tmp t=>
   have:(lay (fun _=>true) y ops.toList 0 a0.tmps)[t]?=a0.tmps[t]?:=by
    refine iL _ y t _ 0 _ fun k o' hk f => ?_;exfalso;simp only[writer] at hx;have u : ops[k]?=some o':=by simpa using hk
    have hf:k<ops.size:=(ib.1 u).1;have:=oC.1 hx k (dE.2 hf);simp[u,f] at this
   simp[Act.eval,this]
  | _=>rfl
 have c:∀(y:Nat→Value) (o:Oper),Region.wanted o (yielded ops (lay (fun _=>true) y ops.toList 0 a0.tmps))=Region.wanted o (gI ({ a0 with tmps:=lay (fun _=>true) y ops.toList 0 a0.tmps }:Act).eval ops):=by
  intro y o;congr 1;funext g;unfold yielded gI;cases (ops[g]?).bind (·.dst) with
  | none=>rfl
  | some d=>
   simp only[zO,Act.eval,bN];generalize (lay (fun _=>true) y ops.toList 0 a0.tmps)[d]?=q;cases q with
   | none=>rfl
   | some v=>cases v<;>rfl
 have s:∀i o,i<k1→i≠m→ops[i]?=some o→rA P ops a0 w0 ps l i o:=by
  intro i o hi hl ho;rcases fG i m with h|h
  ·have hc : (ops.toList.take m)[i]?=some o:=by rw[mh,if_pos h];simpa using ho
   have:=aW.at hstep i o hc;rwa [eu] at this
  have hc : ((ops.toList.drop (m+1)).take (k1-(m+1)))[i-(m+1)]?=some o:=by rw[mh,if_pos (by omega),rO,show m+1+(i-(m+1))=i by omega];simpa using ho
  have:=aW.at hmidl _ o hc;rwa [show m+1+(i-(m+1))=i by omega] at this
 refine Bp m k1 ps hok ht hcok hmid hpu hmk hk1 (rl l) (fun i v w w' hb h=>(l.getD i anyR).st v w w' hb h) (fun i o hm hp hi y w hV hb hd => ?_) (fun i v o hp hi y w hV => ?_) (fun y w o hi hV hb hR => ?_)
 ·have:=s i o (by omega) (by omega) hi;unfold rA at this;rw[hp] at this;have h2:=this _ y w (z y) (ha y) hb hd;rw[c];exact h2
 ·have hh:i<k1:=by
   have h1:(i,v)∈ps:=by
    clear hpl hstep hmidl hcok hmid hpu s hend hV;unfold kJ at hp
    induction ps with
    | nil=>simp at hp
    | cons q r ih=>
     obtain⟨a,b⟩:=q
     by_cases e:i=a
     ·subst e;simp at hp;simp[hp]
     have:(i==a)=false:=beq_eq_false_iff_ne.2 e;simp[List.lookup,this] at hp;exact ji _ (ih hp)
   simpa using dK.1 hpl _ h1
  have:=s i o hh (Vf hpu hi hp).1 hi;unfold rA at this;rw[hp] at this;obtain⟨h1,h2⟩:=this _ y w (z y) (ha y) hV;exact⟨by rw[c];exact h1,h2⟩
 obtain⟨h1,h2⟩:=hend _ y w o hi (z y) (ha y) hV hb hR;exact⟨by rw[c];exact h1,h2⟩
theorem Kl (m k1:Nat) (ps:List (Nat × Value)) (l:List mg) (hm:P.follows .mixedOrders=true) (hok:jh ops=true) (ht:iD ops k1=true) (hcok:WL ops m ps=true) (hmid:Nw m k1 ps=true) (hpu:TH ops m ps=true) (hmk:m<k1) (hk1:k1≤ops.size)
 (n:Nat) (hn:a0.tmps.size=n) (hsz:jQ ops n=true)
 (hstep:aW (rA P ops a0 w0 ps l) 0 (ops.toList.take m)) (hmidl:aW (rA P ops a0 w0 ps l) (m+1) ((ops.toList.drop (m+1)).take (k1-(m+1))))
 (hpl:ps.all (fun p=>decide (p.1<k1))=true)
 (hend:∀(ρ:Operand→Value) (y:Nat→Value) (w:World) (o:Oper),ops[m]?=some o→(∀t j,writer ops t=some j→ρ (.tmp t)=y j)→(∀x,(match x with | .tmp t=>writer ops t=none | _=>True)→ρ x=a0.eval x)→(∀i v,kJ ps i=some v→y i=v) →
 Below w0.heap.size w0 w→(∀i,i<m→match kJ ps i with | some v=>y i=v | none=>rl l i (y i) w) →
 Region.wanted o (gI ρ ops)=true∧dM P o ρ w fun v w'=>wpList P ops Q (ops.toList.drop k1) { a0 with tmps:=lay (fun i=>decide (i<k1)) (fun i=>if i=m then v else y i) ops.toList 0 a0.tmps } w') :
  (Code.region id ops true).wp P Q a0 w0:=
 wp_region_any hm (GH m k1 ps l hok ht hcok hmid hpu hmk hk1 n hn hsz hstep hmidl hpl hend)
theorem pG (s x:Operand) (t:TypeId) (hop:o.op=Op.call { callee:=Callee.builtin Builtin.append,args:=#[s,x],argTypes:=#[t,t] })
 (B:Nat) (e:TypeId) (z:Value) (size bytes:Nat) (h1:P.underlying t=some (.slice e)) (h2:(P.info? e).map (fun i=>(i.zero,i.size,i.bytes))=some (some z,size,bytes)) (h6:z.cells.size=size) (h7:0<size)
 (v:Value) (n:Nat) (xs:List Value) (hs:ρ s=v) (hown:Own w B e size v n xs)
 (ao:Option Addr) (m c:Nat) (news:List Value) (hx:ρ x = .slice ao m c) (hnone:ao=none→c=0) (hmc:m≤c) (hn:news.length=m*size) (hrd:dP w ao news) (h1c:∀u∈news,u.oneCell' = true)
 (b1:n+m≤maxLen) (b2:(n+m)*bytes≤140737488355328) (hB:B≤w.heap.size) :
  ∃v' w',(execOp ρ o).run P w = .ok (.value v') w'∧Own w' B e size v' (n+m) (xs++news)∧w.grownBy w' v.ownBlock∧(v'.ownBlock=v.ownBlock∨∀g,v'.ownBlock=some g→w.heap.size≤g):=by
 obtain⟨i,hi,hz,f,h⟩:=info_parts h2;cases ao with
 | none=>
  obtain rfl:=hnone rfl;obtain rfl:m=0:=by omega
  obtain rfl:news=[]:=jM (by simpa using hn);refine⟨v,w,?_,by simpa using hown,IV _ _,.inl rfl⟩;rcases hown with ⟨hl,⟨rfl,rfl⟩|⟨g,off,cap,cur,rfl,hBg,hk,hc,hm,hsize,hcell⟩⟩
  ·simp[execOp,hop,resolve,invoke,builtin,hs,hx,Builtin.append_,run_underlying h1,Go.sizeOf,typeInfo,hi,Builtin.lenOf,Builtin.firstCells,storeCells,Result.andThen]
  ·simp[execOp,hop,resolve,invoke,builtin,hs,hx,Builtin.append_,run_underlying h1,Go.sizeOf,typeInfo,hi,Builtin.lenOf,Builtin.firstCells,hc,storeCells,Result.andThen]
 | some ad=>
  have d:∀j u,news[j]?=some u→w.cell? (ad.add j)=some u:=by intro j u hj;obtain⟨b,off,e',hc⟩:=hrd j u hj;cases e';rw[sj];exact hc
  rcases hown with ⟨hl,⟨rfl,rfl⟩|⟨g,off,cap,cur,rfl,hBg,hk,hc,hm,hsize,hcell⟩⟩
  ·obtain rfl:xs=[]:=jM (by simpa using hl);obtain⟨v',w',a,r1,r2,_⟩:=run_append_own (P:=P) w w.heap.size t o.type e i z size bytes h1 hi hz f h h6 h7 (.slice none 0 0) 0 [] (IU w _ e size) ad m c news hn d h1c b1 b2 (ay _);refine⟨v',w',?_,(Own.of_owns r1).mono hB,r2,.inr (Own.of_owns r1).ge⟩;simp[execOp,hop,resolve,invoke,builtin,hs,hx,a,Result.andThen]
  have k:n*size≤cap*size:=tX _ hc;rcases fG cap (n+m) with hr|hr
  ·obtain⟨v',w',a,r1,r2⟩:=run_append_arg_grows (P:=P) w t o.type e i z size bytes h1 hi hz f h h6 h7 ⟨g,off,none⟩ n cap xs hl (fun j u hj=>by rw[sj,hk.cell];exact hcell j u hj) ad m c news hn d hr b1 b2;refine⟨v',w',?_,(Own.of_owns r1).mono hB,LX r2 _,.inr (Own.of_owns r1).ge⟩;simp[execOp,hop,resolve,invoke,builtin,hs,hx,a,Result.andThen]
  have h3:(n+m)*size≤cap*size:=tX _ hr;rw[tH] at h3;have a:=run_append_room_cells (P:=P) w t o.type e i h1 hi g off n cap ad m c news (by rw[f];exact hn) d h1c hr (fun j hj=>by rw[f,hk.cell];simp[show off+n*size+j<cur.size by omega]) (fun j hj=>hk.free _);rw[f] at a;refine⟨_,_,?_,⟨by rw[jH,hl,hn,tH],.inr ⟨g,off,cap,_,rfl,hBg,hk.setCells news (off+n*size),hr,hm,by rw[size_putAt];exact hsize,fun j u hj => ?_⟩⟩,aG _ _ _ _,.inl rfl⟩
  ·simp[execOp,hop,resolve,invoke,builtin,hs,hx,a,Result.andThen]
  by_cases hjl:j<xs.length
  ·rw[kY hjl] at hj;rw[putAt_out _ _ _ _ (.inl (by omega))];exact hcell j u hj
  rw[kK (by omega)] at hj;have:=putAt_in news cur (off+n*size) (j-xs.length) u (by omega) hj;rwa [show off+n*size+(j-xs.length)=off+j by omega] at this
theorem Ht {F:Value→World→Prop} (hw:Region.wanted o (gI ρ ops)=true) {D:Value→World→Prop} (h:∃v' w',(execOp ρ o).run P w = .ok (.value v') w'∧D v' w') (hF:∀v w',D v w'→F v w'):Region.wanted o (gI ρ ops)=true∧dM P o ρ w F:=by
 obtain⟨v',w',h1,h2⟩:=h;refine⟨hw,?_⟩;unfold dM;rw[h1];exact hF _ _ h2
open Go.ChangeShapes Go.WideShapes Go.ChangeAt
theorem Dk {d:TypeDesc} (ht:P.underlying t=some (.array n e)) (he:P.underlying e=some d) (hd:(∀m f,d ≠ .array m f)∧(∀fs,d ≠ .struct fs)) (hs:(P.info? e).map (·.size)=some 1)
 (cs:Array Value) (k:Nat) (v:Value) (hk:k<n) (hv:cs[k]?=some v) (kk:IntKind) (w:World):(Instr.index t (.agg cs) (.int kk k)).run P w = .ok v w:=by
 have a:∀w,(Go.sizeOf e).run P w = .ok 1 w:=by
  intro w;cases hq:P.info? e with
  | none=>simp[hq] at hs
  | some i=>
   have hz:i.size=1:=by simpa[hq] using hs
   simp[Go.sizeOf,typeInfo,run_program,hq,hz]
 have ha:∀w,(isAgg e).run P w = .ok false w:=by intro w;unfold isAgg;simp[run_underlying he];cases d<;>simp_all
 simp[Instr.index,part,asIntOf,run_underlying ht,a,hk,ha,hv,go_sem]
theorem UI :(∀m f,TypeDesc.slice e ≠ .array m f)∧(∀fs,TypeDesc.slice e ≠ .struct fs):=⟨fun _ _ h=>(by cases h),fun _ h=>(by cases h)⟩
def aggB:TypeDesc→Bool
 | .struct _=>true
 | .array _ _=>true
 | _=>false
theorem jR {d:TypeDesc} (hrd:dP w (some ⟨b,off,none⟩) vs)
 (hu:P.underlying ty=some d) (hd:aggB d=true) (hi:(P.info? ty).map (·.size)=some vs.length) :
  (loadVar ty ⟨b,off,none⟩).run P w = .ok (.agg vs.toArray) w:=by
 have hl:(loadCells ⟨b,off,none⟩ vs.length).run P w = .ok vs.toArray w:=
  run_loadCells_list (P:=P) w ⟨b,off,none⟩ vs (fun j v hv=>by
   obtain⟨b',off',h1,h2⟩:=hrd.at (by
    rcases fG 0 vs.length with h|h
    ·exact h
    ·rw[dI (by omega)] at hv;cases hv)
   cases h1;have c:(⟨b,off,none⟩:Addr).add j=⟨b,off+j,none⟩:=by unfold Addr.add;split<;>simp_all
   rw[c];exact h2 j v hv)
 cases hq:P.info? ty with
 | none=>simp[hq] at hi
 | some i=>
  have hs:i.size=vs.length:=by simpa[hq] using hi
  have a:(isAgg ty).run P w = .ok true w:=by unfold isAgg;rw[kC,run_underlying hu w];cases d<;>simp_all[aggB]
  simp[loadVar,kC,a,Go.sizeOf,typeInfo,hq,hs,hl]
theorem gz {a:Act} (hgd:o.guard=none) (ty:TypeId) (x:Operand) (ho:o.op = .load ty x)
 (b off:Nat) (hx:a.eval x = .pointer (some ⟨b,off,none⟩)) (vs:List Value) (hrd:dP w (some ⟨b,off,none⟩) vs) (d:TypeDesc)
 (hu:P.underlying ty=some d) (hd:aggB d=true) (hi:(P.info? ty).map (·.size)=some vs.length)
 (h:wpList P ops Q rest (a.put o.dst (.agg vs.toArray)) w):wpList P ops Q (o::rest) a w:=
 wpList_plain hgd fun K hK=>by unfold Oper.wp execOp;simp only[ho,hx,Instr.loadAt,Instr.sureAddr,kC,rU,rM,jR hrd hu hd hi];exact hK _ _ h
theorem aB.rd (h:aB w b cs T):dP w (some ⟨b,0,none⟩) cs.toList:=by
 intro i u hi;exact⟨b,0,rfl,by rw[h.cell,eu];simpa using hi⟩
theorem aA {a:Act} (hgd:op.guard=none) (ty:TypeId) (x y:Operand) (ho:op.op = .store ty x y)
 (b o:Nat) (v:Value) (cells:List Value) (hx:a.eval x = .pointer (some ⟨b,o,none⟩)) (hy:a.eval y=v) (hc:v.cells.toList=cells) (cur:Array Value) (T:TypeId) (hg:aB w b cur T)
 (hfit:o+cells.length≤cur.size) (hi:(P.info? ty).map (·.size)=some cells.length) (h1:∀u∈cells,u.oneCell' = true)
 (h:∀w',aB w' b (bB cur o cells) T→w.grownBy w' (some b)→wpList P ops Q rest (a.put op.dst undef) w'):wpList P ops Q (op::rest) a w:=
 wpList_plain hgd fun K hK=>by
  have hst:=run_storeCells_cells (P:=P) b o cells 0 w
   (fun j hj=>by rw[iq,hg.cell];simp[show o+j<cur.size by omega]) (fun j hj=>hg.free _) h1
  simp only[iq] at hst;have hsv:(storeVar ty ⟨b,o,none⟩ v).run P w = .ok () (w.setCells b o cells):=by
   cases hq:P.info? ty with
   | none=>simp[hq] at hi
   | some i=>
    have hs:i.size=cells.length:=by simpa[hq] using hi
    have hv:v.cells.size=cells.length:=by rw[←hc];simp
    simp[storeVar,Go.sizeOf,typeInfo,hq,hs,hv,hc,hst]
  unfold Oper.wp execOp;simp only[ho,hx,hy,Instr.storeAt,Instr.sureAddr,kC,rU,rM,hsv];exact hK _ _ (h _ (hg.setCells _ _) (aG _ _ _ _))
theorem putAt_one (cur:Array Value) (o:Nat) (v:Value):bB cur o [v]=cur.setIfInBounds o v:=rfl
theorem eZ {fn:Func} {p q:Tmp} (h:fn.results=#[.cell p ty,.tmp q]) (tmps:Array Value) (w:World) (g:Nat) (t:TypeId) (cs:Array Value) (d:TypeDesc) (v:Value)
 (hp:tmps.getD p undef = .pointer (some ⟨g,0,none⟩)) (hv:tmps.getD q undef=v) (hg:aB w g cs t) (hu:P.underlying ty=some d) (hd:aggB d=true) (hi:(P.info? ty).map (·.size)=some cs.size) :
  (results fn tmps).run P w = .ok (.tuple #[.agg cs,v]) w:=by
 have b : tmps[p]?.getD undef = .pointer (some ⟨g,0,none⟩):=by simpa using hp
 have hl:=jR (P:=P) hg.rd hu hd (by rw[iI];exact hi);have a : tmps[q]?.getD undef=v:=by simpa using hv
 simp[results,h,b,a,asAddr,hl]
theorem iw {fn:Func} {p q r:Tmp} (h:fn.results=#[.cell p ty,.tmp q,.tmp r]) (tmps:Array Value) (w:World) (g:Nat) (t:TypeId) (cs:Array Value) (d:TypeDesc) (v u:Value)
 (hp:tmps.getD p undef = .pointer (some ⟨g,0,none⟩)) (hv:tmps.getD q undef=v) (hu' : tmps.getD r undef=u) (hg:aB w g cs t) (hu:P.underlying ty=some d) (hd:aggB d=true) (hi:(P.info? ty).map (·.size)=some cs.size) :
  (results fn tmps).run P w = .ok (.tuple #[.agg cs,v,u]) w:=by
 have c : tmps[p]?.getD undef = .pointer (some ⟨g,0,none⟩):=by simpa using hp
 have hl:=jR (P:=P) hg.rd hu hd (by rw[iI];exact hi);have b : tmps[q]?.getD undef=v:=by simpa using hv
 have a : tmps[r]?.getD undef=u:=by simpa using hu'
 simp[results,h,c,b,a,asAddr,hl]
theorem eF {fn:Func} {p:Tmp} (h:fn.results=#[.cell p ty]) (tmps:Array Value) (w:World) (g:Nat) (t:TypeId) (cs:Array Value) (d:TypeDesc)
 (hp:tmps.getD p undef = .pointer (some ⟨g,0,none⟩)) (hg:aB w g cs t) (hu:P.underlying ty=some d) (hd:aggB d=true) (hi:(P.info? ty).map (·.size)=some cs.size) :
  (results fn tmps).run P w = .ok (.agg cs) w:=by
 have a : tmps[p]?.getD undef = .pointer (some ⟨g,0,none⟩):=by simpa using hp
 have hl:=jR (P:=P) hg.rd hu hd (by rw[iI];exact hi);simp[results,h,a,asAddr,hl]
def oo (w:World) (v v' : Value):Prop:=v'.ownBlock=v.ownBlock∨∀g,v'.ownBlock=some g→w.heap.size≤g
theorem sM {a:Act} (hg:o.guard=none) (s x:Operand) (t:TypeId)
 (hop:o.op=Op.call { callee:=Callee.builtin Builtin.append,args:=#[s,x],argTypes:=#[t,t] })
 (B:Nat) (e:TypeId) (z:Value) (size bytes:Nat) (h1:P.underlying t=some (.slice e)) (h2:(P.info? e).map (fun i=>(i.zero,i.size,i.bytes))=some (some z,size,bytes)) (h6:z.cells.size=size) (h7:0<size)
 (v:Value) (n:Nat) (xs:List Value) (hs:a.eval s=v) (hown:Own w B e size v n xs)
 (ao:Option Addr) (m c:Nat) (news:List Value) (hx:a.eval x = .slice ao m c) (hnone:ao=none→c=0) (hmc:m≤c) (hn:news.length=m*size) (hrd:dP w ao news) (h1c:∀u∈news,u.oneCell' = true)
 (b1:n+m≤maxLen) (b2:(n+m)*bytes≤140737488355328) (hB:B≤w.heap.size)
 (hK:∀v' w',Own w' B e size v' (n+m) (xs++news)→w.grownBy w' v.ownBlock→oo w v v'→wpList P ops Q rest (a.put o.dst v') w') :
  wpList P ops Q (o::rest) a w:=by
 obtain⟨v',w',b,k1,k2,k3⟩:=pG (P:=P) (ρ:=a.eval) (o:=o) (w:=w) s x t hop B e z size bytes h1 h2 h6 h7 v n xs hs hown ao m c news hx hnone hmc hn hrd h1c b1 b2 hB;refine wpList_plain hg fun K d => ?_;unfold Oper.wp;rw[b];exact d _ _ (hK v' w' k1 k2 k3)
def Apart (v u:Value):Prop:=∀g,v.ownBlock=some g→u.ownBlock≠some g
theorem Apart.symm (h:Apart v u):Apart u v:=fun g h1 h2=>h g h2 h1
theorem Ii (h:Own w B e sz v n xs) (g:Nat) (hg:v.ownBlock=some g):g<w.heap.size:=by
 rcases h.2 with ⟨rfl,_⟩|⟨g2,off,cap,cur,rfl,_,hb,_⟩
 ·cases hg
 cases hg;exact hb.lt
theorem Own.apart (hu:Own w B e sz u n xs) (h:Apart v u) (hgr:w.grownBy w' v.ownBlock):Own w' B e sz u n xs:=
 hu.grown hgr fun g hg he=>h g he hg
theorem aI {a:Act} (hgd:op.guard=none) (ty:TypeId) (x y:Operand) (ho:op.op = .store ty x y)
 (cells:Array Value) (hx:a.eval x = .pointer (some ⟨w.heap.size,0,none⟩)) (hy:a.eval y = .agg cells)
 (hfit:cells.size=cur.size) (hi:(P.info? ty).map (·.size)=some cells.size) (h1:cells.all (·.oneCell')=true)
 (h:∀w',Below w.heap.size w w'→aB w' w.heap.size cells T→wpList P ops Q rest (a.put op.dst undef) w'):wpList P ops Q (op::rest) a (w.alloc (.cells cur T)):=by
 refine az hgd ty x y ho w.heap.size cells hx hy cur T (aB.new _ _ _) hfit hi h1 fun w' hb b=>h w' ?_ hb;exact ((Below.refl _ _).alloc (ay _) _).grown b (fZ _ _) (fun k hk=>by cases hk;exact ay _)
theorem Jm {a:Act} (hgd:op.guard=none) (ty:TypeId) (x y:Operand) (ho:op.op = .store ty x y)
 (v:Value) (hx:a.eval x = .pointer (some ⟨w.heap.size,0,none⟩)) (hy:a.eval y=v) (hc:v.cells.toList=[v])
 (hi:(P.info? ty).map (·.size)=some 1) (h1:v.oneCell' = true)
 (h:∀w',Below w.heap.size w w'→aB w' w.heap.size #[v] T→wpList P ops Q rest (a.put op.dst undef) w'):wpList P ops Q (op::rest) a (w.alloc (.cells #[c0] T)):=by
 refine aA hgd ty x y ho w.heap.size 0 v [v] hx hy hc #[c0] T (aB.new _ _ _) (show 0+1≤1 from ay 1) hi (fun u hu=>by cases bv.1 hu;exact h1) fun w' hb b=>h w' ?_ hb;exact ((Below.refl _ _).alloc (ay _) _).grown b (fZ _ _) (fun k hk=>by cases hk;exact ay _)
theorem wpList_want {a:Act} (hw:Region.wanted o (yielded ops a.tmps)=true)
 (h:∀K:Act→World→Prop,(∀a w,wpList P ops Q rest a w→K a w)→o.wp P a w K Q):wpList P ops Q (o::rest) a w:=
 wpList_step fun K hK=>by rw[if_pos hw];exact h K hK
theorem ax {a:Act} (ty:TypeId) (x:Operand) (ho:o.op = .load ty x)
 (b off:Nat) (hx:a.eval x = .pointer (some ⟨b,off,none⟩)) (hgd:Region.wanted o (yielded ops a.tmps)=true) (vs:List Value) (hrd:dP w (some ⟨b,off,none⟩) vs) (d:TypeDesc)
 (hu:P.underlying ty=some d) (hd:aggB d=true) (hi:(P.info? ty).map (·.size)=some vs.length)
 (h:wpList P ops Q rest (a.put o.dst (.agg vs.toArray)) w):wpList P ops Q (o::rest) a w:=
 wpList_want hgd fun K hK=>by unfold Oper.wp execOp;simp only[ho,hx,Instr.loadAt,Instr.sureAddr,kC,rU,rM,jR hrd hu hd hi];exact hK _ _ h
def bX (o:Oper):Oper:={ o with after:=⟨o.after.toList.filter (Region.binds .any)⟩ }
def bU (ops:Array Oper):Array Oper:=⟨ops.toList.map bX⟩
theorem vo (ops:Array Oper):(bU ops).size=ops.size:=by simp[bU]
theorem AQ (ops:Array Oper) (i:Nat):(bU ops)[i]?=(ops[i]?).map bX:=by
 unfold bU;simp
theorem BA (ops:Array Oper) (listed:Array Bool):Region.ready .any (bU ops) listed=Region.ready .any ops listed:=by
 unfold Region.ready;rw[vo];apply List.filter_congr;intro i _;congr 1;rw[AQ];cases ops[i]? with
 | none=>rfl
 | some o=>
  simp only[qA,oq];rw[←jV,←jV];exact filter_all _ _ _
theorem Fa (ops:Array Oper) (ts:Array Value):yielded (bU ops) ts=yielded ops ts:=by
 funext g;unfold yielded;rw[AQ];cases ops[g]?<;>rfl
theorem Mx {K:Act→World→Prop} {a:Act} (h:wpOp P (bU ops) Q i K a w):wpOp P ops Q i K a w:=by
 unfold wpOp at h ⊢;rw[AQ,Fa] at h;cases ho:ops[i]? with
 | none=>rw[ho] at h;exact h
 | some o=>
  rw[ho] at h;exact h
theorem xR {P:Program} {ops:Array Oper} {Q:Exit→Act→World→Prop}:∀(fuel:Nat) (listed:Array Bool) (a:Act) (w:World),wpAny P .any (bU ops) Q fuel listed a w→wpAny P .any ops Q fuel listed a w
 | 0,listed,a,w,h=>by unfold wpAny at h ⊢;rw[BA] at h;exact h
 | fuel+1,listed,a,w,h=>by unfold wpAny at h ⊢;rw[BA] at h;exact⟨h.1,fun i hi=>wpOp_mono (fun a w=>xR fuel _ a w) (Mx (h.2 i hi))⟩
structure vV where
 r:(Nat→Value)→World→Prop
 on:List Nat
 st:∀y w w',Below w.heap.size w w'→r y w→r y w'
 dep:∀y y' w,(∀j∈on,y j=y' j)→r y w→r y' w
def WN (k:Nat) (R:mg):vV:=⟨fun y w=>R.r (y k) w,[k],fun y w w' hb h=>R.st _ _ _ hb h,fun y y' w h h1=>by rw[←h k (bv.2 rfl)];exact h1⟩
def anyY:vV:=⟨fun _ _=>True,[],fun _ _ _ _ _=>trivial,fun _ _ _ _ _=>trivial⟩
def ry (l:List vV) (i:Nat):vV:=l.getD i anyY
def upd (y:Nat→Value) (i:Nat) (v:Value):Nat→Value:=fun k=>if k=i then v else y k
def QY (ops:Array Oper) (m:Nat) (l:List vV):Bool:=
 (List.range m).all fun i=>match ops[i]? with
  | none=>true
  | some o=>(ry l i).on.all fun j=>decide (j=i)||o.after.toList.any (fun e=>e.on==j)
theorem TN {m:Nat} {l:List vV} (h:QY ops m l=true) (him:i<m) (ho:ops[i]?=some o) (hj:j∈(ry l i).on):j=i∨∃e∈o.after,e.on=j:=by
 have h1:=dK.1 h i (dE.2 him);simp only[ho] at h1;have h2:=dK.1 h1 j hj;simp only[tF,decide_eq_true_eq,iX,beq_iff_eq] at h2;rcases h2 with h2|⟨e,he,h3⟩
 ·exact .inl h2
 ·exact .inr ⟨e,mX.1 he,h3⟩
def WI (ops:Array Oper) (m:Nat) (l:List vV) (B:World→Prop) (a0:Act) (listed:Array Bool) (a:Act) (w:World):Prop:=
 (∀i,m≤i→listed.getD i false=false)∧(∀i o,ops[i]?=some o→listed.getD i false=true→∀e∈o.after,listed.getD e.on false=true) ∧
  ∃y:Nat→Value,a = { a0 with tmps:=lay (fun i=>listed.getD i false) y ops.toList 0 a0.tmps }∧B w∧∀i,i<m→listed.getD i false=true→(ry l i).r y w
def ww (m:Nat) (l:List vV) (B:World→Prop) (i:Nat) (y:Nat→Value) (w:World) (v:Value) (w' : World):Prop:=
 B w'∧(ry l i).r (upd y i v) w'∧∀k,k<m→k≠i→(ry l k).r y w→(ry l k).r y w'
theorem BU (m:Nat) (l:List vV) (B:World→Prop) (hbst:∀w w',Below w.heap.size w w'→B w→B w') (hok:jh ops=true) (ht:iD ops m=true) (hmn:m≤ops.size) (hon:QY ops m l=true) (hb0:B w0)
 (hstep:∀i o,i<m→ops[i]?=some o→∀y w,B w→(∀j,o.after.toList.any (fun e=>e.on==j)=true→(ry l j).r y w) →
 if Region.wanted o (yielded ops (lay (fun _=>true) y ops.toList 0 a0.tmps))=true then Gives P o { a0 with tmps:=lay (fun _=>true) y ops.toList 0 a0.tmps } w (ww m l B i y w) else ww m l B i y w undef w)
 (hend:∀y w,B w→(∀i,i<m→(ry l i).r y w)→wpList P ops Q (ops.toList.drop m) { a0 with tmps:=lay (fun i=>decide (i<m)) y ops.toList 0 a0.tmps } w) :
  wpAny P .any ops Q ops.size (Array.replicate ops.size false) a0 w0:=by
 have hE:∀(fuel:Nat) (listed:Array Bool) (a:Act) (w:World),listed.size=ops.size→listed.toList.countP (!·)≤fuel→WI ops m l B a0 listed a w→wpAny P .any ops Q fuel listed a w:=by
  intro fuel
  induction fuel with
  | zero=>
   intro listed a w c hc hA;have hl:∀i,i<ops.size→listed.getD i false=true:=by
    intro i hF;have h0:listed.toList.countP (!·)=0:=by omega
    have:=xy.1 h0 (listed[i]'(by omega)) (by simp);simpa[bN,show i<listed.size by omega] using this
   obtain⟨u,hn,y,ha,hb,hR⟩:=hA;have hy : m=ops.size:=by
    rcases fG m ops.size with h|h
    ·have h1:=hl m h;rw[u m (ay _)] at h1;cases h1
    ·omega
   refine ut (m:=m) hok ht 0 ops.size listed a w (by omega) (ay _) (by omega) c (fun i hi=>by rw[hl i hi];simp[hi]) ?_;have:=hend y w hb fun i hi=>hR i (by omega) (hl i (by omega));rw[ha,qL (fun i=>listed.getD i false) (fun i=>decide (i<m)) y ops.toList 0 a0.tmps (fun k hk=>by
    have hG : k<ops.size:=by simpa using hk
    simp only[eu];rw[hl k hG];simp;omega)]
   rw[hy] at this ⊢;exact this
  | succ fuel ih=>
   intro listed a w c hc hA
   by_cases hfull:∀i,i<m→listed.getD i false=true
   ·obtain⟨u,hn,y,ha,hb,hR⟩:=hA;have hL:∀i,i<ops.size→listed.getD i false=decide (i<m):=by
     intro i hi
     by_cases him:i<m
     ·rw[hfull i him];simp[him]
     ·rw[u i (by omega)];simp[him]
    have hm:ops.size-m≤fuel+1:=by have:=Dr (k1:=m) c hmn hL;omega
    refine ut (m:=m) hok ht (fuel+1) m listed a w (ay _) hmn hm c hL ?_;have:=hend y w hb fun i hi=>hR i (by omega) (hfull i hi);rw[ha,qL (fun i=>listed.getD i false) (fun i=>decide (i<m)) y ops.toList 0 a0.tmps (fun k hk=>by simp only[eu];exact hL k (by simpa using hk))];exact this
   have f:Region.ready .any ops listed≠[]:=by
    intro hh;apply hfull;intro i
    induction i using Nat.strongRecOn with
    | ind i ih'=>
     intro him
     by_cases hc' : listed.getD i false=true
     ·exact hc'
     exfalso;have hi:i<ops.size:=by omega
     have hp:i∈Region.ready .any ops listed:=by
      rw[mem_ready];refine⟨?_,ops[i],by simp[hi],fun e he _ => ?_⟩
      ·simpa[bN,show i<listed.size by omega] using hc'
      have:=(gu hok (i:=i) (o:=ops[i]) (by simp[hi])).2.1 e he;exact ih' e.on this.2 (by omega)
     rw[hh] at hp;cases hp
   refine⟨fun h=>absurd h f,fun i hi => ?_⟩;obtain⟨h1,o,ho,hv⟩:=mem_ready.1 hi;have hF:i<ops.size:=(ib.1 ho).1;obtain⟨hw,b,_⟩:=gu hok ho;have hL:∀e∈o.after,listed.getD e.on false=true:=fun e he=>hv e he (b e he).1;have him:i<m:=by
    rcases fG i m with h|h
    ·exact h
    exfalso;apply hfull;intro j hj;exact uH ht hA.2.1 ho hL h j (by omega)
   obtain⟨u,hn,y,ha,hb,hR⟩:=hA;have hI:listed.getD i false=false:=by simpa[bN,show i<listed.size by omega] using h1
   have z:∀v w',ww m l B i y w v w'→wpAny P .any ops Q fuel (listed.setIfInBounds i true) (a.put o.dst v) w':=by
    intro v w' hq;refine ih _ _ _ (by simp[c]) ?_ ⟨fun k hk => ?_,fun k o' n hk e he => ?_,upd y i v,?_,hq.1,?_⟩
    ·exact EH (by omega) h1 hc
    ·have:=u k hk;simp only[bN,fQ (show i≠k by omega)] at this ⊢;exact this
    ·have up:∀q,listed.getD q false=true→(listed.setIfInBounds i true).getD q false=true:=xe (by omega);apply up
     by_cases hki:k=i
     ·subst hki;rw[ho] at n;cases n;exact hL e he
     ·exact hn k o' n (by simpa[bN,fQ (oK hki)] using hk) e he
    ·rw[ha,Je hok ho c v];rfl
    intro k hk hK
    by_cases hki:k=i
    ·subst hki;exact hq.2.1
    have hr:listed.getD k false=true:=by simpa[bN,fQ (oK hki)] using hK
    refine (ry l k).dep y (upd y i v) w' (fun j hj => ?_) (hq.2.2 k hk hki (hR k hk hr));have hz:k<ops.size:=by omega
    have hB:listed.getD j false=true:=by
     rcases TN hon hk (o:=ops[k]) (by simp[hz]) hj with rfl|⟨e,he,rfl⟩
     ·exact hr
     ·exact hn k ops[k] (by simp[hz]) hr e he
    have hH:j≠i:=by rintro rfl;rw[hI] at hB;cases hB
    unfold upd;rw[if_neg hH]
   have hf:∀t∈o.looksAt ops,a.tmps[t]?=(lay (fun _=>true) y ops.toList 0 a0.tmps)[t]?:=fun t ht=>by rw[ha];exact AC hok ho hL t ht
   have hu:execOp a.eval o=execOp ({ a0 with tmps:=lay (fun _=>true) y ops.toList 0 a0.tmps }:Act).eval o:=by
    refine execOp_congr o hw fun x hx => ?_;cases x with
    | tmp t=>
     have:=hf t (oG _ (Hl.2 ⟨.tmp t,by simpa using hx,rfl⟩));simp[Act.eval,this]
    | _=>rfl
   have d:Region.wanted o (yielded ops a.tmps)=Region.wanted o (yielded ops (lay (fun _=>true) y ops.toList 0 a0.tmps)):=by
    unfold Region.wanted;cases hg:o.guard with
    | none=>rfl
    | some gw=>
     obtain⟨g,want⟩:=gw;have:yielded ops a.tmps g=yielded ops (lay (fun _=>true) y ops.toList 0 a0.tmps) g:=by
      unfold yielded;cases hd:(ops[g]?).bind (·.dst) with
      | none=>rfl
      | some t=>
       have:=hf t (tC _ (by simp[hg,hd]));simp[this]
     simp only[this]
   have hs:=hstep i o him ho y w hb (fun j hj=>by
    obtain⟨e,he,hJ⟩:=iX.1 hj;have hC : e.on=j:=by simpa using hJ
    subst hC;have hD:=mX.1 he;exact hR e.on (by have:=(b e hD).2;omega) (hL e hD))
   by_cases hwt:Region.wanted o (yielded ops (lay (fun _=>true) y ops.toList 0 a0.tmps))=true
   ·rw[if_pos hwt] at hs;exact rD ho (by rw[d];exact hwt) hu hs fun v w' h=>z v w' h
   rw[if_neg hwt] at hs;unfold wpOp;simp only[ho];rw[if_neg (by rw[d];exact hwt)];exact z undef w hs
 refine hE ops.size _ _ _ (by simp) ?_ ⟨fun i _ => ?_,fun i o' n hi => ?_,fun _=>undef,?_,hb0,?_⟩
 ·simpa using xG (p:=(!·)) (l:=List.replicate ops.size false)
 ·simp[bN,qB];split<;>rfl
 ·exfalso;have:i<ops.size:=(ib.1 n).1;simp[bN,this] at hi
 ·have e:lay (fun i=>(Array.replicate ops.size false).getD i false) (fun _=>undef) ops.toList 0 a0.tmps=a0.tmps:=by apply lS;intro s;exact iL _ _ s _ 0 _ fun k o' hk hd=>by simp[bN,qB];split<;>rfl
  rw[e]
 intro i hi hL;exfalso;have:(Array.replicate ops.size false).getD i false=false:=by simp[bN,qB];split<;>rfl
 rw[this] at hL;cases hL
def Ed (P:Program) (ops:Array Oper) (a0:Act) (m:Nat) (l:List vV) (B:World→Prop) (i:Nat) (o:Oper):Prop:=
 ∀(ρ:Operand→Value) (y:Nat→Value) (w:World),(∀t j,writer ops t=some j→ρ (.tmp t)=y j)→(∀x,(match x with | .tmp t=>writer ops t=none | _=>True)→ρ x=a0.eval x) →
  B w→(∀j,o.after.toList.any (fun e=>e.on==j)=true→(ry l j).r y w) →
  if Region.wanted o (gI ρ ops)=true then dM P o ρ w (ww m l B i y w) else ww m l B i y w undef w
theorem Ox (m:Nat) (l:List vV) (B:World→Prop) (hbst:∀w w',Below w.heap.size w w'→B w→B w') (hok:jh ops=true) (ht:iD ops m=true) (hmn:m≤ops.size) (hon:QY ops m l=true) (hb0:B w0)
 (n:Nat) (hn:a0.tmps.size=n) (hsz:jQ ops n=true)
 (hstep:aW (Ed P ops a0 m l B) 0 (ops.toList.take m))
 (hend:∀y w,B w→(∀i,i<m→(ry l i).r y w)→wpList P ops Q (ops.toList.drop m) { a0 with tmps:=lay (fun i=>decide (i<m)) y ops.toList 0 a0.tmps } w) :
  wpAny P .any ops Q ops.size (Array.replicate ops.size false) a0 w0:=by
 refine BU m l B hbst hok ht hmn hon hb0 (fun i o z hi y w hb hd => ?_) hend;have f:∀t j,writer ops t=some j→({ a0 with tmps:=lay (fun _=>true) y ops.toList 0 a0.tmps }:Act).eval (.tmp t)=y j:=by
  intro t j hw;unfold writer at hw;have h1:=qo hw;have h2:=dE.1 (tZ hw);cases ho:ops[j]? with
  | none=>simp[ho] at h1
  | some p=>
   have a : p.dst=some t:=by simpa[ho] using h1
   have u:t<a0.tmps.size:=by have:=dK.1 hsz p (mX.2 (yZ ho));rw[hn];simpa[a] using this
   have hu:∀k' o',ops.toList[k']?=some o'→o'.dst=some t→k' = j:=by
    intro k' o' b hc;rcases ((gu hok (i:=k') (o:=o') (by simpa using b)).2.2 j p t ho a).1 with h|h
    ·exact h
    ·exact absurd hc h
   have:=lD (fun _=>true) y t ops.toList 0 a0.tmps j p (by simpa using ho) a rfl hu u;simp[Act.eval,this]
 have s:∀x,(match x with | .tmp t=>writer ops t=none | _=>True)→({ a0 with tmps:=lay (fun _=>true) y ops.toList 0 a0.tmps }:Act).eval x=a0.eval x:=by
  intro x hx;cases x with
  | tmp t=>
   have:(lay (fun _=>true) y ops.toList 0 a0.tmps)[t]?=a0.tmps[t]?:=by
    refine iL _ y t _ 0 _ fun k o' hk a => ?_;exfalso;simp only[writer] at hx;have b : ops[k]?=some o':=by simpa using hk
    have e:k<ops.size:=(ib.1 b).1;have:=oC.1 hx k (dE.2 e);simp[b,a] at this
   simp[Act.eval,this]
  | _=>rfl
 have c:Region.wanted o (yielded ops (lay (fun _=>true) y ops.toList 0 a0.tmps))=Region.wanted o (gI ({ a0 with tmps:=lay (fun _=>true) y ops.toList 0 a0.tmps }:Act).eval ops):=by
  congr 1;funext g;unfold yielded gI;cases (ops[g]?).bind (·.dst) with
  | none=>rfl
  | some d=>
   simp only[zO,Act.eval,bN];generalize (lay (fun _=>true) y ops.toList 0 a0.tmps)[d]?=q;cases q with
   | none=>rfl
   | some v=>cases v<;>rfl
 have ha : (ops.toList.take m)[i]?=some o:=by rw[mh,if_pos z];simpa using hi
 have:=aW.at hstep i o ha _ y w f s hb hd;rw[eu] at this;rw[c];exact this
theorem SN (m:Nat) (l:List vV) (B:World→Prop) (hbst:∀w w',Below w.heap.size w w'→B w→B w') (hb0:B w0) (hm:P.follows .mixedOrders=true)
 (ops' : Array Oper) (hs:bU ops=ops') (hok:jh ops' = true) (ht:iD ops' m=true) (hmn:m≤ops'.size) (hon:QY ops' m l=true)
 (n:Nat) (hn:a0.tmps.size=n) (hsz:jQ ops' n=true)
 (hstep:aW (Ed P ops' a0 m l B) 0 (ops'.toList.take m))
 (hend:∀y w,B w→(∀i,i<m→(ry l i).r y w)→wpList P ops' Q (ops'.toList.drop m) { a0 with tmps:=lay (fun i=>decide (i<m)) y ops'.toList 0 a0.tmps } w) :
  (Code.region id ops true).wp P Q a0 w0:=by
 refine wp_region_any hm (xR _ _ _ _ ?_);subst hs;have h2:B { w0 with drawn:=w0.drawn+1 }:=hbst w0 _ ⟨rfl,rfl,rfl,ay _,fun _ _=>rfl⟩ hb0;have:=Ox m l B hbst hok ht hmn hon h2 n hn hsz hstep hend;rw[vo] at this;exact this
theorem QW (y:Nat→Value) (i:Nat) (v:Value):upd y i v i=v:=by unfold upd;rw[if_pos rfl]
theorem oV {m:Nat} {l:List vV} {B:World→Prop} (hbst:∀w w',Below w.heap.size w w'→B w→B w') (hB:B w) (hb:Below w.heap.size w w') (hR:(ry l i).r (upd y i v) w'):ww m l B i y w v w':=
 ⟨hbst _ _ hb hB,hR,fun k _ _ h=>(ry l k).st _ _ _ hb h⟩
theorem lZ {m:Nat} {l:List vV} {B:World→Prop} (hbst:∀w w',Below w.heap.size w w'→B w→B w') (hB:B w) (R:mg) (hR:∀v w',R.r v w'→(ry l i).r (upd y i v) w')
 (h:if Region.wanted o (gI ρ ops)=true then dM P o ρ w (fun v w'=>Below w.heap.size w w'∧rl (List.replicate (i+1) R) i v w') else rl (List.replicate (i+1) R) i undef w) :
  if Region.wanted o (gI ρ ops)=true then dM P o ρ w (ww m l B i y w) else ww m l B i y w undef w:=by
 have e:∀v w,rl (List.replicate (i+1) R) i v w=R.r v w:=by intro v w;unfold rl;rw[aS,nI,if_pos (by omega)];rfl
 simp only[e] at h
 by_cases hw:Region.wanted o (gI ρ ops)=true
 ·rw[if_pos hw] at h ⊢;unfold dM at h ⊢;generalize (execOp ρ o).run P w=q at h ⊢;cases q with
  | ok n w'=>
   cases n with
   | value v=>exact oV hbst hB h.1 (hR _ _ h.2)
   | skip=>exact oV hbst hB h.1 (hR _ _ h.2)
   | enter f args=>
    refine xK h fun e w'' he => ?_;cases e
    case returned v=>exact oV hbst hB he.1 (hR _ _ he.2)
    all_goals exact he
   | _=>exact h
  | halt x w'=>exact h
 rw[if_neg hw] at h ⊢;exact oV hbst hB (Below.refl _ _) (hR _ _ h)
def ky (B:Nat) (T:TypeId) (n:Nat):mg:=⟨fun v w => ∃g cs,v = .pointer (some ⟨g,0,none⟩)∧B≤g∧aB w g cs T∧cs.size=n,fun _ _ _ hb ⟨g,cs,h1,h2,h3,h4⟩=>⟨g,cs,h1,h2,h3.ext hb,h4⟩⟩
theorem pM (h:(ky B T n).r v w) (hg:aB w' g cs T') (hsz:T=T'→cs.size=n) (hold:∃cur,aB w g cur T') (hgr:w.grownBy w' (some g)):(ky B T n).r v w':=by
 obtain⟨g',cs',h1,h2,h3,h4⟩:=h
 by_cases e:g' = g
 ·subst e;obtain⟨cur,hc⟩:=hold;have e2:T=T':=by unfold aB at h3 hc;rw[hc] at h3;simp only[iY,rX] at h3;exact h3.2.1.symm
  subst e2;exact⟨g',cs,h1,h2,hg,hsz rfl⟩
 ·exact⟨g',cs',h1,h2,h3.grown hgr (fun e2=>e (aJ e2).symm),h4⟩
theorem qY {m:Nat} {l:List vV} {B:World→Prop} (hw:Region.wanted o (gI ρ ops)=true) (ty:TypeId) (x z:Operand) (ho:o.op = .store ty x z)
 (g off:Nat) (v:Value) (cells:List Value) (hx:ρ x = .pointer (some ⟨g,off,none⟩)) (hz:ρ z=v) (hc:v.cells.toList=cells) (cur:Array Value) (T:TypeId) (hg:aB w g cur T)
 (hfit:off+cells.length≤cur.size) (hi:(P.info? ty).map (·.size)=some cells.length) (h1:∀u∈cells,u.oneCell' = true)
 (h:∀w',aB w' g (bB cur off cells) T→w.grownBy w' (some g)→ww m l B i y w undef w') :
  if Region.wanted o (gI ρ ops)=true then dM P o ρ w (ww m l B i y w) else ww m l B i y w undef w:=by
 rw[if_pos hw];have a:=run_storeCells_cells (P:=P) g off cells 0 w
  (fun j hj=>by rw[iq,hg.cell];simp[show off+j<cur.size by omega]) (fun j hj=>hg.free _) h1
 simp only[iq] at a;have b:(storeVar ty ⟨g,off,none⟩ v).run P w = .ok () (w.setCells g off cells):=by
  cases hq:P.info? ty with
  | none=>simp[hq] at hi
  | some i=>
   have hs:i.size=cells.length:=by simpa[hq] using hi
   have hv:v.cells.size=cells.length:=by rw[←hc];simp
   simp[storeVar,Go.sizeOf,typeInfo,hq,hs,hv,hc,a]
 unfold dM execOp;simp only[ho,hx,hz,Instr.storeAt,Instr.sureAddr,kC,rU,rM,b];exact h _ (hg.setCells _ _) (aG _ _ _ _)
inductive TF where
 | v (V:Value)
 | r (i:Nat) (R:mg)
 | y (i:Nat) (R:vV)
def rvyN:TF:=.r 0 anyR
def rvyR:List TF→Nat→List vV
 | [],_=>[]
 | .v V::l,i=>WN i (ul V)::rvyR l (i+1)
 | .r _ R::l,i=>WN i R::rvyR l (i+1)
 | .y _ R::l,i=>R::rvyR l (i+1)
def toRV:List TF→List RV
 | []=>[]
 | .v V::l => .v V::toRV l
 | .r i _::l => .r i anyR::toRV l
 | .y i _::l => .r i anyR::toRV l
theorem rvy_at:∀(l:List TF) (i k:Nat) {V:Value},l.getD i rvyN = .v V→(rvyR l k).getD i anyY=WN (k+i) (ul V)∧(toRV l).getD i rvN = .v V
 | [],_,_,_,h=>by cases h
 | a::l,0,k,V,h=>by have h' : a = .v V:=h;subst h';exact⟨rfl,rfl⟩
 | a::l,i+1,k,V,h=>by have:=rvy_at l i (k+1) (V:=V) (by simpa using h);rw[show k+(i+1)=k+1+i by omega];cases a<;>exact⟨by simpa[rvyR] using this.1,by simpa[toRV] using this.2⟩
theorem rvy_rl:∀(l:List TF) (j k:Nat) {y:Nat→Value} {w:World},((rvyR l k).getD j anyY).r y w→rl (rvs (toRV l)) j (y (k+j)) w
 | [],_,_,_,_,_=>by unfold rl toRV rvs;simp[anyR]
 | a::l,0,k,y,w,h=>by
  cases a with
  | v V=>exact h
  | r i R=>exact trivial
  | y i R=>exact trivial
 | a::l,j+1,k,y,w,h=>by
  have h' : ((rvyR l (k+1)).getD j anyY).r y w:=by cases a<;>simpa[rvyR] using h
  have:=rvy_rl l j (k+1) h';rw[show k+(j+1)=k+1+j by omega];unfold rl at this ⊢;cases a<;>simpa[toRV,rvs] using this
section
variable {P:Program} {ops:Array Oper} {a0:Act} {m:Nat} {l:List TF} {B:World→Prop} {i:Nat} {o:Oper} {r:List Oper}
theorem yL (hbst:∀w w',Below w.heap.size w w'→B w→B w') (hv:l.getD i rvyN = .v V)
 (h:∀ρ y w,B w→Kn ops a0 (toRV l) o ρ y w→(Region.wanted o (gI ρ ops)=false∧V=undef)∨(Region.wanted o (gI ρ ops)=true∧(execOp ρ o).run P w = .ok (.value V) w)):Ed P ops a0 m (rvyR l 0) B i o:=fun ρ y w hw hn hB hd=>by
 have hk:Kn ops a0 (toRV l) o ρ y w:=⟨hw,hn,fun j hj=>by have:=rvy_rl l j 0 (hd j hj);rwa [eu] at this⟩;have e:∀w',(ry (rvyR l 0) i).r (upd y i V) w':=fun w'=>by unfold ry;rw[(rvy_at l i 0 hv).1,eu];exact QW _ _ _
 rcases h ρ y w hB hk with ⟨h1,h2⟩|⟨h1,h2⟩
 ·rw[if_neg (by rw[h1];exact Bool.false_ne_true),←h2];exact oV hbst hB (Below.refl _ _) (e w)
 rw[if_pos h1];unfold dM;rw[h2];exact oV hbst hB (Below.refl _ _) (e w)
theorem yQ.runY (hv:l.getD i rvyN = .v V) (h:yQ P ops a0 (toRV l) i o):∀ρ y w,Kn ops a0 (toRV l) o ρ y w→(Region.wanted o (gI ρ ops)=false∧V=undef)∨(Region.wanted o (gI ρ ops)=true∧(execOp ρ o).run P w = .ok (.value V) w):=fun ρ y w hk=>by
 have e:∀v w,rl (rvs (toRV l)) i v w→v=V:=fun v w hr=>by unfold rl at hr;rw[rvs_at,(rvy_at l i 0 hv).2] at hr;exact hr
 rcases h ρ y w hk with ⟨h1,h2⟩|⟨h1,v,h2,h3⟩
 ·exact .inl ⟨h1,(e _ _ h2).symm⟩
 ·exact .inr ⟨h1,by rw[←e _ _ h3];exact h2⟩
abbrev AY (P:Program) (ops:Array Oper) (a0:Act) (m:Nat) (l:List TF) (B:World→Prop) (i:Nat) (r:List Oper):Prop:=aW (Ed P ops a0 m (rvyR l 0) B) i r
theorem UY (hbst:∀w w',Below w.heap.size w w'→B w→B w') (hv:l.getD i rvyN = .v V) (h:yQ P ops a0 (toRV l) i o):Ed P ops a0 m (rvyR l 0) B i o:=yL hbst hv fun ρ y w _ hk=>h.runY hv ρ y w hk
theorem Yk (hbst:∀w w',Below w.heap.size w w'→B w→B w') (h:(ks ops a0 (toRV l) o).map TF.v=some (l.getD i rvyN)) (hl:AY P ops a0 m l B (i+1) r):AY P ops a0 m l B i (o::r):=by
 cases hk:ks ops a0 (toRV l) o with
 | none=>rw[hk] at h;cases h
 | some V=>
  rw[hk] at h;have hv:=(aJ h).symm;exact⟨UY hbst hv (UV hk (rvy_at l i 0 hv).2),hl⟩
theorem Yf (hbst:∀w w',Below w.heap.size w w'→B w→B w') (b k:Nat) (h:WE ops a0 (toRV l) o=some (t,v,f)) (hv:l.getD i rvyN = .v (.pointer (some ⟨b,k,none⟩))) (hl:AY P ops a0 m l B (i+1) r) (hf:∀w,(Instr.fieldAt t v f).run P w = .ok (.pointer (some ⟨b,k,none⟩)) w:=by intro _;kernel_rfl):AY P ops a0 m l B i (o::r):=
 ⟨(MK (C:=fun i o=>yQ P ops a0 (toRV l) i o) (r:=[]) id b k h (rvy_at l i 0 hv).2 trivial hf).1 |> UY hbst hv,hl⟩
theorem Yr (hbst:∀w w',Below w.heap.size w w'→B w→B w') (V:Value) (h:∀ρ y w,B w→Kn ops a0 (toRV l) o ρ y w→(execOp ρ o).run P w = .ok (.value V) w) (hg:kg ops a0 (toRV l) o=some true) (hv:l.getD i rvyN = .v V) (hl:AY P ops a0 m l B (i+1) r):AY P ops a0 m l B i (o::r):=
 ⟨yL hbst hv fun ρ y w hB hk => .inr ⟨Ef hg hk,h ρ y w hB hk⟩,hl⟩
theorem Yc (hbst:∀w w',Below w.heap.size w w'→B w→B w') (V:Value) (hc:∀w,B w→w.cell? ⟨b,k,none⟩=some V) (hg:kg ops a0 (toRV l) o=some true) (ho:o.op = .load t x) (hx:kx ops a0 (toRV l) o x=some (.pointer (some ⟨b,k,none⟩))) (hv:l.getD i rvyN = .v V) (hl:AY P ops a0 m l B (i+1) r) (hs:WB P t=true:=by kernel_rfl):AY P ops a0 m l B i (o::r):=
 ⟨yL hbst hv fun ρ y w hB hk => .inr ⟨Ef hg hk,run_load ho (aF hx hk) (by simp only[Instr.loadAt,Instr.sureAddr,kC,rU,rM,qP hs (hc w hB)])⟩,hl⟩
end
theorem toRV_len:∀l:List TF,(toRV l).length=l.length
 | []=>rfl
 | a::l=>by cases a<;>simp[toRV,toRV_len l]
theorem gJ :∀w w',Below w.heap.size w w'→Below w0.heap.size w0 w→Below w0.heap.size w0 w':=fun _ _ h h2=>ae h2 h
theorem nu {df:List Deferred} (m:Nat) (l:List TF) (B:World→Prop) (hbst:∀w w',Below w.heap.size w w'→B w→B w') (hb0:B w0)
 (hstep:AY P (bU ops) ⟨t0,df⟩ m l B 0 ((bU ops).toList.take m)) {tm:(Nat→Value)→List Value} (hf:∀y,yz y (toRV l) (bU ops).toList t0.toList=some (tm y)) (hd:wr ((bU ops).toList.drop m)=some rest)
 (hend:∀y w,B w→(∀i,i<m→(ry (rvyR l 0) i).r y w)→wpList P (bU ops) Q rest ⟨(tm y).toArray,df⟩ w)
 (hm:P.follows .mixedOrders=true:=by kernel_rfl) (hok:jh (bU ops)=true:=by kernel_rfl) (ht:iD (bU ops) m=true:=by kernel_rfl) (hmn:m≤(bU ops).size:=by decide) (hon:QY (bU ops) m (rvyR l 0)=true:=by kernel_rfl) (hll:l.length=m:=by rfl) (hix:idxOk (toRV l) 0=true:=by kernel_rfl)
 (hsz:jQ (bU ops) t0.size=true:=by kernel_rfl):(Code.region id ops true).wp P Q ⟨t0,df⟩ w0:=by
 refine SN m (rvyR l 0) B hbst hb0 hm (bU ops) rfl hok ht hmn hon _ rfl hsz hstep fun y w hb hR => ?_;have h:=hend y w hb hR;rw[Ny hd];have e:=xO (m:=m) (y:=y) (w:=w) (toRV l) (bU ops).toList 0 t0 hix (by rw[toRV_len,hll,eu]) (by rw[toRV_len,hll,iI];exact hmn) fun i hi=>by have:=rvy_rl l i 0 (hR i (by rw[toRV_len,hll] at hi;exact hi));rw[eu] at this ⊢;exact this
 show wpList P (bU ops) Q rest ⟨lay (fun i=>decide (i<m)) y (bU ops).toList 0 t0,df⟩ w;have e2:=aJ (e.symm.trans (hf y));have e3:lay (fun i=>decide (i<m)) y (bU ops).toList 0 t0=(tm y).toArray:=by rw[←e2]
 rw[e3];exact h
theorem dM.mono {F G:Value→World→Prop} (h:dM P o ρ w F) (hFG:∀v w',F v w'→G v w'):dM P o ρ w G:=by
 unfold dM at h ⊢;generalize (execOp ρ o).run P w=r at h ⊢;cases r with
 | ok n w'=>
  cases n with
  | value v=>exact hFG _ _ h
  | skip=>exact hFG _ _ h
  | enter f args=>
   refine xK h fun e w'' he => ?_;cases e with
   | returned v=>exact hFG _ _ he
   | panicked c=>exact he.elim
   | outgrown=>exact he.elim
  | _=>exact h.elim
 | halt x w'=>exact h.elim
def FZ (R:Nat→Value→World→Prop) (p q i:Nat) (v:Value) (w:World):Prop:=(i=p→∀u,R q u w→v≠u)∧(i=q→∀u,R p u w→v≠u)
theorem IX (m p q:Nat) (hpm:p<m) (hqm:q<m) (hpq:p≠q) (hok:jh ops=true) (ht:iD ops m=true) (hmn:m≤ops.size)
 (R:Nat→Value→World→Prop) (hstab:∀i v w w',Below w.heap.size w w'→R i v w→R i v w')
 (hstep:∀i o,i<m→ops[i]?=some o→∀y w,Below w0.heap.size w0 w→(∀j,o.after.toList.any (fun e=>e.on==j)=true→R j (y j) w) →
 if Region.wanted o (yielded ops (lay (fun _=>true) y ops.toList 0 a0.tmps))=true then Gives P o { a0 with tmps:=lay (fun _=>true) y ops.toList 0 a0.tmps } w (fun v w'=>(Below w.heap.size w w'∧R i v w')∧FZ R p q i v w) else R i undef w∧i≠p∧i≠q)
 (hend:∀y w,Below w0.heap.size w0 w→(∀i,i<m→R i (y i) w)→y p≠y q→wpList P ops Q (ops.toList.drop m) { a0 with tmps:=lay (fun i=>decide (i<m)) y ops.toList 0 a0.tmps } w) :
  Below w0.heap.size w0 { w0 with drawn:=w0.drawn+1 }→wpAny P .any ops Q ops.size (Array.replicate ops.size false) a0 { w0 with drawn:=w0.drawn+1 }:=
 fun _=>AV m hok ht hmn (fun _ _ _=>True) (fun L y w=>(Below w0.heap.size w0 w∧∀i,L i=true→R i (y i) w)∧(L p=true→L q=true→y p≠y q)) (fun y=>⟨⟨⟨rfl,rfl,rfl,ay _,fun _ _=>rfl⟩,fun i h=>(by cases h)⟩,fun h=>(by cases h)⟩) (fun _ _ _ _ _=>trivial) (fun i o hi ho L y w hL hd hJ _=>by
  have h:=hstep i o hi ho y w hJ.1.1 (fun j hj=>hJ.1.2 j (hd j hj));have hup:∀v w',Below w.heap.size w w'→R i v w'→Below w0.heap.size w0 w'∧∀k,cO L i k=true→R k (dG y i v k) w':=fun v w' hb hr=>⟨ae hJ.1.1 hb,fun k hk=>NA hJ.1.2 hr (fun k v h=>hstab k v _ _ hb h) k hk⟩;split at h
  ·rename_i hw;rw[if_pos hw];refine DU h fun v w' hh=>⟨⟨hup v w' hh.1.1 hh.1.2,fun hp hq => ?_⟩,trivial⟩;unfold cO at hp hq;unfold dG
   by_cases e1:p=i
   ·rw[if_pos e1,if_neg (fun e2=>hpq (e1.trans e2.symm))];rw[if_neg (fun e2=>hpq (e1.trans e2.symm))] at hq;exact hh.2.1 e1.symm _ (hJ.1.2 q hq)
   rw[if_neg e1] at hp ⊢
   by_cases e2:q=i
   ·rw[if_pos e2];exact fun e=>hh.2.2 e2.symm _ (hJ.1.2 p hp) e.symm
   rw[if_neg e2] at hq ⊢;exact hJ.2 hp hq
  rename_i hw;rw[if_neg hw];refine⟨⟨hup undef w (Below.refl _ _) h.1,fun hp hq => ?_⟩,trivial⟩;unfold cO at hp hq;unfold dG;rw[if_neg (fun e=>h.2.1 e.symm)] at hp ⊢;rw[if_neg (fun e=>h.2.2 e.symm)] at hq ⊢;exact hJ.2 hp hq) (fun y w hJ _=>hend y w hJ.1.1 (fun i hi=>hJ.1.2 i (decide_eq_true hi)) (hJ.2 (decide_eq_true hpm) (decide_eq_true hqm)))
def Si (P:Program) (ops:Array Oper) (a0:Act) (w0:World) (l:List mg) (p q i:Nat) (o:Oper):Prop:=
 ∀(ρ:Operand→Value) (y:Nat→Value) (w:World),(∀t j,writer ops t=some j→ρ (.tmp t)=y j)→(∀x,(match x with | .tmp t=>writer ops t=none | _=>True)→ρ x=a0.eval x) →
  Below w0.heap.size w0 w→(∀j,o.after.toList.any (fun e=>e.on==j)=true→rl l j (y j) w) →
  if Region.wanted o (gI ρ ops)=true then dM P o ρ w (fun v w'=>(Below w.heap.size w w'∧rl l i v w')∧FZ (rl l) p q i v w) else rl l i undef w∧i≠p∧i≠q
theorem ui {l:List mg} (hp:i≠p) (hq:i≠q) (h:nG P ops a0 w0 l i o):Si P ops a0 w0 l p q i o:=by
 intro ρ y w h1 h2 h3 h4;have:=h ρ y w h1 h2 h3 h4;split at this
 ·rename_i hw;rw[if_pos hw];exact dM.mono this fun v w' hv=>⟨hv,fun e=>absurd e hp,fun e=>absurd e hq⟩
 rename_i hw;rw[if_neg hw];exact⟨this,hp,hq⟩
theorem RI (m p q:Nat) (l:List mg) (hm:P.follows .mixedOrders=true) (hpm:p<m) (hqm:q<m) (hpq:p≠q)
 (ops' : Array Oper) (hs:bU ops=ops') (hok:jh ops' = true) (ht:iD ops' m=true) (hmn:m≤ops'.size)
 (n:Nat) (hn:a0.tmps.size=n) (hsz:jQ ops' n=true)
 (hstep:aW (Si P ops' a0 w0 l p q) 0 (ops'.toList.take m))
 (hend:∀y w,Below w0.heap.size w0 w→(∀i,i<m→rl l i (y i) w)→y p≠y q→wpList P ops' Q (ops'.toList.drop m) { a0 with tmps:=lay (fun i=>decide (i<m)) y ops'.toList 0 a0.tmps } w) :
  (Code.region id ops true).wp P Q a0 w0:=by
 refine wp_region_any hm (xR _ _ _ _ ?_);subst hs;have:=IX m p q hpm hqm hpq hok ht hmn (rl l) (fun i v w w' hb h=>(l.getD i anyR).st v w w' hb h) (P:=P) (Q:=Q) (a0:=a0) (w0:=w0) (fun i o u hi y w hb hd => ?_) hend ⟨rfl,rfl,rfl,ay _,fun _ _=>rfl⟩
 ·rw[vo] at this;exact this
 have f:∀t j,writer (bU ops) t=some j→({ a0 with tmps:=lay (fun _=>true) y (bU ops).toList 0 a0.tmps }:Act).eval (.tmp t)=y j:=by
  intro t j hw;unfold writer at hw;have h1:=qo hw;have h2:=dE.1 (tZ hw);cases ho:(bU ops)[j]? with
  | none=>simp[ho] at h1
  | some p=>
   have a : p.dst=some t:=by simpa[ho] using h1
   have s:t<a0.tmps.size:=by have:=dK.1 hsz p (mX.2 (yZ ho));rw[hn];simpa[a] using this
   have hu:∀k' o',(bU ops).toList[k']?=some o'→o'.dst=some t→k' = j:=by
    intro k' o' b ha;rcases ((gu hok (i:=k') (o:=o') (by simpa using b)).2.2 j p t ho a).1 with h|h
    ·exact h
    ·exact absurd ha h
   have:=lD (fun _=>true) y t (bU ops).toList 0 a0.tmps j p (by simpa using ho) a rfl hu s;simp[Act.eval,this]
 have r:∀x,(match x with | .tmp t=>writer (bU ops) t=none | _=>True)→({ a0 with tmps:=lay (fun _=>true) y (bU ops).toList 0 a0.tmps }:Act).eval x=a0.eval x:=by
  intro x hx;cases x with
  | tmp t=>
   have:(lay (fun _=>true) y (bU ops).toList 0 a0.tmps)[t]?=a0.tmps[t]?:=by
    refine iL _ y t _ 0 _ fun k o' hk a => ?_;exfalso;simp only[writer] at hx;have b : (bU ops)[k]?=some o':=by simpa using hk
    have e:k<(bU ops).size:=(ib.1 b).1;have:=oC.1 hx k (dE.2 e);simp[b,a] at this
   simp[Act.eval,this]
  | _=>rfl
 have c:Region.wanted o (yielded (bU ops) (lay (fun _=>true) y (bU ops).toList 0 a0.tmps))=Region.wanted o (gI ({ a0 with tmps:=lay (fun _=>true) y (bU ops).toList 0 a0.tmps }:Act).eval (bU ops)):=by
  congr 1;funext g;unfold yielded gI;cases ((bU ops)[g]?).bind (·.dst) with
  | none=>rfl
  | some d=>
   simp only[zO,Act.eval,bN];generalize (lay (fun _=>true) y (bU ops).toList 0 a0.tmps)[d]?=q;cases q with
   | none=>rfl
   | some v=>cases v<;>rfl
 have z : ((bU ops).toList.take m)[i]?=some o:=by rw[mh,if_pos u];simpa using hi
 have:=aW.at hstep i o z _ y w f r hb hd;rw[eu] at this;rw[c];exact this
theorem JZ {l:List mg} (hp:∀u,rl l q u w→∃g cs T,u = .pointer (some ⟨g,0,none⟩)∧aB w g cs T) (hq:∀u,rl l p u w→∃g cs T,u = .pointer (some ⟨g,0,none⟩)∧aB w g cs T):FZ (rl l) p q i (.pointer (some ⟨w.heap.size,0,none⟩)) w:=by
 refine⟨fun _ u hu e => ?_,fun _ u hu e => ?_⟩
 ·obtain⟨g,cs,T,rfl,hb⟩:=hp u hu;have:=hb.lt;injection e with e;have e:=aJ e;injection e with e1;omega
 obtain⟨g,cs,T,rfl,hb⟩:=hq u hu;have:=hb.lt;injection e with e;have e:=aJ e;injection e with e1;omega
theorem SQ (m:Nat) (l:List mg) (J:(Nat→Bool)→(Nat→Value)→World→Prop) (hst:∀L y w w',Below w.heap.size w w'→J L y w→J L y w') (hJ0:∀y,J (fun _=>false) y w0) (hfix:Fixed l) (hm:P.follows .mixedOrders=true) (ops' : Array Oper) (hs:bU ops=ops') (hok:jh ops' = true) (ht:iD ops' m=true) (hmn:m≤ops'.size)
 (n:Nat) (hn:a0.tmps.size=n) (hsz:jQ ops' n=true)
 (hstep:aW (mo P ops' a0 J l) 0 (ops'.toList.take m))
 (hend:∀y w,J (fun i=>decide (i<m)) y w→(∀i,i<m→rl l i (y i) w)→wpList P ops' Q (ops'.toList.drop m) { a0 with tmps:=lay (fun i=>decide (i<m)) y ops'.toList 0 a0.tmps } w) :
  (Code.region id ops true).wp P Q a0 w0:=by
 refine wp_region_any hm (xR _ _ _ _ ?_);have h9:=Gw m l J hst hJ0 hfix hok ht hmn n hn hsz hstep hend;subst hs;rw[vo] at h9;exact h9
theorem nA {df:List Deferred} (m:Nat) (l:List RV) (J:(Nat→Bool)→(Nat→Value)→World→Prop) (hst:∀L y w w',Below w.heap.size w w'→J L y w→J L y w') (hJ0:∀y,J (fun _=>false) y w0)
 (hstep:aW (mo P (bU ops) ⟨t0,df⟩ J (rvs l)) 0 ((bU ops).toList.take m)) {tm:(Nat→Value)→List Value} (hf:∀y,yz y l (bU ops).toList t0.toList=some (tm y)) (hd:wr ((bU ops).toList.drop m)=some rest)
 (hend:∀y w,J (fun i=>decide (i<m)) y w→(∀i,i<m→rl (rvs l) i (y i) w)→wpList P (bU ops) Q rest ⟨(tm y).toArray,df⟩ w)
 (hfix:Fixed (rvs l):=by repeat (first | exact fix_nil | refine JQ (fun _ _ _ h=>h) ?_))
 (hm:P.follows .mixedOrders=true:=by kernel_rfl) (hok:jh (bU ops)=true:=by kernel_rfl) (ht:iD (bU ops) m=true:=by kernel_rfl) (hmn:m≤(bU ops).size:=by decide) (hll:l.length=m:=by rfl) (hix:idxOk l 0=true:=by kernel_rfl)
 (hsz:jQ (bU ops) t0.size=true:=by kernel_rfl):(Code.region id ops true).wp P Q ⟨t0,df⟩ w0:=by
 refine SQ m (rvs l) J hst hJ0 hfix hm (bU ops) rfl hok ht hmn _ rfl hsz hstep fun y w hb hR => ?_;have h:=hend y w hb hR;rw[Ny hd];show wpList P (bU ops) Q rest ⟨lay (fun i=>decide (i<m)) y (bU ops).toList 0 t0,df⟩ w;rw[Pi hix hll hmn hR (hf y)];exact h
end Pw
namespace Go.Proofs.YtjkkoeijlhfneaaGreat
open _root_.Go.Proofs.Tryz
open Go.RowKit Go.Maps Pw
variable {L:Nat → Bool} {P:Program} {Q:Exit → Act → World → Prop} {a:Option Addr} {b i n:Nat} {l:List Int} {o op:Oper} {ops:Array Oper} {rest:List Oper} {v:Value} {vs:List Value} {w w':World} {y:Nat → Value} {ρ:Operand → Value}
theorem sD (ty:TypeId) (x y:Operand) (ho:op.op = .store ty x y)
 (b o:Nat) (v:Value) (cells:List Value) (hx:ρ x = .pointer (some ⟨b,o,none⟩)) (hy:ρ y=v) (hc:v.cells.toList=cells) (cur:Array Value) (T:TypeId) (hg:aB w b cur T)
 (hfit:o+cells.length≤cur.size) (hi:(P.info? ty).map (·.size)=some cells.length) (h1:∀u∈cells,u.oneCell' = true):(execOp ρ op).run P w = .ok .skip (w.setCells b o cells):=by
 have a:=run_storeCells_cells (P:=P) b o cells 0 w
  (fun j hj=>by rw[iq,hg.cell];simp[show o+j<cur.size by omega]) (fun j hj=>hg.free _) h1
 simp only[iq] at a;have c:(storeVar ty ⟨b,o,none⟩ v).run P w = .ok () (w.setCells b o cells):=by
  cases hq:P.info? ty with
  | none=>simp[hq] at hi
  | some i=>
   have hs:i.size=cells.length:=by simpa[hq] using hi
   have hv:v.cells.size=cells.length:=by rw[←hc];simp
   simp[storeVar,Go.sizeOf,typeInfo,hq,hs,hv,hc,a]
 unfold execOp;simp only[ho,hx,hy,Instr.storeAt,Instr.sureAddr,kC,rU,rM,c]
theorem nC {l:List mg} {J:(Nat→Bool)→(Nat→Value)→World→Prop} (hw:Region.wanted o (gI ρ ops)=true) (hrun:(execOp ρ o).run P w = .ok .skip w')
 (hJ:J (cO L i) (dG y i undef) w') (hR:rl l i undef w') :
  if Region.wanted o (gI ρ ops)=true then dM P o ρ w (fun v w'=>J (cO L i) (dG y i v) w'∧rl l i v w') else J (cO L i) (dG y i undef) w∧rl l i undef w:=by
 rw[if_pos hw];unfold dM;rw[hrun];exact⟨hJ,hR⟩
theorem int_info:(Tryz.prog.info? 3).map (fun i=>(i.zero,i.size,i.bytes))=some (some (.int .i64 0),1,8):=by kernel_rfl
theorem int_size:(Tryz.prog.info? 3).map (·.size)=some 1:=by kernel_rfl
theorem JO (l:List Int):(l.map fT).length=l.length*1:=by simp
theorem Kv (l:List Int):∀u∈l.map fT,u.oneCell' = true:=by
 intro u hu;obtain⟨_,_,rfl⟩:=gW.1 hu;rfl
theorem Vs (l:List Int) (k:Nat) (h:k<l.length):(l.map fT)[k]?=some (.int .i64 l[k]):=by simp[h,fT]
theorem jv (h:dP w a (l.map fT)) (k:Nat) (hk:k<l.length):∃b off,a=some ⟨b,off,none⟩∧w.cell? ⟨b,off+k,none⟩=some (.int .i64 l[k]):=by
 obtain⟨b,off,ha,hc⟩:=h.at (by simp;omega);exact⟨b,off,ha,hc _ _ (Vs l k hk)⟩
theorem int_key:Keyed Tryz.prog 3:=int_keyed underlying3
theorem Ml (w:World):(zeroValue 4).run Tryz.prog w = .ok (.bool false) w:=by kernel_rfl
theorem yC {H:Type} {x:Bool} {ps:List MemPlace} (h:plainElem (H:=H) Tryz.prog 4 v=some (.lit (.bool x),ps)):v = .bool x:=by
 unfold plainElem at h;rw[underlying4] at h;split at h<;>simp_all
def nV (w:World) (b n:Nat) (f:Int→Bool):Prop:=∃D:DataW Unit,w.ownsMap Tryz.prog 3 (plainElem Tryz.prog 4) b n D∧VR D f
theorem nV.made (w:World):nV (w.alloc (.map #[] 0)) w.heap.size 0 (fun _=>false):=⟨_,World.ownsMap_made (H:=Unit) w Tryz.prog 3 (plainElem Tryz.prog 4),VR.empty⟩
theorem nV.below {f:Int→Bool} (h:nV w b n f) (hb:Below w.heap.size w w'):nV w' b n f:=by
 obtain⟨D,h1,h2⟩:=h;exact⟨D,Nc h1 hb,h2⟩
theorem nV.look {f:Int→Bool} (h:nV w b n f) (j:Int) (hj : -9223372036854775808≤j∧j≤9223372036854775807):(Instr.lookup 203 (.map (some b)) (.int .i64 j) false).run Tryz.prog w = .ok (.bool (f j)) w:=by
 obtain⟨D,h0,hf⟩:=h;obtain⟨v,ps,h1,h2⟩:=h0.lookup int_key underlying203 (Ml w) (plainElem_bool underlying4 false) (keyOf_int_mk underlying3 (a:=j) (WalkArith.wf_i64 hj));rw[hf.at_ j] at h2;rw[yC h2] at h1;exact h1
theorem wP {a:Act} {f:Int→Bool} (hown:nV w b n f) (hn:n<1000000000) (hg:o.guard=none) (m x v:Operand) (hop:o.op=Op.mapUpdate 203 m x v)
 (hm:a.eval m = .map (some b)) (j:Int) (hx:a.eval x = .int .i64 j) (hv:a.eval v = .bool true) (hj : -9223372036854775808≤j∧j≤9223372036854775807)
 (hK:∀w',nV w' b (n+1) (fun i=>f i||decide (i=j))→w.grownBy w' (some b)→wpList Tryz.prog ops Q rest (a.put o.dst undef) w'):wpList Tryz.prog ops Q (o::rest) a w:=by
 obtain⟨D,h0,hf⟩:=hown;exact wpList_mapUpdate_own _ hg m x v 203 hop 3 4 int_key underlying203 _ b n D hm h0 (by unfold maxLen;omega) _ _ _ hx hv (keyOf_int_mk underlying3 (WalkArith.wf_i64 hj)) _ [] (plainElem_bool underlying4 true) fun w' h1 h2=>hK w' ⟨_,h1,hf.put j⟩ h2
theorem nV.rdv {f:Int→Bool} (h:nV w b n f) (hr:dP w a vs) (hg:w.grownBy w' (some b)):dP w' a vs:=by
 intro i u hi;obtain⟨b',off,ha,hc⟩:=hr i u hi;refine⟨b',off,ha,hg.cell hc ?_⟩;intro e;cases e;obtain⟨D,⟨es,clock,hb,_⟩,_⟩:=h;simp[World.cell?,hb] at hc
theorem WY (m:World→Prop) (h:∀W,Below w.heap.size w W→nV W w.heap.size 0 (fun _=>false)→m W):m (w.alloc (.map #[] 0)):=
 h _ ((Below.refl _ _).alloc (ay _) _) (nV.made w)
theorem byte_info:(Tryz.prog.info? 5).map (fun i=>(i.zero,i.size,i.bytes))=some (some (.int .u8 0),1,1):=by kernel_rfl
theorem Gv (n:Int) (w:World) (h:n≤9223372036854775807) :
  Calls Tryz.prog 133 #[.int .i64 n] w fun e w'=>e = .returned (.int .i64 (dW n))∧w=w':=by
 by_cases h0:n≤0
 ·go_enter func133,ntmps133;go_wp2;go_ret;exact⟨by simp[dW,h0],rfl⟩
 go_enter func133,ntmps133;go_wp2;go_ret;exact⟨aT (by unfold dW;rw[if_neg (by omega)]),rfl⟩
theorem yF (n:Int) (w:World) (h:n≤9223372036854775807) :
  Calls Tryz.prog 31 #[.int .i64 n] w fun e w'=>e = .returned (.int .i64 (dW n))∧w=w':=by
 by_cases h0:n≤0
 ·go_enter func31,ntmps31;go_wp2;go_ret;exact⟨by simp[dW,h0],rfl⟩
 go_enter func31,ntmps31;go_wp2
 all_goals
  go_ret;exact⟨aT (by unfold dW;rw[if_neg (by omega)];omega),rfl⟩
theorem byte_size:(Tryz.prog.info? 5).map (·.size)=some 1:=by kernel_rfl
end Go.Proofs.YtjkkoeijlhfneaaGreat