import Derived.Test.YtjkkoeijlhfneaaGreatS3
import Derived.BigQuiet
import Derived.Deep.OwnRows
import Derived.Deep.DeepCutAuto
import Derived.BigRegion
set_option linter.unusedSimpArgs false
set_option linter.unusedVariables false
set_option maxHeartbeats 4000000
set_option maxRecDepth 100000
namespace Go.Proofs.YtjkkoeijlhfneaaGreat
open _root_.Go.Proofs.Tryz
open Go.RowKit Go.Maps Pw
variable {P:Program} {T T' e t:TypeId} {X:Fr} {a:Option Addr} {b c f g i j k n p q:Nat} {cs cs':Array Value} {d:nT} {kd:Int} {l:List Int} {m m' m1:Ma} {o:Oper} {w:World} {x:Operand} {ρ:Operand → Value}
def dx (m:Ma) (p:Nat) (n:Int) (x:En):Ma:=setTb m p (setT (dR m p).tb n x)
theorem xZ {i:Int} {e:En} (h:e.k=0) (hk:kd≠0):qp (qW kd i e)=0:=by
 unfold qp qW
 rw[if_neg]
 simp only[Bool.and_eq_true,decide_eq_true_eq]
 intro h'; omega
theorem rV {i:Int} {e:En}:qp (qW kd i e)=if e.k=kd∧e.n=i then 1 else 0:=by
 unfold qp qW
 by_cases h:e.k=kd∧e.n=i
 ·rw[if_pos h,if_pos (by simp[h.1,h.2])]
 ·rw[if_neg h,if_neg]
  simp only[Bool.and_eq_true,decide_eq_true_eq]
  exact h
theorem Bp (h:Rt m) {j:Int} (hk:(ent m q j).k=1) (he:(ent m q j).n.toNat=f):0<cz m 1 f∧f<m.m.fs.length:=by
 have h3:=mR (m:=m) (p:=q) (n:=j) (by rw[hk];decide)
 have h5:=(bV _).1 (nX h.pt q j)
 have h4:=(uF (m:=m) (kd:=1) (i:=f) (by decide)).2 ⟨q,j,h3.1,h3.2,hk,by omega⟩
 obtain⟨g,_,hg⟩:=h.en q j (by rw[hk];decide)
 have:=hg.lt hk
 exact⟨h4,by omega⟩
theorem tF (h:Rt m) (hc:Co m) {n:Int} {x:En} {g:Pg} (hp:p<m.sp.length) (hn:0≤n∧n<64) (h0:(ent m p n).k=0) (hf:f<m.m.fs.length)
 (hxk:x.k=1) (hxn:x.n=f) (hX:dQ X=0) (hr:X.r=(aO m f).r+1)
 (hold:(aO m f).r≠0→X.f=(aO m f).f∧X.i=(aO m f).i∧X.p=(aO m f).p∧X.d=(aO m f).d)
 (hnew:(aO m f).r=0→X.f<0∧X.d=false)
 (hw:X.f<0→∀q j,(ent m q j).k=1→(ent m q j).n.toNat=f→(ent m q j).w=false)
 (hg:mi m p n=some g) (hfit:Jr X g x.w):Rt (dx (setFr m f X) p n x)∧Co (dx (setFr m f X) p n x):=by
 have hpt1:Pt (setFr m f X):=h.pt.setFr hX
 have hxE:eT x=0:=(bV x).2 (.inr (.inl ⟨hxk,by have:=((dB _).1 h.pt.fr).1;omega⟩))
 obtain⟨hs0,_,hpt⟩:=pq (k:=⟨setFr m f X,0⟩) (p:=p) (n:=n) (x:=x) hpt1 hn hxE
 have hp1:p<(setFr m f X).sp.length:=hp
 have hent:∀q j,ent (dx (setFr m f X) p n x) q j=if q=p∧j=n then x else ent m q j:=fun q j=>rf hp1 hs0 q j
 have hfr:∀y,aO (dx (setFr m f X) p n x) y=if y=f then X else aO m y:=fun y=>kN hf y
 have hlen:(dx (setFr m f X) p n x).m.fs.length=m.m.fs.length:=ku
 have hcnt:∀kd i,kd≠0→cz (dx (setFr m f X) p n x) kd i=cz m kd i+qp (qW kd i x):=fun kd i hk=>by
  have h1:=qG hp1 hs0 kd i
  have h2:qp (qW kd i (ent (setFr m f X) p n))=0:=xZ (e:=ent (setFr m f X) p n) h0 hk
  have h3:cz (setFr m f X) kd i=cz m kd i:=rfl
  unfold dx
  omega
 have hsk0:jk m (setFr m f X):=jk.of rfl
 have hsk:jk m (dx (setFr m f X) p n x):=hsk0.trans (jk.setTb (m:=setFr m f X) (p:=p) (t:=setT (dR (setFr m f X) p).tb n x))
 have hca:pX (dx (setFr m f X) p n x):=by
  refine⟨h.ca.file,fun c hcm => ?_,fun c hcm => ?_,h.ca.srt⟩
  ·rw[hlen];exact h.ca.lt c hcm
  ·have h1:=h.ca.fr c hcm
   rw[hfr]
   by_cases e:c.k.toNat=f
   ·rw[if_pos e]
    rw[e] at h1
    obtain⟨k1,k2,_⟩:=hold (by omega)
    exact⟨by omega,by omega,by omega⟩
   ·rw[if_neg e];exact h1
 refine⟨⟨hpt,h.trim,fun q hq => ?_,hca,fun q j hk => ?_,fun i hi => ?_,fun i hi hi0 => ?_,fun s hs => ?_⟩,⟨fun c hcm => ?_,fun c hcm hd => ?_,fun i hi hd => ?_⟩⟩
 ·rw[hsk.lv] at hq
  obtain⟨a1,a2⟩:=h.live q hq
  refine⟨by rw[hsk.ar];exact a1,fun j => ?_⟩
  rw[hent,if_neg]
  ·exact a2 j
  ·rintro⟨rfl,rfl⟩
   have:mi m q j=onA (dR m q).ar j:=rfl
   rw[this,a1] at hg
   cases hg
 ·have hpg:mi (dx (setFr m f X) p n x) q j=mi m q j:=by unfold mi;rw[hsk.ar]
  rw[hpg]
  rw[hent] at hk ⊢
  by_cases e:q=p∧j=n
  ·rw[if_pos e] at hk ⊢
   rw[e.1,e.2]
   refine⟨g,hg,fun hk2=>by omega,fun _=>by rw[hlen];omega,fun _ => ?_⟩
   rw[hfr,if_pos (by omega)]
   exact hfit
  ·rw[if_neg e] at hk ⊢
   obtain⟨y,hy,hyf⟩:=h.en q j hk
   refine⟨y,hy,hyf.sw,by rw[hlen];exact hyf.lt,fun hk1 => ?_⟩
   rw[hfr]
   by_cases e2:(ent m q j).n.toNat=f
   ·rw[if_pos e2]
    have h1:=hyf.fr hk1
    rw[e2] at h1
    have h2:=Bp h hk1 e2
    have h3:=h.cf f hf
    obtain⟨k1,k2,_,_⟩:=hold (by omega)
    obtain⟨f1,f2,f3,f4,f5⟩:=h1
    refine⟨by rw[k1,k2];exact f1,by rw[k1];exact f2,f3,by rw[k1];exact f4,fun hw1 hx0 => ?_⟩
    rw[hw hx0 q j hk1 e2] at hw1;cases hw1
   ·rw[if_neg e2];exact hyf.fr hk1
 ·have a1:rT (dx (setFr m f X) p n x) i=rT m i:=rfl
  rw[hfr,a1,hcnt 1 i (by decide),rV]
  have h3:=h.cf i (by rw[←hlen];exact hi)
  by_cases e:i=f
  ·subst e
   rw[if_pos rfl,if_pos ⟨hxk,hxn⟩,hr];omega
  ·rw[if_neg e,if_neg (fun h'=>e (by omega))];omega
 ·rw[hfr] at hi0
  by_cases e:i=f
  ·subst e
   rw[if_pos rfl] at hi0
   by_cases hr0:(aO m i).r=0
   ·have:=(hnew hr0).1;omega
   ·obtain⟨k1,_⟩:=hold hr0
    exact h.fc i hf (by omega)
  ·rw[if_neg e] at hi0
   exact h.fc i (by rw[←hlen];exact hi) hi0
 ·rw[hcnt 2 s (by decide),rV,if_neg (fun h'=>by omega)]
  exact h.cs s hs
 ·have h1:=h.ca.fr c hcm
  rw[hfr]
  by_cases e:c.k.toNat=f
  ·rw[if_pos e]
   rw[e] at h1
   obtain⟨_,_,k3,_⟩:=hold (by omega)
   rw[k3,←e];exact hc.tail c hcm
  ·rw[if_neg e];exact hc.tail c hcm
 ·have h1:=h.ca.fr c hcm
  rw[hfr] at hd ⊢
  by_cases e:c.k.toNat=f
  ·rw[if_pos e] at hd ⊢
   rw[e] at h1
   obtain⟨_,_,k3,k4⟩:=hold (by omega)
   rw[k3,←e]
   exact hc.clean c hcm (by rw[e,←k4];exact hd)
  ·rw[if_neg e] at hd ⊢; exact hc.clean c hcm hd
 ·rw[hfr] at hd ⊢
  by_cases e:i=f
  ·subst e
   rw[if_pos rfl] at hd ⊢
   by_cases hr0:(aO m i).r=0
   ·rw[(hnew hr0).2] at hd;cases hd
   ·obtain⟨k1,_,_,k4⟩:=hold hr0
    rw[k1];exact hc.anon i hf (by rw[←k4];exact hd)
  ·rw[if_neg e] at hd ⊢; exact hc.anon i (by rw[←hlen];exact hi) hd
theorem zz (h:Rt m) (hc:Co m) {n:Int} {s:Nat} {x:En} {g:Pg} (hp:p<m.sp.length) (hn:0≤n∧n<64) (h0:(ent m p n).k=0) (hs:s<m.sl.length)
 (hxk:x.k=2) (hxn:x.n=s) (hxw:x.w=false) (h1k:lV m s+1≤1000) (hd:aZ d=0) (hdl:d.blocks.length=m.sw.blocks.length) (hg:mi m p n=some g) (hsh:g.sh=false) :
  Rt (dx { setSl m s (lV m s+1) with sw:=d } p n x)∧Co (dx { setSl m s (lV m s+1) with sw:=d } p n x):=by
 have hb:=h.pt.slB s
 have hpt0:Pt (setSl m s (lV m s+1)):=h.pt.setSl (by omega) h1k
 have hpt1:Pt { setSl m s (lV m s+1) with sw:=d }:={ hpt0 with sw:=hd,swl:=by show d.blocks.length=_;rw[hdl];exact hpt0.swl }
 have hxE:eT x=0:=(bV x).2 (.inr (.inr ⟨hxk,by have:=gM h.pt.sl;omega,by have:=gM h.pt.sl;omega,hxw⟩))
 obtain⟨hs0,_,hpt⟩:=pq (k:=⟨{ setSl m s (lV m s+1) with sw:=d },0⟩) (p:=p) (n:=n) (x:=x) hpt1 hn hxE
 have hp1:p<({ setSl m s (lV m s+1) with sw:=d }:Ma).sp.length:=hp
 generalize hm1:({ setSl m s (lV m s+1) with sw:=d }:Ma)=m1 at *
 have hsp:m1.sp=m.sp:=by rw[←hm1];rfl
 have hm:m1.m=m.m:=by rw[←hm1];rfl
 have hcaE:m1.ca=m.ca:=by rw[←hm1];rfl
 have hstE:m1.st=m.st:=by rw[←hm1];rfl
 have hdkE:m1.dk=m.dk:=by rw[←hm1];rfl
 have hslE:m1.sl=m.sl.set s (lV m s+1):=by rw[←hm1];rfl
 have hent1:∀q j,ent m1 q j=ent m q j:=fun q j=>by unfold ent dR;rw[hsp]
 have hent:∀q j,ent (dx m1 p n x) q j=if q=p∧j=n then x else ent m q j:=fun q j=>by rw[←hent1];exact rf hp1 hs0 q j
 have hfr:∀y,aO (dx m1 p n x) y=aO m y:=fun y=>by unfold aO dx setTb;simp only;rw[hm]
 have hlen:(dx m1 p n x).m.fs.length=m.m.fs.length:=by unfold dx setTb;simp only;rw[hm]
 have hcnt:∀kd i,kd≠0→cz (dx m1 p n x) kd i=cz m kd i+qp (qW kd i x):=fun kd i hk=>by
  have h1:=qG hp1 hs0 kd i
  have h2:qp (qW kd i (ent m1 p n))=0:=xZ (by rw[hent1];exact h0) hk
  have h3:cz m1 kd i=cz m kd i:=by unfold cz;rw[hsp]
  unfold dx
  omega
 have hsk:jk m (dx m1 p n x):=(jk.of hsp).trans jk.setTb
 have hcaS:(dx m1 p n x).ca=m.ca:=hcaE
 have hstS:(dx m1 p n x).st=m.st:=hstE
 have hdkS:(dx m1 p n x).dk=m.dk:=hdkE
 have hdisk:∀a b,gL (dx m1 p n x) a b=gL m a b:=fun a b=>by unfold gL;rw[hstS,hdkS]
 refine⟨⟨hpt,by rw[hdkS,hstS];exact h.trim,fun q hq => ?_,⟨by rw[hcaS,hstS];exact h.ca.file,by rw[hcaS,hlen];exact h.ca.lt,fun c hcm=>by rw[hfr];exact h.ca.fr c (by rw[←hcaS];exact hcm),by rw[hcaS];exact h.ca.srt⟩,fun q j hk => ?_,fun i hi => ?_,fun i hi hi0 => ?_,fun i hi => ?_⟩,⟨fun c hcm => ?_,fun c hcm hd => ?_,fun i hi hd => ?_⟩⟩
 ·rw[hsk.lv] at hq
  obtain⟨a1,a2⟩:=h.live q hq
  refine⟨by rw[hsk.ar];exact a1,fun j => ?_⟩
  rw[hent,if_neg]
  ·exact a2 j
  ·rintro⟨rfl,rfl⟩
   have:mi m q j=onA (dR m q).ar j:=rfl
   rw[this,a1] at hg
   cases hg
 ·have hpg:mi (dx m1 p n x) q j=mi m q j:=by unfold mi;rw[hsk.ar]
  have hsll:(dx m1 p n x).sl.length=m.sl.length:=by show m1.sl.length=_;rw[hslE,List.length_set]
  rw[hpg]
  rw[hent] at hk ⊢
  by_cases e:q=p∧j=n
  ·rw[if_pos e] at hk ⊢
   rw[e.1,e.2]
   exact⟨g,hg,fun _=>⟨by rw[hsll];omega,hsh⟩,fun hk1=>by omega,fun hk1=>by omega⟩
  ·rw[if_neg e] at hk ⊢
   obtain⟨y,hy,hyf⟩:=h.en q j hk
   exact⟨y,hy,by rw[hsll];exact hyf.sw,by rw[hlen];exact hyf.lt,fun hk1=>by rw[hfr];exact hyf.fr hk1⟩
 ·have a1:rT (dx m1 p n x) i=rT m i:=by unfold rT;rw[hcaS]
  rw[hfr,a1,hcnt 1 i (by decide),rV,if_neg (fun h'=>by omega)]
  exact h.cf i (by rw[←hlen];exact hi)
 ·rw[hcaS]
  rw[hfr] at hi0
  exact h.fc i (by rw[←hlen];exact hi) hi0
 ·have hi' : i<m.sl.length:=by
   have:(dx m1 p n x).sl=m1.sl:=rfl
   rw[this,hslE,List.length_set] at hi;exact hi
  have hsl:lV (dx m1 p n x) i=if i=s then lV m s+1 else lV m i:=by
   have h1:=GK (x:=lV m s+1) hs i
   have h2:lV (dx m1 p n x) i=lV (setSl m s (lV m s+1)) i:=by unfold lV;show m1.sl.getD i 0=_;rw[hslE];rfl
   rw[h2,h1]
  rw[hsl,hcnt 2 i (by decide),rV]
  have h3:=h.cs i hi'
  by_cases e:i=s
  ·subst e
   rw[if_pos rfl,if_pos ⟨hxk,hxn⟩];omega
  ·rw[if_neg e,if_neg (fun h'=>e (by omega))];omega
 ·rw[hfr,hstS];rw[hcaS] at hcm;exact hc.tail c hcm
 ·rw[hcaS] at hcm;rw[hfr] at hd ⊢; rw[hdisk];exact hc.clean c hcm hd
 ·rw[hfr] at hd ⊢; exact hc.anon i (by rw[←hlen];exact hi) hd
theorem Eu (h:Rt m) (hc:Co m) {n:Int} (hk:(ent m p n).k=1):Rt (dx m p n ⟨1,(ent m p n).n,false⟩)∧Co (dx m p n ⟨1,(ent m p n).n,false⟩):=by
 have hin:=mR (m:=m) (p:=p) (n:=n) (by rw[hk];decide)
 have hE:=(bV _).1 (nX h.pt p n)
 have hxE:eT ⟨1,(ent m p n).n,false⟩=0:=(bV _).2 (.inr (.inl ⟨rfl,by show 0≤(ent m p n).n;omega,by show (ent m p n).n<40;omega⟩))
 generalize hx:(⟨1,(ent m p n).n,false⟩:En)=x at *
 have hxk:x.k=1:=by rw[←hx]
 have hxn:x.n=(ent m p n).n:=by rw[←hx]
 have hxw:x.w=false:=by rw[←hx]
 obtain⟨hs0,_,hpt⟩:=pq (k:=⟨m,0⟩) (p:=p) (n:=n) (x:=x) h.pt hin.2 hxE
 have hent:∀q j,ent (dx m p n x) q j=if q=p∧j=n then x else ent m q j:=fun q j=>rf hin.1 hs0 q j
 have hcnt:∀kd i,cz (dx m p n x) kd i=cz m kd i:=fun kd i=>by
  have h1:=qG hin.1 hs0 kd i
  have h2:qp (qW kd i (ent m p n))=qp (qW kd i x):=by rw[rV,rV,hxk,hxn,hk]
  unfold dx
  omega
 have hsk:jk m (dx m p n x):=jk.setTb
 refine⟨⟨hpt,h.trim,fun q hq => ?_,⟨h.ca.file,h.ca.lt,h.ca.fr,h.ca.srt⟩,fun q j hk' => ?_,fun i hi=>by rw[hcnt];exact h.cf i hi,h.fc,fun s hs=>by rw[hcnt];exact h.cs s hs⟩,⟨hc.tail,hc.clean,hc.anon⟩⟩
 ·rw[hsk.lv] at hq
  obtain⟨a1,a2⟩:=h.live q hq
  refine⟨by rw[hsk.ar];exact a1,fun j => ?_⟩
  rw[hent,if_neg]
  ·exact a2 j
  ·rintro⟨rfl,rfl⟩
   have:=a2 j;omega
 ·have hpg:mi (dx m p n x) q j=mi m q j:=by unfold mi;rw[hsk.ar]
  rw[hpg]
  rw[hent] at hk' ⊢
  by_cases e:q=p∧j=n
  ·rw[if_pos e] at hk' ⊢
   rw[e.1,e.2]
   obtain⟨y,hy,hyf⟩:=h.en p n (by rw[hk];decide)
   have h1:=hyf.lt hk
   obtain⟨f1,f2,f3,f4,f5⟩:=hyf.fr hk
   refine⟨y,hy,fun hk2=>by omega,fun _=>by rw[hxn];exact h1,fun _ => ?_⟩
   rw[hxn,hxw]
   exact⟨f1,f2,fun h=>(by cases h),fun h=>(by cases h),fun h=>(by cases h)⟩
  ·rw[if_neg e] at hk' ⊢
   obtain⟨y,hy,hyf⟩:=h.en q j hk'
   exact⟨y,hy,hyf.sw,hyf.lt,hyf.fr⟩
theorem EI (h:Rt m) (hc:Co m) {s:Sp} (hl:m.sp.length<4) (hv:s.lv=true) (ha:(bF s.ar).1=0) (ht:s.tb=zTb):Rt { m with sp:=m.sp++[s] }∧Co { m with sp:=m.sp++[s] }:=by
 have hspN:∀q,dR { m with sp:=m.sp++[s] } q=if q=m.sp.length then s else dR m q:=fun q=>by
  unfold dR
  show (m.sp++[s]).getD q zSp=_
  rw[List.getD_eq_getElem?_getD,List.getElem?_append]
  by_cases e:q<m.sp.length
  ·rw[if_pos e,if_neg (by omega),List.getD_eq_getElem?_getD]
  ·rw[if_neg e]
   by_cases e2:q=m.sp.length
   ·rw[if_pos e2,e2,Nat.sub_self];rfl
   ·rw[if_neg e2,List.getD_eq_getElem?_getD,List.getElem?_eq_none (by simp;omega),List.getElem?_eq_none (by omega)]
 have hent:∀q j,ent { m with sp:=m.sp++[s] } q j=ent m q j:=fun q j=>by
  unfold ent
  rw[hspN]
  by_cases e:q=m.sp.length
  ·rw[if_pos e,mr (by omega),ht];rfl
  ·rw[if_neg e]
 have hcnt:∀kd i,kd≠0→cz { m with sp:=m.sp++[s] } kd i=cz m kd i:=fun kd i hk=>by
  unfold cz
  show ((m.sp++[s]).map _).sum=_
  rw[List.map_append,List.sum_append]
  have:([s].map fun s=>(eQ s.tb).countP (qW kd i)).sum=0:=by
   rw[List.map_singleton,List.sum_singleton,ht,List.countP_eq_zero]
   intro e he
   unfold eQ at he
   obtain⟨j,_,rfl⟩:=List.mem_map.1 he
   rw[tN]
   unfold qW
   simp only[Bool.and_eq_true,decide_eq_true_eq]
   rintro⟨h1,_⟩
   exact hk h1.symm
  omega
 refine⟨⟨{ h.pt with spl:=by simp;omega,ar:=fun y hy => ?_,tb:=fun y hy => ?_ },h.trim,fun q hq => ?_,⟨h.ca.file,h.ca.lt,h.ca.fr,h.ca.srt⟩,fun q j hk => ?_,fun i hi=>by rw[hcnt 1 i (by decide)];exact h.cf i hi,h.fc,fun i hi=>by rw[hcnt 2 i (by decide)];exact h.cs i hi⟩,⟨hc.tail,hc.clean,hc.anon⟩⟩
 ·rcases List.mem_append.1 hy with hy|hy
  ·exact h.pt.ar y hy
  ·rw[List.mem_singleton.1 hy];exact ha
 ·rcases List.mem_append.1 hy with hy|hy
  ·exact h.pt.tb y hy
  ·rw[List.mem_singleton.1 hy,ht];decide
 ·rw[hspN] at hq ⊢
  by_cases e:q=m.sp.length
  ·rw[if_pos e,hv] at hq;cases hq
  ·rw[if_neg e] at hq ⊢
   refine⟨(h.live q hq).1,fun j=>by rw[hent];exact (h.live q hq).2 j⟩
 ·rw[hent] at hk ⊢
  obtain⟨y,hy,hyf⟩:=h.en q j hk
  have hq:=mR hk
  refine⟨y,?_,hyf.sw,hyf.lt,hyf.fr⟩
  unfold mi at hy ⊢
  rw[hspN,if_neg (by omega)]
  exact hy
def dE (T:List (List En)) (p:Nat):List En:=T.getD p []
def dJ (T:List (List En)) (p n:Nat):En:=(dE T p).getD n zEn
def dw (m:Ma) (T:List (List En)):Ma:={ m with sp:=(List.range m.sp.length).map fun p => { dR m p with tb:=dZ (dE T p) } }
structure uO (m:Ma) (T:List (List En)):Prop where
 len:T.length=m.sp.length
 ln:∀t∈T,t.length=64
 en:∀t∈T,∀x∈t,eT x=0
theorem iZ {T:List (List En)}:(dw m T).sp.length=m.sp.length:=by unfold dw;simp
theorem uI {T:List (List En)} (hp:p<m.sp.length):dR (dw m T) p = { dR m p with tb:=dZ (dE T p) }:=by
 have:dR (dw m T) p=((List.range m.sp.length).map fun p=>({ dR m p with tb:=dZ (dE T p) }:Sp)).getD p zSp:=rfl
 rw[this,List.getD_eq_getElem?_getD,List.getElem?_map,List.getElem?_range hp]
 rfl
theorem uO.mem {T:List (List En)} (h:uO m T) (hp:p<m.sp.length):dE T p∈T:=by
 unfold dE
 rw[List.getD_eq_getElem?_getD,List.getElem?_eq_getElem (by rw[h.len];exact hp)]
 exact List.getElem_mem _
theorem uO.l64 {T:List (List En)} (h:uO m T) (hp:p<m.sp.length):(dE T p).length=64:=h.ln _ (h.mem hp)
theorem uO.right {T:List (List En)} (h:uO m T) (hp:p<m.sp.length):cZ (dZ (dE T p))=0:=vZ (h.en _ (h.mem hp)) (h.l64 hp)
theorem jm {T:List (List En)} (h:uO m T) (hp:p<m.sp.length) (hn:n<64):ent (dw m T) p n=dJ T p n:=by
 unfold ent dJ
 rw[uI hp]
 show dn (dZ (dE T p)) n=_
 rw[sQ (h.en _ (h.mem hp)) (h.l64 hp) hn,List.getD_eq_getElem?_getD,List.getElem?_eq_getElem (by rw[h.l64 hp];exact hn)]
 rfl
theorem sF {T:List (List En)} (h:uO m T) (hp:p<m.sp.length) (hn:n<64):eT (dJ T p n)=0:=by
 unfold dJ
 rw[List.getD_eq_getElem?_getD,List.getElem?_eq_getElem (by rw[h.l64 hp];exact hn)]
 exact h.en _ (h.mem hp) _ (List.getElem_mem _)
def setL (T:List (List En)) (p n:Nat) (x:En):List (List En):=T.set p ((dE T p).set n x)
theorem mP {T:List (List En)} (hp:p<T.length) {x:En} (q:Nat):dE (setL T p n x) q=if q=p then (dE T p).set n x else dE T q:=by
 unfold dE setL
 rw[List.getD_eq_getElem?_getD,List.getElem?_set]
 by_cases e:q=p
 ·subst e;rw[if_pos rfl,if_pos hp,if_pos rfl];rfl
 ·rw[if_neg (fun h=>e h.symm),if_neg e,List.getD_eq_getElem?_getD]
theorem uO.set {T:List (List En)} (h:uO m T) {x:En} (hp:p<m.sp.length) (hx:eT x=0):uO m (setL T p n x):=by
 refine⟨by unfold setL;rw[List.length_set];exact h.len,fun t ht => ?_,fun t ht y hy => ?_⟩
 ·rcases List.mem_or_eq_of_mem_set ht with ht|rfl
  ·exact h.ln t ht
  ·rw[List.length_set];exact h.l64 hp
 ·rcases List.mem_or_eq_of_mem_set ht with ht|rfl
  ·exact h.en t ht y hy
  ·rcases List.mem_or_eq_of_mem_set hy with hy|rfl
   ·exact h.en _ (h.mem hp) y hy
   ·exact hx
theorem qM {T:List (List En)} (h:uO m T) {x:En} (hp:p<m.sp.length) (hn:n<64) (q j:Nat):dJ (setL T p n x) q j=if q=p∧j=n then x else dJ T q j:=by
 unfold dJ
 rw[mP (by rw[h.len];exact hp)]
 by_cases e:q=p
 ·subst e
  rw[if_pos rfl,List.getD_eq_getElem?_getD,List.getElem?_set]
  by_cases e2:j=n
  ·subst e2
   rw[if_pos rfl,if_pos (by rw[h.l64 hp];exact hn),if_pos ⟨rfl,rfl⟩];rfl
  ·rw[if_neg (fun h=>e2 h.symm),if_neg (fun h=>e2 h.2),List.getD_eq_getElem?_getD]
 ·rw[if_neg e,if_neg (fun h=>e h.1)]
theorem mI {T:List (List En)} (h:uO m T) {x:En} (hp:p<m.sp.length) (hn:n<64) (hx:eT x=0):dx (dw m T) p n x=dw m (setL T p n x):=by
 have hl:=h.l64 hp
 have hw:=h.right hp
 have hse:setE (dZ (dE T p)) n x=0:=Gx hw ⟨by omega,by omega⟩ hx
 have ht:setT (dZ (dE T p)) n x=dZ ((dE T p).set n x):=by
  rw[←FC (sZ hse),tV hse,xR (h.en _ (h.mem hp)) hl,Int.toNat_natCast]
 unfold dx setTb
 rw[uI hp]
 show { dw m T with sp:=(dw m T).sp.set p { dR m p with tb:=setT (dZ (dE T p)) n x } }=dw m (setL T p n x)
 rw[ht]
 refine congrArg (fun s=>({ m with sp:=s }:Ma)) (?_:((List.range m.sp.length).map fun p=>({ dR m p with tb:=dZ (dE T p) }:Sp)).set p { dR m p with tb:=dZ ((dE T p).set n x) }=(List.range m.sp.length).map fun q=>({ dR m q with tb:=dZ (dE (setL T p n x) q) }:Sp))
 apply List.ext_getElem?
 intro q
 rw[List.getElem?_set,List.getElem?_map,List.getElem?_map]
 simp only[List.length_map,List.length_range]
 by_cases e:q=p
 ·subst e
  rw[if_pos rfl,if_pos hp,List.getElem?_range hp,Option.map_some,mP (by rw[h.len];exact hp),if_pos rfl]
 ·rw[if_neg (fun h=>e h.symm)]
  by_cases hq:q<m.sp.length
  ·rw[List.getElem?_range hq,Option.map_some,Option.map_some,mP (by rw[h.len];exact hp),if_neg e]
  ·rw[List.getElem?_eq_none (by simp;omega),Option.map_none,Option.map_none]
theorem uw {T:List (List En)} :setFr (dw m T) f X=dw (setFr m f X) T:=rfl
theorem uO.fr {T:List (List En)} (h:uO m T) :uO (setFr m f X) T:=⟨h.len,h.ln,h.en⟩
theorem uO.sps {T:List (List En)} (h:uO m T) (e:m'.sp.length=m.sp.length):uO m' T:=⟨by rw[e];exact h.len,h.ln,h.en⟩
theorem kF {T:List (List En)} (hp:p<m.sp.length) (n:Int):mi (dw m T) p n=onA (dR m p).ar n:=by
 unfold mi;rw[uI hp]
theorem FI {T:List (List En)} (h:uO m T) (s:Sp):dw { m with sp:=m.sp++[s] } (T++[List.replicate 64 zEn]) = { dw m T with sp:=(dw m T).sp++[{ s with tb:=zTb }] }:=by
 have hz:dZ (List.replicate 64 zEn)=zTb:=by decide +kernel
 unfold dw
 simp only[Ma.mk.injEq,true_and,List.length_append,List.length_singleton]
 rw[List.range_succ,List.map_append]
 congr 1
 ·apply List.map_congr_left
  intro p hp
  have hp':=List.mem_range.1 hp
  unfold dR dE
  simp only[List.getD_eq_getElem?_getD]
  rw[List.getElem?_append_left hp',List.getElem?_append_left (by rw[h.len];exact hp')]
 ·unfold dR dE
  simp only[List.map_cons,List.map_nil,List.getD_eq_getElem?_getD]
  rw[List.getElem?_append_right (Nat.le_refl _),Nat.sub_self,←h.len,List.getElem?_append_right (Nat.le_refl _),Nat.sub_self]
  simp only[List.getElem?_cons_zero,Option.getD_some]
  rw[hz]
theorem uO.more {T:List (List En)} (h:uO m T) (s:Sp):uO { m with sp:=m.sp++[s] } (T++[List.replicate 64 zEn]):=by
 refine⟨by simp[h.len],fun t ht => ?_,fun t ht x hx => ?_⟩
 ·rcases List.mem_append.1 ht with ht|ht
  ·exact h.ln t ht
  ·rw[List.mem_singleton.1 ht,List.length_replicate]
 ·rcases List.mem_append.1 ht with ht|ht
  ·exact h.en t ht x hx
  ·rw[List.mem_singleton.1 ht] at hx
   rw[(List.mem_replicate.1 hx).2];decide
def sW (m1:Ma) (g:Nat) (X:Fr) (f i:Int):Ma:={ setFr m1 g X with ca:=m1.ca.insertIdx (rR m1.ca f i) ⟨f,i,g⟩ }
theorem NI {f i:Int} (h:Rt m1) (hc:Co m1) (hg:g<m1.m.fs.length) (hz:(aO m1 g).r=0) (hin:tK m1.st f i) (hno:∀c∈m1.ca,¬(c.f=f∧c.i=i))
 (hX:X.r=1∧X.f=f∧X.i=i) (ht:dS X.p ((aT m1.st f).n-i*8)=X.p) (hd:X.d=false→X.p=gL m1 f i) :
  Rt (sW m1 g X f i)∧Co (sW m1 g X f i):=by
 have hlim:=BD h.pt.st hin
 have hxE:dQ X=0:=by
  rw[fP]
  have h1:=hin.1;have h2:=hin.2
  exact⟨⟨by omega,by omega,by omega,by omega,by omega,by omega⟩,fun e=>by omega,fun e=>by omega⟩
 have hfr:∀x,aO (sW m1 g X f i) x=if x=g then X else aO m1 x:=fun x=>kN hg x
 have hfrn:∀x,x≠g→aO (sW m1 g X f i) x=aO m1 x:=fun x hx=>by rw[hfr,if_neg hx]
 have hlen:(sW m1 g X f i).m.fs.length=m1.m.fs.length:=ku
 have hmem:∀c,c∈(sW m1 g X f i).ca↔c=⟨f,i,g⟩∨c∈m1.ca:=fun c=>List.mem_insertIdx (LC _ _ _)
 have hkg:∀c∈m1.ca,c.k.toNat≠g:=fun c hcm e=>by
  have:=(h.ca.fr c hcm).1
  rw[e,hz] at this
  exact absurd this (by decide)
 have hdisk:∀f' i',gL (sW m1 g X f i) f' i' = gL m1 f' i':=fun _ _=>rfl
 have hholdg:cz m1 1 g=0∧rT m1 g=0:=by
  have:=h.cf g hg
  omega
 have hpt:Pt (sW m1 g X f i):={ fr:=EX h.pt.fr hxE,sl:=h.pt.sl,sw:=h.pt.sw,dk:=h.pt.dk,st:=h.pt.st,swl:=h.pt.swl,dkl:=h.pt.dkl,spl:=h.pt.spl,ar:=h.pt.ar,tb:=h.pt.tb }
 have hcaok:pX (sW m1 g X f i):=by
  refine⟨fun c hcm => ?_,fun c hcm => ?_,fun c hcm => ?_,xO h.ca.srt hno⟩
  ·rcases (hmem c).1 hcm with rfl|hcm
   ·exact hin
   ·exact h.ca.file c hcm
  ·rw[hlen]
   rcases (hmem c).1 hcm with rfl|hcm
   ·show 0≤(g:Int)∧(g:Int)<_;omega
   ·exact h.ca.lt c hcm
  ·rcases (hmem c).1 hcm with rfl|hcm
   ·rw[hfr,if_pos (Int.toNat_natCast g)]
    exact⟨by omega,hX.2.1,hX.2.2⟩
   ·rw[hfrn _ (hkg c hcm)];exact h.ca.fr c hcm
 have hent:∀p n,ent (sW m1 g X f i) p n=ent m1 p n:=fun _ _=>rfl
 have hentg:∀p n,(ent m1 p n).k=1→(ent m1 p n).n.toNat≠g:=by
  intro p n hk e
  have h3:=mR (m:=m1) (p:=p) (n:=n) (by rw[hk];decide)
  have h5:=(bV _).1 (nX h.pt p n)
  have h4:=(uF (m:=m1) (kd:=1) (i:=g) (by decide)).2 ⟨p,n,h3.1,h3.2,hk,by omega⟩
  omega
 refine⟨⟨hpt,h.trim,h.live,hcaok,fun p n hk => ?_,fun x hx => ?_,fun x hx h0 => ?_,h.cs⟩,⟨fun c hcm => ?_,fun c hcm hd' => ?_,fun x hx hd' => ?_⟩⟩
 ·rw[hent] at hk ⊢
  obtain⟨y,hy,hfit⟩:=h.en p n hk
  exact⟨y,hy,hfit.sw,by rw[hlen];exact hfit.lt,fun hk1=>by rw[hfrn _ (hentg p n hk1)];exact hfit.fr hk1⟩
 ·have a1:rT (sW m1 g X f i) x=rT m1 x+qp (decide ((g:Int)=x)):=rO _ _ _ _ (LC _ _ _)
  have a2:cz (sW m1 g X f i) 1 x=cz m1 1 x:=rfl
  rw[hfr,a1,a2]
  by_cases e:x=g
  ·subst e
   rw[if_pos rfl,hholdg.1,hholdg.2]
   have:qp (decide ((x:Int)=(x:Int)))=1:=by simp[qp]
   rw[this,hX.1];rfl
  ·rw[if_neg e]
   have:qp (decide ((g:Int)=(x:Int)))=0:=by unfold qp;rw[if_neg];simp only[decide_eq_true_eq];omega
   rw[this]
   exact h.cf x (by rw[←hlen];exact hx)
 ·by_cases e:x=g
  ·exact⟨⟨f,i,g⟩,(hmem _).2 (.inl rfl),by rw[e]⟩
  ·rw[hfrn x e] at h0
   obtain⟨c,hcm,hck⟩:=h.fc x (by rw[←hlen];exact hx) h0
   exact⟨c,(hmem c).2 (.inr hcm),hck⟩
 ·rcases (hmem c).1 hcm with rfl|hcm
  ·rw[hfr,if_pos (Int.toNat_natCast g)]
   exact ht
  ·rw[hfrn _ (hkg c hcm)];exact hc.tail c hcm
 ·rcases (hmem c).1 hcm with rfl|hcm
  ·rw[hfr,if_pos (Int.toNat_natCast g)] at hd' ⊢; rw[hdisk];exact hd hd'
  ·rw[hfrn _ (hkg c hcm)] at hd' ⊢
   rw[hdisk];exact hc.clean c hcm hd'
 ·by_cases e:x=g
  ·rw[hfr,if_pos e]
   have:=hin.1.1
   omega
  ·rw[hfrn x e] at hd' ⊢; exact hc.anon x (by rw[←hlen];exact hx) hd'
theorem Nz (h:Rt m) (hc:Co m) {x:Int} (hx:bJ ⟨m.m.fs,x⟩=0):Rt { m with m:=⟨m.m.fs,x⟩ }∧Co { m with m:=⟨m.m.fs,x⟩ }:=
 ⟨⟨{ h.pt with fr:=hx },h.trim,h.live,⟨h.ca.file,h.ca.lt,h.ca.fr,h.ca.srt⟩,fun p n hk=>have ⟨y,hy,hf⟩:=h.en p n hk;⟨y,hy,hf.sw,hf.lt,hf.fr⟩,h.cf,h.fc,h.cs⟩,⟨hc.tail,hc.clean,hc.anon⟩⟩
theorem KH {α:Type} (g:α→Nat) (c:Nat) (h:∀x,g x≤c):∀l:List α,(l.map g).sum≤c*l.length
 | []=>by simp
 | x::l=>by
  have h1:=KH g c h l
  have h2:=h x
  rw[List.map_cons,List.sum_cons,List.length_cons,Nat.mul_succ]
  omega
theorem Jb (t:Tb):(eQ t).length=64:=by unfold eQ;simp
theorem Dq (m:Ma) (kd i:Int):cz m kd i≤64*m.sp.length:=KH _ 64 (fun s=>by rw[←Jb s.tb];exact List.countP_le_length) _
theorem La (h:pX m) (i:Int):rT m i≤1:=uR h.srt fun a ha b hb e=>h.uniq ha hb e
theorem Rt.fewR (h:Rt m) (hf:f<m.m.fs.length):0≤(aO m f).r∧(aO m f).r≤257:=by
 have h1:=h.cf f hf
 have h2:=Dq m 1 f
 have h3:=La h.ca f
 have h4:=h.pt.spl
 omega
theorem Rt.fewS (h:Rt m) {s:Nat} (hs:s<m.sl.length):0≤lV m s∧lV m s≤256:=by
 have h1:=h.cs s hs
 have h2:=Dq m 2 s
 have h4:=h.pt.spl
 omega
theorem KT (h:Pt m) {i:Int} (hk:kd≠0) {n j:Int} (h1:(ent m p n).k=kd∧(ent m p n).n=i) (h2:(ent m q j).k=kd∧(ent m q j).n=i) (hne:¬(q=p∧j=n)):2≤cz m kd i:=by
 have e1:=mR (m:=m) (p:=p) (n:=n) (by omega)
 have e2:=mR (m:=m) (p:=q) (n:=j) (by omega)
 obtain⟨hs0,_,_⟩:=pq (k:=⟨m,0⟩) (p:=p) (n:=n) (x:=zEn) h e1.2 (by decide)
 have a1:=qG e1.1 hs0 kd i
 have a2:qp (qW kd i (ent m p n))=1:=by rw[rV,if_pos h1]
 have a3:qp (qW kd i zEn)=0:=xZ rfl hk
 have a4:0<cz (setTb m p (setT (dR m p).tb n zEn)) kd i:=by
  refine (uF hk).2 ⟨q,j,by rw[oC];exact e2.1,e2.2,?_⟩
  rw[rf e1.1 hs0,if_neg hne]
  exact h2
 have a5:cz ({ m:=m,e:=0 }:Kp).m kd i=cz m kd i:=rfl
 omega
def fG (x:Fr):Fr:={ x with r:=x.r+1 }
theorem FX {x:Fr} (h:dQ x=0) (hr:x.r≠0) (h1:x.r<1000):dQ (fG x)=0:=by
 rw[fP] at h ⊢
 obtain⟨⟨a,b,c⟩,d,e⟩:=h
 refine⟨⟨?_,?_,c⟩,fun h0 => ?_,e⟩
 ·show 0≤x.r+1;omega
 ·show x.r+1≤1000;omega
 ·have:x.r+1=0:=h0
  omega
theorem oK (h:Rt m) {n:Int} (hk:(ent m p n).k=1):∃f:Nat,(ent m p n).n=f∧f<m.m.fs.length∧(aO m f).r≠0∧p<m.sp.length∧(0≤n∧n<64)∧∃g,mi m p n=some g∧Jr (aO m f) g (ent m p n).w:=by
 have h1:=mR (m:=m) (p:=p) (n:=n) (by rw[hk];decide)
 have h2:=(bV _).1 (nX h.pt p n)
 obtain⟨g,hg,hf⟩:=h.en p n (by rw[hk];decide)
 have h3:=hf.lt hk
 have h4:=Bp h hk rfl
 refine⟨(ent m p n).n.toNat,by omega,h4.2,?_,h1.1,h1.2,g,hg,hf.fr hk⟩
 have:=h.cf _ h4.2
 omega
theorem xw (h:Rt m) (hc:Co m) {n:Int} {g:Pg} (hk:(ent m p n).k=1) (hn:(ent m p n).n=f) (hq:q<m.sp.length) (h0:(ent m q n).k=0) (hg:mi m p n=some g) (hgq:mi m q n=some g) (hw:(ent m p n).w=true→g.sh=true)
 (hany:(aO m f).f<0→∀a j,(ent m a j).k=1→(ent m a j).n.toNat=f→(ent m a j).w=false) :
  Rt (dx (setFr m f (fG (aO m f))) q n (ent m p n))∧Co (dx (setFr m f (fG (aO m f))) q n (ent m p n)):=by
 obtain⟨f',e1,e2,e3,e4,e5,g',e6,e7⟩:=oK h hk
 have:f' = f:=by omega
 subst this
 rw[hg] at e6
 cases e6
 have hr:=h.fewR e2
 refine tF (g:=g) h hc hq e5 h0 e2 hk hn (FX (h.pt.frE e2) e3 (by omega)) rfl (fun _=>⟨rfl,rfl,rfl,rfl⟩) (fun h=>absurd h e3) hany hgq ?_
 obtain⟨f1,f2,f3,f4,f5⟩:=e7
 refine⟨f1,f2,f3,f4,fun hw' hx => ?_⟩
 have:=f2 (hw hw')
 have hx' : (aO m f').f<0:=hx
 omega
theorem FP (h:Rt m) (hc:Co m) {n:Int} {g:Pg} (hpq:p≠q) (hk:(ent m p n).k=1) (hn:(ent m p n).n=f) (hq:q<m.sp.length) (h0:(ent m q n).k=0) (hg:mi m p n=some g) (hgq:mi m q n=some g) :
  Rt (dx (dx (setFr m f (fG (aO m f))) p n ⟨1,f,false⟩) q n ⟨1,f,false⟩)∧Co (dx (dx (setFr m f (fG (aO m f))) p n ⟨1,f,false⟩) q n ⟨1,f,false⟩):=by
 obtain⟨f',e1,e2,e3,e4,e5,g',e6,e7⟩:=oK h hk
 have:f' = f:=by omega
 subst this
 obtain⟨a1,a2⟩:=Eu h hc hk
 rw[hn] at a1 a2
 obtain⟨hs0,_,_⟩:=pq (k:=⟨m,0⟩) (p:=p) (n:=n) (x:=⟨1,f',false⟩) h.pt e5 ((bV _).2 (.inr (.inl ⟨rfl,by show (0:Int)≤f'; omega,by have:=((dB _).1 h.pt.fr).1;show (f' : Int)<40;omega⟩)))
 have hent:∀a j,ent (dx m p n ⟨1,f',false⟩) a j=if a=p∧j=n then ⟨1,f',false⟩ else ent m a j:=fun a j=>rf e4 hs0 a j
 have hp:ent (dx m p n ⟨1,f',false⟩) p n=⟨1,f',false⟩:=by rw[hent,if_pos ⟨rfl,rfl⟩]
 have hsk:jk m (dx m p n ⟨1,f',false⟩):=jk.setTb
 have hpg:∀a,mi (dx m p n ⟨1,f',false⟩) a n=mi m a n:=fun a=>by unfold mi;rw[hsk.ar]
 have:=xw (p:=p) (q:=q) (n:=n) (f:=f') (g:=g) a1 a2 (by rw[hp]) (by rw[hp]) (by rw[hsk.len];exact hq) (by rw[hent,if_neg (fun h'=>hpq h'.1.symm)];exact h0) (by rw[hpg];exact hg) (by rw[hpg];exact hgq) (fun h'=>by rw[hp] at h'; cases h') (fun hx a j hk1 hk2 => ?_)
 ·rw[hp] at this
  exact this
 ·rw[hent] at hk1 hk2 ⊢
  by_cases e:a=p∧j=n
  ·rw[if_pos e]
  ·rw[if_neg e] at hk1 hk2 ⊢
   obtain⟨f2,b1,b2,b3,b4,b5,g2,b6,b7⟩:=oK h hk1
   have hf2:f2=f':=by omega
   subst hf2
   have h2:=KT h.pt (kd:=1) (i:=f2) (by decide) ⟨hk,hn⟩ ⟨hk1,b1⟩ e
   have h3:=h.cf f2 e2
   obtain⟨c1,c2,c3,c4,c5⟩:=b7
   cases hw:(ent m a j).w with
   | false=>rfl
   | true=>
    have:=c5 hw hx
    omega
theorem Ea (h:Rt m) (hc:Co m) {n:Int} {s:Nat} {g:Pg} (hk:(ent m p n).k=2) (hn:(ent m p n).n=s) (hq:q<m.sp.length) (h0:(ent m q n).k=0) (hg:mi m p n=some g) (hgq:mi m q n=some g) :
  Rt (dx (setSl m s (lV m s+1)) q n (ent m p n))∧Co (dx (setSl m s (lV m s+1)) q n (ent m p n)):=by
 have h1:=mR (m:=m) (p:=p) (n:=n) (by rw[hk];decide)
 have h2:=(bV _).1 (nX h.pt p n)
 obtain⟨g',hg',hf⟩:=h.en p n (by rw[hk];decide)
 rw[hg] at hg'
 cases hg'
 have h3:=hf.sw hk
 have hs:s<m.sl.length:=by omega
 have h4:=h.fewS hs
 exact zz (d:=m.sw) (g:=g) h hc hq h1.2 h0 hs hk hn ((h2.resolve_left (fun h'=>by omega)).resolve_left (fun h'=>by omega)).2.2.2 (by omega) h.pt.sw rfl hgq h3.2
structure Bd (m:Ma) (T:List (List En)):Prop where
 ok:uO m T
 rt:Rt (dw m T)
 co:Co (dw m T)
theorem Bd.of {T:List (List En)} (ok:uO m T) (h:Rt (dw m T)∧Co (dw m T)):Bd m T:=⟨ok,h.1,h.2⟩
theorem Bd.few {T:List (List En)} (h:Bd m T):m.m.fs.length≤40∧m.sl.length≤60∧m.sp.length≤4∧(m.dk.blocks.length:Int)=m.st.count∧aS m.st=0∧aZ m.dk=0∧aZ m.sw=0∧m.sw.blocks.length=m.sl.length:=
 ⟨((dB _).1 h.rt.pt.fr).1,gM h.rt.pt.sl,by have:=h.rt.pt.spl;rw[iZ] at this;exact this,h.rt.pt.dkl,h.rt.pt.st,h.rt.pt.dk,h.rt.pt.sw,h.rt.pt.swl⟩
theorem Bd.cachedE {T:List (List En)} (h:Bd m T) (hp:p<m.sp.length) (hn:n<64) (h0:(dJ T p n).k=0) {c:Cc} (hcm:c∈m.ca) {g:Pg} (hg:onA (dR m p).ar n=some g) (hf:c.f=g.fi∧c.i=g.pg) {w:Bool} (hw:w=true→g.sh=true∧g.wr=true) :
  Bd (setFr m c.k.toNat (fG (aO m c.k.toNat))) (setL T p n ⟨1,c.k,w⟩):=by
 have hlt:=h.rt.ca.lt c hcm
 have hfr:=h.rt.ca.fr c hcm
 have hfi:=h.rt.ca.file c hcm
 have hlt' : c.k.toNat<m.m.fs.length:=by have:c.k<(dw m T).m.fs.length:=hlt.2;have e:(dw m T).m.fs.length=m.m.fs.length:=rfl;omega
 have hxE:eT ⟨1,c.k,w⟩=0:=(bV _).2 (.inr (.inl ⟨rfl,hlt.1,by have:=h.few.1;have:c.k<(dw m T).m.fs.length:=hlt.2;have e:(dw m T).m.fs.length=m.m.fs.length:=rfl;show c.k<40;omega⟩))
 have hfew:=h.rt.fewR hlt'
 have hfrN:aO (dw m T) c.k.toNat=aO m c.k.toNat:=rfl
 rw[hfrN] at hfr hfew
 refine .of (h.ok.fr.set hp hxE) ?_
 rw[←mI h.ok.fr hp hn hxE,←uw]
 refine tF (g:=g) (f:=c.k.toNat) h.rt h.co (by rw[iZ];exact hp) ⟨by omega,by omega⟩ (by rw[jm h.ok hp hn];exact h0) hlt' rfl (by show c.k=_;omega) (FX (h.rt.pt.frE hlt') (by omega) (by omega)) rfl (fun _=>⟨rfl,rfl,rfl,rfl⟩) (fun h'=>by rw[hfrN] at h'; omega) (fun hx => ?_) (by rw[kF hp];exact hg) ?_
 ·have:(aO m c.k.toNat).f<0:=hx
  have:=hfi.1.1
  omega
 ·have e1:(fG (aO m c.k.toNat)).f=(aO m c.k.toNat).f:=rfl
  have e2:(fG (aO m c.k.toNat)).i=(aO m c.k.toNat).i:=rfl
  refine⟨fun _=>⟨by omega,by omega⟩,fun _=>by have:=hfi.1.1;omega,fun h'=>(hw h').2,fun h' _=>(hw h').1,fun h' hx => ?_⟩
  have:=hfi.1.1
  omega
theorem Bd.anonE {T:List (List En)} (h:Bd m T) (hp:p<m.sp.length) (hn:n<64) (h0:(dJ T p n).k=0) (hf:f<m.m.fs.length) (hr:(aO m f).r=0) (hX:X.r=1∧X.d=false∧X.f = -1∧X.i=0) {g:Pg} (hg:onA (dR m p).ar n=some g) (hsh:g.sh=false) {w:Bool} (hw:w=true→g.wr=true) :
  Bd (setFr m f X) (setL T p n ⟨1,f,w⟩):=by
 have hxE:eT ⟨1,f,w⟩=0:=(bV _).2 (.inr (.inl ⟨rfl,by show (0:Int)≤f;omega,by have:=h.few.1;show (f:Int)<40;omega⟩))
 have hfrN:aO (dw m T) f=aO m f:=rfl
 refine .of (h.ok.fr.set hp hxE) ?_
 rw[←mI h.ok.fr hp hn hxE,←uw]
 have hXE:dQ X=0:=by
  rw[fP]
  exact⟨⟨by omega,by omega,by omega,by omega,by omega,by omega⟩,fun h'=>by omega,fun _=>hX.2.2.2⟩
 refine tF (g:=g) (f:=f) h.rt h.co (by rw[iZ];exact hp) ⟨by omega,by omega⟩ (by rw[jm h.ok hp hn];exact h0) hf rfl rfl hXE (by rw[hfrN];omega) (fun h'=>by rw[hfrN] at h'; omega) (fun _=>⟨by omega,hX.2.1⟩) (fun hx a j hk1 hk2 => ?_) (by rw[kF hp];exact hg) ?_
 ·have:=Bp h.rt hk1 hk2
  have h5:=h.rt.cf f hf
  rw[hfrN] at h5
  omega
 ·exact⟨fun h'=>absurd h' (by omega),fun h'=>(by rw[hsh] at h'; cases h'),hw,fun _ h'=>absurd h' (by omega),fun _ _=>by omega⟩
theorem Bd.slotE {T:List (List En)} (h:Bd m T) (hp:p<m.sp.length) (hn:n<64) (h0:(dJ T p n).k=0) {s:Nat} (hs:s<m.sl.length) (hz:lV m s=0) {P:Page} {g:Pg} (hg:onA (dR m p).ar n=some g) (hsh:g.sh=false) :
  Bd { m with sl:=m.sl.set s 1,sw:=⟨m.sw.blocks.set s P,m.sw.queue⟩ } (setL T p n ⟨2,s,false⟩):=by
 have hxE:eT ⟨2,s,false⟩=0:=(bV _).2 (.inr (.inr ⟨rfl,by show (0:Int)≤s;omega,by have:=h.few.2.1;show (s:Int)<60;omega,rfl⟩))
 have hok:uO { m with sl:=m.sl.set s 1,sw:=⟨m.sw.blocks.set s P,m.sw.queue⟩ } T:=h.ok.sps rfl
 refine .of (hok.set hp hxE) ?_
 rw[←mI hok hp hn hxE]
 have hwd:aZ ⟨m.sw.blocks.set s P,m.sw.queue⟩=0:=by
  have:=(gI _).1 h.rt.pt.sw
  rw[gI]
  simp only[List.length_set]
  exact this
 have hsl:lV (dw m T) s=0:=hz
 have:=zz (d:=⟨m.sw.blocks.set s P,m.sw.queue⟩) (x:=⟨2,s,false⟩) (n:=(n:Int)) (g:=g) h.rt h.co (p:=p) (s:=s) (by rw[iZ];exact hp) ⟨by omega,by omega⟩ (by rw[jm h.ok hp hn];exact h0) hs rfl rfl rfl (by rw[hsl];omega) hwd (by rw[List.length_set];rfl) (by rw[kF hp];exact hg) hsh
 rw[hsl] at this
 exact this
theorem Bd.cache {T:List (List En)} (h:Bd m T) {f i:Int} (hin:tK m.st f i) (hno:∀c∈m.ca,¬(c.f=f∧c.i=i)) (hg:g<m.m.fs.length) (hr:(aO m g).r=0) (hX:X.r=1∧X.f=f∧X.i=i) (ht:dS X.p ((aT m.st f).n-i*8)=X.p) (hd:X.d=false→X.p=gL m f i) :
  Bd (sW m g X f i) T:=.of (h.ok.sps rfl) (NI h.rt h.co hg hr hin hno hX ht hd)
theorem Bd.more {T:List (List En)} (h:Bd m T) {s:Sp} (hl:m.sp.length<4) (hv:s.lv=true) (ha:(bF s.ar).1=0):Bd { m with sp:=m.sp++[s] } (T++[List.replicate 64 zEn]):=by
 refine .of (h.ok.more s) ?_
 rw[FI h.ok]
 exact EI h.rt h.co (s:={ s with tb:=zTb }) (by rw[iZ];exact hl) hv ha rfl
theorem Bd.share1 {T:List (List En)} (h:Bd m T) (hl:m.sp.length=2) (hn:n<64) (har:(dR m 1).ar=(dR m 0).ar) (hk:(dJ T 0 n).k=1) (h0:(dJ T 1 n).k=0) {g:Pg} (hg:onA (dR m 0).ar n=some g) (hf:(dJ T 0 n).n=f) {w:Bool} (hw:w=(g.sh&&(dJ T 0 n).w)) :
  Bd (setFr m f (fG (aO m f))) (setL (setL T 0 n ⟨1,f,w⟩) 1 n ⟨1,f,w⟩):=by
 have e0:=jm h.ok (p:=0) (by omega) hn
 have e1:=jm h.ok (p:=1) (by omega) hn
 have hg0:mi (dw m T) 0 n=some g:=by rw[kF (by omega)];exact hg
 have hg1:mi (dw m T) 1 n=some g:=by rw[kF (by omega),har];exact hg
 obtain⟨f',a1,a2,_⟩:=oK h.rt (p:=0) (n:=n) (by rw[e0];exact hk)
 have a2' : f' < m.m.fs.length:=a2
 have hff:f' = f:=by rw[e0] at a1;omega
 subst hff
 have hxE:∀w,eT ⟨1,f',w⟩=0:=fun w=>(bV _).2 (.inr (.inl ⟨rfl,by show (0:Int)≤f'; omega,by have:=h.few.1;show (f' : Int)<40;omega⟩))
 have hok:=(h.ok.fr (f:=f') (X:=fG (aO m f'))).set (p:=0) (n:=n) (by show 0<m.sp.length;omega) (hxE w)
 refine .of (hok.set (by show 1<m.sp.length;omega) (hxE w)) ?_
 have hex:(⟨1,f',(dJ T 0 n).w⟩:En)=dJ T 0 n:=by rw[←hf,←hk]
 rw[←mI hok (by show 1<m.sp.length;omega) hn (hxE w)]
 cases hs:g.sh with
 | false=>
  rw[hs,Bool.false_and] at hw
  subst hw
  rw[←mI h.ok.fr (by show 0<m.sp.length;omega) hn (hxE false),←uw]
  exact FP (m:=dw m T) (p:=0) (q:=1) (n:=n) (f:=f') (g:=g) h.rt h.co (by decide) (by rw[e0];exact hk) (by rw[e0];exact hf) (by rw[iZ];omega) (by rw[e1];exact h0) hg0 hg1
 | true=>
  rw[hs,Bool.true_and] at hw
  subst hw
  rw[hex]
  have hself:setL T 0 n (dJ T 0 n)=T:=by
   have hl0:dE T 0∈T:=h.ok.mem (by omega)
   have h64:=h.ok.l64 (p:=0) (by omega)
   unfold setL dJ
   rw[List.getD_eq_getElem?_getD,List.getElem?_eq_getElem (by omega:n<(dE T 0).length),Option.getD_some,List.set_getElem_self]
   unfold dE
   rw[List.getD_eq_getElem?_getD,List.getElem?_eq_getElem (by rw[h.ok.len];omega:0<T.length),Option.getD_some,List.set_getElem_self]
  rw[hself,←uw,←e0]
  refine xw (m:=dw m T) (p:=0) (q:=1) (n:=n) (f:=f') (g:=g) h.rt h.co (by rw[e0];exact hk) (by rw[e0];exact hf) (by rw[iZ];omega) (by rw[e1];exact h0) hg0 hg1 (fun _=>hs) (fun hx => ?_)
  obtain⟨f2,b1,b2,b3,b4,b5,g2,b6,b7⟩:=oK h.rt (p:=0) (n:=n) (by rw[e0];exact hk)
  have:f2=f':=by omega
  subst this
  rw[hg0] at b6
  cases b6
  have:=b7.2.1 hs
  omega
theorem Bd.share2 {T:List (List En)} (h:Bd m T) (hl:m.sp.length=2) (hn:n<64) (har:(dR m 1).ar=(dR m 0).ar) (hk:(dJ T 0 n).k=2) (h0:(dJ T 1 n).k=0) {g:Pg} (hg:onA (dR m 0).ar n=some g) {s:Nat} (hf:(dJ T 0 n).n=s) :
  Bd (setSl m s (lV m s+1)) (setL (setL T 0 n (dJ T 0 n)) 1 n (dJ T 0 n)):=by
 have e0:=jm h.ok (p:=0) (by omega) hn
 have e1:=jm h.ok (p:=1) (by omega) hn
 have hg0:mi (dw m T) 0 n=some g:=by rw[kF (by omega)];exact hg
 have hg1:mi (dw m T) 1 n=some g:=by rw[kF (by omega),har];exact hg
 have hself:setL T 0 n (dJ T 0 n)=T:=by
  have hl0:dE T 0∈T:=h.ok.mem (by omega)
  have h64:=h.ok.l64 (p:=0) (by omega)
  unfold setL dJ
  rw[List.getD_eq_getElem?_getD,List.getElem?_eq_getElem (by omega:n<(dE T 0).length),Option.getD_some,List.set_getElem_self]
  unfold dE
  rw[List.getD_eq_getElem?_getD,List.getElem?_eq_getElem (by rw[h.ok.len];omega:0<T.length),Option.getD_some,List.set_getElem_self]
 rw[hself]
 have hE:=sF h.ok (p:=0) (by omega) hn
 have hok:uO (setSl m s (lV m s+1)) T:=h.ok.sps rfl
 refine .of (hok.set (by show 1<m.sp.length;omega) hE) ?_
 rw[←mI hok (by show 1<m.sp.length;omega) hn hE,←e0]
 exact Ea (m:=dw m T) (p:=0) (q:=1) (n:=n) (s:=s) (g:=g) h.rt h.co (by rw[e0];exact hk) (by rw[e0];exact hf) (by rw[iZ];omega) (by rw[e1];exact h0) hg0 hg1
theorem Bd.share0 {T:List (List En)} (h:Bd m T) (hl:m.sp.length=2) (hn:n<64) (hk:(dJ T 0 n).k=0) (h0:(dJ T 1 n).k=0):Bd m (setL (setL T 0 n (dJ T 0 n)) 1 n (dJ T 0 n)):=by
 have hE0:=(bV _).1 (sF h.ok (p:=0) (by omega) hn)
 have hE1:=(bV _).1 (sF h.ok (p:=1) (by omega) hn)
 have hz:∀e:En,e.k=0→((e.k=0∧e.n=0∧e.w=false)∨(e.k=1∧0≤e.n∧e.n<40)∨(e.k=2∧0≤e.n∧e.n<60∧e.w=false))→e=zEn:=by
  rintro⟨a,b,c⟩ h1 h2
  rcases h2 with ⟨a1,a2,a3⟩|h2|h2
  ·simp only at a1 a2 a3;subst a1;subst a2;subst a3;rfl
  ·omega
  ·omega
 have h0':=hz _ hk hE0
 have h1':=hz _ h0 hE1
 have hself:∀p,p<2→dJ T p n=zEn→setL T p n zEn=T:=fun p hp he=>by
  have h64:=h.ok.l64 (p:=p) (by omega)
  have hlT:=h.ok.len
  have:(dE T p)[n]'(by omega)=zEn:=by
   unfold dJ at he
   rw[List.getD_eq_getElem?_getD,List.getElem?_eq_getElem (by omega:n<(dE T p).length),Option.getD_some] at he
   exact he
  unfold setL
  rw[←this,List.set_getElem_self]
  unfold dE
  rw[List.getD_eq_getElem?_getD,List.getElem?_eq_getElem (by omega:p<T.length),Option.getD_some,List.set_getElem_self]
 rw[h0',hself 0 (by omega) h0',hself 1 (by omega) h1']
 exact h
theorem Ig : (Tryz.prog.info? 86).map (·.size)=some 9:=by kernel_rfl
def zb (f:Int→Bool) (q:Int × Page):Bool:=!(f q.1)
theorem Eb (q:Int × Page) (g gm n:Nat) (f:Int→Bool) (w:World) (hg:aD w g #[.map (some gm)] 203) (hM:kE w gm n f) (hq : -9223372036854775808≤q.1∧q.1≤9223372036854775807) :
  Calls Tryz.prog 135 #[.agg (BN q),.pointer (some ⟨g,0,none⟩)] w fun r w'=>r = .returned (.bool (zb f q))∧Below w.heap.size w w':=by
 go_enter func135,ntmps135
 go_upto_region 1 with (fail)
 refine gB (fun W=>Code.wp _ _ _ _ W) fun W0 hb0 hx0 hs0 => ?_
 clear hs0
 have hgx:=(hg.ext hb0).cell 0
 have hcx:=hx0.cell
 have hlk:=(hM.below hb0).look q.1 hq
 have q0:(BN q)[0]?=some (.int .i64 q.1):=rfl
 go_wp2
 go_ret
 exact⟨rfl,hb0⟩
theorem KI {l:List (Int × Page)} (h:dA w a (l.flatMap tJ)) (k:Nat) (hk:k<l.length):∃b off,a=some ⟨b,off,none⟩∧dA w (some ⟨b,off+k*9,none⟩) (tJ l[k]):=kJ qQ (by decide) h k hk
theorem FK (l:List (Int × Page)) (a:Option Addr) (c:Nat) (w:World) (hrd:dA w a (l.flatMap tJ)) (hl:l.length≤9223372036854775807) (g gm n:Nat) (f:Int→Bool) (hg:aD w g #[.map (some gm)] 203) (hM:kE w gm n f) (hq:∀q∈l,-9223372036854775808≤q.1∧q.1≤9223372036854775807) :
  Calls Tryz.prog 148 #[.slice a l.length c,.func (.func 135) #[] #[.pointer (some ⟨g,0,none⟩)]] w fun e w'=>e = .returned (.int .i64 (idx (zb f) l))∧Below w.heap.size w w':=by
 go_enter func148,ntmps148
 go_wp2
 go_loopw [8] (fun i wr => ∃k:Nat,k≤l.length∧i = .int .i64 k∧Below w.heap.size w wr∧∀i (h:i<l.length),i<k→(zb f) l[i]=false) (fun i _=>l.length-(intOf i).toNat)
 case atStart=>exact⟨0,Nat.zero_le _,rfl,Below.refl _ _,fun i _ h=>absurd h (Nat.not_lt_zero _)⟩
 case round=>
  obtain⟨k,hk,rfl,hbr,hp0⟩:=hrel
  have hp:=Lib.hid hp0
  clear hp0
  by_cases hlt:k<l.length
  ·obtain⟨b,off,rfl,hel⟩:=KI (hrd.below hbr) k hlt
   go_wp2_with (refine ay _ _ rfl b (off+k*9) rfl rfl _ hel _ underlying86 rfl Ig ?_)
   refine (Eb l[k] g gm n f _ (hg.ext hbr) (hM.below hbr) (hq _ (List.getElem_mem hlt))).mono ?_
   rintro e w2 ⟨rfl,hb2⟩
   have hbel2:=ag hbr hb2
   clear hb2
   cases hpk:(zb f) l[k]
   ·have hpk':=Lib.hid hpk
    clear hpk
    go_wp2
    go_roundw
    case rel=>exact⟨k+1,by omega,by go_num,hbel2,kV hp.out hlt hpk'.out⟩
    case measure=>simp[intOf];omega
   ·have hfin:=Lib.hid (nW (zb f) l k hlt hp.out hpk)
    clear hpk
    go_wp2
    go_ret
    exact⟨aV hfin.out.symm,hbel2⟩
  ·have hfin:=Lib.hid (jQ (zb f) l fun i h=>hp.out i h (by omega))
   go_wp2
   go_ret
   exact⟨aV hfin.out.symm,hbr⟩
theorem FE (l:List (Int × Page)) (a:Option Addr) (c:Nat) (w:World) (hrd:dA w a (l.flatMap tJ)) (hl:l.length≤9223372036854775807) (g gm n:Nat) (f:Int→Bool) (hg:aD w g #[.map (some gm)] 203) (hM:kE w gm n f) (hq:∀q∈l,-9223372036854775808≤q.1∧q.1≤9223372036854775807) :
  Calls Tryz.prog 134 #[.slice a l.length c,.func (.func 135) #[] #[.pointer (some ⟨g,0,none⟩)]] w fun e w'=>e = .returned (.bool (l.any (zb f)))∧Below w.heap.size w w':=by
 go_enter func134,ntmps134
 go_wp2_with fail
 refine (FK l a c _ hrd hl g gm n f hg hM hq).mono ?_
 rintro e w2 ⟨rfl,hb2⟩
 go_wp2
 go_ret
 exact⟨bG (lD _ _),hb2⟩
theorem MG (hk:k<m.dk.blocks.length) (h:(decide ((k:Int)∈iU m.st)||decide (m.dk.blocks.getD k zPg=zPg))=false):trimB m=false:=by
 unfold trimB
 rw[Bool.and_eq_false_iff]
 refine .inl (List.all_eq_false.2 ⟨k,List.mem_range.2 hk,?_⟩)
 rw[h];decide
theorem Mo (h:∀j:Nat,j<m.dk.blocks.length→(decide ((j:Int)∈iU m.st)||decide (m.dk.blocks.getD j zPg=zPg))=true):trimB m = !(m.dk.queue.any (zb (nE (iU m.st)))):=by
 unfold trimB
 rw[List.all_eq_true.2 (fun j hj=>h j (List.mem_range.1 hj)),Bool.true_and,List.any_eq_not_all_not,Bool.not_not]
 congr 1
 funext q
 simp[zb,nE]
theorem CB (H:MH) (b:Nat) (w:World) (hb:aD w b (dC H) 41) (h:xA w H) (h0:aS (bY H.fi H.ct)=0) (hd:aZ H.dk=0) :
  Calls Tryz.prog 110 #[.pointer (some ⟨b,0,none⟩)] w fun r w'=>r = .returned (.bool (trimB H.ma))∧Below w.heap.size w w':=by
 have hmm:=@run_makeMap Tryz.prog
 have hf5:H.fi.length≤5:=by simpa[bY] using (gF h0).1
 have hfl:Hid (∀p∈H.fi,p.l.length≤12∧∀x∈p.l,-1≤x∧x<80):=Lib.hid (fun p hp=>by
  obtain⟨h1,h2,h3,h4⟩:=tZ h0 p.fi (List.mem_map.2 ⟨p,hp,rfl⟩)
  have h5:=vz (n:=p.fi.n) h2
  have h6:=(gF h0).2.2
  refine⟨by have h7:(p.l.length:Int)=dO p.fi.n:=h3;omega,fun x hx=>⟨(h4 x hx).1,by have:=(h4 x hx).2;omega⟩⟩)
 obtain⟨hd80,hq400⟩:=vL hd
 have hqb:Hid (∀q∈H.dk.queue,-9223372036854775808≤q.1∧q.1≤9223372036854775807):=Lib.hid (fun q hq=>by
  obtain⟨i,hi,rfl⟩:=List.mem_iff_getElem.1 hq
  have:=vG hd i hi
  omega)
 have H0:=Lib.hid h0
 have HD:=Lib.hid hd
 clear h0 hd
 have hbk:=Lib.hid (qY H.fi H.ct)
 go_enter func110,ntmps110
 go_upto_region 2 with (fail)
 refine gB (fun W=>Code.wp _ _ _ _ W) fun w2 hb2 hx2 hs2 => ?_
 have hbel2:Below w.heap.size w w2:=ag ((Below.refl _ _).alloc (Nat.le_refl _) _) hb2
 have hM2:kE w2 w.heap.size 0 (nE (((H.fi.take 0).map PF.fi).flatMap Fi.b)):=(kE.made w).below hb2
 have hx2' : aD w2 (w.heap.size+1) #[.map (some w.heap.size)] 203:=by
  have e:(w.alloc (Obj.map #[] 0)).heap.size=w.heap.size+1:=Array.size_push _
  rw[e] at hx2;exact hx2
 obtain⟨gm,hGM⟩:∃g,g=w.heap.size:=⟨_,rfl⟩
 have hge:Hid (w.heap.size≤gm):=Lib.hid (by omega)
 rw[←hGM] at hM2 hx2' ⊢
 rw[←hGM] at hge
 have hgs:w.heap.size≤gm:=by omega
 clear hb2 hx2 hs2 hmm hGM hge
 have hbk2:=hb.ext hbel2
 have hcb:=hbk2.cell
 unfold dC at hcb
 have H5:(H.fi.length:Int)≤5:=by omega
 go_upto_region 3 with (fail)
 clear hcb hbk2
 go_loopw [17] (fun i wr => ∃(q n:Nat),q≤H.fi.length∧i = .int .i64 q∧n≤12*q∧Below w.heap.size w wr∧aD wr (gm+1) #[.map (some gm)] 203∧kE wr gm n (nE (((H.fi.take q).map PF.fi).flatMap Fi.b))) (fun i _=>H.fi.length-(intOf i).toNat)
 case atStart=>exact⟨0,0,Nat.zero_le _,rfl,Nat.le_refl _,hbel2,hx2',hM2⟩
 case round=>
  clear hbel2 hx2' hM2
  obtain⟨q,n,hq,rfl,hn,hbr,hx,hM⟩:=hrel
  by_cases hlt:q<H.fi.length
  ·obtain⟨bf,of,hai,hrd⟩:=kJ iC (by decide) (h.below hbr).st.rd q hlt
   obtain⟨p,hp⟩:∃p,H.fi[q]?=some p:=⟨_,List.getElem?_eq_getElem hlt⟩
   rw[show H.fi[q]=p from (List.getElem?_eq_some_iff.1 hp).2] at hrd
   have hgood:=(h.below hbr).st.good p (List.mem_of_getElem? hp)
   obtain⟨hp12,hpx⟩:=hfl.out p (List.mem_of_getElem? hp)
   have htk:=Lib.hid (take_at hp)
   have hqi:(q:Int)<(H.fi.length:Int):=by omega
   generalize hseen:((H.fi.take q).map PF.fi).flatMap Fi.b=seen at hM
   have hseen':=Lib.hid hseen
   have hpx':=Lib.hid hpx
   clear hseen hp hpx
   rw[hai]
   go_wp2_with (first | (refine ay _ _ rfl bf (of+q*2) rfl rfl _ hrd _ underlying67 rfl file_size ?_) | (refine aL rfl _ _ _ rfl (kX p) rfl rfl rfl file_size (lC p) ?_))
   intro w3 hb3 fx3
   have hb13:=ag hbr hb3
   have hx3:=hx.ext hb3
   have hM3:=hM.below hb3
   have hg3:=hgood.below hb3
   have hwr:=Lib.hid hbr.size
   have hxl:=Lib.hid hx.lt
   clear hbr hx hM hb3 hrd hgood
   have hcf:=fx3.cell
   unfold kX at hcf
   have hM0:kE w3 gm n (nE (seen++p.l.take 0)):=by simpa using hM3
   have hle:=hg3.le
   have hmx:=hg3.mx
   have hrp:=hg3.rd
   unfold maxLen at hmx
   clear hM3 hg3
   go_upto_region 6 with (fail)
   clear hcf fx3
   go_loopw [24] (fun i wr => ∃(j m:Nat),j≤p.l.length∧i = .int .i64 j∧m≤n+j∧Below w.heap.size w wr∧aD wr (gm+1) #[.map (some gm)] 203∧kE wr gm m (nE (seen++p.l.take j))∧dA wr p.a (p.l.map eH)) (fun i _=>p.l.length-(intOf i).toNat)
   case atStart=>exact⟨0,n,Nat.zero_le _,rfl,Nat.le_refl _,hb13,hx3,hM0,hrp⟩
   case round=>
    clear hb13 hx3 hM0 hrp
    obtain⟨j,m,hj,rfl,hm,hbr,hx,hM,hrp⟩:=hrel
    by_cases hjl:j<p.l.length
    ·obtain⟨x,hX⟩:∃x,p.l[j]?=some x:=⟨p.l[j],List.getElem?_eq_getElem hjl⟩
     obtain⟨b2,off2,hpa,hc⟩:=iA hrp j hjl
     rw[show p.l[j]=x from (List.getElem?_eq_some_iff.1 hX).2] at hc
     have htk2:=Lib.hid (take_at hX)
     have hxb:=hpx'.out x (List.mem_of_getElem? hX)
     have hrp':=Lib.hid hrp
     have hpa':=Lib.hid hpa
     have hjl' : (j:Int)<(p.l.length:Int):=by omega
     have hcx:=hx.cell
     rw[hpa]
     clear hX hrp hpa
     generalize hs2:seen++p.l.take j=seen2 at hM
     have hs2' : Hid (seen++p.l.take (j+1)=seen2++[x]):=Lib.hid (by rw[htk2.out,←List.append_assoc,hs2])
     clear hs2
     go_wp2_with (refine qw hM (by omega) rfl _ _ _ rfl rfl x rfl rfl (by omega) ?_)
     intro w6 hM6 hgr6
     rw[yN,←hs2'.out] at hM6
     have hb6:=hbr.grown hgr6 hbr.size (fun k hk=>by cases hk;omega)
     have hx6:=hx.grown hgr6 (fun e=>by have:=Option.some.inj e;omega)
     have hrp6:=hM.rdv hrp'.out hgr6
     clear hbr hx hM hgr6 hcx hc hrp'
     go_wp2
     go_roundw
     case rel=>exact⟨j+1,m+1,by omega,by go_num,by omega,hb6,hx6,hM6,by rw[←hpa'.out];exact hrp6⟩
     case measure=>simp[intOf];omega
    ·have hjl' : ¬(j:Int)<(p.l.length:Int):=by omega
     rw[List.take_of_length_le (by omega)] at hM
     have hM' : kE wr gm m (nE (((H.fi.take (q+1)).map PF.fi).flatMap Fi.b)):=by
      rw[htk.out,List.map_append,List.flatMap_append,hseen'.out]
      simpa[PF.fi] using hM
     clear hM hrp
     go_wp2
     go_roundw
     case rel=>exact⟨q+1,m,by omega,by go_num,by omega,hbr,hx,hM'⟩
     case measure=>simp[intOf];omega
  ·have hqi:¬(q:Int)<(H.fi.length:Int):=by omega
   rw[List.take_of_length_le (by omega)] at hM
   have hM' : kE wr gm n (nE (iU H.ma.st)):=hM
   clear hM
   have hbk:=hb.ext hbr
   have hcb:=hbk.cell
   unfold dC at hcb
   go_upto_region 12 with (fail)
   clear hcb hbk
   go_loopw [38] (fun i wr => ∃(k:Nat),k≤H.dk.blocks.length∧i = .int .i64 k∧Below w.heap.size w wr∧aD wr (gm+1) #[.map (some gm)] 203∧kE wr gm n (nE (iU H.ma.st))∧Hid (∀j:Nat,j<k→(decide ((j:Int)∈iU H.ma.st)||decide (H.dk.blocks.getD j zPg=zPg))=true)) (fun i _=>H.dk.blocks.length-(intOf i).toNat)
   case atStart=>exact⟨0,Nat.zero_le _,rfl,hbr,hx,hM',Lib.hid fun j hj=>absurd hj (Nat.not_lt_zero _)⟩
   case round=>
    clear hbr hx hM'
    obtain⟨k,hk,rfl,hbr,hx,hM,hall⟩:=hrel
    by_cases hkl:k<H.dk.blocks.length
    ·obtain⟨bd,od,hda,hrd⟩:=kJ jo (by decide) (h.below hbr).dk.rb k hkl
     have hki:(k:Int)<(H.dk.blocks.length:Int):=by omega
     have hgd:Hid (H.dk.blocks.getD k zPg=H.dk.blocks[k]):=Lib.hid (by rw[List.getD_eq_getElem?_getD,List.getElem?_eq_getElem hkl];rfl)
     generalize hP:H.dk.blocks[k]=P at hrd hgd
     clear hP
     rw[hda]
     go_wp2_with (first | (refine ay _ _ rfl bd (od+k*8) rfl rfl _ hrd _ underlying79 rfl psize ?_) | (refine aL rfl _ _ _ rfl (gD P) rfl rfl rfl psize (iL _) ?_))
     intro w3 hb3 px3
     have hb13:=ag hbr hb3
     have hx3:=hx.ext hb3
     have hM3:=hM.below hb3
     clear hbr hx hM hb3 hrd
     have hcx:=hx3.cell
     have hlook:=hM3.look k (by omega)
     have hcp:=px3.cell
     rw[GX] at hcp
     cases hu:nE (iU H.ma.st) (k:Int) with
     | true=>
      rw[hu] at hlook
      have hall2:Hid (∀j:Nat,j<k+1→(decide ((j:Int)∈iU H.ma.st)||decide (H.dk.blocks.getD j zPg=zPg))=true):=Lib.hid fun j hj=>by
       by_cases e:j=k
       ·subst e
        rw[show decide ((j:Int)∈iU H.ma.st)=true from hu];rfl
       ·exact hall.out j (by omega)
      clear hu hall
      go_wp2
      go_roundw
      case rel=>exact⟨k+1,by omega,by go_num,hb13,hx3,hM3,hall2⟩
      case measure=>simp[intOf];omega
     | false=>
      rw[hu] at hlook
      have hE:∀W,(Op.equalIn 10000 79 (.agg #[.int .u8 P[0].toNat,.int .u8 P[1].toNat,.int .u8 P[2].toNat,.int .u8 P[3].toNat,.int .u8 P[4].toNat,.int .u8 P[5].toNat,.int .u8 P[6].toNat,.int .u8 P[7].toNat]) (.agg #[.int .u8 0,.int .u8 0,.int .u8 0,.int .u8 0,.int .u8 0,.int .u8 0,.int .u8 0,.int .u8 0])).run Tryz.prog W = .ok (P==zPg) W:=fun W=>Qt P zPg W
      by_cases hp0:P=zPg
      ·have hall2:Hid (∀j:Nat,j<k+1→(decide ((j:Int)∈iU H.ma.st)||decide (H.dk.blocks.getD j zPg=zPg))=true):=Lib.hid fun j hj=>by
        by_cases e:j=k
        ·subst e
         rw[hgd.out,decide_eq_true hp0,Bool.or_true]
        ·exact hall.out j (by omega)
       have hpb:(P==zPg)=true:=by rw[hp0];exact beq_self_eq_true _
       rw[hpb] at hE
       clear hu hall hpb hp0 hgd
       go_wp2
       go_roundw
       case rel=>exact⟨k+1,by omega,by go_num,hb13,hx3,hM3,hall2⟩
       case measure=>simp[intOf];omega
      ·have hpb:(P==zPg)=false:=by rw[beq_eq_false_iff_ne];exact hp0
       have hq:Hid (trimB H.ma=false):=Lib.hid (MG (k:=k) hkl (by
        show (decide ((k:Int)∈iU H.ma.st)||decide (H.dk.blocks.getD k zPg=zPg))=false
        rw[hgd.out,decide_eq_false hp0,show decide ((k:Int)∈iU H.ma.st)=false from hu];rfl))
       rw[hpb] at hE
       clear hu hall hpb hp0 hgd
       go_wp2
       go_ret
       rw[hq.out]
       exact⟨rfl,hb13⟩
    ·have hki:¬(k:Int)<(H.dk.blocks.length:Int):=by omega
     have hq:Hid (trimB H.ma = !(H.dk.queue.any (zb (nE (iU H.ma.st))))):=Lib.hid (Mo fun j hj=>hall.out j (by have:j<H.dk.blocks.length:=hj;omega))
     have hbk:=hb.ext hbr
     have hcb:=hbk.cell
     unfold dC at hcb
     have hd:=(h.below hbr).dk
     clear hall
     go_wp2_with fail
     refine (FE H.dk.queue H.dq H.cdq _ hd.rq (by omega) (gm+1) gm n (nE (iU H.ma.st)) hx hM hqb.out).mono ?_
     rintro r w4 ⟨rfl,hb4⟩
     go_wp2
     go_ret
     rw[hq.out]
     exact⟨rfl,ag hbr hb4⟩
def Bc (m:Ma):List Int:=[bJ m.m,bU m.sl,aZ m.sw,aZ m.dk,aS m.st]
theorem Jd (hk:k<5) (h:∀j,j<k→(Bc m).getD j 0=0) (hne:(Bc m).getD k 0≠0):fA m=(Bc m).getD k 0:=by
 unfold fA
 have e0:0<k→bJ m.m=0:=fun h'=>h 0 h'
 have e1:1<k→bU m.sl=0:=fun h'=>h 1 h'
 have e2:2<k→aZ m.sw=0:=fun h'=>h 2 h'
 have e3:3<k→aZ m.dk=0:=fun h'=>h 3 h'
 match k,hk with
 | 0,_=>rw[if_pos (show bJ m.m≠0 from hne)];rfl
 | 1,_=>rw[if_neg (by rw[e0 (by omega)];simp),if_pos (show bU m.sl≠0 from hne)];rfl
 | 2,_=>rw[if_neg (by rw[e0 (by omega)];simp),if_neg (by rw[e1 (by omega)];simp),if_pos (show aZ m.sw≠0 from hne)];rfl
 | 3,_=>rw[if_neg (by rw[e0 (by omega)];simp),if_neg (by rw[e1 (by omega)];simp),if_neg (by rw[e2 (by omega)];simp),if_pos (show aZ m.dk≠0 from hne)];rfl
 | 4,_=>rw[if_neg (by rw[e0 (by omega)];simp),if_neg (by rw[e1 (by omega)];simp),if_neg (by rw[e2 (by omega)];simp),if_neg (by rw[e3 (by omega)];simp),if_pos (show aS m.st≠0 from hne)];rfl
 | n+5,h'=>omega
def Py (B:Nat) (H:MH):jJ:=⟨fun v w => ∃g,v = .slice (some ⟨g,0,none⟩) 5 5∧aD w g #[.int .i64 (bJ H.m),.int .i64 (bU H.sl),.int .i64 (aZ H.sw),.int .i64 (aZ H.dk),.int .i64 (aS (bY H.fi H.ct))] 43,fun _ _ _ hb ⟨g,h1,h2⟩=>⟨g,h1,h2.ext hb⟩⟩
theorem Ik (H:MH) (b:Nat) (w:World) (hbk:aD w b (dC H) 41) (h:xA w H) :
  Calls Tryz.prog 66 #[.pointer (some ⟨b,0,none⟩)] w fun r w'=>r = .returned (.int .i64 (fA H.ma))∧Below w.heap.size w w':=by
 go_enter func66,ntmps66
 go_upto_region 1 with (fail)
 refine aG 28 [_,_,_,_,.v (.int .i64 (bJ H.m)),_,_,_,_,.v (.int .i64 (bU H.sl)),_,_,_,_,.v (.int .i64 (aZ H.sw)),_,_,_,_,.v (.int .i64 (aZ H.dk)),_,_,_,_,.v (.int .i64 (aS (bY H.fi H.ct))),.r 25 ((Py w.heap.size H)),.v (.int .i64 5),_] (Gk rfl (Gk rfl (Gf b 0 rfl rfl (Gr (.agg #[.slice H.af H.m.fs.length H.cf,.int .i64 H.m.hand]) (fun ρ y W hb hKn=>(bu rfl (aF rfl hKn) (cB (hbk.ext hb) 0 2) underlying28 rfl (by kernel_rfl))) rfl rfl (ae ?_ (Gk rfl (Gk rfl (Gf b 2 rfl rfl (Gl hbk rfl rfl rfl rfl rfl (ae ?_ (Gk rfl (Gk rfl (Gf b 3 rfl rfl (Gr (.agg #[.slice H.wb H.sw.blocks.length H.cwb,.slice H.wq H.sw.queue.length H.cwq]) (fun ρ y W hb hKn=>(bu rfl (aF rfl hKn) (cB (hbk.ext hb) 3 2) underlying34 rfl (by kernel_rfl))) rfl rfl (ae ?_ (Gk rfl (Gk rfl (Gf b 5 rfl rfl (Gr (.agg #[.slice H.db H.dk.blocks.length H.cdb,.slice H.dq H.dk.queue.length H.cdq]) (fun ρ y W hb hKn=>(bu rfl (aF rfl hKn) (cB (hbk.ext hb) 5 2) underlying34 rfl (by kernel_rfl))) rfl rfl (ae ?_ (Gk rfl (Gk rfl (Gf b 7 rfl rfl (Gr (.agg #[.slice H.ai H.fi.length H.ci,.int .i64 H.ct]) (fun ρ y W hb hKn=>(bu rfl (aF rfl hKn) (cB (hbk.ext hb) 7 2) underlying37 rfl (by kernel_rfl))) rfl rfl (ae ?_ (ae ?_ (ae ?_ (Gr (.int .i64 0) (fun ρ y W hb hKn=>(run_move (.inl rfl) (aF rfl hKn))) rfl rfl (aB))))))))))))))))))))))))))))) (fun _=>rfl) rfl ?_
 ·intro ρ y W hw hn hb hd;have E12:=hw 12 3 rfl;have h3:y 3=_:=hd 3 rfl
  have EF:∀f,ρ (.func f) = .func (.func f) #[] #[]:=fun f=>hn (.func f) trivial
  refine aM _ _ (ah rfl) (aN rfl (EF _) func107 (by kernel_rfl) (by kernel_rfl) (by simp only[List.map_toArray,List.map_cons,List.map_nil,E12,h3,EF];rfl)) ?_
  refine (sV H.m _ _ W (h.below hb).fr).mono ?_
  rintro r w1 ⟨rfl,hb1⟩
  exact⟨_,rfl,hb1,rfl⟩
 ·intro ρ y W hw hn hb hd;have E17:=hw 17 8 rfl;have h8:y 8=_:=hd 8 rfl
  have EF:∀f,ρ (.func f) = .func (.func f) #[] #[]:=fun f=>hn (.func f) trivial
  refine aM _ _ (ah rfl) (aN rfl (EF _) func108 (by kernel_rfl) (by kernel_rfl) (by simp only[List.map_toArray,List.map_cons,List.map_nil,E17,h8,EF];rfl)) ?_
  refine (qx H.sl _ _ W (h.below hb).sl.rd (by have:=h.sl.le;have:=h.sl.mx;unfold maxLen at this;omega)).mono ?_
  rintro r w1 ⟨rfl,rfl⟩
  exact⟨_,rfl,Below.refl _ _,rfl⟩
 ·intro ρ y W hw hn hb hd;have E22:=hw 22 13 rfl;have h13:y 13=_:=hd 13 rfl
  have EF:∀f,ρ (.func f) = .func (.func f) #[] #[]:=fun f=>hn (.func f) trivial
  refine aM _ _ (ah rfl) (aN rfl (EF _) func93 (by kernel_rfl) (by kernel_rfl) (by simp only[List.map_toArray,List.map_cons,List.map_nil,E22,h13,EF];rfl)) ?_
  refine (pY H.sw _ _ _ _ W (h.below hb).sw).mono ?_
  rintro r w1 ⟨rfl,hb1⟩
  exact⟨_,rfl,hb1,rfl⟩
 ·intro ρ y W hw hn hb hd;have E27:=hw 27 18 rfl;have h18:y 18=_:=hd 18 rfl
  have EF:∀f,ρ (.func f) = .func (.func f) #[] #[]:=fun f=>hn (.func f) trivial
  refine aM _ _ (ah rfl) (aN rfl (EF _) func93 (by kernel_rfl) (by kernel_rfl) (by simp only[List.map_toArray,List.map_cons,List.map_nil,E27,h18,EF];rfl)) ?_
  refine (pY H.dk _ _ _ _ W (h.below hb).dk).mono ?_
  rintro r w1 ⟨rfl,hb1⟩
  exact⟨_,rfl,hb1,rfl⟩
 ·intro ρ y W hw hn hb hd;have E32:=hw 32 23 rfl;have h23:y 23=_:=hd 23 rfl
  have EF:∀f,ρ (.func f) = .func (.func f) #[] #[]:=fun f=>hn (.func f) trivial
  refine aM _ _ (ah rfl) (aN rfl (EF _) func109 (by kernel_rfl) (by kernel_rfl) (by simp only[List.map_toArray,List.map_cons,List.map_nil,E32,h23,EF];rfl)) ?_
  refine (yu H.fi H.ct _ _ W (h.below hb).st h.c64).mono ?_
  rintro r w1 ⟨rfl,hb1⟩
  exact⟨_,rfl,hb1,rfl⟩
 ·intro ρ y W hw hn hb hd;have E13:=hw 13 4 rfl;have h4:y 4=_:=hd 4 rfl;have E18:=hw 18 9 rfl;have h9:y 9=_:=hd 9 rfl;have E23:=hw 23 14 rfl;have h14:y 14=_:=hd 14 rfl;have E28:=hw 28 19 rfl
  have h19:y 19=_:=hd 19 rfl
  have E33:=hw 33 24 rfl
  have h24:y 24=_:=hd 24 rfl
  refine iG (.slice (some ⟨W.heap.size,0,none⟩) 5 5) (ah rfl) (by simp[execOp,go_sem,E13.trans h4,E18.trans h9,E23.trans h14,E28.trans h19,E33.trans h24]) ((Below.refl _ _).alloc (Nat.le_refl _) (.cells #[.int .i64 (bJ H.m),.int .i64 (bU H.sl),.int .i64 (aZ H.sw),.int .i64 (aZ H.dk),.int .i64 (aS (bY H.fi H.ct))] 43)) ?_
  exact⟨_,rfl,aD.new _ _ _⟩
 ·intro ρ y W hw hn hb hd;have E34:=hw 34 25 rfl;have h25:=hd 25 rfl
  obtain⟨ge,hge,_⟩:=h25
  refine aj (.int .i64 5) (ah rfl) (by simp[execOp,go_sem,E34,hge]) rfl
 intro y W1 hbW1 hRW1
 have hy25:((Py w.heap.size H)).r (y 25) W1:=hRW1 25 (by decide)
 clear hRW1
 obtain⟨ge,hge,hxe⟩:=hy25
 have hbelW:Below w.heap.size w W1:=hbW1
 rw[hge]
 clear hge hbW1
 go_upto_region 2 with (fail)
 go_loopw [36] (fun i wr => ∃(k:Nat),k≤5∧i = .int .i64 k∧Below w.heap.size w wr∧aD wr ge #[.int .i64 (bJ H.m),.int .i64 (bU H.sl),.int .i64 (aZ H.sw),.int .i64 (aZ H.dk),.int .i64 (aS (bY H.fi H.ct))] 43∧Hid (∀j,j<k→(Bc H.ma).getD j 0=0)) (fun i _=>5-(intOf i).toNat)
 case atStart=>exact⟨0,Nat.zero_le _,rfl,hbelW,hxe,Lib.hid fun j hj=>absurd hj (Nat.not_lt_zero _)⟩
 case round=>
  clear hbelW hxe
  obtain⟨k,hk,rfl,hbr,hx,hz⟩:=hrel
  by_cases hkl:k<5
  ·have hki:(k:Int)<5:=by omega
   have hck:wr.cell? ⟨ge,k,none⟩=some (.int .i64 ((Bc H.ma).getD k 0)):=by
    rw[hx.cell]
    match k,hkl with
    | 0,_=>rfl
    | 1,_=>rfl
    | 2,_=>rfl
    | 3,_=>rfl
    | 4,_=>rfl
    | n+5,h'=>omega
   by_cases h0:(Bc H.ma).getD k 0=0
   ·have hz2:Hid (∀j,j<k+1→(Bc H.ma).getD j 0=0):=Lib.hid fun j hj=>by
     by_cases e:j=k
     ·rw[e];exact h0
     ·exact hz.out j (by omega)
    rw[h0] at hck
    clear h0 hz
    go_wp2
    go_roundw
    case rel=>exact⟨k+1,by omega,by go_num,hbr,hx,hz2⟩
    case measure=>simp[intOf];omega
   ·have hq:Hid (fA H.ma=(Bc H.ma).getD k 0):=Lib.hid (Jd hkl hz.out h0)
    generalize (Bc H.ma).getD k 0=E at *
    clear hz
    go_wp2
    go_ret
    rw[hq.out]
    exact⟨rfl,hbr⟩
  ·have hki:¬(k:Int)<5:=by omega
   have hz0:=hz.out 0 (by omega)
   have hz1:=hz.out 1 (by omega)
   have hz2:=hz.out 2 (by omega)
   have hz3:=hz.out 3 (by omega)
   have hz4:=hz.out 4 (by omega)
   have e0:=Lib.hid (show bJ H.m=0 from hz0)
   have e1:=Lib.hid (show bU H.sl=0 from hz1)
   have e2:=Lib.hid (show aZ H.sw=0 from hz2)
   have e3:=Lib.hid (show aZ H.dk=0 from hz3)
   have e4:=Lib.hid (show aS (bY H.fi H.ct)=0 from hz4)
   clear hz0 hz1 hz2 hz3 hz4 hz hx
   have hbkr:=hbk.ext hbr
   have hr:=h.below hbr
   have hP:Hid (fA H.ma=if H.sw.blocks.length≠H.sl.length∨(H.dk.blocks.length:Int)≠H.ct∨trimB H.ma=false then 7 else if 4<H.sp.length then 4 else firstE (H.ma.sp.map iw)):=Lib.hid (by
    unfold fA
    rw[if_neg (by rw[show bJ H.ma.m=0 from e0.out];simp),if_neg (by rw[show bU H.ma.sl=0 from e1.out];simp),if_neg (by rw[show aZ H.ma.sw=0 from e2.out];simp),if_neg (by rw[show aZ H.ma.dk=0 from e3.out];simp),if_neg (by rw[show aS H.ma.st=0 from e4.out];simp),BM]
    rfl)
   go_upto_region 7 with (fail)
   have hcb:=hbkr.cell
   unfold dC at hcb
   by_cases c1:H.sw.blocks.length=H.sl.length
   ·by_cases c2:(H.dk.blocks.length:Int)=H.ct
    ·have c1i:(H.sw.blocks.length:Int)=(H.sl.length:Int):=by omega
     have hp2:Hid (fA H.ma=if trimB H.ma=false then 7 else if 4<H.sp.length then 4 else firstE (H.ma.sp.map iw)):=Lib.hid (by
      rw[hP.out]
      by_cases ct:trimB H.ma=false
      ·rw[if_pos (.inr (.inr ct)),if_pos ct]
      ·rw[if_neg (by rintro (h | h | h);exact h c1;exact h c2;exact ct h),if_neg ct])
     refine aG 31 [_,_,_,_,_,_,_,_,_,_,_,_,_,_,_,_,_,_,_,_,_,_,_,_,_,_,_,_,.v (.bool (trimB H.ma)),_,.v (.bool (!trimB H.ma))] (Gk rfl (Gk rfl (Gf b 3 rfl rfl (Gf b 3 rfl rfl (Gl hbkr rfl rfl rfl rfl rfl (Gn rfl rfl rfl rfl (Gk rfl (Gk rfl (Gf b 2 rfl rfl (Gl hbkr rfl rfl rfl rfl rfl (Gn rfl rfl rfl rfl (Gb (.bool false) (by simp[go_sem,c1]) rfl rfl rfl rfl rfl (Gk rfl (Gk rfl (Gk rfl (Gf b 5 rfl rfl (Gf b 5 rfl rfl (Gl hbkr rfl rfl rfl rfl rfl (Gn rfl rfl rfl rfl (Gk rfl (Gk rfl (Gf b 7 rfl rfl (Gf b 8 rfl rfl (Gl hbkr rfl rfl rfl rfl rfl (Gb (.bool false) (by simp[go_sem,c2]) rfl rfl rfl rfl rfl (Gk rfl (Gk rfl (Gk rfl (ae ?_ (Gr (.bool (!trimB H.ma)) (fun ρ y W hb hKn=>wV rfl (aF rfl hKn)) rfl rfl (Gk rfl (aB)))))))))))))))))))))))))))))))) (fun _=>rfl) rfl ?_
     ·intro ρ y W hw hn hb hd;have E71:=hw 71 27 rfl;have h27:y 27=_:=hd 27 rfl
      have EF:∀f,ρ (.func f) = .func (.func f) #[] #[]:=fun f=>hn (.func f) trivial
      refine aM _ _ (aQ 26 70 false false rfl rfl ((hw 70 26 rfl).trans (hd 26 rfl))) (aN rfl (EF _) func110 (by kernel_rfl) (by kernel_rfl) (by simp only[List.map_toArray,List.map_cons,List.map_nil,E71,h27,EF];rfl)) ?_
      refine (CB H b W (hbkr.ext hb) (hr.below hb) e4.out e3.out).mono ?_
      rintro r w1 ⟨rfl,hb1⟩
      exact⟨_,rfl,hb1,rfl⟩
     intro y W2 hbW2 _
     have hbr2:=ag hbr hbW2
     clear hbW2
     cases ht:trimB H.ma with
     | false=>
      have hp7:Hid (fA H.ma=7):=Lib.hid (by rw[hp2.out,if_pos ht])
      clear c1 c2 c1i
      go_wp2
      go_ret
      rw[hp7.out]
      exact⟨rfl,hbr2⟩
     | true=>
      have hp3:Hid (fA H.ma=if 4<H.sp.length then 4 else firstE (H.ma.sp.map iw)):=Lib.hid (by rw[hp2.out,if_neg (by rw[ht];decide)])
      clear c1 c2 c1i hcb ht
      have hr2:=h.below hbr2
      have hcb:=(hbk.ext hbr2).cell
      unfold dC at hcb
      clear hr hbkr hP hp2 hbr
      by_cases c4:4<H.sp.length
      ·have hp4:Hid (fA H.ma=4):=Lib.hid (by rw[hp3.out,if_pos c4])
       have c4i:(4:Int)<(H.sp.length:Int):=by omega
       clear c4
       go_wp2
       go_ret
       rw[hp4.out]
       exact⟨rfl,hbr2⟩
      ·have hp4:Hid (fA H.ma=firstE (H.ma.sp.map iw)):=Lib.hid (by rw[hp3.out,if_neg c4])
       have c4i:¬(4:Int)<(H.sp.length:Int):=by omega
       have hlen:Hid ((H.ma.sp.map iw).length=H.sp.length):=Lib.hid (by rw[List.length_map,BM])
       clear c4 hp3
       go_upto_region 12 with (fail)
       clear hcb hr2
       go_loopw [86] (fun i wr => ∃(k:Nat),k≤H.sp.length∧i = .int .i64 k∧Below w.heap.size w wr∧Hid (∀j (hj:j<(H.ma.sp.map iw).length),j<k→(H.ma.sp.map iw)[j]=0)) (fun i _=>H.sp.length-(intOf i).toNat)
       case atStart=>exact⟨0,Nat.zero_le _,rfl,hbr2,Lib.hid fun j _ hj=>absurd hj (Nat.not_lt_zero _)⟩
       case round=>
        clear hbr2
        obtain⟨k,hk,rfl,hbr,hz⟩:=hrel
        by_cases hkl:k<H.sp.length
        ·obtain⟨bs,os,P,hap,hP,hrd⟩:=zy (h.below hbr).sp.rd k hkl
         have hgood:=Ao (h.below hbr) hP
         have hki:(k:Int)<(H.sp.length:Int):=by omega
         have hkm:k<(H.ma.sp.map iw).length:=by rw[hlen.out];exact hkl
         have hE:Hid ((H.ma.sp.map iw)[k]=iw P.sp):=Lib.hid (by
          rw[List.getElem_map]
          congr 1
          have:H.ma.sp[k]?=some P.sp:=by show (H.sp.map PS.sp)[k]?=_;rw[List.getElem?_map,hP];rfl
          exact (List.getElem?_eq_some_iff.1 this).2)
         have hfin:Hid (iw P.sp≠0→fA H.ma=iw P.sp):=Lib.hid fun hne=>by
          rw[hp4.out,qX k hkm hz.out (by rw[hE.out];exact hne),hE.out]
         have hnx:Hid (iw P.sp=0→∀j (hj:j<(H.ma.sp.map iw).length),j<k+1→(H.ma.sp.map iw)[j]=0):=Lib.hid fun h0 j hj hjk=>by
          by_cases e:j=k
          ·subst e;rw[hE.out];exact h0
          ·exact hz.out j hj (by omega)
         have hsp:Hid (iw P.sp=if (bF P.ar).1≠0 then (bF P.ar).1 else if cZ P.tb≠0 then cZ P.tb else if P.lv=false∧0<P.ar.length+(aI P.tb).length then 7 else 0):=Lib.hid rfl
         rw[hap]
         clear hz hP hE hkm
         have hps1:(tu P).all (·.oneCell')=true:=by
          rw[←Array.all_toList,List.all_eq_true];exact hgood.one
         go_wp2_with (first | (refine ay _ _ rfl bs (os+k*10) rfl rfl _ hrd _ underlying55 rfl space_size ?_) | (refine aL rfl _ _ _ rfl (tu P) rfl rfl rfl space_size hps1 ?_))
         intro w3 hb3 fx3
         have hbr3:=ag hbr hb3
         have hg3:=hgood.below hb3
         have hgl:=fx3.lt
         generalize wr.heap.size=gs at fx3 hgl ⊢
         clear hbr hb3 hrd hgood hps1
         have hcf:=fx3.cell
         unfold tu at hcf
         have hA:=hg3.ars
         go_wp2_with fail
         refine (Eg P.ar P.aa P.ac _ hA.rd (by have:=hA.le;have:=hA.mx;unfold maxLen at this;omega)).mono ?_
         rintro r w3' ⟨rfl,hb3'⟩
         have fx3':=fx3.ext hb3'
         have hbr3':=ag hbr3 hb3'
         have hg3':=hg3.below hb3'
         clear hcf fx3 hbr3 hg3 hb3' hA
         go_wp2_with (refine aL rfl _ _ _ rfl (Jl (bF P.ar)) rfl rfl rfl fau_size (by simp[Jl,Value.oneCell']) ?_)
         intro w4 hb4 ux
         have fx:=fx3'.ext hb4
         have hbr4:=ag hbr3' hb4
         have hg4:=hg3'.below hb4
         clear fx3' hbr3' hg3' hb4
         have hcu:=ux.cell
         unfold Jl at hcu
         by_cases c5:(bF P.ar).1=0
         ·rw[if_neg (by rw[c5];simp)] at hsp
          rw[c5] at hcu
          have hal:=(zR c5).1
          have hpl:(aI P.tb).length≤64:=mU P.tb 64
          have hws:IntKind.i64.wrap ((P.ar.length:Int)+((aI P.tb).length:Int))=(P.ar.length:Int)+((aI P.tb).length:Int):=IntWalk.i64_in _ (by omega)
          go_upto_region 17 with (fail)
          clear hcu ux c5
          go_wp2_with (refine ay _ _ rfl gs 2 rfl rfl _ (cB fx 2 8) _ underlying53 tab_agg tab_size ?_)
          refine (xP P.tb (mo P.ts) _ hg4.tb).mono ?_
          rintro r w6 ⟨rfl,hb6⟩
          replace fx:=fx.ext hb6
          replace hbr4:=ag hbr4 hb6
          replace hg4:=hg4.below hb6
          clear hb6
          by_cases c6:cZ P.tb=0
          ·rw[if_neg (by rw[c6];simp)] at hsp
           rw[c6]
           go_upto_region 20 with (fail)
           cases hlv:P.lv with
           | true=>
            have hs0:Hid (iw P.sp=0):=Lib.hid (by rw[hsp.out,if_neg (by rw[hlv];simp)])
            refine aG 14 [_,_,_,_,_,_,_,_,_,_,_,_,_,.v (.bool false)] (Gf gs 0 rfl rfl (Gl fx (V:=.bool true) (by simp[tu,hlv]) rfl rfl rfl rfl (Gk rfl (Gk rfl (Gk rfl (Gk rfl (Gk rfl (Gk rfl (Gk rfl (Gk rfl (Gk rfl (Gk rfl (Gk rfl (Gk rfl (aB))))))))))))))) (fun _=>rfl) rfl ?_
            intro y W5 hbW5 _
            have hbr5:=ag hbr4 hbW5
            clear hbW5
            have hall:=Lib.hid (hnx.out hs0.out)
            clear hws fx hg4
            go_wp2
            go_roundw
            case rel=>exact⟨k+1,by omega,by go_num,hbr5,hall⟩
            case measure=>simp[intOf];omega
           | false=>
            refine aG 14 [_,_,_,_,_,_,_,_,_,.r 9 ((lh w6.heap.size 3 1 (aI P.tb).length ((aI P.tb).map eH))),.v (.int .i64 (aI P.tb).length),_,_,.v (.bool (decide (0<(P.ar.length:Int)+((aI P.tb).length:Int))))] (Gf gs 0 rfl rfl (Gl fx (V:=.bool false) (by simp[tu,hlv]) rfl rfl rfl rfl (Gk rfl (Gk rfl (Gf gs 1 rfl rfl (Gl fx rfl rfl rfl rfl rfl (Gn rfl rfl rfl rfl (Gf gs 2 rfl rfl (Gr (.agg (mo P.ts)) (fun ρ y W hb hKn=>(bu rfl (aF rfl hKn) (cB (fx.ext hb) 2 8) underlying53 tab_agg tab_size)) rfl rfl (ae ?_ (ae ?_ (Gb (.int .i64 ((P.ar.length:Int)+((aI P.tb).length:Int))) (by simp[go_sem,hws]) rfl rfl rfl rfl rfl (Gb (.bool (decide (0<(P.ar.length:Int)+((aI P.tb).length:Int)))) (by simp[go_sem]) rfl rfl rfl rfl rfl (Gk rfl (aB))))))))))))))) (fun _=>rfl) rfl ?_
            ·intro ρ y W hw hn hb hd;have E112:=hw 112 8 rfl;have h8:y 8=_:=hd 8 rfl
             have EF:∀f,ρ (.func f) = .func (.func f) #[] #[]:=fun f=>hn (.func f) trivial
             refine aM _ _ (aQ 3 107 true true rfl rfl ((hw 107 3 rfl).trans (hd 3 rfl))) (aN rfl (EF _) func42 (by kernel_rfl) (by kernel_rfl) (by simp only[List.map_toArray,List.map_cons,List.map_nil,E112,h8,EF];rfl)) ?_
             refine (si P.tb (mo P.ts) W (hg4.below hb).tb).mono ?_
             rintro r w1 ⟨v,rfl,ho,hb1⟩
             exact⟨_,rfl,hb1,ho.mono hb.size⟩
            ·intro ρ y W hw hn hb hd;have E113:=hw 113 9 rfl;have h9:=hd 9 rfl
             obtain⟨a9,c9,e9,_⟩:=Own.rd h9
             refine aj (.int .i64 (aI P.tb).length) (aQ 3 107 true true rfl rfl ((hw 107 3 rfl).trans (hd 3 rfl))) (Cs rfl (E113.trans e9) rfl) rfl
            intro y W5 hbW5 hRW5
            have hy9:((lh w6.heap.size 3 1 (aI P.tb).length ((aI P.tb).map eH))).r (y 9) W5:=hRW5 9 (by decide)
            clear hRW5
            have hbr5:=ag hbr4 hbW5
            clear hbW5
            by_cases c7:0<P.ar.length+(aI P.tb).length
            ·have hq:Hid (fA H.ma=7):=Lib.hid (by rw[hfin.out (by rw[hsp.out,if_pos ⟨hlv,c7⟩];decide),hsp.out,if_pos ⟨hlv,c7⟩])
             have hd:decide (0<(P.ar.length:Int)+((aI P.tb).length:Int))=true:=decide_eq_true (by omega)
             rw[hd]
             clear hws fx hg4 hd c7
             go_wp2
             go_ret
             rw[hq.out]
             exact⟨rfl,hbr5⟩
            ·have hs0:Hid (iw P.sp=0):=Lib.hid (by rw[hsp.out,if_neg (fun h'=>c7 h'.2)])
             have hall:=Lib.hid (hnx.out hs0.out)
             have hd:decide (0<(P.ar.length:Int)+((aI P.tb).length:Int))=false:=decide_eq_false (by omega)
             rw[hd]
             clear hws fx hg4 hd c7
             go_wp2
             go_roundw
             case rel=>exact⟨k+1,by omega,by go_num,hbr5,hall⟩
             case measure=>simp[intOf];omega
          ·rw[if_pos c6] at hsp
           have hq:Hid (fA H.ma=cZ P.tb):=Lib.hid (by rw[hfin.out (by rw[hsp.out];exact c6),hsp.out])
           generalize cZ P.tb=E at *
           go_wp2
           go_ret
           rw[hq.out]
           exact⟨rfl,hbr4⟩
         ·rw[if_pos c5] at hsp
          have hq:Hid (fA H.ma=(bF P.ar).1):=Lib.hid (by rw[hfin.out (by rw[hsp.out];exact c5),hsp.out])
          generalize (bF P.ar).1=E at *
          go_wp2
          go_ret
          rw[hq.out]
          exact⟨rfl,hbr4⟩
        ·have hki:¬(k:Int)<(H.sp.length:Int):=by omega
         have hq:Hid (fA H.ma=0):=Lib.hid (by rw[hp4.out,nO fun i hi=>hz.out i hi (by rw[hlen.out] at hi;omega)])
         clear hz
         go_wp2
         go_ret
         rw[hq.out]
         exact⟨rfl,hbr⟩
    ·have hp7:Hid (fA H.ma=7):=Lib.hid (by rw[hP.out,if_pos (.inr (.inl c2))])
     refine aG 31 [_,_,_,_,_,_,_,_,_,_,_,_,_,_,_,_,_,_,_,_,_,_,_,_,_,_,_,_,_,_,.v (.bool true)] (Gk rfl (Gk rfl (Gf b 3 rfl rfl (Gf b 3 rfl rfl (Gl hbkr rfl rfl rfl rfl rfl (Gn rfl rfl rfl rfl (Gk rfl (Gk rfl (Gf b 2 rfl rfl (Gl hbkr rfl rfl rfl rfl rfl (Gn rfl rfl rfl rfl (Gb (.bool false) (by simp[go_sem,c1]) rfl rfl rfl rfl rfl (Gk rfl (Gk rfl (Gk rfl (Gf b 5 rfl rfl (Gf b 5 rfl rfl (Gl hbkr rfl rfl rfl rfl rfl (Gn rfl rfl rfl rfl (Gk rfl (Gk rfl (Gf b 7 rfl rfl (Gf b 8 rfl rfl (Gl hbkr rfl rfl rfl rfl rfl (Gb (.bool true) (by simp[go_sem,c2]) rfl rfl rfl rfl rfl (Gk rfl (Gk rfl (Gk rfl (Gk rfl (Gk rfl (Gk rfl (aB)))))))))))))))))))))))))))))))) (fun _=>rfl) rfl ?_
     intro y W2 hbW2 _
     have hbr2:=ag hbr hbW2
     clear hbW2
     clear c1 c2
     go_wp2
     go_ret
     rw[hp7.out]
     exact⟨rfl,hbr2⟩
   ·have hp7:Hid (fA H.ma=7):=Lib.hid (by rw[hP.out,if_pos (.inl c1)])
    have c1i:¬((H.sw.blocks.length:Int)=(H.sl.length:Int)):=by omega
    have c2:=c1
    refine aG 31 [_,_,_,_,_,_,_,_,_,_,_,_,_,_,_,_,_,_,_,_,_,_,_,_,_,_,_,_,_,_,.v (.bool true)] (Gk rfl (Gk rfl (Gf b 3 rfl rfl (Gf b 3 rfl rfl (Gl hbkr rfl rfl rfl rfl rfl (Gn rfl rfl rfl rfl (Gk rfl (Gk rfl (Gf b 2 rfl rfl (Gl hbkr rfl rfl rfl rfl rfl (Gn rfl rfl rfl rfl (Gb (.bool true) (by simp[go_sem,c1i]) rfl rfl rfl rfl rfl (Gk rfl (Gk rfl (Gk rfl (Gk rfl (Gk rfl (Gk rfl (Gk rfl (Gk rfl (Gk rfl (Gk rfl (Gk rfl (Gk rfl (Gk rfl (Gk rfl (Gk rfl (Gk rfl (Gk rfl (Gk rfl (Gk rfl (aB)))))))))))))))))))))))))))))))) (fun _=>rfl) rfl ?_
    intro y W2 hbW2 _
    have hbr2:=ag hbr hbW2
    clear hbW2
    clear c1 c1i c2
    go_wp2
    go_ret
    rw[hp7.out]
    exact⟨rfl,hbr2⟩
theorem oz {p:Option Cc} {c:Cc} (h:c.f<0∨(m.st.fs.length:Int)≤c.f∨c.i<0∨((aT m.st c.f).b.length:Int)≤c.i∨c.k<0∨(m.m.fs.length:Int)≤c.k):oo m p c=3:=by
 unfold oo;rw[if_pos h]
theorem EM (H:MH) (b:Nat) (w:World) (hbk:aD w b (dC H) 41) (h:xA w H) :
  Calls Tryz.prog 67 #[.pointer (some ⟨b,0,none⟩)] w fun r w'=>r = .returned (.int .i64 (cachedE H.ma))∧Below w.heap.size w w':=by
 have hmm:=h.ca.le
 have hmx:=h.ca.mx
 unfold maxLen at hmx
 go_enter func67,ntmps67
 have hcb:=hbk.cell
 unfold dC at hcb
 obtain⟨L,hL⟩:∃L,L=(List.range H.ca.length).map fun k=>oo H.ma (rU H.ca k) (H.ca.getD k zCc):=⟨_,rfl⟩
 have hLl:Hid (L.length=H.ca.length):=Lib.hid (by rw[hL];simp)
 have hLE:Hid (cachedE H.ma=firstE L):=Lib.hid (by rw[hL];rfl)
 have hLg:Hid (∀k (hk:k<L.length),L[k]=oo H.ma (rU H.ca k) (H.ca.getD k zCc)):=Lib.hid fun k hk=>by simp[hL]
 clear hL
 go_upto_region 2 with (fail)
 clear hcb
 go_loopw [11] (fun i wr => ∃(k:Nat),k≤H.ca.length∧i = .int .i64 k∧Below w.heap.size w wr∧Hid (∀j (hj:j<L.length),j<k→L[j]=0)) (fun i _=>H.ca.length-(intOf i).toNat)
 case atStart=>exact⟨0,Nat.zero_le _,rfl,Below.refl _ _,Lib.hid fun j _ hj=>absurd hj (Nat.not_lt_zero _)⟩
 case round=>
  obtain⟨k,hk,rfl,hbr,hz⟩:=hrel
  by_cases hkl:k<H.ca.length
  ·obtain⟨bc,oc,hac,hrd⟩:=kJ nJ (by decide) (h.below hbr).ca.rd k hkl
   have hki:(k:Int)<(H.ca.length:Int):=by omega
   have hkL:k<L.length:=by rw[hLl.out];exact hkl
   have hE:Hid (L[k]=oo H.ma (rU H.ca k) H.ca[k]):=Lib.hid (by rw[hLg.out k hkL,List.getD_eq_getElem?_getD,List.getElem?_eq_getElem hkl];rfl)
   have hfin:Hid (L[k]≠0→cachedE H.ma=L[k]):=Lib.hid fun hne=>by rw[hLE.out,qX k hkL hz.out hne]
   have hnx:Hid (L[k]=0→∀j (hj:j<L.length),j<k+1→L[j]=0):=Lib.hid fun h0 j hj hjk=>by
    by_cases e:j=k
    ·subst e;exact h0
    ·exact hz.out j hj (by omega)
   generalize hLk:L[k]=Lk at *
   have hpv:Hid (rU H.ca k=if k=0 then none else H.ca[k-1]?):=Lib.hid rfl
   generalize hc:H.ca[k]=c at *
   rw[hac]
   clear hz hkL hLk hc
   go_wp2_with (first | (refine ay _ _ rfl bc (oc+k*3) rfl rfl _ hrd _ underlying106 rfl cached_size ?_) | (refine aL rfl _ _ _ rfl (wL c) rfl rfl rfl cached_size (uz c) ?_))
   intro w3 hb3 cx
   have hbr3:=ag hbr hb3
   have hbk3:=hbk.ext hbr3
   have hr3:=h.below hbr3
   generalize wr.heap.size=gc at cx ⊢
   clear hb3 hrd hbr
   go_upto_region 4 with (fail)
   obtain⟨bf,of,F,P,hai,hFl,hcF,hcs⟩:∃(bf of F:Nat) (P:PF),(0≤c.f→c.f<H.fi.length→H.ai=some ⟨bf,of,none⟩)∧(0≤c.f→c.f<H.fi.length→F<H.fi.length)∧(0≤c.f→c.f<H.fi.length→c.f=(F:Int)∧aT H.ma.st c.f=P.fi)∧(0≤c.f→c.f<H.fi.length→∀W,Below w3.heap.size w3 W→W.cell? ⟨bf,of+F*2+1,none⟩=some (.slice P.a P.l.length P.c)):=by
    by_cases hc0:0≤c.f∧c.f<H.fi.length
    ·have hFl:c.f.toNat<H.fi.length:=by omega
     obtain⟨bf,of,P,hai,hP,hcn,hcs⟩:=zP hr3.st.rd c.f.toNat hFl
     refine⟨bf,of,c.f.toNat,P,fun _ _=>hai,fun _ _=>hFl,fun _ _=>⟨by omega,?_⟩,fun _ _ W hb => ?_⟩
     ·have:(H.fi.map PF.fi)[c.f.toNat]?=some P.fi:=by rw[List.getElem?_map,hP];rfl
      have h2:=ng (s:=H.ma.st) (F:=c.f.toNat) this
      rw[←h2]
      congr 1;omega
     ·obtain⟨bf',of',P',hai',hP',hcn',hcs'⟩:=zP (hr3.below hb).st.rd c.f.toNat hFl
      rw[hP] at hP'
      cases hP'
      rw[hai] at hai'
      cases hai'
      exact hcs'
    ·exact⟨0,0,0,⟨0,none,[],0⟩,fun h1 h2=>absurd ⟨h1,h2⟩ hc0,fun h1 h2=>absurd ⟨h1,h2⟩ hc0,fun h1 h2=>absurd ⟨h1,h2⟩ hc0,fun h1 h2=>absurd ⟨h1,h2⟩ hc0⟩
   by_cases c1:c.f<0
   ·have hbad:Hid (c.f<0∨(H.ma.st.fs.length:Int)≤c.f∨c.i<0∨((aT H.ma.st c.f).b.length:Int)≤c.i∨c.k<0∨(H.ma.m.fs.length:Int)≤c.k):=Lib.hid (.inl c1)
    refine aG 51 [_,_,_,_,_,_,_,_,_,_,_,_,_,_,_,_,_,_,_,_,_,_,_,_,_,_,_,_,_,_,_,_,_,_,_,_,_,_,_,_,_,_,_,_,_,_,_,_,_,_,.v (.bool true)] (Gf gc 0 rfl rfl (Gl cx rfl rfl rfl rfl rfl (Gb (.bool true) (by simp[go_sem,c1]) rfl rfl rfl rfl rfl (Gk rfl (Gk rfl (Gk rfl (Gk rfl (Gk rfl (Gk rfl (Gk rfl (Gk rfl (Gk rfl (Gk rfl (Gk rfl (Gk rfl (Gk rfl (Gk rfl (Gk rfl (Gk rfl (Gk rfl (Gk rfl (Gk rfl (Gk rfl (Gk rfl (Gk rfl (Gk rfl (Gk rfl (Gk rfl (Gk rfl (Gk rfl (Gk rfl (Gk rfl (Gk rfl (Gk rfl (Gk rfl (Gk rfl (Gk rfl (Gk rfl (Gk rfl (Gk rfl (Gk rfl (Gk rfl (Gk rfl (Gk rfl (Gk rfl (Gk rfl (Gk rfl (Gk rfl (Gk rfl (Gk rfl (Gk rfl (aB)))))))))))))))))))))))))))))))))))))))))))))))))))) (fun _=>rfl) rfl ?_
    intro y W4 hbW4 _
    have hbr4:=ag hbr3 hbW4
    replace cx:=cx.ext hbW4
    clear hbW4
    have hL3:Hid (Lk=3):=Lib.hid (by rw[hE.out];exact oz hbad.out)
    have hq:Hid (cachedE H.ma=3):=Lib.hid (by rw[hfin.out (by rw[hL3.out];decide),hL3.out])
    clear hai hFl hcF hcs
    go_wp2
    go_ret
    rw[hq.out]
    exact⟨rfl,hbr4⟩
   have hfl:Hid (H.ma.st.fs.length=H.fi.length):=Lib.hid (List.length_map _)
   by_cases c2:(H.fi.length:Int)≤c.f
   ·have hbad:Hid (c.f<0∨(H.ma.st.fs.length:Int)≤c.f∨c.i<0∨((aT H.ma.st c.f).b.length:Int)≤c.i∨c.k<0∨(H.ma.m.fs.length:Int)≤c.k):=Lib.hid (.inr (.inl (by rw[hfl.out];exact c2)))
    refine aG 51 [_,_,_,_,_,_,_,_,_,_,_,_,_,_,_,_,_,_,_,_,_,_,_,_,_,_,_,_,_,_,_,_,_,_,_,_,_,_,_,_,_,_,_,_,_,_,_,_,_,_,.v (.bool true)] (Gf gc 0 rfl rfl (Gl cx rfl rfl rfl rfl rfl (Gb (.bool false) (by simp[go_sem,c1]) rfl rfl rfl rfl rfl (Gk rfl (Gf gc 0 rfl rfl (Gl cx rfl rfl rfl rfl rfl (Gk rfl (Gk rfl (Gf b 7 rfl rfl (Gf b 7 rfl rfl (Gl hbk3 rfl rfl rfl rfl rfl (Gn rfl rfl rfl rfl (Gb (.bool true) (by simp[go_sem,c2]) rfl rfl rfl rfl rfl (Gk rfl (Gk rfl (Gk rfl (Gk rfl (Gk rfl (Gk rfl (Gk rfl (Gk rfl (Gk rfl (Gk rfl (Gk rfl (Gk rfl (Gk rfl (Gk rfl (Gk rfl (Gk rfl (Gk rfl (Gk rfl (Gk rfl (Gk rfl (Gk rfl (Gk rfl (Gk rfl (Gk rfl (Gk rfl (Gk rfl (Gk rfl (Gk rfl (Gk rfl (Gk rfl (Gk rfl (Gk rfl (Gk rfl (Gk rfl (Gk rfl (Gk rfl (Gk rfl (Gk rfl (aB)))))))))))))))))))))))))))))))))))))))))))))))))))) (fun _=>rfl) rfl ?_
    intro y W4 hbW4 _
    have hbr4:=ag hbr3 hbW4
    replace cx:=cx.ext hbW4
    clear hbW4
    have hL3:Hid (Lk=3):=Lib.hid (by rw[hE.out];exact oz hbad.out)
    have hq:Hid (cachedE H.ma=3):=Lib.hid (by rw[hfin.out (by rw[hL3.out];decide),hL3.out])
    clear hai hFl hcF hcs
    go_wp2
    go_ret
    rw[hq.out]
    exact⟨rfl,hbr4⟩
   replace hai:=hai (by omega) (by omega)
   replace hFl:=hFl (by omega) (by omega)
   obtain⟨hcF,hfA⟩:=hcF (by omega) (by omega)
   replace hcs:=hcs (by omega) (by omega)
   have hfA':=Lib.hid hfA
   clear hfA
   by_cases c3:c.i<0
   ·have hbad:Hid (c.f<0∨(H.ma.st.fs.length:Int)≤c.f∨c.i<0∨((aT H.ma.st c.f).b.length:Int)≤c.i∨c.k<0∨(H.ma.m.fs.length:Int)≤c.k):=Lib.hid (.inr (.inr (.inl c3)))
    refine aG 51 [_,_,_,_,_,_,_,_,_,_,_,_,_,_,_,_,_,_,_,_,_,_,_,_,_,_,_,_,_,_,_,_,_,_,_,_,_,_,_,_,_,_,_,_,_,_,_,_,_,_,.v (.bool true)] (Gf gc 0 rfl rfl (Gl cx rfl rfl rfl rfl rfl (Gb (.bool false) (by simp[go_sem,c1]) rfl rfl rfl rfl rfl (Gk rfl (Gf gc 0 rfl rfl (Gl cx rfl rfl rfl rfl rfl (Gk rfl (Gk rfl (Gf b 7 rfl rfl (Gf b 7 rfl rfl (Gl hbk3 rfl rfl rfl rfl rfl (Gn rfl rfl rfl rfl (Gb (.bool false) (by simp[go_sem,c2]) rfl rfl rfl rfl rfl (Gk rfl (Gk rfl (Gf gc 1 rfl rfl (Gl cx rfl rfl rfl rfl rfl (Gb (.bool true) (by simp[go_sem,c3]) rfl rfl rfl rfl rfl (Gk rfl (Gk rfl (Gk rfl (Gk rfl (Gk rfl (Gk rfl (Gk rfl (Gk rfl (Gk rfl (Gk rfl (Gk rfl (Gk rfl (Gk rfl (Gk rfl (Gk rfl (Gk rfl (Gk rfl (Gk rfl (Gk rfl (Gk rfl (Gk rfl (Gk rfl (Gk rfl (Gk rfl (Gk rfl (Gk rfl (Gk rfl (Gk rfl (Gk rfl (Gk rfl (Gk rfl (Gk rfl (Gk rfl (aB)))))))))))))))))))))))))))))))))))))))))))))))))))) (fun _=>rfl) rfl ?_
    intro y W4 hbW4 _
    have hbr4:=ag hbr3 hbW4
    replace cx:=cx.ext hbW4
    clear hbW4
    have hL3:Hid (Lk=3):=Lib.hid (by rw[hE.out];exact oz hbad.out)
    have hq:Hid (cachedE H.ma=3):=Lib.hid (by rw[hfin.out (by rw[hL3.out];decide),hL3.out])
    clear hai hFl hcF hcs
    go_wp2
    go_ret
    rw[hq.out]
    exact⟨rfl,hbr4⟩
   by_cases c4:(P.l.length:Int)≤c.i
   ·have hbad:Hid (c.f<0∨(H.ma.st.fs.length:Int)≤c.f∨c.i<0∨((aT H.ma.st c.f).b.length:Int)≤c.i∨c.k<0∨(H.ma.m.fs.length:Int)≤c.k):=Lib.hid (.inr (.inr (.inr (.inl (by rw[hfA'.out];exact c4)))))
    refine aG 51 [_,_,_,_,_,_,_,_,_,_,_,_,_,_,_,_,_,_,_,_,_,_,_,_,_,_,_,_,_,_,_,_,_,_,_,_,_,_,_,_,_,_,_,_,_,_,_,_,_,_,.v (.bool true)] (Gf gc 0 rfl rfl (Gl cx rfl rfl rfl rfl rfl (Gb (.bool false) (by simp[go_sem,c1]) rfl rfl rfl rfl rfl (Gk rfl (Gf gc 0 rfl rfl (Gl cx rfl rfl rfl rfl rfl (Gk rfl (Gk rfl (Gf b 7 rfl rfl (Gf b 7 rfl rfl (Gl hbk3 rfl rfl rfl rfl rfl (Gn rfl rfl rfl rfl (Gb (.bool false) (by simp[go_sem,c2]) rfl rfl rfl rfl rfl (Gk rfl (Gk rfl (Gf gc 1 rfl rfl (Gl cx rfl rfl rfl rfl rfl (Gb (.bool false) (by simp[go_sem,c3]) rfl rfl rfl rfl rfl (Gk rfl (Gk rfl (Gf gc 1 rfl rfl (Gl cx rfl rfl rfl rfl rfl (Gk rfl (Gk rfl (Gf b 7 rfl rfl (Gf b 7 rfl rfl (Gl hbk3 (V:=.slice (some ⟨bf,of,none⟩) H.fi.length H.ci) (by simp[dC,hai]) rfl rfl rfl rfl (Gf gc 0 rfl rfl (Gl cx (V:=.int .i64 (F:Int)) (by simp[wL,hcF]) rfl rfl rfl rfl (Gr (.pointer (some ⟨bf,of+F*2,none⟩)) (fun ρ y W hb hKn=>(bB rfl (aF rfl hKn) (aF rfl hKn) hFl underlying35 file_size)) rfl rfl (Gf bf (of+F*2+1) rfl rfl (Gc (.slice P.a P.l.length P.c) (fun W hb=>by simp[hcs _ hb]) rfl rfl rfl rfl (Gn rfl rfl rfl rfl (Gb (.bool true) (by simp[go_sem,c4]) rfl rfl rfl rfl rfl (Gk rfl (Gk rfl (Gk rfl (Gk rfl (Gk rfl (Gk rfl (Gk rfl (Gk rfl (Gk rfl (Gk rfl (Gk rfl (Gk rfl (Gk rfl (Gk rfl (Gk rfl (Gk rfl (Gk rfl (aB)))))))))))))))))))))))))))))))))))))))))))))))))))) (fun _=>rfl) rfl ?_
    intro y W4 hbW4 _
    have hbr4:=ag hbr3 hbW4
    replace cx:=cx.ext hbW4
    clear hbW4
    have hL3:Hid (Lk=3):=Lib.hid (by rw[hE.out];exact oz hbad.out)
    have hq:Hid (cachedE H.ma=3):=Lib.hid (by rw[hfin.out (by rw[hL3.out];decide),hL3.out])
    clear hai hFl hcF hcs
    go_wp2
    go_ret
    rw[hq.out]
    exact⟨rfl,hbr4⟩
   by_cases c5:c.k<0
   ·have hbad:Hid (c.f<0∨(H.ma.st.fs.length:Int)≤c.f∨c.i<0∨((aT H.ma.st c.f).b.length:Int)≤c.i∨c.k<0∨(H.ma.m.fs.length:Int)≤c.k):=Lib.hid (.inr (.inr (.inr (.inr (.inl c5)))))
    refine aG 51 [_,_,_,_,_,_,_,_,_,_,_,_,_,_,_,_,_,_,_,_,_,_,_,_,_,_,_,_,_,_,_,_,_,_,_,_,_,_,_,_,_,_,_,_,_,_,_,_,_,_,.v (.bool true)] (Gf gc 0 rfl rfl (Gl cx rfl rfl rfl rfl rfl (Gb (.bool false) (by simp[go_sem,c1]) rfl rfl rfl rfl rfl (Gk rfl (Gf gc 0 rfl rfl (Gl cx rfl rfl rfl rfl rfl (Gk rfl (Gk rfl (Gf b 7 rfl rfl (Gf b 7 rfl rfl (Gl hbk3 rfl rfl rfl rfl rfl (Gn rfl rfl rfl rfl (Gb (.bool false) (by simp[go_sem,c2]) rfl rfl rfl rfl rfl (Gk rfl (Gk rfl (Gf gc 1 rfl rfl (Gl cx rfl rfl rfl rfl rfl (Gb (.bool false) (by simp[go_sem,c3]) rfl rfl rfl rfl rfl (Gk rfl (Gk rfl (Gf gc 1 rfl rfl (Gl cx rfl rfl rfl rfl rfl (Gk rfl (Gk rfl (Gf b 7 rfl rfl (Gf b 7 rfl rfl (Gl hbk3 (V:=.slice (some ⟨bf,of,none⟩) H.fi.length H.ci) (by simp[dC,hai]) rfl rfl rfl rfl (Gf gc 0 rfl rfl (Gl cx (V:=.int .i64 (F:Int)) (by simp[wL,hcF]) rfl rfl rfl rfl (Gr (.pointer (some ⟨bf,of+F*2,none⟩)) (fun ρ y W hb hKn=>(bB rfl (aF rfl hKn) (aF rfl hKn) hFl underlying35 file_size)) rfl rfl (Gf bf (of+F*2+1) rfl rfl (Gc (.slice P.a P.l.length P.c) (fun W hb=>by simp[hcs _ hb]) rfl rfl rfl rfl (Gn rfl rfl rfl rfl (Gb (.bool false) (by simp[go_sem,c4]) rfl rfl rfl rfl rfl (Gk rfl (Gk rfl (Gf gc 2 rfl rfl (Gl cx rfl rfl rfl rfl rfl (Gb (.bool true) (by simp[go_sem,c5]) rfl rfl rfl rfl rfl (Gk rfl (Gk rfl (Gk rfl (Gk rfl (Gk rfl (Gk rfl (Gk rfl (Gk rfl (Gk rfl (Gk rfl (Gk rfl (Gk rfl (aB)))))))))))))))))))))))))))))))))))))))))))))))))))) (fun _=>rfl) rfl ?_
    intro y W4 hbW4 _
    have hbr4:=ag hbr3 hbW4
    replace cx:=cx.ext hbW4
    clear hbW4
    have hL3:Hid (Lk=3):=Lib.hid (by rw[hE.out];exact oz hbad.out)
    have hq:Hid (cachedE H.ma=3):=Lib.hid (by rw[hfin.out (by rw[hL3.out];decide),hL3.out])
    clear hai hFl hcF hcs
    go_wp2
    go_ret
    rw[hq.out]
    exact⟨rfl,hbr4⟩
   by_cases c6:(H.m.fs.length:Int)≤c.k
   ·have hbad:Hid (c.f<0∨(H.ma.st.fs.length:Int)≤c.f∨c.i<0∨((aT H.ma.st c.f).b.length:Int)≤c.i∨c.k<0∨(H.ma.m.fs.length:Int)≤c.k):=Lib.hid (.inr (.inr (.inr (.inr (.inr c6)))))
    refine aG 51 [_,_,_,_,_,_,_,_,_,_,_,_,_,_,_,_,_,_,_,_,_,_,_,_,_,_,_,_,_,_,_,_,_,_,_,_,_,_,_,_,_,_,_,_,_,_,_,_,_,_,.v (.bool true)] (Gf gc 0 rfl rfl (Gl cx rfl rfl rfl rfl rfl (Gb (.bool false) (by simp[go_sem,c1]) rfl rfl rfl rfl rfl (Gk rfl (Gf gc 0 rfl rfl (Gl cx rfl rfl rfl rfl rfl (Gk rfl (Gk rfl (Gf b 7 rfl rfl (Gf b 7 rfl rfl (Gl hbk3 rfl rfl rfl rfl rfl (Gn rfl rfl rfl rfl (Gb (.bool false) (by simp[go_sem,c2]) rfl rfl rfl rfl rfl (Gk rfl (Gk rfl (Gf gc 1 rfl rfl (Gl cx rfl rfl rfl rfl rfl (Gb (.bool false) (by simp[go_sem,c3]) rfl rfl rfl rfl rfl (Gk rfl (Gk rfl (Gf gc 1 rfl rfl (Gl cx rfl rfl rfl rfl rfl (Gk rfl (Gk rfl (Gf b 7 rfl rfl (Gf b 7 rfl rfl (Gl hbk3 (V:=.slice (some ⟨bf,of,none⟩) H.fi.length H.ci) (by simp[dC,hai]) rfl rfl rfl rfl (Gf gc 0 rfl rfl (Gl cx (V:=.int .i64 (F:Int)) (by simp[wL,hcF]) rfl rfl rfl rfl (Gr (.pointer (some ⟨bf,of+F*2,none⟩)) (fun ρ y W hb hKn=>(bB rfl (aF rfl hKn) (aF rfl hKn) hFl underlying35 file_size)) rfl rfl (Gf bf (of+F*2+1) rfl rfl (Gc (.slice P.a P.l.length P.c) (fun W hb=>by simp[hcs _ hb]) rfl rfl rfl rfl (Gn rfl rfl rfl rfl (Gb (.bool false) (by simp[go_sem,c4]) rfl rfl rfl rfl rfl (Gk rfl (Gk rfl (Gf gc 2 rfl rfl (Gl cx rfl rfl rfl rfl rfl (Gb (.bool false) (by simp[go_sem,c5]) rfl rfl rfl rfl rfl (Gk rfl (Gk rfl (Gf gc 2 rfl rfl (Gl cx rfl rfl rfl rfl rfl (Gk rfl (Gk rfl (Gf b 0 rfl rfl (Gf b 0 rfl rfl (Gl hbk3 rfl rfl rfl rfl rfl (Gn rfl rfl rfl rfl (Gb (.bool true) (by simp[go_sem,c6]) rfl rfl rfl rfl rfl (Gk rfl (aB)))))))))))))))))))))))))))))))))))))))))))))))))))) (fun _=>rfl) rfl ?_
    intro y W4 hbW4 _
    have hbr4:=ag hbr3 hbW4
    replace cx:=cx.ext hbW4
    clear hbW4
    have hL3:Hid (Lk=3):=Lib.hid (by rw[hE.out];exact oz hbad.out)
    have hq:Hid (cachedE H.ma=3):=Lib.hid (by rw[hfin.out (by rw[hL3.out];decide),hL3.out])
    clear hai hFl hcF hcs
    go_wp2
    go_ret
    rw[hq.out]
    exact⟨rfl,hbr4⟩
   refine aG 51 [_,_,_,_,_,_,_,_,_,_,_,_,_,_,_,_,_,_,_,_,_,_,_,_,_,_,_,_,_,_,_,_,_,_,_,_,_,_,_,_,_,_,_,_,_,_,_,_,_,_,.v (.bool false)] (Gf gc 0 rfl rfl (Gl cx rfl rfl rfl rfl rfl (Gb (.bool false) (by simp[go_sem,c1]) rfl rfl rfl rfl rfl (Gk rfl (Gf gc 0 rfl rfl (Gl cx rfl rfl rfl rfl rfl (Gk rfl (Gk rfl (Gf b 7 rfl rfl (Gf b 7 rfl rfl (Gl hbk3 rfl rfl rfl rfl rfl (Gn rfl rfl rfl rfl (Gb (.bool false) (by simp[go_sem,c2]) rfl rfl rfl rfl rfl (Gk rfl (Gk rfl (Gf gc 1 rfl rfl (Gl cx rfl rfl rfl rfl rfl (Gb (.bool false) (by simp[go_sem,c3]) rfl rfl rfl rfl rfl (Gk rfl (Gk rfl (Gf gc 1 rfl rfl (Gl cx rfl rfl rfl rfl rfl (Gk rfl (Gk rfl (Gf b 7 rfl rfl (Gf b 7 rfl rfl (Gl hbk3 (V:=.slice (some ⟨bf,of,none⟩) H.fi.length H.ci) (by simp[dC,hai]) rfl rfl rfl rfl (Gf gc 0 rfl rfl (Gl cx (V:=.int .i64 (F:Int)) (by simp[wL,hcF]) rfl rfl rfl rfl (Gr (.pointer (some ⟨bf,of+F*2,none⟩)) (fun ρ y W hb hKn=>(bB rfl (aF rfl hKn) (aF rfl hKn) hFl underlying35 file_size)) rfl rfl (Gf bf (of+F*2+1) rfl rfl (Gc (.slice P.a P.l.length P.c) (fun W hb=>by simp[hcs _ hb]) rfl rfl rfl rfl (Gn rfl rfl rfl rfl (Gb (.bool false) (by simp[go_sem,c4]) rfl rfl rfl rfl rfl (Gk rfl (Gk rfl (Gf gc 2 rfl rfl (Gl cx rfl rfl rfl rfl rfl (Gb (.bool false) (by simp[go_sem,c5]) rfl rfl rfl rfl rfl (Gk rfl (Gk rfl (Gf gc 2 rfl rfl (Gl cx rfl rfl rfl rfl rfl (Gk rfl (Gk rfl (Gf b 0 rfl rfl (Gf b 0 rfl rfl (Gl hbk3 rfl rfl rfl rfl rfl (Gn rfl rfl rfl rfl (Gb (.bool false) (by simp[go_sem,c6]) rfl rfl rfl rfl rfl (Gk rfl (aB)))))))))))))))))))))))))))))))))))))))))))))))))))) (fun _=>rfl) rfl ?_
   intro y W4 hbW4 _
   have hbr4:=ag hbr3 hbW4
   replace cx:=cx.ext hbW4
   clear hbW4
   obtain⟨K,hcK⟩:∃K:Nat,c.k=K:=⟨c.k.toNat,by omega⟩
   have hKl:K<H.m.fs.length:=by omega
   have hbk4:=hbk.ext hbr4
   have hr4:=h.below hbr4
   obtain⟨bg,og,haf,hfrd⟩:=kJ eB (by decide) hr4.fr.rd K hKl
   have hE7:Hid (Lk=if (aO H.ma K).r<1∨(aO H.ma K).f≠c.f∨(aO H.ma K).i≠c.i then 7 else match rU H.ca k with
    | none=>0
    | some q=>if c.f<q.f∨q.f=c.f∧c.i≤q.i then 2 else 0):=Lib.hid (by
    rw[hE.out]
    unfold oo
    rw[if_neg (by rw[hfl.out,hfA'.out];show ¬(c.f<0∨(H.fi.length:Int)≤c.f∨c.i<0∨(P.l.length:Int)≤c.i∨c.k<0∨(H.m.fs.length:Int)≤c.k);omega),hcK]
    rfl)
   have hxf:H.m.fs[K]=aO H.ma K:=by
    have:=rW (m:=H.ma) (f:=K) hKl
    have h2:H.m.fs[K]?=some (aO H.ma K):=this
    rw[List.getElem?_eq_getElem hKl] at h2
    exact Option.some.inj h2
   rw[hxf] at hfrd
   generalize aO H.ma K=x at *
   clear hxf hai hFl hcs hfA' hfl hbk3 hr3 c2 c3 c4 c5 c6 c1 hE hcF
   go_upto_region 6 with (fail)
   refine aG 10 [_,_,_,_,_,_,_,_,_,.r 9 ((iT W4.heap.size 81 13))] (Gk rfl (Gk rfl (Gf b 0 rfl rfl (Gf b 0 rfl rfl (Gl hbk4 (V:=.slice (some ⟨bg,og,none⟩) H.m.fs.length H.cf) (by simp[dC,haf]) rfl rfl rfl rfl (Gf gc 2 rfl rfl (Gl cx (V:=.int .i64 (K:Int)) (by simp[wL,hcK]) rfl rfl rfl rfl (Gr (.pointer (some ⟨bg,og+K*13,none⟩)) (fun ρ y W hb hKn=>(bB rfl (aF rfl hKn) (aF rfl hKn) hKl underlying26 frame_size)) rfl rfl (Gr (.agg (uP x)) (fun ρ y W hb hKn=>(bu rfl (aF rfl hKn) (hfrd.below hb) underlying81 rfl frame_size)) rfl rfl (ae ?_ (aB))))))))))) (fun _=>rfl) rfl ?_
   ·intro ρ y W hw hn hb hd
    refine iG (.pointer (some ⟨W.heap.size,0,none⟩)) (ah rfl) (by simp[execOp,go_sem]) ((Below.refl _ _).alloc (Nat.le_refl _) (.cells #[.int .u8 0,.int .u8 0,.int .u8 0,.int .u8 0,.int .u8 0,.int .u8 0,.int .u8 0,.int .u8 0,.int .i64 0,.bool false,.bool false,.int .i64 0,.int .i64 0] 81)) ?_
    exact⟨_,_,rfl,hb.size,aD.new _ _ _,rfl⟩
   intro y W5 hbW5 hRW5
   have hy9:((iT W4.heap.size 81 13)).r (y 9) W5:=hRW5 9 (by decide)
   clear hRW5
   obtain⟨gx,curx,hgx,hgxs,hbx,hszx⟩:=hy9
   rw[hgx]
   go_wp2_with (refine fq rfl _ _ _ rfl gx 0 (uP x) rfl rfl _ _ hbx (by rw[hszx];exact Nat.le_refl _) frame_size (qg x) ?_)
   intro w6 hb6 hg6
   rw[ik _ _ (by rw[hszx];rfl)] at hb6
   have hbel6:Below W4.heap.size W4 w6:=hbW5.grown hg6 hbW5.size (fun k hk=>by cases hk;exact hgxs)
   have hbr6:=ag hbr4 hbel6
   have cx6:=cx.ext hbel6
   have hbk6:=hbk.ext hbr6
   clear hbx hbW5 hg6 cx hbk4 hr4 hfrd hbel6 hgx
   have hcx:=hb6.cell
   unfold uP at hcx
   have hcc:=cx6.cell
   unfold wL at hcc
   by_cases d1:x.r<1
   ·have hL7:Hid (Lk=7):=Lib.hid (by rw[hE7.out,if_pos (.inl d1)])
    have hq:Hid (cachedE H.ma=7):=Lib.hid (by rw[hfin.out (by rw[hL7.out];decide),hL7.out])
    clear hbk6
    go_wp2
    go_ret
    rw[hq.out]
    exact⟨rfl,hbr6⟩
   by_cases d2:x.f=c.f
   rotate_left
   ·have hL7:Hid (Lk=7):=Lib.hid (by rw[hE7.out,if_pos (.inr (.inl d2))])
    have hq:Hid (cachedE H.ma=7):=Lib.hid (by rw[hfin.out (by rw[hL7.out];decide),hL7.out])
    clear hbk6
    go_wp2
    go_ret
    rw[hq.out]
    exact⟨rfl,hbr6⟩
   by_cases d3:x.i=c.i
   rotate_left
   ·have hL7:Hid (Lk=7):=Lib.hid (by rw[hE7.out,if_pos (.inr (.inr d3))])
    have hq:Hid (cachedE H.ma=7):=Lib.hid (by rw[hfin.out (by rw[hL7.out];decide),hL7.out])
    clear hbk6
    go_wp2
    go_ret
    rw[hq.out]
    exact⟨rfl,hbr6⟩
   rw[if_neg (by rintro (h | h | h);exact d1 h;exact h d2;exact h d3)] at hE7
   go_upto_region 9 with (fail)
   clear hcx hcc hb6 d1 d2 d3
   obtain⟨k1,q,hk1,hk1l,hq0,hq1,hkq⟩:∃(k1:Nat) (q:Cc),(0<k→IntKind.i64.wrap ((k:Int)-1)=(k1:Int))∧(0<k→k1<H.ca.length)∧(0<k→∀W,Below w6.heap.size w6 W→W.cell? ⟨bc,oc+k1*3,none⟩=some (.int .i64 q.f))∧(0<k→∀W,Below w6.heap.size w6 W→W.cell? ⟨bc,oc+k1*3+1,none⟩=some (.int .i64 q.i))∧(0<k→rU H.ca k=some q):=by
    by_cases h0:0<k
    ·have hkl1:k-1<H.ca.length:=by omega
     have hcell:∀W,Below w6.heap.size w6 W→W.cell? ⟨bc,oc+(k-1)*3,none⟩=some (.int .i64 H.ca[k-1].f)∧W.cell? ⟨bc,oc+(k-1)*3+1,none⟩=some (.int .i64 H.ca[k-1].i):=fun W hb=>by
      obtain⟨bc',oc',c',hac',hc',e1,e2,_⟩:=Ox (h.below (ag hbr6 hb)).ca.rd (k-1) hkl1
      rw[List.getElem?_eq_getElem hkl1] at hc'
      cases hc'
      rw[hac] at hac'
      cases hac'
      exact⟨e1,e2⟩
     refine⟨k-1,H.ca[k-1],fun _ => ?_,fun _=>hkl1,fun _ W hb=>(hcell W hb).1,fun _ W hb=>(hcell W hb).2,fun _ => ?_⟩
     ·rw[show (k:Int)-1=((k-1:Nat):Int) by omega]
      exact IntWalk.i64_in _ (by omega)
     ·rw[hpv.out,if_neg (by omega),List.getElem?_eq_getElem hkl1]
    ·exact⟨0,zCc,fun h'=>absurd h' h0,fun h'=>absurd h' h0,fun h'=>absurd h' h0,fun h'=>absurd h' h0,fun h'=>absurd h' h0⟩
   by_cases e1:k=0
   ·have e1i:¬(0:Int)<(k:Int):=by omega
    have hL0:Hid (Lk=0):=Lib.hid (by rw[hE7.out,hpv.out,if_pos e1])
    refine aG 44 [_,_,_,_,_,_,_,_,_,_,_,_,_,_,_,_,_,_,_,_,_,_,_,_,_,_,_,_,_,_,_,_,_,_,_,_,_,_,_,_,_,_,_,.v (.bool false)] (Gk rfl (Gb (.bool false) (by simp[go_sem,e1]) rfl rfl rfl rfl rfl (Gk rfl (Gk rfl (Gk rfl (Gk rfl (Gk rfl (Gk rfl (Gk rfl (Gk rfl (Gk rfl (Gk rfl (Gk rfl (Gk rfl (Gk rfl (Gk rfl (Gk rfl (Gk rfl (Gk rfl (Gk rfl (Gk rfl (Gk rfl (Gk rfl (Gk rfl (Gk rfl (Gk rfl (Gk rfl (Gk rfl (Gk rfl (Gk rfl (Gk rfl (Gk rfl (Gk rfl (Gk rfl (Gk rfl (Gk rfl (Gk rfl (Gk rfl (Gk rfl (Gk rfl (Gk rfl (Gk rfl (Gk rfl (Gk rfl (aB))))))))))))))))))))))))))))))))))))))))))))) (fun _=>rfl) rfl ?_
    intro y W7 hbW7 _
    have hbr7:=ag hbr6 hbW7
    clear hbW7
    have hall:=Lib.hid (hnx.out hL0.out)
    clear hq0 hq1 hk1 hk1l cx6 hbk6
    go_wp2
    go_roundw
    case rel=>exact⟨k+1,by omega,by go_num,hbr7,hall⟩
    case measure=>simp[intOf];omega
   have e1i:0<k:=by omega
   replace hk1:=hk1 (by omega)
   replace hk1l:=hk1l (by omega)
   replace hq0:=hq0 (by omega)
   replace hq1:=hq1 (by omega)
   have hpq:=Lib.hid (hkq (by omega))
   clear hkq
   by_cases e2:c.f<q.f
   ·have hbad:Hid (c.f<q.f∨q.f=c.f∧c.i≤q.i):=Lib.hid (.inl e2)
    refine aG 44 [_,_,_,_,_,_,_,_,_,_,_,_,_,_,_,_,_,_,_,_,_,_,_,_,_,_,_,_,_,_,_,_,_,_,_,_,_,_,_,_,_,_,_,.v (.bool true)] (Gk rfl (Gb (.bool true) (by simp[go_sem,e1i]) rfl rfl rfl rfl rfl (Gk rfl (Gk rfl (Gk rfl (Gf b 9 rfl rfl (Gl hbk6 (V:=.slice (some ⟨bc,oc,none⟩) H.ca.length H.cc) (by simp[dC,hac]) rfl rfl rfl rfl (Gk rfl (Gb (.int .i64 (k1:Int)) (by simp[go_sem,hk1]) rfl rfl rfl rfl rfl (Gr (.pointer (some ⟨bc,oc+k1*3,none⟩)) (fun ρ y W hb hKn=>(bB rfl (aF rfl hKn) (aF rfl hKn) hk1l underlying38 cached_size)) rfl rfl (Gf bc (oc+k1*3) rfl rfl (Gc (.int .i64 q.f) (fun W hb=>by simp[hq0 _ hb]) rfl rfl rfl rfl (Gf gc 0 rfl rfl (Gl cx6 rfl rfl rfl rfl rfl (Gb (.bool true) (by simp[go_sem,e2]) rfl rfl rfl rfl rfl (Gk rfl (Gk rfl (Gk rfl (Gk rfl (Gk rfl (Gk rfl (Gk rfl (Gk rfl (Gk rfl (Gk rfl (Gk rfl (Gk rfl (Gk rfl (Gk rfl (Gk rfl (Gk rfl (Gk rfl (Gk rfl (Gk rfl (Gk rfl (Gk rfl (Gk rfl (Gk rfl (Gk rfl (Gk rfl (Gk rfl (Gk rfl (Gk rfl (Gk rfl (aB))))))))))))))))))))))))))))))))))))))))))))) (fun _=>rfl) rfl ?_
    intro y W7 hbW7 _
    have hbr7:=ag hbr6 hbW7
    clear hbW7
    have hL2:Hid (Lk=2):=Lib.hid (by rw[hE7.out,hpq.out];simp only;rw[if_pos hbad.out])
    have hq:Hid (cachedE H.ma=2):=Lib.hid (by rw[hfin.out (by rw[hL2.out];decide),hL2.out])
    clear hq0 hq1 hk1 hk1l cx6 hbk6
    go_wp2
    go_ret
    rw[hq.out]
    exact⟨rfl,hbr7⟩
   by_cases e3:q.f=c.f
   ·by_cases e4:c.i≤q.i
    ·have hbad:Hid (c.f<q.f∨q.f=c.f∧c.i≤q.i):=Lib.hid (.inr ⟨e3,e4⟩)
     refine aG 44 [_,_,_,_,_,_,_,_,_,_,_,_,_,_,_,_,_,_,_,_,_,_,_,_,_,_,_,_,_,_,_,_,_,_,_,_,_,_,_,_,_,_,_,.v (.bool true)] (Gk rfl (Gb (.bool true) (by simp[go_sem,e1i]) rfl rfl rfl rfl rfl (Gk rfl (Gk rfl (Gk rfl (Gf b 9 rfl rfl (Gl hbk6 (V:=.slice (some ⟨bc,oc,none⟩) H.ca.length H.cc) (by simp[dC,hac]) rfl rfl rfl rfl (Gk rfl (Gb (.int .i64 (k1:Int)) (by simp[go_sem,hk1]) rfl rfl rfl rfl rfl (Gr (.pointer (some ⟨bc,oc+k1*3,none⟩)) (fun ρ y W hb hKn=>(bB rfl (aF rfl hKn) (aF rfl hKn) hk1l underlying38 cached_size)) rfl rfl (Gf bc (oc+k1*3) rfl rfl (Gc (.int .i64 q.f) (fun W hb=>by simp[hq0 _ hb]) rfl rfl rfl rfl (Gf gc 0 rfl rfl (Gl cx6 rfl rfl rfl rfl rfl (Gb (.bool false) (by simp[go_sem,e2]) rfl rfl rfl rfl rfl (Gk rfl (Gk rfl (Gk rfl (Gf b 9 rfl rfl (Gl hbk6 (V:=.slice (some ⟨bc,oc,none⟩) H.ca.length H.cc) (by simp[dC,hac]) rfl rfl rfl rfl (Gk rfl (Gb (.int .i64 (k1:Int)) (by simp[go_sem,hk1]) rfl rfl rfl rfl rfl (Gr (.pointer (some ⟨bc,oc+k1*3,none⟩)) (fun ρ y W hb hKn=>(bB rfl (aF rfl hKn) (aF rfl hKn) hk1l underlying38 cached_size)) rfl rfl (Gf bc (oc+k1*3) rfl rfl (Gc (.int .i64 q.f) (fun W hb=>by simp[hq0 _ hb]) rfl rfl rfl rfl (Gf gc 0 rfl rfl (Gl cx6 rfl rfl rfl rfl rfl (Gb (.bool true) (by simp[go_sem,e3]) rfl rfl rfl rfl rfl (Gk rfl (Gk rfl (Gk rfl (Gf b 9 rfl rfl (Gl hbk6 (V:=.slice (some ⟨bc,oc,none⟩) H.ca.length H.cc) (by simp[dC,hac]) rfl rfl rfl rfl (Gk rfl (Gb (.int .i64 (k1:Int)) (by simp[go_sem,hk1]) rfl rfl rfl rfl rfl (Gr (.pointer (some ⟨bc,oc+k1*3,none⟩)) (fun ρ y W hb hKn=>(bB rfl (aF rfl hKn) (aF rfl hKn) hk1l underlying38 cached_size)) rfl rfl (Gf bc (oc+k1*3+1) rfl rfl (Gc (.int .i64 q.i) (fun W hb=>by simp[hq1 _ hb]) rfl rfl rfl rfl (Gf gc 1 rfl rfl (Gl cx6 rfl rfl rfl rfl rfl (Gb (.bool true) (by simp[go_sem,e4]) rfl rfl rfl rfl rfl (Gk rfl (Gk rfl (Gk rfl (aB))))))))))))))))))))))))))))))))))))))))))))) (fun _=>rfl) rfl ?_
     intro y W7 hbW7 _
     have hbr7:=ag hbr6 hbW7
     clear hbW7
     have hL2:Hid (Lk=2):=Lib.hid (by rw[hE7.out,hpq.out];simp only;rw[if_pos hbad.out])
     have hq:Hid (cachedE H.ma=2):=Lib.hid (by rw[hfin.out (by rw[hL2.out];decide),hL2.out])
     clear hq0 hq1 hk1 hk1l cx6 hbk6
     go_wp2
     go_ret
     rw[hq.out]
     exact⟨rfl,hbr7⟩
    ·have hL0:Hid (Lk=0):=Lib.hid (by rw[hE7.out,hpq.out];simp only;rw[if_neg (by omega)])
     refine aG 44 [_,_,_,_,_,_,_,_,_,_,_,_,_,_,_,_,_,_,_,_,_,_,_,_,_,_,_,_,_,_,_,_,_,_,_,_,_,_,_,_,_,_,_,.v (.bool false)] (Gk rfl (Gb (.bool true) (by simp[go_sem,e1i]) rfl rfl rfl rfl rfl (Gk rfl (Gk rfl (Gk rfl (Gf b 9 rfl rfl (Gl hbk6 (V:=.slice (some ⟨bc,oc,none⟩) H.ca.length H.cc) (by simp[dC,hac]) rfl rfl rfl rfl (Gk rfl (Gb (.int .i64 (k1:Int)) (by simp[go_sem,hk1]) rfl rfl rfl rfl rfl (Gr (.pointer (some ⟨bc,oc+k1*3,none⟩)) (fun ρ y W hb hKn=>(bB rfl (aF rfl hKn) (aF rfl hKn) hk1l underlying38 cached_size)) rfl rfl (Gf bc (oc+k1*3) rfl rfl (Gc (.int .i64 q.f) (fun W hb=>by simp[hq0 _ hb]) rfl rfl rfl rfl (Gf gc 0 rfl rfl (Gl cx6 rfl rfl rfl rfl rfl (Gb (.bool false) (by simp[go_sem,e2]) rfl rfl rfl rfl rfl (Gk rfl (Gk rfl (Gk rfl (Gf b 9 rfl rfl (Gl hbk6 (V:=.slice (some ⟨bc,oc,none⟩) H.ca.length H.cc) (by simp[dC,hac]) rfl rfl rfl rfl (Gk rfl (Gb (.int .i64 (k1:Int)) (by simp[go_sem,hk1]) rfl rfl rfl rfl rfl (Gr (.pointer (some ⟨bc,oc+k1*3,none⟩)) (fun ρ y W hb hKn=>(bB rfl (aF rfl hKn) (aF rfl hKn) hk1l underlying38 cached_size)) rfl rfl (Gf bc (oc+k1*3) rfl rfl (Gc (.int .i64 q.f) (fun W hb=>by simp[hq0 _ hb]) rfl rfl rfl rfl (Gf gc 0 rfl rfl (Gl cx6 rfl rfl rfl rfl rfl (Gb (.bool true) (by simp[go_sem,e3]) rfl rfl rfl rfl rfl (Gk rfl (Gk rfl (Gk rfl (Gf b 9 rfl rfl (Gl hbk6 (V:=.slice (some ⟨bc,oc,none⟩) H.ca.length H.cc) (by simp[dC,hac]) rfl rfl rfl rfl (Gk rfl (Gb (.int .i64 (k1:Int)) (by simp[go_sem,hk1]) rfl rfl rfl rfl rfl (Gr (.pointer (some ⟨bc,oc+k1*3,none⟩)) (fun ρ y W hb hKn=>(bB rfl (aF rfl hKn) (aF rfl hKn) hk1l underlying38 cached_size)) rfl rfl (Gf bc (oc+k1*3+1) rfl rfl (Gc (.int .i64 q.i) (fun W hb=>by simp[hq1 _ hb]) rfl rfl rfl rfl (Gf gc 1 rfl rfl (Gl cx6 rfl rfl rfl rfl rfl (Gb (.bool false) (by simp[go_sem,e4]) rfl rfl rfl rfl rfl (Gk rfl (Gk rfl (Gk rfl (aB))))))))))))))))))))))))))))))))))))))))))))) (fun _=>rfl) rfl ?_
     intro y W7 hbW7 _
     have hbr7:=ag hbr6 hbW7
     clear hbW7
     have hall:=Lib.hid (hnx.out hL0.out)
     clear hq0 hq1 hk1 hk1l cx6 hbk6
     go_wp2
     go_roundw
     case rel=>exact⟨k+1,by omega,by go_num,hbr7,hall⟩
     case measure=>simp[intOf];omega
   ·have hL0:Hid (Lk=0):=Lib.hid (by rw[hE7.out,hpq.out];simp only;rw[if_neg (by omega)])
    refine aG 44 [_,_,_,_,_,_,_,_,_,_,_,_,_,_,_,_,_,_,_,_,_,_,_,_,_,_,_,_,_,_,_,_,_,_,_,_,_,_,_,_,_,_,_,.v (.bool false)] (Gk rfl (Gb (.bool true) (by simp[go_sem,e1i]) rfl rfl rfl rfl rfl (Gk rfl (Gk rfl (Gk rfl (Gf b 9 rfl rfl (Gl hbk6 (V:=.slice (some ⟨bc,oc,none⟩) H.ca.length H.cc) (by simp[dC,hac]) rfl rfl rfl rfl (Gk rfl (Gb (.int .i64 (k1:Int)) (by simp[go_sem,hk1]) rfl rfl rfl rfl rfl (Gr (.pointer (some ⟨bc,oc+k1*3,none⟩)) (fun ρ y W hb hKn=>(bB rfl (aF rfl hKn) (aF rfl hKn) hk1l underlying38 cached_size)) rfl rfl (Gf bc (oc+k1*3) rfl rfl (Gc (.int .i64 q.f) (fun W hb=>by simp[hq0 _ hb]) rfl rfl rfl rfl (Gf gc 0 rfl rfl (Gl cx6 rfl rfl rfl rfl rfl (Gb (.bool false) (by simp[go_sem,e2]) rfl rfl rfl rfl rfl (Gk rfl (Gk rfl (Gk rfl (Gf b 9 rfl rfl (Gl hbk6 (V:=.slice (some ⟨bc,oc,none⟩) H.ca.length H.cc) (by simp[dC,hac]) rfl rfl rfl rfl (Gk rfl (Gb (.int .i64 (k1:Int)) (by simp[go_sem,hk1]) rfl rfl rfl rfl rfl (Gr (.pointer (some ⟨bc,oc+k1*3,none⟩)) (fun ρ y W hb hKn=>(bB rfl (aF rfl hKn) (aF rfl hKn) hk1l underlying38 cached_size)) rfl rfl (Gf bc (oc+k1*3) rfl rfl (Gc (.int .i64 q.f) (fun W hb=>by simp[hq0 _ hb]) rfl rfl rfl rfl (Gf gc 0 rfl rfl (Gl cx6 rfl rfl rfl rfl rfl (Gb (.bool false) (by simp[go_sem,e3]) rfl rfl rfl rfl rfl (Gk rfl (Gk rfl (Gk rfl (Gk rfl (Gk rfl (Gk rfl (Gk rfl (Gk rfl (Gk rfl (Gk rfl (Gk rfl (Gk rfl (Gk rfl (Gk rfl (Gk rfl (Gk rfl (aB))))))))))))))))))))))))))))))))))))))))))))) (fun _=>rfl) rfl ?_
    intro y W7 hbW7 _
    have hbr7:=ag hbr6 hbW7
    clear hbW7
    have hall:=Lib.hid (hnx.out hL0.out)
    clear hq0 hq1 hk1 hk1l cx6 hbk6
    go_wp2
    go_roundw
    case rel=>exact⟨k+1,by omega,by go_num,hbr7,hall⟩
    case measure=>simp[intOf];omega
  ·have hki:¬(k:Int)<(H.ca.length:Int):=by omega
   have hq:Hid (cachedE H.ma=0):=Lib.hid (by rw[hLE.out,nO fun i hi=>hz.out i hi (by rw[hLl.out] at hi;omega)])
   clear hz
   go_wp2
   go_ret
   rw[hq.out]
   exact⟨rfl,hbr⟩
theorem Jf {s:Sp} {n:Int} (h:iW s.ar n<0):bD m s n=5:=by unfold bD;exact if_pos h
theorem Ee (H:MH) (P:PS) (n:Int) (b bs os:Nat) (w:World) (hbk:aD w b (dC H) 41) (h:xA w H) (hrd:dA w (some ⟨bs,os,none⟩) (nZ P)) (hg:P.good w) (har:(bF P.ar).1=0) (htb:cZ P.tb=0) (hn:0≤n∧n<64) :
  Calls Tryz.prog 68 #[.pointer (some ⟨b,0,none⟩),.pointer (some ⟨bs,os,none⟩),.int .i64 n] w fun r w'=>r = .returned (.int .i64 (bD H.ma P.sp n))∧Below w.heap.size w w':=by
 have hs1:∀W,Below w.heap.size w W→W.cell? ⟨bs,os+1,none⟩=some (.slice P.aa P.ar.length P.ac):=fun W hb=>by
  obtain⟨b',o',e,hc⟩:=(hrd.below hb) 1 _ rfl
  cases e
  exact hc
 go_enter func68,ntmps68
 have hc1:=hs1 w (Below.refl _ _)
 have hA:=hg.ars
 go_wp2_with fail
 refine (Ji P.ar n P.aa P.ac _ hA.rd (by have:=hA.le;have:=hA.mx;unfold maxLen at this;omega)).mono ?_
 rintro r w1 ⟨rfl,hb1⟩
 have hbk1:=hbk.ext hb1
 have h1:=h.below hb1
 have hg1:=hg.below hb1
 have hrd1:=hrd.below hb1
 clear hc1 hA
 by_cases hf:iW P.ar n<0
 ·have hq:Hid (bD H.ma P.sp n=5):=Lib.hid (Jf hf)
  clear hbk1
  go_wp2
  go_ret
  rw[hq.out]
  exact⟨rfl,hb1⟩
 have hE:Hid (bD H.ma P.sp n=(let a:=P.ar.getD (iW P.ar n).toNat zAr
  let e:=dn P.tb n
  if e.k=2 then (if (H.sl.length:Int)≤e.n∨a.sh=true then 7 else 0)
  else if (H.m.fs.length:Int)≤e.n then 3 else
  let f:=mM H.ma e.n
  let of:=decide (0≤a.fi)&&decide (f.f=a.fi)&&decide (f.i=a.ba+n-a.fr)
  if 0≤f.f∧of=false∨a.sh=true∧of=false∨a.sh=false∧of=true∧e.w=true∨e.w=true∧a.wr=false then 7
  else if f.f<0∧e.w=true∧1<f.r then 7 else 0)):=Lib.hid (by unfold bD;exact if_neg hf)
 obtain⟨k,hk,hkl,_⟩:=Gw (q:=kU n) (l:=P.ar) (by show 0≤iW P.ar n;omega)
 have hk' : iW P.ar n=k:=hk
 rw[hk',Int.toNat_natCast,List.getD_eq_getElem?_getD,List.getElem?_eq_getElem hkl] at hE
 simp only[Option.getD_some] at hE
 have hkn:¬(k:Int)<0:=by omega
 rw[hk']
 obtain⟨ba,oa,haa,hard⟩:=kJ nQ (by decide) hg1.ars.rd k hkl
 have haE:=(zR har).2 _ (List.getElem_mem hkl)
 have hafew:=(aX haE).1
 have hent:=(bV _).1 (qJ htb n)
 generalize P.ar[k]=a at *
 generalize hge:dn P.tb n=e at *
 have hge':=Lib.hid hge
 clear hk hk' hf haE hge
 go_upto_region 4 with (fail)
 refine ko 15 [_,_,_,_,_,_,_,_,_,_,_,.v (.agg (iM e)),.r 12 ((iT w1.heap.size 89 3)),.v (.pointer (some ⟨ba,oa+k*7,none⟩)),.y 14 ((KD 12 w1.heap.size 89 (oV (.agg (iM e)))))] (fun W=>Below w1.heap.size w1 W) eP (Below.refl _ _) (Yk eP rfl (Yk eP rfl (Yf eP bs (os+1) rfl rfl (Yc eP (.slice (some ⟨ba,oa,none⟩) P.ar.length P.ac) (fun W hb=>by simp[hs1 _ (ag hb1 hb),haa]) rfl rfl rfl rfl (Yk eP rfl (Yr eP (.pointer (some ⟨ba,oa+k*7,none⟩)) (fun ρ y W hb hKn=>(bB rfl (aF rfl hKn) (aF rfl hKn) hkl underlying50 area_size)) rfl rfl (Yk eP rfl (Yk eP rfl (Yf eP bs (os+2) rfl rfl (Yr eP (.agg (mo P.ts)) (fun ρ y W hb hKn=>(bu rfl (aF rfl hKn) (oO (hrd1.below hb) 2 8) underlying53 tab_agg tab_size)) rfl rfl (Yk eP rfl (ae ?_ (ae ?_ (Yk eP rfl (ae ?_ (aB)))))))))))))))) (fun _=>rfl) rfl ?_
 ·intro ρ y W hw hn hb hd
  refine jI eP hb (oV (.agg (iM e))) (fun _ _ h=>h) ?_
  have E30:=hw 30 9 rfl
  have h9:y 9 = .agg (mo P.ts):=hd 9 rfl
  have E31:=hw 31 10 rfl
  have h10:y 10 = .int .i64 n:=hd 10 rfl
  have EF:∀f,ρ (.func f) = .func (.func f) #[] #[]:=fun f=>hn (.func f) trivial
  refine aM _ _ (ah rfl) (aN rfl (EF _) func69 (by kernel_rfl) (by kernel_rfl) (by simp only[List.map_toArray,List.map_cons,List.map_nil,E30,h9,E31,h10,EF];rfl)) ?_
  refine (uJ P.tb (mo P.ts) n W (hg1.below hb).tb).mono ?_
  rintro r w2 ⟨rfl,hb2⟩
  rw[hge'.out]
  exact⟨_,rfl,hb2,rfl⟩
 ·intro ρ y W hw hn hb hd
  refine jI eP hb ((iT w1.heap.size 89 3)) (fun _ _ h=>h) ?_
  refine iG (.pointer (some ⟨W.heap.size,0,none⟩)) (ah rfl) (by simp[execOp,go_sem,bC]) ((Below.refl _ _).alloc (Nat.le_refl _) (.cells #[.int .i64 0,.int .i64 0,.bool false] 89)) ?_
  exact⟨_,_,rfl,hb.size,aD.new _ _ _,rfl⟩
 ·intro ρ y W hw hn hb hd;have E9:=hw 9 12 rfl;have h12:=hd 12 rfl;have E32:=hw 32 11 rfl;have h11:y 11 = .agg (iM e):=hd 11 rfl
  obtain⟨g3,cur3,e9,hg9,hb9,hs9⟩:=h12
  refine mV (ah rfl) _ _ _ rfl g3 0 (.agg (iM e)) (iM e).toList (E9.trans e9) (E32.trans h11) rfl cur3 _ hb9 (by rw[hs9];exact Nat.le_refl _) entry_size (bv (by simp[iM,Value.oneCell'])) ?_
  intro w1 hw1 hgr
  rw[ik cur3 _ (by rw[hs9];rfl)] at hw1
  refine⟨hb.grown hgr hb.size (fun k hk=>by cases hk;exact hg9),⟨g3,_,e9,hg9,hw1,rfl⟩,?_⟩
  intro k hk hne
  match k,hk,hne with
  | 0,_,_=>exact fun h=>h
  | 1,_,_=>exact fun h=>h
  | 2,_,_=>exact fun h=>h
  | 3,_,_=>exact fun h=>h
  | 4,_,_=>exact fun h=>h
  | 5,_,_=>exact fun h=>h
  | 6,_,_=>exact fun h=>h
  | 7,_,_=>exact fun h=>h
  | 8,_,_=>exact fun h=>h
  | 9,_,_=>exact fun h=>h
  | 10,_,_=>exact fun h=>h
  | 11,_,_=>exact fun h=>h
  | 12,_,_=>exact fun q=>lK q hw1 (fun _=>rfl) ⟨_,hb9⟩ hgr
  | 13,_,_=>exact fun h=>h
  | 14,_,h=>exact absurd rfl h
  | n+15,h,_=>exact absurd h (by omega)
 intro y w4 hbw4 hRw4
 replace hbw4:Below w1.heap.size w1 w4:=hbw4
 have hy12:((iT w1.heap.size 89 3)).r (y 12) w4:=hRw4 12 (by decide)
 have hy14:=hRw4 14 (by decide)
 clear hRw4
 simp only[bH,bC,List.map_cons,List.map_nil]
 obtain⟨ge,cce,hgee,hges,hb4,hcce⟩:=hy14
 have hcce' : cce=iM e:=by simpa[oV] using hcce
 subst hcce'
 rw[hgee]
 have hbel4:=hbw4
 have hbr4:=ag hb1 hbel4
 have ex:=hb4
 have hbk4:=hbk.ext hbr4
 have h4:=h.below hbr4
 have hard4:=hard.below hbel4
 clear hbw4 hbel4 hgee hb4 hard hrd1 hbk1 h1 hb1 hs1 hg1 hy12
 have hAc:∀j u,(jU a)[j]?=some u→∀W,Below w4.heap.size w4 W→W.cell? ⟨ba,oa+k*7+j,none⟩=some u:=fun j u hj W hb=>by
  obtain⟨b',o',e',hc⟩:=(hard4.below hb) j u hj
  cases e'
  exact hc
 have hA3:=hAc 3 _ rfl
 have hA4:=hAc 4 _ rfl
 have hA5:=hAc 5 _ rfl
 have hA6:=hAc 6 _ rfl
 have hA0:∀W,Below w4.heap.size w4 W→W.cell? ⟨ba,oa+k*7,none⟩=some (.int .i64 a.fr):=hAc 0 _ rfl
 have hce:=ex.cell
 unfold iM at hce
 clear hAc hard4
 by_cases hk2:e.k=2
 ·rw[if_pos hk2] at hE
  rw[hk2] at hce
  go_upto_region 6 with (fail)
  clear hce hk2
  by_cases c1:(H.sl.length:Int)≤e.n
  ·have hq:Hid (bD H.ma P.sp n=7):=Lib.hid (by rw[hE.out,if_pos (.inl c1)])
   refine aG 14 [_,_,_,_,_,_,_,_,_,_,_,_,_,.v (.bool true)] (Gf ge 1 rfl rfl (Gl ex rfl rfl rfl rfl rfl (Gk rfl (Gk rfl (Gf b 2 rfl rfl (Gl hbk4 rfl rfl rfl rfl rfl (Gn rfl rfl rfl rfl (Gb (.bool true) (by simp[go_sem,c1]) rfl rfl rfl rfl rfl (Gk rfl (Gk rfl (Gk rfl (Gk rfl (Gk rfl (Gk rfl (aB))))))))))))))) (fun _=>rfl) rfl ?_
   intro y W5 hbW5 _
   have hbr5:=ag hbr4 hbW5
   clear hbW5
   go_wp2
   go_ret
   rw[hq.out]
   exact⟨rfl,hbr5⟩
  ·cases c2:a.sh with
   | true=>
    have hq:Hid (bD H.ma P.sp n=7):=Lib.hid (by rw[hE.out,if_pos (.inr c2)])
    refine aG 14 [_,_,_,_,_,_,_,_,_,_,_,_,_,.v (.bool true)] (Gf ge 1 rfl rfl (Gl ex rfl rfl rfl rfl rfl (Gk rfl (Gk rfl (Gf b 2 rfl rfl (Gl hbk4 rfl rfl rfl rfl rfl (Gn rfl rfl rfl rfl (Gb (.bool false) (by simp[go_sem,c1]) rfl rfl rfl rfl rfl (Gk rfl (Gk rfl (Gk rfl (Gf ba (oa+k*7+4) rfl rfl (Gc (.bool true) (fun W hb=>by simp[hA4 _ hb,c2]) rfl rfl rfl rfl (Gk rfl (aB))))))))))))))) (fun _=>rfl) rfl ?_
    intro y W5 hbW5 _
    have hbr5:=ag hbr4 hbW5
    clear hbW5
    go_wp2
    go_ret
    rw[hq.out]
    exact⟨rfl,hbr5⟩
   | false=>
    have hq:Hid (bD H.ma P.sp n=0):=Lib.hid (by rw[hE.out,if_neg (by rw[c2];simp;omega)])
    refine aG 14 [_,_,_,_,_,_,_,_,_,_,_,_,_,.v (.bool false)] (Gf ge 1 rfl rfl (Gl ex rfl rfl rfl rfl rfl (Gk rfl (Gk rfl (Gf b 2 rfl rfl (Gl hbk4 rfl rfl rfl rfl rfl (Gn rfl rfl rfl rfl (Gb (.bool false) (by simp[go_sem,c1]) rfl rfl rfl rfl rfl (Gk rfl (Gk rfl (Gk rfl (Gf ba (oa+k*7+4) rfl rfl (Gc (.bool false) (fun W hb=>by simp[hA4 _ hb,c2]) rfl rfl rfl rfl (Gk rfl (aB))))))))))))))) (fun _=>rfl) rfl ?_
    intro y W5 hbW5 _
    have hbr5:=ag hbr4 hbW5
    clear hbW5
    go_wp2
    go_ret
    rw[hq.out]
    exact⟨rfl,hbr5⟩
 rw[if_neg hk2] at hE
 obtain⟨K,hK⟩:∃K:Nat,e.n=K:=⟨e.n.toNat,by omega⟩
 rw[hK] at hE
 go_upto_region 9 with (fail)
 clear hce
 by_cases c3:(H.m.fs.length:Int)≤(K:Int)
 ·have hq:Hid (bD H.ma P.sp n=3):=Lib.hid (by rw[hE.out,if_pos c3])
  have c3e:(H.m.fs.length:Int)≤e.n:=by omega
  refine aG 9 [_,_,_,_,_,_,_,_,_] (Gf ge 1 rfl rfl (Gl ex rfl rfl rfl rfl rfl (Gk rfl (Gk rfl (Gf b 0 rfl rfl (Gf b 0 rfl rfl (Gl hbk4 rfl rfl rfl rfl rfl (Gn rfl rfl rfl rfl (Gb (.bool true) (by simp[go_sem,c3e]) rfl rfl rfl rfl rfl (aB)))))))))) (fun _=>rfl) rfl ?_
  intro y W5 hbW5 _
  have hbr5:=ag hbr4 hbW5
  clear hbW5 hA0 hA3 hA4 hA5 hA6 c3 c3e
  go_wp2
  go_ret
  rw[hq.out]
  exact⟨rfl,hbr5⟩
 rw[if_neg c3] at hE
 have c3e:¬(H.m.fs.length:Int)≤e.n:=by omega
 refine aG 9 [_,_,_,_,_,_,_,_,_] (Gf ge 1 rfl rfl (Gl ex rfl rfl rfl rfl rfl (Gk rfl (Gk rfl (Gf b 0 rfl rfl (Gf b 0 rfl rfl (Gl hbk4 rfl rfl rfl rfl rfl (Gn rfl rfl rfl rfl (Gb (.bool false) (by simp[go_sem,c3e]) rfl rfl rfl rfl rfl (aB)))))))))) (fun _=>rfl) rfl ?_
 intro y W5 hbW5 _
 have hbr5:=ag hbr4 hbW5
 have hKl:K<H.m.fs.length:=by omega
 replace ex:=ex.ext hbW5
 have hbk5:=hbk.ext hbr5
 have h5:=h.below hbr5
 have sh:∀ {u:Value} {z:Addr},(∀W,Below w4.heap.size w4 W→W.cell? z=some u)→∀W,Below W5.heap.size W5 W→W.cell? z=some u:=fun hh W hb=>hh W (ag hbW5 hb)
 replace hA0:=sh hA0
 replace hA3:=sh hA3
 replace hA4:=sh hA4
 replace hA5:=sh hA5
 replace hA6:=sh hA6
 obtain⟨bg,og,haf,hfrd⟩:=kJ eB (by decide) h5.fr.rd K hKl
 have hxf:H.m.fs[K]=aO H.ma K:=by
  have:=rW (m:=H.ma) (f:=K) hKl
  have h2:H.m.fs[K]?=some (aO H.ma K):=this
  rw[List.getElem?_eq_getElem hKl] at h2
  exact Option.some.inj h2
 rw[hxf] at hfrd
 have hE2:Hid (bD H.ma P.sp n=(let of:=decide (0≤a.fi)&&decide ((aO H.ma K).f=a.fi)&&decide ((aO H.ma K).i=a.ba+n-a.fr)
  if 0≤(aO H.ma K).f∧of=false∨a.sh=true∧of=false∨a.sh=false∧of=true∧e.w=true∨e.w=true∧a.wr=false then 7
  else if (aO H.ma K).f<0∧e.w=true∧1<(aO H.ma K).r then 7 else 0)):=Lib.hid (by rw[hE.out];rfl)
 generalize aO H.ma K=x at *
 clear hE hxf hbW5 hbk4 h4 hbr4 c3 sh
 go_upto_region 11 with (fail)
 refine aG 9 [_,_,_,_,_,_,_,_,.v (.pointer (some ⟨bg,og+K*13,none⟩))] (Gk rfl (Gk rfl (Gf b 0 rfl rfl (Gf b 0 rfl rfl (Gl hbk5 (V:=.slice (some ⟨bg,og,none⟩) H.m.fs.length H.cf) (by simp[dC,haf]) rfl rfl rfl rfl (Gf ge 1 rfl rfl (Gl ex (V:=.int .i64 (K:Int)) (by simp[iM,hK]) rfl rfl rfl rfl (Gr (.pointer (some ⟨bg,og+K*13,none⟩)) (fun ρ y W hb hKn=>(bB rfl (aF rfl hKn) (aF rfl hKn) hKl underlying26 frame_size)) rfl rfl (Gk rfl (aB)))))))))) (fun _=>rfl) rfl ?_
 intro y W7 hbW7 _
 have hbr7:=ag hbr5 hbW7
 have ex7:=ex.ext hbW7
 have hbk7:=hbk.ext hbr7
 have sh:∀ {u:Value} {z:Addr},(∀W,Below W5.heap.size W5 W→W.cell? z=some u)→∀W,Below W7.heap.size W7 W→W.cell? z=some u:=fun hh W hb=>hh W (ag hbW7 hb)
 replace hA0:=sh hA0
 replace hA3:=sh hA3
 replace hA4:=sh hA4
 replace hA5:=sh hA5
 replace hA6:=sh hA6
 have hfrd7:=hfrd.below hbW7
 clear ex hbk5 hbW7 sh hfrd hbr5 h5
 have hw1:IntKind.i64.wrap (a.ba+n)=a.ba+n:=IntWalk.i64_in _ (by obtain⟨⟨z1,z2⟩,⟨z3,z4⟩,z5,z6⟩:=hafew;omega)
 have hw2:IntKind.i64.wrap (a.ba+n-a.fr)=a.ba+n-a.fr:=IntWalk.i64_in _ (by obtain⟨⟨z1,z2⟩,⟨z3,z4⟩,z5,z6⟩:=hafew;omega)
 go_upto_region 12 with (fail)
 refine aG 12 [_,_,_,_,_,_,_,_,_,_,_,.v (.int .i64 (a.ba+n-a.fr))] (Gk rfl (Gk rfl (Gf ba (oa+k*7+6) rfl rfl (Gc (.int .i64 a.ba) (fun W hb=>by simp[hA6 _ hb]) rfl rfl rfl rfl (Gk rfl (Gb (.int .i64 (a.ba+n)) (by simp[go_sem,hw1]) rfl rfl rfl rfl rfl (Gk rfl (Gk rfl (Gf ba (oa+k*7) rfl rfl (Gc (.int .i64 a.fr) (fun W hb=>by simp[hA0 _ hb]) rfl rfl rfl rfl (Gb (.int .i64 (a.ba+n-a.fr)) (by simp[go_sem,hw2]) rfl rfl rfl rfl rfl (Gk rfl (aB))))))))))))) (fun _=>rfl) rfl ?_
 intro y W5 hbW5 _
 have hbr5:=ag hbr7 hbW5
 have ex:=ex7.ext hbW5
 have hbk5:=hbk.ext hbr5
 have sh:∀ {u:Value} {z:Addr},(∀W,Below W7.heap.size W7 W→W.cell? z=some u)→∀W,Below W5.heap.size W5 W→W.cell? z=some u:=fun hh W hb=>hh W (ag hbW5 hb)
 replace hA3:=sh hA3
 replace hA4:=sh hA4
 replace hA5:=sh hA5
 have hfrd:=hfrd7.below hbW5
 clear ex7 hbk7 hbW5 sh hfrd7 hbr7 hw1 hw2 hA0 hA6
 have hXc:∀j u,(lZ x)[j]?=some u→∀W,Below W5.heap.size W5 W→W.cell? ⟨bg,og+K*13+j,none⟩=some u:=fun j u hj W hb=>by
  obtain⟨b',o',e',hc⟩:=(hfrd.below hb) j u hj
  cases e'
  exact hc
 have hX8:=hXc 8 _ rfl
 have hX11:=hXc 11 _ rfl
 have hX12:=hXc 12 _ rfl
 clear hXc hfrd
 go_upto_region 13 with (fail)
 by_cases g1:0≤a.fi
 ·by_cases g2:x.f=a.fi
  ·by_cases g3:x.i=a.ba+n-a.fr
   ·skip
    refine aG 25 [_,_,_,_,_,_,_,_,_,_,_,_,_,_,_,_,_,_,_,_,_,_,_,_,.v (.bool true)] (Gk rfl (Gk rfl (Gf ba (oa+k*7+5) rfl rfl (Gc (.int .i64 a.fi) (fun W hb=>by simp[hA5 _ hb]) rfl rfl rfl rfl (Gb (.bool true) (by simp[go_sem,g1]) rfl rfl rfl rfl rfl (Gk rfl (Gk rfl (Gk rfl (Gf bg (og+K*13+11) rfl rfl (Gc (.int .i64 x.f) (fun W hb=>by simp[hX11 _ hb]) rfl rfl rfl rfl (Gk rfl (Gk rfl (Gf ba (oa+k*7+5) rfl rfl (Gc (.int .i64 a.fi) (fun W hb=>by simp[hA5 _ hb]) rfl rfl rfl rfl (Gb (.bool true) (by simp[go_sem,g2]) rfl rfl rfl rfl rfl (Gk rfl (Gk rfl (Gk rfl (Gk rfl (Gf bg (og+K*13+12) rfl rfl (Gc (.int .i64 x.i) (fun W hb=>by simp[hX12 _ hb]) rfl rfl rfl rfl (Gk rfl (Gb (.bool true) (by simp[go_sem,g3]) rfl rfl rfl rfl rfl (Gk rfl (Gk rfl (aB)))))))))))))))))))))))))) (fun _=>rfl) rfl ?_
    intro y W6 hbW6 _
    have hbr6:=ag hbr5 hbW6
    have x8:=hX8 _ hbW6
    have x11:=hX11 _ hbW6
    have a3:=hA3 _ hbW6
    have a4:=hA4 _ hbW6
    have hce:=(ex.ext hbW6).cell
    unfold iM at hce
    clear hbW6 hA3 hA4 hA5 hX8 hX11 hX12 ex hbk5
    have f1:0≤x.f:=by omega
    have f1n:¬x.f<0:=by omega
    replace hE2:Hid (bD H.ma P.sp n=if a.sh=false∧e.w=true∨e.w=true∧a.wr=false then 7 else 0):=Lib.hid (by
     rw[hE2.out,decide_eq_true g1,decide_eq_true g2,decide_eq_true g3]
     simp[f1n])
    clear g2 g3
    cases f2:a.sh with
    | true=>
     rw[f2] at a4
     cases f3:e.w with
     | false=>
      rw[f3] at hce
      have hq:Hid (bD H.ma P.sp n=0):=Lib.hid (by rw[hE2.out];simp[*];try omega)
      clear hE2
      go_wp2
      go_ret
      rw[hq.out]
      exact⟨rfl,hbr6⟩
     | true=>
      rw[f3] at hce
      cases f4:a.wr with
      | false=>
       rw[f4] at a3
       have hq:Hid (bD H.ma P.sp n=7):=Lib.hid (by rw[hE2.out];simp[*];try omega)
       clear hE2
       go_wp2
       go_ret
       rw[hq.out]
       exact⟨rfl,hbr6⟩
      | true=>
       rw[f4] at a3
       have hq:Hid (bD H.ma P.sp n=0):=Lib.hid (by rw[hE2.out];simp[*];try omega)
       clear hE2
       go_wp2
       go_ret
       rw[hq.out]
       exact⟨rfl,hbr6⟩
    | false=>
     rw[f2] at a4
     cases f3:e.w with
     | true=>
      rw[f3] at hce
      have hq:Hid (bD H.ma P.sp n=7):=Lib.hid (by rw[hE2.out];simp[*];try omega)
      clear hE2
      go_wp2
      go_ret
      rw[hq.out]
      exact⟨rfl,hbr6⟩
     | false=>
      rw[f3] at hce
      have hq:Hid (bD H.ma P.sp n=0):=Lib.hid (by rw[hE2.out];simp[*];try omega)
      clear hE2
      go_wp2
      go_ret
      rw[hq.out]
      exact⟨rfl,hbr6⟩
   ·skip
    refine aG 25 [_,_,_,_,_,_,_,_,_,_,_,_,_,_,_,_,_,_,_,_,_,_,_,_,.v (.bool false)] (Gk rfl (Gk rfl (Gf ba (oa+k*7+5) rfl rfl (Gc (.int .i64 a.fi) (fun W hb=>by simp[hA5 _ hb]) rfl rfl rfl rfl (Gb (.bool true) (by simp[go_sem,g1]) rfl rfl rfl rfl rfl (Gk rfl (Gk rfl (Gk rfl (Gf bg (og+K*13+11) rfl rfl (Gc (.int .i64 x.f) (fun W hb=>by simp[hX11 _ hb]) rfl rfl rfl rfl (Gk rfl (Gk rfl (Gf ba (oa+k*7+5) rfl rfl (Gc (.int .i64 a.fi) (fun W hb=>by simp[hA5 _ hb]) rfl rfl rfl rfl (Gb (.bool true) (by simp[go_sem,g2]) rfl rfl rfl rfl rfl (Gk rfl (Gk rfl (Gk rfl (Gk rfl (Gf bg (og+K*13+12) rfl rfl (Gc (.int .i64 x.i) (fun W hb=>by simp[hX12 _ hb]) rfl rfl rfl rfl (Gk rfl (Gb (.bool false) (by simp[go_sem,g3]) rfl rfl rfl rfl rfl (Gk rfl (Gk rfl (aB)))))))))))))))))))))))))) (fun _=>rfl) rfl ?_
    intro y W6 hbW6 _
    have hbr6:=ag hbr5 hbW6
    have x8:=hX8 _ hbW6
    have x11:=hX11 _ hbW6
    have a3:=hA3 _ hbW6
    have a4:=hA4 _ hbW6
    have hce:=(ex.ext hbW6).cell
    unfold iM at hce
    clear hbW6 hA3 hA4 hA5 hX8 hX11 hX12 ex hbk5
    have hof:(decide (0≤a.fi)&&decide (x.f=a.fi)&&decide (x.i=a.ba+n-a.fr))=false:=by simp[*]
    replace hE2:Hid (bD H.ma P.sp n=if 0≤x.f∨a.sh=true∨e.w=true∧a.wr=false then 7 else if x.f<0∧e.w=true∧1<x.r then 7 else 0):=Lib.hid (by
     rw[hE2.out,hof]
     simp)
    clear hof g2 g3
    by_cases f1:0≤x.f
    ·skip
     have hq:Hid (bD H.ma P.sp n=7):=Lib.hid (by rw[hE2.out];simp[*];try omega)
     clear hE2
     go_wp2
     go_ret
     rw[hq.out]
     exact⟨rfl,hbr6⟩
    have f1n:x.f<0:=by omega
    cases f2:a.sh with
    | true=>
     rw[f2] at a4
     have hq:Hid (bD H.ma P.sp n=7):=Lib.hid (by rw[hE2.out];simp[*];try omega)
     clear hE2
     go_wp2
     go_ret
     rw[hq.out]
     exact⟨rfl,hbr6⟩
    | false=>
     rw[f2] at a4
     cases f3:e.w with
     | false=>
      rw[f3] at hce
      have hq:Hid (bD H.ma P.sp n=0):=Lib.hid (by rw[hE2.out];simp[*];try omega)
      clear hE2
      go_wp2
      go_ret
      rw[hq.out]
      exact⟨rfl,hbr6⟩
     | true=>
      rw[f3] at hce
      cases f4:a.wr with
      | false=>
       rw[f4] at a3
       have hq:Hid (bD H.ma P.sp n=7):=Lib.hid (by rw[hE2.out];simp[*];try omega)
       clear hE2
       go_wp2
       go_ret
       rw[hq.out]
       exact⟨rfl,hbr6⟩
      | true=>
       rw[f4] at a3
       by_cases f5:1<x.r
       ·skip
        have hq:Hid (bD H.ma P.sp n=7):=Lib.hid (by rw[hE2.out];simp[*];try omega)
        clear hE2
        go_wp2
        go_ret
        rw[hq.out]
        exact⟨rfl,hbr6⟩
       ·skip
        have hq:Hid (bD H.ma P.sp n=0):=Lib.hid (by rw[hE2.out];simp[*];try omega)
        clear hE2
        go_wp2
        go_ret
        rw[hq.out]
        exact⟨rfl,hbr6⟩
  ·skip
   refine aG 25 [_,_,_,_,_,_,_,_,_,_,_,_,_,_,_,_,_,_,_,_,_,_,_,_,.v (.bool false)] (Gk rfl (Gk rfl (Gf ba (oa+k*7+5) rfl rfl (Gc (.int .i64 a.fi) (fun W hb=>by simp[hA5 _ hb]) rfl rfl rfl rfl (Gb (.bool true) (by simp[go_sem,g1]) rfl rfl rfl rfl rfl (Gk rfl (Gk rfl (Gk rfl (Gf bg (og+K*13+11) rfl rfl (Gc (.int .i64 x.f) (fun W hb=>by simp[hX11 _ hb]) rfl rfl rfl rfl (Gk rfl (Gk rfl (Gf ba (oa+k*7+5) rfl rfl (Gc (.int .i64 a.fi) (fun W hb=>by simp[hA5 _ hb]) rfl rfl rfl rfl (Gb (.bool false) (by simp[go_sem,g2]) rfl rfl rfl rfl rfl (Gk rfl (Gk rfl (Gk rfl (Gk rfl (Gk rfl (Gk rfl (Gk rfl (Gk rfl (Gk rfl (Gk rfl (aB)))))))))))))))))))))))))) (fun _=>rfl) rfl ?_
   intro y W6 hbW6 _
   have hbr6:=ag hbr5 hbW6
   have x8:=hX8 _ hbW6
   have x11:=hX11 _ hbW6
   have a3:=hA3 _ hbW6
   have a4:=hA4 _ hbW6
   have hce:=(ex.ext hbW6).cell
   unfold iM at hce
   clear hbW6 hA3 hA4 hA5 hX8 hX11 hX12 ex hbk5
   have hof:(decide (0≤a.fi)&&decide (x.f=a.fi)&&decide (x.i=a.ba+n-a.fr))=false:=by simp[*]
   replace hE2:Hid (bD H.ma P.sp n=if 0≤x.f∨a.sh=true∨e.w=true∧a.wr=false then 7 else if x.f<0∧e.w=true∧1<x.r then 7 else 0):=Lib.hid (by
    rw[hE2.out,hof]
    simp)
   clear hof g2
   by_cases f1:0≤x.f
   ·skip
    have hq:Hid (bD H.ma P.sp n=7):=Lib.hid (by rw[hE2.out];simp[*];try omega)
    clear hE2
    go_wp2
    go_ret
    rw[hq.out]
    exact⟨rfl,hbr6⟩
   have f1n:x.f<0:=by omega
   cases f2:a.sh with
   | true=>
    rw[f2] at a4
    have hq:Hid (bD H.ma P.sp n=7):=Lib.hid (by rw[hE2.out];simp[*];try omega)
    clear hE2
    go_wp2
    go_ret
    rw[hq.out]
    exact⟨rfl,hbr6⟩
   | false=>
    rw[f2] at a4
    cases f3:e.w with
    | false=>
     rw[f3] at hce
     have hq:Hid (bD H.ma P.sp n=0):=Lib.hid (by rw[hE2.out];simp[*];try omega)
     clear hE2
     go_wp2
     go_ret
     rw[hq.out]
     exact⟨rfl,hbr6⟩
    | true=>
     rw[f3] at hce
     cases f4:a.wr with
     | false=>
      rw[f4] at a3
      have hq:Hid (bD H.ma P.sp n=7):=Lib.hid (by rw[hE2.out];simp[*];try omega)
      clear hE2
      go_wp2
      go_ret
      rw[hq.out]
      exact⟨rfl,hbr6⟩
     | true=>
      rw[f4] at a3
      by_cases f5:1<x.r
      ·skip
       have hq:Hid (bD H.ma P.sp n=7):=Lib.hid (by rw[hE2.out];simp[*];try omega)
       clear hE2
       go_wp2
       go_ret
       rw[hq.out]
       exact⟨rfl,hbr6⟩
      ·skip
       have hq:Hid (bD H.ma P.sp n=0):=Lib.hid (by rw[hE2.out];simp[*];try omega)
       clear hE2
       go_wp2
       go_ret
       rw[hq.out]
       exact⟨rfl,hbr6⟩
 ·skip
  refine aG 25 [_,_,_,_,_,_,_,_,_,_,_,_,_,_,_,_,_,_,_,_,_,_,_,_,.v (.bool false)] (Gk rfl (Gk rfl (Gf ba (oa+k*7+5) rfl rfl (Gc (.int .i64 a.fi) (fun W hb=>by simp[hA5 _ hb]) rfl rfl rfl rfl (Gb (.bool false) (by simp[go_sem,g1]) rfl rfl rfl rfl rfl (Gk rfl (Gk rfl (Gk rfl (Gk rfl (Gk rfl (Gk rfl (Gk rfl (Gk rfl (Gk rfl (Gk rfl (Gk rfl (Gk rfl (Gk rfl (Gk rfl (Gk rfl (Gk rfl (Gk rfl (Gk rfl (Gk rfl (Gk rfl (aB)))))))))))))))))))))))))) (fun _=>rfl) rfl ?_
  intro y W6 hbW6 _
  have hbr6:=ag hbr5 hbW6
  have x8:=hX8 _ hbW6
  have x11:=hX11 _ hbW6
  have a3:=hA3 _ hbW6
  have a4:=hA4 _ hbW6
  have hce:=(ex.ext hbW6).cell
  unfold iM at hce
  clear hbW6 hA3 hA4 hA5 hX8 hX11 hX12 ex hbk5
  have hof:(decide (0≤a.fi)&&decide (x.f=a.fi)&&decide (x.i=a.ba+n-a.fr))=false:=by simp[*]
  replace hE2:Hid (bD H.ma P.sp n=if 0≤x.f∨a.sh=true∨e.w=true∧a.wr=false then 7 else if x.f<0∧e.w=true∧1<x.r then 7 else 0):=Lib.hid (by
   rw[hE2.out,hof]
   simp)
  clear hof g1
  by_cases f1:0≤x.f
  ·skip
   have hq:Hid (bD H.ma P.sp n=7):=Lib.hid (by rw[hE2.out];simp[*];try omega)
   clear hE2
   go_wp2
   go_ret
   rw[hq.out]
   exact⟨rfl,hbr6⟩
  have f1n:x.f<0:=by omega
  cases f2:a.sh with
  | true=>
   rw[f2] at a4
   have hq:Hid (bD H.ma P.sp n=7):=Lib.hid (by rw[hE2.out];simp[*];try omega)
   clear hE2
   go_wp2
   go_ret
   rw[hq.out]
   exact⟨rfl,hbr6⟩
  | false=>
   rw[f2] at a4
   cases f3:e.w with
   | false=>
    rw[f3] at hce
    have hq:Hid (bD H.ma P.sp n=0):=Lib.hid (by rw[hE2.out];simp[*];try omega)
    clear hE2
    go_wp2
    go_ret
    rw[hq.out]
    exact⟨rfl,hbr6⟩
   | true=>
    rw[f3] at hce
    cases f4:a.wr with
    | false=>
     rw[f4] at a3
     have hq:Hid (bD H.ma P.sp n=7):=Lib.hid (by rw[hE2.out];simp[*];try omega)
     clear hE2
     go_wp2
     go_ret
     rw[hq.out]
     exact⟨rfl,hbr6⟩
    | true=>
     rw[f4] at a3
     by_cases f5:1<x.r
     ·skip
      have hq:Hid (bD H.ma P.sp n=7):=Lib.hid (by rw[hE2.out];simp[*];try omega)
      clear hE2
      go_wp2
      go_ret
      rw[hq.out]
      exact⟨rfl,hbr6⟩
     ·skip
      have hq:Hid (bD H.ma P.sp n=0):=Lib.hid (by rw[hE2.out];simp[*];try omega)
      clear hE2
      go_wp2
      go_ret
      rw[hq.out]
      exact⟨rfl,hbr6⟩
def isK (i:Int) (c:Cc):Bool:=decide (c.k=i)
theorem El (c:Cc) (i:Int) (g:Nat) (w:World) (hg:aD w g #[.int .i64 i] 3) :
  Calls Tryz.prog 71 #[.agg (wL c),.pointer (some ⟨g,0,none⟩)] w fun r w'=>r = .returned (.bool (isK i c))∧Below w.heap.size w w':=by
 go_enter func71,ntmps71
 go_upto_region 1 with (fail)
 refine gB (fun W=>Code.wp _ _ _ _ W) fun W0 hb0 hx0 hs0 => ?_
 clear hs0
 have hgx:=(hg.ext hb0).cell 0
 have hcx:=hx0.cell
 have q2:(wL c)[2]?=some (.int .i64 c.k):=rfl
 go_wp2
 go_ret
 exact⟨bG (by unfold isK;rfl),hb0⟩
theorem rD {l:List Cc} (h:dA w a (l.flatMap je)) (k:Nat) (hk:k<l.length):∃b off,a=some ⟨b,off,none⟩∧dA w (some ⟨b,off+k*3,none⟩) (je l[k]):=kJ nJ (by decide) h k hk
theorem Kr (l:List Cc) (a:Option Addr) (c:Nat) (w:World) (hrd:dA w a (l.flatMap je)) (hl:l.length≤9223372036854775807) (g:Nat) (kk:Int) (hg:aD w g #[.int .i64 kk] 3) :
  Calls Tryz.prog 113 #[.slice a l.length c,.func (.func 71) #[] #[.pointer (some ⟨g,0,none⟩)]] w fun e w'=>e = .returned (.int .i64 (idx (isK kk) l))∧Below w.heap.size w w':=by
 go_enter func113,ntmps113
 go_wp2
 go_loopw [8] (fun i wr => ∃k:Nat,k≤l.length∧i = .int .i64 k∧Below w.heap.size w wr∧∀i (h:i<l.length),i<k→(isK kk) l[i]=false) (fun i _=>l.length-(intOf i).toNat)
 case atStart=>exact⟨0,Nat.zero_le _,rfl,Below.refl _ _,fun i _ h=>absurd h (Nat.not_lt_zero _)⟩
 case round=>
  obtain⟨k,hk,rfl,hbr,hp0⟩:=hrel
  have hp:=Lib.hid hp0
  clear hp0
  by_cases hlt:k<l.length
  ·obtain⟨b,off,rfl,hel⟩:=rD (hrd.below hbr) k hlt
   go_wp2_with (refine ay _ _ rfl b (off+k*3) rfl rfl _ hel _ underlying106 rfl cached_size ?_)
   refine (El l[k] kk g _ (hg.ext hbr)).mono ?_
   rintro e w2 ⟨rfl,hb2⟩
   have hbel2:=ag hbr hb2
   clear hb2
   cases hpk:(isK kk) l[k]
   ·have hpk':=Lib.hid hpk
    clear hpk
    go_wp2
    go_roundw
    case rel=>exact⟨k+1,by omega,by go_num,hbel2,kV hp.out hlt hpk'.out⟩
    case measure=>simp[intOf];omega
   ·have hfin:=Lib.hid (nW (isK kk) l k hlt hp.out hpk)
    clear hpk
    go_wp2
    go_ret
    exact⟨aV hfin.out.symm,hbel2⟩
  ·have hfin:=Lib.hid (jQ (isK kk) l fun i h=>hp.out i h (by omega))
   go_wp2
   go_ret
   exact⟨aV hfin.out.symm,hbr⟩
theorem KL (l:List Cc) (a:Option Addr) (c:Nat) (w:World) (hrd:dA w a (l.flatMap je)) (hl:l.length≤9223372036854775807) (g:Nat) (kk:Int) (hg:aD w g #[.int .i64 kk] 3) :
  Calls Tryz.prog 70 #[.slice a l.length c,.func (.func 71) #[] #[.pointer (some ⟨g,0,none⟩)]] w fun e w'=>e = .returned (.bool (l.any (isK kk)))∧Below w.heap.size w w':=by
 go_enter func70,ntmps70
 go_wp2_with fail
 refine (Kr l a c _ hrd hl g kk hg).mono ?_
 rintro e w2 ⟨rfl,hb2⟩
 go_wp2
 go_ret
 exact⟨bG (lD _ _),hb2⟩
theorem CO (l m:List Int) (a a' : Option Addr) (c c' : Nat) (w:World) (hrd:dA w a (l.map eH)) (hrd' : dA w a' (m.map eH)) (hl:l.length≤9223372036854775807) (hl' : m.length≤9223372036854775807) :
  Calls Tryz.prog 72 #[.slice a l.length c,.slice a' m.length c'] w fun e w'=>e = .returned (.bool (l==m))∧Below w.heap.size w w':=by
 go_enter func72,ntmps72
 by_cases hlm:l.length=m.length
 ·have hne:((l.length:Int) != (m.length:Int))=false:=by simp[hlm]
  go_wp2
  go_loopw [13] (fun i wr => ∃k:Nat,k≤l.length∧i = .int .i64 k∧Below w.heap.size w wr∧∀i (h:i<l.length),i<k→l[i]=m[i]'(by omega)) (fun i _=>l.length-(intOf i).toNat)
  case atStart=>exact⟨0,Nat.zero_le _,rfl,Below.refl _ _,fun i _ h=>absurd h (Nat.not_lt_zero _)⟩
  case round=>
   obtain⟨k,hk,rfl,hbel,hp⟩:=hrel
   by_cases hlt:k<l.length
   ·obtain⟨b,off,rfl,hc⟩:=iA (hrd.below hbel) k hlt
    obtain⟨b',off',rfl,hc'⟩:=iA (hrd'.below hbel) k (by omega)
    have k1:(k:Int)<(m.length:Int):=by omega
    go_wp2_with fail
    go_quiet (fail)
    by_cases he:l[k]=m[k]'(by omega)
    ·have hz:(l[k] != m[k]'(by omega))=false:=by simp[he]
     go_wp2
     go_roundw
     case rel=>exact⟨k+1,by omega,by go_num,below_drewN hbel _,upto hp hlt he⟩
     case measure=>simp[intOf];omega
    ·have hz:(l[k] != m[k]'(by omega))=true:=by simp[he]
     go_wp2
     go_ret
     exact⟨bG (Ie k hlt (by omega) he).symm,below_drewN hbel _⟩
   ·go_wp2
    all_goals
     go_ret
     exact⟨bG (JC hlm fun i h=>hp i h (by omega)).symm,hbel⟩
 ·have hne:((l.length:Int) != (m.length:Int))=true:=by simp;omega
  go_wp2
  go_ret
  refine⟨bG ?_,Below.refl _ _⟩
  symm
  rw[beq_eq_false_iff_ne]
  rintro rfl
  exact hlm rfl
theorem jM (n:Nat) (l:List Int):(iQ n l).length=n:=by simp[iQ]
theorem kH (n:Nat) (l:List Int) (i:Nat) (hi:i<n):(iQ n l)[i]?=some (cnt l i:Int):=by simp[iQ,hi]
theorem Cj (l:List Int) (k i:Int):cnt (l++[k]) i=cnt l i+(if k=i then 1 else 0):=by
 rw[uA]
 congr 1
 unfold cnt
 rw[List.countP_cons,List.countP_nil]
 by_cases h:k=i
 ·simp[h]
 ·simp[h]
theorem yt (n:Nat) (l:List Int) (k:Nat) (hk:k<n):(iQ n l).set k ((cnt l k:Int)+1)=iQ n (l++[(k:Int)]):=by
 apply List.ext_getElem?
 intro i
 rw[List.getElem?_set,jM]
 by_cases e:k=i
 ·subst e
  rw[if_pos rfl,if_pos hk,kH _ _ _ hk,Cj,if_pos rfl]
  simp
 ·rw[if_neg e]
  by_cases hi:i<n
  ·rw[kH _ _ _ hi,kH _ _ _ hi,Cj,if_neg (by omega)];rfl
  ·rw[List.getElem?_eq_none (by rw[jM];omega),List.getElem?_eq_none (by rw[jM];omega)]
theorem Cg (n:Nat):iQ n []=List.replicate n 0:=by
 unfold iQ cnt
 apply List.ext_getElem?
 intro i
 rw[List.getElem?_map,List.getElem?_replicate]
 by_cases hi:i<n
 ·rw[List.getElem?_range hi,if_pos hi];rfl
 ·rw[if_neg hi,List.getElem?_eq_none (by simp;omega)];rfl
theorem BJ (l:List Int) (i:Int):cnt l i≤l.length:=List.countP_le_length
def IB (w:World) (g:Nat) (l:List Int):Prop:=aD w g (l.map eH).toArray 3
theorem Ak (n:Nat):madeCells #[.int .i64 0] n=((List.replicate n (0:Int)).map eH).toArray:=by
 apply Array.ext
 ·simp[size_madeCells]
 ·intro i h1 h2
  simp[madeCells,eH,Nat.mod_one]
theorem IB.cell (h:IB w g l) {v:Int} (hv:l[k]?=some v):w.cell? ⟨g,k,none⟩=some (.int .i64 v):=by
 have:=aD.cell h k
 rw[this]
 simp[hv,eH]
theorem IB.set {v:Int} (hk:k<l.length):bq (l.map eH).toArray k [.int .i64 v]=((l.set k v).map eH).toArray:=by
 show ((l.map eH).toArray).setIfInBounds k (.int .i64 v)=_
 rw[List.map_set]
 simp[eH]
theorem sU {r:List Int} (h:∀x∈l,x=0):firstE (l++r)=firstE r:=by
 induction l with
 | nil=>rfl
 | cons a l ih=>
  have h0:=h a List.mem_cons_self
  rw[List.cons_append]
  rw[firstE,h0]
  simp only[if_true,ne_eq,not_true_eq_false,if_false]
  exact ih fun x hx=>h x (List.mem_cons_of_mem _ hx)
theorem IM {x:Int} {r:List Int} (h:x≠0):firstE (x::r)=x:=by
 rw[firstE]
 simp[h]
theorem Ex {s:Sp} {n:Int} (hs:m.sp[p]?=some s) (hn:(aI s.tb)[j]?=some n) (h1:∀t∈m.sp.take p,∀i∈aI t.tb,bD m t i=0) (h2:∀i∈(aI s.tb).take j,bD m s i=0) (hne:bD m s n≠0):jN m=bD m s n:=by
 unfold jN
 have e1:m.sp=m.sp.take p++s::m.sp.drop (p+1):=by rw[←drop_at hs,List.take_append_drop]
 have e2:aI s.tb=(aI s.tb).take j++n::(aI s.tb).drop (j+1):=by rw[←drop_at hn,List.take_append_drop]
 rw[e1,List.flatMap_append,sU (fun x hx => ?_),List.flatMap_cons,e2,List.map_append,List.append_assoc,sU (fun x hx => ?_),List.map_cons,List.cons_append,IM hne]
 ·obtain⟨i,hi,rfl⟩:=List.mem_map.1 hx
  exact h2 i hi
 ·obtain⟨t,ht,hx⟩:=List.mem_flatMap.1 hx
  obtain⟨i,hi,rfl⟩:=List.mem_map.1 hx
  exact h1 t ht i hi
theorem BX (h:∀t∈m.sp,∀i∈aI t.tb,bD m t i=0):jN m=0:=by
 unfold jN
 rw[←List.append_nil (m.sp.flatMap _),sU (fun x hx => ?_)]
 ·rfl
 ·obtain⟨t,ht,hx⟩:=List.mem_flatMap.1 hx
  obtain⟨i,hi,rfl⟩:=List.mem_map.1 hx
  exact h t ht i hi
theorem LG {s:Sp} {n:Int} (h:bD m s n=0):((dn s.tb n).k=2→(dn s.tb n).n<m.sl.length)∧((dn s.tb n).k≠2→(dn s.tb n).n<m.m.fs.length):=by
 unfold bD at h
 split at h
 ·cases h
 ·simp only at h
  split at h
  ·rename_i h2
   split at h
   ·cases h
   ·rename_i h3
    exact⟨fun _=>by omega,fun h'=>absurd h2 h'⟩
  ·rename_i h2
   split at h
   ·cases h
   ·exact⟨fun h'=>absurd h' h2,fun _=>by omega⟩
def jA (m:Ma) (p:Nat) (l:List Int):List Int:=m.ca.map Cc.k++(m.sp.take p).flatMap (fun s=>kQ s.tb (aI s.tb))++l
def iE (m:Ma) (p:Nat) (l:List Int):List Int:=(m.sp.take p).flatMap (fun s=>swapT s.tb (aI s.tb))++l
theorem IK (t:Tb) (l:List Int) (n:Int):kQ t (l++[n])=kQ t l++(if (dn t n).k=1 then [(dn t n).n] else []):=by
 unfold kQ
 rw[List.filter_append,List.map_append]
 congr 1
 by_cases h:(dn t n).k=1
 ·simp[h]
 ·simp[h]
theorem Ir (t:Tb) (l:List Int) (n:Int):swapT t (l++[n])=swapT t l++(if (dn t n).k=1 then [] else [(dn t n).n]):=by
 unfold swapT
 rw[List.filter_append,List.map_append]
 congr 1
 by_cases h:(dn t n).k=1
 ·simp[h]
 ·simp[h]
theorem Eo {s:Sp} (hs:m.sp[p]?=some s):jA m p (kQ s.tb (aI s.tb))=jA m (p+1) []:=by
 unfold jA
 rw[take_at hs,List.flatMap_append,List.append_nil,List.append_assoc]
 simp
theorem CK {s:Sp} (hs:m.sp[p]?=some s):iE m p (swapT s.tb (aI s.tb))=iE m (p+1) []:=by
 unfold iE
 rw[take_at hs,List.flatMap_append,List.append_nil]
 simp
theorem JI (m:Ma):jA m m.sp.length []=mO m:=by unfold jA mO;rw[List.take_length,List.append_nil]
theorem Ej (m:Ma):iE m m.sp.length []=lL m:=by unfold iE lL;rw[List.take_length,List.append_nil]
theorem Fe (m:Ma) (p:Nat) (l:List Int) (k:Int):jA m p (l++[k])=jA m p l++[k]:=by unfold jA;rw[List.append_assoc,List.append_assoc,List.append_assoc]
theorem Db (m:Ma) (p:Nat) (l:List Int) (k:Int):iE m p (l++[k])=iE m p l++[k]:=by unfold iE;rw[List.append_assoc]
theorem uV (t:Tb) (l:List Int):(kQ t l).length≤l.length:=by unfold kQ;rw[List.length_map];exact List.length_filter_le _ _
theorem zL (t:Tb) (l:List Int):(swapT t l).length≤l.length:=by unfold swapT;rw[List.length_map];exact List.length_filter_le _ _
theorem flat_len {α:Type} (g:α→List Int) (c:Nat) (h:∀x,(g x).length≤c):∀l:List α,(l.flatMap g).length≤c*l.length
 | []=>by simp
 | x::l=>by
  have h1:=flat_len g c h l
  have h2:=h x
  rw[List.flatMap_cons,List.length_append,List.length_cons,Nat.mul_succ]
  omega
theorem pK (t:Tb):(aI t).length≤64:=mU t 64
theorem JR (m:Ma) (p:Nat) (l:List Int):(jA m p l).length≤m.ca.length+64*m.sp.length+l.length:=by
 unfold jA
 have h1:=flat_len (fun s:Sp=>kQ s.tb (aI s.tb)) 64 (fun s=>Nat.le_trans (uV _ _) (pK _)) (m.sp.take p)
 have h2:(m.sp.take p).length≤m.sp.length:=by rw[List.length_take];omega
 simp only[List.length_append,List.length_map]
 omega
theorem Jc (h:pX m) (p:Nat) (l:List Int) (K:Int):cnt (jA m p l) K≤1+64*m.sp.length+l.length:=by
 unfold jA
 rw[uA,uA]
 have h1:=flat_len (fun s:Sp=>kQ s.tb (aI s.tb)) 64 (fun s=>Nat.le_trans (uV _ _) (pK _)) (m.sp.take p)
 have h2:(m.sp.take p).length≤m.sp.length:=by rw[List.length_take];omega
 have h3:cnt (m.ca.map Cc.k) K=rT m K:=by
  unfold cnt rT
  rw[List.countP_map];rfl
 have h4:=La h K
 have h5:=BJ ((m.sp.take p).flatMap fun s=>kQ s.tb (aI s.tb)) K
 have h6:=BJ l K
 omega
theorem FB (m:Ma) (p:Nat) (l:List Int):(iE m p l).length≤64*m.sp.length+l.length:=by
 unfold iE
 have h1:=flat_len (fun s:Sp=>swapT s.tb (aI s.tb)) 64 (fun s=>Nat.le_trans (zL _ _) (pK _)) (m.sp.take p)
 have h2:(m.sp.take p).length≤m.sp.length:=by rw[List.length_take];omega
 simp only[List.length_append]
 omega
theorem Gs (w:World) (c1 c2:Array Value) (T1 T2:TypeId):Below w.heap.size w ((w.alloc (.cells c1 T1)).alloc (.cells c2 T2)).drew∧aD ((w.alloc (.cells c1 T1)).alloc (.cells c2 T2)).drew w.heap.size c1 T1∧aD ((w.alloc (.cells c1 T1)).alloc (.cells c2 T2)).drew (w.heap.size+1) c2 T2:=by
 have e:(w.alloc (.cells c1 T1)).heap.size=w.heap.size+1:=Array.size_push _
 have h1:Below w.heap.size w ((w.alloc (.cells c1 T1)).alloc (.cells c2 T2)):=((Below.refl _ _).alloc (Nat.le_refl _) _).alloc (by omega) _
 have h2:aD ((w.alloc (.cells c1 T1)).alloc (.cells c2 T2)) w.heap.size c1 T1:=(aD.new w c1 T1).ext ((Below.refl _ _).alloc (Nat.le_refl _) _)
 have h3:aD ((w.alloc (.cells c1 T1)).alloc (.cells c2 T2)) (w.heap.size+1) c2 T2:=by rw[←e];exact aD.new _ _ _
 exact⟨⟨h1.os,h1.tape,h1.output,h1.size,h1.block⟩,h2,h3⟩
theorem int_one:(Tryz.prog.info? 3).map (·.size)=some 1:=by kernel_rfl
theorem int_inf:(Tryz.prog.info? 3).map (fun i=>(i.zero,i.size,i.bytes))=some (some (.int .i64 0),1,8):=by kernel_rfl
theorem yh {y:Operand} {k:IntKind} (ho:o.op = .indexAddr t x y) (hx:ρ x = .slice (some ⟨b,0,none⟩) n c) (hy:ρ y = .int k (i:Int)) (hi:i<n)
 (hu:P.underlying t=some (.slice e)) (hs:(P.info? e).map (·.size)=some 1):(execOp ρ o).run P w = .ok (.value (.pointer (some ⟨b,i,none⟩))) w:=by
 have:=bB (w:=w) ho hx hy hi hu hs
 rw[this]
 simp
def zl (m:Ma) (i:Nat):Bool:=decide ((mM m i).r=cnt (mO m) i)&&(decide ((mM m i).f<0)||m.ca.any fun c=>decide (c.k=i))
theorem Cf (m:Ma):countB m=((List.range m.m.fs.length).all (zl m)&&decide (m.sl=iQ m.sl.length (lL m))):=rfl
theorem Da (h:countB m=true) (k:Nat) (hk:k<m.m.fs.length):zl m k=true:=by
 rw[Cf,Bool.and_eq_true,List.all_eq_true] at h
 exact h.1 k (List.mem_range.2 hk)
theorem lF (H:MH) (w:World) (h:xA w H) :
  Calls Tryz.prog 37 #[.agg (dC H)] w fun r w'=>r = .returned (.int .i64 (iB H.ma))∧Below w.heap.size w w':=by
 have hmx:H.m.fs.length*8≤281474976710656∧H.sl.length*8≤281474976710656∨¬fA H.ma=0:=by
  by_cases e:fA H.ma=0
  ·have hp:=(qL.1 e).1
   have h1:=((dB _).1 hp.fr).1
   have h2:=gM hp.sl
   have h1' : H.m.fs.length≤40:=h1
   have h2' : H.sl.length≤60:=h2
   exact .inl ⟨by omega,by omega⟩
  ·exact .inr e
 go_enter func37,ntmps37
 go_upto_region 1 with (fail)
 refine gB (fun W=>Code.wp _ _ _ _ W) fun w1 hb1 bx1 hs1 => ?_
 have h1:=h.below hb1
 have bx:aD w1 w.heap.size (dC H) 41:=bx1
 clear bx1 hs1
 go_wp2_with fail
 refine (Ik H w.heap.size _ bx h1).mono ?_
 rintro r w2 ⟨rfl,hb2⟩
 have hbr2:=ag hb1 hb2
 have bx2:=bx.ext hb2
 clear bx h1 hb1 hb2
 by_cases e1:fA H.ma=0
 rotate_left
 ·have hq:Hid (iB H.ma=fA H.ma):=Lib.hid (by unfold iB;rw[if_pos e1])
  generalize fA H.ma=E at *
  go_wp2
  go_ret
  rw[hq.out]
  exact⟨rfl,hbr2⟩
 rw[e1]
 go_wp2_with fail
 refine (EM H w.heap.size _ bx2 (h.below hbr2)).mono ?_
 rintro r w3 ⟨rfl,hb3⟩
 have hbr3:=ag hbr2 hb3
 have bx3:=bx2.ext hb3
 clear bx2 hbr2 hb3
 by_cases e2:cachedE H.ma=0
 rotate_left
 ·have hq:Hid (iB H.ma=cachedE H.ma):=Lib.hid (by unfold iB;rw[if_neg (by rw[e1];simp),if_pos e2])
  generalize cachedE H.ma=E at *
  go_wp2
  go_ret
  rw[hq.out]
  exact⟨rfl,hbr3⟩
 rw[e2]
 have hPt:=(qL.1 e1).1
 have n1:H.m.fs.length≤40:=((dB _).1 hPt.fr).1
 have n2:H.sl.length≤60:=gM hPt.sl
 have n3:H.sp.length≤4:=by have:=hPt.spl;rw[BM] at this;exact this
 have hPt':=Lib.hid hPt
 have hcaL:=Lib.hid (uh.1 e2)
 have hwr:Hid (iB H.ma=if jN H.ma≠0 then jN H.ma else if countB H.ma=true then 0 else 7):=Lib.hid (by unfold iB;rw[if_neg (by rw[e1];simp),if_neg (by rw[e2];simp)])
 clear e1 e2 hPt hmx
 go_upto_region 7 with (fail)
 have hcb:=bx3.cell
 unfold dC at hcb
 have hcb2:=fun ob=>(bx3.ext ((Below.refl _ _).alloc (Nat.le_refl _) ob)).cell
 unfold dC at hcb2
 have hmk1:=run_make_row' (P:=Tryz.prog) 29 3 (.int .i64 0) 8 underlying29 int_inf rfl .i64 .i64 H.m.fs.length (by omega) (by omega)
 have hmk2:=run_make_row' (P:=Tryz.prog) 29 3 (.int .i64 0) 8 underlying29 int_inf rfl .i64 .i64 H.sl.length (by omega) (by omega)
 go_cut [5,6] (fun s5 s6 wx => ∃gh gs,s5 = .slice (some ⟨gh,0,none⟩) H.m.fs.length H.m.fs.length∧s6 = .slice (some ⟨gs,0,none⟩) H.sl.length H.sl.length∧gh≠gs∧w3.heap.size≤gh∧w3.heap.size≤gs∧Below w3.heap.size w3 wx∧aD wx gh (madeCells #[.int .i64 0] H.m.fs.length) 3∧aD wx gs (madeCells #[.int .i64 0] H.sl.length) 3)
 case first=>
  go_region
  all_goals (go_wp2_with fail;go_meet)
  ·obtain⟨z1,z2,z3⟩:=Gs w3 (madeCells #[.int .i64 0] H.m.fs.length) (madeCells #[.int .i64 0] H.sl.length) 3 3
   exact⟨_,_,rfl,rfl,by omega,by omega,by omega,z1,z2,z3⟩
  ·obtain⟨z1,z2,z3⟩:=Gs w3 (madeCells #[.int .i64 0] H.sl.length) (madeCells #[.int .i64 0] H.m.fs.length) 3 3
   exact⟨_,_,rfl,rfl,by omega,by omega,by omega,z1,z3,z2⟩
 case rest=>
  obtain⟨gh,gs,rfl,rfl,hne,hgh,hgs,hb4,hIh,hIs⟩:=hcut
  have hbr4:=ag hbr3 hb4
  have bx4:=bx3.ext hb4
  have hwh:w.heap.size≤gh:=Nat.le_trans hbr3.size hgh
  have hws:w.heap.size≤gs:=Nat.le_trans hbr3.size hgs
  have hbh:w.heap.size≠gh:=by have:=bx3.lt;omega
  have hbs:w.heap.size≠gs:=by have:=bx3.lt;omega
  have hIh4:IB wc gh (iQ H.m.fs.length ((H.ca.take 0).map Cc.k)):=by
   rw[List.take_zero,List.map_nil,Cg];unfold IB;rw[←Ak];exact hIh
  have hIs4:IB wc gs (iQ H.sl.length []):=by
   rw[Cg];unfold IB;rw[←Ak];exact hIs
  clear hcb hcb2 hmk1 hmk2 hIh hIs hb4 bx3 hbr3 hgh hgs
  have hcb:=bx4.cell
  unfold dC at hcb
  go_upto_region 9 with (fail)
  clear hcb
  have hcl:=h.ca.le
  have hcm:=h.ca.mx
  unfold maxLen at hcm
  go_loopw [37] (fun i wr => ∃(k:Nat),k≤H.ca.length∧i = .int .i64 k∧Below w.heap.size w wr∧aD wr w.heap.size (dC H) 41∧IB wr gh (iQ H.m.fs.length ((H.ca.take k).map Cc.k))∧IB wr gs (iQ H.sl.length [])) (fun i _=>H.ca.length-(intOf i).toNat)
  case atStart=>exact⟨0,Nat.zero_le _,rfl,hbr4,bx4,hIh4,hIs4⟩
  case round=>
   clear hbr4 bx4 hIh4 hIs4
   obtain⟨k,hk,rfl,hbr,bx,hIh,hIs⟩:=hrel
   by_cases hkl:k<H.ca.length
   ·obtain⟨bc,oc,hac,hrd⟩:=kJ nJ (by decide) (h.below hbr).ca.rd k hkl
    have hki:(k:Int)<(H.ca.length:Int):=by omega
    have hclt:0≤H.ca[k].k∧H.ca[k].k<H.m.fs.length:=hcaL.out.lt _ (List.getElem_mem hkl)
    have htk:Hid ((H.ca.take (k+1)).map Cc.k=(H.ca.take k).map Cc.k++[H.ca[k].k]):=Lib.hid (by rw[take_at (List.getElem?_eq_getElem hkl),List.map_append];rfl)
    have hll:((H.ca.take k).map Cc.k).length≤k:=by rw[List.length_map,List.length_take];omega
    generalize H.ca[k]=c at *
    obtain⟨K,hcK⟩:∃K:Nat,c.k=K:=⟨c.k.toNat,by omega⟩
    have hKl:K<H.m.fs.length:=by omega
    rw[hcK] at htk
    rw[hac]
    generalize (H.ca.take k).map Cc.k=L at *
    go_wp2_with (first | (refine ay _ _ rfl bc (oc+k*3) rfl rfl _ hrd _ underlying106 rfl cached_size ?_) | (refine aL rfl _ _ _ rfl (wL c) rfl rfl rfl cached_size (uz c) ?_))
    intro w5 hb5 cx
    have hbr5:=ag hbr hb5
    have bx5:=bx.ext hb5
    have hIh5:IB w5 gh (iQ H.m.fs.length L):=hIh.ext hb5
    have hIs5:IB w5 gs (iQ H.sl.length []):=hIs.ext hb5
    clear hbr bx hIh hIs hrd hb5
    have hcc:=cx.cell
    unfold wL at hcc
    rw[hcK] at hcc
    have hce:=hIh5.cell (kH H.m.fs.length L K hKl)
    have hcl2:=BJ L K
    have hw1:IntKind.i64.wrap ((cnt L K:Int)+1)=(cnt L K:Int)+1:=IntWalk.i64_in _ (by omega)
    have hKi:(K:Int)<(H.m.fs.length:Int):=by omega
    go_wp2_with (refine az rfl _ _ _ rfl gh K _ [.int .i64 ((cnt L K:Int)+1)] rfl rfl rfl _ _ hIh5 (by simp[jM];omega) int_one (fun u hu=>by cases List.mem_singleton.1 hu;rfl) ?_)
    intro w6 hb6 hg6
    rw[IB.set (by rw[jM];exact hKl),yt _ _ _ hKl,←htk.out] at hb6
    have hbr6:=hbr5.grown hg6 hbr5.size (fun k hk=>by cases hk;exact hwh)
    have bx6:=bx5.grown hg6 (fun e=>hbh (Option.some.inj e).symm)
    have hIs6:IB w6 gs (iQ H.sl.length []):=aD.grown hIs5 hg6 (fun e=>hne (Option.some.inj e))
    clear hbr5 bx5 hIs5 hIh5 hcc hce cx hg6 hw1
    go_wp2
    go_roundw
    case rel=>exact⟨k+1,by omega,by go_num,hbr6,bx6,hb6,hIs6⟩
    case measure=>simp[intOf];omega
   ·have hki:¬(k:Int)<(H.ca.length:Int):=by omega
    rw[List.take_of_length_le (by omega)] at hIh
    have hIh0:IB wr gh (iQ H.m.fs.length (jA H.ma 0 [])):=by
     have e:jA H.ma 0 []=H.ca.map Cc.k:=by
      show H.ca.map Cc.k++[]++[]=_
      rw[List.append_nil,List.append_nil]
     rw[e];exact hIh
    have hIs0:IB wr gs (iQ H.sl.length (iE H.ma 0 [])):=hIs
    clear hIh hIs
    have hcb:=bx.cell
    unfold dC at hcb
    go_upto_region 14 with (fail)
    clear hcb
    go_loopw [52] (fun i wr => ∃(p:Nat),p≤H.sp.length∧i = .int .i64 p∧Below w.heap.size w wr∧aD wr w.heap.size (dC H) 41∧IB wr gh (iQ H.m.fs.length (jA H.ma p []))∧IB wr gs (iQ H.sl.length (iE H.ma p []))∧Hid (∀t∈H.ma.sp.take p,∀i∈aI t.tb,bD H.ma t i=0)) (fun i _=>H.sp.length-(intOf i).toNat)
    case atStart=>exact⟨0,Nat.zero_le _,rfl,hbr,bx,hIh0,hIs0,Lib.hid fun t ht=>by simp at ht⟩
    case round=>
     clear hbr bx hIh0 hIs0
     obtain⟨p,hp,rfl,hbr,bx,hIh,hIs,hz⟩:=hrel
     by_cases hpl:p<H.sp.length
     ·obtain⟨bs,os,P,hap,hP,hrd⟩:=zy (h.below hbr).sp.rd p hpl
      have hgood:=Ao (h.below hbr) hP
      have hpi:(p:Int)<(H.sp.length:Int):=by omega
      have hsP:H.ma.sp[p]?=some P.sp:=by show (H.sp.map PS.sp)[p]?=_;rw[List.getElem?_map,hP];rfl
      have harE:(bF P.ar).1=0:=hPt'.out.ar P.sp (List.mem_of_getElem? hsP)
      have htbE:cZ P.tb=0:=hPt'.out.tb P.sp (List.mem_of_getElem? hsP)
      have hsP':=Lib.hid hsP
      have hPq:=Lib.hid hP
      have hcb:=bx.cell
      unfold dC at hcb
      rw[hap] at hcb
      clear hsP hP
      go_wp2_with (refine ay _ _ rfl bs (os+p*10+2) rfl rfl _ (oO hrd 2 8) _ underlying53 tab_agg tab_size ?_)
      refine (si P.tb (mo P.ts) _ hgood.tb).mono ?_
      rintro r w5 ⟨v5,rfl,ho5,hb5⟩
      obtain⟨a5,c5,rfl,hle5,hmx5,_,hr5⟩:=ho5.rd
      have hlt5:gh<wr.heap.size∧gs<wr.heap.size:=⟨aD.lt hIh,aD.lt hIs⟩
      have hbr5:=ag hbr hb5
      have bx5:=bx.ext hb5
      have hIh5:IB w5 gh (iQ H.m.fs.length (jA H.ma p (kQ P.tb ((aI P.tb).take 0)))):=hIh.ext hb5
      have hIs5:IB w5 gs (iQ H.sl.length (iE H.ma p (swapT P.tb ((aI P.tb).take 0)))):=hIs.ext hb5
      have hrd5:=hrd.below hb5
      have hg5:=hgood.below hb5
      have hwrs:=Lib.hid hlt5
      clear hcb hbr bx hIh hIs hrd hgood hb5 hr5
      have hpin:=Lib.hid (Mg P.tb)
      have hpl64:=pK P.tb
      go_upto_region 18 with (fail)
      go_loopw [65] (fun i wr' => ∃(j:Nat),j≤(aI P.tb).length∧i = .int .i64 j∧Below w.heap.size w wr'∧aD wr' w.heap.size (dC H) 41∧IB wr' gh (iQ H.m.fs.length (jA H.ma p (kQ P.tb ((aI P.tb).take j))))∧IB wr' gs (iQ H.sl.length (iE H.ma p (swapT P.tb ((aI P.tb).take j))))∧Own wr' wr.heap.size 3 1 (.slice a5 (aI P.tb).length c5) (aI P.tb).length ((aI P.tb).map eH)∧dA wr' (some ⟨bs,os+p*10,none⟩) (nZ P)∧P.good wr'∧Hid (∀i∈(aI P.tb).take j,bD H.ma P.sp i=0)) (fun i _=>(aI P.tb).length-(intOf i).toNat)
      case atStart=>exact⟨0,Nat.zero_le _,rfl,hbr5,bx5,hIh5,hIs5,ho5,hrd5,hg5,Lib.hid fun i hi=>by simp at hi⟩
      case round=>
       clear hbr5 bx5 hIh5 hIs5 ho5 hrd5 hg5
       obtain⟨j,hj,rfl,hbr,bx,hIh,hIs,ho,hrd,hgood,hz2⟩:=hrel
       obtain⟨hgl,hsl⟩:=hwrs.out
       by_cases hjl:j<(aI P.tb).length
       ·have hji:(j:Int)<((aI P.tb).length:Int):=by omega
        obtain⟨_,_,e9,_,_,_,hrL⟩:=ho.rd
        cases e9
        have hnj:(aI P.tb)[j]?=some (aI P.tb)[j]:=List.getElem?_eq_getElem hjl
        have hnb:=hpin.out _ (List.getElem_mem hjl)
        have hnk:(dn P.tb (aI P.tb)[j]).k≠0:=(lm.1 (List.getElem_mem hjl)).2
        obtain⟨bp,op,hpa,hcn⟩:=iA hrL j hjl
        generalize hN:(aI P.tb)[j]=n at *
        have htk:Hid ((aI P.tb).take (j+1)=(aI P.tb).take j++[n]):=Lib.hid (take_at hnj)
        have hnj':=Lib.hid hnj
        have hpaQ:=Lib.hid hpa
        have hent:=(bV _).1 (qJ htbE n)
        rw[hpa]
        clear hnj hN hrL
        go_wp2_with fail
        refine (Ee H P n w.heap.size bs (os+p*10) _ bx (h.below hbr) hrd hgood harE htbE hnb).mono ?_
        rintro r w6 ⟨rfl,hb6⟩
        have hbr6:=ag hbr hb6
        have bx6:=bx.ext hb6
        have hIh6:=aD.ext hIh hb6
        have hIs6:=aD.ext hIs hb6
        have ho6:=ho.below hb6
        have hrd6:=hrd.below hb6
        have hg6:=hgood.below hb6
        clear hbr bx hIh hIs ho hrd hgood hb6 hcn
        by_cases hE:bD H.ma P.sp n=0
        rotate_left
        ·have hq:Hid (iB H.ma=bD H.ma P.sp n):=Lib.hid (by
          have:=Ex hsP'.out hnj'.out hz.out hz2.out hE
          rw[hwr.out,this,if_pos hE])
         generalize bD H.ma P.sp n=E at *
         go_wp2
         go_ret
         rw[hq.out]
         exact⟨rfl,hbr6⟩
        have hlt:=LG hE
        have hz3:Hid (∀i∈(aI P.tb).take (j+1),bD H.ma P.sp i=0):=Lib.hid fun i hi=>by
         rw[htk.out] at hi
         rcases List.mem_append.1 hi with hi|hi
         ·exact hz2.out i hi
         ·rw[List.mem_singleton.1 hi];exact hE
        rw[hE]
        clear hz2 hE
        go_wp2_with (refine ay _ _ rfl bs (os+p*10+2) rfl rfl _ (oO hrd6 2 8) _ underlying53 tab_agg tab_size ?_)
        refine (uJ P.tb (mo P.ts) n _ hg6.tb).mono ?_
        rintro r w7 ⟨rfl,hb7⟩
        have hlt2:((dn P.tb n).k=2→(dn P.tb n).n<H.sl.length)∧((dn P.tb n).k≠2→(dn P.tb n).n<H.m.fs.length):=hlt
        have hpS:kQ P.tb ((aI P.tb).take (j+1))=kQ P.tb ((aI P.tb).take j)++(if (dn P.tb n).k=1 then [(dn P.tb n).n] else []):=by rw[htk.out,IK]
        have hsS:swapT P.tb ((aI P.tb).take (j+1))=swapT P.tb ((aI P.tb).take j)++(if (dn P.tb n).k=1 then [] else [(dn P.tb n).n]):=by rw[htk.out,Ir]
        have hl1:=JR H.ma p (kQ P.tb ((aI P.tb).take j))
        have hl1b:=uV P.tb ((aI P.tb).take j)
        have hl2:=FB H.ma p (swapT P.tb ((aI P.tb).take j))
        have hl2b:=zL P.tb ((aI P.tb).take j)
        have hl3:((aI P.tb).take j).length≤64:=by rw[List.length_take];omega
        have hl4:H.ma.ca.length=H.ca.length:=rfl
        have hl5:H.ma.sp.length=H.sp.length:=BM H
        generalize dn P.tb n=e at *
        generalize kQ P.tb ((aI P.tb).take j)=L1 at *
        generalize swapT P.tb ((aI P.tb).take j)=L2 at *
        have hpS':=Lib.hid hpS
        have hsS':=Lib.hid hsS
        clear hlt hpS hsS
        have hbr7:=ag hbr6 hb7
        have bx7:=bx6.ext hb7
        have hIh7:=aD.ext hIh6 hb7
        have hIs7:=aD.ext hIs6 hb7
        have ho7:=ho6.below hb7
        have hrd7:=hrd6.below hb7
        have hg7:=hg6.below hb7
        clear hbr6 bx6 hIh6 hIs6 ho6 hrd6 hg6 hb7
        go_wp2_with (refine aL rfl _ _ _ rfl (iM e) rfl rfl rfl entry_size (by simp[iM,Value.oneCell']) ?_)
        intro w8 hb8 ex
        have hbr8:=ag hbr7 hb8
        have bx8:=bx7.ext hb8
        have hIh8:IB w8 gh _:=aD.ext hIh7 hb8
        have hIs8:IB w8 gs _:=aD.ext hIs7 hb8
        have ho8:=ho7.below hb8
        have hrd8:=hrd7.below hb8
        have hg8:=hg7.below hb8
        clear hbr7 bx7 hIh7 hIs7 ho7 hrd7 hg7 hb8
        have hce:=ex.cell
        unfold iM at hce
        by_cases hk1:e.k=1
        ·obtain⟨K,hK⟩:∃K:Nat,e.n=K:=⟨e.n.toNat,by omega⟩
         have hKl:K<H.m.fs.length:=by have:=hlt2.2 (by omega);omega
         have hpS2:=hpS'.out
         have hsS2:=hsS'.out
         rw[if_pos hk1,hK] at hpS2
         rw[if_pos hk1,List.append_nil] at hsS2
         rw[hk1,hK] at hce
         have hcx:=hIh8.cell (kH H.m.fs.length (jA H.ma p L1) K hKl)
         have hcl2:=Jc hcaL.out p L1 K
         have hw1:IntKind.i64.wrap ((cnt (jA H.ma p L1) K:Int)+1)=(cnt (jA H.ma p L1) K:Int)+1:=IntWalk.i64_in _ (by omega)
         have hKi:(K:Int)<(H.m.fs.length:Int):=by omega
         have hpS3:=Lib.hid hpS2
         have hsS3:=Lib.hid hsS2
         clear hpS2 hsS2 hlt2 hk1 hnk hent hK
         go_wp2_with (refine az rfl _ _ _ rfl gh K _ [.int .i64 ((cnt (jA H.ma p L1) K:Int)+1)] rfl rfl rfl _ _ hIh8 (by simp[jM];omega) int_one (fun u hu=>by cases List.mem_singleton.1 hu;rfl) ?_)
         intro w9 hb9 hg9
         rw[IB.set (by rw[jM];exact hKl),yt _ _ _ hKl,←Fe,←hpS3.out] at hb9
         rw[←hsS3.out] at hIs8
         have hbr9:=hbr8.grown hg9 hbr8.size (fun k hk=>by cases hk;exact hwh)
         have bx9:=bx8.grown hg9 (fun e=>hbh (Option.some.inj e).symm)
         have hIs9:IB w9 gs _:=aD.grown hIs8 hg9 (fun e=>hne (Option.some.inj e))
         have hr9:xA w9 H:=h.below hbr9
         obtain⟨bs',os',P',hap',hP',hrd9'⟩:=zy hr9.sp.rd p hpl
         have hPP:P' = P:=by
          have h2:H.ma.sp[p]?=some P.sp:=hsP'.out
          rw[hPq.out] at hP'
          exact (Option.some.inj hP').symm
         subst hPP
         rw[hap] at hap'
         cases hap'
         have hg9':=hr9.ps P' (List.mem_of_getElem? hP')
         have ho9:=ho8.grown hg9 (fun g hv e=>by
          have:=ho8.ge g hv
          have e2:=Option.some.inj e
          omega)
         clear hbr8 bx8 hIs8 hIh8 hce ex hg9 hw1 hcx ho8 hrd8 hg8 hr9
         go_wp2
         go_roundw
         case rel=>exact⟨j+1,by omega,by go_num,hbr9,bx9,hb9,hIs9,by rw[←hpaQ.out];exact ho9,hrd9',hg9',hz3⟩
         case measure=>simp[intOf];omega
        ·obtain⟨K,hK⟩:∃K:Nat,e.n=K:=⟨e.n.toNat,by omega⟩
         have hk2:e.k=2:=by omega
         have hKl:K<H.sl.length:=by have:=hlt2.1 hk2;omega
         have hpS2:=hpS'.out
         have hsS2:=hsS'.out
         rw[if_neg hk1,List.append_nil] at hpS2
         rw[if_neg hk1,hK] at hsS2
         rw[hk2,hK] at hce
         have hcx:=hIs8.cell (kH H.sl.length (iE H.ma p L2) K hKl)
         have hcl2:=BJ (iE H.ma p L2) K
         have hw1:IntKind.i64.wrap ((cnt (iE H.ma p L2) K:Int)+1)=(cnt (iE H.ma p L2) K:Int)+1:=IntWalk.i64_in _ (by omega)
         have hKi:(K:Int)<(H.sl.length:Int):=by omega
         have hpS3:=Lib.hid hpS2
         have hsS3:=Lib.hid hsS2
         clear hpS2 hsS2 hlt2 hk1 hk2 hnk hent hK
         go_wp2_with (refine az rfl _ _ _ rfl gs K _ [.int .i64 ((cnt (iE H.ma p L2) K:Int)+1)] rfl rfl rfl _ _ hIs8 (by simp[jM];omega) int_one (fun u hu=>by cases List.mem_singleton.1 hu;rfl) ?_)
         intro w9 hb9 hg9
         rw[IB.set (by rw[jM];exact hKl),yt _ _ _ hKl,←Db,←hsS3.out] at hb9
         rw[←hpS3.out] at hIh8
         have hbr9:=hbr8.grown hg9 hbr8.size (fun k hk=>by cases hk;exact hws)
         have bx9:=bx8.grown hg9 (fun e=>hbs (Option.some.inj e).symm)
         have hIh9:IB w9 gh _:=aD.grown hIh8 hg9 (fun e=>hne (Option.some.inj e).symm)
         have hr9:xA w9 H:=h.below hbr9
         obtain⟨bs',os',P',hap',hP',hrd9'⟩:=zy hr9.sp.rd p hpl
         have hPP:P' = P:=by
          have h2:H.ma.sp[p]?=some P.sp:=hsP'.out
          rw[hPq.out] at hP'
          exact (Option.some.inj hP').symm
         subst hPP
         rw[hap] at hap'
         cases hap'
         have hg9':=hr9.ps P' (List.mem_of_getElem? hP')
         have ho9:=ho8.grown hg9 (fun g hv e=>by
          have:=ho8.ge g hv
          have e2:=Option.some.inj e
          omega)
         clear hbr8 bx8 hIs8 hIh8 hce ex hg9 hw1 hcx ho8 hrd8 hg8 hr9
         go_wp2
         go_roundw
         case rel=>exact⟨j+1,by omega,by go_num,hbr9,bx9,hIh9,hb9,by rw[←hpaQ.out];exact ho9,hrd9',hg9',hz3⟩
         case measure=>simp[intOf];omega
       ·have hji:¬(j:Int)<((aI P.tb).length:Int):=by omega
        rw[List.take_of_length_le (by omega)] at hIh hIs hz2
        have hIh2:IB wr gh (iQ H.m.fs.length (jA H.ma (p+1) [])):=by rw[←Eo hsP'.out];exact hIh
        have hIs2:IB wr gs (iQ H.sl.length (iE H.ma (p+1) [])):=by rw[←CK hsP'.out];exact hIs
        have hz3:Hid (∀t∈H.ma.sp.take (p+1),∀i∈aI t.tb,bD H.ma t i=0):=Lib.hid fun t ht i hi=>by
         rw[take_at hsP'.out] at ht
         rcases List.mem_append.1 ht with ht|ht
         ·exact hz.out t ht i hi
         ·rw[List.mem_singleton.1 ht] at hi ⊢
          exact hz2.out i hi
        clear hIh hIs ho hrd hgood hz hz2
        go_wp2
        go_roundw
        case rel=>
         refine⟨_,_,_,_,_,_,.int .i64 ((p:Int)+1),⟨p+1,by omega,?_,hIh2,hIs2,hz3⟩,rfl,rfl,rfl,rfl,rfl,rfl,rfl⟩
         go_num
        case measure=>simp[intOf];omega
     ·have hpi:¬(p:Int)<(H.sp.length:Int):=by omega
      have hpe:p=H.ma.sp.length:=by rw[BM];omega
      rw[hpe,JI] at hIh
      rw[hpe,Ej] at hIs
      rw[hpe,List.take_length] at hz
      have hwr2:Hid (iB H.ma=if countB H.ma=true then 0 else 7):=Lib.hid (by rw[hwr.out,if_neg (by rw[BX hz.out];simp)])
      clear hz hwr hpe
      have hcb:=bx.cell
      unfold dC at hcb
      go_upto_region 30 with (fail)
      clear hcb
      go_loopw [104] (fun i wr => ∃(k:Nat),k≤H.m.fs.length∧i = .int .i64 k∧Below w.heap.size w wr∧aD wr w.heap.size (dC H) 41∧IB wr gh (iQ H.m.fs.length (mO H.ma))∧IB wr gs (iQ H.sl.length (lL H.ma))∧Hid (∀i,i<k→zl H.ma i=true)) (fun i _=>H.m.fs.length-(intOf i).toNat)
      case atStart=>exact⟨0,Nat.zero_le _,rfl,hbr,bx,hIh,hIs,Lib.hid fun i hi=>absurd hi (Nat.not_lt_zero _)⟩
      case round=>
       clear hbr bx hIh hIs
       obtain⟨k,hk,rfl,hbr,bx,hIh,hIs,hz3⟩:=hrel
       by_cases hkl:k<H.m.fs.length
       ·obtain⟨bg,og,haf,hrd⟩:=kJ eB (by decide) (h.below hbr).fr.rd k hkl
        have hki:(k:Int)<(H.m.fs.length:Int):=by omega
        have hxf:H.m.fs[k]=aO H.ma k:=by
         have:=rW (m:=H.ma) (f:=k) hkl
         have h2:H.m.fs[k]?=some (aO H.ma k):=this
         rw[List.getElem?_eq_getElem hkl] at h2
         exact Option.some.inj h2
        rw[hxf] at hrd
        have hcd:Hid (zl H.ma k=(decide ((aO H.ma k).r=cnt (mO H.ma) k)&&(decide ((aO H.ma k).f<0)||H.ca.any (isK (k:Int))))):=Lib.hid rfl
        generalize aO H.ma k=x at *
        rw[haf]
        clear hxf
        obtain⟨gi,hgi⟩:∃g,g=wr.heap.size:=⟨_,rfl⟩
        go_upto_region 31 with (fail)
        have hgl:gh<wr.heap.size∧gs<wr.heap.size:=⟨aD.lt hIh,aD.lt hIs⟩
        have hbl:=bx.lt
        have hbA:Below wr.heap.size wr ((wr.alloc (.cells #[.int .i64 0] 3)).alloc (.cells #[.int .u8 0,.int .u8 0,.int .u8 0,.int .u8 0,.int .u8 0,.int .u8 0,.int .u8 0,.int .u8 0,.int .i64 0,.bool false,.bool false,.int .i64 0,.int .i64 0] 81)):=((Below.refl _ _).alloc (Nat.le_refl _) _).alloc (by rw[show (wr.alloc (.cells #[.int .i64 0] 3)).heap.size=wr.heap.size+1 from Array.size_push _];omega) _
        have e1:(wr.alloc (.cells #[.int .i64 0] 3)).heap.size=wr.heap.size+1:=Array.size_push _
        have hB1:aD ((wr.alloc (.cells #[.int .i64 0] 3)).alloc (.cells #[.int .u8 0,.int .u8 0,.int .u8 0,.int .u8 0,.int .u8 0,.int .u8 0,.int .u8 0,.int .u8 0,.int .i64 0,.bool false,.bool false,.int .i64 0,.int .i64 0] 81)) wr.heap.size #[.int .i64 0] 3:=(aD.new wr _ _).ext ((Below.refl _ _).alloc (Nat.le_refl _) _)
        have hB2:aD ((wr.alloc (.cells #[.int .i64 0] 3)).alloc (.cells #[.int .u8 0,.int .u8 0,.int .u8 0,.int .u8 0,.int .u8 0,.int .u8 0,.int .u8 0,.int .u8 0,.int .i64 0,.bool false,.bool false,.int .i64 0,.int .i64 0] 81)) (wr.heap.size+1) #[.int .u8 0,.int .u8 0,.int .u8 0,.int .u8 0,.int .u8 0,.int .u8 0,.int .u8 0,.int .u8 0,.int .i64 0,.bool false,.bool false,.int .i64 0,.int .i64 0] 81:=by rw[←e1];exact aD.new _ _ _
        go_wp2_with (first | (refine ay _ _ rfl bg (og+k*13) rfl rfl _ hrd _ underlying81 rfl frame_size ?_) | (refine az rfl _ _ _ rfl wr.heap.size 0 _ [.int .i64 (k:Int)] rfl rfl rfl _ _ hB1 (by show 0+1≤1;decide) int_one (fun u hu=>by cases List.mem_singleton.1 hu;rfl) ?_))
        intro w5 hb5 hg5
        have hb5' : aD w5 wr.heap.size #[.int .i64 (k:Int)] 3:=hb5
        have hf5:=hB2.grown hg5 (fun e=>by have:=Option.some.inj e;omega)
        have hbA5:=hbA.grown hg5 hbA.size (fun k hk=>by cases hk;exact Nat.le_refl _)
        go_wp2_with (refine fq rfl _ _ _ rfl (wr.heap.size+1) 0 (uP x) rfl rfl _ _ hf5 (by show 0+13≤13;decide) frame_size (qg x) ?_)
        intro w6 hb6 hg6
        have fx6:aD w6 (wr.heap.size+1) (uP x) 81:=by
         have e2:=ik (#[.int .u8 0,.int .u8 0,.int .u8 0,.int .u8 0,.int .u8 0,.int .u8 0,.int .u8 0,.int .u8 0,.int .i64 0,.bool false,.bool false,.int .i64 0,.int .i64 0]) (uP x) rfl
         rw[←e2];exact hb6
        have ix6:aD w6 wr.heap.size #[.int .i64 (k:Int)] 3:=hb5'.grown hg6 (fun e=>by have:=Option.some.inj e;omega)
        have hbA6:=hbA5.grown hg6 hbA5.size (fun k hk=>by cases hk;omega)
        have hbr6:=ag hbr hbA6
        have bx6:=bx.ext hbA6
        have hIh6:IB w6 gh _:=aD.ext hIh hbA6
        have hIs6:IB w6 gs _:=aD.ext hIs hbA6
        obtain⟨gx,hgx⟩:∃g,g=wr.heap.size+1:=⟨_,rfl⟩
        rw[←hgx] at fx6 ⊢
        rw[←hgi] at ix6 ⊢
        clear hbA hbA5 hbA6 hB1 hB2 hb5 hb5' hf5 hg5 hg6 hb6 hrd hbr bx hIh hIs e1 hgl hbl hgx hgi
        go_upto_region 32 with (fail)
        by_cases c1:x.r=cnt (mO H.ma) k
        ·by_cases c2:0≤x.f
         ·skip
          refine aG 19 [_,_,_,_,_,_,_,_,_,_,_,_,_,_,.v (.func (.func 71) #[] #[.pointer (some ⟨gi,0,none⟩)]),.v (.bool (H.ca.any (isK (k:Int)))),_,_,.v (.bool (!(H.ca.any (isK (k:Int)))))] (Gf gx 8 rfl rfl (Gl fx6 rfl rfl rfl rfl rfl (Gk rfl (Gl ix6 (V:=.int .i64 (k:Int)) rfl rfl rfl rfl rfl (Gr (.pointer (some ⟨gh,k,none⟩)) (fun ρ y W hb hKn=>(yh rfl (aF rfl hKn) (aF rfl hKn) hkl underlying29 int_one)) rfl rfl (Gc (.int .i64 (cnt (mO H.ma) k:Int)) (fun W hb=>by simp[IB.cell (aD.ext hIh6 hb) (kH H.m.fs.length (mO H.ma) k hkl)]) rfl rfl rfl rfl (Gb (.bool false) (by simp[go_sem,c1]) rfl rfl rfl rfl rfl (Gk rfl (Gf gx 11 rfl rfl (Gl fx6 rfl rfl rfl rfl rfl (Gb (.bool true) (by simp[go_sem,c2]) rfl rfl rfl rfl rfl (Gk rfl (Gf w.heap.size 9 rfl rfl (Gl bx6 rfl rfl rfl rfl rfl (ae ?_ (ae ?_ (Gr (.bool (!(H.ca.any (isK (k:Int))))) (fun ρ y W hb hKn=>wV rfl (aF rfl hKn)) rfl rfl (Gk rfl (Gk rfl (aB)))))))))))))))))))) (fun _=>rfl) rfl ?_
          ·intro ρ y W hw hn hb hd;have E15:ρ (.tmp 15) = .pointer (some ⟨gi,0,none⟩):=(hn (.tmp 15) rfl).trans rfl
           refine aj (.func (.func 71) #[] #[.pointer (some ⟨gi,0,none⟩)]) (aQ 11 120 true true rfl rfl ((hw 120 11 rfl).trans (hd 11 rfl))) (by simp[execOp,go_sem,E15]) rfl
          ·intro ρ y W hw hn hb hd;have E122:=hw 122 13 rfl;have h13:y 13=_:=hd 13 rfl;have E123:=hw 123 14 rfl;have h14:y 14=_:=hd 14 rfl
           have EF:∀f,ρ (.func f) = .func (.func f) #[] #[]:=fun f=>hn (.func f) trivial
           refine aM _ _ (aQ 11 120 true true rfl rfl ((hw 120 11 rfl).trans (hd 11 rfl))) (aN rfl (EF _) func70 (by kernel_rfl) (by kernel_rfl) (by simp only[List.map_toArray,List.map_cons,List.map_nil,E122,h13,E123,h14,EF];rfl)) ?_
           refine (KL H.ca _ _ W ((h.below hbr6).below hb).ca.rd (by omega) gi k (ix6.ext hb)).mono ?_
           rintro r w1 ⟨rfl,hb1⟩
           exact⟨_,rfl,hb1,rfl⟩
          intro y W7 hbW7 _
          have hbr7:=ag hbr6 hbW7
          have bx7:=bx6.ext hbW7
          have hIh7:=aD.ext hIh6 hbW7
          have hIs7:=aD.ext hIs6 hbW7
          clear hbW7 hbr6 bx6 hIh6 hIs6 ix6 fx6
          cases hA:H.ca.any (isK (k:Int)) with
          | true=>
           have hcnd:Hid (zl H.ma k=true):=Lib.hid (by rw[hcd.out,decide_eq_true c1,hA];simp)
           clear c1 c2
           have hall:Hid (∀i,i<k+1→zl H.ma i=true):=Lib.hid fun i hi=>by
            by_cases e:i=k
            ·rw[e];exact hcnd.out
            ·exact hz3.out i (by omega)
           go_wp2
           go_roundw
           case rel=>exact⟨k+1,by omega,by go_num,hbr7,bx7,hIh7,hIs7,hall⟩
           case measure=>simp[intOf];omega
          | false=>
           have hcnd:Hid (zl H.ma k=false):=Lib.hid (by rw[hcd.out,decide_eq_true c1,hA,decide_eq_false (by omega)];rfl)
           clear c1 c2
           have hq:Hid (iB H.ma=7):=Lib.hid (by rw[hwr2.out,if_neg];intro hcb;exact absurd (Da hcb k hkl) (by rw[hcnd.out];decide))
           go_wp2
           go_ret
           rw[hq.out]
           exact⟨rfl,hbr7⟩
         ·have hcnd:Hid (zl H.ma k=true):=Lib.hid (by rw[hcd.out,decide_eq_true c1,decide_eq_true (by omega)];rfl)
          refine aG 19 [_,_,_,_,_,_,_,_,_,_,_,_,_,_,_,_,_,_,.v (.bool false)] (Gf gx 8 rfl rfl (Gl fx6 rfl rfl rfl rfl rfl (Gk rfl (Gl ix6 (V:=.int .i64 (k:Int)) rfl rfl rfl rfl rfl (Gr (.pointer (some ⟨gh,k,none⟩)) (fun ρ y W hb hKn=>(yh rfl (aF rfl hKn) (aF rfl hKn) hkl underlying29 int_one)) rfl rfl (Gc (.int .i64 (cnt (mO H.ma) k:Int)) (fun W hb=>by simp[IB.cell (aD.ext hIh6 hb) (kH H.m.fs.length (mO H.ma) k hkl)]) rfl rfl rfl rfl (Gb (.bool false) (by simp[go_sem,c1]) rfl rfl rfl rfl rfl (Gk rfl (Gf gx 11 rfl rfl (Gl fx6 rfl rfl rfl rfl rfl (Gb (.bool false) (by simp[go_sem,c2]) rfl rfl rfl rfl rfl (Gk rfl (Gk rfl (Gk rfl (Gk rfl (Gk rfl (Gk rfl (Gk rfl (Gk rfl (aB)))))))))))))))))))) (fun _=>rfl) rfl ?_
          intro y W7 hbW7 _
          have hbr7:=ag hbr6 hbW7
          have bx7:=bx6.ext hbW7
          have hIh7:=aD.ext hIh6 hbW7
          have hIs7:=aD.ext hIs6 hbW7
          clear hbW7 hbr6 bx6 hIh6 hIs6 ix6 fx6
          clear c1 c2
          have hall:Hid (∀i,i<k+1→zl H.ma i=true):=Lib.hid fun i hi=>by
           by_cases e:i=k
           ·rw[e];exact hcnd.out
           ·exact hz3.out i (by omega)
          go_wp2
          go_roundw
          case rel=>exact⟨k+1,by omega,by go_num,hbr7,bx7,hIh7,hIs7,hall⟩
          case measure=>simp[intOf];omega
        ·have hcnd:Hid (zl H.ma k=false):=Lib.hid (by rw[hcd.out,decide_eq_false c1];rfl)
         refine aG 19 [_,_,_,_,_,_,_,_,_,_,_,_,_,_,_,_,_,_,.v (.bool true)] (Gf gx 8 rfl rfl (Gl fx6 rfl rfl rfl rfl rfl (Gk rfl (Gl ix6 (V:=.int .i64 (k:Int)) rfl rfl rfl rfl rfl (Gr (.pointer (some ⟨gh,k,none⟩)) (fun ρ y W hb hKn=>(yh rfl (aF rfl hKn) (aF rfl hKn) hkl underlying29 int_one)) rfl rfl (Gc (.int .i64 (cnt (mO H.ma) k:Int)) (fun W hb=>by simp[IB.cell (aD.ext hIh6 hb) (kH H.m.fs.length (mO H.ma) k hkl)]) rfl rfl rfl rfl (Gb (.bool true) (by simp[go_sem,c1]) rfl rfl rfl rfl rfl (Gk rfl (Gk rfl (Gk rfl (Gk rfl (Gk rfl (Gk rfl (Gk rfl (Gk rfl (Gk rfl (Gk rfl (Gk rfl (Gk rfl (aB)))))))))))))))))))) (fun _=>rfl) rfl ?_
         intro y W7 hbW7 _
         have hbr7:=ag hbr6 hbW7
         have bx7:=bx6.ext hbW7
         have hIh7:=aD.ext hIh6 hbW7
         have hIs7:=aD.ext hIs6 hbW7
         clear hbW7 hbr6 bx6 hIh6 hIs6 ix6 fx6
         clear c1
         have hq:Hid (iB H.ma=7):=Lib.hid (by rw[hwr2.out,if_neg];intro hcb;exact absurd (Da hcb k hkl) (by rw[hcnd.out];decide))
         go_wp2
         go_ret
         rw[hq.out]
         exact⟨rfl,hbr7⟩
       ·have hki:¬(k:Int)<(H.m.fs.length:Int):=by omega
        have hrs:=(h.below hbr).sl
        have hIsr:dA wr (some ⟨gs,0,none⟩) ((iQ H.sl.length (lL H.ma)).map eH):=fun i u hi=>⟨gs,0,rfl,by rw[Nat.zero_add,aD.cell hIs];simpa using hi⟩
        have hcb:=bx.cell
        unfold dC at hcb
        have hll:=Lib.hid (jM H.sl.length (lL H.ma))
        have hq:Hid (iB H.ma=if H.sl=iQ H.sl.length (lL H.ma) then 0 else 7):=Lib.hid (by
         rw[hwr2.out,Cf,List.all_eq_true.2 (fun i hi=>hz3.out i (by have:=List.mem_range.1 hi;have e:H.ma.m.fs.length=H.m.fs.length:=rfl;omega)),Bool.true_and]
         show (if decide (H.sl=iQ H.sl.length (lL H.ma))=true then (0:Int) else 7)=_
         by_cases e:H.sl=iQ H.sl.length (lL H.ma)
         ·rw[if_pos e,if_pos (decide_eq_true e)]
         ·rw[if_neg e,if_neg (by simp[e])])
        have hsl60:=n2
        generalize hC:iQ H.sl.length (lL H.ma)=C at *
        clear hz3 hwr2 hC
        go_wp2_with fail
        rw[show (Value.slice (some ⟨gs,0,none⟩) H.sl.length H.sl.length) = .slice (some ⟨gs,0,none⟩) C.length H.sl.length from by rw[hll.out]]
        refine (CO H.sl C H.asl (some ⟨gs,0,none⟩) H.csl H.sl.length _ hrs.rd hIsr (by omega) (by rw[hll.out];omega)).mono ?_
        rintro r w5 ⟨rfl,hb5⟩
        by_cases e:H.sl=C
        ·rw[show (H.sl==C)=true from by rw[beq_iff_eq];exact e]
         have hq0:Hid (iB H.ma=0):=Lib.hid (by rw[hq.out,if_pos e])
         clear e hcb
         go_wp2
         go_ret
         rw[hq0.out]
         exact⟨rfl,ag hbr hb5⟩
        ·rw[show (H.sl==C)=false from by rw[beq_eq_false_iff_ne];exact e]
         have hq0:Hid (iB H.ma=7):=Lib.hid (by rw[hq.out,if_neg e])
         clear e hcb
         go_wp2
         go_ret
         rw[hq0.out]
         exact⟨rfl,ag hbr hb5⟩
theorem jB {a:Nat} (h:aD w a cs T) (h' : aD w b cs' T') (hT:T≠T'):a≠b:=by
 rintro rfl
 unfold aD at h h'
 rw[h] at h'
 simp only[Option.some.injEq,Obj.cells.injEq] at h'
 exact hT h'.2.1
def OQ (B:Nat) (m:Mem):jJ:=⟨fun v w => ∃u,v = .agg #[u,.int .i64 m.hand]∧Own w B 81 13 u m.fs.length (m.fs.flatMap lZ),fun _ _ _ hb ⟨u,h1,h2⟩=>⟨u,h1,h2.below hb⟩⟩
theorem iN (l:List Cc):(l.flatMap je).length=l.length*3:=Pw.flat_len je 3 nJ l
theorem Bz (c:Cc):∀u∈je c,u.oneCell' = true:=bv (uz c)
theorem xg (l:List Cc):∀u∈l.flatMap je,u.oneCell' = true:=by
 intro u hu
 obtain⟨c,_,hc⟩:=List.mem_flatMap.1 hu
 exact Bz c u hc
def EZ (B:Nat) (S:St):jJ:=⟨fun v w => ∃u ps k,v = .agg #[u,.int .i64 k]∧kD w B u ps∧bY ps k=S,fun _ _ _ hb ⟨u,ps,k,h1,h2,h3⟩=>⟨u,ps,k,h1,h2.below hb,h3⟩⟩
end Go.Proofs.YtjkkoeijlhfneaaGreat
namespace Pw
open Go Go.RowKit
variable {P:Program} {Q:Exit → Act → World → Prop} {a0:Act} {i id:Nat} {o:Oper} {ops:Array Oper} {v:Value} {w w0:World}
theorem wp_mono' {a:Act} {K K' : Act→World→Prop} (h:∀v D w,K (Act.put { a with defers:=D } o.dst v) w→K' (Act.put { a with defers:=D } o.dst v) w)
 (hh:o.wp P a w K Q):o.wp P a w K' Q:=by
 unfold Oper.wp at *
 generalize (execOp a.eval o).run P w=r at *
 cases r with
 | ok n w'=>
  cases n<;>simp only[Oper.upon] at hh ⊢ <;>
   first
    | exact h _ a.defers _ hh
    | exact h _ _ _ hh
    | exact Calls.mono hh (fun e w'' he=>by cases e<;>first | exact h _ a.defers _ he | exact he)
    | exact Rows.mono hh (fun _ _ he=>h _ a.defers _ he)
 | halt x w'=>cases x<;>simp only[Oper.upon] at hh ⊢<;>exact hh
def vY (v:Value) (o:Oper):Oper:={ o with op:=.move (.const v) }
def freed (ops:Array Oper) (p:Nat) (v:Value):Array Oper:=ops.modify p (vY v)
theorem uT (ops:Array Oper) (p:Nat) (v:Value) (i:Nat):(freed ops p v)[i]?=if p=i then (ops[i]?).map (vY v) else ops[i]?:=by
 unfold freed
 rw[Array.getElem?_modify]
theorem yJ (ops:Array Oper) (p:Nat) (v:Value):(freed ops p v).size=ops.size:=by unfold freed;simp
theorem vO (ops:Array Oper) (p:Nat) (v:Value) (listed:Array Bool):Region.ready .any (freed ops p v) listed=Region.ready .any ops listed:=by
 unfold Region.ready
 rw[yJ]
 apply List.filter_congr
 intro i _
 congr 1
 rw[uT]
 by_cases e:p=i
 ·rw[if_pos e]
  cases ops[i]?<;>rfl
 ·rw[if_neg e]
theorem yX (ops:Array Oper) (p:Nat) (v:Value) (ts:Array Value):yielded (freed ops p v) ts=yielded ops ts:=by
 funext g
 unfold yielded
 rw[uT]
 by_cases e:p=g
 ·rw[if_pos e]
  cases ops[g]?<;>rfl
 ·rw[if_neg e]
def Es (ops:Array Oper) (p d:Nat):Bool:=
 (match ops[p]? with
  | some o=>(match o.op with
   | .move (.tmp t)=>decide (t=d)&&o.guard.isNone&&decide (o.dst≠some d)
   | _=>false)
  | none=>false) &&
 (List.range ops.size).all fun i=>match ops[i]? with
  | none=>true
  | some o=>decide (o.dst≠some d)||o.after.toList.any fun e=>decide (e.on=p)&&Region.binds .any e
theorem Dn {a:Act} {D:List Deferred} {dst:Option Tmp} {d:Nat} (h:dst≠some d):(Act.put { a with defers:=D } dst v).eval (.tmp d)=a.eval (.tmp d):=by
 cases dst with
 | none=>rfl
 | some t=>
  have ht:t≠d:=fun e=>h (by rw[e])
  simp[Act.put,Act.eval,Array.getElem?_setIfInBounds,ht]
theorem Fw {listed:Array Bool} (hi:i∈Region.ready .any ops listed) (ho:ops[i]?=some o):listed.getD i false=false∧∀e∈o.after,Region.binds .any e=true→listed.getD e.on false=true:=by
 obtain⟨h1,o',ho',h2⟩:=mem_ready.1 hi
 rw[ho] at ho'
 cases ho'
 refine⟨?_,h2⟩
 rw[Array.getD_eq_getD_getElem?] at h1 ⊢
 cases h:listed[i]? with
 | none=>rfl
 | some b=>rw[h] at h1;exact h1
theorem uy {P:Program} {ops:Array Oper} {Q:Exit→Act→World→Prop} {p d:Nat} {v:Value} (hok0:Es ops p d=true):∀(fuel:Nat) (listed:Array Bool) (a:Act) (w:World),(listed.getD p false=false→a.eval (.tmp d)=v)→wpAny P .any (freed ops p v) Q fuel listed a w→wpAny P .any ops Q fuel listed a w
 | 0,listed,a,w,hI,h=>by
  unfold wpAny at h ⊢
  rw[vO] at h
  exact h
 | fuel+1,listed,a,w,hI,h=>by
  unfold wpAny at h ⊢
  rw[vO] at h
  refine⟨h.1,fun i hi => ?_⟩
  have hw:=h.2 i hi
  have hup:(listed.setIfInBounds i true).getD p false=false→listed.getD p false=false:=fun h'=>by
   cases hl:listed.getD p false with
   | false=>rfl
   | true=>
    exfalso
    by_cases hs:i<listed.size
    ·rw[rH hs p hl] at h'; cases h'
    ·have e:listed.setIfInBounds i true=listed:=by rw[Array.setIfInBounds_eq_of_size_le (by omega)]
     rw[e,hl] at h'; cases h'
  have hok:=hok0
  unfold Es at hok
  rw[Bool.and_eq_true] at hok
  obtain⟨hp,hall⟩:=hok
  unfold wpOp at hw ⊢
  rw[uT,yX] at hw
  cases ho:ops[i]? with
  | none=>
   rw[ho] at hw
   have hw' : wpAny P .any (freed ops p v) Q fuel (listed.setIfInBounds i true) a w:=by
    by_cases e:p=i
    ·rw[if_pos e] at hw;exact hw
    ·rw[if_neg e] at hw;exact hw
   exact uy hok0 fuel _ a w (fun h'=>hI (hup h')) hw'
  | some o=>
   rw[ho] at hw
   have hilt:i<ops.size:=(Array.getElem?_eq_some_iff.1 ho).1
   have hedge:=Fw hi ho
   by_cases e:p=i
   ·subst e
    rw[if_pos rfl] at hw
    simp only[Option.map_some] at hw
    rw[ho] at hp
    simp only at hp
    cases hop:o.op with
    | move x=>
     rw[hop] at hp
     cases x with
     | tmp t=>
      simp only[Bool.and_eq_true,decide_eq_true_eq] at hp
      obtain⟨⟨rfl,hg⟩,hdst⟩:=hp
      have hev:a.eval (.tmp t)=v:=hI hedge.1
      have hex:execOp a.eval (vY v o)=execOp a.eval o:=by
       unfold execOp vY
       simp only[hop]
       rw[hev];rfl
      have hnext:∀(v' : Value) (D:List Deferred) (w:World),wpAny P .any (freed ops p v) Q fuel (listed.setIfInBounds p true) (Act.put { a with defers:=D } o.dst v') w→wpAny P .any ops Q fuel (listed.setIfInBounds p true) (Act.put { a with defers:=D } o.dst v') w:=
       fun v' D w hh=>uy hok0 fuel _ _ w (fun _=>by rw[Dn hdst];exact hev) hh
      simp only
      have hwt:Region.wanted (vY v o) (yielded ops a.tmps)=Region.wanted o (yielded ops a.tmps):=rfl
      rw[hwt] at hw
      split
      ·rename_i hwant
       rw[if_pos hwant] at hw
       rcases hw with hw|hw
       ·refine .inl (wp_mono' hnext ?_)
        unfold Oper.wp at hw ⊢
        rw[←hex];exact hw
       ·refine .inr ⟨?_,hw.2⟩
        have:=hw.1
        unfold Oper.asks at this ⊢
        rw[←hex];exact this
      ·rename_i hwant
       rw[if_neg hwant] at hw
       exact hnext undef a.defers w hw
     | _=>cases hp
    | _=>rw[hop] at hp;cases hp
   ·rw[if_neg e] at hw
    simp only at hw ⊢
    have ho2:=List.all_eq_true.1 hall i (List.mem_range.2 hilt)
    rw[ho] at ho2
    simp only[Bool.or_eq_true,decide_eq_true_eq] at ho2
    have hnext:∀(v' : Value) (D:List Deferred) (w:World),wpAny P .any (freed ops p v) Q fuel (listed.setIfInBounds i true) (Act.put { a with defers:=D } o.dst v') w→wpAny P .any ops Q fuel (listed.setIfInBounds i true) (Act.put { a with defers:=D } o.dst v') w:=by
     intro v' D w hh
     refine uy hok0 fuel _ _ w (fun h' => ?_) hh
     rcases ho2 with h2|h2
     ·rw[Dn h2];exact hI (hup h')
     ·rw[List.any_eq_true] at h2
      obtain⟨e',he',h3⟩:=h2
      rw[Bool.and_eq_true,decide_eq_true_eq] at h3
      have:=hedge.2 e' (Array.mem_toList_iff.1 he') h3.2
      rw[h3.1] at this
      rw[hup h'] at this;cases this
    split
    ·rename_i hwant
     rw[if_pos hwant] at hw
     exact hw.imp (wp_mono' hnext) id
    ·rename_i hwant
     rw[if_neg hwant] at hw
     exact hnext undef a.defers w hw
def freedL:List Oper→Nat→Value→List Oper
 | [],_,_=>[]
 | o::r,0,v=>vY v o::r
 | o::r,k+1,v=>o::freedL r k v
theorem xB (v:Value):∀(l:List Oper) (p:Nat),l.modify p (vY v)=freedL l p v
 | [],p=>by cases p<;>rfl
 | o::r,0=>rfl
 | o::r,k+1=>by
  rw[List.modify_succ_cons,xB v r k];rfl
theorem Hl (l:List Oper) (p:Nat) (v:Value):freed ⟨l⟩ p v=⟨freedL l p v⟩:=by
 unfold freed
 rw[←xB]
 simp
theorem NS {l:List Oper} (p d:Nat) (v0:Value) (hm:P.follows .mixedOrders=true) (hf:Es ⟨l⟩ p d=true) (hv:a0.eval (.tmp d)=v0)
 (h:∀ops:Array Oper,ops=(freedL l p v0).toArray→wpAny P .any ops Q ops.size (Array.replicate ops.size false) a0 { w0 with drawn:=w0.drawn+1 }) :
  (Code.region id ⟨l⟩ true).wp P Q a0 w0:=by
 have h:=h _ rfl
 rw[show (freedL l p v0).toArray=freed ⟨l⟩ p v0 from (Hl l p v0).symm,yJ] at h
 exact wp_region_any hm (uy hf _ _ _ _ (fun _=>hv) h)
end Pw
namespace Go.Proofs.YtjkkoeijlhfneaaGreat
open _root_.Go.Proofs.Tryz
open Go.RowKit Go.Maps Pw
variable {B B' B0 b c g n p sz:Nat} {H:MH} {T t:TypeId} {a:Option Addr} {cs:Array Value} {ps:List PF} {sl:List Int} {v:Value} {vs xs ys:List Value} {w w' w0 w1 w2:World}
theorem Bt (l:List Cc) (a:Option Addr) (c:Nat) (w:World) (hle:l.length≤c) (hnil:a=none→c=0) (hrd:dA w a (l.flatMap je)) (hb:l.length*24≤140737488355328) :
  Calls Tryz.prog 76 #[.slice a l.length c] w fun e w' => ∃v,e = .returned v∧Own w' w.heap.size 106 3 v l.length (l.flatMap je)∧Below w.heap.size w w':=by
 cases a with
 | none=>
  have h0:=hnil rfl
  have hl:l=[]:=List.eq_nil_of_length_eq_zero (by omega)
  subst hl
  subst h0
  have hq:=fun W=>Lib.run_eql_slice_nil (P:=Tryz.prog) W 38 _ none 0 0 0 0 underlying38
  go_enter func76,ntmps76
  go_wp2
  go_ret
  exact⟨_,rfl,by simpa using Own.nil _ _ _ _,Below.refl _ _⟩
 | some ad=>
  have hq:=fun W=>Lib.run_eql_slice_nil (P:=Tryz.prog) W 38 _ (some ad) l.length c 0 0 underlying38
  go_enter func76,ntmps76
  go_wp2_with (at_builtin;go_must (refine dI rfl _ _ 38 rfl w.heap.size 106 (.agg #[.int .i64 0,.int .i64 0,.int .i64 0]) 3 24 underlying38 cached_info rfl (by decide) _ 0 [] rfl ?own (some ad) l.length c (l.flatMap je) rfl (fun h=>(by cases h)) hle (iN l) ?rd (xg l) (by unfold maxLen;omega) (by simpa using hb) ?bb ?k))
  case own=>exact⟨rfl,.inr ⟨w.heap.size,0,0,#[],rfl,Nat.le_refl _,aD.new _ _ _,Nat.le_refl _,Nat.zero_le _,by simp,fun j u h=>by simp at h⟩⟩
  case rd=>exact hrd.below ((Below.refl _ _).alloc (Nat.le_refl _) _)
  case bb=>exact ed _ _
  intro v w1 hown hgr
  go_wp2
  go_ret
  exact⟨v,rfl,by simpa using hown,((Below.refl _ _).alloc (Nat.le_refl _) _).grown hgr (ed _ _) (fun k hk=>by cases hk;exact Nat.le_refl _)⟩
theorem MJ.fsz (h:MJ H.ma):NM H.fi:=by
 have h1:(H.fi.map PF.fi).length≤1000:=h.st.1
 rw[List.length_map] at h1
 refine⟨by omega,fun p hp => ?_⟩
 have:=h.st.2 p.fi (List.mem_map.2 ⟨p,hp,rfl⟩)
 have e:p.fi.b.length=p.l.length:=rfl
 omega
theorem MJ.spz (h:MJ H.ma) {p:PS} (hp:p∈H.sp):p.ar.length≤1000∧zk p.tb:=by
 obtain⟨h1,h2⟩:=h.sp.2 p.sp (List.mem_map.2 ⟨p,hp,rfl⟩)
 exact⟨h1,fun k hk=>by have:=h2 k hk;have e:p.sp.tb[k].length=p.tb[k].length:=rfl;omega⟩
def pJ (w:World) (B:Nat) (p:PS) (s:Sp):Prop:=p.sp=s∧Own w B 99 7 (.slice p.aa p.ar.length p.ac) p.ar.length (p.ar.flatMap jU)∧mD w B (mo p.ts) p.tb
theorem pJ.below {p:PS} {s:Sp} (h:pJ w B p s) (hb:Below w.heap.size w w'):pJ w' B p s:=⟨h.1,h.2.1.below hb,h.2.2.below hb⟩
def OY (B:Nat) (s:Sp):jJ:=⟨fun v w => ∃p,v = .agg (tu p)∧pJ w B p s,fun _ _ _ hb ⟨p,h1,h2⟩=>⟨p,h1,h2.below hb⟩⟩
def PT (B:Nat) (s:Sp):jJ:=⟨fun v w => ∃g p,v = .slice (some ⟨g,0,none⟩) 1 1∧dA w (some ⟨g,0,none⟩) (nZ p)∧pJ w B p s,fun _ _ _ hb ⟨g,p,h1,h2,h3⟩=>⟨g,p,h1,h2.below hb,h3.below hb⟩⟩
theorem MO {p:PS} {s:Sp} (h:pJ w B p s):∀u∈nZ p,u.oneCell' = true:=by
 have h1:=h.2.2.rd.one
 rw[←Array.all_toList,List.all_eq_true] at h1
 intro u hu
 simp only[nZ,tu,List.mem_cons,List.not_mem_nil,or_false] at hu
 simp only[mo,List.mem_cons,List.not_mem_nil,or_false] at h1
 rcases hu with rfl|rfl|hu
 ·rfl
 ·rfl
 ·exact h1 u hu
theorem caO_size:(Tryz.prog.info? 38).map (·.size)=some 1:=by kernel_rfl
theorem GJ (ho:Own w B 55 10 (.slice a n c) n xs) (hg:w.grownBy w' (Value.slice a n c).ownBlock) :
  w.grownBy w' none∨∃g cs,aD w g cs 55∧B≤g∧w.grownBy w' (some g):=by
 cases hr:(Value.slice a n c).ownBlock with
 | none=>rw[hr] at hg;exact .inl hg
 | some g=>
  rw[hr] at hg
  obtain⟨cs,hb⟩:=jd ho g hr
  exact .inr ⟨g,cs,hb,ho.ge g hr,hg⟩
theorem fU {m:Nat} (ho:Own w B 55 10 (.slice a n c) n xs) (hg:w.grownBy w' (Value.slice a n c).ownBlock) (h:Own w B' T sz v m ys) (hT:T≠55):Own w' B' T sz v m ys:=by
 rcases GJ ho hg with h1|⟨g,cs,hb,_,h1⟩
 ·exact iV h h1
 ·exact ak h hb (fun e=>hT e.symm) h1
theorem tY (ho:Own w B 55 10 (.slice a n c) n xs) (hg:w.grownBy w' (Value.slice a n c).ownBlock) (h:aD w b cs T) (hT:T≠55):aD w' b cs T:=by
 rcases GJ ho hg with h1|⟨g,cs',hb,_,h1⟩
 ·exact h.grown h1 (fun e=>by cases e)
 ·exact h.grown h1 (fun e=>jB h hb hT (Option.some.inj e).symm)
theorem Om (ho:Own w B 55 10 (.slice a n c) n xs) (hg:w.grownBy w' (Value.slice a n c).ownBlock) (h:kD w B' v ps):kD w' B' v ps:=
 ⟨fU ho hg h.own (by decide),fun i p hp=>fU ho hg (h.each i p hp) (by decide),h.apart⟩
theorem wX {t:Tb} (ho:Own w B 55 10 (.slice a n c) n xs) (hg:w.grownBy w' (Value.slice a n c).ownBlock) (h:mD w B' cs t):mD w' B' cs t:=
 ⟨h.sz,fun k hk=>by obtain⟨v,h1,h2⟩:=h.own k hk;exact⟨v,h1,fU ho hg h2 (by decide)⟩,h.apart⟩
theorem mach_size:(Tryz.prog.info? 41).map (·.size)=some 11:=by kernel_rfl
theorem slsp_size:(Tryz.prog.info? 39).map (·.size)=some 1:=by kernel_rfl
theorem uu (H:MH) (w:World) (h:xA w H) (hz:MJ H.ma) :
  Calls Tryz.prog 40 #[.agg (dC H)] w fun r w' => ∃H' : MH,r = .returned (.agg (dC H'))∧oL w' w.heap.size H'∧H'.ma=H.ma∧(∀p∈H'.fi,∀x,oB p.a=some x→oB H'.asl≠some x)∧Below w.heap.size w w':=by
 have z1:H.m.fs.length≤1000:=hz.fs
 have z2:H.sl.length≤1000:=hz.sl
 have z3:H.sw.blocks.length≤1000:=hz.swb
 have z4:H.sw.queue.length≤1000:=hz.swq
 have z5:H.dk.blocks.length≤1000:=hz.dkb
 have z6:H.dk.queue.length≤1000:=hz.dkq
 have z7:H.ca.length≤1000:=hz.ca
 have z8:H.sp.length≤1000:=by have:=hz.sp.1;rw[BM] at this;exact this
 have zf:=hz.fsz
 go_enter func40,ntmps40
 go_upto_region 1 with (fail)
 refine oJ (fun W=>Code.wp _ _ _ _ W) fun w1 hb1 bx1 rx1 hs1 => ?_
 have hm1:=h.below hb1
 clear hs1
 refine ko 7 [_,_,.r 2 ((OQ w1.heap.size H.m)),_,_,.r 5 ((lh w1.heap.size 3 1 H.sl.length (H.sl.map eH))),_] (fun W=>Below w1.heap.size w1 W) eP (Below.refl _ _) (Yf eP w.heap.size 0 rfl rfl (Yr eP (.agg #[.slice H.af H.m.fs.length H.cf,.int .i64 H.m.hand]) (fun ρ y W hb hKn=>(bu rfl (aF rfl hKn) (cB (bx1.ext hb) 0 2) underlying28 rfl (by kernel_rfl))) rfl rfl (ae ?_ (Yf eP w.heap.size 2 rfl rfl (Yc eP (.slice H.asl H.sl.length H.csl) (fun W hb=>by simp[(bx1.ext hb).cell,dC]) rfl rfl rfl rfl (ae ?_ (Yf eP w.heap.size 0 rfl rfl (aB)))))))) (fun _=>rfl) rfl ?_
 ·intro ρ y W hw hn hb hd
  refine jI eP hb ((OQ w1.heap.size H.m)) (fun _ _ h=>h) ?_
  have E7:=hw 7 1 rfl
  have h1:y 1 = .agg #[.slice H.af H.m.fs.length H.cf,.int .i64 H.m.hand]:=hd 1 rfl
  have EF:∀f,ρ (.func f) = .func (.func f) #[] #[]:=fun f=>hn (.func f) trivial
  refine aM _ _ (ah rfl) (aN rfl (EF _) func73 (by kernel_rfl) (by kernel_rfl) (by simp only[List.map_toArray,List.map_cons,List.map_nil,E7,h1,EF];rfl)) ?_
  refine (yF H.m _ _ W (hm1.below hb).fr (by omega)).mono ?_
  rintro r w3 ⟨u,rfl,ho,hb1⟩
  exact⟨_,rfl,hb1,u,rfl,ho.mono hb.size⟩
 ·intro ρ y W hw hn hb hd
  refine jI eP hb ((lh w1.heap.size 3 1 H.sl.length (H.sl.map eH))) (fun _ _ h=>h) ?_
  have E10:=hw 10 4 rfl
  have h4:y 4 = .slice H.asl H.sl.length H.csl:=hd 4 rfl
  have EF:∀f,ρ (.func f) = .func (.func f) #[] #[]:=fun f=>hn (.func f) trivial
  refine aM _ _ (ah rfl) (aN rfl (EF _) func74 (by kernel_rfl) (by kernel_rfl) (by simp only[List.map_toArray,List.map_cons,List.map_nil,E10,h4,EF];rfl)) ?_
  have hs:=(hm1.below hb).sl
  refine (qI H.sl _ _ W hs.le hs.nl hs.rd (by omega)).mono ?_
  rintro r w3 ⟨u,rfl,ho,hb1⟩
  exact⟨_,rfl,hb1,ho.mono hb.size⟩
 intro y w2 hbw2 hRw2
 replace hbw2:Below w1.heap.size w1 w2:=hbw2
 have hy2:((OQ w1.heap.size H.m)).r (y 2) w2:=hRw2 2 (by decide)
 have hy5:((lh w1.heap.size 3 1 H.sl.length (H.sl.map eH))).r (y 5) w2:=hRw2 5 (by decide)
 clear hRw2
 simp only[bH,bC,List.map_cons,List.map_nil]
 obtain⟨u1,hu1,ho1⟩:=hy2
 have ho2:Own w2 w1.heap.size 3 1 (y 5) H.sl.length (H.sl.map eH):=hy5
 obtain⟨a1,c1,rfl,_⟩:=ho1.rd
 obtain⟨a2,c2,hu2,_⟩:=Own.rd ho2
 rw[hu2] at ho2
 rw[hu1,hu2]
 have bx2:=bx1.ext hbw2
 have rx2:=rx1.ext hbw2
 have hbr2:=ag hb1 hbw2
 have hm2:=hm1.below hbw2
 have hw1:=Lib.hid hb1.size
 have hlt2:=rx2.lt
 clear hbw2 bx1 rx1 hm1 hu1 hu2 hy5
 go_wp2_with (refine fq rfl _ _ _ rfl w.heap.size 0 #[.slice a1 H.m.fs.length c1,.int .i64 H.m.hand] rfl rfl _ _ bx2 (by show 0+2≤11;decide) mem_size (gP _ _ _ _) ?_)
 intro w3 bx3 hg3
 have ho13:=ak ho1 bx2 (by decide) hg3
 have ho23:=ak ho2 bx2 (by decide) hg3
 have hbr3:=hbr2.grown hg3 hbr2.size (fun k hk=>by cases hk;exact Nat.le_refl _)
 have rx3:=rx2.grown hg3 (fun e=>by have:=Option.some.inj e;omega)
 have bx3' : aD w3 w.heap.size (dC { H with af:=a1,cf:=c1 }) 41:=bx3
 clear ho1 ho2 bx2 rx2 hm2 hg3 bx3 hbr2
 go_wp2_with (refine az rfl _ _ _ rfl w.heap.size 2 _ [.slice a2 H.sl.length c2] rfl rfl rfl _ _ bx3' (by show 2+1≤11;decide) slots_size (fun u hu=>by cases List.mem_singleton.1 hu;rfl) ?_)
 intro w4 bx4 hg4
 have ho14:=ak ho13 bx3' (by decide) hg4
 have ho24:=ak ho23 bx3' (by decide) hg4
 have hbr4:=hbr3.grown hg4 hbr3.size (fun k hk=>by cases hk;exact Nat.le_refl _)
 have rx4:=rx3.grown hg4 (fun e=>by have:=Option.some.inj e;omega)
 have bx4' : aD w4 w.heap.size (dC { H with af:=a1,cf:=c1,asl:=a2,csl:=c2 }) 41:=bx4
 have hm4:=h.below hbr4
 clear ho13 ho23 bx3' rx3 hg4 bx4 hbr3
 obtain⟨H4,hH4⟩:∃H4:MH,Hid (H4 = { H with af:=a1,cf:=c1,asl:=a2,csl:=c2 }):=⟨_,Lib.hid rfl⟩
 go_upto_region 2 with (fail)
 refine ko 10 [_,_,.r 2 ((rJ w4.heap.size H.sw)),_,_,.r 5 ((rJ w4.heap.size H.dk)),_,_,.r 8 ((EZ w4.heap.size (bY H.fi H.ct))),_] (fun W=>Below w4.heap.size w4 W) eP (Below.refl _ _) (Yf eP w.heap.size 3 rfl rfl (Yr eP (.agg #[.slice H.wb H.sw.blocks.length H.cwb,.slice H.wq H.sw.queue.length H.cwq]) (fun ρ y W hb hKn=>(bu rfl (aF rfl hKn) (cB (bx4'.ext hb) 3 2) underlying34 rfl (by kernel_rfl))) rfl rfl (ae ?_ (Yf eP w.heap.size 5 rfl rfl (Yr eP (.agg #[.slice H.db H.dk.blocks.length H.cdb,.slice H.dq H.dk.queue.length H.cdq]) (fun ρ y W hb hKn=>(bu rfl (aF rfl hKn) (cB (bx4'.ext hb) 5 2) underlying34 rfl (by kernel_rfl))) rfl rfl (ae ?_ (Yf eP w.heap.size 7 rfl rfl (Yr eP (.agg #[.slice H.ai H.fi.length H.ci,.int .i64 H.ct]) (fun ρ y W hb hKn=>(bu rfl (aF rfl hKn) (cB (bx4'.ext hb) 7 2) underlying37 rfl (by kernel_rfl))) rfl rfl (ae ?_ (Yf eP w.heap.size 3 rfl rfl (aB))))))))))) (fun _=>rfl) rfl ?_
 ·intro ρ y W hw hn hb hd
  refine jI eP hb ((rJ w4.heap.size H.sw)) (fun _ _ h=>h) ?_
  have E15:=hw 15 1 rfl
  have h1:y 1 = .agg #[.slice H.wb H.sw.blocks.length H.cwb,.slice H.wq H.sw.queue.length H.cwq]:=hd 1 rfl
  have EF:∀f,ρ (.func f) = .func (.func f) #[] #[]:=fun f=>hn (.func f) trivial
  refine aM _ _ (ah rfl) (aN rfl (EF _) func75 (by kernel_rfl) (by kernel_rfl) (by simp only[List.map_toArray,List.map_cons,List.map_nil,E15,h1,EF];rfl)) ?_
  refine (xn H.sw _ _ _ _ W (hm4.below hb).sw (by omega) (by omega)).mono ?_
  rintro r w3 ⟨u,v,rfl,ho,hb1⟩
  exact⟨_,rfl,hb1,u,v,rfl,ho.mono hb.size⟩
 ·intro ρ y W hw hn hb hd
  refine jI eP hb ((rJ w4.heap.size H.dk)) (fun _ _ h=>h) ?_
  have E18:=hw 18 4 rfl
  have h4:y 4 = .agg #[.slice H.db H.dk.blocks.length H.cdb,.slice H.dq H.dk.queue.length H.cdq]:=hd 4 rfl
  have EF:∀f,ρ (.func f) = .func (.func f) #[] #[]:=fun f=>hn (.func f) trivial
  refine aM _ _ (ah rfl) (aN rfl (EF _) func75 (by kernel_rfl) (by kernel_rfl) (by simp only[List.map_toArray,List.map_cons,List.map_nil,E18,h4,EF];rfl)) ?_
  refine (xn H.dk _ _ _ _ W (hm4.below hb).dk (by omega) (by omega)).mono ?_
  rintro r w3 ⟨u,v,rfl,ho,hb1⟩
  exact⟨_,rfl,hb1,u,v,rfl,ho.mono hb.size⟩
 ·intro ρ y W hw hn hb hd
  refine jI eP hb ((EZ w4.heap.size (bY H.fi H.ct))) (fun _ _ h=>h) ?_
  have E21:=hw 21 7 rfl
  have h7:y 7 = .agg #[.slice H.ai H.fi.length H.ci,.int .i64 H.ct]:=hd 7 rfl
  have EF:∀f,ρ (.func f) = .func (.func f) #[] #[]:=fun f=>hn (.func f) trivial
  refine aM _ _ (ah rfl) (aN rfl (EF _) func61 (by kernel_rfl) (by kernel_rfl) (by simp only[List.map_toArray,List.map_cons,List.map_nil,E21,h7,EF];rfl)) ?_
  refine (xx H.fi H.ct _ _ W (hm4.below hb).st zf).mono ?_
  rintro r w3 ⟨u,ps,rfl,ho,he,hb1⟩
  exact⟨_,rfl,hb1,u,ps,_,rfl,ho.mono hb.size,by unfold bY;rw[he]⟩
 intro y w5 hbw5 hRw5
 replace hbw5:Below w4.heap.size w4 w5:=hbw5
 have hy2:((rJ w4.heap.size H.sw)).r (y 2) w5:=hRw5 2 (by decide)
 have hy5:((rJ w4.heap.size H.dk)).r (y 5) w5:=hRw5 5 (by decide)
 have hy8:((EZ w4.heap.size (bY H.fi H.ct))).r (y 8) w5:=hRw5 8 (by decide)
 clear hRw5
 simp only[bH,bC,List.map_cons,List.map_nil]
 obtain⟨ub,uq,hu3,ho3⟩:=hy2
 obtain⟨vb,vq,hu4,ho4⟩:=hy5
 obtain⟨us,ps,ks,hu5,ho5,hst⟩:=hy8
 have hks : -9223372036854775808≤ks∧ks≤9223372036854775807:=by have e:ks=H.ct:=congrArg St.count hst;rw[e];exact h.c64
 obtain⟨ab,cb,rfl,_⟩:=ho3.b.rd
 obtain⟨aq,cq,rfl,_⟩:=ho3.q.rd
 obtain⟨db,eb,rfl,_⟩:=ho4.b.rd
 obtain⟨dq,eq,rfl,_⟩:=ho4.q.rd
 obtain⟨as_,cs,rfl,_⟩:=ho5.rd
 rw[hu3,hu4,hu5]
 have hn2:Hid (∀p∈ps,∀x,oB p.a=some x→oB a2≠some x):=Lib.hid (fun p hp x hx e=>by
  have h1:=(fT ho24 e).2.choose_spec.lt
  obtain⟨i,hi,rfl⟩:=List.mem_iff_getElem.1 hp
  have h2:=(fT (ho5.each i _ (List.getElem?_eq_getElem hi)) hx).1
  omega)
 have bx5:=bx4'.ext hbw5
 have rx5:=rx4.ext hbw5
 have hbr5:=ag hbr4 hbw5
 have ho15:=ho14.below hbw5
 have ho25:=ho24.below hbw5
 have hw14:=Lib.hid hbr4.size
 clear hbw5 bx4' rx4 hm4 hu3 hu4 hu5 ho14 ho24 hbr4
 go_wp2_with (refine fq rfl _ _ _ rfl w.heap.size 3 #[.slice ab H.sw.blocks.length cb,.slice aq H.sw.queue.length cq] rfl rfl _ _ bx5 (by show 3+2≤11;decide) disk_size (jW _ _ _ _ _ _) ?_)
 intro w6 bx6 hg6
 have hbr6:=hbr5.grown hg6 hbr5.size (fun k hk=>by cases hk;exact Nat.le_refl _)
 have rx6:=rx5.grown hg6 (fun e=>by have:=Option.some.inj e;omega)
 have p1:=ak ho15 bx5 (by decide) hg6
 have p2:=ak ho25 bx5 (by decide) hg6
 have p3:=ho3.keep bx5 (by decide) (by decide) hg6
 have p4:=ho4.keep bx5 (by decide) (by decide) hg6
 have p5:=ho5.keep bx5 (by decide) (by decide) hg6
 clear bx5 rx5 hg6 ho15 ho25 ho3 ho4 ho5 hbr5
 go_wp2_with (refine fq rfl _ _ _ rfl w.heap.size 5 #[.slice db H.dk.blocks.length eb,.slice dq H.dk.queue.length eq] rfl rfl _ _ bx6 (by show 5+2≤11;decide) disk_size (jW _ _ _ _ _ _) ?_)
 intro w7 bx7 hg7
 have hbr7:=hbr6.grown hg7 hbr6.size (fun k hk=>by cases hk;exact Nat.le_refl _)
 have rx7:=rx6.grown hg7 (fun e=>by have:=Option.some.inj e;omega)
 have q1:=ak p1 bx6 (by decide) hg7
 have q2:=ak p2 bx6 (by decide) hg7
 have q3:=p3.keep bx6 (by decide) (by decide) hg7
 have q4:=p4.keep bx6 (by decide) (by decide) hg7
 have q5:=p5.keep bx6 (by decide) (by decide) hg7
 clear bx6 rx6 hg7 p1 p2 p3 p4 p5 hbr6
 go_wp2_with (refine fq rfl _ _ _ rfl w.heap.size 7 #[.slice as_ ps.length cs,.int .i64 ks] rfl rfl _ _ bx7 (by show 7+2≤11;decide) store_size (nz _ _ _ _) ?_)
 intro w8 bx8 hg8
 have hbr8:=hbr7.grown hg8 hbr7.size (fun k hk=>by cases hk;exact Nat.le_refl _)
 have rx8:=rx7.grown hg8 (fun e=>by have:=Option.some.inj e;omega)
 have p1:=ak q1 bx7 (by decide) hg8
 have p2:=ak q2 bx7 (by decide) hg8
 have p3:=q3.keep bx7 (by decide) (by decide) hg8
 have p4:=q4.keep bx7 (by decide) (by decide) hg8
 have p5:=q5.keep bx7 (by decide) (by decide) hg8
 obtain⟨H8,hH8⟩:∃H8:MH,Hid (H8 = { H with af:=a1,cf:=c1,asl:=a2,csl:=c2,wb:=ab,cwb:=cb,wq:=aq,cwq:=cq,db:=db,cdb:=eb,dq:=dq,cdq:=eq,ai:=as_,ci:=cs,fi:=ps,ct:=ks }):=⟨_,Lib.hid rfl⟩
 have bx8' : aD w8 w.heap.size (dC H8) 41:=by rw[hH8.out];exact bx8
 have hm8:=h.below hbr8
 clear bx7 rx7 hg8 bx8 q1 q2 q3 q4 q5 hbr7
 have hcb:w8.cell? ⟨w.heap.size,9,none⟩=some (.slice H.ac H.ca.length H.cc):=by rw[bx8'.cell,hH8.out];rfl
 go_wp2_with fail
 refine (Bt H.ca H.ac H.cc _ hm8.ca.le hm8.ca.nl hm8.ca.rd (by omega)).mono ?_
 rintro r w9 ⟨v9,rfl,ho9,hb9⟩
 obtain⟨a6,c6,rfl,_⟩:=ho9.rd
 have bx9:=bx8'.ext hb9
 have rx9:=rx8.ext hb9
 have hbr9:=ag hbr8 hb9
 have q1:=p1.below hb9
 have q2:=p2.below hb9
 have q3:=p3.below hb9
 have q4:=p4.below hb9
 have q5:=p5.below hb9
 have hw8:=Lib.hid hbr8.size
 clear hcb bx8' rx8 hm8 p1 p2 p3 p4 p5 hb9 hbr8
 go_wp2_with (refine az rfl _ _ _ rfl w.heap.size 9 _ [.slice a6 H.ca.length c6] rfl rfl rfl _ _ bx9 (by show 9+1≤11;decide) caO_size (fun u hu=>by cases List.mem_singleton.1 hu;rfl) ?_)
 intro w10 bx10 hg10
 have hbr10:=hbr9.grown hg10 hbr9.size (fun k hk=>by cases hk;exact Nat.le_refl _)
 have rx10:=rx9.grown hg10 (fun e=>by have:=Option.some.inj e;omega)
 have p1:=(ak q1 bx9 (by decide) hg10).mono hw1.out
 have p2:=(ak q2 bx9 (by decide) hg10).mono hw1.out
 have p3:=(q3.keep bx9 (by decide) (by decide) hg10).mono hw14.out
 have p4:=(q4.keep bx9 (by decide) (by decide) hg10).mono hw14.out
 have p5:=(q5.keep bx9 (by decide) (by decide) hg10).mono hw14.out
 have p6:=(ak ho9 bx9 (by decide) hg10).mono hw8.out
 obtain⟨G,hG⟩:∃G:MH,Hid (G = { H with af:=a1,cf:=c1,asl:=a2,csl:=c2,wb:=ab,cwb:=cb,wq:=aq,cwq:=cq,db:=db,cdb:=eb,dq:=dq,cdq:=eq,ai:=as_,ci:=cs,fi:=ps,ct:=ks,ac:=a6,cc:=c6 }):=⟨_,Lib.hid rfl⟩
 have bxG:aD w10 w.heap.size (dC G) 41:=by rw[hG.out];rw[hH8.out] at bx10;exact bx10
 clear bx9 rx9 hg10 bx10 q1 q2 q3 q4 q5 ho9 hbr9
 have hGap:Hid (G.ap=H.ap∧G.sp=H.sp∧G.cp=H.cp):=Lib.hid (by rw[hG.out];exact⟨rfl,rfl,rfl⟩)
 have hcb:w10.cell? ⟨w.heap.size,10,none⟩=some (.slice H.ap H.sp.length H.cp):=by rw[bxG.cell,hG.out];rfl
 have hm10:=h.below hbr10
 have ho0:Own w10 w.heap.size 55 10 (.slice none 0 0) ([]:List PS).length (([]:List PS).flatMap nZ):=by simpa using Own.nil _ _ _ _
 go_upto_region 6 with (fail)
 clear hcb hm10
 go_loopw [3,33] (fun s3 i wr => ∃(q:Nat) (qs:List PS) (av:Option Addr) (cv:Nat),q≤H.sp.length∧i = .int .i64 q∧s3 = .slice av qs.length cv∧Below w.heap.size w wr∧aD wr w.heap.size (dC G) 41∧aD wr (w.heap.size+1) _ 41 ∧
  Own wr w.heap.size 81 13 (.slice a1 H.m.fs.length c1) H.m.fs.length (H.m.fs.flatMap lZ)∧Own wr w.heap.size 3 1 (.slice a2 H.sl.length c2) H.sl.length (H.sl.map eH)∧fQ wr w.heap.size (.slice ab H.sw.blocks.length cb) (.slice aq H.sw.queue.length cq) H.sw∧fQ wr w.heap.size (.slice db H.dk.blocks.length eb) (.slice dq H.dk.queue.length eq) H.dk ∧
  kD wr w.heap.size (.slice as_ ps.length cs) ps∧Own wr w.heap.size 106 3 (.slice a6 H.ca.length c6) H.ca.length (H.ca.flatMap je)∧Own wr w.heap.size 55 10 (.slice av qs.length cv) qs.length (qs.flatMap nZ)∧(∀p∈qs,pJ wr w.heap.size p p.sp∧zk p.tb)∧Hid (qs.map PS.sp=(H.sp.take q).map PS.sp)) (fun _ i _=>H.sp.length-(intOf i).toNat)
 case atStart=>exact⟨0,[],none,0,Nat.zero_le _,rfl,rfl,hbr10,bxG,rx10,p1,p2,p3,p4,p5,p6,ho0,fun p hp=>(by simp at hp),Lib.hid rfl⟩
 case round=>
  clear hbr10 bxG rx10 p1 p2 p3 p4 p5 p6 ho0
  obtain⟨q,qs,av,cv,hq,rfl,rfl,hbr,bx,rx,p1,p2,p3,p4,p5,p6,ho,hps,hqs⟩:=hrel
  have hql:qs.length≤q:=by
   have:=congrArg List.length hqs.out
   rw[List.length_map,List.length_map,List.length_take] at this
   omega
  by_cases hql2:q<H.sp.length
  ·obtain⟨bs,os,P,hap,hP,hrd⟩:=zy (h.below hbr).sp.rd q hql2
   have hgood:=Ao (h.below hbr) hP
   have hPm:=List.mem_of_getElem? hP
   obtain⟨hz1,hz2⟩:=hz.spz hPm
   have hqi:(q:Int)<(H.sp.length:Int):=by omega
   have hqs2:Hid (qs.map PS.sp++[P.sp]=(H.sp.take (q+1)).map PS.sp):=Lib.hid (by rw[take_at hP,List.map_append,hqs.out];rfl)
   rw[hap]
   have hps1:(tu P).all (·.oneCell')=true:=by
    rw[←Array.all_toList,List.all_eq_true];exact hgood.one
   go_wp2_with (first | (refine ay _ _ rfl bs (os+q*10) rfl rfl _ hrd _ underlying55 rfl space_size ?_) | (refine aL rfl _ _ _ rfl (tu P) rfl rfl rfl space_size hps1 ?_))
   intro w11 hb11 fx
   have hbr11:=ag hbr hb11
   have hg11:=hgood.below hb11
   have bx11:=bx.ext hb11
   have rx11:=rx.ext hb11
   have q1:=p1.below hb11
   have q2:=p2.below hb11
   have q3:=p3.below hb11
   have q4:=p4.below hb11
   have q5:=p5.below hb11
   have q6:=p6.below hb11
   have hO:=ho.below hb11
   have hps11:∀p∈qs,pJ w11 w.heap.size p p.sp∧zk p.tb:=fun p hp=>⟨(hps p hp).1.below hb11,(hps p hp).2⟩
   have hgw:=Lib.hid hbr11.size
   clear hbr hgood bx rx p1 p2 p3 p4 p5 p6 ho hps hb11 hrd hps1 hP
   go_upto_region 8 with (fail)
   refine NS 0 3 (.slice av qs.length cv) (by kernel_rfl) (by kernel_rfl) rfl fun ops0 hops0 => ?_
   simp only[freedL,vY] at hops0
   subst hops0
   refine Ah 11 12 [] [oV (.slice av qs.length cv),oV (.pointer (some ⟨wr.heap.size,0,none⟩)),oV (.bool P.lv),oV (.pointer (some ⟨wr.heap.size,1,none⟩)),oV (.slice P.aa P.ar.length P.ac),(lh w11.heap.size 99 7 P.ar.length (P.ar.flatMap jU)),oV (.pointer (some ⟨wr.heap.size,2,none⟩)),oV (.agg (mo P.ts)),(Cn w11.heap.size P.tb),(OY w11.heap.size P.sp),(PT w11.heap.size P.sp)] (by kernel_rfl) (by kernel_rfl) (by kernel_rfl) (by kernel_rfl) (by kernel_rfl) (by decide) (Nat.le_of_ble_eq_true (by kernel_rfl)) _ rfl (by kernel_rfl) (ae ?_ (ae ?_ (ae ?_ (ae ?_ (ae ?_ (ae ?_ (ae ?_ (ae ?_ (ae ?_ (ae ?_ (ae ?_ (aB)))))))))))) (aB) rfl ?_
   ·refine bn rfl ?_
    intro ρ y W hw hn hb hd
    refine aj (.slice av qs.length cv) (ah rfl) (run_move (.inl rfl) (hn (.const _) trivial)) rfl
   ·refine bn rfl ?_
    intro ρ y W hw hn hb hd
    have E5:ρ (.tmp 5) = .pointer (some ⟨wr.heap.size,0,none⟩):=(hn (.tmp 5) rfl).trans rfl
    refine aj (.pointer (some ⟨wr.heap.size,0,none⟩)) (ah rfl) (by simp[execOp,go_sem,E5]) rfl
   ·refine bn rfl ?_
    intro ρ y W hw hn hb hd
    have E38:=hw 38 1 rfl
    have h1:y 1 = .pointer (some ⟨wr.heap.size,0,none⟩):=hd 1 rfl
    refine aj (.bool P.lv) (ah rfl) (by simp[execOp,go_sem,E38,h1,(fx.ext hb).cell,tu]) rfl
   ·refine bn rfl ?_
    intro ρ y W hw hn hb hd
    have E5:ρ (.tmp 5) = .pointer (some ⟨wr.heap.size,0,none⟩):=(hn (.tmp 5) rfl).trans rfl
    refine aj (.pointer (some ⟨wr.heap.size,1,none⟩)) (ah rfl) (by simp[execOp,go_sem,E5]) rfl
   ·refine bn rfl ?_
    intro ρ y W hw hn hb hd
    have E40:=hw 40 3 rfl
    have h3:y 3 = .pointer (some ⟨wr.heap.size,1,none⟩):=hd 3 rfl
    refine aj (.slice P.aa P.ar.length P.ac) (ah rfl) (by simp[execOp,go_sem,E40,h3,(fx.ext hb).cell,tu]) rfl
   ·refine bn rfl ?_
    intro ρ y W hw hn hb hd
    have E41:=hw 41 4 rfl
    have h4:y 4 = .slice P.aa P.ar.length P.ac:=hd 4 rfl
    have EF:∀f,ρ (.func f) = .func (.func f) #[] #[]:=fun f=>hn (.func f) trivial
    refine aM _ _ (ah rfl) (aN rfl (EF _) func41 (by kernel_rfl) (by kernel_rfl) (by simp only[List.map_toArray,List.map_cons,List.map_nil,E41,h4,EF];rfl)) ?_
    have hA:=(hg11.below hb).ars
    refine (Ct P.ar P.aa P.ac W hA.le hA.nl hA.rd (by omega)).mono ?_
    rintro e w1 ⟨u,rfl,ho,hb1⟩
    exact⟨u,rfl,hb1,ho.mono hb.size⟩
   ·refine bn rfl ?_
    intro ρ y W hw hn hb hd
    have E5:ρ (.tmp 5) = .pointer (some ⟨wr.heap.size,0,none⟩):=(hn (.tmp 5) rfl).trans rfl
    refine aj (.pointer (some ⟨wr.heap.size,2,none⟩)) (ah rfl) (by simp[execOp,go_sem,E5]) rfl
   ·refine bn rfl ?_
    intro ρ y W hw hn hb hd
    have E43:=hw 43 6 rfl
    have h6:y 6 = .pointer (some ⟨wr.heap.size,2,none⟩):=hd 6 rfl
    refine aj (.agg (mo P.ts)) (ah rfl) (bu rfl (E43.trans h6) (cB (fx.ext hb) 2 8) underlying53 tab_agg tab_size) rfl
   ·refine bn rfl ?_
    intro ρ y W hw hn hb hd
    have E44:=hw 44 7 rfl
    have h7:y 7 = .agg (mo P.ts):=hd 7 rfl
    have EF:∀f,ρ (.func f) = .func (.func f) #[] #[]:=fun f=>hn (.func f) trivial
    refine aM _ _ (ah rfl) (aN rfl (EF _) func77 (by kernel_rfl) (by kernel_rfl) (by simp only[List.map_toArray,List.map_cons,List.map_nil,E44,h7,EF];rfl)) ?_
    refine (De P.tb (mo P.ts) W (hg11.below hb).tb hz2).mono ?_
    rintro e w1 ⟨u,rfl,ho,hb1⟩
    exact⟨_,rfl,hb1,u,rfl,ho.mono hb.size⟩
   ·refine bn rfl ?_
    intro ρ y W hw hn hb hd
    have E39:=hw 39 2 rfl
    have h2:y 2 = .bool P.lv:=hd 2 rfl
    have E42:=hw 42 5 rfl
    have h5:((lh w11.heap.size 99 7 P.ar.length (P.ar.flatMap jU))).r (y 5) W:=hd 5 rfl
    have E45:=hw 45 8 rfl
    have h8:((Cn w11.heap.size P.tb)).r (y 8) W:=hd 8 rfl
    obtain⟨x5,c5,e5,_⟩:=Own.rd h5
    obtain⟨cs8,e8,ho8⟩:=h8
    obtain⟨v8,rfl⟩:=KF ho8.sz
    have hO5:Own W w11.heap.size 99 7 (.slice x5 P.ar.length c5) P.ar.length (P.ar.flatMap jU):=by rw[←e5];exact h5
    refine aj (.agg (tu ⟨P.lv,x5,c5,P.ar,v8,P.tb⟩)) (ah rfl) (by simp[execOp,go_sem,E39.trans h2,E42,e5,E45,e8,mo,tu]) ?_
    exact⟨⟨P.lv,x5,c5,P.ar,v8,P.tb⟩,rfl,rfl,hO5,ho8⟩
   ·refine bn rfl ?_
    intro ρ y W hw hn hb hd
    have E46:=hw 46 9 rfl
    have h9:((OY w11.heap.size P.sp)).r (y 9) W:=hd 9 rfl
    obtain⟨p9,e9,hg9⟩:=h9
    refine iG (.slice (some ⟨W.heap.size,0,none⟩) 1 1) (ah rfl) (by simp[execOp,go_sem,E46,e9,tu]) ((Below.refl _ _).alloc (Nat.le_refl _) (.cells (tu p9) 55)) ?_
    exact⟨_,p9,rfl,dA.new _ _ _,hg9.below ((Below.refl _ _).alloc (Nat.le_refl _) _)⟩
   intro ρ y WA o ho hw hn hV hbWA hRWA
   cases ho
   have hy0:y 0 = .slice av qs.length cv:=hRWA 0 (by decide)
   have hy1:y 1 = .pointer (some ⟨wr.heap.size,0,none⟩):=hRWA 1 (by decide)
   have hy2:y 2 = .bool P.lv:=hRWA 2 (by decide)
   have hy3:y 3 = .pointer (some ⟨wr.heap.size,1,none⟩):=hRWA 3 (by decide)
   have hy4:y 4 = .slice P.aa P.ar.length P.ac:=hRWA 4 (by decide)
   have hy5:((lh w11.heap.size 99 7 P.ar.length (P.ar.flatMap jU))).r (y 5) WA:=hRWA 5 (by decide)
   have hy6:y 6 = .pointer (some ⟨wr.heap.size,2,none⟩):=hRWA 6 (by decide)
   have hy7:y 7 = .agg (mo P.ts):=hRWA 7 (by decide)
   have hy8:((Cn w11.heap.size P.tb)).r (y 8) WA:=hRWA 8 (by decide)
   have hy9:((OY w11.heap.size P.sp)).r (y 9) WA:=hRWA 9 (by decide)
   have hy10:((PT w11.heap.size P.sp)).r (y 10) WA:=hRWA 10 (by decide)
   have E37:=hw 37 0 rfl
   rw[hy0] at E37
   have E47:=hw 47 10 rfl
   have EC:∀v,ρ (.const v)=v:=fun v=>hn (.const v) trivial
   have EF:∀f,ρ (.func f) = .func (.func f) #[] #[]:=fun f=>hn (.func f) trivial
   obtain⟨g10,p10,e10,hrd10,hg10⟩:=hy10
   refine Bi (ah rfl) (jq (.tmp 37) (.tmp 47) 39 rfl w.heap.size 55 _ 10 224 underlying39 space_info rfl (by decide) _ _ _ E37 (hO.below hbWA) _ 1 1 (nZ p10) (E47.trans e10) (fun e=>by cases e) (Nat.le_refl _) rfl hrd10 (MO hg10) (by unfold maxLen;omega) (by omega) (Nat.le_trans hgw.out hbWA.size)) ?_
   rintro v2 w13 ⟨hown13,hgr13,hcase13⟩
   clear hRWA hw hn hV
   simp only[lay,Nat.reduceAdd,Nat.reduceLT,Nat.reduceEqDiff,reduceIte,decide_true,decide_false,if_true,Bool.false_eq_true,if_false,List.setIfInBounds_toArray,List.set_cons_zero,List.set_cons_succ,List.drop_succ_cons,List.drop_zero,List.drop_nil,hy0,hy1,hy2,hy3,hy4,hy6,hy7]
   clear hy0 hy1 hy2 hy3 hy4 hy6 hy7
   have hOA:=hO.below hbWA
   have hbrA:=ag hbr11 hbWA
   have hbr13:Below w.heap.size w w13:=hbrA.grown hgr13 hbrA.size (fun k hk=>hOA.ge k hk)
   have hown13' : Own w13 w.heap.size 55 10 v2 (qs++[p10]).length ((qs++[p10]).flatMap nZ):=by
    rw[List.length_append,List.flatMap_append];simpa using hown13
   obtain⟨a13,c13,rfl,_⟩:=hown13'.rd
   have r1:=fU hOA hgr13 (q1.below hbWA) (by decide)
   have r2:=fU hOA hgr13 (q2.below hbWA) (by decide)
   have r3:fQ w13 w.heap.size _ _ H.sw:=⟨fU hOA hgr13 (q3.below hbWA).b (by decide),fU hOA hgr13 (q3.below hbWA).q (by decide)⟩
   have r4:fQ w13 w.heap.size _ _ H.dk:=⟨fU hOA hgr13 (q4.below hbWA).b (by decide),fU hOA hgr13 (q4.below hbWA).q (by decide)⟩
   have r5:=Om hOA hgr13 (q5.below hbWA)
   have r6:=fU hOA hgr13 (q6.below hbWA) (by decide)
   have bx13:=tY hOA hgr13 (bx11.ext hbWA) (by decide)
   have rx13:=tY hOA hgr13 (rx11.ext hbWA) (by decide)
   have hps13:∀p∈qs++[p10],pJ w13 w.heap.size p p.sp∧zk p.tb:=fun p hp=>by
    rcases List.mem_append.1 hp with hp|hp
    ·have h1:=(hps11 p hp).1.below hbWA
     exact⟨⟨rfl,fU hOA hgr13 h1.2.1 (by decide),wX hOA hgr13 h1.2.2⟩,(hps11 p hp).2⟩
    ·rw[List.mem_singleton.1 hp]
     refine⟨⟨rfl,(fU hOA hgr13 hg10.2.1 (by decide)).mono hgw.out,(wX hOA hgr13 hg10.2.2).mono hgw.out⟩,?_⟩
     have e:p10.tb=P.tb:=congrArg Sp.tb hg10.1
     rw[e];exact hz2
   have hqs3:Hid ((qs++[p10]).map PS.sp=(H.sp.take (q+1)).map PS.sp):=Lib.hid (by rw[List.map_append,←hqs2.out,←hg10.1];rfl)
   clear hO hOA hbrA hbWA hown13 hgr13 hcase13 hg10 hrd10 fx hg11 bx11 rx11 q1 q2 q3 q4 q5 q6 hps11
   go_wp2
   go_roundw
   case rel=>exact⟨q+1,_,_,_,by omega,by go_num,rfl,hbr13,bx13,rx13,r1,r2,r3,r4,r5,r6,hown13',hps13,hqs3⟩
   case measure=>simp[intOf];omega
  ·have hqi:¬(q:Int)<(H.sp.length:Int):=by omega
   rw[List.take_of_length_le (by omega)] at hqs
   go_wp2_with (refine az rfl _ _ _ rfl w.heap.size 10 _ [.slice av qs.length cv] rfl rfl rfl _ _ bx (by show 10+1≤11;decide) slsp_size (fun u hu=>by cases List.mem_singleton.1 hu;rfl) ?_)
   intro w11 bx11 hg11
   have hbr11:=hbr.grown hg11 hbr.size (fun k hk=>by cases hk;exact Nat.le_refl _)
   have rx11:=rx.grown hg11 (fun e=>by have:=Option.some.inj e;omega)
   obtain⟨K,hK⟩:∃K:MH,Hid (K = { G with ap:=av,cp:=cv,sp:=qs }):=⟨_,Lib.hid rfl⟩
   have bxK:aD w11 w.heap.size (dC K) 41:=by rw[hK.out];exact bx11
   have hown:oL w11 w.heap.size K:=by
    rw[hK.out,hG.out]
    exact⟨ak p1 bx (by decide) hg11,ak p2 bx (by decide) hg11,p3.keep bx (by decide) (by decide) hg11,p4.keep bx (by decide) (by decide) hg11,p5.keep bx (by decide) (by decide) hg11,ak p6 bx (by decide) hg11,ak ho bx (by decide) hg11,fun p hp=>⟨ak (hps p hp).1.2.1 bx (by decide) hg11,(hps p hp).1.2.2.keep bx (by decide) hg11⟩,hks⟩
   have hma:K.ma=H.ma:=by
    rw[hK.out,hG.out]
    unfold MH.ma
    simp only
    rw[hqs.out,hst]
   have hsz:∀p∈K.fi,∀x,oB p.a=some x→oB K.asl≠some x:=by rw[hK.out,hG.out];exact hn2.out
   clear hbr bx rx hg11 bx11 p1 p2 p3 p4 p5 p6 ho
   go_wp2_with (first | (refine ay _ _ rfl w.heap.size 0 rfl rfl (dC K).toList bxK.rd _ underlying41 rfl mach_size ?_) | (refine ax rfl _ _ _ rfl (w.heap.size+1) (dC K) rfl rfl _ _ rx11 rfl mach_size (fe K) ?_))
   intro w12 rx12 hg12
   have hbr12:=hbr11.grown hg12 hbr11.size (fun k hk=>by cases hk;omega)
   go_wp2
   refine bodyPost_ret (v:=.agg (dC K)) (dF results40 _ _ (w.heap.size+1) _ _ _ rfl rx12 underlying41 rfl mach_size) rfl ?_
   exact⟨K,rfl,hown.keep rx11 (by decide) hg12,hma,hsz,hbr12⟩
def tL (t:List En):List Value:=(List.range 64).flatMap fun i=>jT (t.getD i zEn)
theorem sH (t:List En):(tL t).length=192:=by
 unfold tL
 rw[Pw.flat_len (fun i=>jT (t.getD i zEn)) 3 (fun _=>eU _),List.length_range]
structure MW where
 al:Option Addr
 cl:Nat
 l:List UInt8
 H:MH
 ab:Option Addr
 cb:Nat
 T:List (List En)
def fD (S:MW):Array Value:=#[.slice S.al S.l.length S.cl,.slice S.H.af S.H.m.fs.length S.H.cf,.int .i64 S.H.m.hand,.slice S.H.asl S.H.sl.length S.H.csl,.slice S.H.wb S.H.sw.blocks.length S.H.cwb,.slice S.H.wq S.H.sw.queue.length S.H.cwq,
 .slice S.H.db S.H.dk.blocks.length S.H.cdb,.slice S.H.dq S.H.dk.queue.length S.H.cdq,.slice S.H.ai S.H.fi.length S.H.ci,.int .i64 S.H.ct,.slice S.H.ac S.H.ca.length S.H.cc,.slice S.H.ap S.H.sp.length S.H.cp,.slice S.ab S.T.length S.cb]
def eO (S:MW):List (Option Nat):=[oB S.H.af,oB S.H.asl,oB S.H.wb,oB S.H.db,oB S.H.dq,oB S.H.ai,oB S.H.ac,oB S.H.ap,oB S.ab]
def jO (b:Nat) (S:MW) (x:Nat):Prop:=x=b∨some x∈eO S
structure dz (w:World) (B b:Nat) (S:MW):Prop where
 blk:aD w b (fD S) 77
 ge:B≤b
 ma:oL w B S.H
 tt:Own w B 90 192 (.slice S.ab S.T.length S.cb) S.T.length (S.T.flatMap tL)
 rd:nR w S.al S.cl S.l.length (S.l.map wU)
 ra:∀a,S.al=some a→S.l.map wU≠[]→a.block<B
 n1:∀x,oB S.H.wb=some x→oB S.H.db≠some x
 n2:∀p∈S.H.fi,∀x,oB p.a=some x→oB S.H.asl≠some x
 n3:S.H.wq=none
structure MS (w0:World) (b:Nat) (S0:MW) (w:World) (S:MW):Prop where
 os:w.os=w0.os
 tape:w.tape=w0.tape
 output:w.output=w0.output
 size:w0.heap.size≤w.heap.size
 keep:∀x,x<w0.heap.size→¬jO b S0 x→w.heap[x]?=w0.heap[x]?
 sn:∀x,jO b S x→jO b S0 x∨w0.heap.size≤x
theorem MS.refl (w:World) (b:Nat) (S:MW):MS w b S w S:=⟨rfl,rfl,rfl,Nat.le_refl _,fun _ _ _=>rfl,fun _ h => .inl h⟩
theorem MS.trans {H0 H1 H2:MW} (h:MS w0 b H0 w1 H1) (k:MS w1 b H1 w2 H2):MS w0 b H0 w2 H2:=
 ⟨k.os.trans h.os,k.tape.trans h.tape,k.output.trans h.output,Nat.le_trans h.size k.size,fun x hx hn=>(k.keep x (Nat.lt_of_lt_of_le hx h.size) (fun hk=>(h.sn x hk).elim hn (fun hh=>absurd hx (Nat.not_lt.2 hh)))).trans (h.keep x hx hn),
  fun x hx=>(k.sn x hx).elim (h.sn x) (fun hh => .inr (Nat.le_trans h.size hh))⟩
theorem MS.below {H0 H:MW} (h:MS w0 b H0 w H) (hb:Below w.heap.size w w'):MS w0 b H0 w' H:=
 ⟨hb.os.trans h.os,hb.tape.trans h.tape,hb.output.trans h.output,Nat.le_trans h.size hb.size,fun x hx hn=>(hb.block x (Nat.lt_of_lt_of_le hx h.size)).trans (h.keep x hx hn),h.sn⟩
theorem MS.put {y:Nat} {H0 H H' : MW} (h:MS w0 b H0 w H) (hg:w.grownBy w' (some y)) (hy:jO b H y) (hn:∀x,jO b H' x→jO b H x∨w0.heap.size≤x):MS w0 b H0 w' H':=
 ⟨hg.os.trans h.os,hg.tape.trans h.tape,hg.output.trans h.output,Nat.le_trans h.size hg.size,fun x hx hnx=>(hg.block x (Nat.lt_of_lt_of_le hx h.size) (fun e=>by
  have e' : x=y:=Option.some.inj e
  rw[←e'] at hy
  exact (h.sn x hy).elim hnx (fun hh=>absurd hx (Nat.not_lt.2 hh)))).trans (h.keep x hx hnx),fun x hx=>(hn x hx).elim (h.sn x) .inr⟩
theorem MS.loc {y:Nat} {H0 H:MW} (h:MS w0 b H0 w H) (hg:w.grownBy w' (some y)) (hy:w0.heap.size≤y):MS w0 b H0 w' H:=
 ⟨hg.os.trans h.os,hg.tape.trans h.tape,hg.output.trans h.output,Nat.le_trans h.size hg.size,fun x hx hnx=>(hg.block x (Nat.lt_of_lt_of_le hx h.size) (fun e=>by
  have e' : x=y:=Option.some.inj e
  omega)).trans (h.keep x hx hnx),h.sn⟩
theorem MS.same {H0 H H' : MW} (h:MS w0 b H0 w H) (he:eO H' = eO H):MS w0 b H0 w H':=
 { h with sn:=fun x hx=>h.sn x (by unfold jO at hx ⊢; rw[←he];exact hx) }
theorem dz.lt {S:MW} (h:dz w B b S):b<w.heap.size:=h.blk.lt
theorem dz.bs {S:MW} (h:dz w B b S):B≤w.heap.size:=Nat.le_trans h.ge (Nat.le_of_lt h.lt)
theorem dz.below {S:MW} (h:dz w B b S) (hb:Below w.heap.size w w'):dz w' B b S:=⟨h.blk.ext hb,h.ge,h.ma.below hb,h.tt.below hb,h.rd.below hb,h.ra,h.n1,h.n2,h.n3⟩
theorem dz.kb_own {S:MW} (h:dz w B b S) {x:Nat} (hx:jO b S x):B≤x∧x<w.heap.size:=by
 have own:∀ {e:TypeId} {sz n c:Nat} {a:Option Addr} {xs:List Value},Own w B e sz (.slice a n c) n xs→oB a=some x→B≤x∧x<w.heap.size:=fun ho hx=>by
  obtain⟨h1,cs,h2⟩:=fT ho hx
  exact⟨h1,h2.lt⟩
 rcases hx with hx|hx
 ·rw[hx];exact⟨h.ge,h.lt⟩
 ·simp only[eO,List.mem_cons,List.not_mem_nil,or_false] at hx
  rcases hx with hx|hx|hx|hx|hx|hx|hx|hx|hx
  ·exact own h.ma.fr hx.symm
  ·exact own h.ma.sl hx.symm
  ·exact own h.ma.sw.b hx.symm
  ·exact own h.ma.dk.b hx.symm
  ·exact own h.ma.dk.q hx.symm
  ·exact own h.ma.st.own hx.symm
  ·exact own h.ma.ca hx.symm
  ·exact own h.ma.sp hx.symm
  ·exact own h.tt hx.symm
theorem MS.to {S0 S:MW} (h:dz w0 B b S0) (hs:MS w0 b S0 w S) (hB:B0≤B):Below B0 w0 w:=
 ⟨hs.os,hs.tape,hs.output,hs.size,fun x hx=>hs.keep x (by have:=h.bs;omega) (fun hk=>by have:=(h.kb_own hk).1;omega)⟩
theorem MS.blkN {x:Nat} {S0 S:MW} (hs:MS w0 b S0 w S) (hk:aD w0 x cs T) (hx:¬jO b S0 x):aD w x cs T:=(hs.keep x hk.lt hx).trans hk
theorem MS.not {x:Nat} {S0 S:MW} (hs:MS w0 b S0 w S) (hl:x<w0.heap.size) (hx:¬jO b S0 x):¬jO b S x:=fun h=>(hs.sn x h).elim hx (fun h=>by omega)
theorem MS.ownN {S0 S:MW} (hs:MS w0 b S0 w S) (ho:Own w0 B' t sz v n xs) (hx:∀x,v.ownBlock=some x→¬jO b S0 x):Own w B' t sz v n xs:=
 ⟨ho.1,ho.2.imp id fun⟨g,off,cap,cur,hv,hB,hk,r⟩=>⟨g,off,cap,cur,hv,hB,hs.blkN hk (hx g (by rw[hv];rfl)),r⟩⟩
theorem dz.new {S:MW} (h:dz w B b S) {x:Nat} (hx:w.heap.size≤x):¬jO b S x:=fun hk=>by have:=(h.kb_own hk).2;omega
theorem nR.keep (h:nR w a c n vs) (ha:∀x,a=some x→vs≠[]→x.block<B) (hB:B≤w.heap.size) (hg:w.grownBy w' (some g)) (hgB:B≤g):nR w' a c n vs:=
 ⟨h.le,h.mx,h.nl,fun i u hi=>by
  obtain⟨b',o',e,hc⟩:=h.rd i u hi
  have hl:b' < B:=ha _ e (fun e0=>by rw[e0] at hi;cases hi)
  exact⟨b',o',e,hg.cell hc (fun e=>by have h3:b' = g:=Option.some.inj e;omega)⟩⟩
theorem dz.putL {S:MW} (h:dz w B b S) {l:List UInt8} (hr:nR w a c l.length (l.map wU)) (ha:∀x,a=some x→l.map wU≠[]→x.block<B) (hb:aD w' b (bq (fD S) 0 [.slice a l.length c]) 77) (hg:w.grownBy w' (some b)) :
  dz w' B b { S with al:=a,cl:=c,l:=l }:=
 ⟨hb,h.ge,h.ma.keep h.blk (by decide) hg,ak h.tt h.blk (by decide) hg,hr.keep ha h.bs hg h.ge,ha,h.n1,h.n2,h.n3⟩
theorem oL.putF (h:oL w B H) (hk:aD w g cs 81) (hg:w.grownBy w' (some g)) {m:Mem} (ho:Own w' B 81 13 (.slice H.af m.fs.length H.cf) m.fs.length (m.fs.flatMap lZ)):oL w' B { H with m:=m }:=
 ⟨ho,ak h.sl hk (by decide) hg,h.sw.keep hk (by decide) (by decide) hg,h.dk.keep hk (by decide) (by decide) hg,h.st.keep hk (by decide) (by decide) hg,ak h.ca hk (by decide) hg,ak h.sp hk (by decide) hg,fun p hp=>⟨ak (h.ps p hp).1 hk (by decide) hg,(h.ps p hp).2.keep hk (by decide) hg⟩,h.c64⟩
theorem dz.putF {S:MW} (h:dz w B b S) (hk:aD w g cs 81) (hgB:B≤g) (hg:w.grownBy w' (some g)) {fs:List Fr} (hl:fs.length=S.H.m.fs.length) (ho:Own w' B 81 13 (.slice S.H.af fs.length S.H.cf) fs.length (fs.flatMap lZ)) :
  dz w' B b { S with H:={ S.H with m:=⟨fs,S.H.m.hand⟩ } }:=
 ⟨by
  have h1:=aW h.blk hk (by decide) hg
  have e:fD { S with H:={ S.H with m:=⟨fs,S.H.m.hand⟩ } }=fD S:=by unfold fD;rw[show ({ S.H with m:=⟨fs,S.H.m.hand⟩ }:MH).m.fs.length=S.H.m.fs.length from hl]
  rw[e];exact h1,h.ge,h.ma.putF hk hg (m:=⟨fs,S.H.m.hand⟩) ho,ak h.tt hk (by decide) hg,h.rd.keep h.ra h.bs hg hgB,h.ra,h.n1,h.n2,h.n3⟩
theorem Gg (t:List En) (i r:Nat) (hi:i<64) (hr:r<3):(tL t)[i*3+r]?=(jT (t.getD i zEn))[r]?:=by
 unfold tL
 rw[iY (fun i=>jT (t.getD i zEn)) 3 (fun _=>eU _) (List.range 64) i (by rw[List.length_range];exact hi) r hr,List.getElem_range]
theorem Pi {t:List En} {x:En} (hl:t.length=64) (hn:n<64) (cur:Array Value) (o:Nat) (hs:o+192≤cur.size) (hc:∀j u,(tL t)[j]?=some u→cur[o+j]?=some u) :
  bq cur (o+n*3) (jT x)=bq cur o (tL (t.set n x)):=by
 have hset:∀i,i<64→(t.set n x).getD i zEn=if i=n then x else t.getD i zEn:=fun i hi=>by
  rw[List.getD_eq_getElem?_getD,List.getElem?_set]
  by_cases e:i=n
  ·subst e;rw[if_pos rfl,if_pos (by omega),if_pos rfl];rfl
  ·rw[if_neg (fun h=>e h.symm),if_neg e,List.getD_eq_getElem?_getD]
 apply Array.ext_getElem?
 intro m
 have hl3:(jT x).length=3:=eU x
 have hl192:=sH (t.set n x)
 by_cases h1:o≤m∧m<o+192
 ·obtain⟨d,rfl⟩:∃d,m=o+d:=⟨m-o,by omega⟩
  have hd:d<192:=by omega
  obtain⟨i,r,hi,hr,rfl⟩:∃i r,i<64∧r<3∧d=i*3+r:=⟨d / 3,d%3,by omega,by omega,by omega⟩
  obtain⟨u,hu⟩:∃u,(tL (t.set n x))[i*3+r]?=some u:=⟨_,List.getElem?_eq_getElem (by omega)⟩
  rw[putAt_in _ _ _ _ u (by rw[hl192];exact hs) hu]
  rw[Gg _ i r hi hr,hset i hi] at hu
  by_cases e:i=n
  ·subst e
   rw[if_pos rfl] at hu
   rw[←Nat.add_assoc]
   exact putAt_in _ _ _ _ u (by omega) hu
  ·rw[if_neg e] at hu
   rw[putAt_out _ _ _ _ (by omega)]
   exact hc _ _ (by rw[Gg _ i r hi hr];exact hu)
 ·rw[putAt_out _ _ _ _ (by omega),putAt_out _ _ _ _ (by omega)]
theorem dz.lst_len {S:MW} (hp:p<S.T.length):dE S.T p=S.T[p]:=by
 unfold dE
 rw[List.getD_eq_getElem?_getD,List.getElem?_eq_getElem hp];rfl
theorem dz.ent {S:MW} (h:dz w B b S) (hp:p<S.T.length) (hn:n<64) (h64:(dE S.T p).length=64) :
  ∃g off cur,S.ab=some ⟨g,off,none⟩∧B≤g∧aD w g cur 90∧off+p*192+n*3+3≤cur.size∧(∀j u,(jT (dJ S.T p n))[j]?=some u→w.cell? ⟨g,off+p*192+n*3+j,none⟩=some u) ∧
   ∀w' x,aD w' g (bq cur (off+p*192+n*3) (jT x)) 90→w.grownBy w' (some g)→dz w' B b { S with T:=setL S.T p n x }:=by
 obtain⟨g,off,cap,cur,hv,hB,hg,hs,hc,hw⟩:=h.tt.put sH (by decide) p hp
 simp only[Value.slice.injEq] at hv
 obtain⟨hv,_,_⟩:=hv
 refine⟨g,off,cur,hv,hB,hg,by omega,fun j u hj => ?_,fun w' x hw' hgr => ?_⟩
 ·have hj3:j<3:=by
   rcases Nat.lt_or_ge j 3 with h|h
   ·exact h
   ·rw[List.getElem?_eq_none (by rw[eU];exact h)] at hj;cases hj
  have:=hc (n*3+j) u (by rw[Gg _ n j hn hj3,←dz.lst_len hp];exact hj)
  rw[←this]
  congr 2
  omega
 ·have hcur:∀j u,(tL (dE S.T p))[j]?=some u→cur[off+p*192+j]?=some u:=fun j u hj=>by
   rw[dz.lst_len hp] at hj
   have:=hc j u hj
   rw[hg.cell] at this
   exact this
  rw[Pi h64 hn cur _ (by omega) hcur] at hw'
  have ho:=hw w' _ hw'
  have hlen:({ S with T:=setL S.T p n x }:MW).T.length=S.T.length:=by show (setL S.T p n x).length=_;unfold setL;rw[List.length_set]
  refine⟨?_,h.ge,h.ma.keep hg (by decide) hgr,?_,h.rd.keep h.ra h.bs hgr hB,h.ra,h.n1,h.n2,h.n3⟩
  ·have e:fD { S with T:=setL S.T p n x }=fD S:=by unfold fD;rw[hlen]
   rw[e]
   exact aW h.blk hg (by decide) hgr
  ·rw[hlen];exact ho
theorem dz.putS {S : MW} (h : dz w B b S) (hk : aD w g cs 3) (hgB : B ≤ g) (hga : oB S.H.asl = some g) (hg : w.grownBy w' (some g)) (hl : sl.length = S.H.sl.length) (ho : Own w' B 3 1 (.slice S.H.asl sl.length S.H.csl) sl.length (sl.map eH)) :
    dz w' B b { S with H := { S.H with sl := sl } } :=
  ⟨by
    have h1 := aW h.blk hk (by decide) hg
    have e : fD { S with H := { S.H with sl := sl } } = fD S := by unfold fD; rw [show ({ S.H with sl := sl } : MH).sl.length = S.H.sl.length from hl]
    rw [e]; exact h1, h.ge,
   ⟨ak h.ma.fr hk (by decide) hg, ho, h.ma.sw.keep hk (by decide) (by decide) hg, h.ma.dk.keep hk (by decide) (by decide) hg, ⟨ak h.ma.st.own hk (by decide) hg, fun i p hp => (h.ma.st.each i p hp).grown hg (fun g' hg' e => by
      cases e
      unfold jV at hg'
      rw [jv] at hg'
      exact h.n2 p (List.mem_of_getElem? hp) _ hg' hga), h.ma.st.apart⟩, ak h.ma.ca hk (by decide) hg, ak h.ma.sp hk (by decide) hg, fun p hp => ⟨ak (h.ma.ps p hp).1 hk (by decide) hg, (h.ma.ps p hp).2.keep hk (by decide) hg⟩, h.ma.c64⟩,
   ak h.tt hk (by decide) hg, h.rd.keep h.ra h.bs hg hgB, h.ra, h.n1, h.n2, h.n3⟩
theorem dz.putW {S : MW} (h : dz w B b S) (hk : aD w g cs 79) (hgB : B ≤ g) (hga : oB S.H.wb = some g) (hg : w.grownBy w' (some g)) {l : List Page} (hl : l.length = S.H.sw.blocks.length) (ho : Own w' B 79 8 (.slice S.H.wb l.length S.H.cwb) l.length (l.flatMap wz)) :
    dz w' B b { S with H := { S.H with sw := ⟨l, S.H.sw.queue⟩ } } :=
  ⟨by
    have h1 := aW h.blk hk (by decide) hg
    have e : fD { S with H := { S.H with sw := ⟨l, S.H.sw.queue⟩ } } = fD S := by unfold fD; rw [show ({ S.H with sw := ⟨l, S.H.sw.queue⟩ } : MH).sw.blocks.length = S.H.sw.blocks.length from hl]
    rw [e]; exact h1, h.ge,
   ⟨ak h.ma.fr hk (by decide) hg, ak h.ma.sl hk (by decide) hg, ⟨ho, ak h.ma.sw.q hk (by decide) hg⟩, ⟨h.ma.dk.b.grown hg (fun g' hg' e => by
      cases e
      rw [jv] at hg'
      exact h.n1 _ hga hg'), ak h.ma.dk.q hk (by decide) hg⟩, h.ma.st.keep hk (by decide) (by decide) hg, ak h.ma.ca hk (by decide) hg, ak h.ma.sp hk (by decide) hg, fun p hp => ⟨ak (h.ma.ps p hp).1 hk (by decide) hg, (h.ma.ps p hp).2.keep hk (by decide) hg⟩, h.ma.c64⟩,
   ak h.tt hk (by decide) hg, h.rd.keep h.ra h.bs hg hgB, h.ra, h.n1, h.n2, h.n3⟩
theorem dz.setC {S:MW} (h:dz w B b S) {l:List Cc} (ho:Own w B 106 3 (.slice a l.length c) l.length (l.flatMap je)) (hb:aD w' b (bq (fD S) 10 [.slice a l.length c]) 77) (hg:w.grownBy w' (some b)) :
  dz w' B b { S with H:={ S.H with ac:=a,cc:=c,ca:=l } }:=
 ⟨hb,h.ge,{ h.ma.keep h.blk (by decide) hg with ca:=ak ho h.blk (by decide) hg },ak h.tt h.blk (by decide) hg,h.rd.keep h.ra h.bs hg h.ge,h.ra,h.n1,h.n2,h.n3⟩
def MW.lst (S:MW) (a:Option Addr) (c:Nat) (l:List UInt8):MW:={ S with al:=a,cl:=c,l:=l }
theorem kR (S:MW) (a a' : Option Addr) (c c' : Nat) (l l' : List UInt8):(S.lst a c l).lst a' c' l' = S.lst a' c' l':=rfl
theorem Iy {x:UInt8} {l:List UInt8} (h:dA w a ((x::l).map wU)):∃b o,a=some ⟨b,o,none⟩∧w.cell? ⟨b,o,none⟩=some (wU x)∧dA w (some ⟨b,o+1,none⟩) (l.map wU):=by
 obtain⟨b,o,rfl,hc⟩:=h.at (by simp)
 exact⟨b,o,rfl,hc 0 _ rfl,fun i u hi=>⟨b,o+1,rfl,by
  have:=hc (i+1) u (by simpa using hi)
  rw[show o+1+i=o+(i+1) by omega];exact this⟩⟩
theorem dz.locT {S:MW} (h:dz w B b S) (hk:aD w g cs T) (hT:T≠3∧T≠99∧T≠89) (hn:¬jO b S g) (hgB:B≤g) (hg:w.grownBy w' (some g)):dz w' B b S:=by
 have hne:∀ {a:Option Addr},oB a∈eO S→∀n c g',(Value.slice a n c).ownBlock=some g'→some g≠some g':=fun hm n c g' he e=>by
  cases e
  rw[jv] at he
  exact hn (.inr (by rw[←he];exact hm))
 have m:∀ {x:Option Nat} {l:List (Option Nat)},x∈x::l:=List.mem_cons_self
 refine⟨h.blk.grown hg (fun e=>hn (.inl (Option.some.inj e))),h.ge,⟨h.ma.fr.grown hg (hne (by simp[eO]) _ _),h.ma.sl.grown hg (hne (by simp[eO]) _ _),⟨h.ma.sw.b.grown hg (hne (by simp[eO]) _ _),h.ma.sw.q.grown hg (fun g' he=>by rw[h.n3] at he;cases he)⟩,⟨h.ma.dk.b.grown hg (hne (by simp[eO]) _ _),h.ma.dk.q.grown hg (hne (by simp[eO]) _ _)⟩,
  ⟨h.ma.st.own.grown hg (hne (by simp[eO]) _ _),fun i p hp=>ak (h.ma.st.each i p hp) hk hT.1 hg,h.ma.st.apart⟩,h.ma.ca.grown hg (hne (by simp[eO]) _ _),h.ma.sp.grown hg (hne (by simp[eO]) _ _),fun p hp=>⟨ak (h.ma.ps p hp).1 hk hT.2.1 hg,(h.ma.ps p hp).2.keep hk hT.2.2 hg⟩,h.ma.c64⟩,
  h.tt.grown hg (hne (by simp[eO]) _ _),h.rd.keep h.ra h.bs hg hgB,h.ra,h.n1,h.n2,h.n3⟩
def PR (S:MW) (n:Int) (B b:Nat) (w:World) (r:Ending) (w' : World):Prop:=∃x a c l,r = .returned (.int .i64 x)∧dz w' B b (S.lst a c l)∧MS w b S w' (S.lst a c l)∧(0≤x∧x<256∧(x<n∨x=0))∧(S.l=[]→x=0∧l=[])
theorem dL (S:MW) (n:Int) (B b:Nat) (w:World) (h:dz w B b S) (hn : -9223372036854775808≤n∧n≤9223372036854775807) :
  Calls Tryz.prog 30 #[.pointer (some ⟨b,0,none⟩),.int .i64 n] w (PR S n B b w):=by
 obtain⟨al,cl,l,H,ab,cb,T⟩:=S
 have hr:nR w al cl l.length (l.map wU):=h.rd
 have hra:∀a,al=some a→l.map wU≠[]→a.block<B:=h.ra
 have hc:=h.blk.cell
 unfold fD at hc
 dsimp only at hc
 have h':=Lib.hid h
 have hra':=Lib.hid hra
 go_enter func30,ntmps30
 cases l with
 | nil=>
  clear h hr hra
  go_wp2
  go_ret
  exact⟨0,al,cl,[],rfl,h'.out,MS.refl _ _ _,by omega,fun _=>⟨rfl,rfl⟩⟩
 | cons x l=>
  obtain⟨bl,ol,rfl,hcb,hrd⟩:=Iy hr.rd
  have hrl:l.length+1≤cl:=by have:=hr.le;simpa using this
  have hrm:=Lib.hid hr.mx
  have hrd':=Lib.hid hrd
  have hblk:=h.blk
  clear h hr hra hrd
  unfold wU at hcb
  by_cases hn1:n<1
  ·go_wp2
   go_ret
   exact⟨0,_,cl,x::l,rfl,h'.out,MS.refl _ _ _,by omega,fun e=>(by cases e)⟩
  ·have hl1:(1:Int)≤((l.length+1:Nat):Int):=by omega
   have h1:=Lib.hid x.toNat_lt
   have hx0:Hid ((0:Int)≤(x.toNat:Int)%n∧(x.toNat:Int)%n<256∧((x.toNat:Int)%n<n∨(x.toNat:Int)%n=0)):=Lib.hid (by
    have h3:=Int.emod_nonneg (x.toNat:Int) (show n≠0 by omega)
    have h4:=Int.emod_lt_of_pos (x.toNat:Int) (show (0:Int)<n by omega)
    have h6:(x.toNat:Int)%n≤(x.toNat:Int):=by
     obtain⟨N,rfl⟩:=Int.eq_ofNat_of_zero_le (show 0≤n by omega)
     rw[←Int.natCast_emod]
     have:=Nat.mod_le x.toNat N
     omega
    have:=h1.out
    omega)
   have hxw:IntKind.i64.wrap (x.toNat:Int)=(x.toNat:Int):=IntWalk.i64_in _ (by have:=h1.out;omega)
   by_cases hcl:cl=1
   ·subst hcl
    obtain rfl:l=[]:=List.length_eq_zero_iff.1 (by omega)
    go_wp2_with (refine az rfl _ _ _ rfl b 0 _ [.slice (some ⟨bl,ol,none⟩) 0 0] rfl rfl rfl _ _ hblk (by show 0+1≤13;omega) (by kernel_rfl) (fun u hu=>by cases List.mem_singleton.1 hu;rfl) ?_)
    intro w1 hb1 hg1
    clear hc hcb
    go_wp2
    go_ret
    have hs:nR w (some ⟨bl,ol,none⟩) 0 0 (([]:List UInt8).map wU):=⟨Nat.le_refl _,Nat.zero_le _,fun e=>(by cases e),dA.nil⟩
    exact⟨_,some ⟨bl,ol,none⟩,0,[],rfl,h'.out.putL hs (fun a e _=>by cases e;exact hra'.out _ rfl (by simp)) hb1 hg1,(MS.refl w b _).put hg1 (.inl rfl) fun x hx => .inl hx,hx0.out,fun e=>(by cases e)⟩
   ·go_wp2_with (refine az rfl _ _ _ rfl b 0 _ [.slice (some ⟨bl,ol+1,none⟩) l.length (cl-1)] rfl rfl rfl _ _ hblk (by show 0+1≤13;omega) (by kernel_rfl) (fun u hu=>by cases List.mem_singleton.1 hu;rfl) ?_)
    intro w1 hb1 hg1
    clear hc hcb
    go_wp2
    go_ret
    have hs:nR w (some ⟨bl,ol+1,none⟩) (cl-1) l.length (l.map wU):=⟨by omega,by have:=hrm.out;omega,fun e=>(by cases e),hrd'.out⟩
    exact⟨_,some ⟨bl,ol+1,none⟩,cl-1,l,rfl,h'.out.putL hs (fun a e _=>by cases e;exact hra'.out ⟨bl,ol,none⟩ rfl (by simp)) hb1 hg1,(MS.refl w b _).put hg1 (.inl rfl) fun x hx => .inl hx,hx0.out,fun e=>(by cases e)⟩
def PY (S:MW) (B b:Nat) (w:World) (r:Ending) (w' : World):Prop:=∃P a c l,r = .returned (.agg (gD P))∧dz w' B b (S.lst a c l)∧MS w b S w' (S.lst a c l)
theorem rA (S:MW) (B b:Nat) (w:World) (h:dz w B b S) :
  Calls Tryz.prog 33 #[.pointer (some ⟨b,0,none⟩)] w (PY S B b w):=by
 have hBs:=Lib.hid h.bs
 go_enter func33,ntmps33
 go_upto_region 3 with (fail)
 refine oJ (fun W=>Code.wp _ _ _ _ W) fun w1 hb1 bx1 rx1 hs1 => ?_
 have h1:=h.below hb1
 have s1:=(MS.refl w b S).below hb1
 have hn0:=Lib.hid (h.new (Nat.le_refl _))
 have hn1:=Lib.hid (h.new (Nat.le_succ _))
 clear h
 go_loopw [5] (fun k wr => ∃(q:Nat) (P:Page) (a:Option Addr) (c:Nat) (l:List UInt8),q≤8∧k = .int .i64 q∧dz wr B b (S.lst a c l)∧MS w b S wr (S.lst a c l)∧aD wr w.heap.size (gD zPg) 79∧aD wr (w.heap.size+1) (gD P) 79) (fun k _=>8-(intOf k).toNat)
 case atStart=>exact⟨0,zPg,S.al,S.cl,S.l,Nat.zero_le _,rfl,h1,s1,bx1,rx1⟩
 case round=>
  clear h1 s1 bx1 rx1 hb1 hs1
  obtain⟨q,P,a,c,l,hq,rfl,hm,hs,bx,rx⟩:=hrel
  have hsz:w.heap.size+2≤wr.heap.size:=rx.lt
  by_cases hq8:q<8
  ·have hqi:(q:Int)<8:=by omega
   go_wp2_with fail
   refine (dL _ 4 B b _ hm (by omega)).mono ?_
   rintro r w2 ⟨x,a2,c2,l2,rfl,hm2,hs2,hx,_⟩
   rw[kR] at hm2 hs2
   have bx2:=hs2.blkN bx hn0.out
   have rx2:=hs2.blkN rx hn1.out
   have hst:=hs.trans hs2
   obtain⟨x,rfl⟩:∃y:UInt8,x=(y.toNat:Int):=⟨UInt8.ofNat x.toNat,by rw[UInt8.toNat_ofNat'];omega⟩
   have hx2:((x.toNat:Nat):Int)<256:=hx.2.1
   clear hm hs bx rx hs2 hx
   go_wp2_with (refine az rfl _ _ _ rfl (w.heap.size+1) q _ [.int .u8 x.toNat] rfl rfl rfl _ _ rx2 (by show q+1≤8;omega) (by kernel_rfl) (fun u hu=>by cases List.mem_singleton.1 hu;rfl) ?_)
   intro w3 rx3 hg3
   rw[Pw.putAt_one,wY _ q hq8] at rx3
   have hm3:=hm2.locT rx2 (by decide) hn1.out (by have:=hBs.out;omega) hg3
   have hs3:=hst.loc hg3 (Nat.le_succ _)
   have bx3:=bx2.grown hg3 (fun e=>by have:=Option.some.inj e;omega)
   clear hm2 hst bx2 rx2 hg3
   go_wp2
   go_roundw
   case rel=>exact⟨q+1,_,a2,c2,l2,by omega,by go_num,hm3,hs3,bx3,rx3⟩
   case measure=>simp[intOf];omega
  ·have hqi:¬(q:Int)<8:=by omega
   go_wp2_with (first | (refine ay _ _ rfl (w.heap.size+1) 0 rfl rfl _ rx.rd _ underlying79 rfl psize ?_) | (refine ax rfl _ _ _ rfl w.heap.size (gD P) rfl rfl _ _ bx rfl psize (iL _) ?_))
   intro w3 bx3 hg3
   go_wp2
   refine bodyPost_ret (v:=.agg (gD P)) (dF results33 _ _ w.heap.size _ _ _ rfl bx3 underlying79 rfl psize) rfl ?_
   exact⟨P,a,c,l,rfl,hm.locT bx (by decide) hn0.out (by have:=hBs.out;omega) hg3,hs.loc hg3 (Nat.le_refl _)⟩
def MW.frs (S:MW) (fs:List Fr):MW:={ S with H:={ S.H with m:=⟨fs,S.H.m.hand⟩ } }
def Pm (S:MW) (f:Fr) (B b:Nat) (w:World) (r:Ending) (w' : World):Prop:=∃x a c l fs,r = .returned (.int .i64 x)∧dz w' B b ((S.lst a c l).frs fs)∧MS w b S w' ((S.lst a c l).frs fs) ∧
   ((x = -1∧fs=S.H.m.fs)∨∃j:Nat,x=j∧j<S.H.m.fs.length∧(aO S.H.ma j).r=0∧fs=S.H.m.fs.set j f)
theorem xW (S:MW) (f:Fr) (B b:Nat) (w:World) (h:dz w B b S) (hz:S.H.m.fs.length≤1000) :
  Calls Tryz.prog 106 #[.pointer (some ⟨b,0,none⟩),.agg (uP f)] w (Pm S f B b w):=by
 go_enter func106,ntmps106
 go_upto_region 1 with (fail)
 refine gB (fun W=>Code.wp _ _ _ _ W) fun w1 hb1 bx1 hs1 => ?_
 have h1:=h.below hb1
 have s1:=(MS.refl w b S).below hb1
 have hn0:=Lib.hid (h.new (Nat.le_refl _))
 have hBs:=Lib.hid h.bs
 have hc:=h1.blk.cell
 unfold fD at hc
 clear h hb1
 go_wp2_with fail
 refine (dL _ _ B b _ h1 (by omega)).mono ?_
 rintro r w2 ⟨x,a2,c2,l2,rfl,hm2,hs2,hx,_⟩
 have bx2:=hs2.blkN bx1 hn0.out
 have hst:=s1.trans hs2
 clear h1 s1 hc hs2 bx1 hs1
 go_upto_region 4 with (fail)
 generalize hnn:S.H.m.fs.length=n at *
 go_loopw [20] (fun k wr => ∃q:Nat,q≤n∧k = .int .i64 q∧wr=w2) (fun k _=>n-(intOf k).toNat)
 case atStart=>exact⟨0,Nat.zero_le _,rfl,rfl⟩
 case round=>
  obtain⟨q,hq,rfl,rfl⟩:=hrel
  have hc:=hm2.blk.cell
  unfold fD at hc
  dsimp only[MW.lst] at hc
  rw[hnn] at hc
  by_cases hqn:q<n
  ·have hqi:(q:Int)<(n:Int):=by omega
   obtain⟨X,rfl⟩:=Int.eq_ofNat_of_zero_le hx.1
   have hx1:(X:Int)<256:=hx.2.1
   obtain⟨j,hjn,hj⟩:∃j:Nat,j<n∧((X:Int)+(q:Int))%(n:Int)=j:=⟨(X+q)%n,Nat.mod_lt _ (by omega),by rw[←Int.natCast_add,←Int.natCast_emod]⟩
   have hji:(j:Int)<(n:Int):=by omega
   obtain⟨g,off,cap,cur,hv,hgB,hg,hgs,hgc,hgw⟩:=hm2.ma.fr.put eB (by decide) j (by show j<S.H.m.fs.length;omega)
   have haf:S.H.af=some ⟨g,off,none⟩:=(Value.slice.inj hv).1
   rw[haf] at hc
   have c8:wr.cell? ⟨g,off+j*13+8,none⟩=some (.int .i64 (S.H.m.fs[j]'(by omega)).r):=hgc 8 _ rfl
   have hfj:Hid (aO S.H.ma j=S.H.m.fs[j]'(by omega)):=Lib.hid (by
    unfold aO
    show S.H.m.fs.getD j fr0=_
    rw[List.getD_eq_getElem?_getD,List.getElem?_eq_getElem (by omega)];rfl)
   clear hv
   have hgw':=Lib.hid hgw
   have hgc':=Lib.hid hgc
   clear hgw hgc
   generalize S.H.m.fs[j]'(by omega)=Y at c8 hfj
   by_cases hr:Y.r=0
   ·rw[hr] at c8
    have hne:g≠w.heap.size:=fun e=>hn0.out (.inr (by rw[←e];simp[eO,haf,oB];left;rfl))
    go_upto_region 8 with (fail)
    refine aG 9 [_,_,_,_,_,_,.v (.int .i64 (j:Int)),_,_] (Gk rfl (Gk rfl (Gf b 1 rfl rfl (Gf b 1 rfl rfl (Gf b 1 rfl rfl (Gl hm2.blk (V:=.slice (some ⟨g,off,none⟩) n S.H.cf) (by simp[fD,MW.lst,haf,hnn]) rfl rfl rfl rfl (ae ?_ (Gr (.agg #[.int .u8 f.p[0].toNat,.int .u8 f.p[1].toNat,.int .u8 f.p[2].toNat,.int .u8 f.p[3].toNat,.int .u8 f.p[4].toNat,.int .u8 f.p[5].toNat,.int .u8 f.p[6].toNat,.int .u8 f.p[7].toNat,.int .i64 f.r,.bool f.u,.bool f.d,.int .i64 f.f,.int .i64 f.i]) (fun ρ y W hb hKn=>(bu rfl (aF rfl hKn) (cB (bx2.ext hb) 0 13) underlying81 rfl (by kernel_rfl))) rfl rfl (Gr (.pointer (some ⟨g,off+j*13,none⟩)) (fun ρ y W hb hKn=>(bB rfl (aF rfl hKn) (aF rfl hKn) hjn underlying26 frame_size)) rfl rfl (aB)))))))))) (fun _=>rfl) rfl ?_
    ·intro ρ y W hw hn hb hd;have E8:ρ (.tmp 8) = .int .i64 (j:Int):=(hn (.tmp 8) rfl).trans (by show Value.int IntKind.i64 (((X:Int)+(q:Int))%(n:Int))=_;rw[hj])
     refine aj (.int .i64 (j:Int)) (ah rfl) (run_move (.inl rfl) E8) rfl
    intro y W3 hbW3 _
    have hm3:=hm2.below hbW3
    have hg3:=hg.ext hbW3
    have hs3:=hst.below hbW3
    clear hm2 bx2 hst hbW3 hg hc c8
    go_wp2_with (refine az rfl _ _ _ rfl g (off+j*13) _ (lZ f) rfl rfl rfl _ _ hg3 (by rw[eB];exact hgs) (by kernel_rfl) (bv (qg f)) ?_)
    intro w4 h4 hg4
    have ho4:=hgw'.out _ f h4
    have hm4:=hm3.putF hg3 hgB hg4 (fs:=S.H.m.fs.set j f) (by simp[MW.lst]) (by simpa[MW.lst] using ho4)
    have hs4:=hs3.put hg4 (H':=(S.lst a2 c2 l2).frs (S.H.m.fs.set j f)) (.inr (by simp[eO,MW.lst,haf,oB];left;rfl)) (fun x hx => .inl hx)
    clear hm3 hs3 hg3 hg4 h4 ho4
    go_wp2
    go_ret
    exact⟨j,a2,c2,l2,_,rfl,hm4,hs4,.inr ⟨j,rfl,by omega,by rw[hfj.out];exact hr,rfl⟩⟩
   ·go_wp2
    go_roundw
    case rel=>exact⟨q+1,by omega,by go_num,by first | rfl | trivial⟩
    case measure=>simp[intOf];omega
  ·have hqi:¬(q:Int)<(n:Int):=by omega
   go_wp2
   go_ret
   exact⟨-1,a2,c2,l2,S.H.m.fs,rfl,hm2,hst,.inl ⟨rfl,rfl⟩⟩
theorem Ib (d:nT) (k:Int) (ab:Option Addr) (cb:Nat) (aq:Option Addr) (cq:Nat) (w:World) (h:GI w ab cb aq cq d) :
  Calls Tryz.prog 87 #[.agg #[.slice ab d.blocks.length cb,.slice aq d.queue.length cq],.int .i64 k] w fun e w'=>e = .returned (.tuple #[.agg (gD (jh d k)),.int .i64 (aH d k)])∧Below w.heap.size w w':=by
 go_enter func87,ntmps87
 go_wp2_with fail
 refine oJ (fun W=>Calls _ _ _ W _) fun W0 hb0 hx0 hr0 hs0 => ?_
 refine (Dw d ab cb aq cq _ (h.below hb0)).mono ?_
 rintro e w1 ⟨rfl,hb1⟩
 have hbel1:=ag hb0 hb1
 have hx1:=hx0.ext hb1
 have hres1:=hr0.ext hb1
 have h1:=h.below hbel1
 clear hx0 hr0 hb1 hb0 hs0
 have lq:=Nat.le_trans h1.lq h1.mq
 unfold maxLen at lq
 have hc1:=hx1.cell
 by_cases hw:aZ d=0
 ·rw[hw]
  by_cases hk:k<0∨(d.blocks.length:Int)≤k
  ·have q1:aH d k=3:=by unfold aH;rw[if_neg (by omega),if_pos hk]
   have q2:gD (jh d k)=#[.int .u8 0,.int .u8 0,.int .u8 0,.int .u8 0,.int .u8 0,.int .u8 0,.int .u8 0,.int .u8 0]:=by unfold jh;rw[q1];rfl
   rcases hk with hk|hk
   all_goals
    go_wp2_with (refine ax rfl _ (.tmp 4) (.tmp 25) rfl (w.heap.size+1) #[.int .u8 0,.int .u8 0,.int .u8 0,.int .u8 0,.int .u8 0,.int .u8 0,.int .u8 0,.int .u8 0] rfl rfl _ _ hres1 zz_fit zz_info zz_one ?_)
    all_goals
     intro w2 hr2 hgr
     have hbel2:=hbel1.grown hgr hbel1.size (fun k hk=>by cases hk;omega)
     have hcr:=hr2.cell
     go_wp2
     simp[bodyPost,results,go_sem,results87,hcr,q1,q2]
     exact hbel2
  ·obtain⟨k,rfl⟩:=Int.eq_ofNat_of_zero_le (show 0≤k by omega)
   have hkl:k<d.blocks.length:=by omega
   have k1:¬(d.blocks.length:Int)≤(k:Int):=by omega
   have kz:(k:Int)<(d.blocks.length:Int):=by omega
   have q1:aH d k=0:=by unfold aH;rw[if_neg (by omega),if_neg hk]
   have q2:jh d k=over k d.blocks[k] d.queue:=by unfold jh;rw[q1,if_pos rfl];simp[hkl]
   have Q:=Lib.hid (And.intro q1 q2)
   have hgx:w.heap.size+2≤w1.heap.size:=by have:=hres1.lt;omega
   clear hk q1 q2
   have hd:decide (d.blocks.length≤k)=false:=by simp;omega
   obtain⟨b,off,rfl,hc⟩:=Oh h1.rb k hkl
   have c0:=hc 0 (by decide);have c1:=hc 1 (by decide);have c2:=hc 2 (by decide);have c3:=hc 3 (by decide)
   have c4:=hc 4 (by decide);have c5:=hc 5 (by decide);have c6:=hc 6 (by decide);have c7:=hc 7 (by decide)
   simp only[gD,List.getElem?_toArray,List.getElem?_cons_zero,List.getElem?_cons_succ,Nat.add_zero] at c0 c1 c2 c3 c4 c5 c6 c7
   clear hc
   go_upto_region 7 with (fail)
   refine gB (fun W=>Code.wp _ _ _ _ W) fun w2 hb2 hp2 hs2 => ?_
   have hbel2:=ag hbel1 hb2
   have hx2:=hx1.ext hb2
   have hres2:=hres1.ext hb2
   have hp2' : aD w2 w1.heap.size (gD d.blocks[k]) 79:=hp2
   clear hbel1 hx1 hres1 h1 hb2 hp2 hs2 hc1 c0 c1 c2 c3 c4 c5 c6 c7
   have hc2:=hx2.cell
   go_wp2
   clear hc2 hx2
   go_loopw [34] (fun i wr => ∃j:Nat,j≤d.queue.length∧i = .int .i64 j∧Below w.heap.size w wr∧aD wr (w.heap.size+1) #[.int .u8 0,.int .u8 0,.int .u8 0,.int .u8 0,.int .u8 0,.int .u8 0,.int .u8 0,.int .u8 0] 79∧aD wr w1.heap.size (gD (over k d.blocks[k] (d.queue.take j))) 79) (fun i _=>d.queue.length-(intOf i).toNat)
   case atStart=>exact⟨0,Nat.zero_le _,rfl,hbel2,hres2,hp2'⟩
   case round=>
    clear hbel2 hres2 hp2'
    obtain⟨j,hj,rfl,hbel,hres,hp⟩:=hrel
    by_cases hlt:j<d.queue.length
    ·obtain⟨b',off',rfl,hc⟩:=Ay (h.below hbel).rq j hlt
     have c0:=hc 0 (by decide);have c1:=hc 1 (by decide);have c2:=hc 2 (by decide);have c3:=hc 3 (by decide);have c4:=hc 4 (by decide)
     have c5:=hc 5 (by decide);have c6:=hc 6 (by decide);have c7:=hc 7 (by decide);have c8:=hc 8 (by decide)
     simp only[BN,List.getElem?_toArray,List.getElem?_cons_zero,List.getElem?_cons_succ,Nat.add_zero] at c0 c1 c2 c3 c4 c5 c6 c7 c8
     clear hc
     have hot:=Lib.hid (Hy (k:Int) d.blocks[k] d.queue j hlt)
     by_cases he:d.queue[j].1=(k:Int)
     ·have hot' : Hid (over (k:Int) d.blocks[k] (d.queue.take (j+1))=d.queue[j].2):=by have:=hot.out;rw[if_pos he] at this;exact this
      rw[he] at c0
      clear hot he
      have hpa:=hp.alloc (.cells #[.int .i64 k,.int .u8 d.queue[j].2[0].toNat,.int .u8 d.queue[j].2[1].toNat,.int .u8 d.queue[j].2[2].toNat,.int .u8 d.queue[j].2[3].toNat,.int .u8 d.queue[j].2[4].toNat,.int .u8 d.queue[j].2[5].toNat,.int .u8 d.queue[j].2[6].toNat,.int .u8 d.queue[j].2[7].toNat] 86)
      go_wp2_with (refine ax rfl _ (.tmp 7) (.tmp 43) rfl w1.heap.size (gD d.queue[j].2) rfl rfl _ _ hpa (NV _ _) (wZ _) (iL _) ?_)
      intro w4 hp4 hgr
      have hbel4:=(hbel.alloc hbel.size _).grown hgr (bQ hbel.size _) (fun k hk=>by cases hk;omega)
      have hres4:=(hres.alloc _).grown hgr (fun he=>by have:=Option.some.inj he;omega)
      clear hpa hp hbel hres hgr c0 c1 c2 c3 c4 c5 c6 c7 c8
      go_wp2
      go_roundw
      case rel=>exact⟨j+1,by omega,by go_num,hbel4,hres4,by rw[hot'.out];exact hp4⟩
      case measure=>simp[intOf];omega
     ·have hot' : Hid (over (k:Int) d.blocks[k] (d.queue.take (j+1))=over (k:Int) d.blocks[k] (d.queue.take j)):=by have:=hot.out;rw[if_neg he] at this;exact this
      have hne:(d.queue[j].1==(k:Int))=false:=by simpa using he
      clear hot he
      go_wp2
      go_roundw
      case rel=>exact⟨j+1,by omega,by go_num,hbel.alloc hbel.size _,hres.alloc _,by rw[hot'.out];exact hp.alloc _⟩
      case measure=>simp[intOf];omega
    ·rw[List.take_of_length_le (show d.queue.length≤j by omega)] at hp
     have hq2:=Q.out.2
     rw[←hq2] at hp
     have hcp:=hp.cell
     rw[GX] at hcp
     clear hq2
     go_wp2_with (refine ax rfl _ (.tmp 4) (.tmp 45) rfl (w.heap.size+1) (gD (jh d k)) rfl rfl _ _ hres (OM _) (wZ _) (iL _) ?_)
     intro w4 hr4 hgr
     have hbel4:=hbel.grown hgr hbel.size (fun k hk=>by cases hk;omega)
     have hcr:=hr4.cell
     obtain⟨e0,e1,e2,e3,e4,e5,e6,e7⟩:=BH (jh d k)
     clear hcp
     go_wp2
     simp[bodyPost,results,go_sem,results87,hcr,e0,e1,e2,e3,e4,e5,e6,e7,Q.out.1]
     exact⟨rfl,hbel4⟩
 ·have q1:aH d k=aZ d:=by unfold aH;rw[if_pos hw]
  have q2:gD (jh d k)=#[.int .u8 0,.int .u8 0,.int .u8 0,.int .u8 0,.int .u8 0,.int .u8 0,.int .u8 0,.int .u8 0]:=by unfold jh;rw[q1,if_neg hw];rfl
  have hw' : (aZ d != 0)=true:=by simpa using hw
  go_wp2_with (refine ax rfl _ (.tmp 4) (.tmp 14) rfl (w.heap.size+1) #[.int .u8 0,.int .u8 0,.int .u8 0,.int .u8 0,.int .u8 0,.int .u8 0,.int .u8 0,.int .u8 0] rfl rfl _ _ hres1 zz_fit zz_info zz_one ?_)
  intro w2 hr2 hgr
  have hbel2:=hbel1.grown hgr hbel1.size (fun k hk=>by cases hk;omega)
  have hcr:=hr2.cell
  go_wp2
  simp[bodyPost,results,go_sem,results87,hcr,q1,q2]
  exact hbel2
def lI (f s b:Int):Ma:=if (0≤f∧f≤40)∧(0≤s∧s≤60)∧(0≤b∧b≤80) then ⟨rY f,wJ s,lW s,lW b,⟨[],b⟩,[],[⟨true,[],zTb⟩]⟩ else zMa
def uY (f s b:Int):Int:=if (0≤f∧f≤40)∧(0≤s∧s≤60)∧(0≤b∧b≤80) then 0 else 4
def noH:MH:=⟨none,0,noM,none,0,[],none,0,none,0,⟨[],[]⟩,none,0,none,0,⟨[],[]⟩,none,0,[],0,none,0,[],none,0,[]⟩
theorem BF (w:World) (B:Nat):oL w B noH:=
 ⟨Own.nil _ _ _ _,Own.nil _ _ _ _,fQ.nil _ _,fQ.nil _ _,⟨Own.nil _ _ _ _,fun i p hp=>by simp[noH] at hp,fun i j p q _ hp=>by simp[noH] at hp⟩,Own.nil _ _ _ _,Own.nil _ _ _ _,fun p hp=>by simp[noH] at hp,by decide⟩
def nTs:Vector Value 8:=⟨#[.slice none 0 0,.slice none 0 0,.slice none 0 0,.slice none 0 0,.slice none 0 0,.slice none 0 0,.slice none 0 0,.slice none 0 0],rfl⟩
def newP:PS:=⟨true,none,0,[],nTs,zTb⟩
theorem KC (w:World) (B:Nat) (hB:B≤w.heap.size):Own (w.alloc (.cells (tu newP) 55)) B 55 10 (.slice (some ⟨w.heap.size,0,none⟩) 1 1) 1 ([newP].flatMap nZ):=
 ⟨rfl,.inr ⟨w.heap.size,0,1,tu newP,rfl,hB,aD.new _ _ _,Nat.le_refl _,by decide,by decide,fun j u h=>by
  rw[Nat.zero_add,←Array.getElem?_toList]
  rw[show [newP].flatMap nZ=(tu newP).toList from by rw[List.flatMap_cons,List.flatMap_nil,List.append_nil];rfl] at h
  exact h⟩⟩
theorem Cx (f s b:Int) (w:World) (hb64 : -9223372036854775808≤b∧b≤9223372036854775807) :
  Calls Tryz.prog 59 #[.agg #[.int .i64 f,.int .i64 s,.int .i64 b]] w fun r w' => ∃H' : MH,r = .returned (.tuple #[.agg (dC H'),.int .i64 (uY f s b)])∧oL w' w.heap.size H'∧H'.ma=lI f s b∧Below w.heap.size w w':=by
 go_enter func59,ntmps59
 have bx0:=aD.new w #[.int .i64 f,.int .i64 s,.int .i64 b] 23
 have h1:Below w.heap.size w (w.alloc (.cells #[.int .i64 f,.int .i64 s,.int .i64 b] 23)):=(Below.refl _ _).alloc (Nat.le_refl _) _
 have h2:Below (w.alloc (.cells #[.int .i64 f,.int .i64 s,.int .i64 b] 23)).heap.size (w.alloc (.cells #[.int .i64 f,.int .i64 s,.int .i64 b] 23)) ((w.alloc (.cells #[.int .i64 f,.int .i64 s,.int .i64 b] 23)).alloc (.cells (dC noH) 41)):=(Below.refl _ _).alloc (Nat.le_refl _) _
 have hb0:=ag h1 h2
 have bx1:=bx0.ext h2
 have rx1:=aD.new (w.alloc (.cells #[.int .i64 f,.int .i64 s,.int .i64 b] 23)) (dC noH) 41
 rw[show (w.alloc (.cells #[.int .i64 f,.int .i64 s,.int .i64 b] 23)).heap.size=w.heap.size+1 from Array.size_push _] at rx1
 clear h1 h2
 go_wp2_with fail
 refine (Lb f _).mono ?_
 rintro r w1 ⟨v1,rfl,ho1,hb1⟩
 have bx1:=bx1.ext hb1
 have rx1:=rx1.ext hb1
 have hbr1:=ag hb0 hb1
 have hfr:=aD.new w1 #[.slice none 0 0,.int .i64 0] 28
 have hba:Below w1.heap.size w1 (w1.alloc (.cells #[.slice none 0 0,.int .i64 0] 28)):=(Below.refl _ _).alloc (Nat.le_refl _) _
 have bx2:=bx1.ext hba
 have rx2:=rx1.ext hba
 have hbr2:=ag hbr1 hba
 have p1:=(ho1.below hba)
 obtain⟨a1,c1,rfl,_⟩:=p1.rd
 have hl1:=rx1.lt
 have hl0:=hb0.size
 clear hb0 hb1 hba ho1 hbr1 bx1
 go_wp2_with (refine ax rfl _ _ _ rfl w1.heap.size #[.slice a1 (rY f).fs.length c1,.int .i64 0] rfl rfl _ _ hfr rfl mem_size (gP _ _ _ _) ?_)
 intro w2 mb2 hg2
 have bx3:=bx2.grown hg2 (fun e=>by have:=Option.some.inj e;omega)
 have rx3:=rx2.grown hg2 (fun e=>by have:=Option.some.inj e;omega)
 have hbr3:=hbr2.grown hg2 hbr2.size (fun k hk=>by cases hk;omega)
 have q1:=ak p1 hfr (by decide) hg2
 have hcs:w2.cell? ⟨w.heap.size,1,none⟩=some (.int .i64 s):=by rw[bx3.cell];rfl
 clear bx2 rx2 hbr2 hfr p1 hg2
 by_cases hf:0≤f∧f≤40
 ·have e1:Gm f=0:=if_pos hf
  rw[e1]
  go_wp2_with fail
  refine (Ic s _).mono ?_
  rintro r w3 ⟨v3,rfl,ho3,hb3⟩
  have bx4:=bx3.ext hb3
  have rx4:=rx3.ext hb3
  have mb4:=mb2.ext hb3
  have p1:=q1.below hb3
  have hl3:=hb3.size
  have hl2:=mb2.lt
  have hbr4:=ag hbr3 hb3
  obtain⟨a3,c3,rfl,_⟩:=ho3.rd
  clear bx3 rx3 mb2 q1 hb3 hbr3 hcs
  by_cases hs:0≤s∧s≤60
  ·have e2:AO s=0:=if_pos hs
   rw[e2]
   have hcs:w3.cell? ⟨w.heap.size,1,none⟩=some (.int .i64 s):=by rw[bx4.cell];rfl
   go_wp2_with fail
   refine (Df s _).mono ?_
   rintro r w4 ⟨vb,vq,rfl,ho4,hb4⟩
   have hba:Below w4.heap.size w4 (w4.alloc (.cells #[.slice none 0 0,.slice none 0 0] 34)):=(Below.refl _ _).alloc (Nat.le_refl _) _
   have hfr:=aD.new w4 #[.slice none 0 0,.slice none 0 0] 34
   have hl4:=hb4.size
   have bx5:=(bx4.ext hb4).ext hba
   have rx5:=(rx4.ext hb4).ext hba
   have mb5:=(mb4.ext hb4).ext hba
   have q1:=(p1.below hb4).below hba
   have q3:=(ho3.below hb4).below hba
   have q4:fQ _ _ _ _ _:=⟨ho4.b.below hba,ho4.q.below hba⟩
   have hbr5:=ag (ag hbr4 hb4) hba
   obtain⟨ab,cb,rfl,_⟩:=q4.b.rd
   obtain⟨aq,cq,rfl,_⟩:=q4.q.rd
   have hw4:=(mb4.ext hb4).lt
   clear bx4 rx4 mb4 p1 ho3 ho4 hb4 hba hbr4 hcs
   go_wp2_with (refine ax rfl _ _ _ rfl w4.heap.size #[.slice ab (lW s).blocks.length cb,.slice aq (lW s).queue.length cq] rfl rfl _ _ hfr rfl disk_size (jW _ _ _ _ _ _) ?_)
   intro w5 sb5 hg5
   have bx6:=bx5.grown hg5 (fun e=>by have:=Option.some.inj e;omega)
   have rx6:=rx5.grown hg5 (fun e=>by have:=Option.some.inj e;omega)
   have mb6:=mb5.grown hg5 (fun e=>by have:=Option.some.inj e;omega)
   have hbr6:=hbr5.grown hg5 hbr5.size (fun k hk=>by cases hk;omega)
   have p1:=ak q1 hfr (by decide) hg5
   have p3:=ak q3 hfr (by decide) hg5
   have p4:=q4.keep hfr (by decide) (by decide) hg5
   have hcb:w5.cell? ⟨w.heap.size,2,none⟩=some (.int .i64 b):=by rw[bx6.cell];rfl
   clear bx5 rx5 mb5 q1 q3 q4 hg5 hfr hbr5
   go_wp2_with fail
   refine (Df b _).mono ?_
   rintro r w6 ⟨vb,vq,rfl,ho6,hb6⟩
   have hba:Below w6.heap.size w6 (w6.alloc (.cells #[.slice none 0 0,.slice none 0 0] 34)):=(Below.refl _ _).alloc (Nat.le_refl _) _
   have hfr:=aD.new w6 #[.slice none 0 0,.slice none 0 0] 34
   have hl6:=hb6.size
   have hw5:=sb5.lt
   have hw6:=(sb5.ext hb6).lt
   have bx7:=(bx6.ext hb6).ext hba
   have rx7:=(rx6.ext hb6).ext hba
   have mb7:=(mb6.ext hb6).ext hba
   have sb7:=(sb5.ext hb6).ext hba
   have q1:=(p1.below hb6).below hba
   have q3:=(p3.below hb6).below hba
   have q4:fQ _ _ _ _ _:=⟨(p4.b.below hb6).below hba,(p4.q.below hb6).below hba⟩
   have q6:fQ _ _ _ _ _:=⟨ho6.b.below hba,ho6.q.below hba⟩
   have hbr7:=ag (ag hbr6 hb6) hba
   obtain⟨db,dcb,rfl,_⟩:=q6.b.rd
   obtain⟨dq,dcq,rfl,_⟩:=q6.q.rd
   clear bx6 rx6 mb6 sb5 p1 p3 p4 ho6 hb6 hba hbr6 hcb
   go_wp2_with (refine ax rfl _ _ _ rfl w6.heap.size #[.slice db (lW b).blocks.length dcb,.slice dq (lW b).queue.length dcq] rfl rfl _ _ hfr rfl disk_size (jW _ _ _ _ _ _) ?_)
   intro w7 db7 hg7
   have bx8:=bx7.grown hg7 (fun e=>by have:=Option.some.inj e;omega)
   have rx8:=rx7.grown hg7 (fun e=>by have:=Option.some.inj e;omega)
   have mb8:=mb7.grown hg7 (fun e=>by have:=Option.some.inj e;omega)
   have sb8:=sb7.grown hg7 (fun e=>by have:=Option.some.inj e;omega)
   have hbr8:=hbr7.grown hg7 hbr7.size (fun k hk=>by cases hk;omega)
   have p1:=ak q1 hfr (by decide) hg7
   have p3:=ak q3 hfr (by decide) hg7
   have p4:=q4.keep hfr (by decide) (by decide) hg7
   have p6:=q6.keep hfr (by decide) (by decide) hg7
   have hcb:w7.cell? ⟨w.heap.size,2,none⟩=some (.int .i64 b):=by rw[bx8.cell];rfl
   clear bx7 rx7 mb7 sb7 q1 q3 q4 q6 hg7 hfr hbr7
   by_cases hk:0≤b∧b≤80
   ·have e3:Ga b=0:=if_pos hk
    rw[e3]
    go_wp2_with fail
    refine (LH b _).mono ?_
    rintro r w8 ⟨rfl,hb8⟩
    have e4:Nr b=b:=if_neg (by omega)
    have e5:newE b=0:=if_neg (by omega)
    rw[e4,e5]
    have hba:Below w8.heap.size w8 (w8.alloc (.cells #[.slice none 0 0,.int .i64 0] 37)):=(Below.refl _ _).alloc (Nat.le_refl _) _
    have hfr:=aD.new w8 #[.slice none 0 0,.int .i64 0] 37
    have hl8:=hb8.size
    have hw7:=db7.lt
    have hw8:=(db7.ext hb8).lt
    have rx9:=(rx8.ext hb8).ext hba
    have mb9:=(mb8.ext hb8).ext hba
    have sb9:=(sb8.ext hb8).ext hba
    have db9:=(db7.ext hb8).ext hba
    have q1:=(p1.below hb8).below hba
    have q3:=(p3.below hb8).below hba
    have q4:fQ _ _ _ _ _:=⟨(p4.b.below hb8).below hba,(p4.q.below hb8).below hba⟩
    have q6:fQ _ _ _ _ _:=⟨(p6.b.below hb8).below hba,(p6.q.below hb8).below hba⟩
    have hbr9:=ag (ag hbr8 hb8) hba
    clear bx8 rx8 mb8 sb8 db7 p1 p3 p4 p6 hb8 hba hbr8 hcb
    go_wp2_with (refine ax rfl _ _ _ rfl w8.heap.size #[.slice none 0 0,.int .i64 b] rfl rfl _ _ hfr rfl store_size (gP _ _ _ _) ?_)
    intro w9 tb9 hg9
    have rx10:=rx9.grown hg9 (fun e=>by have:=Option.some.inj e;omega)
    have mb10:=mb9.grown hg9 (fun e=>by have:=Option.some.inj e;omega)
    have sb10:=sb9.grown hg9 (fun e=>by have:=Option.some.inj e;omega)
    have db10:=db9.grown hg9 (fun e=>by have:=Option.some.inj e;omega)
    have hbr10:=hbr9.grown hg9 hbr9.size (fun k hk=>by cases hk;omega)
    have p1:=ak q1 hfr (by decide) hg9
    have p3:=ak q3 hfr (by decide) hg9
    have p4:=q4.keep hfr (by decide) (by decide) hg9
    have p6:=q6.keep hfr (by decide) (by decide) hg9
    clear rx9 mb9 sb9 db9 q1 q3 q4 q6 hg9 hfr hbr9
    obtain⟨M,hM⟩:∃M:MH,Hid (M=⟨a1,c1,⟨(rY f).fs,0⟩,a3,c3,wJ s,ab,cb,aq,cq,lW s,db,dcb,dq,dcq,lW b,none,0,[],b,none,0,[],some ⟨w9.heap.size,0,none⟩,1,[newP]⟩):=⟨_,Lib.hid rfl⟩
    have hbs:Below w9.heap.size w9 (w9.alloc (.cells (tu newP) 55)):=(Below.refl _ _).alloc (Nat.le_refl _) _
    have rx11:=rx10.ext hbs
    have q1:=p1.below hbs
    have q3:=p3.below hbs
    have q4:fQ _ _ _ _ _:=⟨p4.b.below hbs,p4.q.below hbs⟩
    have q6:fQ _ _ _ _ _:=⟨p6.b.below hbs,p6.q.below hbs⟩
    have q7:=KC w9 w.heap.size hbr10.size
    have hbr11:=ag hbr10 hbs
    have hw9:=tb9.lt
    have hw0:=rx10.lt
    clear p1 p3 p4 p6 hbs
    go_wp2_with (first | (refine ay _ _ rfl w1.heap.size 0 rfl rfl _ mb10.rd _ underlying28 rfl mem_size ?_) | (refine ay _ _ rfl w4.heap.size 0 rfl rfl _ sb10.rd _ underlying34 rfl disk_size ?_) | (refine ay _ _ rfl w6.heap.size 0 rfl rfl _ db10.rd _ underlying34 rfl disk_size ?_) | (refine ay _ _ rfl w8.heap.size 0 rfl rfl _ tb9.rd _ underlying37 rfl store_size ?_) | (refine ax rfl _ _ _ rfl (w.heap.size+1) #[.slice a1 (rY f).fs.length c1,.int .i64 0,.slice a3 (wJ s).length c3,.slice ab (lW s).blocks.length cb,.slice aq (lW s).queue.length cq,.slice db (lW b).blocks.length dcb,.slice dq (lW b).queue.length dcq,.slice none 0 0,.int .i64 b,.slice none 0 0,.slice (some ⟨w9.heap.size,0,none⟩) 1 1] rfl rfl _ _ rx11 rfl mach_size (by simp[Value.oneCell']) ?_))
    intro we hre hge
    have hre' : aD we (w.heap.size+1) (dC M) 41:=by rw[hM.out];exact hre
    have hbre:=hbr11.grown hge hbr11.size (fun k hk=>by cases hk;omega)
    have hown:oL we w.heap.size M:=by
     rw[hM.out]
     refine⟨(ak q1 rx11 (by decide) hge).mono hl0,(ak q3 rx11 (by decide) hge).mono (by omega),?_,?_,⟨Own.nil _ _ _ _,fun i p hp=>by simp at hp,fun i j p q _ hp=>by simp at hp⟩,Own.nil _ _ _ _,ak q7 rx11 (by decide) hge,fun p hp => ?_,hb64⟩
     ·exact (q4.keep rx11 (by decide) (by decide) hge).mono (by omega)
     ·exact (q6.keep rx11 (by decide) (by decide) hge).mono (by omega)
     ·rw[List.mem_singleton.1 hp]
      exact⟨Own.nil _ _ _ _,ww _ _⟩
    clear hre rx10 rx11 mb10 sb10 db10 tb9 q1 q3 q4 q6 q7 hge hbr10 hbr11
    go_wp2
    refine bodyPost_ret (v:=.tuple #[.agg (dC M),.int .i64 0]) (dK results59 _ _ (w.heap.size+1) _ _ _ _ rfl rfl hre' underlying41 rfl mach_size) rfl ?_
    refine⟨M,by rw[show uY f s b=0 from if_pos ⟨hf,hs,hk⟩],hown,?_,hbre⟩
    rw[show lI f s b=_ from if_pos ⟨hf,hs,hk⟩,hM.out]
    unfold MH.ma
    rw[show rY f=⟨List.replicate f.toNat frZ,0⟩ from if_pos hf]
    rfl
   ·have e3:Ga b=4:=if_neg hk
    rw[e3]
    go_wp2_with (refine ax rfl _ _ _ rfl (w.heap.size+1) (dC noH) rfl rfl _ _ rx8 rfl mach_size (fe noH) ?_)
    intro we hre hge
    have hbre:=hbr8.grown hge hbr8.size (fun k hk=>by cases hk;omega)
    go_wp2
    refine bodyPost_ret (v:=.tuple #[.agg (dC noH),.int .i64 4]) (dK results59 _ _ (w.heap.size+1) _ _ _ _ rfl rfl hre underlying41 rfl mach_size) rfl ?_
    exact⟨noH,by rw[show uY f s b=4 from if_neg (fun h=>hk h.2.2)],BF _ _,by rw[show lI f s b=zMa from if_neg (fun h=>hk h.2.2)];rfl,hbre⟩
  ·have e2:AO s=4:=if_neg hs
   rw[e2]
   go_wp2_with (refine ax rfl _ _ _ rfl (w.heap.size+1) (dC noH) rfl rfl _ _ rx4 rfl mach_size (fe noH) ?_)
   intro we hre hge
   have hbre:=hbr4.grown hge hbr4.size (fun k hk=>by cases hk;omega)
   go_wp2
   refine bodyPost_ret (v:=.tuple #[.agg (dC noH),.int .i64 4]) (dK results59 _ _ (w.heap.size+1) _ _ _ _ rfl rfl hre underlying41 rfl mach_size) rfl ?_
   exact⟨noH,by rw[show uY f s b=4 from if_neg (fun h=>hs h.2.1)],BF _ _,by rw[show lI f s b=zMa from if_neg (fun h=>hs h.2.1)];rfl,hbre⟩
 ·have e1:Gm f=4:=if_neg hf
  rw[e1]
  go_wp2_with (refine ax rfl _ _ _ rfl (w.heap.size+1) (dC noH) rfl rfl _ _ rx3 rfl mach_size (fe noH) ?_)
  intro we hre hge
  have hbre:=hbr3.grown hge hbr3.size (fun k hk=>by cases hk;omega)
  go_wp2
  refine bodyPost_ret (v:=.tuple #[.agg (dC noH),.int .i64 4]) (dK results59 _ _ (w.heap.size+1) _ _ _ _ rfl rfl hre underlying41 rfl mach_size) rfl ?_
  exact⟨noH,by rw[show uY f s b=4 from if_neg (fun h=>hf h.1)],BF _ _,by rw[show lI f s b=zMa from if_neg (fun h=>hf h.1)];rfl,hbre⟩
end Go.Proofs.YtjkkoeijlhfneaaGreat