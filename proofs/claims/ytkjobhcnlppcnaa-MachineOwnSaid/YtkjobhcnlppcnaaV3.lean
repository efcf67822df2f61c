import Derived.Test.YtkjobhcnlppcnaaV2
import Derived.BigQuiet
import Derived.Deep.OwnRows
import Derived.Deep.DeepCutAuto
import Derived.BigRegion
set_option linter.unusedSimpArgs false
set_option linter.unusedVariables false
set_option maxHeartbeats 4000000
set_option maxRecDepth 100000
namespace Go.Proofs.Ytkjobhcnlppcnaa
open Go.RowKit Go.Maps Pw
theorem xY {m:Ma} {f:Nat} (h:f<m.m.fs.length):m.m.fs[f]?=some (dL m f):=by
 unfold dL;rw[List.getD_eq_getElem?_getD,List.getElem?_eq_getElem h];rfl
theorem Ip {m:Ma} {f:Nat} (h:f<m.m.fs.length):dL m f∈m.m.fs:=List.mem_of_getElem? (xY h)
theorem Ci {m:Ma} {f:Nat} {x:Fr} (h:f<m.m.fs.length) (g:Nat):dL (setFr m f x) g=if g=f then x else dL m g:=by
 unfold dL setFr
 simp only
 rw[List.getD_eq_getElem?_getD,List.getElem?_set]
 by_cases e:g=f
 ·subst e;rw[if_pos rfl,if_pos h,if_pos rfl];rfl
 ·rw[if_neg (fun e'=>e e'.symm),if_neg e,List.getD_eq_getElem?_getD]
theorem wO {m:Ma} {f:Nat} {x:Fr}:(setFr m f x).m.fs.length=m.m.fs.length:=List.length_set
theorem Pt.frE {m:Ma} (h:Pt m) {f:Nat} (hf:f<m.m.fs.length):dh (dL m f)=0:=((eB _).1 h.fr).2.1 _ (Ip hf)
theorem Pt.setFr {m:Ma} (h:Pt m) {f:Nat} {x:Fr} (hx:dh x=0):Pt (setFr m f x):={ h with fr:=Gv h.fr hx }
def kL (m:Ma) (s:Nat):Int:=m.sl.getD s 0
def setSl (m:Ma) (s:Nat) (n:Int):Ma:={ m with sl:=m.sl.set s n }
theorem JB {m:Ma} {f:Nat} (h:f<m.sl.length):m.sl[f]?=some (kL m f):=by
 unfold kL;rw[List.getD_eq_getElem?_getD,List.getElem?_eq_getElem h];rfl
theorem Ib {m:Ma} {f:Nat} {x:Int} (h:f<m.sl.length) (g:Nat):kL (setSl m f x) g=if g=f then x else kL m g:=by
 unfold kL setSl
 simp only
 rw[List.getD_eq_getElem?_getD,List.getElem?_set]
 by_cases e:g=f
 ·subst e;rw[if_pos rfl,if_pos h,if_pos rfl];rfl
 ·rw[if_neg (fun e'=>e e'.symm),if_neg e,List.getD_eq_getElem?_getD]
theorem Pt.slB {m:Ma} (h:Pt m) (s:Nat):0≤kL m s∧kL m s≤1000:=by
 rcases Nat.lt_or_ge s m.sl.length with hs|hs
 ·have:=uS h.sl _ (List.mem_of_getElem? (JB hs))
  unfold kF at this
  simp only[Bool.or_eq_false_iff,decide_eq_false_iff_not] at this
  omega
 ·unfold kL;rw[List.getD_eq_getElem?_getD,List.getElem?_eq_none hs];simp
theorem Pt.setSl {m:Ma} (h:Pt m) {s:Nat} {n:Int} (h0:0≤n) (h1:n≤1000):Pt (setSl m s n):=
 { h with sl:=Am s n h.sl h0 h1,swl:=h.swl.trans List.length_set.symm }
theorem mX {k:Kp} {p:Nat} {n:Int} {x:En} (h:Pt k.m) (hn:0≤n∧n<64) (hx:cO x=0) :
  kZ (dM k.m p).tb n x=0∧EJ k p n x=⟨setTb k.m p (mE (dM k.m p).tb n x),k.e⟩∧Pt (setTb k.m p (mE (dM k.m p).tb n x)):=by
 have h0:=Cz (h.tbN p) hn hx
 refine⟨h0,?_,h.setTb (uK h0)⟩
 unfold EJ
 rw[if_pos h0]
theorem qD {m:Ma} {p:Nat} {n:Int} {x:En} (hp:p<m.sp.length) (h:kZ (dM m p).tb n x=0) (q:Nat) (j:Int):ent (setTb m p (mE (dM m p).tb n x)) q j=if q=p∧j=n then x else ent m q j:=by
 rw[Dz hp]
 by_cases e:q=p
 ·subst e
  rw[if_pos rfl,FU h]
  by_cases e2:j=n
  ·rw[if_pos e2,if_pos ⟨rfl,e2⟩]
  ·rw[if_neg e2,if_neg (fun h'=>e2 h'.2)];rfl
 ·rw[if_neg e,if_neg (fun h'=>e h'.1)]
structure kW (m m' : Ma):Prop where
 len:m'.sp.length=m.sp.length
 lv:∀p,(dM m' p).lv=(dM m p).lv
 ar:∀p,(dM m' p).ar=(dM m p).ar
theorem kW.refl (m:Ma):kW m m:=⟨rfl,fun _=>rfl,fun _=>rfl⟩
theorem kW.trans {a b c:Ma} (h:kW a b) (k:kW b c):kW a c:=⟨k.len.trans h.len,fun p=>(k.lv p).trans (h.lv p),fun p=>(k.ar p).trans (h.ar p)⟩
theorem kW.of {m m' : Ma} (h:m'.sp=m.sp):kW m m':=⟨by rw[h],fun p=>by unfold dM;rw[h],fun p=>by unfold dM;rw[h]⟩
theorem kW.setTb {m:Ma} {p:Nat} {t:Tb}:kW m (setTb m p t):=by
 by_cases hp:p<m.sp.length
 ·refine⟨rG,fun q => ?_,fun q => ?_⟩
  all_goals
   rw[wD hp]
   by_cases e:q=p
   ·rw[if_pos e,e]
   ·rw[if_neg e]
 ·have:Go.Proofs.Ytkjobhcnlppcnaa.setTb m p t=m:=by
   unfold Go.Proofs.Ytkjobhcnlppcnaa.setTb
   rw[List.set_eq_of_length_le (by omega)]
  rw[this];exact .refl _
theorem jR {t:Tb} {n:Int}:n∈aI t↔(0≤n∧n<64)∧(bS t n).k≠0:=by
 unfold aI fw
 simp only[List.mem_map,List.mem_filter,List.mem_range,oh,decide_eq_true_eq]
 constructor
 ·rintro⟨j,⟨h1,h2⟩,rfl⟩
  exact⟨by omega,h2⟩
 ·rintro⟨h1,h2⟩
  refine⟨n.toNat,⟨by omega,?_⟩,by omega⟩
  rw[Int.toNat_of_nonneg h1.1];exact h2
theorem zq {t:Tb} {kd i:Int} (hk:kd≠0):(BQ t kd i).length=(bu t).countP (kN kd i):=by
 unfold BQ aI fw bu
 rw[←List.countP_eq_length_filter,List.countP_map,List.countP_filter,List.countP_map]
 congr 1
 funext n
 simp only[Function.comp_apply,xG,kN,oh,Bool.not_or]
 rw[Bool.eq_iff_iff]
 simp only[Bool.and_eq_true,Bool.not_eq_true',decide_eq_false_iff_not,Classical.not_not,decide_eq_true_eq]
 constructor
 ·rintro⟨h,_⟩;exact h
 ·intro h;exact⟨h,by rw[h.1];exact hk⟩
def GN (s:St) (f i:Int):Prop:=(0≤f∧f<s.fs.length)∧0≤i∧i<(fileAt s f).b.length
theorem jf {s:St} {F:Nat} {x:Fi} (h:s.fs[F]?=some x):fileAt s F=x:=by
 unfold fileAt
 rw[if_pos (by omega),Int.toNat_natCast,List.getD_eq_getElem?_getD,h];rfl
theorem uV {s:St} {f:Int} (h:0≤f∧f<s.fs.length):s.fs[f.toNat]?=some (fileAt s f):=by
 unfold fileAt
 rw[if_pos h.1,List.getD_eq_getElem?_getD,List.getElem?_eq_getElem (by omega)];rfl
theorem tK {s:St} (h:aO s=0) {f:Int} (hf:0≤f∧f<s.fs.length):uZ s.count (fileAt s f):=(kK.1 h).2.1 _ (List.mem_of_getElem? (uV hf))
theorem xz {s:St} (h:aO s=0) {f i:Int} (hi:GN s f i):f<5∧i<12∧i*8<(fileAt s f).n∧(fileAt s f).n≤96:=by
 have h1:=(kK.1 h).1
 obtain⟨a1,a2,a3,_⟩:=tK h hi.1
 have h2:=hi.1;have h3:=hi.2
 rw[a3] at h3
 unfold bV at h3
 split at h3<;>omega
def kC (m:Ma) (p:Nat) (n:Int):Option Pg:=onA (dM m p).ar n
def vE (a b:Cc):Prop:=a.f<b.f∨a.f=b.f∧a.i<b.i
def Ir (x:Fr) (g:Pg) (w:Bool):Prop:=
 (0≤x.f→x.f=g.fi∧x.i=g.pg)∧(g.sh=true→0≤x.f)∧(w=true→g.wr=true)∧(w=true→0≤x.f→g.sh=true)∧(w=true→x.f<0→x.r≤1)
structure Ex (m:Ma) (g:Pg) (e:En):Prop where
 sw:e.k=2→e.n<m.sl.length∧g.sh=false
 lt:e.k=1→e.n<m.m.fs.length
 fr:e.k=1→Ir (dL m e.n.toNat) g e.w
structure xQ (m:Ma):Prop where
 file:∀c∈m.ca,GN m.st c.f c.i
 lt:∀c∈m.ca,0≤c.k∧c.k<m.m.fs.length
 fr:∀c∈m.ca,1≤(dL m c.k.toNat).r∧(dL m c.k.toNat).f=c.f∧(dL m c.k.toNat).i=c.i
 srt:m.ca.Pairwise vE
def xW (m:Ma) (i:Int):Nat:=m.ca.countP fun c=>decide (c.k=i)
structure Rt (m:Ma):Prop where
 pt:Pt m
 trim:(∀b:Int,0≤b→b<m.dk.blocks.length→b∈je m.st∨m.dk.blocks.getD b.toNat zPg=zPg)∧∀q∈m.dk.queue,q.1∈je m.st
 live:∀p,(dM m p).lv=false→(dM m p).ar=[]∧∀n,(ent m p n).k=0
 ca:xQ m
 en:∀p n,(ent m p n).k≠0→∃g,kC m p n=some g∧Ex m g (ent m p n)
 cf:∀i:Nat,i<m.m.fs.length→(dL m i).r=xW m i+dw m 1 i
 fc:∀i:Nat,i<m.m.fs.length→0≤(dL m i).f→∃c∈m.ca,c.k=i
 cs:∀s:Nat,s<m.sl.length→kL m s=dw m 2 s
structure Co (m:Ma):Prop where
 tail:∀c∈m.ca,dE (dL m c.k.toNat).p ((fileAt m.st c.f).n-c.i*8)=(dL m c.k.toNat).p
 clean:∀c∈m.ca,(dL m c.k.toNat).d=false→(dL m c.k.toNat).p=jW m c.f c.i
 anon:∀i:Nat,i<m.m.fs.length→(dL m i).d=true→0≤(dL m i).f
def mf (m:Ma) (p:Nat) (n:Int):Page × Bool × Int:=
 match kC m p n with
 | none=>(zPg,false,5)
 | some g=>
  if (ent m p n).k=1 then ((mO m (ent m p n).n).p,decide ((mO m (ent m p n).n).f<0),0)
  else if (ent m p n).k=2 then (iN m.sw (ent m p n).n,true,fB m.sw (ent m p n).n)
  else if g.fi<0 then (zPg,false,0)
  else if (m.st.fs.length:Int)≤g.fi∨za m.st g.fi g.pg=true then (zPg,false,9)
  else (dz m g.fi g.pg,false,0)
theorem Iq (a:Cc):¬vE a a:=fun h=>by unfold vE at h;omega
theorem srt_eq:∀ {l:List Cc},l.Pairwise vE→∀ {a b:Cc},a∈l→b∈l→a.f=b.f→a.i=b.i→a=b
 | [],_,_,_,h,_,_,_=>by cases h
 | c::l,hs,a,b,ha,hb,e1,e2=>by
  obtain⟨h1,h2⟩:=List.pairwise_cons.1 hs
  rcases List.mem_cons.1 ha with e|ha<;>rcases List.mem_cons.1 hb with e' | hb
  ·rw[e,e']
  ·have:=h1 b hb;rw[e] at e1 e2;unfold vE at this;omega
  ·have:=h1 a ha;rw[e'] at e1 e2;unfold vE at this;omega
  ·exact srt_eq h2 ha hb e1 e2
theorem xQ.uniq {m:Ma} (h:xQ m) {a b:Cc} (ha:a∈m.ca) (hb:b∈m.ca) (hk:a.k=b.k):a=b:=by
 have h1:=h.fr a ha
 have h2:=h.fr b hb
 rw[hk] at h1
 exact srt_eq h.srt ha hb (h1.2.1.symm.trans h2.2.1) (h1.2.2.symm.trans h2.2.2)
theorem wQ {k:Int}:∀ {l:List Cc},l.Pairwise vE→(∀a∈l,∀b∈l,a.k=b.k→a=b)→l.countP (fun c=>decide (c.k=k))≤1
 | [],_,_=>Nat.zero_le _
 | c::l,hs,hu=>by
  obtain⟨h1,h2⟩:=List.pairwise_cons.1 hs
  have ih:=wQ (k:=k) h2 (fun a ha b hb=>hu a (List.mem_cons_of_mem _ ha) b (List.mem_cons_of_mem _ hb))
  rw[List.countP_cons]
  by_cases hc:c.k=k
  ·rw[if_pos (by simpa using hc)]
   have:l.countP (fun c=>decide (c.k=k))=0:=by
    rw[List.countP_eq_zero]
    intro d hd hdk
    have e:=hu c List.mem_cons_self d (List.mem_cons_of_mem _ hd) (by rw[hc];exact (of_decide_eq_true hdk).symm)
    have:=h1 d hd
    rw[←e] at this
    exact Iq _ this
   omega
  ·rw[if_neg (by simpa using hc)];omega
theorem xB {f i:Int} {c:Cc}:DZ f i c=true↔f<c.f∨c.f=f∧i≤c.i:=by unfold DZ;simp
theorem EI (l:List Cc) (f i:Int):zV l f i≤l.length:=by
 unfold zV
 cases h:l.findIdx? (DZ f i) with
 | none=>exact Nat.le_refl _
 | some k=>exact Nat.le_of_lt (List.findIdx?_eq_some_iff_getElem.1 h).1
theorem tZ {m:Ma} (k:Nat):mO m (k:Int)=dL m k:=rfl
theorem CB {l:List Ar} {n:Int} (h:0≤fD l n):onA l n=some (fF (l.getD (fD l n).toNat zAr) n)∧iV n (l.getD (fD l n).toNat zAr)=true:=by
 induction l with
 | nil=>unfold fD idx at h;simp at h
 | cons a r ih=>
  rw[bq]
  by_cases ha:iV n a=true
  ·have h0:fD (a::r) n=0:=by unfold fD idx;rw[List.findIdx?_cons,if_pos ha];rfl
   rw[h0,if_pos ha]
   exact⟨rfl,ha⟩
  ·have h1:fD (a::r) n=if 0≤fD r n then fD r n+1 else -1:=by
    unfold fD idx
    rw[List.findIdx?_cons,if_neg ha]
    cases r.findIdx? (iV n) with
    | none=>rfl
    | some k=>
     simp only[Option.map_some]
     rw[if_pos (by omega)]
     rfl
   rw[if_neg ha]
   by_cases h2:0≤fD r n
   ·rw[h1,if_pos h2]
    have e:(fD r n+1).toNat=(fD r n).toNat+1:=by omega
    rw[e]
    exact ih h2
   ·rw[h1,if_neg h2] at h
    omega
theorem pg_in:∀ {l:List Ar} {lo:Int} {n:Int} {g:Pg},srtF lo l→onA l n=some g→0≤g.pg∧g.pg<12∧-1≤g.fi∧g.fi<5∧(g.fi<0→g.sh=false∧g.pg=0)∧0≤n∧n<64
 | [],_,_,_,_,h=>by cases h
 | a::r,lo,n,g,hs,h=>by
  rw[bq] at h
  by_cases ha:iV n a=true
  ·rw[if_pos ha] at h
   have h1:=bH.1 ha
   have h2:=hs.1
   unfold aH at h2
   split at h2
   ·cases h2
   ·split at h2
    ·cases h2
    ·rename_i h3 h4
     cases h
     unfold fF
     simp only
     have h5:¬(a.fi<0∧(a.ba≠0∨a.sh=true)):=fun h=>h4 (.inl h)
     have h6:¬(0≤a.fi∧12-(a.en-a.fr)<a.ba):=fun h=>h4 (.inr h)
     refine⟨?_,?_,by omega,by omega,fun h7=>⟨?_,if_neg (by omega)⟩,by omega,by omega⟩
     ·split<;>omega
     ·split<;>omega
     ·cases hsh:a.sh with
      | false=>rfl
      | true=>exact absurd ⟨h7,.inr hsh⟩ h5
  ·rw[if_neg ha] at h
   exact pg_in hs.2.2 h
theorem Pt.pg {m:Ma} (h:Pt m) {p:Nat} {n:Int} {g:Pg} (hg:kC m p n=some g):0≤g.pg∧g.pg<12∧-1≤g.fi∧g.fi<5∧(g.fi<0→g.sh=false∧g.pg=0)∧0≤n∧n<64:=
 pg_in (fZ (eD.1 (h.arN p)).2) hg
theorem GU {s:St} (h:aO s=0) {f i:Int} (hf:0≤f) (hi:0≤i) (hn:¬((s.fs.length:Int)≤f∨za s f i=true)):GN s f i:=by
 have h1:¬(s.fs.length:Int)≤f:=fun h=>hn (.inl h)
 have h2:¬za s f i=true:=fun h=>hn (.inr h)
 have h3:=(tK h (f:=f) (by omega)).2.2.1
 refine⟨by omega,hi,?_⟩
 rw[h3]
 unfold za at h2
 simpa using h2
theorem AZ {s:St} (h:aO s=0) {f i:Int} (hi:GN s f i):¬((s.fs.length:Int)≤f∨za s f i=true):=by
 have h3:=(tK h hi.1).2.2.1
 have h4:=hi.1;have h5:=hi.2
 rintro (h|h)
 ·omega
 ·unfold za at h
  have:=of_decide_eq_true h
  omega
theorem nK (n:Int):bS zTb n=zEn:=by
 by_cases h:0≤n∧n<64
 ·obtain⟨q,r,hq,hr,rfl,_,_⟩:=pX h
  exact qP hq hr (by simp[zTb])
 ·exact kr (by omega)
theorem ng {m:Ma} {p:Nat} {n:Int} (h:(ent m p n).k≠0):p<m.sp.length∧0≤n∧n<64:=by
 refine⟨?_,?_⟩
 ·rcases Nat.lt_or_ge p m.sp.length with hp|hp
  ·exact hp
  ·refine absurd ?_ h
   unfold ent
   rw[jL hp,show zSp.tb=zTb from rfl,nK];rfl
 ·by_cases hn:n<0∨64≤n
  ·exact absurd (by rw[CE p hn];rfl) h
  ·omega
theorem GR {α:Type} {q:α→Bool} {l:List α} (h:0≤idx q l):∃k:Nat,idx q l=k∧∃hk:k<l.length,q l[k]=true:=by
 unfold idx at h ⊢
 cases hf:l.findIdx? q with
 | none=>rw[hf] at h;simp at h
 | some k=>
  obtain⟨hk,hq,_⟩:=List.findIdx?_eq_some_iff_getElem.1 hf
  exact⟨k,rfl,hk,hq⟩
theorem Cn (p:Page) (n:Int):dE (dE p n) n=dE p n:=by
 apply Vector.ext
 intro i hi
 simp only[dE,Vector.getElem_ofFn]
 split<;>rfl
theorem EQ (n:Int):dE zPg n=zPg:=by
 apply Vector.ext
 intro i hi
 simp only[dE,Vector.getElem_ofFn]
 have hz:zPg[i]=0:=by
  match i,hi with
  | 0,_=>rfl
  | 1,_=>rfl
  | 2,_=>rfl
  | 3,_=>rfl
  | 4,_=>rfl
  | 5,_=>rfl
  | 6,_=>rfl
  | 7,_=>rfl
  | n+8,h=>omega
 split<;>rw[hz]
theorem CQ (m:Ma) (f i:Int):dE (jW m f i) ((fileAt m.st f).n-i*8)=jW m f i:=by
 unfold jW
 split
 ·exact Cn _ _
 ·exact EQ _
theorem uw {f i k:Int}:∀ {l:List Cc},l.Pairwise vE→(∀c∈l,¬(c.f=f∧c.i=i))→(l.insertIdx (zV l f i) ⟨f,i,k⟩).Pairwise vE
 | [],_,_=>by simp[zV]
 | c::l,hs,hno=>by
  obtain⟨h1,h2⟩:=List.pairwise_cons.1 hs
  have hnc:=hno c List.mem_cons_self
  by_cases hg:DZ f i c=true
  ·have:zV (c::l) f i=0:=by unfold zV;rw[List.findIdx?_cons,if_pos hg];rfl
   rw[this,List.insertIdx_zero]
   have hlt:vE ⟨f,i,k⟩ c:=by
    have:=xB.1 hg
    unfold vE
    simp only
    omega
   refine List.pairwise_cons.2 ⟨fun d hd => ?_,hs⟩
   rcases List.mem_cons.1 hd with rfl|hd
   ·exact hlt
   ·have:=h1 d hd
    unfold vE at this hlt ⊢
    omega
  ·have:zV (c::l) f i=zV l f i+1:=by
    unfold zV
    rw[List.findIdx?_cons,if_neg hg]
    cases l.findIdx? (DZ f i)<;>rfl
   rw[this,List.insertIdx_succ_cons]
   refine List.pairwise_cons.2 ⟨fun d hd => ?_,uw h2 fun d hd=>hno d (List.mem_cons_of_mem _ hd)⟩
   rcases (List.mem_insertIdx (EI l f i)).1 hd with rfl|hd
   ·have:¬(f<c.f∨c.f=f∧i≤c.i):=fun h=>hg (xB.2 h)
    unfold vE
    simp only
    omega
   ·exact h1 d hd
theorem oz {α:Type} (q:α→Bool) (x:α):∀(l:List α) (j:Nat),j≤l.length→(l.insertIdx j x).countP q=l.countP q+rA (q x)
 | l,0,_=>by rw[List.insertIdx_zero,List.countP_cons];rfl
 | [],j+1,h=>by simp at h
 | a::l,j+1,h=>by
  rw[List.insertIdx_succ_cons,List.countP_cons,List.countP_cons,oz q x l j (by simpa using h)]
  omega
theorem firstE_zero:∀ {l:List Int},firstE l=0↔∀x∈l,x=0
 | []=>by simp[firstE]
 | x::l=>by
  unfold firstE
  by_cases hx:x=0
  ·rw[if_pos hx,firstE_zero]
   constructor
   ·intro h y hy
    rcases List.mem_cons.1 hy with e|hy
    ·rw[e,hx]
    ·exact h y hy
   ·exact fun h y hy=>h y (List.mem_cons_of_mem _ hy)
  ·rw[if_neg hx]
   exact⟨fun h=>absurd h hx,fun h=>absurd (h x List.mem_cons_self) hx⟩
theorem iw {p:Prop} [Decidable p] {a b:Int} (ha:a≠0):(if p then a else b)=0↔¬p∧b=0:=by
 by_cases h:p
 ·rw[if_pos h];exact⟨fun h'=>absurd h' ha,fun h'=>absurd h h'.1⟩
 ·rw[if_neg h];exact⟨fun h'=>⟨h,h'⟩,fun h'=>h'.2⟩
theorem gU {a b:Int}:(if a≠0 then a else b)=0↔a=0∧b=0:=by
 by_cases h:a=0
 ·rw[if_neg (fun h'=>h' h)];exact⟨fun h'=>⟨h,h'⟩,fun h'=>h'.2⟩
 ·rw[if_pos h];exact⟨fun h'=>absurd h' h,fun h'=>absurd h'.1 h⟩
theorem rV {s:Sp}:fe s=0↔(aR s.ar).1=0∧bB s.tb=0∧(s.lv=false→s.ar=[]∧∀n,(bS s.tb n).k=0):=by
 unfold fe
 rw[gU,gU,iw (by decide)]
 refine and_congr_right fun _=>and_congr_right fun _ => ?_
 constructor
 ·rintro⟨h,_⟩ hl
  have h1:s.ar.length+(aI s.tb).length=0:=by
   rcases Nat.eq_zero_or_pos (s.ar.length+(aI s.tb).length) with h0|h0
   ·exact h0
   ·exact absurd ⟨hl,h0⟩ h
  refine⟨List.eq_nil_of_length_eq_zero (by omega),fun n => ?_⟩
  by_cases hn:0≤n∧n<64
  ·have h2:aI s.tb=[]:=List.eq_nil_of_length_eq_zero (by omega)
   by_cases hk:(bS s.tb n).k=0
   ·exact hk
   ·have:=jR.2 ⟨hn,hk⟩
    rw[h2] at this;cases this
  ·rw[kr (by omega)];rfl
 ·refine fun h=>⟨?_,rfl⟩
  rintro⟨hl,h0⟩
  obtain⟨h1,h2⟩:=h hl
  have h3:aI s.tb=[]:=by
   rw[List.eq_nil_iff_forall_not_mem]
   intro n hn
   exact (jR.1 hn).2 (h2 n)
  rw[h1,h3] at h0
  exact absurd h0 (by simp)
theorem vZ {m:Ma}:trimB m=true↔(∀b:Int,0≤b→b<m.dk.blocks.length→b∈je m.st∨m.dk.blocks.getD b.toNat zPg=zPg)∧∀q∈m.dk.queue,q.1∈je m.st:=by
 unfold trimB
 rw[Bool.and_eq_true,List.all_eq_true,List.all_eq_true]
 refine and_congr ⟨fun h b h0 hb => ?_,fun h b hb => ?_⟩ ⟨fun h q hq=>by simpa using h q hq,fun h q hq=>by simpa using h q hq⟩
 ·have:=h b.toNat (List.mem_range.2 (by omega))
  rw[Int.toNat_of_nonneg h0] at this
  simpa using this
 ·have:=h (b:Int) (by omega) (by have:=List.mem_range.1 hb;omega)
  simpa using this
theorem mY {m:Ma}:dO m=0↔Pt m∧trimB m=true∧∀s∈m.sp,s.lv=false→s.ar=[]∧∀n,(bS s.tb n).k=0:=by
 unfold dO
 rw[gU,gU,gU,gU,gU,iw (by decide),iw (by decide),firstE_zero]
 constructor
 ·rintro⟨h1,h2,h3,h4,h5,h6,h7,h8⟩
  have h9:∀s∈m.sp,_:=fun s hs=>rV.1 (h8 _ (List.mem_map_of_mem hs))
  refine⟨⟨h1,h2,h3,h4,h5,?_,?_,by omega,fun s hs=>(h9 s hs).1,fun s hs=>(h9 s hs).2.1⟩,?_,fun s hs=>(h9 s hs).2.2⟩
  ·exact Classical.byContradiction fun h=>h6 (.inl h)
  ·exact Classical.byContradiction fun h=>h6 (.inr (.inl h))
  ·cases h:trimB m with
   | true=>rfl
   | false=>exact absurd (.inr (.inr h)) h6
 ·rintro⟨h,ht,hl⟩
  refine⟨h.fr,h.sl,h.sw,h.dk,h.st,?_,by have:=h.spl;omega,?_⟩
  ·rintro (h1|h1|h1)
   ·exact h1 h.swl
   ·exact h1 h.dkl
   ·rw[ht] at h1;cases h1
  ·intro x hx
   obtain⟨s,hs,rfl⟩:=List.mem_map.1 hx
   exact rV.2 ⟨h.ar s hs,h.tb s hs,hl s hs⟩
theorem mR {m:Ma} {p:Option Cc} {c:Cc}:kV m p c=0↔(GN m.st c.f c.i∧0≤c.k∧c.k<m.m.fs.length)∧(1≤(dL m c.k.toNat).r∧(dL m c.k.toNat).f=c.f∧(dL m c.k.toNat).i=c.i)∧∀q,p=some q→vE q c:=by
 have hfr:mO m c.k=dL m c.k.toNat:=rfl
 unfold kV
 rw[iw (by decide),iw (by decide),hfr]
 refine and_congr ⟨fun h=>⟨⟨by omega,by omega⟩,by omega⟩,fun h=>by obtain⟨⟨_,_⟩,_⟩:=h;omega⟩ (and_congr ⟨fun h=>by omega,fun h=>by omega⟩ ?_)
 cases p with
 | none=>simp
 | some q=>
  simp only[Option.some.injEq,forall_eq']
  rw[iw (by decide)]
  unfold vE
  omega
theorem xR {l:List Cc} (h:∀k (hk:k+1<l.length),vE (l[k]'(by omega)) l[k+1]):l.Pairwise vE:=by
 induction l with
 | nil=>exact List.Pairwise.nil
 | cons a l ih=>
  have ih:=ih fun k hk=>h (k+1) (by simpa using hk)
  refine List.pairwise_cons.2 ⟨?_,ih⟩
  cases l with
  | nil=>simp
  | cons b l=>
   have h0:vE a b:=h 0 (by simp)
   intro c hc
   rcases List.mem_cons.1 hc with e|hc
   ·rw[e];exact h0
   ·have h1:=(List.pairwise_cons.1 ih).1 c hc
    unfold vE at *; omega
theorem qK {m:Ma}:cachedE m=0↔xQ m:=by
 unfold cachedE
 rw[firstE_zero]
 constructor
 ·intro h
  have h1:∀k (hk:k<m.ca.length),kV m (ou m.ca k) m.ca[k]=0:=fun k hk=>by
   have:=h _ (List.mem_map_of_mem (List.mem_range.2 hk))
   rw[List.getD_eq_getElem?_getD,List.getElem?_eq_getElem hk] at this
   exact this
  have h2:∀c∈m.ca,(GN m.st c.f c.i∧0≤c.k∧c.k<m.m.fs.length)∧(1≤(dL m c.k.toNat).r∧(dL m c.k.toNat).f=c.f∧(dL m c.k.toNat).i=c.i):=fun c hc=>by
   obtain⟨k,hk,rfl⟩:=List.mem_iff_getElem.1 hc
   have:=mR.1 (h1 k hk)
   exact⟨this.1,this.2.1⟩
  refine⟨fun c hc=>(h2 c hc).1.1,fun c hc=>(h2 c hc).1.2,fun c hc=>(h2 c hc).2,xR fun k hk => ?_⟩
  refine (mR.1 (h1 (k+1) hk)).2.2 _ ?_
  unfold ou
  rw[if_neg (by omega),Nat.add_sub_cancel,List.getElem?_eq_getElem]
 ·intro h x hx
  obtain⟨k,hk,rfl⟩:=List.mem_map.1 hx
  have hk:=List.mem_range.1 hk
  rw[List.getD_eq_getElem?_getD,List.getElem?_eq_getElem hk,Option.getD_some]
  have hm:m.ca[k]∈m.ca:=List.getElem_mem hk
  refine mR.2 ⟨⟨h.file _ hm,h.lt _ hm⟩,h.fr _ hm,fun q hq => ?_⟩
  unfold ou at hq
  split at hq
  ·cases hq
  ·rw[List.getElem?_eq_getElem (by omega)] at hq
   rw[←Option.some.inj hq]
   exact List.pairwise_iff_getElem.1 h.srt _ _ (by omega) hk (by omega)
theorem uJ {m:Ma} (hp:Pt m) {p:Nat} {n:Int} (hk:(ent m p n).k≠0):aX m (dM m p) n=0↔∃g,kC m p n=some g∧Ex m g (ent m p n):=by
 have hE:=(bF _).1 (rf hp p n)
 unfold aX
 rw[iw (by decide)]
 have hon:=yc (dM m p).ar n
 constructor
 ·rintro⟨h1,h2⟩
  obtain⟨h3,h4⟩:=CB (l:=(dM m p).ar) (n:=n) (by omega)
  refine⟨_,h3,?_⟩
  generalize (dM m p).ar.getD (fD (dM m p).ar n).toNat zAr=a at *
  have he:bS (dM m p).tb n=ent m p n:=rfl
  rw[he] at h2
  generalize ent m p n=e at *
  simp only at h2
  by_cases h5:e.k=2
  ·rw[if_pos h5,iw (by decide)] at h2
   refine⟨fun _=>⟨by omega,?_⟩,fun h=>by omega,fun h=>by omega⟩
   show a.sh=false
   cases hs:a.sh with
   | false=>rfl
   | true=>exact absurd (.inr hs) h2.1
  ·rw[if_neg h5,iw (by decide),iw (by decide),iw (by decide)] at h2
   have hfr:mO m e.n=dL m e.n.toNat:=rfl
   rw[hfr] at h2
   obtain⟨h6,h7,h8,_⟩:=h2
   refine⟨fun h=>absurd h h5,fun _=>by omega,fun _ => ?_⟩
   show Ir (dL m e.n.toNat) (fF a n) e.w
   generalize dL m e.n.toNat=f at *
   have hof:0≤f.f→(0≤a.fi∧f.f=a.fi∧f.i=a.ba+n-a.fr):=fun h0=>by
    refine Classical.byContradiction fun hn=>h7 (.inl ⟨h0,?_⟩)
    rw[Bool.eq_false_iff]
    simp only[ne_eq,Bool.and_eq_true,decide_eq_true_eq]
    exact fun h=>hn ⟨h.1.1,h.1.2,h.2⟩
   refine⟨fun h0 => ?_,fun hs => ?_,fun hw => ?_,fun hw h0 => ?_,fun hw h0 => ?_⟩
   ·obtain⟨k1,k2,k3⟩:=hof h0
    refine⟨k2,?_⟩
    unfold fF
    simp only
    rw[if_pos k1];exact k3
   ·refine Classical.byContradiction fun hn=>h7 (.inr (.inl ⟨hs,?_⟩))
    rw[Bool.eq_false_iff]
    simp only[ne_eq,Bool.and_eq_true,decide_eq_true_eq]
    exact fun h=>by omega
   ·show a.wr=true
    cases hs:a.wr with
    | true=>rfl
    | false=>exact absurd (.inr (.inr (.inr ⟨hw,hs⟩))) h7
   ·show a.sh=true
    cases hs:a.sh with
    | true=>rfl
    | false=>
     refine absurd (.inr (.inr (.inl ⟨hs,?_,hw⟩))) h7
     have:=hof h0
     simp only[Bool.and_eq_true,decide_eq_true_eq]
     exact⟨⟨this.1,this.2.1⟩,this.2.2⟩
   ·exact Classical.byContradiction fun hn=>h8 ⟨h0,hw,by omega⟩
 ·rintro⟨g,hg,hf⟩
  have hne:onA (dM m p).ar n≠none:=by
   have:kC m p n=onA (dM m p).ar n:=rfl
   rw[←this,hg];exact fun h=>by cases h
  have h1:=hon.2 hne
  refine⟨by omega,?_⟩
  obtain⟨h3,h4⟩:=CB (l:=(dM m p).ar) (n:=n) h1
  have hg' : g=fF ((dM m p).ar.getD (fD (dM m p).ar n).toNat zAr) n:=by
   have:kC m p n=onA (dM m p).ar n:=rfl
   rw[this,h3] at hg
   exact (Option.some.inj hg).symm
  subst hg'
  generalize (dM m p).ar.getD (fD (dM m p).ar n).toNat zAr=a at *
  have he:bS (dM m p).tb n=ent m p n:=rfl
  rw[he]
  generalize ent m p n=e at *
  simp only
  by_cases h5:e.k=2
  ·obtain⟨k1,k2⟩:=hf.sw h5
   have k2:a.sh=false:=k2
   rw[if_pos h5,iw (by decide)]
   refine⟨?_,rfl⟩
   rintro (h|h)
   ·omega
   ·rw[k2] at h;cases h
  ·have h1:e.k=1:=by omega
   have k1:=hf.lt h1
   obtain⟨f1,f2,f3,f4,f5⟩:=hf.fr h1
   have hfr:mO m e.n=dL m e.n.toNat:=rfl
   rw[if_neg h5,iw (by decide),iw (by decide),iw (by decide),hfr]
   generalize dL m e.n.toNat=f at *
   have f2:a.sh=true→0≤f.f:=f2
   have f3:e.w=true→a.wr=true:=f3
   have f4:e.w=true→0≤f.f→a.sh=true:=f4
   have hof:0≤f.f→(decide (0≤a.fi)&&decide (f.f=a.fi)&&decide (f.i=a.ba+n-a.fr))=true:=fun h0=>by
    obtain⟨k2,k3⟩:=f1 h0
    have k2:f.f=a.fi:=k2
    unfold fF at k3
    simp only at k3
    rw[if_pos (by omega)] at k3
    simp only[Bool.and_eq_true,decide_eq_true_eq]
    exact⟨⟨by omega,k2⟩,k3⟩
   have hof' : (decide (0≤a.fi)&&decide (f.f=a.fi)&&decide (f.i=a.ba+n-a.fr))=true→0≤f.f:=fun h=>by
    simp only[Bool.and_eq_true,decide_eq_true_eq] at h
    omega
   generalize (decide (0≤a.fi)&&decide (f.f=a.fi)&&decide (f.i=a.ba+n-a.fr))=of at *
   refine⟨by omega,?_,?_,rfl⟩
   ·rintro (⟨k2,k3⟩|⟨k2,k3⟩|⟨k2,k3,k4⟩|⟨k2,k3⟩)
    ·rw[hof k2] at k3;cases k3
    ·rw[hof (f2 k2)] at k3;cases k3
    ·rw[f4 k4 (hof' k3)] at k2;cases k2
    ·rw[f3 k2] at k3;cases k3
   ·rintro⟨k2,k3,k4⟩
    have:=f5 k3 k2
    omega
theorem qz {m:Ma} (hp:Pt m):gP m=0↔∀p n,(ent m p n).k≠0→∃g,kC m p n=some g∧Ex m g (ent m p n):=by
 unfold gP
 rw[firstE_zero]
 constructor
 ·intro h p n hk
  have hp' : p<m.sp.length:=Classical.byContradiction fun hn=>hk (by unfold ent;rw[jL (by omega)];have:bS zSp.tb n=zEn:=nK n;rw[this];rfl)
  have hn:0≤n∧n<64:=Classical.byContradiction fun hn=>hk (by rw[CE p (by omega)];rfl)
  refine (uJ hp hk).1 (h _ (List.mem_flatMap.2 ⟨dM m p,tN hp',List.mem_map_of_mem (jR.2 ⟨hn,hk⟩)⟩))
 ·intro h x hx
  obtain⟨s,hs,hx⟩:=List.mem_flatMap.1 hx
  obtain⟨n,hn,rfl⟩:=List.mem_map.1 hx
  obtain⟨p,hp',rfl⟩:=BZ hs
  have hk:=(jR.1 hn).2
  exact (uJ hp hk).2 (h p n hk)
theorem EH (t:Tb) (i:Int):cnt (iP t (aI t)) i=(bu t).countP (kN 1 i):=by
 rw[←zq (show (1:Int)≠0 by decide)]
 unfold cnt iP BQ xG
 rw[List.countP_map,List.countP_filter,←List.countP_eq_length_filter]
 congr 1
 funext n
 simp only[Function.comp_apply,Bool.not_or]
 rw[Bool.eq_iff_iff]
 simp only[Bool.and_eq_true,Bool.not_eq_true',decide_eq_false_iff_not,Classical.not_not,decide_eq_true_eq]
 exact and_comm
theorem GA {t:Tb} (h:bB t=0) (i:Int):cnt (swapT t (aI t)) i=(bu t).countP (kN 2 i):=by
 rw[←zq (show (2:Int)≠0 by decide)]
 unfold cnt swapT BQ xG
 rw[List.countP_map,List.countP_filter,←List.countP_eq_length_filter]
 refine List.countP_congr fun n hn => ?_
 have hE:=(bF _).1 (jr h n)
 have hk:=(jR.1 hn).2
 simp only[Function.comp_apply,Bool.not_or,Bool.and_eq_true,Bool.not_eq_true',decide_eq_false_iff_not,Classical.not_not,decide_eq_true_eq]
 constructor
 ·rintro⟨h1,h2⟩;exact⟨by omega,h1⟩
 ·rintro⟨h1,h2⟩;exact⟨h2,by omega⟩
theorem qy (l r:List Int) (i:Int):cnt (l++r) i=cnt l i+cnt r i:=by unfold cnt;rw[List.countP_append]
theorem uo {α:Type} (g:α→List Int) (i:Int):∀l:List α,cnt (l.flatMap g) i=(l.map fun s=>cnt (g s) i).sum
 | []=>rfl
 | a::l=>by rw[List.flatMap_cons,qy,uo g i l,List.map_cons,List.sum_cons]
theorem yM (m:Ma) (i:Int):cnt (ky m) i=xW m i+dw m 1 i:=by
 unfold ky
 rw[qy,uo]
 congr 1
 ·unfold cnt xW
  rw[List.countP_map];rfl
 ·unfold dw
  congr 1
  exact List.map_congr_left fun s _=>EH s.tb i
theorem wI {m:Ma} (hp:Pt m) (i:Int):cnt (jy m) i=dw m 2 i:=by
 unfold jy dw
 rw[uo]
 congr 1
 exact List.map_congr_left fun s hs=>GA (hp.tb s hs) i
theorem uU {m:Ma} (hp:Pt m):countB m=true↔(∀i:Nat,i<m.m.fs.length→(dL m i).r=xW m i+dw m 1 i)∧(∀i:Nat,i<m.m.fs.length→0≤(dL m i).f→∃c∈m.ca,c.k=i)∧∀s:Nat,s<m.sl.length→kL m s=dw m 2 s:=by
 unfold countB
 rw[Bool.and_eq_true,List.all_eq_true,decide_eq_true_eq]
 constructor
 ·rintro⟨h1,h2⟩
  have h1:∀i:Nat,i<m.m.fs.length→_:=fun i hi=>h1 i (List.mem_range.2 hi)
  simp only[Bool.and_eq_true,decide_eq_true_eq,Bool.or_eq_true,List.any_eq_true,yM,tZ] at h1
  refine⟨fun i hi=>by rw[(h1 i hi).1];omega,fun i hi h0 => ?_,fun s hs => ?_⟩
  ·rcases (h1 i hi).2 with h|⟨c,hc,hk⟩
   ·have h:(dL m i).f<0:=of_decide_eq_true h
    omega
   ·exact⟨c,hc,hk⟩
  ·have:kL m s=(fI m.sl.length (jy m)).getD s 0:=by rw[←h2];rfl
   rw[this]
   unfold fI
   rw[List.getD_eq_getElem?_getD,List.getElem?_map,List.getElem?_range hs]
   show ((cnt (jy m) s:Nat):Int)=_
   rw[wI hp]
 ·rintro⟨h1,h2,h3⟩
  refine⟨fun i hi => ?_,?_⟩
  ·have hi:=List.mem_range.1 hi
   simp only[Bool.and_eq_true,decide_eq_true_eq,Bool.or_eq_true,List.any_eq_true,yM,tZ]
   refine⟨by rw[h1 i hi];omega,?_⟩
   by_cases h0:0≤(dL m i).f
   ·obtain⟨c,hc,hk⟩:=h2 i hi h0
    exact .inr ⟨c,hc,hk⟩
   ·exact .inl (decide_eq_true (show (dL m i).f<0 by omega))
  ·apply List.ext_getElem
   ·unfold fI;simp
   ·intro s k1 k2
    have:=h3 s k1
    have e2:(fI m.sl.length (jy m))[s]'k2=((cnt (jy m) (s:Int):Nat):Int):=by simp[fI]
    rw[e2,wI hp,←this]
    unfold kL
    rw[List.getD_eq_getElem?_getD,List.getElem?_eq_getElem k1];rfl
theorem Ga {m:Ma}:dV m=0↔Rt m:=by
 unfold dV
 rw[gU,gU,gU,mY,qK]
 constructor
 ·rintro⟨⟨hp,ht,hl⟩,hc,he,hb⟩
  have hb:countB m=true:=by
   cases h:countB m with
   | true=>rfl
   | false=>rw[h] at hb;exact absurd hb (by decide)
  obtain⟨b1,b2,b3⟩:=(uU hp).1 hb
  refine⟨hp,vZ.1 ht,fun p hp' => ?_,hc,(qz hp).1 he,b1,b2,b3⟩
  rcases Nat.lt_or_ge p m.sp.length with h|h
  ·exact hl _ (tN h) hp'
  ·rw[jL h]
   refine⟨rfl,fun n => ?_⟩
   unfold ent
   rw[jL h]
   have:bS zSp.tb n=zEn:=nK n
   rw[this];rfl
 ·intro h
  refine⟨⟨h.pt,vZ.2 h.trim,fun s hs hlv => ?_⟩,h.ca,(qz h.pt).2 h.en,?_⟩
  ·obtain⟨p,hp,rfl⟩:=BZ hs
   exact h.live p hlv
  ·rw[if_pos ((uU h.pt).2 ⟨h.cf,h.fc,h.cs⟩)]
def xS (m:Ma):List Int:=[cZ m.m,dU m.sl,bn m.sw,bn m.dk,aO m.st]
theorem DD {m:Ma} {k:Nat} (hk:k<5) (h:∀j,j<k→(xS m).getD j 0=0) (hne:(xS m).getD k 0≠0):dO m=(xS m).getD k 0:=by
 unfold dO
 have e0:0<k→cZ m.m=0:=fun h'=>h 0 h'
 have e1:1<k→dU m.sl=0:=fun h'=>h 1 h'
 have e2:2<k→bn m.sw=0:=fun h'=>h 2 h'
 have e3:3<k→bn m.dk=0:=fun h'=>h 3 h'
 match k,hk with
 | 0,_=>rw[if_pos (show cZ m.m≠0 from hne)];rfl
 | 1,_=>rw[if_neg (by rw[e0 (by omega)];simp),if_pos (show dU m.sl≠0 from hne)];rfl
 | 2,_=>rw[if_neg (by rw[e0 (by omega)];simp),if_neg (by rw[e1 (by omega)];simp),if_pos (show bn m.sw≠0 from hne)];rfl
 | 3,_=>rw[if_neg (by rw[e0 (by omega)];simp),if_neg (by rw[e1 (by omega)];simp),if_neg (by rw[e2 (by omega)];simp),if_pos (show bn m.dk≠0 from hne)];rfl
 | 4,_=>rw[if_neg (by rw[e0 (by omega)];simp),if_neg (by rw[e1 (by omega)];simp),if_neg (by rw[e2 (by omega)];simp),if_neg (by rw[e3 (by omega)];simp),if_pos (show aO m.st≠0 from hne)];rfl
 | n+5,h'=>omega
def Km (B:Nat) (H:MH):ig:=⟨fun v w => ∃g,v = .slice (some ⟨g,0,none⟩) 5 5∧aC w g #[.int .i64 (cZ H.m),.int .i64 (dU H.sl),.int .i64 (bn H.sw),.int .i64 (bn H.dk),.int .i64 (aO (dP H.fi H.ct))] 43,fun _ _ _ hb ⟨g,h1,h2⟩=>⟨g,h1,h2.ext hb⟩⟩
theorem DW (H:MH) (b:Nat) (w:World) (hbk:aC w b (bP H) 40) (h:sV w H) :
  Calls Try.prog 35 #[.pointer (some ⟨b,0,none⟩)] w fun r w'=>r = .returned (.int .i64 (dO H.ma))∧Below w.heap.size w w':=by
 go_enter Try.func35,Try.ntmps35
 go_upto_region 1 with (fail)
 refine aF 28 [_,_,_,_,.v (.int .i64 (cZ H.m)),_,_,_,_,.v (.int .i64 (dU H.sl)),_,_,_,_,.v (.int .i64 (bn H.sw)),_,_,_,_,.v (.int .i64 (bn H.dk)),_,_,_,_,.v (.int .i64 (aO (dP H.fi H.ct))),.r 25 ((Km w.heap.size H)),.v (.int .i64 5),_] (Gk rfl (Gk rfl (Gf b 0 rfl rfl (Gr (.agg #[.slice H.af H.m.fs.length H.cf,.int .i64 H.m.hand]) (fun ρ y W hb hKn=>(bM rfl (az rfl hKn) (bK (hbk.ext hb) 0 2) Try.underlying27 rfl (by kernel_rfl))) rfl rfl (all_cons ?_ (Gk rfl (Gk rfl (Gf b 2 rfl rfl (Gl hbk rfl rfl rfl rfl rfl (all_cons ?_ (Gk rfl (Gk rfl (Gf b 3 rfl rfl (Gr (.agg #[.slice H.wb H.sw.blocks.length H.cwb,.slice H.wq H.sw.queue.length H.cwq]) (fun ρ y W hb hKn=>(bM rfl (az rfl hKn) (bK (hbk.ext hb) 3 2) Try.underlying33 rfl (by kernel_rfl))) rfl rfl (all_cons ?_ (Gk rfl (Gk rfl (Gf b 5 rfl rfl (Gr (.agg #[.slice H.db H.dk.blocks.length H.cdb,.slice H.dq H.dk.queue.length H.cdq]) (fun ρ y W hb hKn=>(bM rfl (az rfl hKn) (bK (hbk.ext hb) 5 2) Try.underlying33 rfl (by kernel_rfl))) rfl rfl (all_cons ?_ (Gk rfl (Gk rfl (Gf b 7 rfl rfl (Gr (.agg #[.slice H.ai H.fi.length H.ci,.int .i64 H.ct]) (fun ρ y W hb hKn=>(bM rfl (az rfl hKn) (bK (hbk.ext hb) 7 2) Try.underlying36 rfl (by kernel_rfl))) rfl rfl (all_cons ?_ (all_cons ?_ (all_cons ?_ (Gr (.int .i64 0) (fun ρ y W hb hKn=>(run_move (.inl rfl) (az rfl hKn))) rfl rfl (all_nil))))))))))))))))))))))))))))) (fun _=>rfl) rfl ?_
 ·intro ρ y W hw hn hb hd;have E12:=hw 12 3 rfl;have h3:y 3=_:=hd 3 rfl
  have EF:∀f,ρ (.func f) = .func (.func f) #[] #[]:=fun f=>hn (.func f) trivial
  refine aP _ _ (ah rfl) (aN rfl (EF _) Try.func77 (by kernel_rfl) (by kernel_rfl) (by simp only[List.map_toArray,List.map_cons,List.map_nil,E12,h3,EF];rfl)) ?_
  refine (Bu H.m _ _ W (h.below hb).fr).mono ?_
  rintro r w1 ⟨rfl,hb1⟩
  exact⟨_,rfl,hb1,rfl⟩
 ·intro ρ y W hw hn hb hd;have E17:=hw 17 8 rfl;have h8:y 8=_:=hd 8 rfl
  have EF:∀f,ρ (.func f) = .func (.func f) #[] #[]:=fun f=>hn (.func f) trivial
  refine aP _ _ (ah rfl) (aN rfl (EF _) Try.func78 (by kernel_rfl) (by kernel_rfl) (by simp only[List.map_toArray,List.map_cons,List.map_nil,E17,h8,EF];rfl)) ?_
  refine (zk H.sl _ _ W (h.below hb).sl.rd (by have:=h.sl.le;have:=h.sl.mx;unfold maxLen at this;omega)).mono ?_
  rintro r w1 ⟨rfl,rfl⟩
  exact⟨_,rfl,Below.refl _ _,rfl⟩
 ·intro ρ y W hw hn hb hd;have E22:=hw 22 13 rfl;have h13:y 13=_:=hd 13 rfl
  have EF:∀f,ρ (.func f) = .func (.func f) #[] #[]:=fun f=>hn (.func f) trivial
  refine aP _ _ (ah rfl) (aN rfl (EF _) Try.func79 (by kernel_rfl) (by kernel_rfl) (by simp only[List.map_toArray,List.map_cons,List.map_nil,E22,h13,EF];rfl)) ?_
  refine (vk H.sw _ _ _ _ W (h.below hb).sw).mono ?_
  rintro r w1 ⟨rfl,hb1⟩
  exact⟨_,rfl,hb1,rfl⟩
 ·intro ρ y W hw hn hb hd;have E27:=hw 27 18 rfl;have h18:y 18=_:=hd 18 rfl
  have EF:∀f,ρ (.func f) = .func (.func f) #[] #[]:=fun f=>hn (.func f) trivial
  refine aP _ _ (ah rfl) (aN rfl (EF _) Try.func79 (by kernel_rfl) (by kernel_rfl) (by simp only[List.map_toArray,List.map_cons,List.map_nil,E27,h18,EF];rfl)) ?_
  refine (vk H.dk _ _ _ _ W (h.below hb).dk).mono ?_
  rintro r w1 ⟨rfl,hb1⟩
  exact⟨_,rfl,hb1,rfl⟩
 ·intro ρ y W hw hn hb hd;have E32:=hw 32 23 rfl;have h23:y 23=_:=hd 23 rfl
  have EF:∀f,ρ (.func f) = .func (.func f) #[] #[]:=fun f=>hn (.func f) trivial
  refine aP _ _ (ah rfl) (aN rfl (EF _) Try.func80 (by kernel_rfl) (by kernel_rfl) (by simp only[List.map_toArray,List.map_cons,List.map_nil,E32,h23,EF];rfl)) ?_
  refine (Ay H.fi H.ct _ _ W (h.below hb).st h.c64).mono ?_
  rintro r w1 ⟨rfl,hb1⟩
  exact⟨_,rfl,hb1,rfl⟩
 ·intro ρ y W hw hn hb hd;have E13:=hw 13 4 rfl;have h4:y 4=_:=hd 4 rfl;have E18:=hw 18 9 rfl;have h9:y 9=_:=hd 9 rfl;have E23:=hw 23 14 rfl;have h14:y 14=_:=hd 14 rfl;have E28:=hw 28 19 rfl
  have h19:y 19=_:=hd 19 rfl
  have E33:=hw 33 24 rfl
  have h24:y 24=_:=hd 24 rfl
  refine jb (.slice (some ⟨W.heap.size,0,none⟩) 5 5) (ah rfl) (by simp[execOp,go_sem,E13.trans h4,E18.trans h9,E23.trans h14,E28.trans h19,E33.trans h24]) ((Below.refl _ _).alloc (Nat.le_refl _) (.cells #[.int .i64 (cZ H.m),.int .i64 (dU H.sl),.int .i64 (bn H.sw),.int .i64 (bn H.dk),.int .i64 (aO (dP H.fi H.ct))] 43)) ?_
  exact⟨_,rfl,aC.new _ _ _⟩
 ·intro ρ y W hw hn hb hd;have E34:=hw 34 25 rfl;have h25:=hd 25 rfl
  obtain⟨ge,hge,_⟩:=h25
  refine aj (.int .i64 5) (ah rfl) (by simp[execOp,go_sem,E34,hge]) rfl
 intro y W1 hbW1 hRW1
 have hy25:((Km w.heap.size H)).r (y 25) W1:=hRW1 25 (by decide)
 clear hRW1
 obtain⟨ge,hge,hxe⟩:=hy25
 have hbelW:Below w.heap.size w W1:=hbW1
 rw[hge]
 clear hge hbW1
 go_upto_region 2 with (fail)
 go_loopw [36] (fun i wr => ∃(k:Nat),k≤5∧i = .int .i64 k∧Below w.heap.size w wr∧aC wr ge #[.int .i64 (cZ H.m),.int .i64 (dU H.sl),.int .i64 (bn H.sw),.int .i64 (bn H.dk),.int .i64 (aO (dP H.fi H.ct))] 43∧Hid (∀j,j<k→(xS H.ma).getD j 0=0)) (fun i _=>5-(intOf i).toNat)
 case atStart=>exact⟨0,Nat.zero_le _,rfl,hbelW,hxe,Lib.hid fun j hj=>absurd hj (Nat.not_lt_zero _)⟩
 case round=>
  clear hbelW hxe
  obtain⟨k,hk,rfl,hbr,hx,hz⟩:=hrel
  by_cases hkl:k<5
  ·have hki:(k:Int)<5:=by omega
   have hck:wr.cell? ⟨ge,k,none⟩=some (.int .i64 ((xS H.ma).getD k 0)):=by
    rw[hx.cell]
    match k,hkl with
    | 0,_=>rfl
    | 1,_=>rfl
    | 2,_=>rfl
    | 3,_=>rfl
    | 4,_=>rfl
    | n+5,h'=>omega
   by_cases h0:(xS H.ma).getD k 0=0
   ·have hz2:Hid (∀j,j<k+1→(xS H.ma).getD j 0=0):=Lib.hid fun j hj=>by
     by_cases e:j=k
     ·rw[e];exact h0
     ·exact hz.out j (by omega)
    rw[h0] at hck
    clear h0 hz
    go_wp2
    go_roundw
    case rel=>exact⟨k+1,by omega,by go_num,hbr,hx,hz2⟩
    case measure=>simp[intOf];omega
   ·have hq:Hid (dO H.ma=(xS H.ma).getD k 0):=Lib.hid (DD hkl hz.out h0)
    generalize (xS H.ma).getD k 0=E at *
    clear hz
    go_wp2
    go_ret
    rw[hq.out]
    exact⟨rfl,hbr⟩
  ·have hki:¬(k:Int)<5:=by omega
   have hz0:=hz.out 0 (by omega)
   have hz1:=hz.out 1 (by omega)
   have hz2:=hz.out 2 (by omega)
   have hz3:=hz.out 3 (by omega)
   have hz4:=hz.out 4 (by omega)
   have e0:=Lib.hid (show cZ H.m=0 from hz0)
   have e1:=Lib.hid (show dU H.sl=0 from hz1)
   have e2:=Lib.hid (show bn H.sw=0 from hz2)
   have e3:=Lib.hid (show bn H.dk=0 from hz3)
   have e4:=Lib.hid (show aO (dP H.fi H.ct)=0 from hz4)
   clear hz0 hz1 hz2 hz3 hz4 hz hx
   have hbkr:=hbk.ext hbr
   have hr:=h.below hbr
   have hP:Hid (dO H.ma=if H.sw.blocks.length≠H.sl.length∨(H.dk.blocks.length:Int)≠H.ct∨trimB H.ma=false then 7 else if 4<H.sp.length then 4 else firstE (H.ma.sp.map fe)):=Lib.hid (by
    unfold dO
    rw[if_neg (by rw[show cZ H.ma.m=0 from e0.out];simp),if_neg (by rw[show dU H.ma.sl=0 from e1.out];simp),if_neg (by rw[show bn H.ma.sw=0 from e2.out];simp),if_neg (by rw[show bn H.ma.dk=0 from e3.out];simp),if_neg (by rw[show aO H.ma.st=0 from e4.out];simp),Dv]
    rfl)
   go_upto_region 7 with (fail)
   have hcb:=hbkr.cell
   unfold bP at hcb
   by_cases c1:H.sw.blocks.length=H.sl.length
   ·by_cases c2:(H.dk.blocks.length:Int)=H.ct
    ·have c1i:(H.sw.blocks.length:Int)=(H.sl.length:Int):=by omega
     have hp2:Hid (dO H.ma=if trimB H.ma=false then 7 else if 4<H.sp.length then 4 else firstE (H.ma.sp.map fe)):=Lib.hid (by
      rw[hP.out]
      by_cases ct:trimB H.ma=false
      ·rw[if_pos (.inr (.inr ct)),if_pos ct]
      ·rw[if_neg (by rintro (h | h | h);exact h c1;exact h c2;exact ct h),if_neg ct])
     refine aF 31 [_,_,_,_,_,_,_,_,_,_,_,_,_,_,_,_,_,_,_,_,_,_,_,_,_,_,_,_,.v (.bool (trimB H.ma)),_,.v (.bool (!trimB H.ma))] (Gk rfl (Gk rfl (Gf b 3 rfl rfl (Gf b 3 rfl rfl (Gl hbkr rfl rfl rfl rfl rfl (Gn rfl rfl rfl rfl (Gk rfl (Gk rfl (Gf b 2 rfl rfl (Gl hbkr rfl rfl rfl rfl rfl (Gn rfl rfl rfl rfl (Gb (.bool false) (by simp[go_sem,c1]) rfl rfl rfl rfl rfl (Gk rfl (Gk rfl (Gk rfl (Gf b 5 rfl rfl (Gf b 5 rfl rfl (Gl hbkr rfl rfl rfl rfl rfl (Gn rfl rfl rfl rfl (Gk rfl (Gk rfl (Gf b 7 rfl rfl (Gf b 8 rfl rfl (Gl hbkr rfl rfl rfl rfl rfl (Gb (.bool false) (by simp[go_sem,c2]) rfl rfl rfl rfl rfl (Gk rfl (Gk rfl (Gk rfl (all_cons ?_ (Gr (.bool (!trimB H.ma)) (fun ρ y W hb hKn=>sO rfl (az rfl hKn)) rfl rfl (Gk rfl (all_nil)))))))))))))))))))))))))))))))) (fun _=>rfl) rfl ?_
     ·intro ρ y W hw hn hb hd;have E71:=hw 71 27 rfl;have h27:y 27=_:=hd 27 rfl
      have EF:∀f,ρ (.func f) = .func (.func f) #[] #[]:=fun f=>hn (.func f) trivial
      refine aP _ _ (aL 26 70 false false rfl rfl ((hw 70 26 rfl).trans (hd 26 rfl))) (aN rfl (EF _) Try.func81 (by kernel_rfl) (by kernel_rfl) (by simp only[List.map_toArray,List.map_cons,List.map_nil,E71,h27,EF];rfl)) ?_
      refine (zt H b W (hbkr.ext hb) (hr.below hb) e4.out e3.out).mono ?_
      rintro r w1 ⟨rfl,hb1⟩
      exact⟨_,rfl,hb1,rfl⟩
     intro y W2 hbW2 _
     have hbr2:=ag hbr hbW2
     clear hbW2
     cases ht:trimB H.ma with
     | false=>
      have hp7:Hid (dO H.ma=7):=Lib.hid (by rw[hp2.out,if_pos ht])
      clear c1 c2 c1i
      go_wp2
      go_ret
      rw[hp7.out]
      exact⟨rfl,hbr2⟩
     | true=>
      have hp3:Hid (dO H.ma=if 4<H.sp.length then 4 else firstE (H.ma.sp.map fe)):=Lib.hid (by rw[hp2.out,if_neg (by rw[ht];decide)])
      clear c1 c2 c1i hcb ht
      have hr2:=h.below hbr2
      have hcb:=(hbk.ext hbr2).cell
      unfold bP at hcb
      clear hr hbkr hP hp2 hbr
      by_cases c4:4<H.sp.length
      ·have hp4:Hid (dO H.ma=4):=Lib.hid (by rw[hp3.out,if_pos c4])
       have c4i:(4:Int)<(H.sp.length:Int):=by omega
       clear c4
       go_wp2
       go_ret
       rw[hp4.out]
       exact⟨rfl,hbr2⟩
      ·have hp4:Hid (dO H.ma=firstE (H.ma.sp.map fe)):=Lib.hid (by rw[hp3.out,if_neg c4])
       have c4i:¬(4:Int)<(H.sp.length:Int):=by omega
       have hlen:Hid ((H.ma.sp.map fe).length=H.sp.length):=Lib.hid (by rw[List.length_map,Dv])
       clear c4 hp3
       go_upto_region 12 with (fail)
       clear hcb hr2
       go_loopw [86] (fun i wr => ∃(k:Nat),k≤H.sp.length∧i = .int .i64 k∧Below w.heap.size w wr∧Hid (∀j (hj:j<(H.ma.sp.map fe).length),j<k→(H.ma.sp.map fe)[j]=0)) (fun i _=>H.sp.length-(intOf i).toNat)
       case atStart=>exact⟨0,Nat.zero_le _,rfl,hbr2,Lib.hid fun j _ hj=>absurd hj (Nat.not_lt_zero _)⟩
       case round=>
        clear hbr2
        obtain⟨k,hk,rfl,hbr,hz⟩:=hrel
        by_cases hkl:k<H.sp.length
        ·obtain⟨bs,os,P,hap,hP,hrd⟩:=jY (h.below hbr).sp.rd k hkl
         have hgood:=jm (h.below hbr) hP
         have hki:(k:Int)<(H.sp.length:Int):=by omega
         have hkm:k<(H.ma.sp.map fe).length:=by rw[hlen.out];exact hkl
         have hE:Hid ((H.ma.sp.map fe)[k]=fe P.sp):=Lib.hid (by
          rw[List.getElem_map]
          congr 1
          have:H.ma.sp[k]?=some P.sp:=by show (H.sp.map PS.sp)[k]?=_;rw[List.getElem?_map,hP];rfl
          exact (List.getElem?_eq_some_iff.1 this).2)
         have hfin:Hid (fe P.sp≠0→dO H.ma=fe P.sp):=Lib.hid fun hne=>by
          rw[hp4.out,nU k hkm hz.out (by rw[hE.out];exact hne),hE.out]
         have hnx:Hid (fe P.sp=0→∀j (hj:j<(H.ma.sp.map fe).length),j<k+1→(H.ma.sp.map fe)[j]=0):=Lib.hid fun h0 j hj hjk=>by
          by_cases e:j=k
          ·subst e;rw[hE.out];exact h0
          ·exact hz.out j hj (by omega)
         have hsp:Hid (fe P.sp=if (aR P.ar).1≠0 then (aR P.ar).1 else if bB P.tb≠0 then bB P.tb else if P.lv=false∧0<P.ar.length+(aI P.tb).length then 7 else 0):=Lib.hid rfl
         rw[hap]
         clear hz hP hE hkm
         have hps1:(lu P).all (·.oneCell')=true:=by
          rw[←Array.all_toList,List.all_eq_true];exact hgood.one
         go_wp2_with (first | (refine ax _ _ rfl bs (os+k*10) rfl rfl _ hrd _ Try.underlying65 rfl space_size ?_) | (refine aD rfl _ _ _ rfl (lu P) rfl rfl rfl space_size hps1 ?_))
         intro w3 hb3 fx3
         have hbr3:=ag hbr hb3
         have hg3:=hgood.below hb3
         have hgl:=fx3.lt
         generalize wr.heap.size=gs at fx3 hgl ⊢
         clear hbr hb3 hrd hgood hps1
         have hcf:=fx3.cell
         unfold lu at hcf
         have hA:=hg3.ars
         go_wp2_with fail
         refine (BB P.ar P.aa P.ac _ hA.rd (by have:=hA.le;have:=hA.mx;unfold maxLen at this;omega)).mono ?_
         rintro r w3' ⟨rfl,hb3'⟩
         have fx3':=fx3.ext hb3'
         have hbr3':=ag hbr3 hb3'
         have hg3':=hg3.below hb3'
         clear hcf fx3 hbr3 hg3 hb3' hA
         go_wp2_with (refine aD rfl _ _ _ rfl (zD (aR P.ar)) rfl rfl rfl fau_size (by simp[zD,Value.oneCell']) ?_)
         intro w4 hb4 ux
         have fx:=fx3'.ext hb4
         have hbr4:=ag hbr3' hb4
         have hg4:=hg3'.below hb4
         clear fx3' hbr3' hg3' hb4
         have hcu:=ux.cell
         unfold zD at hcu
         by_cases c5:(aR P.ar).1=0
         ·rw[if_neg (by rw[c5];simp)] at hsp
          rw[c5] at hcu
          have hal:=(jO c5).1
          have hpl:(aI P.tb).length≤64:=oK P.tb 64
          have hws:IntKind.i64.wrap ((P.ar.length:Int)+((aI P.tb).length:Int))=(P.ar.length:Int)+((aI P.tb).length:Int):=IntWalk.i64_in _ (by omega)
          go_upto_region 17 with (fail)
          clear hcu ux c5
          go_wp2_with (refine ax _ _ rfl gs 2 rfl rfl _ (bK fx 2 8) _ Try.underlying63 tab_agg tab_size ?_)
          refine (Bj P.tb (jG P.ts) _ hg4.tb).mono ?_
          rintro r w6 ⟨rfl,hb6⟩
          replace fx:=fx.ext hb6
          replace hbr4:=ag hbr4 hb6
          replace hg4:=hg4.below hb6
          clear hb6
          by_cases c6:bB P.tb=0
          ·rw[if_neg (by rw[c6];simp)] at hsp
           rw[c6]
           go_upto_region 20 with (fail)
           cases hlv:P.lv with
           | true=>
            have hs0:Hid (fe P.sp=0):=Lib.hid (by rw[hsp.out,if_neg (by rw[hlv];simp)])
            refine aF 14 [_,_,_,_,_,_,_,_,_,_,_,_,_,.v (.bool false)] (Gf gs 0 rfl rfl (Gl fx (V:=.bool true) (by simp[lu,hlv]) rfl rfl rfl rfl (Gk rfl (Gk rfl (Gk rfl (Gk rfl (Gk rfl (Gk rfl (Gk rfl (Gk rfl (Gk rfl (Gk rfl (Gk rfl (Gk rfl (all_nil))))))))))))))) (fun _=>rfl) rfl ?_
            intro y W5 hbW5 _
            have hbr5:=ag hbr4 hbW5
            clear hbW5
            have hall:=Lib.hid (hnx.out hs0.out)
            clear hws fx hg4
            go_wp2
            go_roundw
            case rel=>exact⟨k+1,by omega,by go_num,hbr5,hall⟩
            case measure=>simp[intOf];omega
           | false=>
            refine aF 14 [_,_,_,_,_,_,_,_,_,.r 9 ((kU w6.heap.size 3 1 (aI P.tb).length ((aI P.tb).map eU))),.v (.int .i64 (aI P.tb).length),_,_,.v (.bool (decide (0<(P.ar.length:Int)+((aI P.tb).length:Int))))] (Gf gs 0 rfl rfl (Gl fx (V:=.bool false) (by simp[lu,hlv]) rfl rfl rfl rfl (Gk rfl (Gk rfl (Gf gs 1 rfl rfl (Gl fx rfl rfl rfl rfl rfl (Gn rfl rfl rfl rfl (Gf gs 2 rfl rfl (Gr (.agg (jG P.ts)) (fun ρ y W hb hKn=>(bM rfl (az rfl hKn) (bK (fx.ext hb) 2 8) Try.underlying63 tab_agg tab_size)) rfl rfl (all_cons ?_ (all_cons ?_ (Gb (.int .i64 ((P.ar.length:Int)+((aI P.tb).length:Int))) (by simp[go_sem,hws]) rfl rfl rfl rfl rfl (Gb (.bool (decide (0<(P.ar.length:Int)+((aI P.tb).length:Int)))) (by simp[go_sem]) rfl rfl rfl rfl rfl (Gk rfl (all_nil))))))))))))))) (fun _=>rfl) rfl ?_
            ·intro ρ y W hw hn hb hd;have E112:=hw 112 8 rfl;have h8:y 8=_:=hd 8 rfl
             have EF:∀f,ρ (.func f) = .func (.func f) #[] #[]:=fun f=>hn (.func f) trivial
             refine aP _ _ (aL 3 107 true true rfl rfl ((hw 107 3 rfl).trans (hd 3 rfl))) (aN rfl (EF _) Try.func37 (by kernel_rfl) (by kernel_rfl) (by simp only[List.map_toArray,List.map_cons,List.map_nil,E112,h8,EF];rfl)) ?_
             refine (uz P.tb (jG P.ts) W (hg4.below hb).tb).mono ?_
             rintro r w1 ⟨v,rfl,ho,hb1⟩
             exact⟨_,rfl,hb1,ho.mono hb.size⟩
            ·intro ρ y W hw hn hb hd;have E113:=hw 113 9 rfl;have h9:=hd 9 rfl
             obtain⟨a9,c9,e9,_⟩:=Own.rd h9
             refine aj (.int .i64 (aI P.tb).length) (aL 3 107 true true rfl rfl ((hw 107 3 rfl).trans (hd 3 rfl))) (yR rfl (E113.trans e9) rfl) rfl
            intro y W5 hbW5 hRW5
            have hy9:((kU w6.heap.size 3 1 (aI P.tb).length ((aI P.tb).map eU))).r (y 9) W5:=hRW5 9 (by decide)
            clear hRW5
            have hbr5:=ag hbr4 hbW5
            clear hbW5
            by_cases c7:0<P.ar.length+(aI P.tb).length
            ·have hq:Hid (dO H.ma=7):=Lib.hid (by rw[hfin.out (by rw[hsp.out,if_pos ⟨hlv,c7⟩];decide),hsp.out,if_pos ⟨hlv,c7⟩])
             have hd:decide (0<(P.ar.length:Int)+((aI P.tb).length:Int))=true:=decide_eq_true (by omega)
             rw[hd]
             clear hws fx hg4 hd c7
             go_wp2
             go_ret
             rw[hq.out]
             exact⟨rfl,hbr5⟩
            ·have hs0:Hid (fe P.sp=0):=Lib.hid (by rw[hsp.out,if_neg (fun h'=>c7 h'.2)])
             have hall:=Lib.hid (hnx.out hs0.out)
             have hd:decide (0<(P.ar.length:Int)+((aI P.tb).length:Int))=false:=decide_eq_false (by omega)
             rw[hd]
             clear hws fx hg4 hd c7
             go_wp2
             go_roundw
             case rel=>exact⟨k+1,by omega,by go_num,hbr5,hall⟩
             case measure=>simp[intOf];omega
          ·rw[if_pos c6] at hsp
           have hq:Hid (dO H.ma=bB P.tb):=Lib.hid (by rw[hfin.out (by rw[hsp.out];exact c6),hsp.out])
           generalize bB P.tb=E at *
           go_wp2
           go_ret
           rw[hq.out]
           exact⟨rfl,hbr4⟩
         ·rw[if_pos c5] at hsp
          have hq:Hid (dO H.ma=(aR P.ar).1):=Lib.hid (by rw[hfin.out (by rw[hsp.out];exact c5),hsp.out])
          generalize (aR P.ar).1=E at *
          go_wp2
          go_ret
          rw[hq.out]
          exact⟨rfl,hbr4⟩
        ·have hki:¬(k:Int)<(H.sp.length:Int):=by omega
         have hq:Hid (dO H.ma=0):=Lib.hid (by rw[hp4.out,kR fun i hi=>hz.out i hi (by rw[hlen.out] at hi;omega)])
         clear hz
         go_wp2
         go_ret
         rw[hq.out]
         exact⟨rfl,hbr⟩
    ·have hp7:Hid (dO H.ma=7):=Lib.hid (by rw[hP.out,if_pos (.inr (.inl c2))])
     refine aF 31 [_,_,_,_,_,_,_,_,_,_,_,_,_,_,_,_,_,_,_,_,_,_,_,_,_,_,_,_,_,_,.v (.bool true)] (Gk rfl (Gk rfl (Gf b 3 rfl rfl (Gf b 3 rfl rfl (Gl hbkr rfl rfl rfl rfl rfl (Gn rfl rfl rfl rfl (Gk rfl (Gk rfl (Gf b 2 rfl rfl (Gl hbkr rfl rfl rfl rfl rfl (Gn rfl rfl rfl rfl (Gb (.bool false) (by simp[go_sem,c1]) rfl rfl rfl rfl rfl (Gk rfl (Gk rfl (Gk rfl (Gf b 5 rfl rfl (Gf b 5 rfl rfl (Gl hbkr rfl rfl rfl rfl rfl (Gn rfl rfl rfl rfl (Gk rfl (Gk rfl (Gf b 7 rfl rfl (Gf b 8 rfl rfl (Gl hbkr rfl rfl rfl rfl rfl (Gb (.bool true) (by simp[go_sem,c2]) rfl rfl rfl rfl rfl (Gk rfl (Gk rfl (Gk rfl (Gk rfl (Gk rfl (Gk rfl (all_nil)))))))))))))))))))))))))))))))) (fun _=>rfl) rfl ?_
     intro y W2 hbW2 _
     have hbr2:=ag hbr hbW2
     clear hbW2
     clear c1 c2
     go_wp2
     go_ret
     rw[hp7.out]
     exact⟨rfl,hbr2⟩
   ·have hp7:Hid (dO H.ma=7):=Lib.hid (by rw[hP.out,if_pos (.inl c1)])
    have c1i:¬((H.sw.blocks.length:Int)=(H.sl.length:Int)):=by omega
    have c2:=c1
    refine aF 31 [_,_,_,_,_,_,_,_,_,_,_,_,_,_,_,_,_,_,_,_,_,_,_,_,_,_,_,_,_,_,.v (.bool true)] (Gk rfl (Gk rfl (Gf b 3 rfl rfl (Gf b 3 rfl rfl (Gl hbkr rfl rfl rfl rfl rfl (Gn rfl rfl rfl rfl (Gk rfl (Gk rfl (Gf b 2 rfl rfl (Gl hbkr rfl rfl rfl rfl rfl (Gn rfl rfl rfl rfl (Gb (.bool true) (by simp[go_sem,c1i]) rfl rfl rfl rfl rfl (Gk rfl (Gk rfl (Gk rfl (Gk rfl (Gk rfl (Gk rfl (Gk rfl (Gk rfl (Gk rfl (Gk rfl (Gk rfl (Gk rfl (Gk rfl (Gk rfl (Gk rfl (Gk rfl (Gk rfl (Gk rfl (Gk rfl (all_nil)))))))))))))))))))))))))))))))) (fun _=>rfl) rfl ?_
    intro y W2 hbW2 _
    have hbr2:=ag hbr hbW2
    clear hbW2
    clear c1 c1i c2
    go_wp2
    go_ret
    rw[hp7.out]
    exact⟨rfl,hbr2⟩
theorem lh {m:Ma} {p:Option Cc} {c:Cc} (h:c.f<0∨(m.st.fs.length:Int)≤c.f∨c.i<0∨((fileAt m.st c.f).b.length:Int)≤c.i∨c.k<0∨(m.m.fs.length:Int)≤c.k):kV m p c=3:=by
 unfold kV;rw[if_pos h]
theorem BF (H:MH) (b:Nat) (w:World) (hbk:aC w b (bP H) 40) (h:sV w H) :
  Calls Try.prog 36 #[.pointer (some ⟨b,0,none⟩)] w fun r w'=>r = .returned (.int .i64 (cachedE H.ma))∧Below w.heap.size w w':=by
 have hmm:=h.ca.le
 have hmx:=h.ca.mx
 unfold maxLen at hmx
 go_enter Try.func36,Try.ntmps36
 have hcb:=hbk.cell
 unfold bP at hcb
 obtain⟨L,hL⟩:∃L,L=(List.range H.ca.length).map fun k=>kV H.ma (ou H.ca k) (H.ca.getD k zCc):=⟨_,rfl⟩
 have hLl:Hid (L.length=H.ca.length):=Lib.hid (by rw[hL];simp)
 have hLE:Hid (cachedE H.ma=firstE L):=Lib.hid (by rw[hL];rfl)
 have hLg:Hid (∀k (hk:k<L.length),L[k]=kV H.ma (ou H.ca k) (H.ca.getD k zCc)):=Lib.hid fun k hk=>by simp[hL]
 clear hL
 go_upto_region 2 with (fail)
 clear hcb
 go_loopw [11] (fun i wr => ∃(k:Nat),k≤H.ca.length∧i = .int .i64 k∧Below w.heap.size w wr∧Hid (∀j (hj:j<L.length),j<k→L[j]=0)) (fun i _=>H.ca.length-(intOf i).toNat)
 case atStart=>exact⟨0,Nat.zero_le _,rfl,Below.refl _ _,Lib.hid fun j _ hj=>absurd hj (Nat.not_lt_zero _)⟩
 case round=>
  obtain⟨k,hk,rfl,hbr,hz⟩:=hrel
  by_cases hkl:k<H.ca.length
  ·obtain⟨bc,oc,hac,hrd⟩:=fu jg (by decide) (h.below hbr).ca.rd k hkl
   have hki:(k:Int)<(H.ca.length:Int):=by omega
   have hkL:k<L.length:=by rw[hLl.out];exact hkl
   have hE:Hid (L[k]=kV H.ma (ou H.ca k) H.ca[k]):=Lib.hid (by rw[hLg.out k hkL,List.getD_eq_getElem?_getD,List.getElem?_eq_getElem hkl];rfl)
   have hfin:Hid (L[k]≠0→cachedE H.ma=L[k]):=Lib.hid fun hne=>by rw[hLE.out,nU k hkL hz.out hne]
   have hnx:Hid (L[k]=0→∀j (hj:j<L.length),j<k+1→L[j]=0):=Lib.hid fun h0 j hj hjk=>by
    by_cases e:j=k
    ·subst e;exact h0
    ·exact hz.out j hj (by omega)
   generalize hLk:L[k]=Lk at *
   have hpv:Hid (ou H.ca k=if k=0 then none else H.ca[k-1]?):=Lib.hid rfl
   generalize hc:H.ca[k]=c at *
   rw[hac]
   clear hz hkL hLk hc
   go_wp2_with (first | (refine ax _ _ rfl bc (oc+k*3) rfl rfl _ hrd _ Try.underlying85 rfl cached_size ?_) | (refine aD rfl _ _ _ rfl (qN c) rfl rfl rfl cached_size (lU c) ?_))
   intro w3 hb3 cx
   have hbr3:=ag hbr hb3
   have hbk3:=hbk.ext hbr3
   have hr3:=h.below hbr3
   generalize wr.heap.size=gc at cx ⊢
   clear hb3 hrd hbr
   go_upto_region 4 with (fail)
   obtain⟨bf,of,F,P,hai,hFl,hcF,hcs⟩:∃(bf of F:Nat) (P:PF),(0≤c.f→c.f<H.fi.length→H.ai=some ⟨bf,of,none⟩)∧(0≤c.f→c.f<H.fi.length→F<H.fi.length)∧(0≤c.f→c.f<H.fi.length→c.f=(F:Int)∧fileAt H.ma.st c.f=P.fi)∧(0≤c.f→c.f<H.fi.length→∀W,Below w3.heap.size w3 W→W.cell? ⟨bf,of+F*2+1,none⟩=some (.slice P.a P.l.length P.c)):=by
    by_cases hc0:0≤c.f∧c.f<H.fi.length
    ·have hFl:c.f.toNat<H.fi.length:=by omega
     obtain⟨bf,of,P,hai,hP,hcn,hcs⟩:=vW hr3.st.rd c.f.toNat hFl
     refine⟨bf,of,c.f.toNat,P,fun _ _=>hai,fun _ _=>hFl,fun _ _=>⟨by omega,?_⟩,fun _ _ W hb => ?_⟩
     ·have:(H.fi.map PF.fi)[c.f.toNat]?=some P.fi:=by rw[List.getElem?_map,hP];rfl
      have h2:=jf (s:=H.ma.st) (F:=c.f.toNat) this
      rw[←h2]
      congr 1;omega
     ·obtain⟨bf',of',P',hai',hP',hcn',hcs'⟩:=vW (hr3.below hb).st.rd c.f.toNat hFl
      rw[hP] at hP'
      cases hP'
      rw[hai] at hai'
      cases hai'
      exact hcs'
    ·exact⟨0,0,0,⟨0,none,[],0⟩,fun h1 h2=>absurd ⟨h1,h2⟩ hc0,fun h1 h2=>absurd ⟨h1,h2⟩ hc0,fun h1 h2=>absurd ⟨h1,h2⟩ hc0,fun h1 h2=>absurd ⟨h1,h2⟩ hc0⟩
   by_cases c1:c.f<0
   ·have hbad:Hid (c.f<0∨(H.ma.st.fs.length:Int)≤c.f∨c.i<0∨((fileAt H.ma.st c.f).b.length:Int)≤c.i∨c.k<0∨(H.ma.m.fs.length:Int)≤c.k):=Lib.hid (.inl c1)
    refine aF 51 [_,_,_,_,_,_,_,_,_,_,_,_,_,_,_,_,_,_,_,_,_,_,_,_,_,_,_,_,_,_,_,_,_,_,_,_,_,_,_,_,_,_,_,_,_,_,_,_,_,_,.v (.bool true)] (Gf gc 0 rfl rfl (Gl cx rfl rfl rfl rfl rfl (Gb (.bool true) (by simp[go_sem,c1]) rfl rfl rfl rfl rfl (Gk rfl (Gk rfl (Gk rfl (Gk rfl (Gk rfl (Gk rfl (Gk rfl (Gk rfl (Gk rfl (Gk rfl (Gk rfl (Gk rfl (Gk rfl (Gk rfl (Gk rfl (Gk rfl (Gk rfl (Gk rfl (Gk rfl (Gk rfl (Gk rfl (Gk rfl (Gk rfl (Gk rfl (Gk rfl (Gk rfl (Gk rfl (Gk rfl (Gk rfl (Gk rfl (Gk rfl (Gk rfl (Gk rfl (Gk rfl (Gk rfl (Gk rfl (Gk rfl (Gk rfl (Gk rfl (Gk rfl (Gk rfl (Gk rfl (Gk rfl (Gk rfl (Gk rfl (Gk rfl (Gk rfl (Gk rfl (all_nil)))))))))))))))))))))))))))))))))))))))))))))))))))) (fun _=>rfl) rfl ?_
    intro y W4 hbW4 _
    have hbr4:=ag hbr3 hbW4
    replace cx:=cx.ext hbW4
    clear hbW4
    have hL3:Hid (Lk=3):=Lib.hid (by rw[hE.out];exact lh hbad.out)
    have hq:Hid (cachedE H.ma=3):=Lib.hid (by rw[hfin.out (by rw[hL3.out];decide),hL3.out])
    clear hai hFl hcF hcs
    go_wp2
    go_ret
    rw[hq.out]
    exact⟨rfl,hbr4⟩
   have hfl:Hid (H.ma.st.fs.length=H.fi.length):=Lib.hid (List.length_map _)
   by_cases c2:(H.fi.length:Int)≤c.f
   ·have hbad:Hid (c.f<0∨(H.ma.st.fs.length:Int)≤c.f∨c.i<0∨((fileAt H.ma.st c.f).b.length:Int)≤c.i∨c.k<0∨(H.ma.m.fs.length:Int)≤c.k):=Lib.hid (.inr (.inl (by rw[hfl.out];exact c2)))
    refine aF 51 [_,_,_,_,_,_,_,_,_,_,_,_,_,_,_,_,_,_,_,_,_,_,_,_,_,_,_,_,_,_,_,_,_,_,_,_,_,_,_,_,_,_,_,_,_,_,_,_,_,_,.v (.bool true)] (Gf gc 0 rfl rfl (Gl cx rfl rfl rfl rfl rfl (Gb (.bool false) (by simp[go_sem,c1]) rfl rfl rfl rfl rfl (Gk rfl (Gf gc 0 rfl rfl (Gl cx rfl rfl rfl rfl rfl (Gk rfl (Gk rfl (Gf b 7 rfl rfl (Gf b 7 rfl rfl (Gl hbk3 rfl rfl rfl rfl rfl (Gn rfl rfl rfl rfl (Gb (.bool true) (by simp[go_sem,c2]) rfl rfl rfl rfl rfl (Gk rfl (Gk rfl (Gk rfl (Gk rfl (Gk rfl (Gk rfl (Gk rfl (Gk rfl (Gk rfl (Gk rfl (Gk rfl (Gk rfl (Gk rfl (Gk rfl (Gk rfl (Gk rfl (Gk rfl (Gk rfl (Gk rfl (Gk rfl (Gk rfl (Gk rfl (Gk rfl (Gk rfl (Gk rfl (Gk rfl (Gk rfl (Gk rfl (Gk rfl (Gk rfl (Gk rfl (Gk rfl (Gk rfl (Gk rfl (Gk rfl (Gk rfl (Gk rfl (Gk rfl (all_nil)))))))))))))))))))))))))))))))))))))))))))))))))))) (fun _=>rfl) rfl ?_
    intro y W4 hbW4 _
    have hbr4:=ag hbr3 hbW4
    replace cx:=cx.ext hbW4
    clear hbW4
    have hL3:Hid (Lk=3):=Lib.hid (by rw[hE.out];exact lh hbad.out)
    have hq:Hid (cachedE H.ma=3):=Lib.hid (by rw[hfin.out (by rw[hL3.out];decide),hL3.out])
    clear hai hFl hcF hcs
    go_wp2
    go_ret
    rw[hq.out]
    exact⟨rfl,hbr4⟩
   replace hai:=hai (by omega) (by omega)
   replace hFl:=hFl (by omega) (by omega)
   obtain⟨hcF,hfA⟩:=hcF (by omega) (by omega)
   replace hcs:=hcs (by omega) (by omega)
   have hfA':=Lib.hid hfA
   clear hfA
   by_cases c3:c.i<0
   ·have hbad:Hid (c.f<0∨(H.ma.st.fs.length:Int)≤c.f∨c.i<0∨((fileAt H.ma.st c.f).b.length:Int)≤c.i∨c.k<0∨(H.ma.m.fs.length:Int)≤c.k):=Lib.hid (.inr (.inr (.inl c3)))
    refine aF 51 [_,_,_,_,_,_,_,_,_,_,_,_,_,_,_,_,_,_,_,_,_,_,_,_,_,_,_,_,_,_,_,_,_,_,_,_,_,_,_,_,_,_,_,_,_,_,_,_,_,_,.v (.bool true)] (Gf gc 0 rfl rfl (Gl cx rfl rfl rfl rfl rfl (Gb (.bool false) (by simp[go_sem,c1]) rfl rfl rfl rfl rfl (Gk rfl (Gf gc 0 rfl rfl (Gl cx rfl rfl rfl rfl rfl (Gk rfl (Gk rfl (Gf b 7 rfl rfl (Gf b 7 rfl rfl (Gl hbk3 rfl rfl rfl rfl rfl (Gn rfl rfl rfl rfl (Gb (.bool false) (by simp[go_sem,c2]) rfl rfl rfl rfl rfl (Gk rfl (Gk rfl (Gf gc 1 rfl rfl (Gl cx rfl rfl rfl rfl rfl (Gb (.bool true) (by simp[go_sem,c3]) rfl rfl rfl rfl rfl (Gk rfl (Gk rfl (Gk rfl (Gk rfl (Gk rfl (Gk rfl (Gk rfl (Gk rfl (Gk rfl (Gk rfl (Gk rfl (Gk rfl (Gk rfl (Gk rfl (Gk rfl (Gk rfl (Gk rfl (Gk rfl (Gk rfl (Gk rfl (Gk rfl (Gk rfl (Gk rfl (Gk rfl (Gk rfl (Gk rfl (Gk rfl (Gk rfl (Gk rfl (Gk rfl (Gk rfl (Gk rfl (Gk rfl (all_nil)))))))))))))))))))))))))))))))))))))))))))))))))))) (fun _=>rfl) rfl ?_
    intro y W4 hbW4 _
    have hbr4:=ag hbr3 hbW4
    replace cx:=cx.ext hbW4
    clear hbW4
    have hL3:Hid (Lk=3):=Lib.hid (by rw[hE.out];exact lh hbad.out)
    have hq:Hid (cachedE H.ma=3):=Lib.hid (by rw[hfin.out (by rw[hL3.out];decide),hL3.out])
    clear hai hFl hcF hcs
    go_wp2
    go_ret
    rw[hq.out]
    exact⟨rfl,hbr4⟩
   by_cases c4:(P.l.length:Int)≤c.i
   ·have hbad:Hid (c.f<0∨(H.ma.st.fs.length:Int)≤c.f∨c.i<0∨((fileAt H.ma.st c.f).b.length:Int)≤c.i∨c.k<0∨(H.ma.m.fs.length:Int)≤c.k):=Lib.hid (.inr (.inr (.inr (.inl (by rw[hfA'.out];exact c4)))))
    refine aF 51 [_,_,_,_,_,_,_,_,_,_,_,_,_,_,_,_,_,_,_,_,_,_,_,_,_,_,_,_,_,_,_,_,_,_,_,_,_,_,_,_,_,_,_,_,_,_,_,_,_,_,.v (.bool true)] (Gf gc 0 rfl rfl (Gl cx rfl rfl rfl rfl rfl (Gb (.bool false) (by simp[go_sem,c1]) rfl rfl rfl rfl rfl (Gk rfl (Gf gc 0 rfl rfl (Gl cx rfl rfl rfl rfl rfl (Gk rfl (Gk rfl (Gf b 7 rfl rfl (Gf b 7 rfl rfl (Gl hbk3 rfl rfl rfl rfl rfl (Gn rfl rfl rfl rfl (Gb (.bool false) (by simp[go_sem,c2]) rfl rfl rfl rfl rfl (Gk rfl (Gk rfl (Gf gc 1 rfl rfl (Gl cx rfl rfl rfl rfl rfl (Gb (.bool false) (by simp[go_sem,c3]) rfl rfl rfl rfl rfl (Gk rfl (Gk rfl (Gf gc 1 rfl rfl (Gl cx rfl rfl rfl rfl rfl (Gk rfl (Gk rfl (Gf b 7 rfl rfl (Gf b 7 rfl rfl (Gl hbk3 (V:=.slice (some ⟨bf,of,none⟩) H.fi.length H.ci) (by simp[bP,hai]) rfl rfl rfl rfl (Gf gc 0 rfl rfl (Gl cx (V:=.int .i64 (F:Int)) (by simp[qN,hcF]) rfl rfl rfl rfl (Gr (.pointer (some ⟨bf,of+F*2,none⟩)) (fun ρ y W hb hKn=>(aT rfl (az rfl hKn) (az rfl hKn) hFl Try.underlying34 file_size)) rfl rfl (Gf bf (of+F*2+1) rfl rfl (Gc (.slice P.a P.l.length P.c) (fun W hb=>by simp[hcs _ hb]) rfl rfl rfl rfl (Gn rfl rfl rfl rfl (Gb (.bool true) (by simp[go_sem,c4]) rfl rfl rfl rfl rfl (Gk rfl (Gk rfl (Gk rfl (Gk rfl (Gk rfl (Gk rfl (Gk rfl (Gk rfl (Gk rfl (Gk rfl (Gk rfl (Gk rfl (Gk rfl (Gk rfl (Gk rfl (Gk rfl (Gk rfl (all_nil)))))))))))))))))))))))))))))))))))))))))))))))))))) (fun _=>rfl) rfl ?_
    intro y W4 hbW4 _
    have hbr4:=ag hbr3 hbW4
    replace cx:=cx.ext hbW4
    clear hbW4
    have hL3:Hid (Lk=3):=Lib.hid (by rw[hE.out];exact lh hbad.out)
    have hq:Hid (cachedE H.ma=3):=Lib.hid (by rw[hfin.out (by rw[hL3.out];decide),hL3.out])
    clear hai hFl hcF hcs
    go_wp2
    go_ret
    rw[hq.out]
    exact⟨rfl,hbr4⟩
   by_cases c5:c.k<0
   ·have hbad:Hid (c.f<0∨(H.ma.st.fs.length:Int)≤c.f∨c.i<0∨((fileAt H.ma.st c.f).b.length:Int)≤c.i∨c.k<0∨(H.ma.m.fs.length:Int)≤c.k):=Lib.hid (.inr (.inr (.inr (.inr (.inl c5)))))
    refine aF 51 [_,_,_,_,_,_,_,_,_,_,_,_,_,_,_,_,_,_,_,_,_,_,_,_,_,_,_,_,_,_,_,_,_,_,_,_,_,_,_,_,_,_,_,_,_,_,_,_,_,_,.v (.bool true)] (Gf gc 0 rfl rfl (Gl cx rfl rfl rfl rfl rfl (Gb (.bool false) (by simp[go_sem,c1]) rfl rfl rfl rfl rfl (Gk rfl (Gf gc 0 rfl rfl (Gl cx rfl rfl rfl rfl rfl (Gk rfl (Gk rfl (Gf b 7 rfl rfl (Gf b 7 rfl rfl (Gl hbk3 rfl rfl rfl rfl rfl (Gn rfl rfl rfl rfl (Gb (.bool false) (by simp[go_sem,c2]) rfl rfl rfl rfl rfl (Gk rfl (Gk rfl (Gf gc 1 rfl rfl (Gl cx rfl rfl rfl rfl rfl (Gb (.bool false) (by simp[go_sem,c3]) rfl rfl rfl rfl rfl (Gk rfl (Gk rfl (Gf gc 1 rfl rfl (Gl cx rfl rfl rfl rfl rfl (Gk rfl (Gk rfl (Gf b 7 rfl rfl (Gf b 7 rfl rfl (Gl hbk3 (V:=.slice (some ⟨bf,of,none⟩) H.fi.length H.ci) (by simp[bP,hai]) rfl rfl rfl rfl (Gf gc 0 rfl rfl (Gl cx (V:=.int .i64 (F:Int)) (by simp[qN,hcF]) rfl rfl rfl rfl (Gr (.pointer (some ⟨bf,of+F*2,none⟩)) (fun ρ y W hb hKn=>(aT rfl (az rfl hKn) (az rfl hKn) hFl Try.underlying34 file_size)) rfl rfl (Gf bf (of+F*2+1) rfl rfl (Gc (.slice P.a P.l.length P.c) (fun W hb=>by simp[hcs _ hb]) rfl rfl rfl rfl (Gn rfl rfl rfl rfl (Gb (.bool false) (by simp[go_sem,c4]) rfl rfl rfl rfl rfl (Gk rfl (Gk rfl (Gf gc 2 rfl rfl (Gl cx rfl rfl rfl rfl rfl (Gb (.bool true) (by simp[go_sem,c5]) rfl rfl rfl rfl rfl (Gk rfl (Gk rfl (Gk rfl (Gk rfl (Gk rfl (Gk rfl (Gk rfl (Gk rfl (Gk rfl (Gk rfl (Gk rfl (Gk rfl (all_nil)))))))))))))))))))))))))))))))))))))))))))))))))))) (fun _=>rfl) rfl ?_
    intro y W4 hbW4 _
    have hbr4:=ag hbr3 hbW4
    replace cx:=cx.ext hbW4
    clear hbW4
    have hL3:Hid (Lk=3):=Lib.hid (by rw[hE.out];exact lh hbad.out)
    have hq:Hid (cachedE H.ma=3):=Lib.hid (by rw[hfin.out (by rw[hL3.out];decide),hL3.out])
    clear hai hFl hcF hcs
    go_wp2
    go_ret
    rw[hq.out]
    exact⟨rfl,hbr4⟩
   by_cases c6:(H.m.fs.length:Int)≤c.k
   ·have hbad:Hid (c.f<0∨(H.ma.st.fs.length:Int)≤c.f∨c.i<0∨((fileAt H.ma.st c.f).b.length:Int)≤c.i∨c.k<0∨(H.ma.m.fs.length:Int)≤c.k):=Lib.hid (.inr (.inr (.inr (.inr (.inr c6)))))
    refine aF 51 [_,_,_,_,_,_,_,_,_,_,_,_,_,_,_,_,_,_,_,_,_,_,_,_,_,_,_,_,_,_,_,_,_,_,_,_,_,_,_,_,_,_,_,_,_,_,_,_,_,_,.v (.bool true)] (Gf gc 0 rfl rfl (Gl cx rfl rfl rfl rfl rfl (Gb (.bool false) (by simp[go_sem,c1]) rfl rfl rfl rfl rfl (Gk rfl (Gf gc 0 rfl rfl (Gl cx rfl rfl rfl rfl rfl (Gk rfl (Gk rfl (Gf b 7 rfl rfl (Gf b 7 rfl rfl (Gl hbk3 rfl rfl rfl rfl rfl (Gn rfl rfl rfl rfl (Gb (.bool false) (by simp[go_sem,c2]) rfl rfl rfl rfl rfl (Gk rfl (Gk rfl (Gf gc 1 rfl rfl (Gl cx rfl rfl rfl rfl rfl (Gb (.bool false) (by simp[go_sem,c3]) rfl rfl rfl rfl rfl (Gk rfl (Gk rfl (Gf gc 1 rfl rfl (Gl cx rfl rfl rfl rfl rfl (Gk rfl (Gk rfl (Gf b 7 rfl rfl (Gf b 7 rfl rfl (Gl hbk3 (V:=.slice (some ⟨bf,of,none⟩) H.fi.length H.ci) (by simp[bP,hai]) rfl rfl rfl rfl (Gf gc 0 rfl rfl (Gl cx (V:=.int .i64 (F:Int)) (by simp[qN,hcF]) rfl rfl rfl rfl (Gr (.pointer (some ⟨bf,of+F*2,none⟩)) (fun ρ y W hb hKn=>(aT rfl (az rfl hKn) (az rfl hKn) hFl Try.underlying34 file_size)) rfl rfl (Gf bf (of+F*2+1) rfl rfl (Gc (.slice P.a P.l.length P.c) (fun W hb=>by simp[hcs _ hb]) rfl rfl rfl rfl (Gn rfl rfl rfl rfl (Gb (.bool false) (by simp[go_sem,c4]) rfl rfl rfl rfl rfl (Gk rfl (Gk rfl (Gf gc 2 rfl rfl (Gl cx rfl rfl rfl rfl rfl (Gb (.bool false) (by simp[go_sem,c5]) rfl rfl rfl rfl rfl (Gk rfl (Gk rfl (Gf gc 2 rfl rfl (Gl cx rfl rfl rfl rfl rfl (Gk rfl (Gk rfl (Gf b 0 rfl rfl (Gf b 0 rfl rfl (Gl hbk3 rfl rfl rfl rfl rfl (Gn rfl rfl rfl rfl (Gb (.bool true) (by simp[go_sem,c6]) rfl rfl rfl rfl rfl (Gk rfl (all_nil)))))))))))))))))))))))))))))))))))))))))))))))))))) (fun _=>rfl) rfl ?_
    intro y W4 hbW4 _
    have hbr4:=ag hbr3 hbW4
    replace cx:=cx.ext hbW4
    clear hbW4
    have hL3:Hid (Lk=3):=Lib.hid (by rw[hE.out];exact lh hbad.out)
    have hq:Hid (cachedE H.ma=3):=Lib.hid (by rw[hfin.out (by rw[hL3.out];decide),hL3.out])
    clear hai hFl hcF hcs
    go_wp2
    go_ret
    rw[hq.out]
    exact⟨rfl,hbr4⟩
   refine aF 51 [_,_,_,_,_,_,_,_,_,_,_,_,_,_,_,_,_,_,_,_,_,_,_,_,_,_,_,_,_,_,_,_,_,_,_,_,_,_,_,_,_,_,_,_,_,_,_,_,_,_,.v (.bool false)] (Gf gc 0 rfl rfl (Gl cx rfl rfl rfl rfl rfl (Gb (.bool false) (by simp[go_sem,c1]) rfl rfl rfl rfl rfl (Gk rfl (Gf gc 0 rfl rfl (Gl cx rfl rfl rfl rfl rfl (Gk rfl (Gk rfl (Gf b 7 rfl rfl (Gf b 7 rfl rfl (Gl hbk3 rfl rfl rfl rfl rfl (Gn rfl rfl rfl rfl (Gb (.bool false) (by simp[go_sem,c2]) rfl rfl rfl rfl rfl (Gk rfl (Gk rfl (Gf gc 1 rfl rfl (Gl cx rfl rfl rfl rfl rfl (Gb (.bool false) (by simp[go_sem,c3]) rfl rfl rfl rfl rfl (Gk rfl (Gk rfl (Gf gc 1 rfl rfl (Gl cx rfl rfl rfl rfl rfl (Gk rfl (Gk rfl (Gf b 7 rfl rfl (Gf b 7 rfl rfl (Gl hbk3 (V:=.slice (some ⟨bf,of,none⟩) H.fi.length H.ci) (by simp[bP,hai]) rfl rfl rfl rfl (Gf gc 0 rfl rfl (Gl cx (V:=.int .i64 (F:Int)) (by simp[qN,hcF]) rfl rfl rfl rfl (Gr (.pointer (some ⟨bf,of+F*2,none⟩)) (fun ρ y W hb hKn=>(aT rfl (az rfl hKn) (az rfl hKn) hFl Try.underlying34 file_size)) rfl rfl (Gf bf (of+F*2+1) rfl rfl (Gc (.slice P.a P.l.length P.c) (fun W hb=>by simp[hcs _ hb]) rfl rfl rfl rfl (Gn rfl rfl rfl rfl (Gb (.bool false) (by simp[go_sem,c4]) rfl rfl rfl rfl rfl (Gk rfl (Gk rfl (Gf gc 2 rfl rfl (Gl cx rfl rfl rfl rfl rfl (Gb (.bool false) (by simp[go_sem,c5]) rfl rfl rfl rfl rfl (Gk rfl (Gk rfl (Gf gc 2 rfl rfl (Gl cx rfl rfl rfl rfl rfl (Gk rfl (Gk rfl (Gf b 0 rfl rfl (Gf b 0 rfl rfl (Gl hbk3 rfl rfl rfl rfl rfl (Gn rfl rfl rfl rfl (Gb (.bool false) (by simp[go_sem,c6]) rfl rfl rfl rfl rfl (Gk rfl (all_nil)))))))))))))))))))))))))))))))))))))))))))))))))))) (fun _=>rfl) rfl ?_
   intro y W4 hbW4 _
   have hbr4:=ag hbr3 hbW4
   replace cx:=cx.ext hbW4
   clear hbW4
   obtain⟨K,hcK⟩:∃K:Nat,c.k=K:=⟨c.k.toNat,by omega⟩
   have hKl:K<H.m.fs.length:=by omega
   have hbk4:=hbk.ext hbr4
   have hr4:=h.below hbr4
   obtain⟨bg,og,haf,hfrd⟩:=fu eu (by decide) hr4.fr.rd K hKl
   have hE7:Hid (Lk=if (dL H.ma K).r<1∨(dL H.ma K).f≠c.f∨(dL H.ma K).i≠c.i then 7 else match ou H.ca k with
    | none=>0
    | some q=>if c.f<q.f∨q.f=c.f∧c.i≤q.i then 2 else 0):=Lib.hid (by
    rw[hE.out]
    unfold kV
    rw[if_neg (by rw[hfl.out,hfA'.out];show ¬(c.f<0∨(H.fi.length:Int)≤c.f∨c.i<0∨(P.l.length:Int)≤c.i∨c.k<0∨(H.m.fs.length:Int)≤c.k);omega),hcK]
    rfl)
   have hxf:H.m.fs[K]=dL H.ma K:=by
    have:=xY (m:=H.ma) (f:=K) hKl
    have h2:H.m.fs[K]?=some (dL H.ma K):=this
    rw[List.getElem?_eq_getElem hKl] at h2
    exact Option.some.inj h2
   rw[hxf] at hfrd
   generalize dL H.ma K=x at *
   clear hxf hai hFl hcs hfA' hfl hbk3 hr3 c2 c3 c4 c5 c6 c1 hE hcF
   go_upto_region 6 with (fail)
   refine aF 10 [_,_,_,_,_,_,_,_,_,.r 9 ((oN W4.heap.size 59 13))] (Gk rfl (Gk rfl (Gf b 0 rfl rfl (Gf b 0 rfl rfl (Gl hbk4 (V:=.slice (some ⟨bg,og,none⟩) H.m.fs.length H.cf) (by simp[bP,haf]) rfl rfl rfl rfl (Gf gc 2 rfl rfl (Gl cx (V:=.int .i64 (K:Int)) (by simp[qN,hcK]) rfl rfl rfl rfl (Gr (.pointer (some ⟨bg,og+K*13,none⟩)) (fun ρ y W hb hKn=>(aT rfl (az rfl hKn) (az rfl hKn) hKl Try.underlying25 frame_size)) rfl rfl (Gr (.agg (pK x)) (fun ρ y W hb hKn=>(bM rfl (az rfl hKn) (hfrd.below hb) Try.underlying59 rfl frame_size)) rfl rfl (all_cons ?_ (all_nil))))))))))) (fun _=>rfl) rfl ?_
   ·intro ρ y W hw hn hb hd
    refine jb (.pointer (some ⟨W.heap.size,0,none⟩)) (ah rfl) (by simp[execOp,go_sem]) ((Below.refl _ _).alloc (Nat.le_refl _) (.cells #[.int .u8 0,.int .u8 0,.int .u8 0,.int .u8 0,.int .u8 0,.int .u8 0,.int .u8 0,.int .u8 0,.int .i64 0,.bool false,.bool false,.int .i64 0,.int .i64 0] 59)) ?_
    exact⟨_,_,rfl,hb.size,aC.new _ _ _,rfl⟩
   intro y W5 hbW5 hRW5
   have hy9:((oN W4.heap.size 59 13)).r (y 9) W5:=hRW5 9 (by decide)
   clear hRW5
   obtain⟨gx,curx,hgx,hgxs,hbx,hszx⟩:=hy9
   rw[hgx]
   go_wp2_with (refine dW rfl _ _ _ rfl gx 0 (pK x) rfl rfl _ _ hbx (by rw[hszx];exact Nat.le_refl _) frame_size (mi x) ?_)
   intro w6 hb6 hg6
   rw[iA _ _ (by rw[hszx];rfl)] at hb6
   have hbel6:Below W4.heap.size W4 w6:=hbW5.grown hg6 hbW5.size (fun k hk=>by cases hk;exact hgxs)
   have hbr6:=ag hbr4 hbel6
   have cx6:=cx.ext hbel6
   have hbk6:=hbk.ext hbr6
   clear hbx hbW5 hg6 cx hbk4 hr4 hfrd hbel6 hgx
   have hcx:=hb6.cell
   unfold pK at hcx
   have hcc:=cx6.cell
   unfold qN at hcc
   by_cases d1:x.r<1
   ·have hL7:Hid (Lk=7):=Lib.hid (by rw[hE7.out,if_pos (.inl d1)])
    have hq:Hid (cachedE H.ma=7):=Lib.hid (by rw[hfin.out (by rw[hL7.out];decide),hL7.out])
    clear hbk6
    go_wp2
    go_ret
    rw[hq.out]
    exact⟨rfl,hbr6⟩
   by_cases d2:x.f=c.f
   rotate_left
   ·have hL7:Hid (Lk=7):=Lib.hid (by rw[hE7.out,if_pos (.inr (.inl d2))])
    have hq:Hid (cachedE H.ma=7):=Lib.hid (by rw[hfin.out (by rw[hL7.out];decide),hL7.out])
    clear hbk6
    go_wp2
    go_ret
    rw[hq.out]
    exact⟨rfl,hbr6⟩
   by_cases d3:x.i=c.i
   rotate_left
   ·have hL7:Hid (Lk=7):=Lib.hid (by rw[hE7.out,if_pos (.inr (.inr d3))])
    have hq:Hid (cachedE H.ma=7):=Lib.hid (by rw[hfin.out (by rw[hL7.out];decide),hL7.out])
    clear hbk6
    go_wp2
    go_ret
    rw[hq.out]
    exact⟨rfl,hbr6⟩
   rw[if_neg (by rintro (h | h | h);exact d1 h;exact h d2;exact h d3)] at hE7
   go_upto_region 9 with (fail)
   clear hcx hcc hb6 d1 d2 d3
   obtain⟨k1,q,hk1,hk1l,hq0,hq1,hkq⟩:∃(k1:Nat) (q:Cc),(0<k→IntKind.i64.wrap ((k:Int)-1)=(k1:Int))∧(0<k→k1<H.ca.length)∧(0<k→∀W,Below w6.heap.size w6 W→W.cell? ⟨bc,oc+k1*3,none⟩=some (.int .i64 q.f))∧(0<k→∀W,Below w6.heap.size w6 W→W.cell? ⟨bc,oc+k1*3+1,none⟩=some (.int .i64 q.i))∧(0<k→ou H.ca k=some q):=by
    by_cases h0:0<k
    ·have hkl1:k-1<H.ca.length:=by omega
     have hcell:∀W,Below w6.heap.size w6 W→W.cell? ⟨bc,oc+(k-1)*3,none⟩=some (.int .i64 H.ca[k-1].f)∧W.cell? ⟨bc,oc+(k-1)*3+1,none⟩=some (.int .i64 H.ca[k-1].i):=fun W hb=>by
      obtain⟨bc',oc',c',hac',hc',e1,e2,_⟩:=JV (h.below (ag hbr6 hb)).ca.rd (k-1) hkl1
      rw[List.getElem?_eq_getElem hkl1] at hc'
      cases hc'
      rw[hac] at hac'
      cases hac'
      exact⟨e1,e2⟩
     refine⟨k-1,H.ca[k-1],fun _ => ?_,fun _=>hkl1,fun _ W hb=>(hcell W hb).1,fun _ W hb=>(hcell W hb).2,fun _ => ?_⟩
     ·rw[show (k:Int)-1=((k-1:Nat):Int) by omega]
      exact IntWalk.i64_in _ (by omega)
     ·rw[hpv.out,if_neg (by omega),List.getElem?_eq_getElem hkl1]
    ·exact⟨0,zCc,fun h'=>absurd h' h0,fun h'=>absurd h' h0,fun h'=>absurd h' h0,fun h'=>absurd h' h0,fun h'=>absurd h' h0⟩
   by_cases e1:k=0
   ·have e1i:¬(0:Int)<(k:Int):=by omega
    have hL0:Hid (Lk=0):=Lib.hid (by rw[hE7.out,hpv.out,if_pos e1])
    refine aF 44 [_,_,_,_,_,_,_,_,_,_,_,_,_,_,_,_,_,_,_,_,_,_,_,_,_,_,_,_,_,_,_,_,_,_,_,_,_,_,_,_,_,_,_,.v (.bool false)] (Gk rfl (Gb (.bool false) (by simp[go_sem,e1]) rfl rfl rfl rfl rfl (Gk rfl (Gk rfl (Gk rfl (Gk rfl (Gk rfl (Gk rfl (Gk rfl (Gk rfl (Gk rfl (Gk rfl (Gk rfl (Gk rfl (Gk rfl (Gk rfl (Gk rfl (Gk rfl (Gk rfl (Gk rfl (Gk rfl (Gk rfl (Gk rfl (Gk rfl (Gk rfl (Gk rfl (Gk rfl (Gk rfl (Gk rfl (Gk rfl (Gk rfl (Gk rfl (Gk rfl (Gk rfl (Gk rfl (Gk rfl (Gk rfl (Gk rfl (Gk rfl (Gk rfl (Gk rfl (Gk rfl (Gk rfl (Gk rfl (all_nil))))))))))))))))))))))))))))))))))))))))))))) (fun _=>rfl) rfl ?_
    intro y W7 hbW7 _
    have hbr7:=ag hbr6 hbW7
    clear hbW7
    have hall:=Lib.hid (hnx.out hL0.out)
    clear hq0 hq1 hk1 hk1l cx6 hbk6
    go_wp2
    go_roundw
    case rel=>exact⟨k+1,by omega,by go_num,hbr7,hall⟩
    case measure=>simp[intOf];omega
   have e1i:0<k:=by omega
   replace hk1:=hk1 (by omega)
   replace hk1l:=hk1l (by omega)
   replace hq0:=hq0 (by omega)
   replace hq1:=hq1 (by omega)
   have hpq:=Lib.hid (hkq (by omega))
   clear hkq
   by_cases e2:c.f<q.f
   ·have hbad:Hid (c.f<q.f∨q.f=c.f∧c.i≤q.i):=Lib.hid (.inl e2)
    refine aF 44 [_,_,_,_,_,_,_,_,_,_,_,_,_,_,_,_,_,_,_,_,_,_,_,_,_,_,_,_,_,_,_,_,_,_,_,_,_,_,_,_,_,_,_,.v (.bool true)] (Gk rfl (Gb (.bool true) (by simp[go_sem,e1i]) rfl rfl rfl rfl rfl (Gk rfl (Gk rfl (Gk rfl (Gf b 9 rfl rfl (Gl hbk6 (V:=.slice (some ⟨bc,oc,none⟩) H.ca.length H.cc) (by simp[bP,hac]) rfl rfl rfl rfl (Gk rfl (Gb (.int .i64 (k1:Int)) (by simp[go_sem,hk1]) rfl rfl rfl rfl rfl (Gr (.pointer (some ⟨bc,oc+k1*3,none⟩)) (fun ρ y W hb hKn=>(aT rfl (az rfl hKn) (az rfl hKn) hk1l Try.underlying37 cached_size)) rfl rfl (Gf bc (oc+k1*3) rfl rfl (Gc (.int .i64 q.f) (fun W hb=>by simp[hq0 _ hb]) rfl rfl rfl rfl (Gf gc 0 rfl rfl (Gl cx6 rfl rfl rfl rfl rfl (Gb (.bool true) (by simp[go_sem,e2]) rfl rfl rfl rfl rfl (Gk rfl (Gk rfl (Gk rfl (Gk rfl (Gk rfl (Gk rfl (Gk rfl (Gk rfl (Gk rfl (Gk rfl (Gk rfl (Gk rfl (Gk rfl (Gk rfl (Gk rfl (Gk rfl (Gk rfl (Gk rfl (Gk rfl (Gk rfl (Gk rfl (Gk rfl (Gk rfl (Gk rfl (Gk rfl (Gk rfl (Gk rfl (Gk rfl (Gk rfl (all_nil))))))))))))))))))))))))))))))))))))))))))))) (fun _=>rfl) rfl ?_
    intro y W7 hbW7 _
    have hbr7:=ag hbr6 hbW7
    clear hbW7
    have hL2:Hid (Lk=2):=Lib.hid (by rw[hE7.out,hpq.out];simp only;rw[if_pos hbad.out])
    have hq:Hid (cachedE H.ma=2):=Lib.hid (by rw[hfin.out (by rw[hL2.out];decide),hL2.out])
    clear hq0 hq1 hk1 hk1l cx6 hbk6
    go_wp2
    go_ret
    rw[hq.out]
    exact⟨rfl,hbr7⟩
   by_cases e3:q.f=c.f
   ·by_cases e4:c.i≤q.i
    ·have hbad:Hid (c.f<q.f∨q.f=c.f∧c.i≤q.i):=Lib.hid (.inr ⟨e3,e4⟩)
     refine aF 44 [_,_,_,_,_,_,_,_,_,_,_,_,_,_,_,_,_,_,_,_,_,_,_,_,_,_,_,_,_,_,_,_,_,_,_,_,_,_,_,_,_,_,_,.v (.bool true)] (Gk rfl (Gb (.bool true) (by simp[go_sem,e1i]) rfl rfl rfl rfl rfl (Gk rfl (Gk rfl (Gk rfl (Gf b 9 rfl rfl (Gl hbk6 (V:=.slice (some ⟨bc,oc,none⟩) H.ca.length H.cc) (by simp[bP,hac]) rfl rfl rfl rfl (Gk rfl (Gb (.int .i64 (k1:Int)) (by simp[go_sem,hk1]) rfl rfl rfl rfl rfl (Gr (.pointer (some ⟨bc,oc+k1*3,none⟩)) (fun ρ y W hb hKn=>(aT rfl (az rfl hKn) (az rfl hKn) hk1l Try.underlying37 cached_size)) rfl rfl (Gf bc (oc+k1*3) rfl rfl (Gc (.int .i64 q.f) (fun W hb=>by simp[hq0 _ hb]) rfl rfl rfl rfl (Gf gc 0 rfl rfl (Gl cx6 rfl rfl rfl rfl rfl (Gb (.bool false) (by simp[go_sem,e2]) rfl rfl rfl rfl rfl (Gk rfl (Gk rfl (Gk rfl (Gf b 9 rfl rfl (Gl hbk6 (V:=.slice (some ⟨bc,oc,none⟩) H.ca.length H.cc) (by simp[bP,hac]) rfl rfl rfl rfl (Gk rfl (Gb (.int .i64 (k1:Int)) (by simp[go_sem,hk1]) rfl rfl rfl rfl rfl (Gr (.pointer (some ⟨bc,oc+k1*3,none⟩)) (fun ρ y W hb hKn=>(aT rfl (az rfl hKn) (az rfl hKn) hk1l Try.underlying37 cached_size)) rfl rfl (Gf bc (oc+k1*3) rfl rfl (Gc (.int .i64 q.f) (fun W hb=>by simp[hq0 _ hb]) rfl rfl rfl rfl (Gf gc 0 rfl rfl (Gl cx6 rfl rfl rfl rfl rfl (Gb (.bool true) (by simp[go_sem,e3]) rfl rfl rfl rfl rfl (Gk rfl (Gk rfl (Gk rfl (Gf b 9 rfl rfl (Gl hbk6 (V:=.slice (some ⟨bc,oc,none⟩) H.ca.length H.cc) (by simp[bP,hac]) rfl rfl rfl rfl (Gk rfl (Gb (.int .i64 (k1:Int)) (by simp[go_sem,hk1]) rfl rfl rfl rfl rfl (Gr (.pointer (some ⟨bc,oc+k1*3,none⟩)) (fun ρ y W hb hKn=>(aT rfl (az rfl hKn) (az rfl hKn) hk1l Try.underlying37 cached_size)) rfl rfl (Gf bc (oc+k1*3+1) rfl rfl (Gc (.int .i64 q.i) (fun W hb=>by simp[hq1 _ hb]) rfl rfl rfl rfl (Gf gc 1 rfl rfl (Gl cx6 rfl rfl rfl rfl rfl (Gb (.bool true) (by simp[go_sem,e4]) rfl rfl rfl rfl rfl (Gk rfl (Gk rfl (Gk rfl (all_nil))))))))))))))))))))))))))))))))))))))))))))) (fun _=>rfl) rfl ?_
     intro y W7 hbW7 _
     have hbr7:=ag hbr6 hbW7
     clear hbW7
     have hL2:Hid (Lk=2):=Lib.hid (by rw[hE7.out,hpq.out];simp only;rw[if_pos hbad.out])
     have hq:Hid (cachedE H.ma=2):=Lib.hid (by rw[hfin.out (by rw[hL2.out];decide),hL2.out])
     clear hq0 hq1 hk1 hk1l cx6 hbk6
     go_wp2
     go_ret
     rw[hq.out]
     exact⟨rfl,hbr7⟩
    ·have hL0:Hid (Lk=0):=Lib.hid (by rw[hE7.out,hpq.out];simp only;rw[if_neg (by omega)])
     refine aF 44 [_,_,_,_,_,_,_,_,_,_,_,_,_,_,_,_,_,_,_,_,_,_,_,_,_,_,_,_,_,_,_,_,_,_,_,_,_,_,_,_,_,_,_,.v (.bool false)] (Gk rfl (Gb (.bool true) (by simp[go_sem,e1i]) rfl rfl rfl rfl rfl (Gk rfl (Gk rfl (Gk rfl (Gf b 9 rfl rfl (Gl hbk6 (V:=.slice (some ⟨bc,oc,none⟩) H.ca.length H.cc) (by simp[bP,hac]) rfl rfl rfl rfl (Gk rfl (Gb (.int .i64 (k1:Int)) (by simp[go_sem,hk1]) rfl rfl rfl rfl rfl (Gr (.pointer (some ⟨bc,oc+k1*3,none⟩)) (fun ρ y W hb hKn=>(aT rfl (az rfl hKn) (az rfl hKn) hk1l Try.underlying37 cached_size)) rfl rfl (Gf bc (oc+k1*3) rfl rfl (Gc (.int .i64 q.f) (fun W hb=>by simp[hq0 _ hb]) rfl rfl rfl rfl (Gf gc 0 rfl rfl (Gl cx6 rfl rfl rfl rfl rfl (Gb (.bool false) (by simp[go_sem,e2]) rfl rfl rfl rfl rfl (Gk rfl (Gk rfl (Gk rfl (Gf b 9 rfl rfl (Gl hbk6 (V:=.slice (some ⟨bc,oc,none⟩) H.ca.length H.cc) (by simp[bP,hac]) rfl rfl rfl rfl (Gk rfl (Gb (.int .i64 (k1:Int)) (by simp[go_sem,hk1]) rfl rfl rfl rfl rfl (Gr (.pointer (some ⟨bc,oc+k1*3,none⟩)) (fun ρ y W hb hKn=>(aT rfl (az rfl hKn) (az rfl hKn) hk1l Try.underlying37 cached_size)) rfl rfl (Gf bc (oc+k1*3) rfl rfl (Gc (.int .i64 q.f) (fun W hb=>by simp[hq0 _ hb]) rfl rfl rfl rfl (Gf gc 0 rfl rfl (Gl cx6 rfl rfl rfl rfl rfl (Gb (.bool true) (by simp[go_sem,e3]) rfl rfl rfl rfl rfl (Gk rfl (Gk rfl (Gk rfl (Gf b 9 rfl rfl (Gl hbk6 (V:=.slice (some ⟨bc,oc,none⟩) H.ca.length H.cc) (by simp[bP,hac]) rfl rfl rfl rfl (Gk rfl (Gb (.int .i64 (k1:Int)) (by simp[go_sem,hk1]) rfl rfl rfl rfl rfl (Gr (.pointer (some ⟨bc,oc+k1*3,none⟩)) (fun ρ y W hb hKn=>(aT rfl (az rfl hKn) (az rfl hKn) hk1l Try.underlying37 cached_size)) rfl rfl (Gf bc (oc+k1*3+1) rfl rfl (Gc (.int .i64 q.i) (fun W hb=>by simp[hq1 _ hb]) rfl rfl rfl rfl (Gf gc 1 rfl rfl (Gl cx6 rfl rfl rfl rfl rfl (Gb (.bool false) (by simp[go_sem,e4]) rfl rfl rfl rfl rfl (Gk rfl (Gk rfl (Gk rfl (all_nil))))))))))))))))))))))))))))))))))))))))))))) (fun _=>rfl) rfl ?_
     intro y W7 hbW7 _
     have hbr7:=ag hbr6 hbW7
     clear hbW7
     have hall:=Lib.hid (hnx.out hL0.out)
     clear hq0 hq1 hk1 hk1l cx6 hbk6
     go_wp2
     go_roundw
     case rel=>exact⟨k+1,by omega,by go_num,hbr7,hall⟩
     case measure=>simp[intOf];omega
   ·have hL0:Hid (Lk=0):=Lib.hid (by rw[hE7.out,hpq.out];simp only;rw[if_neg (by omega)])
    refine aF 44 [_,_,_,_,_,_,_,_,_,_,_,_,_,_,_,_,_,_,_,_,_,_,_,_,_,_,_,_,_,_,_,_,_,_,_,_,_,_,_,_,_,_,_,.v (.bool false)] (Gk rfl (Gb (.bool true) (by simp[go_sem,e1i]) rfl rfl rfl rfl rfl (Gk rfl (Gk rfl (Gk rfl (Gf b 9 rfl rfl (Gl hbk6 (V:=.slice (some ⟨bc,oc,none⟩) H.ca.length H.cc) (by simp[bP,hac]) rfl rfl rfl rfl (Gk rfl (Gb (.int .i64 (k1:Int)) (by simp[go_sem,hk1]) rfl rfl rfl rfl rfl (Gr (.pointer (some ⟨bc,oc+k1*3,none⟩)) (fun ρ y W hb hKn=>(aT rfl (az rfl hKn) (az rfl hKn) hk1l Try.underlying37 cached_size)) rfl rfl (Gf bc (oc+k1*3) rfl rfl (Gc (.int .i64 q.f) (fun W hb=>by simp[hq0 _ hb]) rfl rfl rfl rfl (Gf gc 0 rfl rfl (Gl cx6 rfl rfl rfl rfl rfl (Gb (.bool false) (by simp[go_sem,e2]) rfl rfl rfl rfl rfl (Gk rfl (Gk rfl (Gk rfl (Gf b 9 rfl rfl (Gl hbk6 (V:=.slice (some ⟨bc,oc,none⟩) H.ca.length H.cc) (by simp[bP,hac]) rfl rfl rfl rfl (Gk rfl (Gb (.int .i64 (k1:Int)) (by simp[go_sem,hk1]) rfl rfl rfl rfl rfl (Gr (.pointer (some ⟨bc,oc+k1*3,none⟩)) (fun ρ y W hb hKn=>(aT rfl (az rfl hKn) (az rfl hKn) hk1l Try.underlying37 cached_size)) rfl rfl (Gf bc (oc+k1*3) rfl rfl (Gc (.int .i64 q.f) (fun W hb=>by simp[hq0 _ hb]) rfl rfl rfl rfl (Gf gc 0 rfl rfl (Gl cx6 rfl rfl rfl rfl rfl (Gb (.bool false) (by simp[go_sem,e3]) rfl rfl rfl rfl rfl (Gk rfl (Gk rfl (Gk rfl (Gk rfl (Gk rfl (Gk rfl (Gk rfl (Gk rfl (Gk rfl (Gk rfl (Gk rfl (Gk rfl (Gk rfl (Gk rfl (Gk rfl (Gk rfl (all_nil))))))))))))))))))))))))))))))))))))))))))))) (fun _=>rfl) rfl ?_
    intro y W7 hbW7 _
    have hbr7:=ag hbr6 hbW7
    clear hbW7
    have hall:=Lib.hid (hnx.out hL0.out)
    clear hq0 hq1 hk1 hk1l cx6 hbk6
    go_wp2
    go_roundw
    case rel=>exact⟨k+1,by omega,by go_num,hbr7,hall⟩
    case measure=>simp[intOf];omega
  ·have hki:¬(k:Int)<(H.ca.length:Int):=by omega
   have hq:Hid (cachedE H.ma=0):=Lib.hid (by rw[hLE.out,kR fun i hi=>hz.out i hi (by rw[hLl.out] at hi;omega)])
   clear hz
   go_wp2
   go_ret
   rw[hq.out]
   exact⟨rfl,hbr⟩
theorem Dp {m:Ma} {s:Sp} {n:Int} (h:fD s.ar n<0):aX m s n=5:=by unfold aX;exact if_pos h
theorem Ag (H:MH) (P:PS) (n:Int) (b bs os:Nat) (w:World) (hbk:aC w b (bP H) 40) (h:sV w H) (hrd:bW w (some ⟨bs,os,none⟩) (lS P)) (hg:P.good w) (har:(aR P.ar).1=0) (htb:bB P.tb=0) (hn:0≤n∧n<64) :
  Calls Try.prog 38 #[.pointer (some ⟨b,0,none⟩),.pointer (some ⟨bs,os,none⟩),.int .i64 n] w fun r w'=>r = .returned (.int .i64 (aX H.ma P.sp n))∧Below w.heap.size w w':=by
 have hs1:∀W,Below w.heap.size w W→W.cell? ⟨bs,os+1,none⟩=some (.slice P.aa P.ar.length P.ac):=fun W hb=>by
  obtain⟨b',o',e,hc⟩:=(hrd.below hb) 1 _ rfl
  cases e
  exact hc
 go_enter Try.func38,Try.ntmps38
 have hc1:=hs1 w (Below.refl _ _)
 have hA:=hg.ars
 go_wp2_with fail
 refine (wN P.ar n P.aa P.ac _ hA.rd (by have:=hA.le;have:=hA.mx;unfold maxLen at this;omega)).mono ?_
 rintro r w1 ⟨rfl,hb1⟩
 have hbk1:=hbk.ext hb1
 have h1:=h.below hb1
 have hg1:=hg.below hb1
 have hrd1:=hrd.below hb1
 clear hc1 hA
 by_cases hf:fD P.ar n<0
 ·have hq:Hid (aX H.ma P.sp n=5):=Lib.hid (Dp hf)
  clear hbk1
  go_wp2
  go_ret
  rw[hq.out]
  exact⟨rfl,hb1⟩
 have hE:Hid (aX H.ma P.sp n=(let a:=P.ar.getD (fD P.ar n).toNat zAr
  let e:=bS P.tb n
  if e.k=2 then (if (H.sl.length:Int)≤e.n∨a.sh=true then 7 else 0)
  else if (H.m.fs.length:Int)≤e.n then 3 else
  let f:=mO H.ma e.n
  let of:=decide (0≤a.fi)&&decide (f.f=a.fi)&&decide (f.i=a.ba+n-a.fr)
  if 0≤f.f∧of=false∨a.sh=true∧of=false∨a.sh=false∧of=true∧e.w=true∨e.w=true∧a.wr=false then 7
  else if f.f<0∧e.w=true∧1<f.r then 7 else 0)):=Lib.hid (by unfold aX;exact if_neg hf)
 obtain⟨k,hk,hkl,_⟩:=GR (q:=iV n) (l:=P.ar) (by show 0≤fD P.ar n;omega)
 have hk' : fD P.ar n=k:=hk
 rw[hk',Int.toNat_natCast,List.getD_eq_getElem?_getD,List.getElem?_eq_getElem hkl] at hE
 simp only[Option.getD_some] at hE
 have hkn:¬(k:Int)<0:=by omega
 rw[hk']
 obtain⟨ba,oa,haa,hard⟩:=fu kM (by decide) hg1.ars.rd k hkl
 have haE:=(jO har).2 _ (List.getElem_mem hkl)
 have hafew:=(aS haE).1
 have hent:=(bF _).1 (jr htb n)
 generalize P.ar[k]=a at *
 generalize hge:bS P.tb n=e at *
 have hge':=Lib.hid hge
 clear hk hk' hf haE hge
 go_upto_region 4 with (fail)
 refine rF 15 [_,_,_,_,_,_,_,_,_,_,_,.v (.agg (fK e)),.r 12 ((oN w1.heap.size 67 3)),.v (.pointer (some ⟨ba,oa+k*7,none⟩)),.y 14 ((KJ 12 w1.heap.size 67 (ni (.agg (fK e)))))] (fun W=>Below w1.heap.size w1 W) nG (Below.refl _ _) (Yk nG rfl (Yk nG rfl (Yf nG bs (os+1) rfl rfl (Yc nG (.slice (some ⟨ba,oa,none⟩) P.ar.length P.ac) (fun W hb=>by simp[hs1 _ (ag hb1 hb),haa]) rfl rfl rfl rfl (Yk nG rfl (Yr nG (.pointer (some ⟨ba,oa+k*7,none⟩)) (fun ρ y W hb hKn=>(aT rfl (az rfl hKn) (az rfl hKn) hkl Try.underlying60 area_size)) rfl rfl (Yk nG rfl (Yk nG rfl (Yf nG bs (os+2) rfl rfl (Yr nG (.agg (jG P.ts)) (fun ρ y W hb hKn=>(bM rfl (az rfl hKn) (pY (hrd1.below hb) 2 8) Try.underlying63 tab_agg tab_size)) rfl rfl (Yk nG rfl (all_cons ?_ (all_cons ?_ (Yk nG rfl (all_cons ?_ (all_nil)))))))))))))))) (fun _=>rfl) rfl ?_
 ·intro ρ y W hw hn hb hd
  refine Bz nG hb (ni (.agg (fK e))) (fun _ _ h=>h) ?_
  have E30:=hw 30 9 rfl
  have h9:y 9 = .agg (jG P.ts):=hd 9 rfl
  have E31:=hw 31 10 rfl
  have h10:y 10 = .int .i64 n:=hd 10 rfl
  have EF:∀f,ρ (.func f) = .func (.func f) #[] #[]:=fun f=>hn (.func f) trivial
  refine aP _ _ (ah rfl) (aN rfl (EF _) Try.func39 (by kernel_rfl) (by kernel_rfl) (by simp only[List.map_toArray,List.map_cons,List.map_nil,E30,h9,E31,h10,EF];rfl)) ?_
  refine (uQ P.tb (jG P.ts) n W (hg1.below hb).tb).mono ?_
  rintro r w2 ⟨rfl,hb2⟩
  rw[hge'.out]
  exact⟨_,rfl,hb2,rfl⟩
 ·intro ρ y W hw hn hb hd
  refine Bz nG hb ((oN w1.heap.size 67 3)) (fun _ _ h=>h) ?_
  refine jb (.pointer (some ⟨W.heap.size,0,none⟩)) (ah rfl) (by simp[execOp,go_sem,dn]) ((Below.refl _ _).alloc (Nat.le_refl _) (.cells #[.int .i64 0,.int .i64 0,.bool false] 67)) ?_
  exact⟨_,_,rfl,hb.size,aC.new _ _ _,rfl⟩
 ·intro ρ y W hw hn hb hd;have E9:=hw 9 12 rfl;have h12:=hd 12 rfl;have E32:=hw 32 11 rfl;have h11:y 11 = .agg (fK e):=hd 11 rfl
  obtain⟨g3,cur3,e9,hg9,hb9,hs9⟩:=h12
  refine Bv (ah rfl) _ _ _ rfl g3 0 (.agg (fK e)) (fK e).toList (E9.trans e9) (E32.trans h11) rfl cur3 _ hb9 (by rw[hs9];exact Nat.le_refl _) entry_size (aZ (by simp[fK,Value.oneCell'])) ?_
  intro w1 hw1 hgr
  rw[iA cur3 _ (by rw[hs9];rfl)] at hw1
  refine⟨hb.grown hgr hb.size (fun k hk=>by cases hk;exact hg9),⟨g3,_,e9,hg9,hw1,rfl⟩,?_⟩
  intro k hk hne
  match k,hk,hne with
  | 0,_,_=>exact fun h=>h
  | 1,_,_=>exact fun h=>h
  | 2,_,_=>exact fun h=>h
  | 3,_,_=>exact fun h=>h
  | 4,_,_=>exact fun h=>h
  | 5,_,_=>exact fun h=>h
  | 6,_,_=>exact fun h=>h
  | 7,_,_=>exact fun h=>h
  | 8,_,_=>exact fun h=>h
  | 9,_,_=>exact fun h=>h
  | 10,_,_=>exact fun h=>h
  | 11,_,_=>exact fun h=>h
  | 12,_,_=>exact fun q=>zF q hw1 (fun _=>rfl) ⟨_,hb9⟩ hgr
  | 13,_,_=>exact fun h=>h
  | 14,_,h=>exact absurd rfl h
  | n+15,h,_=>exact absurd h (by omega)
 intro y w4 hbw4 hRw4
 replace hbw4:Below w1.heap.size w1 w4:=hbw4
 have hy12:((oN w1.heap.size 67 3)).r (y 12) w4:=hRw4 12 (by decide)
 have hy14:=hRw4 14 (by decide)
 clear hRw4
 simp only[strip,dn,List.map_cons,List.map_nil]
 obtain⟨ge,cce,hgee,hges,hb4,hcce⟩:=hy14
 have hcce' : cce=fK e:=by simpa[ni] using hcce
 subst hcce'
 rw[hgee]
 have hbel4:=hbw4
 have hbr4:=ag hb1 hbel4
 have ex:=hb4
 have hbk4:=hbk.ext hbr4
 have h4:=h.below hbr4
 have hard4:=hard.below hbel4
 clear hbw4 hbel4 hgee hb4 hard hrd1 hbk1 h1 hb1 hs1 hg1 hy12
 have hAc:∀j u,(gV a)[j]?=some u→∀W,Below w4.heap.size w4 W→W.cell? ⟨ba,oa+k*7+j,none⟩=some u:=fun j u hj W hb=>by
  obtain⟨b',o',e',hc⟩:=(hard4.below hb) j u hj
  cases e'
  exact hc
 have hA3:=hAc 3 _ rfl
 have hA4:=hAc 4 _ rfl
 have hA5:=hAc 5 _ rfl
 have hA6:=hAc 6 _ rfl
 have hA0:∀W,Below w4.heap.size w4 W→W.cell? ⟨ba,oa+k*7,none⟩=some (.int .i64 a.fr):=hAc 0 _ rfl
 have hce:=ex.cell
 unfold fK at hce
 clear hAc hard4
 by_cases hk2:e.k=2
 ·rw[if_pos hk2] at hE
  rw[hk2] at hce
  go_upto_region 6 with (fail)
  clear hce hk2
  by_cases c1:(H.sl.length:Int)≤e.n
  ·have hq:Hid (aX H.ma P.sp n=7):=Lib.hid (by rw[hE.out,if_pos (.inl c1)])
   refine aF 14 [_,_,_,_,_,_,_,_,_,_,_,_,_,.v (.bool true)] (Gf ge 1 rfl rfl (Gl ex rfl rfl rfl rfl rfl (Gk rfl (Gk rfl (Gf b 2 rfl rfl (Gl hbk4 rfl rfl rfl rfl rfl (Gn rfl rfl rfl rfl (Gb (.bool true) (by simp[go_sem,c1]) rfl rfl rfl rfl rfl (Gk rfl (Gk rfl (Gk rfl (Gk rfl (Gk rfl (Gk rfl (all_nil))))))))))))))) (fun _=>rfl) rfl ?_
   intro y W5 hbW5 _
   have hbr5:=ag hbr4 hbW5
   clear hbW5
   go_wp2
   go_ret
   rw[hq.out]
   exact⟨rfl,hbr5⟩
  ·cases c2:a.sh with
   | true=>
    have hq:Hid (aX H.ma P.sp n=7):=Lib.hid (by rw[hE.out,if_pos (.inr c2)])
    refine aF 14 [_,_,_,_,_,_,_,_,_,_,_,_,_,.v (.bool true)] (Gf ge 1 rfl rfl (Gl ex rfl rfl rfl rfl rfl (Gk rfl (Gk rfl (Gf b 2 rfl rfl (Gl hbk4 rfl rfl rfl rfl rfl (Gn rfl rfl rfl rfl (Gb (.bool false) (by simp[go_sem,c1]) rfl rfl rfl rfl rfl (Gk rfl (Gk rfl (Gk rfl (Gf ba (oa+k*7+4) rfl rfl (Gc (.bool true) (fun W hb=>by simp[hA4 _ hb,c2]) rfl rfl rfl rfl (Gk rfl (all_nil))))))))))))))) (fun _=>rfl) rfl ?_
    intro y W5 hbW5 _
    have hbr5:=ag hbr4 hbW5
    clear hbW5
    go_wp2
    go_ret
    rw[hq.out]
    exact⟨rfl,hbr5⟩
   | false=>
    have hq:Hid (aX H.ma P.sp n=0):=Lib.hid (by rw[hE.out,if_neg (by rw[c2];simp;omega)])
    refine aF 14 [_,_,_,_,_,_,_,_,_,_,_,_,_,.v (.bool false)] (Gf ge 1 rfl rfl (Gl ex rfl rfl rfl rfl rfl (Gk rfl (Gk rfl (Gf b 2 rfl rfl (Gl hbk4 rfl rfl rfl rfl rfl (Gn rfl rfl rfl rfl (Gb (.bool false) (by simp[go_sem,c1]) rfl rfl rfl rfl rfl (Gk rfl (Gk rfl (Gk rfl (Gf ba (oa+k*7+4) rfl rfl (Gc (.bool false) (fun W hb=>by simp[hA4 _ hb,c2]) rfl rfl rfl rfl (Gk rfl (all_nil))))))))))))))) (fun _=>rfl) rfl ?_
    intro y W5 hbW5 _
    have hbr5:=ag hbr4 hbW5
    clear hbW5
    go_wp2
    go_ret
    rw[hq.out]
    exact⟨rfl,hbr5⟩
 rw[if_neg hk2] at hE
 obtain⟨K,hK⟩:∃K:Nat,e.n=K:=⟨e.n.toNat,by omega⟩
 rw[hK] at hE
 go_upto_region 9 with (fail)
 clear hce
 by_cases c3:(H.m.fs.length:Int)≤(K:Int)
 ·have hq:Hid (aX H.ma P.sp n=3):=Lib.hid (by rw[hE.out,if_pos c3])
  have c3e:(H.m.fs.length:Int)≤e.n:=by omega
  refine aF 9 [_,_,_,_,_,_,_,_,_] (Gf ge 1 rfl rfl (Gl ex rfl rfl rfl rfl rfl (Gk rfl (Gk rfl (Gf b 0 rfl rfl (Gf b 0 rfl rfl (Gl hbk4 rfl rfl rfl rfl rfl (Gn rfl rfl rfl rfl (Gb (.bool true) (by simp[go_sem,c3e]) rfl rfl rfl rfl rfl (all_nil)))))))))) (fun _=>rfl) rfl ?_
  intro y W5 hbW5 _
  have hbr5:=ag hbr4 hbW5
  clear hbW5 hA0 hA3 hA4 hA5 hA6 c3 c3e
  go_wp2
  go_ret
  rw[hq.out]
  exact⟨rfl,hbr5⟩
 rw[if_neg c3] at hE
 have c3e:¬(H.m.fs.length:Int)≤e.n:=by omega
 refine aF 9 [_,_,_,_,_,_,_,_,_] (Gf ge 1 rfl rfl (Gl ex rfl rfl rfl rfl rfl (Gk rfl (Gk rfl (Gf b 0 rfl rfl (Gf b 0 rfl rfl (Gl hbk4 rfl rfl rfl rfl rfl (Gn rfl rfl rfl rfl (Gb (.bool false) (by simp[go_sem,c3e]) rfl rfl rfl rfl rfl (all_nil)))))))))) (fun _=>rfl) rfl ?_
 intro y W5 hbW5 _
 have hbr5:=ag hbr4 hbW5
 have hKl:K<H.m.fs.length:=by omega
 replace ex:=ex.ext hbW5
 have hbk5:=hbk.ext hbr5
 have h5:=h.below hbr5
 have sh:∀ {u:Value} {z:Addr},(∀W,Below w4.heap.size w4 W→W.cell? z=some u)→∀W,Below W5.heap.size W5 W→W.cell? z=some u:=fun hh W hb=>hh W (ag hbW5 hb)
 replace hA0:=sh hA0
 replace hA3:=sh hA3
 replace hA4:=sh hA4
 replace hA5:=sh hA5
 replace hA6:=sh hA6
 obtain⟨bg,og,haf,hfrd⟩:=fu eu (by decide) h5.fr.rd K hKl
 have hxf:H.m.fs[K]=dL H.ma K:=by
  have:=xY (m:=H.ma) (f:=K) hKl
  have h2:H.m.fs[K]?=some (dL H.ma K):=this
  rw[List.getElem?_eq_getElem hKl] at h2
  exact Option.some.inj h2
 rw[hxf] at hfrd
 have hE2:Hid (aX H.ma P.sp n=(let of:=decide (0≤a.fi)&&decide ((dL H.ma K).f=a.fi)&&decide ((dL H.ma K).i=a.ba+n-a.fr)
  if 0≤(dL H.ma K).f∧of=false∨a.sh=true∧of=false∨a.sh=false∧of=true∧e.w=true∨e.w=true∧a.wr=false then 7
  else if (dL H.ma K).f<0∧e.w=true∧1<(dL H.ma K).r then 7 else 0)):=Lib.hid (by rw[hE.out];rfl)
 generalize dL H.ma K=x at *
 clear hE hxf hbW5 hbk4 h4 hbr4 c3 sh
 go_upto_region 11 with (fail)
 refine aF 9 [_,_,_,_,_,_,_,_,.v (.pointer (some ⟨bg,og+K*13,none⟩))] (Gk rfl (Gk rfl (Gf b 0 rfl rfl (Gf b 0 rfl rfl (Gl hbk5 (V:=.slice (some ⟨bg,og,none⟩) H.m.fs.length H.cf) (by simp[bP,haf]) rfl rfl rfl rfl (Gf ge 1 rfl rfl (Gl ex (V:=.int .i64 (K:Int)) (by simp[fK,hK]) rfl rfl rfl rfl (Gr (.pointer (some ⟨bg,og+K*13,none⟩)) (fun ρ y W hb hKn=>(aT rfl (az rfl hKn) (az rfl hKn) hKl Try.underlying25 frame_size)) rfl rfl (Gk rfl (all_nil)))))))))) (fun _=>rfl) rfl ?_
 intro y W7 hbW7 _
 have hbr7:=ag hbr5 hbW7
 have ex7:=ex.ext hbW7
 have hbk7:=hbk.ext hbr7
 have sh:∀ {u:Value} {z:Addr},(∀W,Below W5.heap.size W5 W→W.cell? z=some u)→∀W,Below W7.heap.size W7 W→W.cell? z=some u:=fun hh W hb=>hh W (ag hbW7 hb)
 replace hA0:=sh hA0
 replace hA3:=sh hA3
 replace hA4:=sh hA4
 replace hA5:=sh hA5
 replace hA6:=sh hA6
 have hfrd7:=hfrd.below hbW7
 clear ex hbk5 hbW7 sh hfrd hbr5 h5
 have hw1:IntKind.i64.wrap (a.ba+n)=a.ba+n:=IntWalk.i64_in _ (by obtain⟨⟨z1,z2⟩,⟨z3,z4⟩,z5,z6⟩:=hafew;omega)
 have hw2:IntKind.i64.wrap (a.ba+n-a.fr)=a.ba+n-a.fr:=IntWalk.i64_in _ (by obtain⟨⟨z1,z2⟩,⟨z3,z4⟩,z5,z6⟩:=hafew;omega)
 go_upto_region 12 with (fail)
 refine aF 12 [_,_,_,_,_,_,_,_,_,_,_,.v (.int .i64 (a.ba+n-a.fr))] (Gk rfl (Gk rfl (Gf ba (oa+k*7+6) rfl rfl (Gc (.int .i64 a.ba) (fun W hb=>by simp[hA6 _ hb]) rfl rfl rfl rfl (Gk rfl (Gb (.int .i64 (a.ba+n)) (by simp[go_sem,hw1]) rfl rfl rfl rfl rfl (Gk rfl (Gk rfl (Gf ba (oa+k*7) rfl rfl (Gc (.int .i64 a.fr) (fun W hb=>by simp[hA0 _ hb]) rfl rfl rfl rfl (Gb (.int .i64 (a.ba+n-a.fr)) (by simp[go_sem,hw2]) rfl rfl rfl rfl rfl (Gk rfl (all_nil))))))))))))) (fun _=>rfl) rfl ?_
 intro y W5 hbW5 _
 have hbr5:=ag hbr7 hbW5
 have ex:=ex7.ext hbW5
 have hbk5:=hbk.ext hbr5
 have sh:∀ {u:Value} {z:Addr},(∀W,Below W7.heap.size W7 W→W.cell? z=some u)→∀W,Below W5.heap.size W5 W→W.cell? z=some u:=fun hh W hb=>hh W (ag hbW5 hb)
 replace hA3:=sh hA3
 replace hA4:=sh hA4
 replace hA5:=sh hA5
 have hfrd:=hfrd7.below hbW5
 clear ex7 hbk7 hbW5 sh hfrd7 hbr7 hw1 hw2 hA0 hA6
 have hXc:∀j u,(mD x)[j]?=some u→∀W,Below W5.heap.size W5 W→W.cell? ⟨bg,og+K*13+j,none⟩=some u:=fun j u hj W hb=>by
  obtain⟨b',o',e',hc⟩:=(hfrd.below hb) j u hj
  cases e'
  exact hc
 have hX8:=hXc 8 _ rfl
 have hX11:=hXc 11 _ rfl
 have hX12:=hXc 12 _ rfl
 clear hXc hfrd
 go_upto_region 13 with (fail)
 by_cases g1:0≤a.fi
 ·by_cases g2:x.f=a.fi
  ·by_cases g3:x.i=a.ba+n-a.fr
   ·skip
    refine aF 25 [_,_,_,_,_,_,_,_,_,_,_,_,_,_,_,_,_,_,_,_,_,_,_,_,.v (.bool true)] (Gk rfl (Gk rfl (Gf ba (oa+k*7+5) rfl rfl (Gc (.int .i64 a.fi) (fun W hb=>by simp[hA5 _ hb]) rfl rfl rfl rfl (Gb (.bool true) (by simp[go_sem,g1]) rfl rfl rfl rfl rfl (Gk rfl (Gk rfl (Gk rfl (Gf bg (og+K*13+11) rfl rfl (Gc (.int .i64 x.f) (fun W hb=>by simp[hX11 _ hb]) rfl rfl rfl rfl (Gk rfl (Gk rfl (Gf ba (oa+k*7+5) rfl rfl (Gc (.int .i64 a.fi) (fun W hb=>by simp[hA5 _ hb]) rfl rfl rfl rfl (Gb (.bool true) (by simp[go_sem,g2]) rfl rfl rfl rfl rfl (Gk rfl (Gk rfl (Gk rfl (Gk rfl (Gf bg (og+K*13+12) rfl rfl (Gc (.int .i64 x.i) (fun W hb=>by simp[hX12 _ hb]) rfl rfl rfl rfl (Gk rfl (Gb (.bool true) (by simp[go_sem,g3]) rfl rfl rfl rfl rfl (Gk rfl (Gk rfl (all_nil)))))))))))))))))))))))))) (fun _=>rfl) rfl ?_
    intro y W6 hbW6 _
    have hbr6:=ag hbr5 hbW6
    have x8:=hX8 _ hbW6
    have x11:=hX11 _ hbW6
    have a3:=hA3 _ hbW6
    have a4:=hA4 _ hbW6
    have hce:=(ex.ext hbW6).cell
    unfold fK at hce
    clear hbW6 hA3 hA4 hA5 hX8 hX11 hX12 ex hbk5
    have f1:0≤x.f:=by omega
    have f1n:¬x.f<0:=by omega
    replace hE2:Hid (aX H.ma P.sp n=if a.sh=false∧e.w=true∨e.w=true∧a.wr=false then 7 else 0):=Lib.hid (by
     rw[hE2.out,decide_eq_true g1,decide_eq_true g2,decide_eq_true g3]
     simp[f1n])
    clear g2 g3
    cases f2:a.sh with
    | true=>
     rw[f2] at a4
     cases f3:e.w with
     | false=>
      rw[f3] at hce
      have hq:Hid (aX H.ma P.sp n=0):=Lib.hid (by rw[hE2.out];simp[*];try omega)
      clear hE2
      go_wp2
      go_ret
      rw[hq.out]
      exact⟨rfl,hbr6⟩
     | true=>
      rw[f3] at hce
      cases f4:a.wr with
      | false=>
       rw[f4] at a3
       have hq:Hid (aX H.ma P.sp n=7):=Lib.hid (by rw[hE2.out];simp[*];try omega)
       clear hE2
       go_wp2
       go_ret
       rw[hq.out]
       exact⟨rfl,hbr6⟩
      | true=>
       rw[f4] at a3
       have hq:Hid (aX H.ma P.sp n=0):=Lib.hid (by rw[hE2.out];simp[*];try omega)
       clear hE2
       go_wp2
       go_ret
       rw[hq.out]
       exact⟨rfl,hbr6⟩
    | false=>
     rw[f2] at a4
     cases f3:e.w with
     | true=>
      rw[f3] at hce
      have hq:Hid (aX H.ma P.sp n=7):=Lib.hid (by rw[hE2.out];simp[*];try omega)
      clear hE2
      go_wp2
      go_ret
      rw[hq.out]
      exact⟨rfl,hbr6⟩
     | false=>
      rw[f3] at hce
      have hq:Hid (aX H.ma P.sp n=0):=Lib.hid (by rw[hE2.out];simp[*];try omega)
      clear hE2
      go_wp2
      go_ret
      rw[hq.out]
      exact⟨rfl,hbr6⟩
   ·skip
    refine aF 25 [_,_,_,_,_,_,_,_,_,_,_,_,_,_,_,_,_,_,_,_,_,_,_,_,.v (.bool false)] (Gk rfl (Gk rfl (Gf ba (oa+k*7+5) rfl rfl (Gc (.int .i64 a.fi) (fun W hb=>by simp[hA5 _ hb]) rfl rfl rfl rfl (Gb (.bool true) (by simp[go_sem,g1]) rfl rfl rfl rfl rfl (Gk rfl (Gk rfl (Gk rfl (Gf bg (og+K*13+11) rfl rfl (Gc (.int .i64 x.f) (fun W hb=>by simp[hX11 _ hb]) rfl rfl rfl rfl (Gk rfl (Gk rfl (Gf ba (oa+k*7+5) rfl rfl (Gc (.int .i64 a.fi) (fun W hb=>by simp[hA5 _ hb]) rfl rfl rfl rfl (Gb (.bool true) (by simp[go_sem,g2]) rfl rfl rfl rfl rfl (Gk rfl (Gk rfl (Gk rfl (Gk rfl (Gf bg (og+K*13+12) rfl rfl (Gc (.int .i64 x.i) (fun W hb=>by simp[hX12 _ hb]) rfl rfl rfl rfl (Gk rfl (Gb (.bool false) (by simp[go_sem,g3]) rfl rfl rfl rfl rfl (Gk rfl (Gk rfl (all_nil)))))))))))))))))))))))))) (fun _=>rfl) rfl ?_
    intro y W6 hbW6 _
    have hbr6:=ag hbr5 hbW6
    have x8:=hX8 _ hbW6
    have x11:=hX11 _ hbW6
    have a3:=hA3 _ hbW6
    have a4:=hA4 _ hbW6
    have hce:=(ex.ext hbW6).cell
    unfold fK at hce
    clear hbW6 hA3 hA4 hA5 hX8 hX11 hX12 ex hbk5
    have hof:(decide (0≤a.fi)&&decide (x.f=a.fi)&&decide (x.i=a.ba+n-a.fr))=false:=by simp[*]
    replace hE2:Hid (aX H.ma P.sp n=if 0≤x.f∨a.sh=true∨e.w=true∧a.wr=false then 7 else if x.f<0∧e.w=true∧1<x.r then 7 else 0):=Lib.hid (by
     rw[hE2.out,hof]
     simp)
    clear hof g2 g3
    by_cases f1:0≤x.f
    ·skip
     have hq:Hid (aX H.ma P.sp n=7):=Lib.hid (by rw[hE2.out];simp[*];try omega)
     clear hE2
     go_wp2
     go_ret
     rw[hq.out]
     exact⟨rfl,hbr6⟩
    have f1n:x.f<0:=by omega
    cases f2:a.sh with
    | true=>
     rw[f2] at a4
     have hq:Hid (aX H.ma P.sp n=7):=Lib.hid (by rw[hE2.out];simp[*];try omega)
     clear hE2
     go_wp2
     go_ret
     rw[hq.out]
     exact⟨rfl,hbr6⟩
    | false=>
     rw[f2] at a4
     cases f3:e.w with
     | false=>
      rw[f3] at hce
      have hq:Hid (aX H.ma P.sp n=0):=Lib.hid (by rw[hE2.out];simp[*];try omega)
      clear hE2
      go_wp2
      go_ret
      rw[hq.out]
      exact⟨rfl,hbr6⟩
     | true=>
      rw[f3] at hce
      cases f4:a.wr with
      | false=>
       rw[f4] at a3
       have hq:Hid (aX H.ma P.sp n=7):=Lib.hid (by rw[hE2.out];simp[*];try omega)
       clear hE2
       go_wp2
       go_ret
       rw[hq.out]
       exact⟨rfl,hbr6⟩
      | true=>
       rw[f4] at a3
       by_cases f5:1<x.r
       ·skip
        have hq:Hid (aX H.ma P.sp n=7):=Lib.hid (by rw[hE2.out];simp[*];try omega)
        clear hE2
        go_wp2
        go_ret
        rw[hq.out]
        exact⟨rfl,hbr6⟩
       ·skip
        have hq:Hid (aX H.ma P.sp n=0):=Lib.hid (by rw[hE2.out];simp[*];try omega)
        clear hE2
        go_wp2
        go_ret
        rw[hq.out]
        exact⟨rfl,hbr6⟩
  ·skip
   refine aF 25 [_,_,_,_,_,_,_,_,_,_,_,_,_,_,_,_,_,_,_,_,_,_,_,_,.v (.bool false)] (Gk rfl (Gk rfl (Gf ba (oa+k*7+5) rfl rfl (Gc (.int .i64 a.fi) (fun W hb=>by simp[hA5 _ hb]) rfl rfl rfl rfl (Gb (.bool true) (by simp[go_sem,g1]) rfl rfl rfl rfl rfl (Gk rfl (Gk rfl (Gk rfl (Gf bg (og+K*13+11) rfl rfl (Gc (.int .i64 x.f) (fun W hb=>by simp[hX11 _ hb]) rfl rfl rfl rfl (Gk rfl (Gk rfl (Gf ba (oa+k*7+5) rfl rfl (Gc (.int .i64 a.fi) (fun W hb=>by simp[hA5 _ hb]) rfl rfl rfl rfl (Gb (.bool false) (by simp[go_sem,g2]) rfl rfl rfl rfl rfl (Gk rfl (Gk rfl (Gk rfl (Gk rfl (Gk rfl (Gk rfl (Gk rfl (Gk rfl (Gk rfl (Gk rfl (all_nil)))))))))))))))))))))))))) (fun _=>rfl) rfl ?_
   intro y W6 hbW6 _
   have hbr6:=ag hbr5 hbW6
   have x8:=hX8 _ hbW6
   have x11:=hX11 _ hbW6
   have a3:=hA3 _ hbW6
   have a4:=hA4 _ hbW6
   have hce:=(ex.ext hbW6).cell
   unfold fK at hce
   clear hbW6 hA3 hA4 hA5 hX8 hX11 hX12 ex hbk5
   have hof:(decide (0≤a.fi)&&decide (x.f=a.fi)&&decide (x.i=a.ba+n-a.fr))=false:=by simp[*]
   replace hE2:Hid (aX H.ma P.sp n=if 0≤x.f∨a.sh=true∨e.w=true∧a.wr=false then 7 else if x.f<0∧e.w=true∧1<x.r then 7 else 0):=Lib.hid (by
    rw[hE2.out,hof]
    simp)
   clear hof g2
   by_cases f1:0≤x.f
   ·skip
    have hq:Hid (aX H.ma P.sp n=7):=Lib.hid (by rw[hE2.out];simp[*];try omega)
    clear hE2
    go_wp2
    go_ret
    rw[hq.out]
    exact⟨rfl,hbr6⟩
   have f1n:x.f<0:=by omega
   cases f2:a.sh with
   | true=>
    rw[f2] at a4
    have hq:Hid (aX H.ma P.sp n=7):=Lib.hid (by rw[hE2.out];simp[*];try omega)
    clear hE2
    go_wp2
    go_ret
    rw[hq.out]
    exact⟨rfl,hbr6⟩
   | false=>
    rw[f2] at a4
    cases f3:e.w with
    | false=>
     rw[f3] at hce
     have hq:Hid (aX H.ma P.sp n=0):=Lib.hid (by rw[hE2.out];simp[*];try omega)
     clear hE2
     go_wp2
     go_ret
     rw[hq.out]
     exact⟨rfl,hbr6⟩
    | true=>
     rw[f3] at hce
     cases f4:a.wr with
     | false=>
      rw[f4] at a3
      have hq:Hid (aX H.ma P.sp n=7):=Lib.hid (by rw[hE2.out];simp[*];try omega)
      clear hE2
      go_wp2
      go_ret
      rw[hq.out]
      exact⟨rfl,hbr6⟩
     | true=>
      rw[f4] at a3
      by_cases f5:1<x.r
      ·skip
       have hq:Hid (aX H.ma P.sp n=7):=Lib.hid (by rw[hE2.out];simp[*];try omega)
       clear hE2
       go_wp2
       go_ret
       rw[hq.out]
       exact⟨rfl,hbr6⟩
      ·skip
       have hq:Hid (aX H.ma P.sp n=0):=Lib.hid (by rw[hE2.out];simp[*];try omega)
       clear hE2
       go_wp2
       go_ret
       rw[hq.out]
       exact⟨rfl,hbr6⟩
 ·skip
  refine aF 25 [_,_,_,_,_,_,_,_,_,_,_,_,_,_,_,_,_,_,_,_,_,_,_,_,.v (.bool false)] (Gk rfl (Gk rfl (Gf ba (oa+k*7+5) rfl rfl (Gc (.int .i64 a.fi) (fun W hb=>by simp[hA5 _ hb]) rfl rfl rfl rfl (Gb (.bool false) (by simp[go_sem,g1]) rfl rfl rfl rfl rfl (Gk rfl (Gk rfl (Gk rfl (Gk rfl (Gk rfl (Gk rfl (Gk rfl (Gk rfl (Gk rfl (Gk rfl (Gk rfl (Gk rfl (Gk rfl (Gk rfl (Gk rfl (Gk rfl (Gk rfl (Gk rfl (Gk rfl (Gk rfl (all_nil)))))))))))))))))))))))))) (fun _=>rfl) rfl ?_
  intro y W6 hbW6 _
  have hbr6:=ag hbr5 hbW6
  have x8:=hX8 _ hbW6
  have x11:=hX11 _ hbW6
  have a3:=hA3 _ hbW6
  have a4:=hA4 _ hbW6
  have hce:=(ex.ext hbW6).cell
  unfold fK at hce
  clear hbW6 hA3 hA4 hA5 hX8 hX11 hX12 ex hbk5
  have hof:(decide (0≤a.fi)&&decide (x.f=a.fi)&&decide (x.i=a.ba+n-a.fr))=false:=by simp[*]
  replace hE2:Hid (aX H.ma P.sp n=if 0≤x.f∨a.sh=true∨e.w=true∧a.wr=false then 7 else if x.f<0∧e.w=true∧1<x.r then 7 else 0):=Lib.hid (by
   rw[hE2.out,hof]
   simp)
  clear hof g1
  by_cases f1:0≤x.f
  ·skip
   have hq:Hid (aX H.ma P.sp n=7):=Lib.hid (by rw[hE2.out];simp[*];try omega)
   clear hE2
   go_wp2
   go_ret
   rw[hq.out]
   exact⟨rfl,hbr6⟩
  have f1n:x.f<0:=by omega
  cases f2:a.sh with
  | true=>
   rw[f2] at a4
   have hq:Hid (aX H.ma P.sp n=7):=Lib.hid (by rw[hE2.out];simp[*];try omega)
   clear hE2
   go_wp2
   go_ret
   rw[hq.out]
   exact⟨rfl,hbr6⟩
  | false=>
   rw[f2] at a4
   cases f3:e.w with
   | false=>
    rw[f3] at hce
    have hq:Hid (aX H.ma P.sp n=0):=Lib.hid (by rw[hE2.out];simp[*];try omega)
    clear hE2
    go_wp2
    go_ret
    rw[hq.out]
    exact⟨rfl,hbr6⟩
   | true=>
    rw[f3] at hce
    cases f4:a.wr with
    | false=>
     rw[f4] at a3
     have hq:Hid (aX H.ma P.sp n=7):=Lib.hid (by rw[hE2.out];simp[*];try omega)
     clear hE2
     go_wp2
     go_ret
     rw[hq.out]
     exact⟨rfl,hbr6⟩
    | true=>
     rw[f4] at a3
     by_cases f5:1<x.r
     ·skip
      have hq:Hid (aX H.ma P.sp n=7):=Lib.hid (by rw[hE2.out];simp[*];try omega)
      clear hE2
      go_wp2
      go_ret
      rw[hq.out]
      exact⟨rfl,hbr6⟩
     ·skip
      have hq:Hid (aX H.ma P.sp n=0):=Lib.hid (by rw[hE2.out];simp[*];try omega)
      clear hE2
      go_wp2
      go_ret
      rw[hq.out]
      exact⟨rfl,hbr6⟩
def isK (i:Int) (c:Cc):Bool:=decide (c.k=i)
theorem BI (c:Cc) (i:Int) (g:Nat) (w:World) (hg:aC w g #[.int .i64 i] 3) :
  Calls Try.prog 41 #[.agg (qN c),.pointer (some ⟨g,0,none⟩)] w fun r w'=>r = .returned (.bool (isK i c))∧Below w.heap.size w w':=by
 go_enter Try.func41,Try.ntmps41
 go_upto_region 1 with (fail)
 refine eO (fun W=>Code.wp _ _ _ _ W) fun W0 hb0 hx0 hs0 => ?_
 clear hs0
 have hgx:=(hg.ext hb0).cell 0
 have hcx:=hx0.cell
 have q2:(qN c)[2]?=some (.int .i64 c.k):=rfl
 go_wp2
 go_ret
 exact⟨bD (by unfold isK;rfl),hb0⟩
theorem sM {w:World} {a:Option Addr} {l:List Cc} (h:bW w a (l.flatMap jI)) (k:Nat) (hk:k<l.length):∃b off,a=some ⟨b,off,none⟩∧bW w (some ⟨b,off+k*3,none⟩) (jI l[k]):=fu jg (by decide) h k hk
theorem ES (l:List Cc) (a:Option Addr) (c:Nat) (w:World) (hrd:bW w a (l.flatMap jI)) (hl:l.length≤9223372036854775807) (g:Nat) (kk:Int) (hg:aC w g #[.int .i64 kk] 3) :
  Calls Try.prog 84 #[.slice a l.length c,.func (.func 41) #[] #[.pointer (some ⟨g,0,none⟩)]] w fun e w'=>e = .returned (.int .i64 (idx (isK kk) l))∧Below w.heap.size w w':=by
 go_enter Try.func84,Try.ntmps84
 go_wp2
 go_loopw [8] (fun i wr => ∃k:Nat,k≤l.length∧i = .int .i64 k∧Below w.heap.size w wr∧∀i (h:i<l.length),i<k→(isK kk) l[i]=false) (fun i _=>l.length-(intOf i).toNat)
 case atStart=>exact⟨0,Nat.zero_le _,rfl,Below.refl _ _,fun i _ h=>absurd h (Nat.not_lt_zero _)⟩
 case round=>
  obtain⟨k,hk,rfl,hbr,hp0⟩:=hrel
  have hp:=Lib.hid hp0
  clear hp0
  by_cases hlt:k<l.length
  ·obtain⟨b,off,rfl,hel⟩:=sM (hrd.below hbr) k hlt
   go_wp2_with (refine ax _ _ rfl b (off+k*3) rfl rfl _ hel _ Try.underlying85 rfl cached_size ?_)
   refine (BI l[k] kk g _ (hg.ext hbr)).mono ?_
   rintro e w2 ⟨rfl,hb2⟩
   have hbel2:=ag hbr hb2
   clear hb2
   cases hpk:(isK kk) l[k]
   ·have hpk':=Lib.hid hpk
    clear hpk
    go_wp2
    go_roundw
    case rel=>exact⟨k+1,by omega,by go_num,hbel2,jv hp.out hlt hpk'.out⟩
    case measure=>simp[intOf];omega
   ·have hfin:=Lib.hid (xK (isK kk) l k hlt hp.out hpk)
    clear hpk
    go_wp2
    go_ret
    exact⟨aQ hfin.out.symm,hbel2⟩
  ·have hfin:=Lib.hid (mW (isK kk) l fun i h=>hp.out i h (by omega))
   go_wp2
   go_ret
   exact⟨aQ hfin.out.symm,hbr⟩
theorem Gh (l:List Cc) (a:Option Addr) (c:Nat) (w:World) (hrd:bW w a (l.flatMap jI)) (hl:l.length≤9223372036854775807) (g:Nat) (kk:Int) (hg:aC w g #[.int .i64 kk] 3) :
  Calls Try.prog 40 #[.slice a l.length c,.func (.func 41) #[] #[.pointer (some ⟨g,0,none⟩)]] w fun e w'=>e = .returned (.bool (l.any (isK kk)))∧Below w.heap.size w w':=by
 go_enter Try.func40,Try.ntmps40
 go_wp2_with fail
 refine (ES l a c _ hrd hl g kk hg).mono ?_
 rintro e w2 ⟨rfl,hb2⟩
 go_wp2
 go_ret
 exact⟨bD (kT _ _),hb2⟩
theorem zB (l m:List Int) (a a' : Option Addr) (c c' : Nat) (w:World) (hrd:bW w a (l.map eU)) (hrd' : bW w a' (m.map eU)) (hl:l.length≤9223372036854775807) (hl' : m.length≤9223372036854775807) :
  Calls Try.prog 42 #[.slice a l.length c,.slice a' m.length c'] w fun e w'=>e = .returned (.bool (l==m))∧Below w.heap.size w w':=by
 go_enter Try.func42,Try.ntmps42
 by_cases hlm:l.length=m.length
 ·have hne:((l.length:Int) != (m.length:Int))=false:=by simp[hlm]
  go_wp2
  go_loopw [13] (fun i wr => ∃k:Nat,k≤l.length∧i = .int .i64 k∧Below w.heap.size w wr∧∀i (h:i<l.length),i<k→l[i]=m[i]'(by omega)) (fun i _=>l.length-(intOf i).toNat)
  case atStart=>exact⟨0,Nat.zero_le _,rfl,Below.refl _ _,fun i _ h=>absurd h (Nat.not_lt_zero _)⟩
  case round=>
   obtain⟨k,hk,rfl,hbel,hp⟩:=hrel
   by_cases hlt:k<l.length
   ·obtain⟨b,off,rfl,hc⟩:=jk (hrd.below hbel) k hlt
    obtain⟨b',off',rfl,hc'⟩:=jk (hrd'.below hbel) k (by omega)
    have k1:(k:Int)<(m.length:Int):=by omega
    go_wp2_with fail
    go_quiet (fail)
    by_cases he:l[k]=m[k]'(by omega)
    ·have hz:(l[k] != m[k]'(by omega))=false:=by simp[he]
     go_wp2
     go_roundw
     case rel=>exact⟨k+1,by omega,by go_num,below_drewN hbel _,upto hp hlt he⟩
     case measure=>simp[intOf];omega
    ·have hz:(l[k] != m[k]'(by omega))=true:=by simp[he]
     go_wp2
     go_ret
     exact⟨bD (Df k hlt (by omega) he).symm,below_drewN hbel _⟩
   ·go_wp2
    all_goals
     go_ret
     exact⟨bD (DL hlm fun i h=>hp i h (by omega)).symm,hbel⟩
 ·have hne:((l.length:Int) != (m.length:Int))=true:=by simp;omega
  go_wp2
  go_ret
  refine⟨bD ?_,Below.refl _ _⟩
  symm
  rw[beq_eq_false_iff_ne]
  rintro rfl
  exact hlm rfl
theorem gN (n:Nat) (l:List Int):(fI n l).length=n:=by simp[fI]
theorem iK (n:Nat) (l:List Int) (i:Nat) (hi:i<n):(fI n l)[i]?=some (cnt l i:Int):=by simp[fI,hi]
theorem zI (l:List Int) (k i:Int):cnt (l++[k]) i=cnt l i+(if k=i then 1 else 0):=by
 rw[qy]
 congr 1
 unfold cnt
 rw[List.countP_cons,List.countP_nil]
 by_cases h:k=i
 ·simp[h]
 ·simp[h]
theorem uW (n:Nat) (l:List Int) (k:Nat) (hk:k<n):(fI n l).set k ((cnt l k:Int)+1)=fI n (l++[(k:Int)]):=by
 apply List.ext_getElem?
 intro i
 rw[List.getElem?_set,gN]
 by_cases e:k=i
 ·subst e
  rw[if_pos rfl,if_pos hk,iK _ _ _ hk,zI,if_pos rfl]
  simp
 ·rw[if_neg e]
  by_cases hi:i<n
  ·rw[iK _ _ _ hi,iK _ _ _ hi,zI,if_neg (by omega)];rfl
  ·rw[List.getElem?_eq_none (by rw[gN];omega),List.getElem?_eq_none (by rw[gN];omega)]
theorem zm (n:Nat):fI n []=List.replicate n 0:=by
 unfold fI cnt
 apply List.ext_getElem?
 intro i
 rw[List.getElem?_map,List.getElem?_replicate]
 by_cases hi:i<n
 ·rw[List.getElem?_range hi,if_pos hi];rfl
 ·rw[if_neg hi,List.getElem?_eq_none (by simp;omega)];rfl
theorem xM (l:List Int) (i:Int):cnt l i≤l.length:=List.countP_le_length
def IB (w:World) (g:Nat) (l:List Int):Prop:=aC w g (l.map eU).toArray 3
theorem wL (n:Nat):madeCells #[.int .i64 0] n=((List.replicate n (0:Int)).map eU).toArray:=by
 apply Array.ext
 ·simp[size_madeCells]
 ·intro i h1 h2
  simp[madeCells,eU,Nat.mod_one]
theorem IB.cell {w:World} {g:Nat} {l:List Int} (h:IB w g l) {k:Nat} {v:Int} (hv:l[k]?=some v):w.cell? ⟨g,k,none⟩=some (.int .i64 v):=by
 have:=aC.cell h k
 rw[this]
 simp[hv,eU]
theorem IB.set {l:List Int} {k:Nat} {v:Int} (hk:k<l.length):putAt (l.map eU).toArray k [.int .i64 v]=((l.set k v).map eU).toArray:=by
 show ((l.map eU).toArray).setIfInBounds k (.int .i64 v)=_
 rw[List.map_set]
 simp[eU]
def bQ (m:Ma) (p:Nat) (n:Int) (x:En):Ma:=setTb m p (mE (dM m p).tb n x)
theorem vw {kd i:Int} {e:En} (h:e.k=0) (hk:kd≠0):rA (kN kd i e)=0:=by
 unfold rA kN
 rw[if_neg]
 simp only[Bool.and_eq_true,decide_eq_true_eq]
 intro h'; omega
theorem pF {kd i:Int} {e:En}:rA (kN kd i e)=if e.k=kd∧e.n=i then 1 else 0:=by
 unfold rA kN
 by_cases h:e.k=kd∧e.n=i
 ·rw[if_pos h,if_pos (by simp[h.1,h.2])]
 ·rw[if_neg h,if_neg]
  simp only[Bool.and_eq_true,decide_eq_true_eq]
  exact h
theorem wW {m:Ma} (h:Rt m) {q:Nat} {j:Int} {f:Nat} (hk:(ent m q j).k=1) (he:(ent m q j).n.toNat=f):0<dw m 1 f∧f<m.m.fs.length:=by
 have h3:=ng (m:=m) (p:=q) (n:=j) (by rw[hk];decide)
 have h5:=(bF _).1 (rf h.pt q j)
 have h4:=(vz (m:=m) (kd:=1) (i:=f) (by decide)).2 ⟨q,j,h3.1,h3.2,hk,by omega⟩
 obtain⟨g,_,hg⟩:=h.en q j (by rw[hk];decide)
 have:=hg.lt hk
 exact⟨h4,by omega⟩
theorem pE {m:Ma} (h:Rt m) (hc:Co m) {p:Nat} {n:Int} {f:Nat} {X:Fr} {x:En} {g:Pg} (hp:p<m.sp.length) (hn:0≤n∧n<64) (h0:(ent m p n).k=0) (hf:f<m.m.fs.length)
  (hxk:x.k=1) (hxn:x.n=f) (hX:dh X=0) (hr:X.r=(dL m f).r+1)
  (hold:(dL m f).r≠0→X.f=(dL m f).f∧X.i=(dL m f).i∧X.p=(dL m f).p∧X.d=(dL m f).d)
  (hnew:(dL m f).r=0→X.f<0∧X.d=false)
  (hw:X.f<0→∀q j,(ent m q j).k=1→(ent m q j).n.toNat=f→(ent m q j).w=false)
  (hg:kC m p n=some g) (hfit:Ir X g x.w):Rt (bQ (setFr m f X) p n x)∧Co (bQ (setFr m f X) p n x):=by
 have hpt1:Pt (setFr m f X):=h.pt.setFr hX
 have hxE:cO x=0:=(bF x).2 (.inr (.inl ⟨hxk,by have:=((eB _).1 h.pt.fr).1;omega⟩))
 obtain⟨hs0,_,hpt⟩:=mX (k:=⟨setFr m f X,0⟩) (p:=p) (n:=n) (x:=x) hpt1 hn hxE
 have hp1:p<(setFr m f X).sp.length:=hp
 have hent:∀q j,ent (bQ (setFr m f X) p n x) q j=if q=p∧j=n then x else ent m q j:=fun q j=>qD hp1 hs0 q j
 have hfr:∀y,dL (bQ (setFr m f X) p n x) y=if y=f then X else dL m y:=fun y=>Ci hf y
 have hlen:(bQ (setFr m f X) p n x).m.fs.length=m.m.fs.length:=wO
 have hcnt:∀kd i,kd≠0→dw (bQ (setFr m f X) p n x) kd i=dw m kd i+rA (kN kd i x):=fun kd i hk=>by
  have h1:=qh hp1 hs0 kd i
  have h2:rA (kN kd i (ent (setFr m f X) p n))=0:=vw (e:=ent (setFr m f X) p n) h0 hk
  have h3:dw (setFr m f X) kd i=dw m kd i:=rfl
  unfold bQ
  omega
 have hsk0:kW m (setFr m f X):=kW.of rfl
 have hsk:kW m (bQ (setFr m f X) p n x):=hsk0.trans (kW.setTb (m:=setFr m f X) (p:=p) (t:=mE (dM (setFr m f X) p).tb n x))
 have hca:xQ (bQ (setFr m f X) p n x):=by
  refine⟨h.ca.file,fun c hcm => ?_,fun c hcm => ?_,h.ca.srt⟩
  ·rw[hlen];exact h.ca.lt c hcm
  ·have h1:=h.ca.fr c hcm
   rw[hfr]
   by_cases e:c.k.toNat=f
   ·rw[if_pos e]
    rw[e] at h1
    obtain⟨k1,k2,_⟩:=hold (by omega)
    exact⟨by omega,by omega,by omega⟩
   ·rw[if_neg e];exact h1
 refine⟨⟨hpt,h.trim,fun q hq => ?_,hca,fun q j hk => ?_,fun i hi => ?_,fun i hi hi0 => ?_,fun s hs => ?_⟩,⟨fun c hcm => ?_,fun c hcm hd => ?_,fun i hi hd => ?_⟩⟩
 ·rw[hsk.lv] at hq
  obtain⟨a1,a2⟩:=h.live q hq
  refine⟨by rw[hsk.ar];exact a1,fun j => ?_⟩
  rw[hent,if_neg]
  ·exact a2 j
  ·rintro⟨rfl,rfl⟩
   have:kC m q j=onA (dM m q).ar j:=rfl
   rw[this,a1] at hg
   cases hg
 ·have hpg:kC (bQ (setFr m f X) p n x) q j=kC m q j:=by unfold kC;rw[hsk.ar]
  rw[hpg]
  rw[hent] at hk ⊢
  by_cases e:q=p∧j=n
  ·rw[if_pos e] at hk ⊢
   rw[e.1,e.2]
   refine⟨g,hg,fun hk2=>by omega,fun _=>by rw[hlen];omega,fun _ => ?_⟩
   rw[hfr,if_pos (by omega)]
   exact hfit
  ·rw[if_neg e] at hk ⊢
   obtain⟨y,hy,hyf⟩:=h.en q j hk
   refine⟨y,hy,hyf.sw,by rw[hlen];exact hyf.lt,fun hk1 => ?_⟩
   rw[hfr]
   by_cases e2:(ent m q j).n.toNat=f
   ·rw[if_pos e2]
    have h1:=hyf.fr hk1
    rw[e2] at h1
    have h2:=wW h hk1 e2
    have h3:=h.cf f hf
    obtain⟨k1,k2,_,_⟩:=hold (by omega)
    obtain⟨f1,f2,f3,f4,f5⟩:=h1
    refine⟨by rw[k1,k2];exact f1,by rw[k1];exact f2,f3,by rw[k1];exact f4,fun hw1 hx0 => ?_⟩
    rw[hw hx0 q j hk1 e2] at hw1;cases hw1
   ·rw[if_neg e2];exact hyf.fr hk1
 ·have a1:xW (bQ (setFr m f X) p n x) i=xW m i:=rfl
  rw[hfr,a1,hcnt 1 i (by decide),pF]
  have h3:=h.cf i (by rw[←hlen];exact hi)
  by_cases e:i=f
  ·subst e
   rw[if_pos rfl,if_pos ⟨hxk,hxn⟩,hr];omega
  ·rw[if_neg e,if_neg (fun h'=>e (by omega))];omega
 ·rw[hfr] at hi0
  by_cases e:i=f
  ·subst e
   rw[if_pos rfl] at hi0
   by_cases hr0:(dL m i).r=0
   ·have:=(hnew hr0).1;omega
   ·obtain⟨k1,_⟩:=hold hr0
    exact h.fc i hf (by omega)
  ·rw[if_neg e] at hi0
   exact h.fc i (by rw[←hlen];exact hi) hi0
 ·rw[hcnt 2 s (by decide),pF,if_neg (fun h'=>by omega)]
  exact h.cs s hs
 ·have h1:=h.ca.fr c hcm
  rw[hfr]
  by_cases e:c.k.toNat=f
  ·rw[if_pos e]
   rw[e] at h1
   obtain⟨_,_,k3,_⟩:=hold (by omega)
   rw[k3,←e];exact hc.tail c hcm
  ·rw[if_neg e];exact hc.tail c hcm
 ·have h1:=h.ca.fr c hcm
  rw[hfr] at hd ⊢
  by_cases e:c.k.toNat=f
  ·rw[if_pos e] at hd ⊢
   rw[e] at h1
   obtain⟨_,_,k3,k4⟩:=hold (by omega)
   rw[k3,←e]
   exact hc.clean c hcm (by rw[e,←k4];exact hd)
  ·rw[if_neg e] at hd ⊢; exact hc.clean c hcm hd
 ·rw[hfr] at hd ⊢
  by_cases e:i=f
  ·subst e
   rw[if_pos rfl] at hd ⊢
   by_cases hr0:(dL m i).r=0
   ·rw[(hnew hr0).2] at hd;cases hd
   ·obtain⟨k1,_,_,k4⟩:=hold hr0
    rw[k1];exact hc.anon i hf (by rw[←k4];exact hd)
  ·rw[if_neg e] at hd ⊢; exact hc.anon i (by rw[←hlen];exact hi) hd
theorem wJ {m:Ma} (h:Rt m) (hc:Co m) {p:Nat} {n:Int} {s:Nat} {d:qm} {x:En} {g:Pg} (hp:p<m.sp.length) (hn:0≤n∧n<64) (h0:(ent m p n).k=0) (hs:s<m.sl.length)
  (hxk:x.k=2) (hxn:x.n=s) (hxw:x.w=false) (h1k:kL m s+1≤1000) (hd:bn d=0) (hdl:d.blocks.length=m.sw.blocks.length) (hg:kC m p n=some g) (hsh:g.sh=false) :
  Rt (bQ { setSl m s (kL m s+1) with sw:=d } p n x)∧Co (bQ { setSl m s (kL m s+1) with sw:=d } p n x):=by
 have hb:=h.pt.slB s
 have hpt0:Pt (setSl m s (kL m s+1)):=h.pt.setSl (by omega) h1k
 have hpt1:Pt { setSl m s (kL m s+1) with sw:=d }:={ hpt0 with sw:=hd,swl:=by show d.blocks.length=_;rw[hdl];exact hpt0.swl }
 have hxE:cO x=0:=(bF x).2 (.inr (.inr ⟨hxk,by have:=il h.pt.sl;omega,by have:=il h.pt.sl;omega,hxw⟩))
 obtain⟨hs0,_,hpt⟩:=mX (k:=⟨{ setSl m s (kL m s+1) with sw:=d },0⟩) (p:=p) (n:=n) (x:=x) hpt1 hn hxE
 have hp1:p<({ setSl m s (kL m s+1) with sw:=d }:Ma).sp.length:=hp
 generalize hm1:({ setSl m s (kL m s+1) with sw:=d }:Ma)=m1 at *
 have hsp:m1.sp=m.sp:=by rw[←hm1];rfl
 have hm:m1.m=m.m:=by rw[←hm1];rfl
 have hcaE:m1.ca=m.ca:=by rw[←hm1];rfl
 have hstE:m1.st=m.st:=by rw[←hm1];rfl
 have hdkE:m1.dk=m.dk:=by rw[←hm1];rfl
 have hslE:m1.sl=m.sl.set s (kL m s+1):=by rw[←hm1];rfl
 have hent1:∀q j,ent m1 q j=ent m q j:=fun q j=>by unfold ent dM;rw[hsp]
 have hent:∀q j,ent (bQ m1 p n x) q j=if q=p∧j=n then x else ent m q j:=fun q j=>by rw[←hent1];exact qD hp1 hs0 q j
 have hfr:∀y,dL (bQ m1 p n x) y=dL m y:=fun y=>by unfold dL bQ setTb;simp only;rw[hm]
 have hlen:(bQ m1 p n x).m.fs.length=m.m.fs.length:=by unfold bQ setTb;simp only;rw[hm]
 have hcnt:∀kd i,kd≠0→dw (bQ m1 p n x) kd i=dw m kd i+rA (kN kd i x):=fun kd i hk=>by
  have h1:=qh hp1 hs0 kd i
  have h2:rA (kN kd i (ent m1 p n))=0:=vw (by rw[hent1];exact h0) hk
  have h3:dw m1 kd i=dw m kd i:=by unfold dw;rw[hsp]
  unfold bQ
  omega
 have hsk:kW m (bQ m1 p n x):=(kW.of hsp).trans kW.setTb
 have hcaS:(bQ m1 p n x).ca=m.ca:=hcaE
 have hstS:(bQ m1 p n x).st=m.st:=hstE
 have hdkS:(bQ m1 p n x).dk=m.dk:=hdkE
 have hdisk:∀a b,jW (bQ m1 p n x) a b=jW m a b:=fun a b=>by unfold jW;rw[hstS,hdkS]
 refine⟨⟨hpt,by rw[hdkS,hstS];exact h.trim,fun q hq => ?_,⟨by rw[hcaS,hstS];exact h.ca.file,by rw[hcaS,hlen];exact h.ca.lt,fun c hcm=>by rw[hfr];exact h.ca.fr c (by rw[←hcaS];exact hcm),by rw[hcaS];exact h.ca.srt⟩,fun q j hk => ?_,fun i hi => ?_,fun i hi hi0 => ?_,fun i hi => ?_⟩,⟨fun c hcm => ?_,fun c hcm hd => ?_,fun i hi hd => ?_⟩⟩
 ·rw[hsk.lv] at hq
  obtain⟨a1,a2⟩:=h.live q hq
  refine⟨by rw[hsk.ar];exact a1,fun j => ?_⟩
  rw[hent,if_neg]
  ·exact a2 j
  ·rintro⟨rfl,rfl⟩
   have:kC m q j=onA (dM m q).ar j:=rfl
   rw[this,a1] at hg
   cases hg
 ·have hpg:kC (bQ m1 p n x) q j=kC m q j:=by unfold kC;rw[hsk.ar]
  have hsll:(bQ m1 p n x).sl.length=m.sl.length:=by show m1.sl.length=_;rw[hslE,List.length_set]
  rw[hpg]
  rw[hent] at hk ⊢
  by_cases e:q=p∧j=n
  ·rw[if_pos e] at hk ⊢
   rw[e.1,e.2]
   exact⟨g,hg,fun _=>⟨by rw[hsll];omega,hsh⟩,fun hk1=>by omega,fun hk1=>by omega⟩
  ·rw[if_neg e] at hk ⊢
   obtain⟨y,hy,hyf⟩:=h.en q j hk
   exact⟨y,hy,by rw[hsll];exact hyf.sw,by rw[hlen];exact hyf.lt,fun hk1=>by rw[hfr];exact hyf.fr hk1⟩
 ·have a1:xW (bQ m1 p n x) i=xW m i:=by unfold xW;rw[hcaS]
  rw[hfr,a1,hcnt 1 i (by decide),pF,if_neg (fun h'=>by omega)]
  exact h.cf i (by rw[←hlen];exact hi)
 ·rw[hcaS]
  rw[hfr] at hi0
  exact h.fc i (by rw[←hlen];exact hi) hi0
 ·have hi' : i<m.sl.length:=by
   have:(bQ m1 p n x).sl=m1.sl:=rfl
   rw[this,hslE,List.length_set] at hi;exact hi
  have hsl:kL (bQ m1 p n x) i=if i=s then kL m s+1 else kL m i:=by
   have h1:=Ib (x:=kL m s+1) hs i
   have h2:kL (bQ m1 p n x) i=kL (setSl m s (kL m s+1)) i:=by unfold kL;show m1.sl.getD i 0=_;rw[hslE];rfl
   rw[h2,h1]
  rw[hsl,hcnt 2 i (by decide),pF]
  have h3:=h.cs i hi'
  by_cases e:i=s
  ·subst e
   rw[if_pos rfl,if_pos ⟨hxk,hxn⟩];omega
  ·rw[if_neg e,if_neg (fun h'=>e (by omega))];omega
 ·rw[hfr,hstS];rw[hcaS] at hcm;exact hc.tail c hcm
 ·rw[hcaS] at hcm;rw[hfr] at hd ⊢; rw[hdisk];exact hc.clean c hcm hd
 ·rw[hfr] at hd ⊢; exact hc.anon i (by rw[←hlen];exact hi) hd
theorem Bi {m:Ma} (h:Rt m) (hc:Co m) {p:Nat} {n:Int} (hk:(ent m p n).k=1):Rt (bQ m p n ⟨1,(ent m p n).n,false⟩)∧Co (bQ m p n ⟨1,(ent m p n).n,false⟩):=by
 have hin:=ng (m:=m) (p:=p) (n:=n) (by rw[hk];decide)
 have hE:=(bF _).1 (rf h.pt p n)
 have hxE:cO ⟨1,(ent m p n).n,false⟩=0:=(bF _).2 (.inr (.inl ⟨rfl,by show 0≤(ent m p n).n;omega,by show (ent m p n).n<40;omega⟩))
 generalize hx:(⟨1,(ent m p n).n,false⟩:En)=x at *
 have hxk:x.k=1:=by rw[←hx]
 have hxn:x.n=(ent m p n).n:=by rw[←hx]
 have hxw:x.w=false:=by rw[←hx]
 obtain⟨hs0,_,hpt⟩:=mX (k:=⟨m,0⟩) (p:=p) (n:=n) (x:=x) h.pt hin.2 hxE
 have hent:∀q j,ent (bQ m p n x) q j=if q=p∧j=n then x else ent m q j:=fun q j=>qD hin.1 hs0 q j
 have hcnt:∀kd i,dw (bQ m p n x) kd i=dw m kd i:=fun kd i=>by
  have h1:=qh hin.1 hs0 kd i
  have h2:rA (kN kd i (ent m p n))=rA (kN kd i x):=by rw[pF,pF,hxk,hxn,hk]
  unfold bQ
  omega
 have hsk:kW m (bQ m p n x):=kW.setTb
 refine⟨⟨hpt,h.trim,fun q hq => ?_,⟨h.ca.file,h.ca.lt,h.ca.fr,h.ca.srt⟩,fun q j hk' => ?_,fun i hi=>by rw[hcnt];exact h.cf i hi,h.fc,fun s hs=>by rw[hcnt];exact h.cs s hs⟩,⟨hc.tail,hc.clean,hc.anon⟩⟩
 ·rw[hsk.lv] at hq
  obtain⟨a1,a2⟩:=h.live q hq
  refine⟨by rw[hsk.ar];exact a1,fun j => ?_⟩
  rw[hent,if_neg]
  ·exact a2 j
  ·rintro⟨rfl,rfl⟩
   have:=a2 j;omega
 ·have hpg:kC (bQ m p n x) q j=kC m q j:=by unfold kC;rw[hsk.ar]
  rw[hpg]
  rw[hent] at hk' ⊢
  by_cases e:q=p∧j=n
  ·rw[if_pos e] at hk' ⊢
   rw[e.1,e.2]
   obtain⟨y,hy,hyf⟩:=h.en p n (by rw[hk];decide)
   have h1:=hyf.lt hk
   obtain⟨f1,f2,f3,f4,f5⟩:=hyf.fr hk
   refine⟨y,hy,fun hk2=>by omega,fun _=>by rw[hxn];exact h1,fun _ => ?_⟩
   rw[hxn,hxw]
   exact⟨f1,f2,fun h=>(by cases h),fun h=>(by cases h),fun h=>(by cases h)⟩
  ·rw[if_neg e] at hk' ⊢
   obtain⟨y,hy,hyf⟩:=h.en q j hk'
   exact⟨y,hy,hyf.sw,hyf.lt,hyf.fr⟩
theorem Bp {m:Ma} (h:Rt m) (hc:Co m) {s:Sp} (hl:m.sp.length<4) (hv:s.lv=true) (ha:(aR s.ar).1=0) (ht:s.tb=zTb):Rt { m with sp:=m.sp++[s] }∧Co { m with sp:=m.sp++[s] }:=by
 have hspN:∀q,dM { m with sp:=m.sp++[s] } q=if q=m.sp.length then s else dM m q:=fun q=>by
  unfold dM
  show (m.sp++[s]).getD q zSp=_
  rw[List.getD_eq_getElem?_getD,List.getElem?_append]
  by_cases e:q<m.sp.length
  ·rw[if_pos e,if_neg (by omega),List.getD_eq_getElem?_getD]
  ·rw[if_neg e]
   by_cases e2:q=m.sp.length
   ·rw[if_pos e2,e2,Nat.sub_self];rfl
   ·rw[if_neg e2,List.getD_eq_getElem?_getD,List.getElem?_eq_none (by simp;omega),List.getElem?_eq_none (by omega)]
 have hent:∀q j,ent { m with sp:=m.sp++[s] } q j=ent m q j:=fun q j=>by
  unfold ent
  rw[hspN]
  by_cases e:q=m.sp.length
  ·rw[if_pos e,jL (by omega),ht];rfl
  ·rw[if_neg e]
 have hcnt:∀kd i,kd≠0→dw { m with sp:=m.sp++[s] } kd i=dw m kd i:=fun kd i hk=>by
  unfold dw
  show ((m.sp++[s]).map _).sum=_
  rw[List.map_append,List.sum_append]
  have:([s].map fun s=>(bu s.tb).countP (kN kd i)).sum=0:=by
   rw[List.map_singleton,List.sum_singleton,ht,List.countP_eq_zero]
   intro e he
   unfold bu at he
   obtain⟨j,_,rfl⟩:=List.mem_map.1 he
   rw[nK]
   unfold kN
   simp only[Bool.and_eq_true,decide_eq_true_eq]
   rintro⟨h1,_⟩
   exact hk h1.symm
  omega
 refine⟨⟨{ h.pt with spl:=by simp;omega,ar:=fun y hy => ?_,tb:=fun y hy => ?_ },h.trim,fun q hq => ?_,⟨h.ca.file,h.ca.lt,h.ca.fr,h.ca.srt⟩,fun q j hk => ?_,fun i hi=>by rw[hcnt 1 i (by decide)];exact h.cf i hi,h.fc,fun i hi=>by rw[hcnt 2 i (by decide)];exact h.cs i hi⟩,⟨hc.tail,hc.clean,hc.anon⟩⟩
 ·rcases List.mem_append.1 hy with hy|hy
  ·exact h.pt.ar y hy
  ·rw[List.mem_singleton.1 hy];exact ha
 ·rcases List.mem_append.1 hy with hy|hy
  ·exact h.pt.tb y hy
  ·rw[List.mem_singleton.1 hy,ht];decide
 ·rw[hspN] at hq ⊢
  by_cases e:q=m.sp.length
  ·rw[if_pos e,hv] at hq;cases hq
  ·rw[if_neg e] at hq ⊢
   refine⟨(h.live q hq).1,fun j=>by rw[hent];exact (h.live q hq).2 j⟩
 ·rw[hent] at hk ⊢
  obtain⟨y,hy,hyf⟩:=h.en q j hk
  have hq:=ng hk
  refine⟨y,?_,hyf.sw,hyf.lt,hyf.fr⟩
  unfold kC at hy ⊢
  rw[hspN,if_neg (by omega)]
  exact hy
def bY (T:List (List En)) (p:Nat):List En:=T.getD p []
def bZ (T:List (List En)) (p n:Nat):En:=(bY T p).getD n zEn
def bN (m:Ma) (T:List (List En)):Ma:={ m with sp:=(List.range m.sp.length).map fun p => { dM m p with tb:=dC (bY T p) } }
structure qM (m:Ma) (T:List (List En)):Prop where
 len:T.length=m.sp.length
 ln:∀t∈T,t.length=64
 en:∀t∈T,∀x∈t,cO x=0
theorem fP {m:Ma} {T:List (List En)}:(bN m T).sp.length=m.sp.length:=by unfold bN;simp
theorem qH {m:Ma} {T:List (List En)} {p:Nat} (hp:p<m.sp.length):dM (bN m T) p = { dM m p with tb:=dC (bY T p) }:=by
 have:dM (bN m T) p=((List.range m.sp.length).map fun p=>({ dM m p with tb:=dC (bY T p) }:Sp)).getD p zSp:=rfl
 rw[this,List.getD_eq_getElem?_getD,List.getElem?_map,List.getElem?_range hp]
 rfl
theorem qM.mem {m:Ma} {T:List (List En)} (h:qM m T) {p:Nat} (hp:p<m.sp.length):bY T p∈T:=by
 unfold bY
 rw[List.getD_eq_getElem?_getD,List.getElem?_eq_getElem (by rw[h.len];exact hp)]
 exact List.getElem_mem _
theorem qM.l64 {m:Ma} {T:List (List En)} (h:qM m T) {p:Nat} (hp:p<m.sp.length):(bY T p).length=64:=h.ln _ (h.mem hp)
theorem qM.right {m:Ma} {T:List (List En)} (h:qM m T) {p:Nat} (hp:p<m.sp.length):bB (dC (bY T p))=0:=sj (h.en _ (h.mem hp)) (h.l64 hp)
theorem gB {m:Ma} {T:List (List En)} (h:qM m T) {p n:Nat} (hp:p<m.sp.length) (hn:n<64):ent (bN m T) p n=bZ T p n:=by
 unfold ent bZ
 rw[qH hp]
 show bS (dC (bY T p)) n=_
 rw[oC (h.en _ (h.mem hp)) (h.l64 hp) hn,List.getD_eq_getElem?_getD,List.getElem?_eq_getElem (by rw[h.l64 hp];exact hn)]
 rfl
theorem pu {m:Ma} {T:List (List En)} (h:qM m T) {p n:Nat} (hp:p<m.sp.length) (hn:n<64):cO (bZ T p n)=0:=by
 unfold bZ
 rw[List.getD_eq_getElem?_getD,List.getElem?_eq_getElem (by rw[h.l64 hp];exact hn)]
 exact h.en _ (h.mem hp) _ (List.getElem_mem _)
def aW (T:List (List En)) (p n:Nat) (x:En):List (List En):=T.set p ((bY T p).set n x)
theorem jU {T:List (List En)} {p:Nat} (hp:p<T.length) {n:Nat} {x:En} (q:Nat):bY (aW T p n x) q=if q=p then (bY T p).set n x else bY T q:=by
 unfold bY aW
 rw[List.getD_eq_getElem?_getD,List.getElem?_set]
 by_cases e:q=p
 ·subst e;rw[if_pos rfl,if_pos hp,if_pos rfl];rfl
 ·rw[if_neg (fun h=>e h.symm),if_neg e,List.getD_eq_getElem?_getD]
theorem qM.set {m:Ma} {T:List (List En)} (h:qM m T) {p n:Nat} {x:En} (hp:p<m.sp.length) (hx:cO x=0):qM m (aW T p n x):=by
 refine⟨by unfold aW;rw[List.length_set];exact h.len,fun t ht => ?_,fun t ht y hy => ?_⟩
 ·rcases List.mem_or_eq_of_mem_set ht with ht|rfl
  ·exact h.ln t ht
  ·rw[List.length_set];exact h.l64 hp
 ·rcases List.mem_or_eq_of_mem_set ht with ht|rfl
  ·exact h.en t ht y hy
  ·rcases List.mem_or_eq_of_mem_set hy with hy|rfl
   ·exact h.en _ (h.mem hp) y hy
   ·exact hx
theorem nA {m:Ma} {T:List (List En)} (h:qM m T) {p n:Nat} {x:En} (hp:p<m.sp.length) (hn:n<64) (q j:Nat):bZ (aW T p n x) q j=if q=p∧j=n then x else bZ T q j:=by
 unfold bZ
 rw[jU (by rw[h.len];exact hp)]
 by_cases e:q=p
 ·subst e
  rw[if_pos rfl,List.getD_eq_getElem?_getD,List.getElem?_set]
  by_cases e2:j=n
  ·subst e2
   rw[if_pos rfl,if_pos (by rw[h.l64 hp];exact hn),if_pos ⟨rfl,rfl⟩];rfl
  ·rw[if_neg (fun h=>e2 h.symm),if_neg (fun h=>e2 h.2),List.getD_eq_getElem?_getD]
 ·rw[if_neg e,if_neg (fun h=>e h.1)]
theorem jT {m:Ma} {T:List (List En)} (h:qM m T) {p n:Nat} {x:En} (hp:p<m.sp.length) (hn:n<64) (hx:cO x=0):bQ (bN m T) p n x=bN m (aW T p n x):=by
 have hl:=h.l64 hp
 have hw:=h.right hp
 have hse:kZ (dC (bY T p)) n x=0:=Cz hw ⟨by omega,by omega⟩ hx
 have ht:mE (dC (bY T p)) n x=dC ((bY T p).set n x):=by
  rw[←oO (uK hse),qA hse,uD (h.en _ (h.mem hp)) hl,Int.toNat_natCast]
 unfold bQ setTb
 rw[qH hp]
 show { bN m T with sp:=(bN m T).sp.set p { dM m p with tb:=mE (dC (bY T p)) n x } }=bN m (aW T p n x)
 rw[ht]
 refine congrArg (fun s=>({ m with sp:=s }:Ma)) (?_:((List.range m.sp.length).map fun p=>({ dM m p with tb:=dC (bY T p) }:Sp)).set p { dM m p with tb:=dC ((bY T p).set n x) }=(List.range m.sp.length).map fun q=>({ dM m q with tb:=dC (bY (aW T p n x) q) }:Sp))
 apply List.ext_getElem?
 intro q
 rw[List.getElem?_set,List.getElem?_map,List.getElem?_map]
 simp only[List.length_map,List.length_range]
 by_cases e:q=p
 ·subst e
  rw[if_pos rfl,if_pos hp,List.getElem?_range hp,Option.map_some,jU (by rw[h.len];exact hp),if_pos rfl]
 ·rw[if_neg (fun h=>e h.symm)]
  by_cases hq:q<m.sp.length
  ·rw[List.getElem?_range hq,Option.map_some,Option.map_some,jU (by rw[h.len];exact hp),if_neg e]
  ·rw[List.getElem?_eq_none (by simp;omega),Option.map_none,Option.map_none]
theorem qg {m:Ma} {T:List (List En)} {f:Nat} {X:Fr}:setFr (bN m T) f X=bN (setFr m f X) T:=rfl
theorem qM.fr {m:Ma} {T:List (List En)} (h:qM m T) {f:Nat} {X:Fr}:qM (setFr m f X) T:=⟨h.len,h.ln,h.en⟩
theorem qM.sps {m m' : Ma} {T:List (List En)} (h:qM m T) (e:m'.sp.length=m.sp.length):qM m' T:=⟨by rw[e];exact h.len,h.ln,h.en⟩
theorem iE {m:Ma} {T:List (List En)} {p:Nat} (hp:p<m.sp.length) (n:Int):kC (bN m T) p n=onA (dM m p).ar n:=by
 unfold kC;rw[qH hp]
theorem Bg {m:Ma} {T:List (List En)} (h:qM m T) (s:Sp):bN { m with sp:=m.sp++[s] } (T++[List.replicate 64 zEn]) = { bN m T with sp:=(bN m T).sp++[{ s with tb:=zTb }] }:=by
 have hz:dC (List.replicate 64 zEn)=zTb:=by decide +kernel
 unfold bN
 simp only[Ma.mk.injEq,true_and,List.length_append,List.length_singleton]
 rw[List.range_succ,List.map_append]
 congr 1
 ·apply List.map_congr_left
  intro p hp
  have hp':=List.mem_range.1 hp
  unfold dM bY
  simp only[List.getD_eq_getElem?_getD]
  rw[List.getElem?_append_left hp',List.getElem?_append_left (by rw[h.len];exact hp')]
 ·unfold dM bY
  simp only[List.map_cons,List.map_nil,List.getD_eq_getElem?_getD]
  rw[List.getElem?_append_right (Nat.le_refl _),Nat.sub_self,←h.len,List.getElem?_append_right (Nat.le_refl _),Nat.sub_self]
  simp only[List.getElem?_cons_zero,Option.getD_some]
  rw[hz]
theorem qM.more {m:Ma} {T:List (List En)} (h:qM m T) (s:Sp):qM { m with sp:=m.sp++[s] } (T++[List.replicate 64 zEn]):=by
 refine⟨by simp[h.len],fun t ht => ?_,fun t ht x hx => ?_⟩
 ·rcases List.mem_append.1 ht with ht|ht
  ·exact h.ln t ht
  ·rw[List.mem_singleton.1 ht,List.length_replicate]
 ·rcases List.mem_append.1 ht with ht|ht
  ·exact h.en t ht x hx
  ·rw[List.mem_singleton.1 ht] at hx
   rw[(List.mem_replicate.1 hx).2];decide
def oU (m1:Ma) (g:Nat) (X:Fr) (f i:Int):Ma:={ setFr m1 g X with ca:=m1.ca.insertIdx (zV m1.ca f i) ⟨f,i,g⟩ }
theorem Il {m1:Ma} {g:Nat} {f i:Int} {X:Fr} (h:Rt m1) (hc:Co m1) (hg:g<m1.m.fs.length) (hz:(dL m1 g).r=0) (hin:GN m1.st f i) (hno:∀c∈m1.ca,¬(c.f=f∧c.i=i))
  (hX:X.r=1∧X.f=f∧X.i=i) (ht:dE X.p ((fileAt m1.st f).n-i*8)=X.p) (hd:X.d=false→X.p=jW m1 f i) :
  Rt (oU m1 g X f i)∧Co (oU m1 g X f i):=by
 have hlim:=xz h.pt.st hin
 have hxE:dh X=0:=by
  rw[oV]
  have h1:=hin.1;have h2:=hin.2
  exact⟨⟨by omega,by omega,by omega,by omega,by omega,by omega⟩,fun e=>by omega,fun e=>by omega⟩
 have hfr:∀x,dL (oU m1 g X f i) x=if x=g then X else dL m1 x:=fun x=>Ci hg x
 have hfrn:∀x,x≠g→dL (oU m1 g X f i) x=dL m1 x:=fun x hx=>by rw[hfr,if_neg hx]
 have hlen:(oU m1 g X f i).m.fs.length=m1.m.fs.length:=wO
 have hmem:∀c,c∈(oU m1 g X f i).ca↔c=⟨f,i,g⟩∨c∈m1.ca:=fun c=>List.mem_insertIdx (EI _ _ _)
 have hkg:∀c∈m1.ca,c.k.toNat≠g:=fun c hcm e=>by
  have:=(h.ca.fr c hcm).1
  rw[e,hz] at this
  exact absurd this (by decide)
 have hdisk:∀f' i',jW (oU m1 g X f i) f' i' = jW m1 f' i':=fun _ _=>rfl
 have hholdg:dw m1 1 g=0∧xW m1 g=0:=by
  have:=h.cf g hg
  omega
 have hpt:Pt (oU m1 g X f i):={ fr:=Gv h.pt.fr hxE,sl:=h.pt.sl,sw:=h.pt.sw,dk:=h.pt.dk,st:=h.pt.st,swl:=h.pt.swl,dkl:=h.pt.dkl,spl:=h.pt.spl,ar:=h.pt.ar,tb:=h.pt.tb }
 have hcaok:xQ (oU m1 g X f i):=by
  refine⟨fun c hcm => ?_,fun c hcm => ?_,fun c hcm => ?_,uw h.ca.srt hno⟩
  ·rcases (hmem c).1 hcm with rfl|hcm
   ·exact hin
   ·exact h.ca.file c hcm
  ·rw[hlen]
   rcases (hmem c).1 hcm with rfl|hcm
   ·show 0≤(g:Int)∧(g:Int)<_;omega
   ·exact h.ca.lt c hcm
  ·rcases (hmem c).1 hcm with rfl|hcm
   ·rw[hfr,if_pos (Int.toNat_natCast g)]
    exact⟨by omega,hX.2.1,hX.2.2⟩
   ·rw[hfrn _ (hkg c hcm)];exact h.ca.fr c hcm
 have hent:∀p n,ent (oU m1 g X f i) p n=ent m1 p n:=fun _ _=>rfl
 have hentg:∀p n,(ent m1 p n).k=1→(ent m1 p n).n.toNat≠g:=by
  intro p n hk e
  have h3:=ng (m:=m1) (p:=p) (n:=n) (by rw[hk];decide)
  have h5:=(bF _).1 (rf h.pt p n)
  have h4:=(vz (m:=m1) (kd:=1) (i:=g) (by decide)).2 ⟨p,n,h3.1,h3.2,hk,by omega⟩
  omega
 refine⟨⟨hpt,h.trim,h.live,hcaok,fun p n hk => ?_,fun x hx => ?_,fun x hx h0 => ?_,h.cs⟩,⟨fun c hcm => ?_,fun c hcm hd' => ?_,fun x hx hd' => ?_⟩⟩
 ·rw[hent] at hk ⊢
  obtain⟨y,hy,hfit⟩:=h.en p n hk
  exact⟨y,hy,hfit.sw,by rw[hlen];exact hfit.lt,fun hk1=>by rw[hfrn _ (hentg p n hk1)];exact hfit.fr hk1⟩
 ·have a1:xW (oU m1 g X f i) x=xW m1 x+rA (decide ((g:Int)=x)):=oz _ _ _ _ (EI _ _ _)
  have a2:dw (oU m1 g X f i) 1 x=dw m1 1 x:=rfl
  rw[hfr,a1,a2]
  by_cases e:x=g
  ·subst e
   rw[if_pos rfl,hholdg.1,hholdg.2]
   have:rA (decide ((x:Int)=(x:Int)))=1:=by simp[rA]
   rw[this,hX.1];rfl
  ·rw[if_neg e]
   have:rA (decide ((g:Int)=(x:Int)))=0:=by unfold rA;rw[if_neg];simp only[decide_eq_true_eq];omega
   rw[this]
   exact h.cf x (by rw[←hlen];exact hx)
 ·by_cases e:x=g
  ·exact⟨⟨f,i,g⟩,(hmem _).2 (.inl rfl),by rw[e]⟩
  ·rw[hfrn x e] at h0
   obtain⟨c,hcm,hck⟩:=h.fc x (by rw[←hlen];exact hx) h0
   exact⟨c,(hmem c).2 (.inr hcm),hck⟩
 ·rcases (hmem c).1 hcm with rfl|hcm
  ·rw[hfr,if_pos (Int.toNat_natCast g)]
   exact ht
  ·rw[hfrn _ (hkg c hcm)];exact hc.tail c hcm
 ·rcases (hmem c).1 hcm with rfl|hcm
  ·rw[hfr,if_pos (Int.toNat_natCast g)] at hd' ⊢; rw[hdisk];exact hd hd'
  ·rw[hfrn _ (hkg c hcm)] at hd' ⊢
   rw[hdisk];exact hc.clean c hcm hd'
 ·by_cases e:x=g
  ·rw[hfr,if_pos e]
   have:=hin.1.1
   omega
  ·rw[hfrn x e] at hd' ⊢; exact hc.anon x (by rw[←hlen];exact hx) hd'
theorem GY {m:Ma} (h:Rt m) (hc:Co m) {x:Int} (hx:cZ ⟨m.m.fs,x⟩=0):Rt { m with m:=⟨m.m.fs,x⟩ }∧Co { m with m:=⟨m.m.fs,x⟩ }:=
 ⟨⟨{ h.pt with fr:=hx },h.trim,h.live,⟨h.ca.file,h.ca.lt,h.ca.fr,h.ca.srt⟩,fun p n hk=>have ⟨y,hy,hf⟩:=h.en p n hk;⟨y,hy,hf.sw,hf.lt,hf.fr⟩,h.cf,h.fc,h.cs⟩,⟨hc.tail,hc.clean,hc.anon⟩⟩
theorem El {α:Type} (g:α→Nat) (c:Nat) (h:∀x,g x≤c):∀l:List α,(l.map g).sum≤c*l.length
 | []=>by simp
 | x::l=>by
  have h1:=El g c h l
  have h2:=h x
  rw[List.map_cons,List.sum_cons,List.length_cons,Nat.mul_succ]
  omega
theorem nE (t:Tb):(bu t).length=64:=by unfold bu;simp
theorem tX (m:Ma) (kd i:Int):dw m kd i≤64*m.sp.length:=El _ 64 (fun s=>by rw[←nE s.tb];exact List.countP_le_length) _
theorem Eb {m:Ma} (h:xQ m) (i:Int):xW m i≤1:=wQ h.srt fun a ha b hb e=>h.uniq ha hb e
theorem Rt.fewR {m:Ma} (h:Rt m) {f:Nat} (hf:f<m.m.fs.length):0≤(dL m f).r∧(dL m f).r≤257:=by
 have h1:=h.cf f hf
 have h2:=tX m 1 f
 have h3:=Eb h.ca f
 have h4:=h.pt.spl
 omega
theorem Rt.fewS {m:Ma} (h:Rt m) {s:Nat} (hs:s<m.sl.length):0≤kL m s∧kL m s≤256:=by
 have h1:=h.cs s hs
 have h2:=tX m 2 s
 have h4:=h.pt.spl
 omega
theorem EM {m:Ma} (h:Pt m) {kd i:Int} (hk:kd≠0) {p q:Nat} {n j:Int} (h1:(ent m p n).k=kd∧(ent m p n).n=i) (h2:(ent m q j).k=kd∧(ent m q j).n=i) (hne:¬(q=p∧j=n)):2≤dw m kd i:=by
 have e1:=ng (m:=m) (p:=p) (n:=n) (by omega)
 have e2:=ng (m:=m) (p:=q) (n:=j) (by omega)
 obtain⟨hs0,_,_⟩:=mX (k:=⟨m,0⟩) (p:=p) (n:=n) (x:=zEn) h e1.2 (by decide)
 have a1:=qh e1.1 hs0 kd i
 have a2:rA (kN kd i (ent m p n))=1:=by rw[pF,if_pos h1]
 have a3:rA (kN kd i zEn)=0:=vw rfl hk
 have a4:0<dw (setTb m p (mE (dM m p).tb n zEn)) kd i:=by
  refine (vz hk).2 ⟨q,j,by rw[rG];exact e2.1,e2.2,?_⟩
  rw[qD e1.1 hs0,if_neg hne]
  exact h2
 have a5:dw ({ m:=m,e:=0 }:Kp).m kd i=dw m kd i:=rfl
 omega
def dS (x:Fr):Fr:={ x with r:=x.r+1 }
theorem BP {x:Fr} (h:dh x=0) (hr:x.r≠0) (h1:x.r<1000):dh (dS x)=0:=by
 rw[oV] at h ⊢
 obtain⟨⟨a,b,c⟩,d,e⟩:=h
 refine⟨⟨?_,?_,c⟩,fun h0 => ?_,e⟩
 ·show 0≤x.r+1;omega
 ·show x.r+1≤1000;omega
 ·have:x.r+1=0:=h0
  omega
theorem lw {m:Ma} (h:Rt m) {p:Nat} {n:Int} (hk:(ent m p n).k=1):∃f:Nat,(ent m p n).n=f∧f<m.m.fs.length∧(dL m f).r≠0∧p<m.sp.length∧(0≤n∧n<64)∧∃g,kC m p n=some g∧Ir (dL m f) g (ent m p n).w:=by
 have h1:=ng (m:=m) (p:=p) (n:=n) (by rw[hk];decide)
 have h2:=(bF _).1 (rf h.pt p n)
 obtain⟨g,hg,hf⟩:=h.en p n (by rw[hk];decide)
 have h3:=hf.lt hk
 have h4:=wW h hk rfl
 refine⟨(ent m p n).n.toNat,by omega,h4.2,?_,h1.1,h1.2,g,hg,hf.fr hk⟩
 have:=h.cf _ h4.2
 omega
theorem uh {m:Ma} (h:Rt m) (hc:Co m) {p q:Nat} {n:Int} {f:Nat} {g:Pg} (hk:(ent m p n).k=1) (hn:(ent m p n).n=f) (hq:q<m.sp.length) (h0:(ent m q n).k=0) (hg:kC m p n=some g) (hgq:kC m q n=some g) (hw:(ent m p n).w=true→g.sh=true)
  (hany:(dL m f).f<0→∀a j,(ent m a j).k=1→(ent m a j).n.toNat=f→(ent m a j).w=false) :
  Rt (bQ (setFr m f (dS (dL m f))) q n (ent m p n))∧Co (bQ (setFr m f (dS (dL m f))) q n (ent m p n)):=by
 obtain⟨f',e1,e2,e3,e4,e5,g',e6,e7⟩:=lw h hk
 have:f' = f:=by omega
 subst this
 rw[hg] at e6
 cases e6
 have hr:=h.fewR e2
 refine pE (g:=g) h hc hq e5 h0 e2 hk hn (BP (h.pt.frE e2) e3 (by omega)) rfl (fun _=>⟨rfl,rfl,rfl,rfl⟩) (fun h=>absurd h e3) hany hgq ?_
 obtain⟨f1,f2,f3,f4,f5⟩:=e7
 refine⟨f1,f2,f3,f4,fun hw' hx => ?_⟩
 have:=f2 (hw hw')
 have hx' : (dL m f').f<0:=hx
 omega
theorem BC {m:Ma} (h:Rt m) (hc:Co m) {p q:Nat} {n:Int} {f:Nat} {g:Pg} (hpq:p≠q) (hk:(ent m p n).k=1) (hn:(ent m p n).n=f) (hq:q<m.sp.length) (h0:(ent m q n).k=0) (hg:kC m p n=some g) (hgq:kC m q n=some g) :
  Rt (bQ (bQ (setFr m f (dS (dL m f))) p n ⟨1,f,false⟩) q n ⟨1,f,false⟩)∧Co (bQ (bQ (setFr m f (dS (dL m f))) p n ⟨1,f,false⟩) q n ⟨1,f,false⟩):=by
 obtain⟨f',e1,e2,e3,e4,e5,g',e6,e7⟩:=lw h hk
 have:f' = f:=by omega
 subst this
 obtain⟨a1,a2⟩:=Bi h hc hk
 rw[hn] at a1 a2
 obtain⟨hs0,_,_⟩:=mX (k:=⟨m,0⟩) (p:=p) (n:=n) (x:=⟨1,f',false⟩) h.pt e5 ((bF _).2 (.inr (.inl ⟨rfl,by show (0:Int)≤f'; omega,by have:=((eB _).1 h.pt.fr).1;show (f' : Int)<40;omega⟩)))
 have hent:∀a j,ent (bQ m p n ⟨1,f',false⟩) a j=if a=p∧j=n then ⟨1,f',false⟩ else ent m a j:=fun a j=>qD e4 hs0 a j
 have hp:ent (bQ m p n ⟨1,f',false⟩) p n=⟨1,f',false⟩:=by rw[hent,if_pos ⟨rfl,rfl⟩]
 have hsk:kW m (bQ m p n ⟨1,f',false⟩):=kW.setTb
 have hpg:∀a,kC (bQ m p n ⟨1,f',false⟩) a n=kC m a n:=fun a=>by unfold kC;rw[hsk.ar]
 have:=uh (p:=p) (q:=q) (n:=n) (f:=f') (g:=g) a1 a2 (by rw[hp]) (by rw[hp]) (by rw[hsk.len];exact hq) (by rw[hent,if_neg (fun h'=>hpq h'.1.symm)];exact h0) (by rw[hpg];exact hg) (by rw[hpg];exact hgq) (fun h'=>by rw[hp] at h'; cases h') (fun hx a j hk1 hk2 => ?_)
 ·rw[hp] at this
  exact this
 ·rw[hent] at hk1 hk2 ⊢
  by_cases e:a=p∧j=n
  ·rw[if_pos e]
  ·rw[if_neg e] at hk1 hk2 ⊢
   obtain⟨f2,b1,b2,b3,b4,b5,g2,b6,b7⟩:=lw h hk1
   have hf2:f2=f':=by omega
   subst hf2
   have h2:=EM h.pt (kd:=1) (i:=f2) (by decide) ⟨hk,hn⟩ ⟨hk1,b1⟩ e
   have h3:=h.cf f2 e2
   obtain⟨c1,c2,c3,c4,c5⟩:=b7
   cases hw:(ent m a j).w with
   | false=>rfl
   | true=>
    have:=c5 hw hx
    omega
theorem Bo {m:Ma} (h:Rt m) (hc:Co m) {p q:Nat} {n:Int} {s:Nat} {g:Pg} (hk:(ent m p n).k=2) (hn:(ent m p n).n=s) (hq:q<m.sp.length) (h0:(ent m q n).k=0) (hg:kC m p n=some g) (hgq:kC m q n=some g) :
  Rt (bQ (setSl m s (kL m s+1)) q n (ent m p n))∧Co (bQ (setSl m s (kL m s+1)) q n (ent m p n)):=by
 have h1:=ng (m:=m) (p:=p) (n:=n) (by rw[hk];decide)
 have h2:=(bF _).1 (rf h.pt p n)
 obtain⟨g',hg',hf⟩:=h.en p n (by rw[hk];decide)
 rw[hg] at hg'
 cases hg'
 have h3:=hf.sw hk
 have hs:s<m.sl.length:=by omega
 have h4:=h.fewS hs
 exact wJ (d:=m.sw) (g:=g) h hc hq h1.2 h0 hs hk hn ((h2.resolve_left (fun h'=>by omega)).resolve_left (fun h'=>by omega)).2.2.2 (by omega) h.pt.sw rfl hgq h3.2
structure Bd (m:Ma) (T:List (List En)):Prop where
 ok:qM m T
 rt:Rt (bN m T)
 co:Co (bN m T)
theorem Bd.of {m:Ma} {T:List (List En)} (ok:qM m T) (h:Rt (bN m T)∧Co (bN m T)):Bd m T:=⟨ok,h.1,h.2⟩
theorem Bd.few {m:Ma} {T:List (List En)} (h:Bd m T):m.m.fs.length≤40∧m.sl.length≤60∧m.sp.length≤4∧(m.dk.blocks.length:Int)=m.st.count∧aO m.st=0∧bn m.dk=0∧bn m.sw=0∧m.sw.blocks.length=m.sl.length:=
 ⟨((eB _).1 h.rt.pt.fr).1,il h.rt.pt.sl,by have:=h.rt.pt.spl;rw[fP] at this;exact this,h.rt.pt.dkl,h.rt.pt.st,h.rt.pt.dk,h.rt.pt.sw,h.rt.pt.swl⟩
theorem Bd.cachedE {m:Ma} {T:List (List En)} (h:Bd m T) {p n:Nat} (hp:p<m.sp.length) (hn:n<64) (h0:(bZ T p n).k=0) {c:Cc} (hcm:c∈m.ca) {g:Pg} (hg:onA (dM m p).ar n=some g) (hf:c.f=g.fi∧c.i=g.pg) {w:Bool} (hw:w=true→g.sh=true∧g.wr=true) :
  Bd (setFr m c.k.toNat (dS (dL m c.k.toNat))) (aW T p n ⟨1,c.k,w⟩):=by
 have hlt:=h.rt.ca.lt c hcm
 have hfr:=h.rt.ca.fr c hcm
 have hfi:=h.rt.ca.file c hcm
 have hlt' : c.k.toNat<m.m.fs.length:=by have:c.k<(bN m T).m.fs.length:=hlt.2;have e:(bN m T).m.fs.length=m.m.fs.length:=rfl;omega
 have hxE:cO ⟨1,c.k,w⟩=0:=(bF _).2 (.inr (.inl ⟨rfl,hlt.1,by have:=h.few.1;have:c.k<(bN m T).m.fs.length:=hlt.2;have e:(bN m T).m.fs.length=m.m.fs.length:=rfl;show c.k<40;omega⟩))
 have hfew:=h.rt.fewR hlt'
 have hfrN:dL (bN m T) c.k.toNat=dL m c.k.toNat:=rfl
 rw[hfrN] at hfr hfew
 refine .of (h.ok.fr.set hp hxE) ?_
 rw[←jT h.ok.fr hp hn hxE,←qg]
 refine pE (g:=g) (f:=c.k.toNat) h.rt h.co (by rw[fP];exact hp) ⟨by omega,by omega⟩ (by rw[gB h.ok hp hn];exact h0) hlt' rfl (by show c.k=_;omega) (BP (h.rt.pt.frE hlt') (by omega) (by omega)) rfl (fun _=>⟨rfl,rfl,rfl,rfl⟩) (fun h'=>by rw[hfrN] at h'; omega) (fun hx => ?_) (by rw[iE hp];exact hg) ?_
 ·have:(dL m c.k.toNat).f<0:=hx
  have:=hfi.1.1
  omega
 ·have e1:(dS (dL m c.k.toNat)).f=(dL m c.k.toNat).f:=rfl
  have e2:(dS (dL m c.k.toNat)).i=(dL m c.k.toNat).i:=rfl
  refine⟨fun _=>⟨by omega,by omega⟩,fun _=>by have:=hfi.1.1;omega,fun h'=>(hw h').2,fun h' _=>(hw h').1,fun h' hx => ?_⟩
  have:=hfi.1.1
  omega
theorem Bd.anonE {m:Ma} {T:List (List En)} (h:Bd m T) {p n:Nat} (hp:p<m.sp.length) (hn:n<64) (h0:(bZ T p n).k=0) {f:Nat} (hf:f<m.m.fs.length) (hr:(dL m f).r=0) {X:Fr} (hX:X.r=1∧X.d=false∧X.f = -1∧X.i=0) {g:Pg} (hg:onA (dM m p).ar n=some g) (hsh:g.sh=false) {w:Bool} (hw:w=true→g.wr=true) :
  Bd (setFr m f X) (aW T p n ⟨1,f,w⟩):=by
 have hxE:cO ⟨1,f,w⟩=0:=(bF _).2 (.inr (.inl ⟨rfl,by show (0:Int)≤f;omega,by have:=h.few.1;show (f:Int)<40;omega⟩))
 have hfrN:dL (bN m T) f=dL m f:=rfl
 refine .of (h.ok.fr.set hp hxE) ?_
 rw[←jT h.ok.fr hp hn hxE,←qg]
 have hXE:dh X=0:=by
  rw[oV]
  exact⟨⟨by omega,by omega,by omega,by omega,by omega,by omega⟩,fun h'=>by omega,fun _=>hX.2.2.2⟩
 refine pE (g:=g) (f:=f) h.rt h.co (by rw[fP];exact hp) ⟨by omega,by omega⟩ (by rw[gB h.ok hp hn];exact h0) hf rfl rfl hXE (by rw[hfrN];omega) (fun h'=>by rw[hfrN] at h'; omega) (fun _=>⟨by omega,hX.2.1⟩) (fun hx a j hk1 hk2 => ?_) (by rw[iE hp];exact hg) ?_
 ·have:=wW h.rt hk1 hk2
  have h5:=h.rt.cf f hf
  rw[hfrN] at h5
  omega
 ·exact⟨fun h'=>absurd h' (by omega),fun h'=>(by rw[hsh] at h'; cases h'),hw,fun _ h'=>absurd h' (by omega),fun _ _=>by omega⟩
theorem Bd.slotE {m:Ma} {T:List (List En)} (h:Bd m T) {p n:Nat} (hp:p<m.sp.length) (hn:n<64) (h0:(bZ T p n).k=0) {s:Nat} (hs:s<m.sl.length) (hz:kL m s=0) {P:Page} {g:Pg} (hg:onA (dM m p).ar n=some g) (hsh:g.sh=false) :
  Bd { m with sl:=m.sl.set s 1,sw:=⟨m.sw.blocks.set s P,m.sw.queue⟩ } (aW T p n ⟨2,s,false⟩):=by
 have hxE:cO ⟨2,s,false⟩=0:=(bF _).2 (.inr (.inr ⟨rfl,by show (0:Int)≤s;omega,by have:=h.few.2.1;show (s:Int)<60;omega,rfl⟩))
 have hok:qM { m with sl:=m.sl.set s 1,sw:=⟨m.sw.blocks.set s P,m.sw.queue⟩ } T:=h.ok.sps rfl
 refine .of (hok.set hp hxE) ?_
 rw[←jT hok hp hn hxE]
 have hwd:bn ⟨m.sw.blocks.set s P,m.sw.queue⟩=0:=by
  have:=(jc _).1 h.rt.pt.sw
  rw[jc]
  simp only[List.length_set]
  exact this
 have hsl:kL (bN m T) s=0:=hz
 have:=wJ (d:=⟨m.sw.blocks.set s P,m.sw.queue⟩) (x:=⟨2,s,false⟩) (n:=(n:Int)) (g:=g) h.rt h.co (p:=p) (s:=s) (by rw[fP];exact hp) ⟨by omega,by omega⟩ (by rw[gB h.ok hp hn];exact h0) hs rfl rfl rfl (by rw[hsl];omega) hwd (by rw[List.length_set];rfl) (by rw[iE hp];exact hg) hsh
 rw[hsl] at this
 exact this
theorem Bd.cache {m:Ma} {T:List (List En)} (h:Bd m T) {f i:Int} (hin:GN m.st f i) (hno:∀c∈m.ca,¬(c.f=f∧c.i=i)) {g:Nat} (hg:g<m.m.fs.length) (hr:(dL m g).r=0) {X:Fr} (hX:X.r=1∧X.f=f∧X.i=i) (ht:dE X.p ((fileAt m.st f).n-i*8)=X.p) (hd:X.d=false→X.p=jW m f i) :
  Bd (oU m g X f i) T:=.of (h.ok.sps rfl) (Il h.rt h.co hg hr hin hno hX ht hd)
theorem Bd.more {m:Ma} {T:List (List En)} (h:Bd m T) {s:Sp} (hl:m.sp.length<4) (hv:s.lv=true) (ha:(aR s.ar).1=0):Bd { m with sp:=m.sp++[s] } (T++[List.replicate 64 zEn]):=by
 refine .of (h.ok.more s) ?_
 rw[Bg h.ok]
 exact Bp h.rt h.co (s:={ s with tb:=zTb }) (by rw[fP];exact hl) hv ha rfl
theorem Bd.share1 {m:Ma} {T:List (List En)} (h:Bd m T) (hl:m.sp.length=2) {n:Nat} (hn:n<64) (har:(dM m 1).ar=(dM m 0).ar) (hk:(bZ T 0 n).k=1) (h0:(bZ T 1 n).k=0) {g:Pg} (hg:onA (dM m 0).ar n=some g) {f:Nat} (hf:(bZ T 0 n).n=f) {w:Bool} (hw:w=(g.sh&&(bZ T 0 n).w)) :
  Bd (setFr m f (dS (dL m f))) (aW (aW T 0 n ⟨1,f,w⟩) 1 n ⟨1,f,w⟩):=by
 have e0:=gB h.ok (p:=0) (by omega) hn
 have e1:=gB h.ok (p:=1) (by omega) hn
 have hg0:kC (bN m T) 0 n=some g:=by rw[iE (by omega)];exact hg
 have hg1:kC (bN m T) 1 n=some g:=by rw[iE (by omega),har];exact hg
 obtain⟨f',a1,a2,_⟩:=lw h.rt (p:=0) (n:=n) (by rw[e0];exact hk)
 have a2' : f' < m.m.fs.length:=a2
 have hff:f' = f:=by rw[e0] at a1;omega
 subst hff
 have hxE:∀w,cO ⟨1,f',w⟩=0:=fun w=>(bF _).2 (.inr (.inl ⟨rfl,by show (0:Int)≤f'; omega,by have:=h.few.1;show (f' : Int)<40;omega⟩))
 have hok:=(h.ok.fr (f:=f') (X:=dS (dL m f'))).set (p:=0) (n:=n) (by show 0<m.sp.length;omega) (hxE w)
 refine .of (hok.set (by show 1<m.sp.length;omega) (hxE w)) ?_
 have hex:(⟨1,f',(bZ T 0 n).w⟩:En)=bZ T 0 n:=by rw[←hf,←hk]
 rw[←jT hok (by show 1<m.sp.length;omega) hn (hxE w)]
 cases hs:g.sh with
 | false=>
  rw[hs,Bool.false_and] at hw
  subst hw
  rw[←jT h.ok.fr (by show 0<m.sp.length;omega) hn (hxE false),←qg]
  exact BC (m:=bN m T) (p:=0) (q:=1) (n:=n) (f:=f') (g:=g) h.rt h.co (by decide) (by rw[e0];exact hk) (by rw[e0];exact hf) (by rw[fP];omega) (by rw[e1];exact h0) hg0 hg1
 | true=>
  rw[hs,Bool.true_and] at hw
  subst hw
  rw[hex]
  have hself:aW T 0 n (bZ T 0 n)=T:=by
   have hl0:bY T 0∈T:=h.ok.mem (by omega)
   have h64:=h.ok.l64 (p:=0) (by omega)
   unfold aW bZ
   rw[List.getD_eq_getElem?_getD,List.getElem?_eq_getElem (by omega:n<(bY T 0).length),Option.getD_some,List.set_getElem_self]
   unfold bY
   rw[List.getD_eq_getElem?_getD,List.getElem?_eq_getElem (by rw[h.ok.len];omega:0<T.length),Option.getD_some,List.set_getElem_self]
  rw[hself,←qg,←e0]
  refine uh (m:=bN m T) (p:=0) (q:=1) (n:=n) (f:=f') (g:=g) h.rt h.co (by rw[e0];exact hk) (by rw[e0];exact hf) (by rw[fP];omega) (by rw[e1];exact h0) hg0 hg1 (fun _=>hs) (fun hx => ?_)
  obtain⟨f2,b1,b2,b3,b4,b5,g2,b6,b7⟩:=lw h.rt (p:=0) (n:=n) (by rw[e0];exact hk)
  have:f2=f':=by omega
  subst this
  rw[hg0] at b6
  cases b6
  have:=b7.2.1 hs
  omega
theorem Bd.share2 {m:Ma} {T:List (List En)} (h:Bd m T) (hl:m.sp.length=2) {n:Nat} (hn:n<64) (har:(dM m 1).ar=(dM m 0).ar) (hk:(bZ T 0 n).k=2) (h0:(bZ T 1 n).k=0) {g:Pg} (hg:onA (dM m 0).ar n=some g) {s:Nat} (hf:(bZ T 0 n).n=s) :
  Bd (setSl m s (kL m s+1)) (aW (aW T 0 n (bZ T 0 n)) 1 n (bZ T 0 n)):=by
 have e0:=gB h.ok (p:=0) (by omega) hn
 have e1:=gB h.ok (p:=1) (by omega) hn
 have hg0:kC (bN m T) 0 n=some g:=by rw[iE (by omega)];exact hg
 have hg1:kC (bN m T) 1 n=some g:=by rw[iE (by omega),har];exact hg
 have hself:aW T 0 n (bZ T 0 n)=T:=by
  have hl0:bY T 0∈T:=h.ok.mem (by omega)
  have h64:=h.ok.l64 (p:=0) (by omega)
  unfold aW bZ
  rw[List.getD_eq_getElem?_getD,List.getElem?_eq_getElem (by omega:n<(bY T 0).length),Option.getD_some,List.set_getElem_self]
  unfold bY
  rw[List.getD_eq_getElem?_getD,List.getElem?_eq_getElem (by rw[h.ok.len];omega:0<T.length),Option.getD_some,List.set_getElem_self]
 rw[hself]
 have hE:=pu h.ok (p:=0) (by omega) hn
 have hok:qM (setSl m s (kL m s+1)) T:=h.ok.sps rfl
 refine .of (hok.set (by show 1<m.sp.length;omega) hE) ?_
 rw[←jT hok (by show 1<m.sp.length;omega) hn hE,←e0]
 exact Bo (m:=bN m T) (p:=0) (q:=1) (n:=n) (s:=s) (g:=g) h.rt h.co (by rw[e0];exact hk) (by rw[e0];exact hf) (by rw[fP];omega) (by rw[e1];exact h0) hg0 hg1
theorem Bd.share0 {m:Ma} {T:List (List En)} (h:Bd m T) (hl:m.sp.length=2) {n:Nat} (hn:n<64) (hk:(bZ T 0 n).k=0) (h0:(bZ T 1 n).k=0):Bd m (aW (aW T 0 n (bZ T 0 n)) 1 n (bZ T 0 n)):=by
 have hE0:=(bF _).1 (pu h.ok (p:=0) (by omega) hn)
 have hE1:=(bF _).1 (pu h.ok (p:=1) (by omega) hn)
 have hz:∀e:En,e.k=0→((e.k=0∧e.n=0∧e.w=false)∨(e.k=1∧0≤e.n∧e.n<40)∨(e.k=2∧0≤e.n∧e.n<60∧e.w=false))→e=zEn:=by
  rintro⟨a,b,c⟩ h1 h2
  rcases h2 with ⟨a1,a2,a3⟩|h2|h2
  ·simp only at a1 a2 a3;subst a1;subst a2;subst a3;rfl
  ·omega
  ·omega
 have h0':=hz _ hk hE0
 have h1':=hz _ h0 hE1
 have hself:∀p,p<2→bZ T p n=zEn→aW T p n zEn=T:=fun p hp he=>by
  have h64:=h.ok.l64 (p:=p) (by omega)
  have hlT:=h.ok.len
  have:(bY T p)[n]'(by omega)=zEn:=by
   unfold bZ at he
   rw[List.getD_eq_getElem?_getD,List.getElem?_eq_getElem (by omega:n<(bY T p).length),Option.getD_some] at he
   exact he
  unfold aW
  rw[←this,List.set_getElem_self]
  unfold bY
  rw[List.getD_eq_getElem?_getD,List.getElem?_eq_getElem (by omega:p<T.length),Option.getD_some,List.set_getElem_self]
 rw[h0',hself 0 (by omega) h0',hself 1 (by omega) h1']
 exact h
theorem oZ {l r:List Int} (h:∀x∈l,x=0):firstE (l++r)=firstE r:=by
 induction l with
 | nil=>rfl
 | cons a l ih=>
  have h0:=h a List.mem_cons_self
  rw[List.cons_append]
  rw[firstE,h0]
  simp only[if_true,ne_eq,not_true_eq_false,if_false]
  exact ih fun x hx=>h x (List.mem_cons_of_mem _ hx)
theorem Dg {x:Int} {r:List Int} (h:x≠0):firstE (x::r)=x:=by
 rw[firstE]
 simp[h]
theorem Bq {m:Ma} {p j:Nat} {s:Sp} {n:Int} (hs:m.sp[p]?=some s) (hn:(aI s.tb)[j]?=some n) (h1:∀t∈m.sp.take p,∀i∈aI t.tb,aX m t i=0) (h2:∀i∈(aI s.tb).take j,aX m s i=0) (hne:aX m s n≠0):gP m=aX m s n:=by
 unfold gP
 have e1:m.sp=m.sp.take p++s::m.sp.drop (p+1):=by rw[←drop_at hs,List.take_append_drop]
 have e2:aI s.tb=(aI s.tb).take j++n::(aI s.tb).drop (j+1):=by rw[←drop_at hn,List.take_append_drop]
 rw[e1,List.flatMap_append,oZ (fun x hx => ?_),List.flatMap_cons,e2,List.map_append,List.append_assoc,oZ (fun x hx => ?_),List.map_cons,List.cons_append,Dg hne]
 ·obtain⟨i,hi,rfl⟩:=List.mem_map.1 hx
  exact h2 i hi
 ·obtain⟨t,ht,hx⟩:=List.mem_flatMap.1 hx
  obtain⟨i,hi,rfl⟩:=List.mem_map.1 hx
  exact h1 t ht i hi
theorem zO {m:Ma} (h:∀t∈m.sp,∀i∈aI t.tb,aX m t i=0):gP m=0:=by
 unfold gP
 rw[←List.append_nil (m.sp.flatMap _),oZ (fun x hx => ?_)]
 ·rfl
 ·obtain⟨t,ht,hx⟩:=List.mem_flatMap.1 hx
  obtain⟨i,hi,rfl⟩:=List.mem_map.1 hx
  exact h t ht i hi
theorem GK {m:Ma} {s:Sp} {n:Int} (h:aX m s n=0):((bS s.tb n).k=2→(bS s.tb n).n<m.sl.length)∧((bS s.tb n).k≠2→(bS s.tb n).n<m.m.fs.length):=by
 unfold aX at h
 split at h
 ·cases h
 ·simp only at h
  split at h
  ·rename_i h2
   split at h
   ·cases h
   ·rename_i h3
    exact⟨fun _=>by omega,fun h'=>absurd h2 h'⟩
  ·rename_i h2
   split at h
   ·cases h
   ·exact⟨fun h'=>absurd h' h2,fun _=>by omega⟩
def gH (m:Ma) (p:Nat) (l:List Int):List Int:=m.ca.map Cc.k++(m.sp.take p).flatMap (fun s=>iP s.tb (aI s.tb))++l
def fA (m:Ma) (p:Nat) (l:List Int):List Int:=(m.sp.take p).flatMap (fun s=>swapT s.tb (aI s.tb))++l
theorem Dq (t:Tb) (l:List Int) (n:Int):iP t (l++[n])=iP t l++(if (bS t n).k=1 then [(bS t n).n] else []):=by
 unfold iP
 rw[List.filter_append,List.map_append]
 congr 1
 by_cases h:(bS t n).k=1
 ·simp[h]
 ·simp[h]
theorem DY (t:Tb) (l:List Int) (n:Int):swapT t (l++[n])=swapT t l++(if (bS t n).k=1 then [] else [(bS t n).n]):=by
 unfold swapT
 rw[List.filter_append,List.map_append]
 congr 1
 by_cases h:(bS t n).k=1
 ·simp[h]
 ·simp[h]
theorem Av {m:Ma} {p:Nat} {s:Sp} (hs:m.sp[p]?=some s):gH m p (iP s.tb (aI s.tb))=gH m (p+1) []:=by
 unfold gH
 rw[take_at hs,List.flatMap_append,List.append_nil,List.append_assoc]
 simp
theorem yt {m:Ma} {p:Nat} {s:Sp} (hs:m.sp[p]?=some s):fA m p (swapT s.tb (aI s.tb))=fA m (p+1) []:=by
 unfold fA
 rw[take_at hs,List.flatMap_append,List.append_nil]
 simp
theorem Di (m:Ma):gH m m.sp.length []=ky m:=by unfold gH ky;rw[List.take_length,List.append_nil]
theorem Aq (m:Ma):fA m m.sp.length []=jy m:=by unfold fA jy;rw[List.take_length,List.append_nil]
theorem Ae (m:Ma) (p:Nat) (l:List Int) (k:Int):gH m p (l++[k])=gH m p l++[k]:=by unfold gH;rw[List.append_assoc,List.append_assoc,List.append_assoc]
theorem zo (m:Ma) (p:Nat) (l:List Int) (k:Int):fA m p (l++[k])=fA m p l++[k]:=by unfold fA;rw[List.append_assoc]
theorem qO (t:Tb) (l:List Int):(iP t l).length≤l.length:=by unfold iP;rw[List.length_map];exact List.length_filter_le _ _
theorem wH (t:Tb) (l:List Int):(swapT t l).length≤l.length:=by unfold swapT;rw[List.length_map];exact List.length_filter_le _ _
theorem flat_len {α:Type} (g:α→List Int) (c:Nat) (h:∀x,(g x).length≤c):∀l:List α,(l.flatMap g).length≤c*l.length
 | []=>by simp
 | x::l=>by
  have h1:=flat_len g c h l
  have h2:=h x
  rw[List.flatMap_cons,List.length_append,List.length_cons,Nat.mul_succ]
  omega
theorem lN (t:Tb):(aI t).length≤64:=oK t 64
theorem Da (m:Ma) (p:Nat) (l:List Int):(gH m p l).length≤m.ca.length+64*m.sp.length+l.length:=by
 unfold gH
 have h1:=flat_len (fun s:Sp=>iP s.tb (aI s.tb)) 64 (fun s=>Nat.le_trans (qO _ _) (lN _)) (m.sp.take p)
 have h2:(m.sp.take p).length≤m.sp.length:=by rw[List.length_take];omega
 simp only[List.length_append,List.length_map]
 omega
theorem Dn {m:Ma} (h:xQ m) (p:Nat) (l:List Int) (K:Int):cnt (gH m p l) K≤1+64*m.sp.length+l.length:=by
 unfold gH
 rw[qy,qy]
 have h1:=flat_len (fun s:Sp=>iP s.tb (aI s.tb)) 64 (fun s=>Nat.le_trans (qO _ _) (lN _)) (m.sp.take p)
 have h2:(m.sp.take p).length≤m.sp.length:=by rw[List.length_take];omega
 have h3:cnt (m.ca.map Cc.k) K=xW m K:=by
  unfold cnt xW
  rw[List.countP_map];rfl
 have h4:=Eb h K
 have h5:=xM ((m.sp.take p).flatMap fun s=>iP s.tb (aI s.tb)) K
 have h6:=xM l K
 omega
theorem AO (m:Ma) (p:Nat) (l:List Int):(fA m p l).length≤64*m.sp.length+l.length:=by
 unfold fA
 have h1:=flat_len (fun s:Sp=>swapT s.tb (aI s.tb)) 64 (fun s=>Nat.le_trans (wH _ _) (lN _)) (m.sp.take p)
 have h2:(m.sp.take p).length≤m.sp.length:=by rw[List.length_take];omega
 simp only[List.length_append]
 omega
theorem BM (w:World) (c1 c2:Array Value) (T1 T2:TypeId):Below w.heap.size w ((w.alloc (.cells c1 T1)).alloc (.cells c2 T2)).drew∧aC ((w.alloc (.cells c1 T1)).alloc (.cells c2 T2)).drew w.heap.size c1 T1∧aC ((w.alloc (.cells c1 T1)).alloc (.cells c2 T2)).drew (w.heap.size+1) c2 T2:=by
 have e:(w.alloc (.cells c1 T1)).heap.size=w.heap.size+1:=Array.size_push _
 have h1:Below w.heap.size w ((w.alloc (.cells c1 T1)).alloc (.cells c2 T2)):=((Below.refl _ _).alloc (Nat.le_refl _) _).alloc (by omega) _
 have h2:aC ((w.alloc (.cells c1 T1)).alloc (.cells c2 T2)) w.heap.size c1 T1:=(aC.new w c1 T1).ext ((Below.refl _ _).alloc (Nat.le_refl _) _)
 have h3:aC ((w.alloc (.cells c1 T1)).alloc (.cells c2 T2)) (w.heap.size+1) c2 T2:=by rw[←e];exact aC.new _ _ _
 exact⟨⟨h1.os,h1.tape,h1.output,h1.size,h1.block⟩,h2,h3⟩
theorem int_one:(Try.prog.info? 3).map (·.size)=some 1:=by kernel_rfl
theorem int_inf:(Try.prog.info? 3).map (fun i=>(i.zero,i.size,i.bytes))=some (some (.int .i64 0),1,8):=by kernel_rfl
theorem uF {P:Program} {ρ:Operand→Value} {o:Oper} {w:World} {t e:TypeId} {x y:Operand} {b n c i:Nat} {k:IntKind} (ho:o.op = .indexAddr t x y) (hx:ρ x = .slice (some ⟨b,0,none⟩) n c) (hy:ρ y = .int k (i:Int)) (hi:i<n)
  (hu:P.underlying t=some (.slice e)) (hs:(P.info? e).map (·.size)=some 1):(execOp ρ o).run P w = .ok (.value (.pointer (some ⟨b,i,none⟩))) w:=by
 have:=aT (w:=w) ho hx hy hi hu hs
 rw[this]
 simp
def vJ (m:Ma) (i:Nat):Bool:=decide ((mO m i).r=cnt (ky m) i)&&(decide ((mO m i).f<0)||m.ca.any fun c=>decide (c.k=i))
theorem yU (m:Ma):countB m=((List.range m.m.fs.length).all (vJ m)&&decide (m.sl=fI m.sl.length (jy m))):=rfl
theorem yK {m:Ma} (h:countB m=true) (k:Nat) (hk:k<m.m.fs.length):vJ m k=true:=by
 rw[yU,Bool.and_eq_true,List.all_eq_true] at h
 exact h.1 k (List.mem_range.2 hk)
theorem jh (H:MH) (w:World) (h:sV w H) :
  Calls Try.prog 10 #[.agg (bP H)] w fun r w'=>r = .returned (.int .i64 (dV H.ma))∧Below w.heap.size w w':=by
 have hmx:H.m.fs.length*8≤281474976710656∧H.sl.length*8≤281474976710656∨¬dO H.ma=0:=by
  by_cases e:dO H.ma=0
  ·have hp:=(mY.1 e).1
   have h1:=((eB _).1 hp.fr).1
   have h2:=il hp.sl
   have h1' : H.m.fs.length≤40:=h1
   have h2' : H.sl.length≤60:=h2
   exact .inl ⟨by omega,by omega⟩
  ·exact .inr e
 go_enter Try.func10,Try.ntmps10
 go_upto_region 1 with (fail)
 refine eO (fun W=>Code.wp _ _ _ _ W) fun w1 hb1 bx1 hs1 => ?_
 have h1:=h.below hb1
 have bx:aC w1 w.heap.size (bP H) 40:=bx1
 clear bx1 hs1
 go_wp2_with fail
 refine (DW H w.heap.size _ bx h1).mono ?_
 rintro r w2 ⟨rfl,hb2⟩
 have hbr2:=ag hb1 hb2
 have bx2:=bx.ext hb2
 clear bx h1 hb1 hb2
 by_cases e1:dO H.ma=0
 rotate_left
 ·have hq:Hid (dV H.ma=dO H.ma):=Lib.hid (by unfold dV;rw[if_pos e1])
  generalize dO H.ma=E at *
  go_wp2
  go_ret
  rw[hq.out]
  exact⟨rfl,hbr2⟩
 rw[e1]
 go_wp2_with fail
 refine (BF H w.heap.size _ bx2 (h.below hbr2)).mono ?_
 rintro r w3 ⟨rfl,hb3⟩
 have hbr3:=ag hbr2 hb3
 have bx3:=bx2.ext hb3
 clear bx2 hbr2 hb3
 by_cases e2:cachedE H.ma=0
 rotate_left
 ·have hq:Hid (dV H.ma=cachedE H.ma):=Lib.hid (by unfold dV;rw[if_neg (by rw[e1];simp),if_pos e2])
  generalize cachedE H.ma=E at *
  go_wp2
  go_ret
  rw[hq.out]
  exact⟨rfl,hbr3⟩
 rw[e2]
 have hPt:=(mY.1 e1).1
 have n1:H.m.fs.length≤40:=((eB _).1 hPt.fr).1
 have n2:H.sl.length≤60:=il hPt.sl
 have n3:H.sp.length≤4:=by have:=hPt.spl;rw[Dv] at this;exact this
 have hPt':=Lib.hid hPt
 have hcaL:=Lib.hid (qK.1 e2)
 have hwr:Hid (dV H.ma=if gP H.ma≠0 then gP H.ma else if countB H.ma=true then 0 else 7):=Lib.hid (by unfold dV;rw[if_neg (by rw[e1];simp),if_neg (by rw[e2];simp)])
 clear e1 e2 hPt hmx
 go_upto_region 7 with (fail)
 have hcb:=bx3.cell
 unfold bP at hcb
 have hcb2:=fun ob=>(bx3.ext ((Below.refl _ _).alloc (Nat.le_refl _) ob)).cell
 unfold bP at hcb2
 have hmk1:=run_make_row' (P:=Try.prog) 28 3 (.int .i64 0) 8 Try.underlying28 int_inf rfl .i64 .i64 H.m.fs.length (by omega) (by omega)
 have hmk2:=run_make_row' (P:=Try.prog) 28 3 (.int .i64 0) 8 Try.underlying28 int_inf rfl .i64 .i64 H.sl.length (by omega) (by omega)
 go_cut [5,6] (fun s5 s6 wx => ∃gh gs,s5 = .slice (some ⟨gh,0,none⟩) H.m.fs.length H.m.fs.length∧s6 = .slice (some ⟨gs,0,none⟩) H.sl.length H.sl.length∧gh≠gs∧w3.heap.size≤gh∧w3.heap.size≤gs∧Below w3.heap.size w3 wx∧aC wx gh (madeCells #[.int .i64 0] H.m.fs.length) 3∧aC wx gs (madeCells #[.int .i64 0] H.sl.length) 3)
 case first=>
  go_region
  all_goals (go_wp2_with fail;go_meet)
  ·obtain⟨z1,z2,z3⟩:=BM w3 (madeCells #[.int .i64 0] H.m.fs.length) (madeCells #[.int .i64 0] H.sl.length) 3 3
   exact⟨_,_,rfl,rfl,by omega,by omega,by omega,z1,z2,z3⟩
  ·obtain⟨z1,z2,z3⟩:=BM w3 (madeCells #[.int .i64 0] H.sl.length) (madeCells #[.int .i64 0] H.m.fs.length) 3 3
   exact⟨_,_,rfl,rfl,by omega,by omega,by omega,z1,z3,z2⟩
 case rest=>
  obtain⟨gh,gs,rfl,rfl,hne,hgh,hgs,hb4,hIh,hIs⟩:=hcut
  have hbr4:=ag hbr3 hb4
  have bx4:=bx3.ext hb4
  have hwh:w.heap.size≤gh:=Nat.le_trans hbr3.size hgh
  have hws:w.heap.size≤gs:=Nat.le_trans hbr3.size hgs
  have hbh:w.heap.size≠gh:=by have:=bx3.lt;omega
  have hbs:w.heap.size≠gs:=by have:=bx3.lt;omega
  have hIh4:IB wc gh (fI H.m.fs.length ((H.ca.take 0).map Cc.k)):=by
   rw[List.take_zero,List.map_nil,zm];unfold IB;rw[←wL];exact hIh
  have hIs4:IB wc gs (fI H.sl.length []):=by
   rw[zm];unfold IB;rw[←wL];exact hIs
  clear hcb hcb2 hmk1 hmk2 hIh hIs hb4 bx3 hbr3 hgh hgs
  have hcb:=bx4.cell
  unfold bP at hcb
  go_upto_region 9 with (fail)
  clear hcb
  have hcl:=h.ca.le
  have hcm:=h.ca.mx
  unfold maxLen at hcm
  go_loopw [37] (fun i wr => ∃(k:Nat),k≤H.ca.length∧i = .int .i64 k∧Below w.heap.size w wr∧aC wr w.heap.size (bP H) 40∧IB wr gh (fI H.m.fs.length ((H.ca.take k).map Cc.k))∧IB wr gs (fI H.sl.length [])) (fun i _=>H.ca.length-(intOf i).toNat)
  case atStart=>exact⟨0,Nat.zero_le _,rfl,hbr4,bx4,hIh4,hIs4⟩
  case round=>
   clear hbr4 bx4 hIh4 hIs4
   obtain⟨k,hk,rfl,hbr,bx,hIh,hIs⟩:=hrel
   by_cases hkl:k<H.ca.length
   ·obtain⟨bc,oc,hac,hrd⟩:=fu jg (by decide) (h.below hbr).ca.rd k hkl
    have hki:(k:Int)<(H.ca.length:Int):=by omega
    have hclt:0≤H.ca[k].k∧H.ca[k].k<H.m.fs.length:=hcaL.out.lt _ (List.getElem_mem hkl)
    have htk:Hid ((H.ca.take (k+1)).map Cc.k=(H.ca.take k).map Cc.k++[H.ca[k].k]):=Lib.hid (by rw[take_at (List.getElem?_eq_getElem hkl),List.map_append];rfl)
    have hll:((H.ca.take k).map Cc.k).length≤k:=by rw[List.length_map,List.length_take];omega
    generalize H.ca[k]=c at *
    obtain⟨K,hcK⟩:∃K:Nat,c.k=K:=⟨c.k.toNat,by omega⟩
    have hKl:K<H.m.fs.length:=by omega
    rw[hcK] at htk
    rw[hac]
    generalize (H.ca.take k).map Cc.k=L at *
    go_wp2_with (first | (refine ax _ _ rfl bc (oc+k*3) rfl rfl _ hrd _ Try.underlying85 rfl cached_size ?_) | (refine aD rfl _ _ _ rfl (qN c) rfl rfl rfl cached_size (lU c) ?_))
    intro w5 hb5 cx
    have hbr5:=ag hbr hb5
    have bx5:=bx.ext hb5
    have hIh5:IB w5 gh (fI H.m.fs.length L):=hIh.ext hb5
    have hIs5:IB w5 gs (fI H.sl.length []):=hIs.ext hb5
    clear hbr bx hIh hIs hrd hb5
    have hcc:=cx.cell
    unfold qN at hcc
    rw[hcK] at hcc
    have hce:=hIh5.cell (iK H.m.fs.length L K hKl)
    have hcl2:=xM L K
    have hw1:IntKind.i64.wrap ((cnt L K:Int)+1)=(cnt L K:Int)+1:=IntWalk.i64_in _ (by omega)
    have hKi:(K:Int)<(H.m.fs.length:Int):=by omega
    go_wp2_with (refine aA rfl _ _ _ rfl gh K _ [.int .i64 ((cnt L K:Int)+1)] rfl rfl rfl _ _ hIh5 (by simp[gN];omega) int_one (fun u hu=>by cases List.mem_singleton.1 hu;rfl) ?_)
    intro w6 hb6 hg6
    rw[IB.set (by rw[gN];exact hKl),uW _ _ _ hKl,←htk.out] at hb6
    have hbr6:=hbr5.grown hg6 hbr5.size (fun k hk=>by cases hk;exact hwh)
    have bx6:=bx5.grown hg6 (fun e=>hbh (Option.some.inj e).symm)
    have hIs6:IB w6 gs (fI H.sl.length []):=aC.grown hIs5 hg6 (fun e=>hne (Option.some.inj e))
    clear hbr5 bx5 hIs5 hIh5 hcc hce cx hg6 hw1
    go_wp2
    go_roundw
    case rel=>exact⟨k+1,by omega,by go_num,hbr6,bx6,hb6,hIs6⟩
    case measure=>simp[intOf];omega
   ·have hki:¬(k:Int)<(H.ca.length:Int):=by omega
    rw[List.take_of_length_le (by omega)] at hIh
    have hIh0:IB wr gh (fI H.m.fs.length (gH H.ma 0 [])):=by
     have e:gH H.ma 0 []=H.ca.map Cc.k:=by
      show H.ca.map Cc.k++[]++[]=_
      rw[List.append_nil,List.append_nil]
     rw[e];exact hIh
    have hIs0:IB wr gs (fI H.sl.length (fA H.ma 0 [])):=hIs
    clear hIh hIs
    have hcb:=bx.cell
    unfold bP at hcb
    go_upto_region 14 with (fail)
    clear hcb
    go_loopw [52] (fun i wr => ∃(p:Nat),p≤H.sp.length∧i = .int .i64 p∧Below w.heap.size w wr∧aC wr w.heap.size (bP H) 40∧IB wr gh (fI H.m.fs.length (gH H.ma p []))∧IB wr gs (fI H.sl.length (fA H.ma p []))∧Hid (∀t∈H.ma.sp.take p,∀i∈aI t.tb,aX H.ma t i=0)) (fun i _=>H.sp.length-(intOf i).toNat)
    case atStart=>exact⟨0,Nat.zero_le _,rfl,hbr,bx,hIh0,hIs0,Lib.hid fun t ht=>by simp at ht⟩
    case round=>
     clear hbr bx hIh0 hIs0
     obtain⟨p,hp,rfl,hbr,bx,hIh,hIs,hz⟩:=hrel
     by_cases hpl:p<H.sp.length
     ·obtain⟨bs,os,P,hap,hP,hrd⟩:=jY (h.below hbr).sp.rd p hpl
      have hgood:=jm (h.below hbr) hP
      have hpi:(p:Int)<(H.sp.length:Int):=by omega
      have hsP:H.ma.sp[p]?=some P.sp:=by show (H.sp.map PS.sp)[p]?=_;rw[List.getElem?_map,hP];rfl
      have harE:(aR P.ar).1=0:=hPt'.out.ar P.sp (List.mem_of_getElem? hsP)
      have htbE:bB P.tb=0:=hPt'.out.tb P.sp (List.mem_of_getElem? hsP)
      have hsP':=Lib.hid hsP
      have hPq:=Lib.hid hP
      have hcb:=bx.cell
      unfold bP at hcb
      rw[hap] at hcb
      clear hsP hP
      go_wp2_with (refine ax _ _ rfl bs (os+p*10+2) rfl rfl _ (pY hrd 2 8) _ Try.underlying63 tab_agg tab_size ?_)
      refine (uz P.tb (jG P.ts) _ hgood.tb).mono ?_
      rintro r w5 ⟨v5,rfl,ho5,hb5⟩
      obtain⟨a5,c5,rfl,hle5,hmx5,_,hr5⟩:=ho5.rd
      have hlt5:gh<wr.heap.size∧gs<wr.heap.size:=⟨aC.lt hIh,aC.lt hIs⟩
      have hbr5:=ag hbr hb5
      have bx5:=bx.ext hb5
      have hIh5:IB w5 gh (fI H.m.fs.length (gH H.ma p (iP P.tb ((aI P.tb).take 0)))):=hIh.ext hb5
      have hIs5:IB w5 gs (fI H.sl.length (fA H.ma p (swapT P.tb ((aI P.tb).take 0)))):=hIs.ext hb5
      have hrd5:=hrd.below hb5
      have hg5:=hgood.below hb5
      have hwrs:=Lib.hid hlt5
      clear hcb hbr bx hIh hIs hrd hgood hb5 hr5
      have hpin:=Lib.hid (EN P.tb)
      have hpl64:=lN P.tb
      go_upto_region 18 with (fail)
      go_loopw [65] (fun i wr' => ∃(j:Nat),j≤(aI P.tb).length∧i = .int .i64 j∧Below w.heap.size w wr'∧aC wr' w.heap.size (bP H) 40∧IB wr' gh (fI H.m.fs.length (gH H.ma p (iP P.tb ((aI P.tb).take j))))∧IB wr' gs (fI H.sl.length (fA H.ma p (swapT P.tb ((aI P.tb).take j))))∧Own wr' wr.heap.size 3 1 (.slice a5 (aI P.tb).length c5) (aI P.tb).length ((aI P.tb).map eU)∧bW wr' (some ⟨bs,os+p*10,none⟩) (lS P)∧P.good wr'∧Hid (∀i∈(aI P.tb).take j,aX H.ma P.sp i=0)) (fun i _=>(aI P.tb).length-(intOf i).toNat)
      case atStart=>exact⟨0,Nat.zero_le _,rfl,hbr5,bx5,hIh5,hIs5,ho5,hrd5,hg5,Lib.hid fun i hi=>by simp at hi⟩
      case round=>
       clear hbr5 bx5 hIh5 hIs5 ho5 hrd5 hg5
       obtain⟨j,hj,rfl,hbr,bx,hIh,hIs,ho,hrd,hgood,hz2⟩:=hrel
       obtain⟨hgl,hsl⟩:=hwrs.out
       by_cases hjl:j<(aI P.tb).length
       ·have hji:(j:Int)<((aI P.tb).length:Int):=by omega
        obtain⟨_,_,e9,_,_,_,hrL⟩:=ho.rd
        cases e9
        have hnj:(aI P.tb)[j]?=some (aI P.tb)[j]:=List.getElem?_eq_getElem hjl
        have hnb:=hpin.out _ (List.getElem_mem hjl)
        have hnk:(bS P.tb (aI P.tb)[j]).k≠0:=(jR.1 (List.getElem_mem hjl)).2
        obtain⟨bp,op,hpa,hcn⟩:=jk hrL j hjl
        generalize hN:(aI P.tb)[j]=n at *
        have htk:Hid ((aI P.tb).take (j+1)=(aI P.tb).take j++[n]):=Lib.hid (take_at hnj)
        have hnj':=Lib.hid hnj
        have hpaQ:=Lib.hid hpa
        have hent:=(bF _).1 (jr htbE n)
        rw[hpa]
        clear hnj hN hrL
        go_wp2_with fail
        refine (Ag H P n w.heap.size bs (os+p*10) _ bx (h.below hbr) hrd hgood harE htbE hnb).mono ?_
        rintro r w6 ⟨rfl,hb6⟩
        have hbr6:=ag hbr hb6
        have bx6:=bx.ext hb6
        have hIh6:=aC.ext hIh hb6
        have hIs6:=aC.ext hIs hb6
        have ho6:=ho.below hb6
        have hrd6:=hrd.below hb6
        have hg6:=hgood.below hb6
        clear hbr bx hIh hIs ho hrd hgood hb6 hcn
        by_cases hE:aX H.ma P.sp n=0
        rotate_left
        ·have hq:Hid (dV H.ma=aX H.ma P.sp n):=Lib.hid (by
          have:=Bq hsP'.out hnj'.out hz.out hz2.out hE
          rw[hwr.out,this,if_pos hE])
         generalize aX H.ma P.sp n=E at *
         go_wp2
         go_ret
         rw[hq.out]
         exact⟨rfl,hbr6⟩
        have hlt:=GK hE
        have hz3:Hid (∀i∈(aI P.tb).take (j+1),aX H.ma P.sp i=0):=Lib.hid fun i hi=>by
         rw[htk.out] at hi
         rcases List.mem_append.1 hi with hi|hi
         ·exact hz2.out i hi
         ·rw[List.mem_singleton.1 hi];exact hE
        rw[hE]
        clear hz2 hE
        go_wp2_with (refine ax _ _ rfl bs (os+p*10+2) rfl rfl _ (pY hrd6 2 8) _ Try.underlying63 tab_agg tab_size ?_)
        refine (uQ P.tb (jG P.ts) n _ hg6.tb).mono ?_
        rintro r w7 ⟨rfl,hb7⟩
        have hlt2:((bS P.tb n).k=2→(bS P.tb n).n<H.sl.length)∧((bS P.tb n).k≠2→(bS P.tb n).n<H.m.fs.length):=hlt
        have hpS:iP P.tb ((aI P.tb).take (j+1))=iP P.tb ((aI P.tb).take j)++(if (bS P.tb n).k=1 then [(bS P.tb n).n] else []):=by rw[htk.out,Dq]
        have hsS:swapT P.tb ((aI P.tb).take (j+1))=swapT P.tb ((aI P.tb).take j)++(if (bS P.tb n).k=1 then [] else [(bS P.tb n).n]):=by rw[htk.out,DY]
        have hl1:=Da H.ma p (iP P.tb ((aI P.tb).take j))
        have hl1b:=qO P.tb ((aI P.tb).take j)
        have hl2:=AO H.ma p (swapT P.tb ((aI P.tb).take j))
        have hl2b:=wH P.tb ((aI P.tb).take j)
        have hl3:((aI P.tb).take j).length≤64:=by rw[List.length_take];omega
        have hl4:H.ma.ca.length=H.ca.length:=rfl
        have hl5:H.ma.sp.length=H.sp.length:=Dv H
        generalize bS P.tb n=e at *
        generalize iP P.tb ((aI P.tb).take j)=L1 at *
        generalize swapT P.tb ((aI P.tb).take j)=L2 at *
        have hpS':=Lib.hid hpS
        have hsS':=Lib.hid hsS
        clear hlt hpS hsS
        have hbr7:=ag hbr6 hb7
        have bx7:=bx6.ext hb7
        have hIh7:=aC.ext hIh6 hb7
        have hIs7:=aC.ext hIs6 hb7
        have ho7:=ho6.below hb7
        have hrd7:=hrd6.below hb7
        have hg7:=hg6.below hb7
        clear hbr6 bx6 hIh6 hIs6 ho6 hrd6 hg6 hb7
        go_wp2_with (refine aD rfl _ _ _ rfl (fK e) rfl rfl rfl entry_size (by simp[fK,Value.oneCell']) ?_)
        intro w8 hb8 ex
        have hbr8:=ag hbr7 hb8
        have bx8:=bx7.ext hb8
        have hIh8:IB w8 gh _:=aC.ext hIh7 hb8
        have hIs8:IB w8 gs _:=aC.ext hIs7 hb8
        have ho8:=ho7.below hb8
        have hrd8:=hrd7.below hb8
        have hg8:=hg7.below hb8
        clear hbr7 bx7 hIh7 hIs7 ho7 hrd7 hg7 hb8
        have hce:=ex.cell
        unfold fK at hce
        by_cases hk1:e.k=1
        ·obtain⟨K,hK⟩:∃K:Nat,e.n=K:=⟨e.n.toNat,by omega⟩
         have hKl:K<H.m.fs.length:=by have:=hlt2.2 (by omega);omega
         have hpS2:=hpS'.out
         have hsS2:=hsS'.out
         rw[if_pos hk1,hK] at hpS2
         rw[if_pos hk1,List.append_nil] at hsS2
         rw[hk1,hK] at hce
         have hcx:=hIh8.cell (iK H.m.fs.length (gH H.ma p L1) K hKl)
         have hcl2:=Dn hcaL.out p L1 K
         have hw1:IntKind.i64.wrap ((cnt (gH H.ma p L1) K:Int)+1)=(cnt (gH H.ma p L1) K:Int)+1:=IntWalk.i64_in _ (by omega)
         have hKi:(K:Int)<(H.m.fs.length:Int):=by omega
         have hpS3:=Lib.hid hpS2
         have hsS3:=Lib.hid hsS2
         clear hpS2 hsS2 hlt2 hk1 hnk hent hK
         go_wp2_with (refine aA rfl _ _ _ rfl gh K _ [.int .i64 ((cnt (gH H.ma p L1) K:Int)+1)] rfl rfl rfl _ _ hIh8 (by simp[gN];omega) int_one (fun u hu=>by cases List.mem_singleton.1 hu;rfl) ?_)
         intro w9 hb9 hg9
         rw[IB.set (by rw[gN];exact hKl),uW _ _ _ hKl,←Ae,←hpS3.out] at hb9
         rw[←hsS3.out] at hIs8
         have hbr9:=hbr8.grown hg9 hbr8.size (fun k hk=>by cases hk;exact hwh)
         have bx9:=bx8.grown hg9 (fun e=>hbh (Option.some.inj e).symm)
         have hIs9:IB w9 gs _:=aC.grown hIs8 hg9 (fun e=>hne (Option.some.inj e))
         have hr9:sV w9 H:=h.below hbr9
         obtain⟨bs',os',P',hap',hP',hrd9'⟩:=jY hr9.sp.rd p hpl
         have hPP:P' = P:=by
          have h2:H.ma.sp[p]?=some P.sp:=hsP'.out
          rw[hPq.out] at hP'
          exact (Option.some.inj hP').symm
         subst hPP
         rw[hap] at hap'
         cases hap'
         have hg9':=hr9.ps P' (List.mem_of_getElem? hP')
         have ho9:=ho8.grown hg9 (fun g hv e=>by
          have:=ho8.ge g hv
          have e2:=Option.some.inj e
          omega)
         clear hbr8 bx8 hIs8 hIh8 hce ex hg9 hw1 hcx ho8 hrd8 hg8 hr9
         go_wp2
         go_roundw
         case rel=>exact⟨j+1,by omega,by go_num,hbr9,bx9,hb9,hIs9,by rw[←hpaQ.out];exact ho9,hrd9',hg9',hz3⟩
         case measure=>simp[intOf];omega
        ·obtain⟨K,hK⟩:∃K:Nat,e.n=K:=⟨e.n.toNat,by omega⟩
         have hk2:e.k=2:=by omega
         have hKl:K<H.sl.length:=by have:=hlt2.1 hk2;omega
         have hpS2:=hpS'.out
         have hsS2:=hsS'.out
         rw[if_neg hk1,List.append_nil] at hpS2
         rw[if_neg hk1,hK] at hsS2
         rw[hk2,hK] at hce
         have hcx:=hIs8.cell (iK H.sl.length (fA H.ma p L2) K hKl)
         have hcl2:=xM (fA H.ma p L2) K
         have hw1:IntKind.i64.wrap ((cnt (fA H.ma p L2) K:Int)+1)=(cnt (fA H.ma p L2) K:Int)+1:=IntWalk.i64_in _ (by omega)
         have hKi:(K:Int)<(H.sl.length:Int):=by omega
         have hpS3:=Lib.hid hpS2
         have hsS3:=Lib.hid hsS2
         clear hpS2 hsS2 hlt2 hk1 hk2 hnk hent hK
         go_wp2_with (refine aA rfl _ _ _ rfl gs K _ [.int .i64 ((cnt (fA H.ma p L2) K:Int)+1)] rfl rfl rfl _ _ hIs8 (by simp[gN];omega) int_one (fun u hu=>by cases List.mem_singleton.1 hu;rfl) ?_)
         intro w9 hb9 hg9
         rw[IB.set (by rw[gN];exact hKl),uW _ _ _ hKl,←zo,←hsS3.out] at hb9
         rw[←hpS3.out] at hIh8
         have hbr9:=hbr8.grown hg9 hbr8.size (fun k hk=>by cases hk;exact hws)
         have bx9:=bx8.grown hg9 (fun e=>hbs (Option.some.inj e).symm)
         have hIh9:IB w9 gh _:=aC.grown hIh8 hg9 (fun e=>hne (Option.some.inj e).symm)
         have hr9:sV w9 H:=h.below hbr9
         obtain⟨bs',os',P',hap',hP',hrd9'⟩:=jY hr9.sp.rd p hpl
         have hPP:P' = P:=by
          have h2:H.ma.sp[p]?=some P.sp:=hsP'.out
          rw[hPq.out] at hP'
          exact (Option.some.inj hP').symm
         subst hPP
         rw[hap] at hap'
         cases hap'
         have hg9':=hr9.ps P' (List.mem_of_getElem? hP')
         have ho9:=ho8.grown hg9 (fun g hv e=>by
          have:=ho8.ge g hv
          have e2:=Option.some.inj e
          omega)
         clear hbr8 bx8 hIs8 hIh8 hce ex hg9 hw1 hcx ho8 hrd8 hg8 hr9
         go_wp2
         go_roundw
         case rel=>exact⟨j+1,by omega,by go_num,hbr9,bx9,hIh9,hb9,by rw[←hpaQ.out];exact ho9,hrd9',hg9',hz3⟩
         case measure=>simp[intOf];omega
       ·have hji:¬(j:Int)<((aI P.tb).length:Int):=by omega
        rw[List.take_of_length_le (by omega)] at hIh hIs hz2
        have hIh2:IB wr gh (fI H.m.fs.length (gH H.ma (p+1) [])):=by rw[←Av hsP'.out];exact hIh
        have hIs2:IB wr gs (fI H.sl.length (fA H.ma (p+1) [])):=by rw[←yt hsP'.out];exact hIs
        have hz3:Hid (∀t∈H.ma.sp.take (p+1),∀i∈aI t.tb,aX H.ma t i=0):=Lib.hid fun t ht i hi=>by
         rw[take_at hsP'.out] at ht
         rcases List.mem_append.1 ht with ht|ht
         ·exact hz.out t ht i hi
         ·rw[List.mem_singleton.1 ht] at hi ⊢
          exact hz2.out i hi
        clear hIh hIs ho hrd hgood hz hz2
        go_wp2
        go_roundw
        case rel=>
         refine⟨_,_,_,_,_,_,.int .i64 ((p:Int)+1),⟨p+1,by omega,?_,hIh2,hIs2,hz3⟩,rfl,rfl,rfl,rfl,rfl,rfl,rfl⟩
         go_num
        case measure=>simp[intOf];omega
     ·have hpi:¬(p:Int)<(H.sp.length:Int):=by omega
      have hpe:p=H.ma.sp.length:=by rw[Dv];omega
      rw[hpe,Di] at hIh
      rw[hpe,Aq] at hIs
      rw[hpe,List.take_length] at hz
      have hwr2:Hid (dV H.ma=if countB H.ma=true then 0 else 7):=Lib.hid (by rw[hwr.out,if_neg (by rw[zO hz.out];simp)])
      clear hz hwr hpe
      have hcb:=bx.cell
      unfold bP at hcb
      go_upto_region 30 with (fail)
      clear hcb
      go_loopw [104] (fun i wr => ∃(k:Nat),k≤H.m.fs.length∧i = .int .i64 k∧Below w.heap.size w wr∧aC wr w.heap.size (bP H) 40∧IB wr gh (fI H.m.fs.length (ky H.ma))∧IB wr gs (fI H.sl.length (jy H.ma))∧Hid (∀i,i<k→vJ H.ma i=true)) (fun i _=>H.m.fs.length-(intOf i).toNat)
      case atStart=>exact⟨0,Nat.zero_le _,rfl,hbr,bx,hIh,hIs,Lib.hid fun i hi=>absurd hi (Nat.not_lt_zero _)⟩
      case round=>
       clear hbr bx hIh hIs
       obtain⟨k,hk,rfl,hbr,bx,hIh,hIs,hz3⟩:=hrel
       by_cases hkl:k<H.m.fs.length
       ·obtain⟨bg,og,haf,hrd⟩:=fu eu (by decide) (h.below hbr).fr.rd k hkl
        have hki:(k:Int)<(H.m.fs.length:Int):=by omega
        have hxf:H.m.fs[k]=dL H.ma k:=by
         have:=xY (m:=H.ma) (f:=k) hkl
         have h2:H.m.fs[k]?=some (dL H.ma k):=this
         rw[List.getElem?_eq_getElem hkl] at h2
         exact Option.some.inj h2
        rw[hxf] at hrd
        have hcd:Hid (vJ H.ma k=(decide ((dL H.ma k).r=cnt (ky H.ma) k)&&(decide ((dL H.ma k).f<0)||H.ca.any (isK (k:Int))))):=Lib.hid rfl
        generalize dL H.ma k=x at *
        rw[haf]
        clear hxf
        obtain⟨gi,hgi⟩:∃g,g=wr.heap.size:=⟨_,rfl⟩
        go_upto_region 31 with (fail)
        have hgl:gh<wr.heap.size∧gs<wr.heap.size:=⟨aC.lt hIh,aC.lt hIs⟩
        have hbl:=bx.lt
        have hbA:Below wr.heap.size wr ((wr.alloc (.cells #[.int .i64 0] 3)).alloc (.cells #[.int .u8 0,.int .u8 0,.int .u8 0,.int .u8 0,.int .u8 0,.int .u8 0,.int .u8 0,.int .u8 0,.int .i64 0,.bool false,.bool false,.int .i64 0,.int .i64 0] 59)):=((Below.refl _ _).alloc (Nat.le_refl _) _).alloc (by rw[show (wr.alloc (.cells #[.int .i64 0] 3)).heap.size=wr.heap.size+1 from Array.size_push _];omega) _
        have e1:(wr.alloc (.cells #[.int .i64 0] 3)).heap.size=wr.heap.size+1:=Array.size_push _
        have hB1:aC ((wr.alloc (.cells #[.int .i64 0] 3)).alloc (.cells #[.int .u8 0,.int .u8 0,.int .u8 0,.int .u8 0,.int .u8 0,.int .u8 0,.int .u8 0,.int .u8 0,.int .i64 0,.bool false,.bool false,.int .i64 0,.int .i64 0] 59)) wr.heap.size #[.int .i64 0] 3:=(aC.new wr _ _).ext ((Below.refl _ _).alloc (Nat.le_refl _) _)
        have hB2:aC ((wr.alloc (.cells #[.int .i64 0] 3)).alloc (.cells #[.int .u8 0,.int .u8 0,.int .u8 0,.int .u8 0,.int .u8 0,.int .u8 0,.int .u8 0,.int .u8 0,.int .i64 0,.bool false,.bool false,.int .i64 0,.int .i64 0] 59)) (wr.heap.size+1) #[.int .u8 0,.int .u8 0,.int .u8 0,.int .u8 0,.int .u8 0,.int .u8 0,.int .u8 0,.int .u8 0,.int .i64 0,.bool false,.bool false,.int .i64 0,.int .i64 0] 59:=by rw[←e1];exact aC.new _ _ _
        go_wp2_with (first | (refine ax _ _ rfl bg (og+k*13) rfl rfl _ hrd _ Try.underlying59 rfl frame_size ?_) | (refine aA rfl _ _ _ rfl wr.heap.size 0 _ [.int .i64 (k:Int)] rfl rfl rfl _ _ hB1 (by show 0+1≤1;decide) int_one (fun u hu=>by cases List.mem_singleton.1 hu;rfl) ?_))
        intro w5 hb5 hg5
        have hb5' : aC w5 wr.heap.size #[.int .i64 (k:Int)] 3:=hb5
        have hf5:=hB2.grown hg5 (fun e=>by have:=Option.some.inj e;omega)
        have hbA5:=hbA.grown hg5 hbA.size (fun k hk=>by cases hk;exact Nat.le_refl _)
        go_wp2_with (refine dW rfl _ _ _ rfl (wr.heap.size+1) 0 (pK x) rfl rfl _ _ hf5 (by show 0+13≤13;decide) frame_size (mi x) ?_)
        intro w6 hb6 hg6
        have fx6:aC w6 (wr.heap.size+1) (pK x) 59:=by
         have e2:=iA (#[.int .u8 0,.int .u8 0,.int .u8 0,.int .u8 0,.int .u8 0,.int .u8 0,.int .u8 0,.int .u8 0,.int .i64 0,.bool false,.bool false,.int .i64 0,.int .i64 0]) (pK x) rfl
         rw[←e2];exact hb6
        have ix6:aC w6 wr.heap.size #[.int .i64 (k:Int)] 3:=hb5'.grown hg6 (fun e=>by have:=Option.some.inj e;omega)
        have hbA6:=hbA5.grown hg6 hbA5.size (fun k hk=>by cases hk;omega)
        have hbr6:=ag hbr hbA6
        have bx6:=bx.ext hbA6
        have hIh6:IB w6 gh _:=aC.ext hIh hbA6
        have hIs6:IB w6 gs _:=aC.ext hIs hbA6
        obtain⟨gx,hgx⟩:∃g,g=wr.heap.size+1:=⟨_,rfl⟩
        rw[←hgx] at fx6 ⊢
        rw[←hgi] at ix6 ⊢
        clear hbA hbA5 hbA6 hB1 hB2 hb5 hb5' hf5 hg5 hg6 hb6 hrd hbr bx hIh hIs e1 hgl hbl hgx hgi
        go_upto_region 32 with (fail)
        by_cases c1:x.r=cnt (ky H.ma) k
        ·by_cases c2:0≤x.f
         ·skip
          refine aF 19 [_,_,_,_,_,_,_,_,_,_,_,_,_,_,.v (.func (.func 41) #[] #[.pointer (some ⟨gi,0,none⟩)]),.v (.bool (H.ca.any (isK (k:Int)))),_,_,.v (.bool (!(H.ca.any (isK (k:Int)))))] (Gf gx 8 rfl rfl (Gl fx6 rfl rfl rfl rfl rfl (Gk rfl (Gl ix6 (V:=.int .i64 (k:Int)) rfl rfl rfl rfl rfl (Gr (.pointer (some ⟨gh,k,none⟩)) (fun ρ y W hb hKn=>(uF rfl (az rfl hKn) (az rfl hKn) hkl Try.underlying28 int_one)) rfl rfl (Gc (.int .i64 (cnt (ky H.ma) k:Int)) (fun W hb=>by simp[IB.cell (aC.ext hIh6 hb) (iK H.m.fs.length (ky H.ma) k hkl)]) rfl rfl rfl rfl (Gb (.bool false) (by simp[go_sem,c1]) rfl rfl rfl rfl rfl (Gk rfl (Gf gx 11 rfl rfl (Gl fx6 rfl rfl rfl rfl rfl (Gb (.bool true) (by simp[go_sem,c2]) rfl rfl rfl rfl rfl (Gk rfl (Gf w.heap.size 9 rfl rfl (Gl bx6 rfl rfl rfl rfl rfl (all_cons ?_ (all_cons ?_ (Gr (.bool (!(H.ca.any (isK (k:Int))))) (fun ρ y W hb hKn=>sO rfl (az rfl hKn)) rfl rfl (Gk rfl (Gk rfl (all_nil)))))))))))))))))))) (fun _=>rfl) rfl ?_
          ·intro ρ y W hw hn hb hd;have E15:ρ (.tmp 15) = .pointer (some ⟨gi,0,none⟩):=(hn (.tmp 15) rfl).trans rfl
           refine aj (.func (.func 41) #[] #[.pointer (some ⟨gi,0,none⟩)]) (aL 11 120 true true rfl rfl ((hw 120 11 rfl).trans (hd 11 rfl))) (by simp[execOp,go_sem,E15]) rfl
          ·intro ρ y W hw hn hb hd;have E122:=hw 122 13 rfl;have h13:y 13=_:=hd 13 rfl;have E123:=hw 123 14 rfl;have h14:y 14=_:=hd 14 rfl
           have EF:∀f,ρ (.func f) = .func (.func f) #[] #[]:=fun f=>hn (.func f) trivial
           refine aP _ _ (aL 11 120 true true rfl rfl ((hw 120 11 rfl).trans (hd 11 rfl))) (aN rfl (EF _) Try.func40 (by kernel_rfl) (by kernel_rfl) (by simp only[List.map_toArray,List.map_cons,List.map_nil,E122,h13,E123,h14,EF];rfl)) ?_
           refine (Gh H.ca _ _ W ((h.below hbr6).below hb).ca.rd (by omega) gi k (ix6.ext hb)).mono ?_
           rintro r w1 ⟨rfl,hb1⟩
           exact⟨_,rfl,hb1,rfl⟩
          intro y W7 hbW7 _
          have hbr7:=ag hbr6 hbW7
          have bx7:=bx6.ext hbW7
          have hIh7:=aC.ext hIh6 hbW7
          have hIs7:=aC.ext hIs6 hbW7
          clear hbW7 hbr6 bx6 hIh6 hIs6 ix6 fx6
          cases hA:H.ca.any (isK (k:Int)) with
          | true=>
           have hcnd:Hid (vJ H.ma k=true):=Lib.hid (by rw[hcd.out,decide_eq_true c1,hA];simp)
           clear c1 c2
           have hall:Hid (∀i,i<k+1→vJ H.ma i=true):=Lib.hid fun i hi=>by
            by_cases e:i=k
            ·rw[e];exact hcnd.out
            ·exact hz3.out i (by omega)
           go_wp2
           go_roundw
           case rel=>exact⟨k+1,by omega,by go_num,hbr7,bx7,hIh7,hIs7,hall⟩
           case measure=>simp[intOf];omega
          | false=>
           have hcnd:Hid (vJ H.ma k=false):=Lib.hid (by rw[hcd.out,decide_eq_true c1,hA,decide_eq_false (by omega)];rfl)
           clear c1 c2
           have hq:Hid (dV H.ma=7):=Lib.hid (by rw[hwr2.out,if_neg];intro hcb;exact absurd (yK hcb k hkl) (by rw[hcnd.out];decide))
           go_wp2
           go_ret
           rw[hq.out]
           exact⟨rfl,hbr7⟩
         ·have hcnd:Hid (vJ H.ma k=true):=Lib.hid (by rw[hcd.out,decide_eq_true c1,decide_eq_true (by omega)];rfl)
          refine aF 19 [_,_,_,_,_,_,_,_,_,_,_,_,_,_,_,_,_,_,.v (.bool false)] (Gf gx 8 rfl rfl (Gl fx6 rfl rfl rfl rfl rfl (Gk rfl (Gl ix6 (V:=.int .i64 (k:Int)) rfl rfl rfl rfl rfl (Gr (.pointer (some ⟨gh,k,none⟩)) (fun ρ y W hb hKn=>(uF rfl (az rfl hKn) (az rfl hKn) hkl Try.underlying28 int_one)) rfl rfl (Gc (.int .i64 (cnt (ky H.ma) k:Int)) (fun W hb=>by simp[IB.cell (aC.ext hIh6 hb) (iK H.m.fs.length (ky H.ma) k hkl)]) rfl rfl rfl rfl (Gb (.bool false) (by simp[go_sem,c1]) rfl rfl rfl rfl rfl (Gk rfl (Gf gx 11 rfl rfl (Gl fx6 rfl rfl rfl rfl rfl (Gb (.bool false) (by simp[go_sem,c2]) rfl rfl rfl rfl rfl (Gk rfl (Gk rfl (Gk rfl (Gk rfl (Gk rfl (Gk rfl (Gk rfl (Gk rfl (all_nil)))))))))))))))))))) (fun _=>rfl) rfl ?_
          intro y W7 hbW7 _
          have hbr7:=ag hbr6 hbW7
          have bx7:=bx6.ext hbW7
          have hIh7:=aC.ext hIh6 hbW7
          have hIs7:=aC.ext hIs6 hbW7
          clear hbW7 hbr6 bx6 hIh6 hIs6 ix6 fx6
          clear c1 c2
          have hall:Hid (∀i,i<k+1→vJ H.ma i=true):=Lib.hid fun i hi=>by
           by_cases e:i=k
           ·rw[e];exact hcnd.out
           ·exact hz3.out i (by omega)
          go_wp2
          go_roundw
          case rel=>exact⟨k+1,by omega,by go_num,hbr7,bx7,hIh7,hIs7,hall⟩
          case measure=>simp[intOf];omega
        ·have hcnd:Hid (vJ H.ma k=false):=Lib.hid (by rw[hcd.out,decide_eq_false c1];rfl)
         refine aF 19 [_,_,_,_,_,_,_,_,_,_,_,_,_,_,_,_,_,_,.v (.bool true)] (Gf gx 8 rfl rfl (Gl fx6 rfl rfl rfl rfl rfl (Gk rfl (Gl ix6 (V:=.int .i64 (k:Int)) rfl rfl rfl rfl rfl (Gr (.pointer (some ⟨gh,k,none⟩)) (fun ρ y W hb hKn=>(uF rfl (az rfl hKn) (az rfl hKn) hkl Try.underlying28 int_one)) rfl rfl (Gc (.int .i64 (cnt (ky H.ma) k:Int)) (fun W hb=>by simp[IB.cell (aC.ext hIh6 hb) (iK H.m.fs.length (ky H.ma) k hkl)]) rfl rfl rfl rfl (Gb (.bool true) (by simp[go_sem,c1]) rfl rfl rfl rfl rfl (Gk rfl (Gk rfl (Gk rfl (Gk rfl (Gk rfl (Gk rfl (Gk rfl (Gk rfl (Gk rfl (Gk rfl (Gk rfl (Gk rfl (all_nil)))))))))))))))))))) (fun _=>rfl) rfl ?_
         intro y W7 hbW7 _
         have hbr7:=ag hbr6 hbW7
         have bx7:=bx6.ext hbW7
         have hIh7:=aC.ext hIh6 hbW7
         have hIs7:=aC.ext hIs6 hbW7
         clear hbW7 hbr6 bx6 hIh6 hIs6 ix6 fx6
         clear c1
         have hq:Hid (dV H.ma=7):=Lib.hid (by rw[hwr2.out,if_neg];intro hcb;exact absurd (yK hcb k hkl) (by rw[hcnd.out];decide))
         go_wp2
         go_ret
         rw[hq.out]
         exact⟨rfl,hbr7⟩
       ·have hki:¬(k:Int)<(H.m.fs.length:Int):=by omega
        have hrs:=(h.below hbr).sl
        have hIsr:bW wr (some ⟨gs,0,none⟩) ((fI H.sl.length (jy H.ma)).map eU):=fun i u hi=>⟨gs,0,rfl,by rw[Nat.zero_add,aC.cell hIs];simpa using hi⟩
        have hcb:=bx.cell
        unfold bP at hcb
        have hll:=Lib.hid (gN H.sl.length (jy H.ma))
        have hq:Hid (dV H.ma=if H.sl=fI H.sl.length (jy H.ma) then 0 else 7):=Lib.hid (by
         rw[hwr2.out,yU,List.all_eq_true.2 (fun i hi=>hz3.out i (by have:=List.mem_range.1 hi;have e:H.ma.m.fs.length=H.m.fs.length:=rfl;omega)),Bool.true_and]
         show (if decide (H.sl=fI H.sl.length (jy H.ma))=true then (0:Int) else 7)=_
         by_cases e:H.sl=fI H.sl.length (jy H.ma)
         ·rw[if_pos e,if_pos (decide_eq_true e)]
         ·rw[if_neg e,if_neg (by simp[e])])
        have hsl60:=n2
        generalize hC:fI H.sl.length (jy H.ma)=C at *
        clear hz3 hwr2 hC
        go_wp2_with fail
        rw[show (Value.slice (some ⟨gs,0,none⟩) H.sl.length H.sl.length) = .slice (some ⟨gs,0,none⟩) C.length H.sl.length from by rw[hll.out]]
        refine (zB H.sl C H.asl (some ⟨gs,0,none⟩) H.csl H.sl.length _ hrs.rd hIsr (by omega) (by rw[hll.out];omega)).mono ?_
        rintro r w5 ⟨rfl,hb5⟩
        by_cases e:H.sl=C
        ·rw[show (H.sl==C)=true from by rw[beq_iff_eq];exact e]
         have hq0:Hid (dV H.ma=0):=Lib.hid (by rw[hq.out,if_pos e])
         clear e hcb
         go_wp2
         go_ret
         rw[hq0.out]
         exact⟨rfl,ag hbr hb5⟩
        ·rw[show (H.sl==C)=false from by rw[beq_eq_false_iff_ne];exact e]
         have hq0:Hid (dV H.ma=7):=Lib.hid (by rw[hq.out,if_neg e])
         clear e hcb
         go_wp2
         go_ret
         rw[hq0.out]
         exact⟨rfl,ag hbr hb5⟩
theorem ko {w:World} {a b:Nat} {cs cs' : Array Value} {T T' : TypeId} (h:aC w a cs T) (h' : aC w b cs' T') (hT:T≠T'):a≠b:=by
 rintro rfl
 unfold aC at h h'
 rw[h] at h'
 simp only[Option.some.injEq,Obj.cells.injEq] at h'
 exact hT h'.2.1
def Js (B:Nat) (m:Mem):ig:=⟨fun v w => ∃u,v = .agg #[u,.int .i64 m.hand]∧Own w B 59 13 u m.fs.length (m.fs.flatMap mD),fun _ _ _ hb ⟨u,h1,h2⟩=>⟨u,h1,h2.below hb⟩⟩
theorem lZ (l:List Cc):(l.flatMap jI).length=l.length*3:=Pw.flat_len jI 3 jg l
theorem wZ (c:Cc):∀u∈jI c,u.oneCell' = true:=aZ (lU c)
theorem yf (l:List Cc):∀u∈l.flatMap jI,u.oneCell' = true:=by
 intro u hu
 obtain⟨c,_,hc⟩:=List.mem_flatMap.1 hu
 exact wZ c u hc
def Ji (B:Nat) (S:St):ig:=⟨fun v w => ∃u ps k,v = .agg #[u,.int .i64 k]∧pV w B u ps∧dP ps k=S,fun _ _ _ hb ⟨u,ps,k,h1,h2,h3⟩=>⟨u,ps,k,h1,h2.below hb,h3⟩⟩
end Go.Proofs.Ytkjobhcnlppcnaa
namespace Pw
open Go Go.RowKit
theorem wp_mono' {P:Program} {Q:Exit→Act→World→Prop} {o:Oper} {a:Act} {w:World} {K K' : Act→World→Prop} (h:∀v D w,K (Act.put { a with defers:=D } o.dst v) w→K' (Act.put { a with defers:=D } o.dst v) w)
  (hh:o.wp P a w K Q):o.wp P a w K' Q:=by
 unfold Oper.wp at *
 generalize (execOp a.eval o).run P w=r at *
 cases r with
 | ok n w'=>
  cases n<;>simp only[Oper.upon] at hh ⊢ <;>
   first
    | exact h _ a.defers _ hh
    | exact h _ _ _ hh
    | exact Calls.mono hh (fun e w'' he=>by cases e<;>first | exact h _ a.defers _ he | exact he)
    | exact Rows.mono hh (fun _ _ he=>h _ a.defers _ he)
 | halt x w'=>cases x<;>simp only[Oper.upon] at hh ⊢<;>exact hh
def qc (v:Value) (o:Oper):Oper:={ o with op:=.move (.const v) }
def freed (ops:Array Oper) (p:Nat) (v:Value):Array Oper:=ops.modify p (qc v)
theorem qY (ops:Array Oper) (p:Nat) (v:Value) (i:Nat):(freed ops p v)[i]?=if p=i then (ops[i]?).map (qc v) else ops[i]?:=by
 unfold freed
 rw[Array.getElem?_modify]
theorem uj (ops:Array Oper) (p:Nat) (v:Value):(freed ops p v).size=ops.size:=by unfold freed;simp
theorem sF (ops:Array Oper) (p:Nat) (v:Value) (listed:Array Bool):Region.ready .any (freed ops p v) listed=Region.ready .any ops listed:=by
 unfold Region.ready
 rw[uj]
 apply List.filter_congr
 intro i _
 congr 1
 rw[qY]
 by_cases e:p=i
 ·rw[if_pos e]
  cases ops[i]?<;>rfl
 ·rw[if_neg e]
theorem vL (ops:Array Oper) (p:Nat) (v:Value) (ts:Array Value):yielded (freed ops p v) ts=yielded ops ts:=by
 funext g
 unfold yielded
 rw[qY]
 by_cases e:p=g
 ·rw[if_pos e]
  cases ops[g]?<;>rfl
 ·rw[if_neg e]
def Ad (ops:Array Oper) (p d:Nat):Bool:=
 (match ops[p]? with
  | some o=>(match o.op with
   | .move (.tmp t)=>decide (t=d)&&o.guard.isNone&&decide (o.dst≠some d)
   | _=>false)
  | none=>false) &&
 (List.range ops.size).all fun i=>match ops[i]? with
  | none=>true
  | some o=>decide (o.dst≠some d)||o.after.toList.any fun e=>decide (e.on=p)&&Region.binds .any e
theorem zy {a:Act} {D:List Deferred} {dst:Option Tmp} {v:Value} {d:Nat} (h:dst≠some d):(Act.put { a with defers:=D } dst v).eval (.tmp d)=a.eval (.tmp d):=by
 cases dst with
 | none=>rfl
 | some t=>
  have ht:t≠d:=fun e=>h (by rw[e])
  simp[Act.put,Act.eval,Array.getElem?_setIfInBounds,ht]
theorem zZ {ops:Array Oper} {listed:Array Bool} {i:Nat} {o:Oper} (hi:i∈Region.ready .any ops listed) (ho:ops[i]?=some o):listed.getD i false=false∧∀e∈o.after,Region.binds .any e=true→listed.getD e.on false=true:=by
 obtain⟨h1,o',ho',h2⟩:=mem_ready.1 hi
 rw[ho] at ho'
 cases ho'
 refine⟨?_,h2⟩
 rw[Array.getD_eq_getD_getElem?] at h1 ⊢
 cases h:listed[i]? with
 | none=>rfl
 | some b=>rw[h] at h1;exact h1
theorem qL {P:Program} {ops:Array Oper} {Q:Exit→Act→World→Prop} {p d:Nat} {v:Value} (hok0:Ad ops p d=true):∀(fuel:Nat) (listed:Array Bool) (a:Act) (w:World),(listed.getD p false=false→a.eval (.tmp d)=v)→wpAny P .any (freed ops p v) Q fuel listed a w→wpAny P .any ops Q fuel listed a w
 | 0,listed,a,w,hI,h=>by
  unfold wpAny at h ⊢
  rw[sF] at h
  exact h
 | fuel+1,listed,a,w,hI,h=>by
  unfold wpAny at h ⊢
  rw[sF] at h
  refine⟨h.1,fun i hi => ?_⟩
  have hw:=h.2 i hi
  have hup:(listed.setIfInBounds i true).getD p false=false→listed.getD p false=false:=fun h'=>by
   cases hl:listed.getD p false with
   | false=>rfl
   | true=>
    exfalso
    by_cases hs:i<listed.size
    ·rw[nR hs p hl] at h'; cases h'
    ·have e:listed.setIfInBounds i true=listed:=by rw[Array.setIfInBounds_eq_of_size_le (by omega)]
     rw[e,hl] at h'; cases h'
  have hok:=hok0
  unfold Ad at hok
  rw[Bool.and_eq_true] at hok
  obtain⟨hp,hall⟩:=hok
  unfold wpOp at hw ⊢
  rw[qY,vL] at hw
  cases ho:ops[i]? with
  | none=>
   rw[ho] at hw
   have hw' : wpAny P .any (freed ops p v) Q fuel (listed.setIfInBounds i true) a w:=by
    by_cases e:p=i
    ·rw[if_pos e] at hw;exact hw
    ·rw[if_neg e] at hw;exact hw
   exact qL hok0 fuel _ a w (fun h'=>hI (hup h')) hw'
  | some o=>
   rw[ho] at hw
   have hilt:i<ops.size:=(Array.getElem?_eq_some_iff.1 ho).1
   have hedge:=zZ hi ho
   by_cases e:p=i
   ·subst e
    rw[if_pos rfl] at hw
    simp only[Option.map_some] at hw
    rw[ho] at hp
    simp only at hp
    cases hop:o.op with
    | move x=>
     rw[hop] at hp
     cases x with
     | tmp t=>
      simp only[Bool.and_eq_true,decide_eq_true_eq] at hp
      obtain⟨⟨rfl,hg⟩,hdst⟩:=hp
      have hev:a.eval (.tmp t)=v:=hI hedge.1
      have hex:execOp a.eval (qc v o)=execOp a.eval o:=by
       unfold execOp qc
       simp only[hop]
       rw[hev];rfl
      have hnext:∀(v' : Value) (D:List Deferred) (w:World),wpAny P .any (freed ops p v) Q fuel (listed.setIfInBounds p true) (Act.put { a with defers:=D } o.dst v') w→wpAny P .any ops Q fuel (listed.setIfInBounds p true) (Act.put { a with defers:=D } o.dst v') w:=
       fun v' D w hh=>qL hok0 fuel _ _ w (fun _=>by rw[zy hdst];exact hev) hh
      simp only
      have hwt:Region.wanted (qc v o) (yielded ops a.tmps)=Region.wanted o (yielded ops a.tmps):=rfl
      rw[hwt] at hw
      split
      ·rename_i hwant
       rw[if_pos hwant] at hw
       rcases hw with hw|hw
       ·refine .inl (wp_mono' hnext ?_)
        unfold Oper.wp at hw ⊢
        rw[←hex];exact hw
       ·refine .inr ⟨?_,hw.2⟩
        have:=hw.1
        unfold Oper.asks at this ⊢
        rw[←hex];exact this
      ·rename_i hwant
       rw[if_neg hwant] at hw
       exact hnext undef a.defers w hw
     | _=>cases hp
    | _=>rw[hop] at hp;cases hp
   ·rw[if_neg e] at hw
    simp only at hw ⊢
    have ho2:=List.all_eq_true.1 hall i (List.mem_range.2 hilt)
    rw[ho] at ho2
    simp only[Bool.or_eq_true,decide_eq_true_eq] at ho2
    have hnext:∀(v' : Value) (D:List Deferred) (w:World),wpAny P .any (freed ops p v) Q fuel (listed.setIfInBounds i true) (Act.put { a with defers:=D } o.dst v') w→wpAny P .any ops Q fuel (listed.setIfInBounds i true) (Act.put { a with defers:=D } o.dst v') w:=by
     intro v' D w hh
     refine qL hok0 fuel _ _ w (fun h' => ?_) hh
     rcases ho2 with h2|h2
     ·rw[zy h2];exact hI (hup h')
     ·rw[List.any_eq_true] at h2
      obtain⟨e',he',h3⟩:=h2
      rw[Bool.and_eq_true,decide_eq_true_eq] at h3
      have:=hedge.2 e' (Array.mem_toList_iff.1 he') h3.2
      rw[h3.1] at this
      rw[hup h'] at this;cases this
    split
    ·rename_i hwant
     rw[if_pos hwant] at hw
     exact hw.imp (wp_mono' hnext) id
    ·rename_i hwant
     rw[if_neg hwant] at hw
     exact hnext undef a.defers w hw
def freedL:List Oper→Nat→Value→List Oper
 | [],_,_=>[]
 | o::r,0,v=>qc v o::r
 | o::r,k+1,v=>o::freedL r k v
theorem uf (v:Value):∀(l:List Oper) (p:Nat),l.modify p (qc v)=freedL l p v
 | [],p=>by cases p<;>rfl
 | o::r,0=>rfl
 | o::r,k+1=>by
  rw[List.modify_succ_cons,uf v r k];rfl
theorem DK (l:List Oper) (p:Nat) (v:Value):freed ⟨l⟩ p v=⟨freedL l p v⟩:=by
 unfold freed
 rw[←uf]
 simp
theorem CF {P:Program} {l:List Oper} {Q:Exit→Act→World→Prop} {id:Nat} {a0:Act} {w0:World} (p d:Nat) (v0:Value) (hm:P.follows .mixedOrders=true) (hf:Ad ⟨l⟩ p d=true) (hv:a0.eval (.tmp d)=v0)
  (h:∀ops:Array Oper,ops=(freedL l p v0).toArray→wpAny P .any ops Q ops.size (Array.replicate ops.size false) a0 { w0 with drawn:=w0.drawn+1 }) :
  (Code.region id ⟨l⟩ true).wp P Q a0 w0:=by
 have h:=h _ rfl
 rw[show (freedL l p v0).toArray=freed ⟨l⟩ p v0 from (DK l p v0).symm,uj] at h
 exact wp_region_any hm (qL hf _ _ _ _ (fun _=>hv) h)
end Pw
namespace Go.Proofs.Ytkjobhcnlppcnaa
open Go.RowKit Go.Maps Pw
theorem xU (l:List Cc) (a:Option Addr) (c:Nat) (w:World) (hle:l.length≤c) (hnil:a=none→c=0) (hrd:bW w a (l.flatMap jI)) (hb:l.length*24≤140737488355328) :
  Calls Try.prog 58 #[.slice a l.length c] w fun e w' => ∃v,e = .returned v∧Own w' w.heap.size 85 3 v l.length (l.flatMap jI)∧Below w.heap.size w w':=by
 cases a with
 | none=>
  have h0:=hnil rfl
  have hl:l=[]:=List.eq_nil_of_length_eq_zero (by omega)
  subst hl
  subst h0
  have hq:=fun W=>Lib.run_eql_slice_nil (P:=Try.prog) W 37 _ none 0 0 0 0 Try.underlying37
  go_enter Try.func58,Try.ntmps58
  go_wp2
  go_ret
  exact⟨_,rfl,by simpa using Own.nil _ _ _ _,Below.refl _ _⟩
 | some ad=>
  have hq:=fun W=>Lib.run_eql_slice_nil (P:=Try.prog) W 37 _ (some ad) l.length c 0 0 Try.underlying37
  go_enter Try.func58,Try.ntmps58
  go_wp2_with (at_builtin;go_must (refine dJ rfl _ _ 37 rfl w.heap.size 85 (.agg #[.int .i64 0,.int .i64 0,.int .i64 0]) 3 24 Try.underlying37 cached_info rfl (by decide) _ 0 [] rfl ?own (some ad) l.length c (l.flatMap jI) rfl (fun h=>(by cases h)) hle (lZ l) ?rd (yf l) (by unfold maxLen;omega) (by simpa using hb) ?bb ?k))
  case own=>exact⟨rfl,.inr ⟨w.heap.size,0,0,#[],rfl,Nat.le_refl _,aC.new _ _ _,Nat.le_refl _,Nat.zero_le _,by simp,fun j u h=>by simp at h⟩⟩
  case rd=>exact hrd.below ((Below.refl _ _).alloc (Nat.le_refl _) _)
  case bb=>exact dI _ _
  intro v w1 hown hgr
  go_wp2
  go_ret
  exact⟨v,rfl,by simpa using hown,((Below.refl _ _).alloc (Nat.le_refl _) _).grown hgr (dI _ _) (fun k hk=>by cases hk;exact Nat.le_refl _)⟩
theorem JN.fsz {H:MH} (h:JN H.ma):Kb H.fi:=by
 have h1:(H.fi.map PF.fi).length≤1000:=h.st.1
 rw[List.length_map] at h1
 refine⟨by omega,fun p hp => ?_⟩
 have:=h.st.2 p.fi (List.mem_map.2 ⟨p,hp,rfl⟩)
 have e:p.fi.b.length=p.l.length:=rfl
 omega
theorem JN.spz {H:MH} (h:JN H.ma) {p:PS} (hp:p∈H.sp):p.ar.length≤1000∧EP p.tb:=by
 obtain⟨h1,h2⟩:=h.sp.2 p.sp (List.mem_map.2 ⟨p,hp,rfl⟩)
 exact⟨h1,fun k hk=>by have:=h2 k hk;have e:p.sp.tb[k].length=p.tb[k].length:=rfl;omega⟩
def mg (w:World) (B:Nat) (p:PS) (s:Sp):Prop:=p.sp=s∧Own w B 69 7 (.slice p.aa p.ar.length p.ac) p.ar.length (p.ar.flatMap gV)∧nO w B (jG p.ts) p.tb
theorem mg.below {w w' : World} {B:Nat} {p:PS} {s:Sp} (h:mg w B p s) (hb:Below w.heap.size w w'):mg w' B p s:=⟨h.1,h.2.1.below hb,h.2.2.below hb⟩
def Jy (B:Nat) (s:Sp):ig:=⟨fun v w => ∃p,v = .agg (lu p)∧mg w B p s,fun _ _ _ hb ⟨p,h1,h2⟩=>⟨p,h1,h2.below hb⟩⟩
def Kl (B:Nat) (s:Sp):ig:=⟨fun v w => ∃g p,v = .slice (some ⟨g,0,none⟩) 1 1∧bW w (some ⟨g,0,none⟩) (lS p)∧mg w B p s,fun _ _ _ hb ⟨g,p,h1,h2,h3⟩=>⟨g,p,h1,h2.below hb,h3.below hb⟩⟩
theorem Ec {w:World} {B:Nat} {p:PS} {s:Sp} (h:mg w B p s):∀u∈lS p,u.oneCell' = true:=by
 have h1:=h.2.2.rd.one
 rw[←Array.all_toList,List.all_eq_true] at h1
 intro u hu
 simp only[lS,lu,List.mem_cons,List.not_mem_nil,or_false] at hu
 simp only[jG,List.mem_cons,List.not_mem_nil,or_false] at h1
 rcases hu with rfl|rfl|hu
 ·rfl
 ·rfl
 ·exact h1 u hu
theorem caO_size:(Try.prog.info? 37).map (·.size)=some 1:=by kernel_rfl
theorem Cb {w w' : World} {B n c:Nat} {a:Option Addr} {xs:List Value} (ho:Own w B 65 10 (.slice a n c) n xs) (hg:w.grownBy w' (Value.slice a n c).ownBlock) :
  w.grownBy w' none∨∃g cs,aC w g cs 65∧B≤g∧w.grownBy w' (some g):=by
 cases hr:(Value.slice a n c).ownBlock with
 | none=>rw[hr] at hg;exact .inl hg
 | some g=>
  rw[hr] at hg
  obtain⟨cs,hb⟩:=fU ho g hr
  exact .inr ⟨g,cs,hb,ho.ge g hr,hg⟩
theorem eF {w w' : World} {B n c B' sz m:Nat} {a:Option Addr} {xs ys:List Value} {T:TypeId} {v:Value} (ho:Own w B 65 10 (.slice a n c) n xs) (hg:w.grownBy w' (Value.slice a n c).ownBlock) (h:Own w B' T sz v m ys) (hT:T≠65):Own w' B' T sz v m ys:=by
 rcases Cb ho hg with h1|⟨g,cs,hb,_,h1⟩
 ·exact Es h h1
 ·exact ak h hb (fun e=>hT e.symm) h1
theorem qp {w w' : World} {B n c b:Nat} {a:Option Addr} {xs:List Value} {T:TypeId} {cs:Array Value} (ho:Own w B 65 10 (.slice a n c) n xs) (hg:w.grownBy w' (Value.slice a n c).ownBlock) (h:aC w b cs T) (hT:T≠65):aC w' b cs T:=by
 rcases Cb ho hg with h1|⟨g,cs',hb,_,h1⟩
 ·exact h.grown h1 (fun e=>by cases e)
 ·exact h.grown h1 (fun e=>ko h hb hT (Option.some.inj e).symm)
theorem GZ {w w' : World} {B n c B' : Nat} {a:Option Addr} {xs:List Value} {v:Value} {ps:List PF} (ho:Own w B 65 10 (.slice a n c) n xs) (hg:w.grownBy w' (Value.slice a n c).ownBlock) (h:pV w B' v ps):pV w' B' v ps:=
 ⟨eF ho hg h.own (by decide),fun i p hp=>eF ho hg (h.each i p hp) (by decide),h.apart⟩
theorem sP {w w' : World} {B n c B' : Nat} {a:Option Addr} {xs:List Value} {cs:Array Value} {t:Tb} (ho:Own w B 65 10 (.slice a n c) n xs) (hg:w.grownBy w' (Value.slice a n c).ownBlock) (h:nO w B' cs t):nO w' B' cs t:=
 ⟨h.sz,fun k hk=>by obtain⟨v,h1,h2⟩:=h.own k hk;exact⟨v,h1,eF ho hg h2 (by decide)⟩,h.apart⟩
theorem mach_size:(Try.prog.info? 40).map (·.size)=some 11:=by kernel_rfl
theorem slsp_size:(Try.prog.info? 38).map (·.size)=some 1:=by kernel_rfl
theorem xL (H:MH) (w:World) (h:sV w H) (hz:JN H.ma) :
  Calls Try.prog 13 #[.agg (bP H)] w fun r w' => ∃H' : MH,r = .returned (.agg (bP H'))∧sG w' w.heap.size H'∧H'.ma=H.ma∧(∀p∈H'.fi,∀x,oB p.a=some x→oB H'.asl≠some x)∧Below w.heap.size w w':=by
 have z1:H.m.fs.length≤1000:=hz.fs
 have z2:H.sl.length≤1000:=hz.sl
 have z3:H.sw.blocks.length≤1000:=hz.swb
 have z4:H.sw.queue.length≤1000:=hz.swq
 have z5:H.dk.blocks.length≤1000:=hz.dkb
 have z6:H.dk.queue.length≤1000:=hz.dkq
 have z7:H.ca.length≤1000:=hz.ca
 have z8:H.sp.length≤1000:=by have:=hz.sp.1;rw[Dv] at this;exact this
 have zf:=hz.fsz
 go_enter Try.func13,Try.ntmps13
 go_upto_region 1 with (fail)
 refine pz (fun W=>Code.wp _ _ _ _ W) fun w1 hb1 bx1 rx1 hs1 => ?_
 have hm1:=h.below hb1
 clear hs1
 refine rF 7 [_,_,.r 2 ((Js w1.heap.size H.m)),_,_,.r 5 ((kU w1.heap.size 3 1 H.sl.length (H.sl.map eU))),_] (fun W=>Below w1.heap.size w1 W) nG (Below.refl _ _) (Yf nG w.heap.size 0 rfl rfl (Yr nG (.agg #[.slice H.af H.m.fs.length H.cf,.int .i64 H.m.hand]) (fun ρ y W hb hKn=>(bM rfl (az rfl hKn) (bK (bx1.ext hb) 0 2) Try.underlying27 rfl (by kernel_rfl))) rfl rfl (all_cons ?_ (Yf nG w.heap.size 2 rfl rfl (Yc nG (.slice H.asl H.sl.length H.csl) (fun W hb=>by simp[(bx1.ext hb).cell,bP]) rfl rfl rfl rfl (all_cons ?_ (Yf nG w.heap.size 0 rfl rfl (all_nil)))))))) (fun _=>rfl) rfl ?_
 ·intro ρ y W hw hn hb hd
  refine Bz nG hb ((Js w1.heap.size H.m)) (fun _ _ h=>h) ?_
  have E7:=hw 7 1 rfl
  have h1:y 1 = .agg #[.slice H.af H.m.fs.length H.cf,.int .i64 H.m.hand]:=hd 1 rfl
  have EF:∀f,ρ (.func f) = .func (.func f) #[] #[]:=fun f=>hn (.func f) trivial
  refine aP _ _ (ah rfl) (aN rfl (EF _) Try.func54 (by kernel_rfl) (by kernel_rfl) (by simp only[List.map_toArray,List.map_cons,List.map_nil,E7,h1,EF];rfl)) ?_
  refine (Gy H.m _ _ W (hm1.below hb).fr (by omega)).mono ?_
  rintro r w3 ⟨u,rfl,ho,hb1⟩
  exact⟨_,rfl,hb1,u,rfl,ho.mono hb.size⟩
 ·intro ρ y W hw hn hb hd
  refine Bz nG hb ((kU w1.heap.size 3 1 H.sl.length (H.sl.map eU))) (fun _ _ h=>h) ?_
  have E10:=hw 10 4 rfl
  have h4:y 4 = .slice H.asl H.sl.length H.csl:=hd 4 rfl
  have EF:∀f,ρ (.func f) = .func (.func f) #[] #[]:=fun f=>hn (.func f) trivial
  refine aP _ _ (ah rfl) (aN rfl (EF _) Try.func55 (by kernel_rfl) (by kernel_rfl) (by simp only[List.map_toArray,List.map_cons,List.map_nil,E10,h4,EF];rfl)) ?_
  have hs:=(hm1.below hb).sl
  refine (zU H.sl _ _ W hs.le hs.nl hs.rd (by omega)).mono ?_
  rintro r w3 ⟨u,rfl,ho,hb1⟩
  exact⟨_,rfl,hb1,ho.mono hb.size⟩
 intro y w2 hbw2 hRw2
 replace hbw2:Below w1.heap.size w1 w2:=hbw2
 have hy2:((Js w1.heap.size H.m)).r (y 2) w2:=hRw2 2 (by decide)
 have hy5:((kU w1.heap.size 3 1 H.sl.length (H.sl.map eU))).r (y 5) w2:=hRw2 5 (by decide)
 clear hRw2
 simp only[strip,dn,List.map_cons,List.map_nil]
 obtain⟨u1,hu1,ho1⟩:=hy2
 have ho2:Own w2 w1.heap.size 3 1 (y 5) H.sl.length (H.sl.map eU):=hy5
 obtain⟨a1,c1,rfl,_⟩:=ho1.rd
 obtain⟨a2,c2,hu2,_⟩:=Own.rd ho2
 rw[hu2] at ho2
 rw[hu1,hu2]
 have bx2:=bx1.ext hbw2
 have rx2:=rx1.ext hbw2
 have hbr2:=ag hb1 hbw2
 have hm2:=hm1.below hbw2
 have hw1:=Lib.hid hb1.size
 have hlt2:=rx2.lt
 clear hbw2 bx1 rx1 hm1 hu1 hu2 hy5
 go_wp2_with (refine dW rfl _ _ _ rfl w.heap.size 0 #[.slice a1 H.m.fs.length c1,.int .i64 H.m.hand] rfl rfl _ _ bx2 (by show 0+2≤11;decide) mem_size (qw _ _ _ _) ?_)
 intro w3 bx3 hg3
 have ho13:=ak ho1 bx2 (by decide) hg3
 have ho23:=ak ho2 bx2 (by decide) hg3
 have hbr3:=hbr2.grown hg3 hbr2.size (fun k hk=>by cases hk;exact Nat.le_refl _)
 have rx3:=rx2.grown hg3 (fun e=>by have:=Option.some.inj e;omega)
 have bx3' : aC w3 w.heap.size (bP { H with af:=a1,cf:=c1 }) 40:=bx3
 clear ho1 ho2 bx2 rx2 hm2 hg3 bx3 hbr2
 go_wp2_with (refine aA rfl _ _ _ rfl w.heap.size 2 _ [.slice a2 H.sl.length c2] rfl rfl rfl _ _ bx3' (by show 2+1≤11;decide) slots_size (fun u hu=>by cases List.mem_singleton.1 hu;rfl) ?_)
 intro w4 bx4 hg4
 have ho14:=ak ho13 bx3' (by decide) hg4
 have ho24:=ak ho23 bx3' (by decide) hg4
 have hbr4:=hbr3.grown hg4 hbr3.size (fun k hk=>by cases hk;exact Nat.le_refl _)
 have rx4:=rx3.grown hg4 (fun e=>by have:=Option.some.inj e;omega)
 have bx4' : aC w4 w.heap.size (bP { H with af:=a1,cf:=c1,asl:=a2,csl:=c2 }) 40:=bx4
 have hm4:=h.below hbr4
 clear ho13 ho23 bx3' rx3 hg4 bx4 hbr3
 obtain⟨H4,hH4⟩:∃H4:MH,Hid (H4 = { H with af:=a1,cf:=c1,asl:=a2,csl:=c2 }):=⟨_,Lib.hid rfl⟩
 go_upto_region 2 with (fail)
 refine rF 10 [_,_,.r 2 ((yu w4.heap.size H.sw)),_,_,.r 5 ((yu w4.heap.size H.dk)),_,_,.r 8 ((Ji w4.heap.size (dP H.fi H.ct))),_] (fun W=>Below w4.heap.size w4 W) nG (Below.refl _ _) (Yf nG w.heap.size 3 rfl rfl (Yr nG (.agg #[.slice H.wb H.sw.blocks.length H.cwb,.slice H.wq H.sw.queue.length H.cwq]) (fun ρ y W hb hKn=>(bM rfl (az rfl hKn) (bK (bx4'.ext hb) 3 2) Try.underlying33 rfl (by kernel_rfl))) rfl rfl (all_cons ?_ (Yf nG w.heap.size 5 rfl rfl (Yr nG (.agg #[.slice H.db H.dk.blocks.length H.cdb,.slice H.dq H.dk.queue.length H.cdq]) (fun ρ y W hb hKn=>(bM rfl (az rfl hKn) (bK (bx4'.ext hb) 5 2) Try.underlying33 rfl (by kernel_rfl))) rfl rfl (all_cons ?_ (Yf nG w.heap.size 7 rfl rfl (Yr nG (.agg #[.slice H.ai H.fi.length H.ci,.int .i64 H.ct]) (fun ρ y W hb hKn=>(bM rfl (az rfl hKn) (bK (bx4'.ext hb) 7 2) Try.underlying36 rfl (by kernel_rfl))) rfl rfl (all_cons ?_ (Yf nG w.heap.size 3 rfl rfl (all_nil))))))))))) (fun _=>rfl) rfl ?_
 ·intro ρ y W hw hn hb hd
  refine Bz nG hb ((yu w4.heap.size H.sw)) (fun _ _ h=>h) ?_
  have E15:=hw 15 1 rfl
  have h1:y 1 = .agg #[.slice H.wb H.sw.blocks.length H.cwb,.slice H.wq H.sw.queue.length H.cwq]:=hd 1 rfl
  have EF:∀f,ρ (.func f) = .func (.func f) #[] #[]:=fun f=>hn (.func f) trivial
  refine aP _ _ (ah rfl) (aN rfl (EF _) Try.func56 (by kernel_rfl) (by kernel_rfl) (by simp only[List.map_toArray,List.map_cons,List.map_nil,E15,h1,EF];rfl)) ?_
  refine (zQ H.sw _ _ _ _ W (hm4.below hb).sw (by omega) (by omega)).mono ?_
  rintro r w3 ⟨u,v,rfl,ho,hb1⟩
  exact⟨_,rfl,hb1,u,v,rfl,ho.mono hb.size⟩
 ·intro ρ y W hw hn hb hd
  refine Bz nG hb ((yu w4.heap.size H.dk)) (fun _ _ h=>h) ?_
  have E18:=hw 18 4 rfl
  have h4:y 4 = .agg #[.slice H.db H.dk.blocks.length H.cdb,.slice H.dq H.dk.queue.length H.cdq]:=hd 4 rfl
  have EF:∀f,ρ (.func f) = .func (.func f) #[] #[]:=fun f=>hn (.func f) trivial
  refine aP _ _ (ah rfl) (aN rfl (EF _) Try.func56 (by kernel_rfl) (by kernel_rfl) (by simp only[List.map_toArray,List.map_cons,List.map_nil,E18,h4,EF];rfl)) ?_
  refine (zQ H.dk _ _ _ _ W (hm4.below hb).dk (by omega) (by omega)).mono ?_
  rintro r w3 ⟨u,v,rfl,ho,hb1⟩
  exact⟨_,rfl,hb1,u,v,rfl,ho.mono hb.size⟩
 ·intro ρ y W hw hn hb hd
  refine Bz nG hb ((Ji w4.heap.size (dP H.fi H.ct))) (fun _ _ h=>h) ?_
  have E21:=hw 21 7 rfl
  have h7:y 7 = .agg #[.slice H.ai H.fi.length H.ci,.int .i64 H.ct]:=hd 7 rfl
  have EF:∀f,ρ (.func f) = .func (.func f) #[] #[]:=fun f=>hn (.func f) trivial
  refine aP _ _ (ah rfl) (aN rfl (EF _) Try.func57 (by kernel_rfl) (by kernel_rfl) (by simp only[List.map_toArray,List.map_cons,List.map_nil,E21,h7,EF];rfl)) ?_
  refine (Gw H.fi H.ct _ _ W (hm4.below hb).st zf).mono ?_
  rintro r w3 ⟨u,ps,rfl,ho,he,hb1⟩
  exact⟨_,rfl,hb1,u,ps,_,rfl,ho.mono hb.size,by unfold dP;rw[he]⟩
 intro y w5 hbw5 hRw5
 replace hbw5:Below w4.heap.size w4 w5:=hbw5
 have hy2:((yu w4.heap.size H.sw)).r (y 2) w5:=hRw5 2 (by decide)
 have hy5:((yu w4.heap.size H.dk)).r (y 5) w5:=hRw5 5 (by decide)
 have hy8:((Ji w4.heap.size (dP H.fi H.ct))).r (y 8) w5:=hRw5 8 (by decide)
 clear hRw5
 simp only[strip,dn,List.map_cons,List.map_nil]
 obtain⟨ub,uq,hu3,ho3⟩:=hy2
 obtain⟨vb,vq,hu4,ho4⟩:=hy5
 obtain⟨us,ps,ks,hu5,ho5,hst⟩:=hy8
 have hks : -9223372036854775808≤ks∧ks≤9223372036854775807:=by have e:ks=H.ct:=congrArg St.count hst;rw[e];exact h.c64
 obtain⟨ab,cb,rfl,_⟩:=ho3.b.rd
 obtain⟨aq,cq,rfl,_⟩:=ho3.q.rd
 obtain⟨db,eb,rfl,_⟩:=ho4.b.rd
 obtain⟨dq,eq,rfl,_⟩:=ho4.q.rd
 obtain⟨as_,cs,rfl,_⟩:=ho5.rd
 rw[hu3,hu4,hu5]
 have hn2:Hid (∀p∈ps,∀x,oB p.a=some x→oB a2≠some x):=Lib.hid (fun p hp x hx e=>by
  have h1:=(gJ ho24 e).2.choose_spec.lt
  obtain⟨i,hi,rfl⟩:=List.mem_iff_getElem.1 hp
  have h2:=(gJ (ho5.each i _ (List.getElem?_eq_getElem hi)) hx).1
  omega)
 have bx5:=bx4'.ext hbw5
 have rx5:=rx4.ext hbw5
 have hbr5:=ag hbr4 hbw5
 have ho15:=ho14.below hbw5
 have ho25:=ho24.below hbw5
 have hw14:=Lib.hid hbr4.size
 clear hbw5 bx4' rx4 hm4 hu3 hu4 hu5 ho14 ho24 hbr4
 go_wp2_with (refine dW rfl _ _ _ rfl w.heap.size 3 #[.slice ab H.sw.blocks.length cb,.slice aq H.sw.queue.length cq] rfl rfl _ _ bx5 (by show 3+2≤11;decide) disk_size (qW _ _ _ _ _ _) ?_)
 intro w6 bx6 hg6
 have hbr6:=hbr5.grown hg6 hbr5.size (fun k hk=>by cases hk;exact Nat.le_refl _)
 have rx6:=rx5.grown hg6 (fun e=>by have:=Option.some.inj e;omega)
 have p1:=ak ho15 bx5 (by decide) hg6
 have p2:=ak ho25 bx5 (by decide) hg6
 have p3:=ho3.keep bx5 (by decide) (by decide) hg6
 have p4:=ho4.keep bx5 (by decide) (by decide) hg6
 have p5:=ho5.keep bx5 (by decide) (by decide) hg6
 clear bx5 rx5 hg6 ho15 ho25 ho3 ho4 ho5 hbr5
 go_wp2_with (refine dW rfl _ _ _ rfl w.heap.size 5 #[.slice db H.dk.blocks.length eb,.slice dq H.dk.queue.length eq] rfl rfl _ _ bx6 (by show 5+2≤11;decide) disk_size (qW _ _ _ _ _ _) ?_)
 intro w7 bx7 hg7
 have hbr7:=hbr6.grown hg7 hbr6.size (fun k hk=>by cases hk;exact Nat.le_refl _)
 have rx7:=rx6.grown hg7 (fun e=>by have:=Option.some.inj e;omega)
 have q1:=ak p1 bx6 (by decide) hg7
 have q2:=ak p2 bx6 (by decide) hg7
 have q3:=p3.keep bx6 (by decide) (by decide) hg7
 have q4:=p4.keep bx6 (by decide) (by decide) hg7
 have q5:=p5.keep bx6 (by decide) (by decide) hg7
 clear bx6 rx6 hg7 p1 p2 p3 p4 p5 hbr6
 go_wp2_with (refine dW rfl _ _ _ rfl w.heap.size 7 #[.slice as_ ps.length cs,.int .i64 ks] rfl rfl _ _ bx7 (by show 7+2≤11;decide) store_size (yo _ _ _ _) ?_)
 intro w8 bx8 hg8
 have hbr8:=hbr7.grown hg8 hbr7.size (fun k hk=>by cases hk;exact Nat.le_refl _)
 have rx8:=rx7.grown hg8 (fun e=>by have:=Option.some.inj e;omega)
 have p1:=ak q1 bx7 (by decide) hg8
 have p2:=ak q2 bx7 (by decide) hg8
 have p3:=q3.keep bx7 (by decide) (by decide) hg8
 have p4:=q4.keep bx7 (by decide) (by decide) hg8
 have p5:=q5.keep bx7 (by decide) (by decide) hg8
 obtain⟨H8,hH8⟩:∃H8:MH,Hid (H8 = { H with af:=a1,cf:=c1,asl:=a2,csl:=c2,wb:=ab,cwb:=cb,wq:=aq,cwq:=cq,db:=db,cdb:=eb,dq:=dq,cdq:=eq,ai:=as_,ci:=cs,fi:=ps,ct:=ks }):=⟨_,Lib.hid rfl⟩
 have bx8' : aC w8 w.heap.size (bP H8) 40:=by rw[hH8.out];exact bx8
 have hm8:=h.below hbr8
 clear bx7 rx7 hg8 bx8 q1 q2 q3 q4 q5 hbr7
 have hcb:w8.cell? ⟨w.heap.size,9,none⟩=some (.slice H.ac H.ca.length H.cc):=by rw[bx8'.cell,hH8.out];rfl
 go_wp2_with fail
 refine (xU H.ca H.ac H.cc _ hm8.ca.le hm8.ca.nl hm8.ca.rd (by omega)).mono ?_
 rintro r w9 ⟨v9,rfl,ho9,hb9⟩
 obtain⟨a6,c6,rfl,_⟩:=ho9.rd
 have bx9:=bx8'.ext hb9
 have rx9:=rx8.ext hb9
 have hbr9:=ag hbr8 hb9
 have q1:=p1.below hb9
 have q2:=p2.below hb9
 have q3:=p3.below hb9
 have q4:=p4.below hb9
 have q5:=p5.below hb9
 have hw8:=Lib.hid hbr8.size
 clear hcb bx8' rx8 hm8 p1 p2 p3 p4 p5 hb9 hbr8
 go_wp2_with (refine aA rfl _ _ _ rfl w.heap.size 9 _ [.slice a6 H.ca.length c6] rfl rfl rfl _ _ bx9 (by show 9+1≤11;decide) caO_size (fun u hu=>by cases List.mem_singleton.1 hu;rfl) ?_)
 intro w10 bx10 hg10
 have hbr10:=hbr9.grown hg10 hbr9.size (fun k hk=>by cases hk;exact Nat.le_refl _)
 have rx10:=rx9.grown hg10 (fun e=>by have:=Option.some.inj e;omega)
 have p1:=(ak q1 bx9 (by decide) hg10).mono hw1.out
 have p2:=(ak q2 bx9 (by decide) hg10).mono hw1.out
 have p3:=(q3.keep bx9 (by decide) (by decide) hg10).mono hw14.out
 have p4:=(q4.keep bx9 (by decide) (by decide) hg10).mono hw14.out
 have p5:=(q5.keep bx9 (by decide) (by decide) hg10).mono hw14.out
 have p6:=(ak ho9 bx9 (by decide) hg10).mono hw8.out
 obtain⟨G,hG⟩:∃G:MH,Hid (G = { H with af:=a1,cf:=c1,asl:=a2,csl:=c2,wb:=ab,cwb:=cb,wq:=aq,cwq:=cq,db:=db,cdb:=eb,dq:=dq,cdq:=eq,ai:=as_,ci:=cs,fi:=ps,ct:=ks,ac:=a6,cc:=c6 }):=⟨_,Lib.hid rfl⟩
 have bxG:aC w10 w.heap.size (bP G) 40:=by rw[hG.out];rw[hH8.out] at bx10;exact bx10
 clear bx9 rx9 hg10 bx10 q1 q2 q3 q4 q5 ho9 hbr9
 have hGap:Hid (G.ap=H.ap∧G.sp=H.sp∧G.cp=H.cp):=Lib.hid (by rw[hG.out];exact⟨rfl,rfl,rfl⟩)
 have hcb:w10.cell? ⟨w.heap.size,10,none⟩=some (.slice H.ap H.sp.length H.cp):=by rw[bxG.cell,hG.out];rfl
 have hm10:=h.below hbr10
 have ho0:Own w10 w.heap.size 65 10 (.slice none 0 0) ([]:List PS).length (([]:List PS).flatMap lS):=by simpa using Own.nil _ _ _ _
 go_upto_region 6 with (fail)
 clear hcb hm10
 go_loopw [3,33] (fun s3 i wr => ∃(q:Nat) (qs:List PS) (av:Option Addr) (cv:Nat),q≤H.sp.length∧i = .int .i64 q∧s3 = .slice av qs.length cv∧Below w.heap.size w wr∧aC wr w.heap.size (bP G) 40∧aC wr (w.heap.size+1) _ 40 ∧
  Own wr w.heap.size 59 13 (.slice a1 H.m.fs.length c1) H.m.fs.length (H.m.fs.flatMap mD)∧Own wr w.heap.size 3 1 (.slice a2 H.sl.length c2) H.sl.length (H.sl.map eU)∧fJ wr w.heap.size (.slice ab H.sw.blocks.length cb) (.slice aq H.sw.queue.length cq) H.sw∧fJ wr w.heap.size (.slice db H.dk.blocks.length eb) (.slice dq H.dk.queue.length eq) H.dk ∧
  pV wr w.heap.size (.slice as_ ps.length cs) ps∧Own wr w.heap.size 85 3 (.slice a6 H.ca.length c6) H.ca.length (H.ca.flatMap jI)∧Own wr w.heap.size 65 10 (.slice av qs.length cv) qs.length (qs.flatMap lS)∧(∀p∈qs,mg wr w.heap.size p p.sp∧EP p.tb)∧Hid (qs.map PS.sp=(H.sp.take q).map PS.sp)) (fun _ i _=>H.sp.length-(intOf i).toNat)
 case atStart=>exact⟨0,[],none,0,Nat.zero_le _,rfl,rfl,hbr10,bxG,rx10,p1,p2,p3,p4,p5,p6,ho0,fun p hp=>(by simp at hp),Lib.hid rfl⟩
 case round=>
  clear hbr10 bxG rx10 p1 p2 p3 p4 p5 p6 ho0
  obtain⟨q,qs,av,cv,hq,rfl,rfl,hbr,bx,rx,p1,p2,p3,p4,p5,p6,ho,hps,hqs⟩:=hrel
  have hql:qs.length≤q:=by
   have:=congrArg List.length hqs.out
   rw[List.length_map,List.length_map,List.length_take] at this
   omega
  by_cases hql2:q<H.sp.length
  ·obtain⟨bs,os,P,hap,hP,hrd⟩:=jY (h.below hbr).sp.rd q hql2
   have hgood:=jm (h.below hbr) hP
   have hPm:=List.mem_of_getElem? hP
   obtain⟨hz1,hz2⟩:=hz.spz hPm
   have hqi:(q:Int)<(H.sp.length:Int):=by omega
   have hqs2:Hid (qs.map PS.sp++[P.sp]=(H.sp.take (q+1)).map PS.sp):=Lib.hid (by rw[take_at hP,List.map_append,hqs.out];rfl)
   rw[hap]
   have hps1:(lu P).all (·.oneCell')=true:=by
    rw[←Array.all_toList,List.all_eq_true];exact hgood.one
   go_wp2_with (first | (refine ax _ _ rfl bs (os+q*10) rfl rfl _ hrd _ Try.underlying65 rfl space_size ?_) | (refine aD rfl _ _ _ rfl (lu P) rfl rfl rfl space_size hps1 ?_))
   intro w11 hb11 fx
   have hbr11:=ag hbr hb11
   have hg11:=hgood.below hb11
   have bx11:=bx.ext hb11
   have rx11:=rx.ext hb11
   have q1:=p1.below hb11
   have q2:=p2.below hb11
   have q3:=p3.below hb11
   have q4:=p4.below hb11
   have q5:=p5.below hb11
   have q6:=p6.below hb11
   have hO:=ho.below hb11
   have hps11:∀p∈qs,mg w11 w.heap.size p p.sp∧EP p.tb:=fun p hp=>⟨(hps p hp).1.below hb11,(hps p hp).2⟩
   have hgw:=Lib.hid hbr11.size
   clear hbr hgood bx rx p1 p2 p3 p4 p5 p6 ho hps hb11 hrd hps1 hP
   go_upto_region 8 with (fail)
   refine CF 0 3 (.slice av qs.length cv) (by kernel_rfl) (by kernel_rfl) rfl fun ops0 hops0 => ?_
   simp only[freedL,qc] at hops0
   subst hops0
   refine wT 11 12 [] [ni (.slice av qs.length cv),ni (.pointer (some ⟨wr.heap.size,0,none⟩)),ni (.bool P.lv),ni (.pointer (some ⟨wr.heap.size,1,none⟩)),ni (.slice P.aa P.ar.length P.ac),(kU w11.heap.size 69 7 P.ar.length (P.ar.flatMap gV)),ni (.pointer (some ⟨wr.heap.size,2,none⟩)),ni (.agg (jG P.ts)),(HZ w11.heap.size P.tb),(Jy w11.heap.size P.sp),(Kl w11.heap.size P.sp)] (by kernel_rfl) (by kernel_rfl) (by kernel_rfl) (by kernel_rfl) (by kernel_rfl) (by decide) (Nat.le_of_ble_eq_true (by kernel_rfl)) _ rfl (by kernel_rfl) (all_cons ?_ (all_cons ?_ (all_cons ?_ (all_cons ?_ (all_cons ?_ (all_cons ?_ (all_cons ?_ (all_cons ?_ (all_cons ?_ (all_cons ?_ (all_cons ?_ (all_nil)))))))))))) (all_nil) rfl ?_
   ·refine aV rfl ?_
    intro ρ y W hw hn hb hd
    refine aj (.slice av qs.length cv) (ah rfl) (run_move (.inl rfl) (hn (.const _) trivial)) rfl
   ·refine aV rfl ?_
    intro ρ y W hw hn hb hd
    have E5:ρ (.tmp 5) = .pointer (some ⟨wr.heap.size,0,none⟩):=(hn (.tmp 5) rfl).trans rfl
    refine aj (.pointer (some ⟨wr.heap.size,0,none⟩)) (ah rfl) (by simp[execOp,go_sem,E5]) rfl
   ·refine aV rfl ?_
    intro ρ y W hw hn hb hd
    have E38:=hw 38 1 rfl
    have h1:y 1 = .pointer (some ⟨wr.heap.size,0,none⟩):=hd 1 rfl
    refine aj (.bool P.lv) (ah rfl) (by simp[execOp,go_sem,E38,h1,(fx.ext hb).cell,lu]) rfl
   ·refine aV rfl ?_
    intro ρ y W hw hn hb hd
    have E5:ρ (.tmp 5) = .pointer (some ⟨wr.heap.size,0,none⟩):=(hn (.tmp 5) rfl).trans rfl
    refine aj (.pointer (some ⟨wr.heap.size,1,none⟩)) (ah rfl) (by simp[execOp,go_sem,E5]) rfl
   ·refine aV rfl ?_
    intro ρ y W hw hn hb hd
    have E40:=hw 40 3 rfl
    have h3:y 3 = .pointer (some ⟨wr.heap.size,1,none⟩):=hd 3 rfl
    refine aj (.slice P.aa P.ar.length P.ac) (ah rfl) (by simp[execOp,go_sem,E40,h3,(fx.ext hb).cell,lu]) rfl
   ·refine aV rfl ?_
    intro ρ y W hw hn hb hd
    have E41:=hw 41 4 rfl
    have h4:y 4 = .slice P.aa P.ar.length P.ac:=hd 4 rfl
    have EF:∀f,ρ (.func f) = .func (.func f) #[] #[]:=fun f=>hn (.func f) trivial
    refine aP _ _ (ah rfl) (aN rfl (EF _) Try.func59 (by kernel_rfl) (by kernel_rfl) (by simp only[List.map_toArray,List.map_cons,List.map_nil,E41,h4,EF];rfl)) ?_
    have hA:=(hg11.below hb).ars
    refine (yw P.ar P.aa P.ac W hA.le hA.nl hA.rd (by omega)).mono ?_
    rintro e w1 ⟨u,rfl,ho,hb1⟩
    exact⟨u,rfl,hb1,ho.mono hb.size⟩
   ·refine aV rfl ?_
    intro ρ y W hw hn hb hd
    have E5:ρ (.tmp 5) = .pointer (some ⟨wr.heap.size,0,none⟩):=(hn (.tmp 5) rfl).trans rfl
    refine aj (.pointer (some ⟨wr.heap.size,2,none⟩)) (ah rfl) (by simp[execOp,go_sem,E5]) rfl
   ·refine aV rfl ?_
    intro ρ y W hw hn hb hd
    have E43:=hw 43 6 rfl
    have h6:y 6 = .pointer (some ⟨wr.heap.size,2,none⟩):=hd 6 rfl
    refine aj (.agg (jG P.ts)) (ah rfl) (bM rfl (E43.trans h6) (bK (fx.ext hb) 2 8) Try.underlying63 tab_agg tab_size) rfl
   ·refine aV rfl ?_
    intro ρ y W hw hn hb hd
    have E44:=hw 44 7 rfl
    have h7:y 7 = .agg (jG P.ts):=hd 7 rfl
    have EF:∀f,ρ (.func f) = .func (.func f) #[] #[]:=fun f=>hn (.func f) trivial
    refine aP _ _ (ah rfl) (aN rfl (EF _) Try.func60 (by kernel_rfl) (by kernel_rfl) (by simp only[List.map_toArray,List.map_cons,List.map_nil,E44,h7,EF];rfl)) ?_
    refine (Gg P.tb (jG P.ts) W (hg11.below hb).tb hz2).mono ?_
    rintro e w1 ⟨u,rfl,ho,hb1⟩
    exact⟨_,rfl,hb1,u,rfl,ho.mono hb.size⟩
   ·refine aV rfl ?_
    intro ρ y W hw hn hb hd
    have E39:=hw 39 2 rfl
    have h2:y 2 = .bool P.lv:=hd 2 rfl
    have E42:=hw 42 5 rfl
    have h5:((kU w11.heap.size 69 7 P.ar.length (P.ar.flatMap gV))).r (y 5) W:=hd 5 rfl
    have E45:=hw 45 8 rfl
    have h8:((HZ w11.heap.size P.tb)).r (y 8) W:=hd 8 rfl
    obtain⟨x5,c5,e5,_⟩:=Own.rd h5
    obtain⟨cs8,e8,ho8⟩:=h8
    obtain⟨v8,rfl⟩:=IY ho8.sz
    have hO5:Own W w11.heap.size 69 7 (.slice x5 P.ar.length c5) P.ar.length (P.ar.flatMap gV):=by rw[←e5];exact h5
    refine aj (.agg (lu ⟨P.lv,x5,c5,P.ar,v8,P.tb⟩)) (ah rfl) (by simp[execOp,go_sem,E39.trans h2,E42,e5,E45,e8,jG,lu]) ?_
    exact⟨⟨P.lv,x5,c5,P.ar,v8,P.tb⟩,rfl,rfl,hO5,ho8⟩
   ·refine aV rfl ?_
    intro ρ y W hw hn hb hd
    have E46:=hw 46 9 rfl
    have h9:((Jy w11.heap.size P.sp)).r (y 9) W:=hd 9 rfl
    obtain⟨p9,e9,hg9⟩:=h9
    refine jb (.slice (some ⟨W.heap.size,0,none⟩) 1 1) (ah rfl) (by simp[execOp,go_sem,E46,e9,lu]) ((Below.refl _ _).alloc (Nat.le_refl _) (.cells (lu p9) 65)) ?_
    exact⟨_,p9,rfl,bW.new _ _ _,hg9.below ((Below.refl _ _).alloc (Nat.le_refl _) _)⟩
   intro ρ y WA o ho hw hn hV hbWA hRWA
   cases ho
   have hy0:y 0 = .slice av qs.length cv:=hRWA 0 (by decide)
   have hy1:y 1 = .pointer (some ⟨wr.heap.size,0,none⟩):=hRWA 1 (by decide)
   have hy2:y 2 = .bool P.lv:=hRWA 2 (by decide)
   have hy3:y 3 = .pointer (some ⟨wr.heap.size,1,none⟩):=hRWA 3 (by decide)
   have hy4:y 4 = .slice P.aa P.ar.length P.ac:=hRWA 4 (by decide)
   have hy5:((kU w11.heap.size 69 7 P.ar.length (P.ar.flatMap gV))).r (y 5) WA:=hRWA 5 (by decide)
   have hy6:y 6 = .pointer (some ⟨wr.heap.size,2,none⟩):=hRWA 6 (by decide)
   have hy7:y 7 = .agg (jG P.ts):=hRWA 7 (by decide)
   have hy8:((HZ w11.heap.size P.tb)).r (y 8) WA:=hRWA 8 (by decide)
   have hy9:((Jy w11.heap.size P.sp)).r (y 9) WA:=hRWA 9 (by decide)
   have hy10:((Kl w11.heap.size P.sp)).r (y 10) WA:=hRWA 10 (by decide)
   have E37:=hw 37 0 rfl
   rw[hy0] at E37
   have E47:=hw 47 10 rfl
   have EC:∀v,ρ (.const v)=v:=fun v=>hn (.const v) trivial
   have EF:∀f,ρ (.func f) = .func (.func f) #[] #[]:=fun f=>hn (.func f) trivial
   obtain⟨g10,p10,e10,hrd10,hg10⟩:=hy10
   refine xH (ah rfl) (fH (.tmp 37) (.tmp 47) 38 rfl w.heap.size 65 _ 10 224 Try.underlying38 space_info rfl (by decide) _ _ _ E37 (hO.below hbWA) _ 1 1 (lS p10) (E47.trans e10) (fun e=>by cases e) (Nat.le_refl _) rfl hrd10 (Ec hg10) (by unfold maxLen;omega) (by omega) (Nat.le_trans hgw.out hbWA.size)) ?_
   rintro v2 w13 ⟨hown13,hgr13,hcase13⟩
   clear hRWA hw hn hV
   simp only[lay,Nat.reduceAdd,Nat.reduceLT,Nat.reduceEqDiff,reduceIte,decide_true,decide_false,if_true,Bool.false_eq_true,if_false,List.setIfInBounds_toArray,List.set_cons_zero,List.set_cons_succ,List.drop_succ_cons,List.drop_zero,List.drop_nil,hy0,hy1,hy2,hy3,hy4,hy6,hy7]
   clear hy0 hy1 hy2 hy3 hy4 hy6 hy7
   have hOA:=hO.below hbWA
   have hbrA:=ag hbr11 hbWA
   have hbr13:Below w.heap.size w w13:=hbrA.grown hgr13 hbrA.size (fun k hk=>hOA.ge k hk)
   have hown13' : Own w13 w.heap.size 65 10 v2 (qs++[p10]).length ((qs++[p10]).flatMap lS):=by
    rw[List.length_append,List.flatMap_append];simpa using hown13
   obtain⟨a13,c13,rfl,_⟩:=hown13'.rd
   have r1:=eF hOA hgr13 (q1.below hbWA) (by decide)
   have r2:=eF hOA hgr13 (q2.below hbWA) (by decide)
   have r3:fJ w13 w.heap.size _ _ H.sw:=⟨eF hOA hgr13 (q3.below hbWA).b (by decide),eF hOA hgr13 (q3.below hbWA).q (by decide)⟩
   have r4:fJ w13 w.heap.size _ _ H.dk:=⟨eF hOA hgr13 (q4.below hbWA).b (by decide),eF hOA hgr13 (q4.below hbWA).q (by decide)⟩
   have r5:=GZ hOA hgr13 (q5.below hbWA)
   have r6:=eF hOA hgr13 (q6.below hbWA) (by decide)
   have bx13:=qp hOA hgr13 (bx11.ext hbWA) (by decide)
   have rx13:=qp hOA hgr13 (rx11.ext hbWA) (by decide)
   have hps13:∀p∈qs++[p10],mg w13 w.heap.size p p.sp∧EP p.tb:=fun p hp=>by
    rcases List.mem_append.1 hp with hp|hp
    ·have h1:=(hps11 p hp).1.below hbWA
     exact⟨⟨rfl,eF hOA hgr13 h1.2.1 (by decide),sP hOA hgr13 h1.2.2⟩,(hps11 p hp).2⟩
    ·rw[List.mem_singleton.1 hp]
     refine⟨⟨rfl,(eF hOA hgr13 hg10.2.1 (by decide)).mono hgw.out,(sP hOA hgr13 hg10.2.2).mono hgw.out⟩,?_⟩
     have e:p10.tb=P.tb:=congrArg Sp.tb hg10.1
     rw[e];exact hz2
   have hqs3:Hid ((qs++[p10]).map PS.sp=(H.sp.take (q+1)).map PS.sp):=Lib.hid (by rw[List.map_append,←hqs2.out,←hg10.1];rfl)
   clear hO hOA hbrA hbWA hown13 hgr13 hcase13 hg10 hrd10 fx hg11 bx11 rx11 q1 q2 q3 q4 q5 q6 hps11
   go_wp2
   go_roundw
   case rel=>exact⟨q+1,_,_,_,by omega,by go_num,rfl,hbr13,bx13,rx13,r1,r2,r3,r4,r5,r6,hown13',hps13,hqs3⟩
   case measure=>simp[intOf];omega
  ·have hqi:¬(q:Int)<(H.sp.length:Int):=by omega
   rw[List.take_of_length_le (by omega)] at hqs
   go_wp2_with (refine aA rfl _ _ _ rfl w.heap.size 10 _ [.slice av qs.length cv] rfl rfl rfl _ _ bx (by show 10+1≤11;decide) slsp_size (fun u hu=>by cases List.mem_singleton.1 hu;rfl) ?_)
   intro w11 bx11 hg11
   have hbr11:=hbr.grown hg11 hbr.size (fun k hk=>by cases hk;exact Nat.le_refl _)
   have rx11:=rx.grown hg11 (fun e=>by have:=Option.some.inj e;omega)
   obtain⟨K,hK⟩:∃K:MH,Hid (K = { G with ap:=av,cp:=cv,sp:=qs }):=⟨_,Lib.hid rfl⟩
   have bxK:aC w11 w.heap.size (bP K) 40:=by rw[hK.out];exact bx11
   have hown:sG w11 w.heap.size K:=by
    rw[hK.out,hG.out]
    exact⟨ak p1 bx (by decide) hg11,ak p2 bx (by decide) hg11,p3.keep bx (by decide) (by decide) hg11,p4.keep bx (by decide) (by decide) hg11,p5.keep bx (by decide) (by decide) hg11,ak p6 bx (by decide) hg11,ak ho bx (by decide) hg11,fun p hp=>⟨ak (hps p hp).1.2.1 bx (by decide) hg11,(hps p hp).1.2.2.keep bx (by decide) hg11⟩,hks⟩
   have hma:K.ma=H.ma:=by
    rw[hK.out,hG.out]
    unfold MH.ma
    simp only
    rw[hqs.out,hst]
   have hsz:∀p∈K.fi,∀x,oB p.a=some x→oB K.asl≠some x:=by rw[hK.out,hG.out];exact hn2.out
   clear hbr bx rx hg11 bx11 p1 p2 p3 p4 p5 p6 ho
   go_wp2_with (first | (refine ax _ _ rfl w.heap.size 0 rfl rfl (bP K).toList bxK.rd _ Try.underlying40 rfl mach_size ?_) | (refine aB rfl _ _ _ rfl (w.heap.size+1) (bP K) rfl rfl _ _ rx11 rfl mach_size (jN K) ?_))
   intro w12 rx12 hg12
   have hbr12:=hbr11.grown hg12 hbr11.size (fun k hk=>by cases hk;omega)
   go_wp2
   refine bodyPost_ret (v:=.agg (bP K)) (bU Try.results13 _ _ (w.heap.size+1) _ _ _ rfl rx12 Try.underlying40 rfl mach_size) rfl ?_
   exact⟨K,rfl,hown.keep rx11 (by decide) hg12,hma,hsz,hbr12⟩
theorem vR (d:qm) (k:Int) (ab:Option Addr) (cb:Nat) (aq:Option Addr) (cq:Nat) (w:World) (h:FX w ab cb aq cq d) :
  Calls Try.prog 97 #[.agg #[.slice ab d.blocks.length cb,.slice aq d.queue.length cq],.int .i64 k] w fun e w'=>e = .returned (.tuple #[.agg (dF (iN d k)),.int .i64 (fB d k)])∧Below w.heap.size w w':=by
 go_enter Try.func97,Try.ntmps97
 go_wp2_with fail
 refine pz (fun W=>Calls _ _ _ W _) fun W0 hb0 hx0 hr0 hs0 => ?_
 refine (nk d ab cb aq cq _ (h.below hb0)).mono ?_
 rintro e w1 ⟨rfl,hb1⟩
 have hbel1:=ag hb0 hb1
 have hx1:=hx0.ext hb1
 have hres1:=hr0.ext hb1
 have h1:=h.below hbel1
 clear hx0 hr0 hb1 hb0 hs0
 have lq:=Nat.le_trans h1.lq h1.mq
 unfold maxLen at lq
 have hc1:=hx1.cell
 by_cases hw:bn d=0
 ·rw[hw]
  by_cases hk:k<0∨(d.blocks.length:Int)≤k
  ·have q1:fB d k=3:=by unfold fB;rw[if_neg (by omega),if_pos hk]
   have q2:dF (iN d k)=#[.int .u8 0,.int .u8 0,.int .u8 0,.int .u8 0,.int .u8 0,.int .u8 0,.int .u8 0,.int .u8 0]:=by unfold iN;rw[q1];rfl
   rcases hk with hk|hk
   all_goals
    go_wp2_with (refine aB rfl _ (.tmp 4) (.tmp 25) rfl (w.heap.size+1) #[.int .u8 0,.int .u8 0,.int .u8 0,.int .u8 0,.int .u8 0,.int .u8 0,.int .u8 0,.int .u8 0] rfl rfl _ _ hres1 zz_fit zz_info zz_one ?_)
    all_goals
     intro w2 hr2 hgr
     have hbel2:=hbel1.grown hgr hbel1.size (fun k hk=>by cases hk;omega)
     have hcr:=hr2.cell
     go_wp2
     simp[bodyPost,results,go_sem,Try.results97,hcr,q1,q2]
     exact hbel2
  ·obtain⟨k,rfl⟩:=Int.eq_ofNat_of_zero_le (show 0≤k by omega)
   have hkl:k<d.blocks.length:=by omega
   have k1:¬(d.blocks.length:Int)≤(k:Int):=by omega
   have kz:(k:Int)<(d.blocks.length:Int):=by omega
   have q1:fB d k=0:=by unfold fB;rw[if_neg (by omega),if_neg hk]
   have q2:iN d k=over k d.blocks[k] d.queue:=by unfold iN;rw[q1,if_pos rfl];simp[hkl]
   have Q:=Lib.hid (And.intro q1 q2)
   have hgx:w.heap.size+2≤w1.heap.size:=by have:=hres1.lt;omega
   clear hk q1 q2
   have hd:decide (d.blocks.length≤k)=false:=by simp;omega
   obtain⟨b,off,rfl,hc⟩:=Ht h1.rb k hkl
   have c0:=hc 0 (by decide);have c1:=hc 1 (by decide);have c2:=hc 2 (by decide);have c3:=hc 3 (by decide)
   have c4:=hc 4 (by decide);have c5:=hc 5 (by decide);have c6:=hc 6 (by decide);have c7:=hc 7 (by decide)
   simp only[dF,List.getElem?_toArray,List.getElem?_cons_zero,List.getElem?_cons_succ,Nat.add_zero] at c0 c1 c2 c3 c4 c5 c6 c7
   clear hc
   go_upto_region 7 with (fail)
   refine eO (fun W=>Code.wp _ _ _ _ W) fun w2 hb2 hp2 hs2 => ?_
   have hbel2:=ag hbel1 hb2
   have hx2:=hx1.ext hb2
   have hres2:=hres1.ext hb2
   have hp2' : aC w2 w1.heap.size (dF d.blocks[k]) 50:=hp2
   clear hbel1 hx1 hres1 h1 hb2 hp2 hs2 hc1 c0 c1 c2 c3 c4 c5 c6 c7
   have hc2:=hx2.cell
   go_wp2
   clear hc2 hx2
   go_loopw [34] (fun i wr => ∃j:Nat,j≤d.queue.length∧i = .int .i64 j∧Below w.heap.size w wr∧aC wr (w.heap.size+1) #[.int .u8 0,.int .u8 0,.int .u8 0,.int .u8 0,.int .u8 0,.int .u8 0,.int .u8 0,.int .u8 0] 50∧aC wr w1.heap.size (dF (over k d.blocks[k] (d.queue.take j))) 50) (fun i _=>d.queue.length-(intOf i).toNat)
   case atStart=>exact⟨0,Nat.zero_le _,rfl,hbel2,hres2,hp2'⟩
   case round=>
    clear hbel2 hres2 hp2'
    obtain⟨j,hj,rfl,hbel,hres,hp⟩:=hrel
    by_cases hlt:j<d.queue.length
    ·obtain⟨b',off',rfl,hc⟩:=Bf (h.below hbel).rq j hlt
     have c0:=hc 0 (by decide);have c1:=hc 1 (by decide);have c2:=hc 2 (by decide);have c3:=hc 3 (by decide);have c4:=hc 4 (by decide)
     have c5:=hc 5 (by decide);have c6:=hc 6 (by decide);have c7:=hc 7 (by decide);have c8:=hc 8 (by decide)
     simp only[yS,List.getElem?_toArray,List.getElem?_cons_zero,List.getElem?_cons_succ,Nat.add_zero] at c0 c1 c2 c3 c4 c5 c6 c7 c8
     clear hc
     have hot:=Lib.hid (CJ (k:Int) d.blocks[k] d.queue j hlt)
     by_cases he:d.queue[j].1=(k:Int)
     ·have hot' : Hid (over (k:Int) d.blocks[k] (d.queue.take (j+1))=d.queue[j].2):=by have:=hot.out;rw[if_pos he] at this;exact this
      rw[he] at c0
      clear hot he
      have hpa:=hp.alloc (.cells #[.int .i64 k,.int .u8 d.queue[j].2[0].toNat,.int .u8 d.queue[j].2[1].toNat,.int .u8 d.queue[j].2[2].toNat,.int .u8 d.queue[j].2[3].toNat,.int .u8 d.queue[j].2[4].toNat,.int .u8 d.queue[j].2[5].toNat,.int .u8 d.queue[j].2[6].toNat,.int .u8 d.queue[j].2[7].toNat] 93)
      go_wp2_with (refine aB rfl _ (.tmp 7) (.tmp 43) rfl w1.heap.size (dF d.queue[j].2) rfl rfl _ _ hpa (IE _ _) (Cg _) (dD _) ?_)
      intro w4 hp4 hgr
      have hbel4:=(hbel.alloc hbel.size _).grown hgr (cz hbel.size _) (fun k hk=>by cases hk;omega)
      have hres4:=(hres.alloc _).grown hgr (fun he=>by have:=Option.some.inj he;omega)
      clear hpa hp hbel hres hgr c0 c1 c2 c3 c4 c5 c6 c7 c8
      go_wp2
      go_roundw
      case rel=>exact⟨j+1,by omega,by go_num,hbel4,hres4,by rw[hot'.out];exact hp4⟩
      case measure=>simp[intOf];omega
     ·have hot' : Hid (over (k:Int) d.blocks[k] (d.queue.take (j+1))=over (k:Int) d.blocks[k] (d.queue.take j)):=by have:=hot.out;rw[if_neg he] at this;exact this
      have hne:(d.queue[j].1==(k:Int))=false:=by simpa using he
      clear hot he
      go_wp2
      go_roundw
      case rel=>exact⟨j+1,by omega,by go_num,hbel.alloc hbel.size _,hres.alloc _,by rw[hot'.out];exact hp.alloc _⟩
      case measure=>simp[intOf];omega
    ·rw[List.take_of_length_le (show d.queue.length≤j by omega)] at hp
     have hq2:=Q.out.2
     rw[←hq2] at hp
     have hcp:=hp.cell
     rw[BR] at hcp
     clear hq2
     go_wp2_with (refine aB rfl _ (.tmp 4) (.tmp 45) rfl (w.heap.size+1) (dF (iN d k)) rfl rfl _ _ hres (Jh _) (Cg _) (dD _) ?_)
     intro w4 hr4 hgr
     have hbel4:=hbel.grown hgr hbel.size (fun k hk=>by cases hk;omega)
     have hcr:=hr4.cell
     obtain⟨e0,e1,e2,e3,e4,e5,e6,e7⟩:=Io (iN d k)
     clear hcp
     go_wp2
     simp[bodyPost,results,go_sem,Try.results97,hcr,e0,e1,e2,e3,e4,e5,e6,e7,Q.out.1]
     exact⟨rfl,hbel4⟩
 ·have q1:fB d k=bn d:=by unfold fB;rw[if_pos hw]
  have q2:dF (iN d k)=#[.int .u8 0,.int .u8 0,.int .u8 0,.int .u8 0,.int .u8 0,.int .u8 0,.int .u8 0,.int .u8 0]:=by unfold iN;rw[q1,if_neg hw];rfl
  have hw' : (bn d != 0)=true:=by simpa using hw
  go_wp2_with (refine aB rfl _ (.tmp 4) (.tmp 14) rfl (w.heap.size+1) #[.int .u8 0,.int .u8 0,.int .u8 0,.int .u8 0,.int .u8 0,.int .u8 0,.int .u8 0,.int .u8 0] rfl rfl _ _ hres1 zz_fit zz_info zz_one ?_)
  intro w2 hr2 hgr
  have hbel2:=hbel1.grown hgr hbel1.size (fun k hk=>by cases hk;omega)
  have hcr:=hr2.cell
  go_wp2
  simp[bodyPost,results,go_sem,Try.results97,hcr,q1,q2]
  exact hbel2
theorem yx (f:Fr) (w:World):Calls Try.prog 117 #[.agg (pK f)] w fun e w'=>e = .returned (.int .i64 (dh f))∧Below w.heap.size w w':=by
 have hE:∀W,(Op.equalIn 10000 50 (.agg #[.int .u8 f.p[0].toNat,.int .u8 f.p[1].toNat,.int .u8 f.p[2].toNat,.int .u8 f.p[3].toNat,.int .u8 f.p[4].toNat,.int .u8 f.p[5].toNat,.int .u8 f.p[6].toNat,.int .u8 f.p[7].toNat]) (.agg #[.int .u8 0,.int .u8 0,.int .u8 0,.int .u8 0,.int .u8 0,.int .u8 0,.int .u8 0,.int .u8 0])).run Try.prog W = .ok (f.p==zPg) W:=KF f.p zPg
 have hE9:∀W,(Op.equalIn 9999 50 (.agg #[.int .u8 f.p[0].toNat,.int .u8 f.p[1].toNat,.int .u8 f.p[2].toNat,.int .u8 f.p[3].toNat,.int .u8 f.p[4].toNat,.int .u8 f.p[5].toNat,.int .u8 f.p[6].toNat,.int .u8 f.p[7].toNat]) (.agg #[.int .u8 0,.int .u8 0,.int .u8 0,.int .u8 0,.int .u8 0,.int .u8 0,.int .u8 0,.int .u8 0])).run Try.prog W = .ok (f.p==zPg) W:=KI f.p zPg
 go_enter Try.func117,Try.ntmps117
 unfold pK
 cases hp:(f.p==zPg)
 all_goals rw[hp] at hE hE9
 all_goals have hp':=Lib.hid hp
 all_goals clear hp
 all_goals go_wp2
 all_goals go_ret
 all_goals refine⟨?_,(Below.refl _ _).alloc (Nat.le_refl _) _⟩
 all_goals have hp:=hp'.out
 all_goals clear hE hE9 hp'
 all_goals go_light
 all_goals refine congrArg (fun z=>Ending.returned (.int .i64 z)) ?_
 all_goals simp only[dh,uP,vV,rJ,Bool.or_eq_true,Bool.and_eq_true,decide_eq_true_eq,ne_eq,bne_iff_ne]
 all_goals simp_all
 all_goals omega
theorem yT (m:Mem) (a:Option Addr) (c:Nat) (w:World) (h:JF w a c m) :
  Calls Try.prog 85 #[.agg #[.slice a m.fs.length c,.int .i64 m.hand]] w fun e w'=>e = .returned (.int .i64 (cZ m))∧Below w.heap.size w w':=by
 have hl:=Nat.le_trans h.le h.mx
 unfold maxLen at hl
 go_enter Try.func85,Try.ntmps85
 go_upto_region 1 with (fail)
 refine eO (fun W=>Code.wp _ _ _ _ W) fun W0 hb0 hx0 hs0 => ?_
 clear hs0
 have hcx:=hx0.cell
 by_cases h4:40<m.fs.length
 ·have hW:cZ m=4:=by unfold cZ;rw[if_pos h4]
  have h4' : (40:Int)<(m.fs.length:Int):=by omega
  go_wp2
  go_ret
  rw[hW]
  exact⟨rfl,hb0⟩
 ·have h4' : ¬(40:Int)<(m.fs.length:Int):=by omega
  go_wp2
  clear hcx
  go_loopw [13] (fun i wr => ∃k:Nat,k≤m.fs.length∧i = .int .i64 k∧Below w.heap.size w wr∧aC wr w.heap.size #[.slice a m.fs.length c,.int .i64 m.hand] 27∧∀i (h:i<m.fs.length),i<k→dh m.fs[i]=0) (fun i _=>m.fs.length-(intOf i).toNat)
  case atStart=>exact⟨0,Nat.zero_le _,rfl,hb0,hx0,fun i _ h=>absurd h (Nat.not_lt_zero _)⟩
  case round=>
   clear hx0 hb0
   obtain⟨k,hk,rfl,hbel,hx,hno⟩:=hrel
   have hno':=Lib.hid hno
   clear hno
   by_cases hlt:k<m.fs.length
   ·obtain⟨b,off,rfl,hc⟩:=IV (h.below hbel).rd k hlt
    obtain⟨c0,c1,c2,c3,c4,c5,c6,c7,c8,c9,ca,cb,cc⟩:=hc
    have hkz:(k:Int)<(m.fs.length:Int):=by omega
    have hf:=fun w=>yx m.fs[k] w
    unfold pK at hf
    by_cases he:dh m.fs[k]=0
    ·have he':=Lib.hid he
     rw[he] at hf
     clear he
     go_upto_region 6 with (fail)
     refine eO (fun W=>Code.wp _ _ _ _ W) fun w1 hb1 hy1 hs1 => ?_
     have hbel1:=ag hbel hb1
     have hx1:=hx.ext hb1
     clear hs1 hbel hx hb1
     have hcy:=hy1.cell
     go_wp2_with fail
     refine (hf _).mono ?_
     rintro e w2 ⟨rfl,hb2⟩
     go_wp2
     go_roundw
     case rel=>exact⟨k+1,by omega,by go_num,ag hbel1 hb2,hx1.ext hb2,jv hno'.out hlt he'.out⟩
     case measure=>simp[intOf];omega
    ·have hW:cZ m=dh m.fs[k]:=by
      have:=firstEf_at _ k hlt hno'.out he
      unfold cZ;rw[if_neg h4,this,if_pos he]
     have hn:(dh m.fs[k] != 0)=true:=by simpa using he
     have hW':=Lib.hid hW
     clear hW
     go_upto_region 6 with (fail)
     refine eO (fun W=>Code.wp _ _ _ _ W) fun w1 hb1 hy1 hs1 => ?_
     have hbel1:=ag hbel hb1
     clear hs1 hbel hx hb1
     have hcy:=hy1.cell
     go_wp2_with fail
     refine (hf _).mono ?_
     rintro e w2 ⟨rfl,hb2⟩
     go_wp2
     go_ret
     rw[hW'.out]
     exact⟨rfl,ag hbel1 hb2⟩
   ·have h0:firstEf m.fs=0:=firstEf_none _ (fun i hi=>hno'.out i hi (by omega))
    have hW:cZ m=if m.hand<0∨(0<m.hand∧(m.fs.length:Int)≤m.hand) then 3 else 0:=by
     unfold cZ;rw[if_neg h4,h0];rfl
    have hW':=Lib.hid hW
    have hcx:=hx.cell
    clear hW h0
    by_cases n0:m.hand=0
    ·have nb:(m.hand != 0)=false:=by simp[n0]
     have n0':=Lib.hid n0
     clear n0
     go_wp2
     all_goals
      go_ret
      rw[hW'.out,if_neg (by have:=n0'.out;omega)]
      exact⟨rfl,hbel⟩
    ·have nb:(m.hand != 0)=true:=by simpa using n0
     by_cases n1:m.hand<0
     ·go_wp2
      all_goals
       go_ret
       rw[hW'.out,if_pos (.inl n1)]
       exact⟨rfl,hbel⟩
     ·by_cases n3:(m.fs.length:Int)≤m.hand
      ·go_wp2
       all_goals
        go_ret
        rw[hW'.out,if_pos (.inr ⟨by omega,n3⟩)]
        exact⟨rfl,hbel⟩
      ·go_wp2
       all_goals
        go_ret
        rw[hW'.out,if_neg (by omega)]
        exact⟨rfl,hbel⟩
end Go.Proofs.Ytkjobhcnlppcnaa