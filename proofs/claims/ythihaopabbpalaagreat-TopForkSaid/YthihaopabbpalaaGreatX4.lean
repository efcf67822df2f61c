import Derived.Test.YthihaopabbpalaaGreatX3
import Derived.Deep.LoopGhost
import Derived.BigRegion
set_option linter.unusedSimpArgs false
set_option linter.unusedVariables false
set_option linter.unnecessarySimpa false
set_option maxHeartbeats 4000000
set_option maxRecDepth 100000
namespace Go.Proofs.YthihaopabbpalaaGreat
open _root_.Go.Proofs.Tryz
open Go.RowKit Go.Maps Pw
variable {B F b c f g j p q:Nat} {H H0:MH} {M m m' m1:Ma} {a:Option Addr} {cs cur:Array Value} {e kd n:Int} {ps:List PF} {s s':St} {v:Value} {vs:List Value} {w w' w0 w1:World} {z:Fr}
theorem Yp(c:Cc)(g y:Nat)(f i:Int)(w:World)(A:aK w g #[.int .i64 f] 3)(o:aK w y #[.int .i64 i] 3) :
  Calls Tryz.prog 178 #[.agg (zF c),.pointer (some ⟨g,0,none⟩),.pointer (some ⟨y,0,none⟩)] w λr w'=>r = .returned (.bool (Ie f i c))/\Below w.heap.size w w':=by
 go_enter func178,ntmps178;go_upto_region 1 with(fail);refine iP (λW=>Code.wp _ _ _ _ W) λD a b d => ?_;clear d;have j:=(A.ext a).cell 0;have h:=(o.ext a).cell 0;have e:=b.cell;unfold zF at e
 by_cases t:f<c.f
 ·go_wp2;go_ret;exact⟨cB (by unfold Ie;simp[t]),a⟩
 by_cases k:c.f=f
 ·have C:(c.f==f)=true:=by simpa using k
  by_cases u:i<=c.i
  ·go_wp2;go_ret;exact⟨cB (by unfold Ie;simp[k,u]),a⟩
  go_wp2;go_ret;exact⟨cB (by unfold Ie;simp[t,k,u]),a⟩
 have C:(c.f==f)=false:=by simpa using k
 go_wp2;go_ret;exact⟨cB (by unfold Ie;simp[t,k]),a⟩
theorem TK(l:List Cc)(a:Option Addr)(c:Nat)(w:World)(C:eD w a (l.flatMap kM))(K:l.length<=9223372036854775807)(g G:Nat)(y t:Int)(I:aK w g #[.int .i64 y] 3)(E:aK w G #[.int .i64 t] 3) :
  Calls Tryz.prog 131 #[.slice a l.length c,.func (.func 178) #[] #[.pointer (some ⟨g,0,none⟩),.pointer (some ⟨G,0,none⟩)]] w λe w'=>e = .returned (.int .i64 (idx (Ie y t) l))/\Below w.heap.size w w':=by
 go_enter func131,ntmps131;go_wp2
 go_loopw [8] (fun i wr => ∃k:Nat,k<=l.length/\i = .int .i64 k/\Below w.heap.size w wr/\∀i (h:i<l.length),i<k->(Ie y t) l[i]=false) (fun i _=>l.length-(intOf i).toNat)
 case atStart=>exact⟨0,bN _,rfl,Below.refl _ _,λi _ h=>absurd h (ig _)⟩
 case round=>
  obtain⟨k,L,rfl,f,n⟩:=hrel;have D:=ae n;clear n
  by_cases u:k<l.length
  ·obtain⟨b,A,rfl,p⟩:=Rs (C.below f) k u
   go_wp2_with (refine ay b (A+k*3) _ p _ underlying122 rfl cached_size ?_)
   refine(Yp l[k] g G y t _ (I.ext f) (E.ext f)).mono ?_;rintro e J ⟨rfl,o⟩;have j:=ah f o;clear o;cases hpk:(Ie y t) l[k]
   ·have m:=ae hpk;clear hpk;go_wp2;go_roundw
    case rel=>exact⟨k+1,by omega,by go_num,j,oO D.out u m.out⟩
    case measure=>simp[intOf];omega
   have d:=ae (qH (Ie y t) l k u D.out hpk);clear hpk;go_wp2;go_ret;exact⟨bI d.out.symm,j⟩
  have d:=ae (ll (Ie y t) l λi h=>D.out i h (by omega));go_wp2;go_ret;exact⟨bI d.out.symm,f⟩
theorem XO{l:List Cc}{f i:Int}:(idx (Ie f i) l<0/\vZ l f i=l.length/\KW l f i=false)\/(∃k,∃d:k<l.length,idx (Ie f i) l=k/\vZ l f i=k/\KW l f i=(decide (l[k].f=f)&&decide (l[k].i=i))):=by
 unfold idx KW vZ;cases h:l.findIdx? (Ie f i)with
 | none=>exact .inl ⟨by decide,rfl,by simp⟩
 | some k=>
  obtain⟨d,_,_⟩:=rz.1 h;exact .inr ⟨k,d,rfl,rfl,by simp[aM d]⟩
theorem EQ(H:MH)(e f i:Int)(B b:Nat)(w:World)(h:iw w B b H e) :
  Calls Tryz.prog 139 #[.pointer (some ⟨b,0,none⟩),.int .i64 f,.int .i64 i] w λr w'=>r = .returned (.tuple #[.int .i64 (vZ H.ca f i:Int),.bool (KW H.ca f i)])/\Below w.heap.size w w':=by
 go_enter func139,ntmps139;go_upto_region 1 with(fail);refine uY (λW=>Code.wp _ _ _ _ W) λU p n m u => ?_;clear u;have I:=h.below p;have N:=I.blk.cell;unfold lm at N;have C:=I.ma.rd.ca;have v:=C.mx;have S:=C.le;unfold maxLen at v;clear h
 go_wp2_with fail
 refine(TK H.ca H.ac H.cc _ C.rd (by omega) _ _ f i n m).mono ?_;rintro r w1 ⟨rfl,d⟩;have a:=ah p d;have k1:=I.below d;have y:=(n.ext d).cell 0;have x:=(m.ext d).cell 0;have s:=k1.blk.cell;unfold lm at s;have j:=C.rd.below d;clear N n m p d I C;rcases XO (l:=H.ca) (f:=f) (i:=i)with⟨K,E,D⟩|⟨k,L,K,E,D⟩
 ·have A:=ae (And.intro E D);clear E D;generalize idx (Ie f i) H.ca=z at *
  go_wp2;go_ret2;rw[A.out.1,A.out.2];exact⟨rfl,a⟩
 have A:=ae (And.intro E D);rw[K];clear K E D;obtain⟨g,O,c,t,o,T,c1,c2⟩:=VQ j k L;rw[t]at s;have q:H.ca[k]=c:=by rw[aM L]at o;exact aU o
 rw[q]at A;have R:(k:Int)<(H.ca.length:Int):=by omega
 clear o j t q
 go_wp2_with fail
 by_cases G:c.f=f
 ·have Q:(c.f==f)=true:=by simpa using G
  by_cases J:c.i=i
  ·have P:(c.i==i)=true:=by simpa using J
   go_quiet (fail);go_wp2;go_ret2;rw[A.out.1,A.out.2];refine⟨by simp[G,J],below_drewN a _⟩
  have P:(c.i==i)=false:=by simpa using J
  go_quiet (fail);go_wp2;go_ret2;rw[A.out.1,A.out.2];refine⟨by simp[G,J],below_drewN a _⟩
 have Q:(c.f==f)=false:=by simpa using G
 go_quiet (fail);go_wp2;go_ret2;rw[A.out.1,A.out.2];refine⟨by simp[G],below_drewN a _⟩
def uC(u:Nat × Int):Array Value:=#[.int .i64 u.1,.int .i64 u.2]
def uL(u:Nat × Int):List Value:=(uC u).toList
theorem aab(u:Nat × Int):(uL u).length=2:=rfl
theorem us_info:(Tryz.prog.info? 247).map (λi=>(i.zero,i.size,i.bytes))=some (some (.agg #[.int .i64 0,.int .i64 0]),2,16):=by kernel_rfl
theorem us_size:(Tryz.prog.info? 247).map (·.size)=some 2:=by kernel_rfl
theorem aal(u:Nat × Int):∀x∈uL u,x.oneCell' = true:=by
 intro x d;simp only[uL,uC,fq,kZ,or_false]at d;rcases d with rfl|rfl<;>rfl
def tX(m:Ma)(f:Int)(P:Nat):List (Nat × Int):=(List.range P).flatMap λp=>(qx (bQ m p).tb 1 f).map λn=>(p,n)
theorem Jv(m:Ma)(f:Int)(P:Nat):tX m f (P+1)=tX m f P++(qx (bQ m P).tb 1 f).map λn=>(P,n):=by
 unfold tX;rw[Ay,iq];simp
theorem QU(t:Tb)(kd i:Int):(qx t kd i).length<=64:=by
 unfold qx aV;exact aX (wS _ _) (uR t 64)
theorem BG(m:Ma)(f:Int):∀P,(tX m f P).length<=P*64
 | 0=>by simp[tX]
 | P+1=>by have h:=BG m f P;have d:=QU (bQ m P).tb 1 f;rw[Jv,fI,fE];omega
theorem EU(H:MH)(e f:Int)(B b:Nat)(w:World)(h:iw w B b H e)(hz:H.sp.length<=1000) :
  Calls Tryz.prog 199 #[.pointer (some ⟨b,0,none⟩),.int .i64 f] w λr w' => ∃v,r = .returned v/\Own w' w.heap.size 247 2 v (bB H.ma f).length ((bB H.ma f).flatMap uL)/\Below w.heap.size w w':=by
 go_enter func199,ntmps199;have A:=h.blk.cell;unfold lm at A;go_upto_region 3 with(fail);clear A
 go_loopw [5,15] (fun s5 s15 wr => ∃P:Nat,P<=H.sp.length/\s15 = .int .i64 P/\Own wr w.heap.size 247 2 s5 (tX H.ma f P).length ((tX H.ma f P).flatMap uL)/\Below w.heap.size w wr) (fun _ s15 _=>H.sp.length-(intOf s15).toNat)
 case atStart=>exact⟨0,bN _,rfl,Own.nil _ _ _ _,Below.refl _ _⟩
 case round=>
  obtain⟨P,hP,rfl,a,c⟩:=hrel
  by_cases G:P<H.sp.length
  ·obtain⟨S,N⟩:∃S,H.sp[P]?=some S:=⟨_,aM G⟩;have Z:=ae (sP N);have E:=h.below c;obtain⟨g,D,Q,W,K,m⟩:=E.at N;have A:=E.blk.cell;unfold lm at A;rw[Q]at A;have O:(P:Int)<(H.sp.length:Int):=by omega
   go_wp2_with (refine ay g (D+P*10+2) _ K _ underlying74 tab_agg tab_size ?_)
   refine(Rz S.tb (vo S.ts) 1 f _ m.tb).mono ?_;rintro r w1 ⟨v1,rfl,x,I⟩;obtain⟨a1,c1,rfl,_⟩:=x.rd;have q:=x.mono (bN _);have s:=ah c I;have d:=a.below I;have hs:(qx S.tb 1 f).length<=64:=QU _ _ _;have T:Hid (qx (bQ H.ma P).tb 1 f=qx S.tb 1 f):=ae (by rw[Z.out];rfl);have hr:=BG H.ma f P;generalize qx S.tb 1 f=L at *
   clear A W K m E a I x;go_upto_region 6 with(fail)
   go_loopw [5,30] (fun s5 s30 wr => ∃j:Nat,j<=L.length/\s30 = .int .i64 j/\Own wr w.heap.size 247 2 s5 (tX H.ma f P++(L.take j).map fun n=>(P,n)).length ((tX H.ma f P++(L.take j).map fun n=>(P,n)).flatMap uL)/\Below w.heap.size w wr/\Own wr 0 3 1 (.slice a1 L.length c1) L.length (L.map ib)) (fun _ s30 _=>L.length-(intOf s30).toNat)
   case atStart=>exact⟨0,bN _,rfl,by simpa using d,s,q⟩
   case round=>
    clear d s q;obtain⟨j,hj,rfl,a,c,p⟩:=hrel
    by_cases C:j<L.length
    ·obtain⟨_,_,e9,_,_,_,J⟩:=p.rd;cases e9;obtain⟨bl,ol,rfl,R⟩:=mO J j C;have U:(j:Int)<(L.length:Int):=by omega
     have X:(tX H.ma f P++(L.take j).map λn=>(P,n)).length=(tX H.ma f P).length+j:=by rw[fI,fE,eG];omega
     have t:Hid (tX H.ma f P++(L.take (j+1)).map (λn=>(P,n))=(tX H.ma f P++(L.take j).map λn=>(P,n))++[(P,L[j])]):=ae (by rw[mK,aM C,jL,lF];rfl);generalize tX H.ma f P++(L.take j).map (λn=>(P,n))=us at *
     go_wp2_with (at_builtin;(refine fJ 259 rfl w.heap.size 247 (.agg #[.int .i64 0,.int .i64 0]) 2 16 underlying259 us_info _ _ rfl (a.alloc _) (some ⟨_,0,none⟩) 1 1 (uL (P,L[j])) rfl (λh=>(by cases h)) (aC _) rfl (eD.new _ (uC (P,L[j])) _) (aal _) (by unfold maxLen;omega) (by omega) (eO c.size) ?_))
     intro v2 w2 u l;have z:=(c.alloc c.size (.cells (uC (P,L[j])) 247)).grown l (eO c.size) (λk V=>a.ge k V);have Y:=xe (p.alloc (.cells (uC (P,L[j])) 247)) (a.alloc (.cells (uC (P,L[j])) 247)) l;have y:(us++[(P,L[j])]).length=us.length+1:=by simp
     clear R J a c p l;go_wp2;go_roundw
     case rel=>exact⟨j+1,by omega,by go_num,by rw[t.out,y,iq,X];simpa using u,z,Y⟩
     case measure=>simp[intOf];omega
    have U:¬(j:Int)<(L.length:Int):=by omega
    have o:Hid (tX H.ma f P++(L.take j).map (λn=>(P,n))=tX H.ma f (P+1)):=ae (by rw[mE (by omega),Jv,T.out]);clear p;go_wp2;go_roundw
    case rel=>
     have i:=a;rw[o.out]at i;exact⟨u5,.int .i64 (P:Int),u8,.int .i64 ((P:Int)+1),⟨P+1,by omega,by go_num,i⟩,rfl,rfl,rfl,rfl⟩
    case measure=>simp[intOf];omega
  have o:Hid (tX H.ma f P=bB H.ma f):=ae (by
   have:P=H.sp.length:=by omega
   unfold tX bB MH.ma;simp[this])
  have O:¬(P:Int)<(H.sp.length:Int):=by omega
  go_wp2;go_ret;rw[<-o.out];exact⟨_,rfl,a,c⟩
def aJ(m:Ma)(p:Nat)(n:Int):En:=dR (bQ m p).tb n
structure Pt (m:Ma):Prop where
 fr:bT m.m=0
 sl:dZ m.sl=0
 sw:bZ m.sw=0
 dk:bZ m.dk=0
 st:aQ m.st=0
 swl:m.sw.blocks.length=m.sl.length
 dkl:(m.dk.blocks.length:Int)=m.st.count
 spl:m.sp.length<=4
 ar:∀s∈m.sp,(dY s.ar).1=0
 tb:∀s∈m.sp,eU s.tb=0
theorem wT(h:p<m.sp.length):m.sp[p]?=some (bQ m p):=by
 unfold bQ;rw[bA,aM h];rfl
theorem Ch(h:p<m.sp.length):bQ m p∈m.sp:=dB (wT h)
theorem tC(h:m.sp.length<=p):bQ m p=zSp:=by
 unfold bQ;rw[bA,dP h];rfl
theorem QJ{s:Sp}(h:s∈m.sp):∃p,p<m.sp.length/\s=bQ m p:=by
 obtain⟨i,d,rfl⟩:=jK.1 h;refine⟨i,d,?_⟩;have:=wT (m:=m) d;rw[aM d]at this;exact aU this
theorem Pt.tbN(h:Pt m)(p:Nat):eU (bQ m p).tb=0:=by
 rcases gB p m.sp.length with d|d
 ·exact h.tb _ (Ch d)
 ·rw[tC d];decide
theorem Pt.arN(h:Pt m)(p:Nat):(dY (bQ m p).ar).1=0:=by
 rcases gB p m.sp.length with d|d
 ·exact h.ar _ (Ch d)
 ·rw[tC d];decide
theorem ku(h:Pt m)(p:Nat)(n:Int):iE (aJ m p n)=0:=yh (h.tbN p) n
theorem KT(p:Nat)(h:n<0\/64<=n):aJ m p n=zEn:=uP (h:=h)
theorem dA{e:En}:iE e=0↔(e.k=0/\e.n=0/\e.w=false)\/(e.k=1/\0<=e.n/\e.n<40)\/(e.k=2/\0<=e.n/\e.n<60/\e.w=false):=by
 obtain⟨k,n,w⟩:=e;unfold iE;simp only;cases w
 all_goals
  simp only[oz,reduceCtorEq,and_true,and_false,or_false,false_or,or_true];constructor
  ·intro h;split at h
   ·omega
   split at h
   ·omega
   ·split at h<;>omega
  intro h;split
  ·omega
  split
  ·omega
  split
  ·omega
  ·rfl
theorem Cz{t:Tb}(d:p<m.sp.length)(q:Nat):bQ (setTb m p t) q=if q=p then{ bQ m p with tb:=t }else bQ m q:=by
 unfold setTb;show(m.sp.set p _).getD q zSp=_;rw[bA,qd]
 by_cases e:q=p
 ·subst e;rw[if_pos rfl,if_pos d,if_pos rfl];rfl
 ·rw[if_neg (λh=>e h.symm),if_neg e];unfold bQ;rw[bA]
theorem TC{t:Tb}(d:p<m.sp.length)(q:Nat)(n:Int):aJ (setTb m p t) q n=if q=p then dR t n else aJ m q n:=by
 unfold aJ;rw[Cz d]
 by_cases e:q=p
 ·rw[if_pos e,if_pos e]
 ·rw[if_neg e,if_neg e]
theorem um{t:Tb}:(setTb m p t).sp.length=m.sp.length:=bV
theorem Pt.setTb{m:Ma}(h:Pt m){p:Nat}{t:Tb}(i:eU t=0):Pt (setTb m p t):=by
 by_cases k:p<m.sp.length
 ·refine{ h with spl:=by rw[um];exact h.spl,ar:=λs d => ?_,tb:=λs d => ?_ }
  ·rcases mr d with d|rfl
   ·exact h.ar s d
   ·exact h.arN p
  rcases mr d with d|rfl
  ·exact h.tb s d
  ·exact i
 have:Go.Proofs.YthihaopabbpalaaGreat.setTb m p t=m:=by unfold Go.Proofs.YthihaopabbpalaaGreat.setTb;rw[List.set_eq_of_length_le (by omega)]
 rw[this];exact h
def uw(kd i:Int)(e:En):Bool:=decide (e.k=kd)&&decide (e.n=i)
def bR(m:Ma)(kd i:Int):Nat:=(m.sp.map λs=>(fU s.tb).countP (uw kd i)).sum
def vP(b:Bool):Nat:=if b=true then 1 else 0
theorem countP_set{α:Type}(q:α->Bool):∀(l:List α) (k:Nat) (h:k<l.length) (x:α),(l.set k x).countP q+vP (q l[k])=l.countP q+vP (q x)
 | a::l,0,_,x=>by simp only[qV,Cb,qN,vP];omega
 | a::l,k+1,h,x=>by have:=countP_set q l k (by simpa using h) x;simp only[rf,El,qN];omega
theorem sum_set:∀(l:List Nat) (k:Nat) (h:k<l.length) (x:Nat),(l.set k x).sum+l[k]=l.sum+x
 | a::l,0,_,x=>by simp only[qV,Cb,BV];omega
 | a::l,k+1,h,x=>by have:=sum_set l k (by simpa using h) x;simp only[rf,El,BV];omega
theorem Hg{t:Tb}{e:En}(h:setE t n e=0):fU (setT t n e)=(fU t).set n.toNat e:=by
 obtain⟨i,k,d⟩:=xC h;rw[FD h,OU (JN i d) (by rw[bV,oG])]
theorem NV{t:Tb}{e:En}(h:setE t n e=0)(q:En->Bool):(fU (setT t n e)).countP q+vP (q (dR t n))=(fU t).countP q+vP (q e):=by
 obtain⟨y,o,u⟩:=xC h;have d:n.toNat<(fU t).length:=by rw[oG];omega
 have k:=countP_set q (fU t) n.toNat d e;have i:=Bu t n.toNat (by omega);rw[aM d,Ew o.1]at i;rw[aU i]at k;rw[Hg h];exact k
theorem rT(d:p<m.sp.length){x:En}(h:setE (bQ m p).tb n x=0)(kd i:Int) :
  bR (setTb m p (setT (bQ m p).tb n x)) kd i+vP (uw kd i (aJ m p n))=bR m kd i+vP (uw kd i x):=by
 have u:=NV h (uw kd i);have o:=sum_set (m.sp.map λs=>(fU s.tb).countP (uw kd i)) p (by simpa using d) ((fU (setT (bQ m p).tb n x)).countP (uw kd i));unfold bR setTb;rw[nO];have k:(m.sp.map λs=>(fU s.tb).countP (uw kd i))[p]'(by simpa using d)=(fU (bQ m p).tb).countP (uw kd i):=by rw[rJ];have:=wT d;rw[aM d]at this;rw[aU this]
 rw[k]at o;have t:vP (uw kd i (aJ m p n))=vP (uw kd i (dR (bQ m p).tb n)):=rfl;simp only;omega
theorem YI{l:List Nat}:0<l.sum↔∃k,∃h:k<l.length,0<l[k]:=by
 induction l with
 | nil=>simp
 | cons a l ih=>
  rw[BV];constructor
  ·intro h
   by_cases o:0<a
   ·exact⟨0,by simp,by simpa using o⟩
   obtain⟨k,i,d⟩:=ih.1 (by omega);exact⟨k+1,by simpa using i,by simpa using d⟩
  rintro⟨k,i,d⟩;cases k with
  | zero=>simp at d;omega
  | succ k=>
   have:=ih.2 ⟨k,by simpa using i,by simpa using d⟩;omega
theorem kY{i:Int}(G:kd≠0):0<bR m kd i↔∃p n,p<m.sp.length/\(0<=n/\n<64)/\(aJ m p n).k=kd/\(aJ m p n).n=i:=by
 unfold bR;rw[YI];constructor
 ·rintro⟨p,o,h⟩;have a : p<m.sp.length:=by simpa using o
  rw[rJ]at h;obtain⟨e,C,d⟩:=zu.1 h;obtain⟨j,y,rfl⟩:=jK.1 C;have b : j<64:=by rw[oG]at y;exact y
  have u:m.sp[p]=bQ m p:=by have:=wT a;rw[aM a]at this;exact aU this
  have t:=Bu m.sp[p].tb j b;rw[aM y]at t;rw[aU t,u]at d;unfold uw at d;simp only[dJ,decide_eq_true_eq]at d;exact⟨p,j,a,by omega,d.1,d.2⟩
 rintro⟨p,n,o,A,E,D⟩;refine⟨p,by simpa using o,?_⟩;rw[rJ,zu];have u:m.sp[p]=bQ m p:=by have:=wT o;rw[aM o]at this;exact aU this
 refine⟨aJ m p n,?_,by unfold uw;rw[E,D];simp⟩;rw[u];have t:=Bu (bQ m p).tb n.toNat (by omega);rw[Ew A.1]at t;exact dB t
theorem vQ(h:f<m.m.fs.length):m.m.fs[f]?=some (aF m f):=by
 unfold aF;rw[bA,aM h];rfl
theorem QK(h:f<m.m.fs.length):aF m f∈m.m.fs:=dB (vQ h)
theorem JW(h:m.m.fs.length<=f):aF m f=fr0:=by
 unfold aF;rw[bA,dP h];rfl
theorem fP{x:Fr}(h:f<m.m.fs.length)(g:Nat):aF (setFr m f x) g=if g=f then x else aF m g:=by
 unfold aF setFr;simp only;rw[bA,qd]
 by_cases e:g=f
 ·subst e;rw[if_pos rfl,if_pos h,if_pos rfl];rfl
 ·rw[if_neg (λe'=>e e'.symm),if_neg e,bA]
theorem dK{x:Fr}:(setFr m f x).m.fs.length=m.m.fs.length:=bV
theorem Pt.frE(h:Pt m)(d:f<m.m.fs.length):dn (aF m f)=0:=((eF _).1 h.fr).2.1 _ (QK d)
theorem Pt.setFr{m:Ma}(h:Pt m){f:Nat}{x:Fr}(d:dn x=0):Pt (setFr m f x):={ h with fr:=Kz h.fr d }
theorem NC{x:Fr}(h:dn x=0)(k:x.r≠0)(h1 : -x.r<=n)(o:n<=1000-x.r):dn (gV x n)=0:=by
 unfold gV
 by_cases d:x.r+n=0
 ·rw[if_pos d];decide
 rw[if_neg d,dV];have:=(dV x).1 h;refine⟨by simp only;omega,λi=>absurd i d,this.2.2⟩
theorem Xd{m:Mem}{k:Int}(h:bT m=0)(i:0<=k/\k<m.fs.length)(d:(m.fs.getD k.toNat fr0).r≠0)(h1 : -(m.fs.getD k.toNat fr0).r<=n)(o:n<=1000-(m.fs.getD k.toNat fr0).r):oQ m k n=0:=by
 unfold oQ;rw[if_neg (by rw[h];simp),if_neg (by omega),if_neg (by omega)]
theorem yI{k:Kp}(h:Pt k.m)(t:f<k.m.m.fs.length)(d:(aF k.m f).r≠0)(h1 : -(aF k.m f).r<=n)(i:n<=1000-(aF k.m f).r) :
  dU k f n=⟨setFr k.m f (gV (aF k.m f) n),k.e⟩/\Pt (setFr k.m f (gV (aF k.m f) n)):=by
 have o:oQ k.m.m (f:Int) n=0:=Xd h.fr (by omega) d h1 i;refine⟨?_,h.setFr (NC (h.frE t) d h1 i)⟩;unfold dU;rw[if_pos o];congr 1;unfold nK;rw[if_pos o];rfl
def iT(m:Ma)(s:Nat):Int:=m.sl.getD s 0
def setSl(m:Ma)(s:Nat)(n:Int):Ma:={ m with sl:=m.sl.set s n }
theorem JS(h:f<m.sl.length):m.sl[f]?=some (iT m f):=by
 unfold iT;rw[bA,aM h];rfl
theorem Ep{x:Int}(h:f<m.sl.length)(g:Nat):iT (setSl m f x) g=if g=f then x else iT m g:=by
 unfold iT setSl;simp only;rw[bA,qd]
 by_cases e:g=f
 ·subst e;rw[if_pos rfl,if_pos h,if_pos rfl];rfl
 ·rw[if_neg (λe'=>e e'.symm),if_neg e,bA]
theorem Pt.slB(h:Pt m)(s:Nat):0<=iT m s/\iT m s<=1000:=by
 rcases gB s m.sl.length with d|d
 ·have:=FN h.sl _ (dB (JS d));unfold zG at this;simp only[EJ,decide_eq_false_iff_not]at this;omega
 ·unfold iT;rw[bA,dP d];simp
theorem Pt.setSl{m:Ma}(h:Pt m){s:Nat}{n:Int}(i:0<=n)(d:n<=1000):Pt (setSl m s n):=
 { h with sl:=Gy s n h.sl i d,swl:=h.swl.trans bV.symm }
theorem TW{k:Kp}{s:Nat}(h:Pt k.m)(o:s<k.m.sl.length)(t:iT k.m s≠0)(h1 : -(iT k.m s)<=n)(u:n<=1000-iT k.m s) :
  oI k s n=⟨setSl k.m s (iT k.m s+n),k.e⟩/\Pt (setSl k.m s (iT k.m s+n)):=by
 have i:GI k.m.sl (s:Int)=iT k.m s:=rfl;have d:bK k.m.sl (s:Int) n=0:=by unfold bK;rw[if_neg (by rw[h.sl];simp),if_neg (by rw[i];omega),if_neg (by rw[i];omega)]
 refine⟨?_,h.setSl (by omega) (by omega)⟩;unfold oI;rw[if_pos d];congr 1;unfold bq;rw[if_pos d];rfl
theorem gG{k:Kp}{x:En}(h:Pt k.m)(o:0<=n/\n<64)(i:iE x=0) :
  setE (bQ k.m p).tb n x=0/\dD k p n x=⟨setTb k.m p (setT (bQ k.m p).tb n x),k.e⟩/\Pt (setTb k.m p (setT (bQ k.m p).tb n x)):=by
 have d:=ES (h.tbN p) o i;refine⟨d,?_,h.setTb (uJ d)⟩;unfold dD;rw[if_pos d]
theorem kR{x:En}(k:p<m.sp.length)(h:setE (bQ m p).tb n x=0)(q:Nat)(j:Int):aJ (setTb m p (setT (bQ m p).tb n x)) q j=if q=p/\j=n then x else aJ m q j:=by
 rw[TC k]
 by_cases e:q=p
 ·subst e;rw[if_pos rfl,Bi h]
  by_cases d:j=n
  ·rw[if_pos d,if_pos ⟨rfl,d⟩]
  ·rw[if_neg d,if_neg (λi=>d i.2)];rfl
 ·rw[if_neg e,if_neg (λi=>e i.1)]
structure fK (m m' : Ma):Prop where
 len:m'.sp.length=m.sp.length
 lv:∀p,(bQ m' p).lv=(bQ m p).lv
 ar:∀p,(bQ m' p).ar=(bQ m p).ar
theorem fK.refl(m:Ma):fK m m:=⟨rfl,λ_=>rfl,λ_=>rfl⟩
theorem fK.trans{a b c:Ma}(h:fK a b)(k:fK b c):fK a c:=⟨k.len.trans h.len,λp=>(k.lv p).trans (h.lv p),λp=>(k.ar p).trans (h.ar p)⟩
theorem fK.of(h:m'.sp=m.sp):fK m m':=⟨by rw[h],λp=>by unfold bQ;rw[h],λp=>by unfold bQ;rw[h]⟩
theorem fK.setTb{m:Ma}{p:Nat}{t:Tb}:fK m (setTb m p t):=by
 by_cases d:p<m.sp.length
 ·refine⟨um,λq => ?_,λq => ?_⟩
  all_goals
   rw[Cz d]
   by_cases e:q=p
   ·rw[if_pos e,e]
   ·rw[if_neg e]
 have:Go.Proofs.YthihaopabbpalaaGreat.setTb m p t=m:=by unfold Go.Proofs.YthihaopabbpalaaGreat.setTb;rw[List.set_eq_of_length_le (by omega)]
 rw[this];exact .refl _
structure Rest (m m' : Ma):Prop where
 sl:m'.sl=m.sl
 sw:m'.sw=m.sw
 dk:m'.dk=m.dk
 st:m'.st=m.st
 ca:m'.ca=m.ca
theorem Rest.refl(m:Ma):Rest m m:=⟨rfl,rfl,rfl,rfl,rfl⟩
theorem Rest.trans{a b c:Ma}(h:Rest a b)(k:Rest b c):Rest a c:=⟨k.sl.trans h.sl,k.sw.trans h.sw,k.dk.trans h.dk,k.st.trans h.st,k.ca.trans h.ca⟩
structure Zi (m:Ma) (f:Nat) (l:List (Nat × Int)):Prop where
 nd:l.Nodup
 mem:∀u∈l,u.1<m.sp.length/\(0<=u.2/\u.2<64)/\(aJ m u.1 u.2).k=1/\(aJ m u.1 u.2).n=f
theorem Jm{x:Fr}(h:dn x=0):gV x 0=x:=by
 unfold gV
 by_cases k:x.r=0
 ·rw[if_pos (by omega)];exact(Rc h k).symm
 rw[if_neg (by omega)];obtain⟨p,r,u,d,f,i⟩:=x;simp
theorem Tq{x:Fr}(h:dn x=0)(j:Nat)(i:(j:Int)+1<=x.r):gV (gV x (-1)) (-(j:Int))=gV x (-((j:Int)+1)):=by
 by_cases o:x.r=1
 ·have:j=0:=by omega
  subst this;have d:gV x (-1)=frZ:=by unfold gV;rw[if_pos (by omega)]
  rw[show -((0:Nat):Int)=0 from rfl,show -(((0:Nat):Int)+1) = -1 from rfl,d];exact Jm (by decide)
 have d:gV x (-1) = { x with r:=x.r + -1 }:=by unfold gV;rw[if_neg (by omega)]
 rw[d];unfold gV;simp only
 by_cases k:x.r=(j:Int)+1
 ·rw[if_pos (by omega),if_pos (by omega)]
 rw[if_neg (by omega),if_neg (by omega)];congr 1;omega
def YX(f:Nat)(e' : En)(k:Kp)(u:Nat × Int):Kp:=dD (dU k f (-1)) u.1 u.2 e'
theorem Fh(d:f<m.m.fs.length):setFr m f (aF m f)=m:=by
 have h:m.m.fs.set f (aF m f)=m.m.fs:=by have:=vQ d;rw[aM d]at this;rw[<-aU this,List.set_getElem_self]
 unfold setFr;rw[h]
theorem EN{f:Nat}{e' : En}(he:iE e' = 0)(step:Kp->(Nat × Int)->Kp)(d:∀k u,(aJ k.m u.1 u.2).k=1->(aJ k.m u.1 u.2).n=f->step k u=YX f e' k u):∀(l:List (Nat × Int)) (k:Kp),Pt k.m->Zi k.m f l->f<k.m.m.fs.length->(l.length:Int)<=(aF k.m f).r ->
  (l.foldl step k).e=k.e/\Pt (l.foldl step k).m/\Rest k.m (l.foldl step k).m/\fK k.m (l.foldl step k).m/\(l.foldl step k).m.m=(setFr k.m f (gV (aF k.m f) (-(l.length:Int)))).m /\
   (∀p n,aJ (l.foldl step k).m p n=if(p,n)∈l then e' else aJ k.m p n)/\∀kd i,bR (l.foldl step k).m kd i+(if kd=1/\i=f then l.length else 0)=bR k.m kd i+(if kd=e'.k/\i=e'.n then l.length else 0)
 | [],k,h,hu,hf,hr=>by refine⟨rfl,h,.refl _,.refl _,?_,λp n=>by simp,λkd i=>by simp⟩;show k.m.m=_;rw[show -(([]:List (Nat × Int)).length:Int)=0 from rfl,Jm (h.frE hf),Fh hf]
 | u::l,k,h,hu,hf,hr=>by
  obtain⟨hp,hn,O,N⟩:=hu.mem u jN;simp only[ou]at hr;have P:=h.frE hf;have hb:=((dV _).1 P).1;obtain⟨I,Z⟩:=yI (k:=k) (f:=f) (n:=-1) h hf (by omega) (by omega) (by omega);have o:=Tq P l.length (by omega);generalize hX:gV (aF k.m f) (-1)=X at I Z o;obtain⟨Y,G,p2⟩:=gG (k:=⟨setFr k.m f X,k.e⟩) (p:=u.1) (n:=u.2) (x:=e') Z hn he;have C:step k u=⟨setTb (setFr k.m f X) u.1 (setT (bQ k.m u.1).tb u.2 e'),k.e⟩:=by rw[d k u O N];unfold YX;rw[I,G];rfl
  have R:=λq j=>kR (m:=setFr k.m f X) (p:=u.1) (n:=u.2) (x:=e') hp Y q j;have E:=λkd i=>rT (m:=setFr k.m f X) (p:=u.1) (n:=u.2) (x:=e') hp Y kd i;have K:=tY.1 hu.nd;have D:(step k u).m.m=(setFr k.m f X).m:=by rw[C];rfl
  have Q:aF (step k u).m f=X:=by
   have:aF (step k u).m f=aF (setFr k.m f X) f:=by unfold aF;rw[D]
   rw[this,fP hf,if_pos rfl]
  have t:∀q j,aJ (step k u).m q j=if q=u.1/\j=u.2 then e' else aJ k.m q j:=λq j=>by rw[C];exact R q j
  have L:(step k u).m.sp.length=k.m.sp.length:=by rw[C];exact um
  have U:X.r=(aF k.m f).r-1:=by
   rw[<-hX];unfold gV
   by_cases h0:(aF k.m f).r + -1=0
   ·rw[if_pos h0];show(0:Int)=_;omega
   ·rw[if_neg h0];rfl
  have ih:=EN he step d l (step k u) (by rw[C];exact p2) ⟨K.2,λv hv=>by obtain⟨A,y,W,V⟩:=hu.mem v (jh _ hv);have T:¬(v.1=u.1/\v.2=u.2):=λe=>K.1 (by rw[<-show v=u from Prod.ext e.1 e.2];exact hv);rw[L,t,if_neg T];exact⟨A,y,W,V⟩⟩ (by rw[D,dK];exact hf) (by rw[Q,U];omega);obtain⟨i1,i2,i3,i4,i5,i6,i7⟩:=ih;rw[BQ];refine⟨by rw[i1,C],i2,Rest.trans (by rw[C];exact⟨rfl,rfl,rfl,rfl,rfl⟩) i3,fK.trans (by rw[C];exact fK.trans (b:=setFr k.m f X) (fK.of rfl) fK.setTb) i4,?_,λq j => ?_,λkd i => ?_⟩
  ·rw[i5,Q,o];unfold setFr;simp only;rw[D];unfold setFr;simp only[pO,ou];rfl
  ·rw[i6,t]
   by_cases I:(q,j)∈l
   ·rw[if_pos I,if_pos (jh _ I)]
   rw[if_neg I]
   by_cases G:q=u.1/\j=u.2
   ·rw[if_pos G,if_pos (by rw[show(q,j)=u from Prod.ext G.1 G.2];exact jN)]
   rw[if_neg G,if_neg];intro J;rcases fq.1 J with J|J
   ·exact G ⟨congrArg Prod.fst J,congrArg Prod.snd J⟩
   ·exact I J
  have A:=i7 kd i;have y:=E kd i;have W:bR (step k u).m kd i=bR (setTb (setFr k.m f X) u.1 (setT (bQ (setFr k.m f X) u.1).tb u.2 e')) kd i:=by rw[C];rfl
  have V:bR (setFr k.m f X) kd i=bR k.m kd i:=rfl;have a5:vP (uw kd i (aJ (setFr k.m f X) u.1 u.2))=if kd=1/\i=f then 1 else 0:=by
   have:aJ (setFr k.m f X) u.1 u.2=aJ k.m u.1 u.2:=rfl;rw[this];unfold uw vP;rw[O,N]
   by_cases e:kd=1/\i=f
   ·rw[if_pos e,e.1,e.2];simp
   rw[if_neg e,if_neg];simp only[dJ,decide_eq_true_eq];exactλS=>e ⟨S.1.symm,S.2.symm⟩
  have a6:vP (uw kd i e')=if kd=e'.k/\i=e'.n then 1 else 0:=by
   unfold uw vP
   by_cases e:kd=e'.k/\i=e'.n
   ·rw[if_pos e,e.1,e.2];simp
   rw[if_neg e,if_neg];simp only[dJ,decide_eq_true_eq];exactλS=>e ⟨S.1.symm,S.2.symm⟩
  rw[W]at A;rw[V,a5,a6]at y;rw[ou]
  by_cases c1:kd=1/\i=f
  ·rw[if_pos c1]at A y ⊢
   by_cases c2:kd=e'.k/\i=e'.n
   ·rw[if_pos c2]at A y ⊢; omega
   ·rw[if_neg c2]at A y ⊢; omega
  rw[if_neg c1]at A y ⊢
  by_cases c2:kd=e'.k/\i=e'.n
  ·rw[if_pos c2]at A y ⊢; omega
  ·rw[if_neg c2]at A y ⊢; omega
theorem wu{α β:Type}{f:α->β}(i:∀a b,f a=f b->a=b){l:List α}(h:l.Nodup):(l.map f).Nodup:=List.Pairwise.map _ (λa b d e=>d (i a b e)) h
theorem lZ{t:Tb} :n∈aV t↔(0<=n/\n<64)/\(dR t n).k≠0:=by
 unfold aV kC;simp only[fD,uH,dx,qA,decide_eq_true_eq];constructor
 ·rintro⟨j,⟨h,d⟩,rfl⟩;exact⟨by omega,d⟩
 rintro⟨h,d⟩;refine⟨n.toNat,⟨by omega,?_⟩,by omega⟩;rw[Ew h.1];exact d
theorem Nt{t:Tb}{i:Int}(o:kd≠0):n∈qx t kd i↔(0<=n/\n<64)/\(dR t n).k=kd/\(dR t n).n=i:=by
 unfold qx sJ;rw[uH,lZ];simp only[EM,dJ,tO,decide_eq_false_iff_not,qL];constructor
 ·rintro⟨⟨h,_⟩,d⟩;exact⟨h,d⟩
 ·rintro⟨h,d⟩;exact⟨⟨h,by rw[d.1];exact o⟩,d⟩
theorem DU(t:Tb):(aV t).Nodup:=by
 unfold aV kC;exact wu (λa b h=>by have d : (a:Int)=b:=h;omega) (Bl.filter _)
theorem Hr{t:Tb}{i:Int}(d:kd≠0):(qx t kd i).length=(fU t).countP (uw kd i):=by
 unfold qx aV kC fU;rw[<-KF,xA,Ld,xA];congr 1;funext n;simp only[KJ,sJ,uw,qA,EM];rw[qK];simp only[dJ,tO,decide_eq_false_iff_not,qL,decide_eq_true_eq];constructor
 ·rintro⟨h,_⟩;exact h
 ·intro h;exact⟨h,by rw[h.1];exact d⟩
theorem uh{f:Int}{u:Nat × Int}:u∈bB m f↔u.1<m.sp.length/\(0<=u.2/\u.2<64)/\(aJ m u.1 u.2).k=1/\(aJ m u.1 u.2).n=f:=by
 unfold bB;simp only[jS,dx,fD];constructor
 ·rintro⟨p,d,n,i,rfl⟩;exact⟨d,(Nt (by decide)).1 i⟩
 rintro⟨d,h⟩;exact⟨u.1,d,u.2,(Nt (by decide)).2 h,rfl⟩
theorem EZ{α β:Type}(g:α->List β):∀(l:List α),l.Nodup->(∀x∈l,(g x).Nodup)->(∀x∈l,∀y∈l,∀z,z∈g x->z∈g y->x=y)->(l.flatMap g).Nodup
 | [],_,_,_=>by simp
 | a::l,h1,h2,h3=>by rw[pF,ze];have k:=tY.1 h1;refine⟨h2 a jN,EZ g l k.2 (λx i=>h2 x (jh _ i)) (λx i y d=>h3 x (jh _ i) y (jh _ d)),?_⟩;rintro z o w t rfl;obtain⟨y,d,h⟩:=jS.1 t;exact k.1 (by rw[h3 a jN y (jh _ d) z o h];exact d)
theorem MK(m:Ma)(f:Int):(bB m f).Nodup:=by
 unfold bB;refine EZ _ _ Bl (λp k => ?_) (λp _ q _ z i d => ?_)
 ·unfold qx;exact wu (λa b h=>by simpa using h) ((DU _).filter _)
 obtain⟨_,_,rfl⟩:=fD.1 i;obtain⟨_,_,e⟩:=fD.1 d;exact(congrArg Prod.fst e).symm
theorem GY(m:Ma)(f:Nat):Zi m f (bB m f):=⟨MK m f,λu d=>uh.1 d⟩
theorem Sc{α:Type}(l:List α)(d:α){β:Type}(g:α->β):(List.range l.length).map (λp=>g (l.getD p d))=l.map g:=by
 apply sI
 ·simp
 intro i k h;simp only[rJ,JE];rw[bA,aM (by simpa using h)];rfl
theorem wF(m:Ma)(f:Int):(bB m f).length=bR m 1 f:=by
 unfold bB bR;rw[Eu];simp only[fE,Hr (show(1:Int)≠0 by decide)];rw[<-Sc m.sp zSp];rfl
theorem iw.frame(h:iw w B b H e)(A:f<H.m.fs.length) :
  ∃g t cur,H.af=some ⟨g,t,none⟩/\B<=g/\aK w g cur 66/\t+f*13+13<=cur.size/\eD w (some ⟨g,t+f*13,none⟩) (rG (aF H.ma f))/\(∀j u,(rG (aF H.ma f))[j]?=some u->cur[t+f*13+j]?=some u)/\b≠g /\
   ∀(w' : World) (x:Fr),aK w' g (dO cur (t+f*13) (rG x)) 66->w.grownBy w' (some g)->iw w' B b { H with m:=⟨H.m.fs.set f x,H.m.hand⟩ } e:=by
 have r:H.m.fs[f]=aF H.ma f:=by have:H.m.fs[f]?=some (aF H.ma f):=vQ (m:=H.ma) (f:=f) A;rw[aM A]at this;exact aU this
 obtain⟨g,t,cap,cur,D,J,a,l,i⟩:=nS jo rfl h.ma.fr f A;simp only[iW]at D;obtain⟨p,_,s⟩:=D;have k:=h.ma.fr;rw[p]at k;have d:=CW k a;have o:∀j u,(rG (aF H.ma f))[j]?=some u->cur[t+f*13+j]?=some u:=λj u C=>by rw[qX];exact d _ _ (flat_get rG 13 jo H.m.fs f A j u (by rw[r];exact C))
 have n:b≠g:=λe=>by have G:=h.blk;subst e;unfold aK at G a;rw[G]at a;simp only[fM,rM]at a;exact absurd a.2.1 (by decide)
 refine⟨g,t,cur,p,J,a,l,λj u C=>⟨g,_,rfl,by rw[a.cell];exact o j u C⟩,o,n,λw' x I y => ?_⟩;have c:(H.m.fs.set f x).length=H.m.fs.length:=bV;refine⟨?_,h.ge,⟨?_,aA h.ma.sl a y,h.ma.sw.keep a (by decide) (by decide) y,h.ma.dk.keep a (by decide) (by decide) y,h.ma.st.keep a (by decide) (by decide) y,aA h.ma.ca a y,aA h.ma.sp a y,λq E=>⟨aA (h.ma.ps q E).1 a y,(h.ma.ps q E).2.keep a (by decide) y⟩,h.ma.c64⟩,h.tz⟩
 ·have:lm { H with m:=⟨H.m.fs.set f x,H.m.hand⟩ } e=lm H e:=by unfold lm;simp only[c]
  rw[this];exact h.blk.grown y (λe=>n (aU e).symm)
 simp only[c];exact i w' _ I
theorem putAt_one{o:Nat}:∀ {vs:List Value} {j:Nat} {v:Value},(∀i u,vs[i]?=some u->cur[o+i]?=some u)->j<vs.length->dO cur o (vs.set j v)=cur.setIfInBounds (o+j) v:=by
 intro vs j v b t;apply sM;intro i;rw[BF];have a:∀k,k<vs.length->o+k<cur.size:=λk h=>(iB.1 (b k _ (aM h))).1
 by_cases y:i<o\/o+vs.length<=i
 ·rw[putAt_out _ _ _ _ (by rw[bV];omega),if_neg (by omega)]
 have d:i-o<vs.length:=by omega
 have:=putAt_in (vs.set j v) cur o (i-o) ((vs.set j v)[i-o]'(by rw[bV];exact d)) (by rw[bV];have:=a (vs.length-1) (by omega);omega) (aM _);rw[show o+(i-o)=i by omega]at this;rw[this,Er]
 by_cases e:j=i-o
 ·rw[if_pos e,if_pos (by omega),if_pos (by have:=a j t;omega)]
 rw[if_neg e,if_neg (by omega)];have:=b (i-o) _ (aM d);rw[show o+(i-o)=i by omega]at this;exact this.symm
theorem Lc(s:St)(f i:Int):(eH s f i).count=s.count\/(eH s f i).count=0:=by
 unfold eH;split
 ·exact .inr rfl
 split
 ·exact .inl rfl
 ·exact .inl rfl
theorem Xk{o:Nat}(m:World->Prop)(h:∀W,w.grownBy W (some b)->(∀ {cur T},aK w b cur T->aK W b (dO cur o vs) T)->m W):m (w.setCells b o vs).drew:=by
 have d:=aD w b o vs;exact h _ ⟨d.os,d.tape,d.output,d.size,d.block⟩ λi=>i.setCells vs o
theorem uO : (Tryz.prog.info? 4).map (·.size)=some 1:=by kernel_rfl
def Tn(B:Nat)(S:St)(N E:Int):oW:=⟨λv w => ∃u ps k,v = .tuple #[.agg #[u,.int .i64 k],.int .i64 N,.int .i64 E]/\mo w B u ps/\bD ps k=S,λ_ _ _ hb ⟨u,ps,k,h1,h2,h3⟩=>⟨u,ps,k,h1,h2.below hb,h3⟩⟩
def DZ(B:Nat)(d:qo)(E:Int):oW:=⟨λv w => ∃a b,v = .tuple #[.agg #[a,b],.int .i64 E]/\kz w B a b d,λ_ _ _ hb ⟨a,b,h1,h2⟩=>⟨a,b,h1,h2.below hb⟩⟩
theorem OH(H:MH)(e:Int)(f:Nat)(B b:Nat)(w:World)(h:iw w B b H e)(hf:f<H.m.fs.length) :
  Calls Tryz.prog 161 #[.pointer (some ⟨b,0,none⟩),.int .i64 f] w λr w'=>r = .returned (.bool (jQ H.ma f))/\KR w B b H w' (kI ⟨H.ma,e⟩ f):=by
 obtain⟨g,G,cur,h2,ge,hi,kX,kx,hG,gc,kh⟩:=h.frame hf;generalize hx:aF H.ma f=x at *
 have Q:=ae hx;clear hx kh;have hc:=h.blk.cell;unfold lm at hc;rw[h2]at hc;have gb:(f:Int)<(H.m.fs.length:Int):=by omega
 have q10:cur[G+f*13+10]?=some (.bool x.d):=hG 10 _ rfl;have q11:cur[G+f*13+11]?=some (.int .i64 x.f):=hG 11 _ rfl;have q12:cur[G+f*13+12]?=some (.int .i64 x.i):=hG 12 _ rfl;have kC:=hi.cell;have kA:=hi.free;have kZ:=ae hG;clear hG;go_enter func161,ntmps161
 by_cases h1:x.f<0
 ·have U:Hid (kI ⟨H.ma,e⟩ f=⟨H.ma,e⟩):=ae (by unfold kI;simp only[Q.out];rw[if_pos (.inl h1)]);have X:Hid (jQ H.ma f=true):=ae (by unfold jQ;rw[Q.out];simp[h1]);have hh:=ae h;clear h;go_wp2;go_ret;rw[U.out,X.out];exact⟨rfl,_,_,hh.out,KS.refl _ _ _,rfl⟩
 cases hd:x.d with
 | false=>
  have U:Hid (kI ⟨H.ma,e⟩ f=⟨H.ma,e⟩):=ae (by unfold kI;simp only[Q.out];rw[if_pos (.inr (.inl hd))]);have X:Hid (jQ H.ma f=true):=ae (by unfold jQ;rw[Q.out,hd];simp);rw[hd]at q10;have hh:=ae h;clear h;go_wp2;go_ret;rw[U.out,X.out];exact⟨rfl,_,_,hh.out,KS.refl _ _ _,rfl⟩
 | true=>
  rw[hd]at q10;go_upto_region 4 with(fail);have hm:=ae h;refine gX 22 [_,_,_,_,_,_,_,_,_,_,_,_,_,.r 13 ((Tn w.heap.size (eH H.ma.st x.f x.i) (eY H.ma.st x.f x.i) (dF H.ma.st x.f x.i))),.r 14 ((Tn w.heap.size (eH H.ma.st x.f x.i) (eY H.ma.st x.f x.i) (dF H.ma.st x.f x.i))),.r 15 ((NZ w.heap.size (eH H.ma.st x.f x.i))),.v (.int .i64 (eY H.ma.st x.f x.i)),.v (.int .i64 (dF H.ma.st x.f x.i)),.r 18 ((fu w.heap.size 41 2)),.y 19 ((MN 18 w.heap.size 41 (NZ w.heap.size (eH H.ma.st x.f x.i)))),.v (.int .i64 (eY H.ma.st x.f x.i)),.v (.int .i64 (dF H.ma.st x.f x.i))] (λW=>Below w.heap.size w W) bH (Below.refl _ _) (Yk bH rfl (Yk bH rfl (Yf bH b 0 rfl rfl (Yf bH b 7 rfl rfl (Yr bH (.agg #[.slice H.ai H.fi.length H.ci,.int .i64 H.ct]) (λρ y W A hH=>(bO rfl (bi rfl hH) (h.below A).rdS underlying41 (s:=store_size))) rfl rfl (Yk bH rfl (Yk bH rfl (Yf bH g (G+f*13+11) rfl rfl (Yc bH (.int .i64 x.f) (λW A=>by simp[(hi.ext A).cell,q11]) rfl rfl rfl rfl (Yk bH rfl (Yk bH rfl (Yf bH g (G+f*13+12) rfl rfl (Yc bH (.int .i64 x.i) (λW A=>by simp[(hi.ext A).cell,q12]) rfl rfl rfl rfl (aj ?_ (aj ?_ (aj ?_ (aj ?_ (aj ?_ (aj ?_ (aj ?_ (Yk bH rfl (Yk bH rfl (aH))))))))))))))))))))))) (λ_=>rfl) rfl ?_
  ·intro ρ y W C J A hd;refine fw A ((Tn w.heap.size (eH H.ma.st x.f x.i) (eY H.ma.st x.f x.i) (dF H.ma.st x.f x.i))) ?_;have kU:=C 35 4 rfl;have h4:y 4=_:=hd 4 rfl;have kT:=C 39 8 rfl;have h8:y 8=_:=hd 8 rfl;have kS:=C 43 12 rfl;have h3:y 12=_:=hd 12 rfl;have EF:=eF0 J λ_=>trivial;refine aL (aW rfl (EF _) func192 (by simp only[bU,bM,bP,kU,h4,kT,h8,kS,h3,EF];rfl)) ?_;refine(NW H.fi H.ct x.f x.i H.ai H.ci W (h.below A).ma.rd.st h.ma.c64).mono ?_;rintro r D ⟨u,ps,k,rfl,P,hB,kF⟩;exact⟨_,rfl,kF,u,ps,k,rfl,P.mono A.size,hB⟩
  ·intro ρ y W C J A hd;refine fw A ((Tn w.heap.size (eH H.ma.st x.f x.i) (eY H.ma.st x.f x.i) (dF H.ma.st x.f x.i))) ?_;have kR:=C 44 13 rfl;have kJ:=hd 13 rfl;refine ak _ (run_move (.inl rfl) kR) (m:=?_);exact kJ
  ·intro ρ y W C J A hd;refine fw A ((NZ w.heap.size (eH H.ma.st x.f x.i))) ?_;have hI:=C 30 14 rfl;have V:=hd 14 rfl;obtain⟨u,ps,k,O,P,hB⟩:=V;refine ak (.agg #[u,.int .i64 k]) (by simp[execOp,go_sem,bJ,hI,O]) (m:=?_);exact⟨u,ps,k,rfl,P,hB⟩
  ·intro ρ y W C J A hd;refine fw A (fQ (.int .i64 (eY H.ma.st x.f x.i))) ?_;have hI:=C 30 14 rfl;have V:=hd 14 rfl;obtain⟨u,ps,k,O,P,hB⟩:=V;refine ak (.int .i64 (eY H.ma.st x.f x.i)) (by simp[execOp,go_sem,bJ,hI,O])
  ·intro ρ y W C J A hd;refine fw A (fQ (.int .i64 (dF H.ma.st x.f x.i))) ?_;have hI:=C 30 14 rfl;have V:=hd 14 rfl;obtain⟨u,ps,k,O,P,hB⟩:=V;refine ak (.int .i64 (dF H.ma.st x.f x.i)) (by simp[execOp,go_sem,bJ,hI,O])
  ·intro ρ y W C J A hd;refine fw A ((fu w.heap.size 41 2)) ?_;refine gM (.pointer (some ⟨W.heap.size,0,none⟩)) (ag) (by simp[execOp,go_sem,bJ]) ((Below.refl _ _).alloc (aC _) (.cells #[.slice none 0 0,.int .i64 0] 41)) ?_;exact⟨_,_,rfl,A.size,aK.new _ _ _,rfl⟩
  ·intro ρ y W C J A hd;have E6:=C 6 18 rfl;have kG:=hd 18 rfl;have kQ:=C 45 15 rfl;have kH:=hd 15 rfl;obtain⟨u,ps,k,e7,ht,kg⟩:=kH;obtain⟨g3,E,e9,hF,l,hC⟩:=kG;obtain⟨L,K,rfl,_⟩:=ht.rd;refine jT _ _ _ g3 0 (.agg #[.slice L ps.length K,.int .i64 k]) [.slice L ps.length K,.int .i64 k] (E6.trans e9) (kQ.trans e7) rfl E _ l (by rw[hC];exact aC _) store_size (gH (jP _ _ _ _)) ?_;intro w1 Z a;rw[show[Value.slice L ps.length K,Value.int .i64 k]=(#[Value.slice L ps.length K,Value.int .i64 k]:Array Value).toList from rfl,eT E _ (by rw[hC];rfl)]at Z;refine⟨A.grown a A.size (λk Y=>by cases Y;exact hF),⟨g3,_,e9,hF,Z,⟨_,ps,k,rfl,ht.keep l (by decide) (by decide) a,kg⟩⟩,?_⟩;intro k Y hX
   match k,Y,hX with
   | 0,_,_|1,_,_|2,_,_|3,_,_|4,_,_|5,_,_|6,_,_|7,_,_|8,_,_|9,_,_|10,_,_|11,_,_|12,_,_=>exactλh=>h
   | 13,_,_|14,_,_|15,_,_=>exactλ⟨c,q0,q1,q2,q3,q4⟩=>⟨c,q0,q1,q2,q3.keep l (by decide) (by decide) a,q4⟩
   | 16,_,_|17,_,_=>exactλh=>h
   | 18,_,_=>exactλq=>iY q Z ⟨_,l⟩ a
   | 19,_,h=>exact absurd rfl h
   | 20,_,_|21,_,_=>exactλh=>h
   | n+22,h,_=>exact absurd h (by omega)
  intro y D t ha;replace t:Below w.heap.size w D:=t;have kc:((Tn w.heap.size (eH H.ma.st x.f x.i) (eY H.ma.st x.f x.i) (dF H.ma.st x.f x.i))).r (y 13) D:=ha 13 (by decide);have hA:((Tn w.heap.size (eH H.ma.st x.f x.i) (eY H.ma.st x.f x.i) (dF H.ma.st x.f x.i))).r (y 14) D:=ha 14 (by decide);have hz:((NZ w.heap.size (eH H.ma.st x.f x.i))).r (y 15) D:=ha 15 (by decide);have kb:((fu w.heap.size 41 2)).r (y 18) D:=ha 18 (by decide);have ka:=ha 19 (by decide);clear ha;simp only[dS,bJ,bM,bP];obtain⟨gs,cs,k7,kk,ko,us,ps,ks,hL,hW,hN⟩:=ka;simp only[yS]at hL;subst hL;obtain⟨L,K,rfl,_⟩:=hW.rd;have k2:=h.below t;have s2:=(KS.refl w b H).below t;have h0:=hi.ext t;have hD:=kx.below t;have kW:=ae kk;clear kc hA hz kb hc kC kA kk
  by_cases hE:dF H.ma.st x.f x.i=0
  ·have U:Hid (kI ⟨H.ma,e⟩ f=⟨setFr { H.ma with st:=eH H.ma.st x.f x.i,dk:=dW H.dk (eY H.ma.st x.f x.i) x.p } f { x with d:=false },iD e (aI H.dk (eY H.ma.st x.f x.i))⟩):=ae (by
    unfold kI;simp only[Q.out];rw[if_neg]
    ·rfl
    rintro(q|q|q)
    ·exact h1 q
    ·rw[hd]at q;cases q
    ·exact q hE)
   have X:Hid (jQ H.ma f=true):=ae (by unfold jQ;rw[Q.out,hE];simp);rw[hE];clear hE;have k0:Hid (dF H.ma.st x.f x.i=dF H.ma.st x.f x.i):=ae rfl;generalize eY H.ma.st x.f x.i=N at *
   go_upto_region 7 with(fail);refine gX 17 [_,_,_,_,_,_,_,_,_,_,.r 10 ((DZ D.heap.size (dW H.dk N x.p) (aI H.dk N))),.r 11 ((DZ D.heap.size (dW H.dk N x.p) (aI H.dk N))),.r 12 ((zH D.heap.size (dW H.dk N x.p))),.v (.int .i64 (aI H.dk N)),.r 14 ((fu D.heap.size 38 2)),.y 15 ((MN 14 D.heap.size 38 (zH D.heap.size (dW H.dk N x.p)))),.v (.int .i64 (aI H.dk N))] (λW=>Below D.heap.size D W) bH (Below.refl _ _) (Yk bH rfl (Yk bH rfl (Yf bH b 0 rfl rfl (Yf bH b 5 rfl rfl (Yr bH (.agg #[.slice H.db H.dk.blocks.length H.cdb,.slice H.dq H.dk.queue.length H.cdq]) (λρ y W A hH=>(bO rfl (bi rfl hH) (k2.below A).rdD underlying38 (s:=disk_size))) rfl rfl (Yk bH rfl (Yk bH rfl (Yk bH rfl (Yf bH g (G+f*13) rfl rfl (Yr bH (.agg (gW x.p)) (λρ y W A hH=>(bO rfl (bi rfl hH) (mW (hD.below A) 0 8) underlying58 (s:=psize))) rfl rfl (aj ?_ (aj ?_ (aj ?_ (aj ?_ (aj ?_ (aj ?_ (Yk bH rfl (aH)))))))))))))))))) (λ_=>rfl) rfl ?_
   ·intro ρ y W C J A hd;refine fw A ((DZ D.heap.size (dW H.dk N x.p) (aI H.dk N))) ?_;have kP:=C 55 4 rfl;have h4:y 4=_:=hd 4 rfl;have kO:=C 56 5 rfl;have h5:y 5=_:=hd 5 rfl;have kN:=C 60 9 rfl;have h9:y 9=_:=hd 9 rfl;have EF:=eF0 J λ_=>trivial;refine aL (aW rfl (EF _) func193 (by simp only[bU,bM,bP,kP,h4,kO,h5,kN,h9,EF];rfl)) ?_;refine(Fy H.dk N x.p H.db H.cdb H.dq H.cdq W (k2.below A).ma.rd.dk).mono ?_;rintro r W3 ⟨T,S,rfl,P,kE⟩;exact⟨_,rfl,kE,T,S,rfl,P.mono A.size⟩
   ·intro ρ y W C J A hd;refine fw A ((DZ D.heap.size (dW H.dk N x.p) (aI H.dk N))) ?_;have kM:=C 61 10 rfl;have kK:=hd 10 rfl;refine ak _ (run_move (.inl rfl) kM) (m:=?_);exact kK
   ·intro ρ y W C J A hd;refine fw A ((zH D.heap.size (dW H.dk N x.p))) ?_;have h7:=C 50 11 rfl;have h6:=hd 11 rfl;obtain⟨T,S,O,P⟩:=h6;refine ak (.agg #[T,S]) (by simp[execOp,go_sem,bJ,h7,O]) (m:=?_);exact⟨T,S,rfl,P⟩
   ·intro ρ y W C J A hd;refine fw A (fQ (.int .i64 (aI H.dk N))) ?_;have h7:=C 50 11 rfl;have h6:=hd 11 rfl;obtain⟨T,S,O,P⟩:=h6;refine ak (.int .i64 (aI H.dk N)) (by simp[execOp,go_sem,bJ,h7,O])
   ·intro ρ y W C J A hd;refine fw A ((fu D.heap.size 38 2)) ?_;refine gM (.pointer (some ⟨W.heap.size,0,none⟩)) (ag) (by simp[execOp,go_sem,bJ]) ((Below.refl _ _).alloc (aC _) (.cells #[.slice none 0 0,.slice none 0 0] 38)) ?_;exact⟨_,_,rfl,A.size,aK.new _ _ _,rfl⟩
   ·intro ρ y W C J A hd;have E9:=C 9 14 rfl;have V:=hd 14 rfl;have kL:=C 62 12 rfl;have h3:=hd 12 rfl;obtain⟨T,S,e7,ht⟩:=h3;obtain⟨g3,E,e9,hF,l,hC⟩:=V;obtain⟨ab,cb,rfl,_⟩:=ht.b.rd;obtain⟨aq,cq,rfl,_⟩:=ht.q.rd;refine jT _ _ _ g3 0 (.agg #[.slice ab _ cb,.slice aq _ cq]) [.slice ab _ cb,.slice aq _ cq] (E9.trans e9) (kL.trans e7) rfl E _ l (by rw[hC];exact aC _) disk_size (gH (ow)) ?_;intro w1 Z a;rw[show ∀(p q:Value),[p,q]=(#[p,q]:Array Value).toList fromλ_ _=>rfl,eT E _ (by rw[hC];rfl)]at Z;refine⟨A.grown a A.size (λk Y=>by cases Y;exact hF),⟨g3,_,e9,hF,Z,⟨_,_,rfl,ht.keep l (by decide) (by decide) a⟩⟩,?_⟩;intro k Y hX
    match k,Y,hX with
    | 0,_,_|1,_,_|2,_,_|3,_,_|4,_,_|5,_,_|6,_,_|7,_,_|8,_,_|9,_,_=>exactλh=>h
    | 10,_,_|11,_,_|12,_,_=>exactλ⟨c,q0,q1,q2⟩=>⟨c,q0,q1,q2.keep l (by decide) (by decide) a⟩
    | 13,_,_=>exactλh=>h
    | 14,_,_=>exactλq=>iY q Z ⟨_,l⟩ a
    | 15,_,h=>exact absurd rfl h
    | 16,_,_=>exactλh=>h
    | n+17,h,_=>exact absurd h (by omega)
   intro y W3 s z;replace s:Below D.heap.size D W3:=s;have kf:((DZ D.heap.size (dW H.dk N x.p) (aI H.dk N))).r (y 10) W3:=z 10 (by decide);have ke:((DZ D.heap.size (dW H.dk N x.p) (aI H.dk N))).r (y 11) W3:=z 11 (by decide);have kd:((zH D.heap.size (dW H.dk N x.p))).r (y 12) W3:=z 12 (by decide);have hA:((fu D.heap.size 38 2)).r (y 14) W3:=z 14 (by decide);have hz:=z 15 (by decide);clear z;simp only[dS,bJ,bM,bP];obtain⟨gd,cd,k9,ga,kp,T,S,hM,hJ⟩:=hz;simp only[yS]at hM;subst hM;obtain⟨ab,cb,rfl,_⟩:=hJ.b.rd;obtain⟨aq,cq,rfl,_⟩:=hJ.q.rd;have k3:=k2.below s;have s3:=s2.below s;have hS:=ko.ext s;have hR:=hW.below s;have kw:=ae s2.size;have ki:=hD.below s;clear kf ke kd hA k2 s2 h0 ko hW s hD
   go_wp2_with fail
   refine(rU _ e (aI H.dk N) _ _ _ k3).mono ?_;rintro r w4 ⟨rfl,R,hv⟩;have s4:=s3.putB hv rfl rfl rfl;have hP:=hJ.keep k3.blk (by decide) (by decide) hv;have hQ:=hR.keep k3.blk (by decide) (by decide) hv;have hr:=aG hS k3.blk hv;have hs:=aG kp k3.blk hv;clear k3 s3 hJ hR hS kp hv ki;have kn:=R.blk.cell;have kB:=R.blk.free;unfold lm at kn;have hL:=hr.cell;have hM:=hs.cell;have n1:=uX R.blk hr (by decide);have n2:=uX R.blk hs (by decide);have n3:=uX hr hs (by decide);go_upto_region 9 with(fail)
   go_region
   refine Xk (w:=w4.setCells b 7 [.slice L ps.length K,.int .i64 ks]) (b:=b) (o:=5) (vs:=[.slice ab (dW H.dk N x.p).blocks.length cb,.slice aq (dW H.dk N x.p).queue.length cq]) (λW=>Exit.then _ _ _ _ W) λw6 hY kr => ?_;have km : -9223372036854775808<=ks/\ks<=9223372036854775807:=by
    have e1:ks=(eH H.ma.st x.f x.i).count:=by rw[<-hN];rfl
    have e2:=h.ma.c64;have e3:H.ma.st.count=H.ct:=rfl;rcases Lc H.ma.st x.f x.i with e4|e4<;>rw[e1,e4]<;>omega
   have hK:=aD w4 b 7 [.slice L ps.length K,.int .i64 ks];have kt:=R.blk.setCells [.slice L ps.length K,.int .i64 ks] 7;have k5:=R.setS (hQ.mono h.bs) km kt hK;have s5:=s4.putB (H':={ H with ai:=L,ci:=K,fi:=ps,ct:=ks }) hK rfl rfl rfl;have hO:=hP.keep R.blk (by decide) (by decide) hK;have hT:=kr k5.blk;have k6:=k5.setD (hO.mono (aX h.bs kw.out)) hT hY;have s6:=s5.putB (H':={ H with ai:=L,ci:=K,fi:=ps,ct:=ks,db:=ab,cdb:=cb,dq:=aq,cdq:=cq,dk:=dW H.dk N x.p }) hY rfl rfl rfl;clear kr hT hY k5 s5 hO kt hK km R s4 hP hQ kn kB hL hM hr hs;obtain⟨g7,I,cur7,ku,k1,hZ,kz,kV,hU,kY,hV⟩:=k6.frame hf;have ky:g7=g/\I=G:=by have:H.af=some ⟨g7,I,none⟩:=ku;rw[h2]at this;simp only[fM,mD,and_true]at this;exact⟨this.1.symm,this.2.symm⟩
   obtain⟨rfl,rfl⟩:=ky;have kv:aF (MH.ma { H with ai:=L,ci:=K,fi:=ps,ct:=ks,db:=ab,cdb:=cb,dq:=aq,cdq:=cq,dk:=dW H.dk N x.p }) f=x:=Q.out;rw[kv]at hU;have kj:=putAt_one (v:=.bool false) (j:=10) hU (by rw[jo];decide)
   go_wp2_with (refine aY g7 (I+f*13+10) [.bool false] rfl rfl rfl _ _ hZ (by simp;omega) uO (λu O=>by cases bF.1 O;rfl) ?_)
   intro w8 kD kl;have kq : aK w8 g7 (dO cur7 (I+f*13) (rG { x with d:=false })) 66:=by have e1:rG { x with d:=false }=(rG x).set 10 (.bool false):=rfl;rw[e1,kj];exact kD
   have k8:=hV w8 { x with d:=false } kq kl;have s8:=s6.put (H':={ H with ai:=L,ci:=K,fi:=ps,ct:=ks,db:=ab,cdb:=cb,dq:=aq,cdq:=cq,dk:=dW H.dk N x.p,m:=⟨H.m.fs.set f { x with d:=false },H.m.hand⟩ }) kl (.inr (.inl (by show oB H.af=_;rw[h2];rfl))) λy hy => .inl (Bh rfl rfl rfl hy);go_wp2;go_ret;rw[U.out,X.out];refine⟨rfl,_,_,k8,s8,?_⟩;unfold MH.ma setFr;simp only[hN];rfl
  have U:Hid (kI ⟨H.ma,e⟩ f=⟨H.ma,e⟩):=ae (by unfold kI;simp only[Q.out];rw[if_pos (.inr (.inr hE))]);have X:Hid (jQ H.ma f=false):=ae (by unfold jQ;rw[Q.out];simp only[EJ,decide_eq_false_iff_not,Bool.not_eq_false'];exact⟨⟨h1,hd⟩,hE⟩);go_wp2;go_ret;rw[U.out,X.out];exact⟨rfl,_,_,k2,s2,rfl⟩
def jk(s:St)(f i:Int):Prop:=(0<=f/\f<s.fs.length)/\0<=i/\i<(az s f).b.length
theorem iN{x:Fi}(h:s.fs[F]?=some x):az s F=x:=by
 unfold az;rw[if_pos (by omega),bu,bA,h];rfl
theorem yt{f:Int}(h:0<=f/\f<s.fs.length):s.fs[f.toNat]?=some (az s f):=by
 unfold az;rw[if_pos h.1,bA,aM (by omega)];rfl
theorem oN{f i:Int}(h:jk s f i):(az s f).b[i.toNat]?=some (aZ s f i):=by
 unfold aZ;rw[bA,aM (by have:=h.2;omega)];rfl
theorem ut{f i:Int}(h:jk s f i):aZ s f i∈gZ s:=
 jS.2 ⟨_,dB (yt h.1),dB (oN h)⟩
theorem Ff{x:Int}(h:x∈gZ s):∃f i,jk s f i/\aZ s f i=x:=by
 obtain⟨fi,u,t⟩:=jS.1 h;obtain⟨F,o,rfl⟩:=jK.1 u;obtain⟨I,k,rfl⟩:=jK.1 t;have d:az s F=s.fs[F]:=iN (aM o);have a:jk s F I:=⟨by omega,by omega,by rw[d];omega⟩;refine⟨F,I,a,?_⟩;have:=oN a;rw[d,bu,aM k]at this;exact(aU this).symm
theorem posB_inj:∀ {l:List Int} {I J:Nat} {v:Int},(lS l).Nodup->l[I]?=some v->l[J]?=some v->0<=v->I=J
 | [],_,_,_,_,h,_,_=>by simp at h
 | a::l,0,0,_,_,_,_,_=>rfl
 | a::l,0,J+1,v,hn,h1,h2,h0=>by simp only[pK,fM]at h1;subst h1;rw[Le h0]at hn;exact((tY.1 hn).1 (ji.2 ⟨dB (by simpa using h2:l[J]?=some a),h0⟩)).elim
 | a::l,I+1,0,v,hn,h1,h2,h0=>by simp only[pK,fM]at h2;subst h2;rw[Le h0]at hn;exact((tY.1 hn).1 (ji.2 ⟨dB (by simpa using h1:l[I]?=some a),h0⟩)).elim
 | a::l,I+1,J+1,v,hn,h1,h2,h0=>by
  have:(lS l).Nodup:=by have d:(lS l).Sublist (lS (a::l)):=(List.sublist_cons_self a l).filter _;exact hn.sublist d
  have i:=posB_inj (I:=I) (J:=J) this (by simpa using h1) (by simpa using h2) h0;omega
theorem flat_inj:∀ {fs:List Fi} {F G I J:Nat} {x y:Fi} {v:Int},(lS (fs.flatMap Fi.b)).Nodup->fs[F]?=some x->fs[G]?=some y->x.b[I]?=some v->y.b[J]?=some v->0<=v->F=G/\I=J
 | [],_,_,_,_,_,_,_,_,h,_,_,_,_=>by simp at h
 | a::fs,F,G,I,J,x,y,v,hn,hF,hG,hI,hJ,h0=>by
  rw[pF,wC,ze]at hn;obtain⟨k,i,d⟩:=hn;cases F with
  | zero=>
   simp only[pK,fM]at hF;subst hF;cases G with
   | zero=>
    simp only[pK,fM]at hG;subst hG;exact⟨rfl,posB_inj k hI hJ h0⟩
   | succ G=>
    exact absurd rfl (d v (ji.2 ⟨dB hI,h0⟩) v (ji.2 ⟨jS.2 ⟨y,dB (by simpa using hG),dB hJ⟩,h0⟩))
  | succ F=>
   cases G with
   | zero=>
    simp only[pK,fM]at hG;subst hG;exact absurd rfl (d v (ji.2 ⟨dB hJ,h0⟩) v (ji.2 ⟨jS.2 ⟨x,dB (by simpa using hF),dB hI⟩,h0⟩))
   | succ G=>
    obtain⟨t,o⟩:=flat_inj i (by simpa using hF) (by simpa using hG) hI hJ h0;exact⟨by omega,o⟩
theorem Ha(h:aQ s=0){f i g j:Int}(k:jk s f i)(d:jk s g j)(u:0<=aZ s f i)(t:aZ s f i=aZ s g j):f=g/\i=j:=by
 have o:=(iU.1 h).2.2;obtain⟨A,y⟩:=flat_inj o (yt k.1) (yt d.1) (oN k) (by rw[t];exact oN d) u;have:=k.1;have:=k.2;have:=d.1;have:=d.2;omega
theorem iK(h:aQ s=0){f:Int}(d:0<=f/\f<s.fs.length):Gq s.count (az s f):=(iU.1 h).2.1 _ (dB (yt d))
theorem block_lt(h:aQ s=0){f i:Int}(d:jk s f i) : -1<=aZ s f i/\aZ s f i<s.count:=
 (iK h d.1).2.2.2 _ (dB (oN d))
theorem Ag(h:aQ s=0){f i:Int}(d:jk s f i):f<5/\i<12/\i*8<(az s f).n/\(az s f).n<=96:=by
 have u:=(iU.1 h).1;obtain⟨A,y,o,_⟩:=iK h d.1;have t:=d.1;have k:=d.2;rw[o]at k;unfold bn at k;split at k<;>omega
structure Blocked (s s' : St) (f i b:Int):Prop where
 right:aQ s' = 0
 count:s'.count=s.count
 len:s'.fs.length=s.fs.length
 size:∀g,(az s' g).n=(az s g).n
 lenb:∀g,(az s' g).b.length=(az s g).b.length
 at_:aZ s' f i=b
 other:∀g j,0<=j->¬(g=f/\j=i)->aZ s' g j=aZ s g j
 b0:0<=b
 bc:b<s.count
 used:∀x,0<=x->(x∈gZ s'↔x=b\/x∈gZ s)
 was:(aZ s f i=b/\s' = s)\/(aZ s f i<0/\b ∉ gZ s/\uS s' = uS s-1)
theorem jk.same{f i:Int}(h:jk s f i)(k:s'.fs.length=s.fs.length)(d:∀g,(az s' g).b.length=(az s g).b.length):jk s' f i:=⟨by rw[k];exact h.1,by rw[d];exact h.2⟩
theorem Ty(h:aQ s=0){f i:Int}(d:jk s f i)(k:0<=aZ s f i\/0<=fT s):dF s f i=0:=by
 unfold dF;have t:=d.1;have o:=d.2;rw[if_neg (by rw[h];simp),if_neg (by omega),if_neg (by omega),if_neg (by omega)]
theorem blocked{f i:Int}(h:dF s f i=0):jk s f i/\Blocked s (eH s f i) f i (eY s f i):=by
 have K:=Lu h;obtain⟨G,F,I,x,v,rfl,rfl,P,L,t,m,Q⟩:=Dr h;have X:=(dw.1 P).1;have R:=(dw.1 L).1;have r:jk s F I:=⟨by omega,by omega,by rw[t];omega⟩;refine⟨r,?_⟩;have J:=block_lt G r;rcases Q with⟨C,A,E⟩|⟨O,C,E,A⟩
 ·rw[A,E];rw[m]at J;exact⟨G,rfl,rfl,λ_=>rfl,λ_=>rfl,m,λ_ _ _ _=>rfl,C,J.2,λy _=>⟨.inr,λh=>h.elim (λe=>by rw[e,<-m];exact ut r) id⟩,.inl ⟨m,rfl⟩⟩
 obtain⟨z,N⟩:=Jc C;have w:=QL N;have a:=K.2.2.2.2;rw[m]at a;have a:uS (eH s F I)=uS s-1:=by
  rcases a with⟨e,_⟩|⟨_,_,e⟩
  ·omega
  ·exact e
 have o:=K.1;rw[A]at o a;rw[A,E];generalize hs' : (⟨s.fs.set F ⟨x.n,x.b.set I (fT s)⟩,s.count⟩:St)=s' at *
 have k:∀g,az s' g=if g=F then⟨x.n,x.b.set I (fT s)⟩else az s g:=by
  intro g;rw[<-hs'];unfold az;simp only
  by_cases g0:0<=g
  ·rw[if_pos g0,if_pos g0,bA,qd]
   by_cases e:g=F
   ·rw[if_pos e,if_pos (by omega),if_pos (by omega)];rfl
   ·rw[if_neg e,if_neg (by omega),bA]
  ·rw[if_neg g0,if_neg g0,if_neg (by omega)]
 have p:s'.fs.length=s.fs.length:=by rw[<-hs'];exact bV
 have d:∀g,(az s' g).b.length=(az s g).b.length:=by
  intro g;rw[k]
  by_cases e:g=F
  ·rw[if_pos e,e,t];exact bV
  ·rw[if_neg e]
 have u:aZ s' F I=fT s:=by unfold aZ;rw[k,if_pos rfl,bu,bA,oD R];rfl
 have q:∀g j,0<=j->¬(g=(F:Int)/\j=(I:Int))->aZ s' g j=aZ s g j:=by
  intro g j V W;unfold aZ;rw[k]
  by_cases e:g=F
  ·rw[if_pos e,e,t];simp only;rw[bA,uz (by omega),bA]
  ·rw[if_neg e]
 refine⟨o,by rw[<-hs'],p,λg => ?_,d,u,q,C,z,λy U => ?_,.inr ⟨by rw[m];exact O,w,a⟩⟩
 ·rw[k]
  by_cases e:g=F
  ·rw[if_pos e,e,t]
  ·rw[if_neg e]
 constructor
 ·intro D;obtain⟨g,j,c,l⟩:=Ff D
  by_cases e:g=(F:Int)/\j=(I:Int)
  ·rw[e.1,e.2,u]at l;exact .inl l.symm
  rw[q g j c.2.1 e]at l;refine .inr ?_;rw[<-l];exact ut ⟨by rw[<-p];exact c.1,by rw[<-d];exact c.2⟩
 rintro(e|D)
 ·rw[e,<-u];exact ut (r.same p d)
 obtain⟨g,j,c,l⟩:=Ff D;have e:¬(g=(F:Int)/\j=(I:Int)):=by rintro⟨T,S⟩;rw[T,S,m]at l;omega
 rw[<-l,<-q g j c.2.1 e];exact ut (c.same p d)
def eP(m:Ma)(p:Nat)(n:Int):Option Pg:=onA (bQ m p).ar n
def EG(a b:Cc):Prop:=a.f<b.f\/a.f=b.f/\a.i<b.i
def PM(x:Fr)(g:Pg)(w:Bool):Prop:=
 (0<=x.f->x.f=g.fi/\x.i=g.pg)/\(g.sh=true->0<=x.f)/\(w=true->g.wr=true)/\(w=true->0<=x.f->g.sh=true)/\(w=true->x.f<0->x.r<=1)
structure Yt (m:Ma) (g:Pg) (e:En):Prop where
 sw:e.k=2->e.n<m.sl.length/\g.sh=false
 lt:e.k=1->e.n<m.m.fs.length
 fr:e.k=1->PM (aF m e.n.toNat) g e.w
structure vR (m:Ma):Prop where
 file:∀c∈m.ca,jk m.st c.f c.i
 lt:∀c∈m.ca,0<=c.k/\c.k<m.m.fs.length
 fr:∀c∈m.ca,1<=(aF m c.k.toNat).r/\(aF m c.k.toNat).f=c.f/\(aF m c.k.toNat).i=c.i
 srt:m.ca.Pairwise EG
def vY(m:Ma)(i:Int):Nat:=m.ca.countP λc=>decide (c.k=i)
structure Rt (m:Ma):Prop where
 pt:Pt m
 trim:(∀b:Int,0<=b->b<m.dk.blocks.length->b∈gZ m.st\/m.dk.blocks.getD b.toNat zPg=zPg)/\∀q∈m.dk.queue,q.1∈gZ m.st
 live:∀p,(bQ m p).lv=false->(bQ m p).ar=[]/\∀n,(aJ m p n).k=0
 ca:vR m
 en:∀p n,(aJ m p n).k≠0->∃g,eP m p n=some g/\Yt m g (aJ m p n)
 cf:∀i:Nat,i<m.m.fs.length->(aF m i).r=vY m i+bR m 1 i
 fc:∀i:Nat,i<m.m.fs.length->0<=(aF m i).f->∃c∈m.ca,c.k=i
 cs:∀s:Nat,s<m.sl.length->iT m s=bR m 2 s
structure Co (m:Ma):Prop where
 tail:∀c∈m.ca,aO (aF m c.k.toNat).p ((az m.st c.f).n-c.i*8)=(aF m c.k.toNat).p
 clean:∀c∈m.ca,(aF m c.k.toNat).d=false->(aF m c.k.toNat).p=dh m c.f c.i
 anon:∀i:Nat,i<m.m.fs.length->(aF m i).d=true->0<=(aF m i).f
def jy(m:Ma)(p:Nat)(n:Int):Page × Bool × Int:=
 match eP m p n with
 | none=>(zPg,false,5)
 | some g=>
  if(aJ m p n).k=1 then((gQ m (aJ m p n).n).p,decide ((gQ m (aJ m p n).n).f<0),0)
  else if(aJ m p n).k=2 then(dN m.sw (aJ m p n).n,true,aI m.sw (aJ m p n).n)
  else if g.fi<0 then(zPg,false,0)
  else if(m.st.fs.length:Int)<=g.fi\/qC m.st g.fi g.pg=true then(zPg,false,9)
  else(aN m g.fi g.pg,false,0)
structure Aj (m m' : Ma):Prop where
 sk:fK m m'
 files:m'.st.fs.length=m.st.fs.length
 size:∀f,(az m'.st f).n=(az m.st f).n
 lenb:∀f,(az m'.st f).b.length=(az m.st f).b.length
 see:∀p n,jy m' p n=jy m p n
 con:∀f i,jk m.st f i->aN m' f i=aN m f i
theorem Aj.refl(m:Ma):Aj m m:=⟨.refl m,rfl,λ_=>rfl,λ_=>rfl,λ_ _=>rfl,λ_ _ _=>rfl⟩
theorem Aj.trans{a b c:Ma}(h:Aj a b)(k:Aj b c):Aj a c:=
 ⟨h.sk.trans k.sk,k.files.trans h.files,λf=>(k.size f).trans (h.size f),λf=>(k.lenb f).trans (h.lenb f),λp n=>(k.see p n).trans (h.see p n),λf i d=>(k.con f i (d.same h.files h.lenb)).trans (h.con f i d)⟩
theorem Lg(a:Cc):¬EG a a:=λh=>by unfold EG at h;omega
theorem srt_eq:∀ {l:List Cc},l.Pairwise EG->∀ {a b:Cc},a∈l->b∈l->a.f=b.f->a.i=b.i->a=b
 | [],_,_,_,h,_,_,_=>by cases h
 | c::l,hs,a,b,ha,hb,e1,e2=>by
  obtain⟨d,k⟩:=vJ.1 hs;rcases fq.1 ha with e|ha<;>rcases fq.1 hb with e' | hb
  ·rw[e,e']
  ·have:=d b hb;rw[e]at e1 e2;unfold EG at this;omega
  ·have:=d a ha;rw[e']at e1 e2;unfold EG at this;omega
  ·exact srt_eq k ha hb e1 e2
theorem vR.uniq(h:vR m){a b:Cc}(o:a∈m.ca)(i:b∈m.ca)(u:a.k=b.k):a=b:=by
 have d:=h.fr a o;have t:=h.fr b i;rw[u]at d;exact srt_eq h.srt o i (d.2.1.symm.trans t.2.1) (d.2.2.symm.trans t.2.2)
theorem CR{k:Int}:∀ {l:List Cc},l.Pairwise EG->(∀a∈l,∀b∈l,a.k=b.k->a=b)->l.countP (λc=>decide (c.k=k))<=1
 | [],_,_=>bN _
 | c::l,hs,hu=>by
  obtain⟨A,y⟩:=vJ.1 hs;have C:=CR (k:=k) y (λa u b t=>hu a (jh _ u) b (jh _ t));rw[qN]
  by_cases i:c.k=k
  ·rw[if_pos (by simpa using i)];have:l.countP (λc=>decide (c.k=k))=0:=by rw[vB];intro d o h;have e:=hu c jN d (jh _ o) (by rw[i];exact(of_decide_eq_true h).symm);have:=A d o;rw[<-e]at this;exact Lg _ this
   omega
  ·rw[if_neg (by simpa using i)];omega
theorem vR.one(h:vR m){c:Cc}(i:c∈m.ca):vY m c.k=1:=by
 have y:=CR (k:=c.k) h.srt (λa t b o=>h.uniq t o);have u:0<m.ca.countP (λd=>decide (d.k=c.k)):=zu.2 ⟨c,i,by simp⟩;unfold vY;omega
theorem vR.none{i:Int}(h:∀c∈m.ca,c.k≠i):vY m i=0:=by
 unfold vY;rw[vB];intro c o d;exact h c o (of_decide_eq_true d)
theorem Bw{f i:Int}{c:Cc}:Ie f i c=true↔f<c.f\/c.f=f/\i<=c.i:=by unfold Ie;simp
theorem Hl(l:List Cc)(f i:Int):vZ l f i<=l.length:=by
 unfold vZ;cases h:l.findIdx? (Ie f i)with
 | none=>exact aC _
 | some k=>exact vI (rz.1 h).1
theorem KM{l:List Cc}(y:l.Pairwise EG){f i:Int}:KW l f i=true↔∃c∈l,c.f=f/\c.i=i:=by
 unfold KW;constructor
 ·intro h;cases hc:l[vZ l f i]? with
  | none=>rw[hc]at h;cases h
  | some c=>
   rw[hc]at h;simp only[dJ,decide_eq_true_eq]at h;exact⟨c,dB hc,h⟩
 rintro⟨c,hc,o,D⟩;obtain⟨j,A,rfl⟩:=jK.1 hc;unfold vZ;cases h:l.findIdx? (Ie f i)with
 | none=>
  have:=zh.1 h _ hc;rw[zA]at this;exact absurd (Bw.2 (.inr ⟨o,by omega⟩)) this
 | some k=>
  obtain⟨t,u,b⟩:=rz.1 h;have d:¬j<k:=λa=>b j a (Bw.2 (.inr ⟨o,by omega⟩));have u:=Bw.1 u;have:k=j:=by
   rcases gB k j with a|C
   ·have:=Et.1 y k j t A a;unfold EG at this;omega
   ·omega
  subst this;simp only[sQ,aM t,o,D,decide_true,Bool.and_self]
theorem Hw{l:List Cc}{f i:Int}(h:KW l f i=true):∃c,l[vZ l f i]?=some c/\c.f=f/\c.i=i:=by
 unfold KW at h;cases hc:l[vZ l f i]? with
 | none=>rw[hc]at h;cases h
 | some c=>
  rw[hc]at h;simp only[dJ,decide_eq_true_eq]at h;exact⟨c,rfl,h⟩
def nV(m:Ma)(f i:Int):Option Cc:=m.ca.find? λc=>decide (c.f=f)&&decide (c.i=i)
theorem Ru(h:vR m){c:Cc}(o:c∈m.ca):nV m c.f c.i=some c:=by
 cases hl:nV m c.f c.i with
 | none=>
  have:=sG.1 hl c o;simp at this
 | some d=>
  have k:=vM hl;simp only[dJ,decide_eq_true_eq]at k;rw[srt_eq h.srt (sZ hl) o k.1 k.2]
theorem Tu{f i:Int}(h:∀c∈m.ca,¬(c.f=f/\c.i=i)):nV m f i=none:=by
 unfold nV;rw[sG];intro c k d;simp only[dJ,decide_eq_true_eq]at d;exact h c k d
theorem kG(m:Ma)(f i:Int):(∃c,nV m f i=some c/\c∈m.ca/\c.f=f/\c.i=i)\/(nV m f i=none/\∀c∈m.ca,¬(c.f=f/\c.i=i)):=by
 cases hl:nV m f i with
 | none=>
  refine .inr ⟨rfl,λc o k => ?_⟩;have:=sG.1 hl c o;simp only[dJ,decide_eq_true_eq]at this;exact this k
 | some d=>
  have h:=vM hl;simp only[dJ,decide_eq_true_eq]at h;exact .inl ⟨d,rfl,sZ hl,h⟩
theorem jf(m:Ma)(f i:Int):aN m f i=match nV m f i with
  | some c=>(gQ m c.k).p
  | none=>dh m f i:=rfl
theorem dC(h:vR m){c:Cc}(d:c∈m.ca):aN m c.f c.i=(aF m c.k.toNat).p:=by
 rw[jf,Ru h d];rfl
theorem eB{f i:Int}(h:∀c∈m.ca,¬(c.f=f/\c.i=i)):aN m f i=dh m f i:=by
 rw[jf,Tu h]
theorem yx(k:Nat):gQ m (k:Int)=aF m k:=rfl
theorem Ca{l:List Ar}(h:0<=fB l n):onA l n=some (xU (l.getD (fB l n).toNat zAr) n)/\wY n (l.getD (fB l n).toNat zAr)=true:=by
 induction l with
 | nil=>unfold fB idx at h;simp at h
 | cons a r ih=>
  rw[kF]
  by_cases d:wY n a=true
  ·have t:fB (a::r) n=0:=by unfold fB idx;rw[BZ,if_pos d];rfl
   rw[t,if_pos d];exact⟨rfl,d⟩
  have o:fB (a::r) n=if 0<=fB r n then fB r n+1 else -1:=by
   unfold fB idx;rw[BZ,if_neg d];cases r.findIdx? (wY n)with
   | none=>rfl
   | some k=>
    simp only[xu];rw[if_pos (by omega)];rfl
  rw[if_neg d]
  by_cases i:0<=fB r n
  ·rw[o,if_pos i];have e:(fB r n+1).toNat=(fB r n).toNat+1:=by omega
   rw[e];exact ih i
  rw[o,if_neg i]at h;omega
def wJ(m:Ma)(g:Pg)(e:En):Page × Bool × Int:=
 if e.k=1 then((gQ m e.n).p,decide ((gQ m e.n).f<0),0)
 else if e.k=2 then(dN m.sw e.n,true,aI m.sw e.n)
 else if g.fi<0 then(zPg,false,0)
 else if(m.st.fs.length:Int)<=g.fi\/qC m.st g.fi g.pg=true then(zPg,false,9)
 else(aN m g.fi g.pg,false,0)
theorem jd{g:Pg}(h:eP m p n=some g):jy m p n=wJ m g (aJ m p n):=by
 unfold jy;rw[h];rfl
theorem qR(h:eP m p n=none):jy m p n=(zPg,false,5):=by
 unfold jy;rw[h]
theorem pg_in:∀ {l:List Ar} {k:Int} {n:Int} {g:Pg},srtF k l->onA l n=some g->0<=g.pg/\g.pg<12/\-1<=g.fi/\g.fi<5/\(g.fi<0->g.sh=false/\g.pg=0)/\0<=n/\n<64
 | [],_,_,_,_,h=>by cases h
 | a::r,k,n,g,hs,h=>by
  rw[kF]at h
  by_cases i:wY n a=true
  ·rw[if_pos i]at h;have C:=tF.1 i;have d:=hs.1;unfold dM at d;split at d
   ·cases d
   split at d
   ·cases d
   rename_i A o;cases h;unfold xU;simp only;have u:¬(a.fi<0/\(a.ba≠0\/a.sh=true)):=λh=>o (.inl h);have y:¬(0<=a.fi/\12-(a.en-a.fr)<a.ba):=λh=>o (.inr h);refine⟨?_,?_,by omega,by omega,λt=>⟨?_,if_neg (by omega)⟩,by omega,by omega⟩
   ·split<;>omega
   ·split<;>omega
   cases hsh:a.sh with
   | false=>rfl
   | true=>exact absurd ⟨t,.inr hsh⟩ u
  rw[if_neg i]at h;exact pg_in hs.2.2 h
theorem Pt.pg(h:Pt m){g:Pg}(d:eP m p n=some g):0<=g.pg/\g.pg<12/\-1<=g.fi/\g.fi<5/\(g.fi<0->g.sh=false/\g.pg=0)/\0<=n/\n<64:=
 pg_in (FE (qP.1 (h.arN p)).2) d
theorem Ei(h:aQ s=0){f i:Int}(u:0<=f)(o:0<=i)(d:¬((s.fs.length:Int)<=f\/qC s f i=true)):jk s f i:=by
 have y:¬(s.fs.length:Int)<=f:=λh=>d (.inl h);have k:¬qC s f i=true:=λh=>d (.inr h);have t:=(iK h (f:=f) (by omega)).2.2.1;refine⟨by omega,o,?_⟩;rw[t];unfold qC at k;simpa using k
theorem qG(h:aQ s=0){f i:Int}(d:jk s f i):¬((s.fs.length:Int)<=f\/qC s f i=true):=by
 have t:=(iK h d.1).2.2.1;have o:=d.1;have k:=d.2;rintro(h|h)
 ·omega
 unfold qC at h;have:=of_decide_eq_true h;omega
structure mZ (s s' : St):Prop where
 len:s'.fs.length=s.fs.length
 size:∀f,(az s' f).n=(az s f).n
 lenb:∀f,(az s' f).b.length=(az s f).b.length
theorem mZ.refl(s:St):mZ s s:=⟨rfl,λ_=>rfl,λ_=>rfl⟩
theorem mZ.of(h:s' = s):mZ s s':=by subst h;exact .refl _
theorem Rx(h:mZ s s')(f i:Int):qC s' f i=qC s f i:=by unfold qC;rw[h.size]
theorem rX{g:Pg}{e:En}(y:aQ m.st=0)(A:0<=g.pg)(o:mZ m.st m'.st)(C:∀f i,jk m.st f i->aN m' f i=aN m f i)(u:e.k=1->(gQ m' e.n).p=(gQ m e.n).p/\(gQ m' e.n).f=(gQ m e.n).f)(t:e.k=2->dN m'.sw e.n=dN m.sw e.n/\aI m'.sw e.n=aI m.sw e.n:=by exact(λ_=>⟨rfl,rfl⟩)):wJ m' g e=wJ m g e:=by
 unfold wJ
 by_cases k1:e.k=1
 ·rw[if_pos k1,if_pos k1,(u k1).1,(u k1).2]
 rw[if_neg k1,if_neg k1]
 by_cases d:e.k=2
 ·rw[if_pos d,if_pos d,(t d).1,(t d).2]
 rw[if_neg d,if_neg d,o.len,Rx o]
 by_cases g0:g.fi<0
 ·rw[if_pos g0,if_pos g0]
 rw[if_neg g0,if_neg g0]
 by_cases h:(m.st.fs.length:Int)<=g.fi\/qC m.st g.fi g.pg=true
 ·rw[if_pos h,if_pos h]
 ·rw[if_neg h,if_neg h,C _ _ (Ei y (by omega) A h)]
theorem Gi(h:Pt m)(k:fK m m')(d:mZ m.st m'.st)(u:∀f i,jk m.st f i->aN m' f i=aN m f i)
 (t:∀p n g,eP m p n=some g->wJ m' g (aJ m' p n)=wJ m g (aJ m p n)):Aj m m':=by
 refine⟨k,d.len,d.size,d.lenb,λp n => ?_,u⟩;have o:eP m' p n=eP m p n:=by unfold eP;rw[k.ar]
 cases hg:eP m p n with
 | none=>rw[qR hg,qR (o.trans hg)]
 | some g=>rw[jd hg,jd (o.trans hg)];exact t p n g hg
theorem SG{x:Fr}(h:dn x=0):dn { x with d:=false }=0:=by
 rw[dV]at h ⊢;exact⟨h.1,λi=>⟨(h.2.1 i).1,rfl,(h.2.1 i).2.2.1,(h.2.1 i).2.2.2⟩,h.2.2⟩
theorem WO{d:qo}{x:Int × Page}{b:Int}(i:0<=b)(h:∀q∈d.queue,q.1≠b/\0<=q.1):(jR d x).blocks.getD b.toNat zPg=d.blocks.getD b.toNat zPg:=by
 unfold jR;cases hd:d.queue with
 | nil=>rfl
 | cons q r=>
  simp only;split
  ·have:=h q (by rw[hd];exact jN);rw[bA,uz (by omega),bA]
  ·rfl
theorem Wx{d:qo}{x q:Int × Page}(h:q∈(jR d x).queue):q∈d.queue\/q=x:=by
 unfold jR at h;cases hd:d.queue with
 | nil=>rw[hd]at h;simp at h;exact .inr h
 | cons a r=>
  rw[hd]at h;simp only at h;split at h
  ·rcases ik.1 h with h|h
   ·exact .inl (jh _ h)
   ·exact .inr (bF.1 h)
  rcases ik.1 h with h|h
  ·exact .inl h
  ·exact .inr (bF.1 h)
def iJ(m:Ma)(f:Nat):Ma:=
 let x:=aF m f
 setFr { m with st:=eH m.st x.f x.i,dk:=jR m.dk (eY m.st x.f x.i,x.p) } f { x with d:=false }
theorem LJ{k:Kp}(h:Rt k.m)(y:f<k.m.m.fs.length):kI k f=if(aF k.m f).f<0\/(aF k.m f).d=false\/dF k.m.st (aF k.m f).f (aF k.m f).i≠0 then k else⟨iJ k.m f,k.e⟩:=by
 unfold kI
 by_cases o:(aF k.m f).f<0\/(aF k.m f).d=false\/dF k.m.st (aF k.m f).f (aF k.m f).i≠0
 ·simp only[if_pos o]
 have u:dF k.m.st (aF k.m f).f (aF k.m f).i=0:=by
  by_cases e:dF k.m.st (aF k.m f).f (aF k.m f).i=0
  ·exact e
  ·exact absurd (.inr (.inr e)) o
 have t:=(blocked u).2;have a:aI k.m.dk (eY k.m.st (aF k.m f).f (aF k.m f).i)=0:=fH.2 ⟨h.pt.dk,t.b0,by rw[h.pt.dkl];exact t.bc⟩;simp only[if_neg o];unfold iJ dW;rw[a];simp only[iD,if_true];congr 1;split<;>simp_all
structure Cleaned (m m' : Ma) (f:Nat):Prop where
 rt:Rt m'
 co:Co m'
 vis:Aj m m'
 sl:m'.sl=m.sl
 sw:m'.sw=m.sw
 ca:m'.ca=m.ca
 sp:m'.sp=m.sp
 fs:m'.m=(setFr m f { aF m f with d:=false }).m
theorem IP(h:Rt m)(I:Co m)(S:f<m.m.fs.length)(h0:0<=(aF m f).f)(hb:dF m.st (aF m f).f (aF m f).i=0):Cleaned m (iJ m f) f:=by
 obtain⟨hF,A⟩:=blocked hb;obtain⟨c,v,L⟩:=h.fc f S h0;have l:=h.ca.fr c v;rw[L,bu]at l;have hD:aI m.dk (eY m.st (aF m f).f (aF m f).i)=0:=fH.2 ⟨h.pt.dk,A.b0,by rw[h.pt.dkl];exact A.bc⟩;have z:eY m.st (aF m f).f (aF m f).i<m.dk.blocks.length:=by rw[h.pt.dkl];exact A.bc
 have P:∀g,aF (iJ m f) g=if g=f then{ aF m f with d:=false }else aF m g:=λg=>fP (m:={ m with st:=eH m.st (aF m f).f (aF m f).i,dk:=jR m.dk (eY m.st (aF m f).f (aF m f).i,(aF m f).p) }) (x:={ aF m f with d:=false }) S g;have a:∀g,(aF (iJ m f) g).p=(aF m g).p/\(aF (iJ m f) g).f=(aF m g).f/\(aF (iJ m f) g).i=(aF m g).i/\(aF (iJ m f) g).r=(aF m g).r:=by
  intro g;rw[P]
  by_cases e:g=f
  ·rw[if_pos e,e];exact⟨rfl,rfl,rfl,rfl⟩
  ·rw[if_neg e];exact⟨rfl,rfl,rfl,rfl⟩
 have o:(iJ m f).m.fs.length=m.m.fs.length:=bV;have s:mZ m.st (iJ m f).st:=⟨A.len,A.size,A.lenb⟩;have w:∀p n,aJ (iJ m f) p n=aJ m p n:=λ_ _=>rfl;have V:∀g j,jk m.st g j->¬(g=(aF m f).f/\j=(aF m f).i)->dh (iJ m f) g j=dh m g j:=by
  intro g j t X;have K:aZ (iJ m f).st g j=aZ m.st g j:=A.other g j t.2.1 X;unfold dh;rw[K,A.size g |> (λe=>show(az (iJ m f).st g).n=(az m.st g).n from e)]
  by_cases D:0<=aZ m.st g j
  ·rw[if_pos D,if_pos D];congr 1;show dN (jR m.dk _) _=_;rw[zy h.pt.dk A.b0 z,if_neg];rintro⟨_,e⟩;simp only at e;rcases A.was with⟨hw,_⟩|⟨_,hn,_⟩
   ·exact X (Ha h.pt.st t hF (by omega) (by omega))
   ·exact hn (by rw[e];exact ut t)
  ·rw[if_neg D,if_neg D]
 have hv:dh (iJ m f) (aF m f).f (aF m f).i=(aF m f).p:=by have K:aZ (iJ m f).st (aF m f).f (aF m f).i=eY m.st (aF m f).f (aF m f).i:=A.at_;have Y:=I.tail c v;rw[L,bu,<-l.2.1,<-l.2.2]at Y;unfold dh;rw[K,if_pos A.b0,show(az (iJ m f).st (aF m f).f).n=(az m.st (aF m f).f).n from A.size _];show aO (dN (jR m.dk _) _) _=_;rw[zy h.pt.dk A.b0 z,if_pos ⟨hD,rfl⟩];exact Y
 have y:∀g j,jk m.st g j->aN (iJ m f) g j=aN m g j:=by
  intro g j t;have hl:nV (iJ m f) g j=nV m g j:=rfl;rw[jf,jf,hl];rcases kG m g j with⟨d,C,hdm,_⟩|⟨C,N⟩
  ·rw[C];exact(a d.k.toNat).1
  rw[C];exact V g j t λe=>N c v ⟨by rw[e.1];exact l.2.1.symm,by rw[e.2];exact l.2.2.symm⟩
 have hE:Pt (iJ m f):=by have C:bZ (jR m.dk (eY m.st (aF m f).f (aF m f).i,(aF m f).p))=0:=zX h.pt.dk A.b0 z;exact{ fr:=Kz h.pt.fr (SG (h.pt.frE S)),sl:=h.pt.sl,sw:=h.pt.sw,dk:=C,st:=A.right,swl:=h.pt.swl,dkl:=by show((jR m.dk _).blocks.length:Int)=_;rw[yH,h.pt.dkl];exact A.count.symm,spl:=h.pt.spl,ar:=h.pt.ar,tb:=h.pt.tb }
 have hr:vR (iJ m f):=⟨λd C=>(h.ca.file d C).same A.len A.lenb,λd C=>by rw[o];exact h.ca.lt d C,λd C=>by have:=a d.k.toNat;rw[this.2.1,this.2.2.1,this.2.2.2];exact h.ca.fr d C,h.ca.srt⟩;refine⟨⟨hE,⟨λb D hG => ?_,λq E => ?_⟩,h.live,hr,λp n hk => ?_,λi G => ?_,λi G W => ?_,h.cs⟩,⟨λd C => ?_,λd C Z => ?_,λi G Q => ?_⟩,?_,rfl,rfl,rfl,rfl,rfl⟩
 ·have hC : b<m.dk.blocks.length:=by have:((iJ m f).dk.blocks.length)=m.dk.blocks.length:=yH _ _;omega
  by_cases J:b∈gZ m.st
  ·exact .inl ((A.used b D).2 (.inr J))
  by_cases e:b=eY m.st (aF m f).f (aF m f).i
  ·exact .inl ((A.used b D).2 (.inl e))
  refine .inr ?_;show(jR m.dk _).blocks.getD b.toNat zPg=zPg;rw[WO D (λq E=>⟨λe=>J (by rw[<-e];exact h.trim.2 q E),((jg _).1 h.pt.dk).2.2 q E |>.1⟩)];exact(h.trim.1 b D hC).resolve_left J
 ·rcases Wx E with E|rfl
  ·exact(A.used _ (((jg _).1 h.pt.dk).2.2 q E).1).2 (.inr (h.trim.2 q E))
  ·exact(A.used _ A.b0).2 (.inl rfl)
 ·obtain⟨g,R,u⟩:=h.en p n hk;refine⟨g,R,u.sw,λT=>by rw[o];exact u.lt T,λT => ?_⟩;have h1:=u.fr T;have U:=a (aJ m p n).n.toNat;unfold PM at h1 ⊢;rw[w,U.2.1,U.2.2.1,U.2.2.2];exact h1
 ·rw[(a i).2.2.2];exact h.cf i (by rw[<-o];exact G)
 ·rw[(a i).2.1]at W;exact h.fc i (by rw[<-o];exact G) W
 ·rw[(a d.k.toNat).1,show(az (iJ m f).st d.f).n=(az m.st d.f).n from A.size _];exact I.tail d C
 ·by_cases e:d.k.toNat=f
  ·have O:d=c:=h.ca.uniq C v (by have:=h.ca.lt d C;omega);subst O;rw[(a d.k.toNat).1,e];rw[<-l.2.1,<-l.2.2];exact hv.symm
  rw[P,if_neg e]at Z;rw[(a d.k.toNat).1,I.clean d C Z];refine(V d.f d.i (h.ca.file d C) λe2=>e ?_).symm;have O:d=c:=srt_eq h.ca.srt C v (by rw[e2.1];exact l.2.1) (by rw[e2.2];exact l.2.2);rw[O,L];exact bu f
 ·rw[(a i).2.1];rw[P]at Q
  by_cases e:i=f
  ·rw[e];exact h0
  ·rw[if_neg e]at Q;exact I.anon i (by rw[<-o];exact G) Q
 refine Gi h.pt (fK.of rfl) s y λp n g R => ?_;rw[w];exact rX h.pt.st (h.pt.pg R).1 s y (λ_=>⟨(a _).1,(a _).2.1⟩)
theorem uf(n:Int):dR zTb n=zEn:=by
 by_cases h:0<=n/\n<64
 ·obtain⟨q,r,i,d,rfl,_,_⟩:=zi h;exact Iw i d (by simp[zTb])
 ·exact uP
theorem uB(h:m'.m=m.m)(g:Nat):aF m' g=aF m g:=by unfold aF;rw[h]
theorem mh(h:(aJ m p n).k≠0):p<m.sp.length/\0<=n/\n<64:=by
 refine⟨?_,?_⟩
 ·rcases gB p m.sp.length with d|d
  ·exact d
  refine absurd ?_ h;unfold aJ;rw[tC d,show zSp.tb=zTb from rfl,uf];rfl
 by_cases i:n<0\/64<=n
 ·exact absurd (by rw[KT p i];rfl) h
 ·omega
theorem Me(k:Kp)(u:Nat × Int)(h:(aJ k.m u.1 u.2).k=1)(d:(aJ k.m u.1 u.2).n=f):jM k u.1 u.2=YX f zEn k u:=by
 unfold jM YX;have b : (dR (bQ k.m u.1).tb u.2).k=1:=h;have a : (dR (bQ k.m u.1).tb u.2).n=f:=d;simp only[b,a,if_true]
theorem Tt{k:Kp}(h:Rt k.m)(y:Co k.m)(t:f<k.m.m.fs.length)(A:0<=(aF k.m f).f)(u:jQ k.m f=true):∃m1,kI k f=⟨m1,k.e⟩/\Cleaned k.m m1 f:=by
 rw[LJ h t]
 by_cases o:(aF k.m f).d=false
 ·rw[if_pos (.inr (.inl o))];refine⟨k.m,rfl,h,y,.refl _,rfl,rfl,rfl,rfl,?_⟩;have:({ aF k.m f with d:=false }:Fr)=aF k.m f:=by rw[<-o]
  rw[this,Fh t]
 have a:dF k.m.st (aF k.m f).f (aF k.m f).i=0:=by
  unfold jQ at u;simp only[uN,decide_eq_true_eq,tO]at u;rcases u with(h1|h1)|h1
  ·omega
  ·exact absurd h1 o
  ·exact h1
 rw[if_neg]
 ·exact⟨_,rfl,IP h y t A a⟩
 rintro(h1|h1|h1)
 ·omega
 ·exact o h1
 ·exact h1 a
structure wZ (m m' : Ma) (f:Nat):Prop where
 rt:Rt m'
 co:Co m'
 vis:Aj m m'
 len:m'.m.fs.length=m.m.fs.length
 hand:m'.m.hand=m.m.hand
 free:aF m' f=frZ
 oth:∀g,g≠f->aF m' g=aF m g
 sll:m'.sl.length=m.sl.length
 ents:∀p n,¬((aJ m p n).k=1/\(aJ m p n).n=f)->aJ m' p n=aJ m p n
 cas:∀c,c∈m'.ca↔c∈m.ca/\c.k≠f
 std:(m'.st=m.st/\m'.dk=m.dk)\/(0<=(aF m f).f/\(aF m f).d=true/\dF m.st (aF m f).f (aF m f).i=0/\m'.st=(iJ m f).st/\m'.dk=(iJ m f).dk)
theorem SI{l:List Cc}(t:l.Pairwise EG){c:Cc}(u:l[j]?=some c)(d:Cc):d∈l.eraseIdx j↔d∈l/\¬(d.f=c.f/\d.i=c.i):=by
 have b:=(dw.1 u).1;have a:=(dw.1 u).2;rw[List.mem_eraseIdx_iff_getElem];constructor
 ·rintro⟨i,k,h,rfl⟩;refine⟨fA _,λe => ?_⟩;have:=srt_eq t (fA k) (dB u) e.1 e.2;rcases rO h with y|y
  ·have o:=Et.1 t i j k b y;rw[a,this]at o;exact Lg _ o
  have o:=Et.1 t j i b k y;rw[a,this]at o;exact Lg _ o
 rintro⟨A,h⟩;obtain⟨i,k,rfl⟩:=jK.1 A;exact⟨i,k,λe=>h (by subst e;rw[a];exact⟨rfl,rfl⟩),rfl⟩
theorem BO{α:Type}(q:α->Bool):∀(l:List α) (j:Nat) (h:j<l.length),(l.eraseIdx j).countP q+vP (q l[j])=l.countP q
 | a::l,0,_=>by simp only[List.eraseIdx_cons_zero,Cb,qN,vP]
 | a::l,j+1,h=>by have:=BO q l j (by simpa using h);simp only[List.eraseIdx_cons_succ,El,qN];omega
structure Unc (m M:Ma) (j:Nat) (d:Cc):Prop where
 rt:Rt M
 co:Co M
 sk:fK m M
 len:M.m.fs.length=m.m.fs.length
 hand:M.m.hand=m.m.hand
 sl:M.sl=m.sl
 sw:M.sw=m.sw
 dk:M.dk=m.dk
 st:M.st=m.st
 ca:M.ca=m.ca.eraseIdx j
 fr:∀g,aF M g=if g=d.k.toNat then frZ else aF m g
 cas:∀e,e∈M.ca↔e∈m.ca/\¬(e.f=d.f/\e.i=d.i)
 cak:∀e,e∈M.ca->e∈m.ca/\e.k.toNat≠d.k.toNat
 ents:∀p n,aJ M p n=if(aJ m p n).k=1/\(aJ m p n).n=d.k then zEn else aJ m p n
theorem Vt{k:Kp}(h:Rt k.m)(hc:Co k.m){d:Cc}(Q:k.m.ca[j]?=some d):∃M,kP k j=⟨M,k.e⟩/\Unc k.m M j d:=by
 have R:=dB Q;have hR:=h.ca.lt d R;obtain⟨f,E⟩:∃f:Nat,d.k=f:=⟨d.k.toNat,by omega⟩;have P:f<k.m.m.fs.length:=by omega
 have hP:=h.ca.fr d R;rw[E,bu]at hP;have hq:vY k.m f=1:=by rw[<-E];exact h.ca.one R
 have hr:=h.cf f P;rw[hq,<-wF]at hr;have hv:=EN (f:=f) (e':=zEn) (by decide) (λk u=>jM k u.1 u.2) Me (bB k.m f) k h.pt (GY k.m f) P (by omega);obtain⟨r1,C,I,Z,G,Y,X⟩:=hv;have hG:(bB k.m f).foldl (λk u=>jM k u.1 u.2) k=kv k (bB k.m f):=rfl;rw[hG]at r1 C I Z G Y X;generalize hk2:kv k (bB k.m f)=k2 at r1 C I Z G Y X;have hy:gV (aF k.m f) (-((bB k.m f).length:Int)) = { aF k.m f with r:=1 }:=by unfold gV;rw[if_neg (by omega)];congr 1;omega
 simp only[hy]at G;have hQ:oV k.m j=d:=by unfold oV;rw[bA,Q];rfl
 have hO:kP k j=dU ⟨{ k2.m with ca:=k2.m.ca.eraseIdx j },k2.e⟩ f (-1):=by unfold kP;simp only[hQ,E,hk2]
 have hE:f<k2.m.m.fs.length:=by rw[G,dK];exact P
 have V:aF k2.m f = { aF k.m f with r:=1 }:=by have:aF k2.m f=aF (setFr k.m f { aF k.m f with r:=1 }) f:=uB G f;rw[this,fP P,if_pos rfl]
 have hw:∀g,g≠f->aF k2.m g=aF k.m g:=by intro g O;have:aF k2.m g=aF (setFr k.m f { aF k.m f with r:=1 }) g:=uB G g;rw[this,fP P,if_neg O]
 have hC:Pt { k2.m with ca:=k2.m.ca.eraseIdx j }:={ fr:=C.fr,sl:=C.sl,sw:=C.sw,dk:=C.dk,st:=C.st,swl:=C.swl,dkl:=C.dkl,spl:=C.spl,ar:=C.ar,tb:=C.tb };obtain⟨e3,p3⟩:=yI (k:=⟨{ k2.m with ca:=k2.m.ca.eraseIdx j },k2.e⟩) (f:=f) (n:=-1) hC hE (by show(aF k2.m f).r≠0;rw[V];show(1:Int)≠0;decide) (by show -(aF k2.m f).r<=-1;rw[V];show -(1:Int)<=-1;decide) (by show -1<=1000-(aF k2.m f).r;rw[V];show -1<=(1000:Int)-1;decide);have hz:gV (aF { k2.m with ca:=k2.m.ca.eraseIdx j } f) (-1)=frZ:=by show gV (aF k2.m f) (-1)=frZ;rw[V];rfl
 rw[hz]at e3 p3;refine⟨_,hO.trans (e3.trans (by rw[r1])),?_⟩;generalize hM:setFr { k2.m with ca:=k2.m.ca.eraseIdx j } f frZ=M at p3 ⊢;have y:∀g,aF M g=if g=f then frZ else aF k.m g:=by
  intro g;rw[<-hM,fP (m:={ k2.m with ca:=k2.m.ca.eraseIdx j }) hE]
  by_cases e:g=f
  ·rw[if_pos e,if_pos e]
  ·rw[if_neg e,if_neg e,<-hw g e];rfl
 have b:M.m.fs.length=k.m.m.fs.length:=by rw[<-hM,dK];show k2.m.m.fs.length=_;rw[G,dK]
 have v:M.sl=k.m.sl:=by rw[<-hM];exact I.sl
 have hI:M.sw=k.m.sw:=by rw[<-hM];exact I.sw
 have w:M.dk=k.m.dk:=by rw[<-hM];exact I.dk
 have o:M.st=k.m.st:=by rw[<-hM];exact I.st
 have x:M.ca=k.m.ca.eraseIdx j:=by rw[<-hM];show k2.m.ca.eraseIdx j=_;rw[I.ca]
 have hL:=(dw.1 Q).1;have U:fK k.m M:=by rw[<-hM];exact Z.trans (fK.of rfl)
 have hx:∀p n,(p,n)∈bB k.m f↔(aJ k.m p n).k=1/\(aJ k.m p n).n=f:=by
  intro p n;rw[uh];constructor
  ·rintro⟨_,_,K⟩;exact K
  intro K;have h4:=mh (m:=k.m) (p:=p) (n:=n) (by rw[K.1];decide);exact⟨h4.1,h4.2,K⟩
 have q:∀p n,aJ M p n=if(aJ k.m p n).k=1/\(aJ k.m p n).n=f then zEn else aJ k.m p n:=λp n=>by
  have:aJ M p n=if(p,n)∈bB k.m f then zEn else aJ k.m p n:=by rw[<-hM];exact Y p n
  rw[this];simp only[hx]
 have t:∀kd i,bR M kd i+(if kd=1/\i=f then(bB k.m f).length else 0)=bR k.m kd i+(if kd=zEn.k/\i=zEn.n then(bB k.m f).length else 0):=λkd i=>by rw[<-hM];exact X kd i
 have hh:∀e,e∈M.ca↔e∈k.m.ca/\¬(e.f=d.f/\e.i=d.i):=λe=>by rw[x];exact SI h.ca.srt Q e
 have a:∀e,e∈M.ca->e∈k.m.ca/\e.k.toNat≠f:=λe D=>by have A:=(hh e).1 D;refine⟨A.1,λh2=>A.2 ?_⟩;have K:=h.ca.uniq A.1 R (by have:=h.ca.lt e A.1;omega);rw[K];exact⟨rfl,rfl⟩
 have l:∀g,g≠f->aF M g=aF k.m g:=λg O=>by rw[y,if_neg O]
 have hB:vR M:=⟨λe D=>by rw[o];exact h.ca.file e (a e D).1,λe D=>by rw[b];exact h.ca.lt e (a e D).1,
  λe D=>by rw[l _ (a e D).2];exact h.ca.fr e (a e D).1,by rw[x];exact h.ca.srt.sublist (List.eraseIdx_sublist _ _)⟩
 have hA:∀g i,dh M g i=dh k.m g i:=λg i=>by unfold dh;rw[o,w]
 refine⟨⟨p3,⟨?_,?_⟩,λp hp => ?_,hB,λp n z => ?_,λi N => ?_,λi N S => ?_,λs hs => ?_⟩,⟨λe D => ?_,λe D hF => ?_,λi N T => ?_⟩,U,b,?_,v,hI,w,o,x,by rw[E,bu];exact y,hh,by rw[E,bu];exact a,by rw[E];exact q⟩
 ·rw[w,o];exact h.trim.1
 ·rw[w,o];exact h.trim.2
 ·rw[U.lv]at hp;have A:=h.live p hp;rw[U.ar];refine⟨A.1,λn => ?_⟩;rw[q]
  by_cases J:(aJ k.m p n).k=1/\(aJ k.m p n).n=f
  ·rw[if_pos J];rfl
  ·rw[if_neg J];exact A.2 n
 ·rw[q]at z ⊢
  by_cases J:(aJ k.m p n).k=1/\(aJ k.m p n).n=f
  ·rw[if_pos J]at z; exact absurd rfl z
  rw[if_neg J]at z ⊢;obtain⟨g,O,ha⟩:=h.en p n z;refine⟨g,by unfold eP;rw[U.ar];exact O,by rw[v];exact ha.sw,by rw[b];exact ha.lt,λhD => ?_⟩;have hK:(aJ k.m p n).n.toNat≠f:=by intro e;have h5:=((dA).1 (ku h.pt p n));exact J ⟨hD,by omega⟩
  rw[y,if_neg hK];exact ha.fr hD
 ·have L:=t 1 i;have hJ:¬((1:Int)=zEn.k/\(i:Int)=zEn.n):=λe=>by cases e.1
  rw[if_neg hJ]at L;have a2:=BO (λc=>decide (c.k=(i:Int))) k.m.ca j hL;have hN:=(dw.1 Q).2;rw[hN]at a2;have W:vY M i=(k.m.ca.eraseIdx j).countP (λc=>decide (c.k=(i:Int))):=by unfold vY;rw[x]
  by_cases e:i=f
  ·subst e;rw[if_pos ⟨rfl,rfl⟩]at L;have a4:vP (decide (d.k=(i:Int)))=1:=by rw[E];simp[vP]
   have a5:k.m.ca.countP (λc=>decide (c.k=(i:Int)))=1:=hq;rw[wF]at L;rw[y,if_pos rfl,W];show(0:Int)=_;omega
  rw[if_neg (λh'=>e (by have:=h'.2;omega))]at L;have a4:vP (decide (d.k=(i:Int)))=0:=by unfold vP;rw[if_neg];simp only[decide_eq_true_eq,E];omega
  have a5:=h.cf i (by rw[<-b];exact N);have a6:vY k.m i=k.m.ca.countP (λc=>decide (c.k=(i:Int))):=rfl;rw[l i e,W];omega
 ·by_cases e:i=f
  ·subst e;rw[y,if_pos rfl]at S;exact absurd S (by decide)
  rw[l i e]at S;obtain⟨c',hH,ht⟩:=h.fc i (by rw[<-b];exact N) S;refine⟨c',(hh c').2 ⟨hH,λh2 => ?_⟩,ht⟩;have:=srt_eq h.ca.srt hH R h2.1 h2.2;rw[this,E]at ht;omega
 ·have L:=t 2 s;rw[if_neg (λe=>by cases e.1),if_neg (λe=>by cases e.1)]at L;have a2:=h.cs s (by rw[<-v];exact hs);have W:iT M s=iT k.m s:=by unfold iT;rw[v]
  rw[W,a2];omega
 ·have A:=a e D;rw[l _ A.2,o];exact hc.tail e A.1
 ·have A:=a e D;rw[l _ A.2]at hF ⊢;rw[hA];exact hc.clean e A.1 hF
 ·by_cases e:i=f
  ·rw[y,if_pos e]at T;cases T
  rw[l i e]at T ⊢;exact hc.anon i (by rw[<-b];exact N) T
 rw[<-hM];show k2.m.m.hand=_;rw[G];rfl
theorem Unc.con{d:Cc}(h:Rt m)(U:Unc m M j d){g i:Int}(y:¬(g=d.f/\i=d.i)):aN M g i=aN m g i:=by
 rcases kG m g i with⟨e,A,o,u,t⟩|⟨A,k⟩
 ·subst u;subst t;have a:=(U.cas e).2 ⟨o,y⟩;rw[dC h.ca o,dC U.rt.ca a,U.fr,if_neg (U.cak e a).2]
 rw[eB k,eB (λe' b=>k e' ((U.cas e').1 b).1)];unfold dh;rw[U.st,U.dk]
theorem Pp{k:Kp}(h:Rt k.m)(hc:Co k.m)(L:f<k.m.m.fs.length)(N:0<=(aF k.m f).f)(V:jQ k.m f=true) :
  (gI k f).e=k.e/\wZ k.m (gI k f).m f:=by
 obtain⟨m1,S,A⟩:=Tt h hc L N V;have hq:bB k.m f=bB m1 f:=by unfold bB bQ;rw[A.sp]
 have q:aF m1 f = { aF k.m f with d:=false }:=by have:aF m1 f=aF (setFr k.m f { aF k.m f with d:=false }) f:=uB A.fs f;rw[this,fP L,if_pos rfl]
 have w:∀g,g≠f->aF m1 g=aF k.m g:=by intro g K;have:aF m1 g=aF (setFr k.m f { aF k.m f with d:=false }) g:=uB A.fs g;rw[this,fP L,if_neg K]
 have T:m1.m.fs.length=k.m.m.fs.length:=by rw[A.fs];exact dK
 have y:f<m1.m.fs.length:=by rw[T];exact L
 obtain⟨c,a,b⟩:=A.rt.fc f y (by rw[q];exact N);have j:=A.rt.ca.fr c a;rw[b,bu]at j;have o : (aF k.m f).f=c.f/\(aF k.m f).i=c.i:=by rw[<-j.2.1,<-j.2.2,q];exact⟨rfl,rfl⟩
 obtain⟨d,O,X,Y⟩:=Hw ((KM A.rt.ca.srt).2 ⟨c,a,o.1.symm,o.2.symm⟩:KW m1.ca (aF k.m f).f (aF k.m f).i=true);have W:d=c:=srt_eq A.rt.ca.srt (dB O) a (X.trans o.1) (Y.trans o.2);subst W;obtain⟨M,hM,U⟩:=Vt (k:=⟨m1,k.e⟩) A.rt A.co O;have hp:(kv ⟨m1,k.e⟩ (bB m1 f)).m.ca=m1.ca:=by have:=EN (f:=f) (e':=zEn) (by decide) (λk u=>jM k u.1 u.2) Me (bB m1 f) ⟨m1,k.e⟩ A.rt.pt (GY m1 f) y (by have hr:=A.rt.cf f y;rw[<-wF]at hr;show _<=(aF m1 f).r;omega);exact this.2.2.1.ca
 have hv:gI k f=⟨M,k.e⟩:=by
  rw[<-hM];unfold gI kP;simp only;have hA:oV m1 (vZ m1.ca (aF k.m f).f (aF k.m f).i)=d:=by unfold oV;rw[bA,O];rfl
  rw[if_pos N,if_neg (by rw[V];decide),S,hq,hA,b];simp only[hp];rw[if_pos ((KM A.rt.ca.srt).2 ⟨d,a,o.1.symm,o.2.symm⟩)]
 rw[hv];refine⟨rfl,?_⟩;change wZ k.m M f;have hs:d.k.toNat=f:=by omega
 have P:∀g,aF M g=if g=f then frZ else aF k.m g:=λg=>by
  rw[U.fr,hs]
  by_cases e:g=f
  ·rw[if_pos e,if_pos e]
  ·rw[if_neg e,if_neg e];exact w g e
 have ha:fK k.m m1:=A.vis.sk;have hB:fK k.m M:=ha.trans U.sk;have z:∀p n,aJ m1 p n=aJ k.m p n:=λp n=>by unfold aJ bQ;rw[A.sp]
 have l:mZ m1.st M.st:=mZ.of U.st;have t:∀g i,jk m1.st g i->aN M g i=aN m1 g i:=by
  intro g i _
  by_cases J:g=d.f/\i=d.i
  ·rw[J.1,J.2,dC A.rt.ca a,eB (λe' Z=>((U.cas e').1 Z).2)];rw[show dh M d.f d.i=dh m1 d.f d.i by unfold dh;rw[U.st,U.dk]];exact(A.co.clean d a (by rw[b,bu,q])).symm
  ·exact U.con A.rt J
 have v:Aj m1 M:=by
  refine Gi A.rt.pt U.sk l t λp n g K => ?_;rw[U.ents]
  by_cases I:(aJ m1 p n).k=1/\(aJ m1 p n).n=d.k
  ·rw[if_pos I];obtain⟨g',R,hn⟩:=A.rt.en p n (by rw[I.1];decide);rw[K]at R;cases R;have D:=hn.fr I.1;rw[I.2,b,bu]at D;have G:=D.1 (by rw[q];exact N);have x:jk m1.st g.fi g.pg:=by rw[<-G.1,<-G.2,j.2.1,j.2.2];exact A.rt.ca.file d a
   have ht:¬g.fi<0:=by have:=x.1;omega
   have s:¬((M.st.fs.length:Int)<=g.fi\/qC M.st g.fi g.pg=true):=by rw[U.st];exact qG A.rt.pt.st x
   have hl:wJ m1 g (aJ m1 p n)=((aF m1 f).p,false,0):=by unfold wJ;rw[if_pos I.1,I.2,b,yx,q];simp only[KE,true_and,and_true];exact decide_eq_false (by omega)
   rw[hl];unfold wJ;rw[if_neg (by decide),if_neg (by decide),if_neg ht,if_neg s,t _ _ x];have:g.fi=d.f/\g.pg=d.i:=⟨by rw[<-G.1,j.2.1],by rw[<-G.2,j.2.2]⟩;rw[this.1,this.2,dC A.rt.ca a,b,bu]
  rw[if_neg I];refine rX A.rt.pt.st (A.rt.pt.pg K).1 l t (λQ => ?_) (t:=(λQ=>by rw[U.sw];exact⟨rfl,rfl⟩));have s:(aJ m1 p n).n.toNat≠d.k.toNat:=by intro e;have h5:=((dA).1 (ku A.rt.pt p n));exact I ⟨Q,by omega⟩
  have:aF M (aJ m1 p n).n.toNat=aF m1 (aJ m1 p n).n.toNat:=by rw[U.fr,if_neg s]
  exact⟨congrArg Fr.p this,congrArg Fr.f this⟩
 refine⟨U.rt,U.co,A.vis.trans v,U.len.trans T,?_,by rw[P,if_pos rfl],λg K=>by rw[P,if_neg K],by rw[U.sl,A.sl],λp n s=>by rw[U.ents,z,b,if_neg s],λe => ?_,?_⟩
 ·rw[U.hand,A.fs];rfl
 ·rw[U.cas,A.ca];constructor
  ·rintro⟨C,D⟩;refine⟨C,λG=>D ?_⟩;rw[h.ca.uniq C (by rw[<-A.ca];exact a) (by rw[G,b])];exact⟨rfl,rfl⟩
  rintro⟨C,D⟩;refine⟨C,λG=>D ?_⟩;rw[srt_eq h.ca.srt C (by rw[<-A.ca];exact a) G.1 G.2,b]
 rw[U.st,U.dk];have C:=LJ h L;rw[S]at C
 by_cases E:(aF k.m f).f<0\/(aF k.m f).d=false\/dF k.m.st (aF k.m f).f (aF k.m f).i≠0
 ·rw[if_pos E]at C;have D:m1=k.m:=congrArg Kp.m C;rw[D];exact .inl ⟨rfl,rfl⟩
 rw[if_neg E]at C;have D:m1=iJ k.m f:=congrArg Kp.m C;rw[D];refine .inr ⟨N,?_,?_,rfl,rfl⟩
 ·cases e:(aF k.m f).d with
  | true=>rfl
  | false=>exact absurd (.inr (.inl e)) E
 by_cases e:dF k.m.st (aF k.m f).f (aF k.m f).i=0
 ·exact e
 ·exact absurd (.inr (.inr e)) E
def QF(m:Ma)(f i:Int)(P:Page):Prop:=∃c∈m.ca,c.f=f/\c.i=i/\(aF m c.k.toNat).d=true/\(aF m c.k.toNat).p=P
structure WJ (m m' : Ma):Prop where
 st:m'.st=m.st
 dk:m'.dk=m.dk
 di:∀f i P,QF m' f i P->QF m f i P
structure abf (P:Ma->Prop):Prop where
 cl:∀m f,Rt m->Co m->P m->f<m.m.fs.length->0<=(aF m f).f->(aF m f).d=true->dF m.st (aF m f).f (aF m f).i=0->P (iJ m f)
 sub:∀m m',Rt m->Co m->P m->Rt m'->Co m'->WJ m m'->P m'
def Inv(m m' : Ma):Prop:=∀P,abf P->P m->P m'
theorem Inv.refl(m:Ma):Inv m m:=λ_ _ h=>h
theorem Inv.trans{a b c:Ma}(h:Inv a b)(k:Inv b c):Inv a c:=λP d i=>k P d (h P d i)
theorem WJ.inv(h:WJ m m')(u:Rt m)(t:Co m)(o:Rt m')(k:Co m'):Inv m m':=λP d i=>d.sub m m' u t i o k h
theorem WJ.of(st:m'.st=m.st)(dk:m'.dk=m.dk)(h:∀c∈m'.ca,(aF m' c.k.toNat).d=true->c∈m.ca/\(aF m' c.k.toNat).d=(aF m c.k.toNat).d/\(aF m' c.k.toNat).p=(aF m c.k.toNat).p):WJ m m':=
 ⟨st,dk,λf i P ⟨c,a1,a2,a3,a4,a5⟩=>have ⟨b1,b2,b3⟩:=h c a1 a4;⟨c,b1,a2,a3,by rw[<-b2];exact a4,by rw[<-b3];exact a5⟩⟩
theorem wZ.inv(h:Rt m)(t:Co m)(o:f<m.m.fs.length)(E:wZ m m' f):Inv m m':=by
 have b:∀c∈m'.ca,c∈m.ca/\c.k.toNat≠f:=λc a=>by have d:=(E.cas c).1 a;have i:=h.ca.lt c d.1;exact⟨d.1,λe=>d.2 (by omega)⟩
 rcases E.std with⟨d,i⟩|⟨A,G,y,d,i⟩
 ·refine WJ.inv (.of d i λc a _ => ?_) h t E.rt E.co;rw[E.oth _ (b c a).2];exact⟨(b c a).1,rfl,rfl⟩
 have u:=IP h t o A y;refine Inv.trans (λP C D=>C.cl m f h t D o A G y) (WJ.inv (.of d i λc a _ => ?_) u.rt u.co E.rt E.co);have I:aF (iJ m f) c.k.toNat=aF m c.k.toNat:=by rw[uB u.fs,fP o,if_neg (b c a).2]
 rw[E.oth _ (b c a).2,I];exact⟨(b c a).1,rfl,rfl⟩
theorem xz{α:Type}{q:α->Bool}{l:List α}(h:0<=idx q l):∃k:Nat,idx q l=k/\∃d:k<l.length,q l[k]=true:=by
 unfold idx at h ⊢;cases hf:l.findIdx? q with
 | none=>rw[hf]at h;simp at h
 | some k=>
  obtain⟨d,i,_⟩:=rz.1 hf;exact⟨k,rfl,d,i⟩
theorem Rj{α:Type}{q:α->Bool}{l:List α}(h:idx q l<0):∀x∈l,q x=false:=by
 unfold idx at h;cases hf:l.findIdx? q with
 | none=>exact zh.1 hf
 | some k=>rw[hf]at h;simp at h;omega
theorem Vv(h:Pt m)(D:1<=n)(C:n<=1000) :
  (iI m.sl n=0/\∃s:Nat,s<m.sl.length/\iT m s=0/\kJ m.sl n=s/\nJ m.sl n=m.sl.set s n)\/(iI m.sl n=10/\∀s:Nat,s<m.sl.length->iT m s≠0):=by
 by_cases d:idx Kk m.sl<0
 ·refine .inr ⟨?_,λs y A => ?_⟩
  ·unfold iI;rw[if_neg (by rw[h.sl];simp),if_neg (by omega),if_pos d]
  have:=Rj d _ (dB (JS y));rw[A]at this;simp[Kk]at this
 obtain⟨k,o,a,u⟩:=xz (by omega:0<=idx Kk m.sl);have i:iI m.sl n=0:=by unfold iI;rw[if_neg (by rw[h.sl];simp),if_neg (by omega),if_neg d]
 refine .inl ⟨i,k,a,?_,?_,?_⟩
 ·have t:=JS a;rw[aM a]at t;rw[<-aU t];simpa[Kk]using u
 ·unfold kJ;rw[if_pos i,o]
 ·unfold nJ;rw[if_pos i,o,bu]
theorem CQ(h:Rt m)(o:f<m.m.fs.length)(y:(aF m f).f<0):vY m f=0/\(aF m f).r=(bB m f).length:=by
 have d:vY m f=0:=vR.none (m:=m) (i:=f) λc d k=>by have t:=(h.ca.fr c d).2.1;have u:=(h.ca.file c d).1;rw[k,bu]at t;omega
 refine⟨d,?_⟩;have:=h.cf f o;rw[d,<-wF]at this;omega
theorem Pj{k:Kp}(h:Rt k.m)(E:Co k.m)(X:f<k.m.m.fs.length)(h0:(aF k.m f).f<0)(hr:(aF k.m f).r≠0)(hb:iI k.m.sl (bB k.m f).length=0) :
  (gI k f).e=k.e/\wZ k.m (gI k f).m f:=by
 obtain⟨hS,hV⟩:=CQ h X h0;have h7:=((dV _).1 (h.pt.frE X)).1;obtain⟨_,s,hs,hZ,z,hU⟩:=(Vv h.pt (n:=(bB k.m f).length) (by omega) (by omega)).resolve_right (λe=>by rw[hb]at e;cases e.1);have hY:s<60:=by have:=lK h.pt.sl;omega
 have q:(s:Int)<k.m.sw.blocks.length:=by rw[h.pt.swl];omega
 have hC:aI k.m.sw (s:Int)=0:=fH.2 ⟨h.pt.sw,by omega,q⟩;have hl:∃L:Nat,L=(bB k.m f).length:=⟨_,rfl⟩;obtain⟨L,hL⟩:=hl;generalize hm1:({ k.m with sl:=k.m.sl.set s (L:Int),sw:=jR k.m.sw ((s:Int),(aF k.m f).p) }:Ma)=m1;have hX:gI k f=uT ⟨m1,k.e⟩ f s (bB k.m f):=by
  unfold gI;simp only;rw[if_neg (by omega),if_neg (by rw[hb];simp),z,hC,hU];have hw:dW k.m.sw (s:Int) (aF k.m f).p=jR k.m.sw ((s:Int),(aF k.m f).p):=by unfold dW;rw[if_pos hC]
  have D:iD k.e 0=k.e:=by unfold iD;split<;>simp_all
  rw[hw,D,<-hm1,hL]
 have o:m1.m=k.m.m:=by rw[<-hm1]
 have a:m1.sp=k.m.sp:=by rw[<-hm1]
 have hh:m1.sl=k.m.sl.set s (L:Int):=by rw[<-hm1]
 have ha:m1.sw=jR k.m.sw ((s:Int),(aF k.m f).p):=by rw[<-hm1]
 have hm:m1.dk=k.m.dk:=by rw[<-hm1]
 have hd:m1.st=k.m.st:=by rw[<-hm1]
 have hI:m1.ca=k.m.ca:=by rw[<-hm1]
 have hM:Pt m1:={ fr:=by rw[o];exact h.pt.fr,sl:=by rw[hh];exact Gy s _ h.pt.sl (by omega) (by omega),sw:=by rw[ha];exact zX h.pt.sw (by show(0:Int)<=s;omega) q,dk:=by rw[hm];exact h.pt.dk,st:=by rw[hd];exact h.pt.st,swl:=by rw[ha,hh,yH,bV];exact h.pt.swl,dkl:=by rw[hm,hd];exact h.pt.dkl,spl:=by rw[a];exact h.pt.spl,ar:=by rw[a];exact h.pt.ar,tb:=by rw[a];exact h.pt.tb };have hJ:∀p n,aJ m1 p n=aJ k.m p n:=λp n=>by unfold aJ bQ;rw[a]
 have hT:bB k.m f=bB m1 f:=by unfold bB bQ;rw[a]
 have ht:∀g,aF m1 g=aF k.m g:=λg=>uB o g;have hH:=EN (f:=f) (e':=⟨2,s,false⟩) ((dA).2 (.inr (.inr ⟨rfl,by show(0:Int)<=s;omega,by show(s:Int)<60;omega,rfl⟩))) (IJ f s) (λ_ _ _ _=>rfl) (bB k.m f) ⟨m1,k.e⟩ hM (by rw[hT];exact GY m1 f) (by show f<m1.m.fs.length;rw[o];exact X) (by show _<=(aF m1 f).r;rw[ht];omega);obtain⟨r1,r2,I,r4,P,r6,W⟩:=hH;have hR:(bB k.m f).foldl (IJ f s) ⟨m1,k.e⟩=uT ⟨m1,k.e⟩ f s (bB k.m f):=rfl;rw[hR,<-hX]at r1 r2 I r4 P r6 W;refine⟨r1,?_⟩;generalize gI k f=k2 at *
 obtain⟨M,eM⟩:=k2;change wZ k.m M f;simp only at r1 r2 I r4 P r6 W;have hz:gV (aF m1 f) (-((bB k.m f).length:Int))=frZ:=by unfold gV;rw[if_pos (by rw[ht];omega)]
 rw[hz]at P;have S:∀g,aF M g=if g=f then frZ else aF k.m g:=by intro g;rw[uB P g,fP (by rw[o];exact X),ht]
 have d:∀g,g≠f->aF M g=aF k.m g:=λg K=>by rw[S,if_neg K]
 have t:M.m.fs.length=k.m.m.fs.length:=by rw[P,dK,o]
 have y:M.sl=k.m.sl.set s (L:Int):=I.sl.trans hh;have hG:M.sw=jR k.m.sw ((s:Int),(aF k.m f).p):=I.sw.trans ha;have hB:M.dk=k.m.dk:=I.dk.trans hm;have u:M.st=k.m.st:=I.st.trans hd;have b:M.ca=k.m.ca:=I.ca.trans hI;have z:fK k.m M:=(fK.of a).trans r4;have v:∀p n,aJ M p n=if(p,n)∈bB k.m f then⟨2,s,false⟩else aJ k.m p n:=λp n=>by rw[r6,hJ]
 have l:∀p n,(p,n)∈bB k.m f↔(aJ k.m p n).k=1/\(aJ k.m p n).n=f:=by
  intro p n;rw[uh];constructor
  ·rintro⟨_,_,O⟩;exact O
  intro O;have h4:=mh (m:=k.m) (p:=p) (n:=n) (by rw[O.1];decide);exact⟨h4.1,h4.2,O⟩
 have hn:mZ k.m.st M.st:=mZ.of u;have hx:∀g i,dh M g i=dh k.m g i:=λg i=>by unfold dh;rw[u,hB]
 have R:∀c∈k.m.ca,c.k.toNat≠f:=λc E e=>by have A:=(h.ca.fr c E).2.1;have Q:=(h.ca.file c E).1;rw[e]at A;omega
 have hA:vR M:=⟨by rw[b,u];exact h.ca.file,by rw[b,t];exact h.ca.lt,λc E=>by rw[b]at E;rw[d _ (R c E)];exact h.ca.fr c E,by rw[b];exact h.ca.srt⟩;have hF:∀g i,jk k.m.st g i->aN M g i=aN k.m g i:=by
  intro g i h6;rcases kG k.m g i with⟨e,D,N,hef,hei⟩|⟨D,U⟩
  ·subst hef;subst hei;rw[dC h.ca N,dC hA (by rw[b];exact N),d _ (R e N)]
  ·rw[eB U,eB (by rw[b];exact U),hx]
 have hN:∀p n,(aJ k.m p n).k=2->(aJ k.m p n).n≠s:=by intro p n hO D;have O:=mh (m:=k.m) (p:=p) (n:=n) (by rw[hO];decide);have h4:=(kY (m:=k.m) (kd:=2) (i:=s) (by decide)).2 ⟨p,n,O.1,O.2,hO,D⟩;have h5:=h.cs s hs;omega
 have hK:Aj k.m M:=by
  refine Gi h.pt z hn hF λp n g K => ?_;rw[v]
  by_cases C:(p,n)∈bB k.m f
  ·rw[if_pos C];have A:=(l p n).1 C;unfold wJ;rw[if_neg (show ¬(2:Int)=1 by decide),if_pos rfl,if_pos A.1,A.2,yx,hG];rw[zy h.pt.sw (by show(0:Int)<=s;omega) q,if_pos ⟨hC,rfl⟩,Kv h.pt.sw (by show(0:Int)<=s;omega) q,hC,decide_eq_true h0]
  rw[if_neg C];refine rX h.pt.st (h.pt.pg K).1 hn hF (λJ => ?_) (t:=(λJ => ?_))
  ·have T:(aJ k.m p n).n.toNat≠f:=by intro e;have h5:=((dA).1 (ku h.pt p n));exact C ((l p n).2 ⟨J,by omega⟩)
   have:=d _ T;exact⟨congrArg Fr.p this,congrArg Fr.f this⟩
  rw[hG,zy h.pt.sw (by show(0:Int)<=s;omega) q,if_neg (λe=>hN p n J e.2.symm),Kv h.pt.sw (by show(0:Int)<=s;omega) q];exact⟨rfl,rfl⟩
 refine⟨⟨r2,by rw[hB,u];exact h.trim,λp hp => ?_,hA,λp n J => ?_,λi V => ?_,λi V Y => ?_,λj hj => ?_⟩,⟨λe D => ?_,λe D hQ => ?_,λi V Z => ?_⟩,hK,t,?_,by rw[S,if_pos rfl],d,by rw[y,bV],λp n T=>by rw[v,if_neg (λC=>T ((l p n).1 C))],λe => ?_,.inl ⟨u,hB⟩⟩
 ·rw[z.lv]at hp;have A:=h.live p hp;rw[z.ar];refine⟨A.1,λn => ?_⟩;rw[v,if_neg]
  ·exact A.2 n
  intro C;have:=(l p n).1 C;rw[A.2 n]at this;exact absurd this.1 (by decide)
 ·rw[v]at J ⊢
  by_cases C:(p,n)∈bB k.m f
  ·rw[if_pos C];have A:=(l p n).1 C;obtain⟨g,K,w⟩:=h.en p n (by rw[A.1];decide);refine⟨g,by unfold eP;rw[z.ar];exact K,λ_=>⟨by rw[y,bV];show(s:Int)<_;omega,?_⟩,λ(e:(2:Int)=1)=>absurd e (by decide),λ(e:(2:Int)=1)=>absurd e (by decide)⟩;have Q:=w.fr A.1;rw[A.2,bu]at Q;cases hsh:g.sh with
   | false=>rfl
   | true=>have:=Q.2.1 hsh;omega
  rw[if_neg C]at J ⊢;obtain⟨g,K,w⟩:=h.en p n J;refine⟨g,by unfold eP;rw[z.ar];exact K,by rw[y,bV];exact w.sw,by rw[t];exact w.lt,λhP => ?_⟩;have T:(aJ k.m p n).n.toNat≠f:=by intro e;have h5:=((dA).1 (ku h.pt p n));exact C ((l p n).2 ⟨hP,by omega⟩)
  rw[d _ T];exact w.fr hP
 ·have G:=W 1 i;rw[if_neg (λe=>by cases e.1:¬((1:Int)=(⟨2,s,false⟩:En).k/\(i:Int)=(⟨2,s,false⟩:En).n))]at G;have a2:bR m1 1 i=bR k.m 1 i:=by unfold bR;rw[a]
  have a3:vY M i=vY k.m i:=by unfold vY;rw[b]
  by_cases e:i=f
  ·subst e;rw[if_pos ⟨rfl,rfl⟩]at G;rw[wF]at G;rw[S,if_pos rfl,a3,hS];show(0:Int)=_;omega
  rw[if_neg (λh'=>e (by have:=h'.2;omega))]at G;have a5:=h.cf i (by rw[<-t];exact V);rw[d i e,a3];omega
 ·by_cases e:i=f
  ·subst e;rw[S,if_pos rfl]at Y;exact absurd Y (by decide)
  rw[d i e]at Y;rw[b];exact h.fc i (by rw[<-t];exact V) Y
 ·have G:=W 2 j;rw[if_neg (λe=>by cases e.1)]at G;have a2:bR m1 2 j=bR k.m 2 j:=by unfold bR;rw[a]
  have hW : j<k.m.sl.length:=by rw[y,bV]at hj;exact hj
  have a3:iT M j=if j=s then(L:Int)else iT k.m j:=by have:=Ep (m:=k.m) (x:=(L:Int)) hs j;rw[<-this];unfold iT setSl;rw[y]
  have a4:=h.cs j hW;rw[a3]
  by_cases e:j=s
  ·subst e;rw[if_pos ⟨rfl,rfl⟩]at G;rw[if_pos rfl];omega
  rw[if_neg (λh'=>e (by have Q:(j:Int)=(s:Int):=h'.2;omega))]at G;rw[if_neg e];omega
 ·rw[b]at D;rw[d _ (R e D),u];exact E.tail e D
 ·rw[b]at D;rw[d _ (R e D)]at hQ ⊢;rw[hx];exact E.clean e D hQ
 ·by_cases e:i=f
  ·rw[S,if_pos e]at Z;cases Z
  rw[d i e]at Z ⊢;exact E.anon i (by rw[<-t];exact V) Z
 ·rw[P];show m1.m.hand=_;rw[o]
 rw[b];constructor
 ·intro A;exact⟨A,λQ=>R e A (by rw[Q];exact bu f)⟩
 ·exactλA=>A.1
theorem WS{k:Kp}(h:Rt k.m)(t:Co k.m)(o:f<k.m.m.fs.length)(u:(aF k.m f).r≠0) :
  if ky k.m f=true then(gI k f).e=k.e/\wZ k.m (gI k f).m f else gI k f=k:=by
 unfold ky
 by_cases i:0<=(aF k.m f).f
 ·rw[if_pos i]
  by_cases d:jQ k.m f=true
  ·rw[if_pos d];exact Pp h t o i d
  rw[if_neg d];unfold gI;simp only;rw[if_pos i,if_pos (by simpa using d)]
 rw[if_neg i]
 by_cases d:iI k.m.sl (bB k.m f).length=0
 ·rw[if_pos (by simpa using d)];exact Pj h t o (by omega) u d
 rw[if_neg (by simpa using d)];unfold gI;simp only;rw[if_neg i,if_pos d]
def zP(x y:Fr):Prop:=y.p=x.p/\y.r=x.r/\y.d=x.d/\y.f=x.f/\y.i=x.i
theorem zP.refl(x:Fr):zP x x:=⟨rfl,rfl,rfl,rfl,rfl⟩
theorem zP.trans{x y:Fr}(h:zP x y)(k:zP y z):zP x z:=⟨k.1.trans h.1,k.2.1.trans h.2.1,k.2.2.1.trans h.2.2.1,k.2.2.2.1.trans h.2.2.2.1,k.2.2.2.2.trans h.2.2.2.2⟩
theorem Vr(h:Rt m)(L:Co m)(y:Rest m m')(C:m'.sp=m.sp)(Q:bT m'.m=0)(D:m'.m.fs.length=m.m.fs.length)(A:∀g,zP (aF m g) (aF m' g)):Rt m'/\Co m'/\Aj m m':=by
 have e:∀p n,aJ m' p n=aJ m p n:=λp n=>by unfold aJ bQ;rw[C]
 have u:∀p n,eP m' p n=eP m p n:=λp n=>by unfold eP bQ;rw[C]
 have w:∀i,vY m' i=vY m i:=λi=>by unfold vY;rw[y.ca]
 have q:∀kd i,bR m' kd i=bR m kd i:=λkd i=>by unfold bR;rw[C]
 have j:∀f i,dh m' f i=dh m f i:=λf i=>by unfold dh;rw[y.st,y.dk]
 have t:Pt m':={ fr:=Q,sl:=by rw[y.sl];exact h.pt.sl,sw:=by rw[y.sw];exact h.pt.sw,dk:=by rw[y.dk];exact h.pt.dk,st:=by rw[y.st];exact h.pt.st,swl:=by rw[y.sw,y.sl];exact h.pt.swl,dkl:=by rw[y.dk,y.st];exact h.pt.dkl,spl:=by rw[C];exact h.pt.spl,ar:=by rw[C];exact h.pt.ar,tb:=by rw[C];exact h.pt.tb };have o:vR m':=⟨by rw[y.ca,y.st];exact h.ca.file,by rw[y.ca,D];exact h.ca.lt,λc a=>by rw[y.ca]at a;have E:=A c.k.toNat;rw[E.2.1,E.2.2.2.1,E.2.2.2.2];exact h.ca.fr c a,by rw[y.ca];exact h.ca.srt⟩;have l:∀f i,aN m' f i=aN m f i:=by
  intro f i;have D:nV m' f i=nV m f i:=by unfold nV;rw[y.ca]
  rw[jf,jf,D];cases nV m f i with
  | none=>exact j f i
  | some c=>exact(A c.k.toNat).1
 have b:mZ m.st m'.st:=mZ.of y.st;refine⟨⟨t,by rw[y.dk,y.st];exact h.trim,λp J => ?_,o,λp n O => ?_,λi G => ?_,λi G P => ?_,λs r => ?_⟩,⟨λc a => ?_,λc a I => ?_,λi G I => ?_⟩,?_⟩
 ·have:bQ m' p=bQ m p:=by unfold bQ;rw[C]
  rw[this]at J ⊢;exact⟨(h.live p J).1,λn=>by rw[e];exact(h.live p J).2 n⟩
 ·rw[e]at O ⊢;obtain⟨g,K,d⟩:=h.en p n O;refine⟨g,by rw[u];exact K,by rw[y.sl];exact d.sw,by rw[D];exact d.lt,λv => ?_⟩;have E:=d.fr v;have N:=A (aJ m p n).n.toNat;unfold PM at E ⊢;rw[N.2.1,N.2.2.2.1,N.2.2.2.2];exact E
 ·rw[(A i).2.1,w,q];exact h.cf i (by rw[<-D];exact G)
 ·rw[(A i).2.2.2.1]at P;rw[y.ca];exact h.fc i (by rw[<-D];exact G) P
 ·rw[q];have:iT m' s=iT m s:=by unfold iT;rw[y.sl]
  rw[this];exact h.cs s (by rw[<-y.sl];exact r)
 ·rw[y.ca]at a;rw[(A c.k.toNat).1,y.st];exact L.tail c a
 ·rw[y.ca]at a;rw[(A c.k.toNat).2.2.1]at I;rw[(A c.k.toNat).1,j];exact L.clean c a I
 ·rw[(A i).2.2.1]at I;rw[(A i).2.2.2.1];exact L.anon i (by rw[<-D];exact G) I
 refine Gi h.pt (fK.of C) b (λf i _=>l f i) λp n g K => ?_;rw[e];exact rX h.pt.st (h.pt.pg K).1 b (λf i _=>l f i) (λ_=>⟨(A _).1,(A _).2.2.2.1⟩) (t:=(λ_=>by rw[y.sw];exact⟨rfl,rfl⟩))
def oJ(m:Ma)(x:Mem):Ma:={ m with m:=x }
theorem Js(t:bT m.m=0)(C:0<=iR m.m):(iR m.m).toNat<m.m.fs.length/\(aF m (iR m.m).toNat).r≠0/\bT (gy m.m)=0/\(gy m.m).fs.length=m.m.fs.length/\∀g,zP (aF m g) (aF (oJ m (gy m.m)) g):=by
 have y:fO m.m.fs≠m.m.fs.length:=λe=>by unfold iR at C;rw[if_neg (by rw[t];simp),if_pos e]at C;omega
 obtain⟨h,b,f⟩:=UT m.m t y;have I:gy m.m=⟨pu m.m (iQ m.m),(jH m.m (iQ m.m+1):Nat)⟩:=by unfold gy;rw[if_neg (by rw[t];simp),if_neg y]
 have J:iR m.m=(jH m.m (iQ m.m):Nat):=by unfold iR;rw[if_neg (by rw[t];simp),if_neg y]
 have a:0<m.m.fs.length:=by
  rcases zq m.m.fs.length with D|D
  ·exact absurd (by have:=Fa m.m.fs;omega) y
  ·exact D
 have c:=qZ a (iQ m.m);have d:=qZ a (iQ m.m+1);obtain⟨w1,E,O,N⟩:=(eF _).1 t;rw[J,I,bu];refine⟨c,?_,(eF _).2 ⟨by simp only;rw[jw];exact w1,λx G => ?_,by simp only;omega,by simp only;rw[jw];omega⟩,jw _ _,λg => ?_⟩
 ·unfold yG at b;simp only[dJ,decide_eq_true_eq]at b;have K:(aF m (jH m.m (iQ m.m))).r=(m.m.fs.getD (jH m.m (iQ m.m)) fr0).r:=rfl;rw[K];omega
 ·obtain⟨i,u,rfl⟩:=jK.1 G;simp only at u ⊢;rw[jw]at u;rw[xy m.m _ i u];have o:=E m.m.fs[i] (fA u);split
  ·rw[dV]at o ⊢;exact⟨o.1,λe=>⟨rfl,(o.2.1 e).2.1,(o.2.1 e).2.2.1,(o.2.1 e).2.2.2⟩,o.2.2⟩
  ·exact o
 rcases gB g m.m.fs.length with k|k
 ·have A:aF (oJ m ⟨pu m.m (iQ m.m),(jH m.m (iQ m.m+1):Nat)⟩) g=(pu m.m (iQ m.m))[g]'(by rw[jw];exact k):=by show(pu m.m (iQ m.m)).getD g fr0=_;rw[bA,aM (by rw[jw];exact k)];rfl
  have L:aF m g=m.m.fs[g]:=by have:=vQ k;rw[aM k]at this;exact(aU this).symm
  rw[A,L,xy m.m _ g k];split
  ·exact⟨rfl,rfl,rfl,rfl,rfl⟩
  ·exact .refl _
 have A:aF (oJ m ⟨pu m.m (iQ m.m),(jH m.m (iQ m.m+1):Nat)⟩) g=fr0:=JW (m:=oJ m ⟨pu m.m (iQ m.m),(jH m.m (iQ m.m+1):Nat)⟩) (by show(pu m.m (iQ m.m)).length<=g;rw[jw];exact k);rw[A,JW k];exact .refl _
structure zI (m m' : Ma) (o:Option Nat):Prop where
 rt:Rt m'
 co:Co m'
 vis:Aj m m'
 len:m'.m.fs.length=m.m.fs.length
 sll:m'.sl.length=m.sl.length
 fr:∀g,o≠some g->zP (aF m g) (aF m' g)
 free:∀f,o=some f->f<m.m.fs.length/\aF m' f=frZ/\(aF m f).r≠0
 ents:∀p n,((aJ m p n).k=1->o≠some (aJ m p n).n.toNat)->aJ m' p n=aJ m p n
 cas:∀c,c∈m'.ca↔c∈m.ca/\o≠some c.k.toNat
 inv:Inv m m'
theorem zI.refl(h:Rt m)(d:Co m):zI m m none:=⟨h,d,.refl m,rfl,rfl,λ_ _ => .refl _,(λ_ e=>by cases e),λ_ _ _=>rfl,λc=>⟨λh=>⟨h,by simp⟩,λh=>h.1⟩,.refl m⟩
theorem reclaimN_ok:∀(t:Nat) (k:Kp),Rt k.m->Co k.m->(reclaimN t k).1.e=k.e/\∃o,zI k.m (reclaimN t k).1.m o/\((reclaimN t k).2=true↔o≠none)
 | 0,k,h,hc=>⟨rfl,none,zI.refl h hc,by simp[reclaimN]⟩
 | t+1,k,h,hc=>by
  have P:=h.pt.fr;have E:iD k.e (bT k.m.m)=k.e:=by rw[P];unfold iD;split<;>simp_all
  by_cases V:iR k.m.m<0
  ·have R:reclaimN (t+1) k=(k,false):=by unfold reclaimN;rw[if_pos (.inr V),E]
   rw[R];exact⟨rfl,none,zI.refl h hc,by simp⟩
  obtain⟨U,T,Y,I,C⟩:=Js P (by omega:0<=iR k.m.m);have R:reclaimN (t+1) k=if ky (oJ k.m (gy k.m.m)) (iR k.m.m).toNat=true then(gI ⟨oJ k.m (gy k.m.m),k.e⟩ (iR k.m.m).toNat,true)else reclaimN t (gI ⟨oJ k.m (gy k.m.m),k.e⟩ (iR k.m.m).toNat):=by
   conv=>lhs;unfold reclaimN
   rw[if_neg (by rintro(e | e);exact e P;exact V e)];rfl
  generalize hF:(iR k.m.m).toNat=F at *
  obtain⟨u,A,J⟩:=Vr (m:=k.m) (m':=oJ k.m (gy k.m.m)) h hc ⟨rfl,rfl,rfl,rfl,rfl⟩ rfl Y I C;have K:Inv k.m (oJ k.m (gy k.m.m)):=WJ.inv (.of rfl rfl λc S _=>⟨S,(C _).2.2.1,(C _).1⟩) h hc u A;have N:F<(oJ k.m (gy k.m.m)).m.fs.length:=by show F<(gy k.m.m).fs.length;rw[I];exact U
  have L:(aF (oJ k.m (gy k.m.m)) F).r≠0:=by rw[(C F).2.1];exact T
  have y:=WS (k:=⟨oJ k.m (gy k.m.m),k.e⟩) u A N L;rw[R]
  by_cases O:ky (oJ k.m (gy k.m.m)) F=true
  ·rw[if_pos O]at y;obtain⟨he,i⟩:=y;rw[if_pos O];refine⟨he,some F,⟨i.rt,i.co,J.trans i.vis,i.len.trans I,i.sll,λg Q => ?_,λf e => ?_,λp n D => ?_,λc => ?_,K.trans (i.inv u A N)⟩,by simp⟩
   ·have D:g≠F:=λe=>Q (by rw[e]);exact(C g).trans (by rw[i.oth g D];exact .refl _)
   ·cases e;exact⟨U,i.free,T⟩
   ·exact i.ents p n (λe=>by have h2:((aJ k.m p n).n:Int)=F:=e.2;exact D e.1 (by rw[h2,bu]))
   refine(i.cas c).trans ⟨λG=>⟨G.1,λe=>G.2 ?_⟩,λG=>⟨G.1,λe=>G.2 (by rw[e,bu])⟩⟩;have:=(h.ca.lt c G.1).1;simp only[fM]at e;omega
  rw[if_neg O]at y;rw[if_neg O,y];obtain⟨i1,o,d,Z⟩:=reclaimN_ok t ⟨oJ k.m (gy k.m.m),k.e⟩ u A;refine⟨i1,o,⟨d.rt,d.co,J.trans d.vis,d.len.trans I,d.sll,λg Q=>(C g).trans (d.fr g Q),λf e => ?_,d.ents,d.cas,K.trans d.inv⟩,Z⟩;obtain⟨X,a2,W⟩:=d.free f e;refine⟨?_,a2,?_⟩
  ·have X:f<(oJ k.m (gy k.m.m)).m.fs.length:=X;have:(oJ k.m (gy k.m.m)).m.fs.length=k.m.m.fs.length:=I;omega
  ·rw[(C f).2.1]at W;exact W
theorem wN{k:Kp}(h:Rt k.m)(d:Co k.m):(cZ k).1.e=k.e/\∃o,zI k.m (cZ k).1.m o/\((cZ k).2=true↔o≠none):=reclaimN_ok _ k h d
theorem AX{k:Kp}{p:Page}{f i:Int}(u:bT k.m.m=0)(t:dn (bL p f i)=0) :
  (∃g:Nat,g<k.m.m.fs.length/\(aF k.m g).r=0/\lT k p f i=(Kp.mk (setFr k.m g (bL p f i)) k.e,(g:Int)))\/(lT k p f i=(k,-1)/\fO k.m.m.fs=0):=by
 by_cases d:iy k.m.m p f i=0
 ·obtain⟨_,_,g,h,y,C,A⟩:=XE d;refine .inl ⟨g,h,?_,?_⟩
  ·have:=vQ h;rw[aM h]at this;rw[<-aU this];exact y
  unfold lT;rw[if_neg (by rw[d];simp),C,A];rfl
 refine .inr ⟨by unfold lT;rw[if_pos d],?_⟩;refine RD (p:=p) (file:=f) (index:=i) ?_;unfold iy at d ⊢;rw[if_neg (by rw[u];simp),if_neg (by rw[t];simp)]at d ⊢
 by_cases o:xP k.m.m.fs=none
 ·rw[if_pos o]
 ·rw[if_neg o]at d;exact absurd rfl d
theorem wG(h:fO m.m.fs=0)(k:g<m.m.fs.length):(aF m g).r≠0:=by
 intro i;unfold fO at h;have:=List.length_eq_zero_iff.1 h;have d:aF m g∈m.m.fs.filter (λf=>decide (f.r=0)):=uH.2 ⟨QK k,by simpa using i⟩;rw[this]at d;cases d
theorem RH(h:fO m.m.fs≠0):∃g,g<m.m.fs.length/\(aF m g).r=0:=by
 unfold fO at h;obtain⟨x,k⟩:=List.exists_mem_of_length_pos (Nat.pos_of_ne_zero h);obtain⟨t,o⟩:=uH.1 k;obtain⟨i,d,rfl⟩:=jK.1 t;refine⟨i,d,?_⟩;have:=vQ (m:=m) d;rw[aM d]at this;rw[<-aU this];simpa using o
theorem Av{k:Kp}{p:Page}{f i:Int}(h:Rt k.m)(J:Co k.m)(G:dn (bL p f i)=0) :
  (∃(g:Nat) (m1:Ma) (o:Option Nat),zI k.m m1 o/\g<m1.m.fs.length/\aF m1 g=frZ/\fC k p f i=(Kp.mk (setFr m1 g (bL p f i)) k.e,(g:Int))) \/
  (∃m1,zI k.m m1 none/\fC k p f i=(Kp.mk m1 k.e,-1)/\fO k.m.m.fs=0):=by
 have E:∀(m:Ma) (g:Nat),Pt m->g<m.m.fs.length->(aF m g).r=0->aF m g=frZ:=λm g N P L=>Rc (N.frE P) L;unfold fC
 by_cases C:fO k.m.m.fs=0
 ·rw[if_pos C];obtain⟨I,o,y,K⟩:=wN h J
  by_cases d:(cZ k).2=true
  ·rw[if_pos d];obtain⟨u,a⟩:∃u,o=some u:=by
    cases o with
    | none=>exact absurd rfl (K.1 d)
    | some u=>exact⟨u,rfl⟩
   obtain⟨R,Q,_⟩:=y.free u a;rcases AX (k:=(cZ k).1) (p:=p) (f:=f) (i:=i) y.rt.pt.fr G with⟨g,A,t,D⟩|⟨_,t⟩
   ·exact .inl ⟨g,(cZ k).1.m,o,y,A,E _ g y.rt.pt A t,by rw[D,I]⟩
   ·exact absurd (by rw[Q];rfl) (wG t (g:=u) (by rw[y.len];exact R))
  rw[if_neg d];have O:o=none:=by
   cases o with
   | none=>rfl
   | some u=>exact absurd (K.2 (by simp)) d
  subst O;refine .inr ⟨(cZ k).1.m,y,?_,C⟩;rw[<-I]
 rw[if_neg C];rcases AX (k:=k) (p:=p) (f:=f) (i:=i) h.pt.fr G with⟨g,A,t,D⟩|⟨_,t⟩
 ·exact .inl ⟨g,k.m,none,zI.refl h J,A,E _ g h.pt A t,D⟩
 ·exact absurd t C
theorem Vx{x:Fr}(h:dn x=0)(d:x.r≠0):dn (lN x)=0:=by
 rw[dV]at h ⊢;exact⟨h.1,λe=>absurd e d,h.2.2⟩
theorem Qs(h:Rt m)(k:Co m)(d:g<m.m.fs.length)(i:(aF m g).r≠0):Rt (setFr m g (lN (aF m g)))/\Co (setFr m g (lN (aF m g)))/\Aj m (setFr m g (lN (aF m g))):=
 Vr h k ⟨rfl,rfl,rfl,rfl,rfl⟩ rfl (Kz h.pt.fr (Vx (h.pt.frE d) i)) dK λx=>by
  rw[fP d]
  by_cases e:x=g
  ·rw[if_pos e,e];exact⟨rfl,rfl,rfl,rfl,rfl⟩
  ·rw[if_neg e];exact .refl _
theorem Yv(p:Page)(n:Int):aO (aO p n) n=aO p n:=by
 apply EA;intro i d;simp only[aO,mH];split<;>rfl
theorem Lp(n:Int):aO zPg n=zPg:=by
 apply EA;intro i k;simp only[aO,mH];have d:zPg[i]=0:=by
  match i,k with
  | 0,_=>rfl
  | 1,_=>rfl
  | 2,_=>rfl
  | 3,_=>rfl
  | 4,_=>rfl
  | 5,_=>rfl
  | 6,_=>rfl
  | 7,_=>rfl
  | n+8,h=>omega
 split<;>rw[d]
theorem Je(m:Ma)(f i:Int):aO (dh m f i) ((az m.st f).n-i*8)=dh m f i:=by
 unfold dh;split
 ·exact Yv _ _
 ·exact Lp _
theorem Gu{f i k:Int}:∀ {l:List Cc},l.Pairwise EG->(∀c∈l,¬(c.f=f/\c.i=i))->(l.insertIdx (vZ l f i) ⟨f,i,k⟩).Pairwise EG
 | [],_,_=>by simp[vZ]
 | c::l,hs,hno=>by
  obtain⟨y,C⟩:=vJ.1 hs;have A:=hno c jN
  by_cases u:Ie f i c=true
  ·have:vZ (c::l) f i=0:=by unfold vZ;rw[BZ,if_pos u];rfl
   rw[this,List.insertIdx_zero];have t:EG ⟨f,i,k⟩ c:=by have:=Bw.1 u;unfold EG;simp only;omega
   refine vJ.2 ⟨λd o => ?_,hs⟩;rcases fq.1 o with rfl|o
   ·exact t
   have:=y d o;unfold EG at this t ⊢;omega
  have:vZ (c::l) f i=vZ l f i+1:=by unfold vZ;rw[BZ,if_neg u];cases l.findIdx? (Ie f i)<;>rfl
  rw[this,JJ];refine vJ.2 ⟨λd o => ?_,Gu C λd o=>hno d (jh _ o)⟩;rcases(Es (Hl l f i)).1 o with rfl|o
  ·have:¬(f<c.f\/c.f=f/\i<=c.i):=λh=>u (Bw.2 h);unfold EG;simp only;omega
  ·exact y d o
theorem zN{α:Type}(q:α->Bool)(x:α):∀(l:List α) (j:Nat),j<=l.length->(l.insertIdx j x).countP q=l.countP q+vP (q x)
 | l,0,_=>by rw[List.insertIdx_zero,qN];rfl
 | [],j+1,h=>by simp at h
 | a::l,j+1,h=>by rw[JJ,qN,qN,zN q x l j (by simpa using h)];omega
def sN(m1:Ma)(g:Nat)(p:Page)(f i:Int):Ma:={ setFr m1 g (bL p f i)with ca:=m1.ca.insertIdx (vZ m1.ca f i) ⟨f,i,g⟩ }
theorem Yi{f i:Int}(h:Rt m1)(Q:Co m1)(T:g<m1.m.fs.length)(S:aF m1 g=frZ)(E:jk m1.st f i)(L:∀c∈m1.ca,¬(c.f=f/\c.i=i)) :
  Rt (sN m1 g (dh m1 f i) f i)/\Co (sN m1 g (dh m1 f i) f i)/\Aj m1 (sN m1 g (dh m1 f i) f i):=by
 have v:=Ag h.pt.st E;have hb:dn (bL (dh m1 f i) f i)=0:=by rw[dV];have R:=E.1;have h2:=E.2;exact⟨⟨by show(0:Int)<=1;decide,by show(1:Int)<=1000;decide,by show -1<=f;omega,v.1,h2.1,v.2.1⟩,λ(e:(1:Int)=0)=>absurd e (by decide),λ(e:f<0)=>by omega⟩
 have j:∀x,aF (sN m1 g (dh m1 f i) f i) x=if x=g then bL (dh m1 f i) f i else aF m1 x:=λx=>fP T x;have b:∀x,x≠g->aF (sN m1 g (dh m1 f i) f i) x=aF m1 x:=λx I=>by rw[j,if_neg I]
 have d:(sN m1 g (dh m1 f i) f i).m.fs.length=m1.m.fs.length:=dK;have a:∀c,c∈(sN m1 g (dh m1 f i) f i).ca↔c=⟨f,i,g⟩\/c∈m1.ca:=λc=>Es (Hl _ _ _);have u:∀c∈m1.ca,c.k.toNat≠g:=λc A e=>by have:=(h.ca.fr c A).1;rw[e,S]at this;exact absurd this (by decide)
 have l:∀D C,dh (sN m1 g (dh m1 f i) f i) D C = dh m1 D C:=λ_ _=>rfl;have q:bR m1 1 g=0/\vY m1 g=0:=by have:=h.cf g T;rw[S]at this;have e:frZ.r=0:=rfl;omega
 have Z:Pt (sN m1 g (dh m1 f i) f i):={ fr:=Kz h.pt.fr hb,sl:=h.pt.sl,sw:=h.pt.sw,dk:=h.pt.dk,st:=h.pt.st,swl:=h.pt.swl,dkl:=h.pt.dkl,spl:=h.pt.spl,ar:=h.pt.ar,tb:=h.pt.tb };have o:vR (sN m1 g (dh m1 f i) f i):=by
  refine⟨λc A => ?_,λc A => ?_,λc A => ?_,Gu h.ca.srt L⟩
  ·rcases(a c).1 A with rfl|A
   ·exact E
   ·exact h.ca.file c A
  ·rw[d];rcases(a c).1 A with rfl|A
   ·show 0<=(g:Int)/\(g:Int)<_;omega
   ·exact h.ca.lt c A
  rcases(a c).1 A with rfl|A
  ·rw[j,if_pos (bu g)];exact⟨by show(1:Int)<=1;decide,rfl,rfl⟩
  ·rw[b _ (u c A)];exact h.ca.fr c A
 have z:∀D C,aN (sN m1 g (dh m1 f i) f i) D C = aN m1 D C:=by
  intro D C
  by_cases e:D = f/\C = i
  ·rw[e.1,e.2];have R:=dC o ((a ⟨f,i,g⟩).2 (.inl rfl));rw[show(⟨f,i,(g:Int)⟩:Cc).f=f from rfl,show(⟨f,i,(g:Int)⟩:Cc).i=i from rfl]at R;rw[R,j,if_pos (bu g),eB L];rfl
  rcases kG m1 D C with⟨c,X,A,P,O⟩|⟨X,G⟩
  ·subst P;subst O;rw[dC h.ca A,dC o ((a c).2 (.inr A)),b _ (u c A)]
  rw[eB G,eB (λc A => ?_),l];rcases(a c).1 A with rfl|A
  ·exactλe'=>e ⟨e'.1.symm,e'.2.symm⟩
  ·exact G c A
 have w:∀p n,aJ (sN m1 g (dh m1 f i) f i) p n=aJ m1 p n:=λ_ _=>rfl;have t:∀p n,(aJ m1 p n).k=1->(aJ m1 p n).n.toNat≠g:=by intro p n J e;have V:=mh (m:=m1) (p:=p) (n:=n) (by rw[J];decide);have h5:=(dA).1 (ku h.pt p n);have h4:=(kY (m:=m1) (kd:=1) (i:=g) (by decide)).2 ⟨p,n,V.1,V.2,J,by omega⟩;omega
 refine⟨⟨Z,h.trim,h.live,o,λp n J => ?_,λx I => ?_,λx I W => ?_,h.cs⟩,⟨λc A => ?_,λc A K => ?_,λx I K => ?_⟩,?_⟩
 ·rw[w]at J ⊢;obtain⟨y,N,s⟩:=h.en p n J;exact⟨y,N,s.sw,by rw[d];exact s.lt,λU=>by rw[b _ (t p n U)];exact s.fr U⟩
 ·have a1:vY (sN m1 g (dh m1 f i) f i) x=vY m1 x+vP (decide ((g:Int)=x)):=zN _ _ _ _ (Hl _ _ _);have a2:bR (sN m1 g (dh m1 f i) f i) 1 x=bR m1 1 x:=rfl;rw[j,a1,a2]
  by_cases e:x=g
  ·subst e;rw[if_pos rfl,q.1,q.2];have:vP (decide ((x:Int)=(x:Int)))=1:=by simp[vP]
   rw[this];rfl
  rw[if_neg e];have:vP (decide ((g:Int)=(x:Int)))=0:=by unfold vP;rw[if_neg];simp only[decide_eq_true_eq];omega
  rw[this];exact h.cf x (by rw[<-d];exact I)
 ·by_cases e:x=g
  ·exact⟨⟨f,i,g⟩,(a _).2 (.inl rfl),by rw[e]⟩
  rw[b x e]at W;obtain⟨c,A,Y⟩:=h.fc x (by rw[<-d];exact I) W;exact⟨c,(a c).2 (.inr A),Y⟩
 ·rcases(a c).1 A with rfl|A
  ·rw[j,if_pos (bu g)];exact Je m1 f i
  ·rw[b _ (u c A)];exact Q.tail c A
 ·rcases(a c).1 A with rfl|A
  ·rw[j,if_pos (bu g),l];rfl
  rw[b _ (u c A)]at K ⊢;rw[l];exact Q.clean c A K
 ·by_cases e:x=g
  ·rw[j,if_pos e]at K;cases K
  ·rw[b x e]at K ⊢; exact Q.anon x (by rw[<-d];exact I) K
 refine Gi h.pt (fK.of rfl) (mZ.refl _) (λD C _=>z D C) λp n y N => ?_;rw[w];refine rX h.pt.st (h.pt.pg N).1 (mZ.refl _) (λD C _=>z D C) (λJ => ?_);have:=b _ (t p n J);exact⟨congrArg Fr.p this,congrArg Fr.f this⟩
structure Lb (m m' : Ma) (f i r:Int):Prop where
 rt:Rt m'
 co:Co m'
 vis:Aj m m'
 len:m'.m.fs.length=m.m.fs.length
 sll:m'.sl.length=m.sl.length
 ents:∀p n,(aJ m p n).k≠1->aJ m' p n=aJ m p n
 no:r<0->fO m.m.fs=0
 yes:0<=r->⟨f,i,r⟩∈m'.ca
 inv:Inv m m'
theorem nC{k:Kp}{f i:Int}(h:Rt k.m)(L:Co k.m)(C:jk k.m.st f i):(cO k f i).1.e=k.e/\Lb k.m (cO k f i).1.m f i (cO k f i).2:=by
 unfold cO
 by_cases D:KW k.m.ca f i=true
 ·rw[if_pos D];obtain⟨c,r,V,W⟩:=Hw D;have a:=dB r;have U:oV k.m (vZ k.m.ca f i)=c:=by unfold oV;rw[bA,r];rfl
  have hj:=h.ca.lt c a;have s:=h.ca.fr c a;obtain⟨S,R,a3⟩:=Qs h L (g:=c.k.toNat) (by omega) (by omega);simp only[U];have y:c.k.toNat<k.m.m.fs.length:=by omega
  refine⟨trivial,S,R,a3,dK,rfl,λ_ _ _=>rfl,λG=>by omega,λ_ => ?_,WJ.inv (.of rfl rfl λd E _=>⟨E,?_⟩) h L S R⟩
  rotate_left
  ·rw[fP y]
   by_cases e:d.k.toNat=c.k.toNat
   ·rw[if_pos e,e];exact⟨rfl,rfl⟩
   ·rw[if_neg e];exact⟨rfl,rfl⟩
  have:(⟨f,i,c.k⟩:Cc)=c:=by rw[<-V,<-W]
  rw[this];exact a
 rw[if_neg D];have t:∀c∈k.m.ca,¬(c.f=f/\c.i=i):=λc a e=>D ((KM h.ca.srt).2 ⟨c,a,e⟩);have X:Fz k f i=k.e:=by
  unfold Fz
  by_cases N:0<=aZ k.m.st f i
  ·rw[if_pos N];have:aI k.m.dk (aZ k.m.st f i)=0:=fH.2 ⟨h.pt.dk,N,by rw[h.pt.dkl];exact(block_lt h.pt.st C).2⟩;rw[this];unfold iD;split<;>simp_all
  ·rw[if_neg N]
 rw[X];have q:=Ag h.pt.st C;have w:dn (bL (dh k.m f i) f i)=0:=by rw[dV];have h1:=C.1;have Y:=C.2;exact⟨⟨by show(0:Int)<=1;decide,by show(1:Int)<=1000;decide,by show -1<=f;omega,q.1,Y.1,q.2.1⟩,λ(e:(1:Int)=0)=>absurd e (by decide),λ(e:f<0)=>by omega⟩
 rcases Av (k:=⟨k.m,k.e⟩) (p:=dh k.m f i) (f:=f) (i:=i) h L w with⟨g,m1,o,A,O,T,I⟩|⟨m1,A,I,G⟩
 ·simp only[I];rw[if_neg (by omega)];have l:∀c∈m1.ca,¬(c.f=f/\c.i=i):=λc a=>t c ((A.cas c).1 a).1;have v:jk m1.st f i:=C.same A.vis.files A.vis.lenb;have E:dh k.m f i=dh m1 f i:=by rw[<-eB t,<-eB l];exact(A.vis.con f i C).symm
  rw[E];obtain⟨Q,P,Z⟩:=Yi A.rt A.co O T v l;refine⟨rfl,Q,P,A.vis.trans Z,dK.trans A.len,A.sll,λp n J => ?_,λG=>by simp only at G;omega,λ_=>(Es (Hl _ _ _)).2 (.inl rfl),A.inv.trans (WJ.inv (.of rfl rfl λd E z => ?_) A.rt A.co Q P)⟩
  rotate_left
  ·have s:∀x,aF (sN m1 g (dh m1 f i) f i) x=if x=g then bL (dh m1 f i) f i else aF m1 x:=λx=>fP O x;have j : (aF (sN m1 g (dh m1 f i) f i) d.k.toNat).d=true:=z;rw[s]at j;have u:d.k.toNat≠g:=λe=>by rw[if_pos e]at j; cases j
   have b:=s d.k.toNat;rw[if_neg u]at b;rcases(Es (Hl _ _ _)).1 E with rfl|K
   ·exact absurd (bu g) u
   ·exact⟨K,congrArg Fr.d b,congrArg Fr.p b⟩
  exact A.ents p n (λe=>absurd e J)
 simp only[I];rw[if_pos (by decide)];exact⟨rfl,A.rt,A.co,A.vis,A.len,A.sll,λp n J=>A.ents p n (λe=>absurd e J),λ_=>G,λ(e:(0:Int)<=-1)=>absurd e (by decide),A.inv⟩
theorem Td(k:Kp)(p:Nat)(n:Int)(x:En):(dD k p n x).m.sp.length=k.m.sp.length:=by
 unfold dD;split
 ·exact um
 ·rfl
theorem TH(k:Kp)(p:Nat)(n:Int)(x:En):(dD k p n x).m.ca=k.m.ca:=by unfold dD;split<;>rfl
theorem RL(k:Kp)(p:Nat)(n:Int)(x:En):(dD k p n x).m.m=k.m.m:=by unfold dD;split<;>rfl
theorem IX(k:Kp)(f n:Int):(dU k f n).m.sp=k.m.sp:=by unfold dU;split<;>rfl
theorem Jw(k:Kp)(f n:Int):(dU k f n).m.ca=k.m.ca:=by unfold dU;split<;>rfl
theorem Uf(k:Kp)(f n:Int):(dU k f n).m.m.fs.length=k.m.m.fs.length:=by
 unfold dU;split
 ·rename_i h;show(nK k.m.m f n).fs.length=_;unfold nK;rw[if_pos h];exact bV
 ·rfl
theorem SY(k:Kp)(f n:Int):(oI k f n).m.sp=k.m.sp:=by unfold oI;split<;>rfl
theorem SK(k:Kp)(f n:Int):(oI k f n).m.ca=k.m.ca:=by unfold oI;split<;>rfl
theorem Ui(k:Kp)(f n:Int):(oI k f n).m.m=k.m.m:=by unfold oI;split<;>rfl
structure jm (k k' : Kp):Prop where
 sp:k'.m.sp.length=k.m.sp.length
 ca:k'.m.ca=k.m.ca
 fs:k'.m.m.fs.length=k.m.m.fs.length
theorem jm.refl(k:Kp):jm k k:=⟨rfl,rfl,rfl⟩
theorem jm.trans{a b c:Kp}(h:jm a b)(k:jm b c):jm a c:=⟨k.sp.trans h.sp,k.ca.trans h.ca,k.fs.trans h.fs⟩
theorem jm.enter(k:Kp)(p:Nat)(n:Int)(x:En):jm k (dD k p n x):=⟨Td k p n x,TH k p n x,by rw[RL]⟩
theorem jm.hold(k:Kp)(f n:Int):jm k (dU k f n):=⟨by rw[IX],Jw k f n,Uf k f n⟩
theorem jm.shold(k:Kp)(f n:Int):jm k (oI k f n):=⟨by rw[SY],SK k f n,by rw[Ui]⟩
theorem jm.drop(k:Kp)(p:Nat)(n:Int):jm k (jM k p n):=by
 unfold jM;simp only;split
 ·exact(jm.hold _ _ _).trans (jm.enter _ _ _ _)
 split
 ·exact(jm.shold _ _ _).trans (jm.enter _ _ _ _)
 ·exact .refl _
theorem jm.drops:∀(l:List (Nat × Int)) (k:Kp),jm k (kv k l)
 | [],k => .refl k
 | u::l,k=>(jm.drop k u.1 u.2).trans (jm.drops l _)
theorem jm.swap(f n:Int)(k:Kp)(u:Nat × Int):jm k (IJ f n k u):=(jm.hold _ _ _).trans (jm.enter _ _ _ _)
theorem jm.swaps(f n:Int):∀(l:List (Nat × Int)) (k:Kp),jm k (uT k f n l)
 | [],k => .refl k
 | u::l,k=>(jm.swap f n k u).trans (jm.swaps f n l _)
theorem jm.clean(k:Kp)(f:Nat):jm k (kI k f):=by
 unfold kI;simp only;split
 ·exact .refl _
 ·exact⟨rfl,rfl,bV⟩
theorem Fj(k:Kp)(l:List (Nat × Int))(j:Nat)(h:j<l.length):kv k (l.take (j+1))=jM (kv k (l.take j)) l[j].1 l[j].2:=by
 unfold kv;rw[mK,aM h,Be];rfl
theorem PX(k:Kp)(f n:Int)(l:List (Nat × Int))(j:Nat)(h:j<l.length):uT k f n (l.take (j+1))=IJ f n (uT k f n (l.take j)) l[j]:=by
 unfold uT;rw[mK,aM h,Be];rfl
theorem mo.stay(h:mo w B v ps)(d:w.grownBy w' none):mo w' B v ps:=⟨iM h.own d,λk p i=>iM (h.each k p i) d,h.apart⟩
theorem xE.stay{t:Tb}(h:xE w B cs t)(i:w.grownBy w' none):xE w' B cs t:=
 ⟨h.sz,λk d=>by obtain⟨v,u,o⟩:=h.own k d;exact⟨v,u,iM o i⟩,h.apart⟩
theorem iw.cache(h:iw w B b H e)(s:KS w0 b H0 w H)(i:w.grownBy w1 (oB H.ac)){l:List Cc}(D:Own w1 B 122 3 (.slice a l.length c) l.length (l.flatMap kM))(C:oB a=oB H.ac\/∀g,oB a=some g->w0.heap.size<=g) :
  aK w1 b (lm H e) 109/\∀A,aK A b (dO (lm H e) 9 [.slice a l.length c]) 109->w1.grownBy A (some b)->iw A B b { H with ac:=a,cc:=c,ca:=l } e/\KS w0 b H0 A { H with ac:=a,cc:=c,ca:=l }:=by
 have u:aK w1 b (lm H e) 109:=by refine h.blk.grown i λe => ?_;obtain⟨_,cs,o⟩:=qI h.ma.ca e;exact uX h.blk o (by decide) rfl
 have t:qp w1 B { H with ac:=a,cc:=c,ca:=l }:=by
  cases hac:oB H.ac with
  | none=>
   rw[hac]at i;exact⟨iM h.ma.fr i,iM h.ma.sl i,⟨iM h.ma.sw.b i,iM h.ma.sw.q i⟩,⟨iM h.ma.dk.b i,iM h.ma.dk.q i⟩,h.ma.st.stay i,D,iM h.ma.sp i,λq y=>⟨iM (h.ma.ps q y).1 i,(h.ma.ps q y).2.stay i⟩,h.ma.c64⟩
  | some g=>
   rw[hac]at i;obtain⟨_,cs,o⟩:=qI h.ma.ca hac;exact⟨aA h.ma.fr o i,aA h.ma.sl o i,h.ma.sw.keep o (by decide) (by decide) i,h.ma.dk.keep o (by decide) (by decide) i,h.ma.st.keep o (by decide) (by decide) i,D,aA h.ma.sp o i,λq y=>⟨aA (h.ma.ps q y).1 o i,(h.ma.ps q y).2.keep o (by decide) i⟩,h.ma.c64⟩
 have E:KS w0 b H0 w1 H:=by
  cases hac:oB H.ac with
  | none=>
   rw[hac]at i;exact⟨i.os.trans s.os,i.tape.trans s.tape,i.output.trans s.output,aX s.size i.size,λx k G=>(i.block x (jq k s.size) (by simp)).trans (s.keep x k G),s.sn⟩
  | some g=>rw[hac]at i;exact s.put i (.inr (.inr (.inl hac))) λx k => .inl k
 refine⟨u,λA o d=>⟨⟨o,h.ge,?_,h.tz⟩,E.put d (.inl rfl) λx k => ?_⟩⟩
 ·exact⟨aA t.fr u d,aA t.sl u d,t.sw.keep u (by decide) (by decide) d,t.dk.keep u (by decide) (by decide) d,t.st.keep u (by decide) (by decide) d,aA t.ca u d,aA t.sp u d,λq y=>⟨aA (t.ps q y).1 u d,(t.ps q y).2.keep u (by decide) d⟩,t.c64⟩
 rcases k with k|k|k|k
 ·exact .inl (.inl k)
 ·exact .inl (.inr (.inl k))
 ·rcases C with e|e
  ·exact .inl (.inr (.inr (.inl (by rw[<-e];exact k))))
  ·exact .inr (e x k)
 ·exact .inl (.inr (.inr (.inr k)))
theorem TE{k:Kp}(h:jQ k.m f=false):kI k f=k:=by
 unfold jQ at h;simp only[EJ,decide_eq_false_iff_not]at h;unfold kI;simp only;rw[if_pos (.inr (.inr h.2))]
theorem JO(u:Nat × Int):(uC u).all (·.oneCell')=true:=by simp[uC,Value.oneCell']
theorem slca_size:(Tryz.prog.info? 42).map (·.size)=some 1:=by kernel_rfl
theorem VN{l:List (Nat × Int)}(h:eD w a (l.flatMap uL))(k:Nat)(i:k<l.length):∃b d,a=some ⟨b,d,none⟩/\eD w (some ⟨b,d+k*2,none⟩) [.int .i64 l[k].1,.int .i64 l[k].2]:=oU aab h k i
theorem OA(H:MH)(e:Int)(f:Nat)(B b:Nat)(w:World)(h:iw w B b H e)(hf:f<H.m.fs.length)(hz:H.sp.length<=1000)(hz2:H.ca.length<=1000) :
  Calls Tryz.prog 173 #[.pointer (some ⟨b,0,none⟩),.int .i64 f] w λr w'=>r = .returned (.bool (ky H.ma f))/\KR w B b H w' (gI ⟨H.ma,e⟩ f):=by
 obtain⟨g,off,cur,gc,gv,k2,kY,kN,gu,gt,kL⟩:=h.frame hf;generalize hx:aF H.ma f=x at *
 have hR:=ae hx;clear hx kL gu;have hc:=h.blk.cell;unfold lm at hc;rw[gc]at hc;have gO:(f:Int)<(H.m.fs.length:Int):=by omega
 go_enter func173,ntmps173
 go_wp2_with (first | (refine ay g (off+f*13) _ kN _ underlying66 rfl frame_size ?_) | (refine aT (Ak x) frame_size (wV x) ?_))
 intro w1 kA kn;have h1:=h.below kA;have s1:=(KS.refl w b H).below kA;have hp:¬kb b H w.heap.size:=λZ=>by obtain⟨cs,T,D,_⟩:=h.kb_T Z;have:=D.lt;omega
 have ge:=ae h.bs;clear hc kN k2 kY kA gv gt gc h
 go_wp2_with fail
 refine(EU H e f B b _ h1 hz).mono ?_;rintro r w2 ⟨v2,rfl,hL,hX⟩;obtain⟨a2,c2,rfl,_⟩:=hL.rd;have h2:=h1.below hX;have s2:=s1.below hX;have hs:=kn.ext hX;have gK:=kn.lt;clear h1 s1 kn hX;have hB:=hs.cell;unfold Ak at hB
 by_cases K:0<=x.f
 ·go_wp2_with fail
  refine(OH H e f B b _ h2 hf).mono ?_;rintro r E ⟨rfl,H3,e3,h3,U,q3⟩;have hy:=U.own h2 (hL.mono (bN _)) (by decide);have hN:¬kb b H w.heap.size:=hp;have km:=U.blkN hs hN;have ki:¬kb b H3 w.heap.size:=λZ=>(U.sn _ Z).elim hN (λhh=>by have:=hs.lt;omega);have s03:=s2.trans U;have kT:H3.sp.length=H.sp.length/\H3.ca=H.ca/\H3.m.fs.length=H.m.fs.length:=by have C:=jm.clean ⟨H.ma,e⟩ f;rw[<-q3]at C;exact⟨by have:=C.sp;simp only[qm]at this;exact this,C.ca,C.fs⟩
  have gi:=hs.lt;clear hB hs hL h2 s2 U hp hN;cases hcb:jQ H.ma f with
  | false=>
   have C:Hid (gI ⟨H.ma,e⟩ f=⟨H.ma,e⟩/\ky H.ma f=false):=ae (by unfold gI ky;simp only[hR.out];rw[if_pos K,if_pos hcb,if_pos K];exact⟨rfl,hcb⟩);rw[TE (k:=⟨H.ma,e⟩) hcb]at q3;have gl:=ae q3;clear q3 km;go_wp2;go_ret;rw[C.out.1,C.out.2];exact⟨rfl,_,_,h3,s03,gl.out⟩
  | true=>
   have R:Hid (bB H.ma f=bB H.ma f):=ae rfl;have gn:(bB H.ma f).length<=64000:=by
    have:=BG H.ma f H.sp.length;have e1:tX H.ma f H.sp.length=bB H.ma f:=by unfold tX bB;rw[qm]
    rw[e1]at this;omega
   obtain⟨I,kw⟩:∃k,k=kI ⟨H.ma,e⟩ f:=⟨_,rfl⟩;rw[<-kw]at q3;have hI:∀u∈bB H.ma f,u.1<H.sp.length:=λu R=>by have:=(uh.1 R).1;rw[qm]at this;exact this
   have C:Hid (ky H.ma f=true/\gI ⟨H.ma,e⟩ f=if KW (kv I (bB H.ma f)).m.ca x.f x.i=true then dU ⟨{ (kv I (bB H.ma f)).m with ca:=(kv I (bB H.ma f)).m.ca.eraseIdx (vZ (kv I (bB H.ma f)).m.ca x.f x.i) },(kv I (bB H.ma f)).e⟩ f (-1)else kv I (bB H.ma f)):=ae (by unfold gI ky;simp only[hR.out];rw[if_pos K,if_pos K,if_neg (by rw[hcb];decide),kw];exact⟨hcb,rfl⟩);generalize bB H.ma f=l at *
   have q3':=ae q3;have hH:=ae hI;clear q3 hcb kw R hI;go_upto_region 7 with(fail)
   go_loopw [38] (fun s38 wr => ∃(j:Nat) (A:MH) (P:Int),j<=l.length/\s38 = .int .i64 j/\iw wr B b A P/\KS w b H wr A/\Hid (Kp.mk A.ma P=kv I (l.take j))/\Own wr 0 247 2 (.slice a2 l.length c2) l.length (l.flatMap uL)/\aK wr w.heap.size (Ak x) 66/\¬kb b A w.heap.size/\A.sp.length=H.sp.length/\A.ca=H.ca) (fun s38 _=>l.length-(intOf s38).toNat)
   case atStart=>exact⟨0,H3,e3,bN _,rfl,h3,s03,ae (by rw[q3'.out];rfl),hy,km,ki,kT.1,kT.2.1⟩
   case round=>
    clear hy km ki h3 s03;obtain⟨j,A,P,hj,rfl,ha,G,X,z,hQ,kh,hM,kz⟩:=hrel
    by_cases J:j<l.length
    ·have kx:(j:Int)<(l.length:Int):=by omega
     obtain⟨_,_,e9,_,_,_,hG⟩:=z.rd;cases e9;obtain⟨bl,ol,rfl,hF⟩:=VN hG j J;have ko:l[j].1<H.sp.length:=hH.out _ (fA J)
     go_wp2_with (first | (refine ay bl (ol+j*2) _ hF _ underlying247 rfl us_size ?_) | (refine aT (uC l[j]) us_size (JO _) ?_))
     intro w5 Y kK;have S:=ha.below Y;have V:=G.below Y;have hJ:=z.below Y;have hD:=hQ.ext Y;have gE:=hD.lt;clear ha G z hQ hG hF Y;have k1:=kK.cell;unfold uC at k1
     go_wp2_with fail
     refine(zn A P l[j].2 l[j].1 B b _ S (by rw[hM];exact ko)).mono ?_;rintro r w6 ⟨rfl,H6,e6,h6,Q,q6⟩;have s:=Q.own S hJ (by decide);have gh:=Q.blkN hD kh;have kV:¬kb b H6 w.heap.size:=λZ=>(Q.sn _ Z).elim kh (λhh=>by omega);have s06:=V.trans Q;have hU:H6.sp.length=H.sp.length/\H6.ca=H.ca:=by have C:=jm.drop ⟨A.ma,P⟩ l[j].1 l[j].2;rw[<-q6]at C;exact⟨by have:=C.sp;simp only[qm]at this;rw[this,hM],by have:=C.ca;exact Eq.trans this kz⟩
     have ks:Hid (Kp.mk H6.ma e6=kv I (l.take (j+1))):=ae (by rw[Fj I l j J,<-X.out];exact q6);clear q6 S V hJ hD k1 kK Q;go_wp2;go_roundw
     case rel=>exact⟨j+1,H6,e6,by omega,by go_num,h6,s06,ks,s,gh,kV,hU.1,hU.2⟩
     case measure=>simp[intOf];omega
    have kx:¬(j:Int)<(l.length:Int):=by omega
    rw[mE (by omega)]at X;clear z;generalize hkd:kv I l=kd at *
    clear hkd;have hB:=hQ.cell;unfold Ak at hB;have kO:=ae (show kd.m.ca=A.ca by rw[<-X.out];rfl);have gs:A.ca.length<=1000:=by rw[kz];exact hz2
    clear kz hM
    go_wp2_with fail
    refine(EQ A P x.f x.i B b _ ha).mono ?_;rintro r w5 ⟨rfl,Y⟩;have S:=ha.below Y;have V:=G.below Y;clear ha G Y hB hQ;cases hi:KW A.ca x.f x.i with
    | false=>
     have kt:Hid (gI ⟨H.ma,e⟩ f=kd):=ae (by rw[C.out.2,kO.out,hi];rfl);generalize vZ A.ca x.f x.i=k at *
     go_wp2;go_ret;rw[C.out.1,kt.out];exact⟨rfl,_,_,S,V,X.out⟩
    | true=>
     have kt:Hid (gI ⟨H.ma,e⟩ f=dU ⟨{ kd.m with ca:=A.ca.eraseIdx (vZ A.ca x.f x.i) },kd.e⟩ f (-1)):=ae (by rw[C.out.2,kO.out,hi,if_pos rfl]);obtain⟨c,hc,_,_⟩:=Hw hi;have kU:=(dw.1 hc).1;clear hc hi;generalize vZ A.ca x.f x.i=k at *
     have kZ:=S.blk.cell;unfold lm at kZ;have gL:(k:Int)+1<=1000:=by omega
     have hS:IntKind.i64.wrap ((k:Int)+1)=(k:Int)+1:=dz _ (by omega)
     go_wp2_with fail
     refine(Dm A.ca k kU A.ac A.cc B _ S.ma.ca gs).mono ?_;rintro r w6 ⟨rfl,s,hg⟩;have kg:(A.ca.eraseIdx k).length=A.ca.length-1:=xI kU;rw[<-kg]at s;obtain⟨hK,kp⟩:=S.cache V hg (a:=A.ac) (c:=A.cc) (l:=A.ca.eraseIdx k) s (.inl rfl);rw[kg]at kp;clear kZ S V s hg
     go_wp2_with (refine aY b 9 [.slice A.ac (A.ca.length-1) A.cc] rfl rfl rfl _ _ hK (by show 9+1<=12;decide) slca_size (λu R=>by cases bF.1 R;rfl) ?_)
     intro w7 hP hr;obtain⟨h7,s7⟩:=kp w7 hP hr;clear kp hK hP hr
     go_wp2_with fail
     refine(ww _ P f (-1) B b _ h7).mono ?_;rintro r w8 ⟨rfl,gq⟩;go_wp2;go_ret;rw[C.out.1,kt.out,<-X.out];exact⟨rfl,KR.trans s7 gq⟩
 have kj:=h2.blk.cell;unfold lm at kj;have hm:=h2.ma.rd.sl;have gn:(bB H.ma f).length<=64000:=by
  have:=BG H.ma f H.sp.length;have e1:tX H.ma f H.sp.length=bB H.ma f:=by unfold tX bB;rw[qm]
  rw[e1]at this;omega
 have hI:∀u∈bB H.ma f,u.1<H.sp.length:=λu R=>by have:=(uh.1 R).1;rw[qm]at this;exact this
 have kr:Hid (ky H.ma f=decide (iI H.sl (bB H.ma f).length=0)):=ae (by unfold ky;rw[hR.out,if_neg K];rfl);have kq:Hid (gI ⟨H.ma,e⟩ f=if iI H.sl (bB H.ma f).length≠0 then⟨H.ma,e⟩else uT ⟨{ H.ma with sl:=nJ H.sl (bB H.ma f).length,sw:=dW H.sw (kJ H.sl (bB H.ma f).length) x.p },iD e (aI H.sw (kJ H.sl (bB H.ma f).length))⟩ f (kJ H.sl (bB H.ma f).length) (bB H.ma f)):=ae (by unfold gI;simp only[hR.out];rw[if_neg K];rfl);generalize bB H.ma f=l at *
 have hH:=ae hI;clear hI
 go_wp2_with fail
 refine(Ot H.sl H.asl H.csl (l.length:Int) _ hm.le hm.nl hm.rd (by have:=hm.le;have:=hm.mx;unfold maxLen at this;omega)).mono ?_;rintro r E ⟨v3,rfl,hy,hv⟩;obtain⟨a3,c3,rfl,_⟩:=hy.rd;have I:=h2.below hv;have U:=s2.below hv;have kx3:=hs.ext hv;have kf:=hL.below hv;have gj:=ae s2.size;clear hB kj h2 s2 hs hL hv hm
 by_cases hE:iI H.sl l.length=0
 ·have C:Hid (ky H.ma f=true/\gI ⟨H.ma,e⟩ f=uT ⟨{ H.ma with sl:=nJ H.sl l.length,sw:=dW H.sw (kJ H.sl l.length) x.p },iD e (aI H.sw (kJ H.sl l.length))⟩ f (kJ H.sl l.length) l):=ae (by rw[kr.out,kq.out,hE];exact⟨rfl,rfl⟩);rw[hE];clear hE kr kq;generalize kJ H.sl l.length=N at *
  go_upto_region 19 with(fail);refine gX 15 [_,_,_,_,_,_,_,_,.r 8 ((DZ E.heap.size (dW H.sw N x.p) (aI H.sw N))),.r 9 ((DZ E.heap.size (dW H.sw N x.p) (aI H.sw N))),.r 10 ((zH E.heap.size (dW H.sw N x.p))),.v (.int .i64 (aI H.sw N)),.r 12 ((fu E.heap.size 38 2)),.y 13 ((MN 12 E.heap.size 38 (zH E.heap.size (dW H.sw N x.p)))),.v (.int .i64 (aI H.sw N))] (λW=>Below E.heap.size E W) bH (Below.refl _ _) (Yk bH rfl (Yk bH rfl (Yf bH b 0 rfl rfl (Yf bH b 3 rfl rfl (Yr bH (.agg #[.slice H.wb H.sw.blocks.length H.cwb,.slice H.wq H.sw.queue.length H.cwq]) (λρ y W D kB=>(bO rfl (bi rfl kB) (I.below D).rdW underlying38 (s:=disk_size))) rfl rfl (Yk bH rfl (Yf bH w.heap.size 0 rfl rfl (Yr bH (.agg (gW x.p)) (λρ y W D kB=>(bO rfl (bi rfl kB) (cK (kx3.ext D) 0 8) underlying58 (s:=psize))) rfl rfl (aj ?_ (aj ?_ (aj ?_ (aj ?_ (aj ?_ (aj ?_ (Yk bH rfl (aH)))))))))))))))) (λ_=>rfl) rfl ?_
  ·intro ρ y W L hn D O;refine fw D ((DZ E.heap.size (dW H.sw N x.p) (aI H.sw N))) ?_;have gC:=L 94 4 rfl;have h4:y 4=_:=O 4 rfl;have gB:=L 95 5 rfl;have S:y 5=_:=O 5 rfl;have gA:=L 97 7 rfl;have h7:y 7=_:=O 7 rfl;have EF:=eF0 hn λ_=>trivial;refine aL (aW rfl (EF _) func193 (by simp only[bU,bM,bP,gC,h4,gB,S,gA,h7,EF];rfl)) ?_;refine(Fy H.sw N x.p H.wb H.cwb H.wq H.cwq W (I.below D).ma.rd.sw).mono ?_;rintro r W3 ⟨vb,vq,rfl,ho,hv⟩;exact⟨_,rfl,hv,vb,vq,rfl,ho.mono D.size⟩
  ·intro ρ y W L hn D O;refine fw D ((DZ E.heap.size (dW H.sw N x.p) (aI H.sw N))) ?_;have gz:=L 98 8 rfl;have h8:=O 8 rfl;refine ak _ (run_move (.inl rfl) gz) (m:=?_);exact h8
  ·intro ρ y W L hn D O;refine fw D ((zH E.heap.size (dW H.sw N x.p))) ?_;have kC:=L 89 9 rfl;have h9:=O 9 rfl;obtain⟨vb,vq,R,ho⟩:=h9;refine ak (.agg #[vb,vq]) (by simp[execOp,go_sem,bJ,kC,R]) (m:=?_);exact⟨vb,vq,rfl,ho⟩
  ·intro ρ y W L hn D O;refine fw D (fQ (.int .i64 (aI H.sw N))) ?_;have kC:=L 89 9 rfl;have h9:=O 9 rfl;obtain⟨vb,vq,R,ho⟩:=h9;refine ak (.int .i64 (aI H.sw N)) (by simp[execOp,go_sem,bJ,kC,R])
  ·intro ρ y W L hn D O;refine fw D ((fu E.heap.size 38 2)) ?_;refine gM (.pointer (some ⟨W.heap.size,0,none⟩)) (ag) (by simp[execOp,go_sem,bJ]) ((Below.refl _ _).alloc (aC _) (.cells #[.slice none 0 0,.slice none 0 0] 38)) ?_;exact⟨_,_,rfl,D.size,aK.new _ _ _,rfl⟩
  ·intro ρ y W L hn D O;have gD:=L 14 12 rfl;have gw:=O 12 rfl;have gy:=L 99 10 rfl;have gx:=O 10 rfl;obtain⟨vb,vq,e7,ku⟩:=gx;obtain⟨g3,cur3,e9,kX,hC,kM⟩:=gw;obtain⟨ab,cb,rfl,_⟩:=ku.b.rd;obtain⟨aq,cq,rfl,_⟩:=ku.q.rd;refine jT _ _ _ g3 0 (.agg #[.slice ab _ cb,.slice aq _ cq]) [.slice ab _ cb,.slice aq _ cq] (gD.trans e9) (gy.trans e7) rfl cur3 _ hC (by rw[kM];exact aC _) disk_size (gH (ow)) ?_;intro w1 hS hA;rw[show ∀(p q:Value),[p,q]=(#[p,q]:Array Value).toList fromλ_ _=>rfl,eT cur3 _ (by rw[kM];rfl)]at hS;refine⟨D.grown hA D.size (λk Z=>by cases Z;exact kX),⟨g3,_,e9,kX,hS,⟨_,_,rfl,ku.keep hC (by decide) (by decide) hA⟩⟩,?_⟩;intro k Z gm
   match k,Z,gm with
   | 0,_,_|1,_,_|2,_,_|3,_,_|4,_,_|5,_,_|6,_,_|7,_,_=>exactλh=>h
   | 8,_,_|9,_,_|10,_,_=>exactλ⟨c,q0,q1,q2⟩=>⟨c,q0,q1,q2.keep hC (by decide) (by decide) hA⟩
   | 11,_,_=>exactλh=>h
   | 12,_,_=>exactλq=>iY q hS ⟨_,hC⟩ hA
   | 13,_,h=>exact absurd rfl h
   | 14,_,_=>exactλh=>h
   | n+15,h,_=>exact absurd h (by omega)
  intro y W4 d t;replace d:Below E.heap.size E W4:=d;have gg:((DZ E.heap.size (dW H.sw N x.p) (aI H.sw N))).r (y 8) W4:=t 8 (by decide);have gf:((DZ E.heap.size (dW H.sw N x.p) (aI H.sw N))).r (y 9) W4:=t 9 (by decide);have kF:((zH E.heap.size (dW H.sw N x.p))).r (y 10) W4:=t 10 (by decide);have kE:((fu E.heap.size 38 2)).r (y 12) W4:=t 12 (by decide);have kD:=t 13 (by decide);clear t;simp only[dS,bJ,bM,bP];obtain⟨gd,cd,gG,gN,ga,vb,vq,hV,hT⟩:=kD;simp only[yS]at hV;subst hV;obtain⟨ab,cb,rfl,_⟩:=hT.b.rd;obtain⟨aq,cq,rfl,_⟩:=hT.q.rd;have k4:=I.below d;have s4:=U.below d;have kx4:=kx3.ext d;have ke:=kf.below d;have hZ:=hy.below d;have gk:=ae U.size;have gF:=kx4.lt;clear gg gf kF kE I U kx3 kf hy d
  go_wp2_with fail
  refine(rU _ e (aI H.sw N) _ _ _ k4).mono ?_;rintro r w5 ⟨rfl,k5,ht⟩;have V:=s4.putB ht rfl rfl rfl;have kx5:aK w5 w.heap.size (Ak x) 66:=kx4.grown ht (λe=>hp (.inl (aU e).symm));have kc:=aA ke k4.blk ht;have hY:=aA hZ k4.blk ht;have hJ:=hT.keep k4.blk (by decide) (by decide) ht;have hO:=aG ga k4.blk ht;clear k4 s4 kx4 ke hZ hT ga ht;have hcb:=k5.blk.cell;have gr:=k5.blk.free;unfold lm at hcb;have hV:=hO.cell;have n2:=uX k5.blk hO (by decide);go_upto_region 21 with(fail)
  go_region
  refine Xk (w:=w5.setCells b 2 [.slice a3 (nJ H.sl l.length).length c3]) (b:=b) (o:=3) (vs:=[.slice ab (dW H.sw N x.p).blocks.length cb,.slice aq (dW H.sw N x.p).queue.length cq]) (λW=>Exit.then _ _ _ _ W) λw7 hr hP => ?_;have hg:=aD w5 b 2 [.slice a3 (nJ H.sl l.length).length c3];have gb:=k5.blk.setCells [.slice a3 (nJ H.sl l.length).length c3] 2;have k6:=k5.setL (hY.mono (aX ge.out gj.out)) gb hg;have Q:=V.putB (H':={ H with asl:=a3,csl:=c3,sl:=nJ H.sl l.length }) hg rfl rfl rfl;have s:=hJ.keep k5.blk (by decide) (by decide) hg;have ka:=aA kc k5.blk hg;have kx6:=kx5.grown hg (λe=>hp (.inl (aU e).symm));have kl:=hP k6.blk;have k7:=k6.setW (s.mono (aX ge.out gk.out)) kl hr;have s7:=Q.putB (H':={ H with asl:=a3,csl:=c3,sl:=nJ H.sl l.length,wb:=ab,cwb:=cb,wq:=aq,cwq:=cq,sw:=dW H.sw N x.p }) hr rfl rfl rfl;have h0:=(aA ka k6.blk hr).mono (bN _);have kx7:=kx6.grown hr (λe=>hp (.inl (aU e).symm));clear hP kl hr k6 Q s ka kx6 gb hg k5 V kx5 kc hY hJ hO hcb gr hV;generalize hH7:({ H with asl:=a3,csl:=c3,sl:=nJ H.sl l.length,wb:=ab,cwb:=cb,wq:=aq,cwq:=cq,sw:=dW H.sw N x.p }:MH)=H7 at k7 s7;have kR:Hid (Kp.mk H7.ma (iD e (aI H.sw N))=⟨{ H.ma with sl:=nJ H.sl l.length,sw:=dW H.sw N x.p },iD e (aI H.sw N)⟩):=ae (by rw[<-hH7];rfl);have gp:H7.sp.length=H.sp.length:=by rw[<-hH7]
  rw[<-kR.out]at C;clear hH7 kR;generalize iD e (aI H.sw N)=e7 at *
  generalize hk7:Kp.mk H7.ma e7=kk at *
  have kW:=ae hk7;clear hk7;go_upto_region 23 with(fail)
  go_loopw [116] (fun s116 wr => ∃(j:Nat) (A:MH) (P:Int),j<=l.length/\s116 = .int .i64 j/\iw wr B b A P/\KS w b H wr A/\Hid (Kp.mk A.ma P=uT kk f N (l.take j))/\Own wr 0 247 2 (.slice a2 l.length c2) l.length (l.flatMap uL)/\A.sp.length=H.sp.length) (fun s116 _=>l.length-(intOf s116).toNat)
  case atStart=>exact⟨0,H7,e7,bN _,rfl,k7,s7,ae (by rw[kW.out];rfl),h0,gp⟩
  case round=>
   clear k7 s7 h0 kx7;obtain⟨j,A,P,hj,rfl,ha,G,X,z,hM⟩:=hrel
   by_cases J:j<l.length
   ·have kx:(j:Int)<(l.length:Int):=by omega
    obtain⟨_,_,e9,_,_,_,hG⟩:=z.rd;cases e9;obtain⟨bl,ol,rfl,hF⟩:=VN hG j J;have ko:l[j].1<H.sp.length:=hH.out _ (fA J)
    go_wp2_with (first | (refine ay bl (ol+j*2) _ hF _ underlying247 rfl us_size ?_) | (refine aT (uC l[j]) us_size (JO _) ?_))
    intro w8 hW kH;have k8:=ha.below hW;have s8:=G.below hW;have kQ:=z.below hW;clear ha G z hG hF hW
    go_wp2_with fail
    refine(ww A P f (-1) B b _ k8).mono ?_;rintro r w9 ⟨rfl,H9,e9,k9,s9,q9⟩;have kP:=s9.own k8 kQ (by decide);have kG:=s9.blk k8 kH (by decide);have s09:=s8.trans s9;have kS:H9.sp.length=H.sp.length:=by have C:=jm.hold ⟨A.ma,P⟩ f (-1);rw[<-q9]at C;have:=C.sp;simp only[qm]at this;rw[this,hM]
    have q9':=ae q9;clear k8 s8 kQ kH s9 q9;have k0:=kG.cell;unfold uC at k0
    go_wp2_with fail
    refine(gJ H9 e9 l[j].2 l[j].1 ⟨2,N,false⟩ B b _ k9 (by rw[kS];exact ko)).mono ?_;rintro r w6 ⟨rfl,H6,e6,h6,Q,q6⟩;have s:=Q.own k9 kP (by decide);have s06:=s09.trans Q;have ks:Hid (Kp.mk H6.ma e6=uT kk f N (l.take (j+1))):=ae (by rw[PX kk f N l j J,<-X.out];unfold IJ;rw[<-q9'.out];exact q6);have hU:H6.sp.length=H.sp.length:=by have C:=jm.enter ⟨H9.ma,e9⟩ l[j].1 l[j].2 ⟨2,N,false⟩;rw[<-q6]at C;have:=C.sp;simp only[qm]at this;rw[this,kS]
    clear q6 k9 s09 kP k0 kG Q;go_wp2;go_roundw
    case rel=>exact⟨j+1,H6,e6,by omega,by go_num,h6,s06,ks,s,hU⟩
    case measure=>simp[intOf];omega
   have kx:¬(j:Int)<(l.length:Int):=by omega
   rw[mE (by omega)]at X;clear z;go_wp2;go_ret;rw[C.out.1,C.out.2];exact⟨rfl,_,_,ha,G,X.out⟩
 have C:Hid (ky H.ma f=false/\gI ⟨H.ma,e⟩ f=⟨H.ma,e⟩):=ae (by rw[kr.out,kq.out,if_pos hE];exact⟨decide_eq_false hE,rfl⟩);go_wp2;go_ret;rw[C.out.1,C.out.2];exact⟨rfl,_,_,I,U,rfl⟩
structure sV (k k' : Kp):Prop where
 sp:k'.m.sp.length=k.m.sp.length
 ca:k'.m.ca.length<=k.m.ca.length
 fs:k'.m.m.fs.length=k.m.m.fs.length
theorem sV.refl(k:Kp):sV k k:=⟨rfl,aC _,rfl⟩
theorem sV.trans{a b c:Kp}(h:sV a b)(k:sV b c):sV a c:=⟨k.sp.trans h.sp,aX k.ca h.ca,k.fs.trans h.fs⟩
theorem jm.l{a b:Kp}(h:jm a b):sV a b:=⟨h.sp,by rw[h.ca];exact aC _,h.fs⟩
theorem sV.evict(k:Kp)(f:Nat):sV k (gI k f):=by
 unfold gI;simp only;split
 ·split
  ·exact .refl _
  have d:=(jm.clean k f).trans (jm.drops (bB k.m f) (kI k f));split
  ·refine(sV.trans ?_ (jm.hold _ f (-1)).l);exact⟨d.sp,by show(List.eraseIdx _ _).length<=_;rw[d.ca];exact List.length_eraseIdx_le _ _,d.fs⟩
  ·exact d.l
 split
 ·exact .refl _
 refine sV.trans ?_ (jm.swaps _ _ _ _).l;exact⟨rfl,aC _,rfl⟩
theorem Iy{m:Mem}(h:bT m=0):(gy m).fs.length=m.fs.length:=by
 unfold gy;rw[if_neg (by rw[h];simp)];split
 ·rfl
 ·exact jw _ _
theorem Vd{m:Mem}(h:bT m=0)(i:¬iR m<0):(iR m).toNat<m.fs.length/\iR m=(((iR m).toNat:Nat):Int):=by
 unfold iR at i ⊢;rw[if_neg (by rw[h];simp)]at i ⊢;split at i
 ·omega
 rename_i d;rw[if_neg d];have a:0<m.fs.length:=by
  rcases zq m.fs.length with k|k
  ·have:=Fa m.fs;omega
  ·exact k
 rw[bu];exact⟨qZ a _,rfl⟩
theorem sV.reclaim:∀(t:Nat) (k:Kp),sV k (reclaimN t k).1
 | 0,k => .refl k
 | t+1,k=>by
  unfold reclaimN;simp only;split
  ·exact⟨rfl,aC _,rfl⟩
  rename_i i;have h:bT k.m.m=0:=by
   by_cases e:bT k.m.m=0
   ·exact e
   ·exact absurd (.inl e) i
  have d:sV k ⟨{ k.m with m:=gy k.m.m },k.e⟩:=⟨rfl,aC _,Iy h⟩;split
  ·exact d.trans (.evict _ _)
  ·exact(d.trans (.evict _ _)).trans (sV.reclaim t _)
theorem sV.took(k:Kp)(p:Page)(f i:Int):sV k (fC k p f i).1:=by
 have d:∀k:Kp,sV k (lT k p f i).1:=λk=>by
  unfold lT;split
  ·exact .refl _
  rename_i h;refine⟨rfl,aC _,?_⟩;show(fG k.m.m p f i).fs.length=_;unfold fG;rw[if_pos (by simpa using h)];exact bV
 unfold fC;split
 ·split
  ·exact(sV.reclaim _ k).trans (d _)
  ·exact sV.reclaim _ k
 ·exact d k
theorem maH{k:Kp}(q:Kp.mk H.ma e=k):H.sp.length=k.m.sp.length/\H.ca=k.m.ca/\H.m=k.m.m:=by
 subst q;exact⟨(qm H).symm,rfl,rfl⟩
theorem Bt(H:MH)(e:Int)(B b:Nat)(w:World)(h:iw w B b H e)(hz:H.sp.length<=1000)(X:H.ca.length<=1000)(hz3:H.m.fs.length<=1000) :
  Calls Tryz.prog 135 #[.pointer (some ⟨b,0,none⟩)] w λr w'=>r = .returned (.bool (cZ ⟨H.ma,e⟩).2)/\KR w B b H w' (cZ ⟨H.ma,e⟩).1:=by
 have T:=h.blk.cell;unfold lm at T;have hw:=ae h.bs;go_enter func135,ntmps135;have hp:IntKind.i64.wrap (2*(H.m.fs.length:Int))=2*(H.m.fs.length:Int):=dz _ (by omega);have hn:IntKind.i64.wrap (2*(H.m.fs.length:Int)+1)=2*(H.m.fs.length:Int)+1:=dz _ (by omega);go_upto_region 2 with(fail);have P:Hid (cZ ⟨H.ma,e⟩=reclaimN (2*H.m.fs.length+1) ⟨H.ma,e⟩):=ae rfl;have h':=ae h;generalize hNN:2*H.m.fs.length+1=N at P;have hi:(2*(H.m.fs.length:Int)+1)=(N:Int):=by omega
 have hu:N<=2001:=by omega
 clear h T hp hn;rw[hi];clear hi hNN
 go_loopw [15] (fun s15 wr => ∃(j:Nat) (A:MH) (C:Int),j<=N/\s15 = .int .i64 j/\iw wr B b A C/\KS w b H wr A/\Hid (reclaimN N ⟨H.ma,e⟩=reclaimN (N-j) ⟨A.ma,C⟩)/\Hid (A.sp.length=H.sp.length/\A.ca.length<=H.ca.length/\A.m.fs.length=H.m.fs.length)) (fun s15 _=>N-(intOf s15).toNat)
 case atStart=>exact⟨0,H,e,bN _,rfl,h'.out,.refl _ _ _,ae rfl,ae ⟨rfl,aC _,rfl⟩⟩
 case round=>
  clear h';obtain⟨j,A,C,hj,rfl,d,E,R,hl⟩:=hrel
  by_cases hjl:j<N
  ·have hs:(j:Int)<(N:Int):=by omega
   go_wp2_with (refine ay b 0 _ d.rdM _ underlying32 rfl mem_size ?_)
   refine(Sr A.m _ _ _ d.ma.rd.fr).mono ?_;rintro r w1 ⟨vb,rfl,Y,u⟩;obtain⟨D,c1,rfl,_⟩:=BJ Y;have h1:=d.below u;have s1:=E.below u;have ht:=ae d.bs;have hm:=ae E.size;clear d E u
   go_wp2_with (refine aT #[.slice D (gy A.m).fs.length c1,.int .i64 (gy A.m).hand] mem_size (gL _ _ _ _) ?_)
   intro w2 l v;have U:=h1.below l;have s2:=s1.below l;have x:=Y.below l;clear h1 s1 Y l
   go_wp2_with fail
   refine(rU _ C (bT A.m) _ _ _ U).mono ?_;rintro r w3 ⟨rfl,J,k⟩;have Q:=s2.putB k rfl rfl rfl;have q:=aA x U.blk k;have p:=aG v U.blk k;clear U s2 x v k;have c:Hid (reclaimN N ⟨H.ma,e⟩=reclaimN (N-(j+1)+1) ⟨A.ma,C⟩):=ae (by rw[R.out,show N-(j+1)+1=N-j by omega]);clear R
   by_cases I:bT A.m=0
   ·rw[I,oq]at J
    by_cases S:iR A.m<0
    ·have G:Hid (cZ ⟨H.ma,e⟩=(⟨A.ma,C⟩,false)):=ae (by rw[P.out,c.out];unfold reclaimN;rw[if_pos (.inr S)];show(Kp.mk A.ma (iD C (bT A.m)),false)=_;rw[I,oq]);rw[I];go_wp2;go_ret;rw[G.out];exact⟨rfl,_,_,J,Q,rfl⟩
    obtain⟨y,f⟩:=Vd I S;have hr:=ae (Iy I);have o:=ae f;generalize hF:(iR A.m).toNat=F at y f o;have hv:¬(F:Int)<0:=by omega
    rw[f]at S;rw[I,f];clear f S;have hx:=p.cell
    go_wp2_with (first | (refine ay _ 0 [.slice D (gy A.m).fs.length c1,.int .i64 (gy A.m).hand] (cK p 0 2) _ underlying32 rfl mem_size ?_) | (refine fV _ _ b 0 _ _ _ J.blk (by show 0+2<=12;decide) mem_size (gL _ _ _ _) ?_))
    intro w4 hh t;have Z:=J.setM (q.mono ht.out) hh t;have V:KS w b H w4 { A with af:=D,cf:=c1,m:=gy A.m }:=Q.putF t (q.mono hm.out) (aC _) rfl rfl;clear J Q q p hx hh t;have g:Hid (reclaimN N ⟨H.ma,e⟩=if ky (MH.ma { A with af:=D,cf:=c1,m:=gy A.m }) F=true then(gI ⟨MH.ma { A with af:=D,cf:=c1,m:=gy A.m },C⟩ F,true)else reclaimN (N-(j+1)) (gI ⟨MH.ma { A with af:=D,cf:=c1,m:=gy A.m },C⟩ F)):=ae (by
     rw[c.out]
     conv=>lhs;unfold reclaimN
     have T:¬(bT (Kp.m ⟨A.ma,C⟩).m≠0\/iR (Kp.m ⟨A.ma,C⟩).m<0):=by
      rintro(e|e)
      ·exact e I
      have:iR A.m<0:=e;rw[o.out]at this;omega
     rw[if_neg T];rw[show(iR (Kp.m ⟨A.ma,C⟩).m).toNat=F from hF];rfl)
    obtain⟨hg,hf,s⟩:=hl.out;have hd:(MH.sp { A with af:=D,cf:=c1,m:=gy A.m }).length=H.sp.length/\(MH.ca { A with af:=D,cf:=c1,m:=gy A.m }).length<=H.ca.length/\(MH.m { A with af:=D,cf:=c1,m:=gy A.m }).fs.length=H.m.fs.length:=⟨hg,hf,hr.out.trans s⟩;have n:=y;rw[s]at n;have a:=ae hd;clear hd hg hf s;generalize ({ A with af:=D,cf:=c1,m:=gy A.m }:MH)=H4 at Z V g a
    go_wp2_with fail
    refine(OA H4 C F B b _ Z (by rw[a.out.2.2];exact n) (by rw[a.out.1];exact hz) (aX a.out.2.1 X)).mono ?_;rintro r w5 ⟨rfl,K,e5,h5,s5,W⟩;have L:=V.trans s5;have i:=sV.evict ⟨H4.ma,C⟩ F;obtain⟨m1,m2,m3⟩:=maH W;have ha:K.sp.length=H.sp.length/\K.ca.length<=H.ca.length/\K.m.fs.length=H.m.fs.length:=by have D:=i.sp;have a2:=i.ca;have a3:=i.fs;rw[show(Kp.m ⟨H4.ma,C⟩).sp.length=H4.sp.length from qm H4]at D;exact⟨by rw[m1,D];exact a.out.1,by rw[m2];exact aX a2 a.out.2.1,by rw[m3];exact a3.trans a.out.2.2⟩
    have O:=ae W;have z:=ae ha;clear Z V s5 W i m1 m2 m3 ha;cases hb:ky H4.ma F with
    | true=>
     have G:Hid (cZ ⟨H.ma,e⟩=(⟨K.ma,e5⟩,true)):=ae (by rw[P.out,g.out,hb,if_pos rfl,O.out]);go_wp2;go_ret;rw[G.out];exact⟨rfl,_,_,h5,L,rfl⟩
    | false=>
     have G:Hid (reclaimN N ⟨H.ma,e⟩=reclaimN (N-(j+1)) ⟨K.ma,e5⟩):=ae (by rw[g.out,hb,if_neg (by decide),O.out]);clear g c;go_wp2;go_roundw
     case rel=>exact⟨j+1,K,e5,by omega,by go_num,h5,L,G,z⟩
     case measure=>simp[intOf];omega
   have G:Hid (cZ ⟨H.ma,e⟩=(⟨A.ma,iD C (bT A.m)⟩,false)):=ae (by rw[P.out,c.out];unfold reclaimN;rw[if_pos (.inl I)];rfl);go_wp2;go_ret;rw[G.out];exact⟨rfl,_,_,J,Q,rfl⟩
  have hs:¬(j:Int)<(N:Int):=by omega
  have G:Hid (cZ ⟨H.ma,e⟩=(⟨A.ma,C⟩,false)):=ae (by rw[P.out,R.out,show N-j=0 by omega];rfl);clear R;go_wp2;go_ret;rw[G.out];exact⟨rfl,_,_,d,E,rfl⟩
theorem Oc(k:Kp)(i:Nat):(kP k i).m.ca=k.m.ca.eraseIdx i:=by
 unfold kP;simp only;rw[Jw];simp only;rw[(jm.drops _ _).ca]
theorem Pk(k:Kp)(i:Nat):(kP k i).m.sp.length=k.m.sp.length:=by
 unfold kP;simp only;rw[IX];simp only;rw[(jm.drops _ _).sp]
theorem MM(H:MH)(e F I:Int)(B b:Nat)(w:World)(h:iw w B b H e)(hz:H.sp.length<=1000)(X:H.ca.length<=1000) :
  Calls Tryz.prog 190 #[.pointer (some ⟨b,0,none⟩),.int .i64 F,.int .i64 I] w λr w'=>r = .returned (.tuple #[])/\KR w B b H w' (yV ⟨H.ma,e⟩ F I):=by
 have hY:Hid (yV ⟨H.ma,e⟩ F I=jc F I H.ca.length ⟨H.ma,e⟩):=ae rfl;have V:=h.blk.cell;unfold lm at V;go_enter func190,ntmps190;have hE:IntKind.i64.wrap ((H.ca.length:Int)-1)=(H.ca.length:Int)-1:=dz _ (by omega);go_upto_region 1 with(fail);clear V hE;obtain⟨N,hN⟩:∃N,Hid (N=H.ca.length):=⟨_,ae rfl⟩;have h8:N<=1000:=by rw[hN.out];exact X
 rw[<-hN.out]
 go_loopw [6] (fun s6 wr => ∃(j:Nat) (A:MH) (D:Int),j<=N/\s6 = .int .i64 ((j:Int)-1)/\iw wr B b A D/\KS w b H wr A/\Hid (jc F I H.ca.length ⟨H.ma,e⟩=jc F I j ⟨A.ma,D⟩)/\j<=A.ca.length/\A.ca.length<=1000/\A.sp.length=H.sp.length) (fun s6 _=>(intOf s6+1).toNat)
 case atStart=>exact⟨N,H,e,aC _,rfl,h,.refl _ _ _,ae (by rw[hN.out]),by rw[hN.out];exact aC _,X,rfl⟩
 case round=>
  clear h;obtain⟨j,A,D,hj,rfl,n,P,Q,h4,hx,hr⟩:=hrel;cases j with
  | zero=>
   go_wp2;simp[bodyPost,results,go_sem,results190];exact⟨_,_,n,P,(hY.out.trans Q.out).symm⟩
  | succ t=>
   have e1:((t+1:Nat):Int)-1=(t:Int):=by omega
   rw[e1];have z:t<A.ca.length:=by omega
   obtain⟨C,hC⟩:∃C,A.ca[t]?=some C:=⟨_,aM z⟩;have hy:oV A.ma t=C:=by unfold oV;show A.ca.getD _ _=C;rw[bA,hC];rfl
   obtain⟨bc,oc,hS,hn⟩:=oU kD n.ma.rd.ca.rd t z;have hT:A.ca[t]=C:=(dw.1 hC).2;rw[hT]at hn;have V:=n.blk.cell;unfold lm at V;rw[hS]at V;have h2:(t:Int)<(A.ca.length:Int):=by omega
   have d:Hid (jc F I (t+1) ⟨A.ma,D⟩=if C.f≠F\/C.i<I then jc F I t ⟨A.ma,D⟩else jc F I t (kP ⟨A.ma,D⟩ t)):=ae (by
    conv=>lhs;unfold jc
    rw[show oV (Kp.m ⟨A.ma,D⟩) t=C from hy])
   have hf:Hid (kP ⟨A.ma,D⟩ t=dU ⟨{ (kv ⟨A.ma,D⟩ (bB A.ma C.k)).m with ca:=A.ca.eraseIdx t },(kv ⟨A.ma,D⟩ (bB A.ma C.k)).e⟩ C.k (-1)):=ae (by unfold kP;simp only[show oV (Kp.m ⟨A.ma,D⟩) t=C from hy];rw[(jm.drops (bB A.ma C.k) ⟨A.ma,D⟩).ca];rfl);have x:Hid ((kP ⟨A.ma,D⟩ t).m.ca.length=A.ca.length-1/\(kP ⟨A.ma,D⟩ t).m.sp.length=H.sp.length):=ae ⟨by rw[Oc];exact xI z,by rw[Pk];exact(qm A).trans hr⟩;clear hS hC hy hT
   go_wp2_with (first | (refine ay bc (oc+t*3) _ hn _ underlying122 rfl cached_size ?_) | (refine aT (zF C) cached_size (Ev C) ?_))
   intro w1 hA L;have k1:=n.below hA;have s1:=P.below hA;have v:¬kb b A wr.heap.size:=λhk=>by obtain⟨cs,T,hb,_⟩:=n.kb_T hk;have:=hb.lt;omega
   clear n P hA V hn;generalize wr.heap.size=gc at L v;have g:=L.cell;unfold zF at g
   by_cases Y:C.f≠F
   ·have K:Hid (jc F I H.ca.length ⟨H.ma,e⟩=jc F I t ⟨A.ma,D⟩):=ae (by rw[Q.out,d.out,if_pos (.inl Y)]);have hD:IntKind.i64.wrap ((t:Int)-1)=(t:Int)-1:=dz _ (by omega);clear d Q hf;go_wp2;go_roundw
    case rel=>exact⟨t,A,D,by omega,rfl,k1,s1,K,by omega,hx,hr⟩
    case measure=>simp[intOf]
   have h1 : C.f=F:=qL.1 Y
   by_cases hk2:C.i<I
   ·have K:Hid (jc F I H.ca.length ⟨H.ma,e⟩=jc F I t ⟨A.ma,D⟩):=ae (by rw[Q.out,d.out,if_pos (.inr hk2)]);have hD:IntKind.i64.wrap ((t:Int)-1)=(t:Int)-1:=dz _ (by omega);clear d Q hf;go_wp2;go_roundw
    case rel=>exact⟨t,A,D,by omega,rfl,k1,s1,K,by omega,hx,hr⟩
    case measure=>simp[intOf]
   have K:Hid (jc F I H.ca.length ⟨H.ma,e⟩=jc F I t (kP ⟨A.ma,D⟩ t)):=ae (by rw[Q.out,d.out,if_neg (by omega)]);clear d Q;go_upto_region 5 with(fail)
   go_wp2_with fail
   refine(EU A D C.k B b _ k1 (by omega)).mono ?_;rintro r w2 ⟨v2,rfl,q,hd⟩;obtain⟨a2,c2,rfl,_⟩:=q.rd;have k2:=k1.below hd;have s2:=s1.below hd;have cx2:=L.ext hd;have q:=q.mono (bN _);have hI:∀u∈bB A.ma C.k,u.1<A.sp.length:=λu hu=>by have:=(uh.1 hu).1;rw[qm]at this;exact this
   have h3:(bB A.ma C.k).length<=64000:=by
    have:=BG A.ma C.k A.sp.length;have e1:tX A.ma C.k A.sp.length=bB A.ma C.k:=by unfold tX bB;rw[qm]
    rw[e1]at this;omega
   have hZ:=ae (jm.drops (bB A.ma C.k) ⟨A.ma,D⟩);generalize bB A.ma C.k=l at *
   have hH:=ae hI;clear k1 s1 L hd hI g;go_upto_region 6 with(fail)
   go_loopw [44] (fun s44 wr => ∃(i:Nat) (E:MH) (W:Int),i<=l.length/\s44 = .int .i64 i/\iw wr B b E W/\KS w b H wr E/\Hid (Kp.mk E.ma W=kv ⟨A.ma,D⟩ (l.take i))/\Own wr 0 247 2 (.slice a2 l.length c2) l.length (l.flatMap uL)/\aK wr gc (zF C) 122/\¬kb b E gc/\E.sp.length=A.sp.length/\E.ca=A.ca) (fun s44 _=>l.length-(intOf s44).toNat)
   case atStart=>exact⟨0,A,D,bN _,rfl,k2,s2,ae rfl,q,cx2,v,rfl,rfl⟩
   case round=>
    clear q cx2 v k2 s2;obtain⟨i,E,W,hi,rfl,U,si,qi,ha,G,s,hs,o⟩:=hrel
    by_cases R:i<l.length
    ·have hX:(i:Int)<(l.length:Int):=by omega
     obtain⟨_,_,e9,_,_,_,hG⟩:=ha.rd;cases e9;obtain⟨bl,ol,rfl,hF⟩:=VN hG i R;have hU:l[i].1<A.sp.length:=hH.out _ (fA R)
     go_wp2_with (first | (refine ay bl (ol+i*2) _ hF _ underlying247 rfl us_size ?_) | (refine aT (uC l[i]) us_size (JO _) ?_))
     intro w5 y hB;have h5:=U.below y;have s5:=si.below y;have hJ:=ha.below y;have S:=G.ext y;have h0:=S.lt;clear U si ha G hG hF y;have hQ:=hB.cell;unfold uC at hQ
     go_wp2_with fail
     refine(zn E W l[i].2 l[i].1 B b _ h5 (by rw[hs];exact hU)).mono ?_;rintro r w6 ⟨rfl,H6,e6,h6,s6,q6⟩;have p:=s6.own h5 hJ (by decide);have J:=s6.blkN S s;have hM:¬kb b H6 gc:=λhk=>(s6.sn _ hk).elim s (λhh=>by omega);have s06:=s5.trans s6;have hL:H6.sp.length=A.sp.length/\H6.ca=A.ca:=by have K:=jm.drop ⟨E.ma,W⟩ l[i].1 l[i].2;rw[<-q6]at K;exact⟨by have:=K.sp;simp only[qm]at this;rw[this,hs],by have:=K.ca;exact Eq.trans this o⟩
     have hW:Hid (Kp.mk H6.ma e6=kv ⟨A.ma,D⟩ (l.take (i+1))):=ae (by rw[Fj ⟨A.ma,D⟩ l i R,<-qi.out];exact q6);clear q6 h5 s5 hJ S hQ hB s6;go_wp2;go_roundw
     case rel=>exact⟨i+1,H6,e6,by omega,by go_num,h6,s06,hW,p,J,hM,hL.1,hL.2⟩
     case measure=>simp[intOf];omega
    have hX:¬(i:Int)<(l.length:Int):=by omega
    rw[mE (by omega)]at qi;have g:=G.cell;unfold zF at g;have hP:=U.blk.cell;unfold lm at hP;have hE:IntKind.i64.wrap ((t:Int)+1)=(t:Int)+1:=dz _ (by omega);have hg:t<E.ca.length:=by rw[o];exact z
    have hO:E.ca.length<=1000:=by rw[o];exact hx
    replace o:=ae o;clear hs
    go_wp2_with fail
    refine(Dm E.ca t hg E.ac E.cc B _ U.ma.ca hO).mono ?_;rintro r w6 ⟨rfl,p,hw⟩;have hl:(E.ca.eraseIdx t).length=E.ca.length-1:=xI hg;rw[<-hl]at p;have J:aK w6 gc (zF C) 122:=G.grown hw (λe'=>s (.inr (.inr (.inl e'))));obtain⟨hK,hm⟩:=U.cache si hw (a:=E.ac) (c:=E.cc) (l:=E.ca.eraseIdx t) p (.inl rfl);rw[hl]at hm;have cxK:=J;clear hP U si p hw ha G g
    go_wp2_with (refine aY b 9 [.slice E.ac (E.ca.length-1) E.cc] rfl rfl rfl _ _ hK (by show 9+1<=12;decide) slca_size (λu hu=>by cases bF.1 hu;rfl) ?_)
    intro w7 hR hv;obtain⟨h7,s7⟩:=hm w7 hR hv;have Z:=aG J hK hv;clear hm hK hR hv J cxK;have g:=Z.cell;unfold zF at g
    go_wp2_with fail
    refine(ww _ W C.k (-1) B b _ h7).mono ?_;rintro r w8 ⟨rfl,O,e8,k8,s8,q8⟩;have hp:Hid (Kp.mk O.ma e8=kP ⟨A.ma,D⟩ t):=ae (by rw[hf.out,<-qi.out,<-o.out];exact q8);have ht:t<=O.ca.length/\O.ca.length<=1000/\O.sp.length=H.sp.length:=by have a1:=x.out.1;have a2:=x.out.2;rw[<-hp.out]at a1 a2;have a3:O.ca.length=A.ca.length-1:=a1;exact⟨by omega,by omega,(qm O).symm.trans a2⟩
    have s08:=s7.trans s8;have hV:Hid (jc F I H.ca.length ⟨H.ma,e⟩=jc F I t ⟨O.ma,e8⟩):=ae (by rw[K.out,hp.out]);have hD:IntKind.i64.wrap ((t:Int)-1)=(t:Int)-1:=dz _ (by omega);clear s7 s8 q8 h7 Z g hp K hf x qi hZ;go_wp2;go_roundw
    case rel=>exact⟨t,O,e8,by omega,rfl,k8,s08,hV,ht.1,ht.2.1,ht.2.2⟩
    case measure=>simp[intOf]
def Ur(B:Nat)(m:Mem)(K E:Int):oW:=⟨λv w => ∃u,v = .tuple #[.agg #[u,.int .i64 m.hand],.int .i64 K,.int .i64 E]/\Own w B 66 13 u m.fs.length (m.fs.flatMap rG),λ_ _ _ hb ⟨u,h1,h2⟩=>⟨u,h1,h2.below hb⟩⟩
theorem uj(H:MH)(e f i:Int)(p:Page)(B b:Nat)(w:World)(h:iw w B b H e)(hz:H.sp.length<=1000)(hz2:H.ca.length<=1000)(hz3:H.m.fs.length<=1000) :
  Calls Tryz.prog 90 #[.pointer (some ⟨b,0,none⟩),.agg (gW p),.int .i64 f,.int .i64 i] w λr w'=>r = .returned (.int .i64 (fC ⟨H.ma,e⟩ p f i).2)/\KR w B b H w' (fC ⟨H.ma,e⟩ p f i).1:=by
 have hL:=ae h.bs;go_enter func90,ntmps90;rw[JK];go_upto_region 1 with(fail);refine iP (λW=>Code.wp _ _ _ _ W) λw1 hC Y hN => ?_;have k1:=h.below hC;have s1:=(KS.refl w b H).below hC;generalize w.heap.size=gp at Y ⊢;clear h hC hN
 go_wp2_with (refine ay b 0 _ k1.rdM _ underlying32 rfl mem_size ?_)
 refine(CF H.m _ _ _ k1.ma.rd.fr).mono ?_;rintro r E ⟨rfl,hp⟩;have k2:=k1.below hp;have s2:=s1.below hp;have P:aK E gp (gW p) 58:=Y.ext hp;clear k1 s1 Y hp
 by_cases O:fO H.m.fs=0
 ·have hs:((fO H.m.fs:Nat):Int)=0:=by omega
  have hr:Hid (fC ⟨H.ma,e⟩ p f i=if(cZ ⟨H.ma,e⟩).2=true then lT (cZ ⟨H.ma,e⟩).1 p f i else((cZ ⟨H.ma,e⟩).1,-1)):=ae (by unfold fC;exact if_pos O);rw[hs];clear hs O
  go_wp2_with fail
  refine(Bt H e B b _ k2 hz hz2 hz3).mono ?_;rintro r G ⟨rfl,A,e3,k3,s3,q3⟩;have px3:=s3.blkN P (λX => ?_)
  ·have U:=s2.trans s3;have V:=ae q3;clear k2 s2 s3 P q3;cases hb:(cZ ⟨H.ma,e⟩).2 with
   | true=>
    have hR:Hid (fC ⟨H.ma,e⟩ p f i=lT ⟨A.ma,e3⟩ p f i):=ae (by rw[hr.out,hb,if_pos rfl,V.out]);clear hb hr V;go_upto_region 3 with(fail);have hP:=ae (rfl:fG A.m p f i=fG A.m p f i);refine gX 17 [_,_,_,_,_,_,_,_,.r 8 ((Ur G.heap.size (fG A.m p f i) (iG A.m p f i) (iy A.m p f i))),.r 9 ((Ur G.heap.size (fG A.m p f i) (iG A.m p f i) (iy A.m p f i))),.r 10 ((FH G.heap.size (fG A.m p f i))),.v (.int .i64 (iG A.m p f i:Nat)),.v (.int .i64 (iy A.m p f i)),.r 13 ((fu G.heap.size 32 2)),.y 14 ((MN 13 G.heap.size 32 (FH G.heap.size (fG A.m p f i)))),.v (.int .i64 (iG A.m p f i:Nat)),.v (.int .i64 (iy A.m p f i))] (λW=>Below G.heap.size G W) bH (Below.refl _ _) (Yk bH rfl (Yk bH rfl (Yf bH b 0 rfl rfl (Yf bH b 0 rfl rfl (Yr bH (.agg #[.slice A.af A.m.fs.length A.cf,.int .i64 A.m.hand]) (λρ y W hb t=>(bO rfl (bi rfl t) (cK (k3.below hb).blk 0 2) underlying32)) rfl rfl (Yr bH (.agg #[.int .u8 p[0].toNat,.int .u8 p[1].toNat,.int .u8 p[2].toNat,.int .u8 p[3].toNat,.int .u8 p[4].toNat,.int .u8 p[5].toNat,.int .u8 p[6].toNat,.int .u8 p[7].toNat]) (λρ y W hb t=>(bO rfl (bi rfl t) (cK (px3.ext hb) 0 8) underlying58)) rfl rfl (Yk bH rfl (Yk bH rfl (aj ?_ (aj ?_ (aj ?_ (aj ?_ (aj ?_ (aj ?_ (aj ?_ (Yk bH rfl (Yk bH rfl (aH)))))))))))))))))) (λ_=>rfl) rfl ?_
    ·intro ρ y W C J hb D;refine fw hb ((Ur G.heap.size (fG A.m p f i) (iG A.m p f i) (iy A.m p f i))) ?_;have hK:=C 29 4 rfl;have h4:y 4=_:=D 4 rfl;have hJ:=C 30 5 rfl;have h5:y 5=_:=D 5 rfl;have hI:=C 31 6 rfl;have h6:y 6=_:=D 6 rfl;have hH:=C 32 7 rfl;have h7:y 7=_:=D 7 rfl;have EF:=eF0 J λ_=>trivial;refine aL (aW rfl (EF _) func136 (by simp only[bU,bM,bP,hK,h4,hJ,h5,hI,h6,hH,h7,EF];rfl)) ?_;refine(IE A.m p f i A.af A.cf W (k3.below hb).ma.rd.fr).mono ?_;rintro r L ⟨u,rfl,R,hB⟩;exact⟨_,rfl,hB,u,rfl,R.mono hb.size⟩
    ·intro ρ y W C J hb D;refine fw hb ((Ur G.heap.size (fG A.m p f i) (iG A.m p f i) (iy A.m p f i))) ?_;have hG:=C 33 8 rfl;have h8:=D 8 rfl;refine ak _ (run_move (.inl rfl) hG) (m:=?_);exact h8
    ·intro ρ y W C J hb D;refine fw hb ((FH G.heap.size (fG A.m p f i))) ?_;have l:=C 24 9 rfl;have S:=D 9 rfl;obtain⟨u,Q,R⟩:=S;refine ak (.agg #[u,.int .i64 (fG A.m p f i).hand]) (by simp[execOp,go_sem,bJ,l,Q]) (m:=?_);exact⟨u,rfl,R⟩
    ·intro ρ y W C J hb D;refine fw hb (fQ (.int .i64 (iG A.m p f i:Nat))) ?_;have l:=C 24 9 rfl;have S:=D 9 rfl;obtain⟨u,Q,R⟩:=S;refine ak (.int .i64 (iG A.m p f i:Nat)) (by simp[execOp,go_sem,bJ,l,Q])
    ·intro ρ y W C J hb D;refine fw hb (fQ (.int .i64 (iy A.m p f i))) ?_;have l:=C 24 9 rfl;have S:=D 9 rfl;obtain⟨u,Q,R⟩:=S;refine ak (.int .i64 (iy A.m p f i)) (by simp[execOp,go_sem,bJ,l,Q])
    ·intro ρ y W C J hb D;refine fw hb ((fu G.heap.size 32 2)) ?_;refine gM (.pointer (some ⟨W.heap.size,0,none⟩)) (ag) (by simp[execOp,go_sem,bJ]) ((Below.refl _ _).alloc (aC _) (.cells #[.slice none 0 0,.int .i64 0] 32)) ?_;exact⟨_,_,rfl,hb.size,aK.new _ _ _,rfl⟩
    ·intro ρ y W C J hb D;have E9:=C 9 13 rfl;have hD:=D 13 rfl;have hF:=C 34 10 rfl;have hE:=D 10 rfl;obtain⟨u,e7,hh⟩:=hE;obtain⟨g3,I,e9,hi,j,hg⟩:=hD;refine jT _ _ _ g3 0 (.agg #[u,.int .i64 (fG A.m p f i).hand]) [u,.int .i64 (fG A.m p f i).hand] (E9.trans e9) (hF.trans e7) rfl I _ j (by rw[hg];exact aC _) mem_size (by obtain⟨a1,c1,rfl,_⟩:=hh.rd;exact gH (gL _ _ _ _)) ?_;intro w1 o g;rw[show ∀(x y:Value),[x,y]=(#[x,y]:Array Value).toList fromλ_ _=>rfl,eT I _ (by rw[hg];rfl)]at o;refine⟨hb.grown g hb.size (λk X=>by cases X;exact hi),⟨g3,_,e9,hi,o,⟨_,rfl,aA hh j g⟩⟩,?_⟩;intro k X hy
     match k,X,hy with
     | 0,_,_|1,_,_|2,_,_|3,_,_|4,_,_|5,_,_|6,_,_|7,_,_=>exactλh=>h
     | 8,_,_|9,_,_|10,_,_=>exactλ⟨c,q1,q2⟩=>⟨c,q1,aA q2 j g⟩
     | 11,_,_|12,_,_=>exactλh=>h
     | 13,_,_=>exactλq=>iY q o ⟨_,j⟩ g
     | 14,_,h=>exact absurd rfl h
     | 15,_,_|16,_,_=>exactλh=>h
     | n+17,h,_=>exact absurd h (by omega)
    intro y L d a;replace d:Below G.heap.size G L:=d;have hv:((Ur G.heap.size (fG A.m p f i) (iG A.m p f i) (iy A.m p f i))).r (y 8) L:=a 8 (by decide);have ht:((Ur G.heap.size (fG A.m p f i) (iG A.m p f i) (iy A.m p f i))).r (y 9) L:=a 9 (by decide);have hc:((FH G.heap.size (fG A.m p f i))).r (y 10) L:=a 10 (by decide);have ha:((fu G.heap.size 32 2)).r (y 13) L:=a 13 (by decide);have z:=a 14 (by decide);clear a;simp only[dS,bJ,bM,bP];obtain⟨gd,cd,hM,hO,hm,u,hl,s⟩:=z;simp only[yS]at hl;subst hl;obtain⟨a1,c1,rfl,_⟩:=s.rd;have Z:=k3.below d;have s4:=U.below d;have hf:=ae U.size;clear hv ht hc ha k3 U px3 d
    by_cases O:iy A.m p f i=0
    ·have hq:Hid (lT ⟨A.ma,e3⟩ p f i=(Kp.mk { A.ma with m:=fG A.m p f i } e3,((iG A.m p f i:Nat):Int))):=ae (by unfold lT;exact if_neg (λh'=>h' O));have hx:=hm.cell;rw[O];generalize fG A.m p f i=M at *
     generalize iG A.m p f i=K at *
     go_wp2_with (first | (refine ay _ 0 [.slice a1 M.fs.length c1,.int .i64 M.hand] (cK hm 0 2) _ underlying32 rfl mem_size ?_) | (refine fV _ _ b 0 _ _ _ Z.blk (by show 0+2<=12;decide) mem_size (gL _ _ _ _) ?_))
     intro w5 hA hj;have k5:=Z.setM (s.mono (aX hL.out hf.out)) hA hj;go_wp2;go_ret;rw[hR.out,hq.out];exact⟨rfl,_,_,k5,s4.putF hj (s.mono hf.out) (aC _) rfl rfl,rfl⟩
    have hq:Hid (lT ⟨A.ma,e3⟩ p f i=(⟨A.ma,e3⟩,-1)):=ae (by unfold lT;exact if_pos O);go_wp2;go_ret;rw[hR.out,hq.out];exact⟨rfl,_,_,Z,s4,rfl⟩
   | false=>
    have hR:Hid (fC ⟨H.ma,e⟩ p f i=(⟨A.ma,e3⟩,-1)):=ae (by rw[hr.out,hb,if_neg (by decide),V.out]);clear hb hr V;go_wp2;go_ret;rw[hR.out];exact⟨rfl,_,_,k3,U,rfl⟩
  obtain⟨cs,T,hb,hT⟩:=k2.kb_T X;exact absurd rfl (uX P hb (by rcases hT with rfl | rfl | rfl | rfl<;>decide))
 have hs:¬((fO H.m.fs:Nat):Int)=0:=by omega
 have hR:Hid (fC ⟨H.ma,e⟩ p f i=lT ⟨H.ma,e⟩ p f i):=ae (by unfold fC;exact if_neg O);clear O;have hQ:fO H.m.fs=fO H.m.fs:=rfl;generalize fO H.m.fs=N at hs;go_upto_region 3 with(fail);have hP:=ae (rfl:fG H.m p f i=fG H.m p f i);refine gX 17 [_,_,_,_,_,_,_,_,.r 8 ((Ur E.heap.size (fG H.m p f i) (iG H.m p f i) (iy H.m p f i))),.r 9 ((Ur E.heap.size (fG H.m p f i) (iG H.m p f i) (iy H.m p f i))),.r 10 ((FH E.heap.size (fG H.m p f i))),.v (.int .i64 (iG H.m p f i:Nat)),.v (.int .i64 (iy H.m p f i)),.r 13 ((fu E.heap.size 32 2)),.y 14 ((MN 13 E.heap.size 32 (FH E.heap.size (fG H.m p f i)))),.v (.int .i64 (iG H.m p f i:Nat)),.v (.int .i64 (iy H.m p f i))] (λW=>Below E.heap.size E W) bH (Below.refl _ _) (Yk bH rfl (Yk bH rfl (Yf bH b 0 rfl rfl (Yf bH b 0 rfl rfl (Yr bH (.agg #[.slice H.af H.m.fs.length H.cf,.int .i64 H.m.hand]) (λρ y W hb t=>(bO rfl (bi rfl t) (cK (k2.below hb).blk 0 2) underlying32)) rfl rfl (Yr bH (.agg #[.int .u8 p[0].toNat,.int .u8 p[1].toNat,.int .u8 p[2].toNat,.int .u8 p[3].toNat,.int .u8 p[4].toNat,.int .u8 p[5].toNat,.int .u8 p[6].toNat,.int .u8 p[7].toNat]) (λρ y W hb t=>(bO rfl (bi rfl t) (cK (P.ext hb) 0 8) underlying58)) rfl rfl (Yk bH rfl (Yk bH rfl (aj ?_ (aj ?_ (aj ?_ (aj ?_ (aj ?_ (aj ?_ (aj ?_ (Yk bH rfl (Yk bH rfl (aH)))))))))))))))))) (λ_=>rfl) rfl ?_
 ·intro ρ y W C J hb D;refine fw hb ((Ur E.heap.size (fG H.m p f i) (iG H.m p f i) (iy H.m p f i))) ?_;have hK:=C 29 4 rfl;have h4:y 4=_:=D 4 rfl;have hJ:=C 30 5 rfl;have h5:y 5=_:=D 5 rfl;have hI:=C 31 6 rfl;have h6:y 6=_:=D 6 rfl;have hH:=C 32 7 rfl;have h7:y 7=_:=D 7 rfl;have EF:=eF0 J λ_=>trivial;refine aL (aW rfl (EF _) func136 (by simp only[bU,bM,bP,hK,h4,hJ,h5,hI,h6,hH,h7,EF];rfl)) ?_;refine(IE H.m p f i H.af H.cf W (k2.below hb).ma.rd.fr).mono ?_;rintro r L ⟨u,rfl,R,hB⟩;exact⟨_,rfl,hB,u,rfl,R.mono hb.size⟩
 ·intro ρ y W C J hb D;refine fw hb ((Ur E.heap.size (fG H.m p f i) (iG H.m p f i) (iy H.m p f i))) ?_;have hG:=C 33 8 rfl;have h8:=D 8 rfl;refine ak _ (run_move (.inl rfl) hG) (m:=?_);exact h8
 ·intro ρ y W C J hb D;refine fw hb ((FH E.heap.size (fG H.m p f i))) ?_;have l:=C 24 9 rfl;have S:=D 9 rfl;obtain⟨u,Q,R⟩:=S;refine ak (.agg #[u,.int .i64 (fG H.m p f i).hand]) (by simp[execOp,go_sem,bJ,l,Q]) (m:=?_);exact⟨u,rfl,R⟩
 ·intro ρ y W C J hb D;refine fw hb (fQ (.int .i64 (iG H.m p f i:Nat))) ?_;have l:=C 24 9 rfl;have S:=D 9 rfl;obtain⟨u,Q,R⟩:=S;refine ak (.int .i64 (iG H.m p f i:Nat)) (by simp[execOp,go_sem,bJ,l,Q])
 ·intro ρ y W C J hb D;refine fw hb (fQ (.int .i64 (iy H.m p f i))) ?_;have l:=C 24 9 rfl;have S:=D 9 rfl;obtain⟨u,Q,R⟩:=S;refine ak (.int .i64 (iy H.m p f i)) (by simp[execOp,go_sem,bJ,l,Q])
 ·intro ρ y W C J hb D;refine fw hb ((fu E.heap.size 32 2)) ?_;refine gM (.pointer (some ⟨W.heap.size,0,none⟩)) (ag) (by simp[execOp,go_sem,bJ]) ((Below.refl _ _).alloc (aC _) (.cells #[.slice none 0 0,.int .i64 0] 32)) ?_;exact⟨_,_,rfl,hb.size,aK.new _ _ _,rfl⟩
 ·intro ρ y W C J hb D;have E9:=C 9 13 rfl;have hD:=D 13 rfl;have hF:=C 34 10 rfl;have hE:=D 10 rfl;obtain⟨u,e7,hh⟩:=hE;obtain⟨g3,I,e9,hi,j,hg⟩:=hD;refine jT _ _ _ g3 0 (.agg #[u,.int .i64 (fG H.m p f i).hand]) [u,.int .i64 (fG H.m p f i).hand] (E9.trans e9) (hF.trans e7) rfl I _ j (by rw[hg];exact aC _) mem_size (by obtain⟨a1,c1,rfl,_⟩:=hh.rd;exact gH (gL _ _ _ _)) ?_;intro w1 o g;rw[show ∀(x y:Value),[x,y]=(#[x,y]:Array Value).toList fromλ_ _=>rfl,eT I _ (by rw[hg];rfl)]at o;refine⟨hb.grown g hb.size (λk X=>by cases X;exact hi),⟨g3,_,e9,hi,o,⟨_,rfl,aA hh j g⟩⟩,?_⟩;intro k X hy
  match k,X,hy with
  | 0,_,_|1,_,_|2,_,_|3,_,_|4,_,_|5,_,_|6,_,_|7,_,_=>exactλh=>h
  | 8,_,_|9,_,_|10,_,_=>exactλ⟨c,q1,q2⟩=>⟨c,q1,aA q2 j g⟩
  | 11,_,_|12,_,_=>exactλh=>h
  | 13,_,_=>exactλq=>iY q o ⟨_,j⟩ g
  | 14,_,h=>exact absurd rfl h
  | 15,_,_|16,_,_=>exactλh=>h
  | n+17,h,_=>exact absurd h (by omega)
 intro y L d a;replace d:Below E.heap.size E L:=d;have hv:((Ur E.heap.size (fG H.m p f i) (iG H.m p f i) (iy H.m p f i))).r (y 8) L:=a 8 (by decide);have ht:((Ur E.heap.size (fG H.m p f i) (iG H.m p f i) (iy H.m p f i))).r (y 9) L:=a 9 (by decide);have hc:((FH E.heap.size (fG H.m p f i))).r (y 10) L:=a 10 (by decide);have ha:((fu E.heap.size 32 2)).r (y 13) L:=a 13 (by decide);have z:=a 14 (by decide);clear a;simp only[dS,bJ,bM,bP];obtain⟨gd,cd,hM,hO,hm,u,hl,s⟩:=z;simp only[yS]at hl;subst hl;obtain⟨a1,c1,rfl,_⟩:=s.rd;have Z:=k2.below d;have s4:=s2.below d;have hf:=ae s2.size;clear hv ht hc ha k2 s2 P d
 by_cases O:iy H.m p f i=0
 ·have hq:Hid (lT ⟨H.ma,e⟩ p f i=(Kp.mk { H.ma with m:=fG H.m p f i } e,((iG H.m p f i:Nat):Int))):=ae (by unfold lT;exact if_neg (λh'=>h' O));have hx:=hm.cell;rw[O];generalize fG H.m p f i=M at *
  generalize iG H.m p f i=K at *
  go_wp2_with (first | (refine ay _ 0 [.slice a1 M.fs.length c1,.int .i64 M.hand] (cK hm 0 2) _ underlying32 rfl mem_size ?_) | (refine fV _ _ b 0 _ _ _ Z.blk (by show 0+2<=12;decide) mem_size (gL _ _ _ _) ?_))
  intro w5 hA hj;have k5:=Z.setM (s.mono (aX hL.out hf.out)) hA hj;go_wp2;go_ret;rw[hR.out,hq.out];exact⟨rfl,_,_,k5,s4.putF hj (s.mono hf.out) (aC _) rfl rfl,rfl⟩
 have hq:Hid (lT ⟨H.ma,e⟩ p f i=(⟨H.ma,e⟩,-1)):=ae (by unfold lT;exact if_pos O);go_wp2;go_ret;rw[hR.out,hq.out];exact⟨rfl,_,_,Z,s4,rfl⟩
theorem DI(l:List Cc)(x:Cc)(k:Nat)(X:k<=l.length)(v:Value)(B g:Nat)(w:World)(J:Own w B 122 3 v l.length (l.flatMap kM))(hB:B<=w.heap.size)(hl:l.length<=1000)(N:aK w g (zF x) 122)(hne:k<l.length->∀b,v.ownBlock=some b->g≠b) :
  Calls Tryz.prog 141 #[v,.int .i64 k,.slice (some ⟨g,0,none⟩) 1 1] w λe w' => ∃V,e = .returned V/\Own w' B 122 3 V (l.length+1) ((l.take k++x::l.drop k).flatMap kM)/\w.grownBy w' v.ownBlock/\zl w v V:=by
 obtain⟨a0,c0,hs,hJ,z,hD,_⟩:=J.rd;unfold maxLen at z
 by_cases hkl:k=l.length
 ·subst hkl;have ha:(l.take l.length++x::l.drop l.length).flatMap kM=l.flatMap kM++kM x:=by simp[iq]
  have hi:=ae ha;clear ha;subst hs;go_enter func141,ntmps141
  go_wp2_with (at_builtin;refine nk rfl _ _ 42 rfl B 122 _ 3 24 underlying42 cached_info rfl _ l.length (l.flatMap kM) rfl J (some ⟨g,0,none⟩) 1 1 (kM x) rfl (λh=>(by cases h)) (aC _) rfl N.rd (λu hu=>BU [x] u (by simpa using hu)) (by unfold maxLen;omega) (by omega) hB ?_)
  all_goals
   intro V w' hh h6 hY;go_wp2;go_ret;exact⟨_,rfl,by rw[hi.out];exact hh,by cases a0<;>exact h6,by cases a0<;>exact hY⟩
 have h3:k<l.length:=by omega
 rcases J with⟨hlen,⟨_,hz⟩|⟨b,A,c,cur,rfl,hBb,R,hnc,T,Z,K⟩⟩
 ·omega
 have hM:g≠b:=hne h3 b rfl;clear hs hJ z hD;have ko:=R.lt;have kl:=N.lt;have kf:¬((k:Int)=(l.length:Int)):=by omega
 have kk:(k:Int)<=(l.length:Int):=by omega
 have hI:=T;unfold maxLen at hI;have kh:IntKind.i64.wrap ((k:Int)+1)=(k:Int)+1:=dz _ (by omega);have kg:IntKind.i64.wrap ((l.length:Int)+1)=(l.length:Int)+1:=dz _ (by omega);have ki:((k:Int)+1).toNat=k+1:=by omega
 have hN:((l.drop k).flatMap kM).length=(l.length-k)*3:=by rw[kQ,sU]
 have kn:¬(c=k):=by omega
 have hO:=DF X K;have hw:=xY (k:=k) K
 by_cases Q:l.length+1<=c
 ·have hZ:¬((c:Int)<(l.length:Int)+1):=by omega
  have hT:¬(c=k+1):=by omega
  have h4:(0:Int)<=(k:Int)+1:=by omega
  have h8:(k:Int)<=(l.length:Int)+1:=by omega
  have hC:∀S U W,W=w->(callFunc 179 #[.slice (some ⟨g,0,none⟩) 1 1,.slice (some ⟨b,A+(k+1)*3,none⟩) S U]).run Tryz.prog W = .ok (.value (.bool false)) W:=by
   intro S U W L;subst L;have hy:∀w,(Go.sizeOf 122).run Tryz.prog w = .ok 3 w:=by
    intro w;cases hq:Tryz.prog.info? 122 with
    | none=>have:=cached_size;simp[hq]at this
    | some i=>
     have hz:i.size=3:=by have:=cached_size;simpa[hq]using this
     simp[Go.sizeOf,typeInfo,run_program,hq,hz]
   rw[run_callFunc_extern func179 (by kernel_rfl) (by kernel_rfl) (by kernel_rfl) (e:=Extern.SlicesOverlaps.overlaps #[42,42] #[4]) (by kernel_rfl),
    Lib.run_overlaps_apart W 42 4 122 underlying42 3 hy ⟨g,0,none⟩ ⟨b,A+(k+1)*3,none⟩ 1 1 S U hM 122 122 3 cur.size (by unfold aK at N;simp[World.shape?,N,zF]) (by unfold aK at R;simp[World.shape?,R]) (by omega) (N.free _) (N.free _)]
   rfl
  have hS:∀W D I O,aK W b cur 122->(Builtin.copy_ #[42,42] D #[.slice (some ⟨b,A+(k+1)*3,none⟩) (l.length-k) I,.slice (some ⟨b,A+k*3,none⟩) (l.length+1-k) O]).run Tryz.prog W = .ok (goInt (l.length-k:Nat)) (W.setCells b (A+(k+1)*3) ((l.drop k).flatMap kM)):=λW D I O L=>
   lu W _ _ D 122 3 b (A+(k+1)*3) (l.length-k) I ⟨b,A+k*3,none⟩ (l.length+1-k) O (l.length-k) _ cur _ underlying42 cached_size (by simp only[vK];split<;>omega) hN L (λj v C=>by rw[oF,L.cell];exact hO j v C) (by omega) (λv P=>BU _ v P)
  have hR:∀W D I,aK W b (dO cur (A+(k+1)*3) ((l.drop k).flatMap kM)) 122->aK W g (zF x) 122->(Builtin.copy_ #[42,42] D #[.slice (some ⟨b,A+k*3,none⟩) (l.length+1-k) I,.slice (some ⟨g,0,none⟩) 1 1]).run Tryz.prog W = .ok (goInt (1:Nat)) (W.setCells b (A+k*3) (kM x)):=λW D I L hp=>
   lu W _ _ D 122 3 b (A+k*3) (l.length+1-k) I ⟨g,0,none⟩ 1 1 1 _ _ _ underlying42 cached_size (by simp only[vK];split<;>omega) rfl L (λj v C=>by rw[oF,hp.cell,dL];simpa[kM]using C) (by rw[size_putAt,kD];omega) (λv P=>JU x v P)
  have hA:=λS U=>hC S U w rfl;clear hC;go_enter func141,ntmps141
  go_wp2_with (simp only[hA])
  go_region_law (refine Am rfl _ _ 42 42 rfl (.slice (some ⟨b,A+(k+1)*3,none⟩) (l.length-k) (c-(k+1))) (.slice (some ⟨b,A+k*3,none⟩) (l.length+1-k) (c-k)) (by simp[Act.eval,Act.put]) (by simp[Act.eval,Act.put]) (hS _ _ _ _ R.drew) ?_)
  have p:=(R.drew).setCells ((l.drop k).flatMap kM) (A+(k+1)*3);have hm:aK (w.drew.setCells b (A+(k+1)*3) ((l.drop k).flatMap kM)) g (zF x) 122:=N.drew.grown (aD _ _ _ _) (λe=>hM (aU e).symm);have d:w.grownBy (w.drew.setCells b (A+(k+1)*3) ((l.drop k).flatMap kM)) (some b):=gu (a:=w) (b:=w.drew) (row:=some b) ⟨rfl,rfl,rfl,aC _,λ_ _ _=>rfl⟩ (aD w.drew _ _ _);generalize w.drew.setCells b (A+(k+1)*3) ((l.drop k).flatMap kM)=W1 at *
  go_wp2_with (at_builtin;refine VT _ rfl _ _ 42 42 rfl _ _ rfl rfl (hR _ _ _ p hm) ?_)
  have hn:=p.setCells (kM x) (A+k*3);have o:w.grownBy (W1.setCells b (A+k*3) (kM x)) (some b):=gu d (aD _ _ _ _);go_wp2;go_ret;refine⟨_,rfl,⟨by rw[Cu];simp only[fI,kQ,kD,eG,sU];omega,.inr ⟨b,A,c,_,rfl,hBb,hn,Q,T,by rw[size_putAt,size_putAt];exact Z,Gw X ?_ ?_ ?_⟩⟩,o,.inl rfl⟩
  ·intro j u C;have s:j<k*3:=by have:=(dw.1 C).1;rw[kQ,eG]at this;omega
   rw[putAt_out _ _ _ _ (by omega),putAt_out _ _ _ _ (by omega)];exact hw j u C
  ·intro j u C;exact putAt_in _ _ _ j u (by rw[size_putAt,kD];omega) C
  intro j u C;rw[putAt_out _ _ _ _ (by rw[kD];omega)];exact putAt_in _ _ _ j u (by omega) C
 have hc:c=l.length:=by omega
 subst hc;obtain⟨i0,h5,hV,hU,hr⟩:=info_parts cached_info;have hZ:(l.length:Int)<(l.length:Int)+1:=by omega
 have kd:¬((l.length:Int)+1<=(l.length:Int)):=by omega
 have hT:k+1<=l.length:=by omega
 have kj:IntKind.i64.wrap ((l.length:Int)+1-(k:Int))=((l.length+1-k:Nat):Int):=by rw[dz _ (by omega)];omega
 have kc : (l.length:Int)+1-(k:Int)=((l.length+1-k:Nat):Int):=by omega
 have hK:k+(l.length+1-k)=l.length+1:=by omega
 have ht:((l.take k).flatMap kM).length=k*3:=by rw[kQ,eG,uW X]
 have y:(Builtin.firstCells i0.size k (.slice (some ⟨b,A,none⟩) k l.length)).run Tryz.prog w.drew = .ok ((l.take k).flatMap kM).toArray w.drew:=by rw[hU];exact run_firstCells_some w.drew 3 k ⟨b,A,none⟩ k l.length _ ht (λj v C=>by rw[oF,R.drew.cell];exact hw j v C)
 have r:∀D,(Builtin.append_ #[42,3] D #[.slice (some ⟨b,A,none⟩) k l.length,.int .i64 ((l.length+1-k:Nat):Int)]).run Tryz.prog w =
   .ok (.slice (some ⟨w.heap.size,0,none⟩) (l.length+1) (grownCap w (l.length+1) l.length 122)) (w.drew.alloc (.cells (((l.take k).flatMap kM).toArray++Builtin.zeroCells (zF zCc) (l.length+1-k)++Builtin.zeroCells (zF zCc) (grownCap w (l.length+1) l.length 122-(l.length+1))) 122)):=λD=>by
  have h:=Lib.run_append_grow_zeros w 42 3 D 122 i0 _ .i64 .i64 underlying42 underlying3 h5 hV (some ⟨b,A,none⟩) k l.length ((l.take k).flatMap kM) y (l.length+1-k) (by omega) (by omega) (by omega) (by omega) (by rw[hr];omega) (by rw[hr,hK];exact growslice_fits (by omega) (by omega));rw[hK]at h;exact h
 obtain⟨G,Y⟩:∃G,G=grownCap w (l.length+1) l.length 122:=⟨_,rfl⟩;have kb:l.length+1<=G:=by rw[Y];exact grownCap_ge w _ _ _
 have hd:G<=maxLen:=by rw[Y];exact grownCap_le_maxLen w _ _ _ (by unfold maxLen;omega)
 obtain⟨E,m⟩:∃E:Array Value,E=((l.take k).flatMap kM).toArray++Builtin.zeroCells (zF zCc) (l.length+1-k)++Builtin.zeroCells (zF zCc) (G-(l.length+1)):=⟨_,rfl⟩;rw[<-Y,<-m]at r;have kp:E.size=G*3:=by rw[m];simp[Builtin.zeroCells,zF,ht];omega
 have ka:∀(j:Nat) (u:Value),((l.take k).flatMap kM)[j]?=some u->E[j]?=some u:=by intro j u C;have s:=(dw.1 C).1;rw[m,Array.append_assoc,Array.getElem?_append_left (by simpa using s)];simpa using C
 clear y m Y;obtain⟨W1,n⟩:∃W1,W1=w.drew.alloc (.cells E 122):=⟨_,rfl⟩;rw[<-n]at r;have hF:aK W1 w.heap.size E 122:=by rw[n];exact aK.new w.drew E _
 have d:w.grownBy W1 (some b):=by rw[n];exact gu (a:=w) (b:=w.drew) (row:=some b) ⟨rfl,rfl,rfl,aC _,λ_ _ _=>rfl⟩ (Kl _ _ _)
 have p:aK W1 b cur 122:=by rw[n];exact R.drew.alloc _
 have hm:aK W1 g (zF x) 122:=by rw[n];exact N.drew.alloc _
 clear n;have h7:w.heap.size≠b:=by omega
 have km:w.heap.size≠g:=by omega
 have hQ:∀W D I,aK W w.heap.size E 122->aK W g (zF x) 122->(Builtin.copy_ #[42,42] D #[.slice (some ⟨w.heap.size,k*3,none⟩) (l.length+1-k) I,.slice (some ⟨g,0,none⟩) 1 1]).run Tryz.prog W = .ok (goInt (1:Nat)) (W.setCells w.heap.size (k*3) (kM x)):=λW D I L hp=>
  lu W _ _ D 122 3 w.heap.size (k*3) (l.length+1-k) I ⟨g,0,none⟩ 1 1 1 _ _ _ underlying42 cached_size (by simp only[vK];split<;>omega) rfl L (λj v C=>by rw[oF,hp.cell,dL];simpa[kM]using C) (by rw[kD];omega) (λv P=>JU x v P)
 have hP:∀W D I O,aK W w.heap.size (dO E (k*3) (kM x)) 122->aK W b cur 122->(Builtin.copy_ #[42,42] D #[.slice (some ⟨w.heap.size,(k+1)*3,none⟩) (l.length-k) I,.slice (some ⟨b,A+k*3,none⟩) (l.length-k) O]).run Tryz.prog W = .ok (goInt (l.length-k:Nat)) (W.setCells w.heap.size ((k+1)*3) ((l.drop k).flatMap kM)):=λW D I O L h9=>
  lu W _ _ D 122 3 w.heap.size ((k+1)*3) (l.length-k) I ⟨b,A+k*3,none⟩ (l.length-k) O (l.length-k) _ _ _ underlying42 cached_size (by simp only[vK];split<;>omega) hN L (λj v C=>by rw[oF,h9.cell];exact hO j v C) (by rw[size_putAt];omega) (λv P=>BU _ v P)
 have kq:¬(G=k):=by omega
 have ke:¬(G=k+1):=by omega
 have h4:(0:Int)<=(k:Int)+1:=by omega
 have h8:(k:Int)<=(l.length:Int)+1:=by omega
 have hH:=hd;unfold maxLen at hH;go_enter func141,ntmps141
 go_wp2_with (at_builtin;refine Lib.wpList_append_run _ rfl _ _ _ _ rfl _ _ rfl rfl _ _ (r _) ?_)
 have hE:=hF.setCells (kM x) (k*3);have hn:aK (W1.setCells w.heap.size (k*3) (kM x)) b cur 122:=p.grown (aD _ _ _ _) (λe=>h7 (aU e));have o:∀q,q<w.heap.size->q≠b->(W1.setCells w.heap.size (k*3) (kM x)).heap[q]?=w.heap[q]?:=λq hq hf=>
  ((aD W1 w.heap.size (k*3) (kM x)).block q (jq hq d.size) (λe=>by have:=aU e;omega)).trans (d.block q hq (λe=>hf (aU e)))
 have h1:=(aD W1 w.heap.size (k*3) (kM x)).os.trans d.os;have hX:=(aD W1 w.heap.size (k*3) (kM x)).tape.trans d.tape;have h0:=(aD W1 w.heap.size (k*3) (kM x)).output.trans d.output;have t:=aX d.size (aD W1 w.heap.size (k*3) (kM x)).size;generalize W1.setCells w.heap.size (k*3) (kM x)=W2 at *
 clear hF hm p r hQ
 go_region_law (refine Am rfl _ _ 42 42 rfl (.slice (some ⟨w.heap.size,(k+1)*3,none⟩) (l.length-k) (G-(k+1))) (.slice (some ⟨b,A+k*3,none⟩) (l.length-k) (l.length-k)) (by simp[Act.eval,Act.put]) (by simp[Act.eval,Act.put]) (hP _ _ _ _ hE.drew hn.drew) ?_)
 have h2:=hE.drew.setCells ((l.drop k).flatMap kM) ((k+1)*3);have f:=aD W2.drew w.heap.size ((k+1)*3) ((l.drop k).flatMap kM);have hL:w.grownBy (W2.drew.setCells w.heap.size ((k+1)*3) ((l.drop k).flatMap kM)) (some b):=
  ⟨f.os.trans h1,f.tape.trans hX,f.output.trans h0,aX t f.size,λq hq hf=>(f.block q (jq hq t) (λe=>by have:=aU e;omega)).trans (o q hq (λe=>hf (by rw[e])))⟩
 go_wp2;go_ret;refine⟨_,rfl,⟨by rw[Cu];simp only[fI,kQ,kD,eG,sU];omega,.inr ⟨w.heap.size,0,G,_,rfl,hB,h2,kb,hd,by rw[size_putAt,size_putAt];omega,Gw X ?_ ?_ ?_⟩⟩,hL,.inr (λx hx=>by cases hx;exact aC _)⟩
 ·intro j u C;have s:j<k*3:=by have:=(dw.1 C).1;rw[kQ,eG]at this;omega
  rw[dL,putAt_out _ _ _ _ (by omega),putAt_out _ _ _ _ (by omega)];exact ka j u C
 ·intro j u C;have s:j<3:=by have:=(dw.1 C).1;rwa [kD]at this
  rw[dL,putAt_out _ _ _ _ (by omega)];exact putAt_in _ _ _ j u (by rw[kD];omega) C
 intro j u C;rw[dL];exact putAt_in _ _ _ j u (by rw[size_putAt];omega) C
theorem zS(cur:Array Value)(s o n:Nat)(d k vs:List Value)(y:∀j u,d[j]?=some u->cur[s+j]?=some u)(D:k=d.take o++vs++d.drop (o+n))(P:vs.length=n)(O:o+n<=d.length)(N:s+d.length<=cur.size):dO cur s k=dO cur (s+o) vs:=by
 have J:k.length=d.length:=by rw[D];simp;omega
 apply sM;intro i
 by_cases K:i<s\/s+d.length<=i
 ·rw[putAt_out _ _ _ _ (by rw[J];exact K),putAt_out _ _ _ _ (by omega)]
 have C:i-s<k.length:=by omega
 have I:=putAt_in k cur s (i-s) (k[i-s]'C) (by omega) (aM C);rw[show s+(i-s)=i by omega]at I;rw[I,<-aM C,D]
 by_cases h:i<s+o\/s+o+n<=i
 ·rw[putAt_out _ _ _ _ (by omega)];have A:i-s<d.length:=by omega
  have G:=y (i-s) (d[i-s]'A) (aM A);rw[show s+(i-s)=i by omega]at G;rw[G,<-aM A];rcases h with h|h
  ·rw[lF,jb (by rw[eG];omega),jO,if_pos (by omega)]
  rw[jv (by rw[fI,eG];omega),pG];congr 1;rw[fI,eG];omega
 have t:i-(s+o)<vs.length:=by omega
 have E:=putAt_in vs cur (s+o) (i-(s+o)) (vs[i-(s+o)]'t) (by omega) (aM t);rw[show s+o+(i-(s+o))=i by omega]at E;rw[E,lF,jv (by rw[eG];omega),eG];have L:i-s-min o d.length=i-(s+o):=by omega
 rw[L,jb t];exact aM t
theorem iw.frPut(h:iw w B b H e)(E:f<H.m.fs.length) :
  ∃g t cur,H.af=some ⟨g,t,none⟩/\aK w g cur 66/\t+f*13+13<=cur.size/\eD w (some ⟨g,t+f*13,none⟩) (rG (aF H.ma f)) /\
   ∀(o n:Nat) (vs:List Value) (x:Fr) (w' : World),vs.length=n->o+n<=13->rG x=(rG (aF H.ma f)).take o++vs++(rG (aF H.ma f)).drop (o+n)->aK w' g (dO cur (t+f*13+o) vs) 66->w.grownBy w' (some g) ->
    iw w' B b { H with m:=⟨H.m.fs.set f x,H.m.hand⟩ } e/\∀w0 H0,KS w0 b H0 w H->KS w0 b H0 w' { H with m:=⟨H.m.fs.set f x,H.m.hand⟩ }:=by
 obtain⟨g,t,cur,i,p,d,c,j,k,l,a⟩:=h.frame E;refine⟨g,t,cur,i,d,c,j,λo n vs x w' D I C G u=>⟨a w' x ?_ u,λw0 H0 s=>s.put u (.inr (.inl (by rw[i];rfl))) λy A => .inl (Bh rfl rfl rfl A)⟩⟩;have J:=jo (aF H.ma f);generalize rG (aF H.ma f)=ys at *
 generalize rG x=xs at *
 rw[zS cur (t+f*13) o n ys xs vs k C D (by omega) (by omega)];exact G
theorem yl{α:Type}(x:α):∀(l:List α) (k:Nat),k<=l.length->l.insertIdx k x=l.take k++x::l.drop k
 | l,0,_=>by simp
 | [],k+1,h=>by simp at h
 | a::l,k+1,h=>by rw[JJ,yl x l k (by simpa using h)];simp
theorem cac_size:(Tryz.prog.info? 42).map (·.size)=some 1:=by kernel_rfl
theorem LA(H:MH)(e:Int)(F I:Nat)(P:PF)(v:Int)(B b:Nat)(w:World)(h:iw w B b H e)(hP:H.fi[F]?=some P)(hv:P.l[I]?=some v)(hn:0<=P.n/\P.n<=1000)(hI:I<=1000)(hck:∀c∈H.ca,0<=c.k/\c.k<H.m.fs.length)(hwo:0<=v->aI H.dk v=0)
 (hz:H.sp.length<=1000) (X:H.ca.length<=1000) (hz3:H.m.fs.length<=1000) :
  Calls Tryz.prog 93 #[.pointer (some ⟨b,0,none⟩),.int .i64 F,.int .i64 I] w λr w'=>r = .returned (.int .i64 (cO ⟨H.ma,e⟩ F I).2)/\KR w B b H w' (cO ⟨H.ma,e⟩ F I).1:=by
 go_enter func93,ntmps93
 go_wp2_with fail
 refine(EQ H e F I B b _ h).mono ?_;rintro r w1 ⟨rfl,hJ⟩;have k1:=h.below hJ;have s1:=(KS.refl w b H).below hJ;clear h hJ;cases hi:KW H.ca F I with
 | true=>
  have s:Hid (cO ⟨H.ma,e⟩ F I=(⟨setFr H.ma (oV H.ma (vZ H.ca F I)).k.toNat (lN (aF H.ma (oV H.ma (vZ H.ca F I)).k.toNat)),e⟩,(oV H.ma (vZ H.ca F I)).k)):=ae (by unfold cO;exact if_pos hi);obtain⟨c,hc,_,_⟩:=Hw hi;have kg:=(dw.1 hc).1;have h8:oV H.ma (vZ H.ca F I)=c:=by unfold oV;show H.ca.getD _ _=c;rw[bA,hc];rfl
  have h7:=hck c (dB hc);rw[h8]at s;clear h8 hi;generalize vZ H.ca F I=k at *
  obtain⟨K,hK⟩:∃K:Nat,c.k=K:=⟨c.k.toNat,by omega⟩;rw[hK,bu]at s;have kl:K<H.m.fs.length:=by omega
  obtain⟨bc,oc,c',kj,h9,_,_,hX⟩:=VQ k1.ma.rd.ca.rd k kg;rw[hc]at h9;cases h9;rw[hK]at hX;have kr:(K:Int)<(H.m.fs.length:Int):=by omega
  obtain⟨g,off,cur,ki,ka,kp,kf,hZ⟩:=k1.frPut kl;have i:=k1.blk.cell;unfold lm at i;rw[kj,ki]at i;clear hc h7 hck hP hv kf
  go_wp2_with (refine aY g (off+K*13+9) [.bool true] rfl rfl rfl _ _ ka (by simp;omega) uO (λu hu=>by cases bF.1 hu;rfl) ?_)
  intro w2 hp kh;obtain⟨O,Y⟩:=hZ 9 1 [.bool true] (lN (aF H.ma K)) w2 rfl (by decide) rfl hp kh;have Y:=Y _ _ s1;go_wp2;go_ret;rw[s.out];exact⟨rfl,_,_,O,Y,rfl⟩
 | false=>
  have s:Hid (cO ⟨H.ma,e⟩ F I=(let r:=fC ⟨H.ma,Fz ⟨H.ma,e⟩ F I⟩ (dh H.ma F I) F I
   if r.2<0 then(r.1,-1)else(⟨{ r.1.m with ca:=r.1.m.ca.insertIdx (vZ r.1.m.ca F I) ⟨F,I,r.2⟩ },r.1.e⟩,r.2))):=ae (by unfold cO;exact if_neg (by show ¬KW H.ca F I=true;rw[hi];decide))
  clear hi hck;have ku:=ae k1.bs;have hY:aZ H.ma.st F I=v:=by unfold aZ;rw[iN (x:=P.fi) (by show(H.fi.map PF.fi)[F]?=_;rw[iH,hP];rfl),bu,bA];show(P.l[I]?).getD 0=v;rw[hv];rfl
  have h4:(az H.ma.st F).n=P.n:=by rw[iN (x:=P.fi) (by show(H.fi.map PF.fi)[F]?=_;rw[iH,hP];rfl)];rfl
  have hl:Hid (Fz ⟨H.ma,e⟩ F I=if 0<=v then iD e (aI H.dk v)else e):=ae (by unfold Fz;rw[hY];rfl);have hy:Hid (dh H.ma F I=if 0<=v then aO (dN H.dk v) (P.n-I*8)else zPg):=ae (by unfold dh;rw[hY,h4];rfl);clear hY h4;generalize vZ H.ca F I=k0 at *
  go_upto_region 7 with(fail);refine iP (λW=>Code.wp _ _ _ _ W) λw2 hp T ke => ?_;have O:=k1.below hp;have Y:=s1.below hp;have hO:=(dw.1 hP).1;obtain⟨bf,of,P',hA,hf,hW,hV⟩:=yB O.ma.rd.st.rd F hO;rw[hP]at hf;cases hf;have J:=O.ma.rd.st.good P (dB hP);have ks:=(dw.1 hv).1;obtain⟨bb,ob,kk,h5⟩:∃bb ob,P.a=some ⟨bb,ob,none⟩/\w2.cell? ⟨bb,ob+I,none⟩=some (.int .i64 v):=by obtain⟨bb,ob,h1,h2⟩:=J.rd I (ib v) (by rw[iH,hv];rfl);exact⟨bb,ob,h1,h2⟩
  rw[kk]at hV;have i:=O.blk.cell;unfold lm at i;rw[hA]at i;have kt:(F:Int)<(H.fi.length:Int):=by omega
  have kb:(I:Int)<(P.l.length:Int):=by omega
  by_cases h0:0<=v
  ·have hw:=hwo h0;rw[if_pos h0]at hl hy;rw[hw,oq]at hl;go_upto_region 9 with(fail);clear i hV h5 J kb
   go_wp2_with (refine ay b 5 _ O.rdD _ underlying38 rfl disk_size ?_)
   refine(Ji H.dk v _ _ _ _ _ O.ma.rd.dk).mono ?_;rintro r w3 ⟨rfl,hG⟩;rw[hw];have k3:=O.below hG;have s3:=Y.below hG;have pg3:=T.ext hG;have hT:=ah hp hG
   go_wp2_with (refine aT (gW (dN H.dk v)) psize (pX _) ?_)
   intro w4 hF x4;have k4:=k3.below hF;have pg4:=pg3.ext hF;have s4:=s3.below hF;have hS:=ah hT hF
   go_wp2_with fail
   refine(rU _ e 0 _ _ _ k4).mono ?_;rintro r w5 ⟨rfl,k5,ht⟩;rw[oq]at k5;have q:Below w4.heap.size w4 w5:=⟨ht.os,ht.tape,ht.output,ht.size,λx hx=>by
    by_cases e' : x=b
    ·subst e'; exact k5.blk.trans k4.blk.symm
    ·exact ht.block x hx (λe''=>e' (aU e''))⟩
   clear k5 ht;have k5:=k4.below q;have s5:=s4.below q;have x5:=x4.ext q;have pg5:=pg4.ext q;have hH:=ah hS q;have kq:=pg5.lt;clear O Y hp k3 s3 pg3 hG hT k4 s4 pg4 hF hS q x4 T hA hW;obtain⟨bf,of,P',hA,hf,hW,_⟩:=yB k5.ma.rd.st.rd F hO;rw[hP]at hf;cases hf;have hQ:∀W,Below w5.heap.size w5 W->W.cell? ⟨bf,of+F*2,none⟩=some (.int .i64 P.n):=λW L=>by obtain⟨bf',of',P',hU,hf,h6,_⟩:=yB (k5.below L).ma.rd.st.rd F hO;rw[hP]at hf;cases hf;rw[hA]at hU;cases hU;exact h6
   have kd:IntKind.i64.wrap ((I:Int)*8)=(I:Int)*8:=dz _ (by omega);have kc:IntKind.i64.wrap (P.n-(I:Int)*8)=P.n-(I:Int)*8:=dz _ (by omega);go_upto_region 11 with(fail);refine aR 15 [_,_,_,_,_,_,_,_,_,_,_,_,_,_,.v (.agg (gW (aO (dN H.dk v) (P.n-(I:Int)*8))))] (Gr (.agg (gW (dN H.dk v))) (λρ y W L hN=>(cz rfl (bi rfl hN) (x5.ext L) underlying58 psize)) rfl rfl (Gk rfl (Gk rfl (Gf b 0 rfl rfl (Gf b 7 rfl rfl (Gf b 7 rfl rfl (Gc (.slice (some ⟨bf,of,none⟩) H.fi.length H.ci) (λW L=>by simp[(k5.below L).blk.cell,lm,hA]) rfl rfl rfl rfl (Gk rfl (Gr (.pointer (some ⟨bf,of+F*2,none⟩)) (λρ y W L hN=>(ed rfl (bi rfl hN) (bi rfl hN) hO underlying39 file_size)) rfl rfl (Gf bf (of+F*2) rfl rfl (Gc (.int .i64 P.n) (λW L=>by simp[hQ W L]) rfl rfl rfl rfl (Gk rfl (Gb (.int .i64 ((I:Int)*8)) (by simp[go_sem,kd]) rfl rfl rfl rfl rfl (Gb (.int .i64 (P.n-(I:Int)*8)) (by simp[go_sem,kc]) rfl rfl rfl rfl rfl (aj ?_ (aH)))))))))))))))) (λ_=>rfl) rfl ?_
   ·intro ρ y W hw hn L hd;have ko:=hw 72 0 rfl;have h0:y 0=_:=hd 0 rfl;have kn:=hw 85 13 rfl;have km:y 13=_:=hd 13 rfl;have EF:=eF0 hn λ_=>trivial;refine aL (aW rfl (EF _) func140 (by simp only[bU,bM,bP,ko,h0,kn,km,EF];rfl)) ?_;refine(QH _ _ _).mono ?_;rintro r w1 ⟨rfl,hJ⟩;exact⟨_,rfl,hJ,rfl⟩
   intro y W6 hs _
   go_wp2_with (refine fV _ _ w1.heap.size 0 (gW (aO (dN H.dk v) (P.n-(I:Int)*8))) _ _ (pg5.ext hs) (by show 0+8<=8;decide) psize (pX _) ?_)
   intro w7 hM h3;have hM:aK w7 w1.heap.size (gW (aO (dN H.dk v) (P.n-(I:Int)*8))) 58:=by rw[<-eT (gW zPg) (gW (aO (dN H.dk v) (P.n-(I:Int)*8))) rfl];exact hM
   have hR:Below w1.heap.size w1 w7:=(ah hH hs).grown h3 (aX hH.size hs.size) (λk hk=>by cases hk;exact aC _);have k7:=k1.below hR;have s7:=s1.below hR;clear k5 s5 x5 pg5 hH hs h3 hQ hW hA k1 s1;have hj:Hid (cO ⟨H.ma,e⟩ F I=if(fC ⟨H.ma,e⟩ (aO (dN H.dk v) (P.n-(I:Int)*8)) F I).2<0 then((fC ⟨H.ma,e⟩ (aO (dN H.dk v) (P.n-(I:Int)*8)) F I).1,-1)else(⟨{ (fC ⟨H.ma,e⟩ (aO (dN H.dk v) (P.n-(I:Int)*8)) F I).1.m with ca:=(fC ⟨H.ma,e⟩ (aO (dN H.dk v) (P.n-(I:Int)*8)) F I).1.m.ca.insertIdx (vZ (fC ⟨H.ma,e⟩ (aO (dN H.dk v) (P.n-(I:Int)*8)) F I).1.m.ca F I) ⟨F,I,(fC ⟨H.ma,e⟩ (aO (dN H.dk v) (P.n-(I:Int)*8)) F I).2⟩ },(fC ⟨H.ma,e⟩ (aO (dN H.dk v) (P.n-(I:Int)*8)) F I).1.e⟩,(fC ⟨H.ma,e⟩ (aO (dN H.dk v) (P.n-(I:Int)*8)) F I).2)):=ae (by rw[s.out,hl.out,hy.out]);clear s hl hy;generalize aO (dN H.dk v) (P.n-(I:Int)*8)=Q at *
   generalize w1.heap.size=gp at *
   go_upto_region 12 with(fail)
   go_wp2_with (refine ay gp 0 (gW Q).toList hM.rd _ underlying58 rfl psize ?_)
   refine(uj H e F I Q B b _ k7 hz X hz3).mono ?_;rintro r w8 ⟨rfl,A,e8,V,s8,q8⟩;have E:=s7.trans s8;have hD:=sV.took ⟨H.ma,e⟩ Q F I;obtain⟨m1,m2,m3⟩:=maH q8;have hE:A.ca.length<=1000:=by rw[m2];exact aX hD.ca X
   have G:=ae q8;clear k7 s7 hM s8 q8 hD m1 m2 m3;generalize hK2:(fC ⟨H.ma,e⟩ Q F I).2=K2
   by_cases h2:K2<0
   ·have hq:Hid (cO ⟨H.ma,e⟩ F I=(⟨A.ma,e8⟩,-1)):=ae (by rw[hj.out,hK2,if_pos h2,G.out]);go_wp2;go_ret;rw[hq.out];exact⟨rfl,_,_,V,E,rfl⟩
   have hq:Hid (cO ⟨H.ma,e⟩ F I=(⟨{ A.ma with ca:=A.ca.insertIdx (vZ A.ca F I) ⟨F,I,K2⟩ },e8⟩,K2)):=ae (by rw[hj.out,hK2,if_neg h2,<-G.out];rfl);clear hK2 hj G
   go_wp2_with fail
   refine(EQ A e8 F I B b _ V).mono ?_;rintro r w9 ⟨rfl,hm⟩;have U:=V.below hm;have s9:=E.below hm;clear V E hm;have hr:=Hl A.ca F I;generalize vZ A.ca F I=k0 at *
   generalize KW A.ca F I=ok0 at *
   have i:=U.blk.cell;unfold lm at i
   go_wp2_with fail
   refine iP (λW=>Calls _ _ _ W _) λw10 p N hB => ?_;have C:=U.below p;have D:=s9.below p;have hC:∀g,(Value.slice A.ac A.ca.length A.cc).ownBlock=some g->w9.heap.size≠g:=λg J e=>by rw[yE]at J;obtain⟨_,cs,L⟩:=qI U.ma.ca J;have:=L.lt;omega
   refine(DI A.ca ⟨F,I,K2⟩ k0 hr _ B _ _ C.ma.ca C.bs hE N (λ_=>hC)).mono ?_;rintro r w11 ⟨v11,rfl,d,o,j⟩;obtain⟨S,R,rfl,_⟩:=d.rd;rw[<-yl _ _ _ hr]at d;have t:(A.ca.insertIdx k0 ⟨F,I,K2⟩).length=A.ca.length+1:=by rw[List.length_insertIdx,if_pos hr]
   rw[<-t]at d;rw[yE]at o;obtain⟨hL,hh⟩:=C.cache D o (a:=S) (c:=R) (l:=A.ca.insertIdx k0 ⟨F,I,K2⟩) d (by
    rcases j with e' | e'
    ·rw[yE,yE]at e'; exact .inl e'
    refine .inr λg J => ?_;have:=e' g (by rw[yE];exact J);exact aX D.size this)
   rw[t]at hh;clear U s9 C D N p hB hC d o j i
   go_wp2_with (refine aY b 9 [.slice S (A.ca.length+1) R] rfl rfl rfl _ _ hL (by show 9+1<=12;decide) cac_size (λu hu=>by cases bF.1 hu;rfl) ?_)
   intro w12 ha z;obtain⟨k12,s12⟩:=hh w12 ha z;clear hh hL ha z;go_wp2;go_ret;rw[hq.out];exact⟨rfl,_,_,k12,s12,rfl⟩
  have Z : aK w2 w1.heap.size (gW zPg) 58:=T;rw[if_neg h0]at hl hy;go_upto_region 12 with(fail);have hj:Hid (cO ⟨H.ma,e⟩ F I=if(fC ⟨H.ma,e⟩ zPg F I).2<0 then((fC ⟨H.ma,e⟩ zPg F I).1,-1)else(⟨{ (fC ⟨H.ma,e⟩ zPg F I).1.m with ca:=(fC ⟨H.ma,e⟩ zPg F I).1.m.ca.insertIdx (vZ (fC ⟨H.ma,e⟩ zPg F I).1.m.ca F I) ⟨F,I,(fC ⟨H.ma,e⟩ zPg F I).2⟩ },(fC ⟨H.ma,e⟩ zPg F I).1.e⟩,(fC ⟨H.ma,e⟩ zPg F I).2)):=ae (by rw[s.out,hl.out,hy.out]);clear s hl hy k1 s1 hp T i hV h5 J kb ke;generalize zPg=Q at *
  generalize w1.heap.size=gp at *
  go_upto_region 12 with(fail)
  go_wp2_with (refine ay gp 0 (gW Q).toList Z.rd _ underlying58 rfl psize ?_)
  refine(uj H e F I Q B b _ O hz X hz3).mono ?_;rintro r w8 ⟨rfl,A,e8,V,s8,q8⟩;have E:=Y.trans s8;have hD:=sV.took ⟨H.ma,e⟩ Q F I;obtain⟨m1,m2,m3⟩:=maH q8;have hE:A.ca.length<=1000:=by rw[m2];exact aX hD.ca X
  have G:=ae q8;clear O Y Z s8 q8 hD m1 m2 m3;generalize hK2:(fC ⟨H.ma,e⟩ Q F I).2=K2
  by_cases h2:K2<0
  ·have hq:Hid (cO ⟨H.ma,e⟩ F I=(⟨A.ma,e8⟩,-1)):=ae (by rw[hj.out,hK2,if_pos h2,G.out]);go_wp2;go_ret;rw[hq.out];exact⟨rfl,_,_,V,E,rfl⟩
  have hq:Hid (cO ⟨H.ma,e⟩ F I=(⟨{ A.ma with ca:=A.ca.insertIdx (vZ A.ca F I) ⟨F,I,K2⟩ },e8⟩,K2)):=ae (by rw[hj.out,hK2,if_neg h2,<-G.out];rfl);clear hK2 hj G
  go_wp2_with fail
  refine(EQ A e8 F I B b _ V).mono ?_;rintro r w9 ⟨rfl,hm⟩;have U:=V.below hm;have s9:=E.below hm;clear V E hm;have hr:=Hl A.ca F I;generalize vZ A.ca F I=k0 at *
  generalize KW A.ca F I=ok0 at *
  have i:=U.blk.cell;unfold lm at i
  go_wp2_with fail
  refine iP (λW=>Calls _ _ _ W _) λw10 p N hB => ?_;have C:=U.below p;have D:=s9.below p;have hC:∀g,(Value.slice A.ac A.ca.length A.cc).ownBlock=some g->w9.heap.size≠g:=λg J e=>by rw[yE]at J;obtain⟨_,cs,L⟩:=qI U.ma.ca J;have:=L.lt;omega
  refine(DI A.ca ⟨F,I,K2⟩ k0 hr _ B _ _ C.ma.ca C.bs hE N (λ_=>hC)).mono ?_;rintro r w11 ⟨v11,rfl,d,o,j⟩;obtain⟨S,R,rfl,_⟩:=d.rd;rw[<-yl _ _ _ hr]at d;have t:(A.ca.insertIdx k0 ⟨F,I,K2⟩).length=A.ca.length+1:=by rw[List.length_insertIdx,if_pos hr]
  rw[<-t]at d;rw[yE]at o;obtain⟨hL,hh⟩:=C.cache D o (a:=S) (c:=R) (l:=A.ca.insertIdx k0 ⟨F,I,K2⟩) d (by
   rcases j with e' | e'
   ·rw[yE,yE]at e'; exact .inl e'
   refine .inr λg J => ?_;have:=e' g (by rw[yE];exact J);exact aX D.size this)
  rw[t]at hh;clear U s9 C D N p hB hC d o j i
  go_wp2_with (refine aY b 9 [.slice S (A.ca.length+1) R] rfl rfl rfl _ _ hL (by show 9+1<=12;decide) cac_size (λu hu=>by cases bF.1 hu;rfl) ?_)
  intro w12 ha z;obtain⟨k12,s12⟩:=hh w12 ha z;clear hh hL ha z;go_wp2;go_ret;rw[hq.out];exact⟨rfl,_,_,k12,s12,rfl⟩
theorem firstE_zero:∀ {l:List Int},firstE l=0↔∀x∈l,x=0
 | []=>by simp[firstE]
 | x::l=>by
  unfold firstE
  by_cases i:x=0
  ·rw[if_pos i,firstE_zero];constructor
   ·intro h y d;rcases fq.1 d with e|d
    ·rw[e,i]
    ·exact h y d
   ·exactλh y d=>h y (jh _ d)
  rw[if_neg i];exact⟨λh=>absurd h i,λh=>absurd (h x jN) i⟩
theorem oo{p:Prop}[Decidable p]{a b:Int}(i:a≠0:=by decide):(if p then a else b)=0↔¬p/\b=0:=by
 by_cases h:p
 ·rw[if_pos h];exact⟨λd=>absurd d i,λd=>absurd h d.1⟩
 ·rw[if_neg h];exact⟨λd=>⟨h,d⟩,λd=>d.2⟩
theorem nU{a b:Int}:(if a≠0 then a else b)=0↔a=0/\b=0:=by
 by_cases h:a=0
 ·rw[if_neg (λd=>d h)];exact⟨λd=>⟨h,d⟩,λd=>d.2⟩
 ·rw[if_pos h];exact⟨λd=>absurd d h,λd=>absurd d.1 h⟩
theorem DN{s:Sp}:kH s=0↔(dY s.ar).1=0/\eU s.tb=0/\(s.lv=false->s.ar=[]/\∀n,(dR s.tb n).k=0):=by
 unfold kH;rw[nU,nU,oo];refine and_congr_right λ_=>and_congr_right λ_ => ?_;constructor
 ·rintro⟨h,_⟩ o;have y:s.ar.length+(aV s.tb).length=0:=by
   rcases zq (s.ar.length+(aV s.tb).length)with d|d
   ·exact d
   ·exact absurd ⟨o,d⟩ h
  refine⟨kV (by omega),λn => ?_⟩
  by_cases i:0<=n/\n<64
  ·have t:aV s.tb=[]:=kV (by omega)
   by_cases u:(dR s.tb n).k=0
   ·exact u
   have:=lZ.2 ⟨i,u⟩;rw[t]at this;cases this
  ·rw[uP];rfl
 refineλh=>⟨?_,rfl⟩;rintro⟨o,d⟩;obtain⟨y,t⟩:=h o;have A:aV s.tb=[]:=by rw[List.eq_nil_iff_forall_not_mem];intro n i;exact(lZ.1 i).2 (t n)
 rw[y,A]at d;exact absurd d (by simp)
theorem IM :trimB m=true↔(∀b:Int,0<=b->b<m.dk.blocks.length->b∈gZ m.st\/m.dk.blocks.getD b.toNat zPg=zPg)/\∀q∈m.dk.queue,q.1∈gZ m.st:=by
 unfold trimB;rw[dJ,dG,dG];refine and_congr ⟨λh b k i => ?_,λh b i => ?_⟩ ⟨λh q d=>by simpa using h q d,λh q d=>by simpa using h q d⟩
 ·have:=h b.toNat (dx.2 (by omega));rw[Ew k]at this;simpa using this
 have:=h (b:Int) (by omega) (by have:=dx.1 i;omega);simpa using this
theorem yg :iO m=0↔Pt m/\trimB m=true/\∀s∈m.sp,s.lv=false->s.ar=[]/\∀n,(dR s.tb n).k=0:=by
 unfold iO;rw[nU,nU,nU,nU,nU,oo,oo,firstE_zero];constructor
 ·rintro⟨i,I,G,E,D,t,J,C⟩;have o:∀s∈m.sp,_:=λs d=>DN.1 (C _ (AU d));refine⟨⟨i,I,G,E,D,?_,?_,by omega,λs d=>(o s d).1,λs d=>(o s d).2.1⟩,?_,λs d=>(o s d).2.2⟩
  ·exact vz λh=>t (.inl h)
  ·exact vz λh=>t (.inr (.inl h))
  cases h:trimB m with
  | true=>rfl
  | false=>exact absurd (.inr (.inr h)) t
 rintro⟨h,y,A⟩;refine⟨h.fr,h.sl,h.sw,h.dk,h.st,?_,by have:=h.spl;omega,?_⟩
 ·rintro(i|i|i)
  ·exact i h.swl
  ·exact i h.dkl
  ·rw[y]at i;cases i
 intro x u;obtain⟨s,d,rfl⟩:=fD.1 u;exact DN.2 ⟨h.ar s d,h.tb s d,A s d⟩
theorem yA{p:Option Cc}{c:Cc}:vU m p c=0↔(jk m.st c.f c.i/\0<=c.k/\c.k<m.m.fs.length)/\(1<=(aF m c.k.toNat).r/\(aF m c.k.toNat).f=c.f/\(aF m c.k.toNat).i=c.i)/\∀q,p=some q->EG q c:=by
 have a:gQ m c.k=aF m c.k.toNat:=rfl;unfold vU;rw[oo,oo,a];refine and_congr ⟨λh=>⟨⟨by omega,by omega⟩,by omega⟩,λh=>by obtain⟨⟨_,_⟩,_⟩:=h;omega⟩ (and_congr ⟨λh=>by omega,λh=>by omega⟩ ?_);cases p with
 | none=>simp
 | some q=>
  simp only[fM,forall_eq'];rw[oo];unfold EG;omega
theorem KO{l:List Cc}(h:∀k (i:k+1<l.length),EG (l[k]'(by omega)) l[k+1]):l.Pairwise EG:=by
 induction l with
 | nil=>exact List.Pairwise.nil
 | cons a l ih=>
  have ih:=ih λk i=>h (k+1) (by simpa using i);refine vJ.2 ⟨?_,ih⟩;cases l with
  | nil=>simp
  | cons b l=>
   have o:EG a b:=h 0 (by simp);intro c d;rcases fq.1 d with e|d
   ·rw[e];exact o
   have t:=(vJ.1 ih).1 c d;unfold EG at *; omega
theorem AJ :iL m=0↔vR m:=by
 unfold iL;rw[firstE_zero];constructor
 ·intro h;have A:∀k (d:k<m.ca.length),vU m (zK m.ca k) m.ca[k]=0:=λk d=>by have:=h _ (AU (dx.2 d));rw[bA,aM d]at this;exact this
  have y:∀c∈m.ca,(jk m.st c.f c.i/\0<=c.k/\c.k<m.m.fs.length)/\(1<=(aF m c.k.toNat).r/\(aF m c.k.toNat).f=c.f/\(aF m c.k.toNat).i=c.i):=λc o=>by obtain⟨k,d,rfl⟩:=jK.1 o;have:=yA.1 (A k d);exact⟨this.1,this.2.1⟩
  refine⟨λc o=>(y c o).1.1,λc o=>(y c o).1.2,λc o=>(y c o).2,KO λk d => ?_⟩;refine(yA.1 (A (k+1) d)).2.2 _ ?_;unfold zK;rw[if_neg (by omega),Nat.add_sub_cancel,aM]
 intro h x C;obtain⟨k,d,rfl⟩:=fD.1 C;have d:=dx.1 d;rw[bA,aM d,sQ];have u:m.ca[k]∈m.ca:=fA d;refine yA.2 ⟨⟨h.file _ u,h.lt _ u⟩,h.fr _ u,λq t => ?_⟩;unfold zK at t;split at t
 ·cases t
 rw[aM (by omega)]at t;rw[<-aU t];exact Et.1 h.srt _ _ (by omega) d (by omega)
theorem FX(R:Pt m)(W:(aJ m p n).k≠0):dm m (bQ m p) n=0↔∃g,eP m p n=some g/\Yt m g (aJ m p n):=by
 have X:=(dA).1 (ku R p n);unfold dm;rw[oo];have j:=Ba (bQ m p).ar n;constructor
 ·rintro⟨E,C⟩;obtain⟨N,T⟩:=Ca (l:=(bQ m p).ar) (n:=n) (by omega);refine⟨_,N,?_⟩;generalize (bQ m p).ar.getD (fB (bQ m p).ar n).toNat zAr=a at *
  have L:dR (bQ m p).tb n=aJ m p n:=rfl;rw[L]at C;generalize aJ m p n=e at *
  simp only at C
  by_cases A:e.k=2
  ·rw[if_pos A,oo]at C;refine⟨λ_=>⟨by omega,?_⟩,λh=>by omega,λh=>by omega⟩;show a.sh=false;cases hs:a.sh with
   | false=>rfl
   | true=>exact absurd (.inr hs) C.1
  rw[if_neg A,oo,oo,oo]at C;have c:gQ m e.n=aF m e.n.toNat:=rfl;rw[c]at C;obtain⟨Y,G,S,_⟩:=C;refine⟨λh=>absurd h A,λ_=>by omega,λ_ => ?_⟩;show PM (aF m e.n.toNat) (xU a n) e.w;generalize aF m e.n.toNat=f at *
  have b:0<=f.f->(0<=a.fi/\f.f=a.fi/\f.i=a.ba+n-a.fr):=λy=>by refine vz λI=>G (.inl ⟨y,?_⟩);rw[zA];simp only[ne_eq,dJ,decide_eq_true_eq];exactλh=>I ⟨h.1.1,h.1.2,h.2⟩
  refine⟨λy => ?_,λhs => ?_,λD => ?_,λD y => ?_,λD y => ?_⟩
  ·obtain⟨k1,t,u⟩:=b y;refine⟨t,?_⟩;unfold xU;simp only;rw[if_pos k1];exact u
  ·refine vz λI=>G (.inr (.inl ⟨hs,?_⟩));rw[zA];simp only[ne_eq,dJ,decide_eq_true_eq];exactλh=>by omega
  ·show a.wr=true;cases hs:a.wr with
   | true=>rfl
   | false=>exact absurd (.inr (.inr (.inr ⟨D,hs⟩))) G
  ·show a.sh=true;cases hs:a.sh with
   | true=>rfl
   | false=>
    refine absurd (.inr (.inr (.inl ⟨hs,?_,D⟩))) G;have:=b y;simp only[dJ,decide_eq_true_eq];exact⟨⟨this.1,this.2.1⟩,this.2.2⟩
  ·exact vz λI=>S ⟨y,D,by omega⟩
 rintro⟨g,J,K⟩;have o:onA (bQ m p).ar n≠none:=by have:eP m p n=onA (bQ m p).ar n:=rfl;rw[<-this,J];exactλh=>by cases h
 have E:=j.2 o;refine⟨by omega,?_⟩;obtain⟨N,T⟩:=Ca (l:=(bQ m p).ar) (n:=n) E;have q : g=xU ((bQ m p).ar.getD (fB (bQ m p).ar n).toNat zAr) n:=by have:eP m p n=onA (bQ m p).ar n:=rfl;rw[this,N]at J;exact(aU J).symm
 subst q;generalize (bQ m p).ar.getD (fB (bQ m p).ar n).toNat zAr=a at *
 have L:dR (bQ m p).tb n=aJ m p n:=rfl;rw[L];generalize aJ m p n=e at *
 simp only
 by_cases A:e.k=2
 ·obtain⟨k1,t⟩:=K.sw A;have t:a.sh=false:=t;rw[if_pos A,oo];refine⟨?_,rfl⟩;rintro(h|h)
  ·omega
  ·rw[t]at h;cases h
 have E:e.k=1:=by omega
 have k1:=K.lt E;obtain⟨V,Q,P,O,U⟩:=K.fr E;have c:gQ m e.n=aF m e.n.toNat:=rfl;rw[if_neg A,oo,oo,oo,c];generalize aF m e.n.toNat=f at *
 have Q:a.sh=true->0<=f.f:=Q;have P:e.w=true->a.wr=true:=P;have O:e.w=true->0<=f.f->a.sh=true:=O;have b:0<=f.f->(decide (0<=a.fi)&&decide (f.f=a.fi)&&decide (f.i=a.ba+n-a.fr))=true:=λy=>by obtain⟨t,u⟩:=V y;have t:f.f=a.fi:=t;unfold xU at u;simp only at u;rw[if_pos (by omega)]at u;simp only[dJ,decide_eq_true_eq];exact⟨⟨by omega,t⟩,u⟩
 have d : (decide (0<=a.fi)&&decide (f.f=a.fi)&&decide (f.i=a.ba+n-a.fr))=true->0<=f.f:=λh=>by simp only[dJ,decide_eq_true_eq]at h;omega
 generalize (decide (0<=a.fi)&&decide (f.f=a.fi)&&decide (f.i=a.ba+n-a.fr))=of at *
 refine⟨by omega,?_,?_,rfl⟩
 ·rintro(⟨t,u⟩|⟨t,u⟩|⟨t,u,k4⟩|⟨t,u⟩)
  ·rw[b t]at u;cases u
  ·rw[b (Q t)]at u;cases u
  ·rw[O k4 (d u)]at t;cases t
  ·rw[P t]at u;cases u
 rintro⟨t,u,k4⟩;have:=U u t;omega
theorem Bj(t:Pt m):nX m=0↔∀p n,(aJ m p n).k≠0->∃g,eP m p n=some g/\Yt m g (aJ m p n):=by
 unfold nX;rw[firstE_zero];constructor
 ·intro h p n d;have a : p<m.sp.length:=vz λi=>d (by unfold aJ;rw[tC (by omega)];have:dR zSp.tb n=zEn:=uf n;rw[this];rfl);have i:0<=n/\n<64:=vz λi=>d (by rw[KT p (by omega)];rfl);refine(FX t d).1 (h _ (jS.2 ⟨bQ m p,Ch a,AU (lZ.2 ⟨i,d⟩)⟩))
 intro h x o;obtain⟨s,u,o⟩:=jS.1 o;obtain⟨n,i,rfl⟩:=fD.1 o;obtain⟨p,a,rfl⟩:=QJ u;have d:=(lZ.1 i).2;exact(FX t d).2 (h p n d)
theorem UZ(t:Tb)(i:Int):cnt (pz t (aV t)) i=(fU t).countP (uw 1 i):=by
 rw[<-Hr (show(1:Int)≠0 by decide)];unfold cnt pz qx sJ;rw[xA,Ld,<-KF];congr 1;funext n;simp only[KJ,EM];rw[qK];simp only[dJ,tO,decide_eq_false_iff_not,qL,decide_eq_true_eq];exact and_comm
theorem VF{t:Tb}(h:eU t=0)(i:Int):cnt (swapT t (aV t)) i=(fU t).countP (uw 2 i):=by
 rw[<-Hr (show(2:Int)≠0 by decide)];unfold cnt swapT qx sJ;rw[xA,Ld,<-KF];refine List.countP_congr λn o => ?_;have y:=(dA).1 (yh h n);have u:=(lZ.1 o).2;simp only[KJ,EM,dJ,tO,decide_eq_false_iff_not,qL,decide_eq_true_eq];constructor
 ·rintro⟨k,d⟩;exact⟨by omega,k⟩
 ·rintro⟨k,d⟩;exact⟨d,by omega⟩
theorem Aw(l r:List Int)(i:Int):cnt (l++r) i=cnt l i+cnt r i:=by unfold cnt;rw[EK]
theorem Hq{α:Type}(g:α->List Int)(i:Int):∀l:List α,cnt (l.flatMap g) i=(l.map λs=>cnt (g s) i).sum
 | []=>rfl
 | a::l=>by rw[pF,Aw,Hq g i l,bM,BV]
theorem ML(m:Ma)(i:Int):cnt (uV m) i=vY m i+bR m 1 i:=by
 unfold uV;rw[Aw,Hq];congr 1
 ·unfold cnt vY;rw[xA];rfl
 unfold bR;congr 1;exact AC λs _=>UZ s.tb i
theorem Jo(h:Pt m)(i:Int):cnt (rW m) i=bR m 2 i:=by
 unfold rW bR;rw[Hq];congr 1;exact AC λs d=>VF (h.tb s d) i
theorem Gx(A:Pt m):countB m=true↔(∀i:Nat,i<m.m.fs.length->(aF m i).r=vY m i+bR m 1 i)/\(∀i:Nat,i<m.m.fs.length->0<=(aF m i).f->∃c∈m.ca,c.k=i)/\∀s:Nat,s<m.sl.length->iT m s=bR m 2 s:=by
 unfold countB;rw[dJ,dG,decide_eq_true_eq];constructor
 ·rintro⟨o,y⟩;have o:∀i:Nat,i<m.m.fs.length->_:=λi d=>o i (dx.2 d);simp only[dJ,decide_eq_true_eq,uN,kW,ML,yx]at o;refine⟨λi d=>by rw[(o i d).1];omega,λi d C => ?_,λs E => ?_⟩
  ·rcases(o i d).2 with h|⟨c,u,t⟩
   ·have h:(aF m i).f<0:=of_decide_eq_true h;omega
   ·exact⟨c,u,t⟩
  have:iT m s=(lL m.sl.length (rW m)).getD s 0:=by rw[<-y];rfl
  rw[this];unfold lL;rw[bA,iH,xn E];show((cnt (rW m) s:Nat):Int)=_;rw[Jo A]
 rintro⟨o,y,G⟩;refine⟨λi d => ?_,?_⟩
 ·have d:=dx.1 d;simp only[dJ,decide_eq_true_eq,uN,kW,ML,yx];refine⟨by rw[o i d];omega,?_⟩
  by_cases C:0<=(aF m i).f
  ·obtain⟨c,u,t⟩:=y i d C;exact .inr ⟨c,u,t⟩
  ·exact .inl (decide_eq_true (show(aF m i).f<0 by omega))
 apply sI
 ·unfold lL;simp
 intro s k1 D;have:=G s k1;have I:(lL m.sl.length (rW m))[s]'D=((cnt (rW m) (s:Int):Nat):Int):=by simp[lL]
 rw[I,Jo A,<-this];unfold iT;rw[bA,aM k1];rfl
theorem Cq :jW m=0↔Rt m:=by
 unfold jW;rw[nU,nU,nU,yg,AJ];constructor
 ·rintro⟨⟨d,k,t⟩,y,u,i⟩;have i:countB m=true:=by
   cases h:countB m with
   | true=>rfl
   | false=>rw[h]at i;exact absurd i (by decide)
  obtain⟨D,C,A⟩:=(Gx d).1 i;refine⟨d,IM.1 k,λp a => ?_,y,(Bj d).1 u,D,C,A⟩;rcases gB p m.sp.length with h|h
  ·exact t _ (Ch h) a
  rw[tC h];refine⟨rfl,λn => ?_⟩;unfold aJ;rw[tC h];have:dR zSp.tb n=zEn:=uf n;rw[this];rfl
 intro h;refine⟨⟨h.pt,IM.2 h.trim,λs o b => ?_⟩,h.ca,(Bj h.pt).2 h.en,?_⟩
 ·obtain⟨p,d,rfl⟩:=QJ o;exact h.live p b
 ·rw[if_pos ((Gx h.pt).2 ⟨h.cf,h.fc,h.cs⟩)]
def aS(m:Ma)(p:Nat)(n:Int)(x:En):Ma:=setTb m p (setT (bQ m p).tb n x)
theorem xW{i:Int}{e:En}(h:e.k=0)(d:kd≠0):vP (uw kd i e)=0:=by
 unfold vP uw;rw[if_neg];simp only[dJ,decide_eq_true_eq];intro o; omega
theorem qY{i:Int}{e:En}:vP (uw kd i e)=if e.k=kd/\e.n=i then 1 else 0:=by
 unfold vP uw
 by_cases h:e.k=kd/\e.n=i
 ·rw[if_pos h,if_pos (by simp[h.1,h.2])]
 rw[if_neg h,if_neg];simp only[dJ,decide_eq_true_eq];exact h
theorem ED(h:Rt m){j:Int}(d:(aJ m q j).k=1)(y:(aJ m q j).n.toNat=f):0<bR m 1 f/\f<m.m.fs.length:=by
 have o:=mh (m:=m) (p:=q) (n:=j) (by rw[d];decide);have A:=(dA).1 (ku h.pt q j);have u:=(kY (m:=m) (kd:=1) (i:=f) (by decide)).2 ⟨q,j,o.1,o.2,d,by omega⟩;obtain⟨g,_,t⟩:=h.en q j (by rw[d];decide);have:=t.lt d;exact⟨u,by omega⟩
theorem zQ(h:Rt m)(I:Co m){X:Fr}{x:En}{g:Pg}(hp:p<m.sp.length)(hn:0<=n/\n<64)(h0:(aJ m p n).k=0)(O:f<m.m.fs.length)
 (J:x.k=1) (S:x.n=f) (hX:dn X=0) (hr:X.r=(aF m f).r+1)
 (hold:(aF m f).r≠0->X.f=(aF m f).f/\X.i=(aF m f).i/\X.p=(aF m f).p/\X.d=(aF m f).d)
 (E:(aF m f).r=0->X.f<0/\X.d=false)
 (hw:X.f<0->∀q j,(aJ m q j).k=1->(aJ m q j).n.toNat=f->(aJ m q j).w=false)
 (T:eP m p n=some g) (L:PM X g x.w):Rt (aS (setFr m f X) p n x)/\Co (aS (setFr m f X) p n x):=by
 have hm:Pt (setFr m f X):=h.pt.setFr hX;have hu:iE x=0:=(dA (e:=x)).2 (.inr (.inl ⟨J,by have:=((eF _).1 h.pt.fr).1;omega⟩));obtain⟨Z,_,hx⟩:=gG (k:=⟨setFr m f X,0⟩) (p:=p) (n:=n) (x:=x) hm hn hu;have W:p<(setFr m f X).sp.length:=hp;have z:∀q j,aJ (aS (setFr m f X) p n x) q j=if q=p/\j=n then x else aJ m q j:=λq j=>kR W Z q j;have l:∀y,aF (aS (setFr m f X) p n x) y=if y=f then X else aF m y:=λy=>fP O y;have b:(aS (setFr m f X) p n x).m.fs.length=m.m.fs.length:=dK;have ha:∀kd i,kd≠0->bR (aS (setFr m f X) p n x) kd i=bR m kd i+vP (uw kd i x):=λkd i G=>by have D:=rT W Z kd i;have h2:vP (uw kd i (aJ (setFr m f X) p n))=0:=xW (e:=aJ (setFr m f X) p n) h0 G;have h3:bR (setFr m f X) kd i=bR m kd i:=rfl;unfold aS;omega
 have hj:fK m (setFr m f X):=fK.of rfl;have U:fK m (aS (setFr m f X) p n x):=hj.trans (fK.setTb (m:=setFr m f X) (p:=p) (t:=setT (bQ (setFr m f X) p).tb n x));have hA:vR (aS (setFr m f X) p n x):=by
  refine⟨h.ca.file,λc a => ?_,λc a => ?_,h.ca.srt⟩
  ·rw[b];exact h.ca.lt c a
  have D:=h.ca.fr c a;rw[l]
  by_cases e:c.k.toNat=f
  ·rw[if_pos e];rw[e]at D;obtain⟨k1,V,_⟩:=hold (by omega);exact⟨by omega,by omega,by omega⟩
  ·rw[if_neg e];exact D
 refine⟨⟨hx,h.trim,λq Y => ?_,hA,λq j G => ?_,λi K => ?_,λi K v => ?_,λs hs => ?_⟩,⟨λc a => ?_,λc a A => ?_,λi K A => ?_⟩⟩
 ·rw[U.lv]at Y;obtain⟨P,a2⟩:=h.live q Y;refine⟨by rw[U.ar];exact P,λj => ?_⟩;rw[z,if_neg]
  ·exact a2 j
  rintro⟨rfl,rfl⟩;have:eP m q j=onA (bQ m q).ar j:=rfl;rw[this,P]at T;cases T
 ·have hz:eP (aS (setFr m f X) p n x) q j=eP m q j:=by unfold eP;rw[U.ar]
  rw[hz];rw[z]at G ⊢
  by_cases e:q=p/\j=n
  ·rw[if_pos e]at G ⊢;rw[e.1,e.2];refine⟨g,T,λhB=>by omega,λ_=>by rw[b];omega,λ_ => ?_⟩;rw[l,if_pos (by omega)];exact L
  rw[if_neg e]at G ⊢;obtain⟨y,hy,o⟩:=h.en q j G;refine⟨y,hy,o.sw,by rw[b];exact o.lt,λu => ?_⟩;rw[l]
  by_cases N:(aJ m q j).n.toNat=f
  ·rw[if_pos N];have D:=o.fr u;rw[N]at D;have h2:=ED h u N;have h3:=h.cf f O;obtain⟨k1,V,_,_⟩:=hold (by omega);obtain⟨f1,f2,f3,f4,f5⟩:=D;refine⟨by rw[k1,V];exact f1,by rw[k1];exact f2,f3,by rw[k1];exact f4,λhh hv => ?_⟩;rw[hw hv q j u N]at hh;cases hh
  ·rw[if_neg N];exact o.fr u
 ·have P:vY (aS (setFr m f X) p n x) i=vY m i:=rfl;rw[l,P,ha 1 i (by decide),qY];have h3:=h.cf i (by rw[<-b];exact K)
  by_cases e:i=f
  ·subst e;rw[if_pos rfl,if_pos ⟨J,S⟩,hr];omega
  ·rw[if_neg e,if_neg (λh'=>e (by omega))];omega
 ·rw[l]at v
  by_cases e:i=f
  ·subst e;rw[if_pos rfl]at v
   by_cases C:(aF m i).r=0
   ·have:=(E C).1;omega
   obtain⟨k1,_⟩:=hold C;exact h.fc i O (by omega)
  rw[if_neg e]at v;exact h.fc i (by rw[<-b];exact K) v
 ·rw[ha 2 s (by decide),qY,if_neg (λh'=>by omega)];exact h.cs s hs
 ·have D:=h.ca.fr c a;rw[l]
  by_cases e:c.k.toNat=f
  ·rw[if_pos e];rw[e]at D;obtain⟨_,_,R,_⟩:=hold (by omega);rw[R,<-e];exact I.tail c a
  ·rw[if_neg e];exact I.tail c a
 ·have D:=h.ca.fr c a;rw[l]at A ⊢
  by_cases e:c.k.toNat=f
  ·rw[if_pos e]at A ⊢;rw[e]at D;obtain⟨_,_,R,Q⟩:=hold (by omega);rw[R,<-e];exact I.clean c a (by rw[e,<-Q];exact A)
  ·rw[if_neg e]at A ⊢; exact I.clean c a A
 rw[l]at A ⊢
 by_cases e:i=f
 ·subst e;rw[if_pos rfl]at A ⊢
  by_cases C:(aF m i).r=0
  ·rw[(E C).2]at A;cases A
  obtain⟨k1,_,_,Q⟩:=hold C;rw[k1];exact I.anon i O (by rw[<-Q];exact A)
 ·rw[if_neg e]at A ⊢; exact I.anon i (by rw[<-b];exact K) A
theorem Tf(h:Rt m)(S:Co m){s:Nat}{d:qo}{x:En}{g:Pg}(hp:p<m.sp.length)(hn:0<=n/\n<64)(h0:(aJ m p n).k=0)(hs:s<m.sl.length)
 (E:x.k=2) (J:x.n=s) (I:x.w=false) (T:iT m s+1<=1000) (C:bZ d=0) (R:d.blocks.length=m.sw.blocks.length) (Q:eP m p n=some g) (N:g.sh=false) :
  Rt (aS { setSl m s (iT m s+1)with sw:=d } p n x)/\Co (aS { setSl m s (iT m s+1)with sw:=d } p n x):=by
 have hb:=h.pt.slB s;have ha:Pt (setSl m s (iT m s+1)):=h.pt.setSl (by omega) T;have hz:Pt { setSl m s (iT m s+1)with sw:=d }:={ ha with sw:=C,swl:=by show d.blocks.length=_;rw[R];exact ha.swl };have hE:iE x=0:=(dA (e:=x)).2 (.inr (.inr ⟨E,by have:=lK h.pt.sl;omega,by have:=lK h.pt.sl;omega,I⟩));obtain⟨U,_,hG⟩:=gG (k:=⟨{ setSl m s (iT m s+1)with sw:=d },0⟩) (p:=p) (n:=n) (x:=x) hz hn hE;have hA:p<({ setSl m s (iT m s+1)with sw:=d }:Ma).sp.length:=hp;generalize hm1:({ setSl m s (iT m s+1)with sw:=d }:Ma)=m1 at *
 have O:m1.sp=m.sp:=by rw[<-hm1];rfl
 have W:m1.m=m.m:=by rw[<-hm1];rfl
 have hD:m1.ca=m.ca:=by rw[<-hm1];rfl
 have hw:m1.st=m.st:=by rw[<-hm1];rfl
 have hC:m1.dk=m.dk:=by rw[<-hm1];rfl
 have u:m1.sl=m.sl.set s (iT m s+1):=by rw[<-hm1];rfl
 have v:∀q j,aJ m1 q j=aJ m q j:=λq j=>by unfold aJ bQ;rw[O]
 have Z:∀q j,aJ (aS m1 p n x) q j=if q=p/\j=n then x else aJ m q j:=λq j=>by rw[<-v];exact kR hA U q j
 have o:∀y,aF (aS m1 p n x) y=aF m y:=λy=>by unfold aF aS setTb;simp only;rw[W]
 have l:(aS m1 p n x).m.fs.length=m.m.fs.length:=by unfold aS setTb;simp only;rw[W]
 have X:∀kd i,kd≠0->bR (aS m1 p n x) kd i=bR m kd i+vP (uw kd i x):=λkd i D=>by
  have h1:=rT hA U kd i;have h2:vP (uw kd i (aJ m1 p n))=0:=xW (by rw[v];exact h0) D;have h3:bR m1 kd i=bR m kd i:=by unfold bR;rw[O]
  unfold aS;omega
 have L:fK m (aS m1 p n x):=(fK.of O).trans fK.setTb;have f:(aS m1 p n x).ca=m.ca:=hD;have t:(aS m1 p n x).st=m.st:=hw;have Y:(aS m1 p n x).dk=m.dk:=hC;have hv:∀a b,dh (aS m1 p n x) a b=dh m a b:=λa b=>by unfold dh;rw[t,Y]
 refine⟨⟨hG,by rw[Y,t];exact h.trim,λq V => ?_,⟨by rw[f,t];exact h.ca.file,by rw[f,l];exact h.ca.lt,λc r=>by rw[o];exact h.ca.fr c (by rw[<-f];exact r),by rw[f];exact h.ca.srt⟩,λq j D => ?_,λi A => ?_,λi A hB => ?_,λi A => ?_⟩,⟨λc r => ?_,λc r C => ?_,λi A C => ?_⟩⟩
 ·rw[L.lv]at V;obtain⟨G,a2⟩:=h.live q V;refine⟨by rw[L.ar];exact G,λj => ?_⟩;rw[Z,if_neg]
  ·exact a2 j
  rintro⟨rfl,rfl⟩;have:eP m q j=onA (bQ m q).ar j:=rfl;rw[this,G]at Q;cases Q
 ·have hH:eP (aS m1 p n x) q j=eP m q j:=by unfold eP;rw[L.ar]
  have z:(aS m1 p n x).sl.length=m.sl.length:=by show m1.sl.length=_;rw[u,bV]
  rw[hH];rw[Z]at D ⊢
  by_cases e:q=p/\j=n
  ·rw[if_pos e]at D ⊢;rw[e.1,e.2];exact⟨g,Q,λ_=>⟨by rw[z];omega,N⟩,λK=>by omega,λK=>by omega⟩
  rw[if_neg e]at D ⊢;obtain⟨y,hy,P⟩:=h.en q j D;exact⟨y,hy,by rw[z];exact P.sw,by rw[l];exact P.lt,λK=>by rw[o];exact P.fr K⟩
 ·have G:vY (aS m1 p n x) i=vY m i:=by unfold vY;rw[f]
  rw[o,G,X 1 i (by decide),qY,if_neg (λh'=>by omega)];exact h.cf i (by rw[<-l];exact A)
 ·rw[f];rw[o]at hB;exact h.fc i (by rw[<-l];exact A) hB
 ·have hI : i<m.sl.length:=by have:(aS m1 p n x).sl=m1.sl:=rfl;rw[this,u,bV]at A;exact A
  have hF:iT (aS m1 p n x) i=if i=s then iT m s+1 else iT m i:=by
   have h1:=Ep (x:=iT m s+1) hs i;have h2:iT (aS m1 p n x) i=iT (setSl m s (iT m s+1)) i:=by unfold iT;show m1.sl.getD i 0=_;rw[u];rfl
   rw[h2,h1]
  rw[hF,X 2 i (by decide),qY];have h3:=h.cs i hI
  by_cases e:i=s
  ·subst e;rw[if_pos rfl,if_pos ⟨E,J⟩];omega
  ·rw[if_neg e,if_neg (λh'=>e (by omega))];omega
 ·rw[o,t];rw[f]at r;exact S.tail c r
 ·rw[f]at r;rw[o]at C ⊢; rw[hv];exact S.clean c r C
 ·rw[o]at C ⊢; exact S.anon i (by rw[<-l];exact A) C
theorem OT(h:Rt m)(D:Co m)(A:(aJ m p n).k=1):Rt (aS m p n ⟨1,(aJ m p n).n,false⟩)/\Co (aS m p n ⟨1,(aJ m p n).n,false⟩):=by
 have l:=mh (m:=m) (p:=p) (n:=n) (by rw[A];decide);have Q:=(dA).1 (ku h.pt p n);have u:iE ⟨1,(aJ m p n).n,false⟩=0:=(dA).2 (.inr (.inl ⟨rfl,by show 0<=(aJ m p n).n;omega,by show(aJ m p n).n<40;omega⟩));generalize hx:(⟨1,(aJ m p n).n,false⟩:En)=x at *
 have t:x.k=1:=by rw[<-hx]
 have f:x.n=(aJ m p n).n:=by rw[<-hx]
 have r:x.w=false:=by rw[<-hx]
 obtain⟨o,_,v⟩:=gG (k:=⟨m,0⟩) (p:=p) (n:=n) (x:=x) h.pt l.2 u;have c:∀q j,aJ (aS m p n x) q j=if q=p/\j=n then x else aJ m q j:=λq j=>kR l.1 o q j;have d:∀kd i,bR (aS m p n x) kd i=bR m kd i:=λkd i=>by
  have G:=rT l.1 o kd i;have R:vP (uw kd i (aJ m p n))=vP (uw kd i x):=by rw[qY,qY,t,f,A]
  unfold aS;omega
 have g:fK m (aS m p n x):=fK.setTb;refine⟨⟨v,h.trim,λq E => ?_,⟨h.ca.file,h.ca.lt,h.ca.fr,h.ca.srt⟩,λq j b => ?_,λi K=>by rw[d];exact h.cf i K,h.fc,λs J=>by rw[d];exact h.cs s J⟩,⟨D.tail,D.clean,D.anon⟩⟩
 ·rw[g.lv]at E;obtain⟨O,I⟩:=h.live q E;refine⟨by rw[g.ar];exact O,λj => ?_⟩;rw[c,if_neg]
  ·exact I j
  rintro⟨rfl,rfl⟩;have:=I j;omega
 have z:eP (aS m p n x) q j=eP m q j:=by unfold eP;rw[g.ar]
 rw[z];rw[c]at b ⊢
 by_cases e:q=p/\j=n
 ·rw[if_pos e]at b ⊢;rw[e.1,e.2];obtain⟨y,C,a⟩:=h.en p n (by rw[A];decide);have G:=a.lt A;obtain⟨N,L,U,T,S⟩:=a.fr A;refine⟨y,C,λP=>by omega,λ_=>by rw[f];exact G,λ_ => ?_⟩;rw[f,r];exact⟨N,L,λh=>(by cases h),λh=>(by cases h),λh=>(by cases h)⟩
 rw[if_neg e]at b ⊢;obtain⟨y,C,a⟩:=h.en q j b;exact⟨y,C,a.sw,a.lt,a.fr⟩
theorem GV(h:Rt m)(C:Co m){s:Sp}(K:m.sp.length<4)(G:s.lv=true)(I:(dY s.ar).1=0)(u:s.tb=zTb):Rt { m with sp:=m.sp++[s] }/\Co { m with sp:=m.sp++[s] }:=by
 have a:∀q,bQ { m with sp:=m.sp++[s] } q=if q=m.sp.length then s else bQ m q:=λq=>by
  unfold bQ;show(m.sp++[s]).getD q zSp=_;rw[bA,yP]
  by_cases e:q<m.sp.length
  ·rw[if_pos e,if_neg (by omega),bA]
  rw[if_neg e]
  by_cases D:q=m.sp.length
  ·rw[if_pos D,D,yU];rfl
  ·rw[if_neg D,bA,dP (by simp;omega),dP (by omega)]
 have b:∀q j,aJ { m with sp:=m.sp++[s] } q j=aJ m q j:=λq j=>by
  unfold aJ;rw[a]
  by_cases e:q=m.sp.length
  ·rw[if_pos e,tC (by omega),u];rfl
  ·rw[if_neg e]
 have c:∀kd i,kd≠0->bR { m with sp:=m.sp++[s] } kd i=bR m kd i:=λkd i t=>by
  unfold bR;show((m.sp++[s]).map _).sum=_;rw[jL,List.sum_append];have:([s].map λs=>(fU s.tb).countP (uw kd i)).sum=0:=by rw[List.map_singleton,List.sum_singleton,u,vB];intro e E;unfold fU at E;obtain⟨j,_,rfl⟩:=fD.1 E;rw[uf];unfold uw;simp only[dJ,decide_eq_true_eq];rintro⟨J,_⟩;exact t J.symm
  omega
 refine⟨⟨{ h.pt with spl:=by simp;omega,ar:=λy k => ?_,tb:=λy k => ?_ },h.trim,λq o => ?_,⟨h.ca.file,h.ca.lt,h.ca.fr,h.ca.srt⟩,λq j t => ?_,λi A=>by rw[c 1 i (by decide)];exact h.cf i A,h.fc,λi A=>by rw[c 2 i (by decide)];exact h.cs i A⟩,⟨C.tail,C.clean,C.anon⟩⟩
 ·rcases ik.1 k with k|k
  ·exact h.pt.ar y k
  ·rw[bF.1 k];exact I
 ·rcases ik.1 k with k|k
  ·exact h.pt.tb y k
  ·rw[bF.1 k,u];decide
 ·rw[a]at o ⊢
  by_cases e:q=m.sp.length
  ·rw[if_pos e,G]at o;cases o
  rw[if_neg e]at o ⊢;refine⟨(h.live q o).1,λj=>by rw[b];exact(h.live q o).2 j⟩
 rw[b]at t ⊢;obtain⟨y,k,d⟩:=h.en q j t;have o:=mh t;refine⟨y,?_,d.sw,d.lt,d.fr⟩;unfold eP at k ⊢;rw[a,if_neg (by omega)];exact k
def Tc(T:List (List En))(p:Nat):List En:=T.getD p []
def wz(m:Ma)(T:List (List En)):Ma:={ m with sp:=(List.range m.sp.length).map λp => { bQ m p with tb:=uy (Tc T p) } }
structure OkT (m:Ma) (T:List (List En)):Prop where
 len:T.length=m.sp.length
 ln:∀t∈T,t.length=64
 en:∀t∈T,∀x∈t,iE x=0
theorem TD{T:List (List En)}:(wz m T).sp.length=m.sp.length:=by unfold wz;simp
def setL(T:List (List En))(p n:Nat)(x:En):List (List En):=T.set p ((Tc T p).set n x)
theorem Qn{T:List (List En)}(h:OkT m T)(s:Sp):wz { m with sp:=m.sp++[s] } (T++[List.replicate 64 zEn]) = { wz m T with sp:=(wz m T).sp++[{ s with tb:=zTb }] }:=by
 have d:uy (List.replicate 64 zEn)=zTb:=by decide +kernel
 unfold wz;simp only[Ma.mk.injEq,true_and,fI,pR];rw[Ay,jL];congr 1
 ·apply AC;intro p i;have a:=dx.1 i;unfold bQ Tc;simp only[bA];rw[jb a,jb (by rw[h.len];exact a)]
 unfold bQ Tc;simp only[bM,bP,bA];rw[jv (aC _),yU,<-h.len,jv (aC _),yU];simp only[pK,sQ];rw[d]
theorem OkT.more{T:List (List En)}(h:OkT m T)(s:Sp):OkT { m with sp:=m.sp++[s] } (T++[List.replicate 64 zEn]):=by
 refine⟨by simp[h.len],λt d => ?_,λt d x i => ?_⟩
 ·rcases ik.1 d with d|d
  ·exact h.ln t d
  ·rw[bF.1 d,mY]
 rcases ik.1 d with d|d
 ·exact h.en t d x i
 rw[bF.1 d]at i;rw[(vD.1 i).2];decide
end Go.Proofs.YthihaopabbpalaaGreat