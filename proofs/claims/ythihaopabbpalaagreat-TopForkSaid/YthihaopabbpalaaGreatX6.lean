import Derived.Test.YthihaopabbpalaaGreatX5
import Derived.Deep.QuietTactic
import Derived.BigQuiet
set_option linter.unusedSimpArgs false
set_option linter.unusedVariables false
set_option linter.unnecessarySimpa false
set_option maxHeartbeats 4000000
set_option maxRecDepth 100000
namespace Go.Proofs.YthihaopabbpalaaGreat
open _root_.Go.Proofs.Tryz
open Go.RowKit Go.Maps Pw
variable {g:Nat} {w:World}
theorem Mf{o:Nat}{P:PS}(h:eD w (some ⟨g,o,none⟩) (xV P)):w.cell? ⟨g,o+1,none⟩=some (.slice P.aa P.ar.length P.ac):=by
 obtain⟨t,q,e',a⟩:=h 1 _ rfl;cases e';exact a
theorem Ai(H:MH)(e f i:Int)(B b:Nat)(w:World)(h:iw w B b H e)(t:Rt H.ma)(q:jk H.ma.st f i) :
  Calls Tryz.prog 93 #[.pointer (some ⟨b,0,none⟩),.int .i64 f,.int .i64 i] w λr w'=>r = .returned (.int .i64 (cO ⟨H.ma,e⟩ f i).2)/\KR w B b H w' (cO ⟨H.ma,e⟩ f i).1:=by
 have z:=sK t;obtain⟨F,rfl⟩:∃F:Nat,f=F:=⟨f.toNat,by have:=q.1;omega⟩;obtain⟨I,rfl⟩:∃I:Nat,i=I:=⟨i.toNat,by have:=q.2;omega⟩;have E:F<H.fi.length:=by have:=q.1.2;have J:H.ma.st.fs.length=H.fi.length:=fE _;omega
 obtain⟨P,C⟩:∃P,H.fi[F]?=some P:=⟨_,aM E⟩;have g:az H.ma.st F=P.fi:=iN (by show(H.fi.map PF.fi)[F]?=_;rw[iH,C];rfl);have A:=oN q;rw[g,bu]at A;have d:=Ag t.pt.st q;have a:=iK t.pt.st q.1;rw[g]at d a;have j:=block_lt t.pt.st q;refine LA H e F I P _ B b w h C A ⟨a.1,by have:P.n<=96:=a.2.1;omega⟩ (by omega) (λc D=>t.ca.lt c D) (λG => ?_) (by have:=z.sp.1;rwa [qm]at this) z.ca z.fs;rw[fH];have:=t.pt.dkl;exact⟨t.pt.dk,G,by show _<(H.ma.dk.blocks.length:Int);omega⟩
theorem VR(ps:List PF)(k:Int)(f i:Int)(a:Option Addr)(c:Nat)(w:World)(h:TP w a c ps)(E:0<=f/\f<(ps.length:Int))(t:(az (bD ps k) f).n<=9223372036854775807) :
  Calls Tryz.prog 43 #[.agg (QE a ps.length c k),.int .i64 f,.int .i64 i] w λr w'=>r = .returned (.bool (qC (bD ps k) f i))/\Below w.heap.size w w':=by
 obtain⟨F,rfl⟩:∃F:Nat,f=F:=⟨f.toNat,by omega⟩;have z:F<ps.length:=by omega
 have b:az (bD ps k) F=(ps[F]).fi:=iN (by show(ps.map PF.fi)[F]?=_;rw[iH,aM z];rfl);have C:Hid (qC (bD ps k) F i=decide (bn (ps[F]).n<=i)):=ae (by unfold qC;rw[b];rfl);rw[b]at t;unfold QE;go_enter func43,ntmps43;go_upto_region 1 with(fail);refine iP (λW=>Code.wp _ _ _ _ W) λw1 d A e => ?_;obtain⟨I,D,P,rfl,q,g,_⟩:=yB (h.below d).rd F z;rw[aM z]at q;have q:=aU q;rw[q]at C t;have G:=A.cell;have j:(F:Int)<(ps.length:Int):=by omega
 clear b q h
 go_wp2_with fail
 refine(qW P.n _ t).mono ?_;rintro r w2 ⟨rfl,rfl⟩;go_wp2;go_ret;rw[C.out];exact⟨rfl,d⟩
def Ij(m:Ma)(p:Nat)(n:Int)(w:Bool):Ar:=if oZ m p n w≠0 then zAr else jY m p n
theorem yK(a:Ar):(lW a).all (·.oneCell')=true:=by simp[lW,Value.oneCell']
theorem kK : (Tryz.prog.info? 94).map (·.size)=some 7:=by kernel_rfl
theorem VD(H:MH)(e n:Int)(p:Nat)(wr:Bool)(B b:Nat)(w:World)(h:iw w B b H e)(hp:p<H.sp.length) :
    Calls Tryz.prog 41 #[.pointer (some ⟨b,0,none⟩),.int .i64 p,.int .i64 n,.bool wr] w λr w'=>r = .returned (.tuple #[.agg (lW (Ij H.ma p n wr)),.int .i64 (oZ H.ma p n wr)])/\Below w.heap.size w w':=by
  obtain⟨P,Y⟩:∃P,H.sp[p]?=some P:=⟨_,aM hp⟩;have x:=ae (sP Y);have hr:(p:Int)<(H.sp.length:Int):=by omega
  go_enter func41,ntmps41;go_upto_region 1 with(fail);refine iP (λW=>Code.wp _ _ _ _ W) λw1 U N hl => ?_;have k1:=h.below U;clear h;obtain⟨g,O,s,c,y,d⟩:=k1.at Y;have C:=k1.blk.cell;unfold lm at C;rw[s]at C;have t:=Mf c;have J:=d.ars
  go_wp2_with fail
  refine(Db P.ar n P.aa P.ac _ J.rd (by have:=J.le;have:=J.mx;unfold maxLen at this;omega)).mono ?_;rintro r w2 ⟨rfl,i⟩;have hj:=J.below i;have R:=k1.below i;have D:=N.ext i;have j:=ah U i;clear C t c y d s k1 J N U i hl
  by_cases A:fB P.ar n<0
  · have I:Hid (Ij H.ma p n wr=zAr/\oZ H.ma p n wr=5):=ae (by
      have E:oZ H.ma p n wr=5:=by unfold oZ;rw[x.out];exact if_pos A
      exact⟨by unfold Ij;rw[E];exact if_pos (by decide),E⟩)
    go_wp2_with (refine ax _ _ w.heap.size (lW zAr) D kK (G:=yK zAr) ?_)
    intro Z m o;have f:=j.grown o j.size (λk G=>by cases G;exact aC _);go_wp2;rw[I.out.1,I.out.2];refine bodyPost_ret (v:=.tuple #[.agg (lW zAr),_]) (dH results41 w.heap.size m underlying94 kK) rfl ?_;exact⟨rfl,f⟩
  obtain⟨k,G,hg,_⟩:=xz (q:=wY n) (l:=P.ar) (by show 0<=fB P.ar n;omega);have X : fB P.ar n=k:=G;have S:Hid (jY H.ma p n=P.ar[k]):=ae (by unfold jY;rw[x.out];show P.ar.getD (fB P.ar n).toNat zAr=_;rw[X,bu,bA,aM hg];rfl);obtain⟨ba,oa,hi,u⟩:=oU jZ hj.rd k hg;have z:Hid (oZ H.ma p n wr=if(wr=true/\(P.ar[k]).wr=false)\/(wr=false/\(P.ar[k]).rd=false)then 8 else 0):=ae (by
    have E:¬fB (bQ H.ma p).ar n<0:=by rw[x.out];exact A
    unfold oZ;rw[if_neg E,S.out])
  generalize P.ar[k]=a at *
  obtain⟨g,O,s,c,y,d⟩:=R.at Y;have C:=R.blk.cell;unfold lm at C;rw[s]at C;have t:=Mf c;rw[hi]at t;rw[X]at A ⊢;have hs:(k:Int)<(P.ar.length:Int):=by omega
  clear G X A c y d s hj hi
  go_wp2_with (first | (refine ay ba (oa+k*7) _ u _ underlying94 rfl kK ?_) | (refine aT (lW a) kK (yK a) ?_))
  intro w3 V K;have j:=ah j V;have D:=D.ext V;clear C t u V R;have hh:=K.cell;unfold lW at hh;have hm:eD w3 (some ⟨w2.heap.size,0,none⟩) (fZ a):=cK K 0 7;have hq:Hid ((wr=true/\a.wr=false)\/(wr=false/\a.rd=false)->Ij H.ma p n wr=zAr/\oZ H.ma p n wr=8):=ae λC=>by
    have E:oZ H.ma p n wr=8:=by rw[z.out,if_pos C]
    exact⟨by unfold Ij;rw[E];exact if_pos (by decide),E⟩
  have hn:Hid (¬((wr=true/\a.wr=false)\/(wr=false/\a.rd=false))->Ij H.ma p n wr=a/\oZ H.ma p n wr=0):=ae λC=>by
    have E:oZ H.ma p n wr=0:=by rw[z.out,if_neg C]
    exact⟨by unfold Ij;rw[E];exact S.out,E⟩
  clear z S;cases wr<;>cases c:a.rd<;>cases hwr:a.wr<;>rw[c,hwr]at hh
  all_goals
    first
      | (have I:=ae (hn.out (by simp[c,hwr]))
         go_wp2_with (first | (refine ay w2.heap.size 0 _ hm _ underlying94 rfl kK ?_) | (refine ax _ _ w.heap.size (lW a) D kK (G:=yK a) ?_))
         intro Z m o;have f:=j.grown o j.size (λk G=>by cases G;exact aC _);go_wp2;rw[I.out.1,I.out.2];refine bodyPost_ret (v:=.tuple #[.agg (lW a),_]) (dH results41 w.heap.size m underlying94 kK) rfl ?_;exact⟨rfl,f⟩)
      | (have I:=ae (hq.out (by simp[c,hwr]))
         go_wp2_with (refine ax _ _ w.heap.size (lW zAr) D kK (G:=yK zAr) ?_)
         intro Z m o;have f:=j.grown o j.size (λk G=>by cases G;exact aC _);go_wp2;rw[I.out.1,I.out.2];refine bodyPost_ret (v:=.tuple #[.agg (lW zAr),_]) (dH results41 w.heap.size m underlying94 kK) rfl ?_;exact⟨rfl,f⟩)
end Go.Proofs.YthihaopabbpalaaGreat
namespace Pw
open Go Go.RowKit
variable {P:Program} {Q:Exit -> Act -> World -> Prop} {a0:Act} {id:Nat} {ops:Array Oper} {rest:List Oper} {t0:Array Value} {w0:World}
theorem Uy(m:Nat)(l:List oW)(J:(Nat->Bool)->(Nat->Value)->World->Prop)(A:∀L y w w',Below w.heap.size w w'->J L y w->J L y w')(E:∀y,J (λ_=>false) y w0)(q:Fixed l)(O:P.follows .mixedOrders=true)(ops' : Array Oper)(K:dS ops=ops')(C:kw ops' = true)(I:je ops' m=true)(D:m<=ops'.size)
 (n:Nat) (N:a0.tmps.size=n) (z:kT ops' n=true)
 (h:bE (sD P ops' a0 J l) 0 (ops'.toList.take m))
 (t:∀y w,J (λi=>decide (i<m)) y w->(∀i,i<m->rl l i (y i) w)->wpList P ops' Q (ops'.toList.drop m) { a0 with tmps:=lay (λi=>decide (i<m)) y ops'.toList 0 a0.tmps } w) :
  (Code.region id ops true).wp P Q a0 w0:=by
 refine wp_region_any O (Cs _ _ _ _ ?_);have G:=IW m l J A E q C I D n N z h t;subst K;rw[zV]at G;exact G
theorem qQ{C:List Deferred}(m:Nat)(l:List RV)(J:(Nat->Bool)->(Nat->Value)->World->Prop)(E:∀L y w w',Below w.heap.size w w'->J L y w->J L y w')(N:∀y,J (λ_=>false) y w0)
 (q:bE (sD P (dS ops) ⟨t0,C⟩ J (rvs l)) 0 ((dS ops).toList.take m)) {O:(Nat->Value)->List Value} (V:∀y,zT y l (dS ops).toList t0.toList=some (O y)) (X:wr ((dS ops).toList.drop m)=some rest)
 (A:∀y w,J (λi=>decide (i<m)) y w->(∀i,i<m->rl (rvs l) i (y i) w)->wpList P (dS ops) Q rest ⟨(O y).toArray,C⟩ w)
 (z:Fixed (rvs l):=by repeat (first | exact fix_nil | refine MR (λ_ _ _ h=>h) ?_))
 (U:P.follows .mixedOrders=true:=by kernel_rfl) (G:kw (dS ops)=true:=by kernel_rfl) (S:je (dS ops) m=true:=by kernel_rfl) (t:m<=(dS ops).size:=by decide) (I:l.length=m:=by rfl) (K:idxOk l 0=true:=by kernel_rfl)
 (D:kT (dS ops) t0.size=true:=by kernel_rfl):(Code.region id ops true).wp P Q ⟨t0,C⟩ w0:=by
 refine Uy m (rvs l) J E N z U (dS ops) rfl G S t _ rfl D q λy w Y R => ?_;have h:=A y w Y R;rw[QO X];show wpList P (dS ops) Q rest ⟨lay (λi=>decide (i<m)) y (dS ops).toList 0 t0,C⟩ w;rw[Ug K I t R (V y)];exact h
end Pw
namespace Go.Proofs.YthihaopabbpalaaGreat
open _root_.Go.Proofs.Tryz
open Go.RowKit Go.Maps Pw
variable {B B' F b b1 c cap cl f g g0 gc gf gl gp gx i j k p:Nat} {H H' H0 H1 H2:MH} {L:Nat -> Bool} {M m m':Ma} {P:Program} {PP:PS} {T:TypeId} {W W' w w' w0 w1 w2 w3 w4:World} {a al:Option Addr} {cs:Array Value} {d u v:Value} {e n:Int} {l:List Int} {o op:Oper} {ops:Array Oper} {ps:List PF} {s:St} {vs xs:List Value} {y:Nat -> Value} {ρ:Operand -> Value}
theorem mQ(q:TypeId)(x y:Operand)(J:op.op = .store q x y)
 (b o:Nat) (v:Value) (cells:List Value) (E:ρ x = .pointer (some ⟨b,o,none⟩)) (D:ρ y=v) (C:v.cells.toList=cells) (h:Array Value) (T:TypeId) (z:aK w b h T)
 (A:o+cells.length<=h.size) (t:(P.info? q).map (·.size)=some cells.length) (N:∀u∈cells,u.oneCell' = true):(execOp ρ op).run P w = .ok .skip (w.setCells b o cells):=by
 have a:=run_storeCells_cells (P:=P) b o cells 0 w
  (λj K=>by rw[mG,z.cell];simp[show o+j<h.size by omega]) (λj K=>z.free _) N
 simp only[mG]at a;have c:(storeVar q ⟨b,o,none⟩ v).run P w = .ok () (w.setCells b o cells):=by
  cases hq:P.info? q with
  | none=>simp[hq]at t
  | some i=>
   have I:i.size=cells.length:=by simpa[hq]using t
   have G:v.cells.size=cells.length:=by rw[<-C];simp
   simp[storeVar,Go.sizeOf,typeInfo,hq,I,G,C,a]
 unfold execOp;simp only[J,E,D,Instr.storeAt,Instr.sureAddr,lD,sF,sH,c]
theorem jI{l:List oW}{J:(Nat->Bool)->(Nat->Value)->World->Prop}(h:(execOp ρ o).run P w = .ok .skip w')(z:J (jr L i) (lX y i undef) w')(q:Region.wanted o (iC ρ ops)=true:=by exact(ag rfl))(t:rl l i undef w':=by exact trivial) :
  if Region.wanted o (iC ρ ops)=true then dX P o ρ w (λv w'=>J (jr L i) (lX y i v) w'/\rl l i v w')else J (jr L i) (lX y i undef) w/\rl l i undef w:=by
 rw[if_pos q];unfold dX;rw[h];exact⟨z,t⟩
def KA(l:List Fr):Nat:=l.countP λf=>decide (f.r=0)
theorem Dy{α:Type}(q:α->Bool){l l' : List α}(A:l'.length=l.length)(h:∀i (z:i<l.length) (t:i<l'.length),q l'[i]=q l[i]):l'.countP q=l.countP q:=by
 have e:l'.map q=l.map q:=by
  apply sI
  ·simpa using A
  intro i z t;simp only[rJ];exact h i (by simpa using t) (by simpa using z)
 have C:=congrArg (λx=>x.countP id) e;simpa[xA]using C
theorem BS(h:i<m.m.fs.length):aF m i=m.m.fs[i]:=by unfold aF;rw[bA,aM h];rfl
def gF(m:Ma)(p:Nat)(n:Int):Option Page:=
 if(aJ m p n).k=1 then(if(gQ m (aJ m p n).n).f<0 then some (gQ m (aJ m p n).n).p else none)
 else if(aJ m p n).k=2 then some (dN m.sw (aJ m p n).n)else none
theorem Kh(h:Rt m){g:Pg}(z:eP m p n=some g):jy m p n=match gF m p n with
  | some P=>(P,true,0)
  | none=>if g.fi<0 then(zPg,false,0)else if(m.st.fs.length:Int)<=g.fi\/qC m.st g.fi g.pg=true then(zPg,false,9)else(aN m g.fi g.pg,false,0):=by
 rw[jd z];unfold wJ gF
 by_cases k1:(aJ m p n).k=1
 ·rw[if_pos k1,if_pos k1];obtain⟨f,E,D,G,I,o,g0,e,a⟩:=gP h k1;rw[z]at e;cases e;rw[E,yx]
  by_cases t:(aF m f).f<0
  ·rw[if_pos t,decide_eq_true t]
  rw[if_neg t,decide_eq_false t];obtain⟨c,i,l⟩:=h.fc f D (by omega);have b:=h.ca.fr c i;have d:=h.ca.file c i;rw[l,bu]at b;obtain⟨C,A⟩:=a.1 (by omega);rw[<-b.2.1,<-b.2.2,C,A]at d;have j:aN m g.fi g.pg=(aF m f).p:=by rw[<-C,<-A,b.2.1,b.2.2,dC h.ca i,l,bu]
  simp only;rw[if_neg (by have:=d.1;omega),if_neg (qG h.pt.st d),j]
 rw[if_neg k1,if_neg k1]
 by_cases q:(aJ m p n).k=2
 ·rw[if_pos q,if_pos q];obtain⟨g0,e,a⟩:=h.en p n (by rw[q];decide);have K:=(a.sw q).1;have J:=(dA).1 (ku h.pt p n);simp only[KE,true_and];rw[fH];have:=h.pt.swl;exact⟨h.pt.sw,by omega,by omega⟩
 ·rw[if_neg q,if_neg q]
theorem tH(h:Rt m)(p:Nat)(n:Int):gF m p n=if(jy m p n).2.1=true then some (jy m p n).1 else none:=by
 cases hg:eP m p n with
 | none=>
  rw[qR hg];have q:(aJ m p n).k=0:=by
   by_cases e:(aJ m p n).k=0
   ·exact e
   obtain⟨g,a,_⟩:=h.en p n e;rw[hg]at a; cases a
  unfold gF;rw[q];rfl
 | some g=>
  rw[Kh h hg];cases gF m p n with
  | some P=>rfl
  | none=>
   simp only;split
   ·rfl
   ·split<;>rfl
theorem Aj.own(h:Rt m)(h' : Rt m')(v:Aj m m')(p:Nat)(n:Int):gF m' p n=gF m p n:=by
 rw[tH h,tH h',v.see]
theorem Ri(z:alike (aJ m p n) (aJ m' p n))(A:(aJ m p n).k=2->dN m'.sw (aJ m p n).n=dN m.sw (aJ m p n).n)(t:(aJ m p n).k=1->(gQ m' (aJ m p n).n).f=(gQ m (aJ m p n).n).f/\((gQ m (aJ m p n).n).f<0->(gQ m' (aJ m p n).n).p=(gQ m (aJ m p n).n).p)):gF m' p n=gF m p n:=by
 unfold gF;rw[z.1,z.2]
 by_cases k1:(aJ m p n).k=1
 ·rw[if_pos k1,if_pos k1,(t k1).1]
  by_cases q:(gQ m (aJ m p n).n).f<0
  ·rw[if_pos q,if_pos q,(t k1).2 q]
  ·rw[if_neg q,if_neg q]
 rw[if_neg k1,if_neg k1]
 by_cases h:(aJ m p n).k=2
 ·rw[if_pos h,if_pos h,A h]
 ·rw[if_neg h,if_neg h]
def Hy(f i:Int)(c:Cc):Bool:=decide (c.f≠f)||decide (c.i<i)
theorem IR{f i:Int}{c:Cc}:¬(Hy f i c=true)↔c.f=f/\i<=c.i:=by unfold Hy;simp
structure Fgt (m M:Ma) (f i:Int) (J:Nat):Prop where
 rt:Rt M
 co:Co M
 sk:fK m M
 len:M.m.fs.length=m.m.fs.length
 sl:M.sl=m.sl
 sw:M.sw=m.sw
 dk:M.dk=m.dk
 st:M.st=m.st
 ca:M.ca=(m.ca.take J).filter (Hy f i)++m.ca.drop J
 fr:∀g,aF M g=aF m g\/aF M g=frZ
 own:∀p n,gF M p n=gF m p n
 con:∀g j,¬(g=f/\i<=j)->aN M g j=aN m g j
theorem Unc.own{d:Cc}(h:Rt m)(z:d∈m.ca)(U:Unc m M j d)(p:Nat)(n:Int):gF M p n=gF m p n:=by
 by_cases q:(aJ m p n).k=1/\(aJ m p n).n=d.k
 ·have t:aJ M p n=zEn:=by rw[U.ents,if_pos q]
  have C:gF M p n=none:=by unfold gF;rw[t];rfl
  rw[C];unfold gF;rw[if_pos q.1,q.2,if_neg];have:=(h.ca.fr d z).2.1;have G:=(h.ca.file d z).1;show ¬(aF m d.k.toNat).f<0;omega
 have t:aJ M p n=aJ m p n:=by rw[U.ents,if_neg q]
 refine Ri (by rw[t];exact⟨rfl,rfl⟩) (λ_=>by rw[U.sw]) λA => ?_;have a:(aJ m p n).n.toNat≠d.k.toNat:=λe=>by have E:=((dA).1 (ku h.pt p n));have D:=h.ca.lt d z;exact q ⟨A,by omega⟩
 have:gQ M (aJ m p n).n=gQ m (aJ m p n).n:=by show aF M _=aF m _;rw[U.fr,if_neg a]
 rw[this];exact⟨rfl,λ_=>rfl⟩
theorem Ib{α:Type}:∀(l:List α) (j:Nat),(l.eraseIdx j).take j=l.take j/\(l.eraseIdx j).drop j=l.drop (j+1)
 | [],_=>by simp
 | a::l,0=>by simp
 | a::l,j+1=>by have:=Ib l j;simp[this.1,this.2]
theorem wP{f i:Int}:∀(J:Nat) (k:Kp),Rt k.m->Co k.m->J<=k.m.ca.length->∃M,jc f i J k=⟨M,k.e⟩/\Fgt k.m M f i J
 | 0,k,h,hc,_=>⟨k.m,rfl,h,hc,.refl _,rfl,rfl,rfl,rfl,rfl,by simp,λ_ => .inl rfl,λ_ _=>rfl,λ_ _ _=>rfl⟩
 | J+1,k,h,hc,hJ=>by
  have A:k.m.ca[J]?=some (oV k.m J):=by unfold oV;rw[bA,aM (by omega)];rfl
  have b:k.m.ca.take (J+1)=k.m.ca.take J++[oV k.m J]:=by rw[List.take_add_one,A];rfl
  unfold jc
  by_cases q:(oV k.m J).f≠f\/(oV k.m J).i<i
  ·rw[if_pos q];obtain⟨M,e,F⟩:=wP (f:=f) (i:=i) J k h hc (by omega);refine⟨M,e,{ F with ca:=?_ }⟩;have G:Hy f i (oV k.m J)=true:=by
    unfold Hy;rcases q with t|t
    ·simp[t]
    ·simp[t]
   rw[F.ca,b,pW,zt,if_pos G,lF];congr 1;rw[List.filter_nil,List.singleton_append];have:=(dw.1 A).2;rw[<-this,List.getElem_cons_drop]
  rw[if_neg q];obtain⟨z,I,U⟩:=Vt (k:=k) h hc A;have a:z.ca=k.m.ca.eraseIdx J:=U.ca;rw[I];obtain⟨M,e,F⟩:=wP (f:=f) (i:=i) J ⟨z,k.e⟩ U.rt U.co (by show J<=z.ca.length;rw[a,List.length_eraseIdx];split<;>omega);have D:(oV k.m J).f=f/\i<=(oV k.m J).i:=by omega
  have E:=Ib k.m.ca J;refine⟨M,e,F.rt,F.co,U.sk.trans F.sk,F.len.trans U.len,F.sl.trans U.sl,F.sw.trans U.sw,F.dk.trans U.dk,F.st.trans U.st,?_,λg => ?_,λp n=>(F.own p n).trans (U.own h (dB A) p n),λg j c=>(F.con g j c).trans (U.con h λe=>c ⟨e.1.trans D.1,by rw[e.2];exact D.2⟩)⟩
  ·have:M.ca=(z.ca.take J).filter (Hy f i)++z.ca.drop J:=F.ca;rw[this,a,E.1,E.2,b,pW,zt,if_neg (IR.2 D)];simp
  rcases F.fr g with t|t
  ·have C:=U.fr g
   by_cases e:g=(oV k.m J).k.toNat
   ·rw[if_pos e]at C;exact .inr (t.trans C)
   rw[if_neg e]at C;exact .inl (t.trans C)
  ·exact .inr t
instance (s:St) (f i:Int):Decidable (jk s f i):=by unfold jk;infer_instance
theorem oM{f:Int}(h:jE s f n=0):aQ s=0/\aQ (jU s f n)=0/\(0<=f/\f<s.fs.length)/\(0<=n/\n<=96)/\(jU s f n).count=s.count/\(jU s f n).fs.length=s.fs.length /\
  (∀g,(az (jU s f n) g).n=if g=f then n else(az s g).n)/\(∀g,g≠f->az (jU s f n) g=az s g)/\((az (jU s f n) f).b.length:Int)=bn n /\
  ∀j,0<=j->j<bn n->aZ (jU s f n) f j=if j<(az s f).b.length then aZ s f j else -1:=by
 obtain⟨z,F,x,rfl,t,C,i,q⟩:=FU h;have A:=(dw.1 t).1;have l:=Di n;have d:az s F=x:=iN t;have c:az (jU s F n) F=⟨n,lG x.b (bn n).toNat⟩:=iN (by rw[q];simp[A]);have a:∀g,g≠(F:Int)->az (jU s F n) g=az s g:=λg E=>by
  rw[q];unfold az
  by_cases e:0<=g
  ·rw[if_pos e,if_pos e];simp only[bA];rw[uz (by omega)]
  ·rw[if_neg e,if_neg e]
 refine⟨z,GZ h,by omega,⟨C,i⟩,by rw[q],by rw[q];simp,λg => ?_,a,by rw[c];simp only[Dz];omega,λj k D => ?_⟩
 ·by_cases e:g=F
  ·rw[if_pos e,e,c]
  ·rw[if_neg e,a g e]
 unfold aZ;rw[c,d];simp only[lG,bA];rw[yP];simp only[eG]
 by_cases e:j<x.b.length
 ·rw[if_pos e,if_pos (by omega),jO,if_pos (by omega)]
 rw[if_neg e,if_neg (by omega),uA,if_pos (by omega)];rfl
theorem NJ{f:Int}(h:jE s f n=0)(g j:Int):jk (jU s f n) g j↔if g=f then 0<=j/\j<bn n else jk s g j:=by
 obtain⟨_,_,A,_,_,q,C,z,t,_⟩:=oM h;unfold jk
 by_cases e:g=f
 ·rw[if_pos e,e,t,q];exact⟨λh=>h.2,λh=>⟨A,h⟩⟩
 ·rw[if_neg e,z g e,q]
theorem ZN(e:Int):iD e 0=e:=by unfold iD;split<;>simp_all
def CL(n:Int):Nat->List Int->qo->qo
 | _,[],d=>d
 | j,b::r,d=>CL n (j+1) r (if 0<=b/\bn n<=j then pQ d b else d)
structure Trm (d D:qo) (L:Int->Prop):Prop where
 wr:bZ D=0
 len:D.blocks.length=d.blocks.length
 rd:∀o,¬L o->dN D o=dN d o
 bl:∀b,L b->D.blocks.getD b.toNat zPg=zPg
 bz:∀b:Int,D.blocks.getD b.toNat zPg=zPg\/D.blocks.getD b.toNat zPg=d.blocks.getD b.toNat zPg
 q:∀x∈D.queue,x∈d.queue/\¬L x.1
theorem UQ{l:List Page}{x:Page}(h:i<l.length):(l.set i x).getD j zPg=if j=i then x else l.getD j zPg:=by
 simp only[bA,qd]
 by_cases e:j=i
 ·rw[if_pos e.symm,if_pos e,if_pos h];rfl
 ·rw[if_neg (mF e),if_neg e]
theorem FR{n:Int}:∀(l:List Int) (j:Nat) (d:qo),bZ d=0->(∀b∈l,b<d.blocks.length)->Trm d (CL n j l d) (λb => ∃i:Nat,l[i]?=some b/\0<=b/\bn n<=((j+i:Nat):Int))
 | [],j,d,hw,_=>⟨hw,rfl,λ_ _=>rfl,λb ⟨i,h,_⟩=>by simp at h,λ_ => .inr rfl,λx C=>⟨C,λ⟨i,h,_⟩=>by simp at h⟩⟩
 | b::r,j,d,hw,hb=>by
  have R:=hb b jN;unfold CL;have O:∀x:Int,(∃i:Nat,(b::r)[i]?=some x/\0<=x/\bn n<=((j+i:Nat):Int))↔(x=b/\0<=x/\bn n<=(j:Int))\/∃i:Nat,r[i]?=some x/\0<=x/\bn n<=((j+1+i:Nat):Int):=λx=>by
   constructor
   ·rintro⟨i,A,t,I⟩;cases i with
    | zero=>exact .inl ⟨(aU A).symm,t,I⟩
    | succ i=>exact .inr ⟨i,A,t,by rw[show j+1+i=j+(i+1) by omega];exact I⟩
   rintro(⟨A,t,I⟩|⟨i,A,t,I⟩)
   ·exact⟨0,by rw[A];rfl,t,I⟩
   ·exact⟨i+1,A,t,by rw[show j+(i+1)=j+1+i by omega];exact I⟩
  by_cases K:0<=b/\bn n<=j
  ·rw[if_pos K];have N:aI d b=0:=fH.2 ⟨hw,K.1,R⟩;have E:(pQ d b).blocks.length=d.blocks.length:=by unfold pQ;exact bV
   have z:=FR (n:=n) r (j+1) (pQ d b) (Aa N) (λx C=>by rw[E];exact hb x (jh _ C));have G:∀o:Int,(pQ d b).blocks.getD o.toNat zPg=if o.toNat=b.toNat then zPg else d.blocks.getD o.toNat zPg:=λo=>UQ (by omega);refine⟨z.wr,z.len.trans E,λo D => ?_,λo D => ?_,λo => ?_,λx C => ?_⟩
   ·rw[O]at D;rw[z.rd o (λh=>D (.inr h))];exact Tz N λe=>D (.inl ⟨e,by rw[e];exact K.1,K.2⟩)
   ·rcases(O o).1 D with A|A
    ·rcases z.bz o with t|t
     ·exact t
     ·rw[t,G,if_pos (by rw[A.1])]
    ·exact z.bl o A
   ·rcases z.bz o with t|t
    ·exact .inl t
    rw[t,G]
    by_cases e:o.toNat=b.toNat
    ·rw[if_pos e];exact .inl rfl
    ·rw[if_neg e];exact .inr rfl
   obtain⟨A,t⟩:=z.q x C;obtain⟨I,U⟩:=IV A;refine⟨I,λh => ?_⟩;rcases(O x.1).1 h with S|S
   ·exact U S.1
   ·exact t S
  rw[if_neg K];have z:=FR (n:=n) r (j+1) d hw (λx C=>hb x (jh _ C));have J : ∀x:Int,(∃i:Nat,(b::r)[i]?=some x/\0<=x/\bn n<=((j+i:Nat):Int))↔∃i:Nat,r[i]?=some x/\0<=x/\bn n<=((j+1+i:Nat):Int):=λx=>by rw[O];exact⟨λh=>h.resolve_left λ⟨e,A,t⟩=>K ⟨by rw[<-e];exact A,t⟩,.inr⟩
  exact⟨z.wr,z.len,λo D=>z.rd o (λh=>D ((J o).2 h)),λo D=>z.bl o ((J o).1 D),z.bz,λx C=>⟨(z.q x C).1,λh=>(z.q x C).2 ((J x.1).1 h)⟩⟩
theorem Cw{n:Int}:∀(l:List Int) (j:Nat) (k:Kp),bZ k.m.dk=0->(∀b∈l,b<k.m.dk.blocks.length)->mi n k j l=⟨{ k.m with dk:=CL n j l k.m.dk },k.e⟩
 | [],_,_,_,_=>rfl
 | b::r,j,k,hw,hb=>by
  have z:=hb b jN;unfold mi CL
  by_cases q:0<=b/\bn n<=j
  ·have h:aI k.m.dk b=0:=fH.2 ⟨hw,q.1,z⟩;rw[if_pos q,if_pos q,h,ZN];have A:wB k.m.dk b=pQ k.m.dk b:=by unfold wB;rw[if_pos h]
   rw[A];rw[Cw r (j+1) ⟨{ k.m with dk:=pQ k.m.dk b },k.e⟩ (Aa h) (λx t=>by
    have:(pQ k.m.dk b).blocks.length=k.m.dk.blocks.length:=by unfold pQ;exact bV
    show x<((pQ k.m.dk b).blocks.length:Int);rw[this];exact hb x (jh _ t))]
  rw[if_neg q,if_neg q];exact Cw r (j+1) k hw (λx t=>hb x (jh _ t))
structure Zn (m M:Ma) (f n:Int):Prop where
 rt:Rt M
 co:Co M
 sk:fK m M
 len:M.m.fs.length=m.m.fs.length
 sll:M.sl.length=m.sl.length
 files:M.st.fs.length=m.st.fs.length
 size:∀g,(az M.st g).n=if g=f then n else(az m.st g).n
 own:∀p n,gF M p n=gF m p n
 con:∀g j,jk M.st g j->aN M g j=if g=f then(if jk m.st g j then aO (aN m g j) (n-j*8)else zPg)else aN m g j
theorem wy(P:Page)(a b:Int):aO (aO P a) b=aO P (min a b):=by
 ext i hi
 simp only[aO,mH]
 by_cases q:b<=(i:Int)
 ·rw[if_pos q,if_pos (by omega)]
 rw[if_neg q]
 by_cases h:a<=(i:Int)
 ·rw[if_pos h,if_pos (by omega)]
 ·rw[if_neg h,if_neg (by omega)]
theorem GR{P:Page}{a:Int}(h:8<=a):aO P a=P:=by
 ext i hi
 simp only[aO,mH];rw[if_neg (by omega)]
theorem GU{P:Page}{a b:Int}(h:a<=b)(e:aO P a=P):aO P b=P:=by
 rw[<-e,wy,show min a b=a by omega]
theorem LF{k:Kp}(h:Rt k.m)(hc:Co k.m){f:Int}(he:jE k.m.st f n=0)
 (hp:n≠(az k.m.st f).n->0<min n (az k.m.st f).n%8->∃c∈k.m.ca,c.f=f/\c.i=min n (az k.m.st f).n / 8/\(aF k.m c.k.toNat).d=true/\aO (aF k.m c.k.toNat).p (min n (az k.m.st f).n%8)=(aF k.m c.k.toNat).p) :
  ∃M,mU k f n=(⟨M,k.e⟩,0)/\Zn k.m M f n:=by
 obtain⟨hw,hS,hf,hn,hx,hY,hT,hJ,h8,h7⟩:=oM he;have hN:=λg j=>NJ he g j;obtain⟨C,e1,F⟩:=wP (f:=f) (i:=bn n) k.m.ca.length k h hc (aC _);have e1:yV k f (bn n)=⟨C,k.e⟩:=e1;have hR:C.ca=k.m.ca.filter (Hy f (bn n)):=by rw[F.ca];simp
 have w:∀c,c∈C.ca↔c∈k.m.ca/\¬(c.f=f/\bn n<=c.i):=λc=>by rw[hR,uH,<-IR,qL]
 have hX:=iK hw hf;have hB:∀b∈(az C.st f).b,b<(C.dk.blocks.length:Int):=λb Y=>by rw[F.st]at Y;rw[F.dk,h.pt.dkl];exact(hX.2.2.2 b Y).2
 have hI:bZ C.dk=0:=by rw[F.dk];exact h.pt.dk
 have e2:=Cw (n:=n) (az C.st f).b 0 ⟨C,k.e⟩ hI hB;have T:=FR (n:=n) (az C.st f).b 0 C.dk hI hB;generalize hD:CL n 0 (az C.st f).b C.dk=D at *
 rw[F.st,F.dk]at T;have hL:∀b:Int,(∃i:Nat,(az k.m.st f).b[i]?=some b/\0<=b/\bn n<=((0+i:Nat):Int))↔∃j,jk k.m.st f j/\bn n<=j/\0<=b/\aZ k.m.st f j=b:=λb=>by
  constructor
  ·rintro⟨i,A,E,I⟩;have U:=(dw.1 A).1;refine⟨i,⟨hf,by omega,by omega⟩,by rw[dL]at I;exact I,E,?_⟩;unfold aZ;rw[bu,bA,A];rfl
  rintro⟨j,A,E,I,N⟩;refine⟨j.toNat,by rw[oN A,N],I,?_⟩;have:=A.2.1;rw[dL];omega
 refine⟨{ C with dk:=D,st:=jU k.m.st f n },?_,?_⟩
 ·unfold mU;rw[if_neg (by rw[he];simp)];simp only[e1];rw[e2]
 generalize hM:({ C with dk:=D,st:=jU k.m.st f n }:Ma)=M;have O:M.st=jU k.m.st f n:=by rw[<-hM]
 have S:M.dk=D:=by rw[<-hM]
 have G:M.ca=C.ca:=by rw[<-hM]
 have Z:M.m=C.m:=by rw[<-hM]
 have R:M.sl=C.sl:=by rw[<-hM]
 have Msw:M.sw=C.sw:=by rw[<-hM]
 have K:M.sp=C.sp:=by rw[<-hM]
 have r:∀g,aF M g=aF C g:=λg=>uB Z g;have hh:∀p n,aJ M p n=aJ C p n:=λp n=>by unfold aJ bQ;rw[K]
 have hu:fK k.m M:=F.sk.trans (fK.of K);have ha:∀g j,jk M.st g j↔if g=f then 0<=j/\j<bn n else jk k.m.st g j:=λg j=>by rw[O];exact hN g j
 -- a block that is some page's still is lost by no page
 have hF:∀g j,jk k.m.st g j->0<=aZ k.m.st g j->¬(g=f/\bn n<=j)->¬ ∃i:Nat,(az k.m.st f).b[i]?=some (aZ k.m.st g j)/\0<=aZ k.m.st g j/\bn n<=((0+i:Nat):Int):=λg j v J hv V=>by obtain⟨j',a1,a2,a3,a4⟩:=(hL _).1 V;obtain⟨b1,b2⟩:=Ha hw a1 v (by rw[a4];exact a3) a4;exact hv ⟨b1.symm,by rw[<-b2];exact a2⟩
 have hr:∀g j,jk M.st g j->aZ M.st g j=if jk k.m.st g j then aZ k.m.st g j else -1:=λg j v=>by
  have A:=(ha g j).1 v;rw[O]
  by_cases e:g=f
  ·rw[if_pos e]at A;subst e;rw[h7 j A.1 A.2]
   by_cases e2:j<(az k.m.st g).b.length
   ·rw[if_pos e2,if_pos ⟨hf,A.1,e2⟩]
   ·rw[if_neg e2,if_neg (λh=>e2 h.2.2)]
  rw[if_neg e]at A;rw[if_pos A];unfold aZ;rw[hJ g e]
 have o:∀g,(az M.st g).n=if g=f then n else(az k.m.st g).n:=λg=>by rw[O];exact hT g
 have hK:∀j,0<=j->j<bn n->0<n-j*8:=λj J A=>by unfold bn at A;split at A<;>omega
 have hO:∀g j,jk M.st g j->¬jk k.m.st g j->dh M g j=zPg:=λg j A E=>by unfold dh;rw[hr g j A,if_neg E,if_neg (by decide)]
 have hP:∀g j,jk M.st g j->jk k.m.st g j->(g=f->(az k.m.st f).n<n->¬(j=(az k.m.st f).n / 8/\0<(az k.m.st f).n%8))->dh M g j=if g=f then aO (dh k.m g j) (n-j*8)else dh k.m g j:=λg j A E I=>by
  have N:=hr g j A;rw[if_pos E]at N;have h5:=Ag hw E;unfold dh;rw[N,o]
  by_cases J:0<=aZ k.m.st g j
  ·have V:=hF g j E J (λe=>by have:=(ha g j).1 A;rw[if_pos e.1]at this;omega);rw[if_pos J,if_pos J,S,T.rd _ V]
   by_cases e:g=f
   ·rw[if_pos e,if_pos e];subst e;rw[wy]
    by_cases hle:n<=(az k.m.st g).n
    ·rw[show min ((az k.m.st g).n-j*8) (n-j*8)=n-j*8 by omega]
    have:=I rfl (by omega);have h6:=E.2.1;rw[GR (by omega),GR (by omega)]
   ·rw[if_neg e,if_neg e]
  rw[if_neg J,if_neg J]
  by_cases e:g=f
  ·rw[if_pos e,Lp]
  ·rw[if_neg e]
 -- a cached page has no more than its file
 have x:∀c∈M.ca,c.f=f->aO (aF M c.k.toNat).p (n-c.i*8)=(aF M c.k.toNat).p:=λc l z=>by
  rw[G]at l;rw[r];have A:=F.co.tail c l;rw[F.st,z]at A
  by_cases hle:(az k.m.st f).n<=n
  ·exact GU (by omega) A
  have E:=(w c).1 l;have I:=h.ca.file c E.1;have N:c.i<bn n:=by omega
  have h5:=hK c.i I.2.1 N
  by_cases hf8:8<=n-c.i*8
  ·exact GR hf8
  have u:min n (az k.m.st f).n=n:=by omega
  rw[u]at hp;obtain⟨c',p1,p2,p3,p4,p5⟩:=hp (by omega) (by omega);have:c' = c:=srt_eq h.ca.srt p1 E.1 (by rw[p2,z]) (by omega);subst this;have h6:aF C c'.k.toNat=aF k.m c'.k.toNat:=by
   rcases F.fr c'.k.toNat with e|e
   ·exact e
   have:=(F.rt.ca.fr c' l).1;rw[e]at this;exact absurd this (by decide)
  rw[h6,show n-c'.i*8=n%8 by omega];exact p5
 have t:vR M:=⟨λc l=>by
   rw[G]at l;rw[ha];have E:=(w c).1 l;have I:=h.ca.file c E.1
   by_cases e:c.f=f
   ·rw[if_pos e];exact⟨I.2.1,by omega⟩
   ·rw[if_neg e];exact I,λc l=>by rw[G]at l;rw[Z];exact F.rt.ca.lt c l,λc l=>by rw[G]at l;rw[r];exact F.rt.ca.fr c l,by rw[G];exact F.rt.ca.srt⟩
 have hQ:∀g j,jk M.st g j->aN M g j=if g=f then(if jk k.m.st g j then aO (aN k.m g j) (n-j*8)else zPg)else aN k.m g j:=λg j v=>by
  have hv:¬(g=f/\bn n<=j):=λe=>by have:=(ha g j).1 v;rw[if_pos e.1]at this;omega
  rcases kG M g j with⟨c,_,l,z,hci⟩|⟨_,hno⟩
  ·have hA:c∈C.ca:=by rw[<-G];exact l
   have E:=(w c).1 hA;have I:=h.ca.file c E.1;rw[z,hci]at I;have N:aN M g j=aN k.m g j:=by rw[<-F.con g j hv,<-z,<-hci,dC t l,dC F.rt.ca hA,r]
   rw[N,if_pos I]
   by_cases e:g=f
   ·rw[if_pos e];have h5:=x c l (z.trans e);rw[<-dC t l,z,hci,N]at h5;exact h5.symm
   ·rw[if_neg e]
  have hz : ∀c∈k.m.ca,¬(c.f=g/\c.i=j):=λc l e=>hno c (by rw[G];exact(w c).2 ⟨l,λe'=>hv ⟨e.1.symm.trans e'.1,by rw[<-e.2];exact e'.2⟩⟩) e;rw[eB hno,eB hz]
  by_cases X:jk k.m.st g j
  ·rw[if_pos X];refine hP g j v X λe hU hg => ?_;subst e;have u:min n (az k.m.st g).n=(az k.m.st g).n:=by omega
   rw[u]at hp;obtain⟨c',p1,p2,p3,_⟩:=hp (by omega) hg.2;exact hz c' p1 ⟨p2,by rw[p3,hg.1]⟩
  rw[if_neg X,hO g j v X]
  by_cases e:g=f
  ·rw[if_pos e]
  rw[if_neg e];have:=(ha g j).1 v;rw[if_neg e]at this;exact absurd this X
 have hW:=F.st;have hH:=F.dk;have hZ:∀c∈M.ca,(aF M c.k.toNat).d=false->(aF M c.k.toNat).p=dh M c.f c.i:=λc l hd=>by
  have ht:=x c l;have hG:=t.file c l;rw[G]at l;rw[r]at hd ht ⊢;have A:=F.co.clean c l hd;have E:=(w c).1 l;have I:=h.ca.file c E.1;have N:dh C c.f c.i=dh k.m c.f c.i:=by unfold dh;rw[hW,hH]
  rw[N]at A;rw[hP c.f c.i hG I λe hU hg => ?_]
  ·by_cases e:c.f=f
   ·rw[if_pos e,<-A];exact(ht e).symm
   ·rw[if_neg e];exact A
  have u:min n (az k.m.st f).n=(az k.m.st f).n:=by omega
  rw[u]at hp;obtain⟨c',p1,p2,p3,p4,p5⟩:=hp (by omega) hg.2;have:c' = c:=srt_eq h.ca.srt p1 E.1 (by rw[p2,e]) (by rw[p3,hg.1]);subst this;have h6:aF C c'.k.toNat=aF k.m c'.k.toNat:=by
   rcases F.fr c'.k.toNat with e' | e'
   ·exact e'
   have:=(F.rt.ca.fr c' l).1;rw[e']at this;exact absurd this (by decide)
  rw[h6,p4]at hd;cases hd
 have hm:∀b:Int,0<=b->b∈gZ k.m.st->¬(∃i:Nat,(az k.m.st f).b[i]?=some b/\0<=b/\bn n<=((0+i:Nat):Int))->b∈gZ M.st:=λb J Y V=>by
  obtain⟨g,j,A,E⟩:=Ff Y;have I:jk M.st g j:=by
   rw[ha]
   by_cases e:g=f
   ·rw[if_pos e];refine⟨A.2.1,?_⟩
    by_cases hj:j<bn n
    ·exact hj
    ·exact absurd ((hL b).2 ⟨j,by rw[<-e];exact A,by omega,J,by rw[<-e];exact E⟩) V
   ·rw[if_neg e];exact A
  have N:=hr g j I;rw[if_pos A,E]at N;rw[<-N];exact ut I
 refine⟨⟨⟨?_,?_,?_,?_,?_,?_,?_,?_,?_,?_⟩,⟨λb J Y => ?_,λq hq => ?_⟩,?_,t,?_,?_,?_,?_⟩,⟨λc l => ?_,hZ,?_⟩,hu,?_,?_,?_,o,λp j => ?_,hQ⟩
 ·rw[Z];exact F.rt.pt.fr
 ·rw[R];exact F.rt.pt.sl
 ·rw[Msw];exact F.rt.pt.sw
 ·rw[S];exact T.wr
 ·rw[O];exact hS
 ·rw[Msw,R];exact F.rt.pt.swl
 ·rw[S,O,T.len,hx];exact h.pt.dkl
 ·rw[K];exact F.rt.pt.spl
 ·rw[K];exact F.rt.pt.ar
 ·rw[K];exact F.rt.pt.tb
 ·rw[S]at Y ⊢;rw[T.len]at Y
  by_cases V:∃i:Nat,(az k.m.st f).b[i]?=some b/\0<=b/\bn n<=((0+i:Nat):Int)
  ·exact .inr (T.bl b V)
  rcases h.trim.1 b J Y with A|A
  ·exact .inl (hm b J A V)
  rcases T.bz b with E|E
  ·exact .inr E
  ·exact .inr (E.trans A)
 ·rw[S]at hq;obtain⟨A,E⟩:=T.q q hq;have I:=((jg _).1 h.pt.dk).2.2 q A;exact hm q.1 I.1 (h.trim.2 q A) E
 ·intro p hE;rw[hu.lv]at hE;obtain⟨a1,a2⟩:=h.live p hE;refine⟨by rw[hu.ar];exact a1,λj => ?_⟩;rw[hh];exact(F.rt.live p (by rw[F.sk.lv];exact hE)).2 j
 ·intro p j X;rw[hh]at X ⊢;obtain⟨y,hy,hC⟩:=F.rt.en p j X;refine⟨y,by unfold eP at hy ⊢; rw[hu.ar,<-F.sk.ar];exact hy,by rw[R];exact hC.sw,by rw[Z];exact hC.lt,λhV=>by rw[r];exact hC.fr hV⟩
 ·intro i U;rw[Z]at U;have a1:=F.rt.cf i U;have a2:vY M i=vY C i:=by unfold vY;rw[G]
  have a3:bR M 1 i=bR C 1 i:=by unfold bR;rw[K]
  rw[r,a2,a3];exact a1
 ·intro i U J;rw[Z]at U;rw[r]at J;rw[G];exact F.rt.fc i U J
 ·intro s hs;rw[R]at hs;have a1:=F.rt.cs s hs;have a2:iT M s=iT C s:=by unfold iT;rw[R]
  have a3:bR M 2 s=bR C 2 s:=by unfold bR;rw[K]
  rw[a2,a3];exact a1
 ·by_cases e:c.f=f
  ·have:=x c l e;rw[o,if_pos e];exact this
  rw[o,if_neg e,r];rw[G]at l;have:=F.co.tail c l;rw[F.st]at this;exact this
 ·intro i U hd;rw[Z]at U;rw[r]at hd ⊢;exact F.co.anon i U hd
 ·rw[Z];exact F.len
 ·rw[R,F.sl]
 ·rw[O];exact hY
 rw[<-F.own p j];unfold gF;rw[hh,Msw];have:gQ M (aJ C p j).n=gQ C (aJ C p j).n:=r _;rw[this]
theorem BR(h:Rt m)(C:Co m)(f i:Int):aO (aN m f i) ((az m.st f).n-i*8)=aN m f i:=by
 rcases kG m f i with⟨c,_,q,A,z⟩|⟨_,t⟩
 ·subst A;subst z;rw[dC h.ca q];exact C.tail c q
 rw[eB t];exact Je m f i
structure Zy (m M:Ma) (f i:Int) (P:Page):Prop where
 rt:Rt M
 co:Co M
 sk:fK m M
 len:M.m.fs.length=m.m.fs.length
 sl:M.sl=m.sl
 st:M.st=m.st
 ca:M.ca=m.ca
 own:∀p n,gF M p n=gF m p n
 con:∀g j,aN M g j=if g=f/\j=i then P else aN m g j
theorem KP(h:Rt m)(G:Co m){f i:Int}{P:Page}(hcm : ⟨f,i,(g:Int)⟩∈m.ca)(I:aO P ((az m.st f).n-i*8)=P):Zy m (setFr m g (ko (aF m g) P true)) f i P:=by
 have q:=h.ca.lt _ hcm;have E:=h.ca.fr _ hcm;have l:jk m.st f i:=h.ca.file _ hcm;simp only[bu]at E q;have C:g<m.m.fs.length:=by omega
 obtain⟨D,J⟩:=UJ (P:=P) (d:=true) h G C (by omega) (λc j e=>by have:c=⟨f,i,(g:Int)⟩:=h.ca.uniq j hcm (by have:=h.ca.lt c j; show c.k=(g:Int);omega);subst this;exact⟨I,.inl rfl⟩) (λ_=>by have:=l.1;omega);have o:∀x,aF (setFr m g (ko (aF m g) P true)) x=if x=g then ko (aF m g) P true else aF m x:=λx=>fP C x;refine⟨D,J,fK.of rfl,dK,rfl,rfl,rfl,λp n=>Ri ⟨rfl,rfl⟩ (λ_=>rfl) (λ_ => ?_),λa b => ?_⟩
 ·show(aF (setFr m g (ko (aF m g) P true)) (aJ m p n).n.toNat).f=(aF m (aJ m p n).n.toNat).f/\((aF m (aJ m p n).n.toNat).f<0->(aF (setFr m g (ko (aF m g) P true)) (aJ m p n).n.toNat).p=(aF m (aJ m p n).n.toNat).p);rw[o]
  by_cases e:(aJ m p n).n.toNat=g
  ·rw[if_pos e,e];exact⟨rfl,λK=>by have:=l.1;omega⟩
  ·rw[if_neg e];exact⟨rfl,λ_=>rfl⟩
 rcases kG m a b with⟨c,_,j,A,z⟩|⟨_,t⟩
 ·subst A;subst z;rw[dC (m:=setFr m g (ko (aF m g) P true)) D.ca j,dC h.ca j,o]
  by_cases e:c.f=f/\c.i=i
  ·have:=srt_eq h.ca.srt j hcm e.1 e.2;subst this;rw[if_pos e];simp only[bu,if_true];rfl
  rw[if_neg e,if_neg];intro e';have:=h.ca.uniq j hcm (by have:=h.ca.lt c j; show c.k=(g:Int);omega);subst this;exact e ⟨rfl,rfl⟩
 rw[eB (m:=setFr m g (ko (aF m g) P true)) t,eB t,if_neg λe=>t _ hcm ⟨e.1.symm,e.2.symm⟩];rfl
theorem Ll{k:Kp}(h:Rt k.m)(X:Co k.m){f:Int}(V:jE k.m.st f n=0) :
  (lw k f n).1.e=k.e/\((lw k f n).2=0/\Zn k.m (lw k f n).1.m f n\/(lw k f n).2=10/\fO k.m.m.fs=0):=by
 obtain⟨Z,hb,U,hn,_⟩:=oM V;unfold lw;simp only;have x:=iK Z U
 by_cases A:n≠(az k.m.st f).n/\0<min n (az k.m.st f).n%8
 ·rw[if_pos A];have y:jk k.m.st f (min n (az k.m.st f).n / 8):=by have G:0<=(az k.m.st f).n:=x.1;refine⟨U,by omega,?_⟩;rw[x.2.2.1];unfold bn;split<;>omega
  obtain⟨Y,B⟩:=nC (k:=k) h X y;generalize hI:min n (az k.m.st f).n / 8=i at *
  generalize hR:cO k f i=R at *
  by_cases K:R.2<0
  ·rw[if_pos K];exact⟨Y,.inr ⟨rfl,B.no K⟩⟩
  rw[if_neg K];obtain⟨g,hg⟩:∃g:Nat,R.2=g:=⟨R.2.toNat,by omega⟩;have o:=B.yes (by omega);rw[hg]at o ⊢;rw[bu];have w:=B.vis.size f;have t:=BR B.rt B.co f i;have c:=dC B.rt.ca o;simp only[bu]at c;rw[c,w]at t;have q:min n (az k.m.st f).n%8=min n (az k.m.st f).n-i*8:=by omega
  have hP:aO (aO (aF R.1.m g).p (min n (az k.m.st f).n%8)) ((az R.1.m.st f).n-i*8)=aO (aF R.1.m g).p (min n (az k.m.st f).n%8):=by rw[w,wy,q];congr 1;omega
  have Q:=KP B.rt B.co o hP;rw[show xO (aF R.1.m g) (min n (az k.m.st f).n%8)=ko (aF R.1.m g) (aO (aF R.1.m g).p (min n (az k.m.st f).n%8)) true from rfl];have z:g<R.1.m.m.fs.length:=by have:=(B.rt.ca.lt _ o).2;simp only at this;omega
  have s:aF (setFr R.1.m g (ko (aF R.1.m g) (aO (aF R.1.m g).p (min n (az k.m.st f).n%8)) true)) g=ko (aF R.1.m g) (aO (aF R.1.m g).p (min n (az k.m.st f).n%8)) true:=by rw[fP z,if_pos rfl]
  generalize hM2:setFr R.1.m g (ko (aF R.1.m g) (aO (aF R.1.m g).p (min n (az k.m.st f).n%8)) true)=m2 at *
  have d:∀a,(az m2.st a).n=(az k.m.st a).n:=λa=>by rw[Q.st];exact B.vis.size a
  have l:∀a b,jk m2.st a b↔jk k.m.st a b:=λa b=>by rw[Q.st];unfold jk;rw[B.vis.files,B.vis.lenb]
  have u:jE m2.st f n=0:=by
   unfold jE;have a1:aQ m2.st=0:=Q.rt.pt.st;have a2:m2.st.fs.length=k.m.st.fs.length:=by rw[Q.st];exact B.vis.files
   rw[if_neg (by rw[a1];simp),a2,if_neg (by omega),if_neg (by omega)]
  obtain⟨M,I,S⟩:=LF (k:=⟨m2,R.1.e⟩) Q.rt Q.co (f:=f) (n:=n) u (λ_ _=>⟨⟨f,i,(g:Int)⟩,by
   show _∈m2.ca;rw[Q.ca];exact o,rfl,by
   show i=min n (az m2.st f).n / 8;rw[d];exact hI.symm,by
   simp only[bu];rw[s];rfl,by
   simp only[bu];rw[s,d];show aO (aO _ _) _=aO _ _;rw[wy,Int.min_self]⟩)
  have D : mU ⟨m2,R.1.e⟩ f n=(⟨M,R.1.e⟩,0):=I;rw[D];refine⟨Y,.inl ⟨rfl,S.rt,S.co,B.vis.sk.trans (Q.sk.trans S.sk),S.len.trans (Q.len.trans B.len),S.sll.trans (by show m2.sl.length=_;rw[Q.sl];exact B.sll),?_,λa => ?_,λp j=>(S.own p j).trans ((Q.own p j).trans (B.vis.own h B.rt p j)),λa b v => ?_⟩⟩
  ·have:M.st.fs.length=m2.st.fs.length:=S.files;rw[this,Q.st];exact B.vis.files
  ·have:(az M.st a).n=if a=f then n else(az m2.st a).n:=S.size a;rw[this,d]
  have G:aN M a b=if a=f then(if jk m2.st a b then aO (aN m2 a b) (n-b*8)else zPg)else aN m2 a b:=S.con a b v;rw[G]
  by_cases e:a=f
  ·rw[if_pos e,if_pos e]
   by_cases C:jk k.m.st a b
   ·rw[if_pos C,if_pos ((l a b).2 C),Q.con]
    by_cases E:a=f/\b=i
    ·rw[if_pos E,wy];have J:aN k.m a b=(aF R.1.m g).p:=by rw[<-B.vis.con a b C,E.1,E.2];exact c
     rw[J];rw[E.2,q]
     by_cases hle:n<=(az k.m.st f).n
     ·congr 1;omega
     rw[show min (min n (az k.m.st f).n-i*8) (n-i*8)=(az k.m.st f).n-i*8 by omega,t];exact(GU (by omega) t).symm
    ·rw[if_neg E,B.vis.con a b C]
   ·rw[if_neg C,if_neg (λN=>C ((l a b).1 N))]
  rw[if_neg e,if_neg e,Q.con,if_neg (λN=>e N.1)];refine B.vis.con a b ?_;rw[<-l];have O:=NJ u a b;rw[if_neg e]at O;have ha:M.st=jU m2.st f n:=by have:=congrArg (λr:Kp × Int=>r.1.m.st) D;rw[<-this];unfold mU;rw[if_neg (by rw[u];simp)]
  rw[ha]at v;exact O.1 v
 rw[if_neg A];obtain⟨M,I,S⟩:=LF (k:=k) h X (f:=f) (n:=n) V (λG J=>absurd ⟨G,J⟩ A);rw[I];exact⟨rfl,.inl ⟨rfl,S⟩⟩
theorem Lh{F:Value->World->Prop}(E:Region.wanted o (iC ρ ops)=true)(z:TypeId)(x y:Operand)(G:o.op = .store z x y)
 (b i:Nat) (v:Value) (cells:List Value) (D:ρ x = .pointer (some ⟨b,i,none⟩)) (C:ρ y=v) (J:v.cells.toList=cells) (q:Array Value) (T:TypeId) (A:aK w b q T)
 (t:i+cells.length<=q.size) (I:(P.info? z).map (·.size)=some cells.length) (K:∀u∈cells,u.oneCell' = true)
 (h:∀w',aK w' b (dO q i cells) T->w.grownBy w' (some b)->F undef w'):Region.wanted o (iC ρ ops)=true/\dX P o ρ w F:=by
 refine⟨E,?_⟩;unfold dX;rw[mQ z x y G b i v cells D C J q T A t I K];exact h _ (A.setCells _ _) (aD _ _ _ _)
theorem KS.fs(s:KS w0 b H0 w H)(h:iw w0 B b H0 e)(q:mo w0 B' v ps):mo w B' v ps:=
 ⟨s.own h q.own (by decide),λi p t=>s.own h (q.each i p t) (by decide),q.apart⟩
theorem PV{k:Kp}(h:j<l.length):mi n k j (l.drop j)=mi n (if 0<=l[j]/\bn n<=j then⟨{ k.m with dk:=wB k.m.dk l[j] },iD k.e (aI k.m.dk l[j])⟩else k) (j+1) (l.drop (j+1)):=by
 rw[xL h];rfl
theorem aah(h:Dk w H){P:PF}(q:H.fi[F]?=some P):eD w P.a (P.l.map ib):=(h.st.good P (dB q)).rd
theorem ZC{p:Page}{a b:Int}(h:aO p b=p):aO (aO p a) b=aO p a:=by
 rw[wy]
 by_cases e:a<=b
 ·rw[show min a b=a by omega]
 ·rw[show min a b=b by omega,h,GU (by omega) h]
theorem UI(H:MH)(e:Int)(F:Nat)(n:Int)(B b:Nat)(w:World)(h:iw w B b H e)(hR:Rt H.ma)(hC:Co H.ma)(hF:F<H.fi.length)(E:0<=n/\n<=96) :
  Calls Tryz.prog 158 #[.pointer (some ⟨b,0,none⟩),.int .i64 F,.int .i64 n] w λr w'=>r = .returned (.int .i64 (lw ⟨H.ma,e⟩ F n).2)/\KR w B b H w' (lw ⟨H.ma,e⟩ F n).1:=by
 have gL:H.ma.st.fs.length=H.fi.length:=fE _;have kM:(0:Int)<=F/\(F:Int)<(H.ma.st.fs.length:Int):=by omega
 obtain⟨P,hP⟩:∃P,H.fi[F]?=some P:=⟨_,aM hF⟩;have hY:az H.ma.st F=P.fi:=iN (by show(H.fi.map PF.fi)[F]?=_;rw[iH,hP];rfl);have hH:=iK hR.pt.st kM;rw[hY]at hH;have ql:0<=P.n/\P.n<=96:=⟨hH.1,hH.2.1⟩;have kn:Hid (∀m:Ma,Rt m->m.st.fs.length=H.fi.length->jE m.st F n=0):=ae λm hm hl=>by unfold jE;rw[if_neg (by rw[hm.pt.st];simp),if_neg (by omega),if_neg (by omega)]
 have z:Hid (lw ⟨H.ma,e⟩ F n=if n≠P.n/\0<min n P.n%8 then(if(cO ⟨H.ma,e⟩ F (min n P.n / 8)).2<0 then((cO ⟨H.ma,e⟩ F (min n P.n / 8)).1,10)else
   mU ⟨setFr (cO ⟨H.ma,e⟩ F (min n P.n / 8)).1.m (cO ⟨H.ma,e⟩ F (min n P.n / 8)).2.toNat (xO (aF (cO ⟨H.ma,e⟩ F (min n P.n / 8)).1.m (cO ⟨H.ma,e⟩ F (min n P.n / 8)).2.toNat) (min n P.n%8)),(cO ⟨H.ma,e⟩ F (min n P.n / 8)).1.e⟩ F n)else mU ⟨H.ma,e⟩ F n):=ae (by
  unfold lw;simp only[show az (Kp.m ⟨H.ma,e⟩).st F=P.fi from hY];rfl)
 have hi:Hid (0<min n P.n%8->jk H.ma.st F (min n P.n / 8)):=ae (λh0=>by refine⟨kM,by omega,?_⟩;rw[hY,hH.2.2.1];show _<bn P.n;unfold bn;split<;>omega);have kI:=ae hR;have gD:=ae hC;clear hY hH hR hC gL kM;obtain⟨bf,of,P',kH,hT,hM,gq⟩:=yB h.ma.rd.st.rd F hF;rw[hP]at hT;cases hT;have Z:=h.blk.cell;unfold lm at Z;rw[kH]at Z;have qn:(F:Int)<(H.fi.length:Int):=by omega
 go_enter func158,ntmps158;obtain⟨L,gc⟩:∃L,(if P.n<n then P.n else n)=L:=⟨_,rfl⟩;have ko:min n P.n=L:=by rw[<-gc];split<;>omega
 rw[ko]at z hi;have hL:Hid (0<=L/\L<=96):=ae (by omega);clear ko;obtain⟨E3,hx⟩:∃E3:Bool,Hid (E3=(decide (n≠P.n)&&decide (0<L%8))):=⟨_,ae rfl⟩;go_upto_region 3 with(fail)
 go_cut [36] (fun s36 wx=>s36 = .bool E3/\Below w.heap.size w wx)
 case first=>
  clear Z hM gq kH
  by_cases c1:n=P.n
  ·have hf:(n != P.n)=false:=by simp[c1]
   have hE:Hid (E3=false):=ae (by rw[hx.out,decide_eq_false (by simpa using c1)];rfl);go_wp2;go_meet
   case rel=>exact⟨by rw[hE.out],Below.refl _ _⟩
  have hf:(n != P.n)=true:=by simp[c1]
  have hE:Hid (E3=decide (0<L%8)):=ae (by rw[hx.out,decide_eq_true c1];rfl);go_wp2;go_meet
  case rel=>exact⟨by rw[hE.out],Below.refl _ _⟩
 case rest=>
  obtain⟨rfl,hf⟩:=hcut;have k1:=h.below hf;have s1:=(KS.refl w b H).below hf;clear h Z hM gq kH hf;go_upto_if 36 with(fail)
  go_cut [9] (fun s9 wx => ∃(G:MH) (eX:Int),iw wx B b G eX/\KS w b H wx G/\Hid (lw ⟨H.ma,e⟩ F n=mU ⟨G.ma,eX⟩ F n)/\Hid (Rt G.ma/\Co G.ma/\G.ma.st.fs.length=H.fi.length))
  case first=>
   cases E3 with
   | false=>
    have O:Hid (lw ⟨H.ma,e⟩ F n=mU ⟨H.ma,e⟩ F n):=ae (by rw[z.out,if_neg];rintro⟨U,h2⟩;have:=hx.out;rw[decide_eq_true U,decide_eq_true h2]at this;cases this);go_wp2;go_meet
    case rel=>exact⟨H,e,k1,s1,O,ae ⟨kI.out,gD.out,fE _⟩⟩
   | true=>
    have ks:n≠P.n/\0<L%8:=by have U:=hx.out.symm;simp only[dJ,decide_eq_true_eq]at U;exact U
    rw[if_pos ks]at z;have gh:=hi.out ks.2;have hJ:=ae (nC (k:=⟨H.ma,e⟩) kI.out gD.out gh);clear hx hi
    go_wp2_with fail
    refine(Ai H e F (L / 8) B b _ k1 kI.out gh).mono ?_;rintro r w2 ⟨rfl,H2,e2,k2,s2,q2⟩;have s02:=s1.trans s2;have q2':=ae q2;have hh:Hid (Rt H2.ma/\Co H2.ma/\H2.ma.st.fs.length=H.fi.length):=ae (by rw[show H2.ma=(cO ⟨H.ma,e⟩ F (L / 8)).1.m from congrArg Kp.m q2];exact⟨hJ.out.2.rt,hJ.out.2.co,hJ.out.2.vis.files.trans (fE _)⟩);clear q2 s1 s2 k1;generalize hK:(cO ⟨H.ma,e⟩ F (L / 8)).2=K at *
    by_cases h0:K<0
    ·have O:Hid (lw ⟨H.ma,e⟩ F n=(⟨H2.ma,e2⟩,10)):=ae (by rw[z.out,if_pos h0,q2'.out]);go_wp2;go_ret;rw[O.out];exact⟨rfl,_,_,k2,s02,rfl⟩
    obtain⟨g,hg⟩:∃g:Nat,K=g:=⟨K.toNat,by omega⟩;have hZ:=hJ.out.2.yes (by omega);rw[show(cO ⟨H.ma,e⟩ F (L / 8)).1.m=H2.ma from(congrArg Kp.m q2'.out).symm,hg]at hZ;have O:Hid (lw ⟨H.ma,e⟩ F n=mU ⟨setFr H2.ma g (xO (aF H2.ma g) (L%8)),e2⟩ F n):=ae (by rw[z.out,if_neg h0,<-q2'.out,hg,bu]);have kt:=ae hZ;have hr:g<H2.m.fs.length:=by have:=(hh.out.1.ca.lt _ hZ).2;show g<H2.ma.m.fs.length;simp only at this;omega
    subst hg;clear hK q2' hJ z hZ;obtain⟨gf,of,cur,ka,gt,gm,kD,k0⟩:=k2.frPut hr;have gi:(g:Int)<(H2.m.fs.length:Int):=by omega
    clear k0 gt gm;obtain⟨X,hX⟩:∃X,Hid (X=aF H2.ma g):=⟨_,ae rfl⟩;rw[<-hX.out]at kD O;have k3:eD w2 (some ⟨gf,of+g*13,none⟩) (gW X.p).toList:=by have:=mW kD 0 8;exact this
    go_upto_region 7 with(fail);refine uQ 21 22 [] [fQ (.pointer (some ⟨b,0,none⟩)),fQ (.pointer (some ⟨b,0,none⟩)),fQ (.pointer (some ⟨b,0,none⟩)),fQ (.pointer (some ⟨b,0,none⟩)),fQ (.pointer (some ⟨b,0,none⟩)),fQ (.slice (some ⟨gf,of,none⟩) H2.m.fs.length H2.cf),fQ (.int .i64 (g:Int)),fQ (.pointer (some ⟨b,0,none⟩)),fQ (.pointer (some ⟨b,0,none⟩)),fQ (.pointer (some ⟨b,0,none⟩)),fQ (.pointer (some ⟨b,0,none⟩)),fQ (.pointer (some ⟨b,0,none⟩)),fQ (.slice (some ⟨gf,of,none⟩) H2.m.fs.length H2.cf),fQ (.int .i64 (g:Int)),fQ (.pointer (some ⟨gf,of+g*13,none⟩)),fQ (.pointer (some ⟨gf,of+g*13,none⟩)),fQ (.agg (gW X.p)),fQ (.int .i64 (L%8)),fQ (.agg (gW (aO X.p (L%8)))),fQ (.pointer (some ⟨gf,of+g*13,none⟩)),fQ (.pointer (some ⟨gf,of+g*13,none⟩))] (by kernel_rfl) (by kernel_rfl) (by kernel_rfl) (by kernel_rfl) (by kernel_rfl) (by kernel_rfl) (by decide) (by decide) _ rfl (by kernel_rfl) (aj ?_ (aj ?_ (aj ?_ (aj ?_ (aj ?_ (aj ?_ (aj ?_ (aj ?_ (aj ?_ (aj ?_ (aj ?_ (aj ?_ (aj ?_ (aj ?_ (aj ?_ (aj ?_ (aj ?_ (aj ?_ (aj ?_ (aj ?_ (aj ?_ (aH)))))))))))))))))))))) (aH) rfl ?_
    ·refine aB ?_;intro ρ y W A E N C;have E0:ρ (.tmp 0) = .pointer (some ⟨b,0,none⟩):=(E (.tmp 0) rfl).trans rfl;refine ak (.pointer (some ⟨b,0,none⟩)) (run_move (.inl rfl) E0)
    ·refine aB ?_;intro ρ y W A E N C;have qk:=A 46 0 rfl;have h0:y 0=_:=C 0 rfl;refine ak (.pointer (some ⟨b,0,none⟩)) (by simp[execOp,go_sem,qk,h0])
    ·refine aB ?_;intro ρ y W A E N C;have qi:=A 47 1 rfl;have U:y 1=_:=C 1 rfl;refine ak (.pointer (some ⟨b,0,none⟩)) (by simp[execOp,go_sem,qi,U])
    ·refine aB ?_;intro ρ y W A E N C;have qh:=A 48 2 rfl;have h2:y 2=_:=C 2 rfl;refine ak (.pointer (some ⟨b,0,none⟩)) (by simp[execOp,go_sem,qh,h2])
    ·refine aB ?_;intro ρ y W A E N C;have qg:=A 49 3 rfl;have h3:y 3=_:=C 3 rfl;refine ak (.pointer (some ⟨b,0,none⟩)) (by simp[execOp,go_sem,qg,h3])
    ·refine aB ?_;intro ρ y W A E N C;have qf:=A 50 4 rfl;have h4:y 4=_:=C 4 rfl;refine ak (.slice (some ⟨gf,of,none⟩) H2.m.fs.length H2.cf) (by simp[execOp,go_sem,qf,h4,(k2.below N).blk.cell,lm,ka])
    ·refine aB ?_;intro ρ y W A E N C;have E9:ρ (.tmp 9) = .int .i64 (g:Int):=(E (.tmp 9) rfl).trans rfl;refine ak (.int .i64 (g:Int)) (run_move (.inl rfl) E9)
    ·refine aB ?_;intro ρ y W A E N C;have E0:ρ (.tmp 0) = .pointer (some ⟨b,0,none⟩):=(E (.tmp 0) rfl).trans rfl;refine ak (.pointer (some ⟨b,0,none⟩)) (run_move (.inl rfl) E0)
    ·refine aB ?_;intro ρ y W A E N C;have qc:=A 53 7 rfl;have h7:y 7=_:=C 7 rfl;refine ak (.pointer (some ⟨b,0,none⟩)) (by simp[execOp,go_sem,qc,h7])
    ·refine aB ?_;intro ρ y W A E N C;have qb:=A 54 8 rfl;have h8:y 8=_:=C 8 rfl;refine ak (.pointer (some ⟨b,0,none⟩)) (by simp[execOp,go_sem,qb,h8])
    ·refine aB ?_;intro ρ y W A E N C;have qa:=A 55 9 rfl;have h9:y 9=_:=C 9 rfl;refine ak (.pointer (some ⟨b,0,none⟩)) (by simp[execOp,go_sem,qa,h9])
    ·refine aB ?_;intro ρ y W A E N C;have g9:=A 56 10 rfl;have g0:y 10=_:=C 10 rfl;refine ak (.pointer (some ⟨b,0,none⟩)) (by simp[execOp,go_sem,g9,g0])
    ·refine aB ?_;intro ρ y W A E N C;have g8:=A 57 11 rfl;have gZ:y 11=_:=C 11 rfl;refine ak (.slice (some ⟨gf,of,none⟩) H2.m.fs.length H2.cf) (by simp[execOp,go_sem,g8,gZ,(k2.below N).blk.cell,lm,ka])
    ·refine aB ?_;intro ρ y W A E N C;have E9:ρ (.tmp 9) = .int .i64 (g:Int):=(E (.tmp 9) rfl).trans rfl;refine ak (.int .i64 (g:Int)) (run_move (.inl rfl) E9)
    ·refine aB ?_;intro ρ y W A E N C;have g7:=A 58 12 rfl;have gY:y 12=_:=C 12 rfl;have g6:=A 59 13 rfl;have gX:y 13=_:=C 13 rfl;refine ak (.pointer (some ⟨gf,of+g*13,none⟩)) (ed rfl (g7.trans gY) (g6.trans gX) hr underlying30 frame_size)
    ·refine aB ?_;intro ρ y W A E N C;have g5:=A 60 14 rfl;have gV:y 14=_:=C 14 rfl;refine ak (.pointer (some ⟨gf,of+g*13,none⟩)) (by simp[execOp,go_sem,g5,gV])
    ·refine aB ?_;intro ρ y W A E N C;have g4:=A 61 15 rfl;have gU:y 15=_:=C 15 rfl;refine ak (.agg (gW X.p)) (bO rfl (g4.trans gU) (k3.below N) underlying58 (s:=psize))
    ·refine aB ?_;intro ρ y W A E N C;have E8:ρ (.tmp 8) = .int .i64 (L%8):=(E (.tmp 8) rfl).trans rfl;refine ak (.int .i64 (L%8)) (run_move (.inl rfl) E8)
    ·refine aB ?_;intro ρ y W A E N C;have g3:=A 62 16 rfl;have gT:y 16=_:=C 16 rfl;have g2:=A 63 17 rfl;have gS:y 17=_:=C 17 rfl;have EF:=eF0 E λ_=>trivial;refine aL (aW rfl (EF _) func140 (by simp only[bU,bM,bP,g3,gT,g2,gS,EF];rfl)) ?_;refine(QH _ _ _).mono ?_;rintro r w1 ⟨rfl,hf⟩;exact⟨_,rfl,hf,rfl⟩
    ·refine aB ?_;intro ρ y W A E N C;have qe:=A 51 5 rfl;have h5:y 5=_:=C 5 rfl;have qd:=A 52 6 rfl;have h6:y 6=_:=C 6 rfl;refine ak (.pointer (some ⟨gf,of+g*13,none⟩)) (ed rfl (qe.trans h5) (qd.trans h6) hr underlying30 frame_size)
    ·refine aB ?_;intro ρ y W A E N C;have g1:=A 65 19 rfl;have gR:y 19=_:=C 19 rfl;refine ak (.pointer (some ⟨gf,of+g*13,none⟩)) (by simp[execOp,go_sem,g1,gR])
    intro ρ y WA o ho A E hV hQ a;cases ho;have kZ:y 0=_:=a 0 (by decide);have kY:y 1=_:=a 1 (by decide);have kW:y 2=_:=a 2 (by decide);have kV:y 3=_:=a 3 (by decide);have kU:y 4=_:=a 4 (by decide);have kT:y 5=_:=a 5 (by decide);have kS:y 6=_:=a 6 (by decide);have kR:y 7=_:=a 7 (by decide);have kQ:y 8=_:=a 8 (by decide);have kP:y 9=_:=a 9 (by decide);have kk:y 10=_:=a 10 (by decide);have ki:y 11=_:=a 11 (by decide);have kh:y 12=_:=a 12 (by decide);have kg:y 13=_:=a 13 (by decide);have kf:y 14=_:=a 14 (by decide);have ke:y 15=_:=a 15 (by decide);have kd:y 16=_:=a 16 (by decide);have kc:y 17=_:=a 17 (by decide);have hz:y 18=_:=a 18 (by decide);have kb:y 19=_:=a 19 (by decide);have hy:y 20=_:=a 20 (by decide);have gE:=A 66 20 rfl;rw[hy]at gE;have gF:=A 64 18 rfl;rw[hz]at gF;have EC:∀v,ρ (.const v)=v:=λv=>E (.const v) trivial;have EF:=eF0 E λ_=>trivial;obtain⟨gf2,of2,cur2,hS,hO,kG,_,hG⟩:=(k2.below hQ).frPut hr;rw[ka]at hS;simp only[fM,mD,and_true]at hS;obtain⟨rfl,rfl⟩:=hS;refine Lh (ag) _ _ _ rfl gf (of+g*13) _ (gW (aO X.p (L%8))).toList gE gF rfl _ _ hO (by show of+g*13+8<=_;omega) psize (gH (pX _)) ?_;intro w5 hs gl;clear a A E hV;simp only[lay,Nat.reduceAdd,Nat.reduceLT,Nat.reduceEqDiff,reduceIte,decide_true,decide_false,if_true,oz,if_false,rD,qV,rf,rF,rC,rH,kZ,kY,kW,kV,kU,kT,kS,kR,kQ,kP,kk,ki,kh,kg,kf,ke,kd,kc,hz,kb,hy];clear kZ kY kW kV kU kT kS kR kQ kP kk ki kh kg kf ke kd kc hz kb hy;obtain⟨k5,s5⟩:=hG 0 8 (gW (aO X.p (L%8))).toList { X with p:=aO X.p (L%8) } w5 rfl (by decide) (by rw[<-hX.out];rfl) hs gl;have s5:=s5 _ _ (s02.below hQ);clear hG hO kG hs gl hQ k3 kD k2 s02 ka;have kL:Hid (MH.ma { H2 with m:=⟨H2.m.fs.set g { X with p:=aO X.p (L%8) },H2.m.hand⟩ }=setFr H2.ma g { X with p:=aO X.p (L%8) }):=ae rfl;have gg:(H2.m.fs.set g { X with p:=aO X.p (L%8) }).length=H2.m.fs.length:=bV;have kp:g<(MH.m { H2 with m:=⟨H2.m.fs.set g { X with p:=aO X.p (L%8) },H2.m.hand⟩ }).fs.length:=by show g<(H2.m.fs.set _ _).length;rw[gg];exact hr
    clear gg;generalize ({ H2 with m:=⟨H2.m.fs.set g { X with p:=aO X.p (L%8) },H2.m.hand⟩ }:MH)=H5 at *
    obtain⟨gf3,of3,cur3,kw,hN,kF,k7,hB⟩:=k5.frPut kp;have Z:=k5.blk.cell;unfold lm at Z;rw[kw]at Z;have gi:(g:Int)<(H5.m.fs.length:Int):=by omega
    clear kw k7
    go_wp2_with (refine aY gf3 (of3+g*13+10) [.bool true] rfl rfl rfl _ _ hN (by simp;omega) uO (λu hu=>by cases bF.1 hu;rfl) ?_)
    intro w6 ha gk;have kq:aF H5.ma g = { X with p:=aO X.p (L%8) }:=by rw[kL.out,fP (m:=H2.ma) hr,if_pos rfl]
    obtain⟨k6,s6⟩:=hB 10 1 [.bool true] (xO X (L%8)) w6 rfl (by decide) (by rw[kq];rfl) ha gk;have s6:=s6 _ _ s5;have gA:Hid (MH.ma { H5 with m:=⟨H5.m.fs.set g (xO X (L%8)),H5.m.hand⟩ }=setFr H2.ma g (xO X (L%8))):=ae (by show setFr H5.ma g (xO X (L%8))=_;rw[kL.out];unfold setFr;simp only[pO]);have gv:Hid (Rt (setFr H2.ma g (xO X (L%8)))/\Co (setFr H2.ma g (xO X (L%8)))/\(setFr H2.ma g (xO X (L%8))).st.fs.length=H.fi.length):=ae (by have ht:=BR hh.out.1 hh.out.2.1 F (L / 8);have hM:=dC hh.out.1.ca kt.out;simp only[bu]at hM;rw[hM,<-hX.out]at ht;have hp:=KP hh.out.1 hh.out.2.1 kt.out (P:=aO X.p (L%8)) (ZC ht);rw[<-hX.out]at hp;exact⟨hp.rt,hp.co,hh.out.2.2⟩);clear k5 s5 Z hN kF hB ha gk kL kp kq gi;generalize ({ H5 with m:=⟨H5.m.fs.set g (xO X (L%8)),H5.m.hand⟩ }:MH)=H6 at *
    rw[<-gA.out]at O gv;have O:=ae O.out;clear gA;go_wp2;go_meet
    case rel=>exact⟨H6,e2,k6,s6,O,gv⟩
  case rest=>
   clear k1 s1 z hi hx gc hL;obtain⟨G,eX,kX,sX,ga,d⟩:=hcut;have kC:=sK d.out.1;have kO:G.sp.length<=1000:=by have:=kC.sp.1;rwa [qm]at this
   have kN:G.ca.length<=1000:=kC.ca;have gG:Hid (bD G.fi G.ct=G.ma.st):=ae rfl;have hW:=kn.out G.ma d.out.1 d.out.2.2;rw[<-gG.out]at hW;have gI:=ae (GZ hW);clear kC
   go_wp2_with (refine ay b 7 _ kX.rdS _ underlying41 rfl store_size ?_)
   refine(TI G.fi G.ct F n G.ai G.ci _ kX.ma.rd.st kX.ma.c64).mono ?_;rintro r w5 ⟨v5,qs,R,rfl,kK,km,hs⟩;rw[hW];have hA:=ae km;have gQ:=ae kX.bs;obtain⟨a5,c5,rfl,_⟩:=kK.rd;have k5:=kX.below hs;have s5:=sX.below hs;clear kX sX hW km hs
   go_wp2_with (refine aT #[.slice a5 qs.length c5,.int .i64 R] store_size (jP _ _ _ _) ?_)
   intro w6 ha sx6;have k6:=k5.below ha;have s6:=s5.below ha;have gy:=(kK.mono gQ.out).below ha;clear k5 s5 kK ha;generalize w5.heap.size=gx at sx6
   go_wp2_with fail
   refine(qW n _ (by omega)).mono ?_;rintro r w7 ⟨rfl,rfl⟩
   go_wp2_with fail
   refine(MM G eX F (bn n) B b _ k6 kO kN).mono ?_;rintro r w8 ⟨rfl,S,e8,k8,s8,q8⟩;have sx8:=s8.blk k6 sx6 (by decide);have gw:=s8.fs k6 gy;have s08:=s6.trans s8;have q8':=ae q8;have kl:Hid (S.ma.st=G.ma.st):=ae (by obtain⟨M,eM,gO⟩:=wP (f:=F) (i:=bn n) G.ma.ca.length ⟨G.ma,eX⟩ d.out.1 d.out.2.1 (aC _);have e1:yV ⟨G.ma,eX⟩ F (bn n)=⟨M,eX⟩:=eM;rw[show S.ma=(yV ⟨G.ma,eX⟩ F (bn n)).m from congrArg Kp.m q8,e1];exact gO.st);have kr:F<S.fi.length:=by have e1:S.ma.st.fs.length=S.fi.length:=fE _;rw[kl.out,d.out.2.2]at e1;omega
   obtain⟨J,kJ⟩:∃J,S.fi[F]?=some J:=⟨_,aM kr⟩;have gn:Hid (az S.ma.st F=J.fi):=ae (iN (by show(S.fi.map PF.fi)[F]?=_;rw[iH,kJ];rfl));have gJ:J.l.length<=1000:=by have U:=iK d.out.1.pt.st (f:=(F:Int)) (by rw[d.out.2.2];omega);rw[<-kl.out,gn.out]at U;have h2:(J.l.length:Int)=bn J.n:=U.2.2.1;have h3:=ul (n:=J.n) U.2.1;omega
   have gb:Hid (mU ⟨G.ma,eX⟩ F n=(⟨{ (mi n ⟨S.ma,e8⟩ 0 J.l).m with st:=jU G.ma.st F n },(mi n ⟨S.ma,e8⟩ 0 J.l).e⟩,0)):=ae (by unfold mU;have U:jE G.ma.st F n=0:=kn.out G.ma d.out.1 d.out.2.2;rw[if_neg (by show ¬jE G.ma.st F n≠0;rw[U];simp)];simp only;rw[<-q8];simp only;rw[gn.out];rfl);obtain⟨b8,o8,P',kv,hT,gr,gp⟩:=yB k8.ma.rd.st.rd F kr;rw[kJ]at hT;cases hT;have Z:=k8.blk.cell;unfold lm at Z;rw[kv]at Z;have gB:(F:Int)<(S.fi.length:Int):=by omega
   clear k6 s6 s8 q8 sx6 gy kv kO kN;go_upto_region 14 with(fail);clear Z gr gp gB
   go_loopw [106] (fun s106 wr => ∃(j:Nat) (I:MH) (Y:Int),j<=J.l.length/\s106 = .int .i64 j/\iw wr B b I Y/\KS w b H wr I/\Hid (mi n ⟨S.ma,e8⟩ 0 J.l=mi n ⟨I.ma,Y⟩ j (J.l.drop j))/\Hid (I.fi=S.fi)/\mo wr B (.slice a5 qs.length c5) qs/\aK wr gx #[.slice a5 qs.length c5,.int .i64 R] 41) (fun s106 _=>J.l.length-(intOf s106).toNat)
   case atStart=>exact⟨0,S,e8,bN _,rfl,k8,s08,ae rfl,ae rfl,gw,sx8⟩
   case round=>
    clear k8 s08 gw sx8;obtain⟨j,I,Y,hj,rfl,kj,sj,qj,hI,hU,sxj⟩:=hrel
    by_cases hjl:j<J.l.length
    ·have gK:(j:Int)<(J.l.length:Int):=by omega
     have k4:=aah kj.ma.rd (F:=F) (P:=J) (by rw[hI.out];exact kJ);obtain⟨bl,ol,gu,gM⟩:=mO k4 j hjl;have c:=ae (PV (n:=n) (k:=⟨I.ma,Y⟩) hjl);generalize hv:J.l[j]=v at *
     rw[gu];clear k4 gu hv
     by_cases c1:0<=v
     ·by_cases c2:bn n<=j
      ·have O:Hid (mi n ⟨S.ma,e8⟩ 0 J.l=mi n ⟨{ I.ma with dk:=wB I.dk v },iD Y (aI I.dk v)⟩ (j+1) (J.l.drop (j+1))):=ae (by rw[qj.out,c.out,if_pos ⟨c1,c2⟩];rfl);clear c qj
       go_wp2_with fail
       refine(qW n _ (by omega)).mono ?_;rintro r w9 ⟨rfl,rfl⟩
       go_wp2_with (refine ay b 5 _ kj.rdD _ underlying38 rfl disk_size ?_)
       refine(TR I.dk v I.db I.cdb I.dq I.cdq _ kj.ma.rd.dk).mono ?_;rintro r w10 ⟨vb,vq,rfl,hD,x⟩;have gP:=ae kj.bs;have k10:=kj.below x;have s10:=sj.below x;have kz:=hU.below x;have sx10:=sxj.ext x;have hk:=hD.mono gP.out;obtain⟨D,gC⟩:∃D,Hid (D=wB I.dk v):=⟨_,ae rfl⟩;rw[<-gC.out]at hk O;obtain⟨ab,cb,aq,cq,rfl,rfl,_⟩:=hk.rd;clear kj sj hU sxj hD x gM;generalize aI I.dk v=er at *
       go_wp2_with (refine aT #[.slice ab D.blocks.length cb,.slice aq D.queue.length cq] disk_size (by simp[Value.oneCell']) ?_)
       intro w11 s dx11;have V:=k10.below s;have s11:=s10.below s;have ky:=kz.below s;have sx11:=sx10.ext s;have kB:=hk.below s;clear k10 s10 kz sx10 hk s;generalize w10.heap.size=gd at dx11
       go_wp2_with fail
       refine(rU _ Y er _ _ _ V).mono ?_;rintro r w12 ⟨rfl,k12,q⟩;have s12:=s11.putB q rfl rfl rfl;have kx:=ky.keep V.blk (by decide) (by decide) q;have sx12:=aG sx11 V.blk q;have dx12:=aG dx11 V.blk q;have kA:=kB.keep V.blk (by decide) (by decide) q;clear V s11 ky sx11 dx11 kB q
       go_wp2_with (first | (refine ay gd 0 _ dx12.rd _ underlying38 rfl disk_size ?_) | (refine aY b 5 [.slice ab D.blocks.length cb,.slice aq D.queue.length cq] rfl rfl rfl _ _ k12.blk (by show 5+2<=12;decide) disk_size (λu hu=>by simp at hu;rcases hu with rfl | rfl<;>rfl) ?_))
       intro w13 ku t;have k13:=k12.setD kA ku t;have s13:KS w b H w13 { I with db:=ab,cdb:=cb,dq:=aq,cdq:=cq,dk:=D }:=s12.putB t rfl rfl rfl;have gz:=kx.keep k12.blk (by decide) (by decide) t;have sx13:=aG sx12 k12.blk t;have ge:Hid (mi n ⟨S.ma,e8⟩ 0 J.l=mi n ⟨MH.ma { I with db:=ab,cdb:=cb,dq:=aq,cdq:=cq,dk:=D },iD Y er⟩ (j+1) (J.l.drop (j+1))):=ae O.out;have kE:Hid ((MH.fi { I with db:=ab,cdb:=cb,dq:=aq,cdq:=cq,dk:=D })=S.fi):=ae hI.out;clear k12 s12 kx sx12 dx12 kA ku t O hI gC;generalize ({ I with db:=ab,cdb:=cb,dq:=aq,cdq:=cq,dk:=D }:MH)=H13 at *
       go_wp2;go_roundw
       case rel=>exact⟨j+1,H13,_,by omega,by go_num,k13,s13,ge,kE,gz,sx13⟩
       case measure=>simp[intOf];omega
      have O:Hid (mi n ⟨S.ma,e8⟩ 0 J.l=mi n ⟨I.ma,Y⟩ (j+1) (J.l.drop (j+1))):=ae (by rw[qj.out,c.out,if_neg (λh'=>c2 h'.2)]);clear c qj
      go_wp2_with fail
      refine (qW n _ (by omega)).mono ?_;rintro r w9 ⟨rfl,rfl⟩;go_wp2;go_roundw
      case rel=>exact⟨j+1,I,Y,by omega,by go_num,kj,sj,O,hI,hU,sxj⟩
      case measure=>simp[intOf];omega
     have O:Hid (mi n ⟨S.ma,e8⟩ 0 J.l=mi n ⟨I.ma,Y⟩ (j+1) (J.l.drop (j+1))):=ae (by rw[qj.out,c.out,if_neg (λh'=>c1 h'.1)]);clear c qj;go_wp2;go_roundw
     case rel=>exact⟨j+1,I,Y,by omega,by go_num,kj,sj,O,hI,hU,sxj⟩
     case measure=>simp[intOf];omega
    have gK:¬(j:Int)<(J.l.length:Int):=by omega
    have O:Hid (lw ⟨H.ma,e⟩ F n=(⟨{ I.ma with st:=jU G.ma.st F n },Y⟩,0)):=ae (by rw[ga.out,gb.out,qj.out,List.drop_of_length_le (by omega)];rfl);have gs : -9223372036854775808<=R/\R<=9223372036854775807:=by have U:=(jC gI.out).2;rw[<-hA.out]at U;have h2:0<=R/\R<=80:=U;omega
    clear qj ga gb
    go_wp2_with (first | (refine ay gx 0 _ sxj.rd _ underlying41 rfl store_size ?_) | (refine aY b 7 [.slice a5 qs.length c5,.int .i64 R] rfl rfl rfl _ _ kj.blk (by show 7+2<=12;decide) store_size (λu hu=>by simp at hu;rcases hu with rfl | rfl<;>rfl) ?_))
    intro w9 gN gj;have k9:=kj.setS hU gs gN gj;have s9:KS w b H w9 { I with ai:=a5,ci:=c5,fi:=qs,ct:=R }:=sj.putB gj rfl rfl rfl;go_wp2;go_ret;rw[O.out];refine⟨rfl,_,_,k9,s9,?_⟩;show Kp.mk { I.ma with st:=bD qs R } Y=_;rw[hA.out];rfl
theorem areaT:94≠109/\94≠66/\94≠122/\94≠76:=by decide
theorem ET(k:Kp)(p:Page)(f i:Int):(fC k p f i).1.m.sp.length=k.m.sp.length:=(sV.took k p f i).sp
theorem WC(H:MH)(e n:Int)(p f:Nat)(A:Ar)(ga:Nat)(B b:Nat)(w:World)(h:iw w B b H e)(hA:aK w ga (lW A) 94)(hp:p<H.sp.length)(hf:f<H.m.fs.length)(hz:H.sp.length<=1000)(hz2:H.ca.length<=1000)(hz3:H.m.fs.length<=1000) :
  Calls Tryz.prog 45 #[.pointer (some ⟨b,0,none⟩),.int .i64 p,.int .i64 n,.int .i64 f,.pointer (some ⟨ga,0,none⟩)] w λr w'=>r = .returned (.int .i64 (xx ⟨H.ma,e⟩ p n f A).2)/\KR w B b H w' (xx ⟨H.ma,e⟩ p n f A).1:=by
 obtain⟨g,off,cur,hj,hr,hi,hh,hg,hn,hm,ha⟩:=h.frame hf;generalize hx:aF H.ma f=x at *
 have v:=ae (show gQ H.ma f=x from hx);clear hx ha hn;have J:=h.blk.cell;unfold lm at J;rw[hj]at J;have hl:(f:Int)<(H.m.fs.length:Int):=by omega
 go_enter func45,ntmps45
 go_wp2_with (first | (refine ay g (off+f*13) _ hg _ underlying66 rfl frame_size ?_) | (refine aT (Ak x) frame_size (wV x) ?_))
 intro w1 t l;have h1:=h.below t;have Z:=(KS.refl w b H).below t;have z:=hA.ext t;have u:¬kb b H w.heap.size:=λhk=>by obtain⟨cs,T,hb,_⟩:=h.kb_T hk;have:=hb.lt;omega
 clear J hg hi hh t hr hm hj h hA hl;have s:=l.cell;unfold Ak at s;have q:=z.cell;unfold lW at q;have i:Hid (A.sh=true\/x.f<0/\x.r=1->xx ⟨H.ma,e⟩ p n f A=(dD ⟨H.ma,e⟩ p n ⟨1,f,true⟩,(f:Int))):=ae (λJ=>by unfold xx;simp only[show gQ (Kp.m ⟨H.ma,e⟩) f=x from v.out];exact if_pos J);have j:Hid (¬(A.sh=true\/x.f<0/\x.r=1)->xx ⟨H.ma,e⟩ p n f A=if(fC (jM ⟨H.ma,e⟩ p n) x.p (-1) 0).2<0 then((fC (jM ⟨H.ma,e⟩ p n) x.p (-1) 0).1,-1)else(dD (fC (jM ⟨H.ma,e⟩ p n) x.p (-1) 0).1 p n ⟨1,(fC (jM ⟨H.ma,e⟩ p n) x.p (-1) 0).2,true⟩,(fC (jM ⟨H.ma,e⟩ p n) x.p (-1) 0).2)):=ae (λJ=>by unfold xx;simp only[show gQ (Kp.m ⟨H.ma,e⟩) f=x from v.out];exact if_neg J);clear v;cases hsh:A.sh with
 | true=>
  have R:=ae (i.out (.inl hsh));rw[hsh]at q;clear i j hsh
  go_wp2_with fail
  refine(gJ H e n p ⟨1,f,true⟩ B b _ h1 hp).mono ?_;rintro r w6 ⟨rfl,d⟩;go_wp2;go_ret;rw[R.out];exact⟨rfl,KR.trans Z d⟩
 | false=>
  rw[hsh]at q
  by_cases hxf:x.f<0
  ·by_cases X:x.r=1
   ·have R:=ae (i.out (.inr ⟨hxf,X⟩));rw[X]at s;clear i j hsh
    go_wp2_with fail
    refine(gJ H e n p ⟨1,f,true⟩ B b _ h1 hp).mono ?_;rintro r w6 ⟨rfl,d⟩;go_wp2;go_ret;rw[R.out];exact⟨rfl,KR.trans Z d⟩
   have R:=ae (j.out (λJ=>J.elim (λS=>by rw[hsh]at S; cases S) (λS=>X S.2)));clear i j hsh
   go_wp2_with fail
   refine(zn H e n p B b _ h1 hp).mono ?_;rintro r w2 ⟨rfl,H2,e2,k2,U,V⟩;have k:=U.blkN l u;have D:=Z.trans U;have I:=jm.drop ⟨H.ma,e⟩ p n;have G:=ae V;rw[<-V]at I;have a:H2.sp.length=H.sp.length/\H2.ca.length=H.ca.length/\H2.m.fs.length=H.m.fs.length:=⟨by have:=I.sp;simp only[qm]at this;exact this,by rw[show H2.ca=H.ca from I.ca],I.fs⟩;clear I V Z U h1 l s q z
   go_wp2_with (refine ay w.heap.size 0 (gW x.p).toList (cK k 0 8) _ underlying58 rfl psize ?_)
   refine(uj H2 e2 (-1) 0 x.p B b _ k2 (by rw[a.1];exact hz) (by rw[a.2.1];exact hz2) (by rw[a.2.2];exact hz3)).mono ?_;rintro r w3 ⟨rfl,N,Y,k3,s3,O⟩;have C:=D.trans s3;have o:N.sp.length=H.sp.length:=by have:=ET ⟨H2.ma,e2⟩ x.p (-1) 0;rw[<-O]at this;simp only[qm]at this;rw[this,a.1]
   rw[G.out]at O ⊢;have E:=ae O;have y:p<N.sp.length:=by rw[o];exact hp
   clear G O D s3 k2 k a o;generalize hK:(fC (jM ⟨H.ma,e⟩ p n) x.p (-1) 0).2=K
   by_cases h0:K<0
   ·have c:Hid (xx ⟨H.ma,e⟩ p n f A=(⟨N.ma,Y⟩,-1)):=ae (by rw[R.out,hK,if_pos h0,E.out]);go_wp2;go_ret;rw[c.out];exact⟨rfl,_,_,k3,C,rfl⟩
   have c:Hid (xx ⟨H.ma,e⟩ p n f A=(dD ⟨N.ma,Y⟩ p n ⟨1,K,true⟩,K)):=ae (by rw[R.out,hK,if_neg h0,E.out]);clear hK
   go_wp2_with fail
   refine(gJ N Y n p ⟨1,K,true⟩ B b _ k3 y).mono ?_;rintro r w6 ⟨rfl,d⟩;go_wp2;go_ret;rw[c.out];exact⟨rfl,KR.trans C d⟩
  have R:=ae (j.out (λJ=>J.elim (λS=>by rw[hsh]at S; cases S) (λS=>hxf S.1)));clear i j hsh
  go_wp2_with fail
  refine(zn H e n p B b _ h1 hp).mono ?_;rintro r w2 ⟨rfl,H2,e2,k2,U,V⟩;have k:=U.blkN l u;have D:=Z.trans U;have I:=jm.drop ⟨H.ma,e⟩ p n;have G:=ae V;rw[<-V]at I;have a:H2.sp.length=H.sp.length/\H2.ca.length=H.ca.length/\H2.m.fs.length=H.m.fs.length:=⟨by have:=I.sp;simp only[qm]at this;exact this,by rw[show H2.ca=H.ca from I.ca],I.fs⟩;clear I V Z U h1 l s q z
  go_wp2_with (refine ay w.heap.size 0 (gW x.p).toList (cK k 0 8) _ underlying58 rfl psize ?_)
  refine(uj H2 e2 (-1) 0 x.p B b _ k2 (by rw[a.1];exact hz) (by rw[a.2.1];exact hz2) (by rw[a.2.2];exact hz3)).mono ?_;rintro r w3 ⟨rfl,N,Y,k3,s3,O⟩;have C:=D.trans s3;have o:N.sp.length=H.sp.length:=by have:=ET ⟨H2.ma,e2⟩ x.p (-1) 0;rw[<-O]at this;simp only[qm]at this;rw[this,a.1]
  rw[G.out]at O ⊢;have E:=ae O;have y:p<N.sp.length:=by rw[o];exact hp
  clear G O D s3 k2 k a o;generalize hK:(fC (jM ⟨H.ma,e⟩ p n) x.p (-1) 0).2=K
  by_cases h0:K<0
  ·have c:Hid (xx ⟨H.ma,e⟩ p n f A=(⟨N.ma,Y⟩,-1)):=ae (by rw[R.out,hK,if_pos h0,E.out]);go_wp2;go_ret;rw[c.out];exact⟨rfl,_,_,k3,C,rfl⟩
  have c:Hid (xx ⟨H.ma,e⟩ p n f A=(dD ⟨N.ma,Y⟩ p n ⟨1,K,true⟩,K)):=ae (by rw[R.out,hK,if_neg h0,E.out]);clear hK
  go_wp2_with fail
  refine(gJ N Y n p ⟨1,K,true⟩ B b _ k3 y).mono ?_;rintro r w6 ⟨rfl,d⟩;go_wp2;go_ret;rw[c.out];exact⟨rfl,KR.trans C d⟩
theorem UL(h:Pt m)(p:Nat)(n:Int):uG (jY m p n):=by
 unfold jY;rw[bA];cases e:(bQ m p).ar[(fB (bQ m p).ar n).toNat]? with
 | none=>show uG zAr;unfold uG;decide
 | some a=>exact(gN ((ug (h.arN p)).2 a (dB e))).1
theorem Qi(H:MH)(e n:Int)(p:Nat)(g:Pg)(N:Nat)(B b:Nat)(w:World)(h:iw w B b H e)(hR:Rt H.ma)(hC:Co H.ma)(hA:aK w N (lW (jY H.ma p n)) 94)(hp:p<H.sp.length)(hg:eP H.ma p n=some g)(hin:0<=g.fi->(aJ H.ma p n).k=0->jk H.ma.st g.fi g.pg) :
  Calls Tryz.prog 44 #[.pointer (some ⟨b,0,none⟩),.int .i64 p,.int .i64 n,.pointer (some ⟨N,0,none⟩)] w λr w'=>r = .returned (.int .i64 (gU ⟨H.ma,e⟩ p n (jY H.ma p n)).2)/\KR w B b H w' (gU ⟨H.ma,e⟩ p n (jY H.ma p n)).1:=by
 have hz:=sK hR;have km:H.sp.length<=1000:=by have:=hz.sp.1;rwa [qm]at this
 have kl:H.ca.length<=1000:=hz.ca;have kk:H.m.fs.length<=1000:=hz.fs;clear hz;obtain⟨g1,g2,g3,g4,g5,g6,g7⟩:=xH hg;have hS:=hR.pt.pg hg;have kI:=ae (UL hR.pt p n);obtain⟨P,hP⟩:∃P,H.sp[p]?=some P:=⟨_,aM hp⟩;have k9:=ae (sP hP);have k8:Hid ((aJ H.ma p n).k=2->aI H.sw (aJ H.ma p n).n=0):=ae (λZ=>by obtain⟨g0,gC,kG⟩:=hR.en p n (by rw[Z];decide);have h1:=(kG.sw Z).1;have R:=(dA).1 (ku hR.pt p n);have h3:=hR.pt.swl;exact fH.2 ⟨hR.pt.sw,by omega,by show _<(H.ma.sw.blocks.length:Int);omega⟩);generalize hAA:jY H.ma p n=A at *
 obtain⟨gs,off,gf,gb,ky,hy⟩:=h.at hP;have hc:=h.blk.cell;unfold lm at hc;rw[gf]at hc;have gB:(p:Int)<(H.sp.length:Int):=by omega
 have kH:=ae g6;have gx:=ae g4;have gy:=ae g3;have kK:=ae g7;have kC:=ae hin;have kz:=ae hS;have kg:=ae hR;have gg:=ae hC;have gD:=ae h.bs;clear g1 g2 g3 g4 g5 g6 g7 hin hS hR hC hg hAA;go_enter func44,ntmps44
 go_wp2_with (refine ay gs (off+p*10+2) _ ky _ underlying74 tab_agg tab_size ?_)
 refine(wI P.tb (vo P.ts) n _ hy.tb).mono ?_;rintro r w1 ⟨rfl,hB⟩;have h1:=h.below hB;have s1:=(KS.refl w b H).below hB;have kP:=hA.ext hB;clear hc gb ky hy;generalize hx:dR P.tb n=x
 go_wp2_with (refine aT (pq x) entry_size (by simp[pq,Value.oneCell']) ?_)
 intro w2 hJ hl;have R:=h1.below hJ;have s2:=s1.below hJ;have l:=kP.ext hJ;have gA:=ae (aX hB.size (aC w1.heap.size));clear h1 s1 hB hJ h hA kP;have hs:=hl.cell;unfold pq at hs;have kd:Hid (aJ H.ma p n=x):=ae (by unfold aJ;rw[k9.out];exact hx);have d:=l.cell;unfold lW at d;clear hx;have t:Hid (gU ⟨H.ma,e⟩ p n A=if x.k=1 then(⟨H.ma,e⟩,x.n)else if x.k=2 then(if aI H.sw x.n≠0 then(⟨H.ma,e⟩,-1)else
   let r:=fC ⟨H.ma,e⟩ (dN H.sw x.n) (-1) 0
   if r.2<0 then(r.1,-1)else
   if bK r.1.m.sl x.n (-1)≠0 then(r.1,-1)else(dD ⟨{ r.1.m with sl:=bq r.1.m.sl x.n (-1) },r.1.e⟩ p n ⟨1,r.2,A.wr⟩,r.2))
  else if A.fi<0 then inK (fC ⟨H.ma,e⟩ zPg (-1) 0) p n A.wr
  else
   let r:=cO ⟨H.ma,e⟩ A.fi (A.ba+n-A.fr)
   if r.2<0 then r else(dD (dU r.1 r.2 1) p n ⟨1,r.2,A.sh&&A.wr⟩,r.2)):=ae (by
  unfold gU;simp only[show aJ (Kp.m ⟨H.ma,e⟩) p n=x from kd.out];rfl)
 by_cases k1:x.k=1
 ·have V:Hid (gU ⟨H.ma,e⟩ p n A=(⟨H.ma,e⟩,x.n)):=ae (by rw[t.out,if_pos k1]);rw[k1]at hs;clear t k1;go_wp2;go_ret;rw[V.out];exact⟨rfl,_,_,R,s2,rfl⟩
 by_cases Z:x.k=2
 ·have kw:Hid (aI H.sw x.n=0):=ae (by have:=k8.out;rw[kd.out]at this;exact this Z);have V:Hid (gU ⟨H.ma,e⟩ p n A=(let r:=fC ⟨H.ma,e⟩ (dN H.sw x.n) (-1) 0
   if r.2<0 then(r.1,-1)else
   if bK r.1.m.sl x.n (-1)≠0 then(r.1,-1)else(dD ⟨{ r.1.m with sl:=bq r.1.m.sl x.n (-1) },r.1.e⟩ p n ⟨1,r.2,A.wr⟩,r.2))):=ae (by rw[t.out,if_neg k1,if_pos Z,if_neg (by rw[kw.out];simp)])
  rw[Z]at hs;clear t k1 Z;obtain⟨Q,hQ⟩:∃Q,Hid (Q=dN H.sw x.n):=⟨_,ae rfl⟩;rw[<-hQ.out]at V;go_upto_region 5 with(fail);refine gX 14 [_,_,_,_,.v (.agg #[.slice H.wb H.sw.blocks.length H.cwb,.slice H.wq H.sw.queue.length H.cwq]),_,_,.v (.tuple #[.agg (gW Q),.int .i64 0]),_,.v (.agg (gW Q)),.v (.int .i64 0),.r 11 ((fu w2.heap.size 58 8)),.y 12 ((MN 11 w2.heap.size 58 (fQ (.agg (gW Q))))),.v (.int .i64 0)] (λW=>Below w2.heap.size w2 W) bH (Below.refl _ _) (Yk bH rfl (Yk bH rfl (Yf bH b 0 rfl rfl (Yf bH b 3 rfl rfl (aj ?_ (Yf bH w1.heap.size 1 rfl rfl (Yc bH (.int .i64 x.n) (λW G=>by simp[(hl.ext G).cell,pq]) rfl rfl rfl rfl (aj ?_ (Yk bH rfl (aj ?_ (aj ?_ (aj ?_ (aj ?_ (Yk bH rfl (aH))))))))))))))) (λ_=>rfl) rfl ?_
  ·intro ρ y W D I G E;refine fw G (fQ (.agg #[.slice H.wb H.sw.blocks.length H.cwb,.slice H.wq H.sw.queue.length H.cwq])) ?_;have gv:=D 41 3 rfl;have h3:y 3=_:=E 3 rfl;refine ak (.agg #[.slice H.wb H.sw.blocks.length H.cwb,.slice H.wq H.sw.queue.length H.cwq]) (bO rfl (gv.trans h3) (R.below G).rdW underlying38 (s:=disk_size))
  ·intro ρ y W D I G E;refine fw G (fQ (.tuple #[.agg (gW Q),.int .i64 0])) ?_;have gu:=D 42 4 rfl;have h4:y 4=_:=E 4 rfl;have gt:=D 44 6 rfl;have h6:y 6=_:=E 6 rfl;have EF:=eF0 I λ_=>trivial;refine aL (aW rfl (EF _) func89 (by simp only[bU,bM,bP,gu,h4,gt,h6,EF];rfl)) ?_;refine(Ji H.sw x.n H.wb H.cwb H.wq H.cwq W (R.below G).ma.rd.sw).mono ?_;rintro r W3 ⟨rfl,kf⟩;rw[kw.out,<-hQ.out];exact⟨_,rfl,kf,rfl⟩
  ·intro ρ y W D I G E;refine fw G (fQ (.agg (gW Q))) ?_;have kj:=D 37 8 rfl;have h8:y 8=_:=E 8 rfl;refine ak (.agg (gW Q)) (by simp[execOp,go_sem,bJ,kj,h8])
  ·intro ρ y W D I G E;refine fw G (fQ (.int .i64 0)) ?_;have kj:=D 37 8 rfl;have h8:y 8=_:=E 8 rfl;refine ak (.int .i64 0) (by simp[execOp,go_sem,bJ,kj,h8])
  ·intro ρ y W D I G E;refine fw G ((fu w2.heap.size 58 8)) ?_;refine gM (.pointer (some ⟨W.heap.size,0,none⟩)) (ag) (by simp[execOp,go_sem,bJ]) ((Below.refl _ _).alloc (aC _) (.cells #[.int .u8 0,.int .u8 0,.int .u8 0,.int .u8 0,.int .u8 0,.int .u8 0,.int .u8 0,.int .u8 0] 58)) ?_;exact⟨_,_,rfl,G.size,aK.new _ _ _,rfl⟩
  ·intro ρ y W D I G E;have gw:=D 10 11 rfl;have kh:=E 11 rfl;have gr:=D 46 9 rfl;have h9:y 9=_:=E 9 rfl;obtain⟨g3,cur3,e9,kF,kL,kx⟩:=kh;refine jT _ _ _ g3 0 (.agg (gW Q)) (gW Q).toList (gw.trans e9) (gr.trans h9) rfl cur3 _ kL (by rw[kx];exact aC _) psize (gH (pX Q)) ?_;intro w1 hr kD;rw[eT cur3 _ (by rw[kx];rfl)]at hr;refine⟨G.grown kD G.size (λk hk=>by cases hk;exact kF),⟨g3,_,e9,kF,hr,rfl⟩,?_⟩;intro k hk gd
   match k,hk,gd with
   | 0,_,_|1,_,_|2,_,_|3,_,_|4,_,_|5,_,_|6,_,_|7,_,_|8,_,_|9,_,_|10,_,_=>exactλh=>h
   | 11,_,_=>exactλq=>iY q hr ⟨_,kL⟩ kD
   | 12,_,h=>exact absurd rfl h
   | 13,_,_=>exactλh=>h
   | n+14,h,_=>exact absurd h (by omega)
  intro y W3 j hD;replace j:Below w2.heap.size w2 W3:=j;have i:((fu w2.heap.size 58 8)).r (y 11) W3:=hD 11 (by decide);have hj:=hD 12 (by decide);clear hD;simp only[dS,bJ,bM,bP];obtain⟨ge,cce,hU,gz,kN,hW⟩:=hj;have ke : cce=gW Q:=by simpa[fQ]using hW
  subst ke;rw[hU];have h3:=R.below j;have s3:=s2.below j;have kt:=hl.ext j;have kO:=l.ext j;clear hs d R s2 hl l j hU hW i
  go_wp2_with (refine ay ge 0 (gW Q).toList kN.rd _ underlying58 rfl psize ?_)
  refine(uj H e (-1) 0 Q B b _ h3 km kl kk).mono ?_;rintro r w4 ⟨rfl,C,S,U,X,Y⟩;have ks:=X.blk h3 kt entTy;have hi:=X.blk h3 kO areaT;have O:=s3.trans X;have z:C.sp.length=H.sp.length:=by have:=ET ⟨H.ma,e⟩ Q (-1) 0;rw[<-Y]at this;simp only[qm]at this;exact this
  have J:=ae Y;have hv:p<C.sp.length:=by rw[z];exact hp
  have kE:=ae U.bs;clear Y s3 X h3 kt kO z kN;generalize hK:(fC ⟨H.ma,e⟩ Q (-1) 0).2=K
  by_cases h0:K<0
  ·have c:Hid (gU ⟨H.ma,e⟩ p n A=(⟨C.ma,S⟩,-1)):=ae (by
    rw[V.out]
    try simp only
    rw[hK,if_pos h0,J.out])
   go_wp2;go_ret;rw[c.out];exact⟨rfl,_,_,U,O,rfl⟩
  have c:Hid (gU ⟨H.ma,e⟩ p n A=if bK C.sl x.n (-1)≠0 then(⟨C.ma,S⟩,-1)else(dD ⟨{ C.ma with sl:=bq C.sl x.n (-1) },S⟩ p n ⟨1,K,A.wr⟩,K)):=ae (by rw[V.out];simp only;rw[hK,if_neg h0,<-J.out];rfl);clear hK V J;go_upto_region 11 with(fail);refine gX 13 [_,_,_,_,_,_,_,.r 7 ((tJ w4.heap.size 3 1 (bq C.sl x.n (-1)).length ((bq C.sl x.n (-1)).map ib) (bK C.sl x.n (-1)))),.r 8 ((tJ w4.heap.size 3 1 (bq C.sl x.n (-1)).length ((bq C.sl x.n (-1)).map ib) (bK C.sl x.n (-1)))),.r 9 ((il w4.heap.size 3 1 (bq C.sl x.n (-1)).length ((bq C.sl x.n (-1)).map ib))),.v (.int .i64 (bK C.sl x.n (-1))),.r 11 ((il w4.heap.size 3 1 (bq C.sl x.n (-1)).length ((bq C.sl x.n (-1)).map ib))),.v (.int .i64 (bK C.sl x.n (-1)))] (λW=>Below w4.heap.size w4 W) bH (Below.refl _ _) (Yk bH rfl (Yk bH rfl (Yf bH b 0 rfl rfl (Yf bH b 2 rfl rfl (Yc bH (.slice C.asl C.sl.length C.csl) (λW G=>by simp[(U.below G).blk.cell,lm]) rfl rfl rfl rfl (Yf bH w1.heap.size 1 rfl rfl (Yc bH (.int .i64 x.n) (λW G=>by simp[(ks.ext G).cell,pq]) rfl rfl rfl rfl (aj ?_ (aj ?_ (aj ?_ (aj ?_ (aj ?_ (Yk bH rfl (aH)))))))))))))) (λ_=>rfl) rfl ?_
  ·intro ρ y W D I G E;refine fw G ((tJ w4.heap.size 3 1 (bq C.sl x.n (-1)).length ((bq C.sl x.n (-1)).map ib) (bK C.sl x.n (-1)))) ?_;have gq:=D 60 4 rfl;have h4:y 4=_:=E 4 rfl;have gp:=D 62 6 rfl;have h6:y 6=_:=E 6 rfl;have EC:∀v,ρ (.const v)=v:=λv=>I (.const v) trivial;have EF:=eF0 I λ_=>trivial;refine aL (aW rfl (EF _) func91 (by simp only[bU,bM,bP,gq,h4,gp,h6,EC,EF];rfl)) ?_;have hm:=(U.below G).ma.rd.sl;refine(zU C.sl C.asl C.csl x.n (-1) W hm.le hm.nl hm.rd (by have:=hm.le;have:=hm.mx;unfold maxLen at this;omega)).mono ?_;rintro r W3 ⟨u,rfl,ho,kf⟩;exact⟨_,rfl,kf,u,rfl,ho.mono G.size⟩
  ·intro ρ y W D I G E;refine fw G ((tJ w4.heap.size 3 1 (bq C.sl x.n (-1)).length ((bq C.sl x.n (-1)).map ib) (bK C.sl x.n (-1)))) ?_;have gn:=D 63 7 rfl;have h7:=E 7 rfl;refine ak _ (run_move (.inl rfl) gn) (m:=?_);exact h7
  ·intro ρ y W D I G E;refine fw G ((il w4.heap.size 3 1 (bq C.sl x.n (-1)).length ((bq C.sl x.n (-1)).map ib))) ?_;have ki:=D 55 8 rfl;have h8:=E 8 rfl;obtain⟨u,hu,ho⟩:=h8;refine ak u (by simp[execOp,go_sem,bJ,ki,hu]) (m:=?_);exact ho
  ·intro ρ y W D I G E;refine fw G (fQ (.int .i64 (bK C.sl x.n (-1)))) ?_;have ki:=D 55 8 rfl;have h8:=E 8 rfl;obtain⟨u,hu,ho⟩:=h8;refine ak (.int .i64 (bK C.sl x.n (-1))) (by simp[execOp,go_sem,bJ,ki,hu])
  ·intro ρ y W D I G E;refine fw G ((il w4.heap.size 3 1 (bq C.sl x.n (-1)).length ((bq C.sl x.n (-1)).map ib))) ?_;have gm:=D 64 9 rfl;have h9:=E 9 rfl;refine ak _ (run_move (.inr rfl) gm) (m:=?_);exact h9
  intro y W5 s hf;replace s:Below w4.heap.size w4 W5:=s;have hG:((tJ w4.heap.size 3 1 (bq C.sl x.n (-1)).length ((bq C.sl x.n (-1)).map ib) (bK C.sl x.n (-1)))).r (y 7) W5:=hf 7 (by decide);have hF:((tJ w4.heap.size 3 1 (bq C.sl x.n (-1)).length ((bq C.sl x.n (-1)).map ib) (bK C.sl x.n (-1)))).r (y 8) W5:=hf 8 (by decide);have hE:((il w4.heap.size 3 1 (bq C.sl x.n (-1)).length ((bq C.sl x.n (-1)).map ib))).r (y 9) W5:=hf 9 (by decide);have i:((il w4.heap.size 3 1 (bq C.sl x.n (-1)).length ((bq C.sl x.n (-1)).map ib))).r (y 11) W5:=hf 11 (by decide);clear hf;simp only[dS,bJ,bM,bP];have hH:Own W5 w4.heap.size 3 1 (y 11) (bq C.sl x.n (-1)).length ((bq C.sl x.n (-1)).map ib):=i;obtain⟨a5,c5,e7,_⟩:=Own.rd hH;rw[e7]at hH;simp only[e7];have k5:=U.below s;have s5:=O.below s;have hL:=hi.ext s;clear hG hF hE i e7 U O hi ks s
  by_cases h5:bK C.sl x.n (-1)=0
  ·rw[h5];have kc:Hid (gU ⟨H.ma,e⟩ p n A=(dD ⟨{ C.ma with sl:=bq C.sl x.n (-1) },S⟩ p n ⟨1,K,A.wr⟩,K)):=ae (by rw[c.out,if_neg (λh=>h h5)]);clear h5 c
   go_wp2_with (first | (refine aY b 2 [.slice a5 (bq C.sl x.n (-1)).length c5] rfl rfl rfl _ _ k5.blk (by show 2+1<=12;decide) slots_size (λu hu=>by cases bF.1 hu;rfl) ?_))
   intro w6 kM hI;have k6:=k5.setL (hH.mono kE.out) kM hI;have s6:KS w b H w6 { C with asl:=a5,csl:=c5,sl:=bq C.sl x.n (-1) }:=s5.putB hI rfl rfl rfl;have gh:=aG hL k5.blk hI;clear s5 k5 hH hL kM hI;have d:=gh.cell;unfold lW at d
   go_wp2_with fail
   refine(gJ _ S n p ⟨1,K,_⟩ B b _ k6 hv).mono ?_;rintro r w9 ⟨rfl,hh⟩;go_wp2;go_ret;rw[kc.out];exact⟨rfl,KR.trans s6 hh⟩
  have kc:Hid (gU ⟨H.ma,e⟩ p n A=(⟨C.ma,S⟩,-1)):=ae (by rw[c.out,if_pos h5]);go_wp2;go_ret;rw[kc.out];exact⟨rfl,_,_,k5,s5,rfl⟩
 by_cases hfi:A.fi<0
 ·have V:Hid (gU ⟨H.ma,e⟩ p n A=inK (fC ⟨H.ma,e⟩ zPg (-1) 0) p n A.wr):=ae (by rw[t.out,if_neg k1,if_neg Z,if_pos hfi]);clear t;go_upto_region 18 with(fail)
  go_wp2_with fail
  rw[<-zPg_cells];refine(uj H e (-1) 0 zPg B b _ R km kl kk).mono ?_;rintro r w4 ⟨rfl,C,S,U,X,Y⟩;have hi:=X.blk R l areaT;have O:=s2.trans X;have z:C.sp.length=H.sp.length:=by have:=ET ⟨H.ma,e⟩ zPg (-1) 0;rw[<-Y]at this;simp only[qm]at this;exact this
  have J:=ae Y;have hv:p<C.sp.length:=by rw[z];exact hp
  clear Y s2 X R hl l z hs d;generalize hK:(fC ⟨H.ma,e⟩ zPg (-1) 0).2=K;have d:=hi.cell;unfold lW at d
  by_cases h0:K<0
  ·have c:Hid (gU ⟨H.ma,e⟩ p n A=(⟨C.ma,S⟩,K)):=ae (by rw[V.out];unfold inK;rw[hK,if_pos h0,J.out,<-hK]);go_wp2;go_ret;rw[c.out];exact⟨rfl,_,_,U,O,rfl⟩
  have c:Hid (gU ⟨H.ma,e⟩ p n A=(dD ⟨C.ma,S⟩ p n ⟨1,K,A.wr⟩,K)):=ae (by rw[V.out];unfold inK;rw[hK,if_neg h0,J.out]);clear hK V J
  go_wp2_with fail
  refine(gJ C S n p ⟨1,K,_⟩ B b _ U hv).mono ?_;rintro r w9 ⟨rfl,hh⟩;go_wp2;go_ret;rw[c.out];exact⟨rfl,KR.trans O hh⟩
 have V:Hid (gU ⟨H.ma,e⟩ p n A=(let r:=cO ⟨H.ma,e⟩ A.fi (A.ba+n-A.fr)
  if r.2<0 then r else(dD (dU r.1 r.2 1) p n ⟨1,r.2,A.sh&&A.wr⟩,r.2))):=ae (by rw[t.out,if_neg k1,if_neg Z,if_neg hfi])
 have hT:Hid (jk H.ma.st A.fi (A.ba+n-A.fr)):=ae (by have e1:=kH.out;have e2:=kK.out (by omega);have R:=(dA).1 (ku kg.out.pt p n);rw[e1,e2];refine kC.out (by omega) ?_;rw[kd.out]at R ⊢;omega);have kJ:=kI.out;have gc:=kz.out;unfold uG at kJ;have hr:IntKind.i64.wrap (A.ba+n)=A.ba+n:=dz _ (by omega);have kv:IntKind.i64.wrap (A.ba+n-A.fr)=A.ba+n-A.fr:=dz _ (by omega);clear t kJ gc;go_upto_region 22 with(fail);refine uQ 16 17 [] [fQ (.pointer (some ⟨b,0,none⟩)),fQ (.pointer (some ⟨N,0,none⟩)),fQ (.pointer (some ⟨N,0,none⟩)),fQ (.pointer (some ⟨N,5,none⟩)),fQ (.int .i64 A.fi),fQ (.pointer (some ⟨N,0,none⟩)),fQ (.pointer (some ⟨N,0,none⟩)),fQ (.pointer (some ⟨N,6,none⟩)),fQ (.int .i64 A.ba),fQ (.int .i64 n),fQ (.int .i64 (A.ba+n)),fQ (.pointer (some ⟨N,0,none⟩)),fQ (.pointer (some ⟨N,0,none⟩)),fQ (.pointer (some ⟨N,0,none⟩)),fQ (.int .i64 A.fr),fQ (.int .i64 (A.ba+n-A.fr))] (by kernel_rfl) (by kernel_rfl) (by kernel_rfl) (by kernel_rfl) (by kernel_rfl) (by kernel_rfl) (by decide) (by decide) _ rfl (by kernel_rfl) (aj ?_ (aj ?_ (aj ?_ (aj ?_ (aj ?_ (aj ?_ (aj ?_ (aj ?_ (aj ?_ (aj ?_ (aj ?_ (aj ?_ (aj ?_ (aj ?_ (aj ?_ (aj ?_ (aH))))))))))))))))) (aH) rfl ?_
 ·refine aB ?_;intro ρ y W D I G E;have E0:ρ (.tmp 0) = .pointer (some ⟨b,0,none⟩):=(I (.tmp 0) rfl).trans rfl;refine ak (.pointer (some ⟨b,0,none⟩)) (run_move (.inl rfl) E0)
 ·refine aB ?_;intro ρ y W D I G E;have E3:ρ (.tmp 3) = .pointer (some ⟨N,0,none⟩):=(I (.tmp 3) rfl).trans rfl;refine ak (.pointer (some ⟨N,0,none⟩)) (run_move (.inl rfl) E3)
 ·refine aB ?_;intro ρ y W D I G E;have k7:=D 107 1 rfl;have h1:y 1=_:=E 1 rfl;refine ak (.pointer (some ⟨N,0,none⟩)) (by simp[execOp,go_sem,k7,h1])
 ·refine aB ?_;intro ρ y W D I G E;have k3:=D 108 2 rfl;have R:y 2=_:=E 2 rfl;refine ak (.pointer (some ⟨N,5,none⟩)) (by simp[execOp,go_sem,k3,R])
 ·refine aB ?_;intro ρ y W D I G E;have k0:=D 109 3 rfl;have h3:y 3=_:=E 3 rfl;refine ak (.int .i64 A.fi) (by simp[execOp,go_sem,k0,h3,(l.ext G).cell,lW])
 ·refine aB ?_;intro ρ y W D I G E;have E3:ρ (.tmp 3) = .pointer (some ⟨N,0,none⟩):=(I (.tmp 3) rfl).trans rfl;refine ak (.pointer (some ⟨N,0,none⟩)) (run_move (.inl rfl) E3)
 ·refine aB ?_;intro ρ y W D I G E;have kZ:=D 111 5 rfl;have h5:y 5=_:=E 5 rfl;refine ak (.pointer (some ⟨N,0,none⟩)) (by simp[execOp,go_sem,kZ,h5])
 ·refine aB ?_;intro ρ y W D I G E;have kY:=D 112 6 rfl;have h6:y 6=_:=E 6 rfl;refine ak (.pointer (some ⟨N,6,none⟩)) (by simp[execOp,go_sem,kY,h6])
 ·refine aB ?_;intro ρ y W D I G E;have kX:=D 113 7 rfl;have h7:y 7=_:=E 7 rfl;refine ak (.int .i64 A.ba) (by simp[execOp,go_sem,kX,h7,(l.ext G).cell,lW])
 ·refine aB ?_;intro ρ y W D I G E;have E2:ρ (.tmp 2) = .int .i64 n:=(I (.tmp 2) rfl).trans rfl;refine ak (.int .i64 n) (run_move (.inl rfl) E2)
 ·refine aB ?_;intro ρ y W D I G E;have kW:=D 114 8 rfl;have h8:y 8=_:=E 8 rfl;have kV:=D 115 9 rfl;have h9:y 9=_:=E 9 rfl;refine ak (.int .i64 (A.ba+n)) (by simp[execOp,go_sem,kW,h8,kV,h9,hr])
 ·refine aB ?_;intro ρ y W D I G E;have E3:ρ (.tmp 3) = .pointer (some ⟨N,0,none⟩):=(I (.tmp 3) rfl).trans rfl;refine ak (.pointer (some ⟨N,0,none⟩)) (run_move (.inl rfl) E3)
 ·refine aB ?_;intro ρ y W D I G E;have kT:=D 117 11 rfl;have kh:y 11=_:=E 11 rfl;refine ak (.pointer (some ⟨N,0,none⟩)) (by simp[execOp,go_sem,kT,kh])
 ·refine aB ?_;intro ρ y W D I G E;have kS:=D 118 12 rfl;have gk:y 12=_:=E 12 rfl;refine ak (.pointer (some ⟨N,0,none⟩)) (by simp[execOp,go_sem,kS,gk])
 ·refine aB ?_;intro ρ y W D I G E;have kR:=D 119 13 rfl;have gj:y 13=_:=E 13 rfl;refine ak (.int .i64 A.fr) (by simp[execOp,go_sem,kR,gj,(l.ext G).cell,lW])
 ·refine aB ?_;intro ρ y W D I G E;have kU:=D 116 10 rfl;have gl:y 10=_:=E 10 rfl;have kQ:=D 120 14 rfl;have gi:y 14=_:=E 14 rfl;refine ak (.int .i64 (A.ba+n-A.fr)) (by simp[execOp,go_sem,kU,gl,kQ,gi,kv])
 intro ρ y WA o ho D I hV ha a;cases ho;have kb:y 0=_:=a 0 (by decide);have kr:y 1=_:=a 1 (by decide);have kq:y 2=_:=a 2 (by decide);have kp:y 3=_:=a 3 (by decide);have ka:y 4=_:=a 4 (by decide);have ko:y 5=_:=a 5 (by decide);have kn:y 6=_:=a 6 (by decide);have hG:y 7=_:=a 7 (by decide);have hF:y 8=_:=a 8 (by decide);have hE:y 9=_:=a 9 (by decide);have hO:y 10=_:=a 10 (by decide);have i:y 11=_:=a 11 (by decide);have hj:y 12=_:=a 12 (by decide);have hN:y 13=_:=a 13 (by decide);have hM:y 14=_:=a 14 (by decide);have ht:y 15=_:=a 15 (by decide);have hZ:=D 106 0 rfl;rw[kb]at hZ;have hY:=D 110 4 rfl;rw[ka]at hY;have hX:=D 121 15 rfl;rw[ht]at hX;have EC:∀v,ρ (.const v)=v:=λv=>I (.const v) trivial;have EF:=eF0 I λ_=>trivial;refine Cg _ _ (ag) (aW rfl (EF _) func93 (by simp only[bU,bM,bP,hZ,hY,hX,EC,EF];rfl)) ?_;refine(Ai H e A.fi (A.ba+n-A.fr) B b _ (R.below ha) kg.out hT.out).mono ?_;rintro r w4 ⟨rfl,C,S,U,X,Y⟩;refine⟨_,rfl,?_⟩;clear a D I hV;simp only[lay,Nat.reduceAdd,Nat.reduceLT,Nat.reduceEqDiff,reduceIte,decide_true,decide_false,if_true,oz,if_false,rD,qV,rf,rF,rC,rH,kb,kr,kq,kp,ka,ko,kn,hG,hF,hE,hO,i,hj,hN,hM,ht];clear kb kr kq kp ka ko kn hG hF hE hO i hj hN hM ht;have hi:=X.blk (R.below ha) (l.ext ha) areaT;have O:=(s2.below ha).trans X;have z:C.sp.length=H.sp.length:=by have:=(nC (k:=⟨H.ma,e⟩) kg.out gg.out hT.out).2.vis.sk.len;rw[<-Y]at this;simp only[qm]at this;exact this
 have J:=ae Y;have hv:p<C.sp.length:=by rw[z];exact hp
 clear Y s2 X R hl l z hs d ha hr kv;generalize hK:(cO ⟨H.ma,e⟩ A.fi (A.ba+n-A.fr)).2=K
 by_cases h0:K<0
 ·have c:Hid (gU ⟨H.ma,e⟩ p n A=(⟨C.ma,S⟩,K)):=ae (by rw[V.out];simp only;rw[hK,if_pos h0,J.out,<-hK]);go_wp2;go_ret;rw[c.out];exact⟨rfl,_,_,U,O,rfl⟩
 have c:Hid (gU ⟨H.ma,e⟩ p n A=(dD (dU ⟨C.ma,S⟩ K 1) p n ⟨1,K,A.sh&&A.wr⟩,K)):=ae (by rw[V.out];simp only;rw[hK,if_neg h0,J.out]);clear hK V J
 go_wp2_with fail
 refine(ww C S K 1 B b _ U).mono ?_;rintro r w5 ⟨rfl,H5,e5,k5,s5,q5⟩;have hL:=s5.blk U hi areaT;have s05:=O.trans s5;have kB:H5.sp.length=C.sp.length:=by have:=(jm.hold ⟨C.ma,S⟩ K 1).sp;rw[<-q5]at this;simp only[qm]at this;exact this
 have kA:p<H5.sp.length:=by rw[kB];exact hv
 rw[<-q5]at c;have c:=ae c.out;clear q5 s5 O U hi kB;have d:=hL.cell;unfold lW at d;cases hsh:A.sh with
 | false=>
  rw[hsh]at d c;rw[mX]at c
  go_wp2_with fail
  refine(gJ H5 e5 n p ⟨1,K,_⟩ B b _ k5 kA).mono ?_;rintro r w9 ⟨rfl,hh⟩;go_wp2;go_ret;rw[c.out];exact⟨rfl,KR.trans s05 hh⟩
 | true=>
  rw[hsh]at d c;rw[mg]at c
  go_wp2_with fail
  refine(gJ H5 e5 n p ⟨1,K,_⟩ B b _ k5 kA).mono ?_;rintro r w9 ⟨rfl,hh⟩;go_wp2;go_ret;rw[c.out];exact⟨rfl,KR.trans s05 hh⟩
theorem nA(H:MH)(w:World)(h:Dk w H)(hz:PK H.ma) :
  Calls Tryz.prog 25 #[.agg (bS H)] w λr w' => ∃H' : MH,r = .returned (.agg (bS H'))/\qp w' w.heap.size H'/\H'.ma=H.ma/\(∀p∈H'.fi,∀x,oB p.a=some x->oB H'.asl≠some x)/\Below w.heap.size w w':=by
 have z1:H.m.fs.length<=1000:=hz.fs;have z2:H.sl.length<=1000:=hz.sl;have z3:H.sw.blocks.length<=1000:=hz.swb;have z4:H.sw.queue.length<=1000:=hz.swq;have z5:H.dk.blocks.length<=1000:=hz.dkb;have z6:H.dk.queue.length<=1000:=hz.dkq;have z7:H.ca.length<=1000:=hz.ca;have z8:H.sp.length<=1000:=by have:=hz.sp.1;rw[qm]at this;exact this
 have zf:=hz.fsz;go_enter func25,ntmps25;go_upto_region 1 with(fail);refine uY (λW=>Code.wp _ _ _ _ W) λw1 s bx1 rx1 k1 => ?_;have ki:=h.below s;clear k1;refine gX 7 [_,_,.r 2 ((FH w1.heap.size H.m)),_,_,.r 5 ((il w1.heap.size 3 1 H.sl.length (H.sl.map ib))),_] (λW=>Below w1.heap.size w1 W) bH (Below.refl _ _) (Yf bH w.heap.size 0 rfl rfl (Yr bH (.agg #[.slice H.af H.m.fs.length H.cf,.int .i64 H.m.hand]) (λρ y W A hy=>(bO rfl (bi rfl hy) (cK (bx1.ext A) 0 2) underlying32)) rfl rfl (aj ?_ (Yf bH w.heap.size 2 rfl rfl (Yc bH (.slice H.asl H.sl.length H.csl) (λW A=>by simp[(bx1.ext A).cell,bS]) rfl rfl rfl rfl (aj ?_ (Yf bH w.heap.size 0 rfl rfl (aH)))))))) (λ_=>rfl) rfl ?_
 ·intro ρ y W D E A I;refine fw A ((FH w1.heap.size H.m)) ?_;have E7:=D 7 1 rfl;have h1:y 1=_:=I 1 rfl;have J:=eF0 E λ_=>trivial;refine aL (aW rfl (J _) func57 (by simp only[bU,bM,bP,E7,h1,J];rfl)) ?_;refine(Bp H.m _ _ W (ki.below A).fr).mono ?_;rintro r w3 ⟨u,rfl,N,s⟩;exact⟨_,rfl,s,u,rfl,N.mono A.size⟩
 ·intro ρ y W D E A I;refine fw A ((il w1.heap.size 3 1 H.sl.length (H.sl.map ib))) ?_;have gq:=D 10 4 rfl;have h4:y 4=_:=I 4 rfl;have J:=eF0 E λ_=>trivial;refine aL (aW rfl (J _) func58 (by simp only[bU,bM,bP,gq,h4,J];rfl)) ?_;have hs:=(ki.below A).sl;refine(yn H.sl _ _ W hs.le hs.nl hs.rd (by omega)).mono ?_;rintro r w3 ⟨u,rfl,N,s⟩;exact⟨_,rfl,s,N.mono A.size⟩
 intro y w2 ha ka;replace ha:Below w1.heap.size w1 w2:=ha;have hF:((FH w1.heap.size H.m)).r (y 2) w2:=ka 2 (by decide);have hH:((il w1.heap.size 3 1 H.sl.length (H.sl.map ib))).r (y 5) w2:=ka 5 (by decide);clear ka;simp only[dS,bJ,bM,bP];obtain⟨u1,kP,kv⟩:=hF;have kf:Own w2 w1.heap.size 3 1 (y 5) H.sl.length (H.sl.map ib):=hH;obtain⟨a1,c1,rfl,_⟩:=kv.rd;obtain⟨a2,c2,kr,_⟩:=Own.rd kf;rw[kr]at kf;rw[kP,kr];have bx2:=bx1.ext ha;have rx2:=rx1.ext ha;have h0:=ah s ha;have k5:=ki.below ha;have kK:=ae s.size;have gr:=rx2.lt;clear ha bx1 rx1 ki kP kr hH
 go_wp2_with (refine fV _ _ w.heap.size 0 #[.slice a1 H.m.fs.length c1,.int .i64 H.m.hand] _ _ bx2 (by show 0+2<=11;decide) mem_size (gL _ _ _ _) ?_)
 intro w3 bx3 hR;have ko:=aA kv bx2 hR;have kl:=aA kf bx2 hR;have hZ:=h0.grown hR h0.size (λk Y=>by cases Y;exact aC _);have rx3:=rx2.grown hR (λe=>by have:=aU e;omega);have bx3' : aK w3 w.heap.size (bS { H with af:=a1,cf:=c1 }) 45:=bx3;clear kv kf bx2 rx2 k5 hR bx3 h0
 go_wp2_with (refine aY w.heap.size 2 [.slice a2 H.sl.length c2] rfl rfl rfl _ _ bx3' (by show 2+1<=11;decide) slots_size (λu hu=>by cases bF.1 hu;rfl) ?_)
 intro w4 bx4 hQ;have kn:=aA ko bx3' hQ;have hN:=aA kl bx3' hQ;have hD:=hZ.grown hQ hZ.size (λk Y=>by cases Y;exact aC _);have rx4:=rx3.grown hQ (λe=>by have:=aU e;omega);have U : aK w4 w.heap.size (bS { H with af:=a1,cf:=c1,asl:=a2,csl:=c2 }) 45:=bx4;have kh:=h.below hD;clear ko kl bx3' rx3 hQ bx4 hZ;obtain⟨H4,gw⟩:∃H4:MH,Hid (H4 = { H with af:=a1,cf:=c1,asl:=a2,csl:=c2 }):=⟨_,ae rfl⟩;go_upto_region 2 with(fail);refine gX 10 [_,_,.r 2 ((zH w4.heap.size H.sw)),_,_,.r 5 ((zH w4.heap.size H.dk)),_,_,.r 8 ((NZ w4.heap.size (bD H.fi H.ct))),_] (λW=>Below w4.heap.size w4 W) bH (Below.refl _ _) (Yf bH w.heap.size 3 rfl rfl (Yr bH (.agg #[.slice H.wb H.sw.blocks.length H.cwb,.slice H.wq H.sw.queue.length H.cwq]) (λρ y W A hy=>(bO rfl (bi rfl hy) (cK (U.ext A) 3 2) underlying38)) rfl rfl (aj ?_ (Yf bH w.heap.size 5 rfl rfl (Yr bH (.agg #[.slice H.db H.dk.blocks.length H.cdb,.slice H.dq H.dk.queue.length H.cdq]) (λρ y W A hy=>(bO rfl (bi rfl hy) (cK (U.ext A) 5 2) underlying38)) rfl rfl (aj ?_ (Yf bH w.heap.size 7 rfl rfl (Yr bH (.agg #[.slice H.ai H.fi.length H.ci,.int .i64 H.ct]) (λρ y W A hy=>(bO rfl (bi rfl hy) (cK (U.ext A) 7 2) underlying41)) rfl rfl (aj ?_ (Yf bH w.heap.size 3 rfl rfl (aH))))))))))) (λ_=>rfl) rfl ?_
 ·intro ρ y W D E A I;refine fw A ((zH w4.heap.size H.sw)) ?_;have gp:=D 15 1 rfl;have h1:y 1=_:=I 1 rfl;have J:=eF0 E λ_=>trivial;refine aL (aW rfl (J _) func59 (by simp only[bU,bM,bP,gp,h1,J];rfl)) ?_;refine(BP H.sw _ _ _ _ W (kh.below A).sw).mono ?_;rintro r w3 ⟨u,v,rfl,N,s⟩;exact⟨_,rfl,s,u,v,rfl,N.mono A.size⟩
 ·intro ρ y W D E A I;refine fw A ((zH w4.heap.size H.dk)) ?_;have gn:=D 18 4 rfl;have h4:y 4=_:=I 4 rfl;have J:=eF0 E λ_=>trivial;refine aL (aW rfl (J _) func59 (by simp only[bU,bM,bP,gn,h4,J];rfl)) ?_;refine(BP H.dk _ _ _ _ W (kh.below A).dk).mono ?_;rintro r w3 ⟨u,v,rfl,N,s⟩;exact⟨_,rfl,s,u,v,rfl,N.mono A.size⟩
 ·intro ρ y W D E A I;refine fw A ((NZ w4.heap.size (bD H.fi H.ct))) ?_;have gm:=D 21 7 rfl;have h7:y 7=_:=I 7 rfl;have J:=eF0 E λ_=>trivial;refine aL (aW rfl (J _) func60 (by simp only[bU,bM,bP,gm,h7,J];rfl)) ?_;refine(BK H.fi H.ct _ _ W (kh.below A).st zf).mono ?_;rintro r w3 ⟨u,ps,rfl,N,he,s⟩;exact⟨_,rfl,s,u,ps,_,rfl,N.mono A.size,by unfold bD;rw[he]⟩
 intro y w5 z hE;replace z:Below w4.heap.size w4 w5:=z;have hF:((zH w4.heap.size H.sw)).r (y 2) w5:=hE 2 (by decide);have hH:((zH w4.heap.size H.dk)).r (y 5) w5:=hE 5 (by decide);have kD:((NZ w4.heap.size (bD H.fi H.ct))).r (y 8) w5:=hE 8 (by decide);clear hE;simp only[dS,bJ,bM,bP];obtain⟨ub,uq,kO,ke⟩:=hF;obtain⟨vb,vq,kN,kd⟩:=hH;obtain⟨us,ps,ks,kL,kc,kQ⟩:=kD;have k6 : -9223372036854775808<=ks/\ks<=9223372036854775807:=by have e:ks=H.ct:=congrArg St.count kQ;rw[e];exact h.c64
 obtain⟨ab,cb,rfl,_⟩:=ke.b.rd;obtain⟨aq,cq,rfl,_⟩:=ke.q.rd;obtain⟨db,eb,rfl,_⟩:=kd.b.rd;obtain⟨dq,eq,rfl,_⟩:=kd.q.rd;obtain⟨as_,cs,rfl,_⟩:=kc.rd;rw[kO,kN,kL];have k3:Hid (∀p∈ps,∀x,oB p.a=some x->oB a2≠some x):=ae (λp X x hx e=>by have h1:=(qI hN e).2.choose_spec.lt;obtain⟨i,hi,rfl⟩:=jK.1 X;have h2:=(qI (kc.each i _ (aM hi)) hx).1;omega);have bx5:=U.ext z;have rx5:=rx4.ext z;have hY:=ah hD z;have km:=kn.below z;have kk:=hN.below z;have hI:=ae hD.size;clear z U rx4 kh kO kN kL kn hN hD
 go_wp2_with (refine fV _ _ w.heap.size 3 #[.slice ab H.sw.blocks.length cb,.slice aq H.sw.queue.length cq] _ _ bx5 (by show 3+2<=11;decide) disk_size (ow) ?_)
 intro w6 bx6 hl;have hX:=hY.grown hl hY.size (λk Y=>by cases Y;exact aC _);have rx6:=rx5.grown hl (λe=>by have:=aU e;omega);have p1:=aA km bx5 hl;have p2:=aA kk bx5 hl;have p3:=ke.keep bx5 (by decide) (by decide) hl;have p4:=kd.keep bx5 (by decide) (by decide) hl;have p5:=kc.keep bx5 (by decide) (by decide) hl;clear bx5 rx5 hl km kk ke kd kc hY
 go_wp2_with (refine fV _ _ w.heap.size 5 #[.slice db H.dk.blocks.length eb,.slice dq H.dk.queue.length eq] _ _ bx6 (by show 5+2<=11;decide) disk_size (ow) ?_)
 intro w7 Z hj;have hW:=hX.grown hj hX.size (λk Y=>by cases Y;exact aC _);have rx7:=rx6.grown hj (λe=>by have:=aU e;omega);have q1:=aA p1 bx6 hj;have q2:=aA p2 bx6 hj;have q3:=p3.keep bx6 (by decide) (by decide) hj;have q4:=p4.keep bx6 (by decide) (by decide) hj;have q5:=p5.keep bx6 (by decide) (by decide) hj;clear bx6 rx6 hj p1 p2 p3 p4 p5 hX
 go_wp2_with (refine fV _ _ w.heap.size 7 #[.slice as_ ps.length cs,.int .i64 ks] _ _ Z (by show 7+2<=11;decide) store_size (jP _ _ _ _) ?_)
 intro w8 bx8 hh;have hC:=hW.grown hh hW.size (λk Y=>by cases Y;exact aC _);have rx8:=rx7.grown hh (λe=>by have:=aU e;omega);have p1:=aA q1 Z hh;have p2:=aA q2 Z hh;have p3:=q3.keep Z (by decide) (by decide) hh;have p4:=q4.keep Z (by decide) (by decide) hh;have p5:=q5.keep Z (by decide) (by decide) hh;obtain⟨H8,kB⟩:∃H8:MH,Hid (H8 = { H with af:=a1,cf:=c1,asl:=a2,csl:=c2,wb:=ab,cwb:=cb,wq:=aq,cwq:=cq,db:=db,cdb:=eb,dq:=dq,cdq:=eq,ai:=as_,ci:=cs,fi:=ps,ct:=ks }):=⟨_,ae rfl⟩;have bx8' : aK w8 w.heap.size (bS H8) 45:=by rw[kB.out];exact bx8
 have kg:=h.below hC;clear Z rx7 hh bx8 q1 q2 q3 q4 q5 hW;have kx:w8.cell? ⟨w.heap.size,9,none⟩=some (.slice H.ac H.ca.length H.cc):=by rw[bx8'.cell,kB.out];rfl
 go_wp2_with fail
 refine(KH H.ca H.ac H.cc _ kg.ca.le kg.ca.nl kg.ca.rd (by omega)).mono ?_;rintro r w9 ⟨v9,rfl,ku,hf⟩;obtain⟨a6,c6,rfl,_⟩:=ku.rd;have S:=bx8'.ext hf;have rx9:=rx8.ext hf;have hU:=ah hC hf;have q1:=p1.below hf;have q2:=p2.below hf;have q3:=p3.below hf;have q4:=p4.below hf;have q5:=p5.below hf;have kZ:=ae hC.size;clear kx bx8' rx8 kg p1 p2 p3 p4 p5 hf hC
 go_wp2_with (refine aY w.heap.size 9 [.slice a6 H.ca.length c6] rfl rfl rfl _ _ S (by show 9+1<=11;decide) caO_size (λu hu=>by cases bF.1 hu;rfl) ?_)
 intro w10 bx10 g;have ht:=hU.grown g hU.size (λk Y=>by cases Y;exact aC _);have rx10:=rx9.grown g (λe=>by have:=aU e;omega);have p1:=(aA q1 S g).mono kK.out;have p2:=(aA q2 S g).mono kK.out;have p3:=(q3.keep S (by decide) (by decide) g).mono hI.out;have p4:=(q4.keep S (by decide) (by decide) g).mono hI.out;have p5:=(q5.keep S (by decide) (by decide) g).mono hI.out;have p6:=(aA ku S g).mono kZ.out;obtain⟨G,hG⟩:∃G:MH,Hid (G = { H with af:=a1,cf:=c1,asl:=a2,csl:=c2,wb:=ab,cwb:=cb,wq:=aq,cwq:=cq,db:=db,cdb:=eb,dq:=dq,cdq:=eq,ai:=as_,ci:=cs,fi:=ps,ct:=ks,ac:=a6,cc:=c6 }):=⟨_,ae rfl⟩;have bxG:aK w10 w.heap.size (bS G) 45:=by rw[hG.out];rw[kB.out]at bx10;exact bx10
 clear S rx9 g bx10 q1 q2 q3 q4 q5 ku hU;have gs:Hid (G.ap=H.ap/\G.sp=H.sp/\G.cp=H.cp):=ae (by rw[hG.out];exact⟨rfl,rfl,rfl⟩);have kx:w10.cell? ⟨w.heap.size,10,none⟩=some (.slice H.ap H.sp.length H.cp):=by rw[bxG.cell,hG.out];rfl
 have kX:=h.below ht;have kW:Own w10 w.heap.size 76 10 (.slice none 0 0) ([]:List PS).length (([]:List PS).flatMap xV):=by simpa using Own.nil _ _ _ _
 go_upto_region 6 with(fail);clear kx kX
 go_loopw [3,33] (fun s3 i wr => ∃(q:Nat) (O:List PS) (av:Option Addr) (cv:Nat),q<=H.sp.length/\i = .int .i64 q/\s3 = .slice av O.length cv/\Below w.heap.size w wr/\aK wr w.heap.size (bS G) 45/\aK wr (w.heap.size+1) _ 45 /\
  Own wr w.heap.size 66 13 (.slice a1 H.m.fs.length c1) H.m.fs.length (H.m.fs.flatMap rG)/\Own wr w.heap.size 3 1 (.slice a2 H.sl.length c2) H.sl.length (H.sl.map ib)/\kz wr w.heap.size (.slice ab H.sw.blocks.length cb) (.slice aq H.sw.queue.length cq) H.sw/\kz wr w.heap.size (.slice db H.dk.blocks.length eb) (.slice dq H.dk.queue.length eq) H.dk /\
  mo wr w.heap.size (.slice as_ ps.length cs) ps/\Own wr w.heap.size 122 3 (.slice a6 H.ca.length c6) H.ca.length (H.ca.flatMap kM)/\Own wr w.heap.size 76 10 (.slice av O.length cv) O.length (O.flatMap xV)/\(∀p∈O,wW wr w.heap.size p p.sp/\CU p.tb)/\Hid (O.map PS.sp=(H.sp.take q).map PS.sp)) (λ_ i _=>H.sp.length-(intOf i).toNat)
 case atStart=>exact⟨0,[],none,0,bN _,rfl,rfl,ht,bxG,rx10,p1,p2,p3,p4,p5,p6,kW,λp X=>(by simp at X),ae rfl⟩
 case round=>
  clear ht bxG rx10 p1 p2 p3 p4 p5 p6 kW;obtain⟨q,O,av,cv,hq,rfl,rfl,hv,bx,rx,p1,p2,p3,p4,p5,p6,N,hL,kb⟩:=hrel;have gv:O.length<=q:=by have:=congrArg List.length kb.out;rw[fE,fE,eG]at this;omega
  by_cases hql2:q<H.sp.length
  ·obtain⟨bs,os,P,k8,hP,kR⟩:=yc (h.below hv).sp.rd q hql2;have hr:=Bv (h.below hv) hP;have k9:=dB hP;obtain⟨gt,kC⟩:=hz.spz k9;have k2:(q:Int)<(H.sp.length:Int):=by omega
   have kT:Hid (O.map PS.sp++[P.sp]=(H.sp.take (q+1)).map PS.sp):=ae (by rw[take_at hP,jL,kb.out];rfl);rw[k8];have kj:(CK P).all (·.oneCell')=true:=by rw[<-iX,dG];exact hr.one
   go_wp2_with (first | (refine ay bs (os+q*10) _ kR _ underlying76 rfl space_size ?_) | (refine aT (CK P) space_size kj ?_))
   intro C l fx;have hc:=ah hv l;have d:=hr.below l;have V:=bx.ext l;have R:=rx.ext l;have q1:=p1.below l;have q2:=p2.below l;have q3:=p3.below l;have q4:=p4.below l;have q5:=p5.below l;have q6:=p6.below l;have hO:=N.below l;have hm:∀p∈O,wW C w.heap.size p p.sp/\CU p.tb:=λp X=>⟨(hL p X).1.below l,(hL p X).2⟩;have kw:=ae hc.size;clear hv hr bx rx p1 p2 p3 p4 p5 p6 N hL l kR kj hP;go_upto_region 8 with(fail);refine Yh 0 3 (.slice av O.length cv) (by kernel_rfl) (by kernel_rfl) rfl λops0 hM => ?_;simp only[freedL,DK]at hM;subst hM;refine IK 11 12 [] [fQ (.slice av O.length cv),fQ (.pointer (some ⟨wr.heap.size,0,none⟩)),fQ (.bool P.lv),fQ (.pointer (some ⟨wr.heap.size,1,none⟩)),fQ (.slice P.aa P.ar.length P.ac),(il C.heap.size 94 7 P.ar.length (P.ar.flatMap fZ)),fQ (.pointer (some ⟨wr.heap.size,2,none⟩)),fQ (.agg (vo P.ts)),(PW C.heap.size P.tb),(ZH C.heap.size P.sp),(aaQ C.heap.size P.sp)] (by kernel_rfl) (by kernel_rfl) (by kernel_rfl) (by kernel_rfl) (by kernel_rfl) (by decide) (Nat.le_of_ble_eq_true (by kernel_rfl)) _ rfl (by kernel_rfl) (aj ?_ (aj ?_ (aj ?_ (aj ?_ (aj ?_ (aj ?_ (aj ?_ (aj ?_ (aj ?_ (aj ?_ (aj ?_ (aH)))))))))))) (aH) rfl ?_
   ·refine aB ?_;intro ρ y W D E A I;refine ak (.slice av O.length cv) (run_move (.inl rfl) (E (.const _) trivial))
   ·refine aB ?_;intro ρ y W D E A I;have E5:ρ (.tmp 5) = .pointer (some ⟨wr.heap.size,0,none⟩):=(E (.tmp 5) rfl).trans rfl;refine ak (.pointer (some ⟨wr.heap.size,0,none⟩)) (by simp[execOp,go_sem,E5])
   ·refine aB ?_;intro ρ y W D E A I;have gl:=D 38 1 rfl;have h1:y 1=_:=I 1 rfl;refine ak (.bool P.lv) (by simp[execOp,go_sem,gl,h1,(fx.ext A).cell,CK])
   ·refine aB ?_;intro ρ y W D E A I;have E5:ρ (.tmp 5) = .pointer (some ⟨wr.heap.size,0,none⟩):=(E (.tmp 5) rfl).trans rfl;refine ak (.pointer (some ⟨wr.heap.size,1,none⟩)) (by simp[execOp,go_sem,E5])
   ·refine aB ?_;intro ρ y W D E A I;have gj:=D 40 3 rfl;have h3:y 3=_:=I 3 rfl;refine ak (.slice P.aa P.ar.length P.ac) (by simp[execOp,go_sem,gj,h3,(fx.ext A).cell,CK])
   ·refine aB ?_;intro ρ y W D E A I;have gi:=D 41 4 rfl;have h4:y 4=_:=I 4 rfl;have J:=eF0 E λ_=>trivial;refine aL (aW rfl (J _) func62 (by simp only[bU,bM,bP,gi,h4,J];rfl)) ?_;have hA:=(d.below A).ars;refine(vE P.ar P.aa P.ac W hA.le hA.nl hA.rd (by omega)).mono ?_;rintro e w1 ⟨u,rfl,N,s⟩;exact⟨u,rfl,s,N.mono A.size⟩
   ·refine aB ?_;intro ρ y W D E A I;have E5:ρ (.tmp 5) = .pointer (some ⟨wr.heap.size,0,none⟩):=(E (.tmp 5) rfl).trans rfl;refine ak (.pointer (some ⟨wr.heap.size,2,none⟩)) (by simp[execOp,go_sem,E5])
   ·refine aB ?_;intro ρ y W D E A I;have gg:=D 43 6 rfl;have h6:y 6=_:=I 6 rfl;refine ak (.agg (vo P.ts)) (bO rfl (gg.trans h6) (cK (fx.ext A) 2 8) underlying74 (z:=tab_agg) (s:=tab_size))
   ·refine aB ?_;intro ρ y W D E A I;have gf:=D 44 7 rfl;have h7:y 7=_:=I 7 rfl;have J:=eF0 E λ_=>trivial;refine aL (aW rfl (J _) func63 (by simp only[bU,bM,bP,gf,h7,J];rfl)) ?_;refine(Lx P.tb (vo P.ts) W (d.below A).tb kC).mono ?_;rintro e w1 ⟨u,rfl,N,s⟩;exact⟨_,rfl,s,u,rfl,N.mono A.size⟩
   ·refine aB ?_;intro ρ y W D E A I;have gk:=D 39 2 rfl;have h2:y 2=_:=I 2 rfl;have gh:=D 42 5 rfl;have h5:((il C.heap.size 94 7 P.ar.length (P.ar.flatMap fZ))).r (y 5) W:=I 5 rfl;have gd:=D 45 8 rfl;have h8:((PW C.heap.size P.tb)).r (y 8) W:=I 8 rfl;obtain⟨x5,c5,e5,_⟩:=Own.rd h5;obtain⟨cs8,e8,kV⟩:=h8;obtain⟨v8,rfl⟩:=Zl kV.sz;have ga:Own W C.heap.size 94 7 (.slice x5 P.ar.length c5) P.ar.length (P.ar.flatMap fZ):=by rw[<-e5];exact h5
    refine ak (.agg (CK ⟨P.lv,x5,c5,P.ar,v8,P.tb⟩)) (by simp[execOp,go_sem,gk.trans h2,gh,e5,gd,e8,vo,CK]) (m:=?_);exact⟨⟨P.lv,x5,c5,P.ar,v8,P.tb⟩,rfl,rfl,ga,kV⟩
   ·refine aB ?_;intro ρ y W D E A I;have gc:=D 46 9 rfl;have h9:((ZH C.heap.size P.sp)).r (y 9) W:=I 9 rfl;obtain⟨p9,e9,k7⟩:=h9;refine gM (.slice (some ⟨W.heap.size,0,none⟩) 1 1) (ag) (by simp[execOp,go_sem,gc,e9,CK]) ((Below.refl _ _).alloc (aC _) (.cells (CK p9) 76)) ?_;exact⟨_,p9,rfl,eD.new _ _ _,k7.below ((Below.refl _ _).alloc (aC _) _)⟩
   intro ρ y WA o N D E hV j n;cases N;have kq:y 0=_:=n 0 (by decide);have kJ:y 1=_:=n 1 (by decide);have hF:y 2=_:=n 2 (by decide);have kH:y 3=_:=n 3 (by decide);have kG:y 4=_:=n 4 (by decide);have hH:((il C.heap.size 94 7 P.ar.length (P.ar.flatMap fZ))).r (y 5) WA:=n 5 (by decide);have kF:y 6=_:=n 6 (by decide);have kE:y 7=_:=n 7 (by decide);have kD:((PW C.heap.size P.tb)).r (y 8) WA:=n 8 (by decide);have gu:((ZH C.heap.size P.sp)).r (y 9) WA:=n 9 (by decide);have kI:((aaQ C.heap.size P.sp)).r (y 10) WA:=n 10 (by decide);have kY:=D 37 0 rfl;rw[kq]at kY;have gb:=D 47 10 rfl;have EC:∀v,ρ (.const v)=v:=λv=>E (.const v) trivial;have J:=eF0 E λ_=>trivial;obtain⟨g10,p10,e10,hJ,g⟩:=kI;refine QZ (ag) (ER (.tmp 37) (.tmp 47) 43 rfl w.heap.size 76 _ 10 224 underlying43 space_info rfl (by decide) _ _ _ kY (hO.below j) _ 1 1 (xV p10) (gb.trans e10) (λe=>by cases e) (aC _) rfl hJ (VC g) (by unfold maxLen;omega) (by omega) (aX kw.out j.size)) ?_;rintro v2 w13 ⟨hB,c,hS⟩;clear n D E hV;simp only[lay,Nat.reduceAdd,Nat.reduceLT,Nat.reduceEqDiff,reduceIte,decide_true,decide_false,if_true,oz,if_false,rD,qV,rf,rF,rC,rH,kq,kJ,hF,kH,kG,kF,kE];clear kq kJ hF kH kG kF kE;have t:=hO.below j;have hT:=ah hc j;have ky:Below w.heap.size w w13:=hT.grown c hT.size (λk Y=>t.ge k Y);have hg : Own w13 w.heap.size 76 10 v2 (O++[p10]).length ((O++[p10]).flatMap xV):=by rw[fI,iq];simpa using hB
   obtain⟨a13,c13,rfl,_⟩:=hg.rd;have r1:=lg t c (q1.below j);have r2:=lg t c (q2.below j);have r3:kz w13 w.heap.size _ _ H.sw:=⟨lg t c (q3.below j).b,lg t c (q3.below j).q⟩;have r4:kz w13 w.heap.size _ _ H.dk:=⟨lg t c (q4.below j).b,lg t c (q4.below j).q⟩;have r5:=XY t c (q5.below j);have r6:=lg t c (q6.below j);have bx13:=AL t c (V.ext j);have rx13:=AL t c (R.ext j);have kt:∀p∈O++[p10],wW w13 w.heap.size p p.sp/\CU p.tb:=λp X=>by
    rcases ik.1 X with X|X
    ·have h1:=(hm p X).1.below j;exact⟨⟨rfl,lg t c h1.2.1,Kr t c h1.2.2⟩,(hm p X).2⟩
    rw[bF.1 X];refine⟨⟨rfl,(lg t c g.2.1).mono kw.out,(Kr t c g.2.2).mono kw.out⟩,?_⟩;have e:p10.tb=P.tb:=congrArg Sp.tb g.1;rw[e];exact kC
   have kS:Hid ((O++[p10]).map PS.sp=(H.sp.take (q+1)).map PS.sp):=ae (by rw[jL,<-kT.out,<-g.1];rfl);clear hO t hT j hB c hS g hJ fx d V R q1 q2 q3 q4 q5 q6 hm;go_wp2;go_roundw
   case rel=>exact⟨q+1,_,_,_,by omega,by go_num,rfl,ky,bx13,rx13,r1,r2,r3,r4,r5,r6,hg,kt,kS⟩
   case measure=>simp[intOf];omega
  have k2:¬(q:Int)<(H.sp.length:Int):=by omega
  rw[mE (by omega)]at kb
  go_wp2_with (refine aY w.heap.size 10 [.slice av O.length cv] rfl rfl rfl _ _ bx (by show 10+1<=11;decide) slsp_size (λu hu=>by cases bF.1 hu;rfl) ?_)
  intro C V d;have hc:=hv.grown d hv.size (λk Y=>by cases Y;exact aC _);have R:=rx.grown d (λe=>by have:=aU e;omega);obtain⟨K,hK⟩:∃K:MH,Hid (K = { G with ap:=av,cp:=cv,sp:=O }):=⟨_,ae rfl⟩;have bxK:aK C w.heap.size (bS K) 45:=by rw[hK.out];exact V
  have kU:qp C w.heap.size K:=by rw[hK.out,hG.out];exact⟨aA p1 bx d,aA p2 bx d,p3.keep bx (by decide) (by decide) d,p4.keep bx (by decide) (by decide) d,p5.keep bx (by decide) (by decide) d,aA p6 bx d,aA N bx d,λp X=>⟨aA (hL p X).1.2.1 bx d,(hL p X).1.2.2.keep bx (by decide) d⟩,k6⟩
  have k4:K.ma=H.ma:=by rw[hK.out,hG.out];unfold MH.ma;simp only;rw[kb.out,kQ]
  have k0:∀p∈K.fi,∀x,oB p.a=some x->oB K.asl≠some x:=by rw[hK.out,hG.out];exact k3.out
  clear hv bx rx d V p1 p2 p3 p4 p5 p6 N
  go_wp2_with (first | (refine ay w.heap.size 0 (bS K).toList bxK.rd _ underlying45 rfl mach_size ?_) | (refine ax _ _ (w.heap.size+1) (bS K) R mach_size (G:=dQ K) ?_))
  intro w12 rx12 kp;have kA:=hc.grown kp hc.size oG0;go_wp2;refine bodyPost_ret (v:=.agg (bS K)) (aP results25 (w.heap.size+1) rx12 underlying45 mach_size) rfl ?_;exact⟨K,rfl,kU.keep R (by decide) kp,k4,k0,kA⟩
def zPS:PS:=⟨false,none,0,[],nTs,zTb⟩
theorem iw.putP(h:iw w B b H e)(I:p<H.sp.length) :
  ∃g t A,H.ap=some ⟨g,t,none⟩/\B<=g/\aK w g A 76/\t+p*10+10<=A.size /\
   ∀(w' : World) (P:PS),Own w B 94 7 (.slice P.aa P.ar.length P.ac) P.ar.length (P.ar.flatMap fZ)->xE w B (vo P.ts) P.tb->CU P.tb->aK w' g (dO A (t+p*10) (xV P)) 76->w.grownBy w' (some g)->iw w' B b { H with sp:=H.sp.set p P } e:=by
 obtain⟨g,t,cap,A,D,N,a,k,d⟩:=nS xw rfl h.ma.sp p I;simp only[iW]at D;obtain⟨j,_,l⟩:=D;refine⟨g,t,A,j,N,a,by omega,λw' P K G f J z => ?_⟩;have c:(H.sp.set p P).length=H.sp.length:=bV;have i:b≠g:=λe=>by have E:=h.blk;subst e;unfold aK at E a;rw[E]at a;simp only[fM,rM]at a;exact absurd a.2.1 (by decide)
 refine⟨?_,h.ge,⟨aA h.ma.fr a z,aA h.ma.sl a z,h.ma.sw.keep a (by decide) (by decide) z,h.ma.dk.keep a (by decide) (by decide) z,h.ma.st.keep a (by decide) (by decide) z,aA h.ma.ca a z,?_,λq C => ?_,h.ma.c64⟩,λq C => ?_⟩
 ·have:lm { H with sp:=H.sp.set p P } e=lm H e:=by unfold lm;simp only[c]
  rw[this];exact h.blk.grown z (λe=>i (aU e).symm)
 ·simp only[c];exact d w' _ J
 ·rcases mr C with C|rfl
  ·exact⟨aA (h.ma.ps q C).1 a z,(h.ma.ps q C).2.keep a (by decide) z⟩
  ·exact⟨aA K a z,G.keep a (by decide) z⟩
 rcases mr C with C|rfl
 ·exact h.tz q C
 ·exact f
theorem QA(H:MH)(p:Nat)(P:PS):MH.ma { H with sp:=H.sp.set p P }=rR H.ma p P.sp:=by
 unfold rR MH.ma;simp only[nO]
theorem dI(h:Below B w w1)(k:Below B w1 w2):Below B w w2:=
 ⟨k.os.trans h.os,k.tape.trans h.tape,k.output.trans h.output,aX h.size k.size,λi q=>(k.block i q).trans (h.block i q)⟩
theorem machT:45≠109/\45≠66/\45≠122/\45≠76:=by decide
def FV(H:MH)(p:Int):Prop:=p<0\/(H.sp.length:Int)<=p\/(bQ H.ma p.toNat).lv=false
def aaw(H:MH)(p:Int)(w:World)(r:Ending)(w' : World):Prop:=
 Below w.heap.size w w'/\((FV H p/\r = .returned (.tuple #[.agg (bS noH),.int .i64 5]))\/(¬FV H p/\∃H' : MH,r = .returned (.tuple #[.agg (bS H'),.int .i64 0])/\qp w' w.heap.size H'/\Gone H.ma H'.ma p.toNat/\H'.ma=(FK H.ma p.toNat).m))
def abn(H:MH)(p:Nat)(n:Int)(wr:Bool)(w:World)(r:Ending)(w' : World):Prop:=
 Below w.heap.size w w'/\((nR H.ma p n wr≠0/\r = .returned (.tuple #[.agg (bS noH),.int .i64 0,.int .i64 (nR H.ma p n wr)])) \/
  (nR H.ma p n wr=0/\∃H' : MH,r = .returned (.tuple #[.agg (bS H'),.int .i64 (wK H.ma p n wr),.int .i64 0])/\qp w' w.heap.size H'/\H'.ma=su H.ma p n wr))
def SE(m:Ma):Prop:=∀p,∀a∈(bQ m p).ar,a.fi<m.st.fs.length
theorem SE.at(h:SE m)(z:0<=fB (bQ m p).ar n):(jY m p n).fi<m.st.fs.length:=by
 obtain⟨k,t,a,_⟩:=xz (q:=wY n) (l:=(bQ m p).ar) z;have b : fB (bQ m p).ar n=k:=t;unfold jY;rw[b,bu,bA,aM a];exact h p _ (fA a)
theorem LM(q:Rt m){w:Bool}(t:p<m.sp.length)(h:(bQ m p).lv=true):nR m p n w=if oZ m p n w≠0 then oZ m p n w
  else if 0<=(jY m p n).fi/\copied m p n=false/\qC m.st (jY m p n).fi ((jY m p n).ba+n-(jY m p n).fr)=true then 9
  else if(mJ m p n w).2<0 then 10 else(mJ m p n w).1.e:=by
 unfold nR;rw[if_neg (by rw[Cq.2 q];simp),if_neg (by rw[bu,h];simp;omega),bu]
theorem aaE(E:En)(W:World):(Instr.field 68 (.agg #[.int .i64 E.k,.int .i64 E.n,.bool E.w]) 2).run Tryz.prog W = .ok (.bool E.w) W:=by
 simp[Instr.field,go_sem];rfl
theorem LB(H:MH)(p:Nat)(n:Int)(wr:Bool)(w:World)(h:Dk w H)(hR:Rt H.ma)(hC:Co H.ma)(hF:SE H.ma)(hp:p<H.sp.length)(hv:(bQ H.ma p).lv=true) :
  Calls Tryz.prog 19 #[.agg (bS H),.int .i64 p,.int .i64 n,.bool wr] w (abn H p n wr w):=by
 have kT:p<H.ma.sp.length:=by rw[qm];exact hp
 have hu:=ae (LM (n:=n) (w:=wr) hR kT hv);have gY:=ae hF;have gL:=ae hv;clear hF hv;have o:=ae hR;have k2:=ae hC;have gb:=ae (sK hR);clear hR hC;go_enter func19,ntmps19;go_upto_region 1 with(fail);refine uY (λW=>Code.wp _ _ _ _ W) λw1 ky bx1 rx1 gO => ?_;have bx1:aK w1 w.heap.size (bS H) 45:=bx1;have rx1:aK w1 (w.heap.size+1) (bS noH) 45:=rx1;have G:=h.below ky;clear h
 go_wp2_with (refine ay w.heap.size 0 _ bx1.rd _ underlying45 rfl machine_size ?_)
 refine(rQ H _ G).mono ?_;rintro r w2 ⟨rfl,ka⟩;rw[Cq.2 o.out];have h2:=G.below ka;have bx2:=bx1.ext ka;have rx2:=rx1.ext ka;have kp:=ah ky ka;clear G bx1 rx1 ky ka gO;obtain⟨Q,hQ⟩:∃Q,H.sp[p]?=some Q:=⟨_,aM hp⟩;have kS:=ae (sP hQ);have g4:(p:Int)<(H.sp.length:Int):=by omega
 have g6:decide ((p:Int)<0)=false:=decide_eq_false (by omega);have g5:decide ((H.sp.length:Int)<=(p:Int))=false:=decide_eq_false (by omega);have N:=bx2.cell;unfold bS at N;obtain⟨gs,os,Q',kt,ku,ha⟩:=yc h2.sp.rd p hp;rw[hQ]at ku;cases ku;rw[kt]at N;have gV:w2.cell? ⟨gs,os+p*10,none⟩=some (.bool true):=by
  obtain⟨b',o',e',kx⟩:=ha 0 _ rfl;cases e';have:Q.lv=true:=by have:=gL.out;rw[kS.out]at this;exact this
  rw[this]at kx;exact kx
 go_wp2_with (refine ay w.heap.size 0 _ bx2.rd _ underlying45 rfl machine_size ?_)
 refine(nA H _ h2 gb.out).mono ?_;rintro r w3 ⟨C,rfl,gk,hN,_,hJ⟩;have hr:=ae hN;have gK:Hid (PK C.ma):=ae (by rw[hN];exact gb.out);have rx3:=rx2.ext hJ;have bx3:=bx2.ext hJ;have h3:=h2.below hJ;have kn:=ah kp hJ;have gj:p<C.sp.length:=by rw[Eh (show C.ma.sp.length=H.ma.sp.length by rw[hN])];exact hp
 clear bx2 rx2 h2 hN N gV ha kt;unfold bS;go_upto_region 7 with(fail);refine iP (λW=>Code.wp _ _ _ _ W) λw4 h9 kx4 gN => ?_;have k4:iw w4 w.heap.size w3.heap.size C 0:=⟨kx4,kn.size,(gk.mono kp.size).below h9,λq hq=>(PK.spz (H:=C) gK.out hq).2⟩;have rx4:=rx3.ext h9;have bx4:=bx3.ext h9;have h4:=h3.below h9;have kI:=ah kn h9;clear hJ h9 gk kp kx4 gN rx3 bx3 h3 kn;generalize w3.heap.size=b at k4
 go_wp2_with fail
 refine(VD C 0 n p wr _ b _ k4 gj).mono ?_;rintro r w5 ⟨rfl,hZ⟩;rw[hr.out];have k5:=k4.below hZ;have rx5:=rx4.ext hZ;have bx5:=bx4.ext hZ;have h5:=h4.below hZ;have kH:=ah kI hZ;clear k4 rx4 bx4 h4 hZ kI
 go_wp2_with (refine aT (lW (Ij H.ma p n wr)) kK (yK _) ?_)
 intro w6 hY ax6;have k6:=k5.below hY;have rx6:=rx5.ext hY;have bx6:=bx5.ext hY;have h6:=h5.below hY;have hV:=ah kH hY;clear k5 rx5 bx5 h5 hY kH;generalize w5.heap.size=ga at *
 by_cases h0:oZ H.ma p n wr≠0
 ·have hl:Hid (nR H.ma p n wr=oZ H.ma p n wr):=ae (by rw[hu.out];exact if_pos h0);generalize hE:oZ H.ma p n wr=E at *
  clear k6 bx6 h6 ax6 hu
  go_wp2_with (refine ax _ _ (w.heap.size+1) (bS noH) rx6 mach_size (G:=dQ noH) ?_)
  intro we kb a;have c:=hV.grown a hV.size oG0;go_wp2;refine bodyPost_ret (v:=.tuple #[.agg (bS noH),.int .i64 0,.int .i64 E]) (bX results19 (w.heap.size+1) kb underlying45 mach_size) rfl ?_;exact⟨c,.inl ⟨by rw[hl.out];exact h0,by rw[hl.out]⟩⟩
 replace h0:=qL.1 h0;have gH:Ij H.ma p n wr=jY H.ma p n:=by unfold Ij;rw[h0];exact if_neg (by simp)
 rw[gH]at ax6;rw[h0];have kg:0<=fB (bQ H.ma p).ar n:=by
  by_cases e:fB (bQ H.ma p).ar n<0
  ·unfold oZ at h0;rw[if_pos e]at h0;cases h0
  ·omega
 have hW:Hid (nR H.ma p n wr=if 0<=(jY H.ma p n).fi/\copied H.ma p n=false/\qC H.ma.st (jY H.ma p n).fi ((jY H.ma p n).ba+n-(jY H.ma p n).fr)=true then 9 else if(mJ H.ma p n wr).2<0 then 10 else(mJ H.ma p n wr).1.e):=ae (by rw[hu.out,if_neg (by rw[h0];simp)]);obtain⟨g,hg⟩:∃g,eP H.ma p n=some g:=by
  have:=(Ba _ _).1 kg;unfold eP;cases e:onA (bQ H.ma p).ar n with
  | none=>rw[e]at this;simp at this
  | some g=>exact⟨g,rfl⟩
 have kw:=ae hg;have ki:=ae (gY.out.at kg);have kj:=ae (UL o.out.pt p n);have gT:=ae (o.out.pt.pg hg);have gC:=ae (xH hg);have gm:=ae ((EO (w:=wr) hg).1 h0);have hs:Hid (copied H.ma p n=(decide ((dR Q.tb n).k=2)||(decide ((dR Q.tb n).k=1)&&decide ((gQ H.ma (dR Q.tb n).n).f<0)))):=ae (by unfold copied aJ;rw[kS.out];rfl);clear gH h0 kg hg hu;have N:=bx6.cell;unfold bS at N;obtain⟨gs,os,Q',kt,ku,ha⟩:=yc h6.sp.rd p hp;rw[hQ]at ku;cases ku;rw[kt]at N;have kf:=Bv h6 hQ
 go_wp2_with (refine ay gs (os+p*10+2) _ (mW ha 2 8) _ underlying74 tab_agg tab_size ?_)
 refine(wI Q.tb (vo Q.ts) n _ kf.tb).mono ?_;rintro r w7 ⟨rfl,hI⟩;have a:Hid (aJ H.ma p n=dR Q.tb n):=ae (by unfold aJ;rw[kS.out];rfl);generalize hx:dR Q.tb n=x at *
 have k7:=k6.below hI;have rx7:=rx6.ext hI;have bx7:=bx6.ext hI;have ax7:=ax6.ext hI;have h7:=h6.below hI;have kG:=ah hV hI;clear k6 rx6 bx6 ax6 h6 hI hV N ha kt kf hx
 go_wp2_with (refine aT (pq x) entry_size (by simp[pq,Value.oneCell']) ?_)
 intro w8 hH ex8;have k8:=k7.below hH;have rx8:=rx7.ext hH;have bx8:=bx7.ext hH;have ax8:=ax7.ext hH;have h8:=h7.below hH;have kF:=ah kG hH;clear k7 rx7 bx7 ax7 h7 hH kG;generalize w7.heap.size=gx at ex8;go_upto_region 11 with(fail)
 go_cut [16] (fun s16 wx=>s16 = .bool (copied H.ma p n)/\Below w8.heap.size w8 wx)
 case first=>
  have kW:=ex8.cell;unfold pq at kW
  by_cases c2:x.k=2
  ·have hG:Hid (copied H.ma p n=true):=ae (by rw[hs.out,decide_eq_true c2];rfl);rw[c2]at kW;go_wp2;go_meet
   case rel=>exact⟨by rw[hG.out],Below.refl _ _⟩
  by_cases c1:x.k=1
  ·obtain⟨f,e1,hf,_⟩:=gP o.out (show(aJ H.ma p n).k=1 by rw[a.out];exact c1);rw[a.out]at e1;obtain⟨gf,of,hz,gR⟩:=oU jo h8.fr.rd f (show f<H.m.fs.length from hf);have g8:w8.cell? ⟨gf,of+f*13+11,none⟩=some (.int .i64 (H.m.fs[f]'hf).f):=by obtain⟨b',o',e',kx⟩:=gR 11 _ rfl;cases e';exact kx
   have gq:Hid (gQ H.ma x.n=H.m.fs[f]'hf):=ae (by rw[e1];exact BS (m:=H.ma) hf);have gr:(f:Int)<(H.m.fs.length:Int):=by have:f<H.m.fs.length:=hf;omega
   generalize H.m.fs[f]'hf=X at *
   have N:=bx8.cell;unfold bS at N;rw[hz]at N;clear hz;rw[c1,e1]at kW
   by_cases c3:X.f<0
   ·have hG:Hid (copied H.ma p n=true):=ae (by rw[hs.out,gq.out,decide_eq_true c1,decide_eq_true c3,decide_eq_false c2];rfl);go_wp2;go_meet
    case rel=>exact⟨by rw[hG.out],Below.refl _ _⟩
   have hG:Hid (copied H.ma p n=false):=ae (by rw[hs.out,gq.out,decide_eq_true c1,decide_eq_false c3,decide_eq_false c2];rfl);go_wp2;go_meet
   case rel=>exact⟨by rw[hG.out],Below.refl _ _⟩
  have hG:Hid (copied H.ma p n=false):=ae (by rw[hs.out,decide_eq_false c1,decide_eq_false c2];rfl);have ka:(x.k==2)=false:=by simp[c2]
  have ky:(x.k==1)=false:=by simp[c1]
  go_wp2;go_meet
  case rel=>exact⟨by rw[hG.out],Below.refl _ _⟩
 case rest=>
  obtain⟨rfl,ks⟩:=hcut;have k9:=k8.below ks;have rx9:=rx8.ext ks;have S:=ax8.ext ks;have kE:=ah kF ks;clear k8 rx8 bx8 ax8 h8 ks kF ex8 hs;obtain⟨A,hA⟩:∃A,Hid (A=jY H.ma p n):=⟨_,ae rfl⟩;rw[<-hA.out]at S hW ki kj gC;have gt:=kj.out;have gl:=gT.out;unfold uG at gt;have gd:IntKind.i64.wrap (A.ba+n)=A.ba+n:=dz _ (by omega);have gc:IntKind.i64.wrap (A.ba+n-A.fr)=A.ba+n-A.fr:=dz _ (by omega);clear gt gl;obtain⟨cp,hs⟩:∃cp,Hid (cp=copied H.ma p n):=⟨_,ae rfl⟩;rw[<-hs.out]at hW ⊢;obtain⟨hM,z⟩:∃hM:Bool,Hid (hM=(decide (0<=A.fi)&&!cp&&qC H.ma.st A.fi (A.ba+n-A.fr))):=⟨_,ae rfl⟩;go_upto_region 12 with(fail)
  go_cut [109] (fun s109 wx=>s109 = .bool hM/\Below wc.heap.size wc wx)
  case first=>
   have hX:=S.cell;unfold lW at hX
   by_cases c1:0<=A.fi
   ·cases cp with
    | true=>
     have hD:decide (0<=A.fi)=true:=decide_eq_true c1;have hE:Hid (hM=false):=ae (by rw[z.out,hD];rfl);go_quiet (fail);go_wp2;go_meet
     case rel=>exact⟨by rw[hE.out],below_drewN (Below.refl _ _) _⟩
    | false=>
     have kR:Hid (bD C.fi C.ct=H.ma.st):=ae (congrArg Ma.st hr.out);have hE:Hid (hM=qC (bD C.fi C.ct) A.fi (A.ba+n-A.fr)):=ae (by rw[z.out,kR.out,decide_eq_true c1];rfl);have gr:A.fi<(C.fi.length:Int):=by have G:=ki.out;rw[<-kR.out]at G;have e1:(bD C.fi C.ct).fs.length=C.fi.length:=fE _;rw[e1]at G;exact G
     have gM:(az (bD C.fi C.ct) A.fi).n<=9223372036854775807:=by have G:=(iK o.out.pt.st (f:=A.fi) ⟨c1,by have:=ki.out;omega⟩).2.1;rw[<-kR.out]at G;have h2:(az (bD C.fi C.ct) A.fi).n<=96:=G;omega
     refine aR 24 [_,_,_,_,_,_,_,_,_,_,_,_,_,_,_,_,_,_,_,_,_,_,.v (.bool (qC (bD C.fi C.ct) A.fi (A.ba+n-A.fr))),.v (.bool (qC (bD C.fi C.ct) A.fi (A.ba+n-A.fr)))] (Gf ga 5 rfl rfl (Gl S (V:=.int .i64 A.fi) (by simp[lW]) rfl rfl rfl rfl (Gb (.bool true) (by simp[go_sem,c1]) rfl rfl rfl rfl rfl (Gk rfl (Gk rfl (Gk rfl (Gk rfl (Gk rfl (Gk rfl (Gk rfl (Gf b 0 rfl rfl (Gf b 7 rfl rfl (Gr (.agg #[.slice C.ai C.fi.length C.ci,.int .i64 C.ct]) (λρ y W hb gX=>(bO rfl (bi rfl gX) (k9.below hb).rdS underlying41 (s:=store_size))) rfl rfl (Gf ga 5 rfl rfl (Gl S (V:=.int .i64 A.fi) (by simp[lW]) rfl rfl rfl rfl (Gf ga 6 rfl rfl (Gl S (V:=.int .i64 A.ba) (by simp[lW]) rfl rfl rfl rfl (Gk rfl (Gb (.int .i64 (A.ba+n)) (by simp[go_sem,gd]) rfl rfl rfl rfl rfl (Gf ga 0 rfl rfl (Gl S (V:=.int .i64 A.fr) (by simp[lW]) rfl rfl rfl rfl (Gb (.int .i64 (A.ba+n-A.fr)) (by simp[go_sem,gc]) rfl rfl rfl rfl rfl (aj ?_ (Gk rfl (aH))))))))))))))))))))))))) (λ_=>rfl) rfl ?_
     ·intro ρ y W hw hn hb hd;have g3:=hw 98 12 rfl;have g1:y 12=_:=hd 12 rfl;have gJ:=hw 100 14 rfl;have g0:y 14=_:=hd 14 rfl;have gI:=hw 107 21 rfl;have gZ:y 21=_:=hd 21 rfl;have EF:=eF0 hn λ_=>trivial;refine aL (m:=(ic 7 93 true true ((hw 93 7 rfl).trans (hd 7 rfl)))) (aW rfl (EF _) func43 (by simp only[bU,bM,bP,g3,g1,gJ,g0,gI,gZ,EF];rfl)) ?_;refine(VR C.fi C.ct A.fi (A.ba+n-A.fr) C.ai C.ci W (k9.below hb).ma.rd.st ⟨c1,gr⟩ gM).mono ?_;rintro r W3 ⟨rfl,hJ⟩;exact⟨_,rfl,hJ,rfl⟩
     intro y W10 k0 _;go_wp2;go_meet
     case rel=>exact⟨by rw[hE.out],k0⟩
   have hD:decide (0<=A.fi)=false:=decide_eq_false c1;have hE:Hid (hM=false):=ae (by rw[z.out,hD];rfl);go_quiet (fail);go_wp2;go_meet
   case rel=>exact⟨by rw[hE.out],below_drewN (Below.refl _ _) _⟩
  case rest=>
   obtain⟨rfl,hy⟩:=hcut;have k10:=k9.below hy;have rx10:=rx9.ext hy;have R:=S.ext hy;have hi:=ah kE hy;clear k9 rx9 S hy kE gd gc;cases hM with
   | true=>
    have hl:Hid (nR H.ma p n wr=9):=ae (by have G:=z.out.symm;simp only[dJ,decide_eq_true_eq,tO]at G;rw[hW.out,if_pos ⟨G.1.1,G.1.2,G.2⟩]);clear k10 R hW
    go_wp2_with (refine ax _ _ (w.heap.size+1) (bS noH) rx10 mach_size (G:=dQ noH) ?_)
    intro we kb a;have c:=hi.grown a hi.size oG0;go_wp2;refine bodyPost_ret (v:=.tuple #[.agg (bS noH),.int .i64 0,.int .i64 9]) (bX results19 (w.heap.size+1) kb underlying45 mach_size) rfl ?_;exact⟨c,.inl ⟨by rw[hl.out];decide,by rw[hl.out]⟩⟩
   | false=>
    have kU:Hid (¬(0<=A.fi/\cp=false/\qC H.ma.st A.fi (A.ba+n-A.fr)=true)):=ae (by rintro⟨G,h2,h3⟩;have h4:=z.out;rw[decide_eq_true G,h2,h3]at h4;cases h4);have ge:Hid (nR H.ma p n wr=if(mJ H.ma p n wr).2<0 then 10 else(mJ H.ma p n wr).1.e):=ae (by rw[hW.out,if_neg kU.out]);have hO:Hid (0<=g.fi->(aJ H.ma p n).k=0->jk H.ma.st g.fi g.pg):=ae (λG h2=>by
     obtain⟨a1,a2,a3,a4,a5,a6,a7⟩:=gC.out;refine Ei o.out.pt.st G (o.out.pt.pg kw.out).1 (λh3 => ?_);have h4:cp=false:=by rw[hs.out];unfold copied;rw[h2];rfl
     rcases h3 with h3|h3
     ·have:=ki.out;rw[a6]at this;omega
     ·exact kU.out ⟨by rw[a6];exact G,h4,by rw[a6,a7 G];exact h3⟩)
    have kZ:=Br (k:=⟨H.ma,0⟩) o.out k2.out (p:=p) (n:=n) kT kw.out hO.out;obtain⟨gB,gA⟩:=Ob o.out k2.out (w:=wr) kT kw.out (λe=>gm.out.1 e) hO.out;have km:Hid (mJ H.ma p n wr=if 0<=(gU ⟨H.ma,0⟩ p n A).2/\wr=true/\(aJ (gU ⟨H.ma,0⟩ p n A).1.m p n).w=false then xx (gU ⟨H.ma,0⟩ p n A).1 p n (gU ⟨H.ma,0⟩ p n A).2 A else gU ⟨H.ma,0⟩ p n A):=ae (by rw[hA.out];rfl);simp only[show jY (Kp.m ⟨H.ma,0⟩) p n=A from hA.out.symm]at kZ;have i:=ae kZ;have kM:=ae gB;have gz:=ae gA;have gD:Rt C.ma:=by rw[hr.out];exact o.out
    have gG:Co C.ma:=by rw[hr.out];exact k2.out
    have k3:jY C.ma p n=A:=by rw[hr.out];exact hA.out.symm
    have gp:eP C.ma p n=some g:=by rw[hr.out];exact kw.out
    have kB:0<=g.fi->(aJ C.ma p n).k=0->jk C.ma.st g.fi g.pg:=by rw[hr.out];exact hO.out
    rw[<-k3]at R;clear kZ gB gA hW hO z kU ki kj
    go_wp2_with fail
    refine(Qi C 0 n p g ga w.heap.size b _ k10 gD gG R gj gp kB).mono ?_;rintro r w11 ⟨rfl,D,e11,k11,s11,Y⟩;rw[k3]at R Y ⊢;rw[hr.out]at Y ⊢;have rx11:=s11.blk k10 rx10 machT;have ax11:=s11.blk k10 R areaT;have kr:=dI hi (s11.to k10 (aC _));obtain⟨r1,gh⟩:∃r1,Hid (r1=gU ⟨H.ma,0⟩ p n A):=⟨_,ae rfl⟩;rw[<-gh.out]at Y km i ⊢;have gy:e11=0:=(congrArg Kp.e Y).trans i.out.1;subst gy;have s:=ae (congrArg Kp.m Y);have gi:=ae Y;clear Y s11 k10 rx10 R hi gD gG k3 gp kB gh;generalize hk2:r1.2=K at *
    obtain⟨hL,t⟩:∃hL:Bool,Hid (hL=(decide (0<=K)&&wr&&!(aJ r1.1.m p n).w)):=⟨_,ae rfl⟩;go_upto_region 15 with(fail)
    go_cut [134] (fun s134 wx=>s134 = .bool hL/\Below w11.heap.size w11 wx)
    case first=>
     by_cases c1:0<=K
     ·have hD:decide (0<=K)=true:=decide_eq_true c1;cases wr with
      | false=>
       have l:Hid (hL=false):=ae (by rw[t.out,ng];rfl);go_wp2;go_meet
       case rel=>exact⟨by rw[l.out],Below.refl _ _⟩
      | true=>
       have kc:p<D.sp.length:=by have e1:D.ma.sp.length=r1.1.m.sp.length:=congrArg (λm:Ma=>m.sp.length) s.out;rw[qm,i.out.2.vis.sk.len,qm]at e1;rw[e1];exact hp
       obtain⟨Q2,gE⟩:∃Q2,D.sp[p]?=some Q2:=⟨_,aM kc⟩;have gW:Hid (aJ r1.1.m p n=dR Q2.tb n):=ae (by rw[<-s.out];show dR (bQ D.ma p).tb n=_;rw[sP gE];rfl);obtain⟨g2,off2,kN,gg,kz,hP⟩:=k11.at gE;have N:=k11.blk.cell;unfold lm at N;rw[kN]at N;have gS:(p:Int)<(D.sp.length:Int):=by omega
       clear kN
       go_wp2_with (refine ay g2 (off2+p*10+2) _ kz _ underlying74 tab_agg tab_size ?_)
       refine(wI Q2.tb (vo Q2.ts) n _ hP.tb).mono ?_;rintro r w12 ⟨rfl,j⟩;generalize dR Q2.tb n=y at *
       have g7:=aaE y;have l:Hid (hL = !y.w):=ae (by rw[t.out,hD,gW.out];rfl);clear N gg kz hP;go_wp2;go_meet
       case rel=>exact⟨by rw[l.out],j⟩
     have hD:decide (0<=K)=false:=decide_eq_false c1;have l:Hid (hL=false):=ae (by rw[t.out,hD];rfl);go_wp2;go_meet
     case rel=>exact⟨by rw[l.out],Below.refl _ _⟩
    case rest=>
     obtain⟨rfl,j⟩:=hcut;have Z:=k11.below j;have rx12:=rx11.ext j;have U:=ax11.ext j;have hh:=ah kr j;clear k11 rx11 ax11 j kr;go_upto_if 134 with(fail)
     go_cut [17] (fun s17 wx => ∃(I:MH),s17 = .int .i64 (mJ H.ma p n wr).2/\iw wx w.heap.size b I 0/\aK wx (w.heap.size+1) (bS noH) 45/\aK wx ga (lW A) 94/\Below w.heap.size w wx/\Hid (I.ma=(mJ H.ma p n wr).1.m))
     case first=>
      cases hL with
      | false=>
       have l:Hid (mJ H.ma p n wr=r1):=ae (by rw[km.out,if_neg];rintro⟨G,h2,h3⟩;have h4:=t.out;rw[decide_eq_true G,h2,h3]at h4;cases h4);go_wp2;go_meet
       case rel=>exact⟨D,by rw[l.out,hk2],Z,rx12,U,hh,ae (by rw[l.out];exact s.out)⟩
      | true=>
       have kk:0<=K/\wr=true/\(aJ r1.1.m p n).w=false:=by have G:=t.out.symm;simp only[dJ,decide_eq_true_eq,tO]at G;exact⟨G.1.1,G.1.2,G.2⟩
       have l:Hid (mJ H.ma p n wr=xx r1.1 p n K A):=ae (by rw[km.out,if_pos kk]);obtain⟨y1,y2,_⟩:=i.out.2.yes kk.1;obtain⟨f,f1,hf,_⟩:=gP i.out.2.rt y1;have kv:K=(f:Int):=by rw[<-y2,f1]
       have kc:p<D.sp.length:=by have e1:D.ma.sp.length=r1.1.m.sp.length:=congrArg (λm:Ma=>m.sp.length) s.out;rw[qm,i.out.2.vis.sk.len,qm]at e1;rw[e1];exact hp
       have gv:f<D.m.fs.length:=by have e1:D.m.fs.length=r1.1.m.m.fs.length:=congrArg (λm:Ma=>m.m.fs.length) s.out;rw[e1];exact hf
       have hj:=sK i.out.2.rt;rw[<-s.out]at hj;have kO:D.sp.length<=1000/\D.ca.length<=1000/\D.m.fs.length<=1000:=⟨by have:=hj.sp.1;rwa [show(Kp.m ⟨D.ma,0⟩).sp.length=D.sp.length from qm D]at this,hj.ca,hj.fs⟩;clear kk hj y1 y2 f1 hf t;subst kv
       go_wp2_with fail
       refine(WC D 0 n p f A ga w.heap.size b _ Z U kc gv kO.1 kO.2.1 kO.2.2).mono ?_;rintro r w13 ⟨rfl,H13,e13,k13,s13,q13⟩;rw[gi.out]at q13 ⊢;have rx13:=s13.blk Z rx12 machT;have ax13:=s13.blk Z U areaT;have kY:=dI hh (s13.to Z (aC _));rw[<-l.out]at q13 ⊢;have gw:e13=0:=(congrArg Kp.e q13).trans kM.out;subst gw;have gn:=ae (congrArg Kp.m q13);clear q13 s13 Z rx12 U hh;go_wp2;go_meet
       case rel=>exact⟨H13,rfl,k13,rx13,ax13,kY,gn⟩
     case rest=>
      clear Z rx12 U hh;obtain⟨I,rfl,kX,rxX,axX,hT,kV⟩:=hcut;generalize hK:(mJ H.ma p n wr).2=K2
      by_cases c1:K2<0
      ·have hl:Hid (nR H.ma p n wr=10):=ae (by rw[ge.out,hK,if_pos c1]);clear kX axX
       go_wp2_with (refine ax _ _ (w.heap.size+1) (bS noH) rxX mach_size (G:=dQ noH) ?_)
       intro we kb a;have c:=hT.grown a hT.size oG0;go_wp2;refine bodyPost_ret (v:=.tuple #[.agg (bS noH),.int .i64 0,.int .i64 10]) (bX results19 (w.heap.size+1) kb underlying45 mach_size) rfl ?_;exact⟨c,.inl ⟨by rw[hl.out];decide,by rw[hl.out]⟩⟩
      have kQ:Hid (nR H.ma p n wr=0):=ae (by rw[ge.out,hK,if_neg c1];exact kM.out);have hU:=gz.out.1 (by rw[hK];omega);obtain⟨F,f1,hf,_⟩:=gP hU.rt hU.k1;have kv:K2=(F:Int):=by rw[<-hK,<-hU.en,f1]
      have gu:F<I.m.fs.length:=by have e1:I.m.fs.length=(mJ H.ma p n wr).1.m.m.fs.length:=congrArg (λm:Ma=>m.m.fs.length) kV.out;rw[e1];exact hf
      have kP:Hid (wK H.ma p n wr=(F:Int)):=ae (by rw[<-kv,<-hK];unfold wK;rw[bu]);have hB:Hid (su H.ma p n wr=(if(wr&&A.sh)=true then setFr (setFr I.ma F (lN (aF I.ma F))) F (ko (aF (setFr I.ma F (lN (aF I.ma F))) F) (aF (setFr I.ma F (lN (aF I.ma F))) F).p true)else setFr I.ma F (lN (aF I.ma F)))):=ae (by unfold su Jr;simp only[bu];rw[hK,kv,bu,<-hA.out,kV.out]);have gF:(F:Int)<(I.m.fs.length:Int):=by omega
      subst kv;clear hK hU f1 hf;obtain⟨gf,of,cur,hz,ht,kh,ha,hm⟩:=kX.frPut gu;have N:=kX.blk.cell;unfold lm at N;rw[hz]at N;clear hz ha
      go_wp2_with (refine aY gf (of+F*13+9) [.bool true] rfl rfl rfl _ _ ht (by simp;omega) uO (λu hu=>by cases bF.1 hu;rfl) ?_)
      intro w14 kL kD;obtain⟨J,s14⟩:=hm 9 1 [.bool true] (lN (aF I.ma F)) w14 rfl (by decide) rfl kL kD;have s14:=s14 _ _ (KS.refl _ _ _);have O:=s14.blk kX rxX machT;have ax14:=s14.blk kX axX areaT;have d:=dI hT (s14.to kX (aC _));have kA:Hid (MH.ma { I with m:=⟨I.m.fs.set F (lN (aF I.ma F)),I.m.hand⟩ }=setFr I.ma F (lN (aF I.ma F))):=ae rfl;rw[<-kA.out]at hB;have hS:F<(I.m.fs.set F (lN (aF I.ma F))).length:=by rw[bV];exact gu
      clear N s14 kX rxX axX hT ht kh hm kL kD;generalize hH14:({ I with m:=⟨I.m.fs.set F (lN (aF I.ma F)),I.m.hand⟩ }:MH)=H14 at *
      have hS:F<H14.m.fs.length:=by rw[<-hH14];exact hS
      clear hH14 kA kV;have hX:=ax14.cell;unfold lW at hX;cases wr with
      | false=>
       have kd:H14.ma=su H.ma p n false:=by rw[hB.out];exact(if_neg (by simp)).symm
       have kl:=J.blk.cell;unfold lm at kl
       go_wp2_with (first | (refine ay b 0 (bS H14).toList (cK J.blk 0 11) _ underlying45 rfl machine_size ?_) | (refine ax _ _ (w.heap.size+1) (bS H14) O mach_size (G:=dQ _) ?_))
       intro we rxe a;have c:=d.grown a d.size oG0;have ke:=J.ma.keep O (by decide) a;go_wp2;refine bodyPost_ret (v:=.tuple #[.agg (bS H14),.int .i64 F,.int .i64 0]) (bX results19 (w.heap.size+1) rxe underlying45 mach_size) rfl ?_;exact⟨c,.inr ⟨kQ.out,_,by rw[kP.out],ke,kd⟩⟩
      | true=>
       cases hsh:A.sh with
       | false=>
        rw[hsh]at hX hB;have kd:H14.ma=su H.ma p n true:=by rw[hB.out];exact(if_neg (by simp)).symm
        have kl:=J.blk.cell;unfold lm at kl
        go_wp2_with (first | (refine ay b 0 (bS H14).toList (cK J.blk 0 11) _ underlying45 rfl machine_size ?_) | (refine ax _ _ (w.heap.size+1) (bS H14) O mach_size (G:=dQ _) ?_))
        intro we rxe a;have c:=d.grown a d.size oG0;have ke:=J.ma.keep O (by decide) a;go_wp2;refine bodyPost_ret (v:=.tuple #[.agg (bS H14),.int .i64 F,.int .i64 0]) (bX results19 (w.heap.size+1) rxe underlying45 mach_size) rfl ?_;exact⟨c,.inr ⟨kQ.out,_,by rw[kP.out],ke,kd⟩⟩
       | true=>
        rw[hsh]at hX hB;obtain⟨gf,of,cur,hz,ht,kh,ha,hm⟩:=J.frPut hS;have N:=J.blk.cell;unfold lm at N;rw[hz]at N;have gF:(F:Int)<(H14.m.fs.length:Int):=by omega
        clear hz ha
        go_wp2_with (refine aY gf (of+F*13+10) [.bool true] rfl rfl rfl _ _ ht (by simp;omega) uO (λu hu=>by cases bF.1 hu;rfl) ?_)
        intro w15 kJ kC;obtain⟨k15,s15⟩:=hm 10 1 [.bool true] (ko (aF H14.ma F) (aF H14.ma F).p true) w15 rfl (by decide) rfl kJ kC;have s15:=s15 _ _ (KS.refl _ _ _);have rx15:=s15.blk J O machT;have kq:=dI d (s15.to J (aC _));have kd:Hid (MH.ma { H14 with m:=⟨H14.m.fs.set F (ko (aF H14.ma F) (aF H14.ma F).p true),H14.m.hand⟩ }=su H.ma p n true):=ae (by rw[hB.out];exact(if_pos (by simp)).symm);clear N s15 J O ax14 d ht kh hm kJ kC hX hB hS gF;generalize ({ H14 with m:=⟨H14.m.fs.set F (ko (aF H14.ma F) (aF H14.ma F).p true),H14.m.hand⟩ }:MH)=H15 at *
        have kl:=k15.blk.cell;unfold lm at kl
        go_wp2_with (first | (refine ay b 0 (bS H15).toList (cK k15.blk 0 11) _ underlying45 rfl machine_size ?_) | (refine ax _ _ (w.heap.size+1) (bS H15) rx15 mach_size (G:=dQ _) ?_))
        intro we rxe a;have c:=kq.grown a kq.size oG0;have ke:=k15.ma.keep rx15 (by decide) a;go_wp2;refine bodyPost_ret (v:=.tuple #[.agg (bS H15),.int .i64 F,.int .i64 0]) (bX results19 (w.heap.size+1) rxe underlying45 mach_size) rfl ?_;exact⟨c,.inr ⟨kQ.out,_,by rw[kP.out],ke,kd.out⟩⟩
structure Cl where
 k:Int
 p:Int
 a:Int
 n:Int
 f:Int
 b:Int
 rd:Bool
 wr:Bool
 sh:Bool
 da:List UInt8
structure An where
 e:Int
 n:Int
 da:List UInt8
 deriving DecidableEq
def iV(e:Int):An:=⟨e,0,[]⟩
def setAr(m:Ma)(p:Nat)(l:List Ar):Ma:={ m with sp:=m.sp.set p { bQ m p with ar:=l } }
def zJ(r:Kp × Int):Int:=if r.2=0 then r.1.e else r.2
def NP(m:Ma)(r:Kp × Int)(n:Int)(d:List UInt8):Ma × An:=if zJ r=0 then(r.1.m,⟨0,n,d⟩)else(m,iV (zJ r))
def Sm(ar:List Ar)(c:Cl):Int:=if c.a<0 then uM ar c.n else c.a
def vO(m:Ma)(p:Nat)(c:Cl):Ma × An:=
 let ar:=(bQ m p).ar;let a:=Sm ar c
 if a<0\/64<=a\/c.n<1\/64-a<c.n\/c.f < -1 then(m,iV 3)
 else if(m.st.fs.length:Int)<=c.f then(m,iV 5)
 else
  let x:Ar:=⟨a,a+c.n,c.rd,c.wr,c.sh,c.f,c.b⟩
  if oH ar x≠0 then(m,iV (oH ar x))else(setAr m p (jl ar x),⟨0,a,[]⟩)
def XF(m:Ma)(p:Nat)(c:Cl):Ma × An:=
 let ar:=(bQ m p).ar
 if UB ar c.a c.n≠0 then(m,iV (UB ar c.a c.n))
 else
  let k:=VA ⟨m,0⟩ p c.a c.n
  NP m (⟨setAr k.m p (aaB ar c.a c.n),k.e⟩,0) 0 []
def Zg(k:Kp)(p:Nat)(wr:Bool)(a:Int):Nat->Kp
 | 0=>k
 | j+1=>
  let k:=Zg k p wr a j;let e:=aJ k.m p (a+j)
  if e.w=true/\wr=false then dD k p (a+j) ⟨e.k,e.n,false⟩else k
def XL(m:Ma)(p:Nat)(c:Cl):Ma × An:=
 let ar:=(bQ m p).ar
 if VM ar c.a c.n c.rd c.wr≠0 then(m,iV (VM ar c.a c.n c.rd c.wr))
 else NP m (Zg ⟨setAr m p (aau ar c.a c.n c.rd c.wr),0⟩ p c.wr c.a c.n.toNat,0) 0 []
def zL(m:Ma)(x:Fr)(e:Int):Bool:=decide (0<=x.f)&&decide ((az m.st x.f).n<x.i*8+e)
def lQ(m:Ma)(c:Cl)(n:Int)(w:Bool):Ma × An:=
 if sW c.a n=false then(m,iV 2)
 else if nR m c.p (c.a / 8) w≠0 then(m,iV (nR m c.p (c.a / 8) w))
 else
  let m1:=su m c.p (c.a / 8) w;let f:=(wK m c.p (c.a / 8) w).toNat;let x:=aF m1 f
  if zL m1 x (c.a%8+n)=true then(m,iV 9)
  else if w=true then(setFr m1 f { x with p:=fF x.p (c.a%8) c.da },⟨0,n,[]⟩)
  else(m1,⟨0,n,qM x.p (c.a%8) n⟩)
def jD(f:Int)(tq:Int):Nat->Kp->Int->List UInt8->Kp × Int × List UInt8
 | 0,k,_,o=>(k,0,o)
 | t+1,k,at_,o=>
  if tq<=at_ then(k,0,o)else
  let r:=cO k f (at_ / 8)
  if r.2<0 then(r.1,10,o)else
  let n:=min (8-at_%8) (tq-at_)
  jD f tq t r.1 (at_+n) (o++qM (aF r.1.m r.2.toNat).p (at_%8) n)
def uI(s:Int)(c:Cl):Int:=min c.a s
def toC(s:Int)(c:Cl):Int:=min c.a s+min c.n (s-min c.a s)
def vg(m:Ma)(c:Cl):Ma × An:=
 if c.a<0\/c.n<0 then(m,iV 3)else
 let s:=(az m.st c.f).n;let r:=jD c.f (toC s c) 13 ⟨m,0⟩ (uI s c) []
 NP m (r.1,r.2.1) r.2.2.length r.2.2
def aaA(f:Int):Nat->Kp->Int->List UInt8->Kp × Int
 | 0,k,_,_=>(k,0)
 | t+1,k,at_,b=>
  if b.length=0 then(k,0)else
  let r:=cO k f (at_ / 8)
  if r.2<0 then(r.1,10)else
  let n:=min (8-at_%8) b.length;let x:=aF r.1.m r.2.toNat
  aaA f t ⟨setFr r.1.m r.2.toNat (ko x (fF x.p (at_%8) (b.take n.toNat)) true),r.1.e⟩ (at_+n) (b.drop n.toNat)
def abo(k:Kp)(c:Cl):Kp × Int:=
 let e:=c.a+c.da.length;let r:=if(az k.m.st c.f).n<e then lw k c.f e else(k,0)
 if r.2≠0 then r else aaA c.f 13 r.1 c.a c.da
def Pz(m:Ma)(c:Cl):Ma × An:=
 if c.a<0\/96<c.a\/96-c.a<c.da.length then(m,iV 3)
 else if c.da.length=0 then(m,iV 0)
 else NP m (abo ⟨m,0⟩ c) c.da.length []
def vk(m:Ma)(c:Cl):Ma × An:=if c.n<0\/96<c.n then(m,iV 3)else NP m (lw ⟨m,0⟩ c.f c.n) 0 []
theorem ans_size:(Tryz.prog.info? 54).map (·.size)=some 3:=by kernel_rfl
structure lV (w:World) (B b:Nat) (H:MH):Prop where
 blk:aK w b (bS H) 152
 ge:B<=b
 ma:qp w B H
theorem lV.below(h:lV w B b H)(q:Below w.heap.size w w'):lV w' B b H:=⟨h.blk.ext q,h.ge,h.ma.below q⟩
theorem lV.bs(h:lV w B b H):B<=w.heap.size:=aX h.ge (vI h.blk.lt)
def eQ(e n:Int)(d:Value):Array Value:=#[.int .i64 e,.int .i64 n,d]
def nilV:Value:=.slice none 0 0
theorem bC(e:Int)(n:Int)(a:Option Addr)(l:Nat)(c:Nat):(eQ e n (.slice a l c)).all (·.oneCell')=true:=by simp[eQ,Value.oneCell']
theorem Ce(h:Below w.heap.size w w1):w.grownBy w1 (some b):=⟨h.os,h.tape,h.output,h.size,λi q _=>h.block i q⟩
theorem bY(h:w.grownBy w1 (some b))(k:Below w1.heap.size w1 w2):w.grownBy w2 (some b):=
 ⟨k.os.trans h.os,k.tape.trans h.tape,k.output.trans h.output,aX h.size k.size,λi q t=>(k.block i (jq q h.size)).trans (h.block i q t)⟩
theorem dE(h:w.grownBy w1 (some b))(k:w1.grownBy w2 (some g))(z:w.heap.size<=g:=by omega):w.grownBy w2 (some b):=
 ⟨k.os.trans h.os,k.tape.trans h.tape,k.output.trans h.output,aX h.size k.size,λi q t=>(k.block i (jq q h.size) (λe=>by cases e;omega)).trans (h.block i q t)⟩
theorem nE(h:w.grownBy w1 (some b))(k:w1.grownBy w2 (some b)):w.grownBy w2 (some b):=
 ⟨k.os.trans h.os,k.tape.trans h.tape,k.output.trans h.output,aX h.size k.size,λi t q=>(k.block i (jq t h.size) q).trans (h.block i t q)⟩
def KnR(w:World)(B b:Nat)(m:Ma)(w' : World):Prop:=w.grownBy w' (some b)/\∃H' : MH,lV w' B b H'/\H'.ma=m
def setM(m:Ma)(x:Ma)(e:Int):Ma:=if e=0 then x else m
theorem ni(H H1:MH)(e:Int)(B b:Nat)(w:World)(h:lV w B b H)(I:qp w B H1) :
  Calls Tryz.prog 112 #[.pointer (some ⟨b,0,none⟩),.agg (bS H1),.int .i64 e] w λr w'=>r = .returned (.agg (eQ e 0 nilV))/\KnR w B b (setM H.ma H1.ma e) w':=by
 go_enter func112,ntmps112;go_upto_region 1 with(fail);refine uY (λW=>Code.wp _ _ _ _ W) λw1 f t q j => ?_;have k1:=h.below f;have G:=I.below f;have g:w.grownBy w1 (some b):=Ce f;have t:aK w1 w.heap.size (bS H1) 45:=t;have l:=h.blk.lt;clear h I f j
 by_cases J:e=0
 ·subst J;have E:Hid (setM H.ma H1.ma 0=H1.ma):=ae (if_pos rfl)
  go_wp2_with (first | (refine ay w.heap.size 0 (bS H1).toList t.rd _ underlying45 rfl mach_size ?_) | (refine ax _ _ b (bS H1) k1.blk mach_size (G:=dQ _) ?_))
  intro w2 C d;have K:=G.keep k1.blk (by decide) d;have A:=aG q k1.blk d;have i:=nE g d;have k:=k1.ge;clear k1 G q g t d
  go_wp2_with (refine ax _ _ (w.heap.size+1) (eQ 0 0 nilV) A ans_size ?_)
  intro w3 z a;have c:=dE i a (z:=KC _);have D:lV w3 B b H1:=⟨aG C A a,k,K.keep A (by decide) a⟩;go_wp2;refine bodyPost_ret (v:=.agg (eQ 0 0 nilV)) (aP results112 (w.heap.size+1) z underlying54 ans_size) rfl ?_;exact⟨rfl,c,H1,D,E.out.symm⟩
 have E:Hid (setM H.ma H1.ma e=H.ma):=ae (if_neg J)
 go_wp2_with (refine ax _ _ (w.heap.size+1) (eQ e 0 nilV) q ans_size ?_)
 intro w3 z a;have c:=dE g a (z:=KC _);have D:lV w3 B b H:=⟨aG k1.blk q a,k1.ge,k1.ma.keep q (by decide) a⟩;go_wp2;refine bodyPost_ret (v:=.agg (eQ e 0 nilV)) (aP results112 (w.heap.size+1) z underlying54 ans_size) rfl ?_;exact⟨rfl,c,H,D,E.out.symm⟩
theorem Ku{f : FuncId}{fn : Func}(hf : P.funcs[f]? = some fn)(hn : (fn.name == "runtime.NumGoroutine") = false)(hb : fn.body.isNone = false)(args : Array Value)(w : World) : (callFunc f args).run P w = .ok (.enter f args) w := by
 have a : ¬ fn.name = "runtime.NumGoroutine" := by simpa using hn
 have b : ¬fn.body=none:=λh=>by simp[h]at hb
 unfold callFunc;simp[hf,a,b]
theorem iw.mono(h:iw w B b H e)(q:B'<=B):iw w B' b H e:=⟨h.blk,aX q h.ge,h.ma.mono q,h.tz⟩
def ZP(fid:FuncId)(caps:Array Value)(w:World)(B:Nat)(m:Ma)(R:Kp × Int):Prop:=
 (∀args W,(callFunc fid args).run Tryz.prog W = .ok (.enter fid args) W)/\∀(W:World) (H1:MH) (b1:Nat),Below w.heap.size w W->iw W w.heap.size b1 H1 0->H1.ma=m ->
  Calls Tryz.prog fid (#[.pointer (some ⟨b1,0,none⟩)]++caps) W λr w'=>r = .returned (.int .i64 R.2)/\∃(H2:MH) (e2:Int),iw w' B b1 H2 e2/\KS W b1 H1 w' H2/\Kp.mk H2.ma e2=R.1
theorem ansT:54≠109/\54≠66/\54≠122/\54≠76:=by decide
theorem DD(H:MH)(O:FuncId)(E:Array Value)(R:Kp × Int)(B b:Nat)(w:World)(h:lV w B b H)(hz:PK H.ma)(hf:ZP O E w B H.ma R) :
  Calls Tryz.prog 147 #[.pointer (some ⟨b,0,none⟩),.func (.func O) #[] E] w λr w'=>r = .returned (.agg (eQ (zJ R) 0 nilV))/\KnR w B b (setM H.ma R.1.m (zJ R)) w':=by
 go_enter func147,ntmps147;go_upto_region 1 with(fail);refine iP (λW=>Code.wp _ _ _ _ W) λw1 t X hh => ?_;have k1:=h.below t;have hj:=ae h.bs;have z:=ae hz;have hb:b≠w.heap.size:=by have:=h.blk.lt;omega
 have h':=ae h;clear h hh hz
 go_wp2_with (refine ay b 0 (bS H).toList k1.blk.rd _ underlying45 rfl mach_size ?_)
 refine(nA H _ k1.ma.rd z.out).mono ?_;rintro r w2 ⟨H2,rfl,ha,u,_,y⟩;have hc:=ae u;have V:=X.ext y;have p:=ah t y;clear k1 X u;unfold bS;go_upto_region 2 with(fail);refine iP (λW=>Code.wp _ _ _ _ W) λw3 s N hg => ?_;have K:iw w3 w.heap.size w2.heap.size H2 0:=⟨N,p.size,(ha.mono t.size).below s,λq I=>(PK.spz (H:=H2) (by rw[hc.out];exact z.out) I).2⟩;have U:=V.ext s;have o:=ah p s;clear t y s ha p N hg V;generalize w2.heap.size=b1 at K;have l:=hf.2 w3 H2 b1 o K hc.out;have hi:=hf.1
 go_wp2_with fail
 refine l.mono ?_;rintro r w4 ⟨rfl,Z,S,D,s4,q4⟩;have C:=s4.blk K U ansT;have n:=dI o (s4.to K (aC _));have k4:=h'.out.below n;have d:w.grownBy w4 (some b):=Ce n;have hd:Hid (Z.ma=R.1.m):=ae (congrArg Kp.m q4);have x:S=R.1.e:=congrArg Kp.e q4;clear l hi hf K s4 q4 U o n
 by_cases h0:R.2=0
 ·have I:Hid (zJ R=S):=ae (by unfold zJ;rw[if_pos h0,x]);rw[h0];clear x h0;have k:=D.blk.cell;unfold lm at k
  go_wp2_with (refine ay b1 0 (bS Z).toList (cK D.blk 0 11) _ underlying45 rfl mach_size ?_)
  refine(ni H Z S B b _ k4 D.ma).mono ?_;rintro r w5 ⟨rfl,c,Y,G,g⟩;have f:=ae g;have A:=C.grown c (λe=>hb (aU e));have j:=nE d c;clear D k4 C c g k d
  go_wp2_with (refine ax _ _ w.heap.size (eQ S 0 nilV) A ans_size ?_)
  intro w6 J a;have i:=dE j a (z:=aC _);have k6:lV w6 B b Y:=⟨aG G.blk A a,G.ge,G.ma.keep A (by decide) a⟩;go_wp2;refine bodyPost_ret (v:=.agg (eQ S 0 nilV)) (aP results147 w.heap.size J underlying54 ans_size) rfl ?_;exact⟨by rw[I.out],i,Y,k6,by rw[f.out,I.out,<-hd.out]⟩
 have I:Hid (zJ R=R.2):=ae (by unfold zJ;rw[if_neg h0]);clear x;generalize R.2=er at *
 have k:=D.blk.cell;unfold lm at k
 go_wp2_with (refine ay b1 0 (bS Z).toList (cK D.blk 0 11) _ underlying45 rfl mach_size ?_)
 refine(ni H Z er B b _ k4 D.ma).mono ?_;rintro r w5 ⟨rfl,c,Y,G,g⟩;have f:=ae g;have A:=C.grown c (λe=>hb (aU e));have j:=nE d c;clear D k4 C c g k d
 go_wp2_with (refine ax _ _ w.heap.size (eQ er 0 nilV) A ans_size ?_)
 intro w6 J a;have i:=dE j a (z:=aC _);have k6:lV w6 B b Y:=⟨aG G.blk A a,G.ge,G.ma.keep A (by decide) a⟩;go_wp2;refine bodyPost_ret (v:=.agg (eQ er 0 nilV)) (aP results147 w.heap.size J underlying54 ans_size) rfl ?_;exact⟨by rw[I.out],i,Y,k6,by rw[f.out,I.out,<-hd.out]⟩
def iF(x:Int):Prop:=-9223372036854775808<=x/\x<=9223372036854775807
def kN(c:Cl)(a:Option Addr)(cap:Nat):Array Value:=#[.int .i64 c.k,.int .i64 c.p,.int .i64 c.a,.int .i64 c.n,.int .i64 c.f,.int .i64 c.b,.bool c.rd,.bool c.wr,.bool c.sh,.slice a c.da.length cap]
structure Pm (w:World) (B gc gp:Nat) (c:Cl) (a:Option Addr) (cap:Nat):Prop where
 blk:aK w gc (kN c a cap) 25
 ptr:aK w gp #[.pointer (some ⟨gc,0,none⟩)] 154
 bs:B<=w.heap.size
 rd:∀W,Below B w W->eD W a (c.da.map nD)
 le:c.da.length<=cap
 mx:cap<=maxLen
 nl:a=none->cap=0
theorem Pm.below{c:Cl}(h:Pm w B gc gp c a cap)(q:Below w.heap.size w w'):Pm w' B gc gp c a cap:=⟨h.blk.ext q,h.ptr.ext q,aX h.bs q.size,λW k=>h.rd W (dI (q.mono h.bs) k),h.le,h.mx,h.nl⟩
theorem aaR(t:w.grownBy w' (some g))(z:B<=g)(h:B<=w.heap.size):Below B w w':=(Below.refl B w).grown t h λk q=>by cases q;exact z
theorem Pm.keep{c:Cl}(h:Pm w B gc gp c a cap)(t:aK w g cs T)(C:T≠25)(A:T≠154)(z:B<=g)(q:w.grownBy w' (some g)):Pm w' B gc gp c a cap:=
 ⟨aG h.blk t (s:=C) q,aG h.ptr t (s:=A) q,aX h.bs q.size,λW k=>h.rd W (dI (aaR q z h.bs) k),h.le,h.mx,h.nl⟩
theorem Pm.cell{c:Cl}(h:Pm w B gc gp c a cap):∀o,w.cell? ⟨gc,o,none⟩=(kN c a cap)[o]?:=h.blk.cell
def Zh(w:World)(B b:Nat)(X:Ma × An)(r:Ending)(w' : World):Prop:=∃d,r = .returned (.agg (eQ X.2.e X.2.n d))/\Own w' w.heap.size 5 1 d X.2.da.length (X.2.da.map nD)/\KnR w B b X.1 w'
theorem Pe(m:Ma)(R:Kp × Int)(n:Int)(d:List UInt8):(NP m R n d).1=setM m R.1.m (zJ R)/\(NP m R n d).2=if zJ R=0 then⟨0,n,d⟩else iV (zJ R):=by
 unfold NP setM;split
 ·exact⟨rfl,rfl⟩
 ·exact⟨rfl,rfl⟩
theorem Ta(R:Rt m)(U:Co m)(c:Cl)(a:Option Addr)(cap gc gp B:Nat)(w:World)(hB:B<=w.heap.size)(h:Pm w B gc gp c a cap)(hf:0<=c.f/\c.f<m.st.fs.length)(J:0<=c.n/\c.n<=96) :
  ZP 160 #[.pointer (some ⟨gp,0,none⟩)] w B m (lw ⟨m,0⟩ c.f c.n):=by
 refine⟨λargs W=>Ku func160 (by kernel_rfl) (by kernel_rfl) args W,λW H1 b1 D K hm => ?_⟩;have G:=h.below D;subst hm;clear h D;obtain⟨F,S⟩:∃F:Nat,c.f=F:=⟨c.f.toNat,by omega⟩;have z:F<H1.fi.length:=by have e1:H1.ma.st.fs.length=H1.fi.length:=fE _;omega
 have x:=ae R;have ha:=ae U;have t:=ae S;clear R U hf S;go_enter func160,ntmps160;go_upto_region 1 with(fail);refine uQ 9 10 [] [fQ (.pointer (some ⟨b1,0,none⟩)),fQ (.pointer (some ⟨gc,0,none⟩)),fQ (.pointer (some ⟨gc,0,none⟩)),fQ (.pointer (some ⟨gc,4,none⟩)),fQ (.int .i64 c.f),fQ (.pointer (some ⟨gc,0,none⟩)),fQ (.pointer (some ⟨gc,0,none⟩)),fQ (.pointer (some ⟨gc,3,none⟩)),fQ (.int .i64 c.n)] (by kernel_rfl) (by kernel_rfl) (by kernel_rfl) (by kernel_rfl) (by kernel_rfl) (by kernel_rfl) (by decide) (by decide) _ rfl (by kernel_rfl) (aj ?_ (aj ?_ (aj ?_ (aj ?_ (aj ?_ (aj ?_ (aj ?_ (aj ?_ (aj ?_ (aH)))))))))) (aH) rfl ?_
 ·refine aB ?_;intro ρ y W A C D E;have E0:ρ (.tmp 0) = .pointer (some ⟨b1,0,none⟩):=(C (.tmp 0) rfl).trans rfl;refine ak (.pointer (some ⟨b1,0,none⟩)) (run_move (.inl rfl) E0)
 ·refine aB ?_;intro ρ y W A C D E;have N:ρ (.tmp 1) = .pointer (some ⟨gp,0,none⟩):=(C (.tmp 1) rfl).trans rfl;refine ak (.pointer (some ⟨gc,0,none⟩)) (by simp[execOp,go_sem,N,(G.below D).ptr.cell])
 ·refine aB ?_;intro ρ y W A C D E;have E5:=A 5 1 rfl;have K:y 1=_:=E 1 rfl;refine ak (.pointer (some ⟨gc,0,none⟩)) (by simp[execOp,go_sem,E5,K])
 ·refine aB ?_;intro ρ y W A C D E;have E6:=A 6 2 rfl;have h2:y 2=_:=E 2 rfl;refine ak (.pointer (some ⟨gc,4,none⟩)) (by simp[execOp,go_sem,E6,h2])
 ·refine aB ?_;intro ρ y W A C D E;have E7:=A 7 3 rfl;have h3:y 3=_:=E 3 rfl;refine ak (.int .i64 c.f) (by simp[execOp,go_sem,E7,h3,(G.below D).blk.cell,kN])
 ·refine aB ?_;intro ρ y W A C D E;have N:ρ (.tmp 1) = .pointer (some ⟨gp,0,none⟩):=(C (.tmp 1) rfl).trans rfl;refine ak (.pointer (some ⟨gc,0,none⟩)) (by simp[execOp,go_sem,N,(G.below D).ptr.cell])
 ·refine aB ?_;intro ρ y W A C D E;have E9:=A 9 5 rfl;have h5:y 5=_:=E 5 rfl;refine ak (.pointer (some ⟨gc,0,none⟩)) (by simp[execOp,go_sem,E9,h5])
 ·refine aB ?_;intro ρ y W A C D E;have hh:=A 10 6 rfl;have h6:y 6=_:=E 6 rfl;refine ak (.pointer (some ⟨gc,3,none⟩)) (by simp[execOp,go_sem,hh,h6])
 ·refine aB ?_;intro ρ y W A C D E;have hg:=A 11 7 rfl;have h7:y 7=_:=E 7 rfl;refine ak (.int .i64 c.n) (by simp[execOp,go_sem,hg,h7,(G.below D).blk.cell,kN])
 intro ρ y WA o ho A C hV d b;cases ho;have i:y 0=_:=b 0 (by decide);have s:y 1=_:=b 1 (by decide);have q:y 2=_:=b 2 (by decide);have p:y 3=_:=b 3 (by decide);have g:y 4=_:=b 4 (by decide);have l:y 5=_:=b 5 (by decide);have k:y 6=_:=b 6 (by decide);have j:y 7=_:=b 7 (by decide);have e:y 8=_:=b 8 (by decide);have Y:=A 4 0 rfl;rw[i]at Y;have X:=A 8 4 rfl;rw[g]at X;have u:=A 12 8 rfl;rw[e]at u;have EC:∀v,ρ (.const v)=v:=λv=>C (.const v) trivial;have V:=eF0 C λ_=>trivial;refine Cg _ _ (ag) (aW rfl (V _) func158 (by simp only[bU,bM,bP,Y,X,u,EC,V];rfl)) ?_;rw[t.out];refine(UI H1 0 F c.n w.heap.size b1 _ (K.below d) x.out ha.out z J).mono ?_;rintro r w4 ⟨rfl,H4,e4,k4,Z,O⟩;refine⟨_,rfl,?_⟩;clear b A C hV;simp only[lay,Nat.reduceAdd,Nat.reduceLT,Nat.reduceEqDiff,reduceIte,decide_true,decide_false,if_true,oz,if_false,rD,qV,rf,rF,rC,rH,i,s,q,p,g,l,k,j,e];clear i s q p g l k j e;have I:=((KS.refl W b1 H1).below d).trans Z;rw[<-t.out]at O ⊢;go_wp2;go_ret;exact⟨rfl,_,_,k4.mono hB,I,O⟩
theorem OI(H:MH)(c:Cl)(a:Option Addr)(cap gc gp B b:Nat)(w:World)(h:lV w B b H)(Y:Rt H.ma)(hC:Co H.ma)(hc:aK w gc (kN c a cap) 25)(J:∀W,Below B w W->eD W a (c.da.map nD))(V:c.da.length<=cap)(S:cap<=maxLen)(O:a=none->cap=0)(hf:0<=c.f/\c.f<H.ma.st.fs.length) :
  Calls Tryz.prog 116 #[.pointer (some ⟨b,0,none⟩),.pointer (some ⟨gc,0,none⟩)] w (Zh w B b (vk H.ma c)):=by
 have hz:=ae (sK Y);have x:=ae Y;have y:=ae hC;have z:=h.blk.lt;clear Y hC;go_enter func116,ntmps116;go_upto_region 1 with(fail);refine uY (λW=>Code.wp _ _ _ _ W) λw1 j G A t => ?_;have k1:=h.below j;have c1:Pm w1 B gc w.heap.size c a cap:=⟨hc.ext j,G,k1.bs,λW k=>J W (dI (j.mono h.bs) k),V,S,O⟩;have i:w.grownBy w1 (some b):=Ce j;have ha:=ae h.bs;clear h hc J G j t;have u:=c1.ptr.cell;have s:=c1.cell;unfold kN at s
 by_cases U:c.n<0
 ·have K:Hid (vk H.ma c=(H.ma,iV 3)):=ae (by unfold vk;rw[if_pos (.inl U)])
  go_wp2_with (refine ax _ _ (w.heap.size+1) (eQ 3 0 nilV) A ans_size ?_)
  intro E C d;have g:=dE i d;have I:lV E B b H:=⟨aG k1.blk A d,k1.ge,k1.ma.keep A (by decide) d⟩;go_wp2;refine bodyPost_ret (v:=.agg (eQ 3 0 nilV)) (aP results116 (w.heap.size+1) C underlying54 ans_size) rfl ?_;rw[K.out];exact⟨nilV,rfl,Own.nil _ _ _ _,g,H,I,rfl⟩
 by_cases X:96<c.n
 ·have K:Hid (vk H.ma c=(H.ma,iV 3)):=ae (by unfold vk;rw[if_pos (.inr X)])
  go_wp2_with (refine ax _ _ (w.heap.size+1) (eQ 3 0 nilV) A ans_size ?_)
  intro E C d;have g:=dE i d;have I:lV E B b H:=⟨aG k1.blk A d,k1.ge,k1.ma.keep A (by decide) d⟩;go_wp2;refine bodyPost_ret (v:=.agg (eQ 3 0 nilV)) (aP results116 (w.heap.size+1) C underlying54 ans_size) rfl ?_;rw[K.out];exact⟨nilV,rfl,Own.nil _ _ _ _,g,H,I,rfl⟩
 have K:Hid (vk H.ma c=NP H.ma (lw ⟨H.ma,0⟩ c.f c.n) 0 []):=ae (by unfold vk;rw[if_neg (by omega)]);have m:=Ta x.out y.out c a cap gc w.heap.size B w1 k1.bs c1 hf (by omega);clear hf
 go_wp2_with fail
 refine(DD H _ _ _ B b _ k1 hz.out m).mono ?_;rintro r w2 ⟨rfl,l,H2,N,p⟩;have o:=ae p;have D:=A.grown l (λe=>by cases e;omega);have q:=nE i l;generalize lw ⟨H.ma,0⟩ c.f c.n=R at *
 clear m p l A k1 c1 u s i
 go_wp2_with (refine ax _ _ (w.heap.size+1) (eQ (zJ R) 0 nilV) D ans_size ?_)
 intro E C d;have g:=dE q d;have I:lV E B b H2:=⟨aG N.blk D d,N.ge,N.ma.keep D (by decide) d⟩;go_wp2;refine bodyPost_ret (v:=.agg (eQ (zJ R) 0 nilV)) (aP results116 (w.heap.size+1) C underlying54 ans_size) rfl ?_;obtain⟨x1,Z⟩:=Pe H.ma R 0 [];rw[K.out];refine⟨nilV,?_,?_,g,H2,I,by rw[x1];exact o.out⟩
 ·rw[Z]
  by_cases e:zJ R=0
  ·rw[if_pos e,e]
  ·rw[if_neg e];rfl
 rw[Z]
 by_cases e:zJ R=0
 ·rw[if_pos e];exact Own.nil _ _ _ _
 ·rw[if_neg e];exact Own.nil _ _ _ _
structure KQ (w0:World) (b:Nat) (H0:MH) (gx:Nat) (w:World) (H:MH):Prop where
 os:w.os=w0.os
 tape:w.tape=w0.tape
 output:w.output=w0.output
 size:w0.heap.size<=w.heap.size
 keep:∀x,x<w0.heap.size->¬kb b H0 x->x≠gx->w.heap[x]?=w0.heap[x]?
 sn:∀x,kb b H x->kb b H0 x\/w0.heap.size<=x
theorem KQ.of(s:KS w0 b H0 w H):KQ w0 b H0 gx w H:=⟨s.os,s.tape,s.output,s.size,λx h q _=>s.keep x h q,s.sn⟩
theorem KQ.trans(h:KQ w0 b H0 gx w1 H1)(k:KS w1 b H1 w2 H2):KQ w0 b H0 gx w2 H2:=
 ⟨k.os.trans h.os,k.tape.trans h.tape,k.output.trans h.output,aX h.size k.size,λx q z C=>(k.keep x (jq q h.size) (λA=>(h.sn x A).elim z (λt=>absurd q (KY.2 t)))).trans (h.keep x q z C),
  λx q=>(k.sn x q).elim (h.sn x) (λt => .inr (aX h.size t))⟩
theorem KQ.below(h:KQ w0 b H0 gx w H)(q:Below w.heap.size w w'):KQ w0 b H0 gx w' H:=
 ⟨q.os.trans h.os,q.tape.trans h.tape,q.output.trans h.output,aX h.size q.size,λx t z A=>(q.block x (jq t h.size)).trans (h.keep x t z A),h.sn⟩
theorem KQ.opt{o:Option Nat}(h:KQ w0 b H0 gx w H)(t:w.grownBy w' o)(A:∀y,o=some y->y=gx\/w0.heap.size<=y):KQ w0 b H0 gx w' H:=
 ⟨t.os.trans h.os,t.tape.trans h.tape,t.output.trans h.output,aX h.size t.size,λx z C q=>(t.block x (jq z h.size) (λe=>by
  rcases A x e.symm with e|e
  ·exact q e
  ·omega)).trans (h.keep x z C q),h.sn⟩
theorem KQ.blk{x:Nat}(G:KQ w0 b H0 gx w H)(h:iw w0 B b H0 e)(t:aK w0 x cs T)(I:T≠109/\T≠66/\T≠122/\T≠76)(z:x≠gx):aK w x cs T:=by
 refine(G.keep x t.lt (λz => ?_) z).trans t;obtain⟨K,N,q,J⟩:=h.kb_T z;unfold aK at t q;rw[t]at q;simp only[fM,rM]at q;obtain⟨E,D,C,A⟩:=I;rcases J with e|e|e|e
 ·exact E (q.2.1.trans e)
 ·exact D (q.2.1.trans e)
 ·exact C (q.2.1.trans e)
 ·exact A (q.2.1.trans e)
theorem iw.keepT(h:iw w B b H e)(q:aK w g cs T)(A:T≠109)
 (z:T≠66/\T≠3/\T≠58/\T≠105/\T≠101/\T≠122/\T≠76/\T≠94/\T≠68) (t:w.grownBy w' (some g)):iw w' B b H e:=
 ⟨aG h.blk q (s:=A) t,h.ge,h.ma.keep q z t,h.tz⟩
structure Lm (w:World) (B gx:Nat) (d:Value) (l:List UInt8):Prop where
 blk:aK w gx #[d] 23
 own:Own w B 5 1 d l.length (l.map nD)
theorem Lm.below{l:List UInt8}(h:Lm w B gx d l)(q:Below w.heap.size w w'):Lm w' B gx d l:=⟨h.blk.ext q,h.own.below q⟩
theorem Lm.ks{l:List UInt8}(h:Lm w B gx d l)(s:KS w b H w' H')(k:iw w B' b H e):Lm w' B gx d l:=⟨s.blk k h.blk (by decide),s.own k h.own (by decide)⟩
theorem Lm.keep{l:List UInt8}(h:Lm w B gx d l)(q:aK w g cs T)(A:T≠23)(z:T≠5)(t:w.grownBy w' (some g)):Lm w' B gx d l:=⟨aG h.blk q (s:=A) t,aA h.own q (p:=z) t⟩
theorem Lm.mono{l:List UInt8}(h:Lm w B gx d l)(q:B'<=B):Lm w B' gx d l:=⟨h.blk,h.own.mono q⟩
abbrev ZV (ks:List (Nat × Array Value × TypeId)) (W:World):Prop:=∀t∈ks,aK W t.1 t.2.1 t.2.2
theorem ZV.below{ks:List (Nat × Array Value × TypeId)}(h:ZV ks W)(z:Below W.heap.size W W'):ZV ks W':=λt q=>(h t q).ext z
theorem ZV.keep{ks:List (Nat × Array Value × TypeId)}(h:ZV ks W)(z:aK W g cs T)(C:∀t∈ks,T≠t.2.2)(A:W.grownBy W' (some g)):ZV ks W':=λt q=>aG (h t q) z (s:=C t q) A
theorem VL{n:Nat}(A:Own W B 5 1 v n xs)(h:W.grownBy W' v.ownBlock):(∃g cs,v.ownBlock=some g/\B<=g/\aK W g cs 5/\W.grownBy W' (some g))\/Below W.heap.size W W':=by
 rcases A.2 with⟨q,_⟩|⟨t,z,cap,E,q,D,C,_⟩
 ·right
  have e:v.ownBlock=none:=by rw[q];rfl
  rw[e]at h;exact vF h
 left
 have e:v.ownBlock=some t:=by rw[q];rfl
 exact⟨t,_,e,D,C,by rw[<-e];exact h⟩
structure jCo (w0:World) (B b:Nat) (H0:MH) (gx:Nat) (H:MH) (e:Int) (ks:List (Nat × Array Value × TypeId)) (W:World):Prop where
 kp:iw W B b H e
 sx:KQ w0 b H0 gx W H
 bs:ZV ks W
 sz:w0.heap.size<=W.heap.size
def Da(w0:World)(B b:Nat)(H0:MH)(gx:Nat)(H:MH)(e:Int)(ks:List (Nat × Array Value × TypeId))(d:Value)(l ys:List UInt8):(Nat->Bool)->(Nat->Value)->World->Prop:=λL y W=>
 jCo w0 B b H0 gx H e ks W/\(L 15=true->L 14=true)/\(L 14=true->L 0=true)/\(L 14=false->Own W w0.heap.size 5 1 d l.length (l.map nD))/\(L 15=false->aK W gx #[d] 23) /\
 (L 13=true->L 14=false->∃a c,y 13 = .slice a ys.length c/\Uo W a c ys.length (ys.map nD)) /\
 (L 14=true->Own W w0.heap.size 5 1 (y 14) (l.length+ys.length) (l.map nD++ys.map nD))/\(L 15=true->aK W gx #[y 14] 23)
theorem jCo.below{ks:List (Nat × Array Value × TypeId)}(h:jCo w0 B b H0 gx H e ks W)(q:Below W.heap.size W W'):jCo w0 B b H0 gx H e ks W':=⟨h.kp.below q,h.sx.below q,h.bs.below q,aX h.sz q.size⟩
theorem lI{ks:List (Nat × Array Value × TypeId)}{l h:List UInt8}:∀L y W W',Below W.heap.size W W'->Da w0 B b H0 gx H e ks d l h L y W->Da w0 B b H0 gx H e ks d l h L y W':=
 λ_ _ _ _ hb ⟨h1,h2,h3,h4,h5,h6,h7,h8⟩=>⟨h1.below hb,h2,h3,λa=>(h4 a).below hb,λa=>(h5 a).ext hb,λa c=>by obtain⟨x,y,k1,q⟩:=h6 a c;exact⟨x,y,k1,q.below hb⟩,λa=>(h7 a).below hb,λa=>(h8 a).ext hb⟩
theorem aai{ks:List (Nat × Array Value × TypeId)}{l z:List UInt8}(h:jCo w0 B b H0 gx H e ks W)(t:Lm W w0.heap.size gx d l)(y:Nat->Value):Da w0 B b H0 gx H e ks d l z (λ_=>false) y W:=
 ⟨h,λq=>(by cases q),λq=>(by cases q),λ_=>t.own,λ_=>t.blk,λq=>(by cases q),λq=>(by cases q),λq=>(by cases q)⟩
theorem ny{ks:List (Nat × Array Value × TypeId)}{l G:List UInt8}(h:Da w0 B b H0 gx H e ks d l G L y W)(C:i≠13/\i≠14/\i≠15:=by decide):Da w0 B b H0 gx H e ks d l G (jr L i) (lX y i v) W:=by
 obtain⟨U,S,R,O,N,K,J,I⟩:=h;have E:jr L i 13=L 13:=by unfold jr;rw[if_neg (λe=>C.1 e.symm)]
 have t:jr L i 14=L 14:=by unfold jr;rw[if_neg (λe=>C.2.1 e.symm)]
 have z:jr L i 15=L 15:=by unfold jr;rw[if_neg (λe=>C.2.2 e.symm)]
 have D:lX y i v 13=y 13:=by unfold lX;rw[if_neg (λe=>C.1 e.symm)]
 have A:lX y i v 14=y 14:=by unfold lX;rw[if_neg (λe=>C.2.1 e.symm)]
 refine⟨U,by rw[t,z];exact S,λq => ?_,by rw[t];exact O,by rw[z];exact N,by rw[E,t,D];exact K,by rw[t,A];exact J,by rw[z,A];exact I⟩;rw[t]at q;unfold jr;split
 ·rfl
 ·exact R q
theorem Yy{ks:List (Nat × Array Value × TypeId)}{l q:List UInt8}(z:Below W.heap.size W W')(h:Da w0 B b H0 gx H e ks d l q L y W)(t:Uo W' a c q.length (q.map nD)):Da w0 B b H0 gx H e ks d l q (jr L 13) (lX y 13 (.slice a q.length c)) W':=by
 obtain⟨J,I,G,E,D,K,C,A⟩:=lI _ _ _ _ z h;exact⟨J,I,G,E,D,λ_ _=>⟨a,c,rfl,t⟩,C,A⟩
theorem XG{ks:List (Nat × Array Value × TypeId)}{l C:List UInt8}(O:∀t∈ks,5≠t.2.2)(E:L 14=false)(X:L 0=true)(h:Da w0 B b H0 gx H e ks d l C L y W)(N:W.grownBy W' d.ownBlock)
 (K:Own W' w0.heap.size 5 1 v (l.length+C.length) (l.map nD++C.map nD)):Da w0 B b H0 gx H e ks d l C (jr L 14) (lX y 14 v) W':=by
 obtain⟨A,V,h3,U,S,h6,Z,Y⟩:=h;have c:L 15=false:=by
  cases q:L 15 with
  | false=>rfl
  | true=>rw[V q]at E;cases E
 have J:=U E;have a:=S c;have G:jCo w0 B b H0 gx H e ks W'/\aK W' gx #[d] 23:=by
  rcases VL J N with⟨g,cs,e1,R,D,z⟩|I
  ·exact⟨⟨A.kp.keepT D (by decide) (by decide) z,A.sx.opt z (λy e=>by cases e;exact .inr R),A.bs.keep D O z,aX A.sz z.size⟩,aG a D z⟩
  ·exact⟨A.below I,a.ext I⟩
 exact⟨G.1,λ_=>rfl,λ_=>X,λq=>(by cases q),λ_=>G.2,λ_ q=>(by cases q),λ_=>K,λq=>(by rw[show jr L 14 15=L 15 from rfl,c]at q;cases q)⟩
theorem YO{ks:List (Nat × Array Value × TypeId)}{l E:List UInt8}(J:∀t∈ks,23≠t.2.2)(I:L 15=false)(z:L 14=true)(h:Da w0 B b H0 gx H e ks d l E L y W)(A:W.grownBy W' (some gx))
 (G:aK W' gx #[y 14] 23):Da w0 B b H0 gx H e ks d l E (jr L 15) (lX y 15 v) W':=by
 obtain⟨D,V,O,U,N,S,K,R⟩:=h;have a:=N I;have C:jr L 15 14=L 14:=rfl;refine⟨⟨D.kp.keepT a (by decide) (by decide) A,D.sx.opt A (λy e=>by cases e;exact .inl rfl),D.bs.keep a J A,aX D.sz A.size⟩,λ_=>z,O,λq=>(by rw[C,z]at q;cases q),λq=>(by cases q),λ_ q=>(by rw[C,z]at q;cases q),λq => ?_,λ_=>G⟩;exact aA (K z) a A
theorem ZI{ks:List (Nat × Array Value × TypeId)}{l z:List UInt8}(h:Da w0 B b H0 gx H e ks d l z L y W)(t:L 0=false):L 15=false:=by
 cases q:L 15 with
 | false=>rfl
 | true=>rw[h.2.2.1 (h.2.1 q)]at t;cases t
theorem Un{l:List oW}{J:(Nat->Bool)->(Nat->Value)->World->Prop}{D:Value->World->Prop}(z:Region.wanted o (iC ρ ops)=true)(h:∃q w',(execOp ρ o).run P w = .ok (.value q) w'/\D q w')
 (C:∀v w',D v w'->J (jr L i) (lX y i v) w') (A:∀v w',D v w'->rl l i v w') :
  if Region.wanted o (iC ρ ops)=true then dX P o ρ w (λv w'=>J (jr L i) (lX y i v) w'/\rl l i v w')else J (jr L i) (lX y i undef) w/\rl l i undef w:=by
 obtain⟨v,w',E,t⟩:=h;exact Oj v z E (C _ _ t) (A _ _ t)
theorem slice_size8:(Tryz.prog.info? 23).map (·.size)=some 1:=by kernel_rfl
theorem iw.frPg(h:iw w B b H e){of:Nat}(z:H.af=some ⟨gf,of,none⟩)(t:f<H.m.fs.length):eD w (some ⟨gf,of+f*13,none⟩) (gW (aF H.ma f).p).toList:=by
 obtain⟨g,q,A,a,_,_,c,_⟩:=h.frPut t;rw[z]at a;simp only[fM,mD,and_true]at a;obtain⟨rfl,rfl⟩:=a;exact mW c 0 8
theorem XI(p:Page)(a n:Int):(qM p a n).length<=8:=by
 unfold qM;split
 ·simp
 ·simp[eG,sU];omega
def ChO(fid:FuncId)(caps:Array Value)(w:World)(B:Nat)(m:Ma)(R:Kp × Int)(gx:Nat)(l:List UInt8):Prop:=
 (∀args W,(callFunc fid args).run Tryz.prog W = .ok (.enter fid args) W)/\∀(W:World) (H1:MH) (b1:Nat),Below w.heap.size w W->iw W w.heap.size b1 H1 0->H1.ma=m ->
  Calls Tryz.prog fid (#[.pointer (some ⟨b1,0,none⟩)]++caps) W λr w'=>r = .returned (.int .i64 R.2)/\∃(H2:MH) (e2:Int) (d:Value),iw w' B b1 H2 e2/\KQ W b1 H1 gx w' H2/\Kp.mk H2.ma e2=R.1/\Lm w' w.heap.size gx d l
structure RdI (m:Ma) (f:Int) (T A0:Nat) (t:Nat) (H:MH) (e:Int) (A:Nat) (l:List UInt8):Prop where
 rt:Rt H.ma
 co:Co H.ma
 at_:A<=T/\(A<T->(T:Int)<=8*((A:Int) / 8+t))
 len:l.length+8*t<=104
 inf:∀i,jk H.ma.st f i↔jk m.st f i
 sz:(az H.ma.st f).n=(az m.st f).n
theorem Uv(hR:Rt m)(hC:Co m)(c:Cl)(a:Option Addr)(cap gc gp gf gt gx N T B:Nat)(w:World)(hB:B<=w.heap.size)(h:Pm w B gc gp c a cap)(hxf:aK w gf #[.int .i64 (N:Int)] 3)(R:aK w gt #[.int .i64 (T:Int)] 3)(G:aK w gx #[nilV] 23)
 (hf:0<=c.f/\c.f<m.st.fs.length) (hA:N<=T) (hT:(T:Int)<=(az m.st c.f).n) :
  ChO 156 #[.pointer (some ⟨gf,0,none⟩),.pointer (some ⟨gt,0,none⟩),.pointer (some ⟨gp,0,none⟩),.pointer (some ⟨gx,0,none⟩)] w B m ((jD c.f T 13 ⟨m,0⟩ N []).1,(jD c.f T 13 ⟨m,0⟩ N []).2.1) gx (jD c.f T 13 ⟨m,0⟩ N []).2.2:=by
 refine⟨λargs W=>Ku func156 (by kernel_rfl) (by kernel_rfl) args W,λV0 H1 b1 C h1 hm => ?_⟩;have hc:=h.below C;have hxf:=hxf.ext C;have R:=R.ext C;have G:=G.ext C;have hS:=C.size;have hD:=iK hR.pt.st hf;have kr:T<=96:=by have:=hD.2.1;omega
 have hO:gt≠gx:=uX R G (by decide);have h6:gc≠gx:=uX hc.blk G (by decide);have h4:gp≠gx:=uX hc.ptr G (by decide);have D:Hid (RdI m c.f T N 13 H1 0 N []/\jD c.f T 13 ⟨m,0⟩ N []=jD c.f T 13 ⟨H1.ma,0⟩ N []):=ae ⟨⟨by rw[hm];exact hR,by rw[hm];exact hC,⟨hA,λ_=>by omega⟩,by simp,λi=>by rw[hm],by rw[hm]⟩,by rw[hm]⟩;have hP:Hid (∀A:Nat,A<T->jk m.st c.f ((A:Int) / 8)):=ae λA hA=>by refine⟨hf,by omega,?_⟩;rw[hD.2.2.1];unfold bn;split<;>omega
 have s:Lm V0 V0.heap.size gx nilV []:=⟨G,Own.nil _ _ _ _⟩;have U:KQ V0 b1 H1 gx V0 H1:=.of (.refl _ _ _);have ku:=ae hm;have kx:=ae hT;generalize jD c.f T 13 ⟨m,0⟩ N []=RR at D ⊢;clear h C hR hC hD hm hT hf;go_enter func156,ntmps156;have h7:=hxf.cell;go_upto_region 2 with(fail);clear h7
 go_loopw [7] (fun i wr => ∃(t:Nat) (H:MH) (e:Int) (A:Nat) (d:Value) (l:List UInt8),i = .int .i64 (A:Int)/\iw wr w.heap.size b1 H e/\KQ V0 b1 H1 gx wr H/\Lm wr V0.heap.size gx d l/\Hid (RdI m c.f T N t H e A l/\RR=jD c.f T t ⟨H.ma,e⟩ A l)) (fun i _=>T-(intOf i).toNat)
 case atStart=>exact⟨13,H1,0,N,nilV,[],rfl,h1.mono (aC _),U,s,ae ⟨D.out.1,D.out.2⟩⟩
 case round=>
  clear U s D;obtain⟨t,H,e,A,d,l,rfl,hk,U,s,D⟩:=hrel;have hE:=(U.blk h1 R (by decide) hO).cell;have hQ:=(U.blk h1 hc.ptr (by decide) h4).cell;have hG:=(U.blk h1 hc.blk (by decide) h6).cell;unfold kN at hG
  by_cases hAT:A<T
  ·have h2:(A:Int)<(T:Int):=by omega
   have hy:=(D.out.1.inf _).2 (hP.out A hAT);obtain⟨t',hM⟩:∃t',t=t' + 1:=⟨t-1,by have:=D.out.1.at_.2 hAT;omega⟩;have o:=ae (nC (k:=⟨H.ma,e⟩) D.out.1.rt D.out.1.co hy);have hp:=ae hy;have z:=ae hM;clear hy hM
   go_wp2_with fail
   refine(Ai H e c.f ((A:Int) / 8) w.heap.size b1 _ hk D.out.1.rt hp.out).mono ?_;rintro r w2 ⟨rfl,H2,e2,k2,s2,q2⟩;have E:=U.trans s2;have q:=s.ks s2 hk;have O:=ae q2;clear q2 U s2 hk s hG hQ hE hp;generalize hK:(cO ⟨H.ma,e⟩ c.f ((A:Int) / 8)).2=K at *
   by_cases h0:K<0
   ·have hq:Hid (RR=(⟨H2.ma,e2⟩,10,l)):=ae (by rw[D.out.2,z.out];unfold jD;rw[if_neg (by omega)];simp only;rw[hK,if_pos h0,O.out]);go_wp2;go_ret;rw[hq.out];exact⟨rfl,H2,e2,d,k2.mono hB,E,rfl,q.mono hS⟩
   obtain⟨g,hg⟩:∃g:Nat,K=g:=⟨K.toNat,by omega⟩;have hF:=o.out.2.yes (by omega);rw[show(cO ⟨H.ma,e⟩ c.f ((A:Int) / 8)).1.m=H2.ma from(congrArg Kp.m O.out).symm,hg]at hF;obtain⟨n,S⟩:∃n:Nat,min (8-(A:Int)%8) (T-A)=n:=⟨(min (8-(A:Int)%8) ((T:Int)-A)).toNat,by omega⟩;have hJ:Hid (Rt H2.ma/\Co H2.ma/\(∀i,jk H2.ma.st c.f i↔jk m.st c.f i)/\(az H2.ma.st c.f).n=(az m.st c.f).n):=ae (by rw[show H2.ma=(cO ⟨H.ma,e⟩ c.f ((A:Int) / 8)).1.m from congrArg Kp.m O.out];refine⟨o.out.2.rt,o.out.2.co,λi => ?_,(o.out.2.vis.size _).trans D.out.1.sz⟩;rw[<-D.out.1.inf i];unfold jk;rw[o.out.2.vis.files,o.out.2.vis.lenb]);have hz:g<H2.m.fs.length:=by have:=(hJ.out.1.ca.lt _ hF).2;show g<H2.ma.m.fs.length;simp only at this;omega
   have hq:Hid (RR=jD c.f T t' ⟨H2.ma,e2⟩ ((A+n:Nat):Int) (l++qM (aF H2.ma g).p ((A:Int)%8) n)):=ae (by
    rw[D.out.2,z.out]
    conv=>lhs;unfold jD
    rw[if_neg (by omega)];simp only;rw[hK,if_neg h0,hg,bu,S,<-O.out,JA])
   have hx:Hid (1<=n/\n<=8/\A+n<=T/\((A:Int)+n=T\/((A:Int)+n) / 8=(A:Int) / 8+1)):=ae (by omega);subst hg;clear hK O o hF h0;have hL:=E.blk h1 R (by decide) hO;have hE:=hL.cell;go_upto_region 8 with(fail);rw[show(if(T:Int)-A<8-(A:Int)%8 then(T:Int)-A else 8-(A:Int)%8)=(n:Int) by split<;>omega];obtain⟨Z,V,_,hV,_,_,_,_⟩:=k2.frPut hz;obtain⟨ad,cd,rfl,_⟩:=q.own.rd;obtain⟨X,hX⟩:∃X,aF H2.ma g=X:=⟨_,rfl⟩;rw[hX]at hq;have kb:=ae hX;obtain⟨Y,hY⟩:∃Y,qM X.p ((A:Int)%8) n=Y:=⟨_,rfl⟩;have hH:Hid (Y.length<=8):=ae (by rw[<-hY];exact XI _ _ _);rw[hY]at hq;have ka:=ae hY;have ha:Hid (l.length<=104):=ae (by have:=D.out.1.len;omega);have hr:=ae hV;have kw:=ae E.size;clear hX hY hE hL S h2 hAT hV;refine RF 16 [.v (.slice ad l.length cd),_,_,_,_,_,.v (.slice (some ⟨Z,V,none⟩) H2.m.fs.length H2.cf),_,_,_,.v (.agg (gW X.p)),_,_,.r 13 ((yC λ_=>True)),.r 14 ((yC λ_=>True)),.r 15 ((yC λ_=>True))] (Da V0 w.heap.size b1 H1 gx H2 e2 [] (.slice ad l.length cd) l Y) lI (λy=>aai ⟨k2,E,(λt ht=>(by cases ht)),E.size⟩ q y) (aj ?_ (Qk lI rfl (Qk lI rfl (Qf lI b1 0 rfl rfl (Qf lI b1 0 rfl rfl (Qf lI b1 0 rfl rfl (aj ?_ (Qk lI rfl (Qr lI (.pointer (some ⟨Z,V+g*13,none⟩)) (λρ y W hZ=>(ed rfl (bi rfl hZ) (bi rfl hZ) hz underlying30 frame_size)) rfl rfl (Qf lI Z (V+g*13) rfl rfl (aj ?_ (Qk lI rfl (Qk lI rfl (aj ?_ (aj ?_ (aj ?_ (aH)))) (λ_ _ _ _ b h=>ny h)) (λ_ _ _ _ b h=>ny h))) (λ_ _ _ _ b h=>ny h)) (λ_ _ _ _ b h=>ny h)) (λ_ _ _ _ b h=>ny h))) (λ_ _ _ _ b h=>ny h)) (λ_ _ _ _ b h=>ny h)) (λ_ _ _ _ b h=>ny h)) (λ_ _ _ _ b h=>ny h)) (λ_ _ _ _ b h=>ny h))) (λ_=>rfl) rfl ?_
   ·intro ρ y W L I S j b C J;refine yM lI (d:=(λ_ _ h=>ny h)) C ?_;have E4:ρ (.tmp 4) = .pointer (some ⟨gx,0,none⟩):=(S (.tmp 4) rfl).trans rfl;have kd:=ZI C j;have hj:=(C.2.2.2.2.1 kd).cell;refine ak (.slice ad l.length cd) (by simp[execOp,go_sem,E4,hj])
   ·intro ρ y W L I S j b C J;refine yM lI (d:=(λ_ _ h=>ny h)) C ?_;have kn:=I 40 5 rfl;have h5:y 5=_:=J 5 rfl;refine ak (.slice (some ⟨Z,V,none⟩) H2.m.fs.length H2.cf) (by simp[execOp,go_sem,kn,h5,C.1.kp.blk.cell,lm,hr.out])
   ·intro ρ y W L I S j b C J;refine yM lI (d:=(λ_ _ h=>ny h)) C ?_;have km:=I 44 9 rfl;have h9:y 9=_:=J 9 rfl;have hN:=C.1.kp.frPg hr.out hz;rw[kb.out]at hN;refine ak (.agg (gW X.p)) (bO rfl (km.trans h9) hN underlying58 (s:=psize))
   ·intro ρ y W L I S j b C J;have kl:=I 45 10 rfl;have kg:y 10=_:=J 10 rfl;have kk:=I 46 11 rfl;have kf:y 11=_:=J 11 rfl;have kj:=I 47 12 rfl;have ke:y 12=_:=J 12 rfl;have EF:=eF0 S λ_=>trivial;refine Mk _ _ (ag) (aW rfl (EF _) func155 (by simp only[bU,bM,bP,kl,kg,kk,kf,kj,ke,EF];rfl)) ?_;refine(JL X.p ((A:Int)%8) n W).mono ?_;rintro r W4 ⟨v,rfl,ho,h8⟩;rw[ka.out]at ho;obtain⟨a3,c3,rfl,r1,r2,r3,r4⟩:=ho.rd;exact⟨_,rfl,Yy h8 C ⟨r1,r2,r3,r4⟩,trivial⟩
   ·intro ρ y W L I S j b C J;have ko:=I 35 0 rfl;have h0:y 0=_:=J 0 rfl;have ki:=I 48 13 rfl;have kz:=J 13 rfl;obtain⟨a3,c3,h3,hs⟩:=C.2.2.2.2.2.1 (b 13 rfl) j;have hv:=C.2.2.2.1 j;refine Un (ag) (ER _ _ _ rfl V0.heap.size 5 _ 1 1 underlying23 byte_info rfl (by decide) (.slice ad l.length cd) l.length _ (ko.trans h0) hv a3 Y.length c3 _ (ki.trans h3) hs.nl hs.le (by simp) hs.rd (λu hu=>by obtain⟨x,_,rfl⟩:=fD.1 hu;rfl) (by unfold maxLen;have:=ha.out;have:=hH.out;omega) (by have:=ha.out;have:=hH.out;omega) C.1.sz) (λv W1 h=>XG (λt ht=>(by cases ht)) j (b 0 rfl) C h.2.1 h.1) (λ_ _ _=>trivial)
   ·intro ρ y W L I S j b C J;have E4:ρ (.tmp 4) = .pointer (some ⟨gx,0,none⟩):=(S (.tmp 4) rfl).trans rfl;have kh:=I 49 14 rfl;have ky:=J 14 rfl;have hj:=C.2.2.2.2.1 j;have hv:=C.2.2.2.2.2.2.1 (b 14 rfl);obtain⟨a4,c4,e4,_⟩:=hv.rd;refine jI (mQ _ _ _ rfl gx 0 (.slice a4 (l.length+Y.length) c4) [.slice a4 (l.length+Y.length) c4] E4 (kh.trans e4) rfl _ _ hj (aC _) slice_size8 (λu hu=>by cases bF.1 hu;rfl)) (YO (λt ht=>(by cases ht)) j (b 14 rfl) C (aD _ _ _ _) ?_);rw[e4];exact hj.setCells _ _
   intro y W3 hU hW;clear hW;obtain⟨⟨k3,sx3,_,_⟩,_,_,_,_,_,hi,hh⟩:=hU;have hi:=hi rfl;have hh:=hh rfl;have hl:Lm W3 V0.heap.size gx (y 14) (l++Y):=⟨hh,by rw[fI,jL];exact hi⟩;have kc:Hid (RdI m c.f T N t' H2 e2 (A+n) (l++Y)/\RR=jD c.f T t' ⟨H2.ma,e2⟩ ((A+n:Nat):Int) (l++Y)):=ae (by obtain⟨q1,q2,q3,q4⟩:=hJ.out;obtain⟨u1,u2,u3,u4⟩:=hx.out;have v1:=D.out.1.at_.2 (by omega);have v2:=D.out.1.len;have v3:=hH.out;have v4:=z.out;refine⟨⟨q1,q2,⟨u3,λkv => ?_⟩,by rw[fI];omega,q3,q4⟩,hq.out⟩;rw[JA];rcases u4 with u4|u4<;>omega);generalize y 14=d3 at hl;clear hi hh D hq q k2 E hJ;have kt:IntKind.i64.wrap ((A:Int)+n)=((A+n:Nat):Int):=by rw[dz _ (by have:=hx.out;omega)];omega
   have kq:=hx.out;go_wp2;go_roundw
   case rel=>exact⟨t',H2,e2,A+n,d3,l++Y,by rw[JA],k3,sx3,hl,kc⟩
   case measure=>simp[intOf];omega
  have h2:¬(A:Int)<(T:Int):=by omega
  have hq:Hid (RR=(⟨H.ma,e⟩,0,l)):=ae (by
   rw[D.out.2];cases t with
   | zero=>rfl
   | succ t=>
    unfold jD;rw[if_pos (by omega)])
  clear hG hQ;go_wp2;go_ret;rw[hq.out];exact⟨rfl,H,e,hk.mono hB,U,rfl,d,s.mono hS⟩
structure OX (w w' : World) (b gx:Nat):Prop where
 os:w'.os=w.os
 tape:w'.tape=w.tape
 output:w'.output=w.output
 size:w.heap.size<=w'.heap.size
 block:∀i,i<w.heap.size->i≠b->i≠gx->w'.heap[i]?=w.heap[i]?
theorem OX.of(h:w.grownBy w' (some gx)):OX w w' b gx:=⟨h.os,h.tape,h.output,h.size,λi t _ q=>h.block i t (λe=>q (aU e))⟩
theorem OX.tr(h:OX w w1 b gx)(k:w1.grownBy w2 (some b)):OX w w2 b gx:=
 ⟨k.os.trans h.os,k.tape.trans h.tape,k.output.trans h.output,aX h.size k.size,λi q t z=>(k.block i (jq q h.size) (λe=>t (aU e))).trans (h.block i q t z)⟩
theorem OX.new(h:OX w w1 b gx)(k:w1.grownBy w2 (some g))(A:w.heap.size<=g):OX w w2 b gx:=
 ⟨k.os.trans h.os,k.tape.trans h.tape,k.output.trans h.output,aX h.size k.size,λi q z t=>(k.block i (jq q h.size) (λe=>by cases e;omega)).trans (h.block i q z t)⟩
theorem OX.gr(h:w.grownBy w1 (some b))(k:OX w1 w2 b gx)(z:w.heap.size<=gx):w.grownBy w2 (some b):=
 ⟨k.os.trans h.os,k.tape.trans h.tape,k.output.trans h.output,aX h.size k.size,λi q t=>(k.block i (jq q h.size) (λe=>t (by rw[e])) (by omega)).trans (h.block i q t)⟩
theorem KQ.gr(q:Below w.heap.size w w3)(h:iw w3 w.heap.size b1 H1 e)(s:KQ w3 b1 H1 gx w4 H2):w.grownBy w4 (some gx):=
 ⟨s.os.trans q.os,s.tape.trans q.tape,s.output.trans q.output,aX q.size s.size,λi t z=>(s.keep i (jq t q.size) (λA=>by have:=h.kb_ge A;omega) (λe=>z (by rw[e]))).trans (q.block i t)⟩
theorem lV.keepT(h:lV w B b H)(q:aK w g cs T)(A:T≠152)
 (z:T≠66/\T≠3/\T≠58/\T≠105/\T≠101/\T≠122/\T≠76/\T≠94/\T≠68) (t:w.grownBy w' (some g)):lV w' B b H:=⟨aG h.blk q (s:=A) t,h.ge,h.ma.keep q z t⟩
theorem Ke(H:MH)(S:FuncId)(E:Array Value)(R:Kp × Int)(B b gx:Nat)(l:List UInt8)(w:World)(h:lV w B b H)(hz:PK H.ma)(hx:aK w gx #[nilV] 23)(hf:ChO S E w B H.ma R gx l) :
  Calls Tryz.prog 147 #[.pointer (some ⟨b,0,none⟩),.func (.func S) #[] E] w λr w'=>r = .returned (.agg (eQ (zJ R) 0 nilV))/\OX w w' b gx/\(∃H',lV w' B b H'/\H'.ma=setM H.ma R.1.m (zJ R))/\∃d,Lm w' w.heap.size gx d l:=by
 go_enter func147,ntmps147;go_upto_region 1 with(fail);refine iP (λW=>Code.wp _ _ _ _ W) λw1 z Y hn => ?_;have k1:=h.below z;have hs:=ae h.bs;have hg:=ae hz;have hi:b≠w.heap.size:=by have:=h.blk.lt;omega
 have hp:w.heap.size≠gx:=by have:=hx.lt;omega
 have h':=ae h;have hl:=ae hx;clear h hn hz hx
 go_wp2_with (refine ay b 0 (bS H).toList k1.blk.rd _ underlying45 rfl mach_size ?_)
 refine(nA H _ k1.ma.rd hg.out).mono ?_;rintro r w2 ⟨H2,rfl,hh,ha,_,hd⟩;have hj:=ae ha;have X:=Y.ext hd;have x:=ah z hd;clear k1 Y ha;unfold bS;go_upto_region 2 with(fail);refine iP (λW=>Code.wp _ _ _ _ W) λw3 y N hm => ?_;have K:iw w3 w.heap.size w2.heap.size H2 0:=⟨N,x.size,(hh.mono z.size).below y,λq G=>(PK.spz (H:=H2) (by rw[hj.out];exact hg.out) G).2⟩;have V:=X.ext y;have u:=ah x y;clear z hd y hh x N hm X;generalize w2.heap.size=b1 at K;have t:=hf.2 w3 H2 b1 u K hj.out;have hr:=hf.1
 go_wp2_with fail
 refine t.mono ?_;rintro r w4 ⟨rfl,H4,U,d4,D,s4,q4,i⟩;have C:=s4.blk K V ansT hp;have hb:=s4.gr u K;have J:=h'.out.keepT hl.out (by decide) (by decide) hb;have j:OX w w4 b gx:=.of hb;have hk:Hid (H4.ma=R.1.m):=ae (congrArg Kp.m q4);have hc:U=R.1.e:=congrArg Kp.e q4;clear t hr hf K s4 q4 V u hb
 by_cases h0:R.2=0
 ·have G:Hid (zJ R=U):=ae (by unfold zJ;rw[if_pos h0,hc]);rw[h0];clear hc h0;have s:=D.blk.cell;unfold lm at s
  go_wp2_with (refine ay b1 0 (bS H4).toList (cK D.blk 0 11) _ underlying45 rfl mach_size ?_)
  refine(ni H H4 U B b _ J D.ma).mono ?_;rintro r w5 ⟨rfl,c,Z,O,o⟩;have n:=ae o;have A:=C.grown c (λe=>hi (aU e));have f:=i.keep J.blk (by decide) (by decide) c;have g:=j.tr c;clear D J C i c o s j
  go_wp2_with (refine ax _ _ w.heap.size (eQ U 0 nilV) A ans_size ?_)
  intro w6 I a;have p:=g.new a (aC _);have k6:lV w6 B b Z:=O.keepT A (by decide) (by decide) a;have k:=f.keep A (by decide) (by decide) a;clear O f g a A;go_wp2;refine bodyPost_ret (v:=.agg (eQ U 0 nilV)) (aP results147 w.heap.size I underlying54 ans_size) rfl ?_;exact⟨by rw[G.out],p,⟨Z,k6,by rw[n.out,G.out,<-hk.out]⟩,d4,k⟩
 have G:Hid (zJ R=R.2):=ae (by unfold zJ;rw[if_neg h0]);clear hc;generalize R.2=er at *
 have s:=D.blk.cell;unfold lm at s
 go_wp2_with (refine ay b1 0 (bS H4).toList (cK D.blk 0 11) _ underlying45 rfl mach_size ?_)
 refine(ni H H4 er B b _ J D.ma).mono ?_;rintro r w5 ⟨rfl,c,Z,O,o⟩;have n:=ae o;have A:=C.grown c (λe=>hi (aU e));have f:=i.keep J.blk (by decide) (by decide) c;have g:=j.tr c;clear D J C i c o s j
 go_wp2_with (refine ax _ _ w.heap.size (eQ er 0 nilV) A ans_size ?_)
 intro w6 I a;have p:=g.new a (aC _);have k6:lV w6 B b Z:=O.keepT A (by decide) (by decide) a;have k:=f.keep A (by decide) (by decide) a;clear O f g a A;go_wp2;refine bodyPost_ret (v:=.agg (eQ er 0 nilV)) (aP results147 w.heap.size I underlying54 ans_size) rfl ?_;exact⟨by rw[G.out],p,⟨Z,k6,by rw[n.out,G.out,<-hk.out]⟩,d4,k⟩
theorem iw.putA(h:iw w B b H e){P:PS}(C:H.sp[p]?=some P) :
  ∃g z A,H.ap=some ⟨g,z,none⟩/\B<=g/\aK w g A 76/\z+p*10+10<=A.size /\
   ∀(w' : World) (a:Option Addr) (c:Nat) (l:List Ar),Own w B 94 7 (.slice a l.length c) l.length (l.flatMap fZ)->aK w' g (dO A (z+p*10+1) [.slice a l.length c]) 76->w.grownBy w' (some g) ->
    iw w' B b { H with sp:=H.sp.set p { P with aa:=a,ac:=c,ar:=l } } e/\∀w0 H0,KS w0 b H0 w H->KS w0 b H0 w' { H with sp:=H.sp.set p { P with aa:=a,ac:=c,ar:=l } }:=by
 have I:=(dw.1 C).1;obtain⟨g,z,A,k,O,f,n,m⟩:=h.putP I;obtain⟨S,D,i,o,v,q⟩:=h.at C;rw[k]at i;cases i;have t:∀j u,(xV P)[j]?=some u->A[z+p*10+j]?=some u:=λj u K=>by obtain⟨U,R,e',r⟩:=o j u K;cases e';rw[<-f.cell];exact r
 have d:=dB C;refine⟨g,z,A,k,O,f,n,λw' a c l J N E=>⟨m w' { P with aa:=a,ac:=c,ar:=l } J (h.ma.ps P d).2 (h.tz P d) ?_ E,λw0 H0 s=>s.put E (.inr (.inr (.inr (by rw[k];rfl)))) λy G => .inl (Bh rfl rfl rfl G)⟩⟩;rw[zS A (z+p*10) 1 1 (xV P) (xV { P with aa:=a,ac:=c,ar:=l }) [.slice a l.length c] t rfl rfl (by rw[xw];decide) (by rw[xw];omega)];exact N
theorem XX{P:PS}(h:H.sp[p]?=some P)(a:Option Addr)(c:Nat)(l:List Ar):MH.ma { H with sp:=H.sp.set p { P with aa:=a,ac:=c,ar:=l } }=setAr H.ma p l:=by
 rw[QA];unfold rR setAr;rw[sP h];rfl
theorem asl_size:(Tryz.prog.info? 71).map (·.size)=some 1:=by kernel_rfl
theorem DC : (Tryz.prog.info? 76).map (·.size)=some 10:=by kernel_rfl
structure ArB (w:World) (B gl:Nat) (l:List Ar) (al:Option Addr) (cl:Nat):Prop where
 blk:aK w gl #[.slice al l.length cl] 71
 own:Own w B 94 7 (.slice al l.length cl) l.length (l.flatMap fZ)
theorem ArB.below{l:List Ar}(h:ArB w B gl l al cl)(q:Below w.heap.size w w'):ArB w' B gl l al cl:=⟨h.blk.ext q,h.own.below q⟩
theorem NT(c:Cl)(a:Option Addr)(cap gc gp gl B P:Nat)(l:List Ar)(al:Option Addr)(cl:Nat)(w:World)(hB:B<=w.heap.size)(h:Pm w B gc gp c a cap)(N:ArB w B gl l al cl)(Y:c.p=P)(I:P<m.sp.length) :
  ZP 148 #[.pointer (some ⟨gl,0,none⟩),.pointer (some ⟨gp,0,none⟩)] w B m (⟨setAr m P l,0⟩,0):=by
 refine⟨λargs W=>Ku func148 (by kernel_rfl) (by kernel_rfl) args W,λW H1 b1 D J hm => ?_⟩;have U:=h.below D;have O:=N.below D;have J:=J.mono hB;have s1:=KS.refl W b1 H1;subst hm;rw[qm]at I;have hv:c.p=(P:Int):=Y;clear h N D Y;go_enter func148,ntmps148;go_upto_region 1 with(fail);obtain⟨PP,r⟩:∃PP,H1.sp[P]?=some PP:=⟨_,aM I⟩;obtain⟨K,G,cur,Z,_,_,_,_⟩:=J.putA r;refine uQ 12 13 [] [fQ (.pointer (some ⟨b1,0,none⟩)),fQ (.pointer (some ⟨b1,0,none⟩)),fQ (.pointer (some ⟨b1,0,none⟩)),fQ (.pointer (some ⟨b1,10,none⟩)),fQ (.slice (some ⟨K,G,none⟩) H1.sp.length H1.cp),fQ (.pointer (some ⟨gc,0,none⟩)),fQ (.pointer (some ⟨gc,0,none⟩)),fQ (.pointer (some ⟨gc,1,none⟩)),fQ (.int .i64 (P:Int)),fQ (.slice al l.length cl),fQ (.pointer (some ⟨K,G+P*10,none⟩)),fQ (.pointer (some ⟨K,G+P*10+1,none⟩))] (by kernel_rfl) (by kernel_rfl) (by kernel_rfl) (by kernel_rfl) (by kernel_rfl) (by kernel_rfl) (by decide) (by decide) _ rfl (by kernel_rfl) (aj ?_ (aj ?_ (aj ?_ (aj ?_ (aj ?_ (aj ?_ (aj ?_ (aj ?_ (aj ?_ (aj ?_ (aj ?_ (aj ?_ (aH))))))))))))) (aH) rfl ?_
 ·refine aB ?_;intro ρ y W A E D C;have E0:ρ (.tmp 0) = .pointer (some ⟨b1,0,none⟩):=(E (.tmp 0) rfl).trans rfl;refine ak (.pointer (some ⟨b1,0,none⟩)) (run_move (.inl rfl) E0)
 ·refine aB ?_;intro ρ y W A E D C;have E5:=A 5 0 rfl;have h0:y 0=_:=C 0 rfl;refine ak (.pointer (some ⟨b1,0,none⟩)) (by simp[execOp,go_sem,E5,h0])
 ·refine aB ?_;intro ρ y W A E D C;have E6:=A 6 1 rfl;have J:y 1=_:=C 1 rfl;refine ak (.pointer (some ⟨b1,0,none⟩)) (by simp[execOp,go_sem,E6,J])
 ·refine aB ?_;intro ρ y W A E D C;have E7:=A 7 2 rfl;have h2:y 2=_:=C 2 rfl;refine ak (.pointer (some ⟨b1,10,none⟩)) (by simp[execOp,go_sem,E7,h2])
 ·refine aB ?_;intro ρ y W A E D C;have E8:=A 8 3 rfl;have h3:y 3=_:=C 3 rfl;refine ak (.slice (some ⟨K,G,none⟩) H1.sp.length H1.cp) (by simp[execOp,go_sem,E8,h3,(J.below D).blk.cell,lm,Z])
 ·refine aB ?_;intro ρ y W A E D C;have E2:ρ (.tmp 2) = .pointer (some ⟨gp,0,none⟩):=(E (.tmp 2) rfl).trans rfl;refine ak (.pointer (some ⟨gc,0,none⟩)) (by simp[execOp,go_sem,E2,(U.below D).ptr.cell])
 ·refine aB ?_;intro ρ y W A E D C;have hE:=A 10 5 rfl;have h5:y 5=_:=C 5 rfl;refine ak (.pointer (some ⟨gc,0,none⟩)) (by simp[execOp,go_sem,hE,h5])
 ·refine aB ?_;intro ρ y W A E D C;have hD:=A 11 6 rfl;have h6:y 6=_:=C 6 rfl;refine ak (.pointer (some ⟨gc,1,none⟩)) (by simp[execOp,go_sem,hD,h6])
 ·refine aB ?_;intro ρ y W A E D C;have hC:=A 12 7 rfl;have h7:y 7=_:=C 7 rfl;refine ak (.int .i64 (P:Int)) (by simp[execOp,go_sem,hC,h7,(U.below D).cell,kN,hv])
 ·refine aB ?_;intro ρ y W A E D C;have E1:ρ (.tmp 1) = .pointer (some ⟨gl,0,none⟩):=(E (.tmp 1) rfl).trans rfl;refine ak (.slice al l.length cl) (by simp[execOp,go_sem,E1,(O.below D).blk.cell])
 ·refine aB ?_;intro ρ y W A E D C;have E9:=A 9 4 rfl;have h4:y 4=_:=C 4 rfl;have hA:=A 13 8 rfl;have h8:y 8=_:=C 8 rfl;refine ak (.pointer (some ⟨K,G+P*10,none⟩)) (ed rfl (E9.trans h4) (hA.trans h8) I underlying43 DC)
 ·refine aB ?_;intro ρ y W A E D C;have hz:=A 15 10 rfl;have hy:y 10=_:=C 10 rfl;refine ak (.pointer (some ⟨K,G+P*10+1,none⟩)) (by simp[execOp,go_sem,hz,hy])
 intro ρ y WA o ho A E hV d b;cases ho;have hi:y 0=_:=b 0 (by decide);have hh:y 1=_:=b 1 (by decide);have hg:y 2=_:=b 2 (by decide);have hf:y 3=_:=b 3 (by decide);have ha:y 4=_:=b 4 (by decide);have z:y 5=_:=b 5 (by decide);have x:y 6=_:=b 6 (by decide);have t:y 7=_:=b 7 (by decide);have s:y 8=_:=b 8 (by decide);have n:y 9=_:=b 9 (by decide);have k:y 10=_:=b 10 (by decide);have g:y 11=_:=b 11 (by decide);have X:=A 16 11 rfl;rw[g]at X;have V:=A 14 9 rfl;rw[n]at V;have EC:∀v,ρ (.const v)=v:=λv=>E (.const v) trivial;have EF:=eF0 E λ_=>trivial;obtain⟨gs2,os2,cur2,i,hk,e,ht,q⟩:=(J.below d).putA r;rw[Z]at i;simp only[fM,mD,and_true]at i;obtain⟨rfl,rfl⟩:=i;refine Lh (ag) _ _ _ rfl K (G+P*10+1) _ [.slice al l.length cl] X V rfl _ _ e (by show G+P*10+1+1<=_;omega) asl_size (λu hu=>by cases bF.1 hu;rfl) ?_;intro R hx j;clear b A E hV;simp only[lay,Nat.reduceAdd,Nat.reduceLT,Nat.reduceEqDiff,reduceIte,decide_true,decide_false,if_true,oz,if_false,rD,qV,rf,rF,rC,rH,hi,hh,hg,hf,ha,z,x,t,s,n,k,g];clear hi hh hg hf ha z x t s n k g;obtain⟨k5,S⟩:=q R al cl l (O.below d).own hx j;have S:=S _ _ (s1.below d);have hs:=ae (XX r al cl l);have hG:Pm R B gc gp c a cap:=(U.below d).keep e (by decide) (by decide) hk j;have hF:ArB R B gl l al cl:=⟨aG (O.below d).blk e j,aA (O.below d).own e j⟩;go_wp2;go_ret;exact⟨rfl,_,_,k5,S,by rw[hs.out]⟩
def aaP(k B:Nat)(T:TypeId)(R:oW):wD:=⟨λy w => ∃g v,y k = .pointer (some ⟨g,0,none⟩)/\B<=g/\aK w g #[v] T/\R.r v w,[k],
 λy w w' hb ⟨g,v,h1,h2,h3,h4⟩=>⟨g,v,h1,h2,h3.ext hb,R.st _ _ _ hb h4⟩,λy y' w h ⟨g,v,h1,h2⟩=>⟨g,v,by rw[<-h k (bF.2 rfl)];exact h1,h2⟩⟩
theorem YV{P:Nat}(h:H.sp[P]?=some PP):(bQ H.ma P).ar=PP.ar:=by rw[sP h];rfl
theorem Mw(H:MH)(c:Cl)(a:Option Addr)(cap gc B b P:Nat)(w:World)(h:lV w B b H)(hR:Rt H.ma)(hC:Co H.ma)(hc:aK w gc (kN c a cap) 25)(J:∀W,Below B w W->eD W a (c.da.map nD))(hle:c.da.length<=cap)(hmx:cap<=maxLen)(hnl:a=none->cap=0)(hp:c.p=P)(Z:P<H.sp.length)(h64:iF c.a/\iF c.n) :
  Calls Tryz.prog 108 #[.pointer (some ⟨b,0,none⟩),.pointer (some ⟨gc,0,none⟩)] w (Zh w B b (vO H.ma P c)):=by
 have hz:=ae (sK hR);have kX:=h.blk.lt;obtain⟨PP,hK⟩:∃PP,H.sp[P]?=some PP:=⟨_,aM Z⟩;have hH:=ae (YV hK);have kc:c.p=(P:Int):=hp;have kb:∀x∈PP.ar,uG x:=λx hx=>by have h1:=(ug (hR.pt.arN P)).2 x (by rw[hH.out];exact hx);exact(gN h1).1
 have hZ:PP.ar.length<=1000:=by have h1:=(ug (hR.pt.arN P)).1;rw[hH.out]at h1;omega
 have hv:Hid (H.ma.st.fs.length=H.fi.length):=ae (fE _);go_enter func108,ntmps108;go_upto_region 1 with(fail);refine uY (λW=>Code.wp _ _ _ _ W) λw1 hl px1 C kp => ?_;have k1:=h.below hl;have c1:Pm w1 B gc w.heap.size c a cap:=⟨hc.ext hl,px1,k1.bs,λW k=>J W (dI (hl.mono h.bs) k),hle,hmx,hnl⟩;have kt:=ae h.bs;have d:w.grownBy w1 (some b):=Ce hl;have hf:=ae hl.size;have kR:=h64.2;clear h hc J kp hp hl hR hC h64;obtain⟨gs,os,PP',kr,hF,J⟩:=yc k1.ma.rd.sp.rd P Z;rw[hK]at hF;cases hF;have j:=Bv k1.ma.rd hK;refine aR 11 [_,_,_,_,_,_,_,_,_,_,.v (.pointer (some ⟨gs,os+P*10,none⟩))] (Gk rfl (Gk rfl (Gf b 0 rfl rfl (Gf b 10 rfl rfl (Gc (.slice (some ⟨gs,os,none⟩) H.sp.length H.cp) (λW A=>by simp[(k1.below A).blk.cell,bS,kr]) rfl rfl rfl rfl (Gc (.pointer (some ⟨gc,0,none⟩)) (λW A=>by simp[(c1.below A).ptr.cell]) rfl rfl rfl rfl (Gk rfl (Gf gc 1 rfl rfl (Gc (.int .i64 (P:Int)) (λW A=>by simp[(c1.below A).cell,kN,kc]) rfl rfl rfl rfl (Gr (.pointer (some ⟨gs,os+P*10,none⟩)) (λρ y W A kh=>(ed rfl (bi rfl kh) (bi rfl kh) Z underlying43 DC)) rfl rfl (Gk rfl (aH)))))))))))) (λ_=>rfl) rfl ?_;intro y W2 t _;have k1:=k1.below t;have c1:=c1.below t;have C:=C.ext t;have J:=J.below t;have j:=j.below t;have d:=bY d t;have hf:=ae (aX hf.out t.size);have hs:=Mf J;clear t;obtain⟨D,hM⟩:∃D,Hid (D=Sm PP.ar c):=⟨_,ae rfl⟩;have o:Hid (vO H.ma P c=if D<0\/64<=D\/c.n<1\/64-D<c.n\/c.f < -1 then(H.ma,iV 3)else if(H.fi.length:Int)<=c.f then(H.ma,iV 5)else if oH PP.ar ⟨D,D+c.n,c.rd,c.wr,c.sh,c.f,c.b⟩≠0 then(H.ma,iV (oH PP.ar ⟨D,D+c.n,c.rd,c.wr,c.sh,c.f,c.b⟩))else(setAr H.ma P (jl PP.ar ⟨D,D+c.n,c.rd,c.wr,c.sh,c.f,c.b⟩),⟨0,D,[]⟩)):=ae (by unfold vO;simp only[hH.out,<-hM.out,hv.out]);have hr:=c1.ptr.cell;have hg:=c1.cell;unfold kN at hg;go_upto_if 25 with(fail);clear hr hg
 go_cut [6] (fun s6 wx=>s6 = .int .i64 D/\0<=D/\Below W2.heap.size W2 wx)
 case first=>
  by_cases V:c.a<0
  ·have hL:Hid (D=uM PP.ar c.n):=ae (by rw[hM.out];unfold Sm; exact if_pos V);go_upto_region 4 with(fail);refine aR 10 [_,_,_,.v (.slice PP.aa PP.ar.length PP.ac),_,_,_,_,.v (.int .i64 D),.v (.int .i64 D)] (Gk rfl (Gk rfl (Gf gs (os+P*10+1) rfl rfl (aj ?_ (Gc (.pointer (some ⟨gc,0,none⟩)) (λW A=>by simp[(c1.below A).ptr.cell]) rfl rfl rfl rfl (Gk rfl (Gf gc 3 rfl rfl (Gc (.int .i64 c.n) (λW A=>by simp[(c1.below A).blk.cell,kN]) rfl rfl rfl rfl (aj ?_ (Gk rfl (aH))))))))))) (λ_=>rfl) rfl ?_
   ·intro ρ y W I Y A K;have kM:=I 28 2 rfl;have h2:y 2=_:=K 2 rfl;have hs:=Mf (J.below A);refine ak (.slice PP.aa PP.ar.length PP.ac) (by simp[execOp,go_sem,kM,h2,hs])
   ·intro ρ y W I Y A K;have kL:=I 29 3 rfl;have h3:y 3=_:=K 3 rfl;have kK:=I 33 7 rfl;have h7:y 7=_:=K 7 rfl;have EF:=eF0 Y λ_=>trivial;refine aL (aW rfl (EF _) func145 (by simp only[bU,bM,bP,kL,h3,kK,h7,EF];rfl)) ?_;refine(Ve PP.ar c.n PP.aa PP.ac W (j.below A).ars.rd hZ kb).mono ?_;rintro r w3 ⟨rfl,z⟩;rw[<-hL.out];exact⟨_,rfl,z,rfl⟩
   intro y W3 hh _
   by_cases hr0:D<0
   ·have S:Hid (vO H.ma P c=(H.ma,iV 3)):=ae (by rw[o.out,if_pos (.inl hr0)]);have k1:=k1.below hh;have C:=C.ext hh;have d:=bY d hh
    go_wp2_with (refine ax _ _ (w.heap.size+1) (eQ 3 0 nilV) C ans_size ?_)
    intro O G g;have i:=dE d g;have R:lV O B b H:=⟨aG k1.blk C g,k1.ge,k1.ma.keep C (by decide) g⟩;go_wp2;refine bodyPost_ret (v:=.agg (eQ 3 0 nilV)) (aP results108 (w.heap.size+1) G underlying54 ans_size) rfl ?_;rw[S.out];exact⟨nilV,rfl,Own.nil _ _ _ _,i,H,R,rfl⟩
   go_wp2;go_meet
   case rel=>exact⟨rfl,by omega,hh⟩
  have hL:D=c.a:=by rw[hM.out];unfold Sm; exact if_neg V
  subst hL;have kW:decide (c.a<0)=false:=decide_eq_false V;go_wp2;go_meet
  case rel=>exact⟨rfl,by omega,Below.refl _ _⟩
 case rest=>
  obtain⟨rfl,kS,z⟩:=hcut;have k1:=k1.below z;have c1:=c1.below z;have C:=C.ext z;have J:=J.below z;have j:=j.below z;have d:=bY d z;have hf:=ae (aX hf.out z.size);clear z hs;have hr:=c1.ptr.cell;have hg:=c1.cell;unfold kN at hg
  by_cases e1:64<=D
  ·have S:Hid (vO H.ma P c=(H.ma,iV 3)):=ae (by rw[o.out,if_pos (.inr (.inl e1))])
   go_wp2_with (refine ax _ _ (w.heap.size+1) (eQ 3 0 nilV) C ans_size ?_)
   intro O G g;have i:=dE d g;have R:lV O B b H:=⟨aG k1.blk C g,k1.ge,k1.ma.keep C (by decide) g⟩;go_wp2;refine bodyPost_ret (v:=.agg (eQ 3 0 nilV)) (aP results108 (w.heap.size+1) G underlying54 ans_size) rfl ?_;rw[S.out];exact⟨nilV,rfl,Own.nil _ _ _ _,i,H,R,rfl⟩
  by_cases e2:c.n<1
  ·have S:Hid (vO H.ma P c=(H.ma,iV 3)):=ae (by rw[o.out,if_pos (.inr (.inr (.inl e2)))])
   go_wp2_with (refine ax _ _ (w.heap.size+1) (eQ 3 0 nilV) C ans_size ?_)
   intro O G g;have i:=dE d g;have R:lV O B b H:=⟨aG k1.blk C g,k1.ge,k1.ma.keep C (by decide) g⟩;go_wp2;refine bodyPost_ret (v:=.agg (eQ 3 0 nilV)) (aP results108 (w.heap.size+1) G underlying54 ans_size) rfl ?_;rw[S.out];exact⟨nilV,rfl,Own.nil _ _ _ _,i,H,R,rfl⟩
  have kT:IntKind.i64.wrap (64-D)=64-D:=dz _ (by omega)
  by_cases e3:64-D<c.n
  ·have S:Hid (vO H.ma P c=(H.ma,iV 3)):=ae (by rw[o.out,if_pos (.inr (.inr (.inr (.inl e3))))])
   go_wp2_with (refine ax _ _ (w.heap.size+1) (eQ 3 0 nilV) C ans_size ?_)
   intro O G g;have i:=dE d g;have R:lV O B b H:=⟨aG k1.blk C g,k1.ge,k1.ma.keep C (by decide) g⟩;go_wp2;refine bodyPost_ret (v:=.agg (eQ 3 0 nilV)) (aP results108 (w.heap.size+1) G underlying54 ans_size) rfl ?_;rw[S.out];exact⟨nilV,rfl,Own.nil _ _ _ _,i,H,R,rfl⟩
  by_cases e4:c.f < -1
  ·have S:Hid (vO H.ma P c=(H.ma,iV 3)):=ae (by rw[o.out,if_pos (.inr (.inr (.inr (.inr e4))))])
   go_wp2_with (refine ax _ _ (w.heap.size+1) (eQ 3 0 nilV) C ans_size ?_)
   intro O G g;have i:=dE d g;have R:lV O B b H:=⟨aG k1.blk C g,k1.ge,k1.ma.keep C (by decide) g⟩;go_wp2;refine bodyPost_ret (v:=.agg (eQ 3 0 nilV)) (aP results108 (w.heap.size+1) G underlying54 ans_size) rfl ?_;rw[S.out];exact⟨nilV,rfl,Own.nil _ _ _ _,i,H,R,rfl⟩
  rw[if_neg (by omega)]at o;go_upto_region 9 with(fail);clear hr hg
  by_cases e5:(H.fi.length:Int)<=c.f
  ·have S:Hid (vO H.ma P c=(H.ma,iV 5)):=ae (by rw[o.out,if_pos e5]);refine aR 12 [_,_,_,_,_,_,_,_,_,_,_,_] (Gc (.pointer (some ⟨gc,0,none⟩)) (λW A=>by simp[(c1.below A).ptr.cell]) rfl rfl rfl rfl (Gk rfl (Gf gc 4 rfl rfl (Gc (.int .i64 c.f) (λW A=>by simp[(c1.below A).blk.cell,kN]) rfl rfl rfl rfl (Gk rfl (Gk rfl (Gf b 0 rfl rfl (Gf b 7 rfl rfl (Gf b 7 rfl rfl (Gc (.slice H.ai H.fi.length H.ci) (λW A=>by simp[(k1.below A).blk.cell,bS]) rfl rfl rfl rfl (Gn rfl rfl rfl rfl (Gb (.bool true) (by simp[go_sem,e5]) rfl rfl rfl rfl rfl (aH)) (underlying39)))))))))))) (λ_=>rfl) rfl ?_;intro y N l _;have k1:=k1.below l;have C:=C.ext l;have d:=bY d l
   go_wp2_with (refine ax _ _ (w.heap.size+1) (eQ 5 0 nilV) C ans_size ?_)
   intro O G g;have i:=dE d g;have R:lV O B b H:=⟨aG k1.blk C g,k1.ge,k1.ma.keep C (by decide) g⟩;go_wp2;refine bodyPost_ret (v:=.agg (eQ 5 0 nilV)) (aP results108 (w.heap.size+1) G underlying54 ans_size) rfl ?_;rw[S.out];exact⟨nilV,rfl,Own.nil _ _ _ _,i,H,R,rfl⟩
  rw[if_neg e5]at o;refine aR 12 [_,_,_,_,_,_,_,_,_,_,_,_] (Gc (.pointer (some ⟨gc,0,none⟩)) (λW A=>by simp[(c1.below A).ptr.cell]) rfl rfl rfl rfl (Gk rfl (Gf gc 4 rfl rfl (Gc (.int .i64 c.f) (λW A=>by simp[(c1.below A).blk.cell,kN]) rfl rfl rfl rfl (Gk rfl (Gk rfl (Gf b 0 rfl rfl (Gf b 7 rfl rfl (Gf b 7 rfl rfl (Gc (.slice H.ai H.fi.length H.ci) (λW A=>by simp[(k1.below A).blk.cell,bS]) rfl rfl rfl rfl (Gn rfl rfl rfl rfl (Gb (.bool false) (by simp[go_sem,e5]) rfl rfl rfl rfl rfl (aH)) (underlying39)))))))))))) (λ_=>rfl) rfl ?_;intro y N l _;have k1:=k1.below l;have c1:=c1.below l;have C:=C.ext l;have J:=J.below l;have j:=j.below l;have d:=bY d l;have hf:=ae (aX hf.out l.size);clear l;have ko:IntKind.i64.wrap (D+c.n)=D+c.n:=dz _ (by omega);obtain⟨X,hJ⟩:∃X:Ar,X=⟨D,D+c.n,c.rd,c.wr,c.sh,c.f,c.b⟩:=⟨_,rfl⟩;rw[<-hJ]at o;have ks:Hid (lW X=#[.int .i64 D,.int .i64 (D+c.n),.bool c.rd,.bool c.wr,.bool c.sh,.int .i64 c.f,.int .i64 c.b]):=ae (by rw[hJ];rfl);clear hJ;go_upto_region 11 with(fail);refine gX 39 [_,_,_,.v (.slice PP.aa PP.ar.length PP.ac),_,_,_,_,_,_,_,_,_,_,_,_,_,_,_,_,_,_,_,_,_,_,_,_,_,_,_,.v (.agg (lW X)),.r 32 ((tJ N.heap.size 94 7 (jl PP.ar X).length ((jl PP.ar X).flatMap fZ) (oH PP.ar X))),.r 33 ((tJ N.heap.size 94 7 (jl PP.ar X).length ((jl PP.ar X).flatMap fZ) (oH PP.ar X))),.r 34 ((il N.heap.size 94 7 (jl PP.ar X).length ((jl PP.ar X).flatMap fZ))),.v (.int .i64 (oH PP.ar X)),.r 36 ((fu N.heap.size 71 1)),.y 37 ((aaP 36 N.heap.size 71 (il N.heap.size 94 7 (jl PP.ar X).length ((jl PP.ar X).flatMap fZ)))),.v (.int .i64 (oH PP.ar X))] (λW=>Below N.heap.size N W) bH (Below.refl _ _) (Yk bH rfl (Yk bH rfl (Yf bH gs (os+P*10+1) rfl rfl (aj ?_ (Yk bH rfl (Yk bH rfl (Yc bH (.pointer (some ⟨gc,0,none⟩)) (λW A=>by simp[(c1.below A).ptr.cell]) rfl rfl rfl rfl (Yk bH rfl (Yf bH gc 3 rfl rfl (Yc bH (.int .i64 c.n) (λW A=>by simp[(c1.below A).blk.cell,kN]) rfl rfl rfl rfl (Yb bH (.int .i64 (D+c.n)) (by simp[go_sem,ko]) rfl rfl rfl rfl rfl (Yc bH (.pointer (some ⟨gc,0,none⟩)) (λW A=>by simp[(c1.below A).ptr.cell]) rfl rfl rfl rfl (Yk bH rfl (Yf bH gc 6 rfl rfl (Yc bH (.bool c.rd) (λW A=>by simp[(c1.below A).blk.cell,kN]) rfl rfl rfl rfl (Yc bH (.pointer (some ⟨gc,0,none⟩)) (λW A=>by simp[(c1.below A).ptr.cell]) rfl rfl rfl rfl (Yk bH rfl (Yf bH gc 7 rfl rfl (Yc bH (.bool c.wr) (λW A=>by simp[(c1.below A).blk.cell,kN]) rfl rfl rfl rfl (Yc bH (.pointer (some ⟨gc,0,none⟩)) (λW A=>by simp[(c1.below A).ptr.cell]) rfl rfl rfl rfl (Yk bH rfl (Yf bH gc 8 rfl rfl (Yc bH (.bool c.sh) (λW A=>by simp[(c1.below A).blk.cell,kN]) rfl rfl rfl rfl (Yc bH (.pointer (some ⟨gc,0,none⟩)) (λW A=>by simp[(c1.below A).ptr.cell]) rfl rfl rfl rfl (Yk bH rfl (Yf bH gc 4 rfl rfl (Yc bH (.int .i64 c.f) (λW A=>by simp[(c1.below A).blk.cell,kN]) rfl rfl rfl rfl (Yc bH (.pointer (some ⟨gc,0,none⟩)) (λW A=>by simp[(c1.below A).ptr.cell]) rfl rfl rfl rfl (Yk bH rfl (Yf bH gc 5 rfl rfl (Yc bH (.int .i64 c.b) (λW A=>by simp[(c1.below A).blk.cell,kN]) rfl rfl rfl rfl (aj ?_ (aj ?_ (aj ?_ (aj ?_ (aj ?_ (aj ?_ (aj ?_ (Yk bH rfl (aH)))))))))))))))))))))))))))))))))))))))) (λ_=>rfl) rfl ?_
  ·intro ρ y W I Y A K;refine fw A (fQ (.slice PP.aa PP.ar.length PP.ac)) ?_;have kJ:=I 80 2 rfl;have h2:y 2=_:=K 2 rfl;have hs:=Mf (J.below A);refine ak (.slice PP.aa PP.ar.length PP.ac) (by simp[execOp,go_sem,bJ,kJ,h2,hs])
  ·intro ρ y W I Y A K;refine fw A (fQ (.agg (lW X))) ?_;have kH:=I 82 4 rfl;have h4:y 4=_:=K 4 rfl;have kG:=I 88 10 rfl;have kD:y 10=_:=K 10 rfl;have kF:=I 92 14 rfl;have kC:y 14=_:=K 14 rfl;have kE:=I 96 18 rfl;have kB:y 18=_:=K 18 rfl;have kn:=I 100 22 rfl;have kA:y 22=_:=K 22 rfl;have km:=I 104 26 rfl;have kz:y 26=_:=K 26 rfl;have kl:=I 108 30 rfl;have ky:y 30=_:=K 30 rfl;have kg:=ks.out;refine ak (.agg (lW X)) (by simp[execOp,go_sem,bJ,kH,h4,kG,kD,kF,kC,kE,kB,kn,kA,km,kz,kl,ky,kg])
  ·intro ρ y W I Y A K;refine fw A ((tJ N.heap.size 94 7 (jl PP.ar X).length ((jl PP.ar X).flatMap fZ) (oH PP.ar X))) ?_;have kI:=I 81 3 rfl;have h3:y 3=_:=K 3 rfl;have kk:=I 109 31 rfl;have kx:y 31=_:=K 31 rfl;have EF:=eF0 Y λ_=>trivial;refine aL (aW rfl (EF _) func146 (by simp only[bU,bM,bP,kI,h3,kk,kx,EF];rfl)) ?_;refine(YM PP.ar X PP.aa PP.ac W (j.below A).ars).mono ?_;rintro r W3 ⟨u,rfl,ho,z⟩;exact⟨_,rfl,z,u,rfl,ho.mono A.size⟩
  ·intro ρ y W I Y A K;refine fw A ((tJ N.heap.size 94 7 (jl PP.ar X).length ((jl PP.ar X).flatMap fZ) (oH PP.ar X))) ?_;have kj:=I 110 32 rfl;have kw:=K 32 rfl;refine ak _ (run_move (.inl rfl) kj) (m:=?_);exact kw
  ·intro ρ y W I Y A K;refine fw A ((il N.heap.size 94 7 (jl PP.ar X).length ((jl PP.ar X).flatMap fZ))) ?_;have hO:=I 77 33 rfl;have hN:=K 33 rfl;obtain⟨u,hu,ho⟩:=hN;refine ak u (by simp[execOp,go_sem,bJ,hO,hu]) (m:=?_);exact ho
  ·intro ρ y W I Y A K;refine fw A (fQ (.int .i64 (oH PP.ar X))) ?_;have hO:=I 77 33 rfl;have hN:=K 33 rfl;obtain⟨u,hu,ho⟩:=hN;refine ak (.int .i64 (oH PP.ar X)) (by simp[execOp,go_sem,bJ,hO,hu])
  ·intro ρ y W I Y A K;refine fw A ((fu N.heap.size 71 1)) ?_;refine gM (.pointer (some ⟨W.heap.size,0,none⟩)) (ag) (by simp[execOp,go_sem,bJ]) ((Below.refl _ _).alloc (aC _) (.cells #[.slice none 0 0] 71)) ?_;exact⟨_,_,rfl,A.size,aK.new _ _ _,rfl⟩
  ·intro ρ y W I Y A K;have E7:=I 7 36 rfl;have ku:=K 36 rfl;have ki:=I 111 34 rfl;have kv:=K 34 rfl;have hm:Own W N.heap.size 94 7 (y 34) _ _:=kv;obtain⟨a3,c3,e3,_⟩:=Own.rd hm;obtain⟨g3,cur3,e9,ka,hj,hU⟩:=ku;refine jT _ _ _ g3 0 (.slice a3 (jl PP.ar X).length c3) [.slice a3 (jl PP.ar X).length c3] (E7.trans e9) (ki.trans e3) rfl cur3 _ hj (by rw[hU];exact aC _) asl_size (λu hu=>by cases bF.1 hu;rfl) ?_;intro w2 hG hi;rw[show[Value.slice a3 (jl PP.ar X).length c3]=(#[Value.slice a3 (jl PP.ar X).length c3]:Array Value).toList from rfl,eT cur3 _ (by rw[hU];rfl)]at hG;rw[e3]at hm;refine⟨A.grown hi A.size (λk hk=>by cases hk;exact ka),⟨g3,_,e9,ka,hG,aA hm hj hi⟩,?_⟩;intro k hk kq
   match k,hk,kq with
   | 0,_,_|1,_,_|2,_,_|3,_,_|4,_,_|5,_,_|6,_,_|7,_,_|8,_,_|9,_,_|10,_,_|11,_,_|12,_,_|13,_,_|14,_,_|15,_,_|16,_,_|17,_,_|18,_,_|19,_,_|20,_,_|21,_,_|22,_,_|23,_,_|24,_,_|25,_,_|26,_,_|27,_,_|28,_,_|29,_,_|30,_,_|31,_,_=>exactλh=>h
   | 32,_,_|33,_,_=>exactλ⟨u,q1,q2⟩=>⟨u,q1,aA q2 hj hi⟩
   | 34,_,_=>exactλq=>aA q hj hi
   | 35,_,_=>exactλh=>h
   | 36,_,_=>exactλq=>iY q hG ⟨_,hj⟩ hi
   | 37,_,h=>exact absurd rfl h
   | 38,_,_=>exactλh=>h
   | n+39,h,_=>exact absurd h (by omega)
  intro y W5 s ha;replace s:Below N.heap.size N W5:=s;have kQ:((tJ N.heap.size 94 7 (jl PP.ar X).length ((jl PP.ar X).flatMap fZ) (oH PP.ar X))).r (y 32) W5:=ha 32 (by decide);have kP:((tJ N.heap.size 94 7 (jl PP.ar X).length ((jl PP.ar X).flatMap fZ) (oH PP.ar X))).r (y 33) W5:=ha 33 (by decide);have kO:((il N.heap.size 94 7 (jl PP.ar X).length ((jl PP.ar X).flatMap fZ))).r (y 34) W5:=ha 34 (by decide);have hS:((fu N.heap.size 71 1)).r (y 36) W5:=ha 36 (by decide);have hQ:=ha 37 (by decide);clear ha;simp only[dS,bJ,bM,bP];obtain⟨gl,vl,h8,h9,hD,hI⟩:=hQ;obtain⟨al,cl,rfl,_⟩:=Own.rd hI;rw[h8];have h5:=ae (aX kt.out hf.out);have k1:=k1.below s;have c1:=c1.below s;have C:=C.ext s;have l1:ArB W5 B gl (jl PP.ar X) al cl:=⟨hD,Own.mono hI h5.out⟩;have d:=bY d s;have hT:=ae (aX hf.out s.size);clear s h8 h9 hD hI hS j J;generalize hE:oH PP.ar X=E at *
  by_cases h0:E=0
  ·have S:Hid (vO H.ma P c=(setAr H.ma P (jl PP.ar X),⟨0,D,[]⟩)):=ae (by rw[o.out,if_neg (by rw[h0];simp)]);have hV:=NT (m:=H.ma) c a cap gc w.heap.size gl B P (jl PP.ar X) al cl W5 k1.bs c1 l1 kc (by rw[qm];exact Z);rw[h0];clear hE h0 o l1
   go_wp2_with fail
   refine(DD H _ _ _ B b _ k1 hz.out hV).mono ?_;have kd:zJ ((⟨setAr H.ma P (jl PP.ar X),0⟩,0):Kp × Int)=0:=rfl;rw[kd];rintro r w6 ⟨rfl,ht,H6,k6,hY⟩;have hW : Hid (H6.ma=setAr H.ma P (jl PP.ar X)):=ae hY;have ax6:=C.grown ht (λe=>by cases e;omega);have hB:=nE d ht;have kU:=ae (aX hT.out ht.size);have kV:=ax6.lt;clear hV hY ht C k1 d kd c1
   go_wp2_with (refine aT (eQ 0 0 nilV) ans_size ((bC _ _ _ _ _)) ?_)
   intro w7 hy U;have k7:=k6.below hy;have ax7:=ax6.ext hy;have hA:=bY hB hy;clear k6 ax6 hB hy;have hP:=U.cell;unfold eQ at hP
   go_wp2_with (refine aY w6.heap.size 1 [.int .i64 D] rfl rfl rfl _ _ U (by show 1+1<=3;decide) (by kernel_rfl) (λu hu=>by cases bF.1 hu;rfl) ?_)
   intro w8 kf hq;have zx8:aK w8 w6.heap.size (eQ 0 D nilV) 54:=kf;have ax8:=ax7.grown hq (λe=>by have:=aU e;omega);have k8:lV w8 B b H6:=⟨aG k7.blk U hq,k7.ge,k7.ma.keep U (by decide) hq⟩;have h6:=dE hA hq;clear k7 ax7 U hA hq kf hP
   go_wp2_with (first | (refine ay w6.heap.size 0 (eQ 0 D nilV).toList zx8.rd _ underlying54 rfl ans_size ?_) | (refine ax _ _ (w.heap.size+1) (eQ 0 D nilV) ax8 ans_size ?_))
   intro O G g;have i:=dE h6 g;have R:lV O B b H6:=⟨aG k8.blk ax8 g,k8.ge,k8.ma.keep ax8 (by decide) g⟩;go_wp2;refine bodyPost_ret (v:=.agg (eQ 0 D nilV)) (aP results108 (w.heap.size+1) G underlying54 ans_size) rfl ?_;rw[S.out];exact⟨nilV,rfl,Own.nil _ _ _ _,i,H6,R,hW.out⟩
  have S:Hid (vO H.ma P c=(H.ma,iV E)):=ae (by rw[o.out,if_pos h0]);clear hE o l1
  go_wp2_with (refine ax _ _ (w.heap.size+1) (eQ E 0 nilV) C ans_size ?_)
  intro O G g;have i:=dE d g;have R:lV O B b H:=⟨aG k1.blk C g,k1.ge,k1.ma.keep C (by decide) g⟩;go_wp2;refine bodyPost_ret (v:=.agg (eQ E 0 nilV)) (aP results108 (w.heap.size+1) G underlying54 ans_size) rfl ?_;rw[S.out];exact⟨nilV,rfl,Own.nil _ _ _ _,i,H,R,rfl⟩
theorem int_size1:(Tryz.prog.info? 3).map (·.size)=some 1:=by kernel_rfl
theorem OX.blk{x:Nat}(h:OX w w' b gx)(k:aK w x cs T)(t:x≠b)(q:x≠gx):aK w' x cs T:=(h.block x k.lt t q).trans k
theorem Rv{z x y:Value}(m:World->Prop)(t:aK w b #[u,v,z] T)(h:∀W,w.grownBy W (some b)->aK W b #[u,x,y] T->m W):m ((w.setCell ⟨b,1,none⟩ x).setCell ⟨b,2,none⟩ y).drew:=by
 have q:=aD w b 1 [x,y];have A:aK (w.setCells b 1 [x,y]) b (dO #[u,v,z] 1 [x,y]) T:=t.setCells [x,y] 1;exact h _ ⟨q.os,q.tape,q.output,q.size,q.block⟩ A
theorem JD{o:Nat}(h:eD w (some ⟨b,o,none⟩) vs)(q:vs[k]?=some u):w.cell? ⟨b,o+k,none⟩=some u:=by
 obtain⟨A,z,e,t⟩:=h k u q;cases e;exact t
theorem TL(H:MH)(c:Cl)(a:Option Addr)(cap gc B b:Nat)(w:World)(h:lV w B b H)(hR:Rt H.ma)(hC:Co H.ma)(hc:aK w gc (kN c a cap) 25)(hrd:∀W,Below B w W->eD W a (c.da.map nD))(hle:c.da.length<=cap)(hmx:cap<=maxLen)(hnl:a=none->cap=0)(hf:0<=c.f/\c.f<H.ma.st.fs.length) :
  Calls Tryz.prog 114 #[.pointer (some ⟨b,0,none⟩),.pointer (some ⟨gc,0,none⟩)] w (Zh w B b (vg H.ma c)):=by
 have hz:=ae (sK hR);have kf:=ae hR;have kh:=ae hC;have kl:=h.blk.lt;have hJ:=iK hR.pt.st hf;clear hR hC;go_enter func114,ntmps114;go_upto_region 1 with(fail);refine uY (λW=>Code.wp _ _ _ _ W) λw1 hj px1 E kb => ?_;have k1:=h.below hj;have c1:Pm w1 B gc w.heap.size c a cap:=⟨hc.ext hj,px1,k1.bs,λW k=>hrd W (dI (hj.mono h.bs) k),hle,hmx,hnl⟩;have q:w.grownBy w1 (some b):=Ce hj;have km:=ae h.bs;clear h hc hrd px1 hj kb;have hK:=c1.ptr.cell;have l:=c1.cell;unfold kN at l
 by_cases hlo:c.a<0
 ·have hX:Hid (vg H.ma c=(H.ma,iV 3)):=ae (by unfold vg;rw[if_pos (.inl hlo)])
  go_wp2_with (refine ax _ _ (w.heap.size+1) (eQ 3 0 nilV) E ans_size ?_)
  intro X I g;have i:=dE q g;have Z:lV X B b H:=⟨aG k1.blk E g,k1.ge,k1.ma.keep E (by decide) g⟩;go_wp2;refine bodyPost_ret (v:=.agg (eQ 3 0 nilV)) (aP results114 (w.heap.size+1) I underlying54 ans_size) rfl ?_;rw[hX.out];exact⟨nilV,rfl,Own.nil _ _ _ _,i,H,Z,rfl⟩
 by_cases hhi:c.n<0
 ·have hX:Hid (vg H.ma c=(H.ma,iV 3)):=ae (by unfold vg;rw[if_pos (.inr hhi)])
  go_wp2_with (refine ax _ _ (w.heap.size+1) (eQ 3 0 nilV) E ans_size ?_)
  intro X I g;have i:=dE q g;have Z:lV X B b H:=⟨aG k1.blk E g,k1.ge,k1.ma.keep E (by decide) g⟩;go_wp2;refine bodyPost_ret (v:=.agg (eQ 3 0 nilV)) (aP results114 (w.heap.size+1) I underlying54 ans_size) rfl ?_;rw[hX.out];exact⟨nilV,rfl,Own.nil _ _ _ _,i,H,Z,rfl⟩
 obtain⟨S,hS⟩:∃S:Nat,(az H.ma.st c.f).n=S:=⟨(az H.ma.st c.f).n.toNat,by have:=hJ.1;omega⟩;obtain⟨C,t⟩:∃C:Nat,uI S c=C:=⟨(uI S c).toNat,by unfold uI;omega⟩;obtain⟨T,hT⟩:∃T:Nat,toC S c=T:=⟨(toC S c).toNat,by unfold toC;omega⟩;have hX:Hid (vg H.ma c=NP H.ma ((jD c.f T 13 ⟨H.ma,0⟩ C []).1,(jD c.f T 13 ⟨H.ma,0⟩ C []).2.1) (jD c.f T 13 ⟨H.ma,0⟩ C []).2.2.length (jD c.f T 13 ⟨H.ma,0⟩ C []).2.2):=ae (by unfold vg;rw[if_neg (by omega)];simp only;rw[hS,hT,t]);have kk:S<=96:=by have:=hJ.2.1;omega
 have hq:Hid (C<=T/\T<=S):=ae (by unfold uI at t;unfold toC at hT;omega);obtain⟨F,hF⟩:∃F:Nat,c.f=F:=⟨c.f.toNat,by omega⟩;have hL:F<H.fi.length:=by have e1:H.ma.st.fs.length=H.fi.length:=fE _;omega
 obtain⟨p,hp⟩:∃p,H.fi[F]?=some p:=⟨_,aM hL⟩;have hO:p.n=S:=by
  have:az H.ma.st (F:Int)=p.fi:=by unfold az;rw[if_pos (by omega)];show(H.fi.map PF.fi).getD F ⟨0,[]⟩=p.fi;rw[bA,iH,hp];rfl
  have e:(az H.ma.st (F:Int)).n=p.n:=by rw[this];rfl
  rw[<-e,<-hF];exact hS
 obtain⟨bf,of,hY,z⟩:=oU lC k1.ma.rd.st.rd F hL;rw[show H.fi[F]=p from(dw.1 hp).2]at z;have hD:=ae hY;have h1:=ae hF;have x : Hid (∀W,Below w1.heap.size w1 W->W.cell? ⟨bf,of+F*2,none⟩=some (.int .i64 (S:Int))):=ae (λW D=>by have:=JD (z.below D) (k:=0) (u:=.int .i64 p.n) rfl;rw[hO]at this;simpa using this);clear hp hO z hY hJ;rw[hF]at l;clear hF;go_upto_region 3 with(fail);refine aR 14 [_,_,_,_,_,_,_,_,_,_,_,_,_,.v (.int .i64 (S:Int))] (Gk rfl (Gk rfl (Gf b 0 rfl rfl (Gf b 7 rfl rfl (Gf b 7 rfl rfl (Gc (.slice (some ⟨bf,of,none⟩) H.fi.length H.ci) (λW D=>by simp[(k1.below D).blk.cell,bS,hD.out]) rfl rfl rfl rfl (Gc (.pointer (some ⟨gc,0,none⟩)) (λW D=>by simp[(c1.below D).ptr.cell]) rfl rfl rfl rfl (Gk rfl (Gf gc 4 rfl rfl (Gc (.int .i64 (F:Int)) (λW D=>by simp[(c1.below D).blk.cell,kN,h1.out]) rfl rfl rfl rfl (Gr (.pointer (some ⟨bf,of+F*2,none⟩)) (λρ y W D hZ=>(ed rfl (bi rfl hZ) (bi rfl hZ) hL underlying39 file_size)) rfl rfl (Gf bf (of+F*2) rfl rfl (Gc (.int .i64 (S:Int)) (λW D=>by simp[x.out W D]) rfl rfl rfl rfl (Gk rfl (aH))))))))))))))) (λ_=>rfl) rfl ?_;intro y W2 j _;have k2:=k1.below j;have c2:=c1.below j;have ax2:=E.ext j;have hB:=bY q j;have h6:Hid (w.heap.size+2<=W2.heap.size):=ae ax2.lt;clear k1 c1 E q j x hD hK l;have hK:=c2.ptr.cell;have l:=c2.cell;unfold kN at l;rw[h1.out]at l;go_upto_region 5 with(fail);refine iP (λW=>Code.wp _ _ _ _ W) λw3 hi J ka => ?_;have kd:(if(S:Int)<c.a then(S:Int)else c.a)=(C:Int):=by unfold uI at t;rw[<-t];split<;>omega
 rw[kd]at J;have hs:(C:Int)+(if(S:Int)-C<c.n then(S:Int)-C else c.n)=(T:Int):=by unfold toC at hT;unfold uI at t;rw[<-hT,t];split<;>omega
 have k3:=k2.below hi;have c3:=c2.below hi;have ax3:=ax2.ext hi;have hA:=bY hB hi;generalize W2.heap.size=gf at J h6;clear k2 c2 ax2 hB ka hK l hi;obtain⟨M,hM⟩:∃M:Int,(if(S:Int)-C<c.n then(S:Int)-C else c.n)=M:=⟨_,rfl⟩;rw[hM]at hs;have kg:=ae hM;clear hM;have h8:IntKind.i64.wrap ((S:Int)-C)=(S:Int)-C:=dz _ (by have:=hq.out;omega);have h5:IntKind.i64.wrap (T:Int)=(T:Int):=dz _ (by have:=hq.out;omega);refine aR 11 [_,_,_,_,_,_,_,_,.v (.int .i64 M),_,.r 10 ((fu w3.heap.size 3 1))] (Gl J rfl rfl rfl rfl rfl (Gc (.pointer (some ⟨gc,0,none⟩)) (λW D=>by simp[(c3.below D).ptr.cell]) rfl rfl rfl rfl (Gk rfl (Gf gc 3 rfl rfl (Gc (.int .i64 c.n) (λW D=>by simp[(c3.below D).blk.cell,kN]) rfl rfl rfl rfl (Gk rfl (Gl J rfl rfl rfl rfl rfl (Gb (.int .i64 ((S:Int)-C)) (by simp[go_sem,h8]) rfl rfl rfl rfl rfl (aj ?_ (Gb (.int .i64 (T:Int)) (by simp[go_sem,hs,h5]) rfl rfl rfl rfl rfl (aj ?_ (aH)))))))))))) (λ_=>rfl) rfl ?_
 ·intro ρ y W hw hn D hd;have kj:=hw 46 4 rfl;have h4:y 4=_:=hd 4 rfl;have ki:=hw 49 7 rfl;have h7:y 7=_:=hd 7 rfl;refine ak (.int .i64 M) (by simp[execOp,go_sem,kj.trans h4,ki.trans h7,kg.out])
 ·intro ρ y W hw hn D hd;refine gM (.pointer (some ⟨W.heap.size,0,none⟩)) (ag) (by simp[execOp,go_sem]) ((Below.refl _ _).alloc (aC _) (.cells #[.int .i64 0] 3)) ?_;exact⟨_,_,rfl,D.size,aK.new _ _ _,rfl⟩
 intro y W4 hg hE;have hN:((fu w3.heap.size 3 1)).r (y 10) W4:=hE 10 (by decide);clear hE;obtain⟨gt,cur,e10,hU,hW,hG⟩:=hN;rw[e10];refine aY gt 0 [.int .i64 (T:Int)] rfl rfl rfl _ _ hW (by rw[hG];exact aC _) int_size1 (λu hu=>by cases bF.1 hu;rfl) ?_;intro w5 Y hV;rw[show[Value.int .i64 (T:Int)]=(#[Value.int .i64 (T:Int)]:Array Value).toList from rfl,eT cur _ (by rw[hG];rfl)]at Y;have s:Below w3.heap.size w3 w5:=hg.grown hV hg.size (λk hk=>by cases hk;exact hU);have k5:=k3.below s;have c5:=c3.below s;have ax5:=ax3.ext s;have fx5:=J.ext s;have hy:=bY hA s;clear k3 c3 ax3 J hA s hg hW hV hG e10 hU;go_upto_region 7 with(fail);refine iP (λW=>Code.wp _ _ _ _ W) λw6 m G h9 => ?_;have k6:=k5.below m;have c6:=c5.below m;have ax6:=ax5.ext m;have fx6:=fx5.ext m;have tx6:=Y.ext m;have hx:=bY hy m;have hm:Hid (w.heap.size+2<=w5.heap.size):=ae ax5.lt;clear k5 c5 ax5 fx5 Y hy m h9;generalize w5.heap.size=gx at G hm;have G:aK w6 gx #[nilV] 23:=G;have hP:=Uv kf.out kh.out c a cap gc w.heap.size gf gt gx C T B w6 k6.bs c6 fx6 tx6 G hf hq.out.1 (by rw[hS];have:=hq.out.2;omega)
 go_wp2_with fail
 refine(Ke H _ _ _ B b gx _ _ k6 hz.out G hP).mono ?_;rintro r w7 ⟨rfl,hI,⟨H7,k7,hQ⟩,d,R⟩;have hr:=ae hQ;have hv:w.grownBy w7 (some b):=OX.gr hx hI (by have:=hm.out;omega);have ax7:=hI.blk ax6 (by omega) (by have:=hm.out;omega);have R:=R.mono (aX (vI (jq (by have:=hm.out;omega) (vI G.lt))) (aC _):w.heap.size<=w6.heap.size);generalize hRR:jD c.f T 13 ⟨H.ma,0⟩ C []=RR at *
 clear hP hQ hI ax6 k6 c6 fx6 tx6 G hx hRR
 go_wp2_with (refine aT (eQ (zJ (RR.1,RR.2.1)) 0 nilV) ans_size ((bC _ _ _ _ _)) ?_)
 intro w8 hh A;have k8:=k7.below hh;have N:=ax7.ext hh;have K:=R.below hh;have o:=bY hv hh;have hH:Hid (w.heap.size+2<=w7.heap.size):=ae ax7.lt;clear k7 ax7 R hv hh;generalize w7.heap.size=gz at A hH;have hl:=A.cell;unfold eQ at hl
 by_cases h0:zJ (RR.1,RR.2.1)=0
 ·rw[h0]at hl;obtain⟨ad,cd,rfl,_⟩:=K.own.rd;have kc:=K.blk.cell;have h3:w8.frozen? ⟨gz,1,none⟩=false:=A.free _;have h2:w8.frozen? ⟨gz,2,none⟩=false:=A.free _;go_upto_region 9 with(fail)
  go_region
  rw[h0]at A;have A:aK w8 gz #[.int .i64 0,.int .i64 0,nilV] 54:=A;refine Rv (λW=>Exit.then _ _ _ _ W) A λw9 ha O => ?_;have O:aK w9 gz (eQ 0 (RR.2.2.length:Int) (.slice ad RR.2.2.length cd)) 54:=O;have k9:=k8.keepT A (by decide) (by decide) ha;have ou9:=K.keep A (by decide) (by decide) ha;have U:=N.grown ha (λe=>by have:=aU e;have:=hH.out;omega);have ht:=dE o ha (z:=(by have:=hH.out;omega));clear k8 N K o ha A hl kc h3 h2
  go_wp2_with (first | (refine ay gz 0 (eQ 0 (RR.2.2.length:Int) (.slice ad RR.2.2.length cd)).toList O.rd _ underlying54 rfl ans_size ?_) | (refine ax _ _ (w.heap.size+1) (eQ 0 (RR.2.2.length:Int) (.slice ad RR.2.2.length cd)) U ans_size ?_))
  intro X I g;have i:=dE ht g;have Z:lV X B b H7:=k9.keepT U (by decide) (by decide) g;have oue:=ou9.keep U (by decide) (by decide) g;clear k9 U ou9 ht g O;go_wp2;refine bodyPost_ret (v:=.agg (eQ 0 (RR.2.2.length:Int) (.slice ad RR.2.2.length cd))) (aP results114 (w.heap.size+1) I underlying54 ans_size) rfl ?_;obtain⟨x1,V⟩:=Pe H.ma (RR.1,RR.2.1) RR.2.2.length RR.2.2;rw[if_pos h0]at V;rw[hX.out];exact⟨_,by rw[V],by rw[V];exact oue.own,i,H7,Z,by rw[x1];exact hr.out⟩
 go_wp2_with (first | (refine ay gz 0 (eQ (zJ (RR.1,RR.2.1)) 0 nilV).toList A.rd _ underlying54 rfl ans_size ?_) | (refine ax _ _ (w.heap.size+1) (eQ (zJ (RR.1,RR.2.1)) 0 nilV) N ans_size ?_))
 intro X I g;have i:=dE o g;have Z:lV X B b H7:=k8.keepT N (by decide) (by decide) g;clear k8 N K o g A hl;go_wp2;refine bodyPost_ret (v:=.agg (eQ (zJ (RR.1,RR.2.1)) 0 nilV)) (aP results114 (w.heap.size+1) I underlying54 ans_size) rfl ?_;obtain⟨x1,V⟩:=Pe H.ma (RR.1,RR.2.1) RR.2.2.length RR.2.2;rw[if_neg h0]at V;rw[hX.out];exact⟨_,by rw[V];rfl,by rw[V];exact Own.nil _ _ _ _,i,H7,Z,by rw[x1];exact hr.out⟩
theorem TT(h:aQ s=0)(q:uS s≠0):0<=fT s:=by
 by_cases t:fT s<0
 ·exact absurd (Pi h t) q
 ·omega
def abr(m:Ma)(f:Nat):Bool:=(aF m f).d&&jQ m f
def WB(m:Ma):Option Nat:=(List.range m.m.fs.length).find? (abr m)
theorem yO{α:Type}(q:α->Bool):∀(l:List α) (i:Nat) (h:i<l.length) (x:α),q l[i]=true->q x=false->(l.set i x).countP q+1=l.countP q
 | a::l,0,_,x,h1,h2=>by simp only[Cb]at h1;rw[qV,qN,qN,h1,h2];simp
 | a::l,i+1,h,x,h1,h2=>by rw[rf,qN,qN];have:=yO q l i (by simpa using h) x (by simpa using h1) h2;omega
theorem Vl{α:Type}(q:α->Bool){l l' : List α}(A:l'.length=l.length)(i:Nat)(C:i<l.length)(h:∀j (z:j<l.length) (t:j<l'.length),j≠i->q l'[j]=q l[j])(z:q l[i]=false)(t:q (l'[i]'(by omega))=true):l'.countP q=l.countP q+1:=by
 have I:l'.countP q=(l.set i (l'[i]'(by omega))).countP q:=by
  refine Dy q (by simp[A]) λj E D => ?_
  by_cases e:j=i
  ·subst e;simp
  rw[KI (by omega)];exact h j (by simpa using E) D e
 have G:=yO q (l.set i (l'[i]'(by omega))) i (by simpa using C) l[i] (by simpa using t) z;rw[pO,List.set_getElem_self]at G;omega
theorem Qg{o:Option Nat}(h:zI m m' o):KA m'.m.fs=KA m.m.fs+if o=none then 0 else 1:=by
 have a:∀i (t:i<m.m.fs.length) (q:i<m'.m.fs.length),o≠some i->decide (m'.m.fs[i].r=0)=decide (m.m.fs[i].r=0):=λi t q D=>by have C:=(h.fr i D).2.1;rw[BS t,BS q]at C;rw[C]
 cases o with
 | none=>
  rw[if_pos rfl];exact Dy _ h.len λi t q=>a i t q (by simp)
 | some f=>
  rw[if_neg (by simp)];obtain⟨k1,A,z⟩:=h.free f rfl;have b : f<m'.m.fs.length:=by rw[h.len];exact k1
  refine Vl _ h.len f k1 (λj t q E=>a j t q (λe=>E (aU e).symm)) ?_ ?_
  ·rw[BS k1]at z;exact decide_eq_false z
  rw[BS b]at A;rw[A];rfl
theorem DL(z:Rt m)(A:Co m):(cZ ⟨m,0⟩).1.e=0/\Rt (cZ ⟨m,0⟩).1.m/\Co (cZ ⟨m,0⟩).1.m/\Aj m (cZ ⟨m,0⟩).1.m/\KA (cZ ⟨m,0⟩).1.m.m.fs=KA m.m.fs+if(cZ ⟨m,0⟩).2=true then 1 else 0:=by
 obtain⟨t,o,h,q⟩:=wN (k:=⟨m,0⟩) z A;refine⟨t,h.rt,h.co,h.vis,?_⟩;rw[Qg h];cases o with
 | none=>rw[if_pos rfl,if_neg (λe=>(q.1 e) rfl)]
 | some f=>rw[if_neg (by simp),if_pos (q.2 (by simp))]
end Go.Proofs.YthihaopabbpalaaGreat