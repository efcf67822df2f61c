import Derived.Test.YthihaopabbpalaaGreatX6
set_option linter.unusedSimpArgs false
set_option linter.unusedVariables false
set_option linter.unnecessarySimpa false
set_option maxHeartbeats 4000000
set_option maxRecDepth 100000
namespace Go.Proofs.YthihaopabbpalaaGreat
open _root_.Go.Proofs.Tryz
open Go.RowKit Go.Maps Pw
variable {A B B' F I b bl c ct f fr ga i j p q rb rx sl sz:Nat} {H S:MH} {L:Nat -> Bool} {M m m':Ma} {P:Program} {T ty tz:TypeId} {W W' w w' w1 w2:World} {a:Option Addr} {cs:Array Value} {e n:Int} {s:St} {u v:Value} {vs ys:List Value} {wr:Bool} {y:Nat -> Value}
def EvR(H:MH)(w:World)(r:Ending)(w' : World):Prop:=Below w.heap.size w w'/\∃H' : MH,r = .returned (.tuple #[.agg (bS H'),.bool (cZ ⟨H.ma,0⟩).2,.int .i64 0])/\qp w' w.heap.size H'/\H'.ma=(cZ ⟨H.ma,0⟩).1.m
theorem Px(H:MH)(w:World)(h:Dk w H)(U:Rt H.ma)(hC:Co H.ma) :
  Calls Tryz.prog 119 #[.agg (bS H)] w (EvR H w):=by
 have hT:=ae (DL U hC);have hf:=ae U;have hg:=ae hC;have p:=ae (sK U);clear U hC;go_enter func119,ntmps119;go_upto_region 1 with(fail);refine uY (λW=>Code.wp _ _ _ _ W) λw1 o k C y => ?_;have k:aK w1 w.heap.size (bS H) 45:=k;have C:aK w1 (w.heap.size+1) (bS noH) 45:=C;have h1:=h.below o;clear h
 go_wp2_with (refine ay w.heap.size 0 _ k.rd _ underlying45 rfl machine_size ?_)
 refine(rQ H _ h1).mono ?_;rintro r w2 ⟨rfl,f⟩;rw[Cq.2 hf.out];have h2:=h1.below f;have O:=k.ext f;have J:=C.ext f;have d:=ah o f;clear h1 k C o f y
 go_wp2_with (refine ay w.heap.size 0 _ O.rd _ underlying45 rfl machine_size ?_)
 refine(nA H _ h2 p.out).mono ?_;rintro r w3 ⟨V,rfl,s,a,_,n⟩;have ha:=ae a;have g:Hid (PK V.ma):=ae (by rw[a];exact p.out);have G:=J.ext n;have c:=ah d n;clear O J h2 a;unfold bS;go_upto_region 5 with(fail);refine iP (λW=>Code.wp _ _ _ _ W) λw4 i K x => ?_;have N:iw w4 w.heap.size w3.heap.size V 0:=⟨K,c.size,(s.mono d.size).below i,λq hq=>(PK.spz (H:=V) g.out hq).2⟩;have E:=G.ext i;have l:=ah c i;clear n i s d K x G c;generalize w3.heap.size=b at N
 go_wp2_with fail
 refine(Bt V 0 w.heap.size b _ N (by have:=g.out.sp.1;rwa [qm]at this) g.out.ca g.out.fs).mono ?_;rintro r w5 ⟨rfl,Q,e5,Z,X,R⟩;rw[ha.out]at R ⊢;have hc:e5=0:=by have:=congrArg Kp.e R;exact this.trans hT.out.1
 subst hc;have hb:Hid (Q.ma=(cZ ⟨H.ma,0⟩).1.m):=ae (congrArg Kp.m R);have D:=X.blk N E machT;have j:=dI l (X.to N (aC _));clear R X N E l;generalize hok:(cZ ⟨H.ma,0⟩).2=ok;have hok:=ae hok;have hd:=Z.blk.cell;unfold lm at hd
 go_wp2_with (first | (refine ay b 0 (bS Q).toList (cK Z.blk 0 11) _ underlying45 rfl machine_size ?_) | (refine ax _ _ (w.heap.size+1) (bS Q) D mach_size (G:=dQ _) ?_))
 intro w7 Y t;have u:=j.grown t j.size oG0;have z:=Z.ma.keep D (by decide) t;go_wp2;refine bodyPost_ret (v:=.tuple #[.agg (bS Q),.bool ok,.int .i64 0]) (bX results119 (w.heap.size+1) Y underlying45 mach_size) rfl ?_;exact⟨u,Q,by rw[hok.out],z,hb.out⟩
def Pd(m:Ma):Ma:=match WB m with
 | none=>m
 | some f=>(kI ⟨m,0⟩ f).m
def ClR(H:MH)(w:World)(r:Ending)(w' : World):Prop:=Below w.heap.size w w'/\∃H' : MH,r = .returned (.tuple #[.agg (bS H'),.bool (WB H.ma).isSome,.int .i64 0])/\qp w' w.heap.size H'/\H'.ma=Pd H.ma
def Ad(m:Ma)(bits:Int):Ma:={ jF m.m.fs.length m.sl.length m.st.count with dk:=Zu (ZM bits) m.dk,st:=m.st }
def CrR(H:MH)(bits:Int)(w:World)(r:Ending)(w' : World):Prop:=Below w.heap.size w w'/\∃H' : MH,r = .returned (.tuple #[.agg (bS H'),.int .i64 0])/\qp w' w.heap.size H'/\H'.ma=Ad H.ma bits
def Ck(m:Ma)(c:Cl):Ma × An:=if c.k=15 then(Ad m c.n,iV 0)else if c.k=14 then(Pd m,iV 0)else((cZ ⟨m,0⟩).1.m,iV 0)
def Zk(B:Nat)(X:Ma)(e:Int):oW:=⟨λv w => ∃H',v = .tuple #[.agg (bS H'),.int .i64 e]/\qp w B H'/\H'.ma=X,λ_ _ _ hb ⟨H',h1,h2,h3⟩=>⟨H',h1,h2.below hb,h3⟩⟩
def vC(B:Nat)(X:Ma):oW:=⟨λv w => ∃H',v = .agg (bS H')/\qp w B H'/\H'.ma=X,λ_ _ _ hb ⟨H',h1,h2,h3⟩=>⟨H',h1,h2.below hb,h3⟩⟩
def WE(file:Int)(m:Ma)(f:Nat):Option Ma:=if(aF m f).f=file then(if jQ m f=true then some (kI ⟨m,0⟩ f).m else none)else some m
def Zv(file:Int)(m:Ma):Nat->Option Ma
 | 0=>some m
 | f+1=>(Zv file m f).bind λm1=>WE file m1 f
def ZF(m:Ma):Ma:={ m with dk:=Zu (λ_=>true) m.dk }
def Wu(file:Int)(m:Ma):Option Ma:=(Zv file m m.m.fs.length).map ZF
def SyR(file:Int)(H:MH)(w:World)(r:Ending)(w' : World):Prop:=Below w.heap.size w w'/\(match Wu file H.ma with
 | none=>r = .returned (.tuple #[.agg (bS noH),.int .i64 10])
 | some m' => ∃H' : MH,r = .returned (.tuple #[.agg (bS H'),.int .i64 0])/\qp w' w.heap.size H'/\H'.ma=m')
theorem ZL{s:Nat}(g:f<=40)(d:s<=60)(h:ct<=80):Rt (jF f s ct):=by
 rw[<-Vm g d h];have k:=((Fb.start h).bd (f:=f) (s:=s) (by decide) g d).more (s:=⟨true,[],zTb⟩) (by show 0<4;decide) rfl (by decide);exact k.rt
theorem OJ{f s c:Int}(h:(0<=f/\f<=40)/\(0<=s/\s<=60)/\0<=c/\c<=80):jF f s c=⟨yu f,GJ s,wU s,wU c,⟨[],c⟩,[],[⟨true,[],zTb⟩]⟩:=by
 unfold jF;rw[if_pos h]
def Qm(m:Ma)(f:Int):Ma × An:=match Wu f m with
 | none=>(m,iV 10)
 | some m'=>(m',iV 0)
def SQ(m:Ma)(c:Cl):Ma × An:=if c.f<0\/(m.st.fs.length:Int)<=c.f then(m,iV 5)else if c.k=9 then vg m c else if c.k=10 then Pz m c else if c.k=11 then vk m c else Qm m c.f
theorem qp.frPut(h:qp w B H)(D:f<H.m.fs.length) :
  ∃g t z,H.af=some ⟨g,t,none⟩/\B<=g/\aK w g z 66/\t+f*13+13<=z.size/\eD w (some ⟨g,t+f*13,none⟩) (rG (aF H.ma f)) /\
   ∀(o n:Nat) (vs:List Value) (x:Fr) (w' : World),vs.length=n->o+n<=13->rG x=(rG (aF H.ma f)).take o++vs++(rG (aF H.ma f)).drop (o+n)->aK w' g (dO z (t+f*13+o) vs) 66->w.grownBy w' (some g)->qp w' B { H with m:=⟨H.m.fs.set f x,H.m.hand⟩ }:=by
 have p:H.m.fs[f]=aF H.ma f:=by have:H.m.fs[f]?=some (aF H.ma f):=vQ (m:=H.ma) (f:=f) D;rw[aM D]at this;exact aU this
 obtain⟨g,t,cap,z,G,Q,a,i,c⟩:=nS jo rfl h.fr f D;simp only[iW]at G;obtain⟨l,_,s⟩:=G;have e:=h.fr;rw[l]at e;have b:=CW e a;have k:∀j u,(rG (aF H.ma f))[j]?=some u->z[t+f*13+j]?=some u:=λj u E=>by rw[qX];exact b _ _ (flat_get rG 13 jo H.m.fs f D j u (by rw[p];exact E))
 refine⟨g,t,z,l,Q,a,i,λj u E=>⟨g,_,rfl,by rw[a.cell];exact k j u E⟩,λo n vs x w' N R K O C => ?_⟩;have r:aK w' g (dO z (t+f*13) (rG x)) 66:=by
  have U:=jo (aF H.ma f);generalize rG (aF H.ma f)=ys at *
  generalize rG x=xs at *
  rw[zS z (t+f*13) o n ys xs vs k K N (by omega) (by omega)];exact O
 have d:(H.m.fs.set f x).length=H.m.fs.length:=bV;refine⟨?_,aA h.sl a C,h.sw.keep a (by decide) (by decide) C,h.dk.keep a (by decide) (by decide) C,h.st.keep a (by decide) (by decide) C,aA h.ca a C,aA h.sp a C,λq J=>⟨aA (h.ps q J).1 a C,(h.ps q J).2.keep a (by decide) C⟩,h.c64⟩;simp only[d];exact c w' _ r
theorem Za(D:Rt m)(O:Co m)(N:SE m){w:Bool}(G:p<m.sp.length)(K:(bQ m p).lv=true)(o:nR m p n w=0) :
  ∃g,eP m p n=some g/\ZQ m (su m p n w) p n w g (wK m p n w)/\0<=wK m p n w:=by
 rw[LM D G K]at o
 by_cases t:oZ m p n w=0
 ·rw[if_neg (by simpa using t)]at o;have c:0<=fB (bQ m p).ar n:=by
   unfold oZ at t
   by_cases h:fB (bQ m p).ar n<0
   ·rw[if_pos h]at t;cases t
   ·omega
  obtain⟨g,z⟩:∃g,eP m p n=some g:=⟨_,(Ca c).1⟩;obtain⟨a1,a2,X,Z,Y,V,R⟩:=xH z;have a:=(EO z).1 t
  by_cases E:0<=(jY m p n).fi/\copied m p n=false/\qC m.st (jY m p n).fi ((jY m p n).ba+n-(jY m p n).fr)=true
  ·rw[if_pos E]at o;cases o
  rw[if_neg E]at o;have b:0<=g.fi->(aJ m p n).k=0->jk m.st g.fi g.pg:=λJ Q=>by
   refine Ei D.pt.st J (D.pt.pg z).1 (λC => ?_);rcases C with C|C
   ·have:=N.at (p:=p) (n:=n) c;omega
   refine E ⟨by omega,?_,by rw[V,R J];exact C⟩;unfold copied;rw[Q];rfl
  obtain⟨f,d,_⟩:=Ob D O (w:=w) G z (λe=>a.1 e) b
  by_cases C:(mJ m p n w).2<0
  ·rw[if_pos C]at o;cases o
  have U:=d (by omega);refine⟨g,z,?_,by show 0<=(mJ m p (n) w).2;omega⟩;have:=U.mark (e:=(mJ m p n w).1.e) z;unfold su wK;rw[bu,X];exact this
 rw[if_pos t]at o;exact absurd o t
def DY(B:Nat)(X:Ma)(F E:Int):oW:=⟨λv w => ∃H',v = .tuple #[.agg (bS H'),.int .i64 F,.int .i64 E]/\qp w B H'/\H'.ma=X,λ_ _ _ hb ⟨H',h1,h2,h3⟩=>⟨H',h1,h2.below hb,h3⟩⟩
def Zo(k:Nat)(B:Nat)(X:Ma):wD:=⟨λy w => ∃g H',y k = .pointer (some ⟨g,0,none⟩)/\B<=g/\aK w g (bS H') 45/\qp w B H'/\H'.ma=X,[k],
 λ_ _ _ hb ⟨g,H',h1,h2,h3,h4,h5⟩=>⟨g,H',h1,h2,h3.ext hb,h4.below hb,h5⟩,λy y' w h ⟨g,H',h1,h2⟩=>⟨g,H',by rw[<-h k (bF.2 rfl)];exact h1,h2⟩⟩
theorem Gz(H:MH)(c:Cl)(n:Int)(wr:Bool)(a:Option Addr)(cap gc B b:Nat)(w:World)(h:lV w B b H)(hR:Rt H.ma)(hC:Co H.ma)(hFi:SE H.ma)(hc:aK w gc (kN c a cap) 25)(hrd:∀W,Below B w W->eD W a (c.da.map nD))(hle:c.da.length<=cap)(hmx:cap<=maxLen)(hnl:a=none->cap=0)(ha64:iF c.a)
 (P:Nat) (hP:c.p=P) (hpl:P<H.sp.length) (hlv:(bQ H.ma P).lv=true) :
  Calls Tryz.prog 111 #[.pointer (some ⟨b,0,none⟩),.pointer (some ⟨gc,0,none⟩),.int .i64 n,.bool wr] w (Zh w B b (lQ H.ma c n wr)):=by
 have gJ:=ae hR;have gK:=ae hC;have gd:=ae hFi;have kU:=ae hlv;have qq:=ae hP;have qW:=h.blk.lt;clear hR hC hFi hlv hP;go_enter func111,ntmps111;go_upto_region 1 with(fail);refine iP (λW=>Code.wp _ _ _ _ W) λw1 hT U qx => ?_;have k1:=h.below hT;have c1:=hc.ext hT;have hD:w.grownBy w1 (some b):=Ce hT;have ki:=ae h.bs;have k6:=ae hT;have gr:=ae hrd;clear h hc hT qx hrd;have gD:=c1.cell;unfold kN at gD
 go_wp2_with fail
 refine(Od c.a n _).mono ?_;rintro r w2 ⟨rfl,rfl⟩;cases hwi:sW c.a n with
 | false=>
  have hX:Hid (lQ H.ma c n wr=(H.ma,iV 2)):=ae (by unfold lQ;rw[if_pos hwi])
  go_wp2_with (refine ax _ _ w.heap.size (eQ 2 0 nilV) U ans_size ?_)
  intro we Q l;have s:=dE hD l;have ke:lV we B b H:=⟨aG k1.blk U l,k1.ge,k1.ma.keep U (by decide) l⟩;go_wp2;refine bodyPost_ret (v:=.agg (eQ 2 0 nilV)) (aP results111 w.heap.size Q underlying54 ans_size) rfl ?_;rw[hX.out];exact⟨nilV,rfl,Own.nil _ _ _ _,s,H,ke,rfl⟩
 | true=>
  have qS:0<=c.a/\0<=n/\n<=8/\c.a%8<=8-n:=by unfold sW at hwi;simp only[dJ,decide_eq_true_eq]at hwi;omega
  obtain⟨A,hA⟩:∃A:Nat,c.a=A:=⟨c.a.toNat,by omega⟩;have qX:A<=9223372036854775807:=by have:=ha64.2;omega
  have qs:=ae hA;have hX:Hid (lQ H.ma c n wr=if nR H.ma P ((A:Int) / 8) wr≠0 then(H.ma,iV (nR H.ma P ((A:Int) / 8) wr))
    else if zL (su H.ma P ((A:Int) / 8) wr) (aF (su H.ma P ((A:Int) / 8) wr) (wK H.ma P ((A:Int) / 8) wr).toNat) ((A:Int)%8+n)=true then(H.ma,iV 9)
    else if wr=true then(setFr (su H.ma P ((A:Int) / 8) wr) (wK H.ma P ((A:Int) / 8) wr).toNat { aF (su H.ma P ((A:Int) / 8) wr) (wK H.ma P ((A:Int) / 8) wr).toNat with p:=fF (aF (su H.ma P ((A:Int) / 8) wr) (wK H.ma P ((A:Int) / 8) wr).toNat).p ((A:Int)%8) c.da },⟨0,n,[]⟩)
    else(su H.ma P ((A:Int) / 8) wr,⟨0,n,qM (aF (su H.ma P ((A:Int) / 8) wr) (wK H.ma P ((A:Int) / 8) wr).toNat).p ((A:Int)%8) n⟩)):=ae (by
   unfold lQ;rw[hwi,if_neg (by simp),hA,qq.out])
  rw[hA]at gD;clear hA hwi;have qz:(A:Int).tdiv 8=(A:Int) / 8:=by rw[Int.tdiv_eq_ediv_of_nonneg (by omega)]
  have qA:(A:Int).tmod 8=(A:Int)%8:=by rw[Int.tmod_eq_emod_of_nonneg (by omega)]
  have qt:IntKind.i64.wrap ((A:Int) / 8)=(A:Int) / 8:=dz _ (by omega);have qv:IntKind.i64.wrap ((A:Int)%8)=(A:Int)%8:=dz _ (by omega);go_upto_region 3 with(fail);refine gX 12 [_,_,_,_,_,_,_,_,_,_,.v (.int .i64 ((A:Int) / 8)),.v (.int .i64 ((A:Int)%8))] (λW=>Below w1.heap.size w1 W) bH (Below.refl _ _) (Yk bH rfl (Yk bH rfl (Yf bH gc 2 rfl rfl (Yc bH (.int .i64 (A:Int)) (λW G=>by simp[(c1.ext G).cell,kN,qs.out]) rfl rfl rfl rfl (Yb bH (.int .i64 ((A:Int) / 8)) (by simp[go_sem,qz,qt]) rfl rfl rfl rfl rfl (Yk bH rfl (Yk bH rfl (Yf bH gc 2 rfl rfl (Yc bH (.int .i64 (A:Int)) (λW G=>by simp[(c1.ext G).cell,kN,qs.out]) rfl rfl rfl rfl (Yb bH (.int .i64 ((A:Int)%8)) (by simp[go_sem,qA,qv]) rfl rfl rfl rfl rfl (Yk bH rfl (Yk bH rfl (aH))))))))))))) (λ_=>rfl) rfl ?_;intro y W2 hj qo;replace hj:Below w1.heap.size w1 W2:=hj;clear qo;simp only[dS,bJ,bM,bP];have k2:=k1.below hj;have c2:=c1.ext hj;have ax2:=U.ext hj;have gs:=bY hD hj;have kJ:Hid (w.heap.size<=W2.heap.size):=ae (aX k6.out.size hj.size);have k0 : Hid (Below w.heap.size w W2):=ae (dI k6.out (hj.mono k6.out.size));clear k1 c1 U hD hj gD;obtain⟨X,F,E,ga⟩:∃(X:Ma) (F E:Int),Hid ((E=nR H.ma P ((A:Int) / 8) wr/\(E=0->X=su H.ma P ((A:Int) / 8) wr/\F=wK H.ma P ((A:Int) / 8) wr))/\∀W,Below W2.heap.size W2 W->Calls Tryz.prog 19 #[.agg (bS H),.int .i64 P,.int .i64 ((A:Int) / 8),.bool wr] W λr w'=>Below W.heap.size W w'/\∃H',r = .returned (.tuple #[.agg (bS H'),.int .i64 F,.int .i64 E])/\qp w' W.heap.size H'/\H'.ma=X):=by
   by_cases he:nR H.ma P ((A:Int) / 8) wr=0
   ·refine⟨_,_,_,ae ⟨⟨rfl,λ_=>⟨rfl,rfl⟩⟩,λW G=>(LB H P ((A:Int) / 8) wr W (k2.below G).ma.rd gJ.out gK.out gd.out hpl kU.out).mono ?_⟩⟩;rintro r w' ⟨gE,kr⟩;rcases kr with⟨h1,_⟩|⟨_,H',rfl,ho,hm⟩
    ·exact absurd he h1
    ·exact⟨gE,H',by rw[he],ho,hm⟩
   refine⟨zMa,0,_,ae ⟨⟨rfl,λe=>absurd e he⟩,λW G=>(LB H P ((A:Int) / 8) wr W (k2.below G).ma.rd gJ.out gK.out gd.out hpl kU.out).mono ?_⟩⟩;rintro r w' ⟨gE,kr⟩;rcases kr with⟨_,rfl⟩|⟨h1,_⟩
   ·exact⟨gE,noH,rfl,vL _ _,noH_ma⟩
   ·exact absurd h1 he
  go_upto_region 4 with(fail);refine gX 19 [_,_,_,_,_,_,_,_,_,_,.r 10 ((DY W2.heap.size X F E)),.r 11 ((DY W2.heap.size X F E)),.r 12 ((vC W2.heap.size X)),.v (.int .i64 F),.v (.int .i64 E),.r 15 ((fu W2.heap.size 45 11)),.y 16 ((Zo 15 W2.heap.size X)),.v (.int .i64 F),.v (.int .i64 E)] (λW=>Below W2.heap.size W2 W) bH (Below.refl _ _) (Yk bH rfl (Yk bH rfl (Yf bH b 0 rfl rfl (Yr bH (.agg (bS H)) (λρ y W G gq=>(cz rfl (bi rfl gq) ((k2.below G).blk) underlying45 mach_size)) rfl rfl (Yk bH rfl (Yk bH rfl (Yf bH gc 1 rfl rfl (Yc bH (.int .i64 (P:Int)) (λW G=>by simp[(c2.ext G).cell,kN,qq.out]) rfl rfl rfl rfl (Yk bH rfl (Yk bH rfl (aj ?_ (aj ?_ (aj ?_ (aj ?_ (aj ?_ (aj ?_ (aj ?_ (Yk bH rfl (Yk bH rfl (aH)))))))))))))))))))) (λ_=>rfl) rfl ?_
  ·intro ρ y W C J G D;refine fw G ((DY W2.heap.size X F E)) ?_;have qN:=C 37 3 rfl;have h3:y 3=_:=D 3 rfl;have qL:=C 41 7 rfl;have h7:y 7=_:=D 7 rfl;have qK:=C 42 8 rfl;have h8:y 8=_:=D 8 rfl;have qJ:=C 43 9 rfl;have h9:y 9=_:=D 9 rfl;have EF:=eF0 J λ_=>trivial;refine aL (aW rfl (EF _) func19 (by simp only[bU,bM,bP,qN,h3,qL,h7,qK,h8,qJ,h9,EF];rfl)) ?_;refine(ga.out.2 W G).mono ?_;rintro r w9 ⟨qF,H9,rfl,kn,ko⟩;exact⟨_,rfl,qF,H9,rfl,kn.mono G.size,ko⟩
  ·intro ρ y W C J G D;refine fw G ((DY W2.heap.size X F E)) ?_;have qI:=C 44 10 rfl;have gi:=D 10 rfl;refine ak _ (run_move (.inl rfl) qI) (m:=?_);exact gi
  ·intro ρ y W C J G D;refine fw G ((vC W2.heap.size X)) ?_;have gj:=C 33 11 rfl;have hW:=D 11 rfl;obtain⟨H9,e9,kn,ko⟩:=hW;refine ak (.agg (bS H9)) (by simp[execOp,go_sem,bJ,gj,e9]) (m:=?_);exact⟨H9,rfl,kn,ko⟩
  ·intro ρ y W C J G D;refine fw G (fQ (.int .i64 F)) ?_;have gj:=C 33 11 rfl;have hW:=D 11 rfl;obtain⟨H9,e9,kn,ko⟩:=hW;refine ak (.int .i64 F) (by simp[execOp,go_sem,bJ,gj,e9])
  ·intro ρ y W C J G D;refine fw G (fQ (.int .i64 E)) ?_;have gj:=C 33 11 rfl;have hW:=D 11 rfl;obtain⟨H9,e9,kn,ko⟩:=hW;refine ak (.int .i64 E) (by simp[execOp,go_sem,bJ,gj,e9])
  ·intro ρ y W C J G D;refine fw G ((fu W2.heap.size 45 11)) ?_;refine gM (.pointer (some ⟨W.heap.size,0,none⟩)) (ag) (by simp[execOp,go_sem,bJ];rfl) ((Below.refl _ _).alloc (aC _) (.cells (bS noH) 45)) ?_;exact⟨_,_,rfl,G.size,aK.new _ _ _,rfl⟩
  ·intro ρ y W C J G D;have hY:=C 11 15 rfl;have gg:=D 15 rfl;have qH:=C 45 12 rfl;have gh:=D 12 rfl;obtain⟨H9,e9,kn,ko⟩:=gh;obtain⟨g3,cur3,e3,qi,kx,qb⟩:=gg;refine jT _ _ _ g3 0 (.agg (bS H9)) (bS H9).toList (hY.trans e3) (qH.trans e9) rfl cur3 _ kx (by rw[qb];exact aC _) mach_size (λu hu=>by have:=dQ H9;rw[<-iX,dG]at this;exact this u hu) ?_;intro w2 kJ kw;rw[eT cur3 _ (by rw[qb];rfl)]at kJ;refine⟨G.grown kw G.size (λk hk=>by cases hk;exact qi),⟨g3,H9,e3,qi,kJ,kn.keep kx (by decide) kw,ko⟩,?_⟩;intro k hk gx
   match k,hk,gx with
   | 0,_,_|1,_,_|2,_,_|3,_,_|4,_,_|5,_,_|6,_,_|7,_,_|8,_,_|9,_,_=>exactλh=>h
   | 10,_,_|11,_,_|12,_,_=>exactλ⟨H8,q1,q2,q3⟩=>⟨H8,q1,q2.keep kx (by decide) kw,q3⟩
   | 13,_,_|14,_,_=>exactλh=>h
   | 15,_,_=>exactλq=>iY q kJ ⟨_,kx⟩ kw
   | 16,_,h=>exact absurd rfl h
   | 17,_,_|18,_,_=>exactλh=>h
   | n+19,h,_=>exact absurd h (by omega)
  intro y W3 hp hN;replace hp:Below W2.heap.size W2 W3:=hp;have ht:((DY W2.heap.size X F E)).r (y 10) W3:=hN 10 (by decide);have hs:((DY W2.heap.size X F E)).r (y 11) W3:=hN 11 (by decide);have hr:((vC W2.heap.size X)).r (y 12) W3:=hN 12 (by decide);have hK:((fu W2.heap.size 45 11)).r (y 15) W3:=hN 15 (by decide);have hg:=hN 16 (by decide);clear hN;simp only[dS,bJ,bM,bP];obtain⟨Y,N,em,qg,mx3,qd,qe⟩:=hg;have hh:=ae qe;have k3:=k2.below hp;have c3:=c2.ext hp;have ax3:=ax2.ext hp;have kV:=bY gs hp;have kR : qp W3 w.heap.size N:=qd.mono kJ.out;have qQ:Hid (w.heap.size<Y):=ae (jq ax2.lt qg);have kY:=ae hp;rw[em];clear k2 c2 ax2 gs qd qe hp qg em hr ht hs
  by_cases hE:E=0
  ·obtain⟨e1,e2⟩:=ga.out.1.2 hE;have gu:nR H.ma P ((A:Int) / 8) wr=0:=by rw[<-ga.out.1.1];exact hE
   obtain⟨pg,qT,hU,qG⟩:=Za gJ.out gK.out gd.out (w:=wr) (n:=(A:Int) / 8) (by rw[qm];exact hpl) kU.out gu;rw[<-e1,<-e2]at hU;rw[<-e2]at qG;obtain⟨g,qC⟩:∃g:Nat,F=g:=⟨F.toNat,by omega⟩;have e1':=ae e1;have e2':=ae e2;have g9:=ae gu;clear e1 e2 gu;subst qC;have hQ:g<N.m.fs.length:=by
    obtain⟨_,_,kX⟩:=hU.rt.en P ((A:Int) / 8) (by rw[hU.k1];decide);have:=kX.lt hU.k1;rw[hU.en]at this;have e:X.m.fs.length=N.m.fs.length:=by rw[<-hh.out];rfl
    omega
   have qU:(g:Int)<(N.m.fs.length:Int):=by omega
   obtain⟨O,of,cur,gF,qh,qk,kX,hrd,qa⟩:=kR.frPut hQ;have ha:=ae gF;have qR:=ae qh;have hL:eD W3 (some ⟨O,of+g*13,none⟩) (rG (aF N.ma g)):=hrd;clear qh;obtain⟨K,ky⟩:∃K,Hid (K=aF N.ma g):=⟨_,ae rfl⟩;rw[<-ky.out]at hrd;have hl:=mx3.cell;unfold bS at hl;rw[gF]at hl;clear qa qk kX gF;rw[hE];go_upto_region 7 with(fail)
   go_wp2_with (first | (refine ay O (of+g*13) _ hrd _ underlying66 rfl frame_size ?_) | (refine aT (Ak K) frame_size (wV K) ?_))
   intro w4 hS fx4;have k4:=k3.below hS;have c4:=c3.ext hS;have ax4:=ax3.ext hS;have kd:=bY kV hS;have mx4:=mx3.ext hS;have kQ:=kR.below hS;have qB:Hid (Y<W3.heap.size):=ae mx3.lt;have hM:Hid (Below w.heap.size w w4):=ae (dI (dI k0.out (kY.out.mono k0.out.size)) (hS.mono (aX k0.out.size kY.out.size)));have hL:=hL.below hS;clear k3 c3 ax3 kV mx3 kR hS hl hrd;generalize W3.heap.size=gp at fx4 qB;have qc:Hid (zL X K ((A:Int)%8+n)=(decide (0<=K.f)&&decide ((az X.st K.f).n<K.i*8+((A:Int)%8+n)))):=ae rfl;have gG:Hid (aF X g=K):=ae (by rw[ky.out,hh.out]);have k9:Hid (lQ H.ma c n wr=if zL X K ((A:Int)%8+n)=true then(H.ma,iV 9)else if wr=true then(setFr X g { K with p:=fF K.p ((A:Int)%8) c.da },⟨0,n,[]⟩)else(X,⟨0,n,qM K.p ((A:Int)%8) n⟩)):=ae (by rw[hX.out,if_neg (show ¬nR H.ma P ((A:Int) / 8) wr≠0 fromλe=>e g9.out),<-e1'.out,<-e2'.out,bu,gG.out]);clear hX
   by_cases hf0:K.f<0
   ·have d0:decide (0<=K.f)=false:=decide_eq_false (by omega);have kv:Hid (zL X K ((A:Int)%8+n)=false):=ae (by rw[qc.out,d0];rfl);go_upto_region 8 with(fail);refine aR 21 [_,_,_,_,_,_,_,_,_,_,_,_,_,_,_,_,_,_,_,_,.v (.bool false)] (Gf gp (8+3) rfl rfl (Gl fx4 (V:=.int .i64 K.f) (by simp[Ak]) rfl rfl rfl rfl (Gb (.bool false) (by simp[go_sem,d0]) rfl rfl rfl rfl rfl (Gk rfl (Gk rfl (Gk rfl (Gk rfl (Gk rfl (Gk rfl (Gk rfl (Gk rfl (Gk rfl (Gk rfl (Gk rfl (Gk rfl (Gk rfl (Gk rfl (Gk rfl (Gk rfl (Gk rfl (Gk rfl (aH)))))))))))))))))))))) (λ_=>rfl) rfl ?_;intro y W5 j _;have k5:=k4.below j;have c5:=c4.ext j;have ax5:=ax4.ext j;have kc:=bY kd j;have mx5:=mx4.ext j;have kP:=kQ.below j;have kK:=hL.below j;have k8:Hid (lQ H.ma c n wr=if wr=true then(setFr X g { K with p:=fF K.p ((A:Int)%8) c.da },⟨0,n,[]⟩)else(X,⟨0,n,qM K.p ((A:Int)%8) n⟩)):=ae (by rw[k9.out,kv.out];rfl);have hH:Hid (Below w.heap.size w W5):=ae (dI hM.out (j.mono hM.out.size));clear k9 kv k4 c4 ax4 kd mx4 kQ fx4 j hM hL
    go_wp2_with (first | (refine ay Y 0 (bS N).toList mx5.rd _ underlying45 rfl mach_size ?_) | (refine ax _ _ b (bS N) k5.blk mach_size (G:=dQ _) ?_))
    intro w6 kx6 hf;have hz:=kP.keep k5.blk (by decide) hf;have ax6:=aG ax5 k5.blk hf;have c6:=aG c5 k5.blk hf;have Z:=aG mx5 k5.blk hf;have hi:=nE kc hf;have kg:=ae k5.ge;have kZ:Hid (Below B w w6):=ae ((hH.out.mono ki.out).grown hf (aX ki.out hH.out.size) (λk hk=>by cases hk;exact k5.ge));clear hf k5 kP ax5 c5 mx5 kc kK hH;have hl:=Z.cell;unfold bS at hl;rw[ha.out]at hl;have hG:=c6.cell;unfold kN at hG;have hy:=gr.out w6 kZ.out;obtain⟨gf2,of2,cur2,kh,kW,ks,kq,hx,kl⟩:=hz.frPut hQ;have hJ:=kh;rw[ha.out]at hJ;simp only[fM,mD,and_true]at hJ;obtain⟨rfl,rfl⟩:=hJ;rw[<-ky.out]at hx;have hO:eD w6 (some ⟨O,of+g*13,none⟩) (gW K.p).toList:=mW hx 0 8;clear kh kW ks kq kl hx;cases wr with
    | false=>
     have kt:Hid (lQ H.ma c n false=(X,⟨0,n,qM K.p ((A:Int)%8) n⟩)):=ae (by rw[k8.out];rfl)
     go_wp2_with (refine ay O (of+g*13) _ hO _ underlying58 rfl psize ?_)
     refine(JL K.p ((A:Int)%8) n _).mono ?_;rintro r w7 ⟨v,rfl,km,z⟩;obtain⟨ad,cd,rfl,_⟩:=km.rd;have R:=ax6.ext z;have hB:=bY hi z;have k7:lV w7 B b N:=⟨kx6.ext z,kg.out,(hz.below z).mono ki.out⟩;have kM:=km.mono kZ.out.size;clear kx6 hz ax6 c6 Z hi z hl hG hy hO km
     go_wp2_with (refine ax _ _ w.heap.size (eQ 0 n (.slice ad (qM K.p ((A:Int)%8) n).length cd)) R ans_size ?_)
     intro we Q l;have s:=dE hB l (z:=aC _);have ke:lV we B b N:=k7.keepT R (by decide) (by decide) l;have gw:=aA kM R l;go_wp2;refine bodyPost_ret (v:=.agg (eQ 0 n (.slice ad (qM K.p ((A:Int)%8) n).length cd))) (aP results111 w.heap.size Q underlying54 ans_size) rfl ?_;rw[kt.out];exact⟨_,rfl,gw,s,N,ke,hh.out⟩
    | true=>
     obtain⟨Pn,gb⟩:∃Pn,Hid (Pn=fF K.p ((A:Int)%8) c.da):=⟨_,ae rfl⟩;have kt:Hid (lQ H.ma c n true=(setFr X g { K with p:=Pn },⟨0,n,[]⟩)):=ae (by rw[k8.out,gb.out];rfl);clear hl hG;go_upto_region 12 with(fail);refine uQ 19 20 [] [fQ (.pointer (some ⟨Y,0,none⟩)),fQ (.pointer (some ⟨Y,0,none⟩)),fQ (.slice (some ⟨O,of,none⟩) N.m.fs.length N.cf),fQ (.int .i64 (g:Int)),fQ (.pointer (some ⟨Y,0,none⟩)),fQ (.pointer (some ⟨Y,0,none⟩)),fQ (.slice (some ⟨O,of,none⟩) N.m.fs.length N.cf),fQ (.int .i64 (g:Int)),fQ (.pointer (some ⟨O,of+g*13,none⟩)),fQ (.pointer (some ⟨O,of+g*13,none⟩)),fQ (.agg (gW K.p)),fQ (.int .i64 ((A:Int)%8)),fQ (.pointer (some ⟨gc,0,none⟩)),fQ (.pointer (some ⟨gc,0,none⟩)),fQ (.pointer (some ⟨gc,9,none⟩)),fQ (.slice a c.da.length cap),fQ (.agg (gW Pn)),fQ (.pointer (some ⟨O,of+g*13,none⟩)),fQ (.pointer (some ⟨O,of+g*13,none⟩))] (by kernel_rfl) (by kernel_rfl) (by kernel_rfl) (by kernel_rfl) (by kernel_rfl) (by kernel_rfl) (by decide) (by decide) _ rfl (by kernel_rfl) (aj ?_ (aj ?_ (aj ?_ (aj ?_ (aj ?_ (aj ?_ (aj ?_ (aj ?_ (aj ?_ (aj ?_ (aj ?_ (aj ?_ (aj ?_ (aj ?_ (aj ?_ (aj ?_ (aj ?_ (aj ?_ (aj ?_ (aH)))))))))))))))))))) (aH) rfl ?_
     ·refine aB ?_;intro ρ y W C J G D;have hY:ρ (.tmp 11) = .pointer (some ⟨Y,0,none⟩):=(J (.tmp 11) rfl).trans rfl;refine ak (.pointer (some ⟨Y,0,none⟩)) (by simp[execOp,go_sem,hY])
     ·refine aB ?_;intro ρ y W C J G D;have g6:=C 85 0 rfl;have h0:y 0=_:=D 0 rfl;refine ak (.pointer (some ⟨Y,0,none⟩)) (by simp[execOp,go_sem,g6,h0])
     ·refine aB ?_;intro ρ y W C J G D;have g5:=C 86 1 rfl;have h1:y 1=_:=D 1 rfl;refine ak (.slice (some ⟨O,of,none⟩) N.m.fs.length N.cf) (by simp[execOp,go_sem,g5,h1,(Z.ext G).cell,bS,ha.out])
     ·refine aB ?_;intro ρ y W C J G D;have ku:ρ (.tmp 12) = .int .i64 (g:Int):=(J (.tmp 12) rfl).trans rfl;refine ak (.int .i64 (g:Int)) (run_move (.inl rfl) ku)
     ·refine aB ?_;intro ρ y W C J G D;have hY:ρ (.tmp 11) = .pointer (some ⟨Y,0,none⟩):=(J (.tmp 11) rfl).trans rfl;refine ak (.pointer (some ⟨Y,0,none⟩)) (by simp[execOp,go_sem,hY])
     ·refine aB ?_;intro ρ y W C J G D;have g1:=C 89 4 rfl;have h4:y 4=_:=D 4 rfl;refine ak (.pointer (some ⟨Y,0,none⟩)) (by simp[execOp,go_sem,g1,h4])
     ·refine aB ?_;intro ρ y W C J G D;have g0:=C 90 5 rfl;have h5:y 5=_:=D 5 rfl;refine ak (.slice (some ⟨O,of,none⟩) N.m.fs.length N.cf) (by simp[execOp,go_sem,g0,h5,(Z.ext G).cell,bS,ha.out])
     ·refine aB ?_;intro ρ y W C J G D;have ku:ρ (.tmp 12) = .int .i64 (g:Int):=(J (.tmp 12) rfl).trans rfl;refine ak (.int .i64 (g:Int)) (run_move (.inl rfl) ku)
     ·refine aB ?_;intro ρ y W C J G D;have gZ:=C 91 6 rfl;have h6:y 6=_:=D 6 rfl;have gY:=C 92 7 rfl;have h7:y 7=_:=D 7 rfl;refine ak (.pointer (some ⟨O,of+g*13,none⟩)) (ed rfl (gZ.trans h6) (gY.trans h7) hQ underlying30 frame_size)
     ·refine aB ?_;intro ρ y W C J G D;have gV:=C 93 8 rfl;have h8:y 8=_:=D 8 rfl;refine ak (.pointer (some ⟨O,of+g*13,none⟩)) (by simp[execOp,go_sem,gV,h8])
     ·refine aB ?_;intro ρ y W C J G D;have gU:=C 94 9 rfl;have h9:y 9=_:=D 9 rfl;refine ak (.agg (gW K.p)) (bO rfl (gU.trans h9) (hO.below G) underlying58 (s:=psize))
     ·refine aB ?_;intro ρ y W C J G D;have g7:ρ (.tmp 10) = .int .i64 ((A:Int)%8):=(J (.tmp 10) rfl).trans rfl;refine ak (.int .i64 ((A:Int)%8)) (run_move (.inl rfl) g7)
     ·refine aB ?_;intro ρ y W C J G D;have E1:ρ (.tmp 1) = .pointer (some ⟨gc,0,none⟩):=(J (.tmp 1) rfl).trans rfl;refine ak (.pointer (some ⟨gc,0,none⟩)) (run_move (.inl rfl) E1)
     ·refine aB ?_;intro ρ y W C J G D;have gR:=C 97 12 rfl;have gh:y 12=_:=D 12 rfl;refine ak (.pointer (some ⟨gc,0,none⟩)) (by simp[execOp,go_sem,gR,gh])
     ·refine aB ?_;intro ρ y W C J G D;have gQ:=C 98 13 rfl;have gO:y 13=_:=D 13 rfl;refine ak (.pointer (some ⟨gc,9,none⟩)) (by simp[execOp,go_sem,gQ,gO])
     ·refine aB ?_;intro ρ y W C J G D;have gP:=C 99 14 rfl;have gN:y 14=_:=D 14 rfl;refine ak (.slice a c.da.length cap) (by simp[execOp,go_sem,gP,gN,(c6.ext G).cell,kN])
     ·refine aB ?_;intro ρ y W C J G D;have gT:=C 95 10 rfl;have gi:y 10=_:=D 10 rfl;have gS:=C 96 11 rfl;have hW:y 11=_:=D 11 rfl;have gl:=C 100 15 rfl;have gg:y 15=_:=D 15 rfl;have EF:=eF0 J λ_=>trivial;refine aL (aW rfl (EF _) func154 (by simp only[bU,bM,bP,gT,gi,gS,hW,gl,gg,EF];rfl)) ?_;refine(QM K.p ((A:Int)%8) a c.da cap W (hy.below G)).mono ?_;rintro r w1 ⟨rfl,hT⟩;exact⟨_,rfl,hT,by rw[gb.out];rfl⟩
     ·refine aB ?_;intro ρ y W C J G D;have g4:=C 87 2 rfl;have h2:y 2=_:=D 2 rfl;have g2:=C 88 3 rfl;have h3:y 3=_:=D 3 rfl;refine ak (.pointer (some ⟨O,of+g*13,none⟩)) (ed rfl (g4.trans h2) (g2.trans h3) hQ underlying30 frame_size)
     ·refine aB ?_;intro ρ y W C J G D;have gk:=C 102 17 rfl;have gL:y 17=_:=D 17 rfl;refine ak (.pointer (some ⟨O,of+g*13,none⟩)) (by simp[execOp,go_sem,gk,gL])
     intro ρ y WA o ho C J hV x d;cases ho;have kI:y 0=_:=d 0 (by decide);have kH:y 1=_:=d 1 (by decide);have kG:y 2=_:=d 2 (by decide);have kF:y 3=_:=d 3 (by decide);have kE:y 4=_:=d 4 (by decide);have kD:y 5=_:=d 5 (by decide);have kC:y 6=_:=d 6 (by decide);have kB:y 7=_:=d 7 (by decide);have kA:y 8=_:=d 8 (by decide);have kz:y 9=_:=d 9 (by decide);have ht:y 10=_:=d 10 (by decide);have hs:y 11=_:=d 11 (by decide);have hr:y 12=_:=d 12 (by decide);have kb:y 13=_:=d 13 (by decide);have ka:y 14=_:=d 14 (by decide);have hK:y 15=_:=d 15 (by decide);have hg:y 16=_:=d 16 (by decide);have hZ:y 17=_:=d 17 (by decide);have hq:y 18=_:=d 18 (by decide);have kj:=C 103 18 rfl;rw[hq]at kj;have kk:=C 101 16 rfl;rw[hg]at kk;have EC:∀v,ρ (.const v)=v:=λv=>J (.const v) trivial;have EF:=eF0 J λ_=>trivial;obtain⟨gf4,of4,cur4,hI,kf,t,kp,_,hv⟩:=(hz.below x).frPut hQ;rw[ha.out]at hI;simp only[fM,mD,and_true]at hI;obtain⟨rfl,rfl⟩:=hI;refine Lh (ag) _ _ _ rfl O (of+g*13) _ (gW Pn).toList kj kk rfl _ _ t (by show of+g*13+8<=_;omega) psize (gH (pX _)) ?_;intro w7 z hF;clear d C J hV;simp only[lay,Nat.reduceAdd,Nat.reduceLT,Nat.reduceEqDiff,reduceIte,decide_true,decide_false,if_true,oz,if_false,rD,qV,rf,rF,rC,rH,kI,kH,kG,kF,kE,kD,kC,kB,kA,kz,ht,hs,hr,kb,ka,hK,hg,hZ,hq];clear kI kH kG kF kE kD kC kB kA kz ht hs hr kb ka hK hg hZ hq;have kO:=hv 0 8 (gW Pn).toList { K with p:=Pn } w7 rfl (by decide) (by rw[<-ky.out];rfl) z hF;have R:=aG (ax6.ext x) t hF;have hB:=dE (bY hi x) hF (z:=kf);have kx7:=aG (kx6.ext x) t hF;have kS:bS { N with m:=⟨N.m.fs.set g { K with p:=Pn },N.m.hand⟩ }=bS N:=by unfold bS;simp only[bV]
     rw[<-kS]at kx7;have kT:Hid (MH.ma { N with m:=⟨N.m.fs.set g { K with p:=Pn },N.m.hand⟩ }=setFr X g { K with p:=Pn }):=ae (by rw[<-hh.out];rfl);clear kS hv t kp z hF x hO kx6 hz ax6 c6 Z hi hy kf;generalize ({ N with m:=⟨N.m.fs.set g { K with p:=Pn },N.m.hand⟩ }:MH)=H7 at *
     have k7:lV w7 B b H7:=⟨kx7,kg.out,kO.mono ki.out⟩;clear kx7 kO
     go_wp2_with (refine ax _ _ w.heap.size (eQ 0 n nilV) R ans_size ?_)
     intro we Q l;have s:=dE hB l (z:=aC _);have ke:lV we B b H7:=k7.keepT R (by decide) (by decide) l;go_wp2;refine bodyPost_ret (v:=.agg (eQ 0 n nilV)) (aP results111 w.heap.size Q underlying54 ans_size) rfl ?_;rw[kt.out];exact⟨nilV,rfl,Own.nil _ _ _ _,s,H7,ke,kT.out⟩
   have d0:decide (0<=K.f)=true:=decide_eq_true (by omega);have gy:Hid (K.f.toNat<N.fi.length/\0<=K.f/\0<=K.i/\K.i<12):=ae (by
    have e9:X.m.fs.length=N.m.fs.length:=by rw[<-hh.out];rfl
    obtain⟨cc,qj,qE⟩:=hU.rt.fc g (by omega) (by rw[gG.out];omega);have gC:=hU.rt.ca.fr cc qj;rw[qE,bu,gG.out]at gC;have gn:=hU.rt.ca.file cc qj;rw[<-gC.2.1,<-gC.2.2]at gn;have qO:=Ag hU.rt.pt.st gn;have e:X.st.fs.length=N.fi.length:=by rw[<-hh.out];exact fE _
    have h1:=gn.1;have h2:=gn.2;omega)
   obtain⟨f,gB⟩:∃f:Nat,K.f=f:=⟨K.f.toNat,by omega⟩;obtain⟨i,gz⟩:∃i:Nat,K.i=i:=⟨K.i.toNat,by have:=gy.out;omega⟩;have gA:f<N.fi.length:=by have:=gy.out;omega
   have qP:i<12:=by have:=gy.out;omega
   obtain⟨bf,obf,qn,kL⟩:=oU lC kQ.rd.st.rd f gA;obtain⟨pf,gv⟩:∃pf,N.fi[f]?=some pf:=⟨_,aM gA⟩;rw[show N.fi[f]=pf from(dw.1 gv).2]at kL;have qD:Hid ((az X.st (f:Int)).n=pf.n):=ae (by rw[<-hh.out];unfold az;rw[if_pos (by omega)];show((N.fi.map PF.fi).getD f ⟨0,[]⟩).n=pf.n;rw[bA,iH,gv];rfl);have ql:=ae qn;have qy:Hid (∀W,Below w4.heap.size w4 W->W.cell? ⟨bf,obf+f*2,none⟩=some (.int .i64 pf.n)):=ae (λW G=>by have:=JD (kL.below G) (k:=0) (u:=.int .i64 pf.n) rfl;simpa using this);clear qn kL gv;have g8:IntKind.i64.wrap ((i:Int)*8)=(i:Int)*8:=dz _ (by omega);have qw:IntKind.i64.wrap ((i:Int)*8+(A:Int)%8)=(i:Int)*8+(A:Int)%8:=dz _ (by omega);have qu:IntKind.i64.wrap ((i:Int)*8+(A:Int)%8+n)=(i:Int)*8+(A:Int)%8+n:=dz _ (by omega);obtain⟨BB,qr⟩:∃BB,Hid (decide (pf.n<(i:Int)*8+(A:Int)%8+n)=BB):=⟨_,ae rfl⟩;have gt:=ae gB;have qf:=ae gz;have d0' : decide ((0:Int)<=(f:Int))=true:=decide_eq_true (by omega);have kv:Hid (zL X K ((A:Int)%8+n)=BB):=ae (by rw[qc.out,d0,gB,qD.out,gz,<-qr.out,mg];congr 1;rw[Int.add_assoc]);clear gB gz d0;go_upto_region 8 with(fail);refine aR 21 [_,_,_,_,_,_,_,_,_,_,_,_,_,_,_,_,_,_,_,_,.v (.bool BB)] (Gf gp (8+3) rfl rfl (Gl fx4 (V:=.int .i64 (f:Int)) (by simp[Ak,gt.out]) rfl rfl rfl rfl (Gb (.bool true) (by simp[go_sem,d0']) rfl rfl rfl rfl rfl (Gk rfl (Gf gp (8+4) rfl rfl (Gl fx4 (V:=.int .i64 (i:Int)) (by simp[Ak,qf.out]) rfl rfl rfl rfl (Gb (.int .i64 ((i:Int)*8)) (by simp[go_sem,g8]) rfl rfl rfl rfl rfl (Gk rfl (Gb (.int .i64 ((i:Int)*8+(A:Int)%8)) (by simp[go_sem,qw]) rfl rfl rfl rfl rfl (Gk rfl (Gb (.int .i64 ((i:Int)*8+(A:Int)%8+n)) (by simp[go_sem,qu]) rfl rfl rfl rfl rfl (Gf Y 7 rfl rfl (Gf Y 7 rfl rfl (Gl mx4 (V:=.slice (some ⟨bf,obf,none⟩) N.fi.length N.ci) (by simp[bS,ql.out]) rfl rfl rfl rfl (Gf gp (8+3) rfl rfl (Gl fx4 (V:=.int .i64 (f:Int)) (by simp[Ak,gt.out]) rfl rfl rfl rfl (Gr (.pointer (some ⟨bf,obf+f*2,none⟩)) (λρ y W G gq=>(ed rfl (bi rfl gq) (bi rfl gq) gA underlying39 file_size)) rfl rfl (Gf bf (obf+f*2) rfl rfl (Gc (.int .i64 pf.n) (λW G=>by simp[qy.out W G]) rfl rfl rfl rfl (Gb (.bool BB) (by simp[go_sem,qr.out]) rfl rfl rfl rfl rfl (Gk rfl (aH)))))))))))))))))))))) (λ_=>rfl) rfl ?_;intro y W5 j _;cases BB with
   | true=>
    have gI:Hid (lQ H.ma c n wr=(H.ma,iV 9)):=ae (by rw[k9.out,if_pos kv.out]);have k1:=k4.below j;have U:=ax4.ext j;have hD:=bY kd j
    go_wp2_with (refine ax _ _ w.heap.size (eQ 9 0 nilV) U ans_size ?_)
    intro we Q l;have s:=dE hD l;have ke:lV we B b H:=⟨aG k1.blk U l,k1.ge,k1.ma.keep U (by decide) l⟩;go_wp2;refine bodyPost_ret (v:=.agg (eQ 9 0 nilV)) (aP results111 w.heap.size Q underlying54 ans_size) rfl ?_;rw[gI.out];exact⟨nilV,rfl,Own.nil _ _ _ _,s,H,ke,rfl⟩
   | false=>
    have k5:=k4.below j;have c5:=c4.ext j;have ax5:=ax4.ext j;have kc:=bY kd j;have mx5:=mx4.ext j;have kP:=kQ.below j;have kK:=hL.below j;have k8:Hid (lQ H.ma c n wr=if wr=true then(setFr X g { K with p:=fF K.p ((A:Int)%8) c.da },⟨0,n,[]⟩)else(X,⟨0,n,qM K.p ((A:Int)%8) n⟩)):=ae (by rw[k9.out,kv.out];rfl);have hH:Hid (Below w.heap.size w W5):=ae (dI hM.out (j.mono hM.out.size));clear k9 kv k4 c4 ax4 kd mx4 kQ fx4 j hM hL
    go_wp2_with (first | (refine ay Y 0 (bS N).toList mx5.rd _ underlying45 rfl mach_size ?_) | (refine ax _ _ b (bS N) k5.blk mach_size (G:=dQ _) ?_))
    intro w6 kx6 hf;have hz:=kP.keep k5.blk (by decide) hf;have ax6:=aG ax5 k5.blk hf;have c6:=aG c5 k5.blk hf;have Z:=aG mx5 k5.blk hf;have hi:=nE kc hf;have kg:=ae k5.ge;have kZ:Hid (Below B w w6):=ae ((hH.out.mono ki.out).grown hf (aX ki.out hH.out.size) (λk hk=>by cases hk;exact k5.ge));clear hf k5 kP ax5 c5 mx5 kc kK hH;have hl:=Z.cell;unfold bS at hl;rw[ha.out]at hl;have hG:=c6.cell;unfold kN at hG;have hy:=gr.out w6 kZ.out;obtain⟨gf2,of2,cur2,kh,kW,ks,kq,hx,kl⟩:=hz.frPut hQ;have hJ:=kh;rw[ha.out]at hJ;simp only[fM,mD,and_true]at hJ;obtain⟨rfl,rfl⟩:=hJ;rw[<-ky.out]at hx;have hO:eD w6 (some ⟨O,of+g*13,none⟩) (gW K.p).toList:=mW hx 0 8;clear kh kW ks kq kl hx;cases wr with
    | false=>
     have kt:Hid (lQ H.ma c n false=(X,⟨0,n,qM K.p ((A:Int)%8) n⟩)):=ae (by rw[k8.out];rfl)
     go_wp2_with (refine ay O (of+g*13) _ hO _ underlying58 rfl psize ?_)
     refine(JL K.p ((A:Int)%8) n _).mono ?_;rintro r w7 ⟨v,rfl,km,z⟩;obtain⟨ad,cd,rfl,_⟩:=km.rd;have R:=ax6.ext z;have hB:=bY hi z;have k7:lV w7 B b N:=⟨kx6.ext z,kg.out,(hz.below z).mono ki.out⟩;have kM:=km.mono kZ.out.size;clear kx6 hz ax6 c6 Z hi z hl hG hy hO km
     go_wp2_with (refine ax _ _ w.heap.size (eQ 0 n (.slice ad (qM K.p ((A:Int)%8) n).length cd)) R ans_size ?_)
     intro we Q l;have s:=dE hB l (z:=aC _);have ke:lV we B b N:=k7.keepT R (by decide) (by decide) l;have gw:=aA kM R l;go_wp2;refine bodyPost_ret (v:=.agg (eQ 0 n (.slice ad (qM K.p ((A:Int)%8) n).length cd))) (aP results111 w.heap.size Q underlying54 ans_size) rfl ?_;rw[kt.out];exact⟨_,rfl,gw,s,N,ke,hh.out⟩
    | true=>
     obtain⟨Pn,gb⟩:∃Pn,Hid (Pn=fF K.p ((A:Int)%8) c.da):=⟨_,ae rfl⟩;have kt:Hid (lQ H.ma c n true=(setFr X g { K with p:=Pn },⟨0,n,[]⟩)):=ae (by rw[k8.out,gb.out];rfl);clear hl hG;go_upto_region 12 with(fail);refine uQ 19 20 [] [fQ (.pointer (some ⟨Y,0,none⟩)),fQ (.pointer (some ⟨Y,0,none⟩)),fQ (.slice (some ⟨O,of,none⟩) N.m.fs.length N.cf),fQ (.int .i64 (g:Int)),fQ (.pointer (some ⟨Y,0,none⟩)),fQ (.pointer (some ⟨Y,0,none⟩)),fQ (.slice (some ⟨O,of,none⟩) N.m.fs.length N.cf),fQ (.int .i64 (g:Int)),fQ (.pointer (some ⟨O,of+g*13,none⟩)),fQ (.pointer (some ⟨O,of+g*13,none⟩)),fQ (.agg (gW K.p)),fQ (.int .i64 ((A:Int)%8)),fQ (.pointer (some ⟨gc,0,none⟩)),fQ (.pointer (some ⟨gc,0,none⟩)),fQ (.pointer (some ⟨gc,9,none⟩)),fQ (.slice a c.da.length cap),fQ (.agg (gW Pn)),fQ (.pointer (some ⟨O,of+g*13,none⟩)),fQ (.pointer (some ⟨O,of+g*13,none⟩))] (by kernel_rfl) (by kernel_rfl) (by kernel_rfl) (by kernel_rfl) (by kernel_rfl) (by kernel_rfl) (by decide) (by decide) _ rfl (by kernel_rfl) (aj ?_ (aj ?_ (aj ?_ (aj ?_ (aj ?_ (aj ?_ (aj ?_ (aj ?_ (aj ?_ (aj ?_ (aj ?_ (aj ?_ (aj ?_ (aj ?_ (aj ?_ (aj ?_ (aj ?_ (aj ?_ (aj ?_ (aH)))))))))))))))))))) (aH) rfl ?_
     ·refine aB ?_;intro ρ y W C J G D;have hY:ρ (.tmp 11) = .pointer (some ⟨Y,0,none⟩):=(J (.tmp 11) rfl).trans rfl;refine ak (.pointer (some ⟨Y,0,none⟩)) (by simp[execOp,go_sem,hY])
     ·refine aB ?_;intro ρ y W C J G D;have g6:=C 85 0 rfl;have h0:y 0=_:=D 0 rfl;refine ak (.pointer (some ⟨Y,0,none⟩)) (by simp[execOp,go_sem,g6,h0])
     ·refine aB ?_;intro ρ y W C J G D;have g5:=C 86 1 rfl;have h1:y 1=_:=D 1 rfl;refine ak (.slice (some ⟨O,of,none⟩) N.m.fs.length N.cf) (by simp[execOp,go_sem,g5,h1,(Z.ext G).cell,bS,ha.out])
     ·refine aB ?_;intro ρ y W C J G D;have ku:ρ (.tmp 12) = .int .i64 (g:Int):=(J (.tmp 12) rfl).trans rfl;refine ak (.int .i64 (g:Int)) (run_move (.inl rfl) ku)
     ·refine aB ?_;intro ρ y W C J G D;have hY:ρ (.tmp 11) = .pointer (some ⟨Y,0,none⟩):=(J (.tmp 11) rfl).trans rfl;refine ak (.pointer (some ⟨Y,0,none⟩)) (by simp[execOp,go_sem,hY])
     ·refine aB ?_;intro ρ y W C J G D;have g1:=C 89 4 rfl;have h4:y 4=_:=D 4 rfl;refine ak (.pointer (some ⟨Y,0,none⟩)) (by simp[execOp,go_sem,g1,h4])
     ·refine aB ?_;intro ρ y W C J G D;have g0:=C 90 5 rfl;have h5:y 5=_:=D 5 rfl;refine ak (.slice (some ⟨O,of,none⟩) N.m.fs.length N.cf) (by simp[execOp,go_sem,g0,h5,(Z.ext G).cell,bS,ha.out])
     ·refine aB ?_;intro ρ y W C J G D;have ku:ρ (.tmp 12) = .int .i64 (g:Int):=(J (.tmp 12) rfl).trans rfl;refine ak (.int .i64 (g:Int)) (run_move (.inl rfl) ku)
     ·refine aB ?_;intro ρ y W C J G D;have gZ:=C 91 6 rfl;have h6:y 6=_:=D 6 rfl;have gY:=C 92 7 rfl;have h7:y 7=_:=D 7 rfl;refine ak (.pointer (some ⟨O,of+g*13,none⟩)) (ed rfl (gZ.trans h6) (gY.trans h7) hQ underlying30 frame_size)
     ·refine aB ?_;intro ρ y W C J G D;have gV:=C 93 8 rfl;have h8:y 8=_:=D 8 rfl;refine ak (.pointer (some ⟨O,of+g*13,none⟩)) (by simp[execOp,go_sem,gV,h8])
     ·refine aB ?_;intro ρ y W C J G D;have gU:=C 94 9 rfl;have h9:y 9=_:=D 9 rfl;refine ak (.agg (gW K.p)) (bO rfl (gU.trans h9) (hO.below G) underlying58 (s:=psize))
     ·refine aB ?_;intro ρ y W C J G D;have g7:ρ (.tmp 10) = .int .i64 ((A:Int)%8):=(J (.tmp 10) rfl).trans rfl;refine ak (.int .i64 ((A:Int)%8)) (run_move (.inl rfl) g7)
     ·refine aB ?_;intro ρ y W C J G D;have E1:ρ (.tmp 1) = .pointer (some ⟨gc,0,none⟩):=(J (.tmp 1) rfl).trans rfl;refine ak (.pointer (some ⟨gc,0,none⟩)) (run_move (.inl rfl) E1)
     ·refine aB ?_;intro ρ y W C J G D;have gR:=C 97 12 rfl;have gh:y 12=_:=D 12 rfl;refine ak (.pointer (some ⟨gc,0,none⟩)) (by simp[execOp,go_sem,gR,gh])
     ·refine aB ?_;intro ρ y W C J G D;have gQ:=C 98 13 rfl;have gO:y 13=_:=D 13 rfl;refine ak (.pointer (some ⟨gc,9,none⟩)) (by simp[execOp,go_sem,gQ,gO])
     ·refine aB ?_;intro ρ y W C J G D;have gP:=C 99 14 rfl;have gN:y 14=_:=D 14 rfl;refine ak (.slice a c.da.length cap) (by simp[execOp,go_sem,gP,gN,(c6.ext G).cell,kN])
     ·refine aB ?_;intro ρ y W C J G D;have gT:=C 95 10 rfl;have gi:y 10=_:=D 10 rfl;have gS:=C 96 11 rfl;have hW:y 11=_:=D 11 rfl;have gl:=C 100 15 rfl;have gg:y 15=_:=D 15 rfl;have EF:=eF0 J λ_=>trivial;refine aL (aW rfl (EF _) func154 (by simp only[bU,bM,bP,gT,gi,gS,hW,gl,gg,EF];rfl)) ?_;refine(QM K.p ((A:Int)%8) a c.da cap W (hy.below G)).mono ?_;rintro r w1 ⟨rfl,hT⟩;exact⟨_,rfl,hT,by rw[gb.out];rfl⟩
     ·refine aB ?_;intro ρ y W C J G D;have g4:=C 87 2 rfl;have h2:y 2=_:=D 2 rfl;have g2:=C 88 3 rfl;have h3:y 3=_:=D 3 rfl;refine ak (.pointer (some ⟨O,of+g*13,none⟩)) (ed rfl (g4.trans h2) (g2.trans h3) hQ underlying30 frame_size)
     ·refine aB ?_;intro ρ y W C J G D;have gk:=C 102 17 rfl;have gL:y 17=_:=D 17 rfl;refine ak (.pointer (some ⟨O,of+g*13,none⟩)) (by simp[execOp,go_sem,gk,gL])
     intro ρ y WA o ho C J hV x d;cases ho;have kI:y 0=_:=d 0 (by decide);have kH:y 1=_:=d 1 (by decide);have kG:y 2=_:=d 2 (by decide);have kF:y 3=_:=d 3 (by decide);have kE:y 4=_:=d 4 (by decide);have kD:y 5=_:=d 5 (by decide);have kC:y 6=_:=d 6 (by decide);have kB:y 7=_:=d 7 (by decide);have kA:y 8=_:=d 8 (by decide);have kz:y 9=_:=d 9 (by decide);have ht:y 10=_:=d 10 (by decide);have hs:y 11=_:=d 11 (by decide);have hr:y 12=_:=d 12 (by decide);have kb:y 13=_:=d 13 (by decide);have ka:y 14=_:=d 14 (by decide);have hK:y 15=_:=d 15 (by decide);have hg:y 16=_:=d 16 (by decide);have hZ:y 17=_:=d 17 (by decide);have hq:y 18=_:=d 18 (by decide);have kj:=C 103 18 rfl;rw[hq]at kj;have kk:=C 101 16 rfl;rw[hg]at kk;have EC:∀v,ρ (.const v)=v:=λv=>J (.const v) trivial;have EF:=eF0 J λ_=>trivial;obtain⟨gf4,of4,cur4,hI,kf,t,kp,_,hv⟩:=(hz.below x).frPut hQ;rw[ha.out]at hI;simp only[fM,mD,and_true]at hI;obtain⟨rfl,rfl⟩:=hI;refine Lh (ag) _ _ _ rfl O (of+g*13) _ (gW Pn).toList kj kk rfl _ _ t (by show of+g*13+8<=_;omega) psize (gH (pX _)) ?_;intro w7 z hF;clear d C J hV;simp only[lay,Nat.reduceAdd,Nat.reduceLT,Nat.reduceEqDiff,reduceIte,decide_true,decide_false,if_true,oz,if_false,rD,qV,rf,rF,rC,rH,kI,kH,kG,kF,kE,kD,kC,kB,kA,kz,ht,hs,hr,kb,ka,hK,hg,hZ,hq];clear kI kH kG kF kE kD kC kB kA kz ht hs hr kb ka hK hg hZ hq;have kO:=hv 0 8 (gW Pn).toList { K with p:=Pn } w7 rfl (by decide) (by rw[<-ky.out];rfl) z hF;have R:=aG (ax6.ext x) t hF;have hB:=dE (bY hi x) hF (z:=kf);have kx7:=aG (kx6.ext x) t hF;have kS:bS { N with m:=⟨N.m.fs.set g { K with p:=Pn },N.m.hand⟩ }=bS N:=by unfold bS;simp only[bV]
     rw[<-kS]at kx7;have kT:Hid (MH.ma { N with m:=⟨N.m.fs.set g { K with p:=Pn },N.m.hand⟩ }=setFr X g { K with p:=Pn }):=ae (by rw[<-hh.out];rfl);clear kS hv t kp z hF x hO kx6 hz ax6 c6 Z hi hy kf;generalize ({ N with m:=⟨N.m.fs.set g { K with p:=Pn },N.m.hand⟩ }:MH)=H7 at *
     have k7:lV w7 B b H7:=⟨kx7,kg.out,kO.mono ki.out⟩;clear kx7 kO
     go_wp2_with (refine ax _ _ w.heap.size (eQ 0 n nilV) R ans_size ?_)
     intro we Q l;have s:=dE hB l (z:=aC _);have ke:lV we B b H7:=k7.keepT R (by decide) (by decide) l;go_wp2;refine bodyPost_ret (v:=.agg (eQ 0 n nilV)) (aP results111 w.heap.size Q underlying54 ans_size) rfl ?_;rw[kt.out];exact⟨nilV,rfl,Own.nil _ _ _ _,s,H7,ke,kT.out⟩
  have gx:nR H.ma P ((A:Int) / 8) wr≠0:=by rw[<-ga.out.1.1];exact hE
  have gI:Hid (lQ H.ma c n wr=(H.ma,iV E)):=ae (by rw[hX.out,if_pos gx,<-ga.out.1.1]);have k1:=k3;have U:=ax3;have hD:=kV;clear hX
  go_wp2_with (refine ax _ _ w.heap.size (eQ E 0 nilV) U ans_size ?_)
  intro we Q l;have s:=dE hD l;have ke:lV we B b H:=⟨aG k1.blk U l,k1.ge,k1.ma.keep U (by decide) l⟩;go_wp2;refine bodyPost_ret (v:=.agg (eQ E 0 nilV)) (aP results111 w.heap.size Q underlying54 ans_size) rfl ?_;rw[gI.out];exact⟨nilV,rfl,Own.nil _ _ _ _,s,H,ke,rfl⟩
structure Fw where
 lv:Bool
 ar:List Ar
 own:Int->Option Page
structure Wd where
 n:Nat
 ps:Nat->Fw
 fl:List (List UInt8)
def zFw:Fw:=⟨false,[],λ_=>none⟩
def qw(m:Ma)(f:Int)(j:Nat):UInt8:=(aN m f (j / 8:Nat))[j%8]'(rZ _ (by decide))
def sO(g:Option Pg)(a b:Option Page):Prop:=match g with
 | none=>a=none
 | some g=>if g.fi<0 then a.getD zPg=b.getD zPg else a=b
def zR(w:Wd)(f:Nat):List UInt8:=w.fl.getD f []
structure uD (m:Ma) (w:Wd):Prop where
 n:w.n=m.sp.length
 lv:∀p,(w.ps p).lv=(bQ m p).lv
 ar:∀p,(w.ps p).ar=(bQ m p).ar
 own:∀p n,sO (eP m p n) ((w.ps p).own n) (gF m p n)
 nf:w.fl.length=m.st.fs.length
 sz:∀f:Nat,f<m.st.fs.length->((zR w f).length:Int)=(az m.st f).n
 bt:∀f j:Nat,f<m.st.fs.length->(j:Int)<(az m.st f).n->(zR w f).getD j 0=qw m f j
theorem tL(h:aQ s=0)(k:f<s.fs.length)(g:(j:Int)<(az s f).n):jk s f (j / 8:Nat):=by
 have d:=(iK h (f:=(f:Int)) (by omega)).2.2.1;refine⟨by omega,by omega,?_⟩;rw[d];unfold bn;rw[if_neg (by omega)];omega
theorem YR(h:aQ s=0)(g:jk s f i):(8*i:Int)<(az s f).n:=by
 have k:=(iK h (f:=(f:Int)) g.1).2.2.1;have d:=g.2.2;rw[k]at d;unfold bn at d;split at d<;>omega
theorem Au(h:(aJ m p n).k=0):gF m p n=none:=by
 unfold gF;rw[if_neg (by omega),if_neg (by omega)]
theorem Mv(h:Rt m)(o:eP m p n=none):gF m p n=none:=by
 refine Au ?_
 by_cases d:(aJ m p n).k=0
 ·exact d
 obtain⟨g,a,_⟩:=h.en p n d;rw[o]at a; cases a
theorem uD.vis{w:Wd}(h:uD m w)(k:Rt m)(hR' : Rt m')(v:Aj m m'):uD m' w:=by
 refine⟨by rw[v.sk.len];exact h.n,λp=>by rw[v.sk.lv];exact h.lv p,λp=>by rw[v.sk.ar];exact h.ar p,λp n => ?_,by rw[v.files];exact h.nf,λf d => ?_,λf j d g => ?_⟩
 ·rw[v.own k hR',show eP m' p n=eP m p n by unfold eP;rw[v.sk.ar]];exact h.own p n
 ·rw[v.size];exact h.sz f (by rw[<-v.files];exact d)
 rw[v.files]at d;rw[v.size]at g;rw[h.bt f j d g];unfold qw;rw[v.con _ _ (tL k.pt.st d g)]
def FiP(m:Ma):Prop:=∀p n g,eP m p n=some g->g.fi<m.st.fs.length
structure lY (m:Ma):Prop where
 rt:Rt m
 co:Co m
 fi:FiP m
theorem lY.vis(h:lY m)(k:Rt m')(o:Co m')(v:Aj m m'):lY m':=
 ⟨k,o,λp n g d=>by rw[v.files];exact h.fi p n g (by unfold eP at d ⊢; rw[<-v.sk.ar];exact d)⟩
def pgB(b:List UInt8)(k:Nat):Page:=Vector.ofFn λi:Fin 8=>b.getD (k+i.val) 0
def Vq(w:Wd)(p:Nat)(n:Int):Page × Int × Int:=match onA (w.ps p).ar n with
 | none=>(zPg,0,5)
 | some g=>match (w.ps p).own n with
  | some P=>(P,8,0)
  | none=>if g.fi<0 then(zPg,8,0)else
          let b:=zR w g.fi.toNat
   if(b.length:Int)<=8*g.pg then(zPg,0,9)else(pgB b (8*g.pg).toNat,min 8 (b.length-8*g.pg),0)
def putB(b:List UInt8)(k:Nat)(d:List UInt8):List UInt8:=(List.range b.length).map λj=>if k<=j/\j<k+d.length then d.getD (j-k) 0 else b.getD j 0
def sizedB(b:List UInt8)(n:Nat):List UInt8:=(List.range n).map λj=>b.getD j 0
def PN(w:Wd)(f:Nat)(b:List UInt8):Wd:={ w with fl:=w.fl.set f b }
def Ql(w:Wd)(p:Nat)(x:Fw):Wd:={ w with ps:=λq=>if q=p then x else w.ps q }
def abl(o:Int->Option Page)(n:Int)(x:Option Page):Int->Option Page:=λj=>if j=n then x else o j
def Ko(g:Pg)(wr:Bool):Bool:=if wr=true then g.wr else g.rd
def JG(w:Wd)(p:Nat)(c:Cl)(n:Int)(wr:Bool):Wd × An:=
 if sW c.a n=false then(w,iV 2)else
 match onA (w.ps p).ar (c.a / 8)with
 | none=>(w,iV 5)
 | some g=>
  if Ko g wr=false then(w,iV 8)else
  let r:=Vq w p (c.a / 8)
  if r.2.2≠0 then(w,iV r.2.2)else
  if ¬(g.fi<0\/wr=true/\g.sh=false)/\r.2.1<c.a%8+n then(w,iV 9)else
  if wr=false then(w,⟨0,n,qM r.1 (c.a%8) n⟩)else
  if g.sh=true then(PN w g.fi.toNat (putB (zR w g.fi.toNat) (8*g.pg+c.a%8).toNat c.da),⟨0,n,[]⟩)
  else(Ql w p { w.ps p with own:=abl (w.ps p).own (c.a / 8) (some (fF r.1 (c.a%8) c.da)) },⟨0,n,[]⟩)
def Xf(w:Wd)(p:Nat)(c:Cl):Wd × An:=
 let ar:=(w.ps p).ar;let a:=Sm ar c
 if a<0\/64<=a\/c.n<1\/64-a<c.n\/c.f < -1 then(w,iV 3)
 else if(w.fl.length:Int)<=c.f then(w,iV 5)
 else
  let x:Ar:=⟨a,a+c.n,c.rd,c.wr,c.sh,c.f,c.b⟩
  if oH ar x≠0 then(w,iV (oH ar x))else(Ql w p { w.ps p with ar:=jl ar x },⟨0,a,[]⟩)
def abm(w:Wd)(p:Nat)(c:Cl):Wd × An:=
 let ar:=(w.ps p).ar
 if UB ar c.a c.n≠0 then(w,iV (UB ar c.a c.n))
 else(Ql w p { w.ps p with ar:=aaB ar c.a c.n,own:=λn=>if c.a<=n/\n<c.a+c.n then none else(w.ps p).own n },iV 0)
def abh(w:Wd)(p:Nat)(c:Cl):Wd × An:=
 let ar:=(w.ps p).ar
 if VM ar c.a c.n c.rd c.wr≠0 then(w,iV (VM ar c.a c.n c.rd c.wr))
 else(Ql w p { w.ps p with ar:=aau ar c.a c.n c.rd c.wr },iV 0)
def Qu(w:Wd):Nat:=((List.range w.n).find? λq => !(w.ps q).lv).getD w.n
def RS(w:Wd)(p:Nat):Wd × An:=
 let q:=Qu w
 if q=4 then(w,iV 4)else({ Ql w q { w.ps p with lv:=true }with n:=max w.n (q+1) },⟨0,q,[]⟩)
def aaZ(w:Wd)(p:Nat):Wd × An:=(Ql w p zFw,iV 0)
def Ua(w:Wd)(c:Cl):Wd × An:=
 if c.p<0\/(w.n:Int)<=c.p\/(w.ps c.p.toNat).lv=false then(w,iV 5)else
 let p:=c.p.toNat
 if c.k=1 then Xf w p c else if c.k=2 then abm w p c else if c.k=3 then abh w p c
 else if c.k=4 then JG w p c c.n false else if c.k=5 then JG w p c c.da.length true
 else if c.k=6 then RS w p else aaZ w p
def Wm(w:Wd)(c:Cl):Wd × An:=
 if c.a<0\/c.n<0 then(w,iV 3)else
 let o:=((zR w c.f.toNat).drop c.a.toNat).take c.n.toNat
 (w,⟨0,o.length,o⟩)
def aaT(w:Wd)(c:Cl):Wd × An:=
 if c.a<0\/96<c.a\/96-c.a<c.da.length then(w,iV 3)
 else if c.da.length=0 then(w,iV 0)
 else
  let b:=zR w c.f.toNat
  (PN w c.f.toNat (putB (sizedB b (max (c.a.toNat+c.da.length) b.length)) c.a.toNat c.da),⟨0,c.da.length,[]⟩)
def VK(w:Wd)(c:Cl):Wd × An:=if c.n<0\/96<c.n then(w,iV 3)else(PN w c.f.toNat (sizedB (zR w c.f.toNat) c.n.toNat),iV 0)
def Ig(w:Wd)(c:Cl):Wd × An:=
 if c.f<0\/(w.fl.length:Int)<=c.f then(w,iV 5)else
 if c.k=9 then Wm w c else if c.k=10 then aaT w c else if c.k=11 then VK w c else(w,iV 0)
def Uz(w:Wd):Wd × An:=if 5<=w.fl.length then(w,iV 4)else({ w with fl:=w.fl++[[]] },⟨0,w.fl.length,[]⟩)
def Dp(w:Wd)(c:Cl):Wd × An:=
 if c.k<1\/15<c.k then(w,iV 1)else if c.k<=7 then Ua w c else if c.k=8 then Uz w else if c.k<=12 then Ig w c else(w,iV 0)
theorem XN(b:List UInt8)(k i:Nat)(h:i<8):(pgB b k)[i]=b.getD (k+i) 0:=by simp[pgB]
theorem uD.page{w:Wd}(h:uD m w)(z:Rt m)(C:Co m)(t:jk m.st f i):pgB (zR w f) (8*i)=aN m f i:=by
 have d:f<m.st.fs.length:=by have:=t.1;omega
 ext k hk
 rw[XN _ _ _ hk]
 by_cases o:((8*i+k:Nat):Int)<(az m.st f).n
 ·rw[h.bt f (8*i+k) d o];unfold qw;have E:(8*i+k) / 8=i:=by omega
  have D:(8*i+k)%8=k:=by omega
  simp only[E,D]
 have G:=h.sz f d;rw[bA,dP (by omega)];have g:=BR z C f i;have:(aO (aN m f i) ((az m.st f).n-i*8))[k]=0:=by simp only[aO,mH];rw[if_pos (by omega)]
 rw[g]at this;rw[this];rfl
theorem UF(b:List UInt8)(k:Nat)(d:List UInt8):(putB b k d).length=b.length:=by simp[putB]
theorem UN(b:List UInt8)(k:Nat)(d:List UInt8)(h:j<b.length):(putB b k d).getD j 0=if k<=j/\j<k+d.length then d.getD (j-k) 0 else b.getD j 0:=by
 unfold putB;rw[bA,iH,xn h];rfl
theorem PQ(b:List UInt8)(n:Nat):(sizedB b n).length=n:=by simp[sizedB]
theorem Oi(b:List UInt8)(n:Nat)(h:j<n):(sizedB b n).getD j 0=b.getD j 0:=by
 unfold sizedB;rw[bA,iH,xn h];rfl
theorem MB(w:Wd)(f g:Nat)(b:List UInt8)(h:f<w.fl.length):zR (PN w f b) g=if g=f then b else zR w g:=by
 unfold zR PN;simp only[bA,qd]
 by_cases e:g=f
 ·rw[if_pos e.symm,if_pos e,if_pos h];rfl
 ·rw[if_neg (mF e),if_neg e]
theorem wo{l:List Ar}(d:p<m.sp.length)(q:Nat):bQ (setAr m p l) q=if q=p then{ bQ m p with ar:=l }else bQ m q:=by
 unfold setAr;show(m.sp.set p _).getD q zSp=_;rw[bA,qd]
 by_cases e:q=p
 ·subst e;rw[if_pos rfl,if_pos d,if_pos rfl];rfl
 ·rw[if_neg (mF e),if_neg e];unfold bQ;rw[bA]
theorem IG{l:List Ar}(d:p<m.sp.length)(q:Nat)(n:Int):aJ (setAr m p l) q n=aJ m q n:=by
 unfold aJ;rw[wo d]
 by_cases e:q=p
 ·rw[if_pos e,e]
 ·rw[if_neg e]
theorem Ct{l:List Ar}(d:p<m.sp.length)(q:Nat)(n:Int):eP (setAr m p l) q n=if q=p then onA l n else eP m q n:=by
 unfold eP;rw[wo d]
 by_cases e:q=p
 ·rw[if_pos e,if_pos e]
 ·rw[if_neg e,if_neg e]
theorem Sw{l:List Ar}(d:p<m.sp.length)(q:Nat)(n:Int):gF (setAr m p l) q n=gF m q n:=by
 unfold gF;rw[IG d];rfl
theorem XV(C:m'.sp.length=m.sp.length)(z:∀p,(bQ m' p).tb=(bQ m p).tb)(kd i:Int):bR m' kd i=bR m kd i:=by
 have e:m'.sp.map Sp.tb=m.sp.map Sp.tb:=by
  apply sI
  ·simpa using C
  intro j g d;simp only[fE]at g d;simp only[rJ];have o:=wT (m:=m') (p:=j) g;have h:=wT (m:=m) (p:=j) d;rw[aM g]at o;rw[aM d]at h;rw[aU o,aU h];exact z j
 have k:∀l:List Sp,(l.map λs:Sp=>(fU s.tb).countP (uw kd i))=(l.map Sp.tb).map λt=>(fU t).countP (uw kd i):=λl=>by rw[List.map_map];rfl
 unfold bR;rw[k,k,e]
theorem VS(h:Rt m)(G:Co m)(C:p<m.sp.length)(K:(bQ m p).lv=true){l:List Ar}(N:(dY l).1=0)
 (E:∀n,(aJ m p n).k≠0->∃g,onA l n=some g/\Yt m g (aJ m p n)):Rt (setAr m p l)/\Co (setAr m p l):=by
 have c:=λq=>wo (l:=l) C q;have a:=λq n=>IG (l:=l) C q n;have d:Pt (setAr m p l):={ h.pt with
  spl:=by show(m.sp.set p _).length<=4;rw[bV];exact h.pt.spl
  ar:=λs o=>by
   rcases mr o with o|rfl
   ·exact h.pt.ar s o
   ·exact N
  tb:=λs o=>by
   rcases mr o with o|rfl
   ·exact h.pt.tb s o
   ·exact h.pt.tbN p }
 have b:∀kd i,bR (setAr m p l) kd i=bR m kd i:=XV (by show(m.sp.set p _).length=_;rw[bV]) λq=>by
  rw[c]
  by_cases e:q=p
  ·rw[if_pos e,e]
  ·rw[if_neg e]
 refine⟨⟨d,h.trim,λq z => ?_,⟨h.ca.file,h.ca.lt,h.ca.fr,h.ca.srt⟩,λq j D => ?_,λi O=>by rw[b];exact h.cf i O,h.fc,λs o=>by rw[b];exact h.cs s o⟩,⟨G.tail,G.clean,G.anon⟩⟩
 ·rw[c]at z ⊢
  by_cases e:q=p
  ·rw[if_pos e]at z;have:(bQ m p).lv=false:=z;rw[K]at this;cases this
  rw[if_neg e]at z ⊢;exact⟨(h.live q z).1,λn=>by rw[a];exact(h.live q z).2 n⟩
 rw[a]at D ⊢;rw[Ct C]
 by_cases e:q=p
 ·rw[if_pos e];subst e;obtain⟨g,J,t⟩:=E j D;exact⟨g,J,t.sw,t.lt,t.fr⟩
 rw[if_neg e];obtain⟨g,J,t⟩:=h.en q j D;exact⟨g,J,t.sw,t.lt,t.fr⟩
theorem uD.setAr{w:Wd}(h:uD m w)(d:p<m.sp.length){l:List Ar}{x:Fw}(g:x.lv=(bQ m p).lv)(k:x.ar=l)(o:∀n,sO (onA l n) (x.own n) (gF m p n)):uD (Go.Proofs.YthihaopabbpalaaGreat.setAr m p l) (Ql w p x):=by
 refine⟨by show w.n=(m.sp.set p _).length;rw[bV];exact h.n,λq => ?_,λq => ?_,λq n => ?_,h.nf,h.sz,h.bt⟩
 ·rw[wo d];show(if q=p then x else w.ps q).lv=_
  by_cases e:q=p
  ·rw[if_pos e,if_pos e];exact g
  ·rw[if_neg e,if_neg e];exact h.lv q
 ·rw[wo d];show(if q=p then x else w.ps q).ar=_
  by_cases e:q=p
  ·rw[if_pos e,if_pos e];exact k
  ·rw[if_neg e,if_neg e];exact h.ar q
 rw[Ct d,Sw d];show sO _ ((if q=p then x else w.ps q).own n) _
 by_cases e:q=p
 ·rw[if_pos e,if_pos e,e];exact o n
 ·rw[if_neg e,if_neg e];exact h.own q n
theorem onA_mem:∀ {l:List Ar} {n:Int} {g:Pg},onA l n=some g->∃a∈l,wY n a=true/\g=xU a n
 | [],_,_,h=>by cases h
 | a::l,n,g,h=>by
  rw[kF]at h
  by_cases e:wY n a=true
  ·rw[if_pos e]at h;exact⟨a,by simp,e,(aU h).symm⟩
  rw[if_neg e]at h;obtain⟨b,k,d⟩:=onA_mem h;exact⟨b,by simp[k],d⟩
theorem De{g:Pg}(a:Option Page):sO (some g) a a:=by
 unfold sO
 by_cases h:g.fi<0
 ·simp only[if_pos h]
 ·simp only[if_neg h]
theorem Qe{l:List Ar}{x:Ar}(h:oH l x=0):(jl l x).length<=16/\okF none (jl l x)/\∀n,onA (jl l x) n=if wY n x then some (xU x n)else onA l n:=by
 obtain⟨⟨D,C⟩,d,t,o,z⟩:=Mh h;have g:=FE C;have a:0<=x.fr:=by
  unfold dM at d
  by_cases e:x.fr<0\/x.en<=x.fr\/64<x.en\/x.fi < -1\/5<=x.fi\/x.ba<0
  ·rw[if_pos e]at d;cases d
  ·omega
 have k:=Nz d g a t;rw[z];rw[Ra]at o ⊢;exact⟨o,YB k,λn=>by rw[YT k,QN d n g t]⟩
theorem Yg{w:Wd}(z:lY m)(h:uD m w)(D:p<m.sp.length)(Y:(bQ m p).lv=true)(c:Cl) :
  (vO m p c).2=(Xf w p c).2/\lY (vO m p c).1/\uD (vO m p c).1 (Xf w p c).1:=by
 have r:=h.ar p;unfold vO Xf;simp only[r,h.nf];generalize ha:Sm (bQ m p).ar c=a
 by_cases O:a<0\/64<=a\/c.n<1\/64-a<c.n\/c.f < -1
 ·simp only[if_pos O];exact⟨by first | rfl | trivial,z,h⟩
 simp only[if_neg O]
 by_cases N:(m.st.fs.length:Int)<=c.f
 ·simp only[if_pos N];exact⟨by first | rfl | trivial,z,h⟩
 simp only[if_neg N];generalize hx:(⟨a,a+c.n,c.rd,c.wr,c.sh,c.f,c.b⟩:Ar)=x
 by_cases G:oH (bQ m p).ar x≠0
 ·simp only[if_pos G];exact⟨by first | rfl | trivial,z,h⟩
 simp only[if_neg G];have j : oH (bQ m p).ar x=0:=uK G;obtain⟨z1,z2,Q,z4,z5⟩:=Mh j;obtain⟨U,R,C⟩:=Qe j;have d:∀n g,onA (bQ m p).ar n=some g->wY n x=false:=λn g t=>by
  obtain⟨b,hb,o,_⟩:=onA_mem t;have K:=Q b hb;cases hi:wY n x with
  | false=>rfl
  | true=>
   rw[tF]at hi o;unfold jA at K;simp only[Ey,decide_eq_false_iff_not]at K;omega
 have k:x.fi=c.f:=by rw[<-hx]
 obtain⟨X,V⟩:=VS z.rt z.co D Y (l:=jl (bQ m p).ar x) (qP.2 ⟨U,R⟩) λn Z=>by obtain⟨g,t,i⟩:=z.rt.en p n Z;have hi:=d n g t;refine⟨g,?_,i⟩;rw[C,if_neg (by rw[hi];decide)];exact t
 refine⟨by first | rfl | trivial,⟨X,V,λq n g t => ?_⟩,h.setAr D (h.lv p) rfl λn => ?_⟩
 ·rw[Ct D]at t
  by_cases e:q=p
  ·rw[if_pos e,C]at t
   by_cases hi:wY n x=true
   ·rw[if_pos hi]at t;cases t;show x.fi<(m.st.fs.length:Int);rw[k];omega
   rw[if_neg hi]at t;exact z.fi p n g t
  rw[if_neg e]at t;exact z.fi q n g t
 rw[C];have E:=h.own p n
 by_cases hi:wY n x=true
 ·rw[if_pos hi];have J:eP m p n=none:=by
   cases t:eP m p n with
   | none=>rfl
   | some g=>rw[d n g t]at hi;cases hi
  rw[J]at E;show sO _ ((w.ps p).own n) _;rw[Mv z.rt J,show(w.ps p).own n=none from E];exact De _
 ·rw[if_neg hi];exact E
theorem Qh :copied m p n=false↔gF m p n=none:=by
 unfold copied gF
 by_cases k1:(aJ m p n).k=1
 ·have d:¬(aJ m p n).k=2:=by omega
  rw[if_pos k1]
  by_cases h:(gQ m (aJ m p n).n).f<0
  ·rw[if_pos h];simp[k1,h]
  ·rw[if_neg h];simp[k1,h,d]
 rw[if_neg k1]
 by_cases d:(aJ m p n).k=2
 ·rw[if_pos d];simp[d]
 ·rw[if_neg d];simp[k1,d]
theorem JP(J:lY m){w:Bool}(Q:p<m.sp.length)(N:(bQ m p).lv=true) :
  (eP m p n=none/\nR m p n w=5)\/∃g,eP m p n=some g/\(Ko g w=false/\nR m p n w=8\/Ko g w=true /\
   ((0<=g.fi/\gF m p n=none/\¬jk m.st g.fi g.pg)/\nR m p n w=9\/¬(0<=g.fi/\gF m p n=none/\¬jk m.st g.fi g.pg) /\
    (nR m p n w=10/\(mJ m p n w).2<0\/nR m p n w=0/\0<=wK m p n w/\ZQ m (su m p n w) p n w g (wK m p n w)))):=by
 have C:=J.rt;have Y:=J.co;have O:nR m p n w=if oZ m p n w≠0 then oZ m p n w
  else if 0<=(jY m p n).fi/\copied m p n=false/\qC m.st (jY m p n).fi ((jY m p n).ba+n-(jY m p n).fr)=true then 9
  else if(mJ m p n w).2<0 then 10 else(mJ m p n w).1.e:=by
  unfold nR;rw[if_neg (by rw[Cq.2 C];simp),if_neg (by rw[bu,N];simp;omega),bu]
 rw[O];cases hg:eP m p n with
 | none=>
  left
  have X:fB (bQ m p).ar n<0:=by have h1:¬0<=fB (bQ m p).ar n:=λh2=>(Ba (bQ m p).ar n).1 h2 hg;omega
  have:oZ m p n w=5:=by unfold oZ;rw[if_pos X]
  rw[this,if_pos (by decide)];exact⟨rfl,rfl⟩
 | some g=>
  right
  refine⟨g,rfl,?_⟩;obtain⟨a1,a2,a3,a4,a5,a6,K⟩:=xH hg
  by_cases o:Ko g w=true
  ·right
   refine⟨o,?_⟩;have b:(w=true->g.wr=true)/\(w=false->g.rd=true):=by
    unfold Ko at o;cases w
    ·exact⟨λe=>(by cases e),λ_=>by simpa using o⟩
    ·exact⟨λ_=>by simpa using o,λe=>(by cases e)⟩
   rw[(EO hg).2 b,if_neg (by decide)];have c:(0<=(jY m p n).fi/\copied m p n=false/\qC m.st (jY m p n).fi ((jY m p n).ba+n-(jY m p n).fr)=true)↔(0<=g.fi/\gF m p n=none/\¬jk m.st g.fi g.pg):=by
    rw[a6,Qh];constructor
    ·rintro⟨z,E,G⟩;rw[K z]at G;exact⟨z,E,λV=>qG C.pt.st V (.inr G)⟩
    rintro⟨z,E,G⟩;refine⟨z,E,?_⟩;rw[K z];refine uK λa=>G (Ei C.pt.st z (C.pt.pg hg).1 λt => ?_);rcases t with t|t
    ·have:=J.fi p n g hg;omega
    ·exact a t
   by_cases D:0<=g.fi/\gF m p n=none/\¬jk m.st g.fi g.pg
   ·left
    rw[if_pos (c.2 D)];exact⟨D,rfl⟩
   right
   rw[if_neg (λh=>D (c.1 h))];refine⟨D,?_⟩;have d:0<=g.fi->(aJ m p n).k=0->jk m.st g.fi g.pg:=λz E=>uK λR=>D ⟨z,Au E,R⟩;obtain⟨j,i,l⟩:=Ob C Y (w:=w) Q hg b.1 d
   by_cases t:(mJ m p n w).2<0
   ·left
    rw[if_pos t];exact⟨rfl,t⟩
   right
   rw[if_neg t,j];have U:=i (by omega);refine⟨rfl,by show 0<=(mJ m (p:Int).toNat n w).2;rw[bu];omega,?_⟩;have:=U.mark (e:=(mJ m p n w).1.e) hg;unfold su wK;rw[bu,a3];exact this
  left
  have f : Ko g w=false:=by simpa using o
  refine⟨f,?_⟩;have a:oZ m p n w≠0:=λe=>by
   have:=(EO hg).1 e;unfold Ko at o;cases w
   ·exact o (by simpa using this.2 rfl)
   ·exact o (by simpa using this.1 rfl)
  have Z:oZ m p n w=8:=by
   unfold oZ at a ⊢;rw[if_neg (by omega)]at a ⊢;split at a
   ·rename_i h;rw[if_pos h]
   ·exact absurd rfl a
  rw[if_pos a,Z]
theorem TF{w:Bool}(h:(w&&(jY m p n).sh)=true)(g:(wK m p n w).toNat<(su m p n w).m.fs.length):(aF (su m p n w) (wK m p n w).toNat).d=true:=by
 unfold su wK at g ⊢;simp only[bu]at g ⊢;unfold Jr at g ⊢;simp only[h,if_true,dK]at g ⊢;rw[fP (by rw[dK];exact g),if_pos rfl];rfl
theorem SC{g:Pg}{a b:Option Page}(h:sO (some g) a b)(d:g.fi<0):a.getD zPg=b.getD zPg:=by
 unfold sO at h;simp only[if_pos d]at h;exact h
theorem Ka{g:Pg}{a b:Option Page}(h:sO (some g) a b)(d:¬g.fi<0):a=b:=by
 unfold sO at h;simp only[if_neg d]at h;exact h
theorem QD{g:Pg}{a b:Option Page}(k:g.fi<0->a.getD zPg=b.getD zPg)(h:¬g.fi<0->a=b):sO (some g) a b:=by
 unfold sO
 by_cases d:g.fi<0
 ·simp only[if_pos d];exact k d
 ·simp only[if_neg d];exact h d
theorem Ye(h:Rt m)(N:Co m){P:Page}(J:(aJ m p n).k=1)(Z:(aJ m p n).n=f)(V:(aJ m p n).w=true)(O:(aF m f).f<0) :
  Rt (setFr m f { aF m f with p:=P })/\Co (setFr m f { aF m f with p:=P })/\(∀q j,gF (setFr m f { aF m f with p:=P }) q j=if q=p/\j=n then some P else gF m q j)/\∀g j,aN (setFr m f { aF m f with p:=P }) g j=aN m g j:=by
 obtain⟨C,e1,E,X,hp,ha,g,hg,t⟩:=gP h J;have:C = f:=by omega
 subst this;have K:(aF m C).d=false:=by
  cases K:(aF m C).d with
  | false=>rfl
  | true=>have:=N.anon C E K;omega
 have v:∀c∈m.ca,c.k.toNat≠C:=λc l e=>by have h1:=h.ca.fr c l;have h2:=(h.ca.file c l).1;rw[e]at h1;omega
 have hX:({ aF m C with p:=P }:Fr)=ko (aF m C) P false:=by unfold ko;rw[<-K]
 rw[hX];obtain⟨R,Q⟩:=UJ (P:=P) (d:=false) h N E X (λc l e=>absurd e (v c l)) (λe=>by cases e);have s:∀x,aF (setFr m C (ko (aF m C) P false)) x=if x=C then ko (aF m C) P false else aF m x:=λx=>fP E x;have r:∀q j,(aJ m q j).k=1->(aJ m q j).n=C->q=p/\j=n:=λq j k1 U=>uK λo=>by have h2:=Hf h.pt (by decide) (kd:=1) (i:=(C : Int)) ⟨J,Z⟩ ⟨k1,U⟩ o;have h3:=h.cf C E;have h4:=t.2.2.2.2 V O;omega
 refine⟨R,Q,λq j => ?_,λa b => ?_⟩
 ·have u:aJ (setFr m C (ko (aF m C) P false)) q j=aJ m q j:=rfl;unfold gF;rw[u]
  by_cases k1:(aJ m q j).k=1
  ·rw[if_pos k1,if_pos k1];obtain⟨y,hy,z,_⟩:=gP h k1;show(if(aF (setFr m C (ko (aF m C) P false)) (aJ m q j).n.toNat).f<0 then some (aF (setFr m C (ko (aF m C) P false)) (aJ m q j).n.toNat).p else none)=_;rw[s]
   by_cases e:(aJ m q j).n.toNat=C
   ·rw[if_pos e,if_pos (r q j k1 (by omega)),if_pos (show(ko (aF m C) P false).f<0 from O)];rfl
   have o:¬(q=p/\j=n):=λD=>e (by rw[D.1,D.2];omega);rw[if_neg e,if_neg o];rfl
  have o:¬(q=p/\j=n):=λD=>k1 (by rw[D.1,D.2];exact J);rw[if_neg k1,if_neg k1,if_neg o];rfl
 rcases kG m a b with⟨c,G,l,_⟩|⟨G,Y⟩
 ·rw[jf,jf];have:nV (setFr m C (ko (aF m C) P false)) a b=nV m a b:=rfl;rw[this,G];simp only;show(aF (setFr m C (ko (aF m C) P false)) c.k.toNat).p=(aF m c.k.toNat).p;rw[s,if_neg (v c l)]
 rw[jf,jf];have:nV (setFr m C (ko (aF m C) P false)) a b=nV m a b:=rfl;rw[this,G];rfl
theorem yN(p:Page)(a:Int)(b:List UInt8)(h:0<=a/\a<8)(i:Nat)(d:i<8):(fF p a b)[i]=if a.toNat<=i then b.getD (i-a.toNat) p[i]else p[i]:=by
 unfold fF;simp only[if_pos h,mH]
theorem XB{P:Page}{a s:Int}{d:List UInt8}(h:0<=a/\a<8)(t:aO P s=P)(z:a+d.length<=s\/8<=s):aO (fF P a d) s=fF P a d:=by
 ext i hi
 simp only[aO,mH]
 by_cases g:s<=(i:Int)
 ·rw[if_pos g,yN _ _ _ h _ hi];have k:P[i]=0:=by rw[<-t];simp only[aO,mH];rw[if_pos g]
  have o:d.length<=i-a.toNat:=by omega
  rw[bA,dP o,Kt,k];split<;>rfl
 ·rw[if_neg g]
theorem WT{w:Wd}(o:lY m)(h:uD m w){g:Pg}(t:eP m p n=some g)(G:¬(0<=g.fi/\gF m p n=none/\¬jk m.st g.fi g.pg)) :
  (Vq w p n).1=(jy m p n).1/\(Vq w p n).2.2=0/\(Vq w p n).2.1=(if 0<=g.fi/\gF m p n=none then min 8 ((az m.st g.fi).n-8*g.pg)else 8):=by
 have z:=h.own p n;rw[t]at z;have i:=o.rt.pt.pg t;have f:onA (w.ps p).ar n=some g:=by rw[h.ar];exact t
 rw[Kh o.rt t];unfold Vq;simp only[f]
 by_cases k:g.fi<0
 ·have a:=SC z k;rw[if_neg (show ¬(0<=g.fi/\gF m p n=none) by omega)];cases h1:(w.ps p).own n with
  | none=>
   rw[h1]at a;cases h2:gF m p n with
   | none=>simp only[if_pos k];exact⟨trivial,trivial,trivial⟩
   | some P=>rw[h2]at a; simp only[if_pos k];exact⟨a,trivial,trivial⟩
  | some Q=>
   rw[h1]at a;cases h2:gF m p n with
   | none=>rw[h2]at a; simp only[if_pos k];exact⟨a,trivial,trivial⟩
   | some P=>rw[h2]at a; exact⟨a,rfl,rfl⟩
 have a:=Ka z k;rw[a];cases h2:gF m p n with
 | some P=>rw[if_neg (show ¬(0<=g.fi/\some P=none)fromλJ=>by cases J.2)];exact⟨rfl,rfl,rfl⟩
 | none=>
  have e:jk m.st g.fi g.pg:=uK λc=>G ⟨by omega,h2,c⟩;obtain⟨F,D⟩:∃F:Nat,g.fi=F:=⟨g.fi.toNat,by omega⟩;obtain⟨I,C⟩:∃I:Nat,g.pg=I:=⟨g.pg.toNat,by omega⟩;have c:=qG o.rt.pt.st e;have b:=e;rw[D,C]at b;have U:=YR o.rt.pt.st b;have E:=h.sz F (by have:=b.1;omega);have d:=h.page o.rt o.co b;have R:g.fi.toNat=F:=by omega
  have O:(8*g.pg).toNat=8*I:=by omega
  have N:¬((zR w F).length:Int)<=8*g.pg:=by omega
  have K:0<=g.fi/\True:=⟨by omega,trivial⟩;simp only[if_neg k,if_neg c,R,O,if_neg N,if_pos K];rw[d,E,D,C];refine⟨?_,?_,?_⟩
  all_goals first | rfl | trivial
theorem Zy.sim{w:Wd}{P:Page}{a:Nat}{d:List UInt8}(Q:Rt m)(h:uD m w)(z:jk m.st F I)(S:Zy m M F I P)(O:a<8)(N:(8*I+a+d.length:Int)<=(az m.st F).n)(G:a+d.length<=8)
 (J:P=fF (aN m F I) a d):uD M (PN w F (putB (zR w F) (8*I+a) d)):=by
 have D:F<m.st.fs.length:=by have:=z.1;omega
 have i:=h.sz F D;have c:=S.st;have f:=λg=>MB w F g (putB (zR w F) (8*I+a) d) (by rw[h.nf];exact D);refine⟨by rw[S.sk.len];exact h.n,λq=>by rw[S.sk.lv];exact h.lv q,λq=>by rw[S.sk.ar];exact h.ar q,λq j => ?_,?_,λg k => ?_,λg j k t => ?_⟩
 ·rw[S.own,show eP M q j=eP m q j by unfold eP;rw[S.sk.ar]];exact h.own q j
 ·rw[c,<-h.nf];show(w.fl.set F _).length=_;rw[bV]
 ·rw[f,c];rw[c]at k
  by_cases e:g=F
  ·rw[if_pos e,UF,e];exact i
  ·rw[if_neg e];exact h.sz g k
 rw[c]at k t;rw[f];unfold qw;simp only[S.con]
 by_cases e:g=F
 ·subst e;rw[if_pos rfl,UN _ _ _ (by omega)];have b:=h.bt g j k t
  by_cases U:j / 8=I
  ·have o:((j / 8:Nat):Int)=I:=by omega
   simp only[o,true_and,if_true,J];rw[yN _ _ _ (by omega) _ (rZ _ (by decide))];have K:((a:Nat):Int).toNat=a:=rfl;have C:(zR w g).getD j 0=(aN m g I)[j%8]'(rZ _ (by decide)):=by rw[b];unfold qw;simp only[o]
   rw[K]
   by_cases E:a<=j%8
   ·rw[if_pos E]
    by_cases R:j%8<a+d.length
    ·rw[if_pos (by omega),show j-(8*I+a)=j%8-a by omega,bA,bA,aM (by omega)];rfl
    rw[if_neg (by omega),C,bA,dP (by omega)];rfl
   ·rw[if_neg E,if_neg (by omega),C]
  have o:¬(((j / 8:Nat):Int)=I):=by omega
  rw[if_neg (by omega),b];unfold qw;simp only[true_and,if_neg o]
 have o:¬((g:Int)=F/\((j / 8:Nat):Int)=I):=by omega
 simp only[if_neg o];rw[if_neg e];have b:=h.bt g j k t;unfold qw at b;exact b
theorem Qz{w:Wd}(E:lY m)(h:uD m w)(hp:p<m.sp.length)(hv:(bQ m p).lv=true)(c:Cl)(hcp:c.p=p)(n:Int)(wr:Bool)(hn:wr=true->n=c.da.length) :
  lQ m c n wr=(m,iV 10)\/(lQ m c n wr).2=(JG w p c n wr).2/\lY (lQ m c n wr).1/\uD (lQ m c n wr).1 (JG w p c n wr).1:=by
 unfold lQ JG
 by_cases K:sW c.a n=false
 ·rw[if_pos K,if_pos K];exact .inr ⟨rfl,E,h⟩
 rw[if_neg K,if_neg K];have hZ : 0<=c.a/\0<=n/\n<=8/\c.a%8<=8-n:=by unfold sW at K;simpa[and_assoc]using K
 rw[hcp];generalize hN:c.a / 8=N;have hm:onA (w.ps p).ar N=eP m p N:=by rw[h.ar];rfl
 rcases JP E (n:=N) (w:=wr) hp hv with⟨G,u2⟩|⟨g,G,V⟩
 ·rw[hm,G,u2,if_pos (by decide)];exact .inr ⟨rfl,E,h⟩
 rw[hm,G];simp only;rcases V with⟨u2,Y⟩|⟨u2,V⟩
 ·rw[Y,if_pos (by decide),if_pos u2];exact .inr ⟨rfl,E,h⟩
 rw[if_neg (show ¬Ko g wr=false by rw[u2];decide)];have ho:=h.own p N;rw[G]at ho;have ht:=E.rt.pt.pg G;rcases V with⟨⟨b1,b2,b3⟩,Y⟩|⟨hb,V⟩
 ·
  have h9:(Vq w p N).2.2=9:=by
   have o:=Ka ho (by omega);rw[b2]at o;unfold Vq;have h7:=E.fi p N g G;obtain⟨F,hF⟩:∃F:Nat,g.fi=F:=⟨g.fi.toNat,by omega⟩;have hz:=h.sz F (by omega);have hV:=(iK E.rt.pt.st (f:=(F:Int)) (by omega)).2.2.1;have h3:¬g.pg<(az m.st F).b.length:=λhl=>b3 (by rw[hF];exact⟨by omega,ht.1,hl⟩);rw[hV]at h3;have h4:((zR w g.fi.toNat).length:Int)<=8*g.pg:=by rw[hF,bu,hz];unfold bn at h3;split at h3<;>omega
   rw[hm,G];simp only[o,if_neg (show ¬g.fi<0 by omega),if_pos h4]
  rw[Y,if_pos (by decide),h9,if_pos (by decide)];exact .inr ⟨rfl,E,h⟩
 obtain⟨v1,v2,v3⟩:=WT E h G hb;rcases V with⟨Y,_⟩|⟨Y,hF0,U⟩
 ·left
  rw[Y,if_pos (by decide)]
 right
 rw[Y,if_neg (show ¬(0:Int)≠0 by decide),v2,if_neg (show ¬(0:Int)≠0 by decide)];have i:=TF (m:=m) (p:=p) (n:=N) (w:=wr);generalize hr:wK m p N wr=r at U i hF0 ⊢;generalize hm1:su m p N wr=m1 at U i ⊢;obtain⟨f,hf⟩:∃f:Nat,r=f:=⟨r.toNat,by omega⟩;subst hf;simp only[bu]at i ⊢;have hB:=U.k1;have hM:=U.en;obtain⟨D,e1,hL,h8,_,h5,g1,hK,u⟩:=gP U.rt hB;have x:D = f:=by omega
 subst x;have s:=U.vis.sk;have hh:∀q j,eP m1 q j=eP m q j:=λq j=>by unfold eP;rw[s.ar]
 rw[hh,G]at hK;cases hK;have hq:jy m1 p N=((aF m1 D).p,decide ((aF m1 D).f<0),0):=by rw[uF ((hh p N).trans G) hB,hM];rfl
 have hP:(aF m1 D).p=(Vq w p N).1:=by rw[v1];have:=U.see;rw[hq]at this;exact congrArg Prod.fst this
 have hD:lY m1:=⟨U.rt,U.co,λq j g hg=>by rw[U.vis.files];rw[hh]at hg;exact E.fi q j g hg⟩;have hu:gF m1 p N=if(aF m1 D).f<0 then some (aF m1 D).p else none:=by rw[tH U.rt,hq];simp only[decide_eq_true_eq]
 -- what the machine tells that had the page brought
 have hT:(0<=g.fi->((aF m1 D).f<0↔gF m p N≠none))->uD m1 w:=λl=>by
  refine⟨by rw[s.len];exact h.n,λq=>by rw[s.lv];exact h.lv q,λq=>by rw[s.ar];exact h.ar q,λq j => ?_,by rw[U.vis.files];exact h.nf,λa X=>by rw[U.vis.size];exact h.sz a (by rw[<-U.vis.files];exact X),λa j X hj => ?_⟩
  ·rw[hh]
   by_cases e:q=p/\j=N
   ·rw[e.1,e.2,G,hu]
    by_cases x:g.fi<0
    ·have Z:(aF m1 D).f<0:=by
      rcases Li (aF m1 D).f 0 with C | C
      ·exact C
      ·have:=u.1 C; omega
     rw[if_pos Z];refine QD (λ_ => ?_) (λC=>absurd x C);show _=(aF m1 D).p;rw[hP];unfold Vq;rw[hm,G];cases (w.ps p).own N with
     | none=>simp only[if_pos x];rfl
     | some Q=>rfl
    refine QD (λC=>absurd C x) (λ_ => ?_);have o:=Ka ho x;have hi:=l (by omega);cases h2:gF m p N with
    | none=>
     rw[h2]at o hi;rw[o,if_neg (λC=>(hi.1 C) rfl)]
    | some Q=>
     rw[h2]at o hi;rw[o,if_pos (hi.2 (by simp)),hP];unfold Vq;rw[hm,G,o]
   have:gF m1 q j=gF m q j:=by rw[tH U.rt,tH E.rt,U.vis.see q j e]
   rw[this];exact h.own q j
  rw[U.vis.files]at X;rw[U.vis.size]at hj;rw[h.bt a j X hj];unfold qw;rw[U.vis.con _ _ (tL E.rt.pt.st X hj)]
 have hc:(jy m p N).2.1=true↔gF m p N≠none:=by
  rw[Kh E.rt G];cases h2:gF m p N with
  | some Q=>simp
  | none=>
   simp only;constructor
   ·intro C;split at C
    ·cases C
    ·split at C<;>cases C
   ·intro C; exact absurd rfl C
 have l:(wr=false\/g.sh=true)->0<=g.fi->((aF m1 D).f<0↔gF m p N≠none):=λJ h0=>by have:=U.same J h0;rw[hq]at this;rw[<-hc,<-this];simp only[decide_eq_true_eq]
 have hd:wr=true->g.sh=false->(aF m1 D).f<0:=λJ O=>by have:=U.own J O;rw[hq]at this;simpa using this
 -- behind the file's end
 have hk:zL m1 (aF m1 D) (c.a%8+n)=true↔(¬(g.fi<0\/wr=true/\g.sh=false)/\(Vq w p N).2.1<c.a%8+n):=by
  unfold zL;simp only[dJ,decide_eq_true_eq];rw[v3,U.vis.size]
  by_cases Z:(aF m1 D).f<0
  ·constructor
   ·intro C; omega
   rintro⟨k1,k2⟩;have v:0<=g.fi:=by omega
   have J:wr=false\/g.sh=true:=by
    cases wr
    ·exact .inl rfl
    cases O:g.sh
    ·exact absurd (.inr ⟨rfl,O⟩) k1
    ·exact .inr rfl
   have:=(l J v).1 Z;rw[if_neg (λC=>this C.2)]at k2;omega
  have t:=u.1 (by omega);have v:0<=g.fi:=by omega
  have J:wr=false\/g.sh=true:=by
   cases hwr:wr
   ·exact .inl rfl
   cases O:g.sh
   ·exact absurd (hd hwr O) Z
   ·exact .inr rfl
  have hy:gF m p N=none:=uK λhU=>Z ((l J v).2 hU);rw[if_pos ⟨v,hy⟩,t.1,t.2];constructor
  ·rintro⟨_,k2⟩;refine⟨?_,by omega⟩;rintro(k|⟨k3,k4⟩)
   ·omega
   rcases J with J|J
   ·rw[k3]at J;cases J
   ·rw[k4]at J;cases J
  rintro⟨_,k2⟩;exact⟨v,by omega⟩
 by_cases R:zL m1 (aF m1 D) (c.a%8+n)=true
 ·rw[if_pos R,if_pos (hk.1 R)];exact⟨rfl,E,h⟩
 rw[if_neg R,if_neg (λC=>R (hk.2 C))];cases hwr:wr with
 | false=>
  rw[if_neg (by decide),if_pos rfl,hP];exact⟨rfl,hD,hT (l (.inl hwr))⟩
 | true=>
  have h6:=hn hwr;rw[if_pos rfl,if_neg (by decide)];cases O:g.sh with
  | true=>
   rw[if_pos rfl];have v:0<=g.fi:=by
    rcases Li g.fi 0 with C | C
    ·have:=(ht.2.2.2.2.1 C).1;rw[O]at this;cases this
    ·exact C
   have hE:=u.2.1 O;have t:=u.1 hE;have hS:=hT (l (.inr O));obtain⟨d1,ka⟩:∃b,b=(aF m1 D).d:=⟨_,rfl⟩;have hW:(aF m1 D).d=true:=by refine i ?_ hL;rw[hwr,(xH G).2.2.1,O];rfl
   obtain⟨cc,y,hQ⟩:=U.rt.fc D hL hE;have hC:=U.rt.ca.fr cc y;rw[hQ,bu]at hC;obtain⟨F,hF⟩:∃F:Nat,g.fi=F:=⟨g.fi.toNat,by omega⟩;obtain⟨I,hI⟩:∃I:Nat,g.pg=I:=⟨g.pg.toNat,by omega⟩;obtain⟨A,hA⟩:∃A:Nat,c.a%8=A:=⟨(c.a%8).toNat,by omega⟩;have hY:(⟨(F:Int),(I:Int),(D : Int)⟩:Cc)=cc:=by rw[<-hF,<-hI,<-t.1,<-t.2,<-hQ,hC.2.1,hC.2.2]
   rw[<-hY]at y;have hJ:jk m1.st F I:=U.rt.ca.file _ y;have z:=U.co.tail _ y;simp only[bu]at z;have hO:aN m1 F I=(aF m1 D).p:=dC U.rt.ca y;have h1:¬((az m1.st F).n<I*8+(A+n)):=λC=>R (by unfold zL;simp only[dJ,decide_eq_true_eq];rw[t.1,t.2,hF,hI,hA];exact⟨by omega,C⟩);have S:=KP (P:=fF (aF m1 D).p (A:Int) c.da) U.rt U.co y (XB (by omega) z (.inl (by omega)));have hX:({ aF m1 D with p:=fF (aF m1 D).p (A:Int) c.da }:Fr)=ko (aF m1 D) (fF (aF m1 D).p (A:Int) c.da) true:=by unfold ko;rw[<-hW]
   rw[hA,hX,hF,bu,hI,show((8:Int)*(I:Int)+(A:Int)).toNat=8*I+A by omega];refine⟨rfl,⟨S.rt,S.co,λq j g hg => ?_⟩,S.sim U.rt hS hJ (by omega) (by omega) (by omega) (by rw[hO])⟩;rw[S.st];exact hD.fi q j g (by unfold eP at hg ⊢; rw[<-S.sk.ar];exact hg)
  | false=>
   rw[if_neg (by decide)];have Z:=hd hwr O;obtain⟨k1,k2,k3,k4⟩:=Ye U.rt U.co (P:=fF (aF m1 D).p (c.a%8) c.da) hB (by rw[hM]) (U.ew hwr) Z;rw[<-hP];refine⟨rfl,⟨k1,k2,λq j g hg=>hD.fi q j g hg⟩,?_⟩;refine⟨by show w.n=m1.sp.length;rw[s.len];exact h.n,λq => ?_,λq => ?_,λq j => ?_,by show w.fl.length=m1.st.fs.length;rw[U.vis.files];exact h.nf,λa X => ?_,λa j X hj => ?_⟩
   ·show(if q=p then _ else w.ps q).lv=(bQ m1 q).lv;rw[s.lv]
    by_cases e:q=p
    ·rw[if_pos e,e];exact h.lv p
    ·rw[if_neg e];exact h.lv q
   ·show(if q=p then _ else w.ps q).ar=(bQ m1 q).ar;rw[s.ar]
    by_cases e:q=p
    ·rw[if_pos e,e];exact h.ar p
    ·rw[if_neg e];exact h.ar q
   ·rw[k3];show sO (eP m1 q j) ((if q=p then _ else w.ps q).own j) _;rw[hh]
    by_cases e:q=p
    ·subst e;rw[if_pos rfl];show sO _ (if j=N then _ else(w.ps q).own j) _
     by_cases e2:j=N
     ·rw[if_pos e2,if_pos ⟨rfl,e2⟩,e2,G];exact De _
     rw[if_neg e2,if_neg (λC=>e2 C.2)];have:gF m1 q j=gF m q j:=by rw[tH U.rt,tH E.rt,U.vis.see q j (λC=>e2 C.2)]
     rw[this];exact h.own q j
    rw[if_neg e,if_neg (λC=>e C.1)];have:gF m1 q j=gF m q j:=by rw[tH U.rt,tH E.rt,U.vis.see q j (λC=>e C.1)]
    rw[this];exact h.own q j
   ·show((zR w a).length:Int)=(az m1.st a).n;rw[U.vis.size];exact h.sz a (by rw[<-U.vis.files];exact X)
   have hR : a<m.st.fs.length:=by rw[<-U.vis.files];exact X
   have hH : (j:Int)<(az m.st a).n:=by rw[<-U.vis.size];exact hj
   show(zR w a).getD j 0=_;rw[h.bt a j hR hH];unfold qw;rw[k4,U.vis.con _ _ (tL E.rt.pt.st hR hH)]
theorem YS{f i:Int}(h:dF s f i=0):(eH s f i).count=s.count:=by
 unfold eH;rw[if_neg (by rw[h];simp)];split<;>rfl
theorem Inv.count(h:Inv m m'):m'.st.count=m.st.count:=
 h (λx=>x.st.count=m.st.count) ⟨λx f _ _ d o z t k=>(YS k).trans d,λx y _ _ d _ _ g=>by rw[g.st];exact d⟩ rfl
structure vT (m m' : Ma):Prop where
 fr:m'.m.fs.length=m.m.fs.length
 sl:m'.sl.length=m.sl.length
 ct:m'.st.count=m.st.count
theorem vT.refl(m:Ma):vT m m:=⟨rfl,rfl,rfl⟩
theorem vT.trans{a b c:Ma}(h:vT a b)(k:vT b c):vT a c:=⟨k.fr.trans h.fr,k.sl.trans h.sl,k.ct.trans h.ct⟩
theorem Lb.stay{f i r:Int}(B:Lb m m' f i r):vT m m':=⟨B.len,B.sll,B.inv.count⟩
theorem Xe{b:List UInt8}{a n t:Nat}(h:a+n<=t)(d:t<=b.length):(b.drop a).take n++(b.drop (a+n)).take (t-(a+n))=(b.drop a).take (t-a):=by
 rw[show t-a=n+(t-(a+n)) by omega,List.take_add,List.drop_drop]
theorem YL{p:Page}{a:Int}(h:0<=a/\0<=n/\a+n<=8):qM p a n=(p.toList.drop a.toNat).take n.toNat:=by
 unfold qM;rw[if_neg (by omega)]
theorem Vo{b:List UInt8}{P:Page}{n:Nat}(o:A+n<=8)(g:8*i+A+n<=b.length)(h:∀k (d:k<8),8*i+k<b.length->b.getD (8*i+k) 0=P[k]):(P.toList.drop A).take n=(b.drop (8*i+A)).take n:=by
 apply qB;intro k;rw[jO,jO]
 by_cases d:k<n
 ·rw[if_pos d,if_pos d,pG,pG,aM (by simp;omega),aM (by omega)];have:=h (A+k) (by omega) (by omega);rw[bA,aM (by omega),sQ]at this;simp only[Vector.getElem_toList,<-this];congr 2;omega
 ·rw[if_neg d,if_neg d]
theorem KG{m:Ma}{w:Wd}(J:Rt m)(h:uD m w){F:Nat}(C:F<m.st.fs.length){T:Nat}(hT:(T:Int)<=(az m.st F).n):∀(t:Nat) (k:Kp) (a:Nat) (o:List UInt8),Rt k.m->Co k.m->Aj m k.m->(a<T->T<=8*(a / 8+t)) ->
  (jD F T t k a o).1.e=k.e/\Rt (jD F T t k a o).1.m/\Co (jD F T t k a o).1.m/\Aj m (jD F T t k a o).1.m/\vT k.m (jD F T t k a o).1.m/\((jD F T t k a o).2.1=10\/(jD F T t k a o).2.1=0/\(jD F T t k a o).2.2=o++((zR w F).drop a).take (T-a))
 | 0,k,a,o,k1,k2,k3,ht=>by
  have E:T-a=0:=by omega
  refine⟨rfl,k1,k2,k3,.refl _,.inr ⟨rfl,?_⟩⟩;rw[E];simp[jD]
 | t+1,k,a,o,k1,k2,k3,ht=>by
  unfold jD
  by_cases G:(T:Int)<=a
  ·rw[if_pos G];have E:T-a=0:=by omega
   refine⟨rfl,k1,k2,k3,.refl _,.inr ⟨rfl,?_⟩⟩;rw[E];simp
  rw[if_neg G];have d:=tL J.pt.st C (j:=a) (by omega);have Z:((a:Nat):Int) / 8=((a / 8:Nat):Int):=by omega
  have g:jk k.m.st F (a / 8:Nat):=d.same k3.files k3.lenb;obtain⟨c1,B⟩:=nC (k:=k) k1 k2 g;simp only[Z];generalize hr:cO k F (a / 8:Nat)=r at c1 B ⊢;have D:=k3.trans B.vis
  by_cases K:r.2<0
  ·rw[if_pos K];exact⟨c1,B.rt,B.co,D,B.stay,.inl rfl⟩
  rw[if_neg K];have l:=B.yes (by omega);have f:aN r.1.m F (a / 8:Nat)=(aF r.1.m r.2.toNat).p:=dC (c:=⟨(F:Int),((a / 8:Nat):Int),r.2⟩) B.rt.ca l;rw[D.con _ _ d]at f;have s:=h.sz F C;obtain⟨n,Y⟩:∃n:Nat,min (8-(a:Int)%8) ((T:Int)-a)=n:=⟨(min (8-(a:Int)%8) ((T:Int)-a)).toNat,by omega⟩;have u:a+n<=T/\1<=n/\a%8+n<=8/\(T<=a+n\/(a+n)%8=0):=by omega
  have hA:(a:Int)%8=((a%8:Nat):Int):=by omega
  have hg:qM (aF r.1.m r.2.toNat).p ((a:Int)%8) n=((zR w F).drop a).take n:=by
   rw[YL (by omega),hA,bu,bu];have:=Vo (b:=zR w F) (P:=(aF r.1.m r.2.toNat).p) (i:=a / 8) (A:=a%8) (n:=n) (by omega) (by omega) λj hj hl=>by
    rw[h.bt F _ C (by omega)];unfold qw;have e1:(8*(a / 8)+j) / 8=a / 8:=by omega
    have e2:(8*(a / 8)+j)%8=j:=by omega
    simp only[e1,e2];simp only[<-f]
   rw[this,show 8*(a / 8)+a%8=a by omega]
  have q:((a:Nat):Int)+(n:Int)=((a+n:Nat):Int):=by omega
  have N:=KG J h C hT t r.1 (a+n) (o++qM (aF r.1.m r.2.toNat).p ((a:Int)%8) n) B.rt B.co D (by omega);simp only[Y,q];obtain⟨X,V,U,R,O,z⟩:=N;refine⟨X.trans c1,V,U,R,B.stay.trans O,?_⟩;rcases z with z|⟨z,Q⟩
  ·exact .inl z
  refine .inr ⟨z,?_⟩;rw[Q,hg,lF,Xe (by omega) (by omega)]
theorem Rq{w:Wd}(k:lY m)(h:uD m w){c:Cl}(V:c.f=F)(N:F<m.st.fs.length) :
  vg m c=(m,iV 10)\/(vg m c).2=(Wm w c).2/\lY (vg m c).1/\uD (vg m c).1 (Wm w c).1:=by
 unfold vg Wm
 by_cases t:c.a<0\/c.n<0
 ·rw[if_pos t,if_pos t];exact .inr ⟨rfl,k,h⟩
 rw[if_neg t,if_neg t];have g:=h.sz F N;have i:=(iK k.rt.pt.st (f:=(F:Int)) (by omega)).2.1;simp only[V];obtain⟨a,E⟩:∃a:Nat,uI (az m.st F).n c=a:=⟨(uI (az m.st F).n c).toNat,by unfold uI;omega⟩;obtain⟨T,G⟩:∃T:Nat,toC (az m.st F).n c=T:=⟨(toC (az m.st F).n c).toNat,by unfold toC;omega⟩;have d:(T:Int)<=(az m.st F).n:=by rw[<-G];unfold toC;omega
 have b:T-a=(min c.n ((az m.st F).n-min c.a (az m.st F).n)).toNat:=by unfold toC at G;unfold uI at E;omega
 obtain⟨K,C,J,z,O,o⟩:=KG k.rt h N d 13 ⟨m,0⟩ a [] k.rt k.co (.refl m) (by omega);rw[E,G];generalize hr:jD F T 13 ⟨m,0⟩ a []=r at K C J z o O ⊢;unfold NP zJ;rcases o with o|⟨o,Q⟩
 ·left
  simp only[o];rfl
 right
 have D : r.1.e=0:=K;simp only[o,D,if_true];have R:r.2.2=((zR w F).drop c.a.toNat).take c.n.toNat:=by
  rw[Q,JX,b];unfold uI at E
  by_cases U:c.a<=(az m.st F).n
  ·have X:a=c.a.toNat:=by omega
   rw[X];apply List.take_eq_take_iff.2;rw[sU];omega
  have Z:(zR w F).drop a=[]:=tu (by omega);have Y:(zR w F).drop c.a.toNat=[]:=tu (by omega);rw[Z,Y,List.take_nil,List.take_nil]
 rw[bu,R];refine⟨?_,k.vis C J z,h.vis k.rt C z⟩
 first | rfl | trivial
theorem Zn.sim{w:Wd}(D:Rt m)(J:Co m)(h:uD m w){n:Nat}(E:F<m.st.fs.length)(S:Zn m M F n):uD M (PN w F (sizedB (zR w F) n)):=by
 have f:=h.sz F E;have a:=λg=>MB w F g (sizedB (zR w F) n) (by rw[h.nf];exact E);refine⟨by rw[S.sk.len];exact h.n,λq=>by rw[S.sk.lv];exact h.lv q,λq=>by rw[S.sk.ar];exact h.ar q,λq j => ?_,?_,λg o => ?_,λg j o z => ?_⟩
 ·rw[S.own,show eP M q j=eP m q j by unfold eP;rw[S.sk.ar]];exact h.own q j
 ·rw[S.files,<-h.nf];show(w.fl.set F _).length=_;rw[bV]
 ·rw[a,S.size];rw[S.files]at o
  by_cases e:g=F
  ·rw[if_pos e,if_pos (by omega),PQ]
  ·rw[if_neg e,if_neg (by omega)];exact h.sz g o
 have c:=tL S.rt.pt.st o z;rw[S.files]at o;rw[S.size]at z;rw[a];unfold qw;rw[S.con _ _ c]
 by_cases e:g=F
 ·subst e;rw[if_pos rfl]at z;simp only[if_true];rw[Oi _ _ (by omega)]
  by_cases C:jk m.st g (j / 8:Nat)
  ·simp only[if_pos C];have b:(aO (aN m g (j / 8:Nat)) ((n:Int)-((j / 8:Nat):Int)*8))[j%8]'(rZ _ (by decide))=(aN m g (j / 8:Nat))[j%8]'(rZ _ (by decide)):=by simp only[aO,mH];rw[if_neg (by omega)]
   rw[b]
   by_cases t:(j:Int)<(az m.st g).n
   ·have:=h.bt g j o t;unfold qw at this;exact this
   rw[bA,dP (by omega),Kt];have d:=BR D J g (j / 8:Nat);rw[<-d];simp only[aO,mH];rw[if_pos (by omega)]
  simp only[if_neg C];have t:¬(j:Int)<(az m.st g).n:=λt=>C (tL D.pt.st o t);rw[bA,dP (by omega),Kt];have G:∀k (K:k<8),zPg[k]=0:=by decide
  rw[G _ (rZ _ (by decide))]
 rw[if_neg e];have e' : ¬((g:Int)=F):=by omega
 simp only[if_neg e'];have t:(j:Int)<(az m.st g).n:=by rw[if_neg e']at z;exact z
 have:=h.bt g j o t;unfold qw at this;exact this
theorem Zn.good(h:lY m){f:Int}(S:Zn m M f n):lY M:=⟨S.rt,S.co,λp j g d=>by rw[S.files];exact h.fi p j g (by unfold eP at d ⊢; rw[<-S.sk.ar];exact d)⟩
theorem HZ(d:Rt m)(h:F<m.st.fs.length)(g:0<=n/\n<=96):jE m.st F n=0:=by
 unfold jE;rw[if_neg (by rw[d.pt.st];simp),if_neg (by omega),if_neg (by omega)]
theorem QI{w:Wd}(d:lY m)(h:uD m w){c:Cl}(E:c.f=F)(z:F<m.st.fs.length) :
  vk m c=(m,iV 10)\/(vk m c).2=(VK w c).2/\lY (vk m c).1/\uD (vk m c).1 (VK w c).1:=by
 unfold vk VK
 by_cases o:c.n<0\/96<c.n
 ·rw[if_pos o,if_pos o];exact .inr ⟨rfl,d,h⟩
 rw[if_neg o,if_neg o];rw[E];obtain⟨C,g⟩:=Ll (k:=⟨m,0⟩) d.rt d.co (HZ d.rt z (n:=c.n) (by omega));unfold NP zJ;rcases g with⟨g,S⟩|⟨g,_⟩
 ·right
  have t : (lw ⟨m,0⟩ (F:Int) c.n).1.e=0:=C;simp only[g,t,if_true];rw[bu];obtain⟨n,D⟩:∃n:Nat,c.n=n:=⟨c.n.toNat,by omega⟩;rw[D]at S ⊢;rw[bu];refine⟨?_,S.good d,S.sim d.rt d.co h z⟩
  first | rfl | trivial
 left
 simp only[g];rfl
def GN(m:Ma):Ma × An:=if jV m.st=0 then({ m with st:=mR m.st },⟨0,jX m.st,[]⟩)else(m,iV (jV m.st))
theorem Oh(s:St)(f:Int):az ⟨s.fs++[⟨0,[]⟩],s.count⟩ f=az s f:=by
 unfold az
 by_cases h:0<=f
 ·rw[if_pos h,if_pos h];simp only[bA,yP]
  by_cases e:f.toNat<s.fs.length
  ·rw[if_pos e]
  rw[if_neg e,dP (l:=s.fs) (by omega)]
  by_cases d:f.toNat-s.fs.length=0
  ·rw[d];rfl
  ·rw[dP (by simp;omega)]
 ·rw[if_neg h,if_neg h]
theorem XR{w:Wd}(K:lY m)(h:uD m w):(GN m).2=(Uz w).2/\lY (GN m).1/\uD (GN m).1 (Uz w).1:=by
 have C:=K.rt;have Q:=K.co;have O:=C.pt.st;obtain⟨⟨w1,w2,w3⟩,Y,X⟩:=iU.1 O;unfold GN Uz;rw[h.nf]
 by_cases V:m.st.fs.length=5
 ·have e:jV m.st=4:=by unfold jV;rw[if_neg (by rw[O];simp),if_pos V]
  rw[e,if_neg (by decide),if_pos (by omega)];exact⟨rfl,K,h⟩
 have e:jV m.st=0:=by unfold jV;rw[if_neg (by rw[O];simp),if_neg V]
 have eS:mR m.st=⟨m.st.fs++[⟨0,[]⟩],m.st.count⟩:=by unfold mR;rw[if_pos e]
 have eN:jX m.st=m.st.fs.length:=by unfold jX;rw[if_pos e]
 rw[if_pos e,if_neg (by omega),eS,eN];generalize hs:(⟨m.st.fs++[⟨0,[]⟩],m.st.count⟩:St)=s;have a:∀f,az s f=az m.st f:=λf=>by rw[<-hs];exact Oh m.st f
 have r:s.fs.length=m.st.fs.length+1:=by rw[<-hs];simp
 have x:s.count=m.st.count:=by rw[<-hs]
 have z:∀f i,aZ s f i=aZ m.st f i:=λf i=>by unfold aZ;rw[a]
 have o:gZ s=gZ m.st:=by rw[<-hs];unfold gZ;simp
 have hh:∀f i,jk s f i↔jk m.st f i:=λf i=>by
  unfold jk;rw[a,r];constructor
  ·rintro⟨⟨N,a2⟩,U,G⟩;refine⟨⟨N,?_⟩,U,G⟩;rcases Li f m.st.fs.length with J|J
   ·exact J
   have:az m.st f=⟨0,[]⟩:=by unfold az;rw[if_pos N,bA,dP (by omega)];rfl
   rw[this]at G;simp at G;omega
  rintro⟨⟨N,a2⟩,U,G⟩;exact⟨⟨N,by omega⟩,U,G⟩
 have d:∀f i,dh { m with st:=s } f i=dh m f i:=λf i=>by unfold dh;show(if 0<=aZ s f i then aO (dN m.dk (aZ s f i)) ((az s f).n-i*8)else zPg)=_;rw[z,a]
 have y:∀f i,aN { m with st:=s } f i=aN m f i:=λf i=>by
  rw[jf,jf];have J:nV { m with st:=s } f i=nV m f i:=rfl;rw[J];cases nV m f i with
  | none=>exact d f i
  | some c=>rfl
 have ha:aQ s=0:=iU.2 ⟨⟨by omega,by omega,by omega⟩,λf D=>by
  rw[x];rw[<-hs]at D;rcases ik.1 D with D|D
  ·exact Y f D
  simp only[bF]at D;subst D;exact⟨by decide,by decide,by decide,λb hb=>by simp at hb⟩,by rw[o];exact X⟩
 have hi : Rt { m with st:=s }:=⟨{ C.pt with st:=ha,dkl:=by show(m.dk.blocks.length:Int)=s.count;rw[x];exact C.pt.dkl },by
   show(∀b:Int,0<=b->b<m.dk.blocks.length->b∈gZ s\/_)/\∀q∈m.dk.queue,q.1∈gZ s;rw[o];exact C.trim,C.live,⟨λc E=>(hh _ _).2 (C.ca.file c E),C.ca.lt,C.ca.fr,C.ca.srt⟩,λp n hk=>by obtain⟨g,h1,R⟩:=C.en p n hk;exact⟨g,h1,R.sw,R.lt,R.fr⟩,C.cf,C.fc,C.cs⟩
 have Z : Co { m with st:=s }:=⟨λc E=>by show aO (aF m c.k.toNat).p ((az s c.f).n-c.i*8)=_;rw[a];exact Q.tail c E,λc E hd=>by rw[d];exact Q.clean c E hd,Q.anon⟩;refine⟨by first | rfl | trivial,⟨hi,Z,λp n g hg => ?_⟩,?_⟩
 ·have:=K.fi p n g hg;show g.fi<(s.fs.length:Int);omega
 refine⟨h.n,h.lv,h.ar,h.own,?_,λf D => ?_,λf j D hj => ?_⟩
 ·show(w.fl++[[]]).length=s.fs.length;rw[fI,h.nf,r];rfl
 ·show(((w.fl++[[]]).getD f []).length:Int)=(az s f).n;rw[a];have v : f<s.fs.length:=D;have u:(w.fl++[[]]).getD f []=w.fl.getD f []:=by
   simp only[bA,yP]
   by_cases e:f<w.fl.length
   ·rw[if_pos e]
   rw[if_neg e,dP (l:=w.fl) (by omega)];have:=h.nf;rw[show f-w.fl.length=0 by omega];rfl
  rw[u]
  by_cases e:f<m.st.fs.length
  ·exact h.sz f e
  have:az m.st f=⟨0,[]⟩:=by unfold az;rw[if_pos (by omega),bA,dP (by omega)];rfl
  rw[this,bA,dP (by rw[h.nf];omega)];rfl
 have t : (j:Int)<(az m.st f).n:=by have:(j:Int)<(az s f).n:=hj;rw[a]at this;exact this
 have v : f<m.st.fs.length:=by
  rcases gB f m.st.fs.length with e|e
  ·exact e
  have:az m.st f=⟨0,[]⟩:=by unfold az;rw[if_pos (by omega),bA,dP (by omega)];rfl
  rw[this]at t;have:(j:Int)<0:=t;omega
 show((w.fl++[[]]).getD f []).getD j 0=_;have u:(w.fl++[[]]).getD f []=w.fl.getD f []:=by simp only[bA,yP];rw[if_pos (by rw[h.nf];exact v)]
 rw[u];unfold qw;simp only[y];have:=h.bt f j v t;unfold qw at this;exact this
theorem Ww{w:Wd}(h:uD m w):(Qu w:Int)=nT m:=by
 unfold Qu nT yz;have a:∀i (z:i<m.sp.length),(w.ps i).lv=m.sp[i].lv:=λi z=>by rw[h.lv];have:=wT (m:=m) (p:=i) z;rw[aM z]at this;rw[aU this]
 rcases yT (λs:Sp => !s.lv) m.sp with⟨e,d⟩|⟨k,C,e,t,o⟩
 ·rw[e,if_pos (by decide)];have:(List.range w.n).find? (λq => !(w.ps q).lv)=none:=by rw[sG];intro q g;rw[dx,h.n]at g;have:=d q g;simp only[<-a q g]at this;simp[this]
  rw[this];simp[h.n]
 rw[e,if_neg (by omega)];have:(List.range w.n).find? (λq => !(w.ps q).lv)=some k:=by rw[Jz];refine⟨by rw[a k C];exact t,by rw[dx,h.n];exact C,λj D => ?_⟩;have:=o j (by omega) D;simp only[<-a j (by omega)]at this;simp[this]
 rw[this];rfl
theorem NI(k:m'.sw=m.sw)(o:∀g,(aF m' g).p=(aF m g).p/\(aF m' g).f=(aF m g).f)(d:alike (aJ m p n) (aJ m' q n)):gF m' q n=gF m p n:=by
 unfold gF;rw[d.1,d.2,k];have h:=o (aJ m p n).n.toNat;have z:(gQ m' (aJ m p n).n).f=(gQ m (aJ m p n).n).f:=h.2;have t:(gQ m' (aJ m p n).n).p=(gQ m (aJ m p n).n).p:=h.1;rw[z,t]
theorem Ya{w:Wd}(t:lY m)(h:uD m w)(z:q=Qu w)(C:q≠4)(F:Forked m m' p q):lY m'/\uD m' (RS w p).1/\(RS w p).2=⟨0,q,[]⟩:=by
 unfold RS;rw[<-z,if_neg C];have b:∀a n,eP m' a n=if a=q then eP m p n else eP m a n:=λa n=>by
  unfold eP
  by_cases e:a=q
  ·rw[if_pos e,e,F.spq.2]
  ·rw[if_neg e,(F.spo a e).2]
 refine⟨⟨F.rt,F.co,λa n g d => ?_⟩,⟨?_,λa => ?_,λa => ?_,λa n => ?_,by rw[F.st];exact h.nf,by rw[F.st];exact h.sz,λf j o k => ?_⟩,rfl⟩
 ·rw[F.st];rw[b]at d
  by_cases e:a=q
  ·rw[if_pos e]at d;exact t.fi p n g d
  ·rw[if_neg e]at d;exact t.fi a n g d
 ·show max w.n (q+1)=_;rw[F.spl,h.n]
 ·show(if a=q then({ w.ps p with lv:=true }:Fw)else w.ps a).lv=_
  by_cases e:a=q
  ·rw[if_pos e,e,F.spq.1]
  ·rw[if_neg e,(F.spo a e).1];exact h.lv a
 ·show(if a=q then({ w.ps p with lv:=true }:Fw)else w.ps a).ar=_
  by_cases e:a=q
  ·rw[if_pos e,e,F.spq.2];exact h.ar p
  ·rw[if_neg e,(F.spo a e).2];exact h.ar a
 ·show sO _ ((if a=q then({ w.ps p with lv:=true }:Fw)else w.ps a).own n) _;rw[b]
  by_cases e:a=q
  ·rw[if_pos e,if_pos e,e,NI F.sw (λg=>⟨(F.fr g).1,(F.fr g).2.2.2.1⟩) (F.chd n)];exact h.own p n
  rw[if_neg e,if_neg e,NI F.sw (λg=>⟨(F.fr g).1,(F.fr g).2.2.2.1⟩) (F.oth a n e)];exact h.own a n
 rw[F.st]at o k;show(zR w f).getD j 0=_;rw[h.bt f j o k];unfold qw;rw[Df F.st F.dk F.ca (λg=>(F.fr g).1)]
def xR(m:Ma)(c:Cl):Prop:=c.p<0\/(m.sp.length:Int)<=c.p\/(bQ m c.p.toNat).lv=false
instance (m:Ma) (c:Cl):Decidable (xR m c):=by unfold xR;infer_instance
def ND(m:Ma)(p:Nat):Ma × An:=if nT m=4 then(m,iV 4)else((FM m p (nT m).toNat).m,⟨0,nT m,[]⟩)
def ZU(m:Ma)(p:Nat):Ma × An:=((FK m p).m,iV 0)
def vW(m:Ma)(c:Cl):Ma × An:=
 if xR m c then(m,iV 5)else
 if c.k=1 then vO m c.p.toNat c else if c.k=2 then XF m c.p.toNat c else if c.k=3 then XL m c.p.toNat c
 else if c.k=4 then lQ m c c.n false else if c.k=5 then lQ m c c.da.length true
 else if c.k=6 then ND m c.p.toNat else ZU m c.p.toNat
def qD(m:Ma)(c:Cl):Ma × An:=
 if c.k<1\/15<c.k then(m,iV 1)else if c.k<=7 then vW m c else if c.k=8 then GN m else if c.k<=12 then SQ m c else Ck m c
theorem Sj(h:Rt m)(d:nT m≠4):(nT m).toNat=m.sp.length/\m.sp.length<4\/(nT m).toNat<m.sp.length/\(bQ m (nT m).toNat).lv=false:=by
 have z:=h.pt.spl;unfold nT at d ⊢
 by_cases g:yz m<0
 ·rw[if_pos g]at d ⊢
  left
  omega
 rw[if_neg g]at d ⊢
 right
 obtain⟨k,o,a,b⟩:=xz (q:=λs:Sp => !s.lv) (l:=m.sp) (by show 0<=yz m;omega);have t:yz m=k:=o;rw[t,bu];refine⟨a,?_⟩;unfold bQ;rw[bA,aM a];simpa using b
def NG(m:Ma):Wd:=⟨m.sp.length,λp=>⟨(bQ m p).lv,(bQ m p).ar,gF m p⟩,(List.range m.st.fs.length).map λf:Nat=>(List.range (az m.st f).n.toNat).map (qw m f)⟩
theorem AZ(h:Rt m):uD m (NG m):=by
 have a:∀f:Nat,f<m.st.fs.length->zR (NG m) f=(List.range (az m.st f).n.toNat).map (qw m f):=λf d=>by unfold zR NG;simp only;rw[bA,iH,xn d];rfl
 refine⟨rfl,λ_=>rfl,λ_=>rfl,λp n => ?_,by simp[NG],λf d => ?_,λf j d k => ?_⟩
 ·show sO _ (gF m p n) (gF m p n);cases hg:eP m p n with
  | none=>exact Mv h hg
  | some g=>exact De _
 ·rw[a f d];simp only[fE,BA];have:=(iK h.pt.st (f:=(f:Int)) (by omega)).1;omega
 ·rw[a f d,bA,iH,xn (by omega)];rfl
def EX(P:PS):Bool:=!P.lv
theorem SV(P:PS)(w:World):Calls Tryz.prog 66 #[.agg (CK P)] w λr w'=>r = .returned (.bool (EX P))/\Below w.heap.size w w':=by
 go_enter func66,ntmps66;go_upto_region 1 with(fail);refine iP (λW=>Code.wp _ _ _ _ W) λh c a b => ?_;clear b;have d:=a.cell;have g:(CK P)[0]?=some (.bool P.lv):=rfl;go_wp2;go_ret;exact⟨rfl,c⟩
theorem Yj{l:List PS}(h:eD w a (l.flatMap xV))(k:Nat)(g:k<l.length):∃b d,a=some ⟨b,d,none⟩/\eD w (some ⟨b,d+k*10,none⟩) (xV l[k]):=oU xw h k g
theorem Nv(l:List PS)(a:Option Addr)(c:Nat)(w:World)(C:eD w a (l.flatMap xV))(E:l.length<=9223372036854775807) :
  Calls Tryz.prog 65 #[.slice a l.length c,.func (.func 66) #[] #[]] w λe w'=>e = .returned (.int .i64 (idx EX l))/\Below w.heap.size w w':=by
 go_enter func65,ntmps65;go_wp2
 go_loopw [8] (fun i wr => ∃k:Nat,k<=l.length/\i = .int .i64 k/\Below w.heap.size w wr/\∀i (h:i<l.length),i<k->EX l[i]=false) (fun i _=>l.length-(intOf i).toNat)
 case atStart=>exact⟨0,bN _,rfl,Below.refl _ _,λi _ h=>absurd h (ig _)⟩
 case round=>
  obtain⟨k,G,rfl,g,m⟩:=hrel;have D:=ae m;clear m
  by_cases t:k<l.length
  ·obtain⟨b,z,rfl,o⟩:=Yj (C.below g) k t
   go_wp2_with (refine ay b (z+k*10) _ o _ underlying76 rfl space_size ?_)
   refine(SV l[k] _).mono ?_;rintro e w2 ⟨rfl,n⟩;have f:=ah g n;clear n;cases hpk:EX l[k]
   ·have j:=ae hpk;clear hpk;go_wp2;go_roundw
    case rel=>exact⟨k+1,by omega,by go_num,f,oO D.out t j.out⟩
    case measure=>simp[intOf];omega
   have d:=ae (qH EX l k t D.out hpk);clear hpk;go_wp2;go_ret;exact⟨bI d.out.symm,f⟩
  have d:=ae (ll EX l λi h=>D.out i h (by omega));go_wp2;go_ret;exact⟨bI d.out.symm,g⟩
theorem Xl(H:MH):idx EX H.sp=yz H.ma:=by
 unfold yz idx MH.ma;rw[List.findIdx?_map];rfl
theorem iw.appP(h:iw w B b H e)(U:w.grownBy w1 (Value.slice H.ap H.sp.length H.cp).ownBlock){l:List PS}(R:Own w1 B 76 10 (.slice a l.length c) l.length (l.flatMap xV))
 (G:∀p∈l,Own w1 B 94 7 (.slice p.aa p.ar.length p.ac) p.ar.length (p.ar.flatMap fZ)/\xE w1 B (vo p.ts) p.tb) (E:∀p∈l,CU p.tb) (V:aK w2 b (dO (lm H e) 10 [.slice a l.length c]) 109) (o:w1.grownBy w2 (some b)) :
  iw w2 B b { H with ap:=a,cp:=c,sp:=l } e:=by
 have m:=h.ma;have D:aK w1 b (lm H e) 109/\Own w1 B 66 13 (.slice H.af H.m.fs.length H.cf) H.m.fs.length (H.m.fs.flatMap rG)/\Own w1 B 3 1 (.slice H.asl H.sl.length H.csl) H.sl.length (H.sl.map ib) /\
   kz w1 B (.slice H.wb H.sw.blocks.length H.cwb) (.slice H.wq H.sw.queue.length H.cwq) H.sw/\kz w1 B (.slice H.db H.dk.blocks.length H.cdb) (.slice H.dq H.dk.queue.length H.cdq) H.dk/\mo w1 B (.slice H.ai H.fi.length H.ci) H.fi /\
   Own w1 B 122 3 (.slice H.ac H.ca.length H.cc) H.ca.length (H.ca.flatMap kM):=by
  rcases Kb m.sp U with X|⟨g,cs,C,_,t⟩
  ·have f:=vF X;have k:=m.below f;exact⟨h.blk.ext f,k.fr,k.sl,k.sw,k.dk,k.st,k.ca⟩
  ·exact⟨aG h.blk C t,aA m.fr C t,aA m.sl C t,m.sw.keep C (by decide) (by decide) t,m.dk.keep C (by decide) (by decide) t,m.st.keep C (by decide) (by decide) t,aA m.ca C t⟩
 obtain⟨z,k1,Q,O,N,K,J⟩:=D;exact⟨V,h.ge,⟨aA k1 z o,aA Q z o,O.keep z (by decide) (by decide) o,N.keep z (by decide) (by decide) o,K.keep z (by decide) (by decide) o,aA J z o,aA R z o,λp d=>⟨aA (G p d).1 z o,(G p d).2.keep z (by decide) o⟩,m.c64⟩,E⟩
theorem WV(k:Kp)(p q:Nat)(n:Int):(lJ k p q n).m.sp.length=k.m.sp.length/\∀j,(bQ (lJ k p q n).m j).ar=(bQ k.m j).ar:=by
 unfold lJ;dsimp only;have h:∀f n,(dU k f n).m.sp.length=k.m.sp.length/\∀j,(bQ (dU k f n).m j).ar=(bQ k.m j).ar:=λf n=>by unfold bQ;rw[Wp];exact⟨rfl,λ_=>rfl⟩
 split
 ·split
  ·exact⟨rfl,λ_=>rfl⟩
  ·exact xZ _ _ _ _
 split
 ·have g:=xZ (dU k (aJ k.m p n).n 1) q n (aJ k.m p n);have d:=h (aJ k.m p n).n 1;exact⟨g.1.trans d.1,λj=>(g.2 j).trans (d.2 j)⟩
 have g:=xZ (dD (dU k (aJ k.m p n).n 1) p n ⟨(aJ k.m p n).k,(aJ k.m p n).n,false⟩) q n ⟨(aJ k.m p n).k,(aJ k.m p n).n,false⟩;have o:=xZ (dU k (aJ k.m p n).n 1) p n ⟨(aJ k.m p n).k,(aJ k.m p n).n,false⟩;have d:=h (aJ k.m p n).n 1;exact⟨g.1.trans (o.1.trans d.1),λj=>(g.2 j).trans ((o.2 j).trans (d.2 j))⟩
theorem Sn(p q:Nat)(l:List Int)(k:Kp):(nZ k p q l).m.sp.length=k.m.sp.length/\∀j,(bQ (nZ k p q l).m j).ar=(bQ k.m j).ar:=by
 unfold nZ
 induction l generalizing k with
 | nil=>exact⟨rfl,λ_=>rfl⟩
 | cons i l ih=>
  rw[BQ];have g:=ih (lJ k p q i);have d:=WV k p q i;exact⟨g.1.trans d.1,λj=>(g.2 j).trans (d.2 j)⟩
theorem Ms(k:Kp)(p q:Nat)(l:List Int)(j:Nat)(d:j<l.length):nZ k p q (l.take (j+1))=lJ (nZ k p q (l.take j)) p q l[j]:=by
 unfold nZ;rw[mK,Be,aM d];rfl
def fkR(B:Nat)(l:List Ar):oW:=⟨λv w => ∃a c,v = .agg #[.bool true,.slice a l.length c,.slice none 0 0,.slice none 0 0,.slice none 0 0,.slice none 0 0,.slice none 0 0,.slice none 0 0,.slice none 0 0,.slice none 0 0]/\Own w B 94 7 (.slice a l.length c) l.length (l.flatMap fZ),
 λ_ _ _ hb ⟨a,c,h1,h2⟩=>⟨a,c,h1,h2.below hb⟩⟩
def aat(m:Ma)(q:Nat):Prop:=(q:Int)=nT m/\(q=m.sp.length/\m.sp.length<4\/q<m.sp.length/\(bQ m q).lv=false)
def FkR(H:MH)(p:Int)(w:World)(r:Ending)(w' : World):Prop:=
 Below w.heap.size w w'/\((FV H p/\r = .returned (.tuple #[.agg (bS noH),.int .i64 0,.int .i64 5]))\/(¬FV H p/\yz H.ma<0/\H.sp.length=4/\r = .returned (.tuple #[.agg (bS noH),.int .i64 0,.int .i64 4])) \/
  (¬FV H p/\∃(H' : MH) (q:Nat),aat H.ma q/\r = .returned (.tuple #[.agg (bS H'),.int .i64 q,.int .i64 0])/\qp w' w.heap.size H'/\Forked H.ma H'.ma p.toNat q/\H'.ma=(FM H.ma p.toNat q).m))
theorem UE(H:MH)(p:Int)(w:World)(h:Dk w H)(hR:Rt H.ma)(hC:Co H.ma) :
  Calls Tryz.prog 28 #[.agg (bS H),.int .i64 p] w (FkR H p w):=by
 have hx:=ae hR;have gJ:=ae hC;clear hR hC;go_enter func28,ntmps28;go_upto_region 1 with(fail);refine uY (λW=>Code.wp _ _ _ _ W) λw1 hX bx1 rx1 gp => ?_;have rx1:aK w1 (w.heap.size+1) (bS noH) 45:=rx1;have h1:=h.below hX;clear h
 go_wp2_with (refine ay w.heap.size 0 _ bx1.rd _ underlying45 rfl machine_size ?_)
 refine(rQ H _ h1).mono ?_;rintro r w2 ⟨rfl,hW⟩;rw[Cq.2 hx.out];have h2:=h1.below hW;have bx2:=bx1.ext hW;have G:=rx1.ext hW;have a:=ah hX hW;clear h1 bx1 rx1 hX hW gp;have hc:=bx2.cell;unfold bS at hc
 by_cases c1:p<0
 ·have hh:Hid (FV H p):=ae (.inl c1)
  go_wp2_with (refine ax _ _ (w.heap.size+1) (bS noH) G mach_size (G:=dQ noH) ?_)
  intro we hs x;have o:=a.grown x a.size oG0;go_wp2;refine bodyPost_ret (v:=.tuple #[.agg (bS noH),.int .i64 0,.int .i64 5]) (bX results28 (w.heap.size+1) hs underlying45 mach_size) rfl ?_;exact⟨o,.inl ⟨hh.out,rfl⟩⟩
 by_cases c2:(H.sp.length:Int)<=p
 ·have hh:Hid (FV H p):=ae (.inr (.inl c2))
  go_wp2_with (refine ax _ _ (w.heap.size+1) (bS noH) G mach_size (G:=dQ noH) ?_)
  intro we hs x;have o:=a.grown x a.size oG0;go_wp2;refine bodyPost_ret (v:=.tuple #[.agg (bS noH),.int .i64 0,.int .i64 5]) (bX results28 (w.heap.size+1) hs underlying45 mach_size) rfl ?_;exact⟨o,.inl ⟨hh.out,rfl⟩⟩
 obtain⟨P,hP⟩:∃P:Nat,p=P:=⟨p.toNat,by omega⟩;subst hP;have kc:P<H.sp.length:=by omega
 obtain⟨gs,os,Q,kN,hQ,ka⟩:=yc h2.sp.rd P kc;rw[kN]at hc;have kH:w2.cell? ⟨gs,os+P*10,none⟩=some (.bool Q.lv):=by obtain⟨b',o',e',kK⟩:=ka 0 _ rfl;cases e';exact kK
 have h7:=ae (sP hQ);cases hlvQ:Q.lv with
 | false=>
  rw[hlvQ]at kH;have hh:Hid (FV H (P:Int)):=ae (.inr (.inr (by rw[bu,h7.out];exact hlvQ)))
  go_wp2_with (refine ax _ _ (w.heap.size+1) (bS noH) G mach_size (G:=dQ noH) ?_)
  intro we hs x;have o:=a.grown x a.size oG0;go_wp2;refine bodyPost_ret (v:=.tuple #[.agg (bS noH),.int .i64 0,.int .i64 5]) (bX results28 (w.heap.size+1) hs underlying45 mach_size) rfl ?_;exact⟨o,.inl ⟨hh.out,rfl⟩⟩
 | true=>
  rw[hlvQ]at kH;have kX:Hid (¬FV H (P:Int)):=ae (by
   rintro(e|e|e)
   ·exact c1 e
   ·exact c2 e
   ·rw[bu,h7.out]at e;exact absurd (hlvQ.symm.trans e) (by decide))
  have kC:=h2.sp;rw[kN]at kC;have h4:Hid (H.sp.length<=4):=ae (by have:=hx.out.pt.spl;rw[qm]at this;exact this)
  go_wp2_with fail
  refine(Nv H.sp (some ⟨gs,os,none⟩) H.cp _ kC.rd (by have:=h4.out;omega)).mono ?_;rintro r w2' ⟨rfl,hV⟩;rw[Xl];have gk:=h2.below hV;have X:=bx2.ext hV;have R:=G.ext hV;have hg:=ah a hV;clear hc kH ka h2 kN kC bx2 G a hV;have hc:=X.cell;unfold bS at hc;generalize hdI:yz H.ma=d;have hM:=ae hdI;clear hdI
  by_cases d0:d<0/\H.sp.length=4
  ·obtain⟨d1,d2⟩:=d0;have a:=hg;have G:=R;rw[d2]at hc
   go_wp2_with (refine ax _ _ (w.heap.size+1) (bS noH) G mach_size (G:=dQ noH) ?_)
   intro we hs x;have o:=a.grown x a.size oG0;go_wp2;refine bodyPost_ret (v:=.tuple #[.agg (bS noH),.int .i64 0,.int .i64 4]) (bX results28 (w.heap.size+1) hs underlying45 mach_size) rfl ?_;exact⟨o,.inr (.inl ⟨kX.out,by rw[hM.out];exact d1,d2,rfl⟩)⟩
  have k9:Hid (¬(d<0/\H.sp.length=4)):=ae d0;have gD:Hid (0<=d->∃k:Nat,d=k/\k<H.sp.length/\(bQ H.ma k).lv=false):=ae (λgE=>by obtain⟨k,hk,kI,gx⟩:=xz (q:=λs:Sp => !s.lv) (l:=H.ma.sp) (by show 0<=yz H.ma;rw[hM.out];exact gE);refine⟨k,hM.out.symm.trans hk,by rw[qm]at kI;exact kI,?_⟩;unfold bQ;rw[bA,aM kI];simpa using gx);go_upto_region 7 with(fail)
  go_cut [47] (fun s47 wx=>s47 = .bool false/\wx=w2')
  case first=>
   by_cases d1:d<0
   ·have hL:¬(H.sp.length:Int)=4:=λe=>k9.out ⟨d1,by omega⟩;go_wp2;go_meet
    case rel=>exact⟨by simp[hL],rfl⟩
   go_wp2;go_meet
   case rel=>exact⟨rfl,rfl⟩
  case rest=>
   obtain⟨rfl,gm⟩:=hcut;subst gm;clear hc
   go_wp2_with (refine ay w.heap.size 0 _ X.rd _ underlying45 rfl machine_size ?_)
   refine(nA H _ gk (sK hx.out)).mono ?_;rintro r w3 ⟨D,rfl,kV,hJ,_,kM⟩;have kf:Hid (D.sp.length=H.sp.length):=ae (Eh (by rw[hJ]));have kF:=ae hJ;have rx3:=R.ext kM;have hO:=ah hg kM;clear X R gk hJ;unfold bS;go_upto_if 54 with(fail);refine iP (λW=>Code.wp _ _ _ _ W) λw4 kk kx4 gn => ?_;have k4:iw w4 w.heap.size w3.heap.size D 0:=⟨kx4,hO.size,(kV.mono hg.size).below kk,λq hq=>(PK.spz (H:=D) (by rw[kF.out];exact sK hx.out) hq).2⟩;have rx4:=rx3.ext kk;have z:=ah hO kk;obtain⟨b,hU⟩:∃b,w3.heap.size=b:=⟨_,rfl⟩;rw[hU]at k4 ⊢;clear kM kk kV hg kx4 gn rx3 hO hU
   go_cut [8] (fun s8 wx => ∃(q:Nat) (E:MH),s8 = .int .i64 q/\iw wx w.heap.size b E 0/\aK wx (w.heap.size+1) (bS noH) 45/\Below w.heap.size w wx/\Hid (q<E.sp.length/\E.sp.length<=4/\P≠q/\(∃C,E.sp[P]?=some C/\C.sp=bQ H.ma P)/\rR E.ma q ⟨true,(bQ H.ma P).ar,zTb⟩=iA H.ma P q/\aat H.ma q))
   case first=>
    by_cases d1:d<0
    ·have hL:Hid (D.sp.length=H.sp.length/\H.sp.length<4):=ae ⟨kf.out,by
      have:=h4.out;have h5:¬H.sp.length=4:=λe=>k9.out ⟨d1,e⟩;omega⟩
     have gc:=k4.blk.cell;unfold lm at gc;have hI:=k4.ma.sp
     go_wp2_with (at_builtin;go_must (refine nk rfl _ _ 43 rfl w.heap.size 76 _ 10 224 underlying43 space_info rfl _ D.sp.length (D.sp.flatMap xV) rfl (hI.alloc _) (some ⟨w4.heap.size,0,none⟩) 1 1 (xV zPS) rfl (λh=>(by cases h)) (aC _) rfl (eD.new _ (CK zPS) _) (gH (by simp[CK,zPS,nTs,Value.oneCell'])) (by have:=hL.out;unfold maxLen;omega) (by have:=hL.out;omega) (eO z.size) ?_))
     intro v2 wa own2 ht kQ;have hZ:=(Below.refl w4.heap.size w4).alloc (aC _) (.cells (CK zPS) 76);have K:=k4.below hZ;have c:Own (w4.alloc (.cells (CK zPS) 76)) w.heap.size 76 10 (.slice D.ap D.sp.length D.cp) D.sp.length (D.sp.flatMap xV):=K.ma.sp;have hT:=AL c ht K.blk;have rxa:=AL c ht (rx4.ext hZ);have kp:∀p∈D.sp++[zPS],Own wa w.heap.size 94 7 (.slice p.aa p.ar.length p.ac) p.ar.length (p.ar.flatMap fZ)/\xE wa w.heap.size (vo p.ts) p.tb:=λp N=>by
      rcases ik.1 N with N|N
      ·exact⟨lg c ht (K.ma.ps p N).1,Kr c ht (K.ma.ps p N).2⟩
      rw[bF.1 N];exact⟨Own.nil _ _ _ _,GD _ _⟩
     have kn:∀p∈D.sp++[zPS],CU p.tb:=λp N=>by
      rcases ik.1 N with N|N
      ·exact K.tz p N
      rw[bF.1 N];exact AB zTb_right
     have hN:Below w.heap.size w wa:=(ah z hZ).grown ht (ah z hZ).size (λk hk=>c.ge k hk);obtain⟨a2,c2,rfl,_⟩:=own2.rd;have hK:(D.sp++[zPS]).length=D.sp.length+1:=by simp
     have U : Own wa w.heap.size 76 10 (.slice a2 (D.sp++[zPS]).length c2) (D.sp++[zPS]).length ((D.sp++[zPS]).flatMap xV):=by rw[hK,iq];simpa using own2
     clear gc hI own2 hZ rx4 z
     go_wp2_with (refine aY b 10 [.slice a2 (D.sp.length+1) c2] rfl rfl rfl _ _ hT (by show 10+1<=12;omega) (by kernel_rfl) (λu hu=>by cases bF.1 hu;rfl) ?_)
     intro w5 gg kh;have k5:=K.appP ht U kp kn (by rw[hK];exact gg) kh;have rx5:=aG rxa hT kh;have gd:=hN.grown kh hN.size (λk hk=>by cases hk;exact k4.ge);clear gg kh hT rxa hN kp kn U c ht kQ k4 K;go_wp2;go_meet
     case rel=>
      have hz:=hL.out;have hm:=kF.out;refine⟨D.sp.length,_,rfl,k5,rx5,gd,ae ⟨by simp,by simp;omega,by omega,?_,?_,⟨by unfold nT;rw[hM.out,if_pos d1,qm];omega,.inl ⟨by rw[qm];omega,by rw[qm];omega⟩⟩⟩⟩
      ·have hD:P<D.sp.length:=by omega
       refine⟨D.sp[P],by rw[jb hD];exact aM hD,?_⟩;rw[<-hm];exact(sP (aM hD)).symm
      unfold iA;rw[if_pos (by rw[qm];exact hz.1),<-hm];unfold rR MH.ma;simp[jL,List.set_append_right]
    obtain⟨k,rfl,k3,k2⟩:=gD.out (by omega);have gy:=ae (And.intro k3 k2);clear k3 k2;go_wp2;go_meet
    case rel=>
     have hz:=gy.out;have hm:=kF.out;have hD:P<D.sp.length:=by rw[kf.out];exact kc
     refine⟨k,D,rfl,k4,rx4,z,ae ⟨by rw[kf.out];exact hz.1,by rw[kf.out];exact h4.out,λe => ?_,⟨D.sp[P],aM hD,?_⟩,?_,⟨by unfold nT;rw[hM.out,if_neg (show ¬(k:Int)<0 by omega)],.inr ⟨by rw[qm];exact hz.1,hz.2⟩⟩⟩⟩
     ·have h9:=hz.2;rw[<-e,h7.out]at h9;exact absurd (hlvQ.symm.trans h9) (by decide)
     ·rw[<-hm];exact(sP (aM hD)).symm
     unfold iA;rw[if_neg (by rw[qm];omega),hm]
   case rest=>
    obtain⟨q,E,rfl,kx,rx,kj,hf⟩:=hcut;clear k4 rx4 z;obtain⟨kb,gQ,gF,⟨C,h3,gh⟩,hG,kW⟩:=hf.out;clear hf;have kD:=ae hG;have kq:=ae kW;have hr:=ae gh;clear hG kW gh;obtain⟨g,J,cur,hY,gj,kw,ks,kT⟩:=kx.putP kb;have gi:=(dw.1 h3).1;have gP:(P:Int)<(E.sp.length:Int):=by omega
    have gN:(q:Int)<(E.sp.length:Int):=by omega
    have gb:∀W,Below wc.heap.size wc W->W.cell? ⟨g,J+P*10+1,none⟩=some (.slice C.aa C.ar.length C.ac):=λW hb=>by obtain⟨g',off',hl,ka,_,_⟩:=(kx.below hb).at h3;rw[hY]at hl;cases hl;obtain⟨b',o',e',kK⟩:=ka 1 _ rfl;cases e';exact kK
    have hA:=((kx.ma.rd.ps C (dB h3))).ars;have kz:C.ar.length*40<=140737488355328:=by have h9:=(qP.1 (hx.out.pt.ar _ (Ch (m:=H.ma) (p:=P) (by rw[qm];exact kc)))).1;rw[<-hr.out]at h9;have:C.sp.ar.length=C.ar.length:=rfl;omega
    go_upto_region 13 with(fail);refine aR 18 [_,_,_,_,_,_,_,_,_,_,_,_,_,_,_,.r 15 ((il wc.heap.size 94 7 C.ar.length (C.ar.flatMap fZ))),.r 16 ((fkR wc.heap.size C.ar)),_] (Gk rfl (Gk rfl (Gf b 0 rfl rfl (Gf b 10 rfl rfl (Gl kx.blk (V:=.slice (some ⟨g,J,none⟩) E.sp.length E.cp) (by simp[lm,hY]) rfl rfl rfl rfl (Gk rfl (Gk rfl (Gk rfl (Gf b 0 rfl rfl (Gf b 10 rfl rfl (Gl kx.blk (V:=.slice (some ⟨g,J,none⟩) E.sp.length E.cp) (by simp[lm,hY]) rfl rfl rfl rfl (Gk rfl (Gr (.pointer (some ⟨g,J+P*10,none⟩)) (λρ y W hb h6=>(ed rfl (bi rfl h6) (bi rfl h6) gi underlying43 space_size)) rfl rfl (Gf g (J+P*10+1) rfl rfl (Gc (.slice C.aa C.ar.length C.ac) (λW hb=>by simp[gb _ hb]) rfl rfl rfl rfl (aj ?_ (aj ?_ (Gr (.pointer (some ⟨g,J+q*10,none⟩)) (λρ y W hb h6=>(ed rfl (bi rfl h6) (bi rfl h6) kb underlying43 space_size)) rfl rfl (aH))))))))))))))))))) (λ_=>rfl) rfl ?_
    ·intro ρ y W hw hn hb hd;have gM:=hw 87 14 rfl;have gK:y 14=_:=hd 14 rfl;have EF:=eF0 hn λ_=>trivial;refine aL (aW rfl (EF _) func62 (by simp only[bU,bM,bP,gM,gK,EF];rfl)) ?_;refine(vE C.ar C.aa C.ac W hA.le hA.nl (hA.below hb).rd kz).mono ?_;rintro e w1 ⟨u,rfl,ho,hX⟩;exact⟨_,rfl,hX,ho.mono hb.size⟩
    ·intro ρ y W hw hn hb hd;have gL:=hw 88 15 rfl;have gl:=hd 15 rfl;obtain⟨ua,uc,hu,_⟩:=Own.rd gl;have kA:Own W wc.heap.size 94 7 (y 15) C.ar.length (C.ar.flatMap fZ):=gl;rw[hu]at kA;refine ak (.agg #[.bool true,.slice ua C.ar.length uc,.slice none 0 0,.slice none 0 0,.slice none 0 0,.slice none 0 0,.slice none 0 0,.slice none 0 0,.slice none 0 0,.slice none 0 0]) (by simp[execOp,go_sem,gL,hu,hn (.const _) trivial,Act.eval]) (m:=?_);exact⟨ua,uc,rfl,kA⟩
    intro y W5 ha h0;have kP:((il wc.heap.size 94 7 C.ar.length (C.ar.flatMap fZ))).r (y 15) W5:=h0 15 (by decide);have kO:((fkR wc.heap.size C.ar)).r (y 16) W5:=h0 16 (by decide);clear h0;obtain⟨ua,uc,e16,kU⟩:=kO;simp only[e16];clear e16 kP;have t:=kw.ext ha
    go_wp2_with (refine fV _ _ g (J+q*10) #[.bool true,.slice ua C.ar.length uc,.slice none 0 0,.slice none 0 0,.slice none 0 0,.slice none 0 0,.slice none 0 0,.slice none 0 0,.slice none 0 0,.slice none 0 0] _ _ t ks space_size (by simp[Value.oneCell']) ?_)
    intro w6 gf kg;obtain⟨g',off',cur',hl,_,hv,_,hH⟩:=(kx.below ha).putP kb;rw[hY]at hl;cases hl;have ga:cur' = cur:=by unfold aK at hv t;rw[hv]at t;simpa using t
    subst ga;have k6:=hH w6 ⟨true,ua,uc,C.ar,nTs,zTb⟩ (kU.mono kj.size) (GD _ _) (AB zTb_right) gf kg;have rx6:=aG (rx.ext ha) t kg;have kv:=(ah kj ha).grown kg (ah kj ha).size (λk hk=>by cases hk;exact gj);have kl:(E.sp.set q ⟨true,ua,uc,C.ar,nTs,zTb⟩)[P]?=some C:=by rw[uz (λe=>gF e.symm)];exact h3
    have kG:Hid (MH.ma { E with sp:=E.sp.set q ⟨true,ua,uc,C.ar,nTs,zTb⟩ }=iA H.ma P q):=ae (by rw[QA,<-kD.out,<-hr.out];rfl);have k1:Hid ((E.sp.set q ⟨true,ua,uc,C.ar,nTs,zTb⟩).length=E.sp.length):=ae bV;clear gb hY kw ks kT hH hv t gf kg kU kx rx kj ha hA kz h3 gj;have hS:∃Z:MH,Z = { E with sp:=E.sp.set q ⟨true,ua,uc,C.ar,nTs,zTb⟩ }:=⟨_,rfl⟩;obtain⟨Z,km⟩:=hS;rw[<-km]at k6 kG;have kl:Z.sp[P]?=some C:=by rw[km];exact kl
    have k0:Hid (Z.sp.length=E.sp.length):=ae (by rw[km];exact k1.out);clear km k1;have gr:q<Z.sp.length:=by rw[k0.out];exact kb
    have gG:P<Z.sp.length:=by rw[k0.out];exact gi
    have gO:(P:Int)<(Z.sp.length:Int):=by omega
    obtain⟨g6,off6,ky,kR,ko,hB⟩:=k6.at kl;have kJ:=k6.blk.cell;unfold lm at kJ;rw[ky]at kJ
    go_wp2_with (refine ay g6 (off6+P*10+2) _ ko _ underlying74 tab_agg tab_size ?_)
    refine(wM C.tb (vo C.ts) _ hB.tb).mono ?_;rintro r w7 ⟨v7,rfl,kE,kL⟩;obtain⟨a7,c7,rfl,_,kY,_,_⟩:=kE.rd;have gA:=ae (λn (hn:n∈aV C.tb)=>(lZ.1 hn));have gB:Hid (FM H.ma P q=nZ ⟨iA H.ma P q,0⟩ P q (aV C.tb)):=ae (by unfold FM;rw[<-hr.out];rfl);generalize aV C.tb=l at *
    have k7:=k6.below kL;have s7:=(KS.refl w6 b Z).below kL;unfold maxLen at kY;clear kJ kR ko hB ky kL;go_wp2
    go_loopw [102] (fun s102 wr => ∃(j:Nat) (Y:MH) (ej:Int),j<=l.length/\s102 = .int .i64 j/\iw wr w.heap.size b Y ej/\KS w6 b Z wr Y/\Hid (Kp.mk Y.ma ej=nZ ⟨iA H.ma P q,0⟩ P q (l.take j))/\Own wr w6.heap.size 3 1 (.slice a7 l.length c7) l.length (l.map ib)) (fun s102 _=>l.length-(intOf s102).toNat)
    case atStart=>exact⟨0,Z,0,bN _,rfl,k7,s7,ae (by rw[kG.out];rfl),kE⟩
    case round=>
     clear kE k7 s7;obtain⟨j,Y,ej,hj,rfl,hE,O,qj,kd⟩:=hrel
     by_cases hjl:j<l.length
     ·have gz:(j:Int)<(l.length:Int):=by omega
      obtain⟨_,_,e9,_,_,_,kS⟩:=kd.rd;cases e9;obtain⟨bl,ol,rfl,ki⟩:=kS j (ib l[j]) (by rw[iH,aM hjl];rfl);unfold ib at ki;have hi:=gA.out _ (fA hjl);have kB:=ae (Ms ⟨iA H.ma P q,0⟩ P q l j hjl);generalize l[j]=i at *
      have hy:=Sn P q (l.take j) ⟨iA H.ma P q,0⟩;rw[<-qj.out,<-kG.out]at hy;have kZ:Y.sp.length=Z.sp.length:=Eh hy.1;have k8:0<=fB (bQ Y.ma P).ar i:=by
       rw[hy.2,sP kl];have gv:(aJ H.ma P i).k≠0:=by unfold aJ;rw[<-hr.out];exact hi.2
       obtain⟨pg,gt,_⟩:=hx.out.en P i gv;have:=(Xn gt).2;rw[<-hr.out]at this;exact this
      have kr:=ae kZ;clear hy kZ
      go_wp2_with fail
      refine (OP Y ej i P q _ b _ hE (by rw[kr.out];exact gG) (by rw[kr.out];exact gr) k8).mono ?_;rintro r w8 ⟨rfl,H8,e8,h8,s8,q8⟩;have gu:=s8.own hE kd (by decide);have s08:=O.trans s8;have gq:Hid (Kp.mk H8.ma e8=nZ ⟨iA H.ma P q,0⟩ P q (l.take (j+1))):=ae (by rw[kB.out,<-qj.out];exact q8);clear q8 s8 hE O kd qj kS ki k8 hi;go_wp2;go_roundw
      case rel=>exact⟨j+1,H8,e8,by omega,by go_num,h8,s08,gq,gu⟩
      case measure=>simp[intOf];omega
     have gz:¬(j:Int)<(l.length:Int):=by omega
     rw[mE (by omega)]at qj;obtain⟨m',ke,hF⟩:=QV hx.out gJ.out (p:=P) (q:=q) (by rw[qm];exact kc) (by rw[h7.out];exact hlvQ) kq.out.2;have kt:(FM H.ma P q).m=m':=by rw[ke]
     rw[gB.out,<-qj.out]at ke;obtain⟨rfl,rfl⟩:=Kp.mk.inj ke;have gI:=ae hF;have gC:=ae kt;clear kt;have rxj:=O.blk k6 rx6 machT;have ku:=dI kv (O.to k6 (aC _));have rxl:=rxj.lt;clear kd qj ke hF O k6 rx6 kv;have ki:=hE.blk.cell;unfold lm at ki
     go_wp2_with (first | (refine ay b 0 (bS Y).toList (cK hE.blk 0 11) _ underlying45 rfl machine_size ?_) | (refine ax _ _ (w.heap.size+1) (bS Y) rxj mach_size (G:=dQ _) ?_))
     intro we rxe x;have o:=ku.grown x ku.size oG0;have gw:=hE.ma.keep rxj (by decide) x;go_wp2;refine bodyPost_ret (v:=.tuple #[.agg (bS Y),.int .i64 q,.int .i64 0]) (bX results28 (w.heap.size+1) rxe underlying45 mach_size) rfl ?_;exact⟨o,.inr (.inr ⟨kX.out,Y,q,kq.out,rfl,gw,gI.out,gC.out.symm⟩)⟩
theorem srt_on:∀ {l:List Ar} {g:Int},srtF g l->∀a∈l,∃n,onA l n=some (xU a n)
 | [],_,_,_,h=>by cases h
 | b::l,g,hs,a,h=>by
  rcases fq.1 h with rfl|h
  ·refine⟨a.fr,?_⟩;rw[kF,if_pos];have:=(gN hs.1).2.1;rw[tF];omega
  obtain⟨n,d⟩:=srt_on hs.2.2 a h;refine⟨n,?_⟩;rw[kF,if_neg]
  ·exact d
  intro k;rw[tF]at k;rw[on_low hs.2.2 k.2]at d;cases d
theorem lY.fiok(h:lY m):SE m:=λp a g=>by
 obtain⟨n,d⟩:=srt_on (FE (qP.1 (h.rt.pt.arN p)).2) a g;exact h.fi p n _ d
def Xt(fn:FuncId)(ar:Value->Value->Array Value)(m:Ma)(c:Cl)(a:Option Addr)(cap:Nat)(X:Ma × An):Prop:=
 ∀(H:MH) (gc B b:Nat) (w:World),H.ma=m->lV w B b H->aK w gc (kN c a cap) 25->(∀W,Below B w W->eD W a (c.da.map nD))->Calls Tryz.prog fn (ar (.pointer (some ⟨b,0,none⟩)) (.pointer (some ⟨gc,0,none⟩))) w (Zh w B b X)
structure aam (m:Ma) (c:Cl) (a:Option Addr) (cap P:Nat):Prop where
 mp:c.k=1->Xt 108 (λp q => #[p,q]) m c a cap (vO m P c)
 un:c.k=2->Xt 109 (λp q => #[p,q]) m c a cap (XF m P c)
 pr:c.k=3->Xt 110 (λp q => #[p,q]) m c a cap (XL m P c)
 ld:c.k=4->Xt 111 (λp q => #[p,q,.int .i64 c.n,.bool false]) m c a cap (lQ m c c.n false)
 st:c.k=5->Xt 111 (λp q => #[p,q,.int .i64 c.da.length,.bool true]) m c a cap (lQ m c c.da.length true)
 fk:c.k=6->∀(H:MH) (W:World),H.ma=m->Dk W H->Calls Tryz.prog 28 #[.agg (bS H),.int .i64 P] W (FkR H P W)
 ex:¬(c.k=1\/c.k=2\/c.k=3\/c.k=4\/c.k=5\/c.k=6)->∀(H:MH) (W:World),H.ma=m->Dk W H->Calls Tryz.prog 64 #[.agg (bS H),.int .i64 P] W (aaw H P W)
theorem Mj(H:MH)(c:Cl)(a:Option Addr)(cap gc B b:Nat)(w:World)(h:lV w B b H)(hG:lY H.ma)(hc:aK w gc (kN c a cap) 25)(hrd:∀W,Below B w W->eD W a (c.da.map nD))(hct:∀P:Nat,c.p=P->P<H.ma.sp.length->(bQ H.ma P).lv=true->aam H.ma c a cap P) :
  Calls Tryz.prog 73 #[.pointer (some ⟨b,0,none⟩),.pointer (some ⟨gc,0,none⟩)] w (Zh w B b (vW H.ma c)):=by
 have kx:=ae hG.rt;have kG:=ae hG.co;have kF:=h.blk.lt;have hU:Hid (H.ma.sp.length=H.sp.length):=ae (qm H);clear hG;go_enter func73,ntmps73;go_upto_region 1 with(fail);refine iP (λW=>Code.wp _ _ _ _ W) λw1 hR ax1 ku => ?_;have k1:=h.below hR;have c1:=hc.ext hR;have hp:w.grownBy w1 (some b):=Ce hR;have hK:=ae h.bs;have hf:=ae hR;have hE:=ae hrd;clear h hc hR ku hrd
 by_cases hlo:c.p<0
 ·have hX:Hid (vW H.ma c=(H.ma,iV 5)):=ae (by unfold vW;rw[if_pos (show xR H.ma c from Or.inl hlo)]);go_upto_region 1 with(fail);refine aR 33 [_,_,_,_,_,_,_,_,_,_,_,_,_,_,_,_,_,_,_,_,_,_,_,_,_,_,_,_,_,_,_,_,.v (.bool true)] (Gk rfl (Gk rfl (Gf gc 1 rfl rfl (Gl c1 rfl rfl rfl rfl rfl (Gb (.bool true) (by simp[go_sem,hlo]) rfl rfl rfl rfl rfl (Gk rfl (Gk rfl (Gk rfl (Gk rfl (Gk rfl (Gk rfl (Gk rfl (Gk rfl (Gk rfl (Gk rfl (Gk rfl (Gk rfl (Gk rfl (Gk rfl (Gk rfl (Gk rfl (Gk rfl (Gk rfl (Gk rfl (Gk rfl (Gk rfl (Gk rfl (Gk rfl (Gk rfl (Gk rfl (Gk rfl (Gk rfl (Gk rfl (aH)))))))))))))))))))))))))))))))))) (λ_=>rfl) rfl ?_;intro y N g _;have O:=k1.below g;have G:=ax1.ext g;have c2:=c1.ext g;have l:=bY hp g;have z:∀W,Below B N W->eD W a (c.da.map nD):=λW D=>hE.out W (dI ((dI hf.out (g.mono hf.out.size)).mono hK.out) D);have hl:=ae (aX hf.out.size g.size);clear k1 ax1 c1 hp g;have hv:=c2.cell
  go_wp2_with (refine ax _ _ w.heap.size (eQ 5 0 nilV) G ans_size ?_)
  intro we J i;have o:=dE l i (z:=aC _);have ke:lV we B b H:=O.keepT G (by decide) (by decide) i;go_wp2;refine bodyPost_ret (v:=.agg (eQ 5 0 nilV)) (aP results73 w.heap.size J underlying54 ans_size) rfl ?_;rw[hX.out];exact⟨nilV,rfl,Own.nil _ _ _ _,o,H,ke,rfl⟩
 have d1:decide (c.p<0)=false:=decide_eq_false hlo
 by_cases hhi:(H.sp.length:Int)<=c.p
 ·have hX:Hid (vW H.ma c=(H.ma,iV 5)):=ae (by unfold vW;rw[if_pos (show xR H.ma c from Or.inr (Or.inl (by rw[hU.out];exact hhi)))]);go_upto_region 1 with(fail);refine aR 33 [_,_,_,_,_,_,_,_,_,_,_,_,_,_,_,_,_,_,_,_,_,_,_,_,_,_,_,_,_,_,_,_,.v (.bool true)] (Gk rfl (Gk rfl (Gf gc 1 rfl rfl (Gl c1 rfl rfl rfl rfl rfl (Gb (.bool false) (by simp[go_sem,d1]) rfl rfl rfl rfl rfl (Gk rfl (Gk rfl (Gk rfl (Gf gc 1 rfl rfl (Gl c1 rfl rfl rfl rfl rfl (Gk rfl (Gk rfl (Gf b 0 rfl rfl (Gf b 10 rfl rfl (Gc (.slice H.ap H.sp.length H.cp) (λW D=>by simp[(k1.below D).blk.cell,bS]) rfl rfl rfl rfl (Gn rfl rfl rfl rfl (Gb (.bool true) (by simp[go_sem,hhi]) rfl rfl rfl rfl rfl (Gk rfl (Gk rfl (Gk rfl (Gk rfl (Gk rfl (Gk rfl (Gk rfl (Gk rfl (Gk rfl (Gk rfl (Gk rfl (Gk rfl (Gk rfl (Gk rfl (Gk rfl (Gk rfl (aH)))))))))))))))))) (underlying43))))))))))))))))) (λ_=>rfl) rfl ?_;intro y N g _;have O:=k1.below g;have G:=ax1.ext g;have c2:=c1.ext g;have l:=bY hp g;have z:∀W,Below B N W->eD W a (c.da.map nD):=λW D=>hE.out W (dI ((dI hf.out (g.mono hf.out.size)).mono hK.out) D);have hl:=ae (aX hf.out.size g.size);clear k1 ax1 c1 hp g;have hv:=c2.cell
  go_wp2_with (refine ax _ _ w.heap.size (eQ 5 0 nilV) G ans_size ?_)
  intro we J i;have o:=dE l i (z:=aC _);have ke:lV we B b H:=O.keepT G (by decide) (by decide) i;go_wp2;refine bodyPost_ret (v:=.agg (eQ 5 0 nilV)) (aP results73 w.heap.size J underlying54 ans_size) rfl ?_;rw[hX.out];exact⟨nilV,rfl,Own.nil _ _ _ _,o,H,ke,rfl⟩
 have d2:decide ((H.sp.length:Int)<=c.p)=false:=decide_eq_false hhi;obtain⟨P,hP⟩:∃P:Nat,c.p=P:=⟨c.p.toNat,by omega⟩;have hV:P<H.sp.length:=by omega
 obtain⟨gs,os,Q,kq,hQ,h0⟩:=yc k1.ma.rd.sp.rd P hV;have kj:=ae (sP hQ);have kb:=ae kq;have hB:=ae hP;have hO:Hid (∀W,Below w1.heap.size w1 W->W.cell? ⟨gs,os+P*10,none⟩=some (.bool Q.lv)):=ae (λW D=>by have:=JD (h0.below D) (k:=0) (u:=.bool Q.lv) rfl;simpa using this);clear kq hQ h0 hP;cases hlvQ:Q.lv with
 | false=>
  rw[hlvQ]at hO;have hX:Hid (vW H.ma c=(H.ma,iV 5)):=ae (by unfold vW;rw[if_pos (show xR H.ma c from Or.inr (Or.inr (by rw[hB.out,bu,kj.out];exact hlvQ)))]);clear hlvQ;go_upto_region 1 with(fail);refine aR 33 [_,_,_,_,_,_,_,_,_,_,_,_,_,_,_,_,_,_,_,_,_,_,_,_,_,_,_,_,_,_,_,_,.v (.bool true)] (Gk rfl (Gk rfl (Gf gc 1 rfl rfl (Gl c1 rfl rfl rfl rfl rfl (Gb (.bool false) (by simp[go_sem,d1]) rfl rfl rfl rfl rfl (Gk rfl (Gk rfl (Gk rfl (Gf gc 1 rfl rfl (Gl c1 rfl rfl rfl rfl rfl (Gk rfl (Gk rfl (Gf b 0 rfl rfl (Gf b 10 rfl rfl (Gc (.slice H.ap H.sp.length H.cp) (λW D=>by simp[(k1.below D).blk.cell,bS]) rfl rfl rfl rfl (Gn rfl rfl rfl rfl (Gb (.bool false) (by simp[go_sem,d2]) rfl rfl rfl rfl rfl (Gk rfl (Gk rfl (Gk rfl (Gk rfl (Gf b 0 rfl rfl (Gf b 10 rfl rfl (Gc (.slice (some ⟨gs,os,none⟩) H.sp.length H.cp) (λW D=>by simp[(k1.below D).blk.cell,bS,kb.out]) rfl rfl rfl rfl (Gk rfl (Gk rfl (Gf gc 1 rfl rfl (Gl c1 (V:=.int .i64 (P:Int)) (by simp[kN,hB.out]) rfl rfl rfl rfl (Gr (.pointer (some ⟨gs,os+P*10,none⟩)) (λρ y W D hz=>(ed rfl (bi rfl hz) (bi rfl hz) hV underlying43 space_size)) rfl rfl (Gf gs (os+P*10) rfl rfl (Gc (.bool false) (λW D=>by simp[hO.out W D]) rfl rfl rfl rfl (Gk rfl (Gk rfl (aH)))))))))))))))))) (underlying43))))))))))))))))) (λ_=>rfl) rfl ?_;intro y N g _;have O:=k1.below g;have G:=ax1.ext g;have c2:=c1.ext g;have l:=bY hp g;have z:∀W,Below B N W->eD W a (c.da.map nD):=λW D=>hE.out W (dI ((dI hf.out (g.mono hf.out.size)).mono hK.out) D);have hl:=ae (aX hf.out.size g.size);clear k1 ax1 c1 hp g;have hv:=c2.cell
  go_wp2_with (refine ax _ _ w.heap.size (eQ 5 0 nilV) G ans_size ?_)
  intro we J i;have o:=dE l i (z:=aC _);have ke:lV we B b H:=O.keepT G (by decide) (by decide) i;go_wp2;refine bodyPost_ret (v:=.agg (eQ 5 0 nilV)) (aP results73 w.heap.size J underlying54 ans_size) rfl ?_;rw[hX.out];exact⟨nilV,rfl,Own.nil _ _ _ _,o,H,ke,rfl⟩
 | true=>
  rw[hlvQ]at hO;have hF:Hid ((bQ H.ma P).lv=true):=ae (by rw[kj.out];exact hlvQ);clear hlvQ;have hr:=ae (hct P hB.out (by rw[hU.out];exact hV) hF.out);clear hct;go_upto_region 1 with(fail);refine aR 33 [_,_,_,_,_,_,_,_,_,_,_,_,_,_,_,_,_,_,_,_,_,_,_,_,_,_,_,_,_,_,_,_,.v (.bool false)] (Gk rfl (Gk rfl (Gf gc 1 rfl rfl (Gl c1 rfl rfl rfl rfl rfl (Gb (.bool false) (by simp[go_sem,d1]) rfl rfl rfl rfl rfl (Gk rfl (Gk rfl (Gk rfl (Gf gc 1 rfl rfl (Gl c1 rfl rfl rfl rfl rfl (Gk rfl (Gk rfl (Gf b 0 rfl rfl (Gf b 10 rfl rfl (Gc (.slice H.ap H.sp.length H.cp) (λW D=>by simp[(k1.below D).blk.cell,bS]) rfl rfl rfl rfl (Gn rfl rfl rfl rfl (Gb (.bool false) (by simp[go_sem,d2]) rfl rfl rfl rfl rfl (Gk rfl (Gk rfl (Gk rfl (Gk rfl (Gf b 0 rfl rfl (Gf b 10 rfl rfl (Gc (.slice (some ⟨gs,os,none⟩) H.sp.length H.cp) (λW D=>by simp[(k1.below D).blk.cell,bS,kb.out]) rfl rfl rfl rfl (Gk rfl (Gk rfl (Gf gc 1 rfl rfl (Gl c1 (V:=.int .i64 (P:Int)) (by simp[kN,hB.out]) rfl rfl rfl rfl (Gr (.pointer (some ⟨gs,os+P*10,none⟩)) (λρ y W D hz=>(ed rfl (bi rfl hz) (bi rfl hz) hV underlying43 space_size)) rfl rfl (Gf gs (os+P*10) rfl rfl (Gc (.bool true) (λW D=>by simp[hO.out W D]) rfl rfl rfl rfl (Gk rfl (Gk rfl (aH)))))))))))))))))) (underlying43))))))))))))))))) (λ_=>rfl) rfl ?_;intro y N g _;have O:=k1.below g;have G:=ax1.ext g;have c2:=c1.ext g;have l:=bY hp g;have z:∀W,Below B N W->eD W a (c.da.map nD):=λW D=>hE.out W (dI ((dI hf.out (g.mono hf.out.size)).mono hK.out) D);have hl:=ae (aX hf.out.size g.size);clear k1 ax1 c1 hp g;have hv:=c2.cell;unfold kN at hv;obtain⟨Y,hY⟩:∃Y,Hid (vW H.ma c=Y):=⟨_,ae rfl⟩;have hD:Hid (Y=if c.k=1 then vO H.ma P c else if c.k=2 then XF H.ma P c else if c.k=3 then XL H.ma P c else if c.k=4 then lQ H.ma c c.n false else if c.k=5 then lQ H.ma c c.da.length true else if c.k=6 then ND H.ma P else ZU H.ma P):=ae (by
   rw[<-hY.out];unfold vW;have hH:¬xR H.ma c:=by
    rintro(e|e|e)
    ·omega
    ·rw[hU.out]at e;omega
    ·rw[hB.out,bu,hF.out]at e;cases e
   rw[if_neg hH,hB.out,bu])
  clear d1 d2 hO
  by_cases h1:c.k=1
  ·have hq:Hid (vO H.ma P c=Y):=ae (by rw[hD.out,if_pos h1]);have ha:=hr.out.mp h1 H gc B b N rfl O c2 z;rw[hq.out]at ha;have hm:=ae ha;clear ha z
   go_wp2_with fail
   refine hm.out.mono ?_;rintro r w3 ⟨d,rfl,t,x,H3,Z,hh⟩;obtain⟨ad,cd,rfl,_⟩:=t.rd;have hg:=ae hh;have C:=G.grown x (λe=>by cases e;omega);have j:=nE l x;have s:=t.mono hl.out;clear O G l x t hh hv
   go_wp2_with (refine ax _ _ w.heap.size (eQ Y.2.e Y.2.n (.slice ad Y.2.da.length cd)) C ans_size ?_)
   intro we J i;have o:=dE j i (z:=aC _);have ke:lV we B b H3:=Z.keepT C (by decide) (by decide) i;have hy:=aA s C i;clear Z C j i s;go_wp2;refine bodyPost_ret (v:=.agg (eQ Y.2.e Y.2.n (.slice ad Y.2.da.length cd))) (aP results73 w.heap.size J underlying54 ans_size) rfl ?_;rw[hY.out];exact⟨_,rfl,hy,o,H3,ke,hg.out⟩
  have d1:(c.k==1)=false:=by simpa using h1
  by_cases h2:c.k=2
  ·have hq:Hid (XF H.ma P c=Y):=ae (by rw[hD.out,if_neg h1,if_pos h2]);have ha:=hr.out.un h2 H gc B b N rfl O c2 z;rw[hq.out]at ha;have hm:=ae ha;clear ha z
   go_wp2_with fail
   refine hm.out.mono ?_;rintro r w3 ⟨d,rfl,t,x,H3,Z,hh⟩;obtain⟨ad,cd,rfl,_⟩:=t.rd;have hg:=ae hh;have C:=G.grown x (λe=>by cases e;omega);have j:=nE l x;have s:=t.mono hl.out;clear O G l x t hh hv
   go_wp2_with (refine ax _ _ w.heap.size (eQ Y.2.e Y.2.n (.slice ad Y.2.da.length cd)) C ans_size ?_)
   intro we J i;have o:=dE j i (z:=aC _);have ke:lV we B b H3:=Z.keepT C (by decide) (by decide) i;have hy:=aA s C i;clear Z C j i s;go_wp2;refine bodyPost_ret (v:=.agg (eQ Y.2.e Y.2.n (.slice ad Y.2.da.length cd))) (aP results73 w.heap.size J underlying54 ans_size) rfl ?_;rw[hY.out];exact⟨_,rfl,hy,o,H3,ke,hg.out⟩
  have d2:(c.k==2)=false:=by simpa using h2
  by_cases h3:c.k=3
  ·have hq:Hid (XL H.ma P c=Y):=ae (by rw[hD.out,if_neg h1,if_neg h2,if_pos h3]);have ha:=hr.out.pr h3 H gc B b N rfl O c2 z;rw[hq.out]at ha;have hm:=ae ha;clear ha z
   go_wp2_with fail
   refine hm.out.mono ?_;rintro r w3 ⟨d,rfl,t,x,H3,Z,hh⟩;obtain⟨ad,cd,rfl,_⟩:=t.rd;have hg:=ae hh;have C:=G.grown x (λe=>by cases e;omega);have j:=nE l x;have s:=t.mono hl.out;clear O G l x t hh hv
   go_wp2_with (refine ax _ _ w.heap.size (eQ Y.2.e Y.2.n (.slice ad Y.2.da.length cd)) C ans_size ?_)
   intro we J i;have o:=dE j i (z:=aC _);have ke:lV we B b H3:=Z.keepT C (by decide) (by decide) i;have hy:=aA s C i;clear Z C j i s;go_wp2;refine bodyPost_ret (v:=.agg (eQ Y.2.e Y.2.n (.slice ad Y.2.da.length cd))) (aP results73 w.heap.size J underlying54 ans_size) rfl ?_;rw[hY.out];exact⟨_,rfl,hy,o,H3,ke,hg.out⟩
  have d3:(c.k==3)=false:=by simpa using h3
  by_cases h4:c.k=4
  ·have hq:Hid (lQ H.ma c c.n false=Y):=ae (by rw[hD.out,if_neg h1,if_neg h2,if_neg h3,if_pos h4]);have ha:=hr.out.ld h4 H gc B b N rfl O c2 z;rw[hq.out]at ha;have hm:=ae ha;clear ha z
   go_wp2_with fail
   refine hm.out.mono ?_;rintro r w3 ⟨d,rfl,t,x,H3,Z,hh⟩;obtain⟨ad,cd,rfl,_⟩:=t.rd;have hg:=ae hh;have C:=G.grown x (λe=>by cases e;omega);have j:=nE l x;have s:=t.mono hl.out;clear O G l x t hh hv
   go_wp2_with (refine ax _ _ w.heap.size (eQ Y.2.e Y.2.n (.slice ad Y.2.da.length cd)) C ans_size ?_)
   intro we J i;have o:=dE j i (z:=aC _);have ke:lV we B b H3:=Z.keepT C (by decide) (by decide) i;have hy:=aA s C i;clear Z C j i s;go_wp2;refine bodyPost_ret (v:=.agg (eQ Y.2.e Y.2.n (.slice ad Y.2.da.length cd))) (aP results73 w.heap.size J underlying54 ans_size) rfl ?_;rw[hY.out];exact⟨_,rfl,hy,o,H3,ke,hg.out⟩
  have d4:(c.k==4)=false:=by simpa using h4
  by_cases h5:c.k=5
  ·have hq:Hid (lQ H.ma c c.da.length true=Y):=ae (by rw[hD.out,if_neg h1,if_neg h2,if_neg h3,if_neg h4,if_pos h5]);have ha:=hr.out.st h5 H gc B b N rfl O c2 z;rw[hq.out]at ha;have hm:=ae ha;clear ha z
   go_wp2_with fail
   refine hm.out.mono ?_;rintro r w3 ⟨d,rfl,t,x,H3,Z,hh⟩;obtain⟨ad,cd,rfl,_⟩:=t.rd;have hg:=ae hh;have C:=G.grown x (λe=>by cases e;omega);have j:=nE l x;have s:=t.mono hl.out;clear O G l x t hh hv
   go_wp2_with (refine ax _ _ w.heap.size (eQ Y.2.e Y.2.n (.slice ad Y.2.da.length cd)) C ans_size ?_)
   intro we J i;have o:=dE j i (z:=aC _);have ke:lV we B b H3:=Z.keepT C (by decide) (by decide) i;have hy:=aA s C i;clear Z C j i s;go_wp2;refine bodyPost_ret (v:=.agg (eQ Y.2.e Y.2.n (.slice ad Y.2.da.length cd))) (aP results73 w.heap.size J underlying54 ans_size) rfl ?_;rw[hY.out];exact⟨_,rfl,hy,o,H3,ke,hg.out⟩
  have d5:(c.k==5)=false:=by simpa using h5
  by_cases h6:c.k=6
  ·have hq:Hid (Y=ND H.ma P):=ae (by rw[hD.out,if_neg h1,if_neg h2,if_neg h3,if_neg h4,if_neg h5,if_pos h6]);have hH:Hid (¬FV H (P:Int)):=ae (by
    rintro(e|e|e)
    ·omega
    ·omega
    ·rw[bu,hF.out]at e;cases e)
   obtain⟨X,F,E,kg⟩:∃(X:Ma) (F E:Int),Hid (ND H.ma P=(setM H.ma X E,⟨E,F,[]⟩)/\∀W,Below N.heap.size N W->Calls Tryz.prog 28 #[.agg (bS H),.int .i64 P] W λr w'=>Below W.heap.size W w'/\∃H',r = .returned (.tuple #[.agg (bS H'),.int .i64 F,.int .i64 E])/\qp w' W.heap.size H'/\H'.ma=X):=by
    by_cases h4' : nT H.ma=4
    ·refine⟨zMa,0,4,ae ⟨by unfold ND setM;rw[if_pos h4'];rfl,λW D=>(hr.out.fk h6 H W rfl (O.below D).ma.rd).mono ?_⟩⟩;rintro r w' ⟨kf,hx⟩;rcases hx with⟨e,_⟩|⟨_,_,_,rfl⟩|⟨_,K,q,hq',rfl,_,_⟩
     ·exact absurd e hH.out
     ·exact⟨kf,noH,rfl,vL _ _,noH_ma⟩
     exfalso;have e1:=hq'.1;have e2:=kx.out.pt.spl;rcases hq'.2 with e|e
     ·omega
     ·omega
    refine⟨(FM H.ma P (nT H.ma).toNat).m,nT H.ma,0,ae ⟨by unfold ND setM;rw[if_neg h4'];rfl,λW D=>(hr.out.fk h6 H W rfl (O.below D).ma.rd).mono ?_⟩⟩;rintro r w' ⟨kf,hx⟩;rcases hx with⟨e,_⟩|⟨_,e1,e2,rfl⟩|⟨_,K,q,hq',rfl,ho,_,hfe⟩
    ·exact absurd e hH.out
    ·exfalso;refine h4' ?_;unfold nT;rw[if_pos e1,hU.out,e2];rfl
    refine⟨kf,K,by rw[hq'.1],ho,?_⟩;rw[hfe,<-hq'.1,bu,bu]
   go_upto_region 15 with(fail);clear hv;refine gX 17 [_,_,_,_,_,_,_,_,.r 8 ((DY N.heap.size X F E)),.r 9 ((DY N.heap.size X F E)),.r 10 ((vC N.heap.size X)),.v (.int .i64 F),.v (.int .i64 E),.r 13 ((fu N.heap.size 45 11)),.y 14 ((Zo 13 N.heap.size X)),.v (.int .i64 F),.v (.int .i64 E)] (λW=>Below N.heap.size N W) bH (Below.refl _ _) (Yk bH rfl (Yk bH rfl (Yf bH b 0 rfl rfl (Yr bH (.agg (bS H)) (λρ y W D hz=>(cz rfl (bi rfl hz) ((O.below D).blk) underlying45 mach_size)) rfl rfl (Yk bH rfl (Yk bH rfl (Yf bH gc 1 rfl rfl (Yc bH (.int .i64 (P:Int)) (λW D=>by simp[(c2.ext D).cell,kN,hB.out]) rfl rfl rfl rfl (aj ?_ (aj ?_ (aj ?_ (aj ?_ (aj ?_ (aj ?_ (aj ?_ (Yk bH rfl (Yk bH rfl (aH)))))))))))))))))) (λ_=>rfl) rfl ?_
   ·intro ρ y W R hn D U;refine fw D ((DY N.heap.size X F E)) ?_;have kD:=R 87 3 rfl;have h3:y 3=_:=U 3 rfl;have kC:=R 91 7 rfl;have h7:y 7=_:=U 7 rfl;have EF:=eF0 hn λ_=>trivial;refine aL (aW rfl (EF _) func28 (by simp only[bU,bM,bP,kD,h3,kC,h7,EF];rfl)) ?_;refine(kg.out.2 W D).mono ?_;rintro r w9 ⟨kd,H9,rfl,hs,ht⟩;exact⟨_,rfl,kd,H9,rfl,hs.mono D.size,ht⟩
   ·intro ρ y W R hn D U;refine fw D ((DY N.heap.size X F E)) ?_;have kB:=R 92 8 rfl;have h8:=U 8 rfl;refine ak _ (run_move (.inl rfl) kB) (m:=?_);exact h8
   ·intro ρ y W R hn D U;refine fw D ((vC N.heap.size X)) ?_;have hS:=R 83 9 rfl;have h9:=U 9 rfl;obtain⟨H9,e9,hs,ht⟩:=h9;refine ak (.agg (bS H9)) (by simp[execOp,go_sem,bJ,hS,e9]) (m:=?_);exact⟨H9,rfl,hs,ht⟩
   ·intro ρ y W R hn D U;refine fw D (fQ (.int .i64 F)) ?_;have hS:=R 83 9 rfl;have h9:=U 9 rfl;obtain⟨H9,e9,hs,ht⟩:=h9;refine ak (.int .i64 F) (by simp[execOp,go_sem,bJ,hS,e9])
   ·intro ρ y W R hn D U;refine fw D (fQ (.int .i64 E)) ?_;have hS:=R 83 9 rfl;have h9:=U 9 rfl;obtain⟨H9,e9,hs,ht⟩:=h9;refine ak (.int .i64 E) (by simp[execOp,go_sem,bJ,hS,e9])
   ·intro ρ y W R hn D U;refine fw D ((fu N.heap.size 45 11)) ?_;refine gM (.pointer (some ⟨W.heap.size,0,none⟩)) (ag) (by simp[execOp,go_sem,bJ];rfl) ((Below.refl _ _).alloc (aC _) (.cells (bS noH) 45)) ?_;exact⟨_,_,rfl,D.size,aK.new _ _ _,rfl⟩
   ·intro ρ y W R hn D U;have E5:=R 5 13 rfl;have ky:=U 13 rfl;have kA:=R 93 10 rfl;have kz:=U 10 rfl;obtain⟨H9,e9,hs,ht⟩:=kz;obtain⟨g3,cur3,e3,x,hJ,kk⟩:=ky;refine jT _ _ _ g3 0 (.agg (bS H9)) (bS H9).toList (E5.trans e3) (kA.trans e9) rfl cur3 _ hJ (by rw[kk];exact aC _) mach_size (λu hu=>by have:=dQ H9;rw[<-iX,dG]at this;exact this u hu) ?_;intro w2 hl hI;rw[eT cur3 _ (by rw[kk];rfl)]at hl;refine⟨D.grown hI D.size (λk hk=>by cases hk;exact x),⟨g3,H9,e3,x,hl,hs.keep hJ (by decide) hI,ht⟩,?_⟩;intro k hk kv
    match k,hk,kv with
    | 0,_,_|1,_,_|2,_,_|3,_,_|4,_,_|5,_,_|6,_,_|7,_,_=>exactλh=>h
    | 8,_,_|9,_,_|10,_,_=>exactλ⟨H8,q1,q2,q3⟩=>⟨H8,q1,q2.keep hJ (by decide) hI,q3⟩
    | 11,_,_|12,_,_=>exactλh=>h
    | 13,_,_=>exactλq=>iY q hl ⟨_,hJ⟩ hI
    | 14,_,h=>exact absurd rfl h
    | 15,_,_|16,_,_=>exactλh=>h
    | n+17,h,_=>exact absurd h (by omega)
   intro y W3 hi hj;replace hi:Below N.heap.size N W3:=hi;have kt:((DY N.heap.size X F E)).r (y 8) W3:=hj 8 (by decide);have kh:((DY N.heap.size X F E)).r (y 9) W3:=hj 9 (by decide);have hL:((vC N.heap.size X)).r (y 10) W3:=hj 10 (by decide);have kE:((fu N.heap.size 45 11)).r (y 13) W3:=hj 13 (by decide);have ki:=hj 14 (by decide);clear hj;simp only[dS,bJ,bM,bP];obtain⟨gm,H2,em,kw,mx3,t,hh⟩:=ki;have hg:=ae hh;have Z:=O.below hi;have C:=G.ext hi;have j:=bY l hi;have s : qp W3 B H2:=t.mono (aX hK.out hl.out);rw[em];have hX:Hid (vW H.ma c=(setM H.ma X E,⟨E,F,[]⟩)):=ae (by rw[hY.out,hq.out,kg.out.1]);clear O c2 G l t hh hi kw em hL kh kt kg
   go_wp2_with (refine ay gm 0 (bS H2).toList mx3.rd _ underlying45 rfl mach_size ?_)
   refine(ni H H2 E B b _ Z s).mono ?_;rintro r w6 ⟨rfl,hC,H6,k6,hN⟩;have hM:=ae hN;have ax6:=C.grown hC (λe=>by cases e;omega);have hA:=nE j hC;clear Z C hC hN j s mx3
   go_wp2_with (refine aT (eQ E 0 nilV) ans_size ((bC _ _ _ _ _)) ?_)
   intro w7 hZ bx7;have k7:=k6.below hZ;have ax7:=ax6.ext hZ;have ka:=bY hA hZ;have kc:Hid (w.heap.size<w6.heap.size):=ae ax6.lt;clear k6 ax6 hA hZ;generalize w6.heap.size=gn at bx7 kc
   go_wp2_with (refine aY gn 1 [.int .i64 F] rfl rfl rfl _ _ bx7 (by show 1+1<=3;decide) int_size (λu hu=>by cases bF.1 hu;rfl) ?_)
   intro w8 bx8 hW;have bx8:aK w8 gn (eQ E F nilV) 54:=bx8;have k8:lV w8 B b H6:=k7.keepT bx7 (by decide) (by decide) hW;have ax8:=jG ax7 hW (by have:=kc.out;omega);have kp:=dE ka hW (z:=vI kc.out);clear k7 ax7 ka bx7 hW
   go_wp2_with (first | (refine ay gn 0 (eQ E F nilV).toList bx8.rd _ underlying54 rfl ans_size ?_) | (refine ax _ _ w.heap.size (eQ E F nilV) ax8 ans_size ?_))
   intro we J i;have o:=dE kp i (z:=aC _);have ke:lV we B b H6:=k8.keepT ax8 (by decide) (by decide) i;go_wp2;refine bodyPost_ret (v:=.agg (eQ E F nilV)) (aP results73 w.heap.size J underlying54 ans_size) rfl ?_;rw[hX.out];exact⟨nilV,rfl,Own.nil _ _ _ _,o,H6,ke,by rw[hM.out,hg.out]⟩
  have d6:(c.k==6)=false:=by simpa using h6
  have hq:Hid (Y=ZU H.ma P):=ae (by rw[hD.out,if_neg h1,if_neg h2,if_neg h3,if_neg h4,if_neg h5,if_neg h6]);go_upto_region 19 with(fail);clear hv;have hH:Hid (¬FV H (P:Int)):=ae (by
   rintro(e|e|e)
   ·omega
   ·omega
   ·rw[bu,hF.out]at e;cases e)
  refine aR 12 [.v (.pointer (some ⟨b,0,none⟩)),_,_,_,_,_,_,_,_,.r 9 ((Zk N.heap.size (FK H.ma P).m 0)),.r 10 ((vC N.heap.size (FK H.ma P).m)),.v (.int .i64 0)] (Gk rfl (Gk rfl (Gk rfl (Gf b 0 rfl rfl (Gr (.agg (bS H)) (λρ y W D hz=>(cz rfl (bi rfl hz) ((O.below D).blk) underlying45 mach_size)) rfl rfl (Gk rfl (Gk rfl (Gf gc 1 rfl rfl (Gl c2 (V:=.int .i64 (P:Int)) (by simp[kN,hB.out]) rfl rfl rfl rfl (aj ?_ (aj ?_ (aj ?_ (aH))))))))))))) (λ_=>rfl) rfl ?_
  ·intro ρ y W R hn D U;have ks:=R 107 4 rfl;have h4:y 4=_:=U 4 rfl;have kr:=R 111 8 rfl;have h8:y 8=_:=U 8 rfl;have EF:=eF0 hn λ_=>trivial;refine aL (aW rfl (EF _) func64 (by simp only[bU,bM,bP,ks,h4,kr,h8,EF];rfl)) ?_;refine(hr.out.ex (by omega) H W rfl (O.below D).ma.rd).mono ?_;rintro r w9 ⟨kd,hx⟩;rcases hx with⟨e,_⟩|⟨_,H9,rfl,hs,_,ht⟩;exact absurd e hH.out;exact⟨_,rfl,kd,H9,rfl,hs.mono D.size,ht⟩
  ·intro ρ y W R hn D U;have hT:=R 112 9 rfl;have h9:=U 9 rfl;obtain⟨H9,e9,hs,ht⟩:=h9;refine ak (.agg (bS H9)) (by simp[execOp,go_sem,hT,e9]) (m:=?_);exact⟨H9,rfl,hs,ht⟩
  ·intro ρ y W R hn D U;have hT:=R 112 9 rfl;have h9:=U 9 rfl;obtain⟨H9,e9,hs,ht⟩:=h9;refine ak (.int .i64 0) (by simp[execOp,go_sem,hT,e9])
  intro y W3 hi hj;have kh:((Zk N.heap.size (FK H.ma P).m 0)).r (y 9) W3:=hj 9 (by decide);have hL:((vC N.heap.size (FK H.ma P).m)).r (y 10) W3:=hj 10 (by decide);clear hj;have Z:=O.below hi;have C:=G.ext hi;have j:=bY l hi;obtain⟨H2,e2,km,ko⟩:=hL;rw[e2];have kn:=ae ko;have kl : qp W3 B H2:=km.mono (aX hK.out hl.out);have hX:Hid (vW H.ma c=((FK H.ma P).m,iV 0)):=ae (by rw[hY.out,hq.out];rfl);clear O c2 G l hi km ko e2
  go_wp2_with fail
  refine(ni H H2 0 B b _ Z kl).mono ?_;rintro r w6 ⟨rfl,hC,H6,k6,hN⟩;have hM:=ae hN;have ax6:=C.grown hC (λe=>by cases e;omega);have hA:=nE j hC;clear Z C hC hN j
  go_wp2_with (refine ax _ _ w.heap.size (eQ 0 0 nilV) ax6 ans_size ?_)
  intro we J i;have o:=dE hA i (z:=aC _);have ke:lV we B b H6:=k6.keepT ax6 (by decide) (by decide) i;clear k6 ax6 hA i;go_wp2;refine bodyPost_ret (v:=.agg (eQ 0 0 nilV)) (aP results73 w.heap.size J underlying54 ans_size) rfl ?_;rw[hX.out];exact⟨nilV,rfl,Own.nil _ _ _ _,o,H6,ke,by rw[hM.out];exact kn.out⟩
def NN(w:World)(B b rx rb ga:Nat)(S:MH)(e n:Int)(v:Value)(l:Nat)(vs:List Value):(Nat->Bool)->(Nat->Value)->World->Prop:=λL y W=>
 (Below B w W/\B<=W.heap.size)/\aK W b (bS S) 152/\qp W B S/\aK W ga (eQ e n v) 54/\Own W B 5 1 v l vs /\
 (L 5=false->aK W rx (bS noH) 45)/\(L 5=true->aK W rx (bS S) 45)/\(L 6=false->aK W rb (eQ 0 0 nilV) 54)/\(L 6=true->aK W rb (eQ e n v) 54)
theorem eZ{l:Nat} :∀L y W W',Below W.heap.size W W'->NN w B b rx rb ga S e n v l vs L y W->NN w B b rx rb ga S e n v l vs L y W':=
 λ_ _ _ _ hb ⟨h1,h2,h3,h4,h5,h6,h7,h8,h9⟩=>⟨⟨h1.1.trans (hb.mono h1.2),aX h1.2 hb.size⟩,h2.ext hb,h3.below hb,h4.ext hb,h5.below hb,λe=>(h6 e).ext hb,λe=>(h7 e).ext hb,λe=>(h8 e).ext hb,λe=>(h9 e).ext hb⟩
theorem gK{l:Nat}(d:i≠5/\i≠6)(h:NN w B b rx rb ga S e n v l vs L y W):NN w B b rx rb ga S e n v l vs (jr L i) (lX y i u) W:=by
 unfold NN at h ⊢;have k:jr L i 5=L 5:=by unfold jr;rw[if_neg (λe=>d.1 e.symm)]
 have g:jr L i 6=L 6:=by unfold jr;rw[if_neg (λe=>d.2 e.symm)]
 rw[k,g];exact h
theorem Jf{l:Nat}(z:L 5=false)(h:NN w B b rx rb ga S e n v l vs L y W)(o:aK W' rx (dO (bS noH) 0 (bS S).toList) 45)(C:B<=rx:=by omega)(d:W.grownBy W' (some rx):=by exact(aD _ _ _ _)):NN w B b rx rb ga S e n v l vs (jr L 5) (lX y 5 undef) W':=by
 obtain⟨t,O,N,K,J,G,Q,E,D⟩:=h;have g:=G z;rw[eT (bS noH) (bS S) rfl]at o;exact⟨⟨t.1.grown d t.2 (λk o=>by cases o;exact C),aX t.2 d.size⟩,aG O g d,N.keep g (by decide) d,aG K g d,aA J g d,λe=>(by cases e),λ_=>o,λe=>aG (E e) g d,λe=>aG (D e) g d⟩
theorem IQ{l:Nat}(t:rb≠ga)(C:L 6=false)(h:NN w B b rx rb ga S e n v l vs L y W)(o:aK W' rb (dO (eQ 0 0 nilV) 0 (eQ e n v).toList) 54)(D:B<=rb:=by omega)(d:W.grownBy W' (some rb):=by exact(aD _ _ _ _)):NN w B b rx rb ga S e n v l vs (jr L 6) (lX y 6 undef) W':=by
 obtain⟨z,Q,O,N,K,J,G,E,R⟩:=h;have g:=E C;rw[eT (eQ 0 0 nilV) (eQ e n v) rfl]at o;exact⟨⟨z.1.grown d z.2 (λk o=>by cases o;exact D),aX z.2 d.size⟩,aG Q g d,O.keep g (by decide) d,jG N d t,aA K g d,λe=>aG (J e) g d,λe=>aG (G e) g d,λe=>(by cases e),λ_=>o⟩
theorem oC{G:Func}{p q:Tmp}(h:G.results=#[.cell p ty,.cell q tz])(tmps:Array Value)(w:World)(g E:Nat)(t K:TypeId)(cs k:Array Value)(d J:TypeDesc)
 (Q:tmps.getD p undef = .pointer (some ⟨g,0,none⟩)) (O:tmps.getD q undef = .pointer (some ⟨E,0,none⟩)) (V:aK w g cs t) (C:aK w E k K) (N:P.underlying ty=some d) (X:aggB d=true) (U:(P.info? ty).map (·.size)=some cs.size)
 (o:P.underlying tz=some J) (D:aggB J=true) (z:(P.info? tz).map (·.size)=some k.size) :
  (results G tmps).run P w = .ok (.tuple #[.agg cs,.agg k]) w:=by
 have b : tmps[p]?.getD undef = .pointer (some ⟨g,0,none⟩):=by simpa using Q
 have a : tmps[q]?.getD undef = .pointer (some ⟨E,0,none⟩):=by simpa using O
 have R:=iZ (P:=P) V.rd N X (by rw[lH];exact U);have c:=iZ (P:=P) C.rd o D (by rw[lH];exact z);simp[results,h,b,a,asAddr,R,c]
def zO(H:MH)(c:Cl)(w:World)(r:Ending)(w' : World):Prop:=∃(H' : MH) (d:Value),r = .returned (.tuple #[.agg (bS H'),.agg (eQ (qD H.ma c).2.e (qD H.ma c).2.n d)])/\Below w.heap.size w w'/\qp w' w.heap.size H'/\H'.ma=(qD H.ma c).1/\Own w' w.heap.size 5 1 d (qD H.ma c).2.da.length ((qD H.ma c).2.da.map nD)
theorem errno_size:(Tryz.prog.info? 47).map (·.size)=some 1:=by kernel_rfl
theorem EL(H:MH)(c:Cl)(a:Option Addr)(cap:Nat)(w:World)(h:Dk w H)(hG:lY H.ma)(hrd:∀W,Below w.heap.size w W->eD W a (c.da.map nD))(hct:∀P:Nat,c.k<=7->c.p=P->P<H.ma.sp.length->(bQ H.ma P).lv=true->aam H.ma c a cap P)
 (hcf:8<c.k->c.k<=12->Xt 75 (λp q => #[p,q]) H.ma c a cap (SQ H.ma c)) (hcs:12<c.k->Xt 76 (λp q => #[p,q]) H.ma c a cap (Ck H.ma c)) :
  Calls Tryz.prog 31 #[.agg (bS H),.agg (kN c a cap)] w (zO H c w):=by
 have h6:=ae hG;have kc:=ae hrd;have ke:=ae hct;have kg:=ae hcf;have kf:=ae hcs;clear hG hrd hct hcf hcs;go_enter func31,ntmps31;go_upto_region 1 with(fail);refine abg (λW=>Code.wp _ _ _ _ W) λw1 h0 bx1 cx1 rx1 rb1 kb => ?_;have bx1:aK w1 w.heap.size (bS H) 45:=bx1;have cx1:aK w1 (w.heap.size+1) (kN c a cap) 25:=cx1;have rx1:aK w1 (w.heap.size+2) (bS noH) 45:=rx1;have rb1:aK w1 (w.heap.size+3) (eQ 0 0 nilV) 54:=rb1;have h1:=h.below h0;have kn:=ae kb;clear h kb
 go_wp2_with (refine ay w.heap.size 0 _ bx1.rd _ underlying45 rfl machine_size ?_)
 refine(rQ H _ h1).mono ?_;rintro r w2 ⟨rfl,hH⟩;rw[Cq.2 h6.out.rt];have h2:=h1.below hH;have bx2:=bx1.ext hH;have cx2:=cx1.ext hH;have rx2:=rx1.ext hH;have rb2:=rb1.ext hH;have hO:=ah h0 hH;clear h1 bx1 cx1 rx1 rb1 h0 hH
 go_wp2_with (refine ay w.heap.size 0 _ bx2.rd _ underlying45 rfl machine_size ?_)
 refine(nA H _ h2 (sK h6.out.rt)).mono ?_;rintro r w3 ⟨G,rfl,kd,hU,_,hP⟩;have hm:=ae hU;have cx3:=cx2.ext hP;have rx3:=rx2.ext hP;have rb3:=rb2.ext hP;have hZ:=ah hO hP;have hT:=kd.mono hO.size;have hL:Hid (w.heap.size+4<=w3.heap.size):=ae rb3.lt;clear h2 bx2 cx2 rx2 rb2 hO hP kd hU;unfold bS;go_upto_region 7 with(fail);refine uY (λW=>Code.wp _ _ _ _ W) λw4 hK kx4 U kj => ?_;have kx4:aK w4 w3.heap.size (bS G) 152:=kx4;have U:aK w4 (w3.heap.size+1) (eQ 0 0 nilV) 54:=U;have k4:lV w4 w.heap.size w3.heap.size G:=⟨kx4,by have:=hL.out;omega,hT.below hK⟩;have c4:=cx3.ext hK;have rx4:=rx3.ext hK;have rb4:=rb3.ext hK;have m:=ah hZ hK;have hV:w.heap.size+4<=w3.heap.size/\w3.heap.size<w3.heap.size+1:=⟨hL.out,Nat.lt_succ_self _⟩;clear cx3 rx3 rb3 hZ hK hT hL kj kx4;generalize w3.heap.size+1=ga at *
 generalize w3.heap.size=b at *
 have i:=ae hV;clear hV;have km:Hid (lY G.ma):=ae (by rw[hm.out];exact h6.out);have hh:∀W,Below w.heap.size w4 W->eD W a (c.da.map nD):=λW D=>kc.out W (dI m D);have hA:=c4.cell;unfold kN at hA
 by_cases hk1:c.k<1
 ·have hX:Hid (qD H.ma c=(H.ma,iV 1)):=ae (by unfold qD;rw[if_pos (.inl hk1)])
  go_wp2_with (refine aY ga 0 [.int .i64 1] rfl rfl rfl _ _ U (by show 0+1<=3;decide) errno_size (λu Z=>by cases bF.1 Z;rfl) ?_)
  intro w5 C l;have C:aK w5 ga (eQ 1 0 nilV) 54:=C;have k5:=k4.keepT U (by decide) (by decide) l;have K:=aG rx4 U l;have N:=jG rb4 l (by have:=i.out;omega);have hc:=ae (m.grown l m.size (λk hk=>by have:=i.out;cases hk;omega));have j:Own w5 w.heap.size 5 1 nilV ([]:List UInt8).length (([]:List UInt8).map nD):=Own.nil _ _ _ _;have hl:Hid ((eQ 1 0 nilV).all (·.oneCell')=true):=ae ((bC _ _ _ _ _));have hf:=hm;clear k4 rx4 rb4 m U l c4 hh;go_upto_region 18 with(fail);clear hA;refine qQ 7 [_,_,_,.v (.agg (bS G)),.v (.agg (eQ 1 0 nilV)),.r 5 ((yC λ_=>True)),.r 6 ((yC λ_=>True))] (NN w w.heap.size b (w.heap.size+2) (w.heap.size+3) ga G 1 0 nilV ([]:List UInt8).length (([]:List UInt8).map nD)) eZ (λy=>⟨⟨hc.out,hc.out.size⟩,k5.blk,k5.ma,C,j,λ_=>K,λe=>(by cases e),λ_=>N,λe=>(by cases e)⟩) (Qk eZ rfl (Qk eZ rfl (Qf eZ b 0 rfl rfl (aj ?_ (aj ?_ (aj ?_ (aj ?_ (aH))))) (λ_ _ _ _ g h=>gK (by decide) h)) (λ_ _ _ _ g h=>gK (by decide) h)) (λ_ _ _ _ g h=>gK (by decide) h)) (λ_=>rfl) rfl ?_
  ·intro ρ y W L O Q f g D R;refine yM eZ D ?_;have hv:=O 74 2 rfl;have h2:y 2=_:=R 2 rfl;refine ak (.agg (bS G)) (cz rfl (hv.trans h2) D.2.1 underlying45 mach_size)
  ·intro ρ y W L O Q f g D R;refine yM eZ D ?_;have E8:ρ (.tmp 8) = .pointer (some ⟨ga,0,none⟩):=(Q (.tmp 8) rfl).trans rfl;refine ak (.agg (eQ 1 0 nilV)) (cz rfl E8 D.2.2.2.1 underlying54 ans_size)
  ·intro ρ y W L O Q f g D R;have E4:ρ (.tmp 4) = .pointer (some ⟨w.heap.size+2,0,none⟩):=(Q (.tmp 4) rfl).trans rfl;have ht:=O 75 3 rfl;have h3:y 3=_:=R 3 rfl;have J:=D.2.2.2.2.2.1 f;exact jI (mQ _ _ _ rfl (w.heap.size+2) 0 _ (bS G).toList E4 (ht.trans h3) rfl _ _ J (aC _) mach_size (λu Z=>by have:=dQ G;rw[<-iX,dG]at this;exact this u Z)) (Jf f D (J.setCells _ _))
  ·intro ρ y W L O Q f g D R;have E5:ρ (.tmp 5) = .pointer (some ⟨w.heap.size+3,0,none⟩):=(Q (.tmp 5) rfl).trans rfl;have hs:=O 76 4 rfl;have h4:y 4=_:=R 4 rfl;have J:=D.2.2.2.2.2.2.2.1 f;exact jI (mQ _ _ _ rfl (w.heap.size+3) 0 _ (eQ 1 0 nilV).toList E5 (hs.trans h4) rfl _ _ J (aC _) ans_size (λu Z=>by have:=hl.out;rw[<-iX,dG]at this;exact this u Z)) (IQ (by have:=i.out;omega) f D (J.setCells _ _))
  intro y W7 z ha;clear ha;simp only[dS,bJ,bM,bP];obtain⟨⟨x,_⟩,_,hj,_,hi,_,o,_,s⟩:=z;have V:=o rfl;have X:=s rfl;go_wp2;refine bodyPost_ret (v:=.tuple #[.agg (bS G),.agg (eQ 1 0 nilV)]) ?_ rfl ?_
  ·exact oC results31 _ _ (w.heap.size+2) (w.heap.size+3) _ _ _ _ _ _ rfl rfl V X underlying45 rfl mach_size underlying54 rfl ans_size
  unfold zO;rw[hX.out];exact⟨G,_,rfl,x,hj,hf.out,hi⟩
 have d1:decide (c.k<1)=false:=decide_eq_false hk1
 by_cases hk2:15<c.k
 ·have hX:Hid (qD H.ma c=(H.ma,iV 1)):=ae (by unfold qD;rw[if_pos (.inr hk2)])
  go_wp2_with (refine aY ga 0 [.int .i64 1] rfl rfl rfl _ _ U (by show 0+1<=3;decide) errno_size (λu Z=>by cases bF.1 Z;rfl) ?_)
  intro w5 C l;have C:aK w5 ga (eQ 1 0 nilV) 54:=C;have k5:=k4.keepT U (by decide) (by decide) l;have K:=aG rx4 U l;have N:=jG rb4 l (by have:=i.out;omega);have hc:=ae (m.grown l m.size (λk hk=>by have:=i.out;cases hk;omega));have j:Own w5 w.heap.size 5 1 nilV ([]:List UInt8).length (([]:List UInt8).map nD):=Own.nil _ _ _ _;have hl:Hid ((eQ 1 0 nilV).all (·.oneCell')=true):=ae ((bC _ _ _ _ _));have hf:=hm;clear k4 rx4 rb4 m U l c4 hh;go_upto_region 18 with(fail);clear hA;refine qQ 7 [_,_,_,.v (.agg (bS G)),.v (.agg (eQ 1 0 nilV)),.r 5 ((yC λ_=>True)),.r 6 ((yC λ_=>True))] (NN w w.heap.size b (w.heap.size+2) (w.heap.size+3) ga G 1 0 nilV ([]:List UInt8).length (([]:List UInt8).map nD)) eZ (λy=>⟨⟨hc.out,hc.out.size⟩,k5.blk,k5.ma,C,j,λ_=>K,λe=>(by cases e),λ_=>N,λe=>(by cases e)⟩) (Qk eZ rfl (Qk eZ rfl (Qf eZ b 0 rfl rfl (aj ?_ (aj ?_ (aj ?_ (aj ?_ (aH))))) (λ_ _ _ _ g h=>gK (by decide) h)) (λ_ _ _ _ g h=>gK (by decide) h)) (λ_ _ _ _ g h=>gK (by decide) h)) (λ_=>rfl) rfl ?_
  ·intro ρ y W L O Q f g D R;refine yM eZ D ?_;have hv:=O 74 2 rfl;have h2:y 2=_:=R 2 rfl;refine ak (.agg (bS G)) (cz rfl (hv.trans h2) D.2.1 underlying45 mach_size)
  ·intro ρ y W L O Q f g D R;refine yM eZ D ?_;have E8:ρ (.tmp 8) = .pointer (some ⟨ga,0,none⟩):=(Q (.tmp 8) rfl).trans rfl;refine ak (.agg (eQ 1 0 nilV)) (cz rfl E8 D.2.2.2.1 underlying54 ans_size)
  ·intro ρ y W L O Q f g D R;have E4:ρ (.tmp 4) = .pointer (some ⟨w.heap.size+2,0,none⟩):=(Q (.tmp 4) rfl).trans rfl;have ht:=O 75 3 rfl;have h3:y 3=_:=R 3 rfl;have J:=D.2.2.2.2.2.1 f;exact jI (mQ _ _ _ rfl (w.heap.size+2) 0 _ (bS G).toList E4 (ht.trans h3) rfl _ _ J (aC _) mach_size (λu Z=>by have:=dQ G;rw[<-iX,dG]at this;exact this u Z)) (Jf f D (J.setCells _ _))
  ·intro ρ y W L O Q f g D R;have E5:ρ (.tmp 5) = .pointer (some ⟨w.heap.size+3,0,none⟩):=(Q (.tmp 5) rfl).trans rfl;have hs:=O 76 4 rfl;have h4:y 4=_:=R 4 rfl;have J:=D.2.2.2.2.2.2.2.1 f;exact jI (mQ _ _ _ rfl (w.heap.size+3) 0 _ (eQ 1 0 nilV).toList E5 (hs.trans h4) rfl _ _ J (aC _) ans_size (λu Z=>by have:=hl.out;rw[<-iX,dG]at this;exact this u Z)) (IQ (by have:=i.out;omega) f D (J.setCells _ _))
  intro y W7 z ha;clear ha;simp only[dS,bJ,bM,bP];obtain⟨⟨x,_⟩,_,hj,_,hi,_,o,_,s⟩:=z;have V:=o rfl;have X:=s rfl;go_wp2;refine bodyPost_ret (v:=.tuple #[.agg (bS G),.agg (eQ 1 0 nilV)]) ?_ rfl ?_
  ·exact oC results31 _ _ (w.heap.size+2) (w.heap.size+3) _ _ _ _ _ _ rfl rfl V X underlying45 rfl mach_size underlying54 rfl ans_size
  unfold zO;rw[hX.out];exact⟨G,_,rfl,x,hj,hf.out,hi⟩
 have d2:decide (15<c.k)=false:=decide_eq_false hk2;have h1:¬(c.k<1\/15<c.k):=by omega
 obtain⟨Y,hQ⟩:∃Y,Hid ((if c.k<=7 then vW G.ma c else if c.k=8 then GN G.ma else if c.k<=12 then SQ G.ma c else Ck G.ma c)=Y):=⟨_,ae rfl⟩;have hY:Hid (qD H.ma c=Y):=ae (by rw[<-hQ.out,hm.out];unfold qD;rw[if_neg h1])
 by_cases h7:c.k<=7
 ·have hq:Hid (vW G.ma c=Y):=ae (by rw[<-hQ.out,if_pos h7]);have hp:=Mj G c a cap (w.heap.size+1) w.heap.size b w4 k4 km.out c4 hh (λP e1 e2 e3=>by rw[hm.out]at e2 e3 ⊢; exact ke.out P h7 e1 e2 e3);rw[hq.out]at hp;have hz:=ae hp;clear hp hh
  go_wp2_with fail
  refine hz.out.mono ?_;rintro r w5 ⟨d,rfl,j,l,H5,k5,hf⟩;obtain⟨ad,cd,rfl,_⟩:=j.rd;have hf:=ae hf;have C:=U.grown l (λe=>by have:=i.out;cases e;omega);have K:=rx4.grown l (λe=>by have:=i.out;cases e;omega);have N:=rb4.grown l (λe=>by have:=i.out;cases e;omega);have hg:=m.grown l m.size (λk hk=>by have:=i.out;cases hk;omega);have j:=j.mono m.size;clear k4 U l rx4 rb4 c4
  go_wp2_with (refine ax _ _ ga (eQ Y.2.e Y.2.n (.slice ad Y.2.da.length cd)) C ans_size ?_)
  intro w6 ax6 t;have k6:=k5.keepT C (by decide) (by decide) t;have rx6:=aG K C t;have rb6:=jG N t (by have:=i.out;omega);have hy:=aA j C t;have hB:=ae (hg.grown t hg.size (λk hk=>by have:=i.out;cases hk;omega));clear k5 K N j hg C t;have k5:=k6;have K:=rx6;have N:=rb6;have j:=hy;have hc:=hB;have C:=ax6;clear k6 rx6 rb6 hy hB ax6;have hl:Hid ((eQ Y.2.e Y.2.n (.slice ad Y.2.da.length cd)).all (·.oneCell')=true):=ae ((bC _ _ _ _ _));have hX:Hid (qD H.ma c=(Y.1,⟨Y.2.e,Y.2.n,Y.2.da⟩)):=hY;go_upto_region 18 with(fail);clear hA;refine qQ 7 [_,_,_,.v (.agg (bS H5)),.v (.agg (eQ Y.2.e Y.2.n (.slice ad Y.2.da.length cd))),.r 5 ((yC λ_=>True)),.r 6 ((yC λ_=>True))] (NN w w.heap.size b (w.heap.size+2) (w.heap.size+3) ga H5 Y.2.e Y.2.n (.slice ad Y.2.da.length cd) Y.2.da.length (Y.2.da.map nD)) eZ (λy=>⟨⟨hc.out,hc.out.size⟩,k5.blk,k5.ma,C,j,λ_=>K,λe=>(by cases e),λ_=>N,λe=>(by cases e)⟩) (Qk eZ rfl (Qk eZ rfl (Qf eZ b 0 rfl rfl (aj ?_ (aj ?_ (aj ?_ (aj ?_ (aH))))) (λ_ _ _ _ g h=>gK (by decide) h)) (λ_ _ _ _ g h=>gK (by decide) h)) (λ_ _ _ _ g h=>gK (by decide) h)) (λ_=>rfl) rfl ?_
  ·intro ρ y W L O Q f g D R;refine yM eZ D ?_;have hv:=O 74 2 rfl;have h2:y 2=_:=R 2 rfl;refine ak (.agg (bS H5)) (cz rfl (hv.trans h2) D.2.1 underlying45 mach_size)
  ·intro ρ y W L O Q f g D R;refine yM eZ D ?_;have E8:ρ (.tmp 8) = .pointer (some ⟨ga,0,none⟩):=(Q (.tmp 8) rfl).trans rfl;refine ak (.agg (eQ Y.2.e Y.2.n (.slice ad Y.2.da.length cd))) (cz rfl E8 D.2.2.2.1 underlying54 ans_size)
  ·intro ρ y W L O Q f g D R;have E4:ρ (.tmp 4) = .pointer (some ⟨w.heap.size+2,0,none⟩):=(Q (.tmp 4) rfl).trans rfl;have ht:=O 75 3 rfl;have h3:y 3=_:=R 3 rfl;have J:=D.2.2.2.2.2.1 f;exact jI (mQ _ _ _ rfl (w.heap.size+2) 0 _ (bS H5).toList E4 (ht.trans h3) rfl _ _ J (aC _) mach_size (λu Z=>by have:=dQ H5;rw[<-iX,dG]at this;exact this u Z)) (Jf f D (J.setCells _ _))
  ·intro ρ y W L O Q f g D R;have E5:ρ (.tmp 5) = .pointer (some ⟨w.heap.size+3,0,none⟩):=(Q (.tmp 5) rfl).trans rfl;have hs:=O 76 4 rfl;have h4:y 4=_:=R 4 rfl;have J:=D.2.2.2.2.2.2.2.1 f;exact jI (mQ _ _ _ rfl (w.heap.size+3) 0 _ (eQ Y.2.e Y.2.n (.slice ad Y.2.da.length cd)).toList E5 (hs.trans h4) rfl _ _ J (aC _) ans_size (λu Z=>by have:=hl.out;rw[<-iX,dG]at this;exact this u Z)) (IQ (by have:=i.out;omega) f D (J.setCells _ _))
  intro y W7 z ha;clear ha;simp only[dS,bJ,bM,bP];obtain⟨⟨x,_⟩,_,hj,_,hi,_,o,_,s⟩:=z;have V:=o rfl;have X:=s rfl;go_wp2;refine bodyPost_ret (v:=.tuple #[.agg (bS H5),.agg (eQ Y.2.e Y.2.n (.slice ad Y.2.da.length cd))]) ?_ rfl ?_
  ·exact oC results31 _ _ (w.heap.size+2) (w.heap.size+3) _ _ _ _ _ _ rfl rfl V X underlying45 rfl mach_size underlying54 rfl ans_size
  unfold zO;rw[hX.out];exact⟨H5,_,rfl,x,hj,hf.out,hi⟩
 by_cases h8:c.k=8
 ·have hq:Hid (GN G.ma=Y):=ae (by rw[<-hQ.out,if_neg h7,if_pos h8]);have hM:Hid (bD G.fi G.ct=G.ma.st):=ae rfl;go_upto_region 12 with(fail)
  go_wp2_with (refine ay b 7 _ (cK k4.blk 7 2) _ underlying41 rfl store_size ?_)
  refine(Ng G.fi G.ct G.ai G.ci _ k4.ma.rd.st k4.ma.c64).mono ?_;rintro r w5 ⟨v5,qs,ct5,rfl,hR,hS,hJ⟩;obtain⟨a5,c5,rfl,_⟩:=hR.rd;have hC:=ae hS;have k5:=k4.below hJ;have C:=U.ext hJ;have K:=rx4.ext hJ;have N:=rb4.ext hJ;have hW:=ah m hJ;have hR:=hR.mono m.size;clear k4 U rx4 rb4 m hJ hS hh c4
  go_wp2_with (refine aT #[.slice a5 qs.length c5,.int .i64 ct5] store_size (jP _ _ _ _) ?_)
  intro w6 hF sx6;have k6:=k5.below hF;have ax6:=C.ext hF;have rx6:=K.ext hF;have rb6:=N.ext hF;have hx:=ah hW hF;have h5:=hR.below hF;have kl:Hid (ga<w5.heap.size):=ae C.lt;clear k5 C K N hW hR hF;generalize w5.heap.size=gs at sx6 kl
  by_cases hE:jV G.ma.st=0
  ·have hI:=hE;rw[<-hM.out]at hI;have hX:Hid (qD H.ma c=({ G.ma with st:=mR G.ma.st },⟨0,jX (bD G.fi G.ct),[]⟩)):=ae (by rw[hY.out,<-hq.out];unfold GN;rw[if_pos hE];rfl);have hct:Hid (ct5=G.ct):=ae (by have:=congrArg St.count hC.out;unfold mR at this;rw[if_pos hI]at this;exact this);rw[hI]
   go_wp2_with (first | (refine ay gs 0 #[.slice a5 qs.length c5,.int .i64 ct5].toList sx6.rd _ underlying41 rfl store_size ?_) | (refine fV _ _ b 7 #[.slice a5 qs.length c5,.int .i64 ct5] _ _ k6.blk (by show 7+2<=11;decide) store_size (jP _ _ _ _) ?_))
   intro w7 kx7 hD;have M7:=k6.ma.keep k6.blk (by decide) hD;have kh:=h5.keep k6.blk (by decide) (by decide) hD;have k7:lV w7 w.heap.size b { G with ai:=a5,ci:=c5,fi:=qs,ct:=ct5 }:=⟨kx7,k6.ge,⟨M7.fr,M7.sl,M7.sw,M7.dk,kh,M7.ca,M7.sp,M7.ps,by rw[hct.out];exact M7.c64⟩⟩;have ax7:=aG ax6 k6.blk hD;have rx7:=aG rx6 k6.blk hD;have rb7:=aG rb6 k6.blk hD;have ka:=hx.grown hD hx.size (λk hk=>by have:=i.out;cases hk;omega);have kk:Hid (MH.ma { G with ai:=a5,ci:=c5,fi:=qs,ct:=ct5 } = { G.ma with st:=mR G.ma.st }):=ae (by have e:bD qs ct5=mR G.ma.st:=hC.out;rw[<-e];rfl);clear k6 kx7 M7 kh h5 ax6 rx6 rb6 hx hD sx6 hC;generalize ({ G with ai:=a5,ci:=c5,fi:=qs,ct:=ct5 }:MH)=H5 at *
   go_wp2_with (refine aY ga 1 [.int .i64 (jX (bD G.fi G.ct))] rfl rfl rfl _ _ ax7 (by show 1+1<=3;decide) int_size (λu Z=>by cases bF.1 Z;rfl) ?_)
   intro w8 ax8 hN;have ax8:aK w8 ga (eQ 0 (jX (bD G.fi G.ct)) nilV) 54:=ax8;have k8:=k7.keepT ax7 (by decide) (by decide) hN;have V:=aG rx7 ax7 hN;have X:=jG rb7 hN (by have:=i.out;omega);have h9:=ka.grown hN ka.size (λk hk=>by have:=i.out;cases hk;omega);clear k7 rx7 rb7 ka ax7 hN
   go_wp2_with (refine aY ga 0 [.int .i64 0] rfl rfl rfl _ _ ax8 (by show 0+1<=3;decide) errno_size (λu Z=>by cases bF.1 Z;rfl) ?_)
   intro w9 ax9 hr;have C:aK w9 ga (eQ 0 (jX (bD G.fi G.ct)) nilV) 54:=ax9;have k5:=k8.keepT ax8 (by decide) (by decide) hr;have K:=aG V ax8 hr;have N:=jG X hr (by have:=i.out;omega);have hc:=ae (h9.grown hr h9.size (λk hk=>by have:=i.out;cases hk;omega));clear k8 V X h9 ax8 hr ax9;have j:Own w9 w.heap.size 5 1 nilV ([]:List UInt8).length (([]:List UInt8).map nD):=Own.nil _ _ _ _;have hl:Hid ((eQ 0 (jX (bD G.fi G.ct)) nilV).all (·.oneCell')=true):=ae ((bC _ _ _ _ _));have hf:=kk;go_upto_region 18 with(fail);clear hA;refine qQ 7 [_,_,_,.v (.agg (bS H5)),.v (.agg (eQ 0 (jX (bD G.fi G.ct)) nilV)),.r 5 ((yC λ_=>True)),.r 6 ((yC λ_=>True))] (NN w w.heap.size b (w.heap.size+2) (w.heap.size+3) ga H5 0 (jX (bD G.fi G.ct)) nilV ([]:List UInt8).length (([]:List UInt8).map nD)) eZ (λy=>⟨⟨hc.out,hc.out.size⟩,k5.blk,k5.ma,C,j,λ_=>K,λe=>(by cases e),λ_=>N,λe=>(by cases e)⟩) (Qk eZ rfl (Qk eZ rfl (Qf eZ b 0 rfl rfl (aj ?_ (aj ?_ (aj ?_ (aj ?_ (aH))))) (λ_ _ _ _ g h=>gK (by decide) h)) (λ_ _ _ _ g h=>gK (by decide) h)) (λ_ _ _ _ g h=>gK (by decide) h)) (λ_=>rfl) rfl ?_
   ·intro ρ y W L O Q f g D R;refine yM eZ D ?_;have hv:=O 74 2 rfl;have h2:y 2=_:=R 2 rfl;refine ak (.agg (bS H5)) (cz rfl (hv.trans h2) D.2.1 underlying45 mach_size)
   ·intro ρ y W L O Q f g D R;refine yM eZ D ?_;have E8:ρ (.tmp 8) = .pointer (some ⟨ga,0,none⟩):=(Q (.tmp 8) rfl).trans rfl;refine ak (.agg (eQ 0 (jX (bD G.fi G.ct)) nilV)) (cz rfl E8 D.2.2.2.1 underlying54 ans_size)
   ·intro ρ y W L O Q f g D R;have E4:ρ (.tmp 4) = .pointer (some ⟨w.heap.size+2,0,none⟩):=(Q (.tmp 4) rfl).trans rfl;have ht:=O 75 3 rfl;have h3:y 3=_:=R 3 rfl;have J:=D.2.2.2.2.2.1 f;exact jI (mQ _ _ _ rfl (w.heap.size+2) 0 _ (bS H5).toList E4 (ht.trans h3) rfl _ _ J (aC _) mach_size (λu Z=>by have:=dQ H5;rw[<-iX,dG]at this;exact this u Z)) (Jf f D (J.setCells _ _))
   ·intro ρ y W L O Q f g D R;have E5:ρ (.tmp 5) = .pointer (some ⟨w.heap.size+3,0,none⟩):=(Q (.tmp 5) rfl).trans rfl;have hs:=O 76 4 rfl;have h4:y 4=_:=R 4 rfl;have J:=D.2.2.2.2.2.2.2.1 f;exact jI (mQ _ _ _ rfl (w.heap.size+3) 0 _ (eQ 0 (jX (bD G.fi G.ct)) nilV).toList E5 (hs.trans h4) rfl _ _ J (aC _) ans_size (λu Z=>by have:=hl.out;rw[<-iX,dG]at this;exact this u Z)) (IQ (by have:=i.out;omega) f D (J.setCells _ _))
   intro y W7 z ha;clear ha;simp only[dS,bJ,bM,bP];obtain⟨⟨x,_⟩,_,hj,_,hi,_,o,_,s⟩:=z;have V:=o rfl;have X:=s rfl;go_wp2;refine bodyPost_ret (v:=.tuple #[.agg (bS H5),.agg (eQ 0 (jX (bD G.fi G.ct)) nilV)]) ?_ rfl ?_
   ·exact oC results31 _ _ (w.heap.size+2) (w.heap.size+3) _ _ _ _ _ _ rfl rfl V X underlying45 rfl mach_size underlying54 rfl ans_size
   unfold zO;rw[hX.out];exact⟨H5,_,rfl,x,hj,hf.out,hi⟩
  have hI:=hE;rw[<-hM.out]at hI;obtain⟨E,ki⟩:∃E,Hid (jV (bD G.fi G.ct)=E):=⟨_,ae rfl⟩;have hX:Hid (qD H.ma c=(H.ma,⟨E,0,[]⟩)):=ae (by rw[hY.out,<-hq.out];unfold GN;rw[if_neg hE,<-hM.out,ki.out,hm.out];rfl);rw[ki.out]at hI ⊢;have ko:(E==0)=false:=by simpa using hI
  go_wp2_with (refine aY ga 0 [.int .i64 E] rfl rfl rfl _ _ ax6 (by show 0+1<=3;decide) errno_size (λu Z=>by cases bF.1 Z;rfl) ?_)
  intro w9 ax9 hr;have C:aK w9 ga (eQ E 0 nilV) 54:=ax9;have k5:=k6.keepT ax6 (by decide) (by decide) hr;have K:=aG rx6 ax6 hr;have N:=jG rb6 hr (by have:=i.out;omega);have hc:=ae (hx.grown hr hx.size (λk hk=>by have:=i.out;cases hk;omega));clear k6 rx6 rb6 hx ax6 hr ax9 h5 sx6;have j:Own w9 w.heap.size 5 1 nilV ([]:List UInt8).length (([]:List UInt8).map nD):=Own.nil _ _ _ _;have hl:Hid ((eQ E 0 nilV).all (·.oneCell')=true):=ae ((bC _ _ _ _ _));have hf:=hm;go_upto_region 18 with(fail);clear hA;refine qQ 7 [_,_,_,.v (.agg (bS G)),.v (.agg (eQ E 0 nilV)),.r 5 ((yC λ_=>True)),.r 6 ((yC λ_=>True))] (NN w w.heap.size b (w.heap.size+2) (w.heap.size+3) ga G E 0 nilV ([]:List UInt8).length (([]:List UInt8).map nD)) eZ (λy=>⟨⟨hc.out,hc.out.size⟩,k5.blk,k5.ma,C,j,λ_=>K,λe=>(by cases e),λ_=>N,λe=>(by cases e)⟩) (Qk eZ rfl (Qk eZ rfl (Qf eZ b 0 rfl rfl (aj ?_ (aj ?_ (aj ?_ (aj ?_ (aH))))) (λ_ _ _ _ g h=>gK (by decide) h)) (λ_ _ _ _ g h=>gK (by decide) h)) (λ_ _ _ _ g h=>gK (by decide) h)) (λ_=>rfl) rfl ?_
  ·intro ρ y W L O Q f g D R;refine yM eZ D ?_;have hv:=O 74 2 rfl;have h2:y 2=_:=R 2 rfl;refine ak (.agg (bS G)) (cz rfl (hv.trans h2) D.2.1 underlying45 mach_size)
  ·intro ρ y W L O Q f g D R;refine yM eZ D ?_;have E8:ρ (.tmp 8) = .pointer (some ⟨ga,0,none⟩):=(Q (.tmp 8) rfl).trans rfl;refine ak (.agg (eQ E 0 nilV)) (cz rfl E8 D.2.2.2.1 underlying54 ans_size)
  ·intro ρ y W L O Q f g D R;have E4:ρ (.tmp 4) = .pointer (some ⟨w.heap.size+2,0,none⟩):=(Q (.tmp 4) rfl).trans rfl;have ht:=O 75 3 rfl;have h3:y 3=_:=R 3 rfl;have J:=D.2.2.2.2.2.1 f;exact jI (mQ _ _ _ rfl (w.heap.size+2) 0 _ (bS G).toList E4 (ht.trans h3) rfl _ _ J (aC _) mach_size (λu Z=>by have:=dQ G;rw[<-iX,dG]at this;exact this u Z)) (Jf f D (J.setCells _ _))
  ·intro ρ y W L O Q f g D R;have E5:ρ (.tmp 5) = .pointer (some ⟨w.heap.size+3,0,none⟩):=(Q (.tmp 5) rfl).trans rfl;have hs:=O 76 4 rfl;have h4:y 4=_:=R 4 rfl;have J:=D.2.2.2.2.2.2.2.1 f;exact jI (mQ _ _ _ rfl (w.heap.size+3) 0 _ (eQ E 0 nilV).toList E5 (hs.trans h4) rfl _ _ J (aC _) ans_size (λu Z=>by have:=hl.out;rw[<-iX,dG]at this;exact this u Z)) (IQ (by have:=i.out;omega) f D (J.setCells _ _))
  intro y W7 z ha;clear ha;simp only[dS,bJ,bM,bP];obtain⟨⟨x,_⟩,_,hj,_,hi,_,o,_,s⟩:=z;have V:=o rfl;have X:=s rfl;go_wp2;refine bodyPost_ret (v:=.tuple #[.agg (bS G),.agg (eQ E 0 nilV)]) ?_ rfl ?_
  ·exact oC results31 _ _ (w.heap.size+2) (w.heap.size+3) _ _ _ _ _ _ rfl rfl V X underlying45 rfl mach_size underlying54 rfl ans_size
  unfold zO;rw[hX.out];exact⟨G,_,rfl,x,hj,hf.out,hi⟩
 have d8:(c.k==8)=false:=by simpa using h8
 by_cases h12:c.k<=12
 case' pos=>
  have hq:Hid (SQ H.ma c=Y):=ae (by rw[<-hQ.out,if_neg h7,if_neg h8,if_pos h12,hm.out]);have hp:=kg.out (by omega) h12 G (w.heap.size+1) w.heap.size b w4 hm.out k4 c4 hh;rw[hq.out]at hp;have hz:=ae hp;clear hp hh
  go_wp2_with fail
  refine hz.out.mono ?_;rintro r w5 ⟨d,rfl,j,l,H5,k5,hf⟩;obtain⟨ad,cd,rfl,_⟩:=j.rd;have hf:=ae hf;have C:=U.grown l (λe=>by have:=i.out;cases e;omega);have K:=rx4.grown l (λe=>by have:=i.out;cases e;omega);have N:=rb4.grown l (λe=>by have:=i.out;cases e;omega);have hg:=m.grown l m.size (λk hk=>by have:=i.out;cases hk;omega);have j:=j.mono m.size;clear k4 U l rx4 rb4 c4
  go_wp2_with (refine ax _ _ ga (eQ Y.2.e Y.2.n (.slice ad Y.2.da.length cd)) C ans_size ?_)
  intro w6 ax6 t;have k6:=k5.keepT C (by decide) (by decide) t;have rx6:=aG K C t;have rb6:=jG N t (by have:=i.out;omega);have hy:=aA j C t;have hB:=ae (hg.grown t hg.size (λk hk=>by have:=i.out;cases hk;omega));clear k5 K N j hg C t;have k5:=k6;have K:=rx6;have N:=rb6;have j:=hy;have hc:=hB;have C:=ax6;clear k6 rx6 rb6 hy hB ax6;have hl:Hid ((eQ Y.2.e Y.2.n (.slice ad Y.2.da.length cd)).all (·.oneCell')=true):=ae ((bC _ _ _ _ _));have hX:Hid (qD H.ma c=(Y.1,⟨Y.2.e,Y.2.n,Y.2.da⟩)):=hY;go_upto_region 18 with(fail);clear hA;refine qQ 7 [_,_,_,.v (.agg (bS H5)),.v (.agg (eQ Y.2.e Y.2.n (.slice ad Y.2.da.length cd))),.r 5 ((yC λ_=>True)),.r 6 ((yC λ_=>True))] (NN w w.heap.size b (w.heap.size+2) (w.heap.size+3) ga H5 Y.2.e Y.2.n (.slice ad Y.2.da.length cd) Y.2.da.length (Y.2.da.map nD)) eZ (λy=>⟨⟨hc.out,hc.out.size⟩,k5.blk,k5.ma,C,j,λ_=>K,λe=>(by cases e),λ_=>N,λe=>(by cases e)⟩) (Qk eZ rfl (Qk eZ rfl (Qf eZ b 0 rfl rfl (aj ?u1_1 (aj ?u1_2 (aj ?u1_3 (aj ?u1_4 (aH))))) (λ_ _ _ _ g h=>gK (by decide) h)) (λ_ _ _ _ g h=>gK (by decide) h)) (λ_ _ _ _ g h=>gK (by decide) h)) (λ_=>rfl) rfl ?u1_5
 case' neg=>
  have hq:Hid (Ck H.ma c=Y):=ae (by rw[<-hQ.out,if_neg h7,if_neg h8,if_neg h12,hm.out]);have hp:=kf.out (by omega) G (w.heap.size+1) w.heap.size b w4 hm.out k4 c4 hh;rw[hq.out]at hp;have hz:=ae hp;clear hp hh
  go_wp2_with fail
  refine hz.out.mono ?_;rintro r w5 ⟨d,rfl,j,l,H5,k5,hf⟩;obtain⟨ad,cd,rfl,_⟩:=j.rd;have hf:=ae hf;have C:=U.grown l (λe=>by have:=i.out;cases e;omega);have K:=rx4.grown l (λe=>by have:=i.out;cases e;omega);have N:=rb4.grown l (λe=>by have:=i.out;cases e;omega);have hg:=m.grown l m.size (λk hk=>by have:=i.out;cases hk;omega);have j:=j.mono m.size;clear k4 U l rx4 rb4 c4
  go_wp2_with (refine ax _ _ ga (eQ Y.2.e Y.2.n (.slice ad Y.2.da.length cd)) C ans_size ?_)
  intro w6 ax6 t;have k6:=k5.keepT C (by decide) (by decide) t;have rx6:=aG K C t;have rb6:=jG N t (by have:=i.out;omega);have hy:=aA j C t;have hB:=ae (hg.grown t hg.size (λk hk=>by have:=i.out;cases hk;omega));clear k5 K N j hg C t;have k5:=k6;have K:=rx6;have N:=rb6;have j:=hy;have hc:=hB;have C:=ax6;clear k6 rx6 rb6 hy hB ax6;have hl:Hid ((eQ Y.2.e Y.2.n (.slice ad Y.2.da.length cd)).all (·.oneCell')=true):=ae ((bC _ _ _ _ _));have hX:Hid (qD H.ma c=(Y.1,⟨Y.2.e,Y.2.n,Y.2.da⟩)):=hY;go_upto_region 18 with(fail);clear hA;refine qQ 7 [_,_,_,.v (.agg (bS H5)),.v (.agg (eQ Y.2.e Y.2.n (.slice ad Y.2.da.length cd))),.r 5 ((yC λ_=>True)),.r 6 ((yC λ_=>True))] (NN w w.heap.size b (w.heap.size+2) (w.heap.size+3) ga H5 Y.2.e Y.2.n (.slice ad Y.2.da.length cd) Y.2.da.length (Y.2.da.map nD)) eZ (λy=>⟨⟨hc.out,hc.out.size⟩,k5.blk,k5.ma,C,j,λ_=>K,λe=>(by cases e),λ_=>N,λe=>(by cases e)⟩) (Qk eZ rfl (Qk eZ rfl (Qf eZ b 0 rfl rfl (aj ?v1_1 (aj ?v1_2 (aj ?v1_3 (aj ?v1_4 (aH))))) (λ_ _ _ _ g h=>gK (by decide) h)) (λ_ _ _ _ g h=>gK (by decide) h)) (λ_ _ _ _ g h=>gK (by decide) h)) (λ_=>rfl) rfl ?v1_5
 case u1_1|v1_1=>
  intro ρ y W L O Q f g D R;refine yM eZ D ?_;have hv:=O 74 2 rfl;have h2:y 2=_:=R 2 rfl;refine ak (.agg (bS H5)) (cz rfl (hv.trans h2) D.2.1 underlying45 mach_size)
 case u1_2|v1_2=>
  intro ρ y W L O Q f g D R;refine yM eZ D ?_;have E8:ρ (.tmp 8) = .pointer (some ⟨ga,0,none⟩):=(Q (.tmp 8) rfl).trans rfl;refine ak (.agg (eQ Y.2.e Y.2.n (.slice ad Y.2.da.length cd))) (cz rfl E8 D.2.2.2.1 underlying54 ans_size)
 case u1_3|v1_3=>
  intro ρ y W L O Q f g D R;have E4:ρ (.tmp 4) = .pointer (some ⟨w.heap.size+2,0,none⟩):=(Q (.tmp 4) rfl).trans rfl;have ht:=O 75 3 rfl;have h3:y 3=_:=R 3 rfl;have J:=D.2.2.2.2.2.1 f;exact jI (mQ _ _ _ rfl (w.heap.size+2) 0 _ (bS H5).toList E4 (ht.trans h3) rfl _ _ J (aC _) mach_size (λu Z=>by have:=dQ H5;rw[<-iX,dG]at this;exact this u Z)) (Jf f D (J.setCells _ _))
 case u1_4|v1_4=>
  intro ρ y W L O Q f g D R;have E5:ρ (.tmp 5) = .pointer (some ⟨w.heap.size+3,0,none⟩):=(Q (.tmp 5) rfl).trans rfl;have hs:=O 76 4 rfl;have h4:y 4=_:=R 4 rfl;have J:=D.2.2.2.2.2.2.2.1 f;exact jI (mQ _ _ _ rfl (w.heap.size+3) 0 _ (eQ Y.2.e Y.2.n (.slice ad Y.2.da.length cd)).toList E5 (hs.trans h4) rfl _ _ J (aC _) ans_size (λu Z=>by have:=hl.out;rw[<-iX,dG]at this;exact this u Z)) (IQ (by have:=i.out;omega) f D (J.setCells _ _))
 case u1_5=>
  intro y W7 z ha;clear ha;simp only[dS,bJ,bM,bP];obtain⟨⟨x,_⟩,_,hj,_,hi,_,o,_,s⟩:=z;have V:=o rfl;have X:=s rfl;go_wp2;refine bodyPost_ret (v:=.tuple #[.agg (bS H5),.agg (eQ Y.2.e Y.2.n (.slice ad Y.2.da.length cd))]) ?_ rfl ?_
  ·exact oC results31 _ _ (w.heap.size+2) (w.heap.size+3) _ _ _ _ _ _ rfl rfl V X underlying45 rfl mach_size underlying54 rfl ans_size
  unfold zO;rw[hX.out];exact⟨H5,_,rfl,x,hj,hf.out,hi⟩
 case v1_5=>
  intro y W7 z ha;clear ha;simp only[dS,bJ,bM,bP];obtain⟨⟨x,_⟩,_,hj,_,hi,_,o,_,s⟩:=z;have V:=o rfl;have X:=s rfl;go_wp2;refine bodyPost_ret (v:=.tuple #[.agg (bS H5),.agg (eQ Y.2.e Y.2.n (.slice ad Y.2.da.length cd))]) ?_ rfl ?_
  ·exact oC results31 _ _ (w.heap.size+2) (w.heap.size+3) _ _ _ _ _ _ rfl rfl V X underlying45 rfl mach_size underlying54 rfl ans_size
  unfold zO;rw[hX.out];exact⟨H5,_,rfl,x,hj,hf.out,hi⟩
structure Cr where
 c:Cl
 a:Option Addr
 cap:Nat
def Xq(x:Cr):List Value:=(kN x.c x.a x.cap).toList
theorem Qx(x:Cr):(Xq x).length=10:=rfl
structure yo (w:World) (x:Cr):Prop where
 rd:eD w x.a (x.c.da.map nD)
 le:x.c.da.length<=x.cap
 mx:x.cap<=maxLen
 nl:x.a=none->x.cap=0
 b64:iF x.c.a/\iF x.c.n
theorem yo.below{x:Cr}(h:yo w x)(d:Below w.heap.size w w'):yo w' x:=⟨h.rd.below d,h.le,h.mx,h.nl,h.b64⟩
structure vX (w:World) (B:Nat) (v:Value) (al:List (An × Value)):Prop where
 own:Own w B 54 3 v al.length (al.flatMap λx=>(eQ x.1.e x.1.n x.2).toList)
 each:∀x∈al,Own w B 5 1 x.2 x.1.da.length (x.1.da.map nD)
theorem vX.below{g:List (An × Value)}(h:vX w B v g)(d:Below w.heap.size w w'):vX w' B v g:=⟨h.own.below d,λx k=>(h.each x k).below d⟩
theorem vX.mono{g:List (An × Value)}(h:vX w B v g)(d:B'<=B):vX w B' v g:=⟨h.own.mono d,λx k=>(h.each x k).mono d⟩
def runC:Ma->List Cl->Ma × List An
 | m,[]=>(m,[])
 | m,c::l=>((runC (qD m c).1 l).1,(qD m c).2::(runC (qD m c).1 l).2)
theorem MO : ∀(l:List Cl) (m:Ma) (c:Cl),runC m (l++[c])=((qD (runC m l).1 c).1,(runC m l).2++[(qD (runC m l).1 c).2])
 | [],m,c=>rfl
 | d::l,m,c=>by rw[EE];unfold runC;rw[MO l];simp
theorem run_ok:∀(l:List Cl) {m:Ma},lY m->(∀c∈l,∀m,lY m->lY (qD m c).1)->lY (runC m l).1
 | [],m,h,_=>h
 | c::l,m,h,hk=>run_ok l (hk c (by simp) m h) λd g=>hk d (by simp[g])
theorem Qy{o:List (An × Value)}(h:vX w B v o)(d:w.grownBy w' v.ownBlock) :
  w.grownBy w' none\/∃g cs,aK w g cs 54/\B<=g/\w.grownBy w' (some g):=by
 cases hr:v.ownBlock with
 | none=>rw[hr]at d;exact .inl d
 | some g=>
  rw[hr]at d;obtain⟨cs,k⟩:=sS h.own g hr;exact .inr ⟨g,cs,k,h.own.ge g hr,d⟩
theorem kE{m:Nat}{C:List (An × Value)}(k:vX w B v C)(o:w.grownBy w' v.ownBlock)(h:Own w B' T sz u m ys)(z:T≠54):Own w' B' T sz u m ys:=by
 rcases Qy k o with d|⟨g,cs,t,_,d⟩
 ·exact iM h d
 ·exact aA h t (p:=(λe=>z e.symm)) d
theorem Ls{D:List (An × Value)}(k:vX w B v D)(o:w.grownBy w' v.ownBlock)(h:aK w b cs T)(z:T≠54):aK w' b cs T:=by
 rcases Qy k o with d|⟨g,C,t,_,d⟩
 ·exact h.grown d (λe=>by cases e)
 ·exact h.grown d (λe=>uX h t z (aU e).symm)
theorem Xi{D:List (An × Value)}(d:vX w B v D)(g:w.grownBy w' v.ownBlock)(h:qp w B' H):qp w' B' H:=
 ⟨kE d g h.fr (by decide),kE d g h.sl (by decide),⟨kE d g h.sw.b (by decide),kE d g h.sw.q (by decide)⟩,⟨kE d g h.dk.b (by decide),kE d g h.dk.q (by decide)⟩,
  ⟨kE d g h.st.own (by decide),λi p o=>kE d g (h.st.each i p o) (by decide),h.st.apart⟩,kE d g h.ca (by decide),kE d g h.sp (by decide),λp o=>⟨kE d g (h.ps p o).1 (by decide),⟨(h.ps p o).2.sz,λk t=>by obtain⟨u,C,z⟩:=(h.ps p o).2.own k t;exact⟨u,C,kE d g z (by decide)⟩,(h.ps p o).2.apart⟩⟩,h.c64⟩
theorem ans_info:(Tryz.prog.info? 54).map (λi=>(i.zero,i.size,i.bytes))=some (some (.agg #[.int .i64 0,.int .i64 0,.slice none 0 0]),3,40):=by kernel_rfl
theorem cfg_size3:(Tryz.prog.info? 51).map (·.size)=some 3:=by kernel_rfl
theorem call_size:(Tryz.prog.info? 25).map (·.size)=some 10:=by kernel_rfl
theorem xJ(c:Cl)(a:Option Addr)(cap:Nat):(kN c a cap).all (·.oneCell')=true:=by simp[kN,Value.oneCell']
theorem Rp{f s b:Int}(h:(0<=f/\f<=40)/\(0<=s/\s<=60)/\0<=b/\b<=80):lY (jF f s b):=by
 have t:=OJ h;have E:Rt (jF f s b):=by obtain⟨F,rfl⟩:∃F:Nat,f=F:=⟨f.toNat,by omega⟩;obtain⟨S,rfl⟩:∃S:Nat,s=S:=⟨s.toNat,by omega⟩;obtain⟨B,rfl⟩:∃B:Nat,b=B:=⟨b.toNat,by omega⟩;exact ZL (by omega) (by omega) (by omega)
 have j:(jF f s b).ca=[]:=by rw[t]
 refine⟨E,⟨λc o=>(by rw[j]at o;cases o),λc o=>(by rw[j]at o;cases o),λi C D => ?_⟩,λp n g z => ?_⟩
 ·exfalso;rw[t]at D C;have G:yu f=⟨List.replicate f.toNat frZ,0⟩:=by unfold yu;rw[if_pos h.1]
  have a : i<(yu f).fs.length:=C;have e : ((yu f).fs.getD i fr0).d=true:=D;rw[G]at a e;simp only[mY]at a;simp only[bA,uA,if_pos a]at e;cases e
 have k:(bQ (jF f s b) p).ar=[]:=by
  rw[t];unfold bQ;cases p with
  | zero=>rfl
  | succ p=>rfl
 unfold eP at z;rw[k]at z;cases z
def Yq(f s b:Int)(l:List Cl)(w:World)(r:Ending)(w' : World):Prop:=Below w.heap.size w w'/\∃(H' : MH) (v:Value) (al:List (An × Value)) (e:Int),r = .returned (.tuple #[.agg (bS H'),v,.int .i64 e])/\qp w' w.heap.size H'/\vX w' w.heap.size v al /\
 ((¬((0<=f/\f<=40)/\(0<=s/\s<=60)/\0<=b/\b<=80)\/80<l.length)/\H' = noH/\al=[]/\e=4\/((0<=f/\f<=40)/\(0<=s/\s<=60)/\0<=b/\b<=80)/\l.length<=80/\e=0/\H'.ma=(runC (jF f s b) l).1/\al.map Prod.fst=(runC (jF f s b) l).2)
theorem Jn(f s b:Int)(la:Option Addr)(lc:Nat)(l:List Cr)(w:World)(hb64 : -9223372036854775808<=b/\b<=9223372036854775807)(hl:eD w la (l.flatMap Xq))(C:∀x∈l,yo w x)
 (hd:∀x∈l,∀(H:MH) (w:World),lY H.ma->Dk w H->yo w x->Calls Tryz.prog 31 #[.agg (bS H),.agg (kN x.c x.a x.cap)] w (zO H x.c w)) (hkp:∀x∈l,∀m,lY m->lY (qD m x.c).1) :
  Calls Tryz.prog 14 #[.agg #[.int .i64 f,.int .i64 s,.int .i64 b],.slice la l.length lc] w (Yq f s b (l.map Cr.c) w):=by
 have ko:=ae hd;have h3:=ae hkp;clear hd hkp;go_enter func14,ntmps14;go_upto_region 1 with(fail);refine uY (λW=>Code.wp _ _ _ _ W) λw1 hM V R kg => ?_;have V:aK w1 w.heap.size #[.int .i64 f,.int .i64 s,.int .i64 b] 51:=V;have R:aK w1 (w.heap.size+1) (bS noH) 45:=R;clear kg
 go_wp2_with (refine ay w.heap.size 0 _ V.rd _ underlying51 rfl cfg_size3 ?_)
 refine(Nr f s b _ hb64).mono ?_;rintro r w2 ⟨H2,rfl,hz,hZ,hL⟩;have rx2:=R.ext hL;have hG:=ah hM hL;have hz:=hz.mono hM.size;have hE:=ae hZ;clear V R hM hL hZ
 go_wp2_with (refine aT (bS H2) mach_size (dQ _) ?_)
 intro w3 hA mx3;have Q:=rx2.ext hA;have i:=ah hG hA;have hV:=hz.below hA;have hK:Hid (w.heap.size+1<w2.heap.size):=ae rx2.lt;clear rx2 hG hz hA;generalize w2.heap.size=gm at mx3 hK
 by_cases K:(0<=f/\f<=40)/\(0<=s/\s<=60)/\0<=b/\b<=80
 ·have e0:wL f s b=0:=by unfold wL;rw[if_pos K]
  rw[e0];have hD:=ae K;clear K e0
  by_cases h80:80<l.length
  ·have hv:Hid (¬((0<=f/\f<=40)/\(0<=s/\s<=60)/\0<=b/\b<=80)\/80<(l.map Cr.c).length):=ae (.inr (by rw[fE];exact h80));have kd:(80:Int)<(l.length:Int):=by omega
   go_wp2_with (refine ax _ _ (w.heap.size+1) (bS noH) Q mach_size (G:=dQ noH) ?_)
   intro we O q;have u:=i.grown q i.size oG0;go_wp2;refine bodyPost_ret (v:=.tuple #[.agg (bS noH),.slice none 0 0,.int .i64 4]) (bX results14 (w.heap.size+1) O underlying45 mach_size) rfl ?_;exact⟨u,noH,_,[],4,rfl,vL _ _,⟨Own.nil _ _ _ _,λx C=>by cases C⟩,.inl ⟨hv.out,rfl,rfl,rfl⟩⟩
  have kd:¬(80:Int)<(l.length:Int):=by omega
  go_upto_region 8 with(fail);have kr:Hid (lY (jF f s b)):=ae (Rp hD.out);have kj:=ae hl;have ke:=ae C;have h0:Hid (H2.ma=(runC (jF f s b) ((l.take 0).map Cr.c)).1):=ae (by rw[hE.out];rfl);clear hl C hE
  go_loopw [29,9] (fun s29 s9 wr => ∃(k:Nat) (N:MH) (D:List (An × Value)),k<=l.length/\s29 = .int .i64 k/\Below w.heap.size w wr/\aK wr gm (bS N) 45/\aK wr (w.heap.size+1) (bS noH) 45/\qp wr w.heap.size N/\vX wr w.heap.size s9 D/\Hid (N.ma=(runC (jF f s b) ((l.take k).map Cr.c)).1/\D.map Prod.fst=(runC (jF f s b) ((l.take k).map Cr.c)).2/\D.length=k)) (fun s29 _ _=>l.length-(intOf s29).toNat)
  case atStart=>exact⟨0,H2,[],bN _,rfl,i,mx3,Q,hV,⟨Own.nil _ _ _ _,λx C=>by cases C⟩,ae ⟨h0.out,rfl,rfl⟩⟩
  case round=>
   clear mx3 Q hV i h0;obtain⟨k,N,D,hk,rfl,hi,mx,rx,ho,ha,hm⟩:=hrel;obtain⟨av,cv,rfl,_⟩:=ha.own.rd
   by_cases U:k<l.length
   ·have kk:(k:Int)<(l.length:Int):=by omega
    obtain⟨bl,ol,h2,hr⟩:=oU Qx (kj.out.below hi) k U;obtain⟨X,hX⟩:∃X,l[k]=X:=⟨_,rfl⟩;rw[hX]at hr;have ka:Hid (yo w X):=ae (ke.out X (by rw[<-hX];exact fA U));have kq:=ae (ko.out X (by rw[<-hX];exact fA U));have hH:Hid ((l.take (k+1)).map Cr.c=(l.take k).map Cr.c++[X.c]):=ae (by rw[mK,aM U,hX];simp);have h1:=ae h2;clear hX h2;rw[h1.out]
    go_wp2_with (first | (refine ay bl (ol+k*10) (kN X.c X.a X.cap).toList hr _ underlying25 rfl call_size ?_) | (refine aT (kN X.c X.a X.cap) call_size (xJ _ _ _) ?_))
    intro w4 hj cx4;have mx4:=mx.ext hj;have rx4:=rx.ext hj;have hp:=ah hi hj;have hU:=ho.below hj;have h9:=ha.below hj;have kb:Hid (yo w4 X):=ae ((ka.out.below hi).below hj);have kl:Hid (w.heap.size<=wr.heap.size):=ae hi.size;have kc:Hid (lY N.ma):=ae (by rw[hm.out.1];exact run_ok _ kr.out λc hc=>(by obtain⟨x,C,rfl⟩:=fD.1 hc;exact h3.out x (Bn C)));clear mx rx hi ho ha hj hr ka;generalize wr.heap.size=gx at cx4 kl
    go_wp2_with (first | (refine ay gm 0 (bS N).toList mx4.rd _ underlying45 rfl mach_size ?_) | (refine ay gx 0 (kN X.c X.a X.cap).toList cx4.rd _ underlying25 rfl call_size ?_))
    refine(kq.out N _ kc.out hU.rd kb.out).mono ?_;rintro r w5 ⟨H5,d,rfl,hw,hy,hJ,hq⟩;obtain⟨ad,cd,rfl,_⟩:=hq.rd;obtain⟨Y,hY⟩:∃Y,Hid (qD N.ma X.c=Y):=⟨_,ae rfl⟩;rw[hY.out]at hJ hq ⊢;have mx5:=mx4.ext hw;have rx5:=rx4.ext hw;have hF:=ah hp hw;have hB:=h9.below hw;have hy:=hy.mono hp.size;have hq:=hq.mono hp.size;have hW:=ae hJ;have p:Hid (gm<w5.heap.size/\w.heap.size+1<w5.heap.size):=ae ⟨mx5.lt,rx5.lt⟩;have hC:Hid (∀g,(Value.slice av D.length cv).ownBlock=some g->g<w5.heap.size):=ae (λg hg=>by obtain⟨cs,hb⟩:=sS hB.own g hg;exact hb.lt);clear mx4 rx4 hp hU h9 kb hw cx4 hJ kc
    go_wp2_with (first | (refine uY (λW=>wpList _ _ _ _ _ W) λw6 y G Z kf => ?_) | (refine ax _ _ w5.heap.size (bS H5) G mach_size (G:=dQ _) ?_))
    intro w7 nx7 o;have Z:aK w6 (w5.heap.size+1) (eQ 0 0 nilV) 54:=Z;have mx7:=jG (mx5.ext y) o (by have:=p.out;omega);have rx7:=jG (rx5.ext y) o (by have:=p.out;omega);have E:=aG Z G o;have hu:=ah hF y;have ht:=hu.grown o hu.size (λk hk=>by have:=p.out;cases hk;omega);have hT:=(hy.below y).keep G (by decide) o;have h7:=aA (hq.below y) G o;have hP:vX w7 w.heap.size (.slice av D.length cv) D:=⟨aA (hB.below y).own G o,λx C=>aA ((hB.below y).each x C) G o⟩;have km:Hid (gm<w5.heap.size/\w.heap.size+1<w5.heap.size):=p;clear mx5 rx5 Z hF hu hy hq hB G y o kf p;generalize w5.heap.size=gn at *
    go_wp2_with (refine ax _ _ (gn+1) (eQ Y.2.e Y.2.n (.slice ad Y.2.da.length cd)) E ans_size ?_)
    intro w8 ax8 j;have J:=aG mx7 E j;have rx8:=aG rx7 E j;have nx8:=aG nx7 E j;have hs:=ht.grown j ht.size (λk hk=>by have:=km.out;cases hk;omega);have hS:=hT.keep E (by decide) j;have h6:=aA h7 E j;have hO:vX w8 w.heap.size (.slice av D.length cv) D:=⟨hP.own.grown j (λg hg e=>by have:=hC.out g hg;cases e;omega),λx C=>aA (hP.each x C) E j⟩;clear mx7 rx7 nx7 ht hT h7 hP E j hC
    go_wp2_with (first | (refine ay gn 0 (bS H5).toList nx8.rd _ underlying45 rfl mach_size ?_) | (refine ax _ _ gm (bS H5) J mach_size (G:=dQ _) ?_))
    intro w9 mx9 t;have ax9:=aG ax8 J t;have rx9:=jG rx8 t (by have:=hK.out;omega);have hn:=hs.grown t hs.size (λk hk=>by have:=hK.out;cases hk;omega);have hR:=hS.keep J (by decide) t;have h5:=aA h6 J t;have hN:vX w9 w.heap.size (.slice av D.length cv) D:=⟨aA hO.own J t,λx C=>aA (hO.each x C) J t⟩;clear J rx8 nx8 hs hS h6 hO ax8 t;have ks:D.length+1<=80:=by have:=hm.out.2.2;omega
    go_wp2_with (first | (refine ay (gn+1) 0 [.int .i64 Y.2.e,.int .i64 Y.2.n,.slice ad Y.2.da.length cd] ax9.rd _ underlying54 rfl ans_size ?_) | (at_builtin;go_must (refine nk rfl _ _ 46 rfl w.heap.size 54 _ 3 40 underlying46 ans_info rfl _ D.length _ rfl (hN.own.alloc _) (some ⟨w9.heap.size,0,none⟩) 1 1 [.int .i64 Y.2.e,.int .i64 Y.2.n,.slice ad Y.2.da.length cd] rfl (λh=>(by cases h)) (aC _) rfl (eD.new _ #[.int .i64 Y.2.e,.int .i64 Y.2.n,.slice ad Y.2.da.length cd] _) (gH ((bC _ _ _ _ _))) (by unfold maxLen;omega) (by omega) (eO hn.size) ?_)))
    intro v2 wa own2 hh hQ;have z:=(Below.refl w9.heap.size w9).alloc (aC _) (.cells #[.int .i64 Y.2.e,.int .i64 Y.2.n,.slice ad Y.2.da.length cd] 54);have hf:=hN.below z;have mxa:=Ls hf hh (mx9.ext z) (by decide);have rxa:=Ls hf hh (rx9.ext z) (by decide);have ki:=Xi hf hh (hR.below z);have h4:=kE hf hh (h5.below z) (by decide);have h8:Below w.heap.size w wa:=(ah hn z).grown hh (ah hn z).size (λk hk=>hf.own.ge k hk);have kn:vX wa w.heap.size v2 (D++[(Y.2,.slice ad Y.2.da.length cd)]):=⟨by
     rw[fI,iq,List.flatMap_singleton];exact own2,λx C=>by
      rcases ik.1 C with C|C
      ·exact kE hf hh (hf.each x C) (by decide)
      ·rw[bF.1 C];exact h4⟩
    have hI:Hid (H5.ma=(runC (jF f s b) ((l.take (k+1)).map Cr.c)).1/\(D++[(Y.2,Value.slice ad Y.2.da.length cd)]).map Prod.fst=(runC (jF f s b) ((l.take (k+1)).map Cr.c)).2/\(D++[(Y.2,Value.slice ad Y.2.da.length cd)]).length=k+1):=ae (by have e1:=hm.out;rw[hH.out,MO,<-e1.1,<-e1.2.1,hY.out];exact⟨hW.out,by simp,by simp[e1.2.2]⟩);clear mx9 rx9 ax9 hR h5 hN hn z hf hh hQ own2 h4;go_wp2;go_roundw
    case rel=>exact⟨k+1,H5,_,by omega,by go_num,h8,mxa,rxa,ki,kn,hI⟩
    case measure=>simp[intOf];omega
   have kk:¬(k:Int)<(l.length:Int):=by omega
   rw[mE (by omega)]at hm
   go_wp2_with (first | (refine ay gm 0 (bS N).toList mx.rd _ underlying45 rfl mach_size ?_) | (refine ax _ _ (w.heap.size+1) (bS N) rx mach_size (G:=dQ _) ?_))
   intro we O q;have u:=hi.grown q hi.size oG0;have kh:=ho.keep rx (by decide) q;have kp:vX we w.heap.size (.slice av D.length cv) D:=⟨aA ha.own rx q,λx C=>aA (ha.each x C) rx q⟩;go_wp2;refine bodyPost_ret (v:=.tuple #[.agg (bS N),.slice av D.length cv,.int .i64 0]) (bX results14 (w.heap.size+1) O underlying45 mach_size) rfl ?_;exact⟨u,N,_,D,0,rfl,kh,kp,.inr ⟨hD.out,by rw[fE];omega,rfl,hm.out.1,hm.out.2.1⟩⟩
 have e0:wL f s b=4:=by unfold wL;rw[if_neg K]
 have hv:Hid (¬((0<=f/\f<=40)/\(0<=s/\s<=60)/\0<=b/\b<=80)\/80<(l.map Cr.c).length):=ae (.inl K);rw[e0];clear K e0
 go_wp2_with (refine ax _ _ (w.heap.size+1) (bS noH) Q mach_size (G:=dQ noH) ?_)
 intro we O q;have u:=i.grown q i.size oG0;go_wp2;refine bodyPost_ret (v:=.tuple #[.agg (bS noH),.slice none 0 0,.int .i64 4]) (bX results14 (w.heap.size+1) O underlying45 mach_size) rfl ?_;exact⟨u,noH,_,[],4,rfl,vL _ _,⟨Own.nil _ _ _ _,λx C=>by cases C⟩,.inl ⟨hv.out,rfl,rfl,rfl⟩⟩
def Zr(l:List Ar)(n:Int):Bool:=match onA l n with
 | some g => !g.sh
 | none=>false
def Nl(k:Nat)(ar:Nat->List Ar):List (Nat × Int):=(List.range k).flatMap λp=>((List.range 64).filter λn:Nat=>Zr (ar p) n).map λn:Nat=>(p,(n:Int))
def Dq(m:Ma):Nat:=(Nl m.sp.length λp=>(bQ m p).ar).length
structure Cap (m:Ma):Prop where
 one:1<=m.m.fs.length
 all:Dq m+(gZ m.st).length<m.m.fs.length+m.sl.length
 blk:((gZ m.st).length:Int)<=m.st.count
theorem QW(h:Rt m){o:Page}(d:gF m p n=some o):(p,n)∈Nl m.sp.length λp=>(bQ m p).ar:=by
 have C:(aJ m p n).k≠0:=λe=>by rw[Au e]at d;cases d
 have b:=mh C;obtain⟨g,D,a⟩:=h.en p n C;have t:g.sh=false:=by
  unfold gF at d
  by_cases k1:(aJ m p n).k=1
  ·rw[if_pos k1]at d
   by_cases E:(gQ m (aJ m p n).n).f<0
   ·cases t:g.sh with
    | false=>rfl
    | true=>
     have:=(a.fr k1).2.1 t;have G:(aF m (aJ m p n).n.toNat).f<0:=E;omega
   ·rw[if_neg E]at d;cases d
  rw[if_neg k1]at d
  by_cases z:(aJ m p n).k=2
  ·exact(a.sw z).2
  ·rw[if_neg z]at d;cases d
 unfold Nl;refine jS.2 ⟨p,dx.2 b.1,fD.2 ⟨n.toNat,uH.2 ⟨dx.2 (by omega),?_⟩,?_⟩⟩
 ·rw[show((n.toNat:Nat):Int)=n by omega];unfold Zr;unfold eP at D;rw[D];simp[t]
 ·rw[show((n.toNat:Nat):Int)=n by omega]
theorem YJ(h:Rt m):((List.range m.m.fs.length).filter λi=>decide ((aF m i).r≠0/\(aF m i).f<0)).length+((List.range m.sl.length).filter λs=>decide (iT m s≠0)).length<=Dq m:=by
 have z:(((List.range m.m.fs.length).filter λi=>decide ((aF m i).r≠0/\(aF m i).f<0)).map (λi:Nat=>((1:Int),(i:Int)))++((List.range m.sl.length).filter λs=>decide (iT m s≠0)).map (λi:Nat=>((2:Int),(i:Int)))).length
   <= ((Nl m.sp.length λp=>(bQ m p).ar).map λu=>((aJ m u.1 u.2).k,(aJ m u.1 u.2).n)).length:=by
  refine Kw ?_ ?_
  ·refine ze.2 ⟨?_,?_,?_⟩
   ·exact wu (λa b e=>JQ.1 (congrArg Prod.snd e)) (JY KL Bl)
   ·exact wu (λa b e=>JQ.1 (congrArg Prod.snd e)) (JY KL Bl)
   intro a J b G e;obtain⟨i,_,rfl⟩:=fD.1 J;obtain⟨j,_,rfl⟩:=fD.1 G;have:=congrArg Prod.fst e;simp at this
  intro x t;rcases ik.1 t with t|t
  ·obtain⟨i,d,rfl⟩:=fD.1 t;simp only[uH,dx,decide_eq_true_eq]at d;obtain⟨K,N⟩:=CQ h d.1 d.2.2;have C:=h.cf i d.1;rw[K]at C;obtain⟨p,n,D,E,k1,g⟩:=(kY (m:=m) (kd:=1) (i:=i) (by decide)).1 (by omega);refine fD.2 ⟨(p,n),QW h (o:=(aF m i).p) ?_,by rw[k1,g]⟩;unfold gF;rw[if_pos k1,g];exact if_pos d.2.2
  obtain⟨i,d,rfl⟩:=fD.1 t;simp only[uH,dx,decide_eq_true_eq]at d;have C:=h.cs i d.1;obtain⟨p,n,D,E,k1,g⟩:=(kY (m:=m) (kd:=2) (i:=i) (by decide)).1 (by omega);refine fD.2 ⟨(p,n),QW h (o:=dN m.sw i) ?_,by rw[k1,g]⟩;unfold gF;rw[if_neg (by omega),if_pos k1,g]
 unfold Dq;simpa using z
theorem XP{f i:Int}(h:jk s f i):aZ s f i∈gZ s:=by
 unfold gZ;refine jS.2 ⟨az s f,dB (yt h.1),?_⟩;exact dB (oN h)
theorem Wj(h:Rt m):m.ca.length<=(gZ m.st).length:=by
 have k:(m.ca.map λc=>(c.f,c.i)).length<=((List.range m.st.fs.length).flatMap λf:Nat=>(List.range (az m.st f).b.length).map λi:Nat=>((f:Int),(i:Int))).length:=by
  refine Kw ?_ ?_
  ·unfold List.Nodup;rw[List.pairwise_map];refine List.Pairwise.imp ?_ h.ca.srt;intro a b g e;simp only[KE]at e;unfold EG at g;omega
  intro x t;obtain⟨c,z,rfl⟩:=fD.1 t;have d:=h.ca.file c z;have o:=d.1;have C:=d.2;refine jS.2 ⟨c.f.toNat,dx.2 (by omega),fD.2 ⟨c.i.toNat,dx.2 (by rw[show((c.f.toNat:Nat):Int)=c.f by omega];omega),?_⟩⟩;rw[show((c.f.toNat:Nat):Int)=c.f by omega,show((c.i.toNat:Nat):Int)=c.i by omega]
 have e:((List.range m.st.fs.length).flatMap λf:Nat=>(List.range (az m.st f).b.length).map λi:Nat=>((f:Int),(i:Int))).length=(gZ m.st).length:=by
  unfold gZ;rw[Eu,Eu];congr 1;apply sI
  ·simp
  intro i o C;simp only[fE,BA]at o;have:az m.st (i:Int)=m.st.fs[i]:=iN (aM o);simp[this]
 rw[fE,e]at k;exact k
theorem WX(h:Rt m):((List.range m.m.fs.length).filter λi=>decide ((aF m i).r≠0/\0<=(aF m i).f)).length<=m.ca.length:=by
 have d:(((List.range m.m.fs.length).filter λi=>decide ((aF m i).r≠0/\0<=(aF m i).f)).map (λi:Nat=>(i:Int))).length<=(m.ca.map Cc.k).length:=by
  refine Kw ?_ ?_
  ·exact wu (λa b e=>JQ.1 e) (JY KL Bl)
  intro x o;obtain⟨i,g,rfl⟩:=fD.1 o;simp only[uH,dx,decide_eq_true_eq]at g;obtain⟨c,z,t⟩:=h.fc i g.1 g.2.2;exact fD.2 ⟨c,z,t⟩
 simpa using d
theorem Bq{α:Type}(p q:α->Bool):∀l:List α,(∀x∈l,p x = !q x)->(l.filter p).length+(l.filter q).length=l.length
 | [],_=>rfl
 | a::l,h=>by
  have k:=Bq p q l λx g=>h x (by simp[g]);have d:=h a (by simp);cases hq:q a with
  | true=>rw[hq]at d;simp[d,hq];omega
  | false=>rw[hq]at d;simp[d,hq];omega
theorem Uc(h:Rt m)(z:Cap m)(t:f<m.m.fs.length):jQ m f=true:=by
 unfold jQ
 by_cases D:(aF m f).f<0
 ·simp[D]
 obtain⟨c,d,e⟩:=h.fc f t (by omega);have b:=h.ca.fr c d;have a:=h.ca.file c d;rw[e,bu]at b;rw[<-b.2.1,<-b.2.2]at a;have k:0<=aZ m.st (aF m f).f (aF m f).i\/0<=fT m.st:=by
  by_cases k:0<=aZ m.st (aF m f).f (aF m f).i
  ·exact .inl k
  right
  refine TT h.pt.st ?_;have g:YD (gZ m.st)<(gZ m.st).length:=by
   unfold YD;rcases gB ((gZ m.st).filter λx=>decide (0<=x)).length (gZ m.st).length with o|o
   ·exact o
   have C:=wS (λx:Int=>decide (0<=x)) (gZ m.st);have:=(List.length_filter_eq_length_iff.1 (Nat.le_antisymm C o)) _ (XP a);exact absurd (of_decide_eq_true this) k
  have:=z.blk;unfold uS;omega
 rw[Ty h.pt.st a k];simp
theorem RJ(h:Rt m)(C:Cap m)(E:fO m.m.fs=0)(o:f<m.m.fs.length):ky m f=true:=by
 have z:∀i,i<m.m.fs.length->(aF m i).r≠0:=λi k=>wG E k;unfold ky
 by_cases D:0<=(aF m f).f
 ·rw[if_pos D];exact Uc h C o
 rw[if_neg D];obtain⟨U,R⟩:=CQ h o (by omega);have g:=h.fewR o;have j:=z f o;apply decide_eq_true;obtain⟨s,c,b⟩:∃s,s<m.sl.length/\iT m s=0:=by
  refine vz λd => ?_;have a:∀s,s<m.sl.length->iT m s≠0:=λs t e=>d ⟨s,t,e⟩;have Q:((List.range m.sl.length).filter λs=>decide (iT m s≠0)).length=m.sl.length:=by
   rw[BM.2]
   ·simp
   intro s t;exact decide_eq_true (a s (dx.1 t))
  have J:=Bq (λi=>decide ((aF m i).r≠0/\(aF m i).f<0)) (λi=>decide ((aF m i).r≠0/\0<=(aF m i).f)) (List.range m.m.fs.length) λi k=>by
   have:=z i (dx.1 k)
   by_cases G:(aF m i).f<0
   ·rw[decide_eq_true ⟨this,G⟩,decide_eq_false (by omega)];rfl
   ·rw[decide_eq_false (by omega),decide_eq_true ⟨this,by omega⟩];rfl
  rw[BA]at J;have O:=YJ h;have N:=WX h;have K:=Wj h;have:=C.all;omega
 unfold iI;rw[if_neg (by rw[h.pt.sl];simp),if_neg (by omega),if_neg];intro k;have:=Rj (q:=Kk) (l:=m.sl) k (iT m s) (dB (JS c));rw[b]at this;cases this
theorem Mo{x:Mem}(o:∀g,zP (aF m g) (aF (oJ m x) g))(f:Nat):ky (oJ m x) f=ky m f:=by
 obtain⟨z,t,k,h,d⟩:=o f;unfold ky jQ;rw[k,h,d];rfl
theorem Wy(h:Rt m)(C:Co m)(g:Cap m)(d:fO m.m.fs=0)(e:Int):(cZ ⟨m,e⟩).2=true:=by
 have J:∀i,i<m.m.fs.length->(aF m i).r≠0:=λi z=>wG d z;have b:=g.one;have t:0<=iR m.m:=by unfold iR;rw[if_neg (by rw[h.pt.fr];simp),if_neg (by omega)];omega
 obtain⟨o,G,E,D,k⟩:=Js h.pt.fr t;have a:ky (oJ m (gy m.m)) (iR m.m).toNat=true:=by rw[Mo k];exact RJ h g d o
 unfold cZ reclaimN;simp only;rw[if_neg (by rintro(e | e);exact e h.pt.fr;omega)];rw[show({ m:=gy m.m,sl:=m.sl,sw:=m.sw,dk:=m.dk,st:=m.st,ca:=m.ca,sp:=m.sp }:Ma)=oJ m (gy m.m)from rfl,if_pos a]
theorem yX{k:Kp}{p:Page}{f i:Int}(h:Rt k.m)(t:Co k.m)(J:Cap k.m)(E:dn (bL p f i)=0):0<=(fC k p f i).2:=by
 unfold fC
 by_cases C:fO k.m.m.fs=0
 ·have G:(cZ k).2=true:=Wy h t J C k.e;rw[if_pos C,if_pos G];obtain⟨R,o,a,K⟩:=wN h t;obtain⟨d,b⟩:∃d,o=some d:=by
   cases o with
   | none=>exact absurd rfl (K.1 G)
   | some d=>exact⟨d,rfl⟩
  obtain⟨Q,O,_⟩:=a.free d b;rcases AX (k:=(cZ k).1) (p:=p) (f:=f) (i:=i) a.rt.pt.fr E with⟨g,N,z,D⟩|⟨_,z⟩
  ·rw[D];omega
  ·exact absurd (by rw[O];rfl) (wG z (g:=d) (by rw[a.len];exact Q))
 rw[if_neg C];rcases AX (k:=k) (p:=p) (f:=f) (i:=i) h.pt.fr E with⟨g,N,z,D⟩|⟨_,z⟩
 ·rw[D];omega
 ·exact absurd z C
theorem FT(s:St):(gZ s).length=((List.range s.fs.length).map λf:Nat=>(az s f).b.length).sum:=by
 unfold gZ;rw[Eu];congr 1;apply sI
 ·simp
 intro i d g;simp only[fE,BA]at d;have:az s (i:Int)=s.fs[i]:=iN (aM d);simp[this]
theorem Cap.of(d:Cap m)(g:fK m m')(fl:m'.st.fs.length=m.st.fs.length)(o:∀f,(az m'.st f).b.length=(az m.st f).b.length)(ct:m'.st.count=m.st.count)(h:m'.m.fs.length=m.m.fs.length)(t:m'.sl.length=m.sl.length):Cap m':=by
 have k:(gZ m'.st).length=(gZ m.st).length:=by rw[FT,FT,fl];congr 1;exact AC λf _=>o f
 have z:Dq m' = Dq m:=by unfold Dq;rw[g.len];congr 2;funext p;rw[g.ar]
 exact⟨by rw[h];exact d.one,by rw[k,z,h,t];exact d.all,by rw[k,ct];exact d.blk⟩
theorem Cap.vis{X:Nat->Int->Prop}(k:Cap m)(v:Al X m m')(h:Inv m m')(g:m'.m.fs.length=m.m.fs.length)(d:m'.sl.length=m.sl.length):Cap m':=k.of v.sk v.files v.lenb h.count g d
theorem ym{k:Kp}{f i:Int}(h:Rt k.m)(z:Co k.m)(C:Cap k.m)(t:jk k.m.st f i):0<=(cO k f i).2:=by
 unfold cO
 by_cases o:KW k.m.ca f i=true
 ·rw[if_pos o];obtain⟨c,b,n,l⟩:=Hw o;have g:=dB b;have j:oV k.m (vZ k.m.ca f i)=c:=by unfold oV;rw[bA,b];rfl
  simp only[j];exact(h.ca.lt c g).1
 rw[if_neg o];have a:=Ag h.pt.st t;have d:dn (bL (dh k.m f i) f i)=0:=by rw[dV];have E:=t.1;have D:=t.2;exact⟨⟨by show(0:Int)<=1;decide,by show(1:Int)<=1000;decide,by show -1<=f;omega,a.1,D.1,a.2.1⟩,λ(e:(1:Int)=0)=>absurd e (by decide),λ(e:f<0)=>by omega⟩
 have:=yX (k:=⟨k.m,Fz k f i⟩) (p:=dh k.m f i) (f:=f) (i:=i) h z C d;simp only;rw[if_neg (by omega)];exact this
theorem AV(P:Page):dn (bL P (-1) 0)=0:=by
 rw[dV];exact⟨⟨by show(0:Int)<=1;decide,by show(1:Int)<=1000;decide,by show(-1:Int)<=-1;decide,by show(-1:Int)<5;decide,by show(0:Int)<=0;decide,by show(0:Int)<12;decide⟩,λ(e:(1:Int)=0)=>absurd e (by decide),λ_=>rfl⟩
theorem OB{k:Kp}(h:Rt k.m)(C:Co k.m)(K:Cap k.m){g:Pg}(hp:p<k.m.sp.length)(R:eP k.m p n=some g)(U:0<=g.fi->(aJ k.m p n).k=0->jk k.m.st g.fi g.pg):0<=(gU k p n (jY k.m p n)).2:=by
 obtain⟨g1,g2,g3,g4,g5,X,V⟩:=xH R;have hE:=(dA).1 (ku h.pt p n);unfold gU;simp only
 by_cases k1:(aJ k.m p n).k=1
 ·rw[if_pos k1];show 0<=(aJ k.m p n).n;omega
 rw[if_neg k1]
 by_cases G:(aJ k.m p n).k=2
 ·rw[if_pos G];obtain⟨y,hy,j⟩:=h.en p n (by omega);have u:=j.sw G;have Q:(aJ k.m p n).n.toNat<k.m.sl.length:=by omega
  have q:(aJ k.m p n).n=(((aJ k.m p n).n.toNat:Nat):Int):=by omega
  have l:aI k.m.sw (aJ k.m p n).n=0:=fH.2 ⟨h.pt.sw,by omega,by rw[h.pt.swl];omega⟩;rw[if_neg (by rw[l];simp)];have a:=yX (k:=k) (p:=dN k.m.sw (aJ k.m p n).n) (f:=-1) (i:=0) h C K (AV _);rw[if_neg (by omega)];rcases Av (k:=k) (p:=dN k.m.sw (aJ k.m p n).n) (f:=-1) (i:=0) h C (AV _)with⟨x,z,o,E,hx,Z,J⟩|⟨z,E,J,h0⟩
  ·have b:aJ z p n=aJ k.m p n:=E.ents p n (λe=>absurd e k1);have c:(aJ k.m p n).n.toNat<z.sl.length:=by rw[E.sll];exact Q
   have t:=E.rt.fewS c;have d:=mh (m:=z) (p:=p) (n:=n) (by rw[b];omega);have s:0<bR z 2 ((aJ k.m p n).n.toNat:Nat):=(kY (by decide)).2 ⟨p,n,d.1,d.2,by rw[b];exact G,by rw[b];omega⟩;have v:=E.rt.cs _ c;have r:bK z.sl (((aJ k.m p n).n.toNat:Nat):Int) (-1)=0:=by have N:GI z.sl (((aJ k.m p n).n.toNat:Nat):Int)=iT z (aJ k.m p n).n.toNat:=rfl;unfold bK;rw[if_neg (by rw[E.rt.pt.sl];simp),if_neg (by rw[N];omega),if_neg (by rw[N];omega)]
   rw[J]at a ⊢;have Y:bK (setFr z x (bL (dN k.m.sw (aJ k.m p n).n) (-1) 0)).sl (aJ k.m p n).n (-1)=0:=by rw[q];exact r
   simp only[Y];exact a
  rw[J]at a;simp at a
 rw[if_neg G]
 by_cases D:(jY k.m p n).fi<0
 ·rw[if_pos D];have:=yX (k:=k) (p:=zPg) (f:=-1) (i:=0) h C K (AV _);unfold inK;rw[if_neg (by omega)];exact this
 rw[if_neg D];have O:(aJ k.m p n).k=0:=by omega
 rw[X]at D ⊢;rw[V (by omega)];have:=ym h C K (U (by omega) O);rw[if_neg (by omega)];exact this
theorem WG{k:Kp}(h:Rt k.m)(g:Co k.m)(t:Cap k.m){f:Int}(o:0<=f)(a:Ar):0<=(xx k p n f a).2:=by
 unfold xx;simp only
 by_cases d:a.sh=true\/(gQ k.m f).f<0/\(gQ k.m f).r=1
 ·rw[if_pos d];exact o
 rw[if_neg d];obtain⟨m',e,L⟩:=Jp h g p n;rw[e];have:=yX (k:=⟨m',k.e⟩) (p:=(gQ k.m f).p) (f:=-1) (i:=0) L.rt L.co (t.of L.vis.sk L.vis.files L.vis.lenb (by rw[L.st]) L.len L.sll) (AV _);rw[if_neg (by omega)];exact this
theorem WY(h:Rt m)(o:Co m)(E:Cap m){w:Bool}{g:Pg}(z:p<m.sp.length)(C:eP m p n=some g)(D:0<=g.fi->(aJ m p n).k=0->jk m.st g.fi g.pg):0<=(mJ m p n w).2:=by
 have t:=OB (k:=⟨m,0⟩) h o E z C D;obtain⟨G,d⟩:=Br (k:=⟨m,0⟩) h o z C D;simp only at G d t;unfold mJ;simp only;split
 ·exact WG d.rt d.co (E.vis d.vis d.inv d.len d.sll) t _
 ·exact t
theorem Zb(d:lY m)(z:Cap m){w:Bool}(h:p<m.sp.length)(k:(bQ m p).lv=true):nR m p n w≠10:=λe=>by
 rcases JP d (n:=n) (w:=w) h k with⟨_,u⟩|⟨g,t,⟨_,u⟩|⟨_,⟨_,u⟩|⟨C,⟨_,u⟩|⟨u,_⟩⟩⟩⟩
 ·rw[e]at u;cases u
 ·rw[e]at u;cases u
 ·rw[e]at u;cases u
 ·have:=WY d.rt d.co z (w:=w) h t λE D=>uK λo=>C ⟨E,Au D,o⟩;omega
 ·rw[e]at u;cases u
theorem Jq{m:Ma}(C:Rt m){F T:Nat}(D:F<m.st.fs.length)(K:(T:Int)<=(az m.st F).n):∀(t:Nat) (k:Kp) (a:Nat) (o:List UInt8),Rt k.m->Co k.m->Aj m k.m->Cap k.m->(jD F T t k a o).2.1=0
 | 0,k,a,o,k1,k2,k3,k4=>rfl
 | t+1,k,a,o,k1,k2,k3,k4=>by
  unfold jD
  by_cases z:(T:Int)<=a
  ·rw[if_pos z]
  rw[if_neg z];have d:=tL C.pt.st D (j:=a) (by omega);have J:((a:Nat):Int) / 8=((a / 8:Nat):Int):=by omega
  have g:jk k.m.st F (a / 8:Nat):=d.same k3.files k3.lenb;obtain⟨c1,B⟩:=nC (k:=k) k1 k2 g;have E:=ym k1 k2 k4 g;simp only[J];rw[if_neg (by omega)];obtain⟨n,G⟩:∃n:Nat,min (8-(a:Int)%8) ((T:Int)-a)=n:=⟨(min (8-(a:Int)%8) ((T:Int)-a)).toNat,by omega⟩;have h:((a:Nat):Int)+(n:Int)=((a+n:Nat):Int):=by omega
  rw[G,h];exact Jq C D K t _ (a+n) _ B.rt B.co (k3.trans B.vis) (k4.vis (B.vis.x (λ_ _=>False)) B.inv B.len B.sll)
theorem RB{k:Kp}(h:Rt k.m)(z:Co k.m)(J:Cap k.m){f:Int}(E:jE k.m.st f n=0):(lw k f n).2=0:=by
 rcases(Ll h z E).2 with⟨e,_⟩|⟨e,_⟩
 ·exact e
 exfalso;obtain⟨D,c,G,Q,_⟩:=oM E;have b:∀(K:Kp),aQ K.m.st=0->(mU K f n).2≠10:=λK N o=>by
  unfold mU at o
  by_cases C:jE K.m.st f n=0
  ·rw[if_neg (by rw[C];simp)]at o;exact absurd o (by show(0:Int)≠10;decide)
  rw[if_pos C]at o;have g : jE K.m.st f n=10:=o;unfold jE at g;rw[if_neg (by rw[N];simp)]at g;split at g
  ·cases g
  ·split at g<;>cases g
 unfold lw at e;simp only at e
 by_cases t:n≠(az k.m.st f).n/\0<min n (az k.m.st f).n%8
 ·rw[if_pos t]at e;obtain⟨F,O⟩:∃F:Nat,f=F:=⟨f.toNat,by omega⟩;subst O;have a:jk k.m.st F (min n (az k.m.st F).n / 8):=by have R:=(iK D (f:=(F:Int)) G).1;have:=tL h.pt.st (f:=F) (j:=(min n (az k.m.st F).n / 8*8).toNat) (by omega) (by omega);rw[show(((min n (az k.m.st F).n / 8*8).toNat / 8:Nat):Int)=min n (az k.m.st F).n / 8 by omega]at this;exact this
  obtain⟨c1,B⟩:=nC (k:=k) h z a;have d:=ym h z J a;rw[if_neg (by omega)]at e;exact b _ (by show aQ (cO k F (min n (az k.m.st F).n / 8)).1.m.st=0;exact B.rt.pt.st) e
 rw[if_neg t]at e;exact b k D e
theorem Zn.stay(h:Rt m)(o:Co m){f:Int}(D:jE m.st f n=0)(S:Zn m (lw ⟨m,0⟩ f n).1.m f n):vT m (lw ⟨m,0⟩ f n).1.m:=by
 refine⟨S.len,S.sll,?_⟩;have t:∀K:Kp,(mU K f n).1.m.st.count=K.m.st.count:=λK=>by
  unfold mU
  by_cases g:jE K.m.st f n=0
  ·rw[if_neg (by rw[g];simp)];exact(oM g).2.2.2.2.1
  ·rw[if_pos g]
 obtain⟨z,b,C,G,_⟩:=oM D;unfold lw;simp only
 by_cases d:n≠(az m.st f).n/\0<min n (az m.st f).n%8
 ·rw[if_pos d];obtain⟨F,E⟩:∃F:Nat,f=F:=⟨f.toNat,by omega⟩;subst E;have a:jk m.st F (min n (az m.st F).n / 8):=by have J:=(iK z (f:=(F:Int)) C).1;have:=tL h.pt.st (f:=F) (j:=(min n (az m.st F).n / 8*8).toNat) (by omega) (by omega);rw[show(((min n (az m.st F).n / 8*8).toNat / 8:Nat):Int)=min n (az m.st F).n / 8 by omega]at this;exact this
  obtain⟨c1,B⟩:=nC (k:=⟨m,0⟩) h o a;split
  ·exact B.inv.count
  ·rw[t];exact B.inv.count
 ·rw[if_neg d,t]
theorem Xj(k:lY m){w:Bool}(o:p<m.sp.length)(t:(bQ m p).lv=true)(d:nR m p n w=0):vT m (su m p n w):=by
 rcases JP k (n:=n) (w:=w) o t with⟨_,u⟩|⟨g,D,⟨_,u⟩|⟨h,⟨_,u⟩|⟨G,⟨u,_⟩|⟨_,_,U⟩⟩⟩⟩
 ·rw[d]at u;cases u
 ·rw[d]at u;cases u
 ·rw[d]at u;cases u
 ·rw[d]at u;cases u
 refine⟨U.len,U.sll,?_⟩;have C:=Ze k.rt k.co (w:=w) o D (λe=>by unfold Ko at h;rw[if_pos e]at h;exact h) λK J=>uK λz=>G ⟨K,Au J,z⟩;have E:=C.count;unfold su;rw[bu];rw[<-E];unfold Jr;simp only;split<;>rfl
def Rh(w:Wd):Nat:=(Nl w.n λp=>(w.ps p).ar).length
def Dc(w:Wd):Nat:=(w.fl.map λb=>(b.length+7) / 8).sum
structure Fits (fr sl bl:Nat) (w:Wd):Prop where
 one:1<=fr
 all:Rh w+Dc w<fr+sl
 blk:Dc w<=bl
structure Xv (fr sl bl:Nat) (m:Ma):Prop where
 fr:m.m.fs.length=fr
 sl:m.sl.length=sl
 ct:m.st.count=bl
theorem Xv.stay(h:Xv fr sl bl m)(S:vT m m'):Xv fr sl bl m':=⟨S.fr.trans h.fr,S.sl.trans h.sl,S.ct.trans h.ct⟩
theorem uD.cap{w:Wd}(h:uD m w)(C:Rt m)(d:Xv fr sl bl m)(k:Fits fr sl bl w):Cap m:=by
 have D:Dq m=Rh w:=by unfold Dq Rh;rw[h.n];congr 2;funext p;rw[h.ar]
 have t:(gZ m.st).length=Dc w:=by
  rw[FT];unfold Dc;congr 1;apply sI
  ·simp[h.nf]
  intro i g E;simp only[fE,BA]at g;simp only[rJ,JE];have z:=h.sz i g;have a:=(iK C.pt.st (f:=(i:Int)) (by omega));have:zR w i=w.fl[i]'(by rw[h.nf];exact g):=by unfold zR;rw[bA,aM (by rw[h.nf];exact g)];rfl
  rw[this]at z;have o:=a.2.2.1;unfold bn at o;split at o<;>omega
 exact⟨by rw[d.fr];exact k.one,by rw[D,t,d.fr,d.sl];exact k.all,by rw[t,d.ct];have:=k.blk;omega⟩
theorem VB(C:lY m)(z:Cap m)(t:p<m.sp.length)(k:(bQ m p).lv=true)(c:Cl)(d:c.p=p)(n:Int)(wr:Bool):lQ m c n wr≠(m,iV 10):=λe=>by
 have e:(lQ m c n wr).2.e=10:=congrArg (λx:Ma × An=>x.2.e) e;unfold lQ at e;rw[d]at e;have o:=Zb C z (n:=c.a / 8) (w:=wr) t k
 by_cases h:sW c.a n=false
 ·rw[if_pos h]at e;cases e
 rw[if_neg h]at e
 by_cases g:nR m p (c.a / 8) wr≠0
 ·rw[if_pos g]at e;exact o e
 rw[if_neg g]at e;simp only at e;split at e
 ·cases e
 ·split at e<;>cases e
def Dw(c:Cl):Prop:=∀m w,lY m->uD m w->(qD m c).2=(Dp w c).2/\lY (qD m c).1/\uD (qD m c).1 (Dp w c).1/\vT m (qD m c).1
def Ao(fr sl bl:Nat)(c:Cl):Prop:=∀m w,lY m->uD m w->Xv fr sl bl m->Fits fr sl bl w->(8<c.k->Fits fr sl bl (Ig w c).1)->(qD m c).2=(Dp w c).2/\lY (qD m c).1/\uD (qD m c).1 (Dp w c).1/\vT m (qD m c).1
theorem Dw.fit{c:Cl}(h:Dw c)(fr sl bl:Nat):Ao fr sl bl c:=λm w g d _ _ _=>h m w g d
def AP(w:Wd)(c:Cl):Prop:=c.p<0\/(w.n:Int)<=c.p\/(w.ps c.p.toNat).lv=false
instance (w:Wd) (c:Cl):Decidable (AP w c):=by unfold AP;infer_instance
theorem Cf{w:Wd}{c:Cl}{x:Nat->Ma × An}{y:Nat->Wd × An}(t:lY m)(h:uD m w)(C:qD m c=if xR m c then(m,iV 5)else x c.p.toNat)(z:Dp w c=if AP w c then(w,iV 5)else y c.p.toNat)
 (o:∀p:Nat,c.p=p->p<m.sp.length->(bQ m p).lv=true->(x p).2=(y p).2/\lY (x p).1/\uD (x p).1 (y p).1/\vT m (x p).1):(qD m c).2=(Dp w c).2/\lY (qD m c).1/\uD (qD m c).1 (Dp w c).1/\vT m (qD m c).1:=by
 rw[C,z];have a:AP w c↔xR m c:=by unfold AP xR;rw[h.n,h.lv]
 by_cases g:xR m c
 ·rw[if_pos g,if_pos (a.2 g)];exact⟨rfl,t,h,.refl m⟩
 rw[if_neg g,if_neg (λe=>g (a.1 e))];obtain⟨p,d⟩:∃p:Nat,c.p=p:=⟨c.p.toNat,by unfold xR at g;omega⟩;have b:c.p.toNat=p:=by omega
 unfold xR at g;rw[b]at g ⊢;have k:(bQ m p).lv=true:=by
  cases k:(bQ m p).lv with
  | true=>rfl
  | false=>exact absurd (.inr (.inr k)) g
 exact o p d (by omega) k
theorem wh(m:Ma){c:Cl}{k:Int}(d:c.k=k)(h:1<=k/\k<=7:=by decide):qD m c=vW m c:=by
 unfold qD;rw[if_neg (by omega),if_pos (by omega)]
theorem Bg(w:Wd){c:Cl}{k:Int}(d:c.k=k)(h:1<=k/\k<=7:=by decide):Dp w c=Ua w c:=by
 unfold Dp;rw[if_neg (by omega),if_pos (by omega)]
theorem AR{c:Cl}(d:c.k=1):Dw c:=λm w g h=>Cf (x:=λp=>vO m p c) (y:=λp=>Xf w p c) g h
 (by rw[wh m d];unfold vW;simp[d]) (by rw[Bg w d];unfold Ua AP;simp[d]) λp t z o=>by
  obtain⟨E,D,C⟩:=Yg g h z o c;refine⟨E,D,C,?_⟩;unfold vO;simp only;split
  ·exact .refl m
  split
  ·exact .refl m
  split
  ·exact .refl m
  ·exact⟨rfl,rfl,rfl⟩
theorem VG(o:lY m)(k:p<m.sp.length)(h:(bQ m p).lv=true){c:Cl}(g:c.p=p)(n:Int)(wr:Bool):vT m (lQ m c n wr).1:=by
 unfold lQ;split
 ·exact .refl m
 split
 ·exact .refl m
 rename_i d;have d:nR m c.p (c.a / 8) wr=0:=uK d;rw[g]at d ⊢;have S:=Xj o k h d;simp only;split
 ·exact .refl m
 split
 ·exact S.trans ⟨dK,rfl,rfl⟩
 ·exact S
theorem Fs{c:Cl}{w:Wd}(g:lY m)(h:uD m w)(C:Xv fr sl bl m)(t:Fits fr sl bl w)(z:wr=true->n=c.da.length)(d:c.p=p)(o:p<m.sp.length)(k:(bQ m p).lv=true) :
  (lQ m c n wr).2=(JG w p c n wr).2/\lY (lQ m c n wr).1/\uD (lQ m c n wr).1 (JG w p c n wr).1/\vT m (lQ m c n wr).1:=by
 rcases Qz g h o k c d n wr z with e|⟨G,E,D⟩
 ·exact absurd e (VB g (h.cap g.rt C t) o k c d n wr)
 ·exact⟨G,E,D,VG g o k d n wr⟩
theorem Iu{c:Cl}(d:c.k=4):Ao fr sl bl c:=λm w o h D t _=>Cf (x:=λp=>lQ m c c.n false) (y:=λp=>JG w p c c.n false) o h
 (by rw[wh m d];unfold vW;simp[d]) (by rw[Bg w d];unfold Ua AP;simp[d]) λp g C z=>Fs o h D t (λe=>by cases e) g C z
theorem Hu{c:Cl}(d:c.k=5):Ao fr sl bl c:=λm w o h D t _=>Cf (x:=λp=>lQ m c c.da.length true) (y:=λp=>JG w p c c.da.length true) o h
 (by rw[wh m d];unfold vW;simp[d]) (by rw[Bg w d];unfold Ua AP;simp[d]) λp g C z=>Fs o h D t (λ_=>rfl) g C z
theorem IC{c:Cl}(g:c.k=6):Dw c:=λm w d h=>Cf (x:=λp=>ND m p) (y:=λp=>RS w p) d h
 (by rw[wh m g];unfold vW;simp[g]) (by rw[Bg w g];unfold Ua AP;simp[g]) λp z C t=>by
  have J:=Ww h;unfold ND
  by_cases o:nT m=4
  ·rw[if_pos o];unfold RS;simp only;rw[if_pos (by omega)];exact⟨rfl,d,h,.refl m⟩
  rw[if_neg o];obtain⟨m',e,F⟩:=QV d.rt d.co C t (Sj d.rt o);rw[e];obtain⟨G,E,D⟩:=Ya d h (q:=(nT m).toNat) (by omega) (by omega) F;refine⟨?_,G,E,F.len,F.sll,by rw[F.st]⟩;rw[D];have:((nT m).toNat:Int)=nT m:=by omega
  rw[this]
theorem yY{c:Cl}(g:c.k=4\/c.k=5)(o:lY m):lY (qD m c).1:=by
 have C:=AZ o.rt;have h:∀n wr,(wr=true->n=(c.da.length:Int))->¬xR m c->lY (lQ m c n wr).1:=λn wr z d=>by
  obtain⟨p,b⟩:∃p:Nat,c.p=p:=⟨c.p.toNat,by unfold xR at d;omega⟩;have a:c.p.toNat=p:=by omega
  unfold xR at d;rw[a]at d;have t:(bQ m p).lv=true:=by
   cases t:(bQ m p).lv with
   | true=>rfl
   | false=>exact absurd (.inr (.inr t)) d
  rcases Qz o C (by omega) t c b n wr z with e|⟨_,e,_⟩
  ·rw[e];exact o
  ·exact e
 rcases g with g|g
 ·rw[wh m g];unfold vW
  by_cases d:xR m c
  ·rw[if_pos d];exact o
  simp only[if_neg d,g];exact h _ _ (λe=>by cases e) d
 rw[wh m g];unfold vW
 by_cases d:xR m c
 ·rw[if_pos d];exact o
 simp only[if_neg d,g];exact h _ _ (λ_=>rfl) d
theorem Dw.okm{c:Cl}(h:Dw c)(d:lY m):lY (qD m c).1:=(h m (NG m) d (AZ d.rt)).2.1
def runW:Wd->List Cl->Wd × List An
 | w,[]=>(w,[])
 | w,c::l=>((runW (Dp w c).1 l).1,(Dp w c).2::(runW (Dp w c).1 l).2)
def BX(fr sl bl:Nat):Wd->List Cl->Prop
 | w,[]=>True
 | w,c::l=>Fits fr sl bl w/\(8<c.k->Fits fr sl bl (Ig w c).1)/\BX fr sl bl (Dp w c).1 l
theorem runW_app:∀(l r:List Cl) (w:Wd),runW w (l++r)=((runW (runW w l).1 r).1,(runW w l).2++(runW (runW w l).1 r).2)
 | [],r,w=>rfl
 | c::l,r,w=>by simp only[EE,runW,runW_app l r]
theorem BX.app :∀ {l r:List Cl} {w:Wd},BX fr sl bl w l->BX fr sl bl (runW w l).1 r->BX fr sl bl w (l++r)
 | [],_,_,_,h=>h
 | c::l,r,w,h1,h2=>⟨h1.1,h1.2.1,BX.app (l:=l) h1.2.2 h2⟩
theorem Mq{fr sl bl:Nat}:∀ {l:List Cl} {m:Ma} {w:Wd},(∀c∈l,Ao fr sl bl c)->lY m->uD m w->Xv fr sl bl m->BX fr sl bl w l->(runC m l).2=(runW w l).2/\lY (runC m l).1/\uD (runC m l).1 (runW w l).1/\Xv fr sl bl (runC m l).1
 | [],m,w,_,h1,h2,h3,_=>⟨rfl,h1,h2,h3⟩
 | c::l,m,w,h0,h1,h2,h3,h4=>by obtain⟨E,D,C,z⟩:=h0 c (by simp) m w h1 h2 h3 h4.1 h4.2.1;obtain⟨t,o,k,h⟩:=Mq (l:=l) (λd g=>h0 d (by simp[g])) D C (h3.stay z) h4.2.2;unfold runC runW;exact⟨by rw[E,t],o,k,h⟩
def begW:Wd:=⟨1,λp=>if p=0 then⟨true,[],λ_=>none⟩else zFw,[]⟩
theorem Ym{f s b:Int}(h:(0<=f/\f<=40)/\(0<=s/\s<=60)/\0<=b/\b<=80):uD (jF f s b) begW:=by
 have k:=OJ h;have c:(jF f s b).sp=[⟨true,[],zTb⟩]:=by rw[k]
 have a:(jF f s b).st=⟨[],b⟩:=by rw[k]
 have g:∀p,(bQ (jF f s b) p).lv=(begW.ps p).lv/\(bQ (jF f s b) p).ar=[]:=λp=>by
  unfold bQ;rw[c];cases p with
  | zero=>exact⟨rfl,rfl⟩
  | succ p=>exact⟨rfl,rfl⟩
 have o:∀p,(begW.ps p).ar=[]/\∀n,(begW.ps p).own n=none:=λp=>by
  show(if p=0 then(⟨true,[],λ_=>none⟩:Fw)else zFw).ar=[]/\∀n,(if p=0 then(⟨true,[],λ_=>none⟩:Fw)else zFw).own n=none
  by_cases e:p=0
  ·rw[if_pos e];exact⟨rfl,λ_=>rfl⟩
  ·rw[if_neg e];exact⟨rfl,λ_=>rfl⟩
 refine⟨by rw[c];rfl,λp=>(g p).1.symm,λp=>by rw[(o p).1,(g p).2],λp n => ?_,by rw[a];rfl,λf d => ?_,λf j d => ?_⟩
 ·rw[(o p).2];have:eP (jF f s b) p n=none:=by unfold eP;rw[(g p).2];rfl
  rw[this];exact(rfl:(none:Option Page)=none)
 ·rw[a]at d;simp at d
 ·rw[a]at d;simp at d
theorem Xw{s:Nat}(h:f<=40/\s<=60/\b<=80):Xv f s b (jF f s b):=by
 rw[OJ (f:=(f:Int)) (s:=(s:Int)) (c:=(b:Int)) (by omega)];refine⟨?_,?_,rfl⟩
 ·show(yu (f:Int)).fs.length=f;unfold yu;rw[if_pos (by omega)];simp
 show(GJ (s:Int)).length=s;unfold GJ;rw[if_pos (by omega)];simp
theorem QP{s:Nat}(h:f<=40/\s<=60/\b<=80){l:List Cl}(d:∀c∈l,Ao f s b c)(g:BX f s b begW l):(runC (jF f s b) l).2=(runW begW l).2:=
 (Mq d (Rp (by omega)) (Ym (by omega)) (Xw h) g).1
instance (fr sl bl:Nat) (w:Wd):Decidable (Fits fr sl bl w):=decidable_of_iff (1<=fr/\Rh w+Dc w<fr+sl/\Dc w<=bl) ⟨λh=>⟨h.1,h.2.1,h.2.2⟩,λh=>⟨h.1,h.2,h.3⟩⟩
def RI(fr sl bl:Nat):Wd->List Cl->Bool
 | w,[]=>true
 | w,c::l=>decide (Fits fr sl bl w)&&(!decide (8<c.k)||decide (Fits fr sl bl (Ig w c).1))&&RI fr sl bl (Dp w c).1 l
theorem AO{fr sl bl:Nat}:∀ {l:List Cl} {w:Wd},RI fr sl bl w l=true->BX fr sl bl w l
 | [],_,_=>trivial
 | c::l,w,h=>by unfold RI at h;simp only[dJ,uN,tO,decide_eq_true_eq,decide_eq_false_iff_not]at h;exact⟨h.1.1,λd=>by rcases h.1.2 with h | h;exact absurd d h;exact h,AO h.2⟩
def vV(a n:Int):Cl:=⟨1,0,a,n,-1,0,true,true,false,[]⟩
def nH(p a:Int)(b:UInt8):Cl:=⟨5,p,a,0,0,0,false,false,false,[b]⟩
def gY(p a:Int):Cl:=⟨4,p,a,1,0,0,false,false,false,[]⟩
def aliveL:List Cl:=[vV 0 1,nH 0 3 9,gY 0 3]
theorem alive_fit:BX 2 2 0 begW aliveL:=AO (by decide +kernel)
theorem alive_step:∀c∈aliveL,Ao 2 2 0 c:=λc d=>by
 have d:c∈[vV 0 1,nH 0 3 9,gY 0 3]:=d;simp only[fq,kZ,or_false]at d;rcases d with rfl|rfl|rfl
 ·exact(AR rfl).fit 2 2 0
 ·exact Hu rfl
 ·exact Iu rfl
theorem alive_run:(runW begW aliveL).2=[⟨0,0,[]⟩,⟨0,1,[]⟩,⟨0,1,[9]⟩]:=by decide +kernel
def DV(x:Cr):Prop:=∀(H:MH) (w:World),lY H.ma->Dk w H->yo w x->Calls Tryz.prog 31 #[.agg (bS H),.agg (kN x.c x.a x.cap)] w (zO H x.c w)
theorem Ee{x:Cr}(h:∀(m:Ma) (P:Nat),lY m->x.c.p=P->P<m.sp.length->(bQ m P).lv=true->x.c.da.length<=x.cap->x.cap<=maxLen->(x.a=none->x.cap=0)->iF x.c.a/\iF x.c.n->aam m x.c x.a x.cap P)(E:x.c.k<=7:=by omega):DV x:=
 λH w g o d=>EL H x.c x.a x.cap w o g (λW t=>d.rd.below t) (λP _ D C z=>h H.ma P g D C z d.le d.mx d.nl d.b64) (λe=>by omega) (λe=>by omega)
theorem VX{x:Cr}(K:x.c.k=1):DV x:=Ee λm P C D g J t o h z=>
 ⟨λ_ H G B b w e k E d=>by subst e;exact Mw H x.c x.a x.cap G B b P w k C.rt C.co E d t o h D (by rw[<-qm];exact g) z,λe=>by omega,λe=>by omega,λe=>by omega,λe=>by omega,λe=>by omega,λe=>by omega⟩
theorem QT{x:Cr}(K:x.c.k=4):DV x:=Ee λm P z E g D t o h C=>
 ⟨λe=>by omega,λe=>by omega,λe=>by omega,λ_ H J B b w e k G d=>by subst e;exact Gz H x.c x.c.n false x.a x.cap J B b w k z.rt z.co z.fiok G d t o h C.1 P E (by rw[<-qm];exact g) D,λe=>by omega,λe=>by omega,λe=>by omega⟩
theorem LD{x:Cr}(K:x.c.k=5):DV x:=Ee λm P z E g D t o h C=>
 ⟨λe=>by omega,λe=>by omega,λe=>by omega,λe=>by omega,λ_ H J B b w e k G d=>by subst e;exact Gz H x.c x.c.da.length true x.a x.cap J B b w k z.rt z.co z.fiok G d t o h C.1 P E (by rw[<-qm];exact g) D,λe=>by omega,λe=>by omega⟩
theorem Yd{x:Cr}(G:x.c.k=6):DV x:=Ee λm P d E h D z t o C=>
 ⟨λe=>by omega,λe=>by omega,λe=>by omega,λe=>by omega,λe=>by omega,λ_ H W e g=>by subst e;exact UE H P W g d.rt d.co,λe=>by omega⟩
end Go.Proofs.YthihaopabbpalaaGreat