import Derived.Test.YthihaopabbpalaaGreatX7
set_option linter.unusedSimpArgs false
set_option linter.unusedVariables false
set_option linter.unnecessarySimpa false
set_option maxHeartbeats 4000000
set_option maxRecDepth 100000
namespace Go.Proofs.YthihaopabbpalaaGreat
open _root_.Go.Proofs.Tryz
open Go.RowKit Go.Maps Pw
variable {B B' F b bl c cp fr g i j sl sz sz':Nat} {T T0:TypeId} {a ad:Option Addr} {cs:Array Value} {m:Ma} {u v v2:Value} {w w' w1 wa:World} {xs ys:List Value}
def TN(f a n:Int)(sh:Bool):Cl:=⟨1,0,a,n,f,0,true,true,sh,[]⟩
def nL(x:An):UInt8:=if x.e≠0\/x.da.length<1 then 255 else x.da.getD 0 0
theorem FQ(a n:Int)(w:World):Calls Tryz.prog 10 #[.int .i64 a,.int .i64 n] w λr w'=>r = .returned (.agg (kN (vV a n) none 0))/\Below w.heap.size w w':=by
 go_enter func10,ntmps10
 go_wp2_with (refine aT (kN (vV a n) none 0) call_size (xJ _ _ _) ?_)
 intro w1 b d;go_wp2;refine bodyPost_ret (v:=.agg (kN (vV a n) none 0)) (aP results10 w.heap.size d underlying25 call_size) rfl ?_;exact⟨rfl,b⟩
theorem qO(p a:Int)(w:World):Calls Tryz.prog 13 #[.int .i64 p,.int .i64 a] w λr w'=>r = .returned (.agg (kN (gY p a) none 0))/\Below w.heap.size w w':=by
 go_enter func13,ntmps13
 go_wp2_with (refine aT (kN (gY p a) none 0) call_size (xJ _ _ _) ?_)
 intro w1 b d;go_wp2;refine bodyPost_ret (v:=.agg (kN (gY p a) none 0)) (aP results13 w.heap.size d underlying25 call_size) rfl ?_;exact⟨rfl,b⟩
theorem UH(f a n:Int)(d:Bool)(w:World):Calls Tryz.prog 11 #[.int .i64 f,.int .i64 a,.int .i64 n,.bool d] w λr w'=>r = .returned (.agg (kN (TN f a n d) none 0))/\Below w.heap.size w w':=by
 go_enter func11,ntmps11
 go_wp2_with (refine aT (kN (TN f a n d) none 0) call_size (xJ _ _ _) ?_)
 intro w1 b e;go_wp2;refine bodyPost_ret (v:=.agg (kN (TN f a n d) none 0)) (aP results11 w.heap.size e underlying25 call_size) rfl ?_;exact⟨rfl,b⟩
theorem uo(p a:Int)(x:UInt8)(w:World):Calls Tryz.prog 12 #[.int .i64 p,.int .i64 a,.int .u8 x.toNat] w λr w' => ∃g,r = .returned (.agg (kN (nH p a x) (some ⟨g,0,none⟩) 1))/\Own w' w.heap.size 5 1 (.slice (some ⟨g,0,none⟩) 1 1) 1 [nD x]/\Below w.heap.size w w':=by
 go_enter func12,ntmps12;go_upto_region 1 with(fail);refine iP (λW=>Code.wp _ _ _ _ W) λw1 h o l => ?_;clear l;have i:=(Below.refl w1.heap.size w1).alloc (aC _) (.cells #[.int .u8 x.toNat] 5);have n:=o.ext i;have f:=ah h i;have c:Own (w1.alloc (.cells #[.int .u8 x.toNat] 5)) w.heap.size 5 1 (.slice (some ⟨w1.heap.size,0,none⟩) 1 1) 1 [nD x]:=⟨rfl,.inr ⟨w1.heap.size,0,1,_,rfl,h.size,aK.new _ _ _,aC 1,by unfold maxLen;decide,aC 1,λj u s=>by
  match j with
  | 0=>simpa[nD]using s
  | j+1=>simp at s⟩⟩
 have m:w.heap.size<w1.heap.size:=o.lt
 go_wp2_with (refine ax _ _ w.heap.size (kN (nH p a x) (some ⟨w1.heap.size,0,none⟩) 1) n call_size (G:=xJ _ _ _) ?_)
 intro y q d;have b:=aA c n d;have e:=f.grown d f.size (λk t=>by cases t;exact aC _);go_wp2;refine bodyPost_ret (v:=.agg (kN (nH p a x) (some ⟨w1.heap.size,0,none⟩) 1)) (aP results12 w.heap.size q underlying25 call_size) rfl ?_;exact⟨_,rfl,b,e⟩
theorem jB(x:An)(ad:Option Addr)(q:Nat)(w:World)(h:eD w ad (x.da.map nD))(A:x.da.length<=q) :
  Calls Tryz.prog 15 #[.agg (eQ x.e x.n (.slice ad x.da.length q))] w λr w'=>r = .returned (.int .u8 (nL x).toNat)/\Below w.heap.size w w':=by
 go_enter func15,ntmps15;go_upto_region 1 with(fail);refine iP (λW=>Code.wp _ _ _ _ W) λw1 a k c => ?_;clear c;have k:aK w1 w.heap.size (eQ x.e x.n (.slice ad x.da.length q)) 54:=k;have d:=h.below a;have y:=k.cell;unfold eQ at y
 by_cases p:x.e=0
 ·have f : (x.e==0)=true:=by simpa using p
  by_cases t:x.da.length<1
  ·have o:Hid (nL x=255):=ae (by unfold nL;rw[if_pos (.inr t)]);have g:(x.da.length:Int)<1:=by omega
   go_wp2;go_ret;exact⟨by rw[o.out];rfl,a⟩
  have g:¬(x.da.length:Int)<1:=by omega
  obtain⟨u,s⟩:∃u,x.da[0]?=some u:=⟨_,aM (by omega)⟩;have o:Hid (nL x=u):=ae (by unfold nL;rw[if_neg (by rintro(e | e);exact e p;exact t e),bA,s];rfl);obtain⟨bd,z,i,b⟩:=d 0 (nD u) (by rw[iH,s];rfl);rw[i]at y;have b:w1.cell? ⟨bd,z,none⟩=some (.int .u8 u.toNat):=by simpa[nD]using b
  have j:(0:Int)<(x.da.length:Int):=by omega
  go_wp2;go_ret;exact⟨by rw[o.out];rfl,a⟩
 have o:Hid (nL x=255):=ae (by unfold nL;rw[if_pos (.inl p)]);have f : (x.e==0)=false:=by simpa using p
 go_wp2;go_ret;exact⟨by rw[o.out];rfl,a⟩
theorem yo.nil{c:Cl}(d:c.da=[])(h:iF c.a/\iF c.n):yo w ⟨c,Option.none,0⟩:=by
 refine⟨?_,by show c.da.length<=0;rw[d];exact aC 0,bN _,λ_=>rfl,h⟩;show eD w Option.none (c.da.map nD);rw[d];exactλj u e=>by simp at e
theorem yo.own{c:Cl}(d:Own w B 5 1 (.slice ad c.da.length cp) c.da.length (c.da.map nD))(h:iF c.a/\iF c.n):yo w ⟨c,ad,cp⟩:=by
 obtain⟨a,c',e,p,o,k,f⟩:=d.rd;simp only[iW,true_and]at e;obtain⟨rfl,rfl⟩:=e;exact⟨f,p,o,k,h⟩
theorem VV{n:Nat}{k:List (An × Value)}(h:vX w B (.slice a n c) k){x:An × Value}(y:k[i]?=some x) :
  n=k.length/\∃b o ad f,a=some ⟨b,o,none⟩/\x.2 = .slice ad x.1.da.length f/\eD w (some ⟨b,o+i*3,none⟩) [.int .i64 x.1.e,.int .i64 x.1.n,.slice ad x.1.da.length f]/\eD w ad (x.1.da.map nD)/\x.1.da.length<=f:=by
 obtain⟨q,p⟩:=dw.1 y;obtain⟨a',c',e,_,_,_,t⟩:=h.own.rd;simp only[iW]at e;obtain⟨rfl,D,_⟩:=e;obtain⟨b,o,z,d⟩:=oU (sz:=3) (enc:=λx:An × Value=>(eQ x.1.e x.1.n x.2).toList) (λ_=>rfl) t i q;obtain⟨ad,f,s,C,_,_,A⟩:=(h.each x (by rw[<-p];exact fA q)).rd;refine⟨D,b,o,ad,f,z,s,?_,A,C⟩;rw[p]at d;rw[<-s];exact d
theorem Ni(w:World):Calls Tryz.prog 9 #[] w λr w'=>r = .returned (.bool true)/\Below w.heap.size w w':=by
 go_enter func9,ntmps9;go_upto_region 1 with(fail)
 go_wp2_with fail
 refine(FQ 0 1 _).mono ?_;rintro r w1 ⟨rfl,L⟩;unfold kN vV;dsimp only
 go_wp2_with fail
 refine(uo 0 3 9 _).mono ?_;rintro r w2 ⟨g,rfl,O,M⟩;unfold kN nH;dsimp only;have n:=ah L M
 go_wp2_with fail
 refine(qO 0 3 _).mono ?_;rintro r G ⟨rfl,q⟩;unfold kN gY;dsimp only;have k:=ah n q;have P:=O.below q;clear L M n O q
 go_wp2_with fail
 have t:=(Below.refl G.heap.size G).alloc (aC _) (.cells #[.int .i64 1,.int .i64 0,.int .i64 0,.int .i64 1,.int .i64 (-1),.int .i64 0,.bool true,.bool true,.bool false,.slice none 0 0,.int .i64 5,.int .i64 0,.int .i64 3,.int .i64 0,.int .i64 0,.int .i64 0,.bool false,.bool false,.bool false,.slice (some ⟨g,0,none⟩) 1 1,.int .i64 4,.int .i64 0,.int .i64 3,.int .i64 1,.int .i64 0,.int .i64 0,.bool false,.bool false,.bool false,.slice none 0 0] 25);have j:=ah k t;have Q:=P.below t;have S:=Jn 2 2 0 (some ⟨G.heap.size,0,none⟩) 3 [⟨vV 0 1,none,0⟩,⟨nH 0 3 9,some ⟨g,0,none⟩,1⟩,⟨gY 0 3,none,0⟩] _ (by decide) (eD.new G _ 25) (λx A=>by
  simp only[fq,kZ,or_false]at A;rcases A with rfl|rfl|rfl
  ·exact yo.nil rfl (by unfold iF;decide)
  ·exact yo.own Q (by unfold iF;decide)
  ·exact yo.nil rfl (by unfold iF;decide)) (λx A=>by
  simp only[fq,kZ,or_false]at A;rcases A with rfl|rfl|rfl
  ·exact VX rfl
  ·exact LD rfl
  ·exact QT rfl) (λx A=>by
  simp only[fq,kZ,or_false]at A;rcases A with rfl|rfl|rfl
  ·exactλm E=>(AR rfl).okm E
  ·exactλm E=>yY (.inr rfl) E
  ·exactλm E=>yY (.inl rfl) E)
 refine S.mono ?_;rintro r w5 ⟨N,H5,v,J,e,rfl,W,u,p⟩;rcases p with⟨D,_⟩|⟨_,_,rfl,I,C⟩
 ·exfalso;simp only[bM,bP,ou,mf]at D;omega
 have d:J.map Prod.fst=[⟨0,0,[]⟩,⟨0,1,[]⟩,⟨0,1,[9]⟩]:=C.trans ((QP (f:=2) (s:=2) (b:=0) (by decide) alive_step alive_fit).trans alive_run);have c:J.length=3:=by have:=congrArg List.length d;simpa using this
 obtain⟨x,A⟩:∃x,J[2]?=some x:=⟨_,aM (by omega)⟩;have y:x.1=⟨0,1,[9]⟩:=by have:=congrArg (λl=>l[2]?) d;simp only[iH,A]at this;simpa using this
 obtain⟨av,cv,rfl,_⟩:=u.own.rd;obtain⟨_,bv,U,ad,cd,K,_,o,a,R⟩:=VV u A;have i:=ah j N;rw[y]at o a R;have hn:=ae c;rw[K,c];clear S t j Q W u I C d A y N k P K c
 go_wp2_with (refine aT (bS H5) mach_size (dQ _) ?_)
 intro w6 h H;have Z:=o.below h;have z:=a.below h;have X:=ah i h;clear o a h i H
 go_wp2_with (refine ay bv (U+2*3) _ Z _ underlying54 rfl ans_size ?_)
 refine(jB ⟨0,1,[9]⟩ ad cd _ z R).mono ?_;rintro r w7 ⟨rfl,V⟩;have Y:=ah X V;go_wp2;go_ret;exact⟨rfl,Y⟩
structure pV (w:World) (B:Nat) (v:Value) (l:List Cr):Prop where
 own:Own w B 25 10 v l.length (l.flatMap Xq)
 each:∀x∈l,Own w B 5 1 (.slice x.a x.c.da.length x.cap) x.c.da.length (x.c.da.map nD)
 b64:∀x∈l,iF x.c.a/\iF x.c.n
theorem pV.below{l:List Cr}(h:pV w B v l)(d:Below w.heap.size w w'):pV w' B v l:=⟨h.own.below d,λx e=>(h.each x e).below d,h.b64⟩
theorem pV.rd{l:List Cr}(h:pV w B v l):∃a c,v = .slice a l.length c/\eD w a (l.flatMap Xq)/\∀x∈l,yo w x:=by
 obtain⟨a,c,e,_,_,_,f⟩:=h.own.rd;exact⟨a,c,e,f,λx d=>yo.own (h.each x d) (h.b64 x d)⟩
theorem call_info:(Tryz.prog.info? 25).map (λi=>(i.zero,i.size,i.bytes))=some (some (.agg #[.int .i64 0,.int .i64 0,.int .i64 0,.int .i64 0,.int .i64 0,.int .i64 0,.bool false,.bool false,.bool false,.slice none 0 0]),10,80):=by kernel_rfl
theorem WH{n m:Nat}(f:Own w B T0 sz v n xs)(d:w.grownBy w' v.ownBlock)(h:Own w B' T sz' u m ys)(o:T≠T0):Own w' B' T sz' u m ys:=by
 cases hr:v.ownBlock with
 | none=>rw[hr]at d;exact iM h d
 | some g=>
  rw[hr]at d;obtain⟨cs,k⟩:=sS f g hr;exact aA h k (p:=(λe=>o e.symm)) d
theorem pV.more{l d:List Cr}(h:pV w1 B v l)(k:∀x∈d,Own w1 B 5 1 (.slice x.a x.c.da.length x.cap) x.c.da.length (x.c.da.map nD))(o:∀x∈d,iF x.c.a/\iF x.c.n)
 (f:w1.grownBy wa v.ownBlock) (own2:Own wa B 25 10 v2 (l.length+d.length) (l.flatMap Xq++d.flatMap Xq)):pV wa B v2 (l++d):=by
 refine⟨by rw[fI,iq];exact own2,λx e => ?_,λx e => ?_⟩
 ·rcases ik.1 e with e|e
  ·exact WH h.own f (h.each x e) (by decide)
  ·exact WH h.own f (k x e) (by decide)
 rcases ik.1 e with e|e
 ·exact h.b64 x e
 ·exact o x e
theorem QR{n:Nat}{k:List (An × Value)}{L:List An}(h:vX w B (.slice a n c) k)(p:k.map Prod.fst=L){x:An}(d:L[i]?=some x) :
  n=L.length/\∃b o ad f,a=some ⟨b,o,none⟩/\eD w (some ⟨b,o+i*3,none⟩) [.int .i64 x.e,.int .i64 x.n,.slice ad x.da.length f]/\eD w ad (x.da.map nD)/\x.da.length<=f:=by
 subst p;rw[iH]at d;cases hx:k[i]? with
 | none=>rw[hx]at d;cases d
 | some y=>
  rw[hx]at d;cases d;obtain⟨A,b,o,ad,f,z,_,t,s,q⟩:=VV h hx;exact⟨by rw[fE];exact A,b,o,ad,f,z,t,s,q⟩
def forkCl:Cl:=⟨6,0,0,0,0,0,false,false,false,[]⟩
structure aav (m:Ma) (c:Cl):Prop where
 cr:c.k=15->∀(H:MH) (W:World),H.ma=m->Dk W H->Calls Tryz.prog 118 #[.agg (bS H),.int .i64 c.n] W (CrR H c.n W)
 cl:c.k=14->∀(H:MH) (W:World),H.ma=m->Dk W H->Calls Tryz.prog 120 #[.agg (bS H)] W (ClR H W)
 ev:¬(c.k=15\/c.k=14)->∀(H:MH) (W:World),H.ma=m->Dk W H->Calls Tryz.prog 119 #[.agg (bS H)] W (EvR H W)
theorem TS(H:MH)(c:Cl)(a:Option Addr)(cap gc B b:Nat)(w:World)(h:lV w B b H)(Y:aav H.ma c)(hc:aK w gc (kN c a cap) 25) :
  Calls Tryz.prog 76 #[.pointer (some ⟨b,0,none⟩),.pointer (some ⟨gc,0,none⟩)] w (Zh w B b (Ck H.ma c)):=by
 have hh:=ae Y;have hB:=h.blk.lt;clear Y;go_enter func76,ntmps76;go_upto_region 1 with(fail);refine iP (λW=>Code.wp _ _ _ _ W) λw1 X D hu => ?_;have k1:=h.below X;have c1:=hc.ext X;have p:w.grownBy w1 (some b):=Ce X;have hr:=ae h.bs;have hp:=ae X.size;clear h hc X hu;have hm:=c1.cell;unfold kN at hm
 by_cases C:c.k=15
 ·have Z:Hid (Ck H.ma c=(Ad H.ma c.n,iV 0)):=ae (by unfold Ck;rw[if_pos C]);go_upto_region 2 with(fail);refine aR 12 [.v (.pointer (some ⟨b,0,none⟩)),_,_,_,_,_,_,_,_,.r 9 ((Zk w1.heap.size (Ad H.ma c.n) 0)),.r 10 ((vC w1.heap.size (Ad H.ma c.n))),.v (.int .i64 0)] (Gk rfl (Gk rfl (Gk rfl (Gf b 0 rfl rfl (Gr (.agg (bS H)) (λρ y W R hx=>(cz rfl (bi rfl hx) ((k1.below R).blk) underlying45 mach_size)) rfl rfl (Gk rfl (Gk rfl (Gf gc 3 rfl rfl (Gl c1 rfl rfl rfl rfl rfl (aj ?_ (aj ?_ (aj ?_ (aH))))))))))))) (λ_=>rfl) rfl ?_
  ·intro ρ y W P hn R Q;have hz:=P 18 4 rfl;have h4:y 4=_:=Q 4 rfl;have hy:=P 22 8 rfl;have h8:y 8=_:=Q 8 rfl;have EF:=eF0 hn λ_=>trivial;refine aL (aW rfl (EF _) func118 (by simp only[bU,bM,bP,hz,h4,hy,h8,EF];rfl)) ?_;refine(hh.out.cr C H W rfl (k1.below R).ma.rd).mono ?_;rintro r w9 ⟨hv,H9,rfl,hk,hl⟩;exact⟨_,rfl,hv,H9,rfl,hk.mono R.size,hl⟩
  ·intro ρ y W P hn R Q;have hs:=P 23 9 rfl;have h9:=Q 9 rfl;obtain⟨H9,e9,hk,hl⟩:=h9;refine ak (.agg (bS H9)) (by simp[execOp,go_sem,hs,e9]) (m:=?_);exact⟨H9,rfl,hk,hl⟩
  ·intro ρ y W P hn R Q;have hs:=P 23 9 rfl;have h9:=Q 9 rfl;obtain⟨H9,e9,hk,hl⟩:=h9;refine ak (.int .i64 0) (by simp[execOp,go_sem,hs,e9])
  intro y W2 hf hj;have hA:((Zk w1.heap.size (Ad H.ma c.n) 0)).r (y 9) W2:=hj 9 (by decide);have ht:((vC w1.heap.size (Ad H.ma c.n))).r (y 10) W2:=hj 10 (by decide);clear hj;have M:=k1.below hf;have A:=D.ext hf;have g:=bY p hf;obtain⟨K,e2,s,O⟩:=ht;rw[e2];have i : qp W2 B K:=s.mono (aX hr.out hp.out);clear k1 D p hf s hm e2
  go_wp2_with fail
  refine(ni H K 0 B b _ M i).mono ?_;rintro r w6 ⟨rfl,l,N,L,u⟩;have t:=ae u;have f:=A.grown l (λe=>by cases e;omega);have d:=nE g l;clear M A l u g
  go_wp2_with (refine ax _ _ w.heap.size (eQ 0 0 nilV) f ans_size ?_)
  intro S I j;have x:=dE d j (z:=aC _);have U:lV S B b N:=L.keepT f (by decide) (by decide) j;clear L f d j;go_wp2;refine bodyPost_ret (v:=.agg (eQ 0 0 nilV)) (aP results76 w.heap.size I underlying54 ans_size) rfl ?_;rw[Z.out];exact⟨nilV,rfl,Own.nil _ _ _ _,x,N,U,by rw[t.out];exact O⟩
 have d15:(c.k==15)=false:=by simpa using C
 by_cases G:c.k=14
 ·have Z:Hid (Ck H.ma c=(Pd H.ma,iV 0)):=ae (by unfold Ck;rw[if_neg C,if_pos G])
  go_wp2_with (refine ay b 0 (bS H).toList k1.blk.rd _ underlying45 rfl mach_size ?_)
  refine((hh.out.cl G) H _ rfl k1.ma.rd).mono ?_;rintro r w2 ⟨q,K,rfl,s,O⟩;have M:=k1.below q;have A:=D.ext q;have g:=bY p q;have i:=s.mono (B':=B) (aX hr.out hp.out);have hg:=ae O;clear k1 D p q s hm O
  go_wp2_with (refine aT (bS K) mach_size (dQ _) ?_)
  intro w3 o E;have V:=M.below o;have J:=A.ext o;have z:=bY g o;have hq:=i.below o;clear M A g o i;generalize w2.heap.size=gm at E
  go_wp2_with (refine ay gm 0 (bS K).toList E.rd _ underlying45 rfl mach_size ?_)
  refine(ni H K 0 B b _ V hq).mono ?_;rintro r w6 ⟨rfl,l,N,L,u⟩;have t:=ae u;have f:=J.grown l (λe=>by cases e;omega);have d:=nE z l;clear V J l u z
  go_wp2_with (refine ax _ _ w.heap.size (eQ 0 0 nilV) f ans_size ?_)
  intro S I j;have x:=dE d j (z:=aC _);have U:lV S B b N:=L.keepT f (by decide) (by decide) j;clear L f d j;go_wp2;refine bodyPost_ret (v:=.agg (eQ 0 0 nilV)) (aP results76 w.heap.size I underlying54 ans_size) rfl ?_;rw[Z.out];exact⟨nilV,rfl,Own.nil _ _ _ _,x,N,U,by rw[t.out];exact hg.out⟩
 have Z:Hid (Ck H.ma c=((cZ ⟨H.ma,0⟩).1.m,iV 0)):=ae (by unfold Ck;rw[if_neg C,if_neg G]);have d14:(c.k==14)=false:=by simpa using G
 go_wp2_with (refine ay b 0 (bS H).toList k1.blk.rd _ underlying45 rfl mach_size ?_)
 refine((hh.out.ev (λe=>e.elim C G)) H _ rfl k1.ma.rd).mono ?_;rintro r w2 ⟨q,K,rfl,s,O⟩;have M:=k1.below q;have A:=D.ext q;have g:=bY p q;have i:=s.mono (B':=B) (aX hr.out hp.out);have hg:=ae O;clear k1 D p q s hm O
 go_wp2_with (refine aT (bS K) mach_size (dQ _) ?_)
 intro w3 o E;have V:=M.below o;have J:=A.ext o;have z:=bY g o;have hq:=i.below o;clear M A g o i;generalize w2.heap.size=gm at E
 go_wp2_with (refine ay gm 0 (bS K).toList E.rd _ underlying45 rfl mach_size ?_)
 refine(ni H K 0 B b _ V hq).mono ?_;rintro r w6 ⟨rfl,l,N,L,u⟩;have t:=ae u;have f:=J.grown l (λe=>by cases e;omega);have d:=nE z l;clear V J l u z
 go_wp2_with (refine ax _ _ w.heap.size (eQ 0 0 nilV) f ans_size ?_)
 intro S I j;have x:=dE d j (z:=aC _);have U:lV S B b N:=L.keepT f (by decide) (by decide) j;clear L f d j;go_wp2;refine bodyPost_ret (v:=.agg (eQ 0 0 nilV)) (aP results76 w.heap.size I underlying54 ans_size) rfl ?_;rw[Z.out];exact⟨nilV,rfl,Own.nil _ _ _ _,x,N,U,by rw[t.out];exact hg.out⟩
structure aaC (m:Ma) (c:Cl) (a:Option Addr) (cap:Nat):Prop where
 rd:c.k=9->Xt 114 (λp q => #[p,q]) m c a cap (vg m c)
 wr:c.k=10->Xt 115 (λp q => #[p,q]) m c a cap (Pz m c)
 tr:c.k=11->Xt 116 (λp q => #[p,q]) m c a cap (vk m c)
 sy:¬(c.k=9\/c.k=10\/c.k=11)->∀(H:MH) (W:World),H.ma=m->Dk W H->Calls Tryz.prog 117 #[.agg (bS H),.int .i64 c.f] W (SyR c.f H W)
theorem Nb(H:MH)(c:Cl)(a:Option Addr)(cap R B b:Nat)(w:World)(h:lV w B b H)(hct:0<=c.f->c.f<H.ma.st.fs.length->aaC H.ma c a cap)(hc:aK w R (kN c a cap) 25)(hrd:∀W,Below B w W->eD W a (c.da.map nD)) :
  Calls Tryz.prog 75 #[.pointer (some ⟨b,0,none⟩),.pointer (some ⟨R,0,none⟩)] w (Zh w B b (SQ H.ma c)):=by
 have hH:=ae hct;have hQ:=h.blk.lt;have hI:Hid (H.ma.st.fs.length=H.fi.length):=ae (fE _);clear hct;go_enter func75,ntmps75;go_upto_region 1 with(fail);refine iP (λW=>Code.wp _ _ _ _ W) λw1 hE Q hP => ?_;have k1:=h.below hE;have c1:=hc.ext hE;have hf:w.grownBy w1 (some b):=Ce hE;have hF:=ae h.bs;have q:=ae hE;have hx:=ae hrd;clear h hc hE hP hrd
 by_cases hlo:c.f<0
 ·have hX:Hid (SQ H.ma c=(H.ma,iV 5)):=ae (by unfold SQ;rw[if_pos (.inl hlo)]);go_upto_region 1 with(fail);refine aR 19 [_,_,_,_,_,_,_,_,_,_,_,_,_,_,_,_,_,_,.v (.bool true)] (Gk rfl (Gk rfl (Gf R 4 rfl rfl (Gl c1 rfl rfl rfl rfl rfl (Gb (.bool true) (by simp[go_sem,hlo]) rfl rfl rfl rfl rfl (Gk rfl (Gk rfl (Gk rfl (Gk rfl (Gk rfl (Gk rfl (Gk rfl (Gk rfl (Gk rfl (Gk rfl (Gk rfl (Gk rfl (Gk rfl (Gk rfl (aH)))))))))))))))))))) (λ_=>rfl) rfl ?_;intro y I g _;have G:=k1.below g;have C:=Q.ext g;have c2:=c1.ext g;have l:=bY hf g;have o:∀W,Below B I W->eD W a (c.da.map nD):=λW E=>hx.out W (dI ((dI q.out (g.mono q.out.size)).mono hF.out) E);have hm:=ae (aX q.out.size g.size);clear k1 Q c1 hf g;have X:=c2.cell
  go_wp2_with (refine ax _ _ w.heap.size (eQ 5 0 nilV) C ans_size ?_)
  intro M D i;have m:=dE l i (z:=aC _);have N:lV M B b H:=G.keepT C (by decide) (by decide) i;go_wp2;refine bodyPost_ret (v:=.agg (eQ 5 0 nilV)) (aP results75 w.heap.size D underlying54 ans_size) rfl ?_;rw[hX.out];exact⟨nilV,rfl,Own.nil _ _ _ _,m,H,N,rfl⟩
 have d1:decide (c.f<0)=false:=decide_eq_false hlo
 by_cases hhi:(H.fi.length:Int)<=c.f
 ·have hX:Hid (SQ H.ma c=(H.ma,iV 5)):=ae (by unfold SQ;rw[hI.out,if_pos (.inr hhi)]);go_upto_region 1 with(fail);refine aR 19 [_,_,_,_,_,_,_,_,_,_,_,_,_,_,_,_,_,_,.v (.bool true)] (Gk rfl (Gk rfl (Gf R 4 rfl rfl (Gl c1 rfl rfl rfl rfl rfl (Gb (.bool false) (by simp[go_sem,d1]) rfl rfl rfl rfl rfl (Gk rfl (Gk rfl (Gk rfl (Gf R 4 rfl rfl (Gl c1 rfl rfl rfl rfl rfl (Gk rfl (Gk rfl (Gf b 0 rfl rfl (Gf b 7 rfl rfl (Gf b 7 rfl rfl (Gc (.slice H.ai H.fi.length H.ci) (λW E=>by simp[(k1.below E).blk.cell,bS]) rfl rfl rfl rfl (Gn rfl rfl rfl rfl (Gb (.bool true) (by simp[go_sem,hhi]) rfl rfl rfl rfl rfl (Gk rfl (aH))) (underlying39)))))))))))))))))) (λ_=>rfl) rfl ?_;intro y I g _;have G:=k1.below g;have C:=Q.ext g;have c2:=c1.ext g;have l:=bY hf g;have o:∀W,Below B I W->eD W a (c.da.map nD):=λW E=>hx.out W (dI ((dI q.out (g.mono q.out.size)).mono hF.out) E);have hm:=ae (aX q.out.size g.size);clear k1 Q c1 hf g;have X:=c2.cell
  go_wp2_with (refine ax _ _ w.heap.size (eQ 5 0 nilV) C ans_size ?_)
  intro M D i;have m:=dE l i (z:=aC _);have N:lV M B b H:=G.keepT C (by decide) (by decide) i;go_wp2;refine bodyPost_ret (v:=.agg (eQ 5 0 nilV)) (aP results75 w.heap.size D underlying54 ans_size) rfl ?_;rw[hX.out];exact⟨nilV,rfl,Own.nil _ _ _ _,m,H,N,rfl⟩
 have d2:decide ((H.fi.length:Int)<=c.f)=false:=decide_eq_false hhi;have hk:=ae (hH.out (by omega) (by rw[hI.out];omega));clear hH;go_upto_region 1 with(fail);refine aR 19 [_,_,_,_,_,_,_,_,_,_,_,_,_,_,_,_,_,_,.v (.bool false)] (Gk rfl (Gk rfl (Gf R 4 rfl rfl (Gl c1 rfl rfl rfl rfl rfl (Gb (.bool false) (by simp[go_sem,d1]) rfl rfl rfl rfl rfl (Gk rfl (Gk rfl (Gk rfl (Gf R 4 rfl rfl (Gl c1 rfl rfl rfl rfl rfl (Gk rfl (Gk rfl (Gf b 0 rfl rfl (Gf b 7 rfl rfl (Gf b 7 rfl rfl (Gc (.slice H.ai H.fi.length H.ci) (λW E=>by simp[(k1.below E).blk.cell,bS]) rfl rfl rfl rfl (Gn rfl rfl rfl rfl (Gb (.bool false) (by simp[go_sem,d2]) rfl rfl rfl rfl rfl (Gk rfl (aH))) (underlying39)))))))))))))))))) (λ_=>rfl) rfl ?_;intro y I g _;have G:=k1.below g;have C:=Q.ext g;have c2:=c1.ext g;have l:=bY hf g;have o:∀W,Below B I W->eD W a (c.da.map nD):=λW E=>hx.out W (dI ((dI q.out (g.mono q.out.size)).mono hF.out) E);have hm:=ae (aX q.out.size g.size);clear k1 Q c1 hf g;have X:=c2.cell;unfold kN at X;obtain⟨Y,hY⟩:∃Y,Hid (SQ H.ma c=Y):=⟨_,ae rfl⟩;have hu:Hid (Y=if c.k=9 then vg H.ma c else if c.k=10 then Pz H.ma c else if c.k=11 then vk H.ma c else Qm H.ma c.f):=ae (by rw[<-hY.out];unfold SQ;rw[hI.out,if_neg (by omega)])
 by_cases L:c.k=9
 ·have hq:Hid (vg H.ma c=Y):=ae (by rw[hu.out,if_pos L]);have u:=hk.out.rd L H R B b I rfl G c2 o;rw[hq.out]at u;have hi:=ae u;clear u o
  go_wp2_with fail
  refine hi.out.mono ?_;rintro r w3 ⟨d,rfl,t,x,H3,K,Z⟩;obtain⟨ad,cd,rfl,_⟩:=t.rd;have hg:=ae Z;have A:=C.grown x (λe=>by cases e;omega);have j:=nE l x;have s:=t.mono hm.out;clear G C l x t Z X
  go_wp2_with (refine ax _ _ w.heap.size (eQ Y.2.e Y.2.n (.slice ad Y.2.da.length cd)) A ans_size ?_)
  intro M D i;have m:=dE j i (z:=aC _);have N:lV M B b H3:=K.keepT A (by decide) (by decide) i;have hy:=aA s A i;clear K A j i s;go_wp2;refine bodyPost_ret (v:=.agg (eQ Y.2.e Y.2.n (.slice ad Y.2.da.length cd))) (aP results75 w.heap.size D underlying54 ans_size) rfl ?_;rw[hY.out];exact⟨_,rfl,hy,m,H3,N,hg.out⟩
 have d9:(c.k==9)=false:=by simpa using L
 by_cases S:c.k=10
 ·have hq:Hid (Pz H.ma c=Y):=ae (by rw[hu.out,if_neg L,if_pos S]);have u:=hk.out.wr S H R B b I rfl G c2 o;rw[hq.out]at u;have hi:=ae u;clear u o
  go_wp2_with fail
  refine hi.out.mono ?_;rintro r w3 ⟨d,rfl,t,x,H3,K,Z⟩;obtain⟨ad,cd,rfl,_⟩:=t.rd;have hg:=ae Z;have A:=C.grown x (λe=>by cases e;omega);have j:=nE l x;have s:=t.mono hm.out;clear G C l x t Z X
  go_wp2_with (refine ax _ _ w.heap.size (eQ Y.2.e Y.2.n (.slice ad Y.2.da.length cd)) A ans_size ?_)
  intro M D i;have m:=dE j i (z:=aC _);have N:lV M B b H3:=K.keepT A (by decide) (by decide) i;have hy:=aA s A i;clear K A j i s;go_wp2;refine bodyPost_ret (v:=.agg (eQ Y.2.e Y.2.n (.slice ad Y.2.da.length cd))) (aP results75 w.heap.size D underlying54 ans_size) rfl ?_;rw[hY.out];exact⟨_,rfl,hy,m,H3,N,hg.out⟩
 have d10:(c.k==10)=false:=by simpa using S
 by_cases U:c.k=11
 ·have hq:Hid (vk H.ma c=Y):=ae (by rw[hu.out,if_neg L,if_neg S,if_pos U]);have u:=hk.out.tr U H R B b I rfl G c2 o;rw[hq.out]at u;have hi:=ae u;clear u o
  go_wp2_with fail
  refine hi.out.mono ?_;rintro r w3 ⟨d,rfl,t,x,H3,K,Z⟩;obtain⟨ad,cd,rfl,_⟩:=t.rd;have hg:=ae Z;have A:=C.grown x (λe=>by cases e;omega);have j:=nE l x;have s:=t.mono hm.out;clear G C l x t Z X
  go_wp2_with (refine ax _ _ w.heap.size (eQ Y.2.e Y.2.n (.slice ad Y.2.da.length cd)) A ans_size ?_)
  intro M D i;have m:=dE j i (z:=aC _);have N:lV M B b H3:=K.keepT A (by decide) (by decide) i;have hy:=aA s A i;clear K A j i s;go_wp2;refine bodyPost_ret (v:=.agg (eQ Y.2.e Y.2.n (.slice ad Y.2.da.length cd))) (aP results75 w.heap.size D underlying54 ans_size) rfl ?_;rw[hY.out];exact⟨_,rfl,hy,m,H3,N,hg.out⟩
 have d11:(c.k==11)=false:=by simpa using U
 have hN:¬(c.k=9\/c.k=10\/c.k=11):=by omega
 rw[if_neg L,if_neg S,if_neg U]at hu;cases hS0:Wu c.f H.ma with
 | none=>
  have hS:=ae hS0;have hX:Hid (SQ H.ma c=(H.ma,iV 10)):=ae (by rw[hY.out,hu.out];unfold Qm;rw[hS0]);clear hS0;go_upto_region 10 with(fail);refine aR 12 [.v (.pointer (some ⟨b,0,none⟩)),_,_,_,_,_,_,_,_,.r 9 ((Zk I.heap.size (zMa) 10)),.r 10 ((vC I.heap.size (zMa))),.v (.int .i64 10)] (Gk rfl (Gk rfl (Gk rfl (Gf b 0 rfl rfl (Gr (.agg (bS H)) (λρ y W E hK=>(cz rfl (bi rfl hK) ((G.below E).blk) underlying45 mach_size)) rfl rfl (Gk rfl (Gk rfl (Gf R 4 rfl rfl (Gl c2 rfl rfl rfl rfl rfl (aj ?_ (aj ?_ (aj ?_ (aH))))))))))))) (λ_=>rfl) rfl ?_
  ·intro ρ y W O hn E P;have hM:=O 48 4 rfl;have h4:y 4=_:=P 4 rfl;have hL:=O 52 8 rfl;have h8:y 8=_:=P 8 rfl;have EF:=eF0 hn λ_=>trivial;refine aL (aW rfl (EF _) func117 (by simp only[bU,bM,bP,hM,h4,hL,h8,EF];rfl)) ?_;refine(hk.out.sy hN H W rfl (G.below E).ma.rd).mono ?_;rintro r w9 ⟨hJ,z⟩;rw[hS.out]at z;subst z;exact⟨_,rfl,hJ,noH,rfl,vL _ _,noH_ma⟩
  ·intro ρ y W O hn E P;have ht:=O 53 9 rfl;have L:=P 9 rfl;obtain⟨V,e9,hp,hr⟩:=L;refine ak (.agg (bS V)) (by simp[execOp,go_sem,ht,e9]) (m:=?_);exact⟨V,rfl,hp,hr⟩
  ·intro ρ y W O hn E P;have ht:=O 53 9 rfl;have L:=P 9 rfl;obtain⟨V,e9,hp,hr⟩:=L;refine ak (.int .i64 10) (by simp[execOp,go_sem,ht,e9])
  intro y W3 p ha;have hO:((Zk I.heap.size (zMa) 10)).r (y 9) W3:=ha 9 (by decide);have hv:((vC I.heap.size (zMa))).r (y 10) W3:=ha 10 (by decide);clear ha;have K:=G.below p;have A:=C.ext p;have j:=bY l p;obtain⟨H2,e2,hA,hD⟩:=hv;rw[e2];have hG:=ae hD;have hz : qp W3 B H2:=hA.mono (aX hF.out hm.out);clear G C l p hA X e2 hD o
  go_wp2_with fail
  refine(ni H H2 10 B b _ K hz).mono ?_;rintro r w6 ⟨rfl,hs,H6,k6,hC⟩;have hB:=ae hC;have J:=A.grown hs (λe=>by cases e;omega);have hj:=nE j hs;clear K A hs hC j
  go_wp2_with (refine ax _ _ w.heap.size (eQ 10 0 nilV) J ans_size ?_)
  intro M D i;have m:=dE hj i (z:=aC _);have N:lV M B b H6:=k6.keepT J (by decide) (by decide) i;clear k6 J hj i;go_wp2;refine bodyPost_ret (v:=.agg (eQ 10 0 nilV)) (aP results75 w.heap.size D underlying54 ans_size) rfl ?_;rw[hX.out];exact⟨nilV,rfl,Own.nil _ _ _ _,m,H6,N,by rw[hB.out];exact rfl⟩
 | some mS=>
  have hS:=ae hS0;have hX:Hid (SQ H.ma c=(mS,iV 0)):=ae (by rw[hY.out,hu.out];unfold Qm;rw[hS0]);clear hS0;go_upto_region 10 with(fail);refine aR 12 [.v (.pointer (some ⟨b,0,none⟩)),_,_,_,_,_,_,_,_,.r 9 ((Zk I.heap.size (mS) 0)),.r 10 ((vC I.heap.size (mS))),.v (.int .i64 0)] (Gk rfl (Gk rfl (Gk rfl (Gf b 0 rfl rfl (Gr (.agg (bS H)) (λρ y W E hK=>(cz rfl (bi rfl hK) ((G.below E).blk) underlying45 mach_size)) rfl rfl (Gk rfl (Gk rfl (Gf R 4 rfl rfl (Gl c2 rfl rfl rfl rfl rfl (aj ?_ (aj ?_ (aj ?_ (aH))))))))))))) (λ_=>rfl) rfl ?_
  ·intro ρ y W O hn E P;have hM:=O 48 4 rfl;have h4:y 4=_:=P 4 rfl;have hL:=O 52 8 rfl;have h8:y 8=_:=P 8 rfl;have EF:=eF0 hn λ_=>trivial;refine aL (aW rfl (EF _) func117 (by simp only[bU,bM,bP,hM,h4,hL,h8,EF];rfl)) ?_;refine(hk.out.sy hN H W rfl (G.below E).ma.rd).mono ?_;rintro r w9 ⟨hJ,z⟩;rw[hS.out]at z;obtain⟨V,rfl,hp,hr⟩:=z;exact⟨_,rfl,hJ,V,rfl,hp.mono E.size,hr⟩
  ·intro ρ y W O hn E P;have ht:=O 53 9 rfl;have L:=P 9 rfl;obtain⟨V,e9,hp,hr⟩:=L;refine ak (.agg (bS V)) (by simp[execOp,go_sem,ht,e9]) (m:=?_);exact⟨V,rfl,hp,hr⟩
  ·intro ρ y W O hn E P;have ht:=O 53 9 rfl;have L:=P 9 rfl;obtain⟨V,e9,hp,hr⟩:=L;refine ak (.int .i64 0) (by simp[execOp,go_sem,ht,e9])
  intro y W3 p ha;have hO:((Zk I.heap.size (mS) 0)).r (y 9) W3:=ha 9 (by decide);have hv:((vC I.heap.size (mS))).r (y 10) W3:=ha 10 (by decide);clear ha;have K:=G.below p;have A:=C.ext p;have j:=bY l p;obtain⟨H2,e2,hA,hD⟩:=hv;rw[e2];have hG:=ae hD;have hz : qp W3 B H2:=hA.mono (aX hF.out hm.out);clear G C l p hA X e2 hD o
  go_wp2_with fail
  refine(ni H H2 0 B b _ K hz).mono ?_;rintro r w6 ⟨rfl,hs,H6,k6,hC⟩;have hB:=ae hC;have J:=A.grown hs (λe=>by cases e;omega);have hj:=nE j hs;clear K A hs hC j
  go_wp2_with (refine ax _ _ w.heap.size (eQ 0 0 nilV) J ans_size ?_)
  intro M D i;have m:=dE hj i (z:=aC _);have N:lV M B b H6:=k6.keepT J (by decide) (by decide) i;clear k6 J hj i;go_wp2;refine bodyPost_ret (v:=.agg (eQ 0 0 nilV)) (aP results75 w.heap.size D underlying54 ans_size) rfl ?_;rw[hX.out];exact⟨nilV,rfl,Own.nil _ _ _ _,m,H6,N,by rw[hB.out];exact hG.out⟩
theorem Rl{x:Cr}(A:8<x.c.k)(y:x.c.k<=12)(h:∀m:Ma,lY m->x.c.da.length<=x.cap->x.cap<=maxLen->(x.a=none->x.cap=0)->iF x.c.a->0<=x.c.f->x.c.f<m.st.fs.length->aaC m x.c x.a x.cap):DV x:=
 λH w o p d=>EL H x.c x.a x.cap w p o (λW t=>d.rd.below t) (λP e _ _ _=>by omega)
  (λ_ _ K z B b W e q s n=>by have:=Nb K x.c x.a x.cap z B b W q (by rw[e];exact h H.ma o d.le d.mx d.nl d.b64.1) s n;rw[e]at this;exact this) (λe=>by omega)
theorem YF{x:Cr}(z:x.c.k=9):DV x:=Rl (by omega) (by omega) λm o n h f q y t=>
 ⟨λ_ H s B b w e k p d=>by subst e;exact TL H x.c x.a x.cap s B b w k o.rt o.co p d n h f ⟨y,t⟩,λe=>by omega,λe=>by omega,λe=>by omega⟩
theorem Vp{x:Cr}(z:x.c.k=11):DV x:=Rl (by omega) (by omega) λm o n h f s y t=>
 ⟨λe=>by omega,λe=>by omega,λ_ H p B b w e k q d=>by subst e;exact OI H x.c x.a x.cap p p B b w k o.rt o.co q d n h f ⟨y,t⟩,λe=>by omega⟩
theorem Sb{x:Cr}(o:x.c.k=8):DV x:=
 λH w n f d=>EL H x.c x.a x.cap w f n (λW h=>d.rd.below h) (λP e _ _ _=>by omega) (λe=>by omega) (λe=>by omega)
theorem Yo{x:Cr}(t:12<x.c.k)(h:∀m:Ma,lY m->aav m x.c):DV x:=
 λH w d o f=>EL H x.c x.a x.cap w o d (λW s=>f.rd.below s) (λP e _ _ _=>by omega) (λ_ e=>by omega)
  (λ_ K y B b W e p q n=>by have:=TS K x.c x.a x.cap y B b W p (by rw[e];exact h H.ma d) q;rw[e]at this;exact this)
theorem UG{x:Cr}(h:x.c.k=13):DV x:=Yo (by omega) λm d=>
 ⟨λe=>by omega,λe=>by omega,λ_ H W e f=>by subst e;exact Px H W f d.rt d.co⟩
def KD(m:Ma)(c:Cl):Prop:=c.f<0\/(m.st.fs.length:Int)<=c.f
instance (m:Ma) (c:Cl):Decidable (KD m c):=by unfold KD;infer_instance
theorem MI(m:Ma){c:Cl}{k:Int}(d:c.k=k)(h:9<=k/\k<=12):qD m c=if KD m c then(m,iV 5)else if c.k=9 then vg m c else if c.k=10 then Pz m c else if c.k=11 then vk m c else Qm m c.f:=by
 unfold qD;rw[if_neg (by omega),if_neg (by omega),if_neg (by omega),if_pos (by omega)];rfl
theorem Xc(w:Wd){c:Cl}{k:Int}(d:c.k=k)(h:9<=k/\k<=12):Dp w c=Ig w c:=by
 unfold Dp;rw[if_neg (by omega),if_neg (by omega),if_neg (by omega),if_pos (by omega)]
theorem Iz{k:Int}{w:Wd}{c:Cl}{x:Ma × An}{y:Wd × An}(p:lY m)(h:uD m w)(e:c.k=k)(hk' : 9<=k/\k<=12)(s:(if k=9 then vg m c else if k=10 then Pz m c else if k=11 then vk m c else Qm m c.f)=x)
 (q:(if k=9 then Wm w c else if k=10 then aaT w c else if k=11 then VK w c else(w,iV 0))=y)
 (o:∀F:Nat,c.f=F->F<m.st.fs.length->Ig w c=y->x.2=y.2/\lY x.1/\uD x.1 y.1/\vT m x.1):(qD m c).2=(Dp w c).2/\lY (qD m c).1/\uD (qD m c).1 (Dp w c).1/\vT m (qD m c).1:=by
 rw[MI m e hk',Xc w e hk'];have n:Ig w c=if KD m c then(w,iV 5)else y:=by rw[<-q,<-e];unfold Ig KD;rw[h.nf]
 rw[e,s,n]
 by_cases d:KD m c
 ·rw[if_pos d,if_pos d];exact⟨rfl,p,h,.refl m⟩
 rw[if_neg d,if_neg d];rw[if_neg d]at n;unfold KD at d;exact o c.f.toNat (by omega) (by omega) n
theorem Ti{w:Wd}(k:lY m)(h:uD m w){c:Cl}(t:c.f=F)(o:F<m.st.fs.length):vT m (vg m c).1/\(Cap m->(vg m c).2.e≠10):=by
 have d:=h.sz F o;have g:=(iK k.rt.pt.st (f:=(F:Int)) (by omega)).2.1;unfold vg;split
 ·exact⟨.refl m,λ_=>by show(3:Int)≠10;decide⟩
 rename_i z;simp only[t];obtain⟨x,s⟩:∃x:Nat,uI (az m.st F).n c=x:=⟨(uI (az m.st F).n c).toNat,by unfold uI;omega⟩;obtain⟨T,q⟩:∃T:Nat,toC (az m.st F).n c=T:=⟨(toC (az m.st F).n c).toNat,by unfold toC;omega⟩;have a:(T:Int)<=(az m.st F).n:=by rw[<-q];unfold toC;omega
 have p:=KG k.rt h o a 13 ⟨m,0⟩ x [] k.rt k.co (.refl m) (by omega);rw[s,q];refine⟨?_,λy e => ?_⟩
 ·unfold NP;split
  ·exact p.2.2.2.2.1
  ·exact .refl m
 have b:=Jq k.rt o a 13 ⟨m,0⟩ x [] k.rt k.co (.refl m) y;unfold NP zJ at e;simp only[b,if_true,p.1]at e;cases e
theorem SH{c:Cl}(s:c.k=9):Ao fr sl bl c:=λm w d h t q _=>Iz d h s (by decide) rfl rfl λF f n _=>by
 simp only[if_true];obtain⟨p,o⟩:=Ti d h f n;rcases Rq d h f n with e|⟨A,z,y⟩
 ·exact absurd (by rw[e];rfl) (o (h.cap d.rt t q))
 ·exact⟨A,z,y,p⟩
theorem Uj(h:lY m){c:Cl}(s:c.f=F)(y:F<m.st.fs.length):vT m (vk m c).1/\(Cap m->(vk m c).2.e≠10):=by
 unfold vk;split
 ·exact⟨.refl m,λ_=>by show(3:Int)≠10;decide⟩
 rename_i q;rw[s];have a:=HZ h.rt y (n:=c.n) (by omega);obtain⟨p,d⟩:=Ll (k:=⟨m,0⟩) h.rt h.co a;refine⟨?_,λt e => ?_⟩
 ·unfold NP;split
  ·rename_i o;rcases d with⟨d,Z⟩|⟨d,_⟩
   ·exact Z.stay h.rt h.co a
   unfold zJ at o;rw[if_neg (by rw[d];decide)]at o;rw[d]at o;cases o
  ·exact .refl m
 have d:=RB (k:=⟨m,0⟩) h.rt h.co t a;have p:(lw ⟨m,0⟩ (F:Int) c.n).1.e=0:=p;unfold NP zJ at e;simp only[d,if_true,p]at e;cases e
theorem PZ{c:Cl}(s:c.k=11):Ao fr sl bl c:=λm w d h t q _=>Iz d h s (by decide) rfl rfl λF f n _=>by
 simp only[show ¬(11:Int)=9 by decide,show ¬(11:Int)=10 by decide,if_true,if_false];obtain⟨p,o⟩:=Uj d f n;rcases QI d h f n with e|⟨A,z,y⟩
 ·exact absurd (by rw[e];rfl) (o (h.cap d.rt t q))
 ·exact⟨A,z,y,p⟩
theorem Dl{c:Cl}(e:c.k=8):Dw c:=λm w f h=>by
 have o:qD m c=GN m:=by unfold qD;rw[if_neg (by omega),if_neg (by omega),if_pos e]
 have n:Dp w c=Uz w:=by unfold Dp;rw[if_neg (by omega),if_neg (by omega),if_pos e]
 rw[o,n];obtain⟨s,q,p⟩:=XR f h;refine⟨s,q,p,?_⟩;unfold GN
 by_cases d:jV m.st=0
 ·rw[if_pos d];refine⟨rfl,rfl,?_⟩;show(mR m.st).count=_;unfold mR;rw[if_pos d]
 ·rw[if_neg d];exact .refl m
theorem Xh{c:Cl}(d:c.k=13\/c.k=14)(m:Ma)(w:Wd):qD m c=Ck m c/\Dp w c=(w,iV 0):=by
 constructor
 ·unfold qD;rw[if_neg (by omega),if_neg (by omega),if_neg (by omega),if_neg (by omega)]
 ·unfold Dp;rw[if_neg (by omega),if_neg (by omega),if_neg (by omega),if_neg (by omega)]
theorem Fq{c:Cl}(e:c.k=13):Dw c:=λm w d h=>by
 rw[(Xh (.inl e) m w).1,(Xh (.inl e) m w).2];unfold Ck;rw[if_neg (by omega),if_neg (by omega)];obtain⟨_,n,p,f,_⟩:=DL d.rt d.co;obtain⟨_,o,Fr,_⟩:=wN (k:=⟨m,0⟩) d.rt d.co;exact⟨rfl,d.vis n p f,h.vis d.rt n f,Fr.len,Fr.sll,Fr.inv.count⟩
theorem Mg{k:Int}{c:Cl}{x:Ma × An}(n:lY m)(e:c.k=k)(hk' : 9<=k/\k<=12)(o:(if k=9 then vg m c else if k=10 then Pz m c else if k=11 then vk m c else Qm m c.f)=x)
 (h:∀F:Nat,c.f=F->F<m.st.fs.length->lY x.1):lY (qD m c).1:=by
 rw[MI m e hk',e,o]
 by_cases d:KD m c
 ·rw[if_pos d];exact n
 rw[if_neg d];unfold KD at d;exact h c.f.toNat (by omega) (by omega)
theorem Rm{X:Ma × An}{A B:Prop}(d:lY m)(h:X=(m,iV 10)\/A/\lY X.1/\B):lY X.1:=by
 rcases h with e|⟨_,e,_⟩
 ·rw[e];exact d
 ·exact e
theorem UY{c:Cl}(e:c.k=9)(d:lY m):lY (qD m c).1:=Mg d e (by decide) rfl λF f h=>Rm d (Rq d (AZ d.rt) f h)
theorem TG{c:Cl}(e:c.k=11)(d:lY m):lY (qD m c).1:=Mg d e (by decide) rfl λF f h=>Rm d (QI d (AZ d.rt) f h)
def creCl:Cl:=⟨8,0,0,0,0,0,false,false,false,[]⟩
def Zm(n:Int):Cl:=⟨11,0,0,n,0,0,false,false,false,[]⟩
def Jj(a n:Int):Cl:=⟨9,0,a,n,0,0,false,false,false,[]⟩
def oK(k n:Int):Cl:=⟨k,0,0,n,0,0,false,false,false,[]⟩
theorem Ht{k:Int}(d:k=13\/k=14)(w:Wd):∀n:Nat,runW w (List.replicate n (oK k 0))=(w,List.replicate n (iV 0))
 | 0=>rfl
 | n+1=>by
  have e:Dp w (oK k 0)=(w,iV 0):=by have:=d;unfold Dp oK;simp only;rw[if_neg (by omega),if_neg (by omega),if_neg (by omega),if_neg (by omega)]
  rw[Kc,Kc];unfold runW;rw[e,Ht d w n]
theorem Mx{fr sl bl:Nat}{k:Int}(d:k=13\/k=14){w:Wd}(h:Fits fr sl bl w):∀n:Nat,BX fr sl bl w (List.replicate n (oK k 0))
 | 0=>trivial
 | n+1=>by
  have e:Dp w (oK k 0)=(w,iV 0):=by have:=d;unfold Dp oK;simp only;rw[if_neg (by omega),if_neg (by omega),if_neg (by omega),if_neg (by omega)]
  have f:(Ig w (oK k 0)).1=w:=by
   have:=d;unfold Ig oK;simp only;split
   ·rfl
   ·rw[if_neg (by omega),if_neg (by omega),if_neg (by omega)]
  rw[Kc];exact⟨h,λ_=>by rw[f];exact h,by rw[e];exact Mx d h n⟩
def xS(x y z:UInt8)(sh:Bool):List Cl:=[creCl,Zm 8,vV 0 1,TN 0 1 1 sh,nH 0 2 x,nH 0 10 x,forkCl,gY 1 2,gY 1 10,nH 0 2 y,nH 1 2 z,nH 0 10 y]
def frkM:List Cl:=[gY 0 2,gY 1 2,gY 0 10,gY 1 10,Jj 2 1]
def Ea(x:UInt8):List An:=[⟨0,0,[]⟩,⟨0,0,[]⟩,⟨0,0,[]⟩,⟨0,1,[]⟩,⟨0,1,[]⟩,⟨0,1,[]⟩,⟨0,1,[]⟩,⟨0,1,[x]⟩,⟨0,1,[x]⟩,⟨0,1,[]⟩,⟨0,1,[]⟩,⟨0,1,[]⟩]
def Ic(x y z:UInt8)(sh:Bool):List An:=[⟨0,1,[y]⟩,⟨0,1,[z]⟩,⟨0,1,[y]⟩,⟨0,1,[if sh then y else x]⟩,⟨0,1,[if sh then y else 0]⟩]
theorem Vf(x y z:UInt8)(d:Bool):(runW begW (xS x y z d)).2=Ea x:=by cases d<;>kernel_rfl
theorem Uw(x y z:UInt8)(d:Bool):(runW (runW begW (xS x y z d)).1 frkM).2=Ic x y z d:=by cases d<;>kernel_rfl
theorem Us(x y z:UInt8)(d:Bool):RI 6 6 4 begW (xS x y z d)=true:=by cases d<;>kernel_rfl
theorem UX(x y z:UInt8)(d:Bool):RI 6 6 4 (runW begW (xS x y z d)).1 frkM=true:=by cases d<;>kernel_rfl
theorem pV.of_blk{l:List Cr}(o:aK w g cs 25)(p:B<=g)(e:cs.toList=l.flatMap Xq)(h:l.length<=100)(d:∀x∈l,Own w B 5 1 (.slice x.a x.c.da.length x.cap) x.c.da.length (x.c.da.map nD))(f:∀x∈l,iF x.c.a/\iF x.c.n) :
  pV w B (.slice (some ⟨g,0,none⟩) l.length l.length) l:=by
 have b:(l.flatMap Xq).length=l.length*10:=by
  clear e d f h
  induction l with
  | nil=>rfl
  | cons x l ih=>rw[pF,fI,Qx,ih,ou];omega
 refine⟨⟨b,.inr ⟨g,0,l.length,cs,rfl,p,o,aC _,by unfold maxLen;omega,?_,λj u k => ?_⟩⟩,d,f⟩
 ·have:=congrArg List.length e;rw[b,lH]at this;omega
 rw[dL,<-qz,e];exact k
theorem ZW{n:Nat}{d:List (An × Value)}{L:List An}(h:vX w B (.slice a n c) d)(k:d.map Prod.fst=L)(p:0<L.length):∃b o,a=some ⟨b,o,none⟩:=by
 obtain⟨x,f⟩:∃x,L[0]?=some x:=⟨_,aM p⟩;obtain⟨-,b,o,-,-,e,-⟩:=QR h k f;exact⟨b,o,e⟩
theorem wR{o n:Nat}{f:List (An × Value)}{L:List An}(h:vX w B (.slice (some ⟨b,o,none⟩) n c) f)(p:f.map Prod.fst=L){x:An}(k:L[i]?=some x) :
  ∃ad d,eD w (some ⟨b,o+i*3,none⟩) [.int .i64 x.e,.int .i64 x.n,.slice ad x.da.length d]/\eD w ad (x.da.map nD)/\x.da.length<=d:=by
 obtain⟨-,b',o',ad,d,e,r⟩:=QR h p k;cases e;exact⟨ad,d,r⟩
theorem Lv(x y z:UInt8)(d:Bool):∀c∈xS x y z d,c.k∈([8,11,1,5,6,4,13,9]:List Int):=λc e=>by
 have h:c.k∈(xS x y z d).map Cl.k:=fD.2 ⟨c,e,rfl⟩;rw[show(xS x y z d).map Cl.k=[8,11,1,1,5,5,6,4,4,5,5,5]from rfl]at h;exact(by decide:∀k∈([8,11,1,1,5,5,6,4,4,5,5,5]:List Int),k∈([8,11,1,5,6,4,13,9]:List Int)) _ h
theorem frk_kind2:∀c∈frkM,c.k∈([8,11,1,5,6,4,13,9]:List Int):=by decide
theorem aak{x:Cr}(h:x.c.k∈([8,11,1,5,6,4,13,9]:List Int)):DV x:=by
 simp only[fq,kZ,or_false]at h;rcases h with h|h|h|h|h|h|h|h
 ·exact Sb h
 ·exact Vp h
 ·exact VX h
 ·exact LD h
 ·exact Yd h
 ·exact QT h
 ·exact UG h
 ·exact YF h
theorem Zd{c:Cl}(h:c.k∈([8,11,1,5,6,4,13,9]:List Int))(d:lY m):lY (qD m c).1:=by
 simp only[fq,kZ,or_false]at h;rcases h with h|h|h|h|h|h|h|h
 ·exact(Dl h).okm d
 ·exact TG h d
 ·exact(AR h).okm d
 ·exact yY (.inr h) d
 ·exact(IC h).okm d
 ·exact yY (.inl h) d
 ·exact(Fq h).okm d
 ·exact UY h d
theorem GA{c:Cl}(h:c.k∈([8,11,1,5,6,4,13,9]:List Int)):Ao 6 6 4 c:=by
 simp only[fq,kZ,or_false]at h;rcases h with h|h|h|h|h|h|h|h
 ·exact(Dl h).fit _ _ _
 ·exact PZ h
 ·exact(AR h).fit _ _ _
 ·exact Hu h
 ·exact(IC h).fit _ _ _
 ·exact Iu h
 ·exact(Fq h).fit _ _ _
 ·exact SH h
theorem UO(x y z:UInt8)(d:Bool):RI 6 6 4 (runW begW (xS x y z d)).1 [creCl]=true:=by cases d<;>kernel_rfl
theorem XW(x y z:UInt8)(d:Bool)(k:Nat):(runC (jF 6 6 4) (xS x y z d++List.replicate k (oK 13 0)++frkM)).2=Ea x++List.replicate k (iV 0)++Ic x y z d:=by
 obtain⟨o,n⟩:∃o,(runW begW (xS x y z d)).1=o:=⟨_,rfl⟩;have E:=AO (Us x y z d);have t:=AO (UX x y z d);have q:Fits 6 6 4 (runW begW (xS x y z d)).1:=(AO (UO x y z d)).1;have C:=Vf x y z d;have p:=Uw x y z d;rw[n]at t q p;have A:(runW begW (xS x y z d++List.replicate k (oK 13 0))).1=o:=by rw[runW_app,n,Ht (.inl rfl)]
 have G:(runW begW (xS x y z d++List.replicate k (oK 13 0))).2=Ea x++List.replicate k (iV 0):=by rw[runW_app,n,Ht (.inl rfl),C]
 have D:BX 6 6 4 begW (xS x y z d++List.replicate k (oK 13 0)++frkM):=BX.app (BX.app E (by rw[n];exact Mx (.inl rfl) q k)) (by rw[A];exact t);have h:=QP (f:=6) (s:=6) (b:=4) (by decide) (l:=xS x y z d++List.replicate k (oK 13 0)++frkM) (λc e=>by
  rcases ik.1 e with e|e
  ·rcases ik.1 e with e|e
   ·exact GA (Lv x y z d c e)
   ·rw[(vD.1 e).2];exact GA (by decide)
  ·exact GA (frk_kind2 c e)) D
 refine h.trans ?_;rw[runW_app,A,G,p]
theorem FB(x y z:UInt8)(d:Bool)(k:Nat)(h:1<=j:=by decide)(f:j<=5:=by decide):(Ea x++List.replicate k (iV 0)++Ic x y z d)[17+k-j]?=(Ic x y z d)[5-j]?:=by
 have e:(Ea x++List.replicate k (iV 0)).length=12+k:=by rw[fI,mY];rfl
 rw[jv (by rw[e];omega),e,show 17+k-j-(12+k)=5-j by omega]
theorem Zc(x y z:UInt8)(d:Bool)(k:Nat):(Ea x++List.replicate k (iV 0)++Ic x y z d)[17+k-5]?=some ⟨0,1,[y]⟩:=FB x y z d k
theorem XC(x y z:UInt8)(d:Bool)(k:Nat):(Ea x++List.replicate k (iV 0)++Ic x y z d)[17+k-4]?=some ⟨0,1,[z]⟩:=FB x y z d k
theorem Yu(x y z:UInt8)(d:Bool)(k:Nat):(Ea x++List.replicate k (iV 0)++Ic x y z d)[17+k-3]?=some ⟨0,1,[y]⟩:=FB x y z d k
theorem XA(x y z:UInt8)(d:Bool)(k:Nat):(Ea x++List.replicate k (iV 0)++Ic x y z d)[17+k-2]?=some ⟨0,1,[if d then y else x]⟩:=FB x y z d k
theorem YZ(x y z:UInt8)(d:Bool)(k:Nat):(Ea x++List.replicate k (iV 0)++Ic x y z d)[17+k-1]?=some ⟨0,1,[if d then y else 0]⟩:=FB x y z d k
theorem VE(x y z:UInt8)(E:Bool)(st:Int)(w:World):Calls Tryz.prog 3 #[.int .u8 x.toNat,.int .u8 y.toNat,.int .u8 z.toNat,.bool E,.int .i64 st] w λr w'=>r = .returned (.bool true)/\Below w.heap.size w w':=by
 go_enter func3,ntmps3;go_upto_region 1 with(fail)
 go_wp2_with fail
 refine(Ni _).mono ?_;rintro r w1 ⟨rfl,hp⟩
 by_cases h1:st<0
 ·go_wp2;go_ret;exact⟨rfl,hp⟩
 by_cases h2:6<st
 ·go_wp2;go_ret;exact⟨rfl,hp⟩
 by_cases q3:((x.toNat:Int)==255)=true
 ·go_wp2;go_ret;exact⟨rfl,hp⟩
 replace q3:=zA.2 q3
 by_cases q4:((y.toNat:Int)==255)=true
 ·go_wp2;go_ret;exact⟨rfl,hp⟩
 replace q4:=zA.2 q4
 by_cases q5:((z.toNat:Int)==255)=true
 ·go_wp2;go_ret;exact⟨rfl,hp⟩
 replace q5:=zA.2 q5;go_upto_region 5 with(fail);simp only[decide_eq_false (show ¬st<0 by omega),decide_eq_false (show ¬6<st by omega),q3,q4,q5,Bool.or_false];obtain⟨n,rfl⟩:∃n:Nat,st=n:=⟨st.toNat,by omega⟩;have kh : Hid (n<=6):=ae (by omega);clear q3 q4 q5 h1 h2
 go_wp2_with fail
 refine(FQ 0 1 _).mono ?_;rintro r w2 ⟨rfl,ke⟩;unfold kN vV;simp only[mf,pR];have h5:=ah hp ke;clear ke hp
 go_wp2_with fail
 refine(UH 0 1 1 E _).mono ?_;rintro r w3 ⟨rfl,kd⟩;unfold kN TN;simp only[mf,pR];have hI:=ah h5 kd;clear h5 kd
 go_wp2_with fail
 refine(uo 0 2 x _).mono ?_;rintro r w4 ⟨g4,rfl,C,kc⟩;unfold kN nH;simp only[mf,pR];replace C:=C.mono hI.size;have hC:=ah hI kc;clear hI kc
 go_wp2_with fail
 refine(uo 0 10 x _).mono ?_;rintro r w5 ⟨g5,rfl,D,hq⟩;unfold kN nH;simp only[mf,pR];replace C:=C.below hq;replace D:=D.mono hC.size;have hg:=ah hC hq;clear hC hq
 go_wp2_with fail
 refine(qO 1 2 _).mono ?_;rintro r w6 ⟨rfl,hh⟩;unfold kN gY;simp only[mf,pR];replace C:=C.below hh;replace D:=D.below hh;have hf:=ah hg hh;clear hg hh
 go_wp2_with fail
 refine(qO 1 10 _).mono ?_;rintro r w7 ⟨rfl,h3⟩;unfold kN gY;simp only[mf,pR];replace C:=C.below h3;replace D:=D.below h3;have hB:=ah hf h3;clear hf h3
 go_wp2_with fail
 refine(uo 0 2 y _).mono ?_;rintro r w8 ⟨g8,rfl,V,h0⟩;unfold kN nH;simp only[mf,pR];replace C:=C.below h0;replace D:=D.below h0;replace V:=V.mono hB.size;have hA:=ah hB h0;clear hB h0
 go_wp2_with fail
 refine(uo 1 2 z _).mono ?_;rintro r w9 ⟨g9,rfl,o9,hO⟩;unfold kN nH;simp only[mf,pR];replace C:=C.below hO;replace D:=D.below hO;replace V:=V.below hO;replace o9:=o9.mono hA.size;have hz:=ah hA hO;clear hA hO
 go_wp2_with fail
 refine(uo 0 10 y _).mono ?_;rintro r w10 ⟨g10,rfl,H,s⟩;unfold kN nH;simp only[mf,pR];replace C:=C.below s;replace D:=D.below s;replace V:=V.below s;replace o9:=o9.below s;replace H:=H.mono hz.size;have hn:=ah hz s;clear hz s;go_upto_region 7 with(fail);refine iP (λW=>Code.wp _ _ _ _ W) λw11 q bx hs => ?_;clear hs;replace C:=C.below q;replace D:=D.below q;replace V:=V.below q;replace o9:=o9.below q;replace H:=H.below q;have Y:=ah hn q;have h4:=pV.of_blk (B:=w.heap.size) (l:=[⟨creCl,none,0⟩,⟨Zm 8,none,0⟩,⟨vV 0 1,none,0⟩,⟨TN 0 1 1 E,none,0⟩,⟨nH 0 2 x,some ⟨g4,0,none⟩,1⟩,⟨nH 0 10 x,some ⟨g5,0,none⟩,1⟩,⟨forkCl,none,0⟩,⟨gY 1 2,none,0⟩,⟨gY 1 10,none,0⟩,⟨nH 0 2 y,some ⟨g8,0,none⟩,1⟩,⟨nH 1 2 z,some ⟨g9,0,none⟩,1⟩,⟨nH 0 10 y,some ⟨g10,0,none⟩,1⟩]) bx hn.size rfl (by show(12:Nat)<=100;decide) (λc A=>by
  simp only[fq,kZ,or_false]at A;rcases A with rfl|rfl|rfl|rfl|rfl|rfl|rfl|rfl|rfl|rfl|rfl|rfl
  ·exact Own.nil _ _ _ _
  ·exact Own.nil _ _ _ _
  ·exact Own.nil _ _ _ _
  ·exact Own.nil _ _ _ _
  ·exact C
  ·exact D
  ·exact Own.nil _ _ _ _
  ·exact Own.nil _ _ _ _
  ·exact Own.nil _ _ _ _
  ·exact V
  ·exact o9
  ·exact H) (λc A=>by
  simp only[fq,kZ,or_false]at A;rcases A with rfl|rfl|rfl|rfl|rfl|rfl|rfl|rfl|rfl|rfl|rfl|rfl
  ·exact(by unfold iF;decide:iF 0/\iF 0)
  ·exact(by unfold iF;decide:iF 0/\iF 8)
  ·exact(by unfold iF;decide:iF 0/\iF 1)
  ·exact(by unfold iF;decide:iF 1/\iF 1)
  ·exact(by unfold iF;decide:iF 2/\iF 0)
  ·exact(by unfold iF;decide:iF 10/\iF 0)
  ·exact(by unfold iF;decide:iF 0/\iF 0)
  ·exact(by unfold iF;decide:iF 2/\iF 1)
  ·exact(by unfold iF;decide:iF 10/\iF 1)
  ·exact(by unfold iF;decide:iF 2/\iF 0)
  ·exact(by unfold iF;decide:iF 2/\iF 0)
  ·exact(by unfold iF;decide:iF 10/\iF 0))
 clear hn q bx C D V o9 H
 go_loopw [56,11] (fun s56 s11 wr => ∃(k:Nat) (L:List Cr),k<=n/\s56 = .int .i64 k/\Below w.heap.size w wr/\pV wr w.heap.size s11 L/\Hid (L.map Cr.c=xS x y z E++List.replicate k (oK 13 0)/\L.length=12+k)) (fun s56 _ _=>n-(intOf s56).toNat)
 case atStart=>exact⟨0,_,bN _,rfl,Y,h4,ae ⟨rfl,rfl⟩⟩
 case round=>
  clear Y h4;obtain⟨k,L,hk,rfl,Y,A,hL⟩:=hrel;have kk:=kh.out;obtain⟨av,cv,rfl,hv,hr⟩:=A.rd
  by_cases hkl:k<n
  ·have kl:(k:Int)<(n:Int):=by omega
   clear hv hr;have ho:=A.own;have kf:L.length<=50:=by have:=hL.out.2;omega
   go_wp2_with (at_builtin;go_must (refine nk rfl _ _ 29 rfl w.heap.size 25 _ 10 80 underlying29 call_info rfl _ L.length _ rfl (ho.alloc _) (some ⟨wr.heap.size,0,none⟩) 1 1 (Xq ⟨oK 13 0,none,0⟩) rfl (λh=>(by cases h)) (aC _) rfl (eD.new _ #[.int .i64 13,.int .i64 0,.int .i64 0,.int .i64 0,.int .i64 0,.int .i64 0,.bool false,.bool false,.bool false,.slice none 0 0] _) (gH (xJ _ _ _)) (by unfold maxLen;omega) (by omega) (eO Y.size) ?_))
   intro v2 wa own2 hl ht;have X:=(Below.refl wr.heap.size wr).alloc (aC _) (.cells #[.int .i64 13,.int .i64 0,.int .i64 0,.int .i64 0,.int .i64 0,.int .i64 0,.bool false,.bool false,.bool false,.slice none 0 0] 25);have hy:=A.below X;have hw:pV wa w.heap.size v2 (L++[⟨oK 13 0,none,0⟩]):=by refine hy.more (λx G=>by rw[bF.1 G];exact Own.nil _ _ _ _) (λx G=>by rw[bF.1 G];unfold iF;decide) hl ?_;rw[List.flatMap_singleton];exact own2
   have hd:Below w.heap.size w wa:=(ah Y X).grown hl (ah Y X).size (λk hk=>ho.ge k hk);have hi:Hid ((L++[(⟨oK 13 0,none,0⟩:Cr)]).map Cr.c=xS x y z E++List.replicate (k+1) (oK 13 0)/\(L++[(⟨oK 13 0,none,0⟩:Cr)]).length=12+(k+1)):=ae ⟨by
    rw[jL,hL.out.1,JM,lF];rfl,by rw[fI,hL.out.2];rfl⟩
   clear A ho X hy own2 hl ht Y;go_wp2;go_roundw
   case rel=>exact⟨k+1,_,by omega,by go_num,hd,hw,hi⟩
   case measure=>simp[intOf];omega
  have ki:k=n:=by omega
  subst ki;have kj : ¬(k:Int)<(k:Int):=by omega
  clear hv hr
  go_wp2_with fail
  refine(qO 0 2 _).mono ?_;rintro r w21 ⟨rfl,hY⟩;unfold kN gY;simp only[mf];replace A:=A.below hY;have hN:=ah Y hY;clear Y hY
  go_wp2_with fail
  refine(qO 1 2 _).mono ?_;rintro r w22 ⟨rfl,hX⟩;unfold kN gY;simp only[mf];replace A:=A.below hX;have hM:=ah hN hX;clear hN hX
  go_wp2_with fail
  refine(qO 0 10 _).mono ?_;rintro r w23 ⟨rfl,hW⟩;unfold kN gY;simp only[mf];replace A:=A.below hW;have hJ:=ah hM hW;clear hM hW
  go_wp2_with fail
  refine(qO 1 10 _).mono ?_;rintro r w24 ⟨rfl,hV⟩;unfold kN gY;simp only[mf];replace A:=A.below hV;have v:=ah hJ hV;clear hJ hV;have ho:=A.own;have kf:L.length<=50:=by have:=hL.out.2;omega
  go_wp2_with (at_builtin;go_must (refine nk rfl _ _ 29 rfl w.heap.size 25 _ 10 80 underlying29 call_info rfl _ L.length _ rfl (ho.alloc _) (some ⟨w24.heap.size,0,none⟩) 5 5 (([⟨gY 0 2,none,0⟩,⟨gY 1 2,none,0⟩,⟨gY 0 10,none,0⟩,⟨gY 1 10,none,0⟩,⟨Jj 2 1,none,0⟩]:List Cr).flatMap Xq) rfl (λh=>(by cases h)) (aC _) rfl (eD.new _ #[.int .i64 4,.int .i64 0,.int .i64 2,.int .i64 1,.int .i64 0,.int .i64 0,.bool false,.bool false,.bool false,.slice none 0 0,.int .i64 4,.int .i64 1,.int .i64 2,.int .i64 1,.int .i64 0,.int .i64 0,.bool false,.bool false,.bool false,.slice none 0 0,.int .i64 4,.int .i64 0,.int .i64 10,.int .i64 1,.int .i64 0,.int .i64 0,.bool false,.bool false,.bool false,.slice none 0 0,.int .i64 4,.int .i64 1,.int .i64 10,.int .i64 1,.int .i64 0,.int .i64 0,.bool false,.bool false,.bool false,.slice none 0 0,.int .i64 9,.int .i64 0,.int .i64 2,.int .i64 1,.int .i64 0,.int .i64 0,.bool false,.bool false,.bool false,.slice none 0 0] _) (λu hu=>by rw[jS]at hu;obtain⟨x,_,hu⟩:=hu;exact gH (xJ _ _ _) u hu) (by unfold maxLen;omega) (by omega) (eO v.size) ?_))
  intro v2 wa own2 hl ht;have X:=(Below.refl w24.heap.size w24).alloc (aC _) (.cells #[.int .i64 4,.int .i64 0,.int .i64 2,.int .i64 1,.int .i64 0,.int .i64 0,.bool false,.bool false,.bool false,.slice none 0 0,.int .i64 4,.int .i64 1,.int .i64 2,.int .i64 1,.int .i64 0,.int .i64 0,.bool false,.bool false,.bool false,.slice none 0 0,.int .i64 4,.int .i64 0,.int .i64 10,.int .i64 1,.int .i64 0,.int .i64 0,.bool false,.bool false,.bool false,.slice none 0 0,.int .i64 4,.int .i64 1,.int .i64 10,.int .i64 1,.int .i64 0,.int .i64 0,.bool false,.bool false,.bool false,.slice none 0 0,.int .i64 9,.int .i64 0,.int .i64 2,.int .i64 1,.int .i64 0,.int .i64 0,.bool false,.bool false,.bool false,.slice none 0 0] 25);have hy:=A.below X;have hw:pV wa w.heap.size v2 (L++[⟨gY 0 2,none,0⟩,⟨gY 1 2,none,0⟩,⟨gY 0 10,none,0⟩,⟨gY 1 10,none,0⟩,⟨Jj 2 1,none,0⟩]):=by
   refine hy.more (λc G => ?_) (λc G => ?_) hl own2
   ·simp only[fq,kZ,or_false]at G;rcases G with rfl|rfl|rfl|rfl|rfl<;>exact Own.nil _ _ _ _
   simp only[fq,kZ,or_false]at G;rcases G with rfl|rfl|rfl|rfl|rfl<;>(unfold iF;decide)
  have hd:Below w.heap.size w wa:=(ah v X).grown hl (ah v X).size (λk hk=>ho.ge k hk);have hi:Hid ((L++([⟨gY 0 2,none,0⟩,⟨gY 1 2,none,0⟩,⟨gY 0 10,none,0⟩,⟨gY 1 10,none,0⟩,⟨Jj 2 1,none,0⟩]:List Cr)).map Cr.c=xS x y z E++List.replicate k (oK 13 0)++frkM/\(L++([⟨gY 0 2,none,0⟩,⟨gY 1 2,none,0⟩,⟨gY 0 10,none,0⟩,⟨gY 1 10,none,0⟩,⟨Jj 2 1,none,0⟩]:List Cr)).length=17+k):=ae ⟨by
   rw[jL,hL.out.1];rfl,by rw[fI,hL.out.2];show 12+k+5=_;omega⟩
  obtain⟨K,hK⟩:∃K:List Cr,Hid (L++([⟨gY 0 2,none,0⟩,⟨gY 1 2,none,0⟩,⟨gY 0 10,none,0⟩,⟨gY 1 10,none,0⟩,⟨Jj 2 1,none,0⟩]:List Cr)=K):=⟨_,ae rfl⟩;rw[hK.out]at hw hi;clear hK A ho X hy own2 hl ht v hL kf;obtain⟨av2,cv2,rfl,hv,hr⟩:=hw.rd;go_upto_region 11 with(fail);have hj:∀x∈K,x.c.k∈([8,11,1,5,6,4,13,9]:List Int):=λc G=>by
   have h:c.c∈K.map Cr.c:=fD.2 ⟨c,G,rfl⟩;rw[hi.out.1]at h;rcases ik.1 h with h|h
   ·rcases ik.1 h with h|h
    ·exact Lv x y z E _ h
    ·rw[(vD.1 h).2];decide
   ·exact frk_kind2 _ h
  have hP:=ae (Jn 6 6 4 av2 cv2 K _ (by decide) hv hr (λc G=>aak (hj c G)) (λc G m hG=>Zd (hj c G) hG));have hZ:Hid (K.length=17+k):=ae hi.out.2;clear hj hv hr
  go_wp2_with fail
  refine hP.out.mono ?_;rintro r w5 ⟨hq,H5,vv,Z,e,rfl,kg,a,h6⟩;rcases h6 with⟨hbad,_⟩|⟨_,_,rfl,hm5,hal5⟩
  ·exfalso;have h2:=hi.out.2;rw[fE]at hbad;omega
  have d:Hid (Z.map Prod.fst=Ea x++List.replicate k (iV 0)++Ic x y z E):=ae (by rw[hal5,hi.out.1];exact XW x y z E k);have hg:=ah hd hq;have f:Hid (Z.length=17+k):=ae (by have:=congrArg List.length d.out;rw[fE,fI,fI,mY]at this;rw[this];show 12+k+5=_;omega);obtain⟨av5,cv5,rfl,_⟩:=a.own.rd;obtain⟨b,o,rfl⟩:=ZW a d.out (by simp[Ea]);replace a:=a.mono hd.size;clear hP hd hw hq kg hm5 hal5 hi
  go_wp2_with (refine aT (bS H5) mach_size (dQ _) ?_)
  intro w6 hh mx6;replace a:=a.below hh;have hf:=ah hg hh;clear hg hh mx6;have l7:(7:Int)<(Z.length:Int):=by have:=f.out;omega
  have l8:(8:Int)<(Z.length:Int):=by have:=f.out;omega
  obtain⟨i5,h7⟩:∃i:Nat,i=17+k-5:=⟨_,rfl⟩;have e5:IntKind.i64.wrap ((K.length:Int)-5)=(i5:Int):=by have:=hZ.out;rw[dz _ (by omega)];omega
  have l25:(i5:Int)<(Z.length:Int):=by have:=f.out;omega
  have f5:=ae (Zc x y z E k);rw[<-h7]at f5;obtain⟨i4,h8⟩:∃i:Nat,i=17+k-4:=⟨_,rfl⟩;have e4:IntKind.i64.wrap ((K.length:Int)-4)=(i4:Int):=by have:=hZ.out;rw[dz _ (by omega)];omega
  have l24:(i4:Int)<(Z.length:Int):=by have:=f.out;omega
  have f4:=ae (XC x y z E k);rw[<-h8]at f4;obtain⟨i3,h9⟩:∃i:Nat,i=17+k-3:=⟨_,rfl⟩;have e3:IntKind.i64.wrap ((K.length:Int)-3)=(i3:Int):=by have:=hZ.out;rw[dz _ (by omega)];omega
  have l23:(i3:Int)<(Z.length:Int):=by have:=f.out;omega
  have f3:=ae (Yu x y z E k);rw[<-h9]at f3;obtain⟨i2,ka⟩:∃i:Nat,i=17+k-2:=⟨_,rfl⟩;have e2:IntKind.i64.wrap ((K.length:Int)-2)=(i2:Int):=by have:=hZ.out;rw[dz _ (by omega)];omega
  have l22:(i2:Int)<(Z.length:Int):=by have:=f.out;omega
  have f2:=ae (XA x y z E k);rw[<-ka]at f2;obtain⟨i1,kb⟩:∃i:Nat,i=17+k-1:=⟨_,rfl⟩;have e1:IntKind.i64.wrap ((K.length:Int)-1)=(i1:Int):=by have:=hZ.out;rw[dz _ (by omega)];omega
  have l21:(i1:Int)<(Z.length:Int):=by have:=f.out;omega
  have f1:=ae (YZ x y z E k);rw[<-kb]at f1;clear h7 h8 h9 ka kb;obtain⟨ad31,cd31,r31,s31,t31⟩:=wR (i:=7) (x:=⟨0,1,[x]⟩) a d.out rfl
  go_wp2_with (refine ay b (o+7*3) _ r31 _ underlying54 rfl ans_size ?_)
  refine(jB ⟨0,1,[x]⟩ ad31 cd31 _ s31 t31).mono ?_;rintro r w31 ⟨rfl,hU⟩;rw[show nL ⟨0,1,[x]⟩=x from rfl];replace a:=a.below hU;have hH:=ah hf hU;clear hf hU r31 s31 t31;obtain⟨ad32,cd32,r32,s32,t32⟩:=wR (i:=8) (x:=⟨0,1,[x]⟩) a d.out rfl
  go_wp2_with (refine ay b (o+8*3) _ r32 _ underlying54 rfl ans_size ?_)
  refine(jB ⟨0,1,[x]⟩ ad32 cd32 _ s32 t32).mono ?_;rintro r w32 ⟨rfl,hT⟩;rw[show nL ⟨0,1,[x]⟩=x from rfl];replace a:=a.below hT;have hF:=ah hH hT;clear hH hT r32 s32 t32;obtain⟨ad33,cd33,r33,s33,t33⟩:=wR (i:=i5) (x:=⟨0,1,[y]⟩) a d.out f5.out
  go_wp2_with (refine ay b (o+i5*3) _ r33 _ underlying54 rfl ans_size ?_)
  refine(jB ⟨0,1,[y]⟩ ad33 cd33 _ s33 t33).mono ?_;rintro r w33 ⟨rfl,hS⟩;rw[show nL ⟨0,1,[y]⟩=y from rfl];replace a:=a.below hS;have hE:=ah hF hS;clear hF hS r33 s33 t33;obtain⟨ad34,cd34,r34,s34,t34⟩:=wR (i:=i4) (x:=⟨0,1,[z]⟩) a d.out f4.out
  go_wp2_with (refine ay b (o+i4*3) _ r34 _ underlying54 rfl ans_size ?_)
  refine(jB ⟨0,1,[z]⟩ ad34 cd34 _ s34 t34).mono ?_;rintro r w34 ⟨rfl,hR⟩;rw[show nL ⟨0,1,[z]⟩=z from rfl];replace a:=a.below hR;have hD:=ah hE hR;clear hE hR r34 s34 t34;obtain⟨ad35,cd35,r35,s35,t35⟩:=wR (i:=i3) (x:=⟨0,1,[y]⟩) a d.out f3.out
  go_wp2_with (refine ay b (o+i3*3) _ r35 _ underlying54 rfl ans_size ?_)
  refine(jB ⟨0,1,[y]⟩ ad35 cd35 _ s35 t35).mono ?_;rintro r w35 ⟨rfl,hQ⟩;rw[show nL ⟨0,1,[y]⟩=y from rfl];replace a:=a.below hQ;have t:=ah hD hQ;clear hD hQ r35 s35 t35;cases E with
  | true=>
   obtain⟨U,R,P,N,J⟩:=wR (i:=i2) (x:=⟨0,1,[y]⟩) a d.out f2.out
   go_wp2_with (refine ay b (o+i2*3) _ P _ underlying54 rfl ans_size ?_)
   refine(jB ⟨0,1,[y]⟩ U R _ N J).mono ?_;rintro r w36 ⟨rfl,p⟩;rw[show nL ⟨0,1,[y]⟩=y from rfl];replace a:=a.below p;have g:=ah t p;clear t p P N J;obtain⟨S,Q,O,M,I⟩:=wR (i:=i1) (x:=⟨0,1,[y]⟩) a d.out f1.out
   go_wp2_with (refine ay b (o+i1*3) _ O _ underlying54 rfl ans_size ?_)
   refine(jB ⟨0,1,[y]⟩ S Q _ M I).mono ?_;rintro r w37 ⟨rfl,j⟩;rw[show nL ⟨0,1,[y]⟩=y from rfl];replace a:=a.below j;have hm:=ah g j;clear g j O M I;go_wp2;go_ret;exact⟨rfl,hm⟩
  | false=>
   obtain⟨U,R,P,N,J⟩:=wR (i:=i2) (x:=⟨0,1,[x]⟩) a d.out f2.out
   go_wp2_with (refine ay b (o+i2*3) _ P _ underlying54 rfl ans_size ?_)
   refine(jB ⟨0,1,[x]⟩ U R _ N J).mono ?_;rintro r w36 ⟨rfl,p⟩;rw[show nL ⟨0,1,[x]⟩=x from rfl];replace a:=a.below p;have g:=ah t p;clear t p P N J;obtain⟨S,Q,O,M,I⟩:=wR (i:=i1) (x:=⟨0,1,[0]⟩) a d.out f1.out
   go_wp2_with (refine ay b (o+i1*3) _ O _ underlying54 rfl ans_size ?_)
   refine(jB ⟨0,1,[0]⟩ S Q _ M I).mono ?_;rintro r w37 ⟨rfl,j⟩;rw[show nL ⟨0,1,[0]⟩=0 from rfl];replace a:=a.below j;have hm:=ah g j;clear g j O M I;go_wp2;go_ret;exact⟨rfl,hm⟩
end Go.Proofs.YthihaopabbpalaaGreat