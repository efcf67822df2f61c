import Derived.Test.YthihaopabbpalaaGreatA6
import Derived.BigRegion
set_option linter.unusedSimpArgs false
set_option linter.unusedVariables false
set_option linter.unnecessarySimpa false
set_option maxHeartbeats 4000000
set_option maxRecDepth 100000
namespace Go.Proofs.YthihaopabbpalaaGreat
open _root_.Go.Proofs.Tryz
open Go.RowKit Go.Maps Pw
variable {B B' b c c' g i n' sz:Nat} {L L':Nat -> Bool} {Q:Exit -> Act -> World -> Prop} {S S' S0:MW} {T e:TypeId} {W w w' w0 w1 w2:World} {a a':Option Addr} {cs:Array Value} {o:Oper} {ops:Array Oper} {rest:List Oper} {sp:List PS} {xs:List Value} {y:Nat -> Value}
theorem Rk{l:List Ar}{x:Ar}(h:Ca l x=0):(l.length<=16/\okF none l)/\aX x=0/\(∀a∈l,qQ x a=false)/\(um (Es l x)).length<=16/\zD l x=um (Es l x):=by
 have n:=h;unfold Ca at h
 by_cases d:(bQ l).1=0
 ·rw[if_neg (by omega)]at h
  by_cases j:aX x=0
  ·rw[if_neg (by omega)]at h;cases hm:l.any (qQ x)
   ·rw[hm,if_neg (by simp)]at h;refine⟨iX.1 d,j,λa k => ?_,?_,?_⟩
    ·have:=uY.1 hm a k;simpa using this
    ·split at h
     ·omega
     ·omega
    ·unfold zD;rw[if_neg (by omega)]
   ·rw[hm,if_pos rfl]at h;omega
  ·rw[if_pos j]at h;exact absurd h j
 ·rw[if_pos d]at h;exact absurd h d
theorem Nf{l:List Ar}{x:Ar}(h:Ca l x=0):(zD l x).length<=16/\okF none (zD l x)/\∀n,onA (zD l x) n=if pU n x then some (kS x n)else onA l n:=by
 obtain⟨⟨E,h2⟩,d,A,u,D⟩:=Rk h;have j:=lK h2;have C:=(bM d).1.2.1.1;have k:=Fj d j C A;rw[D];rw[Dr]at u ⊢;exact⟨u,Jd k,λn=>by rw[JJ k,Jp d n j A]⟩
def OI(S:MW):Prop:=∀p∈S.H.sp,∀n g,onA p.ar n=some g->g.fi<S.H.fi.length
structure More (S S' : MW):Prop where
 bd:Bd S'.H.ma S'.T
 fm:OI S'
 fi:S'.H.fi=S.H.fi
 ct:S'.H.ct=S.H.ct
 dk:S'.H.dk=S.H.dk
 sp:S'.H.sp.length=S.H.sp.length+1
 fs:S'.H.m.fs.length=S.H.m.fs.length
def SpaceR(S:MW)(B b:Nat)(w:World)(r:Ending)(w' : World):Prop:=∃S',r = .returned (.tuple #[])/\fF w' B b S'/\MS w b S w' S'/\More S S' /\
 (S.l=[]->S'.l=[]/\S'.H.ma = { S.H.ma with sp:=S.H.ma.sp++[⟨true,[],zTb⟩] }/\S'.T=S.T++[List.replicate 64 zEn])
theorem fF.kb_ne(h:fF w B b S){x:Nat}(k:aG w x cs T)
 (M:T≠98/\T≠66/\T≠3/\T≠58/\T≠105/\T≠101/\T≠122/\T≠76/\T≠69):¬nS b S x:=by
 obtain⟨I,H,G,j,E,D,C,A,u⟩:=M;have own:∀ {e:TypeId} {sz n c:Nat} {a:Option Addr} {xs:List Value},T≠e->Own w B e sz (.slice a n c) n xs->oB a=some x->False:=λJ K d=>by obtain⟨_,cs',h2⟩:=jf K d;exact mG k h2 J rfl
 intro d;rcases d with d|d
 ·subst d;exact mG k h.blk I rfl
 simp only[iZ,dz,ib,or_false]at d;rcases d with d|d|d|d|d|d|d|d|d
 ·exact own H h.ma.fr d.symm
 ·exact own G h.ma.sl d.symm
 ·exact own j h.ma.sw.b d.symm
 ·exact own j h.ma.dk.b d.symm
 ·exact own E h.ma.dk.q d.symm
 ·exact own D h.ma.st.own d.symm
 ·exact own C h.ma.ca d.symm
 ·exact own A h.ma.sp d.symm
 ·exact own u h.tt d.symm
theorem fF.own_not(h:fF w B b S){n:Nat}(j:Own w B' e sz (.slice a n c) n xs)
 (u:e≠98/\e≠66/\e≠3/\e≠58/\e≠105/\e≠101/\e≠122/\e≠76/\e≠69):∀x,(Value.slice a n c).ownBlock=some x->¬nS b S x:=λx d=>by
 obtain⟨cs,k⟩:=mQ j x d;exact h.kb_ne k u
theorem fF.locA(h:fF w B b S)(E:aG w g cs 94)(D:¬nS b S g)(A:∀p∈S.H.sp,oB p.aa≠some g)(C:B<=g)(j:w.grownBy w' (some g)):fF w' B b S:=by
 have d:∀ {a:Option Addr},oB a∈iZ S->∀n c g',(Value.slice a n c).ownBlock=some g'->some g≠some g':=λG n c g' k e=>by cases e;rw[jF]at k;exact D (.inr (by rw[<-k];exact G))
 exact⟨h.blk.grown j (λe=>D (.inl (aM e))),h.ge,⟨h.ma.fr.grown j (d (by simp[iZ]) _ _),h.ma.sl.grown j (d (by simp[iZ]) _ _),⟨h.ma.sw.b.grown j (d (by simp[iZ]) _ _),h.ma.sw.q.grown j (λg' k=>by rw[h.n3]at k;cases k)⟩,⟨h.ma.dk.b.grown j (d (by simp[iZ]) _ _),h.ma.dk.q.grown j (d (by simp[iZ]) _ _)⟩,
  ⟨h.ma.st.own.grown j (d (by simp[iZ]) _ _),λi p u=>ax (h.ma.st.each i p u) E j,h.ma.st.apart⟩,h.ma.ca.grown j (d (by simp[iZ]) _ _),h.ma.sp.grown j (d (by simp[iZ]) _ _),λp u=>⟨(h.ma.ps p u).1.grown j (λg' k e=>by cases e;rw[jF]at k;exact A p u k),(h.ma.ps p u).2.keep E (by decide) j⟩,h.ma.c64⟩,
  h.tt.grown j (d (by simp[iZ]) _ _),h.rd.keep h.ra h.bs j C,h.ra,h.n1,h.n2,h.n3⟩
theorem fF.newA(h:fF w B b S){x:Nat}(k:w.heap.size<=x):∀p∈S.H.sp,oB p.aa≠some x:=λp d j=>by
 have:=(jf (h.ma.ps p d).1 j).2.choose_spec.lt;omega
def ME(S:MW)(B b:Nat)(w:World)(i:Nat)(cs:Array Value)(T:TypeId):(Nat->Bool)->(Nat->Value)->World->Prop:=λL y W=>
 Mk S B b w [] L y W/\(L i=true->∃g,y i = .pointer (some ⟨g,0,none⟩)/\aG W g cs T/\¬nS b S g/\w.heap.size<=g)
theorem kD :∀L y W W',Below W.heap.size W W'->ME S B b w i cs T L y W->ME S B b w i cs T L y W':=
 λ_ _ _ _ hb ⟨h1,h2⟩=>⟨aK _ _ _ _ hb h1,λd=>by obtain⟨g,k,j,h⟩:=h2 d;exact⟨g,k,j.ext hb,h⟩⟩
theorem Uy(j:fF w B b S)(h:ME S B b w i cs T L y W):ME S B b w i cs T (dS L i) (fG y i (.pointer (some ⟨W.heap.size,0,none⟩))) (W.alloc (.cells cs T)):=by
 have d:w.heap.size<=W.heap.size:=by obtain⟨⟨a,c,l,n,h2,k⟩,_⟩:=h;exact h2.size
 exact⟨aK _ _ _ _ ((Below.refl _ _).alloc (az _) _) h.1,λ_=>⟨W.heap.size,by unfold fG;rw[if_pos rfl],aG.new _ _ _,j.new d,d⟩⟩
theorem yx{y' : Value->Nat->Value}(G:L' i=L i)(n:Int)(h:ME S B b w i cs T L y W){R:Value->World->Prop}(E:∀x:Int,0<=x->x<256->(x<n\/x=0)->∀W',R (.int .i64 x) W')(A:∀v,y' v i=y i:=by exact(λ_=>rfl))(hn: -9223372036854775808<=n/\n<=9223372036854775807:=by omega) :
  Calls Tryz.prog 32 #[.pointer (some ⟨b,0,none⟩),.int .i64 n] W λe W' => ∃v,e = .returned v/\ME S B b w i cs T L' (y' v) W'/\R v W':=by
 obtain⟨⟨a,c,l,I,h2,N⟩,H⟩:=h;refine(fZ _ n B b W I (hn:=hn)).mono ?_;rintro r W' ⟨x,a',c',u,rfl,k1,j,d,_⟩;exact⟨_,rfl,⟨⟨a',c',u,k1,h2.trans j,λt C=>(by cases C)⟩,λD=>by obtain⟨g,M,K,k,J⟩:=H (by rw[<-G];exact D);exact⟨g,by rw[A];exact M,j.blkN K k,k,J⟩⟩,E x d.1 d.2.1 d.2.2 W'⟩
theorem tJ{n:Nat}(j:Own w B e sz (.slice a n c) n xs)(d:w.grownBy w' (Value.slice a n c).ownBlock):Below w.heap.size w w'\/∃g cs,aG w g cs e/\oB a=some g/\w.grownBy w' (some g):=by
 cases h:(Value.slice a n c).ownBlock with
 | none=>rw[h]at d;exact .inl (lm d)
 | some g=>
  rw[h]at d;obtain⟨cs,k⟩:=mQ j g h;exact .inr ⟨g,cs,k,by rw[<-jF a n c];exact h,d⟩
theorem fF.appP(h:fF w B b S)(V:w.grownBy w1 (Value.slice S.H.ap S.H.sp.length S.H.cp).ownBlock){l:List PS}(U:Own w1 B 76 10 (.slice a l.length c) l.length (l.flatMap ug))
 (G:∀p∈l,Own w1 B 94 7 (.slice p.aa p.ar.length p.ac) p.ar.length (p.ar.flatMap mV)/\sM w1 B (nT p.ts) p.tb) (X:aG w2 b (bH (jI S) 11 [.slice a l.length c]) 98) (j:w1.grownBy w2 (some b)) :
  fF w2 B b { S with H:={ S.H with ap:=a,cp:=c,sp:=l } }:=by
 have C:aG w1 b (jI S) 98/\Own w1 B 66 13 (.slice S.H.af S.H.m.fs.length S.H.cf) S.H.m.fs.length (S.H.m.fs.flatMap ni)/\Own w1 B 3 1 (.slice S.H.asl S.H.sl.length S.H.csl) S.H.sl.length (S.H.sl.map gF) /\
   mZ w1 B (.slice S.H.wb S.H.sw.blocks.length S.H.cwb) (.slice S.H.wq S.H.sw.queue.length S.H.cwq) S.H.sw/\mZ w1 B (.slice S.H.db S.H.dk.blocks.length S.H.cdb) (.slice S.H.dq S.H.dk.queue.length S.H.cdq) S.H.dk/\rC w1 B (.slice S.H.ai S.H.fi.length S.H.ci) S.H.fi /\
   Own w1 B 122 3 (.slice S.H.ac S.H.ca.length S.H.cc) S.H.ca.length (S.H.ca.flatMap iL)/\Own w1 B 69 192 (.slice S.ab S.T.length S.cb) S.T.length (S.T.flatMap tL)/\vG w1 S.al S.cl S.l.length (S.l.map zS):=by
  rcases tJ h.ma.sp V with E|⟨g,cs,A,D,k⟩
  ·have u:=h.below E;exact⟨u.blk,u.ma.fr,u.ma.sl,u.ma.sw,u.ma.dk,u.ma.st,u.ma.ca,u.tt,u.rd⟩
  ·exact⟨cB h.blk A k,ax h.ma.fr A k,ax h.ma.sl A k,h.ma.sw.keep A (by decide) (by decide) k,h.ma.dk.keep A (by decide) (by decide) k,h.ma.st.keep A (by decide) (by decide) k,ax h.ma.ca A k,ax h.tt A k,h.rd.keep h.ra h.bs k (jf h.ma.sp D).1⟩
 obtain⟨n,k1,R,O,N,M,K,J,I⟩:=C;exact⟨X,h.ge,⟨ax k1 n j,ax R n j,O.keep n (by decide) (by decide) j,N.keep n (by decide) (by decide) j,M.keep n (by decide) (by decide) j,ax K n j,ax U n j,λp d=>⟨ax (G p d).1 n j,(G p d).2.keep n (by decide) j⟩,h.ma.c64⟩,
  ax J n j,I.keep h.ra (bi h.ge (rU n.lt)) j h.ge,h.ra,h.n1,h.n2,h.n3⟩
theorem fF.appT(h:fF w B b S)(I:w.grownBy w1 (Value.slice S.ab S.T.length S.cb).ownBlock){T:List (List En)}(G:Own w1 B 69 192 (.slice a T.length c) T.length (T.flatMap tL))
 (J:aG w2 b (bH (jI S) 12 [.slice a T.length c]) 98) (d:w1.grownBy w2 (some b)):fF w2 B b { S with ab:=a,cb:=c,T:=T }:=by
 have k:aG w1 b (jI S) 98/\tT w1 B S.H/\vG w1 S.al S.cl S.l.length (S.l.map zS):=by
  rcases tJ h.tt I with A|⟨g,cs,D,u,j⟩
  ·have C:=h.below A;exact⟨C.blk,C.ma,C.rd⟩
  ·exact⟨cB h.blk D j,h.ma.keep D (by decide) j,h.rd.keep h.ra h.bs j (jf h.tt u).1⟩
 obtain⟨n,k1,E⟩:=k;exact⟨J,h.ge,k1.keep n (by decide) d,ax G n d,E.keep h.ra (bi h.ge (rU n.lt)) d h.ge,h.ra,h.n1,h.n2,h.n3⟩
theorem MS.app{n:Nat}(h:MS w0 b S0 w S)(K:fF w B b S)(G:Own w B' e sz (.slice a n c) n xs)(E:oB a∈iZ S)(I:w.grownBy w1 (Value.slice a n c).ownBlock)(u:w1.grownBy w2 (some b))(C:oJ w (.slice a n c) (.slice a' n' c'))
 (H:∀x,nS b S' x->nS b S x\/oB a' = some x):MS w0 b S0 w2 S':=by
 have J:MS w0 b S0 w1 S:=by
  rcases tJ G I with D|⟨g,cs,_,k,A⟩
  ·exact h.below D
  ·exact h.put A (.inr (by rw[<-k];exact E)) (λx d => .inl d)
 refine J.put u (.inl rfl) λx d => ?_;rcases H x d with d|d
 ·exact .inl d
 rcases C with j|j
 ·rw[jF,jF]at j;exact .inl (.inr (by rw[<-d,j];exact E))
 ·exact .inr (bi h.size (j x (by rw[jF];exact d)))
theorem ents_info:(Tryz.prog.info? 69).map (λi=>(i.zero,i.size,i.bytes))=some (some (.agg (tL (List.replicate 64 zEn)).toArray),192,1536):=by kernel_rfl
theorem CL{a:Act}(D:o.guard=none)(s x:Operand)
 (k:o.op=Op.call { callee:=Callee.builtin Builtin.append,args:=#[s,x],argTypes:=#[96,96] }) (u:cs=(tL (List.replicate 64 zEn)).toArray)
 (B:Nat) (v:Value) (n:Nat) (xs:List Value) (C:a.eval s=v) (d:Own w B 69 192 v n xs) (A:a.eval x = .slice (some ⟨w.heap.size,0,none⟩) 1 1) (H:n<=100) (G:B<=w.heap.size)
 (E:∀j w',Own w' B 69 192 j (n+1) (xs++tL (List.replicate 64 zEn))->(w.alloc (.cells (tL (List.replicate 64 zEn)).toArray 69)).grownBy w' v.ownBlock->oJ (w.alloc (.cells (tL (List.replicate 64 zEn)).toArray 69)) v j->wpList Tryz.prog ops Q rest (a.put o.dst j) w') :
  wpList Tryz.prog ops Q (o::rest) a (w.alloc (.cells cs 69)):=by
 subst u;exact qO D s x 96 k B 69 _ 192 1536 underlying96 ents_info rfl (by decide) v n xs C (d.alloc _) (some ⟨w.heap.size,0,none⟩) 1 1 (tL (List.replicate 64 zEn)) A (λh=>(by cases h)) (az _) (zw _) (by simpa using eu.new w (tL (List.replicate 64 zEn)).toArray 69) (by decide +kernel) (by unfold maxLen;omega) (by omega) (dE G) E
theorem Ev(S:MW)(B b:Nat)(w:World)(h:fF w B b S)(D:Bd S.H.ma S.T)(hf:OI S)(hl4:S.H.sp.length<4) :
  Calls Tryz.prog 37 #[.pointer (some ⟨b,0,none⟩)] w (SpaceR S B b w):=by
 have kK:=ae D;have gl:=ae hf;have gX:=ae h.bs;have gN:S.H.fi.length<=5:=by have:=(mF.1 D.few.2.2.2.2.1).1.1;simpa[MH.ma,cZ]using this
 clear D hf;go_enter func37,ntmps37
 go_wp2_with fail
 refine(fZ _ 4 B b _ h).mono ?_;rintro r w1 ⟨n1,a1,c1,l1,rfl,h1,s1,kV,kT⟩;obtain⟨N,rfl⟩:=iO kV.1;have gW:N<4:=by omega
 have kS:=ae kT;clear h kV kT;have ge:IntKind.i64.wrap ((S.H.fi.length:Int)+1)=(S.H.fi.length:Int)+1:=bK _ (by omega);go_upto_region 2 with(fail)
 go_loopw [11,2] (fun i u wr => ∃(k:Nat) (A:List Ar) (a:Option Addr) (c:Nat) (al:Option Addr) (cl:Nat) (I:List UInt8),k<=N/\i = .int .i64 k/\u = .slice a A.length c/\Own wr B 94 7 (.slice a A.length c) A.length (A.flatMap mV)/\fF wr B b (S.lst al cl I)/\MS w b S wr (S.lst al cl I) /\
  Hid ((bQ A).1=0/\(∀n g,onA A n=some g->g.fi<S.H.fi.length)/\(k=0->A=[]/\I=l1))) (λi _ _=>N-(intOf i).toNat)
 case atStart=>exact⟨0,[],none,0,a1,c1,l1,bq _,rfl,rfl,by simpa using Own.nil _ _ _ _,h1,s1,ae ⟨by decide,λn g h=>(by cases h),λ_=>⟨rfl,rfl⟩⟩⟩
 case round=>
  clear h1 s1;obtain⟨k,A,a,c,al,cl,I,hk,rfl,rfl,hi,hm,hs,hA⟩:=hrel;have kl:=ae (hm.own_not hi (by decide))
  by_cases hkN:k<N
  ·have gj:(k:Int)<(N:Int):=by omega
   go_upto_region 3 with(fail);refine iH 21 [_,.r 1 ((dJ λv => ∃x:Int,v = .int .i64 x/\0<=x/\x<12)),_,.r 3 ((dJ λv => ∃x:Int,v = .int .i64 x)),.r 4 ((dJ λv => ∃u,v = .bool u)),_,.r 6 ((dJ λv => ∃x:Int,v = .int .i64 x)),.r 7 ((dJ λv => ∃u,v = .bool u)),_,_,_,_,_,_,.v (.slice S.H.ai S.H.fi.length S.H.ci),_,_,.r 17 ((dJ λv => ∃x:Int,v = .int .i64 x/\0<=x/\x<(S.H.fi.length:Int)+1)),.r 18 ((dJ λv => ∃x:Int,v = .int .i64 x/\-1<=x/\x<S.H.fi.length)),.r 19 ((dJ λv => ∃fr rd wr fi,v = .agg (kH ⟨fr,0,rd,wr,false,fi,0⟩)/\0<=fr/\fr<12/\-1<=fi/\fi<S.H.fi.length)),.r 20 ((dJ λ_=>True))] (ME (S.lst al cl I) B b wr 20 (kH ⟨0,0,false,false,false,0,0⟩) 94) kD (λ_=>⟨⟨al,cl,I,hm,MS.refl _ _ _,λt ht=>(by cases ht)⟩,λe=>(by cases e)⟩) (Qk kD rfl (ah ?_ (Qk kD rfl (ah ?_ (ah ?_ (Qk kD rfl (ah ?_ (ah ?_ (Qk kD rfl (Qk kD rfl (Qk kD rfl (Qf kD b 1 rfl rfl (Qf kD b 8 rfl rfl (Qf kD b 8 rfl rfl (ah ?_ (Qn kD rfl rfl rfl rfl (Qb kD (.int .i64 ((S.H.fi.length:Int)+1)) (by simp[go_sem,ge]) rfl rfl rfl rfl rfl (ah ?_ (ah ?_ (ah ?_ (ah ?_ (aF)))))))))))))))))))))) (λ_=>rfl) rfl ?_
   ·intro ρ y W L E J q z G D;have gK:=E 13 0 rfl;have h0:y 0=_:=D 0 rfl;have EC:∀v,ρ (.const v)=v:=λv=>J (.const v) trivial;have EF:=eF0 J λ_=>trivial;refine je _ _ (aj) (aS rfl (EF _) func32 (by simp only[bU,bS,aZ,gK,h0,EC,EF];rfl)) ?_;exact yx rfl 12 G λx h1 h2 h3 _=>⟨x,rfl,h1,by omega⟩
   ·intro ρ y W L E J q z G D;have gI:=E 15 2 rfl;have h2:y 2=_:=D 2 rfl;have EC:∀v,ρ (.const v)=v:=λv=>J (.const v) trivial;have EF:=eF0 J λ_=>trivial;refine je _ _ (aj) (aS rfl (EF _) func32 (by simp only[bU,bS,aZ,gI,h2,EC,EF];rfl)) ?_;exact yx rfl 4 G λx h1 h2 h3 _=>⟨x,rfl⟩
   ·intro ρ y W L E J q z G D;refine fV kD G ?_;have gH:=E 16 3 rfl;have h3:=D 3 rfl;obtain⟨x,C⟩:=h3;refine ak _ (qC rfl (gH.trans C) (J (.const _) trivial) (by simp[go_sem];rfl)) (m:=⟨_,rfl⟩)
   ·intro ρ y W L E J q z G D;have gF:=E 18 5 rfl;have h5:y 5=_:=D 5 rfl;have EC:∀v,ρ (.const v)=v:=λv=>J (.const v) trivial;have EF:=eF0 J λ_=>trivial;refine je _ _ (aj) (aS rfl (EF _) func32 (by simp only[bU,bS,aZ,gF,h5,EC,EF];rfl)) ?_;exact yx rfl 3 G λx h1 h2 h3 _=>⟨x,rfl⟩
   ·intro ρ y W L E J q z G D;refine fV kD G ?_;have gE:=E 19 6 rfl;have h6:=D 6 rfl;obtain⟨x,C⟩:=h6;refine ak _ (qC rfl (gE.trans C) (J (.const _) trivial) (by simp[go_sem];rfl)) (m:=⟨_,rfl⟩)
   ·intro ρ y W L E J q z G D;refine fV kD G ?_;have gB:=E 26 13 rfl;have gs:y 13=_:=D 13 rfl;obtain⟨⟨a0,c0,l0,m1,m2,m3⟩,_⟩:=G;refine ak (.slice S.H.ai S.H.fi.length S.H.ci) (by simp[execOp,go_sem,gB,gs,m1.blk.cell,jI,MW.lst])
   ·intro ρ y W L E J q z G D;have gC:=E 21 8 rfl;have h8:y 8=_:=D 8 rfl;have gA:=E 29 16 rfl;have gr:y 16=_:=D 16 rfl;have EF:=eF0 J λ_=>trivial;refine je _ _ (aj) (aS rfl (EF _) func32 (by simp only[bU,bS,aZ,gC,h8,gA,gr,EF];rfl)) ?_;exact yx rfl _ G λx h1 h2 h3 _=>⟨x,rfl,h1,by omega⟩
   ·intro ρ y W L E J q z G D;refine fV kD G ?_;have gz:=E 30 17 rfl;have gq:=D 17 rfl;obtain⟨x,C,k1,k2⟩:=gq;have kE:IntKind.i64.wrap (x-1)=x-1:=bK _ (by omega);refine ak (.int .i64 (x-1)) (qC rfl (gz.trans C) (J (.const _) trivial) (by simp[go_sem,kE])) (m:=⟨_,rfl,by omega,by omega⟩)
   ·intro ρ y W L E J q z G D;refine fV kD G ?_;have gJ:=E 14 1 rfl;have h1:=D 1 rfl;have gG:=E 17 4 rfl;have h4:=D 4 rfl;have gD:=E 20 7 rfl;have h7:=D 7 rfl;have gy:=E 31 18 rfl;have gp:=D 18 rfl;obtain⟨x1,hB,k1,k2⟩:=h1;obtain⟨x2,gd⟩:=h4;obtain⟨x3,gc⟩:=h7;obtain⟨x4,gb,k3,k4⟩:=gp;refine ak (.agg (kH ⟨x1,0,x2,x3,false,x4,0⟩)) (by simp[execOp,go_sem,gJ,gG,gD,gy,hB,gd,gc,gb,kH]) (m:=⟨x1,x2,x3,x4,rfl,k1,k2,k3,k4⟩)
   ·intro ρ y W L E J q z G D;refine fJ (.pointer (some ⟨W.heap.size,0,none⟩)) ?_ (Uy hm G);simp[execOp,go_sem,kH]
   intro y W2 k0 m;have gR:((dJ λv => ∃x:Int,v = .int .i64 x/\0<=x/\x<12)).r (y 1) W2:=m 1 (by decide);have gQ:((dJ λv => ∃x:Int,v = .int .i64 x)).r (y 3) W2:=m 3 (by decide);have ga:((dJ λv => ∃u,v = .bool u)).r (y 4) W2:=m 4 (by decide);have gP:((dJ λv => ∃x:Int,v = .int .i64 x)).r (y 6) W2:=m 6 (by decide);have gO:((dJ λv => ∃u,v = .bool u)).r (y 7) W2:=m 7 (by decide);have gM:((dJ λv => ∃x:Int,v = .int .i64 x/\0<=x/\x<(S.H.fi.length:Int)+1)).r (y 17) W2:=m 17 (by decide);have gL:((dJ λv => ∃x:Int,v = .int .i64 x/\-1<=x/\x<S.H.fi.length)).r (y 18) W2:=m 18 (by decide);have kO:((dJ λv => ∃fr rd wr fi,v = .agg (kH ⟨fr,0,rd,wr,false,fi,0⟩)/\0<=fr/\fr<12/\-1<=fi/\fi<S.H.fi.length)).r (y 19) W2:=m 19 (by decide);clear m;obtain⟨⟨R,O,l2,h2,s2,_⟩,kA⟩:=k0;obtain⟨gx,kX,axz,hh,hI⟩:=kA rfl;obtain⟨fr,rd,Z,fi,hv,hz,gU,kN,k6⟩:=kO;rw[hv,kX];clear hv kX kA;rw[oZ]at h2 s2;have ha:=s2.ownN hi kl.out;have hJ:Hid (∀x,(Value.slice a A.length c).ownBlock=some x->¬nS b S x):=kl;have kc:=ae (hm.newA hI);have hU:Hid (∀x,(Value.slice a A.length c).ownBlock=some x->some gx≠some x):=ae λx C e=>by have:=JG hi x C;cases e;omega
   have hS:=ae (bi hs.size hI);have hT:B<=gx:=bi hm.bs hI;have hh:=ae hh;have s2:=hs.trans s2;clear hm hs hi hI
   go_wp2_with (refine aA rfl _ _ rfl gx (kH ⟨fr,0,rd,Z,false,fi,0⟩) rfl rfl axz rfl area_size (Vx _) ?_)
   intro w3 ax3 hy;have h3:=h2.locA axz hh.out kc.out hT hy;have s3:=s2.loc hy hS.out;have hZ:=ha.grown hy hU.out;clear h2 s2 ha hy axz;have kP:IntKind.i64.wrap (fr+1)=fr+1:=bK _ (by omega);go_upto_region 4 with(fail);refine iH 7 [_,.v (.int .i64 fr),_,_,.r 4 ((dJ λv => ∃x:Int,v = .int .i64 x/\0<=x/\x<4)),.r 5 ((dJ λv => ∃x:Int,v = .int .i64 x/\fr<x/\x<=fr+4)),_] (Mk (S.lst R O l2) B b w3 [(gx,kH ⟨fr,0,rd,Z,false,fi,0⟩,94)]) aK (λ_=>⟨R,O,l2,h3,MS.refl _ _ _,by simpa using⟨ax3,hh.out⟩⟩) (Qf aK gx 0 rfl rfl (ah ?_ (Qb aK (.int .i64 (fr+1)) (by simp[go_sem,kP]) rfl rfl rfl rfl rfl (Qk aK rfl (ah ?_ (ah ?_ (Qf aK gx 1 rfl rfl (aF)))))))) (λ_=>rfl) rfl ?_
   ·intro ρ y W L E J q z G D;refine fV aK G ?_;have gw:=E 33 0 rfl;have h0:y 0=_:=D 0 rfl;obtain⟨a0,c0,l0,m1,m2,m3⟩:=G;have m3:=(m3 _ (bC.2 rfl)).1;refine ak (.int .i64 fr) (by simp[execOp,go_sem,gw,h0,m3.cell,kH])
   ·intro ρ y W L E J q z G D;have gu:=E 36 3 rfl;have h3:y 3=_:=D 3 rfl;have EC:∀v,ρ (.const v)=v:=λv=>J (.const v) trivial;have EF:=eF0 J λ_=>trivial;refine je _ _ (aj) (aS rfl (EF _) func32 (by simp only[bU,bS,aZ,gu,h3,EC,EF];rfl)) ?_;exact AR 4 G λx h1 h2 h3 _=>⟨x,rfl,h1,by omega⟩
   ·intro ρ y W L E J q z G D;refine fV aK G ?_;have gv:=E 35 2 rfl;have h2:y 2=_:=D 2 rfl;have gt:=E 37 4 rfl;have h4:=D 4 rfl;obtain⟨x,C,k1,k2⟩:=h4;have kE:IntKind.i64.wrap (fr+1+x)=fr+1+x:=bK _ (by omega);refine ak (.int .i64 (fr+1+x)) (qC rfl (gv.trans h2) (gt.trans C) (by simp[go_sem,kE])) (m:=⟨_,rfl,by omega,by omega⟩)
   intro y W4 kZ kh;have ga:((dJ λv => ∃x:Int,v = .int .i64 x/\0<=x/\x<4)).r (y 4) W4:=kh 4 (by decide);have k9:((dJ λv => ∃x:Int,v = .int .i64 x/\fr<x/\x<=fr+4)).r (y 5) W4:=kh 5 (by decide);clear kh;obtain⟨Y,V,l4,h4,s4,kW⟩:=kZ;have ax4:=(kW _ (bC.2 rfl)).1;rw[oZ]at h4 s4;have hY:=s4.ownN hZ hJ.out;have s4:=s3.trans s4;obtain⟨en,hv,gT,gS⟩:=k9;rw[hv];clear hv kW h3 s3 hZ ax3 kP
   go_wp2_with (refine aC gx 1 [.int .i64 en] rfl rfl rfl _ _ ax4 (by show 1+1<=7;omega) (by kernel_rfl) (λu hu=>by cases bC.1 hu;rfl) ?_)
   intro w5 ax5 hr;rw[show bH (kH ⟨fr,0,rd,Z,false,fi,0⟩) 1 [.int .i64 en]=kH ⟨fr,en,rd,Z,false,fi,0⟩from rfl]at ax5;have h5:=h4.locA ax4 hh.out kc.out hT hr;have s5:=s4.loc hr hS.out;have hq:=hY.grown hr hU.out;clear h4 s4 hY ax4 hr;have hR:=ax5.cell;unfold kH at hR;go_upto_if 42 with(fail)
   go_cut [2] (fun s2 wx=>s2 = .slice a A.length c/\∃(X:Ar) (a:Option Addr) (cl:Nat) (l:List UInt8),aG wx gx (kH X) 94/\fF wx B b (S.lst a cl l)/\MS w b S wx (S.lst a cl l)/\Own wx B 94 7 s2 A.length (A.flatMap mV)/\Hid (X.fi<S.H.fi.length))
   case first=>
    by_cases hfi0:0<=fi
    ·go_wp2_with fail
     refine(fZ _ 2 B b _ h5).mono ?_;rintro r w6 ⟨x6,a6,c6,l6,rfl,h6,s6,_,_⟩;rw[oZ]at h6 s6;have ax6:=s6.blkN ax5 hh.out;have M:=s6.ownN hq hJ.out;have s6:=s5.trans s6;clear h5 s5 hq hR ax5
     go_wp2_with fail
     refine(fZ _ 4 B b _ h6).mono ?_;rintro r w7 ⟨x7,a7,c7,l7,rfl,h7,s7,_,_⟩;rw[oZ]at h7 s7;have ax7:=s7.blkN ax6 hh.out;have K:=s7.ownN M hJ.out;have s7:=s6.trans s7;clear h6 s6 M ax6
     go_wp2_with (refine aC gx 4 [.bool (x6==1)] rfl rfl rfl _ _ ax7 (by show 4+1<=7;omega) (by kernel_rfl) (λu hu=>by cases bC.1 hu;rfl) ?_)
     intro w8 ax8 ko;rw[show bH (kH ⟨fr,en,rd,Z,false,fi,0⟩) 4 [.bool (x6==1)]=kH ⟨fr,en,rd,Z,x6==1,fi,0⟩from rfl]at ax8;have h8:=h7.locA ax7 hh.out kc.out hT ko;have s8:=s7.loc ko hS.out;have own8:=K.grown ko hU.out;clear h7 s7 K ax7 ko
     go_wp2_with (refine aC gx 6 [.int .i64 x7] rfl rfl rfl _ _ ax8 (by show 6+1<=7;omega) (by kernel_rfl) (λu hu=>by cases bC.1 hu;rfl) ?_)
     intro w9 ax9 kn;rw[show bH (kH ⟨fr,en,rd,Z,x6==1,fi,0⟩) 6 [.int .i64 x7]=kH ⟨fr,en,rd,Z,x6==1,fi,x7⟩from rfl]at ax9;have U:=h8.locA ax8 hh.out kc.out hT kn;have s9:=s8.loc kn hS.out;have own9:=own8.grown kn hU.out;clear h8 s8 own8 ax8 kn;go_wp2;go_meet
     case rel=>exact⟨rfl,_,a7,c7,l7,ax9,U,s9,own9,ae k6⟩
    go_wp2;go_meet
    case rel=>exact⟨rfl,_,Y,V,l4,ax5,h5,s5,hq,ae k6⟩
   case rest=>
    obtain⟨rfl,X,a6,c6,l6,ax6,h6,s6,M,gm⟩:=hcut;clear h5 s5 hq ax5 hR
    go_wp2_with (refine ay gx 0 _ ax6.rd _ underlying94 rfl area_size ?_)
    refine(Uu A X a c _ (have U:=uK M;⟨U.le,U.mx,U.nl,U.rd⟩)).mono ?_;rintro r w7 ⟨v7,rfl,K,kq⟩;obtain⟨a7,c7,rfl,_⟩:=K.rd;have K:=K.mono h6.bs;have h7:=h6.below kq;have s7:=s6.below kq;have M:=M.below kq;clear h6 s6 ax6 kq kl hJ hU hh kc hS hT
    by_cases hme:Ca A X=0
    ·have km:=Nf hme;have kb:Hid ((bQ (zD A X)).1=0/\(∀n g,onA (zD A X) n=some g->g.fi<S.H.fi.length)/\(k+1=0->zD A X=[]/\l6=l1)):=ae ⟨iX.2 ⟨km.1,km.2.1⟩,λn g hg=>by
      rw[km.2.2]at hg;split at hg
      ·cases hg;exact gm.out
      ·exact hA.out.2.1 n g hg,λe=>by omega⟩
     clear km;rw[hme];go_wp2;go_roundw
     case rel=>exact⟨k+1,zD A X,a7,c7,a6,c6,l6,by omega,by go_num,rfl,K,h7,s7,kb⟩
     case measure=>simp[intOf];omega
    have kb:Hid ((bQ A).1=0/\(∀n g,onA A n=some g->g.fi<S.H.fi.length)/\(k+1=0->A=[]/\l6=l1)):=ae ⟨hA.out.1,hA.out.2.1,λe=>by omega⟩;go_wp2;go_roundw
    case rel=>exact⟨k+1,A,a,c,a6,c6,l6,by omega,by go_num,rfl,M,h7,s7,kb⟩
    case measure=>simp[intOf];omega
  have gj:¬(k:Int)<(N:Int):=by omega
  obtain rfl:k=N:=by omega
  have gY:A.length<=16:=(iX.1 hA.out.1).1;have hc:=hm.blk.cell;unfold jI at hc;dsimp only[MW.lst]at hc;have hD:=hm.ma.sp;dsimp only[MW.lst]at hD
  go_wp2_with (at_builtin;go_must (refine qO rfl _ _ 43 rfl B 76 _ 10 224 underlying43 space_info rfl (by decide) _ S.H.sp.length (S.H.sp.flatMap ug) rfl (hD.alloc _) (some ⟨wr.heap.size,0,none⟩) 1 1 (ug ⟨true,a,c,A,nTs,zTb⟩) rfl (λh=>(by cases h)) (az _) rfl (eu.new _ (ze ⟨true,a,c,A,nTs,zTb⟩) _) (bV (by simp[ze,nTs,Value.oneCell'])) (by unfold maxLen;omega) (by omega) (dE hm.bs) ?_))
  intro v2 w2 own2 hH kv;have kr:=(Below.refl wr.heap.size wr).alloc (az _) (.cells (ze (⟨true,a,c,A,nTs,zTb⟩:PS)) 76);have o:=hm.below kr;have hP:=hs.below kr;have ka:=hi.below kr;have d:Own (wr.alloc (.cells (ze (⟨true,a,c,A,nTs,zTb⟩:PS)) 76)) B 76 10 (.slice S.H.ap S.H.sp.length S.H.cp) S.H.sp.length (S.H.sp.flatMap ug):=o.ma.sp;have ha:=jA d hH ka;have kC:=Bp d hH o.blk;have kx:∀p∈S.H.sp++[(⟨true,a,c,A,nTs,zTb⟩:PS)],Own w2 B 94 7 (.slice p.aa p.ar.length p.ac) p.ar.length (p.ar.flatMap mV)/\sM w2 B (nT p.ts) p.tb:=λp hp=>by
   rcases gV.1 hp with hp|hp
   ·exact⟨jA d hH (o.ma.ps p hp).1,Ei d hH (o.ma.ps p hp).2⟩
   rw[bC.1 hp];exact⟨ha,Cy _ _⟩
  obtain⟨R,O,rfl,_⟩:=own2.rd;have hG:(S.H.sp++[(⟨true,a,c,A,nTs,zTb⟩:PS)]).length=S.H.sp.length+1:=by simp
  have own2' : Own w2 B 76 10 (.slice R (S.H.sp++[(⟨true,a,c,A,nTs,zTb⟩:PS)]).length O) (S.H.sp++[(⟨true,a,c,A,nTs,zTb⟩:PS)]).length ((S.H.sp++[(⟨true,a,c,A,nTs,zTb⟩:PS)]).flatMap ug):=by rw[hG,fM];simpa using own2
  clear hc hm hs hi ka hD own2 kl
  go_wp2_with (refine aC b 11 [.slice R (S.H.sp.length+1) O] rfl rfl rfl _ _ kC (by show 11+1<=13;omega) (by kernel_rfl) (λu hu=>by cases bC.1 hu;rfl) ?_)
  intro w3 kN hy;have h3:fF w3 B b { S.lst al cl I with H:={ S.H with ap:=R,cp:=O,sp:=S.H.sp++[(⟨true,a,c,A,nTs,zTb⟩:PS)] } }:=o.appP hH own2' kx (by rw[hG];exact kN) hy;have s3:MS w b S w3 { S.lst al cl I with H:={ S.H with ap:=R,cp:=O,sp:=S.H.sp++[(⟨true,a,c,A,nTs,zTb⟩:PS)] } }:=hP.app o d (by simp[iZ,MW.lst]) hH hy kv (λx C=>by
   rcases C with C|C
   ·exact .inl (.inl C)
   simp only[iZ,MW.lst,dz,ib,or_false]at C;rcases C with C|C|C|C|C|C|C|C|C<;>first|exact .inr C.symm|exact .inl (.inr (by simp[iZ,MW.lst,C])))
  have kg:S.T.length<=100:=by have U:=kK.out.ok.len;have h8:S.H.ma.sp.length=S.H.sp.length:=eQ _;omega
  clear o hP d kC kx own2' kN hy kv hH kr ha;have hc:=h3.blk.cell;unfold jI at hc;dsimp only[MW.lst]at hc;have hC:Own w3 B 69 192 (.slice S.ab S.T.length S.cb) S.T.length (S.T.flatMap tL):=h3.tt
  go_wp2_with (at_builtin;go_must (refine CL rfl _ _ rfl (by kernel_rfl) B (.slice S.ab S.T.length S.cb) S.T.length (S.T.flatMap tL) rfl hC rfl kg h3.bs ?_))
  intro v4 w4 own4 kp ku;have hO:=(Below.refl w3.heap.size w3).alloc (az _) (.cells (tL (List.replicate 64 zEn)).toArray 69);have ki:=h3.below hO;have s3a:=s3.below hO;have hl:=hC.below hO;have kB:aG w4 b (jI { S.lst al cl I with H:={ S.H with ap:=R,cp:=O,sp:=S.H.sp++[(⟨true,a,c,A,nTs,zTb⟩:PS)] } }) 98:=by
   rcases tJ hl kp with hb0|⟨g,cs,hk,_,hg'⟩
   ·exact ki.blk.ext hb0
   ·exact cB ki.blk hk hg'
  obtain⟨Y,V,rfl,_⟩:=own4.rd;have hF:(S.T++[List.replicate 64 zEn]).length=S.T.length+1:=by simp
  have own4' : Own w4 B 69 192 (.slice Y (S.T++[List.replicate 64 zEn]).length V) (S.T++[List.replicate 64 zEn]).length ((S.T++[List.replicate 64 zEn]).flatMap tL):=by rw[hF,fM];simpa using own4
  clear hc h3 s3 hC own4 hO
  go_wp2_with (refine aC b 12 [.slice Y (S.T.length+1) V] rfl rfl rfl _ _ kB (by show 12+1<=13;omega) (by kernel_rfl) (λu hu=>by cases bC.1 hu;rfl) ?_)
  intro w5 k5 hr;have h5:fF w5 B b { S.lst al cl I with H:={ S.H with ap:=R,cp:=O,sp:=S.H.sp++[(⟨true,a,c,A,nTs,zTb⟩:PS)] },ab:=Y,cb:=V,T:=S.T++[List.replicate 64 zEn] }:=ki.appT kp own4' (by rw[hF];exact k5) hr;have s5:MS w b S w5 { S.lst al cl I with H:={ S.H with ap:=R,cp:=O,sp:=S.H.sp++[(⟨true,a,c,A,nTs,zTb⟩:PS)] },ab:=Y,cb:=V,T:=S.T++[List.replicate 64 zEn] }:=s3a.app ki hl (by simp[iZ,MW.lst]) kp hr ku (λx C=>by
   rcases C with C|C
   ·exact .inl (.inl C)
   simp only[iZ,MW.lst,dz,ib,or_false]at C;rcases C with C|C|C|C|C|C|C|C|C<;>first|exact .inr C.symm|exact .inl (.inr (by simp[iZ,MW.lst,C])))
  clear ki s3a hl kB own4' k5 hr ku kp;have hL:({ S.lst al cl I with H:={ S.H with ap:=R,cp:=O,sp:=S.H.sp++[(⟨true,a,c,A,nTs,zTb⟩:PS)] },ab:=Y,cb:=V,T:=S.T++[List.replicate 64 zEn] }:MW).H.ma = { S.H.ma with sp:=S.H.ma.sp++[⟨true,A,zTb⟩] }:=by simp[MH.ma,PS.sp]
  have kf:Bd ({ S.lst al cl I with H:={ S.H with ap:=R,cp:=O,sp:=S.H.sp++[(⟨true,a,c,A,nTs,zTb⟩:PS)] },ab:=Y,cb:=V,T:=S.T++[List.replicate 64 zEn] }:MW).H.ma ({ S.lst al cl I with H:={ S.H with ap:=R,cp:=O,sp:=S.H.sp++[(⟨true,a,c,A,nTs,zTb⟩:PS)] },ab:=Y,cb:=V,T:=S.T++[List.replicate 64 zEn] }:MW).T:=by rw[hL];exact kK.out.more (s:=⟨true,A,zTb⟩) (by show(S.H.sp.map PS.sp).length<4;rw[eQ];exact hl4) rfl hA.out.1
  have hE:Hid (More S { S.lst al cl I with H:={ S.H with ap:=R,cp:=O,sp:=S.H.sp++[(⟨true,a,c,A,nTs,zTb⟩:PS)] },ab:=Y,cb:=V,T:=S.T++[List.replicate 64 zEn] }):=ae ⟨kf,λp hp n g hg=>by
   rcases gV.1 hp with hp|hp
   ·exact gl.out p hp n g hg
   rw[bC.1 hp]at hg;exact hA.out.2.1 n g hg,rfl,rfl,rfl,by simp,rfl⟩
  have k8:S.T.length=S.H.sp.length:=by have U:=kK.out.ok.len;have h8:S.H.ma.sp.length=S.H.sp.length:=eQ _;omega
  have kJ:Hid (∀j:Nat,(fT ({ S.lst al cl I with H:={ S.H with ap:=R,cp:=O,sp:=S.H.sp++[(⟨true,a,c,A,nTs,zTb⟩:PS)] },ab:=Y,cb:=V,T:=S.T++[List.replicate 64 zEn] }:MW).T S.H.sp.length j).k=0):=ae λj=>by unfold fT fP;rw[aW (l:=S.T++_),jX (by omega),<-k8,qD];show((List.replicate 64 zEn).getD j zEn).k=0;rw[aW,qw];split<;>rfl
  have kF:Hid (dI ({ S.lst al cl I with H:={ S.H with ap:=R,cp:=O,sp:=S.H.sp++[(⟨true,a,c,A,nTs,zTb⟩:PS)] },ab:=Y,cb:=V,T:=S.T++[List.replicate 64 zEn] }:MW).H.ma S.H.sp.length=⟨true,A,zTb⟩):=ae (by rw[hL];unfold dI;have h8:S.H.ma.sp.length=S.H.sp.length:=eQ _;rw[aW,jX (by omega),h8,qD];rfl);have hX:∀W,fF W B b { S.lst al cl I with H:={ S.H with ap:=R,cp:=O,sp:=S.H.sp++[(⟨true,a,c,A,nTs,zTb⟩:PS)] },ab:=Y,cb:=V,T:=S.T++[List.replicate 64 zEn] }->eu W a (A.flatMap mV):=λW hW=>(uK (hW.ma.ps (⟨true,a,c,A,nTs,zTb⟩:PS) (uO _ (bC.2 rfl))).1).rd;have kG:Hid (({ S.lst al cl I with H:={ S.H with ap:=R,cp:=O,sp:=S.H.sp++[(⟨true,a,c,A,nTs,zTb⟩:PS)] },ab:=Y,cb:=V,T:=S.T++[List.replicate 64 zEn] }:MW).H.sp.length=S.H.sp.length+1):=ae (by simp);have gh:Hid (S.l=[]->A=[]/\({ S.lst al cl I with H:={ S.H with ap:=R,cp:=O,sp:=S.H.sp++[(⟨true,a,c,A,nTs,zTb⟩:PS)] },ab:=Y,cb:=V,T:=S.T++[List.replicate 64 zEn] }:MW).l=[]/\({ S.lst al cl I with H:={ S.H with ap:=R,cp:=O,sp:=S.H.sp++[(⟨true,a,c,A,nTs,zTb⟩:PS)] },ab:=Y,cb:=V,T:=S.T++[List.replicate 64 zEn] }:MW).H.ma = { S.H.ma with sp:=S.H.ma.sp++[⟨true,[],zTb⟩] }/\({ S.lst al cl I with H:={ S.H with ap:=R,cp:=O,sp:=S.H.sp++[(⟨true,a,c,A,nTs,zTb⟩:PS)] },ab:=Y,cb:=V,T:=S.T++[List.replicate 64 zEn] }:MW).T=S.T++[List.replicate 64 zEn]):=ae λe=>by
   have U:=kS.out e;have gk:k=0:=by omega
   have h8:=hA.out.2.2 gk;refine⟨h8.1,by show I=[];rw[h8.2];exact U.2,?_,rfl⟩;rw[hL,h8.1]
  have kw:=hX _ h5;have ks:∀S9:MW,S9.H.sp=S.H.sp++[(⟨true,a,c,A,nTs,zTb⟩:PS)]->S9.H.sp.length=S.H.sp.length+1:=λS9 e=>by rw[e];simp
  have kt:({ S.lst al cl I with H:={ S.H with ap:=R,cp:=O,sp:=S.H.sp++[(⟨true,a,c,A,nTs,zTb⟩:PS)] },ab:=Y,cb:=V,T:=S.T++[List.replicate 64 zEn] }:MW).H.sp=S.H.sp++[(⟨true,a,c,A,nTs,zTb⟩:PS)]:=rfl;clear hL hX k8;generalize ({ S.lst al cl I with H:={ S.H with ap:=R,cp:=O,sp:=S.H.sp++[(⟨true,a,c,A,nTs,zTb⟩:PS)] },ab:=Y,cb:=V,T:=S.T++[List.replicate 64 zEn] }:MW)=S5 at *
  have kd:=ks S5 kt;have kY:S5.H.fi=S.H.fi:=hE.out.fi;have kQ:srtF 0 A:=lK (iX.1 hA.out.1).2;have hV:=ae kQ;have hc:=h5.blk.cell;unfold jI at hc;rw[kd]at hc;have gf:IntKind.i64.wrap (((S.H.sp.length+1:Nat):Int)-1)=(S.H.sp.length:Int):=by rw[bK _ (by omega)];omega
  have kL:=ae kf;clear kf kQ ks kd kY kt kg hF hG
  go_wp2_with fail
  refine(pR A a c _ kw (by omega) (λx C=>(srtF_ok hV.out x C).1)).mono ?_;rintro r w6 ⟨rfl,kM⟩;have h6:=h5.below kM;have s6:=s5.below kM;have kj:=ae kG;clear h5 s5 hc kw gf kM;go_upto_region 15 with(fail)
  go_loopw [92] (fun i wr => ∃(n:Nat) (Sn:MW),n<=64/\i = .int .i64 n/\fF wr B b Sn/\MS w b S wr Sn/\Hid (JX S5 Sn/\Bd Sn.H.ma Sn.T/\(∀j:Nat,n<=j->(fT Sn.T S.H.sp.length j).k=0)/\(A=[]->Sn=S5))) (fun i _=>64-(intOf i).toNat)
  case atStart=>exact⟨0,S5,bq _,rfl,h6,s6,ae ⟨.refl _,kL.out,λj _=>kJ.out j,λ_=>rfl⟩⟩
  case round=>
   clear h6 s6;obtain⟨n,Sn,J,rfl,hm,hs,hN⟩:=hrel
   by_cases hn64:n<64
   ·have gi:(n:Int)<64:=by omega
    cases hfk:dm A n with
    | none=>
     have hQ:=yR (dm A) n hn64 none hfk;unfold wZ oR oW oH oF oP at hQ;have kz:=ae hfk;clear hfk;go_upto_region 17 with (fail);refine iC (λW=>Code.wp _ _ _ _ W) λW1 hz hB hP => ?_;have hR:=hB.cell;have o:=hm.below hz;have kk:=hs.below hz;clear hP hz hm hs hQ;go_wp2;go_roundw
     case rel=>exact⟨n+1,Sn,by omega,by go_num,o,kk,ae ⟨hN.out.1,hN.out.2.1,λj hj=>hN.out.2.2.1 j (by omega),hN.out.2.2.2⟩⟩
     case measure=>simp[intOf];omega
    | some g=>
     have hQ:=yR (dm A) n hn64 (some g) hfk;unfold wZ oR oW oH oF oP at hQ;dsimp only[Option.isSome]at hQ;have kz:=ae hfk;clear hfk;go_upto_region 17 with(fail);refine iC (λW=>Code.wp _ _ _ _ W) λW1 hz hB hP => ?_;have hR:=hB.cell;have o:=hm.below hz;have kk:=hs.below hz;clear hP hz hm hs hQ;have kI:onA A n=some g:=by rw[<-oN hV.out];exact kz.out
     have kU:=pg_in hV.out kI;have ke:=ae kI;have ky:=ae kU;have kR:Hid (dI Sn.H.ma S.H.sp.length=⟨true,A,zTb⟩):=ae (by rw[<-kF.out];show(Sn.H.sp.map PS.sp).getD _ zSp=(S5.H.sp.map PS.sp).getD _ zSp;rw[hN.out.1.sp]);clear kI kU
     go_wp2_with (refine ay wr.heap.size 0 _ hB.rd _ underlying80 rfl one_size ?_)
     refine(Nc Sn S.H.sp.length n g B b _ o hN.out.2.1 (by rw[hN.out.1.sp,kj.out.out];omega) hn64 (hN.out.2.2.1 n (az _)) (by rw[kR.out];exact ke.out) (by rw[hN.out.1.fi,hE.out.fi];exact hA.out.2.1 _ _ ke.out) ky.out.1 (λh=>by
      rcases Int.lt_or_le g.fi 0 with U|U
      ·have:=(ky.out.2.2.2.2.1 U).1;rw[h]at this;simp at this
      ·exact U)).mono ?_
     rintro r w7 ⟨S7,rfl,h7,s7,k7,bd7,ent7⟩;have gg:=kk.trans s7;have gn:Hid (JX S5 S7/\Bd S7.H.ma S7.T/\(∀j:Nat,n+1<=j->(fT S7.T S.H.sp.length j).k=0)/\(A=[]->S7=S5)):=ae ⟨hN.out.1.trans k7,bd7,λj hj=>by rw[ent7 _ _ (by omega)];exact hN.out.2.2.1 j (by omega),λe=>by have U:=ke.out;rw[e] at U;cases U⟩;clear o kk s7 k7 bd7 ent7 hB hR;go_wp2;go_roundw
     case rel=>exact⟨n+1,S7,by omega,by go_num,h7,gg,gn⟩
     case measure=>simp[intOf];omega
   have gi:¬(n:Int)<64:=by omega
   go_wp2;refine bodyPost_ret (v:=.tuple #[]) (by simp[results,go_sem,results37]) rfl ?_;have hK:=hN.out.1;have hM:=hE.out;refine⟨Sn,rfl,hm,hs,⟨hN.out.2.1,λp hp n g hg => ?_,hK.fi.trans hM.fi,hK.ct.trans hM.ct,hK.dk.trans hM.dk,by rw[hK.sp];exact hM.sp,hK.fl.trans hM.fs⟩,λe => ?_⟩
   ·rw[hK.sp]at hp;rw[hK.fi];exact hM.fm p hp n g hg
   have U:=gh.out e;rw[hN.out.2.2.2 U.1];exact U.2
theorem fF.putD(h:fF w B b S)(j:aG w g cs 58)(u:B<=g)(n:oB S.H.db=some g)(d:w.grownBy w' (some g)){l:List Page}(D:l.length=S.H.dk.blocks.length)(C:Own w' B 58 8 (.slice S.H.db l.length S.H.cdb) l.length (l.flatMap Dv)) :
    fF w' B b { S with H:={ S.H with dk:=⟨l,S.H.dk.queue⟩ } }:=
  ⟨by
    have E:=cB h.blk j d;have e:jI { S with H:={ S.H with dk:=⟨l,S.H.dk.queue⟩ } }=jI S:=by unfold jI;rw[show({ S.H with dk:=⟨l,S.H.dk.queue⟩ }:MH).dk.blocks.length=S.H.dk.blocks.length from D]
    rw[e];exact E,h.ge,
   ⟨ax h.ma.fr j d,ax h.ma.sl j d,⟨h.ma.sw.b.grown d (λg' k e=>by cases e;rw[jF]at k;exact h.n1 _ k n),ax h.ma.sw.q j d⟩,⟨C,ax h.ma.dk.q j d⟩,h.ma.st.keep j (by decide) (by decide) d,ax h.ma.ca j d,ax h.ma.sp j d,λp A=>⟨ax (h.ma.ps p A).1 j d,(h.ma.ps p A).2.keep j (by decide) d⟩,h.ma.c64⟩,
   ax h.tt j d,h.rd.keep h.ra h.bs d u,h.ra,h.n1,h.n2,h.n3⟩
theorem fF.appQ(h:fF w B b S)(Z:w.grownBy w1 (Value.slice S.H.dq S.H.dk.queue.length S.H.cdq).ownBlock){l:List (Int × Page)}(Y:Own w1 B 105 9 (.slice a l.length c) l.length (l.flatMap zQ))
 (hb:aG w2 b (bH (jI S) 7 [.slice a l.length c]) 98) (k:w1.grownBy w2 (some b)) :
  fF w2 B b { S with H:={ S.H with dq:=a,cdq:=c,dk:=⟨S.H.dk.blocks,l⟩ } }:=by
 have d:Own w B 105 9 (.slice S.H.wq S.H.sw.queue.length S.H.cwq) S.H.sw.queue.length (S.H.sw.queue.flatMap zQ):=h.ma.sw.q;have D:aG w1 b (jI S) 98/\Own w1 B 66 13 (.slice S.H.af S.H.m.fs.length S.H.cf) S.H.m.fs.length (S.H.m.fs.flatMap ni)/\Own w1 B 3 1 (.slice S.H.asl S.H.sl.length S.H.csl) S.H.sl.length (S.H.sl.map gF) /\
   mZ w1 B (.slice S.H.wb S.H.sw.blocks.length S.H.cwb) (.slice S.H.wq S.H.sw.queue.length S.H.cwq) S.H.sw/\Own w1 B 58 8 (.slice S.H.db S.H.dk.blocks.length S.H.cdb) S.H.dk.blocks.length (S.H.dk.blocks.flatMap Dv)/\rC w1 B (.slice S.H.ai S.H.fi.length S.H.ci) S.H.fi /\
   Own w1 B 122 3 (.slice S.H.ac S.H.ca.length S.H.cc) S.H.ca.length (S.H.ca.flatMap iL)/\Own w1 B 76 10 (.slice S.H.ap S.H.sp.length S.H.cp) S.H.sp.length (S.H.sp.flatMap ug) /\
   (∀p∈S.H.sp,Own w1 B 94 7 (.slice p.aa p.ar.length p.ac) p.ar.length (p.ar.flatMap mV)/\sM w1 B (nT p.ts) p.tb)/\Own w1 B 69 192 (.slice S.ab S.T.length S.cb) S.T.length (S.T.flatMap tL)/\vG w1 S.al S.cl S.l.length (S.l.map zS):=by
  rcases tJ h.ma.dk.q Z with I|⟨g,cs,u,G,j⟩
  ·have A:=h.below I;exact⟨A.blk,A.ma.fr,A.ma.sl,A.ma.sw,A.ma.dk.b,A.ma.st,A.ma.ca,A.ma.sp,A.ma.ps,A.tt,A.rd⟩
  ·exact⟨cB h.blk u j,ax h.ma.fr u j,ax h.ma.sl u j,⟨ax h.ma.sw.b u j,d.grown j (λg' K=>by rw[h.n3]at K;cases K)⟩,ax h.ma.dk.b u j,h.ma.st.keep u (by decide) (by decide) j,ax h.ma.ca u j,ax h.ma.sp u j,λp C=>⟨ax (h.ma.ps p C).1 u j,(h.ma.ps p C).2.keep u (by decide) j⟩,ax h.tt u j,h.rd.keep h.ra h.bs j (jf h.ma.dk.q G).1⟩
 obtain⟨n,k1,X,V,U,R,O,N,J,M,E⟩:=D;exact⟨hb,h.ge,⟨ax k1 n k,ax X n k,V.keep n (by decide) (by decide) k,⟨ax U n k,ax Y n k⟩,R.keep n (by decide) (by decide) k,ax O n k,ax N n k,λp C=>⟨ax (J p C).1 n k,(J p C).2.keep n (by decide) k⟩,h.ma.c64⟩,
  ax M n k,E.keep h.ra (bi h.ge (rU n.lt)) k h.ge,h.ra,h.n1,h.n2,h.n3⟩
theorem fF.appFi(h:fF w B b S){p:PF}(A:Own w B 3 1 (ou p) p.l.length (p.l.map gF))(M:∀(i:Nat) q,S.H.fi[i]?=some q->Apart (ou q) (ou p))(D:∀x,oB p.a=some x->oB S.H.asl≠some x)
 (O:w.grownBy w1 (Value.slice S.H.ai S.H.fi.length S.H.ci).ownBlock) (ho:Own w1 B 101 2 (.slice a (S.H.fi++[p]).length c) (S.H.fi.length+1) (S.H.fi.flatMap rG++rG p))
 (hb:aG w2 b (bH (jI S) 8 [.slice a (S.H.fi++[p]).length c]) 98) (d:w1.grownBy w2 (some b)):fF w2 B b { S with H:={ S.H with ai:=a,ci:=c,fi:=S.H.fi++[p] } }:=by
 have hF:rC w1 B (.slice a (S.H.fi++[p]).length c) (S.H.fi++[p]):=h.ma.st.app ho A O M;have E:aG w1 b (jI S) 98/\Own w1 B 66 13 (.slice S.H.af S.H.m.fs.length S.H.cf) S.H.m.fs.length (S.H.m.fs.flatMap ni)/\Own w1 B 3 1 (.slice S.H.asl S.H.sl.length S.H.csl) S.H.sl.length (S.H.sl.map gF) /\
   mZ w1 B (.slice S.H.wb S.H.sw.blocks.length S.H.cwb) (.slice S.H.wq S.H.sw.queue.length S.H.cwq) S.H.sw/\mZ w1 B (.slice S.H.db S.H.dk.blocks.length S.H.cdb) (.slice S.H.dq S.H.dk.queue.length S.H.cdq) S.H.dk /\
   Own w1 B 122 3 (.slice S.H.ac S.H.ca.length S.H.cc) S.H.ca.length (S.H.ca.flatMap iL)/\Own w1 B 76 10 (.slice S.H.ap S.H.sp.length S.H.cp) S.H.sp.length (S.H.sp.flatMap ug) /\
   (∀p∈S.H.sp,Own w1 B 94 7 (.slice p.aa p.ar.length p.ac) p.ar.length (p.ar.flatMap mV)/\sM w1 B (nT p.ts) p.tb)/\Own w1 B 69 192 (.slice S.ab S.T.length S.cb) S.T.length (S.T.flatMap tL)/\vG w1 S.al S.cl S.l.length (S.l.map zS):=by
  rcases tJ h.ma.st.own O with K|⟨g,cs,n,J,j⟩
  ·have u:=h.below K;exact⟨u.blk,u.ma.fr,u.ma.sl,u.ma.sw,u.ma.dk,u.ma.ca,u.ma.sp,u.ma.ps,u.tt,u.rd⟩
  ·exact⟨cB h.blk n j,ax h.ma.fr n j,ax h.ma.sl n j,h.ma.sw.keep n (by decide) (by decide) j,h.ma.dk.keep n (by decide) (by decide) j,ax h.ma.ca n j,ax h.ma.sp n j,λp A=>⟨ax (h.ma.ps p A).1 n j,(h.ma.ps p A).2.keep n (by decide) j⟩,ax h.tt n j,h.rd.keep h.ra h.bs j (jf h.ma.st.own J).1⟩
 obtain⟨k,k1,Z,Y,X,V,U,N,R,G⟩:=E;exact⟨hb,h.ge,⟨ax k1 k d,ax Z k d,Y.keep k (by decide) (by decide) d,X.keep k (by decide) (by decide) d,hF.keep k (by decide) (by decide) d,ax V k d,ax U k d,λp A=>⟨ax (N p A).1 k d,(N p A).2.keep k (by decide) d⟩,h.ma.c64⟩,
  ax R k d,G.keep h.ra (bi h.ge (rU k.lt)) d h.ge,h.ra,h.n1,λq C x I=>by
   rcases gV.1 C with C|C
   ·exact h.n2 q C x I
   rw[bC.1 C]at I;exact D x I,h.n3⟩
theorem fF.putP(h:fF w B b S)(j:aG w g cs 76)(n:B<=g)(d:w.grownBy w' (some g))(C:sp.length=S.H.sp.length)(A:Own w' B 76 10 (.slice S.H.ap sp.length S.H.cp) sp.length (sp.flatMap ug))
 (k:∀p∈sp,Own w B 94 7 (.slice p.aa p.ar.length p.ac) p.ar.length (p.ar.flatMap mV)/\sM w B (nT p.ts) p.tb):fF w' B b { S with H:={ S.H with sp:=sp } }:=
  ⟨by
    have D:=cB h.blk j d;have e:jI { S with H:={ S.H with sp:=sp } }=jI S:=by unfold jI;rw[show({ S.H with sp:=sp }:MH).sp.length=S.H.sp.length from C]
    rw[e];exact D,h.ge,
   ⟨ax h.ma.fr j d,ax h.ma.sl j d,h.ma.sw.keep j (by decide) (by decide) d,h.ma.dk.keep j (by decide) (by decide) d,h.ma.st.keep j (by decide) (by decide) d,ax h.ma.ca j d,A,λp u=>⟨ax (k p u).1 j d,(k p u).2.keep j (by decide) d⟩,h.ma.c64⟩,
   ax h.tt j d,h.rd.keep h.ra h.bs d n,h.ra,h.n1,h.n2,h.n3⟩
theorem fF.setH(h:fF w B b S){x:Int}(j:aG w' b (bH (jI S) 2 [.int .i64 x]) 98)(d:w.grownBy w' (some b)):fF w' B b { S with H:={ S.H with m:=⟨S.H.m.fs,x⟩ } }:=
  ⟨j,h.ge,
   have k:=h.ma.keep h.blk (by decide) d
   ⟨k.fr,k.sl,k.sw,k.dk,k.st,k.ca,k.sp,k.ps,k.c64⟩,ax h.tt h.blk d,h.rd.keep h.ra h.bs d h.ge,h.ra,h.n1,h.n2,h.n3⟩
end Go.Proofs.YthihaopabbpalaaGreat
namespace Pw
open Go Go.RowKit
variable {P:Program} {Q:Exit -> Act -> World -> Prop} {a0:Act} {id:Nat} {ops:Array Oper} {rest:List Oper} {t0:Array Value} {w0:World}
theorem Tf(m:Nat)(l:List mP)(J:(Nat->Bool)->(Nat->Value)->World->Prop)(u:∀L y w w',Below w.heap.size w w'->J L y w->J L y w')(D:∀y,J (λ_=>false) y w0)(h:Fixed l)(K:P.follows .mixedOrders=true)(ops' : Array Oper)(H:dn ops=ops')(A:ko ops' = true)(G:jh ops' m=true)(C:m<=ops'.size)
 (n:Nat) (I:a0.tmps.size=n) (k:lc ops' n=true)
 (d:bn (ny P ops' a0 J l) 0 (ops'.toList.take m))
 (j:∀y w,J (λi=>decide (i<m)) y w->(∀i,i<m->rl l i (y i) w)->wpList P ops' Q (ops'.toList.drop m) { a0 with tmps:=lay (λi=>decide (i<m)) y ops'.toList 0 a0.tmps } w) :
  (Code.region id ops true).wp P Q a0 w0:=by
 refine wp_region_any K (yc _ _ _ _ ?_);have E:=Iq m l J u D h A G C n I k d j;subst H;rw[vP]at E;exact E
theorem yl{u:List Deferred}(m:Nat)(l:List RV)(J:(Nat->Bool)->(Nat->Value)->World->Prop)(C:∀L y w w',Below w.heap.size w w'->J L y w->J L y w')(H:∀y,J (λ_=>false) y w0)
 (d:bn (ny P (dn ops) ⟨t0,u⟩ J (rvs l)) 0 ((dn ops).toList.take m)) {I:(Nat->Value)->List Value} (O:∀y,zz y l (dn ops).toList t0.toList=some (I y)) (R:wr ((dn ops).toList.drop m)=some rest)
 (n:∀y w,J (λi=>decide (i<m)) y w->(∀i,i<m->rl (rvs l) i (y i) w)->wpList P (dn ops) Q rest ⟨(I y).toArray,u⟩ w)
 (k:Fixed (rvs l):=by repeat (first | exact fix_nil | refine KE (λ_ _ _ h=>h) ?_))
 (N:P.follows .mixedOrders=true:=by kernel_rfl) (D:ko (dn ops)=true:=by kernel_rfl) (M:jh (dn ops) m=true:=by kernel_rfl) (j:m<=(dn ops).size:=by decide) (E:l.length=m:=by rfl) (G:idxOk l 0=true:=by kernel_rfl)
 (A:lc (dn ops) t0.size=true:=by kernel_rfl):(Code.region id ops true).wp P Q ⟨t0,u⟩ w0:=by
 refine Tf m (rvs l) J C H k N (dn ops) rfl D M j _ rfl A d λy w U K => ?_;have h:=n y w U K;rw[Pe R];show wpList P (dn ops) Q rest ⟨lay (λi=>decide (i<m)) y (dn ops).toList 0 t0,u⟩ w;rw[Qg G E j K (O y)];exact h
end Pw
namespace Go.Proofs.YthihaopabbpalaaGreat
open _root_.Go.Proofs.Tryz
open Go.RowKit Go.Maps Pw
variable {B b c cl ct f g g' gd gf go gs gw gx i n' off p q s sz:Nat} {F:PF} {L:Nat -> Bool} {P:Program} {S S' S0:MW} {T T' e e' t:TypeId} {W W' W0 w w' w1 w2:World} {a al as0:Option Addr} {bl:List Page} {cs cs' cur z zf zp zs:Array Value} {fi0:List PF} {m:Ma} {o op:Oper} {old vs xs:List Value} {ops:Array Oper} {v v0:Value} {x:Operand} {y:Nat -> Value} {ρ:Operand -> Value}
theorem JS(d:TypeId)(x y:Operand)(H:op.op = .store d x y)(b o:Nat)(v:Value)(cells:List Value)(D:ρ x = .pointer (some ⟨b,o,none⟩))(C:ρ y=v)(A:v.cells.toList=cells)(cur:Array Value)(T:TypeId)(k:aG w b cur T)(n:o+cells.length<=cur.size)(J:∀u∈cells,u.oneCell' = true)(h:(P.info? d).map (·.size)=some cells.length:=by kernel_rfl):(execOp ρ op).run P w = .ok .skip (w.setCells b o cells):=by
 have a:=run_storeCells_cells (P:=P) b o cells 0 w
  (λj I=>by rw[iK,k.cell];simp[show o+j<cur.size by omega]) (λj I=>k.free _) J
 simp only[iK]at a;have c:(storeVar d ⟨b,o,none⟩ v).run P w = .ok () (w.setCells b o cells):=by
  cases hq:P.info? d with
  | none=>simp[hq]at h
  | some i=>
   have G:i.size=cells.length:=by simpa[hq]using h
   have E:v.cells.size=cells.length:=by rw[<-A];simp
   simp[storeVar,Go.sizeOf,typeInfo,hq,G,E,A,a]
 unfold execOp;simp only[H,D,C,Instr.storeAt,Instr.sureAddr,kY,rf,qV,c]
theorem Cj{l:List mP}{J:(Nat->Bool)->(Nat->Value)->World->Prop}(h:Region.wanted o (iq ρ ops)=true)(d:(execOp ρ o).run P w = .ok .skip w')
 (k:J (dS L i) (fG y i undef) w') (j:rl l i undef w') :
  if Region.wanted o (iq ρ ops)=true then dZ P o ρ w (λv w'=>J (dS L i) (fG y i v) w'/\rl l i v w')else J (dS L i) (fG y i undef) w/\rl l i undef w:=by
 rw[if_pos h];unfold dZ;rw[d];exact⟨k,j⟩
def Gt(S:MW)(B b:Nat)(w:World)(P:PS):(Nat->Bool)->(Nat->Value)->World->Prop:=λL y W=>
 (∀k,10<=k->k<16->L (k+1)=true->L k=true)/\(L 16=true->L 5=true) /\
 (L 16=false->fF W B b S/\MS w b S W S) /\
 (L 15=true->L 16=false->∃a e,y 15 = .slice a 1 e/\vG W a e 1 (ug P)) /\
 (L 16=true->∃w1,fF w1 B b S/\MS w b S w1 S/\w1.grownBy W (Value.slice S.H.ap S.H.sp.length S.H.cp).ownBlock/\Own W B 76 10 (y 16) (S.H.sp.length+1) (S.H.sp.flatMap ug++ug P)/\oJ w1 (.slice S.H.ap S.H.sp.length S.H.cp) (y 16))
theorem Kj{row:Option Nat}(d:w.grownBy w1 row)(h:Below w1.heap.size w1 w2):w.grownBy w2 row:=
 ⟨h.os.trans d.os,h.tape.trans d.tape,h.output.trans d.output,bi d.size h.size,λk j n=>(h.block k (pu j d.size)).trans (d.block k j n)⟩
theorem ji{P:PS}:∀L y W W',Below W.heap.size W W'->Gt S B b w P L y W->Gt S B b w P L y W':=
 λ_ _ _ _ hb ⟨h1,h2,h3,h4,h5⟩=>⟨h1,h2,λe=>⟨(h3 e).1.below hb,(h3 e).2.below hb⟩,λu n=>by
  obtain⟨a,e,k1,d⟩:=h4 u n;exact⟨a,e,k1,d.below hb⟩,λe=>by
  obtain⟨w1,k1,d,k,j,h⟩:=h5 e;exact⟨w1,k1,d,Kj k hb,j.below hb,h⟩⟩
theorem jT{P:PS}(H:∀k,10<=k->k<16->k+1=i->L k=true)(h:Gt S B b w P L y W)(j:i≠15/\i≠16:=by decide):Gt S B b w P (dS L i) (fG y i v) W:=by
 obtain⟨M,h2,K,J,I⟩:=h;have D:dS L i 15=L 15:=by unfold dS;rw[if_neg (λe=>j.1 e.symm)]
 have d:dS L i 16=L 16:=by unfold dS;rw[if_neg (λe=>j.2 e.symm)]
 have u:fG y i v 15=y 15:=by unfold fG;rw[if_neg (λe=>j.1 e.symm)]
 have n:fG y i v 16=y 16:=by unfold fG;rw[if_neg (λe=>j.2 e.symm)]
 have A:∀k,L k=true->dS L i k=true:=λk G=>by unfold dS;split<;>simp[G]
 refine⟨λk k1 E C => ?_,λe=>A 5 (h2 (by rw[<-d];exact e)),by rw[d];exact K,by rw[D,d,u];exact J,by rw[d,n];exact I⟩
 by_cases e:k+1=i
 ·exact A k (H k k1 E e)
 refine A k (M k k1 E ?_);unfold dS at C;rw[if_neg e]at C;exact C
theorem UJ{P:PS}{e:Nat}(D:Below W.heap.size W W')(j:L 14=true)(h:Gt S B b w P L y W)(A:vG W' a e 1 (ug P)):Gt S B b w P (dS L 15) (fG y 15 (.slice a 1 e)) W':=by
 obtain⟨H,h2,G,I,E⟩:=ji _ _ _ _ D h;have n:∀k,L k=true->dS L 15 k=true:=λk C=>by unfold dS;split<;>simp[C]
 refine⟨λk k1 u d => ?_,λe=>h2 e,G,λ_ _=>⟨a,e,rfl,A⟩,E⟩
 by_cases e:k+1=15
 ·obtain rfl:k=14:=by omega
  exact n 14 j
 refine n k (H k k1 u ?_);unfold dS at d;rw[if_neg e]at d;exact d
theorem VD{P:PS}(n:L 15=true)(h5' : L 5=true)(d:L 16=false)(h:Gt S B b w P L y W)(I:W.grownBy W' (Value.slice S.H.ap S.H.sp.length S.H.cp).ownBlock)
 (E:Own W' B 76 10 v (S.H.sp.length+1) (S.H.sp.flatMap ug++ug P)) (D:oJ W (.slice S.H.ap S.H.sp.length S.H.cp) v):Gt S B b w P (dS L 16) (fG y 16 v) W':=by
 obtain⟨J,h2,A,M,K⟩:=h;have u:∀k,L k=true->dS L 16 k=true:=λk G=>by unfold dS;split<;>simp[G]
 refine⟨λk k1 C j => ?_,λ_=>h5',λe=>(by cases e),λ_ e=>(by cases e),λ_=>⟨W,(A d).1,(A d).2,I,E,D⟩⟩
 by_cases e:k+1=16
 ·obtain rfl:k=15:=by omega
  exact u 15 n
 refine u k (J k k1 C ?_);unfold dS at j;rw[if_neg e]at j;exact j
theorem DC{P:PS}(h:Gt S B b w P L y W)(j:L i=false)(n:i=5\/(10<=i/\i<=16):=by decide):fF W B b S/\MS w b S W S:=by
 refine h.2.2.1 ?_;cases e:L 16 with
 | false=>rfl
 | true=>
  exfalso;rcases n with rfl|⟨k1,u⟩
  ·rw[h.2.1 e]at j;cases j
  have:∀d,d<=6->L (16-d)=true:=by
   intro d
   induction d with
   | zero=>intro _;exact e
   | succ d ih=>intro A;exact h.1 (16-(d+1)) (by omega) (by omega) (by rw[show 16-(d+1)+1=16-d by omega];exact ih (by omega))
  have k:=this (16-i) (by omega);rw[show 16-(16-i)=i by omega,j]at k;cases k
def XJ(S:MW)(B b:Nat)(w:World)(r:Ending)(w' : World):Prop:=∃S',r = .returned (.tuple #[])/\fF w' B b S'/\MS w b S w' S'/\More S S'
theorem VU(t:List En)(k:Nat)(d:k<64):(tL t).toArray.extract (k*3) (k*3+3)=jm (t.getD k zEn):=by
 apply mI;intro j;rw[Array.getElem?_extract];have n:(tL t).toArray.size=192:=by simp[zw]
 by_cases h:j<3
 ·rw[if_pos (by omega)];have:=Pf t k j d h;simpa[lZ]using this
 ·rw[if_neg (by omega),mM (by show 3<=j;omega)]
theorem entry_size3:(Tryz.prog.info? 68).map (·.size)=some 3:=by kernel_rfl
theorem Ba(t:List En)(k:Nat)(d:k<64)(e:En)(h:t.getD k zEn=e)(w:World):(Instr.index 69 (.agg (tL t).toArray) (.int .i64 k)).run Tryz.prog w = .ok (.agg (jm e)) w:=
 xK underlying69 underlying68 rfl entry_size3 _ k _ d (by rw[<-h];exact VU t k d) _ w
def NP(S0 S S' : MW)(B b:Nat)(w:World)(gx gf:Nat)(e:En)(F:Array Value):(Nat->Bool)->(Nat->Value)->World->Prop:=λL _ W=>
 (aG W gx (jm e) 68/\aG W gf F 81)/\(L 14=false->fF W B b S/\MS w b S0 W S)/\(L 14=true->fF W B b S'/\MS w b S0 W S')
theorem bA{e:En}{F:Array Value}:∀L y W W',Below W.heap.size W W'->NP S0 S S' B b w gx gf e F L y W->NP S0 S S' B b w gx gf e F L y W':=
 λ_ _ _ _ hb ⟨h1,h2,h3⟩=>⟨⟨h1.1.ext hb,h1.2.ext hb⟩,λe=>⟨(h2 e).1.below hb,(h2 e).2.below hb⟩,λe=>⟨(h3 e).1.below hb,(h3 e).2.below hb⟩⟩
theorem DT{e:En}{F:Array Value}(h:NP S0 S S' B b w gx gf e F L y W)(d:(jI S')[12]?=(jI S)[12]?):W.cell? ⟨b,12,none⟩=(jI S)[12]?:=by
 cases hL:L 14 with
 | false=>exact(h.2.1 hL).1.blk.cell 12
 | true=>rw[<-d];exact(h.2.2 hL).1.blk.cell 12
theorem uE{T:List (List En)}(d:BH m T)(C:m.sp.length=2){n:Nat}{x:En}(k:n<64)(A:eP x=0)(q j:Nat)(u:j≠n:=by omega):fT (setL (setL T 0 n x) 1 n x) q j=fT T q j:=by
 rw[xu (d.set (p:=0) (by omega) A) (by omega) k,if_neg (λh=>u h.2),xu d (by omega) k,if_neg (λh=>u h.2)]
theorem Li{y:Operand}{n:Nat}{k:IntKind}(j:o.op = .indexAddr 34 x y)(h:ρ x = .slice (some ⟨b,off,none⟩) n c)(d:ρ y = .int k (i:Int))(u:i<n) :
  (execOp ρ o).run Tryz.prog w = .ok (.value (.pointer (some ⟨b,off+i,none⟩))) w:=by
 have:=bN (P:=Tryz.prog) (w:=w) j h d u underlying34 (show(Tryz.prog.info? 3).map (·.size)=some 1 by kernel_rfl);rw[this,uo]
theorem fF.locE(h:fF w B b S)(G:aG w g cs 68)(E:¬nS b S g)(C:∀p∈S.H.sp,∀k v,k<8->(nT p.ts)[k]?=some v->v.ownBlock≠some g)(D:B<=g)(j:w.grownBy w' (some g)):fF w' B b S:=by
 have d:∀ {a:Option Addr},oB a∈iZ S->∀n c g',(Value.slice a n c).ownBlock=some g'->some g≠some g':=λJ n c g' A e=>by cases e;rw[jF]at A;exact E (.inr (by rw[<-A];exact J))
 exact⟨h.blk.grown j (λe=>E (.inl (aM e))),h.ge,⟨h.ma.fr.grown j (d (by simp[iZ]) _ _),h.ma.sl.grown j (d (by simp[iZ]) _ _),⟨h.ma.sw.b.grown j (d (by simp[iZ]) _ _),h.ma.sw.q.grown j (λg' A=>by rw[h.n3]at A;cases A)⟩,⟨h.ma.dk.b.grown j (d (by simp[iZ]) _ _),h.ma.dk.q.grown j (d (by simp[iZ]) _ _)⟩,
  ⟨h.ma.st.own.grown j (d (by simp[iZ]) _ _),λi p u=>ax (h.ma.st.each i p u) G j,h.ma.st.apart⟩,h.ma.ca.grown j (d (by simp[iZ]) _ _),h.ma.sp.grown j (d (by simp[iZ]) _ _),λp u=>⟨ax (h.ma.ps p u).1 G j,⟨(h.ma.ps p u).2.sz,λk f=>by obtain⟨v,I,h2⟩:=(h.ma.ps p u).2.own k f;exact⟨v,I,h2.grown j (λg' A e=>by cases e;exact C p u k v f I A)⟩,(h.ma.ps p u).2.apart⟩⟩,h.ma.c64⟩,
  h.tt.grown j (d (by simp[iZ]) _ _),h.rd.keep h.ra h.bs j D,h.ra,h.n1,h.n2,h.n3⟩
theorem fF.newE(h:fF w B b S){x:Nat}(D:w.heap.size<=x):∀p∈S.H.sp,∀k v,k<8->(nT p.ts)[k]?=some v->v.ownBlock≠some x:=λp n k v u j A=>by
 obtain⟨C,d,h2⟩:=(h.ma.ps p n).2.own k u;rw[j]at d;cases d;have:=JG h2 x A;omega
theorem QR(S:MW)(B b:Nat)(w:World)(h:fF w B b S)(M:Bd S.H.ma S.T)(hf:OI S)(hl:S.H.sp.length=1) :
  Calls Tryz.prog 36 #[.pointer (some ⟨b,0,none⟩)] w (XJ S B b w):=by
 obtain⟨C,gJ⟩:=List.length_eq_one_iff.1 hl;have gN:=ae M;have qj:=ae hf;have qF:=ae h.bs;have kc:=ae gJ;obtain⟨gp,op,cap,cur,hv,gg,hP,ge,kg,kj⟩:=h.ma.sp.put oU (by decide) 0 (by rw[hl];decide);have kX:S.H.ap=some ⟨gp,op,none⟩:=(oO hv).1;have kW:∀W,fF W B b S->W.cell? ⟨gp,op+1,none⟩=some (.slice C.aa C.ar.length C.ac):=λW hW=>by
  obtain⟨g2,o2,_,_,k6,_,_,_,ql,_⟩:=hW.ma.sp.put oU (by decide) 0 (by rw[hl];decide);have R:(some (⟨g2,o2,none⟩:Addr))=some ⟨gp,op,none⟩:=(oO k6).1.symm.trans kX;cases R;have e0:S.H.sp[0]'(by rw[hl];decide)=C:=by simp[gJ]
  rw[e0]at ql;have:=ql 1 _ rfl;simpa using this
 clear M hf gJ hv hP ge kg kj;go_enter func36,ntmps36;go_upto_region 0 with(fail);refine iH 20 [_,_,_,_,_,.v (.slice (some ⟨gp,op,none⟩) 1 S.H.cp),_,_,_,_,.v (.slice (some ⟨gp,op,none⟩) 1 S.H.cp),_,_,.v (.slice C.aa C.ar.length C.ac),.v (.agg (ze ⟨true,C.aa,C.ac,C.ar,nTs,zTb⟩)),.r 15 ((dJ λ_=>True)),.r 16 ((dJ λ_=>True)),_,_,_] (Gt S B b w ⟨true,C.aa,C.ac,C.ar,nTs,zTb⟩) ji (λ_=>⟨λk _ _ e=>(by cases e),λe=>(by cases e),λ_=>⟨h,MS.refl _ _ _⟩,λe=>(by cases e),λe=>(by cases e)⟩) (Qk ji rfl (Qk ji rfl (Qk ji rfl (Qf ji b 1 rfl rfl (Qf ji b 11 rfl rfl (ah ?_ (Qk ji rfl (Qk ji rfl (Qf ji b 1 rfl rfl (Qf ji b 11 rfl rfl (ah ?_ (Qr ji (.pointer (some ⟨gp,op,none⟩)) (λρ y W o=>(bN (i:=0) rfl (aH rfl o) (aH rfl o) (by decide) underlying43 space_size)) rfl rfl (Qf ji gp (op+1) rfl rfl (ah ?_ (ah ?_ (ah ?_ (ah ?_ (Qk ji rfl (Qf ji b 1 rfl rfl (Qf ji b 11 rfl rfl (aF) (λ_ _ _ _ c h=>jT (by intro k h1 h2 e;first | omega | (obtain rfl:=lM e;exact c _ rfl)) h)) (λ_ _ _ _ c h=>jT (by intro k h1 h2 e;first | omega | (obtain rfl:=lM e;exact c _ rfl)) h)) (λ_ _ _ _ c h=>jT (by intro k h1 h2 e;first | omega | (obtain rfl:=lM e;exact c _ rfl)) h)))))) (λ_ _ _ _ c h=>jT (by intro k h1 h2 e;first | omega | (obtain rfl:=lM e;exact c _ rfl)) h)) (λ_ _ _ _ c h=>jT (by intro k h1 h2 e;first | omega | (obtain rfl:=lM e;exact c _ rfl)) h))) (λ_ _ _ _ c h=>jT (by intro k h1 h2 e;first | omega | (obtain rfl:=lM e;exact c _ rfl)) h)) (λ_ _ _ _ c h=>jT (by intro k h1 h2 e;first | omega | (obtain rfl:=lM e;exact c _ rfl)) h)) (λ_ _ _ _ c h=>jT (by intro k h1 h2 e;first | omega | (obtain rfl:=lM e;exact c _ rfl)) h)) (λ_ _ _ _ c h=>jT (by intro k h1 h2 e;first | omega | (obtain rfl:=lM e;exact c _ rfl)) h))) (λ_ _ _ _ c h=>jT (by intro k h1 h2 e;first | omega | (obtain rfl:=lM e;exact c _ rfl)) h)) (λ_ _ _ _ c h=>jT (by intro k h1 h2 e;first | omega | (obtain rfl:=lM e;exact c _ rfl)) h)) (λ_ _ _ _ c h=>jT (by intro k h1 h2 e;first | omega | (obtain rfl:=lM e;exact c _ rfl)) h)) (λ_ _ _ _ c h=>jT (by intro k h1 h2 e;first | omega | (obtain rfl:=lM e;exact c _ rfl)) h)) (λ_ _ _ _ c h=>jT (by intro k h1 h2 e;first | omega | (obtain rfl:=lM e;exact c _ rfl)) h)) (λ_=>rfl) rfl ?_
 ·intro ρ y W L N hn t c J M;refine fV ji (d:=(λ_ _ h=>jT (by intro k h1 h2 e;first | omega | (obtain rfl:=lM e;exact c _ rfl)) h)) J ?_;have E9:=N 9 4 rfl;have h4:y 4=_:=M 4 rfl;have hm:=(DC J t).1;refine ak (.slice (some ⟨gp,op,none⟩) 1 S.H.cp) (by simp[execOp,go_sem,E9,h4,hm.blk.cell,jI,kX,hl])
 ·intro ρ y W L N hn t c J M;refine fV ji (d:=(λ_ _ h=>jT (by intro k h1 h2 e;first | omega | (obtain rfl:=lM e;exact c _ rfl)) h)) J ?_;have qL:=N 14 9 rfl;have K:y 9=_:=M 9 rfl;have hm:=(DC J t).1;refine ak (.slice (some ⟨gp,op,none⟩) 1 S.H.cp) (by simp[execOp,go_sem,qL,K,hm.blk.cell,jI,kX,hl])
 ·intro ρ y W L N hn t c J M;refine fV ji (d:=(λ_ _ h=>jT (by intro k h1 h2 e;first | omega | (obtain rfl:=lM e;exact c _ rfl)) h)) J ?_;have qK:=N 17 12 rfl;have hA:y 12=_:=M 12 rfl;have hm:=(DC J t).1;refine ak (.slice C.aa C.ar.length C.ac) (by simp[execOp,go_sem,qK,hA,kW W hm])
 ·intro ρ y W L N hn t c J M;refine fV ji (d:=(λ_ _ h=>jT (by intro k h1 h2 e;first | omega | (obtain rfl:=lM e;exact c _ rfl)) h)) J ?_;have qJ:=N 18 13 rfl;have kD:y 13=_:=M 13 rfl;have EC:∀v,ρ (.const v)=v:=λv=>hn (.const v) trivial;refine ak (.agg (ze ⟨true,C.aa,C.ac,C.ar,nTs,zTb⟩)) (by simp[execOp,go_sem,qJ,kD,EC,ze,nTs])
 ·intro ρ y W L N hn t c J M;have qI:=N 19 14 rfl;have qG:y 14=_:=M 14 rfl;refine fJ (.slice (some ⟨W.heap.size,0,none⟩) 1 1) ?_ (UJ (W':=W.alloc (.cells (ze ⟨true,C.aa,C.ac,C.ar,nTs,zTb⟩) 76)) ((Below.refl _ _).alloc (az _) _) (c 14 rfl) J ⟨az _,by unfold maxLen;omega,λe=>(by cases e),eu.new _ _ _⟩);simp[execOp,go_sem,qI.trans qG,ze]
 ·intro ρ y W L N hn t c J M;have qM:=N 10 5 rfl;have h5:y 5=_:=M 5 rfl;have qH:=N 20 15 rfl;have gm:=M 15 rfl;have hm:=(DC J t).1;obtain⟨a,e,qt,gH⟩:=J.2.2.2.1 (c 15 rfl) t;have qx:Own W B 76 10 (.slice S.H.ap S.H.sp.length S.H.cp) S.H.sp.length (S.H.sp.flatMap ug):=hm.ma.sp;refine mK (aj) (qB _ _ _ rfl B 76 _ 10 224 underlying43 space_info rfl (.slice S.H.ap S.H.sp.length S.H.cp) S.H.sp.length _ (by rw[hl,kX];exact qM.trans h5) qx a 1 e _ (qH.trans qt) gH.nl gH.le rfl gH.rd (bV (by simp[ze,nTs,Value.oneCell'])) (by unfold maxLen;omega) hm.bs) (λv W1 h=>VD (c 15 rfl) (c 5 rfl) t J h.2.1 h.1 h.2.2)
 intro y W1 gD qq;clear qq;obtain⟨w1,hq,k8,kx,own2,kL⟩:=gD.2.2.2.2 rfl;clear gD h;have hC:Own w1 B 76 10 (.slice S.H.ap S.H.sp.length S.H.cp) S.H.sp.length (S.H.sp.flatMap ug):=hq.ma.sp;have kO:C∈S.H.sp:=by rw[kc.out];exact bC.2 rfl
 have gC:=Bp hC kx hq.blk;have gt:∀p∈S.H.sp++[(⟨true,C.aa,C.ac,C.ar,nTs,zTb⟩:PS)],Own W1 B 94 7 (.slice p.aa p.ar.length p.ac) p.ar.length (p.ar.flatMap mV)/\sM W1 B (nT p.ts) p.tb:=λp hp=>by
  rcases gV.1 hp with hp|hp
  ·exact⟨jA hC kx (hq.ma.ps p hp).1,Ei hC kx (hq.ma.ps p hp).2⟩
  rw[bC.1 hp];exact⟨jA hC kx (hq.ma.ps C kO).1,Cy _ _⟩
 obtain⟨a2,c2,k6,_⟩:=own2.rd;rw[k6]at own2 kL ⊢;clear k6;have kf:(S.H.sp++[(⟨true,C.aa,C.ac,C.ar,nTs,zTb⟩:PS)]).length=S.H.sp.length+1:=by simp
 have own2' : Own W1 B 76 10 (.slice a2 (S.H.sp++[(⟨true,C.aa,C.ac,C.ar,nTs,zTb⟩:PS)]).length c2) (S.H.sp++[(⟨true,C.aa,C.ac,C.ar,nTs,zTb⟩:PS)]).length ((S.H.sp++[(⟨true,C.aa,C.ac,C.ar,nTs,zTb⟩:PS)]).flatMap ug):=by rw[kf,fM];simpa using own2
 clear own2
 go_wp2_with (refine aC b 11 [.slice a2 (S.H.sp.length+1) c2] rfl rfl rfl _ _ gC (by show 11+1<=13;omega) (by kernel_rfl) (λu hu=>by cases bC.1 hu;rfl) ?_)
 intro w3 qn kG;have h3:fF w3 B b { S with H:={ S.H with ap:=a2,cp:=c2,sp:=S.H.sp++[(⟨true,C.aa,C.ac,C.ar,nTs,zTb⟩:PS)] } }:=hq.appP kx own2' gt (by rw[kf,hl];exact qn) kG;have s3:MS w b S w3 { S with H:={ S.H with ap:=a2,cp:=c2,sp:=S.H.sp++[(⟨true,C.aa,C.ac,C.ar,nTs,zTb⟩:PS)] } }:=k8.app hq hC (by simp[iZ]) kx kG kL (λx I=>by
  rcases I with I|I
  ·exact .inl (.inl I)
  simp only[iZ,dz,ib,or_false]at I;rcases I with I|I|I|I|I|I|I|I|I<;>first|exact .inr I.symm|exact .inl (.inr (by simp[iZ,I])))
 clear hq k8 hC gC gt own2' qn kG kL kx kW kX
 -- process 0's areas
 obtain⟨g3,o3,_,_,qu,_,_,_,qk,_⟩:=h3.ma.sp.put oU (by decide) 0 (by simp);have qo:a2=some ⟨g3,o3,none⟩:=(oO qu).1;have c31:w3.cell? ⟨g3,o3+1,none⟩=some (.slice C.aa C.ar.length C.ac):=by
  have e0:(S.H.sp++[(⟨true,C.aa,C.ac,C.ar,nTs,zTb⟩:PS)])[0]'(by simp)=C:=by simp[kc.out]
  rw[e0]at qk;have:=qk 1 _ rfl;simpa using this
 have hc:=h3.blk.cell;unfold jI at hc;dsimp only at hc;rw[qo,kf]at hc;have qs:=(h3.ma.ps C (qh _ kO)).1;have k5:Hid ((bQ C.ar).1=0):=ae (gN.out.rt.pt.ar ⟨C.lv,C.ar,iw (fP S.T 0)⟩ (by
  show _∈(List.range (S.H.sp.map PS.sp).length).map λp=>({ dI S.H.ma p with tb:=iw (fP S.T p) }:Sp);rw[iA];refine⟨0,by rw[eQ,hl];decide,?_⟩;have e1:dI S.H.ma 0=C.sp:=by show(S.H.sp.map PS.sp).getD 0 zSp=_;rw[kc.out];rfl
  rw[e1];rfl))
 have qR:C.ar.length<=16:=(iX.1 k5.out).1;have g6:=ae (lK (iX.1 k5.out).2)
 go_wp2_with fail
 refine(pR C.ar C.aa C.ac _ (uK qs).rd (by omega) (λx I=>(srtF_ok g6.out x I).1)).mono ?_;rintro r w4 ⟨rfl,gS⟩;have h4:=h3.below gS;have s4:=s3.below gS;have kr:=ae (ky (dm C.ar));clear h3 s3 hc c31 qo gS qs
 go_wp2_with (refine aJ rfl rfl (fC (dm C.ar)) rfl rfl (by rw[kr.out];rfl) (by rw[kr.out];exact ones_size) (Bz _) ?_)
 intro w5 gP fx5;have h5:=h4.below gP;have s5:=s4.below gP;have gb:=ae (h4.new (az _));have qA:=ae s4.size;clear h4 s4 gP;generalize w4.heap.size=gf at *
 have qp:S.T.length=1:=by have K:=gN.out.ok.len;have h8:S.H.ma.sp.length=S.H.sp.length:=eQ _;omega
 have kZ:=ae qp;have gK:=ae hl;clear qp hl;have hc:=h5.blk.cell;unfold jI at hc;dsimp only at hc;have ks:Own w5 B 69 192 (.slice S.ab S.T.length S.cb) S.T.length (S.T.flatMap tL):=h5.tt
 go_wp2_with (at_builtin;go_must (refine CL rfl _ _ rfl (by kernel_rfl) B (.slice S.ab S.T.length S.cb) S.T.length (S.T.flatMap tL) rfl ks rfl (by have:=kZ.out;omega) h5.bs ?_))
 intro v6 w6 own6 gi kK;have kk:=(Below.refl w5.heap.size w5).alloc (az _) (.cells (tL (List.replicate 64 zEn)).toArray 69);have gl:=h5.below kk;have s5a:=s5.below kk;have hS:=ks.below kk;have gj:=fx5.ext kk;have kv:∀ {x:Nat} {cs:Array Value} {T:TypeId},aG (w5.alloc (.cells (tL (List.replicate 64 zEn)).toArray 69)) x cs T->T≠69->aG w6 x cs T:=λgd hT=>by
  rcases tJ hS gi with hb0|⟨g,cs,hk,_,hg'⟩
  ·exact gd.ext hb0
  ·exact cB gd hk (s:=(λe=>hT e.symm)) hg'
 have gB:=kv gl.blk (by decide);have fx6:=kv gj (by decide);have qD:∀x,v6.ownBlock=some x->x≠gf:=λx I e=>by
  rcases kK with e1|e1
  ·rw[e1]at I;obtain⟨cs,hk⟩:=mQ hS x I;rw[e]at hk;exact mG hk gj (by decide) rfl
  have K:=e1 x I;rw[e]at K;exact Nat.lt_irrefl _ (pu gj.lt K)
 obtain⟨a4,c4,rfl,_⟩:=own6.rd;have qb:some gf=oB a4->False:=λe=>qD gf (by rw[jF];exact e.symm) rfl;have ke:(S.T++[List.replicate 64 zEn]).length=S.T.length+1:=by simp
 have own6' : Own w6 B 69 192 (.slice a4 (S.T++[List.replicate 64 zEn]).length c4) (S.T++[List.replicate 64 zEn]).length ((S.T++[List.replicate 64 zEn]).flatMap tL):=by rw[ke,fM];simpa using own6
 clear hc h5 s5 ks own6 kk kv gj fx5
 go_wp2_with (refine aC b 12 [.slice a4 (S.T.length+1) c4] rfl rfl rfl _ _ gB (by show 12+1<=13;omega) (by kernel_rfl) (λu hu=>by cases bC.1 hu;rfl) ?_)
 intro w7 qm gh;have h7:fF w7 B b { S with H:={ S.H with ap:=some ⟨g3,o3,none⟩,cp:=c2,sp:=S.H.sp++[(⟨true,C.aa,C.ac,C.ar,nTs,zTb⟩:PS)] },ab:=a4,cb:=c4,T:=S.T++[List.replicate 64 zEn] }:=gl.appT gi own6' (by rw[ke];exact qm) gh;have s7:MS w b S w7 { S with H:={ S.H with ap:=some ⟨g3,o3,none⟩,cp:=c2,sp:=S.H.sp++[(⟨true,C.aa,C.ac,C.ar,nTs,zTb⟩:PS)] },ab:=a4,cb:=c4,T:=S.T++[List.replicate 64 zEn] }:=s5a.app gl hS (by simp[iZ]) gi gh kK (λx I=>by
  rcases I with I|I
  ·exact .inl (.inl I)
  simp only[iZ,dz,ib,or_false]at I;rcases I with I|I|I|I|I|I|I|I|I<;>first|exact .inr I.symm|exact .inl (.inr (by simp[iZ,I])))
 have qa:gf≠b:=λe=>gb.out (.inl e);have gu:Hid (¬nS b ({ S with H:={ S.H with ap:=some ⟨g3,o3,none⟩,cp:=c2,sp:=S.H.sp++[(⟨true,C.aa,C.ac,C.ar,nTs,zTb⟩:PS)] },ab:=a4,cb:=c4,T:=S.T++[List.replicate 64 zEn] }:MW) gf):=ae λhk=>by
  rcases hk with hk|hk
  ·exact gb.out (.inl hk)
  simp only[iZ,dz,ib,or_false]at hk;have qQ:gf<w6.heap.size:=fx6.lt;rcases hk with hk|hk|hk|hk|hk|hk|hk|hk|hk
  all_goals first
   | exact qb hk
   | exact gb.out (.inr (by simp[iZ,hk]))
 have fx7:=fx6.grown gh (λe=>qa (aM e).symm);clear gl s5a hS gB own6' qm gh kK gi fx6;have kE:({ S with H:={ S.H with ap:=some ⟨g3,o3,none⟩,cp:=c2,sp:=S.H.sp++[(⟨true,C.aa,C.ac,C.ar,nTs,zTb⟩:PS)] },ab:=a4,cb:=c4,T:=S.T++[List.replicate 64 zEn] }:MW).H.ma = { S.H.ma with sp:=S.H.ma.sp++[⟨true,C.ar,zTb⟩] }:=by simp[MH.ma,PS.sp]
 have ku:Hid (More S { S with H:={ S.H with ap:=some ⟨g3,o3,none⟩,cp:=c2,sp:=S.H.sp++[(⟨true,C.aa,C.ac,C.ar,nTs,zTb⟩:PS)] },ab:=a4,cb:=c4,T:=S.T++[List.replicate 64 zEn] }):=ae ⟨by
  rw[kE];exact gN.out.more (s:=⟨true,C.ar,zTb⟩) (by show(S.H.sp.map PS.sp).length<4;rw[eQ,gK.out];decide) rfl k5.out,λp hp n g hg=>by
  rcases gV.1 hp with hp|hp
  ·exact qj.out p hp n g hg
  rw[bC.1 hp]at hg;exact qj.out C kO n g hg,rfl,rfl,rfl,by simp,rfl⟩
 have qO:Hid (({ S with H:={ S.H with ap:=some ⟨g3,o3,none⟩,cp:=c2,sp:=S.H.sp++[(⟨true,C.aa,C.ac,C.ar,nTs,zTb⟩:PS)] },ab:=a4,cb:=c4,T:=S.T++[List.replicate 64 zEn] }:MW).H.ma.sp.length=2):=ae (by rw[kE,jq];show(S.H.sp.map PS.sp).length+1=2;rw[eQ,gK.out]);have qP:Hid ((dI ({ S with H:={ S.H with ap:=some ⟨g3,o3,none⟩,cp:=c2,sp:=S.H.sp++[(⟨true,C.aa,C.ac,C.ar,nTs,zTb⟩:PS)] },ab:=a4,cb:=c4,T:=S.T++[List.replicate 64 zEn] }:MW).H.ma 0).ar=C.ar/\(dI ({ S with H:={ S.H with ap:=some ⟨g3,o3,none⟩,cp:=c2,sp:=S.H.sp++[(⟨true,C.aa,C.ac,C.ar,nTs,zTb⟩:PS)] },ab:=a4,cb:=c4,T:=S.T++[List.replicate 64 zEn] }:MW).H.ma 1).ar=C.ar):=ae (by
  rw[kE];have e:S.H.ma.sp=[C.sp]:=by show S.H.sp.map PS.sp=_;rw[kc.out];rfl
  unfold dI;simp only[e];exact⟨rfl,rfl⟩)
 obtain⟨t0,k7⟩:=List.length_eq_one_iff.1 kZ.out;have gA:Hid ((∀j:Nat,fT ({ S with H:={ S.H with ap:=some ⟨g3,o3,none⟩,cp:=c2,sp:=S.H.sp++[(⟨true,C.aa,C.ac,C.ar,nTs,zTb⟩:PS)] },ab:=a4,cb:=c4,T:=S.T++[List.replicate 64 zEn] }:MW).T 0 j=t0.getD j zEn)/\∀j:Nat,(fT ({ S with H:={ S.H with ap:=some ⟨g3,o3,none⟩,cp:=c2,sp:=S.H.sp++[(⟨true,C.aa,C.ac,C.ar,nTs,zTb⟩:PS)] },ab:=a4,cb:=c4,T:=S.T++[List.replicate 64 zEn] }:MW).T 1 j).k=0):=ae (by unfold fT fP;simp only[k7];refine⟨λj=>rfl,λj => ?_⟩;show((List.replicate 64 zEn).getD j zEn).k=0;rw[aW,qw];split<;>rfl);obtain⟨gT,oT,_,_,g5,_,_,_,gO,_⟩:=h7.tt.put zw (by decide) 0 (by simp);have qC:a4=some ⟨gT,oT,none⟩:=(oO g5).1;have gr:eu w7 (some ⟨gT,oT,none⟩) (tL t0):=λj u hj=>⟨gT,oT,rfl,by
  have e0:(S.T++[List.replicate 64 zEn])[0]'(by simp)=t0:=by simp[k7]
  rw[e0]at gO;simpa using gO j u hj⟩
 have kC:(S.T++[List.replicate 64 zEn]).length=2:=by rw[ke,kZ.out]
 have hc:=h7.blk.cell;unfold jI at hc;dsimp only at hc;rw[qC,kC]at hc;have qN:=ae k7;clear kE k7 g5 gO;have gq:(Tryz.prog.info? 69).map (·.size)=some (tL t0).length:=by rw[zw];exact ents_size
 have kJ:=ae gq;clear gq;go_upto_region 3 with(fail);clear qa ke kf qF gb qA kr k5;go_upto_region 4 with(refine ay gT oT (tL t0) gr _ underlying69 rfl kJ.out ?_);have h7:fF w7 B b { S with H:={ S.H with ap:=some ⟨g3,o3,none⟩,cp:=c2,sp:=S.H.sp++[(⟨true,C.aa,C.ac,C.ar,nTs,zTb⟩:PS)] },ab:=a4,cb:=c4,T:=S.T++[List.replicate 64 zEn] }:=h7;have qz:Hid (({ S with H:={ S.H with ap:=some ⟨g3,o3,none⟩,cp:=c2,sp:=S.H.sp++[(⟨true,C.aa,C.ac,C.ar,nTs,zTb⟩:PS)] },ab:=a4,cb:=c4,T:=S.T++[List.replicate 64 zEn] }:MW).T.length=2):=ae kC;clear hc gr kJ kC;have gE:Hid (({ S with H:={ S.H with ap:=some ⟨g3,o3,none⟩,cp:=c2,sp:=S.H.sp++[(⟨true,C.aa,C.ac,C.ar,nTs,zTb⟩:PS)] },ab:=a4,cb:=c4,T:=S.T++[List.replicate 64 zEn] }:MW).H.sp=S.H.sp++[(⟨true,C.aa,C.ac,C.ar,nTs,zTb⟩:PS)]):=ae rfl;have qE:Hid (({ S with H:={ S.H with ap:=some ⟨g3,o3,none⟩,cp:=c2,sp:=S.H.sp++[(⟨true,C.aa,C.ac,C.ar,nTs,zTb⟩:PS)] },ab:=a4,cb:=c4,T:=S.T++[List.replicate 64 zEn] }:MW).T=S.T++[List.replicate 64 zEn]):=ae rfl;generalize ({ S with H:={ S.H with ap:=some ⟨g3,o3,none⟩,cp:=c2,sp:=S.H.sp++[(⟨true,C.aa,C.ac,C.ar,nTs,zTb⟩:PS)] },ab:=a4,cb:=c4,T:=S.T++[List.replicate 64 zEn] }:MW)=S5 at *
 go_loopw [50] (fun i wr => ∃(n:Nat) (A:MW),n<=64/\i = .int .i64 n/\fF wr B b A/\MS w b S wr A/\aG wr gf (fC (dm C.ar)) 81/\Hid (¬nS b A gf)/\Hid (JX S5 A/\Bd A.H.ma A.T/\∀j:Nat,n<=j->fT A.T 0 j=t0.getD j zEn/\(fT A.T 1 j).k=0)) (fun i _=>64-(intOf i).toNat)
 case atStart=>exact⟨0,S5,bq _,rfl,h7,s7,fx7,gu,ae ⟨.refl _,ku.out.bd,λj _=>by rw[qE.out];exact⟨gA.out.1 j,gA.out.2 j⟩⟩⟩
 case round=>
  clear h7 s7 fx7 gu;obtain⟨n,A,hn,rfl,hm,hs,fx,gc,hN⟩:=hrel
  by_cases D:n<64
  ·have qy:(n:Int)<64:=by omega
   obtain⟨e,he⟩:∃e,t0.getD n zEn=e:=⟨_,rfl⟩;have qc:=Ba t0 n D e he;unfold jm at qc;have gM:=ae he;clear he;have hO:A.T.length=2:=by have K:=hN.out.2.1.ok.len;rw[K];show(A.H.sp.map PS.sp).length=2;rw[eQ,hN.out.1.sp,ku.out.sp,gK.out]
   have ko:Hid (∀p,p<2->(fP A.T p).length=64):=ae λp hp=>hN.out.2.1.ok.l64 (by rw[<-hN.out.2.1.ok.len,hO];exact hp);go_upto_region 6 with(fail);refine iC (λW=>Code.wp _ _ _ _ W) λW1 gk bx1 k8 => ?_;have hq:=hm.below gk;have sm1:=hs.below gk;have fx1:=fx.ext gk;have z:=ae (hm.new (az _));have qi:=ae (hm.newE (az _));have qe:B<=wr.heap.size:=hm.bs;have qd:=ae hs.size;have qf:gf≠wr.heap.size:=λR=>by have:=fx.lt;omega
   have kz:=bx1.cell;clear k8 gk hm hs fx qc;generalize wr.heap.size=gx at *
   by_cases hk1:e.k=1
   ·have O:=hN.out.1;have Z:=hN.out.2.1;have hL:A.H.ma.sp.length=2:=by rw[<-Z.ok.len];exact hO
    have hh:fT A.T 0 n=e:=by rw[(hN.out.2.2 n (az _)).1];exact gM.out
    have hE:=zx Z.ok (p:=0) (n:=n) D;rw[hh]at hE;have kh:=mO Z.ok (p:=0) (n:=n) D;rw[hh]at kh;obtain⟨g,hI,hY⟩:=Z.rt.en 0 n (by rw[kh,hk1];decide);rw[kh]at hY;have kP:0<=e.n:=by rcases(bG _).1 hE with K | K | K<;>omega
    obtain⟨f,kV⟩:=iO kP;have kU:f<A.H.m.fs.length:=by have K:=hY.lt hk1;have e1:((fq A.H.ma A.T).m.fs.length:Nat)=A.H.m.fs.length:=rfl;omega
    rw[pQ]at hI;have ki:(dI A.H.ma 1).ar=(dI A.H.ma 0).ar/\(dI A.H.ma 0).ar=C.ar:=by
     have e1:A.H.ma.sp=[C.sp,⟨true,C.ar,zTb⟩]:=by show A.H.sp.map PS.sp=_;rw[O.sp,gE.out,kc.out];rfl
     unfold dI;rw[e1];exact⟨rfl,rfl⟩
    have k9:dm C.ar n=some g:=by rw[oN g6.out,<-ki.2];exact hI
    obtain⟨ga,off,cap,cur,hv,gg,hP,ge,kg,kj⟩:=hq.ma.fr.put eX (by decide) f kU;have gW:A.H.af=some ⟨ga,off,none⟩:=(oO hv).1;have hX:aB A.H.ma f=A.H.m.fs[f]:=by unfold aB;show A.H.m.fs.getD f fr0=_;rw[aW,aI kU];rfl
    have g8:=Z.rt.fewR (f:=f) kU;have qv:0<=(A.H.m.fs[f]).r/\(A.H.m.fs[f]).r<=257:=by rw[<-hX];exact g8
    have gX:=ae hX;have kT:=ae kj;have gw : Hid (∀j u,(ni A.H.m.fs[f])[j]?=some u->cur[off+f*13+j]?=some u):=ae λj u hj=>by rw[<-hP.cell];exact kg j u hj
    have kB:∀W,Below W1.heap.size W1 W->W.cell? ⟨ga,off+f*13+8,none⟩=some (.int .i64 (A.H.m.fs[f]).r):=λW J=>by rw[(hP.ext J).cell,<-hP.cell];exact kg 8 _ rfl
    have kY:=ae (And.intro hI (And.intro hL (And.intro ki (And.intro hE (And.intro hh k9)))));clear hX kj kg g8 hv hI hY hE kh O Z hL kP ki hh k9;generalize A.H.m.fs[f]=X at kB qv gX gw;have gI:IntKind.i64.wrap (X.r+1)=X.r+1:=bK _ (by omega);go_upto_region 7 with(fail);refine aO 14 [_,_,_,_,_,_,_,_,_,_,_,_,_,_] (Gk rfl (Gk rfl (Gf b 1 rfl rfl (Gf b 1 rfl rfl (Gf b 1 rfl rfl (Gl hq.blk (V:=.slice (some ⟨ga,off,none⟩) A.H.m.fs.length A.H.cf) (by simp[jI,gW]) rfl rfl rfl rfl (Gf gx 1 rfl rfl (Gl bx1 (V:=.int .i64 (f:Int)) (by simp[jm,kV]) rfl rfl rfl rfl (Gr (.pointer (some ⟨ga,off+f*13,none⟩)) (λρ y W J o=>(bN rfl (aH rfl o) (aH rfl o) kU underlying30 frame_size)) rfl rfl (Gf ga (off+f*13+8) rfl rfl (Gc (.int .i64 X.r) (λW J=>by simp[kB _ J]) rfl rfl rfl rfl (Gb (.int .i64 (X.r+1)) (by simp[go_sem,gI]) rfl rfl rfl rfl rfl (Gr (.pointer (some ⟨ga,off+f*13,none⟩)) (λρ y W J o=>(bN rfl (aH rfl o) (aH rfl o) kU underlying30 frame_size)) rfl rfl (Gf ga (off+f*13+8) rfl rfl (aF))))))))))))))) (λ_=>rfl) rfl ?_;intro y W8 hi _;have hr:=hP.ext hi;have kR:=hq.below hi;have sm8:=sm1.below hi;have bx8:=bx1.ext hi;have fx8:=fx1.ext hi;clear hq sm1 bx1 fx1 hP kz kB hi
    go_wp2_with (refine aC ga (off+f*13+8) [.int .i64 (X.r+1)] rfl rfl rfl _ _ hr (by show off+f*13+8+1<=cur.size;omega) (by kernel_rfl) (λu hu=>by cases bC.1 hu;rfl) ?_)
    intro w9 kH hV;rw[Lj (by omega) (λj u hj=>gw.out j u hj)]at kH;have k4:fF w9 B b (A.frs (A.H.m.fs.set f (eH X))):=kR.putF hr gg hV (fs:=A.H.m.fs.set f (eH X)) (by simp) (by simpa using kT.out _ _ kH);have gv:nS b A ga:=.inr (by simp only[iZ,gW];exact iN);have sx0:MS w b S w9 (A.frs (A.H.m.fs.set f (eH X))):=sm8.put hV gv (λx I => .inl I);have bx9:=cB bx8 hr hV;have U:=cB fx8 hr hV;have kG:w9.cell? ⟨gf,n*6+3,none⟩=some (.bool g.sh):=by rw[U.cell];exact AU (dm C.ar) n 3 D _ (by rw[kY.out.2.2.2.2.2];rfl) (by decide)
    have kz:=bx9.cell;clear kR sm8 bx8 fx8 hr kH hV gW gv;unfold jm at kz;cases hsh:g.sh
    case' true=>
     rw[hsh]at kG;have I:=k4;have sx:=sx0;have bx:=bx9;have fx1:=U;have hF:Hid (¬nS b (A.frs (A.H.m.fs.set f (eH X))) gf):=gc;have z:Hid (¬nS b (A.frs (A.H.m.fs.set f (eH X))) gx):=z;have hG:(A.frs (A.H.m.fs.set f (eH X))).T.length=2:=hO;have ha:(fP (A.frs (A.H.m.fs.set f (eH X))).T 0).length=64:=ko.out 0 (by decide);have hz:(fP (A.frs (A.H.m.fs.set f (eH X))).T 1).length=64:=ko.out 1 (by decide);have hy:Hid (JX S5 { (A.frs (A.H.m.fs.set f (eH X)))with T:=setL (setL (A.frs (A.H.m.fs.set f (eH X))).T 0 n e) 1 n e }/\Bd (A.frs (A.H.m.fs.set f (eH X))).H.ma (setL (setL (A.frs (A.H.m.fs.set f (eH X))).T 0 n e) 1 n e)/\∀j:Nat,n+1<=j->fT (setL (setL (A.frs (A.H.m.fs.set f (eH X))).T 0 n e) 1 n e) 0 j=t0.getD j zEn/\(fT (setL (setL (A.frs (A.H.m.fs.set f (eH X))).T 0 n e) 1 n e) 1 j).k=0):=ae (by
      have O:=hN.out.1;have Z:=hN.out.2.1;obtain⟨hI,hL,ki,hE,hh,k9⟩:=kY.out;have hA:=Z.share1 (w:=e.w) hL D ki.1 (by rw[hh];exact hk1) (hN.out.2.2 n (az _)).2 hI (by rw[hh];exact kV) (by rw[hh,hsh];rfl);rw[gX.out,show(⟨1,(f:Int),e.w⟩:En)=e from by rw[<-kV,<-hk1]]at hA;have k0:eP e=0:=by
       rw[bG]at hE ⊢;rcases hE with K|K|K
       ·omega
       ·first
        | exact .inr (.inl ⟨K.1,K.2⟩)
        | exact .inr (.inl ⟨rfl,by show(0:Int)<=f;omega,by show(f:Int)<40;omega⟩)
       ·omega
      exact⟨⟨O.sp,O.fi,O.ct,O.dk,by show(A.H.m.fs.set f (eH X)).length=_;rw[bI];exact O.fl,O.sl⟩,hA,λj hj=>by show fT (setL (setL A.T 0 n e) 1 n e) 0 j=_/\(fT (setL (setL A.T 0 n e) 1 n e) 1 j).k=0;rw[uE Z.ok hL D k0 _ _,uE Z.ok hL D k0 _ _];exact hN.out.2.2 j (by omega)⟩)
     generalize hSx:(A.frs (A.H.m.fs.set f (eH X)))=Sx at I sx hF z hG ha hz hy;clear k4 sx0 bx9 U;obtain⟨E,G,_,d,kw,kS,_⟩:=I.ent (p:=0) (n:=n) (by omega) D ha;have kd:gx≠E:=λR=>z.out (.inr (by rw[R];simp[iZ,d,oB];right;right;right;right;right;right;right;right;rfl));have hD:gf≠E:=λR=>hF.out (.inr (by rw[R];simp[iZ,d,oB];right;right;right;right;right;right;right;right;rfl));go_upto_region 12 with(fail);refine yl 17 [_,_,_,.v (.slice (some ⟨E,G,none⟩) 2 Sx.cb),_,_,_,_,.v (.slice (some ⟨E,G,none⟩) 2 Sx.cb),_,.v (.agg (jm e)),.v (.agg (jm e)),_,.v (.pointer (some ⟨E,G+n*3,none⟩)),.r 14 ((dJ λ_=>True)),_,.v (.pointer (some ⟨E,G+192+n*3,none⟩))] (NP S Sx { Sx with T:=setL Sx.T 0 n e } B b w gx gf e (fC (dm C.ar))) bA (λ_=>⟨⟨bx,fx1⟩,λ_=>⟨I,sx⟩,λh=>(by cases h)⟩) (Qk bA rfl (Qk bA rfl (Qf bA b 12 rfl rfl (ah ?u1_1 (Qk bA rfl (Qk bA rfl (Qk bA rfl (Qf bA b 12 rfl rfl (ah ?u1_2 (Qk bA rfl (ah ?u1_3 (ah ?u1_4 (Qr bA (.pointer (some ⟨E,G,none⟩)) (λρ y W o=>(bN (i:=0) rfl (aH rfl o) (aH rfl o) (by decide) underlying96 ents_size)) rfl rfl (ah ?u1_5 (ah ?u1_6 (Qr bA (.pointer (some ⟨E,G+192,none⟩)) (λρ y W o=>(bN (i:=1) rfl (aH rfl o) (aH rfl o) (by decide) underlying96 ents_size)) rfl rfl (ah ?u1_7 (aF)))))))))))))))))) (λ_=>rfl) rfl ?u1_8
    case' false=>
     rw[hsh]at kG
     go_wp2_with (refine aC gx 2 [.bool false] rfl rfl rfl _ _ bx9 (by show 2+1<=3;omega) (by kernel_rfl) (λu hu=>by cases bC.1 hu;rfl) ?_)
     intro w10 bx q;have bx:aG w10 gx (jm ⟨1,(f:Int),false⟩) 68:=bx;have I:fF w10 B b (A.frs (A.H.m.fs.set f (eH X))):=k4.locE bx9 z.out qi.out qe q;have sx:=sx0.loc q qd.out;have fx1:=U.grown q (λR=>qf (aM R).symm);clear kz;have kz:=bx.cell;unfold jm at kz;have hF:Hid (¬nS b (A.frs (A.H.m.fs.set f (eH X))) gf):=gc;have z:Hid (¬nS b (A.frs (A.H.m.fs.set f (eH X))) gx):=z;have hG:(A.frs (A.H.m.fs.set f (eH X))).T.length=2:=hO;have ha:(fP (A.frs (A.H.m.fs.set f (eH X))).T 0).length=64:=ko.out 0 (by decide);have hz:(fP (A.frs (A.H.m.fs.set f (eH X))).T 1).length=64:=ko.out 1 (by decide);have hy:Hid (JX S5 { (A.frs (A.H.m.fs.set f (eH X)))with T:=setL (setL (A.frs (A.H.m.fs.set f (eH X))).T 0 n (⟨1,(f:Int),false⟩:En)) 1 n (⟨1,(f:Int),false⟩:En) }/\Bd (A.frs (A.H.m.fs.set f (eH X))).H.ma (setL (setL (A.frs (A.H.m.fs.set f (eH X))).T 0 n (⟨1,(f:Int),false⟩:En)) 1 n (⟨1,(f:Int),false⟩:En))/\∀j:Nat,n+1<=j->fT (setL (setL (A.frs (A.H.m.fs.set f (eH X))).T 0 n (⟨1,(f:Int),false⟩:En)) 1 n (⟨1,(f:Int),false⟩:En)) 0 j=t0.getD j zEn/\(fT (setL (setL (A.frs (A.H.m.fs.set f (eH X))).T 0 n (⟨1,(f:Int),false⟩:En)) 1 n (⟨1,(f:Int),false⟩:En)) 1 j).k=0):=ae (by
      have O:=hN.out.1;have Z:=hN.out.2.1;obtain⟨hI,hL,ki,hE,hh,k9⟩:=kY.out;have hA:=Z.share1 (w:=false) hL D ki.1 (by rw[hh];exact hk1) (hN.out.2.2 n (az _)).2 hI (by rw[hh];exact kV) (by rw[hh,hsh];rfl);rw[gX.out,show(⟨1,(f:Int),false⟩:En)=(⟨1,(f:Int),false⟩:En)from by rw[<-kV,<-hk1]]at hA;have k0:eP (⟨1,(f:Int),false⟩:En)=0:=by
       rw[bG]at hE ⊢;rcases hE with K|K|K
       ·omega
       ·first
        | exact .inr (.inl ⟨K.1,K.2⟩)
        | exact .inr (.inl ⟨rfl,by show(0:Int)<=f;omega,by show(f:Int)<40;omega⟩)
       ·omega
      exact⟨⟨O.sp,O.fi,O.ct,O.dk,by show(A.H.m.fs.set f (eH X)).length=_;rw[bI];exact O.fl,O.sl⟩,hA,λj hj=>by show fT (setL (setL A.T 0 n (⟨1,(f:Int),false⟩:En)) 1 n (⟨1,(f:Int),false⟩:En)) 0 j=_/\(fT (setL (setL A.T 0 n (⟨1,(f:Int),false⟩:En)) 1 n (⟨1,(f:Int),false⟩:En)) 1 j).k=0;rw[uE Z.ok hL D k0 _ _,uE Z.ok hL D k0 _ _];exact hN.out.2.2 j (by omega)⟩)
     generalize hSx:(A.frs (A.H.m.fs.set f (eH X)))=Sx at I sx hF z hG ha hz hy;clear k4 sx0 bx9 U q;obtain⟨E,G,_,d,kw,kS,_⟩:=I.ent (p:=0) (n:=n) (by omega) D ha;have kd:gx≠E:=λR=>z.out (.inr (by rw[R];simp[iZ,d,oB];right;right;right;right;right;right;right;right;rfl));have hD:gf≠E:=λR=>hF.out (.inr (by rw[R];simp[iZ,d,oB];right;right;right;right;right;right;right;right;rfl));go_upto_region 12 with(fail);refine yl 17 [_,_,_,.v (.slice (some ⟨E,G,none⟩) 2 Sx.cb),_,_,_,_,.v (.slice (some ⟨E,G,none⟩) 2 Sx.cb),_,.v (.agg (jm (⟨1,(f:Int),false⟩:En))),.v (.agg (jm (⟨1,(f:Int),false⟩:En))),_,.v (.pointer (some ⟨E,G+n*3,none⟩)),.r 14 ((dJ λ_=>True)),_,.v (.pointer (some ⟨E,G+192+n*3,none⟩))] (NP S Sx { Sx with T:=setL Sx.T 0 n (⟨1,(f:Int),false⟩:En) } B b w gx gf (⟨1,(f:Int),false⟩:En) (fC (dm C.ar))) bA (λ_=>⟨⟨bx,fx1⟩,λ_=>⟨I,sx⟩,λh=>(by cases h)⟩) (Qk bA rfl (Qk bA rfl (Qf bA b 12 rfl rfl (ah ?v1_1 (Qk bA rfl (Qk bA rfl (Qk bA rfl (Qf bA b 12 rfl rfl (ah ?v1_2 (Qk bA rfl (ah ?v1_3 (ah ?v1_4 (Qr bA (.pointer (some ⟨E,G,none⟩)) (λρ y W o=>(bN (i:=0) rfl (aH rfl o) (aH rfl o) (by decide) underlying96 ents_size)) rfl rfl (ah ?v1_5 (ah ?v1_6 (Qr bA (.pointer (some ⟨E,G+192,none⟩)) (λρ y W o=>(bN (i:=1) rfl (aH rfl o) (aH rfl o) (by decide) underlying96 ents_size)) rfl rfl (ah ?v1_7 (aF)))))))))))))))))) (λ_=>rfl) rfl ?v1_8
    case u1_1|v1_1=>
     intro ρ y W L N hn t c J M;refine fV bA J ?_;have g4:=N 93 2 rfl;have h2:y 2=_:=M 2 rfl;have kA:=DT J (by simp[jI,setL]);refine ak (.slice (some ⟨E,G,none⟩) 2 Sx.cb) (by simp[execOp,go_sem,bW,g4,h2,kA,jI,d,hG])
    case u1_2|v1_2=>
     intro ρ y W L N hn t c J M;refine fV bA J ?_;have g0:=N 98 7 rfl;have h7:y 7=_:=M 7 rfl;have kA:=DT J (by simp[jI,setL]);refine ak (.slice (some ⟨E,G,none⟩) 2 Sx.cb) (by simp[execOp,go_sem,bW,g0,h7,kA,jI,d,hG])
    case u1_5|v1_5=>
     intro ρ y W L N hn t c J M;refine fV bA J ?_;have k2:=N 103 12 rfl;have hA:y 12=_:=M 12 rfl;have g1:=N 95 4 rfl;have h4:y 4=_:=M 4 rfl;have kt:((64:Int)<=(n:Int))=False:=eq_false (by omega);refine ak (.pointer (some ⟨E,G+n*3,none⟩)) (by simp[execOp,go_sem,bW,k2,hA,g1,h4,D,kt])
    case u1_7|v1_7=>
     intro ρ y W L N hn t c J M;refine fV bA J ?_;have k1:=N 105 15 rfl;have gm:y 15=_:=M 15 rfl;have k3:=N 100 9 rfl;have K:y 9=_:=M 9 rfl;have kt:((64:Int)<=(n:Int))=False:=eq_false (by omega);refine ak (.pointer (some ⟨E,G+192+n*3,none⟩)) (by simp[execOp,go_sem,bW,k1,gm,k3,K,D,kt])
    case u1_3=>
     intro ρ y W L N hn t c J M;refine fV bA J ?_;have E4:ρ (.tmp 4) = .pointer (some ⟨gx,0,none⟩):=(hn (.tmp 4) rfl).trans rfl;refine ak (.agg (jm e)) (dG rfl E4 J.1.1 underlying68 entry_size3)
    case u1_4=>
     intro ρ y W L N hn t c J M;refine fV bA J ?_;have E4:ρ (.tmp 4) = .pointer (some ⟨gx,0,none⟩):=(hn (.tmp 4) rfl).trans rfl;refine ak (.agg (jm e)) (dG rfl E4 J.1.1 underlying68 entry_size3)
    case u1_6=>
     intro ρ y W L N hn t c J M;have kp:=N 104 13 rfl;have kD:y 13=_:=M 13 rfl;have kq:=N 101 10 rfl;have hJ:y 10=_:=M 10 rfl;obtain⟨kQ,kN⟩:=J.2.1 t;obtain⟨gQ,oQ,curQ,hQ,qr,kn,km,_,kl⟩:=kQ.ent (p:=0) (n:=n) (by omega) D ha;cases (hQ.symm.trans d);rw[vR,iK]at km kl;exact Cj (aj) (JS _ _ _ rfl E (G+n*3) _ (lZ e) (kp.trans kD) (kq.trans hJ) rfl curQ _ kn (by rw[gz];exact km) (bV (jB _))) ⟨⟨J.1.1.grown (aD _ _ _ _) (λR=>kd (aM R).symm),J.1.2.grown (aD _ _ _ _) (λR=>hD (aM R).symm)⟩,λh=>(by cases h),λ_=>⟨kl _ e (kn.setCells _ _) (aD _ _ _ _),kN.put (aD _ _ _ _) (.inr (by simp only[iZ,d];simp[oB];right;right;right;right;right;right;right;right;rfl)) (λx I => .inl I)⟩⟩ trivial
    case u1_8=>
     intro y W9 hZ kb;clear kb;simp only[dn,bW,bS,aZ];obtain⟨⟨bx9,U⟩,_,hU⟩:=hZ;obtain⟨K,s9⟩:=hU rfl;have gY:(setL Sx.T 0 n e).length=2:=by unfold setL;rw[bI];exact hG
     obtain⟨gR,oR',curR,hR,gZ,ka,h6,_,hH⟩:=K.ent (p:=1) (n:=n) (by show 1<(setL Sx.T 0 n e).length;omega) D (by show(fP (setL Sx.T 0 n e) 1).length=64;rw[sZ (by omega),if_neg (by decide)];exact hz);have hR:Sx.ab=some ⟨gR,oR',none⟩:=hR;cases (hR.symm.trans d);rw[Bw]at h6 hH;have h0:=ae hH;clear hH hU I sx bx fx1
     go_wp2_with (refine aC E (G+192+n*3) (lZ e) rfl rfl rfl _ _ ka (by rw[gz];exact h6) (by kernel_rfl) (bV (jB _)) ?_)
     intro w10 ht q;have hJ:=h0.out w10 e ht q;have s10:MS w b S w10 { Sx with T:=setL (setL Sx.T 0 n e) 1 n e }:=s9.put q (.inr (by simp only[iZ,d];simp[oB];right;right;right;right;right;right;right;right;rfl)) (λx I => .inl I);have fx10:=U.grown q (λR=>hD (aM R).symm);clear K s9 bx9 U ka ht q;go_wp2;go_roundw
     case rel=>exact⟨n+1,_,by omega,by go_num,hJ,s10,fx10,hF,hy⟩
     case measure=>simp[intOf];omega
    case v1_3=>
     intro ρ y W L N hn t c J M;refine fV bA J ?_;have E4:ρ (.tmp 4) = .pointer (some ⟨gx,0,none⟩):=(hn (.tmp 4) rfl).trans rfl;refine ak (.agg (jm (⟨1,(f:Int),false⟩:En))) (dG rfl E4 J.1.1 underlying68 entry_size3)
    case v1_4=>
     intro ρ y W L N hn t c J M;refine fV bA J ?_;have E4:ρ (.tmp 4) = .pointer (some ⟨gx,0,none⟩):=(hn (.tmp 4) rfl).trans rfl;refine ak (.agg (jm (⟨1,(f:Int),false⟩:En))) (dG rfl E4 J.1.1 underlying68 entry_size3)
    case v1_6=>
     intro ρ y W L N hn t c J M;have kp:=N 104 13 rfl;have kD:y 13=_:=M 13 rfl;have kq:=N 101 10 rfl;have hJ:y 10=_:=M 10 rfl;obtain⟨kQ,kN⟩:=J.2.1 t;obtain⟨gQ,oQ,curQ,hQ,qr,kn,km,_,kl⟩:=kQ.ent (p:=0) (n:=n) (by omega) D ha;cases (hQ.symm.trans d);rw[vR,iK]at km kl;exact Cj (aj) (JS _ _ _ rfl E (G+n*3) _ (lZ (⟨1,(f:Int),false⟩:En)) (kp.trans kD) (kq.trans hJ) rfl curQ _ kn (by rw[gz];exact km) (bV (jB _))) ⟨⟨J.1.1.grown (aD _ _ _ _) (λR=>kd (aM R).symm),J.1.2.grown (aD _ _ _ _) (λR=>hD (aM R).symm)⟩,λh=>(by cases h),λ_=>⟨kl _ (⟨1,(f:Int),false⟩:En) (kn.setCells _ _) (aD _ _ _ _),kN.put (aD _ _ _ _) (.inr (by simp only[iZ,d];simp[oB];right;right;right;right;right;right;right;right;rfl)) (λx I => .inl I)⟩⟩ trivial
    case v1_8=>
     intro y W9 hZ kb;clear kb;simp only[dn,bW,bS,aZ];obtain⟨⟨bx9,U⟩,_,hU⟩:=hZ;obtain⟨K,s9⟩:=hU rfl;have gY:(setL Sx.T 0 n (⟨1,(f:Int),false⟩:En)).length=2:=by unfold setL;rw[bI];exact hG
     obtain⟨gR,oR',curR,hR,gZ,ka,h6,_,hH⟩:=K.ent (p:=1) (n:=n) (by show 1<(setL Sx.T 0 n (⟨1,(f:Int),false⟩:En)).length;omega) D (by show(fP (setL Sx.T 0 n (⟨1,(f:Int),false⟩:En)) 1).length=64;rw[sZ (by omega),if_neg (by decide)];exact hz);have hR:Sx.ab=some ⟨gR,oR',none⟩:=hR;cases (hR.symm.trans d);rw[Bw]at h6 hH;have h0:=ae hH;clear hH hU I sx bx fx1
     go_wp2_with (refine aC E (G+192+n*3) (lZ (⟨1,(f:Int),false⟩:En)) rfl rfl rfl _ _ ka (by rw[gz];exact h6) (by kernel_rfl) (bV (jB _)) ?_)
     intro w10 ht q;have hJ:=h0.out w10 (⟨1,(f:Int),false⟩:En) ht q;have s10:MS w b S w10 { Sx with T:=setL (setL Sx.T 0 n (⟨1,(f:Int),false⟩:En)) 1 n (⟨1,(f:Int),false⟩:En) }:=s9.put q (.inr (by simp only[iZ,d];simp[oB];right;right;right;right;right;right;right;right;rfl)) (λx I => .inl I);have fx10:=U.grown q (λR=>hD (aM R).symm);clear K s9 bx9 U ka ht q;go_wp2;go_roundw
     case rel=>exact⟨n+1,_,by omega,by go_num,hJ,s10,fx10,hF,hy⟩
     case measure=>simp[intOf];omega
   by_cases hk2:e.k=2
   case' pos=>
    have O:=hN.out.1;have Z:=hN.out.2.1;have hL:A.H.ma.sp.length=2:=by rw[<-Z.ok.len];exact hO
    have hh:fT A.T 0 n=e:=by rw[(hN.out.2.2 n (az _)).1];exact gM.out
    have hE:=zx Z.ok (p:=0) (n:=n) D;rw[hh]at hE;have kh:=mO Z.ok (p:=0) (n:=n) D;rw[hh]at kh;obtain⟨g,hI,hY⟩:=Z.rt.en 0 n (by rw[kh,hk2];decide);rw[kh]at hY;have kP:0<=e.n:=by rcases(bG _).1 hE with K | K | K<;>omega
    obtain⟨Y,g7⟩:=iO kP;have kM:Y<A.H.sl.length:=by have K:=(hY.sw hk2).1;have e1:((fq A.H.ma A.T).sl.length:Nat)=A.H.sl.length:=rfl;omega
    obtain⟨gs,off,cap,cur,hv,gg,hP,ge,kg,kj⟩:=Own.put (enc:=λx=>[gF x]) (sz:=1) (l:=A.H.sl) (λ_=>rfl) Nat.one_pos (by rw[kI];exact hq.ma.sl) Y kM;have gU:A.H.asl=some ⟨gs,off,none⟩:=(oO hv).1;rw[uo]at ge kg kj;have gG:jW A.H.ma Y=A.H.sl[Y]:=by unfold jW;show A.H.sl.getD Y 0=_;rw[aW,aI kM];rfl
    have gy:=Z.rt.fewS (s:=Y) kM;have qg:0<=A.H.sl[Y]/\A.H.sl[Y]<=256:=by rw[<-gG];exact gy
    have kT:=ae kj;have gn:=ae gG;have kB:∀W,Below W1.heap.size W1 W->W.cell? ⟨gs,off+Y,none⟩=some (.int .i64 A.H.sl[Y]):=λW J=>by have K:=kg 0 _ rfl;rw[iK]at K;have h8:=(hP.ext J).cell (off+Y);rw[h8,<-hP.cell];exact K
    have g9:=ae (And.intro hI hL);clear gG kj kg gy hv hI hY hE kh O Z hL kP;generalize A.H.sl[Y]=v0 at kB qg gn;have gI:IntKind.i64.wrap (v0+1)=v0+1:=bK _ (by omega);have kF:=ae hh;clear hh;go_upto_region 11 with(fail);refine aO 11 [_,_,_,_,_,_,_,_,_,_,_] (Gk rfl (Gk rfl (Gf b 1 rfl rfl (Gf b 3 rfl rfl (Gl hq.blk (V:=.slice (some ⟨gs,off,none⟩) A.H.sl.length A.H.csl) (by simp[jI,gU]) rfl rfl rfl rfl (Gf gx 1 rfl rfl (Gl bx1 (V:=.int .i64 (Y:Int)) (by simp[jm,g7]) rfl rfl rfl rfl (Gr (.pointer (some ⟨gs,off+Y,none⟩)) (λρ y W J o=>(Li rfl (aH rfl o) (aH rfl o) kM)) rfl rfl (Gc (.int .i64 v0) (λW J=>by simp[kB _ J]) rfl rfl rfl rfl (Gb (.int .i64 (v0+1)) (by simp[go_sem,gI]) rfl rfl rfl rfl rfl (Gr (.pointer (some ⟨gs,off+Y,none⟩)) (λρ y W J o=>(Li rfl (aH rfl o) (aH rfl o) kM)) rfl rfl (aF)))))))))))) (λ_=>rfl) rfl ?_;intro y W8 hi _;have hr:=hP.ext hi;have kR:=hq.below hi;have sm8:=sm1.below hi;have bx8:=bx1.ext hi;have fx8:=fx1.ext hi;clear hq sm1 bx1 fx1 hP kz kB hi
    go_wp2_with (refine aC gs (off+Y) [.int .i64 (v0+1)] rfl rfl rfl _ _ hr (by show off+Y+1<=cur.size;omega) (by kernel_rfl) (λu hu=>by cases bC.1 hu;rfl) ?_)
    intro w9 kH hV;have gL:oB A.H.asl=some gs:=by rw[gU];rfl
    have I:fF w9 B b { A with H:={ A.H with sl:=A.H.sl.set Y (v0+1) } }:=kR.putS hr gg gL hV (sl:=A.H.sl.set Y (v0+1)) (by simp) (by have K:=kT.out w9 (v0+1) kH;rw[kI]at K;simpa using K);have sx:MS w b S w9 { A with H:={ A.H with sl:=A.H.sl.set Y (v0+1) } }:=sm8.put hV (.inr (by simp[iZ,gL])) (λx I => .inl I);have bx:=cB bx8 hr hV;have fx1:=cB fx8 hr hV;have hF:Hid (¬nS b ({ A with H:={ A.H with sl:=A.H.sl.set Y (v0+1) } }:MW) gf):=gc;have z:Hid (¬nS b ({ A with H:={ A.H with sl:=A.H.sl.set Y (v0+1) } }:MW) gx):=z;have hG:({ A with H:={ A.H with sl:=A.H.sl.set Y (v0+1) } }:MW).T.length=2:=hO;have ha:(fP ({ A with H:={ A.H with sl:=A.H.sl.set Y (v0+1) } }:MW).T 0).length=64:=ko.out 0 (by decide);have hz:(fP ({ A with H:={ A.H with sl:=A.H.sl.set Y (v0+1) } }:MW).T 1).length=64:=ko.out 1 (by decide);have hy:Hid (JX S5 { ({ A with H:={ A.H with sl:=A.H.sl.set Y (v0+1) } }:MW)with T:=setL (setL ({ A with H:={ A.H with sl:=A.H.sl.set Y (v0+1) } }:MW).T 0 n e) 1 n e }/\Bd ({ A with H:={ A.H with sl:=A.H.sl.set Y (v0+1) } }:MW).H.ma (setL (setL ({ A with H:={ A.H with sl:=A.H.sl.set Y (v0+1) } }:MW).T 0 n e) 1 n e)/\∀j:Nat,n+1<=j->fT (setL (setL ({ A with H:={ A.H with sl:=A.H.sl.set Y (v0+1) } }:MW).T 0 n e) 1 n e) 0 j=t0.getD j zEn/\(fT (setL (setL ({ A with H:={ A.H with sl:=A.H.sl.set Y (v0+1) } }:MW).T 0 n e) 1 n e) 1 j).k=0):=ae (by
     have O:=hN.out.1;have Z:=hN.out.2.1;have hL:=g9.out.2;have hE:=zx Z.ok (p:=0) (n:=n) D;rw[kF.out]at hE;have hI:=g9.out.1;rw[pQ]at hI;have ki:(dI A.H.ma 1).ar=(dI A.H.ma 0).ar:=by show((A.H.sp.map PS.sp).getD 1 zSp).ar=((A.H.sp.map PS.sp).getD 0 zSp).ar;rw[O.sp,gE.out,kc.out];rfl
     have hA:=Z.share2 hL D ki (by rw[kF.out];exact hk2) (hN.out.2.2 n (az _)).2 hI (by rw[kF.out];exact g7);rw[kF.out,gn.out]at hA;exact⟨⟨O.sp,O.fi,O.ct,O.dk,O.fl,by show(A.H.sl.set Y (v0+1)).length=_;rw[bI];exact O.sl⟩,hA,λj hj=>by show fT (setL (setL A.T 0 n e) 1 n e) 0 j=_/\(fT (setL (setL A.T 0 n e) 1 n e) 1 j).k=0;rw[uE Z.ok hL D hE _ _,uE Z.ok hL D hE _ _];exact hN.out.2.2 j (by omega)⟩)
    clear kR sm8 bx8 fx8 hr kH hV gU gL;generalize hSx:({ A with H:={ A.H with sl:=A.H.sl.set Y (v0+1) } }:MW)=Sx at I sx hF z hG ha hz hy;obtain⟨E,G,_,d,kw,kS,_⟩:=I.ent (p:=0) (n:=n) (by omega) D ha;have kd:gx≠E:=λR=>z.out (.inr (by rw[R];simp[iZ,d,oB];right;right;right;right;right;right;right;right;rfl));have hD:gf≠E:=λR=>hF.out (.inr (by rw[R];simp[iZ,d,oB];right;right;right;right;right;right;right;right;rfl));go_upto_region 12 with(fail);refine yl 17 [_,_,_,.v (.slice (some ⟨E,G,none⟩) 2 Sx.cb),_,_,_,_,.v (.slice (some ⟨E,G,none⟩) 2 Sx.cb),_,.v (.agg (jm e)),.v (.agg (jm e)),_,.v (.pointer (some ⟨E,G+n*3,none⟩)),.r 14 ((dJ λ_=>True)),_,.v (.pointer (some ⟨E,G+192+n*3,none⟩))] (NP S Sx { Sx with T:=setL Sx.T 0 n e } B b w gx gf e (fC (dm C.ar))) bA (λ_=>⟨⟨bx,fx1⟩,λ_=>⟨I,sx⟩,λh=>(by cases h)⟩) (Qk bA rfl (Qk bA rfl (Qf bA b 12 rfl rfl (ah ?u2_1 (Qk bA rfl (Qk bA rfl (Qk bA rfl (Qf bA b 12 rfl rfl (ah ?u2_2 (Qk bA rfl (ah ?u2_3 (ah ?u2_4 (Qr bA (.pointer (some ⟨E,G,none⟩)) (λρ y W o=>(bN (i:=0) rfl (aH rfl o) (aH rfl o) (by decide) underlying96 ents_size)) rfl rfl (ah ?u2_5 (ah ?u2_6 (Qr bA (.pointer (some ⟨E,G+192,none⟩)) (λρ y W o=>(bN (i:=1) rfl (aH rfl o) (aH rfl o) (by decide) underlying96 ents_size)) rfl rfl (ah ?u2_7 (aF)))))))))))))))))) (λ_=>rfl) rfl ?u2_8
   case' neg=>
    have I:=hq;have sx:=sm1;have bx:=bx1;have hF:=gc;have hG:=hO;have ha:=ko.out 0 (by decide);have hz:=ko.out 1 (by decide);have hy:Hid (JX S5 { A with T:=setL (setL A.T 0 n e) 1 n e }/\Bd A.H.ma (setL (setL A.T 0 n e) 1 n e)/\∀j:Nat,n+1<=j->fT (setL (setL A.T 0 n e) 1 n e) 0 j=t0.getD j zEn/\(fT (setL (setL A.T 0 n e) 1 n e) 1 j).k=0):=ae (by
     have O:=hN.out.1;have Z:=hN.out.2.1;have hL:A.H.ma.sp.length=2:=by rw[<-Z.ok.len];exact hO
     have hh:fT A.T 0 n=e:=by rw[(hN.out.2.2 n (az _)).1];exact gM.out
     have hE:=zx Z.ok (p:=0) (n:=n) D;rw[hh]at hE;have gd:e.k=0:=by
      rcases(bG _).1 hE with K|K|K
      ·exact K.1
      ·exact absurd K.1 hk1
      ·exact absurd K.1 hk2
     have hA:=Z.share0 hL D (by rw[hh];exact gd) (hN.out.2.2 n (az _)).2;rw[hh]at hA;exact⟨⟨O.sp,O.fi,O.ct,O.dk,O.fl,O.sl⟩,hA,λj hj=>by rw[uE Z.ok hL D hE _ _,uE Z.ok hL D hE _ _];exact hN.out.2.2 j (by omega)⟩)
    generalize hSx:A=Sx at I sx hF z hG ha hz hy;obtain⟨E,G,_,d,kw,kS,_⟩:=I.ent (p:=0) (n:=n) (by omega) D ha;have kd:gx≠E:=λR=>z.out (.inr (by rw[R];simp[iZ,d,oB];right;right;right;right;right;right;right;right;rfl));have hD:gf≠E:=λR=>hF.out (.inr (by rw[R];simp[iZ,d,oB];right;right;right;right;right;right;right;right;rfl));go_upto_region 12 with(fail);refine yl 17 [_,_,_,.v (.slice (some ⟨E,G,none⟩) 2 Sx.cb),_,_,_,_,.v (.slice (some ⟨E,G,none⟩) 2 Sx.cb),_,.v (.agg (jm e)),.v (.agg (jm e)),_,.v (.pointer (some ⟨E,G+n*3,none⟩)),.r 14 ((dJ λ_=>True)),_,.v (.pointer (some ⟨E,G+192+n*3,none⟩))] (NP S Sx { Sx with T:=setL Sx.T 0 n e } B b w gx gf e (fC (dm C.ar))) bA (λ_=>⟨⟨bx,fx1⟩,λ_=>⟨I,sx⟩,λh=>(by cases h)⟩) (Qk bA rfl (Qk bA rfl (Qf bA b 12 rfl rfl (ah ?v2_1 (Qk bA rfl (Qk bA rfl (Qk bA rfl (Qf bA b 12 rfl rfl (ah ?v2_2 (Qk bA rfl (ah ?v2_3 (ah ?v2_4 (Qr bA (.pointer (some ⟨E,G,none⟩)) (λρ y W o=>(bN (i:=0) rfl (aH rfl o) (aH rfl o) (by decide) underlying96 ents_size)) rfl rfl (ah ?v2_5 (ah ?v2_6 (Qr bA (.pointer (some ⟨E,G+192,none⟩)) (λρ y W o=>(bN (i:=1) rfl (aH rfl o) (aH rfl o) (by decide) underlying96 ents_size)) rfl rfl (ah ?v2_7 (aF)))))))))))))))))) (λ_=>rfl) rfl ?v2_8
   case u2_1|v2_1=>
    intro ρ y W L N hn t c J M;refine fV bA J ?_;have g4:=N 93 2 rfl;have h2:y 2=_:=M 2 rfl;have kA:=DT J (by simp[jI,setL]);refine ak (.slice (some ⟨E,G,none⟩) 2 Sx.cb) (by simp[execOp,go_sem,bW,g4,h2,kA,jI,d,hG])
   case u2_2|v2_2=>
    intro ρ y W L N hn t c J M;refine fV bA J ?_;have g0:=N 98 7 rfl;have h7:y 7=_:=M 7 rfl;have kA:=DT J (by simp[jI,setL]);refine ak (.slice (some ⟨E,G,none⟩) 2 Sx.cb) (by simp[execOp,go_sem,bW,g0,h7,kA,jI,d,hG])
   case u2_3|v2_3=>
    intro ρ y W L N hn t c J M;refine fV bA J ?_;have E4:ρ (.tmp 4) = .pointer (some ⟨gx,0,none⟩):=(hn (.tmp 4) rfl).trans rfl;refine ak (.agg (jm e)) (dG rfl E4 J.1.1 underlying68 entry_size3)
   case u2_4|v2_4=>
    intro ρ y W L N hn t c J M;refine fV bA J ?_;have E4:ρ (.tmp 4) = .pointer (some ⟨gx,0,none⟩):=(hn (.tmp 4) rfl).trans rfl;refine ak (.agg (jm e)) (dG rfl E4 J.1.1 underlying68 entry_size3)
   case u2_5|v2_5=>
    intro ρ y W L N hn t c J M;refine fV bA J ?_;have k2:=N 103 12 rfl;have hA:y 12=_:=M 12 rfl;have g1:=N 95 4 rfl;have h4:y 4=_:=M 4 rfl;have kt:((64:Int)<=(n:Int))=False:=eq_false (by omega);refine ak (.pointer (some ⟨E,G+n*3,none⟩)) (by simp[execOp,go_sem,bW,k2,hA,g1,h4,D,kt])
   case u2_6|v2_6=>
    intro ρ y W L N hn t c J M;have kp:=N 104 13 rfl;have kD:y 13=_:=M 13 rfl;have kq:=N 101 10 rfl;have hJ:y 10=_:=M 10 rfl;obtain⟨kQ,kN⟩:=J.2.1 t;obtain⟨gQ,oQ,curQ,hQ,qr,kn,km,_,kl⟩:=kQ.ent (p:=0) (n:=n) (by omega) D ha;cases (hQ.symm.trans d);rw[vR,iK]at km kl;exact Cj (aj) (JS _ _ _ rfl E (G+n*3) _ (lZ e) (kp.trans kD) (kq.trans hJ) rfl curQ _ kn (by rw[gz];exact km) (bV (jB _))) ⟨⟨J.1.1.grown (aD _ _ _ _) (λR=>kd (aM R).symm),J.1.2.grown (aD _ _ _ _) (λR=>hD (aM R).symm)⟩,λh=>(by cases h),λ_=>⟨kl _ e (kn.setCells _ _) (aD _ _ _ _),kN.put (aD _ _ _ _) (.inr (by simp only[iZ,d];simp[oB];right;right;right;right;right;right;right;right;rfl)) (λx I => .inl I)⟩⟩ trivial
   case u2_7|v2_7=>
    intro ρ y W L N hn t c J M;refine fV bA J ?_;have k1:=N 105 15 rfl;have gm:y 15=_:=M 15 rfl;have k3:=N 100 9 rfl;have K:y 9=_:=M 9 rfl;have kt:((64:Int)<=(n:Int))=False:=eq_false (by omega);refine ak (.pointer (some ⟨E,G+192+n*3,none⟩)) (by simp[execOp,go_sem,bW,k1,gm,k3,K,D,kt])
   case u2_8=>
    intro y W9 hZ kb;clear kb;simp only[dn,bW,bS,aZ];obtain⟨⟨bx9,U⟩,_,hU⟩:=hZ;obtain⟨K,s9⟩:=hU rfl;have gY:(setL Sx.T 0 n e).length=2:=by unfold setL;rw[bI];exact hG
    obtain⟨gR,oR',curR,hR,gZ,ka,h6,_,hH⟩:=K.ent (p:=1) (n:=n) (by show 1<(setL Sx.T 0 n e).length;omega) D (by show(fP (setL Sx.T 0 n e) 1).length=64;rw[sZ (by omega),if_neg (by decide)];exact hz);have hR:Sx.ab=some ⟨gR,oR',none⟩:=hR;cases (hR.symm.trans d);rw[Bw]at h6 hH;have h0:=ae hH;clear hH hU I sx bx fx1
    go_wp2_with (refine aC E (G+192+n*3) (lZ e) rfl rfl rfl _ _ ka (by rw[gz];exact h6) (by kernel_rfl) (bV (jB _)) ?_)
    intro w10 ht q;have hJ:=h0.out w10 e ht q;have s10:MS w b S w10 { Sx with T:=setL (setL Sx.T 0 n e) 1 n e }:=s9.put q (.inr (by simp only[iZ,d];simp[oB];right;right;right;right;right;right;right;right;rfl)) (λx I => .inl I);have fx10:=U.grown q (λR=>hD (aM R).symm);clear K s9 bx9 U ka ht q;go_wp2;go_roundw
    case rel=>exact⟨n+1,_,by omega,by go_num,hJ,s10,fx10,hF,hy⟩
    case measure=>simp[intOf];omega
   case v2_8=>
    intro y W9 hZ kb;clear kb;simp only[dn,bW,bS,aZ];obtain⟨⟨bx9,U⟩,_,hU⟩:=hZ;obtain⟨K,s9⟩:=hU rfl;have gY:(setL Sx.T 0 n e).length=2:=by unfold setL;rw[bI];exact hG
    obtain⟨gR,oR',curR,hR,gZ,ka,h6,_,hH⟩:=K.ent (p:=1) (n:=n) (by show 1<(setL Sx.T 0 n e).length;omega) D (by show(fP (setL Sx.T 0 n e) 1).length=64;rw[sZ (by omega),if_neg (by decide)];exact hz);have hR:Sx.ab=some ⟨gR,oR',none⟩:=hR;cases (hR.symm.trans d);rw[Bw]at h6 hH;have h0:=ae hH;clear hH hU I sx bx fx1
    go_wp2_with (refine aC E (G+192+n*3) (lZ e) rfl rfl rfl _ _ ka (by rw[gz];exact h6) (by kernel_rfl) (bV (jB _)) ?_)
    intro w10 ht q;have hJ:=h0.out w10 e ht q;have s10:MS w b S w10 { Sx with T:=setL (setL Sx.T 0 n e) 1 n e }:=s9.put q (.inr (by simp only[iZ,d];simp[oB];right;right;right;right;right;right;right;right;rfl)) (λx I => .inl I);have fx10:=U.grown q (λR=>hD (aM R).symm);clear K s9 bx9 U ka ht q;go_wp2;go_roundw
    case rel=>exact⟨n+1,_,by omega,by go_num,hJ,s10,fx10,hF,hy⟩
    case measure=>simp[intOf];omega
  have qy:¬(n:Int)<64:=by omega
  go_wp2;refine bodyPost_ret (v:=.tuple #[]) (by simp[results,go_sem,results36]) rfl ?_;have O:=hN.out.1;have hM:=ku.out;refine⟨A,rfl,hm,hs,⟨hN.out.2.1,λp hp n g hg => ?_,O.fi.trans hM.fi,O.ct.trans hM.ct,O.dk.trans hM.dk,by rw[O.sp];exact hM.sp,O.fl.trans hM.fs⟩⟩;rw[O.sp]at hp;rw[O.fi];exact hM.fm p hp n g hg
theorem IL(t e:TypeId)(z:Value)(j d:Nat)(C:P.underlying t=some (.slice e))(h2:(P.info? e).map (λi=>(i.zero,i.size,i.bytes))=some (some z,j,d))(k u:IntKind)(n:Nat)(w:World)(I:d*n<=281474976710656:=by omega)(H:n<=9223372036854775807:=by omega) :
  (Instr.makeSlice t (.int k (n:Int)) (.int u (n:Int))).run P w = .ok (.slice (some ⟨w.heap.size,0,none⟩) n n) (w.alloc (.cells (madeCells z.cells (n*j)) e)):=by
 obtain⟨i,E,a,D,G⟩:=info_parts h2;have b : (i.bytes:Int)*(n:Int)<=281474976710656:=by
  have h:((i.bytes*n:Nat):Int)<=281474976710656:=by rw[G];omega
  rwa [Int.natCast_mul]at h
 have A:=run_make (P:=P) w t e i z C E a k u n n (by omega) (uh _) b (by omega);simp only[bv,D]at A;exact A
theorem Ej{α:Type}{n:Nat}(enc:α->List Value)(x:α)(d:∀x,(enc x).length=sz)(h:z.toList=enc x)(A:n<=maxLen)(E:B<=g)(C:aG w g (madeCells z (n*sz)) e)(k:0<sz:=by decide) :
  Own w B e sz (.slice (some ⟨g,0,none⟩) n n) n ((List.replicate n x).flatMap enc):=
 ⟨by rw[Pw.flat_len enc sz d,kQ],.inr ⟨g,0,n,_,rfl,E,C,az _,A,by simp[size_madeCells],λj u D=>by rw[eB,<-uQ,HY enc sz d k z x h n];exact D⟩⟩
theorem VF{n:Nat}(h:aG w g (madeCells z (n*8)) e)(h' : aG w g' (madeCells z (n' * 8)) e')(d:Value.slice (some ⟨g,0,none⟩) n n ≠ .slice (some ⟨g',0,none⟩) n' n'):g≠g':=by
 intro u;subst u;have h2:some (Obj.cells (madeCells z (n*8)) e (0,0))=some (Obj.cells (madeCells z (n' * 8)) e' (0,0)):=h.symm.trans h';have k:madeCells z (n*8)=madeCells z (n' * 8):=by injection h2 with h2;injection h2
 have j:=congrArg Array.size k;rw[size_madeCells,size_madeCells]at j;obtain rfl:n=n':=by omega
 exact d rfl
structure JM (W0:World) (B f s ct:Nat) (zf zs zp:Array Value) (L:Nat->Bool) (y:Nat->Value) (W:World):Prop where
 be:Below W0.heap.size W0 W
 k2:L 2=true->∃g,y 2 = .slice (some ⟨g,0,none⟩) f f/\B<=g/\aG W g (madeCells zf (f*13)) 66
 k5:L 5=true->∃g,y 5 = .slice (some ⟨g,0,none⟩) s s/\B<=g/\aG W g (madeCells zs (s*1)) 3
 k7:L 7=true->∃g,y 7 = .slice (some ⟨g,0,none⟩) s s/\B<=g/\aG W g (madeCells zp (s*8)) 58
 k10:L 10=true->∃g,y 10 = .slice (some ⟨g,0,none⟩) ct ct/\B<=g/\aG W g (madeCells zp (ct*8)) 58
 ne:L 7=true->L 10=true->y 7≠y 10
 k3:L 3=true->L 2=true/\y 3 = .agg #[y 2,.int .i64 0]
 k8:L 8=true->L 7=true/\y 8 = .agg #[y 7,.slice none 0 0]
 k11:L 11=true->L 10=true/\y 11 = .agg #[y 10,.slice none 0 0]
 k14:L 14=true->(L 3=true/\L 5=true/\L 8=true/\L 11=true)/\y 14 = .agg #[y 2,.int .i64 0,y 5,y 7,.slice none 0 0,y 10,.slice none 0 0,.slice none 0 0,.int .i64 ct,.slice none 0 0,.slice none 0 0]
theorem uk :∀L y W W',Below W.heap.size W W'->JM W0 B f s ct zf zs zp L y W->JM W0 B f s ct zf zs zp L y W':=λ_ _ _ _ d h=>
 ⟨ag h.be d,λe=>by obtain⟨g,a,b,c⟩:=h.k2 e;exact⟨g,a,b,c.ext d⟩,λe=>by obtain⟨g,a,b,c⟩:=h.k5 e;exact⟨g,a,b,c.ext d⟩,λe=>by obtain⟨g,a,b,c⟩:=h.k7 e;exact⟨g,a,b,c.ext d⟩,λe=>by obtain⟨g,a,b,c⟩:=h.k10 e;exact⟨g,a,b,c.ext d⟩,h.ne,h.k3,h.k8,h.k11,h.k14⟩
theorem Yh(y:Nat->Value):JM W0 B f s ct zf zs zp (λ_=>false) y W0:=
 ⟨Below.refl _ _,λe=>(by cases e),λe=>(by cases e),λe=>(by cases e),λe=>(by cases e),λe=>(by cases e),λe=>(by cases e),λe=>(by cases e),λe=>(by cases e),λe=>(by cases e)⟩
theorem Aq(h:JM W0 B f s ct zf zs zp L y W)(H:i≠2/\i≠5/\i≠7/\i≠10/\i≠3/\i≠8/\i≠11/\i≠14:=by decide):JM W0 B f s ct zf zs zp (dS L i) (fG y i v) W:=by
 have e:∀k,k≠i->dS L i k=L k/\fG y i v k=y k:=λk G=>⟨by unfold dS;rw[if_neg G],by unfold fG;rw[if_neg G]⟩;have u:=e 2 (by omega);have C:=e 5 (by omega);have j:=e 7 (by omega);have d:=e 10 (by omega);have E:=e 3 (by omega);have D:=e 8 (by omega);have n:=e 11 (by omega);have A:=e 14 (by omega);refine⟨h.be,?_,?_,?_,?_,?_,?_,?_,?_,?_⟩
 ·rw[u.1,u.2];exact h.k2
 ·rw[C.1,C.2];exact h.k5
 ·rw[j.1,j.2];exact h.k7
 ·rw[d.1,d.2];exact h.k10
 ·rw[j.1,j.2,d.1,d.2];exact h.ne
 ·rw[E.1,E.2,u.1,u.2];exact h.k3
 ·rw[D.1,D.2,j.1,j.2];exact h.k8
 ·rw[n.1,n.2,d.1,d.2];exact h.k11
 ·rw[A.1,A.2,E.1,C.1,D.1,n.1,u.2,C.2,j.2,d.2];exact h.k14
theorem oV{p:Prop}(h:L i=false)(h' : L i=true):p:=by rw[h]at h'; cases h'
theorem Yo(d:L 2=false)(k:B<=W0.heap.size)(j:JM W0 B f s ct zf zs zp L y W):JM W0 B f s ct zf zs zp (dS L 2) (fG y 2 (.slice (some ⟨W.heap.size,0,none⟩) f f)) (W.alloc (.cells (madeCells zf (f*13)) 66)):=by
 have h:=uk _ _ _ _ ((Below.refl W.heap.size W).alloc (az _) (.cells (madeCells zf (f*13)) 66)) j;exact⟨h.be,λ_=>⟨_,rfl,bi k j.be.size,aG.new _ _ _⟩,h.k5,h.k7,h.k10,h.ne,λe=>oV d (h.k3 e).1,h.k8,h.k11,λe=>oV d (h.k3 (h.k14 e).1.1).1⟩
theorem Yi(j:L 5=false)(k:B<=W0.heap.size)(d:JM W0 B f s ct zf zs zp L y W):JM W0 B f s ct zf zs zp (dS L 5) (fG y 5 (.slice (some ⟨W.heap.size,0,none⟩) s s)) (W.alloc (.cells (madeCells zs (s*1)) 3)):=by
 have h:=uk _ _ _ _ ((Below.refl W.heap.size W).alloc (az _) (.cells (madeCells zs (s*1)) 3)) d;exact⟨h.be,h.k2,λ_=>⟨_,rfl,bi k d.be.size,aG.new _ _ _⟩,h.k7,h.k10,h.ne,h.k3,h.k8,h.k11,λe=>oV j (h.k14 e).1.2.1⟩
theorem Yd(j:L 7=false)(k:B<=W0.heap.size)(d:JM W0 B f s ct zf zs zp L y W):JM W0 B f s ct zf zs zp (dS L 7) (fG y 7 (.slice (some ⟨W.heap.size,0,none⟩) s s)) (W.alloc (.cells (madeCells zp (s*8)) 58)):=by
 have h:=uk _ _ _ _ ((Below.refl W.heap.size W).alloc (az _) (.cells (madeCells zp (s*8)) 58)) d;refine⟨h.be,h.k2,h.k5,λ_=>⟨_,rfl,bi k d.be.size,aG.new _ _ _⟩,h.k10,λ_ e => ?_,h.k3,λe=>oV j (h.k8 e).1,h.k11,λe=>oV j (h.k8 (h.k14 e).1.2.2.1).1⟩;obtain⟨g,A,_,u⟩:=d.k10 e;show Value.slice _ s s≠y 10;rw[A];intro n;simp only[lU,jo,rH]at n;have:=u.lt;omega
theorem XI(j:L 10=false)(k:B<=W0.heap.size)(d:JM W0 B f s ct zf zs zp L y W):JM W0 B f s ct zf zs zp (dS L 10) (fG y 10 (.slice (some ⟨W.heap.size,0,none⟩) ct ct)) (W.alloc (.cells (madeCells zp (ct*8)) 58)):=by
 have h:=uk _ _ _ _ ((Below.refl W.heap.size W).alloc (az _) (.cells (madeCells zp (ct*8)) 58)) d;refine⟨h.be,h.k2,h.k5,h.k7,λ_=>⟨_,rfl,bi k d.be.size,aG.new _ _ _⟩,λe _ => ?_,h.k3,h.k8,λe=>oV j (h.k11 e).1,λe=>oV j (h.k11 (h.k14 e).1.2.2.2).1⟩;obtain⟨g,A,_,u⟩:=d.k7 e;show y 7≠Value.slice _ ct ct;rw[A];intro n;simp only[lU,jo,rH]at n;have:=u.lt;omega
theorem XU(d:L 3=false)(j:L 2=true)(h:JM W0 B f s ct zf zs zp L y W):JM W0 B f s ct zf zs zp (dS L 3) (fG y 3 (.agg #[y 2,.int .i64 0])) W:=
 ⟨h.be,h.k2,h.k5,h.k7,h.k10,h.ne,λ_=>⟨j,rfl⟩,h.k8,h.k11,λe=>oV d (h.k14 e).1.1⟩
theorem Ya(d:L 8=false)(j:L 7=true)(h:JM W0 B f s ct zf zs zp L y W):JM W0 B f s ct zf zs zp (dS L 8) (fG y 8 (.agg #[y 7,.slice none 0 0])) W:=
 ⟨h.be,h.k2,h.k5,h.k7,h.k10,h.ne,h.k3,λ_=>⟨j,rfl⟩,h.k11,λe=>oV d (h.k14 e).1.2.2.1⟩
theorem Xq(d:L 11=false)(j:L 10=true)(h:JM W0 B f s ct zf zs zp L y W):JM W0 B f s ct zf zs zp (dS L 11) (fG y 11 (.agg #[y 10,.slice none 0 0])) W:=
 ⟨h.be,h.k2,h.k5,h.k7,h.k10,h.ne,h.k3,h.k8,λ_=>⟨j,rfl⟩,λe=>oV d (h.k14 e).1.2.2.2⟩
theorem XQ(n:L 3=true)(k:L 5=true)(j:L 8=true)(d:L 11=true)(h:JM W0 B f s ct zf zs zp L y W) :
  JM W0 B f s ct zf zs zp (dS L 14) (fG y 14 (.agg #[y 2,.int .i64 0,y 5,y 7,.slice none 0 0,y 10,.slice none 0 0,.slice none 0 0,.int .i64 ct,.slice none 0 0,.slice none 0 0])) W:=
 ⟨h.be,h.k2,h.k5,h.k7,h.k10,h.ne,h.k3,h.k8,h.k11,λ_=>⟨⟨n,k,j,d⟩,rfl⟩⟩
def VY(gf gs gw gd f s ct:Nat):MH:=⟨some ⟨gf,0,none⟩,f,⟨List.replicate f fr0,0⟩,some ⟨gs,0,none⟩,s,List.replicate s 0,some ⟨gw,0,none⟩,s,none,0,⟨List.replicate s zPg,[]⟩,some ⟨gd,0,none⟩,ct,none,0,⟨List.replicate ct zPg,[]⟩,none,0,[],ct,none,0,[],none,0,[]⟩
theorem VR{l:List UInt8}(I:vG w al cl l.length (l.map zS))(M:∀a,al=some a->l.map zS≠[]->a.block<B)(N:B<=b)(J:aG w b (jI ⟨al,cl,l,VY gf gs gw gd f s ct,none,0,[]⟩) 98)
 (hf:f<=40) (hs:s<=60) (hc:ct<=80) (b1:B<=gf) (Z:B<=gs) (Y:B<=gw) (X:B<=gd) (h:gw≠gd) (R:zf.toList=ni fr0) (O:zs.toList=[gF 0]) (j:zp.toList=Dv zPg)
 (k1:aG w gf (madeCells zf (f*13)) 66) (G:aG w gs (madeCells zs (s*1)) 3) (E:aG w gw (madeCells zp (s*8)) 58) (D:aG w gd (madeCells zp (ct*8)) 58):fF w B b ⟨al,cl,l,VY gf gs gw gd f s ct,none,0,[]⟩:=by
 have m:maxLen=maxLen:=rfl;have C:=Ej ni fr0 (n:=f) eX R (by unfold maxLen;omega) b1 k1;have A:=Ej (λx=>[gF x]) (0:Int) (n:=s) (λ_=>rfl) O (by unfold maxLen;omega) Z G;have u:=Ej Dv zPg (n:=s) nQ j (by unfold maxLen;omega) Y E;have k:=Ej Dv zPg (n:=ct) nQ j (by unfold maxLen;omega) X D;refine⟨J,N,⟨?_,?_,⟨?_,Own.nil _ _ _ _⟩,⟨?_,Own.nil _ _ _ _⟩,rC.nil _ _,Own.nil _ _ _ _,Own.nil _ _ _ _,λp d=>(by cases d),by show(-9223372036854775808:Int)<=(ct:Int)/\(ct:Int)<=9223372036854775807;omega⟩,Own.nil _ _ _ _,I,M,?_,λp d=>(by cases d),rfl⟩
 ·show Own w B _ 13 (.slice (some ⟨gf,0,none⟩) (List.replicate f fr0).length f) (List.replicate f fr0).length _;rw[kQ];exact C
 ·show Own w B _ 1 (.slice (some ⟨gs,0,none⟩) (List.replicate s (0:Int)).length s) (List.replicate s (0:Int)).length ((List.replicate s (0:Int)).map gF);rw[kQ,<-kI];exact A
 ·show Own w B _ 8 (.slice (some ⟨gw,0,none⟩) (List.replicate s zPg).length s) (List.replicate s zPg).length _;rw[kQ];exact u
 ·show Own w B _ 8 (.slice (some ⟨gd,0,none⟩) (List.replicate ct zPg).length ct) (List.replicate ct zPg).length _;rw[kQ];exact k
 intro x H K;have V:gw=x:=by simpa[VY,oB,Value.ownBlock]using H
 have U:gd=x:=by simpa[VY,oB,Value.ownBlock]using K
 exact h (V.trans U.symm)
def Cs(f q:Nat):List Fr:=List.replicate q frZ++List.replicate (f-q) fr0
theorem JI(h:q<=f):(Cs f q).length=f:=by unfold Cs;simp;omega
theorem VQ(h:q<f)(d:q<(Cs f q).length):(Cs f q)[q]=fr0:=by
 have:(Cs f q)[q]?=some fr0:=by unfold Cs;rw[jX (by simp),kQ,qD,qw,if_pos (by omega)]
 rw[aI d]at this;exact aM this
theorem Ve(h:q<f):(Cs f q).set q frZ=Cs f (q+1):=by
 unfold Cs;rw[List.set_append,if_neg (by simp),kQ,qD];obtain⟨d,j⟩:∃d,f-q=d+1:=⟨f-q-1,by omega⟩;rw[j,show f-(q+1)=d by omega,List.replicate_succ,uT,List.replicate_succ',jR];rfl
theorem VG(f:Nat):Cs f f=List.replicate f frZ:=by unfold Cs;simp
theorem VS{o:Nat}(d:o+13<=cur.size)(A:∀j u,(ni fr0)[j]?=some u->cur[o+j]?=some u):bH cur (o+11) [.int .i64 (-1)]=bH cur o (ni frZ):=
 Ha (xs:=ni fr0) rfl d A (by decide) (λi k=>by
  obtain rfl:i=0:=by simpa using k
  rfl) (λi k=>by
  by_cases n:i<13
  ·match i,n,k with
   | 0,_,_=>rfl
   | 1,_,_=>rfl
   | 2,_,_=>rfl
   | 3,_,_=>rfl
   | 4,_,_=>rfl
   | 5,_,_=>rfl
   | 6,_,_=>rfl
   | 7,_,_=>rfl
   | 8,_,_=>rfl
   | 9,_,_=>rfl
   | 10,_,_=>rfl
   | 11,_,h=>exact absurd h (by simp)
   | 12,_,_=>rfl
  ·rw[fH (by rw[eX];omega),fH (by rw[eX];omega)])
structure IG (f s ct:Nat) (as0:Option Addr) (fi0:List PF) (bl:List Page) (q:List (Int × Page)) (S:MW):Prop where
 m:S.H.m=⟨List.replicate f frZ,0⟩
 asl:S.H.asl=as0
 sl:S.H.sl=List.replicate s 0
 sw:S.H.sw=⟨List.replicate s zPg,[]⟩
 dk:S.H.dk=⟨bl,q⟩
 fi:S.H.fi=fi0
 ct:S.H.ct=ct
 ca:S.H.ca=[]
 sp:S.H.sp=[]
 T:S.T=[]
theorem IG.ma{q:List (Int × Page)}(h:IG f s ct as0 fi0 bl q S):S.H.ma=Cb f s ct bl q (fi0.map PF.fi):=by
 unfold MH.ma Cb cZ;rw[h.m,h.sl,h.sw,h.dk,h.fi,h.ct,h.ca,h.sp];rfl
theorem IG.lst{q:List (Int × Page)}(h:IG f s ct as0 fi0 bl q S)(a:Option Addr)(c:Nat)(l:List UInt8):IG f s ct as0 fi0 bl q (S.lst a c l):=⟨h.m,h.asl,h.sl,h.sw,h.dk,h.fi,h.ct,h.ca,h.sp,h.T⟩
theorem fF.kb_int(h:fF w B b S){x:Nat}(k:aG w x cs 3)(j:oB S.H.asl≠some x):¬nS b S x:=by
 have own:∀ {e:TypeId} {sz n c:Nat} {a:Option Addr} {xs:List Value},3≠e->Own w B e sz (.slice a n c) n xs->oB a=some x->False:=λu A j=>by obtain⟨_,cs',h2⟩:=jf A j;exact mG k h2 u rfl
 intro d;rcases d with d | d
 ·subst d; exact mG k h.blk (by decide) rfl
 simp only[iZ,dz,ib,or_false]at d;rcases d with d | d | d | d | d | d | d | d | d
 ·exact own (by decide) h.ma.fr d.symm
 ·exact j d.symm
 ·exact own (by decide) h.ma.sw.b d.symm
 ·exact own (by decide) h.ma.dk.b d.symm
 ·exact own (by decide) h.ma.dk.q d.symm
 ·exact own (by decide) h.ma.st.own d.symm
 ·exact own (by decide) h.ma.ca d.symm
 ·exact own (by decide) h.ma.sp d.symm
 ·exact own (by decide) h.tt d.symm
theorem fF.locI(h:fF w B b S)(E:aG w g cs 3)(D:¬nS b S g)(C:∀p∈S.H.fi,oB p.a≠some g)(A:B<=g)(j:w.grownBy w' (some g)):fF w' B b S:=by
 have d:∀ {a:Option Addr},oB a∈iZ S->∀n c g',(Value.slice a n c).ownBlock=some g'->some g≠some g':=λG n c g' k e=>by cases e;rw[jF]at k;exact D (.inr (by rw[<-k];exact G))
 exact⟨h.blk.grown j (λe=>D (.inl (aM e))),h.ge,⟨h.ma.fr.grown j (d (by simp[iZ]) _ _),h.ma.sl.grown j (d (by simp[iZ]) _ _),⟨h.ma.sw.b.grown j (d (by simp[iZ]) _ _),h.ma.sw.q.grown j (λg' k=>by rw[h.n3]at k;cases k)⟩,⟨h.ma.dk.b.grown j (d (by simp[iZ]) _ _),h.ma.dk.q.grown j (d (by simp[iZ]) _ _)⟩,
  ⟨h.ma.st.own.grown j (d (by simp[iZ]) _ _),λi p u=>(h.ma.st.each i p u).grown j (λg' k e=>by cases e;unfold ou at k;rw[jF]at k;exact C p (bP u) k),h.ma.st.apart⟩,h.ma.ca.grown j (d (by simp[iZ]) _ _),h.ma.sp.grown j (d (by simp[iZ]) _ _),λp u=>⟨ax (h.ma.ps p u).1 E j,(h.ma.ps p u).2.keep E (by decide) j⟩,h.ma.c64⟩,
  h.tt.grown j (d (by simp[iZ]) _ _),h.rd.keep h.ra h.bs j A,h.ra,h.n1,h.n2,h.n3⟩
theorem fF.setTb(h:fF w B b S){P:PS}(C:S.H.sp[p]?=some P) :
  ∃g off cur,S.H.ap=some ⟨g,off,none⟩/\B<=g/\aG w g cur 76/\off+p*10+2+8<=cur.size /\
   ∀(w' : World) (v:Vector Value 8) (t:Tb),sM w B (nT v) t->aG w' g (bH cur (off+p*10+2) (nT v).toList) 76->w.grownBy w' (some g)->fF w' B b { S with H:={ S.H with sp:=S.H.sp.set p { P with ts:=v,tb:=t } } }:=by
 have E:=(bZ.1 C).1;have l:=(bZ.1 C).2;obtain⟨g,off,O,cur,D,I,a,m,f⟩:=nP oU rfl h.ma.sp p E;simp only[lU]at D;obtain⟨k,_,n⟩:=D;have e:=h.ma.sp;rw[k]at e;have d:=yY e a;have i:∀j u,(ug P)[j]?=some u->cur[off+p*10+j]?=some u:=λj u K=>by rw[ng];exact d _ _ (flat_get ug 10 oU S.H.sp p E j u (by rw[l];exact K))
 refine⟨g,off,cur,k,I,a,by omega,λw' v t J G M => ?_⟩;have N:bH cur (off+p*10) (ug { P with ts:=v,tb:=t })=bH cur (off+p*10+2) (nT v).toList:=by show bH cur (off+p*10) (.bool P.lv :: .slice P.aa P.ar.length P.ac::(nT v).toList)=_;rw[vO _ (by simpa using i 0 _ rfl),vO _ (i 1 _ rfl)]
 rw[<-N]at G;have c:(S.H.sp.set p { P with ts:=v,tb:=t }).length=S.H.sp.length:=bI;refine h.putP a I M c (by rw[c];exact f w' _ G) λq A => ?_;rcases lS A with A|rfl
 ·exact h.ma.ps q A
 ·exact⟨(h.ma.ps P (bP C)).1,J⟩
def EM(S:MW)(B b:Nat)(w:World)(ks:List (Nat × Array Value × TypeId))(p q:Nat)(e:TypeId)(sz n:Nat)(v0:Value)(old xs:List Value):(Nat->Bool)->(Nat->Value)->World->Prop:=λL y W=>
 (aG W b (jI S) 98/\∀t∈ks,aG W t.1 t.2.1 t.2.2)/\(L p=false->fF W B b S/\MS w b S W S)/\(L q=true->L p=false->∃a c,y q = .slice a 1 c/\vG W a c 1 xs) /\
 (L p=true->∃w1,fF w1 B b S/\MS w b S w1 S/\w1.grownBy W v0.ownBlock/\Own W B e sz (y p) (n+1) (old++xs)/\oJ w1 v0 (y p))
theorem fO{ks:List (Nat × Array Value × TypeId)}{n:Nat} :∀L y W W',Below W.heap.size W W'->EM S B b w ks p q e sz n v0 old xs L y W->EM S B b w ks p q e sz n v0 old xs L y W':=
 λ_ _ _ _ hb ⟨h1,h2,h3,h4⟩=>⟨⟨h1.1.ext hb,λt u=>(h1.2 t u).ext hb⟩,λe=>⟨(h2 e).1.below hb,(h2 e).2.below hb⟩,λC A=>by
  obtain⟨a,e,k1,d⟩:=h3 C A;exact⟨a,e,k1,d.below hb⟩,λe=>by
  obtain⟨w1,k1,d,k,j,h⟩:=h4 e;exact⟨w1,k1,d,Kj k hb,j.below hb,h⟩⟩
theorem gL{ks:List (Nat × Array Value × TypeId)}{n:Nat}(j:i≠q/\i≠p)(h:EM S B b w ks p q e sz n v0 old xs L y W):EM S B b w ks p q e sz n v0 old xs (dS L i) (fG y i v) W:=by
 obtain⟨E,h2,D,C⟩:=h;have A:dS L i q=L q:=by unfold dS;rw[if_neg (λe=>j.1 e.symm)]
 have d:dS L i p=L p:=by unfold dS;rw[if_neg (λe=>j.2 e.symm)]
 have u:fG y i v q=y q:=by unfold fG;rw[if_neg (λe=>j.1 e.symm)]
 have k:fG y i v p=y p:=by unfold fG;rw[if_neg (λe=>j.2 e.symm)]
 exact⟨E,by rw[d];exact h2,by rw[A,d,u];exact D,by rw[d,k];exact C⟩
theorem TU{ks:List (Nat × Array Value × TypeId)}{n:Nat}(d:p≠q)(A:Below W.heap.size W W')(h:EM S B b w ks p q e sz n v0 old xs L y W)(u:vG W' a c 1 xs) :
  EM S B b w ks p q e sz n v0 old xs (dS L q) (fG y q (.slice a 1 c)) W':=by
 obtain⟨D,h2,E,C⟩:=fO _ _ _ _ A h;have j:dS L q p=L p:=by unfold dS;rw[if_neg d]
 have k:fG y q (.slice a 1 c) p=y p:=by unfold fG;rw[if_neg d]
 exact⟨D,by rw[j];exact h2,λ_ _=>⟨a,c,by unfold fG;rw[if_pos rfl],u⟩,by rw[j,k];exact C⟩
theorem Uh{ks:List (Nat × Array Value × TypeId)}{n:Nat}(u:L p=false)(h:EM S B b w ks p q e sz n v0 old xs L y W)(j:W.grownBy W' v0.ownBlock)
 (d:∀g,v0.ownBlock=some g->g≠b/\∀t∈ks,t.1≠g) (D:Own W' B e sz v (n+1) (old++xs)) (C:oJ W v0 v):EM S B b w ks p q e sz n v0 old xs (dS L p) (fG y p v) W':=by
 obtain⟨A,h2,G,E⟩:=h;refine⟨⟨A.1.grown j (λe=>(d b e).1 rfl),λt k=>(A.2 t k).grown j (λe=>(d _ e).2 t k rfl)⟩,λe => ?_,λ_ e => ?_,λ_=>⟨W,(h2 u).1,(h2 u).2,j,by unfold fG;rw[if_pos rfl];exact D,by unfold fG;rw[if_pos rfl];exact C⟩⟩<;>· unfold dS at e;rw[if_pos rfl]at e;cases e
theorem Tc{ks:List (Nat × Array Value × TypeId)}{n:Nat}(h:fF w B b S)(d:∀t∈ks,aG w t.1 t.2.1 t.2.2)(y:Nat->Value):EM S B b w ks p q e sz n v0 old xs (λ_=>false) y w:=
 ⟨⟨h.blk,d⟩,λ_=>⟨h,MS.refl _ _ _⟩,λe=>(by cases e),λe=>(by cases e)⟩
def Gx(S:MW)(B b:Nat)(w:World)(gf:Nat)(F:PF):(Nat->Bool)->(Nat->Value)->World->Prop:=λL y W=>
 (∃a c l,fF W B b (S.lst a c l)/\MS w b S W (S.lst a c l))/\aG W gf (qI F) 101/\Own W B 3 1 (ou F) F.l.length (F.l.map gF) /\
 (L 4=true->L 11=false->∃g,y 4 = .slice (some ⟨g,0,none⟩) 0 0/\Own W w.heap.size 101 2 (.slice (some ⟨g,0,none⟩) 0 0) 0 []) /\
 (L 11=true->L 14=false->Own W w.heap.size 101 2 (y 11) S.H.fi.length (S.H.fi.flatMap rG)) /\
 (L 13=true->L 14=false->Own W w.heap.size 101 2 (y 13) 1 (rG F)) /\
 (L 14=true->Own W w.heap.size 101 2 (y 14) (S.H.fi.length+1) (S.H.fi.flatMap rG++rG F))/\w.heap.size<=W.heap.size/\(L 15=true->L 14=true/\y 15 = .agg #[y 14,.int .i64 0])
theorem eT :∀L y W W',Below W.heap.size W W'->Gx S B b w gf F L y W->Gx S B b w gf F L y W':=
 λ_ _ _ _ hb ⟨⟨a,c,l,h1,h2⟩,h3,h4,h5,h6,h7,h8,h9,h10⟩=>⟨⟨a,c,l,h1.below hb,h2.below hb⟩,h3.ext hb,h4.below hb,λd h=>by obtain⟨g,k1,j⟩:=h5 d h;exact⟨g,k1,j.below hb⟩,λd h=>(h6 d h).below hb,λd h=>(h7 d h).below hb,λd=>(h8 d).below hb,bi h9 hb.size,h10⟩
theorem Wi(h:fF w B b S)(j:aG w gf (qI F) 101)(d:Own w B 3 1 (ou F) F.l.length (F.l.map gF))(y:Nat->Value):Gx S B b w gf F (λ_=>false) y w:=
 ⟨⟨S.al,S.cl,S.l,h,MS.refl _ _ _⟩,j,d,λe=>(by cases e),λe=>(by cases e),λe=>(by cases e),λe=>(by cases e),az _,λe=>(by cases e)⟩
theorem fK(D:i≠4/\i≠11/\i≠13/\i≠14/\i≠15:=by decide)(h:Gx S B b w gf F L y W:=by exact h):Gx S B b w gf F (dS L i) (fG y i v) W:=by
 have e:∀k,k=4\/k=11\/k=13\/k=14\/k=15->dS L i k=L k/\fG y i v k=y k:=λk C=>⟨by unfold dS;rw[if_neg (by omega)],by unfold fG;rw[if_neg (by omega)]⟩;have A:=e 4 (by decide);have u:=e 11 (by decide);have n:=e 13 (by decide);have j:=e 14 (by decide);have d:=e 15 (by decide);unfold Gx;rw[A.1,A.2,u.1,u.2,n.1,n.2,j.1,j.2,d.1,d.2];exact h
theorem Xz(h:Gx S B b w gf F L y W):Gx S B b w gf F (dS L 4) (fG y 4 (.slice (some ⟨W.heap.size,0,none⟩) 0 0)) (W.alloc (.cells #[] 101)):=by
 obtain⟨C,A,u,D,n,k,j,d,a⟩:=eT _ _ _ _ ((Below.refl _ _).alloc (az _) (.cells #[] 101)) h;exact⟨C,A,u,λ_ _=>⟨_,rfl,Own.empty _ _ h.2.2.2.2.2.2.2.1⟩,n,k,j,d,a⟩
theorem WK(h:Gx S B b w gf F L y W)(j:Below W.heap.size W W')(d:Own W' w.heap.size 101 2 v S.H.fi.length (S.H.fi.flatMap rG)):Gx S B b w gf F (dS L 11) (fG y 11 v) W':=by
 obtain⟨D,C,A,G,E,u,n,k,a⟩:=eT _ _ _ _ j h;exact⟨D,C,A,λ_ e=>(by cases e),λ_ _=>d,u,n,k,a⟩
theorem Xj(h:Gx S B b w gf F L y W)(j:Below W.heap.size W W')(d:Own W' w.heap.size 101 2 v 1 (rG F)):Gx S B b w gf F (dS L 13) (fG y 13 v) W':=by
 obtain⟨E,D,C,A,u,G,n,k,a⟩:=eT _ _ _ _ j h;exact⟨E,D,C,A,u,λ_ _=>d,n,k,a⟩
theorem OA(h:fF w B b S){l:List UInt8}{x:Nat}(d:w.heap.size<=x):¬nS b (S.lst a c l) x:=λj=>h.new d j
theorem WE(G:fF w B b S)(J:gf<w.heap.size)(h:Gx S B b w gf F L y W)(C:L 11=true)(A:L 14=false)(n:W.grownBy W' (y 11).ownBlock)(I:Own W' w.heap.size 101 2 v (S.H.fi.length+1) (S.H.fi.flatMap rG++rG F)) :
  Gx S B b w gf F (dS L 14) (fG y 14 v) W':=by
 obtain⟨⟨a,c,l,E,h2⟩,N,D,U,M,R,O,K,i⟩:=h;have u:=M C A;have d:∀k,(y 11).ownBlock=some k->w.heap.size<=k:=λk j=>u.ge k j;refine⟨⟨a,c,l,?_,?_⟩,N.grown n (λe=>by have:=d _ e;omega),?_,λ_ e=>(by rw[show dS L 14 11=L 11 from rfl,C]at e;cases e),λ_ e=>(by cases e),λ_ e=>(by cases e),λ_=>I,bi K n.size,λe=>oV A (i e).1⟩
 ·cases j:(y 11).ownBlock with
  | none=>rw[j]at n;exact E.below (lm n)
  | some g=>
   rw[j]at n;obtain⟨cs,f⟩:=mQ u g j;exact E.locT f (by decide) (OA G (d g j)) (bi G.bs (d g j)) n
 ·cases j:(y 11).ownBlock with
  | none=>rw[j]at n;exact h2.below (lm n)
  | some g=>rw[j]at n;exact h2.loc n (d g j)
 cases j:(y 11).ownBlock with
 | none=>rw[j]at n;exact D.below (lm n)
 | some g=>
  rw[j]at n;obtain⟨cs,f⟩:=mQ u g j;exact ax D f n
theorem SF(I:i≠4/\i≠11/\i≠13/\i≠14/\i≠15)(Z:fF w B b S)(C:¬nS b S gf)(A:∀x,(ou F).ownBlock=some x->¬nS b S x)(n:Int)(hn : -9223372036854775808<=n/\n<=9223372036854775807)(h:Gx S B b w gf F L y W){R:Value->World->Prop}(J:∀x:Int,0<=x->x<256->∀W',R (.int .i64 x) W') :
  Calls Tryz.prog 32 #[.pointer (some ⟨b,0,none⟩),.int .i64 n] W λe W' => ∃v,e = .returned v/\Gx S B b w gf F (dS L i) (fG y i v) W'/\R v W':=by
 obtain⟨⟨a,c,l,Y,h2⟩,X,V,U,O,N,M,K,f⟩:=h;refine(fZ _ n B b W Y (hn:=hn)).mono ?_;rintro r W' ⟨x,a',c',G,rfl,k1,k,D,_⟩;have d:∀ {e:TypeId} {sz n:Nat} {v:Value} {xs:List Value},Own W w.heap.size e sz v n xs->Own W' w.heap.size e sz v n xs:=λE=>k.ownN E λx H=>OA Z (E.ge x H);refine⟨_,rfl,fK (D:=I) (h:=⟨⟨a',c',G,k1,h2.trans k⟩,k.blkN X C,k.ownN V A,λj u => ?_,λj u=>d (O j u),λj u=>d (N j u),λj=>d (M j),bi K k.size,f⟩),J x D.1 D.2.1 W'⟩;obtain⟨g,e3,e4⟩:=U j u;exact⟨g,e3,d e4⟩
theorem Xn(d:L 14=true)(h:Gx S B b w gf F L y W):Gx S B b w gf F (dS L 15) (fG y 15 (.agg #[y 14,.int .i64 0])) W:=by
 obtain⟨E,D,C,A,u,n,k,j,a⟩:=h;exact⟨E,D,C,A,u,n,k,j,λ_=>⟨d,rfl⟩⟩
theorem Vw(h:B<=w.heap.size)(F:PF):Own (w.alloc (.cells (qI F) 101)) B 101 2 (.slice (some ⟨w.heap.size,0,none⟩) 1 1) 1 (rG F):=
 ⟨rfl,.inr ⟨w.heap.size,0,1,_,rfl,h,aG.new _ _ _,az _,by unfold maxLen;omega,az _,λj u d=>by rw[eB,<-uQ];exact d⟩⟩
theorem Ow(h:Gx S B b w gf F L y W)(n:L 14=true):∃a c,y 14 = .slice a (S.H.fi++[F]).length c/\MO W a c (S.H.fi++[F]):=by
 obtain⟨⟨a,c,l,N,h2⟩,X,M,V,U,R,K,O,d⟩:=h;obtain⟨a',c',e,k1,J,I,G⟩:=(K n).rd;have u:(S.H.fi++[F]).length=S.H.fi.length+1:=by simp
 refine⟨a',c',by rw[u];exact e,by rw[u];exact k1,J,I,by rw[fM];simpa using G,λp j => ?_⟩;rcases gV.1 j with j|j
 ·exact N.ma.rd.st.good p j
 rw[bC.1 j];obtain⟨Z,Y,k,E,D,C,A⟩:=M.rd;unfold ou at k;injection k with k e10 e11;subst k;subst e11;exact⟨E,D,C,A⟩
theorem XM{t:List En}(h:t.length=64):tL t=t.flatMap lZ:=by
 have e:(List.range 64).map (λi=>t.getD i zEn)=t:=by
  apply oG;intro i;rw[jd]
  by_cases d:i<64
  ·rw[uu d,aI (by omega)];show some (t.getD i zEn)=_;rw[aW,aI (by omega)];rfl
  ·rw[fH (by rw[Ea];omega),fH (by omega)];rfl
 unfold tL;rw[<-Dw (f:=λi=>t.getD i zEn) (g:=lZ),e]
theorem Ld{s:St}{b:Int}(h:b∈lT s):iE s b=true:=by
 cases hu:iE s b with
 | true=>rfl
 | false=>exact absurd h (Jr hu)
theorem Wv{t:Tb}(h:dA t=0)(A:∀n,(dM t n).k=0):t=zTb:=
 Uk h zTb_right λn=>by
  rw[yg];have u:=(bG _).1 (qH h n);have h2:=A n;rcases u with⟨_,j,d⟩|⟨e,_⟩|⟨e,_⟩
  ·generalize dM t n=x at *
   obtain⟨a,b,c⟩:=x;simp only at h2 j d;subst h2;subst j;subst d;rfl
  ·omega
  ·omega
theorem Qa(H:MH)(w:World)(h:wI w H)(hR:Rt H.ma) :
  Calls Tryz.prog 52 #[.agg (dF H)] w λr w'=>r = .returned (.int .i64 0)/\Below w.heap.size w w':=by
 have hh:=ae h;have hq:=ae hR;have i:=ae hR.pt;have z1:H.dk.blocks.length<=1000:=(nX hR).dkb;have z2:H.dk.queue.length<=1000:=(nX hR).dkq;clear hR;go_enter func52,ntmps52;go_upto_region 1 with(fail);refine iC (λW=>Code.wp _ _ _ _ W) λw1 hp J hy => ?_;have J:aG w1 w.heap.size (dF H) 45:=J;have h1:=h.below hp;clear h hy;have r1:eu w1 (some ⟨w.heap.size,0,none⟩) [.slice H.af H.m.fs.length H.cf,.int .i64 H.m.hand]:=bF J 0 2
 go_wp2_with (refine ay w.heap.size 0 _ r1 _ underlying32 rfl mem_size ?_)
 refine(KY H.m H.af H.cf _ h1.fr).mono ?_;rintro r w2 ⟨rfl,y⟩;rw[show bu H.m=0 from i.out.fr];have h2:=h1.below y;have N:=J.ext y;have hg:=ag hp y;clear h1 J hp y r1;have E:=N.cell;unfold dF at E
 go_wp2_with fail
 refine(LZ H.sl H.asl H.csl _ h2.sl.rd (by have:=h2.sl.le;have:=h2.sl.mx;unfold maxLen at this;omega)).mono ?_;rintro r w2' ⟨rfl,rfl⟩;rw[show dL H.sl=0 from i.out.sl];clear E;have r2:eu w2' (some ⟨w.heap.size,3,none⟩) [.slice H.wb H.sw.blocks.length H.cwb,.slice H.wq H.sw.queue.length H.cwq]:=bF N 3 2
 go_wp2_with (refine ay w.heap.size 3 _ r2 _ underlying38 rfl disk_size ?_)
 refine(xM H.sw H.wb H.cwb H.wq H.cwq _ h2.sw).mono ?_;rintro r w3 ⟨rfl,x⟩;rw[show bX H.sw=0 from i.out.sw];have h3:=h2.below x;have Y:=N.ext x;have hf:=ag hg x;clear h2 N hg x r2;have r3:eu w3 (some ⟨w.heap.size,5,none⟩) [.slice H.db H.dk.blocks.length H.cdb,.slice H.dq H.dk.queue.length H.cdq]:=bF Y 5 2
 go_wp2_with (refine ay w.heap.size 5 _ r3 _ underlying38 rfl disk_size ?_)
 refine(xM H.dk H.db H.cdb H.dq H.cdq _ h3.dk).mono ?_;rintro r w4 ⟨rfl,v⟩;rw[show bX H.dk=0 from i.out.dk];have h4:=h3.below v;have V:=Y.ext v;have hd:=ag hf v;clear h3 Y hf v r3;have r4:eu w4 (some ⟨w.heap.size,7,none⟩) [.slice H.ai H.fi.length H.ci,.int .i64 H.ct]:=bF V 7 2
 go_wp2_with (refine ay w.heap.size 7 _ r4 _ underlying41 rfl store_size ?_)
 refine(KU H.fi H.ct H.ai H.ci _ h4.st h4.c64).mono ?_;rintro r w5 ⟨rfl,hn⟩;rw[show aT (cZ H.fi H.ct)=0 from i.out.st];have U:=V.ext hn;have hb:=ag hd hn;clear h4 V hd hn r4;have l1:Hid (H.sw.blocks.length=H.sl.length):=ae i.out.swl;have l2:Hid ((H.dk.blocks.length:Int)=H.ct):=ae i.out.dkl;have E:=U.cell;unfold dF at E;rw[<-l2.out,l1.out]at E;go_upto_region 18 with(fail);rw[<-l1.out,l2.out]at E;go_wp2
 go_loopw [68] (fun s68 wr => ∃k:Nat,k<=H.dk.blocks.length/\s68 = .int .i64 k/\Below w.heap.size w wr/\aG wr w.heap.size (dF H) 45) (fun s68 _=>H.dk.blocks.length-(intOf s68).toNat)
 case atStart=>exact⟨0,bq _,rfl,hb,U⟩
 case round=>
  clear hb U E;obtain⟨k,hk,rfl,a,K⟩:=hrel;have G:=hh.out.below a
  by_cases C:k<H.dk.blocks.length
  ·obtain⟨bd,od,p,j⟩:=jO nQ G.dk.rb k C;have l:(k:Int)<(H.dk.blocks.length:Int):=by omega
   have hz:Hid ((k:Int)∈lT H.ma.st\/H.dk.blocks[k]=zPg):=ae (by
    have:=hq.out.trim.1 k (by omega) (by exact_mod_cast C);rw[bv]at this;have e:H.ma.dk.blocks.getD k zPg=H.dk.blocks[k]:=by show H.dk.blocks.getD k zPg=_;rw[aW,aI C];rfl
    rw[e]at this;exact this)
   generalize H.dk.blocks[k]=P at *
   rw[p]
   go_wp2_with (first | (refine ay bd (od+k*8) _ j _ underlying58 rfl psize ?_) | (refine aJ rfl rfl (dW P) rfl rfl rfl psize (eF _) ?_))
   intro w6 c A;have d:=ag a c;have D:=K.ext c;have q:=G.below c;clear a K c j G;have r6:eu w6 (some ⟨w.heap.size,7,none⟩) [.slice H.ai H.fi.length H.ci,.int .i64 H.ct]:=bF D 7 2
   go_wp2_with (refine ay w.heap.size 7 _ r6 _ underlying41 rfl store_size ?_)
   refine(Cx H.fi H.ct k H.ai H.ci _ q.st).mono ?_;rintro r w7 ⟨rfl,b⟩;have g:=ag d b;have M:=D.ext b;have I:=A.ext b;clear d D q A b r6;cases hu:iE (cZ H.fi H.ct) (k:Int)with
   | true=>
    clear I;go_wp2;go_roundw
    case rel=>exact⟨k+1,by omega,by go_num,g,M⟩
    case measure=>simp[intOf];omega
   | false=>
    have R:P=zPg:=by
     rcases hz.out with e|e
     ·have h9:=Ld e;exact absurd (h9.symm.trans hu) (by decide)
     ·exact e
    subst R;have f:=I.cell;rw[lit0] at f;have hE:∀W,(Op.equalIn 10000 58 (.agg #[.int .u8 0,.int .u8 0,.int .u8 0,.int .u8 0,.int .u8 0,.int .u8 0,.int .u8 0,.int .u8 0]) (.agg #[.int .u8 0,.int .u8 0,.int .u8 0,.int .u8 0,.int .u8 0,.int .u8 0,.int .u8 0,.int .u8 0])).run Tryz.prog W = .ok true W:=λW=>XA zPg zPg W;go_wp2;go_roundw
    case rel=>exact⟨k+1,by omega,by go_num,g,M⟩
    case measure=>simp[intOf];omega
  have l:¬(k:Int)<(H.dk.blocks.length:Int):=by omega
  have E:=K.cell;unfold dF at E;clear G;go_wp2
  go_loopw [88] (fun s88 wr => ∃k:Nat,k<=H.dk.queue.length/\s88 = .int .i64 k/\Below w.heap.size w wr/\aG wr w.heap.size (dF H) 45) (fun s88 _=>H.dk.queue.length-(intOf s88).toNat)
  case atStart=>exact⟨0,bq _,rfl,a,K⟩
  case round=>
   clear a K E l;obtain⟨k,hk,rfl,a,K⟩:=hrel;have G:=hh.out.below a
   by_cases C:k<H.dk.queue.length
   ·obtain⟨bd,od,p,j⟩:=jO wD G.dk.rq k C;have l:(k:Int)<(H.dk.queue.length:Int):=by omega
    have hr:iE (cZ H.fi H.ct) (H.dk.queue[k]).1=true:=Ld (hq.out.trim.2 _ (fe C));generalize H.dk.queue[k]=X at *
    rw[p]
    go_wp2_with (first | (refine ay bd (od+k*9) _ j _ underlying105 rfl put_size ?_) | (refine aJ rfl rfl (Ie X) rfl rfl rfl put_size (OW _) ?_))
    intro w6 c A;have d:=ag a c;have D:=K.ext c;have q:=G.below c;clear a K c j G;have f:=A.cell;unfold Ie at f;have r6:eu w6 (some ⟨w.heap.size,7,none⟩) [.slice H.ai H.fi.length H.ci,.int .i64 H.ct]:=bF D 7 2
    go_wp2_with (refine ay w.heap.size 7 _ r6 _ underlying41 rfl store_size ?_)
    refine (Cx H.fi H.ct X.1 H.ai H.ci _ q.st).mono ?_;rintro r w7 ⟨rfl,b⟩;have g:=ag d b;have M:=D.ext b;rw[hr];clear d D q A b r6 f hr;go_wp2;go_roundw
    case rel=>exact⟨k+1,by omega,by go_num,g,M⟩
    case measure=>simp[intOf];omega
   have l:¬(k:Int)<(H.dk.queue.length:Int):=by omega
   have E:=K.cell;unfold dF at E;have hG:H.sp.length<=4:=by have:=i.out.spl;rw[rX]at this;exact this
   clear G;go_wp2
   go_loopw [106] (fun s106 wr => ∃k:Nat,k<=H.sp.length/\s106 = .int .i64 k/\Below w.heap.size w wr) (fun s106 _=>H.sp.length-(intOf s106).toNat)
   case atStart=>exact⟨0,bq _,rfl,a⟩
   case round=>
    clear a K E l;obtain⟨k,hk,rfl,a⟩:=hrel;have G:=hh.out.below a
    by_cases C:k<H.sp.length
    ·obtain⟨bd,od,P,p,R,j⟩:=qN G.sp.rd k C;have l:(k:Int)<(H.sp.length:Int):=by omega
     have o:=qF G R;have ht:P.sp∈H.ma.sp:=by show P.sp∈H.sp.map PS.sp;exact iA.2 ⟨P,bP R,rfl⟩
     have hF:(bQ P.ar).1=0:=i.out.ar P.sp ht;have hs:dA P.tb=0:=i.out.tb P.sp ht;have hm:Hid (P.lv=false->P.ar=[]/\P.tb=zTb):=ae λhl=>by have h9:=hq.out.live k (by rw[qa R];exact hl);rw[qa R]at h9;exact⟨h9.1,Wv hs λn=>by have:=h9.2 n;unfold ent at this;rw[qa R]at this;exact this⟩
     rw[p]
     go_wp2_with (first | (refine ay bd (od+k*10) _ j _ underlying76 rfl space_size ?_) | (refine aJ rfl rfl (ze P) rfl rfl rfl space_size (by rw[<-mD,fD];exact o.one) ?_))
     intro w6 c A;have d:=ag a c;have hj:=o.below c;have hA:=hj.ars;have f:=A.cell;unfold ze at f;clear a c j G o
     go_wp2_with fail
     refine(Ep P.ar P.aa P.ac _ hA).mono ?_;rintro r w7 ⟨rfl,b⟩;rw[show Km (bQ P.ar)=#[.int .i64 0,.int .i64 (bQ P.ar).2]from by unfold Km;rw[hF]];have g:=ag d b;have hw:=hj.below b;have I:=A.ext b;clear f A d hj b hA
     go_wp2_with (refine aJ rfl rfl #[.int .i64 0,.int .i64 (bQ P.ar).2] rfl rfl rfl fau_size (nR _ _) ?_)
     intro w8 u Z;have hC:=Z.cell;have ha:=ag g u;have hi:=hw.below u;have O:=I.ext u;clear g hw I u;have s:eu w8 (some ⟨wr.heap.size,2,none⟩) (nT P.ts).toList:=bF O 2 8
     go_wp2_with (refine ay wr.heap.size 2 _ s _ underlying74 tab_agg tab_size ?_)
     refine(KN P.tb (nT P.ts) _ hi.tb).mono ?_;rintro r w9 ⟨rfl,t⟩;rw[hs];have z:=ag ha t;have hB:=hi.below t;have px9:=O.ext t;clear hC Z ha hi O t s;have f:=px9.cell;unfold ze at f;cases hlv:P.lv with
     | true=>
      rw[hlv] at f;go_wp2;go_roundw
      case rel=>exact⟨k+1,by omega,by go_num,z⟩
      case measure=>simp[intOf];omega
     | false=>
      obtain⟨e1,e2⟩:=hm.out hlv;have hv:P.ar.length=0:=by rw[e1];rfl
      rw[hlv,hv]at f;have s:eu w9 (some ⟨wr.heap.size,2,none⟩) (nT P.ts).toList:=bF px9 2 8;have hT:FZ w9 (nT P.ts) zTb:=by have:=hB.tb;rw[e2]at this;exact this
      clear hv
      go_wp2_with (refine ay wr.heap.size 2 _ s _ underlying74 tab_agg tab_size ?_)
      refine (Pj zTb zTb (nT P.ts) (nT nTs) _ hT (Cy _ 0).rd).mono ?_;rintro r wa ⟨rfl,hD⟩;rw[MU];have hx:=ag z hD;go_wp2;go_roundw
      case rel=>exact⟨k+1,by omega,by go_num,hx⟩
      case measure=>simp[intOf];omega
    have l:¬(k:Int)<(H.sp.length:Int):=by omega
    go_wp2;go_ret;exact⟨rfl,a⟩
theorem CW{α:Type}(q:α->Bool)(l:List α)(j:Nat)(d:j<l.length):(l.take (j+1)).countP q=(l.take j).countP q+if q l[j]=true then 1 else 0:=by
 rw[oC,aI d,DR];simp[uU]
theorem QK(H:MH)(g:Pg)(e:En)(w:World)(h:wI w H)(hR:Rt H.ma)(hf:QA H.ma g e)(hk:e.k≠0)(V:eP e=0) :
  Calls Tryz.prog 53 #[.agg (dF H),.agg (wZ (some g)),.agg (jm e)] w λr w'=>r = .returned (.int .i64 0)/\Below w.heap.size w w':=by
 have z:=ae hR;have l:=ae hf;clear hR hf;go_enter func53,ntmps53;go_upto_region 1 with(fail);refine Kz (λW=>Code.wp _ _ _ _ W) λw1 i D A C v => ?_;have D:aG w1 w.heap.size (dF H) 45:=D;have A:aG w1 (w.heap.size+1) #[.bool true,.bool g.rd,.bool g.wr,.bool g.sh,.int .i64 g.fi,.int .i64 g.pg] 80:=A;have C:aG w1 (w.heap.size+1+1) #[.int .i64 e.k,.int .i64 e.n,.bool e.w] 68:=C;have h1:=h.below i;clear h v;have Y:=D.cell;unfold dF at Y;have N:=A.cell;have E:=C.cell;have c:=(bG _).1 V
 by_cases U:e.k=2
 ·obtain⟨q1,q2⟩:=l.out.sw U;have O : e.n<(H.sl.length:Int):=q1;rw[U]at E;rw[q2]at N;clear q1 q2 hk c V U;go_wp2;go_ret;exact⟨rfl,i⟩
 have k1:e.k=1:=by omega
 have O : e.n<(H.m.fs.length:Int):=l.out.lt k1;obtain⟨M,K,J,I,G⟩:=l.out.fr k1;have x:0<=e.n:=by omega
 obtain⟨F,Z⟩:∃F:Nat,e.n=F:=⟨e.n.toNat,by omega⟩;have o:F<H.m.fs.length:=by omega
 obtain⟨bf,of,y,t⟩:=jO eX h1.fr.rd F o;have p:aB H.ma e.n.toNat=H.m.fs[F]:=by rw[Z,bv];unfold aB;show H.m.fs.getD F fr0=_;rw[aW,aI o];rfl
 have j:bT H.m.fs[F]=0:=by rw[<-p,Z,bv];exact z.out.pt.frE (m:=H.ma) o
 rw[p]at M K I G;have ha : -1<=(H.m.fs[F]).f:=by
  unfold bT at j;split at j
  ·exact absurd j (by decide)
  rename_i hb;unfold Ew at hb;simp at hb;omega
 generalize H.m.fs[F]=X at *
 rw[k1,Z]at E;rw[y]at Y;have hd:(F:Int)<(H.m.fs.length:Int):=by omega
 clear c V hk U p O x
 go_wp2_with (first | (refine ay bf (of+F*13) _ t _ underlying66 rfl frame_size ?_) | (refine aJ rfl rfl (tV X) rfl rfl rfl frame_size (pq _) ?_))
 intro w4 d R;have a:=ag i d;have N:=(A.ext d).cell;have E:=(C.ext d).cell;rw[k1]at E;have s:=R.cell;unfold tV at s;clear D A C h1 Y i d t R
 by_cases c1:X.f<0
 ·have b:X.f = -1:=by omega
  have u:g.sh=false:=by
   cases hs:g.sh with
   | false=>rfl
   | true=>have:=K hs;omega
  rw[b]at s;rw[u]at N;cases hw:e.w with
  | false=>
   rw[hw]at E
   by_cases c2:0<=g.fi
   ·have c3:¬(-1:Int)=g.fi:=by omega
    clear M K J I G b;go_wp2
    all_goals go_ret
    all_goals exact⟨rfl,a⟩
   clear M K J I G b;go_wp2
   all_goals go_ret
   all_goals exact⟨rfl,a⟩
  | true=>
   rw[hw]at E;have h3:=J hw;have h5:=G hw c1;rw[h3]at N
   by_cases c2:0<=g.fi
   ·have c3:¬(-1:Int)=g.fi:=by omega
    clear M K J I G b;go_wp2
    all_goals go_ret
    all_goals exact⟨rfl,a⟩
   clear M K J I G b;go_wp2
   all_goals go_ret
   all_goals exact⟨rfl,a⟩
 have q:0<=X.f:=by omega
 obtain⟨p1,p2⟩:=M q;rw[<-p1,<-p2]at N;have c2:(X.f == -1)=false:=by simp;omega
 clear p1 p2;cases hw:e.w with
 | false=>
  rw[hw]at E;clear M K J I G;go_wp2
  all_goals go_ret
  all_goals exact⟨rfl,a⟩
 | true=>
  rw[hw]at E;have h3:=J hw;have h4:=I hw q;rw[h3,h4]at N;clear M K J I G;go_wp2
  all_goals go_ret
  all_goals exact⟨rfl,a⟩
theorem DN{l:List En}(h:l.length=64):xR l=(tL l).toArray:=by
 unfold xR tL;congr 1;have e:l=(List.range 64).map λi=>l.getD i zEn:=by
  apply uZ
  ·simp[h]
  intro i d h2;simp[aW,aI d]
 conv=>lhs;rw[e,Dw]
theorem Az(H:MH)(kd k:Int)(w:World)(h:wI w H)(M:Rt H.ma) :
  Calls Tryz.prog 54 #[.agg (dF H),.int .i64 kd,.int .i64 k] w λr w'=>r = .returned (.int .i64 (bR H.ma kd k:Int))/\Below w.heap.size w w':=by
 have hj:=ae M.pt;have hh:=ae h;have hu:H.sp.length<=4:=by have:=M.pt.spl;rw[rX]at this;exact this
 clear M;go_enter func54,ntmps54;go_upto_region 1 with(fail);refine iC (λW=>Code.wp _ _ _ _ W) λw1 U A hg => ?_;have A:aG w1 w.heap.size (dF H) 45:=A;clear h hg;have R:=A.cell;unfold dF at R;go_wp2
 go_loopw [15,7] (fun s15 s7 wr => ∃p n:Nat,p<=H.sp.length/\s15 = .int .i64 p/\s7 = .int .i64 n/\n<=64*p/\Below w.heap.size w wr/\Hid (n=((H.sp.take p).map fun s=>(dC s.tb).countP (pW kd k)).sum)) (fun s15 _ _=>H.sp.length-(intOf s15).toNat)
 case atStart=>exact⟨0,0,bq _,rfl,rfl,az _,U,ae (by simp)⟩
 case round=>
  clear U A R;obtain⟨p,n,hp,rfl,rfl,hn,a,f⟩:=hrel;have I:=hh.out.below a
  by_cases J:p<H.sp.length
  ·obtain⟨bd,od,P,ht,N,v⟩:=qN I.sp.rd p J;have hk:(p:Int)<(H.sp.length:Int):=by omega
   have c:=qF I N;have hf:P.sp∈H.ma.sp:=by show P.sp∈H.sp.map PS.sp;exact iA.2 ⟨P,bP N,rfl⟩
   have hd:dA P.tb=0:=hj.out.tb P.sp hf;have e:Hid (((H.sp.take (p+1)).map λs=>(dC s.tb).countP (pW kd k)).sum=n+(dC P.tb).countP (pW kd k)):=ae (by rw[oC,N,jM,List.sum_append,<-f.out];simp);rw[ht]
   go_wp2_with (first | (refine ay bd (od+p*10) _ v _ underlying76 rfl space_size ?_) | (refine aJ rfl rfl (ze P) rfl rfl rfl space_size (by rw[<-mD,fD];exact c.one) ?_))
   intro Z t D;have q:=ag a t;have x:=c.below t;clear a t v I c;have u:eu Z (some ⟨wr.heap.size,2,none⟩) (nT P.ts).toList:=bF D 2 8
   go_wp2_with (refine ay wr.heap.size 2 _ u _ underlying74 tab_agg tab_size ?_)
   refine(yz P.tb (nT P.ts) _ x.tb hd).mono ?_;rintro r w7 ⟨rfl,V⟩;have o:=ag q V;clear u D x q V;have hr:=vz P.tb;generalize dC P.tb=l at *
   rw[DN hr];go_wp2
   go_loopw [22,7] (fun s22 s7 wr => ∃i m:Nat,i<=64/\s22 = .int .i64 i/\s7 = .int .i64 m/\m<=64*p+i/\Below w.heap.size w wr/\Hid (m=n+(l.take i).countP (pW kd k))) (fun s22 _ _=>64-(intOf s22).toNat)
   case atStart=>exact⟨0,n,bq _,rfl,rfl,by omega,o,ae (by simp)⟩
   case round=>
    clear o hn;obtain⟨i,m,hi,rfl,rfl,hm,a,C⟩:=hrel
    by_cases K:i<64
    ·have hq:(i:Int)<64:=by omega
     have j : i<l.length:=by omega
     have d:Hid ((l.take (i+1)).countP (pW kd k)=(l.take i).countP (pW kd k)+if pW kd k l[i]=true then 1 else 0):=ae (CW _ _ _ j);have X:l.getD i zEn=l[i]:=by rw[aW,aI j];rfl
     generalize l[i]=E at *
     have hl:=Ba l i K E X;clear X
     go_wp2_with (refine aJ rfl rfl (jm E) rfl rfl rfl entry_size (by simp[jm,Value.oneCell']) ?_)
     intro w8 z G;have g:=ag a z;have hx:=G.cell;unfold jm at hx;clear hl a z G
     by_cases O:E.k=kd
     ·by_cases Y:E.n=k
      ·have b : Hid (m+1=n+(l.take (i+1)).countP (pW kd k)):=ae (by rw[d.out,if_pos (by unfold pW;simp[O,Y]),C.out];omega);clear C d;go_wp2;go_roundw
       case rel=>exact⟨i+1,m+1,by omega,by go_num,by go_num,by omega,g,b⟩
       case measure=>simp[intOf];omega
      have b : Hid (m=n+(l.take (i+1)).countP (pW kd k)):=ae (by rw[d.out,if_neg (by unfold pW;simp[O,Y]),C.out];omega);clear C d;go_wp2;go_roundw
      case rel=>exact⟨i+1,m,by omega,by go_num,rfl,by omega,g,b⟩
      case measure=>simp[intOf];omega
     have b : Hid (m=n+(l.take (i+1)).countP (pW kd k)):=ae (by rw[d.out,if_neg (by unfold pW;simp[O]),C.out];omega);clear C d;go_wp2;go_roundw
     case rel=>exact⟨i+1,m,by omega,by go_num,rfl,by omega,g,b⟩
     case measure=>simp[intOf];omega
    have hq:¬(i:Int)<64:=by omega
    have b : Hid (m=((H.sp.take (p+1)).map λs=>(dC s.tb).countP (pW kd k)).sum):=ae (by rw[e.out,C.out,jD (by omega)]);clear C e;go_wp2;go_roundw
    case rel=>exact⟨p+1,m,by omega,by go_num,rfl,by omega,a,b⟩
    case measure=>simp[intOf];omega
  have hk:¬(p:Int)<(H.sp.length:Int):=by omega
  have y:Hid (n=bR H.ma kd k):=ae (by rw[f.out,jD (by omega)];unfold bR MH.ma;rw[Ec];rfl);clear f I;go_wp2;go_ret;exact⟨by rw[<-y.out];rfl,a⟩
theorem Oe{t:Tb}{n:Nat}(d:n<64):(dC t).getD n zEn=dM t (n:Int):=by
 unfold dC;rw[aW,jd,uu d];rfl
theorem KQ{y:Operand}{n:Nat}{k:IntKind}(E:o.op = .indexAddr t x y)(C:ρ x = .pointer (some ⟨b,off,none⟩))(A:ρ y = .int k (i:Int))(G:i<n)
 (D:P.underlying t=some (.array n e)) (u:(P.info? e).map (·.size)=some sz):(execOp ρ o).run P w = .ok (.value (.pointer (some ⟨b,off+i*sz,none⟩))) w:=by
 obtain⟨j,a,c⟩:∃j,P.info? e=some j/\j.size=sz:=by
  cases h:P.info? e with
  | none=>rw[h]at u;cases u
  | some j=>rw[h]at u;exact⟨j,rfl,by simpa using u⟩
 have d:(Go.sizeOf e).run P w = .ok sz w:=by simp[Go.sizeOf,typeInfo,a,go_sem,c]
 simp[execOp,go_sem,E,C,A,D,d,G]
theorem Xh{f:Nat->Option Pg}{o:Option Pg}(h:aG w go (fC f) T)(j:i<64)(d:f i=o):eu w (some ⟨go,i*6,none⟩) (wZ o).toList:=by
 have k:=bF h (i*6) 6;have h2:=OO f i j;rw[d]at h2;have e:((fC f).toList.drop (i*6)).take 6=(wZ o).toList:=by rw[<-h2,Array.toList_extract];simp[List.extract_eq_take_drop]
 rwa [e]at k
theorem zy(H:MH)(w:World)(h:wI w H)(hR:Rt H.ma) :
  Calls Tryz.prog 21 #[.agg (dF H)] w λr w'=>r = .returned (.int .i64 0)/\Below w.heap.size w w':=by
 have hh:=ae h;have o:=ae hR;have hz:=ae (nX hR);have z1:H.ca.length<=1000:=hz.out.ca;have z2:H.m.fs.length<=1000:=hz.out.fs;have z3:H.sl.length<=1000:=hz.out.sl;have z4:H.sp.length<=4:=by have:=hR.pt.spl;rw[rX]at this;exact this
 have hZ:=ae (yA hR.pt.st);clear hR;go_enter func21,ntmps21;go_upto_region 1 with(fail);refine iC (λW=>Code.wp _ _ _ _ W) λw1 km bx1 k5 => ?_;have bx1:aG w1 w.heap.size (dF H) 45:=bx1;have h1:=h.below km;clear h k5
 go_wp2_with (refine ay w.heap.size 0 _ bx1.rd _ underlying45 rfl machine_size ?_)
 refine(Qa H _ h1 o.out).mono ?_;rintro r w2 ⟨rfl,kl⟩;have bx2:=bx1.ext kl;have ka:=ag km kl;clear h1 bx1 km kl;have C:=bx2.cell;unfold dF at C;go_wp2
 go_loopw [29] (fun s29 wr => ∃q:Nat,q<=H.ca.length/\s29 = .int .i64 q/\Below w.heap.size w wr/\aG wr w.heap.size (dF H) 45) (fun s29 _=>H.ca.length-(intOf s29).toNat)
 case atStart=>exact⟨0,bq _,rfl,ka,bx2⟩
 case round=>
  clear ka bx2 C;obtain⟨q,hq,rfl,b,A⟩:=hrel;have D:=hh.out.below b
  by_cases hql:q<H.ca.length
  ·obtain⟨bc,Y,hl,hJ⟩:=jO jb D.ca.rd q hql;have kv:(q:Int)<(H.ca.length:Int):=by omega
   have u:H.ca[q]∈H.ma.ca:=fe hql;obtain⟨⟨f1,f2⟩,f3,f4⟩:=o.out.ca.file _ u;obtain⟨f5,f6⟩:=o.out.ca.lt _ u;obtain⟨f7,f8,f9⟩:=o.out.ca.fr _ u;have kd:Hid (∀G:Nat,q=G+1->∃d:Cc,H.ca[G]?=some d/\CZ d H.ca[q]/\0<=d.f/\d.f<1000/\0<=d.i/\d.i<12):=ae (λG e=>by
    have h1:G<H.ca.length:=by omega
    refine⟨H.ca[G],aI h1,(Af.1 o.out.ca.srt) G q h1 hql (by omega),?_⟩;obtain⟨⟨g1,g2⟩,g3,g4⟩:=o.out.ca.file _ (fe h1:H.ca[G]∈H.ma.ca);have hm:aN H.ma.st H.ca[G].f∈H.ma.st.fs:=by unfold aN;rw[if_pos g1,aW,aI (by omega)];exact fe _
    have:=hZ.out _ hm;have k4:=hz.out.st.1;exact⟨g1,by omega,g3,by omega⟩)
   generalize hcq:H.ca[q]=c at *
   obtain⟨F,kR⟩:∃F:Nat,c.f=F:=⟨c.f.toNat,by omega⟩;have kp:F<H.fi.length:=by have:H.ma.st.fs.length=H.fi.length:=eQ _;omega
   obtain⟨bf,of,kV,kJ⟩:=jO kE D.st.rd F kp;have kW:Hid (aN H.ma.st c.f=(H.fi[F]).fi):=ae (by rw[kR];exact jN (by show(H.fi.map PF.fi)[F]?=_;rw[jd,aI kp];rfl));have f4' : c.i<((H.fi[F]).l.length:Int):=by rw[kW.out]at f4;exact f4
   generalize H.fi[F]=P at *
   obtain⟨K,kk⟩:∃K:Nat,c.k=K:=⟨c.k.toNat,by omega⟩;have k0:K<H.m.fs.length:=Int.ofNat_lt.1 (by rw[<-kk];exact f6);obtain⟨bm,om,hF,hI⟩:=jO eX D.fr.rd K k0;have hO:aB H.ma c.k.toNat=H.m.fs[K]:=by rw[kk,bv];unfold aB;show H.m.fs.getD K fr0=_;rw[aW,aI k0];rfl
   rw[hO]at f7 f8 f9;generalize H.m.fs[K]=X at *
   have kC:Hid (0<=c.f/\c.f<1000/\0<=c.i/\c.i<12):=ae (by
    have hm:aN H.ma.st c.f∈H.ma.st.fs:=by unfold aN;rw[if_pos f1,aW,aI (by omega)];exact fe _
    have:=hZ.out _ hm;have k4:=hz.out.st.1;exact⟨f1,by omega,f3,by omega⟩)
   have c1:¬c.f<0:=by omega
   have c2:¬(H.fi.length:Int)<=c.f:=by omega
   have c3:¬c.i<0:=by omega
   have c4:¬(P.l.length:Int)<=c.i:=by omega
   have c5:¬c.k<0:=by omega
   have c6:¬(H.m.fs.length:Int)<=c.k:=by omega
   have kS:=ae (And.intro f7 (And.intro f8 f9));clear f1 f2 f3 f4 f4' f5 f6 f7 f8 f9 hO kW u;rw[hl]
   go_wp2_with (first | (refine ay bc (Y+q*3) _ hJ _ underlying122 rfl cached_size ?_) | (refine aJ rfl rfl (vT c) rfl rfl rfl cached_size (wO _) ?_))
   intro w3 hD M;have bx3:=A.ext hD;have h8:=ag b hD;have hC:∀W,Below w3.heap.size w3 W->W.cell? ⟨bf,of+F*2+1,none⟩=some (.slice P.a P.l.length P.c):=λW I=>by obtain⟨b',o',e,C⟩:=((kJ.below hD).below I) 1 _ rfl;cases e;exact C
   have hY:=hI.below hD;have kZ:=D.below hD;clear b A hD hJ kJ hI D;go_upto_region 7 with(fail);refine aO 45 [_,_,_,_,_,_,_,_,_,_,_,_,_,_,_,_,_,_,_,_,_,_,_,_,_,_,_,_,_,_,_,_,_,_,_,_,_,_,_,_,_,_,_,_,.v (.bool false)] (Gf wr.heap.size 0 rfl rfl (Gl M rfl rfl rfl rfl rfl (Gb (.bool false) (by simp[go_sem,c1]) rfl rfl rfl rfl rfl (Gk rfl (Gf wr.heap.size 0 rfl rfl (Gl M rfl rfl rfl rfl rfl (Gf w.heap.size 7 rfl rfl (Gf w.heap.size 7 rfl rfl (Gl bx3 rfl rfl rfl rfl rfl (Gn rfl rfl rfl rfl (Gb (.bool false) (by simp[go_sem,c2]) rfl rfl rfl rfl rfl (Gk rfl (Gk rfl (Gf wr.heap.size 1 rfl rfl (Gl M rfl rfl rfl rfl rfl (Gb (.bool false) (by simp[go_sem,c3]) rfl rfl rfl rfl rfl (Gk rfl (Gk rfl (Gf wr.heap.size 1 rfl rfl (Gl M rfl rfl rfl rfl rfl (Gf w.heap.size 7 rfl rfl (Gf w.heap.size 7 rfl rfl (Gl bx3 (V:=.slice (some ⟨bf,of,none⟩) H.fi.length H.ci) (by simp[dF,kV]) rfl rfl rfl rfl (Gf wr.heap.size 0 rfl rfl (Gl M (V:=.int .i64 (F:Int)) (by simp[vT,kR]) rfl rfl rfl rfl (Gr (.pointer (some ⟨bf,of+F*2,none⟩)) (λρ y W I j=>(bN rfl (aH rfl j) (aH rfl j) kp underlying39 file_size)) rfl rfl (Gf bf (of+F*2+1) rfl rfl (Gc (.slice P.a P.l.length P.c) (λW I=>by simp[hC _ I]) rfl rfl rfl rfl (Gn rfl rfl rfl rfl (Gb (.bool false) (by simp[go_sem,c4]) rfl rfl rfl rfl rfl (Gk rfl (Gk rfl (Gf wr.heap.size 2 rfl rfl (Gl M rfl rfl rfl rfl rfl (Gb (.bool false) (by simp[go_sem,c5]) rfl rfl rfl rfl rfl (Gk rfl (Gk rfl (Gf wr.heap.size 2 rfl rfl (Gl M rfl rfl rfl rfl rfl (Gf w.heap.size 0 rfl rfl (Gf w.heap.size 0 rfl rfl (Gl bx3 rfl rfl rfl rfl rfl (Gn rfl rfl rfl rfl (Gb (.bool false) (by simp[go_sem,c6]) rfl rfl rfl rfl rfl (Gk rfl (aF)))))))))))))))))))))))))))))))))))))))))))))) (λ_=>rfl) rfl ?_;intro y W4 ha _;have bx4:=bx3.ext ha;have cx4:=M.ext ha;have h7:=ag h8 ha;have hX:=hY.below ha;have kY:=kZ.below ha;have C:=bx4.cell;unfold dF at C;rw[hF]at C;have hu:=cx4.cell;unfold vT at hu;rw[kk]at hu;have gh:(K:Int)<(H.m.fs.length:Int):=by omega
   clear hC h8 bx3 M hY kZ ha kV c1 c2 c3 c4 c5 c6
   go_wp2_with (first | (refine ay bm (om+K*13) _ hX _ underlying66 rfl frame_size ?_) | (refine aJ rfl rfl (tV X) rfl rfl rfl frame_size (pq _) ?_))
   intro w5 hN fx5;have bx5:=bx4.ext hN;have cx5:=cx4.ext hN;have h6:=ag h7 hN;have ko:=kY.below hN;clear h7 bx4 cx4 hX kY hN C hu;have hS:=fx5.cell;unfold tV at hS;have hu:=cx5.cell;unfold vT at hu;obtain⟨g7,g8,g9⟩:=kS.out;have d1:¬X.r=0:=by omega
   rw[g8,g9]at hS;clear g7 g8 g9;go_upto_region 12 with(fail);rcases ut q with hq0|hqp
   ·subst hq0;refine aO 27 [_,_,_,_,_,_,_,_,_,_,_,_,_,_,_,_,_,_,_,_,_,_,_,_,_,_,.v (.bool false)] (Gk rfl (Gb (.bool false) (by simp[go_sem,]) rfl rfl rfl rfl rfl (Gk rfl (Gk rfl (Gk rfl (Gk rfl (Gk rfl (Gk rfl (Gk rfl (Gk rfl (Gk rfl (Gk rfl (Gk rfl (Gk rfl (Gk rfl (Gk rfl (Gk rfl (Gk rfl (Gk rfl (Gk rfl (Gk rfl (Gk rfl (Gk rfl (Gk rfl (Gk rfl (Gk rfl (Gk rfl (aF)))))))))))))))))))))))))))) (λ_=>rfl) rfl ?_;intro y W6 hs _;have J:=bx5.ext hs;have s:=ag h6 hs;clear ko hl hF;go_wp2;go_roundw
    case rel=>exact⟨1,by omega,by go_num,s,J⟩
    case measure=>simp[intOf];omega
   obtain⟨G,kw⟩:∃G,q=G+1:=⟨q-1,by omega⟩;obtain⟨d,hd,kD,g1,g2,g3,g4⟩:=kd.out G kw;have hv:G<H.ca.length:=by omega
   obtain⟨bc',oc',kb,hy⟩:=jO jb ko.ca.rd G hv;rw[hl]at kb;cases kb;have kL:H.ca[G]=d:=by have:=aI hv;rw[hd]at this;exact(aM this).symm
   rw[kL]at hy;have kN:∀W,Below w5.heap.size w5 W->W.cell? ⟨bc,Y+G*3,none⟩=some (.int .i64 d.f):=λW I=>by obtain⟨b',o',e,C⟩:=(hy.below I) 0 _ rfl;cases e;exact C
   have kM:∀W,Below w5.heap.size w5 W->W.cell? ⟨bc,Y+G*3+1,none⟩=some (.int .i64 d.i):=λW I=>by obtain⟨b',o',e,C⟩:=(hy.below I) 1 _ rfl;cases e;exact C
   obtain⟨e1,e2,e3,e4⟩:=kC.out;have m0:IntKind.i64.wrap ((q:Int)-1)=(G:Int):=(bK _ (by omega)).trans (by omega);have m1:IntKind.i64.wrap (100*d.f)=100*d.f:=(bK _ (by omega)).trans (by omega);have m2:IntKind.i64.wrap (100*d.f+d.i)=100*d.f+d.i:=(bK _ (by omega)).trans (by omega);have m3:IntKind.i64.wrap (100*c.f)=100*c.f:=(bK _ (by omega)).trans (by omega);have m4:IntKind.i64.wrap (100*c.f+c.i)=100*c.f+c.i:=(bK _ (by omega)).trans (by omega);have m5:¬100*c.f+c.i<=100*d.f+d.i:=by unfold CZ at kD;omega
   refine aO 27 [_,_,_,_,_,_,_,_,_,_,_,_,_,_,_,_,_,_,_,_,_,_,_,_,_,_,.v (.bool false)] (Gk rfl (Gb (.bool true) (by simp[go_sem,hqp]) rfl rfl rfl rfl rfl (Gk rfl (Gf w.heap.size 9 rfl rfl (Gl bx5 (V:=.slice (some ⟨bc,Y,none⟩) H.ca.length H.cc) (by simp[dF,hl]) rfl rfl rfl rfl (Gk rfl (Gb (.int .i64 (G:Int)) (by simp[go_sem,m0]) rfl rfl rfl rfl rfl (Gr (.pointer (some ⟨bc,Y+G*3,none⟩)) (λρ y W I j=>(bN rfl (aH rfl j) (aH rfl j) hv underlying42 cached_size)) rfl rfl (Gf bc (Y+G*3) rfl rfl (Gc (.int .i64 d.f) (λW I=>by simp[kN _ I]) rfl rfl rfl rfl (Gb (.int .i64 (100*d.f)) (by simp[go_sem,m1]) rfl rfl rfl rfl rfl (Gf w.heap.size 9 rfl rfl (Gl bx5 (V:=.slice (some ⟨bc,Y,none⟩) H.ca.length H.cc) (by simp[dF,hl]) rfl rfl rfl rfl (Gk rfl (Gb (.int .i64 (G:Int)) (by simp[go_sem,m0]) rfl rfl rfl rfl rfl (Gr (.pointer (some ⟨bc,Y+G*3,none⟩)) (λρ y W I j=>(bN rfl (aH rfl j) (aH rfl j) hv underlying42 cached_size)) rfl rfl (Gf bc (Y+G*3+1) rfl rfl (Gc (.int .i64 d.i) (λW I=>by simp[kM _ I]) rfl rfl rfl rfl (Gb (.int .i64 (100*d.f+d.i)) (by simp[go_sem,m2]) rfl rfl rfl rfl rfl (Gf wr.heap.size 0 rfl rfl (Gl cx5 rfl rfl rfl rfl rfl (Gb (.int .i64 (100*c.f)) (by simp[go_sem,m3]) rfl rfl rfl rfl rfl (Gf wr.heap.size 1 rfl rfl (Gl cx5 rfl rfl rfl rfl rfl (Gb (.int .i64 (100*c.f+c.i)) (by simp[go_sem,m4]) rfl rfl rfl rfl rfl (Gb (.bool false) (by simp[go_sem,m5]) rfl rfl rfl rfl rfl (Gk rfl (aF)))))))))))))))))))))))))))) (λ_=>rfl) rfl ?_;intro y W6 hs _;have J:=bx5.ext hs;have s:=ag h6 hs;clear ko hl hF kN kM m0 m1 m2 m3 m4 m5 hy hd kD g1 g2 g3 g4 e1 e2 e3 e4 kL kw;go_wp2;go_roundw
   case rel=>exact⟨q+1,by omega,by go_num,s,J⟩
   case measure=>simp[intOf];omega
  have kv:¬(q:Int)<(H.ca.length:Int):=by omega
  have C:=A.cell;unfold dF at C;clear D;go_wp2
  go_loopw [134] (fun s134 wr => ∃p:Nat,p<=H.sp.length/\s134 = .int .i64 p/\Below w.heap.size w wr/\aG wr w.heap.size (dF H) 45) (fun s134 _=>H.sp.length-(intOf s134).toNat)
  case atStart=>exact⟨0,bq _,rfl,b,A⟩
  case round=>
   clear b A C kv;obtain⟨p,hp,rfl,b,A⟩:=hrel;have D:=hh.out.below b
   by_cases hpl:p<H.sp.length
   ·obtain⟨bd,od,P,k8,hP,ku⟩:=qN D.sp.rd p hpl;have kx:(p:Int)<(H.sp.length:Int):=by omega
    have ht:=qF D hP;have ks:P.sp∈H.ma.sp:=by show P.sp∈H.sp.map PS.sp;exact iA.2 ⟨P,bP hP,rfl⟩
    have hG:(bQ P.ar).1=0:=o.out.pt.ar P.sp ks;have kq:Hid (dA P.tb=0):=ae (o.out.pt.tb P.sp ks);have kc:=ae (qa hP);obtain⟨ga,kU⟩:=sK hG;have k6:Hid (∀i:Nat,dm P.ar i=fI H.ma p i):=ae (λi=>by rw[oN (lK (iX.1 hG).2)];unfold fI;rw[kc.out];rfl);rw[k8]
    go_wp2_with (first | (refine ay bd (od+p*10) _ ku _ underlying76 rfl space_size ?_) | (refine aJ rfl rfl (ze P) rfl rfl rfl space_size (by rw[<-mD,fD];exact ht.one) ?_))
    intro w6 hj px6;have s:=ag b hj;have J:=A.ext hj;have kf:=ht.below hj;have kO:=px6.cell;unfold ze at kO;clear b A hj ku D ht hG
    go_wp2_with fail
    refine(pR P.ar P.aa P.ac _ kf.ars.rd (by omega) kU).mono ?_;rintro r w7 ⟨rfl,t⟩;have x:=ag s t;have R:=J.ext t;have px7:=px6.ext t;have kI:=kf.below t;clear s J px6 kf t kO
    go_wp2_with (refine aJ rfl rfl (fC (dm P.ar)) rfl rfl (by rw[ky];rfl) (by rw[ky];exact ones_size) (Bz _) ?_)
    intro w8 z ox8;have hr:=ag x z;have Z:=R.ext z;have px8:=px7.ext z;have kH:=kI.below z;clear x R px7 kI z;have kt:eu w8 (some ⟨wr.heap.size,2,none⟩) (nT P.ts).toList:=bF px8 2 8
    go_wp2_with (refine ay wr.heap.size 2 _ kt _ underlying74 tab_agg tab_size ?_)
    refine(yz P.tb (nT P.ts) _ kH.tb kq.out).mono ?_;rintro r w9 ⟨rfl,hV⟩;rw[DN (vz P.tb)];have hE:Hid (∀n:Nat,n<64->(dC P.tb).getD n zEn=ent H.ma p n):=ae (λn hn=>by rw[Oe hn];unfold ent;rw[kc.out];rfl);have h5:=ag hr hV;have bx9:=Z.ext hV;have ox9:=ox8.ext hV;generalize dC P.tb=l at *
    obtain⟨go,kF⟩:∃go,w7.heap.size=go:=⟨_,rfl⟩;rw[kF]at ox9 ⊢;clear hr Z px8 kH hV kt ox8 kF;go_wp2
    go_loopw [144] (fun s144 wr => ∃i:Nat,i<=64/\s144 = .int .i64 i/\Below w.heap.size w wr/\aG wr w.heap.size (dF H) 45/\aG wr go (fC (dm P.ar)) 81) (fun s144 _=>64-(intOf s144).toNat)
    case atStart=>exact⟨0,by omega,rfl,h5,bx9,ox9⟩
    case round=>
     clear h5 bx9 ox9;obtain⟨i,hi,rfl,b,A,ox⟩:=hrel
     by_cases U:i<64
     ·have ke:(i:Int)<64:=by omega
      have hH:=hE.out i U;generalize heE:ent H.ma p i=E at hH;have k7:=Ba l i U E hH;have hK:=ae heE;clear heE hH
      go_wp2_with (refine aJ rfl rfl (jm E) rfl rfl rfl entry_size (by simp[jm,Value.oneCell']) ?_)
      intro wa hU ea;have hB:=ag b hU;have bxa:=A.ext hU;have oxa:=ox.ext hU;clear k7 b A ox hU;have hx:=ea.cell;unfold jm at hx
      by_cases hk0:E.k=0
      ·rw[hk0] at hx;clear hk0;go_wp2;go_roundw
       case rel=>exact⟨i+1,by omega,by go_num,hB,bxa,oxa⟩
       case measure=>simp[intOf];omega
      obtain⟨g,hg,hf⟩:=o.out.en p i (by rw[hK.out];exact hk0);rw[hK.out]at hf;have h2:eP E=0:=by rw[<-hK.out];unfold ent;rw[kc.out];exact qH kq.out i
      have kA:dm P.ar i=some g:=(k6.out i).trans hg;have kz:=ae kA;have kg:=ae (And.intro hf (And.intro hk0 h2));clear hf hg h2 kA;go_upto_region 23 with(fail);refine aO 7 [_,_,_,_,_,.v (.int .i64 0),.v (.int .i64 0)] (Gr (.agg (dF H)) (λρ y W I j=>(dG rfl (aH rfl j) (bxa.ext I) underlying45 machine_size)) rfl rfl (Gk rfl (Gr (.pointer (some ⟨go,0+i*6,none⟩)) (λρ y W I j=>(KQ rfl (aH rfl j) (aH rfl j) U underlying81 one_size)) rfl rfl (Gr (.agg (wZ (some g))) (λρ y W I j=>(bJ rfl (aH rfl j) (by rw[eB];exact Xh (oxa.ext I) U kz.out) underlying80 (A:=one_size))) rfl rfl (Gr (.agg (jm E)) (λρ y W I j=>(dG rfl (aH rfl j) (ea.ext I) underlying68 entry_size)) rfl rfl (ah ?_ (Gk rfl (aF)))))))) (λ_=>rfl) rfl ?_
      ·intro ρ y W hw hn I hd;have k3:=hw 151 0 rfl;have h0:y 0=_:=hd 0 rfl;have k2:=hw 154 3 rfl;have h3:y 3=_:=hd 3 rfl;have k1:=hw 155 4 rfl;have h4:y 4=_:=hd 4 rfl;have EF:=eF0 hn λ_=>trivial;refine aP (aS rfl (EF _) func53 (by simp only[bU,bS,aZ,k3,h0,k2,h3,k1,h4,EF];rfl)) ?_;refine(QK H g E W (hh.out.below (ag hB I)) o.out kg.out.1 kg.out.2.1 kg.out.2.2).mono ?_;rintro r wz ⟨rfl,k9⟩;exact⟨_,rfl,k9,rfl⟩
      intro y wb hA _;have kT:=ag hB hA;have bxb:=bxa.ext hA;have oxb:=oxa.ext hA;clear hB bxa oxa ea hx hA;go_wp2;go_roundw
      case rel=>exact⟨i+1,by omega,by go_num,kT,bxb,oxb⟩
      case measure=>simp[intOf];omega
     have ke:¬(i:Int)<64:=by omega
     clear ox;go_wp2;go_roundw
     case rel=>exact⟨p+1,by omega,by go_num,b,A⟩
     case measure=>simp[intOf];omega
   have kx:¬(p:Int)<(H.sp.length:Int):=by omega
   have C:=A.cell;unfold dF at C;clear D;go_wp2
   go_loopw [166] (fun s166 wr => ∃k:Nat,k<=H.m.fs.length/\s166 = .int .i64 k/\Below w.heap.size w wr/\aG wr w.heap.size (dF H) 45) (fun s166 _=>H.m.fs.length-(intOf s166).toNat)
   case atStart=>exact⟨0,bq _,rfl,b,A⟩
   case round=>
    clear b A C kx;obtain⟨k,hk,rfl,b,A⟩:=hrel;have D:=hh.out.below b
    by_cases O:k<H.m.fs.length
    ·obtain⟨bm,om,hF,hI⟩:=jO eX D.fr.rd k O;have hQ:(k:Int)<(H.m.fs.length:Int):=by omega
     have hO:aB H.ma k=H.m.fs[k]:=by unfold aB;show H.m.fs.getD k fr0=_;rw[aW,aI O];rfl
     have kj:=o.out.cf k O;have kh:=o.out.fc k O;rw[hO]at kj kh;have gg:bR H.ma 1 k<=256:=by have h9:=FN H.ma 1 k;have e9:H.ma.sp.length=H.sp.length:=rX H;omega
     have kQ:uf H.ma k<=H.ca.length:=xY;generalize H.m.fs[k]=X at *
     have kK:=ae kh;have kP:=ae kj;clear hO kj kh;rw[hF]
     go_wp2_with (first | (refine ay bm (om+k*13) _ hI _ underlying66 rfl frame_size ?_) | (refine aJ rfl rfl (tV X) rfl rfl rfl frame_size (pq _) ?_))
     intro w6 hj fx6;have s:=ag b hj;have J:=A.ext hj;have kX:=D.below hj;clear b A hj hI D hF
     go_wp2_with (refine ay w.heap.size 0 _ J.rd _ underlying45 rfl machine_size ?_)
     refine(Az H 1 k _ kX o.out).mono ?_;rintro r w7 ⟨rfl,t⟩;have x:=ag s t;have R:=J.ext t;have fx7:=fx6.ext t;clear s J kX fx6 t;obtain⟨gf,kG⟩:∃gf,wr.heap.size=gf:=⟨_,rfl⟩;rw[kG]at fx7 ⊢;generalize hhN:bR H.ma 1 k=N at *
     have gc:=ae hhN;clear kG hhN;have C:=R.cell;unfold dF at C;go_wp2
     go_loopw [177,16] (fun s177 s16 wr => ∃i m:Nat,i<=H.ca.length/\s177 = .int .i64 i/\s16 = .int .i64 m/\m<=i/\Below w.heap.size w wr/\aG wr w.heap.size (dF H) 45/\aG wr gf (tV X) 66/\Hid (m=(H.ca.take i).countP fun c=>decide (c.k=(k:Int)))) (fun s177 _ _=>H.ca.length-(intOf s177).toNat)
     case atStart=>exact⟨0,0,bq _,rfl,rfl,az _,x,R,fx7,ae (by simp)⟩
     case round=>
      clear x R fx7 C;obtain⟨i,m,hi,rfl,rfl,hm,b,A,fx,u⟩:=hrel;have D:=hh.out.below b
      by_cases U:i<H.ca.length
      ·obtain⟨bc,Y,hl,hJ⟩:=jO jb D.ca.rd i U;have ke:(i:Int)<(H.ca.length:Int):=by omega
       have hT:Hid ((H.ca.take (i+1)).countP (λc=>decide (c.k=(k:Int)))=(H.ca.take i).countP (λc=>decide (c.k=(k:Int)))+if decide ((H.ca[i]).k=(k:Int))=true then 1 else 0):=ae (CW _ _ _ U);generalize H.ca[i]=c at *
       rw[hl]
       go_wp2_with (first | (refine ay bc (Y+i*3) _ hJ _ underlying122 rfl cached_size ?_) | (refine aJ rfl rfl (vT c) rfl rfl rfl cached_size (wO _) ?_))
       intro w8 z cx8;have hr:=ag b z;have Z:=A.ext z;have fx8:=fx.ext z;have hu:=cx8.cell;unfold vT at hu;clear b A fx z hJ D cx8 hl
       by_cases hck:c.k=(k:Int)
       ·have hL : Hid (m+1=(H.ca.take (i+1)).countP λc=>decide (c.k=(k:Int))):=ae (by rw[hT.out,<-u.out];simp[hck]);clear u hT;go_wp2;go_roundw
        case rel=>exact⟨i+1,m+1,by omega,by go_num,by go_num,by omega,hr,Z,fx8,hL⟩
        case measure=>simp[intOf];omega
       have hL : Hid (m=(H.ca.take (i+1)).countP λc=>decide (c.k=(k:Int))):=ae (by rw[hT.out,<-u.out];simp[hck]);clear u hT;go_wp2;go_roundw
       case rel=>exact⟨i+1,m,by omega,by go_num,rfl,by omega,hr,Z,fx8,hL⟩
       case measure=>simp[intOf];omega
      have ke:¬(i:Int)<(H.ca.length:Int):=by omega
      have kB : m=uf H.ma k:=by rw[u.out,jD (by omega)];rfl
      have gb:X.r=(m:Int)+(N:Int):=by rw[kP.out,kB]
      have kn:0<=X.f->¬m=0:=λh0 e=>by obtain⟨c,C,hck⟩:=kK.out h0;have h9:0<uf H.ma k:=yT.2 ⟨c,C,by simp[hck]⟩;omega
      have hW:(N:Int)+(m:Int)=X.r:=by omega
      have hS:=fx.cell;unfold tV at hS;have gd:IntKind.i64.wrap ((N:Int)+(m:Int))=X.r:=(bK _ (by omega)).trans hW;clear u D kB gb hW kQ
      by_cases h0:0<=X.f
      ·have ge:¬(m:Int)=0:=by have:=kn h0;omega
       clear kn;go_wp2;go_roundw
       case rel=>exact⟨k+1,by omega,by go_num,b,A⟩
       case measure=>simp[intOf];omega
      clear kn;go_wp2;go_roundw
      case rel=>exact⟨k+1,by omega,by go_num,b,A⟩
      case measure=>simp[intOf];omega
    have hQ:¬(k:Int)<(H.m.fs.length:Int):=by omega
    have C:=A.cell;unfold dF at C;clear D;go_wp2
    go_loopw [207] (fun s207 wr => ∃k:Nat,k<=H.sl.length/\s207 = .int .i64 k/\Below w.heap.size w wr/\aG wr w.heap.size (dF H) 45) (fun s207 _=>H.sl.length-(intOf s207).toNat)
    case atStart=>exact⟨0,bq _,rfl,b,A⟩
    case round=>
     clear b A C hQ;obtain⟨k,hk,rfl,b,A⟩:=hrel;have D:=hh.out.below b
     by_cases O:k<H.sl.length
     ·have hQ:(k:Int)<(H.sl.length:Int):=by omega
      obtain⟨bl,ol,hG,ki⟩:=D.sl.rd k (gF H.sl[k]) (by rw[jd,aI O];rfl);unfold gF at ki;have hC:=o.out.cs k O;have kr:jW H.ma k=H.sl[k]:=by unfold jW;show H.sl.getD k 0=_;rw[aW,aI O];rfl
      rw[kr]at hC;rw[hC]at ki;rw[hG];clear hC kr
      go_wp2_with (refine ay w.heap.size 0 _ A.rd _ underlying45 rfl machine_size ?_)
      refine (Az H 2 k _ D o.out).mono ?_;rintro r w7 ⟨rfl,t⟩;have x:=ag b t;have R:=A.ext t;clear b A D t ki hG;go_wp2;go_roundw
      case rel=>exact⟨k+1,by omega,by go_num,x,R⟩
      case measure=>simp[intOf];omega
     have hQ:¬(k:Int)<(H.sl.length:Int):=by omega
     clear D;go_wp2;go_ret;exact⟨rfl,b⟩
theorem Xc(m:World->Prop)(j:aG (w.setCells b 0 vs) b cs T)(h:∀W,w.grownBy W (some b)->aG W b cs T->m W):m (w.setCells b 0 vs).drew:=by
 have d:=aD w b 0 vs;generalize w.setCells b 0 vs=W0 at *
 exact h _ ⟨d.os,d.tape,d.output,d.size,d.block⟩ j
theorem WS{p:Page}(m:World->Prop)(j:aG w b cur T)(d:(dW p).size=cur.size)(h:∀W,w.grownBy W (some b)->aG W b (dW p) T->m W):m (w.setCells b 0 (dW p).toList).drew:=
 Xc m (by have h2:=j.setCells (dW p).toList 0;rw[gK cur (dW p) d]at h2;exact h2) h
theorem QM(H:MH)(p n:Nat)(w:World)(h:wI w H)(hR:Rt H.ma)(hp:p<H.sp.length)(hn:n<64) :
  Calls Tryz.prog 39 #[.agg (dF H),.int .i64 p,.int .i64 n] w λr w'=>r = .returned (.tuple #[.agg (dW (eD H.ma p n).1),.bool (eD H.ma p n).2.1,.int .i64 (eD H.ma p n).2.2])/\Below w.heap.size w w':=by
 have hh:=ae h;have x:=ae hR;clear hR;go_enter func39,ntmps39;go_upto_region 1 with(fail);refine tY (λW=>Code.wp _ _ _ _ W) λw1 hW O px1 hO => ?_;have O:aG w1 w.heap.size (dF H) 45:=O;have h1:=h.below hW;clear h hO;have kl:(p:Int)<(H.sp.length:Int):=by omega
 obtain⟨bs,os,P,hX,hP,hQ⟩:=qN h1.sp.rd p hp;have hg:=qF h1 hP;have h2:P.sp∈H.ma.sp:=by show P.sp∈H.sp.map PS.sp;exact iA.2 ⟨P,bP hP,rfl⟩
 have hZ:(bQ P.ar).1=0:=x.out.pt.ar P.sp h2;have h0:Hid (dA P.tb=0):=ae (x.out.pt.tb P.sp h2);have hN:=ae (qa hP);have hO:w1.cell? ⟨bs,os+p*10+1,none⟩=some (.slice P.aa P.ar.length P.ac):=by obtain⟨b',o',e,K⟩:=hQ 1 _ rfl;cases e;exact K
 have K:=O.cell;unfold dF at K;rw[hX]at K;obtain⟨hY,hL⟩:=sK hZ
 go_wp2_with fail
 refine(pR P.ar P.aa P.ac _ hg.ars.rd (by omega) hL).mono ?_;rintro r w2 ⟨rfl,hs⟩;have hK:=ag hW hs;have bx2:=O.ext hs;have px2:=px1.ext hs;have hD:=hQ.below hs;have h7:=hg.below hs;clear K hO hW O px1 hs hQ hg h1 hY;have hS:dm P.ar n=fI H.ma p n:=by rw[oN (lK (iX.1 hZ).2)];unfold fI;rw[hN.out];rfl
 generalize hog:fI H.ma p n=o at hS;have hT:=yR (dm P.ar) n hn o hS;have z:=ae hog;clear hog hS hZ hL
 go_wp2_with (refine aJ rfl rfl (wZ o) rfl rfl rfl one_size (Me o) ?_)
 intro w3 hr M;have hv:=ag hK hr;have bx3:=bx2.ext hr;have U:=px2.ext hr;have hC:=hD.below hr;have h6:=h7.below hr;clear hT hK bx2 px2 hr hD h7;cases o with
 | none=>
  have s:Hid (eD H.ma p n=(zPg,false,5)):=ae (by unfold eD;rw[z.out]);have Y:=M.cell;have km:(wZ none)[0]?=some (.bool false):=rfl;have d:=hv;have D:=U
  go_wp2_with (refine aA rfl _ _ rfl (w.heap.size+1) (dW zPg) rfl rfl D rfl psize (eF _) ?_)
  intro we A u;have j:=d.grown u d.size oG0;go_wp2;refine bodyPost_ret (v:=.tuple #[.agg (dW zPg),.bool false,.int .i64 5]) (cz results39 (w.heap.size+1) A underlying58 psize) rfl ?_;rw[s.out];exact⟨rfl,j⟩
 | some g=>
  have M:aG w3 w2.heap.size #[.bool true,.bool g.rd,.bool g.wr,.bool g.sh,.int .i64 g.fi,.int .i64 g.pg] 80:=M;have Y:=M.cell;have h3:=nJ hC 2 8;have K:=bx3.cell;unfold dF at K;rw[hX]at K
  go_wp2_with (refine ay bs (os+p*10+2) _ h3 _ underlying74 tab_agg tab_size ?_)
  refine(yz P.tb (nT P.ts) _ h6.tb h0.out).mono ?_;rintro r w4 ⟨rfl,hy⟩;rw[DN (vz P.tb)];have hE:(dC P.tb).getD n zEn=ent H.ma p n:=by rw[Oe hn];unfold ent;rw[hN.out];rfl
  generalize heE:ent H.ma p n=E at hE;have hT:=Ba (dC P.tb) n hn E hE;have ha:=ae heE;clear heE hE K Y h3 hC h6;have hJ:=ag hv hy;have bx4:=bx3.ext hy;have px4:=U.ext hy;have ox4:=M.ext hy;clear hv bx3 U hy M hX
  go_wp2_with (refine aJ rfl rfl (jm E) rfl rfl rfl entry_size (by simp[jm,Value.oneCell']) ?_)
  intro w5 hw ex5;have t:=ag hJ hw;have G:=bx4.ext hw;have I:=px4.ext hw;have C:=ox4.ext hw;clear hT hJ bx4 px4 ox4 hw;have Y:=C.cell;have hx:=ex5.cell;unfold jm at hx;have ht:Hid (E.k≠0->QA H.ma g E):=ae (λhk=>by obtain⟨g',h8,hf⟩:=x.out.en p n (by rw[ha.out];exact hk);rw[z.out]at h8;cases h8;rw[ha.out]at hf;exact hf);have hj:=hh.out.below t;have hq:Hid (eP E=0):=ae (by rw[<-ha.out];unfold ent;rw[hN.out];exact qH h0.out n)
  by_cases k1:E.k=1
  ·have hu:=ht.out (by omega);have q1:E.n<(H.m.fs.length:Int):=hu.lt k1;have q0:0<=E.n:=by have:=(bG _).1 hq.out;omega
   obtain⟨F,hF⟩:∃F:Nat,E.n=F:=⟨E.n.toNat,by omega⟩;have Z:F<H.m.fs.length:=by omega
   obtain⟨R,of,kj,kc⟩:=jO eX hj.fr.rd F Z;have kg:jw H.ma E.n=H.m.fs[F]:=by rw[hF,ve];unfold aB;show H.m.fs.getD F fr0=_;rw[aW,aI Z];rfl
   have i:Hid (eD H.ma p n=((H.m.fs[F]).p,decide ((H.m.fs[F]).f<0),0)):=ae (by unfold eD;rw[z.out];dsimp only;rw[ha.out,if_pos k1,kg]);generalize H.m.fs[F]=X at *
   have K:=G.cell;unfold dF at K;rw[kj]at K;rw[k1,hF]at hx;have kn:(F:Int)<(H.m.fs.length:Int):=by omega
   clear kg hu q1 q0 Y C k1 hF
   go_wp2_with (first | (refine ay R (of+F*13) _ kc _ underlying66 rfl frame_size ?_) | (refine aJ rfl rfl (tV X) rfl rfl rfl frame_size (pq _) ?_))
   intro w6 hi fx6;have hd:=ag t hi;have px5l:=ae I.lt;have J:=I.ext hi;clear t I G hi kc K hj hx ex5;go_upto_region 9 with(fail);have ka:=fx6.cell;unfold tV at ka;have kh:=J.cell;have h5:w.heap.size+1≠w5.heap.size:=by have:=px5l.out;omega
   have h4 : w5.heap.size≠w.heap.size+1:=λe=>h5 e.symm;have ki:=J.free
   go_region
   all_goals (refine WS (p:=X.p) (b:=w.heap.size+1) (λW=>Exit.then _ _ _ _ W) J rfl λwe u A => ?_)
   all_goals clear ka kh h5 h4 ki fx6 J
   all_goals (have j:=hd.grown u hd.size oG0)
   all_goals go_wp2
   all_goals (refine bodyPost_ret (v:=.tuple #[.agg (dW X.p),.bool (decide (X.f<0)),.int .i64 0]) (cz results39 (w.heap.size+1) A underlying58 psize) rfl ?_)
   all_goals rw[i.out]
   all_goals exact⟨rfl,j⟩
  by_cases k2:E.k=2
  ·have hu:=ht.out (by omega);obtain⟨q1,q2⟩:=hu.sw k2;have q0:0<=E.n:=by have:=(bG _).1 hq.out;omega
   have hM:aL H.sw E.n=0:=kF.2 ⟨x.out.pt.sw,q0,by have:=x.out.pt.swl;have e:H.ma.sw.blocks.length=H.sw.blocks.length:=rfl;have e2:H.ma.sl.length=H.sl.length:=rfl;omega⟩;have s:Hid (eD H.ma p n=(dD H.sw E.n,true,0)):=ae (by unfold eD;rw[z.out];dsimp only;rw[ha.out,if_neg k1,if_pos k2,show aL H.ma.sw E.n=0 from hM];rfl);rw[k2]at hx;have r5:eu w5 (some ⟨w.heap.size,3,none⟩) [.slice H.wb H.sw.blocks.length H.cwb,.slice H.wq H.sw.queue.length H.cwq]:=bF G 3 2;clear hu q1 q2 q0 Y C k1 k2
   go_wp2_with (refine ay w.heap.size 3 _ r5 _ underlying38 rfl disk_size ?_)
   refine(GZ H.sw E.n H.wb H.cwb H.wq H.cwq _ hj.sw).mono ?_;rintro r w6 ⟨rfl,hi⟩;rw[hM];have hd:=ag t hi;have J:=I.ext hi;clear t I G hi r5 hj hx ex5 hM
   go_wp2_with (refine aJ rfl rfl (dW (dD H.sw E.n)) rfl rfl rfl psize (eF _) ?_)
   intro w7 hV gx7;have d:=ag hd hV;have D:=J.ext hV;clear hd J hV
   go_wp2_with (first | (refine ay w6.heap.size 0 _ gx7.rd _ underlying58 rfl psize ?_) | (refine aA rfl _ _ rfl (w.heap.size+1) (dW (dD H.sw E.n)) rfl rfl D rfl psize (eF _) ?_))
   intro we A u;have j:=d.grown u d.size oG0;go_wp2;refine bodyPost_ret (v:=.tuple #[.agg (dW (dD H.sw E.n)),.bool true,.int .i64 0]) (cz results39 (w.heap.size+1) A underlying58 psize) rfl ?_;rw[s.out];exact⟨rfl,j⟩
  have k0:E.k=0:=by have:=(bG _).1 hq.out;omega
  have i:Hid (eD H.ma p n=if g.fi<0 then(zPg,false,0)else if(H.ma.st.fs.length:Int)<=g.fi\/qx H.ma.st g.fi g.pg=true then(zPg,false,9)else(aU H.ma g.fi g.pg,false,0)):=ae (by unfold eD;rw[z.out];dsimp only;rw[ha.out,if_neg k1,if_neg k2]);rw[k0]at hx;clear ht hq k1 k2 k0
  by_cases f0:g.fi<0
  ·have s:Hid (eD H.ma p n=(zPg,false,0)):=ae (by rw[i.out,if_pos f0]);have d:=t;have D:=I;clear i
   go_wp2_with (refine aA rfl _ _ rfl (w.heap.size+1) (dW zPg) rfl rfl D rfl psize (eF _) ?_)
   intro we A u;have j:=d.grown u d.size oG0;go_wp2;refine bodyPost_ret (v:=.tuple #[.agg (dW zPg),.bool false,.int .i64 0]) (cz results39 (w.heap.size+1) A underlying58 psize) rfl ?_;rw[s.out];exact⟨rfl,j⟩
  have hA:=ae (x.out.pt.pg z.out);have hm:Hid (H.ma.st.fs.length=H.fi.length):=ae (eQ _);go_upto_region 15 with(fail)
  by_cases f1:(H.fi.length:Int)<=g.fi
  ·have s:Hid (eD H.ma p n=(zPg,false,9)):=ae (by rw[i.out,if_neg f0,if_pos (.inl (by have:=hm.out;omega))]);refine aO 21 [_,_,_,_,_,_,_,_,_,_,_,_,_,_,_,_,_,_,_,_,.v (.bool true)] (Gf w2.heap.size 4 rfl rfl (Gl C rfl rfl rfl rfl rfl (Gf w.heap.size 7 rfl rfl (Gf w.heap.size 7 rfl rfl (Gl G rfl rfl rfl rfl rfl (Gn rfl rfl rfl rfl (Gb (.bool true) (by simp[go_sem,f1]) rfl rfl rfl rfl rfl (Gk rfl (Gk rfl (Gk rfl (Gk rfl (Gk rfl (Gk rfl (Gk rfl (Gk rfl (Gk rfl (Gk rfl (Gk rfl (Gk rfl (Gk rfl (Gk rfl (aF)))))))))))))))))))))) (λ_=>rfl) rfl ?_;intro y W8 q _;have d:=ag t q;have D:=I.ext q;clear i hA hm
   go_wp2_with (refine aA rfl _ _ rfl (w.heap.size+1) (dW zPg) rfl rfl D rfl psize (eF _) ?_)
   intro we A u;have j:=d.grown u d.size oG0;go_wp2;refine bodyPost_ret (v:=.tuple #[.agg (dW zPg),.bool false,.int .i64 9]) (cz results39 (w.heap.size+1) A underlying58 psize) rfl ?_;rw[s.out];exact⟨rfl,j⟩
  obtain⟨F,hF⟩:∃F:Nat,g.fi=F:=⟨g.fi.toNat,by omega⟩;have Z:F<H.fi.length:=by omega
  obtain⟨R,of,kd,kb⟩:=jO kE hj.st.rd F Z;have kk:Hid (aN H.ma.st g.fi=(H.fi[F]).fi):=ae (by rw[hF];exact jN (by show(H.fi.map PF.fi)[F]?=_;rw[jd,aI Z];rfl));generalize H.fi[F]=Q at *
  have hB:∀W,Below w5.heap.size w5 W->W.cell? ⟨R,of+F*2+1,none⟩=some (.slice Q.a Q.l.length Q.c):=λW hb=>by obtain⟨b',o',e,K⟩:=(kb.below hb) 1 _ rfl;cases e;exact K
  have hG:Hid ((aN H.ma.st g.fi).b.length=Q.l.length):=ae (by rw[kk.out];rfl);have kf:=ae hF;clear hF
  by_cases f2:(Q.l.length:Int)<=g.pg
  ·have s:Hid (eD H.ma p n=(zPg,false,9)):=ae (by
    rw[i.out,if_neg f0]
    by_cases N:(H.ma.st.fs.length:Int)<=g.fi\/qx H.ma.st g.fi g.pg=true
    ·rw[if_pos N]
    have h9:=Eb x.out.pt.st (by omega) hA.out.1 N;have:=h9.2.2;have:=hG.out;omega)
   refine aO 21 [_,_,_,_,_,_,_,_,_,_,_,_,_,_,_,_,_,_,_,_,.v (.bool true)] (Gf w2.heap.size 4 rfl rfl (Gl C rfl rfl rfl rfl rfl (Gf w.heap.size 7 rfl rfl (Gf w.heap.size 7 rfl rfl (Gl G rfl rfl rfl rfl rfl (Gn rfl rfl rfl rfl (Gb (.bool false) (by simp[go_sem,f1]) rfl rfl rfl rfl rfl (Gk rfl (Gf w2.heap.size 5 rfl rfl (Gl C rfl rfl rfl rfl rfl (Gf w.heap.size 7 rfl rfl (Gf w.heap.size 7 rfl rfl (Gl G (V:=.slice (some ⟨R,of,none⟩) H.fi.length H.ci) (by simp[dF,kd]) rfl rfl rfl rfl (Gf w2.heap.size 4 rfl rfl (Gl C (V:=.int .i64 (F:Int)) (by simp[kf.out]) rfl rfl rfl rfl (Gr (.pointer (some ⟨R,of+F*2,none⟩)) (λρ y W hb hz=>(bN rfl (aH rfl hz) (aH rfl hz) Z underlying39 file_size)) rfl rfl (Gf R (of+F*2+1) rfl rfl (Gc (.slice Q.a Q.l.length Q.c) (λW hb=>by simp[hB _ hb]) rfl rfl rfl rfl (Gn rfl rfl rfl rfl (Gb (.bool true) (by simp[go_sem,f2]) rfl rfl rfl rfl rfl (Gk rfl (aF)))))))))))))))))))))) (λ_=>rfl) rfl ?_;intro y W8 q _;have d:=ag t q;have D:=I.ext q;clear i hA hm hB
   go_wp2_with (refine aA rfl _ _ rfl (w.heap.size+1) (dW zPg) rfl rfl D rfl psize (eF _) ?_)
   intro we A u;have j:=d.grown u d.size oG0;go_wp2;refine bodyPost_ret (v:=.tuple #[.agg (dW zPg),.bool false,.int .i64 9]) (cz results39 (w.heap.size+1) A underlying58 psize) rfl ?_;rw[s.out];exact⟨rfl,j⟩
  have hH:qP H.ma.st g.fi g.pg:=⟨⟨by omega,by have:=hm.out;omega⟩,hA.out.1,by have:=hG.out;omega⟩;have N:=ae hH;clear hH;have s:Hid (eD H.ma p n=(aU H.ma g.fi g.pg,false,0)):=ae (by rw[i.out,if_neg f0,if_neg (sS x.out.pt.st N.out)]);refine aO 21 [_,_,_,_,_,_,_,_,_,_,_,_,_,_,_,_,_,_,_,_,.v (.bool false)] (Gf w2.heap.size 4 rfl rfl (Gl C rfl rfl rfl rfl rfl (Gf w.heap.size 7 rfl rfl (Gf w.heap.size 7 rfl rfl (Gl G rfl rfl rfl rfl rfl (Gn rfl rfl rfl rfl (Gb (.bool false) (by simp[go_sem,f1]) rfl rfl rfl rfl rfl (Gk rfl (Gf w2.heap.size 5 rfl rfl (Gl C rfl rfl rfl rfl rfl (Gf w.heap.size 7 rfl rfl (Gf w.heap.size 7 rfl rfl (Gl G (V:=.slice (some ⟨R,of,none⟩) H.fi.length H.ci) (by simp[dF,kd]) rfl rfl rfl rfl (Gf w2.heap.size 4 rfl rfl (Gl C (V:=.int .i64 (F:Int)) (by simp[kf.out]) rfl rfl rfl rfl (Gr (.pointer (some ⟨R,of+F*2,none⟩)) (λρ y W hb hz=>(bN rfl (aH rfl hz) (aH rfl hz) Z underlying39 file_size)) rfl rfl (Gf R (of+F*2+1) rfl rfl (Gc (.slice Q.a Q.l.length Q.c) (λW hb=>by simp[hB _ hb]) rfl rfl rfl rfl (Gn rfl rfl rfl rfl (Gb (.bool false) (by simp[go_sem,f2]) rfl rfl rfl rfl rfl (Gk rfl (aF)))))))))))))))))))))) (λ_=>rfl) rfl ?_;intro y W8 q _;have hI:=ag t q;have px8:=I.ext q;have bx8:=G.ext q;have ke:=hj.below q;have Y:=(C.ext q).cell;clear i hB t I G hj C q kb
  go_wp2_with (refine ay w.heap.size 0 _ bx8.rd _ underlying45 rfl machine_size ?_)
  refine(wo H g.fi g.pg _ ke ⟨(nX x.out).ca,λf hf=>bi (yA x.out.pt.st f hf) (by decide)⟩ x.out.ca.lt ⟨by omega,by omega⟩ N.out.2).mono ?_;rintro r w9 ⟨rfl,hU⟩;have d:=ag hI hU;have D:=px8.ext hU;clear hI px8 bx8 ke Y hU
  go_wp2_with (refine aA rfl _ _ rfl (w.heap.size+1) (dW (aU H.ma g.fi g.pg)) rfl rfl D rfl psize (eF _) ?_)
  intro we A u;have j:=d.grown u d.size oG0;go_wp2;refine bodyPost_ret (v:=.tuple #[.agg (dW (aU H.ma g.fi g.pg)),.bool false,.int .i64 0]) (cz results39 (w.heap.size+1) A underlying58 psize) rfl ?_;rw[s.out];exact⟨rfl,j⟩
theorem yO(H:MH)(p n:Nat)(w:World)(h:wI w H)(I:Rt H.ma)(J:p<H.sp.length)(K:n<64) :
  Calls Tryz.prog 18 #[.agg (dF H),.int .i64 p,.int .i64 n] w λr w'=>r = .returned (.tuple #[.agg (dW (eD H.ma p n).1),.bool (eD H.ma p n).2.1,.int .i64 (eD H.ma p n).2.2])/\Below w.heap.size w w':=by
 have g:=ae I;clear I;go_enter func18,ntmps18;go_upto_region 1 with(fail);refine tY (λW=>Code.wp _ _ _ _ W) λw1 e k A i => ?_;have k:aG w1 w.heap.size (dF H) 45:=k;have G:=h.below e;clear h i
 go_wp2_with (refine ay w.heap.size 0 _ k.rd _ underlying45 rfl machine_size ?_)
 refine(zy H _ G g.out).mono ?_;rintro r w2 ⟨rfl,a⟩;have h2:=G.below a;have C:=k.ext a;have u:=A.ext a;have c:=ag e a;clear G k A e a
 go_wp2_with (refine ay w.heap.size 0 _ C.rd _ underlying45 rfl machine_size ?_)
 refine(QM H p n _ h2 g.out J K).mono ?_;rintro r N ⟨rfl,d⟩;have E:=u.ext d;have b:=ag c d;clear h2 C u c d
 go_wp2_with (refine aA rfl _ _ rfl (w.heap.size+1) (dW (eD H.ma p n).1) rfl rfl E rfl psize (eF _) ?_)
 intro M D j;have f:=b.grown j b.size oG0;go_wp2;refine bodyPost_ret (v:=.tuple #[.agg (dW (eD H.ma p n).1),.bool (eD H.ma p n).2.1,.int .i64 (eD H.ma p n).2.2]) (cz results18 (w.heap.size+1) D underlying58 psize) rfl ?_;exact⟨rfl,f⟩
def OQ(m:Ma)(f:Int)(j:Nat):Value:=(dW (aU m f (j / 8:Nat))).getD (j%8) (.int .u8 0)
def xz(m:Ma)(f:Int)(n:Nat):List Value:=(List.range n).map (OQ m f)
theorem Mg(m:Ma)(f:Int)(n:Nat):xz m f (n+1)=xz m f n++[OQ m f n]:=by
 unfold xz;rw[yo,jM];rfl
theorem sJ(h:aG w b cs T)(d:aG w b cs' T')(j:T'≠T:=by decide):False:=by
 unfold aG at h d;rw[d]at h;simp at h;exact j h.2
theorem u8_size:(Tryz.prog.info? 5).map (·.size)=some 1:=by kernel_rfl
theorem Jm(X:Page)(q:Nat)(j:q<8)(w:World):(Instr.index 58 (.agg (dW X)) (.int .i64 q)).run Tryz.prog w = .ok (.int .u8 X[q].toNat) w:=by
 have n:=Ap X q j;have u:¬((q:Int)<0\/(8:Int)<=q):=by omega
 have d:∃i,Tryz.prog.info? 5=some i/\i.size=1:=by
  have:=u8_size;cases h:Tryz.prog.info? 5 with
  | none=>rw[h]at this;simp at this
  | some i=>rw[h]at this;exact⟨i,rfl,by simpa using this⟩
 obtain⟨i,k,d⟩:=d;simp[Instr.index,part,asIntOf,run_underlying underlying58,run_underlying underlying5,Go.sizeOf,typeInfo,k,d,u,go_sem,n,j]
theorem ER(H:MH)(f:Nat)(w:World)(h:wI w H)(hR:Rt H.ma)(Y:H.ca.length<=1000/\∀f∈H.ma.st.fs,f.b.length<=1000)(K:∀c∈H.ca,0<=c.k/\c.k<H.m.fs.length)(hf:f<H.fi.length)(C:0<=(aN H.ma.st f).n/\(aN H.ma.st f).n<=(aN H.ma.st f).b.length*8) :
  Calls Tryz.prog 56 #[.agg (dF H),.int .i64 f] w λr w' => ∃(v:Value),r = .returned (.tuple #[v,.int .i64 0])/\Own w' w.heap.size 5 1 v (aN H.ma.st f).n.toNat (xz H.ma f (aN H.ma.st f).n.toNat)/\Below w.heap.size w w':=by
 have hB:=ae hR;clear hR;go_enter func56,ntmps56;go_upto_region 1 with(fail);refine iC (λW=>Code.wp _ _ _ _ W) λw1 M A hd => ?_;have A:aG w1 w.heap.size (dF H) 45:=A;have h1:=h.below M;clear hd
 go_wp2_with (refine ay w.heap.size 0 _ A.rd _ underlying45 rfl machine_size ?_)
 refine(zy H _ h1 hB.out).mono ?_;rintro r w2 ⟨rfl,z⟩;have D:=A.ext z;have t:=ag M z;have hc:=D.cell;unfold dF at hc;have ht:(f:Int)<(H.fi.length:Int):=by omega
 have hG:¬(f:Int)<0:=by omega
 have hF:¬(H.fi.length:Int)<=(f:Int):=by omega
 obtain⟨bf,of,hA,hi⟩:=jO kE h.st.rd f hf;obtain⟨p,J⟩:∃p,H.fi[f]?=some p:=⟨_,aI hf⟩;rw[show H.fi[f]=p from(bZ.1 J).2]at hi;have j:aN H.ma.st (f:Int)=p.fi:=by unfold aN;rw[if_pos (by omega)];show(H.fi.map PF.fi).getD f ⟨0,[]⟩=p.fi;rw[aW,jd,J];rfl
 have hE:p.l.length<=1000:=Y.2 p.fi (iA.2 ⟨p,bP J,rfl⟩);rw[j]at C;have hD:0<=p.n:=C.1;have hd:p.n<=p.l.length*8:=C.2;have hH:(aN H.ma.st f).n=p.n:=by rw[j];rfl
 have hx:(aN H.ma.st f).b.length=p.l.length:=by rw[j];rfl
 clear C j;clear h1 A M z;go_upto_region 8 with(fail);clear hc
 go_loopw [8,7] (fun i u wr => ∃k:Nat,(k:Int)<=p.n/\i = .int .i64 k/\Below w.heap.size w wr/\aG wr w.heap.size (dF H) 45/\Own wr w.heap.size 5 1 u k (xz H.ma f k)) (fun i _ _=>p.n.toNat-(intOf i).toNat)
 case atStart=>exact⟨0,by omega,rfl,t,D,Own.nil _ _ _ _⟩
 case round=>
  clear t D;obtain⟨k,hk,rfl,o,U,s⟩:=hrel;have x:=U.cell;unfold dF at x;rw[hA]at x;have hh:=hi.below o;have I:wr.cell? ⟨bf,of+f*2,none⟩=some (.int .i64 p.n):=by obtain⟨b',o',e,hy⟩:=hh 0 _ rfl;cases e;exact hy
  by_cases hkn:(k:Int)<p.n
  ·have hj:(k:Int) / 8<((aN H.ma.st (f:Int)).b.length:Int):=by rw[hx];omega
   go_wp2_with (refine ay w.heap.size 0 _ U.rd _ underlying45 rfl machine_size ?_)
   refine(wo H f ((k:Int) / 8) _ (h.below o) Y K ⟨by omega,ht⟩ ⟨by omega,hj⟩).mono ?_;rintro r w3 ⟨rfl,y⟩;have d:=ag o y;have G:=U.ext y;have a:=s.below y;obtain⟨X,N⟩:∃X,X=aU H.ma f ((k:Int) / 8):=⟨_,rfl⟩;rw[<-N];obtain⟨q,hq⟩:∃q,k%8=q:=⟨_,rfl⟩;have hn:q<8:=by omega
   have hg:=Ap X q hn;have hv:Hid (OQ H.ma f k = .int .u8 X[q].toNat):=ae (by unfold OQ;rw[show((k / 8:Nat):Int)=(k:Int) / 8 from by omega,<-N,hq];simp[cK,hg]);have O:((k:Int)%8)=(q:Int):=by omega
   have hr:k+1<=8000:=by omega
   clear N x I hq hj
   go_wp2_with fail
   rw[O];have hw:=Jm X q hn
   go_wp2_with fail
   rw[hw]
   go_wp2_with (first | (at_builtin;refine qO rfl _ _ 23 rfl w.heap.size 5 _ 1 1 underlying23 byte_info rfl (by decide) _ k (xz H.ma f k) rfl (a.alloc _) (some ⟨w3.heap.size,0,none⟩) 1 1 [.int .u8 X[q].toNat] rfl (λh=>(by cases h)) (az _) rfl (eu.new _ #[.int .u8 X[q].toNat] _) (λu Z=>by simp at Z;subst Z;rfl) (by unfold maxLen;omega) (by omega) (by have:=d.size;simp;omega) ?_))
   intro v V g hl hC;have hm:Below w.heap.size w V:=(d.alloc d.size _).grown hl (dE d.size) (a.alloc (.cells #[.int .u8 X[q].toNat] 5)).ge;have R:aG V w.heap.size (dF H) 45:=(G.alloc (.cells #[.int .u8 X[q].toNat] 5)).grown hl (λe=>by
    rcases a.2 with⟨E,_⟩|⟨g2,off,cap,cur,E,_,hb,_⟩
    ·rw[E]at e;cases e
    ·rw[E]at e;cases e;exact sJ hb G)
   rw[<-hv.out,<-Mg] at g;go_wp2;go_roundw
   case rel=>exact⟨v,.int .i64 ((k+1:Nat):Int),_,_,_,_,_,_,_,_,_,_,_,_,_,_,_,_,_,_,_,_,_,_,⟨k+1,by omega,rfl,hm,R,g⟩,by
    have E:decide (H.fi.length<=f)=false:=decide_eq_false (by omega);rw[E,Bool.or_false];rfl⟩
   case measure=>simp[intOf];omega
  go_wp2;go_ret2;have hs:p.n.toNat=k:=by omega
  exact⟨_,rfl,by rw[hs];exact s,o⟩
end Go.Proofs.YthihaopabbpalaaGreat