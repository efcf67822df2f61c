import Derived.Test.YthihaopabbpalaaGreatF6
import Derived.BigRegion
set_option linter.unusedSimpArgs false
set_option linter.unusedVariables false
set_option linter.unnecessarySimpa false
set_option maxHeartbeats 4000000
set_option maxRecDepth 100000
namespace Go.Proofs.YthihaopabbpalaaGreat
open _root_.Go.Proofs.Tryz
open Go.RowKit Go.Maps Pw
variable {B b c cl ct f g g' gd gf gs gw gx i k n' off p q s sz:Nat} {E:En} {F:PF} {H:MH} {L:Nat -> Bool} {P:Program} {S S' S0:MW} {T e e':TypeId} {W W' W0 w w' w1 w2:World} {a al as0:Option Addr} {bl:List Page} {cf n:Int} {cs cur z zf zp zs:Array Value} {fi0:List PF} {m m':Ma} {o:Oper} {old xs:List Value} {v v' v0:Value} {wt:Bool} {x:Operand} {y:Nat -> Value} {ρ:Operand -> Value}
def Gp(S:MW)(B b:Nat)(w:World)(P:PS):(Nat->Bool)->(Nat->Value)->World->Prop:=λL y W=>
 (∀k,10<=k->k<16->L (k+1)=true->L k=true)/\(L 16=true->L 5=true) /\
 (L 16=false->fD W B b S/\MS w b S W S) /\
 (L 15=true->L 16=false->∃a e,y 15 = .slice a 1 e/\ve W a e 1 (tQ P)) /\
 (L 16=true->∃w1,fD w1 B b S/\MS w b S w1 S/\w1.grownBy W (Value.slice S.H.ap S.H.sp.length S.H.cp).ownBlock/\Own W B 76 10 (y 16) (S.H.sp.length+1) (S.H.sp.flatMap tQ++tQ P)/\oz w1 (.slice S.H.ap S.H.sp.length S.H.cp) (y 16))
theorem Kh{row:Option Nat}(d:w.grownBy w1 row)(h:Below w1.heap.size w1 w2):w.grownBy w2 row:=
 ⟨h.os.trans d.os,h.tape.trans d.tape,h.output.trans d.output,bi d.size h.size,λk j t=>(h.block k (oL j d.size)).trans (d.block k j t)⟩
theorem jf{P:PS}:∀L y W W',Below W.heap.size W W'->Gp S B b w P L y W->Gp S B b w P L y W':=
 λ_ _ _ _ hb ⟨h1,h2,h3,h4,h5⟩=>⟨h1,h2,λe=>⟨(h3 e).1.below hb,(h3 e).2.below hb⟩,λA u=>by
  obtain⟨a,e,k1,d⟩:=h4 A u;exact⟨a,e,k1,d.below hb⟩,λe=>by
  obtain⟨w1,k1,d,t,j,h⟩:=h5 e;exact⟨w1,k1,d,Kh t hb,j.below hb,h⟩⟩
theorem jR{P:PS}(j:i≠15/\i≠16)(J:∀k,10<=k->k<16->k+1=i->L k=true)(h:Gp S B b w P L y W):Gp S B b w P (dQ L i) (fE y i v) W:=by
 obtain⟨O,h2,N,M,K⟩:=h;have D:dQ L i 15=L 15:=by unfold dQ;rw[if_neg (λe=>j.1 e.symm)]
 have d:dQ L i 16=L 16:=by unfold dQ;rw[if_neg (λe=>j.2 e.symm)]
 have u:fE y i v 15=y 15:=by unfold fE;rw[if_neg (λe=>j.1 e.symm)]
 have t:fE y i v 16=y 16:=by unfold fE;rw[if_neg (λe=>j.2 e.symm)]
 have A:∀k,L k=true->dQ L i k=true:=λk I=>by unfold dQ;split<;>simp[I]
 refine⟨λk k1 G C => ?_,λe=>A 5 (h2 (by rw[<-d];exact e)),by rw[d];exact N,by rw[D,d,u];exact M,by rw[d,t];exact K⟩
 by_cases e:k+1=i
 .exact A k (J k k1 G e)
 refine A k (O k k1 G ?_);unfold dQ at C;rw[if_neg e]at C;exact C
theorem UO{P:PS}{e:Nat}(D:Below W.heap.size W W')(j:L 14=true)(h:Gp S B b w P L y W)(A:ve W' a e 1 (tQ P)):Gp S B b w P (dQ L 15) (fE y 15 (.slice a 1 e)) W':=by
 obtain⟨J,h2,I,K,G⟩:=jf _ _ _ _ D h;have t:∀k,L k=true->dQ L 15 k=true:=λk C=>by unfold dQ;split<;>simp[C]
 refine⟨λk k1 u d => ?_,λe=>h2 e,I,λ_ _=>⟨a,e,rfl,A⟩,G⟩
 by_cases e:k+1=15
 .obtain rfl:k=14:=by omega
  exact t 14 j
 refine t k (J k k1 u ?_);unfold dQ at d;rw[if_neg e]at d;exact d
theorem UX{P:PS}(t:L 15=true)(h5' : L 5=true)(d:L 16=false)(h:Gp S B b w P L y W)(J:W.grownBy W' (Value.slice S.H.ap S.H.sp.length S.H.cp).ownBlock)
 (G:Own W' B 76 10 v (S.H.sp.length+1) (S.H.sp.flatMap tQ++tQ P)) (D:oz W (.slice S.H.ap S.H.sp.length S.H.cp) v):Gp S B b w P (dQ L 16) (fE y 16 v) W':=by
 obtain⟨K,h2,A,N,M⟩:=h;have u:∀k,L k=true->dQ L 16 k=true:=λk I=>by unfold dQ;split<;>simp[I]
 refine⟨λk k1 C j => ?_,λ_=>h5',λe=>(by cases e),λ_ e=>(by cases e),λ_=>⟨W,(A d).1,(A d).2,J,G,D⟩⟩
 by_cases e:k+1=16
 .obtain rfl:k=15:=by omega
  exact u 15 t
 refine u k (K k k1 C ?_);unfold dQ at j;rw[if_neg e]at j;exact j
theorem DK{P:PS}(h:Gp S B b w P L y W)(j:L i=false)(u:i=5\/(10<=i/\i<=16)):fD W B b S/\MS w b S W S:=by
 refine h.2.2.1 ?_;cases e:L 16 with
 | false=>rfl
 | true=>
  exfalso;rcases u with rfl|⟨k1,A⟩
  .rw[h.2.1 e]at j;cases j
  have:∀d,d<=6->L (16-d)=true:=by
   intro d
   induction d with
   | zero=>intro _;exact e
   | succ d ih=>intro C;exact h.1 (16-(d+1)) (by omega) (by omega) (by rw[show 16-(d+1)+1=16-d by omega];exact ih (by omega))
  have t:=this (16-i) (by omega);rw[show 16-(16-i)=i by omega,j]at t;cases t
def XG(S:MW)(B b:Nat)(w:World)(r:Ending)(w' : World):Prop:=∃S',r = .returned (.tuple #[])/\fD w' B b S'/\MS w b S w' S'/\More S S'
theorem UW(t:List En)(k:Nat)(d:k<64):(tL t).toArray.extract (k*3) (k*3+3)=jy (t.getD k zEn):=by
 apply mI;intro j;rw[Array.getElem?_extract];have u:(tL t).toArray.size=192:=by simp[zo]
 by_cases h:j<3
 .rw[if_pos (by omega)];have:=OX t k j d h;simpa[lY]using this
 .rw[if_neg (by omega),mP (by show 3<=j;omega)]
theorem entry_size3:(Tryz.prog.info? 68).map (·.size)=some 3:=by kernel_rfl
theorem Dp(t:List En)(k:Nat)(d:k<64)(e:En)(h:t.getD k zEn=e)(w:World):(Instr.index 69 (.agg (tL t).toArray) (.int .i64 k)).run Tryz.prog w = .ok (.agg (jy e)) w:=
 xM underlying69 underlying68 rfl entry_size3 _ k _ d (by rw[<-h];exact UW t k d) _ w
def ML(S0 S S' : MW)(B b:Nat)(w:World)(gx gf:Nat)(e:En)(F:Array Value):(Nat->Bool)->(Nat->Value)->World->Prop:=λL _ W=>
 (aG W gx (jy e) 68/\aG W gf F 81)/\(L 14=false->fD W B b S/\MS w b S0 W S)/\(L 14=true->fD W B b S'/\MS w b S0 W S')
theorem bA{e:En}{F:Array Value}:∀L y W W',Below W.heap.size W W'->ML S0 S S' B b w gx gf e F L y W->ML S0 S S' B b w gx gf e F L y W':=
 λ_ _ _ _ hb ⟨h1,h2,h3⟩=>⟨⟨h1.1.ext hb,h1.2.ext hb⟩,λe=>⟨(h2 e).1.below hb,(h2 e).2.below hb⟩,λe=>⟨(h3 e).1.below hb,(h3 e).2.below hb⟩⟩
theorem Dc{e:En}{F:Array Value}(h:ML S0 S S' B b w gx gf e F L y W)(d:(jI S')[12]?=(jI S)[12]?):W.cell? ⟨b,12,none⟩=(jI S)[12]?:=by
 cases hL:L 14 with
 | false=>exact(h.2.1 hL).1.blk.cell 12
 | true=>rw[<-d];exact(h.2.2 hL).1.blk.cell 12
theorem uG{T:List (List En)}(d:Bt m T)(C:m.sp.length=2){n:Nat}{x:En}(t:n<64)(A:eF x=0)(q j:Nat)(u:j≠n):fU (setL (setL T 0 n x) 1 n x) q j=fU T q j:=by
 rw[xI (d.set (p:=0) (by omega) A) (by omega) t,if_neg (λh=>u h.2),xI d (by omega) t,if_neg (λh=>u h.2)]
theorem Mc{y:Operand}{n:Nat}{k:IntKind}(j:o.op = .indexAddr 34 x y)(h:ρ x = .slice (some ⟨b,off,none⟩) n c)(d:ρ y = .int k (i:Int))(t:i<n) :
  (execOp ρ o).run Tryz.prog w = .ok (.value (.pointer (some ⟨b,off+i,none⟩))) w:=by
 have:=cO (P:=Tryz.prog) (w:=w) j h d t underlying34 (show(Tryz.prog.info? 3).map (·.size)=some 1 by kernel_rfl);rw[this,uu]
theorem fD.locE(h:fD w B b S)(G:aG w g cs 68)(D:¬nL b S g)(A:∀p∈S.H.sp,∀k v,k<8->(nT p.ts)[k]?=some v->v.ownBlock≠some g)(C:B<=g)(j:w.grownBy w' (some g)):fD w' B b S:=by
 have d:∀ {a:Option Addr},oB a∈iW S->∀n c g',(Value.slice a n c).ownBlock=some g'->some g≠some g':=λJ n c g' u e=>by cases e;rw[jF]at u;exact D (.inr (by rw[<-u];exact J))
 exact⟨h.blk.grown j (λe=>D (.inl (aM e))),h.ge,⟨h.ma.fr.grown j (d (by simp[iW]) _ _),h.ma.sl.grown j (d (by simp[iW]) _ _),⟨h.ma.sw.b.grown j (d (by simp[iW]) _ _),h.ma.sw.q.grown j (λg' u=>by rw[h.n3]at u;cases u)⟩,⟨h.ma.dk.b.grown j (d (by simp[iW]) _ _),h.ma.dk.q.grown j (d (by simp[iW]) _ _)⟩,
  ⟨h.ma.st.own.grown j (d (by simp[iW]) _ _),λi p t=>ax (h.ma.st.each i p t) G (by decide) j,h.ma.st.apart⟩,h.ma.ca.grown j (d (by simp[iW]) _ _),h.ma.sp.grown j (d (by simp[iW]) _ _),λp t=>⟨ax (h.ma.ps p t).1 G (by decide) j,⟨(h.ma.ps p t).2.sz,λk f=>by obtain⟨v,I,h2⟩:=(h.ma.ps p t).2.own k f;exact⟨v,I,h2.grown j (λg' u e=>by cases e;exact A p t k v f I u)⟩,(h.ma.ps p t).2.apart⟩⟩,h.ma.c64⟩,
  h.tt.grown j (d (by simp[iW]) _ _),h.rd.keep h.ra h.bs j C,h.ra,h.n1,h.n2,h.n3⟩
theorem fD.newE(h:fD w B b S){x:Nat}(C:w.heap.size<=x):∀p∈S.H.sp,∀k v,k<8->(nT p.ts)[k]?=some v->v.ownBlock≠some x:=λp t k v u j A=>by
 obtain⟨v',d,h2⟩:=(h.ma.ps p t).2.own k u;rw[j]at d;cases d;have:=JV h2 x A;omega
theorem Pj(S:MW)(B b:Nat)(w:World)(h:fD w B b S)(N:Bd S.H.ma S.T)(hf:OU S)(hl:S.H.sp.length=1) :
  Calls Tryz.prog 36 #[.pointer (some ⟨b,0,none⟩)] w (XG S B b w):=by
 obtain⟨C,gJ⟩:=List.length_eq_one_iff.1 hl;have gO:=ae N;have gM:=ae hf;have qF:=ae h.bs;have kb:=ae gJ;obtain⟨gp,op,cap,cur,hv,ge,hO,gd,kf,ki⟩:=h.ma.sp.put oV (by decide) 0 (by rw[hl];decide);have kW:S.H.ap=some ⟨gp,op,none⟩:=(oU hv).1;have kV:∀W,fD W B b S->W.cell? ⟨gp,op+1,none⟩=some (.slice C.aa C.ar.length C.ac):=λW hW=>by
  obtain⟨g2,o2,_,_,k5,_,_,_,qm,_⟩:=hW.ma.sp.put oV (by decide) 0 (by rw[hl];decide);have R:(some (⟨g2,o2,none⟩:Addr))=some ⟨gp,op,none⟩:=(oU k5).1.symm.trans kW;cases R;have e0:S.H.sp[0]'(by rw[hl];decide)=C:=by simp[gJ]
  rw[e0]at qm;have:=qm 1 _ rfl;simpa using this
 clear N hf gJ hv hO gd kf ki;go_enter func36,ntmps36;go_upto_region 0 with(fail);refine iI 20 [_,_,_,_,_,.v (.slice (some ⟨gp,op,none⟩) 1 S.H.cp),_,_,_,_,.v (.slice (some ⟨gp,op,none⟩) 1 S.H.cp),_,_,.v (.slice C.aa C.ar.length C.ac),.v (.agg (yX ⟨true,C.aa,C.ac,C.ar,nTs,zTb⟩)),.r 15 ((dF λ_=>True)),.r 16 ((dF λ_=>True)),_,_,_] (Gp S B b w ⟨true,C.aa,C.ac,C.ar,nTs,zTb⟩) jf (λ_=>⟨λk _ _ e=>(by cases e),λe=>(by cases e),λ_=>⟨h,MS.refl _ _ _⟩,λe=>(by cases e),λe=>(by cases e)⟩) (Qk jf rfl (Qk jf rfl (Qk jf rfl (Qf jf b 1 rfl rfl (Qf jf b 11 rfl rfl (ah ?_ (Qk jf rfl (Qk jf rfl (Qf jf b 1 rfl rfl (Qf jf b 11 rfl rfl (ah ?_ (Qr jf (.pointer (some ⟨gp,op,none⟩)) (λρ y W o=>(cO (i:=0) rfl (aL rfl o) (aL rfl o) (by decide) underlying43 space_size)) rfl rfl (Qf jf gp (op+1) rfl rfl (ah ?_ (ah ?_ (ah ?_ (ah ?_ (Qk jf rfl (Qf jf b 1 rfl rfl (Qf jf b 11 rfl rfl (aI) (λ_ _ _ _ c h=>jR (by decide) (by intro k h1 h2 e;first | omega | (obtain rfl:=lS e;exact c _ rfl)) h)) (λ_ _ _ _ c h=>jR (by decide) (by intro k h1 h2 e;first | omega | (obtain rfl:=lS e;exact c _ rfl)) h)) (λ_ _ _ _ c h=>jR (by decide) (by intro k h1 h2 e;first | omega | (obtain rfl:=lS e;exact c _ rfl)) h)))))) (λ_ _ _ _ c h=>jR (by decide) (by intro k h1 h2 e;first | omega | (obtain rfl:=lS e;exact c _ rfl)) h)) (λ_ _ _ _ c h=>jR (by decide) (by intro k h1 h2 e;first | omega | (obtain rfl:=lS e;exact c _ rfl)) h))) (λ_ _ _ _ c h=>jR (by decide) (by intro k h1 h2 e;first | omega | (obtain rfl:=lS e;exact c _ rfl)) h)) (λ_ _ _ _ c h=>jR (by decide) (by intro k h1 h2 e;first | omega | (obtain rfl:=lS e;exact c _ rfl)) h)) (λ_ _ _ _ c h=>jR (by decide) (by intro k h1 h2 e;first | omega | (obtain rfl:=lS e;exact c _ rfl)) h)) (λ_ _ _ _ c h=>jR (by decide) (by intro k h1 h2 e;first | omega | (obtain rfl:=lS e;exact c _ rfl)) h))) (λ_ _ _ _ c h=>jR (by decide) (by intro k h1 h2 e;first | omega | (obtain rfl:=lS e;exact c _ rfl)) h)) (λ_ _ _ _ c h=>jR (by decide) (by intro k h1 h2 e;first | omega | (obtain rfl:=lS e;exact c _ rfl)) h)) (λ_ _ _ _ c h=>jR (by decide) (by intro k h1 h2 e;first | omega | (obtain rfl:=lS e;exact c _ rfl)) h)) (λ_ _ _ _ c h=>jR (by decide) (by intro k h1 h2 e;first | omega | (obtain rfl:=lS e;exact c _ rfl)) h)) (λ_ _ _ _ c h=>jR (by decide) (by intro k h1 h2 e;first | omega | (obtain rfl:=lS e;exact c _ rfl)) h)) (λ_=>rfl) rfl ?_
 .intro ρ y W L O hn t c K N;refine fZ jf (λ_ _ h=>jR (by decide) (by intro k h1 h2 e;first | omega | (obtain rfl:=lS e;exact c _ rfl)) h) K ?_;have E9:=O 9 4 rfl;have h4:y 4=_:=N 4 rfl;have hm:=(DK K t (by decide)).1;refine ak (.slice (some ⟨gp,op,none⟩) 1 S.H.cp) (aj rfl) (by simp[execOp,go_sem,E9,h4,hm.blk.cell,jI,kW,hl]) rfl
 .intro ρ y W L O hn t c K N;refine fZ jf (λ_ _ h=>jR (by decide) (by intro k h1 h2 e;first | omega | (obtain rfl:=lS e;exact c _ rfl)) h) K ?_;have qL:=O 14 9 rfl;have M:y 9=_:=N 9 rfl;have hm:=(DK K t (by decide)).1;refine ak (.slice (some ⟨gp,op,none⟩) 1 S.H.cp) (aj rfl) (by simp[execOp,go_sem,qL,M,hm.blk.cell,jI,kW,hl]) rfl
 .intro ρ y W L O hn t c K N;refine fZ jf (λ_ _ h=>jR (by decide) (by intro k h1 h2 e;first | omega | (obtain rfl:=lS e;exact c _ rfl)) h) K ?_;have qK:=O 17 12 rfl;have hz:y 12=_:=N 12 rfl;have hm:=(DK K t (by decide)).1;refine ak (.slice C.aa C.ar.length C.ac) (aj rfl) (by simp[execOp,go_sem,qK,hz,kV W hm]) rfl
 .intro ρ y W L O hn t c K N;refine fZ jf (λ_ _ h=>jR (by decide) (by intro k h1 h2 e;first | omega | (obtain rfl:=lS e;exact c _ rfl)) h) K ?_;have qJ:=O 18 13 rfl;have kC:y 13=_:=N 13 rfl;have EC:∀v,ρ (.const v)=v:=λv=>hn (.const v) trivial;refine ak (.agg (yX ⟨true,C.aa,C.ac,C.ar,nTs,zTb⟩)) (aj rfl) (by simp[execOp,go_sem,qJ,kC,EC,yX,nTs]) rfl
 .intro ρ y W L O hn t c K N;have qI:=O 19 14 rfl;have qG:y 14=_:=N 14 rfl;refine fH (.slice (some ⟨W.heap.size,0,none⟩) 1 1) (aj rfl) ?_ (UO (W':=W.alloc (.cells (yX ⟨true,C.aa,C.ac,C.ar,nTs,zTb⟩) 76)) ((Below.refl _ _).alloc (az _) _) (c 14 rfl) K ⟨az _,by unfold maxLen;omega,λe=>(by cases e),eB.new _ _ _⟩) trivial;simp[execOp,go_sem,qI.trans qG,yX]
 .intro ρ y W L O hn t c K N;have qM:=O 10 5 rfl;have h5:y 5=_:=N 5 rfl;have qH:=O 20 15 rfl;have gl:=N 15 rfl;have hm:=(DK K t (by decide)).1;obtain⟨a,e,qu,gG⟩:=K.2.2.2.1 (c 15 rfl) t;have qx:Own W B 76 10 (.slice S.H.ap S.H.sp.length S.H.cp) S.H.sp.length (S.H.sp.flatMap tQ):=hm.ma.sp;refine mf (aj rfl) (qB _ _ _ rfl B 76 _ 10 224 underlying43 space_info rfl (by decide) (.slice S.H.ap S.H.sp.length S.H.cp) S.H.sp.length _ (by rw[hl,kW];exact qM.trans h5) qx a 1 e _ (qH.trans qu) gG.nl gG.le rfl gG.rd (bT (by simp[yX,nTs,Value.oneCell'])) (by unfold maxLen;omega) (by omega) hm.bs) (λv W1 h=>UX (c 15 rfl) (c 5 rfl) t K h.2.1 h.1 h.2.2) (λ_ _ _=>trivial)
 intro y W1 gD qr;clear qr;obtain⟨w1,hi,k7,kx,own2,kK⟩:=gD.2.2.2.2 rfl;clear gD h;have hA:Own w1 B 76 10 (.slice S.H.ap S.H.sp.length S.H.cp) S.H.sp.length (S.H.sp.flatMap tQ):=hi.ma.sp;have kN:C∈S.H.sp:=by rw[kb.out];exact bB.2 rfl
 have gC:=Be hA kx hi.blk (by decide);have gr:∀p∈S.H.sp++[(⟨true,C.aa,C.ac,C.ar,nTs,zTb⟩:PS)],Own W1 B 94 7 (.slice p.aa p.ar.length p.ac) p.ar.length (p.ar.flatMap mX)/\sG W1 B (nT p.ts) p.tb:=λp hp=>by
  rcases gH.1 hp with hp|hp
  .exact⟨jo hA kx (hi.ma.ps p hp).1 (by decide),Ef hA kx (hi.ma.ps p hp).2⟩
  rw[bB.1 hp];exact⟨jo hA kx (hi.ma.ps C kN).1 (by decide),Cr _ _⟩
 obtain⟨a2,c2,k5,_⟩:=own2.rd;rw[k5]at own2 kK ⊢;clear k5;have ke:(S.H.sp++[(⟨true,C.aa,C.ac,C.ar,nTs,zTb⟩:PS)]).length=S.H.sp.length+1:=by simp
 have own2' : Own W1 B 76 10 (.slice a2 (S.H.sp++[(⟨true,C.aa,C.ac,C.ar,nTs,zTb⟩:PS)]).length c2) (S.H.sp++[(⟨true,C.aa,C.ac,C.ar,nTs,zTb⟩:PS)]).length ((S.H.sp++[(⟨true,C.aa,C.ac,C.ar,nTs,zTb⟩:PS)]).flatMap tQ):=by rw[ke,fI];simpa using own2
 clear own2
 go_wp2_with (refine aB rfl _ _ _ rfl b 11 _ [.slice a2 (S.H.sp.length+1) c2] rfl rfl rfl _ _ gC (by show 11+1<=13;omega) (by kernel_rfl) (λu hu=>by cases bB.1 hu;rfl) ?_)
 intro w3 qo kG;have h3:fD w3 B b { S with H:={ S.H with ap:=a2,cp:=c2,sp:=S.H.sp++[(⟨true,C.aa,C.ac,C.ar,nTs,zTb⟩:PS)] } }:=hi.appP kx own2' gr (by rw[ke,hl];exact qo) kG;have s3:MS w b S w3 { S with H:={ S.H with ap:=a2,cp:=c2,sp:=S.H.sp++[(⟨true,C.aa,C.ac,C.ar,nTs,zTb⟩:PS)] } }:=k7.app hi hA (by simp[iW]) kx kG kK (λx J=>by
  rcases J with J|J
  .exact .inl (.inl J)
  simp only[iW,dx,gW,or_false]at J;rcases J with J|J|J|J|J|J|J|J|J<;>first|exact .inr J.symm|exact .inl (.inr (by simp[iW,J])))
 clear hi k7 hA gC gr own2' qo kG kK kx kV kW
 -- process 0's areas
 obtain⟨g3,o3,_,_,qv,_,_,_,ql,_⟩:=h3.ma.sp.put oV (by decide) 0 (by simp);have qp:a2=some ⟨g3,o3,none⟩:=(oU qv).1;have c31:w3.cell? ⟨g3,o3+1,none⟩=some (.slice C.aa C.ar.length C.ac):=by
  have e0:(S.H.sp++[(⟨true,C.aa,C.ac,C.ar,nTs,zTb⟩:PS)])[0]'(by simp)=C:=by simp[kb.out]
  rw[e0]at ql;have:=ql 1 _ rfl;simpa using this
 have hc:=h3.blk.cell;unfold jI at hc;dsimp only at hc;rw[qp,ke]at hc;have qt:=(h3.ma.ps C (qg _ kN)).1;have k4:Hid ((bP C.ar).1=0):=ae (gO.out.rt.pt.ar ⟨C.lv,C.ar,ig (fO S.T 0)⟩ (by
  show _∈(List.range (S.H.sp.map PS.sp).length).map λp=>({ dD S.H.ma p with tb:=ig (fO S.T p) }:Sp);rw[eU];refine⟨0,by rw[dV,hl];decide,?_⟩;have e1:dD S.H.ma 0=C.sp:=by show(S.H.sp.map PS.sp).getD 0 zSp=_;rw[kb.out];rfl
  rw[e1];rfl))
 have qR:C.ar.length<=16:=(iZ.1 k4.out).1;have g7:=ae (lI (iZ.1 k4.out).2)
 go_wp2_with fail
 refine(nJ C.ar C.aa C.ac _ (uN qt).rd (by omega) (λx J=>(srtF_ok g7.out x J).1)).mono ?_;rintro r w4 ⟨rfl,gU⟩;have h4:=h3.below gU;have s4:=s3.below gU;have kq:=ae (kF (cZ C.ar));clear h3 s3 hc c31 qp gU qt
 go_wp2_with (refine aK rfl _ _ _ rfl (fC (cZ C.ar)) rfl rfl (by rw[kq.out];rfl) (by rw[kq.out];exact ones_size) (Bb _) ?_)
 intro w5 gS fx5;have h5:=h4.below gS;have s5:=s4.below gS;have k9:=ae (h4.new (az _));have qA:=ae s4.size;clear h4 s4 gS;generalize w4.heap.size=gf at *
 have qq:S.T.length=1:=by have M:=gO.out.ok.len;have h8:S.H.ma.sp.length=S.H.sp.length:=dV _;omega
 have kY:=ae qq;have gK:=ae hl;clear qq hl;have hc:=h5.blk.cell;unfold jI at hc;dsimp only at hc;have kr:Own w5 B 69 192 (.slice S.ab S.T.length S.cb) S.T.length (S.T.flatMap tL):=h5.tt
 go_wp2_with (at_builtin;go_must (refine CL rfl _ _ rfl (by kernel_rfl) B (.slice S.ab S.T.length S.cb) S.T.length (S.T.flatMap tL) rfl kr rfl (by have:=kY.out;omega) h5.bs ?_))
 intro v6 w6 own6 gh kJ;have kj:=(Below.refl w5.heap.size w5).alloc (az _) (.cells (tL (List.replicate 64 zEn)).toArray 69);have gk:=h5.below kj;have s5a:=s5.below kj;have hP:=kr.below kj;have gi:=fx5.ext kj;have ku:∀ {x:Nat} {cs:Array Value} {T:TypeId},aG (w5.alloc (.cells (tL (List.replicate 64 zEn)).toArray 69)) x cs T->T≠69->aG w6 x cs T:=λgc hT=>by
  rcases sV hP gh with hb0|⟨g,cs,hk,_,hg'⟩
  .exact gc.ext hb0
  .exact bY gc hk (λe=>hT e.symm) hg'
 have gA:=ku gk.blk (by decide);have fx6:=ku gi (by decide);have qD:∀x,v6.ownBlock=some x->x≠gf:=λx J e=>by
  rcases kJ with e1|e1
  .rw[e1]at J;obtain⟨cs,hk⟩:=mR hP x J;rw[e]at hk;exact mD hk gi (by decide) rfl
  have M:=e1 x J;rw[e]at M;exact Nat.lt_irrefl _ (oL gi.lt M)
 obtain⟨a4,c4,rfl,_⟩:=own6.rd;have qd:some gf=oB a4->False:=λe=>qD gf (by rw[jF];exact e.symm) rfl;have kd:(S.T++[List.replicate 64 zEn]).length=S.T.length+1:=by simp
 have own6' : Own w6 B 69 192 (.slice a4 (S.T++[List.replicate 64 zEn]).length c4) (S.T++[List.replicate 64 zEn]).length ((S.T++[List.replicate 64 zEn]).flatMap tL):=by rw[kd,fI];simpa using own6
 clear hc h5 s5 kr own6 kj ku gi fx5
 go_wp2_with (refine aB rfl _ _ _ rfl b 12 _ [.slice a4 (S.T.length+1) c4] rfl rfl rfl _ _ gA (by show 12+1<=13;omega) (by kernel_rfl) (λu hu=>by cases bB.1 hu;rfl) ?_)
 intro w7 qn gg;have h7:fD w7 B b { S with H:={ S.H with ap:=some ⟨g3,o3,none⟩,cp:=c2,sp:=S.H.sp++[(⟨true,C.aa,C.ac,C.ar,nTs,zTb⟩:PS)] },ab:=a4,cb:=c4,T:=S.T++[List.replicate 64 zEn] }:=gk.appT gh own6' (by rw[kd];exact qn) gg;have s7:MS w b S w7 { S with H:={ S.H with ap:=some ⟨g3,o3,none⟩,cp:=c2,sp:=S.H.sp++[(⟨true,C.aa,C.ac,C.ar,nTs,zTb⟩:PS)] },ab:=a4,cb:=c4,T:=S.T++[List.replicate 64 zEn] }:=s5a.app gk hP (by simp[iW]) gh gg kJ (λx J=>by
  rcases J with J|J
  .exact .inl (.inl J)
  simp only[iW,dx,gW,or_false]at J;rcases J with J|J|J|J|J|J|J|J|J<;>first|exact .inr J.symm|exact .inl (.inr (by simp[iW,J])))
 have qc:gf≠b:=λe=>k9.out (.inl e);have gt:Hid (¬nL b ({ S with H:={ S.H with ap:=some ⟨g3,o3,none⟩,cp:=c2,sp:=S.H.sp++[(⟨true,C.aa,C.ac,C.ar,nTs,zTb⟩:PS)] },ab:=a4,cb:=c4,T:=S.T++[List.replicate 64 zEn] }:MW) gf):=ae λhk=>by
  rcases hk with hk|hk
  .exact k9.out (.inl hk)
  simp only[iW,dx,gW,or_false]at hk;have qQ:gf<w6.heap.size:=fx6.lt;rcases hk with hk|hk|hk|hk|hk|hk|hk|hk|hk
  all_goals first
   | exact qd hk
   | exact k9.out (.inr (by simp[iW,hk]))
 have fx7:=fx6.grown gg (λe=>qc (aM e).symm);clear gk s5a hP gA own6' qn gg kJ gh fx6;have kD:({ S with H:={ S.H with ap:=some ⟨g3,o3,none⟩,cp:=c2,sp:=S.H.sp++[(⟨true,C.aa,C.ac,C.ar,nTs,zTb⟩:PS)] },ab:=a4,cb:=c4,T:=S.T++[List.replicate 64 zEn] }:MW).H.ma = { S.H.ma with sp:=S.H.ma.sp++[⟨true,C.ar,zTb⟩] }:=by simp[MH.ma,PS.sp]
 have kt:Hid (More S { S with H:={ S.H with ap:=some ⟨g3,o3,none⟩,cp:=c2,sp:=S.H.sp++[(⟨true,C.aa,C.ac,C.ar,nTs,zTb⟩:PS)] },ab:=a4,cb:=c4,T:=S.T++[List.replicate 64 zEn] }):=ae ⟨by
  rw[kD];exact gO.out.more (s:=⟨true,C.ar,zTb⟩) (by show(S.H.sp.map PS.sp).length<4;rw[dV,gK.out];decide) rfl k4.out,⟨λp hp=>by
  rcases gH.1 hp with hp|hp
  .exact gM.out.1 p hp
  rw[bB.1 hp];exact gM.out.1 C kN,gM.out.2⟩,rfl,rfl,rfl,by simp,rfl⟩
 have qO:Hid (({ S with H:={ S.H with ap:=some ⟨g3,o3,none⟩,cp:=c2,sp:=S.H.sp++[(⟨true,C.aa,C.ac,C.ar,nTs,zTb⟩:PS)] },ab:=a4,cb:=c4,T:=S.T++[List.replicate 64 zEn] }:MW).H.ma.sp.length=2):=ae (by rw[kD,jk];show(S.H.sp.map PS.sp).length+1=2;rw[dV,gK.out]);have qP:Hid ((dD ({ S with H:={ S.H with ap:=some ⟨g3,o3,none⟩,cp:=c2,sp:=S.H.sp++[(⟨true,C.aa,C.ac,C.ar,nTs,zTb⟩:PS)] },ab:=a4,cb:=c4,T:=S.T++[List.replicate 64 zEn] }:MW).H.ma 0).ar=C.ar/\(dD ({ S with H:={ S.H with ap:=some ⟨g3,o3,none⟩,cp:=c2,sp:=S.H.sp++[(⟨true,C.aa,C.ac,C.ar,nTs,zTb⟩:PS)] },ab:=a4,cb:=c4,T:=S.T++[List.replicate 64 zEn] }:MW).H.ma 1).ar=C.ar):=ae (by
  rw[kD];have e:S.H.ma.sp=[C.sp]:=by show S.H.sp.map PS.sp=_;rw[kb.out];rfl
  unfold dD;simp only[e];exact⟨rfl,rfl⟩)
 obtain⟨t0,k6⟩:=List.length_eq_one_iff.1 kY.out;have gy:Hid ((∀j:Nat,fU ({ S with H:={ S.H with ap:=some ⟨g3,o3,none⟩,cp:=c2,sp:=S.H.sp++[(⟨true,C.aa,C.ac,C.ar,nTs,zTb⟩:PS)] },ab:=a4,cb:=c4,T:=S.T++[List.replicate 64 zEn] }:MW).T 0 j=t0.getD j zEn)/\∀j:Nat,(fU ({ S with H:={ S.H with ap:=some ⟨g3,o3,none⟩,cp:=c2,sp:=S.H.sp++[(⟨true,C.aa,C.ac,C.ar,nTs,zTb⟩:PS)] },ab:=a4,cb:=c4,T:=S.T++[List.replicate 64 zEn] }:MW).T 1 j).k=0):=ae (by unfold fU fO;simp only[k6];refine⟨λj=>rfl,λj => ?_⟩;show((List.replicate 64 zEn).getD j zEn).k=0;rw[aY,qa];split<;>rfl);obtain⟨gT,oT,_,_,g6,_,_,_,gP,_⟩:=h7.tt.put zo (by decide) 0 (by simp);have qC:a4=some ⟨gT,oT,none⟩:=(oU g6).1;have gq:eB w7 (some ⟨gT,oT,none⟩) (tL t0):=λj u hj=>⟨gT,oT,rfl,by
  have e0:(S.T++[List.replicate 64 zEn])[0]'(by simp)=t0:=by simp[k6]
  rw[e0]at gP;simpa using gP j u hj⟩
 have kB:(S.T++[List.replicate 64 zEn]).length=2:=by rw[kd,kY.out]
 have hc:=h7.blk.cell;unfold jI at hc;dsimp only at hc;rw[qC,kB]at hc;have qN:=ae k6;clear kD k6 g6 gP;have gn:(Tryz.prog.info? 69).map (·.size)=some (tL t0).length:=by rw[zo];exact ents_size
 have kI:=ae gn;clear gn;go_upto_region 3 with(fail);clear qc kd ke qF k9 qA kq k4;go_upto_region 4 with(refine ay _ _ rfl gT oT rfl rfl (tL t0) gq _ underlying69 rfl kI.out ?_);have h7:fD w7 B b { S with H:={ S.H with ap:=some ⟨g3,o3,none⟩,cp:=c2,sp:=S.H.sp++[(⟨true,C.aa,C.ac,C.ar,nTs,zTb⟩:PS)] },ab:=a4,cb:=c4,T:=S.T++[List.replicate 64 zEn] }:=h7;have qz:Hid (({ S with H:={ S.H with ap:=some ⟨g3,o3,none⟩,cp:=c2,sp:=S.H.sp++[(⟨true,C.aa,C.ac,C.ar,nTs,zTb⟩:PS)] },ab:=a4,cb:=c4,T:=S.T++[List.replicate 64 zEn] }:MW).T.length=2):=ae kB;clear hc gq kI kB;have gE:Hid (({ S with H:={ S.H with ap:=some ⟨g3,o3,none⟩,cp:=c2,sp:=S.H.sp++[(⟨true,C.aa,C.ac,C.ar,nTs,zTb⟩:PS)] },ab:=a4,cb:=c4,T:=S.T++[List.replicate 64 zEn] }:MW).H.sp=S.H.sp++[(⟨true,C.aa,C.ac,C.ar,nTs,zTb⟩:PS)]):=ae rfl;have qE:Hid (({ S with H:={ S.H with ap:=some ⟨g3,o3,none⟩,cp:=c2,sp:=S.H.sp++[(⟨true,C.aa,C.ac,C.ar,nTs,zTb⟩:PS)] },ab:=a4,cb:=c4,T:=S.T++[List.replicate 64 zEn] }:MW).T=S.T++[List.replicate 64 zEn]):=ae rfl;generalize ({ S with H:={ S.H with ap:=some ⟨g3,o3,none⟩,cp:=c2,sp:=S.H.sp++[(⟨true,C.aa,C.ac,C.ar,nTs,zTb⟩:PS)] },ab:=a4,cb:=c4,T:=S.T++[List.replicate 64 zEn] }:MW)=S5 at *
 go_loopw [50] (fun i wr => ∃(n:Nat) (A:MW),n<=64/\i = .int .i64 n/\fD wr B b A/\MS w b S wr A/\aG wr gf (fC (cZ C.ar)) 81/\Hid (¬nL b A gf)/\Hid (Ka S5 A/\Bd A.H.ma A.T/\∀j:Nat,n<=j->fU A.T 0 j=t0.getD j zEn/\(fU A.T 1 j).k=0)) (fun i _=>64-(intOf i).toNat)
 case atStart=>exact⟨0,S5,bq _,rfl,h7,s7,fx7,gt,ae ⟨.refl _,kt.out.bd,λj _=>by rw[qE.out];exact⟨gy.out.1 j,gy.out.2 j⟩⟩⟩
 case round=>
  clear h7 s7 fx7 gt;obtain⟨n,A,hn,rfl,hm,hs,fx,gb,hN⟩:=hrel
  by_cases D:n<64
  .have qy:(n:Int)<64:=by omega
   obtain⟨e,he⟩:∃e,t0.getD n zEn=e:=⟨_,rfl⟩;have qe:=Dp t0 n D e he;unfold jy at qe;have gN:=ae he;clear he;have hJ:A.T.length=2:=by have M:=hN.out.2.1.ok.len;rw[M];show(A.H.sp.map PS.sp).length=2;rw[dV,hN.out.1.sp,kt.out.sp,gK.out]
   have kn:Hid (∀p,p<2->(fO A.T p).length=64):=ae λp hp=>hN.out.2.1.ok.l64 (by rw[<-hN.out.2.1.ok.len,hJ];exact hp);go_upto_region 6 with(fail);refine iG (λW=>Code.wp _ _ _ _ W) λW1 gj bx1 k7 => ?_;have hi:=hm.below gj;have sm1:=hs.below gj;have fx1:=fx.ext gj;have z:=ae (hm.new (az _));have qk:=ae (hm.newE (az _));have qh:B<=wr.heap.size:=hm.bs;have qf:=ae hs.size;have qi:gf≠wr.heap.size:=λR=>by have:=fx.lt;omega
   have ky:=bx1.cell;clear k7 gj hm hs fx qe;generalize wr.heap.size=gx at *
   by_cases hk1:e.k=1
   .have Q:=hN.out.1;have Z:=hN.out.2.1;have hL:A.H.ma.sp.length=2:=by rw[<-Z.ok.len];exact hJ
    have hg:fU A.T 0 n=e:=by rw[(hN.out.2.2 n (az _)).1];exact gN.out
    have hE:=zk Z.ok (p:=0) (n:=n) (by omega) D;rw[hg]at hE;have kg:=mU Z.ok (p:=0) (n:=n) (by omega) D;rw[hg]at kg;obtain⟨g,hH,hV⟩:=Z.rt.en 0 n (by rw[kg,hk1];decide);rw[kg]at hV;have kO:0<=e.n:=by rcases(bD _).1 hE with M | M | M<;>omega
    obtain⟨f,kU⟩:=iL kO;have kT:f<A.H.m.fs.length:=by have M:=hV.lt hk1;have e1:((fe A.H.ma A.T).m.fs.length:Nat)=A.H.m.fs.length:=rfl;omega
    rw[pE (by omega)]at hH;have kh:(dD A.H.ma 1).ar=(dD A.H.ma 0).ar/\(dD A.H.ma 0).ar=C.ar:=by
     have e1:A.H.ma.sp=[C.sp,⟨true,C.ar,zTb⟩]:=by show A.H.sp.map PS.sp=_;rw[Q.sp,gE.out,kb.out];rfl
     unfold dD;rw[e1];exact⟨rfl,rfl⟩
    have k8:cZ C.ar n=some g:=by rw[pJ g7.out,<-kh.2];exact hH
    obtain⟨ga,off,cap,cur,hv,ge,hO,gd,kf,ki⟩:=hi.ma.fr.put fQ (by decide) f kT;have gX:A.H.af=some ⟨ga,off,none⟩:=(oU hv).1;have hX:aD A.H.ma f=A.H.m.fs[f]:=by unfold aD;show A.H.m.fs.getD f fr0=_;rw[aY,aF kT];rfl
    have g9:=Z.rt.fewR (f:=f) kT;have qw:0<=(A.H.m.fs[f]).r/\(A.H.m.fs[f]).r<=257:=by rw[<-hX];exact g9
    have gY:=ae hX;have kS:=ae ki;have gv : Hid (∀j u,(pR A.H.m.fs[f])[j]?=some u->cur[off+f*13+j]?=some u):=ae λj u hj=>by rw[<-hO.cell];exact kf j u hj
    have kA:∀W,Below W1.heap.size W1 W->W.cell? ⟨ga,off+f*13+8,none⟩=some (.int .i64 (A.H.m.fs[f]).r):=λW K=>by rw[(hO.ext K).cell,<-hO.cell];exact kf 8 _ rfl
    have kX:=ae (And.intro hH (And.intro hL (And.intro kh (And.intro hE (And.intro hg k8)))));clear hX ki kf g9 hv hH hV hE kg Q Z hL kO kh hg k8;generalize A.H.m.fs[f]=X at kA qw gY gv;have gI:IntKind.i64.wrap (X.r+1)=X.r+1:=bI _ (by omega);go_upto_region 7 with(fail);refine aV 14 [_,_,_,_,_,_,_,_,_,_,_,_,_,_] (Gk rfl (Gk rfl (Gf b 1 rfl rfl (Gf b 1 rfl rfl (Gf b 1 rfl rfl (Gl hi.blk (V:=.slice (some ⟨ga,off,none⟩) A.H.m.fs.length A.H.cf) (by simp[jI,gX]) rfl rfl rfl rfl (Gf gx 1 rfl rfl (Gl bx1 (V:=.int .i64 (f:Int)) (by simp[jy,kU]) rfl rfl rfl rfl (Gr (.pointer (some ⟨ga,off+f*13,none⟩)) (λρ y W K o=>(cO rfl (aL rfl o) (aL rfl o) kT underlying30 frame_size)) rfl rfl (Gf ga (off+f*13+8) rfl rfl (Gc (.int .i64 X.r) (λW K=>by simp[kA _ K]) rfl rfl rfl rfl (Gb (.int .i64 (X.r+1)) (by simp[go_sem,gI]) rfl rfl rfl rfl rfl (Gr (.pointer (some ⟨ga,off+f*13,none⟩)) (λρ y W K o=>(cO rfl (aL rfl o) (aL rfl o) kT underlying30 frame_size)) rfl rfl (Gf ga (off+f*13+8) rfl rfl (aI))))))))))))))) (λ_=>rfl) rfl ?_;intro y W8 hh _;have hq:=hO.ext hh;have kQ:=hi.below hh;have sm8:=sm1.below hh;have bx8:=bx1.ext hh;have fx8:=fx1.ext hh;clear hi sm1 bx1 fx1 hO ky kA hh
    go_wp2_with (refine aB rfl _ _ _ rfl ga (off+f*13+8) _ [.int .i64 (X.r+1)] rfl rfl rfl _ _ hq (by show off+f*13+8+1<=cur.size;omega) (by kernel_rfl) (λu hu=>by cases bB.1 hu;rfl) ?_)
    intro w9 kH hU;rw[Kc (by omega) (λj u hj=>gv.out j u hj)]at kH;have k3:fD w9 B b (A.frs (A.H.m.fs.set f (eP X))):=kQ.putF hq ge hU (fs:=A.H.m.fs.set f (eP X)) (by simp) (by simpa using kS.out _ _ kH);have gu:nL b A ga:=.inr (by simp only[iW,gX];exact iM);have sx0:MS w b S w9 (A.frs (A.H.m.fs.set f (eP X))):=sm8.put hU gu (λx J => .inl J);have bx9:=bY bx8 hq (by decide) hU;have U:=bY fx8 hq (by decide) hU;have kG:w9.cell? ⟨gf,n*6+3,none⟩=some (.bool g.sh):=by rw[U.cell];exact Ay (cZ C.ar) n 3 D _ (by rw[kX.out.2.2.2.2.2];rfl) (by decide)
    have ky:=bx9.cell;clear kQ sm8 bx8 fx8 hq kH hU gX gu;unfold jy at ky;cases hsh:g.sh
    case' true=>
     rw[hsh]at kG;have J:=k3;have sx:=sx0;have bx:=bx9;have fx1:=U;have hD:Hid (¬nL b (A.frs (A.H.m.fs.set f (eP X))) gf):=gb;have z:Hid (¬nL b (A.frs (A.H.m.fs.set f (eP X))) gx):=z;have hF:(A.frs (A.H.m.fs.set f (eP X))).T.length=2:=hJ;have ha:(fO (A.frs (A.H.m.fs.set f (eP X))).T 0).length=64:=kn.out 0 (by decide);have hy:(fO (A.frs (A.H.m.fs.set f (eP X))).T 1).length=64:=kn.out 1 (by decide);have ht:Hid (Ka S5 { (A.frs (A.H.m.fs.set f (eP X)))with T:=setL (setL (A.frs (A.H.m.fs.set f (eP X))).T 0 n e) 1 n e }/\Bd (A.frs (A.H.m.fs.set f (eP X))).H.ma (setL (setL (A.frs (A.H.m.fs.set f (eP X))).T 0 n e) 1 n e)/\∀j:Nat,n+1<=j->fU (setL (setL (A.frs (A.H.m.fs.set f (eP X))).T 0 n e) 1 n e) 0 j=t0.getD j zEn/\(fU (setL (setL (A.frs (A.H.m.fs.set f (eP X))).T 0 n e) 1 n e) 1 j).k=0):=ae (by
      have Q:=hN.out.1;have Z:=hN.out.2.1;obtain⟨hH,hL,kh,hE,hg,k8⟩:=kX.out;have hz:=Z.share1 (w:=e.w) hL D kh.1 (by rw[hg];exact hk1) (hN.out.2.2 n (az _)).2 hH (by rw[hg];exact kU) (by rw[hg,hsh];rfl);rw[gY.out,show(⟨1,(f:Int),e.w⟩:En)=e from by rw[<-kU,<-hk1]]at hz;have kZ:eF e=0:=by
       rw[bD]at hE ⊢;rcases hE with M|M|M
       .omega
       .first
        | exact .inr (.inl ⟨M.1,M.2⟩)
        | exact .inr (.inl ⟨rfl,by show(0:Int)<=f;omega,by show(f:Int)<40;omega⟩)
       .omega
      exact⟨⟨Q.sp,Q.fi,Q.ct,Q.dk,by show(A.H.m.fs.set f (eP X)).length=_;rw[bL];exact Q.fl,Q.sl⟩,hz,λj hj=>by show fU (setL (setL A.T 0 n e) 1 n e) 0 j=_/\(fU (setL (setL A.T 0 n e) 1 n e) 1 j).k=0;rw[uG Z.ok hL D kZ _ _ (by omega),uG Z.ok hL D kZ _ _ (by omega)];exact hN.out.2.2 j (by omega)⟩)
     generalize hSx:(A.frs (A.H.m.fs.set f (eP X)))=Sx at J sx hD z hF ha hy ht;clear k3 sx0 bx9 U;obtain⟨G,I,_,d,kw,kR,_⟩:=J.ent (p:=0) (n:=n) (by omega) D ha;have kc:gx≠G:=λR=>z.out (.inr (by rw[R];simp[iW,d,oB];right;right;right;right;right;right;right;right;rfl));have hC:gf≠G:=λR=>hD.out (.inr (by rw[R];simp[iW,d,oB];right;right;right;right;right;right;right;right;rfl));go_upto_region 12 with(fail);refine xS 17 [_,_,_,.v (.slice (some ⟨G,I,none⟩) 2 Sx.cb),_,_,_,_,.v (.slice (some ⟨G,I,none⟩) 2 Sx.cb),_,.v (.agg (jy e)),.v (.agg (jy e)),_,.v (.pointer (some ⟨G,I+n*3,none⟩)),.r 14 ((dF λ_=>True)),_,.v (.pointer (some ⟨G,I+192+n*3,none⟩))] (ML S Sx { Sx with T:=setL Sx.T 0 n e } B b w gx gf e (fC (cZ C.ar))) bA (λ_=>⟨⟨bx,fx1⟩,λ_=>⟨J,sx⟩,λh=>(by cases h)⟩) (Qk bA rfl (Qk bA rfl (Qf bA b 12 rfl rfl (ah ?u1_1 (Qk bA rfl (Qk bA rfl (Qk bA rfl (Qf bA b 12 rfl rfl (ah ?u1_2 (Qk bA rfl (ah ?u1_3 (ah ?u1_4 (Qr bA (.pointer (some ⟨G,I,none⟩)) (λρ y W o=>(cO (i:=0) rfl (aL rfl o) (aL rfl o) (by decide) underlying96 ents_size)) rfl rfl (ah ?u1_5 (ah ?u1_6 (Qr bA (.pointer (some ⟨G,I+192,none⟩)) (λρ y W o=>(cO (i:=1) rfl (aL rfl o) (aL rfl o) (by decide) underlying96 ents_size)) rfl rfl (ah ?u1_7 (aI)))))))))))))))))) (λ_=>rfl) rfl ?u1_8
    case' false=>
     rw[hsh]at kG
     go_wp2_with (refine aB rfl _ _ _ rfl gx 2 _ [.bool false] rfl rfl rfl _ _ bx9 (by show 2+1<=3;omega) (by kernel_rfl) (λu hu=>by cases bB.1 hu;rfl) ?_)
     intro w10 bx q;have bx:aG w10 gx (jy ⟨1,(f:Int),false⟩) 68:=bx;have J:fD w10 B b (A.frs (A.H.m.fs.set f (eP X))):=k3.locE bx9 z.out qk.out qh q;have sx:=sx0.loc q qf.out;have fx1:=U.grown q (λR=>qi (aM R).symm);clear ky;have ky:=bx.cell;unfold jy at ky;have hD:Hid (¬nL b (A.frs (A.H.m.fs.set f (eP X))) gf):=gb;have z:Hid (¬nL b (A.frs (A.H.m.fs.set f (eP X))) gx):=z;have hF:(A.frs (A.H.m.fs.set f (eP X))).T.length=2:=hJ;have ha:(fO (A.frs (A.H.m.fs.set f (eP X))).T 0).length=64:=kn.out 0 (by decide);have hy:(fO (A.frs (A.H.m.fs.set f (eP X))).T 1).length=64:=kn.out 1 (by decide);have ht:Hid (Ka S5 { (A.frs (A.H.m.fs.set f (eP X)))with T:=setL (setL (A.frs (A.H.m.fs.set f (eP X))).T 0 n (⟨1,(f:Int),false⟩:En)) 1 n (⟨1,(f:Int),false⟩:En) }/\Bd (A.frs (A.H.m.fs.set f (eP X))).H.ma (setL (setL (A.frs (A.H.m.fs.set f (eP X))).T 0 n (⟨1,(f:Int),false⟩:En)) 1 n (⟨1,(f:Int),false⟩:En))/\∀j:Nat,n+1<=j->fU (setL (setL (A.frs (A.H.m.fs.set f (eP X))).T 0 n (⟨1,(f:Int),false⟩:En)) 1 n (⟨1,(f:Int),false⟩:En)) 0 j=t0.getD j zEn/\(fU (setL (setL (A.frs (A.H.m.fs.set f (eP X))).T 0 n (⟨1,(f:Int),false⟩:En)) 1 n (⟨1,(f:Int),false⟩:En)) 1 j).k=0):=ae (by
      have Q:=hN.out.1;have Z:=hN.out.2.1;obtain⟨hH,hL,kh,hE,hg,k8⟩:=kX.out;have hz:=Z.share1 (w:=false) hL D kh.1 (by rw[hg];exact hk1) (hN.out.2.2 n (az _)).2 hH (by rw[hg];exact kU) (by rw[hg,hsh];rfl);rw[gY.out,show(⟨1,(f:Int),false⟩:En)=(⟨1,(f:Int),false⟩:En)from by rw[<-kU,<-hk1]]at hz;have kZ:eF (⟨1,(f:Int),false⟩:En)=0:=by
       rw[bD]at hE ⊢;rcases hE with M|M|M
       .omega
       .first
        | exact .inr (.inl ⟨M.1,M.2⟩)
        | exact .inr (.inl ⟨rfl,by show(0:Int)<=f;omega,by show(f:Int)<40;omega⟩)
       .omega
      exact⟨⟨Q.sp,Q.fi,Q.ct,Q.dk,by show(A.H.m.fs.set f (eP X)).length=_;rw[bL];exact Q.fl,Q.sl⟩,hz,λj hj=>by show fU (setL (setL A.T 0 n (⟨1,(f:Int),false⟩:En)) 1 n (⟨1,(f:Int),false⟩:En)) 0 j=_/\(fU (setL (setL A.T 0 n (⟨1,(f:Int),false⟩:En)) 1 n (⟨1,(f:Int),false⟩:En)) 1 j).k=0;rw[uG Z.ok hL D kZ _ _ (by omega),uG Z.ok hL D kZ _ _ (by omega)];exact hN.out.2.2 j (by omega)⟩)
     generalize hSx:(A.frs (A.H.m.fs.set f (eP X)))=Sx at J sx hD z hF ha hy ht;clear k3 sx0 bx9 U q;obtain⟨G,I,_,d,kw,kR,_⟩:=J.ent (p:=0) (n:=n) (by omega) D ha;have kc:gx≠G:=λR=>z.out (.inr (by rw[R];simp[iW,d,oB];right;right;right;right;right;right;right;right;rfl));have hC:gf≠G:=λR=>hD.out (.inr (by rw[R];simp[iW,d,oB];right;right;right;right;right;right;right;right;rfl));go_upto_region 12 with(fail);refine xS 17 [_,_,_,.v (.slice (some ⟨G,I,none⟩) 2 Sx.cb),_,_,_,_,.v (.slice (some ⟨G,I,none⟩) 2 Sx.cb),_,.v (.agg (jy (⟨1,(f:Int),false⟩:En))),.v (.agg (jy (⟨1,(f:Int),false⟩:En))),_,.v (.pointer (some ⟨G,I+n*3,none⟩)),.r 14 ((dF λ_=>True)),_,.v (.pointer (some ⟨G,I+192+n*3,none⟩))] (ML S Sx { Sx with T:=setL Sx.T 0 n (⟨1,(f:Int),false⟩:En) } B b w gx gf (⟨1,(f:Int),false⟩:En) (fC (cZ C.ar))) bA (λ_=>⟨⟨bx,fx1⟩,λ_=>⟨J,sx⟩,λh=>(by cases h)⟩) (Qk bA rfl (Qk bA rfl (Qf bA b 12 rfl rfl (ah ?v1_1 (Qk bA rfl (Qk bA rfl (Qk bA rfl (Qf bA b 12 rfl rfl (ah ?v1_2 (Qk bA rfl (ah ?v1_3 (ah ?v1_4 (Qr bA (.pointer (some ⟨G,I,none⟩)) (λρ y W o=>(cO (i:=0) rfl (aL rfl o) (aL rfl o) (by decide) underlying96 ents_size)) rfl rfl (ah ?v1_5 (ah ?v1_6 (Qr bA (.pointer (some ⟨G,I+192,none⟩)) (λρ y W o=>(cO (i:=1) rfl (aL rfl o) (aL rfl o) (by decide) underlying96 ents_size)) rfl rfl (ah ?v1_7 (aI)))))))))))))))))) (λ_=>rfl) rfl ?v1_8
    case u1_1|v1_1=>
     intro ρ y W L O hn t c K N;refine fZ bA (λ_ _ h=>h) K ?_;have g5:=O 93 2 rfl;have h2:y 2=_:=N 2 rfl;have kz:=Dc K (by simp[jI,setL]);refine ak (.slice (some ⟨G,I,none⟩) 2 Sx.cb) (aj rfl) (by simp[execOp,go_sem,bU,g5,h2,kz,jI,d,hF]) rfl
    case u1_2|v1_2=>
     intro ρ y W L O hn t c K N;refine fZ bA (λ_ _ h=>h) K ?_;have g1:=O 98 7 rfl;have h7:y 7=_:=N 7 rfl;have kz:=Dc K (by simp[jI,setL]);refine ak (.slice (some ⟨G,I,none⟩) 2 Sx.cb) (aj rfl) (by simp[execOp,go_sem,bU,g1,h7,kz,jI,d,hF]) rfl
    case u1_5|v1_5=>
     intro ρ y W L O hn t c K N;refine fZ bA (λ_ _ h=>h) K ?_;have k1:=O 103 12 rfl;have hz:y 12=_:=N 12 rfl;have g4:=O 95 4 rfl;have h4:y 4=_:=N 4 rfl;have ks:((64:Int)<=(n:Int))=False:=eq_false (by omega);refine ak (.pointer (some ⟨G,I+n*3,none⟩)) (aj rfl) (by simp[execOp,go_sem,bU,k1,hz,g4,h4,D,ks]) rfl
    case u1_7|v1_7=>
     intro ρ y W L O hn t c K N;refine fZ bA (λ_ _ h=>h) K ?_;have k0:=O 105 15 rfl;have gl:y 15=_:=N 15 rfl;have k2:=O 100 9 rfl;have M:y 9=_:=N 9 rfl;have ks:((64:Int)<=(n:Int))=False:=eq_false (by omega);refine ak (.pointer (some ⟨G,I+192+n*3,none⟩)) (aj rfl) (by simp[execOp,go_sem,bU,k0,gl,k2,M,D,ks]) rfl
    case u1_3=>
     intro ρ y W L O hn t c K N;refine fZ bA (λ_ _ h=>h) K ?_;have E4:ρ (.tmp 4) = .pointer (some ⟨gx,0,none⟩):=(hn (.tmp 4) rfl).trans rfl;refine ak (.agg (jy e)) (aj rfl) (eD rfl E4 K.1.1 underlying68 rfl entry_size3) rfl
    case u1_4=>
     intro ρ y W L O hn t c K N;refine fZ bA (λ_ _ h=>h) K ?_;have E4:ρ (.tmp 4) = .pointer (some ⟨gx,0,none⟩):=(hn (.tmp 4) rfl).trans rfl;refine ak (.agg (jy e)) (aj rfl) (eD rfl E4 K.1.1 underlying68 rfl entry_size3) rfl
    case u1_6=>
     intro ρ y W L O hn t c K N;have ko:=O 104 13 rfl;have kC:y 13=_:=N 13 rfl;have kp:=O 101 10 rfl;have hI:y 10=_:=N 10 rfl;obtain⟨kP,kM⟩:=K.2.1 t;obtain⟨gQ,oQ,curQ,hQ,qs,km,kl,_,kk⟩:=kP.ent (p:=0) (n:=n) (by omega) D ha;cases (hQ.symm.trans d);rw[vS,iP]at kl kk;exact BX (aj rfl) (Jw _ _ _ rfl G (I+n*3) _ (lY e) (ko.trans kC) (kp.trans hI) rfl curQ _ km (by rw[gz];exact kl) (by kernel_rfl) (bT (jB _))) ⟨⟨K.1.1.grown (aC _ _ _ _) (λR=>kc (aM R).symm),K.1.2.grown (aC _ _ _ _) (λR=>hC (aM R).symm)⟩,λh=>(by cases h),λ_=>⟨kk _ e (km.setCells _ _) (aC _ _ _ _),kM.put (aC _ _ _ _) (.inr (by simp only[iW,d];simp[oB];right;right;right;right;right;right;right;right;rfl)) (λx J => .inl J)⟩⟩ trivial
    case u1_8=>
     intro y W9 hY ka;clear ka;simp only[dm,bU,bQ,aZ];obtain⟨⟨bx9,U⟩,_,hS⟩:=hY;obtain⟨M,s9⟩:=hS rfl;have gZ:(setL Sx.T 0 n e).length=2:=by unfold setL;rw[bL];exact hF
     obtain⟨gR,oR',curR,hR,g0,h6,h0,_,hG⟩:=M.ent (p:=1) (n:=n) (by show 1<(setL Sx.T 0 n e).length;omega) D (by show(fO (setL Sx.T 0 n e) 1).length=64;rw[sU (by omega),if_neg (by decide)];exact hy);have hR:Sx.ab=some ⟨gR,oR',none⟩:=hR;cases (hR.symm.trans d);rw[Br]at h0 hG;have hZ:=ae hG;clear hG hS J sx bx fx1
     go_wp2_with (refine aB rfl _ _ _ rfl G (I+192+n*3) _ (lY e) rfl rfl rfl _ _ h6 (by rw[gz];exact h0) (by kernel_rfl) (bT (jB _)) ?_)
     intro w10 hr q;have hI:=hZ.out w10 e hr q;have s10:MS w b S w10 { Sx with T:=setL (setL Sx.T 0 n e) 1 n e }:=s9.put q (.inr (by simp only[iW,d];simp[oB];right;right;right;right;right;right;right;right;rfl)) (λx J => .inl J);have fx10:=U.grown q (λR=>hC (aM R).symm);clear M s9 bx9 U h6 hr q;go_wp2;go_roundw
     case rel=>exact⟨n+1,_,by omega,by go_num,hI,s10,fx10,hD,ht⟩
     case measure=>simp[intOf];omega
    case v1_3=>
     intro ρ y W L O hn t c K N;refine fZ bA (λ_ _ h=>h) K ?_;have E4:ρ (.tmp 4) = .pointer (some ⟨gx,0,none⟩):=(hn (.tmp 4) rfl).trans rfl;refine ak (.agg (jy (⟨1,(f:Int),false⟩:En))) (aj rfl) (eD rfl E4 K.1.1 underlying68 rfl entry_size3) rfl
    case v1_4=>
     intro ρ y W L O hn t c K N;refine fZ bA (λ_ _ h=>h) K ?_;have E4:ρ (.tmp 4) = .pointer (some ⟨gx,0,none⟩):=(hn (.tmp 4) rfl).trans rfl;refine ak (.agg (jy (⟨1,(f:Int),false⟩:En))) (aj rfl) (eD rfl E4 K.1.1 underlying68 rfl entry_size3) rfl
    case v1_6=>
     intro ρ y W L O hn t c K N;have ko:=O 104 13 rfl;have kC:y 13=_:=N 13 rfl;have kp:=O 101 10 rfl;have hI:y 10=_:=N 10 rfl;obtain⟨kP,kM⟩:=K.2.1 t;obtain⟨gQ,oQ,curQ,hQ,qs,km,kl,_,kk⟩:=kP.ent (p:=0) (n:=n) (by omega) D ha;cases (hQ.symm.trans d);rw[vS,iP]at kl kk;exact BX (aj rfl) (Jw _ _ _ rfl G (I+n*3) _ (lY (⟨1,(f:Int),false⟩:En)) (ko.trans kC) (kp.trans hI) rfl curQ _ km (by rw[gz];exact kl) (by kernel_rfl) (bT (jB _))) ⟨⟨K.1.1.grown (aC _ _ _ _) (λR=>kc (aM R).symm),K.1.2.grown (aC _ _ _ _) (λR=>hC (aM R).symm)⟩,λh=>(by cases h),λ_=>⟨kk _ (⟨1,(f:Int),false⟩:En) (km.setCells _ _) (aC _ _ _ _),kM.put (aC _ _ _ _) (.inr (by simp only[iW,d];simp[oB];right;right;right;right;right;right;right;right;rfl)) (λx J => .inl J)⟩⟩ trivial
    case v1_8=>
     intro y W9 hY ka;clear ka;simp only[dm,bU,bQ,aZ];obtain⟨⟨bx9,U⟩,_,hS⟩:=hY;obtain⟨M,s9⟩:=hS rfl;have gZ:(setL Sx.T 0 n (⟨1,(f:Int),false⟩:En)).length=2:=by unfold setL;rw[bL];exact hF
     obtain⟨gR,oR',curR,hR,g0,h6,h0,_,hG⟩:=M.ent (p:=1) (n:=n) (by show 1<(setL Sx.T 0 n (⟨1,(f:Int),false⟩:En)).length;omega) D (by show(fO (setL Sx.T 0 n (⟨1,(f:Int),false⟩:En)) 1).length=64;rw[sU (by omega),if_neg (by decide)];exact hy);have hR:Sx.ab=some ⟨gR,oR',none⟩:=hR;cases (hR.symm.trans d);rw[Br]at h0 hG;have hZ:=ae hG;clear hG hS J sx bx fx1
     go_wp2_with (refine aB rfl _ _ _ rfl G (I+192+n*3) _ (lY (⟨1,(f:Int),false⟩:En)) rfl rfl rfl _ _ h6 (by rw[gz];exact h0) (by kernel_rfl) (bT (jB _)) ?_)
     intro w10 hr q;have hI:=hZ.out w10 (⟨1,(f:Int),false⟩:En) hr q;have s10:MS w b S w10 { Sx with T:=setL (setL Sx.T 0 n (⟨1,(f:Int),false⟩:En)) 1 n (⟨1,(f:Int),false⟩:En) }:=s9.put q (.inr (by simp only[iW,d];simp[oB];right;right;right;right;right;right;right;right;rfl)) (λx J => .inl J);have fx10:=U.grown q (λR=>hC (aM R).symm);clear M s9 bx9 U h6 hr q;go_wp2;go_roundw
     case rel=>exact⟨n+1,_,by omega,by go_num,hI,s10,fx10,hD,ht⟩
     case measure=>simp[intOf];omega
   by_cases hk2:e.k=2
   case' pos=>
    have Q:=hN.out.1;have Z:=hN.out.2.1;have hL:A.H.ma.sp.length=2:=by rw[<-Z.ok.len];exact hJ
    have hg:fU A.T 0 n=e:=by rw[(hN.out.2.2 n (az _)).1];exact gN.out
    have hE:=zk Z.ok (p:=0) (n:=n) (by omega) D;rw[hg]at hE;have kg:=mU Z.ok (p:=0) (n:=n) (by omega) D;rw[hg]at kg;obtain⟨g,hH,hV⟩:=Z.rt.en 0 n (by rw[kg,hk2];decide);rw[kg]at hV;have kO:0<=e.n:=by rcases(bD _).1 hE with M | M | M<;>omega
    obtain⟨Y,g8⟩:=iL kO;have kL:Y<A.H.sl.length:=by have M:=(hV.sw hk2).1;have e1:((fe A.H.ma A.T).sl.length:Nat)=A.H.sl.length:=rfl;omega
    obtain⟨gs,off,cap,cur,hv,ge,hO,gd,kf,ki⟩:=Own.put (enc:=λx=>[gB x]) (sz:=1) (l:=A.H.sl) (λ_=>rfl) Nat.one_pos (by rw[kv];exact hi.ma.sl) Y kL;have gV:A.H.asl=some ⟨gs,off,none⟩:=(oU hv).1;rw[uu]at gd kf ki;have gF:jS A.H.ma Y=A.H.sl[Y]:=by unfold jS;show A.H.sl.getD Y 0=_;rw[aY,aF kL];rfl
    have gw:=Z.rt.fewS (s:=Y) kL;have qj:0<=A.H.sl[Y]/\A.H.sl[Y]<=256:=by rw[<-gF];exact gw
    have kS:=ae ki;have gm:=ae gF;have kA:∀W,Below W1.heap.size W1 W->W.cell? ⟨gs,off+Y,none⟩=some (.int .i64 A.H.sl[Y]):=λW K=>by have M:=kf 0 _ rfl;rw[iP]at M;have h8:=(hO.ext K).cell (off+Y);rw[h8,<-hO.cell];exact M
    have qb:=ae (And.intro hH hL);clear gF ki kf gw hv hH hV hE kg Q Z hL kO;generalize A.H.sl[Y]=v0 at kA qj gm;have gI:IntKind.i64.wrap (v0+1)=v0+1:=bI _ (by omega);have kE:=ae hg;clear hg;go_upto_region 11 with(fail);refine aV 11 [_,_,_,_,_,_,_,_,_,_,_] (Gk rfl (Gk rfl (Gf b 1 rfl rfl (Gf b 3 rfl rfl (Gl hi.blk (V:=.slice (some ⟨gs,off,none⟩) A.H.sl.length A.H.csl) (by simp[jI,gV]) rfl rfl rfl rfl (Gf gx 1 rfl rfl (Gl bx1 (V:=.int .i64 (Y:Int)) (by simp[jy,g8]) rfl rfl rfl rfl (Gr (.pointer (some ⟨gs,off+Y,none⟩)) (λρ y W K o=>(Mc rfl (aL rfl o) (aL rfl o) kL)) rfl rfl (Gc (.int .i64 v0) (λW K=>by simp[kA _ K]) rfl rfl rfl rfl (Gb (.int .i64 (v0+1)) (by simp[go_sem,gI]) rfl rfl rfl rfl rfl (Gr (.pointer (some ⟨gs,off+Y,none⟩)) (λρ y W K o=>(Mc rfl (aL rfl o) (aL rfl o) kL)) rfl rfl (aI)))))))))))) (λ_=>rfl) rfl ?_;intro y W8 hh _;have hq:=hO.ext hh;have kQ:=hi.below hh;have sm8:=sm1.below hh;have bx8:=bx1.ext hh;have fx8:=fx1.ext hh;clear hi sm1 bx1 fx1 hO ky kA hh
    go_wp2_with (refine aB rfl _ _ _ rfl gs (off+Y) _ [.int .i64 (v0+1)] rfl rfl rfl _ _ hq (by show off+Y+1<=cur.size;omega) (by kernel_rfl) (λu hu=>by cases bB.1 hu;rfl) ?_)
    intro w9 kH hU;have gL:oB A.H.asl=some gs:=by rw[gV];rfl
    have J:fD w9 B b { A with H:={ A.H with sl:=A.H.sl.set Y (v0+1) } }:=kQ.putS hq ge gL hU (sl:=A.H.sl.set Y (v0+1)) (by simp) (by have M:=kS.out w9 (v0+1) kH;rw[kv]at M;simpa using M);have sx:MS w b S w9 { A with H:={ A.H with sl:=A.H.sl.set Y (v0+1) } }:=sm8.put hU (.inr (by simp[iW,gL])) (λx J => .inl J);have bx:=bY bx8 hq (by decide) hU;have fx1:=bY fx8 hq (by decide) hU;have hD:Hid (¬nL b ({ A with H:={ A.H with sl:=A.H.sl.set Y (v0+1) } }:MW) gf):=gb;have z:Hid (¬nL b ({ A with H:={ A.H with sl:=A.H.sl.set Y (v0+1) } }:MW) gx):=z;have hF:({ A with H:={ A.H with sl:=A.H.sl.set Y (v0+1) } }:MW).T.length=2:=hJ;have ha:(fO ({ A with H:={ A.H with sl:=A.H.sl.set Y (v0+1) } }:MW).T 0).length=64:=kn.out 0 (by decide);have hy:(fO ({ A with H:={ A.H with sl:=A.H.sl.set Y (v0+1) } }:MW).T 1).length=64:=kn.out 1 (by decide);have ht:Hid (Ka S5 { ({ A with H:={ A.H with sl:=A.H.sl.set Y (v0+1) } }:MW)with T:=setL (setL ({ A with H:={ A.H with sl:=A.H.sl.set Y (v0+1) } }:MW).T 0 n e) 1 n e }/\Bd ({ A with H:={ A.H with sl:=A.H.sl.set Y (v0+1) } }:MW).H.ma (setL (setL ({ A with H:={ A.H with sl:=A.H.sl.set Y (v0+1) } }:MW).T 0 n e) 1 n e)/\∀j:Nat,n+1<=j->fU (setL (setL ({ A with H:={ A.H with sl:=A.H.sl.set Y (v0+1) } }:MW).T 0 n e) 1 n e) 0 j=t0.getD j zEn/\(fU (setL (setL ({ A with H:={ A.H with sl:=A.H.sl.set Y (v0+1) } }:MW).T 0 n e) 1 n e) 1 j).k=0):=ae (by
     have Q:=hN.out.1;have Z:=hN.out.2.1;have hL:=qb.out.2;have hE:=zk Z.ok (p:=0) (n:=n) (by omega) D;rw[kE.out]at hE;have hH:=qb.out.1;rw[pE (by omega)]at hH;have kh:(dD A.H.ma 1).ar=(dD A.H.ma 0).ar:=by show((A.H.sp.map PS.sp).getD 1 zSp).ar=((A.H.sp.map PS.sp).getD 0 zSp).ar;rw[Q.sp,gE.out,kb.out];rfl
     have hz:=Z.share2 hL D kh (by rw[kE.out];exact hk2) (hN.out.2.2 n (az _)).2 hH (by rw[kE.out];exact g8);rw[kE.out,gm.out]at hz;exact⟨⟨Q.sp,Q.fi,Q.ct,Q.dk,Q.fl,by show(A.H.sl.set Y (v0+1)).length=_;rw[bL];exact Q.sl⟩,hz,λj hj=>by show fU (setL (setL A.T 0 n e) 1 n e) 0 j=_/\(fU (setL (setL A.T 0 n e) 1 n e) 1 j).k=0;rw[uG Z.ok hL D hE _ _ (by omega),uG Z.ok hL D hE _ _ (by omega)];exact hN.out.2.2 j (by omega)⟩)
    clear kQ sm8 bx8 fx8 hq kH hU gV gL;generalize hSx:({ A with H:={ A.H with sl:=A.H.sl.set Y (v0+1) } }:MW)=Sx at J sx hD z hF ha hy ht;obtain⟨G,I,_,d,kw,kR,_⟩:=J.ent (p:=0) (n:=n) (by omega) D ha;have kc:gx≠G:=λR=>z.out (.inr (by rw[R];simp[iW,d,oB];right;right;right;right;right;right;right;right;rfl));have hC:gf≠G:=λR=>hD.out (.inr (by rw[R];simp[iW,d,oB];right;right;right;right;right;right;right;right;rfl));go_upto_region 12 with(fail);refine xS 17 [_,_,_,.v (.slice (some ⟨G,I,none⟩) 2 Sx.cb),_,_,_,_,.v (.slice (some ⟨G,I,none⟩) 2 Sx.cb),_,.v (.agg (jy e)),.v (.agg (jy e)),_,.v (.pointer (some ⟨G,I+n*3,none⟩)),.r 14 ((dF λ_=>True)),_,.v (.pointer (some ⟨G,I+192+n*3,none⟩))] (ML S Sx { Sx with T:=setL Sx.T 0 n e } B b w gx gf e (fC (cZ C.ar))) bA (λ_=>⟨⟨bx,fx1⟩,λ_=>⟨J,sx⟩,λh=>(by cases h)⟩) (Qk bA rfl (Qk bA rfl (Qf bA b 12 rfl rfl (ah ?u2_1 (Qk bA rfl (Qk bA rfl (Qk bA rfl (Qf bA b 12 rfl rfl (ah ?u2_2 (Qk bA rfl (ah ?u2_3 (ah ?u2_4 (Qr bA (.pointer (some ⟨G,I,none⟩)) (λρ y W o=>(cO (i:=0) rfl (aL rfl o) (aL rfl o) (by decide) underlying96 ents_size)) rfl rfl (ah ?u2_5 (ah ?u2_6 (Qr bA (.pointer (some ⟨G,I+192,none⟩)) (λρ y W o=>(cO (i:=1) rfl (aL rfl o) (aL rfl o) (by decide) underlying96 ents_size)) rfl rfl (ah ?u2_7 (aI)))))))))))))))))) (λ_=>rfl) rfl ?u2_8
   case' neg=>
    have J:=hi;have sx:=sm1;have bx:=bx1;have hD:=gb;have hF:=hJ;have ha:=kn.out 0 (by decide);have hy:=kn.out 1 (by decide);have ht:Hid (Ka S5 { A with T:=setL (setL A.T 0 n e) 1 n e }/\Bd A.H.ma (setL (setL A.T 0 n e) 1 n e)/\∀j:Nat,n+1<=j->fU (setL (setL A.T 0 n e) 1 n e) 0 j=t0.getD j zEn/\(fU (setL (setL A.T 0 n e) 1 n e) 1 j).k=0):=ae (by
     have Q:=hN.out.1;have Z:=hN.out.2.1;have hL:A.H.ma.sp.length=2:=by rw[<-Z.ok.len];exact hJ
     have hg:fU A.T 0 n=e:=by rw[(hN.out.2.2 n (az _)).1];exact gN.out
     have hE:=zk Z.ok (p:=0) (n:=n) (by omega) D;rw[hg]at hE;have gc:e.k=0:=by
      rcases(bD _).1 hE with M|M|M
      .exact M.1
      .exact absurd M.1 hk1
      .exact absurd M.1 hk2
     have hz:=Z.share0 hL D (by rw[hg];exact gc) (hN.out.2.2 n (az _)).2;rw[hg]at hz;exact⟨⟨Q.sp,Q.fi,Q.ct,Q.dk,Q.fl,Q.sl⟩,hz,λj hj=>by rw[uG Z.ok hL D hE _ _ (by omega),uG Z.ok hL D hE _ _ (by omega)];exact hN.out.2.2 j (by omega)⟩)
    generalize hSx:A=Sx at J sx hD z hF ha hy ht;obtain⟨G,I,_,d,kw,kR,_⟩:=J.ent (p:=0) (n:=n) (by omega) D ha;have kc:gx≠G:=λR=>z.out (.inr (by rw[R];simp[iW,d,oB];right;right;right;right;right;right;right;right;rfl));have hC:gf≠G:=λR=>hD.out (.inr (by rw[R];simp[iW,d,oB];right;right;right;right;right;right;right;right;rfl));go_upto_region 12 with(fail);refine xS 17 [_,_,_,.v (.slice (some ⟨G,I,none⟩) 2 Sx.cb),_,_,_,_,.v (.slice (some ⟨G,I,none⟩) 2 Sx.cb),_,.v (.agg (jy e)),.v (.agg (jy e)),_,.v (.pointer (some ⟨G,I+n*3,none⟩)),.r 14 ((dF λ_=>True)),_,.v (.pointer (some ⟨G,I+192+n*3,none⟩))] (ML S Sx { Sx with T:=setL Sx.T 0 n e } B b w gx gf e (fC (cZ C.ar))) bA (λ_=>⟨⟨bx,fx1⟩,λ_=>⟨J,sx⟩,λh=>(by cases h)⟩) (Qk bA rfl (Qk bA rfl (Qf bA b 12 rfl rfl (ah ?v2_1 (Qk bA rfl (Qk bA rfl (Qk bA rfl (Qf bA b 12 rfl rfl (ah ?v2_2 (Qk bA rfl (ah ?v2_3 (ah ?v2_4 (Qr bA (.pointer (some ⟨G,I,none⟩)) (λρ y W o=>(cO (i:=0) rfl (aL rfl o) (aL rfl o) (by decide) underlying96 ents_size)) rfl rfl (ah ?v2_5 (ah ?v2_6 (Qr bA (.pointer (some ⟨G,I+192,none⟩)) (λρ y W o=>(cO (i:=1) rfl (aL rfl o) (aL rfl o) (by decide) underlying96 ents_size)) rfl rfl (ah ?v2_7 (aI)))))))))))))))))) (λ_=>rfl) rfl ?v2_8
   case u2_1|v2_1=>
    intro ρ y W L O hn t c K N;refine fZ bA (λ_ _ h=>h) K ?_;have g5:=O 93 2 rfl;have h2:y 2=_:=N 2 rfl;have kz:=Dc K (by simp[jI,setL]);refine ak (.slice (some ⟨G,I,none⟩) 2 Sx.cb) (aj rfl) (by simp[execOp,go_sem,bU,g5,h2,kz,jI,d,hF]) rfl
   case u2_2|v2_2=>
    intro ρ y W L O hn t c K N;refine fZ bA (λ_ _ h=>h) K ?_;have g1:=O 98 7 rfl;have h7:y 7=_:=N 7 rfl;have kz:=Dc K (by simp[jI,setL]);refine ak (.slice (some ⟨G,I,none⟩) 2 Sx.cb) (aj rfl) (by simp[execOp,go_sem,bU,g1,h7,kz,jI,d,hF]) rfl
   case u2_3|v2_3=>
    intro ρ y W L O hn t c K N;refine fZ bA (λ_ _ h=>h) K ?_;have E4:ρ (.tmp 4) = .pointer (some ⟨gx,0,none⟩):=(hn (.tmp 4) rfl).trans rfl;refine ak (.agg (jy e)) (aj rfl) (eD rfl E4 K.1.1 underlying68 rfl entry_size3) rfl
   case u2_4|v2_4=>
    intro ρ y W L O hn t c K N;refine fZ bA (λ_ _ h=>h) K ?_;have E4:ρ (.tmp 4) = .pointer (some ⟨gx,0,none⟩):=(hn (.tmp 4) rfl).trans rfl;refine ak (.agg (jy e)) (aj rfl) (eD rfl E4 K.1.1 underlying68 rfl entry_size3) rfl
   case u2_5|v2_5=>
    intro ρ y W L O hn t c K N;refine fZ bA (λ_ _ h=>h) K ?_;have k1:=O 103 12 rfl;have hz:y 12=_:=N 12 rfl;have g4:=O 95 4 rfl;have h4:y 4=_:=N 4 rfl;have ks:((64:Int)<=(n:Int))=False:=eq_false (by omega);refine ak (.pointer (some ⟨G,I+n*3,none⟩)) (aj rfl) (by simp[execOp,go_sem,bU,k1,hz,g4,h4,D,ks]) rfl
   case u2_6|v2_6=>
    intro ρ y W L O hn t c K N;have ko:=O 104 13 rfl;have kC:y 13=_:=N 13 rfl;have kp:=O 101 10 rfl;have hI:y 10=_:=N 10 rfl;obtain⟨kP,kM⟩:=K.2.1 t;obtain⟨gQ,oQ,curQ,hQ,qs,km,kl,_,kk⟩:=kP.ent (p:=0) (n:=n) (by omega) D ha;cases (hQ.symm.trans d);rw[vS,iP]at kl kk;exact BX (aj rfl) (Jw _ _ _ rfl G (I+n*3) _ (lY e) (ko.trans kC) (kp.trans hI) rfl curQ _ km (by rw[gz];exact kl) (by kernel_rfl) (bT (jB _))) ⟨⟨K.1.1.grown (aC _ _ _ _) (λR=>kc (aM R).symm),K.1.2.grown (aC _ _ _ _) (λR=>hC (aM R).symm)⟩,λh=>(by cases h),λ_=>⟨kk _ e (km.setCells _ _) (aC _ _ _ _),kM.put (aC _ _ _ _) (.inr (by simp only[iW,d];simp[oB];right;right;right;right;right;right;right;right;rfl)) (λx J => .inl J)⟩⟩ trivial
   case u2_7|v2_7=>
    intro ρ y W L O hn t c K N;refine fZ bA (λ_ _ h=>h) K ?_;have k0:=O 105 15 rfl;have gl:y 15=_:=N 15 rfl;have k2:=O 100 9 rfl;have M:y 9=_:=N 9 rfl;have ks:((64:Int)<=(n:Int))=False:=eq_false (by omega);refine ak (.pointer (some ⟨G,I+192+n*3,none⟩)) (aj rfl) (by simp[execOp,go_sem,bU,k0,gl,k2,M,D,ks]) rfl
   case u2_8=>
    intro y W9 hY ka;clear ka;simp only[dm,bU,bQ,aZ];obtain⟨⟨bx9,U⟩,_,hS⟩:=hY;obtain⟨M,s9⟩:=hS rfl;have gZ:(setL Sx.T 0 n e).length=2:=by unfold setL;rw[bL];exact hF
    obtain⟨gR,oR',curR,hR,g0,h6,h0,_,hG⟩:=M.ent (p:=1) (n:=n) (by show 1<(setL Sx.T 0 n e).length;omega) D (by show(fO (setL Sx.T 0 n e) 1).length=64;rw[sU (by omega),if_neg (by decide)];exact hy);have hR:Sx.ab=some ⟨gR,oR',none⟩:=hR;cases (hR.symm.trans d);rw[Br]at h0 hG;have hZ:=ae hG;clear hG hS J sx bx fx1
    go_wp2_with (refine aB rfl _ _ _ rfl G (I+192+n*3) _ (lY e) rfl rfl rfl _ _ h6 (by rw[gz];exact h0) (by kernel_rfl) (bT (jB _)) ?_)
    intro w10 hr q;have hI:=hZ.out w10 e hr q;have s10:MS w b S w10 { Sx with T:=setL (setL Sx.T 0 n e) 1 n e }:=s9.put q (.inr (by simp only[iW,d];simp[oB];right;right;right;right;right;right;right;right;rfl)) (λx J => .inl J);have fx10:=U.grown q (λR=>hC (aM R).symm);clear M s9 bx9 U h6 hr q;go_wp2;go_roundw
    case rel=>exact⟨n+1,_,by omega,by go_num,hI,s10,fx10,hD,ht⟩
    case measure=>simp[intOf];omega
   case v2_8=>
    intro y W9 hY ka;clear ka;simp only[dm,bU,bQ,aZ];obtain⟨⟨bx9,U⟩,_,hS⟩:=hY;obtain⟨M,s9⟩:=hS rfl;have gZ:(setL Sx.T 0 n e).length=2:=by unfold setL;rw[bL];exact hF
    obtain⟨gR,oR',curR,hR,g0,h6,h0,_,hG⟩:=M.ent (p:=1) (n:=n) (by show 1<(setL Sx.T 0 n e).length;omega) D (by show(fO (setL Sx.T 0 n e) 1).length=64;rw[sU (by omega),if_neg (by decide)];exact hy);have hR:Sx.ab=some ⟨gR,oR',none⟩:=hR;cases (hR.symm.trans d);rw[Br]at h0 hG;have hZ:=ae hG;clear hG hS J sx bx fx1
    go_wp2_with (refine aB rfl _ _ _ rfl G (I+192+n*3) _ (lY e) rfl rfl rfl _ _ h6 (by rw[gz];exact h0) (by kernel_rfl) (bT (jB _)) ?_)
    intro w10 hr q;have hI:=hZ.out w10 e hr q;have s10:MS w b S w10 { Sx with T:=setL (setL Sx.T 0 n e) 1 n e }:=s9.put q (.inr (by simp only[iW,d];simp[oB];right;right;right;right;right;right;right;right;rfl)) (λx J => .inl J);have fx10:=U.grown q (λR=>hC (aM R).symm);clear M s9 bx9 U h6 hr q;go_wp2;go_roundw
    case rel=>exact⟨n+1,_,by omega,by go_num,hI,s10,fx10,hD,ht⟩
    case measure=>simp[intOf];omega
  have qy:¬(n:Int)<64:=by omega
  go_wp2;refine bodyPost_ret (v:=.tuple #[]) (by simp[results,go_sem,results36]) rfl ?_;have Q:=hN.out.1;have hM:=kt.out;refine⟨A,rfl,hm,hs,⟨hN.out.2.1,⟨λp hp => ?_,by rw[Q.fi];exact hM.fm.2⟩,Q.fi.trans hM.fi,Q.ct.trans hM.ct,Q.dk.trans hM.dk,by rw[Q.sp];exact hM.sp,Q.fl.trans hM.fs⟩⟩;rw[Q.sp]at hp;rw[Q.fi];exact hM.fm.1 p hp
theorem LY(t:Tb)(cs:Array Value)(w:World)(h:Gq w cs t):Calls Tryz.prog 101 #[.agg cs] w λr w'=>r = .returned (.int .i64 (dB t))/\Below w.heap.size w w':=by
  go_enter func101,ntmps101;go_upto_region 1 with(fail);refine iG (λW=>Code.wp _ _ _ _ W) λW0 Z hf ht => ?_;clear ht
  go_wp2_with (refine iA rfl 74 (.tmp 1) rfl w.heap.size 0 rfl cs.toList hf.rd _ underlying74 tab_agg (by rw[jm,h.sz];exact tab_size) ?_)
  clear hf
  go_loopw [9] (fun i wr => ∃k:Nat,k<=8/\i = .int .i64 k/\Below w.heap.size w wr/\∀i (M:i<8),i<k->mY t[i]=0) (fun i _=>8-(intOf i).toNat)
  case atStart=>exact⟨0,bq _,rfl,Z,λi _ h=>absurd h (fq _)⟩
  case round=>
    obtain⟨k,hk,rfl,x,hh⟩:=hrel;have K:=ae hh;clear hh Z
    by_cases C:k<8
    · obtain⟨a,c,hm,hA,hv,hx,hu⟩:=h.at' k C;have hw:=λW=>Dr C hm W;have hC:decide ((k:Int)<8)=true:=by simp;omega
      unfold maxLen at hv;clear hm
      by_cases J:t[k].length=0\/t[k].length=8
      · have G:=ae J;have hB:t[k].length<=8:=by omega
        have O:((t[k].length:Int) != 0)=true/\((t[k].length:Int) != 8)=false\/((t[k].length:Int) != 0)=false/\((t[k].length:Int) != 8)=true:=by rcases J with e|e<;>simp[e]
        clear J;rcases O with⟨O,Y⟩|⟨O,Y⟩
        all_goals
          go_wp2;clear hw
          go_loopw [22,5] (fun i s wr' => ∃j c:Nat,j<=t[k].length/\c<=j/\i = .int .i64 j/\s = .int .i64 c/\Below w.heap.size w wr'/\Hid (c=0↔yZ t[k] j=false)/\∀i (M:i<t[k].length),i<j->eF t[k][i]=0) (fun i _ _=>t[k].length-(intOf i).toNat)
          case atStart=>exact⟨0,0,bq _,az _,rfl,rfl,x,ae (by simp[QO]),λi _ h=>absurd h (fq _)⟩
          case round=>
            obtain⟨j,n,hj,hy,rfl,rfl,q,v,hg⟩:=hrel;have N:=ae hg;clear hg x
            by_cases D:j<t[k].length
            · obtain⟨b,off,rfl,c0,c1,c2⟩:=GD (hu.below q) j D;go_upto_region 10 with(fail);refine iG (λW=>Code.wp _ _ _ _ W) λW3 hn hd hs => ?_;have o:=ag q hn;have m:=hd.cell;have d:Hid (eF t[k][j]≠0->dB t=eF t[k][j]):=ae (λA=>(sH k C K.out (by rw[Bf G.out j D N.out A];exact A)).trans (Bf G.out j D N.out A));have g:Hid (eF t[k][j]=0->∀i (M:i<t[k].length),i<j+1->eF t[k][i]=0):=ae (λA=>mM N.out D A);have l:Hid (0<=t[k][j].k->((0<t[k][j].k)->(n+1=0↔yZ t[k] (j+1)=false))/\(¬0<t[k][j].k->(n=0↔yZ t[k] (j+1)=false))):=ae (TC D v.out);clear q hs c0 c1 c2 hn hd N K v;generalize t[k][j]=E at m d g l;go_wp2
              all_goals first
                | (go_ret
                   refine⟨aX ?_,o⟩;clear m g l
                   go_light
                   have A:eF E≠0->dB t=eF E:=d.out;clear d;unfold eF at A
                   simp_all<;>omega)
                | (have A:eF E=0:=by
                     clear m g l d
                     go_light
                     unfold eF
                     simp_all<;>omega
                   have R:0<=E.k:=by
                     clear m g l d A
                     go_light
                     omega
                   have z:=ae (g.out A);have u:=ae (l.out R);clear l g d A m;have U:0<E.k:=by
                     go_light
                     omega
                   have Q:=ae (u.out.1 U);clear u;go_roundw
                   case rel=>exact⟨j+1,n+1,by omega,by omega,by go_num,by go_num,o,Q,z.out⟩
                   case measure=>simp[intOf];omega)
                | (have A:eF E=0:=by
                     clear m g l d
                     go_light
                     unfold eF
                     simp_all<;>omega
                   have R:0<=E.k:=by
                     clear m g l d A
                     go_light
                     omega
                   have z:=ae (g.out A);have u:=ae (l.out R);clear l g d A m;have U:¬0<E.k:=by
                     go_light
                     omega
                   have Q:=ae (u.out.2 U);clear u;go_roundw
                   case rel=>exact⟨j+1,n,by omega,by omega,by go_num,rfl,o,Q,z.out⟩
                   case measure=>simp[intOf];omega)
            have y:=ae (xR G.out λi M=>N.out i M (by omega));have p:=Kg t[k] j (by omega)
            by_cases I:t[k].length=8/\n=0
            · obtain⟨X,V⟩:=I;have f:=ae (y.out.trans (if_pos ⟨by omega,by rw[<-p];exact v.out.1 V⟩));have d:=ae (sH k C K.out (by rw[f.out];decide));have g3:((t[k].length:Int)==8)=true:=by rw[beq_iff_eq];omega
              subst V;clear p X;go_wp2;go_ret;exact⟨aX (d.out.trans f.out).symm,q⟩
            have f:=ae (y.out.trans (if_neg (λh=>I ⟨by have:=G.out;omega,v.out.2 (p.trans h.2)⟩)));have hl:((t[k].length:Int)==8)=false\/((t[k].length:Int)==8)=true/\((n:Int)==0)=false:=by
              by_cases hz:t[k].length=8
              · exact .inr ⟨by rw[beq_iff_eq];omega,by rw[beq_eq_false_iff_ne];omega⟩
              · exact .inl (by rw[beq_eq_false_iff_ne];omega)
            clear I p;rcases hl with X|⟨X,V⟩
            all_goals
              go_wp2;go_roundw
              case rel=>exact⟨k+1,by omega,by go_num,q,mM K.out C f.out⟩
              case measure=>simp[intOf];omega
      have O:((t[k].length:Int) != 0)=true:=by rw[bne_iff_ne];omega
      have Y:((t[k].length:Int) != 8)=true:=by rw[bne_iff_ne];omega
      have f:=ae (zx (h:=t[k]) (by omega));have d:=ae (sH k C K.out (by rw[f.out];decide));go_wp2;go_ret;exact⟨aX (d.out.trans f.out).symm,x⟩
    have d:=ae (xm λi M=>K.out i M (by omega));go_wp2;go_ret;exact⟨aX d.out.symm,x⟩
theorem XU(f g:En)(b:Bool)(h:(f==g)=b)(W:World):(Op.equalIn 10000 68 (.agg #[.int .i64 f.k,.int .i64 f.n,.bool f.w]) (.agg #[.int .i64 g.k,.int .i64 g.n,.bool g.w])).run Tryz.prog W = .ok b W:=by
 rw[<-h,WY]
 by_cases d:(f.k==g.k)=true
 .by_cases h2:(f.n==g.n)=true
  .by_cases j:f.w=g.w<;>simp[go_sem,d,h2,j]
  .simp[go_sem,d,h2]
 .simp[go_sem,d]
theorem Pp(t u:Tb)(cs K:Array Value)(w:World)(h:Gq w cs t)(h' : Gq w K u):Calls Tryz.prog 51 #[.agg cs,.agg K] w λr w'=>r = .returned (.bool (Ht t u))/\Below w.heap.size w w':=by
 go_enter func51,ntmps51;go_upto_region 1 with(fail);refine uT (λW=>Code.wp _ _ _ _ W) λW0 R v q hg => ?_;clear hg;go_wp2
 go_loopw [7] (fun i wr => ∃k:Nat,k<=8/\i = .int .i64 k/\Below w.heap.size w wr/\aG wr w.heap.size cs 74/\aG wr (w.heap.size+1) K 74/\∀i (M:i<8),i<k->t[i]=u[i]) (fun i _=>8-(intOf i).toNat)
 case atStart=>exact⟨0,bq _,rfl,R,v,q,λi _ h=>absurd h (fq _)⟩
 case round=>
  obtain⟨k,hk,rfl,d,G,D,z⟩:=hrel;have Q:=ae z;clear z R v q
  by_cases A:k<8
  .obtain⟨a,c,o,hv,Y,ht,hh⟩:=h.at' k A;obtain⟨a',c',n,hu,ha,hm,x⟩:=h'.at' k A;have hz:decide ((k:Int)<8)=true:=by simp;omega
   have hw:(k:Int)<8:=by omega
   unfold maxLen at Y ha;have HC:=ae o;have HD:=ae n;have U:=(G.cell k).trans o;have V:=(D.cell k).trans n;clear o n
   by_cases J:t[k].length=u[k].length
   .have g:=ae J;have Z:((t[k].length:Int) != (u[k].length:Int))=false:=by simp[J]
    clear J
    go_wp2_with fail
    go_quiet (fail);go_wp2;clear U V;generalize hW1:wr.drewN _=w1;have m:Below w.heap.size w w1:=by rw[<-hW1];exact below_drewN d _
    have s:aG w1 w.heap.size cs 74:=by rw[<-hW1];exact G.drewN _
    have p:aG w1 (w.heap.size+1) K 74:=by rw[<-hW1];exact D.drewN _
    clear hW1 d G D
    go_loopw [23] (fun i wr => ∃j:Nat,j<=t[k].length/\i = .int .i64 j/\Below w.heap.size w wr/\aG wr w.heap.size cs 74/\aG wr (w.heap.size+1) K 74/\∀i (M:i<t[k].length),i<j->t[k][i]=u[k][i]'(by have:=g.out;omega)) (λi _=>t[k].length-(intOf i).toNat)
    case atStart=>exact⟨0,bq _,rfl,m,s,p,λi _ h=>absurd h (fq _)⟩
    case round=>
     obtain⟨j,hj,rfl,d,G,D,y⟩:=hrel;have O:=ae y;clear y m s p;have U:=(G.cell k).trans HC.out;have V:=(D.cell k).trans HD.out
     by_cases C:j<t[k].length
     .have l : j<u[k].length:=by have:=g.out;omega
      have k1:(j:Int)<(u[k].length:Int):=by omega
      obtain⟨b,off,rfl,c0,c1,c2⟩:=GD (hh.below d) j C;obtain⟨b',N,rfl,d0,d1,d2⟩:=GD (x.below d) j l
      by_cases I:t[k][j]=u[k][j]
      .have hE:=XU t[k][j] u[k][j] true (beq_iff_eq.2 I);have X:=ae I;clear I
       go_wp2_with fail
       go_quiet (fail);go_wp2;go_roundw
       case rel=>exact⟨j+1,by omega,by go_num,below_drewN d _,G.drewN _,D.drewN _,XB g.out C O.out X.out⟩
       case measure=>simp[intOf];omega
      have hE:=XU t[k][j] u[k][j] false (beq_eq_false_iff_ne.2 I);have f:=ae (Gy k A (XT j C l I));clear I
      go_wp2_with fail
      go_quiet (fail);go_wp2;go_ret;exact⟨bX f.out.symm,below_drewN d _⟩
     have hf:=ae (mM Q.out A (Xj g.out j C O.out));go_wp2;go_roundw
     case rel=>exact⟨k+1,by omega,by go_num,d,G,D,hf.out⟩
     case measure=>simp[intOf];omega
   have Z:((t[k].length:Int) != (u[k].length:Int))=true:=by rw[bne_iff_ne];omega
   have f:=ae (Gy k A (λe=>J (by rw[e])));clear J
   go_wp2_with fail
   go_quiet (fail);go_wp2;go_ret;exact⟨bX f.out.symm,below_drewN d _⟩
  have f:=ae (Hd λi M=>Q.out i M (by omega));go_wp2;go_ret;exact⟨bX f.out.symm,d⟩
def xO(l:List En):Array Value:=(l.flatMap lY).toArray
theorem vD(l:List En):(xO l).size=l.length*3:=by
 unfold xO;rw[List.size_toArray,uE]
theorem VK(l:List En)(k:Nat)(G:k<l.length)(x:En):bJ (xO l) (k*3) (lY x)=xO (l.set k x):=by
 apply mI;intro i;have D:=uE l;have c:=uE (l.set k x);rw[bL]at c
 by_cases I:i<l.length*3
 .have j:i / 3<l.length:=by omega
  have b:i=i / 3*3+i%3:=by omega
  have h2:=jZ lY 3 gz (l.set k x) (i / 3) (by simpa using j) (i%3) (by omega);rw[<-b]at h2;have t:=jZ lY 3 gz l (i / 3) j (i%3) (by omega);rw[<-b]at t;have A:(xO (l.set k x))[i]?=((l.set k x).flatMap lY)[i]?:=by simp[xO]
  have C:(xO l)[i]?=(l.flatMap lY)[i]?:=by simp[xO]
  by_cases e:i / 3=k
  .have d:i=k*3+i%3:=by omega
   have a:i%3<(lY x).length:=by rw[gz];omega
   have u:=putAt_in (lY x) (xO l) (k*3) (i%3) (lY x)[i%3] (by rw[gz,vD];omega) (aF a);rw[<-d]at u;rw[u,A,h2];simp only[e,Ja];exact(aF a).symm
  rw[putAt_out _ _ _ _ (by rw[gz];omega),A,h2,C,t];congr 2;rw[Dw (λh=>e h.symm)]
 .rw[mP (by rw[size_putAt,vD];omega),mP (by rw[vD,bL];omega)]
theorem arr64_size:(Tryz.prog.info? 69).map (·.size)=some 192:=by kernel_rfl
theorem Vw(h:aG w b (bJ cur 0 (lY E)) T)(d:cur.size=3):aG w b (jy E) T:=by
 have:bJ cur 0 (jy E).toList=jy E:=gK cur (jy E) (by rw[d];rfl);have h2:aG w b (bJ cur 0 (jy E).toList) T:=h;rwa [this]at h2
theorem BV(t:Tb)(cs:Array Value)(w:World)(h:Gq w cs t)(h0:dB t=0):Calls Tryz.prog 22 #[.agg cs] w λr w'=>r = .returned (.agg (xO (dE t)))/\Below w.heap.size w w':=by
 have H0:=ae h0;clear h0;go_enter func22,ntmps22;go_upto_region 2 with(fail);refine Nb (λW=>Code.wp _ _ _ _ W) λW0 R Z f G hy => ?_;clear hy;replace G:aG W0 (w.heap.size+2) (xO (List.replicate 64 zEn)) 69:=G;replace f:aG W0 (w.heap.size+1) (xO (List.replicate 64 zEn)) 69:=f
 go_wp2_with (refine iA rfl 74 (.tmp 1) rfl w.heap.size 0 rfl cs.toList Z.rd _ underlying74 tab_agg (by rw[jm,h.sz];exact tab_size) ?_)
 have K:Hid (Mf t (8*0) (List.replicate 64 zEn)):=ae Mf.start;clear Z;have hh:=K;rw[Nat.mul_zero]at K
 go_loopw [9] (fun i wr => ∃(k:Nat) (l:List En),k<=8/\i = .int .i64 k/\Below w.heap.size w wr/\aG wr (w.heap.size+2) (xO l) 69/\aG wr (w.heap.size+1) (xO (List.replicate 64 zEn)) 69/\Hid (Mf t (8*k) l)) (fun i _=>8-(intOf i).toNat)
 case atStart=>exact⟨0,_,bq _,rfl,R,G,f,hh⟩
 case round=>
  obtain⟨k,l,hk,rfl,D,J,y,Q⟩:=hrel;clear R G f K hh
  by_cases A:k<8
  .obtain⟨a,c,U,hI,hB,hD,hz⟩:=h.at' k A;have hC:=λW=>Dr A U W;have hK:decide ((k:Int)<8)=true:=by simp;omega
   have N:=ae (qc (mQ H0.out k A));have hJ:t[k].length<=8:=by have:=N.out;omega
   unfold maxLen at hB;clear U;go_wp2;clear hC
   go_loopw [15] (fun i wr' => ∃(j:Nat) (l' : List En),j<=t[k].length/\i = .int .i64 j/\Below w.heap.size w wr'/\aG wr' (w.heap.size+2) (xO l') 69/\aG wr' (w.heap.size+1) (xO (List.replicate 64 zEn)) 69/\Hid (Mf t (8*k+j) l')) (fun i _=>t[k].length-(intOf i).toNat)
   case atStart=>exact⟨0,l,bq _,rfl,D,J,y,Q⟩
   case round=>
    obtain⟨j,l',hj,rfl,n,z,m,s⟩:=hrel;clear D J y
    by_cases O:j<t[k].length
    .obtain⟨b,off,E,rfl,hE,c0,c1,c2⟩:=TA (hz.below n) j O;have V:=ae (Hu A (by omega) (by have:=N.out;omega) hE);have hH:(8:Int)*(k:Int)+(j:Int)<64:=by omega
     have M:=ae (s.out.step (by omega) V.out);have hg:Hid ((8*k+j)*3+3<=(xO l').size):=ae (by rw[vD,s.out.len];omega);have hd:Hid (bJ (xO l') ((8*k+j)*3) (lY E)=xO (l'.set (8*k+j) E)):=ae (VK l' _ (by rw[s.out.len];omega) E);clear hE V s
     go_wp2_with (refine aB rfl _ (.tmp 7) (.tmp 19) rfl wr.heap.size 0 _ (lY E) rfl rfl rfl _ _ (aG.new _ _ _) (az 3) entry_size (BD E) ?_)
     intro I hp q;have hc:=Vw hp rfl;have hG:=z.lt;have X:aG I (w.heap.size+2) _ _:=(z.alloc _).grown q (λe=>by have:=aM e;omega);have x:aG I (w.heap.size+1) _ _:=(m.alloc _).grown q (λe=>by have:=aM e;omega);have p:Below w.heap.size w I:=(n.alloc n.size _).grown q (dI n.size _) (λk hk=>by cases hk;exact n.size);clear hp z m n q
     go_wp2_with (first | (refine iA rfl 68 (.tmp 7) rfl wr.heap.size 0 rfl (lY E) hc.rd _ underlying68 rfl entry_size ?_) | (refine aB rfl _ (.tmp 25) (.tmp 24) rfl (w.heap.size+2) ((8*k+j)*3) _ (lY E) rfl rfl rfl _ _ X hg.out entry_size (BD E) ?_))
     intro C Y g;rw[hd.out] at Y;have hi:aG C (w.heap.size+1) _ _:=x.grown g (λe=>by have:=aM e;omega);have o:Below w.heap.size w C:=p.grown g p.size oG0;clear X x p g hd hg hc c0 c1 c2;go_wp2;go_roundw
     case rel=>exact⟨j+1,_,by omega,by go_num,o,Y,hi,M⟩
     case measure=>simp[intOf];omega
    have M:Hid (Mf t (8*(k+1)) l'):=by
     rcases N.out with e|e
     .have e0:j=0:=by omega
      subst e0;exact ae (Mf.skip s.out A e)
     have e8:j=8:=by omega
     subst e8;exact s
    go_wp2;go_roundw
    case rel=>exact⟨k+1,l',by omega,by go_num,n,z,m,M⟩
    case measure=>simp[intOf];omega
  obtain rfl:k=8:=by omega
  obtain rfl:l=dE t:=Q.out.fin;have hf:(dE t).length=64:=by simp[dE]
  have d:Hid ((xO (dE t)).size=192):=ae (by rw[vD,hf]);have hr:(xO (dE t)).all (·.oneCell')=true:=by rw[<-mO,fA];intro u hu;exact Cv (dE t) u (by simpa[xO]using hu)
  clear Q hf
  go_wp2_with (first | (refine iA rfl 69 (.tmp 3) rfl (w.heap.size+2) 0 rfl (xO (dE t)).toList J.rd _ underlying69 rfl (by rw[jm,d.out];exact arr64_size) ?_) | (refine aA rfl _ (.tmp 2) (.tmp 28) rfl (w.heap.size+1) (xO (dE t)) rfl rfl _ _ y (by rw[d.out];rfl) (by rw[d.out];exact arr64_size) hr ?_))
  intro C hA g;have o:Below w.heap.size w C:=D.grown g D.size oG0;go_wp2;refine bodyPost_ret (v:=.agg (xO (dE t))) (fG results22 _ _ (w.heap.size+1) _ _ _ rfl hA underlying69 rfl (by rw[d.out];exact arr64_size)) rfl ?_;exact⟨rfl,o⟩
theorem sG.app{t:Tb}(h:sG w B cs t)(R:q<8){l:List En}(Q:cs[q]?=some v)(X:Own w' B 68 3 v' l.length (l.flatMap lY))(U:w.grownBy w' v.ownBlock)
 (O:v'.ownBlock=v.ownBlock\/∀g,v'.ownBlock=some g->w.heap.size<=g):sG w' B (cs.setIfInBounds q v') (t.set q l) where
 sz:=by simp[h.sz]
 own:=λk D=>by
  by_cases e:k=q
  .subst e;exact⟨v',by rw[sQ (by rw[h.sz];exact D)],by simpa using X⟩
  obtain⟨u,J,h2⟩:=h.own k D;refine⟨u,by rw[ib (λC=>e C.symm)];exact J,?_⟩;rw[yw R D (λC=>e C.symm)];refine h2.grown U λg G V => ?_;rcases wC e with A|A
  .exact h.apart k q u v A J Q g G V
  .exact h.apart q k v u A Q J g V G
 apart:=λj k x y f M I g b a=>by
  have K:∀j u,j≠q->cs[j]?=some u->v'.ownBlock=some g->u.ownBlock=some g->False:=by
   intro j u d N G c;have i:j<8:=by
    rcases gu j 8 with D|D
    .exact D
    .rw[mP (by rw[h.sz];exact D)]at N;cases N
   obtain⟨Z,J,h2⟩:=h.own j i;rw[N]at J;cases J;rcases O with O|O
   .rw[O]at G;rcases wC d with A|A
    .exact h.apart j q u v A N Q g c G
    .exact h.apart q j v u A Q N g G c
   have h3:=O g G;have h4:=Ob h2 g c;omega
  by_cases e:j=q
  .subst e;rw[sQ (by rw[h.sz];exact R)]at M;cases M;rw[ib (by omega)]at I;exact K k y (by omega) I b a
  rw[ib (λC=>e C.symm)]at M
  by_cases C:k=q
  .subst C;rw[sQ (by rw[h.sz];exact R)]at I;cases I;exact K j x e M a b
  rw[ib (λY=>C Y.symm)]at I;exact h.apart j k x y f M I g b a
theorem Sw{l:List En}(h:aG w b (xO l) T)(d:l[k]?=some E):eB w (some ⟨b,k*3,none⟩) (lY E):=by
 intro i u A;refine⟨b,k*3,rfl,?_⟩;rw[h.cell];have t:k<l.length:=(cz.1 d).1;have j:l[k]=E:=(cz.1 d).2;have:=flat_get lY 3 gz l k t i u (by rw[j];exact A);simpa[xO]using this
theorem Nn(l:List En)(w:World)(hl:l.length=64):Calls Tryz.prog 38 #[.agg (xO l)] w λr w' => ∃cs,r = .returned (.agg cs)/\sG w' w.heap.size cs (ig l)/\Below w.heap.size w w':=by
 have K:=ae hl;clear hl;go_enter func38,ntmps38;go_upto_region 2 with(fail);refine Nb (λW=>Code.wp _ _ _ _ W) λW0 kg hX hi kc ko => ?_;clear ko;have kj:sG W0 w.heap.size #[.slice none 0 0,.slice none 0 0,.slice none 0 0,.slice none 0 0,.slice none 0 0,.slice none 0 0,.slice none 0 0,.slice none 0 0] zTb:=Cr _ _;have hr:Hid (Hy l 0 [] zTb):=ae Hy.start;go_wp2
 go_loopw [8] (fun i wr => ∃(k:Nat) (ca:Array Value) (t:Tb),k<=8/\i = .int .i64 k/\Below w.heap.size w wr/\aG wr w.heap.size (xO l) 69/\aG wr (w.heap.size+1) #[.slice none 0 0,.slice none 0 0,.slice none 0 0,.slice none 0 0,.slice none 0 0,.slice none 0 0,.slice none 0 0,.slice none 0 0] 74/\aG wr (w.heap.size+2) ca 74/\sG wr w.heap.size ca t/\Hid (Hy l k [] t)) (fun i _=>8-(intOf i).toNat)
 case atStart=>exact⟨0,_,_,bq _,rfl,kg,hX,hi,kc,kj,hr⟩
 case round=>
  obtain⟨k,ca,t,hk,rfl,hp,hx,m,R,Q,hT⟩:=hrel;clear kg hX hi kc kj hr
  by_cases A:k<8
  .have kK:decide ((k:Int)<8)=true:=by simp;omega
   go_wp2
   go_loopw [6,5] (fun i s wr' => ∃(j:Nat),j<=8/\i = .int .i64 j/\s = .bool (ze l k j)/\wr' = wr) (fun i _ _=>8-(intOf i).toNat)
   case atStart=>exact⟨0,bq _,rfl,rfl,rfl⟩
   case round=>
    obtain⟨j,hj,rfl,rfl,rfl⟩:=hrel
    by_cases O:j<8
    .have kt:decide ((j:Int)<8)=true:=by simp;omega
     obtain⟨E,U,hP⟩:=Lt K.out A O;have ku:=(Sw hx U) 0 (.int .i64 E.k) rfl;obtain⟨_,_,e1,kv⟩:=ku;simp only[jA,ui,and_true]at e1;obtain⟨rfl,rfl⟩:=e1;rw[iP]at kv;have ke:(8:Int)*(k:Int)+(j:Int)<64:=by omega
     have h0:Hid (ze l k (j+1)=(ze l k j||decide (0<E.k))):=ae (by unfold ze;rw[hP,List.any_append];simp[Jl]);clear U hP;cases hs:ze l k j
     all_goals
      rw[hs] at h0;go_wp2;go_roundw
      case rel=>exact⟨j+1,by omega,by go_num,by rw[h0.out];first | rfl | (congr 1;rw[nC];simp),trivial⟩
      case measure=>simp[intOf];omega
    obtain rfl:j=8:=by omega
    rw[show((8:Nat):Int)=8 from rfl];cases hsome:ze l k 8
    .have p:=ae (Vq hsome);clear hsome;go_wp2
     go_loopw [7] (fun i wr'=>i = .int .i64 0/\wr' = wr) (fun _ _=>0)
     case atStart=>exact⟨rfl,rfl⟩
     case round=>
      obtain⟨rfl,rfl⟩:=hrel;have hH:Hid (Hy l (k+1) [] t):=ae (Hy.next (by rw[p.out];exact hT.out) A);go_wp2;go_roundw
      case rel=>exact⟨k+1,ca,t,by omega,by go_num,hp,hx,m,R,Q,hH⟩
      case measure=>simp[intOf];omega
    have p:=ae (RP hsome);clear hsome;have hr:Hid (Hy l k ((l.drop (8*k)).take 0) t):=hT;go_wp2
    go_loopw [7] (fun i wr' => ∃(j:Nat) (ca' : Array Value) (t' : Tb),j<=8/\i = .int .i64 j/\Below w.heap.size w wr'/\aG wr' w.heap.size (xO l) 69/\aG wr' (w.heap.size+1) #[.slice none 0 0,.slice none 0 0,.slice none 0 0,.slice none 0 0,.slice none 0 0,.slice none 0 0,.slice none 0 0,.slice none 0 0] 74/\aG wr' (w.heap.size+2) ca' 74/\sG wr' w.heap.size ca' t'/\Hid (Hy l k ((l.drop (8*k)).take j) t')) (fun i _=>8-(intOf i).toNat)
    case atStart=>exact⟨0,ca,t,bq _,rfl,hp,hx,m,R,Q,hr⟩
    case round=>
     obtain⟨j,ca',t',hj,rfl,hf,hy,n,hB,Z,hq⟩:=hrel;clear hp hx m R Q hT hr
     by_cases O:j<8
     .have kt:decide ((j:Int)<8)=true:=by simp;omega
      obtain⟨E,U,hP⟩:=Lt K.out A O;have h3:=Sw hy U;have ke:(8:Int)*(k:Int)+(j:Int)<64:=by omega
      have kr:¬(8:Int)*(k:Int)+(j:Int)<0:=by omega
      have ks:(k:Int)<8:=by omega
      have kd:IntKind.i64.wrap (8*(k:Int))=8*(k:Int):=bI _ (by omega);have kh:IntKind.i64.wrap (8*(k:Int)+(j:Int))=8*(k:Int)+(j:Int):=bI _ (by omega);have kq:(8*(k:Int)+(j:Int)).toNat=8*k+j:=by omega
      have kx:=ae hP;obtain⟨v,hv,ha⟩:=Z.own k A;have hY:=ae hv;have kJ:t'[k].length=j:=by rw[hq.out.at' A];exact Fx K.out A (by omega)
      obtain⟨xa,xc,rfl,kI,kH,km,kG⟩:=ha.rd;have HE:=ae U;clear U hP hv;go_upto_region 13 with(fail);refine FI 11 12 [(0,.int .i64 k)] [anyR,mZ (.int .i64 k),mZ (.pointer (some ⟨w.heap.size+2,k,none⟩)),mZ (.slice xa t'[k].length xc),mZ (.int .i64 k),mZ (.int .i64 (8*(k:Int))),mZ (.int .i64 j),mZ (.int .i64 (8*(k:Int)+(j:Int))),mZ (.pointer (some ⟨w.heap.size,(8*k+j)*3,none⟩)),mZ (.agg (jy E)),(YF 1 (lY E))] (by kernel_rfl) (by kernel_rfl) (by kernel_rfl) (by kernel_rfl) (by kernel_rfl) (by kernel_rfl) (by decide) (by decide) _ rfl (by kernel_rfl) (ah ?_ (ah ?_ (ah ?_ (ah ?_ (ah ?_ (ah ?_ (ah ?_ (ah ?_ (ah ?_ (ah ?_ (ah ?_ (aI)))))))))))) (aI) rfl ?_
      .refine QF rfl ?_;intro ρ y W C D hV;have E4:ρ (.tmp 4) = .int .i64 k:=(D (.tmp 4) rfl).trans rfl;exact⟨(aj rfl),(run_move (.inl rfl) E4)⟩
      .refine aQ rfl ?_;intro ρ y W C D J G;have E4:ρ (.tmp 4) = .int .i64 k:=(D (.tmp 4) rfl).trans rfl;refine ak (.int .i64 k) (aj rfl) (run_move (.inl rfl) E4) rfl
      .refine aQ rfl ?_;intro ρ y W C D J G;have E3:ρ (.tmp 3) = .pointer (some ⟨w.heap.size+2,0,none⟩):=(D (.tmp 3) rfl).trans rfl;have kF:=C 34 1 rfl;have h1:y 1=_:=G 1 rfl;refine ak (.pointer (some ⟨w.heap.size+2,k,none⟩)) (aj rfl) (by simp[execOp,go_sem,E3,kF,h1,underlying74,ks]) rfl
      .refine aQ rfl ?_;intro ρ y W C D J G;have kE:=C 35 2 rfl;have h2:y 2=_:=G 2 rfl;refine ak (.slice xa t'[k].length xc) (aj rfl) (by simp[execOp,go_sem,kE,h2,(((hB.ext J).cell k).trans hY.out),underlying72]) rfl
      .refine aQ rfl ?_;intro ρ y W C D J G;have E4:ρ (.tmp 4) = .int .i64 k:=(D (.tmp 4) rfl).trans rfl;refine ak (.int .i64 k) (aj rfl) (run_move (.inl rfl) E4) rfl
      .refine aQ rfl ?_;intro ρ y W C D J G;have kD:=C 37 4 rfl;have h4:y 4=_:=G 4 rfl;have EC:∀v,ρ (.const v)=v:=λv=>D (.const v) trivial;refine ak (.int .i64 (8*(k:Int))) (aj rfl) (by simp[execOp,go_sem,kD,h4,EC,kd]) rfl
      .refine aQ rfl ?_;intro ρ y W C D J G;have E7:ρ (.tmp 7) = .int .i64 j:=(D (.tmp 7) rfl).trans rfl;refine ak (.int .i64 j) (aj rfl) (run_move (.inl rfl) E7) rfl
      .refine aQ rfl ?_;intro ρ y W C D J G;have kC:=C 38 5 rfl;have h5:y 5=_:=G 5 rfl;have kB:=C 39 6 rfl;have h6:y 6=_:=G 6 rfl;refine ak (.int .i64 (8*(k:Int)+(j:Int))) (aj rfl) (by simp[execOp,go_sem,kC,h5,kB,h6,kh]) rfl
      .refine aQ rfl ?_;intro ρ y W C D J G;have E1:ρ (.tmp 1) = .pointer (some ⟨w.heap.size,0,none⟩):=(D (.tmp 1) rfl).trans rfl;have kA:=C 40 7 rfl;have h7:y 7=_:=G 7 rfl;refine ak (.pointer (some ⟨w.heap.size,(8*k+j)*3,none⟩)) (aj rfl) (by simp[execOp,go_sem,E1,kA,h7,underlying69,ke,kr,kq]) rfl
      .refine aQ rfl ?_;intro ρ y W C D J G;have kz:=C 41 8 rfl;have h8:y 8=_:=G 8 rfl;refine ak (.agg (jy E)) (aj rfl) (bH rfl (kz.trans h8) (vs:=lY E) (h3.below J) underlying68 rfl entry_size) rfl
      .refine aQ rfl ?_;intro ρ y W C D J G;have ky:=C 42 9 rfl;have h9:y 9=_:=G 9 rfl;refine jh (.slice (some ⟨W.heap.size,0,none⟩) 1 1) (aj rfl) (by simp[execOp,go_sem,ky,h9,jy]) ((Below.refl _ _).alloc (az _) (.cells (jy E) 68)) ?_;exact⟨_,_,rfl,az _,by unfold maxLen;omega,λe=>(by cases e),eB.new _ _ _⟩
      intro ρ y WA o R C D hV b a;cases R;have hU:y 0 = .int .i64 k:=hV 0 _ rfl;have hS:y 1=_:=a 1 (by decide);have hR:y 2=_:=a 2 (by decide);have hD:y 3=_:=a 3 (by decide);have hQ:y 4=_:=a 4 (by decide);have hN:y 5=_:=a 5 (by decide);have hM:y 6=_:=a 6 (by decide);have hL:y 7=_:=a 7 (by decide);have hK:y 8=_:=a 8 (by decide);have hJ:y 9=_:=a 9 (by decide);obtain⟨X,V,hg,N,ymx10,M,I⟩:=a 10 (by decide);have kl:=C 36 3 rfl;rw[hD]at kl;have kk:=C 43 10 rfl;rw[hg]at kk;have EC:∀v,ρ (.const v)=v:=λv=>D (.const v) trivial;have EF:=eF0 D λ_=>trivial;refine IR (aj rfl) (qB (.tmp 36) (.tmp 43) 72 rfl w.heap.size 68 _ 3 24 underlying72 entry_info rfl (by decide) _ _ _ kl (ha.below b) X 1 V (lY E) kk M N rfl I (BD E) (by unfold maxLen;omega) (by omega) (bi hf.size b.size)) ?_;rintro Y w4 ⟨h,g,hc⟩;clear a C D hV;simp only[lay,Nat.reduceAdd,Nat.reduceLT,Nat.reduceEqDiff,reduceIte,decide_true,decide_false,if_true,uU,if_false,Ak,qD,uf,yx,AA,xY,hU,hS,hR,hD,hQ,hN,hM,hL,hK,hJ,hg];clear hU hS hR hD hQ hN hM hL hK hJ hg;have q:=ag hf b;have d:=ha.below b;have hA:=lw (hB.ext b) d (by decide) g;have hW:=lw (hy.ext b) d (by decide) g;have hh:=lw (n.ext b) d (by decide) g;have z:=q.grown g q.size (λk hk=>d.ge k hk);have hm:Own w4 w.heap.size 68 3 Y (t'[k]++[E]).length ((t'[k]++[E]).flatMap lY):=by rw[jk,fI];simpa using h
      have ki:=(Z.below b).app A hY.out hm g hc;have kw:Hid (Hy l k ((l.drop (8*k)).take (j+1)) (t'.set k (t'[k]++[E]))):=ae (by
       have:=hq.out.set (h2:=(l.drop (8*k)).take (j+1)) A;have e:t'[k]++[E]=(l.drop (8*k)).take (j+1):=by rw[kx.out,hq.out.at' A]
       rw[e];exact this)
      have hZ:=Z.sz;have hG:∀u∈[Y],u.oneCell' = true:=by obtain⟨_,_,rfl,_⟩:=h.rd;intro u hu;cases bB.1 hu;rfl
      have kf:(Y.cells.toList:List Value)=[Y]:=by obtain⟨_,_,rfl,_⟩:=h.rd;rfl
      clear q d h hm hc g b hy n hB Z hq ha h3 hf I
      go_wp2_with (refine aB rfl _ (.tmp 45) (.tmp 44) rfl (w.heap.size+2) k _ [Y] rfl rfl kf _ _ hA (by rw[hZ];exact A) slent_size hG ?_)
      intro w5 kb c;rw[Pw.putAt_one] at kb;have hI:=ki.keep hA (by decide) c;have kn:=bY hW hA (by decide) c;have hF:aG w5 (w.heap.size+1) _ _:=hh.grown c (λe=>by have:=aM e;omega);have x:=z.grown c z.size oG0;clear hA hW hh z ki c;go_wp2;go_roundw
      case rel=>exact⟨j+1,_,_,by omega,by go_num,x,kn,hF,kb,hI,kw⟩
      case measure=>simp[intOf];omega
     obtain rfl:j=8:=by omega
     have hH:Hid (Hy l (k+1) [] t'):=ae (Hy.next (by rw[p.out];exact hq.out) A);go_wp2;go_roundw
     case rel=>exact⟨k+1,ca',t',by omega,by go_num,hf,hy,n,hB,Z,hH⟩
     case measure=>simp[intOf];omega
  obtain rfl:k=8:=by omega
  have hC:=hT.out.fin;have ka:=Q.rd.one;have hz:=Q.sz;rw[hC]at Q;clear hC
  go_wp2_with (first | (refine iA rfl 74 (.tmp 3) rfl (w.heap.size+2) 0 rfl ca.toList R.rd _ underlying74 tab_agg (by rw[jm,hz];exact tab_size) ?_) | (refine aA rfl _ (.tmp 2) (.tmp 47) rfl (w.heap.size+1) ca rfl rfl _ _ m (by rw[hz];rfl) (by rw[hz];exact tab_size) ka ?_))
  intro w5 kp c;have hI:=Q.keep m (by decide) c;have x:Below w.heap.size w w5:=hp.grown c hp.size oG0;go_wp2;refine bodyPost_ret (v:=.agg ca) (fG results38 _ _ (w.heap.size+1) _ _ _ rfl kp underlying74 rfl (by rw[hz];exact tab_size)) rfl ?_;exact⟨_,rfl,hI,x⟩
theorem IW(t e:TypeId)(z:Value)(j d:Nat)(D:P.underlying t=some (.slice e))(h2:(P.info? e).map (λi=>(i.zero,i.size,i.bytes))=some (some z,j,d))(u A:IntKind)(n:Nat)(M:d*n<=281474976710656)(K:n<=9223372036854775807)(w:World) :
  (Instr.makeSlice t (.int u (n:Int)) (.int A (n:Int))).run P w = .ok (.slice (some ⟨w.heap.size,0,none⟩) n n) (w.alloc (.cells (madeCells z.cells (n*j)) e)):=by
 obtain⟨i,I,a,G,J⟩:=info_parts h2;have b : (i.bytes:Int)*(n:Int)<=281474976710656:=by
  have h:((i.bytes*n:Nat):Int)<=281474976710656:=by rw[J];omega
  rwa [Int.natCast_mul]at h
 have C:=run_make (P:=P) w t e i z D I a u A n n (by omega) (ul _) b (by omega);simp only[bu,G]at C;exact C
theorem DF{α:Type}{n:Nat}(enc:α->List Value)(x:α)(d:∀x,(enc x).length=sz)(t:0<sz)(h:z.toList=enc x)(A:n<=maxLen)(G:B<=g)(C:aG w g (madeCells z (n*sz)) e) :
  Own w B e sz (.slice (some ⟨g,0,none⟩) n n) n ((List.replicate n x).flatMap enc):=
 ⟨by rw[Pw.flat_len enc sz d,kL],.inr ⟨g,0,n,_,rfl,G,C,az _,A,by simp[size_madeCells],λj u D=>by rw[ed,<-uZ,GM enc sz d t z x h n];exact D⟩⟩
theorem VH{n:Nat}(h:aG w g (madeCells z (n*8)) e)(h' : aG w g' (madeCells z (n' * 8)) e')(d:Value.slice (some ⟨g,0,none⟩) n n ≠ .slice (some ⟨g',0,none⟩) n' n'):g≠g':=by
 intro u;subst u;have h2:some (Obj.cells (madeCells z (n*8)) e (0,0))=some (Obj.cells (madeCells z (n' * 8)) e' (0,0)):=h.symm.trans h';have t:madeCells z (n*8)=madeCells z (n' * 8):=by injection h2 with h2;injection h2
 have j:=congrArg Array.size t;rw[size_madeCells,size_madeCells]at j;obtain rfl:n=n':=by omega
 exact d rfl
structure JM (W0:World) (B f s ct:Nat) (zf zs zp:Array Value) (L:Nat->Bool) (y:Nat->Value) (W:World):Prop where
 be:Below W0.heap.size W0 W
 k2:L 2=true->∃g,y 2 = .slice (some ⟨g,0,none⟩) f f/\B<=g/\aG W g (madeCells zf (f*13)) 66
 k5:L 5=true->∃g,y 5 = .slice (some ⟨g,0,none⟩) s s/\B<=g/\aG W g (madeCells zs (s*1)) 3
 k7:L 7=true->∃g,y 7 = .slice (some ⟨g,0,none⟩) s s/\B<=g/\aG W g (madeCells zp (s*8)) 58
 k10:L 10=true->∃g,y 10 = .slice (some ⟨g,0,none⟩) ct ct/\B<=g/\aG W g (madeCells zp (ct*8)) 58
 ne:L 7=true->L 10=true->y 7≠y 10
 k3:L 3=true->L 2=true/\y 3 = .agg #[y 2,.int .i64 0]
 k8:L 8=true->L 7=true/\y 8 = .agg #[y 7,.slice none 0 0]
 k11:L 11=true->L 10=true/\y 11 = .agg #[y 10,.slice none 0 0]
 k14:L 14=true->(L 3=true/\L 5=true/\L 8=true/\L 11=true)/\y 14 = .agg #[y 2,.int .i64 0,y 5,y 7,.slice none 0 0,y 10,.slice none 0 0,.slice none 0 0,.int .i64 ct,.slice none 0 0,.slice none 0 0]
theorem um :∀L y W W',Below W.heap.size W W'->JM W0 B f s ct zf zs zp L y W->JM W0 B f s ct zf zs zp L y W':=λ_ _ _ _ d h=>
 ⟨ag h.be d,λe=>by obtain⟨g,a,b,c⟩:=h.k2 e;exact⟨g,a,b,c.ext d⟩,λe=>by obtain⟨g,a,b,c⟩:=h.k5 e;exact⟨g,a,b,c.ext d⟩,λe=>by obtain⟨g,a,b,c⟩:=h.k7 e;exact⟨g,a,b,c.ext d⟩,λe=>by obtain⟨g,a,b,c⟩:=h.k10 e;exact⟨g,a,b,c.ext d⟩,h.ne,h.k3,h.k8,h.k11,h.k14⟩
theorem Yl(y:Nat->Value):JM W0 B f s ct zf zs zp (λ_=>false) y W0:=
 ⟨Below.refl _ _,λe=>(by cases e),λe=>(by cases e),λe=>(by cases e),λe=>(by cases e),λe=>(by cases e),λe=>(by cases e),λe=>(by cases e),λe=>(by cases e),λe=>(by cases e)⟩
theorem AJ(J:i≠2/\i≠5/\i≠7/\i≠10/\i≠3/\i≠8/\i≠11/\i≠14)(h:JM W0 B f s ct zf zs zp L y W):JM W0 B f s ct zf zs zp (dQ L i) (fE y i v) W:=by
 have e:∀k,k≠i->dQ L i k=L k/\fE y i v k=y k:=λk I=>⟨by unfold dQ;rw[if_neg I],by unfold fE;rw[if_neg I]⟩;have u:=e 2 (by omega);have C:=e 5 (by omega);have j:=e 7 (by omega);have d:=e 10 (by omega);have G:=e 3 (by omega);have D:=e 8 (by omega);have t:=e 11 (by omega);have A:=e 14 (by omega);refine⟨h.be,?_,?_,?_,?_,?_,?_,?_,?_,?_⟩
 .rw[u.1,u.2];exact h.k2
 .rw[C.1,C.2];exact h.k5
 .rw[j.1,j.2];exact h.k7
 .rw[d.1,d.2];exact h.k10
 .rw[j.1,j.2,d.1,d.2];exact h.ne
 .rw[G.1,G.2,u.1,u.2];exact h.k3
 .rw[D.1,D.2,j.1,j.2];exact h.k8
 .rw[t.1,t.2,d.1,d.2];exact h.k11
 .rw[A.1,A.2,G.1,C.1,D.1,t.1,u.2,C.2,j.2,d.2];exact h.k14
theorem pM{p:Prop}(h:L i=false)(h' : L i=true):p:=by rw[h]at h'; cases h'
theorem YA(d:L 2=false)(t:B<=W0.heap.size)(j:JM W0 B f s ct zf zs zp L y W):JM W0 B f s ct zf zs zp (dQ L 2) (fE y 2 (.slice (some ⟨W.heap.size,0,none⟩) f f)) (W.alloc (.cells (madeCells zf (f*13)) 66)):=by
 have h:=um _ _ _ _ ((Below.refl W.heap.size W).alloc (az _) (.cells (madeCells zf (f*13)) 66)) j;exact⟨h.be,λ_=>⟨_,rfl,bi t j.be.size,aG.new _ _ _⟩,h.k5,h.k7,h.k10,h.ne,λe=>pM d (h.k3 e).1,h.k8,h.k11,λe=>pM d (h.k3 (h.k14 e).1.1).1⟩
theorem Yh(j:L 5=false)(t:B<=W0.heap.size)(d:JM W0 B f s ct zf zs zp L y W):JM W0 B f s ct zf zs zp (dQ L 5) (fE y 5 (.slice (some ⟨W.heap.size,0,none⟩) s s)) (W.alloc (.cells (madeCells zs (s*1)) 3)):=by
 have h:=um _ _ _ _ ((Below.refl W.heap.size W).alloc (az _) (.cells (madeCells zs (s*1)) 3)) d;exact⟨h.be,h.k2,λ_=>⟨_,rfl,bi t d.be.size,aG.new _ _ _⟩,h.k7,h.k10,h.ne,h.k3,h.k8,h.k11,λe=>pM j (h.k14 e).1.2.1⟩
theorem Yp(j:L 7=false)(t:B<=W0.heap.size)(d:JM W0 B f s ct zf zs zp L y W):JM W0 B f s ct zf zs zp (dQ L 7) (fE y 7 (.slice (some ⟨W.heap.size,0,none⟩) s s)) (W.alloc (.cells (madeCells zp (s*8)) 58)):=by
 have h:=um _ _ _ _ ((Below.refl W.heap.size W).alloc (az _) (.cells (madeCells zp (s*8)) 58)) d;refine⟨h.be,h.k2,h.k5,λ_=>⟨_,rfl,bi t d.be.size,aG.new _ _ _⟩,h.k10,λ_ e => ?_,h.k3,λe=>pM j (h.k8 e).1,h.k11,λe=>pM j (h.k8 (h.k14 e).1.2.2.1).1⟩;obtain⟨g,C,_,A⟩:=d.k10 e;show Value.slice _ s s≠y 10;rw[C];intro u;simp only[mK,jA,ui]at u;have:=A.lt;omega
theorem XN(j:L 10=false)(t:B<=W0.heap.size)(d:JM W0 B f s ct zf zs zp L y W):JM W0 B f s ct zf zs zp (dQ L 10) (fE y 10 (.slice (some ⟨W.heap.size,0,none⟩) ct ct)) (W.alloc (.cells (madeCells zp (ct*8)) 58)):=by
 have h:=um _ _ _ _ ((Below.refl W.heap.size W).alloc (az _) (.cells (madeCells zp (ct*8)) 58)) d;refine⟨h.be,h.k2,h.k5,h.k7,λ_=>⟨_,rfl,bi t d.be.size,aG.new _ _ _⟩,λe _ => ?_,h.k3,h.k8,λe=>pM j (h.k11 e).1,λe=>pM j (h.k11 (h.k14 e).1.2.2.2).1⟩;obtain⟨g,C,_,A⟩:=d.k7 e;show y 7≠Value.slice _ ct ct;rw[C];intro u;simp only[mK,jA,ui]at u;have:=A.lt;omega
theorem Yq(d:L 3=false)(j:L 2=true)(h:JM W0 B f s ct zf zs zp L y W):JM W0 B f s ct zf zs zp (dQ L 3) (fE y 3 (.agg #[y 2,.int .i64 0])) W:=
 ⟨h.be,h.k2,h.k5,h.k7,h.k10,h.ne,λ_=>⟨j,rfl⟩,h.k8,h.k11,λe=>pM d (h.k14 e).1.1⟩
theorem Yz(d:L 8=false)(j:L 7=true)(h:JM W0 B f s ct zf zs zp L y W):JM W0 B f s ct zf zs zp (dQ L 8) (fE y 8 (.agg #[y 7,.slice none 0 0])) W:=
 ⟨h.be,h.k2,h.k5,h.k7,h.k10,h.ne,h.k3,λ_=>⟨j,rfl⟩,h.k11,λe=>pM d (h.k14 e).1.2.2.1⟩
theorem XE(d:L 11=false)(j:L 10=true)(h:JM W0 B f s ct zf zs zp L y W):JM W0 B f s ct zf zs zp (dQ L 11) (fE y 11 (.agg #[y 10,.slice none 0 0])) W:=
 ⟨h.be,h.k2,h.k5,h.k7,h.k10,h.ne,h.k3,h.k8,λ_=>⟨j,rfl⟩,λe=>pM d (h.k14 e).1.2.2.2⟩
theorem XQ(u:L 3=true)(t:L 5=true)(j:L 8=true)(d:L 11=true)(h:JM W0 B f s ct zf zs zp L y W) :
  JM W0 B f s ct zf zs zp (dQ L 14) (fE y 14 (.agg #[y 2,.int .i64 0,y 5,y 7,.slice none 0 0,y 10,.slice none 0 0,.slice none 0 0,.int .i64 ct,.slice none 0 0,.slice none 0 0])) W:=
 ⟨h.be,h.k2,h.k5,h.k7,h.k10,h.ne,h.k3,h.k8,h.k11,λ_=>⟨⟨u,t,j,d⟩,rfl⟩⟩
def UT(gf gs gw gd f s ct:Nat):MH:=⟨some ⟨gf,0,none⟩,f,⟨List.replicate f fr0,0⟩,some ⟨gs,0,none⟩,s,List.replicate s 0,some ⟨gw,0,none⟩,s,none,0,⟨List.replicate s zPg,[]⟩,some ⟨gd,0,none⟩,ct,none,0,⟨List.replicate ct zPg,[]⟩,none,0,[],ct,none,0,[],none,0,[]⟩
theorem UV{l:List UInt8}(K:ve w al cl l.length (l.map CY))(O:∀a,al=some a->l.map CY≠[]->a.block<B)(Q:B<=b)(M:aG w b (jI ⟨al,cl,l,UT gf gs gw gd f s ct,none,0,[]⟩) 98)
 (hf:f<=40) (hs:s<=60) (hc:ct<=80) (b1:B<=gf) (b2:B<=gs) (Z:B<=gw) (Y:B<=gd) (h:gw≠gd) (U:zf.toList=pR fr0) (R:zs.toList=[gB 0]) (j:zp.toList=Dy zPg)
 (k1:aG w gf (madeCells zf (f*13)) 66) (I:aG w gs (madeCells zs (s*1)) 3) (G:aG w gw (madeCells zp (s*8)) 58) (D:aG w gd (madeCells zp (ct*8)) 58):fD w B b ⟨al,cl,l,UT gf gs gw gd f s ct,none,0,[]⟩:=by
 have m:maxLen=maxLen:=rfl;have C:=DF pR fr0 (n:=f) fQ (by decide) U (by unfold maxLen;omega) b1 k1;have A:=DF (λx=>[gB x]) (0:Int) (n:=s) (λ_=>rfl) (by decide) R (by unfold maxLen;omega) b2 I;have u:=DF Dy zPg (n:=s) nM (by decide) j (by unfold maxLen;omega) Z G;have t:=DF Dy zPg (n:=ct) nM (by decide) j (by unfold maxLen;omega) Y D;refine⟨M,Q,⟨?_,?_,⟨?_,Own.nil _ _ _ _⟩,⟨?_,Own.nil _ _ _ _⟩,rz.nil _ _,Own.nil _ _ _ _,Own.nil _ _ _ _,λp d=>(by cases d),by show(-9223372036854775808:Int)<=(ct:Int)/\(ct:Int)<=9223372036854775807;omega⟩,Own.nil _ _ _ _,K,O,?_,λp d=>(by cases d),rfl⟩
 .show Own w B _ 13 (.slice (some ⟨gf,0,none⟩) (List.replicate f fr0).length f) (List.replicate f fr0).length _;rw[kL];exact C
 .show Own w B _ 1 (.slice (some ⟨gs,0,none⟩) (List.replicate s (0:Int)).length s) (List.replicate s (0:Int)).length ((List.replicate s (0:Int)).map gB);rw[kL,<-kv];exact A
 .show Own w B _ 8 (.slice (some ⟨gw,0,none⟩) (List.replicate s zPg).length s) (List.replicate s zPg).length _;rw[kL];exact u
 .show Own w B _ 8 (.slice (some ⟨gd,0,none⟩) (List.replicate ct zPg).length ct) (List.replicate ct zPg).length _;rw[kL];exact t
 intro x J N;have X:gw=x:=by simpa[UT,oB,Value.ownBlock]using J
 have V:gd=x:=by simpa[UT,oB,Value.ownBlock]using N
 exact h (X.trans V.symm)
def BB(f q:Nat):List Fr:=List.replicate q frZ++List.replicate (f-q) fr0
theorem Jr(h:q<=f):(BB f q).length=f:=by unfold BB;simp;omega
theorem Ve(h:q<f)(d:q<(BB f q).length):(BB f q)[q]=fr0:=by
 have:(BB f q)[q]?=some fr0:=by unfold BB;rw[jU (by simp),kL,qx,qa,if_pos (by omega)]
 rw[aF d]at this;exact aM this
theorem Wl(h:q<f):(BB f q).set q frZ=BB f (q+1):=by
 unfold BB;rw[List.set_append,if_neg (by simp),kL,qx];obtain⟨d,j⟩:∃d,f-q=d+1:=⟨f-q-1,by omega⟩;rw[j,show f-(q+1)=d by omega,List.replicate_succ,qD,List.replicate_succ',jN];rfl
theorem Vf(f:Nat):BB f f=List.replicate f frZ:=by unfold BB;simp
theorem Vb{o:Nat}(d:o+13<=cur.size)(C:∀j u,(pR fr0)[j]?=some u->cur[o+j]?=some u):bJ cur (o+11) [.int .i64 (-1)]=bJ cur o (pR frZ):=
 Hf (xs:=pR fr0) rfl d C (by decide) (λi t=>by
  obtain rfl:i=0:=by simpa using t
  rfl) (λi t=>by
  by_cases A:i<13
  .match i,A,t with
   | 0,_,_=>rfl
   | 1,_,_=>rfl
   | 2,_,_=>rfl
   | 3,_,_=>rfl
   | 4,_,_=>rfl
   | 5,_,_=>rfl
   | 6,_,_=>rfl
   | 7,_,_=>rfl
   | 8,_,_=>rfl
   | 9,_,_=>rfl
   | 10,_,_=>rfl
   | 11,_,h=>exact absurd h (by simp)
   | 12,_,_=>rfl
  .rw[eY (by rw[fQ];omega),eY (by rw[fQ];omega)])
structure Jq (f s ct:Nat) (as0:Option Addr) (fi0:List PF) (bl:List Page) (q:List (Int × Page)) (S:MW):Prop where
 m:S.H.m=⟨List.replicate f frZ,0⟩
 asl:S.H.asl=as0
 sl:S.H.sl=List.replicate s 0
 sw:S.H.sw=⟨List.replicate s zPg,[]⟩
 dk:S.H.dk=⟨bl,q⟩
 fi:S.H.fi=fi0
 ct:S.H.ct=ct
 ca:S.H.ca=[]
 sp:S.H.sp=[]
 T:S.T=[]
theorem Jq.ma{q:List (Int × Page)}(h:Jq f s ct as0 fi0 bl q S):S.H.ma=Cn f s ct bl q (fi0.map PF.fi):=by
 unfold MH.ma Cn cK;rw[h.m,h.sl,h.sw,h.dk,h.fi,h.ct,h.ca,h.sp];rfl
theorem Jq.lst{q:List (Int × Page)}(h:Jq f s ct as0 fi0 bl q S)(a:Option Addr)(c:Nat)(l:List UInt8):Jq f s ct as0 fi0 bl q (S.lst a c l):=⟨h.m,h.asl,h.sl,h.sw,h.dk,h.fi,h.ct,h.ca,h.sp,h.T⟩
theorem fD.kb_int(h:fD w B b S){x:Nat}(t:aG w x cs 3)(j:oB S.H.asl≠some x):¬nL b S x:=by
 have own:∀ {e:TypeId} {sz n c:Nat} {a:Option Addr} {xs:List Value},3≠e->Own w B e sz (.slice a n c) n xs->oB a=some x->False:=λu A j=>by obtain⟨_,C,h2⟩:=je A j;exact mD t h2 u rfl
 intro d;rcases d with d | d
 .subst d; exact mD t h.blk (by decide) rfl
 simp only[iW,dx,gW,or_false]at d;rcases d with d | d | d | d | d | d | d | d | d
 .exact own (by decide) h.ma.fr d.symm
 .exact j d.symm
 .exact own (by decide) h.ma.sw.b d.symm
 .exact own (by decide) h.ma.dk.b d.symm
 .exact own (by decide) h.ma.dk.q d.symm
 .exact own (by decide) h.ma.st.own d.symm
 .exact own (by decide) h.ma.ca d.symm
 .exact own (by decide) h.ma.sp d.symm
 .exact own (by decide) h.tt d.symm
theorem fD.locI(h:fD w B b S)(G:aG w g cs 3)(D:¬nL b S g)(C:∀p∈S.H.fi,oB p.a≠some g)(A:B<=g)(j:w.grownBy w' (some g)):fD w' B b S:=by
 have d:∀ {a:Option Addr},oB a∈iW S->∀n c g',(Value.slice a n c).ownBlock=some g'->some g≠some g':=λI n c g' t e=>by cases e;rw[jF]at t;exact D (.inr (by rw[<-t];exact I))
 exact⟨h.blk.grown j (λe=>D (.inl (aM e))),h.ge,⟨h.ma.fr.grown j (d (by simp[iW]) _ _),h.ma.sl.grown j (d (by simp[iW]) _ _),⟨h.ma.sw.b.grown j (d (by simp[iW]) _ _),h.ma.sw.q.grown j (λg' t=>by rw[h.n3]at t;cases t)⟩,⟨h.ma.dk.b.grown j (d (by simp[iW]) _ _),h.ma.dk.q.grown j (d (by simp[iW]) _ _)⟩,
  ⟨h.ma.st.own.grown j (d (by simp[iW]) _ _),λi p u=>(h.ma.st.each i p u).grown j (λg' t e=>by cases e;unfold nQ at t;rw[jF]at t;exact C p (bS u) t),h.ma.st.apart⟩,h.ma.ca.grown j (d (by simp[iW]) _ _),h.ma.sp.grown j (d (by simp[iW]) _ _),λp u=>⟨ax (h.ma.ps p u).1 G (by decide) j,(h.ma.ps p u).2.keep G (by decide) j⟩,h.ma.c64⟩,
  h.tt.grown j (d (by simp[iW]) _ _),h.rd.keep h.ra h.bs j A,h.ra,h.n1,h.n2,h.n3⟩
theorem fD.setTb(h:fD w B b S){P:PS}(C:S.H.sp[p]?=some P) :
  ∃g off cur,S.H.ap=some ⟨g,off,none⟩/\B<=g/\aG w g cur 76/\off+p*10+2+8<=cur.size /\
   ∀(w' : World) (v:Vector Value 8) (t:Tb),sG w B (nT v) t->aG w' g (bJ cur (off+p*10+2) (nT v).toList) 76->w.grownBy w' (some g)->fD w' B b { S with H:={ S.H with sp:=S.H.sp.set p { P with ts:=v,tb:=t } } }:=by
 have G:=(cz.1 C).1;have l:=(cz.1 C).2;obtain⟨g,off,Q,cur,D,J,a,m,f⟩:=oO oV (by decide) rfl h.ma.sp p G;simp only[mK]at D;obtain⟨k,_,n⟩:=D;have e:=h.ma.sp;rw[k]at e;have d:=BM e a;have i:∀j u,(tQ P)[j]?=some u->cur[off+p*10+j]?=some u:=λj u M=>by rw[nV];exact d _ _ (flat_get tQ 10 oV S.H.sp p G j u (by rw[l];exact M))
 refine⟨g,off,cur,k,J,a,by omega,λw' v t K I N => ?_⟩;have O:bJ cur (off+p*10) (tQ { P with ts:=v,tb:=t })=bJ cur (off+p*10+2) (nT v).toList:=by show bJ cur (off+p*10) (.bool P.lv :: .slice P.aa P.ar.length P.ac::(nT v).toList)=_;rw[vM _ (by simpa using i 0 _ rfl),vM _ (i 1 _ rfl)]
 rw[<-O]at I;have c:(S.H.sp.set p { P with ts:=v,tb:=t }).length=S.H.sp.length:=bL;refine h.putP a J N c (by rw[c];exact f w' _ I) λq A => ?_;rcases lU A with A|rfl
 .exact h.ma.ps q A
 .exact⟨(h.ma.ps P (bS C)).1,K⟩
def EQ(S:MW)(B b:Nat)(w:World)(ks:List (Nat × Array Value × TypeId))(p q:Nat)(e:TypeId)(sz n:Nat)(v0:Value)(old xs:List Value):(Nat->Bool)->(Nat->Value)->World->Prop:=λL y W=>
 (aG W b (jI S) 98/\∀t∈ks,aG W t.1 t.2.1 t.2.2)/\(L p=false->fD W B b S/\MS w b S W S)/\(L q=true->L p=false->∃a c,y q = .slice a 1 c/\ve W a c 1 xs) /\
 (L p=true->∃w1,fD w1 B b S/\MS w b S w1 S/\w1.grownBy W v0.ownBlock/\Own W B e sz (y p) (n+1) (old++xs)/\oz w1 v0 (y p))
theorem fK{ks:List (Nat × Array Value × TypeId)}{n:Nat} :∀L y W W',Below W.heap.size W W'->EQ S B b w ks p q e sz n v0 old xs L y W->EQ S B b w ks p q e sz n v0 old xs L y W':=
 λ_ _ _ _ hb ⟨h1,h2,h3,h4⟩=>⟨⟨h1.1.ext hb,λt A=>(h1.2 t A).ext hb⟩,λe=>⟨(h2 e).1.below hb,(h2 e).2.below hb⟩,λD C=>by
  obtain⟨a,e,k1,d⟩:=h3 D C;exact⟨a,e,k1,d.below hb⟩,λe=>by
  obtain⟨w1,k1,d,u,j,h⟩:=h4 e;exact⟨w1,k1,d,Kh u hb,j.below hb,h⟩⟩
theorem gI{ks:List (Nat × Array Value × TypeId)}{n:Nat}(j:i≠q/\i≠p)(h:EQ S B b w ks p q e sz n v0 old xs L y W):EQ S B b w ks p q e sz n v0 old xs (dQ L i) (fE y i v) W:=by
 obtain⟨G,h2,D,C⟩:=h;have A:dQ L i q=L q:=by unfold dQ;rw[if_neg (λe=>j.1 e.symm)]
 have d:dQ L i p=L p:=by unfold dQ;rw[if_neg (λe=>j.2 e.symm)]
 have u:fE y i v q=y q:=by unfold fE;rw[if_neg (λe=>j.1 e.symm)]
 have t:fE y i v p=y p:=by unfold fE;rw[if_neg (λe=>j.2 e.symm)]
 exact⟨G,by rw[d];exact h2,by rw[A,d,u];exact D,by rw[d,t];exact C⟩
theorem Uz{ks:List (Nat × Array Value × TypeId)}{n:Nat}(d:p≠q)(A:Below W.heap.size W W')(h:EQ S B b w ks p q e sz n v0 old xs L y W)(u:ve W' a c 1 xs) :
  EQ S B b w ks p q e sz n v0 old xs (dQ L q) (fE y q (.slice a 1 c)) W':=by
 obtain⟨D,h2,G,C⟩:=fK _ _ _ _ A h;have j:dQ L q p=L p:=by unfold dQ;rw[if_neg d]
 have t:fE y q (.slice a 1 c) p=y p:=by unfold fE;rw[if_neg d]
 exact⟨D,by rw[j];exact h2,λ_ _=>⟨a,c,by unfold fE;rw[if_pos rfl],u⟩,by rw[j,t];exact C⟩
theorem Tg{ks:List (Nat × Array Value × TypeId)}{n:Nat}(A:L p=false)(h:EQ S B b w ks p q e sz n v0 old xs L y W)(j:W.grownBy W' v0.ownBlock)
 (d:∀g,v0.ownBlock=some g->g≠b/\∀t∈ks,t.1≠g) (G:Own W' B e sz v (n+1) (old++xs)) (D:oz W v0 v):EQ S B b w ks p q e sz n v0 old xs (dQ L p) (fE y p v) W':=by
 obtain⟨C,h2,J,I⟩:=h;refine⟨⟨C.1.grown j (λe=>(d b e).1 rfl),λt u=>(C.2 t u).grown j (λe=>(d _ e).2 t u rfl)⟩,λe => ?_,λ_ e => ?_,λ_=>⟨W,(h2 A).1,(h2 A).2,j,by unfold fE;rw[if_pos rfl];exact G,by unfold fE;rw[if_pos rfl];exact D⟩⟩<;>· unfold dQ at e;rw[if_pos rfl]at e;cases e
theorem Uo{ks:List (Nat × Array Value × TypeId)}{n:Nat}(h:fD w B b S)(d:∀t∈ks,aG w t.1 t.2.1 t.2.2)(y:Nat->Value):EQ S B b w ks p q e sz n v0 old xs (λ_=>false) y w:=
 ⟨⟨h.blk,d⟩,λ_=>⟨h,MS.refl _ _ _⟩,λe=>(by cases e),λe=>(by cases e)⟩
def Gs(S:MW)(B b:Nat)(w:World)(gf:Nat)(F:PF):(Nat->Bool)->(Nat->Value)->World->Prop:=λL y W=>
 (∃a c l,fD W B b (S.lst a c l)/\MS w b S W (S.lst a c l))/\aG W gf (qF F) 101/\Own W B 3 1 (nQ F) F.l.length (F.l.map gB) /\
 (L 4=true->L 11=false->∃g,y 4 = .slice (some ⟨g,0,none⟩) 0 0/\Own W w.heap.size 101 2 (.slice (some ⟨g,0,none⟩) 0 0) 0 []) /\
 (L 11=true->L 14=false->Own W w.heap.size 101 2 (y 11) S.H.fi.length (S.H.fi.flatMap rH)) /\
 (L 13=true->L 14=false->Own W w.heap.size 101 2 (y 13) 1 (rH F)) /\
 (L 14=true->Own W w.heap.size 101 2 (y 14) (S.H.fi.length+1) (S.H.fi.flatMap rH++rH F))/\w.heap.size<=W.heap.size/\(L 15=true->L 14=true/\y 15 = .agg #[y 14,.int .i64 0])
theorem eH :∀L y W W',Below W.heap.size W W'->Gs S B b w gf F L y W->Gs S B b w gf F L y W':=
 λ_ _ _ _ hb ⟨⟨a,c,l,h1,h2⟩,h3,h4,h5,h6,h7,h8,h9,h10⟩=>⟨⟨a,c,l,h1.below hb,h2.below hb⟩,h3.ext hb,h4.below hb,λd h=>by obtain⟨g,k1,j⟩:=h5 d h;exact⟨g,k1,j.below hb⟩,λd h=>(h6 d h).below hb,λd h=>(h7 d h).below hb,λd=>(h8 d).below hb,bi h9 hb.size,h10⟩
theorem Wq(h:fD w B b S)(j:aG w gf (qF F) 101)(d:Own w B 3 1 (nQ F) F.l.length (F.l.map gB))(y:Nat->Value):Gs S B b w gf F (λ_=>false) y w:=
 ⟨⟨S.al,S.cl,S.l,h,MS.refl _ _ _⟩,j,d,λe=>(by cases e),λe=>(by cases e),λe=>(by cases e),λe=>(by cases e),az _,λe=>(by cases e)⟩
theorem fJ(D:i≠4/\i≠11/\i≠13/\i≠14/\i≠15)(h:Gs S B b w gf F L y W):Gs S B b w gf F (dQ L i) (fE y i v) W:=by
 have e:∀k,k=4\/k=11\/k=13\/k=14\/k=15->dQ L i k=L k/\fE y i v k=y k:=λk C=>⟨by unfold dQ;rw[if_neg (by omega)],by unfold fE;rw[if_neg (by omega)]⟩;have A:=e 4 (by decide);have u:=e 11 (by decide);have t:=e 13 (by decide);have j:=e 14 (by decide);have d:=e 15 (by decide);unfold Gs;rw[A.1,A.2,u.1,u.2,t.1,t.2,j.1,j.2,d.1,d.2];exact h
theorem XX(h:Gs S B b w gf F L y W):Gs S B b w gf F (dQ L 4) (fE y 4 (.slice (some ⟨W.heap.size,0,none⟩) 0 0)) (W.alloc (.cells #[] 101)):=by
 obtain⟨D,C,A,G,u,t,j,d,a⟩:=eH _ _ _ _ ((Below.refl _ _).alloc (az _) (.cells #[] 101)) h;exact⟨D,C,A,λ_ _=>⟨_,rfl,Own.empty _ _ h.2.2.2.2.2.2.2.1⟩,u,t,j,d,a⟩
theorem WW(h:Gs S B b w gf F L y W)(j:Below W.heap.size W W')(d:Own W' w.heap.size 101 2 v S.H.fi.length (S.H.fi.flatMap rH)):Gs S B b w gf F (dQ L 11) (fE y 11 v) W':=by
 obtain⟨G,D,C,J,I,A,u,t,a⟩:=eH _ _ _ _ j h;exact⟨G,D,C,λ_ e=>(by cases e),λ_ _=>d,A,u,t,a⟩
theorem WS(h:Gs S B b w gf F L y W)(j:Below W.heap.size W W')(d:Own W' w.heap.size 101 2 v 1 (rH F)):Gs S B b w gf F (dQ L 13) (fE y 13 v) W':=by
 obtain⟨I,G,D,C,A,J,u,t,a⟩:=eH _ _ _ _ j h;exact⟨I,G,D,C,A,λ_ _=>d,u,t,a⟩
theorem OV(h:fD w B b S){l:List UInt8}{x:Nat}(d:w.heap.size<=x):¬nL b (S.lst a c l) x:=λj=>h.new d j
theorem Xw(I:fD w B b S)(K:gf<w.heap.size)(h:Gs S B b w gf F L y W)(C:L 11=true)(A:L 14=false)(t:W.grownBy W' (y 11).ownBlock)(J:Own W' w.heap.size 101 2 v (S.H.fi.length+1) (S.H.fi.flatMap rH++rH F)) :
  Gs S B b w gf F (dQ L 14) (fE y 14 v) W':=by
 obtain⟨⟨a,c,l,G,h2⟩,O,D,U,N,R,Q,M,i⟩:=h;have u:=N C A;have d:∀k,(y 11).ownBlock=some k->w.heap.size<=k:=λk j=>u.ge k j;refine⟨⟨a,c,l,?_,?_⟩,O.grown t (λe=>by have:=d _ e;omega),?_,λ_ e=>(by rw[show dQ L 14 11=L 11 from rfl,C]at e;cases e),λ_ e=>(by cases e),λ_ e=>(by cases e),λ_=>J,bi M t.size,λe=>pM A (i e).1⟩
 .cases j:(y 11).ownBlock with
  | none=>rw[j]at t;exact G.below (lc t)
  | some g=>
   rw[j]at t;obtain⟨cs,f⟩:=mR u g j;exact G.locT f (by decide) (OV I (d g j)) (bi I.bs (d g j)) t
 .cases j:(y 11).ownBlock with
  | none=>rw[j]at t;exact h2.below (lc t)
  | some g=>rw[j]at t;exact h2.loc t (d g j)
 cases j:(y 11).ownBlock with
 | none=>rw[j]at t;exact D.below (lc t)
 | some g=>
  rw[j]at t;obtain⟨cs,f⟩:=mR u g j;exact ax D f (by decide) t
theorem Tn(K:i≠4/\i≠11/\i≠13/\i≠14/\i≠15)(h0:fD w B b S)(C:¬nL b S gf)(A:∀x,(nQ F).ownBlock=some x->¬nL b S x)(n:Int)(hn : -9223372036854775808<=n/\n<=9223372036854775807)(h:Gs S B b w gf F L y W){R:Value->World->Prop}(M:∀x:Int,0<=x->x<256->∀W',R (.int .i64 x) W') :
  Calls Tryz.prog 32 #[.pointer (some ⟨b,0,none⟩),.int .i64 n] W λe W' => ∃v,e = .returned v/\Gs S B b w gf F (dQ L i) (fE y i v) W'/\R v W':=by
 obtain⟨⟨a,c,l,Z,h2⟩,Y,X,V,U,Q,O,N,f⟩:=h;refine(fV _ n B b W Z hn).mono ?_;rintro r W' ⟨x,a',c',I,rfl,k1,t,D,_⟩;have d:∀ {e:TypeId} {sz n:Nat} {v:Value} {xs:List Value},Own W w.heap.size e sz v n xs->Own W' w.heap.size e sz v n xs:=λG=>t.ownN G λx J=>OV h0 (G.ge x J);refine⟨_,rfl,fJ K ⟨⟨a',c',I,k1,h2.trans t⟩,t.blkN Y C,t.ownN X A,λj u => ?_,λj u=>d (U j u),λj u=>d (Q j u),λj=>d (O j),bi N t.size,f⟩,M x D.1 D.2.1 W'⟩;obtain⟨g,e3,e4⟩:=V j u;exact⟨g,e3,d e4⟩
theorem Xv(d:L 14=true)(h:Gs S B b w gf F L y W):Gs S B b w gf F (dQ L 15) (fE y 15 (.agg #[y 14,.int .i64 0])) W:=by
 obtain⟨I,G,D,C,A,u,t,j,a⟩:=h;exact⟨I,G,D,C,A,u,t,j,λ_=>⟨d,rfl⟩⟩
theorem VW(h:B<=w.heap.size)(F:PF):Own (w.alloc (.cells (qF F) 101)) B 101 2 (.slice (some ⟨w.heap.size,0,none⟩) 1 1) 1 (rH F):=
 ⟨rfl,.inr ⟨w.heap.size,0,1,_,rfl,h,aG.new _ _ _,az _,by unfold maxLen;omega,az _,λj u d=>by rw[ed,<-uZ];exact d⟩⟩
theorem OL(h:Gs S B b w gf F L y W)(u:L 14=true):∃a c,y 14 = .slice a (S.H.fi++[F]).length c/\Mg W a c (S.H.fi++[F]):=by
 obtain⟨⟨a,c,l,Q,h2⟩,h3,O,Z,Y,X,N,V,d⟩:=h;obtain⟨U,R,e,k1,M,K,J⟩:=(N u).rd;have A:(S.H.fi++[F]).length=S.H.fi.length+1:=by simp
 refine⟨U,R,by rw[A];exact e,by rw[A];exact k1,M,K,by rw[fI];simpa using J,λp j => ?_⟩;rcases gH.1 j with j|j
 .exact Q.ma.rd.st.good p j
 rw[bB.1 j];obtain⟨a9,c9,t,I,G,D,C⟩:=O.rd;unfold nQ at t;injection t with t e10 e11;subst t;subst e11;exact⟨I,G,D,C⟩
theorem XL{t:List En}(h:t.length=64):tL t=t.flatMap lY:=by
 have e:(List.range 64).map (λi=>t.getD i zEn)=t:=by
  apply nY;intro i;rw[iV]
  by_cases d:i<64
  .rw[rT d,aF (by omega)];show some (t.getD i zEn)=_;rw[aY,aF (by omega)];rfl
  .rw[eY (by rw[rJ];omega),eY (by omega)];rfl
 unfold tL;rw[<-Eb (f:=λi=>t.getD i zEn) (g:=lY),e]
def Bz(x:Int)(m:Nat):Nat:=(max (min x m) 0).toNat
theorem Nv(x:Int)(m:Nat):Bz x m<=m:=by unfold Bz;omega
theorem IE(x:Int)(m:Nat):((Bz x m:Nat):Int)=max (min x m) 0:=by unfold Bz;omega
def Xx(f s b:Int)(l:List UInt8)(w:World)(r:Ending)(w' : World):Prop:=∃H:MH,r = .returned (.agg (fF H))/\wV w' w.heap.size H/\Below w.heap.size w w'/\Rt H.ma/\Co H.ma/\((∀p∈H.sp,Xa p.ar H.fi.length 12)/\Vj H.fi) /\
 H.m.fs.length=Bz f 40/\H.dk.blocks.length=Bz b 80/\(1<=H.sp.length/\H.sp.length<=2)/\(l=[]->H.ma=xz (Bz f 40) (Bz s 60) (Bz b 80))
def Xn(f s b:Int)(l:List UInt8)(w:World)(r:Ending)(w' : World):Prop:=∃H:MH,r = .returned (.agg (fF H))/\wV w' w.heap.size H/\Below w.heap.size w w'/\Rt H.ma/\Co H.ma/\(∀p∈H.sp,∀n g,onA p.ar n=some g->g.fi<H.fi.length) /\
 H.m.fs.length=Bz f 40/\H.dk.blocks.length=Bz b 80/\(1<=H.sp.length/\H.sp.length<=2)/\(l=[]->H.ma=xz (Bz f 40) (Bz s 60) (Bz b 80))
theorem Fa(fr sl bl:Int)(al:Option Addr)(cl:Nat)(l:List UInt8)(w:World)(hr:ve w al cl l.length (l.map CY)) :
  Calls Tryz.prog 17 #[.int .i64 fr,.int .i64 sl,.int .i64 bl,.slice al l.length cl] w (Xx fr sl bl l w):=by
 have xf:Hid (∀a,al=some a->l.map CY≠[]->a.block<w.heap.size):=ae λa ha hl=>by obtain⟨u,hu⟩:∃u,(l.map CY)[0]?=some u:=⟨_,aF (List.length_pos_iff.2 hl)⟩;obtain⟨b',o',e,hc⟩:=hr.rd 0 u hu;rw[ha]at e;cases e;exact We hc
 go_enter func17,ntmps17;go_upto_region 2 with(fail);refine uT (λW=>Code.wp _ _ _ _ W) λw1 kW bx1 mx1 gz => ?_;have qd:=hr.below kW;have mx1:aG w1 (w.heap.size+1) (jI ⟨al,cl,l,noH,none,0,[]⟩) 98:=mx1;have bx1:aG w1 w.heap.size (fF noH) 45:=bx1;clear hr;go_upto_region 3 with(fail);have e0:(if(if 40<fr then(40:Int)else fr)<0 then 0 else if 40<fr then 40 else fr)=((Bz fr 40:Nat):Int):=by rw[IE];split<;>split<;>omega
 have e1:(if(if 60<sl then(60:Int)else sl)<0 then 0 else if 60<sl then 60 else sl)=((Bz sl 60:Nat):Int):=by rw[IE];split<;>split<;>omega
 have e2:(if(if 80<bl then(80:Int)else bl)<0 then 0 else if 80<bl then 80 else bl)=((Bz bl 80:Nat):Int):=by rw[IE];split<;>split<;>omega
 rw[e0,e1,e2];clear e0 e1 e2;generalize (if 40<fr then(40:Int)else fr)=z0;generalize (if 60<sl then(60:Int)else sl)=z1;generalize (if 80<bl then(80:Int)else bl)=z2;obtain⟨f,hf⟩:∃f,Bz fr 40=f:=⟨_,rfl⟩;obtain⟨s,Y⟩:∃s,Bz sl 60=s:=⟨_,rfl⟩;obtain⟨ct,qj⟩:∃ct,Bz bl 80=ct:=⟨_,rfl⟩;have gV:f<=40:=by rw[<-hf];exact Nv _ _
 have gx:s<=60:=by rw[<-Y];exact Nv _ _
 have gY:ct<=80:=by rw[<-qj];exact Nv _ _
 have kk:=ae (And.intro hf (And.intro Y qj));rw[hf,Y,qj];clear hf Y qj;have el:w.heap.size+2<=w1.heap.size:=mx1.lt;have qM:∀W:World,(Instr.makeSlice 30 (.int .i64 (f:Int)) (.int .i64 (f:Int))).run Tryz.prog W = .ok (.slice (some ⟨W.heap.size,0,none⟩) f f) (W.alloc (.cells (madeCells (tX fr0) (f*13)) 66)):=
  IW 30 66 _ 13 40 underlying30 frame_info .i64 .i64 f (by omega) (by omega)
 have qL:∀W:World,(Instr.makeSlice 34 (.int .i64 (s:Int)) (.int .i64 (s:Int))).run Tryz.prog W = .ok (.slice (some ⟨W.heap.size,0,none⟩) s s) (W.alloc (.cells (madeCells #[.int .i64 0] (s*1)) 3)):=
  IW 34 3 _ 1 8 underlying34 int_info .i64 .i64 s (by omega) (by omega)
 have qK:∀W:World,(Instr.makeSlice 35 (.int .i64 (s:Int)) (.int .i64 (s:Int))).run Tryz.prog W = .ok (.slice (some ⟨W.heap.size,0,none⟩) s s) (W.alloc (.cells (madeCells (eQ zPg) (s*8)) 58)):=
  IW 35 58 _ 8 8 underlying35 page_info .i64 .i64 s (by omega) (by omega)
 have qN:∀W:World,(Instr.makeSlice 35 (.int .i64 (ct:Int)) (.int .i64 (ct:Int))).run Tryz.prog W = .ok (.slice (some ⟨W.heap.size,0,none⟩) ct ct) (W.alloc (.cells (madeCells (eQ zPg) (ct*8)) 58)):=
  IW 35 58 _ 8 8 underlying35 page_info .i64 .i64 ct (by omega) (by omega)
 have ek:=ae kW;clear kW;refine iI 17 [_,_,.r 2 ((dF λ_=>True)),.r 3 ((dF λ_=>True)),_,.r 5 ((dF λ_=>True)),_,.r 7 ((dF λ_=>True)),.r 8 ((dF λ_=>True)),_,.r 10 ((dF λ_=>True)),.r 11 ((dF λ_=>True)),_,.v (.agg #[.slice none 0 0,.int .i64 (ct:Int)]),.r 14 ((dF λ_=>True)),_,_] (JM w1 w1.heap.size f s ct (tX fr0) #[.int .i64 0] (eQ zPg)) um (λy=>Yl y) (Qk um rfl (Qk um rfl (ah ?_ (ah ?_ (Qk um rfl (ah ?_ (Qk um rfl (ah ?_ (ah ?_ (Qk um rfl (ah ?_ (ah ?_ (Qk um rfl (ah ?_ (ah ?_ (Qk um rfl (Qf um (w.heap.size+1) 1 rfl rfl (aI) (λ_ _ _ _ d h=>AJ (by decide) h)) (λ_ _ _ _ d h=>AJ (by decide) h)))) (λ_ _ _ _ d h=>AJ (by decide) h)))) (λ_ _ _ _ d h=>AJ (by decide) h)))) (λ_ _ _ _ d h=>AJ (by decide) h))) (λ_ _ _ _ d h=>AJ (by decide) h)))) (λ_ _ _ _ d h=>AJ (by decide) h)) (λ_ _ _ _ d h=>AJ (by decide) h)) (λ_=>rfl) rfl ?_
 .intro ρ y W L D hn o d A G;have iX:=D 32 1 rfl;have h1:y 1=_:=G 1 rfl;refine fH (.slice (some ⟨W.heap.size,0,none⟩) f f) (aj rfl) ?_ (YA o (az _) A) trivial;simp[execOp,go_sem,iX,h1,qM]
 .intro ρ y W L D hn o d A G;have eN:=D 33 2 rfl;have h2:=G 2 rfl;obtain⟨g,e2,_,_⟩:=A.k2 (d 2 rfl);refine fH (.agg #[y 2,.int .i64 0]) (aj rfl) ?_ (Yq o (d 2 rfl) A) trivial;rw[e2]at eN ⊢;simp[execOp,go_sem,eN]
 .intro ρ y W L D hn o d A G;have iV:=D 35 4 rfl;have h4:y 4=_:=G 4 rfl;refine fH (.slice (some ⟨W.heap.size,0,none⟩) s s) (aj rfl) ?_ (Yh o (az _) A) trivial;simp[execOp,go_sem,iV,h4,qL]
 .intro ρ y W L D hn o d A G;have iU:=D 37 6 rfl;have h6:y 6=_:=G 6 rfl;refine fH (.slice (some ⟨W.heap.size,0,none⟩) s s) (aj rfl) ?_ (Yp o (az _) A) trivial;simp[execOp,go_sem,iU,h6,qK]
 .intro ρ y W L D hn o d A G;have eK:=D 38 7 rfl;have h7:=G 7 rfl;obtain⟨g,e2,_,_⟩:=A.k7 (d 7 rfl);refine fH (.agg #[y 7,.slice none 0 0]) (aj rfl) ?_ (Yz o (d 7 rfl) A) trivial;rw[e2]at eK ⊢;simp[execOp,go_sem,eK]
 .intro ρ y W L D hn o d A G;have iT:=D 40 9 rfl;have h9:y 9=_:=G 9 rfl;refine fH (.slice (some ⟨W.heap.size,0,none⟩) ct ct) (aj rfl) ?_ (XN o (az _) A) trivial;simp[execOp,go_sem,iT,h9,qN]
 .intro ρ y W L D hn o d A G;have eI:=D 41 10 rfl;have xF:=G 10 rfl;obtain⟨g,e2,_,_⟩:=A.k10 (d 10 rfl);refine fH (.agg #[y 10,.slice none 0 0]) (aj rfl) ?_ (XE o (d 10 rfl) A) trivial;rw[e2]at eI ⊢;simp[execOp,go_sem,eI]
 .intro ρ y W L D hn o d A G;refine fZ um (λ_ _ h=>AJ (by decide) h) A ?_;have iS:=D 43 12 rfl;have qc:y 12=_:=G 12 rfl;refine ak (.agg #[.slice none 0 0,.int .i64 (ct:Int)]) (aj rfl) (by simp[execOp,go_sem,iS,qc]) rfl
 .intro ρ y W L D hn o d A G;have eM:=D 34 3 rfl;have h3:=G 3 rfl;have eL:=D 36 5 rfl;have h5:=G 5 rfl;have eJ:=D 39 8 rfl;have h8:=G 8 rfl;have eG:=D 42 11 rfl;have iF:=G 11 rfl;have iR:=D 44 13 rfl;have eE:y 13=_:=G 13 rfl;obtain⟨l2,e3⟩:=A.k3 (d 3 rfl);obtain⟨l7,e8⟩:=A.k8 (d 8 rfl);obtain⟨l10,e11⟩:=A.k11 (d 11 rfl);obtain⟨g2,e2,_,_⟩:=A.k2 l2;obtain⟨g5,e5,_,_⟩:=A.k5 (d 5 rfl);obtain⟨g7,e7,_,_⟩:=A.k7 l7;obtain⟨g10,e10,_,_⟩:=A.k10 l10;refine fH (.agg #[y 2,.int .i64 0,y 5,y 7,.slice none 0 0,y 10,.slice none 0 0,.slice none 0 0,.int .i64 ct,.slice none 0 0,.slice none 0 0]) (aj rfl) ?_ (XQ (d 3 rfl) (d 5 rfl) (d 8 rfl) (d 11 rfl) A) trivial;rw[e3,e2]at eM;rw[e5]at eL;rw[e8,e7]at eJ;rw[e11,e10]at eG;rw[e2,e5,e7,e10];simp[execOp,go_sem,eM,eL,eJ,eG,iR,eE]
 intro y W3 hH et;clear et;obtain⟨⟨l3,l5,l8,J⟩,e14⟩:=hH.k14 rfl;obtain⟨gf,e2,bf,kf⟩:=hH.k2 rfl;obtain⟨gs,e5,bs,ks⟩:=hH.k5 rfl;obtain⟨gw,e7,bw,kw⟩:=hH.k7 rfl;obtain⟨gd,e10,bd,kd⟩:=hH.k10 rfl;have xP:gw≠gd:=VH kw kd (by rw[<-e7,<-e10];exact hH.ne rfl rfl);have mx3:=mx1.ext hH.be;have bx3:=bx1.ext hH.be;have xX:=qd.below hH.be;have qX:=ae (ag ek.out hH.be);rw[e14,e2,e5,e7,e10];clear e14 e2 e5 e7 e10 hH l3 l5 l8 J qM qL qK qN mx1 bx1 qd ek
 go_wp2_with (refine aB rfl _ _ _ rfl (w.heap.size+1) 1 _ [.slice (some ⟨gf,0,none⟩) f f,.int .i64 0,.slice (some ⟨gs,0,none⟩) s s,.slice (some ⟨gw,0,none⟩) s s,.slice none 0 0,.slice (some ⟨gd,0,none⟩) ct ct,.slice none 0 0,.slice none 0 0,.int .i64 ct,.slice none 0 0,.slice none 0 0] rfl rfl rfl _ _ mx3 (by show 1+11<=13;omega) (by kernel_rfl) (by simp[Value.oneCell']) ?_)
 intro w4 ei kH;have xm:aG w4 (w.heap.size+1) (jI ⟨al,cl,l,UT gf gs gw gd f s ct,none,0,[]⟩) 98:=by
  have e:jI ⟨al,cl,l,UT gf gs gw gd f s ct,none,0,[]⟩=bJ (jI ⟨al,cl,l,noH,none,0,[]⟩) 1 [.slice (some ⟨gf,0,none⟩) f f,.int .i64 0,.slice (some ⟨gs,0,none⟩) s s,.slice (some ⟨gw,0,none⟩) s s,.slice none 0 0,.slice (some ⟨gd,0,none⟩) ct ct,.slice none 0 0,.slice none 0 0,.int .i64 ct,.slice none 0 0,.slice none 0 0]:=by unfold jI UT noH;dsimp only;rw[kL,kL,kL,kL];kernel_rfl
  rw[e];exact ei
 have kS:fD w4 (w.heap.size+1) (w.heap.size+1) ⟨al,cl,l,UT gf gs gw gd f s ct,none,0,[]⟩:=
  UV (xX.keep (B:=w.heap.size+1) (λa ha hl=>Nat.lt_succ_of_lt (xf.out a ha hl)) (rZ mx3.lt) kH (az _)) (λa ha hl=>Nat.lt_succ_of_lt (xf.out a ha hl)) (az _) xm gV gx gY (by omega) (by omega) (by omega) (by omega) xP (zf:=tX fr0) (zs:=#[.int .i64 0]) (zp:=eQ zPg) rfl rfl rfl
   (kf.grown kH (λe=>by have:=aM e;omega)) (ks.grown kH (λe=>by have:=aM e;omega)) (kw.grown kH (λe=>by have:=aM e;omega)) (kd.grown kH (λe=>by have:=aM e;omega))
 have bx4:aG w4 w.heap.size (fF noH) 45:=bx3.grown kH (λe=>by have:=aM e;omega);have qW:Hid (Below w.heap.size w w4):=ae (qX.out.grown kH (bi (by omega) (rZ mx3.lt)) oG0);have kO:w.heap.size+2<=w4.heap.size:=xm.lt;clear kf ks kw kd mx3 bx3 xX qX ei kH xm bf bs bw bd xP xf el;generalize hb' : w.heap.size+1=b at kS kO ⊢;have xr:=ae hb';clear hb';obtain⟨Z,g8⟩:∃Z,Z=(⟨al,cl,l,UT gf gs gw gd f s ct,none,0,[]⟩:MW):=⟨_,rfl⟩;have g6:=ae g8;rw[<-g8]at kS;have hc:=kS.blk.cell;unfold jI at hc;have ee:Z.H.m.fs.length=f:=by rw[g8];exact kL
 rw[ee]at hc;clear ee;have qO:fD w4 b b (Z.frs (BB f 0)):=by
  have e:Z.frs (BB f 0)=Z:=by rw[g8];rfl
  rw[e];exact kS
 have qq:MS w4 b Z w4 (Z.frs (BB f 0)):=(MS.refl w4 b Z).same rfl;have qJ:Hid (¬nL b Z w.heap.size):=ae (λhk=>by have h1:=(kS.kb_own hk).1;have h2:=xr.out;omega);have xS:Hid (∀w' S',MS w4 b Z w' S'->Below b w4 w'):=ae (λw' S' h=>MS.to kS h (az b));clear g8 kS;have bx4':=ae bx4;clear bx4;go_upto_region 5 with(fail)
 go_loopw [55] (fun k wr => ∃q:Nat,q<=f/\k = .int .i64 q/\fD wr b b (Z.frs (BB f q))/\MS w4 b Z wr (Z.frs (BB f q))) (fun k _=>f-(intOf k).toNat)
 case atStart=>exact⟨0,bq _,rfl,qO,qq⟩
 case round=>
  clear qO qq;obtain⟨q,hq,rfl,I,Y⟩:=hrel
  by_cases hqf:q<f
  .have gh:(q:Int)<(f:Int):=by omega
   have xl:(BB f q).length=f:=Jr hq;have hc:=I.blk.cell;unfold jI at hc;dsimp only[MW.frs]at hc;rw[xl]at hc;obtain⟨g,off,cap,cur,hv,kU,hg,xo,qf,gS⟩:=I.ma.fr.put fQ (by decide) q (by show q<(BB f q).length;omega);have xw:Z.H.af=some ⟨g,off,none⟩:=(oU hv).1;have eh:Hid (∀j u,(pR fr0)[j]?=some u->cur[off+q*13+j]?=some u):=ae λj u hj=>by have e:(Z.frs (BB f q)).H.m.fs[q]'(by show q<(BB f q).length;omega)=fr0:=Ve hqf (by omega);have:=qf j u (by rw[e];exact hj);rw[hg.cell]at this;exact this
   rw[xw]at hc;have gR:=ae gS;have i2:=ae xl;have em:=ae xw;clear hv qf gS xl xw
   go_wp2_with (refine aB rfl _ _ _ rfl g (off+q*13+11) _ [.int .i64 (-1)] rfl rfl rfl _ _ hg (by show off+q*13+11+1<=cur.size;omega) (by kernel_rfl) (λu hu=>by cases bB.1 hu;rfl) ?_)
   intro w5 xv xp;rw[Vb xo eh.out]at xv;have ho:=gR.out _ _ xv;have hX:(Z.frs (BB f q)).H.m.fs.set q frZ=BB f (q+1):=Wl hqf;have hD:(BB f (q+1)).length=(BB f q).length:=by rw[Jr (by omega),Jr hq]
   rw[hX] at ho;have kv:fD w5 b b (Z.frs (BB f (q+1))):=I.putF hg kU xp (fs:=BB f (q+1)) hD (by rw[hD];exact ho);have kP:MS w4 b Z w5 (Z.frs (BB f (q+1))):=Y.put xp (.inr (by show some g∈iW Z;unfold iW;rw[em.out];exact iM)) (λx X => .inl X);clear I Y hg xo xv xp hc ho hX hD;go_wp2;go_roundw
   case rel=>exact⟨q+1,by omega,by go_num,kv,kP⟩
   case measure=>simp[intOf];omega
  have gh:¬(q:Int)<(f:Int):=by omega
  have ie:f=q:=by omega
  subst ie;rw[Vf]at I Y
  go_wp2_with fail
  refine(fV _ 3 b b _ I (by omega)).mono ?_;rintro r w5 ⟨N,a5,c5,l5,rfl,kv,kP,hN,xB⟩;have kP:=Y.trans kP;have x5:Hid (l=[]->N=0/\l5=[]):=ae λe=>xB (by show Z.l=[];rw[g6.out];exact e);have xD:Jq f s ct Z.H.asl ((Z.frs (List.replicate f frZ)).lst a5 c5 l5).H.fi (List.replicate ct zPg) [] ((Z.frs (List.replicate f frZ)).lst a5 c5 l5):=by rw[g6.out];exact⟨rfl,rfl,rfl,rfl,rfl,rfl,rfl,rfl,rfl,rfl⟩
  have kI:((Z.frs (List.replicate f frZ)).lst a5 c5 l5).H.fi=[]:=by rw[g6.out];rfl
  have gM:Hid (l=[]->((Z.frs (List.replicate f frZ)).lst a5 c5 l5).l=[]):=ae λe=>(x5.out e).2;obtain⟨N,rfl⟩:=iL hN.1;have jf:N<=2:=by omega
  clear I Y hN xB hqf gh hq;generalize (Z.frs (List.replicate f frZ)).lst a5 c5 l5=S5 at kv kP xD kI gM;go_upto_region 10 with(fail)
  go_loopw [70] (fun k wr => ∃(q:Nat) (S:MW) (bk:List Page) (qu:List (Int × Page)),q<=N/\k = .int .i64 q/\fD wr b b S/\MS w4 b Z wr S/\Hid (Jq f s ct Z.H.asl S.H.fi bk qu S/\Fb ct bk qu (S.H.fi.map PF.fi) []/\S.H.fi.length=q/\(q=0->bk=List.replicate ct zPg/\qu=[]/\(l=[]->S.l=[]))/\∀p∈S.H.fi,p.l.length<=5)) (fun k _=>N-(intOf k).toNat)
  case atStart=>exact⟨0,S5,_,_,bq _,rfl,kv,kP,ae ⟨xD,by rw[kI];exact Fb.start gY,by rw[kI];rfl,λ_=>⟨rfl,rfl,gM.out⟩,by rw[kI];intro p hp;cases hp⟩⟩
  case round=>
   clear kv kP xD kI gM;obtain⟨q,S,bk,qu,hq,rfl,I,Y,O⟩:=hrel;obtain⟨fi0,qT⟩:∃fi0,S.H.fi=fi0:=⟨_,rfl⟩;rw[qT]at O;clear qT;have x6:Hid (fi0.length=q):=ae O.out.2.2.1;have ed:Hid (∀p∈fi0,p.l.length<=5):=ae O.out.2.2.2.2;have qe:Hid (fi0.length<=2):=ae (by have:=O.out.2.2.1;omega)
   by_cases hqN:q<N
   .have gh:(q:Int)<(N:Int):=by omega
    go_wp2_with fail
    refine(fV _ 40 b b _ I (by omega)).mono ?_;rintro r w6 ⟨x,a6,c6,l6,rfl,kt,kg,X,_⟩;have kg:=Y.trans kg;have xC:Hid (Jq f s ct Z.H.asl fi0 bk qu (S.lst a6 c6 l6)):=ae (O.out.1.lst _ _ _);have ge:0<=x/\x<40:=by omega
    obtain⟨C,hC⟩:∃C:Nat,fw x=C:=⟨(fw x).toNat,by unfold fw;split<;>omega⟩;have ji:C<=5:=by unfold fw at hC;split at hC<;>omega
    have eA:=ae hC;clear I Y X hC;generalize S.lst a6 c6 l6=S6 at kt kg xC
    go_wp2_with (refine aK rfl _ _ _ rfl (qF ⟨x,none,[],0⟩) rfl rfl rfl file_size (rO _) ?_)
    intro w7 xu fx7;have kQ:=kt.below xu;have qp:=(MS.refl w6 b S6).below xu;have xj:Hid (¬nL b S6 w6.heap.size):=ae (kt.new (az _));have kU:b<=w6.heap.size:=kt.bs;have i4:=ae kU;clear kt xu;generalize hg60:w6.heap.size=gf0 at xj kU fx7 ⊢;have iu:Hid (w6.heap.size<=gf0):=ae (Ea hg60);clear hg60;have kJ:=fx7.cell;unfold qF at kJ
    go_wp2_with fail
    refine(zm x _ (by omega)).mono ?_;rintro r w8 ⟨rfl,rfl⟩;rw[eA.out];clear kJ;have x1:∀p∈fi0,True:=λ_ _=>trivial;clear x1;go_upto_region 13 with(fail)
    go_loopw [78] (fun k wr => ∃(i:Nat) (S:MW) (bk:List Page) (qu:List (Int × Page)) (xs:List Int) (K:Option Addr) (Q:Nat),i<=C/\k = .int .i64 i/\fD wr b b S/\MS w6 b S6 wr S/\Hid (¬nL b S gf0)/\Hid (Jq f s ct Z.H.asl fi0 bk qu S/\Fb ct bk qu (fi0.map PF.fi) xs/\xs.length=i)/\aG wr gf0 (qF ⟨x,K,xs,Q⟩) 101 /\
     Hid (Own wr b 3 1 (nQ ⟨x,K,xs,Q⟩) xs.length (xs.map gB)/\∀g,oB K=some g->w6.heap.size<=g/\oB Z.H.asl≠some g/\∀p∈fi0,oB p.a≠some g)) (λk _=>C-(intOf k).toNat)
    case atStart=>exact⟨0,S6,bk,qu,[],none,0,bq _,rfl,kQ,qp,xj,ae ⟨xC.out,O.out.2.1,rfl⟩,fx7,ae ⟨Own.nil _ _ _ _,λg hg=>(by cases hg)⟩⟩
    case round=>
     clear kQ fx7 O xC qp xj;obtain⟨i,S,bk,qu,xs,K,Q,hi,rfl,I,Y,ga,O,fx,ho⟩:=hrel
     by_cases hiC:i<C
     .have it:(i:Int)<(C:Int):=by omega
      go_upto_region 16 with(fail);have x7:∀g,(nQ ⟨x,K,xs,Q⟩).ownBlock=some g->¬nL b S g:=λg hg=>by obtain⟨cs,hk⟩:=mR ho.out.1 g hg;refine I.kb_int hk ?_;rw[O.out.1.asl];exact(ho.out.2 g (by unfold nQ at hg;rw[jF]at hg;exact hg)).2.1
      have gP:=ae x7;clear x7
      go_cut [14] (fun s14 wx => ∃(n:Nat) (a:Option Addr) (c:Nat) (l:List UInt8),s14 = .int .i64 n/\n<256/\fD wx b b (S.lst a c l)/\MS wr b S wx (S.lst a c l)/\aG wx gf0 (qF ⟨x,K,xs,Q⟩) 101/\Hid (Own wx b 3 1 (nQ ⟨x,K,xs,Q⟩) xs.length (xs.map gB)))
      case first=>
       go_wp2_with fail
       all_goals
        refine(fV S _ b b _ I (by omega)).mono ?_;rintro r w8 ⟨n,a8,c8,l8,rfl,hG,hA,hn,_⟩;obtain⟨n,rfl⟩:=iL hn.1;have xk:(n:Int)<256:=hn.2.1;have fx8:=hA.blkN fx ga.out;have ki:Hid (Own w8 b 3 1 (nQ ⟨x,K,xs,Q⟩) xs.length (xs.map gB)):=ae (hA.ownN ho.out.1 gP.out);clear I fx hn;go_wp2;go_meet
        case rel=>exact⟨n,a8,c8,l8,rfl,by omega,hG,hA,fx8,ki⟩
      case rest=>
      obtain⟨n,a8,c8,l8,rfl,xk,hG,hA,fx8,qw⟩:=hcut;have ki:Hid (Own wc b 3 1 (nQ ⟨x,K,xs,Q⟩) xs.length (xs.map gB)/\∀g,oB K=some g->w6.heap.size<=g/\oB Z.H.asl≠some g/\∀p∈fi0,oB p.a≠some g):=ae ⟨qw.out,ho.out.2⟩;clear qw;have gl:Hid (Jq f s ct Z.H.asl fi0 bk qu (S.lst a8 c8 l8)/\Fb ct bk qu (fi0.map PF.fi) xs/\xs.length=i):=ae ⟨O.out.1.lst _ _ _,O.out.2⟩;have hA:=Y.trans hA;have k9:Hid (¬nL b (S.lst a8 c8 l8) gf0):=ga;have k6:Hid (∀g,(nQ ⟨x,K,xs,Q⟩).ownBlock=some g->¬nL b (S.lst a8 c8 l8) g):=gP;clear I Y O fx ho ga gP;generalize S.lst a8 c8 l8=S8 at hG hA gl k9 k6;go_upto_region 17 with(fail)
      go_cut [109] (fun s109 wx => ∃(β:Bool) (a:Option Addr) (c:Nat) (l:List UInt8),s109 = .bool β/\fD wx b b (S8.lst a c l)/\MS wc b S8 wx (S8.lst a c l)/\aG wx gf0 (qF ⟨x,K,xs,Q⟩) 101/\Hid (Own wx b 3 1 (nQ ⟨x,K,xs,Q⟩) xs.length (xs.map gB))/\Hid (β=true->n<ct/\¬(n:Int)∈(fi0.map PF.fi).flatMap Fi.b++xs))
      case first=>
       have eb:gf0<wc.heap.size:=fx8.lt;have jc:S8.H.fi.length<=5:=by have e1:=gl.out.1.fi;have e2:=qe.out;rw[e1];omega
       by_cases hnc:n<ct
       .have qi:(n:Int)<(ct:Int):=by omega
        cases hu:iH (cK (S8.H.fi++[(⟨x,K,xs,Q⟩:PF)]) 0) (n:Int)
        case' true=>
         refine iI 25 [_,_,_,_,.r 4 ((dF λ_=>True)),_,_,_,_,_,.v (.slice S8.H.ai S8.H.fi.length S8.H.ci),.r 11 ((dF λ_=>True)),.v (.agg (qF ⟨x,K,xs,Q⟩)),.r 13 ((dF λ_=>True)),.r 14 ((dF λ_=>True)),.r 15 ((dF λ_=>True)),_,.v (.bool true),_,_,_,_,_,_,.v (.bool false)] (Gs S8 b b wc gf0 ⟨x,K,xs,Q⟩) eH (λy=>Wq hG fx8 ki.out.1 y) (Qk eH rfl (Qk eH rfl (Qb eH (.bool true) (by simp[go_sem,qi]) rfl rfl rfl rfl rfl (Qk eH rfl (ah ?u3_1 (Qk eH rfl (Qk eH rfl (Qf eH b 1 rfl rfl (Qf eH b 8 rfl rfl (Qf eH b 8 rfl rfl (ah ?u3_2 (ah ?u3_3 (ah ?u3_4 (ah ?u3_5 (ah ?u3_6 (ah ?u3_7 (Qk eH rfl (ah ?u3_8 (Qk eH rfl (Qk eH rfl (Qk eH rfl (Qk eH rfl (Qk eH rfl (Qk eH rfl (Qk eH rfl (aI) (λ_ _ _ _ d h=>fJ (by decide) h)) (λ_ _ _ _ d h=>fJ (by decide) h)) (λ_ _ _ _ d h=>fJ (by decide) h)) (λ_ _ _ _ d h=>fJ (by decide) h)) (λ_ _ _ _ d h=>fJ (by decide) h)) (λ_ _ _ _ d h=>fJ (by decide) h)) (λ_ _ _ _ d h=>fJ (by decide) h))) (λ_ _ _ _ d h=>fJ (by decide) h)))))))) (λ_ _ _ _ d h=>fJ (by decide) h)) (λ_ _ _ _ d h=>fJ (by decide) h)) (λ_ _ _ _ d h=>fJ (by decide) h)) (λ_ _ _ _ d h=>fJ (by decide) h)) (λ_ _ _ _ d h=>fJ (by decide) h))) (λ_ _ _ _ d h=>fJ (by decide) h)) (λ_ _ _ _ d h=>fJ (by decide) h)) (λ_ _ _ _ d h=>fJ (by decide) h)) (λ_ _ _ _ d h=>fJ (by decide) h)) (λ_=>rfl) rfl ?u3_9
        case' false=>
         refine iI 25 [_,_,_,_,.r 4 ((dF λ_=>True)),_,_,_,_,_,.v (.slice S8.H.ai S8.H.fi.length S8.H.ci),.r 11 ((dF λ_=>True)),.v (.agg (qF ⟨x,K,xs,Q⟩)),.r 13 ((dF λ_=>True)),.r 14 ((dF λ_=>True)),.r 15 ((dF λ_=>True)),_,.v (.bool false),_,_,_,_,.r 22 ((dF λv => ∃x:Int,v = .int .i64 x)),.r 23 ((dF λv => ∃u,v = .bool u)),.r 24 ((dF λv => ∃u,v = .bool u))] (Gs S8 b b wc gf0 ⟨x,K,xs,Q⟩) eH (λy=>Wq hG fx8 ki.out.1 y) (Qk eH rfl (Qk eH rfl (Qb eH (.bool true) (by simp[go_sem,qi]) rfl rfl rfl rfl rfl (Qk eH rfl (ah ?v3_1 (Qk eH rfl (Qk eH rfl (Qf eH b 1 rfl rfl (Qf eH b 8 rfl rfl (Qf eH b 8 rfl rfl (ah ?v3_2 (ah ?v3_3 (ah ?v3_4 (ah ?v3_5 (ah ?v3_6 (ah ?v3_7 (Qk eH rfl (ah ?v3_8 (Qk eH rfl (Qk eH rfl (Qk eH rfl (Qk eH rfl (ah ?v3_9 (ah ?v3_10 (ah ?v3_11 (aI)))) (λ_ _ _ _ d h=>fJ (by decide) h)) (λ_ _ _ _ d h=>fJ (by decide) h)) (λ_ _ _ _ d h=>fJ (by decide) h)) (λ_ _ _ _ d h=>fJ (by decide) h))) (λ_ _ _ _ d h=>fJ (by decide) h)))))))) (λ_ _ _ _ d h=>fJ (by decide) h)) (λ_ _ _ _ d h=>fJ (by decide) h)) (λ_ _ _ _ d h=>fJ (by decide) h)) (λ_ _ _ _ d h=>fJ (by decide) h)) (λ_ _ _ _ d h=>fJ (by decide) h))) (λ_ _ _ _ d h=>fJ (by decide) h)) (λ_ _ _ _ d h=>fJ (by decide) h)) (λ_ _ _ _ d h=>fJ (by decide) h)) (λ_ _ _ _ d h=>fJ (by decide) h)) (λ_=>rfl) rfl ?v3_12
        case u3_1|v3_1=>
         intro ρ y W L D hn o d A G;refine fH (.slice (some ⟨W.heap.size,0,none⟩) 0 0) (bG 3 88 true true rfl rfl ((D 88 3 rfl).trans (G 3 rfl))) ?_ (XX A) trivial;simp[execOp,go_sem]
        case u3_2|v3_2=>
         intro ρ y W L D hn o d A G;refine fZ eH (λ_ _ h=>fJ (by decide) h) A ?_;have iP:=D 94 9 rfl;have h9:y 9=_:=G 9 rfl;obtain⟨⟨a0,c0,l0,m1,m2⟩,m3⟩:=A;refine ak (.slice S8.H.ai S8.H.fi.length S8.H.ci) (bG 3 88 true true rfl rfl ((D 88 3 rfl).trans (G 3 rfl))) (by simp[execOp,go_sem,iP,h9,m1.blk.cell,jI,MW.lst]) rfl
        case u3_3|v3_3=>
         intro ρ y W L D hn o d A G;have iQ:=D 89 4 rfl;have h4:=G 4 rfl;have iO:=D 95 10 rfl;have xF:y 10=_:=G 10 rfl;obtain⟨g,iv,gk⟩:=A.2.2.2.1 (d 4 rfl) o;have gr:=A.2.2.2.2.2.2.2.1;obtain⟨a0,c0,l0,m1,m2⟩:=A.1;have m3:Mg W S8.H.ai S8.H.ci S8.H.fi:=m1.ma.rd.st;refine mf (bG 3 88 true true rfl rfl ((D 88 3 rfl).trans (G 3 rfl))) (KH _ _ _ rfl wc.heap.size 101 _ 2 32 underlying39 file_info rfl (by decide) g (iQ.trans iv) gk S8.H.ai S8.H.fi.length S8.H.ci (S8.H.fi.flatMap rH) (iO.trans xF) m3.nl m3.le (by rw[Pw.flat_len rH 2 kR]) m3.rd (by unfold maxLen;omega) (by omega) gr) (λv W1 h=>WW A h.1 h.2) (λ_ _ _=>trivial)
        case u3_4|v3_4=>
         intro ρ y W L D hn o d A G;refine fZ eH (λ_ _ h=>fJ (by decide) h) A ?_;have xG:ρ (.tmp 11) = .pointer (some ⟨gf0,0,none⟩):=(hn (.tmp 11) rfl).trans rfl;have m3:=A.2.1;refine ak (.agg (qF ⟨x,K,xs,Q⟩)) (bG 3 88 true true rfl rfl ((D 88 3 rfl).trans (G 3 rfl))) (eD rfl xG m3 underlying101 rfl file_size) rfl
        case u3_5|v3_5=>
         intro ρ y W L D hn o d A G;have iJ:=D 97 12 rfl;have qc:y 12=_:=G 12 rfl;have gr:=A.2.2.2.2.2.2.2.1;refine fH (.slice (some ⟨W.heap.size,0,none⟩) 1 1) (bG 3 88 true true rfl rfl ((D 88 3 rfl).trans (G 3 rfl))) ?_ (WS (W':=W.alloc (.cells (qF ⟨x,K,xs,Q⟩) 101)) A ((Below.refl _ _).alloc (az _) _) (VW gr _)) trivial;simp[execOp,go_sem,iJ.trans qc,qF]
        case u3_6|v3_6=>
         intro ρ y W L D hn o d A G;have iN:=D 96 11 rfl;have iF:=G 11 rfl;have iG:=D 98 13 rfl;have eE:=G 13 rfl;have gr:=A.2.2.2.2.2.2.2.1;have hv:=A.2.2.2.2.1 (d 11 rfl) o;obtain⟨a,e,ge,k1,k2,k3,k4⟩:=(A.2.2.2.2.2.1 (d 13 rfl) o).rd;refine mf (bG 3 88 true true rfl rfl ((D 88 3 rfl).trans (G 3 rfl))) (qB _ _ _ rfl wc.heap.size 101 _ 2 32 underlying39 file_info rfl (by decide) (y 11) S8.H.fi.length _ iN hv a 1 e (rH ⟨x,K,xs,Q⟩) (iG.trans ge) k3 k1 rfl k4 (bT (rO _)) (by unfold maxLen;omega) (by omega) gr) (λv W1 h=>Xw hG eb A (d 11 rfl) o h.2.1 h.1) (λ_ _ _=>trivial)
        case u3_7|v3_7=>
         intro ρ y W L D hn o d A G;have eF:=D 99 14 rfl;have jk:=G 14 rfl;obtain⟨a,c,e14,_⟩:=OL A (d 14 rfl);refine fH (.agg #[y 14,.int .i64 0]) (bG 3 88 true true rfl rfl ((D 88 3 rfl).trans (G 3 rfl))) ?_ (Xv (d 14 rfl) A) trivial;rw[e14]at eF ⊢;simp[execOp,go_sem,eF]
        case u3_8|v3_8=>
         intro ρ y W L D hn o d A G;have q9:=D 100 15 rfl;have jj:=G 15 rfl;have ib:=D 101 16 rfl;have iE:y 16=_:=G 16 rfl;have EF:=eF0 hn λ_=>trivial;obtain⟨l14,e15⟩:=A.2.2.2.2.2.2.2.2 (d 15 rfl);obtain⟨a,c,e14,iy⟩:=OL A l14;rw[e15,e14]at q9;refine jd _ _ (bG 3 88 true true rfl rfl ((D 88 3 rfl).trans (G 3 rfl))) (aS rfl (EF _) func34 (by kernel_rfl) (by kernel_rfl) (by simp only[bW,bQ,aZ,q9,ib,iE,EF];rfl)) ?_;have xd:=Cg (S8.H.fi++[⟨x,K,xs,Q⟩]) 0 n a c W iy;unfold MJ at xd;rw[hu]at xd;refine xd.mono ?_;rintro r w1 ⟨qd,kW⟩;exact⟨_,qd,fJ (by decide) (eH _ _ _ _ kW A),rfl⟩
        case u3_9=>
         intro y W9 hy hW;clear hW;have xt:=hy.1;obtain⟨a9,c9,l9,hR,hJ⟩:=xt;have fx9:=hy.2.1;have kh:=ae hy.2.2.1;clear hy hG hA fx8 ki;go_wp2;go_meet
         case rel=>exact⟨false,a9,c9,l9,rfl,hR,hJ,fx9,kh,ae λe=>(by cases e)⟩
        case v3_9=>
         intro ρ y W L D hn o d A G;have e9:=D 106 21 rfl;have iC:y 21=_:=G 21 rfl;have EC:∀v,ρ (.const v)=v:=λv=>hn (.const v) trivial;have EF:=eF0 hn λ_=>trivial;refine jd _ _ (bG 20 105 true true rfl rfl ((D 105 20 rfl).trans (G 20 rfl))) (aS rfl (EF _) func32 (by kernel_rfl) (by kernel_rfl) (by simp only[bW,bQ,aZ,e9,iC,EC,EF];rfl)) ?_;exact Tn (by decide) hG k9.out k6.out 3 (by omega) A λx _ _ _=>⟨x,rfl⟩
        case v3_10=>
         intro ρ y W L D hn o d A G;refine fZ eH (λ_ _ h=>fJ (by decide) h) A ?_;have e6:=D 107 22 rfl;have iB:=G 22 rfl;obtain⟨x,X⟩:=iB;refine ak _ (bG 20 105 true true rfl rfl ((D 105 20 rfl).trans (G 20 rfl))) (qz rfl (e6.trans X) (hn (.const _) trivial) (by simp[go_sem];rfl)) ⟨_,rfl⟩
        case v3_11=>
         intro ρ y W L D hn o d A G;refine fZ eH (λ_ _ h=>fJ (by decide) h) A ?_;have ia:=D 105 20 rfl;have iD:y 20=_:=G 20 rfl;have e4:=D 108 23 rfl;have iA:=G 23 rfl;obtain⟨u,ic⟩:=iA;refine ak (.bool u) (aj rfl) (qI rfl (ia.trans iD) (by simpa using e4.trans ic)) ⟨_,rfl⟩
        case v3_12=>
         intro y W9 hy hW;have i0:((dF λv => ∃x:Int,v = .int .i64 x)).r (y 22) W9:=hW 22 (by decide);have iZ:((dF λv => ∃u,v = .bool u)).r (y 23) W9:=hW 23 (by decide);have xI:((dF λv => ∃u,v = .bool u)).r (y 24) W9:=hW 24 (by decide);clear hW;have xt:=hy.1;obtain⟨a9,c9,l9,hR,hJ⟩:=xt;have fx9:=hy.2.1;have kh:=ae hy.2.2.1;obtain⟨β,hβ⟩:=xI;rw[hβ];clear hy hG hA fx8 ki hβ;have ip:Hid (n<ct/\¬(n:Int)∈(fi0.map PF.fi).flatMap Fi.b++xs):=ae ⟨hnc,λx2=>by
          have e1:=gl.out.1.fi;unfold iH at hu;rw[Bi,e1]at hu;have h2:¬(n:Int)∈wU (fi0++[(⟨x,K,xs,Q⟩:PF)]):=of_decide_eq_false hu;refine h2 ?_;unfold wU;rw[fI];rcases gH.1 x2 with h3|h3
          .rw[Eb]at h3;exact qg _ h3
          .exact uQ _ (by simpa using h3)⟩
         go_wp2;go_meet
         case rel=>exact⟨β,a9,c9,l9,rfl,hR,hJ,fx9,kh,ae λ_=>ip.out⟩
       have qi:¬(n:Int)<(ct:Int):=by omega
       refine aV 25 [_,_,_,_,_,_,_,_,_,_,_,_,_,_,_,_,_,_,_,_,_,_,_,_,.v (.bool false)] (Gk rfl (Gk rfl (Gb (.bool false) (by simp[go_sem,qi]) rfl rfl rfl rfl rfl (Gk rfl (Gk rfl (Gk rfl (Gk rfl (Gk rfl (Gk rfl (Gk rfl (Gk rfl (Gk rfl (Gk rfl (Gk rfl (Gk rfl (Gk rfl (Gk rfl (Gk rfl (Gk rfl (Gk rfl (Gk rfl (Gk rfl (Gk rfl (Gk rfl (Gk rfl (aI)))))))))))))))))))))))))) (λ_=>rfl) rfl ?_;intro y W9 hy _;have hR:=hG.below hy;have hJ:=(MS.refl wc b S8).below hy;have fx9:=fx8.ext hy;have kh:=ae (ki.out.1.below hy);clear hy hG fx8 ki;go_wp2;go_meet
       case rel=>exact⟨false,S8.al,S8.cl,S8.l,rfl,hR,hJ,fx9,kh,ae λe=>(by cases e)⟩
      case rest=>
      obtain⟨β,a9,c9,l9,rfl,hR,hJ,fx9,kh,hβ⟩:=hcut;have kX:=ae ki.out.2;have hJ:=hA.trans hJ;have kC:Hid (Jq f s ct Z.H.asl fi0 bk qu (S8.lst a9 c9 l9)/\Fb ct bk qu (fi0.map PF.fi) xs/\xs.length=i):=ae ⟨gl.out.1.lst _ _ _,gl.out.2⟩;have ko:Hid (¬nL b (S8.lst a9 c9 l9) gf0):=k9;have kF:Hid (∀g,(nQ ⟨x,K,xs,Q⟩).ownBlock=some g->¬nL b (S8.lst a9 c9 l9) g):=k6;clear hG hA gl fx8 ki k9 k6;generalize S8.lst a9 c9 l9=S9 at hR hJ kC ko kF;go_upto_if 109 with(fail);have ez:Hid (xs.length=i):=ae kC.out.2.2;have xE:Hid (xs.length<=C):=ae (by have:=kC.out.2.2;omega)
      go_cut [13] (fun s13 wx => ∃(v:Int) (S:MW) (bk:List Page) (qu:List (Int × Page)),s13 = .int .i64 v/\fD wx b b S/\MS w6 b S6 wx S/\Hid (¬nL b S gf0)/\Hid (Jq f s ct Z.H.asl fi0 bk qu S/\Fb ct bk qu (fi0.map PF.fi) (xs++[v]))/\aG wx gf0 (qF ⟨x,K,xs,Q⟩) 101/\Hid (Own wx b 3 1 (nQ ⟨x,K,xs,Q⟩) xs.length (xs.map gB)))
      case first=>
       cases β with
       | false=>
        go_wp2;go_meet
        case rel=>exact⟨-1,S9,bk,qu,rfl,hR,hJ,ko,ae ⟨kC.out.1,kC.out.2.1.none⟩,fx9,kh⟩
       | true=>
        have gF:=ae (hβ.out rfl);clear hβ
        go_wp2_with fail
        refine(yQ S9 b b _ hR).mono ?_;rintro r w10 ⟨P,a10,c10,l10,rfl,ke,hK⟩;have fx10:=hK.blkN fx9 ko.out;have qD:Hid (Own w10 b 3 1 (nQ ⟨x,K,xs,Q⟩) xs.length (xs.map gB)):=ae (hK.ownN kh.out kF.out);have hK:=hJ.trans hK;have hY:Hid (Jq f s ct Z.H.asl fi0 bk qu (S9.lst a10 c10 l10)/\Fb ct bk qu (fi0.map PF.fi) xs/\xs.length=i):=ae ⟨kC.out.1.lst _ _ _,kC.out.2⟩;have kT:Hid (¬nL b (S9.lst a10 c10 l10) gf0):=ko;have gO:Hid (∀g,(nQ ⟨x,K,xs,Q⟩).ownBlock=some g->¬nL b (S9.lst a10 c10 l10) g):=kF;clear hR hJ kC fx9 kh ko kF;generalize S9.lst a10 c10 l10=S10 at ke hK hY kT gO
        go_wp2_with (refine aK rfl _ _ _ rfl (eQ P) rfl rfl rfl psize (fM P) ?_)
        intro w11 kM px11;have kn:=ke.below kM;have kb:=hK.below kM;have fx11:=fx10.ext kM;have qC:Hid (Own w11 b 3 1 (nQ ⟨x,K,xs,Q⟩) xs.length (xs.map gB)):=ae (qD.out.below kM);have xi:=ae (ke.new (az _));have gi:=ae hK.size;have im:b<=w10.heap.size:=ke.bs;have ik:Hid (w10.heap.size≠gf0):=ae (λe=>by have:=fx10.lt;omega);clear ke hK fx10 qD kM;generalize w10.heap.size=gp at *
        go_upto_region 21 with(fail)
        go_loopw [113] (fun j wr => ∃k:Nat,k<=8/\j = .int .i64 k/\fD wr b b S10/\MS w6 b S6 wr S10/\aG wr gp (eQ (iK P (x-(i:Int)*8) k)) 58/\aG wr gf0 (qF ⟨x,K,xs,Q⟩) 101/\Hid (Own wr b 3 1 (nQ ⟨x,K,xs,Q⟩) xs.length (xs.map gB))) (fun j _=>8-(intOf j).toNat)
        case atStart=>exact⟨0,by omega,rfl,kn,kb,by rw[show iK P (x-(i:Int)*8) 0=P from by ext j hj;simp[iK]];exact px11,fx11,qC⟩
        case round=>
         clear kn kb px11 fx11 qC;obtain⟨k,hk,rfl,I,Y,px,fx,ho⟩:=hrel
         by_cases hk8:k<8
         .have ir:(k:Int)<8:=by omega
          have kJ:=fx.cell;unfold qF at kJ;have i9:IntKind.i64.wrap (8*(i:Int))=8*(i:Int):=bI _ (by omega);have i8:IntKind.i64.wrap (8*(i:Int)+(k:Int))=8*(i:Int)+(k:Int):=bI _ (by omega)
          by_cases hge:x<=8*(i:Int)+k
          .have hX:Hid ((eQ (iK P (x-(i:Int)*8) k)).setIfInBounds k (.int .u8 0)=eQ (iK P (x-(i:Int)*8) (k+1))):=ae (by rw[<-yV P _ k hk8 (by omega)];exact Aj _ k hk8 0);generalize hT:iK P (x-(i:Int)*8) k=T at px hX;clear hT
           go_wp2_with (refine aB rfl _ _ _ rfl gp k _ [.int .u8 0] rfl rfl rfl _ _ px (by show k+1<=8;omega) (by kernel_rfl) (λu hu=>by cases bB.1 hu;rfl) ?_)
           intro w12 px12 hU;rw[Pw.putAt_one,hX.out] at px12;have x4:=I.locT px (by decide) xi.out im hU;have xW:=Y.loc hU gi.out;have fx12:=fx.grown hU (λe=>ik.out (by have:=aM e;omega));have x0:Hid (Own w12 b 3 1 (nQ ⟨x,K,xs,Q⟩) xs.length (xs.map gB)):=ae (ax ho.out px (by decide) hU);clear I Y px hU kJ fx ho;go_wp2;go_roundw
           case rel=>exact⟨k+1,by omega,by go_num,x4,xW,px12,fx12,x0⟩
           case measure=>simp[intOf];omega
          have hX:iK P (x-(i:Int)*8) k=iK P (x-(i:Int)*8) (k+1):=by
           ext j hj
           simp only[iK,qY]
           by_cases e:x-(i:Int)*8<=(j:Int)
           .rw[if_neg (by omega),if_neg (by omega)]
           .rw[if_neg (by omega),if_neg (by omega)]
          rw[hX] at px;clear hX;go_wp2;go_roundw
          case rel=>exact⟨k+1,by omega,by go_num,I,Y,px,fx,ho⟩
          case measure=>simp[intOf];omega
         have ir:¬(k:Int)<8:=by omega
         rw[yg _ _ k (by omega)]at px;generalize dw P (x-(i:Int)*8)=PC at px;have qH:n<ct:=gF.out.1;have xq:S10.H.dk.blocks.length=ct:=by rw[hY.out.1.dk];exact hY.out.2.1.cl.1
         obtain⟨g,off,cap,cur,hv,kU,hg,xo,qf,gS⟩:=I.ma.dk.b.put nM (by decide) n (by rw[xq];exact qH);have gX:S10.H.db=some ⟨g,off,none⟩:=(oU hv).1;have gR:=ae gS;have eg:=ae xq;have qU:=ae gX;have ij:Hid (gp≠g):=ae (λe=>xi.out (by rw[e];exact .inr (by simp only[iW,gX];simp[oB,Value.ownBlock])));have ix:Hid (gf0≠g):=ae (λe=>kT.out (by rw[e];exact .inr (by simp only[iW,gX];simp[oB,Value.ownBlock])));have is:Hid (nL b S10 g):=ae (.inr (by simp only[iW,gX];simp[oB,Value.ownBlock]));clear hv qf gS xq gX;go_upto_region 26 with(fail);refine aV 9 [_,_,_,_,_,_,_,_,_] (Gk rfl (Gk rfl (Gf b 1 rfl rfl (Gf b 6 rfl rfl (Gf b 6 rfl rfl (Gl I.blk (V:=.slice (some ⟨g,off,none⟩) ct S10.H.cdb) (by simp[jI,qU.out,eg.out]) rfl rfl rfl rfl (Gk rfl (Gr (.agg #[.int .u8 PC[0].toNat,.int .u8 PC[1].toNat,.int .u8 PC[2].toNat,.int .u8 PC[3].toNat,.int .u8 PC[4].toNat,.int .u8 PC[5].toNat,.int .u8 PC[6].toNat,.int .u8 PC[7].toNat]) (λρ y W A hZ=>(bH rfl (aL rfl hZ) (bF (px.ext A) 0 8) underlying58 rfl (by kernel_rfl))) rfl rfl (Gr (.pointer (some ⟨g,off+n*8,none⟩)) (λρ y W A hZ=>(cO rfl (aL rfl hZ) (aL rfl hZ) qH underlying35 psize)) rfl rfl (aI)))))))))) (λ_=>rfl) rfl ?_;intro y W13 hL _;have qP:=I.below hL;have qs:=Y.below hL;have px13:=px.ext hL;have fx13:=fx.ext hL;have qA:=ae (ho.out.below hL);have gb:=hg.ext hL;clear I Y px fx ho hg hL
         go_wp2_with (refine aB rfl _ _ _ rfl g (off+n*8) _ (Dy PC) rfl rfl rfl _ _ gb (by show off+n*8+8<=cur.size;omega) (by kernel_rfl) (bT (fM PC)) ?_)
         intro w14 qZ kp;have xY:=gR.out _ PC qZ;have gL:fD w14 b b { S10 with H:={ S10.H with dk:=⟨S10.H.dk.blocks.set n PC,S10.H.dk.queue⟩ } }:=qP.putD gb kU (by rw[qU.out];rfl) kp (l:=S10.H.dk.blocks.set n PC) (by simp) (by simpa using xY);have gy:MS w6 b S6 w14 { S10 with H:={ S10.H with dk:=⟨S10.H.dk.blocks.set n PC,S10.H.dk.queue⟩ } }:=qs.put kp is.out (λx X => .inl X);have px14:=px13.grown kp (λe=>ij.out (aM e).symm);have fx14:=fx13.grown kp (λe=>ix.out (aM e).symm);have qy:Hid (Own w14 b 3 1 (nQ ⟨x,K,xs,Q⟩) xs.length (xs.map gB)):=ae (ax qA.out gb (by decide) kp);have qa:Hid (Jq f s ct Z.H.asl fi0 (bk.set n PC) qu { S10 with H:={ S10.H with dk:=⟨S10.H.dk.blocks.set n PC,S10.H.dk.queue⟩ } }):=ae (by have h9:=hY.out.1;exact⟨h9.m,h9.asl,h9.sl,h9.sw,by show(⟨S10.H.dk.blocks.set n PC,S10.H.dk.queue⟩:vQ)=_;rw[h9.dk],h9.fi,h9.ct,h9.ca,h9.sp,h9.T⟩);have kz:Hid (¬nL b { S10 with H:={ S10.H with dk:=⟨S10.H.dk.blocks.set n PC,S10.H.dk.queue⟩ } } gf0):=kT;have kr:Hid (¬nL b { S10 with H:={ S10.H with dk:=⟨S10.H.dk.blocks.set n PC,S10.H.dk.queue⟩ } } gp):=xi;have kx:Hid (∀g,(nQ ⟨x,K,xs,Q⟩).ownBlock=some g->¬nL b { S10 with H:={ S10.H with dk:=⟨S10.H.dk.blocks.set n PC,S10.H.dk.queue⟩ } } g):=gO;clear qP qs px13 fx13 qA gb xY qZ kp;generalize { S10 with H:={ S10.H with dk:=⟨S10.H.dk.blocks.set n PC,S10.H.dk.queue⟩ } }=S14 at gL gy qa kz kr kx
         go_wp2_with fail
         refine(fV S14 2 b b _ gL (by omega)).mono ?_;rintro r w15 ⟨z,a15,c15,l15,rfl,km,hQ,hz,_⟩;have fx15:=hQ.blkN fx14 kz.out;have px15:=hQ.blkN px14 kr.out;have gC:Hid (Own w15 b 3 1 (nQ ⟨x,K,xs,Q⟩) xs.length (xs.map gB)):=ae (hQ.ownN qy.out kx.out);have hQ:=gy.trans hQ;have gc:Hid (Jq f s ct Z.H.asl fi0 (bk.set n PC) qu (S14.lst a15 c15 l15)):=ae (qa.out.lst _ _ _);have ky:Hid (¬nL b (S14.lst a15 c15 l15) gf0):=kz;have xh:Hid (¬nL b (S14.lst a15 c15 l15) gp):=kr;have gN:Hid (∀g,(nQ ⟨x,K,xs,Q⟩).ownBlock=some g->¬nL b (S14.lst a15 c15 l15) g):=kx;clear gL gy fx14 px14 qy qa kz kr kx;generalize S14.lst a15 c15 l15=S15 at km hQ gc ky xh gN
         by_cases hz1:z=1
         .subst hz1;have ja:S15.H.dk.queue.length<=100:=by have h1:=hY.out.2.1.ql;have h2:=hY.out.2.2;have h3:=qe.out;rw[gc.out.dk];rw[dV]at h1;show qu.length<=100;omega
          have gG:Hid (∀g,(Value.slice S15.H.dq S15.H.dk.queue.length S15.H.cdq).ownBlock=some g->g≠b/\∀t∈[(gp,eQ PC,58),(gf0,qF ⟨x,K,xs,Q⟩,101)],t.1≠g):=ae (λg hg=>by
           obtain⟨cs,hk⟩:=mR km.ma.dk.q g hg;refine⟨λe=>mD hk km.blk (by decide) e,λt ht => ?_⟩;simp only[dx,gW,or_false]at ht;rcases ht with rfl|rfl
           .exact mD px15 hk (by decide)
           .exact mD fx15 hk (by decide))
          have gQ:Hid (∀t∈[(gp,eQ PC,58),(gf0,qF ⟨x,K,xs,Q⟩,101)],aG w15 t.1 t.2.1 t.2.2):=ae (λt ht=>by
           simp only[dx,gW,or_false]at ht;rcases ht with rfl|rfl
           .exact px15
           .exact fx15)
          go_upto_region 28 with(fail);refine iI 16 [_,_,_,_,_,_,.v (.slice S15.H.dq S15.H.dk.queue.length S15.H.cdq),_,.v (.agg (eQ PC)),.v (.agg (GV ((n:Int),PC))),.r 10 ((dF λ_=>True)),.r 11 ((dF λ_=>True)),_,_,_,_] (EQ S15 b b w15 [(gp,eQ PC,58),(gf0,qF ⟨x,K,xs,Q⟩,101)] 11 10 105 9 S15.H.dk.queue.length (.slice S15.H.dq S15.H.dk.queue.length S15.H.cdq) (S15.H.dk.queue.flatMap zI) (zI ((n:Int),PC))) fK (λy=>Uo km gQ.out y) (Qk fK rfl (Qk fK rfl (Qk fK rfl (Qf fK b 1 rfl rfl (Qf fK b 6 rfl rfl (Qf fK b 7 rfl rfl (ah ?_ (Qk fK rfl (ah ?_ (ah ?_ (ah ?_ (ah ?_ (Qk fK rfl (Qf fK b 1 rfl rfl (Qf fK b 6 rfl rfl (Qf fK b 7 rfl rfl (aI) (λ_ _ _ _ d h=>gI (by decide) h)) (λ_ _ _ _ d h=>gI (by decide) h)) (λ_ _ _ _ d h=>gI (by decide) h)) (λ_ _ _ _ d h=>gI (by decide) h)))))) (λ_ _ _ _ d h=>gI (by decide) h))) (λ_ _ _ _ d h=>gI (by decide) h)) (λ_ _ _ _ d h=>gI (by decide) h)) (λ_ _ _ _ d h=>gI (by decide) h)) (λ_ _ _ _ d h=>gI (by decide) h)) (λ_ _ _ _ d h=>gI (by decide) h)) (λ_ _ _ _ d h=>gI (by decide) h)) (λ_=>rfl) rfl ?_
          .intro ρ y W L D hn o d A G;refine fZ fK (λ_ _ h=>gI (by decide) h) A ?_;have eZ:=D 143 5 rfl;have h5:y 5=_:=G 5 rfl;have m1:=A.1.1;refine ak (.slice S15.H.dq S15.H.dk.queue.length S15.H.cdq) (aj rfl) (by simp[execOp,go_sem,eZ,h5,m1.cell,jI]) rfl
          .intro ρ y W L D hn o d A G;refine fZ fK (λ_ _ h=>gI (by decide) h) A ?_;have iY:ρ (.tmp 15) = .pointer (some ⟨gp,0,none⟩):=(hn (.tmp 15) rfl).trans rfl;have m3:=A.1.2 _ iM;refine ak (.agg (eQ PC)) (aj rfl) (eD rfl iY m3 underlying58 rfl psize) rfl
          .intro ρ y W L D hn o d A G;refine fZ fK (λ_ _ h=>gI (by decide) h) A ?_;have eX:=D 145 7 rfl;have h7:y 7=_:=G 7 rfl;have eW:=D 146 8 rfl;have h8:y 8=_:=G 8 rfl;refine ak (.agg (GV ((n:Int),PC))) (aj rfl) (by simp[execOp,go_sem,eX,h7,eW,h8,eQ,GV]) rfl
          .intro ρ y W L D hn o d A G;have eV:=D 147 9 rfl;have h9:y 9=_:=G 9 rfl;refine fH (.slice (some ⟨W.heap.size,0,none⟩) 1 1) (aj rfl) ?_ (Uz (W':=W.alloc (.cells (GV ((n:Int),PC)) 105)) (by decide) ((Below.refl _ _).alloc (az _) _) A ⟨az _,by unfold maxLen;omega,λe=>(by cases e),eB.new _ _ _⟩) trivial;simp[execOp,go_sem,eV.trans h9,GV]
          .intro ρ y W L D hn o d A G;have eY:=D 144 6 rfl;have h6:y 6=_:=G 6 rfl;have eU:=D 148 10 rfl;have xF:=G 10 rfl;have I:=(A.2.1 o).1;obtain⟨a,e,ge,kN⟩:=A.2.2.1 (d 10 rfl) o;have xg:Own W b 105 9 (.slice S15.H.dq S15.H.dk.queue.length S15.H.cdq) S15.H.dk.queue.length (S15.H.dk.queue.flatMap zI):=I.ma.dk.q;refine mf (aj rfl) (qB _ _ _ rfl b 105 _ 9 16 underlying36 put_info rfl (by decide) (.slice S15.H.dq S15.H.dk.queue.length S15.H.cdq) S15.H.dk.queue.length _ (eY.trans h6) xg a 1 e (zI ((n:Int),PC)) (eU.trans ge) kN.nl kN.le rfl kN.rd (bT (Ou _)) (by unfold maxLen;omega) (by omega) I.bs) (λv W1 h=>Tg o A h.2.1 gG.out h.1 h.2.2) (λ_ _ _=>trivial)
          intro y W16 kB xy;clear xy;obtain⟨wq,kj,kD,kG,kq,ka⟩:=kB.2.2.2 rfl;have kV:=kB.1.1;have fx16:aG W16 gf0 (qF ⟨x,K,xs,Q⟩) 101:=kB.1.2 _ (jW _ iM);have qx:Hid (Own W16 b 3 1 (nQ ⟨x,K,xs,Q⟩) xs.length (xs.map gB)):=ae (by
           have h1:=kD.ownN gC.out gN.out;rcases sV kj.ma.dk.q kG with hb0|⟨g,cs,hk,_,hg'⟩
           .exact h1.below hb0
           .exact ax h1 hk (by decide) hg')
          have i1:=ae kD;have qr:=hQ.trans kD;obtain⟨aq,cq,gm,_⟩:=kq.rd;rw[gm]at kq ka ⊢;clear gm kB km hQ px15 fx15 gC kD gQ gG
          go_wp2_with (refine aB rfl _ _ _ rfl b 7 _ [.slice aq (S15.H.dk.queue.length+1) cq] rfl rfl rfl _ _ kV (by show 7+1<=13;omega) (by kernel_rfl) (λu hu=>by cases bB.1 hu;rfl) ?_)
          intro w17 kK hS;have hD:(S15.H.dk.queue++[((n:Int),PC)]).length=S15.H.dk.queue.length+1:=by simp
          have gA : Own W16 b 105 9 (.slice aq (S15.H.dk.queue++[((n:Int),PC)]).length cq) (S15.H.dk.queue++[((n:Int),PC)]).length ((S15.H.dk.queue++[((n:Int),PC)]).flatMap zI):=by rw[hD,fI];simpa using kq
          have gK:=kj.appQ kG gA (by rw[hD];exact kK) hS;have gJ:∀x,nL b { S15 with H:={ S15.H with dq:=aq,cdq:=cq,dk:=⟨S15.H.dk.blocks,S15.H.dk.queue++[((n:Int),PC)]⟩ } } x->nL b S15 x\/oB aq=some x:=λx X=>by
           rcases X with X|X
           .exact .inl (.inl X)
           simp only[iW,dx,gW,or_false]at X;rcases X with X|X|X|X|X|X|X|X|X<;>first|exact .inr X.symm|exact .inl (.inr (by simp[iW,X]))
          have kE:=qr.app kj kj.ma.dk.q (by simp[iW]) kG hS ka gJ;have hqN:Hid (¬nL b { S15 with H:={ S15.H with dq:=aq,cdq:=cq,dk:=⟨S15.H.dk.blocks,S15.H.dk.queue++[((n:Int),PC)]⟩ } } gf0):=ae (λhk=>(gJ gf0 hk).elim ky.out λe=>mD (je gA e).2.choose_spec fx16 (by decide) rfl);have fx17:=fx16.grown hS (λe=>ky.out (.inl (aM e).symm));have xZ:Hid (Own w17 b 3 1 (nQ ⟨x,K,xs,Q⟩) xs.length (xs.map gB)):=ae (ax qx.out kV (by decide) hS);have g9:Hid (Jq f s ct Z.H.asl fi0 (bk.set n PC) (qu++[((n:Int),PC)]) { S15 with H:={ S15.H with dq:=aq,cdq:=cq,dk:=⟨S15.H.dk.blocks,S15.H.dk.queue++[((n:Int),PC)]⟩ } }/\Fb ct (bk.set n PC) (qu++[((n:Int),PC)]) (fi0.map PF.fi) (xs++[(n:Int)])):=ae (by have h9:=gc.out;exact⟨⟨h9.m,h9.asl,h9.sl,h9.sw,by show(⟨S15.H.dk.blocks,S15.H.dk.queue++[((n:Int),PC)]⟩:vQ)=_;rw[h9.dk],h9.fi,h9.ct,h9.ca,h9.sp,h9.T⟩,hY.out.2.1.wait gF.out.1 gF.out.2 PC⟩);clear kj kG kq ka kV fx16 qx qr kK hD gA hS gJ;go_wp2;go_meet
          case rel=>exact⟨(n:Int),_,_,_,rfl,gK,kE,hqN,g9,fx17,xZ⟩
         have g9:Hid (Jq f s ct Z.H.asl fi0 (bk.set n PC) qu S15/\Fb ct (bk.set n PC) qu (fi0.map PF.fi) (xs++[(n:Int)])):=ae ⟨gc.out,hY.out.2.1.some gF.out.1 gF.out.2 PC⟩;go_wp2;go_meet
         case rel=>exact⟨(n:Int),S15,_,_,rfl,km,hQ,ky,g9,fx15,gC⟩
      case rest=>
      obtain⟨v,S,bk,qu,rfl,I,Y,x8,hF,fx,ho⟩:=hcut;clear hR hJ kC fx9 kh ko kF;have kJ:=fx.cell;unfold qF at kJ;have jh:=ae hF.out.2;have xK:xs.length<=100:=by have h1:=xE.out;omega
      have jb:=ae xK
      go_wp2_with (at_builtin;go_must (refine uo rfl _ _ 33 rfl b 3 (.int .i64 0) 1 8 underlying33 int_info rfl (by decide) (nQ ⟨x,K,xs,Q⟩) xs.length (xs.map gB) rfl (ho.out.alloc _) (some ⟨wc.heap.size,0,none⟩) 1 1 [gB v] rfl (λh=>(by cases h)) (az _) rfl (eB.new _ #[gB v] _) (by simp[gB,Value.oneCell']) (by unfold maxLen;omega) (by omega) (dI I.bs _) ?_))
      intro v2 w2 own2 gk gu;have g4:=(Below.refl wc.heap.size wc).alloc (az _) (.cells #[gB v] 3);have gj:=I.below g4;have gz:=Y.below g4;have fx1:=fx.ext g4;have gD:Own (wc.alloc (.cells #[gB v] 3)) b 3 1 (.slice K xs.length Q) xs.length (xs.map gB):=ho.out.below g4;obtain⟨a2,c2,xR,_⟩:=own2.rd;rw[xR]at own2 gu ⊢;have ec:Hid (∀g,oB a2=some g->w6.heap.size<=g/\oB Z.H.asl≠some g/\∀p∈fi0,oB p.a≠some g):=ae (λg hg=>by
       rcases gu with e1|e1
       .unfold nQ at e1;rw[jF,jF]at e1;exact kX.out g (by rw[<-e1];exact hg)
       have h1:=e1 g (by rw[jF];exact hg);refine⟨bi gz.size h1,λe => ?_,λp hp e => ?_⟩
       .exact absurd h1 (Nat.not_le.2 (je gj.ma.sl (by rw[hF.out.1.asl];exact e)).2.choose_spec.lt)
       rw[<-hF.out.1.fi]at hp;obtain⟨k,hk,rfl⟩:=jM.1 hp;exact absurd h1 (Nat.not_le.2 (je (gj.ma.st.each k _ (aF hk)) e).2.choose_spec.lt))
      have x3:fD w2 b b S:=by
       rcases sV gD gk with hb0|⟨g,cs,hk,hga,hg'⟩
       .exact gj.below hb0
       .exact gj.locI hk (gj.kb_int hk (by rw[hF.out.1.asl];exact(kX.out g hga).2.1)) (by rw[hF.out.1.fi];exact(kX.out g hga).2.2) (je gD hga).1 hg'
      have xV:MS w6 b S6 w2 S:=by
       rcases sV gD gk with hb0|⟨g,cs,hk,hga,hg'⟩
       .exact gz.below hb0
       .exact gz.loc hg' (kX.out g hga).1
      have fx2:aG w2 gf0 (qF ⟨x,K,xs,Q⟩) 101:=by
       rcases sV gD gk with hb0|⟨g,cs,hk,hga,hg'⟩
       .exact fx1.ext hb0
       .exact bY fx1 hk (by decide) hg'
      clear kJ I Y fx gj gz fx1 gD gk gu g4 ho xR
      go_wp2_with (refine aB rfl _ _ _ rfl gf0 1 _ [.slice a2 (xs.length+1) c2] rfl rfl rfl _ _ fx2 (by show 1+1<=2;omega) (by kernel_rfl) (λu hu=>by cases bB.1 hu;rfl) ?_)
      intro w3 ej qh;have kZ:(xs++[v]).length=xs.length+1:=by simp
      have fx3:aG w3 gf0 (qF ⟨x,a2,xs++[v],c2⟩) 101:=by
       have e:qF ⟨x,a2,xs++[v],c2⟩=bJ (qF ⟨x,K,xs,Q⟩) 1 [.slice a2 (xs.length+1) c2]:=by unfold qF;dsimp only;rw[kZ];kernel_rfl
       rw[e];exact ej
      have iq:=x3.locT fx2 (by decide) x8.out kU qh;have id:=xV.loc qh iu.out;have io:Hid (Own w3 b 3 1 (nQ ⟨x,a2,xs++[v],c2⟩) (xs++[v]).length ((xs++[v]).map gB)/\∀g,oB a2=some g->w6.heap.size<=g/\oB Z.H.asl≠some g/\∀p∈fi0,oB p.a≠some g):=ae ⟨by
       have h1:=ax own2 fx2 (by decide) qh;unfold nQ;dsimp only;rw[kZ,jJ];exact h1,ec.out⟩
      have iz:Hid (Jq f s ct Z.H.asl fi0 bk qu S/\Fb ct bk qu (fi0.map PF.fi) (xs++[v])/\(xs++[v]).length=i+1):=ae ⟨hF.out.1,hF.out.2,by rw[kZ,ez.out]⟩;clear x3 xV fx2 own2 ej qh kZ xK;go_wp2;go_roundw
      case rel=>exact⟨i+1,S,bk,qu,xs++[v],a2,c2,by omega,by go_num,iq,id,x8,iz,fx3,io⟩
      case measure=>simp[intOf];omega
     have it:¬(i:Int)<(C:Int):=by omega
     have x9 : i=C:=by omega
     subst x9;have i5:S.H.fi.length<=5:=by rw[O.out.1.fi];have:=qe.out;omega
     have qR:∀g,(Value.slice S.H.ai S.H.fi.length S.H.ci).ownBlock=some g->nL b S g:=λg hg => .inr (by rw[jF]at hg;simp[iW,hg]);have gG:Hid (∀g,(Value.slice S.H.ai S.H.fi.length S.H.ci).ownBlock=some g->g≠b/\∀t∈[(gf0,qF ⟨x,K,xs,Q⟩,101)],t.1≠g):=ae (λg hg=>by obtain⟨cs,hk⟩:=mR I.ma.st.own g hg;refine⟨λe=>mD hk I.blk (by decide) e,λt ht => ?_⟩;rw[bB.1 ht];intro e;exact ga.out (by rw[show gf0=g from e];exact qR g hg));have gQ:Hid (∀t∈[(gf0,qF ⟨x,K,xs,Q⟩,101)],aG wr t.1 t.2.1 t.2.2):=ae (λt ht=>by rw[bB.1 ht];exact fx);go_upto_region 31 with(fail);refine iI 14 [_,_,_,_,_,_,.v (.slice S.H.ai S.H.fi.length S.H.ci),.v (.agg (qF ⟨x,K,xs,Q⟩)),.r 8 ((dF λ_=>True)),.r 9 ((dF λ_=>True)),_,_,_,_] (EQ S b b wr [(gf0,qF ⟨x,K,xs,Q⟩,101)] 9 8 101 2 S.H.fi.length (.slice S.H.ai S.H.fi.length S.H.ci) (S.H.fi.flatMap rH) (rH ⟨x,K,xs,Q⟩)) fK (λy=>Uo I gQ.out y) (Qk fK rfl (Qk fK rfl (Qk fK rfl (Qf fK b 1 rfl rfl (Qf fK b 8 rfl rfl (Qf fK b 8 rfl rfl (ah ?_ (ah ?_ (ah ?_ (ah ?_ (Qk fK rfl (Qf fK b 1 rfl rfl (Qf fK b 8 rfl rfl (Qf fK b 8 rfl rfl (aI) (λ_ _ _ _ d h=>gI (by decide) h)) (λ_ _ _ _ d h=>gI (by decide) h)) (λ_ _ _ _ d h=>gI (by decide) h)) (λ_ _ _ _ d h=>gI (by decide) h)))))) (λ_ _ _ _ d h=>gI (by decide) h)) (λ_ _ _ _ d h=>gI (by decide) h)) (λ_ _ _ _ d h=>gI (by decide) h)) (λ_ _ _ _ d h=>gI (by decide) h)) (λ_ _ _ _ d h=>gI (by decide) h)) (λ_ _ _ _ d h=>gI (by decide) h)) (λ_=>rfl) rfl ?_
     .intro ρ y W L D hn o d A G;refine fZ fK (λ_ _ h=>gI (by decide) h) A ?_;have eT:=D 166 5 rfl;have h5:y 5=_:=G 5 rfl;have m1:=A.1.1;refine ak (.slice S.H.ai S.H.fi.length S.H.ci) (aj rfl) (by simp[execOp,go_sem,eT,h5,m1.cell,jI]) rfl
     .intro ρ y W L D hn o d A G;refine fZ fK (λ_ _ h=>gI (by decide) h) A ?_;have xG:ρ (.tmp 11) = .pointer (some ⟨gf0,0,none⟩):=(hn (.tmp 11) rfl).trans rfl;have m3:=A.1.2 _ iM;refine ak (.agg (qF ⟨x,K,xs,Q⟩)) (aj rfl) (eD rfl xG m3 underlying101 rfl file_size) rfl
     .intro ρ y W L D hn o d A G;have eR:=D 168 7 rfl;have h7:y 7=_:=G 7 rfl;refine fH (.slice (some ⟨W.heap.size,0,none⟩) 1 1) (aj rfl) ?_ (Uz (W':=W.alloc (.cells (qF ⟨x,K,xs,Q⟩) 101)) (by decide) ((Below.refl _ _).alloc (az _) _) A ⟨az _,by unfold maxLen;omega,λe=>(by cases e),eB.new _ _ _⟩) trivial;simp[execOp,go_sem,eR.trans h7,qF]
     .intro ρ y W L D hn o d A G;have eS:=D 167 6 rfl;have h6:y 6=_:=G 6 rfl;have eP:=D 169 8 rfl;have h8:=G 8 rfl;have I:=(A.2.1 o).1;obtain⟨a,e,ge,kN⟩:=A.2.2.1 (d 8 rfl) o;have xg:Own W b 101 2 (.slice S.H.ai S.H.fi.length S.H.ci) S.H.fi.length (S.H.fi.flatMap rH):=I.ma.st.own;refine mf (aj rfl) (qB _ _ _ rfl b 101 _ 2 32 underlying39 file_info rfl (by decide) (.slice S.H.ai S.H.fi.length S.H.ci) S.H.fi.length _ (eS.trans h6) xg a 1 e (rH ⟨x,K,xs,Q⟩) (eP.trans ge) kN.nl kN.le rfl kN.rd (bT (rO _)) (by unfold maxLen;omega) (by omega) I.bs) (λv W1 h=>Tg o A h.2.1 gG.out h.1 h.2.2) (λ_ _ _=>trivial)
     intro y W8 g0 es;clear es;obtain⟨wq,kj,kD,kG,kq,ka⟩:=g0.2.2.2 rfl;have qV:=g0.1.1;have qv:=kD.ownN ho.out.1 (λg hg=>by obtain⟨cs,hk⟩:=mR ho.out.1 g hg;refine I.kb_int hk ?_;rw[O.out.1.asl];exact(ho.out.2 g (by unfold nQ at hg;rw[jF]at hg;exact hg)).2.1);have hA:=Y.trans kD;obtain⟨aq,cq,gm,_⟩:=kq.rd;rw[gm]at kq ka ⊢;clear gm g0 I Y fx kD gQ gG qR
     go_wp2_with (refine aB rfl _ _ _ rfl b 8 _ [.slice aq (S.H.fi.length+1) cq] rfl rfl rfl _ _ qV (by show 8+1<=13;omega) (by kernel_rfl) (λu hu=>by cases bB.1 hu;rfl) ?_)
     intro w17 kK hS;have hD:(S.H.fi++[(⟨x,K,xs,Q⟩:PF)]).length=S.H.fi.length+1:=by simp
     have gK:fD w17 b b { S with H:={ S.H with ai:=aq,ci:=cq,fi:=S.H.fi++[(⟨x,K,xs,Q⟩:PF)] } }:=kj.appFi (p:=⟨x,K,xs,Q⟩) qv (λk p hp g hg hg'=>by unfold nQ at hg hg';rw[jF]at hg hg';exact(ho.out.2 g hg').2.2 p (by rw[<-O.out.1.fi];exact bS hp) hg) (λg hg=>by rw[O.out.1.asl];exact(ho.out.2 g hg).2.1) kG (by rw[hD];exact kq) (by rw[hD];exact kK) hS;have kE:MS w6 b S6 w17 { S with H:={ S.H with ai:=aq,ci:=cq,fi:=S.H.fi++[(⟨x,K,xs,Q⟩:PF)] } }:=hA.app kj kj.ma.st.own (by simp[iW]) kG hS ka (λx X=>by
      rcases X with X|X
      .exact .inl (.inl X)
      simp only[iW,dx,gW,or_false]at X;rcases X with X|X|X|X|X|X|X|X|X<;>first|exact .inr X.symm|exact .inl (.inr (by simp[iW,X])))
     have kE:=kg.trans kE;have ev:Hid (Jq f s ct Z.H.asl (S.H.fi++[(⟨x,K,xs,Q⟩:PF)]) bk qu { S with H:={ S.H with ai:=aq,ci:=cq,fi:=S.H.fi++[(⟨x,K,xs,Q⟩:PF)] } }/\Fb ct bk qu ((S.H.fi++[(⟨x,K,xs,Q⟩:PF)]).map PF.fi) []/\(S.H.fi++[(⟨x,K,xs,Q⟩:PF)]).length=q+1/\(q+1=0->bk=List.replicate ct zPg/\qu=[]/\(l=[]->S.l=[]))/\∀p∈S.H.fi++[(⟨x,K,xs,Q⟩:PF)],p.l.length<=5):=ae (by
      have h9:=O.out.1;refine⟨⟨h9.m,h9.asl,h9.sl,h9.sw,h9.dk,rfl,h9.ct,h9.ca,h9.sp,h9.T⟩,?_,by rw[hD,h9.fi,x6.out],λe=>absurd e (by omega),λp hp=>by
       rcases gH.1 hp with hp|hp
       .rw[h9.fi]at hp;exact ed.out p hp
       .rw[bB.1 hp];show xs.length<=5;have:=O.out.2.2;omega⟩
      rw[jJ,h9.fi];exact O.out.2.1.file (s:=x) (by omega) (by omega) (by rw[O.out.2.2,eA.out]))
     clear kj kG kq ka qV qv hA kK hD hS;go_wp2;go_roundw
     case rel=>exact⟨q+1,_,bk,qu,by omega,by go_num,gK,kE,ev⟩
     case measure=>simp[intOf];omega
   have gh:¬(q:Int)<(N:Int):=by omega
   have kA:Hid (Bd S.H.ma S.T/\OU S/\S.H.sp.length=0/\S.H.m.fs.length=f/\S.H.dk.blocks.length=ct/\(l=[]->S.l=[]/\S.H.ma=Cn f s ct (List.replicate ct zPg) [] []/\S.T=[])):=ae (by
    obtain⟨h1,h2,h3,h4,_⟩:=O.out;refine⟨by rw[h1.ma,h1.T];exact h2.bd (by rw[dV];omega) gV gx,⟨λp hp=>(by rw[h1.sp]at hp;cases hp),by rw[h1.fi];exact⟨qe.out,ed.out⟩⟩,by rw[h1.sp];rfl,by rw[h1.m];exact kL,by rw[h1.dk];exact h2.cl.1,λe => ?_⟩;have xB:=(x5.out e).1;have ih:q=0:=by omega
    obtain⟨k1,k2,k3⟩:=h4 ih;refine⟨k3 e,?_,h1.T⟩;have ef:fi0=[]:=Di.1 (by omega);rw[h1.ma,k1,k2,ef];rfl)
   clear O
   go_wp2_with fail
   refine(fV S 2 b b _ I (by omega)).mono ?_;rintro r w6 ⟨z,a6,c6,l6,rfl,kt,kg,hz,xb⟩;have kg:=Y.trans kg;have xH:IntKind.i64.wrap (1+z)=1+z:=bI _ (by omega);obtain⟨M,hM⟩:∃M:Nat,1+z=(M:Int):=⟨(1+z).toNat,by omega⟩;have jg:1<=M/\M<=2:=by omega
   have hV:Hid (Bd (S.lst a6 c6 l6).H.ma (S.lst a6 c6 l6).T/\OU (S.lst a6 c6 l6)/\(S.lst a6 c6 l6).H.sp.length=0/\(S.lst a6 c6 l6).H.m.fs.length=f/\(S.lst a6 c6 l6).H.dk.blocks.length=ct/\(l=[]->(S.lst a6 c6 l6).l=[]/\(S.lst a6 c6 l6).H.ma=Cn f s ct (List.replicate ct zPg) [] []/\(S.lst a6 c6 l6).T=[])):=ae
    ⟨kA.out.1,kA.out.2.1,kA.out.2.2.1,kA.out.2.2.2.1,kA.out.2.2.2.2.1,λe=>⟨(xb (kA.out.2.2.2.2.2 e).1).2,(kA.out.2.2.2.2.2 e).2⟩⟩
   have eu:Hid (l=[]->M=1):=ae (λe=>by have:=(xb (kA.out.2.2.2.2.2 e).1).1;omega);rw[hM]at xH;clear I Y kA hz xb;generalize S.lst a6 c6 l6=S6 at kt kg hV;go_upto_region 34 with(fail);clear hM xH
   go_loopw [179] (fun k wr => ∃(p:Nat) (S:MW),p<=M/\k = .int .i64 p/\fD wr b b S/\MS w4 b Z wr S/\Hid (Bd S.H.ma S.T/\OU S/\S.H.sp.length=p/\S.H.m.fs.length=f/\S.H.dk.blocks.length=ct/\(l=[]->S.l=[]/\((p=0->S.H.ma=Cn f s ct (List.replicate ct zPg) [] []/\S.T=[])/\(p=1->S.H.ma = { Cn f s ct (List.replicate ct zPg) [] [] with sp:=[⟨true,[],zTb⟩] }/\S.T=[List.replicate 64 zEn]))))) (fun k _=>M-(intOf k).toNat)
   case atStart=>exact⟨0,S6,bq _,rfl,kt,kg,ae ⟨hV.out.1,hV.out.2.1,hV.out.2.2.1,hV.out.2.2.2.1,hV.out.2.2.2.2.1,λe=>⟨(hV.out.2.2.2.2.2 e).1,λ_=>(hV.out.2.2.2.2.2 e).2,λh=>(by cases h)⟩⟩⟩
   case round=>
    clear kt kg hV;obtain⟨p,S,hp,rfl,I,Y,O⟩:=hrel
    by_cases hpM:p<M
    .have ii:(p:Int)<(M:Int):=by omega
     have k0:∀(S' : MW),More S S'->(l=[]->p=0->S'.l=[]/\S'.H.ma = { S.H.ma with sp:=S.H.ma.sp++[⟨true,[],zTb⟩] }/\S'.T=S.T++[List.replicate 64 zEn])->Bd S'.H.ma S'.T/\OU S'/\S'.H.sp.length=p+1/\S'.H.m.fs.length=f/\S'.H.dk.blocks.length=ct/\(l=[]->S'.l=[]/\((p+1=0->S'.H.ma=Cn f s ct (List.replicate ct zPg) [] []/\S'.T=[])/\(p+1=1->S'.H.ma = { Cn f s ct (List.replicate ct zPg) [] []with sp:=[⟨true,[],zTb⟩] }/\S'.T=[List.replicate 64 zEn]))):=λS' hB hn=>by
      obtain⟨h1,h2,h3,h4,h5,h6⟩:=O.out;refine⟨hB.bd,hB.fm,by rw[hB.sp,h3],by rw[hB.fs,h4],by rw[hB.dk,h5],λe => ?_⟩;have gi:p=0:=by have:=eu.out e;omega
      obtain⟨k1,k2,k3⟩:=hn e gi;obtain⟨q1,q2⟩:=(h6 e).2.1 gi;refine⟨k1,λh=>absurd h (by omega),λ_=>⟨by rw[k2,q1];rfl,by rw[k3,q2];rfl⟩⟩
     have kc:=ae k0;clear k0
     by_cases hp1:p=1
     .subst hp1
      go_wp2_with fail
      refine(fV S 2 b b _ I (by omega)).mono ?_;rintro r w7 ⟨z2,a7,c7,l7,rfl,kQ,gg,i7,_⟩;have gg:=Y.trans gg;clear I Y
      by_cases hz1:z2=1
      .subst hz1
       go_wp2_with fail
       refine (Pj (S.lst a7 c7 l7) b b _ kQ O.out.1 O.out.2.1 O.out.2.2.1).mono ?_;rintro r w8 ⟨S8,rfl,hG,hA,hB⟩;have hA:=gg.trans hA;have h0:=ae (kc.out S8 ⟨hB.bd,hB.fm,hB.fi,hB.ct,hB.dk,hB.sp,hB.fs⟩ (λ_ h=>absurd h (by decide)));clear kQ gg hB O;go_wp2;go_roundw
       case rel=>exact⟨2,S8,by omega,by go_num,hG,hA,h0⟩
       case measure=>simp[intOf];omega
      have i6:(z2==1)=false:=by simpa using hz1
      go_wp2_with fail
      refine (ES (S.lst a7 c7 l7) b b _ kQ O.out.1 O.out.2.1 (by have:=O.out.2.2.1;show S.H.sp.length<4;omega)).mono ?_;rintro r w8 ⟨S8,rfl,hG,hA,hB,_⟩;have hA:=gg.trans hA;have h0:=ae (kc.out S8 ⟨hB.bd,hB.fm,hB.fi,hB.ct,hB.dk,hB.sp,hB.fs⟩ (λ_ h=>absurd h (by decide)));clear kQ gg hB O;go_wp2;go_roundw
      case rel=>exact⟨2,S8,by omega,by go_num,hG,hA,h0⟩
      case measure=>simp[intOf];omega
     have gi:p=0:=by omega
     subst gi
     go_wp2_with fail
     refine (ES S b b _ I O.out.1 O.out.2.1 (by have:=O.out.2.2.1;omega)).mono ?_;rintro r w8 ⟨S8,rfl,hG,hA,hB,qE⟩;have hA:=Y.trans hA;have h0:=ae (kc.out S8 hB (λe _=>qE (O.out.2.2.2.2.2 e).1));clear I Y hB O qE;go_wp2;go_roundw
     case rel=>exact⟨0+1,S8,by omega,by go_num,hG,hA,ae ⟨h0.out.1,h0.out.2.1,h0.out.2.2.1,h0.out.2.2.2.1,h0.out.2.2.2.2.1,λe=>⟨(h0.out.2.2.2.2.2 e).1,(h0.out.2.2.2.2.2 e).2.1,λ_=>(h0.out.2.2.2.2.2 e).2.2 (by first | trivial | rfl)⟩⟩⟩
     case measure=>simp[intOf];omega
    have ii:¬(p:Int)<(M:Int):=by omega
    have il:M=p:=by omega
    subst il;have kY:Hid (Bd S.H.ma S.T/\S.T.length=M/\S.H.ma.sp.length=M):=ae (by have h1:=O.out.2.2.1;have h2:S.H.ma.sp.length=S.H.sp.length:=dV _;exact⟨O.out.1,by rw[O.out.1.ok.len];omega,by omega⟩);have ey:Hid (S.H.ma=tabs S.H.ma S.T 0/\S.T=S.T/\S.H.sp.length=M/\OU S/\S.H.m.fs.length=f/\S.H.dk.blocks.length=ct/\(l=[]->S.l=[])):=ae ⟨rfl,rfl,O.out.2.2.1,O.out.2.1,O.out.2.2.2.1,O.out.2.2.2.2.1,λe=>(O.out.2.2.2.2.2 e).1⟩;have qG:Hid (l=[]->fe S.H.ma S.T=xz f s ct):=ae (λe=>by obtain⟨k1,k2⟩:=(O.out.2.2.2.2.2 e).2.2 (eu.out e);rw[k1,k2];exact Ul gV gx gY);obtain⟨m5,kv⟩:∃m,S.H.ma=m:=⟨_,rfl⟩;obtain⟨T5,xx⟩:∃T,S.T=T:=⟨_,rfl⟩;have ex:Hid (S.H.ma=tabs m5 T5 0/\S.T=T5/\S.H.sp.length=M/\OU S/\S.H.m.fs.length=f/\S.H.dk.blocks.length=ct/\(l=[]->S.l=[])):=ae (by rw[<-kv,<-xx];exact ey.out);rw[kv,xx]at kY qG;have qo:S.H.sp.length=M:=O.out.2.2.1;clear O ey kv xx;have hc:=I.blk.cell;unfold jI at hc;rw[qo]at hc;clear qo;go_upto_region 41 with(fail);clear hc
    go_loopw [200] (fun k wr => ∃(q:Nat) (S:MW),q<=M/\k = .int .i64 q/\fD wr b b S/\MS w4 b Z wr S/\Hid (S.H.ma=tabs m5 T5 q/\S.T=T5/\S.H.sp.length=M/\OU S/\S.H.m.fs.length=f/\S.H.dk.blocks.length=ct/\(l=[]->S.l=[]))) (fun k _=>M-(intOf k).toNat)
    case atStart=>exact⟨0,S,bq _,rfl,I,Y,ex⟩
    case round=>
     clear I Y ex;obtain⟨q,S,hq,rfl,I,Y,O⟩:=hrel
     by_cases hqM:q<M
     .have gh:(q:Int)<(M:Int):=by omega
      obtain⟨P,hP⟩:∃P,S.H.sp[q]?=some P:=⟨_,aF (by rw[O.out.2.2.1];exact hqM)⟩;obtain⟨g,off,cur0,kX,_,_,_,_⟩:=I.setTb hP;have er:S.T.length=M:=by rw[O.out.2.1];exact kY.out.2.1
      obtain⟨gt,ot,ct',curt,xQ,_,xn,ea,qS,_⟩:=I.tt.put zo (by decide) q (by omega);have eo:S.ab=some ⟨gt,ot,none⟩:=(oU xQ).1;have qn:(fO T5 q).length=64:=kY.out.1.ok.l64 (by rw[kY.out.2.2];exact hqM);have ep:S.T[q]'(by omega)=fO T5 q:=by rw[<-fD.lst_len (by omega),O.out.2.1]
      have qt:∀W,Below wr.heap.size wr W->eB W (some ⟨gt,ot+q*192,none⟩) (xO (fO T5 q)).toList:=λW A j u hj=>by refine⟨gt,ot+q*192,rfl,?_⟩;have e1:=qS j u (by rw[ep,XL qn];exact hj);rw[xn.cell]at e1;rw[(xn.ext A).cell];exact e1
      have xU:=ae O.out.2.2.1;have eq:=ae er;have g3:=ae kX;have en:=ae eo;have eC:=ae qn;have gq:(xO (fO T5 q)).toList.length=192:=by rw[jm,vD,qn]
      have xT:=ae gq;have xA:=ae hP;have xe:=ae qt;clear xQ qS ep er kX eo qn gq hP qt xn ea;go_upto_region 43 with(fail);refine aV 16 [_,_,_,_,_,_,_,_,_,_,_,_,_,.r 13 ((Ke b (ig (fO T5 q)))),_,_] (Gk rfl (Gk rfl (Gf b 1 rfl rfl (Gf b 11 rfl rfl (Gl I.blk (V:=.slice (some ⟨g,off,none⟩) M S.H.cp) (by simp[jI,g3.out,xU.out]) rfl rfl rfl rfl (Gk rfl (Gk rfl (Gk rfl (Gf b 12 rfl rfl (Gl I.blk (V:=.slice (some ⟨gt,ot,none⟩) M S.cb) (by simp[jI,en.out,eq.out]) rfl rfl rfl rfl (Gk rfl (Gr (.pointer (some ⟨gt,ot+q*192,none⟩)) (λρ y W A hZ=>(cO rfl (aL rfl hZ) (aL rfl hZ) hqM underlying96 arr64_size)) rfl rfl (Gr (.agg (xO (fO T5 q))) (λρ y W A hZ=>(bH rfl (aL rfl hZ) (xe.out W A) underlying69 rfl (arr64_size.trans (congrArg some xT.out.symm)))) rfl rfl (ah ?_ (Gr (.pointer (some ⟨g,off+q*10,none⟩)) (λρ y W A hZ=>(cO rfl (aL rfl hZ) (aL rfl hZ) hqM underlying43 space_size)) rfl rfl (Gf g (off+q*10+2) rfl rfl (aI))))))))))))))))) (λ_=>rfl) rfl ?_
      .intro ρ y W D hn A G;have eO:=D 215 12 rfl;have qc:y 12=_:=G 12 rfl;have EF:=eF0 hn λ_=>trivial;refine aO _ _ (aj rfl) (aS rfl (EF _) func38 (by kernel_rfl) (by kernel_rfl) (by simp only[bW,bQ,aZ,eO,qc,EF];rfl)) ?_;refine(Nn (fO T5 q) W eC.out).mono ?_;rintro e w1 ⟨ca,rfl,hO,kW⟩;exact⟨_,rfl,kW,⟨_,rfl,hO.mono (I.below A).bs⟩⟩
      intro y W9 hy hW;have xJ:=hW 13 (by decide);clear hW;obtain⟨cs,gn,qk⟩:∃cs,y 13 = .agg cs/\sG W9 b cs (ig (fO T5 q)):=xJ;obtain⟨v,rfl⟩:=TW qk.sz;rw[gn];have hR:=I.below hy;have hJ:=Y.below hy;clear I Y hy gn;obtain⟨g2,off2,cur,g1,i3,gZ,gU,gv⟩:=hR.setTb xA.out;rw[g3.out]at g1;obtain⟨rfl,rfl⟩:g=g2/\off=off2:=by have:=aM g1;exact⟨congrArg Addr.block this,congrArg Addr.off this⟩
      have qQ:nL b S g:=.inr (by simp[iW,g3.out,oB,Value.ownBlock]);clear g1
      go_wp2_with (refine aB rfl _ _ _ rfl g (off+q*10+2) _ (nT v).toList rfl rfl rfl _ _ gZ (by show off+q*10+2+8<=cur.size;exact gU) (by kernel_rfl) (TS qk.rd) ?_)
      intro w10 q8 gT;have ke:=gv w10 v _ qk q8 gT;have hK:MS w4 b Z w10 { S with H:={ S.H with sp:=S.H.sp.set q { P with ts:=v,tb:=ig (fO T5 q) } } }:=hJ.put gT qQ (λx X => .inl X);have ew:Hid (({ S with H:={ S.H with sp:=S.H.sp.set q { P with ts:=v,tb:=ig (fO T5 q) } } }:MW).H.ma=tabs m5 T5 (q+1)/\S.T=T5/\(S.H.sp.set q { P with ts:=v,tb:=ig (fO T5 q) }).length=M/\OU { S with H:={ S.H with sp:=S.H.sp.set q { P with ts:=v,tb:=ig (fO T5 q) } } }/\S.H.m.fs.length=f/\S.H.dk.blocks.length=ct/\(l=[]->S.l=[])):=ae (by
       obtain⟨q1,q2,q3,q4,q5⟩:=O.out;refine⟨?_,q2,by rw[bL];exact q3,⟨λp hp => ?_,q4.2⟩,q5⟩
       .show MH.ma { S.H with sp:=S.H.sp.set q { P with ts:=v,tb:=ig (fO T5 q) } }=_;rw[OB xA.out,q1];rfl
       rcases lU hp with hp|rfl
       .exact q4.1 p hp
       .exact q4.1 P (bS xA.out))
      clear hR hJ gZ gU gv q8 gT qk O qQ;go_wp2;go_roundw
      case rel=>exact⟨q+1,_,by omega,by go_num,ke,hK,ew⟩
      case measure=>simp[intOf];omega
     have gh:¬(q:Int)<(M:Int):=by omega
     have qm:Hid (S.H.ma=fe m5 T5):=ae (by
      have e:q=m5.sp.length:=by rw[kY.out.2.2];omega
      rw[O.out.1,e];exact SB)
     have kl:Hid (Rt S.H.ma/\Co S.H.ma/\OU S/\S.H.m.fs.length=f/\S.H.dk.blocks.length=ct/\(1<=S.H.sp.length/\S.H.sp.length<=2)/\(l=[]->S.H.ma=xz f s ct/\S.l=[])):=ae (by obtain⟨q1,q2,q3,q4,q5,q6,q7⟩:=O.out;exact⟨by rw[qm.out];exact kY.out.1.rt,by rw[qm.out];exact kY.out.1.co,q4,q5,q6,by omega,λe=>⟨by rw[qm.out];exact qG.out e,q7 e⟩⟩);clear O qm
     by_cases ef:0<f
     .have iw:(0:Int)<(f:Int):=by omega
      go_wp2_with fail
      refine(fV S (f:Int) b b _ I (by omega)).mono ?_;rintro r w11 ⟨x,U,R,J,rfl,kn,kb,X,xM⟩;have kb:=Y.trans kb;clear I Y
      go_wp2_with (refine aB rfl _ _ _ rfl b 2 _ [.int .i64 x] rfl rfl rfl _ _ kn.blk (by show 2+1<=13;omega) (by kernel_rfl) (λu hu=>by cases bB.1 hu;rfl) ?_)
      intro w12 q0 hU;have I:=kn.setH q0 hU;have Y:MS w4 b Z w12 { (S.lst U R J)with H:={ (S.lst U R J).H with m:=⟨(S.lst U R J).H.m.fs,x⟩ } }:=kb.put hU (.inl rfl) (λx X => .inl X);have O:Hid (Rt ({ (S.lst U R J)with H:={ (S.lst U R J).H with m:=⟨(S.lst U R J).H.m.fs,x⟩ } }:MW).H.ma/\Co ({ (S.lst U R J)with H:={ (S.lst U R J).H with m:=⟨(S.lst U R J).H.m.fs,x⟩ } }:MW).H.ma/\OU ({ (S.lst U R J)with H:={ (S.lst U R J).H with m:=⟨(S.lst U R J).H.m.fs,x⟩ } }:MW)/\({ (S.lst U R J)with H:={ (S.lst U R J).H with m:=⟨(S.lst U R J).H.m.fs,x⟩ } }:MW).H.m.fs.length=f/\({ (S.lst U R J)with H:={ (S.lst U R J).H with m:=⟨(S.lst U R J).H.m.fs,x⟩ } }:MW).H.dk.blocks.length=ct/\(1<=({ (S.lst U R J)with H:={ (S.lst U R J).H with m:=⟨(S.lst U R J).H.m.fs,x⟩ } }:MW).H.sp.length/\({ (S.lst U R J)with H:={ (S.lst U R J).H with m:=⟨(S.lst U R J).H.m.fs,x⟩ } }:MW).H.sp.length<=2)/\(l=[]->({ (S.lst U R J)with H:={ (S.lst U R J).H with m:=⟨(S.lst U R J).H.m.fs,x⟩ } }:MW).H.ma=xz f s ct)):=ae (by
       obtain⟨q1,q2,q3,q4,q5,q6,q7⟩:=kl.out;have xN:=(dO _).1 q1.pt.fr;have hh:=Wm q1 q2 (x:=x) ((dO _).2 ⟨xN.1,xN.2.1,X.1,by
        rcases X.2.2 with h|h
        .exact .inr (by show x<(S.H.m.fs.length:Int);omega)
        .exact .inl h⟩)
       refine⟨hh.1,hh.2,q3,q4,q5,q6,λe => ?_⟩;obtain⟨k1,k2⟩:=q7 e;have xL:x=0:=(xM k2).1;subst xL;have k3:S.H.m.hand=0:=by
        have:=congrArg (λm:Ma=>m.m.hand) k1;have e2:(xz f s ct).m.hand=0:=by unfold xz Np;rw[if_pos ⟨⟨by omega,by omega⟩,⟨by omega,by omega⟩,by omega,by omega⟩,if_pos (by omega)]
        exact this.trans e2
       rw[<-k1];show MH.ma { S.H with m:=⟨S.H.m.fs,0⟩ }=MH.ma S.H;have e3:(⟨S.H.m.fs,0⟩:Mem)=S.H.m:=by rw[<-k3]
       rw[e3])
      clear kn kb q0 hU kl X xM;generalize { (S.lst U R J)with H:={ (S.lst U R J).H with m:=⟨(S.lst U R J).H.m.fs,x⟩ } }=S13 at I Y O;skip;have bz:aG w12 w.heap.size (fF noH) 45:=Y.blkN bx4'.out qJ.out;have qb:=ae (Ea xr.out)
      go_wp2_with (first | (refine ay _ _ rfl b 1 rfl rfl _ I.rdM _ underlying45 rfl machine_size ?_) | (refine aA rfl _ _ _ rfl w.heap.size (fF S13.H) rfl rfl _ _ bz rfl machine_size (ku _) ?_))
      intro wE bE gE;have hE:Hid (wV wE w.heap.size S13.H/\Below w.heap.size w wE):=ae ⟨(I.ma.keep bz (by decide) gE).mono (by have:=qb.out;omega),(Gv qW.out (xS.out _ _ Y) (by have:=qb.out;omega) (az _)).grown gE (bi (bi (by omega) kO) Y.size) (λk hk=>by cases hk;exact az _)⟩;clear I Y bz;go_wp2;refine bodyPost_ret (v:=.agg (fF S13.H)) (fG results17 _ _ w.heap.size _ _ _ rfl bE underlying45 rfl machine_size) rfl ?_;obtain⟨q1,q2,q3,q4,q5,q6,q7⟩:=O.out;exact⟨S13.H,rfl,hE.out.1,hE.out.2,q1,q2,q3,by rw[kk.out.1];exact q4,by rw[kk.out.2.2];exact q5,q6,λe=>by rw[kk.out.1,kk.out.2.1,kk.out.2.2];exact q7 e⟩
     have iw:¬(0:Int)<(f:Int):=by omega
     have O:Hid (Rt S.H.ma/\Co S.H.ma/\OU S/\S.H.m.fs.length=f/\S.H.dk.blocks.length=ct/\(1<=S.H.sp.length/\S.H.sp.length<=2)/\(l=[]->S.H.ma=xz f s ct)):=ae ⟨kl.out.1,kl.out.2.1,kl.out.2.2.1,kl.out.2.2.2.1,kl.out.2.2.2.2.1,kl.out.2.2.2.2.2.1,λe=>(kl.out.2.2.2.2.2.2 e).1⟩;clear kl;skip;have bz:aG wr w.heap.size (fF noH) 45:=Y.blkN bx4'.out qJ.out;have qb:=ae (Ea xr.out)
     go_wp2_with (first | (refine ay _ _ rfl b 1 rfl rfl _ I.rdM _ underlying45 rfl machine_size ?_) | (refine aA rfl _ _ _ rfl w.heap.size (fF S.H) rfl rfl _ _ bz rfl machine_size (ku _) ?_))
     intro wE bE gE;have hE:Hid (wV wE w.heap.size S.H/\Below w.heap.size w wE):=ae ⟨(I.ma.keep bz (by decide) gE).mono (by have:=qb.out;omega),(Gv qW.out (xS.out _ _ Y) (by have:=qb.out;omega) (az _)).grown gE (bi (bi (by omega) kO) Y.size) (λk hk=>by cases hk;exact az _)⟩;clear I Y bz;go_wp2;refine bodyPost_ret (v:=.agg (fF S.H)) (fG results17 _ _ w.heap.size _ _ _ rfl bE underlying45 rfl machine_size) rfl ?_;obtain⟨q1,q2,q3,q4,q5,q6,q7⟩:=O.out;exact⟨S.H,rfl,hE.out.1,hE.out.2,q1,q2,q3,by rw[kk.out.1];exact q4,by rw[kk.out.2.2];exact q5,q6,λe=>by rw[kk.out.1,kk.out.2.1,kk.out.2.2];exact q7 e⟩
theorem Oi(fr sl bl:Int)(al:Option Addr)(cl:Nat)(l:List UInt8)(w:World)(d:ve w al cl l.length (l.map CY)) :
  Calls Tryz.prog 17 #[.int .i64 fr,.int .i64 sl,.int .i64 bl,.slice al l.length cl] w (Xn fr sl bl l w):=
 (Fa fr sl bl al cl l w d).mono λr w' ⟨H,h1,h2,h3,h4,h5,h6,h7⟩=>⟨H,h1,h2,h3,h4,h5,λp h=>(h6.1 p h).1,h7⟩
theorem GL{α:Type}(p q:α->Bool)(h:∀x,p x=true->q x=true):∀l:List α,(l.filter p).length<=(l.filter q).length
 | []=>by simp
 | a::l=>by
  have j:=GL p q h l;have d:=h a;rw[ou,ou];cases hp:p a with
  | true=>rw[d hp];simp only[reduceIte,lF];omega
  | false=>simp only[uU,reduceIte];split<;>(try simp only[lF])<;>omega
theorem Jn(f:Nat->Nat)(c:Nat):∀k,(∀p,p<k->f p<=c)->((List.range k).map f).sum<=c*k
 | 0,_=>by simp
 | k+1,h=>by rw[yf,jJ,Iz];have j:=Jn f c k (λp d=>h p (by omega));have h2:=h k (by omega);simp only[bQ,aZ,yh,List.sum_nil];rw[Jy];omega
theorem LZ(p q r:Nat->Bool)(h:∀x,p x=true\/q x=true\/r x=true):∀l:List Nat,l.length<=(l.filter p).length+(l.filter q).length+(l.filter r).length
 | []=>by simp
 | a::l=>by have d:=LZ p q r h l;rw[ou,ou,ou];rcases h a with e|e|e<;>rw[e]<;>simp only[reduceIte,lF]<;>(repeat' split)<;>(try simp only[lF])<;>omega
theorem UB(u:∀p∈H.sp,Xa p.ar H.fi.length 12)(A:H.sp.length<=2):OW H.ma<=24:=by
 unfold OW Km;rw[Aq,tV];have d:∀p,p<H.sp.length->(((List.range 64).filter λn:Nat=>OO (dD H.ma p).ar n).map λn:Nat=>(p,(n:Int))).length<=12:=λp j=>by
  rw[dV,pV (aF j)];refine bi (GL _ (λn:Nat=>(onA (H.sp[p]).ar n).isSome) (λn h => ?_) _) (u _ (eu j)).2;unfold OO at h;have t : (match onA (H.sp[p]).ar n with | some g => !g.sh | none=>false)=true:=h;cases e:onA (H.sp[p]).ar n with
  | none=>rw[e]at t; cases t
  | some g=>rfl
 have:=Jn _ 12 H.sp.length d;exact bi this (by omega)
theorem Vk(h:Vj H.fi):(kJ H.ma.st).length<=10:=by
 rw[Tt,show H.ma.st.fs.length=H.fi.length from dV _];have:=Jn (λf:Nat=>(aN H.ma.st f).b.length) 5 H.fi.length (λf d=>by
  have j:H.ma.st.fs[f]?=some (H.fi[f]).fi:=by show(H.fi.map PF.fi)[f]?=_;rw[iV,aF d];rfl
  rw[iE j];exact h.2 _ (eu d))
 have h2:=h.1;exact bi this (by omega)
theorem Tv(m:Ma):((List.range m.m.fs.length).filter λi=>decide ((aD m i).r=0)).length=pF m.m.fs:=by
 have h:m.m.fs=(List.range m.m.fs.length).map (aD m):=by
  apply nY;intro i;rw[iV]
  by_cases d:i<m.m.fs.length
  .rw[rT d,uW d];rfl
  .rw[eY (by omega),eY (by rw[rJ];omega)];rfl
 unfold pF
 conv=>rhs;rw[h]
 rw[ww,Ah];rfl
theorem Sq(d:Rt H.ma)(u:H.m.fs.length=40)(j:∀p∈H.sp,Xa p.ar H.fi.length 12)(t:Vj H.fi)(h:H.sp.length<=2):2<=pF H.m.fs:=by
 have N:=UB j h;have M:=Vk t;have K:=Vu d;have J:=SH d;have I:=Uv d;have G:=Tv H.ma;have A:=LZ (λi=>decide ((aD H.ma i).r=0)) (λi=>decide ((aD H.ma i).r≠0/\(aD H.ma i).f<0)) (λi=>decide ((aD H.ma i).r≠0/\0<=(aD H.ma i).f)) (λi=>by simp only[decide_eq_true_eq];omega) (List.range H.ma.m.fs.length);rw[rJ]at A;have D:H.ma.m.fs.length=40:=u;have C:pF H.m.fs=pF H.ma.m.fs:=rfl;omega
def Out(H:MH)(p n:Int)(wt:Bool)(cf e:Int):Prop:=
 ((zB H p\/eT H.ma p.toNat n=none)->e=5)/\∀g,¬zB H p->eT H.ma p.toNat n=some g->(wH g wt=false->e=8)/\(wH g wt=true->((fP H.ma p.toNat n).2.2=9->e=9)/\((fP H.ma p.toNat n).2.2≠9->e=0\/e=10/\cf<40))
theorem Sg(h:Tz m){g:Pg}(j:eT m p n=some g):(fP m p n).2.2=9↔0<=g.fi/\vO m p n=none/\¬qK m.st g.fi g.pg:=by
 have u:=h.rt.pt.pg j;rw[VO h.rt j];cases e:vO m p n with
 | some P=>simp
 | none=>
  dsimp only
  by_cases t:g.fi<0
  .rw[if_pos t];constructor
   .intro d;cases d
   .intro d;omega
  rw[if_neg t]
  by_cases d:(m.st.fs.length:Int)<=g.fi\/pq m.st g.fi g.pg=true
  .rw[if_pos d];exact⟨λ_=>⟨by omega,rfl,λA=>nU h.rt.pt.st A d⟩,λ_=>rfl⟩
  rw[if_neg d];constructor
  .intro h2;cases h2
  .intro h2;exact absurd (zV h.rt.pt.st (by omega) u.1 d) h2.2.2
theorem Vm{p:Int}{e:Int}(C:Tz H.ma)(I:40<=cf->2<=pF H.m.fs)(A:VG H.ma (zB H p) p n wt e):Out H p n wt cf e:=by
 have G:40<=cf->e≠10:=λh=>KJ C A (I h);rcases A with⟨d,h2⟩|⟨t,g,j,J⟩
 .refine⟨λ_=>d,λg t j => ?_⟩;rcases h2 with h2|h2
  .exact absurd h2 t
  .rw[h2]at j;cases j
 refine⟨λh => ?_,λg' _ a => ?_⟩
 .rcases h with h|h
  .exact absurd h t
  .rw[h]at j;cases j
 rw[j]at a;cases a;have D:=Sg C j;rcases J with⟨d,h2⟩|⟨h2,⟨d,u⟩|⟨d,_,u⟩⟩
 .exact⟨λ_=>d,λh=>by rw[h2]at h;cases h⟩
 .exact⟨λh=>(by rw[h2]at h;cases h),λ_=>⟨λ_=>d,λh=>absurd (D.2 u) h⟩⟩
 exact⟨λh=>(by rw[h2]at h;cases h),λ_=>⟨λh=>absurd (D.1 h) u,λ_ => .inr ⟨d,by
  refine rV λK=>G (by omega) d⟩⟩⟩
theorem Xu{P:Nat}{g:Pg}{r:Int}(t:¬zB H P)(d:eT H.ma P n=some g)(j:wH g wt=true)(u:Vt H.ma m' P n wt g r):Out H P n wt cf 0:=by
 unfold Out;rw[bu];refine⟨λh => ?_,λg' _ a => ?_⟩
 .rcases h with h|h
  .exact absurd h t
  .rw[h]at d;cases d
 rw[d]at a;cases a;exact⟨λh=>(by rw[j]at h;cases h),λ_=>⟨λh=>(by rw[u.was]at h;cases h),λ_ => .inl rfl⟩⟩
theorem Te{o:Nat}(m:World->Prop)(j:aG w b cur T)(h:∀W,w.grownBy W (some b)->aG W b (cur.setIfInBounds o v) T->m W):m (w.setCell ⟨b,o,none⟩ v):=by
 have d:=aC w b o [v];have h2:aG (w.setCells b o [v]) b (bJ cur o [v]) T:=j.setCells [v] o;exact h _ ⟨d.os,d.tape,d.output,d.size,d.block⟩ h2
theorem LA(f:Fr)(w:World):Calls Tryz.prog 143 #[.agg (tX f)] w λe w'=>e = .returned (.int .i64 (bR f))/\Below w.heap.size w w':=by
 have d:∀W,(Op.equalIn 10000 58 (.agg #[.int .u8 f.p[0].toNat,.int .u8 f.p[1].toNat,.int .u8 f.p[2].toNat,.int .u8 f.p[3].toNat,.int .u8 f.p[4].toNat,.int .u8 f.p[5].toNat,.int .u8 f.p[6].toNat,.int .u8 f.p[7].toNat]) (.agg #[.int .u8 0,.int .u8 0,.int .u8 0,.int .u8 0,.int .u8 0,.int .u8 0,.int .u8 0,.int .u8 0])).run Tryz.prog W = .ok (f.p==zPg) W:=Yg f.p zPg;have b:∀W,(Op.equalIn 9999 58 (.agg #[.int .u8 f.p[0].toNat,.int .u8 f.p[1].toNat,.int .u8 f.p[2].toNat,.int .u8 f.p[3].toNat,.int .u8 f.p[4].toNat,.int .u8 f.p[5].toNat,.int .u8 f.p[6].toNat,.int .u8 f.p[7].toNat]) (.agg #[.int .u8 0,.int .u8 0,.int .u8 0,.int .u8 0,.int .u8 0,.int .u8 0,.int .u8 0,.int .u8 0])).run Tryz.prog W = .ok (f.p==zPg) W:=YB f.p zPg;go_enter func143,ntmps143;unfold tX;cases hp:(f.p==zPg)
 all_goals rw[hp]at d b
 all_goals have a:=ae hp
 all_goals clear hp
 all_goals go_wp2
 all_goals go_ret
 all_goals refine⟨?_,(Below.refl _ _).alloc (az _) _⟩
 all_goals have hp:=a.out
 all_goals clear d b a
 all_goals go_light
 all_goals refine congrArg (λz=>Ending.returned (.int .i64 z)) ?_
 all_goals simp only[bR,Fj,Hr,BG,qy,dW,decide_eq_true_eq,ne_eq,bne_iff_ne]
 all_goals simp_all
 all_goals omega
theorem Kv(m:Mem)(a:Option Addr)(c:Nat)(w:World)(h:Ru w a c m) :
  Calls Tryz.prog 96 #[.agg #[.slice a m.fs.length c,.int .i64 m.hand]] w λe w'=>e = .returned (.int .i64 (bv m))/\Below w.heap.size w w':=by
 have U:=bi h.le h.mx;unfold maxLen at U;go_enter func96,ntmps96;go_upto_region 1 with(fail);refine iG (λW=>Code.wp _ _ _ _ W) λW0 r p v => ?_;clear v;have t:=p.cell
 by_cases M:40<m.fs.length
 .have C:bv m=4:=by unfold bv;rw[if_pos M]
  have z : (40:Int)<(m.fs.length:Int):=by omega
  go_wp2;go_ret;rw[C];exact⟨rfl,r⟩
 have z : ¬(40:Int)<(m.fs.length:Int):=by omega
 go_wp2;clear t
 go_loopw [13] (fun i wr => ∃k:Nat,k<=m.fs.length/\i = .int .i64 k/\Below w.heap.size w wr/\aG wr w.heap.size #[.slice a m.fs.length c,.int .i64 m.hand] 32/\∀i (h:i<m.fs.length),i<k->bR m.fs[i]=0) (fun i _=>m.fs.length-(intOf i).toNat)
 case atStart=>exact⟨0,bq _,rfl,r,p,λi _ h=>absurd h (fq _)⟩
 case round=>
  clear p r;obtain⟨k,Z,rfl,d,I,s⟩:=hrel;have l:=ae s;clear s
  by_cases A:k<m.fs.length
  .obtain⟨b,off,rfl,X⟩:=HY (h.below d).rd k A;obtain⟨c0,c1,c2,c3,c4,c5,c6,c7,c8,c9,ca,cb,cc⟩:=X;have ha:(k:Int)<(m.fs.length:Int):=by omega
   have J:=λw=>LA m.fs[k] w;unfold tX at J
   by_cases D:bR m.fs[k]=0
   .have x:=ae D;rw[D]at J;clear D;go_upto_region 6 with(fail);refine iG (λW=>Code.wp _ _ _ _ W) λw1 g o q => ?_;have f:=ag d g;have u:=I.ext g;clear q d I g;have y:=o.cell
    go_wp2_with fail
    refine (J _).mono ?_;rintro e w2 ⟨rfl,n⟩;go_wp2;go_roundw
    case rel=>exact⟨k+1,by omega,by go_num,ag f n,u.ext n,mM l.out A x.out⟩
    case measure=>simp[intOf];omega
   have C:bv m=bR m.fs[k]:=by have:=firstEf_at _ k A l.out D;unfold bv;rw[if_neg M,this,if_pos D]
   have Y:(bR m.fs[k] != 0)=true:=by simpa using D
   have j:=ae C;clear C;go_upto_region 6 with(fail);refine iG (λW=>Code.wp _ _ _ _ W) λw1 g o q => ?_;have f:=ag d g;clear q d I g;have y:=o.cell
   go_wp2_with fail
   refine(J _).mono ?_;rintro e w2 ⟨rfl,n⟩;go_wp2;go_ret;rw[j.out];exact⟨rfl,ag f n⟩
  have N:firstEf m.fs=0:=firstEf_none _ (λi V=>l.out i V (by omega));have C:bv m=if m.hand<0\/(0<m.hand/\(m.fs.length:Int)<=m.hand)then 3 else 0:=by unfold bv;rw[if_neg M,N];rfl
  have j:=ae C;have t:=I.cell;clear C N
  by_cases G:m.hand=0
  .have O:(m.hand != 0)=false:=by simp[G]
   have K:=ae G;clear G;go_wp2
   all_goals
    go_ret;rw[j.out,if_neg (by have:=K.out;omega)];exact⟨rfl,d⟩
  have O:(m.hand != 0)=true:=by simpa using G
  by_cases R:m.hand<0
  .go_wp2
   all_goals
    go_ret;rw[j.out,if_pos (.inl R)];exact⟨rfl,d⟩
  by_cases Q:(m.fs.length:Int)<=m.hand
  .go_wp2
   all_goals
    go_ret;rw[j.out,if_pos (.inr ⟨by omega,Q⟩)];exact⟨rfl,d⟩
  go_wp2
  all_goals
   go_ret;rw[j.out,if_neg (by omega)];exact⟨rfl,d⟩
def Vh(b:Bool):List Value:=[.bool b]
theorem Jh(b:Bool):(Vh b).length=1:=rfl
theorem bool_info:(Tryz.prog.info? 4).map (λi=>(i.zero,i.size,i.bytes))=some (some (.bool false),1,1):=by kernel_rfl
theorem bool_sz:(Tryz.prog.info? 4).map (·.size)=some 1:=by kernel_rfl
theorem Xk(b:Bool):∀u∈[Value.bool b],u.oneCell' = true:=by intro u d;cases bB.1 d;rfl
theorem XJ{l:List Bool}(h:eB w (some ⟨b,off,none⟩) (l.flatMap Vh))(i:Nat)(x:Bool)(j:l[i]?=some x):w.cell? ⟨b,off+i,none⟩=some (.bool x):=by
 have t:=(cz.1 j).1;obtain⟨A,d,e,u⟩:=h.elem Jh (by decide) i t;cases e;have:=u 0 (.bool x) (by rw[(cz.1 j).2];rfl);simpa using this
theorem La(A:List PF)(k:Int)(a:Option Addr)(c:Nat)(w:World)(h:Mg w a c A)(hk64 : -9223372036854775808<=k/\k<=9223372036854775807) :
  Calls Tryz.prog 99 #[.agg (MJ a A.length c k)] w λr w'=>r = .returned (.int .i64 (aR (cK A k)))/\Below w.heap.size w w':=by
 have kr:=bi h.le h.mx;unfold maxLen at kr;unfold MJ;go_enter func99,ntmps99;go_upto_region 1 with(fail);refine iG (λW=>Code.wp _ _ _ _ W) λW0 hK Y ko => ?_;clear ko
 by_cases M:5<A.length\/k<0\/80<k
 .have d:Hid (aR (cK A k)=4):=ae (by unfold aR cK;rw[if_pos (by simpa using M)]);have U:=Y.cell;have kv : 5<A.length\/(¬5<A.length/\k<0)\/(¬5<A.length/\¬k<0/\80<k):=by omega
  clear M;rcases kv with g|⟨g,g2⟩|⟨g,g2,g3⟩
  all_goals
   go_wp2;go_ret;exact⟨aX d.out.symm,hK⟩
 have m:Hid (aR (cK A k)=pI k (((A.take 0).map PF.fi).flatMap Fi.b) ((A.drop 0).map PF.fi)):=ae (by unfold aR cK;rw[if_neg (by simpa using M)];rfl);have g1:¬5<A.length:=by omega
 have g2:¬k<0:=by omega
 have g3:¬80<k:=by omega
 have U:=Y.cell;clear M;obtain⟨N,hN⟩:∃N:Nat,k=(N:Int):=⟨k.toNat,by omega⟩;subst hN;have ky:N<=80:=by omega
 go_upto_region 4 with(refine GX _ rfl _ _ _ rfl Vh 4 _ 1 1 false Jh (by decide) underlying183 bool_info rfl .i64 .i64 N N N rfl rfl rfl rfl (by omega) (by unfold maxLen;omega) ?_);clear U;intro W1 ki hQ;have hW:Below W0.heap.size W0 W1:=lc hQ;have hE:=ag hK hW;have hR:=Y.ext hW;have hG : Own W1 w.heap.size 4 1 (.slice (some ⟨W0.heap.size,0,none⟩) N N) N ((xw N (((A.take 0).map PF.fi).flatMap Fi.b)).flatMap Vh):=by simp only[List.take_zero,aZ,List.flatMap_nil];rw[SX];exact ki.mono hK.size
 obtain⟨gm,kk⟩:∃g,g=W0.heap.size:=⟨_,rfl⟩;rw[<-kk]at hG ⊢;clear kk hK Y hW ki hQ;have U:=hR.cell;go_upto_region 5 with(fail);clear U
 go_loopw [28] (fun i wr => ∃(q:Nat),q<=A.length/\i = .int .i64 q/\Below w.heap.size w wr/\aG wr w.heap.size #[.slice a A.length c,.int .i64 (N:Int)] 41/\Own wr w.heap.size 4 1 (.slice (some ⟨gm,0,none⟩) N N) N ((xw N (((A.take q).map PF.fi).flatMap Fi.b)).flatMap Vh)/\Hid (aR (cK A N)=pI N (((A.take q).map PF.fi).flatMap Fi.b) ((A.drop q).map PF.fi))) (fun i _=>A.length-(intOf i).toNat)
 case atStart=>exact⟨0,bq _,rfl,hE,hR,hG,m⟩
 case round=>
  clear hE hR hG m;obtain⟨q,hq,rfl,o,K,G,m⟩:=hrel
  by_cases hlt:q<A.length
  .obtain⟨b,off,p,rfl,hp,c0,c1⟩:=xP (h.below o).rd q hlt;have kb:=h.good p (bS hp);have hv:=kb.below o;have hz:=drop_at hp;have hs:=take_at hp;rw[hz,bQ]at m;have hL:=ae hs;clear hz hs;generalize hseen:((A.take q).map PF.fi).flatMap Fi.b=seen at G m;have hg:=ae hseen;clear hseen hp
   go_wp2_with (refine aK rfl _ _ _ rfl (qF p) rfl rfl rfl file_size (rO _) ?_)
   intro w2 hF O;have z:=ag o hF;have h2:=K.ext hF;have kh:=G.below hF;have hi:=hv.below hF;clear o K G hv hF c0 c1;have hU:=O.cell;have f0:(qF p)[0]?=some (.int .i64 p.n):=rfl;have f1:(qF p)[1]?=some (.slice p.a p.l.length p.c):=rfl
   by_cases D:p.n<0\/96<p.n
   .have d:Hid (aR (cK A N)=3):=ae (by rw[m.out,wM,if_pos D]);have kp : p.n<0\/(¬p.n<0/\96<p.n):=by omega
    clear D;rcases kp with g|⟨g,g2⟩
    all_goals
     go_wp2;go_ret;exact⟨aX d.out.symm,z⟩
   have u:Hid (aR (cK A N)=if(p.l.length:Int)≠fw p.n then 2 else if iC N seen p.l≠0 then iC N seen p.l else pI N (seen++p.l) ((A.drop (q+1)).map PF.fi)):=ae (by rw[m.out,wM,if_neg D]);have g4:¬p.n<0:=by omega
   have g5:¬96<p.n:=by omega
   clear D m
   by_cases C:(p.l.length:Int)=fw p.n
   .have t:Hid (aR (cK A N)=if iC N seen p.l≠0 then iC N seen p.l else pI N (seen++p.l) ((A.drop (q+1)).map PF.fi)):=ae (by rw[u.out,if_neg (λhh=>hh C)]);have kw:p.l.length<=12:=by have:=yC (n:=p.n) (by omega);omega
    have hV:=ae C;clear u C;go_upto_region 9 with(fail);refine aV 7 [_,_,_,_,_,.v (.int .i64 (fw p.n)),_] (Gf wr.heap.size 1 rfl rfl (Gl O (V:=.slice p.a p.l.length p.c) (by simp[f1,underlying33]) rfl rfl rfl rfl (Gn rfl rfl rfl rfl (Gf wr.heap.size 0 rfl rfl (Gl O (V:=.int .i64 p.n) (by simp[f0]) rfl rfl rfl rfl (ah ?_ (Gb (.bool false) (by simp[go_sem,hV.out]) rfl rfl rfl rfl rfl (aI))))) (underlying33)))) (λ_=>rfl) rfl ?_
    .intro ρ y W hw hn hb hd;have h0:=hw 44 4 rfl;have M:y 4=_:=hd 4 rfl;have EF:=eF0 hn λ_=>trivial;refine aO _ _ (aj rfl) (aS rfl (EF _) func33 (by kernel_rfl) (by kernel_rfl) (by simp only[bW,bQ,aZ,h0,M,EF];rfl)) ?_;refine(zm p.n W (by omega)).mono ?_;rintro e w1 ⟨rfl,rfl⟩;exact⟨_,rfl,Below.refl _ _,rfl⟩
    intro y WA s _;have hC:=ag z s;have h1:=h2.ext s;have kf:=kh.below s;have kc:=O.ext s;have hI:=hi.below s;clear z h2 kh O hi s hU;have hU:=kc.cell;have km:Hid (iC N seen p.l=iC N (seen++p.l.take 0) (p.l.drop 0)):=ae (by simp);have kj:Own WA w.heap.size 4 1 (.slice (some ⟨gm,0,none⟩) N N) N ((xw N (seen++p.l.take 0)).flatMap Vh):=by simpa using kf
    have kz:=hI.le;have kq:=hI.mx;have hO:=hI.rd;unfold maxLen at kq;clear kf hI;go_upto_region 12 with(fail);clear hU f0 f1 kc
    go_loopw [50] (fun i wr => ∃(j:Nat),j<=p.l.length/\i = .int .i64 j/\Below w.heap.size w wr/\aG wr w.heap.size #[.slice (some ⟨b,off,none⟩) A.length c,.int .i64 (N:Int)] 41/\Own wr w.heap.size 4 1 (.slice (some ⟨gm,0,none⟩) N N) N ((xw N (seen++p.l.take j)).flatMap Vh)/\eB wr p.a (p.l.map gB)/\Hid (iC N seen p.l=iC N (seen++p.l.take j) (p.l.drop j))) (fun i _=>p.l.length-(intOf i).toNat)
    case atStart=>exact⟨0,bq _,rfl,hC,h1,kj,hO,km⟩
    case round=>
     clear hC h1 kj hO km;obtain⟨j,hj,rfl,o,K,G,hS,Q⟩:=hrel
     by_cases hjl:j<p.l.length
     .obtain⟨x,hX⟩:∃x,p.l[j]?=some x:=⟨p.l[j],aF hjl⟩;obtain⟨b2,J,hT,hc⟩:=kD hS j hjl;rw[show p.l[j]=x from(cz.1 hX).2]at hc;have hz:=drop_at hX;have hs:=take_at hX;rw[hz,vL]at Q;rw[hT];generalize hs2:seen++p.l.take j=seen2 at Q G;have hf:Hid (seen++p.l.take (j+1)=seen2++[x]):=ae (by rw[hs,<-jN,hs2]);have h6:=ae hS;have hP:=ae hT;have U:=K.cell;clear hX hz hs hs2 hS hT;have ka : (j:Int)<(p.l.length:Int):=by omega
      by_cases I:x < -1\/(N:Int)<=x
      .have d:Hid (aR (cK A N)=3):=ae (by rw[t.out,Q.out,if_pos I];rfl);have h8 : x < -1\/(¬x < -1/\(N:Int)<=x):=by omega
       clear I;rcases h8 with g6|⟨g6,g7⟩
       all_goals
        go_wp2;go_ret;exact⟨aX d.out.symm,o⟩
      have g6:¬x < -1:=by omega
      have g7:¬(N:Int)<=x:=by omega
      have R:Hid (iC N seen p.l=if 0<=x/\x∈seen2 then 7 else iC N (seen2++[x]) (p.l.drop (j+1))):=ae (by rw[Q.out,if_neg I]);clear Q I
      by_cases Y:x<0
      .have e1:x = -1:=by omega
       have hZ:Hid (iC N seen p.l=iC N (seen++p.l.take (j+1)) (p.l.drop (j+1))):=ae (by rw[R.out,if_neg (by omega),hf.out]);have ku:Own wr w.heap.size 4 1 (.slice (some ⟨gm,0,none⟩) N N) N ((xw N (seen++p.l.take (j+1))).flatMap Vh):=by rw[hf.out,UH _ _ _ Y];exact G
       have h5:eB wr (some ⟨b2,J,none⟩) (p.l.map gB):=by rw[<-hP.out];exact h6.out
       clear R G;go_wp2;go_roundw
       case rel=>exact⟨j+1,by omega,by go_num,o,K,ku,h5,hZ⟩
       case measure=>simp[intOf];omega
      obtain⟨X,ks⟩:∃X:Nat,x=(X:Int):=⟨x.toNat,by omega⟩;subst ks;have hY:X<N:=by omega
      have kx : (X:Int)<(N:Int):=by omega
      obtain⟨_,_,hH,_,_,_,ke⟩:=G.rd;simp only[mK]at hH;obtain⟨rfl,_,rfl⟩:=hH;have hJ:=XJ ke X (decide ((X:Int)∈seen2)) (JA N seen2 X hY);rw[ed]at hJ;clear ke
      by_cases Z:(X:Int)∈seen2
      .have d:Hid (aR (cK A N)=7):=ae (by rw[t.out,R.out,if_pos (show 0<=(X:Int)/\(X:Int)∈seen2 from⟨by omega,Z⟩)];rfl);rw[decide_eq_true Z]at hJ;clear Z R;go_wp2;go_ret;exact⟨aX d.out.symm,o⟩
      have hZ:Hid (iC N seen p.l=iC N (seen++p.l.take (j+1)) (p.l.drop (j+1))):=ae (by rw[R.out,if_neg (λhh=>Z hh.2),hf.out]);rw[decide_eq_false Z]at hJ;clear Z R;obtain⟨g3,off3,cap3,cur3,hH,kl,hA,hy,ht⟩:=oO Jh (by decide) (zR N seen2) G X hY;cases hH
      go_wp2_with (refine aB rfl _ _ _ rfl gm X _ [.bool true] rfl rfl rfl cur3 4 hA (by simpa using hy) bool_sz (Xk true) ?_)
      intro w6 kd hu;have kg:=ht w6 true (by rw[ed,uu];exact kd);rw[Uq _ _ _ hY,<-hf.out]at kg;have hD:=o.grown hu o.size (λk hk=>by cases hk;exact kl);have kn:=bY K hA (by decide) hu;have h3:eB w6 (some ⟨b2,J,none⟩) (p.l.map gB):=by have h9:=kb.rd.below hD;rw[hP.out]at h9;exact h9
      clear o K G hu U hc ht hA kd hJ hy;go_wp2;go_roundw
      case rel=>exact⟨j+1,by omega,by go_num,hD,kn,kg,h3,hZ⟩
      case measure=>simp[intOf];omega
     have d:Hid (aR (cK A N)=pI N (((A.take (q+1)).map PF.fi).flatMap Fi.b) ((A.drop (q+1)).map PF.fi)):=ae (by
      have e0:iC N seen p.l=0:=by rw[Q.out,qX (by omega)];rfl
      rw[t.out,if_neg (λhh=>hh e0),hL.out,jJ,fI,hg.out];simp[PF.fi])
     have kt:Own wr w.heap.size 4 1 (.slice (some ⟨gm,0,none⟩) N N) N ((xw N (((A.take (q+1)).map PF.fi).flatMap Fi.b)).flatMap Vh):=by rw[jD (by omega)]at G;rw[hL.out,jJ,fI,hg.out];simpa[PF.fi]using G
     have ka : ¬(j:Int)<(p.l.length:Int):=by omega
     clear G Q t;go_wp2;go_roundw
     case rel=>exact⟨q+1,by omega,by go_num,o,K,kt,d⟩
     case measure=>simp[intOf];omega
   have d:Hid (aR (cK A N)=2):=ae (by rw[u.out,if_pos C]);have hV:((p.l.length:Int) != fw p.n)=true:=by rw[bne_iff_ne];exact C
   clear u C;go_upto_region 9 with(fail);refine aV 7 [_,_,_,_,_,.v (.int .i64 (fw p.n)),_] (Gf wr.heap.size 1 rfl rfl (Gl O (V:=.slice p.a p.l.length p.c) (by simp[f1,underlying33]) rfl rfl rfl rfl (Gn rfl rfl rfl rfl (Gf wr.heap.size 0 rfl rfl (Gl O (V:=.int .i64 p.n) (by simp[f0]) rfl rfl rfl rfl (ah ?_ (Gb (.bool true) (by simp[go_sem,hV]) rfl rfl rfl rfl rfl (aI))))) (underlying33)))) (λ_=>rfl) rfl ?_
   .intro ρ y W hw hn hb hd;have h0:=hw 44 4 rfl;have M:y 4=_:=hd 4 rfl;have EF:=eF0 hn λ_=>trivial;refine aO _ _ (aj rfl) (aS rfl (EF _) func33 (by kernel_rfl) (by kernel_rfl) (by simp only[bW,bQ,aZ,h0,M,EF];rfl)) ?_;refine(zm p.n W (by omega)).mono ?_;rintro e w1 ⟨rfl,rfl⟩;exact⟨_,rfl,Below.refl _ _,rfl⟩
   intro y WA s _;go_wp2;go_ret;exact⟨aX d.out.symm,ag z s⟩
  have d:Hid (aR (cK A N)=0):=ae (by rw[m.out,qX (by omega)];rfl);go_wp2;go_ret;exact⟨aX d.out.symm,o⟩
theorem KA{s:St}{b:Int}(h:b∈kJ s):iH s b=true:=by
 cases hu:iH s b with
 | true=>rfl
 | false=>exact absurd h (JW hu)
theorem WT{t:Tb}(h:dB t=0)(A:∀n,(dK t n).k=0):t=zTb:=
 Tw h zTb_right λn=>by
  rw[yE];have u:=(bD _).1 (qL h n);have h2:=A n;rcases u with⟨_,j,d⟩|⟨e,_⟩|⟨e,_⟩
  .generalize dK t n=x at *
   obtain⟨a,b,c⟩:=x;simp only at h2 j d;subst h2;subst j;subst d;rfl
  .omega
  .omega
theorem PW(H:MH)(w:World)(h:FK w H)(hR:Rt H.ma) :
  Calls Tryz.prog 52 #[.agg (fF H)] w λr w'=>r = .returned (.int .i64 0)/\Below w.heap.size w w':=by
 have hh:=ae h;have hq:=ae hR;have i:=ae hR.pt;have z1:H.dk.blocks.length<=1000:=(vX hR).dkb;have z2:H.dk.queue.length<=1000:=(vX hR).dkq;clear hR;go_enter func52,ntmps52;go_upto_region 1 with(fail);refine iG (λW=>Code.wp _ _ _ _ W) λw1 hp K hy => ?_;have K:aG w1 w.heap.size (fF H) 45:=K;have h1:=h.below hp;clear h hy;have r1:eB w1 (some ⟨w.heap.size,0,none⟩) [.slice H.af H.m.fs.length H.cf,.int .i64 H.m.hand]:=bF K 0 2
 go_wp2_with (refine ay _ _ rfl w.heap.size 0 rfl rfl _ r1 _ underlying32 rfl mem_size ?_)
 refine(Kv H.m H.af H.cf _ h1.fr).mono ?_;rintro r w2 ⟨rfl,y⟩;rw[show bv H.m=0 from i.out.fr];have h2:=h1.below y;have O:=K.ext y;have hg:=ag hp y;clear h1 K hp y r1;have G:=O.cell;unfold fF at G
 go_wp2_with fail
 refine(Kq H.sl H.asl H.csl _ h2.sl.rd (by have:=h2.sl.le;have:=h2.sl.mx;unfold maxLen at this;omega)).mono ?_;rintro r w2' ⟨rfl,rfl⟩;rw[show dH H.sl=0 from i.out.sl];clear G;have r2:eB w2' (some ⟨w.heap.size,3,none⟩) [.slice H.wb H.sw.blocks.length H.cwb,.slice H.wq H.sw.queue.length H.cwq]:=bF O 3 2
 go_wp2_with (refine ay _ _ rfl w.heap.size 3 rfl rfl _ r2 _ underlying38 rfl disk_size ?_)
 refine(xB H.sw H.wb H.cwb H.wq H.cwq _ h2.sw).mono ?_;rintro r w3 ⟨rfl,x⟩;rw[show bV H.sw=0 from i.out.sw];have h3:=h2.below x;have Y:=O.ext x;have hf:=ag hg x;clear h2 O hg x r2;have r3:eB w3 (some ⟨w.heap.size,5,none⟩) [.slice H.db H.dk.blocks.length H.cdb,.slice H.dq H.dk.queue.length H.cdq]:=bF Y 5 2
 go_wp2_with (refine ay _ _ rfl w.heap.size 5 rfl rfl _ r3 _ underlying38 rfl disk_size ?_)
 refine(xB H.dk H.db H.cdb H.dq H.cdq _ h3.dk).mono ?_;rintro r w4 ⟨rfl,v⟩;rw[show bV H.dk=0 from i.out.dk];have h4:=h3.below v;have V:=Y.ext v;have hd:=ag hf v;clear h3 Y hf v r3;have r4:eB w4 (some ⟨w.heap.size,7,none⟩) [.slice H.ai H.fi.length H.ci,.int .i64 H.ct]:=bF V 7 2
 go_wp2_with (refine ay _ _ rfl w.heap.size 7 rfl rfl _ r4 _ underlying41 rfl store_size ?_)
 refine(La H.fi H.ct H.ai H.ci _ h4.st h4.c64).mono ?_;rintro r w5 ⟨rfl,hn⟩;rw[show aR (cK H.fi H.ct)=0 from i.out.st];have U:=V.ext hn;have hb:=ag hd hn;clear h4 V hd hn r4;have l1:Hid (H.sw.blocks.length=H.sl.length):=ae i.out.swl;have l2:Hid ((H.dk.blocks.length:Int)=H.ct):=ae i.out.dkl;have G:=U.cell;unfold fF at G;rw[<-l2.out,l1.out]at G;go_upto_region 18 with(fail);rw[<-l1.out,l2.out]at G;go_wp2
 go_loopw [68] (fun s68 wr => ∃k:Nat,k<=H.dk.blocks.length/\s68 = .int .i64 k/\Below w.heap.size w wr/\aG wr w.heap.size (fF H) 45) (fun s68 _=>H.dk.blocks.length-(intOf s68).toNat)
 case atStart=>exact⟨0,bq _,rfl,hb,U⟩
 case round=>
  clear hb U G;obtain⟨k,hk,rfl,a,M⟩:=hrel;have I:=hh.out.below a
  by_cases C:k<H.dk.blocks.length
  .obtain⟨bd,od,p,j⟩:=kE nM (by decide) I.dk.rb k C;have l:(k:Int)<(H.dk.blocks.length:Int):=by omega
   have hz:Hid ((k:Int)∈kJ H.ma.st\/H.dk.blocks[k]=zPg):=ae (by
    have:=hq.out.trim.1 k (by omega) (by exact_mod_cast C);rw[bu]at this;have e:H.ma.dk.blocks.getD k zPg=H.dk.blocks[k]:=by show H.dk.blocks.getD k zPg=_;rw[aY,aF C];rfl
    rw[e]at this;exact this)
   generalize H.dk.blocks[k]=P at *
   rw[p]
   go_wp2_with (first | (refine ay _ _ rfl bd (od+k*8) rfl rfl _ j _ underlying58 rfl psize ?_) | (refine aK rfl _ _ _ rfl (eQ P) rfl rfl rfl psize (fM _) ?_))
   intro w6 c A;have d:=ag a c;have D:=M.ext c;have q:=I.below c;clear a M c j I;have r6:eB w6 (some ⟨w.heap.size,7,none⟩) [.slice H.ai H.fi.length H.ci,.int .i64 H.ct]:=bF D 7 2
   go_wp2_with (refine ay _ _ rfl w.heap.size 7 rfl rfl _ r6 _ underlying41 rfl store_size ?_)
   refine(Cg H.fi H.ct k H.ai H.ci _ q.st).mono ?_;rintro r w7 ⟨rfl,b⟩;have g:=ag d b;have N:=D.ext b;have J:=A.ext b;clear d D q A b r6;cases hu:iH (cK H.fi H.ct) (k:Int)with
   | true=>
    clear J;go_wp2;go_roundw
    case rel=>exact⟨k+1,by omega,by go_num,g,N⟩
    case measure=>simp[intOf];omega
   | false=>
    have R:P=zPg:=by
     rcases hz.out with e|e
     .have h9:=KA e;exact absurd (h9.symm.trans hu) (by decide)
     .exact e
    subst R;have f:=J.cell;rw[lit0] at f;have hE:∀W,(Op.equalIn 10000 58 (.agg #[.int .u8 0,.int .u8 0,.int .u8 0,.int .u8 0,.int .u8 0,.int .u8 0,.int .u8 0,.int .u8 0]) (.agg #[.int .u8 0,.int .u8 0,.int .u8 0,.int .u8 0,.int .u8 0,.int .u8 0,.int .u8 0,.int .u8 0])).run Tryz.prog W = .ok true W:=λW=>Yg zPg zPg W;go_wp2;go_roundw
    case rel=>exact⟨k+1,by omega,by go_num,g,N⟩
    case measure=>simp[intOf];omega
  have l:¬(k:Int)<(H.dk.blocks.length:Int):=by omega
  have G:=M.cell;unfold fF at G;clear I;go_wp2
  go_loopw [88] (fun s88 wr => ∃k:Nat,k<=H.dk.queue.length/\s88 = .int .i64 k/\Below w.heap.size w wr/\aG wr w.heap.size (fF H) 45) (fun s88 _=>H.dk.queue.length-(intOf s88).toNat)
  case atStart=>exact⟨0,bq _,rfl,a,M⟩
  case round=>
   clear a M G l;obtain⟨k,hk,rfl,a,M⟩:=hrel;have I:=hh.out.below a
   by_cases C:k<H.dk.queue.length
   .obtain⟨bd,od,p,j⟩:=kE vP (by decide) I.dk.rq k C;have l:(k:Int)<(H.dk.queue.length:Int):=by omega
    have hr:iH (cK H.fi H.ct) (H.dk.queue[k]).1=true:=KA (hq.out.trim.2 _ (eu C));generalize H.dk.queue[k]=X at *
    rw[p]
    go_wp2_with (first | (refine ay _ _ rfl bd (od+k*9) rfl rfl _ j _ underlying105 rfl put_size ?_) | (refine aK rfl _ _ _ rfl (GV X) rfl rfl rfl put_size (Ou _) ?_))
    intro w6 c A;have d:=ag a c;have D:=M.ext c;have q:=I.below c;clear a M c j I;have f:=A.cell;unfold GV at f;have r6:eB w6 (some ⟨w.heap.size,7,none⟩) [.slice H.ai H.fi.length H.ci,.int .i64 H.ct]:=bF D 7 2
    go_wp2_with (refine ay _ _ rfl w.heap.size 7 rfl rfl _ r6 _ underlying41 rfl store_size ?_)
    refine (Cg H.fi H.ct X.1 H.ai H.ci _ q.st).mono ?_;rintro r w7 ⟨rfl,b⟩;have g:=ag d b;have N:=D.ext b;rw[hr];clear d D q A b r6 f hr;go_wp2;go_roundw
    case rel=>exact⟨k+1,by omega,by go_num,g,N⟩
    case measure=>simp[intOf];omega
   have l:¬(k:Int)<(H.dk.queue.length:Int):=by omega
   have G:=M.cell;unfold fF at G;have hG:H.sp.length<=4:=by have:=i.out.spl;rw[tV]at this;exact this
   clear I;go_wp2
   go_loopw [106] (fun s106 wr => ∃k:Nat,k<=H.sp.length/\s106 = .int .i64 k/\Below w.heap.size w wr) (fun s106 _=>H.sp.length-(intOf s106).toNat)
   case atStart=>exact⟨0,bq _,rfl,a⟩
   case round=>
    clear a M G l;obtain⟨k,hk,rfl,a⟩:=hrel;have I:=hh.out.below a
    by_cases C:k<H.sp.length
    .obtain⟨bd,od,P,p,R,j⟩:=rG I.sp.rd k C;have l:(k:Int)<(H.sp.length:Int):=by omega
     have o:=rM I R;have ht:P.sp∈H.ma.sp:=by show P.sp∈H.sp.map PS.sp;exact eU.2 ⟨P,bS R,rfl⟩
     have hF:(bP P.ar).1=0:=i.out.ar P.sp ht;have hs:dB P.tb=0:=i.out.tb P.sp ht;have hm:Hid (P.lv=false->P.ar=[]/\P.tb=zTb):=ae λhl=>by have h9:=hq.out.live k (by rw[pV R];exact hl);rw[pV R]at h9;exact⟨h9.1,WT hs λn=>by have:=h9.2 n;unfold ent at this;rw[pV R]at this;exact this⟩
     rw[p]
     go_wp2_with (first | (refine ay _ _ rfl bd (od+k*10) rfl rfl _ j _ underlying76 rfl space_size ?_) | (refine aK rfl _ _ _ rfl (yX P) rfl rfl rfl space_size (by rw[<-mO,fA];exact o.one) ?_))
     intro w6 c A;have d:=ag a c;have hj:=o.below c;have hA:=hj.ars;have f:=A.cell;unfold yX at f;clear a c j I o
     go_wp2_with fail
     refine(EU P.ar P.aa P.ac _ hA).mono ?_;rintro r w7 ⟨rfl,b⟩;rw[show Kj (bP P.ar)=#[.int .i64 0,.int .i64 (bP P.ar).2]from by unfold Kj;rw[hF]];have g:=ag d b;have hw:=hj.below b;have J:=A.ext b;clear f A d hj b hA
     go_wp2_with (refine aK rfl _ _ _ rfl #[.int .i64 0,.int .i64 (bP P.ar).2] rfl rfl rfl fau_size (nO _ _) ?_)
     intro w8 u Z;have hC:=Z.cell;have ha:=ag g u;have hi:=hw.below u;have Q:=J.ext u;clear g hw J u;have s:eB w8 (some ⟨wr.heap.size,2,none⟩) (nT P.ts).toList:=bF Q 2 8
     go_wp2_with (refine ay _ _ rfl wr.heap.size 2 rfl rfl _ s _ underlying74 tab_agg tab_size ?_)
     refine(LY P.tb (nT P.ts) _ hi.tb).mono ?_;rintro r w9 ⟨rfl,t⟩;rw[hs];have z:=ag ha t;have hB:=hi.below t;have px9:=Q.ext t;clear hC Z ha hi Q t s;have f:=px9.cell;unfold yX at f;cases hlv:P.lv with
     | true=>
      rw[hlv] at f;go_wp2;go_roundw
      case rel=>exact⟨k+1,by omega,by go_num,z⟩
      case measure=>simp[intOf];omega
     | false=>
      obtain⟨e1,e2⟩:=hm.out hlv;have hv:P.ar.length=0:=by rw[e1];rfl
      rw[hlv,hv]at f;have s:eB w9 (some ⟨wr.heap.size,2,none⟩) (nT P.ts).toList:=bF px9 2 8;have hT:Gq w9 (nT P.ts) zTb:=by have:=hB.tb;rw[e2]at this;exact this
      clear hv
      go_wp2_with (refine ay _ _ rfl wr.heap.size 2 rfl rfl _ s _ underlying74 tab_agg tab_size ?_)
      refine (Pp zTb zTb (nT P.ts) (nT nTs) _ hT (Cr _ 0).rd).mono ?_;rintro r wa ⟨rfl,hD⟩;rw[Nw];have hx:=ag z hD;go_wp2;go_roundw
      case rel=>exact⟨k+1,by omega,by go_num,hx⟩
      case measure=>simp[intOf];omega
    have l:¬(k:Int)<(H.sp.length:Int):=by omega
    go_wp2;go_ret;exact⟨rfl,a⟩
theorem CQ{α:Type}(q:α->Bool)(l:List α)(j:Nat)(d:j<l.length):(l.take (j+1)).countP q=(l.take j).countP q+if q l[j]=true then 1 else 0:=by
 rw[nR,aF d,Db];simp[qE]
theorem QS(H:MH)(g:Pg)(e:En)(w:World)(h:FK w H)(hR:Rt H.ma)(hf:Pn H.ma g e)(hk:e.k≠0)(V:eF e=0) :
  Calls Tryz.prog 53 #[.agg (fF H),.agg (wW (some g)),.agg (jy e)] w λr w'=>r = .returned (.int .i64 0)/\Below w.heap.size w w':=by
 have z:=ae hR;have l:=ae hf;clear hR hf;go_enter func53,ntmps53;go_upto_region 1 with(fail);refine Nb (λW=>Code.wp _ _ _ _ W) λw1 i D A C v => ?_;have D:aG w1 w.heap.size (fF H) 45:=D;have A:aG w1 (w.heap.size+1) #[.bool true,.bool g.rd,.bool g.wr,.bool g.sh,.int .i64 g.fi,.int .i64 g.pg] 80:=A;have C:aG w1 (w.heap.size+1+1) #[.int .i64 e.k,.int .i64 e.n,.bool e.w] 68:=C;have h1:=h.below i;clear h v;have Y:=D.cell;unfold fF at Y;have O:=A.cell;have G:=C.cell;have c:=(bD _).1 V
 by_cases U:e.k=2
 .obtain⟨q1,q2⟩:=l.out.sw U;have Q : e.n<(H.sl.length:Int):=q1;rw[U]at G;rw[q2]at O;clear q1 q2 hk c V U;go_wp2;go_ret;exact⟨rfl,i⟩
 have k1:e.k=1:=by omega
 have Q : e.n<(H.m.fs.length:Int):=l.out.lt k1;obtain⟨N,M,K,J,I⟩:=l.out.fr k1;have x:0<=e.n:=by omega
 obtain⟨F,Z⟩:∃F:Nat,e.n=F:=⟨e.n.toNat,by omega⟩;have o:F<H.m.fs.length:=by omega
 obtain⟨bf,of,y,t⟩:=kE fQ (by decide) h1.fr.rd F o;have p:aD H.ma e.n.toNat=H.m.fs[F]:=by rw[Z,bu];unfold aD;show H.m.fs.getD F fr0=_;rw[aY,aF o];rfl
 have j:bR H.m.fs[F]=0:=by rw[<-p,Z,bu];exact z.out.pt.frE (m:=H.ma) o
 rw[p]at N M J I;have ha : -1<=(H.m.fs[F]).f:=by
  unfold bR at j;split at j
  .exact absurd j (by decide)
  rename_i hb;unfold Fj at hb;simp at hb;omega
 generalize H.m.fs[F]=X at *
 rw[k1,Z]at G;rw[y]at Y;have hd:(F:Int)<(H.m.fs.length:Int):=by omega
 clear c V hk U p Q x
 go_wp2_with (first | (refine ay _ _ rfl bf (of+F*13) rfl rfl _ t _ underlying66 rfl frame_size ?_) | (refine aK rfl _ _ _ rfl (tX X) rfl rfl rfl frame_size (oG _) ?_))
 intro w4 d R;have a:=ag i d;have O:=(A.ext d).cell;have G:=(C.ext d).cell;rw[k1]at G;have s:=R.cell;unfold tX at s;clear D A C h1 Y i d t R
 by_cases c1:X.f<0
 .have b:X.f = -1:=by omega
  have u:g.sh=false:=by
   cases hs:g.sh with
   | false=>rfl
   | true=>have:=M hs;omega
  rw[b]at s;rw[u]at O;cases hw:e.w with
  | false=>
   rw[hw]at G
   by_cases c2:0<=g.fi
   .have c3:¬(-1:Int)=g.fi:=by omega
    clear N M K J I b;go_wp2
    all_goals go_ret
    all_goals exact⟨rfl,a⟩
   clear N M K J I b;go_wp2
   all_goals go_ret
   all_goals exact⟨rfl,a⟩
  | true=>
   rw[hw]at G;have h3:=K hw;have h5:=I hw c1;rw[h3]at O
   by_cases c2:0<=g.fi
   .have c3:¬(-1:Int)=g.fi:=by omega
    clear N M K J I b;go_wp2
    all_goals go_ret
    all_goals exact⟨rfl,a⟩
   clear N M K J I b;go_wp2
   all_goals go_ret
   all_goals exact⟨rfl,a⟩
 have q:0<=X.f:=by omega
 obtain⟨p1,p2⟩:=N q;rw[<-p1,<-p2]at O;have c2:(X.f == -1)=false:=by simp;omega
 clear p1 p2;cases hw:e.w with
 | false=>
  rw[hw]at G;clear N M K J I;go_wp2
  all_goals go_ret
  all_goals exact⟨rfl,a⟩
 | true=>
  rw[hw]at G;have h3:=K hw;have h4:=J hw q;rw[h3,h4]at O;clear N M K J I;go_wp2
  all_goals go_ret
  all_goals exact⟨rfl,a⟩
theorem IK{l:List En}(h:l.length=64):xO l=(tL l).toArray:=by
 unfold xO tL;congr 1;have e:l=(List.range 64).map λi=>l.getD i zEn:=by
  apply qZ
  .simp[h]
  intro i d h2;simp[aY,aF d]
 conv=>lhs;rw[e,Eb]
theorem zM(H:MH)(kd k:Int)(w:World)(h:FK w H)(M:Rt H.ma) :
  Calls Tryz.prog 54 #[.agg (fF H),.int .i64 kd,.int .i64 k] w λr w'=>r = .returned (.int .i64 (bO H.ma kd k:Int))/\Below w.heap.size w w':=by
 have hj:=ae M.pt;have hh:=ae h;have hu:H.sp.length<=4:=by have:=M.pt.spl;rw[tV]at this;exact this
 clear M;go_enter func54,ntmps54;go_upto_region 1 with(fail);refine iG (λW=>Code.wp _ _ _ _ W) λw1 R A hg => ?_;have A:aG w1 w.heap.size (fF H) 45:=A;clear h hg;have Q:=A.cell;unfold fF at Q;go_wp2
 go_loopw [15,7] (fun s15 s7 wr => ∃p n:Nat,p<=H.sp.length/\s15 = .int .i64 p/\s7 = .int .i64 n/\n<=64*p/\Below w.heap.size w wr/\Hid (n=((H.sp.take p).map fun s=>(dE s.tb).countP (pW kd k)).sum)) (fun s15 _ _=>H.sp.length-(intOf s15).toNat)
 case atStart=>exact⟨0,0,bq _,rfl,rfl,az _,R,ae (by simp)⟩
 case round=>
  clear R A Q;obtain⟨p,n,hp,rfl,rfl,hn,a,f⟩:=hrel;have I:=hh.out.below a
  by_cases J:p<H.sp.length
  .obtain⟨bd,Z,P,ht,N,v⟩:=rG I.sp.rd p J;have hk:(p:Int)<(H.sp.length:Int):=by omega
   have c:=rM I N;have hf:P.sp∈H.ma.sp:=by show P.sp∈H.sp.map PS.sp;exact eU.2 ⟨P,bS N,rfl⟩
   have hd:dB P.tb=0:=hj.out.tb P.sp hf;have e:Hid (((H.sp.take (p+1)).map λs=>(dE s.tb).countP (pW kd k)).sum=n+(dE P.tb).countP (pW kd k)):=ae (by rw[nR,N,jJ,Iz,<-f.out];simp);rw[ht]
   go_wp2_with (first | (refine ay _ _ rfl bd (Z+p*10) rfl rfl _ v _ underlying76 rfl space_size ?_) | (refine aK rfl _ _ _ rfl (yX P) rfl rfl rfl space_size (by rw[<-mO,fA];exact c.one) ?_))
   intro Y t D;have q:=ag a t;have x:=c.below t;clear a t v I c;have u:eB Y (some ⟨wr.heap.size,2,none⟩) (nT P.ts).toList:=bF D 2 8
   go_wp2_with (refine ay _ _ rfl wr.heap.size 2 rfl rfl _ u _ underlying74 tab_agg tab_size ?_)
   refine(BV P.tb (nT P.ts) _ x.tb hd).mono ?_;rintro r w7 ⟨rfl,U⟩;have o:=ag q U;clear u D x q U;have hr:=yN P.tb;generalize dE P.tb=l at *
   rw[IK hr];go_wp2
   go_loopw [22,7] (fun s22 s7 wr => ∃i m:Nat,i<=64/\s22 = .int .i64 i/\s7 = .int .i64 m/\m<=64*p+i/\Below w.heap.size w wr/\Hid (m=n+(l.take i).countP (pW kd k))) (fun s22 _ _=>64-(intOf s22).toNat)
   case atStart=>exact⟨0,n,bq _,rfl,rfl,by omega,o,ae (by simp)⟩
   case round=>
    clear o hn;obtain⟨i,m,hi,rfl,rfl,hm,a,C⟩:=hrel
    by_cases K:i<64
    .have hq:(i:Int)<64:=by omega
     have j : i<l.length:=by omega
     have d:Hid ((l.take (i+1)).countP (pW kd k)=(l.take i).countP (pW kd k)+if pW kd k l[i]=true then 1 else 0):=ae (CQ _ _ _ j);have V:l.getD i zEn=l[i]:=by rw[aY,aF j];rfl
     generalize l[i]=E at *
     have hl:=Dp l i K E V;clear V
     go_wp2_with (refine aK rfl _ _ _ rfl (jy E) rfl rfl rfl entry_size (by simp[jy,Value.oneCell']) ?_)
     intro w8 z G;have g:=ag a z;have hx:=G.cell;unfold jy at hx;clear hl a z G
     by_cases O:E.k=kd
     .by_cases X:E.n=k
      .have b : Hid (m+1=n+(l.take (i+1)).countP (pW kd k)):=ae (by rw[d.out,if_pos (by unfold pW;simp[O,X]),C.out];omega);clear C d;go_wp2;go_roundw
       case rel=>exact⟨i+1,m+1,by omega,by go_num,by go_num,by omega,g,b⟩
       case measure=>simp[intOf];omega
      have b : Hid (m=n+(l.take (i+1)).countP (pW kd k)):=ae (by rw[d.out,if_neg (by unfold pW;simp[O,X]),C.out];omega);clear C d;go_wp2;go_roundw
      case rel=>exact⟨i+1,m,by omega,by go_num,rfl,by omega,g,b⟩
      case measure=>simp[intOf];omega
     have b : Hid (m=n+(l.take (i+1)).countP (pW kd k)):=ae (by rw[d.out,if_neg (by unfold pW;simp[O]),C.out];omega);clear C d;go_wp2;go_roundw
     case rel=>exact⟨i+1,m,by omega,by go_num,rfl,by omega,g,b⟩
     case measure=>simp[intOf];omega
    have hq:¬(i:Int)<64:=by omega
    have b : Hid (m=((H.sp.take (p+1)).map λs=>(dE s.tb).countP (pW kd k)).sum):=ae (by rw[e.out,C.out,jD (by omega)]);clear C e;go_wp2;go_roundw
    case rel=>exact⟨p+1,m,by omega,by go_num,rfl,by omega,a,b⟩
    case measure=>simp[intOf];omega
  have hk:¬(p:Int)<(H.sp.length:Int):=by omega
  have y:Hid (n=bO H.ma kd k):=ae (by rw[f.out,jD (by omega)];unfold bO MH.ma;rw[List.map_map];rfl);clear f I;go_wp2;go_ret;exact⟨by rw[<-y.out];rfl,a⟩
end Go.Proofs.YthihaopabbpalaaGreat